/- Costs of nets: the contracts of inputs and of control. Conditions: none. -/
import Derived.Test.YtcmblmkbdenakaaGreatDoorC8
import Derived.Test.YtcmblmkbdenakaaGreatDoorNet17
import Derived.Test.YtcmblmkbdenakaaGreatDoorI1
set_option linter.unusedSimpArgs false
set_option linter.unusedVariables false
namespace Go.Proofs.YtcmblmkbdenakaaGreatDoor
open Go
theorem nCs_pure (l : List (Nat × Nat)) : V.pureL (l.map nC) = true:=pureL_map (fun _=>rfl) l
theorem nCs_noG (l : List (Nat × Nat)) : V.noGL (l.map nC) = true:=V.noGL_map (fun _=>rfl) l
def icost (p : Nat × Nat) : Int × Int:=(p.1,p.2)
theorem icost_v (l : List (Nat × Nat)) : (l.map icost).map cV = l.map nC:=by rw [List.map_map]; rfl
theorem icost_c {l : List (Nat × Nat)} (h : ∀ p ∈ l,p.1 ≤ nev∧p.2 ≤ nev) : (l.map icost).map capC = l:=by
 rw [List.map_map]
 conv=>rhs; rw [← List.map_id l]
 refine List.map_congr_left fun p hp=>?_
 have:=h p hp
 simp only [Function.comp,icost,capC,id]
 refine Prod.ext ?_ ?_
 ·show capI _ = _; unfold capI; simp only [nev] at *; omega
 ·show capI _ = _; unfold capI; simp only [nev] at *; omega
def insC (f : Nat→Nat × Nat) (y : Nd) : List (Nat × Nat):=y.i.map fun j=>f j.toNat
def insW (f : Nat→Nat × Nat) (y : Nd) (i : Nat) : List V:=tab y.i.length fun j=>if j < i then nC (f (y.i.getD j 0).toNat) else nC (0,0)
theorem insW_len (f : Nat→Nat × Nat) (y : Nd) (i : Nat) : (insW f y i).length = y.i.length:=by simp [insW]
theorem insW_set (f : Nat→Nat × Nat) (y : Nd) (i : Nat) (hi : i < y.i.length) : (insW f y i).set i (nC (f y.i[i].toNat)) = insW f y (i + 1):=by
 unfold insW
 rw [tab_set]
 congr 1
 funext j
 by_cases h : j = i
 ·subst h
  rw [upd1_same,if_pos (by omega),List.getD_eq_getElem?_getD,List.getElem?_eq_getElem hi]; rfl
 ·rw [upd1_ne _ _ h]
  by_cases h2 : j < i
  ·rw [if_pos h2,if_pos (by omega)]
  ·rw [if_neg h2,if_neg (by omega)]
theorem insW_all (f : Nat→Nat × Nat) (y : Nd) : insW f y y.i.length = (insC f y).map nC:=by
 unfold insW insC
 refine List.ext_getElem (by simp) fun j h1 h2=>?_
 have hj : j < y.i.length:=by simpa using h1
 rw [tab_get,if_pos hj]
 simp [List.getD_eq_getElem?_getD,hj]
theorem insW_at (f : Nat→Nat × Nat) (y : Nd) (i : Nat) (h : i < (insW f y i).length) : (insW f y i)[i] = nC (0,0):=by simp only [insW]; rw [tab_get,if_neg (Nat.lt_irrefl i)]
theorem insW_rep (f : Nat→Nat × Nat) (y : Nd) : List.replicate y.i.length (V.agg [.int .i64 0,.int .i64 0]) = insW f y 0:=by
 refine List.ext_getElem (by simp [insW]) fun j h1 h2=>?_
 simp only [insW]
 rw [tab_get,List.getElem_replicate]
 rfl
def netsC (N : Nat) (f : Nat→Nat × Nat) : List V:=tab N fun i=>nC (f i)
theorem netsC_len (N : Nat) (f : Nat→Nat × Nat) : (netsC N f).length = N:=by simp [netsC]
theorem netsC_pure (N : Nat) (f : Nat→Nat × Nat) : V.pureL (netsC N f) = true:=tab_pure fun _=>rfl
theorem netsC_noG (N : Nat) (f : Nat→Nat × Nat) : V.noGL (netsC N f) = true:=by
 rw [V.noGL_iff]; intro v hv; unfold netsC tab at hv
 obtain ⟨a,_,rfl⟩:=List.mem_map.1 hv; rfl
theorem netsC_at (N : Nat) (f : Nat→Nat × Nat) (i : Nat) (h : i < (netsC N f).length) : (netsC N f)[i] = nC (f i):=by simp only [netsC]; rw [tab_get]
theorem inputs_c (y : Nd) (N : Nat) (f : Nat→Nat × Nat) (cap : Option Nat) (hl : y.i.length < 1000000) (hv : ∀ j ∈ y.i,0 ≤ j∧j < N) : OwnC Tryz.prog gl0 44 [y.v,.sl (netsC N f) cap] (OneB 2 ((insC f y).map nC) (some y.i.length)):=by
 have hyp : y.v.pure = true:=nd_pure y
 refine OwnC.of_W ok44 rfl ?_
 simp [i44,x44,Nd.v]
 intro ga gb
 refine ⟨by omega,?_⟩
 generalize gb 11 = g11
 refine LoopP.of (X:=Nat) (fun i=>[(15,natV i),(14,natV y.i.length),(13,.sl (ints y.i) none),(5,.ref 11 g11 0 y.i.length (some y.i.length)),(1,.sl (netsC N f) cap)])
  (fun i=>[(11,.row g11 2 (insW f y i))]) (fun i=>i ≤ y.i.length) (fun i=>y.i.length - i) 0 (by simp) (by simp [natV]) (by simp [insW_rep f]) ?_
 rintro i q1
 simp [natV]
 refine BrB.of (fun hb=>?_) (fun hb=>?_)
 ·have hi:=of_decide_eq_true hb
  have hw:=wrapN i (by omega)
  obtain ⟨j,hj⟩ : ∃ j,y.i[i] = j:=⟨_,rfl⟩
  have hjv:=hv j (hj ▸ List.getElem_mem hi)
  obtain ⟨q,hq⟩ : ∃ q : Nat,j = q:=⟨j.toNat,by omega⟩
  have h1:=insW_set f y i hi
  rw [hj,hq] at h1
  have h2:=insW_at f y i (by rw [insW_len]; exact hi)
  have hqN : q < N:=by omega
  have h3:=netsC_at N f q (by rw [netsC_len]; exact hqN)
  have h4 : (ints y.i)[i]'(by simpa using hi) = .int .i64 (q : Int):=by simp [ints,hj,hq]
  have e1 : (f q).1 = (f (q : Int).toNat).1:=rfl
  simp only [Int.toNat_natCast] at h1
  simp [hi,h4,insW_len,netsC_len,hqN,h3,h2,nC,natV,hw]
  simp only [nC,natV] at h1
  exact ⟨i + 1,hi,by omega,by rw [h1],by omega⟩
 ·have hi : i = y.i.length:=by have:=of_decide_eq_false hb; omega
  subst hi
  have hall:=insW_all f y
  have hl2 : y.i.length = ((insC f y).map nC).length:=by simp [insC]
  rw [hall]
  simp
  have hp:=nCs_pure (insC f y)
  generalize (insC f y).map nC = R at hl2 hp
  refine .move 11 0 _ (by simp) (by simp; rfl) fun g=>.done ?_
  simp
  exact ⟨[(0,.row g 2 R)],by simp [Blk.rn,map_rn_pure hp],g,by simp [hl2],rfl⟩
end Go.Proofs.YtcmblmkbdenakaaGreatDoor
namespace Go.Proofs.YtcmblmkbdenakaaGreatDoor
open Go
theorem swC_le {k : Nat} {p : Nat × Nat} (h : p.1 ≤ nev∧p.2 ≤ nev) : (swC k p).1 ≤ nev∧(swC k p).2 ≤ nev:=by
 unfold swC; split
 ·exact ⟨h.2,h.1⟩
 ·exact h
theorem gateP_le (k : Nat) (ts : List (Nat × Nat)) : (gateP k ts).1 ≤ nev∧(gateP k ts).2 ≤ nev:=by
 have hn : nev = 1073741824:=rfl
 unfold gateP
 (repeat' split) <;> first | exact ⟨pls_le _ _,pls_le _ _⟩ | exact swC_le ⟨pls_le _ _,pls_le _ _⟩ | (constructor <;> simp only [] <;> omega)
def ctV (c : Ci) (f : Nat→Nat × Nat) (n : Nat) : Nat × Nat:=if (c.nd n).k = 14 then (1,1) else gateP (c.nd n).k.toNat (insC f (c.nd n))
def ctE (c : Ci) (st : Nat→Option (Nat × Nat)) (n : Nat) (f : Nat→Nat × Nat) : Nat × Nat:=(st n).getD (ctV c f n)
def ctL (c : Ci) (st : Nat→Option (Nat × Nat)) (L : List Nat) : Nat→Nat × Nat:=evl (ctE c st) (fun _=>true) L fun _=>(0,0)
theorem ctL_snoc (c : Ci) (st : Nat→Option (Nat × Nat)) (L : List Nat) (n : Nat) : ctL c st (L ++ [n]) = upd1 (ctL c st L) n (ctE c st n (ctL c st L)):=by simp [ctL,evl_snoc]
theorem ctE_le (c : Ci) (st : Nat→Option (Nat × Nat)) (hst : ∀ n p,st n = some p→p.1 ≤ nev∧p.2 ≤ nev) (n : Nat) (f : Nat→Nat × Nat) : (ctE c st n f).1 ≤ nev∧(ctE c st n f).2 ≤ nev:=by
 unfold ctE
 cases hs : st n with
 | some p=>exact hst n p hs
 | none=>
  simp only [Option.getD_none,ctV]
  split
  ·simp only [nev]; omega
  ·exact gateP_le _ _
theorem ctL_le (c : Ci) (st : Nat→Option (Nat × Nat)) (hst : ∀ n p,st n = some p→p.1 ≤ nev∧p.2 ≤ nev) (L : List Nat) (i : Nat) : (ctL c st L i).1 ≤ nev∧(ctL c st L i).2 ≤ nev:=by
 have key : ∀ (L : List Nat) (f : Nat→Nat × Nat),(∀ i,(f i).1 ≤ nev∧(f i).2 ≤ nev)→∀ i,(evl (ctE c st) (fun _=>true) L f i).1 ≤ nev∧(evl (ctE c st) (fun _=>true) L f i).2 ≤ nev:=by
  intro L
  induction L with
  | nil=>exact fun f h=>h
  | cons n L ih=>
   intro f h
   refine ih _ fun i=>?_
   simp only [if_true]
   by_cases hi : i = n
   ·subst hi
    rw [upd1_same]
    exact ctE_le c st hst i f
   ·rw [upd1_ne _ _ hi]; exact h i
 exact key L _ (fun _=>by simp) i
theorem netsC_set (N : Nat) (f : Nat→Nat × Nat) (i : Nat) (p : Nat × Nat) : (netsC N f).set i (nC p) = netsC N (upd1 f i p):=by
 unfold netsC
 rw [tab_set]
 congr 1
 funext j
 by_cases h : j = i
 ·subst h; rw [upd1_same,upd1_same]
 ·rw [upd1_ne _ _ h,upd1_ne _ _ h]
theorem netsC_rep (N : Nat) : List.replicate N (V.agg [.int .i64 0,.int .i64 0]) = netsC N fun _=>(0,0):=by
 refine List.ext_getElem (by simp [netsC]) fun j h1 h2=>?_
 simp only [netsC]
 rw [tab_get,List.getElem_replicate]
 rfl
structure CtS where
 d : Nat
set_option maxRecDepth 100000 in
theorem control_c (c : Ci) (hval : c.val) (hwf : c.wf) (hN : c.n.length < 1000000) (L : List Nat) (cap : Option Nat) (hL : ∀ n ∈ L,n < c.n.length) (hLl : L.length < 1000000) (hil : ∀ y ∈ c.n,y.i.length < 1000000) (hin : ∀ y ∈ c.n,∀ j ∈ y.i,0 ≤ j∧j < c.n.length) (hk : ∀ y ∈ c.n,0 ≤ y.k∧y.k < 256) :
  OwnC Tryz.prog gl0 42 [c.v,.sl (natsV L) cap,.nilmap] (OneB 2 (netsC c.n.length (ctL c (fun _=>none) L)) (some c.n.length)):=by
 refine OwnC.of_W ok42 rfl ?_
 simp [i42,x42]
 intro ga gb
 refine ⟨by omega,?_⟩
 generalize gb 17 = g17
 generalize ga 3 = g3
 refine LoopP.of (X:=CtS) (fun z=>[(20,natV z.d),(19,natV L.length),(18,.sl (natsV L) cap),(7,.ref 17 g17 0 c.n.length (some c.n.length)),(3,.ptr 3 g3 0 0),(2,.nilmap)])
  (fun z=>[(17,.row g17 2 (netsC c.n.length (ctL c (fun _=>none) (L.take z.d)))),(3,.row g3 4 [c.v])]) (fun z=>z.d ≤ L.length) (fun z=>L.length - z.d) ⟨0⟩ (by simp) (by simp [natV]) (by simp [netsC_rep,ctL,evl]) ?_
 rintro ⟨d⟩ q1
 dsimp only at q1 ⊢
 simp [natV]
 refine BrB.of (fun hb=>?_) (fun hb=>?_)
 ·have hi:=of_decide_eq_true hb
  have hw:=wrapN d (by omega)
  obtain ⟨n,hn⟩ : ∃ n,L[d] = n:=⟨_,rfl⟩
  have hnN:=hL n (hn ▸ List.getElem_mem hi)
  obtain ⟨y,hy⟩ : ∃ y,c.n[n] = y:=⟨_,rfl⟩
  have hyc : c.nd n = y:=by rw [c.nd_get hnN,hy]
  have hym : y ∈ c.n:=hy ▸ List.getElem_mem hnN
  have hle:=ctL_le c (fun _=>none) (fun _ _ h=>by cases h) (L.take d)
  have hst : ctL c (fun _=>none) (L.take (d + 1)) = upd1 (ctL c (fun _=>none) (L.take d)) n (ctV c (ctL c (fun _=>none) (L.take d)) n):=by rw [take_snoc _ _ hi,hn,ctL_snoc]; rfl
  generalize ctL c (fun _=>none) (L.take d) = f at hle hst
  have hinp:=inputs_c y c.n.length f (some c.n.length) (hil y hym) (hin y hym)
  obtain ⟨k,hkk⟩ : ∃ k : Nat,y.k = k:=⟨y.k.toNat,by have:=(hk y hym).1; omega⟩
  have hk256 : k < 256:=by have:=(hk y hym).2; omega
  have hctv : ctV c f n = if k = 14 then (1,1) else gateP k (insC f y):=by unfold ctV; rw [hyc,hkk]; simp
  have hnf : (natsV L)[d]'(by simpa using hi) = .int .i64 (n : Int):=by rw [natsV_get]; rw [hn]
  have hfin : (netsC c.n.length f).set n (nC (ctV c f n)) = netsC c.n.length (upd1 f n (ctV c f n)):=netsC_set _ _ _ _
  have hinl : (insC f y).length = y.i.length:=by simp [insC]
  have hinle : ∀ p ∈ insC f y,p.1 ≤ nev∧p.2 ≤ nev:=fun p hp=>by
   obtain ⟨j,-,rfl⟩:=List.mem_map.1 hp
   exact hle _
  simp [hi,hnf,hnN,hy,nop]
  intro ga1
  refine ⟨rfl,fun ga2=>?_⟩
  generalize ga1 10 = g10
  generalize ga2 11 = g11
  refine CallO.dat 1 (OwnC.dat1 hinp (nCs_pure _) (nCs_noG _)) (by
   simp
   rw [if_pos (by rw [netsC_len]; exact Nat.le_refl _),takeR (netsC_pure _ _) (netsC_len _ _).symm]) ?_
  have hip:=nCs_pure (insC f y)
  have hgt:=sgate_c k hk256 ((insC f y).map icost) (some y.i.length) (by rw [List.length_map,hinl]; exact hil y hym)
  rw [icost_c hinle,icost_v] at hgt
  have hun : u8V k = V.int .u8 y.k:=by rw [hkk]; rfl
  rw [hun] at hgt
  simp
  refine BrB.of (fun hb14=>?_) (fun hb14=>?_)
  ·have h14 : k = 14:=by
    rw [hkk] at hb14
    have:=of_decide_eq_true hb14
    omega
   rw [if_pos h14] at hctv
   rw [hctv] at hfin
   have hg14:=sgate_c k hk256 [(0,0)] (some 1) (by simp)
   rw [hun,h14,show gateP 14 (List.map capC [(0,0)]) = (1,1) by decide +kernel] at hg14
   simp
   intro ga3
   refine CallO.borrow 1 hg14 (by simp [cV]) rfl ?_
   simp [nC,natV] at hfin ⊢
   have h3:=netsC_at c.n.length f n (by rw [netsC_len]; exact hnN)
   simp only [nC,natV] at h3
   simp [hnN,netsC_len,h3,hfin,hw]
   exact ⟨⟨d + 1⟩,hi,by simp,by rw [hst,hctv],by dsimp only; omega⟩
  ·have h14 : ¬ k = 14:=by
    rw [hkk] at hb14
    have:=of_decide_eq_false hb14
    omega
   rw [if_neg h14] at hctv
   rw [hctv] at hfin
   simp
   refine CallO.pure hgt (by simp [hip]) ?_
   obtain ⟨⟨z1,z2⟩,hz⟩ : ∃ z,gateP k (insC f y) = z:=⟨_,rfl⟩
   rw [hz] at hfin hctv ⊢
   simp [nC,natV] at hfin ⊢
   have h3:=netsC_at c.n.length f n (by rw [netsC_len]; exact hnN)
   simp only [nC,natV] at h3
   simp [hnN,netsC_len,h3,hfin,hw]
   exact ⟨⟨d + 1⟩,hi,by simp,by rw [hst,hctv],by dsimp only; omega⟩
 ·have hi : d = L.length:=by have:=of_decide_eq_false hb; omega
  subst hi
  rw [List.take_length]
  have hp:=netsC_pure c.n.length (ctL c (fun _=>none) L)
  have hl2 : c.n.length = (netsC c.n.length (ctL c (fun _=>none) L)).length:=(netsC_len _ _).symm
  generalize netsC c.n.length (ctL c (fun _=>none) L) = R at hl2 hp ⊢
  simp
  refine .move 17 0 _ (by simp) (by simp; rfl) fun g=>.done ?_
  simp
  exact ⟨[(0,.row g 2 R)],by simp [Blk.rn,map_rn_pure hp],g,by simp [hl2],rfl⟩
end Go.Proofs.YtcmblmkbdenakaaGreatDoor
