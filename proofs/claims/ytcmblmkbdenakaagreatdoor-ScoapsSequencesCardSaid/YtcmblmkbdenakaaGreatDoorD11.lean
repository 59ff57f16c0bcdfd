/- Costs of nets: the contract of control with a map. Conditions: none. -/
import Derived.Test.YtcmblmkbdenakaaGreatDoorD3
import Derived.Test.YtcmblmkbdenakaaGreatDoorD5
set_option linter.unusedSimpArgs false
set_option linter.unusedVariables false
namespace Go.Proofs.YtcmblmkbdenakaaGreatDoor
open Go
def mapE (S : List Nat) (st : Nat→Nat × Nat) : List (V × V):=S.map fun n : Nat=>(V.int .i64 (n : Int),nC (st n))
def stO (S : List Nat) (st : Nat→Nat × Nat) (n : Nat) : Option (Nat × Nat):=if n ∈ S then some (st n) else none
theorem stO_le (S : List Nat) {st : Nat→Nat × Nat} (h : ∀ n,(st n).1 ≤ nev∧(st n).2 ≤ nev) : ∀ n p,stO S st n = some p→p.1 ≤ nev∧p.2 ≤ nev:=fun n p hp=>by
 unfold stO at hp
 split at hp
 ·cases hp; exact h n
 ·cases hp
theorem findV_map (st : Nat→Nat × Nat) (n : Nat) : ∀ (S : List Nat) (i : Nat),findV (.int .i64 (n : Int)) (mapE S st) i = some (if n ∈ S then some (i + S.idxOf n,nC (st n)) else none)
 | [],i=>by simp [mapE,findV]
 | m :: S,i=>by
  have ih:=findV_map st n S (i + 1)
  unfold mapE at ih ⊢
  simp only [List.map_cons,findV,sameK,decide_true,cond_true]
  by_cases h : n = m
  ·subst h; simp
  ·have h2 : ¬ ((n : Int) = (m : Int)):=by omega
   have h3 : ¬ m = n:=fun e=>h e.symm
   simp only [decide_eq_false h2,ih,List.mem_cons,h,false_or]
   by_cases hS : n ∈ S
   ·rw [if_pos hS,if_pos hS,List.idxOf_cons,show (m == n) = false by simp [h3]]
    simp only [cond_false]
    rw [show i + 1 + List.idxOf n S = i + (List.idxOf n S + 1) by omega]
   ·simp only [if_neg hS]
theorem mapE_set (S : List Nat) (hS : S.Nodup) (st : Nat→Nat × Nat) (n : Nat) (hn : n ∈ S) (p : Nat × Nat) : (mapE S st).set (S.idxOf n) (V.int .i64 (n : Int),nC p) = mapE S (upd1 st n p):=by
 have hi:=List.idxOf_lt_length_of_mem hn
 refine List.ext_getElem (by simp [mapE]) fun j h1 h2=>?_
 have hj : j < S.length:=by simpa [mapE] using h2
 by_cases e : S.idxOf n = j
 ·subst e
  simp only [List.getElem_set_self]
  simp [mapE,upd1_same]
 ·rw [List.getElem_set_ne e]
  have hne : S[j] ≠ n:=fun h=>e (by
   rw [← h]
   exact hS.idxOf_getElem j hj)
  simp [mapE,upd1_ne _ _ hne]
set_option maxRecDepth 100000 in
theorem controlM_c (c : Ci) (hval : c.val) (hN : c.n.length < 1000000) (L : List Nat) (hR : InR c.n.length L) (hk : ∀ y ∈ c.n,0 ≤ y.k∧y.k < 256) (S : List Nat) (st : Nat→Nat × Nat) (hst0 : ∀ n,(st n).1 ≤ nev∧(st n).2 ≤ nev) (g1 g9 g22 : Nat) :
  ICallO Tryz.prog gl0 42 [c.v,.ref 1000 g9 0 c.n.length (some c.n.length),.own 22 g22] [(22,.map g22 (mapE S st)),(1000,.row g9 1 (natsV L)),(1,.row g1 4 [c.v])]
   (fun v h=>∃ g17,v = .ref 17 g17 0 c.n.length (some c.n.length)∧Sub [(17,.row g17 2 (netsC c.n.length (ctL c (stO S st) L))),(22,.map g22 (mapE S st)),(1000,.row g9 1 (natsV L)),(1,.row g1 4 [c.v])] h):=by
 have hil : ∀ y ∈ c.n,y.i.length < 1000000:=fun y hy=>by have:=(val_mem hval hy).1; omega
 have hin : ∀ y ∈ c.n,∀ j ∈ y.i,0 ≤ j∧j < c.n.length:=fun y hy=>(val_mem hval hy).2
 have hL:=hR.lt
 have hLn:=hR.len
 have hLl : L.length < 1000000:=by omega
 have hsO:=stO_le S hst0
 refine CallO.of_W ok42 rfl ?_
 simp [i42,x42]
 intro ga gb
 refine ⟨by omega,?_⟩
 generalize gb 17 = g17
 generalize ga 3 = g3
 refine LoopP.of (X:=CtS) (fun z=>[(20,natV z.d),(19,natV L.length),(18,.ref 1000 g9 0 c.n.length (some c.n.length)),(7,.ref 17 g17 0 c.n.length (some c.n.length)),(3,.ptr 3 g3 0 0),(2,.own 22 g22)])
  (fun z=>[(17,.row g17 2 (netsC c.n.length (ctL c (stO S st) (L.take z.d)))),(3,.row g3 4 [c.v]),(22,.map g22 (mapE S st)),(1000,.row g9 1 (natsV L)),(1,.row g1 4 [c.v])]) (fun z=>z.d ≤ L.length) (fun z=>L.length - z.d) ⟨0⟩ (by simp) (by simp [natV,hLn]) (by simp [netsC_rep,ctL,evl]) ?_
 rintro ⟨d⟩ q1
 dsimp only at q1 ⊢
 simp [natV]
 refine BrB.of (fun hb=>?_) (fun hb=>?_)
 ·have hi:=of_decide_eq_true hb
  have hw:=wrapN d (by omega)
  obtain ⟨n,hn⟩ : ∃ n,L[d] = n:=⟨_,rfl⟩
  have hnN:=hL n (hn ▸ List.getElem_mem hi)
  obtain ⟨y,hy⟩ : ∃ y,c.n[n] = y:=⟨_,rfl⟩
  have hyc : c.nd n = y:=by rw [c.nd_get hnN,hy]
  have hym : y ∈ c.n:=hy ▸ List.getElem_mem hnN
  have hle:=ctL_le c (stO S st) hsO (L.take d)
  have hst : ctL c (stO S st) (L.take (d + 1)) = upd1 (ctL c (stO S st) (L.take d)) n (ctE c (stO S st) n (ctL c (stO S st) (L.take d))):=by rw [take_snoc _ _ hi,hn,ctL_snoc]
  generalize ctL c (stO S st) (L.take d) = f at hle hst
  have hinp:=inputs_c y c.n.length f (some c.n.length) (hil y hym) (hin y hym)
  obtain ⟨k,hkk⟩ : ∃ k : Nat,y.k = k:=⟨y.k.toNat,by have:=(hk y hym).1; omega⟩
  have hk256 : k < 256:=by have:=(hk y hym).2; omega
  have hctv : ctV c f n = if k = 14 then (1,1) else gateP k (insC f y):=by unfold ctV; rw [hyc,hkk]; simp
  have hnf : (natsV L)[d]'(by simpa using hi) = .int .i64 (n : Int):=by rw [natsV_get]; rw [hn]
  have hfin : (netsC c.n.length f).set n (nC (ctV c f n)) = netsC c.n.length (upd1 f n (ctV c f n)):=netsC_set _ _ _ _
  have hinl : (insC f y).length = y.i.length:=by simp [insC]
  have hinle : ∀ p ∈ insC f y,p.1 ≤ nev∧p.2 ≤ nev:=fun p hp=>by
   obtain ⟨j,-,rfl⟩:=List.mem_map.1 hp
   exact hle _
  have hdN : d < c.n.length:=by omega
  have hfm:=findV_map st n S 0
  simp [hdN,hi,hnf,hnN,hy,hfm,nop]
  intro ga1
  refine ⟨rfl,?_⟩
  by_cases hnS : n ∈ S
  ·have he : ctE c (stO S st) n f = st n:=by unfold ctE stO; rw [if_pos hnS]; rfl
   rw [he] at hst
   have hfin2 : (netsC c.n.length f).set n (nC (st n)) = netsC c.n.length (upd1 f n (st n)):=netsC_set _ _ _ _
   have h3:=netsC_at c.n.length f n (by rw [netsC_len]; exact hnN)
   simp only [nC,natV] at h3 hfin2
   simp [hnS,nC,natV,hnN,netsC_len,h3,hfin2,hw]
   exact ⟨⟨d + 1⟩,by dsimp only; omega,by simp,by rw [hst],by dsimp only; omega⟩
  have he : ctE c (stO S st) n f = ctV c f n:=by unfold ctE stO; rw [if_neg hnS]; rfl
  rw [he] at hst
  simp [hnS]
  intro ga2
  generalize ga1 10 = g10
  generalize ga2 11 = g11
  refine CallO.dat 1 (OwnC.dat1 hinp (nCs_pure _) (nCs_noG _)) (by
   simp
   rw [if_pos (by rw [netsC_len]; exact Nat.le_refl _),takeR (netsC_pure _ _) (netsC_len _ _).symm]) ?_
  have hip:=nCs_pure (insC f y)
  have hgt:=sgate_c k hk256 ((insC f y).map icost) (some y.i.length) (by rw [List.length_map,hinl]; exact hil y hym)
  rw [icost_c hinle,icost_v] at hgt
  have hun : u8V k = V.int .u8 y.k:=by rw [hkk]; rfl
  rw [hun] at hgt
  simp
  refine BrB.of (fun hb14=>?_) (fun hb14=>?_)
  ·have h14 : k = 14:=by
    rw [hkk] at hb14
    have:=of_decide_eq_true hb14
    omega
   rw [if_pos h14] at hctv
   rw [hctv] at hfin
   have hg14:=sgate_c k hk256 [(0,0)] (some 1) (by simp)
   rw [hun,h14,show gateP 14 (List.map capC [(0,0)]) = (1,1) by decide +kernel] at hg14
   simp
   intro ga3
   refine CallO.borrow 1 hg14 (by simp [cV]) rfl ?_
   simp [nC,natV] at hfin ⊢
   have h3:=netsC_at c.n.length f n (by rw [netsC_len]; exact hnN)
   simp only [nC,natV] at h3
   simp [hnN,netsC_len,h3,hfin,hw]
   exact ⟨⟨d + 1⟩,hi,by simp,by rw [hst,hctv],by dsimp only; omega⟩
  ·have h14 : ¬ k = 14:=by
    rw [hkk] at hb14
    have:=of_decide_eq_false hb14
    omega
   rw [if_neg h14] at hctv
   rw [hctv] at hfin
   simp
   refine CallO.pure hgt (by simp [hip]) ?_
   obtain ⟨⟨z1,z2⟩,hz⟩ : ∃ z,gateP k (insC f y) = z:=⟨_,rfl⟩
   rw [hz] at hfin hctv ⊢
   simp [nC,natV] at hfin ⊢
   have h3:=netsC_at c.n.length f n (by rw [netsC_len]; exact hnN)
   simp only [nC,natV] at h3
   simp [hnN,netsC_len,h3,hfin,hw]
   exact ⟨⟨d + 1⟩,hi,by simp,by rw [hst,hctv],by dsimp only; omega⟩
 ·have hi : d = L.length:=by have:=of_decide_eq_false hb; omega
  subst hi
  rw [List.take_length]
  generalize netsC c.n.length (ctL c (stO S st) L) = R
  simp
  exact .done ⟨[(17,Blk.row g17 2 R),(22,Blk.map g22 (mapE S st)),(1000,Blk.row g9 1 (natsV L)),(1,Blk.row g1 4 [c.v])],by simp,g17,rfl,by simp,by simp,by simp,by simp⟩
end Go.Proofs.YtcmblmkbdenakaaGreatDoor
namespace Go.Proofs.YtcmblmkbdenakaaGreatDoor
open Go
def leP (p q : Nat × Nat) : Prop:=p.1 ≤ q.1∧p.2 ≤ q.2
def incP (p : Nat × Nat) : Nat × Nat:=(pls p.1 1,pls p.2 1)
theorem incP_le (p : Nat × Nat) : (incP p).1 ≤ nev∧(incP p).2 ≤ nev:=⟨pls_le _ _,pls_le _ _⟩
theorem incP_mono {p q : Nat × Nat} (h : leP p q) : leP (incP p) (incP q):=⟨pls_mono h.1 (Nat.le_refl _),pls_mono h.2 (Nat.le_refl _)⟩
theorem leP_refl (p : Nat × Nat) : leP p p:=⟨Nat.le_refl _,Nat.le_refl _⟩
theorem leP.trans {p q r : Nat × Nat} (h : leP p q) (k : leP q r) : leP p r:=⟨Nat.le_trans h.1 k.1,Nat.le_trans h.2 k.2⟩
theorem leT_len : ∀ {ts us : List (Nat × Nat)},leT ts us→ts.length = us.length
 | [],[],_=>rfl
 | _ :: _,_ :: _,h=>by simp [leT_len h.2.2]
theorem gateP_mono (k : Nat) {ts us : List (Nat × Nat)} (h : leT ts us) : leP (gateP k ts) (gateP k us):=by
 have hl:=leT_len h
 by_cases hf : (decide (k ≤ 15) && widB k ts.length) = true
 ·simp only [Bool.and_eq_true,decide_eq_true_eq] at hf
  rw [gate_eq k ts (by omega) hf.2,gate_eq k us (by omega) (by rw [← hl]; exact hf.2)]
  exact gateD_mono k h
 ·have hf2 : (decide (k ≤ 15) && widB k ts.length) = false:=by simpa using hf
  have h1 : gateP k ts = (nev,nev):=by unfold gateP; rw [if_pos hf2]
  have h2 : gateP k us = (nev,nev):=by unfold gateP; rw [← hl,if_pos hf2]
  rw [h1,h2]; exact leP_refl _
theorem insC_mono {f g : Nat→Nat × Nat} (h : ∀ i,leP (f i) (g i)) (y : Nd) : leT (insC f y) (insC g y):=by
 unfold insC
 generalize y.i = l
 induction l with
 | nil=>exact trivial
 | cons a r ih=>exact ⟨(h _).1,(h _).2,ih⟩
theorem ctE_mono (c : Ci) (S : List Nat) {st st' : Nat→Nat × Nat} (hs : ∀ n,leP (st n) (st' n)) {f g : Nat→Nat × Nat} (h : ∀ i,leP (f i) (g i)) (n : Nat) : leP (ctE c (stO S st) n f) (ctE c (stO S st') n g):=by
 unfold ctE stO
 by_cases hn : n ∈ S
 ·rw [if_pos hn,if_pos hn]; exact hs n
 ·rw [if_neg hn,if_neg hn]
  simp only [Option.getD_none]
  unfold ctV
  split
  ·exact leP_refl _
  ·exact gateP_mono _ (insC_mono h _)
theorem ctL_mono (c : Ci) (S : List Nat) {st st' : Nat→Nat × Nat} (hs : ∀ n,leP (st n) (st' n)) (L : List Nat) (i : Nat) : leP (ctL c (stO S st) L i) (ctL c (stO S st') L i):=by
 have key : ∀ (L : List Nat) (f g : Nat→Nat × Nat),(∀ i,leP (f i) (g i))→∀ i,leP (evl (ctE c (stO S st)) (fun _=>true) L f i) (evl (ctE c (stO S st')) (fun _=>true) L g i):=by
  intro L
  induction L with
  | nil=>exact fun f g h=>h
  | cons n L ih=>
   intro f g h
   refine ih _ _ fun i=>?_
   simp only [if_true]
   by_cases hi : i = n
   ·subst hi; rw [upd1_same,upd1_same]; exact ctE_mono c S hs h i
   ·rw [upd1_ne _ _ hi,upd1_ne _ _ hi]; exact h i
 exact key L _ _ (fun _=>leP_refl _) i
def stSum (st : Nat→Nat × Nat) : List Nat→Nat
 | []=>0
 | n :: S=>(st n).1 + (st n).2 + stSum st S
theorem stSum_le {st st' : Nat→Nat × Nat} (h : ∀ n,leP (st n) (st' n)) : ∀ S,stSum st S ≤ stSum st' S
 | []=>Nat.le_refl _
 | n :: S=>by
  have:=stSum_le h S
  have:=h n
  unfold leP at this
  simp only [stSum]; omega
theorem stSum_lt {st st' : Nat→Nat × Nat} (h : ∀ n,leP (st n) (st' n)) {m : Nat} (hm : st m ≠ st' m) : ∀ {S : List Nat},m ∈ S→stSum st S < stSum st' S
 | n :: S,hS=>by
  have h1:=stSum_le h S
  have h2:=h n
  unfold leP at h2
  simp only [stSum]
  by_cases e : m = n
  ·subst e
   have h3:=h m
   unfold leP at h3
   have : ¬ ((st m).1 = (st' m).1∧(st m).2 = (st' m).2):=fun q=>hm (Prod.ext q.1 q.2)
   omega
  ·rcases List.mem_cons.1 hS with q | q
   ·exact absurd q e
   ·have:=stSum_lt h hm q
    omega
structure SqI (c : Ci) (L S : List Nat) (st : Nat→Nat × Nat) : Prop where
 le : ∀ n,(st n).1 ≤ nev∧(st n).2 ≤ nev
 up : ∀ n ∈ S,leP (incP (ctL c (stO S st) L (dnN c n))) (st n)
theorem SqI.start (c : Ci) (L S : List Nat) : SqI c L S fun _=>(nev,nev):=⟨fun _=>⟨Nat.le_refl _,Nat.le_refl _⟩,fun _ _=>incP_le _⟩
theorem SqI.step {c : Ci} {L S : List Nat} {st : Nat→Nat × Nat} (h : SqI c L S st) {m : Nat} (hm : m ∈ S) (hne : incP (ctL c (stO S st) L (dnN c m)) ≠ st m) :
  SqI c L S (upd1 st m (incP (ctL c (stO S st) L (dnN c m))))∧stSum (upd1 st m (incP (ctL c (stO S st) L (dnN c m)))) S < stSum st S:=by
 have hle : ∀ n,leP (upd1 st m (incP (ctL c (stO S st) L (dnN c m))) n) (st n):=fun n=>by
  by_cases e : n = m
  ·subst e; rw [upd1_same]; exact h.up n hm
  ·rw [upd1_ne _ _ e]; exact leP_refl _
 refine ⟨⟨fun n=>⟨Nat.le_trans (hle n).1 (h.le n).1,Nat.le_trans (hle n).2 (h.le n).2⟩,fun n hn=>?_⟩,stSum_lt hle (m:=m) (by rw [upd1_same]; exact hne) hm⟩
 have hmo:=incP_mono (ctL_mono c S hle L (dnN c n))
 by_cases e : n = m
 ·subst e
  rw [upd1_same]
  exact hmo
 ·rw [upd1_ne _ _ e]
  exact hmo.trans (h.up n hn)
theorem ids_ge (k : Int) : ∀ (l : List Nd) (i x : Nat),x ∈ ids k l i→i ≤ x
 | [],_,_,h=>by simp [ids] at h
 | n :: r,i,x,h=>by
  simp only [ids] at h
  split at h
  ·rcases List.mem_cons.1 h with rfl | h
   ·exact Nat.le_refl _
   ·have:=ids_ge k r (i + 1) x h; omega
  ·have:=ids_ge k r (i + 1) x h; omega
theorem ids_nodup (k : Int) : ∀ (l : List Nd) (i : Nat),(ids k l i).Nodup
 | [],_=>List.nodup_nil
 | n :: r,i=>by
  simp only [ids]
  split
  ·exact List.nodup_cons.2 ⟨fun h=>by have:=ids_ge k r (i + 1) i h; omega,ids_nodup k r (i + 1)⟩
  ·exact ids_nodup k r (i + 1)
end Go.Proofs.YtcmblmkbdenakaaGreatDoor
namespace Go.Proofs.YtcmblmkbdenakaaGreatDoor
open Go
def SeqK (c : Ci) (v : V) (h : Hp) : Prop:=(chkE c ≠ 0∧v = .tup [.nil,.int .i64 (chkE c)]∧h = [])∨
 (chkE c = 0∧∃ g st L,v = .tup [.ref 0 g 0 c.n.length (some c.n.length),.int .i64 0]∧h = [(0,.row g 2 (netsC c.n.length (ctL c (stO (ids 14 c.n 0) st) L)))]∧InR c.n.length L∧(c.n.length ≤ 20→Ord c L)∧
  (∀ n,(st n).1 ≤ nev∧(st n).2 ≤ nev)∧∀ n ∈ ids 14 c.n 0,st n = incP (ctL c (stO (ids 14 c.n 0) st) L (dnN c n)))
structure SqS where
 st : Nat→Nat × Nat
structure SqJ where
 seen : List Nat
set_option maxRecDepth 100000 in
theorem Sequential_c (c : Ci) (hwf : c.wf) : OwnC Tryz.prog gl0 19 [c.v] (SeqK c):=by
 refine OwnC.of_W ok19 rfl ?_
 simp [i19,x19]
 intro ga
 generalize ga 1 = g1
 refine CallO.own 1000 (order_c c hwf) (by simp) (by simp) ?_
 rintro v h (⟨h1,rfl,rfl⟩ | ⟨h0,g,L,rfl,rfl,hR,hpw⟩) gf
 ·simp [h1]
  exact .done ⟨[],by simp,.inl ⟨h1,rfl,rfl⟩⟩
 obtain ⟨hsh,hac⟩:=chk_sh h0
 have hval:=sh_val hwf hsh
 obtain ⟨hlen,-,-,hol⟩:=sh_len hsh
 simp [upH,upS,Blk.rn,map_rn_pure (natsV_pure L)]
 generalize gf 1000 + g = g9
 have hLl : L.length = c.n.length:=hR.len
 have hstt:=statesP_c c (by omega)
 rw [ofLs_ids] at hstt
 have hdff : ∀ s ∈ ids 14 c.n 0,∃ h : s < c.n.length,c.n[s].i = [(dnN c s : Int)]∧dnN c s < c.n.length:=fun s hs=>dff_in hwf hsh hs
 have hSl:=cnt_le 14 c.n
 have hSl2 : (ids 14 c.n 0).length = cnt 14 c.n:=rfl
 have hSn:=ids_nodup 14 c.n 0
 have fin : ∀ g st,SqI c L (ids 14 c.n 0) st→(∀ n ∈ ids 14 c.n 0,st n = incP (ctL c (stO (ids 14 c.n 0) st) L (dnN c n)))→SeqK c (.tup [.ref 0 g 0 c.n.length (some c.n.length),.int .i64 0]) [(0,.row g 2 (netsC c.n.length (ctL c (stO (ids 14 c.n 0) st) L)))]:=
  fun g st hI hf=>.inr ⟨h0,g,st,L,rfl,rfl,hR,fun h20=>⟨hR,hpw h20⟩,hI.le,hf⟩
 intro gb
 simp [nop]
 generalize gb 22 = g22
 refine CallO.pure hstt (by simp) ?_
 generalize ids 14 c.n 0 = S at hdff hSl2 hSn fin ⊢
 simp
 refine LoopP.of (X:=Nat) (fun i=>[(26,natV i),(25,natV S.length),(24,.sl (natsV S) (some S.length)),(6,.own 22 g22),(4,.ref 1000 g9 0 c.n.length (some c.n.length)),(1,.ptr 1 g1 0 0)])
  (fun i=>[(22,.map g22 (mapE (S.take i) fun _=>(nev,nev))),(1000,.row g9 1 (natsV L)),(1,.row g1 4 [c.v])])
  (fun i=>i ≤ S.length) (fun i=>S.length - i) 0 (by omega) (by simp [natV]) (by simp [mapE]) ?_
 intro i hi
 simp [natV]
 refine BrB.of (fun hb=>?_) (fun hb=>?_)
 ·have hi':=of_decide_eq_true hb
  have hw:=wrapN i (by omega)
  obtain ⟨s,hs⟩ : ∃ s,S[i] = s:=⟨_,rfl⟩
  have hnot : s ∉ S.take i:=fun hm=>by
   have h2:=hSn
   rw [← List.take_append_drop i S,List.drop_eq_getElem_cons hi',hs,List.nodup_append] at h2
   exact h2.2.2 s hm s (by simp) rfl
  have hfv:=findV_map (fun _=>(nev,nev)) s (S.take i) 0
  rw [if_neg hnot] at hfv
  have h4 : (natsV S)[i]'(by simpa using hi') = .int .i64 (s : Int):=by rw [natsV_get]; rw [hs]
  have hnx : mapE (S.take (i + 1)) (fun _=>(nev,nev)) = mapE (S.take i) (fun _=>(nev,nev)) ++ [(V.int .i64 (s : Int),nC (nev,nev))]:=by unfold mapE; rw [take_snoc _ _ hi',hs,List.map_append]; rfl
  simp [hi',h4,hfv,gl0,hw,nop,keyFits]
  exact ⟨i + 1,hi',by simp,hnx.symm,by omega⟩
 have hi' : i = S.length:=by have:=of_decide_eq_false hb; omega
 subst hi'
 rw [List.take_length]
 simp
 refine LoopP.of (X:=SqS) (fun z=>[(6,.own 22 g22),(4,.ref 1000 g9 0 c.n.length (some c.n.length)),(1,.ptr 1 g1 0 0)])
  (fun z=>[(22,.map g22 (mapE S z.st)),(1000,.row g9 1 (natsV L)),(1,.row g1 4 [c.v])])
  (fun z=>SqI c L S z.st) (fun z=>stSum z.st S) ⟨fun _=>(nev,nev)⟩ (SqI.start c L S) (by simp) (by simp) ?_
 rintro ⟨st⟩ hI
 dsimp only at hI ⊢
 simp
 refine CallO.weaken (h2:=[(22,.map g22 (mapE S st)),(1000,.row g9 1 (natsV L)),(1,.row g1 4 [c.v])]) (by simp) (CallO.mono (controlM_c c hval (by omega) L hR hwf.k S st hI.le g1 g9 g22) ?_)
 rintro v h ⟨g17,rfl,hh⟩
 have hFle:=ctL_le c (stO S st) (stO_le S hI.le) L
 have hstep:=fun m hm hne=>hI.step (m:=m) hm hne
 have hfin:=fun g hf=>fin g st hI hf
 generalize ctL c (stO S st) L = F at hh hFle hstep hfin ⊢
 have hFp:=netsC_pure c.n.length F
 simp at hh
 obtain ⟨k17,k22,k1000,k1⟩:=hh
 have hml : (mapE S st).length = S.length:=by simp [mapE]
 simp [k22,nop]
 intro gc
 generalize gc 39 = g39
 refine LoopP.of (X:=SqJ) (fun z=>[(39,.own 39 g39),(9,.ref 17 g17 0 c.n.length (some c.n.length)),(6,.own 22 g22),(4,.ref 1000 g9 0 c.n.length (some c.n.length)),(1,.ptr 1 g1 0 0)])
  (fun z=>[(39,.miter g39 (.own 22 g22) S.length z.seen),(17,.row g17 2 (netsC c.n.length F)),(22,.map g22 (mapE S st)),(1000,.row g9 1 (natsV L)),(1,.row g1 4 [c.v])])
  (fun z=>z.seen.Nodup∧∀ i ∈ z.seen,∃ h : i < S.length,st S[i] = incP (F (dnN c S[i]))) (fun z=>S.length - z.seen.length) ⟨[]⟩ (by simp) (by simp) (by simp [k17,k22,k1000,k1,hml]) ?_
 rintro ⟨seen⟩ ⟨hs1,hs2⟩
 dsimp only at hs1 hs2 ⊢
 simp [hml]
 refine ⟨fun hall=>?_,fun i hi hni=>?_⟩
 ·have hall2 : ∀ n ∈ S,st n = incP (F (dnN c n)):=fun n hn=>by
   obtain ⟨i,hi,rfl⟩:=List.getElem_of_mem hn
   obtain ⟨_,h⟩:=hs2 i (hall i hi)
   exact h
  have hl2:=netsC_len c.n.length F
  refine .move 17 0 _ (by simp) (by simp; rfl) fun g=>.done ?_
  simp
  exact ⟨[(0,.row g 2 (netsC c.n.length F))],by simp [Blk.rn,map_rn_pure hFp],hfin g hall2⟩
 ·obtain ⟨s,hs⟩ : ∃ s,S[i] = s:=⟨_,rfl⟩
  obtain ⟨hsN,hsi,hq⟩:=hdff s (hs ▸ List.getElem_mem hi)
  have hsS : s ∈ S:=hs ▸ List.getElem_mem hi
  obtain ⟨y,hy⟩ : ∃ y,c.n[s] = y:=⟨_,rfl⟩
  rw [hy] at hsi
  have hst:=hstep s hsS
  have hnew : st s = incP (F (dnN c s))→(seen ++ [i]).Nodup∧∀ j ∈ seen ++ [i],∃ h : j < S.length,st S[j] = incP (F (dnN c S[j])):=fun he=>⟨by
   rw [List.nodup_append]
   exact ⟨hs1,by simp,fun a ha b hb e=>hni (by simp at hb; rw [← hb,← e]; exact ha)⟩,fun j hj=>by
   rcases List.mem_append.1 hj with h | h
   ·exact hs2 j h
   ·simp at h; subst h; exact ⟨hi,by rw [hs]; exact he⟩⟩
  have hent : (mapE S st)[i]'(by rw [hml]; exact hi) = (V.int .i64 (s : Int),nC (st s)):=by simp [mapE,hs]
  have hfv:=findV_map st s S 0
  rw [if_pos hsS] at hfv
  have hset:=fun p=>mapE_set S hSn st s hsS p
  obtain ⟨q,hqq⟩ : ∃ q,dnN c s = q:=⟨_,rfl⟩
  rw [hqq] at hsi hq hst hnew
  have h3:=netsC_at c.n.length F q (by rw [netsC_len]; exact hq)
  have hle:=hFle q
  obtain ⟨⟨d0,d1⟩,hd⟩ : ∃ d,F q = d:=⟨_,rfl⟩
  obtain ⟨⟨o0,o1⟩,ho⟩ : ∃ o,st s = o:=⟨_,rfl⟩
  rw [hd] at hle h3 hst hnew
  rw [ho] at hent hnew hst hfv
  dsimp only [incP] at hle hst hnew
  have p1:=plus_c d0 1 (by simp only [nev] at hle; omega) (by omega)
  have p2:=plus_c d1 1 (by simp only [nev] at hle; omega) (by omega)
  simp only [natV,nC] at p1 p2 h3 hent hset hfv
  simp [nop,hent,hml,hi,hsN,hy,Nd.v,hsi,ints,hq,netsC_len,h3]
  intro ga1 ga2
  intro gm
  first | refine ⟨_,_,_,.pure p1 (by simp),?_⟩ | refine ⟨_,⟨_,_,.pure p1 (by simp)⟩,?_⟩ | refine ⟨_,_,⟨_,.pure p1 (by simp)⟩,?_⟩
  simp
  first | refine ⟨_,_,_,.pure p2 (by simp),?_⟩ | refine ⟨_,⟨_,_,.pure p2 (by simp)⟩,?_⟩ | refine ⟨_,_,⟨_,.pure p2 (by simp)⟩,?_⟩
  simp
  refine ⟨by simp [indAll,snocF,indF,memN]; exact ⟨rfl,rfl,rfl,rfl⟩,?_⟩
  refine BrB.of (fun hb2=>?_) (fun hb2=>?_)
  ·have hne : (pls d0 1,pls d1 1) ≠ (o0,o1):=fun e=>by
    simp only [Prod.mk.injEq] at e
    rw [decide_eq_true e.1,decide_eq_true e.2] at hb2
    cases hb2
   obtain ⟨hs3,hs4⟩:=hst hne
   have hset2:=hset (pls d0 1,pls d1 1)
   simp only at hset2
   simp [nop,keyFits,hfv,hset2]
   exact ⟨⟨upd1 st s (pls d0 1,pls d1 1)⟩,hs3,by simp,hs4⟩
  ·have heq : (o0,o1) = (pls d0 1,pls d1 1):=by
    simp only [Bool.or_eq_false_iff,Bool.not_eq_false',decide_eq_true_eq] at hb2
    rw [hb2.1,hb2.2]
   obtain ⟨hs3,hs4⟩:=hnew heq
   have hlen2:=nodup_len hs3 (fun j hj=>(hs4 j hj).1)
   simp at hlen2
   simp
   exact ⟨⟨seen ++ [i]⟩,⟨hs3,hs4⟩,rfl,by simp; omega⟩
end Go.Proofs.YtcmblmkbdenakaaGreatDoor
