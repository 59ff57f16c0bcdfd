/- Faults: contracts of the second of two cycles with a slow line. Conditions: none. -/
import Derived.Test.YtpaopccohkldlaaGreatDoorJ4
import Derived.Test.YtpaopccohkldlaaGreatDoorXT
set_option linter.unusedSimpArgs false
set_option linter.unusedVariables false
namespace Go.Proofs.YtpaopccohkldlaaGreatDoor
open Go
theorem atW_le (f : Ft) (G : Nat→Nat) (hG : ∀ v,G v ≤ 3) : Le3W (atW f G):=fun n v hv=>by unfold atW; split; exact hG v; exact hv
def nfV (f : Ft) (F : V) : V:=if f.q = 0 then .fn 189 [] [.iptr f.ln 0,.iptr F 0] else .fn 188 [] []
def pfV (f : Ft) (F : V) : V:=if f.q = 0 then .fn 151 [] [] else .fn 190 [] [.iptr f.ln 0,.iptr F 0]
theorem atU_c (c : Ci) (f : Ft) (F : V) (G : Nat→Nat) (hF : FnV F G) : OwnC Tryz.prog gl0 153 [c.v,f.ln,F] (fun v h=>∃ g,v = .ptr 0 g 0 0∧h = [(0,.row g 7 [cyV c .nil (nfV f F) (pfV f F)])]):=at_c' c f F G hF
theorem fnW_pure {F : V} {W : Nat→Nat→Nat} (h : FnW F W) : F.pure = true:=by obtain ⟨f,x,rfl,h,-⟩:=h; simp [V.pure,V.pureL,h]
theorem fnQ_pure {F : V} {Q : Nat→Nat→Nat→Nat} (h : FnQ F Q) : F.pure = true:=by obtain ⟨f,x,rfl,h,-⟩:=h; simp [V.pure,V.pureL,h]
theorem cyN_pure {c : Ci} {a b : V} (h1 : a.pure = true) (h2 : b.pure = true) : (cyV c .nil a b).pure = true:=by simp [cyV,V.pure,V.pureL,h1,h2]
end Go.Proofs.YtpaopccohkldlaaGreatDoor
namespace Go.Proofs.YtpaopccohkldlaaGreatDoor
open Go
def conB (a b : List Nat) (i : Nat) : Bool:=decide (a.getD i 0 ≤ 1) && decide (b.getD i 0 ≤ 1) && decide (a.getD i 0 ≠ b.getD i 0)
def conL (a b : List Nat) (n : Nat) : List Nat:=(List.range n).filter (conB a b)
theorem conL_succ (a b : List Nat) (n : Nat) : conL a b (n + 1) = if conB a b n = true then conL a b n ++ [n] else conL a b n:=by
 unfold conL
 rw [List.range_succ,List.filter_append]
 by_cases h : conB a b n = true
 ·rw [if_pos h]; simp [h]
 ·rw [if_neg h]; simp [h]
theorem conL_len (a b : List Nat) (n : Nat) : (conL a b n).length ≤ n:=by
 unfold conL
 have:=List.length_filter_le (conB a b) (List.range n)
 simpa using this
def cons (a b : List Nat) : List Nat:=conL a b (min a.length b.length)
theorem clipN_c (l : List Nat) (cap : Option Nat) : PureC Tryz.prog gl0 131 [.sl (natsV l) cap] (.sl (natsV l) (some l.length)):=by
 refine PureC.of_W 2 ok131 rfl ?_
 simp [i131,x131]
 rw [List.take_of_length_le (by simp)]
 exact mapRL_pure _ (natsV_pure l)
theorem contrary_c (a b : List Nat) (ca cb : Option Nat) (hl : a.length < 1000000000) : PureC Tryz.prog gl0 158 [.sl (a.map u8V) ca,.sl (b.map u8V) cb] (.sl (natsV (cons a b)) (some (cons a b).length)):=by
 unfold cons
 obtain ⟨M,hM⟩ : ∃ M,min a.length b.length = M:=⟨_,rfl⟩
 have hMi : (min (a.length : Int) (b.length : Int)) = (M : Int):=by omega
 rw [hM]
 refine PureC.of_W 2 ok158 rfl ?_
 simp [i158,x158,hMi]
 refine LoopP.ofF (X:=Nat × Option (Nat × List V)) (fun z=>[(12,natV z.1),(11,natV M),(5,accV 41 z.2),(0,.sl (a.map u8V) ca),(1,.sl (b.map u8V) cb)]) (fun z=>accH 41 1 z.2)
  (fun z=>z.1 ≤ M∧accL z.2 = natsV (conL a b z.1)∧(z.2 = none→conL a b z.1 = [])) (fun z=>M - z.1) (.done ⟨(0,none),⟨by simp,by simp [accL,conL,natsV],by simp [conL]⟩,by simp [natV,accV],by simp [accH]⟩) ?_
 rintro ⟨j,acc⟩ ⟨q1,q2,q3⟩
 dsimp only at q1 q2 q3 ⊢
 simp [natV]
 refine BrB.of (fun h=>?_) (fun h=>?_)
 ·have hj : j < M:=of_decide_eq_true h
  have hja : j < a.length:=by omega
  have hjb : j < b.length:=by omega
  have hw:=wrapN j (by omega)
  obtain ⟨x,hx⟩ : ∃ x,a[j] = x:=⟨_,rfl⟩
  obtain ⟨y,hy⟩ : ∃ y,b[j] = y:=⟨_,rfl⟩
  have hc : conB a b j = (decide (x ≤ 1) && decide (y ≤ 1) && decide (x ≠ y)):=by
   unfold conB
   rw [List.getD_eq_getElem?_getD,List.getElem?_eq_getElem hja,hx,List.getD_eq_getElem?_getD,List.getElem?_eq_getElem hjb,hy]; rfl
  have hs:=conL_succ a b j
  have hcl:=conL_len a b j
  rw [hc] at hs
  have hL:=congrArg List.length q2
  simp at hL
  by_cases h3 : x ≤ 1∧y ≤ 1∧x ≠ y
  ·obtain ⟨h4,h5,h6⟩:=h3
   rw [if_pos (by simp [h4,h5,h6])] at hs
   have hnx:=congrArg natsV hs
   simp only [natsV,List.map_append,List.map_cons,List.map_nil] at hnx q2
   rw [← q2] at hnx
   rcases acc with _ | ⟨g,r⟩
   ·simp [hja,hjb,hx,hy,u8V,h4,h5,h6,accV,accH]
    intro ga gb
    exact .done ⟨j + 1,some (gb 41,[.int .i64 (j : Int)]),⟨hj,by simpa [accL,natV,natsV] using hnx.symm,by simp⟩,by simp [hw],by simp,by omega⟩
   ·simp [hja,hjb,hx,hy,u8V,h4,h5,h6,accV,accH]
    intro ga gb
    refine ⟨by simp only [accL] at hL; omega,.done ⟨j + 1,some (gb 41,r ++ [.int .i64 (j : Int)]),⟨hj,by simpa [accL,natV,natsV] using hnx.symm,by simp⟩,by simp [hw],by simp,by omega⟩⟩
  ·have hb : (decide (x ≤ 1) && decide (y ≤ 1) && decide (x ≠ y)) = false:=by
    rw [Bool.eq_false_iff]; intro he; simp at he; exact h3 ⟨he.1.1,he.1.2,he.2⟩
   rw [if_neg (by rw [hb]; simp)] at hs
   have hcase : ¬ x ≤ 1∨(x ≤ 1∧¬ y ≤ 1)∨(x ≤ 1∧y ≤ 1∧x = y):=by
    by_cases p : x ≤ 1 <;> by_cases p2 : y ≤ 1 <;> by_cases p3 : x = y <;> simp_all
   have hsub : Sub (accH 41 1 acc) (accH 41 1 acc):=by rcases acc with _ | ⟨g,r⟩ <;> simp [accH]
   rcases hcase with p | ⟨p,p2⟩ | ⟨p,p2,p3⟩
   ·simp [hja,hx,u8V,p]
    exact .done ⟨j + 1,acc,⟨hj,by rw [hs]; exact q2,fun e=>by rw [hs]; exact q3 e⟩,by simp [hw],hsub,by omega⟩
   ·simp [hja,hjb,hx,hy,u8V,p,p2]
    exact .done ⟨j + 1,acc,⟨hj,by rw [hs]; exact q2,fun e=>by rw [hs]; exact q3 e⟩,by simp [hw],hsub,by omega⟩
   ·subst p3
    simp [hja,hjb,hx,hy,u8V,p]
    exact .done ⟨j + 1,acc,⟨hj,by rw [hs]; exact q2,fun e=>by rw [hs]; exact q3 e⟩,by simp [hw],hsub,by omega⟩
 ·have hj : j = M:=by have:=of_decide_eq_false h; omega
  subst hj
  have hcl:=clipN_c (conL a b j) none
  have hlen:=conL_len a b j
  generalize conL a b j = C at q2 q3 hcl hlen ⊢
  rcases acc with _ | ⟨g,r⟩
  ·have hC:=q3 rfl
   subst hC
   have hcl0:=PureC.wide hcl (args:=[.nil]) ⟨VLe.nil',trivial⟩ (.refl _)
   simp [accV,accH]
   refine .mk [(5,.nil)] [] (by simp) (by simp) (.done ?_)
   simp
   refine CallO.pure hcl0 rfl ?_
   simp [natsV]
  ·simp only [accL] at q2
   subst q2
   simp [accV,accH]
   refine .mk [(5,.ref 41 g 0 C.length none)] [(41,.row g 1 (natsV C))] (by simp) (by simp) (.frz (g:=g) (sz:=1) (es:=natsV C) 41 (by simp) (natsV_pure C) (.done ?_))
   have hCt : List.take C.length (natsV C) = natsV C:=List.take_of_length_le (by simp)
   simp [fzF,fzH,fzV,fzf,hCt]
   refine CallO.pure hcl (by simp [natsV_pure]) ?_
   simp [mapRL_pure,natsV_pure]
theorem differ_c (O S O2 S2 : List Nat) (h1 : O.length < 1000000) (h2 : S.length < 1000000) : PureC Tryz.prog gl0 116 [rspV O S,rspV O2 S2] (.tup [.sl (natsV (cons O O2)) (some (cons O O2).length),.sl (natsV (cons S S2)) (some (cons S S2).length)]):=by
 have c1:=contrary_c O O2 (some O.length) (some O2.length) (by omega)
 have c2:=contrary_c S S2 (some S.length) (some S2.length) (by omega)
 generalize cons O O2 = A at c1 ⊢
 generalize cons S S2 = B at c2 ⊢
 refine PureC.of_W 2 ok116 rfl ?_
 simp [i116,x116,rspV]
 intro gf1 gf2 gm
 first | refine ⟨_,_,_,.pure c1 (by simp),?_⟩ | refine ⟨_,⟨_,_,.pure c1 (by simp)⟩,?_⟩ | refine ⟨_,_,⟨_,.pure c1 (by simp)⟩,?_⟩
 simp
 first | refine ⟨_,_,_,.pure c2 (by simp),?_⟩ | refine ⟨_,⟨_,_,.pure c2 (by simp)⟩,?_⟩ | refine ⟨_,_,⟨_,.pure c2 (by simp)⟩,?_⟩
 simp [mapRL_pure,natsV_pure]
 try rfl
def seenB (O S O2 S2 : List Nat) : Bool:=decide (0 < (cons O O2).length + (cons S S2).length)
theorem cons_len (a b : List Nat) : (cons a b).length ≤ a.length:=by
 unfold cons
 have:=conL_len a b (min a.length b.length)
 omega
theorem seen_c (O S O2 S2 : List Nat) (h1 : O.length < 1000000) (h2 : S.length < 1000000) : PureC Tryz.prog gl0 78 [rspV O S,rspV O2 S2] (.bool (seenB O S O2 S2)):=by
 have hd:=differ_c O S O2 S2 h1 h2
 have l1:=cons_len O O2
 have l2:=cons_len S S2
 unfold seenB
 generalize cons O O2 = A at hd l1 ⊢
 generalize cons S S2 = B at hd l2 ⊢
 obtain ⟨m,hm⟩ : ∃ m,A.length + B.length = m:=⟨_,rfl⟩
 have hw : IntKind.i64.wrap ((A.length : Int) + (B.length : Int)) = (m : Int):=by rw [wrap_i64] <;> omega
 rw [hm]
 simp only [rspV] at hd
 refine PureC.of_W 2 ok78 rfl ?_
 simp [i78,x78,rspV]
 intro gf1 gf2
 refine CallO.pure hd (by simp) ?_
 simp [hw]
theorem obsO_len (c : Ci) (f : Nat→Nat) : (obsO c f).length = c.o.length:=by simp [obsO]
theorem obsS_len (c : Ci) (f : Nat→Nat) : (obsS c f).length = cnt 14 c.n:=by simp [obsS,cnt]
end Go.Proofs.YtpaopccohkldlaaGreatDoor
namespace Go.Proofs.YtpaopccohkldlaaGreatDoor
open Go
theorem stkV (f : Ft) : FnV (.fn 155 [] [.iptr f.w 0]) (fun _=>f.v):=⟨155,_,rfl,rfl,fun v _=>by
 show PureC Tryz.prog gl0 155 [u8V v,.iptr f.w 0] (u8V f.v)
 refine PureC.of_W 2 ok155 rfl ?_
 simp [i155,x155,u8V,Ft.w]⟩
def CyK (c : Ci) (NF PF : V) (v : V) (h : Hp) : Prop:=∃ g,v = .ptr 0 g 0 0∧h = [(0,.row g 7 [cyV c .nil NF PF])]
theorem faultyS_c (c : Ci) (f : Ft) (hm : f.m = 0) (l : List V) (cap : Option Nat) (hl : V.pureL l = true) : OwnC Tryz.prog gl0 114 [c.v,f.w,.sl l cap] (CyK c (nfV f (.fn 155 [] [.iptr f.w 0])) (pfV f (.fn 155 [] [.iptr f.w 0]))):=by
 have hat:=atU_c c f _ _ (stkV f)
 have hNW : FnW (nfV f _) _:=atNF f _ _ (stkV f)
 have hPQ : FnQ (pfV f _) _:=atPF f _ _ (stkV f)
 have hnp:=fnW_pure hNW
 have hpp:=fnQ_pure hPQ
 clear hNW hPQ
 generalize hNF : nfV f (.fn 155 [] [.iptr f.w 0]) = NF at hat hnp ⊢
 generalize hPF : pfV f (.fn 155 [] [.iptr f.w 0]) = PF at hat hpp ⊢
 have hcyp:=cyN_pure (c:=c) hnp hpp
 refine OwnC.of_W ok114 rfl ?_
 simp [i114,x114,u8V,hm,natV]
 intro gf1 gf2 gf3 gm
 refine ⟨by decide,?_⟩
 refine CallO.frzB 4 (g:=gf2 4) (sz:=5) (es:=[f.w]) (by simp) (by simp) ?_
 simp [fzV,V.mapR,V.mapRL,fzp,fzH,Blk.fz,mapR_pure _ (ci_pure2 c),mapRL_pure,hl]
 refine CallO.own 900 hat (by simp [V.pureL,V.pure]) (by simp) ?_
 rintro v h ⟨g0,rfl,rfl⟩ gf8
 simp [upH,upS,Blk.rn,rn_pure _ hcyp]
 generalize gf8 900 + g0 = gx
 refine .move 900 0 _ (by simp) (by simp; rfl) fun g'=>.done ?_
 simp [rn_pure _ hcyp]
 exact ⟨[(0,.row g' 7 [cyV c .nil NF PF])],by simp,g',rfl,rfl⟩
theorem both_c (c : Ci) (hg : c.good) (f : Ft) (hfc : PureC Tryz.prog gl0 43 [c.v,f.w] (.int .i64 0)) (hm : f.m ≠ 1) (p : Pt) (hp : p.fit c) (W : Nat→Nat→Nat) (Q : Nat→Nat→Nat→Nat) (NX PX : V) (hNW : FnW NX W) (hPQ : FnQ PX Q) (hW3 : Le3W W)
    (hfa : OwnC Tryz.prog gl0 114 [c.v,f.w,.sl (tU c.n.length (netN c p)) (some c.n.length)] (CyK c NX PX)) :
    PureC Tryz.prog gl0 77 [c.v,f.w,p.v] (.tup [rspV (obsO c (netN c p)) (obsS c (netN c p)),rspV (obsMO c (netM c W Q p)) (obsMS c Q (netM c W Q p)),.sl (tU c.n.length (netM c W Q p)) (some c.n.length),.int .i64 0]):=by
  have r1:=run_c c hg p hp
  have hrun:=fun g=>crun_c c hg p hp W Q NX PX hNW hPQ hW3 g
  have hnp:=fnW_pure hNW
  have hpp:=fnQ_pure hPQ
  generalize netM c W Q p = M at hrun ⊢
  generalize netN c p = A at r1 hfa ⊢
  generalize obsO c A = O1 at r1 ⊢
  generalize obsS c A = S1 at r1 ⊢
  have hcyp:=cyN_pure (c:=c) hnp hpp
  have hin1 : V.inB [900,29] (cyV c .nil NX PX) = true:=V.inB_pure _ _ hcyp
  have hin2 : ∀ g2 N,V.inB [900,29] (cyV c (.ref 29 g2 0 N (some N)) NX PX) = true:=fun g2 N=>by
    simp [cyV,V.inB,V.inBL,V.inB_pure _ _ hnp,V.inB_pure _ _ hpp,V.inBL_pure _ _ (nds_pure _),V.inBL_pure _ _ (strs_pure _),V.inBL_pure _ _ (mds_pure _),V.inBL_pure _ _ (ints_pure _)]
  generalize obsMO c M = MO at hrun ⊢
  generalize obsMS c Q M = MS at hrun ⊢
  have hm' : ¬ ((f.m : Int) = 1):=by omega
  simp only [rspV,Pt.v,u8V] at r1 hrun ⊢
  simp only [Ft.w,u8V,natV] at hfc hfa
  refine PureC.of_W 2 ok77 rfl ?_
  simp [i77,x77,u8V,natV]
  intro gf1 gf2 gf3 gf4 gf5
  refine CallO.pure hfc (by simp) ?_
  simp [u8V,hm']
  refine CallO.pure r1 (by simp) ?_
  simp
  refine CallO.own 900 hfa (by have ht : V.pureL (tab c.n.length fun i => V.int IntKind.u8 (A i : Int)) = true := tU_pure _ _
                               simp [V.pureL,V.pure,u8V,natV,ht]) (by simp) ?_
  rintro v h ⟨g0,rfl,rfl⟩ gf8
  simp [upH,upS,Blk.rn,rn_pure _ hcyp]
  generalize gf8 900 + g0 = gx
  refine CallO.lend [900,29] [(900,.row gx 7 [cyV c .nil NX PX])] [(6,.row (gf4 6) 2 [.agg [.sl (O1.map u8V) (some O1.length),.sl (S1.map u8V) (some S1.length)]]),(7,.row (gf5 7) 2 [.agg [.nil,.nil]])]
    (hrun gx) (by simp [V.inBL_pure]) (by simp) (by simp [heapIn,Blk.inB,hin1,V.inBL]) (by simp) (by simp) ?_
  rintro v h ⟨rfl,g2,rfl⟩
  refine ⟨by simp [V.inB,V.inBL,V.inBL_pure _ _ (u8s_pure _)],by simp [heapIn,Blk.inB,V.inBL,hin2,V.inBL_pure _ _ (tU_pure _ _)],?_⟩
  simp
  intro gm3
  simp [nop,mapRL_pure,map_frz_pure (tU_pure _ _)]
  first | exact ⟨rfl,List.take_of_length_le (by simp)⟩ | exact rfl
theorem detF_c (c : Ci) (_hg : c.good) (f : Ft) (p : Pt) (O S O2 S2 : List Nat) (L : V) (h1 : O.length < 1000000) (h2 : S.length < 1000000)
  (hb : PureC Tryz.prog gl0 77 [c.v,f.w,p.v] (.tup [rspV O S,rspV O2 S2,L,.int .i64 0])) : PureC Tryz.prog gl0 35 [c.v,f.w,p.v] (.tup [.bool (seenB O S O2 S2),.int .i64 0]):=by
 have hs:=seen_c O S O2 S2 h1 h2
 generalize seenB O S O2 S2 = PB at hs ⊢
 simp only [rspV,Pt.v] at hb hs ⊢
 refine PureC.of_W 2 ok35 rfl ?_
 simp [i35,x35]
 intro gf1 gf2 gf3
 refine CallO.pure hb (by simp [natV,u8V]) ?_
 simp
 intro gf5 gf6
 refine CallO.pure hs (by simp) ?_
 simp
theorem detS_c (c : Ci) (hg : c.good) (f : Ft) (hf : f.ok c) (hm : f.m = 0) (p : Pt) (hp : p.fit c) : PureC Tryz.prog gl0 35 [c.v,f.w,p.v]
  (.tup [.bool (seenB (obsO c (netN c p)) (obsS c (netN c p)) (obsMO c (netM c (atW f fun _=>f.v) (atQ f fun _=>f.v) p)) (obsMS c (atQ f fun _=>f.v) (netM c (atW f fun _=>f.v) (atQ f fun _=>f.v) p))),.int .i64 0]):=by
 have hno : c.o.length ≤ 16384:=(sh_len hg.sh).2.2.2
 have hn1:=hg.n1
 have l1:=cnt_le 14 c.n
 have e1:=obsO_len c (netN c p)
 have e2:=obsS_len c (netN c p)
 have hv:=hf.v
 exact detF_c c hg f p _ _ _ _ _ (by omega) (by omega) (both_c c hg f (fcheck_c c hg f hf) (by omega) p hp _ _ _ _ (atNF f _ _ (stkV f)) (atPF f _ _ (stkV f)) (atW_le f _ fun _=>by omega)
  (faultyS_c c f hm _ _ (tU_pure _ _)))
end Go.Proofs.YtpaopccohkldlaaGreatDoor
namespace Go.Proofs.YtpaopccohkldlaaGreatDoor
open Go
def Ci.plain (c : Ci) : Prop:=∀ n,n < c.n.length→combC c n = true→1 ≤ (c.nd n).k∧(c.nd n).k ≤ 11∧widB (c.nd n).k (c.nd n).i.length = true
end Go.Proofs.YtpaopccohkldlaaGreatDoor
