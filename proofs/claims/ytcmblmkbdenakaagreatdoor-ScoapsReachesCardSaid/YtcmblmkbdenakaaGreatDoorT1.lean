/- Patterns: contracts of the laws' own reading of a pattern. Conditions: none. -/
import Derived.Test.YtcmblmkbdenakaaGreatDoorI1
import Derived.Test.YtcmblmkbdenakaaGreatDoorLC
import Derived.Test.YtcmblmkbdenakaaGreatDoorNet13
import Derived.Test.YtcmblmkbdenakaaGreatDoorBase15
import Derived.Test.YtcmblmkbdenakaaGreatDoorNet17
set_option linter.unusedSimpArgs false
set_option linter.unusedVariables false
namespace Go.Proofs.YtcmblmkbdenakaaGreatDoor
open Go
attribute [simp] u8s_pure
@[simp] theorem pt_cells (p : Pt) : p.v.cells = [.sl (p.i.map u8V) none,.sl (p.s.map u8V) none]:=rfl
@[simp] theorem pt_cellsOk (p : Pt) : p.v.cellsOk = true:=rfl
@[simp] theorem pt_pure (p : Pt) : V.pure p.v = true:=by simp [Pt.v]
end Go.Proofs.YtcmblmkbdenakaaGreatDoor
namespace Go.Proofs.YtcmblmkbdenakaaGreatDoor
open Go
theorem above_c (v : Nat) (h : v ≤ 3) : PureC Tryz.prog gl0 74 [u8V v] (.bool false):=by
 refine PureC.of_W 2 ok74 rfl ?_
 simp [i74,x74,u8V]
 omega
theorem idxNone_c (f : FuncId) (l : List Nat) (cap : Option Nat) (hl : l.length < 1000000000) (hf : ∀ v ∈ l,PureC Tryz.prog gl0 f [u8V v] (.bool false)) : PureC Tryz.prog gl0 86 [.sl (l.map u8V) cap,.fn f [] []] (.int .i64 (-1)):=by
 refine PureC.of_W 2 ok86 rfl ?_
 simp [i86,x86]
 refine LoopP.of (X:=Nat) (fun i=>[(8,natV i),(7,natV l.length),(0,.sl (l.map u8V) cap),(1,.fn f [] [])]) (fun _=>[])
  (fun i=>i ≤ l.length) (fun i=>l.length - i) 0 (Nat.zero_le _) (by simp [natV]) (by simp) ?_
 intro i hi
 simp [natV]
 refine BrB.of (fun hb=>?_) (fun hb=>?_)
 ·have hi' : i < l.length:=of_decide_eq_true hb
  have hw:=wrapN i (by omega)
  obtain ⟨y,hy⟩ : ∃ y,l[i] = y:=⟨_,rfl⟩
  have hfy:=hf y (by rw [← hy]; exact List.getElem_mem hi')
  simp only [u8V] at hfy
  simp [hi',hy,u8V]
  refine CallO.pure hfy rfl ?_
  simp [hw]
  exact ⟨i + 1,hi',rfl,by omega⟩
 ·simp
theorem contNone_c (f : FuncId) (l : List Nat) (cap : Option Nat) (hl : l.length < 1000000000) (hf : ∀ v ∈ l,PureC Tryz.prog gl0 f [u8V v] (.bool false)) : PureC Tryz.prog gl0 73 [.sl (l.map u8V) cap,.fn f [] []] (.bool false):=by
 refine PureC.of_W 2 ok73 rfl ?_
 simp [i73,x73]
 refine CallO.pure (idxNone_c f l cap hl hf) (by simp [V.pureL,V.pure,u8s_pure]) ?_
 simp
theorem ninputs_c (c : Ci) (hl : c.n.length < 1000000) : OwnC Tryz.prog gl0 52 [c.v] (Fresh 1 (ofLs [0] c.n 0)):=by
 obtain ⟨n1,n2⟩:=ofLs_noG [0] c.n 0
 refine OwnC.of_W ok52 rfl ?_
 simp [i52,x52,Ci.v]
 intro gf gf2
 refine CallO.ownBorrow 1 1000 (of_c c [0] (some 1) hl (by simp)) (by simp [Ci.v,mapRL_pure]) (by simp) ?_
 rintro v h' (⟨hq,rfl,rfl⟩ | ⟨g,rfl,rfl⟩)
 ·refine ⟨rfl,fun b k hb=>by simp [lk] at hb,fun gf=>?_⟩
  simp
  exact .done (by simpa using ⟨[],trivial,by simp [Fresh,hq]⟩)
 ·refine ⟨rfl,fun b k hb=>?_,fun gf=>?_⟩
  ·simp only [lk] at hb
   split at hb
   ·cases hb; exact n1
   ·cases hb
  ·simp [map_rn_pure n2]
   refine .move 1000 0 _ (by simp) (by simp; rfl) fun g2=>.done ?_
   simp [map_rn_pure n2,Fresh]
theorem inputsN_c (c : Ci) (hl : c.n.length < 1000000) : PureC Tryz.prog gl0 52 [c.v] (.sl (natsV (ids 0 c.n 0)) (some (cnt 0 c.n))):=by
 have:=PureC.of_one (OwnC.one (ninputs_c c hl) fun _ _ h=>fresh_one h) (ofLs_noG _ c.n 0).2
 rw [ofLs_ids] at this
 simpa [cnt] using this
theorem statesN_c (c : Ci) (hl : c.n.length < 1000000) : PureC Tryz.prog gl0 18 [c.v] (.sl (natsV (ids 14 c.n 0)) (some (cnt 14 c.n))):=by
 have:=PureC.of_one (OwnC.one (states_c c hl) fun _ _ h=>fresh_one h) (ofLs_noG _ c.n 0).2
 rw [ofLs_ids] at this
 simpa [cnt] using this
theorem ofMem_c (c : Ci) (hg : c.good) : OwnC Tryz.prog gl0 49 [c.v,.sl [.int .u8 15] (some 1)] (DatK 1 (.sl [] (some 0))):=by
 have h1:=OwnC.dat1 (of1_c c [15] (some 1) (by have:=hg.n1; omega) (by simp)) (ofLs_noG [15] c.n 0).2 (ofLs_noG [15] c.n 0).1
 have h2 : ids 15 c.n 0 = []:=by
  rw [List.eq_nil_iff_forall_not_mem]
  intro x hx
  obtain ⟨hx',hk⟩:=ids_lt hx
  exact hg.k _ (List.getElem_mem hx') hk
 rw [ofLs_ids,h2] at h1
 simpa [natsV] using h1
theorem sfits_c (c : Ci) (hg : c.good) (p : Pt) (hp : p.fit c) : PureC Tryz.prog gl0 45 [c.v,p.v] (.int .i64 0):=by
 have hn1:=hg.n1
 have hm:=hg.m
 have l0:=cnt_le 0 c.n
 have l1:=cnt_le 14 c.n
 have hpi:=hp.i
 have hps:=hp.s
 have ci:=inputsN_c c (by omega)
 have cs:=statesN_c c (by omega)
 have cm:=ofMem_c c hg
 have k1:=contNone_c 74 p.i none (by omega) fun v hv=>above_c v (hp.iv v hv)
 have k2:=contNone_c 74 p.s none (by omega) fun v hv=>above_c v (hp.sv v hv)
 obtain ⟨I,hI⟩ : ∃ I,ids 0 c.n 0 = I:=⟨_,rfl⟩
 obtain ⟨S,hS⟩ : ∃ S,ids 14 c.n 0 = S:=⟨_,rfl⟩
 have hIl : I.length = cnt 0 c.n:=by rw [← hI]; rfl
 have hSl : S.length = cnt 14 c.n:=by rw [← hS]; rfl
 rw [hI] at ci
 rw [hS] at cs
 refine PureC.of_W 2 ok45 rfl ?_
 simp [i45,x45,hm]
 intro gf1 gf2
 intro gf3
 refine CallO.dat 1 cm (by simp) ?_
 simp
 intro gm
 refine ⟨_,_,_,.pure ci (by simp),?_⟩
 simp [hpi,hIl]
 refine ⟨_,_,_,.pure cs (by simp),?_⟩
 simp [hps,hSl]
 refine ⟨rfl,?_⟩
 refine CallO.pure k1 (by simp) ?_
 simp
 refine CallO.pure k2 (by simp) ?_
 simp
end Go.Proofs.YtcmblmkbdenakaaGreatDoor
namespace Go.Proofs.YtcmblmkbdenakaaGreatDoor
open Go
def runV (c : Ci) (l : V) : V:=.agg [.sl (c.n.map Nd.v) none,.sl (c.s.map .str) none,.sl (c.m.map Md.v) none,.sl (ints c.o) none,l]
@[simp] theorem run_cells (c : Ci) (l : V) : (runV c l).cells = [.sl (c.n.map Nd.v) none,.sl (c.s.map .str) none,.sl (c.m.map Md.v) none,.sl (ints c.o) none,l]:=rfl
@[simp] theorem run_ok (c : Ci) (xs : List V) (cap : Option Nat) : (runV c (.sl xs cap)).cellsOk = true:=rfl
@[simp] theorem run_okR (c : Ci) (b g o l : Nat) (cap : Option Nat) : (runV c (.ref b g o l cap)).cellsOk = true:=rfl
theorem run_pure (c : Ci) (l : List Nat) (cap : Option Nat) : (runV c (.sl (l.map u8V) cap)).pure = true:=by
 have:=ci_pure2 c
 simp only [Ci.v,V.pure,V.pureL,Bool.and_true,Bool.and_eq_true] at this
 simp [runV,this]
theorem value_c (c : Ci) (l : List Nat) (cap : Option Nat) (m : Nat) (h : m < l.length) (_hl : l.length < 1000000) : PureC Tryz.prog gl0 75 [runV c (.sl (l.map u8V) cap),.int .i64 (m : Int)] (u8V (clean (l.getD m 0))):=by
 obtain ⟨x,hx⟩ : ∃ x,l[m] = x:=⟨_,rfl⟩
 have hd : l.getD m 0 = x:=by rw [List.getD_eq_getElem?_getD,List.getElem?_eq_getElem h,hx]; rfl
 rw [hd]
 have hc:=clean_c x
 simp only [u8V] at hc
 refine PureC.of_W 2 ok75 rfl ?_
 simp [i75,x75,runV,show ¬ l.length ≤ m by omega,h,hx,u8V]
 intro gf
 refine CallO.pure hc rfl ?_
 simp
theorem clip_c (l : List Nat) (cap : Option Nat) (_hl : l.length < 1000000) : PureC Tryz.prog gl0 76 [.sl (l.map u8V) cap] (.sl (l.map u8V) (some l.length)):=by
 refine PureC.of_W 2 ok76 rfl ?_
 simp [i76,x76]
 rw [List.take_of_length_le (by simp)]
 exact mapRL_pure _ (u8s_pure l)
theorem clip0_c : PureC Tryz.prog gl0 76 [.nil] (.sl [] (some 0)):=PureC.wide (clip_c [] none (by simp)) ⟨VLe.nil',trivial⟩ (.refl _)
theorem nd_dff {c : Ci} (hg : c.good) {n : Nat} (hn : n ∈ ids 14 c.n 0) : ∃ h : n < c.n.length,∃ x : Int,c.n[n].i = [x]∧0 ≤ x∧x < c.n.length∧c.n[n].k = 14:=by
 obtain ⟨h,hk⟩:=ids_lt hn
 have h1:=nd_zero ((sh_zero hg.sh).2.2.1 _ (List.getElem_mem h))
 have hv:=hg.val.i n h
 rw [c.nd_get h] at hv
 have hw:=h1.2.1
 rw [hk] at hw
 have hl : c.n[n].i.length = 1:=by
  have e1 : kLo 14 = 1:=rfl
  have e2 : kHi 14 = 1:=rfl
  simp only [widB,e1,e2,Bool.and_eq_true,decide_eq_true_eq] at hw
  omega
 match hq : c.n[n].i,hl with
 | [x],_=>
  rw [hq] at hv
  have:=hv x (by simp)
  exact ⟨h,x,hq,this.1,this.2,hk⟩
theorem map_take_succ {α β : Type} {l : List α} {i : Nat} {y : α} (F : α→β) (h : i < l.length) (hy : l[i] = y) : (l.take (i + 1)).map F = (l.take i).map F ++ [F y]:=by
 rw [List.take_succ_eq_append_getElem h,hy]; simp
set_option maxHeartbeats 4000000 in
theorem observe_c (c : Ci) (hg : c.good) (l : List Nat) (cap : Option Nat) (hll : l.length = c.n.length) : PureC Tryz.prog gl0 48 [runV c (.sl (l.map u8V) cap)] (rspV (obsO c fun i=>l.getD i 0) (obsS c fun i=>l.getD i 0)):=by
 have hn1:=hg.n1
 have hno : c.o.length ≤ 16384:=(sh_len hg.sh).2.2.2
 have l1:=cnt_le 14 c.n
 have cs:=statesN_c c (by omega)
 have hcl:=clip_c
 obtain ⟨F,hF⟩ : ∃ F : Int→Nat,F = fun n=>clean (l.getD n.toNat 0):=⟨_,rfl⟩
 obtain ⟨E,hE⟩ : ∃ E : Nat→Nat,E = nxtN c fun i=>l.getD i 0:=⟨_,rfl⟩
 have hres : rspV (obsO c fun i=>l.getD i 0) (obsS c fun i=>l.getD i 0) = rspV (c.o.map F) ((ids 14 c.n 0).map E):=by rw [hF,hE]; rfl
 rw [hres]
 have hdff:=fun n (hn : n ∈ ids 14 c.n 0)=>nd_dff hg hn
 obtain ⟨S,hS⟩ : ∃ S,ids 14 c.n 0 = S:=⟨_,rfl⟩
 have hSl : S.length = cnt 14 c.n:=by rw [← hS]; rfl
 rw [hS] at cs hdff ⊢
 rw [← hSl] at cs l1
 have hrp:=run_pure c l cap
 refine PureC.of_W 2 ok48 rfl ?_
 simp [i48,x48]
 intro gf1 gf2 gf3
 generalize gf1 1 = g1
 generalize gf2 2 = g2
 generalize gf3 3 = g3
 refine LoopP.of (X:=Nat × Option (Nat × List V)) (fun z=>[(14,natV z.1),(13,natV c.o.length),(12,.sl (ints c.o) none),(3,.ptr 3 g3 0 0),(2,.ptr 2 g2 0 0),(1,.ptr 1 g1 0 0)])
  (fun z=>[(3,.row g3 2 [.agg [accV 24 z.2,.nil]]),(2,.row g2 2 [.agg [.nil,.nil]]),(1,.row g1 5 [runV c (.sl (l.map u8V) cap)])] ++ accH 24 1 z.2)
  (fun z=>z.1 ≤ c.o.length∧(z.2 = none↔z.1 = 0)∧accL z.2 = ((c.o.take z.1).map F).map u8V) (fun z=>c.o.length - z.1) (0,none) ⟨by simp,by simp,by simp [accL]⟩ (by simp [natV]) (by simp [accV,accH]) ?_
 rintro ⟨i,acc⟩ ⟨q1,q2,q3⟩
 dsimp only at q1 q2 q3 ⊢
 simp [natV]
 refine BrB.of (fun hb=>?_) (fun hb=>?_)
 ·have hi : i < c.o.length:=of_decide_eq_true hb
  have hw:=wrapN i (by omega)
  obtain ⟨y,hy⟩ : ∃ y,c.o[i] = y:=⟨_,rfl⟩
  obtain ⟨y0,y1⟩:=hg.o (x:=y) (by rw [← hy]; exact List.getElem_mem hi)
  obtain ⟨m,rfl⟩:=Int.eq_ofNat_of_zero_le y0
  have hv:=value_c c l cap m (by omega) (by omega)
  have hFm : clean (l.getD m 0) = F (m : Int):=by rw [hF]; rfl
  rw [hFm] at hv
  have hnx:=congrArg (List.map u8V) (map_take_succ F hi hy)
  rw [List.map_append,← q3] at hnx
  simp only [List.map_cons,List.map_nil,u8V] at hnx hv
  cases acc with
  | none=>
   have hi0 : i = 0:=q2.1 rfl
   simp [accV,accH,hi,ints_getE,hy]
   intro gm
   refine ⟨_,_,_,.pure hv (by simp),?_⟩
   simp [hw]
   refine ⟨rfl,i + 1,some (gm 24,[.int .u8 (F (m : Int) : Int)]),⟨hi,by simp,by simpa [accL,u8V] using hnx.symm⟩,by simp,by simp,by omega⟩
  | some gl=>
   obtain ⟨g,r⟩:=gl
   simp only [accL] at q3 hnx
   simp [accV,accH,hi,ints_getE,hy]
   intro gm
   refine ⟨_,_,_,.pure hv (by simp),?_⟩
   simp [hw]
   refine ⟨by have:=congrArg List.length q3; simp at this; omega,rfl,i + 1,some (g + 1,r ++ [.int .u8 (F (m : Int) : Int)]),⟨hi,by simp,by simpa [accL,u8V] using hnx.symm⟩,by simp,by simp,by omega⟩
 have hi : i = c.o.length:=by have:=of_decide_eq_false hb; omega
 subst hi
 rw [List.take_length] at q3
 simp
 refine CallO.pure cs (by simp) ?_
 simp
 refine LoopP.ofF (X:=Nat × Option (Nat × List V)) (fun z=>[(31,natV z.1),(30,natV S.length),(29,.sl (natsV S) (some S.length)),(3,.ptr 3 g3 0 0),(2,.ptr 2 g2 0 0),(1,.ptr 1 g1 0 0)])
  (fun z=>[(3,.row g3 2 [.agg [accV 24 acc,accV 55 z.2]]),(2,.row g2 2 [.agg [.nil,.nil]]),(1,.row g1 5 [runV c (.sl (l.map u8V) cap)])] ++ (accH 24 1 acc ++ accH 55 1 z.2))
  (fun z=>z.1 ≤ S.length∧(z.2 = none↔z.1 = 0)∧accL z.2 = ((S.take z.1).map E).map u8V) (fun z=>S.length - z.1) (.done ⟨(0,none),⟨by simp,by simp,by simp [accL]⟩,by simp [natV],?_⟩) ?_
 ·cases acc with
  | none=>simp [accV,accH]
  | some gl=>simp [accV,accH]
 rintro ⟨j,acc2⟩ ⟨p1,p2,p3⟩
 dsimp only at p1 p2 p3 ⊢
 simp [natV]
 refine BrB.of (fun hb2=>?_) (fun hb2=>?_)
 ·have hj : j < S.length:=of_decide_eq_true hb2
  have hw:=wrapN j (by omega)
  obtain ⟨n,hn⟩ : ∃ n,S[j] = n:=⟨_,rfl⟩
  obtain ⟨hnc,x,hxi,x0,x1,-⟩:=hdff n (by rw [← hn]; exact List.getElem_mem hj)
  obtain ⟨m,rfl⟩:=Int.eq_ofNat_of_zero_le x0
  have hv:=value_c c l cap m (by omega) (by omega)
  have hr:=rdN_c (clean (l.getD m 0))
  have hEn : rdN (clean (l.getD m 0)) = E n:=by rw [hE]; simp only [nxtN]; rw [c.nd_get hnc,hxi]; rfl
  rw [hEn] at hr
  obtain ⟨q,hq⟩ : ∃ q,clean (l.getD m 0) = q:=⟨_,rfl⟩
  rw [hq] at hv hr
  obtain ⟨y,hy⟩ : ∃ y,c.n[n] = y:=⟨_,rfl⟩
  rw [hy] at hxi
  have hnx:=congrArg (List.map u8V) (map_take_succ E hj hn)
  rw [List.map_append,← p3] at hnx
  simp only [List.map_cons,List.map_nil,u8V] at hnx hv hr
  have h1 : ints [(m : Int)] = [.int .i64 (m : Int)]:=rfl
  rcases acc with _ | gl <;> rcases acc2 with _ | gl2
  case' none.none=>
   simp [hj,natsV_get,hn,hnc,hy,hxi,accV,accH,h1]
   intro gm
   first | refine ⟨_,_,_,.pure hv (by simp [hrp]),?_⟩ | refine ⟨_,⟨_,_,.pure hv (by simp [hrp])⟩,?_⟩ | refine ⟨_,_,⟨_,.pure hv (by simp)⟩,?_⟩
   simp
   first | refine ⟨_,_,_,.pure hr (by simp),?_⟩ | refine ⟨_,⟨_,_,.pure hr (by simp)⟩,?_⟩ | refine ⟨_,_,⟨_,.pure hr (by simp)⟩,?_⟩
   simp
   intro ga gb
   refine .done ⟨j + 1,some (gb 55,[.int .u8 (E n : Int)]),⟨hj,by simp,by simpa [accL,u8V] using hnx.symm⟩,by simp [hw],by simp,by omega⟩
  case' some.none=>
   simp [hj,natsV_get,hn,hnc,hy,hxi,accV,accH,h1]
   intro gm
   first | refine ⟨_,_,_,.pure hv (by simp [hrp]),?_⟩ | refine ⟨_,⟨_,_,.pure hv (by simp [hrp])⟩,?_⟩ | refine ⟨_,_,⟨_,.pure hv (by simp)⟩,?_⟩
   simp
   first | refine ⟨_,_,_,.pure hr (by simp),?_⟩ | refine ⟨_,⟨_,_,.pure hr (by simp)⟩,?_⟩ | refine ⟨_,_,⟨_,.pure hr (by simp)⟩,?_⟩
   simp
   intro ga gb
   refine .done ⟨j + 1,some (gb 55,[.int .u8 (E n : Int)]),⟨hj,by simp,by simpa [accL,u8V] using hnx.symm⟩,by simp [hw],by simp,by omega⟩
  case' none.some=>
   simp [hj,natsV_get,hn,hnc,hy,hxi,accV,accH,h1]
   intro gm
   first | refine ⟨_,_,_,.pure hv (by simp [hrp]),?_⟩ | refine ⟨_,⟨_,_,.pure hv (by simp [hrp])⟩,?_⟩ | refine ⟨_,_,⟨_,.pure hv (by simp)⟩,?_⟩
   simp
   first | refine ⟨_,_,_,.pure hr (by simp),?_⟩ | refine ⟨_,⟨_,_,.pure hr (by simp)⟩,?_⟩ | refine ⟨_,_,⟨_,.pure hr (by simp)⟩,?_⟩
   simp
   intro ga gb
   refine ⟨by have:=congrArg List.length p3; simp [accL] at this; omega,.done ⟨j + 1,some (gb 55,gl2.2 ++ [.int .u8 (E n : Int)]),⟨hj,by simp,by simpa [accL,u8V] using hnx.symm⟩,by simp [hw],by simp,by omega⟩⟩
  case' some.some=>
   simp [hj,natsV_get,hn,hnc,hy,hxi,accV,accH,h1]
   intro gm
   first | refine ⟨_,_,_,.pure hv (by simp [hrp]),?_⟩ | refine ⟨_,⟨_,_,.pure hv (by simp [hrp])⟩,?_⟩ | refine ⟨_,_,⟨_,.pure hv (by simp)⟩,?_⟩
   simp
   first | refine ⟨_,_,_,.pure hr (by simp),?_⟩ | refine ⟨_,⟨_,_,.pure hr (by simp)⟩,?_⟩ | refine ⟨_,_,⟨_,.pure hr (by simp)⟩,?_⟩
   simp
   intro ga gb
   refine ⟨by have:=congrArg List.length p3; simp [accL] at this; omega,.done ⟨j + 1,some (gb 55,gl2.2 ++ [.int .u8 (E n : Int)]),⟨hj,by simp,by simpa [accL,u8V] using hnx.symm⟩,by simp [hw],by simp,by omega⟩⟩
 have hj : j = S.length:=by have:=of_decide_eq_false hb2; omega
 subst hj
 rw [List.take_length] at p3
 have hcO:=clip_c (c.o.map F) none (by simp; omega)
 have hcS:=clip_c (S.map E) none (by simp; omega)
 generalize c.o.map F = O at q3 hcO ⊢
 generalize S.map E = T at p3 hcS ⊢
 have htO : List.take O.length (O.map u8V) = O.map u8V:=List.take_of_length_le (by simp)
 have htT : List.take T.length (T.map u8V) = T.map u8V:=List.take_of_length_le (by simp)
 rcases acc with _ | ⟨ga,ra⟩ <;> rcases acc2 with _ | ⟨gb,rb⟩
 ·have hO : O = []:=by simpa [accL] using q3.symm
  have hT : T = []:=by simpa [accL] using p3.symm
  subst hO hT
  simp [accV,accH]
  refine .mk [(3,.ptr 3 g3 0 0),(2,.ptr 2 g2 0 0)] [(3,.row g3 2 [.agg [.nil,.nil]]),(2,.row g2 2 [.agg [.nil,.nil]])] (by simp) (by simp) (.done ?_)
  simp
  intro gm
  first | refine ⟨_,_,_,.pure clip0_c (by simp),?_⟩ | refine ⟨_,⟨_,_,.pure clip0_c (by simp)⟩,?_⟩ | refine ⟨_,_,⟨_,.pure clip0_c (by simp)⟩,?_⟩
  simp
  first | refine ⟨_,_,_,.pure clip0_c (by simp),?_⟩ | refine ⟨_,⟨_,_,.pure clip0_c (by simp)⟩,?_⟩ | refine ⟨_,_,⟨_,.pure clip0_c (by simp)⟩,?_⟩
  simp [rspV]
  try rfl
 ·simp only [accL] at q3 p3
  have hO : O = []:=by simpa using q3.symm
  subst hO
  subst p3
  simp [accV,accH]
  refine .mk [(3,.ptr 3 g3 0 0),(2,.ptr 2 g2 0 0)] [(3,.row g3 2 [.agg [.nil,.ref 55 gb 0 T.length none]]),(2,.row g2 2 [.agg [.nil,.nil]]),(55,.row gb 1 (T.map u8V))] (by simp) (by simp) (.frz (g:=gb) (sz:=1) (es:=T.map u8V) 55 (by simp) (u8s_pure T) (.done ?_))
  simp [fzF,fzH,fzV,fzf,fzp,Blk.fz,htT]
  intro gm
  first | refine ⟨_,_,_,.pure clip0_c (by simp),?_⟩ | refine ⟨_,⟨_,_,.pure clip0_c (by simp)⟩,?_⟩ | refine ⟨_,_,⟨_,.pure clip0_c (by simp)⟩,?_⟩
  simp
  first | refine ⟨_,_,_,.pure hcS (by simp),?_⟩ | refine ⟨_,⟨_,_,.pure hcS (by simp)⟩,?_⟩ | refine ⟨_,_,⟨_,.pure hcS (by simp)⟩,?_⟩
  simp [rspV,mapRL_pure]
  try rfl
 ·simp only [accL] at q3 p3
  subst q3
  have hT : T = []:=by simpa using p3.symm
  subst hT
  simp [accV,accH]
  refine .mk [(3,.ptr 3 g3 0 0),(2,.ptr 2 g2 0 0)] [(3,.row g3 2 [.agg [.ref 24 ga 0 O.length none,.nil]]),(2,.row g2 2 [.agg [.nil,.nil]]),(24,.row ga 1 (O.map u8V))] (by simp) (by simp) (.frz (g:=ga) (sz:=1) (es:=O.map u8V) 24 (by simp) (u8s_pure O) (.done ?_))
  simp [fzF,fzH,fzV,fzf,fzp,Blk.fz,htO]
  intro gm
  first | refine ⟨_,_,_,.pure hcO (by simp),?_⟩ | refine ⟨_,⟨_,_,.pure hcO (by simp)⟩,?_⟩ | refine ⟨_,_,⟨_,.pure hcO (by simp)⟩,?_⟩
  simp
  first | refine ⟨_,_,_,.pure clip0_c (by simp),?_⟩ | refine ⟨_,⟨_,_,.pure clip0_c (by simp)⟩,?_⟩ | refine ⟨_,_,⟨_,.pure clip0_c (by simp)⟩,?_⟩
  simp [rspV,mapRL_pure]
  try rfl
 ·simp only [accL] at q3 p3
  subst q3
  subst p3
  simp [accV,accH]
  refine .mk [(3,.ptr 3 g3 0 0),(2,.ptr 2 g2 0 0)] [(3,.row g3 2 [.agg [.ref 24 ga 0 O.length none,.ref 55 gb 0 T.length none]]),(2,.row g2 2 [.agg [.nil,.nil]]),(24,.row ga 1 (O.map u8V)),(55,.row gb 1 (T.map u8V))] (by simp) (by simp) (.frz (g:=ga) (sz:=1) (es:=O.map u8V) 24 (by simp) (u8s_pure O) (.frz (g:=gb) (sz:=1) (es:=T.map u8V) 55 (by simp [fzH,Blk.fz,map_fzV (u8s_pure T)]) (u8s_pure T) (.done ?_)))
  simp [fzF,fzH,fzV,fzf,fzp,Blk.fz,htO,htT,mapRL_pure]
  intro gm
  first | refine ⟨_,_,_,.pure hcO (by simp),?_⟩ | refine ⟨_,⟨_,_,.pure hcO (by simp)⟩,?_⟩ | refine ⟨_,_,⟨_,.pure hcO (by simp)⟩,?_⟩
  simp
  first | refine ⟨_,_,_,.pure hcS (by simp),?_⟩ | refine ⟨_,⟨_,_,.pure hcS (by simp)⟩,?_⟩ | refine ⟨_,_,⟨_,.pure hcS (by simp)⟩,?_⟩
  simp [rspV,mapRL_pure]
  try rfl
end Go.Proofs.YtcmblmkbdenakaaGreatDoor
namespace Go.Proofs.YtcmblmkbdenakaaGreatDoor
open Go
theorem tabU_set (N : Nat) (F : Nat→Nat) (n x : Nat) : (tab N fun j=>u8V (F j)).set n (.int .u8 (x : Int)) = tab N fun j=>u8V (upd1 F n x j):=by
 rw [tab_set]
 refine tab_congr fun j _=>?_
 by_cases h : j = n
 ·subst h; simp [u8V]
 ·rw [upd1_ne _ _ h,upd1_ne _ _ h]
theorem tabU_pure (N : Nat) (F : Nat→Nat) : V.pureL (tab N fun j=>u8V (F j)) = true:=tab_pure fun _=>rfl
theorem load_c (c : Ci) (hg : c.good) (p : Pt) (hp : p.fit c) (b g : Nat) (h2 : b ≠ 2) (h3 : b ≠ 3) : ICallO Tryz.prog gl0 46 [runV c (.ref b g 0 c.n.length (some c.n.length)),p.v] [(b,.row g 1 (tab c.n.length fun _=>u8V 0))]
  (fun v h=>v = .tup []∧h = [(b,.row g 1 (tab c.n.length fun i=>u8V (ini c p i)))]):=by
 have hn1:=hg.n1
 have l0:=cnt_le 0 c.n
 have l1:=cnt_le 14 c.n
 have ci:=inputsN_c c (by omega)
 have cs:=statesN_c c (by omega)
 have hI0 : ∀ x ∈ ids 0 c.n 0,x < c.n.length:=fun x hx=>(ids_lt hx).1
 have hS0 : ∀ x ∈ ids 14 c.n 0,x < c.n.length:=fun x hx=>(ids_lt hx).1
 have hIl : (ids 0 c.n 0).length = cnt 0 c.n:=rfl
 have hSl : (ids 14 c.n 0).length = cnt 14 c.n:=rfl
 have hpi:=hp.i
 have hps:=hp.s
 unfold ini
 generalize ids 0 c.n 0 = I at ci hIl hI0 ⊢
 generalize ids 14 c.n 0 = S at cs hSl hS0 ⊢
 rw [← hIl] at ci l0 hpi
 rw [← hSl] at cs l1 hps
 obtain ⟨N,hN⟩ : ∃ N,c.n.length = N:=⟨_,rfl⟩
 rw [hN] at hn1 hI0 hS0 l0 l1 ⊢
 refine CallO.of_W ok46 rfl ?_
 simp [i46,x46]
 intro gf1 gf2
 generalize gf1 2 = g2
 generalize gf2 3 = g3
 refine CallO.pure ci (by simp) ?_
 simp
 refine LoopP.of (X:=Nat) (fun i=>[(12,natV i),(11,natV I.length),(10,.sl (natsV I) (some I.length)),(3,.ptr 3 g3 0 0),(2,.ptr 2 g2 0 0)])
  (fun i=>[(3,.row g3 2 [p.v]),(2,.row g2 5 [runV c (.ref b g 0 N (some N))]),(b,.row g 1 (tab N fun j=>u8V (put (I.take i) (p.i.take i) (fun _=>0) j)))])
  (fun i=>i ≤ I.length) (fun i=>I.length - i) 0 (Nat.zero_le _) (by simp [natV]) (by simp [put,h2,h3]) ?_
 intro i hi
 simp [natV]
 refine BrB.of (fun hb=>?_) (fun hb=>?_)
 ·have hi' : i < I.length:=of_decide_eq_true hb
  have hip : i < p.i.length:=by omega
  have hw:=wrapN i (by omega)
  obtain ⟨n,hn⟩ : ∃ n,I[i] = n:=⟨_,rfl⟩
  have hnN : n < N:=hI0 n (by rw [← hn]; exact List.getElem_mem hi')
  obtain ⟨x,hx⟩ : ∃ x,p.i[i] = x:=⟨_,rfl⟩
  have hpt:=put_take (f:=fun _=>0) i hpi.symm hi'
  rw [hn,hx] at hpt
  have hst:=tabU_set N (put (I.take i) (p.i.take i) fun _=>0) n x
  rw [← hpt] at hst
  simp only [u8V] at hst
  simp [hi',hip,natsV_get,hn,hx,u8V,hnN,h2,h3,hw,tab_get]
  exact ⟨i + 1,hi',by simp,⟨Ne.symm h3,Ne.symm h2,hst⟩,by omega⟩
 have hi' : i = I.length:=by have:=of_decide_eq_false hb; omega
 subst hi'
 rw [List.take_length,List.take_of_length_le (l:=p.i) (by omega)]
 generalize put I p.i (fun _=>0) = F
 simp
 refine CallO.pure cs (by simp) ?_
 simp
 refine LoopP.of (X:=Nat) (fun i=>[(31,natV i),(30,natV S.length),(29,.sl (natsV S) (some S.length)),(3,.ptr 3 g3 0 0),(2,.ptr 2 g2 0 0)])
  (fun i=>[(3,.row g3 2 [p.v]),(2,.row g2 5 [runV c (.ref b g 0 N (some N))]),(b,.row g 1 (tab N fun j=>u8V (put (S.take i) (p.s.take i) F j)))])
  (fun i=>i ≤ S.length) (fun i=>S.length - i) 0 (Nat.zero_le _) (by simp [natV]) (by simp [put,h2,h3]) ?_
 intro i hi
 simp [natV]
 refine BrB.of (fun hb=>?_) (fun hb=>?_)
 ·have hi' : i < S.length:=of_decide_eq_true hb
  have hip : i < p.s.length:=by omega
  have hw:=wrapN i (by omega)
  obtain ⟨n,hn⟩ : ∃ n,S[i] = n:=⟨_,rfl⟩
  have hnN : n < N:=hS0 n (by rw [← hn]; exact List.getElem_mem hi')
  obtain ⟨x,hx⟩ : ∃ x,p.s[i] = x:=⟨_,rfl⟩
  have hpt:=put_take (f:=F) i hps.symm hi'
  rw [hn,hx] at hpt
  have hst:=tabU_set N (put (S.take i) (p.s.take i) F) n x
  rw [← hpt] at hst
  simp only [u8V] at hst
  simp [hi',hip,natsV_get,hn,hx,u8V,hnN,h2,h3,hw,tab_get]
  exact ⟨i + 1,hi',by simp,⟨Ne.symm h3,Ne.symm h2,hst⟩,by omega⟩
 ·have hi' : i = S.length:=by have:=of_decide_eq_false hb; omega
  subst hi'
  rw [List.take_length,List.take_of_length_le (l:=p.s) (by omega)]
  simp
  refine .done ?_
  simp [h2,h3]
theorem obs_congr {c : Ci} (hg : c.good) {f f' : Nat→Nat} (h : ∀ i,i < c.n.length→f i = f' i) : obsO c f = obsO c f'∧obsS c f = obsS c f':=by
 refine ⟨List.map_congr_left fun x hx=>?_,List.map_congr_left fun n hn=>?_⟩
 ·obtain ⟨h0,h1⟩:=hg.o hx
  rw [h _ (by omega)]
 ·obtain ⟨hnc,x,hxi,x0,x1,-⟩:=nd_dff hg hn
  simp only [nxtN]
  rw [c.nd_get hnc,hxi]
  simp only []
  rw [h _ (by omega)]
theorem observeT_c (c : Ci) (hg : c.good) (f : Nat→Nat) (cap : Option Nat) : PureC Tryz.prog gl0 48 [runV c (.sl (tab c.n.length fun j=>u8V (f j)) cap)] (rspV (obsO c f) (obsS c f)):=by
 have h:=observe_c c hg (tab c.n.length f) cap (by simp)
 obtain ⟨e1,e2⟩:=obs_congr hg (f:=fun i=>(tab c.n.length f).getD i 0) (f':=f) fun i hi=>by
  rw [List.getD_eq_getElem?_getD,tab_get? _ hi]; rfl
 rw [e1,e2,tab_map] at h
 exact h
set_option maxRecDepth 100000 in
theorem run_c (c : Ci) (hg : c.good) (p : Pt) (hp : p.fit c) : PureC Tryz.prog gl0 16 [c.v,p.v] (.tup [rspV (obsO c (netN c p)) (obsS c (netN c p)),.sl (tab c.n.length fun i=>u8V (netN c p i)) (some c.n.length),.int .i64 0]):=by
 have hn1:=hg.n1
 have hft:=sfits_c c hg p hp
 have hob:=observeT_c c hg (netN c p) (some c.n.length)
 unfold runV at hob
 have hld:=fun b g=>load_c c hg p hp b g
 refine PureC.of_W 2 ok16 rfl ?_
 simp [i16,x16]
 intro gf1 gf2 gf3
 generalize gf1 2 = g2
 generalize gf2 3 = g3
 generalize gf3 4 = g4
 refine CallO.own 1000 (order_c c hg.wf) (by simp) (by simp) ?_
 rintro v h (⟨h1,-⟩ | ⟨-,g,L,rfl,rfl,hR,hpw⟩) gf4
 ·exact absurd hg.chk h1
 have hord : Ord c L:=⟨hR,hpw (by omega)⟩
 have hLl : L.length = c.n.length:=hR.len
 simp [upH,upS,Blk.rn,map_rn_pure (natsV_pure L)]
 generalize gf4 1000 + g = g9
 refine CallO.pure hft (by simp) ?_
 simp
 intro gm
 refine ⟨by omega,rfl,?_⟩
 generalize gm 9 = gr
 generalize gm 34 = gn
 refine CallO.lend [34] [(34,.row gn 1 (tab c.n.length fun _=>u8V 0))] [(9,.row gr 5 [runV c (.ref 34 gn 0 c.n.length (some c.n.length))]),(1000,.row g9 1 (natsV L)),(4,.row g4 2 [.agg [.nil,.nil]]),(2,.row g2 4 [c.v])]
  (hld 34 gn (by simp) (by simp)) (by simp [V.inBL_pure]) (by simp [tab_const,u8V]) (by simp [V.inBL_pure,tabU_pure c.n.length fun _=>0]) (by simp [runV]) (by simp) ?_
 rintro v h ⟨rfl,rfl⟩
 refine ⟨rfl,by simp [V.inBL_pure,tabU_pure],?_⟩
 simp
 intro gf5
 generalize gf5 39 = g39
 have hval:=hg.val
 obtain ⟨N,hN⟩ : ∃ N,c.n.length = N:=⟨_,rfl⟩
 rw [hN] at hLl hn1 ⊢
 have hLN : ∀ x ∈ L,x < N:=fun x hx=>by rw [← hN]; exact hR.lt x hx
 refine LoopP.ofF (X:=Nat × Nat × Nat × List V × Option Nat) (fun z=>[(42,natV z.1),(41,natV N),(40,.ref 1000 g9 0 N (some N)),(10,.ref 2000 z.2.1 0 z.2.2.1 z.2.2.2.2),(9,.ptr 9 gr 0 0),(4,.ptr 4 g4 0 0)])
  (fun z=>[(9,.row gr 5 [runV c (.ref 34 gn 0 N (some N))]),(1000,.row g9 1 (natsV L)),(34,.row gn 1 (tab N fun j=>u8V (evl (nevN c) (combC c) (L.take z.1) (ini c p) j))),(4,.row g4 2 [.agg [.nil,.nil]]),(2000,.row z.2.1 1 z.2.2.2.1)])
  (fun z=>z.1 ≤ N∧z.2.2.1 ≤ z.2.2.2.1.length) (fun z=>N - z.1) ?_ ?_
 ·refine .move 39 2000 _ (by simp) (by simp; rfl) fun g'=>.done ⟨(0,g',0,[],some 16),⟨by simp,by simp⟩,by simp [natV],?_⟩
  simp [evl,runV,map_rn_pure (natsV_pure L),map_rn_pure (tabU_pure N (ini c p)),rnL_pure _ (nds_pure _),rnL_pure _ (mds_pure _),rnL_pure _ (ints_pure _),rnL_pure _ (strs_pure _)]
  try rfl
 rintro ⟨i,gt,k,es,cap⟩ ⟨q1,q2⟩
 dsimp only at q1 q2 ⊢
 obtain ⟨F,hF⟩ : ∃ F,evl (nevN c) (combC c) (L.take i) (ini c p) = F:=⟨_,rfl⟩
 rw [hF]
 simp [natV]
 refine BrB.of (fun hb=>?_) (fun hb=>?_)
 ·have hi : i < N:=of_decide_eq_true hb
  have hw:=wrapN i (by omega)
  have hiL : i < L.length:=by omega
  obtain ⟨n,hn⟩ : ∃ n,L[i] = n:=⟨_,rfl⟩
  have hnN : n < N:=hLN n (by rw [← hn]; exact List.getElem_mem hiL)
  have hnc : n < c.n.length:=by omega
  obtain ⟨y,hy⟩ : ∃ y,c.n[n] = y:=⟨_,rfl⟩
  have hst : evl (nevN c) (combC c) (L.take (i + 1)) (ini c p) = if combC c n = true then upd1 F n (nevN c n F) else F:=by
   rw [List.take_succ_eq_append_getElem hiL,hn,evl_snoc,hF]
  have hcb : combC c n = decide (1 ≤ y.k∧y.k ≤ 13):=by unfold combC combB; rw [c.nd_get hnc,hy]
  have hyi:=hval.i n hnc
  have hyl:=hval.l n hnc
  rw [c.nd_get hnc,hy] at hyi hyl
  have hcc:=comb_c y.k
  rw [← hcb] at hcc
  have hyk:=hg.wf.k y (by rw [← hy]; exact List.getElem_mem hnc)
  simp [hi,hLl,natsV_get,hn,hnc,hy]
  intro gf6
  generalize gf6 13 = g13
  refine CallO.pure hcc (by simp) ?_
  cases hq : combC c n with
  | false=>
   rw [hq,if_neg (by simp)] at hst
   simp [hw]
   refine .done ⟨i + 1,gt,k,es,⟨hi,q2⟩,by simp,?_,by omega⟩
   simp [hst]
  | true=>
   rw [hq,if_pos rfl] at hst
   obtain ⟨l,hl⟩ : ∃ l,c.g n = l:=⟨_,rfl⟩
   have hyl2 : y.i = l.map fun (x : Nat)=>(x : Int):=by
    rw [← hl]
    unfold Ci.g
    have hq2 : combB (c.nd n).k = true:=hq
    rw [if_pos hq2,c.nd_get hnc,hy,List.map_map]
    have hid : ∀ x ∈ y.i,((fun (x : Nat)=>(x : Int)) ∘ Int.toNat) x = id x:=fun x hx=>Int.toNat_of_nonneg (hyi x hx).1
    rw [List.map_congr_left hid,List.map_id]
   have hlN : ∀ x ∈ l,x < N:=fun x hx=>by
    have:=(hyi (x : Int) (by rw [hyl2]; exact List.mem_map_of_mem hx)).2
    omega
   have hll : l.length ≤ 16:=by rw [hyl2] at hyl; simpa using hyl
   have hev : nevN c n F = logE y.k.toNat (l.map F):=by unfold nevN; rw [c.nd_get hnc,hy,hl]
   have hin : ints y.i = natsV l:=by rw [hyl2,← natsV_ints]
   have hyv : y.v = .agg [.int .u8 y.k,.sl (natsV l) none,.int .i64 y.a,.int .i64 y.b]:=by unfold Nd.v; rw [hin]
   simp [hin]
   have hll2 : y.i.length = l.length:=by rw [hyl2]; simp
   try rw [hll2]
   refine LoopP.ofM (X:=Nat × Nat × List V × Option Nat) (fun z=>[(61,natV z.1),(60,natV l.length),(59,.sl (natsV l) none),(10,.ref 2000 z.2.1 0 z.1 z.2.2.2),(13,.ptr 13 g13 0 0),(12,natV n),(42,natV i),(41,natV N),(40,.ref 1000 g9 0 N (some N)),(9,.ptr 9 gr 0 0),(4,.ptr 4 g4 0 0)])
    (fun z=>[(13,.row g13 4 [y.v]),(9,.row gr 5 [runV c (.ref 34 gn 0 N (some N))]),(1000,.row g9 1 (natsV L)),(34,.row gn 1 (tab N fun j=>u8V (F j))),(4,.row g4 2 [.agg [.nil,.nil]]),(2000,.row z.2.1 1 z.2.2.1)])
    (fun z=>z.1 ≤ l.length∧z.1 ≤ z.2.2.1.length∧z.2.2.1.take z.1 = ((l.take z.1).map F).map u8V) (fun z=>l.length - z.1) (.done ⟨(0,gt,es,cap),⟨by simp,by simp,by simp⟩,by simp [natV],by simp⟩) ?_
   rintro ⟨j,gt2,es2,cap2⟩ ⟨p1,p2,p3⟩
   dsimp only at p1 p2 p3 ⊢
   simp [natV]
   refine BrB.of (fun hb2=>?_) (fun hb2=>?_)
   ·have hj : j < l.length:=of_decide_eq_true hb2
    have hw2:=wrapN j (by omega)
    obtain ⟨x,hx⟩ : ∃ x,l[j] = x:=⟨_,rfl⟩
    have hxN:=hlN x (by rw [← hx]; exact List.getElem_mem hj)
    have hnx:=congrArg (List.map u8V) (map_take_succ F hj hx)
    rw [List.map_append,← p3] at hnx
    simp only [List.map_cons,List.map_nil,u8V] at hnx
    simp [hj,natsV_get,hx,hxN,tab_get,u8V,hw2]
    intro ga gb
    refine ⟨⟨p2,by omega⟩,.done ⟨j + 1,gb 2000,List.take j es2 ++ [.int .u8 (F x : Int)],⟨hj,by simp; omega,?_⟩,by simp,by simp,by omega⟩⟩
    rw [List.take_of_length_le (by simp; omega)]
    simpa [u8V] using hnx.symm
   ·have hj : j = l.length:=by have:=of_decide_eq_false hb2; omega
    subst hj
    rw [List.take_length] at p3
    have hku : u8V y.k.toNat = .int .u8 y.k:=by simp [u8V,Int.toNat_of_nonneg hyk.1]
    have hlog:=logE_c y.k.toNat (by omega) (l.map F) cap2 (by simp; omega)
    rw [← hev,hku] at hlog
    obtain ⟨E,hE⟩ : ∃ E,nevN c n F = E:=⟨_,rfl⟩
    rw [hE] at hlog hst
    have hset:=tabU_set N F n E
    rw [← hst] at hset
    simp only [u8V] at hlog hset
    simp
    intro gm2
    first | refine ⟨_,_,_,.borrow 2 hlog ?_ rfl,?_⟩ | refine ⟨_,⟨_,_,.borrow 2 hlog ?_ rfl⟩,?_⟩ | refine ⟨_,_,⟨_,.borrow 2 hlog ?_ rfl⟩,?_⟩
    ·simp only [List.map_cons,List.map_nil]
     rw [frz_ref (es:=es2) (sz:=1) (by simp) (by omega),List.drop_zero,p3,frz_all _ _ (u8s_pure _),frz_pure _ _ rfl]
    simp [hnN,tab_get,u8V,hw,hset]
    exact ⟨rfl,.done ⟨i + 1,gt2,l.length,es2,⟨hi,p2⟩,by simp,by simp,by omega⟩⟩
 ·have hi : i = N:=by have:=of_decide_eq_false hb; omega
  subst hi
  rw [List.take_of_length_le (by omega),← hord.eq] at hF
  have hF2 : netN c p = F:=hF
  rw [hF2,hN] at hob
  have hpu:=run_pure c (tab i F) (some i)
  rw [tab_map] at hpu
  have htk : List.take i (tab i fun j=>u8V (F j)) = tab i fun j=>u8V (F j):=List.take_of_length_le (by simp)
  have hmp:=mapRL_pure (f:=fzf 34 gn (tab i fun j=>u8V (F j))) (p:=fzp 34 gn (tab i fun j=>u8V (F j)))
  rw [hF2]
  simp
  refine .mk [(9,.ptr 9 gr 0 0),(4,.ptr 4 g4 0 0)] [(9,.row gr 5 [runV c (.ref 34 gn 0 i (some i))]),(34,.row gn 1 (tab i fun j=>u8V (F j))),(4,.row g4 2 [.agg [.nil,.nil]])] (by simp) (by simp)
   (.frz (g:=gn) (sz:=1) (es:=tab i fun j=>u8V (F j)) 34 (by simp) (tabU_pure _ _) (.done ?_))
  simp [fzF,fzH,fzV,fzf,fzp,Blk.fz,runV,mapRL_pure,htk]
  intro gm2
  first | refine ⟨_,_,_,.pure hob (by simpa [runV] using hpu),?_⟩ | refine ⟨_,⟨_,_,.pure hob (by simpa [runV] using hpu)⟩,?_⟩ | refine ⟨_,_,⟨_,.pure hob (by simpa [runV] using hpu)⟩,?_⟩
  simp [rspV,mapRL_pure,tabU_pure]
  rfl
end Go.Proofs.YtcmblmkbdenakaaGreatDoor
namespace Go.Proofs.YtcmblmkbdenakaaGreatDoor
open Go
theorem ordL_ord {c : Ci} {L : List Nat} (h : Ord c L) : Ord c (ordL c):=by rw [h.eq]; exact h
theorem Ci.good.ord {c : Ci} (hg : c.good) : Ord c (ordL c):=by
 have hlv : IsLv c.n.length c.g (lvOf c):=hg.ac.lv
 have hlt:=hlv.lt hg.val.g
 refine ordL_ord (L:=lvL c.n.length (lvOf c) c.n.length) ⟨⟨?_,fun x hx=>((lvL_mem _ _).1 hx).1⟩,lvL_pw _⟩
 have h1:=lvL_len (n:=c.n.length) (lv:=lvOf c) c.n.length
 have h2:=lvL_all hlt
 omega
theorem good_of (x : Cx) (hm : x.mem = false) : x.ci.good where
 wf:=ci_wf x
 chk:=chk_ok x
 sh:=shE_ok x
 ac:=acyc_below (ci_below x)
 m:=by simp [Cx.ci,hm]
 k:=fun y hy hk=>by
  obtain ⟨i,hi,rfl⟩:=List.getElem_of_mem hy
  rcases (cxn_ok x).1 i hi with h | h | h | h
  ·have:=h.1; omega
  ·have:=h.1; omega
  ·rw [hm] at h; exact absurd h.1 (by simp)
  ·have:=h.2.1; omega
 n0:=by rw [(cxn_ok x).2]; exact (ns0_ok x).2.2.1
 n1:=by rw [(cxn_ok x).2]; have:=(ns0_ok x).2.2.2; have e : x.nn ≤ 16:=this; omega
def Cx.nm (x : Cx) : Cx:={ x with mem:=false }
theorem nm_good (x : Cx) : x.nm.ci.good:=good_of _ rfl
end Go.Proofs.YtcmblmkbdenakaaGreatDoor
