/- Netlists: circuits among the arguments; how much they hold. Conditions: none. -/
import Derived.Test.YtcmblmkbdenakaaGreatDoorNet1
import Derived.Test.YtcmblmkbdenakaaGreatDoorBase11
import Derived.Test.YtcmblmkbdenakaaGreatDoorRows
import Derived.Test.YtcmblmkbdenakaaGreatDoorD11
import Derived.Test.YtcmblmkbdenakaaGreatDoorD6
import Derived.Test.YtcmblmkbdenakaaGreatDoorLV
import Derived.Test.YtcmblmkbdenakaaGreatDoorXL9
set_option linter.unusedSimpArgs false
set_option linter.unusedVariables false
namespace Go.Proofs.YtcmblmkbdenakaaGreatDoor
open Go Go.RowKit Go.ChangeShapes
set_option maxRecDepth 100000
mutual
theorem size_encD {H : Type} : ∀ d : DataW H,(encD d).size ≤ Rows.uptoBulk d
 | .lit (.int k n)=>by simp [encD,V.size,Rows.uptoBulk]
 | .lit (.bool b)=>by simp [encD,V.size,Rows.uptoBulk]
 | .lit (.string s)=>by simp [encD,V.size,Rows.uptoBulk]
 | .lit (.float _ _)=>by simp [encD,V.size]
 | .lit .nil=>by simp [encD,V.size]
 | .nil=>by simp [encD,V.size,V.sizeL,Rows.uptoBulk]
 | .ptr d=>by simp [encD,V.size]
 | .slice es sp=>by
  have:=size_encDs es
  simp only [encD,V.size,Rows.uptoBulk]; omega
 | .agg ps=>by
  have:=size_encDc ps
  simp only [encD,V.size,Rows.uptoBulk]; omega
 | .iface t d=>by simp [encD,V.size]
 | .map es=>by simp [encD,V.size]
 | .held h=>by simp [encD,V.size]
theorem size_encDs {H : Type} : ∀ l : List (DataW H),V.sizeL (encDs l) ≤ Rows.uptoBulkAll l
 | []=>by simp [encDs,V.sizeL]
 | d :: r=>by
  have h1:=size_encD d
  have h2:=size_encDs r
  simp only [encDs,V.sizeL,Rows.uptoBulkAll]; omega
theorem size_encDc {H : Type} : ∀ l : List (DataW H),V.sizeL (encDc l) ≤ Rows.uptoBulkAll l
 | []=>by simp [encDc,V.sizeL]
 | d :: r=>by
  have h1:=size_encD d
  have h2:=size_encDc r
  simp only [encDc,V.sizeL_app,V.size_cells,Rows.uptoBulkAll]; omega
end
variable {v : V} {n : Nat}
structure Nd.ok (x : Nd) : Prop where
 k : (Lit.int .u8 x.k).wf = true
 i : ∀ i ∈ x.i,(Lit.int .i64 i).wf = true
 a : (Lit.int .i64 x.a).wf = true
 b : (Lit.int .i64 x.b).wf = true
structure Md.ok (x : Md) : Prop where
 a : ∀ i ∈ x.a,(Lit.int .i64 i).wf = true
 d : ∀ i ∈ x.d,(Lit.int .i64 i).wf = true
 w : (Lit.int .i64 x.w).wf = true
structure Ci.ok (c : Ci) : Prop where
 n : ∀ x ∈ c.n,x.ok
 m : ∀ x ∈ c.m,x.ok
 o : ∀ i ∈ c.o,(Lit.int .i64 i).wf = true
structure Ci.small (c : Ci) : Prop where
 n : c.n.length ≤ 1048576
 i : ∀ x ∈ c.n,x.i.length ≤ 1048576
 s : c.s.length ≤ 1048576
 t : ∀ x ∈ c.s,x.length ≤ 1048576
 m : c.m.length ≤ 1048576
 a : ∀ x ∈ c.m,x.a.length ≤ 1048576
 d : ∀ x ∈ c.m,x.d.length ≤ 1048576
 o : c.o.length ≤ 1048576
end Go.Proofs.YtcmblmkbdenakaaGreatDoor
namespace Go.Proofs.YtcmblmkbdenakaaGreatDoor
open Go
def wgt (l : List Nd) : Nat:=(l.map fun x=>1 + x.i.length).sum
theorem wgt_big {l : List Nd} (h : ∀ x ∈ l,x.i.length ≤ 1048576) : wgt l ≤ l.length * 1048577:=by
 induction l with
 | nil=>simp [wgt]
 | cons x l ih=>
  have e : wgt (x :: l) = 1 + x.i.length + wgt l:=by simp [wgt]
  have h1:=h x List.mem_cons_self
  have h2:=ih fun y hy=>h y (List.mem_cons_of_mem _ hy)
  rw [e,List.length_cons,Nat.add_mul]
  omega
theorem wgt_snoc (l : List Nd) (i : Nat) (h : i < l.length) : wgt (l.take (i + 1)) = wgt (l.take i) + 1 + l[i].i.length:=by
 rw [take_snoc _ _ h]; unfold wgt; rw [List.map_append,List.sum_append]; simp only [List.map_cons,List.map_nil,List.sum_cons,List.sum_nil]; omega
theorem wgt_take (l : List Nd) (i : Nat) : wgt (l.take i) ≤ wgt l:=by
 have : wgt l = wgt (l.take i) + wgt (l.drop i):=by
  conv=>lhs; rw [← List.take_append_drop i l]
  unfold wgt
  rw [List.map_append,List.sum_append]
 omega
def greS (c : Ci) : Bool:=decide (200 < c.s.length + c.m.length + c.o.length + wgt c.n)
theorem greS_c (c : Ci) (hs : c.small) : PureC Tryz.prog gl0 34 [c.v] (.bool (greS c)):=by
 have h1:=hs.n
 have h2:=hs.s
 have h3:=hs.m
 have h4:=hs.o
 have h5:=wgt_big hs.i
 obtain ⟨q,hq⟩ : ∃ q,greS c = q:=⟨_,rfl⟩
 rw [hq]
 obtain ⟨S0,hS0⟩ : ∃ S0,c.s.length + c.m.length = S0:=⟨_,rfl⟩
 obtain ⟨S1,hS1⟩ : ∃ S1,S0 + c.o.length = S1:=⟨_,rfl⟩
 have w1 : IntKind.i64.wrap ((c.s.length : Int) + (c.m.length : Int)) = (S0 : Int):=addN hS0 (by omega)
 have w3 : IntKind.i64.wrap ((S0 : Int) + (c.o.length : Int)) = (S1 : Int):=addN hS1 (by omega)
 have hq2 : decide (200 < S1 + wgt c.n) = q:=by rw [← hq]; unfold greS; rw [← hS1,← hS0]
 refine PureC.of_W 1 ok34 rfl ?_
 simp [i34,x34,w1,w3]
 intro gf1
 generalize gf1 1 = g1
 refine LoopP.of (X:=Nat) (fun i=>[(4,natV i),(3,natV (S1 + wgt (c.n.take i))),(1,.ptr 1 g1 0 0)]) (fun _=>[(1,.row g1 4 [c.v])]) (fun i=>i ≤ c.n.length) (fun i=>c.n.length - i) 0 (by simp) (by simp [natV,wgt]) (by simp) ?_
 intro i hi
 have htk:=wgt_take c.n i
 have hnx:=fun h=>wgt_snoc c.n i h
 have hend : i = c.n.length→wgt (c.n.take i) = wgt c.n:=fun h=>by rw [h,List.take_length]
 generalize wgt (c.n.take i) = T at htk hnx hend ⊢
 obtain ⟨U,hU⟩ : ∃ U,S1 + T = U:=⟨_,rfl⟩
 rw [hU]
 simp [natV]
 refine BrB.of (fun hb=>?_) (fun hb=>?_)
 ·have hi' : i < c.n.length:=of_decide_eq_true hb
  have hw:=wrapN i (by omega)
  simp [hb]
  refine BrB.of (fun hb2=>?_) (fun hb2=>?_)
  ·have hU2 : U ≤ 200:=by have:=of_decide_eq_true hb2; omega
   obtain ⟨y,hy⟩ : ∃ y,c.n[i] = y:=⟨_,rfl⟩
   have hn2:=hnx hi'
   rw [hy] at hn2
   have hyi:=hs.i y (hy ▸ List.getElem_mem hi')
   have hwU:=wrapN U (by omega)
   obtain ⟨U1,hU1⟩ : ∃ U1,U + 1 = U1:=⟨_,rfl⟩
   rw [hU1] at hwU
   obtain ⟨U3,hU3⟩ : ∃ U3,U1 + y.i.length = U3:=⟨_,rfl⟩
   have w4 : IntKind.i64.wrap ((U1 : Int) + (y.i.length : Int)) = (U3 : Int):=addN hU3 (by omega)
   simp [hi',hy,Nd.v,hw,hwU,w4]
   exact ⟨i + 1,hi',⟨by simp,by rw [hn2]; omega⟩,by omega⟩
  ·have hU2 : ¬ U ≤ 200:=by have:=of_decide_eq_false hb2; omega
   have e : q = true:=by rw [← hq2]; exact decide_eq_true (by omega)
   simp [hb2,e]
   omega
 ·have hi' : i = c.n.length:=by have:=of_decide_eq_false hb; omega
  have e : decide (200 < U) = q:=by rw [← hq2,← hend hi',hU]
  simp [hb]
  exact e
theorem greS_facts {c : Ci} (hok : c.ok) (hs : c.small) : c.wf:=by
 refine ⟨fun x hx=>?_,fun x hx=>?_⟩
 ·have:=(hok.n x hx).k
  simp [Lit.wf,IntKind.min,IntKind.max,IntKind.bits,IntKind.signed] at this
  omega
 ·have:=hs.t x hx; omega
end Go.Proofs.YtcmblmkbdenakaaGreatDoor
namespace Go.Proofs.YtcmblmkbdenakaaGreatDoor
open Go
theorem zeros_eq (m : Nat) : List.replicate m (V.agg [.int .i64 0,.int .i64 0]) = (List.replicate m ((0 : Int),(0 : Int))).map cV:=by rw [List.map_replicate]; rfl
theorem gateP_bad {k : Nat} {ts : List (Nat × Nat)} (h : (decide (k ≤ 15) && widB k ts.length) = false) : gateP k ts = (nev,nev):=by unfold gateP; rw [if_pos h]
theorem pnP_bad {k : Nat} {p : Int} {ts : List (Nat × Nat)} (h : (decide (k ≤ 15) && widB k ts.length) = false∨p < 0∨(ts.length : Int) ≤ p) : pnP k p ts = nev:=by
 unfold pnP
 rw [if_pos]
 rcases h with h | h | h
 ·exact .inl h
 ·exact .inr (.inr (.inl h))
 ·exact .inr (.inr (.inr h))
set_option maxHeartbeats 4000000 in
set_option maxRecDepth 100000 in
theorem law6_c (c : Ci) (hok : c.ok) (hs : c.small) (n p : Int) (z0 z1 z2 : Nat) (hz0 : z0 < 256) (hz1 : z1 < 256) (hz2 : z2 < 256) :
  PureC Tryz.prog gl0 9 [c.v,.agg [.int .i64 n,.int .i64 p],.agg [u8V z0,u8V z1,u8V z2]] (.bool true):=by
 have hwf:=greS_facts hok hs
 have hgr:=greS_c c hs
 have hck:=check_c c hwf
 refine PureC.of_W 3 ok9 rfl ?_
 simp [i9,x9,u8V]
 intro ga gb gc
 generalize ga 3 = g3
 generalize gb 4 = g4
 generalize gc 5 = g5
 refine CallO.pure hgr (by simp) ?_
 simp
 refine BrB.of (fun hb=>?_) (fun hb=>?_)
 ·simp
  refine CallO.pure lives_c rfl ?_
  simp
 simp
 refine CallO.pure hck (by simp) ?_
 simp
 obtain ⟨m,hm⟩ : ∃ m,z1 % 20 = m:=⟨_,rfl⟩
 have hm20 : m < 20:=by omega
 have hmt : ((z1 : Int)).tmod 20 = (m : Int):=by rw [← hm]; rfl
 have hmw : IntKind.i64.wrap (m : Int) = (m : Int):=by rw [wrap_i64] <;> omega
 have hm2 : m ≤ 549755813888:=by omega
 have hfan:=fanin_c (z0 : Int) (by omega) (by omega)
 have hwd : widB (z0 : Int) m = (decide (kLo z0 ≤ m) && decide ((m : Int) ≤ kHi z0)):=rfl
 have hlz : ((List.replicate m ((0 : Int),(0 : Int))).map capC).length = m:=by simp
 have hGt:=sgate_c z0 hz0 (List.replicate m ((0 : Int),(0 : Int))) (some m) (by simp; omega)
 have hPn:=fun q=>spin_c z0 hz0 q (List.replicate m ((0 : Int),(0 : Int))) (some m) (by simp; omega)
 have hgb : (decide (z0 ≤ 15) && widB (z0 : Int) m) = false→gateP z0 ((List.replicate m ((0 : Int),(0 : Int))).map capC) = (nev,nev):=fun h=>gateP_bad (by rw [hlz]; exact h)
 have hpb : ∀ q : Int,(decide (z0 ≤ 15) && widB (z0 : Int) m) = false∨q < 0∨(m : Int) ≤ q→pnP z0 q ((List.replicate m ((0 : Int),(0 : Int))).map capC) = nev:=fun q h=>pnP_bad (by rw [hlz]; exact h)
 have hz:=zeros_eq m
 have hzp:=cVs_pure (List.replicate m ((0 : Int),(0 : Int)))
 have hzl : ((List.replicate m ((0 : Int),(0 : Int))).map cV).length = m:=by simp
 have hfr : ∀ (h : Hp) (g : Nat) (Z : List V),lk h 129 = some (.row g 2 Z)→V.pureL Z = true→Z.length = m→frz h 1 (.ref 129 g 0 m (some m)) = .sl Z (some m):=fun h g Z hh hp hl=>frz_rowP (sz:=2) 0 hh hp hl.symm
 generalize (List.replicate m ((0 : Int),(0 : Int))).map capC = TS at *
 generalize (List.replicate m ((0 : Int),(0 : Int))).map cV = Z at *
 simp only [u8V] at hGt hPn
 have hz2w : IntKind.i64.wrap (z2 : Int) = (z2 : Int):=by rw [wrap_i64] <;> omega
 have hcase : (decide (15 < z0) = true∧(decide (z0 ≤ 15) && widB (z0 : Int) m) = false)∨(decide (15 < z0) = false∧decide ((m : Int) < kLo z0) = true∧(decide (z0 ≤ 15) && widB (z0 : Int) m) = false)∨
   (decide (15 < z0) = false∧decide ((m : Int) < kLo z0) = false∧decide (kHi z0 < (m : Int)) = true∧(decide (z0 ≤ 15) && widB (z0 : Int) m) = false)∨(decide (15 < z0) = false∧decide ((m : Int) < kLo z0) = false∧decide (kHi z0 < (m : Int)) = false∧True):=by
  rw [hwd]
  by_cases q1 : 15 < z0
  ·exact .inl ⟨decide_eq_true q1,by simp; omega⟩
  ·by_cases q2 : (m : Int) < kLo z0
   ·exact .inr (.inl ⟨decide_eq_false q1,decide_eq_true q2,by simp; omega⟩)
   ·by_cases q3 : kHi z0 < (m : Int)
    ·exact .inr (.inr (.inl ⟨decide_eq_false q1,decide_eq_false q2,decide_eq_true q3,by simp; omega⟩))
    ·exact .inr (.inr (.inr ⟨decide_eq_false q1,decide_eq_false q2,decide_eq_false q3,trivial⟩))
 refine CallO.own 1000 (Control_c c hwf) (by simp) (by simp) ?_
 by_cases h0 : chkE c = 0
 ·rintro v h (⟨h1,-⟩ | ⟨-,gA,fA,rfl,rfl,hAl,-⟩) gf1
  ·exact absurd h0 h1
  have hA:=netsC_pure c.n.length fA
  simp [upH,upS,Blk.rn,map_rn_pure hA]
  generalize gf1 1000 + gA = g9
  refine CallO.own 2000 (Sequential_c c hwf) (by simp) (by simp) ?_
  rintro v h (⟨h1,-⟩ | ⟨-,gB,st,L,rfl,rfl,-⟩) gf2
  ·exact absurd h0 h1
  generalize ctL c (stO (ids 14 c.n 0) st) L = fB
  have hB:=netsC_pure c.n.length fB
  simp [upH,upS,Blk.rn,map_rn_pure hB]
  generalize gf2 2000 + gB = g8
  refine CallO.own 3000 (Observe_c c hwf) (by simp) (by simp) ?_
  rintro v h (⟨h1,-⟩ | ⟨-,gC,o,rfl,rfl,-⟩) gf3
  ·exact absurd h0 h1
  have hC:=natsT_pure c.n.length o
  simp [upH,upS,Blk.rn,map_rn_pure hC]
  generalize gf3 3000 + gC = g7
  refine CallO.own 4000 (Line_c c hwf n p) (by simp) (by simp) ?_
  rintro v h ⟨rfl,⟨h1,-⟩ | ⟨-,hbad,rfl⟩ | ⟨-,hgood,z,rfl,-⟩⟩ gf4
  ·exact absurd h0 h1
  ·simp [upH,upS,h0]
   intro gm
   refine BrB.of (fun hb1=>?_) (fun hb1=>?_)
   ·simp [hb1,hmt,hmw,hm2,hz]
    intro gq
    generalize gq 129 = g129
    refine CallO.pure hfan (by simp) ?_
    simp
    intro gr
    generalize gr 21 = g21
    rcases hcase with ⟨d1,hu⟩ | ⟨d1,d2,hu⟩ | ⟨d1,d2,d3,hu⟩ | ⟨d1,d2,d3,-⟩
    ·simp [d1]
     intro gs
     have e1:=hGt
     rw [hgb hu] at e1
     have e2:=hPn (z2 : Int)
     rw [hpb _ (.inl hu)] at e2
     simp only [nC,natV,nev] at e1 e2
     first | refine ⟨_,_,_,.borrow 1 e1 (by rw [List.map_cons,List.map_cons,List.map_nil,hfr _ _ _ (by simp) hzp hzl]; rfl) rfl,?_⟩ | refine ⟨_,⟨_,_,.borrow 1 e1 (by rw [List.map_cons,List.map_cons,List.map_nil,hfr _ _ _ (by simp) hzp hzl]; rfl) rfl⟩,?_⟩ | refine ⟨_,_,⟨_,.borrow 1 e1 (by rw [List.map_cons,List.map_cons,List.map_nil,hfr _ _ _ (by simp) hzp hzl]; rfl) rfl⟩,?_⟩
     simp [eqCells,eqOkB,hz2w]
     first | refine ⟨_,_,_,.borrow 1 e2 (by rw [List.map_cons,List.map_cons,List.map_cons,List.map_nil,hfr _ _ _ (by simp) hzp hzl]; rfl) rfl,?_⟩ | refine ⟨_,⟨_,_,.borrow 1 e2 (by rw [List.map_cons,List.map_cons,List.map_cons,List.map_nil,hfr _ _ _ (by simp) hzp hzl]; rfl) rfl⟩,?_⟩ | refine ⟨_,_,⟨_,.borrow 1 e2 (by rw [List.map_cons,List.map_cons,List.map_cons,List.map_nil,hfr _ _ _ (by simp) hzp hzl]; rfl) rfl⟩,?_⟩
     simp
     first | refine ⟨_,_,_,.pure lives_c rfl,?_⟩ | refine ⟨_,⟨_,_,.pure lives_c rfl⟩,?_⟩ | refine ⟨_,_,⟨_,.pure lives_c rfl⟩,?_⟩
     simp
     simp [indAll,snocF,indF,memN]
    ·simp [d1,d2]
     intro gs
     have e1:=hGt
     rw [hgb hu] at e1
     have e2:=hPn (z2 : Int)
     rw [hpb _ (.inl hu)] at e2
     simp only [nC,natV,nev] at e1 e2
     first | refine ⟨_,_,_,.borrow 1 e1 (by rw [List.map_cons,List.map_cons,List.map_nil,hfr _ _ _ (by simp) hzp hzl]; rfl) rfl,?_⟩ | refine ⟨_,⟨_,_,.borrow 1 e1 (by rw [List.map_cons,List.map_cons,List.map_nil,hfr _ _ _ (by simp) hzp hzl]; rfl) rfl⟩,?_⟩ | refine ⟨_,_,⟨_,.borrow 1 e1 (by rw [List.map_cons,List.map_cons,List.map_nil,hfr _ _ _ (by simp) hzp hzl]; rfl) rfl⟩,?_⟩
     simp [eqCells,eqOkB,hz2w]
     first | refine ⟨_,_,_,.borrow 1 e2 (by rw [List.map_cons,List.map_cons,List.map_cons,List.map_nil,hfr _ _ _ (by simp) hzp hzl]; rfl) rfl,?_⟩ | refine ⟨_,⟨_,_,.borrow 1 e2 (by rw [List.map_cons,List.map_cons,List.map_cons,List.map_nil,hfr _ _ _ (by simp) hzp hzl]; rfl) rfl⟩,?_⟩ | refine ⟨_,_,⟨_,.borrow 1 e2 (by rw [List.map_cons,List.map_cons,List.map_cons,List.map_nil,hfr _ _ _ (by simp) hzp hzl]; rfl) rfl⟩,?_⟩
     simp
     first | refine ⟨_,_,_,.pure lives_c rfl,?_⟩ | refine ⟨_,⟨_,_,.pure lives_c rfl⟩,?_⟩ | refine ⟨_,_,⟨_,.pure lives_c rfl⟩,?_⟩
     simp
     simp [indAll,snocF,indF,memN]
    ·simp [d1,d2,d3]
     intro gs
     have e1:=hGt
     rw [hgb hu] at e1
     have e2:=hPn (z2 : Int)
     rw [hpb _ (.inl hu)] at e2
     simp only [nC,natV,nev] at e1 e2
     first | refine ⟨_,_,_,.borrow 1 e1 (by rw [List.map_cons,List.map_cons,List.map_nil,hfr _ _ _ (by simp) hzp hzl]; rfl) rfl,?_⟩ | refine ⟨_,⟨_,_,.borrow 1 e1 (by rw [List.map_cons,List.map_cons,List.map_nil,hfr _ _ _ (by simp) hzp hzl]; rfl) rfl⟩,?_⟩ | refine ⟨_,_,⟨_,.borrow 1 e1 (by rw [List.map_cons,List.map_cons,List.map_nil,hfr _ _ _ (by simp) hzp hzl]; rfl) rfl⟩,?_⟩
     simp [eqCells,eqOkB,hz2w]
     first | refine ⟨_,_,_,.borrow 1 e2 (by rw [List.map_cons,List.map_cons,List.map_cons,List.map_nil,hfr _ _ _ (by simp) hzp hzl]; rfl) rfl,?_⟩ | refine ⟨_,⟨_,_,.borrow 1 e2 (by rw [List.map_cons,List.map_cons,List.map_cons,List.map_nil,hfr _ _ _ (by simp) hzp hzl]; rfl) rfl⟩,?_⟩ | refine ⟨_,_,⟨_,.borrow 1 e2 (by rw [List.map_cons,List.map_cons,List.map_cons,List.map_nil,hfr _ _ _ (by simp) hzp hzl]; rfl) rfl⟩,?_⟩
     simp
     first | refine ⟨_,_,_,.pure lives_c rfl,?_⟩ | refine ⟨_,⟨_,_,.pure lives_c rfl⟩,?_⟩ | refine ⟨_,_,⟨_,.pure lives_c rfl⟩,?_⟩
     simp
     simp [indAll,snocF,indF,memN]
    ·simp [d1,d2,d3]
     have e1:=hPn (-1)
     rw [hpb _ (.inr (.inl (by decide)))] at e1
     have e2:=hPn (m : Int)
     rw [hpb _ (.inr (.inr (Int.le_refl _)))] at e2
     simp only [natV,nev] at e1 e2
     refine CallO.borrow 1 e1 (by rw [List.map_cons,List.map_cons,List.map_cons,List.map_nil,hfr _ _ _ (by simp) hzp hzl]; rfl) rfl ?_
     simp
     refine CallO.borrow 1 e2 (by rw [List.map_cons,List.map_cons,List.map_cons,List.map_nil,hfr _ _ _ (by simp) hzp hzl]; rfl) rfl ?_
     simp
     refine CallO.pure lives_c rfl ?_
     simp
   have b1:=of_decide_eq_false hb1
   simp [hb1]
   refine BrB.of (fun hb2=>?_) (fun hb2=>?_)
   ·simp [hb2,hmt,hmw,hm2,hz]
    intro gq
    generalize gq 129 = g129
    refine CallO.pure hfan (by simp) ?_
    simp
    intro gr
    generalize gr 21 = g21
    rcases hcase with ⟨d1,hu⟩ | ⟨d1,d2,hu⟩ | ⟨d1,d2,d3,hu⟩ | ⟨d1,d2,d3,-⟩
    ·simp [d1]
     intro gs
     have e1:=hGt
     rw [hgb hu] at e1
     have e2:=hPn (z2 : Int)
     rw [hpb _ (.inl hu)] at e2
     simp only [nC,natV,nev] at e1 e2
     first | refine ⟨_,_,_,.borrow 1 e1 (by rw [List.map_cons,List.map_cons,List.map_nil,hfr _ _ _ (by simp) hzp hzl]; rfl) rfl,?_⟩ | refine ⟨_,⟨_,_,.borrow 1 e1 (by rw [List.map_cons,List.map_cons,List.map_nil,hfr _ _ _ (by simp) hzp hzl]; rfl) rfl⟩,?_⟩ | refine ⟨_,_,⟨_,.borrow 1 e1 (by rw [List.map_cons,List.map_cons,List.map_nil,hfr _ _ _ (by simp) hzp hzl]; rfl) rfl⟩,?_⟩
     simp [eqCells,eqOkB,hz2w]
     first | refine ⟨_,_,_,.borrow 1 e2 (by rw [List.map_cons,List.map_cons,List.map_cons,List.map_nil,hfr _ _ _ (by simp) hzp hzl]; rfl) rfl,?_⟩ | refine ⟨_,⟨_,_,.borrow 1 e2 (by rw [List.map_cons,List.map_cons,List.map_cons,List.map_nil,hfr _ _ _ (by simp) hzp hzl]; rfl) rfl⟩,?_⟩ | refine ⟨_,_,⟨_,.borrow 1 e2 (by rw [List.map_cons,List.map_cons,List.map_cons,List.map_nil,hfr _ _ _ (by simp) hzp hzl]; rfl) rfl⟩,?_⟩
     simp
     first | refine ⟨_,_,_,.pure lives_c rfl,?_⟩ | refine ⟨_,⟨_,_,.pure lives_c rfl⟩,?_⟩ | refine ⟨_,_,⟨_,.pure lives_c rfl⟩,?_⟩
     simp
     simp [indAll,snocF,indF,memN]
    ·simp [d1,d2]
     intro gs
     have e1:=hGt
     rw [hgb hu] at e1
     have e2:=hPn (z2 : Int)
     rw [hpb _ (.inl hu)] at e2
     simp only [nC,natV,nev] at e1 e2
     first | refine ⟨_,_,_,.borrow 1 e1 (by rw [List.map_cons,List.map_cons,List.map_nil,hfr _ _ _ (by simp) hzp hzl]; rfl) rfl,?_⟩ | refine ⟨_,⟨_,_,.borrow 1 e1 (by rw [List.map_cons,List.map_cons,List.map_nil,hfr _ _ _ (by simp) hzp hzl]; rfl) rfl⟩,?_⟩ | refine ⟨_,_,⟨_,.borrow 1 e1 (by rw [List.map_cons,List.map_cons,List.map_nil,hfr _ _ _ (by simp) hzp hzl]; rfl) rfl⟩,?_⟩
     simp [eqCells,eqOkB,hz2w]
     first | refine ⟨_,_,_,.borrow 1 e2 (by rw [List.map_cons,List.map_cons,List.map_cons,List.map_nil,hfr _ _ _ (by simp) hzp hzl]; rfl) rfl,?_⟩ | refine ⟨_,⟨_,_,.borrow 1 e2 (by rw [List.map_cons,List.map_cons,List.map_cons,List.map_nil,hfr _ _ _ (by simp) hzp hzl]; rfl) rfl⟩,?_⟩ | refine ⟨_,_,⟨_,.borrow 1 e2 (by rw [List.map_cons,List.map_cons,List.map_cons,List.map_nil,hfr _ _ _ (by simp) hzp hzl]; rfl) rfl⟩,?_⟩
     simp
     first | refine ⟨_,_,_,.pure lives_c rfl,?_⟩ | refine ⟨_,⟨_,_,.pure lives_c rfl⟩,?_⟩ | refine ⟨_,_,⟨_,.pure lives_c rfl⟩,?_⟩
     simp
     simp [indAll,snocF,indF,memN]
    ·simp [d1,d2,d3]
     intro gs
     have e1:=hGt
     rw [hgb hu] at e1
     have e2:=hPn (z2 : Int)
     rw [hpb _ (.inl hu)] at e2
     simp only [nC,natV,nev] at e1 e2
     first | refine ⟨_,_,_,.borrow 1 e1 (by rw [List.map_cons,List.map_cons,List.map_nil,hfr _ _ _ (by simp) hzp hzl]; rfl) rfl,?_⟩ | refine ⟨_,⟨_,_,.borrow 1 e1 (by rw [List.map_cons,List.map_cons,List.map_nil,hfr _ _ _ (by simp) hzp hzl]; rfl) rfl⟩,?_⟩ | refine ⟨_,_,⟨_,.borrow 1 e1 (by rw [List.map_cons,List.map_cons,List.map_nil,hfr _ _ _ (by simp) hzp hzl]; rfl) rfl⟩,?_⟩
     simp [eqCells,eqOkB,hz2w]
     first | refine ⟨_,_,_,.borrow 1 e2 (by rw [List.map_cons,List.map_cons,List.map_cons,List.map_nil,hfr _ _ _ (by simp) hzp hzl]; rfl) rfl,?_⟩ | refine ⟨_,⟨_,_,.borrow 1 e2 (by rw [List.map_cons,List.map_cons,List.map_cons,List.map_nil,hfr _ _ _ (by simp) hzp hzl]; rfl) rfl⟩,?_⟩ | refine ⟨_,_,⟨_,.borrow 1 e2 (by rw [List.map_cons,List.map_cons,List.map_cons,List.map_nil,hfr _ _ _ (by simp) hzp hzl]; rfl) rfl⟩,?_⟩
     simp
     first | refine ⟨_,_,_,.pure lives_c rfl,?_⟩ | refine ⟨_,⟨_,_,.pure lives_c rfl⟩,?_⟩ | refine ⟨_,_,⟨_,.pure lives_c rfl⟩,?_⟩
     simp
     simp [indAll,snocF,indF,memN]
    ·simp [d1,d2,d3]
     have e1:=hPn (-1)
     rw [hpb _ (.inr (.inl (by decide)))] at e1
     have e2:=hPn (m : Int)
     rw [hpb _ (.inr (.inr (Int.le_refl _)))] at e2
     simp only [natV,nev] at e1 e2
     refine CallO.borrow 1 e1 (by rw [List.map_cons,List.map_cons,List.map_cons,List.map_nil,hfr _ _ _ (by simp) hzp hzl]; rfl) rfl ?_
     simp
     refine CallO.borrow 1 e2 (by rw [List.map_cons,List.map_cons,List.map_cons,List.map_nil,hfr _ _ _ (by simp) hzp hzl]; rfl) rfl ?_
     simp
     refine CallO.pure lives_c rfl ?_
     simp
   have b2:=of_decide_eq_false hb2
   simp [hb2]
   refine BrB.of (fun hb3=>?_) (fun hb3=>?_)
   ·simp [hb3,hmt,hmw,hm2,hz]
    intro gq
    generalize gq 129 = g129
    refine CallO.pure hfan (by simp) ?_
    simp
    intro gr
    generalize gr 21 = g21
    rcases hcase with ⟨d1,hu⟩ | ⟨d1,d2,hu⟩ | ⟨d1,d2,d3,hu⟩ | ⟨d1,d2,d3,-⟩
    ·simp [d1]
     intro gs
     have e1:=hGt
     rw [hgb hu] at e1
     have e2:=hPn (z2 : Int)
     rw [hpb _ (.inl hu)] at e2
     simp only [nC,natV,nev] at e1 e2
     first | refine ⟨_,_,_,.borrow 1 e1 (by rw [List.map_cons,List.map_cons,List.map_nil,hfr _ _ _ (by simp) hzp hzl]; rfl) rfl,?_⟩ | refine ⟨_,⟨_,_,.borrow 1 e1 (by rw [List.map_cons,List.map_cons,List.map_nil,hfr _ _ _ (by simp) hzp hzl]; rfl) rfl⟩,?_⟩ | refine ⟨_,_,⟨_,.borrow 1 e1 (by rw [List.map_cons,List.map_cons,List.map_nil,hfr _ _ _ (by simp) hzp hzl]; rfl) rfl⟩,?_⟩
     simp [eqCells,eqOkB,hz2w]
     first | refine ⟨_,_,_,.borrow 1 e2 (by rw [List.map_cons,List.map_cons,List.map_cons,List.map_nil,hfr _ _ _ (by simp) hzp hzl]; rfl) rfl,?_⟩ | refine ⟨_,⟨_,_,.borrow 1 e2 (by rw [List.map_cons,List.map_cons,List.map_cons,List.map_nil,hfr _ _ _ (by simp) hzp hzl]; rfl) rfl⟩,?_⟩ | refine ⟨_,_,⟨_,.borrow 1 e2 (by rw [List.map_cons,List.map_cons,List.map_cons,List.map_nil,hfr _ _ _ (by simp) hzp hzl]; rfl) rfl⟩,?_⟩
     simp
     first | refine ⟨_,_,_,.pure lives_c rfl,?_⟩ | refine ⟨_,⟨_,_,.pure lives_c rfl⟩,?_⟩ | refine ⟨_,_,⟨_,.pure lives_c rfl⟩,?_⟩
     simp
     simp [indAll,snocF,indF,memN]
    ·simp [d1,d2]
     intro gs
     have e1:=hGt
     rw [hgb hu] at e1
     have e2:=hPn (z2 : Int)
     rw [hpb _ (.inl hu)] at e2
     simp only [nC,natV,nev] at e1 e2
     first | refine ⟨_,_,_,.borrow 1 e1 (by rw [List.map_cons,List.map_cons,List.map_nil,hfr _ _ _ (by simp) hzp hzl]; rfl) rfl,?_⟩ | refine ⟨_,⟨_,_,.borrow 1 e1 (by rw [List.map_cons,List.map_cons,List.map_nil,hfr _ _ _ (by simp) hzp hzl]; rfl) rfl⟩,?_⟩ | refine ⟨_,_,⟨_,.borrow 1 e1 (by rw [List.map_cons,List.map_cons,List.map_nil,hfr _ _ _ (by simp) hzp hzl]; rfl) rfl⟩,?_⟩
     simp [eqCells,eqOkB,hz2w]
     first | refine ⟨_,_,_,.borrow 1 e2 (by rw [List.map_cons,List.map_cons,List.map_cons,List.map_nil,hfr _ _ _ (by simp) hzp hzl]; rfl) rfl,?_⟩ | refine ⟨_,⟨_,_,.borrow 1 e2 (by rw [List.map_cons,List.map_cons,List.map_cons,List.map_nil,hfr _ _ _ (by simp) hzp hzl]; rfl) rfl⟩,?_⟩ | refine ⟨_,_,⟨_,.borrow 1 e2 (by rw [List.map_cons,List.map_cons,List.map_cons,List.map_nil,hfr _ _ _ (by simp) hzp hzl]; rfl) rfl⟩,?_⟩
     simp
     first | refine ⟨_,_,_,.pure lives_c rfl,?_⟩ | refine ⟨_,⟨_,_,.pure lives_c rfl⟩,?_⟩ | refine ⟨_,_,⟨_,.pure lives_c rfl⟩,?_⟩
     simp
     simp [indAll,snocF,indF,memN]
    ·simp [d1,d2,d3]
     intro gs
     have e1:=hGt
     rw [hgb hu] at e1
     have e2:=hPn (z2 : Int)
     rw [hpb _ (.inl hu)] at e2
     simp only [nC,natV,nev] at e1 e2
     first | refine ⟨_,_,_,.borrow 1 e1 (by rw [List.map_cons,List.map_cons,List.map_nil,hfr _ _ _ (by simp) hzp hzl]; rfl) rfl,?_⟩ | refine ⟨_,⟨_,_,.borrow 1 e1 (by rw [List.map_cons,List.map_cons,List.map_nil,hfr _ _ _ (by simp) hzp hzl]; rfl) rfl⟩,?_⟩ | refine ⟨_,_,⟨_,.borrow 1 e1 (by rw [List.map_cons,List.map_cons,List.map_nil,hfr _ _ _ (by simp) hzp hzl]; rfl) rfl⟩,?_⟩
     simp [eqCells,eqOkB,hz2w]
     first | refine ⟨_,_,_,.borrow 1 e2 (by rw [List.map_cons,List.map_cons,List.map_cons,List.map_nil,hfr _ _ _ (by simp) hzp hzl]; rfl) rfl,?_⟩ | refine ⟨_,⟨_,_,.borrow 1 e2 (by rw [List.map_cons,List.map_cons,List.map_cons,List.map_nil,hfr _ _ _ (by simp) hzp hzl]; rfl) rfl⟩,?_⟩ | refine ⟨_,_,⟨_,.borrow 1 e2 (by rw [List.map_cons,List.map_cons,List.map_cons,List.map_nil,hfr _ _ _ (by simp) hzp hzl]; rfl) rfl⟩,?_⟩
     simp
     first | refine ⟨_,_,_,.pure lives_c rfl,?_⟩ | refine ⟨_,⟨_,_,.pure lives_c rfl⟩,?_⟩ | refine ⟨_,_,⟨_,.pure lives_c rfl⟩,?_⟩
     simp
     simp [indAll,snocF,indF,memN]
    ·simp [d1,d2,d3]
     have e1:=hPn (-1)
     rw [hpb _ (.inr (.inl (by decide)))] at e1
     have e2:=hPn (m : Int)
     rw [hpb _ (.inr (.inr (Int.le_refl _)))] at e2
     simp only [natV,nev] at e1 e2
     refine CallO.borrow 1 e1 (by rw [List.map_cons,List.map_cons,List.map_cons,List.map_nil,hfr _ _ _ (by simp) hzp hzl]; rfl) rfl ?_
     simp
     refine CallO.borrow 1 e2 (by rw [List.map_cons,List.map_cons,List.map_cons,List.map_nil,hfr _ _ _ (by simp) hzp hzl]; rfl) rfl ?_
     simp
     refine CallO.pure lives_c rfl ?_
     simp
   have b3:=of_decide_eq_false hb3
   obtain ⟨q,rfl⟩ : ∃ q : Nat,n = q:=⟨n.toNat,by omega⟩
   have hqN : q < c.n.length:=by omega
   obtain ⟨y,hy⟩ : ∃ y,c.n[q] = y:=⟨_,rfl⟩
   have hyc : c.nd q = y:=by rw [c.nd_get hqN,hy]
   have hb4 : decide ((y.i.length : Int) ≤ p) = true:=decide_eq_true (by
    rcases hbad with e | e | e | e
    ·omega
    ·omega
    ·omega
    ·simp only [Int.toNat_natCast,hyc] at e; exact e)
   simp [hb3,hqN,hy,hb4,hmt,hmw,hm2,hz]
   intro gq
   generalize gq 129 = g129
   refine CallO.pure hfan (by simp) ?_
   simp
   intro gr
   generalize gr 21 = g21
   rcases hcase with ⟨d1,hu⟩ | ⟨d1,d2,hu⟩ | ⟨d1,d2,d3,hu⟩ | ⟨d1,d2,d3,-⟩
   ·simp [d1]
    intro gs
    have e1:=hGt
    rw [hgb hu] at e1
    have e2:=hPn (z2 : Int)
    rw [hpb _ (.inl hu)] at e2
    simp only [nC,natV,nev] at e1 e2
    first | refine ⟨_,_,_,.borrow 1 e1 (by rw [List.map_cons,List.map_cons,List.map_nil,hfr _ _ _ (by simp) hzp hzl]; rfl) rfl,?_⟩ | refine ⟨_,⟨_,_,.borrow 1 e1 (by rw [List.map_cons,List.map_cons,List.map_nil,hfr _ _ _ (by simp) hzp hzl]; rfl) rfl⟩,?_⟩ | refine ⟨_,_,⟨_,.borrow 1 e1 (by rw [List.map_cons,List.map_cons,List.map_nil,hfr _ _ _ (by simp) hzp hzl]; rfl) rfl⟩,?_⟩
    simp [eqCells,eqOkB,hz2w]
    first | refine ⟨_,_,_,.borrow 1 e2 (by rw [List.map_cons,List.map_cons,List.map_cons,List.map_nil,hfr _ _ _ (by simp) hzp hzl]; rfl) rfl,?_⟩ | refine ⟨_,⟨_,_,.borrow 1 e2 (by rw [List.map_cons,List.map_cons,List.map_cons,List.map_nil,hfr _ _ _ (by simp) hzp hzl]; rfl) rfl⟩,?_⟩ | refine ⟨_,_,⟨_,.borrow 1 e2 (by rw [List.map_cons,List.map_cons,List.map_cons,List.map_nil,hfr _ _ _ (by simp) hzp hzl]; rfl) rfl⟩,?_⟩
    simp
    first | refine ⟨_,_,_,.pure lives_c rfl,?_⟩ | refine ⟨_,⟨_,_,.pure lives_c rfl⟩,?_⟩ | refine ⟨_,_,⟨_,.pure lives_c rfl⟩,?_⟩
    simp
    simp [indAll,snocF,indF,memN]
   ·simp [d1,d2]
    intro gs
    have e1:=hGt
    rw [hgb hu] at e1
    have e2:=hPn (z2 : Int)
    rw [hpb _ (.inl hu)] at e2
    simp only [nC,natV,nev] at e1 e2
    first | refine ⟨_,_,_,.borrow 1 e1 (by rw [List.map_cons,List.map_cons,List.map_nil,hfr _ _ _ (by simp) hzp hzl]; rfl) rfl,?_⟩ | refine ⟨_,⟨_,_,.borrow 1 e1 (by rw [List.map_cons,List.map_cons,List.map_nil,hfr _ _ _ (by simp) hzp hzl]; rfl) rfl⟩,?_⟩ | refine ⟨_,_,⟨_,.borrow 1 e1 (by rw [List.map_cons,List.map_cons,List.map_nil,hfr _ _ _ (by simp) hzp hzl]; rfl) rfl⟩,?_⟩
    simp [eqCells,eqOkB,hz2w]
    first | refine ⟨_,_,_,.borrow 1 e2 (by rw [List.map_cons,List.map_cons,List.map_cons,List.map_nil,hfr _ _ _ (by simp) hzp hzl]; rfl) rfl,?_⟩ | refine ⟨_,⟨_,_,.borrow 1 e2 (by rw [List.map_cons,List.map_cons,List.map_cons,List.map_nil,hfr _ _ _ (by simp) hzp hzl]; rfl) rfl⟩,?_⟩ | refine ⟨_,_,⟨_,.borrow 1 e2 (by rw [List.map_cons,List.map_cons,List.map_cons,List.map_nil,hfr _ _ _ (by simp) hzp hzl]; rfl) rfl⟩,?_⟩
    simp
    first | refine ⟨_,_,_,.pure lives_c rfl,?_⟩ | refine ⟨_,⟨_,_,.pure lives_c rfl⟩,?_⟩ | refine ⟨_,_,⟨_,.pure lives_c rfl⟩,?_⟩
    simp
    simp [indAll,snocF,indF,memN]
   ·simp [d1,d2,d3]
    intro gs
    have e1:=hGt
    rw [hgb hu] at e1
    have e2:=hPn (z2 : Int)
    rw [hpb _ (.inl hu)] at e2
    simp only [nC,natV,nev] at e1 e2
    first | refine ⟨_,_,_,.borrow 1 e1 (by rw [List.map_cons,List.map_cons,List.map_nil,hfr _ _ _ (by simp) hzp hzl]; rfl) rfl,?_⟩ | refine ⟨_,⟨_,_,.borrow 1 e1 (by rw [List.map_cons,List.map_cons,List.map_nil,hfr _ _ _ (by simp) hzp hzl]; rfl) rfl⟩,?_⟩ | refine ⟨_,_,⟨_,.borrow 1 e1 (by rw [List.map_cons,List.map_cons,List.map_nil,hfr _ _ _ (by simp) hzp hzl]; rfl) rfl⟩,?_⟩
    simp [eqCells,eqOkB,hz2w]
    first | refine ⟨_,_,_,.borrow 1 e2 (by rw [List.map_cons,List.map_cons,List.map_cons,List.map_nil,hfr _ _ _ (by simp) hzp hzl]; rfl) rfl,?_⟩ | refine ⟨_,⟨_,_,.borrow 1 e2 (by rw [List.map_cons,List.map_cons,List.map_cons,List.map_nil,hfr _ _ _ (by simp) hzp hzl]; rfl) rfl⟩,?_⟩ | refine ⟨_,_,⟨_,.borrow 1 e2 (by rw [List.map_cons,List.map_cons,List.map_cons,List.map_nil,hfr _ _ _ (by simp) hzp hzl]; rfl) rfl⟩,?_⟩
    simp
    first | refine ⟨_,_,_,.pure lives_c rfl,?_⟩ | refine ⟨_,⟨_,_,.pure lives_c rfl⟩,?_⟩ | refine ⟨_,_,⟨_,.pure lives_c rfl⟩,?_⟩
    simp
    simp [indAll,snocF,indF,memN]
   ·simp [d1,d2,d3]
    have e1:=hPn (-1)
    rw [hpb _ (.inr (.inl (by decide)))] at e1
    have e2:=hPn (m : Int)
    rw [hpb _ (.inr (.inr (Int.le_refl _)))] at e2
    simp only [natV,nev] at e1 e2
    refine CallO.borrow 1 e1 (by rw [List.map_cons,List.map_cons,List.map_cons,List.map_nil,hfr _ _ _ (by simp) hzp hzl]; rfl) rfl ?_
    simp
    refine CallO.borrow 1 e2 (by rw [List.map_cons,List.map_cons,List.map_cons,List.map_nil,hfr _ _ _ (by simp) hzp hzl]; rfl) rfl ?_
    simp
    refine CallO.pure lives_c rfl ?_
    simp
  ·simp [upH,upS,h0,natV]
   intro gm
   have b1 : ¬ n < 0:=fun e=>hgood (.inl e)
   have b2 : ¬ (c.n.length : Int) ≤ n:=fun e=>hgood (.inr (.inl e))
   have b3 : ¬ p < -1:=fun e=>hgood (.inr (.inr (.inl e)))
   have hb1:=decide_eq_false b1
   have hb2:=decide_eq_false b2
   have hb3:=decide_eq_false b3
   obtain ⟨q,rfl⟩ : ∃ q : Nat,n = q:=⟨n.toNat,by omega⟩
   have hqN : q < c.n.length:=by omega
   obtain ⟨y,hy⟩ : ∃ y,c.n[q] = y:=⟨_,rfl⟩
   have hyc : c.nd q = y:=by rw [c.nd_get hqN,hy]
   have hb2n : decide (c.n.length ≤ q) = false:=decide_eq_false (by omega)
   have hb4 : decide ((y.i.length : Int) ≤ p) = false:=decide_eq_false fun e=>hgood (.inr (.inr (.inr (by simp only [Int.toNat_natCast,hyc]; exact e))))
   simp [hb1,hb2n,hb3,hqN,hy,hb4,hmt,hmw,hm2,hz]
   intro gq
   generalize gq 129 = g129
   refine CallO.pure hfan (by simp) ?_
   simp
   intro gr
   generalize gr 21 = g21
   rcases hcase with ⟨d1,hu⟩ | ⟨d1,d2,hu⟩ | ⟨d1,d2,d3,hu⟩ | ⟨d1,d2,d3,-⟩
   ·simp [d1]
    intro gs
    have e1:=hGt
    rw [hgb hu] at e1
    have e2:=hPn (z2 : Int)
    rw [hpb _ (.inl hu)] at e2
    simp only [nC,natV,nev] at e1 e2
    first | refine ⟨_,_,_,.borrow 1 e1 (by rw [List.map_cons,List.map_cons,List.map_nil,hfr _ _ _ (by simp) hzp hzl]; rfl) rfl,?_⟩ | refine ⟨_,⟨_,_,.borrow 1 e1 (by rw [List.map_cons,List.map_cons,List.map_nil,hfr _ _ _ (by simp) hzp hzl]; rfl) rfl⟩,?_⟩ | refine ⟨_,_,⟨_,.borrow 1 e1 (by rw [List.map_cons,List.map_cons,List.map_nil,hfr _ _ _ (by simp) hzp hzl]; rfl) rfl⟩,?_⟩
    simp [eqCells,eqOkB,hz2w]
    first | refine ⟨_,_,_,.borrow 1 e2 (by rw [List.map_cons,List.map_cons,List.map_cons,List.map_nil,hfr _ _ _ (by simp) hzp hzl]; rfl) rfl,?_⟩ | refine ⟨_,⟨_,_,.borrow 1 e2 (by rw [List.map_cons,List.map_cons,List.map_cons,List.map_nil,hfr _ _ _ (by simp) hzp hzl]; rfl) rfl⟩,?_⟩ | refine ⟨_,_,⟨_,.borrow 1 e2 (by rw [List.map_cons,List.map_cons,List.map_cons,List.map_nil,hfr _ _ _ (by simp) hzp hzl]; rfl) rfl⟩,?_⟩
    simp
    first | refine ⟨_,_,_,.pure lives_c rfl,?_⟩ | refine ⟨_,⟨_,_,.pure lives_c rfl⟩,?_⟩ | refine ⟨_,_,⟨_,.pure lives_c rfl⟩,?_⟩
    simp
    simp [indAll,snocF,indF,memN]
   ·simp [d1,d2]
    intro gs
    have e1:=hGt
    rw [hgb hu] at e1
    have e2:=hPn (z2 : Int)
    rw [hpb _ (.inl hu)] at e2
    simp only [nC,natV,nev] at e1 e2
    first | refine ⟨_,_,_,.borrow 1 e1 (by rw [List.map_cons,List.map_cons,List.map_nil,hfr _ _ _ (by simp) hzp hzl]; rfl) rfl,?_⟩ | refine ⟨_,⟨_,_,.borrow 1 e1 (by rw [List.map_cons,List.map_cons,List.map_nil,hfr _ _ _ (by simp) hzp hzl]; rfl) rfl⟩,?_⟩ | refine ⟨_,_,⟨_,.borrow 1 e1 (by rw [List.map_cons,List.map_cons,List.map_nil,hfr _ _ _ (by simp) hzp hzl]; rfl) rfl⟩,?_⟩
    simp [eqCells,eqOkB,hz2w]
    first | refine ⟨_,_,_,.borrow 1 e2 (by rw [List.map_cons,List.map_cons,List.map_cons,List.map_nil,hfr _ _ _ (by simp) hzp hzl]; rfl) rfl,?_⟩ | refine ⟨_,⟨_,_,.borrow 1 e2 (by rw [List.map_cons,List.map_cons,List.map_cons,List.map_nil,hfr _ _ _ (by simp) hzp hzl]; rfl) rfl⟩,?_⟩ | refine ⟨_,_,⟨_,.borrow 1 e2 (by rw [List.map_cons,List.map_cons,List.map_cons,List.map_nil,hfr _ _ _ (by simp) hzp hzl]; rfl) rfl⟩,?_⟩
    simp
    first | refine ⟨_,_,_,.pure lives_c rfl,?_⟩ | refine ⟨_,⟨_,_,.pure lives_c rfl⟩,?_⟩ | refine ⟨_,_,⟨_,.pure lives_c rfl⟩,?_⟩
    simp
    simp [indAll,snocF,indF,memN]
   ·simp [d1,d2,d3]
    intro gs
    have e1:=hGt
    rw [hgb hu] at e1
    have e2:=hPn (z2 : Int)
    rw [hpb _ (.inl hu)] at e2
    simp only [nC,natV,nev] at e1 e2
    first | refine ⟨_,_,_,.borrow 1 e1 (by rw [List.map_cons,List.map_cons,List.map_nil,hfr _ _ _ (by simp) hzp hzl]; rfl) rfl,?_⟩ | refine ⟨_,⟨_,_,.borrow 1 e1 (by rw [List.map_cons,List.map_cons,List.map_nil,hfr _ _ _ (by simp) hzp hzl]; rfl) rfl⟩,?_⟩ | refine ⟨_,_,⟨_,.borrow 1 e1 (by rw [List.map_cons,List.map_cons,List.map_nil,hfr _ _ _ (by simp) hzp hzl]; rfl) rfl⟩,?_⟩
    simp [eqCells,eqOkB,hz2w]
    first | refine ⟨_,_,_,.borrow 1 e2 (by rw [List.map_cons,List.map_cons,List.map_cons,List.map_nil,hfr _ _ _ (by simp) hzp hzl]; rfl) rfl,?_⟩ | refine ⟨_,⟨_,_,.borrow 1 e2 (by rw [List.map_cons,List.map_cons,List.map_cons,List.map_nil,hfr _ _ _ (by simp) hzp hzl]; rfl) rfl⟩,?_⟩ | refine ⟨_,_,⟨_,.borrow 1 e2 (by rw [List.map_cons,List.map_cons,List.map_cons,List.map_nil,hfr _ _ _ (by simp) hzp hzl]; rfl) rfl⟩,?_⟩
    simp
    first | refine ⟨_,_,_,.pure lives_c rfl,?_⟩ | refine ⟨_,⟨_,_,.pure lives_c rfl⟩,?_⟩ | refine ⟨_,_,⟨_,.pure lives_c rfl⟩,?_⟩
    simp
    simp [indAll,snocF,indF,memN]
   ·simp [d1,d2,d3]
    have e1:=hPn (-1)
    rw [hpb _ (.inr (.inl (by decide)))] at e1
    have e2:=hPn (m : Int)
    rw [hpb _ (.inr (.inr (Int.le_refl _)))] at e2
    simp only [natV,nev] at e1 e2
    refine CallO.borrow 1 e1 (by rw [List.map_cons,List.map_cons,List.map_cons,List.map_nil,hfr _ _ _ (by simp) hzp hzl]; rfl) rfl ?_
    simp
    refine CallO.borrow 1 e2 (by rw [List.map_cons,List.map_cons,List.map_cons,List.map_nil,hfr _ _ _ (by simp) hzp hzl]; rfl) rfl ?_
    simp
    refine CallO.pure lives_c rfl ?_
    simp
 ·rintro v h (⟨-,rfl,rfl⟩ | ⟨h1,-⟩) gf1
  ·simp
   refine CallO.own 2000 (Sequential_c c hwf) (by simp) (by simp) ?_
   rintro v h (⟨-,rfl,rfl⟩ | ⟨h1,-⟩) gf2
   ·simp
    refine CallO.own 3000 (Observe_c c hwf) (by simp) (by simp) ?_
    rintro v h (⟨-,rfl,rfl⟩ | ⟨h1,-⟩) gf3
    ·simp
     refine CallO.own 4000 (Line_c c hwf n p) (by simp) (by simp) ?_
     rintro v h ⟨rfl,⟨-,rfl⟩ | ⟨h1,-⟩ | ⟨h1,-⟩⟩ gf4
     ·simp
      intro gm
      have hd0 : decide (chkE c = 0) = false:=decide_eq_false h0
      refine BrB.of (fun hb=>absurd (of_decide_eq_true hb) h0) (fun hb=>?_)
      simp [hd0,hmt,hmw,hm2,hz]
      intro gq
      generalize gq 129 = g129
      refine CallO.pure hfan (by simp) ?_
      simp
      intro gr
      generalize gr 21 = g21
      rcases hcase with ⟨d1,hu⟩ | ⟨d1,d2,hu⟩ | ⟨d1,d2,d3,hu⟩ | ⟨d1,d2,d3,-⟩
      ·simp [d1]
       intro gs
       have e1:=hGt
       rw [hgb hu] at e1
       have e2:=hPn (z2 : Int)
       rw [hpb _ (.inl hu)] at e2
       simp only [nC,natV,nev] at e1 e2
       first | refine ⟨_,_,_,.borrow 1 e1 (by rw [List.map_cons,List.map_cons,List.map_nil,hfr _ _ _ (by simp) hzp hzl]; rfl) rfl,?_⟩ | refine ⟨_,⟨_,_,.borrow 1 e1 (by rw [List.map_cons,List.map_cons,List.map_nil,hfr _ _ _ (by simp) hzp hzl]; rfl) rfl⟩,?_⟩ | refine ⟨_,_,⟨_,.borrow 1 e1 (by rw [List.map_cons,List.map_cons,List.map_nil,hfr _ _ _ (by simp) hzp hzl]; rfl) rfl⟩,?_⟩
       simp [eqCells,eqOkB,hz2w]
       first | refine ⟨_,_,_,.borrow 1 e2 (by rw [List.map_cons,List.map_cons,List.map_cons,List.map_nil,hfr _ _ _ (by simp) hzp hzl]; rfl) rfl,?_⟩ | refine ⟨_,⟨_,_,.borrow 1 e2 (by rw [List.map_cons,List.map_cons,List.map_cons,List.map_nil,hfr _ _ _ (by simp) hzp hzl]; rfl) rfl⟩,?_⟩ | refine ⟨_,_,⟨_,.borrow 1 e2 (by rw [List.map_cons,List.map_cons,List.map_cons,List.map_nil,hfr _ _ _ (by simp) hzp hzl]; rfl) rfl⟩,?_⟩
       simp
       first | refine ⟨_,_,_,.pure lives_c rfl,?_⟩ | refine ⟨_,⟨_,_,.pure lives_c rfl⟩,?_⟩ | refine ⟨_,_,⟨_,.pure lives_c rfl⟩,?_⟩
       simp
       simp [indAll,snocF,indF,memN]
      ·simp [d1,d2]
       intro gs
       have e1:=hGt
       rw [hgb hu] at e1
       have e2:=hPn (z2 : Int)
       rw [hpb _ (.inl hu)] at e2
       simp only [nC,natV,nev] at e1 e2
       first | refine ⟨_,_,_,.borrow 1 e1 (by rw [List.map_cons,List.map_cons,List.map_nil,hfr _ _ _ (by simp) hzp hzl]; rfl) rfl,?_⟩ | refine ⟨_,⟨_,_,.borrow 1 e1 (by rw [List.map_cons,List.map_cons,List.map_nil,hfr _ _ _ (by simp) hzp hzl]; rfl) rfl⟩,?_⟩ | refine ⟨_,_,⟨_,.borrow 1 e1 (by rw [List.map_cons,List.map_cons,List.map_nil,hfr _ _ _ (by simp) hzp hzl]; rfl) rfl⟩,?_⟩
       simp [eqCells,eqOkB,hz2w]
       first | refine ⟨_,_,_,.borrow 1 e2 (by rw [List.map_cons,List.map_cons,List.map_cons,List.map_nil,hfr _ _ _ (by simp) hzp hzl]; rfl) rfl,?_⟩ | refine ⟨_,⟨_,_,.borrow 1 e2 (by rw [List.map_cons,List.map_cons,List.map_cons,List.map_nil,hfr _ _ _ (by simp) hzp hzl]; rfl) rfl⟩,?_⟩ | refine ⟨_,_,⟨_,.borrow 1 e2 (by rw [List.map_cons,List.map_cons,List.map_cons,List.map_nil,hfr _ _ _ (by simp) hzp hzl]; rfl) rfl⟩,?_⟩
       simp
       first | refine ⟨_,_,_,.pure lives_c rfl,?_⟩ | refine ⟨_,⟨_,_,.pure lives_c rfl⟩,?_⟩ | refine ⟨_,_,⟨_,.pure lives_c rfl⟩,?_⟩
       simp
       simp [indAll,snocF,indF,memN]
      ·simp [d1,d2,d3]
       intro gs
       have e1:=hGt
       rw [hgb hu] at e1
       have e2:=hPn (z2 : Int)
       rw [hpb _ (.inl hu)] at e2
       simp only [nC,natV,nev] at e1 e2
       first | refine ⟨_,_,_,.borrow 1 e1 (by rw [List.map_cons,List.map_cons,List.map_nil,hfr _ _ _ (by simp) hzp hzl]; rfl) rfl,?_⟩ | refine ⟨_,⟨_,_,.borrow 1 e1 (by rw [List.map_cons,List.map_cons,List.map_nil,hfr _ _ _ (by simp) hzp hzl]; rfl) rfl⟩,?_⟩ | refine ⟨_,_,⟨_,.borrow 1 e1 (by rw [List.map_cons,List.map_cons,List.map_nil,hfr _ _ _ (by simp) hzp hzl]; rfl) rfl⟩,?_⟩
       simp [eqCells,eqOkB,hz2w]
       first | refine ⟨_,_,_,.borrow 1 e2 (by rw [List.map_cons,List.map_cons,List.map_cons,List.map_nil,hfr _ _ _ (by simp) hzp hzl]; rfl) rfl,?_⟩ | refine ⟨_,⟨_,_,.borrow 1 e2 (by rw [List.map_cons,List.map_cons,List.map_cons,List.map_nil,hfr _ _ _ (by simp) hzp hzl]; rfl) rfl⟩,?_⟩ | refine ⟨_,_,⟨_,.borrow 1 e2 (by rw [List.map_cons,List.map_cons,List.map_cons,List.map_nil,hfr _ _ _ (by simp) hzp hzl]; rfl) rfl⟩,?_⟩
       simp
       first | refine ⟨_,_,_,.pure lives_c rfl,?_⟩ | refine ⟨_,⟨_,_,.pure lives_c rfl⟩,?_⟩ | refine ⟨_,_,⟨_,.pure lives_c rfl⟩,?_⟩
       simp
       simp [indAll,snocF,indF,memN]
      ·simp [d1,d2,d3]
       have e1:=hPn (-1)
       rw [hpb _ (.inr (.inl (by decide)))] at e1
       have e2:=hPn (m : Int)
       rw [hpb _ (.inr (.inr (Int.le_refl _)))] at e2
       simp only [natV,nev] at e1 e2
       refine CallO.borrow 1 e1 (by rw [List.map_cons,List.map_cons,List.map_cons,List.map_nil,hfr _ _ _ (by simp) hzp hzl]; rfl) rfl ?_
       simp
       refine CallO.borrow 1 e2 (by rw [List.map_cons,List.map_cons,List.map_cons,List.map_nil,hfr _ _ _ (by simp) hzp hzl]; rfl) rfl ?_
       simp
       refine CallO.pure lives_c rfl ?_
       simp
     ·exact absurd h1 h0
     ·exact absurd h1 h0
    ·exact absurd h1 h0
   ·exact absurd h1 h0
  ·exact absurd h1 h0
end Go.Proofs.YtcmblmkbdenakaaGreatDoor
