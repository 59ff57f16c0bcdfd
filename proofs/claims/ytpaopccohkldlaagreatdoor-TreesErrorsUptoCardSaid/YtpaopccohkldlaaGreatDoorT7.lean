/- Transitions: circuits and patterns of the laws; copies of lists; checks one after another. Conditions: none. -/
import Derived.Test.YtpaopccohkldlaaGreatDoorS5
import Derived.Test.YtpaopccohkldlaaGreatDoorXT
import Derived.Test.YtpaopccohkldlaaGreatDoorNet17
import Derived.Test.YtpaopccohkldlaaGreatDoorNet13
set_option linter.unusedSimpArgs false
set_option linter.unusedVariables false
namespace Go.Proofs.YtpaopccohkldlaaGreatDoor
open Go
theorem ordL_ord {c : Ci} {L : List Nat} (h : Ord c L) : Ord c (ordL c):=by rw [h.eq]; exact h
theorem Ci.good.ord {c : Ci} (hg : c.good) : Ord c (ordL c):=by
 have hlv : IsLv c.n.length c.g (lvOf c):=hg.ac.lv
 have hlt:=hlv.lt hg.val.g
 refine ordL_ord (L:=lvL c.n.length (lvOf c) c.n.length) ⟨⟨?_,fun x hx=>((lvL_mem _ _).1 hx).1⟩,lvL_pw _⟩
 have h1:=lvL_len (n:=c.n.length) (lv:=lvOf c) c.n.length
 have h2:=lvL_all hlt
 omega
theorem good_of (x : Cx) (hm : x.mem = false) : x.ci.good where
 wf:=ci_wf x
 chk:=chk_ok x
 sh:=shE_ok x
 ac:=acyc_below (ci_below x)
 m:=by simp [Cx.ci,hm]
 k:=fun y hy hk=>by
  obtain ⟨i,hi,rfl⟩:=List.getElem_of_mem hy
  rcases (cxn_ok x).1 i hi with h | h | h | h
  ·have:=h.1; omega
  ·have:=h.1; omega
  ·rw [hm] at h; exact absurd h.1 (by simp)
  ·have:=h.2.1; omega
 n0:=by rw [(cxn_ok x).2]; exact (ns0_ok x).2.2.1
 n1:=by rw [(cxn_ok x).2]; have:=(ns0_ok x).2.2.2; have e : x.nn ≤ 16:=this; omega
def prV (a b : Pt) : V:=.agg [.sl (a.i.map u8V) none,.sl (a.s.map u8V) none,.sl (b.i.map u8V) none,.sl (b.s.map u8V) none]
theorem u8s_noG : ∀ l : List Nat,V.noGL (l.map u8V) = true
 | []=>rfl
 | a :: r=>by
  rw [List.map_cons]
  show (V.noG (u8V a) && V.noGL (r.map u8V)) = true
  rw [u8s_noG r]; rfl
end Go.Proofs.YtpaopccohkldlaaGreatDoor
namespace Go.Proofs.YtpaopccohkldlaaGreatDoor
open Go
@[simp] theorem prV_cells (a b : Pt) : (prV a b).cells = [.sl (a.i.map u8V) none,.sl (a.s.map u8V) none,.sl (b.i.map u8V) none,.sl (b.s.map u8V) none]:=rfl
@[simp] theorem prV_ok (a b : Pt) : (prV a b).cellsOk = true:=rfl
def caseV (x : Cx) (p q : Pt) : V:=.agg [u8V x.n,u8V x.f,u8V x.d0,u8V x.d1,.bool x.bus,.bool x.mem,u8V x.p0,u8V x.p1,u8V x.p2,u8V x.p3,.sl (x.g.map Gx.v) none,.sl (x.o.map u8V) none,.sl (p.i.map u8V) none,.sl (p.s.map u8V) none,.sl (q.i.map u8V) none,.sl (q.s.map u8V) none]
@[simp] theorem case_cells (x : Cx) (p q : Pt) : (caseV x p q).cells = [u8V x.n,u8V x.f,u8V x.d0,u8V x.d1,.bool x.bus,.bool x.mem,u8V x.p0,u8V x.p1,u8V x.p2,u8V x.p3,.sl (x.g.map Gx.v) none,.sl (x.o.map u8V) none,.sl (p.i.map u8V) none,.sl (p.s.map u8V) none,.sl (q.i.map u8V) none,.sl (q.s.map u8V) none]:=rfl
@[simp] theorem case_ok (x : Cx) (p q : Pt) : (caseV x p q).cellsOk = true:=rfl
end Go.Proofs.YtpaopccohkldlaaGreatDoor
namespace Go.Proofs.YtpaopccohkldlaaGreatDoor
open Go
structure Fx where
 m : Nat
 n : Nat
 p : Nat
 o : Nat
 one : Bool
def Fx.v (f : Fx) : V:=.agg [u8V f.m,u8V f.n,u8V f.p,u8V f.o,.bool f.one]
structure Fx.ok (f : Fx) : Prop where
 m : f.m < 256
 n : f.n < 256
 p : f.p < 256
 o : f.o < 256
structure Ft where
 m : Nat
 n : Nat
 q : Nat
 v : Nat
 o : Nat
def Ft.pin (f : Ft) : Int:=(f.q : Int) - 1
def Ft.ln (f : Ft) : V:=.agg [natV f.n,.int .i64 f.pin]
def Ft.w (f : Ft) : V:=.agg [u8V f.m,natV f.n,.int .i64 f.pin,u8V f.v,natV f.o]
@[simp] theorem ln_cells (f : Ft) : f.ln.cells = [natV f.n,.int .i64 f.pin]:=rfl
@[simp] theorem ln_ok (f : Ft) : f.ln.cellsOk = true:=rfl
@[simp] theorem ln_pure (f : Ft) : f.ln.pure = true:=rfl
@[simp] theorem ft_cells (f : Ft) : f.w.cells = [u8V f.m,natV f.n,.int .i64 f.pin,u8V f.v,natV f.o]:=rfl
@[simp] theorem ft_ok (f : Ft) : f.w.cellsOk = true:=rfl
@[simp] theorem ft_pure (f : Ft) : f.w.pure = true:=rfl
def Fx.of (c : Ci) (f : Fx) (m : Nat) : Ft:=⟨m,f.n % c.n.length,f.p % ((c.nd (f.n % c.n.length)).i.length + 1),if f.one = true then 1 else 0,0⟩
structure Ft.ok (c : Ci) (f : Ft) : Prop where
 m : f.m < 2
 n : f.n < c.n.length
 q : f.q ≤ (c.nd f.n).i.length
 v : f.v ≤ 1
 o : f.o = 0
theorem valid_c (c : Ci) (hg : c.good) : PureC Tryz.prog gl0 89 [c.v] (.int .i64 0):=by
 have hk:=check_c c hg.wf
 rw [hg.chk] at hk
 have hm:=hg.m
 refine PureC.of_W 2 ok89 rfl ?_
 simp [i89,x89]
 intro gf
 refine CallO.pure hk (by simp) ?_
 simp [hm]
theorem line_c (c : Ci) (f : Ft) (hn : f.n < c.n.length) (hq : f.q ≤ (c.nd f.n).i.length) : PureC Tryz.prog gl0 90 [c.v,f.ln] (.bool true):=by
 obtain ⟨y,hy⟩ : ∃ y,c.n[f.n] = y:=⟨_,rfl⟩
 rw [c.nd_get hn,hy] at hq
 have h1 : (-1 : Int) ≤ f.pin:=by unfold Ft.pin; omega
 have h2 : f.pin < (y.i.length : Int):=by unfold Ft.pin; omega
 refine PureC.of_W 2 ok90 rfl ?_
 simp [i90,x90,natV]
 intro gf1 gf2 gm
 simp [hn,h1,hy,h2,natV]
 try rfl
theorem fcheck_c (c : Ci) (hg : c.good) (f : Ft) (hf : f.ok c) : PureC Tryz.prog gl0 43 [c.v,f.w] (.int .i64 0):=by
 have h1:=valid_c c hg
 have h2:=line_c c f hf.n hf.q
 have hm:=hf.m
 have hv:=hf.v
 have ho:=hf.o
 simp only [Ft.ln,natV] at h2
 refine PureC.of_W 2 ok43 rfl ?_
 simp [i43,x43,u8V,natV]
 intro gf1 gf2
 refine CallO.pure h1 (by simp) ?_
 simp [show ¬ (3 : Int) < (f.m : Int) by omega,show ¬ (1 : Int) < (f.v : Int) by omega,u8V,natV]
 refine CallO.pure h2 (by simp) ?_
 simp [show ¬ (2 : Int) ≤ (f.m : Int) by omega,ho,u8V,natV]
end Go.Proofs.YtpaopccohkldlaaGreatDoor
