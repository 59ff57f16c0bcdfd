/- Transitions: circuits and patterns of the laws; copies of lists; checks one after another. Conditions: none. -/
import Derived.Test.YtlmniacemoohpaaGreatDoorS5
import Derived.Test.YtlmniacemoohpaaGreatDoorXB
import Derived.Test.YtlmniacemoohpaaGreatDoorNet17
import Derived.Test.YtlmniacemoohpaaGreatDoorNet13
set_option linter.unusedSimpArgs false
set_option linter.unusedVariables false
namespace Go.Proofs.YtlmniacemoohpaaGreatDoor
open Go
theorem ordL_ord {c : Ci} {L : List Nat} (h : Ord c L) : Ord c (ordL c):=by rw [h.eq]; exact h
theorem Ci.good.ord {c : Ci} (hg : c.good) : Ord c (ordL c):=by
 have hlv : IsLv c.n.length c.g (lvOf c):=hg.ac.lv
 have hlt:=hlv.lt hg.val.g
 refine ordL_ord (L:=lvL c.n.length (lvOf c) c.n.length) ⟨⟨?_,fun x hx=>((lvL_mem _ _).1 hx).1⟩,lvL_pw _⟩
 have h1:=lvL_len (n:=c.n.length) (lv:=lvOf c) c.n.length
 have h2:=lvL_all hlt
 omega
theorem good_of (x : Cx) (hm : x.mem = false) : x.ci.good where
 wf:=ci_wf x
 chk:=chk_ok x
 sh:=shE_ok x
 ac:=acyc_below (ci_below x)
 m:=by simp [Cx.ci,hm]
 k:=fun y hy hk=>by
  obtain ⟨i,hi,rfl⟩:=List.getElem_of_mem hy
  rcases (cxn_ok x).1 i hi with h | h | h | h
  ·have:=h.1; omega
  ·have:=h.1; omega
  ·rw [hm] at h; exact absurd h.1 (by simp)
  ·have:=h.2.1; omega
 n0:=by rw [(cxn_ok x).2]; exact (ns0_ok x).2.2.1
 n1:=by rw [(cxn_ok x).2]; have:=(ns0_ok x).2.2.2; have e : x.nn ≤ 16:=this; omega
def pof (c : Ci) (p : Pt) : Pt:=⟨tkN p.i (cnt 0 c.n) 4,tkN p.s (cnt 14 c.n) 3⟩
theorem pof_fit (c : Ci) (p : Pt) : (pof c p).fit c:=⟨by simp [pof],by simp [pof],tkN_le _ _ 4 (by omega) (by omega),tkN_le _ _ 3 (by omega) (by omega)⟩
theorem pofV_c (p : Pt) (c : Ci) (hl : c.n.length < 1000000) : PureC Tryz.prog gl0 43 [p.v,c.v] (pof c p).v:=pof_c p c hl
def Cx.nm (x : Cx) : Cx:={ x with mem:=false }
theorem nm_good (x : Cx) : x.nm.ci.good:=good_of _ rfl
theorem circ_c (x : Cx) (hx : x.ok) : PureC Tryz.prog gl0 25 [x.v] x.nm.ci.v:=by
 have hyok : x.nm.ok:=⟨hx.n,hx.f,hx.d0,hx.d1,hx.p0,hx.p1,hx.p2,hx.p3,hx.g,hx.o⟩
 have hof:=cof_c x.nm hyok
 have hpu : V.pureL [x.nm.v] = true:=by
  have:=cx_pure x.nm
  simp only [V.pureL,Bool.and_true]; exact this
 have hcc : x.nm.ci.v.cells.length = 4:=rfl
 generalize x.nm.ci = c at hof hcc
 simp only [Cx.v,Cx.nm] at hof hpu
 refine PureC.of_W 2 ok25 rfl ?_
 simp [i25,x25,Cx.v]
 intro gf1 gf2
 refine CallO.pure hof hpu ?_
 simp [mapRL_pure,nds_pure,mds_pure,ints_pure]
 rfl
def prV (a b : Pt) : V:=.agg [.sl (a.i.map u8V) none,.sl (a.s.map u8V) none,.sl (b.i.map u8V) none,.sl (b.s.map u8V) none]
end Go.Proofs.YtlmniacemoohpaaGreatDoor
namespace Go.Proofs.YtlmniacemoohpaaGreatDoor
open Go
@[simp] theorem prV_cells (a b : Pt) : (prV a b).cells = [.sl (a.i.map u8V) none,.sl (a.s.map u8V) none,.sl (b.i.map u8V) none,.sl (b.s.map u8V) none]:=rfl
@[simp] theorem prV_ok (a b : Pt) : (prV a b).cellsOk = true:=rfl
theorem circU_c (x : Cx) (hx : x.ok) : PureC Tryz.prog gl0 25 [.agg [u8V x.n,u8V x.f,u8V x.d0,u8V x.d1,.bool x.bus,.bool x.mem,u8V x.p0,u8V x.p1,u8V x.p2,u8V x.p3,.sl (x.g.map Gx.v) none,.sl (x.o.map u8V) none]] x.nm.ci.v:=circ_c x hx
theorem cxU_pure (x : Cx) : V.pureL [.agg [u8V x.n,u8V x.f,u8V x.d0,u8V x.d1,.bool x.bus,.bool x.mem,u8V x.p0,u8V x.p1,u8V x.p2,u8V x.p3,.sl (x.g.map Gx.v) none,.sl (x.o.map u8V) none]] = true:=by
 have:=cx_pure x
 simp only [V.pureL,Bool.and_true]; exact this
def caseV (x : Cx) (p q : Pt) : V:=.agg [u8V x.n,u8V x.f,u8V x.d0,u8V x.d1,.bool x.bus,.bool x.mem,u8V x.p0,u8V x.p1,u8V x.p2,u8V x.p3,.sl (x.g.map Gx.v) none,.sl (x.o.map u8V) none,.sl (p.i.map u8V) none,.sl (p.s.map u8V) none,.sl (q.i.map u8V) none,.sl (q.s.map u8V) none]
@[simp] theorem case_cells (x : Cx) (p q : Pt) : (caseV x p q).cells = [u8V x.n,u8V x.f,u8V x.d0,u8V x.d1,.bool x.bus,.bool x.mem,u8V x.p0,u8V x.p1,u8V x.p2,u8V x.p3,.sl (x.g.map Gx.v) none,.sl (x.o.map u8V) none,.sl (p.i.map u8V) none,.sl (p.s.map u8V) none,.sl (q.i.map u8V) none,.sl (q.s.map u8V) none]:=rfl
@[simp] theorem case_ok (x : Cx) (p q : Pt) : (caseV x p q).cellsOk = true:=rfl
theorem case_pure (x : Cx) (p q : Pt) : V.pureL [caseV x p q] = true:=by
 have:=cxU_pure x
 simp only [V.pureL,V.pure,Bool.and_true,Bool.and_eq_true] at this
 simp only [caseV,V.pureL,V.pure,Bool.and_true,Bool.and_eq_true,u8s_pure]
 simp [this]
end Go.Proofs.YtlmniacemoohpaaGreatDoor
namespace Go.Proofs.YtlmniacemoohpaaGreatDoor
open Go
structure Fx where
 m : Nat
 n : Nat
 p : Nat
 o : Nat
 one : Bool
def Fx.v (f : Fx) : V:=.agg [u8V f.m,u8V f.n,u8V f.p,u8V f.o,.bool f.one]
structure Fx.ok (f : Fx) : Prop where
 m : f.m < 256
 n : f.n < 256
 p : f.p < 256
 o : f.o < 256
structure Ft where
 m : Nat
 n : Nat
 q : Nat
 v : Nat
 o : Nat
def Ft.pin (f : Ft) : Int:=(f.q : Int) - 1
def Ft.ln (f : Ft) : V:=.agg [natV f.n,.int .i64 f.pin]
def Ft.w (f : Ft) : V:=.agg [u8V f.m,natV f.n,.int .i64 f.pin,u8V f.v,natV f.o]
@[simp] theorem ln_cells (f : Ft) : f.ln.cells = [natV f.n,.int .i64 f.pin]:=rfl
@[simp] theorem ln_ok (f : Ft) : f.ln.cellsOk = true:=rfl
@[simp] theorem ln_pure (f : Ft) : f.ln.pure = true:=rfl
@[simp] theorem ft_cells (f : Ft) : f.w.cells = [u8V f.m,natV f.n,.int .i64 f.pin,u8V f.v,natV f.o]:=rfl
@[simp] theorem ft_ok (f : Ft) : f.w.cellsOk = true:=rfl
@[simp] theorem ft_pure (f : Ft) : f.w.pure = true:=rfl
def Fx.of (c : Ci) (f : Fx) (m : Nat) : Ft:=⟨m,f.n % c.n.length,f.p % ((c.nd (f.n % c.n.length)).i.length + 1),if f.one = true then 1 else 0,0⟩
structure Ft.ok (c : Ci) (f : Ft) : Prop where
 m : f.m < 2
 n : f.n < c.n.length
 q : f.q ≤ (c.nd f.n).i.length
 v : f.v ≤ 1
 o : f.o = 0
theorem valid_c (c : Ci) (hg : c.good) : PureC Tryz.prog gl0 63 [c.v] (.int .i64 0):=by
 have hk:=check_c c hg.wf
 rw [hg.chk] at hk
 have hm:=hg.m
 refine PureC.of_W 2 ok63 rfl ?_
 simp [i63,x63]
 intro gf
 refine CallO.pure hk (by simp) ?_
 simp [hm]
def Ft.net (c : Ci) (f : Ft) : Nat:=if f.q = 0 then f.n else ((c.nd f.n).i.getD (f.q - 1) 0).toNat
end Go.Proofs.YtlmniacemoohpaaGreatDoor
