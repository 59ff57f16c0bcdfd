/- Lemmas. Conditions: none. -/
import Derived.Test.YtlmniacemoohpaaGreatDoorS5
import Derived.Test.YtlmniacemoohpaaGreatDoorXG
import Derived.Test.YtlmniacemoohpaaGreatDoorNet17
import Derived.Test.YtlmniacemoohpaaGreatDoorNet13
set_option linter.all false
namespace Go.Proofs.YtlmniacemoohpaaGreatDoor
section
open Go
theorem q0j {c:Ci} {L:List Nat} (h:Ord c L):Ord c (quv c):=by rw [h.eq]; exact h
theorem Ci.good.ord {c:Ci} (hg:c.good):Ord c (quv c):=by
 have hlv:qjz c.n.length c.g (qos c):=hg.ac.lv;have hlt:=hlv.lt hg.val.g;refine q0j (L:=lvL c.n.length (qos c) c.n.length) ⟨⟨?_,fun x hx=>((qk4 _ _).1 hx).1⟩,qxl _⟩;have h1:=q3u (n:=c.n.length) (lv:=qos c) c.n.length;have h2:=q3t hlt;omega
theorem q3g (x:Cx) (hm:x.mem = false):x.ci.good where
 wf:=jdh x
 chk:=q6t x
 sh:=q12 x
 ac:=qgq (qna x)
 m:=by simp [Cx.ci,hm]
 k:=fun y hy hk=>by
  obtain ⟨i,hi,rfl⟩:=List.getElem_of_mem hy;rcases (qma x).1 i hi with h | h | h | h
  ·have:=h.1; omega
  ·have:=h.1; omega
  ·rw [hm] at h; exact absurd h.1 (by simp)
  ·have:=h.2.1; omega
 n0:=by rw [(qma x).2]; exact (qk8 x).2.2.1
 n1:=by rw [(qma x).2]; have:=(qk8 x).2.2.2; have e:x.nn≤16:=this; omega
def Cx.nm (x:Cx):Cx:={ x with mem:=false }
theorem q3z (x:Cx):x.nm.ci.good:=q3g _ rfl
theorem q6v (x:Cx) (hx:x.ok):qac Tryz.prog gl0 25 [x.v] x.nm.ci.v:=by
 have hyok:x.nm.ok:=⟨hx.n,hx.f,hx.d0,hx.d1,hx.p0,hx.p1,hx.p2,hx.p3,hx.g,hx.o⟩;have hof:=jdm x.nm hyok
 have hpu:jgy [x.nm.v] = true:=by
  have:=qv9 x.nm;simp only [jgy,Bool.and_true]; exact this
 have hcc:x.nm.ci.v.cells.length = 4:=rfl;generalize x.nm.ci = c at hof hcc;simp only [Cx.v,Cx.nm] at hof hpu;refine jiu 2 ok25 rfl ?_;simp [i25,x25,Cx.v];intro gf1 gf2;refine jir hof hpu ?_;simp [qak,qfv,qic,qc2];rfl
def prV (a b:Pt):V:=.agg [.sl (a.i.map u8V) none,.sl (a.s.map u8V) none,.sl (b.i.map u8V) none,.sl (b.s.map u8V) none]
end
section
open Go
@[simp] theorem q94 (a b:Pt):(prV a b).cells = [.sl (a.i.map u8V) none,.sl (a.s.map u8V) none,.sl (b.i.map u8V) none,.sl (b.s.map u8V) none]:=rfl
@[simp] theorem prV_ok (a b:Pt):(prV a b).cellsOk = true:=rfl
theorem q2x (x:Cx) (hx:x.ok):qac Tryz.prog gl0 25 [.agg [u8V x.n,u8V x.f,u8V x.d0,u8V x.d1,.bool x.bus,.bool x.mem,u8V x.p0,u8V x.p1,u8V x.p2,u8V x.p3,.sl (x.g.map Gx.v) none,.sl (x.o.map u8V) none]] x.nm.ci.v:=q6v x hx
def q6k (x:Cx) (p q:Pt):V:=.agg [u8V x.n,u8V x.f,u8V x.d0,u8V x.d1,.bool x.bus,.bool x.mem,u8V x.p0,u8V x.p1,u8V x.p2,u8V x.p3,.sl (x.g.map Gx.v) none,.sl (x.o.map u8V) none,.sl (p.i.map u8V) none,.sl (p.s.map u8V) none,.sl (q.i.map u8V) none,.sl (q.s.map u8V) none]
@[simp] theorem q46 (x:Cx) (p q:Pt):(q6k x p q).cells = [u8V x.n,u8V x.f,u8V x.d0,u8V x.d1,.bool x.bus,.bool x.mem,u8V x.p0,u8V x.p1,u8V x.p2,u8V x.p3,.sl (x.g.map Gx.v) none,.sl (x.o.map u8V) none,.sl (p.i.map u8V) none,.sl (p.s.map u8V) none,.sl (q.i.map u8V) none,.sl (q.s.map u8V) none]:=rfl
@[simp] theorem jdf (x:Cx) (p q:Pt):(q6k x p q).cellsOk = true:=rfl
end
section
open Go
structure Fx where
 m:Nat
 n:Nat
 p:Nat
 o:Nat
 one:Bool
def Fx.v (f:Fx):V:=.agg [u8V f.m,u8V f.n,u8V f.p,u8V f.o,.bool f.one]
structure Fx.ok (f:Fx):Prop where
 m:f.m < 256
 n:f.n < 256
 p:f.p < 256
 o:f.o < 256
structure Ft where
 m:Nat
 n:Nat
 q:Nat
 v:Nat
 o:Nat
def Ft.pin (f:Ft):Int:=(f.q:Int) - 1
def Ft.ln (f:Ft):V:=.agg [qab f.n,.int .i64 f.pin]
def Ft.w (f:Ft):V:=.agg [u8V f.m,qab f.n,.int .i64 f.pin,u8V f.v,qab f.o]
@[simp] theorem jbu (f:Ft):f.ln.cells = [qab f.n,.int .i64 f.pin]:=rfl
@[simp] theorem ln_ok (f:Ft):f.ln.cellsOk = true:=rfl
@[simp] theorem jfc (f:Ft):f.ln.pure = true:=rfl
@[simp] theorem jbj (f:Ft):f.w.cells = [u8V f.m,qab f.n,.int .i64 f.pin,u8V f.v,qab f.o]:=rfl
@[simp] theorem ft_ok (f:Ft):f.w.cellsOk = true:=rfl
@[simp] theorem jdu (f:Ft):f.w.pure = true:=rfl
structure Ft.ok (c:Ci) (f:Ft):Prop where
 m:f.m < 2
 n:f.n < c.n.length
 q:f.q≤(c.nd f.n).i.length
 v:f.v≤1
 o:f.o = 0
theorem q4y (c:Ci) (hg:c.good):qac Tryz.prog gl0 63 [c.v] (.int .i64 0):=by
 have hk:=q2v c hg.wf;rw [hg.chk] at hk;have hm:=hg.m;refine jiu 2 ok63 rfl ?_;simp [i63,x63];intro gf;refine jir hk (by simp) ?_;simp [hm]
end
end Go.Proofs.YtlmniacemoohpaaGreatDoor
