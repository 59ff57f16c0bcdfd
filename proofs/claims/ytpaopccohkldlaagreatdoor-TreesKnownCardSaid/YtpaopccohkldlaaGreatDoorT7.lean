/- Lemmas. Conditions: none. -/
import Derived.Test.YtpaopccohkldlaaGreatDoorS5
import Derived.Test.YtpaopccohkldlaaGreatDoorXT
import Derived.Test.YtpaopccohkldlaaGreatDoorNet17
import Derived.Test.YtpaopccohkldlaaGreatDoorNet13
set_option linter.all false
namespace Go.Proofs.YtpaopccohkldlaaGreatDoor
section
open Go
theorem qx5 {c:Ci} {L:List Nat} (h:Ord c L):Ord c (qqv c):=by rw [h.eq]; exact h
theorem Ci.good.ord {c:Ci} (hg:c.good):Ord c (qqv c):=by
 have hlv:qhy c.n.length c.g (qo9 c):=hg.ac.lv;have hlt:=hlv.lt hg.val.g;refine qx5 (L:=lvL c.n.length (qo9 c) c.n.length) ⟨⟨?_,fun x hx=>((qi3 _ _).1 hx).1⟩,qui _⟩;have h1:=q1e (n:=c.n.length) (lv:=qo9 c) c.n.length;have h2:=q1d hlt;omega
def prV (a b:Pt):V:=.agg [.sl (a.i.map u8V) none,.sl (a.s.map u8V) none,.sl (b.i.map u8V) none,.sl (b.s.map u8V) none]
theorem qv5:∀ l:List Nat,jec (l.map u8V) = true
 | []=>rfl
 | a :: r=>by
  rw [List.map_cons];show (V.noG (u8V a) && jec (r.map u8V)) = true;rw [qv5 r]; rfl
end
section
open Go
@[simp] theorem q6i (a b:Pt):(prV a b).cells = [.sl (a.i.map u8V) none,.sl (a.s.map u8V) none,.sl (b.i.map u8V) none,.sl (b.s.map u8V) none]:=rfl
@[simp] theorem prV_ok (a b:Pt):(prV a b).cellsOk = true:=rfl
def q35 (x:Cx) (p q:Pt):V:=.agg [u8V x.n,u8V x.f,u8V x.d0,u8V x.d1,.bool x.bus,.bool x.mem,u8V x.p0,u8V x.p1,u8V x.p2,u8V x.p3,.sl (x.g.map Gx.v) none,.sl (x.o.map u8V) none,.sl (p.i.map u8V) none,.sl (p.s.map u8V) none,.sl (q.i.map u8V) none,.sl (q.s.map u8V) none]
@[simp] theorem q2q (x:Cx) (p q:Pt):(q35 x p q).cells = [u8V x.n,u8V x.f,u8V x.d0,u8V x.d1,.bool x.bus,.bool x.mem,u8V x.p0,u8V x.p1,u8V x.p2,u8V x.p3,.sl (x.g.map Gx.v) none,.sl (x.o.map u8V) none,.sl (p.i.map u8V) none,.sl (p.s.map u8V) none,.sl (q.i.map u8V) none,.sl (q.s.map u8V) none]:=rfl
@[simp] theorem q9w (x:Cx) (p q:Pt):(q35 x p q).cellsOk = true:=rfl
end
section
open Go
structure Fx where
 m:Nat
 n:Nat
 p:Nat
 o:Nat
 one:Bool
def Fx.v (f:Fx):V:=.agg [u8V f.m,u8V f.n,u8V f.p,u8V f.o,.bool f.one]
structure Ft where
 m:Nat
 n:Nat
 q:Nat
 v:Nat
 o:Nat
def Ft.pin (f:Ft):Int:=(f.q:Int) - 1
def Ft.ln (f:Ft):V:=.agg [qab f.n,.int .i64 f.pin]
def Ft.w (f:Ft):V:=.agg [u8V f.m,qab f.n,.int .i64 f.pin,u8V f.v,qab f.o]
@[simp] theorem q74 (f:Ft):f.ln.cells = [qab f.n,.int .i64 f.pin]:=rfl
@[simp] theorem ln_ok (f:Ft):f.ln.cellsOk = true:=rfl
@[simp] theorem qha (f:Ft):f.ln.pure = true:=rfl
@[simp] theorem q7w (f:Ft):f.w.cells = [u8V f.m,qab f.n,.int .i64 f.pin,u8V f.v,qab f.o]:=rfl
@[simp] theorem ft_ok (f:Ft):f.w.cellsOk = true:=rfl
@[simp] theorem qlk (f:Ft):f.w.pure = true:=rfl
structure Ft.ok (c:Ci) (f:Ft):Prop where
 m:f.m < 2
 n:f.n < c.n.length
 q:f.q≤(c.nd f.n).i.length
 v:f.v≤1
 o:f.o = 0
theorem q2i (c:Ci) (hg:c.good):qac Tryz.prog gl0 89 [c.v] (.int .i64 0):=by
 have hk:=qor c hg.wf;rw [hg.chk] at hk;have hm:=hg.m;refine jfu 2 ok89 rfl ?_;simp [i89,x89];intro gf;refine jfq hk (by simp) ?_;simp [hm]
theorem q5i (c:Ci) (f:Ft) (hn:f.n < c.n.length) (hq:f.q≤(c.nd f.n).i.length):qac Tryz.prog gl0 90 [c.v,f.ln] (.bool true):=by
 obtain ⟨y,hy⟩:∃ y,c.n[f.n] = y:=⟨_,rfl⟩;rw [c.nd_get hn,hy] at hq;have h1:(-1:Int)≤f.pin:=by unfold Ft.pin; omega
 have h2:f.pin < (y.i.length:Int):=by unfold Ft.pin; omega
 refine jfu 2 ok90 rfl ?_;simp [i90,x90,qab];intro gf1 gf2 gm;simp [hn,h1,hy,h2,qab]
 try rfl
theorem qli (c:Ci) (hg:c.good) (f:Ft) (hf:f.ok c):qac Tryz.prog gl0 43 [c.v,f.w] (.int .i64 0):=by
 have h1:=q2i c hg;have h2:=q5i c f hf.n hf.q;have hm:=hf.m;have hv:=hf.v;have ho:=hf.o;simp only [Ft.ln,qab] at h2;refine jfu 2 ok43 rfl ?_;simp [i43,x43,u8V,qab];intro gf1 gf2;refine jfq h1 (by simp) ?_;simp [show ¬ (3:Int) < (f.m:Int) by omega,show ¬ (1:Int) < (f.v:Int) by omega,u8V,qab];refine jfq h2 (by simp) ?_;simp [show ¬ (2:Int)≤(f.m:Int) by omega,ho,u8V,qab]
end
end Go.Proofs.YtpaopccohkldlaaGreatDoor
