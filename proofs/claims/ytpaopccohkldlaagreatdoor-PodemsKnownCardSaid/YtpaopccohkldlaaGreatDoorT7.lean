/- Lemmas. Conditions: none. -/
import Derived.Test.YtpaopccohkldlaaGreatDoorS5
import Derived.Test.YtpaopccohkldlaaGreatDoorXP
import Derived.Test.YtpaopccohkldlaaGreatDoorNet17
import Derived.Test.YtpaopccohkldlaaGreatDoorNet13
set_option linter.all false
namespace Go.Proofs.YtpaopccohkldlaaGreatDoor
section
open Go
theorem q3q {c:Ci} {L:List Nat} (h:Ord c L):Ord c (qij c):=by rw [h.eq]; exact h
theorem Ci.good.ord {c:Ci} (hg:c.good):Ord c (qij c):=by
 have hlv:qhz c.n.length c.g (qhy c):=hg.ac.lv;have hlt:=hlv.lt hg.val.g;refine q3q (L:=lvL c.n.length (qhy c) c.n.length) ⟨⟨?_,fun x hx=>((qkz _ _).1 hx).1⟩,qza _⟩;have h1:=q76 (n:=c.n.length) (lv:=qhy c) c.n.length;have h2:=q75 hlt;omega
theorem q0y:∀ l:List Nat,jnl (l.map u8V) = true
 | []=>rfl
 | a :: r=>by
  rw [List.map_cons];show (V.noG (u8V a) && jnl (r.map u8V)) = true;rw [q0y r]; rfl
end
section
open Go
end
section
open Go
structure Fx where
 m:Nat
 n:Nat
 p:Nat
 o:Nat
 one:Bool
def Fx.v (f:Fx):V:=.agg [u8V f.m,u8V f.n,u8V f.p,u8V f.o,.bool f.one]
structure Fx.ok (f:Fx):Prop where
 m:f.m < 256
 n:f.n < 256
 p:f.p < 256
 o:f.o < 256
structure Ft where
 m:Nat
 n:Nat
 q:Nat
 v:Nat
 o:Nat
def Ft.pin (f:Ft):Int:=(f.q:Int) - 1
def Ft.ln (f:Ft):V:=.agg [qaa f.n,.int .i64 f.pin]
def Ft.w (f:Ft):V:=.agg [u8V f.m,qaa f.n,.int .i64 f.pin,u8V f.v,qaa f.o]
@[simp] theorem jgb (f:Ft):f.ln.cells = [qaa f.n,.int .i64 f.pin]:=rfl
@[simp] theorem ln_ok (f:Ft):f.ln.cellsOk = true:=rfl
@[simp] theorem qie (f:Ft):f.ln.pure = true:=rfl
@[simp] theorem jf2 (f:Ft):f.w.cells = [u8V f.m,qaa f.n,.int .i64 f.pin,u8V f.v,qaa f.o]:=rfl
@[simp] theorem ft_ok (f:Ft):f.w.cellsOk = true:=rfl
@[simp] theorem qyg (f:Ft):f.w.pure = true:=rfl
structure Ft.ok (c:Ci) (f:Ft):Prop where
 m:f.m < 2
 n:f.n < c.n.length
 q:f.q≤(c.nd f.n).i.length
 v:f.v≤1
 o:f.o = 0
theorem qs0 (c:Ci) (hg:c.good):qab Tryz.prog gl0 89 [c.v] (.int .i64 0):=by
 have hk:=qj5 c hg.wf;rw [hg.chk] at hk;have hm:=hg.m;refine jpb 2 ok89 rfl ?_;simp [i89,x89];intro gf;refine jo7 hk (by simp) ?_;simp [hm]
theorem jde (c:Ci) (f:Ft) (hn:f.n < c.n.length) (hq:f.q≤(c.nd f.n).i.length):qab Tryz.prog gl0 90 [c.v,f.ln] (.bool true):=by
 obtain ⟨y,hy⟩:∃ y,c.n[f.n] = y:=⟨_,rfl⟩;rw [c.nd_get hn,hy] at hq;have h1:(-1:Int)≤f.pin:=by unfold Ft.pin; omega
 have h2:f.pin < (y.i.length:Int):=by unfold Ft.pin; omega
 refine jpb 2 ok90 rfl ?_;simp [i90,x90,qaa];intro gf1 gf2 gm;simp [hn,h1,hy,h2,qaa]
 try rfl
theorem qha (c:Ci) (hg:c.good) (f:Ft) (hf:f.ok c):qab Tryz.prog gl0 43 [c.v,f.w] (.int .i64 0):=by
 have h1:=qs0 c hg;have h2:=jde c f hf.n hf.q;have hm:=hf.m;have hv:=hf.v;have ho:=hf.o;simp only [Ft.ln,qaa] at h2;refine jpb 2 jle rfl ?_;simp [i43,x43,u8V,qaa];intro gf1 gf2;refine jo7 h1 (by simp) ?_;simp [show ¬ (3:Int) < (f.m:Int) by omega,show ¬ (1:Int) < (f.v:Int) by omega,u8V,qaa];refine jo7 h2 (by simp) ?_;simp [show ¬ (2:Int)≤(f.m:Int) by omega,ho,u8V,qaa]
end
end Go.Proofs.YtpaopccohkldlaaGreatDoor
