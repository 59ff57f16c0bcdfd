/- Lemmas. Conditions: none. -/
import Derived.Test.YtpaopccohkldlaaGreatDoorS5
import Derived.Test.YtpaopccohkldlaaGreatDoorXT
import Derived.Test.YtpaopccohkldlaaGreatDoorNet17
import Derived.Test.YtpaopccohkldlaaGreatDoorNet13
set_option linter.all false
namespace Go.Proofs.YtpaopccohkldlaaGreatDoor
section
open Go
theorem qzy {c:Ci} {L:List Nat} (h:Ord c L):Ord c (qpl c):=by rw [h.eq]; exact h
theorem Ci.good.ord {c:Ci} (hg:c.good):Ord c (qpl c):=by
 have hlv:qiq c.n.length c.g (qqf c):=hg.ac.lv;have hlt:=hlv.lt hg.val.g;refine qzy (L:=lvL c.n.length (qqf c) c.n.length) ⟨⟨?_,fun x hx=>((qjw _ _).1 hx).1⟩,qv4 _⟩;have h1:=q29 (n:=c.n.length) (lv:=qqf c) c.n.length;have h2:=q28 hlt;omega
theorem q2x (x:Cx) (hm:x.mem = false):x.ci.good where
 wf:=jbw x
 chk:=q6b x
 sh:=q1j x
 ac:=qhq (qrj x)
 m:=by simp [Cx.ci,hm]
 k:=fun y hy hk=>by
  obtain ⟨i,hi,rfl⟩:=List.getElem_of_mem hy;rcases (qjd x).1 i hi with h | h | h | h
  ·have:=h.1; omega
  ·have:=h.1; omega
  ·rw [hm] at h; exact absurd h.1 (by simp)
  ·have:=h.2.1; omega
 n0:=by rw [(qjd x).2]; exact (qlw x).2.2.1
 n1:=by rw [(qjd x).2]; have:=(qlw x).2.2.2; have e:x.nn≤16:=this; omega
def Cx.nm (x:Cx):Cx:={ x with mem:=false }
theorem q3e (x:Cx):x.nm.ci.good:=q2x _ rfl
theorem q6c (x:Cx) (hx:x.ok):qac Tryz.prog gl0 56 [x.v] x.nm.ci.v:=by
 have hyok:x.nm.ok:=⟨hx.n,hx.f,hx.d0,hx.d1,hx.p0,hx.p1,hx.p2,hx.p3,hx.g,hx.o⟩;have hof:=jby x.nm hyok
 have hpu:jf8 [x.nm.v] = true:=by
  have:=qmb x.nm;simp only [jf8,Bool.and_true]; exact this
 have hcc:x.nm.ci.v.cells.length = 4:=rfl;generalize x.nm.ci = c at hof hcc;simp only [Cx.v,Cx.nm] at hof hpu;refine jhu 2 ok56 rfl ?_;simp [i56,x56,Cx.v];intro gf1 gf2;refine jhq hof hpu ?_;simp [qag,qb8,qck,qbs];rfl
def prV (a b:Pt):V:=.agg [.sl (a.i.map u8V) none,.sl (a.s.map u8V) none,.sl (b.i.map u8V) none,.sl (b.s.map u8V) none]
theorem qxu:∀ l:List Nat,jge (l.map u8V) = true
 | []=>rfl
 | a :: r=>by
  rw [List.map_cons];show (V.noG (u8V a) && jge (r.map u8V)) = true;rw [qxu r]; rfl
end
section
open Go
@[simp] theorem q8m (a b:Pt):(prV a b).cells = [.sl (a.i.map u8V) none,.sl (a.s.map u8V) none,.sl (b.i.map u8V) none,.sl (b.s.map u8V) none]:=rfl
@[simp] theorem prV_ok (a b:Pt):(prV a b).cellsOk = true:=rfl
theorem q2g (x:Cx) (hx:x.ok):qac Tryz.prog gl0 56 [.agg [u8V x.n,u8V x.f,u8V x.d0,u8V x.d1,.bool x.bus,.bool x.mem,u8V x.p0,u8V x.p1,u8V x.p2,u8V x.p3,.sl (x.g.map Gx.v) none,.sl (x.o.map u8V) none]] x.nm.ci.v:=q6c x hx
theorem qyv (x:Cx):jf8 [.agg [u8V x.n,u8V x.f,u8V x.d0,u8V x.d1,.bool x.bus,.bool x.mem,u8V x.p0,u8V x.p1,u8V x.p2,u8V x.p3,.sl (x.g.map Gx.v) none,.sl (x.o.map u8V) none]] = true:=by
 have:=qmb x;simp only [jf8,Bool.and_true]; exact this
def q50 (x:Cx) (p q:Pt):V:=.agg [u8V x.n,u8V x.f,u8V x.d0,u8V x.d1,.bool x.bus,.bool x.mem,u8V x.p0,u8V x.p1,u8V x.p2,u8V x.p3,.sl (x.g.map Gx.v) none,.sl (x.o.map u8V) none,.sl (p.i.map u8V) none,.sl (p.s.map u8V) none,.sl (q.i.map u8V) none,.sl (q.s.map u8V) none]
@[simp] theorem q4o (x:Cx) (p q:Pt):(q50 x p q).cells = [u8V x.n,u8V x.f,u8V x.d0,u8V x.d1,.bool x.bus,.bool x.mem,u8V x.p0,u8V x.p1,u8V x.p2,u8V x.p3,.sl (x.g.map Gx.v) none,.sl (x.o.map u8V) none,.sl (p.i.map u8V) none,.sl (p.s.map u8V) none,.sl (q.i.map u8V) none,.sl (q.s.map u8V) none]:=rfl
@[simp] theorem jbu (x:Cx) (p q:Pt):(q50 x p q).cellsOk = true:=rfl
end
section
open Go
structure Fx where
 m:Nat
 n:Nat
 p:Nat
 o:Nat
 one:Bool
def Fx.v (f:Fx):V:=.agg [u8V f.m,u8V f.n,u8V f.p,u8V f.o,.bool f.one]
structure Fx.ok (f:Fx):Prop where
 m:f.m < 256
 n:f.n < 256
 p:f.p < 256
 o:f.o < 256
structure Ft where
 m:Nat
 n:Nat
 q:Nat
 v:Nat
 o:Nat
def Ft.pin (f:Ft):Int:=(f.q:Int) - 1
def Ft.ln (f:Ft):V:=.agg [qaa f.n,.int .i64 f.pin]
def Ft.w (f:Ft):V:=.agg [u8V f.m,qaa f.n,.int .i64 f.pin,u8V f.v,qaa f.o]
@[simp] theorem q93 (f:Ft):f.ln.cells = [qaa f.n,.int .i64 f.pin]:=rfl
@[simp] theorem ln_ok (f:Ft):f.ln.cellsOk = true:=rfl
@[simp] theorem qh0 (f:Ft):f.ln.pure = true:=rfl
@[simp] theorem q9w (f:Ft):f.w.cells = [u8V f.m,qaa f.n,.int .i64 f.pin,u8V f.v,qaa f.o]:=rfl
@[simp] theorem ft_ok (f:Ft):f.w.cellsOk = true:=rfl
@[simp] theorem qmp (f:Ft):f.w.pure = true:=rfl
def Fx.of (c:Ci) (f:Fx) (m:Nat):Ft:=⟨m,f.n % c.n.length,f.p % ((c.nd (f.n % c.n.length)).i.length + 1),if f.one = true then 1 else 0,0⟩
structure Ft.ok (c:Ci) (f:Ft):Prop where
 m:f.m < 2
 n:f.n < c.n.length
 q:f.q≤(c.nd f.n).i.length
 v:f.v≤1
 o:f.o = 0
theorem jcs (c:Ci) (hg:c.good) (f:Fx) (m:Nat) (hm:m < 2):(f.of c m).ok c:=by
 have h1:f.n % c.n.length < c.n.length:=Nat.mod_lt _ hg.n0;refine ⟨hm,h1,?_,?_,rfl⟩
 ·have:=Nat.mod_lt f.p (show 0 < (c.nd (f.n % c.n.length)).i.length + 1 by omega);simp only [Fx.of]; omega
 ·simp only [Fx.of]; split <;> omega
theorem jb5 (c:Ci) (hg:c.good) (f:Fx) (hf:f.ok) (m:Nat) (hm:f.m % 4 = m) (hm2:m < 2):qac Tryz.prog gl0 57 [f.v,c.v] (f.of c m).w:=by
 have hn0:=hg.n0;have hn1:=hg.n1;obtain ⟨N,hN⟩:∃ N,c.n.length = N:=⟨_,rfl⟩;obtain ⟨n,hn⟩:∃ n,f.n % c.n.length = n:=⟨_,rfl⟩;have hnN:n < N:=by rw [<- hn,<- hN]; exact Nat.mod_lt _ hn0
 have hnc:n < c.n.length:=by omega
 obtain ⟨y,hy⟩:∃ y,c.n[n] = y:=⟨_,rfl⟩;have hyl:=hg.val.l n hnc;have hnd:c.nd n = y:=by rw [c.nd_get hnc,hy]
 rw [hnd] at hyl;obtain ⟨M,hM⟩:∃ M,y.i.length = M:=⟨_,rfl⟩;obtain ⟨q,hq⟩:∃ q,f.p % (M + 1) = q:=⟨_,rfl⟩;have hqM:q < M + 1:=by rw [<- hq]; exact Nat.mod_lt _ (by omega)
 have hof:f.of c m = ⟨m,n,q,if f.one = true then 1 else 0,0⟩:=by unfold Fx.of; rw [hn,hnd,hM,hq]
 rw [hof];rw [hN] at hn hn1 hn0;rw [hM] at hyl;have r1:((f.m:Int)).tmod 4 = (m:Int):=qkr hm;have r2:((f.n:Int)).tmod (N:Int) = (n:Int):=qkr hn;have r3:((f.p:Int)).tmod (((M + 1:Nat)):Int) = (q:Int):=qkr hq;have w1:IntKind.u8.wrap (m:Int) = (m:Int):=qra (by omega) (by omega);have w2:IntKind.i64.wrap (f.n:Int) = (f.n:Int):=u8i hf.n;have w3:IntKind.i64.wrap (f.p:Int) = (f.p:Int):=u8i hf.p;have w4:IntKind.i64.wrap (n:Int) = (n:Int):=u8i (by omega);have w5:IntKind.i64.wrap (q:Int) = (q:Int):=u8i (by omega);have w6:=qbb M (by omega);have w7:IntKind.i64.wrap ((q:Int) - 1) = (q:Int) - 1:=by rw [qar] <;> omega
 have hN0:N ≠ 0:=by omega
 have hne:c.n ≠ []:=by intro e; rw [e] at hN; simp at hN; omega
 have w8:IntKind.i64.wrap ((M:Int) + 1) = ((M + 1:Nat):Int):=w6;have hM1:(((M + 1:Nat)):Int) ≠ 0:=by omega
 refine jhu 2 ok57 rfl ?_;simp [i57,x57,Fx.v,u8V,hne];intro gf1 gf2 gf3 gm;simp [hN,r1,r2,w2];refine ⟨rfl,?_⟩;have hm22:¬ (2:Int)≤(m:Int):=by omega
 obtain ⟨M1,hM1⟩:∃ M1,M + 1 = M1:=⟨_,rfl⟩;rw [hM1] at w6 r3;have hM10:(M1:Int) ≠ 0:=by omega
 have hM11:M1 ≠ 0:=by omega
 cases f.one
 ·simp [hm22];intro gm2;simp [hnc,hy,hM,w3,w6,hM11,r3,w7,Ft.w,Ft.pin,u8V,qaa]
  try rfl
 ·simp [hm22];intro gm2;simp [hnc,hy,hM,w3,w6,hM11,r3,w7,Ft.w,Ft.pin,u8V,qaa]
  try rfl
theorem q4g (c:Ci) (hg:c.good):qac Tryz.prog gl0 89 [c.v] (.int .i64 0):=by
 have hk:=qps c hg.wf;rw [hg.chk] at hk;have hm:=hg.m;refine jhu 2 ok89 rfl ?_;simp [i89,x89];intro gf;refine jhq hk (by simp) ?_;simp [hm]
theorem q7k (c:Ci) (f:Ft) (hn:f.n < c.n.length) (hq:f.q≤(c.nd f.n).i.length):qac Tryz.prog gl0 90 [c.v,f.ln] (.bool true):=by
 obtain ⟨y,hy⟩:∃ y,c.n[f.n] = y:=⟨_,rfl⟩;rw [c.nd_get hn,hy] at hq;have h1:(-1:Int)≤f.pin:=by unfold Ft.pin; omega
 have h2:f.pin < (y.i.length:Int):=by unfold Ft.pin; omega
 refine jhu 2 ok90 rfl ?_;simp [i90,x90,qaa];intro gf1 gf2 gm;simp [hn,h1,hy,h2,qaa]
 try rfl
theorem qmn (c:Ci) (hg:c.good) (f:Ft) (hf:f.ok c):qac Tryz.prog gl0 43 [c.v,f.w] (.int .i64 0):=by
 have h1:=q4g c hg;have h2:=q7k c f hf.n hf.q;have hm:=hf.m;have hv:=hf.v;have ho:=hf.o;simp only [Ft.ln,qaa] at h2;refine jhu 2 ok43 rfl ?_;simp [i43,x43,u8V,qaa];intro gf1 gf2;refine jhq h1 (by simp) ?_;simp [show ¬ (3:Int) < (f.m:Int) by omega,show ¬ (1:Int) < (f.v:Int) by omega,u8V,qaa];refine jhq h2 (by simp) ?_;simp [show ¬ (2:Int)≤(f.m:Int) by omega,ho,u8V,qaa]
end
end Go.Proofs.YtpaopccohkldlaaGreatDoor
