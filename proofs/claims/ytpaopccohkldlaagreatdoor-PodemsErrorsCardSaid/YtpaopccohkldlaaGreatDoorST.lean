/- Lemmas. Conditions: none. -/
import Derived.Test.YtpaopccohkldlaaGreatDoorBase11
import Derived.Test.YtpaopccohkldlaaGreatDoorRows
import Derived.Test.YtpaopccohkldlaaGreatDoorNet13
import Derived.Test.YtpaopccohkldlaaGreatDoorT7
import Derived.Test.YtpaopccohkldlaaGreatDoorWA
set_option linter.all false
namespace Go.Proofs.YtpaopccohkldlaaGreatDoor
open Go Go.RowKit Go.ChangeShapes
set_option maxRecDepth 100000
variable {v:V} {n:Nat}
theorem jgy (h:qfw Tryz.prog (n + 1) 5 v):∃ a:Nat,v = u8V a/\a < 256:=by
 obtain ⟨i,rfl,hi⟩:=qj7 Tryz.underlying5 h;simp [Lit.wf,IntKind.min,IntKind.max,IntKind.bits,IntKind.signed] at hi;exact ⟨i.toNat,by rw [u8V,Int.toNat_of_nonneg (by omega)],by omega⟩
theorem q41 {ps:List V} (h:∀ x ∈ ps,qfw Tryz.prog (n + 1) 5 x):∃ l:List Nat,ps = l.map u8V/\∀ a ∈ l,a < 256:=
 qy7 (f:=u8V) (Q:=fun a=>a < 256) fun x hx=>jgy (h x hx)
theorem gx_h (h:qfw Tryz.prog (n + 3) 161 v):∃ g:Gx,v = g.v/\g.ok:=by
 obtain ⟨ps,rfl,hp⟩:=qfl Tryz.underlying161 h;obtain ⟨a,_,rfl,ha,hp⟩:=qa3 hp;obtain ⟨b,_,rfl,hb,hp⟩:=qa3 hp;obtain rfl:=qe5 hp;obtain ⟨k,rfl,hk⟩:=jgy ha;obtain ⟨qs,rfl,hl,hq⟩:=qiv Tryz.underlying159 hb;obtain ⟨l,rfl,hx⟩:=q41 hq
 match l,hl,hx with
 | [a,b,d],_,hx=>exact ⟨⟨k,a,b,d⟩,rfl,hk,hx a (by simp),hx b (by simp),hx d (by simp)⟩
theorem cx_h (h:qfw Tryz.prog (n + 5) 27 v):∃ x:Cx,v = x.v/\x.ok:=by
 obtain ⟨ps,rfl,hp⟩:=qfl Tryz.underlying27 h;obtain ⟨a1,_,rfl,h1,hp⟩:=qa3 hp;obtain ⟨a2,_,rfl,h2,hp⟩:=qa3 hp;obtain ⟨a3,_,rfl,h3,hp⟩:=qa3 hp;obtain ⟨a4,_,rfl,h4,hp⟩:=qa3 hp;obtain ⟨a5,_,rfl,h5,hp⟩:=qa3 hp;obtain ⟨a6,_,rfl,h6,hp⟩:=qa3 hp;obtain ⟨a7,_,rfl,h7,hp⟩:=qa3 hp;obtain ⟨a8,_,rfl,h8,hp⟩:=qa3 hp;obtain rfl:=qe5 hp;obtain ⟨i,rfl,hi⟩:=jgy h1;obtain ⟨f,rfl,hf⟩:=jgy h2;obtain ⟨ds,rfl,hdl,hd⟩:=qiv Tryz.underlying22 h3;obtain ⟨ds,rfl,hd2⟩:=q41 hd;obtain ⟨b,rfl⟩:=qql Tryz.underlying4 h4;obtain ⟨m,rfl⟩:=qql Tryz.underlying4 h5;obtain ⟨qs,rfl,hql,hq⟩:=qiv Tryz.underlying23 h6;obtain ⟨qs,rfl,hq2⟩:=q41 hq;obtain ⟨gs,rfl,-,hg⟩:=qm7 Tryz.underlying24 h7;obtain ⟨os,rfl,-,ho⟩:=qm7 Tryz.underlying25 h8;obtain ⟨gs,rfl,hg2⟩:=qy7 (f:=Gx.v) (Q:=Gx.ok) fun x hx=>gx_h (hg x hx);obtain ⟨os,rfl,ho2⟩:=q41 ho
 match ds,qs,hdl,hql,hd2,hq2 with
 | [d0,d1],[p0,p1,p2,p3],_,_,hd,hq=>
  exact ⟨⟨i,f,d0,d1,b,m,p0,p1,p2,p3,gs,os⟩,rfl,hi,hf,hd d0 (by simp),hd d1 (by simp),hq p0 (by simp),hq p1 (by simp),hq p2 (by simp),hq p3 (by simp),hg2,ho2⟩
theorem q23 (h:qfw Tryz.prog (n + 1) 3 v):∃ a:Int,v = .int .i64 a:=by
 obtain ⟨i,rfl,-⟩:=qj7 Tryz.underlying3 h;exact ⟨i,rfl⟩
theorem q7q (h:qfw Tryz.prog (n + 3) 43 v):∃ f:Fw,v = f.w/\0≤f.m/\0≤f.v:=by
 obtain ⟨ps,rfl,hp⟩:=qfl Tryz.underlying43 h;obtain ⟨a,_,rfl,ha,hp⟩:=qa3 hp;obtain ⟨b,_,rfl,hb,hp⟩:=qa3 hp;obtain ⟨d,_,rfl,hd,hp⟩:=qa3 hp;obtain ⟨e,_,rfl,he,hp⟩:=qa3 hp;obtain rfl:=qe5 hp;obtain ⟨m,rfl,hm⟩:=qj7 Tryz.underlying38 ha;obtain ⟨qs,rfl,hq⟩:=qfl Tryz.underlying40 hb;obtain ⟨x,_,rfl,hx,hq⟩:=qa3 hq;obtain ⟨y,_,rfl,hy,hq⟩:=qa3 hq;obtain rfl:=qe5 hq;obtain ⟨i,rfl⟩:=q23 hx;obtain ⟨j,rfl⟩:=q23 hy;obtain ⟨w,rfl,hw⟩:=qj7 Tryz.underlying41 hd;obtain ⟨o,rfl⟩:=q23 he;simp [Lit.wf,IntKind.min,IntKind.max,IntKind.bits,IntKind.signed] at hm hw;exact ⟨⟨m,i,j,w,o⟩,rfl,by dsimp only; omega,by dsimp only; omega⟩
end Go.Proofs.YtpaopccohkldlaaGreatDoor
