/- Lemmas. Conditions: none. -/
import Derived.Test.YtpaopccohkldlaaGreatDoorBase11
import Derived.Test.YtpaopccohkldlaaGreatDoorRows
import Derived.Test.YtpaopccohkldlaaGreatDoorNet13
import Derived.Test.YtpaopccohkldlaaGreatDoorT7
import Derived.Test.YtpaopccohkldlaaGreatDoorI1
set_option linter.all false
namespace Go.Proofs.YtpaopccohkldlaaGreatDoor
open Go Go.RowKit Go.ChangeShapes
set_option maxRecDepth 100000
variable {v:V} {n:Nat}
theorem q2c (h:qe1 Tryz.prog (n + 1) 5 v):∃ a:Nat,v = u8V a/\a < 256:=by
 obtain ⟨i,rfl,hi⟩:=qzd Tryz.underlying5 h;simp [Lit.wf,IntKind.min,IntKind.max,IntKind.bits,IntKind.signed] at hi;exact ⟨i.toNat,by rw [u8V,Int.toNat_of_nonneg (by omega)],by omega⟩
theorem qxy {ps:List V} (h:∀ x ∈ ps,qe1 Tryz.prog (n + 1) 5 x):∃ l:List Nat,ps = l.map u8V/\∀ a ∈ l,a < 256:=
 qv1 (f:=u8V) (Q:=fun a=>a < 256) fun x hx=>q2c (h x hx)
theorem gx_h (h:qe1 Tryz.prog (n + 3) 161 v):∃ g:Gx,v = g.v/\g.ok:=by
 obtain ⟨ps,rfl,hp⟩:=qe2 Tryz.underlying161 h;obtain ⟨a,_,rfl,ha,hp⟩:=qa2 hp;obtain ⟨b,_,rfl,hb,hp⟩:=qa2 hp;obtain rfl:=qem hp;obtain ⟨k,rfl,hk⟩:=q2c ha;obtain ⟨qs,rfl,hl,hq⟩:=qhs Tryz.underlying159 hb;obtain ⟨l,rfl,hx⟩:=qxy hq
 match l,hl,hx with
 | [a,b,d],_,hx=>exact ⟨⟨k,a,b,d⟩,rfl,hk,hx a (by simp),hx b (by simp),hx d (by simp)⟩
theorem cx_h (h:qe1 Tryz.prog (n + 5) 27 v):∃ x:Cx,v = x.v/\x.ok:=by
 obtain ⟨ps,rfl,hp⟩:=qe2 Tryz.underlying27 h;obtain ⟨a1,_,rfl,h1,hp⟩:=qa2 hp;obtain ⟨a2,_,rfl,h2,hp⟩:=qa2 hp;obtain ⟨a3,_,rfl,h3,hp⟩:=qa2 hp;obtain ⟨a4,_,rfl,h4,hp⟩:=qa2 hp;obtain ⟨a5,_,rfl,h5,hp⟩:=qa2 hp;obtain ⟨a6,_,rfl,h6,hp⟩:=qa2 hp;obtain ⟨a7,_,rfl,h7,hp⟩:=qa2 hp;obtain ⟨a8,_,rfl,h8,hp⟩:=qa2 hp;obtain rfl:=qem hp;obtain ⟨i,rfl,hi⟩:=q2c h1;obtain ⟨f,rfl,hf⟩:=q2c h2;obtain ⟨ds,rfl,hdl,hd⟩:=qhs Tryz.underlying22 h3;obtain ⟨ds,rfl,hd2⟩:=qxy hd;obtain ⟨b,rfl⟩:=qjy Tryz.underlying4 h4;obtain ⟨m,rfl⟩:=qjy Tryz.underlying4 h5;obtain ⟨qs,rfl,hql,hq⟩:=qhs Tryz.underlying23 h6;obtain ⟨qs,rfl,hq2⟩:=qxy hq;obtain ⟨gs,rfl,-,hg⟩:=qht Tryz.underlying24 h7;obtain ⟨os,rfl,-,ho⟩:=qht Tryz.underlying25 h8;obtain ⟨gs,rfl,hg2⟩:=qv1 (f:=Gx.v) (Q:=Gx.ok) fun x hx=>gx_h (hg x hx);obtain ⟨os,rfl,ho2⟩:=qxy ho
 match ds,qs,hdl,hql,hd2,hq2 with
 | [d0,d1],[p0,p1,p2,p3],_,_,hd,hq=>
  exact ⟨⟨i,f,d0,d1,b,m,p0,p1,p2,p3,gs,os⟩,rfl,hi,hf,hd d0 (by simp),hd d1 (by simp),hq p0 (by simp),hq p1 (by simp),hq p2 (by simp),hq p3 (by simp),hg2,ho2⟩
theorem q99 (h:qe1 Tryz.prog (n + 2) 25 v):∃ l:List Nat,v = .sl (l.map u8V) none/\∀ a ∈ l,a < 256:=by
 obtain ⟨xs,rfl,-,hx⟩:=qht Tryz.underlying25 h;obtain ⟨l,rfl,hl⟩:=qxy hx;exact ⟨l,rfl,hl⟩
theorem fx_h (h:qe1 Tryz.prog (n + 2) 29 v):∃ f:Fx,v = f.v/\f.ok:=by
 obtain ⟨ps,rfl,hp⟩:=qe2 Tryz.underlying29 h;obtain ⟨a,_,rfl,ha,hp⟩:=qa2 hp;obtain ⟨b,_,rfl,hb,hp⟩:=qa2 hp;obtain ⟨d,_,rfl,hd,hp⟩:=qa2 hp;obtain ⟨e,_,rfl,he,hp⟩:=qa2 hp;obtain ⟨o,_,rfl,ho,hp⟩:=qa2 hp;obtain rfl:=qem hp;obtain ⟨a,rfl,ha2⟩:=q2c ha;obtain ⟨b,rfl,hb2⟩:=q2c hb;obtain ⟨d,rfl,hd2⟩:=q2c hd;obtain ⟨e,rfl,he2⟩:=q2c he;obtain ⟨o,rfl⟩:=qjy Tryz.underlying4 ho;exact ⟨⟨a,b,d,e,o⟩,rfl,ha2,hb2,hd2,he2⟩
theorem pt_h (h:qe1 Tryz.prog (n + 3) 69 v):∃ p:Pt,v = p.v/\(∀ a ∈ p.i,a < 256)/\∀ a ∈ p.s,a < 256:=by
 obtain ⟨ps,rfl,hp⟩:=qe2 Tryz.underlying69 h;obtain ⟨a,_,rfl,ha,hp⟩:=qa2 hp;obtain ⟨b,_,rfl,hb,hp⟩:=qa2 hp;obtain rfl:=qem hp;obtain ⟨i,rfl,hi⟩:=q99 ha;obtain ⟨s,rfl,hs⟩:=q99 hb;exact ⟨⟨i,s⟩,rfl,hi,hs⟩
end Go.Proofs.YtpaopccohkldlaaGreatDoor
