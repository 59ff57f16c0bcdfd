/- Lemmas. Conditions: none. -/
import Derived.Test.YtpaopccohkldlaaGreatDoorBase11
import Derived.Test.YtpaopccohkldlaaGreatDoorRows
import Derived.Test.YtpaopccohkldlaaGreatDoorNet13
import Derived.Test.YtpaopccohkldlaaGreatDoorT7
import Derived.Test.YtpaopccohkldlaaGreatDoorI1
set_option linter.all false
namespace Go.Proofs.YtpaopccohkldlaaGreatDoor
open Go Go.RowKit Go.ChangeShapes
set_option maxRecDepth 100000
variable {v:V} {n:Nat}
theorem q1o (h:qd7 Tryz.prog (n + 1) 5 v):∃ a:Nat,v = u8V a/\a < 256:=by
 obtain ⟨i,rfl,hi⟩:=qrz Tryz.underlying5 h;simp [Lit.wf,IntKind.min,IntKind.max,IntKind.bits,IntKind.signed] at hi;exact ⟨i.toNat,by rw [u8V,Int.toNat_of_nonneg (by omega)],by omega⟩
theorem qxt {ps:List V} (h:∀ x ∈ ps,qd7 Tryz.prog (n + 1) 5 x):∃ l:List Nat,ps = l.map u8V/\∀ a ∈ l,a < 256:=
 qqc (f:=u8V) (Q:=fun a=>a < 256) fun x hx=>q1o (h x hx)
theorem gx_h (h:qd7 Tryz.prog (n + 3) 161 v):∃ g:Gx,v = g.v/\g.ok:=by
 obtain ⟨ps,rfl,hp⟩:=qe7 Tryz.underlying161 h;obtain ⟨a,_,rfl,ha,hp⟩:=qav hp;obtain ⟨b,_,rfl,hb,hp⟩:=qav hp;obtain rfl:=qdt hp;obtain ⟨k,rfl,hk⟩:=q1o ha;obtain ⟨qs,rfl,hl,hq⟩:=qhw Tryz.underlying159 hb;obtain ⟨l,rfl,hx⟩:=qxt hq
 match l,hl,hx with
 | [a,b,d],_,hx=>exact ⟨⟨k,a,b,d⟩,rfl,hk,hx a (by simp),hx b (by simp),hx d (by simp)⟩
theorem cx_h (h:qd7 Tryz.prog (n + 5) 27 v):∃ x:Cx,v = x.v/\x.ok:=by
 obtain ⟨ps,rfl,hp⟩:=qe7 Tryz.underlying27 h;obtain ⟨a1,_,rfl,h1,hp⟩:=qav hp;obtain ⟨a2,_,rfl,h2,hp⟩:=qav hp;obtain ⟨a3,_,rfl,h3,hp⟩:=qav hp;obtain ⟨a4,_,rfl,h4,hp⟩:=qav hp;obtain ⟨a5,_,rfl,h5,hp⟩:=qav hp;obtain ⟨a6,_,rfl,h6,hp⟩:=qav hp;obtain ⟨a7,_,rfl,h7,hp⟩:=qav hp;obtain ⟨a8,_,rfl,h8,hp⟩:=qav hp;obtain rfl:=qdt hp;obtain ⟨i,rfl,hi⟩:=q1o h1;obtain ⟨f,rfl,hf⟩:=q1o h2;obtain ⟨ds,rfl,hdl,hd⟩:=qhw Tryz.underlying22 h3;obtain ⟨ds,rfl,hd2⟩:=qxt hd;obtain ⟨b,rfl⟩:=qjt Tryz.underlying4 h4;obtain ⟨m,rfl⟩:=qjt Tryz.underlying4 h5;obtain ⟨qs,rfl,hql,hq⟩:=qhw Tryz.underlying23 h6;obtain ⟨qs,rfl,hq2⟩:=qxt hq;obtain ⟨gs,rfl,-,hg⟩:=qf6 Tryz.underlying24 h7;obtain ⟨os,rfl,-,ho⟩:=qf6 Tryz.underlying25 h8;obtain ⟨gs,rfl,hg2⟩:=qqc (f:=Gx.v) (Q:=Gx.ok) fun x hx=>gx_h (hg x hx);obtain ⟨os,rfl,ho2⟩:=qxt ho
 match ds,qs,hdl,hql,hd2,hq2 with
 | [d0,d1],[p0,p1,p2,p3],_,_,hd,hq=>
  exact ⟨⟨i,f,d0,d1,b,m,p0,p1,p2,p3,gs,os⟩,rfl,hi,hf,hd d0 (by simp),hd d1 (by simp),hq p0 (by simp),hq p1 (by simp),hq p2 (by simp),hq p3 (by simp),hg2,ho2⟩
theorem q88 (h:qd7 Tryz.prog (n + 2) 25 v):∃ l:List Nat,v = .sl (l.map u8V) none/\∀ a ∈ l,a < 256:=by
 obtain ⟨xs,rfl,-,hx⟩:=qf6 Tryz.underlying25 h;obtain ⟨l,rfl,hl⟩:=qxt hx;exact ⟨l,rfl,hl⟩
theorem fx_h (h:qd7 Tryz.prog (n + 2) 29 v):∃ f:Fx,v = f.v/\f.ok:=by
 obtain ⟨ps,rfl,hp⟩:=qe7 Tryz.underlying29 h;obtain ⟨a,_,rfl,ha,hp⟩:=qav hp;obtain ⟨b,_,rfl,hb,hp⟩:=qav hp;obtain ⟨d,_,rfl,hd,hp⟩:=qav hp;obtain ⟨e,_,rfl,he,hp⟩:=qav hp;obtain ⟨o,_,rfl,ho,hp⟩:=qav hp;obtain rfl:=qdt hp;obtain ⟨a,rfl,ha2⟩:=q1o ha;obtain ⟨b,rfl,hb2⟩:=q1o hb;obtain ⟨d,rfl,hd2⟩:=q1o hd;obtain ⟨e,rfl,he2⟩:=q1o he;obtain ⟨o,rfl⟩:=qjt Tryz.underlying4 ho;exact ⟨⟨a,b,d,e,o⟩,rfl,ha2,hb2,hd2,he2⟩
theorem q22 (h:qd7 Tryz.prog (n + 1) 3 v):∃ a:Int,v = .int .i64 a:=by
 obtain ⟨i,rfl,-⟩:=qrz Tryz.underlying3 h;exact ⟨i,rfl⟩
end Go.Proofs.YtpaopccohkldlaaGreatDoor
