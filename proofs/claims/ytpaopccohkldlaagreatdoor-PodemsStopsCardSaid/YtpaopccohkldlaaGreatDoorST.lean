/- Lemmas. Conditions: none. -/
import Derived.Test.YtpaopccohkldlaaGreatDoorBase11
import Derived.Test.YtpaopccohkldlaaGreatDoorRows
import Derived.Test.YtpaopccohkldlaaGreatDoorNet13
import Derived.Test.YtpaopccohkldlaaGreatDoorT7
set_option linter.all false
namespace Go.Proofs.YtpaopccohkldlaaGreatDoor
open Go Go.RowKit Go.ChangeShapes
set_option maxRecDepth 100000
variable {v:V} {n:Nat}
theorem q51 (h:qfy Tryz.prog (n + 1) 5 v):∃ a:Nat,v = u8V a/\a < 256:=by
 obtain ⟨i,rfl,hi⟩:=q3y Tryz.underlying5 h;simp [Lit.wf,IntKind.min,IntKind.max,IntKind.bits,IntKind.signed] at hi;exact ⟨i.toNat,by rw [u8V,Int.toNat_of_nonneg (by omega)],by omega⟩
theorem q53 {ps:List V} (h:∀ x ∈ ps,qfy Tryz.prog (n + 1) 5 x):∃ l:List Nat,ps = l.map u8V/\∀ a ∈ l,a < 256:=
 qz5 (f:=u8V) (Q:=fun a=>a < 256) fun x hx=>q51 (h x hx)
theorem gx_h (h:qfy Tryz.prog (n + 3) 161 v):∃ g:Gx,v = g.v/\g.ok:=by
 obtain ⟨ps,rfl,hp⟩:=qhg Tryz.underlying161 h;obtain ⟨a,_,rfl,ha,hp⟩:=qa0 hp;obtain ⟨b,_,rfl,hb,hp⟩:=qa0 hp;obtain rfl:=qfa hp;obtain ⟨k,rfl,hk⟩:=q51 ha;obtain ⟨qs,rfl,hl,hq⟩:=qi1 Tryz.underlying159 hb;obtain ⟨l,rfl,hx⟩:=q53 hq
 match l,hl,hx with
 | [a,b,d],_,hx=>exact ⟨⟨k,a,b,d⟩,rfl,hk,hx a (by simp),hx b (by simp),hx d (by simp)⟩
theorem cx_h (h:qfy Tryz.prog (n + 5) 27 v):∃ x:Cx,v = x.v/\x.ok:=by
 obtain ⟨ps,rfl,hp⟩:=qhg Tryz.underlying27 h;obtain ⟨a1,_,rfl,h1,hp⟩:=qa0 hp;obtain ⟨a2,_,rfl,h2,hp⟩:=qa0 hp;obtain ⟨a3,_,rfl,h3,hp⟩:=qa0 hp;obtain ⟨a4,_,rfl,h4,hp⟩:=qa0 hp;obtain ⟨a5,_,rfl,h5,hp⟩:=qa0 hp;obtain ⟨a6,_,rfl,h6,hp⟩:=qa0 hp;obtain ⟨a7,_,rfl,h7,hp⟩:=qa0 hp;obtain ⟨a8,_,rfl,h8,hp⟩:=qa0 hp;obtain rfl:=qfa hp;obtain ⟨i,rfl,hi⟩:=q51 h1;obtain ⟨f,rfl,hf⟩:=q51 h2;obtain ⟨ds,rfl,hdl,hd⟩:=qi1 Tryz.underlying22 h3;obtain ⟨ds,rfl,hd2⟩:=q53 hd;obtain ⟨b,rfl⟩:=qlm Tryz.underlying4 h4;obtain ⟨m,rfl⟩:=qlm Tryz.underlying4 h5;obtain ⟨qs,rfl,hql,hq⟩:=qi1 Tryz.underlying23 h6;obtain ⟨qs,rfl,hq2⟩:=q53 hq;obtain ⟨gs,rfl,-,hg⟩:=qni Tryz.underlying24 h7;obtain ⟨os,rfl,-,ho⟩:=qni Tryz.underlying25 h8;obtain ⟨gs,rfl,hg2⟩:=qz5 (f:=Gx.v) (Q:=Gx.ok) fun x hx=>gx_h (hg x hx);obtain ⟨os,rfl,ho2⟩:=q53 ho
 match ds,qs,hdl,hql,hd2,hq2 with
 | [d0,d1],[p0,p1,p2,p3],_,_,hd,hq=>
  exact ⟨⟨i,f,d0,d1,b,m,p0,p1,p2,p3,gs,os⟩,rfl,hi,hf,hd d0 (by simp),hd d1 (by simp),hq p0 (by simp),hq p1 (by simp),hq p2 (by simp),hq p3 (by simp),hg2,ho2⟩
theorem fx_h (h:qfy Tryz.prog (n + 2) 29 v):∃ f:Fx,v = f.v/\f.ok:=by
 obtain ⟨ps,rfl,hp⟩:=qhg Tryz.underlying29 h;obtain ⟨a,_,rfl,ha,hp⟩:=qa0 hp;obtain ⟨b,_,rfl,hb,hp⟩:=qa0 hp;obtain ⟨d,_,rfl,hd,hp⟩:=qa0 hp;obtain ⟨e,_,rfl,he,hp⟩:=qa0 hp;obtain ⟨o,_,rfl,ho,hp⟩:=qa0 hp;obtain rfl:=qfa hp;obtain ⟨a,rfl,ha2⟩:=q51 ha;obtain ⟨b,rfl,hb2⟩:=q51 hb;obtain ⟨d,rfl,hd2⟩:=q51 hd;obtain ⟨e,rfl,he2⟩:=q51 he;obtain ⟨o,rfl⟩:=qlm Tryz.underlying4 ho;exact ⟨⟨a,b,d,e,o⟩,rfl,ha2,hb2,hd2,he2⟩
end Go.Proofs.YtpaopccohkldlaaGreatDoor
