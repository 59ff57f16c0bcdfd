/- Lemmas. Conditions: none. -/
import Derived.Test.YtlmniacemoohpaaGreatDoorBase11
import Derived.Test.YtlmniacemoohpaaGreatDoorRows
import Derived.Test.YtlmniacemoohpaaGreatDoorT14
import Derived.Test.YtlmniacemoohpaaGreatDoorT7
import Derived.Test.YtlmniacemoohpaaGreatDoorP6
set_option linter.all false
namespace Go.Proofs.YtlmniacemoohpaaGreatDoor
section
open Go Go.RowKit Go.ChangeShapes
set_option maxRecDepth 100000
variable {v:V} {n:Nat}
theorem jcz (h:qf8 Tryz.prog (n + 1) 5 v):∃ a:Nat,v = u8V a/\a < 256:=by
 obtain ⟨i,rfl,hi⟩:=qs3 Tryz.underlying5 h;simp [Lit.wf,IntKind.min,IntKind.max,IntKind.bits,IntKind.signed] at hi;exact ⟨i.toNat,by rw [u8V,Int.toNat_of_nonneg (by omega)],by omega⟩
theorem q02 {ps:List V} (h:∀ x ∈ ps,qf8 Tryz.prog (n + 1) 5 x):∃ l:List Nat,ps = l.map u8V/\∀ a ∈ l,a < 256:=
 qxc (f:=u8V) (Q:=fun a=>a < 256) fun x hx=>jcz (h x hx)
theorem gx_h (h:qf8 Tryz.prog (n + 3) 182 v):∃ g:Gx,v = g.v/\g.ok:=by
 obtain ⟨ps,rfl,hp⟩:=qky Tryz.underlying182 h;obtain ⟨a,_,rfl,ha,hp⟩:=qbq hp;obtain ⟨b,_,rfl,hb,hp⟩:=qbq hp;obtain rfl:=qiq hp;obtain ⟨k,rfl,hk⟩:=jcz ha;obtain ⟨qs,rfl,hl,hq⟩:=qir Tryz.underlying180 hb;obtain ⟨l,rfl,hx⟩:=q02 hq
 match l,hl,hx with
 | [a,b,d],_,hx=>exact ⟨⟨k,a,b,d⟩,rfl,hk,hx a (by simp),hx b (by simp),hx d (by simp)⟩
theorem cx_h (h:qf8 Tryz.prog (n + 5) 27 v):∃ x:Cx,v = x.v/\x.ok:=by
 obtain ⟨ps,rfl,hp⟩:=qky Tryz.underlying27 h;obtain ⟨a1,_,rfl,h1,hp⟩:=qbq hp;obtain ⟨a2,_,rfl,h2,hp⟩:=qbq hp;obtain ⟨a3,_,rfl,h3,hp⟩:=qbq hp;obtain ⟨a4,_,rfl,h4,hp⟩:=qbq hp;obtain ⟨a5,_,rfl,h5,hp⟩:=qbq hp;obtain ⟨a6,_,rfl,h6,hp⟩:=qbq hp;obtain ⟨a7,_,rfl,h7,hp⟩:=qbq hp;obtain ⟨a8,_,rfl,h8,hp⟩:=qbq hp;obtain rfl:=qiq hp;obtain ⟨i,rfl,hi⟩:=jcz h1;obtain ⟨f,rfl,hf⟩:=jcz h2;obtain ⟨ds,rfl,hdl,hd⟩:=qir Tryz.underlying22 h3;obtain ⟨ds,rfl,hd2⟩:=q02 hd;obtain ⟨b,rfl⟩:=qpj Tryz.underlying4 h4;obtain ⟨m,rfl⟩:=qpj Tryz.underlying4 h5;obtain ⟨qs,rfl,hql,hq⟩:=qir Tryz.underlying23 h6;obtain ⟨qs,rfl,hq2⟩:=q02 hq;obtain ⟨gs,rfl,-,hg⟩:=qmi Tryz.underlying24 h7;obtain ⟨os,rfl,-,ho⟩:=qmi Tryz.underlying25 h8;obtain ⟨gs,rfl,hg2⟩:=qxc (f:=Gx.v) (Q:=Gx.ok) fun x hx=>gx_h (hg x hx);obtain ⟨os,rfl,ho2⟩:=q02 ho
 match ds,qs,hdl,hql,hd2,hq2 with
 | [d0,d1],[p0,p1,p2,p3],_,_,hd,hq=>
  exact ⟨⟨i,f,d0,d1,b,m,p0,p1,p2,p3,gs,os⟩,rfl,hi,hf,hd d0 (by simp),hd d1 (by simp),hq p0 (by simp),hq p1 (by simp),hq p2 (by simp),hq p3 (by simp),hg2,ho2⟩
end
section
open Go Go.RowKit Go.ChangeShapes
set_option maxRecDepth 100000
variable {v:V} {n:Nat}
theorem je7 (h:qf8 Tryz.prog (n + 1) 3 v):∃ a:Int,v = .int .i64 a:=by
 obtain ⟨i,rfl,-⟩:=qs3 Tryz.underlying3 h;exact ⟨i,rfl⟩
end
end Go.Proofs.YtlmniacemoohpaaGreatDoor
