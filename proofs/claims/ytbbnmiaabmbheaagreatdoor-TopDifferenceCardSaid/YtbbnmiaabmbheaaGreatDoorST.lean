/- Lemmas. Conditions: none. -/
import Derived.Test.YtbbnmiaabmbheaaGreatDoorBase11
import Derived.Test.YtbbnmiaabmbheaaGreatDoorRows
import Derived.Test.YtbbnmiaabmbheaaGreatDoorNet13
import Derived.Test.YtbbnmiaabmbheaaGreatDoorT1
import Derived.Test.YtbbnmiaabmbheaaGreatDoorI1
set_option linter.all false
namespace Go.Proofs.YtbbnmiaabmbheaaGreatDoor
open Go Go.RowKit Go.ChangeShapes
set_option maxRecDepth 100000
variable {v:V} {n:Nat}
theorem jbg (h:qeu Tryz.prog (n + 1) 5 v):∃ a:Nat,v = u8V a/\a < 256:=by
 obtain ⟨i,rfl,hi⟩:=qx8 Tryz.underlying5 h;simp [Lit.wf,IntKind.min,IntKind.max,IntKind.bits,IntKind.signed] at hi;exact ⟨i.toNat,by rw [u8V,Int.toNat_of_nonneg (by omega)],by omega⟩
theorem qtp {ps:List V} (h:∀ x ∈ ps,qeu Tryz.prog (n + 1) 5 x):∃ l:List Nat,ps = l.map u8V/\∀ a ∈ l,a < 256:=
 qvb (f:=u8V) (Q:=fun a=>a < 256) fun x hx=>jbg (h x hx)
theorem gx_h (h:qeu Tryz.prog (n + 3) 189 v):∃ g:Gx,v = g.v/\g.ok:=by
 obtain ⟨ps,rfl,hp⟩:=qgz Tryz.underlying189 h;obtain ⟨a,_,rfl,ha,hp⟩:=qa5 hp;obtain ⟨b,_,rfl,hb,hp⟩:=qa5 hp;obtain rfl:=qf8 hp;obtain ⟨k,rfl,hk⟩:=jbg ha;obtain ⟨qs,rfl,hl,hq⟩:=qf9 Tryz.underlying187 hb;obtain ⟨l,rfl,hx⟩:=qtp hq
 match l,hl,hx with
 | [a,b,d],_,hx=>exact ⟨⟨k,a,b,d⟩,rfl,hk,hx a (by simp),hx b (by simp),hx d (by simp)⟩
theorem cx_h (h:qeu Tryz.prog (n + 5) 27 v):∃ x:Cx,v = x.v/\x.ok:=by
 obtain ⟨ps,rfl,hp⟩:=qgz Tryz.underlying27 h;obtain ⟨a1,_,rfl,h1,hp⟩:=qa5 hp;obtain ⟨a2,_,rfl,h2,hp⟩:=qa5 hp;obtain ⟨a3,_,rfl,h3,hp⟩:=qa5 hp;obtain ⟨a4,_,rfl,h4,hp⟩:=qa5 hp;obtain ⟨a5,_,rfl,h5,hp⟩:=qa5 hp;obtain ⟨a6,_,rfl,h6,hp⟩:=qa5 hp;obtain ⟨a7,_,rfl,h7,hp⟩:=qa5 hp;obtain ⟨a8,_,rfl,h8,hp⟩:=qa5 hp;obtain rfl:=qf8 hp;obtain ⟨i,rfl,hi⟩:=jbg h1;obtain ⟨f,rfl,hf⟩:=jbg h2;obtain ⟨ds,rfl,hdl,hd⟩:=qf9 Tryz.underlying22 h3;obtain ⟨ds,rfl,hd2⟩:=qtp hd;obtain ⟨b,rfl⟩:=qn5 Tryz.underlying4 h4;obtain ⟨m,rfl⟩:=qn5 Tryz.underlying4 h5;obtain ⟨qs,rfl,hql,hq⟩:=qf9 Tryz.underlying23 h6;obtain ⟨qs,rfl,hq2⟩:=qtp hq;obtain ⟨gs,rfl,-,hg⟩:=qh3 Tryz.underlying24 h7;obtain ⟨os,rfl,-,ho⟩:=qh3 Tryz.underlying25 h8;obtain ⟨gs,rfl,hg2⟩:=qvb (f:=Gx.v) (Q:=Gx.ok) fun x hx=>gx_h (hg x hx);obtain ⟨os,rfl,ho2⟩:=qtp ho
 match ds,qs,hdl,hql,hd2,hq2 with
 | [d0,d1],[p0,p1,p2,p3],_,_,hd,hq=>
  exact ⟨⟨i,f,d0,d1,b,m,p0,p1,p2,p3,gs,os⟩,rfl,hi,hf,hd d0 (by simp),hd d1 (by simp),hq p0 (by simp),hq p1 (by simp),hq p2 (by simp),hq p3 (by simp),hg2,ho2⟩
theorem q9c (h:qeu Tryz.prog (n + 2) 25 v):∃ l:List Nat,v = .sl (l.map u8V) none/\∀ a ∈ l,a < 256:=by
 obtain ⟨xs,rfl,-,hx⟩:=qh3 Tryz.underlying25 h;obtain ⟨l,rfl,hl⟩:=qtp hx;exact ⟨l,rfl,hl⟩
theorem pt_h (h:qeu Tryz.prog (n + 3) 97 v):∃ p:Pt,v = p.v/\(∀ a ∈ p.i,a < 256)/\∀ a ∈ p.s,a < 256:=by
 obtain ⟨ps,rfl,hp⟩:=qgz Tryz.underlying97 h;obtain ⟨a,_,rfl,ha,hp⟩:=qa5 hp;obtain ⟨b,_,rfl,hb,hp⟩:=qa5 hp;obtain rfl:=qf8 hp;obtain ⟨i,rfl,hi⟩:=q9c ha;obtain ⟨s,rfl,hs⟩:=q9c hb;exact ⟨⟨i,s⟩,rfl,hi,hs⟩
end Go.Proofs.YtbbnmiaabmbheaaGreatDoor
