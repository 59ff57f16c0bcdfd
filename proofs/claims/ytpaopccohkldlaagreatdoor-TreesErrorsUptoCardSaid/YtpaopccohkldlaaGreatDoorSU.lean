/- Trees: circuits, faults and patterns as plain data among the arguments. Conditions: none. -/
import Derived.Test.YtpaopccohkldlaaGreatDoorBase11
import Derived.Test.YtpaopccohkldlaaGreatDoorRows
import Derived.Test.YtpaopccohkldlaaGreatDoorNet13
import Derived.Test.YtpaopccohkldlaaGreatDoorT7
import Derived.Test.YtpaopccohkldlaaGreatDoorI1
import Derived.Test.YtpaopccohkldlaaGreatDoorRH
set_option linter.unusedSimpArgs false
set_option linter.unusedVariables false
namespace Go.Proofs.YtpaopccohkldlaaGreatDoor
open Go Go.RowKit Go.ChangeShapes
set_option maxRecDepth 100000
variable {v : V} {n : Nat}
theorem u8_h (h : hasT Tryz.prog (n + 1) 5 v) : ∃ a : Nat,v = u8V a∧a < 256:=by
 obtain ⟨i,rfl,hi⟩:=hasT_int Tryz.underlying5 h
 simp [Lit.wf,IntKind.min,IntKind.max,IntKind.bits,IntKind.signed] at hi
 exact ⟨i.toNat,by rw [u8V,Int.toNat_of_nonneg (by omega)],by omega⟩
theorem u8s_h {ps : List V} (h : ∀ x ∈ ps,hasT Tryz.prog (n + 1) 5 x) : ∃ l : List Nat,ps = l.map u8V∧∀ a ∈ l,a < 256:=
 list_of (f:=u8V) (Q:=fun a=>a < 256) fun x hx=>u8_h (h x hx)
theorem gx_h (h : hasT Tryz.prog (n + 3) 161 v) : ∃ g : Gx,v = g.v∧g.ok:=by
 obtain ⟨ps,rfl,hp⟩:=hasT_struct Tryz.underlying161 h
 obtain ⟨a,_,rfl,ha,hp⟩:=hasAll_cons hp
 obtain ⟨b,_,rfl,hb,hp⟩:=hasAll_cons hp
 obtain rfl:=hasAll_nil hp
 obtain ⟨k,rfl,hk⟩:=u8_h ha
 obtain ⟨qs,rfl,hl,hq⟩:=hasT_array Tryz.underlying159 hb
 obtain ⟨l,rfl,hx⟩:=u8s_h hq
 match l,hl,hx with
 | [a,b,d],_,hx=>exact ⟨⟨k,a,b,d⟩,rfl,hk,hx a (by simp),hx b (by simp),hx d (by simp)⟩
theorem cx_h (h : hasT Tryz.prog (n + 5) 27 v) : ∃ x : Cx,v = x.v∧x.ok:=by
 obtain ⟨ps,rfl,hp⟩:=hasT_struct Tryz.underlying27 h
 obtain ⟨a1,_,rfl,h1,hp⟩:=hasAll_cons hp
 obtain ⟨a2,_,rfl,h2,hp⟩:=hasAll_cons hp
 obtain ⟨a3,_,rfl,h3,hp⟩:=hasAll_cons hp
 obtain ⟨a4,_,rfl,h4,hp⟩:=hasAll_cons hp
 obtain ⟨a5,_,rfl,h5,hp⟩:=hasAll_cons hp
 obtain ⟨a6,_,rfl,h6,hp⟩:=hasAll_cons hp
 obtain ⟨a7,_,rfl,h7,hp⟩:=hasAll_cons hp
 obtain ⟨a8,_,rfl,h8,hp⟩:=hasAll_cons hp
 obtain rfl:=hasAll_nil hp
 obtain ⟨i,rfl,hi⟩:=u8_h h1
 obtain ⟨f,rfl,hf⟩:=u8_h h2
 obtain ⟨ds,rfl,hdl,hd⟩:=hasT_array Tryz.underlying22 h3
 obtain ⟨ds,rfl,hd2⟩:=u8s_h hd
 obtain ⟨b,rfl⟩:=hasT_bool Tryz.underlying4 h4
 obtain ⟨m,rfl⟩:=hasT_bool Tryz.underlying4 h5
 obtain ⟨qs,rfl,hql,hq⟩:=hasT_array Tryz.underlying23 h6
 obtain ⟨qs,rfl,hq2⟩:=u8s_h hq
 obtain ⟨gs,rfl,-,hg⟩:=hasT_slice Tryz.underlying24 h7
 obtain ⟨os,rfl,-,ho⟩:=hasT_slice Tryz.underlying25 h8
 obtain ⟨gs,rfl,hg2⟩:=list_of (f:=Gx.v) (Q:=Gx.ok) fun x hx=>gx_h (hg x hx)
 obtain ⟨os,rfl,ho2⟩:=u8s_h ho
 match ds,qs,hdl,hql,hd2,hq2 with
 | [d0,d1],[p0,p1,p2,p3],_,_,hd,hq=>
  exact ⟨⟨i,f,d0,d1,b,m,p0,p1,p2,p3,gs,os⟩,rfl,hi,hf,hd d0 (by simp),hd d1 (by simp),hq p0 (by simp),hq p1 (by simp),hq p2 (by simp),hq p3 (by simp),hg2,ho2⟩
theorem int_h (h : hasT Tryz.prog (n + 1) 3 v) : ∃ a : Int,v = .int .i64 a:=by
 obtain ⟨i,rfl,-⟩:=hasT_int Tryz.underlying3 h
 exact ⟨i,rfl⟩
end Go.Proofs.YtpaopccohkldlaaGreatDoor
namespace Go.Proofs.YtpaopccohkldlaaGreatDoor
open Go Go.RowKit Go.ChangeShapes
set_option maxRecDepth 100000
variable {v : V} {n : Nat}
theorem fault_h (h : hasT Tryz.prog (n + 3) 43 v) : ∃ f : Fw,v = f.w∧0 ≤ f.m∧0 ≤ f.v:=by
 obtain ⟨ps,rfl,hp⟩:=hasT_struct Tryz.underlying43 h
 obtain ⟨a,_,rfl,ha,hp⟩:=hasAll_cons hp
 obtain ⟨b,_,rfl,hb,hp⟩:=hasAll_cons hp
 obtain ⟨d,_,rfl,hd,hp⟩:=hasAll_cons hp
 obtain ⟨e,_,rfl,he,hp⟩:=hasAll_cons hp
 obtain rfl:=hasAll_nil hp
 obtain ⟨m,rfl,hm⟩:=hasT_int Tryz.underlying38 ha
 obtain ⟨qs,rfl,hq⟩:=hasT_struct Tryz.underlying40 hb
 obtain ⟨x,_,rfl,hx,hq⟩:=hasAll_cons hq
 obtain ⟨y,_,rfl,hy,hq⟩:=hasAll_cons hq
 obtain rfl:=hasAll_nil hq
 obtain ⟨i,rfl⟩:=int_h hx
 obtain ⟨j,rfl⟩:=int_h hy
 obtain ⟨w,rfl,hw⟩:=hasT_int Tryz.underlying41 hd
 obtain ⟨o,rfl⟩:=int_h he
 simp [Lit.wf,IntKind.min,IntKind.max,IntKind.bits,IntKind.signed] at hm hw
 exact ⟨⟨m,i,j,w,o⟩,rfl,by dsimp only; omega,by dsimp only; omega⟩
theorem u8m_h (h : hasT Tryz.prog (n + 2) 25 v) : ∃ l : List Nat,v = .sl (l.map u8V) none∧l.length ≤ maxLen:=by
 obtain ⟨xs,rfl,hm,hx⟩:=hasT_slice Tryz.underlying25 h
 obtain ⟨l,rfl,hl⟩:=u8s_h hx
 exact ⟨l,rfl,by simpa using hm⟩
theorem arr2_h (h : hasT Tryz.prog (n + 3) 88 v) : ∃ a b : List Nat,v = .agg [.sl (a.map u8V) none,.sl (b.map u8V) none]∧a.length ≤ maxLen∧b.length ≤ maxLen:=by
 obtain ⟨ps,rfl,hl,hp⟩:=hasT_array Tryz.underlying88 h
 match ps,hl,hp with
 | [p,q],_,hp=>
  obtain ⟨a,rfl,ha⟩:=u8m_h (hp p (by simp))
  obtain ⟨b,rfl,hb⟩:=u8m_h (hp q (by simp))
  exact ⟨a,b,rfl,ha,hb⟩
end Go.Proofs.YtpaopccohkldlaaGreatDoor
