/- Netlists: circuits as plain data among the arguments. Conditions: none. -/
import Derived.Test.YtcdfifbabhfknaaDoorBase11
import Derived.Test.YtcdfifbabhfknaaDoorRows
import Derived.Test.YtcdfifbabhfknaaDoorNet13
set_option linter.unusedSimpArgs false
set_option linter.unusedVariables false
namespace Go.Proofs.YtcdfifbabhfknaaDoor
open Go Go.RowKit Go.ChangeShapes
set_option maxRecDepth 100000
variable {v : V} {n : Nat}
theorem u8_h (h : hasT Tryd.prog (n + 1) 5 v) : ∃ a : Nat,v = u8V a∧a < 256:=by
 obtain ⟨i,rfl,hi⟩:=hasT_int Tryd.underlying5 h
 simp [Lit.wf,IntKind.min,IntKind.max,IntKind.bits,IntKind.signed] at hi
 exact ⟨i.toNat,by rw [u8V,Int.toNat_of_nonneg (by omega)],by omega⟩
theorem u8s_h {ps : List V} (h : ∀ x ∈ ps,hasT Tryd.prog (n + 1) 5 x) : ∃ l : List Nat,ps = l.map u8V∧∀ a ∈ l,a < 256:=
 list_of (f:=u8V) (Q:=fun a=>a < 256) fun x hx=>u8_h (h x hx)
theorem gx_h (h : hasT Tryd.prog (n + 3) 87 v) : ∃ g : Gx,v = g.v∧g.ok:=by
 obtain ⟨ps,rfl,hp⟩:=hasT_struct Tryd.underlying87 h
 obtain ⟨a,_,rfl,ha,hp⟩:=hasAll_cons hp
 obtain ⟨b,_,rfl,hb,hp⟩:=hasAll_cons hp
 obtain rfl:=hasAll_nil hp
 obtain ⟨k,rfl,hk⟩:=u8_h ha
 obtain ⟨qs,rfl,hl,hq⟩:=hasT_array Tryd.underlying61 hb
 obtain ⟨l,rfl,hx⟩:=u8s_h hq
 match l,hl,hx with
 | [a,b,d],_,hx=>exact ⟨⟨k,a,b,d⟩,rfl,hk,hx a (by simp),hx b (by simp),hx d (by simp)⟩
theorem cx_h (h : hasT Tryd.prog (n + 5) 56 v) : ∃ x : Cx,v = x.v∧x.ok:=by
 obtain ⟨ps,rfl,hp⟩:=hasT_struct Tryd.underlying56 h
 obtain ⟨a1,_,rfl,h1,hp⟩:=hasAll_cons hp
 obtain ⟨a2,_,rfl,h2,hp⟩:=hasAll_cons hp
 obtain ⟨a3,_,rfl,h3,hp⟩:=hasAll_cons hp
 obtain ⟨a4,_,rfl,h4,hp⟩:=hasAll_cons hp
 obtain ⟨a5,_,rfl,h5,hp⟩:=hasAll_cons hp
 obtain ⟨a6,_,rfl,h6,hp⟩:=hasAll_cons hp
 obtain ⟨a7,_,rfl,h7,hp⟩:=hasAll_cons hp
 obtain ⟨a8,_,rfl,h8,hp⟩:=hasAll_cons hp
 obtain rfl:=hasAll_nil hp
 obtain ⟨i,rfl,hi⟩:=u8_h h1
 obtain ⟨f,rfl,hf⟩:=u8_h h2
 obtain ⟨ds,rfl,hdl,hd⟩:=hasT_array Tryd.underlying51 h3
 obtain ⟨ds,rfl,hd2⟩:=u8s_h hd
 obtain ⟨b,rfl⟩:=hasT_bool Tryd.underlying4 h4
 obtain ⟨m,rfl⟩:=hasT_bool Tryd.underlying4 h5
 obtain ⟨qs,rfl,hql,hq⟩:=hasT_array Tryd.underlying52 h6
 obtain ⟨qs,rfl,hq2⟩:=u8s_h hq
 obtain ⟨gs,rfl,-,hg⟩:=hasT_slice Tryd.underlying53 h7
 obtain ⟨os,rfl,-,ho⟩:=hasT_slice Tryd.underlying54 h8
 obtain ⟨gs,rfl,hg2⟩:=list_of (f:=Gx.v) (Q:=Gx.ok) fun x hx=>gx_h (hg x hx)
 obtain ⟨os,rfl,ho2⟩:=u8s_h ho
 match ds,qs,hdl,hql,hd2,hq2 with
 | [d0,d1],[p0,p1,p2,p3],_,_,hd,hq=>
  exact ⟨⟨i,f,d0,d1,b,m,p0,p1,p2,p3,gs,os⟩,rfl,hi,hf,hd d0 (by simp),hd d1 (by simp),hq p0 (by simp),hq p1 (by simp),hq p2 (by simp),hq p3 (by simp),hg2,ho2⟩
end Go.Proofs.YtcdfifbabhfknaaDoor
