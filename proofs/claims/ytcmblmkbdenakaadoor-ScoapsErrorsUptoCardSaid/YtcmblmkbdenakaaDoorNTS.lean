/- Netlists: circuits among the arguments; how much they hold. Conditions: none. -/
import Derived.Test.YtcmblmkbdenakaaDoorNet1
import Derived.Test.YtcmblmkbdenakaaDoorBase11
import Derived.Test.YtcmblmkbdenakaaDoorRows
set_option linter.unusedSimpArgs false
set_option linter.unusedVariables false
namespace Go.Proofs.YtcmblmkbdenakaaDoor
open Go Go.RowKit Go.ChangeShapes
set_option maxRecDepth 100000
mutual
theorem size_encD {H : Type} : ∀ d : DataW H,(encD d).size ≤ Rows.uptoBulk d
 | .lit (.int k n)=>by simp [encD,V.size,Rows.uptoBulk]
 | .lit (.bool b)=>by simp [encD,V.size,Rows.uptoBulk]
 | .lit (.string s)=>by simp [encD,V.size,Rows.uptoBulk]
 | .lit (.float _ _)=>by simp [encD,V.size]
 | .lit .nil=>by simp [encD,V.size]
 | .nil=>by simp [encD,V.size,V.sizeL,Rows.uptoBulk]
 | .ptr d=>by simp [encD,V.size]
 | .slice es sp=>by
  have:=size_encDs es
  simp only [encD,V.size,Rows.uptoBulk]; omega
 | .agg ps=>by
  have:=size_encDc ps
  simp only [encD,V.size,Rows.uptoBulk]; omega
 | .iface t d=>by simp [encD,V.size]
 | .map es=>by simp [encD,V.size]
 | .held h=>by simp [encD,V.size]
theorem size_encDs {H : Type} : ∀ l : List (DataW H),V.sizeL (encDs l) ≤ Rows.uptoBulkAll l
 | []=>by simp [encDs,V.sizeL]
 | d :: r=>by
  have h1:=size_encD d
  have h2:=size_encDs r
  simp only [encDs,V.sizeL,Rows.uptoBulkAll]; omega
theorem size_encDc {H : Type} : ∀ l : List (DataW H),V.sizeL (encDc l) ≤ Rows.uptoBulkAll l
 | []=>by simp [encDc,V.sizeL]
 | d :: r=>by
  have h1:=size_encD d
  have h2:=size_encDc r
  simp only [encDc,V.sizeL_app,V.size_cells,Rows.uptoBulkAll]; omega
end
theorem size_small {H : Type} {ds gs : List (DataW H)} (h : Rows.uptoSmall H (ds ++ gs) = true) : V.sizeL (ds.map encD) ≤ 1048576:=by
 have h1 : Rows.uptoBulkAll (ds ++ gs) ≤ 1048576:=by simpa [Rows.uptoSmall] using h
 have h2:=size_encDs ds
 rw [encDs_map] at h2
 have h3 : ∀ a b : List (DataW H),Rows.uptoBulkAll (a ++ b) = Rows.uptoBulkAll a + Rows.uptoBulkAll b:=by
  intro a b
  induction a with
  | nil=>simp [Rows.uptoBulkAll]
  | cons x a ih=>simp only [List.cons_append,Rows.uptoBulkAll,ih]; omega
 rw [h3] at h1
 omega
theorem size_ints (l : List Int) : V.sizeL (ints l) = l.length:=by
 induction l with
 | nil=>rfl
 | cons x l ih=>simp only [ints,List.map_cons,V.sizeL,V.size,List.length_cons] at ih ⊢; omega
variable {v : V} {n : Nat}
theorem ints_h (h : hasT Tryd.prog (n + 2) 43 v) : ∃ l : List Int,v = .sl (ints l) none∧∀ i ∈ l,(Lit.int .i64 i).wf = true:=by
 obtain ⟨xs,rfl,-,hx⟩:=hasT_slice Tryd.underlying43 h
 obtain ⟨l,rfl,hl⟩:=list_of (f:=V.int .i64) (Q:=fun i=>(Lit.int .i64 i).wf = true) fun x hx'=>hasT_int Tryd.underlying3 (hx x hx')
 exact ⟨l,rfl,hl⟩
structure Nd.ok (x : Nd) : Prop where
 k : (Lit.int .u8 x.k).wf = true
 i : ∀ i ∈ x.i,(Lit.int .i64 i).wf = true
 a : (Lit.int .i64 x.a).wf = true
 b : (Lit.int .i64 x.b).wf = true
structure Md.ok (x : Md) : Prop where
 a : ∀ i ∈ x.a,(Lit.int .i64 i).wf = true
 d : ∀ i ∈ x.d,(Lit.int .i64 i).wf = true
 w : (Lit.int .i64 x.w).wf = true
structure Ci.ok (c : Ci) : Prop where
 n : ∀ x ∈ c.n,x.ok
 m : ∀ x ∈ c.m,x.ok
 o : ∀ i ∈ c.o,(Lit.int .i64 i).wf = true
theorem nd_h (h : hasT Tryd.prog (n + 3) 53 v) : ∃ x : Nd,v = x.v∧x.ok:=by
 obtain ⟨ps,rfl,hp⟩:=hasT_struct Tryd.underlying53 h
 obtain ⟨a,_,rfl,ha,hp⟩:=hasAll_cons hp
 obtain ⟨b,_,rfl,hb,hp⟩:=hasAll_cons hp
 obtain ⟨c,_,rfl,hc,hp⟩:=hasAll_cons hp
 obtain ⟨d,_,rfl,hd,hp⟩:=hasAll_cons hp
 obtain rfl:=hasAll_nil hp
 obtain ⟨k,rfl,hk⟩:=hasT_int Tryd.underlying24 ha
 obtain ⟨l,rfl,hl⟩:=ints_h hb
 obtain ⟨m,rfl,hm⟩:=hasT_int Tryd.underlying3 hc
 obtain ⟨t,rfl,ht⟩:=hasT_int Tryd.underlying3 hd
 exact ⟨⟨k,l,m,t⟩,rfl,hk,hl,hm,ht⟩
theorem md_h (h : hasT Tryd.prog (n + 3) 93 v) : ∃ x : Md,v = x.v∧x.ok:=by
 obtain ⟨ps,rfl,hp⟩:=hasT_struct Tryd.underlying93 h
 obtain ⟨a,_,rfl,ha,hp⟩:=hasAll_cons hp
 obtain ⟨b,_,rfl,hb,hp⟩:=hasAll_cons hp
 obtain ⟨c,_,rfl,hc,hp⟩:=hasAll_cons hp
 obtain rfl:=hasAll_nil hp
 obtain ⟨l,rfl,hl⟩:=ints_h ha
 obtain ⟨l2,rfl,hl2⟩:=ints_h hb
 obtain ⟨t,rfl,ht⟩:=hasT_int Tryd.underlying3 hc
 exact ⟨⟨l,l2,t⟩,rfl,hl,hl2,ht⟩
theorem ci_h (h : hasT Tryd.prog (n + 5) 45 v) : ∃ c : Ci,v = c.v∧c.ok:=by
 obtain ⟨ps,rfl,hp⟩:=hasT_struct Tryd.underlying45 h
 obtain ⟨a,_,rfl,ha,hp⟩:=hasAll_cons hp
 obtain ⟨b,_,rfl,hb,hp⟩:=hasAll_cons hp
 obtain ⟨c,_,rfl,hc,hp⟩:=hasAll_cons hp
 obtain ⟨d,_,rfl,hd,hp⟩:=hasAll_cons hp
 obtain rfl:=hasAll_nil hp
 obtain ⟨xs,rfl,-,hx⟩:=hasT_slice Tryd.underlying40 ha
 obtain ⟨ys,rfl,-,hy⟩:=hasT_slice Tryd.underlying41 hb
 obtain ⟨zs,rfl,-,hz⟩:=hasT_slice Tryd.underlying42 hc
 obtain ⟨os,rfl,ho⟩:=ints_h hd
 obtain ⟨ns,rfl,hn⟩:=list_of (f:=Nd.v) (Q:=Nd.ok) fun x hx'=>nd_h (hx x hx')
 obtain ⟨ms,rfl,hm⟩:=list_of (f:=Md.v) (Q:=Md.ok) fun x hx'=>md_h (hz x hx')
 obtain ⟨ss,rfl⟩:=strs fun x hx'=>hasT_string Tryd.underlying9 (hy x hx')
 exact ⟨⟨ns,ss,ms,os⟩,rfl,hn,hm,ho⟩
theorem ln_h (h : hasT Tryd.prog (n + 3) 58 v) : ∃ a b : Int,v = .agg [.int .i64 a,.int .i64 b]:=by
 obtain ⟨ps,rfl,hp⟩:=hasT_struct Tryd.underlying58 h
 obtain ⟨a,_,rfl,ha,hp⟩:=hasAll_cons hp
 obtain ⟨b,_,rfl,hb,hp⟩:=hasAll_cons hp
 obtain rfl:=hasAll_nil hp
 obtain ⟨m,rfl,hm⟩:=hasT_int Tryd.underlying3 ha
 obtain ⟨t,rfl,ht⟩:=hasT_int Tryd.underlying3 hb
 exact ⟨m,t,rfl⟩
structure Ci.small (c : Ci) : Prop where
 n : c.n.length ≤ 1048576
 i : ∀ x ∈ c.n,x.i.length ≤ 1048576
 s : c.s.length ≤ 1048576
 t : ∀ x ∈ c.s,x.length ≤ 1048576
 m : c.m.length ≤ 1048576
 a : ∀ x ∈ c.m,x.a.length ≤ 1048576
 d : ∀ x ∈ c.m,x.d.length ≤ 1048576
 o : c.o.length ≤ 1048576
theorem len_size {α : Type} {f : α→V} (hf : ∀ a,1 ≤ (f a).size) (l : List α) : l.length ≤ V.sizeL (l.map f):=by
 induction l with
 | nil=>simp
 | cons x l ih=>have:=hf x; simp only [List.map_cons,V.sizeL,List.length_cons]; omega
theorem ci_small {c : Ci} (h : c.v.size ≤ 1048576) : c.small:=by
 simp only [Ci.v,V.size,V.sizeL,size_ints] at h
 have h1:=len_size (f:=Nd.v) (fun a=>by simp [Nd.v,V.size,V.sizeL]) c.n
 have h2:=len_size (f:=V.str) (fun a=>by simp [V.size]) c.s
 have h3:=len_size (f:=Md.v) (fun a=>by simp [Md.v,V.size,V.sizeL]; omega) c.m
 refine ⟨by omega,fun x hx=>?_,by omega,fun x hx=>?_,by omega,fun x hx=>?_,fun x hx=>?_,by omega⟩
 ·have:=V.size_mem (List.mem_map_of_mem (f:=Nd.v) hx)
  simp only [Nd.v,V.size,V.sizeL,size_ints] at this
  omega
 ·have:=V.size_mem (List.mem_map_of_mem (f:=V.str) hx)
  simp only [V.size] at this
  omega
 ·have:=V.size_mem (List.mem_map_of_mem (f:=Md.v) hx)
  simp only [Md.v,V.size,V.sizeL,size_ints] at this
  omega
 ·have:=V.size_mem (List.mem_map_of_mem (f:=Md.v) hx)
  simp only [Md.v,V.size,V.sizeL,size_ints] at this
  omega
end Go.Proofs.YtcmblmkbdenakaaDoor
