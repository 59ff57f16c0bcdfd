/- Netlists: circuits among the arguments; how much they hold. Conditions: none. -/
import Derived.Test.YtcmapbecfpcnfaaDoorNet1
import Derived.Test.YtcmapbecfpcnfaaDoorBase11
import Derived.Test.YtcmapbecfpcnfaaDoorRows
import Derived.Test.YtcmapbecfpcnfaaDoorNet16
namespace Go.Proofs.YtcmapbecfpcnfaaDoor
open Go Go.RowKit Go.ChangeShapes
set_option maxRecDepth 100000
mutual
theorem size_encD {H : Type} : ∀ d : DataW H,(encD d).size ≤ Rows.uptoBulk d
  | .lit (.int k n)=>by simp [encD,V.size,Rows.uptoBulk]
  | .lit (.bool b)=>by simp [encD,V.size,Rows.uptoBulk]
  | .lit (.string s)=>by simp [encD,V.size,Rows.uptoBulk]
  | .lit (.float _ _)=>by simp [encD,V.size]
  | .lit .nil=>by simp [encD,V.size]
  | .nil=>by simp [encD,V.size,V.sizeL,Rows.uptoBulk]
  | .ptr d=>by simp [encD,V.size]
  | .slice es sp=>by
    have:=size_encDs es
    simp only [encD,V.size,Rows.uptoBulk]; omega
  | .agg ps=>by
    have:=size_encDc ps
    simp only [encD,V.size,Rows.uptoBulk]; omega
  | .iface t d=>by simp [encD,V.size]
  | .map es=>by simp [encD,V.size]
  | .held h=>by simp [encD,V.size]
theorem size_encDs {H : Type} : ∀ l : List (DataW H),V.sizeL (encDs l) ≤ Rows.uptoBulkAll l
  | []=>by simp [encDs,V.sizeL]
  | d :: r=>by
    have h1:=size_encD d
    have h2:=size_encDs r
    simp only [encDs,V.sizeL,Rows.uptoBulkAll]; omega
theorem size_encDc {H : Type} : ∀ l : List (DataW H),V.sizeL (encDc l) ≤ Rows.uptoBulkAll l
  | []=>by simp [encDc,V.sizeL]
  | d :: r=>by
    have h1:=size_encD d
    have h2:=size_encDc r
    simp only [encDc,V.sizeL_app,V.size_cells,Rows.uptoBulkAll]; omega
end
theorem size_small {H : Type} {ds gs : List (DataW H)} (h : Rows.uptoSmall H (ds ++ gs) = true) : V.sizeL (ds.map encD) ≤ 1048576:=by
  have h1 : Rows.uptoBulkAll (ds ++ gs) ≤ 1048576:=by simpa [Rows.uptoSmall] using h
  have h2:=size_encDs ds
  rw [encDs_map] at h2
  have h3 : ∀ a b : List (DataW H),Rows.uptoBulkAll (a ++ b) = Rows.uptoBulkAll a + Rows.uptoBulkAll b:=by
    intro a b
    induction a with
    | nil=>simp [Rows.uptoBulkAll]
    | cons x a ih=>simp only [List.cons_append,Rows.uptoBulkAll,ih]; omega
  rw [h3] at h1
  omega
theorem size_ints (l : List Int) : V.sizeL (ints l) = l.length:=by
  induction l with
  | nil=>rfl
  | cons x l ih=>simp only [ints,List.map_cons,V.sizeL,V.size,List.length_cons] at ih ⊢; omega
variable {v : V} {n : Nat}
theorem ints_h (h : hasT Tryd.prog (n + 2) 32 v) : ∃ l : List Int,v = .sl (ints l) none∧∀ i ∈ l,(Lit.int .i64 i).wf = true:=by
  obtain ⟨xs,rfl,-,hx⟩:=hasT_slice Tryd.underlying32 h
  obtain ⟨l,rfl,hl⟩:=list_of (f:=V.int .i64) (Q:=fun i=>(Lit.int .i64 i).wf = true) fun x hx'=>hasT_int Tryd.underlying3 (hx x hx')
  exact ⟨l,rfl,hl⟩
structure Nd.ok (x : Nd) : Prop where
  k : (Lit.int .u8 x.k).wf = true
  i : ∀ i ∈ x.i,(Lit.int .i64 i).wf = true
  a : (Lit.int .i64 x.a).wf = true
  b : (Lit.int .i64 x.b).wf = true
structure Md.ok (x : Md) : Prop where
  a : ∀ i ∈ x.a,(Lit.int .i64 i).wf = true
  d : ∀ i ∈ x.d,(Lit.int .i64 i).wf = true
  w : (Lit.int .i64 x.w).wf = true
structure Ci.ok (c : Ci) : Prop where
  n : ∀ x ∈ c.n,x.ok
  m : ∀ x ∈ c.m,x.ok
  o : ∀ i ∈ c.o,(Lit.int .i64 i).wf = true
theorem nd_h (h : hasT Tryd.prog (n + 3) 39 v) : ∃ x : Nd,v = x.v∧x.ok:=by
  obtain ⟨ps,rfl,hp⟩:=hasT_struct Tryd.underlying39 h
  obtain ⟨a,_,rfl,ha,hp⟩:=hasAll_cons hp
  obtain ⟨b,_,rfl,hb,hp⟩:=hasAll_cons hp
  obtain ⟨c,_,rfl,hc,hp⟩:=hasAll_cons hp
  obtain ⟨d,_,rfl,hd,hp⟩:=hasAll_cons hp
  obtain rfl:=hasAll_nil hp
  obtain ⟨k,rfl,hk⟩:=hasT_int Tryd.underlying37 ha
  obtain ⟨l,rfl,hl⟩:=ints_h hb
  obtain ⟨m,rfl,hm⟩:=hasT_int Tryd.underlying3 hc
  obtain ⟨t,rfl,ht⟩:=hasT_int Tryd.underlying3 hd
  exact ⟨⟨k,l,m,t⟩,rfl,hk,hl,hm,ht⟩
theorem md_h (h : hasT Tryd.prog (n + 3) 41 v) : ∃ x : Md,v = x.v∧x.ok:=by
  obtain ⟨ps,rfl,hp⟩:=hasT_struct Tryd.underlying41 h
  obtain ⟨a,_,rfl,ha,hp⟩:=hasAll_cons hp
  obtain ⟨b,_,rfl,hb,hp⟩:=hasAll_cons hp
  obtain ⟨c,_,rfl,hc,hp⟩:=hasAll_cons hp
  obtain rfl:=hasAll_nil hp
  obtain ⟨l,rfl,hl⟩:=ints_h ha
  obtain ⟨l2,rfl,hl2⟩:=ints_h hb
  obtain ⟨t,rfl,ht⟩:=hasT_int Tryd.underlying3 hc
  exact ⟨⟨l,l2,t⟩,rfl,hl,hl2,ht⟩
theorem ci_h (h : hasT Tryd.prog (n + 5) 34 v) : ∃ c : Ci,v = c.v∧c.ok:=by
  obtain ⟨ps,rfl,hp⟩:=hasT_struct Tryd.underlying34 h
  obtain ⟨a,_,rfl,ha,hp⟩:=hasAll_cons hp
  obtain ⟨b,_,rfl,hb,hp⟩:=hasAll_cons hp
  obtain ⟨c,_,rfl,hc,hp⟩:=hasAll_cons hp
  obtain ⟨d,_,rfl,hd,hp⟩:=hasAll_cons hp
  obtain rfl:=hasAll_nil hp
  obtain ⟨xs,rfl,-,hx⟩:=hasT_slice Tryd.underlying29 ha
  obtain ⟨ys,rfl,-,hy⟩:=hasT_slice Tryd.underlying30 hb
  obtain ⟨zs,rfl,-,hz⟩:=hasT_slice Tryd.underlying31 hc
  obtain ⟨os,rfl,ho⟩:=ints_h hd
  obtain ⟨ns,rfl,hn⟩:=list_of (f:=Nd.v) (Q:=Nd.ok) fun x hx'=>nd_h (hx x hx')
  obtain ⟨ms,rfl,hm⟩:=list_of (f:=Md.v) (Q:=Md.ok) fun x hx'=>md_h (hz x hx')
  obtain ⟨ss,rfl⟩:=strs fun x hx'=>hasT_string Tryd.underlying9 (hy x hx')
  exact ⟨⟨ns,ss,ms,os⟩,rfl,hn,hm,ho⟩
structure Ci.small (c : Ci) : Prop where
  n : c.n.length ≤ 1048576
  i : ∀ x ∈ c.n,x.i.length ≤ 1048576
  s : c.s.length ≤ 1048576
  t : ∀ x ∈ c.s,x.length ≤ 1048576
  m : c.m.length ≤ 1048576
  a : ∀ x ∈ c.m,x.a.length ≤ 1048576
  d : ∀ x ∈ c.m,x.d.length ≤ 1048576
  o : c.o.length ≤ 1048576
theorem len_size {α : Type} {f : α→V} (hf : ∀ a,1 ≤ (f a).size) (l : List α) : l.length ≤ V.sizeL (l.map f):=by
  induction l with
  | nil=>simp
  | cons x l ih=>have:=hf x; simp only [List.map_cons,V.sizeL,List.length_cons]; omega
theorem ci_small {c : Ci} (h : c.v.size ≤ 1048576) : c.small:=by
  simp only [Ci.v,V.size,V.sizeL,size_ints] at h
  have h1:=len_size (f:=Nd.v) (fun a=>by simp [Nd.v,V.size,V.sizeL]) c.n
  have h2:=len_size (f:=V.str) (fun a=>by simp [V.size]) c.s
  have h3:=len_size (f:=Md.v) (fun a=>by simp [Md.v,V.size,V.sizeL]; omega) c.m
  refine ⟨by omega,fun x hx=>?_,by omega,fun x hx=>?_,by omega,fun x hx=>?_,fun x hx=>?_,by omega⟩
  · have:=V.size_mem (List.mem_map_of_mem (f:=Nd.v) hx)
    simp only [Nd.v,V.size,V.sizeL,size_ints] at this
    omega
  · have:=V.size_mem (List.mem_map_of_mem (f:=V.str) hx)
    simp only [V.size] at this
    omega
  · have:=V.size_mem (List.mem_map_of_mem (f:=Md.v) hx)
    simp only [Md.v,V.size,V.sizeL,size_ints] at this
    omega
  · have:=V.size_mem (List.mem_map_of_mem (f:=Md.v) hx)
    simp only [Md.v,V.size,V.sizeL,size_ints] at this
    omega
end Go.Proofs.YtcmapbecfpcnfaaDoor
namespace Go.Proofs.YtcmapbecfpcnfaaDoor
open Go Go.RowKit Go.ChangeShapes
set_option maxRecDepth 100000
variable {v : V} {n : Nat}
theorem u8_h (h : hasT Tryd.prog (n + 1) 5 v) : ∃ a : Nat,v = u8V a∧a < 256:=by
  obtain ⟨i,rfl,hi⟩:=hasT_int Tryd.underlying5 h
  simp [Lit.wf,IntKind.min,IntKind.max,IntKind.bits,IntKind.signed] at hi
  exact ⟨i.toNat,by rw [u8V,Int.toNat_of_nonneg (by omega)],by omega⟩
theorem u8s_h {ps : List V} (h : ∀ x ∈ ps,hasT Tryd.prog (n + 1) 5 x) : ∃ l : List Nat,ps = l.map u8V∧∀ a ∈ l,a < 256:=
  list_of (f:=u8V) (Q:=fun a=>a < 256) fun x hx=>u8_h (h x hx)
theorem gx_h (h : hasT Tryd.prog (n + 3) 74 v) : ∃ g : Gx,v = g.v∧g.ok:=by
  obtain ⟨ps,rfl,hp⟩:=hasT_struct Tryd.underlying74 h
  obtain ⟨a,_,rfl,ha,hp⟩:=hasAll_cons hp
  obtain ⟨b,_,rfl,hb,hp⟩:=hasAll_cons hp
  obtain rfl:=hasAll_nil hp
  obtain ⟨k,rfl,hk⟩:=u8_h ha
  obtain ⟨qs,rfl,hl,hq⟩:=hasT_array Tryd.underlying72 hb
  obtain ⟨l,rfl,hx⟩:=u8s_h hq
  match l,hl,hx with
  | [a,b,d],_,hx=>exact ⟨⟨k,a,b,d⟩,rfl,hk,hx a (by simp),hx b (by simp),hx d (by simp)⟩
theorem cx_h (h : hasT Tryd.prog (n + 5) 27 v) : ∃ x : Cx,v = x.v∧x.ok:=by
  obtain ⟨ps,rfl,hp⟩:=hasT_struct Tryd.underlying27 h
  obtain ⟨a1,_,rfl,h1,hp⟩:=hasAll_cons hp
  obtain ⟨a2,_,rfl,h2,hp⟩:=hasAll_cons hp
  obtain ⟨a3,_,rfl,h3,hp⟩:=hasAll_cons hp
  obtain ⟨a4,_,rfl,h4,hp⟩:=hasAll_cons hp
  obtain ⟨a5,_,rfl,h5,hp⟩:=hasAll_cons hp
  obtain ⟨a6,_,rfl,h6,hp⟩:=hasAll_cons hp
  obtain ⟨a7,_,rfl,h7,hp⟩:=hasAll_cons hp
  obtain ⟨a8,_,rfl,h8,hp⟩:=hasAll_cons hp
  obtain rfl:=hasAll_nil hp
  obtain ⟨i,rfl,hi⟩:=u8_h h1
  obtain ⟨f,rfl,hf⟩:=u8_h h2
  obtain ⟨ds,rfl,hdl,hd⟩:=hasT_array Tryd.underlying22 h3
  obtain ⟨ds,rfl,hd2⟩:=u8s_h hd
  obtain ⟨b,rfl⟩:=hasT_bool Tryd.underlying4 h4
  obtain ⟨m,rfl⟩:=hasT_bool Tryd.underlying4 h5
  obtain ⟨qs,rfl,hql,hq⟩:=hasT_array Tryd.underlying23 h6
  obtain ⟨qs,rfl,hq2⟩:=u8s_h hq
  obtain ⟨gs,rfl,-,hg⟩:=hasT_slice Tryd.underlying24 h7
  obtain ⟨os,rfl,-,ho⟩:=hasT_slice Tryd.underlying25 h8
  obtain ⟨gs,rfl,hg2⟩:=list_of (f:=Gx.v) (Q:=Gx.ok) fun x hx=>gx_h (hg x hx)
  obtain ⟨os,rfl,ho2⟩:=u8s_h ho
  match ds,qs,hdl,hql,hd2,hq2 with
  | [d0,d1],[p0,p1,p2,p3],_,_,hd,hq=>
    exact ⟨⟨i,f,d0,d1,b,m,p0,p1,p2,p3,gs,os⟩,rfl,hi,hf,hd d0 (by simp),hd d1 (by simp),hq p0 (by simp),hq p1 (by simp),hq p2 (by simp),hq p3 (by simp),hg2,ho2⟩
end Go.Proofs.YtcmapbecfpcnfaaDoor
