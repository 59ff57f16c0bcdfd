/- Each ideal operation but the calls stands for the model's: fifth part: slices. No program stands in it. Conditions: none. Each ideal operation but the calls stands for the model's: sixth part: make, slice expressions, append, copy. No program stands in it. Conditions: none. -/
import Derived.Test.YtcdfifbabhfknaaDoorBase3
import Derived.IntWalk
namespace Go.Proofs.YtcdfifbabhfknaaDoor
open Go
section
variable {P : Program} {gl : Fr} {bs n : Nat} {fr : Fr} {h : Hp} {G : GMap} {M : MMap} {a : Act} {w : World}
theorem cell_self {v : V} {r : Value} (hv : RelV G M v r) (ho : r.oneCell' = true) : v.cells = [v]:=by
 cases hv <;> first | rfl | simp [Value.oneCell'] at ho
def FlatRel (G : GMap) (M : MMap) (sz : Nat) (ys : List V) (cells : List Value) : Prop:=
 cells.length = ys.length * sz∧∀ i,i < ys.length→(ys.getD i .undef).cells.length = sz∧
  ∀ j,j < sz→RelV G M ((ys.getD i .undef).cells.getD j .undef) (cells.getD (i * sz + j) undef)∧(cells.getD (i * sz + j) undef).oneCell' = true
theorem FlatRel.nil (sz : Nat) : FlatRel G M sz [] []:=⟨by simp,fun i hi=>by cases hi⟩
theorem FlatRel.append {sz : Nat} {xs ys : List V} {c d : List Value} (h1 : FlatRel G M sz xs c) (h2 : FlatRel G M sz ys d) : FlatRel G M sz (xs ++ ys) (c ++ d):=by
 refine ⟨by simp [h1.1,h2.1,Nat.add_mul],fun i hi=>?_⟩
 simp only [List.getD_eq_getElem?_getD,List.getElem?_append]
 by_cases hx : i < xs.length
 ·rw [if_pos hx]
  have:=h1.2 i hx
  simp only [List.getD_eq_getElem?_getD] at this
  refine ⟨this.1,fun j hj=>?_⟩
  have heb:=elem_bound (sz:=sz) hx (Nat.le_refl xs.length)
  rw [if_pos (by rw [h1.1]; omega)]
  exact this.2 j hj
 ·rw [if_neg hx]
  have:=h2.2 (i - xs.length) (by simp at hi; omega)
  simp only [List.getD_eq_getElem?_getD] at this
  refine ⟨this.1,fun j hj=>?_⟩
  have e : i * sz = xs.length * sz + (i - xs.length) * sz:=by rw [← Nat.add_mul]; congr 1; omega
  rw [if_neg (by rw [h1.1]; omega),h1.1]
  have e2 : i * sz + j - xs.length * sz = (i - xs.length) * sz + j:=by omega
  rw [e2]
  exact this.2 j hj
theorem FlatRel.one {sz : Nat} {ys : List V} {c : List Value} (h : FlatRel G M sz ys c) (hsz : sz ≠ 0) : ∀ u ∈ c,u.oneCell' = true:=by
 intro u hu
 obtain ⟨k,hk,rfl⟩:=List.mem_iff_getElem.1 hu
 have hk' : k < ys.length * sz:=by rw [← h.1]; exact hk
 have hlt : k / sz < ys.length:=Nat.div_lt_of_lt_mul (by rw [Nat.mul_comm]; exact hk')
 have:=((h.2 (k / sz) hlt).2 (k % sz) (Nat.mod_lt _ (by omega))).2
 rw [Nat.mul_comm,Nat.div_add_mod] at this
 simpa [List.getD_eq_getElem?_getD,hk] using this
theorem FlatRel.mono {G' : GMap} {M' : MMap} {sz : Nat} {ys : List V} {c : List Value} (h : FlatRel G M sz ys c) (hG : G.le G') (hM : M.le M') : FlatRel G' M' sz ys c:=
 ⟨h.1,fun i hi=>⟨(h.2 i hi).1,fun j hj=>⟨((h.2 i hi).2 j hj).1.mono hG hM,((h.2 i hi).2 j hj).2⟩⟩⟩
theorem Sim.allocFlat (hs : Sim G M h w) (b : Nat) (ty : TypeId) (sz room : Nat) {es : List V} {c rest : List Value} (hf : FlatRel G M sz es c) (h1 : room * sz ≤ c.length + rest.length) (h2 : es.length ≤ room) :
  Sim G (upd M b ⟨freshGen M b,sz,room,0,some w.heap.size⟩) ((b,.row (freshGen M b) sz es) :: h) (w.alloc (.cells (c ++ rest).toArray ty))∧
  Ext G M w G (upd M b ⟨freshGen M b,sz,room,0,some w.heap.size⟩) (w.alloc (.cells (c ++ rest).toArray ty)):=by
 refine hs.alloc b _ ty sz room es (by simpa using h1) h2 (fun i hi=>(hf.2 i hi).1) (fun i j hi hj=>?_)
 have:=(hf.2 i hi).2 j hj
 have heb:=elem_bound (sz:=sz) hi (Nat.le_refl es.length)
 have hlt : i * sz + j < c.length:=by rw [hf.1]; omega
 rw [getD_toArray]
 have e : (c ++ rest).getD (i * sz + j) undef = c.getD (i * sz + j) undef:=by
  simp [List.getD_eq_getElem?_getD,List.getElem?_append,hlt]
 rw [e]; exact this
theorem relV_newref {b len sz room : Nat} {cap : Option Nat} {rcap : Nat} (hl : len ≤ rcap) (hr : rcap ≤ min room 9223372036854775807) (hc : ∀ c,cap = some c→rcap = c) (k : Nat) :
  RelV G (upd M b ⟨freshGen M b,sz,room,0,some k⟩) (.ref b (freshGen M b) 0 len cap) (.slice (some ⟨k,0,none⟩) len rcap):=
 .ref _ _ _ _ _ _ _ _ (upd_same _ _ _) (Nat.le_refl _) hl hc fun _=>.inl ⟨by simp,by simp only [Nat.zero_add]; exact hr⟩
theorem foldl_set_size (off : Nat) : ∀ (q : List (Value × Nat)) (arr : Array Value),(q.foldl (fun cs (x : Value × Nat)=>cs.setIfInBounds (off + x.2) x.1) arr).size = arr.size
 | [],_=>rfl
 | a :: b,arr=>by simp only [List.foldl_cons]; rw [foldl_set_size off b]; simp
theorem q_buildSl (hr : R bs n gl G M fr h a w) {o : Oper} {t e : TypeId} {len : Nat} {ps : Array (Nat × Operand)} {l : List (Nat × Nat × IOpd)} {z : Value} {ty : Bool × Nat × Nat} {K : List V→Prop} {vs : List (Nat × Nat × V)} (ho : o.op = .buildSlice t len ps)
  (h1 : P.underlying t = some (.slice e)) (h2 : tyOf P e = some ty) (hz : zeroOf P e = some z) (hn : len * ty.2.1 ≤ 4096) (hn0 : ty.2.1 ≠ 0)
  (hl : coParts (fun i=>some (i * ty.2.1,ty.2.1)) ps.toList = some l) {id : Nat}
  (hvs : evps gl fr l = some vs) (hi : fillW ((List.range (len * ty.2.1)).map fun i=>(vOfZ z).cells.getD (i % ty.2.1) .undef) K vs) :
  ∃ cs,K cs∧∀ Q,o.wp P a w (QPost G M w o.dst a id (.ref id (freshGen M id) 0 len (some len)) (some (.row (freshGen M id) ty.2.1 (groups ty.2.1 len cs)))) Q:=by
 obtain ⟨-,hsz,hti⟩:=tyOf_spec (P:=P) (t:=e) (ag:=ty.1) (n:=ty.2.1) (by_:=ty.2.2) (by rw [h2])
 obtain ⟨z1,z2,i0,z3,z4⟩:=zeroOf_spec hz
 obtain ⟨i1,-,-,hisz,hinfo⟩:=hti w
 rw [z3] at hinfo; cases hinfo
 ·skip
  have hzc : RelCells G M ((List.range (len * ty.2.1)).map fun i=>(vOfZ z).cells.getD (i % ty.2.1) .undef) ((Array.range (len * ty.2.1)).map fun i=>(if len * ty.2.1 = 0 then #[] else z.cells)[i % (if len * ty.2.1 = 0 then #[] else z.cells).size]!):=by
   refine ⟨by simp,fun i hi=>?_⟩
   have hi' : i < len * ty.2.1:=by simpa using hi
   have hne : ¬ len * ty.2.1 = 0:=by omega
   have hmod : i % ty.2.1 < ty.2.1:=Nat.mod_lt _ (by omega)
   have hz0:=relCells_zero G M z2
   have:=hz0.2 (i % ty.2.1) (by rw [← hz0.1,z4,hisz]; exact hmod)
   have e1 : ((List.range (len * ty.2.1)).map fun i=>(vOfZ z).cells.getD (i % ty.2.1) .undef).getD i .undef = (vOfZ z).cells.getD (i % ty.2.1) .undef:=by
    simp [List.getD_eq_getElem?_getD,hi']
   have hlt : i % ty.2.1 < z.cells.size:=by rw [z4,hisz]; exact hmod
   have e2 : ((Array.range (len * ty.2.1)).map fun i=>(if len * ty.2.1 = 0 then #[] else z.cells)[i % (if len * ty.2.1 = 0 then #[] else z.cells).size]!).getD i undef = z.cells.getD (i % ty.2.1) undef:=by
    simp only [if_neg hne,z4,hisz]
    simp [Array.getD_eq_getD_getElem?,hi',hlt,getElem!_pos]
   rw [e1,e2]; exact this
  obtain ⟨cs',arr',e1,e2,e3⟩:=fill_rel (coParts_rel hr hl hvs) hzc hi
  have hlen : cs'.length = len * ty.2.1:=by
   have key : ∀ (vs : List (Nat × Nat × V)) (us : List (Nat × Value)) (arr arr' : Array Value),Instr.fill (fun i=>some (i * ty.2.1,ty.2.1)) arr us = some arr'→arr'.size = arr.size:=by
    intro _ us
    induction us with
    | nil=>intro arr arr' hh; simp [Instr.fill] at hh; rw [hh]
    | cons p r ih=>
     intro arr arr' hh
     simp only [Instr.fill] at hh
     split at hh
     ·cases hh
     ·rw [ih _ _ hh,← Array.foldl_toList]
      exact foldl_set_size _ _ _
   have:=key vs _ _ _ e1
   rw [← e2.1,this]; simp
  obtain ⟨g1,g2⟩:=groups_spec ty.2.1 hn0 len cs' hlen (fun i hi=>cell_self (e2.2 i hi).1 (e2.2 i hi).2)
  have hflat : FlatRel G M ty.2.1 (groups ty.2.1 len cs') arr'.toList:=by
   refine ⟨by rw [g1]; simp [e2.1,hlen],fun i hi=>?_⟩
   rw [g1] at hi
   refine ⟨(g2 i hi).1,fun j hj=>?_⟩
   rw [(g2 i hi).2 j hj]
   have heb:=elem_bound (sz:=ty.2.1) hi (Nat.le_refl len)
   have:=e2.2 (i * ty.2.1 + j) (by omega)
   simpa [List.getD_eq_getElem?_getD,Array.getD_eq_getD_getElem?] using this
  have al : ∀ h,Sim G M h w→Sim G (upd M id ⟨freshGen M id,ty.2.1,len,0,some w.heap.size⟩) ((id,.row (freshGen M id) ty.2.1 (groups ty.2.1 len cs')) :: h) (w.alloc (.cells arr' e))∧Ext G M w G (upd M id ⟨freshGen M id,ty.2.1,len,0,some w.heap.size⟩) (w.alloc (.cells arr' e)):=by
   intro h hs
   have:=hs.allocFlat id e ty.2.1 len (rest:=[]) hflat (by simp [e2.1,hlen]) (by rw [g1]; exact Nat.le_refl _)
   simpa only [List.append_nil,Array.toArray_toList] using this
  have hlen2 : len ≤ len * ty.2.1:=Nat.le_mul_of_pos_right _ (by omega)
  refine ⟨cs',e3,fun Q=>fin_q (rv:=.slice (some ⟨w.heap.size,0,none⟩) len len) ?_ (relV_newref (Nat.le_refl _) (by omega) (by simp) _) (fun h hs=>(al h hs).1) (al h hr.sim).2 (fun i hi=>freshGen_upd _ _ _ _ (by rcases hi with hi | hi <;> first | exact hi | cases hi))⟩
  have hbig : ¬ len * ty.2.1 > 2 ^ 24:=by omega
  simp only [execOp,ho,Instr.buildSlice,Sem.run_bind,Result.andThen_ok,underlying,run_program,h1,hsz,Sem.run_pure,Sem.run_ite,if_neg hbig]
  rw [coParts_map]
  by_cases h0 : len * ty.2.1 = 0
  ·simp only [if_pos h0] at e1 ⊢
   simp only [e1]
   simp [newRow]
  ·simp only [if_neg h0,z1,Result.andThen_ok] at e1 ⊢
   simp only [e1]
   simp [newRow]
theorem sound_buildSl (hr : R bs n gl G M fr h a w) {o : Oper} {t e : TypeId} {len : Nat} {ps : Array (Nat × Operand)} {l : List (Nat × Nat × IOpd)} {z : Value} {ty : Bool × Nat × Nat} {Q : Exit→Act→World→Prop} {K : V→Hp→Prop} (ho : o.op = .buildSlice t len ps)
  (h1 : P.underlying t = some (.slice e)) (h2 : tyOf P e = some ty) (hz : zeroOf P e = some z) (hn : len * ty.2.1 ≤ 4096) (hn0 : ty.2.1 ≠ 0)
  (hl : coParts (fun i=>some (i * ty.2.1,ty.2.1)) ps.toList = some l) {id : Nat}
  (hi : istep P gl id fr h K (.buildSl ty.2.1 len ((List.range (len * ty.2.1)).map fun i=>(vOfZ z).cells.getD (i % ty.2.1) .undef) l)) : o.wp P a w (OpPost h id K G M w o a) Q:=by
 simp only [istep] at hi
 split at hi
 ·rename_i vs hvs
  obtain ⟨cs,hk,hq⟩:=q_buildSl hr ho h1 h2 hz hn hn0 hl (id:=id) hvs hi
  exact q_up hr (hq Q) (hk _)
 ·exact hi.elim
theorem wrap_i64 {x : Int} (h0 : -9223372036854775808 ≤ x) (h1 : x ≤ 9223372036854775807) : IntKind.i64.wrap x = x:=IntWalk.i64_in x ⟨h0,h1⟩
end
end Go.Proofs.YtcdfifbabhfknaaDoor
namespace Go.Proofs.YtcdfifbabhfknaaDoor
open Go
section
variable {P : Program} {gl : Fr} {bs n : Nat} {fr : Fr} {h : Hp} {G : GMap} {M : MMap} {a : Act} {w : World}
theorem q_mksl (hr : R bs n gl G M fr h a w) {o : Oper} {t e : TypeId} {x y : Operand} {z : Value} {ty : Bool × Nat × Nat} {k k' : IntKind} {p q : Int} (ho : o.op = .makeSlice t x y)
  (h1 : P.underlying t = some (.slice e)) (h2 : tyOf P e = some ty) (hz : zeroOf P e = some z) (hn0 : ty.2.1 ≠ 0) {id : Nat}
  (hx : ev gl fr (co x) = some (.int k p)) (hy : ev gl fr (co y) = some (.int k' q)) (p0 : 0 ≤ p) (pq : p ≤ q) (qb : q ≤ 549755813888) (hby : ty.2.2 ≤ 256) (hzl : (vOfZ z).cells.length = ty.2.1) :
  ∀ Q,o.wp P a w (QPost G M w o.dst a id (.ref id (freshGen M id) 0 p.toNat (some q.toNat)) (some (.row (freshGen M id) ty.2.1 (List.replicate p.toNat (match ty.2.1 with | 1=>(vOfZ z).cells.getD 0 .undef | _=>.agg (vOfZ z).cells))))) Q:=by
 obtain ⟨-,hsz,hti⟩:=tyOf_spec (P:=P) (t:=e) (ag:=ty.1) (n:=ty.2.1) (by_:=ty.2.2) (by rw [h2])
 obtain ⟨z1,z2,i0,z3,z4⟩:=zeroOf_spec hz
 obtain ⟨i1,hi1,hib,hisz,hinfo⟩:=hti w
 rw [z3] at hinfo; cases hinfo
 ·have ex:=relV_int_inv (ev_co hr hx)
  have ey:=relV_int_inv (ev_co hr hy)
  have wp' : IntKind.i64.wrap p = p:=wrap_i64 (by omega) (by omega)
  have wq : IntKind.i64.wrap q = q:=wrap_i64 (by omega) (by omega)
  have hbq : (ty.2.2 : Int) * q ≤ 2 ^ 48:=by
   have : (ty.2.2 : Int) * q ≤ 256 * 549755813888:=by
    have h1 : (ty.2.2 : Int) * q ≤ 256 * q:=Int.mul_le_mul_of_nonneg_right (by omega) (by omega)
    omega
   omega
  have hzcl : (vOfZ z).cells.length = ty.2.1:=hzl
  have hz0:=relCells_zero G M z2
  have hzsz : z.cells.size = ty.2.1:=by rw [z4,hisz]
  let el : V:=match ty.2.1 with | 1=>(vOfZ z).cells.getD 0 .undef | _=>.agg (vOfZ z).cells
  have hel : el.cells.length = ty.2.1∧∀ j,j < ty.2.1→el.cells.getD j .undef = (vOfZ z).cells.getD j .undef:=by
   show (match ty.2.1 with | 1=>(vOfZ z).cells.getD 0 V.undef | _=>V.agg (vOfZ z).cells).cells.length = _∧_
   simp only [el]
   split
   ·rename_i he
    have h0:=hz0.2 0 (by rw [hzl,he]; omega)
    rw [cell_self h0.1 h0.2]
    refine ⟨he.symm,fun j hj=>?_⟩
    obtain rfl : j = 0:=by omega
    rfl
   ·exact ⟨hzl,fun j hj=>rfl⟩
  have hflat : FlatRel G M ty.2.1 (List.replicate p.toNat el) ((List.range (p.toNat * ty.2.1)).map fun i=>z.cells.getD (i % ty.2.1) undef):=by
   refine ⟨by simp,fun i hi=>?_⟩
   have hi' : i < p.toNat:=by simpa using hi
   have e1 : (List.replicate p.toNat el).getD i .undef = el:=by simp [List.getD_eq_getElem?_getD,hi']
   rw [e1]
   refine ⟨hel.1,fun j hj=>?_⟩
   rw [hel.2 j hj]
   have heb:=elem_bound (sz:=ty.2.1) hi' (Nat.le_refl _)
   have e2 : ((List.range (p.toNat * ty.2.1)).map fun i=>z.cells.getD (i % ty.2.1) undef).getD (i * ty.2.1 + j) undef = z.cells.getD j undef:=by
    have hlt : i * ty.2.1 + j < p.toNat * ty.2.1:=by omega
    have hmod : (i * ty.2.1 + j) % ty.2.1 = j:=by rw [Nat.mul_comm,Nat.mul_add_mod]; exact Nat.mod_eq_of_lt hj
    simp only [List.getD_eq_getElem?_getD,List.getElem?_map,List.getElem?_range hlt,Option.map_some,Option.getD_some,hmod]
   rw [e2]
   exact hz0.2 j (by omega)
  have hpq : p.toNat * ty.2.1 ≤ q.toNat * ty.2.1:=Nat.mul_le_mul_right _ (by omega)
  have hfull : ((Array.range (q.toNat * ty.2.1)).map fun i=>(if q.toNat * ty.2.1 = 0 then #[] else z.cells)[i % (if q.toNat * ty.2.1 = 0 then #[] else z.cells).size]!) =
    (((List.range (p.toNat * ty.2.1)).map fun i=>z.cells.getD (i % ty.2.1) undef) ++ ((List.range (q.toNat * ty.2.1 - p.toNat * ty.2.1)).map fun i=>z.cells.getD ((p.toNat * ty.2.1 + i) % ty.2.1) undef)).toArray:=by
   have hr1 : ((List.range (p.toNat * ty.2.1)).map fun i=>z.cells.getD (i % ty.2.1) undef) ++ ((List.range (q.toNat * ty.2.1 - p.toNat * ty.2.1)).map fun i=>z.cells.getD ((p.toNat * ty.2.1 + i) % ty.2.1) undef) =
     (List.range (q.toNat * ty.2.1)).map fun i=>z.cells.getD (i % ty.2.1) undef:=by
    have hrange : List.range (q.toNat * ty.2.1) = List.range (p.toNat * ty.2.1) ++ (List.range (q.toNat * ty.2.1 - p.toNat * ty.2.1)).map (p.toNat * ty.2.1 + ·):=by
     rw [← List.range_add]; congr 1; omega
    rw [hrange,List.map_append,List.map_map]
    rfl
   rw [hr1]
   apply Array.ext
   ·simp
   ·intro i hi1 hi2
    have hi' : i < q.toNat * ty.2.1:=by simpa using hi1
    have hne : ¬ q.toNat * ty.2.1 = 0:=by omega
    have hmod : i % ty.2.1 < z.cells.size:=by rw [hzsz]; exact Nat.mod_lt _ (by omega)
    have hg : z.cells[i % ty.2.1]! = z.cells.getD (i % ty.2.1) undef:=by
     rw [getElem!_pos z.cells _ hmod]
     simp [Array.getD_eq_getD_getElem?,hmod]
    simp only [if_neg hne,hzsz,Array.getElem_map,Array.getElem_range,List.getElem_toArray,List.getElem_map,List.getElem_range,hg]
  have al:=fun h (hs : Sim G M h w)=>hs.allocFlat id e ty.2.1 q.toNat (rest:=(List.range (q.toNat * ty.2.1 - p.toNat * ty.2.1)).map fun i=>z.cells.getD ((p.toNat * ty.2.1 + i) % ty.2.1) undef) hflat (by simp; omega) (by simp; omega)
  intro Q
  refine fin_q (rv:=.slice (some ⟨w.heap.size,0,none⟩) p.toNat q.toNat) ?_ (relV_newref (by omega) (by omega) (by simp) _) (fun h hs=>(al h hs).1) (al h hr.sim).2 (fun i hi=>freshGen_upd _ _ _ _ (by rcases hi with hi | hi <;> first | exact hi | cases hi))
  rw [← hfull]
  simp only [execOp,ho,Instr.makeSlice,Sem.run_bind,Result.andThen_ok,underlying,run_program,h1,Sem.run_pure,ex,ey,asInt,asIntOf,hi1,wp',wq,hib]
  have hc1 : ¬ ((decide (q < 0) || decide ((ty.2.2 : Int) * q > 2 ^ 48) || decide (p < 0) || decide (p > q)) = true):=by
   simp; omega
  rw [if_neg hc1]
  simp only [Result.andThen_ok,Sem.run_bind,run_askRoom,hsz]
  by_cases h0 : q.toNat * ty.2.1 = 0
  ·simp only [if_pos h0]
   simp [newRow]
  ·simp only [if_neg h0,z1,Result.andThen_ok,Sem.run_bind,Sem.run_pure]
   simp [newRow]
theorem sound_mksl (hr : R bs n gl G M fr h a w) {o : Oper} {t e : TypeId} {x y : Operand} {z : Value} {ty : Bool × Nat × Nat} {Q : Exit→Act→World→Prop} {K : V→Hp→Prop} (ho : o.op = .makeSlice t x y)
  (h1 : P.underlying t = some (.slice e)) (h2 : tyOf P e = some ty) (hz : zeroOf P e = some z) (hn0 : ty.2.1 ≠ 0) {id : Nat}
  (hi : istep P gl id fr h K (.mksl (vOfZ z).cells ty.2.1 ty.2.2 (co x) (co y))) : o.wp P a w (OpPost h id K G M w o a) Q:=by
 simp only [istep] at hi
 split at hi
 ·rename_i k p k' q hx hy
  obtain ⟨p0,pq,qb,hby,hzl,-,hi⟩:=hi
  exact q_up hr (q_mksl hr ho h1 h2 hz hn0 hx hy p0 pq qb hby hzl Q) (hi _)
 ·exact hi.elim
theorem boundW_co (hr : R bs n gl G M fr h a w) {d : Nat} {K : Nat→Prop} {x : Option Operand} (hb : boundW gl fr d K (x.map co)) : ∃ l,K l∧((x = none∧l = d)∨∃ y k,x = some y∧a.eval y = .int k (l : Int)):=by
 cases x with
 | none=>exact ⟨d,hb,.inl ⟨rfl,rfl⟩⟩
 | some y=>
  simp only [Option.map_some,boundW] at hb
  split at hb
  ·rename_i k m hy
   have ey:=relV_int_inv (ev_co hr hy)
   exact ⟨m.toNat,hb.2,.inr ⟨y,k,rfl,by rw [ey]; congr 1; omega⟩⟩
  ·exact hb.elim
theorem boundM_co (hr : R bs n gl G M fr h a w) {K : Option Nat→Prop} {x : Option Operand} (hb : boundM gl fr K (x.map co)) : ∃ m,K m∧((x = none∧m = none)∨∃ y k l,x = some y∧m = some l∧a.eval y = .int k (l : Int)):=by
 cases x with
 | none=>exact ⟨none,hb,.inl ⟨rfl,rfl⟩⟩
 | some y=>
  simp only [Option.map_some,boundM] at hb
  split at hb
  ·rename_i k m hy
   have ey:=relV_int_inv (ev_co hr hy)
   exact ⟨some m.toNat,hb.2,.inr ⟨y,k,m.toNat,rfl,rfl,by rw [ey]; congr 1; omega⟩⟩
  ·exact hb.elim
theorem run_sliceBound1 (k : IntKind) (l y : Nat) (code : BoundsCode) (hl : l ≤ y) : (Instr.sliceBound (.int k (l : Int)) y code).run P w = .ok l w:=by
 have : (0 : Int) ≤ l∧(l : Int) ≤ y:=by omega
 simp [Instr.sliceBound,asIntOf,hl]
theorem run_bounds {lo hi mx : Option Operand} {l u : Nat} {m : Option Nat} {isS : Bool} {len cap : Nat} (hlo : (lo = none∧l = 0)∨∃ y k,lo = some y∧a.eval y = .int k (l : Int))
  (hhi : (hi = none∧u = len)∨∃ y k,hi = some y∧a.eval y = .int k (u : Int)) (hmx : (mx = none∧m = none)∨∃ y k l,mx = some y∧m = some l∧a.eval y = .int k (l : Int))
  (hm : mx.isSome = true→hi.isSome = true) (h1 : l ≤ u) (h2 : u ≤ m.getD cap) (h3 : m.getD cap ≤ cap) :
  (Instr.sliceBounds isS len cap (lo.map a.eval) (hi.map a.eval) (mx.map a.eval)).run P w = .ok (l,u,m.getD cap) w:=by
 unfold Instr.sliceBounds
 rcases hmx with ⟨rfl,rfl⟩ | ⟨ym,km,lm,rfl,rfl,em⟩
 ·simp only [Option.getD_none] at h2 h3 ⊢
  rcases hhi with ⟨rfl,rfl⟩ | ⟨yh,kh,rfl,eh⟩
  ·rcases hlo with ⟨rfl,rfl⟩ | ⟨yl,kl,rfl,el⟩
   ·simp
   ·simp [el,run_sliceBound1 kl l u _ h1]
  ·rcases hlo with ⟨rfl,rfl⟩ | ⟨yl,kl,rfl,el⟩
   ·simp [eh,run_sliceBound1 kh u cap _ h2]
   ·simp [eh,el,run_sliceBound1 kh u cap _ h2,run_sliceBound1 kl l u _ h1]
 ·simp only [Option.getD_some] at h2 h3 ⊢
  rcases hhi with ⟨rfl,rfl⟩ | ⟨yh,kh,rfl,eh⟩
  ·simp at hm
  ·rcases hlo with ⟨rfl,rfl⟩ | ⟨yl,kl,rfl,el⟩
   ·simp [em,eh,run_sliceBound1 km lm cap _ h3,run_sliceBound1 kh u lm _ h2]
   ·simp [em,eh,el,run_sliceBound1 km lm cap _ h3,run_sliceBound1 kh u lm _ h2,run_sliceBound1 kl l u _ h1]
theorem maxOk_le {u len rcap : Nat} {m : Option Nat} (h : maxOk u len m) (hul : u ≤ len) (hl : len ≤ rcap) : u ≤ m.getD rcap∧m.getD rcap ≤ rcap:=by
 cases m with
 | none=>simp; omega
 | some x=>obtain ⟨h1,h2⟩:=h; simp; omega
theorem maxCap_spec {l rcap : Nat} {cap m : Option Nat} (hc : ∀ c,cap = some c→rcap = c) : ∀ c,maxCap l cap m = some c→m.getD rcap - l = c:=by
 intro c hcc
 cases m with
 | none=>
  cases cap with
  | none=>simp [maxCap] at hcc
  | some x=>simp [maxCap] at hcc; have:=hc x rfl; simp; omega
 | some x=>simp [maxCap] at hcc; simpa using hcc
theorem sound_slice (hr : R bs n gl G M fr h a w) {o : Oper} {t e : TypeId} {x : Operand} {lo hi mx : Option Operand} {ty : Bool × Nat × Nat} {Q : Exit→Act→World→Prop} {K : V→Hp→Prop} (ho : o.op = .slice t x lo hi mx)
  (h1 : P.underlying t = some (.slice e)) (h2 : tyOf P e = some ty) (hm : mx.isSome = true→hi.isSome = true) {id : Nat}
  (hi' : istep P gl id fr h K (.slice ty.2.1 (co x) (lo.map co) (hi.map co) (mx.map co))) : o.wp P a w (PurePost K G M w o a h) Q:=by
 obtain ⟨-,hsz,-⟩:=tyOf_spec (P:=P) (t:=e) (ag:=ty.1) (n:=ty.2.1) (by_:=ty.2.2) (by rw [h2])
 have hrun : ∀ (ra : Option Addr) (len cap l u m : Nat),a.eval x = .slice ra len cap→(Instr.sliceBounds true len cap (lo.map a.eval) (hi.map a.eval) (mx.map a.eval)).run P w = .ok (l,u,m) w→
   (execOp a.eval o).run P w = .ok (.value (.slice (if m = l then ra else ra.map (·.add (l * ty.2.1))) (u - l) (m - l))) w:=by
  intro ra len cap l u m ex hb
  simp [execOp,ho,Instr.sliceAt,Instr.slice,ex,underlying,h1,hb,hsz]
 simp only [istep] at hi'
 rcases hi' with ⟨e1,e2,e3,e4,hk⟩ | hi'
 ·have rx:=ev_co hr e1
  generalize hev : a.eval x = r at rx
  cases rx with
  | nil=>
   have hz : ∀ b : Option Operand,zeroB gl fr (b.map co)→b = none∨∃ y k,b = some y∧a.eval y = .int k ((0 : Nat) : Int):=by
    intro b hb
    cases b with
    | none=>exact .inl rfl
    | some y=>
     obtain ⟨k,hk0⟩:=hb
     exact .inr ⟨y,k,rfl,relV_int_inv (ev_co hr hk0)⟩
   have hlo : (lo = none∧(0 : Nat) = 0)∨∃ y k,lo = some y∧a.eval y = .int k ((0 : Nat) : Int):=(hz lo e2).imp (fun q=>⟨q,rfl⟩) fun q=>q
   have hhi : (hi = none∧(0 : Nat) = 0)∨∃ y k,hi = some y∧a.eval y = .int k ((0 : Nat) : Int):=(hz hi e3).imp (fun q=>⟨q,rfl⟩) fun q=>q
   have hmx : ∃ m : Option Nat,m.getD 0 = 0∧((mx = none∧m = none)∨∃ y k l,mx = some y∧m = some l∧a.eval y = .int k (l : Int)):=by
    rcases hz mx e4 with q | ⟨y,k,q1,q2⟩
    ·exact ⟨none,rfl,.inl ⟨q,rfl⟩⟩
    ·exact ⟨some 0,rfl,.inr ⟨y,k,0,q1,rfl,q2⟩⟩
   obtain ⟨m,hm0,hmx⟩:=hmx
   have hb:=run_bounds (P:=P) (w:=w) (isS:=true) (cap:=0) hlo hhi hmx hm (Nat.le_refl 0) (by omega) (by omega)
   rw [hm0] at hb
   refine fin_pure hr (hrun none 0 0 0 0 0 hev hb) hk ?_
   simpa using RelV.nil
 split at hi'
 ·rename_i xs cap hx
  have rx:=evN_co hr hx
  obtain ⟨l,hi',hlo⟩:=boundW_co hr hi'
  obtain ⟨u,hi',hhi⟩:=boundW_co hr hi'
  obtain ⟨m,hi',hmx⟩:=boundM_co hr hi'
  obtain ⟨hlu,hul,hsel,hmok,hk⟩:=hi'
  generalize hev : a.eval x = r at rx
  cases rx with
  | slnil _ base rcap hc hb=>
   obtain ⟨m1,m2⟩:=maxOk_le (rcap:=rcap) hmok hul (Nat.zero_le _)
   have hlu0 : l = 0∧u = 0:=by simp at hul; omega
   obtain ⟨rfl,rfl⟩:=hlu0
   refine fin_pure hr (hrun _ _ _ _ _ _ hev (run_bounds hlo hhi hmx hm hlu m1 m2)) hk ?_
   simp only [List.drop_nil,List.take_nil]
   refine .slnil _ _ _ (maxCap_spec hc) ?_
   rcases hb with hb | hb
   ·left; omega
   ·right
    split
    ·exact hb
    ·simpa using hb
  | sl _ _ rb ro rcap sz cells hne hG hsz' hb hl hc hh hoo=>
   obtain ⟨m1,m2⟩:=maxOk_le (rcap:=rcap) hmok hul hl
   refine fin_pure hr (hrun _ _ _ _ _ _ hev (run_bounds hlo hhi hmx hm hlu m1 m2)) hk ?_
   have hlen : ((xs.drop l).take (u - l)).length = u - l:=by simp; omega
   by_cases hul' : u = l
   ·subst hul'
    have e0 : (xs.drop u).take (u - u) = []:=by simp
    rw [e0,Nat.sub_self]
    refine .slnil _ _ _ (maxCap_spec hc) (.inr ?_)
    split <;> rfl
   ·have hml : ¬ m.getD rcap = l:=by omega
    rw [if_neg hml]
    have hszl : l = 0∨sz = ty.2.1:=by
     rcases hsel with h3 | h3 | h3
     ·exact .inl h3
     ·exact absurd h3 hul'
     ·right; rw [← h3,hsz' l (by omega)]
    have hadd : (some (⟨rb,ro,none⟩ : Addr)).map (·.add (l * ty.2.1)) = some ⟨rb,ro + l * sz,none⟩:=by
     simp only [Option.map_some,Addr.add_lit]
     rcases hszl with h3 | h3
     ·subst h3; simp
     ·rw [h3]
    rw [hadd]
    have hget : ∀ i,i < u - l→((xs.drop l).take (u - l)).getD i .undef = xs.getD (l + i) .undef:=by
     intro i hi
     simp only [List.getD_eq_getElem?_getD,List.getElem?_take,if_pos hi,List.getElem?_drop]
    have hfin:=RelV.sl (G:=G) (M:=M) ((xs.drop l).take (u - l)) (maxCap l cap m) rb (ro + l * sz) (m.getD rcap - l) sz cells (fun e=>by rw [e] at hlen; simp at hlen; omega) hG (fun i hi=>?_) ?_ (by omega) (maxCap_spec hc) (fun i j hi hj=>?_) (fun i j hi hj=>?_)
    ·rw [hlen] at hfin; exact hfin
    ·rw [hlen] at hi; rw [hget i hi]; exact hsz' _ (by omega)
    ·rw [hlen]
     have : l * sz + (u - l) * sz = u * sz:=by rw [← Nat.add_mul]; congr 1; omega
     have : u * sz ≤ xs.length * sz:=Nat.mul_le_mul_right _ hul
     omega
    ·rw [hlen] at hi; rw [hget i hi]
     have:=hh (l + i) j (by omega) hj
     rw [Nat.add_mul,← Nat.add_assoc] at this; exact this
    ·rw [hlen] at hi
     have:=hoo (l + i) j (by omega) hj
     rw [Nat.add_mul,← Nat.add_assoc] at this; exact this
 ·rename_i b g off len cap hx
  split at hi'
  ·rename_i g' sz' es hb
   obtain ⟨rfl,rfl,hi'⟩:=hi'
   have rx:=evN_co hr hx
   obtain ⟨l,hi',hlo⟩:=boundW_co hr hi'
   obtain ⟨u,hi',hhi⟩:=boundW_co hr hi'
   obtain ⟨m,hi',hmx⟩:=boundM_co hr hi'
   obtain ⟨hlu,hul,hmok,hk⟩:=hi'
   obtain ⟨mb0,q1,q2,q3,q4⟩:=hr.sim.hb b _ hb
   generalize hev : a.eval x = r at rx
   cases rx with
   | ref _ _ _ _ _ ra rcap mb hM hg hl hcc hh=>
    rw [q1] at hM; cases hM
    obtain ⟨m1,m2⟩:=maxOk_le (rcap:=rcap) hmok hul hl
    refine fin_pure hr (hrun _ _ _ _ _ _ hev (run_bounds hlo hhi hmx hm hlu m1 m2)) hk ?_
    refine .ref _ _ _ _ _ _ _ mb0 q1 (by omega) (by omega) (maxCap_spec hcc) fun _=>?_
    have hre:=hh q2.symm
    cases hreal : mb0.real with
    | none=>
     simp only [RefReal,hreal] at hre ⊢
     obtain ⟨rfl,rfl⟩:=hre
     exact ⟨by omega,by omega⟩
    | some rb=>
     simp only [RefReal,hreal] at hre ⊢
     by_cases hml : m.getD rcap = l
     ·exact .inr ⟨by omega,by omega⟩
     ·rcases hre with ⟨rfl,hroom⟩ | ⟨q,q'⟩
      ·left
       rw [if_neg hml]
       simp only [Option.map_some,Addr.add_lit]
       refine ⟨by rw [q3,Nat.add_mul]; simp [Nat.add_assoc],by omega⟩
      ·exact .inr ⟨by omega,by omega⟩
  ·exact hi'.elim
 ·exact hi'.elim
theorem sound_sliceS (hr : R bs n gl G M fr h a w) {o : Oper} {t : TypeId} {x : Operand} {lo hi : Option Operand} {Q : Exit→Act→World→Prop} {K : V→Hp→Prop} (ho : o.op = .slice t x lo hi none)
  (h1 : P.underlying t = some .string) {id : Nat} (hi' : istep P gl id fr h K (.sliceS (co x) (lo.map co) (hi.map co))) : o.wp P a w (PurePost K G M w o a h) Q:=by
 simp only [istep] at hi'
 split at hi'
 ·rename_i s hx
  have ex:=relV_str_inv (ev_co hr hx)
  obtain ⟨l,hi',hlo⟩:=boundW_co hr hi'
  obtain ⟨u,hi',hhi⟩:=boundW_co hr hi'
  obtain ⟨hlu,hul,hk⟩:=hi'
  have hsz : (⟨s.toArray⟩ : ByteArray).size = s.length:=rfl
  have hb:=run_bounds (P:=P) (w:=w) (isS:=false) (len:=s.length) (cap:=s.length) (mx:=none) (m:=none) hlo hhi (.inl ⟨rfl,rfl⟩) (by simp) hlu (by simpa using hul) (by simp)
  have hex : (⟨s.toArray⟩ : ByteArray).extract l u = ⟨((s.drop l).take (u - l)).toArray⟩:=by
   apply ByteArray.ext
   simp [ByteArray.data_extract]
  refine fin_pure hr ?_ hk (.str _)
  simp only [Option.map_none] at hb
  simp [execOp,ho,Instr.sliceAt,Instr.slice,ex,underlying,h1,hsz,hb,hex]
 ·exact hi'.elim
end
end Go.Proofs.YtcdfifbabhfknaaDoor
