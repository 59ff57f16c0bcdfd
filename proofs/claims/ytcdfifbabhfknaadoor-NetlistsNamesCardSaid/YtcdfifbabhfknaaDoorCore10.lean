/- Each ideal operation but the calls stands for the model's: fifth part: slices. No program stands in it. Conditions: none. -/
import Derived.Test.YtcdfifbabhfknaaDoorCore9
import Derived.IntWalk
namespace Go.Proofs.YtcdfifbabhfknaaDoor
open Go

section
variable {P : Program} {gl : Fr} {n : Nat} {fr : Fr} {h : Hp} {G : GMap} {M : MMap} {a : Act} {w : World}

theorem cell_self {v : V} {r : Value} (hv : RelV G M v r) (ho : r.oneCell' = true) : v.cells = [v] := by
  cases hv <;> first | rfl | simp [Value.oneCell'] at ho

/-- Elements and the row of cells that holds them. -/
def FlatRel (G : GMap) (M : MMap) (sz : Nat) (ys : List V) (cells : List Value) : Prop :=
  cells.length = ys.length * sz ∧ ∀ i, i < ys.length → (ys.getD i .undef).cells.length = sz ∧
    ∀ j, j < sz → RelV G M ((ys.getD i .undef).cells.getD j .undef) (cells.getD (i * sz + j) undef) ∧ (cells.getD (i * sz + j) undef).oneCell' = true

theorem FlatRel.nil (sz : Nat) : FlatRel G M sz [] [] := ⟨by simp, fun i hi => by cases hi⟩

theorem FlatRel.append {sz : Nat} {xs ys : List V} {c d : List Value} (h1 : FlatRel G M sz xs c) (h2 : FlatRel G M sz ys d) : FlatRel G M sz (xs ++ ys) (c ++ d) := by
  refine ⟨by simp [h1.1, h2.1, Nat.add_mul], fun i hi => ?_⟩
  simp only [List.getD_eq_getElem?_getD, List.getElem?_append]
  by_cases hx : i < xs.length
  · rw [if_pos hx]
    have := h1.2 i hx
    simp only [List.getD_eq_getElem?_getD] at this
    refine ⟨this.1, fun j hj => ?_⟩
    have heb := elem_bound (sz := sz) hx (Nat.le_refl xs.length)
    rw [if_pos (by rw [h1.1]; omega)]
    exact this.2 j hj
  · rw [if_neg hx]
    have := h2.2 (i - xs.length) (by simp at hi; omega)
    simp only [List.getD_eq_getElem?_getD] at this
    refine ⟨this.1, fun j hj => ?_⟩
    have e : i * sz = xs.length * sz + (i - xs.length) * sz := by rw [← Nat.add_mul]; congr 1; omega
    rw [if_neg (by rw [h1.1]; omega), h1.1]
    have e2 : i * sz + j - xs.length * sz = (i - xs.length) * sz + j := by omega
    rw [e2]
    exact this.2 j hj

theorem FlatRel.one {sz : Nat} {ys : List V} {c : List Value} (h : FlatRel G M sz ys c) (hsz : sz ≠ 0) : ∀ u ∈ c, u.oneCell' = true := by
  intro u hu
  obtain ⟨k, hk, rfl⟩ := List.mem_iff_getElem.1 hu
  have hk' : k < ys.length * sz := by rw [← h.1]; exact hk
  have hlt : k / sz < ys.length := Nat.div_lt_of_lt_mul (by rw [Nat.mul_comm]; exact hk')
  have := ((h.2 (k / sz) hlt).2 (k % sz) (Nat.mod_lt _ (by omega))).2
  rw [Nat.mul_comm, Nat.div_add_mod] at this
  simpa [List.getD_eq_getElem?_getD, hk] using this

theorem FlatRel.mono {G' : GMap} {M' : MMap} {sz : Nat} {ys : List V} {c : List Value} (h : FlatRel G M sz ys c) (hG : G.le G') (hM : M.le M') : FlatRel G' M' sz ys c :=
  ⟨h.1, fun i hi => ⟨(h.2 i hi).1, fun j hj => ⟨((h.2 i hi).2 j hj).1.mono hG hM, ((h.2 i hi).2 j hj).2⟩⟩⟩

/-- A new row out of a flat one, with spare cells behind. -/
theorem Sim.allocFlat (hs : Sim G M h w) (b : Nat) (ty : TypeId) (sz room : Nat) {es : List V} {c rest : List Value} (hf : FlatRel G M sz es c) (h1 : room * sz ≤ c.length + rest.length) (h2 : es.length ≤ room) :
    Sim G (upd M b ⟨freshGen M b, sz, room, 0, some w.heap.size⟩) ((b, .row (freshGen M b) sz es) :: h) (w.alloc (.cells (c ++ rest).toArray ty)) ∧
    Ext G M w G (upd M b ⟨freshGen M b, sz, room, 0, some w.heap.size⟩) (w.alloc (.cells (c ++ rest).toArray ty)) := by
  refine hs.alloc b _ ty sz room es (by simpa using h1) h2 (fun i hi => (hf.2 i hi).1) (fun i j hi hj => ?_)
  have := (hf.2 i hi).2 j hj
  have heb := elem_bound (sz := sz) hi (Nat.le_refl es.length)
  have hlt : i * sz + j < c.length := by rw [hf.1]; omega
  rw [getD_toArray]
  have e : (c ++ rest).getD (i * sz + j) undef = c.getD (i * sz + j) undef := by
    simp [List.getD_eq_getElem?_getD, List.getElem?_append, hlt]
  rw [e]; exact this

theorem relV_newref {b len sz room : Nat} {cap : Option Nat} {rcap : Nat} (hl : len ≤ rcap) (hr : rcap ≤ room) (hc : ∀ c, cap = some c → rcap = c) (k : Nat) :
    RelV G (upd M b ⟨freshGen M b, sz, room, 0, some k⟩) (.ref b (freshGen M b) 0 len cap) (.slice (some ⟨k, 0, none⟩) len rcap) :=
  .ref _ _ _ _ _ _ _ _ (upd_same _ _ _) (Nat.le_refl _) hl hc fun _ => .inl ⟨by simp, by simpa using hr⟩

theorem foldl_set_size (off : Nat) : ∀ (q : List (Value × Nat)) (arr : Array Value), (q.foldl (fun cs (x : Value × Nat) => cs.setIfInBounds (off + x.2) x.1) arr).size = arr.size
  | [], _ => rfl
  | a :: b, arr => by simp only [List.foldl_cons]; rw [foldl_set_size off b]; simp

theorem q_buildSl (hr : R n gl G M fr h a w) {o : Oper} {t e : TypeId} {len : Nat} {ps : Array (Nat × Operand)} {l : List (Nat × Nat × IOpd)} {z : Value} {ty : Bool × Nat × Nat} {K : List V → Prop} {vs : List (Nat × Nat × V)} (ho : o.op = .buildSlice t len ps)
    (h1 : P.underlying t = some (.slice e)) (h2 : tyOf P e = some ty) (hz : zeroOf P e = some z) (hn : len * ty.2.1 ≤ 4096) (hn0 : ty.2.1 ≠ 0)
    (hl : coParts (fun i => some (i * ty.2.1, ty.2.1)) ps.toList = some l) {id : Nat}
    (hvs : evps gl fr l = some vs) (hi : fillW ((List.range (len * ty.2.1)).map fun i => (vOfZ z).cells.getD (i % ty.2.1) .undef) K vs) :
    ∃ cs, K cs ∧ ∀ Q, o.wp P a w (QPost G M w o.dst a id (.ref id (freshGen M id) 0 len (some len)) (some (.row (freshGen M id) ty.2.1 (groups ty.2.1 len cs)))) Q := by
  obtain ⟨-, hsz, hti⟩ := tyOf_spec (P := P) (t := e) (ag := ty.1) (n := ty.2.1) (by_ := ty.2.2) (by rw [h2])
  obtain ⟨z1, z2, i0, z3, z4⟩ := zeroOf_spec hz
  obtain ⟨i1, -, -, hisz, hinfo⟩ := hti w
  rw [z3] at hinfo; cases hinfo
  · skip
    have hzc : RelCells G M ((List.range (len * ty.2.1)).map fun i => (vOfZ z).cells.getD (i % ty.2.1) .undef) ((Array.range (len * ty.2.1)).map fun i => (if len * ty.2.1 = 0 then #[] else z.cells)[i % (if len * ty.2.1 = 0 then #[] else z.cells).size]!) := by
      refine ⟨by simp, fun i hi => ?_⟩
      have hi' : i < len * ty.2.1 := by simpa using hi
      have hne : ¬ len * ty.2.1 = 0 := by omega
      have hmod : i % ty.2.1 < ty.2.1 := Nat.mod_lt _ (by omega)
      have hz0 := relCells_zero G M z2
      have := hz0.2 (i % ty.2.1) (by rw [← hz0.1, z4, hisz]; exact hmod)
      have e1 : ((List.range (len * ty.2.1)).map fun i => (vOfZ z).cells.getD (i % ty.2.1) .undef).getD i .undef = (vOfZ z).cells.getD (i % ty.2.1) .undef := by
        simp [List.getD_eq_getElem?_getD, hi']
      have hlt : i % ty.2.1 < z.cells.size := by rw [z4, hisz]; exact hmod
      have e2 : ((Array.range (len * ty.2.1)).map fun i => (if len * ty.2.1 = 0 then #[] else z.cells)[i % (if len * ty.2.1 = 0 then #[] else z.cells).size]!).getD i undef = z.cells.getD (i % ty.2.1) undef := by
        simp only [if_neg hne, z4, hisz]
        simp [Array.getD_eq_getD_getElem?, hi', hlt, getElem!_pos]
      rw [e1, e2]; exact this
    obtain ⟨cs', arr', e1, e2, e3⟩ := fill_rel (coParts_rel hr hl hvs) hzc hi
    have hlen : cs'.length = len * ty.2.1 := by
      have key : ∀ (vs : List (Nat × Nat × V)) (us : List (Nat × Value)) (arr arr' : Array Value), Instr.fill (fun i => some (i * ty.2.1, ty.2.1)) arr us = some arr' → arr'.size = arr.size := by
        intro _ us
        induction us with
        | nil => intro arr arr' hh; simp [Instr.fill] at hh; rw [hh]
        | cons p r ih =>
          intro arr arr' hh
          simp only [Instr.fill] at hh
          split at hh
          · cases hh
          · rw [ih _ _ hh, ← Array.foldl_toList]
            exact foldl_set_size _ _ _
      have := key vs _ _ _ e1
      rw [← e2.1, this]; simp
    obtain ⟨g1, g2⟩ := groups_spec ty.2.1 hn0 len cs' hlen (fun i hi => cell_self (e2.2 i hi).1 (e2.2 i hi).2)
    have hflat : FlatRel G M ty.2.1 (groups ty.2.1 len cs') arr'.toList := by
      refine ⟨by rw [g1]; simp [e2.1, hlen], fun i hi => ?_⟩
      rw [g1] at hi
      refine ⟨(g2 i hi).1, fun j hj => ?_⟩
      rw [(g2 i hi).2 j hj]
      have heb := elem_bound (sz := ty.2.1) hi (Nat.le_refl len)
      have := e2.2 (i * ty.2.1 + j) (by omega)
      simpa [List.getD_eq_getElem?_getD, Array.getD_eq_getD_getElem?] using this
    have al : ∀ h, Sim G M h w → Sim G (upd M id ⟨freshGen M id, ty.2.1, len, 0, some w.heap.size⟩) ((id, .row (freshGen M id) ty.2.1 (groups ty.2.1 len cs')) :: h) (w.alloc (.cells arr' e)) ∧ Ext G M w G (upd M id ⟨freshGen M id, ty.2.1, len, 0, some w.heap.size⟩) (w.alloc (.cells arr' e)) := by
      intro h hs
      have := hs.allocFlat id e ty.2.1 len (rest := []) hflat (by simp [e2.1, hlen]) (by rw [g1]; exact Nat.le_refl _)
      simpa only [List.append_nil, Array.toArray_toList] using this
    refine ⟨cs', e3, fun Q => fin_q (rv := .slice (some ⟨w.heap.size, 0, none⟩) len len) ?_ (relV_newref (Nat.le_refl _) (Nat.le_refl _) (by simp) _) (fun h hs => (al h hs).1) (al h hr.sim).2 (fun i hi => freshGen_upd _ _ _ _ (by rcases hi with hi | hi <;> first | exact hi | cases hi))⟩
    have hbig : ¬ len * ty.2.1 > 2 ^ 24 := by omega
    simp only [execOp, ho, Instr.buildSlice, Sem.run_bind, Result.andThen_ok, underlying, run_program, h1, hsz, Sem.run_pure, Sem.run_ite, if_neg hbig]
    rw [coParts_map]
    by_cases h0 : len * ty.2.1 = 0
    · simp only [if_pos h0] at e1 ⊢
      simp only [Result.andThen_ok, e1]
      simp [newRow]
    · simp only [if_neg h0, z1, Result.andThen_ok] at e1 ⊢
      simp only [e1]
      simp [newRow]

theorem sound_buildSl (hr : R n gl G M fr h a w) {o : Oper} {t e : TypeId} {len : Nat} {ps : Array (Nat × Operand)} {l : List (Nat × Nat × IOpd)} {z : Value} {ty : Bool × Nat × Nat} {Q : Exit → Act → World → Prop} {K : V → Hp → Prop} (ho : o.op = .buildSlice t len ps)
    (h1 : P.underlying t = some (.slice e)) (h2 : tyOf P e = some ty) (hz : zeroOf P e = some z) (hn : len * ty.2.1 ≤ 4096) (hn0 : ty.2.1 ≠ 0)
    (hl : coParts (fun i => some (i * ty.2.1, ty.2.1)) ps.toList = some l) {id : Nat}
    (hi : istep P gl id fr h K (.buildSl ty.2.1 len ((List.range (len * ty.2.1)).map fun i => (vOfZ z).cells.getD (i % ty.2.1) .undef) l)) : o.wp P a w (OpPost h id K G M w o a) Q := by
  simp only [istep] at hi
  split at hi
  · rename_i vs hvs
    obtain ⟨cs, hk, hq⟩ := q_buildSl hr ho h1 h2 hz hn hn0 hl (id := id) hvs hi
    exact q_up hr (hq Q) (hk _)
  · exact hi.elim

theorem wrap_i64 {x : Int} (h0 : -9223372036854775808 ≤ x) (h1 : x ≤ 9223372036854775807) : IntKind.i64.wrap x = x := IntWalk.i64_in x ⟨h0, h1⟩

end
end Go.Proofs.YtcdfifbabhfknaaDoor
