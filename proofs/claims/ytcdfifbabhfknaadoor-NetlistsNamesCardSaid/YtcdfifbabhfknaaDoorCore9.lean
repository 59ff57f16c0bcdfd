/- Each ideal operation but the calls stands for the model's: fourth part. No program stands in it. Conditions: none. -/
import Derived.Test.YtcdfifbabhfknaaDoorCore8
namespace Go.Proofs.YtcdfifbabhfknaaDoor
open Go

section
variable {P : Program} {gl : Fr} {n : Nat} {fr : Fr} {h : Hp} {G : GMap} {M : MMap} {a : Act} {w : World}

/-- Two lists of parts, the ideal one and the model's. -/
def RelParts (G : GMap) (M : MMap) (place : Nat → Option (Nat × Nat)) : List (Nat × Nat × V) → List (Nat × Value) → Prop
  | [], [] => True
  | (o, s, v) :: r, (i, u) :: q => place i = some (o, s) ∧ RelV G M v u ∧ RelParts G M place r q
  | _, _ => False

theorem coParts_rel (hr : R n gl G M fr h a w) {place : Nat → Option (Nat × Nat)} : ∀ {ps : List (Nat × Operand)} {l : List (Nat × Nat × IOpd)} {vs : List (Nat × Nat × V)},
    coParts place ps = some l → evps gl fr l = some vs → RelParts G M place vs (ps.map fun (i, x) => (i, a.eval x))
  | [], l, vs, h1, h2 => by simp [coParts] at h1; subst h1; simp [evps] at h2; subst h2; trivial
  | (i, x) :: r, l, vs, h1, h2 => by
    simp only [coParts] at h1
    split at h1
    · rename_i o m l' hp hc
      cases h1
      simp only [evps] at h2
      split at h2
      · rename_i v vs' hv hvs
        cases h2
        exact ⟨hp, ev_co hr hv, coParts_rel hr hc hvs⟩
      · cases h2
    · cases h1

theorem foldl_set_splice (off : Nat) : ∀ (l : List Value) (k : Nat) (cells : Array Value), off + k + l.length ≤ cells.size →
    (l.zipIdx k).foldl (fun cs (p : Value × Nat) => cs.setIfInBounds (off + p.2) p.1) cells = (cells.toList.take (off + k) ++ l ++ cells.toList.drop (off + k + l.length)).toArray
  | [], k, cells, _ => by simp
  | x :: r, k, cells, hl => by
    simp only [List.zipIdx_cons, List.foldl_cons]
    have hlt : off + k < cells.size := by simp at hl; omega
    rw [foldl_set_splice off r (k + 1) _ (by simp at hl ⊢; omega)]
    congr 1
    simp only [Array.toList_setIfInBounds]
    have := list_seg_step cells.toList (off + k) x r (by simp at hl ⊢; omega)
    have e1 : off + (k + 1) = off + k + 1 := by omega
    have e2 : (x :: r).length = r.length + 1 := rfl
    rw [e1, e2]
    exact this

theorem relCells_splice {cs vs : List V} {arr us : Array Value} (hc : RelCells G M cs arr) (hv : us.size = vs.length) (hv2 : ∀ j, j < vs.length → RelV G M (vs.getD j .undef) (us.getD j undef) ∧ (us.getD j undef).oneCell' = true) (off : Nat) (hle : off + vs.length ≤ cs.length) :
    RelCells G M (cs.take off ++ vs ++ cs.drop (off + vs.length)) (arr.toList.take off ++ us.toList ++ arr.toList.drop (off + us.toList.length)).toArray := by
  have h1 := hc.1
  refine ⟨by simp; omega, fun i hi => ?_⟩
  rw [getD_toArray, splice_getD _ _ _ _ (by simp; omega), spliceV_getD _ _ _ _ hle]
  have hul : us.toList.length = vs.length := by simpa using hv
  rw [hul]
  have hil : i < cs.length := by simp at hi; omega
  by_cases hin : off ≤ i ∧ i < off + vs.length
  · rw [if_pos hin, if_pos hin]
    have := hv2 (i - off) (by omega)
    simpa [List.getD_eq_getElem?_getD, Array.getD_eq_getD_getElem?] using this
  · rw [if_neg hin, if_neg hin]
    have := hc.2 i hil
    simpa [List.getD_eq_getElem?_getD, Array.getD_eq_getD_getElem?] using this

theorem fill_rel {place : Nat → Option (Nat × Nat)} {K : List V → Prop} : ∀ {vs : List (Nat × Nat × V)} {us : List (Nat × Value)} {cs : List V} {arr : Array Value}, RelParts G M place vs us → RelCells G M cs arr → fillW cs K vs →
    ∃ cs' arr', Instr.fill place arr us = some arr' ∧ RelCells G M cs' arr' ∧ K cs'
  | [], [], cs, arr, _, hc, hk => ⟨cs, arr, rfl, hc, hk⟩
  | [], _ :: _, _, _, hp, _, _ => hp.elim
  | _ :: _, [], _, _, hp, _, _ => hp.elim
  | (o, s, v) :: r, (i, u) :: q, cs, arr, hp, hc, hk => by
    obtain ⟨h1, h2, h3⟩ := hp
    obtain ⟨k1, k2, k3, k4⟩ := hk
    obtain ⟨c1, c2⟩ := h2.cells k2
    have hsz := hc.1
    have hne : ¬ (u.cells.size ≠ s || decide (o + u.cells.size > arr.size)) = true := by
      simp; omega
    have hf := foldl_set_splice o u.cells.toList 0 arr (by simp; omega)
    have hrc := relCells_splice hc c1 c2 o (by omega)
    obtain ⟨cs', arr', e1, e2, e3⟩ := fill_rel (cs := cs.take o ++ v.cells ++ cs.drop (o + s)) (arr := (arr.toList.take o ++ u.cells.toList ++ arr.toList.drop (o + u.cells.toList.length)).toArray) h3 (by rw [k1] at hrc; exact hrc) k4
    refine ⟨cs', arr', ?_, e2, e3⟩
    have hfold : Array.foldl (fun cs (x : Value × Nat) => cs.setIfInBounds (o + x.2) x.1) arr u.cells.zipIdx = (arr.toList.take o ++ u.cells.toList ++ arr.toList.drop (o + u.cells.toList.length)).toArray := by
      rw [← Array.foldl_toList, Array.toList_zipIdx]
      simpa using hf
    simp only [Instr.fill, h1]
    rw [if_neg hne, ← e1]
    congr 1

theorem relCells_zero (G : GMap) (M : MMap) {z : Value} (hz : z.cells.all (·.oneCell') = true) : RelCells G M (vOfZ z).cells z.cells := by
  rw [vOfZ_cells]
  refine ⟨by simp, fun i hi => ?_⟩
  have hi' : i < z.cells.size := by simpa using hi
  have e1 : (z.cells.toList.map vOf).getD i .undef = vOf (z.cells.getD i undef) := by
    simp [List.getD_eq_getElem?_getD, Array.getD_eq_getD_getElem?, hi']
  rw [e1]
  refine ⟨relV_vOf _ _ _, ?_⟩
  simp only [Array.all_eq_true] at hz
  simpa [Array.getD_eq_getD_getElem?, hi'] using hz i hi'

theorem coParts_map {ps : Array (Nat × Operand)} : (ps.map fun (x : Nat × Operand) => (x.1, a.eval x.2)).toList = ps.toList.map fun (x : Nat × Operand) => (x.1, a.eval x.2) := by simp

theorem sound_buildA (hr : R n gl G M fr h a w) {o : Oper} {t e : TypeId} {len : Nat} {ps : Array (Nat × Operand)} {l : List (Nat × Nat × IOpd)} {z : Value} {ty : Bool × Nat × Nat} {Q : Exit → Act → World → Prop} {K : V → Hp → Prop} (ho : o.op = .build t ps)
    (h1 : P.underlying t = some (.array len e)) (h2 : tyOf P e = some ty) (hz : zeroOf P t = some z) (hl : coParts (fun i => some (i * ty.2.1, ty.2.1)) ps.toList = some l) {id : Nat} (hi : istep P gl id fr h K (.build (vOfZ z).cells l)) : o.wp P a w (PurePost K G M w o a h) Q := by
  obtain ⟨-, hsz, -⟩ := tyOf_spec (P := P) (t := e) (ag := ty.1) (n := ty.2.1) (by_ := ty.2.2) (by rw [h2])
  obtain ⟨z1, z2, -⟩ := zeroOf_spec hz
  simp only [istep] at hi
  split at hi
  · rename_i vs hvs
    obtain ⟨cs', arr', e1, e2, e3⟩ := fill_rel (coParts_rel hr hl hvs) (relCells_zero G M z2) hi
    refine fin_pure hr (rv := .agg arr') ?_ e3 (relV_agg e2)
    simp only [execOp, ho, Instr.build, Sem.run_bind, z1, Result.andThen_ok, underlying, run_program, h1, hsz, Sem.run_pure]
    rw [coParts_map, e1]
    simp
  · exact hi.elim

theorem mapM_places {fields : Array Field} (hf : fields.toList.all (fun f => (tyOf P f.type).isSome) = true) :
    (fields.mapM fun f => do pure (f.offset, ← sizeOf f.type) : Sem (Array (Nat × Nat))).run P w = .ok (fields.map fun f => (f.offset, ((tyOf P f.type).getD (false, 0, 0)).2.1)) w := by
  rw [← Array.toArray_toList (xs := fields)]
  generalize fields.toList = fl at hf
  rw [List.mapM_toArray]
  have key : ∀ fl : List Field, fl.all (fun f => (tyOf P f.type).isSome) = true → (fl.mapM fun f => Prod.mk f.offset <$> sizeOf f.type : Sem (List (Nat × Nat))).run P w = .ok (fl.map fun f => (f.offset, ((tyOf P f.type).getD (false, 0, 0)).2.1)) w := by
    intro fl hf
    induction fl with
    | nil => simp
    | cons f r ih =>
      simp only [List.all_cons, Bool.and_eq_true] at hf
      obtain ⟨ty, hty⟩ := Option.isSome_iff_exists.1 hf.1
      obtain ⟨-, hsz, -⟩ := tyOf_spec (P := P) (t := f.type) (ag := ty.1) (n := ty.2.1) (by_ := ty.2.2) (by rw [hty])
      simp [hsz, ih hf.2, hty]
  simp [key fl hf]

theorem sound_buildS (hr : R n gl G M fr h a w) {o : Oper} {t : TypeId} {fields : Array Field} {ps : Array (Nat × Operand)} {l : List (Nat × Nat × IOpd)} {z : Value} {Q : Exit → Act → World → Prop} {K : V → Hp → Prop} (ho : o.op = .build t ps)
    (h1 : P.underlying t = some (.struct fields)) (hf : fields.toList.all (fun f => (tyOf P f.type).isSome) = true) (hz : zeroOf P t = some z) (hl : coParts (placeOf P fields) ps.toList = some l) {id : Nat} (hi : istep P gl id fr h K (.build (vOfZ z).cells l)) : o.wp P a w (PurePost K G M w o a h) Q := by
  obtain ⟨z1, z2, -⟩ := zeroOf_spec hz
  simp only [istep] at hi
  split at hi
  · rename_i vs hvs
    have hplace : ∀ i p, placeOf P fields i = some p → (fields.map fun f => (f.offset, ((tyOf P f.type).getD (false, 0, 0)).2.1))[i]? = some p := by
      intro i p hp
      unfold placeOf at hp
      split at hp
      · rename_i f hff
        split at hp
        · rename_i ag m by_ hty
          cases hp
          simp [hff, hty]
        · cases hp
      · cases hp
    have hrp : ∀ (vs : List (Nat × Nat × V)) (us : List (Nat × Value)), RelParts G M (placeOf P fields) vs us → RelParts G M (fun i => (fields.map fun f => (f.offset, ((tyOf P f.type).getD (false, 0, 0)).2.1))[i]?) vs us := by
      intro vs
      induction vs with
      | nil => intro us hu; cases us <;> exact hu
      | cons p r ih =>
        intro us hu
        cases us with
        | nil => exact hu
        | cons q s => exact ⟨hplace _ _ hu.1, hu.2.1, ih s hu.2.2⟩
    obtain ⟨cs', arr', e1, e2, e3⟩ := fill_rel (hrp _ _ (coParts_rel hr hl hvs)) (relCells_zero G M z2) hi
    refine fin_pure hr (rv := .agg arr') ?_ e3 (relV_agg e2)
    simp only [execOp, ho, Instr.build, Sem.run_bind, z1, Result.andThen_ok, underlying, run_program, h1, Sem.run_pure, mapM_places hf]
    rw [coParts_map, e1]
    simp
  · exact hi.elim

theorem groups_spec (sz : Nat) (hsz : sz ≠ 0) : ∀ (m : Nat) (cs : List V), cs.length = m * sz → (∀ i, i < cs.length → (cs.getD i .undef).cells = [cs.getD i .undef]) → (groups sz m cs).length = m ∧
    ∀ i, i < m → ((groups sz m cs).getD i .undef).cells.length = sz ∧ ∀ j, j < sz → ((groups sz m cs).getD i .undef).cells.getD j .undef = cs.getD (i * sz + j) .undef
  | 0, cs, _, _ => ⟨rfl, fun i hi => by omega⟩
  | m + 1, cs, hl, hc => by
    have hl' : (cs.drop sz).length = m * sz := by simp [hl, Nat.add_mul]
    obtain ⟨i1, i2⟩ := groups_spec sz hsz m (cs.drop sz) hl' (fun i hi => by
      have := hc (sz + i) (by simp at hi; omega)
      simpa [List.getD_eq_getElem?_getD] using this)
    refine ⟨by simp [groups, i1], fun i hi => ?_⟩
    cases i with
    | zero =>
      have hle : sz ≤ cs.length := by rw [hl, Nat.add_mul]; omega
      simp only [groups, List.getD_cons_zero, Nat.zero_mul, Nat.zero_add]
      split
      · have h0 := hc 0 (by omega)
        rw [h0]
        refine ⟨rfl, fun j hj => ?_⟩
        obtain rfl : j = 0 := by omega
        rfl
      · refine ⟨by simp [V.cells]; omega, fun j hj => ?_⟩
        simp [V.cells, List.getD_eq_getElem?_getD, List.getElem?_take, hj]
    | succ i =>
      simp only [groups, List.getD_cons_succ]
      obtain ⟨q1, q2⟩ := i2 i (by omega)
      refine ⟨q1, fun j hj => ?_⟩
      rw [q2 j hj]
      simp only [List.getD_eq_getElem?_getD, List.getElem?_drop]
      congr 2
      rw [Nat.add_mul]; omega
end
end Go.Proofs.YtcdfifbabhfknaaDoor
