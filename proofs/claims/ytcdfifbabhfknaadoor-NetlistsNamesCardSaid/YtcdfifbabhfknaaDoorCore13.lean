/- Each ideal operation but the calls stands for the model's: eighth part: equality of structs, bytes to a string; all together. No program stands in it. Conditions: none. -/
import Derived.Test.YtcdfifbabhfknaaDoorCore12
import Derived.Laws.StructEq
import Derived.Laws.BytesString
namespace Go.Proofs.YtcdfifbabhfknaaDoor
open Go

section
variable {P : Program} {gl : Fr} {n : Nat} {fr : Fr} {h : Hp} {G : GMap} {M : MMap} {a : Act} {w : World}

theorem run_part_plain {f : Field} {i : Nat} (hf : plainField P f i = true) {arr : Array Value} (hi : i < arr.size) : (part f.type arr f.offset).run P w = .ok (arr.getD i undef) w := by
  simp only [plainField, Bool.and_eq_true, bne_iff_ne, beq_iff_eq] at hf
  obtain ⟨⟨-, rfl⟩, ht⟩ := hf
  have hag : (isAgg f.type).run P w = .ok false w := by
    split at ht <;> first
      | (rename_i he; rw [run_isAgg he]; rfl)
      | cases ht
  simp [part, hag, hi, Array.getD_eq_getD_getElem?]

theorem run_eqFields (d : Nat) : ∀ (fs : List Field) (k : Nat) (l1 l2 : List V) (xs ys : Array Value), (fs.zipIdx k).all (fun (f, i) => plainField P f i) = true → l1.length = fs.length → l2.length = fs.length →
    xs.size = k + fs.length → ys.size = k + fs.length → (∀ i, i < l1.length → RelV G M (l1.getD i .undef) (xs.getD (k + i) undef)) → (∀ i, i < l2.length → RelV G M (l2.getD i .undef) (ys.getD (k + i) undef)) → eqOk l1 l2 →
    (Op.eqFields (d + 1) xs ys fs).run P w = .ok (eqCells l1 l2) w
  | [], k, [], [], xs, ys, _, _, _, _, _, _, _, _ => by simp [Op.eqFields, eqCells]
  | f :: fs, k, x :: l1, y :: l2, xs, ys, hp, h1, h2, s1, s2, r1, r2, hok => by
    simp only [List.zipIdx_cons, List.all_cons, Bool.and_eq_true] at hp
    have hf := hp.1
    simp only [List.length_cons] at h1 h2 s1 s2
    have p1 := run_part_plain (w := w) hf (arr := xs) (by omega)
    have p2 := run_part_plain (w := w) hf (arr := ys) (by omega)
    have q1 := r1 0 (by simp)
    have q2 := r2 0 (by simp)
    simp only [List.getD_cons_zero, Nat.add_zero] at q1 q2
    have ih := fun (hk : eqOk l1 l2) => run_eqFields d fs (k + 1) l1 l2 xs ys hp.2 (by omega) (by omega) (by omega) (by omega)
      (fun i hi => by have := r1 (i + 1) (by simp; omega); simpa [Nat.add_assoc, Nat.add_comm 1] using this)
      (fun i hi => by have := r2 (i + 1) (by simp; omega); simpa [Nat.add_assoc, Nat.add_comm 1] using this) hk
    have hne : f.name ≠ "_" := by
      simp only [plainField, Bool.and_eq_true, bne_iff_ne] at hf; exact hf.1.1
    have ht : (match P.underlying f.type with | some (.int _) => true | _ => false) = true := by
      simp only [plainField, Bool.and_eq_true] at hf; exact hf.2
    simp only [Op.eqFields]
    rw [if_pos hne]
    simp only [Sem.run_bind, p1, p2, Result.andThen_ok]
    cases x <;> cases y <;> simp only [eqOk] at hok <;> first
      | exact hok.elim
      | skip
    obtain ⟨rfl, hok⟩ := hok
    rename_i kk m m'
    have e1 := relV_int_inv q1
    have e2 := relV_int_inv q2
    rw [e1, e2]
    have heq : (Op.equalIn (d + 1) f.type (.int kk m) (.int kk m')).run P w = .ok (m == m') w := by
      split at ht <;> first
        | (rename_i k' he; exact run_equalIn_int w d f.type kk k' m m' he)
        | cases ht
    simp only [heq, Result.andThen_ok, eqCells]
    by_cases hm : m = m'
    · subst hm; simp [ih hok]
    · simp [hm]
  | [], _, _ :: _, _, _, _, _, h1, _, _, _, _, _, _ => by simp at h1
  | [], _, [], _ :: _, _, _, _, _, h2, _, _, _, _, _ => by simp at h2
  | _ :: _, _, [], _, _, _, _, h1, _, _, _, _, _, _ => by simp at h1
  | _ :: _, _, _ :: _, [], _, _, _, _, h2, _, _, _, _, _ => by simp at h2

theorem plainStruct_spec {t : TypeId} {m : Nat} (h : plainStruct P t = some m) : ∃ fields, P.underlying t = some (.struct fields) ∧ P.stoodInHeld t = false ∧ (fields.toList.zipIdx.all fun (f, i) => plainField P f i) = true ∧ P.eqGuardType P.depth t = false ∧ fields.size = m := by
  unfold plainStruct at h
  split at h
  · rename_i fields he
    split at h
    · rename_i hc
      cases h
      exact ⟨fields, he, hc.1, hc.2.1, hc.2.2, rfl⟩
    · cases h
  · cases h

theorem sound_eqs (hr : R n gl G M fr h a w) {o : Oper} {op : BinOp} {t yt : TypeId} {x y : Operand} {neg : Bool} {m : Nat} {Q : Exit → Act → World → Prop} {K : V → Hp → Prop} (ho : o.op = .binOp op t x y yt)
    (hop : op = if neg then .neq else .eql) (hp : plainStruct P t = some m) {id : Nat} (hi : istep P gl id fr h K (.eqs neg m (co x) (co y))) : o.wp P a w (PurePost K G M w o a h) Q := by
  obtain ⟨fields, h1, h2, h3, h4, h5⟩ := plainStruct_spec hp
  have hfo : P.fieldsOf t = fields := by simp [Program.fieldsOf, h1]
  simp only [istep] at hi
  split at hi
  · rename_i ca cb hx hy
    obtain ⟨l1, l2, hok, hk⟩ := hi
    obtain ⟨xs, ex, hxs⟩ := relV_agg_inv (ev_co hr hx)
    obtain ⟨ys, ey, hys⟩ := relV_agg_inv (ev_co hr hy)
    have hq : (Op.equalIn 10000 t (.agg xs) (.agg ys)).run P w = .ok (eqCells ca cb) w := by
      rw [run_equalIn_agg w 9999 t xs ys (by rw [hfo]; exact h1) h2, hfo]
      exact run_eqFields 9998 fields.toList 0 ca cb xs ys (by simpa using h3) (by simp [l1, h5]) (by simp [l2, h5]) (by simp [hxs.1, l1, h5]) (by simp [hys.1, l2, h5])
        (fun i hi => by rw [Nat.zero_add]; exact (hxs.2 i hi).1) (fun i hi => by rw [Nat.zero_add]; exact (hys.2 i hi).1) hok
    refine fin_pure hr ?_ hk (.bool _)
    subst hop
    cases neg
    · simp only [execOp, ho, ex, ey, Bool.false_eq_true, if_false, Sem.run_bind, run_eqGuard_agg w _ t x y xs ys h4, Result.andThen_ok, run_eql_struct, hq]
      simp
    · simp only [execOp, ho, ex, ey, if_true, Sem.run_bind, run_eqGuard_agg w _ t x y xs ys h4, Result.andThen_ok, run_neq_struct, hq]
      simp
  · exact hi.elim

theorem bytesOf_ints : ∀ {es : List V} {s : List UInt8}, bytesOf es = some s → ∃ ns : List Int, es = ns.map (V.int .u8) ∧ s = ns.map fun m => UInt8.ofNat m.toNat
  | [], s, h => by simp [bytesOf] at h; subst h; exact ⟨[], rfl, rfl⟩
  | e :: r, s, h => by
    unfold bytesOf at h
    split at h
    · cases ‹_ :: _ = []›
    · rename_i m r' he
      cases he
      cases hr : bytesOf r with
      | none => rw [hr] at h; cases h
      | some s' =>
        rw [hr] at h
        simp only [Option.map_some, Option.some.injEq] at h
        obtain ⟨ns, rfl, rfl⟩ := bytesOf_ints hr
        exact ⟨m :: ns, rfl, h.symm⟩
    · cases h

theorem foldl_push_bytes : ∀ (ns : List Int) (b : ByteArray), ns.foldl (fun r (m : Int) => r.push (UInt8.ofNat m.toNat)) b = ⟨(b.data.toList ++ ns.map fun m => UInt8.ofNat m.toNat).toArray⟩
  | [], b => by simp
  | m :: r, b => by
    simp only [List.foldl_cons, foldl_push_bytes r]
    congr 1
    simp [ByteArray.push]

theorem sound_b2s (hr : R n gl G M fr h a w) {o : Oper} {s d e : TypeId} {x : Operand} {Q : Exit → Act → World → Prop} {K : V → Hp → Prop} (ho : o.op = .convert s d x)
    (h1 : P.underlying s = some (.slice e)) (h2 : P.underlying d = some .string) (h3 : P.underlying e = some (.int .u8)) {id : Nat} (hi : istep P gl id fr h K (.b2s (co x))) : o.wp P a w (PurePost K G M w o a h) Q := by
  simp only [istep] at hi
  split at hi
  · rename_i vx hx
    obtain ⟨ys, ra, rcap, cells, hk, ex, f1, r1⟩ := elemsW_spec (P := P) hr.sim hi (evN_co hr hx)
    split at hk
    · rename_i l hl
      obtain ⟨ns, rfl, rfl⟩ := bytesOf_ints hl
      have hcells : cells = ns.map (Value.int .u8) := by
        apply List.ext_getElem?
        intro i
        by_cases hi : i < ns.length
        · have := ((f1.2 i (by simpa using hi)).2 0 (by omega)).1
          simp only [Nat.mul_one, Nat.add_zero, List.getD_eq_getElem?_getD, List.getElem?_map, List.getElem?_eq_getElem hi, Option.map_some, Option.getD_some, V.cells, List.getElem?_cons_zero] at this
          have hlt : i < cells.length := by rw [f1.1]; simpa using hi
          rw [List.getElem?_eq_getElem hlt] at this ⊢
          have e := relV_int_inv this
          simp only [Option.getD_some] at e
          simp [e, hi]
        · rw [List.getElem?_eq_none (by rw [f1.1]; simpa using hi), List.getElem?_eq_none (by simpa using hi)]
      refine fin_pure hr (rv := .string ⟨(ns.map fun m => UInt8.ofNat m.toNat).toArray⟩) ?_ hk (.str _)
      have hlen : (ns.map (V.int .u8)).length = ns.length := by simp
      have hcv : (convert s d (a.eval x)).run P w = (Conv.bytesToString (a.eval x)).run P w := by
        rw [ex]
        simp [convert, underlying, h1, h2, h3]
      have hb : (Conv.bytesToString (a.eval x)).run P w = .ok (.string ⟨(ns.map fun m => UInt8.ofNat m.toNat).toArray⟩) w := by
        have r1' := r1 w rfl
        rw [ex] at r1' ⊢
        cases ra with
        | none =>
          simp only [Builtin.firstCells, Sem.run_pure, Result.ok.injEq, and_true] at r1'
          have : cells = [] := by simpa using r1'.symm
          rw [this] at hcells
          have hns : ns = [] := by simpa using hcells.symm
          subst hns
          simp [Conv.bytesToString]
          rfl
        | some ad =>
          simp only [Builtin.firstCells, Nat.mul_one] at r1'
          rw [hcells] at r1'
          rw [hlen] at r1' ⊢
          rw [run_bytesToString w ad ns.length rcap ns r1', foldl_push_bytes]
          rfl
      simp [execOp, ho, hcv, hb]
    · exact hk.elim
  · exact hi.elim
end
end Go.Proofs.YtcdfifbabhfknaaDoor
