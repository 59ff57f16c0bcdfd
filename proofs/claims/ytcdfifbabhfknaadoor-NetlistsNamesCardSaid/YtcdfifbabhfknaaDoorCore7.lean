/- Each ideal operation but the calls stands for the model's: second part. No program stands in it. Conditions: none. -/
import Derived.Test.YtcdfifbabhfknaaDoorCore6
import Derived.Laws.Small
import Derived.Laws.Append
namespace Go.Proofs.YtcdfifbabhfknaaDoor
open Go

theorem splice_getD (cur : List Value) (off : Nat) (vs : List Value) (i : Nat) (h : off + vs.length ≤ cur.length) :
    (cur.take off ++ vs ++ cur.drop (off + vs.length)).getD i undef = if off ≤ i ∧ i < off + vs.length then vs.getD (i - off) undef else cur.getD i undef := by
  simp only [List.getD_eq_getElem?_getD, List.getElem?_append, List.length_append, List.length_take, List.getElem?_take, List.getElem?_drop]
  have hm : min off cur.length = off := by omega
  rw [hm]
  by_cases h1 : i < off
  · have : ¬ (off ≤ i ∧ i < off + vs.length) := by omega
    rw [if_pos (by omega), if_pos h1, if_pos h1, if_neg this]
  · by_cases h2 : i < off + vs.length
    · rw [if_pos (by omega), if_neg h1, if_pos (by omega)]
    · have : ¬ (off ≤ i ∧ i < off + vs.length) := by omega
      rw [if_neg (by omega), if_neg this]
      congr 2
      omega

theorem spliceV_getD (cur : List V) (off : Nat) (vs : List V) (i : Nat) (h : off + vs.length ≤ cur.length) :
    (cur.take off ++ vs ++ cur.drop (off + vs.length)).getD i .undef = if off ≤ i ∧ i < off + vs.length then vs.getD (i - off) .undef else cur.getD i .undef := by
  simp only [List.getD_eq_getElem?_getD, List.getElem?_append, List.length_append, List.length_take, List.getElem?_take, List.getElem?_drop]
  have hm : min off cur.length = off := by omega
  rw [hm]
  by_cases h1 : i < off
  · have : ¬ (off ≤ i ∧ i < off + vs.length) := by omega
    rw [if_pos (by omega), if_pos h1, if_pos h1, if_neg this]
  · by_cases h2 : i < off + vs.length
    · rw [if_pos (by omega), if_neg h1, if_pos (by omega)]
    · have : ¬ (off ≤ i ∧ i < off + vs.length) := by omega
      rw [if_neg (by omega), if_neg this]
      congr 2
      omega

section
variable {P : Program} {gl : Fr} {n : Nat} {fr : Fr} {h : Hp} {G : GMap} {M : MMap} {a : Act} {w : World}

theorem V.putV_cells {off m : Nat} {v x : V} (h : V.putOk off m v x) : (V.putV off m v x).cells = x.cells.take off ++ v.cells ++ x.cells.drop (off + m) := by
  obtain ⟨h1, h2, h3⟩ := h
  unfold V.putV
  split
  · rfl
  · rename_i hx
    have hx' : x.cells = [x] := by cases x <;> first | rfl | exact absurd rfl (hx _)
    have h3' : off = 0 ∧ m = 1 ∧ x.isCell = true ∧ v.isCell = true := by
      revert h3; cases x <;> first | exact id | exact absurd rfl (hx _)
    obtain ⟨rfl, rfl, -, -⟩ := h3'
    simp [hx']

theorem V.putOk_le {off m : Nat} {v x : V} (h : V.putOk off m v x) : off + m ≤ x.cells.length := by
  obtain ⟨h1, h2, h3⟩ := h
  cases x <;> first
    | exact h3
    | (obtain ⟨rfl, rfl, -, -⟩ := h3; simp [V.cells])

theorem list_set_getD {es : List V} {i k : Nat} {e : V} (hi : i < es.length) : (es.set i e).getD k .undef = if k = i then e else es.getD k .undef := by
  simp only [List.getD_eq_getElem?_getD, List.getElem?_set]
  by_cases hk : i = k
  · subst hk; simp [hi]
  · rw [if_neg hk, if_neg (fun e => hk e.symm)]

theorem row_ne {i k sz j l : Nat} (hne : k ≠ i) (hj : j < sz) (hl : l < sz) : k * sz + j ≠ i * sz + l := by
  intro e
  rcases Nat.lt_or_gt_of_ne hne with h | h
  · have := Nat.mul_le_mul_right sz (show k + 1 ≤ i by omega); rw [Nat.add_mul] at this; omega
  · have := Nat.mul_le_mul_right sz (show i + 1 ≤ k by omega); rw [Nat.add_mul] at this; omega

theorem oneCell_toList {r : Value} {v : V} (hv : RelV G M v r) (hc : v.cellsOk = true) : ∀ u ∈ r.cells.toList, u.oneCell' = true := by
  obtain ⟨h1, h2⟩ := hv.cells hc
  intro u hu
  obtain ⟨i, hi, rfl⟩ := List.mem_iff_getElem.1 hu
  have hi' : i < r.cells.size := by simpa using hi
  have := (h2 i (by omega)).2
  simpa [Array.getD_eq_getD_getElem?, hi'] using this

theorem sound_store (hr : R n gl G M fr h a w) {o : Oper} {t : TypeId} {x y : Operand} {ty : Bool × Nat × Nat} {Q : Exit → Act → World → Prop} {K : V → Hp → Prop} (ho : o.op = .store t x y) (ht : tyOf P t = some ty) {id : Nat}
    (hi : istep P gl id fr h K (.store ty.2.1 (co x) (co y))) : o.wp P a w (OpPost h id K G M w o a) Q := by
  simp only [istep] at hi
  split at hi
  · rename_i b g i off v hx hy
    split at hi
    · rename_i g' sz es hb
      obtain ⟨rfl, hlt, hput, hi⟩ := hi
      have ry := ev_co hr hy
      obtain ⟨mb, rb, arr, ty', h1, h2, h3, h4, h5, h6, h7, h8, h9, h10⟩ := own_ptr hr.sim (ev_co hr hx) hb hlt
      obtain ⟨c1, c2⟩ := ry.cells hput.2.1
      have hle := V.putOk_le hput
      rw [h9 i hlt] at hle
      have hvl : v.cells.length = ty.2.1 := hput.1
      have heb := elem_bound (sz := sz) hlt h8
      obtain ⟨-, hsz, -⟩ := tyOf_spec (P := P) (t := t) (ag := ty.1) (n := ty.2.1) (by_ := ty.2.2) (by rw [ht])
      have hlen : (a.eval y).cells.toList.length = ty.2.1 := by simp; omega
      have hst := run_storeCells_at P rb (mb.base + i * sz + off) ty' (a.eval y).cells.toList 0 arr w h6 (by omega) (oneCell_toList ry hput.2.1)
      simp only [Nat.add_zero] at hst
      have hrun : (execOp a.eval o).run P w = .ok .skip (w.setRow rb (arr.toList.take (mb.base + i * sz + off) ++ (a.eval y).cells.toList ++ arr.toList.drop (mb.base + i * sz + off + (a.eval y).cells.toList.length)).toArray) := by
        have hne : ¬ (a.eval y).cells.size ≠ ty.2.1 := by omega
        simp only [execOp, ho, Instr.storeAt, h5, Instr.sureAddr, storeVar, Sem.run_bind, Sem.run_pure, Result.andThen_ok, hsz]
        rw [if_neg hne]
        simp [hst]
      have hkey := hr.sim.change (w' := w.setRow rb (arr.toList.take (mb.base + i * sz + off) ++ (a.eval y).cells.toList ++ arr.toList.drop (mb.base + i * sz + off + (a.eval y).cells.toList.length)).toArray)
        b mb (.row g' sz (es.set i (V.putV off ty.2.1 v (es.getD i .undef)))) (fun m hm => .inr (by rw [h1] at hm; cases hm; rfl)) (fun r hr' => .inr ⟨mb, h1, hr'⟩)
        (by rw [size_setRow]; exact Nat.le_refl _) (fun k _ hk => heap_setRow_ne _ _ _ _ (fun e => hk (by rw [h4, e]))) (fun _ _ _ _ => trivial) rfl rfl rfl ?_
      · exact fin_skip hrun hi hkey.1 hkey.2 (fun b' hb' h0 => by
          by_cases e : b' = b
          · subst e; rw [hb] at h0; cases h0
          · exact freshGen_upd _ _ _ _ e)
      · refine ⟨mb, upd_same _ _ _, h2, h3, ?_⟩
        have hle2 : M.le (upd M b mb) := MMap.le_upd fun m hm => .inr (by rw [h1] at hm; cases hm; rfl)
        simp only [RowRel, h4]
        refine ⟨_, ty', setRow_heap w rb arr _ ty' (0, 0) h6, ?_, by simpa using h8, ?_, ?_⟩
        · rw [h3]; simp; omega
        · intro k hk
          rw [list_set_getD hlt, h3]
          split
          · rw [V.putV_cells hput]
            have := h9 i hlt
            simp only [List.length_append, List.length_take, List.length_drop]
            omega
          · exact h9 k (by simpa using hk)
        · intro k j hk hj
          rw [h3] at hj ⊢
          have hk' : k < es.length := by simpa using hk
          rw [getD_toArray, splice_getD _ _ _ _ (by rw [hlen]; simp; omega), list_set_getD hlt, hlen]
          by_cases hki : k = i
          · subst hki
            rw [if_pos rfl, V.putV_cells hput, ← hvl, spliceV_getD _ _ _ _ (by rw [h9 k hlt, hvl]; exact hle)]
            by_cases hin : off ≤ j ∧ j < off + v.cells.length
            · rw [if_pos hin, if_pos (by omega)]
              have := c2 (j - off) (by omega)
              have e : mb.base + k * sz + j - (mb.base + k * sz + off) = j - off := by omega
              rw [e]
              have e2 : (a.eval y).cells.toList.getD (j - off) undef = (a.eval y).cells.getD (j - off) undef := by
                simp [List.getD_eq_getElem?_getD, Array.getD_eq_getD_getElem?]
              rw [e2]
              exact ⟨this.1.mono G.le_refl hle2, this.2⟩
            · rw [if_neg hin, if_neg (by omega)]
              have := h10 k j hk' hj
              have e2 : arr.toList.getD (mb.base + k * sz + j) undef = arr.getD (mb.base + k * sz + j) undef := by
                simp [List.getD_eq_getElem?_getD, Array.getD_eq_getD_getElem?]
              rw [e2]
              exact ⟨this.1.mono G.le_refl hle2, this.2⟩
          · rw [if_neg hki]
            have hnin : ¬ (mb.base + i * sz + off ≤ mb.base + k * sz + j ∧ mb.base + k * sz + j < mb.base + i * sz + off + ty.2.1) := by
              intro ⟨q1, q2⟩
              exact row_ne (l := mb.base + k * sz + j - (mb.base + i * sz)) hki hj (by omega) (by omega)
            rw [if_neg hnin]
            have := h10 k j hk' hj
            have e2 : arr.toList.getD (mb.base + k * sz + j) undef = arr.getD (mb.base + k * sz + j) undef := by
              simp [List.getD_eq_getElem?_getD, Array.getD_eq_getD_getElem?]
            rw [e2]
            exact ⟨this.1.mono G.le_refl hle2, this.2⟩
    · exact hi.elim
  · exact hi.elim

theorem sound_beq (hr : R n gl G M fr h a w) {o : Oper} {op : BinOp} {t yt : TypeId} {x y : Operand} {neg : Bool} {Q : Exit → Act → World → Prop} {K : V → Hp → Prop} (ho : o.op = .binOp op t x y yt)
    (hop : op = if neg then .neq else .eql) (ht : P.underlying t = some .bool) {id : Nat} (hi : istep P gl id fr h K (.beq neg (co x) (co y))) : o.wp P a w (PurePost K G M w o a h) Q := by
  simp only [istep] at hi
  split at hi
  · rename_i p q hx hy
    have ex := relV_bool_inv (ev_co hr hx)
    have ey := relV_bool_inv (ev_co hr hy)
    refine fin_pure hr ?_ hi (.bool _)
    subst hop
    cases neg
    · have := run_eql_bool (P := P) (w := w) t p q ht
      simp only [execOp, ho, ex, ey, eqGuard, Bool.false_eq_true, if_false]
      simp [this]
    · have := run_neq_bool (P := P) (w := w) t p q ht
      simp only [execOp, ho, ex, ey, eqGuard, if_true]
      simp [this]
      cases p <;> cases q <;> rfl
  · exact hi.elim

theorem sound_un (hr : R n gl G M fr h a w) {o : Oper} {op : UnOp} {t : TypeId} {x : Operand} {Q : Exit → Act → World → Prop} {K : V → Hp → Prop} (ho : o.op = .unOp op t x) {id : Nat}
    (hi : istep P gl id fr h K (.un op (co x))) : o.wp P a w (PurePost K G M w o a h) Q := by
  simp only [istep] at hi
  split at hi
  · rename_i v hv
    have rx := ev_co hr hv
    unfold unW at hi
    split at hi
    · have ex := relV_bool_inv rx
      cases op <;> simp only [] at hi <;> first
        | exact hi.elim
        | exact fin_pure hr (by simp [execOp, ho, ex, Op.unary]) hi (.bool _)
    · have ex := relV_int_inv rx
      cases op <;> simp only [] at hi <;> first
        | exact hi.elim
        | (refine fin_pure hr ?_ hi (.int _ _); simp [execOp, ho, ex, Op.unary, Op.intArith]; done)
        | (refine fin_pure hr ?_ hi (.int _ _); simp [execOp, ho, ex, Op.unary, Op.intBits, bitsI]; done)
    · exact hi.elim
  · exact hi.elim

theorem sound_conv (hr : R n gl G M fr h a w) {o : Oper} {s d : TypeId} {ks k : IntKind} {x : Operand} {Q : Exit → Act → World → Prop} {K : V → Hp → Prop} (ho : o.op = .convert s d x)
    (h1 : P.underlying s = some (.int ks)) (h2 : P.underlying d = some (.int k)) {id : Nat} (hi : istep P gl id fr h K (.conv k (co x))) : o.wp P a w (PurePost K G M w o a h) Q := by
  simp only [istep] at hi
  split at hi
  · rename_i k0 m hv
    have ex := relV_int_inv (ev_co hr hv)
    exact fin_pure hr (by simp [execOp, ho, ex, convert, underlying, h1, h2, Conv.intToInt]) hi (.int _ _)
  · exact hi.elim

theorem sound_convS (hr : R n gl G M fr h a w) {o : Oper} {s d : TypeId} {x : Operand} {Q : Exit → Act → World → Prop} {K : V → Hp → Prop} (ho : o.op = .convert s d x)
    (h1 : P.underlying s = some .string) (h2 : P.underlying d = some .string) {id : Nat} (hi : ∃ l, ev gl fr (co x) = some (.str l) ∧ K (.str l) h) : o.wp P a w (PurePost K G M w o a h) Q := by
  obtain ⟨l, hx, hk⟩ := hi
  have ex := relV_str_inv (ev_co hr hx)
  exact fin_pure hr (by simp [execOp, ho, ex, convert, underlying, h1, h2]) hk (.str _)

theorem sound_fieldA (hr : R n gl G M fr h a w) {o : Oper} {s : TypeId} {x : Operand} {i : Nat} {fields : Array Field} {f : Field} {ty : Bool × Nat × Nat} {Q : Exit → Act → World → Prop} {K : V → Hp → Prop} (ho : o.op = .fieldAddr s x i)
    (h1 : P.underlying s = some (.struct fields)) (h2 : fields[i]? = some f) (h3 : tyOf P f.type = some ty) (h4 : ty.2.1 ≠ 0) {id : Nat} (hi : istep P gl id fr h K (.fieldA f.offset (co x))) : o.wp P a w (PurePost K G M w o a h) Q := by
  obtain ⟨-, hsz, -⟩ := tyOf_spec (P := P) (t := f.type) (ag := ty.1) (n := ty.2.1) (by_ := ty.2.2) (by rw [h3])
  have hrun : ∀ ad : Addr, a.eval x = .pointer (some ad) → (execOp a.eval o).run P w = .ok (.value (.pointer (some (ad.add f.offset)))) w := by
    intro ad he
    simp [execOp, ho, Instr.fieldAt, underlying, h1, h2, he, Instr.sureAddr, fieldPlace, hsz, h4]
  simp only [istep] at hi
  split at hi
  · rename_i y off hv
    have rx := ev_co hr hv
    generalize hev : a.eval x = r at rx
    cases rx with
    | iptr _ _ rb ro cells hG hb hh hoo =>
      refine fin_pure hr (hrun _ hev) hi ?_
      rw [Addr.add_lit, Nat.add_assoc]
      exact .iptr _ _ rb ro cells hG hb hh hoo
  · rename_i b g k off hv
    have rx := ev_co hr hv
    generalize hev : a.eval x = r at rx
    cases rx with
    | ptr _ _ _ _ ad mb hM hg hh =>
      refine fin_pure hr (hrun _ hev) hi ?_
      refine .ptr _ _ _ _ _ mb hM hg fun hgen => ?_
      obtain ⟨rb, q1, rfl⟩ := hh hgen
      exact ⟨rb, q1, by rw [Addr.add_lit, Nat.add_assoc]⟩
  · exact hi.elim

end
end Go.Proofs.YtcdfifbabhfknaaDoor
