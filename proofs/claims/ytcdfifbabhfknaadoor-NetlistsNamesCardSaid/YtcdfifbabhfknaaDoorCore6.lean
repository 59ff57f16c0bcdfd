/- Each ideal operation but the calls stands for the model's: first part. No program stands in it. Conditions: none. -/
import Derived.Test.YtcdfifbabhfknaaDoorCore5
import Derived.Laws.Strings
namespace Go.Proofs.YtcdfifbabhfknaaDoor
open Go

def RelCells (G : GMap) (M : MMap) (l : List V) (arr : Array Value) : Prop :=
  arr.size = l.length ∧ ∀ i, i < l.length → RelV G M (l.getD i .undef) (arr.getD i undef) ∧ (arr.getD i undef).oneCell' = true

def OpPost (h : Hp) (id : Nat) (K : V → Hp → Prop) (G : GMap) (M : MMap) (w : World) (o : Oper) (a : Act) : Act → World → Prop := fun a' w' =>
  ∃ v h' rv G' M', K v h' ∧ a' = a.put o.dst rv ∧ RelV G' M' v rv ∧ Sim G' M' h' w' ∧ Ext G M w G' M' w' ∧ ∀ b, b ≠ id → lk h b = none → freshGen M' b = freshGen M b

/-- What an operation that leaves the world alone leaves behind. -/
def PurePost (K : V → Hp → Prop) (G : GMap) (M : MMap) (w : World) (o : Oper) (a : Act) (h : Hp) : Act → World → Prop := fun a' w' =>
  ∃ v rv, K v h ∧ a' = a.put o.dst rv ∧ RelV G M v rv ∧ w' = w

section
variable {P : Program} {gl : Fr} {n : Nat} {fr : Fr} {h : Hp} {G : GMap} {M : MMap} {a : Act} {w : World}

theorem ev_co (hr : R n gl G M fr h a w) {x : Operand} {v : V} (hx : ev gl fr (co x) = some v) : RelV G M v (a.eval x) := by
  cases x with
  | tmp t => exact hr.frr t v hx
  | const c => simp only [co, ev, Option.some.injEq] at hx; subst hx; exact relV_vOf G M c
  | global g => exact ((hr.gl g v hx).2).mono G.le_refl (fun _ _ h => by cases h)
  | func f =>
    simp only [co, ev, Option.some.injEq] at hx; subst hx
    exact .fn f [] [] #[] #[] rfl rfl (fun i hi => by cases hi) (fun i hi => by cases hi)

theorem evN_co (hr : R n gl G M fr h a w) {x : Operand} {v : V} (hx : evN gl fr (co x) = some v) : RelV G M v (a.eval x) := by
  unfold evN at hx
  cases hv : ev gl fr (co x) with
  | none => rw [hv] at hx; cases hx
  | some u => rw [hv] at hx; cases hx; exact (ev_co hr hv).norm

theorem fin_value {id : Nat} {o : Oper} {Q : Exit → Act → World → Prop} {K : V → Hp → Prop} {rv : Value} {v : V} {w' : World} {h' : Hp} {G' : GMap} {M' : MMap}
    (hrun : (execOp a.eval o).run P w = .ok (.value rv) w') (hK : K v h') (hv : RelV G' M' v rv) (hs : Sim G' M' h' w') (hx : Ext G M w G' M' w') (hf : ∀ b, b ≠ id → lk h b = none → freshGen M' b = freshGen M b) : o.wp P a w (OpPost h id K G M w o a) Q := by
  unfold Oper.wp
  rw [hrun]
  exact ⟨v, h', rv, G', M', hK, rfl, hv, hs, hx, hf⟩

theorem fin_pure (hr : R n gl G M fr h a w) {o : Oper} {Q : Exit → Act → World → Prop} {K : V → Hp → Prop} {rv : Value} {v : V}
    (hrun : (execOp a.eval o).run P w = .ok (.value rv) w) (hK : K v h) (hv : RelV G M v rv) : o.wp P a w (PurePost K G M w o a h) Q := by
  unfold Oper.wp
  rw [hrun]
  exact ⟨v, rv, hK, rfl, hv, rfl⟩

theorem pure_up (hr : R n gl G M fr h a w) {id : Nat} {o : Oper} {Q : Exit → Act → World → Prop} {K : V → Hp → Prop} (hp : o.wp P a w (PurePost K G M w o a h) Q) : o.wp P a w (OpPost h id K G M w o a) Q :=
  Oper.wp_mono (fun _ _ ⟨v, rv, h1, h2, h3, h4⟩ => ⟨v, h, rv, G, M, h1, h2, h3, h4 ▸ hr.sim, h4 ▸ .refl _ _ _, fun _ _ _ => rfl⟩) hp

theorem fin_skip {id : Nat} {o : Oper} {Q : Exit → Act → World → Prop} {K : V → Hp → Prop} {w' : World} {h' : Hp} {G' : GMap} {M' : MMap}
    (hrun : (execOp a.eval o).run P w = .ok .skip w') (hK : K .undef h') (hs : Sim G' M' h' w') (hx : Ext G M w G' M' w') (hf : ∀ b, b ≠ id → lk h b = none → freshGen M' b = freshGen M b) : o.wp P a w (OpPost h id K G M w o a) Q := by
  unfold Oper.wp
  rw [hrun]
  exact ⟨_, h', undef, G', M', hK, rfl, .undef _, hs, hx, hf⟩

theorem relV_int_inv {k : IntKind} {x : Int} {r : Value} (h : RelV G M (.int k x) r) : r = .int k x := by cases h; rfl
theorem relV_bool_inv {b : Bool} {r : Value} (h : RelV G M (.bool b) r) : r = .bool b := by cases h; rfl
theorem relV_str_inv {s : List UInt8} {r : Value} (h : RelV G M (.str s) r) : r = .string ⟨s.toArray⟩ := by cases h; rfl
theorem relV_agg_inv {cs : List V} {r : Value} (h : RelV G M (.agg cs) r) : ∃ arr, r = .agg arr ∧ RelCells G M cs arr := by
  cases h with
  | agg _ arr hs hh ho => exact ⟨arr, rfl, hs, fun i hi => ⟨hh i hi, ho i hi⟩⟩
theorem relV_agg {cs : List V} {arr : Array Value} (h : RelCells G M cs arr) : RelV G M (.agg cs) (.agg arr) := .agg _ _ h.1 (fun i hi => (h.2 i hi).1) (fun i hi => (h.2 i hi).2)

/-- A part of a struct or array held as a value. -/
theorem run_part {t : TypeId} {ag : Bool} {m by_ : Nat} (ht : tyOf P t = some (ag, m, by_)) {cs : List V} {arr : Array Value} (hc : RelCells G M cs arr) {off : Nat}
    (hv : V.partOk ag off m (.agg cs)) : ∃ rv, (part t arr off).run P w = .ok rv w ∧ RelV G M (V.partV ag off m (.agg cs)) rv := by
  obtain ⟨hag, hsz, -⟩ := tyOf_spec ht
  cases ag with
  | true =>
    have hle : off + m ≤ cs.length := hv
    refine ⟨.agg (arr.extract off (off + m)), by simp [part, hag, hsz], relV_agg ⟨by simp [hc.1, V.cells]; omega, fun i hi => ?_⟩⟩
    have hi' : i < m := by simp at hi; omega
    have := hc.2 (off + i) (by omega)
    have e1 : (arr.extract off (off + m)).getD i undef = arr.getD (off + i) undef := by
      simp only [Array.getD_eq_getD_getElem?, Array.getElem?_extract]
      rw [if_pos (by have := hc.1; omega)]
    have e2 : (((V.agg cs).cells.drop off).take m).getD i .undef = cs.getD (off + i) .undef := by
      simp only [V.cells, List.getD_eq_getElem?_getD, List.getElem?_take, if_pos hi', List.getElem?_drop]
    rw [e1, e2]; exact this
  | false =>
    have hlt : off < cs.length := hv
    have := hc.2 off hlt
    have hlt' : off < arr.size := by have := hc.1; omega
    refine ⟨arr.getD off undef, ?_, this.1⟩
    simp [part, hag, hlt', Array.getD_eq_getD_getElem?]

theorem sound_mv (hr : R n gl G M fr h a w) {o : Oper} {x : Operand} {Q : Exit → Act → World → Prop} {K : V → Hp → Prop} (ho : o.op = .move x ∨ o.op = .assign x) {id : Nat}
    (hi : istep P gl id fr h K (.mv (co x))) : o.wp P a w (PurePost K G M w o a h) Q := by
  simp only [istep] at hi
  split at hi
  · rename_i v hv
    refine fin_pure hr (rv := a.eval x) ?_ hi (ev_co hr hv)
    rcases ho with ho | ho <;> simp [execOp, ho]
  · exact hi.elim

theorem sound_pick (hr : R n gl G M fr h a w) {o : Oper} {c x y : Operand} {Q : Exit → Act → World → Prop} {K : V → Hp → Prop} (ho : o.op = .pick c x y) {id : Nat}
    (hi : istep P gl id fr h K (.pick (co c) (co x) (co y))) : o.wp P a w (PurePost K G M w o a h) Q := by
  simp only [istep] at hi
  split at hi
  · rename_i t ht
    have hc := relV_bool_inv (ev_co hr ht)
    cases t with
    | true =>
      have h1 := hi.1 rfl
      split at h1
      · rename_i v hv
        exact fin_pure hr (rv := a.eval x) (by simp [execOp, ho, hc, asBool]) h1 (ev_co hr hv)
      · exact h1.elim
    | false =>
      have h1 := hi.2 rfl
      split at h1
      · rename_i v hv
        exact fin_pure hr (rv := a.eval y) (by simp [execOp, ho, hc, asBool]) h1 (ev_co hr hv)
      · exact h1.elim
  · exact hi.elim

/-- What an operation leaves that makes one block, or none, and leaves all else as it was. -/
def QPost (G : GMap) (M : MMap) (w : World) (dst : Option Nat) (a : Act) (id : Nat) (v : V) (b : Option Blk) : Act → World → Prop := fun a' w' =>
  ∃ rv G' M', a' = a.put dst rv ∧ RelV G' M' v rv ∧ (∀ h, Sim G M h w → Sim G' M' (match b with | some k => (id, k) :: h | none => h) w') ∧ Ext G M w G' M' w' ∧ ∀ i, i ≠ id ∨ b = none → freshGen M' i = freshGen M i

theorem freshGen_upd (M : MMap) (b i : Nat) (mb : MB) (h : i ≠ b) : freshGen (upd M b mb) i = freshGen M i := by
  simp [freshGen, upd_ne _ _ h]

theorem fin_q {o : Oper} {Q : Exit → Act → World → Prop} {rv : Value} {v : V} {w' : World} {G' : GMap} {M' : MMap} {id : Nat} {b : Option Blk}
    (hrun : (execOp a.eval o).run P w = .ok (.value rv) w') (hv : RelV G' M' v rv) (hs : ∀ h, Sim G M h w → Sim G' M' (match b with | some k => (id, k) :: h | none => h) w') (hx : Ext G M w G' M' w')
    (hf : ∀ i, i ≠ id ∨ b = none → freshGen M' i = freshGen M i) : o.wp P a w (QPost G M w o.dst a id v b) Q := by
  unfold Oper.wp
  rw [hrun]
  exact ⟨rv, G', M', rfl, hv, hs, hx, hf⟩

theorem q_up (hr : R n gl G M fr h a w) {o : Oper} {Q : Exit → Act → World → Prop} {K : V → Hp → Prop} {id : Nat} {v : V} {k : Blk} (hp : o.wp P a w (QPost G M w o.dst a id v (some k)) Q) (hK : K v ((id, k) :: h)) : o.wp P a w (OpPost h id K G M w o a) Q :=
  Oper.wp_mono (fun _ _ ⟨rv, G', M', h1, h2, h3, h4, h5⟩ => ⟨v, _, rv, G', M', hK, h1, h2, h3 h hr.sim, h4, fun b hb _ => h5 b (.inl hb)⟩) hp

theorem relCells_getD1 {x : V} {r : Value} (hx : RelV G M x r) (hc : x.cellsOk = true) : r.cells.size = x.cells.length ∧
    ∀ i j, i < 1 → j < x.cells.length → RelV G M (([x].getD i .undef).cells.getD j .undef) (r.cells.getD (i * x.cells.length + j) undef) ∧ (r.cells.getD (i * x.cells.length + j) undef).oneCell' = true := by
  obtain ⟨h1, h2⟩ := hx.cells hc
  refine ⟨h1, fun i j hi hj => ?_⟩
  obtain rfl : i = 0 := by omega
  rw [Nat.zero_mul, Nat.zero_add]; exact h2 j hj

/-- A new one-element block that holds x. -/
theorem q_new {o : Oper} {t : TypeId} {x : V} {r : Value} (hs : Sim G M h w) (hx : RelV G M x r) (hc : x.cellsOk = true) (id : Nat)
    (hrun : ∀ ad w', (newVar t r).run P w = .ok ad w' → (execOp a.eval o).run P w = .ok (.value (.pointer (some ad))) w') {Q : Exit → Act → World → Prop} :
    o.wp P a w (QPost G M w o.dst a id (.ptr id (freshGen M id) 0 0) (some (.row (freshGen M id) x.cells.length [x]))) Q := by
  obtain ⟨h1, h2⟩ := relCells_getD1 hx hc
  have al : ∀ h, Sim G M h w → _ := fun h (hs : Sim G M h w) => hs.alloc id r.cells t x.cells.length 1 [x] (by omega) (by simp) (by simp) (by simpa using h2)
  refine fin_q (hrun ⟨w.heap.size, 0, none⟩ (w.alloc (.cells r.cells t)) (by simp [newVar, newRow])) ?_ (fun h hs => (al h hs).1) (al h hs).2 (fun i hi => freshGen_upd _ _ _ _ (by rcases hi with hi | hi <;> first | exact hi | cases hi))
  exact .ptr _ _ _ _ _ _ (upd_same _ _ _) (Nat.le_refl _) fun _ => ⟨w.heap.size, rfl, by simp⟩

theorem q_box (hr : R n gl G M fr h a w) {o : Oper} {t : TypeId} {x : Operand} {Q : Exit → Act → World → Prop} (ho : o.op = .box t x) {id : Nat} {v : V} (hv : ev gl fr (co x) = some v) (hc : v.cellsOk = true) :
    o.wp P a w (QPost G M w o.dst a id (.ptr id (freshGen M id) 0 0) (some (.row (freshGen M id) v.cells.length [v]))) Q :=
  q_new (t := t) hr.sim (ev_co hr hv) hc id (fun ad w' hn => by simp [execOp, ho, Instr.box, hn])

theorem sound_box (hr : R n gl G M fr h a w) {o : Oper} {t : TypeId} {x : Operand} {Q : Exit → Act → World → Prop} {K : V → Hp → Prop} (ho : o.op = .box t x) {id : Nat}
    (hi : istep P gl id fr h K (.box (co x))) : o.wp P a w (OpPost h id K G M w o a) Q := by
  simp only [istep] at hi
  split at hi
  · rename_i v hv
    exact q_up hr (q_box hr ho hv hi.1) (hi.2 _)
  · exact hi.elim

theorem vOfZL_eq (l : List Value) : vOfZL l = l.map vOf := by
  induction l with
  | nil => rfl
  | cons a r ih => simp [vOfZL, ih]

theorem vOf_cells (z : Value) : (vOf z).cells = [vOf z] := by
  unfold vOf; split <;> rfl

theorem vOfZ_not_agg {z : Value} (hz : ∀ arr, z ≠ .agg arr) : vOfZ z = vOf z := by
  cases z <;> first
    | rfl
    | exact absurd rfl (hz _)

theorem vOfZ_cells (z : Value) : (vOfZ z).cells = z.cells.toList.map vOf := by
  by_cases ha : ∃ arr, z = .agg arr
  · obtain ⟨arr, rfl⟩ := ha
    simp [vOfZ, V.cells, Value.cells, vOfZL_eq]
  · rw [vOfZ_not_agg (fun arr e => ha ⟨arr, e⟩), vOf_cells]
    have : z.cells = #[z] := by cases z <;> first | rfl | exact absurd ⟨_, rfl⟩ ha
    rw [this]; rfl

theorem relV_vOfZ (G : GMap) (M : MMap) {z : Value} (hz : z.cells.all (·.oneCell') = true) : RelV G M (vOfZ z) z := by
  by_cases ha : ∃ arr, z = .agg arr
  · obtain ⟨arr, rfl⟩ := ha
    simp only [vOfZ, vOfZL_eq]
    refine relV_agg ⟨by simp, fun i hi => ?_⟩
    have hi' : i < arr.size := by simpa using hi
    have e1 : (arr.toList.map vOf).getD i .undef = vOf (arr.getD i undef) := by
      simp [List.getD_eq_getElem?_getD, Array.getD_eq_getD_getElem?, hi']
    rw [e1]
    refine ⟨relV_vOf _ _ _, ?_⟩
    simp only [Value.cells, Array.all_eq_true] at hz
    simpa [Array.getD_eq_getD_getElem?, hi'] using hz i hi'
  · rw [vOfZ_not_agg (fun arr e => ha ⟨arr, e⟩)]; exact relV_vOf _ _ _

theorem zeroOf_spec {t : TypeId} {z : Value} (hz : zeroOf P t = some z) : (∀ w, (zeroValue t).run P w = .ok z w) ∧ z.cells.all (·.oneCell') = true ∧ (∃ i, P.info? t = some i ∧ z.cells.size = i.size) := by
  unfold zeroOf at hz
  split at hz
  · rename_i i hi
    split at hz
    · rename_i z' hz'
      split at hz
      · rename_i hc
        cases hz
        simp only [Bool.and_eq_true, beq_iff_eq] at hc
        exact ⟨fun w => by simp [zeroValue, typeInfo, hi, hz'], hc.1, i, hi, hc.2⟩
      · cases hz
    · cases hz
  · cases hz

theorem q_alloc (hr : R n gl G M fr h a w) {o : Oper} {t : TypeId} {z : Value} {Q : Exit → Act → World → Prop} (ho : o.op = .alloc t) (hz : zeroOf P t = some z) {id : Nat} (hc : (vOfZ z).cellsOk = true) :
    o.wp P a w (QPost G M w o.dst a id (.ptr id (freshGen M id) 0 0) (some (.row (freshGen M id) (vOfZ z).cells.length [vOfZ z]))) Q := by
  obtain ⟨h1, h2, -⟩ := zeroOf_spec hz
  exact q_new (t := t) hr.sim (relV_vOfZ G M h2) hc id (fun ad w' hn => by simp [execOp, ho, Instr.alloc, h1, hn])

theorem sound_alloc (hr : R n gl G M fr h a w) {o : Oper} {t : TypeId} {z : Value} {Q : Exit → Act → World → Prop} {K : V → Hp → Prop} (ho : o.op = .alloc t) (hz : zeroOf P t = some z) {id : Nat}
    (hi : istep P gl id fr h K (.alloc (vOfZ z))) : o.wp P a w (OpPost h id K G M w o a) Q :=
  q_up hr (q_alloc hr ho hz hi.1) (hi.2 _)

theorem sound_load (hr : R n gl G M fr h a w) {o : Oper} {t : TypeId} {x : Operand} {ty : Bool × Nat × Nat} {Q : Exit → Act → World → Prop} {K : V → Hp → Prop} (ho : o.op = .load t x) (ht : tyOf P t = some ty) {id : Nat}
    (hi : istep P gl id fr h K (.load ty.1 ty.2.1 (co x))) : o.wp P a w (PurePost K G M w o a h) Q := by
  simp only [istep] at hi
  split at hi
  · rename_i y off hy
    obtain ⟨rv, h1, h2⟩ := run_loadVar_part (by rw [ht]) (pointee_iptr hr.sim (ev_co hr hy)) hi.1
    exact fin_pure hr (by simp [execOp, ho, h1]) hi.2 h2
  · rename_i b g i off hy
    split at hi
    · rename_i g' sz es hb
      obtain ⟨rfl, hlt, hv, hi⟩ := hi
      obtain ⟨rv, h1, h2⟩ := run_loadVar_part (by rw [ht]) (pointee_ptr hr.sim (ev_co hr hy) hb hlt) hv
      exact fin_pure hr (by simp [execOp, ho, h1]) hi h2
    · exact hi.elim
  · exact hi.elim

theorem sound_bin (hr : R n gl G M fr h a w) {o : Oper} {op : BinOp} {t yt : TypeId} {x y : Operand} {Q : Exit → Act → World → Prop} {K : V → Hp → Prop} (ho : o.op = .binOp op t x y yt) {id : Nat}
    (hi : istep P gl id fr h K (.bin op (co x) (co y))) : o.wp P a w (PurePost K G M w o a h) Q := by
  simp only [istep] at hi
  split at hi
  · rename_i va vb hx hy
    have rx := ev_co hr hx
    have ry := ev_co hr hy
    unfold binW at hi
    split at hi
    · rename_i k p k' q
      have ex := relV_int_inv rx
      have ey := relV_int_inv ry
      cases op <;> simp only [] at hi <;> first
        | exact hi.elim
        | (obtain ⟨rfl, hi⟩ := hi
           refine fin_pure hr ?_ hi (.int _ _)
           simp [execOp, ho, ex, ey, binOp, Op.intArith, eqGuard]
           done)
        | (obtain ⟨rfl, hi⟩ := hi
           refine fin_pure hr ?_ hi (.bool _)
           simp [execOp, ho, ex, ey, binOp, Op.intCmp, eqGuard]
           try (first | rfl | (rw [Bool.eq_iff_iff]; simp))
           done)
        | (obtain ⟨rfl, hi⟩ := hi
           refine fin_pure hr ?_ hi (.int _ _)
           simp [execOp, ho, ex, ey, binOp, Op.intBits, eqGuard, bitsI]
           done)
        | (obtain ⟨rfl, hne, hi⟩ := hi
           refine fin_pure hr ?_ hi (.int _ _)
           simp [execOp, ho, ex, ey, binOp, Op.intDiv, eqGuard, hne]
           done)
        | (obtain ⟨hne, hi⟩ := hi
           refine fin_pure hr ?_ hi (.int _ _)
           simp [execOp, ho, ex, ey, binOp, Op.shift, eqGuard]
           omega)
    · rename_i p q
      have ex := relV_str_inv rx
      have ey := relV_str_inv ry
      cases op <;> simp only [] at hi <;> first
        | exact hi.elim
        | skip
      · obtain ⟨hlen, hi⟩ := hi
        refine fin_pure hr (rv := .string ⟨(p ++ q).toArray⟩) ?_ hi (.str _)
        simp only [execOp, ho, ex, ey, binOp, Op.stringOp, eqGuard]
        have hsz : ¬ (((⟨p.toArray⟩ : ByteArray).size + (⟨q.toArray⟩ : ByteArray).size : Nat) : Int) > IntKind.i64.max := by
          simp only [ByteArray.size, List.size_toArray]
          have : IntKind.i64.max = 9223372036854775807 := by decide
          rw [this]; omega
        have hap : (⟨p.toArray⟩ : ByteArray) ++ (⟨q.toArray⟩ : ByteArray) = ⟨(p ++ q).toArray⟩ := by
          apply ByteArray.ext; simp
        rw [if_neg hsz, hap]
        simp
      all_goals
        refine fin_pure hr ?_ hi (.bool _)
        simp [execOp, ho, ex, ey, binOp, Op.stringOp, eqGuard, ByteArray.toList_mk]
        try (rw [Bool.eq_iff_iff]; simp [ByteArray.toList_mk])
    · exact hi.elim
  · exact hi.elim
end

end Go.Proofs.YtcdfifbabhfknaaDoor
