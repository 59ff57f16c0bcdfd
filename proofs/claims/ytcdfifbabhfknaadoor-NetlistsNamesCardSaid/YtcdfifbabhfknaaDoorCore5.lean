/- Memory: a new block, a block written anew, a load. No program stands in it. Conditions: none. -/
import Derived.Test.YtcdfifbabhfknaaDoorCore4
namespace Go.Proofs.YtcdfifbabhfknaaDoor
open Go

def upd {α : Type} (M : Nat → Option α) (b : Nat) (x : α) : Nat → Option α := fun k => if k = b then some x else M k

theorem upd_same {α : Type} (M : Nat → Option α) (b : Nat) (x : α) : upd M b x b = some x := by simp [upd]
theorem upd_ne {α : Type} (M : Nat → Option α) {b k : Nat} (x : α) (h : k ≠ b) : upd M b x k = M k := by simp [upd, h]

theorem MMap.le_upd {M : MMap} {b : Nat} {mb' : MB} (h : ∀ mb, M b = some mb → mb.gen < mb'.gen ∨ mb' = mb) : M.le (upd M b mb') := by
  intro k mb hk
  by_cases hkb : k = b
  · subst hkb
    refine ⟨mb', upd_same _ _ _, ?_, ?_⟩
    · rcases h mb hk with h1 | h1
      · omega
      · rw [h1]; exact Nat.le_refl _
    · intro e
      rcases h mb hk with h1 | h1
      · omega
      · exact h1
  · exact ⟨mb, by rw [upd_ne _ _ hkb]; exact hk, Nat.le_refl _, fun _ => rfl⟩

theorem RowRel.mono {G G' : GMap} {M M' : MMap} {w w' : World} {mb : MB} {es : List V} (hG : G.le G') (hM : M.le M') (hw : ∀ rb, mb.real = some rb → w'.heap[rb]? = w.heap[rb]?) (h : RowRel G M w mb es) : RowRel G' M' w' mb es := by
  unfold RowRel at *
  split at h
  · exact h
  · rename_i rb hn
    obtain ⟨arr, ty, h1, h2, h3, h4, h5⟩ := h
    exact ⟨arr, ty, by rw [hw rb hn]; exact h1, h2, h3, h4, fun i j hi hj => ⟨(h5 i j hi hj).1.mono hG hM, (h5 i j hi hj).2⟩⟩

theorem BlkRel.mono {G G' : GMap} {M M' : MMap} {w w' : World} {b : Nat} {k : Blk} (hG : G.le G') (hM : M.le M') (hb : M' b = M b) (hw : ∀ mb rb, M b = some mb → mb.real = some rb → w'.heap[rb]? = w.heap[rb]?)
    (h : BlkRel G M w b k) : BlkRel G' M' w' b k := by
  cases k with
  | row g sz es =>
    obtain ⟨mb, h1, h2, h3, h4⟩ := h
    exact ⟨mb, hb ▸ h1, h2, h3, h4.mono hG hM (fun rb hr => hw mb rb h1 hr)⟩
  | map g es =>
    obtain ⟨mb, rb, h1, h2, h3, h0, entries, clock, h4, h5, h6⟩ := h
    exact ⟨mb, rb, hb ▸ h1, h2, h3, h0, entries, clock, by rw [hw mb rb h1 h3]; exact h4, h5, fun i hi => ⟨(h6 i hi).1.mono hG hM, (h6 i hi).2.mono hG hM⟩⟩
  | siter g s pos =>
    obtain ⟨mb, rb, h1, h2, h3, h0, h4⟩ := h
    exact ⟨mb, rb, hb ▸ h1, h2, h3, h0, by rw [hw mb rb h1 h3]; exact h4⟩

/-- One step of memory: the ideal block b is what it is now, the rest stands. -/
theorem Sim.change {G : GMap} {M : MMap} {h : Hp} {w w' : World} (hs : Sim G M h w) (b : Nat) (mb' : MB) (k' : Blk)
    (hgen : ∀ mb, M b = some mb → mb.gen < mb'.gen ∨ mb' = mb)
    (hreal : ∀ rb, mb'.real = some rb → (w.heap.size ≤ rb ∧ rb < w'.heap.size) ∨ ∃ mb, M b = some mb ∧ mb.real = some rb)
    (hsize : w.heap.size ≤ w'.heap.size) (hkeep : ∀ k, k < w.heap.size → mb'.real ≠ some k → w'.heap[k]? = w.heap[k]?)
    (hkeep' : ∀ mb rb, M b = some mb → mb.real = some rb → True)
    (hos : w'.os = w.os) (htape : w'.tape = w.tape) (hout : w'.output = w.output)
    (hk : BlkRel G (upd M b mb') w' b k') : Sim G (upd M b mb') ((b, k') :: h) w' ∧ Ext G M w G (upd M b mb') w' := by
  have hle : M.le (upd M b mb') := MMap.le_upd hgen
  have hG : ∀ k c, G k = some c → w'.heap[k]? = w.heap[k]? := by
    intro k c hk'
    obtain ⟨ty, fz, he⟩ := hs.gw k c hk'
    have hlt : k < w.heap.size := (Array.getElem?_eq_some_iff.1 he).1
    refine hkeep k hlt fun hc => ?_
    rcases hreal k hc with h1 | ⟨mb, h1, h2⟩
    · omega
    · have := (hs.mlt b mb k h1 h2).2; rw [hk'] at this; cases this
  have hother : ∀ b2 mb rb, b2 ≠ b → M b2 = some mb → mb.real = some rb → w'.heap[rb]? = w.heap[rb]? := by
    intro b2 mb rb hne h1 h2
    refine hkeep rb (hs.mlt b2 mb rb h1 h2).1 fun hc => ?_
    rcases hreal rb hc with h3 | ⟨mb3, h3, h4⟩
    · have := (hs.mlt b2 mb rb h1 h2).1; omega
    · exact hne (hs.inj b2 b mb mb3 rb h1 h3 h2 h4)
  constructor
  · refine ⟨fun k c hk => ?_, fun b2 k2 hk2 => ?_, ?_, ?_⟩
    · obtain ⟨ty, fz, he⟩ := hs.gw k c hk
      exact ⟨ty, fz, by rw [hG k c hk]; exact he⟩
    · by_cases hb : b2 = b
      · subst hb; simp [lk] at hk2; subst hk2; exact hk
      · simp only [lk, if_neg hb] at hk2
        exact (hs.hb b2 k2 hk2).mono G.le_refl hle (upd_ne _ _ hb) (fun mb rb h1 h2 => hother b2 mb rb hb h1 h2)
    · intro b1 b2 m1 m2 rb h1 h2 r1 r2
      by_cases e1 : b1 = b <;> by_cases e2 : b2 = b
      · rw [e1, e2]
      · subst e1; rw [upd_same] at h1; cases h1; rw [upd_ne _ _ e2] at h2
        rcases hreal rb r1 with h3 | ⟨mb3, h3, h4⟩
        · have := (hs.mlt b2 m2 rb h2 r2).1; omega
        · exact hs.inj _ _ _ _ _ h3 h2 h4 r2
      · subst e2; rw [upd_same] at h2; cases h2; rw [upd_ne _ _ e1] at h1
        rcases hreal rb r2 with h3 | ⟨mb3, h3, h4⟩
        · have := (hs.mlt b1 m1 rb h1 r1).1; omega
        · exact hs.inj _ _ _ _ _ h1 h3 r1 h4
      · rw [upd_ne _ _ e1] at h1; rw [upd_ne _ _ e2] at h2; exact hs.inj _ _ _ _ _ h1 h2 r1 r2
    · intro b1 m1 rb h1 r1
      by_cases e1 : b1 = b
      · subst e1; rw [upd_same] at h1; cases h1
        rcases hreal rb r1 with h3 | ⟨mb3, h3, h4⟩
        · refine ⟨h3.2, ?_⟩
          cases hg : G rb with
          | none => rfl
          | some c =>
            obtain ⟨ty, fz, he⟩ := hs.gw rb c hg
            have := (Array.getElem?_eq_some_iff.1 he).1; omega
        · have := hs.mlt _ mb3 rb h3 h4; exact ⟨by omega, this.2⟩
      · rw [upd_ne _ _ e1] at h1; have := hs.mlt _ m1 rb h1 r1; exact ⟨by omega, this.2⟩
  · refine ⟨G.le_refl, fun _ _ h => .inl h, hle, ?_, hos, htape, hout, hsize, ?_⟩
    · rintro k ⟨b1, m1, h1, r1⟩
      by_cases e1 : b1 = b
      · subst e1; rw [upd_same] at h1; cases h1
        rcases hreal k r1 with h3 | ⟨mb3, h3, h4⟩
        · exact .inl h3.1
        · exact .inr ⟨_, mb3, h3, h4⟩
      · rw [upd_ne _ _ e1] at h1; exact .inr ⟨b1, m1, h1, r1⟩
    · intro k hk ho
      refine hkeep k hk fun hc => ?_
      rcases hreal k hc with h3 | ⟨mb3, h3, h4⟩
      · omega
      · exact ho ⟨_, mb3, h3, h4⟩

theorem heap_setRow_ne (w : World) (g k : Nat) (cs : Array Value) (h : k ≠ g) : (w.setRow g cs).heap[k]? = w.heap[k]? := by
  simp only [World.setRow, Array.getElem?_modify]
  rw [if_neg (by omega)]
theorem size_setRow (w : World) (g : Nat) (cs : Array Value) : (w.setRow g cs).heap.size = w.heap.size := by simp [World.setRow]

/-- A new row. -/
theorem Sim.alloc {G : GMap} {M : MMap} {h : Hp} {w : World} (hs : Sim G M h w) (b : Nat) (arr : Array Value) (ty : TypeId) (sz room : Nat) (es : List V)
    (h1 : room * sz ≤ arr.size) (h2 : es.length ≤ room) (h3 : ∀ i, i < es.length → (es.getD i .undef).cells.length = sz)
    (h4 : ∀ i j, i < es.length → j < sz → RelV G M ((es.getD i .undef).cells.getD j .undef) (arr.getD (i * sz + j) undef) ∧ (arr.getD (i * sz + j) undef).oneCell' = true) :
    Sim G (upd M b ⟨freshGen M b, sz, room, 0, some w.heap.size⟩) ((b, .row (freshGen M b) sz es) :: h) (w.alloc (.cells arr ty)) ∧
    Ext G M w G (upd M b ⟨freshGen M b, sz, room, 0, some w.heap.size⟩) (w.alloc (.cells arr ty)) := by
  have hgen : ∀ mb, M b = some mb → mb.gen < (⟨freshGen M b, sz, room, 0, some w.heap.size⟩ : MB).gen ∨ (⟨freshGen M b, sz, room, 0, some w.heap.size⟩ : MB) = mb := by
    intro mb hb; left; simp [freshGen, hb]
  refine hs.change b _ _ hgen ?_ (by simp) ?_ (fun _ _ _ _ => trivial) rfl rfl rfl ?_
  · intro rb hrb; left; cases hrb; simp
  · intro k hk _
    show (w.heap.push _)[k]? = _
    rw [Array.getElem?_push, if_neg (by omega)]
  · refine ⟨_, upd_same _ _ _, rfl, rfl, ?_⟩
    simp only [RowRel]
    refine ⟨arr, ty, ?_, by simpa using h1, h2, h3, fun i j hi hj => ?_⟩
    · show (w.heap.push _)[_]? = _
      simp
    · have := h4 i j hi hj
      rw [Nat.zero_add]
      exact ⟨this.1.mono G.le_refl (MMap.le_upd hgen), this.2⟩

theorem getD_toArray (l : List Value) (i : Nat) : (l.toArray).getD i undef = l.getD i undef := by
  simp [Array.getD_eq_getD_getElem?, List.getD_eq_getElem?_getD]

/-- The cell that an address in a relation names. -/
theorem cell_of_row {w : World} {k : Nat} {c : Array Value} {ty : TypeId} {fz : Nat × Nat} (h : w.heap[k]? = some (.cells c ty fz)) (o : Nat) (ho : o < c.size) : w.cell? ⟨k, o, none⟩ = some (c.getD o undef) := by
  simp [World.cell?, h, Array.getD_eq_getD_getElem?, ho]

/-- Where a pointer into an element leads: its cells lie there. -/
def Pointee (G : GMap) (M : MMap) (w : World) (x : V) (off : Nat) (r : Value) : Prop :=
  ∃ rb o, r = .pointer (some ⟨rb, o + off, none⟩) ∧ ∀ j, j < x.cells.length → ∃ u, w.cell? ⟨rb, o + j, none⟩ = some u ∧ RelV G M (x.cells.getD j .undef) u ∧ u.oneCell' = true

theorem pointee_iptr {G : GMap} {M : MMap} {h : Hp} {w : World} (hs : Sim G M h w) {x : V} {off : Nat} {r : Value} (hr : RelV G M (.iptr x off) r) : Pointee G M w x off r := by
  cases hr with
  | iptr _ _ rb ro cells hG hb hh ho =>
    obtain ⟨ty, fz, he⟩ := hs.gw rb cells hG
    exact ⟨rb, ro, rfl, fun j hj => ⟨_, cell_of_row he (ro + j) (by omega), hh j hj, ho j hj⟩⟩

/-- What a pointer into an own block is in memory. -/
theorem own_ptr {G : GMap} {M : MMap} {h : Hp} {w : World} (hs : Sim G M h w) {b g i off : Nat} {r : Value} {sz : Nat} {es : List V}
    (hr : RelV G M (.ptr b g i off) r) (hb : lk h b = some (.row g sz es)) (hi : i < es.length) :
    ∃ mb rb arr ty, M b = some mb ∧ mb.gen = g ∧ mb.sz = sz ∧ mb.real = some rb ∧ r = .pointer (some ⟨rb, mb.base + i * sz + off, none⟩) ∧ w.heap[rb]? = some (.cells arr ty (0, 0)) ∧
      mb.base + mb.room * sz ≤ arr.size ∧ es.length ≤ mb.room ∧ (∀ i, i < es.length → (es.getD i .undef).cells.length = sz) ∧
      ∀ i j, i < es.length → j < sz → RelV G M ((es.getD i .undef).cells.getD j .undef) (arr.getD (mb.base + i * sz + j) undef) ∧ (arr.getD (mb.base + i * sz + j) undef).oneCell' = true := by
  obtain ⟨mb, h1, h2, h3, h4⟩ := hs.hb b _ hb
  cases hr with
  | ptr _ _ _ _ ad mb' hM hg hh =>
    rw [h1] at hM; cases hM
    obtain ⟨rb, hr1, rfl⟩ := hh h2.symm
    simp only [RowRel, hr1] at h4
    obtain ⟨arr, ty, q1, q2, q3, q4, q5⟩ := h4
    subst h3
    exact ⟨mb, rb, arr, ty, h1, h2, rfl, hr1, rfl, q1, q2, q3, q4, q5⟩

theorem elem_bound {i sz len room : Nat} (hi : i < len) (hl : len ≤ room) : i * sz + sz ≤ room * sz := by
  have : (i + 1) * sz ≤ room * sz := Nat.mul_le_mul_right _ (by omega)
  rw [Nat.add_mul] at this; omega

theorem pointee_ptr {G : GMap} {M : MMap} {h : Hp} {w : World} (hs : Sim G M h w) {b g i off : Nat} {r : Value} {sz : Nat} {es : List V}
    (hr : RelV G M (.ptr b g i off) r) (hb : lk h b = some (.row g sz es)) (hi : i < es.length) : Pointee G M w (es.getD i .undef) off r := by
  obtain ⟨mb, rb, arr, ty, h1, h2, h3, h4, h5, h6, h7, h8, h9, h10⟩ := own_ptr hs hr hb hi
  refine ⟨rb, mb.base + i * sz, h5, fun j hj => ?_⟩
  rw [h9 i hi] at hj
  have := elem_bound (sz := sz) hi h8
  exact ⟨_, cell_of_row h6 (mb.base + i * sz + j) (by omega), h10 i j hi hj⟩

theorem run_isAgg {P : Program} {w : World} {t : TypeId} {d : TypeDesc} (h : P.underlying t = some d) :
    (isAgg t).run P w = .ok (isAggD d) w := by
  simp only [isAgg, underlying, Sem.run_bind, run_program, Result.andThen_ok, h, Sem.run_pure]
  cases d <;> rfl

theorem tyOf_spec {P : Program} {t : TypeId} {ag : Bool} {n by_ : Nat} (h : tyOf P t = some (ag, n, by_)) :
    (∀ w, (isAgg t).run P w = .ok ag w) ∧ (∀ w, (sizeOf t).run P w = .ok n w) ∧ (∀ w, ∃ i, (typeInfo t).run P w = .ok i w ∧ i.bytes = by_ ∧ i.size = n ∧ P.info? t = some i) := by
  unfold tyOf at h
  split at h
  · rename_i d i hd hi
    simp only [Option.some.injEq, Prod.mk.injEq] at h
    obtain ⟨rfl, rfl, rfl⟩ := h
    refine ⟨fun w => by rw [run_isAgg hd], fun w => by simp [sizeOf, typeInfo, hi], fun w => ⟨i, by simp [typeInfo, hi], rfl, rfl, hi⟩⟩
  · cases h

/-- A load: a part of the element. -/
theorem run_loadVar_part {P : Program} {G : GMap} {M : MMap} {w : World} {t : TypeId} {ag : Bool} {n by_ : Nat} (ht : tyOf P t = some (ag, n, by_)) {x : V} {off : Nat} {r : Value}
    (hp : Pointee G M w x off r) (hv : V.partOk ag off n x) : ∃ rv, (Instr.loadAt t r).run P w = .ok rv w ∧ RelV G M (V.partV ag off n x) rv := by
  obtain ⟨hag, hsz, -⟩ := tyOf_spec ht
  obtain ⟨rb, o, rfl, hc⟩ := hp
  cases ag with
  | true =>
    have hle : off + n ≤ x.cells.length := hv
    have hcell : ∀ j, j < n → w.cell? ((⟨rb, o + off, none⟩ : Addr).add j) = some ((w.cell? ⟨rb, o + (off + j), none⟩).getD undef) := by
      intro j hj
      obtain ⟨u, hu, -⟩ := hc (off + j) (by omega)
      rw [Addr.add_lit, show o + off + j = o + (off + j) from by omega, hu]; rfl
    have hrun := run_loadCells (P := P) w ⟨rb, o + off, none⟩ n (fun j => (w.cell? ⟨rb, o + (off + j), none⟩).getD undef) hcell
    refine ⟨_, by simp only [Instr.loadAt, Instr.sureAddr, loadVar, Sem.run_bind, Sem.run_pure, Result.andThen_ok, hag, hsz, if_true, hrun]; rfl, ?_⟩
    refine .agg _ _ (by simp; omega) (fun i hi => ?_) (fun i hi => ?_)
    all_goals
      have hi' : i < n := by simp at hi; omega
      obtain ⟨u, hu, hru, hou⟩ := hc (off + i) (by omega)
      simp only [getD_toArray, List.getD_eq_getElem?_getD, List.getElem?_map, List.getElem?_range hi', Option.map_some, Option.getD_some, hu]
    · simp only [List.getElem?_take, if_pos hi', List.getElem?_drop]
      rw [List.getD_eq_getElem?_getD] at hru; exact hru
    · exact hou
  | false =>
    have hlt : off < x.cells.length := hv
    obtain ⟨u, hu, hru, hou⟩ := hc off hlt
    exact ⟨u, by simp [Instr.loadAt, Instr.sureAddr, loadVar, hag, hu], hru⟩

end Go.Proofs.YtcdfifbabhfknaaDoor
