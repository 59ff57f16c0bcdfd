/- Each ideal operation but the calls stands for the model's: seventh part: append, copy, equality of structs, bytes to a string. No program stands in it. Conditions: none. -/
import Derived.Test.YtcdfifbabhfknaaDoorCore11
namespace Go.Proofs.YtcdfifbabhfknaaDoor
open Go

section
variable {P : Program} {gl : Fr} {n : Nat} {fr : Fr} {h : Hp} {G : GMap} {M : MMap} {a : Act} {w : World}

theorem flat_of_row {k : Nat} {arr : Array Value} {ty : TypeId} {fz : Nat × Nat} (he : w.heap[k]? = some (.cells arr ty fz)) (o sz : Nat) {ys : List V} (hb : o + ys.length * sz ≤ arr.size)
    (hy : ∀ i, i < ys.length → (ys.getD i .undef).cells.length = sz) (hr : ∀ i j, i < ys.length → j < sz → RelV G M ((ys.getD i .undef).cells.getD j .undef) (arr.getD (o + i * sz + j) undef) ∧ (arr.getD (o + i * sz + j) undef).oneCell' = true) :
    FlatRel G M sz ys ((arr.toList.drop o).take (ys.length * sz)) ∧ ∀ w' : World, w'.heap = w.heap → ∀ len cap, len = ys.length → (Builtin.firstCells sz ys.length (.slice (some ⟨k, o, none⟩) len cap)).run P w' = .ok ((arr.toList.drop o).take (ys.length * sz)).toArray w' := by
  have hlen : ((arr.toList.drop o).take (ys.length * sz)).length = ys.length * sz := by simp; omega
  have hget : ∀ q, q < ys.length * sz → ((arr.toList.drop o).take (ys.length * sz)).getD q undef = arr.getD (o + q) undef := by
    intro q hq
    simp [List.getD_eq_getElem?_getD, List.getElem?_take, hq, Array.getD_eq_getD_getElem?]
  refine ⟨⟨hlen, fun i hi => ⟨hy i hi, fun j hj => ?_⟩⟩, fun w' hw' len cap _ => ?_⟩
  · have heb := elem_bound (sz := sz) hi (Nat.le_refl ys.length)
    rw [hget _ (by omega), ← Nat.add_assoc]
    exact hr i j hi hj
  · simp only [Builtin.firstCells]
    have hcell : ∀ j v, ((arr.toList.drop o).take (ys.length * sz))[j]? = some v → w'.cell? ((⟨k, o, none⟩ : Addr).add j) = some v := by
      intro j v hv
      have hj : j < ys.length * sz := by rw [← hlen]; exact (List.getElem?_eq_some_iff.1 hv).1
      have := hget j hj
      rw [List.getD_eq_getElem?_getD, hv] at this
      rw [Addr.add_lit, cell_of_row (w := w') (by rw [hw']; exact he) (o + j) (by omega), ← this]
      rfl
    have := run_loadCells_list (P := P) w' ⟨k, o, none⟩ _ hcell
    rw [hlen] at this
    exact this

theorem elemsW_spec (hs : Sim G M h w) {sz : Nat} {K : List V → Prop} {vy : V} {ry : Value} (he : elemsW h sz K vy) (hy : RelV G M vy ry) :
    ∃ ys ra rcap cells, K ys ∧ ry = .slice ra ys.length rcap ∧ FlatRel G M sz ys cells ∧ ∀ w' : World, w'.heap = w.heap → (Builtin.firstCells sz ys.length ry).run P w' = .ok cells.toArray w' := by
  unfold elemsW at he
  split at he
  · rename_i xs cap
    obtain ⟨hall, hk⟩ := he
    cases hy with
    | slnil _ base rcap hc hb =>
      refine ⟨[], base, rcap, [], hk, rfl, .nil _, fun w' _ => ?_⟩
      cases base <;> simp [Builtin.firstCells, loadCells, loadCellsFrom]
    | sl _ _ rb ro rcap sz' cells hne hG hsz hb hl hc hh ho =>
      have hpos : 0 < xs.length := by cases xs with
        | nil => exact absurd rfl hne
        | cons => simp
      have e1 : sz' = sz := by
        rw [← hsz 0 hpos]
        refine hall _ ?_
        rw [List.getD_eq_getElem?_getD, List.getElem?_eq_getElem hpos]
        exact List.getElem_mem _
      subst e1
      obtain ⟨ty, fz, hhe⟩ := hs.gw rb cells hG
      obtain ⟨f1, f2⟩ := flat_of_row (P := P) hhe ro sz' hb hsz (fun i j hi hj => ⟨hh i j hi hj, ho i j hi hj⟩)
      exact ⟨xs, _, rcap, _, hk, rfl, f1, fun w' hw' => f2 w' hw' _ _ rfl⟩
  · rename_i b g off len cap
    split at he
    · rename_i g' sz' es hb
      obtain ⟨rfl, rfl, hle, hk⟩ := he
      obtain ⟨mb0, q1, q2, q3, q4⟩ := hs.hb b _ hb
      subst q3
      have hlen : ((es.drop off).take len).length = len := by simp; omega
      cases hy with
      | ref _ _ _ _ _ ra rcap mb hM hg hl hcc hh =>
        rw [q1] at hM; cases hM
        have hre := hh q2.symm
        by_cases h0 : len = 0
        · subst h0
          have e0 : (es.drop off).take 0 = [] := by simp
          refine ⟨[], ra, rcap, [], by rw [e0] at hk; exact hk, rfl, .nil _, fun w' _ => ?_⟩
          cases ra <;> simp [Builtin.firstCells, loadCells, loadCellsFrom]
        · cases hreal : mb0.real with
          | none => simp only [RefReal, hreal] at hre; omega
          | some rb =>
            simp only [RefReal, hreal] at hre
            simp only [RowRel, hreal] at q4
            rcases hre with ⟨rfl, hroom⟩ | ⟨q, q'⟩
            · obtain ⟨arr, ty, r1, r2, r3, r4, r5⟩ := q4
              have hget : ∀ i, i < len → ((es.drop off).take len).getD i .undef = es.getD (off + i) .undef := by
                intro i hi
                simp only [List.getD_eq_getElem?_getD, List.getElem?_take, if_pos hi, List.getElem?_drop]
              have hbnd : mb0.base + off * mb0.sz + ((es.drop off).take len).length * mb0.sz ≤ arr.size := by
                rw [hlen]
                have h1 : off * mb0.sz + len * mb0.sz = (off + len) * mb0.sz := by rw [Nat.add_mul]
                have h2 : (off + len) * mb0.sz ≤ mb0.room * mb0.sz := Nat.mul_le_mul_right _ (by omega)
                omega
              obtain ⟨f1, f2⟩ := flat_of_row (P := P) (ys := (es.drop off).take len) r1 (mb0.base + off * mb0.sz) mb0.sz hbnd (fun i hi => by rw [hlen] at hi; rw [hget i hi]; exact r4 _ (by omega)) (fun i j hi hj => by
                rw [hlen] at hi; rw [hget i hi]
                have := r5 (off + i) j (by omega) hj
                rw [Nat.add_mul, ← Nat.add_assoc] at this; exact this)
              exact ⟨_, some ⟨rb, mb0.base + off * mb0.sz, none⟩, rcap, _, hk, by rw [hlen], f1, fun w' hw' => f2 w' hw' len rcap hlen.symm⟩
            · exact absurd q h0
    · exact he.elim
  · exact he.elim

theorem zeroCells_size (zero : Array Value) (m : Nat) : (Builtin.zeroCells zero m).size = m * zero.size := by simp [Builtin.zeroCells]

/-- An append that must make a new row. -/
theorem run_append_grow {s t2 tt e : TypeId} {z : Value} {ty : Bool × Nat × Nat} {i0 : TypeInfo} (h1 : P.underlying s = some (.slice e)) (h1' : ∃ e2, P.underlying t2 = some (.slice e2)) (hsz : ∀ w, (sizeOf e).run P w = .ok ty.2.1 w) (hz : ∀ w, (zeroValue e).run P w = .ok z w)
    (hi : P.info? e = some i0) (hib : i0.bytes = ty.2.2) {ra rb : Option Addr} {l cap m cy : Nat} {old new : List Value} (hc : cap < l + m) (hby : ty.2.2 ≤ 256) (hlen : l + m ≤ 274877906944)
    (hold : ∀ w', w'.heap = w.heap → (Builtin.firstCells ty.2.1 l (.slice ra l cap)).run P w' = .ok old.toArray w') (hnew : ∀ w', w'.heap = w.heap → (Builtin.firstCells ty.2.1 m (.slice rb m cy)).run P w' = .ok new.toArray w') :
    ∃ nc, l + m ≤ nc ∧ (Builtin.append_ #[s, t2] tt #[.slice ra l cap, .slice rb m cy]).run P w = .ok (.slice (some ⟨w.heap.size, 0, none⟩) (l + m) nc)
      ({ w with drawn := w.drawn + 1 }.alloc (.cells (old ++ (new ++ (Builtin.zeroCells z.cells (nc - (l + m))).toList)).toArray e)) := by
  obtain ⟨e2, h1'⟩ := h1'
  refine ⟨(Question.appendCap (l + m) cap e).cut (w.tape w.drawn (.appendCap (l + m) cap e)), by simp [Question.cut], ?_⟩
  have hg : Builtin.nextslicecap (l + m) cap * i0.bytes ≤ 281474976710656 := growslice_fits hc (by
    rw [hib]
    have : (l + m) * ty.2.2 ≤ 274877906944 * 256 := Nat.mul_le_mul hlen hby
    omega)
  have hng : ¬ Builtin.nextslicecap (l + m) cap * i0.bytes > 2 ^ 48 := by omega
  have hn1 : ¬ l + m ≤ cap := by omega
  have hfc : (Question.appendCap (l + m) cap e).forced = false := rfl
  have ho := hold { w with drawn := w.drawn + 1 } rfl
  have hn := hnew { w with drawn := w.drawn + 1 } rfl
  simp only [Builtin.append_, List.getElem?_toArray, List.getElem?_cons_zero, List.getElem?_cons_succ, Sem.run_bind, underlying, run_program, Result.andThen_ok, h1, h1', Sem.run_pure, hsz, Builtin.lenOf, Bool.false_eq_true, if_false, Bool.not_false, if_true, if_neg hn1, typeInfo, hi, Sem.run_ite, if_neg hng, run_choose, hfc, run_askRoom, ho, hn, hz, newRow, run_newObj]
  have hmax : IntKind.i64.max = 9223372036854775807 := by decide
  rw [if_neg (by rw [hmax]; omega)]
  have harr : old.toArray ++ new.toArray ++ Builtin.zeroCells z.cells ((Question.appendCap (l + m) cap e).cut (w.tape w.drawn (Question.appendCap (l + m) cap e)) - (l + m)) =
      (old ++ (new ++ (Builtin.zeroCells z.cells ((Question.appendCap (l + m) cap e).cut (w.tape w.drawn (Question.appendCap (l + m) cap e)) - (l + m))).toList)).toArray := by
    apply Array.ext'; simp
  rw [harr]
  rfl

/-- An append that fits. -/
theorem run_append_fits {s t2 tt e e2 : TypeId} {sz : Nat} (h1 : P.underlying s = some (.slice e)) (h1' : P.underlying t2 = some (.slice e2)) (hsz : ∀ w, (sizeOf e).run P w = .ok sz w)
    {ra rb : Option Addr} {l cap m cy : Nat} {new : List Value} {w' : World} (hfit : l + m ≤ cap) (hnew : (Builtin.firstCells sz m (.slice rb m cy)).run P w = .ok new.toArray w)
    (hst : (ra = none ∧ w' = w) ∨ ∃ ad, ra = some ad ∧ (storeCells (ad.add (l * sz)) new).run P w = .ok () w') :
    (Builtin.append_ #[s, t2] tt #[.slice ra l cap, .slice rb m cy]).run P w = .ok (.slice ra (l + m) cap) w' := by
  simp only [Builtin.append_, List.getElem?_toArray, List.getElem?_cons_zero, List.getElem?_cons_succ, Sem.run_bind, underlying, run_program, Result.andThen_ok, h1, h1', Sem.run_pure, hsz, Builtin.lenOf, Bool.false_eq_true, if_false, Bool.not_false, if_true, if_pos hfit, hnew]
  rcases hst with ⟨rfl, rfl⟩ | ⟨ad, rfl, hst⟩
  · simp
  · simp [hst]

theorem Sim.drawn (hs : Sim G M h w) : Sim G M h { w with drawn := w.drawn + 1 } :=
  ⟨hs.gw, fun b k hk => by
    have := hs.hb b k hk
    cases k <;> exact this, hs.inj, hs.mlt⟩

theorem Ext.drawn : Ext G M w G M { w with drawn := w.drawn + 1 } :=
  ⟨G.le_refl, fun _ _ h => .inl h, M.le_refl, fun _ h => .inr h, rfl, rfl, rfl, Nat.le_refl _, fun _ _ _ => rfl⟩

theorem ref_inv {b g off len : Nat} {cap : Option Nat} {r : Value} (h : RelV G M (.ref b g off len cap) r) : ∃ ra rcap mb, r = .slice ra len rcap ∧ M b = some mb ∧ g ≤ mb.gen ∧ len ≤ rcap ∧ (∀ c, cap = some c → rcap = c) ∧ (g = mb.gen → RefReal mb off len ra rcap) := by
  cases h with
  | ref _ _ _ _ _ ra rcap mb hM hg hl hc hh => exact ⟨ra, rcap, mb, rfl, hM, hg, hl, hc, hh⟩

/-- An append whose new generations are known. -/
def appG (gl fr : Fr) (h : Hp) (id : Nat) (fg : Nat → Nat) (sz bytes : Nat) (z : List V) (x y : IOpd) (K : V → Hp → Prop) : Prop :=
  match evN gl fr x, evN gl fr y with
    | some (.sl xs cap), some vy => elemsW h sz (fun ys => (∀ x ∈ xs, x.cells.length = sz) ∧ cap = some xs.length ∧ bytes ≤ 256 ∧ z.length = sz ∧ xs.length + ys.length ≤ 274877906944 ∧
          (ys = [] → K (.sl xs cap) h) ∧ (ys ≠ [] → K (.ref id (fg id) 0 (xs.length + ys.length) none) ((id, .row (fg id) sz (xs ++ ys)) :: h))) vy
    | some (.ref b g off len _), some vy => match lk h b with
      | some (.row g' sz' es) => elemsW h sz (fun ys => g' = g ∧ sz' = sz ∧ off + len = es.length ∧ bytes ≤ 256 ∧ z.length = sz ∧ len + ys.length ≤ 274877906944 ∧
          K (.ref b (fg b) 0 (len + ys.length) none) ((b, .row (fg b) sz (es.drop off ++ ys)) :: h)) vy
      | _ => False
    | _, _ => False

theorem sound_appG (hr : R n gl G M fr h a w) {o : Oper} {c : Call} {t t2 e e2 : TypeId} {x y : Operand} {z : Value} {ty : Bool × Nat × Nat} {Q : Exit → Act → World → Prop} {K : V → Hp → Prop} (ho : o.op = .call c) (hc : c.callee = .builtin .append)
    (ha : c.args.toList = [x, y]) (hat : c.argTypes.toList = [t, t2]) (h1 : P.underlying t = some (.slice e)) (h1' : P.underlying t2 = some (.slice e2)) (h2 : tyOf P e = some ty) (hz : zeroOf P e = some z) (hn0 : ty.2.1 ≠ 0) {id : Nat}
    (hi : appG gl fr h id (freshGen M) ty.2.1 ty.2.2 (vOfZ z).cells (co x) (co y) K) : o.wp P a w (OpPost h id K G M w o a) Q := by
  obtain ⟨-, hsz, hti⟩ := tyOf_spec (P := P) (t := e) (ag := ty.1) (n := ty.2.1) (by_ := ty.2.2) (by rw [h2])
  obtain ⟨z1, z2, i0, z3, z4⟩ := zeroOf_spec hz
  obtain ⟨i1, hi1, hib, hisz, hinfo⟩ := hti w
  rw [z3] at hinfo; cases hinfo
  have hzsz : z.cells.size = ty.2.1 := by rw [z4, hisz]
  have ha' := arr_two ha
  have hat' := arr_two hat
  have hexec : ∀ {rx ry : Value} {r : Result Value}, a.eval x = rx → a.eval y = ry → (Builtin.append_ #[t, t2] o.type #[rx, ry]).run P w = r → (∀ v w', r = .ok v w' → (execOp a.eval o).run P w = .ok (.value v) w') := by
    intro rx ry r ex ey hrun v w' hv
    subst hv
    simp [execOp, ho, resolve, hc, invoke, builtin, ha', hat', ex, ey, hrun]
  -- an append that must make a new row, whatever block it is for
  have grow : ∀ (b : Nat) {ra rb : Option Addr} {cap cy : Nat} {xs ys : List V} {old new : List Value}, a.eval x = .slice ra xs.length cap → a.eval y = .slice rb ys.length cy → cap < xs.length + ys.length → ty.2.2 ≤ 256 → xs.length + ys.length ≤ 274877906944 →
      FlatRel G M ty.2.1 xs old → FlatRel G M ty.2.1 ys new → (∀ w' : World, w'.heap = w.heap → (Builtin.firstCells ty.2.1 xs.length (.slice ra xs.length cap)).run P w' = .ok old.toArray w') → (∀ w' : World, w'.heap = w.heap → (Builtin.firstCells ty.2.1 ys.length (.slice rb ys.length cy)).run P w' = .ok new.toArray w') →
      K (.ref b (freshGen M b) 0 (xs.length + ys.length) none) ((b, .row (freshGen M b) ty.2.1 (xs ++ ys)) :: h) → (∀ x, x ≠ id → lk h x = none → x ≠ b) → o.wp P a w (OpPost h id K G M w o a) Q := by
    intro b ra rb cap cy xs ys old new ex ey hcap hby hlen f1 f2 r1 r2 hk hfb
    obtain ⟨nc, hnc, hrun⟩ := run_append_grow (P := P) (w := w) (tt := o.type) h1 ⟨e2, h1'⟩ hsz z1 z3 hib hcap hby hlen r1 r2
    obtain ⟨s1, s2⟩ := hr.sim.drawn.allocFlat b e ty.2.1 nc (rest := (Builtin.zeroCells z.cells (nc - (xs.length + ys.length))).toList) (f1.append f2) (by
      simp only [List.length_append, f1.1, f2.1, Array.length_toList, zeroCells_size, hzsz]
      rw [← Nat.add_mul, ← Nat.add_mul]
      exact Nat.le_of_eq (by congr 1; omega)) (by simpa using hnc)
    rw [List.append_assoc] at s1 s2
    refine fin_value (hexec ex ey hrun _ _ rfl) hk ?_ s1 (Ext.drawn.trans s2) (fun x hx h0 => freshGen_upd _ _ _ _ (hfb x hx h0))
    exact relV_newref hnc (Nat.le_refl _) (by simp) _
  unfold appG at hi
  split at hi
  · rename_i xs cap vy hx hy
    have rx := evN_co hr hx
    obtain ⟨ys, ra2, cy, new, ⟨hall, hcapx, hby, -, hlen, hk1, hk2⟩, ey, f2, r2⟩ := elemsW_spec (P := P) hr.sim hi (evN_co hr hy)
    obtain ⟨xs', ra, cx, old, rfl, ex, f1, r1⟩ := elemsW_spec (P := P) (K := fun l => xs = l) hr.sim (show elemsW h ty.2.1 (fun l => xs = l) (.sl xs cap) from ⟨hall, rfl⟩) rx
    obtain ⟨ra', rcap', ex', hle, hcap'⟩ := sl_inv rx
    rw [ex] at ex'; cases ex'
    have hcx : cx = xs.length := hcap' _ hcapx
    subst hcx
    by_cases hys : ys = []
    · subst hys
      have hfc : (Builtin.firstCells ty.2.1 0 (.slice ra2 0 cy)).run P w = .ok #[] w := by
        have := r2 w rfl
        rw [ey] at this
        have hnew : new = [] := by have := f2.1; simpa using this
        rw [hnew] at this; simpa using this
      refine pure_up hr (fin_pure hr (rv := .slice ra xs.length xs.length) (hexec ex ey (r := .ok _ w) ?_ _ _ rfl) (hk1 rfl) (by rw [ex] at rx; exact rx))
      refine run_append_fits (m := 0) (new := []) h1 h1' hsz (Nat.le_refl _) (by simpa using hfc) ?_
      cases ra with
      | none => exact .inl ⟨rfl, rfl⟩
      | some ad => exact .inr ⟨ad, rfl, by simp [storeCells]⟩
    · refine grow id ex ey ?_ hby hlen f1 f2 (by rw [← ex]; exact r1) (by rw [← ey]; exact r2) (hk2 hys) (fun x hx _ => hx)
      have : 0 < ys.length := by cases ys with
        | nil => exact absurd rfl hys
        | cons => simp
      omega
  · rename_i b g off len cap vy hx hy
    split at hi
    · rename_i g' sz' es hb
      have rx := evN_co hr hx
      obtain ⟨ys, ra2, cy, new, ⟨rfl, rfl, htip, hby, -, hlen, hk⟩, ey, f2, r2⟩ := elemsW_spec (P := P) hr.sim hi (evN_co hr hy)
      obtain ⟨xs, ra, cx, old, ⟨rfl, -⟩, ex, f1, r1⟩ := elemsW_spec (P := P) (K := fun l => l = es.drop off ∧ True) hr.sim (show elemsW h ty.2.1 _ (.ref b g' off len cap) from by
        simp only [elemsW, hb]
        exact ⟨trivial, trivial, by omega, List.take_of_length_le (by simp; omega), trivial⟩) rx
      have hxl : (es.drop off).length = len := by simp; omega
      obtain ⟨mb0, q1, q2, q3, q4⟩ := hr.sim.hb b _ hb
      obtain ⟨ra', cx', mb', ex', hM, hg, hl, hcc, hh⟩ := ref_inv rx
      rw [q1] at hM; cases hM
      have hre := hh q2.symm
      have hk0 := hk
      rw [show freshGen M b = mb0.gen + 1 by simp [freshGen, q1]] at hk
      have nb : ∀ x, lk h x = none → x ≠ b := fun x h0 e => by subst e; rw [hb] at h0; cases h0
      rw [ex'] at ex
      obtain ⟨e1, e2⟩ : ra' = ra ∧ cx' = cx := by
        simp only [Value.slice.injEq] at ex; exact ⟨ex.1, ex.2.2⟩
      subst e1 e2
      clear ex
      have ex := ex'
      rw [ex'] at r1
      by_cases hfit : len + ys.length ≤ cx'
      · -- in place
        have hyl := f2.1
        cases hreal : mb0.real with
        | none =>
          simp only [RefReal, hreal] at hre
          obtain ⟨rfl, rfl, rfl⟩ := hre
          have hys : ys = [] := List.length_eq_zero_iff.1 (by omega)
          subst hys
          have hl0 : len = 0 := by omega
          have hfc : (Builtin.firstCells ty.2.1 0 (.slice ra2 0 cy)).run P w = .ok #[] w := by
            have hnew : new = [] := by simpa using hyl
            have := r2 w rfl
            rw [ey, hnew] at this; simpa using this
          have hdrop : es.drop 0 = [] := List.length_eq_zero_iff.1 (by rw [hxl, hl0])
          have hkey := hr.sim.change (w' := w) b ⟨mb0.gen + 1, mb0.sz, 0, 0, none⟩ (.row (mb0.gen + 1) ty.2.1 (es.drop 0 ++ [])) (fun m hm => .inl (by rw [q1] at hm; cases hm; exact Nat.lt_succ_self _)) (fun r hr' => by cases hr') (Nat.le_refl _) (fun _ _ _ => rfl) (fun _ _ _ _ => trivial) rfl rfl rfl
            ⟨_, upd_same _ _ _, rfl, q3, by simp only [RowRel]; simpa using hdrop⟩
          refine fin_value (rv := .slice none (es.drop 0).length 0) (hexec (by rw [ex, hl0]) ey (r := .ok _ w) ?_ _ _ rfl) hk ?_ hkey.1 hkey.2 (fun x _ h0 => freshGen_upd _ _ _ _ (nb x h0))
          · have hdl : (es.drop 0).length = 0 := by rw [hdrop]; rfl
            rw [hdl]
            exact run_append_fits (m := 0) (new := []) h1 h1' hsz (Nat.le_refl _) (by simpa using hfc) (.inl ⟨rfl, rfl⟩)
          · have hdl : (es.drop 0).length = 0 := by rw [hdrop]; rfl
            rw [hdl]
            simp only [List.length_nil, Nat.add_zero, hl0]
            exact .ref _ _ _ _ _ _ _ _ (upd_same _ _ _) (Nat.le_refl _) (Nat.le_refl _) (by simp) fun _ => ⟨rfl, rfl, rfl⟩
        | some rb =>
          simp only [RefReal, hreal] at hre
          simp only [RowRel, hreal] at q4
          obtain ⟨arr, ty', w1, w2, w3, w4, w5⟩ := q4
          rcases hre with ⟨rfl, hroom⟩ | ⟨hl0, hc0⟩
          · have hroom2 : (off + cx') * mb0.sz ≤ mb0.room * mb0.sz := Nat.mul_le_mul_right _ hroom
            have hfit2 : (len + ys.length) * mb0.sz ≤ cx' * mb0.sz := Nat.mul_le_mul_right _ hfit
            rw [Nat.add_mul] at hroom2 hfit2
            rw [q3] at hroom2 hfit2 w2
            have hst := run_storeCells_at P rb (mb0.base + off * ty.2.1 + len * ty.2.1) ty' new 0 arr w w1 (by rw [hyl]; omega) (f2.one hn0)
            simp only [Nat.add_zero] at hst
            have hkey := hr.sim.change (w' := w.setRow rb (arr.toList.take (mb0.base + off * ty.2.1 + len * ty.2.1) ++ new ++ arr.toList.drop (mb0.base + off * ty.2.1 + len * ty.2.1 + new.length)).toArray) b
              ⟨mb0.gen + 1, ty.2.1, mb0.room - off, mb0.base + off * ty.2.1, some rb⟩ (.row (mb0.gen + 1) ty.2.1 (es.drop off ++ ys)) (fun m hm => .inl (by rw [q1] at hm; cases hm; exact Nat.lt_succ_self _)) (fun r hr' => by cases hr'; exact .inr ⟨mb0, q1, hreal⟩)
              (by rw [size_setRow]; exact Nat.le_refl _) (fun k _ hk => heap_setRow_ne _ _ _ _ (fun e => hk (by rw [e]))) (fun _ _ _ _ => trivial) rfl rfl rfl ?_
            · refine fin_value (rv := .slice (some ⟨rb, mb0.base + off * mb0.sz, none⟩) (len + ys.length) cx') (hexec ex ey (r := .ok _ _) ?_ _ _ rfl) hk ?_ hkey.1 hkey.2 (fun x _ h0 => freshGen_upd _ _ _ _ (nb x h0))
              · rw [ey] at r2
                refine run_append_fits h1 h1' hsz hfit (r2 w rfl) (.inr ⟨_, rfl, ?_⟩)
                rw [Addr.add_lit, q3]; exact hst
              · refine .ref _ _ _ _ _ _ _ _ (upd_same _ _ _) (Nat.le_refl _) hfit (by simp) fun _ => .inl ⟨?_, by simp; omega⟩
                simp [q3]
            · have hle2 : M.le (upd M b ⟨mb0.gen + 1, ty.2.1, mb0.room - off, mb0.base + off * ty.2.1, some rb⟩) := MMap.le_upd fun m hm => .inl (by rw [q1] at hm; cases hm; exact Nat.lt_succ_self _)
              refine ⟨_, upd_same _ _ _, rfl, rfl, ?_⟩
              simp only [RowRel]
              refine ⟨_, ty', setRow_heap w rb arr _ ty' (0, 0) w1, ?_, by simp only [List.length_append, hxl]; omega, fun i hi => ((f1.append f2).2 i hi).1, fun i j hi hj => ?_⟩
              · have hsub : (mb0.room - off) * ty.2.1 = mb0.room * ty.2.1 - off * ty.2.1 := Nat.sub_mul _ _ _
                simp only [List.size_toArray, List.length_append, List.length_take, List.length_drop, Array.length_toList, hyl, hsub]
                omega
              · rw [getD_toArray, splice_getD _ _ _ _ (by have := hyl; have e9 : arr.toList.length = arr.size := Array.length_toList; omega)]
                have hil : i < len + ys.length := by simpa only [List.length_append, hxl] using hi
                have heb := elem_bound (sz := ty.2.1) hil (Nat.le_refl _)
                have hfl := ((f1.append f2).2 i hi).2 j hj
                refine ⟨?_, ?_⟩
                all_goals
                  by_cases hin : i < len
                  · have heb2 := elem_bound (sz := ty.2.1) hin (Nat.le_refl _)
                    rw [if_neg (by omega)]
                    have e1 : ((es.drop off) ++ ys).getD i .undef = es.getD (off + i) .undef := by
                      simp only [List.getD_eq_getElem?_getD, List.getElem?_append, hxl, if_pos hin, List.getElem?_drop]
                    have := w5 (off + i) j (by omega) (by rw [q3]; exact hj)
                    rw [q3, Nat.add_mul, ← Nat.add_assoc] at this
                    have e2 : arr.toList.getD (mb0.base + off * ty.2.1 + i * ty.2.1 + j) undef = arr.getD (mb0.base + off * ty.2.1 + i * ty.2.1 + j) undef := by
                      simp [List.getD_eq_getElem?_getD, Array.getD_eq_getD_getElem?]
                    rw [e2]
                    first
                      | (rw [e1]; exact this.1.mono G.le_refl hle2)
                      | exact this.2
                  · have e3 : i * ty.2.1 = len * ty.2.1 + (i - len) * ty.2.1 := by rw [← Nat.add_mul]; congr 1; omega
                    have hyi : i - len < ys.length := by omega
                    have heb3 := elem_bound (sz := ty.2.1) hyi (Nat.le_refl _)
                    rw [if_pos (by rw [hyl]; omega)]
                    have e4 : mb0.base + off * ty.2.1 + i * ty.2.1 + j - (mb0.base + off * ty.2.1 + len * ty.2.1) = (i - len) * ty.2.1 + j := by omega
                    rw [e4]
                    have e1 : ((es.drop off) ++ ys).getD i .undef = ys.getD (i - len) .undef := by
                      simp only [List.getD_eq_getElem?_getD, List.getElem?_append, hxl, if_neg hin]
                    have := (f2.2 (i - len) hyi).2 j hj
                    first
                      | (rw [e1]; exact this.1.mono G.le_refl hle2)
                      | exact this.2
          · have hys : ys = [] := List.length_eq_zero_iff.1 (by omega)
            subst hys
            have hnew : new = [] := by simpa using hyl
            have hdrop : es.drop off = [] := List.length_eq_zero_iff.1 (by rw [hxl, hl0])
            have hkey := hr.sim.change (w' := w) b ⟨mb0.gen + 1, ty.2.1, 0, 0, some rb⟩ (.row (mb0.gen + 1) ty.2.1 (es.drop off ++ [])) (fun m hm => .inl (by rw [q1] at hm; cases hm; exact Nat.lt_succ_self _)) (fun r hr' => by cases hr'; exact .inr ⟨mb0, q1, hreal⟩) (Nat.le_refl _) (fun _ _ _ => rfl) (fun _ _ _ _ => trivial) rfl rfl rfl
              ⟨_, upd_same _ _ _, rfl, rfl, by
                simp only [RowRel]
                refine ⟨arr, ty', w1, by simp, by simp [hdrop], fun i hi => by simp [hdrop] at hi, fun i j hi => by simp [hdrop] at hi⟩⟩
            have hfc : (Builtin.firstCells ty.2.1 0 (.slice ra2 0 cy)).run P w = .ok #[] w := by
              have := r2 w rfl
              rw [ey, hnew] at this; simpa using this
            subst hl0 hc0
            refine fin_value (rv := .slice ra' 0 0) (hexec ex ey (r := .ok _ w) ?_ _ _ rfl) hk ?_ hkey.1 hkey.2 (fun x _ h0 => freshGen_upd _ _ _ _ (nb x h0))
            · refine run_append_fits (m := 0) (new := []) h1 h1' hsz (Nat.le_refl _) (by simpa using hfc) ?_
              cases ra' with
              | none => exact .inl ⟨rfl, rfl⟩
              | some ad => exact .inr ⟨ad, rfl, by simp [storeCells]⟩
            · exact .ref _ _ _ _ _ _ _ _ (upd_same _ _ _) (Nat.le_refl _) (Nat.le_refl _) (by simp) fun _ => .inr ⟨rfl, rfl⟩
      · refine grow b (xs := es.drop off) (cap := cx') (by rw [hxl]; exact ex) ey (by rw [hxl]; omega) hby (by rw [hxl]; exact hlen) f1 f2 (by rw [hxl] at r1 ⊢; exact r1) (by rw [← ey]; exact r2) ?_ (fun x _ h0 => nb x h0)
        rw [hxl]; exact hk0
    · exact hi.elim
  · exact hi.elim

theorem elemsW_mono {sz : Nat} {K K' : List V → Prop} {v : V} (hk : elemsW h sz K v) (hm : ∀ l, K l → K' l) : elemsW h sz K' v := by
  unfold elemsW at hk ⊢
  split at hk
  · exact ⟨hk.1, hm _ hk.2⟩
  · split at hk
    · rename_i he
      exact ⟨hk.1, hk.2.1, hk.2.2.1, hm _ hk.2.2.2⟩
    · exact hk.elim
  · exact hk.elim

theorem appG_of {id : Nat} {fg : Nat → Nat} {sz bytes : Nat} {z : List V} {x y : IOpd} {K : V → Hp → Prop} (hi : istep P gl id fr h K (.app sz bytes z x y)) : appG gl fr h id fg sz bytes z x y K := by
  simp only [istep] at hi
  unfold appG
  split at hi
  · rename_i h1 h2
    simp only [h1, h2]
    exact elemsW_mono hi fun l hl => ⟨hl.1, hl.2.1, hl.2.2.1, hl.2.2.2.1, hl.2.2.2.2.1, hl.2.2.2.2.2.1, fun hne => hl.2.2.2.2.2.2 hne _⟩
  · rename_i h1 h2
    simp only [h1, h2]
    split at hi
    · rename_i h3
      simp only [h3]
      exact elemsW_mono hi fun l hl => ⟨hl.1, hl.2.1, hl.2.2.1, hl.2.2.2.1, hl.2.2.2.2.1, hl.2.2.2.2.2.1, hl.2.2.2.2.2.2 _⟩
    · exact hi.elim
  · exact hi.elim

theorem sound_app (hr : R n gl G M fr h a w) {o : Oper} {c : Call} {t t2 e e2 : TypeId} {x y : Operand} {z : Value} {ty : Bool × Nat × Nat} {Q : Exit → Act → World → Prop} {K : V → Hp → Prop} (ho : o.op = .call c) (hc : c.callee = .builtin .append)
    (ha : c.args.toList = [x, y]) (hat : c.argTypes.toList = [t, t2]) (h1 : P.underlying t = some (.slice e)) (h1' : P.underlying t2 = some (.slice e2)) (h2 : tyOf P e = some ty) (hz : zeroOf P e = some z) (hn0 : ty.2.1 ≠ 0) {id : Nat}
    (hi : istep P gl id fr h K (.app ty.2.1 ty.2.2 (vOfZ z).cells (co x) (co y))) : o.wp P a w (OpPost h id K G M w o a) Q := sound_appG hr ho hc ha hat h1 h1' h2 hz hn0 (appG_of hi)
end
end Go.Proofs.YtcdfifbabhfknaaDoor
