/- Each ideal operation but the calls stands for the model's: third part. No program stands in it. Conditions: none. -/
import Derived.Test.YtcdfifbabhfknaaDoorCore7
namespace Go.Proofs.YtcdfifbabhfknaaDoor
open Go

section
variable {P : Program} {gl : Fr} {n : Nat} {fr : Fr} {h : Hp} {G : GMap} {M : MMap} {a : Act} {w : World}

theorem sound_cvs (hr : R n gl G M fr h a w) {o : Oper} {s d : TypeId} {x : Operand} {Q : Exit → Act → World → Prop} {K : V → Hp → Prop} (ho : o.op = .convert s d x)
    (h1 : P.underlying s = some .string) (h2 : P.underlying d = some .string) {id : Nat} (hi : istep P gl id fr h K (.cvs (co x))) : o.wp P a w (PurePost K G M w o a h) Q := by
  simp only [istep] at hi
  split at hi
  · rename_i l hx
    exact sound_convS hr ho h1 h2 (id := id) ⟨l, hx, hi⟩
  · exact hi.elim

theorem sound_idxA (hr : R n gl G M fr h a w) {o : Oper} {t e : TypeId} {x y : Operand} {ty : Bool × Nat × Nat} {Q : Exit → Act → World → Prop} {K : V → Hp → Prop} (ho : o.op = .indexAddr t x y)
    (h1 : P.underlying t = some (.slice e)) (h2 : tyOf P e = some ty) {id : Nat} (hi : istep P gl id fr h K (.idxA ty.2.1 (co x) (co y))) : o.wp P a w (PurePost K G M w o a h) Q := by
  obtain ⟨-, hsz, -⟩ := tyOf_spec (P := P) (t := e) (ag := ty.1) (n := ty.2.1) (by_ := ty.2.2) (by rw [h2])
  have hrun : ∀ (ad : Addr) (len cap : Nat) (k : IntKind) (j : Int), a.eval x = .slice (some ad) len cap → a.eval y = .int k j → 0 ≤ j → j < len →
      (execOp a.eval o).run P w = .ok (.value (.pointer (some (ad.add (j.toNat * ty.2.1))))) w := by
    intro ad len cap k j ex ey hj0 hj1
    simp [execOp, ho, Instr.indexAt, ex, ey, asIntOf, underlying, h1, hsz, hj0, hj1]
  simp only [istep] at hi
  split at hi
  · rename_i xs cap k j hx hy
    obtain ⟨hj0, hj1, hc, hi⟩ := hi
    have ey := relV_int_inv (ev_co hr hy)
    have rx := ev_co hr hx
    have hjl : j.toNat < xs.length := by omega
    generalize hev : a.eval x = r at rx
    cases rx with
    | slnil => simp at hjl
    | sl _ _ rb ro rcap sz cells hne hG hsz' hb hl hcc hh hoo =>
      have e1 := hsz' j.toNat hjl
      rw [hc] at e1; subst e1
      refine fin_pure hr (hrun _ _ _ _ _ hev ey hj0 hj1) hi ?_
      rw [Addr.add_lit]
      have heb := elem_bound (sz := ty.2.1) hjl (Nat.le_refl xs.length)
      exact .iptr _ 0 rb (ro + j.toNat * ty.2.1) cells hG (by omega) (fun q hq => hh _ q hjl (by omega)) (fun q hq => hoo _ q hjl (by omega))
  · rename_i b g off len cap k j hx hy
    split at hi
    · rename_i g' sz' es hb
      obtain ⟨rfl, rfl, hj0, hj1, hi⟩ := hi
      have ey := relV_int_inv (ev_co hr hy)
      have rx := ev_co hr hx
      obtain ⟨mb0, m1, m2, m3, m4⟩ := hr.sim.hb b _ hb
      generalize hev : a.eval x = r at rx
      cases rx with
      | ref _ _ _ _ _ ra rcap mb hM hg hl hcc hh =>
        rw [m1] at hM; cases hM
        have hre := hh m2.symm
        cases hreal : mb0.real with
        | none => simp only [RefReal, hreal] at hre; omega
        | some rb =>
          simp only [RefReal, hreal] at hre
          rcases hre with ⟨rfl, hroom⟩ | ⟨q, -⟩
          · refine fin_pure hr (hrun _ _ _ _ _ hev ey hj0 hj1) hi ?_
            rw [Addr.add_lit]
            refine .ptr _ _ _ _ _ mb0 m1 (by omega) fun _ => ⟨rb, hreal, ?_⟩
            rw [m3, Nat.add_mul]; simp [Nat.add_assoc]
          · omega
    · exact hi.elim
  · exact hi.elim

theorem sound_idxP (hr : R n gl G M fr h a w) {o : Oper} {t e : TypeId} {len : Nat} {x y : Operand} {ty : Bool × Nat × Nat} {Q : Exit → Act → World → Prop} {K : V → Hp → Prop} (ho : o.op = .indexAddr t x y)
    (h1 : P.underlying t = some (.array len e)) (h2 : tyOf P e = some ty) {id : Nat} (hi : istep P gl id fr h K (.idxP len ty.2.1 (co x) (co y))) : o.wp P a w (PurePost K G M w o a h) Q := by
  obtain ⟨-, hsz, -⟩ := tyOf_spec (P := P) (t := e) (ag := ty.1) (n := ty.2.1) (by_ := ty.2.2) (by rw [h2])
  have hrun : ∀ (ad : Addr) (k : IntKind) (j : Int), a.eval x = .pointer (some ad) → a.eval y = .int k j → 0 ≤ j → j < len →
      (execOp a.eval o).run P w = .ok (.value (.pointer (some (ad.add (j.toNat * ty.2.1))))) w := by
    intro ad k j ex ey hj0 hj1
    simp [execOp, ho, Instr.indexAt, ex, ey, asIntOf, underlying, h1, hsz, hj0, hj1, Instr.sureAddr]
  simp only [istep] at hi
  split at hi
  · rename_i y0 off k j hx hy
    obtain ⟨hj0, hj1, hi⟩ := hi
    have ey := relV_int_inv (ev_co hr hy)
    have rx := ev_co hr hx
    generalize hev : a.eval x = r at rx
    cases rx with
    | iptr _ _ rb ro cells hG hb hh hoo =>
      refine fin_pure hr (hrun _ _ _ hev ey hj0 hj1) hi ?_
      rw [Addr.add_lit, Nat.add_assoc]
      exact .iptr _ _ rb ro cells hG hb hh hoo
  · rename_i b g k0 off k j hx hy
    obtain ⟨hj0, hj1, hi⟩ := hi
    have ey := relV_int_inv (ev_co hr hy)
    have rx := ev_co hr hx
    generalize hev : a.eval x = r at rx
    cases rx with
    | ptr _ _ _ _ ad mb hM hg hh =>
      refine fin_pure hr (hrun _ _ _ hev ey hj0 hj1) hi ?_
      refine .ptr _ _ _ _ _ mb hM hg fun hgen => ?_
      obtain ⟨rb, q1, rfl⟩ := hh hgen
      exact ⟨rb, q1, by rw [Addr.add_lit, Nat.add_assoc]⟩
  · exact hi.elim

theorem sound_idxV (hr : R n gl G M fr h a w) {o : Oper} {t e : TypeId} {len : Nat} {x y : Operand} {ty : Bool × Nat × Nat} {Q : Exit → Act → World → Prop} {K : V → Hp → Prop} (ho : o.op = .index t x y)
    (h1 : P.underlying t = some (.array len e)) (h2 : tyOf P e = some ty) {id : Nat} (hi : istep P gl id fr h K (.idxV ty.1 len ty.2.1 (co x) (co y))) : o.wp P a w (PurePost K G M w o a h) Q := by
  obtain ⟨-, hsz, -⟩ := tyOf_spec (P := P) (t := e) (ag := ty.1) (n := ty.2.1) (by_ := ty.2.2) (by rw [h2])
  simp only [istep] at hi
  split at hi
  · rename_i cs k j hx hy
    obtain ⟨hj0, hj1, hok, hi⟩ := hi
    have ey := relV_int_inv (ev_co hr hy)
    obtain ⟨arr, ex, hc⟩ := relV_agg_inv (ev_co hr hx)
    obtain ⟨rv, q1, q2⟩ := run_part (P := P) (w := w) (t := e) (ag := ty.1) (m := ty.2.1) (by_ := ty.2.2) (by rw [h2]) hc hok
    exact fin_pure hr (by simp [execOp, ho, Instr.index, ex, ey, asIntOf, underlying, h1, hsz, hj0, hj1, q1]) hi q2
  · exact hi.elim

theorem sound_idxS (hr : R n gl G M fr h a w) {o : Oper} {t : TypeId} {x y : Operand} {Q : Exit → Act → World → Prop} {K : V → Hp → Prop} (ho : o.op = .index t x y)
    (h1 : P.underlying t = some .string) {id : Nat} (hi : istep P gl id fr h K (.idxS (co x) (co y))) : o.wp P a w (PurePost K G M w o a h) Q := by
  simp only [istep] at hi
  split at hi
  · rename_i s k j hx hy
    obtain ⟨hj0, hj1, hi⟩ := hi
    have ey := relV_int_inv (ev_co hr hy)
    have ex := relV_str_inv (ev_co hr hx)
    have hlt : j.toNat < s.length := by omega
    have hget : (⟨s.toArray⟩ : ByteArray)[j.toNat]? = some (s.getD j.toNat 0) := by
      have hlt' : j.toNat < (⟨s.toArray⟩ : ByteArray).size := by simpa [ByteArray.size] using hlt
      rw [getElem?_pos (⟨s.toArray⟩ : ByteArray) j.toNat hlt']
      simp [List.getD_eq_getElem?_getD, hlt]
      rfl
    exact fin_pure hr (by simp only [execOp, ho, Instr.index, ex, ey, asIntOf, Sem.run_bind, Sem.run_pure, Result.andThen_ok, underlying, run_program, h1, if_pos hj0, hget]) hi (.int _ _)
  · exact hi.elim

theorem sound_field (hr : R n gl G M fr h a w) {o : Oper} {s : TypeId} {x : Operand} {i : Nat} {fields : Array Field} {f : Field} {ty : Bool × Nat × Nat} {Q : Exit → Act → World → Prop} {K : V → Hp → Prop} (ho : o.op = .field s x i)
    (h1 : P.underlying s = some (.struct fields)) (h2 : fields[i]? = some f) (h3 : tyOf P f.type = some ty) {id : Nat} (hi : istep P gl id fr h K (.field ty.1 f.offset ty.2.1 (co x))) : o.wp P a w (PurePost K G M w o a h) Q := by
  simp only [istep] at hi
  split at hi
  · rename_i cs hx
    obtain ⟨arr, ex, hc⟩ := relV_agg_inv (ev_co hr hx)
    obtain ⟨rv, q1, q2⟩ := run_part (P := P) (w := w) (t := f.type) (ag := ty.1) (m := ty.2.1) (by_ := ty.2.2) (by rw [h3]) hc hi.1
    exact fin_pure hr (by simp [execOp, ho, Instr.field, ex, asAgg, underlying, h1, h2, q1]) hi.2 q2
  · exact hi.elim

theorem sl_inv {xs : List V} {cap : Option Nat} {r : Value} (h : RelV G M (.sl xs cap) r) : ∃ ra rcap, r = .slice ra xs.length rcap ∧ xs.length ≤ rcap ∧ (∀ c, cap = some c → rcap = c) := by
  cases h with
  | slnil _ base rcap hc hb => exact ⟨base, rcap, rfl, Nat.zero_le _, hc⟩
  | sl _ _ rb ro rcap sz cells hne hG hsz hb hl hc hh ho => exact ⟨_, rcap, rfl, hl, hc⟩

theorem arr_one {α : Type} {c : Array α} {x : α} (h : c.toList = [x]) : c = #[x] := by rw [← Array.toArray_toList (xs := c), h]
theorem arr_two {α : Type} {c : Array α} {x y : α} (h : c.toList = [x, y]) : c = #[x, y] := by rw [← Array.toArray_toList (xs := c), h]

theorem sound_len (hr : R n gl G M fr h a w) {o : Oper} {c : Call} {t e : TypeId} {x : Operand} {Q : Exit → Act → World → Prop} {K : V → Hp → Prop} (ho : o.op = .call c) (hc : c.callee = .builtin .len)
    (ha : c.args.toList = [x]) (hat : c.argTypes.toList = [t]) (h1 : P.underlying t = some (.slice e)) {id : Nat} (hi : istep P gl id fr h K (.len (co x))) : o.wp P a w (PurePost K G M w o a h) Q := by
  have ha' := arr_one ha
  have hat' := arr_one hat
  simp only [istep] at hi
  split at hi
  · rename_i xs cap hx
    obtain ⟨ra, rcap, ex, -, -⟩ := sl_inv (evN_co hr hx)
    exact fin_pure hr (by simp [execOp, ho, resolve, hc, invoke, builtin, Builtin.len_, ha', hat', ex, underlying, h1, goInt]) hi (.int _ _)
  · rename_i b g off len cap hx
    have rx := evN_co hr hx
    generalize hev : a.eval x = r at rx
    cases rx with
    | ref _ _ _ _ _ ra rcap mb hM hg hl hcc hh =>
      exact fin_pure hr (by simp [execOp, ho, resolve, hc, invoke, builtin, Builtin.len_, ha', hat', hev, underlying, h1, goInt]) hi (.int _ _)
  · exact hi.elim

theorem sound_lenS (hr : R n gl G M fr h a w) {o : Oper} {c : Call} {t : TypeId} {x : Operand} {Q : Exit → Act → World → Prop} {K : V → Hp → Prop} (ho : o.op = .call c) (hc : c.callee = .builtin .len)
    (ha : c.args.toList = [x]) (hat : c.argTypes.toList = [t]) (h1 : P.underlying t = some .string) {id : Nat} (hi : istep P gl id fr h K (.lenS (co x))) : o.wp P a w (PurePost K G M w o a h) Q := by
  have ha' := arr_one ha
  have hat' := arr_one hat
  simp only [istep] at hi
  split at hi
  · rename_i s hx
    have ex := relV_str_inv (ev_co hr hx)
    have hsz : (⟨s.toArray⟩ : ByteArray).size = s.length := rfl
    exact fin_pure hr (rv := .int .i64 s.length) (by simp [execOp, ho, resolve, hc, invoke, builtin, Builtin.len_, ha', hat', ex, underlying, h1, goInt, hsz]) hi (.int _ _)
  · exact hi.elim

theorem sound_lenK (hr : R n gl G M fr h a w) {o : Oper} {c : Call} {t : TypeId} {m : Nat} {x : Operand} {Q : Exit → Act → World → Prop} {K : V → Hp → Prop} (ho : o.op = .call c) (hc : c.callee = .builtin .len)
    (ha : c.args.toList = [x]) (hat : c.argTypes.toList = [t]) (h1 : (∃ e, P.underlying t = some (.array m e)) ∨ ∃ u e, P.underlying t = some (.pointer u) ∧ P.underlying u = some (.array m e)) {id : Nat} (hi : istep P gl id fr h K (.lenK m)) : o.wp P a w (PurePost K G M w o a h) Q := by
  have ha' := arr_one ha
  have hat' := arr_one hat
  simp only [istep] at hi
  rcases h1 with ⟨e, h1⟩ | ⟨u, e, h1, h2⟩
  · exact fin_pure hr (by simp [execOp, ho, resolve, hc, invoke, builtin, Builtin.len_, ha', hat', underlying, h1, goInt]) hi (.int _ _)
  · exact fin_pure hr (by simp [execOp, ho, resolve, hc, invoke, builtin, Builtin.len_, ha', hat', underlying, h1, h2, goInt]) hi (.int _ _)

theorem sound_cap (hr : R n gl G M fr h a w) {o : Oper} {c : Call} {t e : TypeId} {x : Operand} {Q : Exit → Act → World → Prop} {K : V → Hp → Prop} (ho : o.op = .call c) (hc : c.callee = .builtin .cap)
    (ha : c.args.toList = [x]) (hat : c.argTypes.toList = [t]) (h1 : P.underlying t = some (.slice e)) {id : Nat} (hi : istep P gl id fr h K (.cap (co x))) : o.wp P a w (PurePost K G M w o a h) Q := by
  have ha' := arr_one ha
  have hat' := arr_one hat
  simp only [istep] at hi
  split at hi
  · rename_i xs cap hx
    obtain ⟨ra, rcap, ex, -, hcap⟩ := sl_inv (evN_co hr hx)
    have := hcap cap rfl; subst this
    exact fin_pure hr (by simp [execOp, ho, resolve, hc, invoke, builtin, Builtin.cap_, ha', hat', ex, underlying, h1, goInt]) hi (.int _ _)
  · rename_i b g off len cap hx
    have rx := evN_co hr hx
    generalize hev : a.eval x = r at rx
    cases rx with
    | ref _ _ _ _ _ ra rcap mb hM hg hl hcc hh =>
      have := hcc cap rfl; subst this
      exact fin_pure hr (by simp [execOp, ho, resolve, hc, invoke, builtin, Builtin.cap_, ha', hat', hev, underlying, h1, goInt]) hi (.int _ _)
  · exact hi.elim

theorem sound_mm (hr : R n gl G M fr h a w) {o : Oper} {c : Call} {x y : Operand} {mx : Bool} {Q : Exit → Act → World → Prop} {K : V → Hp → Prop} (ho : o.op = .call c) (hc : c.callee = .builtin (if mx then .max else .min))
    (ha : c.args.toList = [x, y]) {id : Nat} (hi : istep P gl id fr h K (.mm mx (co x) (co y))) : o.wp P a w (PurePost K G M w o a h) Q := by
  have ha' := arr_two ha
  simp only [istep] at hi
  split at hi
  · rename_i k p k' q hx hy
    have ex := relV_int_inv (ev_co hr hx)
    have ey := relV_int_inv (ev_co hr hy)
    refine fin_pure hr ?_ hi (.int _ _)
    cases mx
    · simp only [execOp, ho, resolve, hc, invoke, builtin, Builtin.min_, Builtin.min2, ha', ex, ey]
      simp [builtin, Builtin.min_, Builtin.min2, ex, ey]
      omega
    · simp only [execOp, ho, resolve, hc, invoke, builtin, Builtin.max_, Builtin.max2, ha', ex, ey]
      simp [builtin, Builtin.max_, Builtin.max2, ex, ey]
      omega
  · exact hi.elim

theorem sound_extract (hr : R n gl G M fr h a w) {o : Oper} {x : Operand} {i : Nat} {Q : Exit → Act → World → Prop} {K : V → Hp → Prop} (ho : o.op = .extract x i) {id : Nat}
    (hi : istep P gl id fr h K (.extract (co x) i)) : o.wp P a w (PurePost K G M w o a h) Q := by
  simp only [istep] at hi
  split at hi
  · rename_i vs hx
    split at hi
    · rename_i v hv
      have rx := ev_co hr hx
      generalize hev : a.eval x = r at rx
      cases rx with
      | tup _ arr hs hh =>
        have hlt : i < vs.length := (List.getElem?_eq_some_iff.1 hv).1
        have hlt' : i < arr.size := by omega
        have := hh i hlt
        rw [List.getD_eq_getElem?_getD, hv] at this
        exact fin_pure hr (rv := arr.getD i undef) (by simp [execOp, ho, hev, Instr.extract, hlt', Array.getD_eq_getD_getElem?]) hi this
    · exact hi.elim
  · exact hi.elim

theorem evs_co (hr : R n gl G M fr h a w) : ∀ {l : List Operand} {vs : List V}, evs gl fr (l.map co) = some vs → vs.length = l.length ∧ ∀ i, i < vs.length → RelV G M (vs.getD i .undef) ((l.map a.eval).getD i undef)
  | [], vs, h => by simp [evs] at h; subst h; exact ⟨rfl, fun i hi => by cases hi⟩
  | x :: l, vs, h => by
    simp only [List.map_cons, evs] at h
    split at h
    · rename_i v vs' hv hvs
      cases h
      obtain ⟨i1, i2⟩ := evs_co hr hvs
      refine ⟨by simp [i1], fun i hi => ?_⟩
      cases i with
      | zero => simpa using ev_co hr hv
      | succ i => simpa using i2 i (by simpa using hi)
    · cases h

theorem getD_map_toList (c : Array Operand) (f : Operand → Value) (i : Nat) : (c.map f).getD i undef = (c.toList.map f).getD i undef := by
  simp [Array.getD_eq_getD_getElem?, List.getD_eq_getElem?_getD]

theorem sound_mkfn (hr : R n gl G M fr h a w) {o : Oper} {f : FuncId} {x y : Array Operand} {Q : Exit → Act → World → Prop} {K : V → Hp → Prop} (ho : o.op = .makeFunc (.func f) x y) {id : Nat}
    (hi : istep P gl id fr h K (.mkfn f (x.toList.map co) (y.toList.map co))) : o.wp P a w (PurePost K G M w o a h) Q := by
  simp only [istep] at hi
  split at hi
  · rename_i va vb hx hy
    obtain ⟨a1, a2⟩ := evs_co hr hx
    obtain ⟨b1, b2⟩ := evs_co hr hy
    refine fin_pure hr (rv := .func (.func f) (x.map a.eval) (y.map a.eval)) (by simp [execOp, ho, Instr.makeFunc]) hi (.fn _ _ _ _ _ (by simp [a1]) (by simp [b1]) (fun i hi => ?_) (fun i hi => ?_))
    · have := a2 i hi; rw [← getD_map_toList] at this; simpa using this
    · have := b2 i hi; rw [← getD_map_toList] at this; simpa using this
  · exact hi.elim

theorem sound_call (hr : R n gl G M fr h a w) {o : Oper} {c : Call} {f : Operand} {Q : Exit → Act → World → Prop} {K : V → Hp → Prop} (ho : o.op = .call c) (hc : c.callee = .value f) {id : Nat}
    (hi : istep P gl id fr h K (.call (co f) (c.args.toList.map co))) : o.wp P a w (OpPost h id K G M w o a) Q := by
  simp only [istep] at hi
  split at hi
  · rename_i fid fst cap vs hf hvs
    obtain ⟨v1, v2⟩ := evs_co hr hvs
    obtain ⟨hcal, hi⟩ := hi
    have rf := ev_co hr hf
    generalize hev : a.eval f = r at rf
    cases rf with
    | fn _ _ _ rfst rcap s1 s2 s3 s4 =>
      unfold callable at hcal
      split at hcal
      · rename_i fn hfn
        simp only [Bool.and_eq_true, bne_iff_ne, ne_eq, Option.isSome_iff_exists] at hcal
        obtain ⟨hname, body, hbody⟩ := hcal
        have hrun : (execOp a.eval o).run P w = .ok (.enter fid (rfst ++ c.args.map a.eval ++ rcap)) w := by
          simp [execOp, ho, resolve, hc, hev, Deferred.ofValue, invoke, callFunc, hfn, hname, hbody]
        unfold Oper.wp
        rw [hrun, Oper.upon_enter]
        refine Calls.mono (hi G M w (rfst ++ c.args.map a.eval ++ rcap) hr.sim hr.gl (by simp [v1]; omega) ?_) ?_
        · intro i hi
          simp only [List.length_append] at hi
          simp only [Array.getD_eq_getD_getElem?, List.getD_eq_getElem?_getD, Array.getElem?_append, List.getElem?_append, Array.size_append, Array.size_map, List.length_append, s1]
          have hl : c.args.size = vs.length := by rw [v1]; simp
          rw [hl]
          by_cases c1 : i < fst.length + vs.length
          · rw [if_pos c1, if_pos c1]
            by_cases c2 : i < fst.length
            · rw [if_pos c2, if_pos c2]
              have := s3 i c2
              simpa [Array.getD_eq_getD_getElem?, List.getD_eq_getElem?_getD] using this
            · rw [if_neg c2, if_neg c2]
              have := v2 (i - fst.length) (by omega)
              rw [← getD_map_toList] at this
              simpa only [Array.getD_eq_getD_getElem?, List.getD_eq_getElem?_getD] using this
          · rw [if_neg c1, if_neg c1]
            have := s4 (i - (fst.length + vs.length)) (by omega)
            simpa only [Array.getD_eq_getD_getElem?, List.getD_eq_getElem?_getD] using this
        · rintro e w' ⟨rv, v, h', G', M', rfl, hk, hv, hs, hx, hf⟩
          exact ⟨v, h', rv, G', M', hk, rfl, hv, hs, hx, fun b _ h0 => hf b h0⟩
      · cases hcal
  · exact hi.elim
end
end Go.Proofs.YtcdfifbabhfknaaDoor
