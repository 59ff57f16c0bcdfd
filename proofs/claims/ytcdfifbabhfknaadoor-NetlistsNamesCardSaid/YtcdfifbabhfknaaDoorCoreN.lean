/- What an operation comes to: maps, ranges over strings, tests for nil. No program stands in it. Conditions: none. -/
import Derived.Test.YtcdfifbabhfknaaDoorCore19
import Derived.MapKept
namespace Go.Proofs.YtcdfifbabhfknaaDoor
open Go Go.MapKept

theorem toList_getD (c : Array MapEntry) (j : Nat) : c.toList.getD j default = c.getD j default := by
  rw [Array.getD_eq_getD_getElem?, List.getD_eq_getElem?_getD, Array.getElem?_toList]
theorem fresh_none' {M : MMap} {b : Nat} (h : freshGen M b = 0) : M b = none := by
  unfold freshGen at h
  cases hb : M b with
  | none => rfl
  | some mb => rw [hb] at h; cases h

section
variable {P : Program} {gl : Fr} {n : Nat} {fr : Fr} {h : Hp} {G : GMap} {M : MMap} {a : Act} {w : World}

theorem sameK_spec {k k' : V} {r r' : Value} {b : Bool} (h : sameK k k' = some b) (hr : RelV G M k r) (hr' : RelV G M k' r') : (∀ d, IsKey d r → IsKey d r' ∧ Instr.sameNow d r r' = some b) ∧ (b = true → r = r') := by
  unfold sameK at h
  split at h
  · cases h
    rw [relV_str_inv hr, relV_str_inv hr']
    rename_i x y
    have hiff : decide (x = y) = true ↔ (⟨x.toArray⟩ : ByteArray) = ⟨y.toArray⟩ := by
      simp [ByteArray.ext_iff]
    refine ⟨fun d hd => ?_, fun hb => by rw [hiff.1 hb]⟩
    cases d <;> simp only [IsKey] at hd ⊢
    refine ⟨trivial, ?_⟩
    simp only [Instr.sameNow, Option.some.injEq]
    rw [Bool.eq_iff_iff, bytes_beq, hiff]
  · rename_i j x j' y
    cases hj : decide (j = j') with
    | false => rw [hj] at h; cases h
    | true =>
      rw [hj] at h
      simp only [cond_true, Option.some.injEq] at h
      have hjj : j = j' := by simpa using hj
      subst hjj h
      rw [relV_int_inv hr, relV_int_inv hr']
      refine ⟨fun d hd => ?_, fun hb => by rw [of_decide_eq_true hb]⟩
      cases d <;> simp only [IsKey] at hd ⊢
      refine ⟨hd, ?_⟩
      simp [Instr.sameNow]
      try (rw [Bool.eq_iff_iff]; simp)
  · cases h

theorem findV_spec {k : V} {r : Value} {d : TypeDesc} (hr : RelV G M k r) (hd : IsKey d r) : ∀ (es : List (V × V)) (l : List MapEntry) (i : Nat) (q : Option (Nat × V)), findV k es i = some q → l.length = es.length →
    (∀ j, j < es.length → RelV G M ((es.getD j (.undef, .undef)).1) ((l.getD j default).key) ∧ RelV G M ((es.getD j (.undef, .undef)).2) ((l.getD j default).val)) →
    match q with
    | none => Instr.findNow d r l i = some none
    | some (j, v) => i ≤ j ∧ j - i < es.length ∧ (l.getD (j - i) default).key = r ∧ Instr.findNow d r l i = some (some (j, (l.getD (j - i) default).val)) ∧ RelV G M v ((l.getD (j - i) default).val)
  | [], l, i, q, h, hl, hrel => by
    simp only [findV, Option.some.injEq] at h; subst h
    have : l = [] := List.length_eq_zero_iff.1 hl
    subst this; rfl
  | e :: es, [], i, q, h, hl, hrel => by simp at hl
  | e :: es, x :: l, i, q, h, hl, hrel => by
    simp only [findV] at h
    have h0 := hrel 0 (by simp)
    simp only [List.getD_cons_zero] at h0
    split at h
    · rename_i hs
      cases h
      obtain ⟨s1, s2⟩ := sameK_spec hs hr h0.1
      obtain ⟨-, s3⟩ := s1 d hd
      have hk := s2 rfl
      refine ⟨Nat.le_refl _, by simp, by simp [hk], ?_, by simpa using h0.2⟩
      simp [Instr.findNow, s3]
    · rename_i hs
      obtain ⟨s1, s2⟩ := sameK_spec hs hr h0.1
      obtain ⟨-, s3⟩ := s1 d hd
      have ih := findV_spec hr hd es l (i + 1) q h (by simpa using hl) (fun j hj => by simpa using hrel (j + 1) (by simpa using hj))
      cases q with
      | none => simp only [Instr.findNow, s3]; exact ih
      | some jv =>
        obtain ⟨j, v⟩ := jv
        obtain ⟨i1, i2, i3, i4, i5⟩ := ih
        have e1 : j - i = (j - (i + 1)) + 1 := by omega
        refine ⟨by omega, by simp; omega, ?_, ?_, ?_⟩
        · rw [e1]; simpa using i3
        · rw [e1]; simp only [Instr.findNow, s3]; simpa using i4
        · rw [e1]; simpa using i5
    · cases h

theorem own_map {b g : Nat} {r : Value} (hs : Sim G M h w) (hr : RelV G M (.own b g) r) {es : List (V × V)} (hb : lk h b = some (.map g es)) : ∃ mb rb, M b = some mb ∧ mb.gen = g ∧ mb.real = some rb ∧ mb.sz = 0 ∧ r = .map (some rb) ∧ MapRel G M w rb es := by
  obtain ⟨mb, rb, h1, h2, h3, h4, h5⟩ := hs.hb b _ hb
  refine ⟨mb, rb, h1, h2, h3, h4, ?_, h5⟩
  cases hr with
  | own _ _ _ mb' hM hg ho hh =>
    rw [h1] at hM; cases hM
    obtain ⟨rb', q1, q2⟩ := hh h2.symm
    rw [h3] at q1; cases q1
    rw [q2, if_pos h4]
theorem own_iter {b g : Nat} {r : Value} (hs : Sim G M h w) (hr : RelV G M (.own b g) r) {s : List UInt8} {pos : Nat} (hb : lk h b = some (.siter g s pos)) : ∃ mb rb, M b = some mb ∧ mb.gen = g ∧ mb.real = some rb ∧ mb.sz = 1 ∧ r = .pointer (some ⟨rb, 0, none⟩) ∧ w.heap[rb]? = some (.stringIter ⟨s.toArray⟩ pos) := by
  obtain ⟨mb, rb, h1, h2, h3, h4, h5⟩ := hs.hb b _ hb
  refine ⟨mb, rb, h1, h2, h3, h4, ?_, h5⟩
  cases hr with
  | own _ _ _ mb' hM hg ho hh =>
    rw [h1] at hM; cases hM
    obtain ⟨rb', q1, q2⟩ := hh h2.symm
    rw [h3] at q1; cases q1
    rw [q2, if_neg (by omega)]

theorem idxOf_spec (n : Int) (hn : 0 ≤ n ∧ n < 256) : ∀ (l : List UInt8) (pre : List UInt8), idxOf n l pre.length = match (List.range' pre.length l.length).find? (fun (i : Nat) => (pre ++ l)[i]! == UInt8.ofNat n.toNat) with
    | some i => (i : Int)
    | none => -1
  | [], pre => rfl
  | b :: r, pre => by
    have ih := idxOf_spec n hn r (pre ++ [b])
    simp only [idxOf, List.length_cons, List.range'_succ, List.find?_cons]
    have e1 : (pre ++ b :: r)[pre.length]! = b := by simp
    have e2 : (decide ((b.toNat : Int) = n)) = (b == UInt8.ofNat n.toNat) := by
      rw [Bool.eq_iff_iff, decide_eq_true_eq, beq_iff_eq]
      constructor
      · intro h
        apply UInt8.toNat_inj.1
        rw [UInt8.toNat_ofNat']
        omega
      · intro h
        rw [h, UInt8.toNat_ofNat']
        omega
    rw [e1, e2]
    cases hb : (b == UInt8.ofNat n.toNat) with
    | true => simp
    | false =>
      simp only [cond_false]
      have e3 : (pre ++ [b]).length = pre.length + 1 := by simp
      rw [e3] at ih
      rw [ih]
      have e4 : (fun (i : Nat) => (pre ++ [b] ++ r)[i]! == UInt8.ofNat n.toNat) = fun (i : Nat) => (pre ++ b :: r)[i]! == UInt8.ofNat n.toNat := by
        funext i; simp
      rw [e4]


theorem run_isnil {t e : TypeId} (hu : P.underlying t = some (.slice e)) (ra : Option Addr) (len cap l2 c2 : Nat) (neg : Bool) :
    (binOp (if neg then .neq else .eql) t (.slice ra len cap) (.slice none l2 c2)).run P w = .ok (.bool (if neg then !ra.isNone else ra.isNone)) w := by
  have hq : (Op.equal t (.slice ra len cap) (.slice none l2 c2)).run P w = .ok ra.isNone w := by
    show (Op.equalIn (9999 + 1) t (.slice ra len cap) (.slice none l2 c2)).run P w = _
    unfold Op.equalIn
    simp only [Sem.run_bind, run_underlying hu, Result.andThen_ok]
    cases ra <;> rfl
  cases neg
  · show (do pure (.bool (← Op.equal t (.slice ra len cap) (.slice none l2 c2))) : Sem Value).run P w = _
    simp only [Sem.run_bind, hq, Result.andThen_ok, Sem.run_pure]
    rfl
  · show (do pure (.bool (!(← Op.equal t (.slice ra len cap) (.slice none l2 c2)))) : Sem Value).run P w = _
    simp only [Sem.run_bind, hq, Result.andThen_ok, Sem.run_pure]
    rfl

theorem exec_isnil {o : Oper} {t e ty : TypeId} {x y : Operand} (neg : Bool) (ho : o.op = .binOp (if neg then .neq else .eql) t x y ty) (hu : P.underlying t = some (.slice e)) (hny : isNilC y = true) {ra : Option Addr} {len cap : Nat} (hx : a.eval x = .slice ra len cap) :
    (execOp a.eval o).run P w = .ok (.value (.bool (if neg then !ra.isNone else ra.isNone))) w := by
  cases y with
  | const cv =>
    cases cv <;> simp only [isNilC, Bool.false_eq_true] at hny
    rename_i rb l2 c2
    cases rb with
    | some _ => simp at hny
    | none =>
      have hev : a.eval (.const (.slice none l2 c2)) = .slice none l2 c2 := rfl
      have hg : (eqGuard (if neg then .neq else .eql) t x (.const (.slice none l2 c2)) (.slice ra len cap) (.slice none l2 c2)).run P w = .ok () w := by
        cases neg <;> rfl
      simp only [execOp, ho, hx, hev, Sem.run_bind, hg, Result.andThen_ok, run_isnil hu, Sem.run_pure]
  | tmp _ => simp [isNilC] at hny
  | global _ => simp [isNilC] at hny
  | func _ => simp [isNilC] at hny

theorem sound_isnil (hr : R n gl G M fr h a w) {o : Oper} {t e ty : TypeId} {x1 y1 : Operand} (neg : Bool) (ho : o.op = .binOp (if neg then .neq else .eql) t x1 y1 ty) (hu : P.underlying t = some (.slice e)) (hny : isNilC y1 = true)
    {gf : Nat → Nat} {id : Nat} {y : Y} (he : nop gl gf id (lk fr) (lk h) (.isnil neg (co x1)) = some y) {Q : Exit → Act → World → Prop} : y.2.1 = [] ∧ o.wp P a w (PurePost (fun v _ => v = y.1) G M w o a h) Q := by
  have key : ∀ (ra : Option Addr) (len cap : Nat), a.eval x1 = .slice ra len cap → ∀ bb, ra.isNone = bb → ∀ rd, y = (.bool (if neg then !bb else bb), [], rd) → y.2.1 = [] ∧ o.wp P a w (PurePost (fun v _ => v = y.1) G M w o a h) Q := by
    intro ra len cap hra bb hbb rd hy
    subst hy hbb
    exact ⟨rfl, fin_pure hr (rv := .bool (if neg then !ra.isNone else ra.isNone)) (exec_isnil neg ho hu hny hra) rfl (.bool _)⟩
  simp only [nop, evF_lk] at he
  split at he
  · rename_i hv
    cases he
    have := ev_co hr hv
    generalize hev : a.eval x1 = r at this
    cases this
    exact key none 0 0 hev true rfl [] (by cases neg <;> rfl)
  · rename_i hv
    cases he
    have := ev_co hr hv
    generalize hev : a.eval x1 = r at this
    cases this with
    | sl xs cap rb ro rcap sz cells hne hG hsz hb hl hcc hh ho' => exact key (some ⟨rb, ro, none⟩) _ _ hev false rfl [] (by cases neg <;> rfl)
  · rename_i b g off len cap hv
    split at he
    · rename_i g' sz es hb
      obtain ⟨h1, h2⟩ := gd_some he
      cases h2
      have hgg : g' = g := by simpa using h1
      subst hgg
      obtain ⟨ra, rcap, mb, e1, hM, hg, hl, hcc, hh⟩ := ref_inv (ev_co hr hv)
      obtain ⟨mb0, q1, q2, q3, q4⟩ := hr.sim.hb b _ hb
      rw [hM] at q1; cases q1
      have hre := hh q2.symm
      have hsome : ∃ ad, ra = some ad := by
        unfold RefReal at hre
        split at hre
        · omega
        · rcases hre with ⟨e, -⟩ | ⟨e, -⟩
          · exact ⟨_, e⟩
          · omega
      obtain ⟨ad, rfl⟩ := hsome
      exact key (some ad) _ _ e1 false rfl [b] (by cases neg <;> rfl)
    · cases he
  · cases he

theorem kind_of {kt : TypeId} (hkk : keyKind P kt = true) : ∃ d, P.underlying kt = some d ∧ ((∃ j, d = .int j) ∨ d = .string) := by
  unfold keyKind at hkk
  split at hkk
  · rename_i j hj; exact ⟨_, hj, .inl ⟨j, rfl⟩⟩
  · rename_i hj; exact ⟨_, hj, .inr rfl⟩
  · cases hkk

/-- A key that a map is asked for fits the map's kind of keys, or the key is told apart by its own form. -/
theorem keyFit {k : V} {r : Value} {d : TypeDesc} (hr : RelV G M k r) (h : (match d, k with | .int j, .int j' _ => j' = j | .string, .str _ => True | _, _ => False)) : IsKey d r := by
  cases d <;> cases k <;> simp only at h
  · rw [relV_int_inv hr]; exact h
  · rw [relV_str_inv hr]; trivial

/-- New operations that leave the memory alone. -/
theorem nop_pure (hr : R n gl G M fr h a w) {o : Oper} {x : NOp} (hc : comp1N P o = some x ∨ x = .bad) (hp : x.pure = true) {gf : Nat → Nat} {id : Nat} {y : Y} (he : nop gl gf id (lk fr) (lk h) x = some y) {Q : Exit → Act → World → Prop} :
    y.2.1 = [] ∧ o.wp P a w (PurePost (fun v _ => v = y.1) G M w o a h) Q := by
  rcases hc with hc | rfl
  case inr => simp [nop] at he
  unfold comp1N at hc
  split at hc
  · rename_i op t x1 y1 ty ho
    split at hc
    · rename_i e hu
      split at hc
      · rename_i hny; cases hc; exact sound_isnil hr false ho hu hny he
      · cases hc
    · rename_i e hu
      split at hc
      · rename_i hny; cases hc; exact sound_isnil hr true ho hu hny he
      · cases hc
    · cases hc
  · cases hc; simp [NOp.pure] at hp
  · rename_i t m k ok ho
    split at hc
    · rename_i kt et hu
      split at hc
      · rename_i hkk
        cases hz : zeroOf P et with
        | none => rw [hz] at hc; cases hc
        | some z =>
          rw [hz] at hc; cases hc
          simp only [nop, evF_lk] at he
          split at he
          · rename_i b g kv hm hk
            split at he
            · rename_i g' es hb
              obtain ⟨h1, h2⟩ := gd_some he
              simp only [Bool.and_eq_true, decide_eq_true_eq] at h1
              obtain ⟨hgg, hkf⟩ := h1
              subst hgg
              obtain ⟨mb, rb, m1, m2, m3, m4, m5, entries, clock, m6, m7, m8⟩ := own_map hr.sim (ev_co hr hm) hb
              have rk := ev_co hr hk
              obtain ⟨z1, z2, -⟩ := zeroOf_spec hz
              obtain ⟨d, hd, hdk⟩ := kind_of hkk
              have hkey : IsKey d (a.eval k) := by
                rcases hdk with ⟨j, rfl⟩ | rfl
                · have hkd : keyOfD P kt = some (some j) := by simp [keyOfD, hd]
                  rw [hkd] at hkf
                  cases kv <;> simp only [keyFits, Bool.false_eq_true, decide_eq_true_eq] at hkf
                  rw [relV_int_inv rk]; exact hkf
                · have hkd : keyOfD P kt = some none := by simp [keyOfD, hd]
                  rw [hkd] at hkf
                  cases kv <;> simp only [keyFits, Bool.false_eq_true] at hkf
                  rw [relV_str_inv rk]; trivial
              have hrel : ∀ j, j < es.length → RelV G M ((es.getD j (.undef, .undef)).1) ((entries.toList.getD j default).key) ∧ RelV G M ((es.getD j (.undef, .undef)).2) ((entries.toList.getD j default).val) := fun j hj => by
                rw [toList_getD]; exact m8 j hj
              have fin : ∀ (rv : Value) (q : Option (Nat × Value)) (v : V) (fnd : Bool), Instr.findNow d (a.eval k) entries.toList 0 = some q → RelV G M v rv → (match q with | some (_, u) => rv = u ∧ fnd = true | none => rv = z ∧ fnd = false) →
                  o.wp P a w (PurePost (fun v' _ => v' = (bif ok then .tup [v, .bool fnd] else v)) G M w o a h) Q := by
                intro rv q v fnd hfn hrelv hq
                refine fin_pure hr (rv := if ok then .tuple #[rv, .bool fnd] else rv) ?_ rfl ?_
                · simp only [execOp, ho, Instr.lookup, Sem.run_bind, run_underlying hu, Result.andThen_ok, m5, MapKept.run_getObj_map m6, Sem.run_pure, MapKept.run_checkKey (n := 9999) hd hkey, MapKept.run_findKey hd hfn]
                  cases q with
                  | none => obtain ⟨rfl, rfl⟩ := hq; simp [z1]
                  | some ju => obtain ⟨j, u⟩ := ju; obtain ⟨rfl, rfl⟩ := hq; simp
                · cases ok
                  · exact hrelv
                  · exact .tup _ _ rfl (fun i hi => by
                      match i, hi with
                      | 0, _ => exact hrelv
                      | 1, _ => exact .bool _)
              cases hq : findV kv es 0 with
              | none => rw [hq] at h2; cases h2
              | some q =>
                have hfs := findV_spec (d := d) rk hkey es entries.toList 0 q hq (by simpa using m7) hrel
                rw [hq] at h2
                cases q with
                | none =>
                  cases h2
                  exact ⟨rfl, fin z none (vOfZ z) false hfs (relV_vOfZ G M z2) ⟨rfl, rfl⟩⟩
                | some iv =>
                  obtain ⟨i, v⟩ := iv
                  cases h2
                  obtain ⟨-, -, -, f4, f5⟩ := hfs
                  exact ⟨rfl, fin _ _ v true f4 f5 ⟨rfl, rfl⟩⟩
            · cases he
          · cases he
      · cases hc
    · cases hc
  · split at hc
    · split at hc
      · cases hc; simp [NOp.pure] at hp
      · cases hc
    · cases hc
  · split at hc
    · cases hc; simp [NOp.pure] at hp
    · cases hc
  · cases hc; simp [NOp.pure] at hp
  · rename_i c ho
    split at hc
    · rename_i f x1 y1 hcal hargs
      split at hc
      · rename_i hf
        cases hc
        simp only [nop, evF_lk] at he
        split at he
        · rename_i l nn hl hn
          obtain ⟨h1, h2⟩ := gd_some he
          cases h2
          simp only [Bool.and_eq_true, decide_eq_true_eq] at h1
          refine ⟨rfl, ?_⟩
          have es := relV_str_inv (ev_co hr hl)
          have en := relV_int_inv (ev_co hr hn)
          have ha2 := arr_two hargs
          unfold isIdxByte at hf
          split at hf
          · rename_i fn hfn
            simp only [Bool.and_eq_true, beq_iff_eq, Option.isNone_iff_eq_none] at hf
            obtain ⟨⟨hname, hbody⟩, hnext⟩ := hf
            have hfind : Extern.find fn = some Extern.BytealgIndexByte.indexByte := by
              have g1 : Extern.allGenericRows.lookup "internal/bytealg.IndexByteString" = none := by kernel_rfl
              have g2 : Extern.allTypedRows.lookup "internal/bytealg.IndexByteString" = none := by kernel_rfl
              have g3 : Extern.allRows.lookup "internal/bytealg.IndexByteString" = some Extern.BytealgIndexByte.indexByte := by kernel_rfl
              simp [Extern.find, hname, g1, g2, g3]
            have hrun : (Extern.BytealgIndexByte.indexByte #[.string ⟨l.toArray⟩, .int .u8 nn]).run P w = .ok (.int .i64 (idxOf nn l 0)) w := by
              have hsp := idxOf_spec nn h1 l []
              simp only [List.length_nil, List.nil_append] at hsp
              rw [hsp]
              have hsz : (⟨l.toArray⟩ : ByteArray).size = l.length := by simp [ByteArray.size]
              have hget : ∀ i : Nat, (⟨l.toArray⟩ : ByteArray)[i]! = l[i]! := fun i => by
                rcases Nat.lt_or_ge i l.length with hi | hi
                · rw [getElem!_pos (⟨l.toArray⟩ : ByteArray) i (by rw [hsz]; exact hi), getElem!_pos l i hi]; rfl
                · rw [getElem!_neg (⟨l.toArray⟩ : ByteArray) i (by rw [hsz]; omega), getElem!_neg l i (by omega)]
              have hb8 : nn.toNat.toUInt8 = UInt8.ofNat nn.toNat := rfl
              show (do
                let b ← Extern.Bytes.bytesOf (.string ⟨l.toArray⟩)
                let c ← Extern.Bytes.asByte (.int .u8 nn)
                match (List.range b.size).find? fun i => b[i]! == c with
                | some i => pure (goInt i)
                | none => pure (goInt (-1)) : Sem Value).run P w = _
              simp only [Extern.Bytes.bytesOf, Extern.Bytes.asByte, Sem.run_bind, Sem.run_pure, Result.andThen_ok, hsz, hget, hb8, List.range_eq_range']
              cases hq : (List.range' 0 l.length).find? (fun (i : Nat) => l[i]! == UInt8.ofNat nn.toNat) with
              | none => rfl
              | some i => rfl
            refine fin_pure hr (rv := .int .i64 (idxOf nn l 0)) ?_ rfl (.int _ _)
            have hfv : a.eval (.func f) = .func (.func f) #[] #[] := rfl
            have hcall : (callFunc f #[.string ⟨l.toArray⟩, .int .u8 nn]).run P w = .ok (.value (.int .i64 (idxOf nn l 0))) w := by
              have hne : (fn.name == "runtime.NumGoroutine") = false := by rw [hname]; rfl
              simp [callFunc, hfn, hname, hbody, hnext, hfind, hrun]
            simp [execOp, ho, resolve, hcal, hfv, Deferred.ofValue, invoke, ha2, es, en, hcall]
          · cases hf
        · cases he
      · cases hc
    · cases hc
  · cases hc

theorem sim_new {o : Obj} (hs : Sim G M h w) (id : Nat) (mb : MB) (k : Blk) (hgen : mb.gen = freshGen M id) (hreal : mb.real = some w.heap.size) (hk : ∀ M', M' id = some mb → BlkRel G M' (w.alloc o) id k) :
    Sim G (upd M id mb) ((id, k) :: h) (w.alloc o) ∧ Ext G M w G (upd M id mb) (w.alloc o) := by
  refine hs.change id mb k (fun mb0 h0 => .inl (by rw [hgen]; simp [freshGen, h0])) (fun rb hrb => ?_) (by show _ ≤ (w.heap.push o).size; simp) (fun q hq hne => (MapKept.heap_alloc w o).2 q hq) (fun _ _ _ _ => trivial) rfl rfl rfl (hk _ (upd_same _ _ _))
  rw [hreal] at hrb
  cases hrb
  exact .inl ⟨Nat.le_refl _, by show _ < (w.heap.push o).size; simp⟩

/-- New operations that change the memory. -/
theorem nop_loud (hr : R n gl G M fr h a w) {o : Oper} {x : NOp} (hc : comp1N P o = some x ∨ x = .bad) (hp : x.pure = false) {id : Nat} {y : Y} (he : nop gl (freshGen M) id (lk fr) (lk h) x = some y) {Q : Exit → Act → World → Prop} :
    o.wp P a w (OpPost h id (fun v h' => v = y.1 ∧ h' = y.2.1 ++ h) G M w o a) Q := by
  rcases hc with hc | rfl
  case inr => simp [NOp.pure] at hp
  unfold comp1N at hc
  split at hc
  · split at hc
    · split at hc
      · cases hc; simp [NOp.pure] at hp
      · cases hc
    · split at hc
      · cases hc; simp [NOp.pure] at hp
      · cases hc
    · cases hc
  · rename_i t ho
    cases hc
    simp only [nop, Option.some.injEq] at he
    subst he
    obtain ⟨s1, s2⟩ := sim_new (o := .map #[] 0) hr.sim id ⟨freshGen M id, 0, 0, 0, some w.heap.size⟩ (.map (freshGen M id) []) rfl rfl (fun M' hM' => ⟨_, w.heap.size, hM', rfl, rfl, rfl, #[], 0, (MapKept.heap_alloc w _).1, rfl, fun i hi => by simp at hi⟩)
    exact fin_value (rv := .map (some w.heap.size)) (by simp [execOp, ho, Instr.makeMap]) ⟨rfl, rfl⟩ (.own _ _ _ _ (upd_same _ _ _) (Nat.le_refl _) rfl fun _ => ⟨w.heap.size, rfl, rfl⟩) s1 s2 (fun b hb _ => freshGen_upd _ _ _ _ hb)
  · split at hc
    · split at hc
      · rename_i z _
        cases hz : zeroOf P _ with
        | none => rw [hz] at hc; cases hc
        | some z => rw [hz] at hc; cases hc; simp [NOp.pure] at hp
      · cases hc
    · cases hc
  · rename_i t m k v ho
    split at hc
    · rename_i kt et hu
      split at hc
      · rename_i hkk
        cases hc
        simp only [nop, evF_lk] at he
        split at he
        · rename_i b g kv vv hm hk hv
          split at he
          · rename_i g' es hb
            obtain ⟨h1, h2⟩ := gd_some he
            simp only [Bool.and_eq_true, decide_eq_true_eq] at h1
            obtain ⟨hgg, hkf⟩ := h1
            subst hgg
            obtain ⟨mb, rb, m1, m2, m3, m4, m5, entries, clock, m6, m7, m8⟩ := own_map hr.sim (ev_co hr hm) hb
            have rk := ev_co hr hk
            have rv := ev_co hr hv
            obtain ⟨d, hd, hdk⟩ := kind_of hkk
            have hkey : IsKey d (a.eval k) := by
              rcases hdk with ⟨j, rfl⟩ | rfl
              · have hkd : keyOfD P kt = some (some j) := by simp [keyOfD, hd]
                rw [hkd] at hkf
                cases kv <;> simp only [keyFits, Bool.false_eq_true, decide_eq_true_eq] at hkf
                rw [relV_int_inv rk]; exact hkf
              · have hkd : keyOfD P kt = some none := by simp [keyOfD, hd]
                rw [hkd] at hkf
                cases kv <;> simp only [keyFits, Bool.false_eq_true] at hkf
                rw [relV_str_inv rk]; trivial
            have hrel : ∀ j, j < es.length → RelV G M ((es.getD j (.undef, .undef)).1) ((entries.toList.getD j default).key) ∧ RelV G M ((es.getD j (.undef, .undef)).2) ((entries.toList.getD j default).val) := fun j hj => by
              rw [toList_getD]; exact m8 j hj
            have hrb : rb < w.heap.size := (Array.getElem?_eq_some_iff.1 m6).1
            have hchg : ∀ (es' : List (V × V)) (entries' : Array MapEntry) (clock' : Nat), entries'.size = es'.length → (∀ i, i < es'.length → RelV G M ((es'.getD i (.undef, .undef)).1) ((entries'.getD i default).key) ∧ RelV G M ((es'.getD i (.undef, .undef)).2) ((entries'.getD i default).val)) →
                Sim G (upd M b mb) ((b, .map g' es') :: h) { w with heap := w.heap.setIfInBounds rb (.map entries' clock') } ∧ Ext G M w G (upd M b mb) { w with heap := w.heap.setIfInBounds rb (.map entries' clock') } := by
              intro es' entries' clock' hsz hall
              have hle2 : M.le (upd M b mb) := MMap.le_upd fun m' hm' => .inr (by rw [m1] at hm'; cases hm'; rfl)
              refine hr.sim.change b mb (.map g' es') (fun m' hm' => .inr (by rw [m1] at hm'; cases hm'; rfl)) (fun r hr' => .inr ⟨mb, m1, hr'⟩) (by simp) (fun q hq hne => ?_) (fun _ _ _ _ => trivial) rfl rfl rfl ?_
              · exact (MapKept.heap_set m6).2 q (fun e => hne (by rw [m3, e]))
              · exact ⟨mb, rb, upd_same _ _ _, m2, m3, m4, entries', clock', (MapKept.heap_set m6).1, hsz, fun i hi => ⟨(hall i hi).1.mono G.le_refl hle2, (hall i hi).2.mono G.le_refl hle2⟩⟩
            have hfresh : ∀ b', b' ≠ id → lk h b' = none → freshGen (upd M b mb) b' = freshGen M b' := fun b' _ h0 => by
              exact freshGen_upd _ _ _ _ (fun e => by subst e; rw [hb] at h0; cases h0)
            cases hq : findV kv es 0 with
            | none => rw [hq] at h2; cases h2
            | some q =>
              have hfs := findV_spec (d := d) rk hkey es entries.toList 0 q hq (by simpa using m7) hrel
              rw [hq] at h2
              cases q with
              | none =>
                cases h2
                obtain ⟨s1, s2⟩ := hchg (es ++ [(kv, vv)]) (entries.push { key := a.eval k, val := a.eval v, born := clock }) (clock + 1) (by simp [m7]) (fun i hi => by
                  simp only [List.length_append, List.length_singleton] at hi
                  by_cases hie : i < es.length
                  · have := m8 i hie
                    have e1 : (es ++ [(kv, vv)]).getD i (.undef, .undef) = es.getD i (.undef, .undef) := by simp only [List.getD_eq_getElem?_getD, List.getElem?_append_left hie]
                    have e2 : (entries.push { key := a.eval k, val := a.eval v, born := clock }).getD i default = entries.getD i default := by
                      simp only [Array.getD_eq_getD_getElem?, Array.getElem?_push]
                      rw [if_neg (by omega)]
                    rw [e1, e2]; exact this
                  · have hie' : i = es.length := by omega
                    subst hie'
                    have e1 : (es ++ [(kv, vv)]).getD es.length (.undef, .undef) = (kv, vv) := by simp [List.getD_eq_getElem?_getD]
                    have e2 : (entries.push { key := a.eval k, val := a.eval v, born := clock }).getD es.length default = { key := a.eval k, val := a.eval v, born := clock } := by
                      simp only [Array.getD_eq_getD_getElem?, Array.getElem?_push]
                      rw [if_pos (by omega)]; rfl
                    rw [e1, e2]; exact ⟨rk, rv⟩)
                refine fin_skip ?_ ⟨rfl, rfl⟩ s1 s2 hfresh
                simp only [execOp, ho, Instr.mapUpdate, Sem.run_bind, run_underlying hu, Result.andThen_ok, m5, MapKept.run_getObj_map m6, Sem.run_pure, MapKept.run_checkKey (n := 9999) hd hkey, MapKept.run_findKey hd hfs, MapKept.run_setObj_map _ m6]
              | some iv =>
                obtain ⟨i, v0⟩ := iv
                cases h2
                obtain ⟨-, f2, f3, f4, f5⟩ := hfs
                rw [Nat.sub_zero] at f2 f3 f4 f5
                have hie : i < entries.size := by omega
                have hget : entries[i]? = some (entries[i]'hie) := Array.getElem?_eq_getElem hie
                have hkey' : (entries[i]'hie).key = a.eval k := by
                  rw [List.getD_eq_getElem?_getD, Array.getElem?_toList, hget] at f3
                  exact f3
                obtain ⟨s1, s2⟩ := hchg (es.set i (kv, vv)) (entries.modify i fun e => { e with key := a.eval k, val := a.eval v }) clock (by simp [m7]) (fun j hj => by
                  simp only [List.length_set] at hj
                  by_cases hji : j = i
                  · subst hji
                    have e1 : (es.set j (kv, vv)).getD j (.undef, .undef) = (kv, vv) := by simp [List.getD_eq_getElem?_getD, hj]
                    have e2 : (entries.modify j fun e => { e with key := a.eval k, val := a.eval v }).getD j default = { (entries[j]'hie) with key := a.eval k, val := a.eval v } := by
                      simp [Array.getD_eq_getD_getElem?, Array.getElem?_modify, Array.getElem_modify, hie]
                    rw [e1, e2]; exact ⟨rk, rv⟩
                  · have e1 : (es.set i (kv, vv)).getD j (.undef, .undef) = es.getD j (.undef, .undef) := by simp only [List.getD_eq_getElem?_getD, List.getElem?_set]; rw [if_neg (Ne.symm hji)]
                    have e2 : (entries.modify i fun e => { e with key := a.eval k, val := a.eval v }).getD j default = entries.getD j default := by
                      simp only [Array.getD_eq_getD_getElem?, Array.getElem?_modify]
                      rw [if_neg (Ne.symm hji)]
                    rw [e1, e2]; exact m8 j hj)
                refine fin_skip ?_ ⟨rfl, rfl⟩ s1 s2 hfresh
                simp only [execOp, ho, Instr.mapUpdate, Sem.run_bind, run_underlying hu, Result.andThen_ok, m5, MapKept.run_getObj_map m6, Sem.run_pure, MapKept.run_checkKey (n := 9999) hd hkey, MapKept.run_findKey hd f4, hget, Option.map_some, Option.getD_some, hkey', MapKept.run_keyThatStays hkey, MapKept.run_setObj_map _ m6]
          · cases he
        · cases he
      · cases hc
    · cases hc
  · rename_i t x1 ho
    split at hc
    · rename_i hu
      cases hc
      simp only [nop, evF_lk] at he
      split at he
      · rename_i s hx
        simp only [Option.some.injEq] at he
        subst he
        have ex := relV_str_inv (ev_co hr hx)
        obtain ⟨s1, s2⟩ := sim_new (o := .stringIter ⟨s.toArray⟩ 0) hr.sim id ⟨freshGen M id, 1, 0, 0, some w.heap.size⟩ (.siter (freshGen M id) s 0) rfl rfl (fun M' hM' => ⟨_, w.heap.size, hM', rfl, rfl, rfl, (MapKept.heap_alloc w _).1⟩)
        exact fin_value (rv := .pointer (some ⟨w.heap.size, 0, none⟩)) (by simp [execOp, ho, Instr.range, run_underlying hu, Result.andThen, ex]) ⟨rfl, rfl⟩ (.own _ _ _ _ (upd_same _ _ _) (Nat.le_refl _) rfl fun _ => ⟨w.heap.size, rfl, rfl⟩) s1 s2 (fun b hb _ => freshGen_upd _ _ _ _ hb)
      · cases he
    · cases hc
  · rename_i it ho
    cases hc
    simp only [nop, evF_lk] at he
    split at he
    · rename_i b g hx
      split at he
      · rename_i g' s pos hb
        obtain ⟨h1, h2⟩ := gd_some he
        have hgg : g' = g := by simpa using h1
        subst hgg
        obtain ⟨mb, rb, m1, m2, m3, m4, m5, m6⟩ := own_iter hr.sim (ev_co hr hx) hb
        have hrb : rb < w.heap.size := (Array.getElem?_eq_some_iff.1 m6).1
        have hfresh : ∀ b', b' ≠ id → lk h b' = none → freshGen (upd M b mb) b' = freshGen M b' := fun b' _ h0 => by
          exact freshGen_upd _ _ _ _ (fun e => by subst e; rw [hb] at h0; cases h0)
        have hgetO : (getObj rb).run P w = .ok (.stringIter ⟨s.toArray⟩ pos) w := by simp [getObj, Sem.run, m6]
        have hsz : (⟨s.toArray⟩ : ByteArray).size = s.length := by simp [ByteArray.size]
        cases hd : decide (pos < s.length) with
        | true =>
          have hlt : pos < s.length := by simpa using hd
          rw [hd] at h2
          simp only [cond_true, Option.some.injEq] at h2
          subst h2
          have hset : ∀ o' : Obj, (setObj rb o').run P w = .ok () { w with heap := w.heap.setIfInBounds rb o' } := fun o' => by simp [setObj, Sem.run, m6]
          obtain ⟨s1, s2⟩ : Sim G (upd M b mb) ((b, .siter g' s (pos + (Utf8.decode ⟨s.toArray⟩ pos).2)) :: h) { w with heap := w.heap.setIfInBounds rb (.stringIter ⟨s.toArray⟩ (pos + (Utf8.decode ⟨s.toArray⟩ pos).2)) } ∧ Ext G M w G (upd M b mb) { w with heap := w.heap.setIfInBounds rb (.stringIter ⟨s.toArray⟩ (pos + (Utf8.decode ⟨s.toArray⟩ pos).2)) } := by
            refine hr.sim.change b mb _ (fun m' hm' => .inr (by rw [m1] at hm'; cases hm'; rfl)) (fun r hr' => .inr ⟨mb, m1, hr'⟩) (by simp) (fun q hq hne => ?_) (fun _ _ _ _ => trivial) rfl rfl rfl ?_
            · exact (MapKept.heap_set m6).2 q (fun e => hne (by rw [m3, e]))
            · exact ⟨mb, rb, upd_same _ _ _, m2, m3, m4, (MapKept.heap_set m6).1⟩
          refine fin_value (rv := .tuple #[.bool true, .int .i64 pos, .int .i32 (Utf8.decode ⟨s.toArray⟩ pos).1]) ?_ ⟨rfl, rfl⟩ (.tup _ _ rfl fun i hi => ?_) s1 s2 hfresh
          · simp only [execOp, ho, Instr.next, m5, Sem.run_bind, hgetO, Result.andThen_ok, hsz, if_pos hlt, hset, Sem.run_pure]
            rfl
          · match i, hi with
            | 0, _ => exact .bool _
            | 1, _ => exact .int _ _
            | 2, _ => exact .int _ _
        | false =>
          have hlt : ¬ pos < s.length := by simpa using hd
          rw [hd] at h2
          simp only [cond_false, Option.some.injEq] at h2
          subst h2
          obtain ⟨s1, s2⟩ : Sim G (upd M b mb) ((b, .siter g' s pos) :: h) w ∧ Ext G M w G (upd M b mb) w := by
            refine hr.sim.change b mb _ (fun m' hm' => .inr (by rw [m1] at hm'; cases hm'; rfl)) (fun r hr' => .inr ⟨mb, m1, hr'⟩) (Nat.le_refl _) (fun q hq hne => rfl) (fun _ _ _ _ => trivial) rfl rfl rfl ?_
            exact ⟨mb, rb, upd_same _ _ _, m2, m3, m4, m6⟩
          refine fin_value (rv := .tuple #[.bool false]) ?_ ⟨rfl, rfl⟩ (.tup _ _ rfl fun i hi => ?_) s1 s2 hfresh
          · simp only [execOp, ho, Instr.next, m5, Sem.run_bind, hgetO, Result.andThen_ok, hsz, if_neg hlt, Sem.run_pure]
          · match i, hi with
            | 0, _ => exact .bool _
      · cases he
    · cases he
  · split at hc
    · split at hc
      · cases hc; simp [NOp.pure] at hp
      · cases hc
    · cases hc
  · cases hc
end
end Go.Proofs.YtcdfifbabhfknaaDoor
