/- Netlists: a valid circuit with one change. Conditions: none. -/
import Derived.Test.YtcdfifbabhfknaaDoorNet19
namespace Go.Proofs.YtcdfifbabhfknaaDoor
open Go
theorem errs_mix {e : Int} (he : e ≠ 0) : ∀ {l : List Int} {t : Int}, (∀ x ∈ l, x = 0 ∨ x = e) → e ∈ l → errs l t = e
  | [], _, _, hx => by simp at hx
  | x :: l, t, h, hx => by
    simp only [errs]
    rcases h x List.mem_cons_self with rfl | rfl
    · rw [if_neg (by simp)]
      refine errs_mix he (fun y hy => h y (List.mem_cons_of_mem _ hy)) ?_
      rcases List.mem_cons.1 hx with rfl | q
      · exact absurd rfl he
      · exact q
    · rw [if_pos he]
variable {c : Ci} {n : Nat}
theorem setn_nd (x : Nd) (h : n < c.n.length) (i : Nat) : (({ c with n := c.n.set n x } : Ci).nd i) = if i = n then x else c.nd i := by
  by_cases hi : i = n
  · subst hi; simp [Ci.nd, List.getD_eq_getElem?_getD, h]
  · rw [if_neg hi]
    simp [Ci.nd, List.getD_eq_getElem?_getD, List.getElem?_set_ne (Ne.symm hi)]
theorem setn_ndE {x : Nd} (h : n < c.n.length) (hk : x.k = (c.nd n).k) (y : Nd) : ndE { c with n := c.n.set n x } y = ndE c y := by
  unfold ndE
  have h1 : ∀ v : Int, ((({ c with n := c.n.set n x } : Ci).nd v.toNat)).k = (c.nd v.toNat).k := fun v => by
    rw [setn_nd x h]
    split
    · rename_i e; rw [hk, ← e]
    · rfl
  simp only [h1, List.length_set]
  rfl
theorem setn_ndE' {i : List Int} {a b : Int} (h : n < c.n.length) (y : Nd) : ndE { c with n := c.n.set n ⟨(c.nd n).k, i, a, b⟩ } y = ndE c y := setn_ndE (x := ⟨(c.nd n).k, i, a, b⟩) h rfl y
theorem sp_node {x : Nd} {e : Int} (hs : shE c = 0) (h : n < c.n.length) (he : e ≠ 0) (hself : ndE { c with n := c.n.set n x } x = e) (hoth : ∀ y ∈ c.n, ndE { c with n := c.n.set n x } y = 0 ∨ ndE { c with n := c.n.set n x } y = e) : shE { c with n := c.n.set n x } = e := by
  obtain ⟨h1, h2, h3, h4, h5, h6⟩ := sh_zero hs
  have e1 : shBig { c with n := c.n.set n x } = false := by
    have : shBig { c with n := c.n.set n x } = shBig c := by unfold shBig; simp only [List.length_set]
    rw [this]; exact h1
  unfold shE
  rw [if_neg (by simp [e1]), if_neg (by simpa using h2), shN]
  refine errs_mix he (fun z hz => ?_) ?_
  · obtain ⟨y, hy, rfl⟩ := List.mem_map.1 hz
    rcases List.mem_or_eq_of_mem_set hy with q | rfl
    · exact hoth y q
    · exact .inr hself
  · refine List.mem_map.2 ⟨x, ?_, hself⟩
    exact List.mem_iff_getElem.2 ⟨n, by simpa using h, by simp⟩
theorem chk_of {c : Ci} {e : Int} (h : shE c = e) (he : e ≠ 0) : chkE c = e := by
  unfold chkE
  rw [if_pos (by rw [h]; exact he), h]
section
variable (hs : shE c = 0) (h : n < c.n.length)
include hs h
theorem nd_facts : (c.nd n).k ≤ 15 ∧ widB (c.nd n).k (c.nd n).i.length = true ∧ (c.nd n).i.any (outB c.n.length) = false ∧ ((c.nd n).k = 13 → (c.nd n).i.any (fun v => !decide ((c.nd v.toNat).k = 12)) = false) ∧ bitB c (c.nd n) = true := by
  obtain ⟨h1, h2, h3, h4, h5, h6⟩ := sh_zero hs
  exact nd_zero (h3 _ (by rw [c.nd_get h]; exact List.getElem_mem h))
theorem sp_oth {x : Nd} (hk : x.k = (c.nd n).k) {e : Int} : ∀ y ∈ c.n, ndE { c with n := c.n.set n x } y = 0 ∨ ndE { c with n := c.n.set n x } y = e := fun y hy => .inl (by
  rw [setn_ndE h hk]
  exact (sh_zero hs).2.2.1 y hy)
/-- Another kind. -/
theorem sp_kind {k : Int} (hk : 15 < k) : chkE { c with n := c.n.set n ⟨k, (c.nd n).i, (c.nd n).a, (c.nd n).b⟩ } = 7 := by
  refine chk_of (sp_node hs h (by omega) ?_ fun y hy => ?_) (by omega)
  · unfold ndE; rw [if_pos hk]
  · obtain ⟨q1, q2, q3, q4, q5⟩ := nd_zero ((sh_zero hs).2.2.1 y hy)
    unfold ndE
    simp only [List.length_set]
    rw [if_neg (by omega), if_neg (by simp [q2]), if_neg (by simp [q3])]
    split
    · exact .inr rfl
    · left
      rw [if_neg]
      show ¬ (bitB c y = false)
      simp [q5]
/-- Too many inputs. -/
theorem sp_wide {l : List Int} (hl : l.length = 17) (h0 : 0 ≤ (c.nd n).k) : chkE { c with n := c.n.set n ⟨(c.nd n).k, l, (c.nd n).a, (c.nd n).b⟩ } = 8 := by
  obtain ⟨q1, q2, q3, q4, q5⟩ := nd_facts hs h
  refine chk_of (sp_node hs h (by omega) ?_ fun y hy => .inl (by rw [setn_ndE' h]; exact (sh_zero hs).2.2.1 y hy)) (by omega)
  have hw : widB (c.nd n).k 17 = false := by
    generalize (c.nd n).k = k at *
    exact kind_cases h0 (by omega) (Q := fun k => widB k 17 = false) (by decide)
  unfold ndE
  simp only [hl]
  rw [if_neg (by omega), if_pos hw]
/-- A net that is none. -/
theorem sp_net {v : Int} (hv : (c.n.length : Int) ≤ v) (hl : 0 < (c.nd n).i.length) : chkE { c with n := c.n.set n ⟨(c.nd n).k, (c.nd n).i.set 0 v, (c.nd n).a, (c.nd n).b⟩ } = 1 := by
  obtain ⟨q1, q2, q3, q4, q5⟩ := nd_facts hs h
  refine chk_of (sp_node hs h (by omega) ?_ fun y hy => .inl (by rw [setn_ndE' h]; exact (sh_zero hs).2.2.1 y hy)) (by omega)
  unfold ndE
  simp only [List.length_set]
  rw [if_neg (by omega), if_neg (by simp [q2]), if_pos]
  rw [List.any_eq_true]
  exact ⟨v, List.mem_iff_getElem.2 ⟨0, by simpa using hl, by simp⟩, by simp [outB]; omega⟩
/-- A wrong bit, a wrong memory. -/
theorem sp_bit {a b : Int} (hb : bitB c ⟨(c.nd n).k, (c.nd n).i, a, b⟩ = false) : chkE { c with n := c.n.set n ⟨(c.nd n).k, (c.nd n).i, a, b⟩ } = 1 := by
  obtain ⟨q1, q2, q3, q4, q5⟩ := nd_facts hs h
  refine chk_of (sp_node hs h (by omega) ?_ fun y hy => .inl (by rw [setn_ndE' h]; exact (sh_zero hs).2.2.1 y hy)) (by omega)
  rw [setn_ndE' h]
  unfold ndE
  simp only []
  rw [if_neg (by omega), if_neg (by simp [q2]), if_neg (by simp [q3]), if_neg, if_pos hb]
  rintro ⟨hk, hq⟩
  rw [q4 hk] at hq; cases hq
/-- A loop of one. -/
theorem sp_loop (hk : combB (c.nd n).k = true) (h13 : (c.nd n).k ≠ 13) (hl : 0 < (c.nd n).i.length) : chkE { c with n := c.n.set n ⟨(c.nd n).k, (c.nd n).i.set 0 (n : Int), (c.nd n).a, (c.nd n).b⟩ } = 6 := by
  obtain ⟨q1, q2, q3, q4, q5⟩ := nd_facts hs h
  have hsh : shE { c with n := c.n.set n ⟨(c.nd n).k, (c.nd n).i.set 0 (n : Int), (c.nd n).a, (c.nd n).b⟩ } = 0 := by
    obtain ⟨h1, h2, h3, h4, h5, h6⟩ := sh_zero hs
    have e1 : shBig { c with n := c.n.set n ⟨(c.nd n).k, (c.nd n).i.set 0 (n : Int), (c.nd n).a, (c.nd n).b⟩ } = false := by
      have : shBig { c with n := c.n.set n ⟨(c.nd n).k, (c.nd n).i.set 0 (n : Int), (c.nd n).a, (c.nd n).b⟩ } = shBig c := by unfold shBig; simp only [List.length_set]
      rw [this]; exact h1
    unfold shE
    rw [if_neg (by simp [e1]), if_neg (by simpa using h2), shN, errs_all, shS]
    · rw [if_neg (by simpa using h4), shM, errs_all, shO, if_neg]
      · simpa using h6
      · intro e he
        obtain ⟨m, hm, rfl⟩ := List.mem_map.1 he
        have := h5 m hm
        unfold mdE at this ⊢
        simpa using this
    · intro e he
      obtain ⟨y, hy, rfl⟩ := List.mem_map.1 he
      rw [setn_ndE' h]
      rcases List.mem_or_eq_of_mem_set hy with r | rfl
      · exact h3 y r
      · have hany : ((c.nd n).i.set 0 (n : Int)).any (outB c.n.length) = false := by
          rw [List.any_eq_false] at q3 ⊢
          intro v hv
          rcases List.mem_or_eq_of_mem_set hv with r | rfl
          · exact q3 v r
          · simp [lt_outB h]
        unfold ndE
        simp only [List.length_set]
        rw [if_neg (by omega), if_neg (by simp [q2]), if_neg (by simp [hany]), if_neg (by simp [h13]), if_neg]
        show ¬ (bitB c (c.nd n) = false)
        simp [q5]
  unfold chkE
  rw [if_neg (by simp [hsh]), if_neg]
  rintro ⟨f, hf⟩
  have h1 := hf n (by simpa using h)
  have h2 : n ∈ ({ c with n := c.n.set n ⟨(c.nd n).k, (c.nd n).i.set 0 (n : Int), (c.nd n).a, (c.nd n).b⟩ } : Ci).g n := by
    unfold Ci.g
    rw [setn_nd _ h, if_pos rfl]
    simp only [hk, if_true]
    exact List.mem_map.2 ⟨(n : Int), List.mem_iff_getElem.2 ⟨0, by simpa using hl, by simp⟩, by simp⟩
  have := le_mx (f := f) h2
  omega
end
theorem nm_good : ∀ {l seen : List (List UInt8)}, nmBad seen l = false → (∀ x ∈ l, nameOk x = true ∧ x ∉ seen) ∧ l.Nodup
  | [], _, _ => ⟨by simp, List.nodup_nil⟩
  | x :: l, seen, h => by
    simp only [nmBad, Bool.or_eq_false_iff, Bool.not_eq_false'] at h
    obtain ⟨⟨h1, h2⟩, h3⟩ := h
    obtain ⟨q1, q2⟩ := nm_good h3
    refine ⟨fun y hy => ?_, List.nodup_cons.2 ⟨fun hx => ?_, q2⟩⟩
    · rcases List.mem_cons.1 hy with rfl | r
      · exact ⟨h1, fun hm => by simp [hm] at h2⟩
      · exact ⟨(q1 y r).1, fun hm => (q1 y r).2 (List.mem_append_left _ hm)⟩
    · exact (q1 x hx).2 (by simp)
section
variable (hs : shE c = 0)
include hs
/-- Wrong names. -/
theorem sp_names {s : List (List UInt8)} (hl : s.length = c.n.length) (hb : nmBad [] s = true) : chkE { c with s := s } = 5 := by
  obtain ⟨h1, h2, h3, h4, h5, h6⟩ := sh_zero hs
  refine chk_of ?_ (by omega)
  unfold shE
  have e1 : shBig { c with s := s } = false := h1
  rw [if_neg (by rw [e1]; simp), if_neg (by simp [hl]), shN, errs_all, shS, if_pos hb]
  intro e he
  obtain ⟨y, hy, rfl⟩ := List.mem_map.1 he
  exact h3 y hy
theorem sp_count {s : List (List UInt8)} (hl : s.length ≠ c.n.length) : chkE { c with s := s } = 8 := by
  obtain ⟨h1, h2, h3, h4, h5, h6⟩ := sh_zero hs
  refine chk_of ?_ (by omega)
  unfold shE
  have e1 : shBig { c with s := s } = false := h1
  rw [if_neg (by rw [e1]; simp), if_pos hl]
/-- One more output, that is none. -/
theorem sp_out {v : Int} (hv : v < 0) (hl : c.o.length ≤ 100) : chkE { c with o := c.o ++ [v] } = 1 := by
  obtain ⟨h1, h2, h3, h4, h5, h6⟩ := sh_zero hs
  refine chk_of ?_ (by omega)
  simp only [shBig, Bool.or_eq_false_iff, decide_eq_false_iff_not] at h1
  unfold shE
  rw [if_neg (by simp [shBig]; omega), if_neg (by simpa using h2), shN, errs_all, shS]
  · rw [if_neg (by simpa using h4), shM, errs_all, shO, if_pos]
    · simp [outB, hv]
    · intro e he
      obtain ⟨m, hm, rfl⟩ := List.mem_map.1 he
      exact h5 m hm
  · intro e he
    obtain ⟨y, hy, rfl⟩ := List.mem_map.1 he
    exact h3 y hy
/-- One more memory, that is none. -/
theorem sp_mem {m : Md} {e : Int} (hm : mdE c m = e) (he : e ≠ 0) (hl : c.m.length ≤ 10) : chkE { c with m := c.m ++ [m] } = e := by
  obtain ⟨h1, h2, h3, h4, h5, h6⟩ := sh_zero hs
  refine chk_of ?_ he
  simp only [shBig, Bool.or_eq_false_iff, decide_eq_false_iff_not] at h1
  unfold shE
  rw [if_neg (by simp [shBig]; omega), if_neg (by simpa using h2), shN, errs_all, shS]
  · rw [if_neg (by simpa using h4), shM]
    refine errs_mix he (fun z hz => ?_) ?_
    · obtain ⟨x, hx, rfl⟩ := List.mem_map.1 hz
      rcases List.mem_append.1 hx with q | q
      · exact .inl (h5 x q)
      · rw [List.mem_singleton.1 q]; exact .inr hm
    · exact List.mem_map.2 ⟨m, by simp, hm⟩
  · intro z hz
    obtain ⟨y, hy, rfl⟩ := List.mem_map.1 hz
    have h0 := h3 y hy
    obtain ⟨q1, q2, q3, q4, q5⟩ := nd_zero h0
    have hb : bitB { c with m := c.m ++ [m] } y = true := by
      unfold bitB at q5 ⊢
      split
      · rename_i hk
        rw [if_pos hk] at q5
        simp only [Bool.and_eq_true, decide_eq_true_eq] at q5 ⊢
        obtain ⟨⟨⟨r1, r2⟩, r3⟩, r4⟩ := q5
        refine ⟨⟨⟨r1, by simp; omega⟩, r3⟩, ?_⟩
        rw [List.getD_eq_getElem?_getD, List.getElem?_append_left (by omega), ← List.getD_eq_getElem?_getD]
        exact r4
      · rename_i hk
        rwa [if_neg hk] at q5
    unfold ndE
    rw [if_neg (by omega), if_neg (by simp [q2]), if_neg (by simpa using q3), if_neg, if_neg (by simp [hb])]
    rintro ⟨hk, hq⟩
    have := q4 hk
    simp [Ci.nd] at hq this
    obtain ⟨v, hv, hq⟩ := hq
    exact hq (this v hv)
end
end Go.Proofs.YtcdfifbabhfknaaDoor
