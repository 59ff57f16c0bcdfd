/- What an operation comes to is what the model's comes to. No program stands in it. Conditions: none. -/
import Derived.Test.YtcdfifbabhfknaaDoorCore18
namespace Go.Proofs.YtcdfifbabhfknaaDoor
open Go

def isPure : IOp → Bool
  | .box _ | .alloc _ | .buildSl .. | .store .. | .mksl .. | .call .. | .app .. | .copy .. => false
  | .n x => x.pure
  | _ => true

section
variable {P : Program} {gl : Fr} {n : Nat} {fr : Fr} {h : Hp} {G : GMap} {M : MMap} {a : Act} {w : World} {gf : Nat → Nat}

theorem fillO_W : ∀ {l : List (Nat × Nat × V)} {cs r : List V} {K : List V → Prop}, fillO cs l = some r → K r → fillW cs K l
  | [], cs, r, K, h, hk => by simp only [fillO, Option.some.injEq] at h; subst h; exact hk
  | (o, s, v) :: l, cs, r, K, h, hk => by
    simp only [fillO] at h
    obtain ⟨h1, h2⟩ := gd_some h
    simp only [Bool.and_eq_true, decide_eq_true_eq] at h1
    exact ⟨h1.1.1, h1.1.2, h1.2, fillO_W h2 hk⟩

theorem elemsO_W {sz : Nat} {v : V} {r : List V × List Nat} {K : List V → Prop} (he : elemsO (lk h) sz v = some r) (hk : K r.1) : elemsW h sz K v := by
  unfold elemsO at he
  unfold elemsW
  split at he
  · obtain ⟨h1, h2⟩ := gd_some he
    cases h2
    refine ⟨fun x hx => ?_, hk⟩
    have := List.all_eq_true.1 h1 x hx
    simpa using this
  · split at he
    · rename_i hb
      obtain ⟨h1, h2⟩ := gd_some he
      cases h2
      simp only [Bool.and_eq_true, decide_eq_true_eq] at h1
      simp only [hb]
      exact ⟨h1.1.1, h1.1.2, h1.2, hk⟩
    · cases he
  · cases he

theorem boundO_W {F : FF} (hF : F = lk fr) {d l : Nat} {x : Option IOpd} {K : Nat → Prop} (he : boundO gl F d x = some l) (hk : K l) : boundW gl fr d K x := by
  subst hF
  cases x with
  | none => simp only [boundO, Option.some.injEq] at he; subst he; exact hk
  | some y =>
    simp only [boundO, evF_lk] at he
    simp only [boundW]
    split at he
    · rename_i hy
      obtain ⟨h1, h2⟩ := gd_some he
      cases h2
      rw [hy]
      exact ⟨by simpa using h1, hk⟩
    · cases he
theorem boundMO_W {F : FF} (hF : F = lk fr) {l : Option Nat} {x : Option IOpd} {K : Option Nat → Prop} (he : boundMO gl F x = some l) (hk : K l) : boundM gl fr K x := by
  subst hF
  cases x with
  | none => simp only [boundMO, Option.some.injEq] at he; subst he; exact hk
  | some y =>
    simp only [boundMO, evF_lk] at he
    simp only [boundM]
    split at he
    · rename_i hy
      obtain ⟨h1, h2⟩ := gd_some he
      cases h2
      rw [hy]
      exact ⟨by simpa using h1, hk⟩
    · cases he

theorem binO_W {op : BinOp} {x y v : V} {K : V → Prop} (he : binO op x y = some v) (hk : K v) : binW op K x y := by
  unfold binO at he
  unfold binW
  split at he
  · cases op <;> simp only [] at he ⊢ <;> (obtain ⟨h1, h2⟩ := gd_some he; cases h2; simp at h1; first | exact ⟨h1, hk⟩ | exact ⟨h1.1, h1.2, hk⟩)
  · cases op <;> simp only [] at he ⊢ <;> first
      | (cases he; exact hk)
      | (obtain ⟨h1, h2⟩ := gd_some he; cases h2; simp at h1; exact ⟨h1, hk⟩)
      | cases he
  · cases he

theorem unO_W {op : UnOp} {x v : V} {K : V → Prop} (he : unO op x = some v) (hk : K v) : unW op K x := by
  unfold unO at he
  unfold unW
  split at he
  · cases op <;> simp only [] at he ⊢ <;> first
      | (cases he; exact hk)
      | cases he
  · cases op <;> simp only [] at he ⊢ <;> first
      | (cases he; exact hk)
      | cases he
  · cases he

/-- A pure operation's value, in the elder terms. -/
theorem eop_istep {id id' : Nat} {io : IOp} (hn : ∀ x, io ≠ .n x) (hp : isPure io = true) {y : Y} (he : eop gl gf id (lk fr) (lk h) io = some y) : y.2.1 = [] ∧ istep P gl id' fr h (fun v _ => v = y.1) io := by
  cases io <;> simp only [isPure, Bool.false_eq_true] at hp <;> simp only [eop, evF_lk, evsF_lk, evpsF_lk, evNF_lk] at he <;> simp only [istep]
  case n x => exact absurd rfl (hn x)
  case mv x =>
    obtain ⟨v, h1, h2⟩ := eb_some he
    cases h2; rw [h1]; exact ⟨rfl, rfl⟩
  case pick c x z =>
    split at he
    · rename_i t hc
      simp only [hc]
      cases t with
      | true => simp only [] at he; obtain ⟨v, h1, h2⟩ := eb_some he; cases h2; rw [h1]; exact ⟨rfl, (fun _ => rfl), (fun h => Bool.noConfusion h)⟩
      | false => simp only [] at he; obtain ⟨v, h1, h2⟩ := eb_some he; cases h2; rw [h1]; exact ⟨rfl, (fun h => Bool.noConfusion h), (fun _ => rfl)⟩
    · cases he
  case build z ps =>
    obtain ⟨l, h1, h2⟩ := eb_some he
    obtain ⟨cs, h3, h4⟩ := eb_some h2
    cases h4
    rw [h1]
    exact ⟨rfl, fillO_W h3 rfl⟩
  case load ag m x =>
    split at he
    · simp only [*]
      rename_i hx
      obtain ⟨h1, h2⟩ := gd_some he
      cases h2
      exact ⟨rfl, V.partOkB_iff.1 h1, rfl⟩
    · simp only [*]
      rename_i hx
      split at he
      · rename_i hb
        obtain ⟨h1, h2⟩ := gd_some he
        cases h2
        simp only [Bool.and_eq_true, decide_eq_true_eq] at h1
        simp only [hb]
        exact ⟨trivial, h1.1.1, h1.1.2, V.partOkB_iff.1 h1.2, trivial⟩
      · cases he
    · cases he
  case bin op x z =>
    split at he
    · simp only [*]
      obtain ⟨v, h1, h2⟩ := eb_some he
      cases h2
      exact ⟨rfl, binO_W h1 rfl⟩
    · cases he
  case eqs neg m x z =>
    split at he
    · simp only [*]
      obtain ⟨h1, h2⟩ := gd_some he
      cases h2
      simp only [Bool.and_eq_true, decide_eq_true_eq] at h1
      exact ⟨rfl, h1.1.1, h1.1.2, eqOkB_iff h1.2, rfl⟩
    · cases he
  case beq neg x z =>
    split at he
    · simp only [*]; cases he; exact ⟨rfl, rfl⟩
    · cases he
  case un op x =>
    obtain ⟨v, h1, h2⟩ := eb_some he
    obtain ⟨v', h3, h4⟩ := eb_some h2
    cases h4
    rw [h1]
    exact ⟨rfl, unO_W h3 rfl⟩
  case conv k x =>
    split at he
    · simp only [*]; cases he; exact ⟨rfl, rfl⟩
    · cases he
  case mkfn f x z =>
    split at he
    · simp only [*]; cases he; exact ⟨rfl, rfl⟩
    · cases he
  case slice sz x lo hi mx =>
    split at he
    · simp only [*]
      obtain ⟨l, h1, he⟩ := eb_some he
      obtain ⟨u, h2, he⟩ := eb_some he
      obtain ⟨m, h3, he⟩ := eb_some he
      obtain ⟨h4, he⟩ := gd_some he
      cases he
      simp only [Bool.and_eq_true, Bool.or_eq_true, decide_eq_true_eq, maxOkB_iff] at h4
      exact ⟨rfl, boundO_W rfl h1 (boundO_W rfl h2 (boundMO_W rfl h3 ⟨h4.1.1.1, h4.1.1.2, by rcases h4.1.2 with (h | h) | h; exact .inl h; exact .inr (.inl h); exact .inr (.inr h), h4.2, rfl⟩))⟩
    · simp only [*]
      split at he
      · rename_i hb
        obtain ⟨h0, he⟩ := gd_some he
        obtain ⟨l, h1, he⟩ := eb_some he
        obtain ⟨u, h2, he⟩ := eb_some he
        obtain ⟨m, h3, he⟩ := eb_some he
        obtain ⟨h4, he⟩ := gd_some he
        cases he
        simp only [Bool.and_eq_true, decide_eq_true_eq, maxOkB_iff] at h4 h0
        simp only [hb]
        exact ⟨trivial, h0.1, h0.2, boundO_W rfl h1 (boundO_W rfl h2 (boundMO_W rfl h3 ⟨h4.1.1, h4.1.2, h4.2, rfl⟩))⟩
      · cases he
    · cases he
  case sliceS x lo hi =>
    split at he
    · simp only [*]
      obtain ⟨l, h1, he⟩ := eb_some he
      obtain ⟨u, h2, he⟩ := eb_some he
      obtain ⟨h4, he⟩ := gd_some he
      cases he
      simp only [Bool.and_eq_true, decide_eq_true_eq] at h4
      exact ⟨rfl, boundO_W rfl h1 (boundO_W rfl h2 ⟨h4.1, h4.2, rfl⟩)⟩
    · cases he
  case fieldA off x => split at he <;> first | (simp only [*]; cases he; exact ⟨rfl, rfl⟩) | cases he
  case field ag off m x =>
    split at he
    · simp only [*]
      obtain ⟨h1, he⟩ := gd_some he
      cases he
      exact ⟨rfl, V.partOkB_iff.1 h1, rfl⟩
    · cases he
  case idxA sz x z =>
    split at he
    · simp only [*]
      obtain ⟨h1, he⟩ := gd_some he
      cases he
      simp only [Bool.and_eq_true, decide_eq_true_eq] at h1
      exact ⟨rfl, h1.1.1, h1.1.2, h1.2, rfl⟩
    · simp only [*]
      split at he
      · rename_i hb
        obtain ⟨h1, he⟩ := gd_some he
        cases he
        simp only [Bool.and_eq_true, decide_eq_true_eq] at h1
        simp only [hb]
        exact ⟨trivial, h1.1.1.1, h1.1.1.2, h1.1.2, h1.2, trivial⟩
      · cases he
    · cases he
  case idxP len sz x z =>
    split at he
    · simp only [*]
      obtain ⟨h1, he⟩ := gd_some he
      cases he
      simp only [Bool.and_eq_true, decide_eq_true_eq] at h1
      exact ⟨rfl, h1.1, h1.2, rfl⟩
    · simp only [*]
      obtain ⟨h1, he⟩ := gd_some he
      cases he
      simp only [Bool.and_eq_true, decide_eq_true_eq] at h1
      exact ⟨rfl, h1.1, h1.2, rfl⟩
    · cases he
  case idxV ag len sz x z =>
    split at he
    · simp only [*]
      obtain ⟨h1, he⟩ := gd_some he
      cases he
      simp only [Bool.and_eq_true, decide_eq_true_eq] at h1
      exact ⟨rfl, h1.1.1, h1.1.2, V.partOkB_iff.1 h1.2, rfl⟩
    · cases he
  case idxS x z =>
    split at he
    · simp only [*]
      obtain ⟨h1, he⟩ := gd_some he
      cases he
      simp only [Bool.and_eq_true, decide_eq_true_eq] at h1
      exact ⟨rfl, h1.1, h1.2, rfl⟩
    · cases he
  case len x => split at he <;> first | (simp only [*]; cases he; exact ⟨rfl, rfl⟩) | cases he
  case lenS x => split at he <;> first | (simp only [*]; cases he; exact ⟨rfl, rfl⟩) | cases he
  case lenK m => cases he; exact ⟨rfl, rfl⟩
  case cap x => split at he <;> first | (simp only [*]; cases he; exact ⟨rfl, rfl⟩) | cases he
  case mm mx x z => split at he <;> first | (simp only [*]; cases he; exact ⟨rfl, rfl⟩) | cases he
  case extract x i =>
    split at he
    · simp only [*]
      obtain ⟨v, h1, h2⟩ := eb_some he
      cases h2
      rw [h1]
      exact ⟨rfl, rfl⟩
    · cases he
  case cvs x => split at he <;> first | (simp only [*]; cases he; exact ⟨rfl, rfl⟩) | cases he
  case b2s x =>
    obtain ⟨v, h1, h2⟩ := eb_some he
    obtain ⟨es, h3, h4⟩ := eb_some h2
    obtain ⟨s, h5, h6⟩ := eb_some h4
    cases h6
    rw [h1]
    exact ⟨rfl, elemsO_W (K := fun es => match bytesOf es with | some s' => V.str s' = V.str s | none => False) h3 (by rw [h5])⟩
end
end Go.Proofs.YtcdfifbabhfknaaDoor
