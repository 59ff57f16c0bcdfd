/- Ideal code: its weakest precondition, its compilation, its soundness. No program stands in it. Conditions: none. -/
import Derived.Test.YtcdfifbabhfknaaDoorCore15
namespace Go.Proofs.YtcdfifbabhfknaaDoor
open Go

def Sub {α : Type} : List (Nat × α) → List (Nat × α) → Prop
  | [], _ => True
  | (k, v) :: r, b => lk b k = some v ∧ Sub r b

theorem Sub.spec {α : Type} : ∀ {a b : List (Nat × α)}, Sub a b → ∀ t v, lk a t = some v → lk b t = some v
  | [], b, _, t, v, h => by simp [lk] at h
  | (k, x) :: r, b, hs, t, v, h => by
    simp only [lk] at h
    split at h
    · rename_i he; cases h; subst he; exact hs.1
    · exact Sub.spec hs.2 t v h

/-- A loop: a family of states over a type of your own, with a measure. -/
def LoopP (body : IQ → Fr → Hp → Prop) (Q : IQ) (fr : Fr) (h : Hp) : Prop :=
  ∃ (X : Type) (F : X → Fr) (H : X → Hp) (Inv : X → Prop) (mu : X → Nat) (x0 : X), Inv x0 ∧ Sub (F x0) fr ∧ Sub (H x0) h ∧
    ∀ x, Inv x → body (seqQ (fun fr' h' => ∃ x', Inv x' ∧ Sub (F x') fr' ∧ Sub (H x') h' ∧ mu x' < mu x) Q) (F x) (H x)

/-- A state that may be forgotten in part before what follows. -/
def CutP (next : Fr → Hp → Prop) (fr : Fr) (h : Hp) : Prop := ∃ fr' h', Sub fr' fr ∧ Sub h' h ∧ next fr' h'

end Go.Proofs.YtcdfifbabhfknaaDoor
