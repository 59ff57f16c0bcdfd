/- Cones: the law Dominators. Conditions: none. -/
import Derived.Test.YtcmapbecfpcnfaaDoorK16
import Derived.Test.YtcmapbecfpcnfaaDoorXD
import Derived.Test.YtcmapbecfpcnfaaDoorXL6
set_option linter.unusedSimpArgs false
set_option linter.unusedVariables false
namespace Go.Proofs.YtcmapbecfpcnfaaDoor
open Go
theorem dom_ex {c : Ci} (hv : c.val) (ha : acyc c) {n : Nat} : ∀ (k b : Nat) (L : List Nat),c.n.length + 1 - plc c b ≤ k→DomI c.g (Pp c) c.n.length (lvOf c) n L b→∃ M,DomL c.g (Pp c) (lvOf c) n M:=by
  have hpl:=plc_ok hv ha
  intro k
  induction k with
  | zero=>
    intro b L hk h
    have:=(end_pl hv ha h.e).1
    omega
  | succ k ih=>
    intro b L hk h
    by_cases hb : b < c.n.length
    · obtain ⟨b',e1,e2,e3⟩:=h.step hpl hb (nx_all hv ha b hb)
      exact ih b' _ (by omega) e3
    · exact ⟨L,h.done hb⟩
theorem domL_ok {c : Ci} (hv : c.val) (ha : acyc c) {n : Nat} (hn : n < c.n.length) : DomL c.g (Pp c) (lvOf c) n (domL c n):=by
  have hd:=ci_dag hv ha
  have : ∃ M,DomL c.g (Pp c) (lvOf c) n M:=by
    rcases nx_all hv ha n hn with ⟨-,h⟩ | ⟨b,-,-,h3,h4⟩
    · exact ⟨[],domL_none h⟩
    · exact dom_ex hv ha _ b [] (Nat.le_refl _) (.ini hd h3 h4)
  exact Classical.epsilon_spec (p:=fun L=>DomL c.g (Pp c) (lvOf c) n L) this
theorem fL_nodup (n : Nat) (D : Nat→Bool) : (fL n D).Nodup:=List.nodup_range.filter _
theorem domL_len {c : Ci} (hv : c.val) (ha : acyc c) {n : Nat} (hn : n < c.n.length) : (domL c n).length = (fL c.n.length (dmB c n)).length:=by
  have h:=domL_ok hv ha hn
  refine ((List.perm_ext_iff_of_nodup h.nodup (fL_nodup _ _)).2 fun j=>?_).length_eq
  rw [h.m,fL_mem]
  unfold dmB
  rw [bP_iff]
  exact ⟨fun q=>⟨q.lt (ci_dag hv ha),q⟩,fun q=>q.2⟩
end Go.Proofs.YtcmapbecfpcnfaaDoor
