/- Observability: the contract of Reverse. Conditions: none. -/
import Derived.Test.YtcmblmkbdenakaaDoorD3
set_option linter.unusedSimpArgs false
set_option linter.unusedVariables false
namespace Go.Proofs.YtcmblmkbdenakaaDoor
open Go
end Go.Proofs.YtcmblmkbdenakaaDoor
namespace Go.Proofs.YtcmblmkbdenakaaDoor
open Go
def natsT (N : Nat) (o : Nat→Nat) : List V:=tab N fun i=>natV (o i)
theorem natsT_len (N : Nat) (o : Nat→Nat) : (natsT N o).length = N:=by simp [natsT]
theorem natsT_pure (N : Nat) (o : Nat→Nat) : V.pureL (natsT N o) = true:=tab_pure fun _=>rfl
theorem natsT_at (N : Nat) (o : Nat→Nat) (i : Nat) (h : i < (natsT N o).length) : (natsT N o)[i] = .int .i64 (o i):=by simp only [natsT]; rw [tab_get]; rfl
theorem natsT_set (N : Nat) (o : Nat→Nat) (i x : Nat) : (natsT N o).set i (.int .i64 (x : Int)) = natsT N (upd1 o i x):=by
 unfold natsT
 rw [tab_set]
 congr 1
 funext j
 by_cases h : j = i
 ·subst h; rw [upd1_same,upd1_same]; rfl
 ·rw [upd1_ne _ _ h,upd1_ne _ _ h]
theorem natsT_rep (N : Nat) : List.replicate N (V.int .i64 0) = natsT N fun _=>0:=by
 refine List.ext_getElem (by simp [natsT]) fun j h1 h2=>?_
 simp only [natsT]
 rw [tab_get,List.getElem_replicate]
 rfl
theorem natsT_congr {N : Nat} {f g : Nat→Nat} (h : ∀ i,i < N→f i = g i) : natsT N f = natsT N g:=tab_congr fun i hi=>by rw [h i hi]
theorem dff_in {c : Ci} (hwf : c.wf) (hsh : shE c = 0) {s : Nat} (hs : s ∈ ids 14 c.n 0) : ∃ h : s < c.n.length,c.n[s].i = [(dnN c s : Int)]∧dnN c s < c.n.length:=by
 obtain ⟨h,hk⟩:=ids_lt hs
 refine ⟨h,?_⟩
 have hval:=sh_val hwf hsh
 have h14 : (c.nd s).k = 14:=by rw [c.nd_get h]; exact hk
 have hl : (c.nd s).i.length = 1:=by
  rcases nd_src hwf hsh h (by rw [h14]; rfl) with ⟨-,q⟩ | ⟨-,q⟩
  ·exact q
  ·exact absurd h14 q
 obtain ⟨x,hx⟩:=List.length_eq_one_iff.1 hl
 have hm:=hval.i s h x (by rw [hx]; simp)
 have hd : dnN c s = x.toNat:=by unfold dnN; rw [hx]; rfl
 rw [c.nd_get h] at hx
 rw [hd,hx]
 exact ⟨by rw [Int.toNat_of_nonneg hm.1],by omega⟩
structure ObS where
 d : Nat
structure ObI where
 k : Nat
end Go.Proofs.YtcmblmkbdenakaaDoor
