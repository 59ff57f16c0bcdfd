/- Netlists: contracts, the reference's Fanout. Conditions: none. Netlists: contracts, the look for a net outside. Conditions: none. Families of blocks that grow by append. Conditions: none. Netlists: contracts, Fanout. Conditions: none. -/
import Derived.Test.YtcmblmkbdenakaaDoorNet1
set_option linter.unusedSimpArgs false
set_option linter.unusedVariables false
namespace Go.Proofs.YtcmblmkbdenakaaDoor
open Go
def lineV (i k : Nat) : V:=.agg [.int .i64 (i : Int),.int .i64 (k : Int)]
def pinL (w : Int) (i : Nat) : List Int→Nat→List V
 | [],_=>[]
 | x :: r,k=>if x = w then lineV i k :: pinL w i r (k + 1) else pinL w i r (k + 1)
def rfanL (w : Int) : List Nd→Nat→List V
 | [],_=>[]
 | n :: r,i=>pinL w i n.i 0 ++ rfanL w r (i + 1)
end Go.Proofs.YtcmblmkbdenakaaDoor
namespace Go.Proofs.YtcmblmkbdenakaaDoor
open Go
theorem ci_pure (c : Ci) : c.v.pure = true:=by simp [Ci.v]
end Go.Proofs.YtcmblmkbdenakaaDoor
namespace Go.Proofs.YtcmblmkbdenakaaDoor
open Go
abbrev Fam:=List (Option (Nat × List V))
end Go.Proofs.YtcmblmkbdenakaaDoor
namespace Go.Proofs.YtcmblmkbdenakaaDoor
open Go
end Go.Proofs.YtcmblmkbdenakaaDoor
namespace Go.Proofs.YtcmblmkbdenakaaDoor
open Go
end Go.Proofs.YtcmblmkbdenakaaDoor
namespace Go.Proofs.YtcmblmkbdenakaaDoor
open Go
def linesV (L : List V) : V:=.sl L (some L.length)
def fanVs (c : Ci) : List V:=(List.range c.n.length).map fun (j : Nat)=>linesV (rfanL (j : Int) c.n 0)
def FanI (c : Ci) (i k : Nat) (L : Fam) : Prop:=L.length = c.n.length∧∀ (j : Nat) x,L[j]? = some x→(x = none∨accL x ≠ [])∧V.pureL (accL x) = true∧accL x ++ (pinL j i ((c.n.getD i default).i.drop k) k ++ rfanL j (c.n.drop (i + 1)) (i + 1)) = rfanL j c.n 0
theorem FanI.start (c : Ci) : FanI c 0 0 (List.replicate c.n.length none):=by
 refine ⟨by simp,fun j x hj=>?_⟩
 rw [List.getElem?_replicate] at hj
 split at hj
 ·rename_i h
  cases hj
  refine ⟨.inl rfl,rfl,?_⟩
  cases hn : c.n with
  | nil=>rw [hn] at h; simp at h
  | cons a r=>simp [accL,rfanL]
 ·cases hj
theorem FanI.next {c : Ci} {i k : Nat} {L : Fam} (h : FanI c i k L) (hk : (c.n.getD i default).i.length ≤ k) (hi : i < c.n.length) : FanI c (i + 1) 0 L:=by
 refine ⟨h.1,fun j x hj=>?_⟩
 obtain ⟨h1,h2,h3⟩:=h.2 j x hj
 refine ⟨h1,h2,?_⟩
 rw [List.drop_eq_nil_of_le hk] at h3
 rw [← h3]
 congr 1
 simp only [pinL,List.nil_append]
 by_cases hn : i + 1 < c.n.length
 ·rw [List.drop_eq_getElem_cons hn]
  simp [rfanL,hn]
 ·have e1 : c.n.getD (i + 1) default = default:=by simp [List.getD_eq_getElem?_getD,hn]
  have e2 : (default : Nd).i = []:=rfl
  rw [List.drop_eq_nil_of_le (show c.n.length ≤ i + 1 by omega),List.drop_eq_nil_of_le (show c.n.length ≤ i + 1 + 1 by omega),e1,e2]
  simp [rfanL,pinL]
theorem FanI.skip {c : Ci} {i k : Nat} {L : Fam} (h : FanI c i k L) (hk : k < (c.n.getD i default).i.length) (hx : ∀ j : Nat,j < c.n.length→(c.n.getD i default).i[k] ≠ (j : Int)) : FanI c i (k + 1) L:=by
 refine ⟨h.1,fun j x hj=>?_⟩
 obtain ⟨h1,h2,h3⟩:=h.2 j x hj
 refine ⟨h1,h2,?_⟩
 rw [List.drop_eq_getElem_cons hk] at h3
 have hjl : j < c.n.length:=by rw [← h.1]; exact (List.getElem?_eq_some_iff.1 hj).1
 simp only [pinL,if_neg (hx j hjl)] at h3
 exact h3
theorem FanI.add {c : Ci} {i k : Nat} {L : Fam} (h : FanI c i k L) (hk : k < (c.n.getD i default).i.length) {m : Nat} {x : Option (Nat × List V)} (hm : L[m]? = some x) (hx : (c.n.getD i default).i[k] = (m : Int)) (g : Nat) : FanI c i (k + 1) (L.set m (some (g,accL x ++ [lineV i k]))):=by
 refine ⟨by simpa using h.1,fun j y hj=>?_⟩
 rw [List.getElem?_set] at hj
 by_cases hjm : m = j
 ·subst hjm
  have hl : m < L.length:=(List.getElem?_eq_some_iff.1 hm).1
  simp [hl] at hj
  subst hj
  obtain ⟨h1,h2,h3⟩:=h.2 m x hm
  refine ⟨.inr (by simp [accL]),pureL_append h2 rfl,?_⟩
  rw [List.drop_eq_getElem_cons hk] at h3
  simp only [pinL,if_pos hx] at h3
  rw [← h3]
  simp only [accL.eq_2]
  simp
 ·rw [if_neg hjm] at hj
  obtain ⟨h1,h2,h3⟩:=h.2 j y hj
  refine ⟨h1,h2,?_⟩
  rw [List.drop_eq_getElem_cons hk] at h3
  have : ¬ (c.n.getD i default).i[k] = (j : Int):=by rw [hx]; omega
  simp only [pinL,if_neg this] at h3
  exact h3
theorem FanI.len {c : Ci} {i k : Nat} {L : Fam} (h : FanI c i k L) {m : Nat} {x : Option (Nat × List V)} (hm : L[m]? = some x) : (accL x).length ≤ (rfanL m c.n 0).length:=by
 obtain ⟨h1,h2,h3⟩:=h.2 m x hm
 rw [← h3]; simp
end Go.Proofs.YtcmblmkbdenakaaDoor
