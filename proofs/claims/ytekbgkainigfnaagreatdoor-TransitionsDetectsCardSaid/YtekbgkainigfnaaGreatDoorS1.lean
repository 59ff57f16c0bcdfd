/- Circuits without memories: their values and responses. No program stands in it. Conditions: none. -/
import Derived.Test.YtekbgkainigfnaaGreatDoorNet17
import Derived.Test.YtekbgkainigfnaaGreatDoorS0
import Derived.Test.YtekbgkainigfnaaGreatDoorLG
namespace Go.Proofs.YtekbgkainigfnaaGreatDoor
open Go
theorem topo_of {N : Nat} {g : Nat → List Nat} {lv : Nat → Nat} (hg : ∀ n, n < N → ∀ x ∈ g n, x < N) (hlv : IsLv N g lv) : ∀ (L A : List Nat), (∀ x ∈ L, x < N) → (∀ x, x < N → x ∈ A ∨ x ∈ L) → L.Pairwise (lexlt lv) → Topo g A L
  | [], _, _, _, _ => trivial
  | n :: L, A, hl, ha, hp => by
    obtain ⟨p1, p2⟩ := List.pairwise_cons.1 hp
    have hn := hl n List.mem_cons_self
    refine ⟨fun x hx => ?_, topo_of hg hlv L (n :: A) (fun x hx => hl x (List.mem_cons_of_mem _ hx)) (fun x hx => ?_) p2⟩
    · have h1 : lv x < lv n := by rw [hlv n hn]; exact le_mx hx
      rcases ha x (hg n hn x hx) with h | h
      · exact h
      · exfalso
        rcases List.mem_cons.1 h with rfl | h
        · omega
        · rcases p1 x h with q | ⟨q, -⟩ <;> omega
    · rcases ha x hx with h | h
      · exact .inl (List.mem_cons_of_mem _ h)
      · rcases List.mem_cons.1 h with rfl | h
        · exact .inl List.mem_cons_self
        · exact .inr h
/-- A valid circuit without memories, small enough for the library's sort of short lists. -/
structure Ci.good (c : Ci) : Prop where
  wf : c.wf
  chk : chkE c = 0
  sh : shE c = 0
  ac : acyc c
  m : c.m = []
  k : ∀ y ∈ c.n, y.k ≠ 15
  n0 : 0 < c.n.length
  n1 : c.n.length ≤ 20
theorem Ci.good.val {c : Ci} (h : c.good) : c.val := sh_val h.wf h.sh
/-- A pattern that fits a circuit. -/
structure Pt.fit (p : Pt) (c : Ci) : Prop where
  i : p.i.length = cnt 0 c.n
  s : p.s.length = cnt 14 c.n
  iv : ∀ x ∈ p.i, x ≤ 3
  sv : ∀ x ∈ p.s, x ≤ 3
def combC (c : Ci) (n : Nat) : Bool := combB (c.nd n).k
/-- The values of the inputs and states, laid at their nodes. -/
def ini (c : Ci) (p : Pt) : Nat → Nat := put (ids 14 c.n 0) p.s (put (ids 0 c.n 0) p.i fun _ => 0)
/-- The value of a node, of those of the others. -/
def nevN (c : Ci) (n : Nat) (f : Nat → Nat) : Nat := logE (c.nd n).k.toNat ((c.g n).map f)
/-- The order of a circuit: any list of all nodes, by level and number. -/
structure Ord (c : Ci) (L : List Nat) : Prop where
  r : InR c.n.length L
  p : L.Pairwise (lexlt (lvOf c))
noncomputable def ordL (c : Ci) : List Nat := Classical.epsilon fun L => Ord c L
theorem Ord.eq {c : Ci} {L : List Nat} (h : Ord c L) : ordL c = L := by
  have h2 : Ord c (ordL c) := Classical.epsilon_spec (p := fun L => Ord c L) ⟨L, h⟩
  refine lex_unique h2.p h.p fun x => ?_
  have h1 := nodup_full (lex_nodup h.p) h.r.lt (by have := h.r.len; omega)
  have h3 := nodup_full (lex_nodup h2.p) h2.r.lt (by have := h2.r.len; omega)
  exact ⟨fun hx => h1 x (h2.r.lt x hx), fun hx => h3 x (h.r.lt x hx)⟩
/-- The values of all nets for a pattern. -/
noncomputable def netN (c : Ci) (p : Pt) : Nat → Nat := evl (nevN c) (combC c) (ordL c) (ini c p)
/-- The response for values of all nets. -/
def obsO (c : Ci) (f : Nat → Nat) : List Nat := c.o.map fun n => clean (f n.toNat)
def nxtN (c : Ci) (f : Nat → Nat) (n : Nat) : Nat := match (c.nd n).i with
  | [x] => rdN (clean (f x.toNat))
  | _ => 2
def obsS (c : Ci) (f : Nat → Nat) : List Nat := (ids 14 c.n 0).map (nxtN c f)
def rspV (o s : List Nat) : V := .agg [.sl (o.map u8V) (some o.length), .sl (s.map u8V) (some s.length)]
theorem Ci.good.o {c : Ci} (h : c.good) {x : Int} (hx : x ∈ c.o) : 0 ≤ x ∧ x < c.n.length := by
  have h1 := (sh_zero h.sh).2.2.2.2.2
  rw [List.any_eq_false] at h1
  have := h1 x hx
  simp [outB] at this
  omega
theorem Ord.topo {c : Ci} {L : List Nat} (hg : c.good) (h : Ord c L) : Topo c.g [] L := by
  have hlv : IsLv c.n.length c.g (lvOf c) := hg.ac.lv
  exact topo_of hg.val.g hlv L [] h.r.lt (fun x hx => .inr (nodup_full (lex_nodup h.p) h.r.lt (by have := h.r.len; omega) x hx)) h.p
end Go.Proofs.YtekbgkainigfnaaGreatDoor
