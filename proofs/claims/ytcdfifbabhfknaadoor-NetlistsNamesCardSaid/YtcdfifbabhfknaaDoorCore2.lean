/- The relation between an ideal state and the model's, the judgement on code, and the rules of control. No program stands in it. Conditions: none. -/
import Derived.Test.YtcdfifbabhfknaaDoorCore1
namespace Go.Proofs.YtcdfifbabhfknaaDoor
open Go

/-- What an own block holds. -/
inductive Blk where
  | row (g sz : Nat) (elems : List V)
  | map (g : Nat) (es : List (V × V))
  | siter (g : Nat) (s : List UInt8) (pos : Nat)
  deriving Inhabited

abbrev Fr := List (Nat × V)
abbrev Hp := List (Nat × Blk)

def lk {α : Type} : List (Nat × α) → Nat → Option α
  | [], _ => none
  | (k, v) :: r, t => if t = k then some v else lk r t

def RowRel (G : GMap) (M : MMap) (w : World) (mb : MB) (elems : List V) : Prop :=
  match mb.real with
  | none => elems = []
  | some rb => ∃ arr ty, w.heap[rb]? = some (.cells arr ty (0, 0)) ∧ mb.base + mb.room * mb.sz ≤ arr.size ∧ elems.length ≤ mb.room ∧
      (∀ i, i < elems.length → (elems.getD i .undef).cells.length = mb.sz) ∧
      ∀ i j, i < elems.length → j < mb.sz → RelV G M ((elems.getD i .undef).cells.getD j .undef) (arr.getD (mb.base + i * mb.sz + j) undef) ∧ (arr.getD (mb.base + i * mb.sz + j) undef).oneCell' = true

def MapRel (G : GMap) (M : MMap) (w : World) (rb : Nat) (es : List (V × V)) : Prop :=
  ∃ entries clock, w.heap[rb]? = some (.map entries clock) ∧ entries.size = es.length ∧
    ∀ i, i < es.length → RelV G M ((es.getD i (.undef, .undef)).1) ((entries.getD i default).key) ∧ RelV G M ((es.getD i (.undef, .undef)).2) ((entries.getD i default).val)

def BlkRel (G : GMap) (M : MMap) (w : World) (b : Nat) : Blk → Prop
  | .row g sz elems => ∃ mb, M b = some mb ∧ mb.gen = g ∧ mb.sz = sz ∧ RowRel G M w mb elems
  | .map g es => ∃ mb rb, M b = some mb ∧ mb.gen = g ∧ mb.real = some rb ∧ mb.sz = 0 ∧ MapRel G M w rb es
  | .siter g s pos => ∃ mb rb, M b = some mb ∧ mb.gen = g ∧ mb.real = some rb ∧ mb.sz = 1 ∧ w.heap[rb]? = some (.stringIter ⟨s.toArray⟩ pos)

structure Sim (G : GMap) (M : MMap) (h : Hp) (w : World) : Prop where
  gw : ∀ k cells, G k = some cells → ∃ ty fz, w.heap[k]? = some (.cells cells ty fz)
  hb : ∀ b blk, lk h b = some blk → BlkRel G M w b blk
  inj : ∀ b b' mb mb' rb, M b = some mb → M b' = some mb' → mb.real = some rb → mb'.real = some rb → b = b'
  mlt : ∀ b mb rb, M b = some mb → mb.real = some rb → rb < w.heap.size ∧ G rb = none

def owned (M : MMap) (k : Nat) : Prop := ∃ b mb, M b = some mb ∧ mb.real = some k

structure Ext (G : GMap) (M : MMap) (w : World) (G' : GMap) (M' : MMap) (w' : World) : Prop where
  g : G.le G'
  gnew : ∀ k c, G' k = some c → G k = some c ∨ w.heap.size ≤ k ∨ owned M k
  m : M.le M'
  mnew : ∀ k, owned M' k → w.heap.size ≤ k ∨ owned M k
  os : w'.os = w.os
  tape : w'.tape = w.tape
  output : w'.output = w.output
  size : w.heap.size ≤ w'.heap.size
  keep : ∀ k, k < w.heap.size → ¬ owned M k → w'.heap[k]? = w.heap[k]?

theorem Ext.refl (G : GMap) (M : MMap) (w : World) : Ext G M w G M w :=
  ⟨G.le_refl, fun _ _ h => .inl h, M.le_refl, fun _ h => .inr h, rfl, rfl, rfl, Nat.le_refl _, fun _ _ _ => rfl⟩

theorem Ext.trans {G G1 G2 : GMap} {M M1 M2 : MMap} {w w1 w2 : World} (h : Ext G M w G1 M1 w1) (k : Ext G1 M1 w1 G2 M2 w2) : Ext G M w G2 M2 w2 := by
  refine ⟨GMap.le_trans h.g k.g, fun x c hx => ?_, MMap.le_trans h.m k.m, fun x hx => ?_, k.os.trans h.os, k.tape.trans h.tape, k.output.trans h.output, Nat.le_trans h.size k.size, fun x hx ho => ?_⟩
  · rcases k.gnew x c hx with h1 | h1 | h1
    · exact h.gnew x c h1
    · exact .inr (.inl (Nat.le_trans h.size h1))
    · rcases h.mnew x h1 with h2 | h2
      · exact .inr (.inl h2)
      · exact .inr (.inr h2)
  · rcases k.mnew x hx with h1 | h1
    · exact .inl (Nat.le_trans h.size h1)
    · exact h.mnew x h1
  · have h1 : ¬ owned M1 x := fun hc => by
      rcases h.mnew x hc with h2 | h2
      · omega
      · exact ho h2
    rw [k.keep x (Nat.lt_of_lt_of_le hx h.size) h1, h.keep x hx ho]

/-- What the package-level variables hold that the program reads: by their numbers. -/
def GlRel (G : GMap) (gl : Fr) : Prop := ∀ g v, lk gl g = some v → v.pure = true ∧ RelV G (fun _ => none) v (.pointer (some ⟨g, 0, none⟩))

theorem GlRel.mono {G G' : GMap} {gl : Fr} (h : GlRel G gl) (hg : G.le G') : GlRel G' gl := fun g v e => ⟨(h g v e).1, (h g v e).2.mono hg (MMap.le_refl _)⟩

structure R (n : Nat) (gl : Fr) (G : GMap) (M : MMap) (fr : Fr) (h : Hp) (a : Act) (w : World) : Prop where
  sim : Sim G M h w
  frr : ∀ t v, lk fr t = some v → RelV G M v (a.tmps.getD t undef)
  sz : a.tmps.size = n
  df : a.defers = []
  gl : GlRel G gl

inductive IExit where
  | normal
  | exit (id : Nat)
  | goto (l : Nat)
  | ret

def IExit.out : IExit → Exit
  | .normal => .normal
  | .exit id => .exit id
  | .goto l => .goto l
  | .ret => .ret

abbrev IQ := IExit → Fr → Hp → Prop

/-- The real postcondition that an ideal one stands for, seen from a state at the start. -/
def Up (n : Nat) (gl : Fr) (G : GMap) (M : MMap) (w : World) (Q : IQ) : Exit → Act → World → Prop := fun e a' w' =>
  ∃ ie G' M' fr' h', e = ie.out ∧ Q ie fr' h' ∧ R n gl G' M' fr' h' a' w' ∧ Ext G M w G' M' w'

def IW (P : Program) (n : Nat) (gl : Fr) (c : Code) (Q : IQ) (fr : Fr) (h : Hp) : Prop :=
  ∀ G M a w, R n gl G M fr h a w → c.wp P (Up n gl G M w Q) a w

theorem Up.after {n : Nat} {gl : Fr} {G G1 : GMap} {M M1 : MMap} {w w1 : World} {Q : IQ} (hx : Ext G M w G1 M1 w1) {e : Exit} {a : Act} {w2 : World} (h : Up n gl G1 M1 w1 Q e a w2) : Up n gl G M w Q e a w2 := by
  obtain ⟨ie, G', M', fr', h', h1, h2, h3, h4⟩ := h
  exact ⟨ie, G', M', fr', h', h1, h2, h3, hx.trans h4⟩

section rules
variable {P : Program} {n : Nat} {gl : Fr} {Q : IQ} {fr : Fr} {h : Hp}

theorem IW.mono {c : Code} {Q' : IQ} (hc : IW P n gl c Q fr h) (hq : ∀ e fr h, Q e fr h → Q' e fr h) : IW P n gl c Q' fr h :=
  fun G M a w hr => wp_mono (hc G M a w hr) fun _ _ _ ⟨ie, G', M', fr', h', h1, h2, h3, h4⟩ => ⟨ie, G', M', fr', h', h1, hq _ _ _ h2, h3, h4⟩

theorem IW.skip (hq : Q .normal fr h) : IW P n gl .skip Q fr h :=
  fun G M a w hr => wp_skip ⟨.normal, G, M, fr, h, rfl, hq, hr, .refl _ _ _⟩
theorem IW.label {l : Nat} (hq : Q .normal fr h) : IW P n gl (.label l) Q fr h :=
  fun G M a w hr => wp_label ⟨.normal, G, M, fr, h, rfl, hq, hr, .refl _ _ _⟩
theorem IW.exit {id : Nat} (hq : Q (.exit id) fr h) : IW P n gl (.exit id) Q fr h :=
  fun G M a w hr => wp_exit ⟨.exit id, G, M, fr, h, rfl, hq, hr, .refl _ _ _⟩
theorem IW.goto {l : Nat} (hq : Q (.goto l) fr h) : IW P n gl (.goto l) Q fr h :=
  fun G M a w hr => wp_goto ⟨.goto l, G, M, fr, h, rfl, hq, hr, .refl _ _ _⟩
theorem IW.ret (hq : Q .ret fr h) : IW P n gl .ret Q fr h :=
  fun G M a w hr => wp_ret ⟨.ret, G, M, fr, h, rfl, hq, hr, .refl _ _ _⟩

def seqQ (next : Fr → Hp → Prop) (Q : IQ) : IQ
  | .normal, fr, h => next fr h
  | e, fr, h => Q e fr h

theorem IW.seq {x y : Code} (hx : IW P n gl x (seqQ (IW P n gl y Q) Q) fr h) : IW P n gl (.seq x y) Q fr h := by
  intro G M a w hr
  refine wp_seq (wp_mono (hx G M a w hr) ?_)
  rintro e a1 w1 ⟨ie, G', M', fr', h', rfl, h2, h3, h4⟩
  cases ie with
  | normal => exact wp_mono (h2 G' M' a1 w1 h3) fun e a2 w2 hu => hu.after h4
  | exit id => exact ⟨.exit id, G', M', fr', h', rfl, h2, h3, h4⟩
  | goto l => exact ⟨.goto l, G', M', fr', h', rfl, h2, h3, h4⟩
  | ret => exact ⟨.ret, G', M', fr', h', rfl, h2, h3, h4⟩

def blockQ (id : Nat) (Q : IQ) : IQ
  | .exit id', fr, h => if id' = id then Q .normal fr h else Q (.exit id') fr h
  | e, fr, h => Q e fr h

theorem IW.block {id : Nat} {c : Code} (hc : IW P n gl c (blockQ id Q) fr h) : IW P n gl (.block id c) Q fr h := by
  intro G M a w hr
  refine wp_block (wp_mono (hc G M a w hr) ?_)
  rintro e a1 w1 ⟨ie, G', M', fr', h', rfl, h2, h3, h4⟩
  cases ie with
  | normal => exact ⟨.normal, G', M', fr', h', rfl, h2, h3, h4⟩
  | exit id' =>
    simp only [IExit.out, Exit.inBlock]
    simp only [blockQ] at h2
    split
    · rename_i he; rw [if_pos he] at h2; exact ⟨.normal, G', M', fr', h', rfl, h2, h3, h4⟩
    · rename_i he; rw [if_neg he] at h2; exact ⟨.exit id', G', M', fr', h', rfl, h2, h3, h4⟩
  | goto l => exact ⟨.goto l, G', M', fr', h', rfl, h2, h3, h4⟩
  | ret => exact ⟨.ret, G', M', fr', h', rfl, h2, h3, h4⟩

/-- A state that knows less. -/
theorem R.weaken {G : GMap} {M : MMap} {a : Act} {w : World} {fr' : Fr} {h' : Hp} (hf : ∀ t v, lk fr' t = some v → lk fr t = some v) (hh : ∀ b k, lk h' b = some k → lk h b = some k) (hr : R n gl G M fr h a w) : R n gl G M fr' h' a w :=
  ⟨⟨hr.sim.gw, fun b k hk => hr.sim.hb b k (hh b k hk), hr.sim.inj, hr.sim.mlt⟩, fun t v ht => hr.frr t v (hf t v ht), hr.sz, hr.df, hr.gl⟩

/-- A loop: the invariant is a family of states over a type of your own, with a measure. -/
theorem IW.loop {c : Code} {X : Type} (F : X → Fr) (H : X → Hp) (Inv : X → Prop) (mu : X → Nat) (x0 : X) (h0 : Inv x0)
    (hF : ∀ t v, lk (F x0) t = some v → lk fr t = some v) (hH : ∀ t v, lk (H x0) t = some v → lk h t = some v)
    (round : ∀ x, Inv x → IW P n gl c (seqQ (fun fr' h' => ∃ x', Inv x' ∧ (∀ t v, lk (F x') t = some v → lk fr' t = some v) ∧ (∀ t v, lk (H x') t = some v → lk h' t = some v) ∧ mu x' < mu x) Q) (F x) (H x)) : IW P n gl (.loop c) Q fr h := by
  intro G M a w hr
  intro b k cs
  have key : ∀ m x G1 M1 a1 w1, mu x = m → Inv x → R n gl G1 M1 (F x) (H x) a1 w1 → Ext G M w G1 M1 w1 →
      ∃ e a' w', Up n gl G M w Q e a' w' ∧ Arrives P (lone (b.at a1 (.code c :: .inLoop c :: k)) cs w1) b k cs e a' w' := by
    intro m
    induction m using Nat.strongRecOn with
    | _ m ih =>
      intro x G1 M1 a1 w1 hm hI hr1 hx1
      obtain ⟨e, a2, w2, ⟨ie, G2, M2, fr2, h2, rfl, hq, hr2, hx2⟩, harr⟩ := round x hI G1 M1 a1 w1 hr1 b (.inLoop c :: k) cs
      cases ie with
      | normal =>
        obtain ⟨x', hI', hf', hh', hlt⟩ := hq
        obtain ⟨e, a3, w3, hq3, harr3⟩ := ih (mu x') (hm ▸ hlt) x' G2 M2 a2 w2 rfl hI' (hr2.weaken hf' hh') (hx1.trans hx2)
        exact ⟨e, a3, w3, hq3, .of_steps (Steps.trans harr (.one step_inLoop)) harr3⟩
      | exit id => exact ⟨_, a2, w2, ⟨.exit id, G2, M2, fr2, h2, rfl, hq, hr2, hx1.trans hx2⟩, .pass (x := .inLoop c) rfl (fun _ _ => .inl (by simp [IExit.out])) harr⟩
      | goto l => exact ⟨_, a2, w2, ⟨.goto l, G2, M2, fr2, h2, rfl, hq, hr2, hx1.trans hx2⟩, .pass (x := .inLoop c) rfl (fun _ _ => .inl (by simp [IExit.out])) harr⟩
      | ret => exact ⟨_, a2, w2, ⟨.ret, G2, M2, fr2, h2, rfl, hq, hr2, hx1.trans hx2⟩, .pass (x := .inLoop c) rfl (fun _ _ => .inl (by simp [IExit.out])) harr⟩
  obtain ⟨e, a', w', hq, harr⟩ := key _ x0 G M a w rfl h0 (hr.weaken hF hH) (.refl _ _ _)
  exact ⟨e, a', w', hq, .of_steps (.one step_loop) harr⟩
end rules

end Go.Proofs.YtcdfifbabhfknaaDoor
