/- A run says what the model does: regions whose order is drawn. No program stands in it. Conditions: none. -/
import Derived.Test.YtcdfifbabhfknaaDoorCore24
namespace Go.Proofs.YtcdfifbabhfknaaDoor
open Go

theorem st_shift {α : Type} {D : Nat → List (Nat × α)} {F0 : Nat → Option α} : ∀ k, st D all1 F0 (k + 1) = st (fun i => D (i + 1)) all1 (ov (D 0) F0) k
  | 0 => by simp [st, all1]
  | k + 1 => by
    have ih := st_shift (D := D) (F0 := F0) k
    simp only [st, all1, if_true] at ih ⊢
    rw [ih]

def DvL (lo : List Oper) (vs : Nat → V) (i : Nat) : Fr := match lo[i]? with
  | some o => dD o.dst (vs i)
  | none => []
theorem ov_dD (F : FF) (d : Option Nat) (v : V) : ov (dD d v) F = Fput' F d v := by
  cases d with
  | none => funext t; simp [dD, ov, Fput', lk]
  | some d =>
    funext t
    simp only [dD, ov, Fput', upd, lk]
    by_cases h : t = d <;> simp [h]

section
variable {P : Program} {gl : Fr} {n : Nat} {ops : Array Oper} {cl : CallF}

/-- What the run of a region's text tells of each operation. -/
structure RegData (P : Program) (gl : Fr) (n : Nat) (ops : Array Oper) (lo : List Oper) (lx : List IOper) (S S' : ES) (fps : List (List Nat × List Nat)) (vs : Nat → V) (Ws : Nat → Hp) (rd : Nat → List Nat) (cs : Nat → Nat) : Prop where
  c0 : cs 0 = S.c
  cn : cs lo.length = S'.c
  mono : ∀ i, i < lo.length → cs i ≤ cs (i + 1)
  fr : S'.fr.get = st (DvL lo vs) all1 S.fr.get lo.length
  h : S'.h.get = st Ws all1 S.h.get lo.length
  len : fps.length = lo.length
  fp : ∀ i, i < lo.length → fps.getD i ([], []) = ((Ws i).map (·.1), rd i)
  pure : ∀ i x, lx[i]? = some x → (isPure x.op = true → Ws i = []) ∧ (touches x.op = false → Ws i = [] ∧ rd i = [])
  y : ∀ i o, lo[i]? = some o → ∀ j, ops[j]? = some o → YieldS P gl n ops j o (st (DvL lo vs) all1 S.fr.get i) (st Ws all1 S.h.get i) (fun b => b ∈ rd i) (fun b => cs i ≤ b ∧ b < cs (i + 1)) (vs i) (Ws i)

def shift {α : Type} (x : α) (f : Nat → α) : Nat → α
  | 0 => x
  | i + 1 => f i

theorem RegData.cons {o : Oper} {x : IOper} {lo : List Oper} {lx : List IOper} {S S1 S' : ES} {fps : List (List Nat × List Nat)} {vs : Nat → V} {Ws : Nat → Hp} {rd : Nat → List Nat} {cs : Nat → Nat} (d : RegData P gl n ops lo lx S1 S' fps vs Ws rd cs)
    {v : V} {W : Hp} {r : List Nat} (hc : S.c ≤ S1.c) (hf : S1.fr.get = ov (dD o.dst v) S.fr.get) (hh : S1.h.get = ov W S.h.get) (hp : (isPure x.op = true → W = []) ∧ (touches x.op = false → W = [] ∧ r = []))
    (hy : ∀ j, ops[j]? = some o → YieldS P gl n ops j o S.fr.get S.h.get (fun b => b ∈ r) (fun b => S.c ≤ b ∧ b < S1.c) v W) :
    RegData P gl n ops (o :: lo) (x :: lx) S S' ((W.map (·.1), r) :: fps) (shift v vs) (shift W Ws) (shift r rd) (shift S.c cs) := by
  have eD : (fun i => DvL (o :: lo) (shift v vs) (i + 1)) = DvL lo vs := by funext i; simp [DvL, shift]
  have eW : (fun i => shift W Ws (i + 1)) = Ws := by funext i; rfl
  have e0 : DvL (o :: lo) (shift v vs) 0 = dD o.dst v := by simp [DvL, shift]
  have sF : ∀ k, st (DvL (o :: lo) (shift v vs)) all1 S.fr.get (k + 1) = st (DvL lo vs) all1 S1.fr.get k := fun k => by rw [st_shift, eD, e0, hf]
  have sH : ∀ k, st (shift W Ws) all1 S.h.get (k + 1) = st Ws all1 S1.h.get k := fun k => by rw [st_shift, eW, hh]; rfl
  refine ⟨rfl, d.cn, fun i hi => ?_, by rw [List.length_cons, sF]; exact d.fr, by rw [List.length_cons, sH]; exact d.h, by simp [d.len], fun i hi => ?_, fun i x' hx' => ?_, fun i o' ho' j hj => ?_⟩
  · cases i with
    | zero => show S.c ≤ cs 0; rw [d.c0]; exact hc
    | succ i => exact d.mono i (by simpa using hi)
  · cases i with
    | zero => rfl
    | succ i => simpa [shift] using d.fp i (by simpa using hi)
  · cases i with
    | zero => simp at hx'; subst hx'; exact hp
    | succ i => exact d.pure i x' (by simpa using hx')
  · cases i with
    | zero =>
      simp at ho'; subst ho'
      have : (fun b => shift S.c cs 0 ≤ b ∧ b < shift S.c cs (0 + 1)) = fun b => S.c ≤ b ∧ b < S1.c := by funext b; simp only [shift, d.c0]
      rw [this]
      intro fr h G M a w Q K' h1 h2 h3 h4 h5
      exact hy j hj h1 h2 h3 h4 h5
    | succ i =>
      rw [sF, sH]
      intro fr h G M a w Q K' h1 h2 h3 h4 h5
      exact d.y i o' (by simpa using ho') j hj h1 h2 h3 h4 h5

theorem xregs_data (hcl : CallOk P gl cl) (hops : ∀ d, (∃ o, o ∈ ops.toList ∧ o.dst = some d) → d < n) : ∀ (lo : List Oper) (lx : List IOper), compOps P n ops lo = some lx → slotsIn ops lo lx = true → ∀ {S S' : ES} {fps : List (List Nat × List Nat)}, xregs cl gl lx S = some (S', fps) →
    ∃ vs Ws rd cs, RegData P gl n ops lo lx S S' fps vs Ws rd cs
  | [], lx, hc, _, S, S', fps, he => by
    simp [compOps] at hc; subst hc
    simp only [xregs, Option.some.injEq, Prod.mk.injEq] at he
    obtain ⟨rfl, rfl⟩ := he
    exact ⟨fun _ => .undef, fun _ => [], fun _ => [], fun _ => S.c, rfl, rfl, fun i hi => (by simp at hi), rfl, rfl, rfl, fun i hi => (by simp at hi), fun i x hx => (by simp at hx), fun i o ho => (by simp at ho)⟩
  | o :: lo, lx, hc, hsl, S, S', fps, he => by
    simp only [compOps] at hc
    split at hc
    · rename_i x l' hx hl
      cases hc
      simp only [slotsIn, Bool.and_eq_true, List.all_eq_true] at hsl
      obtain ⟨hs1, hs2⟩ := hsl
      have hslot : ∀ t ∈ x.op.slots, t ∈ o.looksAt ops := fun t ht => by simpa using hs1 t ht
      obtain ⟨c1, c2, c3, c4⟩ := compOp_spec hx
      simp only [xregs] at he
      split at he
      · rename_i hg
        obtain ⟨y, h1, h2⟩ := eb_some he
        obtain ⟨fr1, h3, h4⟩ := eb_some h2
        obtain ⟨hh1, h5, h6⟩ := eb_some h4
        obtain ⟨z, h7, h8⟩ := eb_some h6
        simp only [Option.some.injEq, Prod.mk.injEq] at h8
        obtain ⟨e1, e2⟩ := h8
        subst e1 e2
        obtain ⟨vs, Ws, rd, cs, d⟩ := xregs_data hcl hops lo l' hl hs2 (S' := z.1) (fps := z.2) h7
        have hfr : fr1.get = ov (dD o.dst y.1) S.fr.get := by rw [ov_dD, putT_get h3, c3]
        have hhh : hh1.get = ov y.2.1 S.h.get := putsT_get h5
        unfold xopR at h1
        cases hac : asCall x.op with
        | none =>
          rw [hac] at h1
          simp only [] at h1
          obtain ⟨q, k1, k2⟩ := eb_some h1
          cases k2
          refine ⟨_, _, _, _, d.cons (v := q.1) (W := q.2.1) (r := q.2.2) (eob_bump _ _) hfr hhh ⟨fun hp => ?_, fun ht => ?_⟩ fun j hj => yield_op hops hj hx hslot hg k1⟩
          · exact pure_writes hp k1
          · exact ⟨pure_writes (touches_pure ht) k1, pure_reads ht k1⟩
        | some fa =>
          obtain ⟨f, as⟩ := fa
          rw [hac] at h1
          simp only [] at h1
          obtain ⟨q, k1, k2⟩ := eb_some h1
          unfold xcallR at k2
          simp only [] at k2
          obtain ⟨k3, k4⟩ := gd_some k2
          obtain ⟨hr, k5, k6⟩ := eb_some k4
          obtain ⟨zz, k7, k8⟩ := eb_some k6
          obtain ⟨k9, k10⟩ := gd_some k8
          cases k10
          simp only [Bool.and_eq_true] at k3
          have hi := hcl q.1 q.2 hr S.c zz.1 zz.2.1 zz.2.2 k7
          rw [cutT_get k5] at hi
          have hio := asCall_some hac
          refine ⟨_, _, _, _, d.cons (v := zz.1) (S := S) hi.2.1 hfr hhh ⟨fun hp => ?_, fun ht => ?_⟩ fun j hj => ?_⟩
          · rw [hio] at hp; cases hp
          · rw [hio] at ht; cases ht
          · intro fr h G M a w Q K' hrr hF hH hid hk
            unfold wpOp
            simp only [hj]
            rw [guard_wanted hops hrr c2 hF hg, if_pos rfl]
            refine .inl ?_
            rw [hio] at c1 hslot
            obtain ⟨c, g, e1, e2, rfl, rfl⟩ := comp1_call c1
            obtain ⟨fst, cap, vs', q1, q2, q3⟩ := xcallee_spec k1
            rw [← evF_congr (F' := lk fr) (fun t ht => hF t (hslot t (by simp only [IOp.slots, List.mem_append]; exact .inl ht))), evF_lk] at q1
            rw [← evsF_congr (F' := lk fr) (fun t ht => hF t (hslot t (by simp only [IOp.slots, List.mem_append]; exact .inr ht))), evsF_lk] at q2
            refine Oper.wp_mono ?_ (call_at hrr e1 e2 q1 q2 hi.1 (Post := fun rv w' => ∃ G' M', RelV G' M' zz.1 rv ∧ Sim G' M' ((diffT S.h.get zz.2.1.get (reach S.h.get 100000 (V.idsL q.2 []) []) ++ diffT S.h.get zz.2.1.get (upTo S.c (zz.2.2 - S.c))) ++ h) w' ∧ Ext G M w G' M' w' ∧ ∀ b, ¬ (S.c ≤ b ∧ b < zz.2.2) → freshGen M b = 0 → freshGen M' b = 0) fun rargs hsz hrel => ?_)
            · rintro a' w' ⟨rv, rfl, G', M', m1, m2, m3, m4⟩
              exact hk rv G' M' w' (hrr.put c4 m1 m2 m3) m3 m4
            · rw [← q3] at hsz hrel
              exact frame_call hrr.sim k3.1 k3.2 (fun b hb => hH b hb) hi k9 hrr.gl hid rargs hsz hrel
      · rename_i hg
        obtain ⟨fr1, h3, h4⟩ := eb_some he
        obtain ⟨z, h7, h8⟩ := eb_some h4
        simp only [Option.some.injEq, Prod.mk.injEq] at h8
        obtain ⟨e1, e2⟩ := h8
        subst e1 e2
        obtain ⟨vs, Ws, rd, cs, d⟩ := xregs_data hcl hops lo l' hl hs2 (S' := z.1) (fps := z.2) h7
        have hfr : fr1.get = ov (dD o.dst .undef) S.fr.get := by rw [ov_dD, putT_get h3, c3]
        exact ⟨_, _, _, _, d.cons (v := .undef) (W := []) (r := []) (S := S) (Nat.le_refl _) hfr rfl ⟨fun _ => rfl, fun _ => ⟨rfl, rfl⟩⟩ fun j hj => yield_skip hops hj hx hg⟩
      · cases he
    · cases hc
where
  pure_writes {gl : Fr} {gf : Nat → Nat} {id : Nat} {F : FF} {H : HH} {io : IOp} (hp : isPure io = true) {y : Y} (he : eop gl gf id F H io = some y) : y.2.1 = [] := by
    cases io <;> simp only [isPure, Bool.false_eq_true] at hp <;> simp only [eop] at he
    case mv x => obtain ⟨v, h1, h2⟩ := eb_some he; cases h2; rfl
    case pick c x z =>
      split at he
      · rename_i t hc
        cases t <;> (simp only [] at he; obtain ⟨v, h1, h2⟩ := eb_some he; cases h2; rfl)
      · cases he
    case build z ps =>
      obtain ⟨l, h1, h2⟩ := eb_some he
      obtain ⟨cs, h3, h4⟩ := eb_some h2
      cases h4; rfl
    case load ag m x =>
      split at he
      · obtain ⟨h1, h2⟩ := gd_some he; cases h2; rfl
      · split at he
        · obtain ⟨h1, h2⟩ := gd_some he; cases h2; rfl
        · cases he
      · cases he
    case bin op x z =>
      split at he
      · obtain ⟨v, h1, h2⟩ := eb_some he; cases h2; rfl
      · cases he
    case eqs neg m x z =>
      split at he
      · obtain ⟨h1, h2⟩ := gd_some he; cases h2; rfl
      · cases he
    case beq neg x z => split at he <;> first | (cases he; rfl) | cases he
    case un op x =>
      obtain ⟨v, h1, h2⟩ := eb_some he
      obtain ⟨v', h3, h4⟩ := eb_some h2
      cases h4; rfl
    case conv k x => split at he <;> first | (cases he; rfl) | cases he
    case mkfn f x z => split at he <;> first | (cases he; rfl) | cases he
    case slice sz x lo hi mx =>
      split at he
      · obtain ⟨l, h1, he⟩ := eb_some he
        obtain ⟨u, h2, he⟩ := eb_some he
        obtain ⟨m, h3, he⟩ := eb_some he
        obtain ⟨h4, he⟩ := gd_some he
        cases he; rfl
      · split at he
        · obtain ⟨h0, he⟩ := gd_some he
          obtain ⟨l, h1, he⟩ := eb_some he
          obtain ⟨u, h2, he⟩ := eb_some he
          obtain ⟨m, h3, he⟩ := eb_some he
          obtain ⟨h4, he⟩ := gd_some he
          cases he; rfl
        · cases he
      · cases he
    case sliceS x lo hi =>
      split at he
      · obtain ⟨l, h1, he⟩ := eb_some he
        obtain ⟨u, h2, he⟩ := eb_some he
        obtain ⟨h4, he⟩ := gd_some he
        cases he; rfl
      · cases he
    case fieldA off x => split at he <;> first | (cases he; rfl) | cases he
    case field ag off m x =>
      split at he
      · obtain ⟨h1, h2⟩ := gd_some he; cases h2; rfl
      · cases he
    case idxA sz x z =>
      split at he
      · obtain ⟨h1, h2⟩ := gd_some he; cases h2; rfl
      · split at he
        · obtain ⟨h1, h2⟩ := gd_some he; cases h2; rfl
        · cases he
      · cases he
    case idxP len sz x z =>
      split at he
      · obtain ⟨h1, h2⟩ := gd_some he; cases h2; rfl
      · obtain ⟨h1, h2⟩ := gd_some he; cases h2; rfl
      · cases he
    case idxV ag len sz x z =>
      split at he
      · obtain ⟨h1, h2⟩ := gd_some he; cases h2; rfl
      · cases he
    case idxS x z =>
      split at he
      · obtain ⟨h1, h2⟩ := gd_some he; cases h2; rfl
      · cases he
    case len x => split at he <;> first | (cases he; rfl) | cases he
    case lenS x => split at he <;> first | (cases he; rfl) | cases he
    case lenK m => cases he; rfl
    case cap x => split at he <;> first | (cases he; rfl) | cases he
    case mm mx x z => split at he <;> first | (cases he; rfl) | cases he
    case extract x i =>
      split at he
      · obtain ⟨v, h1, h2⟩ := eb_some he; cases h2; rfl
      · cases he
    case cvs x => split at he <;> first | (cases he; rfl) | cases he
    case b2s x =>
      obtain ⟨v, h1, h2⟩ := eb_some he
      obtain ⟨es, h3, h4⟩ := eb_some h2
      obtain ⟨s, h5, h6⟩ := eb_some h4
      cases h6; rfl
    case n x =>
      cases x <;> simp only [NOp.pure, Bool.false_eq_true] at hp <;> simp only [nop] at he
      case bad => cases he
      case isnil neg x =>
        split at he
        · cases he; rfl
        · cases he; rfl
        · split at he
          · obtain ⟨h1, h2⟩ := gd_some he; cases h2; rfl
          · cases he
        · cases he
      case lookup kd ok z m k =>
        split at he
        · split at he
          · obtain ⟨h1, h2⟩ := gd_some he
            split at h2
            · cases h2; rfl
            · cases h2; rfl
            · cases h2
          · cases he
        · cases he
      case idxByte s c =>
        split at he
        · obtain ⟨h1, h2⟩ := gd_some he; cases h2; rfl
        · cases he

theorem slotInd_spec {x y : Oper} (h : slotInd ops x y = true) : SlotInd ops x y := by
  simp only [slotInd, Bool.and_eq_true] at h
  obtain ⟨h1, h2⟩ := h
  refine ⟨fun t ht hd => ?_, fun t ht hd => ?_, fun t hd hd' => ?_⟩
  · rw [hd] at h1
    simp only [Bool.and_eq_true, Bool.not_eq_true', List.contains_eq_mem, decide_eq_false_iff_not] at h1
    exact h1.1 ht
  · rw [hd] at h2
    simp only [Bool.not_eq_true', List.contains_eq_mem, decide_eq_false_iff_not] at h2
    exact h2 ht
  · rw [hd] at h1
    simp only [Bool.and_eq_true, bne_iff_ne, ne_eq] at h1
    exact h1.2 hd'

theorem lk_keys {α : Type} {W : List (Nat × α)} {b : Nat} (h : b ∉ W.map (·.1)) : lk W b = none := by
  induction W with
  | nil => rfl
  | cons p r ih =>
    obtain ⟨k, v⟩ := p
    simp only [List.map_cons, List.mem_cons, not_or] at h
    simp only [lk, if_neg h.1, ih h.2]

theorem indF_spec {W W' : Hp} {r r' : List Nat} (h : indF (W.map (·.1), r) (W'.map (·.1), r') = true) : HeapInd W W' (fun b => b ∈ r) (fun b => b ∈ r') := by
  simp only [indF, Bool.and_eq_true, List.all_eq_true, Bool.not_eq_true'] at h
  obtain ⟨h1, h2⟩ := h
  have nm : ∀ {b : Nat} {l : List Nat}, memN b l = false → b ∉ l := fun hb hm => by rw [memN_iff.2 hm] at hb; cases hb
  refine ⟨fun b => ?_, fun b hb => ?_, fun b hb => ?_⟩
  · by_cases hm : b ∈ W.map (·.1)
    · exact .inr (lk_keys (nm (h1 b hm).1))
    · exact .inl (lk_keys hm)
  · refine lk_keys fun hm => nm (h1 b hm).2 hb
  · refine lk_keys fun hm => nm (h2 b hm) hb

theorem chkOf_mem {an : List Nat} {l : List IOper} {i j : Nat} {x y : IOper} (hij : i < j) (hi : l[i]? = some x) (hj : l[j]? = some y) (hb : bd an i j = false) (hc : clash x.op y.op = true) : (i, j) ∈ chkOf an l := by
  have hjl : j < l.length := (List.getElem?_eq_some_iff.1 hj).1
  simp only [chkOf, List.mem_flatMap, List.mem_range, List.mem_filterMap]
  refine ⟨j, hjl, i, hij, ?_⟩
  simp only [hi, hj, hb, hc, Bool.not_false, Bool.and_true, cond_true]

theorem reg_sound (hcl : CallOk P gl cl) {id : Nat} {x : XC} (hx : compReg P n ops = some x) : ∃ l chk, x = .reg l chk ∧ ∀ {S S' : ES} {fps : List (List Nat × List Nat)}, xregs cl gl l S = some (S', fps) → indAll fps chk = true →
    IWXg (fun Q a w => (Code.region id ops true).wp P Q a w) n gl S .normal S' := by
  unfold compReg at hx
  split at hx
  · cases hx
  · rename_i all hall
    split at hx
    · rename_i hcond
      obtain ⟨hm, hback, hslots, hpairs, -⟩ := hcond
      cases hx
      refine ⟨_, _, rfl, fun {S S' fps} he hind => ?_⟩
      obtain ⟨vs, Ws, rd, cs, d⟩ := xregs_data hcl (dsts_lt hall) ops.toList all hall hslots he
      have hlen : ops.toList.length = ops.size := by simp
      have hall_len := (compOps_spec hall).1
      have cmono : ∀ j, j ≤ ops.size → ∀ i, i ≤ j → cs i ≤ cs j := by
        intro j
        induction j with
        | zero => intro _ i hi; obtain rfl : i = 0 := by omega
                  exact Nat.le_refl _
        | succ j ih =>
          intro hj i hi
          by_cases h : i = j + 1
          · rw [h]; exact Nat.le_refl _
          · exact Nat.le_trans (ih (by omega) i (by omega)) (d.mono j (by omega))
      have hSS : S.c ≤ S'.c := by rw [← d.c0, ← d.cn]; exact cmono _ (by omega) 0 (by omega)
      refine ⟨hSS, fun G M a w fr hl hF hH hr hid => ?_⟩
      refine wp_region_any hm ?_
      have hDv : DvL ops.toList vs = Dv ops vs := by funext i; simp [DvL, Dv]; rfl
      have idsb : ∀ i b, i < ops.size ∧ (cs i ≤ b ∧ b < cs (i + 1)) → S.c ≤ b ∧ b < S'.c := fun i b ⟨h1, h2, h3⟩ => by
        have q1 := cmono i (by omega) 0 (by omega)
        have q2 := cmono ops.size (by omega) (i + 1) (by omega)
        have q3 := d.cn
        rw [hlen] at q3
        rw [← d.c0, ← q3]; omega
      refine region_any (P := P) (gl := gl) (n := n) (vs := vs) (Ws := Ws) (rd := fun i b => b ∈ rd i) (ids := fun i b => i < ops.size ∧ (cs i ≤ b ∧ b < cs (i + 1))) (F0 := S.fr.get) (H0 := S.h.get) hback ?_ ?_ ?_ ?_ (G0 := G) (M0' := M) (w0 := w) ?_
        ops.size (Array.replicate ops.size false) fr hl G M a _ (by simp) ?_ ?_ ?_ ?_ Ext.drawn ?_ (fun b _ h0 => h0) ?_
      · intro i o ho
        have hi : i < ops.size := (Array.getElem?_eq_some_iff.1 ho).1
        have hyy : YieldS P gl n ops i o (st (Dv ops vs) all1 S.fr.get i) (st Ws all1 S.h.get i) (fun b => b ∈ rd i) (fun b => cs i ≤ b ∧ b < cs (i + 1)) (vs i) (Ws i) := by
          rw [← hDv]
          intro fr h G M a w Q K' h1 h2 h3 h4 h5
          exact d.y i o (by simpa using ho) i ho h1 h2 h3 h4 h5
        intro fr h G M a w Q K' h1 h2 h3 h4 h5
        exact hyy h1 h2 h3 (fun b hb => h4 b ⟨hi, hb⟩) (fun rv G' M' w' k1 k2 k3 => h5 rv G' M' w' k1 k2 (fun b hb h0 => k3 b (fun hc => hb ⟨hi, hc⟩) h0))
      · intro i j oi oj hij hoi hoj hb
        have hj : j < ops.size := (Array.getElem?_eq_some_iff.1 hoj).1
        simp only [pairsOk, List.all_eq_true, List.mem_range, Bool.or_eq_true] at hpairs
        rcases hpairs j hj i hij with h | h
        · rw [hb] at h; cases h
        · rw [hoi, hoj] at h; exact slotInd_spec h
      · intro i j hij hj hb
        have hxi : all[i]? = some (all[i]'(by omega)) := List.getElem?_eq_getElem (by omega)
        have hxj : all[j]? = some (all[j]'(by omega)) := List.getElem?_eq_getElem (by omega)
        cases hc : clash (all[i]'(by omega)).op (all[j]'(by omega)).op with
        | true =>
          have hmem := chkOf_mem hij hxi hxj hb hc
          have := List.all_eq_true.1 hind _ hmem
          rw [d.fp i (by omega), d.fp j (by omega)] at this
          exact indF_spec this
        | false =>
          simp only [clash, Bool.or_eq_false_iff, Bool.and_eq_false_iff, Bool.not_eq_false'] at hc
          obtain ⟨h1, h2⟩ := hc
          have pi := d.pure i _ hxi
          have pj := d.pure j _ hxj
          have key : (Ws i = [] ∧ Ws j = []) ∨ (Ws i = [] ∧ rd i = []) ∨ (Ws j = [] ∧ rd j = []) := by
            rcases h1 with h1 | h1
            · rcases h2 with h2 | h2
              · exact .inr (.inl (pi.2 h2))
              · exact .inl ⟨pi.1 h1, pj.1 h2⟩
            · exact .inr (.inr (pj.2 h1))
          rcases key with ⟨e1, e2⟩ | ⟨e1, e2⟩ | ⟨e1, e2⟩
          · rw [e1, e2]; exact ⟨fun _ => .inl rfl, fun _ _ => rfl, fun _ _ => rfl⟩
          · rw [e1]; exact ⟨(fun _ => .inl rfl), (fun _ _ => rfl), (fun b hb => by simp only [e2] at hb; cases hb)⟩
          · rw [e1]; exact ⟨(fun _ => .inr rfl), (fun b hb => by simp only [e2] at hb; cases hb), (fun _ _ => rfl)⟩
      · rintro i j b hij ⟨h1, h2, h3⟩ ⟨h4, h5, h6⟩
        rcases Nat.lt_or_gt_of_ne hij with h | h
        · have := cmono j (by omega) (i + 1) (by omega); omega
        · have := cmono i (by omega) (j + 1) (by omega); omega
      · intro fr' h' G' M' a' w' e1 e2 e3 e4 e5
        refine ⟨rfl, G', M', fr', h', ?_, ?_, e3, e4, fun b hb h0 => e5 b (fun i hi => hb (idsb i b hi)) h0⟩
        · rw [e1, d.fr, hDv, hlen]
        · rw [e2, d.h, hlen]
      · intro x y h1
        by_cases hx : x < ops.size <;> simp [hx] at h1
      · rw [hF]
        funext t
        rw [st_above ops.size (Nat.zero_le _) fun j _ h2 _ => by simp [h2]]
        rfl
      · rw [hH]
        funext t
        rw [st_above ops.size (Nat.zero_le _) fun j _ h2 _ => by simp [h2]]
        rfl
      · exact ⟨hr.sim.drawn, hr.frr, hr.sz, hr.df, hr.gl⟩
      · intro i _ b hb
        have := idsb i b hb
        exact hid b this.1 this.2
      · unfold unl
        exact Nat.le_trans List.countP_le_length (by simp)
    · cases hx
end
end Go.Proofs.YtcdfifbabhfknaaDoor
