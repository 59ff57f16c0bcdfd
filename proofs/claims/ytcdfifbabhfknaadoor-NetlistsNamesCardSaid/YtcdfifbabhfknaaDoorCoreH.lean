/- Ideal code told for proofs about all inputs: its soundness. No program stands in it. Conditions: none. -/
import Derived.Test.YtcdfifbabhfknaaDoorCoreG
namespace Go.Proofs.YtcdfifbabhfknaaDoor
open Go

section
variable {P : Program} {gl : Fr} {n : Nat} {ops : Array Oper} {gm : Nat → Nat}

theorem dreg_data (hops : ∀ d, (∃ o, o ∈ ops.toList ∧ o.dst = some d) → d < n) : ∀ (lo : List Oper) (lx : List IOper), compOps P n ops lo = some lx → slotsIn ops lo lx = true → (lx.all regOp) = true → ∀ {fr : Fr} {h : Hp} {acc : Fps} {K : Fr → Hp → Fps → Prop}, dregW P gl gm lx fr h acc K →
    ∃ fr' h' fps vs Ws rd, K fr' h' (acc ++ fps) ∧ RegG P gl n ops gm lo lx fr h fr' h' fps vs Ws rd
  | [], lx, hc, _, _, fr, h, acc, K, hd => by
    simp [compOps] at hc; subst hc
    exact ⟨fr, h, [], fun _ => .undef, fun _ => [], fun _ => [], (by rw [List.append_nil]; exact hd), rfl, rfl, rfl, fun i hi => by simp at hi, fun i x hx => by simp at hx, fun i x b hx => by simp at hx, fun i o x ho => by simp at ho⟩
  | o :: lo, lx, hc, hsl, hro, fr, h, acc, K, hd => by
    simp only [compOps] at hc
    split at hc
    · rename_i x l' hx hl
      cases hc
      simp only [slotsIn, Bool.and_eq_true, List.all_eq_true] at hsl
      obtain ⟨hs1, hs2⟩ := hsl
      have hslot : ∀ t ∈ x.op.slots, t ∈ o.looksAt ops := fun t ht => by simpa using hs1 t ht
      simp only [List.all_cons, Bool.and_eq_true] at hro
      obtain ⟨hr1, hr2⟩ := hro
      obtain ⟨c1, c2, c3, c4⟩ := compOp_spec hx
      simp only [dregW] at hd
      rcases gF_xgd hd with ⟨hg, hd⟩ | ⟨hg, hd⟩
      · unfold dopT dopW at hd
        cases hac : asCall x.op with
        | none =>
          rw [hac] at hd
          simp only [] at hd
          obtain ⟨y, h1, h2⟩ := optW_some hd
          simp only [kRd, kD] at h2
          obtain ⟨fr', h', fps, vs, Ws, rd, k1, k2⟩ := dreg_data hops lo l' hl hs2 hr2 h2
          rw [c3] at k2
          refine ⟨fr', h', _, _, _, _, ?_, k2.cons (v := y.1) (W := y.2.1) (r := bif isPure x.op then y.2.2 else x.dst.toList ++ y.2.2) ⟨fun hp => xregs_data.pure_writes hp h1, fun ht => ⟨xregs_data.pure_writes (touches_pure ht) h1, ?_⟩⟩ ?_ fun j hj => yieldG_op hops hj hx hslot hg h1 ?_⟩
          · simpa [snocF] using k1
          · rw [touches_pure ht]; exact pure_reads ht h1
          · intro b hb
            unfold alOf at hb
            rw [hac] at hb
            simp only [] at hb
            cases hpp : isPure x.op with
            | true => rw [hpp] at hb; cases hb
            | false => rw [hpp] at hb; simp only [cond_false] at hb ⊢; simp [hb]
          · unfold regOp at hr1
            rw [hac] at hr1
            simp only [Bool.or_eq_true] at hr1
            rcases hr1 with (h | h) | h
            · exact .inr (.inl h)
            · exact .inl (fun e => by rw [e] at h; cases h)
            · exact .inr (.inr h)
        | some fa =>
          obtain ⟨f, as⟩ := fa
          rw [hac] at hd
          simp only [] at hd
          cases hf : ev gl fr f with
          | none => rw [hf] at hd; exact hd.elim
          | some fv =>
            cases hvs : evs gl fr as with
            | none => rw [hf, hvs] at hd; exact hd.elim
            | some vs0 =>
              rw [hf, hvs] at hd
              simp only [w2l] at hd
              cases fv <;> simp only [dcallW] at hd
              rename_i fid fst cap
              obtain ⟨res, hp, h2⟩ := hd
              simp only [kCl, kD] at h2
              obtain ⟨fr', h', fps, vs, Ws, rd, k1, k2⟩ := dreg_data hops lo l' hl hs2 hr2 h2
              rw [c3] at k2
              have hio := asCall_some hac
              refine ⟨fr', h', _, _, _, _, ?_, RegG.cons (v := res) (W := []) (r := h.map (·.1)) (o := o) (x := x) k2 ⟨fun _ => rfl, fun ht => ?_⟩ (fun b hb => by unfold alOf at hb; rw [hac] at hb; cases hb) fun j hj => ?_⟩
              · simpa [snocF] using k1
              · rw [hio] at ht; cases ht
              · intro frx hx' G M a w Q K' hrr hF hH hid hk
                unfold wpOp
                simp only [hj]
                rw [guard_wanted hops hrr c2 hF hg, if_pos rfl]
                refine .inl ?_
                rw [hio] at c1 hslot
                obtain ⟨c, g, e1, e2, rfl, rfl⟩ := comp1_call c1
                rw [← evF_lk, ← evF_congr (F' := lk frx) (fun t ht => hF t (hslot t (by simp only [IOp.slots, List.mem_append]; exact .inl ht))), evF_lk] at hf
                rw [← evsF_lk, ← evsF_congr (F' := lk frx) (fun t ht => hF t (hslot t (by simp only [IOp.slots, List.mem_append]; exact .inr ht))), evsF_lk] at hvs
                have hcal : callable P fid = true := by
                  rcases hp with ⟨-, hc⟩ | ⟨m, hc, -⟩
                  · exact hc.1
                  · exact hc.1
                refine Oper.wp_mono ?_ (call_at hrr e1 e2 hf hvs hcal (Post := fun rv w' => ∃ G', RelV G' M res rv ∧ Sim G' M hx' w' ∧ Ext G M w G' M w') fun rargs hsz hrel => (hp.calls hH hrr.sim hrr.gl hsz hrel).2)
                rintro a' w' ⟨rv, rfl, G', m1, m2, m3⟩
                exact hk rv G' M w' (hrr.put c4 m1 m2 m3) m3 (fun _ _ _ => rfl)
      · simp only [kU] at hd
        obtain ⟨fr', h', fps, vs, Ws, rd, k1, k2⟩ := dreg_data hops lo l' hl hs2 hr2 hd
        rw [c3] at k2
        refine ⟨fr', h', _, _, _, _, ?_, RegG.cons (v := .undef) (W := []) (r := (alOf x).toList) (o := o) (x := x) k2 ⟨fun _ => rfl, fun ht => ⟨rfl, by unfold alOf; cases hc : asCall x.op <;> simp [touches_pure ht]⟩⟩ (fun b hb => by rw [hb]; simp) fun j hj => yieldG_skip hops hj hx hg⟩
        simpa [snocF] using k1
    · cases hc

theorem alOf_ex {x : IOper} {b : Nat} (h : alOf x = some b) : exOf x = some b := by
  unfold alOf at h
  unfold exOf
  cases hc : asCall x.op with
  | some fa => rw [hc] at h; cases h
  | none =>
    rw [hc] at h
    simp only [] at h ⊢
    cases hp : isPure x.op with
    | true => rw [hp] at h; cases h
    | false => rw [hp] at h; simp only [cond_false] at h ⊢; rw [h]; rfl
theorem exOf_al {x : IOper} {b : Nat} (h : exOf x = some b) (hb : b ≠ 999999) : alOf x = some b := by
  unfold exOf at h
  unfold alOf
  cases hc : asCall x.op with
  | some fa => rw [hc] at h; cases h
  | none =>
    rw [hc] at h
    simp only [] at h ⊢
    cases hp : isPure x.op with
    | true => rw [hp] at h; cases h
    | false =>
      rw [hp] at h
      simp only [cond_false, Option.some.injEq] at h ⊢
      cases hd : x.dst with
      | none => rw [hd] at h; exact absurd h.symm hb
      | some d => rw [hd] at h; simp only [Option.getD_some] at h; rw [h]

theorem alDist_spec : ∀ {l : List IOper} {seen : List Nat}, alDist l seen = true → (∀ (i : Nat) (x : IOper) (b : Nat), l[i]? = some x → alOf x = some b → b ∉ seen ∧ b ≠ 999999) ∧ ∀ (i j : Nat) (x y : IOper) (b : Nat), i ≠ j → l[i]? = some x → l[j]? = some y → alOf x = some b → alOf y ≠ some b
  | [], seen, _ => ⟨fun i x b h => by simp at h, fun i j x y b _ h => by simp at h⟩
  | z :: r, seen, h => by
    simp only [alDist] at h
    cases hz : alOf z with
    | none =>
      rw [hz] at h
      obtain ⟨i1, i2⟩ := alDist_spec h
      refine ⟨fun i x b hx hb => ?_, fun i j x y b hij hx hy hb hb' => ?_⟩
      · cases i with
        | zero => simp at hx; subst hx; rw [hz] at hb; cases hb
        | succ i => exact i1 i x b (by simpa using hx) hb
      · cases i with
        | zero => simp at hx; subst hx; rw [hz] at hb; cases hb
        | succ i =>
          cases j with
          | zero => simp at hy; subst hy; rw [hz] at hb'; cases hb'
          | succ j => exact i2 i j x y b (by omega) (by simpa using hx) (by simpa using hy) hb hb'
    | some c =>
      rw [hz] at h
      simp only [Bool.and_eq_true, Bool.not_eq_true'] at h
      obtain ⟨⟨h1, h2⟩, h3⟩ := h
      obtain ⟨i1, i2⟩ := alDist_spec h3
      have hc1 : c ∉ seen := fun hm => by rw [memN_iff.2 hm] at h1; cases h1
      have hc2 : c ≠ 999999 := fun he => by subst he; rw [Nat.beq_refl] at h2; cases h2
      refine ⟨fun i x b hx hb => ?_, fun i j x y b hij hx hy hb hb' => ?_⟩
      · cases i with
        | zero => simp at hx; subst hx; rw [hz] at hb; cases hb; exact ⟨hc1, hc2⟩
        | succ i =>
          obtain ⟨q1, q2⟩ := i1 i x b (by simpa using hx) hb
          exact ⟨fun hm => q1 (List.mem_cons_of_mem _ hm), q2⟩
      · cases i with
        | zero =>
          simp at hx; subst hx; rw [hz] at hb; cases hb
          cases j with
          | zero => exact hij rfl
          | succ j => exact (i1 j y _ (by simpa using hy) hb').1 List.mem_cons_self
        | succ i =>
          cases j with
          | zero =>
            simp at hy; subst hy; rw [hz] at hb'; cases hb'
            exact (i1 i x _ (by simpa using hx) hb).1 List.mem_cons_self
          | succ j => exact i2 i j x y b (by omega) (by simpa using hx) (by simpa using hy) hb hb'

theorem IW.regG {id : Nat} {x : XC} (hx : compReg P n ops = some x) {fr : Fr} {h : Hp} {Q : IQ} : ∃ l chk, x = .reg l chk ∧ ((∀ gm, dregW P gl gm l fr h [] (fun fr' h' fps => indAll fps chk = true ∧ Q .normal fr' h')) → IW P n gl (.region id ops true) Q fr h) := by
  unfold compReg at hx
  split at hx
  · cases hx
  · rename_i all hall
    split at hx
    · rename_i hcond
      obtain ⟨hm, hback, hslots, hpairs, hok⟩ := hcond
      cases hx
      refine ⟨_, _, rfl, fun hw => ?_⟩
      simp only [Bool.and_eq_true] at hok
      obtain ⟨hro, had⟩ := hok
      obtain ⟨ad1, ad2⟩ := alDist_spec had
      intro G M a w hr
      refine wp_region_any hm ?_
      obtain ⟨fr', h', fps, vs, Ws, rd, ⟨hind, hq⟩, d⟩ := dreg_data (gm := freshGen M) (dsts_lt hall) ops.toList all hall hslots hro (hw (freshGen M))
      rw [List.nil_append] at hind
      have hlen : ops.toList.length = ops.size := by simp
      have hall_len := (compOps_spec hall).1
      have hDv : DvL ops.toList vs = Dv ops vs := by funext i; simp [DvL, Dv]; rfl
      have hax : ∀ i, i < ops.size → all[i]? = some (all.getD i default) := fun i hi => by
        have hi' : i < all.length := by omega
        rw [List.getElem?_eq_getElem hi', List.getD_eq_getElem?_getD, List.getElem?_eq_getElem hi']; rfl
      let al : Nat → Option Nat := fun i => if i < ops.size then alOf (all.getD i default) else none
      let ex : Nat → Option Nat := fun i => if i < ops.size then exOf (all.getD i default) else none
      have hal : ∀ i b, al i = some b → i < ops.size ∧ alOf (all.getD i default) = some b := fun i b hb => by
        simp only [al] at hb
        split at hb
        · rename_i h1; exact ⟨h1, hb⟩
        · cases hb
      refine regionG (P := P) (gl := gl) (n := n) (gm := freshGen M) (vs := vs) (Ws := Ws) (rd := fun i b => b ∈ rd i) (al := al) (ex := ex) (F0 := lk fr) (H0 := lk h) hback ?_ ?_ ?_ ?_ ?_ ?_ (G0 := G) (M0' := M) (w0 := w) ?_
        ops.size (Array.replicate ops.size false) fr h G M a _ (by simp) ?_ ?_ ?_ ?_ Ext.drawn ?_ ?_
      · intro i o ho
        have hi : i < ops.size := (Array.getElem?_eq_some_iff.1 ho).1
        have e1 : al i = alOf (all.getD i default) := by simp only [al, if_pos hi]
        have e2 : ex i = exOf (all.getD i default) := by simp only [ex, if_pos hi]
        rw [e1, e2, ← hDv]
        intro fr h G M a w Q K' h1 h2 h3 h4 h5
        exact d.y i o _ (by simpa using ho) (hax i hi) i ho h1 h2 h3 h4 h5
      · intro i j oi oj hij hoi hoj hb
        have hj : j < ops.size := (Array.getElem?_eq_some_iff.1 hoj).1
        simp only [pairsOk, List.all_eq_true, List.mem_range, Bool.or_eq_true] at hpairs
        rcases hpairs j hj i hij with h | h
        · rw [hb] at h; cases h
        · rw [hoi, hoj] at h; exact slotInd_spec h
      · intro i j hij hj hb
        have hxi := hax i (by omega)
        have hxj := hax j hj
        cases hc : clash (all.getD i default).op (all.getD j default).op with
        | true =>
          have hmem := chkOf_mem hij hxi hxj hb hc
          have := List.all_eq_true.1 hind _ hmem
          rw [d.fp i (by omega), d.fp j (by omega)] at this
          exact indF_spec this
        | false =>
          simp only [clash, Bool.or_eq_false_iff, Bool.and_eq_false_iff, Bool.not_eq_false'] at hc
          obtain ⟨h1, h2⟩ := hc
          have pi := d.pure i _ hxi
          have pj := d.pure j _ hxj
          have key : (Ws i = [] ∧ Ws j = []) ∨ (Ws i = [] ∧ rd i = []) ∨ (Ws j = [] ∧ rd j = []) := by
            rcases h1 with h1 | h1
            · rcases h2 with h2 | h2
              · exact .inr (.inl (pi.2 h2))
              · exact .inl ⟨pi.1 h1, pj.1 h2⟩
            · exact .inr (.inr (pj.2 h1))
          rcases key with ⟨e1, e2⟩ | ⟨e1, e2⟩ | ⟨e1, e2⟩
          · rw [e1, e2]; exact ⟨(fun _ => .inl rfl), (fun _ _ => rfl), (fun _ _ => rfl)⟩
          · rw [e1]; exact ⟨(fun _ => .inl rfl), (fun _ _ => rfl), (fun b hb => by simp only [e2] at hb; cases hb)⟩
          · rw [e1]; exact ⟨(fun _ => .inr rfl), (fun b hb => by simp only [e2] at hb; cases hb), (fun _ _ => rfl)⟩
      · intro i b hb
        exact d.alrd i _ b (hax i (hal i b hb).1) (hal i b hb).2
      · intro i b hb
        exact (ad1 i _ b (hax i (hal i b hb).1) (hal i b hb).2).2
      · intro i j b hij hi hj hb h9 hc
        simp only [ex, if_pos hj] at hc
        exact ad2 i j _ _ b hij (hax i hi) (hax j hj) (hal i b hb).2 (exOf_al hc h9)
      · intro fr2 h2 G' M' a' w' e1 e2 e3 e4
        refine ⟨.normal, G', M', fr', h', rfl, hq, ?_, e4⟩
        refine e3.weaken (fun t v ht => ?_) (fun b k hb => ?_)
        · rw [e1, ← hDv, ← hlen, ← d.efr]; exact ht
        · rw [e2, ← hlen, ← d.eh]; exact hb
      · intro x y h1
        by_cases hx : x < ops.size <;> simp [hx] at h1
      · funext t
        rw [st_above ops.size (Nat.zero_le _) fun j _ h2 _ => by simp [h2]]
        rfl
      · funext t
        rw [st_above ops.size (Nat.zero_le _) fun j _ h2 _ => by simp [h2]]
        rfl
      · exact ⟨hr.sim.drawn, hr.frr, hr.sz, hr.df, hr.gl⟩
      · intro i hi _ b hb h9 hn
        refine ⟨rfl, ?_⟩
        cases hk : lk h b with
        | none => rfl
        | some k =>
          exfalso
          have : ∀ m, st Ws all1 (lk h) m b ≠ none := by
            intro m
            induction m with
            | zero => show lk h b ≠ none; rw [hk]; simp
            | succ m ihm =>
              show ov (Ws m) (st Ws all1 (lk h) m) b ≠ none
              unfold ov
              split
              · simp
              · exact ihm
          exact this i hn
      · unfold unl
        exact Nat.le_trans List.countP_le_length (by simp)
    · cases hx
end
end Go.Proofs.YtcdfifbabhfknaaDoor
