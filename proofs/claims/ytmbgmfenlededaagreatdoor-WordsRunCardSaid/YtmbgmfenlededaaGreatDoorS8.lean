/- Words: the lanes of one cycle for many patterns; circuits of plain data without memories are good. Conditions: none. -/
import Derived.Test.YtmbgmfenlededaaGreatDoorS7
namespace Go.Proofs.YtmbgmfenlededaaGreatDoor
open Go
theorem lv_mo2 {c : Nat} (h : c ≤ 3) : lv (decide (mo c = 1#64)) (decide (mz c = 1#64)) = c := by
  have hc : c = 0 ∨ c = 1 ∨ c = 2 ∨ c = 3 := by omega
  rcases hc with rfl | rfl | rfl | rfl <;> rfl
theorem packW_lane (l : List Nat) (i : Nat) (hl : l.length ≤ 64) (_hi : i < 64) : (packW l).lane i = if i < l.length then clean (l.getD i 0) else 2 := by
  have h := lv_mo2 (clean_le (l.getD i 0))
  unfold packW Wd.lane
  simp only []
  rw [pk_get _ (fun i => mo_01 _) _ i (by omega), pk_get _ (fun i => mz_01 _) _ i (by omega)]
  by_cases hc : i < l.length
  · rw [if_pos hc, show decide (i < min l.length 64) = true by simp; omega]
    simpa using h
  · rw [if_neg hc, show decide (i < min l.length 64) = false by simp; omega]
    rfl
theorem clean_id {v : Nat} (h : v ≤ 3) : clean v = v := by unfold clean; rw [if_neg (by omega)]
/-- The pattern of a lane. -/
def ptL (c : Ci) (l : List Pt) (i : Nat) : Pt := l.getD i (blkP c)
theorem ptL_fit {c : Ci} {l : List Pt} (hf : ∀ p ∈ l, p.fit c) (i : Nat) : (ptL c l i).fit c := by
  unfold ptL
  rw [List.getD_eq_getElem?_getD]
  by_cases h : i < l.length
  · rw [List.getElem?_eq_getElem h]; exact hf _ (List.getElem_mem h)
  · rw [List.getElem?_eq_none (by omega)]; exact blk_fit c
theorem inW_lane (c : Ci) (l : List Pt) (sel : Pt → List Nat) (k i : Nat) (hl : l.length ≤ 64) (hi : i < 64) (hb : (sel (blkP c)).getD k 0 = 2) (h3 : ∀ p ∈ l, (sel p).getD k 0 ≤ 3) : (inW l sel k).lane i = (sel (ptL c l i)).getD k 0 := by
  unfold inW
  rw [packW_lane _ _ (by simpa using hl) hi]
  by_cases hc : i < l.length
  · rw [if_pos (by simpa using hc)]
    have e : (l.map fun p => (sel p).getD k 0).getD i 0 = (sel l[i]).getD k 0 := by
      rw [List.getD_eq_getElem?_getD, List.getElem?_eq_getElem (by simpa using hc)]
      simp
    have e2 : ptL c l i = l[i] := by unfold ptL; rw [List.getD_eq_getElem?_getD, List.getElem?_eq_getElem hc]; rfl
    rw [e, e2, clean_id (h3 _ (List.getElem_mem hc))]
  · rw [if_neg (by simpa using hc)]
    have e2 : ptL c l i = blkP c := by unfold ptL; rw [List.getD_eq_getElem?_getD, List.getElem?_eq_none (by omega)]; rfl
    rw [e2, hb]
theorem getD_le3 {l : List Nat} (h : ∀ x ∈ l, x ≤ 3) (k : Nat) : l.getD k 0 ≤ 3 := by
  rw [List.getD_eq_getElem?_getD]
  by_cases hk : k < l.length
  · rw [List.getElem?_eq_getElem hk]; exact h _ (List.getElem_mem hk)
  · rw [List.getElem?_eq_none (by omega)]; simp
theorem ini_lane {c : Ci} (hg : c.good) {l : List Pt} (hl : l.length ≤ 64) (hf : ∀ p ∈ l, p.fit c) (i : Nat) (hi : i < 64) (n : Nat) (hn : n < c.n.length) (hcb : combC c n = false) : (iniW c l n).lane i = ini c (ptL c l i) n := by
  have hp := ptL_fit hf i
  have hk : c.n[n].k = 0 ∨ c.n[n].k = 14 := by
    have h1 := (nd_zero ((sh_zero hg.sh).2.2.1 _ (List.getElem_mem hn))).1
    have h2 := hg.k _ (List.getElem_mem hn)
    have h3 := hg.wf.k _ (List.getElem_mem hn)
    unfold combC combB at hcb
    rw [c.nd_get hn] at hcb
    simp at hcb
    omega
  have hb : ∀ (m k : Nat), k < m → (List.replicate m 2).getD k 0 = 2 := fun m k h => by
    rw [List.getD_eq_getElem?_getD, List.getElem?_eq_getElem (by simpa using h)]; simp
  refine put_rel (R := fun (w : Wd) (v : Nat) => w.lane i = v) _ _ _ _ _ (by simp [cnt]) (by rw [hp.s]; rfl) (fun k h1 h2 => ?_) ?_
  · have h1' : k < cnt 14 c.n := by simpa using h1
    rw [tab_get, inW_lane c l Pt.s k i hl hi (hb _ _ h1') fun p hp' => getD_le3 (hf p hp').sv k, List.getD_eq_getElem?_getD, List.getElem?_eq_getElem h2]
    rfl
  · rcases hk with hk | hk
    · refine .inr (put_rel (R := fun (w : Wd) (v : Nat) => w.lane i = v) _ _ _ _ _ (by simp [cnt]) (by rw [hp.i]; rfl) (fun k h1 h2 => ?_) (.inl ((ids_mem 0 c.n 0 n).2 ⟨n, hn, by omega, hk⟩)))
      have h1' : k < cnt 0 c.n := by simpa using h1
      rw [tab_get, inW_lane c l Pt.i k i hl hi (hb _ _ h1') fun p hp' => getD_le3 (hf p hp').iv k, List.getD_eq_getElem?_getD, List.getElem?_eq_getElem h2]
      rfl
    · exact .inl ((ids_mem 14 c.n 0 n).2 ⟨n, hn, by omega, hk⟩)
theorem ordL_ord {c : Ci} {L : List Nat} (h : Ord c L) : Ord c (ordL c) := by rw [h.eq]; exact h
theorem Ci.good.ord {c : Ci} (hg : c.good) : Ord c (ordL c) := by
  have hlv : IsLv c.n.length c.g (lvOf c) := hg.ac.lv
  have hlt := hlv.lt hg.val.g
  refine ordL_ord (L := lvL c.n.length (lvOf c) c.n.length) ⟨⟨?_, fun x hx => ((lvL_mem _ _).1 hx).1⟩, lvL_pw _⟩
  have h1 := lvL_len (n := c.n.length) (lv := lvOf c) c.n.length
  have h2 := lvL_all hlt
  omega
theorem net_lane {c : Ci} (hg : c.good) {l : List Pt} (hl : l.length ≤ 64) (hf : ∀ p ∈ l, p.fit c) (ho : Ord c (ordL c)) (i : Nat) (hi : i < 64) (n : Nat) (hn : n < c.n.length) : (netW c l n).lane i = netN c (ptL c l i) n := by
  have hr := ho.r
  refine evl_rel (g := c.g) (cb := combC c) (ev := wevN c) (ev' := nevN c) (R := fun n w v => n < c.n.length → w.lane i = v) (fun m f f' hc hx hm => ?_) (ordL c) [] (iniW c l) (ini c (ptL c l i)) (ho.topo hg) (fun m hm hmn => ?_) n ?_ hn
  · unfold wevN nevN
    rw [eval_lane _ _ _ hi, List.map_map]
    congr 1
    exact List.map_congr_left fun x hxm => hx x hxm (hg.val.g m hm x hxm)
  · rcases hm with hm | hm
    · simp at hm
    · exact ini_lane hg hl hf i hi m hmn hm
  · exact .inr (.inl (nodup_full (lex_nodup ho.p) hr.lt (by have := hr.len; omega) n hn))
theorem good_of (x : Cx) (hm : x.mem = false) : x.ci.good where
  wf := ci_wf x
  chk := chk_ok x
  sh := shE_ok x
  ac := acyc_below (ci_below x)
  m := by simp [Cx.ci, hm]
  k := fun y hy hk => by
    obtain ⟨i, hi, rfl⟩ := List.getElem_of_mem hy
    rcases (cxn_ok x).1 i hi with h | h | h | h
    · have := h.1; omega
    · have := h.1; omega
    · rw [hm] at h; exact absurd h.1 (by simp)
    · have := h.2.1; omega
  n0 := by rw [(cxn_ok x).2]; exact (ns0_ok x).2.2.1
  n1 := by rw [(cxn_ok x).2]; have := (ns0_ok x).2.2.2; have e : x.nn ≤ 16 := this; omega
theorem ci_lens (x : Cx) : x.ci.lens := by
  have hn : x.ci.n.length ≤ 16 := by rw [(cxn_ok x).2]; exact (ns0_ok x).2.2.2
  have hnn : x.nn ≤ 16 := (ns0_ok x).2.2.2
  have hval := sh_val (ci_wf x) (shE_ok x)
  refine ⟨by omega, by simp [Cx.ci]; omega, by simp only [Cx.ci]; split <;> simp, by simp [Cx.ci]; omega, fun y hy => ?_, fun y hy => ?_⟩
  · obtain ⟨i, hi, rfl⟩ := List.getElem_of_mem hy
    have := hval.l i hi
    rw [x.ci.nd_get hi] at this
    omega
  · simp only [Cx.ci] at hy
    split at hy
    · simp only [List.mem_singleton] at hy; subst hy; simp
    · simp at hy
/-- Whether two lists of values differ. -/
theorem same6_c (a b : List Nat) (ca cb : Option Nat) (hl : a.length < 1000000000) : PureC Tryz.prog gl0 18 [.sl (a.map u8V) ca, .sl (b.map u8V) cb] (.int .i64 (if a = b then 0 else 1)) := by
  refine PureC.of_W 2 ok18 rfl ?_
  simp [i18, x18]
  refine BrB.of (fun h1 => ?_) (fun h1 => ?_)
  rotate_left
  · have hne : a ≠ b := fun e => by subst e; simp at h1
    simp [hne]
  have hab : a.length = b.length := by simpa using h1
  simp
  refine LoopP.of (X := Nat) (fun i => [(5, natV i), (1, .sl (b.map u8V) cb), (0, .sl (a.map u8V) ca)]) (fun _ => [])
    (fun i => i ≤ a.length ∧ a.take i = b.take i) (fun i => a.length - i) 0 ⟨by simp, by simp⟩ (by simp [natV]) (by simp) ?_
  rintro i ⟨h3, h4⟩
  simp [natV]
  refine BrB.of (fun h5 => ?_) (fun h5 => ?_)
  · have hi : i < a.length := of_decide_eq_true h5
    have hj : i < b.length := by omega
    have hw := wrapN i (by omega)
    obtain ⟨x, hx⟩ : ∃ x, a[i] = x := ⟨_, rfl⟩
    obtain ⟨y, hy⟩ : ∃ y, b[i] = y := ⟨_, rfl⟩
    simp [hi, hj, hx, hy, u8V]
    refine BrB.of (fun h6 => ?_) (fun h6 => ?_)
    rotate_left
    · have hne : a ≠ b := fun e => by subst e; rw [hx] at hy; subst hy; simp at h6
      simp [hne]
    · have he : x = y := by simpa using h6
      simp [hw]
      refine ⟨i + 1, ⟨by omega, ?_⟩, rfl, by omega⟩
      rw [List.take_succ_eq_append_getElem hi, List.take_succ_eq_append_getElem hj, h4, hx, hy, he]
  · have hi : i = a.length := by have := of_decide_eq_false h5; omega
    have : a = b := by rw [hi, List.take_length, hab, List.take_length] at h4; exact h4
    simp [this]
end Go.Proofs.YtmbgmfenlededaaGreatDoor
