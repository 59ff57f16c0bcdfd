/- Circuits without memories: contracts of the checks of a pattern. Conditions: none. -/
import Derived.Test.YtmbgmfenlededaaGreatDoorS1
import Derived.Test.YtmbgmfenlededaaGreatDoorS2
namespace Go.Proofs.YtmbgmfenlededaaGreatDoor
open Go
theorem above_c (v : Nat) (h : v ≤ 3) : PureC Tryz.prog gl0 82 [u8V v] (.bool false) := by
  refine PureC.of_W 2 ok82 rfl ?_
  simp [i82, x82, u8V]
  omega
theorem above2_c (v : Nat) (h : v ≤ 3) : PureC Tryz.prog gl0 75 [u8V v] (.bool false) := by
  refine PureC.of_W 2 ok75 rfl ?_
  simp [i75, x75, u8V]
  omega
theorem idxNone_c (f : FuncId) (l : List Nat) (cap : Option Nat) (hl : l.length < 1000000000) (hf : ∀ v ∈ l, PureC Tryz.prog gl0 f [u8V v] (.bool false)) : PureC Tryz.prog gl0 71 [.sl (l.map u8V) cap, .fn f [] []] (.int .i64 (-1)) := by
  refine PureC.of_W 2 ok71 rfl ?_
  simp [i71, x71]
  refine LoopP.of (X := Nat) (fun i => [(8, natV i), (7, natV l.length), (0, .sl (l.map u8V) cap), (1, .fn f [] [])]) (fun _ => [])
    (fun i => i ≤ l.length) (fun i => l.length - i) 0 (Nat.zero_le _) (by simp [natV]) (by simp) ?_
  intro i hi
  simp [natV]
  refine BrB.of (fun hb => ?_) (fun hb => ?_)
  · have hi' : i < l.length := of_decide_eq_true hb
    have hw := wrapN i (by omega)
    obtain ⟨y, hy⟩ : ∃ y, l[i] = y := ⟨_, rfl⟩
    have hfy := hf y (by rw [← hy]; exact List.getElem_mem hi')
    simp only [u8V] at hfy
    simp [hi', hy, u8V]
    refine CallO.pure hfy rfl ?_
    simp [hw]
    exact ⟨i + 1, hi', rfl, by omega⟩
  · simp
theorem contNone_c (f : FuncId) (l : List Nat) (cap : Option Nat) (hl : l.length < 1000000000) (hf : ∀ v ∈ l, PureC Tryz.prog gl0 f [u8V v] (.bool false)) : PureC Tryz.prog gl0 73 [.sl (l.map u8V) cap, .fn f [] []] (.bool false) := by
  refine PureC.of_W 2 ok73 rfl ?_
  simp [i73, x73]
  refine CallO.pure (idxNone_c f l cap hl hf) (by simp [V.pureL, V.pure, u8s_pure]) ?_
  simp
theorem inputsN_c (c : Ci) (hl : c.n.length < 1000000) : PureC Tryz.prog gl0 51 [c.v] (.sl (natsV (ids 0 c.n 0)) (some (cnt 0 c.n))) := by
  have := PureC.of_one (OwnC.one (inputs_c c hl) fun _ _ h => fresh_one h) (ofLs_noG _ c.n 0).2
  rw [ofLs_ids] at this
  simpa [cnt] using this
theorem statesN_c (c : Ci) (hl : c.n.length < 1000000) : PureC Tryz.prog gl0 52 [c.v] (.sl (natsV (ids 14 c.n 0)) (some (cnt 14 c.n))) := by
  have := PureC.of_one (OwnC.one (states_c c hl) fun _ _ h => fresh_one h) (ofLs_noG _ c.n 0).2
  rw [ofLs_ids] at this
  simpa [cnt] using this
theorem ofMem_c (c : Ci) (hg : c.good) : OwnC Tryz.prog gl0 80 [c.v, .sl [.int .u8 15] (some 1)] (DatK 1 (.sl [] (some 0))) := by
  have h1 := OwnC.dat1 (of1_c c [15] (some 1) (by have := hg.n1; omega) (by simp)) (ofLs_noG [15] c.n 0).2 (ofLs_noG [15] c.n 0).1
  have h2 : ids 15 c.n 0 = [] := by
    rw [List.eq_nil_iff_forall_not_mem]
    intro x hx
    obtain ⟨hx', hk⟩ := ids_lt hx
    exact hg.k _ (List.getElem_mem hx') hk
  rw [ofLs_ids, h2] at h1
  simpa [natsV] using h1
theorem fits_c (c : Ci) (hg : c.good) (p : Pt) (hp : p.fit c) : PureC Tryz.prog gl0 58 [c.v, p.v] (.int .i64 0) := by
  have hn1 := hg.n1
  have hm := hg.m
  have l0 := cnt_le 0 c.n
  have l1 := cnt_le 14 c.n
  have hpi := hp.i
  have hps := hp.s
  have ci := inputsN_c c (by omega)
  have cs := statesN_c c (by omega)
  have cm := ofMem_c c hg
  have k1 := contNone_c 82 p.i none (by omega) fun v hv => above_c v (hp.iv v hv)
  have k2 := contNone_c 82 p.s none (by omega) fun v hv => above_c v (hp.sv v hv)
  obtain ⟨I, hI⟩ : ∃ I, ids 0 c.n 0 = I := ⟨_, rfl⟩
  obtain ⟨S, hS⟩ : ∃ S, ids 14 c.n 0 = S := ⟨_, rfl⟩
  have hIl : I.length = cnt 0 c.n := by rw [← hI]; rfl
  have hSl : S.length = cnt 14 c.n := by rw [← hS]; rfl
  rw [hI] at ci
  rw [hS] at cs
  refine PureC.of_W 2 ok58 rfl ?_
  simp [i58, x58, hm]
  intro gf1 gf2
  intro gf3
  refine CallO.dat 1 cm (by simp) ?_
  simp
  intro gm
  refine ⟨_, _, _, .pure ci (by simp), ?_⟩
  simp [hpi, hIl]
  refine ⟨_, _, _, .pure cs (by simp), ?_⟩
  simp [hps, hSl]
  refine ⟨rfl, ?_⟩
  refine CallO.pure k1 (by simp) ?_
  simp
  refine CallO.pure k2 (by simp) ?_
  simp
theorem scheck_c (c : Ci) (hg : c.good) (p : Pt) (hp : p.fit c) : PureC Tryz.prog gl0 74 [c.v, p.v] (.int .i64 0) := by
  have hk := check_c c hg.wf
  rw [hg.chk] at hk
  refine PureC.of_W 2 ok74 rfl ?_
  simp [i74, x74]
  intro gf1 gf2
  refine CallO.pure hk (by simp) ?_
  simp
  refine CallO.pure (fits_c c hg p hp) (by simp) ?_
  simp
theorem blank1_c (n : Nat) (hn : n ≤ 20) : PureC Tryz.prog gl0 56 [natV n] (.sl ((List.replicate n 2).map u8V) (some n)) := by
  have hc : n = 0 ∨ n = 1 ∨ n = 2 ∨ n = 3 ∨ n = 4 ∨ n = 5 ∨ n = 6 ∨ n = 7 ∨ n = 8 ∨ n = 9 ∨ n = 10 ∨ n = 11 ∨ n = 12 ∨ n = 13 ∨ n = 14 ∨ n = 15 ∨ n = 16 ∨ n = 17 ∨ n = 18 ∨ n = 19 ∨ n = 20 := by omega
  rcases hc with rfl | rfl | rfl | rfl | rfl | rfl | rfl | rfl | rfl | rfl | rfl | rfl | rfl | rfl | rfl | rfl | rfl | rfl | rfl | rfl | rfl <;> exact PureC.of_run FTt_ok (m := 20000) (d := 4) (by kernel_rfl)
/-- The pattern of unknown values. -/
def blkP (c : Ci) : Pt := ⟨List.replicate (cnt 0 c.n) 2, List.replicate (cnt 14 c.n) 2⟩
theorem blk_fit (c : Ci) : (blkP c).fit c := ⟨by simp [blkP], by simp [blkP], fun x hx => by rw [List.eq_of_mem_replicate hx]; omega, fun x hx => by rw [List.eq_of_mem_replicate hx]; omega⟩
theorem blank_c (c : Ci) (hg : c.good) : PureC Tryz.prog gl0 16 [c.v] (blkP c).v := by
  have hn1 := hg.n1
  have l0 := cnt_le 0 c.n
  have l1 := cnt_le 14 c.n
  have ci := inputsN_c c (by omega)
  have cs := statesN_c c (by omega)
  have hIl : (ids 0 c.n 0).length = cnt 0 c.n := rfl
  have hSl : (ids 14 c.n 0).length = cnt 14 c.n := rfl
  unfold blkP Pt.v
  generalize ids 0 c.n 0 = I at ci hIl
  generalize ids 14 c.n 0 = S at cs hSl
  generalize cnt 0 c.n = A at ci hIl l0 ⊢
  generalize cnt 14 c.n = B at cs hSl l1 ⊢
  have b0 := blank1_c A (by omega)
  have b1 := blank1_c B (by omega)
  generalize List.replicate A 2 = X at b0 ⊢
  generalize List.replicate B 2 = Y at b1 ⊢
  simp only [natV] at b0 b1
  refine PureC.wide (res := .agg [.sl (X.map u8V) (some A), .sl (Y.map u8V) (some B)]) ?_ (AllLe.refl _) (VLe.agg ⟨.cap _ _, .cap _ _, trivial⟩)
  refine PureC.of_W 2 ok16 rfl ?_
  simp [i16, x16]
  intro gf1 gf2 gm
  refine ⟨_, _, _, .pure ci (by simp), ?_⟩
  simp [hIl]
  refine ⟨_, _, _, .pure b0 (by simp), ?_⟩
  simp
  refine ⟨_, _, _, .pure cs (by simp), ?_⟩
  simp [hSl]
  refine ⟨_, _, _, .pure b1 (by simp), ?_⟩
  simp [mapRL_pure]
  try rfl
end Go.Proofs.YtmbgmfenlededaaGreatDoor
