/- Circuits without memories: contracts of the checks of a pattern. Conditions: none. -/
import Derived.Test.YtekbgkainigfnaaGreatDoorS1
import Derived.Test.YtekbgkainigfnaaGreatDoorS2
namespace Go.Proofs.YtekbgkainigfnaaGreatDoor
open Go
theorem above_c (v : Nat) (h : v ≤ 3) : PureC Tryz.prog gl0 83 [u8V v] (.bool false) := by
  refine PureC.of_W 2 ok83 rfl ?_
  simp [i83, x83, u8V]
  omega
theorem idxNone_c (f : FuncId) (l : List Nat) (cap : Option Nat) (hl : l.length < 1000000000) (hf : ∀ v ∈ l, PureC Tryz.prog gl0 f [u8V v] (.bool false)) : PureC Tryz.prog gl0 123 [.sl (l.map u8V) cap, .fn f [] []] (.int .i64 (-1)) := by
  refine PureC.of_W 2 ok123 rfl ?_
  simp [i123, x123]
  refine LoopP.of (X := Nat) (fun i => [(8, natV i), (7, natV l.length), (0, .sl (l.map u8V) cap), (1, .fn f [] [])]) (fun _ => [])
    (fun i => i ≤ l.length) (fun i => l.length - i) 0 (Nat.zero_le _) (by simp [natV]) (by simp) ?_
  intro i hi
  simp [natV]
  refine BrB.of (fun hb => ?_) (fun hb => ?_)
  · have hi' : i < l.length := of_decide_eq_true hb
    have hw := wrapN i (by omega)
    obtain ⟨y, hy⟩ : ∃ y, l[i] = y := ⟨_, rfl⟩
    have hfy := hf y (by rw [← hy]; exact List.getElem_mem hi')
    simp only [u8V] at hfy
    simp [hi', hy, u8V]
    refine CallO.pure hfy rfl ?_
    simp [hw]
    exact ⟨i + 1, hi', rfl, by omega⟩
  · simp
theorem contNone_c (f : FuncId) (l : List Nat) (cap : Option Nat) (hl : l.length < 1000000000) (hf : ∀ v ∈ l, PureC Tryz.prog gl0 f [u8V v] (.bool false)) : PureC Tryz.prog gl0 82 [.sl (l.map u8V) cap, .fn f [] []] (.bool false) := by
  refine PureC.of_W 2 ok82 rfl ?_
  simp [i82, x82]
  refine CallO.pure (idxNone_c f l cap hl hf) (by simp [V.pureL, V.pure, u8s_pure]) ?_
  simp
theorem inputsN_c (c : Ci) (hl : c.n.length < 1000000) : PureC Tryz.prog gl0 68 [c.v] (.sl (natsV (ids 0 c.n 0)) (some (cnt 0 c.n))) := by
  have := PureC.of_one (OwnC.one (inputs_c c hl) fun _ _ h => fresh_one h) (ofLs_noG _ c.n 0).2
  rw [ofLs_ids] at this
  simpa [cnt] using this
theorem statesN_c (c : Ci) (hl : c.n.length < 1000000) : PureC Tryz.prog gl0 69 [c.v] (.sl (natsV (ids 14 c.n 0)) (some (cnt 14 c.n))) := by
  have := PureC.of_one (OwnC.one (states_c c hl) fun _ _ h => fresh_one h) (ofLs_noG _ c.n 0).2
  rw [ofLs_ids] at this
  simpa [cnt] using this
theorem ofMem_c (c : Ci) (hg : c.good) : OwnC Tryz.prog gl0 81 [c.v, .sl [.int .u8 15] (some 1)] (DatK 1 (.sl [] (some 0))) := by
  have h1 := OwnC.dat1 (of1_c c [15] (some 1) (by have := hg.n1; omega) (by simp)) (ofLs_noG [15] c.n 0).2 (ofLs_noG [15] c.n 0).1
  have h2 : ids 15 c.n 0 = [] := by
    rw [List.eq_nil_iff_forall_not_mem]
    intro x hx
    obtain ⟨hx', hk⟩ := ids_lt hx
    exact hg.k _ (List.getElem_mem hx') hk
  rw [ofLs_ids, h2] at h1
  simpa [natsV] using h1
theorem fits_c (c : Ci) (hg : c.good) (p : Pt) (hp : p.fit c) : PureC Tryz.prog gl0 42 [c.v, p.v] (.int .i64 0) := by
  have hn1 := hg.n1
  have hm := hg.m
  have l0 := cnt_le 0 c.n
  have l1 := cnt_le 14 c.n
  have hpi := hp.i
  have hps := hp.s
  have ci := inputsN_c c (by omega)
  have cs := statesN_c c (by omega)
  have cm := ofMem_c c hg
  have k1 := contNone_c 83 p.i none (by omega) fun v hv => above_c v (hp.iv v hv)
  have k2 := contNone_c 83 p.s none (by omega) fun v hv => above_c v (hp.sv v hv)
  obtain ⟨I, hI⟩ : ∃ I, ids 0 c.n 0 = I := ⟨_, rfl⟩
  obtain ⟨S, hS⟩ : ∃ S, ids 14 c.n 0 = S := ⟨_, rfl⟩
  have hIl : I.length = cnt 0 c.n := by rw [← hI]; rfl
  have hSl : S.length = cnt 14 c.n := by rw [← hS]; rfl
  rw [hI] at ci
  rw [hS] at cs
  refine PureC.of_W 2 ok42 rfl ?_
  simp [i42, x42, hm]
  intro gf1 gf2
  intro gf3
  refine CallO.dat 1 cm (by simp) ?_
  simp
  intro gm
  refine ⟨_, _, _, .pure ci (by simp), ?_⟩
  simp [hpi, hIl]
  refine ⟨_, _, _, .pure cs (by simp), ?_⟩
  simp [hps, hSl]
  refine ⟨rfl, ?_⟩
  refine CallO.pure k1 (by simp) ?_
  simp
  refine CallO.pure k2 (by simp) ?_
  simp
theorem scheck_c (c : Ci) (hg : c.good) (p : Pt) (hp : p.fit c) : PureC Tryz.prog gl0 95 [c.v, p.v] (.int .i64 0) := by
  have hk := check_c c hg.wf
  rw [hg.chk] at hk
  refine PureC.of_W 2 ok95 rfl ?_
  simp [i95, x95]
  intro gf1 gf2
  refine CallO.pure hk (by simp) ?_
  simp
  refine CallO.pure (fits_c c hg p hp) (by simp) ?_
  simp
end Go.Proofs.YtekbgkainigfnaaGreatDoor
