/- Observability: the contract of Line. Conditions: none. -/
import Derived.Test.YtcmblmkbdenakaaGreatDoorD5
set_option linter.unusedSimpArgs false
set_option linter.unusedVariables false
namespace Go.Proofs.YtcmblmkbdenakaaGreatDoor
open Go
noncomputable def obs (c : Ci) : Nat→Nat:=obsN c (ctl c) (ordL c)
end Go.Proofs.YtcmblmkbdenakaaGreatDoor
namespace Go.Proofs.YtcmblmkbdenakaaGreatDoor
open Go
theorem ControlP_c (c : Ci) (hwf : c.wf) (h0 : chkE c = 0) (h20 : c.n.length ≤ 20) : PureC Tryz.prog gl0 13 [c.v] (.tup [.sl (netsC c.n.length (ctl c)) (some c.n.length),.int .i64 0]):=by
 refine PureC.of_own 2 (Control_c c hwf) ?_
 rintro v h (⟨h1,-⟩ | ⟨-,g,f,rfl,rfl,hle,hf⟩)
 ·exact absurd h0 h1
 rw [frz_tup1,frz_rowP (sz:=2) 1 (by simp [lk]; rfl) (netsC_pure _ _) (netsC_len _ _).symm,hf h20]
theorem ObserveP_c (c : Ci) (hwf : c.wf) (h0 : chkE c = 0) (h20 : c.n.length ≤ 20) : PureC Tryz.prog gl0 14 [c.v] (.tup [.sl (natsT c.n.length (obs c)) (some c.n.length),.int .i64 0]):=by
 refine PureC.of_own 2 (Observe_c c hwf) ?_
 rintro v h (⟨h1,-⟩ | ⟨-,g,f,rfl,rfl,hle,hf⟩)
 ·exact absurd h0 h1
 rw [frz_tup1,frz_rowP (sz:=1) 1 (by simp [lk]; rfl) (natsT_pure _ _) (natsT_len _ _).symm,hf h20]; rfl
theorem ord_ex {c : Ci} (hv : c.val) (ha : acyc c) : Ord c (ordL c):=by
 have h : Ord c (lvL c.n.length (lvOf c) c.n.length):=
  ⟨⟨Nat.le_antisymm (lvL_len _) (lvL_all fun x hx=>ha.lv.lt hv.g x hx),fun x hx=>((lvL_mem _ x).1 hx).1⟩,lvL_pw _⟩
 rw [h.eq]; exact h
end Go.Proofs.YtcmblmkbdenakaaGreatDoor
