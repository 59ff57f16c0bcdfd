/- probecard's law ScoapsKnown answers true for every input, and its arguments read afterwards as before. Conditions: the card's own. -/
import Derived.Test.YtcmblmkbdenakaaGreatDoorCards
import Derived.Test.YtcmblmkbdenakaaGreatDoorTie
import Derived.WalkKit
import Derived.ProofKit
import Derived.OpenShut
import Derived.Deep.DeepHandedRow
import Derived.Lib.LaidTab
import Derived.Test.YtcmblmkbdenakaaGreatDoorH1
set_option linter.unusedSimpArgs false
set_option linter.unusedVariables false
namespace Go.Proofs.YtcmblmkbdenakaaGreatDoor.LScoapsKnown
open Go Go.ChangeShapes Go.WideShapes Go.ChangeAt Go.RowKit
set_option maxRecDepth 100000
theorem own : ownKnob Tryz.prog.godebug = none:=by kernel_rfl
theorem spec_all {H : Type} : ∀ ds : List (DataW H),ds.length = 0→Rows.scoapsKnownSpec.fn H ds = { results:=[.lit (.bool true)],args:=ds }
 | [],_=>rfl
theorem pure_all (vs : List V) (h : hasAll (hasT Tryz.prog 20) Tryz.f3.params.toList vs) : PureC Tryz.prog gl0 3 vs (.bool true):=by
 rw [Tryz.params3] at h
 obtain rfl:=hasAll_nil h
 exact knownL_c
theorem contract (H : Type) (enc : TypeId × Value→H) (W : World) (base : Nat) (args : Array Value) (ds gs : List (DataW H)) (before : List MemPlace)
  (hval : ∀ (j : Nat) t v,Tryz.f3.params[j]? = some t→args[j]? = some v→Value.okWide Tryz.prog W .any base t v)
  (hW : DataW.Whole enc Tryz.prog Tryz.f3.params.toList Rows.scoapsKnownSpec.vars false W args.toList ds gs before) (hL : laidMetH Tryz.prog Rows.scoapsKnownRow.laid W) :
  Calls Tryz.prog 3 args W fun e W'=>∃ v,e = .returned v∧Rows.scoapsKnownSpec.post enc Tryz.prog Tryz.f3 false true false false W args v W':=
 law_contract (gl:=gl0) (by kernel_rfl) (by kernel_rfl) rfl Tryz.underlying4 rfl (by kernel_rfl) (by kernel_rfl) (by kernel_rfl) (by kernel_rfl) spec_all pure_all hval hW hL
noncomputable def laidWorld (os : Os) : World:=
 { World.holding Tryz.prog os ⟨#[],#[],[]⟩ with heap:=((((World.holding Tryz.prog os ⟨#[],#[],[]⟩).heap.modify 0 fun
   | .cells _ t frozen=>.cells (([1073741824,1073741824].map (Value.int .i64)).toArray) t frozen
   | o=>o).modify 1 fun
   | .cells _ t frozen=>.cells (([1,1].map (Value.int .i64)).toArray) t frozen
   | o=>o).modify 2 fun
   | .cells _ t frozen=>.cells (([0,0,0,0,0,0,1,1,1,1,2,16,2,16,2,16,2,16,2,16,2,16,3,3,2,2,1,16,1,1,0,0].map (Value.int .i64)).toArray) t frozen
   | o=>o) }
noncomputable def wit : Array Value:=#[]
theorem laid_met (os : Os) : laidMet Tryz.prog Rows.scoapsKnownRow.laid ((laidWorld os).forCall (fun _ _=>0) ⟨#[],wit,[]⟩).memory:=
 laidMet_of_run' 8 (by kernel_rfl) (by kernel_rfl)
theorem reads (os : Os) {H : Type} (enc : TypeId × Value→H) : ∃ places,DataW.whole enc Tryz.prog ((laidWorld os).forCall (fun _ _=>0) ⟨#[],wit,[]⟩).memory Tryz.f3.params.toList Rows.scoapsKnownSpec.vars false wit.toList 8 = some ([],[],places):=
 ⟨[],by kernel_rfl⟩
theorem lifted (os : Os) (started : os.Started) (H : Type) (enc : TypeId × Value→H) (F : Stop.Interp) :
  ReturnsInHanded {} Tryz.checked os 3 .any ((OpenSpec.ofChange Rows.scoapsKnownSpec).preRow enc Tryz.prog Tryz.f3 Rows.scoapsKnownRow.domain false Rows.scoapsKnownRow.laid) (((OpenSpec.ofChange Rows.scoapsKnownSpec).at F).post enc Tryz.prog Tryz.f3 false true false false):=by
 obtain ⟨places,hx⟩:=reads os enc
 refine returnsInHanded_of_row (C:=Tryz.checked) (s:=(OpenSpec.ofChange Rows.scoapsKnownSpec)) own started (by kernel_rfl) Tryz.func3
  (witness_row_at (enc:=enc) (C:=Tryz.checked) false (laidWorld os) wit rfl (by kernel_rfl) (by kernel_rfl) (by kernel_rfl)
   (OpenSpec.preRow_of_cond 8 hx (by kernel_rfl) (fun k hk=>by cases hk) (by kernel_rfl) (laid_met os))) ?_
 intro W base args ds gs before hval hW _ _ _ hL _ _
 exact contract H enc W base args ds gs before hval hW hL
theorem said : Rows.ScoapsKnownSaid:=
 OpenClaim.holds_of_cond 3 Tryz.f3 rfl rfl rfl rfl rfl rfl rfl ⟨rfl,rfl,rfl,rfl,rfl⟩ rfl rfl rfl rfl rfl (by kernel_rfl) Tryz.func3 (by kernel_rfl)
  (of_decide_eq_true (by kernel_rfl)) (by unfold Func.isWrapper; first | (rw [if_pos (by decide +kernel)]; kernel_rfl) | (rw [if_neg (by decide +kernel)]; exact ⟨rfl,rfl⟩))
  (fun os started H enc _ F=>by rw [OpenClaim.pre_eq_preRow]; exact lifted os started H enc F)
theorem plain (f : FuncId) (fn : Func) (hf : Tryz.pinned.checked.prog.funcNamed "probecard/probecardlaw23.ScoapsKnown" = some f) (hfn : Tryz.pinned.checked.prog.funcs[f]? = some fn) :
  false = Tryz.pinned.checked.prog.looks []∧∀ (j : Nat) t,fn.params[j]? = some t→Tryz.pinned.checked.prog.wantsStandIn t = false:=by
 obtain rfl : f = 3:=Option.some.inj ((show Tryz.prog.funcNamed "probecard/probecardlaw23.ScoapsKnown" = some 3 by kernel_rfl).symm.trans hf) |>.symm
 obtain rfl : fn = Tryz.f3:=(Option.some.inj (Tryz.func3.symm.trans hfn)).symm
 refine ⟨by kernel_rfl,fun j t ht=>?_⟩
 rw [Tryz.params3] at ht
 simp at ht
end Go.Proofs.YtcmblmkbdenakaaGreatDoor.LScoapsKnown
namespace Go.Proofs.YtcmblmkbdenakaaGreatDoor
open Go
theorem scoapsKnown_card : Rows.ScoapsKnownCardSaid:=
 Claim7.holds_tied_plain_at .later [] _ _ _ _ LScoapsKnown.said (fun _ h=>by cases h) (by kernel_rfl) (fun _ h=>by cases h) scoapsKnown_row_tie rfl ⟨rfl,rfl⟩ (by kernel_rfl) rfl LScoapsKnown.plain (by kernel_rfl)
end Go.Proofs.YtcmblmkbdenakaaGreatDoor
