/- probecard's law ScoapsControls answers true for every input, and its arguments read afterwards as before. Conditions: the card's own. -/
import Derived.Test.YtcmblmkbdenakaaDoorCards
import Derived.Test.YtcmblmkbdenakaaDoorTie
import Derived.WalkKit
import Derived.ProofKit
import Derived.OpenShut
import Derived.Deep.DeepHandedRow
import Derived.Lib.LaidTab
import Derived.Test.YtcmblmkbdenakaaDoorST
import Derived.Test.YtcmblmkbdenakaaDoorD14
set_option linter.unusedSimpArgs false
set_option linter.unusedVariables false
namespace Go.Proofs.YtcmblmkbdenakaaDoor.LScoapsControls
open Go Go.ChangeShapes Go.WideShapes Go.ChangeAt Go.RowKit
set_option maxRecDepth 100000
theorem own : ownKnob Tryd.prog.godebug = none:=by kernel_rfl
theorem spec_all {H : Type} : ∀ ds : List (DataW H),ds.length = 1→Rows.scoapsControlsSpec.fn H ds = { results:=[.lit (.bool true)],args:=ds }
 | [_],_=>rfl
theorem pure_all (vs : List V) (h : hasAll (hasT Tryd.prog 20) Tryd.f5.params.toList vs) : PureC Tryd.prog gl0 5 vs (.bool true):=by
 rw [Tryd.params5] at h
 obtain ⟨a,_,rfl,ha,h⟩:=hasAll_cons h
 obtain rfl:=hasAll_nil h
 obtain ⟨x,rfl,hx⟩:=cx_h ha
 exact law5_c x hx
theorem contract (H : Type) (enc : TypeId × Value→H) (W : World) (base : Nat) (args : Array Value) (ds gs : List (DataW H)) (before : List MemPlace)
  (hval : ∀ (j : Nat) t v,Tryd.f5.params[j]? = some t→args[j]? = some v→Value.okWide Tryd.prog W .any base t v)
  (hW : DataW.Whole enc Tryd.prog Tryd.f5.params.toList Rows.scoapsControlsSpec.vars false W args.toList ds gs before) (hL : laidMetH Tryd.prog Rows.scoapsControlsRow.laid W) :
  Calls Tryd.prog 5 args W fun e W'=>∃ v,e = .returned v∧Rows.scoapsControlsSpec.post enc Tryd.prog Tryd.f5 false true false false W args v W':=
 law_contract (gl:=gl0) (by kernel_rfl) (by kernel_rfl) rfl Tryd.underlying4 rfl (by kernel_rfl) (by kernel_rfl) (by kernel_rfl) (by kernel_rfl) spec_all pure_all hval hW hL
noncomputable def laidWorld (os : Os) : World:=
 { World.holding Tryd.prog os ⟨#[],#[],[]⟩ with heap:=((((World.holding Tryd.prog os ⟨#[],#[],[]⟩).heap.modify 0 fun
   | .cells _ t frozen=>.cells (([1073741824,1073741824].map (Value.int .i64)).toArray) t frozen
   | o=>o).modify 1 fun
   | .cells _ t frozen=>.cells (([1,1].map (Value.int .i64)).toArray) t frozen
   | o=>o).modify 2 fun
   | .cells _ t frozen=>.cells (([0,0,0,0,0,0,1,1,1,1,2,16,2,16,2,16,2,16,2,16,2,16,3,3,2,2,1,16,1,1,0,0].map (Value.int .i64)).toArray) t frozen
   | o=>o) }
noncomputable def wit : Array Value:=#[.agg #[.int .u8 0,.int .u8 0,.int .u8 0,.int .u8 0,.bool false,.bool false,.int .u8 0,.int .u8 0,.int .u8 0,.int .u8 0,.slice none 0 0,.slice none 0 0]]
theorem laid_met (os : Os) : laidMet Tryd.prog Rows.scoapsControlsRow.laid ((laidWorld os).forCall (fun _ _=>0) ⟨#[],wit,[]⟩).memory:=
 laidMet_of_run' 8 (by kernel_rfl) (by kernel_rfl)
theorem reads (os : Os) {H : Type} (enc : TypeId × Value→H) : ∃ places,DataW.whole enc Tryd.prog ((laidWorld os).forCall (fun _ _=>0) ⟨#[],wit,[]⟩).memory Tryd.f5.params.toList Rows.scoapsControlsSpec.vars false wit.toList 8 = some ([.agg [.lit (.int .u8 0),.lit (.int .u8 0),.agg [.lit (.int .u8 0),.lit (.int .u8 0)],.lit (.bool false),.lit (.bool false),.agg [.lit (.int .u8 0),.lit (.int .u8 0),.lit (.int .u8 0),.lit (.int .u8 0)],.nil,.nil]],[],places):=
 ⟨[],by kernel_rfl⟩
theorem lifted (os : Os) (started : os.Started) (H : Type) (enc : TypeId × Value→H) (F : Stop.Interp) :
  ReturnsInHanded {} Tryd.checked os 5 .any ((OpenSpec.ofChange Rows.scoapsControlsSpec).preRow enc Tryd.prog Tryd.f5 Rows.scoapsControlsRow.domain false Rows.scoapsControlsRow.laid) (((OpenSpec.ofChange Rows.scoapsControlsSpec).at F).post enc Tryd.prog Tryd.f5 false true false false):=by
 obtain ⟨places,hx⟩:=reads os enc
 refine returnsInHanded_of_row (C:=Tryd.checked) (s:=(OpenSpec.ofChange Rows.scoapsControlsSpec)) own started (by kernel_rfl) Tryd.func5
  (witness_row_at (enc:=enc) (C:=Tryd.checked) false (laidWorld os) wit rfl (by kernel_rfl) (by kernel_rfl) (by kernel_rfl)
   (OpenSpec.preRow_of_cond 8 hx (by kernel_rfl) (fun k hk=>by cases hk) (by kernel_rfl) (laid_met os))) ?_
 intro W base args ds gs before hval hW _ _ _ hL _ _
 exact contract H enc W base args ds gs before hval hW hL
theorem said : Rows.ScoapsControlsSaid:=
 OpenClaim.holds_of_cond 5 Tryd.f5 rfl rfl rfl rfl rfl rfl rfl ⟨rfl,rfl,rfl,rfl,rfl⟩ rfl rfl rfl rfl rfl (by kernel_rfl) Tryd.func5 (by kernel_rfl)
  (of_decide_eq_true (by kernel_rfl)) (by unfold Func.isWrapper; first | (rw [if_pos (by decide +kernel)]; kernel_rfl) | (rw [if_neg (by decide +kernel)]; exact ⟨rfl,rfl⟩))
  (fun os started H enc _ F=>by rw [OpenClaim.pre_eq_preRow]; exact lifted os started H enc F)
theorem plain (f : FuncId) (fn : Func) (hf : Tryd.pinned.checked.prog.funcNamed "probecard/probecardlaw23.ScoapsControls" = some f) (hfn : Tryd.pinned.checked.prog.funcs[f]? = some fn) :
  false = Tryd.pinned.checked.prog.looks []∧∀ (j : Nat) t,fn.params[j]? = some t→Tryd.pinned.checked.prog.wantsStandIn t = false:=by
 obtain rfl : f = 5:=Option.some.inj ((show Tryd.prog.funcNamed "probecard/probecardlaw23.ScoapsControls" = some 5 by kernel_rfl).symm.trans hf) |>.symm
 obtain rfl : fn = Tryd.f5:=(Option.some.inj (Tryd.func5.symm.trans hfn)).symm
 refine ⟨by kernel_rfl,fun j t ht=>?_⟩
 rw [Tryd.params5] at ht
 have hm:=Array.mem_of_getElem? ht
 simp only [List.mem_toArray,List.mem_cons,List.not_mem_nil,or_false] at hm
 rcases hm with rfl
 ·exact (show Tryd.prog.wantsStandIn 39 = false by kernel_rfl)
end Go.Proofs.YtcmblmkbdenakaaDoor.LScoapsControls
namespace Go.Proofs.YtcmblmkbdenakaaDoor
open Go
theorem scoapsControls_card : Rows.ScoapsControlsCardSaid:=
 Claim7.holds_tied_plain_at .later [] _ _ _ _ LScoapsControls.said (fun _ h=>by cases h) (by kernel_rfl) (fun _ h=>by cases h) scoapsControls_row_tie rfl ⟨rfl,rfl⟩ (by kernel_rfl) rfl LScoapsControls.plain (by kernel_rfl)
end Go.Proofs.YtcmblmkbdenakaaDoor
