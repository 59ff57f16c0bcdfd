/- probecard's law ScoapsReaches answers true for every input, and its arguments read afterwards as before. Conditions: the card's own. -/
import Derived.Test.YtcmblmkbdenakaaGreatDoorCards
import Derived.Test.YtcmblmkbdenakaaGreatDoorTie
import Derived.WalkKit
import Derived.ProofKit
import Derived.OpenShut
import Derived.Deep.DeepHandedRow
import Derived.Lib.LaidTab
import Derived.Test.YtcmblmkbdenakaaGreatDoorST
import Derived.Test.YtcmblmkbdenakaaGreatDoorH6
set_option linter.unusedSimpArgs false
set_option linter.unusedVariables false
namespace Go.Proofs.YtcmblmkbdenakaaGreatDoor.LScoapsReaches
open Go Go.ChangeShapes Go.WideShapes Go.ChangeAt Go.RowKit
set_option maxRecDepth 100000
theorem own : ownKnob Tryz.prog.godebug = none:=by kernel_rfl
theorem spec_all {H : Type} : ∀ ds : List (DataW H),ds.length = 1→Rows.scoapsReachesSpec.fn H ds = { results:=[.lit (.bool true)],args:=ds }
 | [_],_=>rfl
theorem pure_all (vs : List V) (h : hasAll (hasT Tryz.prog 20) Tryz.f4.params.toList vs) : PureC Tryz.prog gl0 4 vs (.bool true):=by
 rw [Tryz.params4] at h
 obtain ⟨a,_,rfl,ha,h⟩:=hasAll_cons h
 obtain rfl:=hasAll_nil h
 obtain ⟨x,rfl,hx⟩:=cx_h ha
 exact law4_c x hx
theorem contract (H : Type) (enc : TypeId × Value→H) (W : World) (base : Nat) (args : Array Value) (ds gs : List (DataW H)) (before : List MemPlace)
  (hval : ∀ (j : Nat) t v,Tryz.f4.params[j]? = some t→args[j]? = some v→Value.okWide Tryz.prog W .any base t v)
  (hW : DataW.Whole enc Tryz.prog Tryz.f4.params.toList Rows.scoapsReachesSpec.vars false W args.toList ds gs before) (hL : laidMetH Tryz.prog Rows.scoapsReachesRow.laid W) :
  Calls Tryz.prog 4 args W fun e W'=>∃ v,e = .returned v∧Rows.scoapsReachesSpec.post enc Tryz.prog Tryz.f4 false true false false W args v W':=
 law_contract (gl:=gl0) (by kernel_rfl) (by kernel_rfl) rfl Tryz.underlying4 rfl (by kernel_rfl) (by kernel_rfl) (by kernel_rfl) (by kernel_rfl) spec_all pure_all hval hW hL
noncomputable def laidWorld (os : Os) : World:=
 { World.holding Tryz.prog os ⟨#[],#[],[]⟩ with heap:=((((World.holding Tryz.prog os ⟨#[],#[],[]⟩).heap.modify 0 fun
   | .cells _ t frozen=>.cells (([1073741824,1073741824].map (Value.int .i64)).toArray) t frozen
   | o=>o).modify 1 fun
   | .cells _ t frozen=>.cells (([1,1].map (Value.int .i64)).toArray) t frozen
   | o=>o).modify 2 fun
   | .cells _ t frozen=>.cells (([0,0,0,0,0,0,1,1,1,1,2,16,2,16,2,16,2,16,2,16,2,16,3,3,2,2,1,16,1,1,0,0].map (Value.int .i64)).toArray) t frozen
   | o=>o) }
noncomputable def wit : Array Value:=#[.agg #[.int .u8 0,.int .u8 0,.int .u8 0,.int .u8 0,.bool false,.bool false,.int .u8 0,.int .u8 0,.int .u8 0,.int .u8 0,.slice none 0 0,.slice none 0 0]]
theorem laid_met (os : Os) : laidMet Tryz.prog Rows.scoapsReachesRow.laid ((laidWorld os).forCall (fun _ _=>0) ⟨#[],wit,[]⟩).memory:=
 laidMet_of_run' 8 (by kernel_rfl) (by kernel_rfl)
theorem reads (os : Os) {H : Type} (enc : TypeId × Value→H) : ∃ places,DataW.whole enc Tryz.prog ((laidWorld os).forCall (fun _ _=>0) ⟨#[],wit,[]⟩).memory Tryz.f4.params.toList Rows.scoapsReachesSpec.vars false wit.toList 8 = some ([.agg [.lit (.int .u8 0),.lit (.int .u8 0),.agg [.lit (.int .u8 0),.lit (.int .u8 0)],.lit (.bool false),.lit (.bool false),.agg [.lit (.int .u8 0),.lit (.int .u8 0),.lit (.int .u8 0),.lit (.int .u8 0)],.nil,.nil]],[],places):=
 ⟨[],by kernel_rfl⟩
theorem lifted (os : Os) (started : os.Started) (H : Type) (enc : TypeId × Value→H) (F : Stop.Interp) :
  ReturnsInHanded {} Tryz.checked os 4 .any ((OpenSpec.ofChange Rows.scoapsReachesSpec).preRow enc Tryz.prog Tryz.f4 Rows.scoapsReachesRow.domain false Rows.scoapsReachesRow.laid) (((OpenSpec.ofChange Rows.scoapsReachesSpec).at F).post enc Tryz.prog Tryz.f4 false true false false):=by
 obtain ⟨places,hx⟩:=reads os enc
 refine returnsInHanded_of_row (C:=Tryz.checked) (s:=(OpenSpec.ofChange Rows.scoapsReachesSpec)) own started (by kernel_rfl) Tryz.func4
  (witness_row_at (enc:=enc) (C:=Tryz.checked) false (laidWorld os) wit rfl (by kernel_rfl) (by kernel_rfl) (by kernel_rfl)
   (OpenSpec.preRow_of_cond 8 hx (by kernel_rfl) (fun k hk=>by cases hk) (by kernel_rfl) (laid_met os))) ?_
 intro W base args ds gs before hval hW _ _ _ hL _ _
 exact contract H enc W base args ds gs before hval hW hL
theorem said : Rows.ScoapsReachesSaid:=
 OpenClaim.holds_of_cond 4 Tryz.f4 rfl rfl rfl rfl rfl rfl rfl ⟨rfl,rfl,rfl,rfl,rfl⟩ rfl rfl rfl rfl rfl (by kernel_rfl) Tryz.func4 (by kernel_rfl)
  (of_decide_eq_true (by kernel_rfl)) (by unfold Func.isWrapper; first | (rw [if_pos (by decide +kernel)]; kernel_rfl) | (rw [if_neg (by decide +kernel)]; exact ⟨rfl,rfl⟩))
  (fun os started H enc _ F=>by rw [OpenClaim.pre_eq_preRow]; exact lifted os started H enc F)
theorem plain (f : FuncId) (fn : Func) (hf : Tryz.pinned.checked.prog.funcNamed "probecard/probecardlaw23.ScoapsReaches" = some f) (hfn : Tryz.pinned.checked.prog.funcs[f]? = some fn) :
  false = Tryz.pinned.checked.prog.looks []∧∀ (j : Nat) t,fn.params[j]? = some t→Tryz.pinned.checked.prog.wantsStandIn t = false:=by
 obtain rfl : f = 4:=Option.some.inj ((show Tryz.prog.funcNamed "probecard/probecardlaw23.ScoapsReaches" = some 4 by kernel_rfl).symm.trans hf) |>.symm
 obtain rfl : fn = Tryz.f4:=(Option.some.inj (Tryz.func4.symm.trans hfn)).symm
 refine ⟨by kernel_rfl,fun j t ht=>?_⟩
 rw [Tryz.params4] at ht
 have hm:=Array.mem_of_getElem? ht
 simp only [List.mem_toArray,List.mem_cons,List.not_mem_nil,or_false] at hm
 rcases hm with rfl
 ·exact (show Tryz.prog.wantsStandIn 46 = false by kernel_rfl)
end Go.Proofs.YtcmblmkbdenakaaGreatDoor.LScoapsReaches
namespace Go.Proofs.YtcmblmkbdenakaaGreatDoor
open Go
theorem scoapsReaches_card : Rows.ScoapsReachesCardSaid:=
 Claim7.holds_tied_plain_at .later [] _ _ _ _ LScoapsReaches.said (fun _ h=>by cases h) (by kernel_rfl) (fun _ h=>by cases h) scoapsReaches_row_tie rfl ⟨rfl,rfl⟩ (by kernel_rfl) rfl LScoapsReaches.plain (by kernel_rfl)
end Go.Proofs.YtcmblmkbdenakaaGreatDoor
