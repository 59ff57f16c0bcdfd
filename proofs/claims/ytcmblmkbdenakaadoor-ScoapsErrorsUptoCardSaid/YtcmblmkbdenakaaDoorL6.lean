/- probecard's law ScoapsErrors answers true for every input of bulk at most 1048576, and its arguments read afterwards as before. Conditions: the card's own. -/
import Derived.Test.YtcmblmkbdenakaaDoorCards
import Derived.Test.YtcmblmkbdenakaaDoorTie
import Derived.WalkKit
import Derived.ProofKit
import Derived.OpenShut
import Derived.Deep.DeepHandedRow
import Derived.Lib.LaidTab
import Derived.Test.YtcmblmkbdenakaaDoorST
import Derived.Test.YtcmblmkbdenakaaDoorNTS
import Derived.Test.YtcmblmkbdenakaaDoorF2
set_option linter.unusedSimpArgs false
set_option linter.unusedVariables false
namespace Go.Proofs.YtcmblmkbdenakaaDoor.LScoapsErrors
open Go Go.ChangeShapes Go.WideShapes Go.ChangeAt Go.RowKit
set_option maxRecDepth 100000
theorem own : ownKnob Tryd.prog.godebug = none:=by kernel_rfl
theorem spec_all {H : Type} : ∀ ds : List (DataW H),ds.length = 3→Rows.scoapsErrorsSpec.fn H ds = { results:=[.lit (.bool true)],args:=ds }
 | [_,_,_],_=>rfl
theorem pure_all (vs : List V) (h : hasAll (hasT Tryd.prog 20) Tryd.f6.params.toList vs) (hs : V.sizeL vs ≤ 1048576) : PureC Tryd.prog gl0 6 vs (.bool true):=by
 rw [Tryd.params6] at h
 obtain ⟨a,_,rfl,ha,h⟩:=hasAll_cons h
 obtain ⟨b,_,rfl,hb,h⟩:=hasAll_cons h
 obtain ⟨d,_,rfl,hd,h⟩:=hasAll_cons h
 obtain rfl:=hasAll_nil h
 obtain ⟨c,rfl,hc⟩:=ci_h ha
 obtain ⟨n,p,rfl⟩:=ln_h hb
 obtain ⟨qs,rfl,hl,hq⟩:=hasT_array Tryd.underlying62 hd
 obtain ⟨l,rfl,hw⟩:=u8s_h hq
 have hsm : c.small:=ci_small (by simp only [V.sizeL] at hs; omega)
 match l,hl,hw with
 | [z0,z1,z2],_,hw=>exact law6_c c hc hsm n p z0 z1 z2 (hw z0 (by simp)) (hw z1 (by simp)) (hw z2 (by simp))
theorem contract (H : Type) (enc : TypeId × Value→H) (W : World) (base : Nat) (args : Array Value) (ds gs : List (DataW H)) (before : List MemPlace)
  (hval : ∀ (j : Nat) t v,Tryd.f6.params[j]? = some t→args[j]? = some v→Value.okWide Tryd.prog W .any base t v)
  (hW : DataW.Whole enc Tryd.prog Tryd.f6.params.toList Rows.scoapsErrorsSpec.vars false W args.toList ds gs before) (hL : laidMetH Tryd.prog Rows.scoapsErrorsUptoRow.laid W) (hk : Rows.uptoSmall H (ds ++ gs) = true) :
  Calls Tryd.prog 6 args W fun e W'=>∃ v,e = .returned v∧Rows.scoapsErrorsSpec.post enc Tryd.prog Tryd.f6 false true false false W args v W':=
 law_contractU (gl:=gl0) (by kernel_rfl) (by kernel_rfl) rfl Tryd.underlying4 rfl (by kernel_rfl) (by kernel_rfl) (by kernel_rfl) (by kernel_rfl) spec_all (fun h=>pure_all _ h (size_small hk)) hval hW hL
noncomputable def laidWorld (os : Os) : World:=
 { World.holding Tryd.prog os ⟨#[],#[],[]⟩ with heap:=((((World.holding Tryd.prog os ⟨#[],#[],[]⟩).heap.modify 0 fun
   | .cells _ t frozen=>.cells (([1073741824,1073741824].map (Value.int .i64)).toArray) t frozen
   | o=>o).modify 1 fun
   | .cells _ t frozen=>.cells (([1,1].map (Value.int .i64)).toArray) t frozen
   | o=>o).modify 2 fun
   | .cells _ t frozen=>.cells (([0,0,0,0,0,0,1,1,1,1,2,16,2,16,2,16,2,16,2,16,2,16,3,3,2,2,1,16,1,1,0,0].map (Value.int .i64)).toArray) t frozen
   | o=>o) }
noncomputable def wit : Array Value:=#[.agg #[.slice none 0 0,.slice none 0 0,.slice none 0 0,.slice none 0 0],.agg #[.int .i64 0,.int .i64 0],.agg #[.int .u8 0,.int .u8 0,.int .u8 0]]
theorem laid_met (os : Os) : laidMet Tryd.prog Rows.scoapsErrorsUptoRow.laid ((laidWorld os).forCall (fun _ _=>0) ⟨#[],wit,[]⟩).memory:=
 laidMet_of_run' 8 (by kernel_rfl) (by kernel_rfl)
theorem reads (os : Os) {H : Type} (enc : TypeId × Value→H) : ∃ places,DataW.whole enc Tryd.prog ((laidWorld os).forCall (fun _ _=>0) ⟨#[],wit,[]⟩).memory Tryd.f6.params.toList Rows.scoapsErrorsSpec.vars false wit.toList 8 = some ([.agg [.nil,.nil,.nil,.nil],.agg [.lit (.int .i64 0),.lit (.int .i64 0)],.agg [.lit (.int .u8 0),.lit (.int .u8 0),.lit (.int .u8 0)]],[],places):=
 ⟨[],by kernel_rfl⟩
theorem lifted (os : Os) (started : os.Started) (H : Type) (enc : TypeId × Value→H) (F : Stop.Interp) :
  ReturnsInHanded {} Tryd.checked os 6 .any ((Rows.OpenSpec.upto Rows.scoapsErrorsSpec).preRow enc Tryd.prog Tryd.f6 Rows.scoapsErrorsUptoRow.domain false Rows.scoapsErrorsUptoRow.laid) (((Rows.OpenSpec.upto Rows.scoapsErrorsSpec).at F).post enc Tryd.prog Tryd.f6 false true false false):=by
 obtain ⟨places,hx⟩:=reads os enc
 refine returnsInHanded_of_row (C:=Tryd.checked) (s:=(Rows.OpenSpec.upto Rows.scoapsErrorsSpec)) own started (by kernel_rfl) Tryd.func6
  (witness_row_at (enc:=enc) (C:=Tryd.checked) false (laidWorld os) wit rfl (by kernel_rfl) (by kernel_rfl) (by kernel_rfl)
   (OpenSpec.preRow_of_cond 8 hx (by kernel_rfl) (fun k hk=>by cases hk; kernel_rfl) (by kernel_rfl) (laid_met os))) ?_
 intro W base args ds gs before hval hW _ hcond _ hL _ _
 exact contract H enc W base args ds gs before hval hW hL (hcond _ rfl)
theorem said : Rows.ScoapsErrorsUptoSaid:=
 OpenClaim.holds_of_cond 6 Tryd.f6 rfl rfl rfl rfl rfl rfl rfl ⟨rfl,rfl,rfl,rfl,rfl⟩ rfl rfl rfl rfl rfl (by kernel_rfl) Tryd.func6 (by kernel_rfl)
  (of_decide_eq_true (by kernel_rfl)) (by unfold Func.isWrapper; first | (rw [if_pos (by decide +kernel)]; kernel_rfl) | (rw [if_neg (by decide +kernel)]; exact ⟨rfl,rfl⟩))
  (fun os started H enc _ F=>by rw [OpenClaim.pre_eq_preRow]; exact lifted os started H enc F)
theorem plain (f : FuncId) (fn : Func) (hf : Tryd.pinned.checked.prog.funcNamed "probecard/probecardlaw23.ScoapsErrors" = some f) (hfn : Tryd.pinned.checked.prog.funcs[f]? = some fn) :
  false = Tryd.pinned.checked.prog.looks []∧∀ (j : Nat) t,fn.params[j]? = some t→Tryd.pinned.checked.prog.wantsStandIn t = false:=by
 obtain rfl : f = 6:=Option.some.inj ((show Tryd.prog.funcNamed "probecard/probecardlaw23.ScoapsErrors" = some 6 by kernel_rfl).symm.trans hf) |>.symm
 obtain rfl : fn = Tryd.f6:=(Option.some.inj (Tryd.func6.symm.trans hfn)).symm
 refine ⟨by kernel_rfl,fun j t ht=>?_⟩
 rw [Tryd.params6] at ht
 have hm:=Array.mem_of_getElem? ht
 simp only [List.mem_toArray,List.mem_cons,List.not_mem_nil,or_false] at hm
 rcases hm with rfl | rfl | rfl
 ·exact (show Tryd.prog.wantsStandIn 45 = false by kernel_rfl)
 ·exact (show Tryd.prog.wantsStandIn 58 = false by kernel_rfl)
 ·exact (show Tryd.prog.wantsStandIn 62 = false by kernel_rfl)
end Go.Proofs.YtcmblmkbdenakaaDoor.LScoapsErrors
namespace Go.Proofs.YtcmblmkbdenakaaDoor
open Go
theorem scoapsErrors_card : Rows.ScoapsErrorsUptoCardSaid:=
 Claim7.holds_tied_plain_at .later [] _ _ _ _ LScoapsErrors.said (fun _ h=>by cases h) (by kernel_rfl) (fun _ h=>by cases h) scoapsErrorsUpto_row_tie rfl ⟨rfl,rfl⟩ (by kernel_rfl) rfl LScoapsErrors.plain (by kernel_rfl)
end Go.Proofs.YtcmblmkbdenakaaDoor
