/- probecard's law ConesErrors answers true for every input of bulk at most 1048576, and its arguments read afterwards as before. Conditions: the card's own. -/
import Derived.Test.YtcmapbecfpcnfaaDoorCards
import Derived.Test.YtcmapbecfpcnfaaDoorTie
import Derived.WalkKit
import Derived.ProofKit
import Derived.OpenShut
import Derived.Deep.DeepHandedRow
import Derived.Lib.LaidTab
import Derived.Test.YtcmapbecfpcnfaaDoorNT2
import Derived.Test.YtcmapbecfpcnfaaDoorE2
namespace Go.Proofs.YtcmapbecfpcnfaaDoor.LConesErrors
open Go Go.ChangeShapes Go.WideShapes Go.ChangeAt Go.RowKit
set_option maxRecDepth 100000
theorem own : ownKnob Tryd.prog.godebug = none:=by kernel_rfl
theorem spec_all {H : Type} : ∀ ds : List (DataW H),ds.length = 2→Rows.conesErrorsSpec.fn H ds = { results:=[.lit (.bool true)],args:=ds }
  | [_,_],_=>rfl
theorem pure_all (vs : List V) (h : hasAll (hasT Tryd.prog 20) Tryd.f4.params.toList vs) (hs : V.sizeL vs ≤ 1048576) : PureC Tryd.prog gl0 4 vs (.bool true):=by
  rw [Tryd.params4] at h
  obtain ⟨a,_,rfl,ha,h⟩:=hasAll_cons h
  obtain ⟨b,_,rfl,hb,h⟩:=hasAll_cons h
  obtain rfl:=hasAll_nil h
  obtain ⟨c,rfl,hc⟩:=ci_h ha
  obtain ⟨qs,rfl,hl,hq⟩:=hasT_array Tryd.underlying47 hb
  obtain ⟨l,rfl,hw⟩:=list_of (f:=V.int .i64) (Q:=fun i=>(Lit.int .i64 i).wf = true) fun x hx'=>hasT_int Tryd.underlying3 (hq x hx')
  have hsm : c.small:=ci_small (by simp only [V.sizeL] at hs; omega)
  match l,hl,hw with
  | [p,q],_,hw=>exact lawErr_c c hc hsm p q
theorem contract (H : Type) (enc : TypeId × Value→H) (W : World) (base : Nat) (args : Array Value) (ds gs : List (DataW H)) (before : List MemPlace)
    (hval : ∀ (j : Nat) t v,Tryd.f4.params[j]? = some t→args[j]? = some v→Value.okWide Tryd.prog W .any base t v)
    (hW : DataW.Whole enc Tryd.prog Tryd.f4.params.toList Rows.conesErrorsSpec.vars false W args.toList ds gs before) (hL : laidMetH Tryd.prog Rows.conesErrorsUptoRow.laid W) (hk : Rows.uptoSmall H (ds ++ gs) = true) :
    Calls Tryd.prog 4 args W fun e W'=>∃ v,e = .returned v∧Rows.conesErrorsSpec.post enc Tryd.prog Tryd.f4 false true false false W args v W':=
  law_contractU (gl:=gl0) (by kernel_rfl) (by kernel_rfl) rfl Tryd.underlying4 rfl (by kernel_rfl) (by kernel_rfl) (by kernel_rfl) (by kernel_rfl) spec_all (fun h=>pure_all _ h (size_small hk)) hval hW hL
noncomputable def laidWorld (os : Os) : World:=
  { World.holding Tryd.prog os ⟨#[],#[],[]⟩ with heap:=((World.holding Tryd.prog os ⟨#[],#[],[]⟩).heap.modify 0 fun
      | .cells _ t frozen=>.cells (([0,0,0,0,0,0,1,1,1,1,2,16,2,16,2,16,2,16,2,16,2,16,3,3,2,2,1,16,1,1,0,0].map (Value.int .i64)).toArray) t frozen
      | o=>o) }
noncomputable def wit : Array Value:=#[.agg #[.slice none 0 0,.slice none 0 0,.slice none 0 0,.slice none 0 0],.agg #[.int .i64 0,.int .i64 0]]
theorem laid_met (os : Os) : laidMet Tryd.prog Rows.conesErrorsUptoRow.laid ((laidWorld os).forCall (fun _ _=>0) ⟨#[],wit,[]⟩).memory:=
  laidMet_of_run' 8 (by kernel_rfl) (by kernel_rfl)
theorem reads (os : Os) {H : Type} (enc : TypeId × Value→H) : ∃ places,DataW.whole enc Tryd.prog ((laidWorld os).forCall (fun _ _=>0) ⟨#[],wit,[]⟩).memory Tryd.f4.params.toList Rows.conesErrorsSpec.vars false wit.toList 8 = some ([.agg [.nil,.nil,.nil,.nil],.agg [.lit (.int .i64 0),.lit (.int .i64 0)]],[],places):=
  ⟨[],by kernel_rfl⟩
theorem lifted (os : Os) (started : os.Started) (H : Type) (enc : TypeId × Value→H) (F : Stop.Interp) :
    ReturnsInHanded {} Tryd.checked os 4 .any ((Rows.OpenSpec.upto Rows.conesErrorsSpec).preRow enc Tryd.prog Tryd.f4 Rows.conesErrorsUptoRow.domain false Rows.conesErrorsUptoRow.laid) (((Rows.OpenSpec.upto Rows.conesErrorsSpec).at F).post enc Tryd.prog Tryd.f4 false true false false):=by
  obtain ⟨places,hx⟩:=reads os enc
  refine returnsInHanded_of_row (C:=Tryd.checked) (s:=(Rows.OpenSpec.upto Rows.conesErrorsSpec)) own started (by kernel_rfl) Tryd.func4
    (witness_row_at (enc:=enc) (C:=Tryd.checked) false (laidWorld os) wit rfl (by kernel_rfl) (by kernel_rfl) (by kernel_rfl)
      (OpenSpec.preRow_of_cond 8 hx (by kernel_rfl) (fun k hk=>by cases hk; kernel_rfl) (by kernel_rfl) (laid_met os))) ?_
  intro W base args ds gs before hval hW _ hcond _ hL _ _
  exact contract H enc W base args ds gs before hval hW hL (hcond _ rfl)
theorem said : Rows.ConesErrorsUptoSaid:=
  OpenClaim.holds_of_cond 4 Tryd.f4 rfl rfl rfl rfl rfl rfl rfl ⟨rfl,rfl,rfl,rfl,rfl⟩ rfl rfl rfl rfl rfl (by kernel_rfl) Tryd.func4 (by kernel_rfl)
    (of_decide_eq_true (by kernel_rfl)) (by unfold Func.isWrapper; first | (rw [if_pos (by decide +kernel)]; kernel_rfl) | (rw [if_neg (by decide +kernel)]; exact ⟨rfl,rfl⟩))
    (fun os started H enc _ F=>by rw [OpenClaim.pre_eq_preRow]; exact lifted os started H enc F)
theorem plain (f : FuncId) (fn : Func) (hf : Tryd.pinned.checked.prog.funcNamed "probecard/probecardlaw05.ConesErrors" = some f) (hfn : Tryd.pinned.checked.prog.funcs[f]? = some fn) :
    false = Tryd.pinned.checked.prog.looks []∧∀ (j : Nat) t,fn.params[j]? = some t→Tryd.pinned.checked.prog.wantsStandIn t = false:=by
  obtain rfl : f = 4:=Option.some.inj ((show Tryd.prog.funcNamed "probecard/probecardlaw05.ConesErrors" = some 4 by kernel_rfl).symm.trans hf) |>.symm
  obtain rfl : fn = Tryd.f4:=(Option.some.inj (Tryd.func4.symm.trans hfn)).symm
  refine ⟨by kernel_rfl,fun j t ht=>?_⟩
  rw [Tryd.params4] at ht
  have hm:=Array.mem_of_getElem? ht
  simp only [List.mem_toArray,List.mem_cons,List.not_mem_nil,or_false] at hm
  rcases hm with rfl | rfl
  · exact (show Tryd.prog.wantsStandIn 34 = false by kernel_rfl)
  · exact (show Tryd.prog.wantsStandIn 47 = false by kernel_rfl)
end Go.Proofs.YtcmapbecfpcnfaaDoor.LConesErrors
namespace Go.Proofs.YtcmapbecfpcnfaaDoor
open Go
theorem conesErrors_card : Rows.ConesErrorsUptoCardSaid:=
  Claim7.holds_tied_plain_at .later [] _ _ _ _ LConesErrors.said (fun _ h=>by cases h) (by kernel_rfl) (fun _ h=>by cases h) conesErrorsUpto_row_tie rfl ⟨rfl,rfl⟩ (by kernel_rfl) rfl LConesErrors.plain (by kernel_rfl)
end Go.Proofs.YtcmapbecfpcnfaaDoor
