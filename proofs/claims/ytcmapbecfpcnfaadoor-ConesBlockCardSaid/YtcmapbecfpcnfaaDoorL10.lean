/- probecard's law ConesBlock answers true for every input, and its arguments read afterwards as before. Conditions: the card's own. -/
import Derived.Test.YtcmapbecfpcnfaaDoorCards
import Derived.Test.YtcmapbecfpcnfaaDoorTie
import Derived.WalkKit
import Derived.ProofKit
import Derived.OpenShut
import Derived.Deep.DeepHandedRow
import Derived.Lib.LaidTab
import Derived.Test.YtcmapbecfpcnfaaDoorNT2
import Derived.Test.YtcmapbecfpcnfaaDoorK23
namespace Go.Proofs.YtcmapbecfpcnfaaDoor.LConesBlock
open Go Go.ChangeShapes Go.WideShapes Go.ChangeAt Go.RowKit
set_option maxRecDepth 100000
theorem own : ownKnob Tryd.prog.godebug = none:=by kernel_rfl
theorem spec_all {H : Type} : ∀ ds : List (DataW H),ds.length = 3→Rows.conesBlockSpec.fn H ds = { results:=[.lit (.bool true)],args:=ds }
  | [_,_,_],_=>rfl
theorem pure_all (vs : List V) (h : hasAll (hasT Tryd.prog 20) Tryd.f10.params.toList vs) : PureC Tryd.prog gl0 10 vs (.bool true):=by
  rw [Tryd.params10] at h
  obtain ⟨a,_,rfl,ha,h⟩:=hasAll_cons h
  obtain ⟨b,_,rfl,hb,h⟩:=hasAll_cons h
  obtain ⟨d,_,rfl,hd,h⟩:=hasAll_cons h
  obtain rfl:=hasAll_nil h
  obtain ⟨x,rfl,hx⟩:=cx_h ha
  obtain ⟨xs,rfl,-,hs⟩:=hasT_slice Tryd.underlying25 hb
  obtain ⟨g,rfl,hg⟩:=u8s_h hs
  obtain ⟨qs,rfl,hl,hq⟩:=hasT_array Tryd.underlying22 hd
  obtain ⟨l,rfl,hw⟩:=u8s_h hq
  match l,hl,hw with
  | [p,q],_,hw=>exact lawBlock_c x hx g hg p q (hw p (by simp)) (hw q (by simp))
theorem contract (H : Type) (enc : TypeId × Value→H) (W : World) (base : Nat) (args : Array Value) (ds gs : List (DataW H)) (before : List MemPlace)
    (hval : ∀ (j : Nat) t v,Tryd.f10.params[j]? = some t→args[j]? = some v→Value.okWide Tryd.prog W .any base t v)
    (hW : DataW.Whole enc Tryd.prog Tryd.f10.params.toList Rows.conesBlockSpec.vars false W args.toList ds gs before) (hL : laidMetH Tryd.prog Rows.conesBlockRow.laid W) :
    Calls Tryd.prog 10 args W fun e W'=>∃ v,e = .returned v∧Rows.conesBlockSpec.post enc Tryd.prog Tryd.f10 false true false false W args v W':=
  law_contract (gl:=gl0) (by kernel_rfl) (by kernel_rfl) rfl Tryd.underlying4 rfl (by kernel_rfl) (by kernel_rfl) (by kernel_rfl) (by kernel_rfl) spec_all pure_all hval hW hL
noncomputable def laidWorld (os : Os) : World:=
  { World.holding Tryd.prog os ⟨#[],#[],[]⟩ with heap:=((World.holding Tryd.prog os ⟨#[],#[],[]⟩).heap.modify 0 fun
      | .cells _ t frozen=>.cells (([0,0,0,0,0,0,1,1,1,1,2,16,2,16,2,16,2,16,2,16,2,16,3,3,2,2,1,16,1,1,0,0].map (Value.int .i64)).toArray) t frozen
      | o=>o) }
noncomputable def wit : Array Value:=#[.agg #[.int .u8 0,.int .u8 0,.int .u8 0,.int .u8 0,.bool false,.bool false,.int .u8 0,.int .u8 0,.int .u8 0,.int .u8 0,.slice none 0 0,.slice none 0 0],.slice none 0 0,.agg #[.int .u8 0,.int .u8 0]]
theorem laid_met (os : Os) : laidMet Tryd.prog Rows.conesBlockRow.laid ((laidWorld os).forCall (fun _ _=>0) ⟨#[],wit,[]⟩).memory:=
  laidMet_of_run' 8 (by kernel_rfl) (by kernel_rfl)
theorem reads (os : Os) {H : Type} (enc : TypeId × Value→H) : ∃ places,DataW.whole enc Tryd.prog ((laidWorld os).forCall (fun _ _=>0) ⟨#[],wit,[]⟩).memory Tryd.f10.params.toList Rows.conesBlockSpec.vars false wit.toList 8 = some ([.agg [.lit (.int .u8 0),.lit (.int .u8 0),.agg [.lit (.int .u8 0),.lit (.int .u8 0)],.lit (.bool false),.lit (.bool false),.agg [.lit (.int .u8 0),.lit (.int .u8 0),.lit (.int .u8 0),.lit (.int .u8 0)],.nil,.nil],.nil,.agg [.lit (.int .u8 0),.lit (.int .u8 0)]],[],places):=
  ⟨[],by kernel_rfl⟩
theorem lifted (os : Os) (started : os.Started) (H : Type) (enc : TypeId × Value→H) (F : Stop.Interp) :
    ReturnsInHanded {} Tryd.checked os 10 .any ((OpenSpec.ofChange Rows.conesBlockSpec).preRow enc Tryd.prog Tryd.f10 Rows.conesBlockRow.domain false Rows.conesBlockRow.laid) (((OpenSpec.ofChange Rows.conesBlockSpec).at F).post enc Tryd.prog Tryd.f10 false true false false):=by
  obtain ⟨places,hx⟩:=reads os enc
  refine returnsInHanded_of_row (C:=Tryd.checked) (s:=(OpenSpec.ofChange Rows.conesBlockSpec)) own started (by kernel_rfl) Tryd.func10
    (witness_row_at (enc:=enc) (C:=Tryd.checked) false (laidWorld os) wit rfl (by kernel_rfl) (by kernel_rfl) (by kernel_rfl)
      (OpenSpec.preRow_of_cond 8 hx (by kernel_rfl) (fun k hk=>by cases hk) (by kernel_rfl) (laid_met os))) ?_
  intro W base args ds gs before hval hW _ _ _ hL _ _
  exact contract H enc W base args ds gs before hval hW hL
theorem said : Rows.ConesBlockSaid:=
  OpenClaim.holds_of_cond 10 Tryd.f10 rfl rfl rfl rfl rfl rfl rfl ⟨rfl,rfl,rfl,rfl,rfl⟩ rfl rfl rfl rfl rfl (by kernel_rfl) Tryd.func10 (by kernel_rfl)
    (of_decide_eq_true (by kernel_rfl)) (by unfold Func.isWrapper; first | (rw [if_pos (by decide +kernel)]; kernel_rfl) | (rw [if_neg (by decide +kernel)]; exact ⟨rfl,rfl⟩))
    (fun os started H enc _ F=>by rw [OpenClaim.pre_eq_preRow]; exact lifted os started H enc F)
theorem plain (f : FuncId) (fn : Func) (hf : Tryd.pinned.checked.prog.funcNamed "probecard/probecardlaw05.ConesBlock" = some f) (hfn : Tryd.pinned.checked.prog.funcs[f]? = some fn) :
    false = Tryd.pinned.checked.prog.looks []∧∀ (j : Nat) t,fn.params[j]? = some t→Tryd.pinned.checked.prog.wantsStandIn t = false:=by
  obtain rfl : f = 10:=Option.some.inj ((show Tryd.prog.funcNamed "probecard/probecardlaw05.ConesBlock" = some 10 by kernel_rfl).symm.trans hf) |>.symm
  obtain rfl : fn = Tryd.f10:=(Option.some.inj (Tryd.func10.symm.trans hfn)).symm
  refine ⟨by kernel_rfl,fun j t ht=>?_⟩
  rw [Tryd.params10] at ht
  have hm:=Array.mem_of_getElem? ht
  simp only [List.mem_toArray,List.mem_cons,List.not_mem_nil,or_false] at hm
  rcases hm with rfl | rfl | rfl
  · exact (show Tryd.prog.wantsStandIn 27 = false by kernel_rfl)
  · exact (show Tryd.prog.wantsStandIn 25 = false by kernel_rfl)
  · exact (show Tryd.prog.wantsStandIn 22 = false by kernel_rfl)
end Go.Proofs.YtcmapbecfpcnfaaDoor.LConesBlock
namespace Go.Proofs.YtcmapbecfpcnfaaDoor
open Go
theorem conesBlock_card : Rows.ConesBlockCardSaid:=
  Claim7.holds_tied_plain_at .later [] _ _ _ _ LConesBlock.said (fun _ h=>by cases h) (by kernel_rfl) (fun _ h=>by cases h) conesBlock_row_tie rfl ⟨rfl,rfl⟩ (by kernel_rfl) rfl LConesBlock.plain (by kernel_rfl)
end Go.Proofs.YtcmapbecfpcnfaaDoor
