/- probecard's law NetlistsRenumbered answers true for every input, and its arguments read afterwards as before. Conditions: the card's own. -/
import Derived.Test.YtcdfifbabhfknaaDoorCards
import Derived.Test.YtcdfifbabhfknaaDoorTie
import Derived.WalkKit
import Derived.ProofKit
import Derived.OpenShut
import Derived.Deep.DeepHandedRow
import Derived.Lib.LaidTab
import Derived.Test.YtcdfifbabhfknaaDoorST
import Derived.Test.YtcdfifbabhfknaaDoorM2
set_option linter.unusedSimpArgs false
set_option linter.unusedVariables false
namespace Go.Proofs.YtcdfifbabhfknaaDoor.LNetlistsRenumbered
open Go Go.ChangeShapes Go.WideShapes Go.ChangeAt Go.RowKit
set_option maxRecDepth 100000
theorem own : ownKnob Tryd.prog.godebug = none:=by kernel_rfl
theorem spec_all {H : Type} : ∀ ds : List (DataW H),ds.length = 2→Rows.netlistsRenumberedSpec.fn H ds = { results:=[.lit (.bool true)],args:=ds }
 | [_,_],_=>rfl
theorem pure_all (vs : List V) (h : hasAll (hasT Tryd.prog 20) Tryd.f7.params.toList vs) : PureC Tryd.prog gl0 7 vs (.bool true):=by
 rw [Tryd.params7] at h
 obtain ⟨a,_,rfl,ha,h⟩:=hasAll_cons h
 obtain ⟨b,_,rfl,hb,h⟩:=hasAll_cons h
 obtain rfl:=hasAll_nil h
 obtain ⟨x,rfl,hx⟩:=cx_h ha
 obtain ⟨qs,rfl,hl,hq⟩:=hasT_array Tryd.underlying63 hb
 obtain ⟨l,rfl,hw⟩:=u8s_h hq
 rw [keys_cells]
 exact lawRen_c x hx l (by simpa using hl) hw
theorem contract (H : Type) (enc : TypeId × Value→H) (W : World) (base : Nat) (args : Array Value) (ds gs : List (DataW H)) (before : List MemPlace)
  (hval : ∀ (j : Nat) t v,Tryd.f7.params[j]? = some t→args[j]? = some v→Value.okWide Tryd.prog W .any base t v)
  (hW : DataW.Whole enc Tryd.prog Tryd.f7.params.toList Rows.netlistsRenumberedSpec.vars false W args.toList ds gs before) (hL : laidMetH Tryd.prog Rows.netlistsRenumberedRow.laid W) :
  Calls Tryd.prog 7 args W fun e W'=>∃ v,e = .returned v∧Rows.netlistsRenumberedSpec.post enc Tryd.prog Tryd.f7 false true false false W args v W':=
 law_contract (gl:=gl0) (by kernel_rfl) (by kernel_rfl) rfl Tryd.underlying4 rfl (by kernel_rfl) (by kernel_rfl) (by kernel_rfl) (by kernel_rfl) spec_all pure_all hval hW hL
noncomputable def laidWorld (os : Os) : World:=
 { World.holding Tryd.prog os ⟨#[],#[],[]⟩ with heap:=((World.holding Tryd.prog os ⟨#[],#[],[]⟩).heap.modify 0 fun
   | .cells _ t frozen=>.cells (([0,0,0,0,0,0,1,1,1,1,2,16,2,16,2,16,2,16,2,16,2,16,3,3,2,2,1,16,1,1,0,0].map (Value.int .i64)).toArray) t frozen
   | o=>o) }
noncomputable def wit : Array Value:=#[.agg #[.int .u8 0,.int .u8 0,.int .u8 0,.int .u8 0,.bool false,.bool false,.int .u8 0,.int .u8 0,.int .u8 0,.int .u8 0,.slice none 0 0,.slice none 0 0],.agg #[.int .u8 0,.int .u8 0,.int .u8 0,.int .u8 0,.int .u8 0,.int .u8 0,.int .u8 0,.int .u8 0,.int .u8 0,.int .u8 0,.int .u8 0,.int .u8 0,.int .u8 0,.int .u8 0,.int .u8 0,.int .u8 0]]
theorem laid_met (os : Os) : laidMet Tryd.prog Rows.netlistsRenumberedRow.laid ((laidWorld os).forCall (fun _ _=>0) ⟨#[],wit,[]⟩).memory:=
 laidMet_of_run' 8 (by kernel_rfl) (by kernel_rfl)
theorem reads (os : Os) {H : Type} (enc : TypeId × Value→H) : ∃ places,DataW.whole enc Tryd.prog ((laidWorld os).forCall (fun _ _=>0) ⟨#[],wit,[]⟩).memory Tryd.f7.params.toList Rows.netlistsRenumberedSpec.vars false wit.toList 8 = some ([.agg [.lit (.int .u8 0),.lit (.int .u8 0),.agg [.lit (.int .u8 0),.lit (.int .u8 0)],.lit (.bool false),.lit (.bool false),.agg [.lit (.int .u8 0),.lit (.int .u8 0),.lit (.int .u8 0),.lit (.int .u8 0)],.nil,.nil],.agg [.lit (.int .u8 0),.lit (.int .u8 0),.lit (.int .u8 0),.lit (.int .u8 0),.lit (.int .u8 0),.lit (.int .u8 0),.lit (.int .u8 0),.lit (.int .u8 0),.lit (.int .u8 0),.lit (.int .u8 0),.lit (.int .u8 0),.lit (.int .u8 0),.lit (.int .u8 0),.lit (.int .u8 0),.lit (.int .u8 0),.lit (.int .u8 0)]],[],places):=
 ⟨[],by kernel_rfl⟩
theorem lifted (os : Os) (started : os.Started) (H : Type) (enc : TypeId × Value→H) (F : Stop.Interp) :
  ReturnsInHanded {} Tryd.checked os 7 .any ((OpenSpec.ofChange Rows.netlistsRenumberedSpec).preRow enc Tryd.prog Tryd.f7 Rows.netlistsRenumberedRow.domain false Rows.netlistsRenumberedRow.laid) (((OpenSpec.ofChange Rows.netlistsRenumberedSpec).at F).post enc Tryd.prog Tryd.f7 false true false false):=by
 obtain ⟨places,hx⟩:=reads os enc
 refine returnsInHanded_of_row (C:=Tryd.checked) (s:=(OpenSpec.ofChange Rows.netlistsRenumberedSpec)) own started (by kernel_rfl) Tryd.func7
  (witness_row_at (enc:=enc) (C:=Tryd.checked) false (laidWorld os) wit rfl (by kernel_rfl) (by kernel_rfl) (by kernel_rfl)
   (OpenSpec.preRow_of_cond 8 hx (by kernel_rfl) (fun k hk=>by cases hk) (by kernel_rfl) (laid_met os))) ?_
 intro W base args ds gs before hval hW _ _ _ hL _ _
 exact contract H enc W base args ds gs before hval hW hL
theorem said : Rows.NetlistsRenumberedSaid:=
 OpenClaim.holds_of_cond 7 Tryd.f7 rfl rfl rfl rfl rfl rfl rfl ⟨rfl,rfl,rfl,rfl,rfl⟩ rfl rfl rfl rfl rfl (by kernel_rfl) Tryd.func7 (by kernel_rfl)
  (of_decide_eq_true (by kernel_rfl)) (by unfold Func.isWrapper; first | (rw [if_pos (by decide +kernel)]; kernel_rfl) | (rw [if_neg (by decide +kernel)]; exact ⟨rfl,rfl⟩))
  (fun os started H enc _ F=>by rw [OpenClaim.pre_eq_preRow]; exact lifted os started H enc F)
theorem plain (f : FuncId) (fn : Func) (hf : Tryd.pinned.checked.prog.funcNamed "probecard/probecardlaw03.NetlistsRenumbered" = some f) (hfn : Tryd.pinned.checked.prog.funcs[f]? = some fn) :
  false = Tryd.pinned.checked.prog.looks []∧∀ (j : Nat) t,fn.params[j]? = some t→Tryd.pinned.checked.prog.wantsStandIn t = false:=by
 obtain rfl : f = 7:=Option.some.inj ((show Tryd.prog.funcNamed "probecard/probecardlaw03.NetlistsRenumbered" = some 7 by kernel_rfl).symm.trans hf) |>.symm
 obtain rfl : fn = Tryd.f7:=(Option.some.inj (Tryd.func7.symm.trans hfn)).symm
 refine ⟨by kernel_rfl,fun j t ht=>?_⟩
 rw [Tryd.params7] at ht
 have hm:=Array.mem_of_getElem? ht
 simp only [List.mem_toArray,List.mem_cons,List.not_mem_nil,or_false] at hm
 rcases hm with rfl | rfl
 ·exact (show Tryd.prog.wantsStandIn 56 = false by kernel_rfl)
 ·exact (show Tryd.prog.wantsStandIn 63 = false by kernel_rfl)
end Go.Proofs.YtcdfifbabhfknaaDoor.LNetlistsRenumbered
namespace Go.Proofs.YtcdfifbabhfknaaDoor
open Go
theorem netlistsRenumbered_card : Rows.NetlistsRenumberedCardSaid:=
 Claim7.holds_tied_plain_at .later [] _ _ _ _ LNetlistsRenumbered.said (fun _ h=>by cases h) (by kernel_rfl) (fun _ h=>by cases h) netlistsRenumbered_row_tie rfl ⟨rfl,rfl⟩ (by kernel_rfl) rfl LNetlistsRenumbered.plain (by kernel_rfl)
end Go.Proofs.YtcdfifbabhfknaaDoor
