/- probecard's law PodemsErrors answers true for every input, and its arguments read afterwards as before. Conditions: the card's own. -/
import Derived.Test.YtpaopccohkldlaaGreatDoorCards
import Derived.Test.YtpaopccohkldlaaGreatDoorTie
import Derived.WalkKit
import Derived.ProofKit
import Derived.OpenShut
import Derived.Deep.DeepHandedRow
import Derived.Lib.LaidTab
import Derived.Test.YtpaopccohkldlaaGreatDoorST
import Derived.Test.YtpaopccohkldlaaGreatDoorWQ
set_option linter.all false
namespace Go.Proofs.YtpaopccohkldlaaGreatDoor.LPodemsErrors
open Go Go.ChangeShapes Go.WideShapes Go.ChangeAt Go.RowKit
set_option maxRecDepth 100000
theorem own:ownKnob Tryz.prog.godebug = none:=by kernel_rfl
theorem q4m {H:Type}:∀ ds:List (DataW H),ds.length = 3->Rows.podemsErrorsSpec.fn H ds = { results:=[.lit (.bool true)],args:=ds }
 | [_,_,_],_=>rfl
theorem q38 (vs:List V) (h:qg4 (qfw Tryz.prog 20) Tryz.f10.params.toList vs):qac Tryz.prog gl0 10 vs (.bool true):=by
 rw [Tryz.params10] at h;obtain ⟨a,_,rfl,ha,h⟩:=qa3 h;obtain ⟨b,_,rfl,hb,h⟩:=qa3 h;obtain ⟨d,_,rfl,hd,h⟩:=qa3 h;obtain rfl:=qe5 h;obtain ⟨x,rfl,hx⟩:=cx_h ha;obtain ⟨f,rfl,hm,hv⟩:=q7q hb;obtain ⟨l,rfl⟩:=q23 hd;exact q73 x hx f hm hv l
theorem qfh (H:Type) (enc:TypeId × Value->H) (W:World) (base:Nat) (args:Array Value) (ds gs:List (DataW H)) (before:List MemPlace)
  (hval:∀ (j:Nat) t v,Tryz.f10.params[j]? = some t->args[j]? = some v->Value.okWide Tryz.prog W .any base t v)
  (hW:DataW.Whole enc Tryz.prog Tryz.f10.params.toList Rows.podemsErrorsSpec.vars false W args.toList ds gs before) (hL:laidMetH Tryz.prog Rows.podemsErrorsRow.laid W) :
  Calls Tryz.prog 10 args W fun e W'=>∃ v,e = .returned v/\Rows.podemsErrorsSpec.post enc Tryz.prog Tryz.f10 false true false false W args v W':=
 qqs (gl:=gl0) (by kernel_rfl) (by kernel_rfl) rfl Tryz.underlying4 rfl (by kernel_rfl) (by kernel_rfl) (by kernel_rfl) (by kernel_rfl) q4m q38 hval hW hL
noncomputable def qk9 (os:Os):World:=
 { World.holding Tryz.prog os ⟨#[],#[],[]⟩ with heap:=(((((World.holding Tryz.prog os ⟨#[],#[],[]⟩).heap.modify 0 fun
   | .cells _ t frozen=>.cells (([-1,0,0].map (Value.int .i64)).toArray) t frozen
   | o=>o).modify 1 fun
   | .cells _ t frozen=>.cells (([0,0,0,0,0,0,1,1,1,1,2,16,2,16,2,16,2,16,2,16,2,16,3,3,2,2,1,16,1,1,0,0].map (Value.int .i64)).toArray) t frozen
   | o=>o).modify 3 fun
   | .cells _ t frozen=>.cells (([1073741824,1073741824].map (Value.int .i64)).toArray) t frozen
   | o=>o).modify 4 fun
   | .cells _ t frozen=>.cells (([1,1].map (Value.int .i64)).toArray) t frozen
   | o=>o) }
noncomputable def wit:Array Value:=#[.agg #[.int .u8 0,.int .u8 0,.int .u8 0,.int .u8 0,.bool false,.bool false,.int .u8 0,.int .u8 0,.int .u8 0,.int .u8 0,.slice none 0 0,.slice none 0 0],.agg #[.int .u8 0,.int .i64 0,.int .i64 0,.int .u8 0,.int .i64 0],.int .i64 0]
theorem q3a (os:Os):laidMet Tryz.prog Rows.podemsErrorsRow.laid ((qk9 os).forCall (fun _ _=>0) ⟨#[],wit,[]⟩).memory:=
 laidMet_of_run' 8 (by kernel_rfl) (by kernel_rfl)
theorem q4a (os:Os) {H:Type} (enc:TypeId × Value->H):∃ places,DataW.whole enc Tryz.prog ((qk9 os).forCall (fun _ _=>0) ⟨#[],wit,[]⟩).memory Tryz.f10.params.toList Rows.podemsErrorsSpec.vars false wit.toList 8 = some ([.agg [.lit (.int .u8 0),.lit (.int .u8 0),.agg [.lit (.int .u8 0),.lit (.int .u8 0)],.lit (.bool false),.lit (.bool false),.agg [.lit (.int .u8 0),.lit (.int .u8 0),.lit (.int .u8 0),.lit (.int .u8 0)],.nil,.nil],.agg [.lit (.int .u8 0),.agg [.lit (.int .i64 0),.lit (.int .i64 0)],.lit (.int .u8 0),.lit (.int .i64 0)],.lit (.int .i64 0)],[],places):=
 ⟨[],by kernel_rfl⟩
theorem jc6 (os:Os) (started:os.Started) (H:Type) (enc:TypeId × Value->H) (F:Stop.Interp) :
  ReturnsInHanded {} Tryz.checked os 10 .any ((OpenSpec.ofChange Rows.podemsErrorsSpec).preRow enc Tryz.prog Tryz.f10 Rows.podemsErrorsRow.domain false Rows.podemsErrorsRow.laid) (((OpenSpec.ofChange Rows.podemsErrorsSpec).at F).post enc Tryz.prog Tryz.f10 false true false false):=by
 obtain ⟨places,hx⟩:=q4a os enc
 refine returnsInHanded_of_row (C:=Tryz.checked) (s:=(OpenSpec.ofChange Rows.podemsErrorsSpec)) own started (by kernel_rfl) Tryz.func10
  (witness_row_at (enc:=enc) (C:=Tryz.checked) false (qk9 os) wit rfl (by kernel_rfl) (by kernel_rfl) (by kernel_rfl)
   (OpenSpec.preRow_of_cond 8 hx (by kernel_rfl) (fun k hk=>by cases hk) (by kernel_rfl) (q3a os))) ?_
 intro W base args ds gs before hval hW _ _ _ hL _ _;exact qfh H enc W base args ds gs before hval hW hL
noncomputable abbrev P:=Tryz.pinned.checked.prog
abbrev c:=Rows.podemsErrorsRow
abbrev s:=(OpenSpec.ofChange Rows.podemsErrorsSpec).bare
theorem wA:(c.wf (OpenSpec.ofChange s) && laidOutB P && mapsRowed P && Tryz.f10.params.all (P.readableRec ·) && namedTie P c.named s.vars && (c.stops == []) && (P.stops == []) && (c.knobs == []) && (P.stopKnobs == []) && (c.inPlace == P.inPlace 10) && (c.unfollowed == P.unfollowed 10) && (c.recurses == P.recurses 10) && (c.named == P.varsNamed 10)) = true:=by kernel_rfl
theorem closed:joinedFacts P 10 Tryz.f10 s c = true:=by
 unfold joinedFacts;rw [wA];kernel_rfl
theorem nmd:P.funcNamed c.func = some 10:=by kernel_rfl
theorem said:Rows.PodemsErrorsSaid:=
 OpenClaim.holds_of_cond 10 Tryz.f10 rfl rfl rfl rfl rfl rfl rfl ⟨rfl,rfl,rfl,rfl,rfl⟩ rfl rfl rfl rfl rfl nmd Tryz.func10 closed
  (jo7 (by kernel_rfl)) (by unfold Func.isWrapper; first | (rw [if_pos (by decide +kernel)]; kernel_rfl) | (rw [if_neg (by decide +kernel)]; exact ⟨rfl,rfl⟩))
  (fun os started H enc _ F=>by rw [OpenClaim.pre_eq_preRow]; exact jc6 os started H enc F)
theorem plain (f:FuncId) (fn:Func) (hf:Tryz.pinned.checked.prog.funcNamed "probecard/probecardlaw27.PodemsErrors" = some f) (hfn:Tryz.pinned.checked.prog.funcs[f]? = some fn) :
  true = Tryz.pinned.checked.prog.looks []/\∀ (j:Nat) t,fn.params[j]? = some t->Tryz.pinned.checked.prog.wantsStandIn t = false:=by
 obtain rfl:f = 10:=Option.some.inj ((show Tryz.prog.funcNamed "probecard/probecardlaw27.PodemsErrors" = some 10 by kernel_rfl).symm.trans hf) |>.symm;obtain rfl:fn = Tryz.f10:=(Option.some.inj (Tryz.func10.symm.trans hfn)).symm;refine ⟨by kernel_rfl,fun j t ht=>?_⟩;rw [Tryz.params10] at ht;have hm:=Array.mem_of_getElem? ht;simp only [List.mem_toArray,List.mem_cons,List.not_mem_nil,or_false] at hm;rcases hm with rfl | rfl | rfl
 ·exact (show Tryz.prog.wantsStandIn 27 = false by kernel_rfl)
 ·exact (show Tryz.prog.wantsStandIn 43 = false by kernel_rfl)
 ·exact (show Tryz.prog.wantsStandIn 3 = false by kernel_rfl)
end Go.Proofs.YtpaopccohkldlaaGreatDoor.LPodemsErrors
namespace Go.Proofs.YtpaopccohkldlaaGreatDoor
open Go
theorem podemsErrors_card:Rows.PodemsErrorsCardSaid:=
 Claim7.holds_tied_plain_at .later [] _ _ _ _ LPodemsErrors.said (fun _ h=>by cases h) (by kernel_rfl) (fun _ h=>by cases h) podemsErrors_row_tie rfl ⟨rfl,rfl⟩ (by kernel_rfl) rfl LPodemsErrors.plain (by kernel_rfl)
end Go.Proofs.YtpaopccohkldlaaGreatDoor
