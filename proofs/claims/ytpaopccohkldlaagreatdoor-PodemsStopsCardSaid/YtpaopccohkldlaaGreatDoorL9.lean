/- probecard's law PodemsStops answers true for every input, and its arguments read afterwards as before. Conditions: the card's own. -/
import Derived.Test.YtpaopccohkldlaaGreatDoorCards
import Derived.Test.YtpaopccohkldlaaGreatDoorTie
import Derived.WalkKit
import Derived.ProofKit
import Derived.OpenShut
import Derived.Deep.DeepHandedRow
import Derived.Lib.LaidTab
import Derived.Test.YtpaopccohkldlaaGreatDoorST
import Derived.Test.YtpaopccohkldlaaGreatDoorWP
set_option linter.all false
namespace Go.Proofs.YtpaopccohkldlaaGreatDoor.LPodemsStops
open Go Go.ChangeShapes Go.WideShapes Go.ChangeAt Go.RowKit
set_option maxRecDepth 100000
theorem own:ownKnob Tryz.prog.godebug = none:=by kernel_rfl
theorem qpt {H:Type}:∀ ds:List (DataW H),ds.length = 3->Rows.podemsStopsSpec.fn H ds = { results:=[.lit (.bool true)],args:=ds }
 | [_,_,_],_=>rfl
theorem qph (vs:List V) (h:qf9 (qfy Tryz.prog 20) Tryz.f9.params.toList vs):qac Tryz.prog gl0 9 vs (.bool true):=by
 rw [Tryz.params9] at h;obtain ⟨a,_,rfl,ha,h⟩:=qa0 h;obtain ⟨b,_,rfl,hb,h⟩:=qa0 h;obtain ⟨d,_,rfl,hd,h⟩:=qa0 h;obtain rfl:=qfa h;obtain ⟨x,rfl,hx⟩:=cx_h ha;obtain ⟨z,rfl,hz⟩:=fx_h hb;obtain ⟨m,rfl,hm⟩:=q51 hd;exact jeg x hx z hz m hm
theorem qd5 (H:Type) (enc:TypeId × Value->H) (W:World) (base:Nat) (args:Array Value) (ds gs:List (DataW H)) (before:List MemPlace)
  (hval:∀ (j:Nat) t v,Tryz.f9.params[j]? = some t->args[j]? = some v->Value.okWide Tryz.prog W .any base t v)
  (hW:DataW.Whole enc Tryz.prog Tryz.f9.params.toList Rows.podemsStopsSpec.vars false W args.toList ds gs before) (hL:laidMetH Tryz.prog Rows.podemsStopsRow.laid W) :
  Calls Tryz.prog 9 args W fun e W'=>∃ v,e = .returned v/\Rows.podemsStopsSpec.post enc Tryz.prog Tryz.f9 false true false false W args v W':=
 qjv (gl:=gl0) (by kernel_rfl) (by kernel_rfl) rfl Tryz.underlying4 rfl (by kernel_rfl) (by kernel_rfl) (by kernel_rfl) (by kernel_rfl) qpt qph hval hW hL
noncomputable def qef (os:Os):World:=
 { World.holding Tryz.prog os ⟨#[],#[],[]⟩ with heap:=(((((World.holding Tryz.prog os ⟨#[],#[],[]⟩).heap.modify 0 fun
   | .cells _ t frozen=>.cells (([-1,0,0].map (Value.int .i64)).toArray) t frozen
   | o=>o).modify 1 fun
   | .cells _ t frozen=>.cells (([0,0,0,0,0,0,1,1,1,1,2,16,2,16,2,16,2,16,2,16,2,16,3,3,2,2,1,16,1,1,0,0].map (Value.int .i64)).toArray) t frozen
   | o=>o).modify 3 fun
   | .cells _ t frozen=>.cells (([1073741824,1073741824].map (Value.int .i64)).toArray) t frozen
   | o=>o).modify 4 fun
   | .cells _ t frozen=>.cells (([1,1].map (Value.int .i64)).toArray) t frozen
   | o=>o) }
noncomputable def wit:Array Value:=#[.agg #[.int .u8 0,.int .u8 0,.int .u8 0,.int .u8 0,.bool false,.bool false,.int .u8 0,.int .u8 0,.int .u8 0,.int .u8 0,.slice none 0 0,.slice none 0 0],.agg #[.int .u8 0,.int .u8 0,.int .u8 0,.int .u8 0,.bool false],.int .u8 0]
theorem qow (os:Os):laidMet Tryz.prog Rows.podemsStopsRow.laid ((qef os).forCall (fun _ _=>0) ⟨#[],wit,[]⟩).memory:=
 laidMet_of_run' 8 (by kernel_rfl) (by kernel_rfl)
theorem qw0 (os:Os) {H:Type} (enc:TypeId × Value->H):∃ places,DataW.whole enc Tryz.prog ((qef os).forCall (fun _ _=>0) ⟨#[],wit,[]⟩).memory Tryz.f9.params.toList Rows.podemsStopsSpec.vars false wit.toList 8 = some ([.agg [.lit (.int .u8 0),.lit (.int .u8 0),.agg [.lit (.int .u8 0),.lit (.int .u8 0)],.lit (.bool false),.lit (.bool false),.agg [.lit (.int .u8 0),.lit (.int .u8 0),.lit (.int .u8 0),.lit (.int .u8 0)],.nil,.nil],.agg [.lit (.int .u8 0),.lit (.int .u8 0),.lit (.int .u8 0),.lit (.int .u8 0),.lit (.bool false)],.lit (.int .u8 0)],[],places):=
 ⟨[],by kernel_rfl⟩
theorem qz3 (os:Os) (started:os.Started) (H:Type) (enc:TypeId × Value->H) (F:Stop.Interp) :
  ReturnsInHanded {} Tryz.checked os 9 .any ((OpenSpec.ofChange Rows.podemsStopsSpec).preRow enc Tryz.prog Tryz.f9 Rows.podemsStopsRow.domain false Rows.podemsStopsRow.laid) (((OpenSpec.ofChange Rows.podemsStopsSpec).at F).post enc Tryz.prog Tryz.f9 false true false false):=by
 obtain ⟨places,hx⟩:=qw0 os enc
 refine returnsInHanded_of_row (C:=Tryz.checked) (s:=(OpenSpec.ofChange Rows.podemsStopsSpec)) own started (by kernel_rfl) Tryz.func9
  (witness_row_at (enc:=enc) (C:=Tryz.checked) false (qef os) wit rfl (by kernel_rfl) (by kernel_rfl) (by kernel_rfl)
   (OpenSpec.preRow_of_cond 8 hx (by kernel_rfl) (fun k hk=>by cases hk) (by kernel_rfl) (qow os))) ?_
 intro W base args ds gs before hval hW _ _ _ hL _ _;exact qd5 H enc W base args ds gs before hval hW hL
noncomputable abbrev P:=Tryz.pinned.checked.prog
abbrev c:=Rows.podemsStopsRow
abbrev s:=(OpenSpec.ofChange Rows.podemsStopsSpec).bare
theorem wA:(c.wf (OpenSpec.ofChange s) && laidOutB P && mapsRowed P && Tryz.f9.params.all (P.readableRec ·) && namedTie P c.named s.vars && (c.stops == []) && (P.stops == []) && (c.knobs == []) && (P.stopKnobs == []) && (c.inPlace == P.inPlace 9) && (c.unfollowed == P.unfollowed 9) && (c.recurses == P.recurses 9) && (c.named == P.varsNamed 9)) = true:=by kernel_rfl
theorem qqm:joinedFacts P 9 Tryz.f9 s c = true:=by
 unfold joinedFacts;rw [wA];kernel_rfl
theorem nmd:P.funcNamed c.func = some 9:=by kernel_rfl
theorem said:Rows.PodemsStopsSaid:=
 OpenClaim.holds_of_cond 9 Tryz.f9 rfl rfl rfl rfl rfl rfl rfl ⟨rfl,rfl,rfl,rfl,rfl⟩ rfl rfl rfl rfl rfl nmd Tryz.func9 qqm
  (jqs (by kernel_rfl)) (by unfold Func.isWrapper; first | (rw [if_pos (by decide +kernel)]; kernel_rfl) | (rw [if_neg (by decide +kernel)]; exact ⟨rfl,rfl⟩))
  (fun os started H enc _ F=>by rw [OpenClaim.pre_eq_preRow]; exact qz3 os started H enc F)
theorem plain (f:FuncId) (fn:Func) (hf:Tryz.pinned.checked.prog.funcNamed "probecard/probecardlaw27.PodemsStops" = some f) (hfn:Tryz.pinned.checked.prog.funcs[f]? = some fn) :
  true = Tryz.pinned.checked.prog.looks []/\∀ (j:Nat) t,fn.params[j]? = some t->Tryz.pinned.checked.prog.wantsStandIn t = false:=by
 obtain rfl:f = 9:=Option.some.inj ((show Tryz.prog.funcNamed "probecard/probecardlaw27.PodemsStops" = some 9 by kernel_rfl).symm.trans hf) |>.symm;obtain rfl:fn = Tryz.f9:=(Option.some.inj (Tryz.func9.symm.trans hfn)).symm;refine ⟨by kernel_rfl,fun j t ht=>?_⟩;rw [Tryz.params9] at ht;have hm:=Array.mem_of_getElem? ht;simp only [List.mem_toArray,List.mem_cons,List.not_mem_nil,or_false] at hm;rcases hm with rfl | rfl | rfl
 ·exact (show Tryz.prog.wantsStandIn 27 = false by kernel_rfl)
 ·exact (show Tryz.prog.wantsStandIn 29 = false by kernel_rfl)
 ·exact (show Tryz.prog.wantsStandIn 5 = false by kernel_rfl)
end Go.Proofs.YtpaopccohkldlaaGreatDoor.LPodemsStops
namespace Go.Proofs.YtpaopccohkldlaaGreatDoor
open Go
theorem podemsStops_card:Rows.PodemsStopsCardSaid:=
 Claim7.holds_tied_plain_at .later [] _ _ _ _ LPodemsStops.said (fun _ h=>by cases h) (by kernel_rfl) (fun _ h=>by cases h) podemsStops_row_tie rfl ⟨rfl,rfl⟩ (by kernel_rfl) rfl LPodemsStops.plain (by kernel_rfl)
end Go.Proofs.YtpaopccohkldlaaGreatDoor
