/- probecard's law PodemsKnown answers true for every input, and its arguments read afterwards as before. Conditions: the card's own. -/
import Derived.Test.YtpaopccohkldlaaGreatDoorCards
import Derived.Test.YtpaopccohkldlaaGreatDoorTie
import Derived.WalkKit
import Derived.ProofKit
import Derived.OpenShut
import Derived.Deep.DeepHandedRow
import Derived.Lib.LaidTab
import Derived.Test.YtpaopccohkldlaaGreatDoorBase11
import Derived.Test.YtpaopccohkldlaaGreatDoorWO
set_option linter.all false
namespace Go.Proofs.YtpaopccohkldlaaGreatDoor.LPodemsKnown
open Go Go.ChangeShapes Go.WideShapes Go.ChangeAt Go.RowKit
set_option maxRecDepth 100000
theorem own:ownKnob Tryz.prog.godebug = none:=by kernel_rfl
theorem q4f {H:Type}:∀ ds:List (DataW H),ds.length = 0->Rows.podemsKnownSpec.fn H ds = { results:=[.lit (.bool true)],args:=ds }
 | [],_=>rfl
theorem q3y (vs:List V) (h:qkq (qnt Tryz.prog 20) Tryz.f12.params.toList vs):qab Tryz.prog gl0 12 vs (.bool true):=by
 rw [Tryz.params12] at h;obtain rfl:=qvi h;exact q7u
theorem qe8 (H:Type) (enc:TypeId × Value->H) (W:World) (base:Nat) (args:Array Value) (ds gs:List (DataW H)) (before:List MemPlace)
  (hval:∀ (j:Nat) t v,Tryz.f12.params[j]? = some t->args[j]? = some v->Value.okWide Tryz.prog W .any base t v)
  (hW:DataW.Whole enc Tryz.prog Tryz.f12.params.toList Rows.podemsKnownSpec.vars false W args.toList ds gs before) (hL:laidMetH Tryz.prog Rows.podemsKnownRow.laid W) :
  Calls Tryz.prog 12 args W fun e W'=>∃ v,e = .returned v/\Rows.podemsKnownSpec.post enc Tryz.prog Tryz.f12 false true false false W args v W':=
 qp4 (gl:=gl0) (by kernel_rfl) (by kernel_rfl) rfl Tryz.underlying4 rfl (by kernel_rfl) (by kernel_rfl) (by kernel_rfl) (by kernel_rfl) q4f q3y hval hW hL
noncomputable def qks (os:Os):World:=
 { World.holding Tryz.prog os ⟨#[],#[],[]⟩ with heap:=(((((World.holding Tryz.prog os ⟨#[],#[],[]⟩).heap.modify 0 fun
   | .cells _ t frozen=>.cells (([-1,0,0].map (Value.int .i64)).toArray) t frozen
   | o=>o).modify 1 fun
   | .cells _ t frozen=>.cells (([0,0,0,0,0,0,1,1,1,1,2,16,2,16,2,16,2,16,2,16,2,16,3,3,2,2,1,16,1,1,0,0].map (Value.int .i64)).toArray) t frozen
   | o=>o).modify 3 fun
   | .cells _ t frozen=>.cells (([1073741824,1073741824].map (Value.int .i64)).toArray) t frozen
   | o=>o).modify 4 fun
   | .cells _ t frozen=>.cells (([1,1].map (Value.int .i64)).toArray) t frozen
   | o=>o) }
noncomputable def wit:Array Value:=#[]
theorem q22 (os:Os):laidMet Tryz.prog Rows.podemsKnownRow.laid ((qks os).forCall (fun _ _=>0) ⟨#[],wit,[]⟩).memory:=
 laidMet_of_run' 8 (by kernel_rfl) (by kernel_rfl)
theorem q30 (os:Os) {H:Type} (enc:TypeId × Value->H):∃ places,DataW.whole enc Tryz.prog ((qks os).forCall (fun _ _=>0) ⟨#[],wit,[]⟩).memory Tryz.f12.params.toList Rows.podemsKnownSpec.vars false wit.toList 8 = some ([],[],places):=
 ⟨[],by kernel_rfl⟩
theorem jdd (os:Os) (started:os.Started) (H:Type) (enc:TypeId × Value->H) (F:Stop.Interp) :
  ReturnsInHanded {} Tryz.checked os 12 .any ((OpenSpec.ofChange Rows.podemsKnownSpec).preRow enc Tryz.prog Tryz.f12 Rows.podemsKnownRow.domain false Rows.podemsKnownRow.laid) (((OpenSpec.ofChange Rows.podemsKnownSpec).at F).post enc Tryz.prog Tryz.f12 false true false false):=by
 obtain ⟨places,hx⟩:=q30 os enc
 refine returnsInHanded_of_row (C:=Tryz.checked) (s:=(OpenSpec.ofChange Rows.podemsKnownSpec)) own started (by kernel_rfl) Tryz.func12
  (witness_row_at (enc:=enc) (C:=Tryz.checked) false (qks os) wit rfl (by kernel_rfl) (by kernel_rfl) (by kernel_rfl)
   (OpenSpec.preRow_of_cond 8 hx (by kernel_rfl) (fun k hk=>by cases hk) (by kernel_rfl) (q22 os))) ?_
 intro W base args ds gs before hval hW _ _ _ hL _ _;exact qe8 H enc W base args ds gs before hval hW hL
noncomputable abbrev P:=Tryz.pinned.checked.prog
abbrev c:=Rows.podemsKnownRow
abbrev s:=(OpenSpec.ofChange Rows.podemsKnownSpec).bare
theorem wA:(c.wf (OpenSpec.ofChange s) && laidOutB P && mapsRowed P && Tryz.f12.params.all (P.readableRec ·) && namedTie P c.named s.vars && (c.stops == []) && (P.stops == []) && (c.knobs == []) && (P.stopKnobs == []) && (c.inPlace == P.inPlace 12) && (c.unfollowed == P.unfollowed 12) && (c.recurses == P.recurses 12) && (c.named == P.varsNamed 12)) = true:=by kernel_rfl
theorem closed:joinedFacts P 12 Tryz.f12 s c = true:=by
 unfold joinedFacts;rw [wA];kernel_rfl
theorem nmd:P.funcNamed c.func = some 12:=by kernel_rfl
theorem said:Rows.PodemsKnownSaid:=
 OpenClaim.holds_of_cond 12 Tryz.f12 rfl rfl rfl rfl rfl rfl rfl ⟨rfl,rfl,rfl,rfl,rfl⟩ rfl rfl rfl rfl rfl nmd Tryz.func12 closed
  (jpf (by kernel_rfl)) (by unfold Func.isWrapper; first | (rw [if_pos (by decide +kernel)]; kernel_rfl) | (rw [if_neg (by decide +kernel)]; exact ⟨rfl,rfl⟩))
  (fun os started H enc _ F=>by rw [OpenClaim.pre_eq_preRow]; exact jdd os started H enc F)
theorem plain (f:FuncId) (fn:Func) (hf:Tryz.pinned.checked.prog.funcNamed "probecard/probecardlaw27.PodemsKnown" = some f) (hfn:Tryz.pinned.checked.prog.funcs[f]? = some fn) :
  true = Tryz.pinned.checked.prog.looks []/\∀ (j:Nat) t,fn.params[j]? = some t->Tryz.pinned.checked.prog.wantsStandIn t = false:=by
 obtain rfl:f = 12:=Option.some.inj ((show Tryz.prog.funcNamed "probecard/probecardlaw27.PodemsKnown" = some 12 by kernel_rfl).symm.trans hf) |>.symm;obtain rfl:fn = Tryz.f12:=(Option.some.inj (Tryz.func12.symm.trans hfn)).symm;refine ⟨by kernel_rfl,fun j t ht=>?_⟩;rw [Tryz.params12] at ht;simp at ht
end Go.Proofs.YtpaopccohkldlaaGreatDoor.LPodemsKnown
namespace Go.Proofs.YtpaopccohkldlaaGreatDoor
open Go
theorem podemsKnown_card:Rows.PodemsKnownCardSaid:=
 Claim7.holds_tied_plain_at .later [] _ _ _ _ LPodemsKnown.said (fun _ h=>by cases h) (by kernel_rfl) (fun _ h=>by cases h) podemsKnown_row_tie rfl ⟨rfl,rfl⟩ (by kernel_rfl) rfl LPodemsKnown.plain (by kernel_rfl)
end Go.Proofs.YtpaopccohkldlaaGreatDoor
