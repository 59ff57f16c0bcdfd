/- probecard's law TreesKnown answers true for every input, and its arguments read afterwards as before. Conditions: the card's own. -/
import Derived.Test.YtpaopccohkldlaaGreatDoorCards
import Derived.Test.YtpaopccohkldlaaGreatDoorTie
import Derived.WalkKit
import Derived.ProofKit
import Derived.OpenShut
import Derived.Deep.DeepHandedRow
import Derived.Lib.LaidTab
import Derived.Lay
import Derived.Deep.DeepWitnessRowRef
import Derived.Test.YtpaopccohkldlaaGreatDoorBase11
import Derived.Test.YtpaopccohkldlaaGreatDoorSO
set_option linter.all false
namespace Go.Proofs.YtpaopccohkldlaaGreatDoor.LTreesKnown
open Go Go.ChangeShapes Go.WideShapes Go.ChangeAt Go.RowKit
set_option maxRecDepth 100000
theorem own:ownKnob Tryz.prog.godebug = none:=by kernel_rfl
theorem qyo {H:Type}:∀ ds:List (DataW H),ds.length = 0->Rows.treesKnownSpec.fn H ds = { results:=[.lit (.bool true)],args:=ds }
 | [],_=>rfl
theorem qyd (vs:List V) (h:qiz (qln Tryz.prog 20) Tryz.f5.params.toList vs):qac Tryz.prog gl0 5 vs (.bool true):=by
 rw [Tryz.params5] at h;obtain rfl:=qrl h;exact q5f
theorem qfi (H:Type) (enc:TypeId × Value->H) (W:World) (base:Nat) (args:Array Value) (ds gs:List (DataW H)) (before:List MemPlace)
  (hval:∀ (j:Nat) t v,Tryz.f5.params[j]? = some t->args[j]? = some v->Value.okWide Tryz.prog W .any base t v)
  (hW:DataW.Whole enc Tryz.prog Tryz.f5.params.toList Rows.treesKnownSpec.vars false W args.toList ds gs before) (hL:laidMetH Tryz.prog Rows.treesKnownRow.laid W) :
  Calls Tryz.prog 5 args W fun e W'=>∃ v,e = .returned v/\Rows.treesKnownSpec.post enc Tryz.prog Tryz.f5 false true false false W args v W':=
 qnj (gl:=gl0) (by kernel_rfl) (by kernel_rfl) rfl Tryz.underlying4 rfl (by kernel_rfl) (by kernel_rfl) (by kernel_rfl) (by kernel_rfl) qyo qyd hval hW hL
noncomputable abbrev qi1 (os:Os):World:=World.laidAll Tryz.prog os Rows.treesKnownRow.laid
noncomputable def wit:Array Value:=#[]
theorem qxm (os:Os):laidMet Tryz.prog Rows.treesKnownRow.laid ((qi1 os).forCall (fun _ _=>0) ⟨#[],wit,[]⟩).memory:=
 laidMet_laidAll _ (by kernel_rfl) (by kernel_rfl)
theorem qyf (os:Os) {H:Type} (enc:TypeId × Value->H):∃ places,DataW.whole enc Tryz.prog ((qi1 os).forCall (fun _ _=>0) ⟨#[],wit,[]⟩).memory Tryz.f5.params.toList Rows.treesKnownSpec.vars false wit.toList 8 = some ([],[],places):=
 ⟨[],by kernel_rfl⟩
theorem q5h (os:Os) (started:os.Started) (H:Type) (enc:TypeId × Value->H) (F:Stop.Interp) :
  ReturnsInHanded {} Tryz.checked os 5 .any ((OpenSpec.ofChange Rows.treesKnownSpec).preRow enc Tryz.prog Tryz.f5 Rows.treesKnownRow.domain false Rows.treesKnownRow.laid) (((OpenSpec.ofChange Rows.treesKnownSpec).at F).post enc Tryz.prog Tryz.f5 false true false false):=by
 obtain ⟨places,hx⟩:=qyf os enc
 refine returnsInHanded_of_row (C:=Tryz.checked) (s:=(OpenSpec.ofChange Rows.treesKnownSpec)) own started (by kernel_rfl) Tryz.func5
  (witness_row_atRef (enc:=enc) (C:=Tryz.checked) false (qi1 os) wit (World.laidAll_os _ _ _) (by kernel_rfl) (by kernel_rfl) (by kernel_rfl)
   (OpenSpec.preRow_of_cond 8 hx (by kernel_rfl) (fun k hk=>by cases hk) (by kernel_rfl) (qxm os))) ?_
 intro W base args ds gs before hval hW _ _ _ hL _ _;exact qfi H enc W base args ds gs before hval hW hL
noncomputable abbrev P:=Tryz.pinned.checked.prog
abbrev c:=Rows.treesKnownRow
abbrev s:=(OpenSpec.ofChange Rows.treesKnownSpec).bare
theorem wA:(c.wf (OpenSpec.ofChange s) && laidOutB P && mapsRowed P && Tryz.f5.params.all (P.readableRec ·) && namedTie P c.named s.vars && (c.stops == []) && (P.stops == []) && (c.knobs == []) && (P.stopKnobs == []) && (c.inPlace == P.inPlace 5) && (c.unfollowed == P.unfollowed 5) && (c.recurses == P.recurses 5) && (c.named == P.varsNamed 5)) = true:=by kernel_rfl
theorem qy9:joinedFacts P 5 Tryz.f5 s c = true:=by
 unfold joinedFacts;rw [wA];kernel_rfl
theorem nmd:P.funcNamed c.func = some 5:=by kernel_rfl
theorem said:Rows.TreesKnownSaid:=
 OpenClaim.holds_of_cond 5 Tryz.f5 rfl rfl rfl rfl rfl rfl rfl ⟨rfl,rfl,rfl,rfl,rfl⟩ rfl rfl rfl rfl rfl nmd Tryz.func5 qy9
  (jfy (by kernel_rfl)) (by unfold Func.isWrapper; first | (rw [if_pos (by decide +kernel)]; kernel_rfl) | (rw [if_neg (by decide +kernel)]; exact ⟨rfl,rfl⟩))
  (fun os started H enc _ F=>by rw [OpenClaim.pre_eq_preRow]; exact q5h os started H enc F)
theorem plain (f:FuncId) (fn:Func) (hf:Tryz.pinned.checked.prog.funcNamed "probecard/probecardlaw26.TreesKnown" = some f) (hfn:Tryz.pinned.checked.prog.funcs[f]? = some fn) :
  true = Tryz.pinned.checked.prog.looks []/\∀ (j:Nat) t,fn.params[j]? = some t->Tryz.pinned.checked.prog.wantsStandIn t = false:=by
 obtain rfl:f = 5:=Option.some.inj ((show Tryz.prog.funcNamed "probecard/probecardlaw26.TreesKnown" = some 5 by kernel_rfl).symm.trans hf) |>.symm;obtain rfl:fn = Tryz.f5:=(Option.some.inj (Tryz.func5.symm.trans hfn)).symm;refine ⟨by kernel_rfl,fun j t ht=>?_⟩;rw [Tryz.params5] at ht;simp at ht
end Go.Proofs.YtpaopccohkldlaaGreatDoor.LTreesKnown
namespace Go.Proofs.YtpaopccohkldlaaGreatDoor
open Go
theorem treesKnown_card:Rows.TreesKnownCardSaid:=
 Claim7.holds_tied_plain_at .later [] _ _ _ _ LTreesKnown.said (fun _ h=>by cases h) (by kernel_rfl) (fun _ h=>by cases h) treesKnown_row_tie rfl ⟨rfl,rfl⟩ (by kernel_rfl) rfl LTreesKnown.plain (by kernel_rfl)
end Go.Proofs.YtpaopccohkldlaaGreatDoor
