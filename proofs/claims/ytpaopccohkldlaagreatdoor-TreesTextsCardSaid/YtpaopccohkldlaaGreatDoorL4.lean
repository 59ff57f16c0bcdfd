/- probecard's law TreesTexts answers true for every input, and its arguments read afterwards as before. Conditions: the card's own. -/
import Derived.Test.YtpaopccohkldlaaGreatDoorCards
import Derived.Test.YtpaopccohkldlaaGreatDoorTie
import Derived.WalkKit
import Derived.ProofKit
import Derived.OpenShut
import Derived.Deep.DeepHandedRow
import Derived.Lib.LaidTab
import Derived.Lay
import Derived.Deep.DeepWitnessRowRef
import Derived.Test.YtpaopccohkldlaaGreatDoorSW
import Derived.Test.YtpaopccohkldlaaGreatDoorSL
set_option linter.all false
namespace Go.Proofs.YtpaopccohkldlaaGreatDoor.LTreesTexts
open Go Go.ChangeShapes Go.WideShapes Go.ChangeAt Go.RowKit
set_option maxRecDepth 100000
theorem own:ownKnob Tryz.prog.godebug = none:=by kernel_rfl
theorem qm9 {H:Type}:∀ ds:List (DataW H),ds.length = 3->Rows.treesTextsSpec.fn H ds = { results:=[.lit (.bool true)],args:=ds }
 | [_,_,_],_=>rfl
theorem qm3 (vs:List V) (h:qfs (qd7 Tryz.prog 20) Tryz.f4.params.toList vs):qac Tryz.prog gl0 4 vs (.bool true):=by
 rw [Tryz.params4] at h;obtain ⟨a,_,rfl,ha,h⟩:=qav h;obtain ⟨b,_,rfl,hb,h⟩:=qav h;obtain ⟨d,_,rfl,hd,h⟩:=qav h;obtain rfl:=qdt h;obtain ⟨l,rfl,hl⟩:=q88 ha;obtain ⟨s,rfl⟩:=jfj hb;obtain ⟨t,rfl⟩:=jfm hd;exact q7i l hl s t
theorem qeb (H:Type) (enc:TypeId × Value->H) (W:World) (base:Nat) (args:Array Value) (ds gs:List (DataW H)) (before:List MemPlace)
  (hval:∀ (j:Nat) t v,Tryz.f4.params[j]? = some t->args[j]? = some v->Value.okWide Tryz.prog W .any base t v)
  (hW:DataW.Whole enc Tryz.prog Tryz.f4.params.toList Rows.treesTextsSpec.vars false W args.toList ds gs before) (hL:laidMetH Tryz.prog Rows.treesTextsRow.laid W) :
  Calls Tryz.prog 4 args W fun e W'=>∃ v,e = .returned v/\Rows.treesTextsSpec.post enc Tryz.prog Tryz.f4 false true false false W args v W':=
 qig (gl:=gl0) (by kernel_rfl) (by kernel_rfl) rfl Tryz.underlying4 rfl (by kernel_rfl) (by kernel_rfl) (by kernel_rfl) (by kernel_rfl) qm9 qm3 hval hW hL
noncomputable abbrev qd0 (os:Os):World:=World.laidAll Tryz.prog os Rows.treesTextsRow.laid
noncomputable def wit:Array Value:=#[.slice none 0 0,.string ByteArray.empty,.slice none 0 0]
theorem qmt (os:Os):laidMet Tryz.prog Rows.treesTextsRow.laid ((qd0 os).forCall (fun _ _=>0) ⟨#[],wit,[]⟩).memory:=
 laidMet_laidAll _ (by kernel_rfl) (by kernel_rfl)
theorem qtf (os:Os) {H:Type} (enc:TypeId × Value->H):∃ places,DataW.whole enc Tryz.prog ((qd0 os).forCall (fun _ _=>0) ⟨#[],wit,[]⟩).memory Tryz.f4.params.toList Rows.treesTextsSpec.vars false wit.toList 8 = some ([.nil,.lit (.string []),.nil],[],places):=
 ⟨[],by kernel_rfl⟩
theorem qvx (os:Os) (started:os.Started) (H:Type) (enc:TypeId × Value->H) (F:Stop.Interp) :
  ReturnsInHanded {} Tryz.checked os 4 .any ((OpenSpec.ofChange Rows.treesTextsSpec).preRow enc Tryz.prog Tryz.f4 Rows.treesTextsRow.domain false Rows.treesTextsRow.laid) (((OpenSpec.ofChange Rows.treesTextsSpec).at F).post enc Tryz.prog Tryz.f4 false true false false):=by
 obtain ⟨places,hx⟩:=qtf os enc
 refine returnsInHanded_of_row (C:=Tryz.checked) (s:=(OpenSpec.ofChange Rows.treesTextsSpec)) own started (by kernel_rfl) Tryz.func4
  (witness_row_atRef (enc:=enc) (C:=Tryz.checked) false (qd0 os) wit (World.laidAll_os _ _ _) (by kernel_rfl) (by kernel_rfl) (by kernel_rfl)
   (OpenSpec.preRow_of_cond 8 hx (by kernel_rfl) (fun k hk=>by cases hk) (by kernel_rfl) (qmt os))) ?_
 intro W base args ds gs before hval hW _ _ _ hL _ _;exact qeb H enc W base args ds gs before hval hW hL
noncomputable abbrev P:=Tryz.pinned.checked.prog
abbrev c:=Rows.treesTextsRow
abbrev s:=(OpenSpec.ofChange Rows.treesTextsSpec).bare
theorem wA:(c.wf (OpenSpec.ofChange s) && laidOutB P && mapsRowed P && Tryz.f4.params.all (P.readableRec ·) && namedTie P c.named s.vars && (c.stops == []) && (P.stops == []) && (c.knobs == []) && (P.stopKnobs == []) && (c.inPlace == P.inPlace 4) && (c.unfollowed == P.unfollowed 4) && (c.recurses == P.recurses 4) && (c.named == P.varsNamed 4)) = true:=by kernel_rfl
theorem qrl:joinedFacts P 4 Tryz.f4 s c = true:=by
 unfold joinedFacts;rw [wA];kernel_rfl
theorem nmd:P.funcNamed c.func = some 4:=by kernel_rfl
theorem said:Rows.TreesTextsSaid:=
 OpenClaim.holds_of_cond 4 Tryz.f4 rfl rfl rfl rfl rfl rfl rfl ⟨rfl,rfl,rfl,rfl,rfl⟩ rfl rfl rfl rfl rfl nmd Tryz.func4 qrl
  (jhy (by kernel_rfl)) (by unfold Func.isWrapper; first | (rw [if_pos (by decide +kernel)]; kernel_rfl) | (rw [if_neg (by decide +kernel)]; exact ⟨rfl,rfl⟩))
  (fun os started H enc _ F=>by rw [OpenClaim.pre_eq_preRow]; exact qvx os started H enc F)
theorem plain (f:FuncId) (fn:Func) (hf:Tryz.pinned.checked.prog.funcNamed "probecard/probecardlaw26.TreesTexts" = some f) (hfn:Tryz.pinned.checked.prog.funcs[f]? = some fn) :
  true = Tryz.pinned.checked.prog.looks []/\∀ (j:Nat) t,fn.params[j]? = some t->Tryz.pinned.checked.prog.wantsStandIn t = false:=by
 obtain rfl:f = 4:=Option.some.inj ((show Tryz.prog.funcNamed "probecard/probecardlaw26.TreesTexts" = some 4 by kernel_rfl).symm.trans hf) |>.symm;obtain rfl:fn = Tryz.f4:=(Option.some.inj (Tryz.func4.symm.trans hfn)).symm;refine ⟨by kernel_rfl,fun j t ht=>?_⟩;rw [Tryz.params4] at ht;have hm:=Array.mem_of_getElem? ht;simp only [List.mem_toArray,List.mem_cons,List.not_mem_nil,or_false] at hm;rcases hm with rfl | rfl | rfl
 ·exact (show Tryz.prog.wantsStandIn 25 = false by kernel_rfl)
 ·exact (show Tryz.prog.wantsStandIn 9 = false by kernel_rfl)
 ·exact (show Tryz.prog.wantsStandIn 46 = false by kernel_rfl)
end Go.Proofs.YtpaopccohkldlaaGreatDoor.LTreesTexts
namespace Go.Proofs.YtpaopccohkldlaaGreatDoor
open Go
theorem treesTexts_card:Rows.TreesTextsCardSaid:=
 Claim7.holds_tied_plain_at .later [] _ _ _ _ LTreesTexts.said (fun _ h=>by cases h) (by kernel_rfl) (fun _ h=>by cases h) treesTexts_row_tie rfl ⟨rfl,rfl⟩ (by kernel_rfl) rfl LTreesTexts.plain (by kernel_rfl)
end Go.Proofs.YtpaopccohkldlaaGreatDoor
