/- probecard's law TreesBlocked answers true for every input, and its arguments read afterwards as before. Conditions: the card's own. -/
import Derived.Test.YtpaopccohkldlaaGreatDoorCards
import Derived.Test.YtpaopccohkldlaaGreatDoorTie
import Derived.WalkKit
import Derived.ProofKit
import Derived.OpenShut
import Derived.Deep.DeepHandedRow
import Derived.Lib.LaidTab
import Derived.Lay
import Derived.Deep.DeepWitnessRowRef
import Derived.Test.YtpaopccohkldlaaGreatDoorST
import Derived.Test.YtpaopccohkldlaaGreatDoorRF
set_option linter.all false
namespace Go.Proofs.YtpaopccohkldlaaGreatDoor.LTreesBlocked
open Go Go.ChangeShapes Go.WideShapes Go.ChangeAt Go.RowKit
set_option maxRecDepth 100000
theorem own:ownKnob Tryz.prog.godebug = none:=by kernel_rfl
theorem q0n {H:Type}:∀ ds:List (DataW H),ds.length = 3->Rows.treesBlockedSpec.fn H ds = { results:=[.lit (.bool true)],args:=ds }
 | [_,_,_],_=>rfl
theorem q0c (vs:List V) (h:qga (qe1 Tryz.prog 20) Tryz.f6.params.toList vs):qad Tryz.prog gl0 6 vs (.bool true):=by
 rw [Tryz.params6] at h;obtain ⟨a,_,rfl,ha,h⟩:=qa2 h;obtain ⟨b,_,rfl,hb,h⟩:=qa2 h;obtain ⟨d,_,rfl,hd,h⟩:=qa2 h;obtain rfl:=qem h;obtain ⟨x,rfl,hx⟩:=cx_h ha;obtain ⟨z,rfl,hz⟩:=fx_h hb;obtain ⟨p,rfl,-,-⟩:=pt_h hd;exact q77 x hx z hz p
theorem qfz (H:Type) (enc:TypeId × Value->H) (W:World) (base:Nat) (args:Array Value) (ds gs:List (DataW H)) (before:List MemPlace)
  (hval:∀ (j:Nat) t v,Tryz.f6.params[j]? = some t->args[j]? = some v->Value.okWide Tryz.prog W .any base t v)
  (hW:DataW.Whole enc Tryz.prog Tryz.f6.params.toList Rows.treesBlockedSpec.vars false W args.toList ds gs before) (hL:laidMetH Tryz.prog Rows.treesBlockedRow.laid W) :
  Calls Tryz.prog 6 args W fun e W'=>∃ v,e = .returned v/\Rows.treesBlockedSpec.post enc Tryz.prog Tryz.f6 false true false false W args v W':=
 qos (gl:=gl0) (by kernel_rfl) (by kernel_rfl) rfl Tryz.underlying4 rfl (by kernel_rfl) (by kernel_rfl) (by kernel_rfl) (by kernel_rfl) q0n q0c hval hW hL
noncomputable abbrev qj1 (os:Os):World:=World.laidAll Tryz.prog os Rows.treesBlockedRow.laid
noncomputable def wit:Array Value:=#[.agg #[.int .u8 0,.int .u8 0,.int .u8 0,.int .u8 0,.bool false,.bool false,.int .u8 0,.int .u8 0,.int .u8 0,.int .u8 0,.slice none 0 0,.slice none 0 0],.agg #[.int .u8 0,.int .u8 0,.int .u8 0,.int .u8 0,.bool false],.agg #[.slice none 0 0,.slice none 0 0]]
theorem qzl (os:Os):laidMet Tryz.prog Rows.treesBlockedRow.laid ((qj1 os).forCall (fun _ _=>0) ⟨#[],wit,[]⟩).memory:=
 laidMet_laidAll _ (by kernel_rfl) (by kernel_rfl)
theorem q0e (os:Os) {H:Type} (enc:TypeId × Value->H):∃ places,DataW.whole enc Tryz.prog ((qj1 os).forCall (fun _ _=>0) ⟨#[],wit,[]⟩).memory Tryz.f6.params.toList Rows.treesBlockedSpec.vars false wit.toList 8 = some ([.agg [.lit (.int .u8 0),.lit (.int .u8 0),.agg [.lit (.int .u8 0),.lit (.int .u8 0)],.lit (.bool false),.lit (.bool false),.agg [.lit (.int .u8 0),.lit (.int .u8 0),.lit (.int .u8 0),.lit (.int .u8 0)],.nil,.nil],.agg [.lit (.int .u8 0),.lit (.int .u8 0),.lit (.int .u8 0),.lit (.int .u8 0),.lit (.bool false)],.agg [.nil,.nil]],[],places):=
 ⟨[],by kernel_rfl⟩
theorem q8g (os:Os) (started:os.Started) (H:Type) (enc:TypeId × Value->H) (F:Stop.Interp) :
  ReturnsInHanded {} Tryz.checked os 6 .any ((OpenSpec.ofChange Rows.treesBlockedSpec).preRow enc Tryz.prog Tryz.f6 Rows.treesBlockedRow.domain false Rows.treesBlockedRow.laid) (((OpenSpec.ofChange Rows.treesBlockedSpec).at F).post enc Tryz.prog Tryz.f6 false true false false):=by
 obtain ⟨places,hx⟩:=q0e os enc
 refine returnsInHanded_of_row (C:=Tryz.checked) (s:=(OpenSpec.ofChange Rows.treesBlockedSpec)) own started (by kernel_rfl) Tryz.func6
  (witness_row_atRef (enc:=enc) (C:=Tryz.checked) false (qj1 os) wit (World.laidAll_os _ _ _) (by kernel_rfl) (by kernel_rfl) (by kernel_rfl)
   (OpenSpec.preRow_of_cond 8 hx (by kernel_rfl) (fun k hk=>by cases hk) (by kernel_rfl) (qzl os))) ?_
 intro W base args ds gs before hval hW _ _ _ hL _ _;exact qfz H enc W base args ds gs before hval hW hL
noncomputable abbrev P:=Tryz.pinned.checked.prog
abbrev c:=Rows.treesBlockedRow
abbrev s:=(OpenSpec.ofChange Rows.treesBlockedSpec).bare
theorem wA:(c.wf (OpenSpec.ofChange s) && laidOutB P && mapsRowed P && Tryz.f6.params.all (P.readableRec ·) && namedTie P c.named s.vars && (c.stops == []) && (P.stops == []) && (c.knobs == []) && (P.stopKnobs == []) && (c.inPlace == P.inPlace 6) && (c.unfollowed == P.unfollowed 6) && (c.recurses == P.recurses 6) && (c.named == P.varsNamed 6)) = true:=by kernel_rfl
theorem q1c:joinedFacts P 6 Tryz.f6 s c = true:=by
 unfold joinedFacts;rw [wA];kernel_rfl
theorem nmd:P.funcNamed c.func = some 6:=by kernel_rfl
theorem said:Rows.TreesBlockedSaid:=
 OpenClaim.holds_of_cond 6 Tryz.f6 rfl rfl rfl rfl rfl rfl rfl ⟨rfl,rfl,rfl,rfl,rfl⟩ rfl rfl rfl rfl rfl nmd Tryz.func6 q1c
  (ji8 (by kernel_rfl)) (by unfold Func.isWrapper; first | (rw [if_pos (by decide +kernel)]; kernel_rfl) | (rw [if_neg (by decide +kernel)]; exact ⟨rfl,rfl⟩))
  (fun os started H enc _ F=>by rw [OpenClaim.pre_eq_preRow]; exact q8g os started H enc F)
theorem plain (f:FuncId) (fn:Func) (hf:Tryz.pinned.checked.prog.funcNamed "probecard/probecardlaw26.TreesBlocked" = some f) (hfn:Tryz.pinned.checked.prog.funcs[f]? = some fn) :
  true = Tryz.pinned.checked.prog.looks []/\∀ (j:Nat) t,fn.params[j]? = some t->Tryz.pinned.checked.prog.wantsStandIn t = false:=by
 obtain rfl:f = 6:=Option.some.inj ((show Tryz.prog.funcNamed "probecard/probecardlaw26.TreesBlocked" = some 6 by kernel_rfl).symm.trans hf) |>.symm;obtain rfl:fn = Tryz.f6:=(Option.some.inj (Tryz.func6.symm.trans hfn)).symm;refine ⟨by kernel_rfl,fun j t ht=>?_⟩;rw [Tryz.params6] at ht;have hm:=Array.mem_of_getElem? ht;simp only [List.mem_toArray,List.mem_cons,List.not_mem_nil,or_false] at hm;rcases hm with rfl | rfl | rfl
 ·exact (show Tryz.prog.wantsStandIn 27 = false by kernel_rfl)
 ·exact (show Tryz.prog.wantsStandIn 29 = false by kernel_rfl)
 ·exact (show Tryz.prog.wantsStandIn 69 = false by kernel_rfl)
end Go.Proofs.YtpaopccohkldlaaGreatDoor.LTreesBlocked
namespace Go.Proofs.YtpaopccohkldlaaGreatDoor
open Go
theorem treesBlocked_card:Rows.TreesBlockedCardSaid:=
 Claim7.holds_tied_plain_at .later [] _ _ _ _ LTreesBlocked.said (fun _ h=>by cases h) (by kernel_rfl) (fun _ h=>by cases h) treesBlocked_row_tie rfl ⟨rfl,rfl⟩ (by kernel_rfl) rfl LTreesBlocked.plain (by kernel_rfl)
end Go.Proofs.YtpaopccohkldlaaGreatDoor
