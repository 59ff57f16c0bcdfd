/- probecard's law TreesTrims answers true for every input, and its arguments read afterwards as before. Conditions: the card's own. -/
import Derived.Test.YtpaopccohkldlaaGreatDoorCards
import Derived.Test.YtpaopccohkldlaaGreatDoorTie
import Derived.WalkKit
import Derived.ProofKit
import Derived.OpenShut
import Derived.Deep.DeepHandedRow
import Derived.Lib.LaidTab
import Derived.Lay
import Derived.Deep.DeepWitnessRowRef
import Derived.Test.YtpaopccohkldlaaGreatDoorST
import Derived.Test.YtpaopccohkldlaaGreatDoorSI
set_option linter.all false
namespace Go.Proofs.YtpaopccohkldlaaGreatDoor.LTreesTrims
open Go Go.ChangeShapes Go.WideShapes Go.ChangeAt Go.RowKit
set_option maxRecDepth 100000
theorem own:ownKnob Tryz.prog.godebug = none:=by kernel_rfl
theorem qm9 {H:Type}:∀ ds:List (DataW H),ds.length = 3->Rows.treesTrimsSpec.fn H ds = { results:=[.lit (.bool true)],args:=ds }
 | [_,_,_],_=>rfl
theorem qm3 (vs:List V) (h:qfs (qd7 Tryz.prog 20) Tryz.f3.params.toList vs):qac Tryz.prog gl0 3 vs (.bool true):=by
 rw [Tryz.params3] at h;obtain ⟨a,_,rfl,ha,h⟩:=qav h;obtain ⟨b,_,rfl,hb,h⟩:=qav h;obtain ⟨d,_,rfl,hd,h⟩:=qav h;obtain rfl:=qdt h;obtain ⟨x,rfl,hx⟩:=cx_h ha;obtain ⟨z,rfl,hz⟩:=fx_h hb;obtain ⟨l,rfl,hl⟩:=q88 hd;exact q7h x hx z hz l hl
theorem qeb (H:Type) (enc:TypeId × Value->H) (W:World) (base:Nat) (args:Array Value) (ds gs:List (DataW H)) (before:List MemPlace)
  (hval:∀ (j:Nat) t v,Tryz.f3.params[j]? = some t->args[j]? = some v->Value.okWide Tryz.prog W .any base t v)
  (hW:DataW.Whole enc Tryz.prog Tryz.f3.params.toList Rows.treesTrimsSpec.vars false W args.toList ds gs before) (hL:laidMetH Tryz.prog Rows.treesTrimsRow.laid W) :
  Calls Tryz.prog 3 args W fun e W'=>∃ v,e = .returned v/\Rows.treesTrimsSpec.post enc Tryz.prog Tryz.f3 false true false false W args v W':=
 qig (gl:=gl0) (by kernel_rfl) (by kernel_rfl) rfl Tryz.underlying4 rfl (by kernel_rfl) (by kernel_rfl) (by kernel_rfl) (by kernel_rfl) qm9 qm3 hval hW hL
noncomputable abbrev qd0 (os:Os):World:=World.laidAll Tryz.prog os Rows.treesTrimsRow.laid
noncomputable def wit:Array Value:=#[.agg #[.int .u8 0,.int .u8 0,.int .u8 0,.int .u8 0,.bool false,.bool false,.int .u8 0,.int .u8 0,.int .u8 0,.int .u8 0,.slice none 0 0,.slice none 0 0],.agg #[.int .u8 0,.int .u8 0,.int .u8 0,.int .u8 0,.bool false],.slice none 0 0]
theorem qmt (os:Os):laidMet Tryz.prog Rows.treesTrimsRow.laid ((qd0 os).forCall (fun _ _=>0) ⟨#[],wit,[]⟩).memory:=
 laidMet_laidAll _ (by kernel_rfl) (by kernel_rfl)
theorem qtf (os:Os) {H:Type} (enc:TypeId × Value->H):∃ places,DataW.whole enc Tryz.prog ((qd0 os).forCall (fun _ _=>0) ⟨#[],wit,[]⟩).memory Tryz.f3.params.toList Rows.treesTrimsSpec.vars false wit.toList 8 = some ([.agg [.lit (.int .u8 0),.lit (.int .u8 0),.agg [.lit (.int .u8 0),.lit (.int .u8 0)],.lit (.bool false),.lit (.bool false),.agg [.lit (.int .u8 0),.lit (.int .u8 0),.lit (.int .u8 0),.lit (.int .u8 0)],.nil,.nil],.agg [.lit (.int .u8 0),.lit (.int .u8 0),.lit (.int .u8 0),.lit (.int .u8 0),.lit (.bool false)],.nil],[],places):=
 ⟨[],by kernel_rfl⟩
theorem qvx (os:Os) (started:os.Started) (H:Type) (enc:TypeId × Value->H) (F:Stop.Interp) :
  ReturnsInHanded {} Tryz.checked os 3 .any ((OpenSpec.ofChange Rows.treesTrimsSpec).preRow enc Tryz.prog Tryz.f3 Rows.treesTrimsRow.domain false Rows.treesTrimsRow.laid) (((OpenSpec.ofChange Rows.treesTrimsSpec).at F).post enc Tryz.prog Tryz.f3 false true false false):=by
 obtain ⟨places,hx⟩:=qtf os enc
 refine returnsInHanded_of_row (C:=Tryz.checked) (s:=(OpenSpec.ofChange Rows.treesTrimsSpec)) own started (by kernel_rfl) Tryz.func3
  (witness_row_atRef (enc:=enc) (C:=Tryz.checked) false (qd0 os) wit (World.laidAll_os _ _ _) (by kernel_rfl) (by kernel_rfl) (by kernel_rfl)
   (OpenSpec.preRow_of_cond 8 hx (by kernel_rfl) (fun k hk=>by cases hk) (by kernel_rfl) (qmt os))) ?_
 intro W base args ds gs before hval hW _ _ _ hL _ _;exact qeb H enc W base args ds gs before hval hW hL
noncomputable abbrev P:=Tryz.pinned.checked.prog
abbrev c:=Rows.treesTrimsRow
abbrev s:=(OpenSpec.ofChange Rows.treesTrimsSpec).bare
theorem wA:(c.wf (OpenSpec.ofChange s) && laidOutB P && mapsRowed P && Tryz.f3.params.all (P.readableRec ·) && namedTie P c.named s.vars && (c.stops == []) && (P.stops == []) && (c.knobs == []) && (P.stopKnobs == []) && (c.inPlace == P.inPlace 3) && (c.unfollowed == P.unfollowed 3) && (c.recurses == P.recurses 3) && (c.named == P.varsNamed 3)) = true:=by kernel_rfl
theorem qrl:joinedFacts P 3 Tryz.f3 s c = true:=by
 unfold joinedFacts;rw [wA];kernel_rfl
theorem nmd:P.funcNamed c.func = some 3:=by kernel_rfl
theorem said:Rows.TreesTrimsSaid:=
 OpenClaim.holds_of_cond 3 Tryz.f3 rfl rfl rfl rfl rfl rfl rfl ⟨rfl,rfl,rfl,rfl,rfl⟩ rfl rfl rfl rfl rfl nmd Tryz.func3 qrl
  (jhy (by kernel_rfl)) (by unfold Func.isWrapper; first | (rw [if_pos (by decide +kernel)]; kernel_rfl) | (rw [if_neg (by decide +kernel)]; exact ⟨rfl,rfl⟩))
  (fun os started H enc _ F=>by rw [OpenClaim.pre_eq_preRow]; exact qvx os started H enc F)
theorem plain (f:FuncId) (fn:Func) (hf:Tryz.pinned.checked.prog.funcNamed "probecard/probecardlaw26.TreesTrims" = some f) (hfn:Tryz.pinned.checked.prog.funcs[f]? = some fn) :
  true = Tryz.pinned.checked.prog.looks []/\∀ (j:Nat) t,fn.params[j]? = some t->Tryz.pinned.checked.prog.wantsStandIn t = false:=by
 obtain rfl:f = 3:=Option.some.inj ((show Tryz.prog.funcNamed "probecard/probecardlaw26.TreesTrims" = some 3 by kernel_rfl).symm.trans hf) |>.symm;obtain rfl:fn = Tryz.f3:=(Option.some.inj (Tryz.func3.symm.trans hfn)).symm;refine ⟨by kernel_rfl,fun j t ht=>?_⟩;rw [Tryz.params3] at ht;have hm:=Array.mem_of_getElem? ht;simp only [List.mem_toArray,List.mem_cons,List.not_mem_nil,or_false] at hm;rcases hm with rfl | rfl | rfl
 ·exact (show Tryz.prog.wantsStandIn 27 = false by kernel_rfl)
 ·exact (show Tryz.prog.wantsStandIn 29 = false by kernel_rfl)
 ·exact (show Tryz.prog.wantsStandIn 25 = false by kernel_rfl)
end Go.Proofs.YtpaopccohkldlaaGreatDoor.LTreesTrims
namespace Go.Proofs.YtpaopccohkldlaaGreatDoor
open Go
theorem treesTrims_card:Rows.TreesTrimsCardSaid:=
 Claim7.holds_tied_plain_at .later [] _ _ _ _ LTreesTrims.said (fun _ h=>by cases h) (by kernel_rfl) (fun _ h=>by cases h) treesTrims_row_tie rfl ⟨rfl,rfl⟩ (by kernel_rfl) rfl LTreesTrims.plain (by kernel_rfl)
end Go.Proofs.YtpaopccohkldlaaGreatDoor
