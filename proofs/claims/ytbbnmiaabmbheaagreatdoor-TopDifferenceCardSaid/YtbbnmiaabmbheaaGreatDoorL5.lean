/- probecard's law TopDifference answers true for every input, and its arguments read afterwards as before. Conditions: the card's own. -/
import Derived.Test.YtbbnmiaabmbheaaGreatDoorCards
import Derived.Test.YtbbnmiaabmbheaaGreatDoorTie
import Derived.WalkKit
import Derived.ProofKit
import Derived.OpenShut
import Derived.Deep.DeepHandedRow
import Derived.Lib.LaidTab
import Derived.Lay
import Derived.Deep.DeepWitnessRowRef
import Derived.Test.YtbbnmiaabmbheaaGreatDoorST
import Derived.Test.YtbbnmiaabmbheaaGreatDoorD2
set_option linter.all false
namespace Go.Proofs.YtbbnmiaabmbheaaGreatDoor.LTopDifference
open Go Go.ChangeShapes Go.WideShapes Go.ChangeAt Go.RowKit
set_option maxRecDepth 100000
theorem own:ownKnob Tryz.prog.godebug = none:=by kernel_rfl
theorem qzo {H:Type}:∀ ds:List (DataW H),ds.length = 3->Rows.topDifferenceSpec.fn H ds = { results:=[.lit (.bool true)],args:=ds }
 | [_,_,_],_=>rfl
theorem qzc (vs:List V) (h:qfv (qeu Tryz.prog 20) Tryz.f5.params.toList vs):qac Tryz.prog gl0 5 vs (.bool true):=by
 rw [Tryz.params5] at h;obtain ⟨a,_,rfl,ha,h⟩:=qa5 h;obtain ⟨b,_,rfl,hb,h⟩:=qa5 h;obtain ⟨d,_,rfl,hd,h⟩:=qa5 h;obtain rfl:=qf8 h;obtain ⟨x,rfl,hx⟩:=cx_h ha;obtain ⟨p,rfl,-,-⟩:=pt_h hb;obtain ⟨qs,rfl,hl,hq⟩:=qf9 Tryz.underlying22 hd;obtain ⟨qs,rfl,hq2⟩:=qtp hq
 match qs,hl,hq2 with
 | [z0,z1],_,hq2=>exact qyh x hx p z0 z1 (hq2 z0 (by simp)) (hq2 z1 (by simp))
theorem qf7 (H:Type) (enc:TypeId × Value->H) (W:World) (base:Nat) (args:Array Value) (ds gs:List (DataW H)) (before:List MemPlace)
  (hval:∀ (j:Nat) t v,Tryz.f5.params[j]? = some t->args[j]? = some v->Value.okWide Tryz.prog W .any base t v)
  (hW:DataW.Whole enc Tryz.prog Tryz.f5.params.toList Rows.topDifferenceSpec.vars false W args.toList ds gs before) (hL:laidMetH Tryz.prog Rows.topDifferenceRow.laid W) :
  Calls Tryz.prog 5 args W fun e W'=>∃ v,e = .returned v/\Rows.topDifferenceSpec.post enc Tryz.prog Tryz.f5 false true false false W args v W':=
 qof (gl:=gl0) (by kernel_rfl) (by kernel_rfl) rfl Tryz.underlying4 rfl (by kernel_rfl) (by kernel_rfl) (by kernel_rfl) (by kernel_rfl) qzo qzc hval hW hL
noncomputable abbrev qj8 (os:Os):World:=World.laidAll Tryz.prog os Rows.topDifferenceRow.laid
noncomputable def wit:Array Value:=#[.agg #[.int .u8 0,.int .u8 0,.int .u8 0,.int .u8 0,.bool false,.bool false,.int .u8 0,.int .u8 0,.int .u8 0,.int .u8 0,.slice none 0 0,.slice none 0 0],.agg #[.slice none 0 0,.slice none 0 0],.agg #[.int .u8 0,.int .u8 0]]
theorem qyg (os:Os):laidMet Tryz.prog Rows.topDifferenceRow.laid ((qj8 os).forCall (fun _ _=>0) ⟨#[],wit,[]⟩).memory:=
 laidMet_laidAll _ (by kernel_rfl) (by kernel_rfl)
theorem q3e (os:Os) {H:Type} (enc:TypeId × Value->H):∃ places,DataW.whole enc Tryz.prog ((qj8 os).forCall (fun _ _=>0) ⟨#[],wit,[]⟩).memory Tryz.f5.params.toList Rows.topDifferenceSpec.vars false wit.toList 8 = some ([.agg [.lit (.int .u8 0),.lit (.int .u8 0),.agg [.lit (.int .u8 0),.lit (.int .u8 0)],.lit (.bool false),.lit (.bool false),.agg [.lit (.int .u8 0),.lit (.int .u8 0),.lit (.int .u8 0),.lit (.int .u8 0)],.nil,.nil],.agg [.nil,.nil],.agg [.lit (.int .u8 0),.lit (.int .u8 0)]],[],places):=
 ⟨[],by kernel_rfl⟩
theorem q6g (os:Os) (started:os.Started) (H:Type) (enc:TypeId × Value->H) (F:Stop.Interp) :
  ReturnsInHanded {} Tryz.checked os 5 .any ((OpenSpec.ofChange Rows.topDifferenceSpec).preRow enc Tryz.prog Tryz.f5 Rows.topDifferenceRow.domain false Rows.topDifferenceRow.laid) (((OpenSpec.ofChange Rows.topDifferenceSpec).at F).post enc Tryz.prog Tryz.f5 false true false false):=by
 obtain ⟨places,hx⟩:=q3e os enc
 refine returnsInHanded_of_row (C:=Tryz.checked) (s:=(OpenSpec.ofChange Rows.topDifferenceSpec)) own started (by kernel_rfl) Tryz.func5
  (witness_row_atRef (enc:=enc) (C:=Tryz.checked) false (qj8 os) wit (World.laidAll_os _ _ _) (by kernel_rfl) (by kernel_rfl) (by kernel_rfl)
   (OpenSpec.preRow_of_cond 8 hx (by kernel_rfl) (fun k hk=>by cases hk) (by kernel_rfl) (qyg os))) ?_
 intro W base args ds gs before hval hW _ _ _ hL _ _;exact qf7 H enc W base args ds gs before hval hW hL
noncomputable abbrev P:=Tryz.pinned.checked.prog
abbrev c:=Rows.topDifferenceRow
abbrev s:=(OpenSpec.ofChange Rows.topDifferenceSpec).bare
theorem wA:(c.wf (OpenSpec.ofChange s) && laidOutB P && mapsRowed P && Tryz.f5.params.all (P.readableRec ·) && namedTie P c.named s.vars && (c.stops == []) && (P.stops == []) && (c.knobs == []) && (P.stopKnobs == []) && (c.inPlace == P.inPlace 5) && (c.unfollowed == P.unfollowed 5) && (c.recurses == P.recurses 5) && (c.named == P.varsNamed 5)) = true:=by kernel_rfl
theorem closed:joinedFacts P 5 Tryz.f5 s c = true:=by
 unfold joinedFacts;rw [wA];kernel_rfl
theorem nmd:P.funcNamed c.func = some 5:=by kernel_rfl
theorem said:Rows.TopDifferenceSaid:=
 OpenClaim.holds_of_cond 5 Tryz.f5 rfl rfl rfl rfl rfl rfl rfl ⟨rfl,rfl,rfl,rfl,rfl⟩ rfl rfl rfl rfl rfl nmd Tryz.func5 closed
  (jkb (by kernel_rfl)) (by unfold Func.isWrapper; first | (rw [if_pos (by decide +kernel)]; kernel_rfl) | (rw [if_neg (by decide +kernel)]; exact ⟨rfl,rfl⟩))
  (fun os started H enc _ F=>by rw [OpenClaim.pre_eq_preRow]; exact q6g os started H enc F)
theorem plain (f:FuncId) (fn:Func) (hf:Tryz.pinned.checked.prog.funcNamed "probecard/probecardtop.TopDifference" = some f) (hfn:Tryz.pinned.checked.prog.funcs[f]? = some fn) :
  true = Tryz.pinned.checked.prog.looks []/\∀ (j:Nat) t,fn.params[j]? = some t->Tryz.pinned.checked.prog.wantsStandIn t = false:=by
 obtain rfl:f = 5:=Option.some.inj ((show Tryz.prog.funcNamed "probecard/probecardtop.TopDifference" = some 5 by kernel_rfl).symm.trans hf) |>.symm;obtain rfl:fn = Tryz.f5:=(Option.some.inj (Tryz.func5.symm.trans hfn)).symm;refine ⟨by kernel_rfl,fun j t ht=>?_⟩;rw [Tryz.params5] at ht;have hm:=Array.mem_of_getElem? ht;simp only [List.mem_toArray,List.mem_cons,List.not_mem_nil,or_false] at hm;rcases hm with rfl | rfl | rfl
 ·exact (show Tryz.prog.wantsStandIn 27 = false by kernel_rfl)
 ·exact (show Tryz.prog.wantsStandIn 97 = false by kernel_rfl)
 ·exact (show Tryz.prog.wantsStandIn 22 = false by kernel_rfl)
end Go.Proofs.YtbbnmiaabmbheaaGreatDoor.LTopDifference
namespace Go.Proofs.YtbbnmiaabmbheaaGreatDoor
open Go
theorem topDifference_card:Rows.TopDifferenceCardSaid:=
 Claim7.holds_tied_plain_at .later [] _ _ _ _ LTopDifference.said (fun _ h=>by cases h) (by kernel_rfl) (fun _ h=>by cases h) topDifference_row_tie rfl ⟨rfl,rfl⟩ (by kernel_rfl) rfl LTopDifference.plain (by kernel_rfl)
end Go.Proofs.YtbbnmiaabmbheaaGreatDoor
