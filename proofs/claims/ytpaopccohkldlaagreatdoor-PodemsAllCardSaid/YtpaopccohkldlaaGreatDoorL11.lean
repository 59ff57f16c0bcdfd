/- probecard's law PodemsAll answers true for every input, and its arguments read afterwards as before. Conditions: the card's own. -/
import Derived.Test.YtpaopccohkldlaaGreatDoorCards
import Derived.Test.YtpaopccohkldlaaGreatDoorTie
import Derived.WalkKit
import Derived.ProofKit
import Derived.OpenShut
import Derived.Deep.DeepHandedRow
import Derived.Lib.LaidTab
import Derived.Test.YtpaopccohkldlaaGreatDoorST
import Derived.Test.YtpaopccohkldlaaGreatDoorWG
set_option linter.unusedSimpArgs false
set_option linter.unusedVariables false
namespace Go.Proofs.YtpaopccohkldlaaGreatDoor.LPodemsAll
open Go Go.ChangeShapes Go.WideShapes Go.ChangeAt Go.RowKit
set_option maxRecDepth 100000
theorem own:ownKnob Tryz.prog.godebug = none:=by kernel_rfl
theorem q4j {H:Type}:∀ ds:List (DataW H),ds.length = 3->Rows.podemsAllSpec.fn H ds = { results:=[.lit (.bool true)],args:=ds }
 | [_,_,_],_=>rfl
theorem q1x (vs:List V) (h:qgw (qfs Tryz.prog 20) Tryz.f11.params.toList vs):qac Tryz.prog gl0 11 vs (.bool true):=by
 rw [Tryz.params11] at h;obtain ⟨a,_,rfl,ha,h⟩:=qa5 h;obtain ⟨b,_,rfl,hb,h⟩:=qa5 h;obtain ⟨d,_,rfl,hd,h⟩:=qa5 h;obtain rfl:=qgl h;obtain ⟨x,rfl,hx⟩:=cx_h ha;obtain ⟨l,rfl,hl⟩:=ji3 hb;obtain ⟨m,rfl,hm⟩:=q2j hd;exact q76 x hx l hl m hm
theorem qfj (H:Type) (enc:TypeId × Value->H) (W:World) (base:Nat) (args:Array Value) (ds gs:List (DataW H)) (before:List MemPlace)
  (hval:∀ (j:Nat) t v,Tryz.f11.params[j]? = some t->args[j]? = some v->Value.okWide Tryz.prog W .any base t v)
  (hW:DataW.Whole enc Tryz.prog Tryz.f11.params.toList Rows.podemsAllSpec.vars false W args.toList ds gs before) (hL:laidMetH Tryz.prog Rows.podemsAllRow.laid W) :
  Calls Tryz.prog 11 args W fun e W'=>∃ v,e = .returned v/\Rows.podemsAllSpec.post enc Tryz.prog Tryz.f11 false true false false W args v W':=
 qp9 (gl:=gl0) (by kernel_rfl) (by kernel_rfl) rfl Tryz.underlying4 rfl (by kernel_rfl) (by kernel_rfl) (by kernel_rfl) (by kernel_rfl) q4j q1x hval hW hL
noncomputable def qlk (os:Os):World:=
 { World.holding Tryz.prog os ⟨#[],#[],[]⟩ with heap:=(((((World.holding Tryz.prog os ⟨#[],#[],[]⟩).heap.modify 0 fun
   | .cells _ t frozen=>.cells (([-1,0,0].map (Value.int .i64)).toArray) t frozen
   | o=>o).modify 1 fun
   | .cells _ t frozen=>.cells (([0,0,0,0,0,0,1,1,1,1,2,16,2,16,2,16,2,16,2,16,2,16,3,3,2,2,1,16,1,1,0,0].map (Value.int .i64)).toArray) t frozen
   | o=>o).modify 3 fun
   | .cells _ t frozen=>.cells (([1073741824,1073741824].map (Value.int .i64)).toArray) t frozen
   | o=>o).modify 4 fun
   | .cells _ t frozen=>.cells (([1,1].map (Value.int .i64)).toArray) t frozen
   | o=>o) }
noncomputable def wit:Array Value:=#[.agg #[.int .u8 0,.int .u8 0,.int .u8 0,.int .u8 0,.bool false,.bool false,.int .u8 0,.int .u8 0,.int .u8 0,.int .u8 0,.slice none 0 0,.slice none 0 0],.slice none 0 0,.int .u8 0]
theorem q4g (os:Os):laidMet Tryz.prog Rows.podemsAllRow.laid ((qlk os).forCall (fun _ _=>0) ⟨#[],wit,[]⟩).memory:=
 laidMet_of_run' 8 (by kernel_rfl) (by kernel_rfl)
theorem q3w (os:Os) {H:Type} (enc:TypeId × Value->H):∃ places,DataW.whole enc Tryz.prog ((qlk os).forCall (fun _ _=>0) ⟨#[],wit,[]⟩).memory Tryz.f11.params.toList Rows.podemsAllSpec.vars false wit.toList 8 = some ([.agg [.lit (.int .u8 0),.lit (.int .u8 0),.agg [.lit (.int .u8 0),.lit (.int .u8 0)],.lit (.bool false),.lit (.bool false),.agg [.lit (.int .u8 0),.lit (.int .u8 0),.lit (.int .u8 0),.lit (.int .u8 0)],.nil,.nil],.nil,.lit (.int .u8 0)],[],places):=
 ⟨[],by kernel_rfl⟩
theorem jek (os:Os) (started:os.Started) (H:Type) (enc:TypeId × Value->H) (F:Stop.Interp) :
  ReturnsInHanded {} Tryz.checked os 11 .any ((OpenSpec.ofChange Rows.podemsAllSpec).preRow enc Tryz.prog Tryz.f11 Rows.podemsAllRow.domain false Rows.podemsAllRow.laid) (((OpenSpec.ofChange Rows.podemsAllSpec).at F).post enc Tryz.prog Tryz.f11 false true false false):=by
 obtain ⟨places,hx⟩:=q3w os enc
 refine returnsInHanded_of_row (C:=Tryz.checked) (s:=(OpenSpec.ofChange Rows.podemsAllSpec)) own started (by kernel_rfl) Tryz.func11
  (witness_row_at (enc:=enc) (C:=Tryz.checked) false (qlk os) wit rfl (by kernel_rfl) (by kernel_rfl) (by kernel_rfl)
   (OpenSpec.preRow_of_cond 8 hx (by kernel_rfl) (fun k hk=>by cases hk) (by kernel_rfl) (q4g os))) ?_
 intro W base args ds gs before hval hW _ _ _ hL _ _;exact qfj H enc W base args ds gs before hval hW hL
noncomputable abbrev P:=Tryz.pinned.checked.prog
abbrev c:=Rows.podemsAllRow
abbrev s:=(OpenSpec.ofChange Rows.podemsAllSpec).bare
theorem wA:(c.wf (OpenSpec.ofChange s)&&laidOutB P&&mapsRowed P&&Tryz.f11.params.all (P.readableRec ·)&&namedTie P c.named s.vars&&(c.stops==[])&&(P.stops==[])&&(c.knobs==[])&&(P.stopKnobs==[])&&(c.inPlace==P.inPlace 11)&&(c.unfollowed==P.unfollowed 11)&&(c.recurses==P.recurses 11)&&(c.named==P.varsNamed 11)) = true:=by kernel_rfl
theorem closed:joinedFacts P 11 Tryz.f11 s c = true:=by unfold joinedFacts;rw [wA];kernel_rfl
theorem nmd:P.funcNamed c.func = some 11:=by kernel_rfl
theorem said:Rows.PodemsAllSaid:=
 OpenClaim.holds_of_cond 11 Tryz.f11 rfl rfl rfl rfl rfl rfl rfl ⟨rfl,rfl,rfl,rfl,rfl⟩ rfl rfl rfl rfl rfl nmd Tryz.func11 closed
  (jpp (by kernel_rfl)) (by unfold Func.isWrapper; first | (rw [if_pos (by decide +kernel)]; kernel_rfl) | (rw [if_neg (by decide +kernel)]; exact ⟨rfl,rfl⟩))
  (fun os started H enc _ F=>by rw [OpenClaim.pre_eq_preRow]; exact jek os started H enc F)
theorem plain (f:FuncId) (fn:Func) (hf:Tryz.pinned.checked.prog.funcNamed "probecard/probecardlaw27.PodemsAll" = some f) (hfn:Tryz.pinned.checked.prog.funcs[f]? = some fn) :
  true = Tryz.pinned.checked.prog.looks []/\∀ (j:Nat) t,fn.params[j]? = some t->Tryz.pinned.checked.prog.wantsStandIn t = false:=by
 obtain rfl:f = 11:=Option.some.inj ((show Tryz.prog.funcNamed "probecard/probecardlaw27.PodemsAll" = some 11 by kernel_rfl).symm.trans hf) |>.symm;obtain rfl:fn = Tryz.f11:=(Option.some.inj (Tryz.func11.symm.trans hfn)).symm;refine ⟨by kernel_rfl,fun j t ht=>?_⟩;rw [Tryz.params11] at ht;have hm:=Array.mem_of_getElem? ht;simp only [List.mem_toArray,List.mem_cons,List.not_mem_nil,or_false] at hm;rcases hm with rfl | rfl | rfl
 ·exact (show Tryz.prog.wantsStandIn 27 = false by kernel_rfl)
 ·exact (show Tryz.prog.wantsStandIn 109 = false by kernel_rfl)
 ·exact (show Tryz.prog.wantsStandIn 5 = false by kernel_rfl)
end Go.Proofs.YtpaopccohkldlaaGreatDoor.LPodemsAll
namespace Go.Proofs.YtpaopccohkldlaaGreatDoor
open Go
theorem podemsAll_card:Rows.PodemsAllCardSaid:=
 Claim7.holds_tied_plain_at .later [] _ _ _ _ LPodemsAll.said (fun _ h=>by cases h) (by kernel_rfl) (fun _ h=>by cases h) podemsAll_row_tie rfl ⟨rfl,rfl⟩ (by kernel_rfl) rfl LPodemsAll.plain (by kernel_rfl)
end Go.Proofs.YtpaopccohkldlaaGreatDoor
