/- probecard's law TreesErrors answers true for every input of bulk at most 1048576, and its arguments read afterwards as before. Conditions: the card's own. -/
import Derived.Test.YtpaopccohkldlaaGreatDoorCards
import Derived.Test.YtpaopccohkldlaaGreatDoorTie
import Derived.WalkKit
import Derived.ProofKit
import Derived.OpenShut
import Derived.Deep.DeepHandedRow
import Derived.Lib.LaidTab
import Derived.Lay
import Derived.Deep.DeepWitnessRowRef
import Derived.Test.YtpaopccohkldlaaGreatDoorSU
import Derived.Test.YtpaopccohkldlaaGreatDoorSV
import Derived.Test.YtpaopccohkldlaaGreatDoorRK
set_option linter.unusedSimpArgs false
set_option linter.unusedVariables false
namespace Go.Proofs.YtpaopccohkldlaaGreatDoor.LTreesErrors
open Go Go.ChangeShapes Go.WideShapes Go.ChangeAt Go.RowKit
set_option maxRecDepth 100000
theorem own : ownKnob Tryz.prog.godebug = none:=by kernel_rfl
theorem spec_all {H : Type} : ∀ ds : List (DataW H),ds.length = 3→Rows.treesErrorsSpec.fn H ds = { results:=[.lit (.bool true)],args:=ds }
 | [_,_,_],_=>rfl
theorem pure_all (vs : List V) (h : hasAll (hasT Tryz.prog 20) Tryz.f7.params.toList vs) (hs : V.sizeL vs ≤ 1048576) : PureC Tryz.prog gl0 7 vs (.bool true):=by
 rw [Tryz.params7] at h
 obtain ⟨a,_,rfl,ha,h⟩:=hasAll_cons h
 obtain ⟨b,_,rfl,hb,h⟩:=hasAll_cons h
 obtain ⟨d,_,rfl,hd,h⟩:=hasAll_cons h
 obtain rfl:=hasAll_nil h
 obtain ⟨x,rfl,hx⟩:=cx_h ha
 obtain ⟨f,rfl,hm,hv⟩:=fault_h hb
 obtain ⟨p,q,rfl,-,-⟩:=arr2_h hd
 have hpq : p.length + q.length ≤ 1048576:=by
  simp only [V.sizeL,V.size,size_u8] at hs
  omega
 exact law7_c x hx f hm hv p q (by omega) (by omega)
theorem contract (H : Type) (enc : TypeId × Value→H) (W : World) (base : Nat) (args : Array Value) (ds gs : List (DataW H)) (before : List MemPlace)
  (hval : ∀ (j : Nat) t v,Tryz.f7.params[j]? = some t→args[j]? = some v→Value.okWide Tryz.prog W .any base t v)
  (hW : DataW.Whole enc Tryz.prog Tryz.f7.params.toList Rows.treesErrorsSpec.vars false W args.toList ds gs before) (hL : laidMetH Tryz.prog Rows.treesErrorsUptoRow.laid W) (hk : Rows.uptoSmall H (ds ++ gs) = true) :
  Calls Tryz.prog 7 args W fun e W'=>∃ v,e = .returned v∧Rows.treesErrorsSpec.post enc Tryz.prog Tryz.f7 false true false false W args v W':=
 law_contractU (gl:=gl0) (by kernel_rfl) (by kernel_rfl) rfl Tryz.underlying4 rfl (by kernel_rfl) (by kernel_rfl) (by kernel_rfl) (by kernel_rfl) spec_all (fun h=>pure_all _ h (size_small hk)) hval hW hL
noncomputable abbrev laidWorld (os : Os) : World:=World.laidAll Tryz.prog os Rows.treesErrorsRow.laid
noncomputable def wit : Array Value:=#[.agg #[.int .u8 0,.int .u8 0,.int .u8 0,.int .u8 0,.bool false,.bool false,.int .u8 0,.int .u8 0,.int .u8 0,.int .u8 0,.slice none 0 0,.slice none 0 0],.agg #[.int .u8 0,.int .i64 0,.int .i64 0,.int .u8 0,.int .i64 0],.agg #[.slice none 0 0,.slice none 0 0]]
theorem laid_met (os : Os) : laidMet Tryz.prog Rows.treesErrorsUptoRow.laid ((laidWorld os).forCall (fun _ _=>0) ⟨#[],wit,[]⟩).memory:=
 laidMet_laidAll _ (by kernel_rfl) (by kernel_rfl)
theorem reads (os : Os) {H : Type} (enc : TypeId × Value→H) : ∃ places,DataW.whole enc Tryz.prog ((laidWorld os).forCall (fun _ _=>0) ⟨#[],wit,[]⟩).memory Tryz.f7.params.toList Rows.treesErrorsSpec.vars false wit.toList 8 = some ([.agg [.lit (.int .u8 0),.lit (.int .u8 0),.agg [.lit (.int .u8 0),.lit (.int .u8 0)],.lit (.bool false),.lit (.bool false),.agg [.lit (.int .u8 0),.lit (.int .u8 0),.lit (.int .u8 0),.lit (.int .u8 0)],.nil,.nil],.agg [.lit (.int .u8 0),.agg [.lit (.int .i64 0),.lit (.int .i64 0)],.lit (.int .u8 0),.lit (.int .i64 0)],.agg [.nil,.nil]],[],places):=
 ⟨[],by kernel_rfl⟩
theorem lifted (os : Os) (started : os.Started) (H : Type) (enc : TypeId × Value→H) (F : Stop.Interp) :
  ReturnsInHanded {} Tryz.checked os 7 .any ((Rows.OpenSpec.upto Rows.treesErrorsSpec).preRow enc Tryz.prog Tryz.f7 Rows.treesErrorsUptoRow.domain false Rows.treesErrorsUptoRow.laid) (((Rows.OpenSpec.upto Rows.treesErrorsSpec).at F).post enc Tryz.prog Tryz.f7 false true false false):=by
 obtain ⟨places,hx⟩:=reads os enc
 refine returnsInHanded_of_row (C:=Tryz.checked) (s:=(Rows.OpenSpec.upto Rows.treesErrorsSpec)) own started (by kernel_rfl) Tryz.func7
  (witness_row_atRef (enc:=enc) (C:=Tryz.checked) false (laidWorld os) wit (World.laidAll_os _ _ _) (by kernel_rfl) (by kernel_rfl) (by kernel_rfl)
   (OpenSpec.preRow_of_cond 8 hx (by kernel_rfl) (fun k hk=>by cases hk; kernel_rfl) (by kernel_rfl) (laid_met os))) ?_
 intro W base args ds gs before hval hW _ hcond _ hL _ _
 exact contract H enc W base args ds gs before hval hW hL (hcond _ rfl)
noncomputable abbrev P:=Tryz.pinned.checked.prog
abbrev c:=Rows.treesErrorsRow
abbrev s:=(OpenSpec.ofChange Rows.treesErrorsSpec).bare
theorem wA : (c.wf (OpenSpec.ofChange s) && laidOutB P && mapsRowed P && Tryz.f7.params.all (P.readableRec ·) && namedTie P c.named s.vars && (c.stops == []) && (P.stops == []) && (c.knobs == []) && (P.stopKnobs == []) && (c.inPlace == P.inPlace 7) && (c.unfollowed == P.unfollowed 7) && (c.recurses == P.recurses 7) && (c.named == P.varsNamed 7)) = true:=by kernel_rfl
theorem closed : joinedFacts P 7 Tryz.f7 s c = true:=by
 unfold joinedFacts
 rw [wA]
 kernel_rfl
theorem nmd : P.funcNamed c.func = some 7:=by kernel_rfl
theorem said : Rows.TreesErrorsUptoSaid:=
 OpenClaim.holds_of_cond 7 Tryz.f7 rfl rfl rfl rfl rfl rfl rfl ⟨rfl,rfl,rfl,rfl,rfl⟩ rfl rfl rfl rfl rfl nmd Tryz.func7 closed
  (of_decide_eq_true (by kernel_rfl)) (by unfold Func.isWrapper; first | (rw [if_pos (by decide +kernel)]; kernel_rfl) | (rw [if_neg (by decide +kernel)]; exact ⟨rfl,rfl⟩))
  (fun os started H enc _ F=>by rw [OpenClaim.pre_eq_preRow]; exact lifted os started H enc F)
theorem plain (f : FuncId) (fn : Func) (hf : Tryz.pinned.checked.prog.funcNamed "probecard/probecardlaw26.TreesErrors" = some f) (hfn : Tryz.pinned.checked.prog.funcs[f]? = some fn) :
  true = Tryz.pinned.checked.prog.looks []∧∀ (j : Nat) t,fn.params[j]? = some t→Tryz.pinned.checked.prog.wantsStandIn t = false:=by
 obtain rfl : f = 7:=Option.some.inj ((show Tryz.prog.funcNamed "probecard/probecardlaw26.TreesErrors" = some 7 by kernel_rfl).symm.trans hf) |>.symm
 obtain rfl : fn = Tryz.f7:=(Option.some.inj (Tryz.func7.symm.trans hfn)).symm
 refine ⟨by kernel_rfl,fun j t ht=>?_⟩
 rw [Tryz.params7] at ht
 have hm:=Array.mem_of_getElem? ht
 simp only [List.mem_toArray,List.mem_cons,List.not_mem_nil,or_false] at hm
 rcases hm with rfl | rfl | rfl
 ·exact (show Tryz.prog.wantsStandIn 27 = false by kernel_rfl)
 ·exact (show Tryz.prog.wantsStandIn 43 = false by kernel_rfl)
 ·exact (show Tryz.prog.wantsStandIn 88 = false by kernel_rfl)
end Go.Proofs.YtpaopccohkldlaaGreatDoor.LTreesErrors
namespace Go.Proofs.YtpaopccohkldlaaGreatDoor
open Go
theorem treesErrors_card : Rows.TreesErrorsUptoCardSaid:=
 Claim7.holds_tied_plain_at .later [] _ _ _ _ LTreesErrors.said (fun _ h=>by cases h) (by kernel_rfl) (fun _ h=>by cases h) treesErrorsUpto_row_tie rfl ⟨rfl,rfl⟩ (by kernel_rfl) rfl LTreesErrors.plain (by kernel_rfl)
end Go.Proofs.YtpaopccohkldlaaGreatDoor
