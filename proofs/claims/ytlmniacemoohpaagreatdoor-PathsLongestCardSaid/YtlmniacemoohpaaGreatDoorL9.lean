/- probecard's law PathsLongest answers true for every input, and its arguments read afterwards as before. Conditions: the card's own. -/
import Derived.Test.YtlmniacemoohpaaGreatDoorCards
import Derived.Test.YtlmniacemoohpaaGreatDoorTie
import Derived.WalkKit
import Derived.ProofKit
import Derived.OpenShut
import Derived.Deep.DeepHandedRow
import Derived.Lib.LaidTab
import Derived.Test.YtlmniacemoohpaaGreatDoorSTP
import Derived.Test.YtlmniacemoohpaaGreatDoorP34
set_option linter.all false
namespace Go.Proofs.YtlmniacemoohpaaGreatDoor.LPathsLongest
open Go Go.ChangeShapes Go.WideShapes Go.ChangeAt Go.RowKit
set_option maxRecDepth 100000
theorem own:ownKnob Tryz.prog.godebug = none:=by kernel_rfl
theorem q0v {H:Type}:∀ ds:List (DataW H),ds.length = 2->Rows.pathsLongestSpec.fn H ds = { results:=[.lit (.bool true)],args:=ds }
 | [_,_],_=>rfl
theorem q0o (vs:List V) (h:qg9 (qf8 Tryz.prog 20) Tryz.f9.params.toList vs):qac Tryz.prog gl0 9 vs (.bool true):=by
 rw [Tryz.params9] at h;obtain ⟨a,_,rfl,ha,h⟩:=qbq h;obtain ⟨b,_,rfl,hb,h⟩:=qbq h;obtain rfl:=qiq h;obtain ⟨x,rfl,hx⟩:=cx_h ha;obtain ⟨n,rfl⟩:=je7 hb;exact q7p x hx n
theorem qgs (H:Type) (enc:TypeId × Value->H) (W:World) (base:Nat) (args:Array Value) (ds gs:List (DataW H)) (before:List MemPlace)
  (hval:∀ (j:Nat) t v,Tryz.f9.params[j]? = some t->args[j]? = some v->Value.okWide Tryz.prog W .any base t v)
  (hW:DataW.Whole enc Tryz.prog Tryz.f9.params.toList Rows.pathsLongestSpec.vars false W args.toList ds gs before) (hL:laidMetH Tryz.prog Rows.pathsLongestRow.laid W) :
  Calls Tryz.prog 9 args W fun e W'=>∃ v,e = .returned v/\Rows.pathsLongestSpec.post enc Tryz.prog Tryz.f9 false true false false W args v W':=
 qpp (gl:=gl0) (by kernel_rfl) (by kernel_rfl) rfl Tryz.underlying4 rfl (by kernel_rfl) (by kernel_rfl) (by kernel_rfl) (by kernel_rfl) q0v q0o hval hW hL
noncomputable def qk0 (os:Os):World:=
 { World.holding Tryz.prog os ⟨#[],#[],[]⟩ with heap:=((World.holding Tryz.prog os ⟨#[],#[],[]⟩).heap.modify 0 fun
   | .cells _ t frozen=>.cells (([0,0,0,0,0,0,1,1,1,1,2,16,2,16,2,16,2,16,2,16,2,16,3,3,2,2,1,16,1,1,0,0].map (Value.int .i64)).toArray) t frozen
   | o=>o) }
noncomputable def wit:Array Value:=#[.agg #[.int .u8 0,.int .u8 0,.int .u8 0,.int .u8 0,.bool false,.bool false,.int .u8 0,.int .u8 0,.int .u8 0,.int .u8 0,.slice none 0 0,.slice none 0 0],.int .i64 0]
theorem qz4 (os:Os):laidMet Tryz.prog Rows.pathsLongestRow.laid ((qk0 os).forCall (fun _ _=>0) ⟨#[],wit,[]⟩).memory:=
 laidMet_of_run' 8 (by kernel_rfl) (by kernel_rfl)
theorem q4o (os:Os) {H:Type} (enc:TypeId × Value->H):∃ places,DataW.whole enc Tryz.prog ((qk0 os).forCall (fun _ _=>0) ⟨#[],wit,[]⟩).memory Tryz.f9.params.toList Rows.pathsLongestSpec.vars false wit.toList 8 = some ([.agg [.lit (.int .u8 0),.lit (.int .u8 0),.agg [.lit (.int .u8 0),.lit (.int .u8 0)],.lit (.bool false),.lit (.bool false),.agg [.lit (.int .u8 0),.lit (.int .u8 0),.lit (.int .u8 0),.lit (.int .u8 0)],.nil,.nil],.lit (.int .i64 0)],[],places):=
 ⟨[],by kernel_rfl⟩
theorem q7s (os:Os) (started:os.Started) (H:Type) (enc:TypeId × Value->H) (F:Stop.Interp) :
  ReturnsInHanded {} Tryz.checked os 9 .any ((OpenSpec.ofChange Rows.pathsLongestSpec).preRow enc Tryz.prog Tryz.f9 Rows.pathsLongestRow.domain false Rows.pathsLongestRow.laid) (((OpenSpec.ofChange Rows.pathsLongestSpec).at F).post enc Tryz.prog Tryz.f9 false true false false):=by
 obtain ⟨places,hx⟩:=q4o os enc
 refine returnsInHanded_of_row (C:=Tryz.checked) (s:=(OpenSpec.ofChange Rows.pathsLongestSpec)) own started (by kernel_rfl) Tryz.func9
  (witness_row_at (enc:=enc) (C:=Tryz.checked) false (qk0 os) wit rfl (by kernel_rfl) (by kernel_rfl) (by kernel_rfl)
   (OpenSpec.preRow_of_cond 8 hx (by kernel_rfl) (fun k hk=>by cases hk) (by kernel_rfl) (qz4 os))) ?_
 intro W base args ds gs before hval hW _ _ _ hL _ _;exact qgs H enc W base args ds gs before hval hW hL
theorem said:Rows.PathsLongestSaid:=
 OpenClaim.holds_of_cond 9 Tryz.f9 rfl rfl rfl rfl rfl rfl rfl ⟨rfl,rfl,rfl,rfl,rfl⟩ rfl rfl rfl rfl rfl (by kernel_rfl) Tryz.func9 (by kernel_rfl)
  (jiy (by kernel_rfl)) (by unfold Func.isWrapper; first | (rw [if_pos (by decide +kernel)]; kernel_rfl) | (rw [if_neg (by decide +kernel)]; exact ⟨rfl,rfl⟩))
  (fun os started H enc _ F=>by rw [OpenClaim.pre_eq_preRow]; exact q7s os started H enc F)
theorem plain (f:FuncId) (fn:Func) (hf:Tryz.pinned.checked.prog.funcNamed "probecard/probecardlaw20.PathsLongest" = some f) (hfn:Tryz.pinned.checked.prog.funcs[f]? = some fn) :
  false = Tryz.pinned.checked.prog.looks []/\∀ (j:Nat) t,fn.params[j]? = some t->Tryz.pinned.checked.prog.wantsStandIn t = false:=by
 obtain rfl:f = 9:=Option.some.inj ((show Tryz.prog.funcNamed "probecard/probecardlaw20.PathsLongest" = some 9 by kernel_rfl).symm.trans hf) |>.symm;obtain rfl:fn = Tryz.f9:=(Option.some.inj (Tryz.func9.symm.trans hfn)).symm;refine ⟨by kernel_rfl,fun j t ht=>?_⟩;rw [Tryz.params9] at ht;have hm:=Array.mem_of_getElem? ht;simp only [List.mem_toArray,List.mem_cons,List.not_mem_nil,or_false] at hm;rcases hm with rfl | rfl
 ·exact (show Tryz.prog.wantsStandIn 27 = false by kernel_rfl)
 ·exact (show Tryz.prog.wantsStandIn 3 = false by kernel_rfl)
end Go.Proofs.YtlmniacemoohpaaGreatDoor.LPathsLongest
namespace Go.Proofs.YtlmniacemoohpaaGreatDoor
open Go
theorem pathsLongest_card:Rows.PathsLongestCardSaid:=
 Claim7.holds_tied_plain_at .later [] _ _ _ _ LPathsLongest.said (fun _ h=>by cases h) (by kernel_rfl) (fun _ h=>by cases h) pathsLongest_row_tie rfl ⟨rfl,rfl⟩ (by kernel_rfl) rfl LPathsLongest.plain (by kernel_rfl)
end Go.Proofs.YtlmniacemoohpaaGreatDoor
