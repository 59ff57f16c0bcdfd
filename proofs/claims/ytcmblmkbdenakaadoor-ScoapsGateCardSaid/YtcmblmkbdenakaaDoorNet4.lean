/- Netlists: contracts, Levels. Conditions: none. Netlists: contracts, the shape of a circuit, by the program. Conditions: none. -/
import Derived.Test.YtcmblmkbdenakaaDoorNet3
set_option linter.unusedSimpArgs false
set_option linter.unusedVariables false
namespace Go.Proofs.YtcmblmkbdenakaaDoor
open Go
theorem wrapN (x : Nat) (h : x < 1000000000000000000) : IntKind.i64.wrap ((x : Int) + 1) = ((x + 1 : Nat) : Int):=by rw [wrap_i64] <;> omega
structure LJ where
 k : Nat
 ga : Nat
 l : List V
 S : List Nat
 cc : Nat→Nat
structure LS where
 d : Nat
 acc : Option (Nat × List V)
 R : List Nat
 left : Nat→Nat
 out : Nat→Nat
end Go.Proofs.YtcmblmkbdenakaaDoor
namespace Go.Proofs.YtcmblmkbdenakaaDoor
open Go
@[simp high] theorem ci_all (c : Ci) : V.partV true 0 4 c.v = c.v:=rfl
@[simp high] theorem ci_0 (c : Ci) : V.partV false 0 1 c.v = .sl (c.n.map Nd.v) none:=rfl
@[simp high] theorem ci_1 (c : Ci) : V.partV false 1 1 c.v = .sl (c.s.map .str) none:=rfl
@[simp high] theorem ci_2 (c : Ci) : V.partV false 2 1 c.v = .sl (c.m.map Md.v) none:=rfl
@[simp high] theorem ci_3 (c : Ci) : V.partV false 3 1 c.v = .sl (ints c.o) none:=rfl
@[simp high] theorem ci_len (c : Ci) : c.v.cells.length = 4:=rfl
@[simp high] theorem ci_ok (c : Ci) : c.v.cellsOk = true:=rfl
@[simp] theorem ci_pure2 (c : Ci) : c.v.pure = true:=ci_pure c
@[simp] theorem ci_mapR (c : Ci) {f : Nat→Nat→Nat→Nat→Option Nat→V} {p : Nat→Nat→Nat→Nat→V} : c.v.mapR f p = c.v:=by simp [Ci.v,mapRL_pure]
@[simp high] theorem nd_all (c : Nd) : V.partV true 0 4 c.v = c.v:=rfl
@[simp high] theorem nd_0 (c : Nd) : V.partV false 0 1 c.v = .int .u8 c.k:=rfl
@[simp high] theorem nd_1 (c : Nd) : V.partV false 1 1 c.v = .sl (ints c.i) none:=rfl
@[simp high] theorem nd_2 (c : Nd) : V.partV false 2 1 c.v = .int .i64 c.a:=rfl
@[simp high] theorem nd_3 (c : Nd) : V.partV false 3 1 c.v = .int .i64 c.b:=rfl
@[simp high] theorem nd_len (c : Nd) : c.v.cells.length = 4:=rfl
@[simp high] theorem nd_ok (c : Nd) : c.v.cellsOk = true:=rfl
@[simp] theorem nd_pure (c : Nd) : c.v.pure = true:=by simp [Nd.v]
@[simp] theorem nd_mapR (c : Nd) {f : Nat→Nat→Nat→Nat→Option Nat→V} {p : Nat→Nat→Nat→Nat→V} : c.v.mapR f p = c.v:=by simp [Nd.v,mapRL_pure]
@[simp high] theorem nd_put (a b d e : V) (c : Nd) : V.putV 0 4 c.v (.agg [a,b,d,e]) = c.v:=rfl
@[simp high] theorem md_all (c : Md) : V.partV true 0 3 c.v = c.v:=rfl
@[simp high] theorem md_0 (c : Md) : V.partV false 0 1 c.v = .sl (ints c.a) none:=rfl
@[simp high] theorem md_1 (c : Md) : V.partV false 1 1 c.v = .sl (ints c.d) none:=rfl
@[simp high] theorem md_2 (c : Md) : V.partV false 2 1 c.v = .int .i64 c.w:=rfl
@[simp high] theorem md_len (c : Md) : c.v.cells.length = 3:=rfl
@[simp high] theorem md_ok (c : Md) : c.v.cellsOk = true:=rfl
@[simp] theorem md_pure (c : Md) : c.v.pure = true:=by simp [Md.v]
@[simp] theorem md_mapR (c : Md) {f : Nat→Nat→Nat→Nat→Option Nat→V} {p : Nat→Nat→Nat→Nat→V} : c.v.mapR f p = c.v:=by simp [Md.v,mapRL_pure]
@[simp high] theorem md_put (a b d : V) (c : Md) : V.putV 0 3 c.v (.agg [a,b,d]) = c.v:=rfl
def tLo : List Int:=[0,0,0,1,1,2,2,2,2,2,2,3,2,1,1,0]
def tHi : List Int:=[0,0,0,1,1,16,16,16,16,16,16,3,2,16,1,0]
def kLo (k : Int) : Int:=if 16 ≤ k then 0 else tLo.getD k.toNat 0
def kHi (k : Int) : Int:=if 16 ≤ k then -1 else tHi.getD k.toNat 0
theorem kind_cases {k : Int} (h0 : 0 ≤ k) (h : k < 16) {Q : Int→Prop} (hq : ∀ i : Fin 16,Q (i.val : Int)) : Q k:=by
 have:=hq ⟨k.toNat,by omega⟩
 simpa [Int.toNat_of_nonneg h0] using this
theorem fanin_c (k : Int) (h0 : 0 ≤ k) (h9 : k < 256) : PureC Tryd.prog gl0 24 [.int .u8 k] (.tup [.int .i64 (kLo k),.int .i64 (kHi k)]):=by
 refine PureC.of_W 2 ok24 rfl ?_
 have hw : IntKind.i64.wrap k = k:=by rw [wrap_i64] <;> omega
 simp [i24,x24,hw]
 refine BrB.of (fun h=>?_) (fun h=>?_)
 ·have h' : 16 ≤ k:=of_decide_eq_true h
  simp [kLo,kHi,h']
 ·have h' : ¬ 16 ≤ k:=of_decide_eq_false h
  have h1 : k < 16:=by omega
  have hc : k = 0∨k = 1∨k = 2∨k = 3∨k = 4∨k = 5∨k = 6∨k = 7∨k = 8∨k = 9∨k = 10∨k = 11∨k = 12∨k = 13∨k = 14∨k = 15:=by omega
  rcases hc with rfl | rfl | rfl | rfl | rfl | rfl | rfl | rfl | rfl | rfl | rfl | rfl | rfl | rfl | rfl | rfl <;> simp [gl0,kLo,kHi,tLo,tHi]
def widB (k : Int) (n : Nat) : Bool:=decide (kLo k ≤ n) && decide ((n : Int) ≤ kHi k)
structure Ci.wf (c : Ci) : Prop where
 k : ∀ x ∈ c.n,0 ≤ x.k∧x.k < 256
 s : ∀ x ∈ c.s,x.length < 9000000000000000000
end Go.Proofs.YtcmblmkbdenakaaDoor
