/- Netlists: contracts, copies of lists. Conditions: none. Netlists: contracts, Copy. Conditions: none. -/
import Derived.Test.YtekbgkainigfnaaGreatDoorNet8

namespace Go.Proofs.YtekbgkainigfnaaGreatDoor
open Go
theorem strs_pure (l : List (List UInt8)) : V.pureL (l.map V.str) = true := V.pureL_map _ l fun _ => rfl
end Go.Proofs.YtekbgkainigfnaaGreatDoor

namespace Go.Proofs.YtekbgkainigfnaaGreatDoor
open Go
@[simp] theorem ci_cells (c : Ci) : c.v.cells = [.sl (c.n.map Nd.v) none, .sl (c.s.map .str) none, .sl (c.m.map Md.v) none, .sl (ints c.o) none] := rfl
@[simp] theorem nd_cells (c : Nd) : c.v.cells = [.int .u8 c.k, .sl (ints c.i) none, .int .i64 c.a, .int .i64 c.b] := rfl
@[simp] theorem md_cells (c : Md) : c.v.cells = [.sl (ints c.a) none, .sl (ints c.d) none, .int .i64 c.w] := rfl
/-! Lists of one's own behind a list, each in a block: block b + i holds the ints of entry i. -/
/-- A node whose inputs are in block b, of generation g. -/
def Nd.w (x : Nd) (b g : Nat) : V := .agg [.int .u8 x.k, .ref b g 0 x.i.length (some x.i.length), .int .i64 x.a, .int .i64 x.b]
def Md.w' (x : Md) (b1 g1 b2 g2 : Nat) : V := .agg [.ref b1 g1 0 x.a.length (some x.a.length), .ref b2 g2 0 x.d.length (some x.d.length), .int .i64 x.w]
end Go.Proofs.YtekbgkainigfnaaGreatDoor
