/- Netlists: contracts, the library's stable sort of nodes by levels: up to 20 nodes stand by level and number. Conditions: none. Netlists: contracts, Order. Conditions: none. -/
import Derived.Test.YtcdfifbabhfknaaDoorNet7
set_option linter.unusedSimpArgs false
set_option linter.unusedVariables false
namespace Go.Proofs.YtcdfifbabhfknaaDoor
open Go
variable {g19 g4 n : Nat} {lv : Nat→Nat} {L : List Nat}
end Go.Proofs.YtcdfifbabhfknaaDoor
namespace Go.Proofs.YtcdfifbabhfknaaDoor
open Go
theorem CallO.weaken {P : Program} {gl : Fr} {f : FuncId} {args : List V} {h h2 : Hp} {K : V→Hp→Prop} (hs : Sub h2 h) (hc : ICallO P gl f args h2 K) : ICallO P gl f args h K:=
 ⟨hc.1,fun G M w rargs h1 h2' h3 h4=>hc.2 G M w rargs ⟨h1.gw,fun b k hb=>h1.hb b k (hs.spec b k hb),h1.inj,h1.mlt⟩ h2' h3 h4⟩
variable {g19 g4 n : Nat} {lv : Nat→Nat} {L : List Nat}
end Go.Proofs.YtcdfifbabhfknaaDoor
namespace Go.Proofs.YtcdfifbabhfknaaDoor
open Go
theorem strs_pure (l : List (List UInt8)) : V.pureL (l.map V.str) = true:=V.pureL_map _ l fun _=>rfl
end Go.Proofs.YtcdfifbabhfknaaDoor
namespace Go.Proofs.YtcdfifbabhfknaaDoor
open Go
@[simp] theorem ci_cells (c : Ci) : c.v.cells = [.sl (c.n.map Nd.v) none,.sl (c.s.map .str) none,.sl (c.m.map Md.v) none,.sl (ints c.o) none]:=rfl
@[simp] theorem nd_cells (c : Nd) : c.v.cells = [.int .u8 c.k,.sl (ints c.i) none,.int .i64 c.a,.int .i64 c.b]:=rfl
@[simp] theorem md_cells (c : Md) : c.v.cells = [.sl (ints c.a) none,.sl (ints c.d) none,.int .i64 c.w]:=rfl
def Nd.w (x : Nd) (b g : Nat) : V:=.agg [.int .u8 x.k,.ref b g 0 x.i.length (some x.i.length),.int .i64 x.a,.int .i64 x.b]
def Md.w' (x : Md) (b1 g1 b2 g2 : Nat) : V:=.agg [.ref b1 g1 0 x.a.length (some x.a.length),.ref b2 g2 0 x.d.length (some x.d.length),.int .i64 x.w]
end Go.Proofs.YtcdfifbabhfknaaDoor
