/- Netlists: contracts, copies of lists. Conditions: none. Netlists: contracts, Copy. Conditions: none. -/
import Derived.Test.YtcmapbecfpcnfaaDoorNet8
namespace Go.Proofs.YtcmapbecfpcnfaaDoor
open Go
theorem strs_pure (l : List (List UInt8)) : V.pureL (l.map V.str) = true:=V.pureL_map _ l fun _=>rfl
end Go.Proofs.YtcmapbecfpcnfaaDoor
namespace Go.Proofs.YtcmapbecfpcnfaaDoor
open Go
@[simp] theorem ci_cells (c : Ci) : c.v.cells = [.sl (c.n.map Nd.v) none,.sl (c.s.map .str) none,.sl (c.m.map Md.v) none,.sl (ints c.o) none]:=rfl
@[simp] theorem nd_cells (c : Nd) : c.v.cells = [.int .u8 c.k,.sl (ints c.i) none,.int .i64 c.a,.int .i64 c.b]:=rfl
@[simp] theorem md_cells (c : Md) : c.v.cells = [.sl (ints c.a) none,.sl (ints c.d) none,.int .i64 c.w]:=rfl
def Nd.w (x : Nd) (b g : Nat) : V:=.agg [.int .u8 x.k,.ref b g 0 x.i.length (some x.i.length),.int .i64 x.a,.int .i64 x.b]
def Md.w' (x : Md) (b1 g1 b2 g2 : Nat) : V:=.agg [.ref b1 g1 0 x.a.length (some x.a.length),.ref b2 g2 0 x.d.length (some x.d.length),.int .i64 x.w]
end Go.Proofs.YtcmapbecfpcnfaaDoor
namespace Go.Proofs.YtcmapbecfpcnfaaDoor
open Go
theorem VLe.agg {a b : List V} (h : AllLe a b) : VLe (.agg a) (.agg b):=fun G M r hr=>by
  obtain ⟨h1,h2⟩:=h.spec
  cases hr with
  | agg _ arr hs q ho=>exact .agg b arr (by rw [hs,h1]) (fun i hi=>h2 i G M _ (q i (by omega))) (fun i hi=>ho i (by omega))
def CellsLe (a b : V) : Prop:=AllLe a.cells b.cells
theorem VLe.slc {a b : List V} {c : Option Nat} (hl : a.length = b.length) (h : ∀ i,CellsLe (a.getD i .undef) (b.getD i .undef)) : VLe (.sl a c) (.sl b c):=fun G M r hr=>by
  cases hr with
  | slnil cap base rcap hc hb=>
    have : b = []:=List.length_eq_zero_iff.1 (by rw [← hl]; rfl)
    subst this
    exact .slnil _ _ _ hc hb
  | sl _ _ rb ro rcap sz cells hne hG hsz hb hl2 hc hh ho=>
    rw [hl]
    refine .sl b c rb ro rcap sz cells (fun e=>hne (List.length_eq_zero_iff.1 (by rw [hl,e]; rfl))) hG (fun i hi=>?_) (by rw [← hl]; exact hb) (by rw [← hl]; exact hl2) hc (fun i j hi hj=>?_) (fun i j hi hj=>ho i j (by omega) hj)
    · rw [← (h i).spec.1]; exact hsz i (by omega)
    · exact (h i).spec.2 j G M _ (hh i j (by omega) hj)
theorem VLe.map {α : Type} {f g : α→V} {c : Option Nat} (h : ∀ x,CellsLe (f x) (g x)) (l : List α) : VLe (.sl (l.map f) c) (.sl (l.map g) c):=by
  refine VLe.slc (by simp) fun i=>?_
  simp only [List.getD_eq_getElem?_getD,List.getElem?_map]
  cases l[i]? with
  | none=>exact AllLe.refl _
  | some x=>exact h x
def Nd.c (x : Nd) : V:=.agg [.int .u8 x.k,.sl (ints x.i) (some x.i.length),.int .i64 x.a,.int .i64 x.b]
def Md.c (x : Md) : V:=.agg [.sl (ints x.a) (some x.a.length),.sl (ints x.d) (some x.d.length),.int .i64 x.w]
def Ci.c (c : Ci) : V:=.agg [.sl (c.n.map Nd.c) (some c.n.length),.sl (c.s.map .str) (some c.s.length),.sl (c.m.map Md.c) (some c.m.length),.sl (ints c.o) (some c.o.length)]
theorem frz_agg (h : Hp) (n : Nat) (cs : List V) : frz h n (.agg cs) = .agg (cs.map (frz h n)):=by
  cases n <;> simp [frz,mapRL_eq]
structure Ci.lens (c : Ci) : Prop where
  n : c.n.length < 1000000
  s : c.s.length < 1000000000
  m : c.m.length < 1000000
  o : c.o.length < 1000000000
  i : ∀ x ∈ c.n,x.i.length < 1000000000
  a : ∀ x ∈ c.m,x.a.length < 1000000000∧x.d.length < 1000000000
theorem intsD_len (a b : List Int) : intsD a b a.length = if a = b then 0 else 1:=by simp [intsD]
@[simp] theorem ints_take (l : List Int) : List.take l.length (ints l) = ints l:=List.take_of_length_le (by simp)
theorem intsL_c (a b : List Int) (cb : Option Nat) (hl : a.length < 1000000000000) : PureC Tryd.prog gl0 25 [.sl (ints a) (some a.length),.sl (ints b) cb] (.int .i64 (if a = b then 0 else 1)):=by
  have:=ints_c a b a.length cb hl
  rwa [intsD_len] at this
end Go.Proofs.YtcmapbecfpcnfaaDoor
namespace Go.Proofs.YtcmapbecfpcnfaaDoor
open Go
end Go.Proofs.YtcmapbecfpcnfaaDoor
