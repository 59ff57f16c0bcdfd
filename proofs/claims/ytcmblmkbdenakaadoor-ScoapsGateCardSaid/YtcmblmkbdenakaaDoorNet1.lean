/- Netlists: contracts, names. Conditions: none. Netlists: contracts, copies. Conditions: none. Netlists: contracts, lists. Conditions: none. Netlists: contracts, sizes. Conditions: none. Netlists: contracts, Of. Conditions: none. -/
import Derived.Test.YtcmblmkbdenakaaDoorXG
set_option linter.unusedSimpArgs false
set_option linter.unusedVariables false
namespace Go.Proofs.YtcmblmkbdenakaaDoor
open Go
theorem wrap_u8 {x : Int} (h0 : 0 ≤ x) (h1 : x < 256) : IntKind.u8.wrap x = x:=by
 simp [IntKind.wrap,IntKind.bits,IntKind.signed]; omega
theorem pureL_map {α : Type} {f : α→V} (hf : ∀ x,(f x).pure = true) : ∀ l : List α,V.pureL (l.map f) = true
 | []=>rfl
 | x :: l=>by simp [V.pureL,hf x,pureL_map hf l]
@[simp] theorem pureL_str (l : List (List UInt8)) : V.pureL (l.map .str) = true:=pureL_map (fun _=>rfl) l
end Go.Proofs.YtcmblmkbdenakaaDoor
namespace Go.Proofs.YtcmblmkbdenakaaDoor
open Go
end Go.Proofs.YtcmblmkbdenakaaDoor
namespace Go.Proofs.YtcmblmkbdenakaaDoor
open Go
def ints (l : List Int) : List V:=l.map (.int .i64)
@[simp] theorem ints_length (l : List Int) : (ints l).length = l.length:=by simp [ints]
@[simp] theorem ints_pure (l : List Int) : V.pureL (ints l) = true:=pureL_map (fun _=>rfl) l
@[simp] theorem ints_cells (l : List Int) : ((ints l).all fun x=>decide (x.cells.length = 1)) = true:=by simp [ints]
structure Nd where
 k : Int
 i : List Int
 a : Int
 b : Int
 deriving Inhabited
def Nd.v (n : Nd) : V:=.agg [.int .u8 n.k,.sl (ints n.i) none,.int .i64 n.a,.int .i64 n.b]
structure Md where
 a : List Int
 d : List Int
 w : Int
 deriving Inhabited
def Md.v (n : Md) : V:=.agg [.sl (ints n.a) none,.sl (ints n.d) none,.int .i64 n.w]
structure Ci where
 n : List Nd
 s : List (List UInt8)
 m : List Md
 o : List Int
def Ci.v (c : Ci) : V:=.agg [.sl (c.n.map Nd.v) none,.sl (c.s.map .str) none,.sl (c.m.map Md.v) none,.sl (ints c.o) none]
@[simp] theorem nds_pure (l : List Nd) : V.pureL (l.map Nd.v) = true:=pureL_map (fun x=>by simp [Nd.v]) l
@[simp] theorem mds_pure (l : List Md) : V.pureL (l.map Md.v) = true:=pureL_map (fun x=>by simp [Md.v]) l
theorem pureL_append {a b : List V} (h : V.pureL a = true) (k : V.pureL b = true) : V.pureL (a ++ b) = true:=by
 rw [V.pureL_iff] at *
 intro v hv
 rcases List.mem_append.1 hv with q | q
 ·exact h v q
 ·exact k v q
def accV (b : Nat) : Option (Nat × List V)→V
 | none=>.nil
 | some (g,l)=>.ref b g 0 l.length none
def accH (b sz : Nat) : Option (Nat × List V)→Hp
 | none=>[]
 | some (g,l)=>[(b,.row g sz l)]
def accL : Option (Nat × List V)→List V
 | none=>[]
 | some (_,l)=>l
def listV (l : List V) : V:=match l with
 | []=>.nil
 | _ :: _=>.sl l none
end Go.Proofs.YtcmblmkbdenakaaDoor
namespace Go.Proofs.YtcmblmkbdenakaaDoor
open Go
end Go.Proofs.YtcmblmkbdenakaaDoor
namespace Go.Proofs.YtcmblmkbdenakaaDoor
open Go
def findI (x : Int) : List Int→Nat→Int
 | [],_=>-1
 | y :: r,i=>if x = y then (i : Int) else findI x r (i + 1)
theorem findI_mem (x : Int) : ∀ (l : List Int) (i : Nat),(0 ≤ findI x l i)↔x ∈ l
 | [],i=>by simp [findI]
 | y :: l,i=>by
  by_cases h : x = y
  ·simp [findI,h]
  ·simp [findI,h,findI_mem x l (i + 1)]
theorem indexK_c (x : Int) (l : List Int) (cap : Option Nat) (hl : l.length < 1000000000000) : PureC Tryd.prog gl0 79 [.sl (l.map (.int .u8)) cap,.int .u8 x] (.int .i64 (findI x l 0)):=by
 obtain ⟨q,hq⟩ : ∃ r,findI x l 0 = r:=⟨_,rfl⟩
 rw [hq]
 refine PureC.of_W 2 ok79 rfl ?_
 simp [i79,x79]
 refine LoopP.of (X:=Nat) (fun i=>[(8,.int .i64 (i : Int)),(7,.int .i64 (l.length : Int)),(0,.sl (l.map (.int .u8)) cap),(1,.int .u8 x)]) (fun _=>[])
  (fun i=>i ≤ l.length∧findI x (l.drop i) i = q) (fun i=>l.length - i) 0 ⟨by simp,by simpa using hq⟩ (by simp) (by simp) ?_
 rintro i ⟨h2,h3⟩
 simp
 refine BrB.of (fun h1=>?_) (fun h1=>?_)
 ·have h1' : i < l.length:=of_decide_eq_true h1
  have hw : IntKind.i64.wrap ((i : Int) + 1) = ((i + 1 : Nat) : Int):=by rw [wrap_i64] <;> omega
  rw [List.drop_eq_getElem_cons h1'] at h3
  simp only [findI] at h3
  simp [h1']
  refine BrB.of (fun h4=>?_) (fun h4=>?_)
  ·rw [if_pos (of_decide_eq_true h4)] at h3
   simp [h3]
  ·rw [if_neg (of_decide_eq_false h4)] at h3
   simp [hw]
   exact ⟨i + 1,⟨h1',h3⟩,rfl,by omega⟩
 ·have h1' : i = l.length:=by have:=of_decide_eq_false h1; omega
  subst h1'
  simp [findI] at h3
  simp [h3]
@[simp] theorem pureL_u8 (l : List Int) : V.pureL (l.map (.int .u8)) = true:=pureL_map (fun _=>rfl) l
theorem contains_c (x : Int) (l : List Int) (cap : Option Nat) (hl : l.length < 1000000000000) : PureC Tryd.prog gl0 63 [.sl (l.map (.int .u8)) cap,.int .u8 x] (.bool (decide (x ∈ l))):=by
 refine PureC.of_W 2 ok63 rfl ?_
 simp [i63,x63]
 refine CallO.pure (indexK_c x l cap hl) (by simp) ?_
 simp [findI_mem]
end Go.Proofs.YtcmblmkbdenakaaDoor
