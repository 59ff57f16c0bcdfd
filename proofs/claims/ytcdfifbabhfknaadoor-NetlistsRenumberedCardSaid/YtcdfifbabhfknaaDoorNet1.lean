/- Netlists: contracts, names. Conditions: none. Netlists: contracts, copies. Conditions: none. Netlists: contracts, lists. Conditions: none. Netlists: contracts, sizes. Conditions: none. Netlists: contracts, Of. Conditions: none. -/
import Derived.Test.YtcdfifbabhfknaaDoorXG
set_option linter.unusedSimpArgs false
set_option linter.unusedVariables false
namespace Go.Proofs.YtcdfifbabhfknaaDoor
open Go
theorem comb_c (k : Int) : PureC Tryd.prog gl0 29 [.int .u8 k] (.bool (decide (1 ≤ k∧k ≤ 13))):=by
 refine PureC.of_W 2 ok29 rfl ?_
 repeat' (first | refine BrB.of (fun _=>?_) (fun _=>?_) | (intro _) | simp [*,i29,x29])
theorem idxb_c (s : List UInt8) (c : Int) (h : 0 ≤ c∧c < 256) : PureC Tryd.prog gl0 97 [.str s,.int .u8 c] (.int .i64 (idxOf c s 0)):=by
 refine PureC.of_W 2 ok97 rfl ?_
 simp [i97,x97,nop,h]
theorem idxb2_c (s : List UInt8) (c : Int) (h : 0 ≤ c∧c < 256) : PureC Tryd.prog gl0 90 [.str s,.int .u8 c] (.int .i64 (idxOf c s 0)):=by
 refine PureC.of_W 2 ok90 rfl ?_
 simp [i90,x90]
 refine CallO.pure (idxb_c s c h) rfl ?_
 simp
theorem wrap_u8 {x : Int} (h0 : 0 ≤ x) (h1 : x < 256) : IntKind.u8.wrap x = x:=by
 simp [IntKind.wrap,IntKind.bits,IntKind.signed]; omega
theorem idxr_c (s : List UInt8) (r : Int) (h : 0 ≤ r∧r < 128) : PureC Tryd.prog gl0 80 [.str s,.int .i32 r] (.int .i64 (idxOf r s 0)):=by
 have hw : IntKind.u8.wrap r = r:=wrap_u8 h.1 (by omega)
 refine PureC.of_W 2 ok80 rfl ?_
 simp [i80,x80,h,hw]
 refine CallO.pure (idxb2_c s r ⟨h.1,by omega⟩) rfl ?_
 simp
theorem crune_c (s : List UInt8) (r : Int) (h : 0 ≤ r∧r < 128) : PureC Tryd.prog gl0 55 [.str s,.int .i32 r] (.bool (decide (0 ≤ idxOf r s 0))):=by
 refine PureC.of_W 2 ok55 rfl ?_
 simp [i55,x55]
 refine CallO.pure (idxr_c s r h) rfl ?_
 simp
def badR (r : Int) : Bool:=decide (r ≤ 32) || decide (126 < r) || decide (0 ≤ idxOf r [40,41,61,44,35] 0)
theorem bad_c (r : Int) : PureC Tryd.prog gl0 54 [.int .i32 r] (.bool (badR r)):=by
 refine PureC.of_W 2 ok54 rfl ?_
 by_cases h1 : r ≤ 32
 ·simp [i54,x54,h1,badR]
 ·by_cases h2 : 126 < r
  ·simp [i54,x54,h1,h2,badR]
  ·simp [i54,x54,h1,h2,badR]
   refine CallO.pure (crune_c _ r ⟨by omega,by omega⟩) rfl ?_
   simp
def idxBadF : Nat→List UInt8→Nat→Int
 | 0,_,_=>-1
 | n + 1,s,pos=>if pos < s.length then (if badR (Utf8.decode ⟨s.toArray⟩ pos).1 = true then (pos : Int) else idxBadF n s (pos + (Utf8.decode ⟨s.toArray⟩ pos).2)) else -1
theorem dec_pos (s : List UInt8) (pos : Nat) : 1 ≤ (Utf8.decode ⟨s.toArray⟩ pos).2:=by
 simp only [Utf8.decode]
 repeat' split
 all_goals simp
theorem indexf_c (s : List UInt8) : PureC Tryd.prog gl0 94 [.str s,.fn 54 [] [],.bool true] (.int .i64 (idxBadF (s.length + 1) s 0)):=by
 obtain ⟨r,hr⟩ : ∃ r,idxBadF (s.length + 1) s 0 = r:=⟨_,rfl⟩
 rw [hr]
 refine PureC.of_W 2 ok94 rfl ?_
 simp [i94,x94,nop]
 intro gf
 refine LoopP.of (X:=Nat × Nat) (fun x=>[(0,.str s),(1,.fn 54 [] []),(2,.bool true),(10,.own 10 (gf 10))]) (fun x=>[(10,.siter (gf 10) s x.1)])
  (fun x=>s.length < x.1 + x.2∧idxBadF x.2 s x.1 = r) (fun x=>x.2) (0,s.length + 1) ⟨by simp,hr⟩ (by simp) (by simp) ?_
 rintro ⟨pos,fuel⟩ ⟨h2,h3⟩
 dsimp only at h2 h3
 cases fuel with
 | zero=>
  have hp : ¬ pos < s.length:=by omega
  simp [nop,hp,← h3,idxBadF]
 | succ fuel=>
  have hd:=dec_pos s pos
  by_cases hp : pos < s.length
  ·simp [nop,hp]
   refine CallO.pure (bad_c _) rfl ?_
   simp
   refine BrB.of (fun hb=>?_) (fun hb=>?_)
   ·simp [← h3,idxBadF,hp,hb]
   ·simp
    refine ⟨_,fuel,⟨?_,?_⟩,rfl,by omega⟩
    ·omega
    ·rw [← h3]; simp [idxBadF,hp,hb]
  ·simp [nop,hp,← h3,idxBadF]
theorem indexF_c (s : List UInt8) : PureC Tryd.prog gl0 81 [.str s,.fn 54 [] []] (.int .i64 (idxBadF (s.length + 1) s 0)):=by
 refine PureC.of_W 2 ok81 rfl ?_
 simp [i81,x81]
 refine CallO.pure (indexf_c s) rfl ?_
 simp
theorem containsF_c (s : List UInt8) : PureC Tryd.prog gl0 56 [.str s,.fn 54 [] []] (.bool (decide (0 ≤ idxBadF (s.length + 1) s 0))):=by
 refine PureC.of_W 2 ok56 rfl ?_
 simp [i56,x56]
 refine CallO.pure (indexF_c s) rfl ?_
 simp
def nameOk (s : List UInt8) : Bool:=decide (s ≠ []) && decide (s.length ≤ 32) && !(decide (0 ≤ idxBadF (s.length + 1) s 0))
theorem isName_c (s : List UInt8) : PureC Tryd.prog gl0 32 [.str s] (.bool (nameOk s)):=by
 have hc:=containsF_c s
 refine PureC.of_W 2 ok32 rfl ?_
 unfold nameOk
 generalize decide (0 ≤ idxBadF (s.length + 1) s 0) = q at *
 simp [i32,x32]
 refine BrB.of (fun h1=>?_) (fun h1=>?_)
 ·simp [h1]
 ·simp [h1]
  refine BrB.of (fun h2=>?_) (fun h2=>?_)
  ·simp [h2]
   refine CallO.pure hc rfl ?_
   simp
  ·simp [h2]
theorem pureL_map {α : Type} {f : α→V} (hf : ∀ x,(f x).pure = true) : ∀ l : List α,V.pureL (l.map f) = true
 | []=>rfl
 | x :: l=>by simp [V.pureL,hf x,pureL_map hf l]
@[simp] theorem pureL_str (l : List (List UInt8)) : V.pureL (l.map .str) = true:=pureL_map (fun _=>rfl) l
end Go.Proofs.YtcdfifbabhfknaaDoor
namespace Go.Proofs.YtcdfifbabhfknaaDoor
open Go
end Go.Proofs.YtcdfifbabhfknaaDoor
namespace Go.Proofs.YtcdfifbabhfknaaDoor
open Go
def ints (l : List Int) : List V:=l.map (.int .i64)
@[simp] theorem ints_length (l : List Int) : (ints l).length = l.length:=by simp [ints]
@[simp] theorem ints_pure (l : List Int) : V.pureL (ints l) = true:=pureL_map (fun _=>rfl) l
@[simp] theorem ints_cells (l : List Int) : ((ints l).all fun x=>decide (x.cells.length = 1)) = true:=by simp [ints]
structure Nd where
 k : Int
 i : List Int
 a : Int
 b : Int
 deriving Inhabited
def Nd.v (n : Nd) : V:=.agg [.int .u8 n.k,.sl (ints n.i) none,.int .i64 n.a,.int .i64 n.b]
structure Md where
 a : List Int
 d : List Int
 w : Int
 deriving Inhabited
def Md.v (n : Md) : V:=.agg [.sl (ints n.a) none,.sl (ints n.d) none,.int .i64 n.w]
structure Ci where
 n : List Nd
 s : List (List UInt8)
 m : List Md
 o : List Int
def Ci.v (c : Ci) : V:=.agg [.sl (c.n.map Nd.v) none,.sl (c.s.map .str) none,.sl (c.m.map Md.v) none,.sl (ints c.o) none]
@[simp] theorem nds_pure (l : List Nd) : V.pureL (l.map Nd.v) = true:=pureL_map (fun x=>by simp [Nd.v]) l
@[simp] theorem mds_pure (l : List Md) : V.pureL (l.map Md.v) = true:=pureL_map (fun x=>by simp [Md.v]) l
theorem pureL_append {a b : List V} (h : V.pureL a = true) (k : V.pureL b = true) : V.pureL (a ++ b) = true:=by
 rw [V.pureL_iff] at *
 intro v hv
 rcases List.mem_append.1 hv with q | q
 ·exact h v q
 ·exact k v q
def accV (b : Nat) : Option (Nat × List V)→V
 | none=>.nil
 | some (g,l)=>.ref b g 0 l.length none
def accH (b sz : Nat) : Option (Nat × List V)→Hp
 | none=>[]
 | some (g,l)=>[(b,.row g sz l)]
def accL : Option (Nat × List V)→List V
 | none=>[]
 | some (_,l)=>l
theorem ints_getE (l : List Int) (i : Nat) (h : i < (ints l).length) : (ints l)[i] = .int .i64 (l[i]'(by simpa using h)):=by simp [ints]
end Go.Proofs.YtcdfifbabhfknaaDoor
namespace Go.Proofs.YtcdfifbabhfknaaDoor
open Go
theorem nd_get (l : List Nd) (i : Nat) (h : i < l.length) : (l.map Nd.v)[i]'(by simpa using h) = (l[i]).v:=by simp
end Go.Proofs.YtcdfifbabhfknaaDoor
namespace Go.Proofs.YtcdfifbabhfknaaDoor
open Go
@[simp] theorem pureL_u8 (l : List Int) : V.pureL (l.map (.int .u8)) = true:=pureL_map (fun _=>rfl) l
end Go.Proofs.YtcdfifbabhfknaaDoor
