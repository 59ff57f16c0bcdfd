/- Netlists: contracts, names. Conditions: none. Netlists: contracts, copies. Conditions: none. Netlists: contracts, lists. Conditions: none. Netlists: contracts, sizes. Conditions: none. Netlists: contracts, Of. Conditions: none. -/
import Derived.Test.YtcmblmkbdenakaaGreatDoorXG
set_option linter.unusedSimpArgs false
set_option linter.unusedVariables false
namespace Go.Proofs.YtcmblmkbdenakaaGreatDoor
open Go
theorem comb_c (k : Int) : PureC Tryz.prog gl0 47 [.int .u8 k] (.bool (decide (1 ≤ k∧k ≤ 13))):=by
 refine PureC.of_W 2 ok47 rfl ?_
 repeat' (first | refine BrB.of (fun _=>?_) (fun _=>?_) | (intro _) | simp [*,i47,x47])
theorem idxb_c (s : List UInt8) (c : Int) (h : 0 ≤ c∧c < 256) : PureC Tryz.prog gl0 123 [.str s,.int .u8 c] (.int .i64 (idxOf c s 0)):=by
 refine PureC.of_W 2 ok123 rfl ?_
 simp [i123,x123,nop,h]
theorem idxb2_c (s : List UInt8) (c : Int) (h : 0 ≤ c∧c < 256) : PureC Tryz.prog gl0 118 [.str s,.int .u8 c] (.int .i64 (idxOf c s 0)):=by
 refine PureC.of_W 2 ok118 rfl ?_
 simp [i118,x118]
 refine CallO.pure (idxb_c s c h) rfl ?_
 simp
theorem wrap_u8 {x : Int} (h0 : 0 ≤ x) (h1 : x < 256) : IntKind.u8.wrap x = x:=by
 simp [IntKind.wrap,IntKind.bits,IntKind.signed]; omega
theorem idxr_c (s : List UInt8) (r : Int) (h : 0 ≤ r∧r < 128) : PureC Tryz.prog gl0 116 [.str s,.int .i32 r] (.int .i64 (idxOf r s 0)):=by
 have hw : IntKind.u8.wrap r = r:=wrap_u8 h.1 (by omega)
 refine PureC.of_W 2 ok116 rfl ?_
 simp [i116,x116,h,hw]
 refine CallO.pure (idxb2_c s r ⟨h.1,by omega⟩) rfl ?_
 simp
theorem crune_c (s : List UInt8) (r : Int) (h : 0 ≤ r∧r < 128) : PureC Tryz.prog gl0 113 [.str s,.int .i32 r] (.bool (decide (0 ≤ idxOf r s 0))):=by
 refine PureC.of_W 2 ok113 rfl ?_
 simp [i113,x113]
 refine CallO.pure (idxr_c s r h) rfl ?_
 simp
def badR (r : Int) : Bool:=decide (r ≤ 32) || decide (126 < r) || decide (0 ≤ idxOf r [40,41,61,44,35] 0)
theorem bad_c (r : Int) : PureC Tryz.prog gl0 112 [.int .i32 r] (.bool (badR r)):=by
 refine PureC.of_W 2 ok112 rfl ?_
 by_cases h1 : r ≤ 32
 ·simp [i112,x112,h1,badR]
 ·by_cases h2 : 126 < r
  ·simp [i112,x112,h1,h2,badR]
  ·simp [i112,x112,h1,h2,badR]
   refine CallO.pure (crune_c _ r ⟨by omega,by omega⟩) rfl ?_
   simp
def idxBadF : Nat→List UInt8→Nat→Int
 | 0,_,_=>-1
 | n + 1,s,pos=>if pos < s.length then (if badR (Utf8.decode ⟨s.toArray⟩ pos).1 = true then (pos : Int) else idxBadF n s (pos + (Utf8.decode ⟨s.toArray⟩ pos).2)) else -1
theorem dec_pos (s : List UInt8) (pos : Nat) : 1 ≤ (Utf8.decode ⟨s.toArray⟩ pos).2:=by
 simp only [Utf8.decode]
 repeat' split
 all_goals simp
theorem indexf_c (s : List UInt8) : PureC Tryz.prog gl0 122 [.str s,.fn 112 [] [],.bool true] (.int .i64 (idxBadF (s.length + 1) s 0)):=by
 obtain ⟨r,hr⟩ : ∃ r,idxBadF (s.length + 1) s 0 = r:=⟨_,rfl⟩
 rw [hr]
 refine PureC.of_W 2 ok122 rfl ?_
 simp [i122,x122,nop]
 intro gf
 refine LoopP.of (X:=Nat × Nat) (fun x=>[(0,.str s),(1,.fn 112 [] []),(2,.bool true),(10,.own 10 (gf 10))]) (fun x=>[(10,.siter (gf 10) s x.1)])
  (fun x=>s.length < x.1 + x.2∧idxBadF x.2 s x.1 = r) (fun x=>x.2) (0,s.length + 1) ⟨by simp,hr⟩ (by simp) (by simp) ?_
 rintro ⟨pos,fuel⟩ ⟨h2,h3⟩
 dsimp only at h2 h3
 cases fuel with
 | zero=>
  have hp : ¬ pos < s.length:=by omega
  simp [nop,hp,← h3,idxBadF]
 | succ fuel=>
  have hd:=dec_pos s pos
  by_cases hp : pos < s.length
  ·simp [nop,hp]
   refine CallO.pure (bad_c _) rfl ?_
   simp
   refine BrB.of (fun hb=>?_) (fun hb=>?_)
   ·simp [← h3,idxBadF,hp,hb]
   ·simp
    refine ⟨_,fuel,⟨?_,?_⟩,rfl,by omega⟩
    ·omega
    ·rw [← h3]; simp [idxBadF,hp,hb]
  ·simp [nop,hp,← h3,idxBadF]
theorem indexF_c (s : List UInt8) : PureC Tryz.prog gl0 117 [.str s,.fn 112 [] []] (.int .i64 (idxBadF (s.length + 1) s 0)):=by
 refine PureC.of_W 2 ok117 rfl ?_
 simp [i117,x117]
 refine CallO.pure (indexf_c s) rfl ?_
 simp
theorem containsF_c (s : List UInt8) : PureC Tryz.prog gl0 114 [.str s,.fn 112 [] []] (.bool (decide (0 ≤ idxBadF (s.length + 1) s 0))):=by
 refine PureC.of_W 2 ok114 rfl ?_
 simp [i114,x114]
 refine CallO.pure (indexF_c s) rfl ?_
 simp
def nameOk (s : List UInt8) : Bool:=decide (s ≠ []) && decide (s.length ≤ 32) && !(decide (0 ≤ idxBadF (s.length + 1) s 0))
theorem isName_c (s : List UInt8) : PureC Tryz.prog gl0 107 [.str s] (.bool (nameOk s)):=by
 have hc:=containsF_c s
 refine PureC.of_W 2 ok107 rfl ?_
 unfold nameOk
 generalize decide (0 ≤ idxBadF (s.length + 1) s 0) = q at *
 simp [i107,x107]
 refine BrB.of (fun h1=>?_) (fun h1=>?_)
 ·simp [h1]
 ·simp [h1]
  refine BrB.of (fun h2=>?_) (fun h2=>?_)
  ·simp [h2]
   refine CallO.pure hc rfl ?_
   simp
  ·simp [h2]
theorem pureL_map {α : Type} {f : α→V} (hf : ∀ x,(f x).pure = true) : ∀ l : List α,V.pureL (l.map f) = true
 | []=>rfl
 | x :: l=>by simp [V.pureL,hf x,pureL_map hf l]
@[simp] theorem pureL_str (l : List (List UInt8)) : V.pureL (l.map .str) = true:=pureL_map (fun _=>rfl) l
end Go.Proofs.YtcmblmkbdenakaaGreatDoor
namespace Go.Proofs.YtcmblmkbdenakaaGreatDoor
open Go
def Fresh (sz : Nat) (xs : List V) (v : V) (h : Hp) : Prop:=(xs = []∧v = .sl [] (some 0)∧h = [])∨∃ g,v = .ref 0 g 0 xs.length (some xs.length)∧h = [(0,.row g sz xs)]
end Go.Proofs.YtcmblmkbdenakaaGreatDoor
namespace Go.Proofs.YtcmblmkbdenakaaGreatDoor
open Go
def ints (l : List Int) : List V:=l.map (.int .i64)
@[simp] theorem ints_length (l : List Int) : (ints l).length = l.length:=by simp [ints]
@[simp] theorem ints_pure (l : List Int) : V.pureL (ints l) = true:=pureL_map (fun _=>rfl) l
@[simp] theorem ints_cells (l : List Int) : ((ints l).all fun x=>decide (x.cells.length = 1)) = true:=by simp [ints]
structure Nd where
 k : Int
 i : List Int
 a : Int
 b : Int
 deriving Inhabited
def Nd.v (n : Nd) : V:=.agg [.int .u8 n.k,.sl (ints n.i) none,.int .i64 n.a,.int .i64 n.b]
structure Md where
 a : List Int
 d : List Int
 w : Int
 deriving Inhabited
def Md.v (n : Md) : V:=.agg [.sl (ints n.a) none,.sl (ints n.d) none,.int .i64 n.w]
structure Ci where
 n : List Nd
 s : List (List UInt8)
 m : List Md
 o : List Int
def Ci.v (c : Ci) : V:=.agg [.sl (c.n.map Nd.v) none,.sl (c.s.map .str) none,.sl (c.m.map Md.v) none,.sl (ints c.o) none]
@[simp] theorem nds_pure (l : List Nd) : V.pureL (l.map Nd.v) = true:=pureL_map (fun x=>by simp [Nd.v]) l
@[simp] theorem mds_pure (l : List Md) : V.pureL (l.map Md.v) = true:=pureL_map (fun x=>by simp [Md.v]) l
theorem pureL_append {a b : List V} (h : V.pureL a = true) (k : V.pureL b = true) : V.pureL (a ++ b) = true:=by
 rw [V.pureL_iff] at *
 intro v hv
 rcases List.mem_append.1 hv with q | q
 ·exact h v q
 ·exact k v q
def accV (b : Nat) : Option (Nat × List V)→V
 | none=>.nil
 | some (g,l)=>.ref b g 0 l.length none
def accH (b sz : Nat) : Option (Nat × List V)→Hp
 | none=>[]
 | some (g,l)=>[(b,.row g sz l)]
def accL : Option (Nat × List V)→List V
 | none=>[]
 | some (_,l)=>l
theorem ints_getE (l : List Int) (i : Nat) (h : i < (ints l).length) : (ints l)[i] = .int .i64 (l[i]'(by simpa using h)):=by simp [ints]
end Go.Proofs.YtcmblmkbdenakaaGreatDoor
namespace Go.Proofs.YtcmblmkbdenakaaGreatDoor
open Go
end Go.Proofs.YtcmblmkbdenakaaGreatDoor
namespace Go.Proofs.YtcmblmkbdenakaaGreatDoor
open Go
def findI (x : Int) : List Int→Nat→Int
 | [],_=>-1
 | y :: r,i=>if x = y then (i : Int) else findI x r (i + 1)
theorem findI_mem (x : Int) : ∀ (l : List Int) (i : Nat),(0 ≤ findI x l i)↔x ∈ l
 | [],i=>by simp [findI]
 | y :: l,i=>by
  by_cases h : x = y
  ·simp [findI,h]
  ·simp [findI,h,findI_mem x l (i + 1)]
theorem indexK_c (x : Int) (l : List Int) (cap : Option Nat) (hl : l.length < 1000000000000) : PureC Tryz.prog gl0 92 [.sl (l.map (.int .u8)) cap,.int .u8 x] (.int .i64 (findI x l 0)):=by
 obtain ⟨q,hq⟩ : ∃ r,findI x l 0 = r:=⟨_,rfl⟩
 rw [hq]
 refine PureC.of_W 2 ok92 rfl ?_
 simp [i92,x92]
 refine LoopP.of (X:=Nat) (fun i=>[(8,.int .i64 (i : Int)),(7,.int .i64 (l.length : Int)),(0,.sl (l.map (.int .u8)) cap),(1,.int .u8 x)]) (fun _=>[])
  (fun i=>i ≤ l.length∧findI x (l.drop i) i = q) (fun i=>l.length - i) 0 ⟨by simp,by simpa using hq⟩ (by simp) (by simp) ?_
 rintro i ⟨h2,h3⟩
 simp
 refine BrB.of (fun h1=>?_) (fun h1=>?_)
 ·have h1' : i < l.length:=of_decide_eq_true h1
  have hw : IntKind.i64.wrap ((i : Int) + 1) = ((i + 1 : Nat) : Int):=by rw [wrap_i64] <;> omega
  rw [List.drop_eq_getElem_cons h1'] at h3
  simp only [findI] at h3
  simp [h1']
  refine BrB.of (fun h4=>?_) (fun h4=>?_)
  ·rw [if_pos (of_decide_eq_true h4)] at h3
   simp [h3]
  ·rw [if_neg (of_decide_eq_false h4)] at h3
   simp [hw]
   exact ⟨i + 1,⟨h1',h3⟩,rfl,by omega⟩
 ·have h1' : i = l.length:=by have:=of_decide_eq_false h1; omega
  subst h1'
  simp [findI] at h3
  simp [h3]
@[simp] theorem pureL_u8 (l : List Int) : V.pureL (l.map (.int .u8)) = true:=pureL_map (fun _=>rfl) l
theorem contains_c (x : Int) (l : List Int) (cap : Option Nat) (hl : l.length < 1000000000000) : PureC Tryz.prog gl0 77 [.sl (l.map (.int .u8)) cap,.int .u8 x] (.bool (decide (x ∈ l))):=by
 refine PureC.of_W 2 ok77 rfl ?_
 simp [i77,x77]
 refine CallO.pure (indexK_c x l cap hl) (by simp) ?_
 simp [findI_mem]
def ofLs (ks : List Int) : List Nd→Nat→List V
 | [],_=>[]
 | n :: r,i=>if n.k ∈ ks then .int .i64 (i : Int) :: ofLs ks r (i + 1) else ofLs ks r (i + 1)
theorem of_c (c : Ci) (ks : List Int) (cap : Option Nat) (hl : c.n.length < 1000000) (hk : ks.length < 1000000000000) : OwnC Tryz.prog gl0 49 [c.v,.sl (ks.map (.int .u8)) cap] (Fresh 1 (ofLs ks c.n 0)):=by
 refine OwnC.of_W ok49 rfl ?_
 obtain ⟨q,hq⟩ : ∃ r,ofLs ks c.n 0 = r:=⟨_,rfl⟩
 rw [hq]
 simp [i49,x49,Ci.v]
 intro gf
 refine LoopP.of (X:=Nat × Option (Nat × List V)) (fun x=>[(11,.int .i64 (x.1 : Int)),(10,.int .i64 (c.n.length : Int)),(9,.sl (c.n.map Nd.v) none),(5,accV 23 x.2),(1,.sl (ks.map (.int .u8)) cap)])
  (fun x=>accH 23 1 x.2)
  (fun x=>x.1 ≤ c.n.length∧(x.2 = none∨accL x.2 ≠ [])∧(accL x.2).length ≤ x.1∧V.pureL (accL x.2) = true∧accL x.2 ++ ofLs ks (c.n.drop x.1) x.1 = q) (fun x=>c.n.length - x.1) (0,none) ⟨by simp,by simp,by simp [accL],by simp [accL],by simpa [accL] using hq⟩ (by simp [accV]) (by simp [accH]) ?_
 rintro ⟨i,acc⟩ ⟨h1,h2,h3,h4,h5⟩
 dsimp only at h1 h2 h3 h4 h5
 simp
 refine BrB.of (fun hb=>?_) (fun hb=>?_)
 ·have hi : i < c.n.length:=of_decide_eq_true hb
  have hw : IntKind.i64.wrap ((i : Int) + 1) = ((i + 1 : Nat) : Int):=by rw [wrap_i64] <;> omega
  rw [List.drop_eq_getElem_cons hi] at h5
  simp only [ofLs] at h5
  simp [hi,Nd.v]
  intro gf2
  refine CallO.pure (contains_c _ ks cap hk) (by simp) ?_
  simp
  refine BrB.of (fun hk=>?_) (fun hk=>?_)
  ·rw [if_pos (of_decide_eq_true hk)] at h5
   cases acc with
   | none=>
    simp [accV,accH,hw]
    refine fun gf1 gf2=>⟨i + 1,some (gf2 23,[.int .i64 i]),?_⟩
    simp [accL] at h5 ⊢
    exact ⟨⟨by omega,h5⟩,by omega⟩
   | some gl=>
    obtain ⟨g,l⟩:=gl
    simp only [accL] at h3 h4 h5 h2
    have hle : l.length + 1 ≤ 274877906944:=by omega
    simp [accV,accH,hw,hle]
    refine fun gf1 gf2=>⟨i + 1,some (gf2 23,l ++ [.int .i64 i]),?_⟩
    simp [accL,h5,List.append_assoc]
    exact ⟨⟨by omega,by omega,pureL_append h4 rfl⟩,by omega⟩
  ·rw [if_neg (of_decide_eq_false hk)] at h5
   simp [hw]
   exact ⟨i + 1,acc,⟨by omega,h2,by omega,h4,h5⟩,⟨rfl,rfl⟩,by cases acc <;> simp [accH],by omega⟩
 ·have hi : ¬ i < c.n.length:=of_decide_eq_false hb
  rw [List.drop_eq_nil_of_le (by omega)] at h5
  simp only [ofLs,List.append_nil] at h5
  cases acc with
  | none=>
   simp [accL] at h5
   subst h5
   simp [accV,accH]
   refine CallO.of_W ok78 rfl ?_
   simp [i78,x78]
   exact .done (by simpa using ⟨[],trivial,.done (by simp [Fresh])⟩)
  | some gl=>
   obtain ⟨g,l⟩:=gl
   simp only [accL] at h3 h4 h5 h2
   subst h5
   simp [accV,accH]
   refine CallO.of_W ok78 rfl ?_
   simp [i78,x78]
   refine .done ?_
   simp only [lk,if_true]
   refine ⟨[(23,Blk.row g 1 l)],by simp,.move 23 0 _ (by simp) (by simp; rfl) fun g2=>.done ?_⟩
   simp [map_rn_pure h4,Fresh]
theorem ofLs_noG (ks : List Int) : ∀ (l : List Nd) (i : Nat),V.noGL (ofLs ks l i) = true∧V.pureL (ofLs ks l i) = true
 | [],i=>⟨rfl,rfl⟩
 | n :: r,i=>by
  obtain ⟨h1,h2⟩:=ofLs_noG ks r (i + 1)
  simp only [ofLs]
  split
  ·exact ⟨by simp [V.noGL,V.noG,h1],by simp [V.pureL,V.pure,h2]⟩
  ·exact ⟨h1,h2⟩
theorem states_c (c : Ci) (hl : c.n.length < 1000000) : OwnC Tryz.prog gl0 18 [c.v] (Fresh 1 (ofLs [14] c.n 0)):=by
 obtain ⟨n1,n2⟩:=ofLs_noG [14] c.n 0
 refine OwnC.of_W ok18 rfl ?_
 simp [i18,x18,Ci.v]
 intro gf gf2
 refine CallO.ownBorrow 1 1000 (of_c c [14] (some 1) hl (by simp)) (by simp [Ci.v,mapRL_pure]) (by simp) ?_
 rintro v h' (⟨hq,rfl,rfl⟩ | ⟨g,rfl,rfl⟩)
 ·refine ⟨rfl,fun b k hb=>by simp [lk] at hb,fun gf=>?_⟩
  simp
  exact .done (by simpa using ⟨[],trivial,by simp [Fresh,hq]⟩)
 ·refine ⟨rfl,fun b k hb=>?_,fun gf=>?_⟩
  ·simp only [lk] at hb
   split at hb
   ·cases hb; exact n1
   ·cases hb
  ·simp [map_rn_pure n2]
   refine .move 1000 0 _ (by simp) (by simp; rfl) fun g2=>.done ?_
   simp [map_rn_pure n2,Fresh]
end Go.Proofs.YtcmblmkbdenakaaGreatDoor
