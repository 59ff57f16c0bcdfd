/- The package-level variables that the program reads. Conditions: none. -/
import Derived.Test.YtpaopccohkldlaaGreatDoorXT
set_option linter.unusedSimpArgs false
set_option linter.unusedVariables false
namespace Go.Proofs.YtpaopccohkldlaaGreatDoor
open Go
def tab7 : V:=.agg ([0,1,28,2,29,14,24,3,30,22,20,15,25,17,4,8,31,27,13,23,21,19,16,7,26,12,18,6,11,5,10,9].map (V.int .u8))
def tab8 : V:=.agg ([0,1,56,2,57,49,28,3,61,58,42,50,38,29,17,4,62,47,59,36,45,43,51,22,53,39,33,30,24,18,12,5,63,55,48,27,60,41,37,16,46,35,44,21,52,32,23,11,54,26,40,15,34,20,31,10,25,14,19,9,13,8,7,6].map (V.int .u8))
def tab2 : V:=.agg ([1,10,100,1000,10000,100000,1000000,10000000,100000000,1000000000,10000000000,100000000000,1000000000000,10000000000000,100000000000000,1000000000000000,10000000000000000,100000000000000000,1000000000000000000,10000000000000000000].map (V.int .u64))
def gl0 : Fr:=[(7,.iptr tab7 0),(8,.iptr tab8 0),(2,.iptr tab2 0),(6,.iptr (.err false) 0),(5,.iptr (.err false) 0),(1,.iptr (.agg ([0,0,0,0,0,0,1,1,1,1,2,16,2,16,2,16,2,16,2,16,2,16,3,3,2,2,1,16,1,1,0,0].map (V.int .i64))) 0),(0,.iptr (.agg [.int .i64 (-1),.int .i64 0,.int .i64 0]) 0)]
theorem gl_leaf : lk gl0 0 = some (.iptr (.agg [.int .i64 (-1),.int .i64 0,.int .i64 0]) 0):=rfl
end Go.Proofs.YtpaopccohkldlaaGreatDoor
namespace Go.Proofs.YtpaopccohkldlaaGreatDoor
open Go
theorem comb_c (k : Int) : PureC Tryz.prog gl0 82 [.int .u8 k] (.bool (decide (1 ≤ k∧k ≤ 13))):=by
 refine PureC.of_W 2 ok82 rfl ?_
 repeat' (first | refine BrB.of (fun _=>?_) (fun _=>?_) | (intro _) | simp [*,i82,x82])
theorem idxb_c (s : List UInt8) (c : Int) (h : 0 ≤ c∧c < 256) : PureC Tryz.prog gl0 245 [.str s,.int .u8 c] (.int .i64 (idxOf c s 0)):=by
 refine PureC.of_W 2 ok245 rfl ?_
 simp [i245,x245,nop,h]
theorem idxb2_c (s : List UInt8) (c : Int) (h : 0 ≤ c∧c < 256) : PureC Tryz.prog gl0 240 [.str s,.int .u8 c] (.int .i64 (idxOf c s 0)):=by
 refine PureC.of_W 2 ok240 rfl ?_
 simp [i240,x240]
 refine CallO.pure (idxb_c s c h) rfl ?_
 simp
theorem wrap_u8 {x : Int} (h0 : 0 ≤ x) (h1 : x < 256) : IntKind.u8.wrap x = x:=by
 simp [IntKind.wrap,IntKind.bits,IntKind.signed]; omega
theorem idxr_c (s : List UInt8) (r : Int) (h : 0 ≤ r∧r < 128) : PureC Tryz.prog gl0 238 [.str s,.int .i32 r] (.int .i64 (idxOf r s 0)):=by
 have hw : IntKind.u8.wrap r = r:=wrap_u8 h.1 (by omega)
 refine PureC.of_W 2 ok238 rfl ?_
 simp [i238,x238,h,hw]
 refine CallO.pure (idxb2_c s r ⟨h.1,by omega⟩) rfl ?_
 simp
theorem crune_c (s : List UInt8) (r : Int) (h : 0 ≤ r∧r < 128) : PureC Tryz.prog gl0 229 [.str s,.int .i32 r] (.bool (decide (0 ≤ idxOf r s 0))):=by
 refine PureC.of_W 2 ok229 rfl ?_
 simp [i229,x229]
 refine CallO.pure (idxr_c s r h) rfl ?_
 simp
def badR (r : Int) : Bool:=decide (r ≤ 32) || decide (126 < r) || decide (0 ≤ idxOf r [40,41,61,44,35] 0)
theorem bad_c (r : Int) : PureC Tryz.prog gl0 228 [.int .i32 r] (.bool (badR r)):=by
 refine PureC.of_W 2 ok228 rfl ?_
 by_cases h1 : r ≤ 32
 ·simp [i228,x228,h1,badR]
 ·by_cases h2 : 126 < r
  ·simp [i228,x228,h1,h2,badR]
  ·simp [i228,x228,h1,h2,badR]
   refine CallO.pure (crune_c _ r ⟨by omega,by omega⟩) rfl ?_
   simp
def idxBadF : Nat→List UInt8→Nat→Int
 | 0,_,_=>-1
 | n + 1,s,pos=>if pos < s.length then (if badR (Utf8.decode ⟨s.toArray⟩ pos).1 = true then (pos : Int) else idxBadF n s (pos + (Utf8.decode ⟨s.toArray⟩ pos).2)) else -1
theorem dec_pos (s : List UInt8) (pos : Nat) : 1 ≤ (Utf8.decode ⟨s.toArray⟩ pos).2:=by
 simp only [Utf8.decode]
 repeat' split
 all_goals simp
theorem indexf_c (s : List UInt8) : PureC Tryz.prog gl0 244 [.str s,.fn 228 [] [],.bool true] (.int .i64 (idxBadF (s.length + 1) s 0)):=by
 obtain ⟨r,hr⟩ : ∃ r,idxBadF (s.length + 1) s 0 = r:=⟨_,rfl⟩
 rw [hr]
 refine PureC.of_W 2 ok244 rfl ?_
 simp [i244,x244,nop]
 intro gf
 refine LoopP.of (X:=Nat × Nat) (fun x=>[(0,.str s),(1,.fn 228 [] []),(2,.bool true),(10,.own 10 (gf 10))]) (fun x=>[(10,.siter (gf 10) s x.1)])
  (fun x=>s.length < x.1 + x.2∧idxBadF x.2 s x.1 = r) (fun x=>x.2) (0,s.length + 1) ⟨by simp,hr⟩ (by simp) (by simp) ?_
 rintro ⟨pos,fuel⟩ ⟨h2,h3⟩
 dsimp only at h2 h3
 cases fuel with
 | zero=>
  have hp : ¬ pos < s.length:=by omega
  simp [nop,hp,← h3,idxBadF]
 | succ fuel=>
  have hd:=dec_pos s pos
  by_cases hp : pos < s.length
  ·simp [nop,hp]
   refine CallO.pure (bad_c _) rfl ?_
   simp
   refine BrB.of (fun hb=>?_) (fun hb=>?_)
   ·simp [← h3,idxBadF,hp,hb]
   ·simp
    refine ⟨_,fuel,⟨?_,?_⟩,rfl,by omega⟩
    ·omega
    ·rw [← h3]; simp [idxBadF,hp,hb]
  ·simp [nop,hp,← h3,idxBadF]
theorem indexF_c (s : List UInt8) : PureC Tryz.prog gl0 239 [.str s,.fn 228 [] []] (.int .i64 (idxBadF (s.length + 1) s 0)):=by
 refine PureC.of_W 2 ok239 rfl ?_
 simp [i239,x239]
 refine CallO.pure (indexf_c s) rfl ?_
 simp
theorem containsF_c (s : List UInt8) : PureC Tryz.prog gl0 230 [.str s,.fn 228 [] []] (.bool (decide (0 ≤ idxBadF (s.length + 1) s 0))):=by
 refine PureC.of_W 2 ok230 rfl ?_
 simp [i230,x230]
 refine CallO.pure (indexF_c s) rfl ?_
 simp
def nameOk (s : List UInt8) : Bool:=decide (s ≠ []) && decide (s.length ≤ 32) && !(decide (0 ≤ idxBadF (s.length + 1) s 0))
theorem isName_c (s : List UInt8) : PureC Tryz.prog gl0 209 [.str s] (.bool (nameOk s)):=by
 have hc:=containsF_c s
 refine PureC.of_W 2 ok209 rfl ?_
 unfold nameOk
 generalize decide (0 ≤ idxBadF (s.length + 1) s 0) = q at *
 simp [i209,x209]
 refine BrB.of (fun h1=>?_) (fun h1=>?_)
 ·simp [h1]
 ·simp [h1]
  refine BrB.of (fun h2=>?_) (fun h2=>?_)
  ·simp [h2]
   refine CallO.pure hc rfl ?_
   simp
  ·simp [h2]
theorem pureL_map {α : Type} {f : α→V} (hf : ∀ x,(f x).pure = true) : ∀ l : List α,V.pureL (l.map f) = true
 | []=>rfl
 | x :: l=>by simp [V.pureL,hf x,pureL_map hf l]
@[simp] theorem pureL_str (l : List (List UInt8)) : V.pureL (l.map .str) = true:=pureL_map (fun _=>rfl) l
end Go.Proofs.YtpaopccohkldlaaGreatDoor
namespace Go.Proofs.YtpaopccohkldlaaGreatDoor
open Go
def Fresh (sz : Nat) (xs : List V) (v : V) (h : Hp) : Prop:=(xs = []∧v = .sl [] (some 0)∧h = [])∨∃ g,v = .ref 0 g 0 xs.length (some xs.length)∧h = [(0,.row g sz xs)]
end Go.Proofs.YtpaopccohkldlaaGreatDoor
namespace Go.Proofs.YtpaopccohkldlaaGreatDoor
open Go
def ints (l : List Int) : List V:=l.map (.int .i64)
@[simp] theorem ints_length (l : List Int) : (ints l).length = l.length:=by simp [ints]
@[simp] theorem ints_pure (l : List Int) : V.pureL (ints l) = true:=pureL_map (fun _=>rfl) l
@[simp] theorem ints_cells (l : List Int) : ((ints l).all fun x=>decide (x.cells.length = 1)) = true:=by simp [ints]
structure Nd where
 k : Int
 i : List Int
 a : Int
 b : Int
 deriving Inhabited
def Nd.v (n : Nd) : V:=.agg [.int .u8 n.k,.sl (ints n.i) none,.int .i64 n.a,.int .i64 n.b]
structure Md where
 a : List Int
 d : List Int
 w : Int
 deriving Inhabited
def Md.v (n : Md) : V:=.agg [.sl (ints n.a) none,.sl (ints n.d) none,.int .i64 n.w]
structure Ci where
 n : List Nd
 s : List (List UInt8)
 m : List Md
 o : List Int
def Ci.v (c : Ci) : V:=.agg [.sl (c.n.map Nd.v) none,.sl (c.s.map .str) none,.sl (c.m.map Md.v) none,.sl (ints c.o) none]
@[simp] theorem nds_pure (l : List Nd) : V.pureL (l.map Nd.v) = true:=pureL_map (fun x=>by simp [Nd.v]) l
@[simp] theorem mds_pure (l : List Md) : V.pureL (l.map Md.v) = true:=pureL_map (fun x=>by simp [Md.v]) l
theorem pureL_append {a b : List V} (h : V.pureL a = true) (k : V.pureL b = true) : V.pureL (a ++ b) = true:=by
 rw [V.pureL_iff] at *
 intro v hv
 rcases List.mem_append.1 hv with q | q
 ·exact h v q
 ·exact k v q
theorem map_frz_pure {l : List V} (h : V.pureL l = true) {f : Nat→Nat→Nat→Nat→Option Nat→V} {p : Nat→Nat→Nat→Nat→V} : (l.map fun x=>V.mapR f p x) = l:=by
 have:=mapRL_pure (f:=f) (p:=p) l h
 rw [mapRL_eq] at this; exact this
def accV (b : Nat) : Option (Nat × List V)→V
 | none=>.nil
 | some (g,l)=>.ref b g 0 l.length none
def accH (b sz : Nat) : Option (Nat × List V)→Hp
 | none=>[]
 | some (g,l)=>[(b,.row g sz l)]
def accL : Option (Nat × List V)→List V
 | none=>[]
 | some (_,l)=>l
def listV (l : List V) : V:=match l with
 | []=>.nil
 | _ :: _=>.sl l none
theorem ints_getE (l : List Int) (i : Nat) (h : i < (ints l).length) : (ints l)[i] = .int .i64 (l[i]'(by simpa using h)):=by simp [ints]
end Go.Proofs.YtpaopccohkldlaaGreatDoor
namespace Go.Proofs.YtpaopccohkldlaaGreatDoor
open Go
end Go.Proofs.YtpaopccohkldlaaGreatDoor
namespace Go.Proofs.YtpaopccohkldlaaGreatDoor
open Go
def findI (x : Int) : List Int→Nat→Int
 | [],_=>-1
 | y :: r,i=>if x = y then (i : Int) else findI x r (i + 1)
theorem findI_mem (x : Int) : ∀ (l : List Int) (i : Nat),(0 ≤ findI x l i)↔x ∈ l
 | [],i=>by simp [findI]
 | y :: l,i=>by
  by_cases h : x = y
  ·simp [findI,h]
  ·simp [findI,h,findI_mem x l (i + 1)]
theorem indexK_c (x : Int) (l : List Int) (cap : Option Nat) (hl : l.length < 1000000000000) : PureC Tryz.prog gl0 166 [.sl (l.map (.int .u8)) cap,.int .u8 x] (.int .i64 (findI x l 0)):=by
 obtain ⟨q,hq⟩ : ∃ r,findI x l 0 = r:=⟨_,rfl⟩
 rw [hq]
 refine PureC.of_W 2 ok166 rfl ?_
 simp [i166,x166]
 refine LoopP.of (X:=Nat) (fun i=>[(8,.int .i64 (i : Int)),(7,.int .i64 (l.length : Int)),(0,.sl (l.map (.int .u8)) cap),(1,.int .u8 x)]) (fun _=>[])
  (fun i=>i ≤ l.length∧findI x (l.drop i) i = q) (fun i=>l.length - i) 0 ⟨by simp,by simpa using hq⟩ (by simp) (by simp) ?_
 rintro i ⟨h2,h3⟩
 simp
 refine BrB.of (fun h1=>?_) (fun h1=>?_)
 ·have h1' : i < l.length:=of_decide_eq_true h1
  have hw : IntKind.i64.wrap ((i : Int) + 1) = ((i + 1 : Nat) : Int):=by rw [wrap_i64] <;> omega
  rw [List.drop_eq_getElem_cons h1'] at h3
  simp only [findI] at h3
  simp [h1']
  refine BrB.of (fun h4=>?_) (fun h4=>?_)
  ·rw [if_pos (of_decide_eq_true h4)] at h3
   simp [h3]
  ·rw [if_neg (of_decide_eq_false h4)] at h3
   simp [hw]
   exact ⟨i + 1,⟨h1',h3⟩,rfl,by omega⟩
 ·have h1' : i = l.length:=by have:=of_decide_eq_false h1; omega
  subst h1'
  simp [findI] at h3
  simp [h3]
@[simp] theorem pureL_u8 (l : List Int) : V.pureL (l.map (.int .u8)) = true:=pureL_map (fun _=>rfl) l
theorem contains_c (x : Int) (l : List Int) (cap : Option Nat) (hl : l.length < 1000000000000) : PureC Tryz.prog gl0 130 [.sl (l.map (.int .u8)) cap,.int .u8 x] (.bool (decide (x ∈ l))):=by
 refine PureC.of_W 2 ok130 rfl ?_
 simp [i130,x130]
 refine CallO.pure (indexK_c x l cap hl) (by simp) ?_
 simp [findI_mem]
def ofLs (ks : List Int) : List Nd→Nat→List V
 | [],_=>[]
 | n :: r,i=>if n.k ∈ ks then .int .i64 (i : Int) :: ofLs ks r (i + 1) else ofLs ks r (i + 1)
theorem of_c (c : Ci) (ks : List Int) (cap : Option Nat) (hl : c.n.length < 1000000) (hk : ks.length < 1000000000000) : OwnC Tryz.prog gl0 88 [c.v,.sl (ks.map (.int .u8)) cap] (Fresh 1 (ofLs ks c.n 0)):=by
 refine OwnC.of_W ok88 rfl ?_
 obtain ⟨q,hq⟩ : ∃ r,ofLs ks c.n 0 = r:=⟨_,rfl⟩
 rw [hq]
 simp [i88,x88,Ci.v]
 intro gf
 refine LoopP.of (X:=Nat × Option (Nat × List V)) (fun x=>[(11,.int .i64 (x.1 : Int)),(10,.int .i64 (c.n.length : Int)),(9,.sl (c.n.map Nd.v) none),(5,accV 23 x.2),(1,.sl (ks.map (.int .u8)) cap)])
  (fun x=>accH 23 1 x.2)
  (fun x=>x.1 ≤ c.n.length∧(x.2 = none∨accL x.2 ≠ [])∧(accL x.2).length ≤ x.1∧V.pureL (accL x.2) = true∧accL x.2 ++ ofLs ks (c.n.drop x.1) x.1 = q) (fun x=>c.n.length - x.1) (0,none) ⟨by simp,by simp,by simp [accL],by simp [accL],by simpa [accL] using hq⟩ (by simp [accV]) (by simp [accH]) ?_
 rintro ⟨i,acc⟩ ⟨h1,h2,h3,h4,h5⟩
 dsimp only at h1 h2 h3 h4 h5
 simp
 refine BrB.of (fun hb=>?_) (fun hb=>?_)
 ·have hi : i < c.n.length:=of_decide_eq_true hb
  have hw : IntKind.i64.wrap ((i : Int) + 1) = ((i + 1 : Nat) : Int):=by rw [wrap_i64] <;> omega
  rw [List.drop_eq_getElem_cons hi] at h5
  simp only [ofLs] at h5
  simp [hi,Nd.v]
  intro gf2
  refine CallO.pure (contains_c _ ks cap hk) (by simp) ?_
  simp
  refine BrB.of (fun hk=>?_) (fun hk=>?_)
  ·rw [if_pos (of_decide_eq_true hk)] at h5
   cases acc with
   | none=>
    simp [accV,accH,hw]
    refine fun gf1 gf2=>⟨i + 1,some (gf2 23,[.int .i64 i]),?_⟩
    simp [accL] at h5 ⊢
    exact ⟨⟨by omega,h5⟩,by omega⟩
   | some gl=>
    obtain ⟨g,l⟩:=gl
    simp only [accL] at h3 h4 h5 h2
    have hle : l.length + 1 ≤ 274877906944:=by omega
    simp [accV,accH,hw,hle]
    refine fun gf1 gf2=>⟨i + 1,some (gf2 23,l ++ [.int .i64 i]),?_⟩
    simp [accL,h5,List.append_assoc]
    exact ⟨⟨by omega,by omega,pureL_append h4 rfl⟩,by omega⟩
  ·rw [if_neg (of_decide_eq_false hk)] at h5
   simp [hw]
   exact ⟨i + 1,acc,⟨by omega,h2,by omega,h4,h5⟩,⟨rfl,rfl⟩,by cases acc <;> simp [accH],by omega⟩
 ·have hi : ¬ i < c.n.length:=of_decide_eq_false hb
  rw [List.drop_eq_nil_of_le (by omega)] at h5
  simp only [ofLs,List.append_nil] at h5
  cases acc with
  | none=>
   simp [accL] at h5
   subst h5
   simp [accV,accH]
   refine CallO.of_W ok131 rfl ?_
   simp [i131,x131]
   exact .done (by simpa using ⟨[],trivial,.done (by simp [Fresh])⟩)
  | some gl=>
   obtain ⟨g,l⟩:=gl
   simp only [accL] at h3 h4 h5 h2
   subst h5
   simp [accV,accH]
   refine CallO.of_W ok131 rfl ?_
   simp [i131,x131]
   refine .done ?_
   simp only [lk,if_true]
   refine ⟨[(23,Blk.row g 1 l)],by simp,.move 23 0 _ (by simp) (by simp; rfl) fun g2=>.done ?_⟩
   simp [map_rn_pure h4,Fresh]
theorem ofLs_noG (ks : List Int) : ∀ (l : List Nd) (i : Nat),V.noGL (ofLs ks l i) = true∧V.pureL (ofLs ks l i) = true
 | [],i=>⟨rfl,rfl⟩
 | n :: r,i=>by
  obtain ⟨h1,h2⟩:=ofLs_noG ks r (i + 1)
  simp only [ofLs]
  split
  ·exact ⟨by simp [V.noGL,V.noG,h1],by simp [V.pureL,V.pure,h2]⟩
  ·exact ⟨h1,h2⟩
theorem inputs_c (c : Ci) (hl : c.n.length < 1000000) : OwnC Tryz.prog gl0 44 [c.v] (Fresh 1 (ofLs [0] c.n 0)):=by
 obtain ⟨n1,n2⟩:=ofLs_noG [0] c.n 0
 refine OwnC.of_W ok44 rfl ?_
 simp [i44,x44,Ci.v]
 intro gf gf2
 refine CallO.ownBorrow 1 1000 (of_c c [0] (some 1) hl (by simp)) (by simp [Ci.v,mapRL_pure]) (by simp) ?_
 rintro v h' (⟨hq,rfl,rfl⟩ | ⟨g,rfl,rfl⟩)
 ·refine ⟨rfl,fun b k hb=>by simp [lk] at hb,fun gf=>?_⟩
  simp
  exact .done (by simpa using ⟨[],trivial,by simp [Fresh,hq]⟩)
 ·refine ⟨rfl,fun b k hb=>?_,fun gf=>?_⟩
  ·simp only [lk] at hb
   split at hb
   ·cases hb; exact n1
   ·cases hb
  ·simp [map_rn_pure n2]
   refine .move 1000 0 _ (by simp) (by simp; rfl) fun g2=>.done ?_
   simp [map_rn_pure n2,Fresh]
theorem states_c (c : Ci) (hl : c.n.length < 1000000) : OwnC Tryz.prog gl0 45 [c.v] (Fresh 1 (ofLs [14] c.n 0)):=by
 obtain ⟨n1,n2⟩:=ofLs_noG [14] c.n 0
 refine OwnC.of_W ok45 rfl ?_
 simp [i45,x45,Ci.v]
 intro gf gf2
 refine CallO.ownBorrow 1 1000 (of_c c [14] (some 1) hl (by simp)) (by simp [Ci.v,mapRL_pure]) (by simp) ?_
 rintro v h' (⟨hq,rfl,rfl⟩ | ⟨g,rfl,rfl⟩)
 ·refine ⟨rfl,fun b k hb=>by simp [lk] at hb,fun gf=>?_⟩
  simp
  exact .done (by simpa using ⟨[],trivial,by simp [Fresh,hq]⟩)
 ·refine ⟨rfl,fun b k hb=>?_,fun gf=>?_⟩
  ·simp only [lk] at hb
   split at hb
   ·cases hb; exact n1
   ·cases hb
  ·simp [map_rn_pure n2]
   refine .move 1000 0 _ (by simp) (by simp; rfl) fun g2=>.done ?_
   simp [map_rn_pure n2,Fresh]
end Go.Proofs.YtpaopccohkldlaaGreatDoor
namespace Go.Proofs.YtpaopccohkldlaaGreatDoor
open Go
def lineV (i k : Nat) : V:=.agg [.int .i64 (i : Int),.int .i64 (k : Int)]
def pinL (w : Int) (i : Nat) : List Int→Nat→List V
 | [],_=>[]
 | x :: r,k=>if x = w then lineV i k :: pinL w i r (k + 1) else pinL w i r (k + 1)
def rfanL (w : Int) : List Nd→Nat→List V
 | [],_=>[]
 | n :: r,i=>pinL w i n.i 0 ++ rfanL w r (i + 1)
end Go.Proofs.YtpaopccohkldlaaGreatDoor
namespace Go.Proofs.YtpaopccohkldlaaGreatDoor
open Go
theorem ci_pure (c : Ci) : c.v.pure = true:=by simp [Ci.v]
theorem outside_c (c : Ci) : PureC Tryz.prog gl0 184 [c.v] (.fn 212 [] [.iptr c.v 0]):=by
 refine PureC.of_W 2 ok184 rfl ?_
 simp [i184,x184,Ci.v,mapRL_pure]
theorem outsideF_c (c : Ci) (i : Int) : PureC Tryz.prog gl0 212 [.int .i64 i,.iptr c.v 0] (.bool (decide (i < 0) || decide ((c.n.length : Int) ≤ i))):=by
 refine PureC.of_W 2 ok212 rfl ?_
 simp [i212,x212,Ci.v]
 refine BrB.of (fun h1=>?_) (fun h1=>?_)
 ·simp [h1]
 ·simp [h1]
end Go.Proofs.YtpaopccohkldlaaGreatDoor
namespace Go.Proofs.YtpaopccohkldlaaGreatDoor
open Go
abbrev Fam:=List (Option (Nat × List V))
def famH (sz b : Nat) : Fam→Hp
 | []=>[]
 | x :: r=>accH b sz x ++ famH sz (b + 1) r
def famV (b : Nat) : Fam→List V
 | []=>[]
 | x :: r=>accV b x :: famV (b + 1) r
theorem famV_length (b : Nat) (L : Fam) : (famV b L).length = L.length:=by
 induction L generalizing b with
 | nil=>rfl
 | cons x r ih=>simp [famV,ih]
theorem famV_get (b : Nat) (L : Fam) (i : Nat) (h : i < L.length) : (famV b L)[i]'(by rw [famV_length]; exact h) = accV (b + i) L[i]:=by
 induction L generalizing b i with
 | nil=>simp at h
 | cons x r ih=>
  cases i with
  | zero=>simp [famV]
  | succ i=>
   simp only [famV,List.getElem_cons_succ]
   rw [ih (b + 1) i (by simpa using h),show b + 1 + i = b + (i + 1) by omega]
theorem lk_famH_low (sz b : Nat) (L : Fam) (t : Nat) (h : t < b) : lk (famH sz b L) t = none:=by
 induction L generalizing b with
 | nil=>rfl
 | cons x r ih=>
  have:=ih (b + 1) (by omega)
  cases x with
  | none=>simpa [famH,accH] using this
  | some p=>
   obtain ⟨g,l⟩:=p
   have hne : ¬ t = b:=by omega
   simp [famH,accH,lk,hne,this]
theorem lk_famH (sz b : Nat) (L : Fam) (i : Nat) (h : i < L.length) : lk (famH sz b L) (b + i) = match L[i] with | some (g,l)=>some (.row g sz l) | none=>none:=by
 induction L generalizing b i with
 | nil=>simp at h
 | cons x r ih=>
  cases i with
  | zero=>
   cases x with
   | none=>simpa [famH,accH] using lk_famH_low sz (b + 1) r b (by omega)
   | some p=>obtain ⟨g,l⟩:=p; simp [famH,accH,lk]
  | succ i=>
   have:=ih (b + 1) i (by simpa using h)
   rw [show b + 1 + i = b + (i + 1) by omega] at this
   have hne : ¬ b + (i + 1) = b:=by omega
   cases x with
   | none=>simpa [famH,accH] using this
   | some p=>obtain ⟨g,l⟩:=p; simpa [famH,accH,lk] using this
theorem famV_set (b : Nat) (L : Fam) (i : Nat) (x : Option (Nat × List V)) : (famV b L).set i (accV (b + i) x) = famV b (L.set i x):=by
 induction L generalizing b i with
 | nil=>rfl
 | cons y r ih=>
  cases i with
  | zero=>simp [famV]
  | succ i=>
   simp only [famV,List.set_cons_succ]
   rw [← ih (b + 1) i,show b + 1 + i = b + (i + 1) by omega]
end Go.Proofs.YtpaopccohkldlaaGreatDoor
namespace Go.Proofs.YtpaopccohkldlaaGreatDoor
open Go
theorem sub_app {a b c : Hp} : Sub (a ++ b) c↔Sub a c∧Sub b c:=by
 induction a with
 | nil=>simp [Sub]
 | cons p r ih=>obtain ⟨k,v⟩:=p; simp [Sub,ih,and_assoc]
theorem sub_famH (sz b : Nat) (L : Fam) (h : Hp) (hk : ∀ i (hi : i < L.length) g l,L[i] = some (g,l)→lk h (b + i) = some (.row g sz l)) : Sub (famH sz b L) h:=by
 induction L generalizing b with
 | nil=>trivial
 | cons x r ih=>
  simp only [famH,sub_app]
  refine ⟨?_,ih (b + 1) fun i hi g l he=>?_⟩
  ·cases x with
   | none=>trivial
   | some p=>obtain ⟨g,l⟩:=p; exact ⟨by simpa using hk 0 (by simp) g l rfl,trivial⟩
  ·have:=hk (i + 1) (by simpa using hi) g l (by simpa using he)
   rwa [show b + (i + 1) = b + 1 + i by omega] at this
end Go.Proofs.YtpaopccohkldlaaGreatDoor
namespace Go.Proofs.YtpaopccohkldlaaGreatDoor
open Go
theorem famV_rn (s : Nat→Nat→Nat × Nat) (b : Nat) (L : Fam) (h : ∀ i g,b ≤ i→s i g = (i,g)) : (famV b L).map (V.rn s) = famV b L:=by
 induction L generalizing b with
 | nil=>rfl
 | cons x r ih=>
  have h1:=ih (b + 1) fun i g hi=>h i g (by omega)
  simp only [famV,List.map_cons,h1]
  congr 1
  cases x with
  | none=>rfl
  | some p=>obtain ⟨g,l⟩:=p; simp [accV,V.rn,h b g (Nat.le_refl _)]
theorem mvS_ge (b g b' g' base : Nat) (h : b < base) : ∀ i y,base ≤ i→mvS b g b' g' i y = (i,y):=by
 intro i y hi
 have : ¬ i = b:=by omega
 simp [mvS,this]
end Go.Proofs.YtpaopccohkldlaaGreatDoor
namespace Go.Proofs.YtpaopccohkldlaaGreatDoor
open Go
def linesV (L : List V) : V:=.sl L (some L.length)
def clipV (b : Nat) : Option (Nat × List V)→V
 | none=>.sl [] (some 0)
 | some (g,l)=>.ref b g 0 l.length (some l.length)
def clipF (b : Nat) : Fam→List V
 | []=>[]
 | x :: r=>clipV b x :: clipF (b + 1) r
theorem clipF_length (b : Nat) (L : Fam) : (clipF b L).length = L.length:=by
 induction L generalizing b with
 | nil=>rfl
 | cons x r ih=>simp [clipF,ih]
theorem clipF_append (b : Nat) (L M : Fam) : clipF b (L ++ M) = clipF b L ++ clipF (b + L.length) M:=by
 induction L generalizing b with
 | nil=>rfl
 | cons x r ih=>simp [clipF,ih,show b + 1 + r.length = b + (r.length + 1) by omega]
def fanVs (c : Ci) : List V:=(List.range c.n.length).map fun (j : Nat)=>linesV (rfanL (j : Int) c.n 0)
theorem fam_get2 (b : Nat) (L : Fam) (i : Nat) {x : Option (Nat × List V)} (h : L[i]? = some x) (hi : i < (famV b L).length) : (famV b L)[i] = accV (b + i) x:=by
 obtain ⟨h1,h2⟩:=List.getElem?_eq_some_iff.1 h
 rw [famV_get b L i h1,h2]
theorem famV_none (b n : Nat) : famV b (List.replicate n none) = List.replicate n .nil:=by
 induction n generalizing b with
 | zero=>rfl
 | succ n ih=>simp [List.replicate_succ,famV,accV,ih]
theorem famH_none (sz b n : Nat) : famH sz b (List.replicate n none) = []:=by
 induction n generalizing b with
 | zero=>rfl
 | succ n ih=>simp [List.replicate_succ,famH,accH,ih]
def FanI (c : Ci) (i k : Nat) (L : Fam) : Prop:=L.length = c.n.length∧∀ (j : Nat) x,L[j]? = some x→(x = none∨accL x ≠ [])∧V.pureL (accL x) = true∧accL x ++ (pinL j i ((c.n.getD i default).i.drop k) k ++ rfanL j (c.n.drop (i + 1)) (i + 1)) = rfanL j c.n 0
theorem FanI.start (c : Ci) : FanI c 0 0 (List.replicate c.n.length none):=by
 refine ⟨by simp,fun j x hj=>?_⟩
 rw [List.getElem?_replicate] at hj
 split at hj
 ·rename_i h
  cases hj
  refine ⟨.inl rfl,rfl,?_⟩
  cases hn : c.n with
  | nil=>rw [hn] at h; simp at h
  | cons a r=>simp [accL,rfanL]
 ·cases hj
theorem FanI.next {c : Ci} {i k : Nat} {L : Fam} (h : FanI c i k L) (hk : (c.n.getD i default).i.length ≤ k) (hi : i < c.n.length) : FanI c (i + 1) 0 L:=by
 refine ⟨h.1,fun j x hj=>?_⟩
 obtain ⟨h1,h2,h3⟩:=h.2 j x hj
 refine ⟨h1,h2,?_⟩
 rw [List.drop_eq_nil_of_le hk] at h3
 rw [← h3]
 congr 1
 simp only [pinL,List.nil_append]
 by_cases hn : i + 1 < c.n.length
 ·rw [List.drop_eq_getElem_cons hn]
  simp [rfanL,hn]
 ·have e1 : c.n.getD (i + 1) default = default:=by simp [List.getD_eq_getElem?_getD,hn]
  have e2 : (default : Nd).i = []:=rfl
  rw [List.drop_eq_nil_of_le (show c.n.length ≤ i + 1 by omega),List.drop_eq_nil_of_le (show c.n.length ≤ i + 1 + 1 by omega),e1,e2]
  simp [rfanL,pinL]
theorem FanI.skip {c : Ci} {i k : Nat} {L : Fam} (h : FanI c i k L) (hk : k < (c.n.getD i default).i.length) (hx : ∀ j : Nat,j < c.n.length→(c.n.getD i default).i[k] ≠ (j : Int)) : FanI c i (k + 1) L:=by
 refine ⟨h.1,fun j x hj=>?_⟩
 obtain ⟨h1,h2,h3⟩:=h.2 j x hj
 refine ⟨h1,h2,?_⟩
 rw [List.drop_eq_getElem_cons hk] at h3
 have hjl : j < c.n.length:=by rw [← h.1]; exact (List.getElem?_eq_some_iff.1 hj).1
 simp only [pinL,if_neg (hx j hjl)] at h3
 exact h3
theorem FanI.add {c : Ci} {i k : Nat} {L : Fam} (h : FanI c i k L) (hk : k < (c.n.getD i default).i.length) {m : Nat} {x : Option (Nat × List V)} (hm : L[m]? = some x) (hx : (c.n.getD i default).i[k] = (m : Int)) (g : Nat) : FanI c i (k + 1) (L.set m (some (g,accL x ++ [lineV i k]))):=by
 refine ⟨by simpa using h.1,fun j y hj=>?_⟩
 rw [List.getElem?_set] at hj
 by_cases hjm : m = j
 ·subst hjm
  have hl : m < L.length:=(List.getElem?_eq_some_iff.1 hm).1
  simp [hl] at hj
  subst hj
  obtain ⟨h1,h2,h3⟩:=h.2 m x hm
  refine ⟨.inr (by simp [accL]),pureL_append h2 rfl,?_⟩
  rw [List.drop_eq_getElem_cons hk] at h3
  simp only [pinL,if_pos hx] at h3
  rw [← h3]
  simp only [accL.eq_2]
  simp
 ·rw [if_neg hjm] at hj
  obtain ⟨h1,h2,h3⟩:=h.2 j y hj
  refine ⟨h1,h2,?_⟩
  rw [List.drop_eq_getElem_cons hk] at h3
  have : ¬ (c.n.getD i default).i[k] = (j : Int):=by rw [hx]; omega
  simp only [pinL,if_neg this] at h3
  exact h3
theorem FanI.len {c : Ci} {i k : Nat} {L : Fam} (h : FanI c i k L) {m : Nat} {x : Option (Nat × List V)} (hm : L[m]? = some x) : (accL x).length ≤ (rfanL m c.n 0).length:=by
 obtain ⟨h1,h2,h3⟩:=h.2 m x hm
 rw [← h3]; simp
def famB (sz : Nat) : Option (Nat × List V)→Option Blk
 | some (g,l)=>some (.row g sz l)
 | none=>none
theorem lk_fam2 (sz b : Nat) (L : Fam) (i : Nat) {x : Option (Nat × List V)} (h : L[i]? = some x) : lk (famH sz b L) (b + i) = famB sz x:=by
 obtain ⟨h1,h2⟩:=List.getElem?_eq_some_iff.1 h
 rw [lk_famH sz b L i h1,h2]
 cases x <;> rfl
theorem sub_famH2 (sz b : Nat) (L : Fam) (h : Hp) (hk : ∀ (i g : Nat) l,L[i]? = some (some (g,l))→lk h (b + i) = some (.row g sz l)) : Sub (famH sz b L) h:=
 sub_famH sz b L h fun i hi g l he=>hk i g l (by rw [List.getElem?_eq_getElem hi,he])
theorem sub_fam_set {sz b : Nat} {L : Fam} {h : Hp} {m g : Nat} {l : List V} (hm : lk h (b + m) = some (.row g sz l)) (ho : ∀ (i g : Nat) l,i ≠ m→L[i]? = some (some (g,l))→lk h (b + i) = some (.row g sz l)) : Sub (famH sz b (L.set m (some (g,l)))) h:=by
 refine sub_famH2 _ _ _ _ fun i g2 l2 hi=>?_
 rw [List.getElem?_set] at hi
 by_cases e : m = i
 ·subst e
  by_cases hl : m < L.length
  ·simp [hl] at hi
   obtain ⟨rfl,rfl⟩:=hi
   exact hm
  ·simp [hl] at hi
 ·rw [if_neg e] at hi
  exact ho i g2 l2 (fun q=>e q.symm) hi
theorem lk_fam_mv {sz base : Nat} {L : Fam} {b b' g : Nat} {s : Nat→Nat→Nat × Nat} {i g2 : Nat} {l : List V} (hne : b ≠ b') (h1 : ¬ base + i = b') (h2 : ¬ base + i = b) (hi : L[i]? = some (some (g2,l))) (hp : V.pureL l = true) : lk (mvH s b b' g (famH sz base L)) (base + i) = some (.row g2 sz l):=by
 rw [lk_mvH hne,if_neg h1,if_neg h2,lk_fam2 sz base L i hi]
 simp [famB,map_rn_pure hp]
theorem sub_fam_keep {sz b : Nat} {L : Fam} {h : Hp} (hk : ∀ t,b ≤ t→lk h t = lk (famH sz b L) t) : Sub (famH sz b L) h:=
 sub_famH2 _ _ _ _ fun i g l hi=>by rw [hk _ (by omega),lk_fam2 sz b L i hi]; rfl
def mixF (b i : Nat) (L : Fam) : List V:=clipF b (L.take i) ++ famV (b + i) (L.drop i)
theorem mixF_zero (b : Nat) (L : Fam) : mixF b 0 L = famV b L:=by simp [mixF,clipF]
theorem mixF_all (b : Nat) (L : Fam) : mixF b L.length L = clipF b L:=by simp [mixF,famV]
theorem mixF_length (b i : Nat) (L : Fam) (h : i ≤ L.length) : (mixF b i L).length = L.length:=by simp [mixF,clipF_length,famV_length]; omega
theorem mixF_get (b i : Nat) (L : Fam) {x : Option (Nat × List V)} (h : L[i]? = some x) (hi : i < (mixF b i L).length) : (mixF b i L)[i] = accV (b + i) x:=by
 obtain ⟨h1,h2⟩:=List.getElem?_eq_some_iff.1 h
 have e : (clipF b (L.take i)).length = i:=by simp [clipF_length]; omega
 have:=fam_get2 (b + i) (L.drop i) 0 (x:=x) (by simpa using h) (by rw [famV_length]; simp; omega)
 have k : (mixF b i L)[i]? = some (accV (b + i) x):=by
  unfold mixF
  rw [List.getElem?_append_right (by omega),e,Nat.sub_self,List.getElem?_eq_getElem (by rw [famV_length]; simp; omega),this,Nat.add_zero]
 rw [List.getElem?_eq_getElem hi] at k
 exact Option.some.inj k
theorem mixF_set (b i : Nat) (L : Fam) {x : Option (Nat × List V)} (h : L[i]? = some x) : (mixF b i L).set i (clipV (b + i) x) = mixF b (i + 1) L:=by
 obtain ⟨h1,h2⟩:=List.getElem?_eq_some_iff.1 h
 have e : (clipF b (L.take i)).length = i:=by simp [clipF_length]; omega
 unfold mixF
 rw [List.set_append_right _ _ (by omega),e,Nat.sub_self,List.drop_eq_getElem_cons h1]
 simp only [famV,List.set_cons_zero]
 rw [List.take_succ_eq_append_getElem h1,clipF_append,h2]
 simp [clipF,Nat.add_assoc]
 rw [Nat.min_eq_left (by omega)]
theorem frz_clipF {sz : Nat} (b : Nat) (L : Fam) (h : Hp) (n : Nat) (hk : ∀ (i g : Nat) l,L[i]? = some (some (g,l))→lk h (b + i) = some (.row g sz l)∧V.pureL l = true) : (clipF b L).map (frz h (n + 1)) = L.map fun x=>linesV (accL x):=by
 induction L generalizing b with
 | nil=>rfl
 | cons x r ih=>
  simp only [clipF,List.map_cons]
  rw [ih (b + 1) fun i g l hi=>by have:=hk (i + 1) g l (by simpa using hi); rwa [show b + (i + 1) = b + 1 + i by omega] at this]
  congr 1
  cases x with
  | none=>simp [clipV,linesV,accL]
  | some p=>
   obtain ⟨g,l⟩:=p
   obtain ⟨q1,q2⟩:=hk 0 g l (by simp)
   rw [Nat.add_zero] at q1
   simp only [clipV]
   rw [frz_ref q1 (by omega),List.drop_zero,List.take_length,frz_all h n q2]
   rfl
theorem clip48_nil {K : V→Hp→Prop} {h : Hp} (h2 : Hp) (hs : Sub h2 h) (hk : K (.sl [] (some 0)) h2) : ICallO Tryz.prog gl0 136 [.nil] h K:=by
 refine CallO.of_W ok136 rfl ?_
 simp [i136,x136]
 exact .done (by simpa using ⟨h2,hs,hk⟩)
theorem clip48_ref {K : V→Hp→Prop} {h : Hp} {b g l : Nat} {cap : Option Nat} {es : List V} (hb : lk h b = some (.row g 2 es)) (h2 : Hp) (hs : Sub h2 h) (hk : K (.ref b g 0 l (some l)) h2) : ICallO Tryz.prog gl0 136 [.ref b g 0 l cap] h K:=by
 refine CallO.of_W ok136 rfl ?_
 simp [i136,x136,hb]
 exact .done (by simpa using ⟨h2,hs,hk⟩)
theorem fanout_c (c : Ci) (hl : c.n.length < 1000000) (hin : ∀ n ∈ c.n,n.i.length < 10000000) (hq : ∀ j,(rfanL j c.n 0).length ≤ 1000000000) : PureC Tryz.prog gl0 147 [c.v] (.sl (fanVs c) (some c.n.length)):=by
 refine PureC.of_W 2 ok147 rfl ?_
 simp [i147,x147,Ci.v]
 intro gf gf2
 have : c.n.length ≤ 549755813888:=by omega
 simp [this]
 refine CallO.pure (outside_c c) (by simp) ?_
 simp
 generalize gf 1 = g1
 generalize gf2 14 = g14
 clear gf gf2
 refine LoopP.of (X:=Nat × Fam) (fun x=>[(20,.int .i64 (x.1 : Int)),(19,.int .i64 (c.n.length : Int)),(18,.sl (c.n.map Nd.v) none),(4,.fn 212 [] [.iptr c.v 0]),(3,.ref 14 g14 0 c.n.length (some c.n.length)),(1,.ptr 1 g1 0 0)])
  (fun x=>(14,.row g14 1 (famV 1000 x.2)) :: (1,.row g1 4 [c.v]) :: famH 2 1000 x.2)
  (fun x=>x.1 ≤ c.n.length∧FanI c x.1 0 x.2) (fun x=>c.n.length - x.1) (0,List.replicate c.n.length none) ?_ ?_ ?_ ?_
 ·exact ⟨by simp,FanI.start c⟩
 ·simp
 ·simp [famV_none,famH_none,Ci.v]
 ·rintro ⟨i,L⟩ ⟨h1,h2⟩
  dsimp only at h1 h2
  simp
  refine BrB.of (fun hb=>?_) (fun hb=>?_)
  ·have hi : i < c.n.length:=of_decide_eq_true hb
   have hw : IntKind.i64.wrap ((i : Int) + 1) = ((i + 1 : Nat) : Int):=by rw [wrap_i64] <;> omega
   have hni:=hin c.n[i] (List.getElem_mem hi)
   have hnd : c.n.getD i default = c.n[i]:=by simp [hi]
   simp [hi,Nd.v]
   intro gf6
   generalize gf6 6 = g6
   refine LoopP.ofM (X:=Nat × Fam) (fun x=>[(28,.int .i64 (x.1 : Int)),(27,.int .i64 (c.n[i].i.length : Int)),(26,.sl (ints c.n[i].i) none),(5,.int .i64 (i : Int)),(20,.int .i64 (i : Int)),(19,.int .i64 (c.n.length : Int)),(18,.sl (c.n.map Nd.v) none),(4,.fn 212 [] [.iptr c.v 0]),(3,.ref 14 g14 0 c.n.length (some c.n.length)),(1,.ptr 1 g1 0 0)])
    (fun x=>(14,.row g14 1 (famV 1000 x.2)) :: (1,.row g1 4 [c.v]) :: famH 2 1000 x.2)
    (fun x=>x.1 ≤ c.n[i].i.length∧FanI c i x.1 x.2) (fun x=>c.n[i].i.length - x.1) ?_ ?_
   ·refine .done ⟨(0,L),⟨by simp,h2⟩,by simp,?_⟩
    simp
    exact sub_fam_keep fun t ht=>by simp [show ¬ t = 6 by omega,show ¬ t = 14 by omega,show ¬ t = 1 by omega]
   ·clear h2 L
    rintro ⟨k,L⟩ ⟨h3,h2⟩
    dsimp only at h2 h3
    simp
    refine BrB.of (fun hc=>?_) (fun hc=>?_)
    ·have hk : k < c.n[i].i.length:=of_decide_eq_true hc
     have hwk : IntKind.i64.wrap ((k : Int) + 1) = ((k + 1 : Nat) : Int):=by rw [wrap_i64] <;> omega
     simp [hk,ints_getE]
     refine CallO.pure (outsideF_c c _) (by simp [Ci.v]) ?_
     simp
     refine BrB.of (fun ho=>?_) (fun ho=>?_)
     ·simp at ho
      obtain ⟨m,hm⟩ : ∃ m : Nat,c.n[i].i[k] = (m : Int):=⟨c.n[i].i[k].toNat,by omega⟩
      have hml : m < c.n.length:=by omega
      have hmL : m < L.length:=by rw [h2.1]; exact hml
      obtain ⟨x,hx⟩ : ∃ x,L[m]? = some x:=⟨_,List.getElem?_eq_getElem hmL⟩
      have hk' : k < (c.n.getD i default).i.length:=by rw [hnd]; exact hk
      have hm' : (c.n.getD i default).i[k] = (m : Int):=by simp only [hnd]; exact hm
      have hlk:=lk_fam2 2 1000 L m hx
      have hadd:=fun g=>h2.add hk' hx hm' g
      have hlen:=h2.len hx
      have hqm:=hq m
      have hpu:=(h2.2 m _ hx).2.1
      have hfv : m < (famV 1000 L).length:=by rw [famV_length]; exact hmL
      have hget:=fam_get2 1000 L m hx hfv
      rw [hm]
      simp [hml,hget,famV_length,hmL]
      cases x with
      | none=>
       simp [accV,hwk,hml,hget,famV_length,hmL]
       refine fun gf1 gf2=>.move 47 (1000 + m) _ (by omega) (by simp; rfl) fun g2=>.done ⟨k + 1,L.set m (some (g2,[lineV i k])),?_⟩
       have n1 : ¬ 1000 + m = 47:=by omega
       have n2 : ¬ 1000 + m = 14:=by omega
       have n3 : ¬ 1000 + m = 1:=by omega
       have n4 : ¬ 14 = 1000 + m:=by omega
       have n5 : ¬ 1 = 1000 + m:=by omega
       have n6 : ¬ 46 = 1000 + m:=by omega
       have n7 : ¬ 47 = 1000 + m:=by omega
       refine ⟨⟨hk,hadd g2⟩,?_⟩
       have hfr:=famV_rn (mvS 47 (gf2 47) (1000 + m) g2) 1000 L (mvS_ge _ _ _ _ _ (by omega))
       simp [n4,n5,n6,n7,rnL_pure _ (nds_pure _),rnL_pure _ (ints_pure _),rn_pure _ (ci_pure c),List.map_set,hfr,← famV_set,accV,lineV]
       refine ⟨sub_fam_set (by simp [n2]) fun j g3 l3 hj hL=>?_,by omega⟩
       have q1 : ¬ 1000 + j = 1000 + m:=by omega
       have q2 : ¬ 1000 + j = 14:=by omega
       have q3 : ¬ 1000 + j = 46:=by omega
       have q4 : ¬ 1000 + j = 1:=by omega
       have q5 : ¬ 1000 + j = 47:=by omega
       have q6:=(h2.2 j _ hL).2.1
       simp [hj,q2,q3,q4,lk_fam_mv (s:=mvS 47 (gf2 47) (1000 + m) g2) (g:=g2) (b:=47) (by omega) q1 q5 hL q6]
      | some p=>
       obtain ⟨g,l⟩:=p
       simp only [accL] at hlen hpu
       have hle : l.length + 1 ≤ 274877906944:=by omega
       have n1 : ¬ 1000 + m = 46:=by omega
       have n2 : ¬ 1000 + m = 14:=by omega
       have n3 : ¬ 1000 + m = 1:=by omega
       have n4 : ¬ 14 = 1000 + m:=by omega
       simp [accV,hwk,hml,hget,famV_length,hmL,hlk,famB,hle,n1,n2,n3,n4]
       refine fun gf1 gf2=>.done ⟨k + 1,L.set m (some (gf2 (1000 + m),l ++ [lineV i k])),?_⟩
       refine ⟨⟨hk,hadd _⟩,?_⟩
       have n5 : ¬ 1 = 1000 + m:=by omega
       simp [n5,← famV_set,accV,lineV]
       refine ⟨sub_fam_set (by simp [n2]) fun j g3 l3 hj hL=>?_,by omega⟩
       have q1 : ¬ 1000 + j = 1000 + m:=by omega
       have q2 : ¬ 1000 + j = 14:=by omega
       have q3 : ¬ 1000 + j = 46:=by omega
       have q4 : ¬ 1000 + j = 1:=by omega
       simp [hj,q2,q3,q4,lk_fam2 2 1000 L j hL,famB]
     ·simp at ho
      simp [hwk]
      have hk' : k < (c.n.getD i default).i.length:=by rw [hnd]; exact hk
      refine .done ⟨k + 1,L,⟨hk,h2.skip hk' ?_⟩,by simp,?_,by omega⟩
      ·intro j hj e
       simp only [hnd] at e
       omega
      ·simp
       exact sub_fam_keep fun t ht=>by simp [show ¬ t = 14 by omega,show ¬ t = 1 by omega]
    ·have hk : ¬ k < c.n[i].i.length:=of_decide_eq_false hc
     simp [hw]
     refine ⟨i + 1,L,⟨by omega,h2.next (by rw [hnd]; omega) hi⟩,rfl,⟨rfl,?_⟩,by omega⟩
     exact sub_fam_keep fun t ht=>by simp [show ¬ t = 14 by omega,show ¬ t = 1 by omega]
  ·have hi : i = c.n.length:=by have:=of_decide_eq_false hb; omega
   subst hi
   simp
   refine LoopP.of (X:=Nat) (fun x=>[(53,.int .i64 (x : Int)),(52,.int .i64 (c.n.length : Int)),(51,.ref 14 g14 0 c.n.length (some c.n.length)),(3,.ref 14 g14 0 c.n.length (some c.n.length))])
    (fun x=>(14,.row g14 1 (mixF 1000 x L)) :: famH 2 1000 L)
    (fun x=>x ≤ c.n.length) (fun x=>c.n.length - x) 0 ?_ ?_ ?_ ?_
   ·simp
   ·simp
   ·simp [mixF_zero]
    exact sub_fam_keep fun t ht=>by simp [show ¬ t = 14 by omega,show ¬ t = 1 by omega]
   ·rintro i h3
    simp
    refine BrB.of (fun hb=>?_) (fun hb=>?_)
    ·have hi : i < c.n.length:=of_decide_eq_true hb
     have hiL : i < L.length:=by rw [h2.1]; exact hi
     have hw : IntKind.i64.wrap ((i : Int) + 1) = ((i + 1 : Nat) : Int):=by rw [wrap_i64] <;> omega
     obtain ⟨x,hx⟩ : ∃ x,L[i]? = some x:=⟨_,List.getElem?_eq_getElem hiL⟩
     have hml : (mixF 1000 i L).length = c.n.length:=by rw [mixF_length _ _ _ (by omega),h2.1]
     have hget:=mixF_get 1000 i L hx (by rw [hml]; exact hi)
     have hlk:=lk_fam2 2 1000 L i hx
     have hset:=mixF_set 1000 i L hx
     simp [hi,hml,hget]
     cases x with
     | none=>
      simp [accV]
      have hsub : Sub ((14,Blk.row g14 1 (mixF 1000 i L)) :: famH 2 1000 L) ((14,Blk.row g14 1 (mixF 1000 i L)) :: famH 2 1000 L):=⟨by simp,sub_fam_keep fun t ht=>by simp [show ¬ t = 14 by omega]⟩
      refine clip48_nil _ hsub ?_
      simp [hi,hml,hget,accV]
      refine ⟨i + 1,by omega,hw,⟨hset,?_⟩,by omega⟩
      exact sub_fam_keep fun t ht=>by simp [show ¬ t = 14 by omega]
     | some p=>
      obtain ⟨g,l⟩:=p
      have n2 : ¬ 1000 + i = 14:=by omega
      have hsub : Sub ((14,Blk.row g14 1 (mixF 1000 i L)) :: famH 2 1000 L) ((14,Blk.row g14 1 (mixF 1000 i L)) :: famH 2 1000 L):=⟨by simp,sub_fam_keep fun t ht=>by simp [show ¬ t = 14 by omega]⟩
      simp [accV]
      refine clip48_ref (es:=l) (by simp [n2,hlk,famB]) _ hsub ?_
      simp [hi,hml,hget,accV]
      refine ⟨i + 1,by omega,hw,⟨hset,?_⟩,by omega⟩
      exact sub_fam_keep fun t ht=>by simp [show ¬ t = 14 by omega]
    ·have hi : i = L.length:=by have:=of_decide_eq_false hb; have:=h2.1; omega
     subst hi
     simp [-frz]
     have hcl : (clipF 1000 L).length = c.n.length:=by rw [clipF_length,h2.1]
     rw [mixF_all,frz_ref (es:=clipF 1000 L) (sz:=1) (by simp) (by rw [hcl]; omega),List.drop_zero,List.take_of_length_le (by rw [hcl]; exact Nat.le_refl _),frz_clipF (sz:=2) 1000 L _ _ fun i g l hi=>⟨by simp [show ¬ 1000 + i = 14 by omega,lk_fam2 2 1000 L i hi,famB],(h2.2 i _ hi).2.1⟩]
     congr 1
     unfold fanVs
     refine List.ext_getElem? fun i=>?_
     simp only [List.getElem?_map]
     cases hx : L[i]? with
     | none=>
      have : ¬ i < c.n.length:=by rw [← h2.1]; simpa using hx
      simp [this]
     | some x=>
      have hi : i < c.n.length:=by rw [← h2.1]; exact (List.getElem?_eq_some_iff.1 hx).1
      have hx3:=(h2.2 i x hx).2.2
      have e1 : c.n.getD c.n.length default = default:=by simp [List.getD_eq_getElem?_getD]
      have e2 : (default : Nd).i = []:=rfl
      rw [e1,e2,List.drop_eq_nil_of_le (show c.n.length ≤ c.n.length + 1 by omega)] at hx3
      simp [pinL,rfanL] at hx3
      simp [hi,linesV,hx3]
end Go.Proofs.YtpaopccohkldlaaGreatDoor
