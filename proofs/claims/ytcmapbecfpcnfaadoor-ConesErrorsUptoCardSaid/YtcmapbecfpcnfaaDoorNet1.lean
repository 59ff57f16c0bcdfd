/- Netlists: contracts, names. Conditions: none. Netlists: contracts, copies. Conditions: none. Netlists: contracts, lists. Conditions: none. Netlists: contracts, sizes. Conditions: none. Netlists: contracts, Of. Conditions: none. -/
import Derived.Test.YtcmapbecfpcnfaaDoorXG
namespace Go.Proofs.YtcmapbecfpcnfaaDoor
open Go
theorem comb_c (k : Int) : PureC Tryd.prog gl0 34 [.int .u8 k] (.bool (decide (1 ≤ k∧k ≤ 13))):=by
  refine PureC.of_W 2 ok34 rfl ?_
  repeat' (first | refine BrB.of (fun _=>?_) (fun _=>?_) | (intro _) | simp [*,i34,x34])
theorem rcomb_c (k : Int) : PureC Tryd.prog gl0 77 [.int .u8 k] (.bool (decide (1 ≤ k∧k ≤ 13))):=by
  refine PureC.of_W 2 ok77 rfl ?_
  repeat' (first | refine BrB.of (fun _=>?_) (fun _=>?_) | (intro _) | simp [*,i77,x77])
theorem idxb_c (s : List UInt8) (c : Int) (h : 0 ≤ c∧c < 256) : PureC Tryd.prog gl0 138 [.str s,.int .u8 c] (.int .i64 (idxOf c s 0)):=by
  refine PureC.of_W 2 ok138 rfl ?_
  simp [i138,x138,nop,h]
theorem idxb2_c (s : List UInt8) (c : Int) (h : 0 ≤ c∧c < 256) : PureC Tryd.prog gl0 133 [.str s,.int .u8 c] (.int .i64 (idxOf c s 0)):=by
  refine PureC.of_W 2 ok133 rfl ?_
  simp [i133,x133]
  refine CallO.pure (idxb_c s c h) rfl ?_
  simp
theorem wrap_u8 {x : Int} (h0 : 0 ≤ x) (h1 : x < 256) : IntKind.u8.wrap x = x:=by
  simp [IntKind.wrap,IntKind.bits,IntKind.signed]; omega
theorem idxr_c (s : List UInt8) (r : Int) (h : 0 ≤ r∧r < 128) : PureC Tryd.prog gl0 129 [.str s,.int .i32 r] (.int .i64 (idxOf r s 0)):=by
  have hw : IntKind.u8.wrap r = r:=wrap_u8 h.1 (by omega)
  refine PureC.of_W 2 ok129 rfl ?_
  simp [i129,x129,h,hw]
  refine CallO.pure (idxb2_c s r ⟨h.1,by omega⟩) rfl ?_
  simp
theorem crune_c (s : List UInt8) (r : Int) (h : 0 ≤ r∧r < 128) : PureC Tryd.prog gl0 121 [.str s,.int .i32 r] (.bool (decide (0 ≤ idxOf r s 0))):=by
  refine PureC.of_W 2 ok121 rfl ?_
  simp [i121,x121]
  refine CallO.pure (idxr_c s r h) rfl ?_
  simp
def badR (r : Int) : Bool:=decide (r ≤ 32) || decide (126 < r) || decide (0 ≤ idxOf r [40,41,61,44,35] 0)
theorem bad_c (r : Int) : PureC Tryd.prog gl0 120 [.int .i32 r] (.bool (badR r)):=by
  refine PureC.of_W 2 ok120 rfl ?_
  by_cases h1 : r ≤ 32
  · simp [i120,x120,h1,badR]
  · by_cases h2 : 126 < r
    · simp [i120,x120,h1,h2,badR]
    · simp [i120,x120,h1,h2,badR]
      refine CallO.pure (crune_c _ r ⟨by omega,by omega⟩) rfl ?_
      simp
def idxBadF : Nat→List UInt8→Nat→Int
  | 0,_,_=>-1
  | n + 1,s,pos=>if pos < s.length then (if badR (Utf8.decode ⟨s.toArray⟩ pos).1 = true then (pos : Int) else idxBadF n s (pos + (Utf8.decode ⟨s.toArray⟩ pos).2)) else -1
theorem dec_byte (s : List UInt8) (pos : Nat) (h : pos < s.length) : (⟨s.toArray⟩ : ByteArray).get! pos = s[pos]:=by
  simp [ByteArray.get!,h]
theorem dec_lt (s : List UInt8) (pos : Nat) (h : pos < s.length) (hb : s[pos].toNat < 128) : Utf8.decode ⟨s.toArray⟩ pos = (s[pos].toNat,1):=by
  have:=dec_byte s pos h
  simp only [Utf8.decode,Nat.add_zero,this]
  rw [if_pos (by simpa using hb)]
theorem dec_pos (s : List UInt8) (pos : Nat) : 1 ≤ (Utf8.decode ⟨s.toArray⟩ pos).2:=by
  simp only [Utf8.decode]
  repeat' split
  all_goals simp
theorem dec_ge (s : List UInt8) (pos : Nat) (h : pos < s.length) (hb : 128 ≤ s[pos].toNat) : 126 < (Utf8.decode ⟨s.toArray⟩ pos).1:=by
  have hby:=dec_byte s pos h
  simp only [Utf8.decode,Nat.add_zero,hby]
  rw [if_neg (by simpa using hb)]
  have : Utf8.runeError = 65533:=rfl
  repeat' split
  all_goals simp_all
  all_goals omega
theorem indexf_c (s : List UInt8) : PureC Tryd.prog gl0 137 [.str s,.fn 120 [] [],.bool true] (.int .i64 (idxBadF (s.length + 1) s 0)):=by
  obtain ⟨r,hr⟩ : ∃ r,idxBadF (s.length + 1) s 0 = r:=⟨_,rfl⟩
  rw [hr]
  refine PureC.of_W 2 ok137 rfl ?_
  simp [i137,x137,nop]
  intro gf
  refine LoopP.of (X:=Nat × Nat) (fun x=>[(0,.str s),(1,.fn 120 [] []),(2,.bool true),(10,.own 10 (gf 10))]) (fun x=>[(10,.siter (gf 10) s x.1)])
    (fun x=>s.length < x.1 + x.2∧idxBadF x.2 s x.1 = r) (fun x=>x.2) (0,s.length + 1) ⟨by simp,hr⟩ (by simp) (by simp) ?_
  rintro ⟨pos,fuel⟩ ⟨h2,h3⟩
  dsimp only at h2 h3
  cases fuel with
  | zero=>
    have hp : ¬ pos < s.length:=by omega
    simp [nop,hp,← h3,idxBadF]
  | succ fuel=>
    have hd:=dec_pos s pos
    by_cases hp : pos < s.length
    · simp [nop,hp]
      refine CallO.pure (bad_c _) rfl ?_
      simp
      refine BrB.of (fun hb=>?_) (fun hb=>?_)
      · simp [← h3,idxBadF,hp,hb]
      · simp
        refine ⟨_,fuel,⟨?_,?_⟩,rfl,by omega⟩
        · omega
        · rw [← h3]; simp [idxBadF,hp,hb]
    · simp [nop,hp,← h3,idxBadF]
theorem indexF_c (s : List UInt8) : PureC Tryd.prog gl0 130 [.str s,.fn 120 [] []] (.int .i64 (idxBadF (s.length + 1) s 0)):=by
  refine PureC.of_W 2 ok130 rfl ?_
  simp [i130,x130]
  refine CallO.pure (indexf_c s) rfl ?_
  simp
theorem containsF_c (s : List UInt8) : PureC Tryd.prog gl0 122 [.str s,.fn 120 [] []] (.bool (decide (0 ≤ idxBadF (s.length + 1) s 0))):=by
  refine PureC.of_W 2 ok122 rfl ?_
  simp [i122,x122]
  refine CallO.pure (indexF_c s) rfl ?_
  simp
def nameOk (s : List UInt8) : Bool:=decide (s ≠ []) && decide (s.length ≤ 32) && !(decide (0 ≤ idxBadF (s.length + 1) s 0))
def okByte (b : UInt8) : Bool:=!(decide (b.toNat ≤ 32) || decide (126 < b.toNat) || decide (b.toNat = 40) || decide (b.toNat = 41) || decide (b.toNat = 61) || decide (b.toNat = 44) || decide (b.toNat = 35))
theorem badR_byte (b : UInt8) : badR (b.toNat : Int) = !(okByte b):=by
  unfold badR okByte
  generalize b.toNat = n
  by_cases h1 : n = 40
  · subst h1; rfl
  by_cases h2 : n = 41
  · subst h2; rfl
  by_cases h3 : n = 61
  · subst h3; rfl
  by_cases h4 : n = 44
  · subst h4; rfl
  by_cases h5 : n = 35
  · subst h5; rfl
  have e : idxOf (n : Int) [40,41,61,44,35] 0 = -1:=by
    have q1 : ¬ 40 = (n : Int):=by omega
    have q2 : ¬ 41 = (n : Int):=by omega
    have q3 : ¬ 61 = (n : Int):=by omega
    have q4 : ¬ 44 = (n : Int):=by omega
    have q5 : ¬ 35 = (n : Int):=by omega
    simp [idxOf,q1,q2,q3,q4,q5]
  rw [e]
  simp [h1,h2,h3,h4,h5]
theorem idxBad_drop (s : List UInt8) : ∀ (n pos : Nat),s.length < pos + n→decide (0 ≤ idxBadF n s pos) = !((s.drop pos).all okByte)
  | 0,pos,h=>by
    rw [List.drop_eq_nil_of_le (by omega)]; simp [idxBadF]
  | n + 1,pos,h=>by
    have hd:=dec_pos s pos
    unfold idxBadF
    by_cases hp : pos < s.length
    · rw [if_pos hp,List.drop_eq_getElem_cons hp]
      by_cases hb : s[pos].toNat < 128
      · rw [dec_lt s pos hp hb]
        have hz:=badR_byte s[pos]
        rw [hz]
        cases h0 : okByte s[pos] with
        | true=>simp only [List.all_cons,h0]; simpa using idxBad_drop s n (pos + 1) (by omega)
        | false=>simp only [Bool.not_false,if_pos,List.all_cons,h0]; simp
      · have h1:=dec_ge s pos hp (by omega)
        have h2 : badR ((Utf8.decode ⟨s.toArray⟩ pos).1 : Int) = true:=by
          simp [badR]; omega
        have h3 : okByte s[pos] = false:=by simp [okByte]; omega
        rw [if_pos h2]; simp only [List.all_cons,h3]; simp
    · rw [if_neg hp,List.drop_eq_nil_of_le (by omega)]; simp
theorem isName_c (s : List UInt8) : PureC Tryd.prog gl0 95 [.str s] (.bool (nameOk s)):=by
  have hc:=containsF_c s
  refine PureC.of_W 2 ok95 rfl ?_
  unfold nameOk
  generalize decide (0 ≤ idxBadF (s.length + 1) s 0) = q at *
  simp [i95,x95]
  refine BrB.of (fun h1=>?_) (fun h1=>?_)
  · simp [h1]
  · simp [h1]
    refine BrB.of (fun h2=>?_) (fun h2=>?_)
    · simp [h2]
      refine CallO.pure hc rfl ?_
      simp
    · simp [h2]
theorem risName_c (s : List UInt8) (hs : s.length < 9000000000000000000) : PureC Tryd.prog gl0 75 [.str s] (.bool (decide (s ≠ []) && decide (s.length ≤ 32) && s.all okByte)):=by
  refine PureC.of_W 2 ok75 rfl ?_
  obtain ⟨q,hq⟩ : ∃ r,s.all okByte = r:=⟨_,rfl⟩
  rw [hq]
  simp [i75,x75]
  refine LoopP.of (X:=Nat) (fun i=>[(3,.int .i64 (i : Int)),(2,V.bool false),(0,.str s)]) (fun _=>[])
    (fun i=>i ≤ s.length∧(s.drop i).all okByte = q) (fun i=>s.length - i) 0 ⟨by simp,by simpa using hq⟩ (by simp) (by simp) ?_
  rintro i ⟨h2,h3⟩
  simp
  refine BrB.of (fun h1=>?_) (fun h1=>?_)
  · have h1' : i < s.length:=of_decide_eq_true h1
    have hw : IntKind.i64.wrap ((i : Int) + 1) = ((i + 1 : Nat) : Int):=by rw [wrap_i64] <;> omega
    rw [List.drop_eq_getElem_cons h1'] at h3
    simp [h1']
    generalize s[i] = b at *
    have hk : okByte b = false→q = false:=fun h=>by rw [← h3]; simp [h]
    have hx : okByte b = true→∃ x',(x' ≤ s.length∧(List.drop x' s).all okByte = q)∧(i : Int) + 1 = (x' : Int)∧s.length - x' < s.length - i:=fun h=>⟨i + 1,⟨h1',by rw [← h3]; simp [h]⟩,rfl,by omega⟩
    clear h3
    repeat' (first | refine BrB.of (fun _=>?_) (fun _=>?_) | (intro _) | simp [*])
    all_goals first | exact hx (by simp [okByte, *]) | (rw [hk]; simp [okByte, *]; done)
  · have h1' : i = s.length:=by have:=of_decide_eq_false h1; omega
    subst h1'
    simp at h3
    simp [← h3]
    repeat' (first | refine BrB.of (fun _=>?_) (fun _=>?_) | (intro _) | simp [*])
    all_goals (cases s <;> simp_all)
theorem pureL_map {α : Type} {f : α→V} (hf : ∀ x,(f x).pure = true) : ∀ l : List α,V.pureL (l.map f) = true
  | []=>rfl
  | x :: l=>by simp [V.pureL,hf x,pureL_map hf l]
@[simp] theorem pureL_str (l : List (List UInt8)) : V.pureL (l.map .str) = true:=pureL_map (fun _=>rfl) l
theorem nameOk_eq (s : List UInt8) : nameOk s = (decide (s ≠ []) && decide (s.length ≤ 32) && s.all okByte):=by
  have:=idxBad_drop s (s.length + 1) 0 (by omega)
  unfold nameOk
  rw [this]; simp
end Go.Proofs.YtcmapbecfpcnfaaDoor
namespace Go.Proofs.YtcmapbecfpcnfaaDoor
open Go
def Fresh (sz : Nat) (xs : List V) (v : V) (h : Hp) : Prop:=(xs = []∧v = .sl [] (some 0)∧h = [])∨∃ g,v = .ref 0 g 0 xs.length (some xs.length)∧h = [(0,.row g sz xs)]
end Go.Proofs.YtcmapbecfpcnfaaDoor
namespace Go.Proofs.YtcmapbecfpcnfaaDoor
open Go
def ints (l : List Int) : List V:=l.map (.int .i64)
@[simp] theorem ints_length (l : List Int) : (ints l).length = l.length:=by simp [ints]
@[simp] theorem ints_pure (l : List Int) : V.pureL (ints l) = true:=pureL_map (fun _=>rfl) l
@[simp] theorem ints_cells (l : List Int) : ((ints l).all fun x=>decide (x.cells.length = 1)) = true:=by simp [ints]
structure Nd where
  k : Int
  i : List Int
  a : Int
  b : Int
  deriving Inhabited
def Nd.v (n : Nd) : V:=.agg [.int .u8 n.k,.sl (ints n.i) none,.int .i64 n.a,.int .i64 n.b]
structure Md where
  a : List Int
  d : List Int
  w : Int
  deriving Inhabited
def Md.v (n : Md) : V:=.agg [.sl (ints n.a) none,.sl (ints n.d) none,.int .i64 n.w]
structure Ci where
  n : List Nd
  s : List (List UInt8)
  m : List Md
  o : List Int
def Ci.v (c : Ci) : V:=.agg [.sl (c.n.map Nd.v) none,.sl (c.s.map .str) none,.sl (c.m.map Md.v) none,.sl (ints c.o) none]
@[simp] theorem nds_pure (l : List Nd) : V.pureL (l.map Nd.v) = true:=pureL_map (fun x=>by simp [Nd.v]) l
@[simp] theorem mds_pure (l : List Md) : V.pureL (l.map Md.v) = true:=pureL_map (fun x=>by simp [Md.v]) l
theorem pureL_append {a b : List V} (h : V.pureL a = true) (k : V.pureL b = true) : V.pureL (a ++ b) = true:=by
  rw [V.pureL_iff] at *
  intro v hv
  rcases List.mem_append.1 hv with q | q
  · exact h v q
  · exact k v q
theorem map_frz_pure {l : List V} (h : V.pureL l = true) {f : Nat→Nat→Nat→Nat→Option Nat→V} {p : Nat→Nat→Nat→Nat→V} : (l.map fun x=>V.mapR f p x) = l:=by
  have:=mapRL_pure (f:=f) (p:=p) l h
  rw [mapRL_eq] at this; exact this
def accV (b : Nat) : Option (Nat × List V)→V
  | none=>.nil
  | some (g,l)=>.ref b g 0 l.length none
def accH (b sz : Nat) : Option (Nat × List V)→Hp
  | none=>[]
  | some (g,l)=>[(b,.row g sz l)]
def accL : Option (Nat × List V)→List V
  | none=>[]
  | some (_,l)=>l
def listV (l : List V) : V:=match l with
  | []=>.nil
  | _ :: _=>.sl l none
theorem ints_getE (l : List Int) (i : Nat) (h : i < (ints l).length) : (ints l)[i] = .int .i64 (l[i]'(by simpa using h)):=by simp [ints]
def intsD (a b : List Int) (ca : Nat) : Int:=if a = b∧¬ a.length < ca then 0 else 1
theorem ints_c (a b : List Int) (ca : Nat) (cb : Option Nat) (hl : a.length < 1000000000000) : PureC Tryd.prog gl0 25 [.sl (ints a) (some ca),.sl (ints b) cb] (.int .i64 (intsD a b ca)):=by
  refine PureC.of_W 2 ok25 rfl ?_
  obtain ⟨q,hq⟩ : ∃ r,intsD a b ca = r:=⟨_,rfl⟩
  rw [hq]
  unfold intsD at hq
  simp [i25,x25]
  refine BrB.of (fun h1=>?_) (fun h1=>?_)
  · have hab : a.length = b.length:=of_decide_eq_true h1
    simp [h1]
    refine BrB.of (fun h2=>?_) (fun h2=>?_)
    · have hca : a.length < ca:=of_decide_eq_true h2
      simp [hca] at hq
      simp [h2,hq]
    · have hca : ¬ a.length < ca:=of_decide_eq_false h2
      simp only [hca,not_false_eq_true,and_true] at hq
      simp [h2]
      refine LoopP.of (X:=Nat) (fun i=>[(5,.int .i64 (i : Int)),(0,.sl (ints a) (some ca)),(1,.sl (ints b) cb)]) (fun _=>[])
        (fun i=>i ≤ a.length∧a.take i = b.take i) (fun i=>a.length - i) 0 ⟨by simp,by simp⟩ (by simp) (by simp) ?_
      rintro i ⟨h3,h4⟩
      simp
      refine BrB.of (fun h5=>?_) (fun h5=>?_)
      · have hi : i < a.length:=of_decide_eq_true h5
        have hj : i < b.length:=by omega
        have hw : IntKind.i64.wrap ((i : Int) + 1) = ((i + 1 : Nat) : Int):=by rw [wrap_i64] <;> omega
        simp [hi,hj,ints_getE]
        refine BrB.of (fun h6=>?_) (fun h6=>?_)
        · have he : a[i] = b[i]:=of_decide_eq_true h6
          simp [hw]
          refine ⟨i + 1,⟨by omega,?_⟩,rfl,by omega⟩
          rw [List.take_succ_eq_append_getElem hi,List.take_succ_eq_append_getElem hj,h4,he]
        · have he : ¬ a[i] = b[i]:=of_decide_eq_false h6
          have hne : ¬ a = b:=fun e=>by subst e; exact he rfl
          rw [if_neg hne] at hq
          simp [hq]
      · have hi : i = a.length:=by have:=of_decide_eq_false h5; omega
        subst hi
        have : a = b:=by
          rw [List.take_of_length_le (Nat.le_refl _),hab,List.take_of_length_le (Nat.le_refl _)] at h4
          exact h4
        rw [if_pos this] at hq
        simp [hq]
  · have hab : ¬ a.length = b.length:=of_decide_eq_false h1
    have hne : ¬ a = b:=fun e=>hab (by rw [e])
    simp [hne] at hq
    simp [h1,hq]
end Go.Proofs.YtcmapbecfpcnfaaDoor
namespace Go.Proofs.YtcmapbecfpcnfaaDoor
open Go
theorem nd_get (l : List Nd) (i : Nat) (h : i < l.length) : (l.map Nd.v)[i]'(by simpa using h) = (l[i]).v:=by simp
end Go.Proofs.YtcmapbecfpcnfaaDoor
namespace Go.Proofs.YtcmapbecfpcnfaaDoor
open Go
def findI (x : Int) : List Int→Nat→Int
  | [],_=>-1
  | y :: r,i=>if x = y then (i : Int) else findI x r (i + 1)
theorem findI_mem (x : Int) : ∀ (l : List Int) (i : Nat),(0 ≤ findI x l i)↔x ∈ l
  | [],i=>by simp [findI]
  | y :: l,i=>by
    by_cases h : x = y
    · simp [findI,h]
    · simp [findI,h,findI_mem x l (i + 1)]
theorem indexK_c (x : Int) (l : List Int) (cap : Option Nat) (hl : l.length < 1000000000000) : PureC Tryd.prog gl0 123 [.sl (l.map (.int .u8)) cap,.int .u8 x] (.int .i64 (findI x l 0)):=by
  obtain ⟨q,hq⟩ : ∃ r,findI x l 0 = r:=⟨_,rfl⟩
  rw [hq]
  refine PureC.of_W 2 ok123 rfl ?_
  simp [i123,x123]
  refine LoopP.of (X:=Nat) (fun i=>[(8,.int .i64 (i : Int)),(7,.int .i64 (l.length : Int)),(0,.sl (l.map (.int .u8)) cap),(1,.int .u8 x)]) (fun _=>[])
    (fun i=>i ≤ l.length∧findI x (l.drop i) i = q) (fun i=>l.length - i) 0 ⟨by simp,by simpa using hq⟩ (by simp) (by simp) ?_
  rintro i ⟨h2,h3⟩
  simp
  refine BrB.of (fun h1=>?_) (fun h1=>?_)
  · have h1' : i < l.length:=of_decide_eq_true h1
    have hw : IntKind.i64.wrap ((i : Int) + 1) = ((i + 1 : Nat) : Int):=by rw [wrap_i64] <;> omega
    rw [List.drop_eq_getElem_cons h1'] at h3
    simp only [findI] at h3
    simp [h1']
    refine BrB.of (fun h4=>?_) (fun h4=>?_)
    · rw [if_pos (of_decide_eq_true h4)] at h3
      simp [h3]
    · rw [if_neg (of_decide_eq_false h4)] at h3
      simp [hw]
      exact ⟨i + 1,⟨h1',h3⟩,rfl,by omega⟩
  · have h1' : i = l.length:=by have:=of_decide_eq_false h1; omega
    subst h1'
    simp [findI] at h3
    simp [h3]
@[simp] theorem pureL_u8 (l : List Int) : V.pureL (l.map (.int .u8)) = true:=pureL_map (fun _=>rfl) l
theorem contains_c (x : Int) (l : List Int) (cap : Option Nat) (hl : l.length < 1000000000000) : PureC Tryd.prog gl0 106 [.sl (l.map (.int .u8)) cap,.int .u8 x] (.bool (decide (x ∈ l))):=by
  refine PureC.of_W 2 ok106 rfl ?_
  simp [i106,x106]
  refine CallO.pure (indexK_c x l cap hl) (by simp) ?_
  simp [findI_mem]
def ofLs (ks : List Int) : List Nd→Nat→List V
  | [],_=>[]
  | n :: r,i=>if n.k ∈ ks then .int .i64 (i : Int) :: ofLs ks r (i + 1) else ofLs ks r (i + 1)
theorem of_c (c : Ci) (ks : List Int) (cap : Option Nat) (hl : c.n.length < 1000000) (hk : ks.length < 1000000000000) : OwnC Tryd.prog gl0 73 [c.v,.sl (ks.map (.int .u8)) cap] (Fresh 1 (ofLs ks c.n 0)):=by
  refine OwnC.of_W ok73 rfl ?_
  obtain ⟨q,hq⟩ : ∃ r,ofLs ks c.n 0 = r:=⟨_,rfl⟩
  rw [hq]
  simp [i73,x73,Ci.v]
  intro gf
  refine LoopP.of (X:=Nat × Option (Nat × List V)) (fun x=>[(11,.int .i64 (x.1 : Int)),(10,.int .i64 (c.n.length : Int)),(9,.sl (c.n.map Nd.v) none),(5,accV 23 x.2),(1,.sl (ks.map (.int .u8)) cap)])
    (fun x=>accH 23 1 x.2)
    (fun x=>x.1 ≤ c.n.length∧(x.2 = none∨accL x.2 ≠ [])∧(accL x.2).length ≤ x.1∧V.pureL (accL x.2) = true∧accL x.2 ++ ofLs ks (c.n.drop x.1) x.1 = q) (fun x=>c.n.length - x.1) (0,none) ⟨by simp,by simp,by simp [accL],by simp [accL],by simpa [accL] using hq⟩ (by simp [accV]) (by simp [accH]) ?_
  rintro ⟨i,acc⟩ ⟨h1,h2,h3,h4,h5⟩
  dsimp only at h1 h2 h3 h4 h5
  simp
  refine BrB.of (fun hb=>?_) (fun hb=>?_)
  · have hi : i < c.n.length:=of_decide_eq_true hb
    have hw : IntKind.i64.wrap ((i : Int) + 1) = ((i + 1 : Nat) : Int):=by rw [wrap_i64] <;> omega
    rw [List.drop_eq_getElem_cons hi] at h5
    simp only [ofLs] at h5
    simp [hi,Nd.v]
    intro gf2
    refine CallO.pure (contains_c _ ks cap hk) (by simp) ?_
    simp
    refine BrB.of (fun hk=>?_) (fun hk=>?_)
    · rw [if_pos (of_decide_eq_true hk)] at h5
      cases acc with
      | none=>
        simp [accV,accH,hw]
        refine fun gf1 gf2=>⟨i + 1,some (gf2 23,[.int .i64 i]),?_⟩
        simp [accL] at h5 ⊢
        exact ⟨⟨by omega,h5⟩,by omega⟩
      | some gl=>
        obtain ⟨g,l⟩:=gl
        simp only [accL] at h3 h4 h5 h2
        have hle : l.length + 1 ≤ 274877906944:=by omega
        simp [accV,accH,hw,hle]
        refine fun gf1 gf2=>⟨i + 1,some (gf2 23,l ++ [.int .i64 i]),?_⟩
        simp [accL,h5,List.append_assoc]
        exact ⟨⟨by omega,by omega,pureL_append h4 rfl⟩,by omega⟩
    · rw [if_neg (of_decide_eq_false hk)] at h5
      simp [hw]
      exact ⟨i + 1,acc,⟨by omega,h2,by omega,h4,h5⟩,⟨rfl,rfl⟩,by cases acc <;> simp [accH],by omega⟩
  · have hi : ¬ i < c.n.length:=of_decide_eq_false hb
    rw [List.drop_eq_nil_of_le (by omega)] at h5
    simp only [ofLs,List.append_nil] at h5
    cases acc with
    | none=>
      simp [accL] at h5
      subst h5
      simp [accV,accH]
      refine CallO.of_W ok56 rfl ?_
      simp [i56,x56]
      exact .done (by simpa using ⟨[],trivial,.done (by simp [Fresh])⟩)
    | some gl=>
      obtain ⟨g,l⟩:=gl
      simp only [accL] at h3 h4 h5 h2
      subst h5
      simp [accV,accH]
      refine CallO.of_W ok56 rfl ?_
      simp [i56,x56]
      refine .done ?_
      simp only [lk,if_true]
      refine ⟨[(23,Blk.row g 1 l)],by simp,.move 23 0 _ (by simp) (by simp; rfl) fun g2=>.done ?_⟩
      simp [map_rn_pure h4,Fresh]
theorem ofLs_noG (ks : List Int) : ∀ (l : List Nd) (i : Nat),V.noGL (ofLs ks l i) = true∧V.pureL (ofLs ks l i) = true
  | [],i=>⟨rfl,rfl⟩
  | n :: r,i=>by
    obtain ⟨h1,h2⟩:=ofLs_noG ks r (i + 1)
    simp only [ofLs]
    split
    · exact ⟨by simp [V.noGL,V.noG,h1],by simp [V.pureL,V.pure,h2]⟩
    · exact ⟨h1,h2⟩
theorem states_c (c : Ci) (hl : c.n.length < 1000000) : OwnC Tryd.prog gl0 46 [c.v] (Fresh 1 (ofLs [14] c.n 0)):=by
  obtain ⟨n1,n2⟩:=ofLs_noG [14] c.n 0
  refine OwnC.of_W ok46 rfl ?_
  simp [i46,x46,Ci.v]
  intro gf gf2
  refine CallO.ownBorrow 1 1000 (of_c c [14] (some 1) hl (by simp)) (by simp [Ci.v,mapRL_pure]) (by simp) ?_
  rintro v h' (⟨hq,rfl,rfl⟩ | ⟨g,rfl,rfl⟩)
  · refine ⟨rfl,fun b k hb=>by simp [lk] at hb,fun gf=>?_⟩
    simp
    exact .done (by simpa using ⟨[],trivial,by simp [Fresh,hq]⟩)
  · refine ⟨rfl,fun b k hb=>?_,fun gf=>?_⟩
    · simp only [lk] at hb
      split at hb
      · cases hb; exact n1
      · cases hb
    · simp [map_rn_pure n2]
      refine .move 1000 0 _ (by simp) (by simp; rfl) fun g2=>.done ?_
      simp [map_rn_pure n2,Fresh]
theorem ris_c (c : Ci) (i : Int) : PureC Tryd.prog gl0 18 [c.v,.int .i64 i] (.bool (decide (0 ≤ i∧i < c.n.length))):=by
  refine PureC.of_W 2 ok18 rfl ?_
  simp [i18,x18,Ci.v]
  intro gf
  refine BrB.of (fun h1=>?_) (fun h1=>?_)
  · have h1' : 0 ≤ i:=of_decide_eq_true h1
    simp [h1']
  · have h1' : ¬ 0 ≤ i:=of_decide_eq_false h1
    simp [h1']
end Go.Proofs.YtcmapbecfpcnfaaDoor
