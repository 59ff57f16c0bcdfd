/- The contracts of the logic of lists of values. Conditions: none. -/
import Derived.Test.YtpaopccohkldlaaGreatDoorI1
import Derived.Test.YtpaopccohkldlaaGreatDoorNet13
import Derived.Test.YtpaopccohkldlaaGreatDoorBase18
set_option linter.unusedSimpArgs false
set_option linter.unusedVariables false
namespace Go.Proofs.YtpaopccohkldlaaGreatDoor
open Go
theorem clean_c (v : Nat) : PureC Tryz.prog gl0 163 [u8V v] (u8V (clean v)):=by
 refine PureC.of_W 2 ok163 rfl ?_
 simp [i163,x163,u8V,clean]
 refine BrB.of (fun h=>?_) (fun h=>?_)
 ·have:=of_decide_eq_true h
  simp [show 3 < v by omega]
 ·have:=of_decide_eq_false h
  simp [show ¬ 3 < v by omega]
theorem rdN_c (v : Nat) : PureC Tryz.prog gl0 120 [u8V v] (u8V (rdN v)):=by
 refine PureC.of_W 2 ok120 rfl ?_
 simp [i120,x120,u8V,rdN]
 omega
theorem known_c (v : Nat) : PureC Tryz.prog gl0 160 [u8V v] (.bool (decide (v ≤ 1))):=by
 refine PureC.of_W 2 ok160 rfl ?_
 simp [i160,x160,u8V]
theorem lnot_c (v : Nat) : PureC Tryz.prog gl0 121 [u8V v] (u8V (notN v)):=by
 refine PureC.of_W 2 ok121 rfl ?_
 simp [i121,x121]
 refine CallO.pure (known_c v) rfl ?_
 simp [u8V]
 refine BrB.of (fun h=>?_) (fun h=>?_)
 ·have hv : v = 0∨v = 1:=by have:=of_decide_eq_true h; omega
  rcases hv with rfl | rfl <;> simp [notN,IntKind.wrap,IntKind.bits,IntKind.signed]
 ·have hv:=of_decide_eq_false h
  simp [notN,hv]
theorem dec_c (lo hi : Nat) (l : List Nat) (cap : Option Nat) (hl : l.length < 1000000000) : PureC Tryz.prog gl0 161 [.sl (l.map u8V) cap,u8V lo,u8V hi] (u8V (dec lo hi hi l)):=by
 obtain ⟨q,hq⟩ : ∃ r,dec lo hi hi l = r:=⟨_,rfl⟩
 rw [hq]
 refine PureC.of_W 2 ok161 rfl ?_
 simp [i161,x161,u8V]
 refine LoopP.of (X:=Nat × Nat) (fun z=>[(13,natV z.1),(12,natV l.length),(11,.sl (l.map u8V) cap),(7,u8V z.2),(2,u8V hi),(1,u8V lo)]) (fun _=>[])
  (fun z=>z.1 ≤ l.length∧dec lo hi z.2 (l.drop z.1) = q) (fun z=>l.length - z.1) (0,hi) ⟨by simp,by simpa using hq⟩ (by simp [natV,u8V]) (by simp) ?_
 rintro ⟨i,out⟩ ⟨h2,h3⟩
 dsimp only at h2 h3 ⊢
 simp [natV,u8V]
 refine BrB.of (fun h1=>?_) (fun h1=>?_)
 ·have hi' : i < l.length:=of_decide_eq_true h1
  have hw:=wrapN i (by omega)
  rw [List.drop_eq_getElem_cons hi',dec] at h3
  obtain ⟨v,hv⟩ : ∃ v,l[i] = v:=⟨_,rfl⟩
  rw [hv] at h3
  simp [hi',hv,u8V]
  refine BrB.of (fun h4=>?_) (fun h4=>?_)
  ·rw [if_pos (of_decide_eq_true h4)] at h3
   simp [h3]
  ·rw [if_neg (of_decide_eq_false h4)] at h3
   simp
   refine BrB.of (fun h5=>?_) (fun h5=>?_)
   ·have h5':=of_decide_eq_true h5
    rw [if_pos h5'] at h3
    simp [hw]
    exact ⟨i + 1,out,⟨hi',h3⟩,⟨rfl,rfl⟩,by omega⟩
   ·have h5':=of_decide_eq_false h5
    rw [if_neg h5'] at h3
    simp [hw]
    exact ⟨i + 1,2,⟨hi',h3⟩,⟨rfl,rfl⟩,by omega⟩
 ·have hi' : i = l.length:=by have:=of_decide_eq_false h1; omega
  subst hi'
  simp [dec] at h3
  simp [h3]
theorem u8s_pure (l : List Nat) : V.pureL (l.map u8V) = true:=V.pureL_map _ l fun _=>rfl
theorem land_c (l : List Nat) (cap : Option Nat) (hl : l.length < 1000000000) : PureC Tryz.prog gl0 122 [.sl (l.map u8V) cap] (u8V (dec 0 1 1 l)):=by
 refine PureC.of_W 2 ok122 rfl ?_
 simp [i122,x122]
 refine CallO.pure (dec_c 0 1 l cap hl) (by simp only [V.pureL,V.pure,u8s_pure,Bool.and_self]) ?_
 simp [u8V]
theorem lor_c (l : List Nat) (cap : Option Nat) (hl : l.length < 1000000000) : PureC Tryz.prog gl0 123 [.sl (l.map u8V) cap] (u8V (dec 1 0 0 l)):=by
 refine PureC.of_W 2 ok123 rfl ?_
 simp [i123,x123]
 refine CallO.pure (dec_c 1 0 l cap hl) (by simp only [V.pureL,V.pure,u8s_pure,Bool.and_self]) ?_
 simp [u8V]
theorem lxor_c (l : List Nat) (cap : Option Nat) (hl : l.length < 1000000000) : PureC Tryz.prog gl0 124 [.sl (l.map u8V) cap] (u8V (xorN 0 l)):=by
 obtain ⟨q,hq⟩ : ∃ r,xorN 0 l = r:=⟨_,rfl⟩
 rw [hq]
 refine PureC.of_W 2 ok124 rfl ?_
 simp [i124,x124]
 refine LoopP.of (X:=Nat × Nat) (fun z=>[(8,natV z.1),(7,natV l.length),(6,.sl (l.map u8V) cap),(3,u8V z.2)]) (fun _=>[])
  (fun z=>z.1 ≤ l.length∧z.2 ≤ 1∧xorN z.2 (l.drop z.1) = q) (fun z=>l.length - z.1) (0,0) ⟨by simp,by simp,by simpa using hq⟩ (by simp [natV,u8V]) (by simp) ?_
 rintro ⟨i,out⟩ ⟨h2,h4,h3⟩
 dsimp only at h2 h3 h4 ⊢
 simp [natV,u8V]
 refine BrB.of (fun h1=>?_) (fun h1=>?_)
 ·have hi' : i < l.length:=of_decide_eq_true h1
  have hw:=wrapN i (by omega)
  rw [List.drop_eq_getElem_cons hi',xorN] at h3
  obtain ⟨v,hv⟩ : ∃ v,l[i] = v:=⟨_,rfl⟩
  rw [hv] at h3
  have hk:=known_c v
  simp only [u8V] at hk
  simp [hi',hv,u8V]
  refine CallO.pure hk rfl ?_
  simp
  refine BrB.of (fun h5=>?_) (fun h5=>?_)
  ·have hv1 : v = 0∨v = 1:=by have:=of_decide_eq_true h5; omega
   have ho : out = 0∨out = 1:=by omega
   rcases hv1 with rfl | rfl
   ·simp only [if_true] at h3
    rcases ho with rfl | rfl
    ·simp [hw]
     exact ⟨i + 1,0,⟨hi',by omega,h3⟩,⟨rfl,rfl⟩,by omega⟩
    ·simp [hw]
     exact ⟨i + 1,1,⟨hi',by omega,h3⟩,⟨rfl,rfl⟩,by omega⟩
   ·simp only [if_true,Nat.one_ne_zero,if_false] at h3
    rcases ho with rfl | rfl
    ·simp [hw]
     exact ⟨i + 1,1,⟨hi',by omega,h3⟩,⟨rfl,rfl⟩,by omega⟩
    ·simp [hw]
     exact ⟨i + 1,0,⟨hi',by omega,h3⟩,⟨rfl,rfl⟩,by omega⟩
  ·have h5':=of_decide_eq_false h5
   rw [if_neg (by omega),if_neg (by omega)] at h3
   subst h3
   simp
 ·have hi' : i = l.length:=by have:=of_decide_eq_false h1; omega
  subst hi'
  simp [xorN] at h3
  simp [h3]
theorem lmux_c (s a b : Nat) : PureC Tryz.prog gl0 125 [u8V s,u8V a,u8V b] (u8V (muxN s a b)):=by
 have ha:=rdN_c a
 have hb:=rdN_c b
 unfold muxN
 simp only [u8V] at ha hb ⊢
 refine PureC.of_W 2 ok125 rfl ?_
 simp [i125,x125]
 refine BrB.of (fun h1=>?_) (fun h1=>?_)
 ·have h1' : s = 0:=of_decide_eq_true h1
  subst h1'
  simp
  refine CallO.pure ha rfl ?_
  simp
 have h1' : ¬ s = 0:=of_decide_eq_false h1
 simp
 refine BrB.of (fun h2=>?_) (fun h2=>?_)
 ·have h2' : s = 1:=of_decide_eq_true h2
  subst h2'
  simp
  refine CallO.pure hb rfl ?_
  simp
 have h2' : ¬ s = 1:=of_decide_eq_false h2
 simp
 refine BrB.of (fun h3=>?_) (fun h3=>?_)
 ·have h3' : a = b:=of_decide_eq_true h3
  subst h3'
  simp
  refine CallO.pure ha rfl ?_
  simp [h1',h2']
 have h3' : ¬ a = b:=of_decide_eq_false h3
 simp [h1',h2',h3']
theorem ltri_c (e d : Nat) : PureC Tryz.prog gl0 126 [u8V e,u8V d] (u8V (triN e d)):=by
 have hb:=rdN_c d
 unfold triN
 simp only [u8V] at hb ⊢
 refine PureC.of_W 2 ok126 rfl ?_
 simp [i126,x126]
 refine BrB.of (fun h1=>?_) (fun h1=>?_)
 ·have h1' : e = 0:=of_decide_eq_true h1
  subst h1'
  simp
 have h1' : ¬ e = 0:=of_decide_eq_false h1
 simp
 refine BrB.of (fun h2=>?_) (fun h2=>?_)
 ·have h2' : e = 1:=of_decide_eq_true h2
  subst h2'
  simp
  refine CallO.pure hb rfl ?_
  simp
 have h2' : ¬ e = 1:=of_decide_eq_false h2
 simp [h1',h2']
theorem unk_c (v : Nat) : PureC Tryz.prog gl0 162 [u8V v] (.bool (decide (clean v = 2))):=by
 have hc:=clean_c v
 refine PureC.of_W 2 ok162 rfl ?_
 simp [i162,x162]
 refine CallO.pure hc rfl ?_
 simp [u8V]
theorem drv_c (v : Nat) : PureC Tryz.prog gl0 164 [u8V v] (.bool (v != 3)):=by
 have e : (v != 3) = !decide (v = 3):=rfl
 rw [e]
 refine PureC.of_W 2 ok164 rfl ?_
 simp [i164,x164,u8V]
def findN (p : Nat→Bool) : List Nat→Nat→Int
 | [],_=>-1
 | x :: r,i=>if p x = true then (i : Int) else findN p r (i + 1)
theorem findN_any (p : Nat→Bool) : ∀ (l : List Nat) (i : Nat),decide (0 ≤ findN p l i) = l.any p
 | [],i=>by simp [findN]
 | x :: l,i=>by
  cases h : p x with
  | true=>simp [findN,h]
  | false=>
   have:=findN_any p l (i + 1)
   simp only [findN,h,Bool.false_eq_true,if_false,List.any_cons,Bool.false_or]
   exact this
theorem findN_none {p : Nat→Bool} : ∀ {l : List Nat} {i : Nat},l.find? p = none→findN p l i = -1
 | [],_,_=>rfl
 | x :: l,i,h=>by
  rw [List.find?_cons] at h
  cases hx : p x with
  | true=>rw [hx] at h; simp at h
  | false=>
   rw [hx] at h
   simp only [findN,hx,Bool.false_eq_true,if_false]
   exact findN_none h
theorem findN_some {p : Nat→Bool} {v : Nat} : ∀ {l : List Nat} {i : Nat},l.find? p = some v→∃ j : Nat,findN p l i = ((i + j : Nat) : Int)∧l[j]? = some v
 | [],_,h=>by simp at h
 | x :: l,i,h=>by
  rw [List.find?_cons] at h
  cases hx : p x with
  | true=>
   rw [hx] at h
   simp only [Option.some.injEq] at h
   exact ⟨0,by simp [findN,hx],by simp [h]⟩
  | false=>
   rw [hx] at h
   obtain ⟨j,h1,h2⟩:=findN_some (i:=i + 1) h
   refine ⟨j + 1,?_,by simpa using h2⟩
   simp only [findN,hx,Bool.false_eq_true,if_false]
   rw [h1]
   congr 1
   omega
theorem indexFuncN_c (l : List Nat) (cap : Option Nat) (g : FuncId) (cp : List V) (p : Nat→Bool) (hf : ∀ x ∈ l,PureC Tryz.prog gl0 g (u8V x :: cp) (.bool (p x))) (hp : V.pureL cp = true) (hl : l.length < 1000000000000) : PureC Tryz.prog gl0 159 [.sl (l.map u8V) cap,.fn g [] cp] (.int .i64 (findN p l 0)):=by
 obtain ⟨q,hq⟩ : ∃ r,findN p l 0 = r:=⟨_,rfl⟩
 rw [hq]
 refine PureC.of_W 2 ok159 rfl ?_
 simp [i159,x159]
 refine LoopP.of (X:=Nat) (fun i=>[(8,natV i),(7,natV l.length),(0,.sl (l.map u8V) cap),(1,.fn g [] cp)]) (fun _=>[])
  (fun i=>i ≤ l.length∧findN p (l.drop i) i = q) (fun i=>l.length - i) 0 ⟨by simp,by simpa using hq⟩ (by simp [natV]) (by simp) ?_
 rintro i ⟨h2,h3⟩
 simp [natV]
 refine BrB.of (fun h1=>?_) (fun h1=>?_)
 ·have h1' : i < l.length:=of_decide_eq_true h1
  have hw:=wrapN i (by omega)
  rw [List.drop_eq_getElem_cons h1'] at h3
  simp only [findN] at h3
  obtain ⟨v,hv⟩ : ∃ v,l[i] = v:=⟨_,rfl⟩
  have hfv:=hf v (hv ▸ List.getElem_mem h1')
  rw [hv] at h3
  simp only [u8V] at hfv
  simp [h1',hv,u8V]
  refine CallO.pure hfv (by simp only [V.pureL,V.pure,hp,Bool.and_self]) ?_
  simp
  refine BrB.of (fun h4=>?_) (fun h4=>?_)
  ·rw [if_pos h4] at h3
   simp [h3]
  ·rw [if_neg (by simp [h4])] at h3
   simp [hw]
   exact ⟨i + 1,⟨h1',h3⟩,rfl,by omega⟩
 ·have h1' : i = l.length:=by have:=of_decide_eq_false h1; omega
  subst h1'
  simp [findN] at h3
  simp [h3]
theorem containsFuncN_c (l : List Nat) (cap : Option Nat) (g : FuncId) (cp : List V) (p : Nat→Bool) (hf : ∀ x ∈ l,PureC Tryz.prog gl0 g (u8V x :: cp) (.bool (p x))) (hp : V.pureL cp = true) (hl : l.length < 1000000000000) : PureC Tryz.prog gl0 117 [.sl (l.map u8V) cap,.fn g [] cp] (.bool (l.any p)):=by
 refine PureC.of_W 2 ok117 rfl ?_
 simp [i117,x117]
 refine CallO.pure (indexFuncN_c l cap g cp p hf hp hl) (by simp [hp,u8s_pure]) ?_
 simp [findN_any]
theorem indexN_c (x : Nat) (l : List Nat) (cap : Option Nat) (hl : l.length < 1000000000000) : PureC Tryz.prog gl0 214 [.sl (l.map u8V) cap,u8V x] (.int .i64 (findN (fun v=>x == v) l 0)):=by
 obtain ⟨q,hq⟩ : ∃ r,findN (fun v=>x == v) l 0 = r:=⟨_,rfl⟩
 rw [hq]
 refine PureC.of_W 2 ok214 rfl ?_
 simp [i214,x214]
 refine LoopP.of (X:=Nat) (fun i=>[(8,natV i),(7,natV l.length),(0,.sl (l.map u8V) cap),(1,u8V x)]) (fun _=>[])
  (fun i=>i ≤ l.length∧findN (fun v=>x == v) (l.drop i) i = q) (fun i=>l.length - i) 0 ⟨by simp,by simpa using hq⟩ (by simp [natV]) (by simp) ?_
 rintro i ⟨h2,h3⟩
 simp [natV]
 refine BrB.of (fun h1=>?_) (fun h1=>?_)
 ·have h1' : i < l.length:=of_decide_eq_true h1
  have hw:=wrapN i (by omega)
  rw [List.drop_eq_getElem_cons h1'] at h3
  simp only [findN] at h3
  obtain ⟨v,hv⟩ : ∃ v,l[i] = v:=⟨_,rfl⟩
  rw [hv] at h3
  simp [h1',hv,u8V]
  refine BrB.of (fun h4=>?_) (fun h4=>?_)
  ·rw [if_pos (by simpa using of_decide_eq_true h4)] at h3
   simp [h3]
  ·rw [if_neg (by simpa using of_decide_eq_false h4)] at h3
   simp [hw]
   exact ⟨i + 1,⟨h1',h3⟩,rfl,by omega⟩
 ·have h1' : i = l.length:=by have:=of_decide_eq_false h1; omega
  subst h1'
  simp [findN] at h3
  simp [h3]
theorem any_mem (x : Nat) (l : List Nat) : (l.any fun v=>x == v) = decide (x ∈ l):=by
 rw [Bool.eq_iff_iff]
 simp
theorem containsN_c (x : Nat) (l : List Nat) (cap : Option Nat) (hl : l.length < 1000000000000) : PureC Tryz.prog gl0 191 [.sl (l.map u8V) cap,u8V x] (.bool (decide (x ∈ l))):=by
 refine PureC.of_W 2 ok191 rfl ?_
 simp [i191,x191]
 refine CallO.pure (indexN_c x l cap hl) (by simp [u8V,u8s_pure]) ?_
 simp [findN_any,any_mem]
theorem conflict_c (l : List Nat) (cap : Option Nat) (hl : l.length < 1000000000000) : PureC Tryz.prog gl0 165 [.sl (l.map u8V) cap] (.bool (decide (0 ∈ l) && decide (1 ∈ l))):=by
 refine PureC.of_W 2 ok165 rfl ?_
 simp [i165,x165]
 refine CallO.pure (containsN_c 0 l cap hl) (by simp [u8s_pure]) ?_
 simp
 refine BrB.of (fun h=>?_) (fun h=>?_)
 ·simp [h]
  refine CallO.pure (containsN_c 1 l cap hl) (by simp [u8s_pure]) ?_
  simp
 ·simp [h]
set_option maxRecDepth 100000 in
theorem lbus_c (l : List Nat) (cap : Option Nat) (hl : l.length < 1000000000) : PureC Tryz.prog gl0 127 [.sl (l.map u8V) cap] (u8V (busN l)):=by
 have h1:=indexFuncN_c l cap 164 [] (fun v=>v != 3) (fun x _=>drv_c x) rfl (by omega)
 have h2:=containsFuncN_c l cap 162 [] (fun v=>decide (clean v = 2)) (fun x _=>unk_c x) rfl (by omega)
 obtain ⟨k,hk⟩ : ∃ k,findN (fun v=>v != 3) l 0 = k:=⟨_,rfl⟩
 have hany : (l.any fun v=>decide (clean v = 2)) = decide (∃ u ∈ l,clean u = 2):=by
  rw [Bool.eq_iff_iff]; simp
 rw [hany] at h2
 rw [hk] at h1
 unfold busN
 refine PureC.of_W 2 ok127 rfl ?_
 simp [i127,x127]
 refine CallO.pure h1 (by simp [u8s_pure]) ?_
 simp
 cases hf : l.find? (fun v=>v != 3) with
 | none=>
  have hk1 : k = -1:=by rw [← hk]; exact findN_none hf
  subst hk1
  simp [u8V]
 | some v=>
  obtain ⟨j,hj,hv⟩:=findN_some (i:=0) hf
  have hkj : k = (j : Int):=by rw [← hk,hj]; congr 1; omega
  subst hkj
  have hjl : j < l.length:=(List.getElem?_eq_some_iff.1 hv).1
  have hvv : l[j] = v:=(List.getElem?_eq_some_iff.1 hv).2
  simp
  refine CallO.pure (conflict_c l cap (by omega)) (by simp [u8s_pure]) ?_
  simp
  by_cases h01 : 0 ∈ l∧1 ∈ l
  ·simp [h01,u8V]
  ·have e : (decide (0 ∈ l) && decide (1 ∈ l)) = false:=by
    rw [Bool.eq_false_iff]
    simpa using h01
   simp [e]
   refine CallO.pure h2 (by simp [u8s_pure]) ?_
   by_cases hu : ∃ u ∈ l,clean u = 2
   ·simp [hu,u8V]
   ·simp [hu,h01,hjl,hvv,u8V]
theorem u8s_ok (l : List Nat) (cap : Option Nat) : V.pureL [.sl (l.map u8V) cap] = true:=by simp only [V.pureL,V.pure,u8s_pure,Bool.and_self]
set_option maxRecDepth 100000 in
set_option maxHeartbeats 4000000 in
theorem logE_c (k : Nat) (hk : k < 256) (l : List Nat) (cap : Option Nat) (hl : l.length < 1000000000) : PureC Tryz.prog gl0 83 [u8V k,.sl (l.map u8V) cap] (u8V (logE k l)):=by
 have hf:=fanin_c (k : Int) (by omega) (by omega)
 have hland:=land_c l cap hl
 have hlor:=lor_c l cap hl
 have hlxor:=lxor_c l cap hl
 have hbus:=lbus_c l cap hl
 obtain ⟨A,hA⟩ : ∃ p,dec 0 1 1 l = p:=⟨_,rfl⟩
 obtain ⟨B,hB⟩ : ∃ p,dec 1 0 0 l = p:=⟨_,rfl⟩
 obtain ⟨X,hX⟩ : ∃ p,xorN 0 l = p:=⟨_,rfl⟩
 obtain ⟨U,hU⟩ : ∃ p,busN l = p:=⟨_,rfl⟩
 have hnA:=lnot_c A
 have hnB:=lnot_c B
 have hnX:=lnot_c X
 obtain ⟨NA,hNA⟩ : ∃ p,notN A = p:=⟨_,rfl⟩
 obtain ⟨NB,hNB⟩ : ∃ p,notN B = p:=⟨_,rfl⟩
 obtain ⟨NX,hNX⟩ : ∃ p,notN X = p:=⟨_,rfl⟩
 rw [hA] at hland
 rw [hB] at hlor
 rw [hX] at hlxor
 rw [hU] at hbus
 rw [hNA] at hnA
 rw [hNB] at hnB
 rw [hNX] at hnX
 have hg : ∀ j (h : j < l.length),l.getD j 0 = l[j]:=fun j h=>by simp [h]
 refine PureC.of_W 2 ok83 rfl ?_
 obtain ⟨lo,hlo⟩ : ∃ p,kLo k = p:=⟨_,rfl⟩
 obtain ⟨hi,hhi⟩ : ∃ p,kHi k = p:=⟨_,rfl⟩
 rw [hlo,hhi] at hf
 unfold logE
 rw [hlo,hhi]
 simp only [u8V] at hland hlor hlxor hbus hnA hnB hnX
 simp [i83,x83,u8V]
 refine CallO.pure hf rfl ?_
 simp
 refine BrB.of (fun h1=>?_) (fun h1=>?_)
 ·have h1':=of_decide_eq_true h1
  rw [if_pos (.inl h1')]
  simp [h1]
 have h1':=of_decide_eq_false h1
 simp [h1]
 refine BrB.of (fun h2=>?_) (fun h2=>?_)
 ·have h2':=of_decide_eq_true h2
  rw [if_pos (.inr h2')]
  simp
 have h2':=of_decide_eq_false h2
 rw [if_neg (by omega)]
 have hk15 : k ≤ 15:=by
  by_cases hc : k ≤ 15
  ·exact hc
  ·exfalso
   have : hi = -1:=by rw [← hhi,kHi,if_pos (by omega)]
   omega
 have hc : k = 0∨k = 1∨k = 2∨k = 3∨k = 4∨k = 5∨k = 6∨k = 7∨k = 8∨k = 9∨k = 10∨k = 11∨k = 12∨k = 13∨k = 14∨k = 15:=by omega
 rcases hc with rfl | rfl | rfl | rfl | rfl | rfl | rfl | rfl | rfl | rfl | rfl | rfl | rfl | rfl | rfl | rfl
 ·simp [gateN]
 ·simp [gateN]
 ·simp [gateN]
 ·have h0 : 0 < l.length:=by
   have : lo = 1:=by rw [← hlo]; rfl
   omega
  have hr:=rdN_c l[0]
  simp only [u8V] at hr
  have e : gateN 3 l = rdN l[0]:=by rw [← hg 0 h0]; rfl
  rw [e]
  simp [h0,u8V]
  refine CallO.pure hr rfl ?_
  simp
 ·have h0 : 0 < l.length:=by
   have : lo = 1:=by rw [← hlo]; rfl
   omega
  have hr:=lnot_c l[0]
  simp only [u8V] at hr
  have e : gateN 4 l = notN l[0]:=by rw [← hg 0 h0]; rfl
  rw [e]
  simp [h0,u8V]
  refine CallO.pure hr rfl ?_
  simp
 ·rw [show gateN 5 l = A from hA]
  simp
  refine CallO.pure hland (u8s_ok _ _) ?_
  simp
 ·rw [show gateN 6 l = NA by rw [← hNA,← hA]; rfl]
  simp
  refine CallO.pure hland (u8s_ok _ _) ?_
  simp
  refine CallO.pure hnA rfl ?_
  simp
 ·rw [show gateN 7 l = B from hB]
  simp
  refine CallO.pure hlor (u8s_ok _ _) ?_
  simp
 ·rw [show gateN 8 l = NB by rw [← hNB,← hB]; rfl]
  simp
  refine CallO.pure hlor (u8s_ok _ _) ?_
  simp
  refine CallO.pure hnB rfl ?_
  simp
 ·rw [show gateN 9 l = X from hX]
  simp
  refine CallO.pure hlxor (u8s_ok _ _) ?_
  simp
 ·rw [show gateN 10 l = NX by rw [← hNX,← hX]; rfl]
  simp
  refine CallO.pure hlxor (u8s_ok _ _) ?_
  simp
  refine CallO.pure hnX rfl ?_
  simp
 ·have h0 : l.length = 3:=by
   have e1 : lo = 3:=by rw [← hlo]; rfl
   have e2 : hi = 3:=by rw [← hhi]; rfl
   omega
  have hr:=lmux_c (l[0]'(by omega)) (l[1]'(by omega)) (l[2]'(by omega))
  have e : gateN 11 l = muxN (l[0]'(by omega)) (l[1]'(by omega)) (l[2]'(by omega)):=by rw [← hg 0 (by omega),← hg 1 (by omega),← hg 2 (by omega)]; rfl
  rw [e]
  generalize muxN (l[0]'(by omega)) (l[1]'(by omega)) (l[2]'(by omega)) = M at hr ⊢
  simp only [u8V] at hr
  simp [show 0 < l.length by omega,show 1 < l.length by omega,show 2 < l.length by omega,u8V]
  intro gm
  first | refine ⟨_,_,_,.pure hr rfl,?_⟩ | refine ⟨_,⟨_,_,.pure hr rfl⟩,?_⟩ | refine ⟨_,_,⟨_,.pure hr rfl⟩,?_⟩
  simp
 ·have h0 : l.length = 2:=by
   have e1 : lo = 2:=by rw [← hlo]; rfl
   have e2 : hi = 2:=by rw [← hhi]; rfl
   omega
  have hr:=ltri_c (l[0]'(by omega)) (l[1]'(by omega))
  have e : gateN 12 l = triN (l[0]'(by omega)) (l[1]'(by omega)):=by rw [← hg 0 (by omega),← hg 1 (by omega)]; rfl
  rw [e]
  generalize triN (l[0]'(by omega)) (l[1]'(by omega)) = M at hr ⊢
  simp only [u8V] at hr
  simp [show 0 < l.length by omega,show 1 < l.length by omega,u8V]
  intro gm
  first | refine ⟨_,_,_,.pure hr rfl,?_⟩ | refine ⟨_,⟨_,_,.pure hr rfl⟩,?_⟩ | refine ⟨_,_,⟨_,.pure hr rfl⟩,?_⟩
  simp
 ·rw [show gateN 13 l = U from hU]
  simp
  refine CallO.pure hbus (u8s_ok _ _) ?_
  simp
 ·simp [gateN]
 ·simp [gateN]
end Go.Proofs.YtpaopccohkldlaaGreatDoor
namespace Go.Proofs.YtpaopccohkldlaaGreatDoor
open Go
attribute [simp] u8s_pure
@[simp] theorem pt_cells (p : Pt) : p.v.cells = [.sl (p.i.map u8V) none,.sl (p.s.map u8V) none]:=rfl
@[simp] theorem pt_cellsOk (p : Pt) : p.v.cellsOk = true:=rfl
@[simp] theorem pt_pure (p : Pt) : V.pure p.v = true:=by simp [Pt.v]
theorem cnt_app (k : Int) : ∀ a b : List Nd,cnt k (a ++ b) = cnt k a + cnt k b
 | [],b=>by simp [cnt,ids]
 | n :: a,b=>by rw [List.cons_append,cnt_cons,cnt_cons,cnt_app k a b]; omega
theorem cnt_take {k : Int} {l : List Nd} {i : Nat} {y : Nd} (h : i < l.length) (hy : l[i] = y) : cnt k (l.take (i + 1)) = cnt k (l.take i) + if y.k = k then 1 else 0:=by
 rw [List.take_succ_eq_append_getElem h,cnt_app,hy,cnt_cons]
 simp [cnt,ids]
theorem listV_le (l : List V) : VLe (listV l) (.sl l none):=by
 cases l with
 | nil=>exact VLe.nil'
 | cons a r=>exact .refl _
end Go.Proofs.YtpaopccohkldlaaGreatDoor
namespace Go.Proofs.YtpaopccohkldlaaGreatDoor
open Go
theorem above_c (v : Nat) (h : v ≤ 3) : PureC Tryz.prog gl0 118 [u8V v] (.bool false):=by
 refine PureC.of_W 2 ok118 rfl ?_
 simp [i118,x118,u8V]
 omega
theorem idxNone_c (f : FuncId) (l : List Nat) (cap : Option Nat) (hl : l.length < 1000000000) (hf : ∀ v ∈ l,PureC Tryz.prog gl0 f [u8V v] (.bool false)) : PureC Tryz.prog gl0 159 [.sl (l.map u8V) cap,.fn f [] []] (.int .i64 (-1)):=by
 refine PureC.of_W 2 ok159 rfl ?_
 simp [i159,x159]
 refine LoopP.of (X:=Nat) (fun i=>[(8,natV i),(7,natV l.length),(0,.sl (l.map u8V) cap),(1,.fn f [] [])]) (fun _=>[])
  (fun i=>i ≤ l.length) (fun i=>l.length - i) 0 (Nat.zero_le _) (by simp [natV]) (by simp) ?_
 intro i hi
 simp [natV]
 refine BrB.of (fun hb=>?_) (fun hb=>?_)
 ·have hi' : i < l.length:=of_decide_eq_true hb
  have hw:=wrapN i (by omega)
  obtain ⟨y,hy⟩ : ∃ y,l[i] = y:=⟨_,rfl⟩
  have hfy:=hf y (by rw [← hy]; exact List.getElem_mem hi')
  simp only [u8V] at hfy
  simp [hi',hy,u8V]
  refine CallO.pure hfy rfl ?_
  simp [hw]
  exact ⟨i + 1,hi',rfl,by omega⟩
 ·simp
theorem contNone_c (f : FuncId) (l : List Nat) (cap : Option Nat) (hl : l.length < 1000000000) (hf : ∀ v ∈ l,PureC Tryz.prog gl0 f [u8V v] (.bool false)) : PureC Tryz.prog gl0 117 [.sl (l.map u8V) cap,.fn f [] []] (.bool false):=by
 refine PureC.of_W 2 ok117 rfl ?_
 simp [i117,x117]
 refine CallO.pure (idxNone_c f l cap hl hf) (by simp [V.pureL,V.pure,u8s_pure]) ?_
 simp
theorem inputsN_c (c : Ci) (hl : c.n.length < 1000000) : PureC Tryz.prog gl0 44 [c.v] (.sl (natsV (ids 0 c.n 0)) (some (cnt 0 c.n))):=by
 have:=PureC.of_one (OwnC.one (inputs_c c hl) fun _ _ h=>fresh_one h) (ofLs_noG _ c.n 0).2
 rw [ofLs_ids] at this
 simpa [cnt] using this
theorem statesN_c (c : Ci) (hl : c.n.length < 1000000) : PureC Tryz.prog gl0 45 [c.v] (.sl (natsV (ids 14 c.n 0)) (some (cnt 14 c.n))):=by
 have:=PureC.of_one (OwnC.one (states_c c hl) fun _ _ h=>fresh_one h) (ofLs_noG _ c.n 0).2
 rw [ofLs_ids] at this
 simpa [cnt] using this
theorem ofMem_c (c : Ci) (hg : c.good) : OwnC Tryz.prog gl0 88 [c.v,.sl [.int .u8 15] (some 1)] (DatK 1 (.sl [] (some 0))):=by
 have h1:=OwnC.dat1 (of1_c c [15] (some 1) (by have:=hg.n1; omega) (by simp)) (ofLs_noG [15] c.n 0).2 (ofLs_noG [15] c.n 0).1
 have h2 : ids 15 c.n 0 = []:=by
  rw [List.eq_nil_iff_forall_not_mem]
  intro x hx
  obtain ⟨hx',hk⟩:=ids_lt hx
  exact hg.k _ (List.getElem_mem hx') hk
 rw [ofLs_ids,h2] at h1
 simpa [natsV] using h1
theorem fits_c (c : Ci) (hg : c.good) (p : Pt) (hp : p.fit c) : PureC Tryz.prog gl0 80 [c.v,p.v] (.int .i64 0):=by
 have hn1:=hg.n1
 have hm:=hg.m
 have l0:=cnt_le 0 c.n
 have l1:=cnt_le 14 c.n
 have hpi:=hp.i
 have hps:=hp.s
 have ci:=inputsN_c c (by omega)
 have cs:=statesN_c c (by omega)
 have cm:=ofMem_c c hg
 have k1:=contNone_c 118 p.i none (by omega) fun v hv=>above_c v (hp.iv v hv)
 have k2:=contNone_c 118 p.s none (by omega) fun v hv=>above_c v (hp.sv v hv)
 obtain ⟨I,hI⟩ : ∃ I,ids 0 c.n 0 = I:=⟨_,rfl⟩
 obtain ⟨S,hS⟩ : ∃ S,ids 14 c.n 0 = S:=⟨_,rfl⟩
 have hIl : I.length = cnt 0 c.n:=by rw [← hI]; rfl
 have hSl : S.length = cnt 14 c.n:=by rw [← hS]; rfl
 rw [hI] at ci
 rw [hS] at cs
 refine PureC.of_W 2 ok80 rfl ?_
 simp [i80,x80,hm]
 intro gf1 gf2
 intro gf3
 refine CallO.dat 1 cm (by simp) ?_
 simp
 intro gm
 refine ⟨_,_,_,.pure ci (by simp),?_⟩
 simp [hpi,hIl]
 refine ⟨_,_,_,.pure cs (by simp),?_⟩
 simp [hps,hSl]
 refine ⟨rfl,?_⟩
 refine CallO.pure k1 (by simp) ?_
 simp
 refine CallO.pure k2 (by simp) ?_
 simp
def blkP (c : Ci) : Pt:=⟨List.replicate (cnt 0 c.n) 2,List.replicate (cnt 14 c.n) 2⟩
theorem blk_fit (c : Ci) : (blkP c).fit c:=⟨by simp [blkP],by simp [blkP],fun x hx=>by rw [List.eq_of_mem_replicate hx]; omega,fun x hx=>by rw [List.eq_of_mem_replicate hx]; omega⟩
end Go.Proofs.YtpaopccohkldlaaGreatDoor
namespace Go.Proofs.YtpaopccohkldlaaGreatDoor
open Go
def runV (c : Ci) (l : V) : V:=.agg [.sl (c.n.map Nd.v) none,.sl (c.s.map .str) none,.sl (c.m.map Md.v) none,.sl (ints c.o) none,l]
@[simp] theorem run_cells (c : Ci) (l : V) : (runV c l).cells = [.sl (c.n.map Nd.v) none,.sl (c.s.map .str) none,.sl (c.m.map Md.v) none,.sl (ints c.o) none,l]:=rfl
@[simp] theorem run_ok (c : Ci) (xs : List V) (cap : Option Nat) : (runV c (.sl xs cap)).cellsOk = true:=rfl
@[simp] theorem run_okR (c : Ci) (b g o l : Nat) (cap : Option Nat) : (runV c (.ref b g o l cap)).cellsOk = true:=rfl
theorem run_pure (c : Ci) (l : List Nat) (cap : Option Nat) : (runV c (.sl (l.map u8V) cap)).pure = true:=by
 have:=ci_pure2 c
 simp only [Ci.v,V.pure,V.pureL,Bool.and_true,Bool.and_eq_true] at this
 simp [runV,this]
theorem value_c (c : Ci) (l : List Nat) (cap : Option Nat) (m : Nat) (h : m < l.length) (_hl : l.length < 1000000) : PureC Tryz.prog gl0 128 [runV c (.sl (l.map u8V) cap),.int .i64 (m : Int)] (u8V (clean (l.getD m 0))):=by
 obtain ⟨x,hx⟩ : ∃ x,l[m] = x:=⟨_,rfl⟩
 have hd : l.getD m 0 = x:=by rw [List.getD_eq_getElem?_getD,List.getElem?_eq_getElem h,hx]; rfl
 rw [hd]
 have hc:=clean_c x
 simp only [u8V] at hc
 refine PureC.of_W 2 ok128 rfl ?_
 simp [i128,x128,runV,show ¬ l.length ≤ m by omega,h,hx,u8V]
 intro gf
 refine CallO.pure hc rfl ?_
 simp
theorem clip_c (l : List Nat) (cap : Option Nat) (_hl : l.length < 1000000) : PureC Tryz.prog gl0 129 [.sl (l.map u8V) cap] (.sl (l.map u8V) (some l.length)):=by
 refine PureC.of_W 2 ok129 rfl ?_
 simp [i129,x129]
 rw [List.take_of_length_le (by simp)]
 exact mapRL_pure _ (u8s_pure l)
theorem clip0_c : PureC Tryz.prog gl0 129 [.nil] (.sl [] (some 0)):=PureC.wide (clip_c [] none (by simp)) ⟨VLe.nil',trivial⟩ (.refl _)
theorem nd_dff {c : Ci} (hg : c.good) {n : Nat} (hn : n ∈ ids 14 c.n 0) : ∃ h : n < c.n.length,∃ x : Int,c.n[n].i = [x]∧0 ≤ x∧x < c.n.length∧c.n[n].k = 14:=by
 obtain ⟨h,hk⟩:=ids_lt hn
 have h1:=nd_zero ((sh_zero hg.sh).2.2.1 _ (List.getElem_mem h))
 have hv:=hg.val.i n h
 rw [c.nd_get h] at hv
 have hw:=h1.2.1
 rw [hk] at hw
 have hl : c.n[n].i.length = 1:=by
  have e1 : kLo 14 = 1:=rfl
  have e2 : kHi 14 = 1:=rfl
  simp only [widB,e1,e2,Bool.and_eq_true,decide_eq_true_eq] at hw
  omega
 match hq : c.n[n].i,hl with
 | [x],_=>
  rw [hq] at hv
  have:=hv x (by simp)
  exact ⟨h,x,hq,this.1,this.2,hk⟩
theorem map_take_succ {α β : Type} {l : List α} {i : Nat} {y : α} (F : α→β) (h : i < l.length) (hy : l[i] = y) : (l.take (i + 1)).map F = (l.take i).map F ++ [F y]:=by
 rw [List.take_succ_eq_append_getElem h,hy]; simp
set_option maxHeartbeats 4000000 in
theorem observe_c (c : Ci) (hg : c.good) (l : List Nat) (cap : Option Nat) (hll : l.length = c.n.length) : PureC Tryz.prog gl0 84 [runV c (.sl (l.map u8V) cap)] (rspV (obsO c fun i=>l.getD i 0) (obsS c fun i=>l.getD i 0)):=by
 have hn1:=hg.n1
 have hno : c.o.length ≤ 16384:=(sh_len hg.sh).2.2.2
 have l1:=cnt_le 14 c.n
 have cs:=statesN_c c (by omega)
 have hcl:=clip_c
 obtain ⟨F,hF⟩ : ∃ F : Int→Nat,F = fun n=>clean (l.getD n.toNat 0):=⟨_,rfl⟩
 obtain ⟨E,hE⟩ : ∃ E : Nat→Nat,E = nxtN c fun i=>l.getD i 0:=⟨_,rfl⟩
 have hres : rspV (obsO c fun i=>l.getD i 0) (obsS c fun i=>l.getD i 0) = rspV (c.o.map F) ((ids 14 c.n 0).map E):=by rw [hF,hE]; rfl
 rw [hres]
 have hdff:=fun n (hn : n ∈ ids 14 c.n 0)=>nd_dff hg hn
 obtain ⟨S,hS⟩ : ∃ S,ids 14 c.n 0 = S:=⟨_,rfl⟩
 have hSl : S.length = cnt 14 c.n:=by rw [← hS]; rfl
 rw [hS] at cs hdff ⊢
 rw [← hSl] at cs l1
 have hrp:=run_pure c l cap
 refine PureC.of_W 2 ok84 rfl ?_
 simp [i84,x84]
 intro gf1 gf2 gf3
 generalize gf1 1 = g1
 generalize gf2 2 = g2
 generalize gf3 3 = g3
 refine LoopP.of (X:=Nat × Option (Nat × List V)) (fun z=>[(14,natV z.1),(13,natV c.o.length),(12,.sl (ints c.o) none),(3,.ptr 3 g3 0 0),(2,.ptr 2 g2 0 0),(1,.ptr 1 g1 0 0)])
  (fun z=>[(3,.row g3 2 [.agg [accV 24 z.2,.nil]]),(2,.row g2 2 [.agg [.nil,.nil]]),(1,.row g1 5 [runV c (.sl (l.map u8V) cap)])] ++ accH 24 1 z.2)
  (fun z=>z.1 ≤ c.o.length∧(z.2 = none↔z.1 = 0)∧accL z.2 = ((c.o.take z.1).map F).map u8V) (fun z=>c.o.length - z.1) (0,none) ⟨by simp,by simp,by simp [accL]⟩ (by simp [natV]) (by simp [accV,accH]) ?_
 rintro ⟨i,acc⟩ ⟨q1,q2,q3⟩
 dsimp only at q1 q2 q3 ⊢
 simp [natV]
 refine BrB.of (fun hb=>?_) (fun hb=>?_)
 ·have hi : i < c.o.length:=of_decide_eq_true hb
  have hw:=wrapN i (by omega)
  obtain ⟨y,hy⟩ : ∃ y,c.o[i] = y:=⟨_,rfl⟩
  obtain ⟨y0,y1⟩:=hg.o (x:=y) (by rw [← hy]; exact List.getElem_mem hi)
  obtain ⟨m,rfl⟩:=Int.eq_ofNat_of_zero_le y0
  have hv:=value_c c l cap m (by omega) (by omega)
  have hFm : clean (l.getD m 0) = F (m : Int):=by rw [hF]; rfl
  rw [hFm] at hv
  have hnx:=congrArg (List.map u8V) (map_take_succ F hi hy)
  rw [List.map_append,← q3] at hnx
  simp only [List.map_cons,List.map_nil,u8V] at hnx hv
  cases acc with
  | none=>
   have hi0 : i = 0:=q2.1 rfl
   simp [accV,accH,hi,ints_getE,hy]
   intro gm
   refine ⟨_,_,_,.pure hv (by simp),?_⟩
   simp [hw]
   refine ⟨rfl,i + 1,some (gm 24,[.int .u8 (F (m : Int) : Int)]),⟨hi,by simp,by simpa [accL,u8V] using hnx.symm⟩,by simp,by simp,by omega⟩
  | some gl=>
   obtain ⟨g,r⟩:=gl
   simp only [accL] at q3 hnx
   simp [accV,accH,hi,ints_getE,hy]
   intro gm
   refine ⟨_,_,_,.pure hv (by simp),?_⟩
   simp [hw]
   refine ⟨by have:=congrArg List.length q3; simp at this; omega,rfl,i + 1,some (g + 1,r ++ [.int .u8 (F (m : Int) : Int)]),⟨hi,by simp,by simpa [accL,u8V] using hnx.symm⟩,by simp,by simp,by omega⟩
 have hi : i = c.o.length:=by have:=of_decide_eq_false hb; omega
 subst hi
 rw [List.take_length] at q3
 simp
 refine CallO.pure cs (by simp) ?_
 simp
 refine LoopP.ofF (X:=Nat × Option (Nat × List V)) (fun z=>[(31,natV z.1),(30,natV S.length),(29,.sl (natsV S) (some S.length)),(3,.ptr 3 g3 0 0),(2,.ptr 2 g2 0 0),(1,.ptr 1 g1 0 0)])
  (fun z=>[(3,.row g3 2 [.agg [accV 24 acc,accV 55 z.2]]),(2,.row g2 2 [.agg [.nil,.nil]]),(1,.row g1 5 [runV c (.sl (l.map u8V) cap)])] ++ (accH 24 1 acc ++ accH 55 1 z.2))
  (fun z=>z.1 ≤ S.length∧(z.2 = none↔z.1 = 0)∧accL z.2 = ((S.take z.1).map E).map u8V) (fun z=>S.length - z.1) (.done ⟨(0,none),⟨by simp,by simp,by simp [accL]⟩,by simp [natV],?_⟩) ?_
 ·cases acc with
  | none=>simp [accV,accH]
  | some gl=>simp [accV,accH]
 rintro ⟨j,acc2⟩ ⟨p1,p2,p3⟩
 dsimp only at p1 p2 p3 ⊢
 simp [natV]
 refine BrB.of (fun hb2=>?_) (fun hb2=>?_)
 ·have hj : j < S.length:=of_decide_eq_true hb2
  have hw:=wrapN j (by omega)
  obtain ⟨n,hn⟩ : ∃ n,S[j] = n:=⟨_,rfl⟩
  obtain ⟨hnc,x,hxi,x0,x1,-⟩:=hdff n (by rw [← hn]; exact List.getElem_mem hj)
  obtain ⟨m,rfl⟩:=Int.eq_ofNat_of_zero_le x0
  have hv:=value_c c l cap m (by omega) (by omega)
  have hr:=rdN_c (clean (l.getD m 0))
  have hEn : rdN (clean (l.getD m 0)) = E n:=by rw [hE]; simp only [nxtN]; rw [c.nd_get hnc,hxi]; rfl
  rw [hEn] at hr
  obtain ⟨q,hq⟩ : ∃ q,clean (l.getD m 0) = q:=⟨_,rfl⟩
  rw [hq] at hv hr
  obtain ⟨y,hy⟩ : ∃ y,c.n[n] = y:=⟨_,rfl⟩
  rw [hy] at hxi
  have hnx:=congrArg (List.map u8V) (map_take_succ E hj hn)
  rw [List.map_append,← p3] at hnx
  simp only [List.map_cons,List.map_nil,u8V] at hnx hv hr
  have h1 : ints [(m : Int)] = [.int .i64 (m : Int)]:=rfl
  rcases acc with _ | gl <;> rcases acc2 with _ | gl2
  case' none.none=>
   simp [hj,natsV_get,hn,hnc,hy,hxi,accV,accH,h1]
   intro gm
   first | refine ⟨_,_,_,.pure hv (by simp [hrp]),?_⟩ | refine ⟨_,⟨_,_,.pure hv (by simp [hrp])⟩,?_⟩ | refine ⟨_,_,⟨_,.pure hv (by simp)⟩,?_⟩
   simp
   first | refine ⟨_,_,_,.pure hr (by simp),?_⟩ | refine ⟨_,⟨_,_,.pure hr (by simp)⟩,?_⟩ | refine ⟨_,_,⟨_,.pure hr (by simp)⟩,?_⟩
   simp
   intro ga gb
   refine .done ⟨j + 1,some (gb 55,[.int .u8 (E n : Int)]),⟨hj,by simp,by simpa [accL,u8V] using hnx.symm⟩,by simp [hw],by simp,by omega⟩
  case' some.none=>
   simp [hj,natsV_get,hn,hnc,hy,hxi,accV,accH,h1]
   intro gm
   first | refine ⟨_,_,_,.pure hv (by simp [hrp]),?_⟩ | refine ⟨_,⟨_,_,.pure hv (by simp [hrp])⟩,?_⟩ | refine ⟨_,_,⟨_,.pure hv (by simp)⟩,?_⟩
   simp
   first | refine ⟨_,_,_,.pure hr (by simp),?_⟩ | refine ⟨_,⟨_,_,.pure hr (by simp)⟩,?_⟩ | refine ⟨_,_,⟨_,.pure hr (by simp)⟩,?_⟩
   simp
   intro ga gb
   refine .done ⟨j + 1,some (gb 55,[.int .u8 (E n : Int)]),⟨hj,by simp,by simpa [accL,u8V] using hnx.symm⟩,by simp [hw],by simp,by omega⟩
  case' none.some=>
   simp [hj,natsV_get,hn,hnc,hy,hxi,accV,accH,h1]
   intro gm
   first | refine ⟨_,_,_,.pure hv (by simp [hrp]),?_⟩ | refine ⟨_,⟨_,_,.pure hv (by simp [hrp])⟩,?_⟩ | refine ⟨_,_,⟨_,.pure hv (by simp)⟩,?_⟩
   simp
   first | refine ⟨_,_,_,.pure hr (by simp),?_⟩ | refine ⟨_,⟨_,_,.pure hr (by simp)⟩,?_⟩ | refine ⟨_,_,⟨_,.pure hr (by simp)⟩,?_⟩
   simp
   intro ga gb
   refine ⟨by have:=congrArg List.length p3; simp [accL] at this; omega,.done ⟨j + 1,some (gb 55,gl2.2 ++ [.int .u8 (E n : Int)]),⟨hj,by simp,by simpa [accL,u8V] using hnx.symm⟩,by simp [hw],by simp,by omega⟩⟩
  case' some.some=>
   simp [hj,natsV_get,hn,hnc,hy,hxi,accV,accH,h1]
   intro gm
   first | refine ⟨_,_,_,.pure hv (by simp [hrp]),?_⟩ | refine ⟨_,⟨_,_,.pure hv (by simp [hrp])⟩,?_⟩ | refine ⟨_,_,⟨_,.pure hv (by simp)⟩,?_⟩
   simp
   first | refine ⟨_,_,_,.pure hr (by simp),?_⟩ | refine ⟨_,⟨_,_,.pure hr (by simp)⟩,?_⟩ | refine ⟨_,_,⟨_,.pure hr (by simp)⟩,?_⟩
   simp
   intro ga gb
   refine ⟨by have:=congrArg List.length p3; simp [accL] at this; omega,.done ⟨j + 1,some (gb 55,gl2.2 ++ [.int .u8 (E n : Int)]),⟨hj,by simp,by simpa [accL,u8V] using hnx.symm⟩,by simp [hw],by simp,by omega⟩⟩
 have hj : j = S.length:=by have:=of_decide_eq_false hb2; omega
 subst hj
 rw [List.take_length] at p3
 have hcO:=clip_c (c.o.map F) none (by simp; omega)
 have hcS:=clip_c (S.map E) none (by simp; omega)
 generalize c.o.map F = O at q3 hcO ⊢
 generalize S.map E = T at p3 hcS ⊢
 have htO : List.take O.length (O.map u8V) = O.map u8V:=List.take_of_length_le (by simp)
 have htT : List.take T.length (T.map u8V) = T.map u8V:=List.take_of_length_le (by simp)
 rcases acc with _ | ⟨ga,ra⟩ <;> rcases acc2 with _ | ⟨gb,rb⟩
 ·have hO : O = []:=by simpa [accL] using q3.symm
  have hT : T = []:=by simpa [accL] using p3.symm
  subst hO hT
  simp [accV,accH]
  refine .mk [(3,.ptr 3 g3 0 0),(2,.ptr 2 g2 0 0)] [(3,.row g3 2 [.agg [.nil,.nil]]),(2,.row g2 2 [.agg [.nil,.nil]])] (by simp) (by simp) (.done ?_)
  simp
  intro gm
  first | refine ⟨_,_,_,.pure clip0_c (by simp),?_⟩ | refine ⟨_,⟨_,_,.pure clip0_c (by simp)⟩,?_⟩ | refine ⟨_,_,⟨_,.pure clip0_c (by simp)⟩,?_⟩
  simp
  first | refine ⟨_,_,_,.pure clip0_c (by simp),?_⟩ | refine ⟨_,⟨_,_,.pure clip0_c (by simp)⟩,?_⟩ | refine ⟨_,_,⟨_,.pure clip0_c (by simp)⟩,?_⟩
  simp [rspV]
  try rfl
 ·simp only [accL] at q3 p3
  have hO : O = []:=by simpa using q3.symm
  subst hO
  subst p3
  simp [accV,accH]
  refine .mk [(3,.ptr 3 g3 0 0),(2,.ptr 2 g2 0 0)] [(3,.row g3 2 [.agg [.nil,.ref 55 gb 0 T.length none]]),(2,.row g2 2 [.agg [.nil,.nil]]),(55,.row gb 1 (T.map u8V))] (by simp) (by simp) (.frz (g:=gb) (sz:=1) (es:=T.map u8V) 55 (by simp) (u8s_pure T) (.done ?_))
  simp [fzF,fzH,fzV,fzf,fzp,Blk.fz,htT]
  intro gm
  first | refine ⟨_,_,_,.pure clip0_c (by simp),?_⟩ | refine ⟨_,⟨_,_,.pure clip0_c (by simp)⟩,?_⟩ | refine ⟨_,_,⟨_,.pure clip0_c (by simp)⟩,?_⟩
  simp
  first | refine ⟨_,_,_,.pure hcS (by simp),?_⟩ | refine ⟨_,⟨_,_,.pure hcS (by simp)⟩,?_⟩ | refine ⟨_,_,⟨_,.pure hcS (by simp)⟩,?_⟩
  simp [rspV,mapRL_pure]
  try rfl
 ·simp only [accL] at q3 p3
  subst q3
  have hT : T = []:=by simpa using p3.symm
  subst hT
  simp [accV,accH]
  refine .mk [(3,.ptr 3 g3 0 0),(2,.ptr 2 g2 0 0)] [(3,.row g3 2 [.agg [.ref 24 ga 0 O.length none,.nil]]),(2,.row g2 2 [.agg [.nil,.nil]]),(24,.row ga 1 (O.map u8V))] (by simp) (by simp) (.frz (g:=ga) (sz:=1) (es:=O.map u8V) 24 (by simp) (u8s_pure O) (.done ?_))
  simp [fzF,fzH,fzV,fzf,fzp,Blk.fz,htO]
  intro gm
  first | refine ⟨_,_,_,.pure hcO (by simp),?_⟩ | refine ⟨_,⟨_,_,.pure hcO (by simp)⟩,?_⟩ | refine ⟨_,_,⟨_,.pure hcO (by simp)⟩,?_⟩
  simp
  first | refine ⟨_,_,_,.pure clip0_c (by simp),?_⟩ | refine ⟨_,⟨_,_,.pure clip0_c (by simp)⟩,?_⟩ | refine ⟨_,_,⟨_,.pure clip0_c (by simp)⟩,?_⟩
  simp [rspV,mapRL_pure]
  try rfl
 ·simp only [accL] at q3 p3
  subst q3
  subst p3
  simp [accV,accH]
  refine .mk [(3,.ptr 3 g3 0 0),(2,.ptr 2 g2 0 0)] [(3,.row g3 2 [.agg [.ref 24 ga 0 O.length none,.ref 55 gb 0 T.length none]]),(2,.row g2 2 [.agg [.nil,.nil]]),(24,.row ga 1 (O.map u8V)),(55,.row gb 1 (T.map u8V))] (by simp) (by simp) (.frz (g:=ga) (sz:=1) (es:=O.map u8V) 24 (by simp) (u8s_pure O) (.frz (g:=gb) (sz:=1) (es:=T.map u8V) 55 (by simp [fzH,Blk.fz,map_fzV (u8s_pure T)]) (u8s_pure T) (.done ?_)))
  simp [fzF,fzH,fzV,fzf,fzp,Blk.fz,htO,htT,mapRL_pure]
  intro gm
  first | refine ⟨_,_,_,.pure hcO (by simp),?_⟩ | refine ⟨_,⟨_,_,.pure hcO (by simp)⟩,?_⟩ | refine ⟨_,_,⟨_,.pure hcO (by simp)⟩,?_⟩
  simp
  first | refine ⟨_,_,_,.pure hcS (by simp),?_⟩ | refine ⟨_,⟨_,_,.pure hcS (by simp)⟩,?_⟩ | refine ⟨_,_,⟨_,.pure hcS (by simp)⟩,?_⟩
  simp [rspV,mapRL_pure]
  try rfl
end Go.Proofs.YtpaopccohkldlaaGreatDoor
