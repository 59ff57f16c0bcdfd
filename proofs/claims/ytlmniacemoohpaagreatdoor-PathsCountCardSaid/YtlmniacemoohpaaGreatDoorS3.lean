/- The contracts of the logic of lists of values. Conditions: none. -/
import Derived.Test.YtlmniacemoohpaaGreatDoorS1
import Derived.Test.YtlmniacemoohpaaGreatDoorNet13
set_option linter.unusedSimpArgs false
set_option linter.unusedVariables false
namespace Go.Proofs.YtlmniacemoohpaaGreatDoor
open Go
theorem clean_c (v : Nat) : PureC Tryz.prog gl0 141 [u8V v] (u8V (clean v)):=by
 refine PureC.of_W 2 ok141 rfl ?_
 simp [i141,x141,u8V,clean]
 refine BrB.of (fun h=>?_) (fun h=>?_)
 ·have:=of_decide_eq_true h
  simp [show 3 < v by omega]
 ·have:=of_decide_eq_false h
  simp [show ¬ 3 < v by omega]
theorem rdN_c (v : Nat) : PureC Tryz.prog gl0 97 [u8V v] (u8V (rdN v)):=by
 refine PureC.of_W 2 ok97 rfl ?_
 simp [i97,x97,u8V,rdN]
 omega
theorem known_c (v : Nat) : PureC Tryz.prog gl0 45 [u8V v] (.bool (decide (v ≤ 1))):=by
 refine PureC.of_W 2 ok45 rfl ?_
 simp [i45,x45,u8V]
theorem lnot_c (v : Nat) : PureC Tryz.prog gl0 24 [u8V v] (u8V (notN v)):=by
 refine PureC.of_W 2 ok24 rfl ?_
 simp [i24,x24]
 refine CallO.pure (known_c v) rfl ?_
 simp [u8V]
 refine BrB.of (fun h=>?_) (fun h=>?_)
 ·have hv : v = 0∨v = 1:=by have:=of_decide_eq_true h; omega
  rcases hv with rfl | rfl <;> simp [notN,IntKind.wrap,IntKind.bits,IntKind.signed]
 ·have hv:=of_decide_eq_false h
  simp [notN,hv]
theorem dec_c (lo hi : Nat) (l : List Nat) (cap : Option Nat) (hl : l.length < 1000000000) : PureC Tryz.prog gl0 139 [.sl (l.map u8V) cap,u8V lo,u8V hi] (u8V (dec lo hi hi l)):=by
 obtain ⟨q,hq⟩ : ∃ r,dec lo hi hi l = r:=⟨_,rfl⟩
 rw [hq]
 refine PureC.of_W 2 ok139 rfl ?_
 simp [i139,x139,u8V]
 refine LoopP.of (X:=Nat × Nat) (fun z=>[(13,natV z.1),(12,natV l.length),(11,.sl (l.map u8V) cap),(7,u8V z.2),(2,u8V hi),(1,u8V lo)]) (fun _=>[])
  (fun z=>z.1 ≤ l.length∧dec lo hi z.2 (l.drop z.1) = q) (fun z=>l.length - z.1) (0,hi) ⟨by simp,by simpa using hq⟩ (by simp [natV,u8V]) (by simp) ?_
 rintro ⟨i,out⟩ ⟨h2,h3⟩
 dsimp only at h2 h3 ⊢
 simp [natV,u8V]
 refine BrB.of (fun h1=>?_) (fun h1=>?_)
 ·have hi' : i < l.length:=of_decide_eq_true h1
  have hw:=wrapN i (by omega)
  rw [List.drop_eq_getElem_cons hi',dec] at h3
  obtain ⟨v,hv⟩ : ∃ v,l[i] = v:=⟨_,rfl⟩
  rw [hv] at h3
  simp [hi',hv,u8V]
  refine BrB.of (fun h4=>?_) (fun h4=>?_)
  ·rw [if_pos (of_decide_eq_true h4)] at h3
   simp [h3]
  ·rw [if_neg (of_decide_eq_false h4)] at h3
   simp
   refine BrB.of (fun h5=>?_) (fun h5=>?_)
   ·have h5':=of_decide_eq_true h5
    rw [if_pos h5'] at h3
    simp [hw]
    exact ⟨i + 1,out,⟨hi',h3⟩,⟨rfl,rfl⟩,by omega⟩
   ·have h5':=of_decide_eq_false h5
    rw [if_neg h5'] at h3
    simp [hw]
    exact ⟨i + 1,2,⟨hi',h3⟩,⟨rfl,rfl⟩,by omega⟩
 ·have hi' : i = l.length:=by have:=of_decide_eq_false h1; omega
  subst hi'
  simp [dec] at h3
  simp [h3]
theorem u8s_pure (l : List Nat) : V.pureL (l.map u8V) = true:=V.pureL_map _ l fun _=>rfl
theorem land_c (l : List Nat) (cap : Option Nat) (hl : l.length < 1000000000) : PureC Tryz.prog gl0 98 [.sl (l.map u8V) cap] (u8V (dec 0 1 1 l)):=by
 refine PureC.of_W 2 ok98 rfl ?_
 simp [i98,x98]
 refine CallO.pure (dec_c 0 1 l cap hl) (by simp only [V.pureL,V.pure,u8s_pure,Bool.and_self]) ?_
 simp [u8V]
theorem lor_c (l : List Nat) (cap : Option Nat) (hl : l.length < 1000000000) : PureC Tryz.prog gl0 99 [.sl (l.map u8V) cap] (u8V (dec 1 0 0 l)):=by
 refine PureC.of_W 2 ok99 rfl ?_
 simp [i99,x99]
 refine CallO.pure (dec_c 1 0 l cap hl) (by simp only [V.pureL,V.pure,u8s_pure,Bool.and_self]) ?_
 simp [u8V]
theorem lxor_c (l : List Nat) (cap : Option Nat) (hl : l.length < 1000000000) : PureC Tryz.prog gl0 100 [.sl (l.map u8V) cap] (u8V (xorN 0 l)):=by
 obtain ⟨q,hq⟩ : ∃ r,xorN 0 l = r:=⟨_,rfl⟩
 rw [hq]
 refine PureC.of_W 2 ok100 rfl ?_
 simp [i100,x100]
 refine LoopP.of (X:=Nat × Nat) (fun z=>[(8,natV z.1),(7,natV l.length),(6,.sl (l.map u8V) cap),(3,u8V z.2)]) (fun _=>[])
  (fun z=>z.1 ≤ l.length∧z.2 ≤ 1∧xorN z.2 (l.drop z.1) = q) (fun z=>l.length - z.1) (0,0) ⟨by simp,by simp,by simpa using hq⟩ (by simp [natV,u8V]) (by simp) ?_
 rintro ⟨i,out⟩ ⟨h2,h4,h3⟩
 dsimp only at h2 h3 h4 ⊢
 simp [natV,u8V]
 refine BrB.of (fun h1=>?_) (fun h1=>?_)
 ·have hi' : i < l.length:=of_decide_eq_true h1
  have hw:=wrapN i (by omega)
  rw [List.drop_eq_getElem_cons hi',xorN] at h3
  obtain ⟨v,hv⟩ : ∃ v,l[i] = v:=⟨_,rfl⟩
  rw [hv] at h3
  have hk:=known_c v
  simp only [u8V] at hk
  simp [hi',hv,u8V]
  refine CallO.pure hk rfl ?_
  simp
  refine BrB.of (fun h5=>?_) (fun h5=>?_)
  ·have hv1 : v = 0∨v = 1:=by have:=of_decide_eq_true h5; omega
   have ho : out = 0∨out = 1:=by omega
   rcases hv1 with rfl | rfl
   ·simp only [if_true] at h3
    rcases ho with rfl | rfl
    ·simp [hw]
     exact ⟨i + 1,0,⟨hi',by omega,h3⟩,⟨rfl,rfl⟩,by omega⟩
    ·simp [hw]
     exact ⟨i + 1,1,⟨hi',by omega,h3⟩,⟨rfl,rfl⟩,by omega⟩
   ·simp only [if_true,Nat.one_ne_zero,if_false] at h3
    rcases ho with rfl | rfl
    ·simp [hw]
     exact ⟨i + 1,1,⟨hi',by omega,h3⟩,⟨rfl,rfl⟩,by omega⟩
    ·simp [hw]
     exact ⟨i + 1,0,⟨hi',by omega,h3⟩,⟨rfl,rfl⟩,by omega⟩
  ·have h5':=of_decide_eq_false h5
   rw [if_neg (by omega),if_neg (by omega)] at h3
   subst h3
   simp
 ·have hi' : i = l.length:=by have:=of_decide_eq_false h1; omega
  subst hi'
  simp [xorN] at h3
  simp [h3]
theorem lmux_c (s a b : Nat) : PureC Tryz.prog gl0 101 [u8V s,u8V a,u8V b] (u8V (muxN s a b)):=by
 have ha:=rdN_c a
 have hb:=rdN_c b
 unfold muxN
 simp only [u8V] at ha hb ⊢
 refine PureC.of_W 2 ok101 rfl ?_
 simp [i101,x101]
 refine BrB.of (fun h1=>?_) (fun h1=>?_)
 ·have h1' : s = 0:=of_decide_eq_true h1
  subst h1'
  simp
  refine CallO.pure ha rfl ?_
  simp
 have h1' : ¬ s = 0:=of_decide_eq_false h1
 simp
 refine BrB.of (fun h2=>?_) (fun h2=>?_)
 ·have h2' : s = 1:=of_decide_eq_true h2
  subst h2'
  simp
  refine CallO.pure hb rfl ?_
  simp
 have h2' : ¬ s = 1:=of_decide_eq_false h2
 simp
 refine BrB.of (fun h3=>?_) (fun h3=>?_)
 ·have h3' : a = b:=of_decide_eq_true h3
  subst h3'
  simp
  refine CallO.pure ha rfl ?_
  simp [h1',h2']
 have h3' : ¬ a = b:=of_decide_eq_false h3
 simp [h1',h2',h3']
theorem ltri_c (e d : Nat) : PureC Tryz.prog gl0 102 [u8V e,u8V d] (u8V (triN e d)):=by
 have hb:=rdN_c d
 unfold triN
 simp only [u8V] at hb ⊢
 refine PureC.of_W 2 ok102 rfl ?_
 simp [i102,x102]
 refine BrB.of (fun h1=>?_) (fun h1=>?_)
 ·have h1' : e = 0:=of_decide_eq_true h1
  subst h1'
  simp
 have h1' : ¬ e = 0:=of_decide_eq_false h1
 simp
 refine BrB.of (fun h2=>?_) (fun h2=>?_)
 ·have h2' : e = 1:=of_decide_eq_true h2
  subst h2'
  simp
  refine CallO.pure hb rfl ?_
  simp
 have h2' : ¬ e = 1:=of_decide_eq_false h2
 simp [h1',h2']
theorem unk_c (v : Nat) : PureC Tryz.prog gl0 140 [u8V v] (.bool (decide (clean v = 2))):=by
 have hc:=clean_c v
 refine PureC.of_W 2 ok140 rfl ?_
 simp [i140,x140]
 refine CallO.pure hc rfl ?_
 simp [u8V]
theorem drv_c (v : Nat) : PureC Tryz.prog gl0 142 [u8V v] (.bool (v != 3)):=by
 have e : (v != 3) = !decide (v = 3):=rfl
 rw [e]
 refine PureC.of_W 2 ok142 rfl ?_
 simp [i142,x142,u8V]
def findN (p : Nat→Bool) : List Nat→Nat→Int
 | [],_=>-1
 | x :: r,i=>if p x = true then (i : Int) else findN p r (i + 1)
theorem findN_any (p : Nat→Bool) : ∀ (l : List Nat) (i : Nat),decide (0 ≤ findN p l i) = l.any p
 | [],i=>by simp [findN]
 | x :: l,i=>by
  cases h : p x with
  | true=>simp [findN,h]
  | false=>
   have:=findN_any p l (i + 1)
   simp only [findN,h,Bool.false_eq_true,if_false,List.any_cons,Bool.false_or]
   exact this
theorem findN_none {p : Nat→Bool} : ∀ {l : List Nat} {i : Nat},l.find? p = none→findN p l i = -1
 | [],_,_=>rfl
 | x :: l,i,h=>by
  rw [List.find?_cons] at h
  cases hx : p x with
  | true=>rw [hx] at h; simp at h
  | false=>
   rw [hx] at h
   simp only [findN,hx,Bool.false_eq_true,if_false]
   exact findN_none h
theorem findN_some {p : Nat→Bool} {v : Nat} : ∀ {l : List Nat} {i : Nat},l.find? p = some v→∃ j : Nat,findN p l i = ((i + j : Nat) : Int)∧l[j]? = some v
 | [],_,h=>by simp at h
 | x :: l,i,h=>by
  rw [List.find?_cons] at h
  cases hx : p x with
  | true=>
   rw [hx] at h
   simp only [Option.some.injEq] at h
   exact ⟨0,by simp [findN,hx],by simp [h]⟩
  | false=>
   rw [hx] at h
   obtain ⟨j,h1,h2⟩:=findN_some (i:=i + 1) h
   refine ⟨j + 1,?_,by simpa using h2⟩
   simp only [findN,hx,Bool.false_eq_true,if_false]
   rw [h1]
   congr 1
   omega
theorem indexFuncN_c (l : List Nat) (cap : Option Nat) (g : FuncId) (cp : List V) (p : Nat→Bool) (hf : ∀ x ∈ l,PureC Tryz.prog gl0 g (u8V x :: cp) (.bool (p x))) (hp : V.pureL cp = true) (hl : l.length < 1000000000000) : PureC Tryz.prog gl0 138 [.sl (l.map u8V) cap,.fn g [] cp] (.int .i64 (findN p l 0)):=by
 obtain ⟨q,hq⟩ : ∃ r,findN p l 0 = r:=⟨_,rfl⟩
 rw [hq]
 refine PureC.of_W 2 ok138 rfl ?_
 simp [i138,x138]
 refine LoopP.of (X:=Nat) (fun i=>[(8,natV i),(7,natV l.length),(0,.sl (l.map u8V) cap),(1,.fn g [] cp)]) (fun _=>[])
  (fun i=>i ≤ l.length∧findN p (l.drop i) i = q) (fun i=>l.length - i) 0 ⟨by simp,by simpa using hq⟩ (by simp [natV]) (by simp) ?_
 rintro i ⟨h2,h3⟩
 simp [natV]
 refine BrB.of (fun h1=>?_) (fun h1=>?_)
 ·have h1' : i < l.length:=of_decide_eq_true h1
  have hw:=wrapN i (by omega)
  rw [List.drop_eq_getElem_cons h1'] at h3
  simp only [findN] at h3
  obtain ⟨v,hv⟩ : ∃ v,l[i] = v:=⟨_,rfl⟩
  have hfv:=hf v (hv ▸ List.getElem_mem h1')
  rw [hv] at h3
  simp only [u8V] at hfv
  simp [h1',hv,u8V]
  refine CallO.pure hfv (by simp only [V.pureL,V.pure,hp,Bool.and_self]) ?_
  simp
  refine BrB.of (fun h4=>?_) (fun h4=>?_)
  ·rw [if_pos h4] at h3
   simp [h3]
  ·rw [if_neg (by simp [h4])] at h3
   simp [hw]
   exact ⟨i + 1,⟨h1',h3⟩,rfl,by omega⟩
 ·have h1' : i = l.length:=by have:=of_decide_eq_false h1; omega
  subst h1'
  simp [findN] at h3
  simp [h3]
theorem containsFuncN_c (l : List Nat) (cap : Option Nat) (g : FuncId) (cp : List V) (p : Nat→Bool) (hf : ∀ x ∈ l,PureC Tryz.prog gl0 g (u8V x :: cp) (.bool (p x))) (hp : V.pureL cp = true) (hl : l.length < 1000000000000) : PureC Tryz.prog gl0 94 [.sl (l.map u8V) cap,.fn g [] cp] (.bool (l.any p)):=by
 refine PureC.of_W 2 ok94 rfl ?_
 simp [i94,x94]
 refine CallO.pure (indexFuncN_c l cap g cp p hf hp hl) (by simp [hp,u8s_pure]) ?_
 simp [findN_any]
theorem indexN_c (x : Nat) (l : List Nat) (cap : Option Nat) (hl : l.length < 1000000000000) : PureC Tryz.prog gl0 167 [.sl (l.map u8V) cap,u8V x] (.int .i64 (findN (fun v=>x == v) l 0)):=by
 obtain ⟨q,hq⟩ : ∃ r,findN (fun v=>x == v) l 0 = r:=⟨_,rfl⟩
 rw [hq]
 refine PureC.of_W 2 ok167 rfl ?_
 simp [i167,x167]
 refine LoopP.of (X:=Nat) (fun i=>[(8,natV i),(7,natV l.length),(0,.sl (l.map u8V) cap),(1,u8V x)]) (fun _=>[])
  (fun i=>i ≤ l.length∧findN (fun v=>x == v) (l.drop i) i = q) (fun i=>l.length - i) 0 ⟨by simp,by simpa using hq⟩ (by simp [natV]) (by simp) ?_
 rintro i ⟨h2,h3⟩
 simp [natV]
 refine BrB.of (fun h1=>?_) (fun h1=>?_)
 ·have h1' : i < l.length:=of_decide_eq_true h1
  have hw:=wrapN i (by omega)
  rw [List.drop_eq_getElem_cons h1'] at h3
  simp only [findN] at h3
  obtain ⟨v,hv⟩ : ∃ v,l[i] = v:=⟨_,rfl⟩
  rw [hv] at h3
  simp [h1',hv,u8V]
  refine BrB.of (fun h4=>?_) (fun h4=>?_)
  ·rw [if_pos (by simpa using of_decide_eq_true h4)] at h3
   simp [h3]
  ·rw [if_neg (by simpa using of_decide_eq_false h4)] at h3
   simp [hw]
   exact ⟨i + 1,⟨h1',h3⟩,rfl,by omega⟩
 ·have h1' : i = l.length:=by have:=of_decide_eq_false h1; omega
  subst h1'
  simp [findN] at h3
  simp [h3]
theorem any_mem (x : Nat) (l : List Nat) : (l.any fun v=>x == v) = decide (x ∈ l):=by
 rw [Bool.eq_iff_iff]
 simp
theorem containsN_c (x : Nat) (l : List Nat) (cap : Option Nat) (hl : l.length < 1000000000000) : PureC Tryz.prog gl0 160 [.sl (l.map u8V) cap,u8V x] (.bool (decide (x ∈ l))):=by
 refine PureC.of_W 2 ok160 rfl ?_
 simp [i160,x160]
 refine CallO.pure (indexN_c x l cap hl) (by simp [u8V,u8s_pure]) ?_
 simp [findN_any,any_mem]
theorem conflict_c (l : List Nat) (cap : Option Nat) (hl : l.length < 1000000000000) : PureC Tryz.prog gl0 143 [.sl (l.map u8V) cap] (.bool (decide (0 ∈ l) && decide (1 ∈ l))):=by
 refine PureC.of_W 2 ok143 rfl ?_
 simp [i143,x143]
 refine CallO.pure (containsN_c 0 l cap hl) (by simp [u8s_pure]) ?_
 simp
 refine BrB.of (fun h=>?_) (fun h=>?_)
 ·simp [h]
  refine CallO.pure (containsN_c 1 l cap hl) (by simp [u8s_pure]) ?_
  simp
 ·simp [h]
set_option maxRecDepth 100000 in
theorem lbus_c (l : List Nat) (cap : Option Nat) (hl : l.length < 1000000000) : PureC Tryz.prog gl0 103 [.sl (l.map u8V) cap] (u8V (busN l)):=by
 have h1:=indexFuncN_c l cap 142 [] (fun v=>v != 3) (fun x _=>drv_c x) rfl (by omega)
 have h2:=containsFuncN_c l cap 140 [] (fun v=>decide (clean v = 2)) (fun x _=>unk_c x) rfl (by omega)
 obtain ⟨k,hk⟩ : ∃ k,findN (fun v=>v != 3) l 0 = k:=⟨_,rfl⟩
 have hany : (l.any fun v=>decide (clean v = 2)) = decide (∃ u ∈ l,clean u = 2):=by
  rw [Bool.eq_iff_iff]; simp
 rw [hany] at h2
 rw [hk] at h1
 unfold busN
 refine PureC.of_W 2 ok103 rfl ?_
 simp [i103,x103]
 refine CallO.pure h1 (by simp [u8s_pure]) ?_
 simp
 cases hf : l.find? (fun v=>v != 3) with
 | none=>
  have hk1 : k = -1:=by rw [← hk]; exact findN_none hf
  subst hk1
  simp [u8V]
 | some v=>
  obtain ⟨j,hj,hv⟩:=findN_some (i:=0) hf
  have hkj : k = (j : Int):=by rw [← hk,hj]; congr 1; omega
  subst hkj
  have hjl : j < l.length:=(List.getElem?_eq_some_iff.1 hv).1
  have hvv : l[j] = v:=(List.getElem?_eq_some_iff.1 hv).2
  simp
  refine CallO.pure (conflict_c l cap (by omega)) (by simp [u8s_pure]) ?_
  simp
  by_cases h01 : 0 ∈ l∧1 ∈ l
  ·simp [h01,u8V]
  ·have e : (decide (0 ∈ l) && decide (1 ∈ l)) = false:=by
    rw [Bool.eq_false_iff]
    simpa using h01
   simp [e]
   refine CallO.pure h2 (by simp [u8s_pure]) ?_
   by_cases hu : ∃ u ∈ l,clean u = 2
   ·simp [hu,u8V]
   ·simp [hu,h01,hjl,hvv,u8V]
theorem u8s_ok (l : List Nat) (cap : Option Nat) : V.pureL [.sl (l.map u8V) cap] = true:=by simp only [V.pureL,V.pure,u8s_pure,Bool.and_self]
set_option maxRecDepth 100000 in
set_option maxHeartbeats 4000000 in
theorem logE_c (k : Nat) (hk : k < 256) (l : List Nat) (cap : Option Nat) (hl : l.length < 1000000000) : PureC Tryz.prog gl0 54 [u8V k,.sl (l.map u8V) cap] (u8V (logE k l)):=by
  have hf:=fanin_c (k : Int) (by omega) (by omega)
  have hland:=land_c l cap hl
  have hlor:=lor_c l cap hl
  have hlxor:=lxor_c l cap hl
  have hbus:=lbus_c l cap hl
  obtain ⟨A,hA⟩ : ∃ p,dec 0 1 1 l = p:=⟨_,rfl⟩
  obtain ⟨B,hB⟩ : ∃ p,dec 1 0 0 l = p:=⟨_,rfl⟩
  obtain ⟨X,hX⟩ : ∃ p,xorN 0 l = p:=⟨_,rfl⟩
  obtain ⟨U,hU⟩ : ∃ p,busN l = p:=⟨_,rfl⟩
  have hnA:=lnot_c A
  have hnB:=lnot_c B
  have hnX:=lnot_c X
  obtain ⟨NA,hNA⟩ : ∃ p,notN A = p:=⟨_,rfl⟩
  obtain ⟨NB,hNB⟩ : ∃ p,notN B = p:=⟨_,rfl⟩
  obtain ⟨NX,hNX⟩ : ∃ p,notN X = p:=⟨_,rfl⟩
  rw [hA] at hland
  rw [hB] at hlor
  rw [hX] at hlxor
  rw [hU] at hbus
  rw [hNA] at hnA
  rw [hNB] at hnB
  rw [hNX] at hnX
  have hg : ∀ j (h : j < l.length),l.getD j 0 = l[j]:=fun j h=>by simp [h]
  refine PureC.of_W 2 ok54 rfl ?_
  obtain ⟨lo,hlo⟩ : ∃ p,kLo k = p:=⟨_,rfl⟩
  obtain ⟨hi,hhi⟩ : ∃ p,kHi k = p:=⟨_,rfl⟩
  rw [hlo,hhi] at hf
  unfold logE
  rw [hlo,hhi]
  simp only [u8V] at hland hlor hlxor hbus hnA hnB hnX
  simp [i54,x54,u8V]
  refine CallO.pure hf rfl ?_
  simp
  refine BrB.of (fun h1=>?_) (fun h1=>?_)
  · have h1':=of_decide_eq_true h1
    rw [if_pos (.inl h1')]
    simp [h1]
  have h1':=of_decide_eq_false h1
  simp [h1]
  refine BrB.of (fun h2=>?_) (fun h2=>?_)
  · have h2':=of_decide_eq_true h2
    rw [if_pos (.inr h2')]
    simp
  have h2':=of_decide_eq_false h2
  rw [if_neg (by omega)]
  have hk15 : k ≤ 15:=by
    by_cases hc : k ≤ 15
    · exact hc
    · exfalso
      have : hi = -1:=by rw [← hhi,kHi,if_pos (by omega)]
      omega
  have hc : k = 0∨k = 1∨k = 2∨k = 3∨k = 4∨k = 5∨k = 6∨k = 7∨k = 8∨k = 9∨k = 10∨k = 11∨k = 12∨k = 13∨k = 14∨k = 15:=by omega
  rcases hc with rfl | rfl | rfl | rfl | rfl | rfl | rfl | rfl | rfl | rfl | rfl | rfl | rfl | rfl | rfl | rfl
  · simp [gateN]
  · simp [gateN]
  · simp [gateN]
  · have h0 : 0 < l.length := by have : lo = 1 := by rw [← hlo]; rfl
                                 omega
    have hr:=rdN_c l[0]
    simp only [u8V] at hr
    have e : gateN 3 l = rdN l[0]:=by rw [← hg 0 h0]; rfl
    rw [e]
    simp [h0,u8V]
    refine CallO.pure hr rfl ?_
    simp
  · have h0 : 0 < l.length := by have : lo = 1 := by rw [← hlo]; rfl
                                 omega
    have hr:=lnot_c l[0]
    simp only [u8V] at hr
    have e : gateN 4 l = notN l[0]:=by rw [← hg 0 h0]; rfl
    rw [e]
    simp [h0,u8V]
    refine CallO.pure hr rfl ?_
    simp
  · rw [show gateN 5 l = A from hA]
    simp
    refine CallO.pure hland (u8s_ok _ _) ?_
    simp
  · rw [show gateN 6 l = NA by rw [← hNA,← hA]; rfl]
    simp
    refine CallO.pure hland (u8s_ok _ _) ?_
    simp
    refine CallO.pure hnA rfl ?_
    simp
  · rw [show gateN 7 l = B from hB]
    simp
    refine CallO.pure hlor (u8s_ok _ _) ?_
    simp
  · rw [show gateN 8 l = NB by rw [← hNB,← hB]; rfl]
    simp
    refine CallO.pure hlor (u8s_ok _ _) ?_
    simp
    refine CallO.pure hnB rfl ?_
    simp
  · rw [show gateN 9 l = X from hX]
    simp
    refine CallO.pure hlxor (u8s_ok _ _) ?_
    simp
  · rw [show gateN 10 l = NX by rw [← hNX,← hX]; rfl]
    simp
    refine CallO.pure hlxor (u8s_ok _ _) ?_
    simp
    refine CallO.pure hnX rfl ?_
    simp
  · have h0 : l.length = 3:=by
      have e1 : lo = 3:=by rw [← hlo]; rfl
      have e2 : hi = 3:=by rw [← hhi]; rfl
      omega
    have hr:=lmux_c (l[0]'(by omega)) (l[1]'(by omega)) (l[2]'(by omega))
    have e : gateN 11 l = muxN (l[0]'(by omega)) (l[1]'(by omega)) (l[2]'(by omega)):=by rw [← hg 0 (by omega),← hg 1 (by omega),← hg 2 (by omega)]; rfl
    rw [e]
    generalize muxN (l[0]'(by omega)) (l[1]'(by omega)) (l[2]'(by omega)) = M at hr ⊢
    simp only [u8V] at hr
    simp [show 0 < l.length by omega,show 1 < l.length by omega,show 2 < l.length by omega,u8V]
    intro gm
    first | refine ⟨_,_,_,.pure hr rfl,?_⟩ | refine ⟨_,⟨_,_,.pure hr rfl⟩,?_⟩ | refine ⟨_,_,⟨_,.pure hr rfl⟩,?_⟩
    simp
  · have h0 : l.length = 2:=by
      have e1 : lo = 2:=by rw [← hlo]; rfl
      have e2 : hi = 2:=by rw [← hhi]; rfl
      omega
    have hr:=ltri_c (l[0]'(by omega)) (l[1]'(by omega))
    have e : gateN 12 l = triN (l[0]'(by omega)) (l[1]'(by omega)):=by rw [← hg 0 (by omega),← hg 1 (by omega)]; rfl
    rw [e]
    generalize triN (l[0]'(by omega)) (l[1]'(by omega)) = M at hr ⊢
    simp only [u8V] at hr
    simp [show 0 < l.length by omega,show 1 < l.length by omega,u8V]
    intro gm
    first | refine ⟨_,_,_,.pure hr rfl,?_⟩ | refine ⟨_,⟨_,_,.pure hr rfl⟩,?_⟩ | refine ⟨_,_,⟨_,.pure hr rfl⟩,?_⟩
    simp
  · rw [show gateN 13 l = U from hU]
    simp
    refine CallO.pure hbus (u8s_ok _ _) ?_
    simp
  · simp [gateN]
  · simp [gateN]
end Go.Proofs.YtlmniacemoohpaaGreatDoor
namespace Go.Proofs.YtlmniacemoohpaaGreatDoor
open Go
attribute [simp] u8s_pure
@[simp] theorem pt_cells (p : Pt) : p.v.cells = [.sl (p.i.map u8V) none,.sl (p.s.map u8V) none]:=rfl
@[simp] theorem pt_cellsOk (p : Pt) : p.v.cellsOk = true:=rfl
@[simp] theorem pt_pure (p : Pt) : V.pure p.v = true:=by simp [Pt.v]
theorem modS {a b p : Nat} (h : a % b = p) : ((a : Int)).tmod (b : Int) = (p : Int):=by rw [← h]; rfl
theorem cnt_app (k : Int) : ∀ a b : List Nd,cnt k (a ++ b) = cnt k a + cnt k b
 | [],b=>by simp [cnt,ids]
 | n :: a,b=>by rw [List.cons_append,cnt_cons,cnt_cons,cnt_app k a b]; omega
theorem cnt_take {k : Int} {l : List Nd} {i : Nat} {y : Nd} (h : i < l.length) (hy : l[i] = y) : cnt k (l.take (i + 1)) = cnt k (l.take i) + if y.k = k then 1 else 0:=by
 rw [List.take_succ_eq_append_getElem h,cnt_app,hy,cnt_cons]
 simp [cnt,ids]
theorem count_c (c : Ci) (k : Nat) (hl : c.n.length < 1000000) : PureC Tryz.prog gl0 83 [c.v,u8V k] (natV (cnt (k : Int) c.n)):=by
 refine PureC.of_W 2 ok83 rfl ?_
 simp [i83,x83,Ci.v,u8V]
 intro gf
 generalize gf 2 = g2
 refine LoopP.of (X:=Nat) (fun i=>[(6,natV i),(5,natV (cnt (k : Int) (c.n.take i))),(2,.ptr 2 g2 0 0),(1,.int .u8 (k : Int))]) (fun _=>[(2,.row g2 4 [.agg [.sl (c.n.map Nd.v) none,.sl (c.s.map .str) none,.sl (c.m.map Md.v) none,.sl (ints c.o) none]])])
  (fun i=>i ≤ c.n.length) (fun i=>c.n.length - i) 0 (Nat.zero_le _) (by simp [natV,cnt,ids]) (by simp) ?_
 intro i hi
 simp [natV]
 refine BrB.of (fun hb=>?_) (fun hb=>?_)
 ·have hi' : i < c.n.length:=of_decide_eq_true hb
  have hw:=wrapN i (by omega)
  obtain ⟨y,hy⟩ : ∃ y,c.n[i] = y:=⟨_,rfl⟩
  have ht:=cnt_take (k:=(k : Int)) hi' hy
  have hle:=cnt_le (k : Int) (c.n.take i)
  have hle2 : (c.n.take i).length ≤ i:=by simp; omega
  obtain ⟨q,hq⟩ : ∃ q,cnt (k : Int) (c.n.take i) = q:=⟨_,rfl⟩
  rw [hq] at ht hle
  have hw2:=wrapN q (by omega)
  simp [hi',hy,Nd.v,hq]
  refine BrB.of (fun h1=>?_) (fun h1=>?_)
  ·have h1':=of_decide_eq_true h1
   rw [if_pos h1'] at ht
   simp [hw,hw2]
   exact ⟨i + 1,hi',by rw [ht]; simp,by omega⟩
  ·have h1':=of_decide_eq_false h1
   rw [if_neg h1'] at ht
   simp [hw]
   exact ⟨i + 1,hi',by rw [ht]; simp,by omega⟩
 ·have hi' : i = c.n.length:=by have:=of_decide_eq_false hb; omega
  subst hi'
  simp
def tkN (l : List Nat) (n most : Nat) : List Nat:=tab n fun i=>if l.length = 0 then 2 else l.getD (i % l.length) 0 % most
@[simp] theorem tkN_length (l : List Nat) (n most : Nat) : (tkN l n most).length = n:=by simp [tkN]
theorem tkN_le (l : List Nat) (n most : Nat) (hm : 0 < most) (hm2 : most ≤ 4) : ∀ x ∈ tkN l n most,x ≤ 3:=by
 intro x hx
 simp only [tkN,tab,List.mem_map] at hx
 obtain ⟨i,-,rfl⟩:=hx
 split
 ·omega
 ·have:=Nat.mod_lt (l.getD (i % l.length) 0) hm
  omega
theorem tab_snoc {α : Type} (n : Nat) (f : Nat→α) : tab (n + 1) f = tab n f ++ [f n]:=by simp [tab,List.range_succ]
theorem listV_le (l : List V) : VLe (listV l) (.sl l none):=by
 cases l with
 | nil=>exact VLe.nil'
 | cons a r=>exact .refl _
theorem taken_c (l : List Nat) (cap : Option Nat) (n most : Nat) (hn : n < 1000000) (hm : 0 < most) (hm2 : most < 256) : PureC Tryz.prog gl0 82 [.sl (l.map u8V) cap,natV n,u8V most] (.sl ((tkN l n most).map u8V) none):=by
 refine PureC.wide (res:=listV ((tkN l n most).map u8V)) ?_ (AllLe.refl _) (listV_le _)
 refine PureC.of_W 2 ok82 rfl ?_
 simp [i82,x82,natV,u8V]
 refine LoopP.ofM (X:=Nat × Option (Nat × List V)) (fun z=>[(8,natV z.1),(7,accV 1000 z.2),(0,.sl (l.map u8V) cap),(1,natV n),(2,u8V most)]) (fun z=>accH 1000 1 z.2)
  (fun z=>z.1 ≤ n∧(z.2 = none↔z.1 = 0)∧accL z.2 = (tkN l z.1 most).map u8V) (fun z=>n - z.1) (.done ⟨(0,none),⟨by simp,by simp,by simp [accL,tkN,tab]⟩,by simp [natV,accV,u8V],by simp [accH]⟩) ?_
 rintro ⟨j,acc⟩ ⟨q1,q2,q3⟩
 dsimp only at q1 q2 q3 ⊢
 have hlp:=u8s_pure l
 simp [natV,u8V]
 refine BrB.of (fun hb=>?_) (fun hb=>?_)
 ·have hj : j < n:=of_decide_eq_true hb
  have hw:=wrapN j (by omega)
  obtain ⟨v,hv⟩ : ∃ v,(if l.length = 0 then 2 else l.getD (j % l.length) 0 % most) = v:=⟨_,rfl⟩
  have hnx : (tkN l (j + 1) most).map u8V = (tkN l j most).map u8V ++ [.int .u8 (v : Int)]:=by
   rw [tkN,tab_snoc,hv]; simp [tkN,u8V]
  have hjl : ((tkN l j most).map u8V).length = j:=by simp
  rw [← q3] at hnx hjl
  simp
  refine BrB.of (fun h0=>?_) (fun h0=>?_)
  ·have h0' : l.length = 0:=by simpa using h0
   rw [if_pos h0'] at hv
   subst hv
   cases acc with
   | none=>
    have hj0 : j = 0:=q2.1 rfl
    simp [accV,accH,hw]
    intro ga gb
    refine .move 19 1000 _ (by simp) (by simp; rfl) fun g'=>.done ⟨j + 1,some (g',[.int .u8 2]),⟨hj,by simp,by rw [hnx]; rfl⟩,?_⟩
    simp [rnL_pure _ hlp]
    omega
   | some gl=>
    obtain ⟨g,r⟩:=gl
    simp only [accL] at hnx hjl
    simp [accV,accH,hw]
    intro ga gb
    refine ⟨by omega,.done ⟨j + 1,some (gb 1000,r ++ [.int .u8 2]),⟨hj,by simp,by rw [hnx]; rfl⟩,?_⟩⟩
    simp
    omega
  ·have h0' : ¬ l.length = 0:=by simpa using h0
   rw [if_neg h0'] at hv
   have hlt:=Nat.mod_lt j (show 0 < l.length by omega)
   obtain ⟨p,hp⟩ : ∃ p,j % l.length = p:=⟨_,rfl⟩
   rw [hp] at hlt hv
   have hm1 : ((j : Int)).tmod (l.length : Int) = (p : Int):=modS hp
   obtain ⟨x,hx⟩ : ∃ x,l[p] = x:=⟨_,rfl⟩
   have hxv : x % most = v:=by rw [← hv,List.getD_eq_getElem?_getD,List.getElem?_eq_getElem hlt,hx]; rfl
   have hm3 : ((x : Int)).tmod (most : Int) = (v : Int):=modS hxv
   have hl0 : l ≠ []:=fun e=>h0' (by rw [e]; rfl)
   have hm0 : most ≠ 0:=by omega
   cases acc with
   | none=>
    have hj0 : j = 0:=q2.1 rfl
    simp [hl0,hm1,hlt,hx,hm3,hm0,u8V,accV,accH,hw]
    intro ga gb
    refine .move 31 1000 _ (by simp) (by simp; rfl) fun g'=>.done ⟨j + 1,some (g',[.int .u8 (v : Int)]),⟨hj,by simp,by rw [hnx]; rfl⟩,?_⟩
    simp [rnL_pure _ hlp]
    omega
   | some gl=>
    obtain ⟨g,r⟩:=gl
    simp only [accL] at hnx hjl
    simp [hl0,hm1,hlt,hx,hm3,hm0,u8V,accV,accH,hw]
    intro ga gb
    refine ⟨by omega,.done ⟨j + 1,some (gb 1000,r ++ [.int .u8 (v : Int)]),⟨hj,by simp,by rw [hnx]; rfl⟩,?_⟩⟩
    simp
    omega
 ·have hj : j = n:=by have:=of_decide_eq_false hb; omega
  subst hj
  cases acc with
  | none=>
   have hj0 : j = 0:=q2.1 rfl
   subst hj0
   simp [accV,accH,tkN,tab,listV]
  | some gl=>
   obtain ⟨g,r⟩:=gl
   simp only [accL] at q3
   have hrp : V.pureL r = true:=by rw [q3]; exact u8s_pure _
   have hr0 : r ≠ []:=fun e=>by
    have h1:=q2.2
    subst e
    have : j = 0:=by have:=congrArg List.length q3; simpa using this.symm
    exact absurd (h1 this) (by simp)
   have hlv : listV r = .sl r none:=by cases r with
    | nil=>exact absurd rfl hr0
    | cons a b=>rfl
   rw [← q3,hlv]
   simp [accV,accH,map_frz_pure hrp]
theorem pof_c (p : Pt) (c : Ci) (hl : c.n.length < 1000000) : PureC Tryz.prog gl0 43 [p.v,c.v] (Pt.v ⟨tkN p.i (cnt 0 c.n) 4,tkN p.s (cnt 14 c.n) 3⟩):=by
 have c0 : PureC Tryz.prog gl0 83 [c.v,u8V 0] (natV (cnt 0 c.n)):=count_c c 0 hl
 have c1 : PureC Tryz.prog gl0 83 [c.v,u8V 14] (natV (cnt 14 c.n)):=count_c c 14 hl
 have l0:=cnt_le 0 c.n
 have l1:=cnt_le 14 c.n
 generalize cnt 0 c.n = A at c0 l0 ⊢
 generalize cnt 14 c.n = B at c1 l1 ⊢
 have t0:=taken_c p.i none A 4 (by omega) (by omega) (by omega)
 have t1:=taken_c p.s none B 3 (by omega) (by omega) (by omega)
 simp only [u8V,natV] at c0 c1 t0 t1
 generalize (tkN p.i A 4) = X at t0 ⊢
 generalize (tkN p.s B 3) = Y at t1 ⊢
 refine PureC.of_W 2 ok43 rfl ?_
 simp [i43,x43,Pt.v]
 intro gf1 gf2 gf3 gm
 refine ⟨_,_,_,.pure c0 (by simp),?_⟩
 simp
 refine ⟨_,_,_,.pure t0 (by simp [u8s_pure]),?_⟩
 simp
 refine ⟨_,_,_,.pure c1 (by simp),?_⟩
 simp
 refine ⟨_,_,_,.pure t1 (by simp [u8s_pure]),?_⟩
 simp [mapRL_pure]
 try rfl
end Go.Proofs.YtlmniacemoohpaaGreatDoor
namespace Go.Proofs.YtlmniacemoohpaaGreatDoor
open Go
theorem above_c (v : Nat) (h : v ≤ 3) : PureC Tryz.prog gl0 95 [u8V v] (.bool false):=by
 refine PureC.of_W 2 ok95 rfl ?_
 simp [i95,x95,u8V]
 omega
theorem idxNone_c (f : FuncId) (l : List Nat) (cap : Option Nat) (hl : l.length < 1000000000) (hf : ∀ v ∈ l,PureC Tryz.prog gl0 f [u8V v] (.bool false)) : PureC Tryz.prog gl0 138 [.sl (l.map u8V) cap,.fn f [] []] (.int .i64 (-1)):=by
 refine PureC.of_W 2 ok138 rfl ?_
 simp [i138,x138]
 refine LoopP.of (X:=Nat) (fun i=>[(8,natV i),(7,natV l.length),(0,.sl (l.map u8V) cap),(1,.fn f [] [])]) (fun _=>[])
  (fun i=>i ≤ l.length) (fun i=>l.length - i) 0 (Nat.zero_le _) (by simp [natV]) (by simp) ?_
 intro i hi
 simp [natV]
 refine BrB.of (fun hb=>?_) (fun hb=>?_)
 ·have hi' : i < l.length:=of_decide_eq_true hb
  have hw:=wrapN i (by omega)
  obtain ⟨y,hy⟩ : ∃ y,l[i] = y:=⟨_,rfl⟩
  have hfy:=hf y (by rw [← hy]; exact List.getElem_mem hi')
  simp only [u8V] at hfy
  simp [hi',hy,u8V]
  refine CallO.pure hfy rfl ?_
  simp [hw]
  exact ⟨i + 1,hi',rfl,by omega⟩
 ·simp
theorem contNone_c (f : FuncId) (l : List Nat) (cap : Option Nat) (hl : l.length < 1000000000) (hf : ∀ v ∈ l,PureC Tryz.prog gl0 f [u8V v] (.bool false)) : PureC Tryz.prog gl0 94 [.sl (l.map u8V) cap,.fn f [] []] (.bool false):=by
 refine PureC.of_W 2 ok94 rfl ?_
 simp [i94,x94]
 refine CallO.pure (idxNone_c f l cap hl hf) (by simp [V.pureL,V.pure,u8s_pure]) ?_
 simp
theorem inputsN_c (c : Ci) (hl : c.n.length < 1000000) : PureC Tryz.prog gl0 92 [c.v] (.sl (natsV (ids 0 c.n 0)) (some (cnt 0 c.n))):=by
 have:=PureC.of_one (OwnC.one (inputs_c c hl) fun _ _ h=>fresh_one h) (ofLs_noG _ c.n 0).2
 rw [ofLs_ids] at this
 simpa [cnt] using this
theorem statesN_c (c : Ci) (hl : c.n.length < 1000000) : PureC Tryz.prog gl0 93 [c.v] (.sl (natsV (ids 14 c.n 0)) (some (cnt 14 c.n))):=by
 have:=PureC.of_one (OwnC.one (states_c c hl) fun _ _ h=>fresh_one h) (ofLs_noG _ c.n 0).2
 rw [ofLs_ids] at this
 simpa [cnt] using this
theorem ofMem_c (c : Ci) (hg : c.good) : OwnC Tryz.prog gl0 91 [c.v,.sl [.int .u8 15] (some 1)] (DatK 1 (.sl [] (some 0))):=by
 have h1:=OwnC.dat1 (of1_c c [15] (some 1) (by have:=hg.n1; omega) (by simp)) (ofLs_noG [15] c.n 0).2 (ofLs_noG [15] c.n 0).1
 have h2 : ids 15 c.n 0 = []:=by
  rw [List.eq_nil_iff_forall_not_mem]
  intro x hx
  obtain ⟨hx',hk⟩:=ids_lt hx
  exact hg.k _ (List.getElem_mem hx') hk
 rw [ofLs_ids,h2] at h1
 simpa [natsV] using h1
theorem fits_c (c : Ci) (hg : c.good) (p : Pt) (hp : p.fit c) : PureC Tryz.prog gl0 51 [c.v,p.v] (.int .i64 0):=by
 have hn1:=hg.n1
 have hm:=hg.m
 have l0:=cnt_le 0 c.n
 have l1:=cnt_le 14 c.n
 have hpi:=hp.i
 have hps:=hp.s
 have ci:=inputsN_c c (by omega)
 have cs:=statesN_c c (by omega)
 have cm:=ofMem_c c hg
 have k1:=contNone_c 95 p.i none (by omega) fun v hv=>above_c v (hp.iv v hv)
 have k2:=contNone_c 95 p.s none (by omega) fun v hv=>above_c v (hp.sv v hv)
 obtain ⟨I,hI⟩ : ∃ I,ids 0 c.n 0 = I:=⟨_,rfl⟩
 obtain ⟨S,hS⟩ : ∃ S,ids 14 c.n 0 = S:=⟨_,rfl⟩
 have hIl : I.length = cnt 0 c.n:=by rw [← hI]; rfl
 have hSl : S.length = cnt 14 c.n:=by rw [← hS]; rfl
 rw [hI] at ci
 rw [hS] at cs
 refine PureC.of_W 2 ok51 rfl ?_
 simp [i51,x51,hm]
 intro gf1 gf2
 intro gf3
 refine CallO.dat 1 cm (by simp) ?_
 simp
 intro gm
 refine ⟨_,_,_,.pure ci (by simp),?_⟩
 simp [hpi,hIl]
 refine ⟨_,_,_,.pure cs (by simp),?_⟩
 simp [hps,hSl]
 refine ⟨rfl,?_⟩
 refine CallO.pure k1 (by simp) ?_
 simp
 refine CallO.pure k2 (by simp) ?_
 simp
end Go.Proofs.YtlmniacemoohpaaGreatDoor
