/- The contracts of the logic of lists of values. Conditions: none. -/
import Derived.Test.YtcmblmkbdenakaaGreatDoorLG
set_option linter.unusedSimpArgs false
set_option linter.unusedVariables false
namespace Go.Proofs.YtcmblmkbdenakaaGreatDoor
open Go
theorem clean_c (v : Nat) : PureC Tryz.prog gl0 84 [u8V v] (u8V (clean v)):=by
 refine PureC.of_W 2 ok84 rfl ?_
 simp [i84,x84,u8V,clean]
 refine BrB.of (fun h=>?_) (fun h=>?_)
 ·have:=of_decide_eq_true h
  simp [show 3 < v by omega]
 ·have:=of_decide_eq_false h
  simp [show ¬ 3 < v by omega]
theorem rdN_c (v : Nat) : PureC Tryz.prog gl0 61 [u8V v] (u8V (rdN v)):=by
 refine PureC.of_W 2 ok61 rfl ?_
 simp [i61,x61,u8V,rdN]
 omega
theorem known_c (v : Nat) : PureC Tryz.prog gl0 81 [u8V v] (.bool (decide (v ≤ 1))):=by
 refine PureC.of_W 2 ok81 rfl ?_
 simp [i81,x81,u8V]
theorem lnot_c (v : Nat) : PureC Tryz.prog gl0 62 [u8V v] (u8V (notN v)):=by
 refine PureC.of_W 2 ok62 rfl ?_
 simp [i62,x62]
 refine CallO.pure (known_c v) rfl ?_
 simp [u8V]
 refine BrB.of (fun h=>?_) (fun h=>?_)
 ·have hv : v = 0∨v = 1:=by have:=of_decide_eq_true h; omega
  rcases hv with rfl | rfl <;> simp [notN,IntKind.wrap,IntKind.bits,IntKind.signed]
 ·have hv:=of_decide_eq_false h
  simp [notN,hv]
theorem dec_c (lo hi : Nat) (l : List Nat) (cap : Option Nat) (hl : l.length < 1000000000) : PureC Tryz.prog gl0 82 [.sl (l.map u8V) cap,u8V lo,u8V hi] (u8V (dec lo hi hi l)):=by
 obtain ⟨q,hq⟩ : ∃ r,dec lo hi hi l = r:=⟨_,rfl⟩
 rw [hq]
 refine PureC.of_W 2 ok82 rfl ?_
 simp [i82,x82,u8V]
 refine LoopP.of (X:=Nat × Nat) (fun z=>[(13,natV z.1),(12,natV l.length),(11,.sl (l.map u8V) cap),(7,u8V z.2),(2,u8V hi),(1,u8V lo)]) (fun _=>[])
  (fun z=>z.1 ≤ l.length∧dec lo hi z.2 (l.drop z.1) = q) (fun z=>l.length - z.1) (0,hi) ⟨by simp,by simpa using hq⟩ (by simp [natV,u8V]) (by simp) ?_
 rintro ⟨i,out⟩ ⟨h2,h3⟩
 dsimp only at h2 h3 ⊢
 simp [natV,u8V]
 refine BrB.of (fun h1=>?_) (fun h1=>?_)
 ·have hi' : i < l.length:=of_decide_eq_true h1
  have hw:=wrapN i (by omega)
  rw [List.drop_eq_getElem_cons hi',dec] at h3
  obtain ⟨v,hv⟩ : ∃ v,l[i] = v:=⟨_,rfl⟩
  rw [hv] at h3
  simp [hi',hv,u8V]
  refine BrB.of (fun h4=>?_) (fun h4=>?_)
  ·rw [if_pos (of_decide_eq_true h4)] at h3
   simp [h3]
  ·rw [if_neg (of_decide_eq_false h4)] at h3
   simp
   refine BrB.of (fun h5=>?_) (fun h5=>?_)
   ·have h5':=of_decide_eq_true h5
    rw [if_pos h5'] at h3
    simp [hw]
    exact ⟨i + 1,out,⟨hi',h3⟩,⟨rfl,rfl⟩,by omega⟩
   ·have h5':=of_decide_eq_false h5
    rw [if_neg h5'] at h3
    simp [hw]
    exact ⟨i + 1,2,⟨hi',h3⟩,⟨rfl,rfl⟩,by omega⟩
 ·have hi' : i = l.length:=by have:=of_decide_eq_false h1; omega
  subst hi'
  simp [dec] at h3
  simp [h3]
theorem u8s_pure (l : List Nat) : V.pureL (l.map u8V) = true:=V.pureL_map _ l fun _=>rfl
theorem land_c (l : List Nat) (cap : Option Nat) (hl : l.length < 1000000000) : PureC Tryz.prog gl0 63 [.sl (l.map u8V) cap] (u8V (dec 0 1 1 l)):=by
 refine PureC.of_W 2 ok63 rfl ?_
 simp [i63,x63]
 refine CallO.pure (dec_c 0 1 l cap hl) (by simp only [V.pureL,V.pure,u8s_pure,Bool.and_self]) ?_
 simp [u8V]
theorem lor_c (l : List Nat) (cap : Option Nat) (hl : l.length < 1000000000) : PureC Tryz.prog gl0 64 [.sl (l.map u8V) cap] (u8V (dec 1 0 0 l)):=by
 refine PureC.of_W 2 ok64 rfl ?_
 simp [i64,x64]
 refine CallO.pure (dec_c 1 0 l cap hl) (by simp only [V.pureL,V.pure,u8s_pure,Bool.and_self]) ?_
 simp [u8V]
theorem lxor_c (l : List Nat) (cap : Option Nat) (hl : l.length < 1000000000) : PureC Tryz.prog gl0 65 [.sl (l.map u8V) cap] (u8V (xorN 0 l)):=by
 obtain ⟨q,hq⟩ : ∃ r,xorN 0 l = r:=⟨_,rfl⟩
 rw [hq]
 refine PureC.of_W 2 ok65 rfl ?_
 simp [i65,x65]
 refine LoopP.of (X:=Nat × Nat) (fun z=>[(8,natV z.1),(7,natV l.length),(6,.sl (l.map u8V) cap),(3,u8V z.2)]) (fun _=>[])
  (fun z=>z.1 ≤ l.length∧z.2 ≤ 1∧xorN z.2 (l.drop z.1) = q) (fun z=>l.length - z.1) (0,0) ⟨by simp,by simp,by simpa using hq⟩ (by simp [natV,u8V]) (by simp) ?_
 rintro ⟨i,out⟩ ⟨h2,h4,h3⟩
 dsimp only at h2 h3 h4 ⊢
 simp [natV,u8V]
 refine BrB.of (fun h1=>?_) (fun h1=>?_)
 ·have hi' : i < l.length:=of_decide_eq_true h1
  have hw:=wrapN i (by omega)
  rw [List.drop_eq_getElem_cons hi',xorN] at h3
  obtain ⟨v,hv⟩ : ∃ v,l[i] = v:=⟨_,rfl⟩
  rw [hv] at h3
  have hk:=known_c v
  simp only [u8V] at hk
  simp [hi',hv,u8V]
  refine CallO.pure hk rfl ?_
  simp
  refine BrB.of (fun h5=>?_) (fun h5=>?_)
  ·have hv1 : v = 0∨v = 1:=by have:=of_decide_eq_true h5; omega
   have ho : out = 0∨out = 1:=by omega
   rcases hv1 with rfl | rfl
   ·simp only [if_true] at h3
    rcases ho with rfl | rfl
    ·simp [hw]
     exact ⟨i + 1,0,⟨hi',by omega,h3⟩,⟨rfl,rfl⟩,by omega⟩
    ·simp [hw]
     exact ⟨i + 1,1,⟨hi',by omega,h3⟩,⟨rfl,rfl⟩,by omega⟩
   ·simp only [if_true,Nat.one_ne_zero,if_false] at h3
    rcases ho with rfl | rfl
    ·simp [hw]
     exact ⟨i + 1,1,⟨hi',by omega,h3⟩,⟨rfl,rfl⟩,by omega⟩
    ·simp [hw]
     exact ⟨i + 1,0,⟨hi',by omega,h3⟩,⟨rfl,rfl⟩,by omega⟩
  ·have h5':=of_decide_eq_false h5
   rw [if_neg (by omega),if_neg (by omega)] at h3
   subst h3
   simp
 ·have hi' : i = l.length:=by have:=of_decide_eq_false h1; omega
  subst hi'
  simp [xorN] at h3
  simp [h3]
theorem lmux_c (s a b : Nat) : PureC Tryz.prog gl0 66 [u8V s,u8V a,u8V b] (u8V (muxN s a b)):=by
 have ha:=rdN_c a
 have hb:=rdN_c b
 unfold muxN
 simp only [u8V] at ha hb ⊢
 refine PureC.of_W 2 ok66 rfl ?_
 simp [i66,x66]
 refine BrB.of (fun h1=>?_) (fun h1=>?_)
 ·have h1' : s = 0:=of_decide_eq_true h1
  subst h1'
  simp
  refine CallO.pure ha rfl ?_
  simp
 have h1' : ¬ s = 0:=of_decide_eq_false h1
 simp
 refine BrB.of (fun h2=>?_) (fun h2=>?_)
 ·have h2' : s = 1:=of_decide_eq_true h2
  subst h2'
  simp
  refine CallO.pure hb rfl ?_
  simp
 have h2' : ¬ s = 1:=of_decide_eq_false h2
 simp
 refine BrB.of (fun h3=>?_) (fun h3=>?_)
 ·have h3' : a = b:=of_decide_eq_true h3
  subst h3'
  simp
  refine CallO.pure ha rfl ?_
  simp [h1',h2']
 have h3' : ¬ a = b:=of_decide_eq_false h3
 simp [h1',h2',h3']
theorem ltri_c (e d : Nat) : PureC Tryz.prog gl0 67 [u8V e,u8V d] (u8V (triN e d)):=by
 have hb:=rdN_c d
 unfold triN
 simp only [u8V] at hb ⊢
 refine PureC.of_W 2 ok67 rfl ?_
 simp [i67,x67]
 refine BrB.of (fun h1=>?_) (fun h1=>?_)
 ·have h1' : e = 0:=of_decide_eq_true h1
  subst h1'
  simp
 have h1' : ¬ e = 0:=of_decide_eq_false h1
 simp
 refine BrB.of (fun h2=>?_) (fun h2=>?_)
 ·have h2' : e = 1:=of_decide_eq_true h2
  subst h2'
  simp
  refine CallO.pure hb rfl ?_
  simp
 have h2' : ¬ e = 1:=of_decide_eq_false h2
 simp [h1',h2']
theorem unk_c (v : Nat) : PureC Tryz.prog gl0 83 [u8V v] (.bool (decide (clean v = 2))):=by
 have hc:=clean_c v
 refine PureC.of_W 2 ok83 rfl ?_
 simp [i83,x83]
 refine CallO.pure hc rfl ?_
 simp [u8V]
theorem drv_c (v : Nat) : PureC Tryz.prog gl0 85 [u8V v] (.bool (v != 3)):=by
 have e : (v != 3) = !decide (v = 3):=rfl
 rw [e]
 refine PureC.of_W 2 ok85 rfl ?_
 simp [i85,x85,u8V]
def findN (p : Nat→Bool) : List Nat→Nat→Int
 | [],_=>-1
 | x :: r,i=>if p x = true then (i : Int) else findN p r (i + 1)
theorem findN_any (p : Nat→Bool) : ∀ (l : List Nat) (i : Nat),decide (0 ≤ findN p l i) = l.any p
 | [],i=>by simp [findN]
 | x :: l,i=>by
  cases h : p x with
  | true=>simp [findN,h]
  | false=>
   have:=findN_any p l (i + 1)
   simp only [findN,h,Bool.false_eq_true,if_false,List.any_cons,Bool.false_or]
   exact this
theorem findN_none {p : Nat→Bool} : ∀ {l : List Nat} {i : Nat},l.find? p = none→findN p l i = -1
 | [],_,_=>rfl
 | x :: l,i,h=>by
  rw [List.find?_cons] at h
  cases hx : p x with
  | true=>rw [hx] at h; simp at h
  | false=>
   rw [hx] at h
   simp only [findN,hx,Bool.false_eq_true,if_false]
   exact findN_none h
theorem findN_some {p : Nat→Bool} {v : Nat} : ∀ {l : List Nat} {i : Nat},l.find? p = some v→∃ j : Nat,findN p l i = ((i + j : Nat) : Int)∧l[j]? = some v
 | [],_,h=>by simp at h
 | x :: l,i,h=>by
  rw [List.find?_cons] at h
  cases hx : p x with
  | true=>
   rw [hx] at h
   simp only [Option.some.injEq] at h
   exact ⟨0,by simp [findN,hx],by simp [h]⟩
  | false=>
   rw [hx] at h
   obtain ⟨j,h1,h2⟩:=findN_some (i:=i + 1) h
   refine ⟨j + 1,?_,by simpa using h2⟩
   simp only [findN,hx,Bool.false_eq_true,if_false]
   rw [h1]
   congr 1
   omega
theorem indexFuncN_c (l : List Nat) (cap : Option Nat) (g : FuncId) (cp : List V) (p : Nat→Bool) (hf : ∀ x ∈ l,PureC Tryz.prog gl0 g (u8V x :: cp) (.bool (p x))) (hp : V.pureL cp = true) (hl : l.length < 1000000000000) : PureC Tryz.prog gl0 86 [.sl (l.map u8V) cap,.fn g [] cp] (.int .i64 (findN p l 0)):=by
 obtain ⟨q,hq⟩ : ∃ r,findN p l 0 = r:=⟨_,rfl⟩
 rw [hq]
 refine PureC.of_W 2 ok86 rfl ?_
 simp [i86,x86]
 refine LoopP.of (X:=Nat) (fun i=>[(8,natV i),(7,natV l.length),(0,.sl (l.map u8V) cap),(1,.fn g [] cp)]) (fun _=>[])
  (fun i=>i ≤ l.length∧findN p (l.drop i) i = q) (fun i=>l.length - i) 0 ⟨by simp,by simpa using hq⟩ (by simp [natV]) (by simp) ?_
 rintro i ⟨h2,h3⟩
 simp [natV]
 refine BrB.of (fun h1=>?_) (fun h1=>?_)
 ·have h1' : i < l.length:=of_decide_eq_true h1
  have hw:=wrapN i (by omega)
  rw [List.drop_eq_getElem_cons h1'] at h3
  simp only [findN] at h3
  obtain ⟨v,hv⟩ : ∃ v,l[i] = v:=⟨_,rfl⟩
  have hfv:=hf v (hv ▸ List.getElem_mem h1')
  rw [hv] at h3
  simp only [u8V] at hfv
  simp [h1',hv,u8V]
  refine CallO.pure hfv (by simp only [V.pureL,V.pure,hp,Bool.and_self]) ?_
  simp
  refine BrB.of (fun h4=>?_) (fun h4=>?_)
  ·rw [if_pos h4] at h3
   simp [h3]
  ·rw [if_neg (by simp [h4])] at h3
   simp [hw]
   exact ⟨i + 1,⟨h1',h3⟩,rfl,by omega⟩
 ·have h1' : i = l.length:=by have:=of_decide_eq_false h1; omega
  subst h1'
  simp [findN] at h3
  simp [h3]
theorem containsFuncN_c (l : List Nat) (cap : Option Nat) (g : FuncId) (cp : List V) (p : Nat→Bool) (hf : ∀ x ∈ l,PureC Tryz.prog gl0 g (u8V x :: cp) (.bool (p x))) (hp : V.pureL cp = true) (hl : l.length < 1000000000000) : PureC Tryz.prog gl0 73 [.sl (l.map u8V) cap,.fn g [] cp] (.bool (l.any p)):=by
 refine PureC.of_W 2 ok73 rfl ?_
 simp [i73,x73]
 refine CallO.pure (indexFuncN_c l cap g cp p hf hp hl) (by simp [hp,u8s_pure]) ?_
 simp [findN_any]
theorem indexN_c (x : Nat) (l : List Nat) (cap : Option Nat) (hl : l.length < 1000000000000) : PureC Tryz.prog gl0 104 [.sl (l.map u8V) cap,u8V x] (.int .i64 (findN (fun v=>x == v) l 0)):=by
 obtain ⟨q,hq⟩ : ∃ r,findN (fun v=>x == v) l 0 = r:=⟨_,rfl⟩
 rw [hq]
 refine PureC.of_W 2 ok104 rfl ?_
 simp [i104,x104]
 refine LoopP.of (X:=Nat) (fun i=>[(8,natV i),(7,natV l.length),(0,.sl (l.map u8V) cap),(1,u8V x)]) (fun _=>[])
  (fun i=>i ≤ l.length∧findN (fun v=>x == v) (l.drop i) i = q) (fun i=>l.length - i) 0 ⟨by simp,by simpa using hq⟩ (by simp [natV]) (by simp) ?_
 rintro i ⟨h2,h3⟩
 simp [natV]
 refine BrB.of (fun h1=>?_) (fun h1=>?_)
 ·have h1' : i < l.length:=of_decide_eq_true h1
  have hw:=wrapN i (by omega)
  rw [List.drop_eq_getElem_cons h1'] at h3
  simp only [findN] at h3
  obtain ⟨v,hv⟩ : ∃ v,l[i] = v:=⟨_,rfl⟩
  rw [hv] at h3
  simp [h1',hv,u8V]
  refine BrB.of (fun h4=>?_) (fun h4=>?_)
  ·rw [if_pos (by simpa using of_decide_eq_true h4)] at h3
   simp [h3]
  ·rw [if_neg (by simpa using of_decide_eq_false h4)] at h3
   simp [hw]
   exact ⟨i + 1,⟨h1',h3⟩,rfl,by omega⟩
 ·have h1' : i = l.length:=by have:=of_decide_eq_false h1; omega
  subst h1'
  simp [findN] at h3
  simp [h3]
theorem any_mem (x : Nat) (l : List Nat) : (l.any fun v=>x == v) = decide (x ∈ l):=by
 rw [Bool.eq_iff_iff]
 simp
theorem containsN_c (x : Nat) (l : List Nat) (cap : Option Nat) (hl : l.length < 1000000000000) : PureC Tryz.prog gl0 95 [.sl (l.map u8V) cap,u8V x] (.bool (decide (x ∈ l))):=by
 refine PureC.of_W 2 ok95 rfl ?_
 simp [i95,x95]
 refine CallO.pure (indexN_c x l cap hl) (by simp [u8V,u8s_pure]) ?_
 simp [findN_any,any_mem]
theorem conflict_c (l : List Nat) (cap : Option Nat) (hl : l.length < 1000000000000) : PureC Tryz.prog gl0 87 [.sl (l.map u8V) cap] (.bool (decide (0 ∈ l) && decide (1 ∈ l))):=by
 refine PureC.of_W 2 ok87 rfl ?_
 simp [i87,x87]
 refine CallO.pure (containsN_c 0 l cap hl) (by simp [u8s_pure]) ?_
 simp
 refine BrB.of (fun h=>?_) (fun h=>?_)
 ·simp [h]
  refine CallO.pure (containsN_c 1 l cap hl) (by simp [u8s_pure]) ?_
  simp
 ·simp [h]
set_option maxRecDepth 100000 in
theorem lbus_c (l : List Nat) (cap : Option Nat) (hl : l.length < 1000000000) : PureC Tryz.prog gl0 68 [.sl (l.map u8V) cap] (u8V (busN l)):=by
 have h1:=indexFuncN_c l cap 85 [] (fun v=>v != 3) (fun x _=>drv_c x) rfl (by omega)
 have h2:=containsFuncN_c l cap 83 [] (fun v=>decide (clean v = 2)) (fun x _=>unk_c x) rfl (by omega)
 obtain ⟨k,hk⟩ : ∃ k,findN (fun v=>v != 3) l 0 = k:=⟨_,rfl⟩
 have hany : (l.any fun v=>decide (clean v = 2)) = decide (∃ u ∈ l,clean u = 2):=by
  rw [Bool.eq_iff_iff]; simp
 rw [hany] at h2
 rw [hk] at h1
 unfold busN
 refine PureC.of_W 2 ok68 rfl ?_
 simp [i68,x68]
 refine CallO.pure h1 (by simp [u8s_pure]) ?_
 simp
 cases hf : l.find? (fun v=>v != 3) with
 | none=>
  have hk1 : k = -1:=by rw [← hk]; exact findN_none hf
  subst hk1
  simp [u8V]
 | some v=>
  obtain ⟨j,hj,hv⟩:=findN_some (i:=0) hf
  have hkj : k = (j : Int):=by rw [← hk,hj]; congr 1; omega
  subst hkj
  have hjl : j < l.length:=(List.getElem?_eq_some_iff.1 hv).1
  have hvv : l[j] = v:=(List.getElem?_eq_some_iff.1 hv).2
  simp
  refine CallO.pure (conflict_c l cap (by omega)) (by simp [u8s_pure]) ?_
  simp
  by_cases h01 : 0 ∈ l∧1 ∈ l
  ·simp [h01,u8V]
  ·have e : (decide (0 ∈ l) && decide (1 ∈ l)) = false:=by
    rw [Bool.eq_false_iff]
    simpa using h01
   simp [e]
   refine CallO.pure h2 (by simp [u8s_pure]) ?_
   by_cases hu : ∃ u ∈ l,clean u = 2
   ·simp [hu,u8V]
   ·simp [hu,h01,hjl,hvv,u8V]
theorem u8s_ok (l : List Nat) (cap : Option Nat) : V.pureL [.sl (l.map u8V) cap] = true:=by simp only [V.pureL,V.pure,u8s_pure,Bool.and_self]
set_option maxRecDepth 100000 in
set_option maxHeartbeats 4000000 in
theorem logE_c (k : Nat) (hk : k < 256) (l : List Nat) (cap : Option Nat) (hl : l.length < 1000000000) : PureC Tryz.prog gl0 31 [u8V k,.sl (l.map u8V) cap] (u8V (logE k l)):=by
  have hf:=fanin_c (k : Int) (by omega) (by omega)
  have hland:=land_c l cap hl
  have hlor:=lor_c l cap hl
  have hlxor:=lxor_c l cap hl
  have hbus:=lbus_c l cap hl
  obtain ⟨A,hA⟩ : ∃ p,dec 0 1 1 l = p:=⟨_,rfl⟩
  obtain ⟨B,hB⟩ : ∃ p,dec 1 0 0 l = p:=⟨_,rfl⟩
  obtain ⟨X,hX⟩ : ∃ p,xorN 0 l = p:=⟨_,rfl⟩
  obtain ⟨U,hU⟩ : ∃ p,busN l = p:=⟨_,rfl⟩
  have hnA:=lnot_c A
  have hnB:=lnot_c B
  have hnX:=lnot_c X
  obtain ⟨NA,hNA⟩ : ∃ p,notN A = p:=⟨_,rfl⟩
  obtain ⟨NB,hNB⟩ : ∃ p,notN B = p:=⟨_,rfl⟩
  obtain ⟨NX,hNX⟩ : ∃ p,notN X = p:=⟨_,rfl⟩
  rw [hA] at hland
  rw [hB] at hlor
  rw [hX] at hlxor
  rw [hU] at hbus
  rw [hNA] at hnA
  rw [hNB] at hnB
  rw [hNX] at hnX
  have hg : ∀ j (h : j < l.length),l.getD j 0 = l[j]:=fun j h=>by simp [h]
  refine PureC.of_W 2 ok31 rfl ?_
  obtain ⟨lo,hlo⟩ : ∃ p,kLo k = p:=⟨_,rfl⟩
  obtain ⟨hi,hhi⟩ : ∃ p,kHi k = p:=⟨_,rfl⟩
  rw [hlo,hhi] at hf
  unfold logE
  rw [hlo,hhi]
  simp only [u8V] at hland hlor hlxor hbus hnA hnB hnX
  simp [i31,x31,u8V]
  refine CallO.pure hf rfl ?_
  simp
  refine BrB.of (fun h1=>?_) (fun h1=>?_)
  · have h1':=of_decide_eq_true h1
    rw [if_pos (.inl h1')]
    simp [h1]
  have h1':=of_decide_eq_false h1
  simp [h1]
  refine BrB.of (fun h2=>?_) (fun h2=>?_)
  · have h2':=of_decide_eq_true h2
    rw [if_pos (.inr h2')]
    simp
  have h2':=of_decide_eq_false h2
  rw [if_neg (by omega)]
  have hk15 : k ≤ 15:=by
    by_cases hc : k ≤ 15
    · exact hc
    · exfalso
      have : hi = -1:=by rw [← hhi,kHi,if_pos (by omega)]
      omega
  have hc : k = 0∨k = 1∨k = 2∨k = 3∨k = 4∨k = 5∨k = 6∨k = 7∨k = 8∨k = 9∨k = 10∨k = 11∨k = 12∨k = 13∨k = 14∨k = 15:=by omega
  rcases hc with rfl | rfl | rfl | rfl | rfl | rfl | rfl | rfl | rfl | rfl | rfl | rfl | rfl | rfl | rfl | rfl
  · simp [gateN]
  · simp [gateN]
  · simp [gateN]
  · have h0 : 0 < l.length := by have : lo = 1 := by rw [← hlo]; rfl
                                 omega
    have hr:=rdN_c l[0]
    simp only [u8V] at hr
    have e : gateN 3 l = rdN l[0]:=by rw [← hg 0 h0]; rfl
    rw [e]
    simp [h0,u8V]
    refine CallO.pure hr rfl ?_
    simp
  · have h0 : 0 < l.length := by have : lo = 1 := by rw [← hlo]; rfl
                                 omega
    have hr:=lnot_c l[0]
    simp only [u8V] at hr
    have e : gateN 4 l = notN l[0]:=by rw [← hg 0 h0]; rfl
    rw [e]
    simp [h0,u8V]
    refine CallO.pure hr rfl ?_
    simp
  · rw [show gateN 5 l = A from hA]
    simp
    refine CallO.pure hland (u8s_ok _ _) ?_
    simp
  · rw [show gateN 6 l = NA by rw [← hNA,← hA]; rfl]
    simp
    refine CallO.pure hland (u8s_ok _ _) ?_
    simp
    refine CallO.pure hnA rfl ?_
    simp
  · rw [show gateN 7 l = B from hB]
    simp
    refine CallO.pure hlor (u8s_ok _ _) ?_
    simp
  · rw [show gateN 8 l = NB by rw [← hNB,← hB]; rfl]
    simp
    refine CallO.pure hlor (u8s_ok _ _) ?_
    simp
    refine CallO.pure hnB rfl ?_
    simp
  · rw [show gateN 9 l = X from hX]
    simp
    refine CallO.pure hlxor (u8s_ok _ _) ?_
    simp
  · rw [show gateN 10 l = NX by rw [← hNX,← hX]; rfl]
    simp
    refine CallO.pure hlxor (u8s_ok _ _) ?_
    simp
    refine CallO.pure hnX rfl ?_
    simp
  · have h0 : l.length = 3:=by
      have e1 : lo = 3:=by rw [← hlo]; rfl
      have e2 : hi = 3:=by rw [← hhi]; rfl
      omega
    have hr:=lmux_c (l[0]'(by omega)) (l[1]'(by omega)) (l[2]'(by omega))
    have e : gateN 11 l = muxN (l[0]'(by omega)) (l[1]'(by omega)) (l[2]'(by omega)):=by rw [← hg 0 (by omega),← hg 1 (by omega),← hg 2 (by omega)]; rfl
    rw [e]
    generalize muxN (l[0]'(by omega)) (l[1]'(by omega)) (l[2]'(by omega)) = M at hr ⊢
    simp only [u8V] at hr
    simp [show 0 < l.length by omega,show 1 < l.length by omega,show 2 < l.length by omega,u8V]
    intro gm
    first | refine ⟨_,_,_,.pure hr rfl,?_⟩ | refine ⟨_,⟨_,_,.pure hr rfl⟩,?_⟩ | refine ⟨_,_,⟨_,.pure hr rfl⟩,?_⟩
    simp
  · have h0 : l.length = 2:=by
      have e1 : lo = 2:=by rw [← hlo]; rfl
      have e2 : hi = 2:=by rw [← hhi]; rfl
      omega
    have hr:=ltri_c (l[0]'(by omega)) (l[1]'(by omega))
    have e : gateN 12 l = triN (l[0]'(by omega)) (l[1]'(by omega)):=by rw [← hg 0 (by omega),← hg 1 (by omega)]; rfl
    rw [e]
    generalize triN (l[0]'(by omega)) (l[1]'(by omega)) = M at hr ⊢
    simp only [u8V] at hr
    simp [show 0 < l.length by omega,show 1 < l.length by omega,u8V]
    intro gm
    first | refine ⟨_,_,_,.pure hr rfl,?_⟩ | refine ⟨_,⟨_,_,.pure hr rfl⟩,?_⟩ | refine ⟨_,_,⟨_,.pure hr rfl⟩,?_⟩
    simp
  · rw [show gateN 13 l = U from hU]
    simp
    refine CallO.pure hbus (u8s_ok _ _) ?_
    simp
  · simp [gateN]
  · simp [gateN]
end Go.Proofs.YtcmblmkbdenakaaGreatDoor
