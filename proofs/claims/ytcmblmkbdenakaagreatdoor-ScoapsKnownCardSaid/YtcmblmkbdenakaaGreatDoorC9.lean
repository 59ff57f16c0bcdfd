/- Costs: Gate and Pin are what the definition says. Conditions: none. -/
import Derived.Test.YtcmblmkbdenakaaGreatDoorC7
import Derived.Test.YtcmblmkbdenakaaGreatDoorLV
import Derived.Test.YtcmblmkbdenakaaGreatDoorXL6
set_option linter.unusedSimpArgs false
set_option linter.unusedVariables false
namespace Go.Proofs.YtcmblmkbdenakaaGreatDoor
open Go
theorem not_01 (x : Nat) : (notN x = 0↔x = 1)∧(notN x = 1↔x = 0):=by
 unfold notN; split <;> omega
theorem not_le (x : Nat) : notN x ≤ 1↔x ≤ 1:=by unfold notN; split <;> omega
theorem not_eq {x y : Nat} (hx : x ≤ 1) (hy : y ≤ 1) : notN x = notN y↔x = y:=by unfold notN; rw [if_pos hx,if_pos hy]; omega
theorem logE_fit {k : Nat} {ts : List (Nat × Nat)} (h : widB k ts.length = true) {a : List Nat} (ha : a.length = ts.length) : logE k a = gateN k a:=by
 unfold logE
 rw [if_neg]
 simp only [widB,Bool.and_eq_true,decide_eq_true_eq] at h
 rw [ha]
 omega
theorem gate_eq (k : Nat) (ts : List (Nat × Nat)) (hk : k < 16) (hw : widB k ts.length = true) : gateP k ts = gateD k ts:=by
 have hfit : (decide (k ≤ 15) && widB k ts.length) = true:=by rw [hw]; simp; omega
 rw [gateP_fit hfit]
 unfold gateD
 have key : ∀ (v : Nat) (p : List Nat→Bool),(∀ a,a.length = ts.length→(∀ x ∈ a,x < 3)→decide (logE k a = v) = p a)→(bst ts fun a=>decide (logE k a = v)) = bst ts p:=fun v p h=>bst_congr h
 have hx:=xor_b ts
 have ka0 : (bst ts fun a=>decide (dec 0 1 1 a = 0)) = mnV false ts:=and_0 ts 1 (by omega)
 have ka1 : (bst ts fun a=>decide (dec 0 1 1 a = 1)) = smV true ts:=and_1 ts
 have ko0 : (bst ts fun a=>decide (dec 1 0 0 a = 0)) = smV false ts:=or_0 ts
 have ko1 : (bst ts fun a=>decide (dec 1 0 0 a = 1)) = mnV true ts:=or_1 ts 0 (by omega)
 have tw : ∀ v (f : List Nat→Nat),(∀ a,a.length = ts.length→logE k a = f a)→(bst ts fun a=>decide (logE k a = v)) = bst ts fun a=>decide (f a = v):=fun v f h=>bst_congr fun a h1 _=>by rw [h a h1]
 have tn : ∀ v w (f : List Nat→Nat),(∀ a,a.length = ts.length→logE k a = notN (f a))→(v = 0∧w = 1∨v = 1∧w = 0)→(bst ts fun a=>decide (logE k a = v)) = bst ts fun a=>decide (f a = w):=fun v w f h hv=>bst_congr fun a h1 _=>by
  rw [h a h1]
  obtain ⟨n1,n2⟩:=not_01 (f a)
  rcases hv with ⟨rfl,rfl⟩ | ⟨rfl,rfl⟩
  ·exact decide_eq_decide.2 n1
  ·exact decide_eq_decide.2 n2
 have hE:=fun (a : List Nat) (ha : a.length = ts.length)=>logE_fit hw ha
 have hc : k = 0∨k = 1∨k = 2∨k = 3∨k = 4∨k = 5∨k = 6∨k = 7∨k = 8∨k = 9∨k = 10∨k = 11∨k = 12∨k = 13∨k = 14∨k = 15:=by omega
 rcases hc with rfl | rfl | rfl | rfl | rfl | rfl | rfl | rfl | rfl | rfl | rfl | rfl | rfl | rfl | rfl | rfl
 ·rfl
 ·rfl
 ·rfl
 ·rfl
 ·rfl
 ·rw [tw 0 (dec 0 1 1) (fun a h=>(hE a h).trans rfl),tw 1 (dec 0 1 1) (fun a h=>(hE a h).trans rfl),ka0,ka1]; rfl
 ·rw [tn 0 1 (dec 0 1 1) (fun a h=>(hE a h).trans rfl) (.inl ⟨rfl,rfl⟩),tn 1 0 (dec 0 1 1) (fun a h=>(hE a h).trans rfl) (.inr ⟨rfl,rfl⟩),ka0,ka1]; rfl
 ·rw [tw 0 (dec 1 0 0) (fun a h=>(hE a h).trans rfl),tw 1 (dec 1 0 0) (fun a h=>(hE a h).trans rfl),ko0,ko1]; rfl
 ·rw [tn 0 1 (dec 1 0 0) (fun a h=>(hE a h).trans rfl) (.inl ⟨rfl,rfl⟩),tn 1 0 (dec 1 0 0) (fun a h=>(hE a h).trans rfl) (.inr ⟨rfl,rfl⟩),ko0,ko1]; rfl
 ·rw [tw 0 (xorN 0) (fun a h=>(hE a h).trans rfl),tw 1 (xorN 0) (fun a h=>(hE a h).trans rfl),hx]; rfl
 ·rw [tn 0 1 (xorN 0) (fun a h=>(hE a h).trans rfl) (.inl ⟨rfl,rfl⟩),tn 1 0 (xorN 0) (fun a h=>(hE a h).trans rfl) (.inr ⟨rfl,rfl⟩),hx]; rfl
 ·rfl
 ·rfl
 ·rfl
 ·rfl
 ·rfl
def sj (f : List Nat→Nat) (j : Nat) (a : List Nat) : Bool:=decide (f (a.set j 0) ≤ 1) && decide (f (a.set j 1) ≤ 1) && !decide (f (a.set j 0) = f (a.set j 1))
theorem smk_smV (b : Bool) (p : Int) : ∀ (ts : List (Nat × Nat)) (i : Nat),p < i→smk (tv b) p i ts = smV b ts
 | [],_,_=>rfl
 | t :: ts,i,h=>by
  unfold smk smV
  rw [if_neg (by omega),smk_smV b p ts (i + 1) (by omega)]
theorem dec_has {lo hi : Nat} (hne : lo ≠ hi) : ∀ (l : List Nat) (out : Nat),lo ∈ l→dec lo hi out l = lo
 | x :: l,out,h=>by
  simp only [dec]
  by_cases hx : x = lo
  ·rw [if_pos hx]
  ·rw [if_neg hx]
   have h2 : lo ∈ l:=by
    rcases List.mem_cons.1 h with h | h
    ·exact absurd h.symm hx
    ·exact h
   split <;> exact dec_has hne l _ h2
theorem dec_two {lo hi : Nat} (h2 : hi ≠ 2) (hne : lo ≠ hi) : ∀ (l : List Nat),dec lo hi 2 l ≠ hi
 | []=>by simp only [dec]; exact fun h=>h2 h.symm
 | x :: l=>by
  simp only [dec]
  split
  ·exact hne
  ·split <;> exact dec_two h2 hne l
theorem set_mem {j v : Nat} : ∀ {a : List Nat},j < a.length→v ∈ a.set j v:=fun {a} h=>by
 have:=List.getElem_mem (l:=a.set j v) (n:=j) (by simpa using h)
 simpa using this
theorem and_pin (p : Int) : ∀ (ts : List (Nat × Nat)) (i j : Nat),p = (i + j : Nat)→j < ts.length→bsk p i ts (sj (dec 0 1 1) j) = smk (tv true) p i ts
 | [],_,_,_,hj=>absurd hj (Nat.not_lt_zero _)
 | t :: ts,i,0,hp,hj=>by
  unfold bsk smk
  rw [if_pos (by omega),if_pos (by omega),bsk_past _ _ _ (by omega),smk_smV _ _ _ _ (by omega),← and_1]
  refine bst_congr fun a h1 h2=>?_
  simp only [sj,List.set_cons_zero,dec_0,dec_1]
  have : dec 0 1 1 a ≤ 2:=dec_le 0 1 (by omega) a 1 (by omega)
  have h3 : dec 0 1 1 a = 0∨dec 0 1 1 a = 1∨dec 0 1 1 a = 2:=by omega
  rcases h3 with h | h | h <;> rw [h] <;> rfl
 | t :: ts,i,j + 1,hp,hj=>by
  have hj' : j < ts.length:=by simpa using hj
  unfold bsk smk
  rw [if_neg (by omega),if_neg (by omega)]
  have e0 : (bsk p (i + 1) ts fun a=>sj (dec 0 1 1) (j + 1) (0 :: a)) = nev:=by
   rw [← bsk_false p ts (i + 1)]
   refine bsk_congr fun a h1 h2=>?_
   simp [sj,dec_0]
  have e1 : (bsk p (i + 1) ts fun a=>sj (dec 0 1 1) (j + 1) (1 :: a)) = smk (tv true) p (i + 1) ts:=by
   rw [← and_pin p ts (i + 1) j (by omega) hj']
   refine bsk_congr fun a h1 h2=>?_
   simp [sj,dec_1]
  have e2 : (bsk p (i + 1) ts fun a=>sj (dec 0 1 1) (j + 1) (2 :: a)) = nev:=by
   rw [← bsk_false p ts (i + 1)]
   refine bsk_congr fun a h1 h2=>?_
   have q0:=dec_has (lo:=0) (hi:=1) (by omega) (a.set j 0) 2 (set_mem (by omega))
   have q1:=dec_two (lo:=0) (hi:=1) (by omega) (by omega) (a.set j 1)
   simp only [sj,List.set_cons_succ,dec_2,q0]
   by_cases h : dec 0 1 2 (a.set j 1) ≤ 1
   ·have : dec 0 1 2 (a.set j 1) = 0:=by omega
    rw [this]; rfl
   ·simp [h]
  rw [e0,e1,e2]
  rw [show tv true t = t.2 from rfl]
  rw [show pls t.1 nev = nev by rw [pls_comm]; exact pls_n _,Nat.min_eq_right (pls_le _ _)]
  exact Nat.min_eq_left (pls_le _ _)
theorem or_pin (p : Int) : ∀ (ts : List (Nat × Nat)) (i j : Nat),p = (i + j : Nat)→j < ts.length→bsk p i ts (sj (dec 1 0 0) j) = smk (tv false) p i ts
 | [],_,_,_,hj=>absurd hj (Nat.not_lt_zero _)
 | t :: ts,i,0,hp,hj=>by
  unfold bsk smk
  rw [if_pos (by omega),if_pos (by omega),bsk_past _ _ _ (by omega),smk_smV _ _ _ _ (by omega),← or_0]
  refine bst_congr fun a h1 h2=>?_
  simp only [sj,List.set_cons_zero,dec'_0,dec'_1]
  have : dec 1 0 0 a ≤ 2:=dec_le 1 0 (by omega) a 0 (by omega)
  have h3 : dec 1 0 0 a = 0∨dec 1 0 0 a = 1∨dec 1 0 0 a = 2:=by omega
  rcases h3 with h | h | h <;> rw [h] <;> rfl
 | t :: ts,i,j + 1,hp,hj=>by
  have hj' : j < ts.length:=by simpa using hj
  unfold bsk smk
  rw [if_neg (by omega),if_neg (by omega)]
  have e0 : (bsk p (i + 1) ts fun a=>sj (dec 1 0 0) (j + 1) (1 :: a)) = nev:=by
   rw [← bsk_false p ts (i + 1)]
   refine bsk_congr fun a h1 h2=>?_
   simp [sj,dec'_1]
  have e1 : (bsk p (i + 1) ts fun a=>sj (dec 1 0 0) (j + 1) (0 :: a)) = smk (tv false) p (i + 1) ts:=by
   rw [← or_pin p ts (i + 1) j (by omega) hj']
   refine bsk_congr fun a h1 h2=>?_
   simp [sj,dec'_0]
  have e2 : (bsk p (i + 1) ts fun a=>sj (dec 1 0 0) (j + 1) (2 :: a)) = nev:=by
   rw [← bsk_false p ts (i + 1)]
   refine bsk_congr fun a h1 h2=>?_
   have q0:=dec_has (lo:=1) (hi:=0) (by omega) (a.set j 1) 2 (set_mem (by omega))
   have q1:=dec_two (lo:=1) (hi:=0) (by omega) (by omega) (a.set j 0)
   simp only [sj,List.set_cons_succ,dec'_2,q0]
   by_cases h : dec 1 0 2 (a.set j 0) ≤ 1
   ·have : dec 1 0 2 (a.set j 0) = 1:=by omega
    rw [this]; rfl
   ·simp [h]
  rw [e0,e1,e2]
  rw [show tv false t = t.1 from rfl]
  rw [show pls t.2 nev = nev by rw [pls_comm]; exact pls_n _,Nat.min_eq_left (pls_le _ _)]
  exact Nat.min_eq_left (pls_le _ _)
theorem xorN_c : ∀ (l : List Nat) (s : Nat),s ≤ 1→(xorN s l ≤ 1→xorN (1 - s) l = 1 - xorN s l)∧(¬ xorN s l ≤ 1→xorN (1 - s) l = 2)
 | [],s,hs=>⟨fun _=>rfl,fun h=>absurd hs h⟩
 | x :: l,s,hs=>by
  have h1:=xorN_c l s hs
  have h2:=xorN_c l (1 - s) (by omega)
  have e : 1 - (1 - s) = s:=by omega
  rw [e] at h2
  simp only [xorN]
  by_cases hx : x = 0
  ·rw [if_pos hx,if_pos hx]; exact h1
  ·rw [if_neg hx,if_neg hx]
   by_cases hy : x = 1
   ·rw [if_pos hy,if_pos hy,e]; exact h2
   ·rw [if_neg hy,if_neg hy]
    exact ⟨fun h=>by omega,fun _=>rfl⟩
theorem xor_any (s s' : Nat) (hs : s ≤ 1) (hs' : s' ≤ 1) (a : List Nat) : decide (xorN s a ≤ 1) = decide (xorN s' a ≤ 1):=by
 have h:=xorN_c a s hs
 have : s' = s∨s' = 1 - s:=by omega
 rcases this with rfl | rfl
 ·rfl
 ·by_cases hx : xorN s a ≤ 1
  ·rw [h.1 hx]; simp [hx]
  ·rw [h.2 hx]; simp [hx]
theorem xor_sum (p : Int) : ∀ (ts : List (Nat × Nat)) (i : Nat),p < i→(bst ts fun a=>decide (xorN 0 a ≤ 1)) = smk (fun t=>min t.1 t.2) p i ts
 | [],_,_=>rfl
 | t :: ts,i,h=>by
  have h0 : ∀ a,xorN 0 (0 :: a) = xorN 0 a:=fun a=>by simp [xorN]
  have h1 : ∀ a,xorN 0 (1 :: a) = xorN 1 a:=fun a=>by simp [xorN]
  have h2 : ∀ a,xorN 0 (2 :: a) = 2:=fun a=>by simp [xorN]
  unfold smk
  rw [if_neg (by omega),← xor_sum p ts (i + 1) (by omega)]
  simp only [bst,h0,h1,h2,xor_any 1 0 (by omega) (by omega)]
  have : (fun a : List Nat=>decide ((2 : Nat) ≤ 1)) = fun _=>false:=rfl
  rw [this,bst_false]
  have:=bst_le ts fun a=>decide (xorN 0 a ≤ 1)
  unfold pls; omega
theorem xor_pin (p : Int) : ∀ (ts : List (Nat × Nat)) (i j s : Nat),s ≤ 1→p = (i + j : Nat)→j < ts.length→bsk p i ts (sj (xorN s) j) = smk (fun t=>min t.1 t.2) p i ts
 | [],_,_,_,_,_,hj=>absurd hj (Nat.not_lt_zero _)
 | t :: ts,i,0,s,hs,hp,hj=>by
  unfold bsk smk
  rw [if_pos (by omega),if_pos (by omega),bsk_past _ _ _ (by omega),← xor_sum _ _ _ (by omega)]
  refine bst_congr fun a h1 h2=>?_
  have h0 : xorN s (0 :: a) = xorN s a:=by simp [xorN]
  have h1 : xorN s (1 :: a) = xorN (1 - s) a:=by simp [xorN]
  have hc:=xorN_c a s hs
  simp only [sj,List.set_cons_zero,h0,h1,xor_any 0 s (by omega) hs]
  by_cases hx : xorN s a ≤ 1
  ·rw [hc.1 hx]; simp [hx]; omega
  ·simp [hx]
 | t :: ts,i,j + 1,s,hs,hp,hj=>by
  have hj' : j < ts.length:=by simpa using hj
  unfold bsk smk
  rw [if_neg (by omega),if_neg (by omega)]
  have h0 : ∀ a,xorN s (0 :: a) = xorN s a:=fun a=>by simp [xorN]
  have h1 : ∀ a,xorN s (1 :: a) = xorN (1 - s) a:=fun a=>by simp [xorN]
  have h2 : ∀ a,xorN s (2 :: a) = 2:=fun a=>by simp [xorN]
  have e0 : (bsk p (i + 1) ts fun a=>sj (xorN s) (j + 1) (0 :: a)) = smk (fun t=>min t.1 t.2) p (i + 1) ts:=by
   rw [← xor_pin p ts (i + 1) j s hs (by omega) hj']
   refine bsk_congr fun a _ _=>?_
   simp [sj,h0]
  have e1 : (bsk p (i + 1) ts fun a=>sj (xorN s) (j + 1) (1 :: a)) = smk (fun t=>min t.1 t.2) p (i + 1) ts:=by
   rw [← xor_pin p ts (i + 1) j (1 - s) (by omega) (by omega) hj']
   refine bsk_congr fun a _ _=>?_
   simp [sj,h1]
  have e2 : (bsk p (i + 1) ts fun a=>sj (xorN s) (j + 1) (2 :: a)) = nev:=by
   rw [← bsk_false p ts (i + 1)]
   refine bsk_congr fun a _ _=>?_
   simp [sj,h2]
  rw [e0,e1,e2]
  have:=smk_le (fun t=>min t.1 t.2) p ts (i + 1)
  unfold pls; omega
theorem sj_not (f : List Nat→Nat) (j : Nat) (a : List Nat) : sj (fun a=>notN (f a)) j a = sj f j a:=by
 unfold sj
 have h1 : decide (notN (f (a.set j 0)) ≤ 1) = decide (f (a.set j 0) ≤ 1):=decide_eq_decide.2 (not_le _)
 have h2 : decide (notN (f (a.set j 1)) ≤ 1) = decide (f (a.set j 1) ≤ 1):=decide_eq_decide.2 (not_le _)
 rw [h1,h2]
 by_cases q1 : f (a.set j 0) ≤ 1
 ·by_cases q2 : f (a.set j 1) ≤ 1
  ·have h3 : decide (notN (f (a.set j 0)) = notN (f (a.set j 1))) = decide (f (a.set j 0) = f (a.set j 1)):=decide_eq_decide.2 (not_eq q1 q2)
   rw [h3]
  ·simp [q2]
 ·simp [q1]
theorem pin_eq (k p : Nat) (ts : List (Nat × Nat)) (hk : k < 16) (hw : widB k ts.length = true) (h14 : ¬ k = 14) (hp : p < ts.length) : pnP k p ts = pinD k p ts:=by
 have hfit : (decide (k ≤ 15) && widB k ts.length) = true:=by rw [hw]; simp; omega
 rw [pnP_fit hfit h14 hp]
 unfold pinD
 have hE:=fun (a : List Nat) (ha : a.length = ts.length)=>logE_fit hw ha
 have tw : ∀ (f : List Nat→Nat),(∀ a,a.length = ts.length→logE k a = f a)→bsk p 0 ts (sees k p) = bsk p 0 ts (sj f p):=fun f h=>bsk_congr fun a h1 _=>by
  show sj (logE k) p a = sj f p a
  unfold sj; rw [h _ (by simpa using h1),h _ (by simpa using h1)]
 have tn : ∀ (f : List Nat→Nat),(∀ a,a.length = ts.length→logE k a = notN (f a))→bsk p 0 ts (sees k p) = bsk p 0 ts (sj f p):=fun f h=>(tw _ h).trans (bsk_congr fun a _ _=>sj_not f p a)
 have ha:=and_pin p ts 0 p (by omega) hp
 have ho:=or_pin p ts 0 p (by omega) hp
 have hx:=xor_pin p ts 0 p 0 (by omega) (by omega) hp
 have hc : k = 0∨k = 1∨k = 2∨k = 3∨k = 4∨k = 5∨k = 6∨k = 7∨k = 8∨k = 9∨k = 10∨k = 11∨k = 12∨k = 13∨k = 15:=by omega
 rcases hc with rfl | rfl | rfl | rfl | rfl | rfl | rfl | rfl | rfl | rfl | rfl | rfl | rfl | rfl | rfl
 ·rfl
 ·rfl
 ·rfl
 ·rfl
 ·rfl
 ·rw [tw (dec 0 1 1) (fun a h=>(hE a h).trans rfl),ha]; rfl
 ·rw [tn (dec 0 1 1) (fun a h=>(hE a h).trans rfl),ha]; rfl
 ·rw [tw (dec 1 0 0) (fun a h=>(hE a h).trans rfl),ho]; rfl
 ·rw [tn (dec 1 0 0) (fun a h=>(hE a h).trans rfl),ho]; rfl
 ·rw [tw (xorN 0) (fun a h=>(hE a h).trans rfl),hx]; rfl
 ·rw [tn (xorN 0) (fun a h=>(hE a h).trans rfl),hx]; rfl
 ·rfl
 ·rfl
 ·rfl
 ·rfl
theorem mnV_mono (b : Bool) : ∀ {ts us : List (Nat × Nat)},leT ts us→mnV b ts ≤ mnV b us
 | [],[],_=>Nat.le_refl _
 | [],_ :: _,h=>h.elim
 | _ :: _,[],h=>h.elim
 | t :: ts,u :: us,⟨h1,h2,h3⟩=>by
  have:=mnV_mono b h3
  have hb : tv b t ≤ tv b u:=by cases b; exact h1; exact h2
  unfold mnV; omega
theorem gateD_mono (k : Nat) {ts us : List (Nat × Nat)} (h : leT ts us) : (gateD k ts).1 ≤ (gateD k us).1∧(gateD k ts).2 ≤ (gateD k us).2:=by
 unfold gateD
 (repeat' split) <;> first | exact ⟨Nat.le_refl _,Nat.le_refl _⟩ | exact ⟨pls_mono (mnV_mono _ h) (Nat.le_refl _),pls_mono (mnV_mono _ h) (Nat.le_refl _)⟩ | exact ⟨pls_mono (bst_mono h _) (Nat.le_refl _),pls_mono (bst_mono h _) (Nat.le_refl _)⟩
theorem pinD_mono (k p : Nat) {ts us : List (Nat × Nat)} (h : leT ts us) : pinD k p ts ≤ pinD k p us:=by
 unfold pinD
 split
 ·exact Nat.le_refl _
 ·exact pls_mono (bsk_mono h _ _) (Nat.le_refl _)
theorem listV_norm (l : List V) : (listV l).norm = .sl l (if l = [] then some 0 else none):=by cases l <;> rfl
theorem listV_ne {l : List V} (h : l ≠ []) : listV l = .sl l none:=by cases l with
 | nil=>exact absurd rfl h
 | cons a b=>rfl
theorem gateN_c (k : Nat) (hk : k < 256) (l : List (Int × Int)) (hl : l.length < 1000000) : PureC Tryz.prog gl0 7 [u8V k,listV (l.map cV)] (nC (gateP k (l.map capC))):=by
 refine PureC.normA ?_
 rw [List.map_cons,List.map_cons,List.map_nil,listV_norm]
 exact sgate_c k hk l _ hl
theorem lgateN_c (k : Nat) (hk : k < 256) (l : List (Int × Int)) (hl : l.length ≤ 20) (hl0 : ¬ (k = 0∨k = 14)→¬ k = 15→¬ k = 1→¬ k = 2→0 < l.length) : PureC Tryz.prog gl0 23 [u8V k,listV (l.map cV)] (nC (gateD k (l.map capC))):=by
 refine PureC.normA ?_
 rw [List.map_cons,List.map_cons,List.map_nil,listV_norm]
 exact lgate_c k hk l _ hl hl0
theorem need_in {k m : Nat} (hk : k < 16) (hw : widB k m = true) (h0 : ¬ k = 0) (h2 : ¬ k = 15) (h3 : ¬ k = 1) (h4 : ¬ k = 2) : 0 < m:=by
 rcases Nat.eq_zero_or_pos m with rfl | h
 ·exfalso
  have : ∀ i : Fin 16,widB ((i.val : Nat) : Int) 0 = true→i.val = 0∨i.val = 1∨i.val = 2∨i.val = 15:=by decide
  have:=this ⟨k,hk⟩ hw
  simp only at this
  omega
 ·exact h
end Go.Proofs.YtcmblmkbdenakaaGreatDoor
namespace Go.Proofs.YtcmblmkbdenakaaGreatDoor
open Go
def raise (l : List (Int × Int)) (at' : Nat) (x y : Int) : List (Int × Int):=l.set at' ((l.getD at' (0,0)).1 + x,(l.getD at' (0,0)).2 + y)
theorem capI_mono {a b : Int} (h : a ≤ b) : capI a ≤ capI b:=by unfold capI; omega
theorem leT_refl : ∀ l : List (Nat × Nat),leT l l
 | []=>trivial
 | _ :: l=>⟨Nat.le_refl _,Nat.le_refl _,leT_refl l⟩
theorem leT_set : ∀ (l : List (Int × Int)) (i : Nat) (p : Int × Int),(∀ q,l[i]? = some q→q.1 ≤ p.1∧q.2 ≤ p.2)→leT (l.map capC) ((l.set i p).map capC)
 | [],_,_,_=>trivial
 | q :: l,0,p,h=>⟨capI_mono (h q rfl).1,capI_mono (h q rfl).2,leT_refl _⟩
 | q :: l,i + 1,p,h=>⟨Nat.le_refl _,Nat.le_refl _,leT_set l i p fun q' hq=>h q' (by simpa using hq)⟩
theorem raise_le (l : List (Int × Int)) (i : Nat) (x y : Int) (hx : 0 ≤ x) (hy : 0 ≤ y) : leT (l.map capC) ((raise l i x y).map capC):=leT_set l i _ fun q hq=>by
 rw [List.getD_eq_getElem?_getD,hq]
 simp only [Option.getD_some]
 omega
theorem costI_b (b : Nat) (hb : b < 256) : -3 ≤ costI b∧costI b ≤ 1073741831:=by
 unfold costI; (repeat' split) <;> omega
theorem costL_b (bs : List Nat) (hb : ∀ x ∈ bs,x < 256) : ∀ n,∀ p ∈ costL bs n,(-3 ≤ p.1∧p.1 ≤ 1073741831)∧(-3 ≤ p.2∧p.2 ≤ 1073741831)
 | 0,p,h=>by cases h
 | n + 1,p,h=>by
  have hg : ∀ i,bs.getD i 0 < 256:=fun i=>by
   rw [List.getD_eq_getElem?_getD]
   cases hi : bs[i]? with
   | none=>simp
   | some v=>exact hb v (List.mem_of_getElem? hi)
  simp only [costL,List.mem_append,List.mem_singleton] at h
  rcases h with h | rfl
  ·exact costL_b bs hb n p h
  ·split
   ·exact ⟨costI_b _ (hg _),costI_b _ (hg _)⟩
   ·simp
theorem law3_c (kk n : Nat) (hkk : kk < 256) (hn0 : n < 256) (bs : List Nat) (cap : Option Nat) (hb : ∀ x ∈ bs,x < 256) : PureC Tryz.prog gl0 6 [u8V kk,u8V n,.sl (bs.map u8V) cap] (.bool true):=by
 refine PureC.of_W 2 ok6 rfl ?_
 simp [i6,x6,u8V]
 refine BrB.of (fun h12=>?_) (fun h12=>?_)
 ·simp
  refine CallO.pure lives_c rfl ?_
  simp
 ·have hbl : bs.length ≤ 12:=by have:=of_decide_eq_false h12; omega
  obtain ⟨k,hk⟩ : ∃ k,kk % 16 = k:=⟨_,rfl⟩
  have hk16 : k < 16:=by omega
  have hkm : IntKind.u8.wrap (((kk : Int)).tmod 16) = (k : Int):=by
   have : ((kk : Int)).tmod 16 = (k : Int):=by rw [← hk]; rfl
   rw [this]; exact wrap_u8 (by omega) (by omega)
  have hkm2 : ((kk : Int)).tmod 16 = (k : Int):=by rw [← hk]; rfl
  have hkm3 : (kk : Int) % 16 = (k : Int):=by omega
  obtain ⟨m,hm4,hmw,hmany⟩:=many_c k n hk16 hn0
  have hcosts:=costs_c bs cap m hb (by omega) (by omega)
  have hLb:=costL_b bs hb m
  have hLl:=costL_len bs m
  generalize costL bs m = L at hcosts hLb hLl
  have hwts : widB k (L.map capC).length = true:=by rw [List.length_map,hLl]; exact hmw
  have hge:=gate_eq k (L.map capC) hk16 hwts
  have hg1:=gateN_c k (by omega) L (by omega)
  rw [hge] at hg1
  have hneed : ¬ (k = 0∨k = 14)→¬ k = 15→¬ k = 1→¬ k = 2→0 < L.length:=fun q1 q2 q3 q4=>by
   have:=need_in (k:=k) (m:=m) hk16 hmw (by omega) q2 q3 q4
   omega
  have hg2:=lgateN_c k (by omega) L (by omega) hneed
  simp [hkm,hkm2,hkm3]
  refine CallO.pure hmany (by simp [u8V]) ?_
  simp
  refine CallO.pure hcosts (by simp [u8s_pure,natV]) ?_
  have hLp:=cVs_pure L
  have hlvp : (listV (L.map cV)).pure = true:=by
   cases h : L.map cV with
   | nil=>rfl
   | cons a b=>rw [h] at hLp; simpa [listV,V.pure] using hLp
  simp
  refine CallO.pure hg1 (by simp [u8V,hlvp]) ?_
  obtain ⟨⟨z1,z2⟩,hz⟩ : ∃ z,gateD k (L.map capC) = z:=⟨_,rfl⟩
  rw [hz] at hg2 ⊢
  simp [nC,natV]
  intro ga gm
  first | refine ⟨_,_,_,.pure hg2 (by simp [u8V,hlvp]),?_⟩ | refine ⟨_,⟨_,_,.pure hg2 (by simp [u8V,hlvp])⟩,?_⟩ | refine ⟨_,_,⟨_,.pure hg2 (by simp [u8V,hlvp])⟩,?_⟩
  simp [nC,natV,eqCells]
  refine ⟨rfl,?_⟩
  have hn : nev = 1073741824:=rfl
  have hpin : ∀ i,i < L.length→pnP k i (L.map capC) = if k = 14 then nev else pinD k i (L.map capC):=fun i hi=>by
   by_cases h14 : k = 14
   ·rw [if_pos h14]; unfold pnP; rw [if_pos (.inr (.inl h14))]
   ·rw [if_neg h14,pin_eq k i (L.map capC) hk16 hwts h14 (by rw [List.length_map]; exact hi)]
  by_cases hL0 : L = []
  ·subst hL0
   have hpn : pnP k 0 [] = nev:=by unfold pnP; rw [if_pos (.inr (.inr (.inr (by simp))))]
   have hp0:=spin_c k (by omega) 0 [] (some 0) (by simp)
   rw [List.map_nil,List.map_nil,hpn] at hp0
   have hp1 : PureC Tryz.prog gl0 8 [u8V k,.int .i64 0,.nil] (natV nev):=PureC.normA hp0
   simp [listV]
   refine LoopP.of (X:=Unit) (fun _=>[(10,natV 0),(8,.nil),(7,u8V k),(6,.bool false)]) (fun _=>[]) (fun _=>True) (fun _=>0) () trivial (by simp [natV,u8V]) (by simp) ?_
   rintro - -
   simp [natV,u8V]
   refine CallO.pure hp1 (by simp [u8V]) ?_
   simp [natV,hn]
   refine CallO.pure lives_c rfl ?_
   simp
  have hLm : L.map cV ≠ []:=by simpa using hL0
  rw [listV_ne hLm]
  have hL1 : 0 < L.length:=List.length_pos_iff.2 hL0
  have hsp:=fun (i : Int)=>spin_c k (by omega) i L none (by omega)
  have hlp:=fun (i : Nat) (hi : i < L.length)=>lpin_c k i (by omega) L none (by omega) hi
  refine LoopP.of (X:=Nat) (fun i=>[(10,natV i),(9,.ptr 9 (ga 9) 0 0),(8,.sl (L.map cV) none),(7,u8V k),(6,.bool false),(0,u8V kk),(1,u8V n)]) (fun _=>[(9,.row (ga 9) 2 [.agg [natV z1,natV z2]])]) (fun i=>i ≤ L.length) (fun i=>L.length - i) 0 (by simp) (by simp [natV,u8V]) (by simp [natV]) ?_
  rintro i q1
  simp [natV,u8V]
  refine BrB.of (fun hb2=>?_) (fun hb2=>?_)
  ·have hi:=of_decide_eq_true hb2
   have hw:=wrapN i (by omega)
   have hpi:=hpin i hi
   have hs:=hsp i
   have hl:=hlp i hi
   rw [hpi] at hs
   by_cases h14 : k = 14
   ·rw [if_pos h14] at hs
    have hd : decide (k = 14) = true:=decide_eq_true h14
    simp [hd]
    refine CallO.pure hs (by simp [u8V,hLp]) ?_
    simp [natV,hn,hw]
    exact ⟨i + 1,hi,by omega,by omega⟩
   ·rw [if_neg h14] at hs
    have hd : decide (k = 14) = false:=decide_eq_false h14
    generalize pinD k i (L.map capC) = q at hs hl
    simp [hd]
    refine CallO.pure hl (by simp [u8V,hLp,natV]) ?_
    simp
    refine CallO.pure hs (by simp [u8V,hLp]) ?_
    simp [natV,hw]
    exact ⟨i + 1,hi,by omega,by omega⟩
  ·have hi : i = L.length:=by have:=of_decide_eq_false hb2; omega
   subst hi
   have hun:=u8i hn0
   have huk:=u8i hkk
   obtain ⟨j,hj⟩ : ∃ j,n % L.length = j:=⟨_,rfl⟩
   have hjL : j < L.length:=by rw [← hj]; exact Nat.mod_lt _ hL1
   have hjm : ((n : Int)).tmod (L.length : Int) = (j : Int):=by rw [← hj]; rfl
   have hjm2 : (n : Int) % (L.length : Int) = (j : Int):=by rw [← hj]; rfl
   obtain ⟨x,hx⟩ : ∃ x,kk / 16 = x:=⟨_,rfl⟩
   have hxd : ((kk : Int)).tdiv 16 = (x : Int):=by rw [← hx]; rfl
   have hxd2 : (kk : Int) / 16 = (x : Int):=by rw [← hx]; rfl
   have hxw : IntKind.i64.wrap (x : Int) = (x : Int):=by rw [wrap_i64] <;> omega
   obtain ⟨y,hy⟩ : ∃ y,n / 8 = y:=⟨_,rfl⟩
   have hyd : ((n : Int)).tdiv 8 = (y : Int):=by rw [← hy]; rfl
   have hyd2 : (n : Int) / 8 = (y : Int):=by rw [← hy]; rfl
   have hyw : IntKind.i64.wrap (y : Int) = (y : Int):=by rw [wrap_i64] <;> omega
   obtain ⟨p,hp⟩ : ∃ p,L[j] = p:=⟨_,rfl⟩
   have hpb:=hLb p (hp ▸ List.getElem_mem hjL)
   have hw1 : IntKind.i64.wrap (p.1 + (x : Int)) = p.1 + x:=by rw [wrap_i64] <;> omega
   have hw2 : IntKind.i64.wrap (p.2 + (y : Int)) = p.2 + y:=by rw [wrap_i64] <;> omega
   have hall : (L.all ((fun x=>decide (x.cells.length = 2)) ∘ cV)) = true:=List.all_eq_true.2 fun _ _=>rfl
   have hlen1 : L.length ≤ 274877906944:=by omega
   have hL0' : ¬ L.length = 0:=by omega
   have hR : raise L j x y = L.set j (p.1 + x,p.2 + y):=by
    unfold raise
    rw [List.getD_eq_getElem?_getD,List.getElem?_eq_getElem hjL,hp]; rfl
   have hRm : (raise L j x y).map cV = (L.map cV).set j (.agg [.int .i64 (p.1 + x),.int .i64 (p.2 + y)]):=by
    rw [hR,List.map_set]; rfl
   have hRl : (raise L j x y).length = L.length:=by rw [hR,List.length_set]
   have hRle:=raise_le L j x y (by omega) (by omega)
   have hRw : widB k ((raise L j x y).map capC).length = true:=by rw [List.length_map,hRl,← List.length_map (f:=capC)]; exact hwts
   simp [hL0,hun,hjm,hjm2,hall,hlen1]
   intro g66
   simp [hjL,hp,cV,huk,hxd,hxd2,hxw,hw1,hun,hyd,hyd2,hyw,hw2]
   have hsR:=sgate_c k (by omega) (raise L j x y) none (by omega)
   rw [gate_eq k _ hk16 hRw] at hsR
   have hmono:=gateD_mono k hRle
   rw [hz] at hmono
   obtain ⟨⟨w1,w2⟩,hwz⟩ : ∃ z,gateD k ((raise L j x y).map capC) = z:=⟨_,rfl⟩
   rw [hwz] at hmono hsR
   obtain ⟨hm1,hm2⟩ : z1 ≤ w1∧z2 ≤ w2:=hmono
   have hfr : ∀ (h : Hp) (g : Nat),lk h 66 = some (.row g 2 ((raise L j x y).map cV))→frz h 1 (.ref 66 g 0 L.length none) = .sl ((raise L j x y).map cV) none:=fun h g hh=>frz_rowP (sz:=2) 0 hh (cVs_pure _) (by rw [List.length_map,hRl])
   have hpm : ∀ q : Nat,q = j→pnP k (q : Int) (L.map capC) ≤ pnP k (q : Int) ((raise L j x y).map capC):=fun q hq=>by
    subst hq
    by_cases h14 : k = 14
    ·unfold pnP; rw [if_pos (.inr (.inl h14)),if_pos (.inr (.inl h14))]; exact Nat.le_refl _
    ·rw [pin_eq k q _ hk16 hwts h14 (by rw [List.length_map]; exact hjL),pin_eq k q _ hk16 hRw h14 (by rw [List.length_map,hRl]; exact hjL)]
     exact pinD_mono k q hRle
   have hpj:=hpm j rfl
   have hq1:=hsp j
   have hq2:=spin_c k (by omega) j (raise L j x y) none (by omega)
   generalize pnP k (j : Int) (L.map capC) = u at hpj hq1
   generalize pnP k (j : Int) ((raise L j x y).map capC) = w at hpj hq2
   rw [← hRm]
   generalize hRR : (raise L j x y).map cV = RR at hsR hfr hq2
   intro gz
   refine CallO.borrow 1 hsR (by
    rw [List.map_cons,List.map_cons,List.map_nil,hfr _ _ (by simp)]; rfl) rfl ?_
   simp [nC,natV]
   intro g14
   have d1 : ¬ w1 < z1:=by omega
   simp [hm1,hm2]
   refine CallO.borrow 1 hq2 (by
    rw [List.map_cons,List.map_cons,List.map_cons,List.map_nil,hfr _ _ (by simp)]; rfl) rfl ?_
   simp
   refine CallO.pure hq1 (by simp [u8V,hLp]) ?_
   simp [natV,hpj]
   refine CallO.pure lives_c rfl ?_
   simp
end Go.Proofs.YtcmblmkbdenakaaGreatDoor
