/- Costs: Gate and Pin are what the definition says. Conditions: none. -/
import Derived.Test.YtcmblmkbdenakaaGreatDoorC7
set_option linter.unusedSimpArgs false
set_option linter.unusedVariables false
namespace Go.Proofs.YtcmblmkbdenakaaGreatDoor
open Go
theorem not_01 (x : Nat) : (notN x = 0↔x = 1)∧(notN x = 1↔x = 0):=by
 unfold notN; split <;> omega
theorem not_le (x : Nat) : notN x ≤ 1↔x ≤ 1:=by unfold notN; split <;> omega
theorem not_eq {x y : Nat} (hx : x ≤ 1) (hy : y ≤ 1) : notN x = notN y↔x = y:=by unfold notN; rw [if_pos hx,if_pos hy]; omega
theorem logE_fit {k : Nat} {ts : List (Nat × Nat)} (h : widB k ts.length = true) {a : List Nat} (ha : a.length = ts.length) : logE k a = gateN k a:=by
 unfold logE
 rw [if_neg]
 simp only [widB,Bool.and_eq_true,decide_eq_true_eq] at h
 rw [ha]
 omega
theorem gate_eq (k : Nat) (ts : List (Nat × Nat)) (hk : k < 16) (hw : widB k ts.length = true) : gateP k ts = gateD k ts:=by
 have hfit : (decide (k ≤ 15) && widB k ts.length) = true:=by rw [hw]; simp; omega
 rw [gateP_fit hfit]
 unfold gateD
 have key : ∀ (v : Nat) (p : List Nat→Bool),(∀ a,a.length = ts.length→(∀ x ∈ a,x < 3)→decide (logE k a = v) = p a)→(bst ts fun a=>decide (logE k a = v)) = bst ts p:=fun v p h=>bst_congr h
 have hx:=xor_b ts
 have ka0 : (bst ts fun a=>decide (dec 0 1 1 a = 0)) = mnV false ts:=and_0 ts 1 (by omega)
 have ka1 : (bst ts fun a=>decide (dec 0 1 1 a = 1)) = smV true ts:=and_1 ts
 have ko0 : (bst ts fun a=>decide (dec 1 0 0 a = 0)) = smV false ts:=or_0 ts
 have ko1 : (bst ts fun a=>decide (dec 1 0 0 a = 1)) = mnV true ts:=or_1 ts 0 (by omega)
 have tw : ∀ v (f : List Nat→Nat),(∀ a,a.length = ts.length→logE k a = f a)→(bst ts fun a=>decide (logE k a = v)) = bst ts fun a=>decide (f a = v):=fun v f h=>bst_congr fun a h1 _=>by rw [h a h1]
 have tn : ∀ v w (f : List Nat→Nat),(∀ a,a.length = ts.length→logE k a = notN (f a))→(v = 0∧w = 1∨v = 1∧w = 0)→(bst ts fun a=>decide (logE k a = v)) = bst ts fun a=>decide (f a = w):=fun v w f h hv=>bst_congr fun a h1 _=>by
  rw [h a h1]
  obtain ⟨n1,n2⟩:=not_01 (f a)
  rcases hv with ⟨rfl,rfl⟩ | ⟨rfl,rfl⟩
  ·exact decide_eq_decide.2 n1
  ·exact decide_eq_decide.2 n2
 have hE:=fun (a : List Nat) (ha : a.length = ts.length)=>logE_fit hw ha
 have hc : k = 0∨k = 1∨k = 2∨k = 3∨k = 4∨k = 5∨k = 6∨k = 7∨k = 8∨k = 9∨k = 10∨k = 11∨k = 12∨k = 13∨k = 14∨k = 15:=by omega
 rcases hc with rfl | rfl | rfl | rfl | rfl | rfl | rfl | rfl | rfl | rfl | rfl | rfl | rfl | rfl | rfl | rfl
 ·rfl
 ·rfl
 ·rfl
 ·rfl
 ·rfl
 ·rw [tw 0 (dec 0 1 1) (fun a h=>(hE a h).trans rfl),tw 1 (dec 0 1 1) (fun a h=>(hE a h).trans rfl),ka0,ka1]; rfl
 ·rw [tn 0 1 (dec 0 1 1) (fun a h=>(hE a h).trans rfl) (.inl ⟨rfl,rfl⟩),tn 1 0 (dec 0 1 1) (fun a h=>(hE a h).trans rfl) (.inr ⟨rfl,rfl⟩),ka0,ka1]; rfl
 ·rw [tw 0 (dec 1 0 0) (fun a h=>(hE a h).trans rfl),tw 1 (dec 1 0 0) (fun a h=>(hE a h).trans rfl),ko0,ko1]; rfl
 ·rw [tn 0 1 (dec 1 0 0) (fun a h=>(hE a h).trans rfl) (.inl ⟨rfl,rfl⟩),tn 1 0 (dec 1 0 0) (fun a h=>(hE a h).trans rfl) (.inr ⟨rfl,rfl⟩),ko0,ko1]; rfl
 ·rw [tw 0 (xorN 0) (fun a h=>(hE a h).trans rfl),tw 1 (xorN 0) (fun a h=>(hE a h).trans rfl),hx]; rfl
 ·rw [tn 0 1 (xorN 0) (fun a h=>(hE a h).trans rfl) (.inl ⟨rfl,rfl⟩),tn 1 0 (xorN 0) (fun a h=>(hE a h).trans rfl) (.inr ⟨rfl,rfl⟩),hx]; rfl
 ·rfl
 ·rfl
 ·rfl
 ·rfl
 ·rfl
def sj (f : List Nat→Nat) (j : Nat) (a : List Nat) : Bool:=decide (f (a.set j 0) ≤ 1) && decide (f (a.set j 1) ≤ 1) && !decide (f (a.set j 0) = f (a.set j 1))
theorem smk_smV (b : Bool) (p : Int) : ∀ (ts : List (Nat × Nat)) (i : Nat),p < i→smk (tv b) p i ts = smV b ts
 | [],_,_=>rfl
 | t :: ts,i,h=>by
  unfold smk smV
  rw [if_neg (by omega),smk_smV b p ts (i + 1) (by omega)]
theorem dec_has {lo hi : Nat} (hne : lo ≠ hi) : ∀ (l : List Nat) (out : Nat),lo ∈ l→dec lo hi out l = lo
 | x :: l,out,h=>by
  simp only [dec]
  by_cases hx : x = lo
  ·rw [if_pos hx]
  ·rw [if_neg hx]
   have h2 : lo ∈ l:=by
    rcases List.mem_cons.1 h with h | h
    ·exact absurd h.symm hx
    ·exact h
   split <;> exact dec_has hne l _ h2
theorem dec_two {lo hi : Nat} (h2 : hi ≠ 2) (hne : lo ≠ hi) : ∀ (l : List Nat),dec lo hi 2 l ≠ hi
 | []=>by simp only [dec]; exact fun h=>h2 h.symm
 | x :: l=>by
  simp only [dec]
  split
  ·exact hne
  ·split <;> exact dec_two h2 hne l
theorem set_mem {j v : Nat} : ∀ {a : List Nat},j < a.length→v ∈ a.set j v:=fun {a} h=>by
 have:=List.getElem_mem (l:=a.set j v) (n:=j) (by simpa using h)
 simpa using this
theorem and_pin (p : Int) : ∀ (ts : List (Nat × Nat)) (i j : Nat),p = (i + j : Nat)→j < ts.length→bsk p i ts (sj (dec 0 1 1) j) = smk (tv true) p i ts
 | [],_,_,_,hj=>absurd hj (Nat.not_lt_zero _)
 | t :: ts,i,0,hp,hj=>by
  unfold bsk smk
  rw [if_pos (by omega),if_pos (by omega),bsk_past _ _ _ (by omega),smk_smV _ _ _ _ (by omega),← and_1]
  refine bst_congr fun a h1 h2=>?_
  simp only [sj,List.set_cons_zero,dec_0,dec_1]
  have : dec 0 1 1 a ≤ 2:=dec_le 0 1 (by omega) a 1 (by omega)
  have h3 : dec 0 1 1 a = 0∨dec 0 1 1 a = 1∨dec 0 1 1 a = 2:=by omega
  rcases h3 with h | h | h <;> rw [h] <;> rfl
 | t :: ts,i,j + 1,hp,hj=>by
  have hj' : j < ts.length:=by simpa using hj
  unfold bsk smk
  rw [if_neg (by omega),if_neg (by omega)]
  have e0 : (bsk p (i + 1) ts fun a=>sj (dec 0 1 1) (j + 1) (0 :: a)) = nev:=by
   rw [← bsk_false p ts (i + 1)]
   refine bsk_congr fun a h1 h2=>?_
   simp [sj,dec_0]
  have e1 : (bsk p (i + 1) ts fun a=>sj (dec 0 1 1) (j + 1) (1 :: a)) = smk (tv true) p (i + 1) ts:=by
   rw [← and_pin p ts (i + 1) j (by omega) hj']
   refine bsk_congr fun a h1 h2=>?_
   simp [sj,dec_1]
  have e2 : (bsk p (i + 1) ts fun a=>sj (dec 0 1 1) (j + 1) (2 :: a)) = nev:=by
   rw [← bsk_false p ts (i + 1)]
   refine bsk_congr fun a h1 h2=>?_
   have q0:=dec_has (lo:=0) (hi:=1) (by omega) (a.set j 0) 2 (set_mem (by omega))
   have q1:=dec_two (lo:=0) (hi:=1) (by omega) (by omega) (a.set j 1)
   simp only [sj,List.set_cons_succ,dec_2,q0]
   by_cases h : dec 0 1 2 (a.set j 1) ≤ 1
   ·have : dec 0 1 2 (a.set j 1) = 0:=by omega
    rw [this]; rfl
   ·simp [h]
  rw [e0,e1,e2]
  rw [show tv true t = t.2 from rfl]
  rw [show pls t.1 nev = nev by rw [pls_comm]; exact pls_n _,Nat.min_eq_right (pls_le _ _)]
  exact Nat.min_eq_left (pls_le _ _)
theorem or_pin (p : Int) : ∀ (ts : List (Nat × Nat)) (i j : Nat),p = (i + j : Nat)→j < ts.length→bsk p i ts (sj (dec 1 0 0) j) = smk (tv false) p i ts
 | [],_,_,_,hj=>absurd hj (Nat.not_lt_zero _)
 | t :: ts,i,0,hp,hj=>by
  unfold bsk smk
  rw [if_pos (by omega),if_pos (by omega),bsk_past _ _ _ (by omega),smk_smV _ _ _ _ (by omega),← or_0]
  refine bst_congr fun a h1 h2=>?_
  simp only [sj,List.set_cons_zero,dec'_0,dec'_1]
  have : dec 1 0 0 a ≤ 2:=dec_le 1 0 (by omega) a 0 (by omega)
  have h3 : dec 1 0 0 a = 0∨dec 1 0 0 a = 1∨dec 1 0 0 a = 2:=by omega
  rcases h3 with h | h | h <;> rw [h] <;> rfl
 | t :: ts,i,j + 1,hp,hj=>by
  have hj' : j < ts.length:=by simpa using hj
  unfold bsk smk
  rw [if_neg (by omega),if_neg (by omega)]
  have e0 : (bsk p (i + 1) ts fun a=>sj (dec 1 0 0) (j + 1) (1 :: a)) = nev:=by
   rw [← bsk_false p ts (i + 1)]
   refine bsk_congr fun a h1 h2=>?_
   simp [sj,dec'_1]
  have e1 : (bsk p (i + 1) ts fun a=>sj (dec 1 0 0) (j + 1) (0 :: a)) = smk (tv false) p (i + 1) ts:=by
   rw [← or_pin p ts (i + 1) j (by omega) hj']
   refine bsk_congr fun a h1 h2=>?_
   simp [sj,dec'_0]
  have e2 : (bsk p (i + 1) ts fun a=>sj (dec 1 0 0) (j + 1) (2 :: a)) = nev:=by
   rw [← bsk_false p ts (i + 1)]
   refine bsk_congr fun a h1 h2=>?_
   have q0:=dec_has (lo:=1) (hi:=0) (by omega) (a.set j 1) 2 (set_mem (by omega))
   have q1:=dec_two (lo:=1) (hi:=0) (by omega) (by omega) (a.set j 0)
   simp only [sj,List.set_cons_succ,dec'_2,q0]
   by_cases h : dec 1 0 2 (a.set j 0) ≤ 1
   ·have : dec 1 0 2 (a.set j 0) = 1:=by omega
    rw [this]; rfl
   ·simp [h]
  rw [e0,e1,e2]
  rw [show tv false t = t.1 from rfl]
  rw [show pls t.2 nev = nev by rw [pls_comm]; exact pls_n _,Nat.min_eq_left (pls_le _ _)]
  exact Nat.min_eq_left (pls_le _ _)
theorem xorN_c : ∀ (l : List Nat) (s : Nat),s ≤ 1→(xorN s l ≤ 1→xorN (1 - s) l = 1 - xorN s l)∧(¬ xorN s l ≤ 1→xorN (1 - s) l = 2)
 | [],s,hs=>⟨fun _=>rfl,fun h=>absurd hs h⟩
 | x :: l,s,hs=>by
  have h1:=xorN_c l s hs
  have h2:=xorN_c l (1 - s) (by omega)
  have e : 1 - (1 - s) = s:=by omega
  rw [e] at h2
  simp only [xorN]
  by_cases hx : x = 0
  ·rw [if_pos hx,if_pos hx]; exact h1
  ·rw [if_neg hx,if_neg hx]
   by_cases hy : x = 1
   ·rw [if_pos hy,if_pos hy,e]; exact h2
   ·rw [if_neg hy,if_neg hy]
    exact ⟨fun h=>by omega,fun _=>rfl⟩
theorem xor_any (s s' : Nat) (hs : s ≤ 1) (hs' : s' ≤ 1) (a : List Nat) : decide (xorN s a ≤ 1) = decide (xorN s' a ≤ 1):=by
 have h:=xorN_c a s hs
 have : s' = s∨s' = 1 - s:=by omega
 rcases this with rfl | rfl
 ·rfl
 ·by_cases hx : xorN s a ≤ 1
  ·rw [h.1 hx]; simp [hx]
  ·rw [h.2 hx]; simp [hx]
theorem xor_sum (p : Int) : ∀ (ts : List (Nat × Nat)) (i : Nat),p < i→(bst ts fun a=>decide (xorN 0 a ≤ 1)) = smk (fun t=>min t.1 t.2) p i ts
 | [],_,_=>rfl
 | t :: ts,i,h=>by
  have h0 : ∀ a,xorN 0 (0 :: a) = xorN 0 a:=fun a=>by simp [xorN]
  have h1 : ∀ a,xorN 0 (1 :: a) = xorN 1 a:=fun a=>by simp [xorN]
  have h2 : ∀ a,xorN 0 (2 :: a) = 2:=fun a=>by simp [xorN]
  unfold smk
  rw [if_neg (by omega),← xor_sum p ts (i + 1) (by omega)]
  simp only [bst,h0,h1,h2,xor_any 1 0 (by omega) (by omega)]
  have : (fun a : List Nat=>decide ((2 : Nat) ≤ 1)) = fun _=>false:=rfl
  rw [this,bst_false]
  have:=bst_le ts fun a=>decide (xorN 0 a ≤ 1)
  unfold pls; omega
theorem xor_pin (p : Int) : ∀ (ts : List (Nat × Nat)) (i j s : Nat),s ≤ 1→p = (i + j : Nat)→j < ts.length→bsk p i ts (sj (xorN s) j) = smk (fun t=>min t.1 t.2) p i ts
 | [],_,_,_,_,_,hj=>absurd hj (Nat.not_lt_zero _)
 | t :: ts,i,0,s,hs,hp,hj=>by
  unfold bsk smk
  rw [if_pos (by omega),if_pos (by omega),bsk_past _ _ _ (by omega),← xor_sum _ _ _ (by omega)]
  refine bst_congr fun a h1 h2=>?_
  have h0 : xorN s (0 :: a) = xorN s a:=by simp [xorN]
  have h1 : xorN s (1 :: a) = xorN (1 - s) a:=by simp [xorN]
  have hc:=xorN_c a s hs
  simp only [sj,List.set_cons_zero,h0,h1,xor_any 0 s (by omega) hs]
  by_cases hx : xorN s a ≤ 1
  ·rw [hc.1 hx]; simp [hx]; omega
  ·simp [hx]
 | t :: ts,i,j + 1,s,hs,hp,hj=>by
  have hj' : j < ts.length:=by simpa using hj
  unfold bsk smk
  rw [if_neg (by omega),if_neg (by omega)]
  have h0 : ∀ a,xorN s (0 :: a) = xorN s a:=fun a=>by simp [xorN]
  have h1 : ∀ a,xorN s (1 :: a) = xorN (1 - s) a:=fun a=>by simp [xorN]
  have h2 : ∀ a,xorN s (2 :: a) = 2:=fun a=>by simp [xorN]
  have e0 : (bsk p (i + 1) ts fun a=>sj (xorN s) (j + 1) (0 :: a)) = smk (fun t=>min t.1 t.2) p (i + 1) ts:=by
   rw [← xor_pin p ts (i + 1) j s hs (by omega) hj']
   refine bsk_congr fun a _ _=>?_
   simp [sj,h0]
  have e1 : (bsk p (i + 1) ts fun a=>sj (xorN s) (j + 1) (1 :: a)) = smk (fun t=>min t.1 t.2) p (i + 1) ts:=by
   rw [← xor_pin p ts (i + 1) j (1 - s) (by omega) (by omega) hj']
   refine bsk_congr fun a _ _=>?_
   simp [sj,h1]
  have e2 : (bsk p (i + 1) ts fun a=>sj (xorN s) (j + 1) (2 :: a)) = nev:=by
   rw [← bsk_false p ts (i + 1)]
   refine bsk_congr fun a _ _=>?_
   simp [sj,h2]
  rw [e0,e1,e2]
  have:=smk_le (fun t=>min t.1 t.2) p ts (i + 1)
  unfold pls; omega
theorem sj_not (f : List Nat→Nat) (j : Nat) (a : List Nat) : sj (fun a=>notN (f a)) j a = sj f j a:=by
 unfold sj
 have h1 : decide (notN (f (a.set j 0)) ≤ 1) = decide (f (a.set j 0) ≤ 1):=decide_eq_decide.2 (not_le _)
 have h2 : decide (notN (f (a.set j 1)) ≤ 1) = decide (f (a.set j 1) ≤ 1):=decide_eq_decide.2 (not_le _)
 rw [h1,h2]
 by_cases q1 : f (a.set j 0) ≤ 1
 ·by_cases q2 : f (a.set j 1) ≤ 1
  ·have h3 : decide (notN (f (a.set j 0)) = notN (f (a.set j 1))) = decide (f (a.set j 0) = f (a.set j 1)):=decide_eq_decide.2 (not_eq q1 q2)
   rw [h3]
  ·simp [q2]
 ·simp [q1]
theorem pin_eq (k p : Nat) (ts : List (Nat × Nat)) (hk : k < 16) (hw : widB k ts.length = true) (h14 : ¬ k = 14) (hp : p < ts.length) : pnP k p ts = pinD k p ts:=by
 have hfit : (decide (k ≤ 15) && widB k ts.length) = true:=by rw [hw]; simp; omega
 rw [pnP_fit hfit h14 hp]
 unfold pinD
 have hE:=fun (a : List Nat) (ha : a.length = ts.length)=>logE_fit hw ha
 have tw : ∀ (f : List Nat→Nat),(∀ a,a.length = ts.length→logE k a = f a)→bsk p 0 ts (sees k p) = bsk p 0 ts (sj f p):=fun f h=>bsk_congr fun a h1 _=>by
  show sj (logE k) p a = sj f p a
  unfold sj; rw [h _ (by simpa using h1),h _ (by simpa using h1)]
 have tn : ∀ (f : List Nat→Nat),(∀ a,a.length = ts.length→logE k a = notN (f a))→bsk p 0 ts (sees k p) = bsk p 0 ts (sj f p):=fun f h=>(tw _ h).trans (bsk_congr fun a _ _=>sj_not f p a)
 have ha:=and_pin p ts 0 p (by omega) hp
 have ho:=or_pin p ts 0 p (by omega) hp
 have hx:=xor_pin p ts 0 p 0 (by omega) (by omega) hp
 have hc : k = 0∨k = 1∨k = 2∨k = 3∨k = 4∨k = 5∨k = 6∨k = 7∨k = 8∨k = 9∨k = 10∨k = 11∨k = 12∨k = 13∨k = 15:=by omega
 rcases hc with rfl | rfl | rfl | rfl | rfl | rfl | rfl | rfl | rfl | rfl | rfl | rfl | rfl | rfl | rfl
 ·rfl
 ·rfl
 ·rfl
 ·rfl
 ·rfl
 ·rw [tw (dec 0 1 1) (fun a h=>(hE a h).trans rfl),ha]; rfl
 ·rw [tn (dec 0 1 1) (fun a h=>(hE a h).trans rfl),ha]; rfl
 ·rw [tw (dec 1 0 0) (fun a h=>(hE a h).trans rfl),ho]; rfl
 ·rw [tn (dec 1 0 0) (fun a h=>(hE a h).trans rfl),ho]; rfl
 ·rw [tw (xorN 0) (fun a h=>(hE a h).trans rfl),hx]; rfl
 ·rw [tn (xorN 0) (fun a h=>(hE a h).trans rfl),hx]; rfl
 ·rfl
 ·rfl
 ·rfl
 ·rfl
end Go.Proofs.YtcmblmkbdenakaaGreatDoor
