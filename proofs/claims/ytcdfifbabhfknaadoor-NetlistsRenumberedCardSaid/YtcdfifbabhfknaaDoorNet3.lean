/- Levels of a graph: the equations, their uniqueness, the bound. No program stands in it. Conditions: none. Netlists: contracts, the law Lists. Conditions: none. Netlists: contracts, Levels. Conditions: none. -/
import Derived.Test.YtcdfifbabhfknaaDoorBase13
import Derived.Test.YtcdfifbabhfknaaDoorNet2
set_option linter.unusedSimpArgs false
set_option linter.unusedVariables false
namespace Go.Proofs.YtcdfifbabhfknaaDoor
open Go
def tab {α : Type} (n : Nat) (f : Nat→α) : List α:=(List.range n).map f
def upd1 {α : Type} (f : Nat→α) (i : Nat) (v : α) : Nat→α:=fun j=>if j = i then v else f j
@[simp] theorem upd1_same {α : Type} (f : Nat→α) (i : Nat) (v : α) : upd1 f i v i = v:=by simp [upd1]
theorem upd1_ne {α : Type} (f : Nat→α) {i j : Nat} (v : α) (h : j ≠ i) : upd1 f i v j = f j:=by simp [upd1,h]
@[simp] theorem tab_length {α : Type} (n : Nat) (f : Nat→α) : (tab n f).length = n:=by simp [tab]
theorem tab_get {α : Type} (n : Nat) (f : Nat→α) (i : Nat) (h : i < (tab n f).length) : (tab n f)[i] = f i:=by simp [tab]
theorem tab_get? {α : Type} {n : Nat} (f : Nat→α) {i : Nat} (h : i < n) : (tab n f)[i]? = some (f i):=by simp [tab,h]
theorem tab_set {α : Type} (n : Nat) (f : Nat→α) (i : Nat) (v : α) : (tab n f).set i v = tab n (upd1 f i v):=by
 refine List.ext_getElem? fun j=>?_
 rw [List.getElem?_set]
 unfold tab upd1
 by_cases h : i = j
 ·subst h
  by_cases h2 : i < n <;> simp [h2]
 ·have h' : ¬ j = i:=fun e=>h e.symm
  by_cases h2 : j < n <;> simp [h,h',h2]
theorem tab_congr {α : Type} {n : Nat} {f g : Nat→α} (h : ∀ i,i < n→f i = g i) : tab n f = tab n g:=by
 unfold tab
 exact List.map_congr_left fun i hi=>h i (by simpa using hi)
theorem tab_const {α : Type} (n : Nat) (v : α) : List.replicate n v = tab n fun _=>v:=by
 refine List.ext_getElem? fun j=>?_
 by_cases h : j < n <;> simp [tab,h]
theorem tab_map {α β : Type} (n : Nat) (f : Nat→α) (h : α→β) : (tab n f).map h = tab n fun i=>h (f i):=by simp [tab,Function.comp_def]
theorem tab_pure {n : Nat} {f : Nat→V} (h : ∀ i,(f i).pure = true) : V.pureL (tab n f) = true:=pureL_map h _
where pureL_map {f : Nat→V} (h : ∀ i,(f i).pure = true) (l : List Nat) : V.pureL (l.map f) = true:=V.pureL_map f l h
def sumR (f : Nat→Nat) : Nat→Nat
 | 0=>0
 | n + 1=>sumR f n + f n
theorem sumR_add (f g : Nat→Nat) : ∀ n,sumR (fun j=>f j + g j) n = sumR f n + sumR g n
 | 0=>rfl
 | n + 1=>by simp only [sumR,sumR_add f g n]; omega
theorem sumR_congr {f g : Nat→Nat} (h : ∀ j,f j = g j) (n : Nat) : sumR f n = sumR g n:=by rw [funext h]
theorem sumR_congr' {f g : Nat→Nat} : ∀ {n : Nat},(∀ j,j < n→f j = g j)→sumR f n = sumR g n
 | 0,_=>rfl
 | n + 1,h=>by simp only [sumR,sumR_congr' (n:=n) fun j hj=>h j (by omega),h n (by omega)]
theorem sumR_zero : ∀ n,sumR (fun _=>0) n = 0
 | 0=>rfl
 | n + 1=>by simp only [sumR,sumR_zero n]
theorem sumR_const (k : Nat) : ∀ n,sumR (fun _=>k) n = n * k
 | 0=>by simp [sumR]
 | n + 1=>by simp only [sumR,sumR_const k n,Nat.add_mul,Nat.one_mul]
theorem sumR_le (f : Nat→Nat) {a b : Nat} (h : a ≤ b) : sumR f a ≤ sumR f b:=by
 induction b with
 | zero=>simp at h; subst h; exact Nat.le_refl _
 | succ b ih=>
  by_cases e : a = b + 1
  ·rw [e]; exact Nat.le_refl _
  ·simp only [sumR]; have:=ih (by omega); omega
theorem sumR_mono {f g : Nat→Nat} : ∀ {n : Nat},(∀ j,j < n→f j ≤ g j)→sumR f n ≤ sumR g n
 | 0,_=>Nat.le_refl _
 | n + 1,h=>by
  have h1:=sumR_mono (n:=n) fun j hj=>h j (by omega)
  have h2:=h n (by omega)
  simp only [sumR]; omega
theorem sumR_swap (f : Nat→Nat→Nat) (m : Nat) : ∀ n,sumR (fun i=>sumR (f i) m) n = sumR (fun j=>sumR (fun i=>f i j) n) m
 | 0=>by simp only [sumR,sumR_zero]
 | n + 1=>by simp only [sumR,sumR_swap f m n,sumR_add]
theorem sumR_one (x : Int) : ∀ n,sumR (fun j=>if x = (j : Int) then 1 else 0) n = if 0 ≤ x∧x < n then 1 else 0
 | 0=>by simp only [sumR]; rw [if_neg (by omega)]
 | n + 1=>by
  simp only [sumR,sumR_one x n]
  by_cases h : x = (n : Int)
  ·rw [if_pos h,if_neg (by omega),if_pos (by omega)]
  ·rw [if_neg h]
   by_cases h2 : 0 ≤ x∧x < n
   ·rw [if_pos h2,if_pos (by omega)]
   ·rw [if_neg h2,if_neg (by omega)]
theorem sumR_oneN (x : Nat) (n : Nat) : sumR (fun j=>if x = j then 1 else 0) n = if x < n then 1 else 0:=by
 have:=sumR_one (x : Int) n
 have e : (fun j : Nat=>if (x : Int) = (j : Int) then 1 else 0) = fun j : Nat=>if x = j then 1 else 0:=by
  funext j; by_cases h : x = j
  ·simp [h]
  ·rw [if_neg h,if_neg (by omega)]
 rw [e] at this
 rw [this]
 by_cases h : x < n
 ·rw [if_pos h,if_pos (by omega)]
 ·rw [if_neg h,if_neg (by omega)]
theorem sumR_full {f : Nat→Nat} {n : Nat} (h1 : ∀ j,j < n→f j ≤ 1) (h : n ≤ sumR f n) : ∀ j,j < n→f j = 1:=by
 induction n with
 | zero=>intro j hj; omega
 | succ n ih=>
  have hle:=sumR_mono (f:=f) (g:=fun _=>1) (n:=n) fun j hj=>h1 j (by omega)
  rw [sumR_const] at hle
  have hn:=h1 n (by omega)
  simp only [sumR] at h
  intro j hj
  by_cases e : j = n
  ·subst e; omega
  ·exact ih (fun j hj=>h1 j (by omega)) (by omega) j (by omega)
theorem sumR_nodup {n : Nat} : ∀ {R : List Nat},R.Nodup→(∀ i ∈ R,i < n)→sumR (fun i=>if i ∈ R then 1 else 0) n = R.length
 | [],_,_=>by simpa using sumR_zero n
 | x :: R,hn,hl=>by
  obtain ⟨h1,h2⟩:=List.nodup_cons.1 hn
  have e : ∀ i,(if i ∈ x :: R then 1 else 0) = (if x = i then 1 else 0) + (if i ∈ R then 1 else 0):=by
   intro i
   by_cases h : x = i
   ·subst h; simp [h1]
   ·have h' : ¬ i = x:=fun e=>h e.symm
    simp [h,h']
  rw [sumR_congr e,sumR_add,sumR_oneN,if_pos (hl x List.mem_cons_self),sumR_nodup h2 fun i hi=>hl i (List.mem_cons_of_mem _ hi)]
  simp; omega
theorem nodup_len {n : Nat} {R : List Nat} (hn : R.Nodup) (hl : ∀ i ∈ R,i < n) : R.length ≤ n:=by
 rw [← sumR_nodup hn hl]
 have:=sumR_mono (f:=fun i=>if i ∈ R then 1 else 0) (g:=fun _=>1) (n:=n) fun j _=>by split <;> omega
 rw [sumR_const] at this; omega
theorem nodup_full {n : Nat} {R : List Nat} (hn : R.Nodup) (hl : ∀ i ∈ R,i < n) (h : n ≤ R.length) : ∀ i,i < n→i ∈ R:=by
 intro i hi
 rw [← sumR_nodup hn hl] at h
 have:=sumR_full (fun j _=>by split <;> omega) h i hi
 split at this
 ·assumption
 ·omega
def mx (f : Nat→Nat) (l : List Nat) : Nat:=l.foldr (fun x m=>max (f x + 1) m) 0
@[simp] theorem mx_nil (f : Nat→Nat) : mx f [] = 0:=rfl
@[simp] theorem mx_cons (f : Nat→Nat) (x : Nat) (l : List Nat) : mx f (x :: l) = max (f x + 1) (mx f l):=rfl
theorem le_mx {f : Nat→Nat} {x : Nat} : ∀ {l : List Nat},x ∈ l→f x + 1 ≤ mx f l
 | y :: l,h=>by
  rcases List.mem_cons.1 h with rfl | h
  ·simp; omega
  ·have:=le_mx (f:=f) h; simp; omega
theorem mx_le {f : Nat→Nat} {b : Nat} : ∀ {l : List Nat},(∀ x ∈ l,f x + 1 ≤ b)→mx f l ≤ b
 | [],_=>by simp
 | y :: l,h=>by
  have h1:=mx_le (f:=f) (b:=b) (l:=l) fun x hx=>h x (List.mem_cons_of_mem _ hx)
  have h2:=h y List.mem_cons_self
  simp; omega
theorem mx_at (f : Nat→Nat) : ∀ (l : List Nat),mx f l = 0∨∃ x ∈ l,mx f l = f x + 1
 | []=>.inl rfl
 | y :: l=>by
  right
  rcases mx_at f l with h | ⟨x,hx,h⟩
  ·exact ⟨y,List.mem_cons_self,by simp [h]⟩
  ·by_cases hc : f y + 1 ≤ mx f l
   ·exact ⟨x,List.mem_cons_of_mem _ hx,by simp [← h]; omega⟩
   ·exact ⟨y,List.mem_cons_self,by simp; omega⟩
theorem mx_congr {f g : Nat→Nat} : ∀ {l : List Nat},(∀ x ∈ l,f x = g x)→mx f l = mx g l
 | [],_=>rfl
 | y :: l,h=>by simp [h y List.mem_cons_self,mx_congr (l:=l) fun x hx=>h x (List.mem_cons_of_mem _ hx)]
def IsLv (n : Nat) (g : Nat→List Nat) (f : Nat→Nat) : Prop:=∀ i,i < n→f i = mx f (g i)
variable {n : Nat} {g : Nat→List Nat} {f f' : Nat→Nat}
theorem IsLv.unique (hg : ∀ i,i < n→∀ x ∈ g i,x < n) (h : IsLv n g f) (h' : IsLv n g f') : ∀ i,i < n→f i = f' i:=by
 have : ∀ k i,i < n→f i ≤ k→f i = f' i:=by
  intro k
  induction k with
  | zero=>
   intro i hi hk
   rw [h i hi] at hk ⊢
   have : g i = []:=by
    cases hgi : g i with
    | nil=>rfl
    | cons x l=>rw [hgi] at hk; simp at hk
   rw [h' i hi,this]; rfl
  | succ k ih=>
   intro i hi hk
   rw [h i hi,h' i hi]
   refine mx_congr fun x hx=>ih x (hg i hi x hx) ?_
   have:=le_mx (f:=f) hx
   rw [h i hi] at hk
   omega
 intro i hi
 exact this _ i hi (Nat.le_refl _)
theorem IsLv.below (hg : ∀ i,i < n→∀ x ∈ g i,x < n) (h : IsLv n g f) : ∀ k i,i < n→f i = k→∀ v,v ≤ k→∃ j,j < n∧f j = v:=by
 intro k
 induction k with
 | zero=>intro i hi hk v hv; exact ⟨i,hi,by omega⟩
 | succ k ih=>
  intro i hi hk v hv
  by_cases e : v = k + 1
  ·exact ⟨i,hi,by omega⟩
  ·rcases mx_at f (g i) with h0 | ⟨x,hx,h0⟩
   ·rw [← h i hi] at h0; omega
   ·rw [← h i hi] at h0
    exact ih x (hg i hi x hx) (by omega) v (by omega)
theorem IsLv.lt (hg : ∀ i,i < n→∀ x ∈ g i,x < n) (h : IsLv n g f) : ∀ i,i < n→f i < n:=by
 intro i hi
 have h1 : ∀ v,v < f i + 1→1 ≤ sumR (fun j=>if f j = v then 1 else 0) n:=by
  intro v hv
  obtain ⟨j,hj,rfl⟩:=h.below hg (f i) i hi rfl v (by omega)
  have hle:=sumR_le (fun k=>if f k = f j then 1 else 0) (show j + 1 ≤ n from hj)
  simp only [sumR,if_true] at hle
  omega
 have h2:=sumR_mono (f:=fun _=>1) (g:=fun v=>sumR (fun j=>if f j = v then 1 else 0) n) h1
 rw [sumR_const,sumR_swap] at h2
 have h3:=sumR_mono (f:=fun j=>sumR (fun v=>if f j = v then 1 else 0) (f i + 1)) (g:=fun _=>1) (n:=n) fun j _=>by
  rw [sumR_oneN]; split <;> omega
 rw [sumR_const] at h3
 omega
theorem IsLv.none (h : IsLv n g f) {S : Nat→Prop} (hS : ∀ i,i < n→S i→∃ x ∈ g i,x < n∧S x) : ∀ i,i < n→¬ S i:=by
 have : ∀ k i,i < n→f i ≤ k→¬ S i:=by
  intro k
  induction k with
  | zero=>
   intro i hi hk hs
   obtain ⟨x,hx,_,_⟩:=hS i hi hs
   have:=le_mx (f:=f) hx
   rw [h i hi] at hk; omega
  | succ k ih=>
   intro i hi hk hs
   obtain ⟨x,hx,hxn,hsx⟩:=hS i hi hs
   have:=le_mx (f:=f) hx
   rw [h i hi] at hk
   exact ih x hxn (by omega) hsx
 intro i hi
 exact this _ i hi (Nat.le_refl _)
def notin (T : List Nat) (l : List Nat) : List Nat:=l.filter fun x=>!(T.contains x)
def isin (T : List Nat) (l : List Nat) : List Nat:=l.filter fun x=>T.contains x
structure KI (n : Nat) (g : Nat→List Nat) (d : Nat) (R : List Nat) (lf ou : Nat→Nat) : Prop where
 nod : R.Nodup
 lt : ∀ i ∈ R,i < n
 dle : d ≤ R.length
 left : ∀ i,i < n→lf i = (notin (R.take d) (g i)).length
 mem : ∀ i,i < n→(i ∈ R↔lf i = 0)
 out : ∀ i,i < n→ou i = mx ou (isin (R.take d) (g i))
variable {d : Nat} {R S : List Nat} {left out c : Nat→Nat} {m : Nat}
theorem notin_nil_iff {T l : List Nat} : (notin T l).length = 0↔∀ x ∈ l,x ∈ T:=by
 unfold notin
 rw [List.length_eq_zero_iff,List.filter_eq_nil_iff]
 simp
theorem isin_all {T l : List Nat} (h : ∀ x ∈ l,x ∈ T) : isin T l = l:=by
 unfold isin
 rw [List.filter_eq_self]
 simpa using h
theorem KI.deps (h : KI n g d R left out) {i : Nat} (hi : i ∈ R) : ∀ x ∈ g i,x ∈ R.take d:=by
 have h1:=h.lt i hi
 have h2:=(h.mem i h1).1 hi
 rw [h.left i h1] at h2
 exact notin_nil_iff.1 h2
theorem KI.full (h : KI n g R.length R left out) (hn : n ≤ R.length) : IsLv n g out:=by
 intro i hi
 have hR:=nodup_full h.nod h.lt hn
 rw [h.out i hi,isin_all fun x hx=>h.deps (hR i hi) x hx]
theorem KI.stuck (hg : ∀ i,i < n→∀ x ∈ g i,x < n) (h : KI n g R.length R left out) (hn : R.length < n) : ¬ ∃ f,IsLv n g f:=by
 rintro ⟨f,hf⟩
 have key:=hf.none (S:=fun i=>i ∉ R) fun i hi hs=>by
  have h1 : left i ≠ 0:=fun e=>hs ((h.mem i hi).2 e)
  rw [h.left i hi,List.take_length] at h1
  have h2 : ¬ ∀ x ∈ g i,x ∈ R:=fun q=>h1 (notin_nil_iff.2 q)
  simp only [Classical.not_forall] at h2
  obtain ⟨x,hx,hxr⟩:=h2
  exact ⟨x,hx,hg i hi x hx,hxr⟩
 have hall : ∀ i,i < n→i ∈ R:=fun i hi=>Classical.not_not.1 (key i hi)
 have : sumR (fun i=>if i ∈ R then 1 else 0) n = sumR (fun _=>1) n:=sumR_congr' fun j hj=>by rw [if_pos (hall j hj)]
 rw [sumR_nodup h.nod h.lt,sumR_const] at this
 omega
structure KJ (n : Nat) (g : Nat→List Nat) (R : List Nat) (left out : Nat→Nat) (m : Nat) (c : Nat→Nat) (S : List Nat) : Prop where
 cle : ∀ i,i < n→c i ≤ (g i).count m
 nod : S.Nodup
 mem : ∀ i,i ∈ S↔i < n∧0 < c i∧left i = c i
theorem KI.start (_h : KI n g d R left out) : KJ n g R left out m (fun _=>0) []:=⟨fun _ _=>Nat.zero_le _,List.nodup_nil,by simp⟩
theorem notin_snoc {T : List Nat} {m : Nat} (hm : m ∉ T) : ∀ l : List Nat,(notin T l).length = (notin (T ++ [m]) l).length + l.count m
 | []=>rfl
 | x :: l=>by
  have ih:=notin_snoc hm l
  unfold notin at ih ⊢
  simp only [List.filter_cons,List.contains_eq_mem,List.mem_append,List.mem_singleton,List.count_cons] at ih ⊢
  by_cases h1 : x = m
  ·subst h1; simp [hm] at ih ⊢; omega
  ·by_cases h2 : x ∈ T <;> simp [h1,h2] at ih ⊢ <;> omega
theorem KI.count_le (h : KI n g d R left out) (hd : R[d]? = some m) {i : Nat} (hi : i < n) : (g i).count m ≤ left i:=by
 have hm : m ∉ R.take d:=by
  intro hx
  obtain ⟨k,hk,hkm⟩:=List.getElem_of_mem hx
  obtain ⟨hd1,hd2⟩:=List.getElem?_eq_some_iff.1 hd
  simp at hk
  exact (List.pairwise_iff_getElem.1 h.nod) k d (by omega) hd1 (by omega) (by rw [hd2,← hkm]; simp)
 rw [h.left i hi,notin_snoc hm]; omega
theorem KI.fresh (h : KI n g d R left out) (hd : R[d]? = some m) : m ∉ R.take d:=by
 intro hx
 obtain ⟨k,hk,hkm⟩:=List.getElem_of_mem hx
 obtain ⟨hd1,hd2⟩:=List.getElem?_eq_some_iff.1 hd
 simp at hk
 exact (List.pairwise_iff_getElem.1 h.nod) k d (by omega) hd1 (by omega) (by rw [hd2,← hkm]; simp)
theorem KJ.step (h : KJ n g R left out m c S) {i : Nat} (hi : i < n) (hc : c i < (g i).count m) (hle : (g i).count m ≤ left i) :
  KJ n g R left out m (upd1 c i (c i + 1)) (if left i - (c i + 1) = 0 then S ++ [i] else S):=by
 have hnot : left i ≠ c i:=by omega
 refine ⟨fun j hj=>?_,?_,fun j=>?_⟩
 ·by_cases e : j = i
  ·subst e; simp; omega
  ·rw [upd1_ne _ _ e]; exact h.cle j hj
 ·split
  ·rw [List.nodup_append]
   refine ⟨h.nod,by simp,fun a ha b hb=>?_⟩
   simp at hb; subst hb
   rintro rfl
   exact hnot ((h.mem a).1 ha).2.2
  ·exact h.nod
 ·have hi' : i ∉ S:=fun hm=>hnot ((h.mem i).1 hm).2.2
  by_cases e : j = i
  ·subst e
   rw [upd1_same]
   split
   ·simp [hi]; omega
   ·simp [hi',hi]; omega
  ·rw [upd1_ne _ _ e]
   split
   ·simp [e,h.mem j]
   ·exact h.mem j
theorem isin_cons (T : List Nat) (x : Nat) (l : List Nat) : isin T (x :: l) = if x ∈ T then x :: isin T l else isin T l:=by
 unfold isin
 by_cases h : x ∈ T <;> simp [h]
theorem mx_isin_snoc {T : List Nat} {m : Nat} (hm : m ∉ T) (f : Nat→Nat) : ∀ l : List Nat,mx f (isin (T ++ [m]) l) = if m ∈ l then max (mx f (isin T l)) (f m + 1) else mx f (isin T l)
 | []=>by simp [isin]
 | x :: l=>by
  have ih:=mx_isin_snoc hm f l
  rw [isin_cons,isin_cons]
  by_cases h1 : x = m
  ·subst h1
   rw [if_pos (by simp),if_neg hm,if_pos List.mem_cons_self,mx_cons,ih]
   split <;> omega
  ·have h1' : ¬ m = x:=fun e=>h1 e.symm
   have hmem : (m ∈ x :: l) = (m ∈ l):=by simp [h1']
   simp only [hmem]
   by_cases h2 : x ∈ T
   ·rw [if_pos (by simp [h2]),if_pos h2,mx_cons,ih,mx_cons]
    split <;> omega
   ·rw [if_neg (by simp [h1,h2]),if_neg h2,ih]
theorem KJ.done (h : KI n g d R left out) (hd : R[d]? = some m) (hj : KJ n g R left out m c S) (hall : ∀ i,i < n→c i = (g i).count m) :
  KI n g (d + 1) (R ++ S) (fun i=>left i - c i) (fun i=>if 0 < c i then max (out i) (out m + 1) else out i):=by
 have hd1 : d < R.length:=(List.getElem?_eq_some_iff.1 hd).1
 have hm:=h.fresh hd
 have hmR : m ∈ R:=List.mem_of_getElem? hd
 have hmn:=h.lt m hmR
 have htake : (R ++ S).take (d + 1) = R.take d ++ [m]:=by
  rw [List.take_append_of_le_length (by omega),List.take_add_one,hd]; rfl
 have hRc : ∀ x,x ∈ R→c x = 0:=fun x hx=>by
  have h1:=h.lt x hx
  have h2:=(h.mem x h1).1 hx
  have h3:=h.count_le hd h1
  have:=hj.cle x h1
  omega
 have hleft : ∀ i,i < n→left i - c i = (notin (R.take d ++ [m]) (g i)).length:=fun i hi=>by
  rw [hall i hi,h.left i hi,notin_snoc hm]; omega
 refine ⟨?_,fun i hi=>?_,by simp; omega,fun i hi=>by rw [htake]; exact hleft i hi,fun i hi=>?_,fun i hi=>?_⟩
 ·rw [List.nodup_append]
  refine ⟨h.nod,hj.nod,fun a ha b hb=>?_⟩
  rintro rfl
  have:=((hj.mem a).1 hb).2.1
  have:=hRc a ha
  omega
 ·rcases List.mem_append.1 hi with q | q
  ·exact h.lt i q
  ·exact ((hj.mem i).1 q).1
 ·have hcl:=hj.cle i hi
  have hle:=h.count_le hd hi
  rw [List.mem_append,h.mem i hi,hj.mem i]
  constructor
  ·rintro (q | ⟨_,q,r⟩) <;> omega
  ·intro q
   by_cases e : c i = 0
   ·left; omega
   ·right; exact ⟨hi,by omega,by omega⟩
 ·rw [htake]
  have hout : ∀ x,x ∈ R→(fun i=>if 0 < c i then max (out i) (out m + 1) else out i) x = out x:=fun x hx=>by simp [hRc x hx]
  have e1 : mx (fun i=>if 0 < c i then max (out i) (out m + 1) else out i) (isin (R.take d ++ [m]) (g i)) = mx out (isin (R.take d ++ [m]) (g i)):=mx_congr fun x hx=>by
   refine hout x ?_
   unfold isin at hx
   have:=(List.mem_filter.1 hx).2
   simp only [List.contains_eq_mem,List.mem_append,List.mem_singleton,decide_eq_true_eq] at this
   rcases this with q | rfl
   ·exact List.mem_of_mem_take q
   ·exact hmR
  rw [e1,mx_isin_snoc hm,hall i hi,← h.out i hi]
  by_cases h3 : m ∈ g i
  ·rw [if_pos h3,if_pos (List.count_pos_iff.2 h3)]
  ·rw [if_neg h3,if_neg (fun q=>h3 (List.count_pos_iff.1 q))]
end Go.Proofs.YtcdfifbabhfknaaDoor
namespace Go.Proofs.YtcdfifbabhfknaaDoor
open Go
@[simp] theorem fanVs_length (c : Ci) : (fanVs c).length = c.n.length:=by simp [fanVs]
theorem pinL_le (w : Int) (i : Nat) : ∀ (l : List Int) (k : Nat),(pinL w i l k).length ≤ l.length
 | [],k=>by simp [pinL]
 | x :: l,k=>by
  have:=pinL_le w i l (k + 1)
  simp only [pinL]
  split <;> simp <;> omega
theorem rfanL_le (w : Int) (M : Nat) : ∀ (l : List Nd) (i : Nat),(∀ n ∈ l,n.i.length < M)→(rfanL w l i).length ≤ l.length * M
 | [],i,_=>by simp [rfanL]
 | x :: l,i,h=>by
  have h1:=rfanL_le w M l (i + 1) fun n hn=>h n (List.mem_cons_of_mem _ hn)
  have h2:=pinL_le w i x.i 0
  have h3:=h x List.mem_cons_self
  simp only [rfanL,List.length_append,List.length_cons,Nat.add_mul]
  omega
theorem fanVs_get (c : Ci) (i : Nat) (h : i < (fanVs c).length) : (fanVs c)[i] = linesV (rfanL (i : Int) c.n 0):=by simp [fanVs]
end Go.Proofs.YtcdfifbabhfknaaDoor
namespace Go.Proofs.YtcdfifbabhfknaaDoor
open Go
def combB (k : Int) : Bool:=decide (1 ≤ k∧k ≤ 13)
def Ci.nd (c : Ci) (i : Nat) : Nd:=c.n.getD i default
def Ci.g (c : Ci) (i : Nat) : List Nat:=if combB (c.nd i).k = true then (c.nd i).i.map Int.toNat else []
structure Ci.val (c : Ci) : Prop where
 i : ∀ j,j < c.n.length→∀ x ∈ (c.nd j).i,0 ≤ x∧x < c.n.length
 l : ∀ j,j < c.n.length→(c.nd j).i.length ≤ 16
theorem Ci.nd_get (c : Ci) {i : Nat} (h : i < c.n.length) : c.nd i = c.n[i]:=by simp [Ci.nd,h]
theorem Ci.val.g {c : Ci} (h : c.val) : ∀ i,i < c.n.length→∀ x ∈ c.g i,x < c.n.length:=by
 intro i hi x hx
 unfold Ci.g at hx
 split at hx
 ·obtain ⟨y,hy,rfl⟩:=List.mem_map.1 hx
  have:=h.i i hi y hy
  omega
 ·simp at hx
def pinP (w : Int) (i : Nat) : List Int→Nat→List (Nat × Nat)
 | [],_=>[]
 | x :: r,k=>if x = w then (i,k) :: pinP w i r (k + 1) else pinP w i r (k + 1)
def fanP (w : Int) : List Nd→Nat→List (Nat × Nat)
 | [],_=>[]
 | n :: r,i=>pinP w i n.i 0 ++ fanP w r (i + 1)
def lineP (p : Nat × Nat) : V:=lineV p.1 p.2
theorem pinL_P (w : Int) (i : Nat) : ∀ (l : List Int) (k : Nat),pinL w i l k = (pinP w i l k).map lineP
 | [],_=>rfl
 | x :: l,k=>by
  simp only [pinL,pinP]
  split <;> simp [pinL_P w i l (k + 1),lineP]
theorem rfanL_P (w : Int) : ∀ (l : List Nd) (i : Nat),rfanL w l i = (fanP w l i).map lineP
 | [],_=>rfl
 | x :: l,i=>by simp [rfanL,fanP,pinL_P,rfanL_P w l (i + 1)]
def linesAt (i : Nat) (l : List (Nat × Nat)) : Nat:=(l.filter fun p=>p.1 == i).length
theorem linesAt_app (i : Nat) (a b : List (Nat × Nat)) : linesAt i (a ++ b) = linesAt i a + linesAt i b:=by simp [linesAt]
theorem linesAt_cons (i : Nat) (p : Nat × Nat) (b : List (Nat × Nat)) : linesAt i (p :: b) = (if p.1 = i then 1 else 0) + linesAt i b:=by
 unfold linesAt
 by_cases h : p.1 = i
 ·simp [h]; omega
 ·simp [h]
theorem pinP_at (w : Int) (i j : Nat) : ∀ (l : List Int) (k : Nat),linesAt j (pinP w i l k) = if i = j then l.count w else 0
 | [],_=>by simp [pinP,linesAt]
 | x :: l,k=>by
  have ih:=pinP_at w i j l (k + 1)
  simp only [pinP,List.count_cons]
  by_cases h : x = w
  ·simp only [h,if_true,linesAt_cons,ih]
   by_cases e : i = j <;> simp [e]; omega
  ·simp only [h,if_false,ih]
   by_cases e : i = j <;> simp [e,h]
theorem fanP_at (w : Int) (j : Nat) : ∀ (l : List Nd) (i : Nat),linesAt j (fanP w l i) = if i ≤ j then ((l.getD (j - i) default).i).count w else 0
 | [],i=>by
  have : (default : Nd).i = []:=rfl
  simp [fanP,linesAt,this]
 | x :: l,i=>by
  simp only [fanP,linesAt_app,pinP_at,fanP_at w j l (i + 1)]
  by_cases h : i = j
  ·subst h; rw [if_pos rfl,if_neg (by omega),if_pos (Nat.le_refl _)]; simp
  ·by_cases h2 : i ≤ j
   ·rw [if_neg h,if_pos (by omega),if_pos h2]
    rw [show j - i = (j - (i + 1)) + 1 by omega]
    simp
   ·rw [if_neg h,if_neg (by omega),if_neg h2]
theorem pinP_mem (w : Int) (i : Nat) : ∀ (l : List Int) (k : Nat) (p : Nat × Nat),p ∈ pinP w i l k→p.1 = i
 | [],k,p,h=>by simp [pinP] at h
 | x :: l,k,p,h=>by
  simp only [pinP] at h
  split at h
  ·rcases List.mem_cons.1 h with rfl | h
   ·rfl
   ·exact pinP_mem w i l _ p h
  ·exact pinP_mem w i l _ p h
theorem fanP_mem (w : Int) : ∀ (l : List Nd) (i : Nat) (p : Nat × Nat),p ∈ fanP w l i→i ≤ p.1∧p.1 < i + l.length
 | [],i,p,h=>by simp [fanP] at h
 | x :: l,i,p,h=>by
  simp only [fanP,List.mem_append] at h
  rcases h with h | h
  ·have:=pinP_mem w i _ _ p h; simp; omega
  ·have:=fanP_mem w l _ p h; simp; omega
theorem count_toNat (m : Nat) : ∀ (l : List Int),(∀ x ∈ l,0 ≤ x)→(l.map Int.toNat).count m = l.count (m : Int)
 | [],_=>rfl
 | x :: l,h=>by
  have h1:=count_toNat m l fun y hy=>h y (List.mem_cons_of_mem _ hy)
  have h2:=h x List.mem_cons_self
  simp only [List.map_cons,List.count_cons,h1]
  by_cases e : x = (m : Int)
  ·subst e; simp
  ·have : ¬ x.toNat = m:=by omega
   simp [e,this]
def Ci.rem (c : Ci) (l : List (Nat × Nat)) (i : Nat) : Nat:=if combB (c.nd i).k = true then linesAt i l else 0
theorem Ci.rem_all {c : Ci} (h : c.val) (m : Nat) {i : Nat} (hi : i < c.n.length) : c.rem (fanP (m : Int) c.n 0) i = (c.g i).count m:=by
 unfold Ci.rem Ci.g
 split
 ·rw [fanP_at,count_toNat m _ fun x hx=>(h.i i hi x hx).1]
  simp [Ci.nd]
 ·simp
def acyc (c : Ci) : Prop:=∃ f,IsLv c.n.length c.g f
noncomputable def lvOf (c : Ci) : Nat→Nat:=Classical.epsilon fun f=>IsLv c.n.length c.g f
theorem acyc.lv {c : Ci} (h : acyc c) : IsLv c.n.length c.g (lvOf c):=Classical.epsilon_spec h
def natV (n : Nat) : V:=.int .i64 (n : Int)
def natsV (l : List Nat) : List V:=l.map natV
@[simp] theorem natsV_length (l : List Nat) : (natsV l).length = l.length:=by simp [natsV]
theorem natsV_pure (l : List Nat) : V.pureL (natsV l) = true:=pureL_map (fun _=>rfl) l
end Go.Proofs.YtcdfifbabhfknaaDoor
