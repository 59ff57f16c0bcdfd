/- Levels of a graph: the equations, their uniqueness, the bound. No program stands in it. Conditions: none. Netlists: contracts, the law Lists. Conditions: none. Netlists: contracts, Levels. Conditions: none. -/
import Derived.Test.YtlmniacemoohpaaGreatDoorBase13
import Derived.Test.YtlmniacemoohpaaGreatDoorNet2
set_option linter.all false
namespace Go.Proofs.YtlmniacemoohpaaGreatDoor
section
open Go
def tab {α:Type} (n:Nat) (f:Nat->α):List α:=(List.range n).map f
def qfi {α:Type} (f:Nat->α) (i:Nat) (v:α):Nat->α:=fun j=>if j = i then v else f j
@[simp] theorem qcu {α:Type} (f:Nat->α) (i:Nat) (v:α):qfi f i v i = v:=by simp [qfi]
theorem qa7 {α:Type} (f:Nat->α) {i j:Nat} (v:α) (h:j ≠ i):qfi f i v j = f j:=by simp [qfi,h]
@[simp] theorem q5z {α:Type} (n:Nat) (f:Nat->α):(tab n f).length = n:=by simp [tab]
theorem qa1 {α:Type} (n:Nat) (f:Nat->α) (i:Nat) (h:i < (tab n f).length):(tab n f)[i] = f i:=by simp [tab]
theorem qg2 {α:Type} {n:Nat} (f:Nat->α) {i:Nat} (h:i < n):(tab n f)[i]? = some (f i):=by simp [tab,h]
theorem qi4 {α:Type} (n:Nat) (f:Nat->α) (i:Nat) (v:α):(tab n f).set i v = tab n (qfi f i v):=by
 refine List.ext_getElem? fun j=>?_;rw [List.getElem?_set];unfold tab qfi;by_cases h:i = j
 ·subst h;by_cases h2:i < n <;> simp [h2]
 ·have h':¬ j = i:=fun e=>h e.symm;by_cases h2:j < n <;> simp [h,h',h2]
theorem qcg {α:Type} {n:Nat} {f g:Nat->α} (h:∀ i,i < n->f i = g i):tab n f = tab n g:=by
 unfold tab;exact List.map_congr_left fun i hi=>h i (by simpa using hi)
theorem qeh {α:Type} (n:Nat) (v:α):List.replicate n v = tab n fun _=>v:=by
 refine List.ext_getElem? fun j=>?_;by_cases h:j < n <;> simp [tab,h]
theorem qol {α β:Type} (n:Nat) (f:Nat->α) (h:α->β):(tab n f).map h = tab n fun i=>h (f i):=by simp [tab,Function.comp_def]
theorem qcd {n:Nat} {f:Nat->V} (h:∀ i,(f i).pure = true):jgy (tab n f) = true:=pureL_map h _
where pureL_map {f:Nat->V} (h:∀ i,(f i).pure = true) (l:List Nat):jgy (l.map f) = true:=V.pureL_map f l h
def qe4 (f:Nat->Nat):Nat->Nat
 | 0=>0
 | n + 1=>qe4 f n + f n
theorem qoj (f g:Nat->Nat):∀ n,qe4 (fun j=>f j + g j) n = qe4 f n + qe4 g n
 | 0=>rfl
 | n + 1=>by simp only [qe4,qoj f g n]; omega
theorem qve {f g:Nat->Nat} (h:∀ j,f j = g j) (n:Nat):qe4 f n = qe4 g n:=by rw [funext h]
theorem qll {f g:Nat->Nat}:∀ {n:Nat},(∀ j,j < n->f j = g j)->qe4 f n = qe4 g n
 | 0,_=>rfl
 | n + 1,h=>by simp only [qe4,qll (n:=n) fun j hj=>h j (by omega),h n (by omega)]
theorem qlm:∀ n,qe4 (fun _=>0) n = 0
 | 0=>rfl
 | n + 1=>by simp only [qe4,qlm n]
theorem qdk (k:Nat):∀ n,qe4 (fun _=>k) n = n * k
 | 0=>by simp [qe4]
 | n + 1=>by simp only [qe4,qdk k n,Nat.add_mul,Nat.one_mul]
theorem q4v (f:Nat->Nat) {a b:Nat} (h:a≤b):qe4 f a≤qe4 f b:=by
 induction b with
 | zero=>simp at h; subst h; exact ji5 _
 | succ b ih=>
  by_cases e:a = b + 1
  ·rw [e]; exact ji5 _
  ·simp only [qe4]; have:=ih (by omega); omega
theorem qfg {f g:Nat->Nat}:∀ {n:Nat},(∀ j,j < n->f j≤g j)->qe4 f n≤qe4 g n
 | 0,_=>ji5 _
 | n + 1,h=>by
  have h1:=qfg (n:=n) fun j hj=>h j (by omega);have h2:=h n (by omega);simp only [qe4]; omega
theorem qqr (f:Nat->Nat->Nat) (m:Nat):∀ n,qe4 (fun i=>qe4 (f i) m) n = qe4 (fun j=>qe4 (fun i=>f i j) n) m
 | 0=>by simp only [qe4,qlm]
 | n + 1=>by simp only [qe4,qqr f m n,qoj]
theorem qt0 (x:Int):∀ n,qe4 (fun j=>if x = (j:Int) then 1 else 0) n = if 0≤x/\x < n then 1 else 0
 | 0=>by simp only [qe4]; rw [if_neg (by omega)]
 | n + 1=>by
  simp only [qe4,qt0 x n];by_cases h:x = (n:Int)
  ·rw [if_pos h,if_neg (by omega),if_pos (by omega)]
  ·rw [if_neg h];by_cases h2:0≤x/\x < n
   ·rw [if_pos h2,if_pos (by omega)]
   ·rw [if_neg h2,if_neg (by omega)]
theorem qqq (x:Nat) (n:Nat):qe4 (fun j=>if x = j then 1 else 0) n = if x < n then 1 else 0:=by
 have:=qt0 (x:Int) n
 have e:(fun j:Nat=>if (x:Int) = (j:Int) then 1 else 0) = fun j:Nat=>if x = j then 1 else 0:=by
  funext j; by_cases h:x = j
  ·simp [h]
  ·rw [if_neg h,if_neg (by omega)]
 rw [e] at this;rw [this];by_cases h:x < n
 ·rw [if_pos h,if_pos (by omega)]
 ·rw [if_neg h,if_neg (by omega)]
theorem qyp {f:Nat->Nat} {n:Nat} (h1:∀ j,j < n->f j≤1) (h:n≤qe4 f n):∀ j,j < n->f j = 1:=by
 induction n with
 | zero=>intro j hj; omega
 | succ n ih=>
  have hle:=qfg (f:=f) (g:=fun _=>1) (n:=n) fun j hj=>h1 j (by omega);rw [qdk] at hle;have hn:=h1 n (by omega);simp only [qe4] at h;intro j hj;by_cases e:j = n
  ·subst e; omega
  ·exact ih (fun j hj=>h1 j (by omega)) (by omega) j (by omega)
theorem qfh {n:Nat}:∀ {R:List Nat},R.Nodup->(∀ i ∈ R,i < n)->qe4 (fun i=>if i ∈ R then 1 else 0) n = R.length
 | [],_,_=>by simpa using qlm n
 | x :: R,hn,hl=>by
  obtain ⟨h1,h2⟩:=List.nodup_cons.1 hn
  have e:∀ i,(if i ∈ x :: R then 1 else 0) = (if x = i then 1 else 0) + (if i ∈ R then 1 else 0):=by
   intro i;by_cases h:x = i
   ·subst h; simp [h1]
   ·have h':¬ i = x:=fun e=>h e.symm;simp [h,h']
  rw [qve e,qoj,qqq,if_pos (hl x List.mem_cons_self),qfh h2 fun i hi=>hl i (List.mem_cons_of_mem _ hi)];simp; omega
theorem qk7 {n:Nat} {R:List Nat} (hn:R.Nodup) (hl:∀ i ∈ R,i < n):R.length≤n:=by
 rw [<- qfh hn hl];have:=qfg (f:=fun i=>if i ∈ R then 1 else 0) (g:=fun _=>1) (n:=n) fun j _=>by split <;> omega
 rw [qdk] at this; omega
theorem qfc {n:Nat} {R:List Nat} (hn:R.Nodup) (hl:∀ i ∈ R,i < n) (h:n≤R.length):∀ i,i < n->i ∈ R:=by
 intro i hi;rw [<- qfh hn hl] at h;have:=qyp (fun j _=>by split <;> omega) h i hi;split at this
 ·assumption
 ·omega
def mx (f:Nat->Nat) (l:List Nat):Nat:=l.foldr (fun x m=>max (f x + 1) m) 0
@[simp] theorem mx_nil (f:Nat->Nat):mx f [] = 0:=rfl
@[simp] theorem qrw (f:Nat->Nat) (x:Nat) (l:List Nat):mx f (x :: l) = max (f x + 1) (mx f l):=rfl
theorem qpq {f:Nat->Nat} {x:Nat}:∀ {l:List Nat},x ∈ l->f x + 1≤mx f l
 | y :: l,h=>by
  rcases List.mem_cons.1 h with rfl | h
  ·simp; omega
  ·have:=qpq (f:=f) h; simp; omega
theorem q73 (f:Nat->Nat):∀ (l:List Nat),mx f l = 0∨∃ x ∈ l,mx f l = f x + 1
 | []=>.inl rfl
 | y :: l=>by
  right;rcases q73 f l with h | ⟨x,hx,h⟩
  ·exact ⟨y,List.mem_cons_self,by simp [h]⟩
  ·by_cases hc:f y + 1≤mx f l
   ·exact ⟨x,List.mem_cons_of_mem _ hx,by simp [<- h]; omega⟩
   ·exact ⟨y,List.mem_cons_self,by simp; omega⟩
theorem qid {f g:Nat->Nat}:∀ {l:List Nat},(∀ x ∈ l,f x = g x)->mx f l = mx g l
 | [],_=>rfl
 | y :: l,h=>by simp [h y List.mem_cons_self,qid (l:=l) fun x hx=>h x (List.mem_cons_of_mem _ hx)]
def qjz (n:Nat) (g:Nat->List Nat) (f:Nat->Nat):Prop:=∀ i,i < n->f i = mx f (g i)
variable {n:Nat} {g:Nat->List Nat} {f f':Nat->Nat}
theorem qjz.unique (hg:∀ i,i < n->∀ x ∈ g i,x < n) (h:qjz n g f) (h':qjz n g f'):∀ i,i < n->f i = f' i:=by
 have:∀ k i,i < n->f i≤k->f i = f' i:=by
  intro k
  induction k with
  | zero=>
   intro i hi hk;rw [h i hi] at hk ⊢
   have:g i = []:=by
    cases hgi:g i with
    | nil=>rfl
    | cons x l=>rw [hgi] at hk; simp at hk
   rw [h' i hi,this]; rfl
  | succ k ih=>
   intro i hi hk;rw [h i hi,h' i hi];refine qid fun x hx=>ih x (hg i hi x hx) ?_;have:=qpq (f:=f) hx;rw [h i hi] at hk;omega
 intro i hi;exact this _ i hi (ji5 _)
theorem qjz.below (hg:∀ i,i < n->∀ x ∈ g i,x < n) (h:qjz n g f):∀ k i,i < n->f i = k->∀ v,v≤k->∃ j,j < n/\f j = v:=by
 intro k
 induction k with
 | zero=>intro i hi hk v hv; exact ⟨i,hi,by omega⟩
 | succ k ih=>
  intro i hi hk v hv;by_cases e:v = k + 1
  ·exact ⟨i,hi,by omega⟩
  ·rcases q73 f (g i) with h0 | ⟨x,hx,h0⟩
   ·rw [<- h i hi] at h0; omega
   ·rw [<- h i hi] at h0;exact ih x (hg i hi x hx) (by omega) v (by omega)
theorem qjz.lt (hg:∀ i,i < n->∀ x ∈ g i,x < n) (h:qjz n g f):∀ i,i < n->f i < n:=by
 intro i hi
 have h1:∀ v,v < f i + 1->1≤qe4 (fun j=>if f j = v then 1 else 0) n:=by
  intro v hv;obtain ⟨j,hj,rfl⟩:=h.below hg (f i) i hi rfl v (by omega);have hle:=q4v (fun k=>if f k = f j then 1 else 0) (show j + 1≤n from hj);simp only [qe4,if_true] at hle;omega
 have h2:=qfg (f:=fun _=>1) (g:=fun v=>qe4 (fun j=>if f j = v then 1 else 0) n) h1;rw [qdk,qqr] at h2
 have h3:=qfg (f:=fun j=>qe4 (fun v=>if f j = v then 1 else 0) (f i + 1)) (g:=fun _=>1) (n:=n) fun j _=>by
  rw [qqq]; split <;> omega
 rw [qdk] at h3;omega
theorem qjz.none (h:qjz n g f) {S:Nat->Prop} (hS:∀ i,i < n->S i->∃ x ∈ g i,x < n/\S x):∀ i,i < n->¬ S i:=by
 have:∀ k i,i < n->f i≤k->¬ S i:=by
  intro k
  induction k with
  | zero=>
   intro i hi hk hs;obtain ⟨x,hx,_,_⟩:=hS i hi hs;have:=qpq (f:=f) hx;rw [h i hi] at hk; omega
  | succ k ih=>
   intro i hi hk hs;obtain ⟨x,hx,hxn,hsx⟩:=hS i hi hs;have:=qpq (f:=f) hx;rw [h i hi] at hk;exact ih x hxn (by omega) hsx
 intro i hi;exact this _ i hi (ji5 _)
def qn8 (T:List Nat) (l:List Nat):List Nat:=l.filter fun x=>!(T.contains x)
def qqy (T:List Nat) (l:List Nat):List Nat:=l.filter fun x=>T.contains x
structure KI (n:Nat) (g:Nat->List Nat) (d:Nat) (R:List Nat) (lf ou:Nat->Nat):Prop where
 nod:R.Nodup
 lt:∀ i ∈ R,i < n
 dle:d≤R.length
 left:∀ i,i < n->lf i = (qn8 (R.take d) (g i)).length
 mem:∀ i,i < n->(i ∈ R↔lf i = 0)
 out:∀ i,i < n->ou i = mx ou (qqy (R.take d) (g i))
variable {d:Nat} {R S:List Nat} {left out c:Nat->Nat} {m:Nat}
theorem qie {T l:List Nat}:(qn8 T l).length = 0↔∀ x ∈ l,x ∈ T:=by
 unfold qn8;rw [List.length_eq_zero_iff,List.filter_eq_nil_iff];simp
theorem qz3 {T l:List Nat} (h:∀ x ∈ l,x ∈ T):qqy T l = l:=by
 unfold qqy;rw [List.filter_eq_self];simpa using h
theorem KI.deps (h:KI n g d R left out) {i:Nat} (hi:i ∈ R):∀ x ∈ g i,x ∈ R.take d:=by
 have h1:=h.lt i hi;have h2:=(h.mem i h1).1 hi;rw [h.left i h1] at h2;exact qie.1 h2
theorem KI.full (h:KI n g R.length R left out) (hn:n≤R.length):qjz n g out:=by
 intro i hi;have hR:=qfc h.nod h.lt hn;rw [h.out i hi,qz3 fun x hx=>h.deps (hR i hi) x hx]
theorem KI.stuck (hg:∀ i,i < n->∀ x ∈ g i,x < n) (h:KI n g R.length R left out) (hn:R.length < n):¬ ∃ f,qjz n g f:=by
 rintro ⟨f,hf⟩
 have key:=hf.none (S:=fun i=>i ∉ R) fun i hi hs=>by
  have h1:left i ≠ 0:=fun e=>hs ((h.mem i hi).2 e);rw [h.left i hi,List.take_length] at h1;have h2:¬ ∀ x ∈ g i,x ∈ R:=fun q=>h1 (qie.2 q);simp only [Classical.not_forall] at h2;obtain ⟨x,hx,hxr⟩:=h2;exact ⟨x,hx,hg i hi x hx,hxr⟩
 have hall:∀ i,i < n->i ∈ R:=fun i hi=>Classical.not_not.1 (key i hi);have:qe4 (fun i=>if i ∈ R then 1 else 0) n = qe4 (fun _=>1) n:=qll fun j hj=>by rw [if_pos (hall j hj)]
 rw [qfh h.nod h.lt,qdk] at this;omega
structure KJ (n:Nat) (g:Nat->List Nat) (R:List Nat) (left out:Nat->Nat) (m:Nat) (c:Nat->Nat) (S:List Nat):Prop where
 cle:∀ i,i < n->c i≤(g i).count m
 nod:S.Nodup
 mem:∀ i,i ∈ S↔i < n/\0 < c i/\left i = c i
theorem KI.start (_h:KI n g d R left out):KJ n g R left out m (fun _=>0) []:=⟨fun _ _=>Nat.zero_le _,List.nodup_nil,by simp⟩
theorem qiw {T:List Nat} {m:Nat} (hm:m ∉ T):∀ l:List Nat,(qn8 T l).length = (qn8 (T ++ [m]) l).length + l.count m
 | []=>rfl
 | x :: l=>by
  have ih:=qiw hm l;unfold qn8 at ih ⊢;simp only [List.filter_cons,List.contains_eq_mem,List.mem_append,List.mem_singleton,List.count_cons] at ih ⊢;by_cases h1:x = m
  ·subst h1; simp [hm] at ih ⊢; omega
  ·by_cases h2:x ∈ T <;> simp [h1,h2] at ih ⊢ <;> omega
theorem KI.count_le (h:KI n g d R left out) (hd:R[d]? = some m) {i:Nat} (hi:i < n):(g i).count m≤left i:=by
 have hm:m ∉ R.take d:=by
  intro hx;obtain ⟨k,hk,hkm⟩:=List.getElem_of_mem hx;obtain ⟨hd1,hd2⟩:=List.getElem?_eq_some_iff.1 hd;simp at hk;exact (List.pairwise_iff_getElem.1 h.nod) k d (by omega) hd1 (by omega) (by rw [hd2,<- hkm]; simp)
 rw [h.left i hi,qiw hm]; omega
theorem KI.fresh (h:KI n g d R left out) (hd:R[d]? = some m):m ∉ R.take d:=by
 intro hx;obtain ⟨k,hk,hkm⟩:=List.getElem_of_mem hx;obtain ⟨hd1,hd2⟩:=List.getElem?_eq_some_iff.1 hd;simp at hk;exact (List.pairwise_iff_getElem.1 h.nod) k d (by omega) hd1 (by omega) (by rw [hd2,<- hkm]; simp)
theorem KJ.step (h:KJ n g R left out m c S) {i:Nat} (hi:i < n) (hc:c i < (g i).count m) (hle:(g i).count m≤left i) :
  KJ n g R left out m (qfi c i (c i + 1)) (if left i - (c i + 1) = 0 then S ++ [i] else S):=by
 have hnot:left i ≠ c i:=by omega
 refine ⟨fun j hj=>?_,?_,fun j=>?_⟩
 ·by_cases e:j = i
  ·subst e; simp; omega
  ·rw [qa7 _ _ e]; exact h.cle j hj
 ·split
  ·rw [List.nodup_append];refine ⟨h.nod,by simp,fun a ha b hb=>?_⟩;simp at hb; subst hb;rintro rfl;exact hnot ((h.mem a).1 ha).2.2
  ·exact h.nod
 ·have hi':i ∉ S:=fun hm=>hnot ((h.mem i).1 hm).2.2;by_cases e:j = i
  ·subst e;rw [qcu];split
   ·simp [hi]; omega
   ·simp [hi',hi]; omega
  ·rw [qa7 _ _ e];split
   ·simp [e,h.mem j]
   ·exact h.mem j
theorem qpo (T:List Nat) (x:Nat) (l:List Nat):qqy T (x :: l) = if x ∈ T then x :: qqy T l else qqy T l:=by
 unfold qqy;by_cases h:x ∈ T <;> simp [h]
theorem qjj {T:List Nat} {m:Nat} (hm:m ∉ T) (f:Nat->Nat):∀ l:List Nat,mx f (qqy (T ++ [m]) l) = if m ∈ l then max (mx f (qqy T l)) (f m + 1) else mx f (qqy T l)
 | []=>by simp [qqy]
 | x :: l=>by
  have ih:=qjj hm f l;rw [qpo,qpo];by_cases h1:x = m
  ·subst h1;rw [if_pos (by simp),if_neg hm,if_pos List.mem_cons_self,qrw,ih];split <;> omega
  ·have h1':¬ m = x:=fun e=>h1 e.symm;have hmem:(m ∈ x :: l) = (m ∈ l):=by simp [h1']
   simp only [hmem];by_cases h2:x ∈ T
   ·rw [if_pos (by simp [h2]),if_pos h2,qrw,ih,qrw];split <;> omega
   ·rw [if_neg (by simp [h1,h2]),if_neg h2,ih]
theorem KJ.done (h:KI n g d R left out) (hd:R[d]? = some m) (hj:KJ n g R left out m c S) (hall:∀ i,i < n->c i = (g i).count m) :
  KI n g (d + 1) (R ++ S) (fun i=>left i - c i) (fun i=>if 0 < c i then max (out i) (out m + 1) else out i):=by
 have hd1:d < R.length:=(List.getElem?_eq_some_iff.1 hd).1;have hm:=h.fresh hd;have hmR:m ∈ R:=List.mem_of_getElem? hd;have hmn:=h.lt m hmR
 have htake:(R ++ S).take (d + 1) = R.take d ++ [m]:=by
  rw [List.take_append_of_le_length (by omega),List.take_add_one,hd]; rfl
 have hRc:∀ x,x ∈ R->c x = 0:=fun x hx=>by
  have h1:=h.lt x hx;have h2:=(h.mem x h1).1 hx;have h3:=h.count_le hd h1;have:=hj.cle x h1;omega
 have hleft:∀ i,i < n->left i - c i = (qn8 (R.take d ++ [m]) (g i)).length:=fun i hi=>by
  rw [hall i hi,h.left i hi,qiw hm]; omega
 refine ⟨?_,fun i hi=>?_,by simp; omega,fun i hi=>by rw [htake]; exact hleft i hi,fun i hi=>?_,fun i hi=>?_⟩
 ·rw [List.nodup_append];refine ⟨h.nod,hj.nod,fun a ha b hb=>?_⟩;rintro rfl;have:=((hj.mem a).1 hb).2.1;have:=hRc a ha;omega
 ·rcases List.mem_append.1 hi with q | q
  ·exact h.lt i q
  ·exact ((hj.mem i).1 q).1
 ·have hcl:=hj.cle i hi;have hle:=h.count_le hd hi;rw [List.mem_append,h.mem i hi,hj.mem i];constructor
  ·rintro (q | ⟨_,q,r⟩) <;> omega
  ·intro q;by_cases e:c i = 0
   ·left; omega
   ·right; exact ⟨hi,by omega,by omega⟩
 ·rw [htake];have hout:∀ x,x ∈ R->(fun i=>if 0 < c i then max (out i) (out m + 1) else out i) x = out x:=fun x hx=>by simp [hRc x hx]
  have e1:mx (fun i=>if 0 < c i then max (out i) (out m + 1) else out i) (qqy (R.take d ++ [m]) (g i)) = mx out (qqy (R.take d ++ [m]) (g i)):=qid fun x hx=>by
   refine hout x ?_;unfold qqy at hx;have:=(List.mem_filter.1 hx).2;simp only [List.contains_eq_mem,List.mem_append,List.mem_singleton,decide_eq_true_eq] at this;rcases this with q | rfl
   ·exact List.mem_of_mem_take q
   ·exact hmR
  rw [e1,qjj hm,hall i hi,<- h.out i hi];by_cases h3:m ∈ g i
  ·rw [if_pos h3,if_pos (List.count_pos_iff.2 h3)]
  ·rw [if_neg h3,if_neg (fun q=>h3 (List.count_pos_iff.1 q))]
end
section
open Go
theorem qkv {sz:Nat} {xs:List V} {v:V} {h:Hp} (hf:qls sz xs v h):(xs = []/\v = .sl [] (some 0)/\h = [])∨qvs sz xs (some xs.length) v h:=hf
theorem jfl (c:Ci) (ks:List Int) (cap:Option Nat) (hl:c.n.length < 1000000) (hk:ks.length < 1000000000000):qch Tryz.prog gl0 91 [c.v,.sl (ks.map (.int .u8)) cap] (qvs 1 (qq0 ks c.n 0) (some (qq0 ks c.n 0).length)):=
 qch.one (jfm c ks cap hl hk) fun _ _ h=>qkv h
@[simp] theorem q1i (c:Ci):(qnp c).length = c.n.length:=by simp [qnp]
theorem qxz (w:Int) (i:Nat):∀ (l:List Int) (k:Nat),(qrz w i l k).length≤l.length
 | [],k=>by simp [qrz]
 | x :: l,k=>by
  have:=qxz w i l (k + 1);simp only [qrz];split <;> simp <;> omega
theorem qoe (w:Int) (M:Nat):∀ (l:List Nd) (i:Nat),(∀ n ∈ l,n.i.length < M)->(qg5 w l i).length≤l.length * M
 | [],i,_=>by simp [qg5]
 | x :: l,i,h=>by
  have h1:=qoe w M l (i + 1) fun n hn=>h n (List.mem_cons_of_mem _ hn);have h2:=qxz w i x.i 0;have h3:=h x List.mem_cons_self;simp only [qg5,List.length_append,List.length_cons,Nat.add_mul];omega
theorem qwq (c:Ci) (i:Nat) (h:i < (qnp c).length):(qnp c)[i] = qk2 (qg5 (i:Int) c.n 0):=by simp [qnp]
end
section
open Go
def qjs (k:Int):Bool:=decide (1≤k/\k≤13)
def Ci.nd (c:Ci) (i:Nat):Nd:=c.n.getD i default
def Ci.g (c:Ci) (i:Nat):List Nat:=if qjs (c.nd i).k = true then (c.nd i).i.map Int.toNat else []
structure Ci.val (c:Ci):Prop where
 i:∀ j,j < c.n.length->∀ x ∈ (c.nd j).i,0≤x/\x < c.n.length
 l:∀ j,j < c.n.length->(c.nd j).i.length≤16
theorem Ci.nd_get (c:Ci) {i:Nat} (h:i < c.n.length):c.nd i = c.n[i]:=by simp [Ci.nd,h]
theorem Ci.val.g {c:Ci} (h:c.val):∀ i,i < c.n.length->∀ x ∈ c.g i,x < c.n.length:=by
 intro i hi x hx;unfold Ci.g at hx;split at hx
 ·obtain ⟨y,hy,rfl⟩:=List.mem_map.1 hx;have:=h.i i hi y hy;omega
 ·simp at hx
def qx0 (w:Int) (i:Nat):List Int->Nat->List (Nat × Nat)
 | [],_=>[]
 | x :: r,k=>if x = w then (i,k) :: qx0 w i r (k + 1) else qx0 w i r (k + 1)
def qsx (w:Int):List Nd->Nat->List (Nat × Nat)
 | [],_=>[]
 | n :: r,i=>qx0 w i n.i 0 ++ qsx w r (i + 1)
def qxa (p:Nat × Nat):V:=qia p.1 p.2
theorem q1x (w:Int) (i:Nat):∀ (l:List Int) (k:Nat),qrz w i l k = (qx0 w i l k).map qxa
 | [],_=>rfl
 | x :: l,k=>by
  simp only [qrz,qx0];split <;> simp [q1x w i l (k + 1),qxa]
theorem qr3 (w:Int):∀ (l:List Nd) (i:Nat),qg5 w l i = (qsx w l i).map qxa
 | [],_=>rfl
 | x :: l,i=>by simp [qg5,qsx,q1x,qr3 w l (i + 1)]
def qdb (i:Nat) (l:List (Nat × Nat)):Nat:=(l.filter fun p=>p.1 == i).length
theorem qrm (i:Nat) (a b:List (Nat × Nat)):qdb i (a ++ b) = qdb i a + qdb i b:=by simp [qdb]
theorem qeq (i:Nat) (p:Nat × Nat) (b:List (Nat × Nat)):qdb i (p :: b) = (if p.1 = i then 1 else 0) + qdb i b:=by
 unfold qdb;by_cases h:p.1 = i
 ·simp [h]; omega
 ·simp [h]
theorem qx1 (w:Int) (i j:Nat):∀ (l:List Int) (k:Nat),qdb j (qx0 w i l k) = if i = j then l.count w else 0
 | [],_=>by simp [qx0,qdb]
 | x :: l,k=>by
  have ih:=qx1 w i j l (k + 1);simp only [qx0,List.count_cons];by_cases h:x = w
  ·simp only [h,if_true,qeq,ih];by_cases e:i = j <;> simp [e]; omega
  ·simp only [h,if_false,ih];by_cases e:i = j <;> simp [e,h]
theorem qwp (w:Int) (j:Nat):∀ (l:List Nd) (i:Nat),qdb j (qsx w l i) = if i≤j then ((l.getD (j - i) default).i).count w else 0
 | [],i=>by
  have:(default:Nd).i = []:=rfl;simp [qsx,qdb,this]
 | x :: l,i=>by
  simp only [qsx,qrm,qx1,qwp w j l (i + 1)];by_cases h:i = j
  ·subst h; rw [if_pos rfl,if_neg (by omega),if_pos (ji5 _)]; simp
  ·by_cases h2:i≤j
   ·rw [if_neg h,if_pos (by omega),if_pos h2];rw [show j - i = (j - (i + 1)) + 1 by omega];simp
   ·rw [if_neg h,if_neg (by omega),if_neg h2]
theorem qob (w:Int) (i:Nat):∀ (l:List Int) (k:Nat) (p:Nat × Nat),p ∈ qx0 w i l k->p.1 = i
 | [],k,p,h=>by simp [qx0] at h
 | x :: l,k,p,h=>by
  simp only [qx0] at h;split at h
  ·rcases List.mem_cons.1 h with rfl | h
   ·rfl
   ·exact qob w i l _ p h
  ·exact qob w i l _ p h
theorem qsy (w:Int):∀ (l:List Nd) (i:Nat) (p:Nat × Nat),p ∈ qsx w l i->i≤p.1/\p.1 < i + l.length
 | [],i,p,h=>by simp [qsx] at h
 | x :: l,i,p,h=>by
  simp only [qsx,List.mem_append] at h;rcases h with h | h
  ·have:=qob w i _ _ p h; simp; omega
  ·have:=qsy w l _ p h; simp; omega
theorem qkn (m:Nat):∀ (l:List Int),(∀ x ∈ l,0≤x)->(l.map Int.toNat).count m = l.count (m:Int)
 | [],_=>rfl
 | x :: l,h=>by
  have h1:=qkn m l fun y hy=>h y (List.mem_cons_of_mem _ hy);have h2:=h x List.mem_cons_self;simp only [List.map_cons,List.count_cons,h1];by_cases e:x = (m:Int)
  ·subst e; simp
  ·have:¬ x.toNat = m:=by omega
   simp [e,this]
def Ci.rem (c:Ci) (l:List (Nat × Nat)) (i:Nat):Nat:=if qjs (c.nd i).k = true then qdb i l else 0
theorem Ci.rem_all {c:Ci} (h:c.val) (m:Nat) {i:Nat} (hi:i < c.n.length):c.rem (qsx (m:Int) c.n 0) i = (c.g i).count m:=by
 unfold Ci.rem Ci.g;split
 ·rw [qwp,qkn m _ fun x hx=>(h.i i hi x hx).1];simp [Ci.nd]
 ·simp
def qyz (c:Ci):Prop:=∃ f,qjz c.n.length c.g f
noncomputable def qos (c:Ci):Nat->Nat:=Classical.epsilon fun f=>qjz c.n.length c.g f
theorem qyz.lv {c:Ci} (h:qyz c):qjz c.n.length c.g (qos c):=Classical.epsilon_spec h
def qab (n:Nat):V:=.int .i64 (n:Int)
def qah (l:List Nat):List V:=l.map qab
@[simp] theorem qjk (l:List Nat):(qah l).length = l.length:=by simp [qah]
theorem qav (l:List Nat):jgy (qah l) = true:=pureL_map (fun _=>rfl) l
end
section
open Go
theorem qtt (k:Int):qac Tryz.prog gl0 53 [.int .u8 k] (.bool (qjs k)):=q1e k
open Classical in
noncomputable def qup (c:Ci) (e:Int):V:=if e ≠ 0 then .tup [.nil,.int .i64 e] else if qyz c then .tup [.sl (tab c.n.length fun i=>qab (qos c i)) (some c.n.length),.int .i64 0] else .tup [.nil,.int .i64 6]
def qh9 (c:Ci) (i:Nat):Nat->Nat:=fun j=>if j < i then (c.g j).length else 0
theorem qbg (x:Nat) (h:x < 1000000000000000000):IntKind.i64.wrap ((x:Int) + 1) = ((x + 1:Nat):Int):=by rw [qaq] <;> omega
theorem qmm {c:Ci} {i:Nat} {v:Nat} (hv:v = (c.g i).length) (n:Nat):tab n (qfi (fun j=>V.int .i64 (qh9 c i j:Int)) i (.int .i64 (v:Int))) = tab n fun j=>V.int .i64 (qh9 c (i + 1) j:Int):=by
 refine qcg fun j _=>?_;by_cases e:j = i
 ·subst e; simp [qh9,hv]
 ·rw [qa7 _ _ e];unfold qh9;by_cases h:j < i
  ·rw [if_pos h,if_pos (by omega)]
  ·rw [if_neg h,if_neg (by omega)]
theorem qui {c:Ci} {i:Nat} (hv:(c.g i).length = 0) (n:Nat):(tab n fun j=>V.int .i64 (qh9 c i j:Int)) = tab n fun j=>V.int .i64 (qh9 c (i + 1) j:Int):=by
 rw [<- qmm (v:=0) hv.symm n];refine qcg fun j _=>?_;by_cases e:j = i
 ·subst e; simp [qh9]
 ·rw [qa7 _ _ e]
theorem qdj (i:Nat) (p:Nat->Bool):(List.range (i + 1)).filter p = (List.range i).filter p ++ if p i = true then [i] else []:=by
 rw [List.range_succ,List.filter_append];by_cases h:p i = true <;> simp [h]
theorem qgm (a b:List Nat):qah (a ++ b) = qah a ++ qah b:=by simp [qah]
theorem qs0 (h:Hp) (n:Nat) (a:V) (k:IntKind) (i:Int):frz h n (.tup [a,.int k i]) = .tup [frz h n a,.int k i]:=by
 cases n <;> simp [frz]
theorem qwu {h:Hp} {m b g n sz:Nat} {cap:Option Nat} {f:Nat->V} (hb:lk h b = some (.row g sz (tab n f))) (hf:∀ i,(f i).pure = true):frz h (m + 1) (.ref b g 0 n cap) = .sl (tab n f) cap:=by
 rw [qcq hb (by simp),List.drop_zero,ji2 (by simp),qex _ _ (qcd hf)]
def qvn (out:Nat->Nat) (m:Nat) (cc:Nat->Nat) (i:Nat):Nat:=if 0 < cc i then max (out i) (out m + 1) else out i
structure LJ where
 k:Nat
 ga:Nat
 l:List V
 S:List Nat
 cc:Nat->Nat
structure LS where
 d:Nat
 acc:Option (Nat × List V)
 R:List Nat
 left:Nat->Nat
 out:Nat->Nat
theorem qz7 (c:Ci) (e:Int) (hsh:qac Tryz.prog gl0 132 [c.v] (.int .i64 e)) (hv:e = 0->c.val) (hl:e = 0->c.n.length < 1000000):qac Tryz.prog gl0 87 [c.v] (qup c e):=by
 obtain ⟨q,hq⟩:∃ r,qup c e = r:=⟨_,rfl⟩;rw [hq];unfold qup at hq;refine jiu 2 ok87 rfl ?_;simp [i87,x87,Ci.v];intro gf;refine jir hsh (by simp) ?_;simp;refine jis (fun he=>?_) (fun he=>?_)
 ·have he0:e = 0:=by simpa using he
  rw [if_neg (by simpa using he0)] at hq;have hv:=hv he0;have hl:=hl he0;have hle:c.n.length≤549755813888:=by omega
  simp [hle];intro gf2 gf3;generalize gf 1 = g1;generalize gf2 23 = g23;generalize gf3 27 = g27;clear gf gf2 gf3
  refine jit (X:=Nat × Option (Nat × List V)) (fun x=>[(31,qab x.1),(30,qab c.n.length),(29,.sl (c.n.map Nd.v) none),(7,qbj 53 x.2),(6,.ref 27 g27 0 c.n.length (some c.n.length)),(5,.ref 23 g23 0 c.n.length (some c.n.length)),(1,.ptr 1 g1 0 0)])
   (fun x=>(27,.row g27 1 (tab c.n.length fun j=>qab (qh9 c x.1 j))) :: (23,.row g23 1 (tab c.n.length fun _=>qab 0)) :: (1,.row g1 4 [c.v]) :: qbo 53 1 x.2)
   (fun x=>x.1≤c.n.length/\(x.2 = none∨qau x.2 ≠ [])/\qau x.2 = qah ((List.range x.1).filter fun j=>(c.g j).length == 0)) (fun x=>c.n.length - x.1) (0,none) ?_ ?_ ?_ ?_
  ·exact ⟨by simp,.inl rfl,rfl⟩
  ·simp [qbj,qab]
  ·simp [qbo,qeh,qab,qh9,Ci.v]
  ·rintro ⟨i,acc⟩ ⟨h1,h2,h3⟩;dsimp only at h1 h2 h3;simp [qab,Ci.v];refine jis (fun hb=>?_) (fun hb=>?_)
   ·have hi:i < c.n.length:=jiy hb;have hw:=qbg i (by omega);simp [hi,Nd.v];intro gf9;generalize gf9 9 = g9;refine jir (qtt _) (by simp) ?_;simp;have hga:∀ b,qjs c.n[i].k = b->c.g i = if b = true then c.n[i].i.map Int.toNat else []:=fun b hb=>by unfold Ci.g; rw [Ci.nd_get c hi,hb]
    have hlen3:(qau acc).length≤i:=by
     rw [h3,qjk];exact Nat.le_trans (List.length_filter_le _ _) (by simp)
    refine jis (fun hk=>?_) (fun hk=>?_)
    ·have hgl:c.n[i].i.length = (c.g i).length:=by rw [hga _ hk]; simp
     simp [hi,qa1,qi4,qmm hgl];have hla:qh9 c (i + 1) i = (c.g i).length:=by simp [qh9]
     refine jis (fun hz=>?_) (fun hz=>?_)
     ·have hz0:(c.g i).length = 0:=by rw [<- hla]; exact jiy hz
      have hR:qah ((List.range (i + 1)).filter fun j=>(c.g j).length == 0) = qau acc ++ [qab i]:=by rw [qdj,if_pos (by simpa using hz0),qgm,h3]; rfl
      cases acc with
      | none=>
       simp [qbj,qbo,hw];refine fun gf1 gf2=>⟨i + 1,some (gf2 53,[qab i]),?_⟩;simp [qau,qab] at hR ⊢;exact ⟨⟨hi,hR.symm⟩,by omega⟩
      | some gl=>
       obtain ⟨g,l⟩:=gl;simp only [qau] at hlen3 h3 hR;have hle2:l.length + 1≤274877906944:=by omega
       simp [qbj,qbo,hw,hle2];refine fun gf1 gf2=>⟨i + 1,some (gf2 53,l ++ [qab i]),?_⟩;simp [qau,qab] at hR ⊢;exact ⟨⟨hi,hR.symm⟩,by omega⟩
     ·have hz0:(c.g i).length ≠ 0:=by rw [<- hla]; exact jiz hz
      have hR:qah ((List.range (i + 1)).filter fun j=>(c.g j).length == 0) = qau acc:=by rw [qdj,if_neg (by simpa using hz0),List.append_nil,h3]
      simp [hw];exact ⟨i + 1,acc,⟨hi,h2,hR.symm⟩,⟨rfl,rfl⟩,by cases acc <;> simp [qbo],by omega⟩
    ·have hgl:(c.g i).length = 0:=by rw [hga _ hk]; simp
     have hR:qah ((List.range (i + 1)).filter fun j=>(c.g j).length == 0) = qau acc ++ [qab i]:=by rw [qdj,if_pos (by simpa using hgl),qgm,h3]; rfl
     simp only [qui hgl];have hla:qh9 c (i + 1) i = 0:=by simp [qh9,hgl]
     cases acc with
     | none=>
      simp [hi,qa1,hla,qbj,qbo,hw];refine fun gf1 gf2=>⟨i + 1,some (gf2 53,[qab i]),?_⟩;simp [qau,qab] at hR ⊢;exact ⟨⟨hi,hR.symm⟩,by omega⟩
     | some gl=>
      obtain ⟨g,l⟩:=gl;simp only [qau] at hlen3 h3 hR;have hle2:l.length + 1≤274877906944:=by omega
      simp [hi,qa1,hla,qbj,qbo,hw,hle2];refine fun gf1 gf2=>⟨i + 1,some (gf2 53,l ++ [qab i]),?_⟩;simp [qau,qab] at hR ⊢;exact ⟨⟨hi,hR.symm⟩,by omega⟩
   ·have hi:i = c.n.length:=by have:=jiz hb; omega
    subst hi;simp
    have hin:∀ x ∈ c.n,x.i.length < 17:=fun x hx=>by
     obtain ⟨j,hj,rfl⟩:=List.getElem_of_mem hx;have:=hv.l j hj;rw [c.nd_get hj] at this;omega
    refine jir (qzq c hl (fun x hx=>by have:=hin x hx; omega) fun j=>?_) (by simp) ?_
    ·have:=qoe j 17 c.n 0 hin;omega
    simp
    have hK:KI c.n.length c.g 0 ((List.range c.n.length).filter fun j=>(c.g j).length == 0) (fun j=>(c.g j).length) (fun _=>0):=by
     refine ⟨List.nodup_range.filter _,fun j hj=>by simpa using (List.mem_filter.1 hj).1,Nat.zero_le _,fun j hj=>?_,fun j hj=>by simp [hj],fun j hj=>?_⟩
     ·have:qn8 (List.take 0 ((List.range c.n.length).filter fun j=>(c.g j).length == 0)) (c.g j) = c.g j:=by unfold qn8; rw [List.filter_eq_self]; simp
      rw [this]
     ·have:qqy (List.take 0 ((List.range c.n.length).filter fun j=>(c.g j).length == 0)) (c.g j) = []:=by unfold qqy; rw [List.filter_eq_nil_iff]; simp
      rw [this]; rfl
    refine jit (X:=LS) (fun x=>[(11,qab x.d),(10,.sl (qnp c) (some c.n.length)),(7,qbj 53 x.acc),(6,.ref 27 g27 0 c.n.length (some c.n.length)),(5,.ref 23 g23 0 c.n.length (some c.n.length)),(1,.ptr 1 g1 0 0)])
     (fun x=>(27,.row g27 1 (tab c.n.length fun j=>qab (x.left j))) :: (23,.row g23 1 (tab c.n.length fun j=>qab (x.out j))) :: (1,.row g1 4 [c.v]) :: qbo 53 1 x.acc)
     (fun x=>(x.acc = none∨qau x.acc ≠ [])/\qau x.acc = qah x.R/\KI c.n.length c.g x.d x.R x.left x.out/\∀ j,j < c.n.length->x.out j≤x.d) (fun x=>c.n.length - x.d) ⟨0,acc,_,_,_⟩ ⟨h2,h3,hK,fun j hj=>ji5 _⟩ ?_ ?_ ?_
    ·simp [qab]
    ·refine ⟨?_,by simp [qab],by simp [Ci.v],by cases acc <;> simp [qbo]⟩;simp [qab];exact qcg fun j hj=>by simp [qh9,hj]
    clear h1 h2 h3 hK hb acc;rintro ⟨d,acc,R,left,out⟩ ⟨h2,h3,hK,hout⟩;dsimp only at h2 h3 hK hout;have hRlen:(qau acc).length = R.length:=by rw [h3]; simp
    have hRn:=qk7 hK.nod hK.lt;have hdle:=hK.dle
    have hstuck:d = R.length->d < c.n.length->V.tup [.nil,.int .i64 6] = q:=fun h1 h2=>by
     subst h1;rw [<- hq]; exact (if_neg (hK.stuck hv.g h2)).symm
    have hfull:d = R.length->¬ d < c.n.length->V.tup [.sl (tab c.n.length fun j=>qab (out j)) (some c.n.length),.int .i64 0] = q:=fun h1 h2=>by
     subst h1;have hlv:=hK.full (by omega);have hac:qyz c:=⟨out,hlv⟩;rw [<- hq];refine Eq.trans ?_ (if_pos hac).symm;congr 3;exact qcg fun j hj=>by rw [hlv.unique hv.g hac.lv j hj]
    cases acc with
    | none=>
     have hR0:R = []:=by simp [qau] at hRlen; exact List.length_eq_zero_iff.1 hRlen.symm
     have hd0:d = R.length:=by subst hR0; simp at hdle; simp [hdle]
     subst hR0;simp at hd0;subst hd0;simp [qab,qbj,Ci.v];refine jis (fun hb=>?_) (fun hb=>?_)
     ·have:=hstuck rfl (jiy hb);simpa using this
     ·have:=hfull rfl (jiz hb);simp [-frz];rw [qs0,qwu (f:=fun j=>qab (out j)) (sz:=1) (g:=g23) (by simp [qab]) (fun _=>rfl)];exact this
    | some gl=>
     obtain ⟨ga,l⟩:=gl;simp only [qau] at hRlen h3 h2;simp [qab,qbj,qbo];refine jis (fun hb=>?_) (fun hb=>?_)
     ·have hd:d < R.length:=by have:=jiy hb; omega
      obtain ⟨m,hm⟩:∃ m,R[d]? = some m:=⟨_,ji4 hd⟩;have hmR:m ∈ R:=List.mem_of_getElem? hm;have hmn:=hK.lt m hmR;have hld:d < l.length:=by omega
      have hlm:l[d] = qab m:=by
       have:l[d]? = some (qab m):=by rw [h3]; simp [qah,hm]
       rw [ji4 hld] at this;exact Option.some.inj this
      have hwd:=qbg d (by omega);have hfg:=qwq c m (by simpa using hmn);rw [qr3] at hfg;simp [hld,hlm,qab,hwd,hmn,hfg,qk2];have hcnt:∀ i,i < c.n.length->c.rem (qsx (m:Int) c.n 0) i = (c.g i).count m:=fun i hi=>c.rem_all hv m hi;have hmem:∀ p ∈ qsx (m:Int) c.n 0,p.1 < c.n.length:=fun p hp=>by have:=qsy _ _ _ p hp; omega
      have hLl:(qsx (m:Int) c.n 0).length≤1000000000:=by
       have:=qoe (m:Int) 17 c.n 0 hin;rw [qr3,List.length_map] at this;omega
      generalize qsx (m:Int) c.n 0 = P at hcnt hmem hLl hfg ⊢;refine jis (fun hz=>?_) (fun hz=>?_)
      ·have hP:P = []:=jiy hz;have hdone:=KJ.done hK hm hK.start fun i hi=>by rw [<- hcnt i hi,hP]; simp [Ci.rem,qdb]
       simp at hdone;simp;exact ⟨⟨d + 1,some (ga,l),R,left,out⟩,⟨.inr (by simpa [qau] using h2),h3,hdone,fun j hj=>by have:=hout j hj; simp only; omega⟩,by simp,by simp,by simp only; omega⟩
      ·simp [hmn,hfg,qk2]
       refine jit (X:=LJ) (fun x=>[(78,qab x.k),(77,qab P.length),(76,.sl (P.map qxa) (some P.length)),(12,qab m),(11,qab (d + 1)),(10,.sl (qnp c) (some c.n.length)),(7,.ref 53 x.ga 0 x.l.length none),(6,.ref 27 g27 0 c.n.length (some c.n.length)),(5,.ref 23 g23 0 c.n.length (some c.n.length)),(1,.ptr 1 g1 0 0)])
        (fun x=>[(27,.row g27 1 (tab c.n.length fun j=>qab (left j - x.cc j))),(23,.row g23 1 (tab c.n.length fun j=>qab (qvn out m x.cc j))),(1,.row g1 4 [c.v]),(53,.row x.ga 1 x.l)])
        (fun x=>x.k≤P.length/\x.l = qah (R ++ x.S)/\KJ c.n.length c.g R left out m x.cc x.S/\∀ i,i < c.n.length->x.cc i + c.rem (P.drop x.k) i = (c.g i).count m) (fun x=>P.length - x.k) ⟨0,ga,l,[],fun _=>0⟩ ?_ ?_ ?_ ?_
       ·exact ⟨Nat.zero_le _,by simpa using h3,hK.start,fun i hi=>by simpa using hcnt i hi⟩
       ·simp [qab]
       ·simp [qab,qvn]
       clear hld hlm h3 h2 hRlen hb;rintro ⟨k,ga,l,S,cc⟩ ⟨h4,h5,h6,h7⟩;dsimp only at h4 h5 h6 h7;simp [qab];refine jis (fun hb=>?_) (fun hb=>?_)
       ·have hk:k < P.length:=jiy hb;have hwk:=qbg k (by omega);have hi:=hmem _ (ji3 hk);simp [hk,qxa,qia,hi,Nd.v,Ci.v];intro gf14;generalize gf14 14 = g14;refine jir (qtt _) (by simp) ?_;simp;obtain ⟨i,hpi⟩:∃ i,P[k].1 = i:=⟨_,rfl⟩;rw [hpi] at hi
        have hmm:cc m = 0:=by
         have h1:=h6.cle m hmn;have h2:=hK.count_le hm hmn;have h3:=(hK.mem m hmn).1 hmR;omega
        have h7i:=h7 i hi;rw [List.drop_eq_getElem_cons hk] at h7i;unfold Ci.rem at h7i;rw [qeq,c.nd_get hi,if_pos hpi] at h7i;simp only [hpi];refine jis (fun hc=>?_) (fun hc=>?_)
        ·rw [if_pos hc] at h7i;have hle:=hK.count_le hm hi;have hstep:=h6.step hi (by omega) hle;obtain ⟨A,hA⟩:∃ A,left i - (cc i + 1) = A:=⟨_,rfl⟩;rw [hA] at hstep
         have hl16:left i≤16:=by
          rw [hK.left i hi];refine Nat.le_trans (List.length_filter_le _ _) ?_;have:=hv.l i hi;unfold Ci.g;split <;> simp [this]
         have hom:=hout m hmn;have hok:qvn out m cc m = out m:=by simp [qvn,hmm]
         have hw1:IntKind.i64.wrap (((left i - cc i:Nat):Int) - 1) = (A:Int):=by rw [qaq] <;> omega
         have hw2:IntKind.i64.wrap (((qvn out m cc m:Nat):Int) + 1) = ((out m:Nat):Int) + 1:=by rw [hok,qaq] <;> omega
         have t1:tab c.n.length (qfi (fun j=>V.int .i64 ((left j - cc j:Nat):Int)) i (V.int .i64 (A:Int))) = tab c.n.length fun j=>V.int .i64 ((left j - qfi cc i (cc i + 1) j:Nat):Int):=by
          refine qcg fun j _=>?_;by_cases e:j = i
          ·subst e; simp [hA]
          ·rw [qa7 _ _ e,qa7 _ _ e]
         have t2:tab c.n.length (qfi (fun j=>V.int .i64 ((qvn out m cc j:Nat):Int)) i (V.int .i64 (max ((qvn out m cc i:Nat):Int) (((out m:Nat):Int) + 1)))) = tab c.n.length fun j=>V.int .i64 ((qvn out m (qfi cc i (cc i + 1)) j:Nat):Int):=by
          refine qcg fun j _=>?_;by_cases e:j = i
          ·subst e;simp only [qcu,qvn];congr 1;split <;> simp <;> omega
          ·rw [qa7 _ _ e];simp only [qvn,qa7 _ _ e]
         have hrem:∀ j,j < c.n.length->qfi cc i (cc i + 1) j + c.rem (P.drop (k + 1)) j = (c.g j).count m:=fun j hj=>by
          by_cases e:j = i
          ·subst e;unfold Ci.rem;rw [qcu,c.nd_get hj,if_pos hc]; omega
          ·rw [qa7 _ _ e];have:=h7 j hj;rw [List.drop_eq_getElem_cons hk] at this;unfold Ci.rem at this ⊢;have e':¬ i = j:=fun q=>e q.symm;simp only [qeq,hpi,if_neg e',Nat.zero_add] at this;exact this
         simp [hi,hmn,qa1,qi4,hw1,hw2,t1,t2,hA];refine jis (fun hz=>?_) (fun hz=>?_)
         ·rw [if_pos (jiy hz)] at hstep
          have hle2:l.length + 1≤274877906944:=by
           rw [h5];have h1:=qk7 h6.nod fun j hj=>((h6.mem j).1 hj).1;simp;omega
          simp [hle2,hwk];refine fun gf2=>⟨⟨k + 1,gf2 53,l ++ [qab i],S ++ [i],qfi cc i (cc i + 1)⟩,⟨hk,by simp only [h5]; simp [qah],hstep,hrem⟩,?_,?_,by simp only; omega⟩
          ·simp [qab]
          ·simp [qab]
         ·rw [if_neg (jiz hz)] at hstep;simp [hwk];exact ⟨⟨k + 1,ga,l,S,qfi cc i (cc i + 1)⟩,⟨hk,h5,hstep,hrem⟩,by simp,by simp,by simp only; omega⟩
        ·simp [hwk];refine ⟨⟨k + 1,ga,l,S,cc⟩,⟨hk,h5,h6,fun j hj=>?_⟩,by simp,by simp,by simp only; omega⟩;have:=h7 j hj;rw [List.drop_eq_getElem_cons hk] at this;unfold Ci.rem at this ⊢;by_cases e:i = j
         ·subst e;rw [c.nd_get hi] at this ⊢;rw [if_neg (by simp [hc])] at this ⊢;exact this
         ·simp only [qeq,hpi,if_neg e,Nat.zero_add] at this;exact this
       ·have hk:k = P.length:=by have:=jiz hb; omega
        simp
        have hdone:=KJ.done hK hm h6 fun i hi=>by
         have:=h7 i hi;rw [hk,List.drop_length] at this;simpa [Ci.rem,qdb] using this
        refine ⟨⟨d + 1,some (ga,l),R ++ S,fun j=>left j - cc j,fun j=>qvn out m cc j⟩,⟨.inr ?_,h5,hdone,fun j hj=>?_⟩,by simp,by simp,by simp only; omega⟩
        ·simp only [qau,h5];intro q;have:=congrArg List.length q;have h0:=List.length_pos_of_mem hmR;simp at this;rw [this.1] at h0;simp at h0
        ·have h1:=hout j hj;have h2:=hout m hmn;simp only [qvn];split <;> omega
     ·have hd:d = R.length:=by have:=jiz hb; omega
      simp [Ci.v];refine jis (fun hb=>?_) (fun hb=>?_)
      ·have:=hstuck hd (jiy hb);simpa using this
      ·have:=hfull hd (jiz hb);simp [-frz];rw [qs0,qwu (f:=fun j=>qab (out j)) (sz:=1) (g:=g23) (by simp [qab]) (fun _=>rfl)];exact this
 ·have he0:e ≠ 0:=by simpa using he
  rw [if_pos he0] at hq;simpa using hq
end
section
open Go
@[simp high] theorem ci_all (c:Ci):jg3 true 0 4 c.v = c.v:=rfl
@[simp high] theorem ci_0 (c:Ci):jg3 false 0 1 c.v = .sl (c.n.map Nd.v) none:=rfl
@[simp high] theorem ci_1 (c:Ci):jg3 false 1 1 c.v = .sl (c.s.map .str) none:=rfl
@[simp high] theorem ci_2 (c:Ci):jg3 false 2 1 c.v = .sl (c.m.map Md.v) none:=rfl
@[simp high] theorem ci_3 (c:Ci):jg3 false 3 1 c.v = .sl (qc1 c.o) none:=rfl
@[simp high] theorem ci_len (c:Ci):c.v.cells.length = 4:=rfl
@[simp high] theorem ci_ok (c:Ci):c.v.cellsOk = true:=rfl
@[simp] theorem qnb (c:Ci):c.v.pure = true:=qq5 c
@[simp] theorem jdg (c:Ci) {f:Nat->Nat->Nat->Nat->Option Nat->V} {p:Nat->Nat->Nat->Nat->V}:c.v.mapR f p = c.v:=by simp [Ci.v,qak]
@[simp high] theorem nd_all (c:Nd):jg3 true 0 4 c.v = c.v:=rfl
@[simp high] theorem nd_0 (c:Nd):jg3 false 0 1 c.v = .int .u8 c.k:=rfl
@[simp high] theorem nd_1 (c:Nd):jg3 false 1 1 c.v = .sl (qc1 c.i) none:=rfl
@[simp high] theorem nd_2 (c:Nd):jg3 false 2 1 c.v = .int .i64 c.a:=rfl
@[simp high] theorem nd_3 (c:Nd):jg3 false 3 1 c.v = .int .i64 c.b:=rfl
@[simp high] theorem nd_len (c:Nd):c.v.cells.length = 4:=rfl
@[simp high] theorem nd_ok (c:Nd):c.v.cellsOk = true:=rfl
@[simp] theorem jfj (c:Nd):c.v.pure = true:=by simp [Nd.v]
@[simp] theorem jfi (c:Nd) {f:Nat->Nat->Nat->Nat->Option Nat->V} {p:Nat->Nat->Nat->Nat->V}:c.v.mapR f p = c.v:=by simp [Nd.v,qak]
@[simp high] theorem nd_put (a b d e:V) (c:Nd):jg7 0 4 c.v (.agg [a,b,d,e]) = c.v:=rfl
@[simp high] theorem md_all (c:Md):jg3 true 0 3 c.v = c.v:=rfl
@[simp high] theorem md_0 (c:Md):jg3 false 0 1 c.v = .sl (qc1 c.a) none:=rfl
@[simp high] theorem md_1 (c:Md):jg3 false 1 1 c.v = .sl (qc1 c.d) none:=rfl
@[simp high] theorem md_2 (c:Md):jg3 false 2 1 c.v = .int .i64 c.w:=rfl
@[simp high] theorem md_len (c:Md):c.v.cells.length = 3:=rfl
@[simp high] theorem md_ok (c:Md):c.v.cellsOk = true:=rfl
@[simp] theorem jfg (c:Md):c.v.pure = true:=by simp [Md.v]
@[simp] theorem jff (c:Md) {f:Nat->Nat->Nat->Nat->Option Nat->V} {p:Nat->Nat->Nat->Nat->V}:c.v.mapR f p = c.v:=by simp [Md.v,qak]
@[simp high] theorem md_put (a b d:V) (c:Md):jg7 0 3 c.v (.agg [a,b,d]) = c.v:=rfl
def qlv (p:Int->Bool):List Int->Nat->Int
 | [],_=>-1
 | x :: r,i=>if p x = true then (i:Int) else qlv p r (i + 1)
theorem qpe (p:Int->Bool):∀ (l:List Int) (i:Nat),decide (0≤qlv p l i) = l.any p
 | [],i=>by simp [qlv]
 | x :: l,i=>by
  cases h:p x with
  | true=>simp [qlv,h]
  | false=>
   have:=qpe p l (i + 1);simp only [qlv,h,Bool.false_eq_true,if_false,List.any_cons,Bool.false_or];exact this
theorem qrh (l:List Int) (cap:Option Nat) (g:FuncId) (cp:List V) (p:Int->Bool) (hf:∀ x ∈ l,qac Tryz.prog gl0 g (.int .i64 x :: cp) (.bool (p x))) (hp:jgy cp = true) (hl:l.length < 1000000000000):qac Tryz.prog gl0 148 [.sl (qc1 l) cap,.fn g [] cp] (.int .i64 (qlv p l 0)):=by
 obtain ⟨q,hq⟩:∃ r,qlv p l 0 = r:=⟨_,rfl⟩;rw [hq];refine jiu 2 q39 rfl ?_;simp [jbo,jgt]
 refine jit (X:=Nat) (fun i=>[(8,qab i),(7,qab l.length),(0,.sl (qc1 l) cap),(1,.fn g [] cp)]) (fun _=>[])
  (fun i=>i≤l.length/\qlv p (l.drop i) i = q) (fun i=>l.length - i) 0 ⟨by simp,by simpa using hq⟩ (by simp [qab]) (by simp) ?_
 rintro i ⟨h2,h3⟩;simp [qab];refine jis (fun h1=>?_) (fun h1=>?_)
 ·have h1':i < l.length:=jiy h1;have hw:=qbg i (by omega);rw [List.drop_eq_getElem_cons h1'] at h3;simp only [qlv] at h3;simp [h1',qb9];refine jir (hf _ (ji3 h1')) (by simp [hp]) ?_;simp;refine jis (fun h4=>?_) (fun h4=>?_)
  ·rw [if_pos h4] at h3;simp [h3]
  ·rw [if_neg (by simp [h4])] at h3;simp [hw];exact ⟨i + 1,⟨h1',h3⟩,rfl,by omega⟩
 ·have h1':i = l.length:=by have:=jiz h1; omega
  subst h1';simp [qlv] at h3;simp [h3]
theorem qg7 (l:List Int) (cap:Option Nat) (g:FuncId) (cp:List V) (p:Int->Bool) (hf:∀ x ∈ l,qac Tryz.prog gl0 g (.int .i64 x :: cp) (.bool (p x))) (hp:jgy cp = true) (hl:l.length < 1000000000000):qac Tryz.prog gl0 117 [.sl (qc1 l) cap,.fn g [] cp] (.bool (l.any p)):=by
 refine jiu 2 q35 rfl ?_;simp [jbk,jgp];refine jir (qrh l cap g cp p hf hp hl) (by simp [hp]) ?_;simp [qpe]
def qla (n:Nat) (x:Int):Bool:=decide (x < 0) || decide ((n:Int)≤x)
theorem q90 (c:Ci) (i:Int):qac Tryz.prog gl0 165 [.int .i64 i,.iptr c.v 0] (.bool (qla c.n.length i)):=qix c i
theorem qj0 (c:Ci) (l:List Int) (cap:Option Nat) (hl:l.length < 1000000000000):qac Tryz.prog gl0 117 [.sl (qc1 l) cap,.fn 165 [] [.iptr c.v 0]] (.bool (l.any (qla c.n.length))):=
 qg7 l cap _ _ _ (fun x _=>qix c x) (by simp) hl
def tLo:List Int:=[0,0,0,1,1,2,2,2,2,2,2,3,2,1,1,0]
def tHi:List Int:=[0,0,0,1,1,16,16,16,16,16,16,3,2,16,1,0]
def kLo (k:Int):Int:=if 16≤k then 0 else tLo.getD k.toNat 0
def kHi (k:Int):Int:=if 16≤k then -1 else tHi.getD k.toNat 0
theorem qwr (k:Int) (h0:0≤k) (h9:k < 256):qac Tryz.prog gl0 96 [.int .u8 k] (.tup [.int .i64 (kLo k),.int .i64 (kHi k)]):=by
 refine jiu 2 ok96 rfl ?_;have hw:IntKind.i64.wrap k = k:=by rw [qaq] <;> omega
 simp [i96,x96,hw];refine jis (fun h=>?_) (fun h=>?_)
 ·have h':16≤k:=jiy h;simp [kLo,kHi,h']
 ·have h':¬ 16≤k:=jiz h;have h1:k < 16:=by omega
  have hc:k = 0∨k = 1∨k = 2∨k = 3∨k = 4∨k = 5∨k = 6∨k = 7∨k = 8∨k = 9∨k = 10∨k = 11∨k = 12∨k = 13∨k = 14∨k = 15:=by omega
  rcases hc with rfl | rfl | rfl | rfl | rfl | rfl | rfl | rfl | rfl | rfl | rfl | rfl | rfl | rfl | rfl | rfl <;> simp [gl0,kLo,kHi,tLo,tHi]
def qlq (k:Int) (n:Nat):Bool:=decide (kLo k≤n) && decide ((n:Int)≤kHi k)
def qza (c:Ci) (x:Nd):Bool:=if x.k = 15 then decide (0≤x.a) && decide (x.a < c.m.length) && decide (0≤x.b) && decide (x.b < (c.m.getD x.a.toNat default).d.length) else decide (x.a = 0) && decide (x.b = 0)
theorem q6h (c:Ci) (x:Nd):qac Tryz.prog gl0 162 [c.v,x.v] (.bool (qza c x)):=by
 refine jiu 2 q88 rfl ?_;simp [jet,x162];intro gf gf2;refine jis (fun h=>?_) (fun h=>?_)
 ·have h':x.k = 15:=jiy h;simp [qza,h'];intro gm;refine jis (fun h1=>?_) (fun h1=>?_)
  ·simp [h1];refine jis (fun h2=>?_) (fun h2=>?_)
   ·simp [h2];have h1':0≤x.a:=jiy h1;have h2':x.a < c.m.length:=jiy h2;obtain ⟨j,hj⟩:∃ j:Nat,x.a = (j:Int):=⟨x.a.toNat,by omega⟩;have hjl:j < c.m.length:=by omega
    rw [hj];refine jis (fun h3=>?_) (fun h3=>?_)
    ·simp [h3,hjl,hj]
    ·simp [h3]
   ·simp [h2]
  ·simp [h1]
 ·have h':¬ x.k = 15:=jiz h;simp [qza,h'];refine jis (fun h1=>?_) (fun h1=>?_)
  ·simp [h1]
  ·simp [h1]
theorem qw5 (c:Ci) (i:Int) (h:qla c.n.length i = false):qac Tryz.prog gl0 161 [.int .i64 i,.iptr c.v 0] (.bool (!decide ((c.nd i.toNat).k = 12))):=by
 simp [qla] at h;obtain ⟨j,rfl⟩:∃ j:Nat,i = (j:Int):=⟨i.toNat,by omega⟩;have hj:j < c.n.length:=by omega
 refine jiu 2 q87 rfl ?_;simp [jes,x161,hj,c.nd_get hj]
def wrB (l:List Int) (k:Int):Bool:=decide (l.length = 0) || decide (k < l.length)
theorem qyv (l:List Int) (cap:Option Nat) (m:Int):qac Tryz.prog gl0 164 [.sl (qc1 l) cap,.int .i64 m] (.bool (wrB l m)):=by
 unfold wrB;refine jiu 2 q9a rfl ?_;simp [jev,x164];refine jis (fun h=>?_) (fun h=>?_)
 ·have h':=jiy h;simp [h']
 ·have h':=jiz h;simp [h']
def ndE (c:Ci) (x:Nd):Int:=if 15 < x.k then 7 else if qlq x.k x.i.length = false then 8 else if x.i.any (qla c.n.length) = true then 1
 else if x.k = 13/\x.i.any (fun v=>!decide ((c.nd v.toNat).k = 12)) = true then 7 else if qza c x = false then 1 else 0
theorem qyu {k:Int} {n:Nat} (h0:0≤k) (h9:k≤15) (h:qlq k n = true):n≤16:=by
 have hc:k = 0∨k = 1∨k = 2∨k = 3∨k = 4∨k = 5∨k = 6∨k = 7∨k = 8∨k = 9∨k = 10∨k = 11∨k = 12∨k = 13∨k = 14∨k = 15:=by omega
 simp [qlq] at h;rcases hc with rfl | rfl | rfl | rfl | rfl | rfl | rfl | rfl | rfl | rfl | rfl | rfl | rfl | rfl | rfl | rfl <;> simp [kLo,kHi,tLo,tHi] at h <;> omega
theorem q78 (c:Ci) (x:Nd) (h0:0≤x.k) (h9:x.k < 256):qac Tryz.prog gl0 153 [c.v,x.v] (.int .i64 (ndE c x)):=by
 obtain ⟨q,hq⟩:∃ r,ndE c x = r:=⟨_,rfl⟩;rw [hq];unfold ndE at hq;refine jiu 2 q80 rfl ?_;simp [jel,x153];intro gf gf2;refine jir (qwr _ h0 h9) (by simp) ?_;simp;refine jis (fun h=>?_) (fun h=>?_)
 ·have h':15 < x.k:=jiy h;rw [if_pos h'] at hq;simp [hq]
 ·have h':¬ 15 < x.k:=jiz h;rw [if_neg h'] at hq;simp
  have hwid:qlq x.k x.i.length = (!decide ((x.i.length:Int) < kLo x.k) && !decide (kHi x.k < (x.i.length:Int))):=by
   unfold qlq;by_cases h1:(x.i.length:Int) < kLo x.k <;> by_cases h2:kHi x.k < (x.i.length:Int) <;> simp [h1,h2] <;> omega
  rw [hwid] at hq;have key:qlq x.k x.i.length = true->x.i.length≤16:=qyu h0 (by omega);rw [hwid] at key;refine jis (fun h1=>?_) (fun h1=>?_)
  ·simp [h1] at hq;simp [h1,hq]
  ·simp only [h1,Bool.not_false,Bool.true_and] at hq key;simp [h1];refine jis (fun h2=>?_) (fun h2=>?_)
   ·simp [h2] at hq;simp [h2,hq]
   ·simp only [h2,Bool.not_false,Bool.true_eq_false,if_false] at hq key;have hl:x.i.length≤16:=key trivial;simp [h2];intro gm;refine ⟨_,_,_,.pure (qig c) (by simp),?_⟩;simp;refine ⟨_,_,_,.pure (qj0 c x.i none (by omega)) (by simp),?_⟩;simp;refine ⟨rfl,?_⟩;refine jis (fun h3=>?_) (fun h3=>?_)
    ·rw [if_pos h3] at hq;simp [hq]
    ·rw [if_neg (by simp [h3])] at hq
     have hin:∀ v ∈ x.i,qla c.n.length v = false:=fun v hv=>by
      have:=List.any_eq_false.1 h3 v hv;simpa using this
     have hk:=qg7 x.i none _ [.iptr c.v 0] (fun v=>!decide ((c.nd v.toNat).k = 12)) (fun v hv=>qw5 c v (hin v hv)) (by simp) (by omega);simp;refine jis (fun h4=>?_) (fun h4=>?_)
     ·have h4':x.k = 13:=jiy h4;simp [h4];refine CallO.borrow 1 hk (by simp [qak]) (by simp) ?_;simp;refine jis (fun h5=>?_) (fun h5=>?_)
      ·rw [if_pos ⟨h4',h5⟩] at hq;simp [hq]
      ·rw [if_neg (fun r=>by rw [h5] at r; exact absurd r.2 (by simp))] at hq;simp;refine jir (q6h c x) (by simp) ?_;simp;refine jis (fun h6=>?_) (fun h6=>?_)
       ·simp [h6] at hq;simp [hq]
       ·simp [h6] at hq;simp [hq]
     ·have h4':¬ x.k = 13:=jiz h4;rw [if_neg (fun r=>h4' r.1)] at hq;simp [h4];refine jir (q6h c x) (by simp) ?_;simp;refine jis (fun h6=>?_) (fun h6=>?_)
      ·simp [h6] at hq;simp [hq]
      ·simp [h6] at hq;simp [hq]
def mdE (c:Ci) (m:Md):Int:=if (wrB m.a 8 || wrB m.d 32) = true then 8 else if (m.a.any (qla c.n.length) || m.d.any (qla c.n.length) || qla c.n.length m.w) = true then 1 else 0
theorem jfh (c:Ci) (m:Md):qac Tryz.prog gl0 155 [c.v,m.v] (.int .i64 (mdE c m)):=by
 obtain ⟨q,hq⟩:∃ r,mdE c m = r:=⟨_,rfl⟩;rw [hq];unfold mdE at hq;refine jiu 2 q82 rfl ?_;simp [jen,x155];intro gf gf2;refine jir (qig c) (by simp) ?_;simp;refine jir (qyv m.a none 8) (by simp) ?_;simp;refine jis (fun h1=>?_) (fun h1=>?_)
 ·have:wrB m.a 8 = true:=h1;rw [this] at hq;simp at hq;simp [h1,<- hq]
 ·have ha:wrB m.a 8 = false:=h1;rw [ha] at hq;have hal:m.a.length≤8:=by simp [wrB] at ha; omega
  simp only [Bool.false_or] at hq;simp [h1];refine jir (qyv m.d none 32) (by simp) ?_;simp;refine jis (fun h2=>?_) (fun h2=>?_)
  ·have:wrB m.d 32 = true:=h2;rw [this] at hq;simp at hq;simp [<- hq]
  ·have hd:wrB m.d 32 = false:=h2;have hdl:m.d.length≤32:=by simp [wrB] at hd; omega
   rw [hd] at hq;simp only [Bool.false_eq_true,if_false] at hq;simp;refine jir (qj0 c m.a none (by omega)) (by simp) ?_;simp;refine jis (fun h3=>?_) (fun h3=>?_)
   ·simp only [h3,Bool.true_or,if_true] at hq;simp [h3,<- hq]
   ·simp only [h3,Bool.false_or] at hq;simp [h3];refine jir (qj0 c m.d none (by omega)) (by simp) ?_;simp;refine jis (fun h4=>?_) (fun h4=>?_)
    ·simp only [h4,Bool.true_or,if_true] at hq;simp [h4,<- hq]
    ·simp only [h4,Bool.false_or] at hq;simp [h4];refine jir (q90 c m.w) (by simp) ?_;simp;refine jis (fun h5=>?_) (fun h5=>?_)
     ·have:qla c.n.length m.w = true:=h5;rw [this] at hq;simp at hq;simp [<- hq]
     ·have:qla c.n.length m.w = false:=h5;rw [this] at hq;simp at hq;simp [<- hq]
def qly:List (List UInt8)->List (List UInt8)->Bool
 | _,[]=>false
 | seen,x :: r=>!qxo x || seen.contains x || qly (seen ++ [x]) r
def qyc (s:List UInt8):V × V:=(.str s,.bool true)
theorem qmf (x:List UInt8):∀ (seen:List (List UInt8)) (i:Nat),∃ r,qks (.str x) (seen.map qyc) i = some r/\(r.isSome = seen.contains x)/\∀ p,r = some p->p.2 = .bool true
 | [],i=>⟨none,rfl,rfl,fun p h=>by cases h⟩
 | y :: r,i=>by
  by_cases h:x = y
  ·subst h;exact ⟨some (i,.bool true),by simp [qks,qyc,qya],by simp,fun p hp=>by cases hp; rfl⟩
  ·obtain ⟨q,q1,q2,q3⟩:=qmf x r (i + 1);refine ⟨q,?_,by simp [q2,h],q3⟩;simp only [List.map_cons,qks,qyc,qya,decide_eq_false h];exact q1
theorem q3x (c:Ci) (hl:c.s.length < 1000000):qac Tryz.prog gl0 154 [c.v] (.int .i64 (if qly [] c.s = true then 5 else 0)):=by
 obtain ⟨q,hq⟩:∃ r:Int,(if qly [] c.s = true then 5 else 0) = r:=⟨_,rfl⟩;rw [hq];refine jiu 2 q81 rfl ?_;simp [jem,x154,nop];intro gf gf2;generalize gf 1 = g1;generalize gf2 6 = g6
 refine jit (X:=Nat) (fun i=>[(10,qab i),(9,qab c.s.length),(8,.sl (c.s.map .str) none),(3,.own 6 g6),(1,.ptr 1 g1 0 0)]) (fun i=>[(6,.map g6 ((c.s.take i).map qyc)),(1,.row g1 4 [c.v])])
  (fun i=>i≤c.s.length/\(if qly (c.s.take i) (c.s.drop i) = true then 5 else 0) = q) (fun i=>c.s.length - i) 0 ⟨by simp,by simpa using hq⟩ (by simp [qab]) (by simp) ?_
 rintro i ⟨h2,h3⟩;simp [qab];refine jis (fun h1=>?_) (fun h1=>?_)
 ·have hi:i < c.s.length:=jiy h1;have hw:=qbg i (by omega);rw [List.drop_eq_getElem_cons hi] at h3;simp only [qly] at h3;simp [hi];refine jir (qz1 _) (by simp) ?_;simp;refine jis (fun h4=>?_) (fun h4=>?_)
  ·simp only [h4,Bool.not_true,Bool.false_or] at h3;obtain ⟨r,r1,r2,r3⟩:=qmf c.s[i] (c.s.take i) 0;rw [List.map_take] at r1;simp [h4,qeb,r1,nop];rw [<- r2] at h3
   cases r with
   | none=>
    simp [nop,r1,qeb,hw];simp only [Option.isSome_none] at h3;refine ⟨i + 1,⟨hi,?_⟩,by simp,?_,by omega⟩
    ·rw [List.take_succ_eq_append_getElem hi];simpa using h3
    ·rw [List.take_succ_eq_append_getElem (by simpa using hi)];simp [qyc]
   | some p=>
    obtain ⟨a,b⟩:=p;have hb:=r3 _ rfl;simp only at hb;subst hb;simp at h3;simp [h3]
  ·simp only [h4,Bool.not_false,Bool.true_or,if_true] at h3;simp [h4,h3]
 ·have hi:i = c.s.length:=by have:=jiz h1; omega
  rw [hi,List.drop_length] at h3;simp [qly] at h3;simp [h3]
def qwj:List Int->Int->Int
 | [],t=>t
 | x :: r,t=>if x ≠ 0 then x else qwj r t
def shO (c:Ci):Int:=if c.o.any (qla c.n.length) = true then 1 else 0
def shM (c:Ci) (l:List Md):Int:=qwj (l.map (mdE c)) (shO c)
def shS (c:Ci):Int:=if qly [] c.s = true then 5 else shM c c.m
def shN (c:Ci) (l:List Nd):Int:=qwj (l.map (ndE c)) (shS c)
def qi1 (c:Ci):Bool:=decide (16384 < c.n.length) || decide (16 < c.m.length) || decide (16384 < c.o.length)
def shE (c:Ci):Int:=if qi1 c = true then 3 else if c.s.length ≠ c.n.length then 8 else shN c c.n
structure Ci.wf (c:Ci):Prop where
 k:∀ x ∈ c.n,0≤x.k/\x.k < 256
 s:∀ x ∈ c.s,x.length < 9000000000000000000
theorem q4s (c:Ci) (hwf:c.wf):qac Tryz.prog gl0 132 [c.v] (.int .i64 (shE c)):=by
 obtain ⟨q,hq⟩:∃ r,shE c = r:=⟨_,rfl⟩;rw [hq];unfold shE at hq;refine jiu 2 q8p rfl ?_;simp [jea,x132];intro gf;have hbig:(decide (16384 < c.n.length) || decide (16 < c.m.length) || decide (16384 < c.o.length)) = qi1 c:=rfl;refine jis (fun h1=>?_) (fun h1=>?_)
 ·have:qi1 c = true:=by unfold qi1; simp [h1]
  rw [this] at hq;simp at hq;simp [h1,<- hq]
 ·simp [h1];refine jis (fun h2=>?_) (fun h2=>?_)
  ·have:qi1 c = true:=by unfold qi1; simp [h2]
   rw [this] at hq;simp at hq;simp [h2,<- hq]
  ·simp [h2];refine jis (fun h3=>?_) (fun h3=>?_)
   ·have:qi1 c = true:=by unfold qi1; simp [h3]
    rw [this] at hq;simp at hq;simp [<- hq]
   ·have:qi1 c = false:=by unfold qi1; simp [h1,h2,h3]
    rw [this] at hq;simp only [Bool.false_eq_true,if_false] at hq;have g1:¬ 16384 < c.n.length:=jiz h1;have g2:¬ 16 < c.m.length:=jiz h2;have g3:¬ 16384 < c.o.length:=jiz h3;simp;refine jis (fun h4=>?_) (fun h4=>?_)
    ·have h4':c.s.length = c.n.length:=jiy h4;rw [if_neg (by simp [h4'])] at hq;simp;generalize gf 1 = gg
     refine jit (X:=Nat) (fun i=>[(38,qab i),(37,qab c.n.length),(36,.sl (c.n.map Nd.v) none),(1,.ptr 1 gg 0 0)]) (fun i=>[(1,.row gg 4 [c.v])])
      (fun i=>i≤c.n.length/\shN c (c.n.drop i) = q) (fun i=>c.n.length - i) 0 ⟨by simp,by simpa using hq⟩ (by simp [qab]) (by simp) ?_
     clear hq;rintro i ⟨h5,hq⟩;simp [qab];refine jis (fun h6=>?_) (fun h6=>?_)
     ·have hi:i < c.n.length:=jiy h6;have hw:=qbg i (by omega);have hk:=hwf.k _ (ji3 hi);rw [List.drop_eq_getElem_cons hi] at hq;simp only [shN,List.map_cons,qwj] at hq;simp [hi];intro gf4;refine jir (q78 c _ hk.1 hk.2) (by simp) ?_;simp;refine jis (fun h7=>?_) (fun h7=>?_)
      ·have h7':ndE c c.n[i] = 0:=jiy h7;rw [if_neg (by simp [h7'])] at hq;simp [hw];exact ⟨i + 1,⟨hi,hq⟩,by simp,by omega⟩
      ·have h7':¬ ndE c c.n[i] = 0:=jiz h7;rw [if_pos h7'] at hq;simp [hq]
     ·have hi:i = c.n.length:=by have:=jiz h6; omega
      rw [hi,List.drop_length] at hq;simp only [shN,List.map_nil,qwj,shS] at hq;simp;refine jir (q3x c (by omega)) (by simp) ?_;simp;by_cases h8:qly [] c.s = true
      ·rw [if_pos h8] at hq;simp [h8,<- hq]
      ·rw [if_neg h8] at hq;simp [h8]
       refine jit (X:=Nat) (fun i=>[(57,qab i),(56,qab c.m.length),(55,.sl (c.m.map Md.v) none),(1,.ptr 1 gg 0 0)]) (fun i=>[(1,.row gg 4 [c.v])])
        (fun i=>i≤c.m.length/\shM c (c.m.drop i) = q) (fun i=>c.m.length - i) 0 ⟨by simp,by simpa using hq⟩ (by simp [qab]) (by simp) ?_
       clear hq;rintro j ⟨h5,hq⟩;simp [qab];refine jis (fun h6=>?_) (fun h6=>?_)
       ·have hj:j < c.m.length:=jiy h6;have hw:=qbg j (by omega);rw [List.drop_eq_getElem_cons hj] at hq;simp only [shM,List.map_cons,qwj] at hq;simp [hj];intro gf4;refine jir (jfh c _) (by simp) ?_;simp;refine jis (fun h7=>?_) (fun h7=>?_)
        ·have h7':mdE c c.m[j] = 0:=jiy h7;rw [if_neg (by simp [h7'])] at hq;simp [hw];exact ⟨j + 1,⟨hj,hq⟩,by simp,by omega⟩
        ·have h7':¬ mdE c c.m[j] = 0:=jiz h7;rw [if_pos h7'] at hq;simp [hq]
       ·have hj:j = c.m.length:=by have:=jiz h6; omega
        rw [hj,List.drop_length] at hq;simp only [shM,List.map_nil,qwj,shO] at hq;simp;intro gm;refine ⟨_,_,_,.pure (qig c) (by simp),?_⟩;simp;refine ⟨_,_,_,.pure (qj0 c c.o none (by omega)) (by simp),?_⟩;simp;refine ⟨rfl,?_⟩;refine jis (fun h9=>?_) (fun h9=>?_)
        ·rw [if_pos h9] at hq;simp [<- hq]
        ·rw [if_neg (by simp [h9])] at hq;simp [<- hq]
    ·have h4':c.s.length ≠ c.n.length:=jiz h4;rw [if_pos h4'] at hq;simp [<- hq]
end
end Go.Proofs.YtlmniacemoohpaaGreatDoor
