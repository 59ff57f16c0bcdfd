/- Levels of a graph: the equations, their uniqueness, the bound. No program stands in it. Conditions: none. Netlists: contracts, the law Lists. Conditions: none. Netlists: contracts, Levels. Conditions: none. -/
import Derived.Test.YtbbnmiaabmbheaaGreatDoorBase13
import Derived.Test.YtbbnmiaabmbheaaGreatDoorNet2
set_option linter.all false
namespace Go.Proofs.YtbbnmiaabmbheaaGreatDoor
section
open Go
def tab {α:Type} (n:Nat) (f:Nat->α):List α:=(List.range n).map f
def qc0 {α:Type} (f:Nat->α) (i:Nat) (v:α):Nat->α:=fun j=>if j = i then v else f j
@[simp] theorem qcx {α:Type} (f:Nat->α) (i:Nat) (v:α):qc0 f i v i = v:=by simp [qc0]
theorem qbv {α:Type} (f:Nat->α) {i j:Nat} (v:α) (h:j ≠ i):qc0 f i v j = f j:=by simp [qc0,h]
@[simp] theorem q4q {α:Type} (n:Nat) (f:Nat->α):(tab n f).length = n:=by simp [tab]
theorem qa0 {α:Type} (n:Nat) (f:Nat->α) (i:Nat) (h:i < (tab n f).length):(tab n f)[i] = f i:=by simp [tab]
theorem qhw {α:Type} {n:Nat} (f:Nat->α) {i:Nat} (h:i < n):(tab n f)[i]? = some (f i):=by simp [tab,h]
theorem qc8 {α:Type} (n:Nat) (f:Nat->α) (i:Nat) (v:α):(tab n f).set i v = tab n (qc0 f i v):=by
 refine List.ext_getElem? fun j=>?_;rw [List.getElem?_set];unfold tab qc0;by_cases h:i = j
 ·subst h;by_cases h2:i < n <;> simp [h2]
 ·have h':¬ j = i:=fun e=>h e.symm;by_cases h2:j < n <;> simp [h,h',h2]
theorem qa3 {α:Type} {n:Nat} {f g:Nat->α} (h:∀ i,i < n->f i = g i):tab n f = tab n g:=by
 unfold tab;exact List.map_congr_left fun i hi=>h i (by simpa using hi)
theorem qhv {α:Type} (n:Nat) (v:α):List.replicate n v = tab n fun _=>v:=by
 refine List.ext_getElem? fun j=>?_;by_cases h:j < n <;> simp [tab,h]
theorem qqt {α β:Type} (n:Nat) (f:Nat->α) (h:α->β):(tab n f).map h = tab n fun i=>h (f i):=by simp [tab,Function.comp_def]
theorem qnb {n:Nat} {f:Nat->V} (h:∀ i,(f i).pure = true):jid (tab n f) = true:=pureL_map h _
where pureL_map {f:Nat->V} (h:∀ i,(f i).pure = true) (l:List Nat):jid (l.map f) = true:=V.pureL_map f l h
def qek (f:Nat->Nat):Nat->Nat
 | 0=>0
 | n + 1=>qek f n + f n
theorem qm9 (f g:Nat->Nat):∀ n,qek (fun j=>f j + g j) n = qek f n + qek g n
 | 0=>rfl
 | n + 1=>by simp only [qek,qm9 f g n]; omega
theorem qto {f g:Nat->Nat} (h:∀ j,f j = g j) (n:Nat):qek f n = qek g n:=by rw [funext h]
theorem qkl {f g:Nat->Nat}:∀ {n:Nat},(∀ j,j < n->f j = g j)->qek f n = qek g n
 | 0,_=>rfl
 | n + 1,h=>by simp only [qek,qkl (n:=n) fun j hj=>h j (by omega),h n (by omega)]
theorem qkm:∀ n,qek (fun _=>0) n = 0
 | 0=>rfl
 | n + 1=>by simp only [qek,qkm n]
theorem qc7 (k:Nat):∀ n,qek (fun _=>k) n = n * k
 | 0=>by simp [qek]
 | n + 1=>by simp only [qek,qc7 k n,Nat.add_mul,Nat.one_mul]
theorem q3l (f:Nat->Nat) {a b:Nat} (h:a≤b):qek f a≤qek f b:=by
 induction b with
 | zero=>simp at h; subst h; exact jki _
 | succ b ih=>
  by_cases e:a = b + 1
  ·rw [e]; exact jki _
  ·simp only [qek]; have:=ih (by omega); omega
theorem qe0 {f g:Nat->Nat}:∀ {n:Nat},(∀ j,j < n->f j≤g j)->qek f n≤qek g n
 | 0,_=>jki _
 | n + 1,h=>by
  have h1:=qe0 (n:=n) fun j hj=>h j (by omega);have h2:=h n (by omega);simp only [qek]; omega
theorem qpc (f:Nat->Nat->Nat) (m:Nat):∀ n,qek (fun i=>qek (f i) m) n = qek (fun j=>qek (fun i=>f i j) n) m
 | 0=>by simp only [qek,qkm]
 | n + 1=>by simp only [qek,qpc f m n,qm9]
theorem qr6 (x:Int):∀ n,qek (fun j=>if x = (j:Int) then 1 else 0) n = if 0≤x/\x < n then 1 else 0
 | 0=>by simp only [qek]; rw [if_neg (by omega)]
 | n + 1=>by
  simp only [qek,qr6 x n];by_cases h:x = (n:Int)
  ·rw [if_pos h,if_neg (by omega),if_pos (by omega)]
  ·rw [if_neg h];by_cases h2:0≤x/\x < n
   ·rw [if_pos h2,if_pos (by omega)]
   ·rw [if_neg h2,if_neg (by omega)]
theorem qpb (x:Nat) (n:Nat):qek (fun j=>if x = j then 1 else 0) n = if x < n then 1 else 0:=by
 have:=qr6 (x:Int) n
 have e:(fun j:Nat=>if (x:Int) = (j:Int) then 1 else 0) = fun j:Nat=>if x = j then 1 else 0:=by
  funext j; by_cases h:x = j
  ·simp [h]
  ·rw [if_neg h,if_neg (by omega)]
 rw [e] at this;rw [this];by_cases h:x < n
 ·rw [if_pos h,if_pos (by omega)]
 ·rw [if_neg h,if_neg (by omega)]
theorem qwx {f:Nat->Nat} {n:Nat} (h1:∀ j,j < n->f j≤1) (h:n≤qek f n):∀ j,j < n->f j = 1:=by
 induction n with
 | zero=>intro j hj; omega
 | succ n ih=>
  have hle:=qe0 (f:=f) (g:=fun _=>1) (n:=n) fun j hj=>h1 j (by omega);rw [qc7] at hle;have hn:=h1 n (by omega);simp only [qek] at h;intro j hj;by_cases e:j = n
  ·subst e; omega
  ·exact ih (fun j hj=>h1 j (by omega)) (by omega) j (by omega)
theorem qe1 {n:Nat}:∀ {R:List Nat},R.Nodup->(∀ i ∈ R,i < n)->qek (fun i=>if i ∈ R then 1 else 0) n = R.length
 | [],_,_=>by simpa using qkm n
 | x :: R,hn,hl=>by
  obtain ⟨h1,h2⟩:=List.nodup_cons.1 hn
  have e:∀ i,(if i ∈ x :: R then 1 else 0) = (if x = i then 1 else 0) + (if i ∈ R then 1 else 0):=by
   intro i;by_cases h:x = i
   ·subst h; simp [h1]
   ·have h':¬ i = x:=fun e=>h e.symm;simp [h,h']
  rw [qto e,qm9,qpb,if_pos (hl x List.mem_cons_self),qe1 h2 fun i hi=>hl i (List.mem_cons_of_mem _ hi)];simp; omega
theorem qhm {n:Nat} {R:List Nat} (hn:R.Nodup) (hl:∀ i ∈ R,i < n):R.length≤n:=by
 rw [<- qe1 hn hl];have:=qe0 (f:=fun i=>if i ∈ R then 1 else 0) (g:=fun _=>1) (n:=n) fun j _=>by split <;> omega
 rw [qc7] at this; omega
theorem qc4 {n:Nat} {R:List Nat} (hn:R.Nodup) (hl:∀ i ∈ R,i < n) (h:n≤R.length):∀ i,i < n->i ∈ R:=by
 intro i hi;rw [<- qe1 hn hl] at h;have:=qwx (fun j _=>by split <;> omega) h i hi;split at this
 ·assumption
 ·omega
def mx (f:Nat->Nat) (l:List Nat):Nat:=l.foldr (fun x m=>max (f x + 1) m) 0
@[simp] theorem mx_nil (f:Nat->Nat):mx f [] = 0:=rfl
@[simp] theorem qp7 (f:Nat->Nat) (x:Nat) (l:List Nat):mx f (x :: l) = max (f x + 1) (mx f l):=rfl
theorem qsu {f:Nat->Nat} {x:Nat}:∀ {l:List Nat},x ∈ l->f x + 1≤mx f l
 | y :: l,h=>by
  rcases List.mem_cons.1 h with rfl | h
  ·simp; omega
  ·have:=qsu (f:=f) h; simp; omega
theorem q6p (f:Nat->Nat):∀ (l:List Nat),mx f l = 0∨∃ x ∈ l,mx f l = f x + 1
 | []=>.inl rfl
 | y :: l=>by
  right;rcases q6p f l with h | ⟨x,hx,h⟩
  ·exact ⟨y,List.mem_cons_self,by simp [h]⟩
  ·by_cases hc:f y + 1≤mx f l
   ·exact ⟨x,List.mem_cons_of_mem _ hx,by simp [<- h]; omega⟩
   ·exact ⟨y,List.mem_cons_self,by simp; omega⟩
theorem qhl {f g:Nat->Nat}:∀ {l:List Nat},(∀ x ∈ l,f x = g x)->mx f l = mx g l
 | [],_=>rfl
 | y :: l,h=>by simp [h y List.mem_cons_self,qhl (l:=l) fun x hx=>h x (List.mem_cons_of_mem _ hx)]
def qkt (n:Nat) (g:Nat->List Nat) (f:Nat->Nat):Prop:=∀ i,i < n->f i = mx f (g i)
variable {n:Nat} {g:Nat->List Nat} {f f':Nat->Nat}
theorem qkt.unique (hg:∀ i,i < n->∀ x ∈ g i,x < n) (h:qkt n g f) (h':qkt n g f'):∀ i,i < n->f i = f' i:=by
 have:∀ k i,i < n->f i≤k->f i = f' i:=by
  intro k
  induction k with
  | zero=>
   intro i hi hk;rw [h i hi] at hk ⊢
   have:g i = []:=by
    cases hgi:g i with
    | nil=>rfl
    | cons x l=>rw [hgi] at hk; simp at hk
   rw [h' i hi,this]; rfl
  | succ k ih=>
   intro i hi hk;rw [h i hi,h' i hi];refine qhl fun x hx=>ih x (hg i hi x hx) ?_;have:=qsu (f:=f) hx;rw [h i hi] at hk;omega
 intro i hi;exact this _ i hi (jki _)
theorem qkt.below (hg:∀ i,i < n->∀ x ∈ g i,x < n) (h:qkt n g f):∀ k i,i < n->f i = k->∀ v,v≤k->∃ j,j < n/\f j = v:=by
 intro k
 induction k with
 | zero=>intro i hi hk v hv; exact ⟨i,hi,by omega⟩
 | succ k ih=>
  intro i hi hk v hv;by_cases e:v = k + 1
  ·exact ⟨i,hi,by omega⟩
  ·rcases q6p f (g i) with h0 | ⟨x,hx,h0⟩
   ·rw [<- h i hi] at h0; omega
   ·rw [<- h i hi] at h0;exact ih x (hg i hi x hx) (by omega) v (by omega)
theorem qkt.lt (hg:∀ i,i < n->∀ x ∈ g i,x < n) (h:qkt n g f):∀ i,i < n->f i < n:=by
 intro i hi
 have h1:∀ v,v < f i + 1->1≤qek (fun j=>if f j = v then 1 else 0) n:=by
  intro v hv;obtain ⟨j,hj,rfl⟩:=h.below hg (f i) i hi rfl v (by omega);have hle:=q3l (fun k=>if f k = f j then 1 else 0) (show j + 1≤n from hj);simp only [qek,if_true] at hle;omega
 have h2:=qe0 (f:=fun _=>1) (g:=fun v=>qek (fun j=>if f j = v then 1 else 0) n) h1;rw [qc7,qpc] at h2
 have h3:=qe0 (f:=fun j=>qek (fun v=>if f j = v then 1 else 0) (f i + 1)) (g:=fun _=>1) (n:=n) fun j _=>by
  rw [qpb]; split <;> omega
 rw [qc7] at h3;omega
theorem qkt.none (h:qkt n g f) {S:Nat->Prop} (hS:∀ i,i < n->S i->∃ x ∈ g i,x < n/\S x):∀ i,i < n->¬ S i:=by
 have:∀ k i,i < n->f i≤k->¬ S i:=by
  intro k
  induction k with
  | zero=>
   intro i hi hk hs;obtain ⟨x,hx,_,_⟩:=hS i hi hs;have:=qsu (f:=f) hx;rw [h i hi] at hk; omega
  | succ k ih=>
   intro i hi hk hs;obtain ⟨x,hx,hxn,hsx⟩:=hS i hi hs;have:=qsu (f:=f) hx;rw [h i hi] at hk;exact ih x hxn (by omega) hsx
 intro i hi;exact this _ i hi (jki _)
def qmz (T:List Nat) (l:List Nat):List Nat:=l.filter fun x=>!(T.contains x)
def qpf (T:List Nat) (l:List Nat):List Nat:=l.filter fun x=>T.contains x
structure KI (n:Nat) (g:Nat->List Nat) (d:Nat) (R:List Nat) (lf ou:Nat->Nat):Prop where
 nod:R.Nodup
 lt:∀ i ∈ R,i < n
 dle:d≤R.length
 left:∀ i,i < n->lf i = (qmz (R.take d) (g i)).length
 mem:∀ i,i < n->(i ∈ R↔lf i = 0)
 out:∀ i,i < n->ou i = mx ou (qpf (R.take d) (g i))
variable {d:Nat} {R S:List Nat} {left out c:Nat->Nat} {m:Nat}
theorem qhn {T l:List Nat}:(qmz T l).length = 0↔∀ x ∈ l,x ∈ T:=by
 unfold qmz;rw [List.length_eq_zero_iff,List.filter_eq_nil_iff];simp
theorem qyf {T l:List Nat} (h:∀ x ∈ l,x ∈ T):qpf T l = l:=by
 unfold qpf;rw [List.filter_eq_self];simpa using h
theorem KI.deps (h:KI n g d R left out) {i:Nat} (hi:i ∈ R):∀ x ∈ g i,x ∈ R.take d:=by
 have h1:=h.lt i hi;have h2:=(h.mem i h1).1 hi;rw [h.left i h1] at h2;exact qhn.1 h2
theorem KI.full (h:KI n g R.length R left out) (hn:n≤R.length):qkt n g out:=by
 intro i hi;have hR:=qc4 h.nod h.lt hn;rw [h.out i hi,qyf fun x hx=>h.deps (hR i hi) x hx]
theorem KI.stuck (hg:∀ i,i < n->∀ x ∈ g i,x < n) (h:KI n g R.length R left out) (hn:R.length < n):¬ ∃ f,qkt n g f:=by
 rintro ⟨f,hf⟩
 have key:=hf.none (S:=fun i=>i ∉ R) fun i hi hs=>by
  have h1:left i ≠ 0:=fun e=>hs ((h.mem i hi).2 e);rw [h.left i hi,List.take_length] at h1;have h2:¬ ∀ x ∈ g i,x ∈ R:=fun q=>h1 (qhn.2 q);simp only [Classical.not_forall] at h2;obtain ⟨x,hx,hxr⟩:=h2;exact ⟨x,hx,hg i hi x hx,hxr⟩
 have hall:∀ i,i < n->i ∈ R:=fun i hi=>Classical.not_not.1 (key i hi);have:qek (fun i=>if i ∈ R then 1 else 0) n = qek (fun _=>1) n:=qkl fun j hj=>by rw [if_pos (hall j hj)]
 rw [qe1 h.nod h.lt,qc7] at this;omega
structure KJ (n:Nat) (g:Nat->List Nat) (R:List Nat) (left out:Nat->Nat) (m:Nat) (c:Nat->Nat) (S:List Nat):Prop where
 cle:∀ i,i < n->c i≤(g i).count m
 nod:S.Nodup
 mem:∀ i,i ∈ S↔i < n/\0 < c i/\left i = c i
theorem KI.start (_h:KI n g d R left out):KJ n g R left out m (fun _=>0) []:=⟨fun _ _=>Nat.zero_le _,List.nodup_nil,by simp⟩
theorem qh8 {T:List Nat} {m:Nat} (hm:m ∉ T):∀ l:List Nat,(qmz T l).length = (qmz (T ++ [m]) l).length + l.count m
 | []=>rfl
 | x :: l=>by
  have ih:=qh8 hm l;unfold qmz at ih ⊢;simp only [List.filter_cons,List.contains_eq_mem,List.mem_append,List.mem_singleton,List.count_cons] at ih ⊢;by_cases h1:x = m
  ·subst h1; simp [hm] at ih ⊢; omega
  ·by_cases h2:x ∈ T <;> simp [h1,h2] at ih ⊢ <;> omega
theorem KI.count_le (h:KI n g d R left out) (hd:R[d]? = some m) {i:Nat} (hi:i < n):(g i).count m≤left i:=by
 have hm:m ∉ R.take d:=by
  intro hx;obtain ⟨k,hk,hkm⟩:=List.getElem_of_mem hx;obtain ⟨hd1,hd2⟩:=List.getElem?_eq_some_iff.1 hd;simp at hk;exact (List.pairwise_iff_getElem.1 h.nod) k d (by omega) hd1 (by omega) (by rw [hd2,<- hkm]; simp)
 rw [h.left i hi,qh8 hm]; omega
theorem KI.fresh (h:KI n g d R left out) (hd:R[d]? = some m):m ∉ R.take d:=by
 intro hx;obtain ⟨k,hk,hkm⟩:=List.getElem_of_mem hx;obtain ⟨hd1,hd2⟩:=List.getElem?_eq_some_iff.1 hd;simp at hk;exact (List.pairwise_iff_getElem.1 h.nod) k d (by omega) hd1 (by omega) (by rw [hd2,<- hkm]; simp)
theorem KJ.step (h:KJ n g R left out m c S) {i:Nat} (hi:i < n) (hc:c i < (g i).count m) (hle:(g i).count m≤left i) :
  KJ n g R left out m (qc0 c i (c i + 1)) (if left i - (c i + 1) = 0 then S ++ [i] else S):=by
 have hnot:left i ≠ c i:=by omega
 refine ⟨fun j hj=>?_,?_,fun j=>?_⟩
 ·by_cases e:j = i
  ·subst e; simp; omega
  ·rw [qbv _ _ e]; exact h.cle j hj
 ·split
  ·rw [List.nodup_append];refine ⟨h.nod,by simp,fun a ha b hb=>?_⟩;simp at hb; subst hb;rintro rfl;exact hnot ((h.mem a).1 ha).2.2
  ·exact h.nod
 ·have hi':i ∉ S:=fun hm=>hnot ((h.mem i).1 hm).2.2;by_cases e:j = i
  ·subst e;rw [qcx];split
   ·simp [hi]; omega
   ·simp [hi',hi]; omega
  ·rw [qbv _ _ e];split
   ·simp [e,h.mem j]
   ·exact h.mem j
theorem qod (T:List Nat) (x:Nat) (l:List Nat):qpf T (x :: l) = if x ∈ T then x :: qpf T l else qpf T l:=by
 unfold qpf;by_cases h:x ∈ T <;> simp [h]
theorem qir {T:List Nat} {m:Nat} (hm:m ∉ T) (f:Nat->Nat):∀ l:List Nat,mx f (qpf (T ++ [m]) l) = if m ∈ l then max (mx f (qpf T l)) (f m + 1) else mx f (qpf T l)
 | []=>by simp [qpf]
 | x :: l=>by
  have ih:=qir hm f l;rw [qod,qod];by_cases h1:x = m
  ·subst h1;rw [if_pos (by simp),if_neg hm,if_pos List.mem_cons_self,qp7,ih];split <;> omega
  ·have h1':¬ m = x:=fun e=>h1 e.symm;have hmem:(m ∈ x :: l) = (m ∈ l):=by simp [h1']
   simp only [hmem];by_cases h2:x ∈ T
   ·rw [if_pos (by simp [h2]),if_pos h2,qp7,ih,qp7];split <;> omega
   ·rw [if_neg (by simp [h1,h2]),if_neg h2,ih]
theorem KJ.done (h:KI n g d R left out) (hd:R[d]? = some m) (hj:KJ n g R left out m c S) (hall:∀ i,i < n->c i = (g i).count m) :
  KI n g (d + 1) (R ++ S) (fun i=>left i - c i) (fun i=>if 0 < c i then max (out i) (out m + 1) else out i):=by
 have hd1:d < R.length:=(List.getElem?_eq_some_iff.1 hd).1;have hm:=h.fresh hd;have hmR:m ∈ R:=List.mem_of_getElem? hd;have hmn:=h.lt m hmR
 have htake:(R ++ S).take (d + 1) = R.take d ++ [m]:=by
  rw [List.take_append_of_le_length (by omega),List.take_add_one,hd]; rfl
 have hRc:∀ x,x ∈ R->c x = 0:=fun x hx=>by
  have h1:=h.lt x hx;have h2:=(h.mem x h1).1 hx;have h3:=h.count_le hd h1;have:=hj.cle x h1;omega
 have hleft:∀ i,i < n->left i - c i = (qmz (R.take d ++ [m]) (g i)).length:=fun i hi=>by
  rw [hall i hi,h.left i hi,qh8 hm]; omega
 refine ⟨?_,fun i hi=>?_,by simp; omega,fun i hi=>by rw [htake]; exact hleft i hi,fun i hi=>?_,fun i hi=>?_⟩
 ·rw [List.nodup_append];refine ⟨h.nod,hj.nod,fun a ha b hb=>?_⟩;rintro rfl;have:=((hj.mem a).1 hb).2.1;have:=hRc a ha;omega
 ·rcases List.mem_append.1 hi with q | q
  ·exact h.lt i q
  ·exact ((hj.mem i).1 q).1
 ·have hcl:=hj.cle i hi;have hle:=h.count_le hd hi;rw [List.mem_append,h.mem i hi,hj.mem i];constructor
  ·rintro (q | ⟨_,q,r⟩) <;> omega
  ·intro q;by_cases e:c i = 0
   ·left; omega
   ·right; exact ⟨hi,by omega,by omega⟩
 ·rw [htake];have hout:∀ x,x ∈ R->(fun i=>if 0 < c i then max (out i) (out m + 1) else out i) x = out x:=fun x hx=>by simp [hRc x hx]
  have e1:mx (fun i=>if 0 < c i then max (out i) (out m + 1) else out i) (qpf (R.take d ++ [m]) (g i)) = mx out (qpf (R.take d ++ [m]) (g i)):=qhl fun x hx=>by
   refine hout x ?_;unfold qpf at hx;have:=(List.mem_filter.1 hx).2;simp only [List.contains_eq_mem,List.mem_append,List.mem_singleton,decide_eq_true_eq] at this;rcases this with q | rfl
   ·exact List.mem_of_mem_take q
   ·exact hmR
  rw [e1,qir hm,hall i hi,<- h.out i hi];by_cases h3:m ∈ g i
  ·rw [if_pos h3,if_pos (List.count_pos_iff.2 h3)]
  ·rw [if_neg h3,if_neg (fun q=>h3 (List.count_pos_iff.1 q))]
end
section
open Go
theorem qhd {sz:Nat} {xs:List V} {v:V} {h:Hp} (hf:qku sz xs v h):(xs = []/\v = .sl [] (some 0)/\h = [])∨qxg sz xs (some xs.length) v h:=hf
theorem jd1 (c:Ci) (ks:List Int) (cap:Option Nat) (hl:c.n.length < 1000000) (hk:ks.length < 1000000000000):qce Tryz.prog gl0 116 [c.v,.sl (ks.map (.int .u8)) cap] (qxg 1 (qlv ks c.n 0) (some (qlv ks c.n 0).length)):=
 qce.one (jd2 c ks cap hl hk) fun _ _ h=>qhd h
theorem qwv (c:Ci) (hl:c.n.length < 1000000):qac Tryz.prog gl0 41 [c.v] (.sl (qlv [14] c.n 0) (some (qlv [14] c.n 0).length)):=
 ji8 (qce.one (qr5 c hl) fun _ _ h=>qhd h) (qeb _ c.n 0).2
@[simp] theorem q0j (c:Ci):(qgj c).length = c.n.length:=by simp [qgj]
theorem qv1 (w:Int) (i:Nat):∀ (l:List Int) (k:Nat),(qqf w i l k).length≤l.length
 | [],k=>by simp [qqf]
 | x :: l,k=>by
  have:=qv1 w i l (k + 1);simp only [qqf];split <;> simp <;> omega
theorem qhs (w:Int) (M:Nat):∀ (l:List Nd) (i:Nat),(∀ n ∈ l,n.i.length < M)->(qfm w l i).length≤l.length * M
 | [],i,_=>by simp [qfm]
 | x :: l,i,h=>by
  have h1:=qhs w M l (i + 1) fun n hn=>h n (List.mem_cons_of_mem _ hn);have h2:=qv1 w i x.i 0;have h3:=h x List.mem_cons_self;simp only [qfm,List.length_append,List.length_cons,Nat.add_mul];omega
theorem quw (c:Ci) (i:Nat) (h:i < (qgj c).length):(qgj c)[i] = qhi (qfm (i:Int) c.n 0):=by simp [qgj]
end
section
open Go
def qdz (k:Int):Bool:=decide (1≤k/\k≤13)
def Ci.nd (c:Ci) (i:Nat):Nd:=c.n.getD i default
def Ci.g (c:Ci) (i:Nat):List Nat:=if qdz (c.nd i).k = true then (c.nd i).i.map Int.toNat else []
structure Ci.val (c:Ci):Prop where
 i:∀ j,j < c.n.length->∀ x ∈ (c.nd j).i,0≤x/\x < c.n.length
 l:∀ j,j < c.n.length->(c.nd j).i.length≤16
theorem Ci.nd_get (c:Ci) {i:Nat} (h:i < c.n.length):c.nd i = c.n[i]:=by simp [Ci.nd,h]
theorem Ci.val.g {c:Ci} (h:c.val):∀ i,i < c.n.length->∀ x ∈ c.g i,x < c.n.length:=by
 intro i hi x hx;unfold Ci.g at hx;split at hx
 ·obtain ⟨y,hy,rfl⟩:=List.mem_map.1 hx;have:=h.i i hi y hy;omega
 ·simp at hx
def qv2 (w:Int) (i:Nat):List Int->Nat->List (Nat × Nat)
 | [],_=>[]
 | x :: r,k=>if x = w then (i,k) :: qv2 w i r (k + 1) else qv2 w i r (k + 1)
def qne (w:Int):List Nd->Nat->List (Nat × Nat)
 | [],_=>[]
 | n :: r,i=>qv2 w i n.i 0 ++ qne w r (i + 1)
def qoh (p:Nat × Nat):V:=qmq p.1 p.2
theorem q0z (w:Int) (i:Nat):∀ (l:List Int) (k:Nat),qqf w i l k = (qv2 w i l k).map qoh
 | [],_=>rfl
 | x :: l,k=>by
  simp only [qqf,qv2];split <;> simp [q0z w i l (k + 1),qoh]
theorem qg1 (w:Int):∀ (l:List Nd) (i:Nat),qfm w l i = (qne w l i).map qoh
 | [],_=>rfl
 | x :: l,i=>by simp [qfm,qne,q0z,qg1 w l (i + 1)]
def qcm (i:Nat) (l:List (Nat × Nat)):Nat:=(l.filter fun p=>p.1 == i).length
theorem qp0 (i:Nat) (a b:List (Nat × Nat)):qcm i (a ++ b) = qcm i a + qcm i b:=by simp [qcm]
theorem qea (i:Nat) (p:Nat × Nat) (b:List (Nat × Nat)):qcm i (p :: b) = (if p.1 = i then 1 else 0) + qcm i b:=by
 unfold qcm;by_cases h:p.1 = i
 ·simp [h]; omega
 ·simp [h]
theorem qv3 (w:Int) (i j:Nat):∀ (l:List Int) (k:Nat),qcm j (qv2 w i l k) = if i = j then l.count w else 0
 | [],_=>by simp [qv2,qcm]
 | x :: l,k=>by
  have ih:=qv3 w i j l (k + 1);simp only [qv2,List.count_cons];by_cases h:x = w
  ·simp only [h,if_true,qea,ih];by_cases e:i = j <;> simp [e]; omega
  ·simp only [h,if_false,ih];by_cases e:i = j <;> simp [e,h]
theorem quv (w:Int) (j:Nat):∀ (l:List Nd) (i:Nat),qcm j (qne w l i) = if i≤j then ((l.getD (j - i) default).i).count w else 0
 | [],i=>by
  have:(default:Nd).i = []:=rfl;simp [qne,qcm,this]
 | x :: l,i=>by
  simp only [qne,qp0,qv3,quv w j l (i + 1)];by_cases h:i = j
  ·subst h; rw [if_pos rfl,if_neg (by omega),if_pos (jki _)]; simp
  ·by_cases h2:i≤j
   ·rw [if_neg h,if_pos (by omega),if_pos h2];rw [show j - i = (j - (i + 1)) + 1 by omega];simp
   ·rw [if_neg h,if_neg (by omega),if_neg h2]
theorem qm4 (w:Int) (i:Nat):∀ (l:List Int) (k:Nat) (p:Nat × Nat),p ∈ qv2 w i l k->p.1 = i
 | [],k,p,h=>by simp [qv2] at h
 | x :: l,k,p,h=>by
  simp only [qv2] at h;split at h
  ·rcases List.mem_cons.1 h with rfl | h
   ·rfl
   ·exact qm4 w i l _ p h
  ·exact qm4 w i l _ p h
theorem qi9 (w:Int):∀ (l:List Nd) (i:Nat) (p:Nat × Nat),p ∈ qne w l i->i≤p.1/\p.1 < i + l.length
 | [],i,p,h=>by simp [qne] at h
 | x :: l,i,p,h=>by
  simp only [qne,List.mem_append] at h;rcases h with h | h
  ·have:=qm4 w i _ _ p h; simp; omega
  ·have:=qi9 w l _ p h; simp; omega
theorem qjw (m:Nat):∀ (l:List Int),(∀ x ∈ l,0≤x)->(l.map Int.toNat).count m = l.count (m:Int)
 | [],_=>rfl
 | x :: l,h=>by
  have h1:=qjw m l fun y hy=>h y (List.mem_cons_of_mem _ hy);have h2:=h x List.mem_cons_self;simp only [List.map_cons,List.count_cons,h1];by_cases e:x = (m:Int)
  ·subst e; simp
  ·have:¬ x.toNat = m:=by omega
   simp [e,this]
def Ci.rem (c:Ci) (l:List (Nat × Nat)) (i:Nat):Nat:=if qdz (c.nd i).k = true then qcm i l else 0
theorem Ci.rem_all {c:Ci} (h:c.val) (m:Nat) {i:Nat} (hi:i < c.n.length):c.rem (qne (m:Int) c.n 0) i = (c.g i).count m:=by
 unfold Ci.rem Ci.g;split
 ·rw [quv,qjw m _ fun x hx=>(h.i i hi x hx).1];simp [Ci.nd]
 ·simp
def qgk (c:Ci):Prop:=∃ f,qkt c.n.length c.g f
noncomputable def qew (c:Ci):Nat->Nat:=Classical.epsilon fun f=>qkt c.n.length c.g f
theorem qgk.lv {c:Ci} (h:qgk c):qkt c.n.length c.g (qew c):=Classical.epsilon_spec h
def qab (n:Nat):V:=.int .i64 (n:Int)
def qaf (l:List Nat):List V:=l.map qab
@[simp] theorem qcp (l:List Nat):(qaf l).length = l.length:=by simp [qaf]
theorem qay (l:List Nat):jid (qaf l) = true:=pureL_map (fun _=>rfl) l
end
section
open Go
theorem qjh (k:Int):qac Tryz.prog gl0 30 [.int .u8 k] (.bool (qdz k)):=q0d k
open Classical in
noncomputable def qsz (c:Ci) (e:Int):V:=if e ≠ 0 then .tup [.nil,.int .i64 e] else if qgk c then .tup [.sl (tab c.n.length fun i=>qab (qew c i)) (some c.n.length),.int .i64 0] else .tup [.nil,.int .i64 6]
def qhh (c:Ci) (i:Nat):Nat->Nat:=fun j=>if j < i then (c.g j).length else 0
theorem qbg (x:Nat) (h:x < 1000000000000000000):IntKind.i64.wrap ((x:Int) + 1) = ((x + 1:Nat):Int):=by rw [qas] <;> omega
theorem qlr {c:Ci} {i:Nat} {v:Nat} (hv:v = (c.g i).length) (n:Nat):tab n (qc0 (fun j=>V.int .i64 (qhh c i j:Int)) i (.int .i64 (v:Int))) = tab n fun j=>V.int .i64 (qhh c (i + 1) j:Int):=by
 refine qa3 fun j _=>?_;by_cases e:j = i
 ·subst e; simp [qhh,hv]
 ·rw [qbv _ _ e];unfold qhh;by_cases h:j < i
  ·rw [if_pos h,if_pos (by omega)]
  ·rw [if_neg h,if_neg (by omega)]
theorem qsv {c:Ci} {i:Nat} (hv:(c.g i).length = 0) (n:Nat):(tab n fun j=>V.int .i64 (qhh c i j:Int)) = tab n fun j=>V.int .i64 (qhh c (i + 1) j:Int):=by
 rw [<- qlr (v:=0) hv.symm n];refine qa3 fun j _=>?_;by_cases e:j = i
 ·subst e; simp [qhh]
 ·rw [qbv _ _ e]
theorem qc6 (i:Nat) (p:Nat->Bool):(List.range (i + 1)).filter p = (List.range i).filter p ++ if p i = true then [i] else []:=by
 rw [List.range_succ,List.filter_append];by_cases h:p i = true <;> simp [h]
theorem qfz (a b:List Nat):qaf (a ++ b) = qaf a ++ qaf b:=by simp [qaf]
theorem qri (h:Hp) (n:Nat) (a:V) (k:IntKind) (i:Int):frz h n (.tup [a,.int k i]) = .tup [frz h n a,.int k i]:=by
 cases n <;> simp [frz]
theorem qu0 {h:Hp} {m b g n sz:Nat} {cap:Option Nat} {f:Nat->V} (hb:lk h b = some (.row g sz (tab n f))) (hf:∀ i,(f i).pure = true):frz h (m + 1) (.ref b g 0 n cap) = .sl (tab n f) cap:=by
 rw [qcl hb (by simp),List.drop_zero,jkf (by simp),qdr _ _ (qnb hf)]
def qtw (out:Nat->Nat) (m:Nat) (cc:Nat->Nat) (i:Nat):Nat:=if 0 < cc i then max (out i) (out m + 1) else out i
structure LJ where
 k:Nat
 ga:Nat
 l:List V
 S:List Nat
 cc:Nat->Nat
structure LS where
 d:Nat
 acc:Option (Nat × List V)
 R:List Nat
 left:Nat->Nat
 out:Nat->Nat
theorem qyk (c:Ci) (e:Int) (hsh:qac Tryz.prog gl0 155 [c.v] (.int .i64 e)) (hv:e = 0->c.val) (hl:e = 0->c.n.length < 1000000):qac Tryz.prog gl0 92 [c.v] (qsz c e):=by
 obtain ⟨q,hq⟩:∃ r,qsz c e = r:=⟨_,rfl⟩;rw [hq];unfold qsz at hq;refine jj7 2 ok92 rfl ?_;simp [i92,x92,Ci.v];intro gf;refine jj4 hsh (by simp) ?_;simp;refine jj5 (fun he=>?_) (fun he=>?_)
 ·have he0:e = 0:=by simpa using he
  rw [if_neg (by simpa using he0)] at hq;have hv:=hv he0;have hl:=hl he0;have hle:c.n.length≤549755813888:=by omega
  simp [hle];intro gf2 gf3;generalize gf 1 = g1;generalize gf2 23 = g23;generalize gf3 27 = g27;clear gf gf2 gf3
  refine jj6 (X:=Nat × Option (Nat × List V)) (fun x=>[(31,qab x.1),(30,qab c.n.length),(29,.sl (c.n.map Nd.v) none),(7,qbe 53 x.2),(6,.ref 27 g27 0 c.n.length (some c.n.length)),(5,.ref 23 g23 0 c.n.length (some c.n.length)),(1,.ptr 1 g1 0 0)])
   (fun x=>(27,.row g27 1 (tab c.n.length fun j=>qab (qhh c x.1 j))) :: (23,.row g23 1 (tab c.n.length fun _=>qab 0)) :: (1,.row g1 4 [c.v]) :: qbj 53 1 x.2)
   (fun x=>x.1≤c.n.length/\(x.2 = none∨qav x.2 ≠ [])/\qav x.2 = qaf ((List.range x.1).filter fun j=>(c.g j).length == 0)) (fun x=>c.n.length - x.1) (0,none) ?_ ?_ ?_ ?_
  ·exact ⟨by simp,.inl rfl,rfl⟩
  ·simp [qbe,qab]
  ·simp [qbj,qhv,qab,qhh,Ci.v]
  ·rintro ⟨i,acc⟩ ⟨h1,h2,h3⟩;dsimp only at h1 h2 h3;simp [qab,Ci.v];refine jj5 (fun hb=>?_) (fun hb=>?_)
   ·have hi:i < c.n.length:=jkb hb;have hw:=qbg i (by omega);simp [hi,Nd.v];intro gf9;generalize gf9 9 = g9;refine jj4 (qjh _) (by simp) ?_;simp;have hga:∀ b,qdz c.n[i].k = b->c.g i = if b = true then c.n[i].i.map Int.toNat else []:=fun b hb=>by unfold Ci.g; rw [Ci.nd_get c hi,hb]
    have hlen3:(qav acc).length≤i:=by
     rw [h3,qcp];exact Nat.le_trans (List.length_filter_le _ _) (by simp)
    refine jj5 (fun hk=>?_) (fun hk=>?_)
    ·have hgl:c.n[i].i.length = (c.g i).length:=by rw [hga _ hk]; simp
     simp [hi,qa0,qc8,qlr hgl];have hla:qhh c (i + 1) i = (c.g i).length:=by simp [qhh]
     refine jj5 (fun hz=>?_) (fun hz=>?_)
     ·have hz0:(c.g i).length = 0:=by rw [<- hla]; exact jkb hz
      have hR:qaf ((List.range (i + 1)).filter fun j=>(c.g j).length == 0) = qav acc ++ [qab i]:=by rw [qc6,if_pos (by simpa using hz0),qfz,h3]; rfl
      cases acc with
      | none=>
       simp [qbe,qbj,hw];refine fun gf1 gf2=>⟨i + 1,some (gf2 53,[qab i]),?_⟩;simp [qav,qab] at hR ⊢;exact ⟨⟨hi,hR.symm⟩,by omega⟩
      | some gl=>
       obtain ⟨g,l⟩:=gl;simp only [qav] at hlen3 h3 hR;have hle2:l.length + 1≤274877906944:=by omega
       simp [qbe,qbj,hw,hle2];refine fun gf1 gf2=>⟨i + 1,some (gf2 53,l ++ [qab i]),?_⟩;simp [qav,qab] at hR ⊢;exact ⟨⟨hi,hR.symm⟩,by omega⟩
     ·have hz0:(c.g i).length ≠ 0:=by rw [<- hla]; exact jkc hz
      have hR:qaf ((List.range (i + 1)).filter fun j=>(c.g j).length == 0) = qav acc:=by rw [qc6,if_neg (by simpa using hz0),List.append_nil,h3]
      simp [hw];exact ⟨i + 1,acc,⟨hi,h2,hR.symm⟩,⟨rfl,rfl⟩,by cases acc <;> simp [qbj],by omega⟩
    ·have hgl:(c.g i).length = 0:=by rw [hga _ hk]; simp
     have hR:qaf ((List.range (i + 1)).filter fun j=>(c.g j).length == 0) = qav acc ++ [qab i]:=by rw [qc6,if_pos (by simpa using hgl),qfz,h3]; rfl
     simp only [qsv hgl];have hla:qhh c (i + 1) i = 0:=by simp [qhh,hgl]
     cases acc with
     | none=>
      simp [hi,qa0,hla,qbe,qbj,hw];refine fun gf1 gf2=>⟨i + 1,some (gf2 53,[qab i]),?_⟩;simp [qav,qab] at hR ⊢;exact ⟨⟨hi,hR.symm⟩,by omega⟩
     | some gl=>
      obtain ⟨g,l⟩:=gl;simp only [qav] at hlen3 h3 hR;have hle2:l.length + 1≤274877906944:=by omega
      simp [hi,qa0,hla,qbe,qbj,hw,hle2];refine fun gf1 gf2=>⟨i + 1,some (gf2 53,l ++ [qab i]),?_⟩;simp [qav,qab] at hR ⊢;exact ⟨⟨hi,hR.symm⟩,by omega⟩
   ·have hi:i = c.n.length:=by have:=jkc hb; omega
    subst hi;simp
    have hin:∀ x ∈ c.n,x.i.length < 17:=fun x hx=>by
     obtain ⟨j,hj,rfl⟩:=List.getElem_of_mem hx;have:=hv.l j hj;rw [c.nd_get hj] at this;omega
    refine jj4 (qrg c hl (fun x hx=>by have:=hin x hx; omega) fun j=>?_) (by simp) ?_
    ·have:=qhs j 17 c.n 0 hin;omega
    simp
    have hK:KI c.n.length c.g 0 ((List.range c.n.length).filter fun j=>(c.g j).length == 0) (fun j=>(c.g j).length) (fun _=>0):=by
     refine ⟨List.nodup_range.filter _,fun j hj=>by simpa using (List.mem_filter.1 hj).1,Nat.zero_le _,fun j hj=>?_,fun j hj=>by simp [hj],fun j hj=>?_⟩
     ·have:qmz (List.take 0 ((List.range c.n.length).filter fun j=>(c.g j).length == 0)) (c.g j) = c.g j:=by unfold qmz; rw [List.filter_eq_self]; simp
      rw [this]
     ·have:qpf (List.take 0 ((List.range c.n.length).filter fun j=>(c.g j).length == 0)) (c.g j) = []:=by unfold qpf; rw [List.filter_eq_nil_iff]; simp
      rw [this]; rfl
    refine jj6 (X:=LS) (fun x=>[(11,qab x.d),(10,.sl (qgj c) (some c.n.length)),(7,qbe 53 x.acc),(6,.ref 27 g27 0 c.n.length (some c.n.length)),(5,.ref 23 g23 0 c.n.length (some c.n.length)),(1,.ptr 1 g1 0 0)])
     (fun x=>(27,.row g27 1 (tab c.n.length fun j=>qab (x.left j))) :: (23,.row g23 1 (tab c.n.length fun j=>qab (x.out j))) :: (1,.row g1 4 [c.v]) :: qbj 53 1 x.acc)
     (fun x=>(x.acc = none∨qav x.acc ≠ [])/\qav x.acc = qaf x.R/\KI c.n.length c.g x.d x.R x.left x.out/\∀ j,j < c.n.length->x.out j≤x.d) (fun x=>c.n.length - x.d) ⟨0,acc,_,_,_⟩ ⟨h2,h3,hK,fun j hj=>jki _⟩ ?_ ?_ ?_
    ·simp [qab]
    ·refine ⟨?_,by simp [qab],by simp [Ci.v],by cases acc <;> simp [qbj]⟩;simp [qab];exact qa3 fun j hj=>by simp [qhh,hj]
    clear h1 h2 h3 hK hb acc;rintro ⟨d,acc,R,left,out⟩ ⟨h2,h3,hK,hout⟩;dsimp only at h2 h3 hK hout;have hRlen:(qav acc).length = R.length:=by rw [h3]; simp
    have hRn:=qhm hK.nod hK.lt;have hdle:=hK.dle
    have hstuck:d = R.length->d < c.n.length->V.tup [.nil,.int .i64 6] = q:=fun h1 h2=>by
     subst h1;rw [<- hq]; exact (if_neg (hK.stuck hv.g h2)).symm
    have hfull:d = R.length->¬ d < c.n.length->V.tup [.sl (tab c.n.length fun j=>qab (out j)) (some c.n.length),.int .i64 0] = q:=fun h1 h2=>by
     subst h1;have hlv:=hK.full (by omega);have hac:qgk c:=⟨out,hlv⟩;rw [<- hq];refine Eq.trans ?_ (if_pos hac).symm;congr 3;exact qa3 fun j hj=>by rw [hlv.unique hv.g hac.lv j hj]
    cases acc with
    | none=>
     have hR0:R = []:=by simp [qav] at hRlen; exact List.length_eq_zero_iff.1 hRlen.symm
     have hd0:d = R.length:=by subst hR0; simp at hdle; simp [hdle]
     subst hR0;simp at hd0;subst hd0;simp [qab,qbe,Ci.v];refine jj5 (fun hb=>?_) (fun hb=>?_)
     ·have:=hstuck rfl (jkb hb);simpa using this
     ·have:=hfull rfl (jkc hb);simp [-frz];rw [qri,qu0 (f:=fun j=>qab (out j)) (sz:=1) (g:=g23) (by simp [qab]) (fun _=>rfl)];exact this
    | some gl=>
     obtain ⟨ga,l⟩:=gl;simp only [qav] at hRlen h3 h2;simp [qab,qbe,qbj];refine jj5 (fun hb=>?_) (fun hb=>?_)
     ·have hd:d < R.length:=by have:=jkb hb; omega
      obtain ⟨m,hm⟩:∃ m,R[d]? = some m:=⟨_,jkh hd⟩;have hmR:m ∈ R:=List.mem_of_getElem? hm;have hmn:=hK.lt m hmR;have hld:d < l.length:=by omega
      have hlm:l[d] = qab m:=by
       have:l[d]? = some (qab m):=by rw [h3]; simp [qaf,hm]
       rw [jkh hld] at this;exact Option.some.inj this
      have hwd:=qbg d (by omega);have hfg:=quw c m (by simpa using hmn);rw [qg1] at hfg;simp [hld,hlm,qab,hwd,hmn,hfg,qhi];have hcnt:∀ i,i < c.n.length->c.rem (qne (m:Int) c.n 0) i = (c.g i).count m:=fun i hi=>c.rem_all hv m hi;have hmem:∀ p ∈ qne (m:Int) c.n 0,p.1 < c.n.length:=fun p hp=>by have:=qi9 _ _ _ p hp; omega
      have hLl:(qne (m:Int) c.n 0).length≤1000000000:=by
       have:=qhs (m:Int) 17 c.n 0 hin;rw [qg1,List.length_map] at this;omega
      generalize qne (m:Int) c.n 0 = P at hcnt hmem hLl hfg ⊢;refine jj5 (fun hz=>?_) (fun hz=>?_)
      ·have hP:P = []:=jkb hz;have hdone:=KJ.done hK hm hK.start fun i hi=>by rw [<- hcnt i hi,hP]; simp [Ci.rem,qcm]
       simp at hdone;simp;exact ⟨⟨d + 1,some (ga,l),R,left,out⟩,⟨.inr (by simpa [qav] using h2),h3,hdone,fun j hj=>by have:=hout j hj; simp only; omega⟩,by simp,by simp,by simp only; omega⟩
      ·simp [hmn,hfg,qhi]
       refine jj6 (X:=LJ) (fun x=>[(78,qab x.k),(77,qab P.length),(76,.sl (P.map qoh) (some P.length)),(12,qab m),(11,qab (d + 1)),(10,.sl (qgj c) (some c.n.length)),(7,.ref 53 x.ga 0 x.l.length none),(6,.ref 27 g27 0 c.n.length (some c.n.length)),(5,.ref 23 g23 0 c.n.length (some c.n.length)),(1,.ptr 1 g1 0 0)])
        (fun x=>[(27,.row g27 1 (tab c.n.length fun j=>qab (left j - x.cc j))),(23,.row g23 1 (tab c.n.length fun j=>qab (qtw out m x.cc j))),(1,.row g1 4 [c.v]),(53,.row x.ga 1 x.l)])
        (fun x=>x.k≤P.length/\x.l = qaf (R ++ x.S)/\KJ c.n.length c.g R left out m x.cc x.S/\∀ i,i < c.n.length->x.cc i + c.rem (P.drop x.k) i = (c.g i).count m) (fun x=>P.length - x.k) ⟨0,ga,l,[],fun _=>0⟩ ?_ ?_ ?_ ?_
       ·exact ⟨Nat.zero_le _,by simpa using h3,hK.start,fun i hi=>by simpa using hcnt i hi⟩
       ·simp [qab]
       ·simp [qab,qtw]
       clear hld hlm h3 h2 hRlen hb;rintro ⟨k,ga,l,S,cc⟩ ⟨h4,h5,h6,h7⟩;dsimp only at h4 h5 h6 h7;simp [qab];refine jj5 (fun hb=>?_) (fun hb=>?_)
       ·have hk:k < P.length:=jkb hb;have hwk:=qbg k (by omega);have hi:=hmem _ (jkg hk);simp [hk,qoh,qmq,hi,Nd.v,Ci.v];intro gf14;generalize gf14 14 = g14;refine jj4 (qjh _) (by simp) ?_;simp;obtain ⟨i,hpi⟩:∃ i,P[k].1 = i:=⟨_,rfl⟩;rw [hpi] at hi
        have hmm:cc m = 0:=by
         have h1:=h6.cle m hmn;have h2:=hK.count_le hm hmn;have h3:=(hK.mem m hmn).1 hmR;omega
        have h7i:=h7 i hi;rw [List.drop_eq_getElem_cons hk] at h7i;unfold Ci.rem at h7i;rw [qea,c.nd_get hi,if_pos hpi] at h7i;simp only [hpi];refine jj5 (fun hc=>?_) (fun hc=>?_)
        ·rw [if_pos hc] at h7i;have hle:=hK.count_le hm hi;have hstep:=h6.step hi (by omega) hle;obtain ⟨A,hA⟩:∃ A,left i - (cc i + 1) = A:=⟨_,rfl⟩;rw [hA] at hstep
         have hl16:left i≤16:=by
          rw [hK.left i hi];refine Nat.le_trans (List.length_filter_le _ _) ?_;have:=hv.l i hi;unfold Ci.g;split <;> simp [this]
         have hom:=hout m hmn;have hok:qtw out m cc m = out m:=by simp [qtw,hmm]
         have hw1:IntKind.i64.wrap (((left i - cc i:Nat):Int) - 1) = (A:Int):=by rw [qas] <;> omega
         have hw2:IntKind.i64.wrap (((qtw out m cc m:Nat):Int) + 1) = ((out m:Nat):Int) + 1:=by rw [hok,qas] <;> omega
         have t1:tab c.n.length (qc0 (fun j=>V.int .i64 ((left j - cc j:Nat):Int)) i (V.int .i64 (A:Int))) = tab c.n.length fun j=>V.int .i64 ((left j - qc0 cc i (cc i + 1) j:Nat):Int):=by
          refine qa3 fun j _=>?_;by_cases e:j = i
          ·subst e; simp [hA]
          ·rw [qbv _ _ e,qbv _ _ e]
         have t2:tab c.n.length (qc0 (fun j=>V.int .i64 ((qtw out m cc j:Nat):Int)) i (V.int .i64 (max ((qtw out m cc i:Nat):Int) (((out m:Nat):Int) + 1)))) = tab c.n.length fun j=>V.int .i64 ((qtw out m (qc0 cc i (cc i + 1)) j:Nat):Int):=by
          refine qa3 fun j _=>?_;by_cases e:j = i
          ·subst e;simp only [qcx,qtw];congr 1;split <;> simp <;> omega
          ·rw [qbv _ _ e];simp only [qtw,qbv _ _ e]
         have hrem:∀ j,j < c.n.length->qc0 cc i (cc i + 1) j + c.rem (P.drop (k + 1)) j = (c.g j).count m:=fun j hj=>by
          by_cases e:j = i
          ·subst e;unfold Ci.rem;rw [qcx,c.nd_get hj,if_pos hc]; omega
          ·rw [qbv _ _ e];have:=h7 j hj;rw [List.drop_eq_getElem_cons hk] at this;unfold Ci.rem at this ⊢;have e':¬ i = j:=fun q=>e q.symm;simp only [qea,hpi,if_neg e',Nat.zero_add] at this;exact this
         simp [hi,hmn,qa0,qc8,hw1,hw2,t1,t2,hA];refine jj5 (fun hz=>?_) (fun hz=>?_)
         ·rw [if_pos (jkb hz)] at hstep
          have hle2:l.length + 1≤274877906944:=by
           rw [h5];have h1:=qhm h6.nod fun j hj=>((h6.mem j).1 hj).1;simp;omega
          simp [hle2,hwk];refine fun gf2=>⟨⟨k + 1,gf2 53,l ++ [qab i],S ++ [i],qc0 cc i (cc i + 1)⟩,⟨hk,by simp only [h5]; simp [qaf],hstep,hrem⟩,?_,?_,by simp only; omega⟩
          ·simp [qab]
          ·simp [qab]
         ·rw [if_neg (jkc hz)] at hstep;simp [hwk];exact ⟨⟨k + 1,ga,l,S,qc0 cc i (cc i + 1)⟩,⟨hk,h5,hstep,hrem⟩,by simp,by simp,by simp only; omega⟩
        ·simp [hwk];refine ⟨⟨k + 1,ga,l,S,cc⟩,⟨hk,h5,h6,fun j hj=>?_⟩,by simp,by simp,by simp only; omega⟩;have:=h7 j hj;rw [List.drop_eq_getElem_cons hk] at this;unfold Ci.rem at this ⊢;by_cases e:i = j
         ·subst e;rw [c.nd_get hi] at this ⊢;rw [if_neg (by simp [hc])] at this ⊢;exact this
         ·simp only [qea,hpi,if_neg e,Nat.zero_add] at this;exact this
       ·have hk:k = P.length:=by have:=jkc hb; omega
        simp
        have hdone:=KJ.done hK hm h6 fun i hi=>by
         have:=h7 i hi;rw [hk,List.drop_length] at this;simpa [Ci.rem,qcm] using this
        refine ⟨⟨d + 1,some (ga,l),R ++ S,fun j=>left j - cc j,fun j=>qtw out m cc j⟩,⟨.inr ?_,h5,hdone,fun j hj=>?_⟩,by simp,by simp,by simp only; omega⟩
        ·simp only [qav,h5];intro q;have:=congrArg List.length q;have h0:=List.length_pos_of_mem hmR;simp at this;rw [this.1] at h0;simp at h0
        ·have h1:=hout j hj;have h2:=hout m hmn;simp only [qtw];split <;> omega
     ·have hd:d = R.length:=by have:=jkc hb; omega
      simp [Ci.v];refine jj5 (fun hb=>?_) (fun hb=>?_)
      ·have:=hstuck hd (jkb hb);simpa using this
      ·have:=hfull hd (jkc hb);simp [-frz];rw [qri,qu0 (f:=fun j=>qab (out j)) (sz:=1) (g:=g23) (by simp [qab]) (fun _=>rfl)];exact this
 ·have he0:e ≠ 0:=by simpa using he
  rw [if_pos he0] at hq;simpa using hq
end
section
open Go
@[simp high] theorem ci_all (c:Ci):jif true 0 4 c.v = c.v:=rfl
@[simp high] theorem ci_0 (c:Ci):jif false 0 1 c.v = .sl (c.n.map Nd.v) none:=rfl
@[simp high] theorem ci_1 (c:Ci):jif false 1 1 c.v = .sl (c.s.map .str) none:=rfl
@[simp high] theorem ci_2 (c:Ci):jif false 2 1 c.v = .sl (c.m.map Md.v) none:=rfl
@[simp high] theorem ci_3 (c:Ci):jif false 3 1 c.v = .sl (qdh c.o) none:=rfl
@[simp high] theorem ci_len (c:Ci):c.v.cells.length = 4:=rfl
@[simp high] theorem ci_ok (c:Ci):c.v.cellsOk = true:=rfl
@[simp] theorem qxp (c:Ci):c.v.pure = true:=qgu c
@[simp] theorem jbu (c:Ci) {f:Nat->Nat->Nat->Nat->Option Nat->V} {p:Nat->Nat->Nat->Nat->V}:c.v.mapR f p = c.v:=by simp [Ci.v,qao]
@[simp high] theorem nd_all (c:Nd):jif true 0 4 c.v = c.v:=rfl
@[simp high] theorem nd_0 (c:Nd):jif false 0 1 c.v = .int .u8 c.k:=rfl
@[simp high] theorem nd_1 (c:Nd):jif false 1 1 c.v = .sl (qdh c.i) none:=rfl
@[simp high] theorem nd_2 (c:Nd):jif false 2 1 c.v = .int .i64 c.a:=rfl
@[simp high] theorem nd_3 (c:Nd):jif false 3 1 c.v = .int .i64 c.b:=rfl
@[simp high] theorem nd_len (c:Nd):c.v.cells.length = 4:=rfl
@[simp high] theorem nd_ok (c:Nd):c.v.cellsOk = true:=rfl
@[simp] theorem jdy (c:Nd):c.v.pure = true:=by simp [Nd.v]
@[simp] theorem jdx (c:Nd) {f:Nat->Nat->Nat->Nat->Option Nat->V} {p:Nat->Nat->Nat->Nat->V}:c.v.mapR f p = c.v:=by simp [Nd.v,qao]
@[simp high] theorem nd_put (a b d e:V) (c:Nd):jii 0 4 c.v (.agg [a,b,d,e]) = c.v:=rfl
@[simp high] theorem md_all (c:Md):jif true 0 3 c.v = c.v:=rfl
@[simp high] theorem md_0 (c:Md):jif false 0 1 c.v = .sl (qdh c.a) none:=rfl
@[simp high] theorem md_1 (c:Md):jif false 1 1 c.v = .sl (qdh c.d) none:=rfl
@[simp high] theorem md_2 (c:Md):jif false 2 1 c.v = .int .i64 c.w:=rfl
@[simp high] theorem md_len (c:Md):c.v.cells.length = 3:=rfl
@[simp high] theorem md_ok (c:Md):c.v.cellsOk = true:=rfl
@[simp] theorem jdu (c:Md):c.v.pure = true:=by simp [Md.v]
@[simp] theorem jdt (c:Md) {f:Nat->Nat->Nat->Nat->Option Nat->V} {p:Nat->Nat->Nat->Nat->V}:c.v.mapR f p = c.v:=by simp [Md.v,qao]
@[simp high] theorem md_put (a b d:V) (c:Md):jii 0 3 c.v (.agg [a,b,d]) = c.v:=rfl
def qk0 (p:Int->Bool):List Int->Nat->Int
 | [],_=>-1
 | x :: r,i=>if p x = true then (i:Int) else qk0 p r (i + 1)
theorem qn1 (p:Int->Bool):∀ (l:List Int) (i:Nat),decide (0≤qk0 p l i) = l.any p
 | [],i=>by simp [qk0]
 | x :: l,i=>by
  cases h:p x with
  | true=>simp [qk0,h]
  | false=>
   have:=qn1 p l (i + 1);simp only [qk0,h,Bool.false_eq_true,if_false,List.any_cons,Bool.false_or];exact this
theorem qpw (l:List Int) (cap:Option Nat) (g:FuncId) (cp:List V) (p:Int->Bool) (hf:∀ x ∈ l,qac Tryz.prog gl0 g (.int .i64 x :: cp) (.bool (p x))) (hp:jid cp = true) (hl:l.length < 1000000000000):qac Tryz.prog gl0 206 [.sl (qdh l) cap,.fn g [] cp] (.int .i64 (qk0 p l 0)):=by
 obtain ⟨q,hq⟩:∃ r,qk0 p l 0 = r:=⟨_,rfl⟩;rw [hq];refine jj7 2 q7n rfl ?_;simp [jcv,x206]
 refine jj6 (X:=Nat) (fun i=>[(8,qab i),(7,qab l.length),(0,.sl (qdh l) cap),(1,.fn g [] cp)]) (fun _=>[])
  (fun i=>i≤l.length/\qk0 p (l.drop i) i = q) (fun i=>l.length - i) 0 ⟨by simp,by simpa using hq⟩ (by simp [qab]) (by simp) ?_
 rintro i ⟨h2,h3⟩;simp [qab];refine jj5 (fun h1=>?_) (fun h1=>?_)
 ·have h1':i < l.length:=jkb h1;have hw:=qbg i (by omega);rw [List.drop_eq_getElem_cons h1'] at h3;simp only [qk0] at h3;simp [h1',qev];refine jj4 (hf _ (jkg h1')) (by simp [hp]) ?_;simp;refine jj5 (fun h4=>?_) (fun h4=>?_)
  ·rw [if_pos h4] at h3;simp [h3]
  ·rw [if_neg (by simp [h4])] at h3;simp [hw];exact ⟨i + 1,⟨h1',h3⟩,rfl,by omega⟩
 ·have h1':i = l.length:=by have:=jkc h1; omega
  subst h1';simp [qk0] at h3;simp [h3]
theorem qef (l:List Int) (cap:Option Nat) (g:FuncId) (cp:List V) (p:Int->Bool) (hf:∀ x ∈ l,qac Tryz.prog gl0 g (.int .i64 x :: cp) (.bool (p x))) (hp:jid cp = true) (hl:l.length < 1000000000000):qac Tryz.prog gl0 123 [.sl (qdh l) cap,.fn g [] cp] (.bool (l.any p)):=by
 refine jj7 2 q61 rfl ?_;simp [jb9,x123];refine jj4 (qpw l cap g cp p hf hp hl) (by simp [hp]) ?_;simp [qn1]
def qgg (n:Nat) (x:Int):Bool:=decide (x < 0) || decide ((n:Int)≤x)
theorem q8u (c:Ci) (i:Int):qac Tryz.prog gl0 283 [.int .i64 i,.iptr c.v 0] (.bool (qgg c.n.length i)):=qh9 c i
theorem qi4 (c:Ci) (l:List Int) (cap:Option Nat) (hl:l.length < 1000000000000):qac Tryz.prog gl0 123 [.sl (qdh l) cap,.fn 283 [] [.iptr c.v 0]] (.bool (l.any (qgg c.n.length))):=
 qef l cap _ _ _ (fun x _=>qh9 c x) (by simp) hl
def tLo:List Int:=[0,0,0,1,1,2,2,2,2,2,2,3,2,1,1,0]
def tHi:List Int:=[0,0,0,1,1,16,16,16,16,16,16,3,2,16,1,0]
def kLo (k:Int):Int:=if 16≤k then 0 else tLo.getD k.toNat 0
def kHi (k:Int):Int:=if 16≤k then -1 else tHi.getD k.toNat 0
theorem qux (k:Int) (h0:0≤k) (h9:k < 256):qac Tryz.prog gl0 164 [.int .u8 k] (.tup [.int .i64 (kLo k),.int .i64 (kHi k)]):=by
 refine jj7 2 q68 rfl ?_;have hw:IntKind.i64.wrap k = k:=by rw [qas] <;> omega
 simp [jcg,x164,hw];refine jj5 (fun h=>?_) (fun h=>?_)
 ·have h':16≤k:=jkb h;simp [kLo,kHi,h']
 ·have h':¬ 16≤k:=jkc h;have h1:k < 16:=by omega
  have hc:k = 0∨k = 1∨k = 2∨k = 3∨k = 4∨k = 5∨k = 6∨k = 7∨k = 8∨k = 9∨k = 10∨k = 11∨k = 12∨k = 13∨k = 14∨k = 15:=by omega
  rcases hc with rfl | rfl | rfl | rfl | rfl | rfl | rfl | rfl | rfl | rfl | rfl | rfl | rfl | rfl | rfl | rfl <;> simp [gl0,kLo,kHi,tLo,tHi]
def ql7 (k:Int) (n:Nat):Bool:=decide (kLo k≤n) && decide ((n:Int)≤kHi k)
def qxk (c:Ci) (x:Nd):Bool:=if x.k = 15 then decide (0≤x.a) && decide (x.a < c.m.length) && decide (0≤x.b) && decide (x.b < (c.m.getD x.a.toNat default).d.length) else decide (x.a = 0) && decide (x.b = 0)
theorem q45 (c:Ci) (x:Nd):qac Tryz.prog gl0 280 [c.v,x.v] (.bool (qxk c x)):=by
 refine jj7 2 q71 rfl ?_;simp [jc9,x280];intro gf gf2;refine jj5 (fun h=>?_) (fun h=>?_)
 ·have h':x.k = 15:=jkb h;simp [qxk,h'];intro gm;refine jj5 (fun h1=>?_) (fun h1=>?_)
  ·simp [h1];refine jj5 (fun h2=>?_) (fun h2=>?_)
   ·simp [h2];have h1':0≤x.a:=jkb h1;have h2':x.a < c.m.length:=jkb h2;obtain ⟨j,hj⟩:∃ j:Nat,x.a = (j:Int):=⟨x.a.toNat,by omega⟩;have hjl:j < c.m.length:=by omega
    rw [hj];refine jj5 (fun h3=>?_) (fun h3=>?_)
    ·simp [h3,hjl,hj]
    ·simp [h3]
   ·simp [h2]
  ·simp [h1]
 ·have h':¬ x.k = 15:=jkc h;simp [qxk,h'];refine jj5 (fun h1=>?_) (fun h1=>?_)
  ·simp [h1]
  ·simp [h1]
theorem qu8 (c:Ci) (i:Int) (h:qgg c.n.length i = false):qac Tryz.prog gl0 279 [.int .i64 i,.iptr c.v 0] (.bool (!decide ((c.nd i.toNat).k = 12))):=by
 simp [qgg] at h;obtain ⟨j,rfl⟩:∃ j:Nat,i = (j:Int):=⟨i.toNat,by omega⟩;have hj:j < c.n.length:=by omega
 refine jj7 2 q70 rfl ?_;simp [jc8,x279,hj,c.nd_get hj]
def wrB (l:List Int) (k:Int):Bool:=decide (l.length = 0) || decide (k < l.length)
theorem qw7 (l:List Int) (cap:Option Nat) (m:Int):qac Tryz.prog gl0 282 [.sl (qdh l) cap,.int .i64 m] (.bool (wrB l m)):=by
 unfold wrB;refine jj7 2 q73 rfl ?_;simp [jdb,x282];refine jj5 (fun h=>?_) (fun h=>?_)
 ·have h':=jkb h;simp [h']
 ·have h':=jkc h;simp [h']
def ndE (c:Ci) (x:Nd):Int:=if 15 < x.k then 7 else if ql7 x.k x.i.length = false then 8 else if x.i.any (qgg c.n.length) = true then 1
 else if x.k = 13/\x.i.any (fun v=>!decide ((c.nd v.toNat).k = 12)) = true then 7 else if qxk c x = false then 1 else 0
theorem qw5 {k:Int} {n:Nat} (h0:0≤k) (h9:k≤15) (h:ql7 k n = true):n≤16:=by
 have hc:k = 0∨k = 1∨k = 2∨k = 3∨k = 4∨k = 5∨k = 6∨k = 7∨k = 8∨k = 9∨k = 10∨k = 11∨k = 12∨k = 13∨k = 14∨k = 15:=by omega
 simp [ql7] at h;rcases hc with rfl | rfl | rfl | rfl | rfl | rfl | rfl | rfl | rfl | rfl | rfl | rfl | rfl | rfl | rfl | rfl <;> simp [kLo,kHi,tLo,tHi] at h <;> omega
theorem q6u (c:Ci) (x:Nd) (h0:0≤x.k) (h9:x.k < 256):qac Tryz.prog gl0 225 [c.v,x.v] (.int .i64 (ndE c x)):=by
 obtain ⟨q,hq⟩:∃ r,ndE c x = r:=⟨_,rfl⟩;rw [hq];unfold ndE at hq;refine jj7 2 q7o rfl ?_;simp [jcw,x225];intro gf gf2;refine jj4 (qux _ h0 h9) (by simp) ?_;simp;refine jj5 (fun h=>?_) (fun h=>?_)
 ·have h':15 < x.k:=jkb h;rw [if_pos h'] at hq;simp [hq]
 ·have h':¬ 15 < x.k:=jkc h;rw [if_neg h'] at hq;simp
  have hwid:ql7 x.k x.i.length = (!decide ((x.i.length:Int) < kLo x.k) && !decide (kHi x.k < (x.i.length:Int))):=by
   unfold ql7;by_cases h1:(x.i.length:Int) < kLo x.k <;> by_cases h2:kHi x.k < (x.i.length:Int) <;> simp [h1,h2] <;> omega
  rw [hwid] at hq;have key:ql7 x.k x.i.length = true->x.i.length≤16:=qw5 h0 (by omega);rw [hwid] at key;refine jj5 (fun h1=>?_) (fun h1=>?_)
  ·simp [h1] at hq;simp [h1,hq]
  ·simp only [h1,Bool.not_false,Bool.true_and] at hq key;simp [h1];refine jj5 (fun h2=>?_) (fun h2=>?_)
   ·simp [h2] at hq;simp [h2,hq]
   ·simp only [h2,Bool.not_false,Bool.true_eq_false,if_false] at hq key;have hl:x.i.length≤16:=key trivial;simp [h2];intro gm;refine ⟨_,_,_,.pure (qhq c) (by simp),?_⟩;simp;refine ⟨_,_,_,.pure (qi4 c x.i none (by omega)) (by simp),?_⟩;simp;refine ⟨rfl,?_⟩;refine jj5 (fun h3=>?_) (fun h3=>?_)
    ·rw [if_pos h3] at hq;simp [hq]
    ·rw [if_neg (by simp [h3])] at hq
     have hin:∀ v ∈ x.i,qgg c.n.length v = false:=fun v hv=>by
      have:=List.any_eq_false.1 h3 v hv;simpa using this
     have hk:=qef x.i none _ [.iptr c.v 0] (fun v=>!decide ((c.nd v.toNat).k = 12)) (fun v hv=>qu8 c v (hin v hv)) (by simp) (by omega);simp;refine jj5 (fun h4=>?_) (fun h4=>?_)
     ·have h4':x.k = 13:=jkb h4;simp [h4];refine CallO.borrow 1 hk (by simp [qao]) (by simp) ?_;simp;refine jj5 (fun h5=>?_) (fun h5=>?_)
      ·rw [if_pos ⟨h4',h5⟩] at hq;simp [hq]
      ·rw [if_neg (fun r=>by rw [h5] at r; exact absurd r.2 (by simp))] at hq;simp;refine jj4 (q45 c x) (by simp) ?_;simp;refine jj5 (fun h6=>?_) (fun h6=>?_)
       ·simp [h6] at hq;simp [hq]
       ·simp [h6] at hq;simp [hq]
     ·have h4':¬ x.k = 13:=jkc h4;rw [if_neg (fun r=>h4' r.1)] at hq;simp [h4];refine jj4 (q45 c x) (by simp) ?_;simp;refine jj5 (fun h6=>?_) (fun h6=>?_)
      ·simp [h6] at hq;simp [hq]
      ·simp [h6] at hq;simp [hq]
def mdE (c:Ci) (m:Md):Int:=if (wrB m.a 8 || wrB m.d 32) = true then 8 else if (m.a.any (qgg c.n.length) || m.d.any (qgg c.n.length) || qgg c.n.length m.w) = true then 1 else 0
theorem jdv (c:Ci) (m:Md):qac Tryz.prog gl0 227 [c.v,m.v] (.int .i64 (mdE c m)):=by
 obtain ⟨q,hq⟩:∃ r,mdE c m = r:=⟨_,rfl⟩;rw [hq];unfold mdE at hq;refine jj7 2 q7q rfl ?_;simp [jcy,x227];intro gf gf2;refine jj4 (qhq c) (by simp) ?_;simp;refine jj4 (qw7 m.a none 8) (by simp) ?_;simp;refine jj5 (fun h1=>?_) (fun h1=>?_)
 ·have:wrB m.a 8 = true:=h1;rw [this] at hq;simp at hq;simp [h1,<- hq]
 ·have ha:wrB m.a 8 = false:=h1;rw [ha] at hq;have hal:m.a.length≤8:=by simp [wrB] at ha; omega
  simp only [Bool.false_or] at hq;simp [h1];refine jj4 (qw7 m.d none 32) (by simp) ?_;simp;refine jj5 (fun h2=>?_) (fun h2=>?_)
  ·have:wrB m.d 32 = true:=h2;rw [this] at hq;simp at hq;simp [<- hq]
  ·have hd:wrB m.d 32 = false:=h2;have hdl:m.d.length≤32:=by simp [wrB] at hd; omega
   rw [hd] at hq;simp only [Bool.false_eq_true,if_false] at hq;simp;refine jj4 (qi4 c m.a none (by omega)) (by simp) ?_;simp;refine jj5 (fun h3=>?_) (fun h3=>?_)
   ·simp only [h3,Bool.true_or,if_true] at hq;simp [h3,<- hq]
   ·simp only [h3,Bool.false_or] at hq;simp [h3];refine jj4 (qi4 c m.d none (by omega)) (by simp) ?_;simp;refine jj5 (fun h4=>?_) (fun h4=>?_)
    ·simp only [h4,Bool.true_or,if_true] at hq;simp [h4,<- hq]
    ·simp only [h4,Bool.false_or] at hq;simp [h4];refine jj4 (q8u c m.w) (by simp) ?_;simp;refine jj5 (fun h5=>?_) (fun h5=>?_)
     ·have:qgg c.n.length m.w = true:=h5;rw [this] at hq;simp at hq;simp [<- hq]
     ·have:qgg c.n.length m.w = false:=h5;rw [this] at hq;simp at hq;simp [<- hq]
def qk3:List (List UInt8)->List (List UInt8)->Bool
 | _,[]=>false
 | seen,x :: r=>!qvp x || seen.contains x || qk3 (seen ++ [x]) r
def qwk (s:List UInt8):V × V:=(.str s,.bool true)
theorem qlm (x:List UInt8):∀ (seen:List (List UInt8)) (i:Nat),∃ r,qj2 (.str x) (seen.map qwk) i = some r/\(r.isSome = seen.contains x)/\∀ p,r = some p->p.2 = .bool true
 | [],i=>⟨none,rfl,rfl,fun p h=>by cases h⟩
 | y :: r,i=>by
  by_cases h:x = y
  ·subst h;exact ⟨some (i,.bool true),by simp [qj2,qwk,qwi],by simp,fun p hp=>by cases hp; rfl⟩
  ·obtain ⟨q,q1,q2,q3⟩:=qlm x r (i + 1);refine ⟨q,?_,by simp [q2,h],q3⟩;simp only [List.map_cons,qj2,qwk,qwi,decide_eq_false h];exact q1
theorem q2k (c:Ci) (hl:c.s.length < 1000000):qac Tryz.prog gl0 226 [c.v] (.int .i64 (if qk3 [] c.s = true then 5 else 0)):=by
 obtain ⟨q,hq⟩:∃ r:Int,(if qk3 [] c.s = true then 5 else 0) = r:=⟨_,rfl⟩;rw [hq];refine jj7 2 q7p rfl ?_;simp [jcx,x226,nop];intro gf gf2;generalize gf 1 = g1;generalize gf2 6 = g6
 refine jj6 (X:=Nat) (fun i=>[(10,qab i),(9,qab c.s.length),(8,.sl (c.s.map .str) none),(3,.own 6 g6),(1,.ptr 1 g1 0 0)]) (fun i=>[(6,.map g6 ((c.s.take i).map qwk)),(1,.row g1 4 [c.v])])
  (fun i=>i≤c.s.length/\(if qk3 (c.s.take i) (c.s.drop i) = true then 5 else 0) = q) (fun i=>c.s.length - i) 0 ⟨by simp,by simpa using hq⟩ (by simp [qab]) (by simp) ?_
 rintro i ⟨h2,h3⟩;simp [qab];refine jj5 (fun h1=>?_) (fun h1=>?_)
 ·have hi:i < c.s.length:=jkb h1;have hw:=qbg i (by omega);rw [List.drop_eq_getElem_cons hi] at h3;simp only [qk3] at h3;simp [hi];refine jj4 (qye _) (by simp) ?_;simp;refine jj5 (fun h4=>?_) (fun h4=>?_)
  ·simp only [h4,Bool.not_true,Bool.false_or] at h3;obtain ⟨r,r1,r2,r3⟩:=qlm c.s[i] (c.s.take i) 0;rw [List.map_take] at r1;simp [h4,qdt,r1,nop];rw [<- r2] at h3
   cases r with
   | none=>
    simp [nop,r1,qdt,hw];simp only [Option.isSome_none] at h3;refine ⟨i + 1,⟨hi,?_⟩,by simp,?_,by omega⟩
    ·rw [List.take_succ_eq_append_getElem hi];simpa using h3
    ·rw [List.take_succ_eq_append_getElem (by simpa using hi)];simp [qwk]
   | some p=>
    obtain ⟨a,b⟩:=p;have hb:=r3 _ rfl;simp only at hb;subst hb;simp at h3;simp [h3]
  ·simp only [h4,Bool.not_false,Bool.true_or,if_true] at h3;simp [h4,h3]
 ·have hi:i = c.s.length:=by have:=jkc h1; omega
  rw [hi,List.drop_length] at h3;simp [qk3] at h3;simp [h3]
def qup:List Int->Int->Int
 | [],t=>t
 | x :: r,t=>if x ≠ 0 then x else qup r t
def shO (c:Ci):Int:=if c.o.any (qgg c.n.length) = true then 1 else 0
def shM (c:Ci) (l:List Md):Int:=qup (l.map (mdE c)) (shO c)
def shS (c:Ci):Int:=if qk3 [] c.s = true then 5 else shM c c.m
def shN (c:Ci) (l:List Nd):Int:=qup (l.map (ndE c)) (shS c)
def qic (c:Ci):Bool:=decide (16384 < c.n.length) || decide (16 < c.m.length) || decide (16384 < c.o.length)
def shE (c:Ci):Int:=if qic c = true then 3 else if c.s.length ≠ c.n.length then 8 else shN c c.n
structure Ci.wf (c:Ci):Prop where
 k:∀ x ∈ c.n,0≤x.k/\x.k < 256
 s:∀ x ∈ c.s,x.length < 9000000000000000000
theorem q3k (c:Ci) (hwf:c.wf):qac Tryz.prog gl0 155 [c.v] (.int .i64 (shE c)):=by
 obtain ⟨q,hq⟩:∃ r,shE c = r:=⟨_,rfl⟩;rw [hq];unfold shE at hq;refine jj7 2 q63 rfl ?_;simp [jcb,x155];intro gf;have hbig:(decide (16384 < c.n.length) || decide (16 < c.m.length) || decide (16384 < c.o.length)) = qic c:=rfl;refine jj5 (fun h1=>?_) (fun h1=>?_)
 ·have:qic c = true:=by unfold qic; simp [h1]
  rw [this] at hq;simp at hq;simp [h1,<- hq]
 ·simp [h1];refine jj5 (fun h2=>?_) (fun h2=>?_)
  ·have:qic c = true:=by unfold qic; simp [h2]
   rw [this] at hq;simp at hq;simp [h2,<- hq]
  ·simp [h2];refine jj5 (fun h3=>?_) (fun h3=>?_)
   ·have:qic c = true:=by unfold qic; simp [h3]
    rw [this] at hq;simp at hq;simp [<- hq]
   ·have:qic c = false:=by unfold qic; simp [h1,h2,h3]
    rw [this] at hq;simp only [Bool.false_eq_true,if_false] at hq;have g1:¬ 16384 < c.n.length:=jkc h1;have g2:¬ 16 < c.m.length:=jkc h2;have g3:¬ 16384 < c.o.length:=jkc h3;simp;refine jj5 (fun h4=>?_) (fun h4=>?_)
    ·have h4':c.s.length = c.n.length:=jkb h4;rw [if_neg (by simp [h4'])] at hq;simp;generalize gf 1 = gg
     refine jj6 (X:=Nat) (fun i=>[(38,qab i),(37,qab c.n.length),(36,.sl (c.n.map Nd.v) none),(1,.ptr 1 gg 0 0)]) (fun i=>[(1,.row gg 4 [c.v])])
      (fun i=>i≤c.n.length/\shN c (c.n.drop i) = q) (fun i=>c.n.length - i) 0 ⟨by simp,by simpa using hq⟩ (by simp [qab]) (by simp) ?_
     clear hq;rintro i ⟨h5,hq⟩;simp [qab];refine jj5 (fun h6=>?_) (fun h6=>?_)
     ·have hi:i < c.n.length:=jkb h6;have hw:=qbg i (by omega);have hk:=hwf.k _ (jkg hi);rw [List.drop_eq_getElem_cons hi] at hq;simp only [shN,List.map_cons,qup] at hq;simp [hi];intro gf4;refine jj4 (q6u c _ hk.1 hk.2) (by simp) ?_;simp;refine jj5 (fun h7=>?_) (fun h7=>?_)
      ·have h7':ndE c c.n[i] = 0:=jkb h7;rw [if_neg (by simp [h7'])] at hq;simp [hw];exact ⟨i + 1,⟨hi,hq⟩,by simp,by omega⟩
      ·have h7':¬ ndE c c.n[i] = 0:=jkc h7;rw [if_pos h7'] at hq;simp [hq]
     ·have hi:i = c.n.length:=by have:=jkc h6; omega
      rw [hi,List.drop_length] at hq;simp only [shN,List.map_nil,qup,shS] at hq;simp;refine jj4 (q2k c (by omega)) (by simp) ?_;simp;by_cases h8:qk3 [] c.s = true
      ·rw [if_pos h8] at hq;simp [h8,<- hq]
      ·rw [if_neg h8] at hq;simp [h8]
       refine jj6 (X:=Nat) (fun i=>[(57,qab i),(56,qab c.m.length),(55,.sl (c.m.map Md.v) none),(1,.ptr 1 gg 0 0)]) (fun i=>[(1,.row gg 4 [c.v])])
        (fun i=>i≤c.m.length/\shM c (c.m.drop i) = q) (fun i=>c.m.length - i) 0 ⟨by simp,by simpa using hq⟩ (by simp [qab]) (by simp) ?_
       clear hq;rintro j ⟨h5,hq⟩;simp [qab];refine jj5 (fun h6=>?_) (fun h6=>?_)
       ·have hj:j < c.m.length:=jkb h6;have hw:=qbg j (by omega);rw [List.drop_eq_getElem_cons hj] at hq;simp only [shM,List.map_cons,qup] at hq;simp [hj];intro gf4;refine jj4 (jdv c _) (by simp) ?_;simp;refine jj5 (fun h7=>?_) (fun h7=>?_)
        ·have h7':mdE c c.m[j] = 0:=jkb h7;rw [if_neg (by simp [h7'])] at hq;simp [hw];exact ⟨j + 1,⟨hj,hq⟩,by simp,by omega⟩
        ·have h7':¬ mdE c c.m[j] = 0:=jkc h7;rw [if_pos h7'] at hq;simp [hq]
       ·have hj:j = c.m.length:=by have:=jkc h6; omega
        rw [hj,List.drop_length] at hq;simp only [shM,List.map_nil,qup,shO] at hq;simp;intro gm;refine ⟨_,_,_,.pure (qhq c) (by simp),?_⟩;simp;refine ⟨_,_,_,.pure (qi4 c c.o none (by omega)) (by simp),?_⟩;simp;refine ⟨rfl,?_⟩;refine jj5 (fun h9=>?_) (fun h9=>?_)
        ·rw [if_pos h9] at hq;simp [<- hq]
        ·rw [if_neg (by simp [h9])] at hq;simp [<- hq]
    ·have h4':c.s.length ≠ c.n.length:=jkc h4;rw [if_pos h4'] at hq;simp [<- hq]
end
end Go.Proofs.YtbbnmiaabmbheaaGreatDoor
