/- Lemmas. Conditions: none. -/
import Derived.Test.YtbbnmiaabmbheaaGreatDoorNet4
set_option linter.all false
namespace Go.Proofs.YtbbnmiaabmbheaaGreatDoor
section
open Go
inductive Rch (g:Nat->List Nat):Nat->Nat->Prop
 | rfl (a:Nat):Rch g a a
 | head {a x b:Nat} (hx:x ∈ g a) (h:Rch g x b):Rch g a b
theorem Rch.tail {g:Nat->List Nat} {a x b:Nat} (h:Rch g a x) (hb:b ∈ g x):Rch g a b:=by
 induction h with
 | rfl a=>exact .head hb (.rfl _)
 | head hx _ ih=>exact .head hx (ih hb)
theorem Rch.trans {g:Nat->List Nat} {a x b:Nat} (h:Rch g a x) (k:Rch g x b):Rch g a b:=by
 induction h with
 | rfl a=>exact k
 | head hx _ ih=>exact .head hx (ih k)
theorem Rch.closed {g:Nat->List Nat} {S:Nat->Prop} (hS:∀ x,S x->∀ y ∈ g x,S y) {a b:Nat} (h:Rch g a b):S a->S b:=by
 induction h with
 | rfl a=>exact id
 | head hx _ ih=>exact fun ha=>ih (hS _ ha _ hx)
structure Dag (g:Nat->List Nat) (n:Nat) (lv:Nat->Nat):Prop where
 lt:∀ k x,x ∈ g k->lv x < lv k
 b:∀ k x,x ∈ g k->x < n/\k < n
theorem Rch.lv {g:Nat->List Nat} {n:Nat} {lv:Nat->Nat} (hd:Dag g n lv) {a b:Nat} (h:Rch g a b):a = b∨lv b < lv a:=by
 induction h with
 | rfl a=>exact .inl (Eq.refl _)
 | head hx _ ih=>
  have:=hd.lt _ _ hx;rcases ih with e | ih
  ·exact .inr (by rw [<- e]; exact this)
  ·exact .inr (by omega)
inductive Sn (g:Nat->List Nat) (P:Nat->Prop) (nt:Option Nat):Nat->Prop
 | obs {a:Nat} (h:nt ≠ some a) (hp:P a):Sn g P nt a
 | step {a k:Nat} (h:nt ≠ some a) (hk:a ∈ g k) (hs:Sn g P nt k):Sn g P nt a
theorem Sn.ne {g:Nat->List Nat} {P:Nat->Prop} {nt:Option Nat} {a:Nat} (h:Sn g P nt a):nt ≠ some a:=by cases h <;> assumption
theorem Sn.any {g:Nat->List Nat} {P:Nat->Prop} {nt:Option Nat} {a:Nat} (h:Sn g P nt a):Sn g P none a:=by
 induction h with
 | obs _ hp=>exact .obs (by simp) hp
 | step _ hk _ ih=>exact .step (by simp) hk ih
def Dm (g:Nat->List Nat) (P:Nat->Prop) (n j:Nat):Prop:=j ≠ n/\Sn g P none n/\¬ Sn g P (some j) n
theorem Dm.rch {g:Nat->List Nat} {P:Nat->Prop} {n j:Nat} (h:Dm g P n j):Rch g j n:=by
 obtain ⟨h1,h2,h3⟩:=h;have h4:(some j:Option Nat) ≠ some n:=fun e=>h1 (Option.some.inj e);clear h1
 induction h2 with
 | obs _ hp=>exact absurd (.obs h4 hp) h3
 | @step a k _ hk hs ih=>
  by_cases e:j = k
  ·subst e; exact .head hk (.rfl _)
  ·have h5:(some j:Option Nat) ≠ some k:=fun q=>e (Option.some.inj q);exact (ih (fun q=>h3 (.step h4 hk q)) h5).tail hk
theorem Dm.lv {g:Nat->List Nat} {N:Nat} {lv:Nat->Nat} (hd:Dag g N lv) {P:Nat->Prop} {n j:Nat} (h:Dm g P n j):lv n < lv j:=by
 rcases h.rch.lv hd with e | e
 ·exact absurd e h.1
 ·exact e
theorem Dm.lt {g:Nat->List Nat} {N:Nat} {lv:Nat->Nat} (hd:Dag g N lv) {P:Nat->Prop} {n j:Nat} (h:Dm g P n j):j < N:=by
 have h1:=h.1
 cases h.rch with
 | rfl=>exact absurd rfl h1
 | head hx _=>exact (hd.b _ _ hx).2
theorem q5n {g:Nat->List Nat} {P:Nat->Prop} {n j:Nat} (hp:P n):¬ Dm g P n j:=fun h=>h.2.2 (.obs (fun e=>h.1 (Option.some.inj e)) hp)
theorem q0e {g:Nat->List Nat} {N:Nat} {lv:Nat->Nat} (hd:Dag g N lv) {P:Nat->Prop} {n:Nat} (hp:¬ P n) (j:Nat):Dm g P n j↔(∃ k,n ∈ g k/\Sn g P none k)/\∀ k,n ∈ g k->Sn g P none k->j = k∨Dm g P k j:=by
 constructor
 ·rintro ⟨h1,h2,h3⟩;have h4:(some j:Option Nat) ≠ some n:=fun e=>h1 (Option.some.inj e);refine ⟨?_,fun k hk hs=>?_⟩
  ·cases h2 with
   | obs _ q=>exact absurd q hp
   | step _ hk hs=>exact ⟨_,hk,hs⟩
  ·by_cases e:j = k
   ·exact .inl e
   ·exact .inr ⟨e,hs,fun q=>h3 (.step h4 hk q)⟩
 ·rintro ⟨⟨k,hk,hs⟩,h2⟩;have hlt:=hd.lt _ _ hk;refine ⟨?_,.step (by simp) hk hs,fun q=>?_⟩
  ·rcases h2 k hk hs with rfl | h3
   ·intro e; rw [e] at hlt; omega
   ·have:=h3.lv hd; intro e; rw [e] at this; omega
  ·cases q with
   | obs _ q=>exact hp q
   | step _ hk2 hs2=>
    rcases h2 _ hk2 hs2.any with rfl | h3
    ·exact hs2.ne rfl
    ·exact h3.2.2 hs2
def Cm (g:Nat->List Nat) (P:Nat->Prop) (N b j:Nat):Prop:=b < N/\(j = b∨Dm g P b j)
def End (g:Nat->List Nat) (P:Nat->Prop) (N b:Nat):Prop:=b = N∨(b < N/\Sn g P none b)
def qkw (g:Nat->List Nat) (P:Nat->Prop) (N:Nat) (nx:Nat->Option Nat) (n:Nat):Prop:=
 (nx n = none/\¬ Sn g P none n)∨∃ b,nx n = some b/\Sn g P none n/\(∀ j,Dm g P n j↔Cm g P N b j)/\End g P N b
structure qz5 (g:Nat->List Nat) (N:Nat) (lv pl:Nat->Nat):Prop where
 d:Dag g N lv
 lt:∀ x,x < N->pl x < N
 e:pl N = N
 lv:∀ x y,x < N->y < N->lv x < lv y->pl x < pl y
 inj:∀ x y,x < N->y < N->pl x = pl y->x = y
theorem qz5.ne {g:Nat->List Nat} {N:Nat} {lv pl:Nat->Nat} (h:qz5 g N lv pl) {P:Nat->Prop} {a b:Nat} (ha:End g P N a) (hb:End g P N b) (hne:a ≠ b) (hl:¬ pl a < pl b):pl b < pl a:=by
 rcases ha with rfl | ⟨ha,-⟩ <;> rcases hb with rfl | ⟨hb,-⟩
 ·exact absurd rfl hne
 ·have:=h.lt b hb; have:=h.e; omega
 ·have:=h.lt a ha; have:=h.e; omega
 ·have:pl a ≠ pl b:=fun e=>hne (h.inj a b ha hb e);omega
theorem qkw.next {g:Nat->List Nat} {N:Nat} {lv pl:Nat->Nat} (h:qz5 g N lv pl) {P:Nat->Prop} {nx:Nat->Option Nat} {a:Nat} (ha:qkw g P N nx a) (hs:Sn g P none a) (haN:a < N) :
  ∃ b,nx a = some b/\End g P N b/\pl a < pl b/\∀ j,Dm g P a j↔Cm g P N b j:=by
 rcases ha with ⟨-,h1⟩ | ⟨b,h1,h2,h3,h4⟩
 ·exact absurd hs h1
 ·refine ⟨b,h1,h4,?_,h3⟩;rcases h4 with rfl | ⟨hb,-⟩
  ·have:=h.lt a haN; have:=h.e; omega
  ·exact h.lv _ _ haN hb (((h3 b).2 ⟨hb,.inl rfl⟩).lv h.d)
theorem Cm.pl {g:Nat->List Nat} {N:Nat} {lv pl:Nat->Nat} (h:qz5 g N lv pl) {P:Nat->Prop} {b j:Nat} (hj:Cm g P N b j):pl b≤pl j/\j < N:=by
 obtain ⟨h1,rfl | h2⟩:=hj
 ·exact ⟨jki _,h1⟩
 ·have:=h.lv _ _ h1 (h2.lt h.d) (h2.lv h.d);exact ⟨by omega,h2.lt h.d⟩
theorem qge {g:Nat->List Nat} {N:Nat} {lv pl:Nat->Nat} (h:qz5 g N lv pl) {P:Nat->Prop} {nx:Nat->Option Nat} {a b:Nat} (ha:End g P N a) (hb:End g P N b) (hl:pl a < pl b) (hn:∀ x,x < N->pl a≤pl x->qkw g P N nx x) :
  a < N/\∃ a',nx a = some a'/\End g P N a'/\pl a < pl a'/\∀ j,(Cm g P N a j/\Cm g P N b j)↔(Cm g P N a' j/\Cm g P N b j):=by
 have haN:a < N:=by
  rcases ha with rfl | ⟨ha,-⟩
  ·rcases hb with rfl | ⟨hb,-⟩
   ·omega
   ·have:=h.lt b hb; have:=h.e; omega
  ·exact ha
 have hs:Sn g P none a:=by
  rcases ha with rfl | ⟨-,hs⟩
  ·omega
  ·exact hs
 obtain ⟨a',h1,h2,h3,h4⟩:=(hn a haN (jki _)).next h hs haN;refine ⟨haN,a',h1,h2,h3,fun j=>?_⟩;constructor
 ·rintro ⟨⟨-,rfl | h5⟩,h6⟩
  ·have:=(h6.pl h).1; omega
  ·exact ⟨(h4 j).1 h5,h6⟩
 ·rintro ⟨h5,h6⟩;exact ⟨⟨haN,.inr ((h4 j).2 h5)⟩,h6⟩
theorem q5k {g:Nat->List Nat} {P:Nat->Prop} {N:Nat} (j:Nat):¬ Cm g P N N j:=fun h=>absurd h.1 (Nat.lt_irrefl _)
def qdx (g:Nat->List Nat) (P:Nat->Prop) (N:Nat) (ks:List Nat) (r:Option Nat):Prop:=
 (r = none/\∀ k ∈ ks,¬ Sn g P none k)∨∃ b,r = some b/\(∃ k ∈ ks,Sn g P none k)/\End g P N b/\∀ j,Cm g P N b j↔∀ k ∈ ks,Sn g P none k->Cm g P N k j
theorem qdx.skip {g:Nat->List Nat} {P:Nat->Prop} {N:Nat} {ks:List Nat} {r:Option Nat} (h:qdx g P N ks r) {k:Nat} (hk:¬ Sn g P none k):qdx g P N (ks ++ [k]) r:=by
 rcases h with ⟨h1,h2⟩ | ⟨b,h1,⟨k0,h2,h3⟩,h4,h5⟩
 ·refine .inl ⟨h1,fun x hx=>?_⟩;rcases List.mem_append.1 hx with hx | hx
  ·exact h2 x hx
  ·rw [List.mem_singleton.1 hx]; exact hk
 ·refine .inr ⟨b,h1,⟨k0,by simp [h2],h3⟩,h4,fun j=>(h5 j).trans ⟨fun q x hx hs=>?_,fun q x hx hs=>q x (by simp [hx]) hs⟩⟩;rcases List.mem_append.1 hx with hx | hx
  ·exact q x hx hs
  ·rw [List.mem_singleton.1 hx] at hs; exact absurd hs hk
theorem qdx.first {g:Nat->List Nat} {P:Nat->Prop} {N:Nat} {ks:List Nat} (h:qdx g P N ks none) {k:Nat} (hk:Sn g P none k) (hN:k < N):qdx g P N (ks ++ [k]) (some k):=by
 rcases h with ⟨-,h2⟩ | ⟨b,h1,-⟩
 ·refine .inr ⟨k,rfl,⟨k,by simp,hk⟩,.inr ⟨hN,hk⟩,fun j=>⟨fun q x hx hs=>?_,fun q=>q k (by simp) hk⟩⟩;rcases List.mem_append.1 hx with hx | hx
  ·exact absurd hs (h2 x hx)
  ·rw [List.mem_singleton.1 hx]; exact q
 ·cases h1
theorem qdx.merge {g:Nat->List Nat} {P:Nat->Prop} {N:Nat} {ks:List Nat} {b:Nat} (h:qdx g P N ks (some b)) {k b':Nat} (hk:Sn g P none k) (he:End g P N b') (hb:∀ j,(Cm g P N k j/\Cm g P N b j)↔Cm g P N b' j):qdx g P N (ks ++ [k]) (some b'):=by
 rcases h with ⟨h1,-⟩ | ⟨b0,h1,⟨k0,h2,h3⟩,h4,h5⟩
 ·cases h1
 ·cases h1;refine .inr ⟨b',rfl,⟨k0,by simp [h2],h3⟩,he,fun j=>(hb j).symm.trans ⟨fun ⟨q1,q2⟩ x hx hs=>?_,fun q=>⟨q k (by simp) hk,(h5 j).2 fun x hx hs=>q x (by simp [hx]) hs⟩⟩⟩;rcases List.mem_append.1 hx with hx | hx
  ·exact (h5 j).1 q2 x hx hs
  ·rw [List.mem_singleton.1 hx]; exact q1
theorem qdx.ini {g:Nat->List Nat} {P:Nat->Prop} {N:Nat}:qdx g P N [] none:=.inl ⟨rfl,by simp⟩
theorem qdx.done {g:Nat->List Nat} {P:Nat->Prop} {N:Nat} {lv:Nat->Nat} (hd:Dag g N lv) {n:Nat} {ks:List Nat} {nx:Nat->Option Nat} (hp:¬ P n) (hk:∀ k,k ∈ ks↔n ∈ g k) (h:qdx g P N ks (nx n)):qkw g P N nx n:=by
 rcases h with ⟨h1,h2⟩ | ⟨b,h1,⟨k0,h2,h3⟩,h4,h5⟩
 ·refine .inl ⟨h1,fun q=>?_⟩
  cases q with
  | obs _ q=>exact hp q
  | step _ hk2 hs=>exact h2 _ ((hk _).2 hk2) hs
 ·refine .inr ⟨b,h1,.step (by simp) ((hk _).1 h2) h3,fun j=>?_,h4⟩;rw [q0e hd hp,h5];constructor
  ·rintro ⟨-,q⟩ x hx hs;exact ⟨(hd.b _ _ ((hk x).1 hx)).2,q x ((hk x).1 hx) hs⟩
  ·exact fun q=>⟨⟨k0,(hk _).1 h2,h3⟩,fun x hx hs=>(q x ((hk x).2 hx) hs).2⟩
theorem q0w {g:Nat->List Nat} {P:Nat->Prop} {N:Nat} {n:Nat} {nx:Nat->Option Nat} (hp:P n) (h:nx n = some N):qkw g P N nx n:=
 .inr ⟨N,h,.obs (by simp) hp,fun j=>⟨fun q=>absurd q (q5n hp),fun q=>absurd q (q5k j)⟩,.inl rfl⟩
structure qxe (g:Nat->List Nat) (P:Nat->Prop) (N:Nat) (lv:Nat->Nat) (n:Nat) (L:List Nat) (b:Nat):Prop where
 e:End g P N b
 m:∀ j,Dm g P n j↔j ∈ L∨Cm g P N b j
 p:(n :: L).Pairwise fun x y=>lv x < lv y
 l:b < N->∀ x ∈ n :: L,lv x < lv b
theorem qxe.ini {g:Nat->List Nat} {P:Nat->Prop} {N:Nat} {lv:Nat->Nat} (hd:Dag g N lv) {n b:Nat} (h:∀ j,Dm g P n j↔Cm g P N b j) (he:End g P N b):qxe g P N lv n [] b where
 e:=he
 m:=fun j=>by simp [h j]
 p:=by simp
 l:=fun hb x hx=>by
  rw [List.mem_singleton.1 hx];exact ((h b).2 ⟨hb,.inl rfl⟩).lv hd
theorem qxe.step {g:Nat->List Nat} {P:Nat->Prop} {N:Nat} {lv pl:Nat->Nat} (hd:qz5 g N lv pl) {n b:Nat} {L:List Nat} (h:qxe g P N lv n L b) (hb:b < N) {nx:Nat->Option Nat} (hn:qkw g P N nx b) :
  ∃ b',nx b = some b'/\pl b < pl b'/\qxe g P N lv n (L ++ [b]) b':=by
 have hs:Sn g P none b:=by
  rcases h.e with e | ⟨-,e⟩
  ·omega
  ·exact e
 obtain ⟨b',h1,h2,h3,h4⟩:=hn.next hd hs hb;have hl:=h.l hb;refine ⟨b',h1,h3,h2,fun j=>?_,?_,fun hb' x hx=>?_⟩
 ·rw [h.m j];constructor
  ·rintro (q | ⟨-,rfl | q⟩)
   ·exact .inl (by simp [q])
   ·exact .inl (by simp)
   ·exact .inr ((h4 j).1 q)
  ·rintro (q | q)
   ·rcases List.mem_append.1 q with q | q
    ·exact .inl q
    ·exact .inr ⟨hb,.inl (List.mem_singleton.1 q)⟩
   ·exact .inr ⟨hb,.inr ((h4 j).2 q)⟩
 ·rw [<- List.cons_append,List.pairwise_append];exact ⟨h.p,by simp,fun x hx y hy=>by rw [List.mem_singleton.1 hy]; exact hl x hx⟩
 ·have hbb:lv b < lv b':=((h4 b').2 ⟨hb',.inl rfl⟩).lv hd.d;rw [<- List.cons_append] at hx;rcases List.mem_append.1 hx with hx | hx
  ·have:=hl x hx; omega
  ·rw [List.mem_singleton.1 hx]; exact hbb
structure qsa (g:Nat->List Nat) (P:Nat->Prop) (lv:Nat->Nat) (n:Nat) (L:List Nat):Prop where
 m:∀ j,j ∈ L↔Dm g P n j
 p:(n :: L).Pairwise fun x y=>lv x < lv y
theorem qxe.done {g:Nat->List Nat} {P:Nat->Prop} {N:Nat} {lv:Nat->Nat} {n b:Nat} {L:List Nat} (h:qxe g P N lv n L b) (hb:¬ b < N):qsa g P lv n L where
 m:=fun j=>by
  rw [h.m j];exact ⟨.inl,fun q=>q.elim id fun q=>absurd q.1 hb⟩
 p:=h.p
theorem qnw {g:Nat->List Nat} {P:Nat->Prop} {lv:Nat->Nat} {n:Nat} (h:¬ Sn g P none n):qsa g P lv n [] where
 m:=fun j=>by simp only [List.not_mem_nil,false_iff]; exact fun q=>h q.2.1
 p:=by simp
theorem qsa.nodup {g:Nat->List Nat} {P:Nat->Prop} {lv:Nat->Nat} {n:Nat} {L:List Nat} (h:qsa g P lv n L):L.Nodup:=by
 have:=(List.pairwise_cons.1 h.p).2;exact this.imp fun {x y} hxy e=>by rw [e] at hxy; omega
theorem block {g:Nat->List Nat} {N:Nat} {lv:Nat->Nat} (hd:Dag g N lv) {P D:Nat->Prop} {n:Nat} (hD:∀ m,D m->m = n∨∃ x ∈ g m,D x) {nt:Option Nat} (hnt:∀ d,nt = some d->¬ D d) {p:Nat} (hp:P p) (hDp:D p):Sn g P nt n:=by
 have main:∀ k m,lv m < k->D m->Sn g P nt m->Sn g P nt n:=by
  intro k
  induction k with
  | zero=>intro m h; omega
  | succ k ih=>
   intro m hk hm hs;rcases hD m hm with rfl | ⟨x,hx,hx2⟩
   ·exact hs
   ·have:=hd.lt _ _ hx;exact ih x (by omega) hx2 (.step (fun e=>hnt _ e hx2) hx hs)
 exact main (lv p + 1) p (by omega) hDp (.obs (fun e=>hnt _ e hDp) hp)
end
section
open Go
noncomputable def bP (p:Prop):Bool:=@decide p (Classical.propDecidable p)
theorem qd2 {p:Prop}:bP p = true↔p:=@decide_eq_true_iff p (Classical.propDecidable p)
theorem q6q {f:Nat->Nat}:∀ {l:List Nat} {x:Nat},x ∈ l->f x < mx f l
 | a :: l,x,h=>by
  have e:mx f (a :: l) = max (f a + 1) (mx f l):=rfl;rcases List.mem_cons.1 h with rfl | h
  ·omega
  ·have:=q6q (f:=f) h;omega
theorem qfq {c:Ci} (hv:c.val) (ha:qgk c):Dag c.g c.n.length (qew c):=by
 have hb:∀ k x,x ∈ c.g k->k < c.n.length:=fun k x hx=>by
  refine Nat.lt_of_not_le fun hk=>?_;have:c.nd k = default:=by unfold Ci.nd; rw [jkd,List.getElem?_eq_none hk]; rfl
  unfold Ci.g at hx;rw [this] at hx;exact absurd hx (by simp [qdz,show (default:Nd).k = 0 from rfl])
 exact ⟨fun k x hx=>by rw [ha.lv k (hb k x hx)]; exact q6q hx,fun k x hx=>⟨hv.g k (hb k x hx) x hx,hb k x hx⟩⟩
inductive Rn (g:Nat->List Nat) (nt:Option Nat) (a:Nat):Nat->Prop
 | base (h:nt ≠ some a):Rn g nt a a
 | step {k i:Nat} (h:Rn g nt a k) (hk:k ∈ g i) (hi:nt ≠ some i):Rn g nt a i
def jaj (c:Ci):List Int:=c.o ++ (c.n.flatMap fun x=>if x.k = 14 then x.i else []) ++ c.m.flatMap fun m=>m.a ++ m.d ++ [m.w]
def ptB (c:Ci) (i:Nat):Bool:=decide ((i:Int) ∈ jaj c)
abbrev Pp (c:Ci) (i:Nat):Prop:=ptB c i = true
def fL (n:Nat) (D:Nat->Bool):List Nat:=(List.range n).filter D
theorem q0i {n:Nat} {D:Nat->Bool} {x:Nat}:x ∈ fL n D↔x < n/\D x = true:=by simp [fL]
theorem qus (n:Nat) (D:Nat->Bool):(fL n D).length≤n:=by
 have:=List.length_filter_le D (List.range n);simpa [fL] using this
theorem q15 (n:Nat) (D:Nat->Bool):fL (n + 1) D = fL n D ++ if D n = true then [n] else []:=by
 unfold fL;rw [List.range_succ,List.filter_append];congr 1;by_cases h:D n = true <;> simp [h]
def rdL (c:Ci) (w:Nat):List Nat:=((qne (w:Int) c.n 0).filter fun p=>qdz (c.nd p.1).k).map (·.1)
theorem qov {c:Ci} (hv:c.val) (w:Nat) {k:Nat} (hk:k < c.n.length):(rdL c w).count k = (c.g k).count w:=by
 have h1:=Ci.rem_all hv w hk;rw [<- h1];unfold rdL Ci.rem qcm;generalize qne (w:Int) c.n 0 = l
 induction l with
 | nil=>simp
 | cons p l ih=>
  by_cases h2:p.1 = k
  ·subst h2;by_cases h3:qdz (c.nd p.1).k = true
   ·rw [if_pos h3] at ih ⊢;simp [List.filter_cons,h3,ih]
   ·rw [if_neg h3] at ih ⊢;simp [List.filter_cons,h3,ih]
  ·by_cases h3:qdz (c.nd p.1).k = true
   ·simp [List.filter_cons,h3,ih,h2,List.count_cons]
   ·simp [List.filter_cons,h3,ih,h2]
theorem q01 {c:Ci} {w k:Nat} (h:k ∈ rdL c w):k < c.n.length:=by
 obtain ⟨p,hp,rfl⟩:=List.mem_map.1 h;have:=qi9 _ _ _ p (List.mem_filter.1 hp).1;omega
theorem qf2 {c:Ci} (hv:c.val) {w k:Nat}:k ∈ rdL c w↔w ∈ c.g k:=by
 constructor
 ·intro h;have hk:=q01 h;have:=qov hv w hk;exact List.count_pos_iff.1 (by rw [<- this]; exact List.count_pos_iff.2 h)
 ·intro h
  have hk:k < c.n.length:=by
   refine Nat.lt_of_not_le fun hk=>?_;have:c.nd k = default:=by unfold Ci.nd; rw [jkd,List.getElem?_eq_none hk]; rfl
   unfold Ci.g at h;rw [this] at h;exact absurd h (by simp [qdz,show (default:Nd).k = 0 from rfl])
  have:=qov hv w hk;exact List.count_pos_iff.1 (by rw [this]; exact List.count_pos_iff.2 h)
inductive St (c:Ci):Nat->Nat->Prop
 | self {n:Nat} (h:Pp c n∨(rdL c n).length ≠ 1):St c n n
 | next {n k s:Nat} (hp:¬ Pp c n) (hr:rdL c n = [k]) (h:St c k s):St c n s
theorem St.det {c:Ci} {n s t:Nat} (h:St c n s) (h':St c n t):s = t:=by
 induction h generalizing t with
 | self h=>
  cases h' with
  | self _=>rfl
  | next hp hr _=>
   rcases h with h | h
   ·exact absurd h hp
   ·rw [hr] at h; exact absurd rfl h
 | next hp hr _ ih=>
  cases h' with
  | self h=>
   rcases h with h | h
   ·exact absurd h hp
   ·rw [hr] at h; exact absurd rfl h
  | next _ hr' h''=>
   rw [hr] at hr';cases hr';exact ih h''
theorem St.lt {c:Ci} {n s:Nat} (h:St c n s) (hn:n < c.n.length):s < c.n.length:=by
 induction h with
 | self _=>exact hn
 | next _ hr _ ih=>exact ih (q01 (w:=_) (by rw [hr]; simp))
theorem St.dom {c:Ci} (hv:c.val) (ha:qgk c) {n s:Nat} (h:St c n s) (hs:s ≠ n):Dm c.g (Pp c) n s↔Sn c.g (Pp c) none n:=by
 have hd:=qfq hv ha
 induction h with
 | self _=>exact absurd rfl hs
 | @next n k s hp hr h ih=>
  refine ⟨fun q=>q.2.1,fun q=>?_⟩
  have hone:∀ x,n ∈ c.g x->x = k:=fun x hx=>by
   have:=(qf2 hv).2 hx;rw [hr] at this;exact List.mem_singleton.1 this
  have hk:n ∈ c.g k:=(qf2 hv).1 (by rw [hr]; simp);rw [q0e hd hp]
  have hsk:Sn c.g (Pp c) none k:=by
   cases q with
   | obs _ q=>exact absurd q hp
   | step _ hk2 hs2=>rw [<- hone _ hk2]; exact hs2
  refine ⟨⟨k,hk,hsk⟩,fun x hx _=>?_⟩;rw [hone x hx];by_cases e:s = k
  ·exact .inl e
  ·exact .inr ((ih e).2 hsk)
end
section
open Go
end
end Go.Proofs.YtbbnmiaabmbheaaGreatDoor
