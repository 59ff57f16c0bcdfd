/- Lemmas. Conditions: none. -/
import Derived.Test.YtpaopccohkldlaaGreatDoorT12
set_option linter.all false
namespace Go.Proofs.YtpaopccohkldlaaGreatDoor
section
open Go
def dep (c:Ci):Nat->Nat->Nat->Bool
 | 0,a,b=>decide (a = b)
 | k + 1,a,b=>decide (a = b) || (c.g a).any fun x=>dep c k x b
structure Ft.okB (c:Ci) (f:Ft):Prop where
 m:f.m = 2∨f.m = 3
 n:f.n < c.n.length
 o:f.o < c.n.length
 q:f.q = 0
 ne:f.n ≠ f.o
 lt:f.m = 2->f.n≤f.o
 v:f.v≤1
 v3:f.m = 3->f.v = 0
 k1:(c.nd f.n).k ≠ 12
 k2:(c.nd f.o).k ≠ 12
 d1:dep c (c.n.length + 1) f.n f.o = false
 d2:dep c (c.n.length + 1) f.o f.n = false
end
section
open Go
def le2 (u v:Nat):Prop:=u = v∨u = 2
def leL:List Nat->List Nat->Prop
 | [],[]=>True
 | a :: l,b :: r=>le2 a b/\leL l r
 | _,_=>False
theorem qgs:∀ {l r:List Nat},leL l r->l.length = r.length
 | [],[],_=>rfl
 | [],_ :: _,h=>h.elim
 | _ :: _,[],h=>h.elim
 | _ :: l,_ :: r,h=>by simp [qgs h.2]
theorem qfa:∀ {l r:List Nat},leL l r->∀ i,le2 (l.getD i 0) (r.getD i 0)
 | [],[],_,_=>.inl rfl
 | [],_ :: _,h,_=>h.elim
 | _ :: _,[],h,_=>h.elim
 | _ :: _,_ :: _,h,0=>h.1
 | _ :: l,_ :: r,h,i + 1=>by simpa using qfa h.2 i
theorem qhh:∀ {l r:List Nat},l.length = r.length->(∀ i (h:i < l.length) (h':i < r.length),le2 l[i] r[i])->leL l r
 | [],[],_,_=>trivial
 | [],_ :: _,h,_=>by simp at h
 | _ :: _,[],h,_=>by simp at h
 | a :: l,b :: r,h,hi=>⟨hi 0 (by simp) (by simp),qhh (by simpa using h) fun i h1 h2=>hi (i + 1) (Nat.succ_lt_succ h1) (Nat.succ_lt_succ h2)⟩
theorem qkt {α:Type} (f g:α->Nat):∀ (l:List α),(∀ x ∈ l,le2 (f x) (g x))->leL (l.map f) (l.map g)
 | [],_=>trivial
 | x :: l,h=>⟨h x List.mem_cons_self,qkt f g l fun y hy=>h y (List.mem_cons_of_mem _ hy)⟩
theorem q5r {u v:Nat} (h:le2 u v):le2 (rdN u) (rdN v):=by
 rcases h with rfl | rfl
 ·exact .inl rfl
 ·exact .inr rfl
theorem qnz {u v:Nat} (h:le2 u v):le2 (qjb u) (qjb v):=by
 rcases h with rfl | rfl
 ·exact .inl rfl
 ·exact .inr rfl
theorem qp5 {u v:Nat} (h:le2 u v):le2 (qed u) (qed v):=by
 rcases h with rfl | rfl
 ·exact .inl rfl
 ·exact .inr rfl
theorem qru (lo hi:Nat):∀ l:List Nat,dec lo hi 2 l = lo∨dec lo hi 2 l = 2
 | []=>.inr rfl
 | v :: l=>by
  rw [dec];split
  ·exact .inl rfl
  split
  ·exact qru lo hi l
  ·exact qru lo hi l
theorem qfu {lo hi:Nat} (h1:lo ≠ 2) (h2:hi ≠ 2):∀ {l r:List Nat} {o o':Nat},leL l r->le2 o o'->le2 (dec lo hi o l) (dec lo hi o' r)
 | [],[],_,_,_,h=>h
 | [],_ :: _,_,_,h,_=>h.elim
 | _ :: _,[],_,_,h,_=>h.elim
 | u :: l,v :: r,o,o',h,ho=>by
  rw [dec,dec];rcases h.1 with rfl | rfl
  ·split
   ·exact .inl rfl
   split
   ·exact qfu h1 h2 h.2 ho
   ·exact qfu h1 h2 h.2 (.inl rfl)
  ·rw [if_neg (fun e=>h1 e.symm),if_neg (fun e=>h2 e.symm)];split
   ·exact qru lo hi l
   split
   ·exact qfu h1 h2 h.2 (.inr rfl)
   ·exact qfu h1 h2 h.2 (.inl rfl)
theorem qn0:∀ {l r:List Nat} (o:Nat),leL l r->le2 (qer o l) (qer o r)
 | [],[],_,_=>.inl rfl
 | [],_ :: _,_,h=>h.elim
 | _ :: _,[],_,h=>h.elim
 | u :: l,v :: r,o,h=>by
  rw [qer,qer];rcases h.1 with rfl | rfl
  ·split
   ·exact qn0 o h.2
   split
   ·exact qn0 _ h.2
   ·exact .inl rfl
  ·rw [if_neg (by omega),if_neg (by omega)]; exact .inr rfl
theorem q7z {s a b s' a' b':Nat} (h1:le2 s s') (h2:le2 a a') (h3:le2 b b'):le2 (qwn s a b) (qwn s' a' b'):=by
 unfold qwn rdN le2 at *;split <;> (try split) <;> (try split) <;> (try split) <;> (try split) <;> (try split) <;> omega
theorem q70 {e a e' a':Nat} (h1:le2 e e') (h2:le2 a a'):le2 (q1k e a) (q1k e' a'):=by
 unfold q1k rdN le2 at *;split <;> (try split) <;> (try split) <;> (try split) <;> omega
theorem q5s:∀ {l r:List Nat},leL l r->2 ∉ l->l = r
 | [],[],_,_=>rfl
 | [],_ :: _,h,_=>h.elim
 | _ :: _,[],h,_=>h.elim
 | u :: l,v :: r,h,hn=>by
  simp only [List.mem_cons,not_or] at hn;rcases h.1 with rfl | e
  ·rw [q5s h.2 hn.2]
  ·exact absurd e.symm hn.1
theorem q7w {l r:List Nat} (h:leL l r):le2 (q1x l) (q1x r):=by
 by_cases h2:2 ∈ l
 ·right;unfold q1x;split
  ·rename_i hf;rw [List.find?_eq_none] at hf;have:=hf 2 h2;simp at this
  ·rw [if_pos (.inr ⟨2,h2,rfl⟩)]
 ·rw [q5s h h2]; exact .inl rfl
theorem q24 (k:Nat) {l r:List Nat} (h:leL l r):le2 (qdy k l) (qdy k r):=by
 have g0:=qfa h 0;have g1:=qfa h 1;have g2:=qfa h 2;unfold qdy;by_cases e1:k = 1
 ·rw [if_pos e1,if_pos e1]; exact .inl rfl
 rw [if_neg e1,if_neg e1];by_cases e2:k = 2
 ·rw [if_pos e2,if_pos e2]; exact .inl rfl
 rw [if_neg e2,if_neg e2];by_cases e3:k = 3
 ·rw [if_pos e3,if_pos e3]; exact q5r g0
 rw [if_neg e3,if_neg e3];by_cases e4:k = 4
 ·rw [if_pos e4,if_pos e4]; exact qnz g0
 rw [if_neg e4,if_neg e4];by_cases e5:k = 5
 ·rw [if_pos e5,if_pos e5]; exact qfu (by omega) (by omega) h (.inl rfl)
 rw [if_neg e5,if_neg e5];by_cases e6:k = 6
 ·rw [if_pos e6,if_pos e6]; exact qnz (qfu (by omega) (by omega) h (.inl rfl))
 rw [if_neg e6,if_neg e6];by_cases e7:k = 7
 ·rw [if_pos e7,if_pos e7]; exact qfu (by omega) (by omega) h (.inl rfl)
 rw [if_neg e7,if_neg e7];by_cases e8:k = 8
 ·rw [if_pos e8,if_pos e8]; exact qnz (qfu (by omega) (by omega) h (.inl rfl))
 rw [if_neg e8,if_neg e8];by_cases e9:k = 9
 ·rw [if_pos e9,if_pos e9]; exact qn0 0 h
 rw [if_neg e9,if_neg e9];by_cases e10:k = 10
 ·rw [if_pos e10,if_pos e10]; exact qnz (qn0 0 h)
 rw [if_neg e10,if_neg e10];by_cases e11:k = 11
 ·rw [if_pos e11,if_pos e11]; exact q7z g0 g1 g2
 rw [if_neg e11,if_neg e11];by_cases e12:k = 12
 ·rw [if_pos e12,if_pos e12]; exact q70 g0 g1
 rw [if_neg e12,if_neg e12];by_cases e13:k = 13
 ·rw [if_pos e13,if_pos e13]; exact q7w h
 rw [if_neg e13,if_neg e13]; exact .inl rfl
theorem q7y (k:Nat) {l r:List Nat} (h:leL l r):le2 (qgi k l) (qgi k r):=by
 unfold qgi;rw [qgs h];split
 ·exact .inl rfl
 ·exact q24 k h
theorem qr4:∀ (ns:List Nat) {vs vs':List Nat} {f f':Nat->Nat},leL vs vs'->(∀ i,le2 (f i) (f' i))->∀ i,le2 (put ns vs f i) (put ns vs' f' i)
 | [],_,_,_,_,_,hf,i=>by simpa [put] using hf i
 | _ :: _,[],[],_,_,_,hf,i=>by simpa [put] using hf i
 | _ :: _,[],_ :: _,_,_,h,_,_=>h.elim
 | _ :: _,_ :: _,[],_,_,h,_,_=>h.elim
 | n :: ns,v :: vs,v' :: vs',f,f',h,hf,i=>by
  rw [put,put];refine qr4 ns h.2 (fun j=>?_) i;by_cases hj:j = n
  ·subst hj; rw [qa4,qa4]; exact h.1
  ·rw [qav _ _ hj,qav _ _ hj]; exact hf j
def Pt.le (p q:Pt):Prop:=leL p.i q.i/\leL p.s q.s
theorem q7x (c:Ci) {p q:Pt} (h:p.le q) (i:Nat):le2 (ini c p i) (ini c q i):=qr4 _ h.2 (qr4 _ h.1 fun _=>.inl rfl) i
def LeW (W W':Nat->Nat->Nat):Prop:=∀ n u v,le2 u v->le2 (W n u) (W' n v)
def LeQ (Q Q':Nat->Nat->Nat->Nat):Prop:=∀ n k u v,le2 u v->le2 (Q n k u) (Q' n k v)
theorem qyy (c:Ci) {Q Q':Nat->Nat->Nat->Nat} (hQ:LeQ Q Q') (n:Nat) {f f':Nat->Nat} (hf:∀ i,le2 (f i) (f' i)):leL (qfx c Q n f) (qfx c Q' n f'):=by
 refine qhh (by simp [qfx]) fun i h1 h2=>?_;simp only [qfx,List.getElem_mapIdx];exact hQ _ _ _ _ (hf _)
theorem jc5 (c:Ci) {W W':Nat->Nat->Nat} {Q Q':Nat->Nat->Nat->Nat} (hW:LeW W W') (hQ:LeQ Q Q') (n:Nat) {f f':Nat->Nat} (hf:∀ i,le2 (f i) (f' i)):le2 (evM c W Q n f) (evM c W' Q' n f'):=by
 unfold evM;refine hW _ _ _ ?_;split
 ·exact q7y _ (qyy c hQ n hf)
 ·exact hf n
theorem qyx (c:Ci) {W W':Nat->Nat->Nat} {Q Q':Nat->Nat->Nat->Nat} (hW:LeW W W') (hQ:LeQ Q Q'):∀ (L:List Nat) {f f':Nat->Nat},(∀ i,le2 (f i) (f' i))->∀ i,le2 (evl (evM c W Q) (fun _=>true) L f i) (evl (evM c W' Q') (fun _=>true) L f' i)
 | [],_,_,hf,i=>hf i
 | m :: L,f,f',hf,i=>by
  simp only [evl,if_true];refine qyx c hW hQ L (fun j=>?_) i;by_cases hj:j = m
  ·subst hj; rw [qa4,qa4]; exact jc5 c hW hQ j hf
  ·rw [qav _ _ hj,qav _ _ hj]; exact hf j
theorem qny (c:Ci) {W W':Nat->Nat->Nat} {Q Q':Nat->Nat->Nat->Nat} (hW:LeW W W') (hQ:LeQ Q Q') {p q:Pt} (h:p.le q) (i:Nat):le2 (qi3 c W Q p i) (qi3 c W' Q' q i):=qyx c hW hQ _ (q7x c h) i
theorem jda:LeW idW idW:=fun _ _ _ h=>h
theorem jc7:LeQ idQ idQ:=fun _ _ _ _ h=>h
theorem qjp (c:Ci) {p q:Pt} (h:p.le q) (i:Nat):le2 (qbj c p i) (qbj c q i):=by
 rw [qqg,qqg]; exact qny c jda jc7 h i
theorem jc9 (f:Ft) {G G':Nat->Nat} (h:∀ u v,le2 u v->le2 (G u) (G' v)):LeW (atW f G) (atW f G'):=fun n u v hu=>by
 unfold atW;split
 ·exact h _ _ hu
 ·exact hu
theorem jc6 (f:Ft) {G G':Nat->Nat} (h:∀ u v,le2 u v->le2 (G u) (G' v)):LeQ (atQ f G) (atQ f G'):=fun n k u v hu=>by
 unfold atQ;split
 ·exact h _ _ hu
 ·exact hu
theorem q25 (c:Ci) {Q Q':Nat->Nat->Nat->Nat} (hQ:LeQ Q Q') {f f':Nat->Nat} (hf:∀ i,le2 (f i) (f' i)) (n:Nat):le2 (qwo c Q f n) (qwo c Q' f' n):=by
 have h:=qfa (qyy c hQ n hf) 0;unfold qwo;rcases h with h | h
 ·rw [h]; exact .inl rfl
 ·rw [h]; exact .inr rfl
theorem q26 (c:Ci) {f f':Nat->Nat} (hf:∀ i,le2 (f i) (f' i)) (n:Nat):le2 (qwp c f n) (qwp c f' n):=by
 unfold qwp;split
 ·exact q5r (qp5 (hf _))
 ·exact .inl rfl
theorem qxv {a b a' b':List Nat} (h1:leL a a') (h2:leL b b') (i:Nat) (h:qvb a b i = true):qvb a' b' i = true:=by
 have g1:=qfa h1 i;have g2:=qfa h2 i;unfold qvb at h ⊢;simp only [Bool.and_eq_true,decide_eq_true_eq,le2] at *;omega
theorem qnh {a b:List Nat}:0 < (cons a b).length↔∃ i,i < min a.length b.length/\qvb a b i = true:=by
 unfold cons qrs;rw [List.length_pos_iff_exists_mem];constructor
 ·rintro ⟨i,hi⟩;rw [List.mem_filter,List.mem_range] at hi;exact ⟨i,hi⟩
 ·rintro ⟨i,hi⟩;exact ⟨i,by rw [List.mem_filter,List.mem_range]; exact hi⟩
theorem qpj {a b a' b':List Nat} (h1:leL a a') (h2:leL b b') (h:0 < (cons a b).length):0 < (cons a' b').length:=by
 rw [qnh] at h ⊢;obtain ⟨i,hi,h⟩:=h;exact ⟨i,by rw [<- qgs h1,<- qgs h2]; exact hi,qxv h1 h2 i h⟩
theorem q0c {O S O2 S2 O' S' O2' S2':List Nat} (h1:leL O O') (h2:leL S S') (h3:leL O2 O2') (h4:leL S2 S2') (h:qim O S O2 S2 = true):qim O' S' O2' S2' = true:=by
 unfold qim at h ⊢;rw [decide_eq_true_eq] at h ⊢;have:0 < (cons O O2).length∨0 < (cons S S2).length:=by omega
 rcases this with q | q
 ·have:=qpj h1 h3 q; omega
 ·have:=qpj h2 h4 q; omega
noncomputable def jay (c:Ci) (W:Nat->Nat->Nat) (Q:Nat->Nat->Nat->Nat) (p:Pt):Bool:=qim (qms c (qbj c p)) (qmt c (qbj c p)) (qf8 c (qi3 c W Q p)) (qf9 c Q (qi3 c W Q p))
theorem q4z (c:Ci) {W W':Nat->Nat->Nat} {Q Q':Nat->Nat->Nat->Nat} (hW:LeW W W') (hQ:LeQ Q Q') {p q:Pt} (h:p.le q) (hv:jay c W Q p = true):jay c W' Q' q = true:=by
 refine q0c (qkt _ _ _ fun x _=>qp5 (qjp c h _)) (qkt _ _ _ fun x _=>q26 c (qjp c h) x) (qkt _ _ _ fun x _=>qny c hW hQ h _) (qkt _ _ _ fun x _=>q25 c hQ (qny c hW hQ h) x) hv
end
section
open Go
inductive Rch (g:Nat->List Nat):Nat->Nat->Prop
 | rfl (a:Nat):Rch g a a
 | head {a x b:Nat} (hx:x ∈ g a) (h:Rch g x b):Rch g a b
theorem Rch.closed {g:Nat->List Nat} {S:Nat->Prop} (hS:∀ x,S x->∀ y ∈ g x,S y) {a b:Nat} (h:Rch g a b):S a->S b:=by
 induction h with
 | rfl a=>exact id
 | head hx _ ih=>exact fun ha=>ih (hS _ ha _ hx)
theorem qm1 {c:Ci}:∀ (k:Nat) {a b:Nat},dep c k a b = true->Rch c.g a b
 | 0,a,b,h=>by simp only [dep,decide_eq_true_eq] at h; subst h; exact .rfl _
 | k + 1,a,b,h=>by
  simp only [dep,Bool.or_eq_true,decide_eq_true_eq,List.any_eq_true] at h;rcases h with rfl | ⟨x,hx,h⟩
  ·exact .rfl _
  ·exact .head hx (qm1 k h)
theorem qve {c:Ci} (hg:c.good) {a b:Nat} (h:Rch c.g a b):∀ k,qhy c a < k->a < c.n.length->dep c k a b = true:=by
 have hlv:qhz c.n.length c.g (qhy c):=hg.ac.lv
 induction h with
 | rfl a=>intro k _ _; cases k <;> simp [dep]
 | @head a x b hx _ ih=>
  intro k hk ha;obtain ⟨k,rfl⟩:∃ j,k = j + 1:=⟨k - 1,by omega⟩;have h1:=hlv a ha;have h2:=qp6 (f:=qhy c) hx;rw [dep,Bool.or_eq_true,List.any_eq_true];exact .inr ⟨x,hx,ih k (by omega) (hg.val.g a ha x hx)⟩
theorem q7a {c:Ci} (hg:c.good) {a b:Nat} (ha:a < c.n.length):dep c (c.n.length + 1) a b = true↔Rch c.g a b:=by
 have hlv:qhz c.n.length c.g (qhy c):=hg.ac.lv;have:=hlv.lt hg.val.g a ha;exact ⟨qm1 _,fun h=>qve hg h _ (by omega) ha⟩
def qte (n:Nat) (S:Nat->Bool):List V:=tab n fun i=>.bool (S i)
@[simp] theorem q1w (n:Nat) (S:Nat->Bool):(qte n S).length = n:=by simp [qte]
structure ja4 (c:Ci) (a:Nat) (S:Nat->Bool) (td:List Nat) (n:Option Nat) (jn:List Nat):Prop where
 m:S a = true
 r:∀ x,S x = true->x < c.n.length/\Rch c.g a x
 t:∀ x ∈ td,S x = true
 s:∀ x,n = some x->S x = true
 c:∀ x,S x = true->x ∉ td->n ≠ some x->∀ y ∈ c.g x,S y = true
 j:∀ y ∈ jn,S y = true
theorem ja4.all {c:Ci} (hg:c.good) {a:Nat} (ha:a < c.n.length) {S:Nat->Bool} (h:ja4 c a S [] none []):qte c.n.length S = qte c.n.length (dep c (c.n.length + 1) a):=by
 have:S = dep c (c.n.length + 1) a:=by
  funext x
  have hd:dep c (c.n.length + 1) a x = true↔S x = true:=by
   rw [q7a hg ha];exact ⟨fun q=>q.closed (S:=fun z=>S z = true) (fun z hz y hy=>h.c z hz (by simp) (by simp) y hy) h.m,fun q=>(h.r x q).2⟩
  cases hs:S x <;> cases hd2:dep c (c.n.length + 1) a x <;> simp_all
 rw [this]
structure CoSt where
 S:Nat->Bool
 es:List Nat
 l:Nat
 g:Nat
 cap:Option Nat
structure CoSt2 extends CoSt where
 k:Nat
end
end Go.Proofs.YtpaopccohkldlaaGreatDoor
