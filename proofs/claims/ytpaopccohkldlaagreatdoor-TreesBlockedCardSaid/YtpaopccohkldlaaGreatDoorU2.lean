/- Lemmas. Conditions: none. -/
import Derived.Test.YtpaopccohkldlaaGreatDoorT12
set_option linter.all false
namespace Go.Proofs.YtpaopccohkldlaaGreatDoor
open Go
def le2 (u v:Nat):Prop:=u = v∨u = 2
def leL:List Nat->List Nat->Prop
 | [],[]=>True
 | a :: l,b :: r=>le2 a b/\leL l r
 | _,_=>False
theorem qgn:∀ {l r:List Nat},leL l r->l.length = r.length
 | [],[],_=>rfl
 | [],_ :: _,h=>h.elim
 | _ :: _,[],h=>h.elim
 | _ :: l,_ :: r,h=>by simp [qgn h.2]
theorem qe3:∀ {l r:List Nat},leL l r->∀ i,le2 (l.getD i 0) (r.getD i 0)
 | [],[],_,_=>.inl rfl
 | [],_ :: _,h,_=>h.elim
 | _ :: _,[],h,_=>h.elim
 | _ :: _,_ :: _,h,0=>h.1
 | _ :: l,_ :: r,h,i + 1=>by simpa using qe3 h.2 i
theorem qlt:∀ {l r:List Nat},l.length = r.length->(∀ i (h:i < l.length) (h':i < r.length),le2 l[i] r[i])->leL l r
 | [],[],_,_=>trivial
 | [],_ :: _,h,_=>by simp at h
 | _ :: _,[],h,_=>by simp at h
 | a :: l,b :: r,h,hi=>⟨hi 0 (by simp) (by simp),qlt (by simpa using h) fun i h1 h2=>hi (i + 1) (Nat.succ_lt_succ h1) (Nat.succ_lt_succ h2)⟩
theorem qj2 {α:Type} (f g:α->Nat):∀ (l:List α),(∀ x ∈ l,le2 (f x) (g x))->leL (l.map f) (l.map g)
 | [],_=>trivial
 | x :: l,h=>⟨h x List.mem_cons_self,qj2 f g l fun y hy=>h y (List.mem_cons_of_mem _ hy)⟩
theorem q1u {u v:Nat} (h:le2 u v):le2 (rdN u) (rdN v):=by
 rcases h with rfl | rfl
 ·exact .inl rfl
 ·exact .inr rfl
theorem qmy {u v:Nat} (h:le2 u v):le2 (qo1 u) (qo1 v):=by
 rcases h with rfl | rfl
 ·exact .inl rfl
 ·exact .inr rfl
theorem qot {u v:Nat} (h:le2 u v):le2 (qd1 u) (qd1 v):=by
 rcases h with rfl | rfl
 ·exact .inl rfl
 ·exact .inr rfl
theorem qp6 (lo hi:Nat):∀ l:List Nat,dec lo hi 2 l = lo∨dec lo hi 2 l = 2
 | []=>.inr rfl
 | v :: l=>by
  rw [dec];split
  ·exact .inl rfl
  split
  ·exact qp6 lo hi l
  ·exact qp6 lo hi l
theorem qfp {lo hi:Nat} (h1:lo ≠ 2) (h2:hi ≠ 2):∀ {l r:List Nat} {o o':Nat},leL l r->le2 o o'->le2 (dec lo hi o l) (dec lo hi o' r)
 | [],[],_,_,_,h=>h
 | [],_ :: _,_,_,h,_=>h.elim
 | _ :: _,[],_,_,h,_=>h.elim
 | u :: l,v :: r,o,o',h,ho=>by
  rw [dec,dec];rcases h.1 with rfl | rfl
  ·split
   ·exact .inl rfl
   split
   ·exact qfp h1 h2 h.2 ho
   ·exact qfp h1 h2 h.2 (.inl rfl)
  ·rw [if_neg (fun e=>h1 e.symm),if_neg (fun e=>h2 e.symm)];split
   ·exact qp6 lo hi l
   split
   ·exact qfp h1 h2 h.2 (.inr rfl)
   ·exact qfp h1 h2 h.2 (.inl rfl)
theorem qmz:∀ {l r:List Nat} (o:Nat),leL l r->le2 (qns o l) (qns o r)
 | [],[],_,_=>.inl rfl
 | [],_ :: _,_,h=>h.elim
 | _ :: _,[],_,h=>h.elim
 | u :: l,v :: r,o,h=>by
  rw [qns,qns];rcases h.1 with rfl | rfl
  ·split
   ·exact qmz o h.2
   split
   ·exact qmz _ h.2
   ·exact .inl rfl
  ·rw [if_neg (by omega),if_neg (by omega)]; exact .inr rfl
theorem q3v {s a b s' a' b':Nat} (h1:le2 s s') (h2:le2 a a') (h3:le2 b b'):le2 (qtw s a b) (qtw s' a' b'):=by
 unfold qtw rdN le2 at *;split <;> (try split) <;> (try split) <;> (try split) <;> (try split) <;> (try split) <;> omega
theorem q3w {e a e' a':Nat} (h1:le2 e e') (h2:le2 a a'):le2 (qyc e a) (qyc e' a'):=by
 unfold qyc rdN le2 at *;split <;> (try split) <;> (try split) <;> (try split) <;> omega
theorem q1v:∀ {l r:List Nat},leL l r->2 ∉ l->l = r
 | [],[],_,_=>rfl
 | [],_ :: _,h,_=>h.elim
 | _ :: _,[],h,_=>h.elim
 | u :: l,v :: r,h,hn=>by
  simp only [List.mem_cons,not_or] at hn;rcases h.1 with rfl | e
  ·rw [q1v h.2 hn.2]
  ·exact absurd e.symm hn.1
theorem q3s {l r:List Nat} (h:leL l r):le2 (qyo l) (qyo r):=by
 by_cases h2:2 ∈ l
 ·right;unfold qyo;split
  ·rename_i hf;rw [List.find?_eq_none] at hf;have:=hf 2 h2;simp at this
  ·rw [if_pos (.inr ⟨2,h2,rfl⟩)]
 ·rw [q1v h h2]; exact .inl rfl
theorem qzn (k:Nat) {l r:List Nat} (h:leL l r):le2 (qdo k l) (qdo k r):=by
 have g0:=qe3 h 0;have g1:=qe3 h 1;have g2:=qe3 h 2;unfold qdo;by_cases e1:k = 1
 ·rw [if_pos e1,if_pos e1]; exact .inl rfl
 rw [if_neg e1,if_neg e1];by_cases e2:k = 2
 ·rw [if_pos e2,if_pos e2]; exact .inl rfl
 rw [if_neg e2,if_neg e2];by_cases e3:k = 3
 ·rw [if_pos e3,if_pos e3]; exact q1u g0
 rw [if_neg e3,if_neg e3];by_cases e4:k = 4
 ·rw [if_pos e4,if_pos e4]; exact qmy g0
 rw [if_neg e4,if_neg e4];by_cases e5:k = 5
 ·rw [if_pos e5,if_pos e5]; exact qfp (by omega) (by omega) h (.inl rfl)
 rw [if_neg e5,if_neg e5];by_cases e6:k = 6
 ·rw [if_pos e6,if_pos e6]; exact qmy (qfp (by omega) (by omega) h (.inl rfl))
 rw [if_neg e6,if_neg e6];by_cases e7:k = 7
 ·rw [if_pos e7,if_pos e7]; exact qfp (by omega) (by omega) h (.inl rfl)
 rw [if_neg e7,if_neg e7];by_cases e8:k = 8
 ·rw [if_pos e8,if_pos e8]; exact qmy (qfp (by omega) (by omega) h (.inl rfl))
 rw [if_neg e8,if_neg e8];by_cases e9:k = 9
 ·rw [if_pos e9,if_pos e9]; exact qmz 0 h
 rw [if_neg e9,if_neg e9];by_cases e10:k = 10
 ·rw [if_pos e10,if_pos e10]; exact qmy (qmz 0 h)
 rw [if_neg e10,if_neg e10];by_cases e11:k = 11
 ·rw [if_pos e11,if_pos e11]; exact q3v g0 g1 g2
 rw [if_neg e11,if_neg e11];by_cases e12:k = 12
 ·rw [if_pos e12,if_pos e12]; exact q3w g0 g1
 rw [if_neg e12,if_neg e12];by_cases e13:k = 13
 ·rw [if_pos e13,if_pos e13]; exact q3s h
 rw [if_neg e13,if_neg e13]; exact .inl rfl
theorem q3u (k:Nat) {l r:List Nat} (h:leL l r):le2 (qow k l) (qow k r):=by
 unfold qow;rw [qgn h];split
 ·exact .inl rfl
 ·exact qzn k h
theorem qqg:∀ (ns:List Nat) {vs vs':List Nat} {f f':Nat->Nat},leL vs vs'->(∀ i,le2 (f i) (f' i))->∀ i,le2 (put ns vs f i) (put ns vs' f' i)
 | [],_,_,_,_,_,hf,i=>by simpa [put] using hf i
 | _ :: _,[],[],_,_,_,hf,i=>by simpa [put] using hf i
 | _ :: _,[],_ :: _,_,_,h,_,_=>h.elim
 | _ :: _,_ :: _,[],_,_,h,_,_=>h.elim
 | n :: ns,v :: vs,v' :: vs',f,f',h,hf,i=>by
  rw [put,put];refine qqg ns h.2 (fun j=>?_) i;by_cases hj:j = n
  ·subst hj; rw [qbl,qbl]; exact h.1
  ·rw [qa0 _ _ hj,qa0 _ _ hj]; exact hf j
def Pt.le (p q:Pt):Prop:=leL p.i q.i/\leL p.s q.s
theorem q3t (c:Ci) {p q:Pt} (h:p.le q) (i:Nat):le2 (ini c p i) (ini c q i):=qqg _ h.2 (qqg _ h.1 fun _=>.inl rfl) i
def LeW (W W':Nat->Nat->Nat):Prop:=∀ n u v,le2 u v->le2 (W n u) (W' n v)
def LeQ (Q Q':Nat->Nat->Nat->Nat):Prop:=∀ n k u v,le2 u v->le2 (Q n k u) (Q' n k v)
theorem qvx (c:Ci) {Q Q':Nat->Nat->Nat->Nat} (hQ:LeQ Q Q') (n:Nat) {f f':Nat->Nat} (hf:∀ i,le2 (f i) (f' i)):leL (qfs c Q n f) (qfs c Q' n f'):=by
 refine qlt (by simp [qfs]) fun i h1 h2=>?_;simp only [qfs,List.getElem_mapIdx];exact hQ _ _ _ _ (hf _)
theorem q79 (c:Ci) {W W':Nat->Nat->Nat} {Q Q':Nat->Nat->Nat->Nat} (hW:LeW W W') (hQ:LeQ Q Q') (n:Nat) {f f':Nat->Nat} (hf:∀ i,le2 (f i) (f' i)):le2 (evM c W Q n f) (evM c W' Q' n f'):=by
 unfold evM;refine hW _ _ _ ?_;split
 ·exact q3u _ (qvx c hQ n hf)
 ·exact hf n
theorem qvw (c:Ci) {W W':Nat->Nat->Nat} {Q Q':Nat->Nat->Nat->Nat} (hW:LeW W W') (hQ:LeQ Q Q'):∀ (L:List Nat) {f f':Nat->Nat},(∀ i,le2 (f i) (f' i))->∀ i,le2 (evl (evM c W Q) (fun _=>true) L f i) (evl (evM c W' Q') (fun _=>true) L f' i)
 | [],_,_,hf,i=>hf i
 | m :: L,f,f',hf,i=>by
  simp only [evl,if_true];refine qvw c hW hQ L (fun j=>?_) i;by_cases hj:j = m
  ·subst hj; rw [qbl,qbl]; exact q79 c hW hQ j hf
  ·rw [qa0 _ _ hj,qa0 _ _ hj]; exact hf j
theorem qmx (c:Ci) {W W':Nat->Nat->Nat} {Q Q':Nat->Nat->Nat->Nat} (hW:LeW W W') (hQ:LeQ Q Q') {p q:Pt} (h:p.le q) (i:Nat):le2 (qio c W Q p i) (qio c W' Q' q i):=qvw c hW hQ _ (q3t c h) i
theorem q8e:LeW idW idW:=fun _ _ _ h=>h
theorem q8b:LeQ idQ idQ:=fun _ _ _ _ h=>h
theorem qg5 (c:Ci) {p q:Pt} (h:p.le q) (i:Nat):le2 (qb8 c p i) (qb8 c q i):=by
 rw [qr5,qr5]; exact qmx c q8e q8b h i
theorem q8d (f:Ft) {G G':Nat->Nat} (h:∀ u v,le2 u v->le2 (G u) (G' v)):LeW (atW f G) (atW f G'):=fun n u v hu=>by
 unfold atW;split
 ·exact h _ _ hu
 ·exact hu
theorem q8a (f:Ft) {G G':Nat->Nat} (h:∀ u v,le2 u v->le2 (G u) (G' v)):LeQ (atQ f G) (atQ f G'):=fun n k u v hu=>by
 unfold atQ;split
 ·exact h _ _ hu
 ·exact hu
theorem qzo (c:Ci) {Q Q':Nat->Nat->Nat->Nat} (hQ:LeQ Q Q') {f f':Nat->Nat} (hf:∀ i,le2 (f i) (f' i)) (n:Nat):le2 (qtx c Q f n) (qtx c Q' f' n):=by
 have h:=qe3 (qvx c hQ n hf) 0;unfold qtx;rcases h with h | h
 ·rw [h]; exact .inl rfl
 ·rw [h]; exact .inr rfl
theorem qzp (c:Ci) {f f':Nat->Nat} (hf:∀ i,le2 (f i) (f' i)) (n:Nat):le2 (qty c f n) (qty c f' n):=by
 unfold qty;split
 ·exact q1u (qot (hf _))
 ·exact .inl rfl
theorem qut {a b a' b':List Nat} (h1:leL a a') (h2:leL b b') (i:Nat) (h:qsw a b i = true):qsw a' b' i = true:=by
 have g1:=qe3 h1 i;have g2:=qe3 h2 i;unfold qsw at h ⊢;simp only [Bool.and_eq_true,decide_eq_true_eq,le2] at *;omega
theorem qmc {a b:List Nat}:0 < (cons a b).length↔∃ i,i < min a.length b.length/\qsw a b i = true:=by
 unfold cons qp3;rw [List.length_pos_iff_exists_mem];constructor
 ·rintro ⟨i,hi⟩;rw [List.mem_filter,List.mem_range] at hi;exact ⟨i,hi⟩
 ·rintro ⟨i,hi⟩;exact ⟨i,by rw [List.mem_filter,List.mem_range]; exact hi⟩
theorem qob {a b a' b':List Nat} (h1:leL a a') (h2:leL b b') (h:0 < (cons a b).length):0 < (cons a' b').length:=by
 rw [qmc] at h ⊢;obtain ⟨i,hi,h⟩:=h;exact ⟨i,by rw [<- qgn h1,<- qgn h2]; exact hi,qut h1 h2 i h⟩
theorem qw9 {O S O2 S2 O' S' O2' S2':List Nat} (h1:leL O O') (h2:leL S S') (h3:leL O2 O2') (h4:leL S2 S2') (h:qh3 O S O2 S2 = true):qh3 O' S' O2' S2' = true:=by
 unfold qh3 at h ⊢;rw [decide_eq_true_eq] at h ⊢;have:0 < (cons O O2).length∨0 < (cons S S2).length:=by omega
 rcases this with q | q
 ·have:=qob h1 h3 q; omega
 ·have:=qob h2 h4 q; omega
noncomputable def q58 (c:Ci) (W:Nat->Nat->Nat) (Q:Nat->Nat->Nat->Nat) (p:Pt):Bool:=qh3 (qj7 c (qb8 c p)) (qkx c (qb8 c p)) (qfe c (qio c W Q p)) (qff c Q (qio c W Q p))
theorem q00 (c:Ci) {W W':Nat->Nat->Nat} {Q Q':Nat->Nat->Nat->Nat} (hW:LeW W W') (hQ:LeQ Q Q') {p q:Pt} (h:p.le q) (hv:q58 c W Q p = true):q58 c W' Q' q = true:=by
 refine qw9 (qj2 _ _ _ fun x _=>qot (qg5 c h _)) (qj2 _ _ _ fun x _=>qzp c (qg5 c h) x) (qj2 _ _ _ fun x _=>qmx c hW hQ h _) (qj2 _ _ _ fun x _=>qzo c hQ (qmx c hW hQ h) x) hv
end Go.Proofs.YtpaopccohkldlaaGreatDoor
