/- Lemmas for the card. Conditions: none. -/
import Derived.Test.YtpaopccohkldlaaGreatDoorT12
set_option linter.unusedSimpArgs false
set_option linter.unusedVariables false
namespace Go.Proofs.YtpaopccohkldlaaGreatDoor
open Go
def le2 (u v : Nat) : Prop:=u = v∨u = 2
def leL : List Nat->List Nat->Prop
 | [],[]=>True
 | a :: l,b :: r=>le2 a b/\leL l r
 | _,_=>False
theorem qkk : ∀ {l r : List Nat},leL l r->l.length = r.length
 | [],[],_=>rfl
 | [],_ :: _,h=>h.elim
 | _ :: _,[],h=>h.elim
 | _ :: l,_ :: r,h=>by simp [qkk h.2]
theorem qir : ∀ {l r : List Nat},leL l r->∀ i,le2 (l.getD i 0) (r.getD i 0)
 | [],[],_,_=>.inl rfl
 | [],_ :: _,h,_=>h.elim
 | _ :: _,[],h,_=>h.elim
 | _ :: _,_ :: _,h,0=>h.1
 | _ :: l,_ :: r,h,i + 1=>by simpa using qir h.2 i
theorem qm2 : ∀ {l r : List Nat},l.length = r.length->(∀ i (h : i < l.length) (h' : i < r.length),le2 l[i] r[i])->leL l r
 | [],[],_,_=>trivial
 | [],_ :: _,h,_=>by simp at h
 | _ :: _,[],h,_=>by simp at h
 | a :: l,b :: r,h,hi=>⟨hi 0 (by simp) (by simp),qm2 (by simpa using h) fun i h1 h2=>hi (i + 1) (Nat.succ_lt_succ h1) (Nat.succ_lt_succ h2)⟩
theorem jb4 {u v : Nat} (h : le2 u v) : le2 (rdN u) (rdN v):=by
 rcases h with rfl | rfl
 ·exact .inl rfl
 ·exact .inr rfl
theorem qot {u v : Nat} (h : le2 u v) : le2 (qjo u) (qjo v):=by
 rcases h with rfl | rfl
 ·exact .inl rfl
 ·exact .inr rfl
theorem qst (lo hi : Nat) : ∀ l : List Nat,dec lo hi 2 l = lo∨dec lo hi 2 l = 2
 | []=>.inr rfl
 | v :: l=>by
  rw [dec];split
  ·exact .inl rfl
  split
  ·exact qst lo hi l
  ·exact qst lo hi l
theorem qf4 {lo hi : Nat} (h1 : lo ≠ 2) (h2 : hi ≠ 2) : ∀ {l r : List Nat} {o o' : Nat},leL l r->le2 o o'->le2 (dec lo hi o l) (dec lo hi o' r)
 | [],[],_,_,_,h=>h
 | [],_ :: _,_,_,h,_=>h.elim
 | _ :: _,[],_,_,h,_=>h.elim
 | u :: l,v :: r,o,o',h,ho=>by
  rw [dec,dec];rcases h.1 with rfl | rfl
  ·split
   ·exact .inl rfl
   split
   ·exact qf4 h1 h2 h.2 ho
   ·exact qf4 h1 h2 h.2 (.inl rfl)
  ·rw [if_neg (fun e=>h1 e.symm),if_neg (fun e=>h2 e.symm)];split
   ·exact qst lo hi l
   split
   ·exact qf4 h1 h2 h.2 (.inr rfl)
   ·exact qf4 h1 h2 h.2 (.inl rfl)
theorem qn5 : ∀ {l r : List Nat} (o : Nat),leL l r->le2 (qew o l) (qew o r)
 | [],[],_,_=>.inl rfl
 | [],_ :: _,_,h=>h.elim
 | _ :: _,[],_,h=>h.elim
 | u :: l,v :: r,o,h=>by
  rw [qew,qew];rcases h.1 with rfl | rfl
  ·split
   ·exact qn5 o h.2
   split
   ·exact qn5 _ h.2
   ·exact .inl rfl
  ·rw [if_neg (by omega),if_neg (by omega)]; exact .inr rfl
theorem q6w {s a b s' a' b' : Nat} (h1 : le2 s s') (h2 : le2 a a') (h3 : le2 b b') : le2 (qwy s a b) (qwy s' a' b'):=by
 unfold qwy rdN le2 at *;split <;> (try split) <;> (try split) <;> (try split) <;> (try split) <;> (try split) <;> omega
theorem q97 {e a e' a' : Nat} (h1 : le2 e e') (h2 : le2 a a') : le2 (q1l e a) (q1l e' a'):=by
 unfold q1l rdN le2 at *;split <;> (try split) <;> (try split) <;> (try split) <;> omega
theorem q5g : ∀ {l r : List Nat},leL l r->2 ∉ l->l = r
 | [],[],_,_=>rfl
 | [],_ :: _,h,_=>h.elim
 | _ :: _,[],h,_=>h.elim
 | u :: l,v :: r,h,hn=>by
  simp only [List.mem_cons,not_or] at hn;rcases h.1 with rfl | e
  ·rw [q5g h.2 hn.2]
  ·exact absurd e.symm hn.1
theorem jag {l r : List Nat} (h : leL l r) : le2 (q38 l) (q38 r):=by
 by_cases h2 : 2 ∈ l
 ·right;unfold q38;split
  ·rename_i hf;rw [List.find?_eq_none] at hf;have:=hf 2 h2;simp at this
  ·rw [if_pos (.inr ⟨2,h2,rfl⟩)]
 ·rw [q5g h h2]; exact .inl rfl
theorem q3j (k : Nat) {l r : List Nat} (h : leL l r) : le2 (qd6 k l) (qd6 k r):=by
 have g0:=qir h 0;have g1:=qir h 1;have g2:=qir h 2;unfold qd6;by_cases e1 : k = 1
 ·rw [if_pos e1,if_pos e1]; exact .inl rfl
 rw [if_neg e1,if_neg e1];by_cases e2 : k = 2
 ·rw [if_pos e2,if_pos e2]; exact .inl rfl
 rw [if_neg e2,if_neg e2];by_cases e3 : k = 3
 ·rw [if_pos e3,if_pos e3]; exact jb4 g0
 rw [if_neg e3,if_neg e3];by_cases e4 : k = 4
 ·rw [if_pos e4,if_pos e4]; exact qot g0
 rw [if_neg e4,if_neg e4];by_cases e5 : k = 5
 ·rw [if_pos e5,if_pos e5]; exact qf4 (by omega) (by omega) h (.inl rfl)
 rw [if_neg e5,if_neg e5];by_cases e6 : k = 6
 ·rw [if_pos e6,if_pos e6]; exact qot (qf4 (by omega) (by omega) h (.inl rfl))
 rw [if_neg e6,if_neg e6];by_cases e7 : k = 7
 ·rw [if_pos e7,if_pos e7]; exact qf4 (by omega) (by omega) h (.inl rfl)
 rw [if_neg e7,if_neg e7];by_cases e8 : k = 8
 ·rw [if_pos e8,if_pos e8]; exact qot (qf4 (by omega) (by omega) h (.inl rfl))
 rw [if_neg e8,if_neg e8];by_cases e9 : k = 9
 ·rw [if_pos e9,if_pos e9]; exact qn5 0 h
 rw [if_neg e9,if_neg e9];by_cases e10 : k = 10
 ·rw [if_pos e10,if_pos e10]; exact qot (qn5 0 h)
 rw [if_neg e10,if_neg e10];by_cases e11 : k = 11
 ·rw [if_pos e11,if_pos e11]; exact q6w g0 g1 g2
 rw [if_neg e11,if_neg e11];by_cases e12 : k = 12
 ·rw [if_pos e12,if_pos e12]; exact q97 g0 g1
 rw [if_neg e12,if_neg e12];by_cases e13 : k = 13
 ·rw [if_pos e13,if_pos e13]; exact jag h
 rw [if_neg e13,if_neg e13]; exact .inl rfl
theorem q82 (k : Nat) {l r : List Nat} (h : leL l r) : le2 (qgv k l) (qgv k r):=by
 unfold qgv;rw [qkk h];split
 ·exact .inl rfl
 ·exact q3j k h
theorem qtg : ∀ (ns : List Nat) {vs vs' : List Nat} {f f' : Nat->Nat},leL vs vs'->(∀ i,le2 (f i) (f' i))->∀ i,le2 (put ns vs f i) (put ns vs' f' i)
 | [],_,_,_,_,_,hf,i=>by simpa [put] using hf i
 | _ :: _,[],[],_,_,_,hf,i=>by simpa [put] using hf i
 | _ :: _,[],_ :: _,_,_,h,_,_=>h.elim
 | _ :: _,_ :: _,[],_,_,h,_,_=>h.elim
 | n :: ns,v :: vs,v' :: vs',f,f',h,hf,i=>by
  rw [put,put];refine qtg ns h.2 (fun j=>?_) i;by_cases hj : j = n
  ·subst hj; rw [qa7,qa7]; exact h.1
  ·rw [qav _ _ hj,qav _ _ hj]; exact hf j
def Pt.le (p q : Pt) : Prop:=leL p.i q.i/\leL p.s q.s
theorem q7p (c : Ci) {p q : Pt} (h : p.le q) (i : Nat) : le2 (ini c p i) (ini c q i):=qtg _ h.2 (qtg _ h.1 fun _=>.inl rfl) i
def LeW (W W' : Nat->Nat->Nat) : Prop:=∀ n u v,le2 u v->le2 (W n u) (W' n v)
def LeQ (Q Q' : Nat->Nat->Nat->Nat) : Prop:=∀ n k u v,le2 u v->le2 (Q n k u) (Q' n k v)
theorem q7w (c : Ci) {Q Q' : Nat->Nat->Nat->Nat} (hQ : LeQ Q Q') (n : Nat) {f f' : Nat->Nat} (hf : ∀ i,le2 (f i) (f' i)) : leL (qf2 c Q n f) (qf2 c Q' n f'):=by
 refine qm2 (by simp [qf2]) fun i h1 h2=>?_;simp only [qf2,List.getElem_mapIdx];exact hQ _ _ _ _ (hf _)
theorem jb6 (c : Ci) {W W' : Nat->Nat->Nat} {Q Q' : Nat->Nat->Nat->Nat} (hW : LeW W W') (hQ : LeQ Q Q') (n : Nat) {f f' : Nat->Nat} (hf : ∀ i,le2 (f i) (f' i)) : le2 (evM c W Q n f) (evM c W' Q' n f'):=by
 unfold evM;refine hW _ _ _ ?_;split
 ·exact q82 _ (q7w c hQ n hf)
 ·exact hf n
theorem qxo (c : Ci) {W W' : Nat->Nat->Nat} {Q Q' : Nat->Nat->Nat->Nat} (hW : LeW W W') (hQ : LeQ Q Q') : ∀ (L : List Nat) {f f' : Nat->Nat},(∀ i,le2 (f i) (f' i))->∀ i,le2 (evl (evM c W Q) (fun _=>true) L f i) (evl (evM c W' Q') (fun _=>true) L f' i)
 | [],_,_,hf,i=>hf i
 | m :: L,f,f',hf,i=>by
  simp only [evl,if_true];refine qxo c hW hQ L (fun j=>?_) i;by_cases hj : j = m
  ·subst hj; rw [qa7,qa7]; exact jb6 c hW hQ j hf
  ·rw [qav _ _ hj,qav _ _ hj]; exact hf j
theorem qyb (c : Ci) {W W' : Nat->Nat->Nat} {Q Q' : Nat->Nat->Nat->Nat} (hW : LeW W W') (hQ : LeQ Q Q') {p q : Pt} (h : p.le q) (i : Nat) : le2 (qje c W Q p i) (qje c W' Q' q i):=qxo c hW hQ _ (q7p c h) i
theorem jc4 : LeW idW idW:=fun _ _ _ h=>h
theorem jb8 : LeQ idQ idQ:=fun _ _ _ _ h=>h
theorem qtv (c : Ci) {p q : Pt} (h : p.le q) (i : Nat) : le2 (qbn c p i) (qbn c q i):=by
 rw [qpp,qpp]; exact qyb c jc4 jb8 h i
theorem jbi (f : Ft) {G G' : Nat->Nat} (h : ∀ u v,le2 u v->le2 (G u) (G' v)) : LeW (atW f G) (atW f G'):=fun n u v hu=>by
 unfold atW;split
 ·exact h _ _ hu
 ·exact hu
theorem jbp (f : Ft) {G G' : Nat->Nat} (h : ∀ u v,le2 u v->le2 (G u) (G' v)) : LeQ (atQ f G) (atQ f G'):=fun n k u v hu=>by
 unfold atQ;split
 ·exact h _ _ hu
 ·exact hu
theorem qu8 {a b : List Nat} : 0 < (cons a b).length↔∃ i,i < min a.length b.length/\q1n a b i = true:=by
 unfold cons qtj;rw [List.length_pos_iff_exists_mem];constructor
 ·rintro ⟨i,hi⟩;rw [List.mem_filter,List.mem_range] at hi;exact ⟨i,hi⟩
 ·rintro ⟨i,hi⟩;exact ⟨i,by rw [List.mem_filter,List.mem_range]; exact hi⟩
noncomputable def jfx (c : Ci) (W : Nat->Nat->Nat) (Q : Nat->Nat->Nat->Nat) (p : Pt) : Bool:=qmn (qne c (qbn c p)) (qmu c (qbn c p)) (qgm c (qje c W Q p)) (qgo c Q (qje c W Q p))
end Go.Proofs.YtpaopccohkldlaaGreatDoor
