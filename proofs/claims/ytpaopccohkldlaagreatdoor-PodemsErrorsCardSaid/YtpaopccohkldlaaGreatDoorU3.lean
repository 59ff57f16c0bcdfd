/- Lemmas. Conditions: none. -/
import Derived.Test.YtpaopccohkldlaaGreatDoorT12
set_option linter.all false
namespace Go.Proofs.YtpaopccohkldlaaGreatDoor
section
open Go
def dep (c:Ci):Nat->Nat->Nat->Bool
 | 0,a,b=>decide (a = b)
 | k + 1,a,b=>decide (a = b) || (c.g a).any fun x=>dep c k x b
theorem q8n {c:Ci} (hg:c.good) {n:Nat} (hn:n < c.n.length):0≤(c.nd n).k/\(c.nd n).k≤14/\qgh (c.nd n).k (c.nd n).i.length = true:=by
 have hm:=jpc hn;have h1:=qhf ((qge hg.sh).2.2.1 _ hm);have h2:=hg.wf.k _ hm;have h3:=hg.k _ hm;rw [c.nd_get hn];refine ⟨h2.1,?_,h1.2.1⟩;have:=h1.1;omega
theorem jiv {c:Ci} (hg:c.good) {n:Nat} (hn:n < c.n.length) (hk:(c.nd n).k = 0):(c.nd n).i = []:=by
 have hw:=(q8n hg hn).2.2;rw [hk] at hw;have e1:kHi 0 = 0:=rfl;simp only [qgh,e1,Bool.and_eq_true,decide_eq_true_eq] at hw;exact List.length_eq_zero_iff.1 (by omega)
theorem g_nd {c:Ci} (hg:c.good) {n:Nat} (hn:n < c.n.length) (hk:(c.nd n).k ≠ 14):c.g n = (c.nd n).i.map Int.toNat:=by
 obtain ⟨h0,h1,-⟩:=q8n hg hn;unfold Ci.g;by_cases h:(c.nd n).k = 0
 ·rw [jiv hg hn h]; simp
 ·rw [if_pos (by simp only [qfg,decide_eq_true_eq]; omega)]
theorem g_14 {c:Ci} {n:Nat} (hk:(c.nd n).k = 14):c.g n = []:=by
 unfold Ci.g;rw [if_neg (by simp [qfg,hk])]
structure Ft.okB (c:Ci) (f:Ft):Prop where
 m:f.m = 2∨f.m = 3
 n:f.n < c.n.length
 o:f.o < c.n.length
 q:f.q = 0
 ne:f.n ≠ f.o
 lt:f.m = 2->f.n≤f.o
 v:f.v≤1
 v3:f.m = 3->f.v = 0
 k1:(c.nd f.n).k ≠ 12
 k2:(c.nd f.o).k ≠ 12
 d1:dep c (c.n.length + 1) f.n f.o = false
 d2:dep c (c.n.length + 1) f.o f.n = false
end
section
open Go
def le2 (u v:Nat):Prop:=u = v∨u = 2
def leL:List Nat->List Nat->Prop
 | [],[]=>True
 | a :: l,b :: r=>le2 a b/\leL l r
 | _,_=>False
theorem qla:∀ {l r:List Nat},leL l r->l.length = r.length
 | [],[],_=>rfl
 | [],_ :: _,h=>h.elim
 | _ :: _,[],h=>h.elim
 | _ :: l,_ :: r,h=>by simp [qla h.2]
theorem qix:∀ {l r:List Nat},leL l r->∀ i,le2 (l.getD i 0) (r.getD i 0)
 | [],[],_,_=>.inl rfl
 | [],_ :: _,h,_=>h.elim
 | _ :: _,[],h,_=>h.elim
 | _ :: _,_ :: _,h,0=>h.1
 | _ :: l,_ :: r,h,i + 1=>by simpa using qix h.2 i
theorem qm9:∀ {l r:List Nat},l.length = r.length->(∀ i (h:i < l.length) (h':i < r.length),le2 l[i] r[i])->leL l r
 | [],[],_,_=>trivial
 | [],_ :: _,h,_=>by simp at h
 | _ :: _,[],h,_=>by simp at h
 | a :: l,b :: r,h,hi=>⟨hi 0 (by simp) (by simp),qm9 (by simpa using h) fun i h1 h2=>hi (i + 1) (Nat.succ_lt_succ h1) (Nat.succ_lt_succ h2)⟩
theorem jc1 {u v:Nat} (h:le2 u v):le2 (rdN u) (rdN v):=by
 rcases h with rfl | rfl
 ·exact .inl rfl
 ·exact .inr rfl
theorem qoj {u v:Nat} (h:le2 u v):le2 (qjx u) (qjx v):=by
 rcases h with rfl | rfl
 ·exact .inl rfl
 ·exact .inr rfl
theorem qsg (lo hi:Nat):∀ l:List Nat,dec lo hi 2 l = lo∨dec lo hi 2 l = 2
 | []=>.inr rfl
 | v :: l=>by
  rw [dec];split
  ·exact .inl rfl
  split
  ·exact qsg lo hi l
  ·exact qsg lo hi l
theorem qf9 {lo hi:Nat} (h1:lo ≠ 2) (h2:hi ≠ 2):∀ {l r:List Nat} {o o':Nat},leL l r->le2 o o'->le2 (dec lo hi o l) (dec lo hi o' r)
 | [],[],_,_,_,h=>h
 | [],_ :: _,_,_,h,_=>h.elim
 | _ :: _,[],_,_,h,_=>h.elim
 | u :: l,v :: r,o,o',h,ho=>by
  rw [dec,dec];rcases h.1 with rfl | rfl
  ·split
   ·exact .inl rfl
   split
   ·exact qf9 h1 h2 h.2 ho
   ·exact qf9 h1 h2 h.2 (.inl rfl)
  ·rw [if_neg (fun e=>h1 e.symm),if_neg (fun e=>h2 e.symm)];split
   ·exact qsg lo hi l
   split
   ·exact qf9 h1 h2 h.2 (.inr rfl)
   ·exact qf9 h1 h2 h.2 (.inl rfl)
theorem qok:∀ {l r:List Nat} (o:Nat),leL l r->le2 (qew o l) (qew o r)
 | [],[],_,_=>.inl rfl
 | [],_ :: _,_,h=>h.elim
 | _ :: _,[],_,h=>h.elim
 | u :: l,v :: r,o,h=>by
  rw [qew,qew];rcases h.1 with rfl | rfl
  ·split
   ·exact qok o h.2
   split
   ·exact qok _ h.2
   ·exact .inl rfl
  ·rw [if_neg (by omega),if_neg (by omega)]; exact .inr rfl
theorem q78 {s a b s' a' b':Nat} (h1:le2 s s') (h2:le2 a a') (h3:le2 b b'):le2 (qwy s a b) (qwy s' a' b'):=by
 unfold qwy rdN le2 at *;split <;> (try split) <;> (try split) <;> (try split) <;> (try split) <;> (try split) <;> omega
theorem q8a {e a e' a':Nat} (h1:le2 e e') (h2:le2 a a'):le2 (q1q e a) (q1q e' a'):=by
 unfold q1q rdN le2 at *;split <;> (try split) <;> (try split) <;> (try split) <;> omega
theorem q5x:∀ {l r:List Nat},leL l r->2 ∉ l->l = r
 | [],[],_,_=>rfl
 | [],_ :: _,h,_=>h.elim
 | _ :: _,[],h,_=>h.elim
 | u :: l,v :: r,h,hn=>by
  simp only [List.mem_cons,not_or] at hn;rcases h.1 with rfl | e
  ·rw [q5x h.2 hn.2]
  ·exact absurd e.symm hn.1
theorem q75 {l r:List Nat} (h:leL l r):le2 (q14 l) (q14 r):=by
 by_cases h2:2 ∈ l
 ·right;unfold q14;split
  ·rename_i hf;rw [List.find?_eq_none] at hf;have:=hf 2 h2;simp at this
  ·rw [if_pos (.inr ⟨2,h2,rfl⟩)]
 ·rw [q5x h h2]; exact .inl rfl
theorem q3c (k:Nat) {l r:List Nat} (h:leL l r):le2 (qd2 k l) (qd2 k r):=by
 have g0:=qix h 0;have g1:=qix h 1;have g2:=qix h 2;unfold qd2;by_cases e1:k = 1
 ·rw [if_pos e1,if_pos e1]; exact .inl rfl
 rw [if_neg e1,if_neg e1];by_cases e2:k = 2
 ·rw [if_pos e2,if_pos e2]; exact .inl rfl
 rw [if_neg e2,if_neg e2];by_cases e3:k = 3
 ·rw [if_pos e3,if_pos e3]; exact jc1 g0
 rw [if_neg e3,if_neg e3];by_cases e4:k = 4
 ·rw [if_pos e4,if_pos e4]; exact qoj g0
 rw [if_neg e4,if_neg e4];by_cases e5:k = 5
 ·rw [if_pos e5,if_pos e5]; exact qf9 (by omega) (by omega) h (.inl rfl)
 rw [if_neg e5,if_neg e5];by_cases e6:k = 6
 ·rw [if_pos e6,if_pos e6]; exact qoj (qf9 (by omega) (by omega) h (.inl rfl))
 rw [if_neg e6,if_neg e6];by_cases e7:k = 7
 ·rw [if_pos e7,if_pos e7]; exact qf9 (by omega) (by omega) h (.inl rfl)
 rw [if_neg e7,if_neg e7];by_cases e8:k = 8
 ·rw [if_pos e8,if_pos e8]; exact qoj (qf9 (by omega) (by omega) h (.inl rfl))
 rw [if_neg e8,if_neg e8];by_cases e9:k = 9
 ·rw [if_pos e9,if_pos e9]; exact qok 0 h
 rw [if_neg e9,if_neg e9];by_cases e10:k = 10
 ·rw [if_pos e10,if_pos e10]; exact qoj (qok 0 h)
 rw [if_neg e10,if_neg e10];by_cases e11:k = 11
 ·rw [if_pos e11,if_pos e11]; exact q78 g0 g1 g2
 rw [if_neg e11,if_neg e11];by_cases e12:k = 12
 ·rw [if_pos e12,if_pos e12]; exact q8a g0 g1
 rw [if_neg e12,if_neg e12];by_cases e13:k = 13
 ·rw [if_pos e13,if_pos e13]; exact q75 h
 rw [if_neg e13,if_neg e13]; exact .inl rfl
theorem q77 (k:Nat) {l r:List Nat} (h:leL l r):le2 (qg5 k l) (qg5 k r):=by
 unfold qg5;rw [qla h];split
 ·exact .inl rfl
 ·exact q3c k h
theorem qsp:∀ (ns:List Nat) {vs vs':List Nat} {f f':Nat->Nat},leL vs vs'->(∀ i,le2 (f i) (f' i))->∀ i,le2 (put ns vs f i) (put ns vs' f' i)
 | [],_,_,_,_,_,hf,i=>by simpa [put] using hf i
 | _ :: _,[],[],_,_,_,hf,i=>by simpa [put] using hf i
 | _ :: _,[],_ :: _,_,_,h,_,_=>h.elim
 | _ :: _,_ :: _,[],_,_,h,_,_=>h.elim
 | n :: ns,v :: vs,v' :: vs',f,f',h,hf,i=>by
  rw [put,put];refine qsp ns h.2 (fun j=>?_) i;by_cases hj:j = n
  ·subst hj; rw [qa1,qa1]; exact h.1
  ·rw [qao _ _ hj,qao _ _ hj]; exact hf j
def Pt.le (p q:Pt):Prop:=leL p.i q.i/\leL p.s q.s
theorem q76 (c:Ci) {p q:Pt} (h:p.le q) (i:Nat):le2 (ini c p i) (ini c q i):=qsp _ h.2 (qsp _ h.1 fun _=>.inl rfl) i
def LeW (W W':Nat->Nat->Nat):Prop:=∀ n u v,le2 u v->le2 (W n u) (W' n v)
def LeQ (Q Q':Nat->Nat->Nat->Nat):Prop:=∀ n k u v,le2 u v->le2 (Q n k u) (Q' n k v)
theorem q79 (c:Ci) {Q Q':Nat->Nat->Nat->Nat} (hQ:LeQ Q Q') (n:Nat) {f f':Nat->Nat} (hf:∀ i,le2 (f i) (f' i)):leL (qgd c Q n f) (qgd c Q' n f'):=by
 refine qm9 (by simp [qgd]) fun i h1 h2=>?_;simp only [qgd,List.getElem_mapIdx];exact hQ _ _ _ _ (hf _)
theorem jc0 (c:Ci) {W W':Nat->Nat->Nat} {Q Q':Nat->Nat->Nat->Nat} (hW:LeW W W') (hQ:LeQ Q Q') (n:Nat) {f f':Nat->Nat} (hf:∀ i,le2 (f i) (f' i)):le2 (evM c W Q n f) (evM c W' Q' n f'):=by
 unfold evM;refine hW _ _ _ ?_;split
 ·exact q77 _ (q79 c hQ n hf)
 ·exact hf n
theorem qy2 (c:Ci) {W W':Nat->Nat->Nat} {Q Q':Nat->Nat->Nat->Nat} (hW:LeW W W') (hQ:LeQ Q Q'):∀ (L:List Nat) {f f':Nat->Nat},(∀ i,le2 (f i) (f' i))->∀ i,le2 (evl (evM c W Q) (fun _=>true) L f i) (evl (evM c W' Q') (fun _=>true) L f' i)
 | [],_,_,hf,i=>hf i
 | m :: L,f,f',hf,i=>by
  simp only [evl,if_true];refine qy2 c hW hQ L (fun j=>?_) i;by_cases hj:j = m
  ·subst hj; rw [qa1,qa1]; exact jc0 c hW hQ j hf
  ·rw [qao _ _ hj,qao _ _ hj]; exact hf j
theorem qy3 (c:Ci) {W W':Nat->Nat->Nat} {Q Q':Nat->Nat->Nat->Nat} (hW:LeW W W') (hQ:LeQ Q Q') {p q:Pt} (h:p.le q) (i:Nat):le2 (qjo c W Q p i) (qjo c W' Q' q i):=qy2 c hW hQ _ (q76 c h) i
theorem jc5:LeW idW idW:=fun _ _ _ h=>h
theorem jc3:LeQ idQ idQ:=fun _ _ _ _ h=>h
theorem quh (c:Ci) {p q:Pt} (h:p.le q) (i:Nat):le2 (qbm c p i) (qbm c q i):=by
 rw [qq3,qq3]; exact qy3 c jc5 jc3 h i
theorem jc4 (f:Ft) {G G':Nat->Nat} (h:∀ u v,le2 u v->le2 (G u) (G' v)):LeW (atW f G) (atW f G'):=fun n u v hu=>by
 unfold atW;split
 ·exact h _ _ hu
 ·exact hu
theorem jc2 (f:Ft) {G G':Nat->Nat} (h:∀ u v,le2 u v->le2 (G u) (G' v)):LeQ (atQ f G) (atQ f G'):=fun n k u v hu=>by
 unfold atQ;split
 ·exact h _ _ hu
 ·exact hu
theorem qt2 {a b:List Nat}:0 < (cons a b).length↔∃ i,i < min a.length b.length/\q1n a b i = true:=by
 unfold cons qse;rw [List.length_pos_iff_exists_mem];constructor
 ·rintro ⟨i,hi⟩;rw [List.mem_filter,List.mem_range] at hi;exact ⟨i,hi⟩
 ·rintro ⟨i,hi⟩;exact ⟨i,by rw [List.mem_filter,List.mem_range]; exact hi⟩
noncomputable def jgz (c:Ci) (W:Nat->Nat->Nat) (Q:Nat->Nat->Nat->Nat) (p:Pt):Bool:=qmp (qnf c (qbm c p)) (qng c (qbm c p)) (qgt c (qjo c W Q p)) (qgu c Q (qjo c W Q p))
end
section
open Go
inductive Rch (g:Nat->List Nat):Nat->Nat->Prop
 | rfl (a:Nat):Rch g a a
 | head {a x b:Nat} (hx:x ∈ g a) (h:Rch g x b):Rch g a b
theorem Rch.tail {g:Nat->List Nat} {a x b:Nat} (h:Rch g a x) (hb:b ∈ g x):Rch g a b:=by
 induction h with
 | rfl a=>exact .head hb (.rfl _)
 | head hx _ ih=>exact .head hx (ih hb)
theorem Rch.closed {g:Nat->List Nat} {S:Nat->Prop} (hS:∀ x,S x->∀ y ∈ g x,S y) {a b:Nat} (h:Rch g a b):S a->S b:=by
 induction h with
 | rfl a=>exact id
 | head hx _ ih=>exact fun ha=>ih (hS _ ha _ hx)
theorem qnn {c:Ci}:∀ (k:Nat) {a b:Nat},dep c k a b = true->Rch c.g a b
 | 0,a,b,h=>by simp only [dep,decide_eq_true_eq] at h; subst h; exact .rfl _
 | k + 1,a,b,h=>by
  simp only [dep,Bool.or_eq_true,decide_eq_true_eq,List.any_eq_true] at h;rcases h with rfl | ⟨x,hx,h⟩
  ·exact .rfl _
  ·exact .head hx (qnn k h)
theorem qvw {c:Ci} (hg:c.good) {a b:Nat} (h:Rch c.g a b):∀ k,qih c a < k->a < c.n.length->dep c k a b = true:=by
 have hlv:qij c.n.length c.g (qih c):=hg.ac.lv
 induction h with
 | rfl a=>intro k _ _; cases k <;> simp [dep]
 | @head a x b hx _ ih=>
  intro k hk ha;obtain ⟨k,rfl⟩:∃ j,k = j + 1:=⟨k - 1,by omega⟩;have h1:=hlv a ha;have h2:=qqt (f:=qih c) hx;rw [dep,Bool.or_eq_true,List.any_eq_true];exact .inr ⟨x,hx,ih k (by omega) (hg.val.g a ha x hx)⟩
theorem q7i {c:Ci} (hg:c.good) {a b:Nat} (ha:a < c.n.length):dep c (c.n.length + 1) a b = true↔Rch c.g a b:=by
 have hlv:qij c.n.length c.g (qih c):=hg.ac.lv;have:=hlv.lt hg.val.g a ha;exact ⟨qnn _,fun h=>qvw hg h _ (by omega) ha⟩
def unm (S:Nat->Bool) (n:Nat):Nat:=qef (fun i=>if S i = true then 0 else 1) n
theorem qtg (S:Nat->Bool) {x:Nat} (hx:S x = false):∀ n,unm (qcw S x true) n + (if x < n then 1 else 0) = unm S n
 | 0=>by simp [unm,qef]
 | n + 1=>by
  have ih:=qtg S hx n;unfold unm at ih ⊢;simp only [qef];by_cases h:n = x
  ·subst h;rw [qa1,hx];simp only [Nat.lt_irrefl,if_false,if_true,Nat.lt_succ_self,Bool.false_eq_true] at ih ⊢;omega
  ·rw [qao _ _ h];by_cases h2:x < n
   ·simp only [if_pos h2,if_pos (show x < n + 1 by omega)] at ih ⊢; omega
   ·simp only [if_neg h2,if_neg (show ¬ x < n + 1 by omega)] at ih ⊢; omega
def qdz (n:Nat) (S:Nat->Bool):List V:=tab n fun i=>.bool (S i)
@[simp] theorem q13 (n:Nat) (S:Nat->Bool):(qdz n S).length = n:=by simp [qdz]
theorem qb6 (n:Nat) (S:Nat->Bool) (i:Nat) (h:i < (qdz n S).length):(qdz n S)[i] = .bool (S i):=by simp only [qdz]; rw [qbx]
theorem qmt (n:Nat) (S:Nat->Bool) (i:Nat) (b:Bool):(qdz n S).set i (.bool b) = qdz n (qcw S i b):=by
 unfold qdz;rw [qeu];congr 1;funext j;by_cases h:j = i
 ·subst h; simp
 ·rw [qao _ _ h,qao _ _ h]
theorem qvq (n:Nat):List.replicate n (V.bool false) = qdz n fun _=>false:=by
 refine List.ext_getElem (by simp) fun i h1 h2=>?_;rw [qb6,List.getElem_replicate]
theorem qsb (n:Nat) (S:Nat->Bool):jm8 (qdz n S) = true:=by
 rw [jnf];intro v hv;unfold qdz tab at hv;obtain ⟨j,-,rfl⟩:=List.mem_map.1 hv;rfl
structure qf2 (c:Ci) (a:Nat) (S:Nat->Bool) (td:List Nat) (n:Option Nat) (jn:List Nat):Prop where
 m:S a = true
 r:∀ x,S x = true->x < c.n.length/\Rch c.g a x
 t:∀ x ∈ td,S x = true
 s:∀ x,n = some x->S x = true
 c:∀ x,S x = true->x ∉ td->n ≠ some x->∀ y ∈ c.g x,S y = true
 j:∀ y ∈ jn,S y = true
theorem qf2.pop {c:Ci} {a:Nat} {S:Nat->Bool} {td:List Nat} {n:Nat} (h:qf2 c a S (td ++ [n]) none []):qf2 c a S td (some n) [] where
 m:=h.m
 r:=h.r
 t:=fun x hx=>h.t x (List.mem_append.2 (.inl hx))
 s:=fun x hx=>by cases hx; exact h.t _ (by simp)
 c:=fun x hx h1 h2=>h.c x hx (fun h3=>by
  rcases List.mem_append.1 h3 with h3 | h3
  ·exact h1 h3
  ·exact h2 (by rw [List.mem_singleton.1 h3])) (by simp)
 j:=by simp
theorem qf2.skip {c:Ci} {a:Nat} {S:Nat->Bool} {td jn:List Nat} {n:Option Nat} {m:Nat} (h:qf2 c a S td n jn) (hm:S m = true):qf2 c a S td n (jn ++ [m]) where
 m:=h.m
 r:=h.r
 t:=h.t
 s:=h.s
 c:=h.c
 j:=fun y hy=>by
  rcases List.mem_append.1 hy with hy | hy
  ·exact h.j y hy
  ·rw [List.mem_singleton.1 hy]; exact hm
theorem qie {S:Nat->Bool} {m x:Nat} (h:S x = true):qcw S m true x = true:=by
 by_cases e:x = m
 ·rw [e,qa1]
 ·rw [qao _ _ e]; exact h
theorem qf2.push {c:Ci} (hg:c.good) {a:Nat} {S:Nat->Bool} {td jn:List Nat} {n m:Nat} (h:qf2 c a S td (some n) jn) (hm:m ∈ c.g n):qf2 c a (qcw S m true) (td ++ [m]) (some n) (jn ++ [m]) where
 m:=qie h.m
 r:=fun x hx=>by
  by_cases e:x = m
  ·rw [e];obtain ⟨h1,h2⟩:=h.r n (h.s n rfl);exact ⟨hg.val.g n h1 m hm,h2.tail hm⟩
  ·rw [qao _ _ e] at hx; exact h.r x hx
 t:=fun x hx=>by
  rcases List.mem_append.1 hx with hx | hx
  ·exact qie (h.t x hx)
  ·rw [List.mem_singleton.1 hx,qa1]
 s:=fun x hx=>qie (h.s x hx)
 c:=fun x hx h1 h2 y hy=>by
  simp only [List.mem_append,List.mem_singleton,not_or] at h1;rw [qao _ _ h1.2] at hx;exact qie (h.c x hx h1.1 h2 y hy)
 j:=fun y hy=>by
  rcases List.mem_append.1 hy with hy | hy
  ·exact qie (h.j y hy)
  ·rw [List.mem_singleton.1 hy,qa1]
theorem qf2.next {c:Ci} {a:Nat} {S:Nat->Bool} {td jn:List Nat} {n:Nat} (h:qf2 c a S td (some n) jn) (hj:∀ y ∈ c.g n,y ∈ jn):qf2 c a S td none [] where
 m:=h.m
 r:=h.r
 t:=h.t
 s:=fun x hx=>by cases hx
 c:=fun x hx h1 _ y hy=>by
  by_cases e:x = n
  ·rw [e] at hy; exact h.j y (hj y hy)
  ·exact h.c x hx h1 (fun h=>e (by cases h; rfl)) y hy
 j:=by simp
theorem qf2.all {c:Ci} (hg:c.good) {a:Nat} (ha:a < c.n.length) {S:Nat->Bool} (h:qf2 c a S [] none []):qdz c.n.length S = qdz c.n.length (dep c (c.n.length + 1) a):=by
 have:S = dep c (c.n.length + 1) a:=by
  funext x
  have hd:dep c (c.n.length + 1) a x = true↔S x = true:=by
   rw [q7i hg ha];exact ⟨fun q=>q.closed (S:=fun z=>S z = true) (fun z hz y hy=>h.c z hz (by simp) (by simp) y hy) h.m,fun q=>(h.r x q).2⟩
  cases hs:S x <;> cases hd2:dep c (c.n.length + 1) a x <;> simp_all
 rw [this]
theorem q2e (c:Ci) (a:Nat) (ha:a < c.n.length):qf2 c a (qcw (fun _=>false) a true) [a] none [] where
 m:=by simp
 r:=fun x hx=>by
  by_cases e:x = a
  ·rw [e]; exact ⟨ha,.rfl _⟩
  ·rw [qao _ _ e] at hx; cases hx
 t:=fun x hx=>by rw [List.mem_singleton.1 hx]; simp
 s:=fun x hx=>by cases hx
 c:=fun x hx h1 _=>by
  by_cases e:x = a
  ·exact absurd (by simp [e]) h1
  ·rw [qao _ _ e] at hx; cases hx
 j:=by simp
structure CoSt where
 S:Nat->Bool
 es:List Nat
 l:Nat
 g:Nat
 cap:Option Nat
structure jhg extends CoSt where
 k:Nat
set_option maxHeartbeats 4000000 in
theorem q5l (c:Ci) (hg:c.good) (a:Nat) (ha:a < c.n.length):qac Tryz.prog gl0 132 [c.v,qaa a] (.sl (qdz c.n.length (dep c (c.n.length + 1) a)) (some c.n.length)):=by
 have hn1:=hg.n1;have hu0:=qtg (fun _=>false) (x:=a) rfl c.n.length;have hu1:unm (fun _=>false) c.n.length = c.n.length:=by unfold unm; simp [qc3]
 rw [hu1,if_pos ha] at hu0;refine jo3 1 jjm rfl ?_;simp [i132,x132,qaa,qvq];intro gf1 gf2;simp [ha,qmt,qb6,show c.n.length≤549755813888 by omega];intro gf3;generalize gf1 2 = g2;generalize gf2 13 = g13
 refine jo2 (X:=CoSt) (fun z=>[(6,.ref 18 z.g 0 z.l z.cap),(5,.ref 13 g13 0 c.n.length (some c.n.length)),(2,.ptr 2 g2 0 0)])
  (fun z=>[(18,.row z.g 1 (qad z.es)),(13,.row g13 1 (qdz c.n.length z.S)),(2,.row g2 4 [c.v])])
  (fun z=>z.l≤z.es.length/\2 * unm z.S c.n.length + z.l≤2 * c.n.length/\qf2 c a z.S (z.es.take z.l) none []) (fun z=>2 * unm z.S c.n.length + z.l)
  ⟨qcw (fun _=>false) a true,[a],1,gf3 18,some 1⟩ ⟨by simp,by simp; omega,by simpa using q2e c a ha⟩ (by simp) (by simp [qad,qaa]) ?_
 rintro ⟨S,es,len,g18,cap⟩ ⟨q1,q2,q3⟩;dsimp only at q1 q2 q3 ⊢;simp;refine jo0 (fun hb=>?_) (fun hb=>?_)
 ·have hl:0 < len:=jo7 hb;obtain ⟨l,rfl⟩:∃ l,len = l + 1:=⟨len - 1,by omega⟩;have hsub:IntKind.i64.wrap (((l + 1:Nat):Int) - 1) = (l:Int):=qpg (b:=1) (by omega) (by omega);have hle:l < es.length:=by omega
  obtain ⟨n,hn⟩:∃ n,es[l] = n:=⟨_,rfl⟩;have htk:es.take (l + 1) = es.take l ++ [n]:=by rw [List.take_succ_eq_append_getElem hle,hn]
  rw [htk] at q3;have hp:=q3.pop;have hnN:=(hp.r n (hp.s n rfl)).1;obtain ⟨y,hy⟩:∃ y,c.n[n] = y:=⟨_,rfl⟩;have hnd:c.nd n = y:=by rw [c.nd_get hnN,hy]
  have hyi:=hg.val.i n hnN;have hyl:=hg.val.l n hnN;rw [hnd] at hyi hyl;obtain ⟨L,hL⟩:∃ L,l + 1 = L:=⟨_,rfl⟩;rw [hL] at hsub q1 q2 ⊢;simp [hsub,hle,qad,hn,qaa,show l < L by omega,show l≤L by omega,hnN,hy];by_cases h14:y.k = 14
  ·simp [h14];exact ⟨⟨S,es,l,g18,cap⟩,⟨by dsimp only; omega,by dsimp only; omega,hp.next (jn:=[]) (by rw [g_14 (by rw [hnd]; exact h14)]; simp)⟩,by simp,by simp,by dsimp only; omega⟩
  have hgn:c.g n = y.i.map Int.toNat:=by rw [g_nd hg hnN (by rw [hnd]; exact h14),hnd]
  simp [h14,hnN,hy]
  refine jo2 (X:=jhg) (fun z=>[(47,qaa z.k),(46,qaa y.i.length),(45,.sl (qc8 y.i) none),(6,.ref 18 z.g 0 z.l z.cap),(5,.ref 13 g13 0 c.n.length (some c.n.length)),(2,.ptr 2 g2 0 0)])
   (fun z=>[(18,.row z.g 1 (qad z.es)),(13,.row g13 1 (qdz c.n.length z.S)),(2,.row g2 4 [c.v])])
   (fun z=>z.l≤z.es.length/\2 * unm z.S c.n.length + z.l < 2 * unm S c.n.length + L/\z.k≤y.i.length/\qf2 c a z.S (z.es.take z.l) (some n) ((y.i.map Int.toNat).take z.k)) (fun z=>y.i.length - z.k)
   ⟨⟨S,es,l,g18,cap⟩,0⟩ ⟨by dsimp only; omega,by dsimp only; omega,by simp,by simpa using hp⟩ (by simp [qaa]) (by simp [qad,qaa]) ?_
  rintro ⟨⟨S1,es1,l1,g1,cap1⟩,k⟩ ⟨p1,p2,p3,p4⟩;dsimp only at p1 p2 p3 p4 ⊢;simp [qaa];refine jo0 (fun hb2=>?_) (fun hb2=>?_)
  ·have hk:k < y.i.length:=jo7 hb2;have hw:=qa5 k (by omega);have h2:=hyi _ (jpc hk);obtain ⟨m,hm⟩:∃ m:Nat,y.i[k] = (m:Int):=⟨(y.i[k]).toNat,by omega⟩;have hmN:m < c.n.length:=by omega
   have hmg:m ∈ c.g n:=by
    rw [hgn];have:=List.mem_map_of_mem (f:=Int.toNat) (jpc hk);rw [hm] at this; exact this
   have hjn:(y.i.map Int.toNat).take (k + 1) = (y.i.map Int.toNat).take k ++ [m]:=by
    rw [List.take_succ_eq_append_getElem (by simpa using hk),List.getElem_map,hm]; rfl
   have hes:(qad es1).take l1 ++ [V.int .i64 (m:Int)] = qad (es1.take l1 ++ [m]):=by simp [qad,qaa]
   have htk1:(es1.take l1 ++ [m]).take (l1 + 1) = es1.take l1 ++ [m]:=jpb (by simp; omega);simp [hk,hm,qaz,hmN,qb6];cases hs:S1 m
   ·have hu:=qtg S1 hs c.n.length;rw [if_pos hmN] at hu;have hpu:=p4.push hg hmg;simp [p1,qb6,qmt,hmN,show l1≤274877906943 by omega];intro gf;exact ⟨⟨⟨qcw S1 m true,es1.take l1 ++ [m],l1 + 1,gf 18,none⟩,k + 1⟩,⟨by simp [p1],by dsimp only; omega,hk,by dsimp only; rw [hjn,htk1]; exact hpu⟩,by simp [hw],by simp [hes],by dsimp only; omega⟩
   ·simp [hw];exact ⟨⟨⟨S1,es1,l1,g1,cap1⟩,k + 1⟩,⟨p1,p2,hk,by dsimp only; rw [hjn]; exact p4.skip hs⟩,by simp,by simp [qad],by dsimp only; omega⟩
  ·have hk:k = y.i.length:=by have:=jo8 hb2; omega
   subst hk;rw [show y.i.length = (y.i.map Int.toNat).length by simp,List.take_length,<- hgn] at p4;simp;exact ⟨⟨S1,es1,l1,g1,cap1⟩,⟨p1,by dsimp only; omega,p4.next fun y hy=>hy⟩,by simp,by simp [qad],by dsimp only; omega⟩
 ·have hl:len = 0:=by have:=jo8 hb; omega
  subst hl;have:=q3.all hg ha;simp [this,qcj (qsb _ _)];exact jpb (by simp)
end
end Go.Proofs.YtpaopccohkldlaaGreatDoor
