/- Lemmas. Conditions: none. -/
import Derived.Test.YtbbnmiaabmbheaaGreatDoorBase8
import Derived.Scope
import Derived.KernelRfl
import Derived.Test.YtbbnmiaabmbheaaGreatDoorBase6
set_option linter.all false
namespace Go.Proofs.YtbbnmiaabmbheaaGreatDoor
section
open Go
inductive T (α:Type) where
 | lf
 | nd (v:Option α) (l r:T α)
def T.get {α:Type}:T α->Nat->Option α
 | .lf,_=>none
 | .nd v l r,n=>bif Nat.beq n 0 then v else bif Nat.beq (n % 2) 1 then l.get (n / 2) else r.get (n / 2 - 1)
theorem qbs {a b:Nat} (h:¬ a = b):Nat.beq a b = false:=by
 cases hb:Nat.beq a b with
 | false=>rfl
 | true=>exact absurd (Nat.eq_of_beq_eq_true hb) h
theorem qbp {a b:Nat} (h:Nat.beq a b = true):a = b:=Nat.eq_of_beq_eq_true h
def T.set {α:Type}:Nat->T α->Nat->α->T α
 | 0,t,_,_=>t
 | f + 1,.lf,n,x=>bif Nat.beq n 0 then .nd (some x) .lf .lf else bif Nat.beq (n % 2) 1 then .nd none (T.set f .lf (n / 2) x) .lf else .nd none .lf (T.set f .lf (n / 2 - 1) x)
 | f + 1,.nd v l r,n,x=>bif Nat.beq n 0 then .nd (some x) l r else bif Nat.beq (n % 2) 1 then .nd v (T.set f l (n / 2) x) r else .nd v l (T.set f r (n / 2 - 1) x)
theorem jjj {α:Type}:∀ (f:Nat) (t:T α) (n:Nat) (x:α),n < 2 ^ f - 1->∀ m,(T.set f t n x).get m = if m = n then some x else t.get m
 | 0,t,n,x,h,m=>by simp at h
 | f + 1,t,n,x,h,m=>by
  have hp:2 ^ (f + 1) = 2 * 2 ^ f:=by rw [Nat.pow_succ]; omega
  have il:=fun (t:T α) (hn:n % 2 = 1)=>jjj f t (n / 2) x (by omega);have ir:=fun (t:T α) (hn:¬ n % 2 = 1) (h0:¬ n = 0)=>jjj f t (n / 2 - 1) x (by omega)
  cases t with
  | lf=>
   simp only [T.set,T.get];by_cases h0:n = 0
   ·subst h0;simp only [Nat.beq,cond_true,T.get];by_cases hm:m = 0
    ·subst hm; simp
    ·have:Nat.beq m 0 = false:=qbs hm;simp [this,hm]
   ·have e0:Nat.beq n 0 = false:=qbs h0;simp only [e0,cond_false];by_cases h1:n % 2 = 1
    ·have e1:Nat.beq (n % 2) 1 = true:=by simpa using h1
     simp only [e1,cond_true,T.get];by_cases hm:m = 0
     ·subst hm; simp [Ne.symm h0]
     ·have:Nat.beq m 0 = false:=qbs hm;simp only [this,cond_false];by_cases hm1:m % 2 = 1
      ·have:Nat.beq (m % 2) 1 = true:=by simpa using hm1
       simp only [this,cond_true,il _ h1,T.get];by_cases hmn:m = n
       ·subst hmn; simp
       ·rw [if_neg (by omega),if_neg hmn]
      ·have:Nat.beq (m % 2) 1 = false:=qbs hm1;simp only [this,cond_false];rw [if_neg (by rintro rfl; exact hm1 h1)]
    ·have e1:Nat.beq (n % 2) 1 = false:=qbs h1;simp only [e1,cond_false,T.get];by_cases hm:m = 0
     ·subst hm; simp [Ne.symm h0]
     ·have:Nat.beq m 0 = false:=qbs hm;simp only [this,cond_false];by_cases hm1:m % 2 = 1
      ·have:Nat.beq (m % 2) 1 = true:=by simpa using hm1
       simp only [this,cond_true];rw [if_neg (by rintro rfl; exact h1 hm1)]
      ·have:Nat.beq (m % 2) 1 = false:=qbs hm1;simp only [this,cond_false,ir _ h1 h0,T.get];by_cases hmn:m = n
       ·subst hmn; simp
       ·rw [if_neg (by omega),if_neg hmn]
  | nd v l r=>
   simp only [T.set,T.get];by_cases h0:n = 0
   ·subst h0;simp only [Nat.beq,cond_true,T.get];by_cases hm:m = 0
    ·subst hm; simp
    ·have:Nat.beq m 0 = false:=qbs hm;simp [this,hm]
   ·have e0:Nat.beq n 0 = false:=qbs h0;simp only [e0,cond_false];by_cases h1:n % 2 = 1
    ·have e1:Nat.beq (n % 2) 1 = true:=by simpa using h1
     simp only [e1,cond_true,T.get];by_cases hm:m = 0
     ·subst hm; simp [Ne.symm h0]
     ·have:Nat.beq m 0 = false:=qbs hm;simp only [this,cond_false];by_cases hm1:m % 2 = 1
      ·have:Nat.beq (m % 2) 1 = true:=by simpa using hm1
       simp only [this,cond_true,il _ h1];by_cases hmn:m = n
       ·subst hmn; simp
       ·rw [if_neg (by omega),if_neg hmn]
      ·have:Nat.beq (m % 2) 1 = false:=qbs hm1;simp only [this,cond_false];rw [if_neg (by rintro rfl; exact hm1 h1)]
    ·have e1:Nat.beq (n % 2) 1 = false:=qbs h1;simp only [e1,cond_false,T.get];by_cases hm:m = 0
     ·subst hm; simp [Ne.symm h0]
     ·have:Nat.beq m 0 = false:=qbs hm;simp only [this,cond_false];by_cases hm1:m % 2 = 1
      ·have:Nat.beq (m % 2) 1 = true:=by simpa using hm1
       simp only [this,cond_true];rw [if_neg (by rintro rfl; exact h1 hm1)]
      ·have:Nat.beq (m % 2) 1 = false:=qbs hm1;simp only [this,cond_false,ir _ h1 h0];by_cases hmn:m = n
       ·subst hmn; simp
       ·rw [if_neg (by omega),if_neg hmn]
def T.put {α:Type} (t:T α) (n:Nat) (x:α):Option (T α):=bif Nat.blt n 1073741823 then some (T.set 30 t n x) else none
theorem jiu {α:Type} {t t':T α} {n:Nat} {x:α} (h:t.put n x = some t'):t'.get = upd t.get n x:=by
 unfold T.put at h
 cases hb:Nat.blt n 1073741823 with
 | false=>rw [hb] at h; cases h
 | true=>
  rw [hb] at h; cases h;funext m;rw [jjj 30 t n x (by simpa [Nat.blt_eq] using hb)];rfl
def q9m:Option Nat->Option Nat->Bool
 | none,none=>true
 | some a,some b=>Nat.beq a b
 | _,_=>false
theorem qt7 {a b:Option Nat} (h:q9m a b = true):a = b:=by
 cases a <;> cases b <;> simp only [q9m,Bool.false_eq_true] at h
 ·rfl
 ·rw [qbp h]
mutual
def V.beq:V->V->Bool
 | .undef,.undef=>true
 | .int k n,.int k' n'=>decide (k = k') && decide (n = n')
 | .bool a,.bool b=>a == b
 | .str a,.str b=>decide (a = b)
 | .agg a,.agg b=>ji1 a b
 | .tup a,.tup b=>ji1 a b
 | .sl a c,.sl b d=>ji1 a b && q9m c d
 | .ref b g o l c,.ref b' g' o' l' c'=>Nat.beq b b' && Nat.beq g g' && Nat.beq o o' && Nat.beq l l' && q9m c c'
 | .ptr b g i o,.ptr b' g' i' o'=>Nat.beq b b' && Nat.beq g g' && Nat.beq i i' && Nat.beq o o'
 | .iptr x o,.iptr x' o'=>V.beq x x' && Nat.beq o o'
 | .fn f a b,.fn f' a' b'=>decide (f = f') && ji1 a a' && ji1 b b'
 | .nilfn,.nilfn=>true
 | .nilmap,.nilmap=>true
 | .err a,.err b=>a == b
 | .nil,.nil=>true
 | .own b g,.own b' g'=>Nat.beq b b' && Nat.beq g g'
 | _,_=>false
def ji1:List V->List V->Bool
 | [],[]=>true
 | a :: r,b :: s=>V.beq a b && ji1 r s
 | _,_=>false
end
mutual
theorem V.beq_eq:∀ (a b:V),V.beq a b = true->a = b
 | .undef,b,h=>by cases b <;> simp [V.beq] at h <;> rfl
 | .int k n,b,h=>by cases b <;> simp [V.beq] at h; simp [h]
 | .bool x,b,h=>by cases b <;> simp [V.beq] at h; simp [h]
 | .str x,b,h=>by cases b <;> simp [V.beq] at h; simp [h]
 | .agg x,b,h=>by
  cases b <;> simp only [V.beq,Bool.false_eq_true] at h;rw [ji2 _ _ h]
 | .tup x,b,h=>by
  cases b <;> simp only [V.beq,Bool.false_eq_true] at h;rw [ji2 _ _ h]
 | .sl x c,b,h=>by
  cases b <;> simp only [V.beq,Bool.false_eq_true,Bool.and_eq_true] at h;rw [ji2 _ _ h.1,qt7 h.2]
 | .ref b g o l c,b',h=>by
  cases b' <;> simp only [V.beq,Bool.false_eq_true,Bool.and_eq_true] at h;obtain ⟨⟨⟨⟨h1,h2⟩,h3⟩,h4⟩,h5⟩:=h;rw [qbp h1,qbp h2,qbp h3,qbp h4,qt7 h5]
 | .ptr b g i o,b',h=>by
  cases b' <;> simp only [V.beq,Bool.false_eq_true,Bool.and_eq_true] at h;obtain ⟨⟨⟨h1,h2⟩,h3⟩,h4⟩:=h;rw [qbp h1,qbp h2,qbp h3,qbp h4]
 | .iptr x o,b',h=>by
  cases b' <;> simp only [V.beq,Bool.false_eq_true,Bool.and_eq_true] at h;rw [V.beq_eq _ _ h.1,qbp h.2]
 | .fn f x y,b',h=>by
  cases b' <;> simp only [V.beq,Bool.false_eq_true,Bool.and_eq_true,decide_eq_true_eq] at h;rw [h.1.1,ji2 _ _ h.1.2,ji2 _ _ h.2]
 | .nilfn,b,h=>by cases b <;> simp [V.beq] at h <;> rfl
 | .nilmap,b,h=>by cases b <;> simp [V.beq] at h <;> rfl
 | .err x,b,h=>by cases b <;> simp [V.beq] at h; simp [h]
 | .nil,b,h=>by cases b <;> simp [V.beq] at h <;> rfl
 | .own b g,b',h=>by
  cases b' <;> simp only [V.beq,Bool.false_eq_true,Bool.and_eq_true] at h;rw [qbp h.1,qbp h.2]
theorem ji2:∀ (a b:List V),ji1 a b = true->a = b
 | [],[],_=>rfl
 | [],_ :: _,h=>by simp [ji1] at h
 | _ :: _,[],h=>by simp [ji1] at h
 | a :: r,b :: s,h=>by
  simp only [ji1,Bool.and_eq_true] at h;rw [V.beq_eq a b h.1,ji2 r s h.2]
end
def q37:List (V × V)->List (V × V)->Bool
 | [],[]=>true
 | a :: r,b :: s=>V.beq a.1 b.1 && V.beq a.2 b.2 && q37 r s
 | _,_=>false
theorem quj:∀ {a b:List (V × V)},q37 a b = true->a = b
 | [],[],_=>rfl
 | [],_ :: _,h=>by simp [q37] at h
 | _ :: _,[],h=>by simp [q37] at h
 | a :: r,b :: s,h=>by
  simp only [q37,Bool.and_eq_true] at h;rw [show a = b from Prod.ext (V.beq_eq _ _ h.1.1) (V.beq_eq _ _ h.1.2),quj h.2]
def Blk.beq:Blk->Blk->Bool
 | .row g s e,.row g' s' e'=>Nat.beq g g' && Nat.beq s s' && ji1 e e'
 | .map g e,.map g' e'=>Nat.beq g g' && q37 e e'
 | .siter g s p,.siter g' s' p'=>Nat.beq g g' && decide (s = s') && Nat.beq p p'
 | _,_=>false
theorem Blk.beq_eq {a b:Blk} (h:Blk.beq a b = true):a = b:=by
 cases a <;> cases b <;> simp only [Blk.beq,Bool.false_eq_true,Bool.and_eq_true,decide_eq_true_eq] at h
 ·rw [qbp h.1.1,qbp h.1.2,ji2 _ _ h.2]
 ·rw [qbp h.1,quj h.2]
 ·rw [qbp h.1.1,h.1.2,qbp h.2]
mutual
def V.inS (S:Nat->Bool):V->Bool
 | .agg cs=>jir S cs
 | .tup cs=>jir S cs
 | .sl xs _=>jir S xs
 | .iptr x _=>x.inS S
 | .fn _ a b=>jir S a && jir S b
 | .ref b ..=>S b
 | .ptr b ..=>S b
 | .own b _=>S b
 | .undef=>true
 | .int ..=>true
 | .bool _=>true
 | .str _=>true
 | .nilfn=>true
 | .nilmap=>true
 | .err _=>true
 | .nil=>true
def jir (S:Nat->Bool):List V->Bool
 | []=>true
 | v :: r=>v.inS S && jir S r
end
theorem jjm {S:Nat->Bool} (l:List V):jir S l = true↔∀ v ∈ l,v.inS S = true:=by
 induction l with
 | nil=>simp [jir]
 | cons a r ih=>simp [jir,ih]
theorem jiq {S:Nat->Bool} {l:List V} (h:jir S l = true) (i:Nat):(l.getD i .undef).inS S = true:=by
 rw [jjm] at h;rw [jkd]
 cases hi:l[i]? with
 | none=>rfl
 | some v=>exact h v (List.mem_of_getElem? hi)
theorem jja {S:Nat->Bool} {v:V} (h:v.inS S = true):jir S v.cells = true:=by
 cases v <;> simp_all [V.cells,V.inS,jir]
def Blk.inS (S:Nat->Bool):Blk->Bool
 | .row _ _ es=>jir S es
 | .map _ es=>es.all fun p=>p.1.inS S && p.2.inS S
 | .siter ..=>true
 | .loop _ _ fr ..=>jir S (fr.map (·.2))
 | .dead _=>true
 | .miter _ x _ _=>x.inS S
def qar.cut (S:Nat->Bool) (M:qar):qar:=fun b=>bif S b then M b else none
theorem jij {S:Nat->Bool} {M:qar} {b:Nat} (h:S b = true):qar.cut S M b = M b:=by simp [qar.cut,h]
theorem jjh {S:Nat->Bool} {M:qar} {b:Nat} (h:S b = false):qar.cut S M b = none:=by simp [qar.cut,h]
theorem qak.cut {G:qaz} {M:qar} (S:Nat->Bool) {v:V} {r:Value} (h:qak G M v r) (hp:v.inS S = true):qak G (qar.cut S M) v r:=by
 induction h with
 | undef v=>exact .undef v
 | int k n=>exact .int k n
 | bool b=>exact .bool b
 | str s=>exact .str s
 | agg cs arr hs _ ho ih=>exact .agg cs arr hs (fun i hi=>ih i hi (jiq (by simpa [V.inS] using hp) i)) ho
 | tup cs arr hs _ ih=>exact .tup cs arr hs (fun i hi=>ih i hi (jiq (by simpa [V.inS] using hp) i))
 | slnil cap base rcap hc hb=>exact .slnil cap base rcap hc hb
 | sl xs cap rb ro rcap sz cells hne hg hsz hb hl hc _ ho ih=>
  exact .sl xs cap rb ro rcap sz cells hne hg hsz hb hl hc (fun i j hi hj=>ih i j hi hj (jiq (jja (jiq (by simpa [V.inS] using hp) i)) j)) ho
 | ref b g off len cap ra rcap mb hM hg hl hc hh=>exact .ref b g off len cap ra rcap mb (by rw [jij (by simpa [V.inS] using hp)]; exact hM) hg hl hc hh
 | ptr b g i off ad mb hM hg hh=>exact .ptr b g i off ad mb (by rw [jij (by simpa [V.inS] using hp)]; exact hM) hg hh
 | iptr x off rb ro cells hg hb _ ho ih=>exact .iptr x off rb ro cells hg hb (fun j hj=>ih j hj (jiq (jja (by simpa [V.inS] using hp)) j)) ho
 | fn f fst cap rfst rcap h1 h2 _ _ ih3 ih4=>
  simp only [V.inS,Bool.and_eq_true] at hp;exact .fn f fst cap rfst rcap h1 h2 (fun i hi=>ih3 i hi (jiq hp.1 i)) (fun i hi=>ih4 i hi (jiq hp.2 i))
 | nilfn=>exact .nilfn
 | nilmap=>exact .nilmap
 | errnil=>exact .errnil
 | errsome t x=>exact .errsome t x
 | nil=>exact .nil
 | own b g r mb hM hg ho hh=>exact .own b g r mb (by rw [jij (by simpa [V.inS] using hp)]; exact hM) hg ho hh
theorem q0q {α:Type}:∀ {fr:List (Nat × α)} {t:Nat} {v:α},lk fr t = some v->v ∈ fr.map (·.2)
 | [],_,_,h=>by simp [lk] at h
 | (k,x) :: r,t,v,h=>by
  simp only [lk] at h;split at h
  ·cases h; simp
  ·exact List.mem_cons_of_mem _ (q0q h)
theorem qb7.cut {G:qaz} {M:qar} {w:World} (S:Nat->Bool) {b:Nat} {k:Blk} (hb:S b = true) (hk:k.inS S = true) (h:qb7 G M w b k):qb7 G (qar.cut S M) w b k:=by
 cases k with
 | row g sz es=>
  obtain ⟨mb,h1,h2,h3,h4⟩:=h;refine ⟨mb,by rw [jij hb]; exact h1,h2,h3,?_⟩;unfold qbo at *;split at h4
  ·exact h4
  ·obtain ⟨arr,ty,q1,q2,q3,q4,q5⟩:=h4;exact ⟨arr,ty,q1,q2,q3,q4,fun i j hi hj=>⟨(q5 i j hi hj).1.cut S (jiq (jja (jiq (by simpa [Blk.inS] using hk) i)) j),(q5 i j hi hj).2⟩⟩
 | map g es=>
  obtain ⟨mb,rb,h1,h2,h3,h0,entries,clock,h4,h5,h6⟩:=h;refine ⟨mb,rb,by rw [jij hb]; exact h1,h2,h3,h0,entries,clock,h4,h5,fun i hi=>?_⟩
  have hin:(es.getD i (.undef,.undef)) ∈ es:=by
   rw [jkd,jkh hi]; exact jkg hi
  simp only [Blk.inS,List.all_eq_true,Bool.and_eq_true] at hk;exact ⟨(h6 i hi).1.cut S (hk _ hin).1,(h6 i hi).2.cut S (hk _ hin).2⟩
 | siter g s pos=>
  obtain ⟨mb,rb,h1,h2,h3,h0,h4⟩:=h;exact ⟨mb,rb,by rw [jij hb]; exact h1,h2,h3,h0,h4⟩
 | loop g n fr ps asg body busy=>
  obtain ⟨mb,rb,h1,h2,h3,h0,r,h4,h5,h6,h7,h8,h9,h10,h11⟩:=h;refine ⟨mb,rb,by rw [jij hb]; exact h1,h2,h3,h0,r,h4,h5,h6,h7,h8,h9,h10,fun t v ht=>(h11 t v ht).cut S ?_⟩;exact (jjm _).1 (by simpa [Blk.inS] using hk) v (q0q ht)
 | dead g=>obtain ⟨mb,h1,h2⟩:=h; exact ⟨mb,by rw [jij hb]; exact h1,h2⟩
 | miter g x n seen=>
  obtain ⟨mb,rb,h1,h2,h3,h0,r,h4,h5⟩:=h;exact ⟨mb,rb,by rw [jij hb]; exact h1,h2,h3,h0,r,h4.cut S hk,h5⟩
end
section
open Go
inductive XC where
 | skip
 | ops (l:List qa4)
 | reg (l:List qa4) (chk:List (Nat × Nat))
 | seq (a b:XC)
 | cond (c:qal) (a b:XC)
 | block (id:Nat) (a:XC)
 | loop (a:XC)
 | scope (a:XC)
 | exit (id:Nat)
 | goto (l:Nat)
 | label (l:Nat)
 | ret
 | rng (n b:Nat) (f:qal) (ps:List Nat) (asg body:Code)
 deriving Inhabited
structure FnI where
 n:Nat
 rs:List qsd
 code:XC
structure ES where
 fr:T V
 h:T Blk
 c:Nat
def q56 (H:HH):Nat->V->V
 | 0,v=>v.mapR (fun _ _ _ _ _=>.undef) (fun _ _ _ _=>.undef)
 | n + 1,v=>v.mapR
   (fun b g off len cap=>match H b with
    | some (.row g' _ es)=>if g' = g/\off + len≤es.length then .sl (((es.drop off).take len).map (q56 H n)) cap else .undef
    | _=>.undef)
   (fun b g i off=>match H b with
    | some (.row g' _ es)=>if g' = g/\i < es.length then .iptr (q56 H n (es.getD i .undef)) off else .undef
    | _=>.undef)
theorem q0k (h:Hp):∀ n,frz h n = q56 (lk h) n
 | 0=>rfl
 | n + 1=>by funext v; simp only [frz,q56,q0k h n]; rfl
def qei:IOp->Bool
 | .load .. | .slice .. | .idxA .. | .b2s _ | .n _=>true
 | io=>!qah io
def qid (ops:Array Oper):List Oper->List qa4->Bool
 | o :: r,x :: s=>x.op.slots.all ((o.looksAt ops).contains ·) && qid ops r s
 | [],[]=>true
 | _,_=>false
def qqm (ops:Array Oper) (x y:Oper):Bool:=
 (match x.dst with | some t=>!((y.looksAt ops).contains t) && y.dst != some t | none=>true) && (match y.dst with | some t=>!((x.looksAt ops).contains t) | none=>true)
def qqe (ops:Array Oper) (an:List Nat):Bool:=(List.range ops.size).all fun j=>(List.range j).all fun i=>bd an i j || match ops[i]?,ops[j]? with
 | some x,some y=>qqm ops x y
 | _,_=>true
def qsh (a b:IOp):Bool:=(!qah a && qei b) || (qei a && !qah b)
def q1s (an:List Nat) (l:List qa4):List (Nat × Nat):=(List.range l.length).flatMap fun j=>(List.range j).filterMap fun i=>
 match l[i]?,l[j]? with
 | some x,some y=>bif !(bd an i j) && qsh x.op y.op then some (i,j) else none
 | _,_=>none
def qcr:IOp->Option (qal × List qal)
 | .call f as=>some (f,as)
 | _=>none
def qrp (x:Nat):List Nat->Bool
 | []=>false
 | a :: r=>bif Nat.beq x a then true else qrp x r
def qoj:NOp->Bool
 | .mapup .. | .snext .. | .mnext ..=>true
 | _=>false
def qhk:IOp->Bool
 | .store ..=>true
 | .n x=>qoj x
 | _=>false
def qkx (x:qa4):Option Nat:=match qcr x.op with
 | some _=>x.dst
 | none=>bif qah x.op then none else x.dst
def qtv (x:qa4):Option Nat:=match qcr x.op with
 | some _=>some (x.dst.getD 999999)
 | none=>bif qah x.op then none else some (x.dst.getD 999999)
def ofT (o:Option Nat) (b:Nat):Prop:=∃ d,o = some d/\(b = d∨b = d + 1000000)
def qlb:List qa4->List Nat->Bool
 | x :: r,seen=>(match qkx x with | some b=>!qrp b seen && Nat.blt b 999999 && qlb r (b :: seen) | none=>qlb r seen)
 | [],_=>true
def q3f (x:qa4):Bool:=match qcr x.op with
 | some _=>true
 | none=>qah x.op || x.dst.isSome || qhk x.op
def qjs (P:Program) (n:Nat) (ops:Array Oper):Option XC:=
 match qb9 P n ops ops.toList with
 | none=>none
 | some all=>if P.follows .mixedOrders = true/\qnr ops = true/\qid ops ops.toList all = true/\qqe ops (qjn ops.toList []) = true/\(all.all q3f && qlb all []) = true then some (.reg all (q1s (qjn ops.toList []) all)) else none
def qc2 (P:Program) (n:Nat):Code->Option XC
 | .skip=>some .skip
 | .region _ ops draw=>match draw with
  | false=>(qb9 P n ops ops.toList).map .ops
  | true=>qjs P n ops
 | .seq a b=>match qc2 P n a,qc2 P n b with
  | some x,some y=>some (.seq x y)
  | _,_=>none
 | .cond c a b=>match qc2 P n a,qc2 P n b with
  | some x,some y=>some (.cond (co c) x y)
  | _,_=>none
 | .block id a=>match qc2 P n a with
  | some x=>some (.block id x)
  | none=>none
 | .loop a=>match qc2 P n a with
  | some x=>some (.loop x)
  | none=>none
 | .scope a=>match qc2 P n a with
  | some x=>some (.scope x)
  | none=>none
 | .exit id=>some (.exit id)
 | .goto l=>some (.goto l)
 | .label l=>some (.label l)
 | .ret=>some .ret
 | .rangeFunc f ps asg body=>some (.rng n (2000000 + ps.toList.headD 0) (co f) ps.toList asg body)
 | _=>none
def qzr:Code->List (Code × Code)
 | .rangeFunc _ _ a b=>(a,b) :: qzr b
 | .seq a b=>qzr a ++ qzr b
 | .cond _ a b=>qzr a ++ qzr b
 | .block _ a=>qzr a
 | .loop a=>qzr a
 | .scope a=>qzr a
 | _=>[]
def qxu (P:Program) (f k:Nat):Code × Code:=(match P.funcs[f]? with
 | some fn=>match fn.body with
  | some c=>qzr c
  | none=>[]
 | none=>[]).getD k (.skip,.skip)
def gfE (H:HH) (id b:Nat):Nat:=bif Nat.beq b id then 0 else match H b with
 | some (.row g _ _)=>g + 1
 | some (.map g _)=>g + 1
 | some (.siter g _ _)=>g + 1
 | some (.loop g ..)=>g + 1
 | some (.dead g)=>g + 1
 | some (.miter g ..)=>g + 1
 | none=>0
def q4l (t:T V):Option Nat->V->Option (T V)
 | none,_=>some t
 | some d,v=>t.put d v
def qs8 (h:T Blk):Hp->Option (T Blk)
 | []=>some h
 | (b,k) :: r=>eb (qs8 h r) fun h'=>h'.put b k
def xgd (F:FF):Option (Nat × Bool)->Option Bool
 | none=>some true
 | some (t,want)=>match F t with
  | some (.bool b)=>some (b == want)
  | some (.tup [])=>some false
  | _=>none
abbrev qix:=FuncId->List V->T Blk->Nat->Option (V × T Blk × Nat)
abbrev q3t:=Nat->Nat->List V->T Blk->Nat->Option (V × T Blk × Nat)
def qmd (io:IOp) (c:Nat):Nat:=bif qah io then c else c + 1
def qkq (gl:Fr) (F:FF) (f:qal) (as:List qal):Option (FuncId × List V):=
 match evF gl F f,qtu gl F as with
 | some (.fn g fst cap),some vs=>some (g,fst ++ vs ++ cap)
 | _,_=>none
def jic (cl:qix) (yl:q3t) (gl:Fr) (f:qal) (as:List qal) (S:ES):Option V->Option (V × T Blk × Nat)
 | some (.own b g)=>eb (qtu gl S.fr.get as) fun vs=>yl b g vs S.h S.c
 | _=>eb (qkq gl S.fr.get f as) fun q=>cl q.1 q.2 S.h S.c
def xop (cl:qix) (yl:q3t) (gl:Fr) (io:IOp) (S:ES):Option (V × T Blk × Nat):=
 match qcr io with
 | some (f,as)=>jic cl yl gl f as S (evF gl S.fr.get f)
 | none=>bif jah gl S.fr.get io then some (.nil,S.h,S.c) else eb (eop gl (gfE S.h.get S.c) S.c S.fr.get S.h.get io) fun y=>eb (qs8 S.h y.2.1) fun h'=>some (y.1,h',qmd io S.c)
def q4s (cl:qix) (yl:q3t) (gl:Fr):List qa4->ES->Option ES
 | [],S=>some S
 | o :: r,S=>match xgd S.fr.get o.guard with
  | some true=>eb (xop cl yl gl o.op S) fun y=>eb (q4l S.fr o.dst y.1) fun fr=>q4s cl yl gl r ⟨fr,y.2.1,y.2.2⟩
  | some false=>eb (q4l S.fr o.dst (.tup [])) fun fr=>q4s cl yl gl r ⟨fr,S.h,S.c⟩
  | none=>none
mutual
def V.ids:V->List Nat->List Nat
 | .agg cs,l=>jiw cs l
 | .tup cs,l=>jiw cs l
 | .sl xs _,l=>jiw xs l
 | .iptr x _,l=>x.ids l
 | .fn _ a b,l=>jiw a (jiw b l)
 | .ref b _ _ _ _,l=>b :: l
 | .ptr b _ _ _,l=>b :: l
 | .own b _,l=>b :: l
 | .undef,l=>l
 | .int _ _,l=>l
 | .bool _,l=>l
 | .str _,l=>l
 | .nilfn,l=>l
 | .nilmap,l=>l
 | .err _,l=>l
 | .nil,l=>l
def jiw:List V->List Nat->List Nat
 | [],l=>l
 | v :: r,l=>v.ids (jiw r l)
end
def Blk.ids:Blk->List Nat->List Nat
 | .row _ _ es,l=>jiw es l
 | .map _ es,l=>jiw (es.map (·.1)) (jiw (es.map (·.2)) l)
 | .siter ..,l=>l
 | .loop _ _ fr ..,l=>jiw (fr.map (·.2)) l
 | .dead _,l=>l
 | .miter _ x _ _,l=>x.ids l
def qta (H:HH):Nat->List Nat->List Nat->List Nat
 | 0,_,acc=>acc
 | _ + 1,[],acc=>acc
 | n + 1,b :: r,acc=>bif qrp b acc then qta H n r acc else match H b with
  | some k=>qta H n (k.ids r) (b :: acc)
  | none=>qta H n r (b :: acc)
def q5l (H:HH):List Nat->Option (T Blk)
 | []=>some .lf
 | b :: r=>eb (q5l H r) fun t=>match H b with
  | some k=>t.put b k
  | none=>some t
def qt8 (H:HH) (S:List Nat):Bool:=S.all fun b=>match H b with
 | some k=>k.inS (qrp · S)
 | none=>true
def qgw (H H':HH):List Nat->Hp
 | []=>[]
 | b :: r=>match H' b,H b with
  | some k',some k=>bif Blk.beq k' k then qgw H H' r else (b,k') :: qgw H H' r
  | some k',none=>(b,k') :: qgw H H' r
  | none,_=>qgw H H' r
def q0n (H H':HH) (S:List Nat):Bool:=S.all fun b=>match H b,H' b with
 | some _,none=>false
 | _,_=>true
def jbh (c:Nat):Nat->List Nat
 | 0=>[]
 | m + 1=>c :: jbh (c + 1) m
def q05 (cl:qix) (H:HH) (c:Nat) (q:FuncId × List V):Option (V × Hp × List Nat × Nat):=
 let S:=qta H 100000 (jiw q.2 []) []
 gd (jir (qrp · S) q.2 && qt8 H S) (eb (q5l H S) fun hr=>eb (cl q.1 q.2 hr c) fun z=>gd (q0n H z.2.1.get S) (some (z.1,qgw H z.2.1.get S ++ qgw H z.2.1.get (jbh c (z.2.2 - c)),S,z.2.2)))
def xopR (cl:qix) (gl:Fr) (io:IOp) (S:ES):Option (V × Hp × List Nat × Nat):=
 match qcr io with
 | some (f,as)=>eb (qkq gl S.fr.get f as) (q05 cl S.h.get S.c)
 | none=>eb (eop gl (gfE S.h.get S.c) S.c S.fr.get S.h.get io) fun y=>some (y.1,y.2.1,y.2.2,qmd io S.c)
def qqy (cl:qix) (gl:Fr):List qa4->ES->Option (ES × List (List Nat × List Nat))
 | [],S=>some (S,[])
 | o :: r,S=>match xgd S.fr.get o.guard with
  | some true=>eb (xopR cl gl o.op S) fun y=>eb (q4l S.fr o.dst y.1) fun fr=>eb (qs8 S.h y.2.1) fun h=>eb (qqy cl gl r ⟨fr,h,y.2.2.2⟩) fun z=>some (z.1,(y.2.1.map (·.1),y.2.2.1) :: z.2)
  | some false=>eb (q4l S.fr o.dst (.tup [])) fun fr=>eb (qqy cl gl r ⟨fr,S.h,S.c⟩) fun z=>some (z.1,([],[]) :: z.2)
  | none=>none
def jdn (a b:List Nat × List Nat):Bool:=a.1.all (fun x=>!qrp x b.1 && !qrp x b.2) && b.1.all (fun x=>!qrp x a.2)
def qlp (fps:List (List Nat × List Nat)) (chk:List (Nat × Nat)):Bool:=chk.all fun p=>jdn (fps.getD p.1 ([],[])) (fps.getD p.2 ([],[]))
def q42:Nat->List V->Option (T V)
 | _,[]=>some .lf
 | i,v :: r=>eb (q42 (i + 1) r) fun t=>t.put i v
def qxc (F:FF) (H:HH):List qsd->Option (List V)
 | []=>some []
 | .tmp t :: r=>eb (F t) fun v=>eb (qxc F H r) fun vs=>some (v :: vs)
 | .cell t ag n :: r=>match F t with
  | some (.ptr b g i off)=>(match H b with
   | some (.row g' _ es)=>gd (decide (g' = g) && decide (i < es.length) && jiy ag off n (es.getD i .undef)) (eb (qxc F H r) fun vs=>some (jif ag off n (es.getD i .undef) :: vs))
   | _=>none)
  | _=>none
def q8h:List V->V
 | [v]=>v
 | vs=>.tup vs
abbrev OrT:=FuncId->List V->Option V
def noO:OrT:=fun _ _=>none
def qme (O:OrT) (FT:Nat->Option FnI) (rec:XC->ES->Option (qb3 × ES)):qix:=fun f args h c=>
 match O f args with
 | some v=>some (v,h,c)
 | none=>eb (FT f) fun fi=>gd (Nat.ble args.length fi.n) (eb (q42 0 args) fun fr=>match rec fi.code ⟨fr,h,c⟩ with
  | some (.normal,S)=>eb (qxc S.fr.get S.h.get fi.rs) fun vs=>some (q8h vs,S.h,S.c)
  | some (.ret,S)=>eb (qxc S.fr.get S.h.get fi.rs) fun vs=>some (q8h vs,S.h,S.c)
  | _=>none)
def qqh:Fr->List Nat->List V->Fr
 | fr,t :: ts,v :: vs=>qqh ((t,v) :: fr) ts vs
 | fr,_,_=>fr
def T.list {α:Type}:T α->(Nat->Nat)->List (Nat × α)
 | .lf,_=>[]
 | .nd v l r,k=>(match v with | some x=>[(k 0,x)] | none=>[]) ++ l.list (fun n=>k (2 * n + 1)) ++ r.list (fun n=>k (2 * n + 2))
def qva:Fr->Option (T V)
 | []=>some .lf
 | (k,v) :: r=>eb (qva r) fun t=>t.put k v
def yldB (b g:Nat) (S:ES) (r:Option (qb3 × ES)):Option (V × T Blk × Nat):=
 match r with
 | some (.normal,S2)=>match S2.h.get b with
  | some (.loop g2 m2 fr2 ps2 a2 b2 true)=>gd (Nat.beq g2 g && Nat.ble S.c S2.c) (eb (S2.h.put b (.loop g2 m2 fr2 ps2 a2 b2 false)) fun h2=>some (.bool true,h2,S2.c))
  | _=>none
 | _=>none
def yldA (rec:XC->ES->Option (qb3 × ES)) (xb:XC) (b g:Nat) (r:Option (qb3 × ES)):Option (V × T Blk × Nat):=
 match r with
 | some (.normal,S1)=>match S1.h.get b with
  | some (.loop g1 m1 fr1 ps1 a1 b1 false)=>gd (Nat.beq g1 g) (eb (S1.h.put b (.loop g1 m1 fr1 ps1 a1 b1 true)) fun h1=>yldB b g S1 (rec xb ⟨S1.fr,h1,S1.c⟩))
  | _=>none
 | _=>none
def jbo (P:Program) (rec:XC->ES->Option (qb3 × ES)):q3t:=fun b g vs h c=>
 match h.get b with
 | some (.loop g' m frl ps asg body false)=>gd (Nat.beq g' g && Nat.beq ps.length vs.length && noR asg && noR body && ps.all fun t=>Nat.blt t m)
   (eb (qc2 P m asg) fun xa=>eb (qc2 P m body) fun xb=>eb (qva (qqh frl ps vs)) fun fr0=>yldA rec xb b g (rec xa ⟨fr0,h,c⟩))
 | _=>none
def jhw (cl:qix) (n:Nat) (ps:List Nat) (asg body:Code) (S:ES):Option V->Option (qb3 × ES)
 | some (.fn g fst cap)=>eb (S.h.put S.c (.loop 0 n (S.fr.list fun n=>n) ps asg body false)) fun h1=>eb (cl g (fst ++ [.own S.c 0] ++ cap) h1 (S.c + 1)) fun z=>match z.2.1.get S.c with
  | some (.loop 0 _ _ _ _ _ false)=>eb (z.2.1.put S.c (.dead 0)) fun h2=>some (.normal,⟨S.fr,h2,z.2.2⟩)
  | _=>none
 | _=>none
def step (P:Program) (O:OrT) (FT:Nat->Option FnI) (gl:Fr) (rec:XC->ES->Option (qb3 × ES)) (c:XC) (S:ES):Option (qb3 × ES):=
 match c with
 | .skip=>some (.normal,S)
 | .ops l=>eb (q4s (qme O FT rec) (jbo P rec) gl l S) fun S'=>some (.normal,S')
 | .reg l chk=>eb (qqy (qme O FT rec) gl l S) fun z=>gd (qlp z.2 chk) (some (.normal,z.1))
 | .seq a b=>match rec a S with
  | some (.normal,S')=>rec b S'
  | r=>r
 | .cond c a b=>match evF gl S.fr.get c with
  | some (.bool t)=>(match t with
   | true=>rec a S
   | false=>rec b S)
  | _=>none
 | .block id a=>match rec a S with
  | some (.exit id',S')=>bif Nat.beq id' id then some (.normal,S') else some (.exit id',S')
  | r=>r
 | .loop a=>match rec a S with
  | some (.normal,S')=>rec (.loop a) S'
  | r=>r
 | .scope a=>match rec a S with
  | some (.goto _,_)=>none
  | r=>r
 | .exit id=>some (.exit id,S)
 | .goto l=>some (.goto l,S)
 | .label _=>some (.normal,S)
 | .ret=>some (.ret,S)
 | .rng n _ f ps asg body=>jhw (qme O FT rec) n ps asg body S (evF gl S.fr.get f)
def exec (P:Program) (O:OrT) (FT:Nat->Option FnI) (gl:Fr):Nat->XC->ES->Option (qb3 × ES)
 | 0=>fun _ _=>none
 | m + 1=>step P O FT gl (exec P O FT gl m)
end
section
open Go
theorem qc3 {M:qar} {b:Nat} (h:qaa M b = 0):M b = none:=by
 unfold qaa at h
 cases hb:M b with
 | none=>rfl
 | some mb=>rw [hb] at h; cases h
theorem qgf {M:qar} {b:Nat} (h:M b = none):qaa M b = 0:=by simp [qaa,h]
theorem qhr:∀ {W:Hp} {h h':T Blk},qs8 h W = some h'->h'.get = ov W h.get
 | [],h,h',he=>by simp only [qs8,Option.some.injEq] at he; subst he; rfl
 | (b,k) :: r,h,h',he=>by
  simp only [qs8] at he;obtain ⟨h1,e1,e2⟩:=qad he;rw [jiu e2,qhr e1];funext t;simp only [upd,ov,lk];by_cases ht:t = b <;> simp [ht]
def qsc (F:FF):Option Nat->V->FF
 | none,_=>F
 | some d,v=>upd F d v
theorem qjg {t t':T V} {d:Option Nat} {v:V} (he:q4l t d v = some t'):t'.get = qsc t.get d v:=by
 cases d with
 | none=>simp only [q4l,Option.some.injEq] at he; subst he; rfl
 | some d=>exact jiu he
theorem qrm (fr:Fr) (d:Option Nat) (v:V):lk (qk5 fr d v) = qsc (lk fr) d v:=by
 cases d with
 | none=>rfl
 | some d=>funext t; simp [qk5,qsc,upd,lk]
theorem qjd {x:Nat} {l:List Nat}:qrp x l = true↔x ∈ l:=by
 induction l with
 | nil=>simp [qrp]
 | cons a r ih=>
  simp only [qrp,List.mem_cons];by_cases h:x = a
  ·subst h;have:Nat.beq x x = true:=Nat.beq_refl x;simp
  ·simp [qbs h,ih,h]
def qsn (H:HH):List Nat->Hp
 | []=>[]
 | b :: r=>match H b with
  | some k=>(b,k) :: qsn H r
  | none=>qsn H r
theorem qra {H:HH}:∀ {S:List Nat} {t:T Blk},q5l H S = some t->t.get = lk (qsn H S)
 | [],t,h=>by simp only [q5l,Option.some.injEq] at h; subst h; funext b; simp [T.get,qsn,lk]
 | b :: r,t,h=>by
  simp only [q5l] at h;obtain ⟨t1,h1,h2⟩:=qad h;have ih:=qra h1
  cases hb:H b with
  | none=>rw [hb] at h2; cases h2; simp only [qsn,hb]; exact ih
  | some k=>
   rw [hb] at h2;simp only [qsn,hb];rw [jiu h2,ih];funext x;simp only [upd,lk]
theorem qp1 {H:HH}:∀ {S:List Nat} {b:Nat} {k:Blk},lk (qsn H S) b = some k↔b ∈ S/\H b = some k
 | [],b,k=>by simp [qsn,lk]
 | a :: r,b,k=>by
  cases ha:H a with
  | none=>
   simp only [qsn,ha,List.mem_cons];rw [qp1];constructor
   ·rintro ⟨h1,h2⟩; exact ⟨.inr h1,h2⟩
   ·rintro ⟨h1 | h1,h2⟩
    ·subst h1; rw [ha] at h2; cases h2
    ·exact ⟨h1,h2⟩
  | some k'=>
   simp only [qsn,ha,lk,List.mem_cons];by_cases hb:b = a
   ·subst hb; simp [ha]
   ·rw [if_neg hb,qp1]; simp [hb]
theorem qgc {H H':HH}:∀ {L:List Nat} {b:Nat} {k:Blk},lk (qgw H H' L) b = some k->H' b = some k
 | [],b,k,h=>by simp [qgw,lk] at h
 | a :: r,b,k,h=>by
  simp only [qgw] at h;split at h
  ·rename_i k' k0 h1 h2
   cases hb:Blk.beq k' k0 with
   | true=>rw [hb] at h; exact qgc h
   | false=>
    rw [hb] at h;simp only [cond_false,lk] at h;split at h
    ·rename_i he; subst he; rw [h1]; exact h
    ·exact qgc h
  ·rename_i k' h1 h2;simp only [lk] at h;split at h
   ·rename_i he; subst he; rw [h1]; exact h
   ·exact qgc h
  ·exact qgc h
theorem qct {H H':HH}:∀ {L:List Nat} {b:Nat} {k k':Blk},lk (qgw H H' L) b = none->b ∈ L->H b = some k->H' b = some k'->k' = k
 | [],b,k,k',_,hb,_,_=>by cases hb
 | a :: r,b,k,k',h,hb,h1,h2=>by
  simp only [qgw] at h;by_cases hab:b = a
  ·subst hab;rw [h1,h2] at h;simp only [] at h
   cases he:Blk.beq k' k with
   | true=>exact Blk.beq_eq he
   | false=>rw [he] at h; simp [lk] at h
  ·have hbr:b ∈ r:=by
    rcases List.mem_cons.1 hb with h' | h'
    ·exact absurd h' hab
    ·exact h'
   split at h
   ·rename_i k1 k0 e1 e2
    cases he:Blk.beq k1 k0 with
    | true=>rw [he] at h; exact qct h hbr h1 h2
    | false=>rw [he] at h; simp only [cond_false,lk,if_neg hab] at h; exact qct h hbr h1 h2
   ·simp only [lk,if_neg hab] at h; exact qct h hbr h1 h2
   ·exact qct h hbr h1 h2
def qq2 (P:Program) (gl:Fr) (f:FuncId) (args:List V) (h:HH) (c:Nat) (v:V) (h':HH) (c':Nat):Prop:=
 qbt P f = true/\c≤c'/\∀ (G:qaz) (M:qar) (w:World) (rargs:Array Value) (hl:Hp),lk hl = h->Sim G M hl w->qdy G gl->rargs.size = args.length->(∀ i,i < args.length->qak G M (args.getD i .undef) (rargs.getD i undef))->
  (∀ b,c≤b->b < c'->qaa M b = 0)->
  Calls P f rargs w fun e w'=>∃ rv,e = .returned rv/\∃ hl' G' M',lk hl' = h'/\qak G' M' v rv/\Sim G' M' hl' w'/\Ext G M w G' M' w'/\∀ b,¬ (c≤b/\b < c')->qaa M b = 0->qaa M' b = 0
def q07 (P:Program) (gl:Fr) (b g:Nat) (vs:List V) (H:HH) (c:Nat) (v:V) (H':HH) (c':Nat):Prop:=
 c≤c'/\∀ (rd:Option Nat) (G:qaz) (M:qar) (w:World) (hl:Hp) (r0:Value) (ra:Array Value),lk hl = H->Sim G M hl w->qdy G gl->qak G M (.own b g) r0->ra.size = vs.length->(∀ i,i < vs.length->qak G M (vs.getD i .undef) (ra.getD i undef))->
  (∀ b,c≤b->b < c'->qaa M b = 0)->∃ l fn tmps asg body,r0 = .func (.yield l) #[] #[]/\(Instr.yield l ra).run P w = .ok (.round l fn tmps asg body) w/\
   RoundIn (FW rd) 0 P l fn tmps asg body w fun e w'=>∃ rv,e = .returned rv/\∃ hl' G' M',lk hl' = H'/\qak G' M' v rv/\Sim G' M' hl' w'/\Ext G M w G' M' w'/\∀ b,¬ (c≤b/\b < c')->qaa M b = 0->qaa M' b = 0
def qxi (P:Program) (gl:Fr) (yl:q3t):Prop:=∀ b g vs h c v h' c',yl b g vs h c = some (v,h',c')->q07 P gl b g vs h.get c v h'.get c'
def q3r (P:Program) (gl:Fr) (O:OrT):Prop:=∀ f args v,O f args = some v->∀ h c,qq2 P gl f args h c v h c
theorem q0u {P:Program} {gl:Fr}:q3r P gl noO:=fun _ _ _ h=>by cases h
def qij (P:Program) (gl:Fr) (cl:qix):Prop:=∀ f args h c v h' c',cl f args h c = some (v,h',c')->qq2 P gl f args h.get c v h'.get c'
section
variable {P:Program} {gl:Fr} {bs:BS} {n:Nat} {fr:Fr} {h:Hp} {G:qaz} {M:qar} {a:Act} {w:World} {ops:Array Oper}
theorem qpu {o:Oper} {t:Nat} {want:Bool} (hg:qds ops o = some (some (t,want))):t ∈ o.looksAt ops/\∃ (j:Nat) (oj:Oper),ops[j]? = some oj/\oj.dst = some t:=by
 unfold qds at hg;split at hg
 ·cases hg
 ·rename_i j want' he;split at hg
  ·rename_i d hd;simp only [Option.some.injEq,Prod.mk.injEq] at hg;obtain ⟨rfl,rfl⟩:=hg;refine ⟨by simp [Oper.looksAt,he,hd],?_⟩;obtain ⟨oj,h1,h2⟩:=Option.bind_eq_some_iff.1 hd;exact ⟨j,oj,h1,h2⟩
  ·cases hg
theorem qa6 (hops:∀ d,(∃ o,o ∈ ops.toList/\o.dst = some d)->d < n) (hr:R bs n gl G M fr h a w) {o:Oper} {g:Option (Nat × Bool)} (hg:qds ops o = some g) {F:FF} (hF:∀ t ∈ o.looksAt ops,lk fr t = F t) {b:Bool} (hx:xgd F g = some b) :
  Region.wanted o (yielded ops a.tmps) = b:=by
 cases g with
 | none=>simp only [xgd,Option.some.injEq] at hx; subst hx; exact qqu hg
 | some tw=>
  obtain ⟨t,want⟩:=tw;obtain ⟨g1,j,oj,g2,g3⟩:=qpu hg;simp only [xgd] at hx;split at hx
  ·rename_i b' hb;cases hx;rw [qqw hr hg (by rw [hF t g1]; exact hb) (hops t ⟨oj,by simpa using Array.mem_of_getElem? g2,g3⟩)]
  ·rename_i hb;cases hx;exact qqv hr hg (by rw [hF t g1]; exact hb) (hops t ⟨oj,by simpa using Array.mem_of_getElem? g2,g3⟩)
  ·cases hx
theorem Sim.none_of_fresh (hs:Sim G M h w) {b:Nat} (h0:qaa M b = 0):lk h b = none:=by
 cases hb:lk h b with
 | none=>rfl
 | some k=>
  have hk:=hs.hb b k hb;have:=qc3 h0
  cases k with
  | row g sz es=>obtain ⟨mb,h1,-⟩:=hk; rw [this] at h1; cases h1
  | map g es=>obtain ⟨mb,rb,h1,-⟩:=hk; rw [this] at h1; cases h1
  | siter g s pos=>obtain ⟨mb,rb,h1,-⟩:=hk; rw [this] at h1; cases h1
  | loop=>obtain ⟨mb,rb,h1,-⟩:=hk; rw [this] at h1; cases h1
  | miter=>obtain ⟨mb,rb,h1,-⟩:=hk; rw [this] at h1; cases h1
  | dead=>obtain ⟨mb,h1,-⟩:=hk; rw [this] at h1; cases h1
theorem qn3 (hs:Sim G M h w) {H:HH} {c:Nat} (hc:qaa M c = 0) {b:Nat} {k:Blk} (hb:lk h b = some k) (hH:H b = some k):qaa M b = gfE H c b:=by
 have hk:=hs.hb b k hb
 have hne:b ≠ c:=fun he=>by
  subst he;have:=qc3 hc
  cases k with
  | row g sz es=>obtain ⟨mb,h1,-⟩:=hk; rw [this] at h1; cases h1
  | map g es=>obtain ⟨mb,rb,h1,-⟩:=hk; rw [this] at h1; cases h1
  | siter g s pos=>obtain ⟨mb,rb,h1,-⟩:=hk; rw [this] at h1; cases h1
  | loop=>obtain ⟨mb,rb,h1,-⟩:=hk; rw [this] at h1; cases h1
  | miter=>obtain ⟨mb,rb,h1,-⟩:=hk; rw [this] at h1; cases h1
  | dead=>obtain ⟨mb,h1,-⟩:=hk; rw [this] at h1; cases h1
 simp only [gfE,qbs hne,cond_false,hH]
 cases k with
 | row g sz es=>obtain ⟨mb,h1,h2,-⟩:=hk; simp [qaa,h1,h2]
 | map g es=>obtain ⟨mb,rb,h1,h2,-⟩:=hk; simp [qaa,h1,h2]
 | siter g s pos=>obtain ⟨mb,rb,h1,h2,-⟩:=hk; simp [qaa,h1,h2]
 | loop=>obtain ⟨mb,rb,h1,h2,-⟩:=hk; simp [qaa,h1,h2]
 | miter=>obtain ⟨mb,rb,h1,h2,-⟩:=hk; simp [qaa,h1,h2]
 | dead=>obtain ⟨mb,h1,h2⟩:=hk; simp [qaa,h1,h2]
theorem q0m {H:HH} {c:Nat}:gfE H c c = 0:=by
 have:Nat.beq c c = true:=Nat.beq_refl c;simp [gfE]
theorem qlx {gf:Nat->Nat} {id:Nat} {F:FF} {H:HH} {io:IOp} (hp:qei io = false) {y:Y} (he:eop gl gf id F H io = some y):y.2.2 = []:=by
 cases io <;> simp only [qei,qah,Bool.not_false,Bool.not_true,Bool.true_eq_false] at hp <;> simp only [eop] at he
 case mv x=>obtain ⟨v,h1,h2⟩:=qad he; cases h2; rfl
 case pick c x z=>
  split at he
  ·rename_i t hc;cases t <;> (simp only [] at he; obtain ⟨v,h1,h2⟩:=qad he; cases h2; rfl)
  ·cases he
 case build z ps=>
  obtain ⟨l,h1,h2⟩:=qad he;obtain ⟨cs,h3,h4⟩:=qad h2;cases h4; rfl
 case bin op x z=>
  split at he
  ·obtain ⟨v,h1,h2⟩:=qad he; cases h2; rfl
  ·cases he
 case eqs neg m x z=>
  split at he
  ·obtain ⟨h1,h2⟩:=qae he; cases h2; rfl
  ·cases he
 case beq neg x z=>split at he <;> first | (cases he; rfl) | cases he
 case un op x=>
  obtain ⟨v,h1,h2⟩:=qad he;obtain ⟨v',h3,h4⟩:=qad h2;cases h4; rfl
 case conv k x=>split at he <;> first | (cases he; rfl) | cases he
 case mkfn f x z=>split at he <;> first | (cases he; rfl) | cases he
 case sliceS x lo hi=>
  split at he
  ·obtain ⟨l,h1,he⟩:=qad he;obtain ⟨u,h2,he⟩:=qad he;obtain ⟨h4,he⟩:=qae he;cases he; rfl
  ·cases he
 case fieldA off x=>split at he <;> first | (cases he; rfl) | cases he
 case field ag off m x=>
  split at he
  ·obtain ⟨h1,h2⟩:=qae he; cases h2; rfl
  ·cases he
 case idxP len sz x z=>
  split at he
  ·obtain ⟨h1,h2⟩:=qae he; cases h2; rfl
  ·obtain ⟨h1,h2⟩:=qae he; cases h2; rfl
  ·cases he
 case idxV ag len sz x z=>
  split at he
  ·obtain ⟨h1,h2⟩:=qae he; cases h2; rfl
  ·cases he
 case idxS x z=>
  split at he
  ·obtain ⟨h1,h2⟩:=qae he; cases h2; rfl
  ·cases he
 case len x=>split at he <;> first | (cases he; rfl) | cases he
 case lenS x=>split at he <;> first | (cases he; rfl) | cases he
 case lenK m=>cases he; rfl
 case cap x=>split at he <;> first | (cases he; rfl) | cases he
 case mm mx x z=>split at he <;> first | (cases he; rfl) | cases he
 case extract x i=>
  split at he
  ·obtain ⟨v,h1,h2⟩:=qad he; cases h2; rfl
  ·cases he
 case cvs x=>split at he <;> first | (cases he; rfl) | cases he
theorem qed {io:IOp} (h:qei io = false):qah io = true:=by cases io <;> first | rfl | (simp [qei,qah] at h)
theorem qts (hops:∀ d,(∃ o,o ∈ ops.toList/\o.dst = some d)->d < n) {i:Nat} {o:Oper} (ho:ops[i]? = some o) {x:qa4} (hx:qgm P n ops o = some x) {F:FF} {H:HH} (hg:xgd F x.guard = some false) {rd ids:Nat->Prop} :
  qk9 P gl n ops i o F H rd ids (.tup []) []:=by
 intro bs fr h G M a w Q K' hr hF hH hid hk;obtain ⟨c1,c2,c3,c4⟩:=qbr hx;unfold wpOp;simp only [ho];rw [qa6 hops hr c2 hF hg,if_neg (by simp)];exact hk undef G M w (hr.put c4 (.tup [] #[] rfl (fun i hi=>by simp at hi)) hr.sim (.refl _ _ _)) (.refl _ _ _) (fun _ _ h0=>h0)
theorem qz0 (hops:∀ d,(∃ o,o ∈ ops.toList/\o.dst = some d)->d < n) {i:Nat} {o:Oper} (ho:ops[i]? = some o) {x:qa4} (hx:qgm P n ops o = some x) (hsl:∀ t ∈ x.op.slots,t ∈ o.looksAt ops) {F:FF} {H:HH} (hg:xgd F x.guard = some true)
  {c:Nat} {y:Y} (he:eop gl (gfE H c) c F H x.op = some y):qk9 P gl n ops i o F H (fun b=>b ∈ y.2.2) (fun b=>c≤b/\b < qmd x.op c) y.1 y.2.1:=by
 intro bs fr h G M a w Q K' hr hF hH hid hk;obtain ⟨c1,c2,c3,c4⟩:=qbr hx;unfold wpOp;simp only [ho];rw [qa6 hops hr c2 hF hg,if_pos rfl];refine .inl ?_
 cases hp:qah x.op with
 | true=>
  have he2:eop gl (gfE H c) c (lk fr) (lk h) x.op = some y:=qer (fun t ht=>hF t (hsl t ht)) he (fun b hb=>hH b hb) rfl (fun _ _ _ _=>rfl);obtain ⟨e1,e2⟩:=qgh (Q:=Q) hr c1 hp he2;refine Oper.wp_mono ?_ e2;rintro a' w' ⟨v,rv,q1,rfl,q3,rfl⟩;subst q1;refine hk rv G M w' ?_ (.refl _ _ _) (fun _ _ h0=>h0);rw [e1];exact hr.put c4 q3 hr.sim (.refl _ _ _)
 | false=>
  have hb:qmd x.op c = c + 1:=by simp [qmd,hp]
  have hc0:qaa M c = 0:=hid c ⟨jki _,by omega⟩;have he2:eop gl (qaa M) c (lk fr) (lk h) x.op = some y:=qer (fun t ht=>hF t (hsl t ht)) he (fun b hb=>hH b hb) (by rw [hc0,q0m]) (fun b hb k hk'=>qn3 hr.sim hc0 (by rw [hH b hb]; exact hk') hk');refine Oper.wp_mono ?_ (qhb hr c1 he2);rintro a' w' ⟨v,h',rv,G',M',⟨rfl,rfl⟩,rfl,q3,q4,q5,q6⟩;exact hk rv G' M' w' (hr.put c4 q3 q4 q5) q5 (fun b hnb h0=>(q6 b (fun e=>hnb ⟨by omega,by omega⟩) (hr.sim.none_of_fresh h0)).trans h0)
theorem qmf (hr:R bs n gl G M fr h a w) {o:Oper} {c:Call} {f:Operand} {Q:Exit->Act->World->Prop} (ho:o.op = .call c) (hc:c.callee = .value f) {fid:FuncId} {fst cap vs:List V}
  (hf:ev gl fr (co f) = some (.fn fid fst cap)) (hvs:evs gl fr (c.args.toList.map co) = some vs) (hcal:qbt P fid = true) {Post:Value->World->Prop}
  (hcalls:∀ rargs:Array Value,rargs.size = (fst ++ vs ++ cap).length->(∀ i,i < (fst ++ vs ++ cap).length->qak G M ((fst ++ vs ++ cap).getD i .undef) (rargs.getD i undef))->Calls P fid rargs w fun e w'=>∃ rv,e = .returned rv/\Post rv w') :
  o.wp P a w (fun a' w'=>∃ rv,a' = a.put o.dst rv/\Post rv w') Q:=by
 obtain ⟨v1,v2⟩:=qlh hr hvs;have rf:=qat hr hf;generalize hev:a.eval f = r at rf
 cases rf with
 | fn _ _ _ rfst rcap s1 s2 s3 s4=>
  unfold qbt at hcal;split at hcal
  ·rename_i fn hfn;simp only [Bool.and_eq_true,bne_iff_ne,ne_eq,Option.isSome_iff_exists] at hcal;obtain ⟨hname,body,hbody⟩:=hcal
   have hrun:(execOp a.eval o).run P w = .ok (.enter fid (rfst ++ c.args.map a.eval ++ rcap)) w:=by
    simp [execOp,ho,resolve,hc,hev,Deferred.ofValue,invoke,callFunc,hfn,hname,hbody]
   unfold Oper.wp;rw [hrun,Oper.upon_enter];refine Calls.mono (hcalls (rfst ++ c.args.map a.eval ++ rcap) (by simp [v1]; omega) ?_) ?_
   ·intro i hi;simp only [List.length_append] at hi;simp only [jke,jkd,Array.getElem?_append,List.getElem?_append,Array.size_append,Array.size_map,List.length_append,s1];have hl:c.args.size = vs.length:=by rw [v1]; simp
    rw [hl];by_cases c1:i < fst.length + vs.length
    ·rw [if_pos c1,if_pos c1];by_cases c2:i < fst.length
     ·rw [if_pos c2,if_pos c2];have:=s3 i c2;simpa [jke,jkd] using this
     ·rw [if_neg c2,if_neg c2];have:=v2 (i - fst.length) (by omega);rw [<- qcb] at this;simpa only [jke,jkd] using this
    ·rw [if_neg c1,if_neg c1];have:=s4 (i - (fst.length + vs.length)) (by omega);simpa only [jke,jkd] using this
   ·rintro e w' ⟨rv,rfl,hp⟩;exact ⟨rv,rfl,hp⟩
  ·cases hcal
theorem qep {o:Oper} {f:qal} {as:List qal} (hcx:qg9 P o = some (.call f as)):∃ c g,o.op = .call c/\c.callee = .value g/\f = co g/\as = c.args.toList.map co:=by
 rcases qdn hcx with ⟨x,hx,-⟩ | hc
 ·cases hx
 rcases qnu hc rfl with ⟨t,x,ho,h⟩ | ⟨t,z,ho,hz,h⟩ | ⟨t,e,len,ps,l,z,ty,ho,hu,ht,hz,hn,hn0,hl,h⟩ | ⟨t,e,x,y',z,ty,ho,hu,ht,hz,hn0,h⟩ | ⟨c,f,ho,hcal,h⟩ | ⟨t,x,y',ty,ho,ht,h⟩ | ⟨c,t,t2,e,e2,x,y',z,ty,ho,hcal,ha,hat,hu,hu2,ht,hz,hn0,h⟩
 all_goals first
  | (cases h; done)
  | (cases h; exact ⟨c,f,ho,hcal,rfl,rfl⟩)
theorem qc1 {io:IOp} {f:qal} {as:List qal} (h:qcr io = some (f,as)):io = .call f as:=by
 cases io <;> simp only [qcr,reduceCtorEq] at h;simp only [Option.some.injEq,Prod.mk.injEq] at h;rw [h.1,h.2]
theorem qiw {F:FF} {f:qal} {as:List qal} {q:FuncId × List V} (h:qkq gl F f as = some q):∃ fst cap vs,evF gl F f = some (.fn q.1 fst cap)/\qtu gl F as = some vs/\q.2 = fst ++ vs ++ cap:=by
 unfold qkq at h;split at h
 ·rename_i g fst cap vs h1 h2;cases h;exact ⟨fst,cap,vs,h1,h2,rfl⟩
 ·cases h
theorem qss (hs:Sim G M h w) {H:HH} {S:List Nat} {q:FuncId × List V} (hq:jir (qrp · S) q.2 = true) (hcl:qt8 H S = true) (hH:∀ b,b ∈ S->lk h b = H b) {c:Nat} {v:V} {H':HH} {c':Nat}
  (hi:qq2 P gl q.1 q.2 (lk (qsn H S)) c v H' c') (hkeep:q0n H H' S = true) (hgl:qdy G gl) (hid:∀ b,c≤b/\b < c'->qaa M b = 0)
  (rargs:Array Value) (hsz:rargs.size = q.2.length) (hrel:∀ i,i < q.2.length->qak G M (q.2.getD i .undef) (rargs.getD i undef)) :
  Calls P q.1 rargs w fun e w'=>∃ rv,e = .returned rv/\∃ G' M',qak G' M' v rv/\Sim G' M' ((qgw H H' S ++ qgw H H' (jbh c (c' - c))) ++ h) w'/\Ext G M w G' M' w'/\∀ b,¬ (c≤b/\b < c')->qaa M b = 0->qaa M' b = 0:=by
 obtain ⟨-,hcc,hi⟩:=hi
 let Sb:Nat->Bool:=fun b=>qrp b S
 have hsub:∀ b mb,qar.cut Sb M b = some mb->M b = some mb/\Sb b = true:=fun b mb hb=>by
  cases hS:Sb b with
  | true=>rw [jij hS] at hb; exact ⟨hb,rfl⟩
  | false=>rw [jjh hS] at hb; cases hb
 have hsim:Sim G (qar.cut Sb M) (qsn H S) w:=by
  refine ⟨hs.gw,fun b k hb=>?_,fun b b' mb mb' rb h1 h2=>hs.inj b b' mb mb' rb (hsub _ _ h1).1 (hsub _ _ h2).1,fun b mb rb h1=>hs.mlt b mb rb (hsub _ _ h1).1⟩;obtain ⟨h1,h2⟩:=qp1.1 hb;refine (hs.hb b k (by rw [hH b h1]; exact h2)).cut Sb (qjd.2 h1) ?_;have:=List.all_eq_true.1 hcl b h1;rw [h2] at this; exact this
 have hfr:∀ b,c≤b->b < c'->qaa (qar.cut Sb M) b = 0:=fun b h1 h2=>qgf (by
  have:=qc3 (hid b ⟨h1,h2⟩);unfold qar.cut;cases Sb b <;> simp [this])
 refine Calls.mono (hi G (qar.cut Sb M) w rargs (qsn H S) rfl hsim hgl hsz (fun i hi'=>(hrel i hi').cut Sb (jiq hq i)) hfr) ?_;rintro e w' ⟨rv,rfl,hl',G',MS,e1,e2,e3,e4,e5⟩;refine ⟨rv,rfl,G',fun b=>match MS b with | some mb=>some mb | none=>M b,?_⟩;have hM':∀ b mb,MS b = some mb->(match MS b with | some mb=>some mb | none=>M b) = MS b:=fun b mb hb=>by rw [hb]
 have hout:∀ b,Sb b = false->¬ (c≤b/\b < c')->MS b = none:=fun b hb hnb=>qc3 (e5 b hnb (qgf (jjh hb)));have hnr:∀ b mb,M b = some mb->¬ (c≤b/\b < c'):=fun b mb hb hc=>by rw [qc3 (hid b hc)] at hb; cases hb
 have hin:∀ b mb,M b = some mb->Sb b = true->∃ mb',MS b = some mb'/\mb.gen≤mb'.gen/\(mb'.gen = mb.gen->mb' = mb):=fun b mb hb hS=>e4.m b mb (by rw [jij hS]; exact hb);have hle1:MS.le (fun b=>match MS b with | some mb=>some mb | none=>M b):=fun b mb hb=>⟨mb,by simp only [hb],jki _,fun _=>rfl⟩
 have hle:M.le (fun b=>match MS b with | some mb=>some mb | none=>M b):=fun b mb hb=>by
  cases hS:Sb b with
  | true=>
   obtain ⟨mb',q1,q2,q3⟩:=hin b mb hb hS;exact ⟨mb',by simp only [q1],q2,q3⟩
  | false=>exact ⟨mb,by simp only [hout b hS (hnr b mb hb)]; exact hb,jki _,fun _=>rfl⟩
 have hown:∀ b mb rb,M b = some mb->mb.real = some rb->qf0 (qar.cut Sb M) rb->Sb b = true:=by
  rintro b mb rb h1 h2 ⟨b3,mb3,h3,h4⟩;obtain ⟨h5,h6⟩:=hsub _ _ h3;have:=hs.inj b b3 mb mb3 rb h1 h5 h2 h4;rw [this]; exact h6
 have hsome:∀ b mb,MS b = none->M b = some mb->Sb b = false:=fun b mb h1 h2=>by
  cases hS:Sb b with
  | false=>rfl
  | true=>
   obtain ⟨mb',q1,-⟩:=hin b mb h2 hS;rw [h1] at q1; cases q1
 refine ⟨e2.mono G'.le_refl hle1,⟨e3.gw,fun b k hb=>?_,fun b b' mb mb' rb h1 h2 h3 h4=>?_,fun b mb rb h1 h2=>?_⟩,⟨e4.g,fun k c0 hk=>?_,hle,fun k hk=>?_,e4.os,e4.tape,e4.output,e4.size,fun k h1 h2=>?_⟩,fun b hnb h0=>?_⟩
 ·rw [qcd] at hb
  have known:∀ k,H' b = some k->qb7 G' (fun b=>match MS b with | some mb=>some mb | none=>M b) w' b k:=fun k hk=>by
   have hbr:=e3.hb b k (by rw [e1]; exact hk)
   have hms:∃ mb,MS b = some mb:=by
    cases k with
    | row g sz es=>obtain ⟨mb,h1,-⟩:=hbr; exact ⟨mb,h1⟩
    | map g es=>obtain ⟨mb,rb,h1,-⟩:=hbr; exact ⟨mb,h1⟩
    | siter g s pos=>obtain ⟨mb,rb,h1,-⟩:=hbr; exact ⟨mb,h1⟩
    | loop=>obtain ⟨mb,rb,h1,-⟩:=hbr; exact ⟨mb,h1⟩
    | miter=>obtain ⟨mb,rb,h1,-⟩:=hbr; exact ⟨mb,h1⟩
    | dead=>obtain ⟨mb,h1,-⟩:=hbr; exact ⟨mb,h1⟩
   obtain ⟨mb,hmb⟩:=hms;exact hbr.mono G'.le_refl hle1 (hM' b mb hmb) (fun _ _ _ _=>rfl)
  unfold ov at hb;split at hb
  ·rename_i k' hk';cases hb;rw [qcd] at hk';unfold ov at hk';split at hk'
   ·rename_i k2 hk2;cases hk';exact known _ (qgc hk2)
   ·exact known _ (qgc hk')
  ·rename_i hn;rw [qcd] at hn;unfold ov at hn;split at hn
   ·cases hn
   ·rename_i hn1;by_cases hbS:b ∈ S
    ·have hHb:H b = some k:=by rw [<- hH b hbS]; exact hb
     have hk2:=List.all_eq_true.1 hkeep b hbS;rw [hHb] at hk2
     cases hk3:H' b with
     | none=>rw [hk3] at hk2; cases hk2
     | some k'=>
      have:=qct hn1 hbS hHb hk3;subst this;exact known _ hk3
    ·have hbr:=hs.hb b k hb
     have hSb:Sb b = false:=by
      cases hS:Sb b with
      | false=>rfl
      | true=>exact absurd (qjd.1 hS) hbS
     have hm:∃ mb,M b = some mb:=by
      cases k with
      | row g sz es=>obtain ⟨mb,h1,-⟩:=hbr; exact ⟨mb,h1⟩
      | map g es=>obtain ⟨mb,rb,h1,-⟩:=hbr; exact ⟨mb,h1⟩
      | siter g s pos=>obtain ⟨mb,rb,h1,-⟩:=hbr; exact ⟨mb,h1⟩
      | loop=>obtain ⟨mb,rb,h1,-⟩:=hbr; exact ⟨mb,h1⟩
      | miter=>obtain ⟨mb,rb,h1,-⟩:=hbr; exact ⟨mb,h1⟩
      | dead=>obtain ⟨mb,h1,-⟩:=hbr; exact ⟨mb,h1⟩
     obtain ⟨mb,hmb⟩:=hm;refine hbr.mono e4.g hle (by simp only [hout b hSb (hnr b mb hmb)]) fun mb2 rb h1 h2=>?_;refine e4.keep rb (hs.mlt b mb2 rb h1 h2).1 fun ho=>?_;rw [hown b mb2 rb h1 h2 ho] at hSb; cases hSb
 ·cases m1:MS b with
  | some x=>
   simp only [m1] at h1; cases h1
   cases m2:MS b' with
   | some x2=>simp only [m2] at h2; cases h2; exact e3.inj b b' _ _ rb m1 m2 h3 h4
   | none=>
    simp only [m2] at h2;have hlt:=(hs.mlt b' mb' rb h2 h4).1;rcases e4.mnew rb ⟨b,mb,m1,h3⟩ with q | q
    ·omega
    ·have:=hown b' mb' rb h2 h4 q;rw [hsome b' mb' m2 h2] at this; cases this
  | none=>
   simp only [m1] at h1
   cases m2:MS b' with
   | some x2=>
    simp only [m2] at h2; cases h2;have hlt:=(hs.mlt b mb rb h1 h3).1;rcases e4.mnew rb ⟨b',mb',m2,h4⟩ with q | q
    ·omega
    ·have:=hown b mb rb h1 h3 q;rw [hsome b mb m1 h1] at this; cases this
   | none=>simp only [m2] at h2; exact hs.inj b b' _ _ rb h1 h2 h3 h4
 ·cases m1:MS b with
  | some x=>simp only [m1] at h1; cases h1; exact e3.mlt b mb rb m1 h2
  | none=>
   simp only [m1] at h1;obtain ⟨q1,q2⟩:=hs.mlt b mb rb h1 h2;refine ⟨Nat.lt_of_lt_of_le q1 e4.size,?_⟩
   cases hg:G' rb with
   | none=>rfl
   | some c0=>
    rcases e4.gnew rb c0 hg with q | q | q
    ·rw [q2] at q; cases q
    ·omega
    ·have:=hown b mb rb h1 h2 q;rw [hsome b mb m1 h1] at this; cases this
 ·rcases e4.gnew k c0 hk with q | q | ⟨b,mb,q1,q2⟩
  ·exact .inl q
  ·exact .inr (.inl q)
  ·exact .inr (.inr ⟨b,mb,(hsub _ _ q1).1,q2⟩)
 ·obtain ⟨b,mb,q1,q2⟩:=hk
  cases m1:MS b with
  | some x=>
   simp only [m1] at q1; cases q1;rcases e4.mnew k ⟨b,mb,m1,q2⟩ with q | ⟨b2,mb2,q3,q4⟩
   ·exact .inl q
   ·exact .inr ⟨b2,mb2,(hsub _ _ q3).1,q4⟩
  | none=>simp only [m1] at q1; exact .inr ⟨b,mb,q1,q2⟩
 ·refine e4.keep k h1 fun ⟨b,mb,q1,q2⟩=>h2 ⟨b,mb,(hsub _ _ q1).1,q2⟩
 ·have hMb:=qc3 h0
  have:MS b = none:=qc3 (e5 b hnb (qgf (by
   unfold qar.cut;cases Sb b <;> simp [hMb])))
  exact qgf (by simp only [this,hMb])
end
end
section
open Go
section
variable {P:Program} {gl:Fr} {bs:BS} {n:Nat} {fr:Fr} {h:Hp} {G:qaz} {M:qar} {a:Act} {w:World}
theorem qci (w:World) (o:Obj) {k:Nat} (hk:k < w.heap.size):(w.alloc o).heap[k]? = w.heap[k]?:=(MapKept.heap_alloc w o).2 k hk
theorem qcs (w:World) (o:Obj):(w.alloc o).heap.size = w.heap.size + 1:=by show (w.heap.push o).size = _; simp
theorem Sim.allocFree (hs:Sim G M h w) (o:Obj):Sim G M h (w.alloc o)/\Ext G M w G M (w.alloc o):=by
 constructor
 ·refine ⟨fun k c hk=>?_,fun b blk hb=>(hs.hb b blk hb).mono G.le_refl M.le_refl rfl fun mb rb h1 h2=>qci w o (hs.mlt b mb rb h1 h2).1,hs.inj,fun b mb rb h1 h2=>?_⟩
  ·obtain ⟨ty,fz,he⟩:=hs.gw k c hk;exact ⟨ty,fz,by rw [qci w o (Array.getElem?_eq_some_iff.1 he).1]; exact he⟩
  ·obtain ⟨q1,q2⟩:=hs.mlt b mb rb h1 h2;exact ⟨by rw [qcs]; omega,q2⟩
 ·exact ⟨G.le_refl,fun _ _ q=>.inl q,M.le_refl,fun _ q=>.inr q,rfl,rfl,rfl,by rw [qcs]; omega,fun k hk _=>qci w o hk⟩
theorem Sim.turn (hs:Sim G M h w) {b l:Nat} {mb:MB} (hM:M b = some mb) (hl:mb.real = some l) (o:Obj) {k':Blk} (hbk:qb7 G M (w.putObj l o) b k'):Sim G M ((b,k') :: h) (w.putObj l o)/\Ext G M w G M (w.putObj l o):=by
 constructor
 ·refine ⟨fun k c hk=>?_,fun b2 blk hb=>?_,hs.inj,fun b2 mb2 rb h1 h2=>?_⟩
  ·obtain ⟨ty,fz,he⟩:=hs.gw k c hk;refine ⟨ty,fz,?_⟩;rw [qdc fun e=>?_]
   ·exact he
   ·subst e; have:=(hs.mlt b mb k hM hl).2; rw [hk] at this; cases this
  ·by_cases e:b2 = b
   ·subst e; simp [lk] at hb; subst hb; exact hbk
   ·simp only [lk,if_neg e] at hb;exact (hs.hb b2 blk hb).mono G.le_refl M.le_refl rfl fun mb2 rb h1 h2=>qdc fun e2=>e (hs.inj b2 b mb2 mb l h1 hM (by rw [h2,e2]) hl)
  ·rw [World.putObj_size]; exact hs.mlt b2 mb2 rb h1 h2
 ·exact ⟨G.le_refl,fun _ _ q=>.inl q,M.le_refl,fun _ q=>.inr q,rfl,rfl,rfl,by rw [World.putObj_size]; exact jki _,fun k hk hn=>qdc fun e=>hn ⟨b,mb,hM,by rw [e]; exact hl⟩⟩
theorem qmt {b g l m:Nat} {mb:MB} {frl:Fr} {ps:List Nat} {asg body:Code} {busy:Bool} {G1:qaz} {M1:qar} {h1:Hp} {w1:World} (hM:M b = some mb) (hg:mb.gen = g) (hl:mb.real = some l) (hx:M.le M1) (hs:Sim G1 M1 h1 w1) (hb:lk h1 b = some (.loop g m frl ps asg body busy)) :
  ∃ r:Loop,M1 b = some mb/\mb.sz = 2/\w1.heap[l]? = some (.loop r)/\r.state = (bif busy then .busy else .ready)/\r.pending = none/\r.params.toList = ps/\r.assign = asg/\r.body = body/\r.tmps.size = m/\∀ t v,lk frl t = some v->qak G1 M1 v (r.tmps.getD t undef):=by
 obtain ⟨mb1,rb1,q1,q2,q3,q4,r,r1,r2⟩:=hs.hb b _ hb;obtain ⟨mb2,e1,e2,e3⟩:=hx b mb hM;rw [q1] at e1; cases e1;have:mb1 = mb:=e3 (by omega);subst this;rw [hl] at q3; cases q3;exact ⟨r,q1,q4,r1,r2⟩
theorem qrh {tmps:Array Value} (hn:tmps.size = n):∀ {ps:List Nat} {vs:List V} {ra:List Value} {fr:Fr} {tm:Array Value},tm.size = n->ps.length = vs.length->ra.length = vs.length->(∀ t ∈ ps,t < n)->(∀ i,i < vs.length->qak G M (vs.getD i .undef) (ra.getD i undef))->
  (∀ t v,lk fr t = some v->qak G M v (tm.getD t undef))->
  ((ps.zip ra).foldl (fun tmps (p:Tmp × Value)=>tmps.setIfInBounds p.1 p.2) tm).size = n/\∀ t v,lk (qqh fr ps vs) t = some v->qak G M v (((ps.zip ra).foldl (fun tmps (p:Tmp × Value)=>tmps.setIfInBounds p.1 p.2) tm).getD t undef)
 | [],vs,ra,fr,tm,hs,h1,h2,hp,hr,hf=>by
  have:vs = []:=by cases vs <;> simp_all
  subst this;exact ⟨hs,hf⟩
 | p :: ps,[],ra,fr,tm,hs,h1,h2,hp,hr,hf=>by simp at h1
 | p :: ps,v :: vs,[],fr,tm,hs,h1,h2,hp,hr,hf=>by simp at h2
 | p :: ps,v :: vs,x :: ra,fr,tm,hs,h1,h2,hp,hr,hf=>by
  simp only [List.zip_cons_cons,List.foldl_cons,qqh];refine qrh hn (by simpa using hs) (by simpa using h1) (by simpa using h2) (fun t ht=>hp t (List.mem_cons_of_mem _ ht)) (fun i hi=>?_) fun t u ht=>?_
  ·have:=hr (i + 1) (by simpa using hi);simpa using this
  ·have hpn:p < tm.size:=by rw [hs]; exact hp p List.mem_cons_self
   simp only [lk] at ht;split at ht
   ·rename_i he;cases ht; subst he;have h0:=hr 0 (by simp);have e:(tm.setIfInBounds t x).getD t undef = x:=by simp [jke,hpn]
    rw [e]; simpa using h0
   ·rename_i he
    have e:(tm.setIfInBounds p x).getD t undef = tm.getD t undef:=by
     simp only [jke];rw [Array.getElem?_setIfInBounds_ne (by omega)]
    rw [e]; exact hf t u ht
theorem ql1 {rd:Option Nat} {b g m:Nat} {frl:Fr} {ps:List Nat} {asg body:Code} {KK:qaz->qar->Hp->Prop} (hs:Sim G M h w) (hgl:qdy G gl) (hlk:lk h b = some (.loop g m frl ps asg body false)) {vs:List V} {r0:Value} (hr0:qak G M (.own b g) r0) {ra:Array Value}
  (h1:ra.size = vs.length) (h2:∀ i,i < vs.length->qak G M (vs.getD i .undef) (ra.getD i undef)) (hlen:ps.length = vs.length) (hps:∀ t ∈ ps,t < m)
  (hw:∀ (l:Nat) (a:Act),R w.heap.size m gl G M (qqh frl ps vs) h a w->asg.wpIn (FW (some l)) 0 P (fun e a1 w1=>e = .normal/\∃ G1 M1 fr1 hp1 m2 fr2 ps2 as2 bd2,R w.heap.size m gl G1 M1 fr1 hp1 a1 w1/\Ext G M w G1 M1 w1/\lk hp1 b = some (.loop g m2 fr2 ps2 as2 bd2 false)/\
   ∀ w2,R w.heap.size m gl G1 M1 fr1 ((b,.loop g m2 fr2 ps2 as2 bd2 true) :: hp1) a1 w2->Ext G M w G1 M1 w2->body.wpIn (FW (some l)) 0 P (fun e _ w3=>e = .normal/\∃ G2 M2 hp2 m3 fr3 ps3 as3 bd3,Sim G2 M2 hp2 w3/\Ext G M w G2 M2 w3/\lk hp2 b = some (.loop g m3 fr3 ps3 as3 bd3 true)/\KK G2 M2 ((b,.loop g m3 fr3 ps3 as3 bd3 false) :: hp2)) a1 w2) a w) :
  ∃ l fn tmps asg body,r0 = .func (.yield l) #[] #[]/\(Instr.yield l ra).run P w = .ok (.round l fn tmps asg body) w/\
   RoundIn (FW rd) 0 P l fn tmps asg body w fun e w'=>e = .returned (.bool true)/\∃ G' M' h',KK G' M' h'/\Sim G' M' h' w'/\Ext G M w G' M' w':=by
 obtain ⟨mb,l,m1,m2,m3,m4,m5,-⟩:=qy8 hs hr0 hlk;obtain ⟨r,q1,q2,q3,q4,q5,q6,q7,q8,q9,q10⟩:=qmt m1 m2 m3 M.le_refl hs hlk
 have hsz:ra.size = r.params.size:=by
  have:r.params.toList.length = ra.toList.length:=by rw [q6,hlen]; simp [h1]
  simpa using this.symm
 refine ⟨l,_,_,_,_,m5,run_yield q3 hsz,?_⟩
 have hfold:(r.params.zip ra).foldl (fun tmps (t,a)=>tmps.setIfInBounds t a) r.tmps = (ps.zip ra.toList).foldl (fun tmps (p:Tmp × Value)=>tmps.setIfInBounds p.1 p.2) r.tmps:=by
  rw [<- Array.foldl_toList,Array.toList_zip,q6]
 obtain ⟨f1,f2⟩:=qrh (G:=G) (M:=M) (n:=m) q9 (ps:=ps) (vs:=vs) (ra:=ra.toList) (fr:=frl) (tm:=r.tmps) q9 hlen (by simp [h1]) hps (fun i hi=>by
  have:=h2 i hi;rw [jke] at this;simpa [jkd] using this) q10
 rw [<- hfold] at f1 f2;refine roundIn_of_wpIn trivial ?_;show (r.assign).wpIn (FW (some l)) 0 P _ _ w;rw [q7];have hw:=hw l ⟨_,[]⟩ ⟨hs,f2,f1,.nil _ _ _,hgl,jki _⟩;refine wpIn_mono hw ?_;rintro e a1 w1 ⟨rfl,G1,M1,fr1,hp1,mm,frm,psm,asm,bdm,hr1,hx1,k1,k2⟩;obtain ⟨r',p1,p2,p3,p4,p5,p6,p7,p8,p9,p10⟩:=qmt m1 m2 m3 hx1.m hr1.sim k1;have hl1:l < w1.heap.size:=(Array.getElem?_eq_some_iff.1 p3).1;refine ⟨_,run_beginRound p3 p4,?_⟩;obtain ⟨s1,x1⟩:=hr1.sim.turn p1 m3 (.loop { r' with state:=.busy }) (k':=.loop g mm frm psm asm bdm true) ⟨mb,l,p1,m2,m3,p2,_,World.putObj_heap_same hl1,rfl,p5,p6,p7,p8,p9,p10⟩;rw [q8];show body.wpIn (FW (some l)) 0 P _ _ _;refine wpIn_mono (k2 _ ⟨s1,hr1.frr,hr1.sz,hr1.df.ext x1,hr1.gl,Nat.le_trans hr1.bs x1.size⟩ (hx1.trans x1)) ?_;rintro e a2 w2 ⟨rfl,G3,M3,hp3,mn,frn,psn,asn,bdn,sim3,hx,j1,j3⟩;obtain ⟨r'',t1,t2,t3,t4,t5,t6,t7,t8,t9,t10⟩:=qmt m1 m2 m3 hx.m sim3 j1;have hl2:l < w2.heap.size:=(Array.getElem?_eq_some_iff.1 t3).1;obtain ⟨s2,x2⟩:=sim3.turn t1 m3 (.loop { r'' with state:=.ready,pending:=none }) (k':=.loop g mn frn psn asn bdn false) ⟨mb,l,t1,m2,m3,t2,_,World.putObj_heap_same hl2,rfl,rfl,t6,t7,t8,t9,t10⟩;exact ⟨.bool true,_,run_endRound none t3,rfl,G3,M3,_,j3,s2,hx.trans x2⟩
theorem q8x {rd:Option Nat} (hr:R bs n gl G M fr h a w) {o:Oper} {c:Call} {f:Operand} {Q:Exit->Act->World->Prop} (ho:o.op = .call c) (hc:c.callee = .value f) {b g:Nat} {vs:List V}
  (hf:ev gl fr (co f) = some (.own b g)) (hvs:evs gl fr (c.args.toList.map co) = some vs) {Post:Value->World->Prop}
  (hy:∀ (r0:Value) (ra:Array Value),qak G M (.own b g) r0->ra.size = vs.length->(∀ i,i < vs.length->qak G M (vs.getD i .undef) (ra.getD i undef))->∃ l fn tmps asg body,r0 = .func (.yield l) #[] #[]/\(Instr.yield l ra).run P w = .ok (.round l fn tmps asg body) w/\
   RoundIn (FW rd) 0 P l fn tmps asg body w fun e w'=>∃ rv,e = .returned rv/\Post rv w') :
  o.wpIn (FW rd) 0 P a w (fun a' w'=>∃ rv,a' = a.put o.dst rv/\Post rv w') Q:=by
 obtain ⟨v1,v2⟩:=qlh hr hvs
 obtain ⟨l,fn,tmps,asg,body,e1,e2,e3⟩:=hy _ (c.args.map a.eval) (qat hr hf) (by simp [v1]) (fun i hi=>by
  have:=v2 i hi;rw [<- qcb] at this;simpa only [jke,jkd] using this)
 have hs:Oper.semAt (FW rd).round a.eval o = execOp a.eval o:=Oper.semAt_eq _ _ _ fun c' hc'=>by rw [ho] at hc'; cases hc'
 have hrun:(execOp a.eval o).run P w = .ok (.round l fn tmps asg body) w:=by
  simp [execOp,ho,resolve,hc,e1,Deferred.ofValue,invoke];exact e2
 refine ⟨fun _ _=>trivial,?_⟩;rw [hs,hrun,Oper.uponIn_round];refine ⟨(fun h=>nomatch h),RoundIn.mono e3 ?_⟩;rintro e w' ⟨rv,rfl,q⟩;exact ⟨rv,rfl,q⟩
theorem qrz {f:Operand} {ps:Array Tmp} {asg body:Code} {fid:FuncId} {fst cap:List V} {KK:qaz->qar->Hp->Prop} (hr:R bs n gl G M fr h a w) (b:Nat) (frs:Fr) (hfrs:∀ t v,lk frs t = some v->lk fr t = some v) (hf:ev gl fr (co f) = some (.fn fid fst cap)) (hcal:qbt P fid = true)
  (hcalls:∀ mb w1 (rargs:Array Value),mb = ⟨qaa M b,2,0,0,some (w.heap.size + 1)⟩->Sim G (upd M b mb) ((b,.loop (qaa M b) n frs ps.toList asg body false) :: h) w1->qdy G gl->rargs.size = (fst ++ [V.own b (qaa M b)] ++ cap).length->(∀ i,i < (fst ++ [V.own b (qaa M b)] ++ cap).length->qak G (upd M b mb) ((fst ++ [V.own b (qaa M b)] ++ cap).getD i .undef) (rargs.getD i undef))->
   Calls P fid rargs w1 fun e w'=>∃ rv G' M' h' m frl psl asl bdl,e = .returned rv/\lk h' b = some (.loop (qaa M b) m frl psl asl bdl false)/\KK G' M' ((b,.dead (qaa M b)) :: h')/\Sim G' M' h' w'/\Ext G (upd M b mb) w1 G' M' w') :
  (Code.rangeFunc f ps asg body).wpIn (FW none) 0 P (fun e a' w'=>e = .normal/\∃ G' M' h',KK G' M' h'/\R bs n gl G' M' fr h' a' w'/\Ext G M w G' M' w') a w:=by
 refine wpIn_rangeFunc fun fn _=>?_;have rf:=qat hr hf;generalize hev:a.eval f = rv0 at rf
 cases rf with
 | fn _ _ _ rfst rcap s1 s2 s3 s4=>
 let o1:Obj:=.deferred (some [])
 let rec0:Loop:={ state:=.ready,pending:=none,fn,tmps:=a.tmps,params:=ps,assign:=asg,body,defers:=w.heap.size }
 let w1:World:=(w.alloc o1).alloc (.loop rec0)
 obtain ⟨sA,xA⟩:=hr.sim.allocFree o1;have hsz1:(w.alloc o1).heap.size = w.heap.size + 1:=qcs w o1;have hsz2:w1.heap.size = (w.alloc o1).heap.size + 1:=qcs _ _
 let mb:MB:=⟨qaa M b,2,0,0,some (w.alloc o1).heap.size⟩
 have hgm:∀ mb0,M b = some mb0->mb0.gen < mb.gen∨mb = mb0:=fun mb0 h0=>.inl (by simp [mb,qaa,h0]);have hle:M.le (upd M b mb):=jip hgm;have hfrr:∀ t v,lk frs t = some v->qak G (upd M b mb) v (a.tmps.getD t undef):=fun t v ht=>(hr.frr t v (hfrs t v ht)).mono G.le_refl hle
 obtain ⟨sB,xB⟩:=sA.change (w':=w1) b mb (.loop (qaa M b) n frs ps.toList asg body false) hgm (fun rb hrb=>by
   cases hrb;exact .inl ⟨jki _,by rw [hsz2]; omega⟩) (by rw [hsz2]; omega) (fun q hq _=>qci _ _ hq) (fun _ _ _ _=>trivial) rfl rfl rfl
  ⟨mb,_,qaw _ _ _,rfl,rfl,rfl,rec0,World.alloc_heap_new _ _,rfl,rfl,rfl,rfl,rfl,hr.sz,hfrr⟩
 have x01:Ext G M w G (upd M b mb) w1:=xA.trans xB
 have hD1:w1.heap[w.heap.size]? = some o1:=by
  show ((w.alloc o1).alloc _).heap[w.heap.size]? = _;rw [qci _ _ (by rw [hsz1]; omega)];exact World.alloc_heap_new w o1
 have hnD:¬ qf0 (upd M b mb) w.heap.size:=fun ho=>by
  rcases xB.mnew _ ho with h1 | ⟨b2,mb2,h1,h2⟩
  ·rw [hsz1] at h1; omega
  ·have:=(hr.sim.mlt b2 mb2 _ h1 h2).1; omega
 unfold qbt at hcal;split at hcal
 ·rename_i fnn hfn;simp only [Bool.and_eq_true,bne_iff_ne,ne_eq,Option.isSome_iff_exists] at hcal;obtain ⟨hname,cb,hbody⟩:=hcal;have hyl:qak G (upd M b mb) (.own b (qaa M b)) (.func (.yield (w.alloc o1).heap.size) #[] #[]):=.own _ _ _ mb (qaw _ _ _) (jki _) rfl fun _=>⟨_,rfl,rfl⟩;refine ⟨w.heap.size + 1,[{ target:=.collected w.heap.size,args:=#[] }],w1,{ target:=.fn (.func fid) rcap,args:=rfst ++ #[.func (.yield (w.heap.size + 1)) #[] #[]] },w1,fid,rfst ++ #[.func (.yield (w.heap.size + 1)) #[] #[]] ++ rcap,w1,?_,?_,(fun _ _=>trivial),?_,(fun h=>nomatch h),qeo.2 (Calls.mono (hcalls mb w1 _ (by show _ = MB.mk _ _ _ _ _; rw [<- hsz1]) sB (hr.gl.mono G.le_refl) (by simp [s1,s2]; omega) fun i hi=>?_) ?_)⟩
  ·exact run_enterLoop_outer fn a.tmps ps asg body
  ·simp [resolve,hev,Deferred.ofValue]; rfl
  ·simp [invoke,callFunc,hfn,hname,hbody]
  ·simp only [List.length_append,List.length_cons,List.length_nil] at hi;simp only [jke,jkd,Array.getElem?_append,List.getElem?_append,Array.size_append,List.length_append,s1,List.length_cons,List.length_nil,List.size_toArray];by_cases c1:i < fst.length + (0 + 1)
   ·rw [if_pos c1,if_pos c1];by_cases c2:i < fst.length
    ·rw [if_pos c2,if_pos c2];have:=s3 i c2;simpa [jke,jkd] using this.mono G.le_refl hle
    ·rw [if_neg c2,if_neg c2];obtain rfl:i = fst.length:=by omega
     rw [Nat.sub_self];show qak G (upd M b mb) (.own b (qaa M b)) (.func (.yield (w.heap.size + 1)) #[] #[]);rw [<- hsz1]; exact hyl
   ·rw [if_neg c1,if_neg c1];have:=s4 (i - (fst.length + (0 + 1))) (by omega);simpa only [jke,jkd] using this.mono G.le_refl hle
  ·rintro e w' ⟨rv,G',M',h',m,frl,psl,asl,bdl,rfl,k1,k2,q3,q4⟩;obtain ⟨r,t1,t2,t3,t4,t5,-⟩:=qmt (qaw M b mb) rfl rfl q4.m q3 k1;rw [hsz1] at t3;obtain ⟨st,pe,fn',tm',pa',as',bd',df'⟩:=r;obtain rfl:pe = none:=t5;have hend:=run_endLoop (P:=P) t3 (by rw [t4]; simp);have hreal:mb.real = some (w.heap.size + 1):=by show some _ = some _; rw [hsz1]
   obtain ⟨sC,xC⟩:=q3.turn t1 hreal (.loop ⟨.exhausted,none,fn',tm',pa',as',bd',df'⟩) (k':=.dead (qaa M b)) ⟨mb,t1,rfl⟩;have hx:Ext G M w G' M' _:=(x01.trans q4).trans xC;obtain ⟨dl,dl0,dl1,dl2⟩:=hr.df;refine ⟨none,_,hend,rfl,G',M',_,k2,⟨sC,fun t v ht=>(hr.frr t v ht).mono hx.g hx.m,hr.sz,⟨_ :: dl,(congrArg (List.cons _) dl0:_),⟨⟨w.heap.size,rfl,hr.bs,?_,?_,?_⟩,dl1.ext hx⟩,dl2⟩,hr.gl.mono hx.g,Nat.le_trans hr.bs hx.size⟩,hx⟩
   ·rw [qdc (by omega),q4.keep _ (by rw [hsz2,hsz1]; omega) hnD]; exact hD1
   ·intro ho;rcases q4.mnew _ ho with h1 | h1
    ·rw [hsz2,hsz1] at h1; omega
    ·exact hnD h1
   ·intro hc
    have:∀ {l:List Deferred},qiy bs.n M w l->{ target:=.collected w.heap.size,args:=#[] } ∉ l:=by
     intro l
     induction l with
     | nil=>exact fun _ h=>by cases h
     | cons d l ih=>
      rintro ⟨⟨k,e1,-,e3,-⟩,e6⟩ hm;rcases List.mem_cons.1 hm with e | e
      ·rw [e1] at e;injection e with e _;injection e with e;have:=(Array.getElem?_eq_some_iff.1 e3).1;omega
      ·exact ih e6 e
    exact this dl1 hc
 ·cases hcal
end
end
section
open Go
def XQ (bs:BS) (n:Nat) (gl:Fr) (S:ES) (e:qb3) (S':ES) (G:qaz) (M:qar) (w:World):Exit->Act->World->Prop:=fun ex a' w'=>
 ex = e.out/\∃ G' M' fr' hl',lk fr' = S'.fr.get/\lk hl' = S'.h.get/\R bs n gl G' M' fr' hl' a' w'/\Ext G M w G' M' w'/\∀ b,¬ (S.c≤b/\b < S'.c)->qaa M b = 0->qaa M' b = 0
def qz4 (ok:Bool) (wpf:Option Nat->(Exit->Act->World->Prop)->Act->World->Prop) (n:Nat) (gl:Fr) (S:ES) (e:qb3) (S':ES):Prop:=
 S.c≤S'.c/\∀ rd bs,(rd.isSome = true->ok = true)->∀ G M a w fr hl,lk fr = S.fr.get->lk hl = S.h.get->R bs n gl G M fr hl a w->(∀ b,S.c≤b->b < S'.c->qaa M b = 0)->wpf rd (XQ bs n gl S e S' G M w) a w
theorem XQ.noOut {bs:BS} {n:Nat} {gl:Fr} {S S':ES} {e:qb3} {G:qaz} {M:qar} {w:World}:¬ LetsOut (XQ bs n gl S e S' G M w):=by
 rintro ⟨a,w',h,_⟩;cases e <;> cases h
theorem XQ.trans {bs:BS} {n:Nat} {gl:Fr} {S S1 S':ES} {e:qb3} {G G1:qaz} {M M1:qar} {w w1:World} (hc1:S.c≤S1.c) (hc2:S1.c≤S'.c) (hx:Ext G M w G1 M1 w1) (hf:∀ b,¬ (S.c≤b/\b < S1.c)->qaa M b = 0->qaa M1 b = 0)
  {ex:Exit} {a:Act} {w2:World} (h:XQ bs n gl S1 e S' G1 M1 w1 ex a w2):XQ bs n gl S e S' G M w ex a w2:=by
 obtain ⟨h1,G',M',fr',hl',h2,h3,h4,h5,h6⟩:=h;exact ⟨h1,G',M',fr',hl',h2,h3,h4,hx.trans h5,fun b hb h0=>h6 b (fun hc=>hb ⟨by omega,hc.2⟩) (hf b (fun hc=>hb ⟨hc.1,by omega⟩) h0)⟩
section
variable {P:Program} {gl:Fr} {bs:BS} {n:Nat} {rd:Option Nat} {ops:Array Oper} {cl:qix} {yl:q3t}
theorem qrc (io:IOp) (c:Nat):c≤qmd io c:=by
 unfold qmd; cases qah io <;> simp
theorem q88 (hcl:qij P gl cl) (hyl:qxi P gl yl) (hops:∀ d,(∃ o,o ∈ ops.toList/\o.dst = some d)->d < n) {i:Nat} {o:Oper} (ho:ops[i]? = some o) (hd:rd.isSome = true->qe6 o.op = false) {x:qa4} (hx:qgm P n ops o = some x) {S:ES} (hg:xgd S.fr.get x.guard = some true)
  {y:V × T Blk × Nat} (he:xop cl yl gl x.op S = some y):S.c≤y.2.2/\∀ {fr:Fr} {hl:Hp} {G:qaz} {M:qar} {a:Act} {w:World} {Q:Exit->Act->World->Prop} {K':Act->World->Prop},lk fr = S.fr.get->lk hl = S.h.get->R bs n gl G M fr hl a w->(∀ b,S.c≤b->b < y.2.2->qaa M b = 0)->
   (∀ rv G' M' hl' w',lk hl' = y.2.1.get->R bs n gl G' M' (qk5 fr o.dst y.1) hl' (a.put o.dst rv) w'->Ext G M w G' M' w'->(∀ b,¬ (S.c≤b/\b < y.2.2)->qaa M b = 0->qaa M' b = 0)->K' (a.put o.dst rv) w')->wpOpIn (FW rd) 0 P ops Q i K' a w:=by
 obtain ⟨c1,c2,c3,c4⟩:=qbr hx;unfold xop at he
 cases hac:qcr x.op with
 | some fa=>
  obtain ⟨f,as⟩:=fa;rw [hac] at he;simp only [] at he;by_cases hown:∃ b g,evF gl S.fr.get f = some (.own b g)
  ·obtain ⟨b,gg,hv⟩:=hown;rw [hv] at he;simp only [jic] at he;obtain ⟨vs,q2,h2⟩:=qad he;obtain ⟨hcc,hrun⟩:=hyl b gg vs S.h S.c y.1 y.2.1 y.2.2 h2;refine ⟨hcc,fun {fr hl G M a w Q K'} hF hH hr hid hk=>?_⟩;unfold wpOpIn;simp only [ho];rw [qa6 hops hr c2 (F:=S.fr.get) (fun t _=>by rw [hF]) hg,if_pos rfl];have hio:=qc1 hac;rw [hio] at c1;obtain ⟨c,g,e1,e2,rfl,rfl⟩:=qep c1;rw [<- hF,qbh] at hv;rw [<- hF,qgy] at q2;refine Oper.wpIn_mono ?_ (q8x hr e1 e2 hv q2 (Post:=fun rv w'=>∃ hl' G' M',lk hl' = y.2.1.get/\qak G' M' y.1 rv/\Sim G' M' hl' w'/\Ext G M w G' M' w'/\∀ b,¬ (S.c≤b/\b < y.2.2)->qaa M b = 0->qaa M' b = 0) fun r0 ra k1 k2 k3=>hrun rd G M w hl r0 ra hH hr.sim hr.gl k1 k2 k3 hid);rintro a' w' ⟨rv,rfl,hl',G',M',k1,k2,k3,k4,k5⟩;exact hk rv G' M' hl' w' k1 (hr.put c4 k2 k3 k4) k4 k5
  have he:(eb (qkq gl S.fr.get f as) fun q=>cl q.1 q.2 S.h S.c) = some y:=by
   unfold jic at he;split at he
   ·rename_i b g hv; exact absurd ⟨b,g,hv⟩ hown
   ·exact he
  obtain ⟨q,h1,h2⟩:=qad he;have hi:=hcl q.1 q.2 S.h S.c y.1 y.2.1 y.2.2 h2;obtain ⟨hcal,hcc,hrun⟩:=hi;refine ⟨hcc,fun {fr hl G M a w Q K'} hF hH hr hid hk=>?_⟩;unfold wpOpIn;simp only [ho];rw [qa6 hops hr c2 (F:=S.fr.get) (fun t _=>by rw [hF]) hg,if_pos rfl];have hio:=qc1 hac;rw [hio] at c1;obtain ⟨c,g,e1,e2,rfl,rfl⟩:=qep c1;obtain ⟨fst,cap,vs,q1,q2,q3⟩:=qiw h1;rw [<- hF,qbh] at q1;rw [<- hF,qgy] at q2;refine jim hd (Oper.wp_mono ?_ (qmf hr e1 e2 q1 q2 hcal (Post:=fun rv w'=>∃ hl' G' M',lk hl' = y.2.1.get/\qak G' M' y.1 rv/\Sim G' M' hl' w'/\Ext G M w G' M' w'/\∀ b,¬ (S.c≤b/\b < y.2.2)->qaa M b = 0->qaa M' b = 0) fun rargs hsz hrel=>?_))
  ·rintro a' w' ⟨rv,rfl,hl',G',M',k1,k2,k3,k4,k5⟩;exact hk rv G' M' hl' w' k1 (hr.put c4 k2 k3 k4) k4 k5
  ·rw [<- q3] at hsz hrel;exact hrun G M w rargs hl hH hr.sim hr.gl hsz hrel hid
 | none=>
  rw [hac] at he;simp only [] at he
  cases hns:jah gl S.fr.get x.op with
  | true=>
   rw [hns,cond_true] at he;cases he;refine ⟨jki _,fun {fr hl G M a w Q K'} hF hH hr hid hk=>?_⟩;unfold wpOpIn;simp only [ho];rw [qa6 hops hr c2 (F:=S.fr.get) (fun t _=>by rw [hF]) hg,if_pos rfl];refine jim hd (Oper.wp_mono ?_ (qs1 (Q:=Q) hr c1 (by rw [hF]; exact hns)));rintro a' w' ⟨v,rv,q1,rfl,q3,rfl⟩;subst q1;exact hk rv G M hl w' hH (hr.put c4 q3 hr.sim (.refl _ _ _)) (.refl _ _ _) (fun _ _ h0=>h0)
  | false=>
  rw [hns,cond_false] at he;obtain ⟨z,h1,h2⟩:=qad he;obtain ⟨h',h3,h4⟩:=qad h2;cases h4;refine ⟨qrc _ _,fun {fr hl G M a w Q K'} hF hH hr hid hk=>?_⟩;unfold wpOpIn;simp only [ho];rw [qa6 hops hr c2 (F:=S.fr.get) (fun t _=>by rw [hF]) hg,if_pos rfl];rw [<- hF,<- hH] at h1
  cases hp:qah x.op with
  | true=>
   obtain ⟨e1,e2⟩:=qgh (Q:=Q) hr c1 hp h1;refine jim hd (Oper.wp_mono ?_ e2);rintro a' w' ⟨v,rv,q1,rfl,q3,rfl⟩;subst q1;refine hk rv G M hl w' ?_ (hr.put c4 q3 hr.sim (.refl _ _ _)) (.refl _ _ _) (fun _ _ h0=>h0);rw [qhr h3,e1,hH]; rfl
  | false=>
   have hb:qmd x.op S.c = S.c + 1:=by simp [qmd,hp]
   simp only [hb] at hid hk ⊢;have hc0:qaa M S.c = 0:=hid S.c (jki _) (by omega);have he2:eop gl (qaa M) S.c (lk fr) (lk hl) x.op = some z:=qer (fun t ht=>rfl) h1 (fun b hb=>rfl) (by rw [hc0,q0m]) (fun b hb k hk'=>qn3 hr.sim hc0 hk' hk');refine jim hd (Oper.wp_mono ?_ (qhb hr c1 he2));rintro a' w' ⟨v,hh,rv,G',M',⟨rfl,rfl⟩,rfl,q3,q4,q5,q6⟩;refine hk rv G' M' (z.2.1 ++ hl) w' (by rw [qcd,hH,qhr h3]) (hr.put c4 q3 q4 q5) q5 (fun b hnb h0=>(q6 b (fun e=>hnb ⟨by omega,by omega⟩) (hr.sim.none_of_fresh h0)).trans h0)
theorem qih (hcl:qij P gl cl) (hyl:qxi P gl yl) (hd:∀ (i:Nat) (o:Oper),ops[i]? = some o->rd.isSome = true->qe6 o.op = false) {all:List qa4} (hx:qb9 P n ops ops.toList = some all):∀ (l:List qa4) (k:Nat),all.drop k = l->∀ {S S':ES},q4s cl yl gl l S = some S'->
  S.c≤S'.c/\∀ (Q:Exit->Act->World->Prop) G M a w fr hl,lk fr = S.fr.get->lk hl = S.h.get->R bs n gl G M fr hl a w->(∀ b,S.c≤b->b < S'.c->qaa M b = 0)->(∀ a' w',XQ bs n gl S .normal S' G M w .normal a' w'->Q .normal a' w')->wpOpsIn (FW rd) 0 P ops Q (List.range' k (all.length - k)) a w
 | [],k,hk,S,S',he=>by
  simp only [q4s,Option.some.injEq] at he; subst he;refine ⟨jki _,fun Q G M a w fr hl hF hH hr hid hq=>?_⟩;have:all.length - k = 0:=by have:=congrArg List.length hk; simpa using this
  rw [this];exact hq a w ⟨rfl,G,M,fr,hl,hF,hH,hr,.refl _ _ _,fun _ _ h0=>h0⟩
 | x :: l,k,hk,S,S',he=>by
  have hlen:all.length - k = l.length + 1:=by have:=congrArg List.length hk; simpa using this
  have hxk:all[k]? = some x:=by
   have:=congrArg (fun q:List qa4=>q[0]?) hk;simpa using this
  have hkl:k < ops.toList.length:=by rw [<- (qbl hx).1]; exact (List.getElem?_eq_some_iff.1 hxk).1
  obtain ⟨x',hx1,hx2⟩:=(qbl hx).2 k _ (jkh hkl);rw [hxk] at hx1; cases hx1;have hok:ops[k]? = some ops.toList[k]:=by simp at hkl; simp [hkl]
  have hdrop:all.drop (k + 1) = l:=by rw [<- List.tail_drop,hk]; rfl
  have hll:all.length - (k + 1) = l.length:=by omega
  obtain ⟨c1,c2,c3,c4⟩:=qbr hx2;simp only [q4s] at he;split at he
  ·rename_i hg;obtain ⟨y,h1,h2⟩:=qad he;obtain ⟨fr1,h3,h4⟩:=qad h2;obtain ⟨i1,i2⟩:=qih hcl hyl hd hx l (k + 1) hdrop h4;obtain ⟨j1,j2⟩:=q88 hcl hyl (qjx hx) hok (hd k _ hok) hx2 hg h1;refine ⟨Nat.le_trans j1 i1,fun Q G M a w fr hl hF hH hr hid hq=>?_⟩;rw [hlen,List.range'_succ,wpOpsIn_cons];refine j2 hF hH hr (fun b b1 b2=>hid b b1 (by simp only [] at i1; omega)) fun rv G' M' hl' w' k1 k2 k3 k4=>?_;have:=i2 Q G' M' (a.put ops.toList[k].dst rv) w' (qk5 fr ops.toList[k].dst y.1) hl' (by rw [qrm,hF,qjg h3,c3]) k1 k2 (fun b b1 b2=>k4 b (fun hc=>by simp only [] at b1; omega) (hid b (by simp only [] at b1; omega) b2)) (fun a2 w2 hx2'=>hq a2 w2 (XQ.trans j1 i1 k3 k4 hx2'));rw [hll] at this;exact this
  ·rename_i hg;obtain ⟨fr1,h3,h4⟩:=qad he;obtain ⟨i1,i2⟩:=qih hcl hyl hd hx l (k + 1) hdrop h4;refine ⟨i1,fun Q G M a w fr hl hF hH hr hid hq=>?_⟩;rw [hlen,List.range'_succ,wpOpsIn_cons];unfold wpOpIn;simp only [hok];rw [qa6 (qjx hx) hr c2 (F:=S.fr.get) (fun t _=>by rw [hF]) hg,if_neg (by simp)];refine ⟨fun _ _=>trivial,?_⟩;have:=i2 Q G M (a.put ops.toList[k].dst undef) w (qk5 fr ops.toList[k].dst (.tup [])) hl (by rw [qrm,hF,qjg h3,c3]) hH (hr.put c4 (.tup [] #[] rfl (fun i hi=>by simp at hi)) hr.sim (.refl _ _ _)) hid hq;rw [hll] at this;exact this
  ·cases he
end
end
section
open Go
theorem qhu {α:Type} {D:Nat->List (Nat × α)} {F0:Nat->Option α}:∀ k,st D qe2 F0 (k + 1) = st (fun i=>D (i + 1)) qe2 (ov (D 0) F0) k
 | 0=>by simp [st,qe2]
 | k + 1=>by
  have ih:=qhu (D:=D) (F0:=F0) k;simp only [st,qe2,if_true] at ih ⊢;rw [ih]
def DvL (lo:List Oper) (vs:Nat->V) (i:Nat):Fr:=match lo[i]? with
 | some o=>dD o.dst (vs i)
 | none=>[]
theorem q8w (F:FF) (d:Option Nat) (v:V):ov (dD d v) F = qsc F d v:=by
 cases d with
 | none=>funext t; simp [dD,ov,qsc,lk]
 | some d=>
  funext t;simp only [dD,ov,qsc,upd,lk];by_cases h:t = d <;> simp [h]
section
variable {P:Program} {gl:Fr} {bs:BS} {n:Nat} {ops:Array Oper} {cl:qix}
structure ql9 (P:Program) (gl:Fr) (n:Nat) (ops:Array Oper) (lo:List Oper) (lx:List qa4) (S S':ES) (fps:List (List Nat × List Nat)) (vs:Nat->V) (Ws:Nat->Hp) (rd:Nat->List Nat) (cs:Nat->Nat):Prop where
 c0:cs 0 = S.c
 cn:cs lo.length = S'.c
 mono:∀ i,i < lo.length->cs i≤cs (i + 1)
 fr:S'.fr.get = st (DvL lo vs) qe2 S.fr.get lo.length
 h:S'.h.get = st Ws qe2 S.h.get lo.length
 len:fps.length = lo.length
 fp:∀ i,i < lo.length->fps.getD i ([],[]) = ((Ws i).map (·.1),rd i)
 pure:∀ i x,lx[i]? = some x->(qah x.op = true->Ws i = [])/\(qei x.op = false->Ws i = []/\rd i = [])
 y:∀ i o,lo[i]? = some o->∀ j,ops[j]? = some o->qk9 P gl n ops j o (st (DvL lo vs) qe2 S.fr.get i) (st Ws qe2 S.h.get i) (fun b=>b ∈ rd i) (fun b=>cs i≤b/\b < cs (i + 1)) (vs i) (Ws i)
def shift {α:Type} (x:α) (f:Nat->α):Nat->α
 | 0=>x
 | i + 1=>f i
theorem ql9.cons {o:Oper} {x:qa4} {lo:List Oper} {lx:List qa4} {S S1 S':ES} {fps:List (List Nat × List Nat)} {vs:Nat->V} {Ws:Nat->Hp} {rd:Nat->List Nat} {cs:Nat->Nat} (d:ql9 P gl n ops lo lx S1 S' fps vs Ws rd cs)
  {v:V} {W:Hp} {r:List Nat} (hc:S.c≤S1.c) (hf:S1.fr.get = ov (dD o.dst v) S.fr.get) (hh:S1.h.get = ov W S.h.get) (hp:(qah x.op = true->W = [])/\(qei x.op = false->W = []/\r = []))
  (hy:∀ j,ops[j]? = some o->qk9 P gl n ops j o S.fr.get S.h.get (fun b=>b ∈ r) (fun b=>S.c≤b/\b < S1.c) v W) :
  ql9 P gl n ops (o :: lo) (x :: lx) S S' ((W.map (·.1),r) :: fps) (shift v vs) (shift W Ws) (shift r rd) (shift S.c cs):=by
 have eD:(fun i=>DvL (o :: lo) (shift v vs) (i + 1)) = DvL lo vs:=by funext i; simp [DvL,shift]
 have eW:(fun i=>shift W Ws (i + 1)) = Ws:=by funext i; rfl
 have e0:DvL (o :: lo) (shift v vs) 0 = dD o.dst v:=by simp [DvL,shift]
 have sF:∀ k,st (DvL (o :: lo) (shift v vs)) qe2 S.fr.get (k + 1) = st (DvL lo vs) qe2 S1.fr.get k:=fun k=>by rw [qhu,eD,e0,hf]
 have sH:∀ k,st (shift W Ws) qe2 S.h.get (k + 1) = st Ws qe2 S1.h.get k:=fun k=>by rw [qhu,eW,hh]; rfl
 refine ⟨rfl,d.cn,fun i hi=>?_,by rw [List.length_cons,sF]; exact d.fr,by rw [List.length_cons,sH]; exact d.h,by simp [d.len],fun i hi=>?_,fun i x' hx'=>?_,fun i o' ho' j hj=>?_⟩
 ·cases i with
  | zero=>show S.c≤cs 0; rw [d.c0]; exact hc
  | succ i=>exact d.mono i (by simpa using hi)
 ·cases i with
  | zero=>rfl
  | succ i=>simpa [shift] using d.fp i (by simpa using hi)
 ·cases i with
  | zero=>simp at hx'; subst hx'; exact hp
  | succ i=>exact d.pure i x' (by simpa using hx')
 ·cases i with
  | zero=>
   simp at ho'; subst ho';have:(fun b=>shift S.c cs 0≤b/\b < shift S.c cs (0 + 1)) = fun b=>S.c≤b/\b < S1.c:=by funext b; simp only [shift,d.c0]
   rw [this];intro bs fr h G M a w Q K' h1 h2 h3 h4 h5;exact hy j hj h1 h2 h3 h4 h5
  | succ i=>
   rw [sF,sH];intro bs fr h G M a w Q K' h1 h2 h3 h4 h5;exact d.y i o' (by simpa using ho') j hj h1 h2 h3 h4 h5
theorem qfb {gl:Fr} {gf:Nat->Nat} {id:Nat} {F:FF} {H:HH} {io:IOp} (hp:qah io = true) {y:Y} (he:eop gl gf id F H io = some y):y.2.1 = []:=by
 cases io <;> simp only [qah,Bool.false_eq_true] at hp <;> simp only [eop] at he
 case mv x=>obtain ⟨v,h1,h2⟩:=qad he; cases h2; rfl
 case pick c x z=>
  split at he
  ·rename_i t hc;cases t <;> (simp only [] at he; obtain ⟨v,h1,h2⟩:=qad he; cases h2; rfl)
  ·cases he
 case build z ps=>
  obtain ⟨l,h1,h2⟩:=qad he;obtain ⟨cs,h3,h4⟩:=qad h2;cases h4; rfl
 case load ag m x=>
  split at he
  ·obtain ⟨h1,h2⟩:=qae he; cases h2; rfl
  ·split at he
   ·obtain ⟨h1,h2⟩:=qae he; cases h2; rfl
   ·cases he
  ·cases he
 case bin op x z=>
  split at he
  ·obtain ⟨v,h1,h2⟩:=qad he; cases h2; rfl
  ·cases he
 case eqs neg m x z=>
  split at he
  ·obtain ⟨h1,h2⟩:=qae he; cases h2; rfl
  ·cases he
 case beq neg x z=>split at he <;> first | (cases he; rfl) | cases he
 case un op x=>
  obtain ⟨v,h1,h2⟩:=qad he;obtain ⟨v',h3,h4⟩:=qad h2;cases h4; rfl
 case conv k x=>split at he <;> first | (cases he; rfl) | cases he
 case mkfn f x z=>split at he <;> first | (cases he; rfl) | cases he
 case slice sz x lo hi mx=>
  split at he
  ·obtain ⟨l,h1,he⟩:=qad he;obtain ⟨u,h2,he⟩:=qad he;obtain ⟨m,h3,he⟩:=qad he;obtain ⟨h4,he⟩:=qae he;cases he; rfl
  ·split at he
   ·obtain ⟨h0,he⟩:=qae he;obtain ⟨l,h1,he⟩:=qad he;obtain ⟨u,h2,he⟩:=qad he;obtain ⟨m,h3,he⟩:=qad he;obtain ⟨h4,he⟩:=qae he;cases he; rfl
   ·cases he
  ·cases he
 case sliceS x lo hi=>
  split at he
  ·obtain ⟨l,h1,he⟩:=qad he;obtain ⟨u,h2,he⟩:=qad he;obtain ⟨h4,he⟩:=qae he;cases he; rfl
  ·cases he
 case fieldA off x=>split at he <;> first | (cases he; rfl) | cases he
 case field ag off m x=>
  split at he
  ·obtain ⟨h1,h2⟩:=qae he; cases h2; rfl
  ·cases he
 case idxA sz x z=>
  split at he
  ·obtain ⟨h1,h2⟩:=qae he; cases h2; rfl
  ·split at he
   ·obtain ⟨h1,h2⟩:=qae he; cases h2; rfl
   ·cases he
  ·cases he
 case idxP len sz x z=>
  split at he
  ·obtain ⟨h1,h2⟩:=qae he; cases h2; rfl
  ·obtain ⟨h1,h2⟩:=qae he; cases h2; rfl
  ·cases he
 case idxV ag len sz x z=>
  split at he
  ·obtain ⟨h1,h2⟩:=qae he; cases h2; rfl
  ·cases he
 case idxS x z=>
  split at he
  ·obtain ⟨h1,h2⟩:=qae he; cases h2; rfl
  ·cases he
 case len x=>split at he <;> first | (cases he; rfl) | cases he
 case lenS x=>split at he <;> first | (cases he; rfl) | cases he
 case lenK m=>cases he; rfl
 case cap x=>split at he <;> first | (cases he; rfl) | cases he
 case mm mx x z=>split at he <;> first | (cases he; rfl) | cases he
 case extract x i=>
  split at he
  ·obtain ⟨v,h1,h2⟩:=qad he; cases h2; rfl
  ·cases he
 case cvs x=>split at he <;> first | (cases he; rfl) | cases he
 case b2s x=>
  obtain ⟨v,h1,h2⟩:=qad he;obtain ⟨es,h3,h4⟩:=qad h2;obtain ⟨s,h5,h6⟩:=qad h4;cases h6; rfl
 case n x=>
  cases x <;> simp only [NOp.pure,Bool.false_eq_true] at hp <;> simp only [nop] at he
  case bad=>cases he
  case isnil neg x=>
   split at he
   ·cases he; rfl
   ·cases he; rfl
   ·split at he
    ·obtain ⟨h1,h2⟩:=qae he; cases h2; rfl
    ·cases he
   ·cases he
  case lookup kd ok z m k=>
   split at he
   ·split at he
    ·obtain ⟨h1,h2⟩:=qae he;split at h2
     ·cases h2; rfl
     ·cases h2; rfl
     ·cases h2
    ·cases he
   ·obtain ⟨h1,h2⟩:=qae he; cases h2; rfl
   ·cases he
  case nchk x=>split at he <;> first | (cases he; rfl) | cases he
  case ifnil neg x=>split at he <;> first | (cases he; rfl) | cases he
  case gsl n x=>split at he <;> first | (obtain ⟨h1,h2⟩:=qae he; cases h2; rfl) | cases he
  case mlen x=>
   split at he
   ·split at he
    ·obtain ⟨h1,h2⟩:=qae he; cases h2; rfl
    ·cases he
   ·cases he; rfl
   ·cases he
  case i2s x=>
   split at he
   ·obtain ⟨h1,h2⟩:=qae he; cases h2; rfl
   ·cases he
  case mentry x=>
   split at he
   ·split at he
    ·split at he
     ·split at he
      ·obtain ⟨h1,h2⟩:=qae he; cases h2; rfl
      ·cases he
     ·cases he
    ·cases he
   ·cases he
  case idxByte s c=>
   split at he
   ·obtain ⟨h1,h2⟩:=qae he; cases h2; rfl
   ·cases he
  case add64 x y z=>
   split at he
   ·obtain ⟨h1,h2⟩:=qae he; cases h2; rfl
   ·cases he
theorem qii (hcl:qij P gl cl) (hops:∀ d,(∃ o,o ∈ ops.toList/\o.dst = some d)->d < n):∀ (lo:List Oper) (lx:List qa4),qb9 P n ops lo = some lx->qid ops lo lx = true->∀ {S S':ES} {fps:List (List Nat × List Nat)},qqy cl gl lx S = some (S',fps)->
  ∃ vs Ws rd cs,ql9 P gl n ops lo lx S S' fps vs Ws rd cs
 | [],lx,hc,_,S,S',fps,he=>by
  simp [qb9] at hc; subst hc;simp only [qqy,Option.some.injEq,Prod.mk.injEq] at he;obtain ⟨rfl,rfl⟩:=he;exact ⟨fun _=>.undef,fun _=>[],fun _=>[],fun _=>S.c,rfl,rfl,fun i hi=>(by simp at hi),rfl,rfl,rfl,fun i hi=>(by simp at hi),fun i x hx=>(by simp at hx),fun i o ho=>(by simp at ho)⟩
 | o :: lo,lx,hc,hsl,S,S',fps,he=>by
  simp only [qb9] at hc;split at hc
  ·rename_i x l' hx hl;cases hc;simp only [qid,Bool.and_eq_true,List.all_eq_true] at hsl;obtain ⟨hs1,hs2⟩:=hsl;have hslot:∀ t ∈ x.op.slots,t ∈ o.looksAt ops:=fun t ht=>by simpa using hs1 t ht
   obtain ⟨c1,c2,c3,c4⟩:=qbr hx;simp only [qqy] at he;split at he
   ·rename_i hg;obtain ⟨y,h1,h2⟩:=qad he;obtain ⟨fr1,h3,h4⟩:=qad h2;obtain ⟨hh1,h5,h6⟩:=qad h4;obtain ⟨z,h7,h8⟩:=qad h6;simp only [Option.some.injEq,Prod.mk.injEq] at h8;obtain ⟨e1,e2⟩:=h8;subst e1 e2;obtain ⟨vs,Ws,rd,cs,d⟩:=qii hcl hops lo l' hl hs2 (S':=z.1) (fps:=z.2) h7;have hfr:fr1.get = ov (dD o.dst y.1) S.fr.get:=by rw [q8w,qjg h3,c3]
    have hhh:hh1.get = ov y.2.1 S.h.get:=qhr h5;unfold xopR at h1
    cases hac:qcr x.op with
    | none=>
     rw [hac] at h1;simp only [] at h1;obtain ⟨q,k1,k2⟩:=qad h1;cases k2;refine ⟨_,_,_,_,d.cons (v:=q.1) (W:=q.2.1) (r:=q.2.2) (qrc _ _) hfr hhh ⟨fun hp=>?_,fun ht=>?_⟩ fun j hj=>qz0 hops hj hx hslot hg k1⟩
     ·exact qfb hp k1
     ·exact ⟨qfb (qed ht) k1,qlx ht k1⟩
    | some fa=>
     obtain ⟨f,as⟩:=fa;rw [hac] at h1;simp only [] at h1;obtain ⟨q,k1,k2⟩:=qad h1;unfold q05 at k2;simp only [] at k2;obtain ⟨k3,k4⟩:=qae k2;obtain ⟨hr,k5,k6⟩:=qad k4;obtain ⟨zz,k7,k8⟩:=qad k6;obtain ⟨k9,k10⟩:=qae k8;cases k10;simp only [Bool.and_eq_true] at k3;have hi:=hcl q.1 q.2 hr S.c zz.1 zz.2.1 zz.2.2 k7;rw [qra k5] at hi;have hio:=qc1 hac;refine ⟨_,_,_,_,d.cons (v:=zz.1) (S:=S) hi.2.1 hfr hhh ⟨fun hp=>?_,fun ht=>?_⟩ fun j hj=>?_⟩
     ·rw [hio] at hp; cases hp
     ·rw [hio] at ht; cases ht
     ·intro bs fr h G M a w Q K' hrr hF hH hid hk;unfold wpOp;simp only [hj];rw [qa6 hops hrr c2 hF hg,if_pos rfl];refine .inl ?_;rw [hio] at c1 hslot;obtain ⟨c,g,e1,e2,rfl,rfl⟩:=qep c1;obtain ⟨fst,cap,vs',q1,q2,q3⟩:=qiw k1;rw [<- qag (F':=lk fr) (fun t ht=>hF t (hslot t (by simp only [IOp.slots,List.mem_append]; exact .inl ht))),qbh] at q1;rw [<- qes (F':=lk fr) (fun t ht=>hF t (hslot t (by simp only [IOp.slots,List.mem_append]; exact .inr ht))),qgy] at q2;refine Oper.wp_mono ?_ (qmf hrr e1 e2 q1 q2 hi.1 (Post:=fun rv w'=>∃ G' M',qak G' M' zz.1 rv/\Sim G' M' ((qgw S.h.get zz.2.1.get (qta S.h.get 100000 (jiw q.2 []) []) ++ qgw S.h.get zz.2.1.get (jbh S.c (zz.2.2 - S.c))) ++ h) w'/\Ext G M w G' M' w'/\∀ b,¬ (S.c≤b/\b < zz.2.2)->qaa M b = 0->qaa M' b = 0) fun rargs hsz hrel=>?_)
      ·rintro a' w' ⟨rv,rfl,G',M',m1,m2,m3,m4⟩;exact hk rv G' M' w' (hrr.put c4 m1 m2 m3) m3 m4
      ·rw [<- q3] at hsz hrel;exact qss hrr.sim k3.1 k3.2 (fun b hb=>hH b hb) hi k9 hrr.gl hid rargs hsz hrel
   ·rename_i hg;obtain ⟨fr1,h3,h4⟩:=qad he;obtain ⟨z,h7,h8⟩:=qad h4;simp only [Option.some.injEq,Prod.mk.injEq] at h8;obtain ⟨e1,e2⟩:=h8;subst e1 e2;obtain ⟨vs,Ws,rd,cs,d⟩:=qii hcl hops lo l' hl hs2 (S':=z.1) (fps:=z.2) h7;have hfr:fr1.get = ov (dD o.dst (.tup [])) S.fr.get:=by rw [q8w,qjg h3,c3]
    exact ⟨_,_,_,_,d.cons (v:=.tup []) (W:=[]) (r:=[]) (S:=S) (jki _) hfr rfl ⟨fun _=>rfl,fun _=>⟨rfl,rfl⟩⟩ fun j hj=>qts hops hj hx hg⟩
   ·cases he
  ·cases hc
theorem qis {x y:Oper} (h:qqm ops x y = true):qpl ops x y:=by
 simp only [qqm,Bool.and_eq_true] at h;obtain ⟨h1,h2⟩:=h;refine ⟨fun t ht hd=>?_,fun t ht hd=>?_,fun t hd hd'=>?_⟩
 ·rw [hd] at h1;simp only [Bool.and_eq_true,Bool.not_eq_true',List.contains_eq_mem,decide_eq_false_iff_not] at h1;exact h1.1 ht
 ·rw [hd] at h2;simp only [Bool.not_eq_true',List.contains_eq_mem,decide_eq_false_iff_not] at h2;exact h2 ht
 ·rw [hd] at h1;simp only [Bool.and_eq_true,bne_iff_ne,ne_eq] at h1;exact h1.2 hd'
theorem qms {α:Type} {W:List (Nat × α)} {b:Nat} (h:b ∉ W.map (·.1)):lk W b = none:=by
 induction W with
 | nil=>rfl
 | cons p r ih=>
  obtain ⟨k,v⟩:=p;simp only [List.map_cons,List.mem_cons,not_or] at h;simp only [lk,if_neg h.1,ih h.2]
theorem qn8 {W W':Hp} {r r':List Nat} (h:jdn (W.map (·.1),r) (W'.map (·.1),r') = true):qpi W W' (fun b=>b ∈ r) (fun b=>b ∈ r'):=by
 simp only [jdn,Bool.and_eq_true,List.all_eq_true,Bool.not_eq_true'] at h;obtain ⟨h1,h2⟩:=h;have nm:∀ {b:Nat} {l:List Nat},qrp b l = false->b ∉ l:=fun hb hm=>by rw [qjd.2 hm] at hb; cases hb
 refine ⟨fun b=>?_,fun b hb=>?_,fun b hb=>?_⟩
 ·by_cases hm:b ∈ W.map (·.1)
  ·exact .inr (qms (nm (h1 b hm).1))
  ·exact .inl (qms hm)
 ·refine qms fun hm=>nm (h1 b hm).2 hb
 ·refine qms fun hm=>nm (h2 b hm) hb
theorem qnq {an:List Nat} {l:List qa4} {i j:Nat} {x y:qa4} (hij:i < j) (hi:l[i]? = some x) (hj:l[j]? = some y) (hb:bd an i j = false) (hc:qsh x.op y.op = true):(i,j) ∈ q1s an l:=by
 have hjl:j < l.length:=(List.getElem?_eq_some_iff.1 hj).1;simp only [q1s,List.mem_flatMap,List.mem_range,List.mem_filterMap];refine ⟨j,hjl,i,hij,?_⟩;simp only [hi,hj,hb,hc,Bool.not_false,Bool.and_true,cond_true]
theorem qwa (hcl:qij P gl cl) {id:Nat} {x:XC} (hx:qjs P n ops = some x):∃ l chk,x = .reg l chk/\∀ {S S':ES} {fps:List (List Nat × List Nat)},qqy cl gl l S = some (S',fps)->qlp fps chk = true->
    qz4 (noR (.region id ops true)) (fun rd Q a w=>(Code.region id ops true).wpIn (FW rd) 0 P Q a w) n gl S .normal S':=by
  unfold qjs at hx;split at hx
  · cases hx
  · rename_i all hall;split at hx
    · rename_i hcond;obtain ⟨hm,hback,hslots,hpairs,-⟩:=hcond;cases hx;refine ⟨_,_,rfl,fun {S S' fps} he hind=>?_⟩;obtain ⟨vs,Ws,rd,cs,d⟩:=qii hcl (qjx hall) ops.toList all hall hslots he;have hlen:ops.toList.length = ops.size:=by simp
      have hall_len:=(qbl hall).1
      have cmono:∀ j,j≤ops.size->∀ i,i≤j->cs i≤cs j:=by
        intro j
        induction j with
        | zero => intro _ i hi; obtain rfl:i = 0 := by omega
                  exact jki _
        | succ j ih=>
          intro hj i hi;by_cases h:i = j + 1
          · rw [h]; exact jki _
          · exact Nat.le_trans (ih (by omega) i (by omega)) (d.mono j (by omega))
      have hSS:S.c≤S'.c:=by rw [<- d.c0,<- d.cn]; exact cmono _ (by omega) 0 (by omega)
      refine ⟨hSS,fun rd0 bs hn G M a w fr hl hF hH hr hid=>?_⟩;refine wpIn_region_any hm (qif (qmy hn) XQ.noOut ?_);have hDv:DvL ops.toList vs = Dv ops vs:=by funext i; simp [DvL,Dv]; rfl
      have idsb:∀ i b,i < ops.size/\(cs i≤b/\b < cs (i + 1))->S.c≤b/\b < S'.c:=fun i b ⟨h1,h2,h3⟩=>by
        have q1:=cmono i (by omega) 0 (by omega);have q2:=cmono ops.size (by omega) (i + 1) (by omega);have q3:=d.cn;rw [hlen] at q3;rw [<- d.c0,<- q3]; omega
      refine qtb (P:=P) (gl:=gl) (bs:=bs) (n:=n) (vs:=vs) (Ws:=Ws) (rd:=fun i b=>b ∈ rd i) (ids:=fun i b=>i < ops.size/\(cs i≤b/\b < cs (i + 1))) (F0:=S.fr.get) (H0:=S.h.get) hback ?_ ?_ ?_ ?_ (G0:=G) (M0':=M) (w0:=w) ?_
        ops.size (Array.replicate ops.size false) fr hl G M a _ (by simp) ?_ ?_ ?_ ?_ Ext.drawn ?_ (fun b _ h0=>h0) ?_
      · intro i o ho;have hi:i < ops.size:=(Array.getElem?_eq_some_iff.1 ho).1
        have hyy:qk9 P gl n ops i o (st (Dv ops vs) qe2 S.fr.get i) (st Ws qe2 S.h.get i) (fun b=>b ∈ rd i) (fun b=>cs i≤b/\b < cs (i + 1)) (vs i) (Ws i):=by
          rw [<- hDv];intro bs fr h G M a w Q K' h1 h2 h3 h4 h5;exact d.y i o (by simpa using ho) i ho h1 h2 h3 h4 h5
        intro bs fr h G M a w Q K' h1 h2 h3 h4 h5;exact hyy h1 h2 h3 (fun b hb=>h4 b ⟨hi,hb⟩) (fun rv G' M' w' k1 k2 k3=>h5 rv G' M' w' k1 k2 (fun b hb h0=>k3 b (fun hc=>hb ⟨hi,hc⟩) h0))
      · intro i j oi oj hij hoi hoj hb;have hj:j < ops.size:=(Array.getElem?_eq_some_iff.1 hoj).1;simp only [qqe,List.all_eq_true,List.mem_range,Bool.or_eq_true] at hpairs;rcases hpairs j hj i hij with h | h
        · rw [hb] at h; cases h
        · rw [hoi,hoj] at h; exact qis h
      · intro i j hij hj hb;have hxi:all[i]? = some (all[i]'(by omega)):=jkh (by omega);have hxj:all[j]? = some (all[j]'(by omega)):=jkh (by omega)
        cases hc:qsh (all[i]'(by omega)).op (all[j]'(by omega)).op with
        | true=>
          have hmem:=qnq hij hxi hxj hb hc;have:=List.all_eq_true.1 hind _ hmem;rw [d.fp i (by omega),d.fp j (by omega)] at this;exact qn8 this
        | false=>
          simp only [qsh,Bool.or_eq_false_iff,Bool.and_eq_false_iff,Bool.not_eq_false'] at hc;obtain ⟨h1,h2⟩:=hc;have pi:=d.pure i _ hxi;have pj:=d.pure j _ hxj
          have key:(Ws i = []/\Ws j = [])∨(Ws i = []/\rd i = [])∨(Ws j = []/\rd j = []):=by
            rcases h1 with h1 | h1
            · rcases h2 with h2 | h2
              · exact .inr (.inl (pi.2 h2))
              · exact .inl ⟨pi.1 h1,pj.1 h2⟩
            · exact .inr (.inr (pj.2 h1))
          rcases key with ⟨e1,e2⟩ | ⟨e1,e2⟩ | ⟨e1,e2⟩
          · rw [e1,e2]; exact ⟨fun _=>.inl rfl,fun _ _=>rfl,fun _ _=>rfl⟩
          · rw [e1]; exact ⟨(fun _=>.inl rfl),(fun _ _=>rfl),(fun b hb=>by simp only [e2] at hb; cases hb)⟩
          · rw [e1]; exact ⟨(fun _=>.inr rfl),(fun b hb=>by simp only [e2] at hb; cases hb),(fun _ _=>rfl)⟩
      · rintro i j b hij ⟨h1,h2,h3⟩ ⟨h4,h5,h6⟩;rcases Nat.lt_or_gt_of_ne hij with h | h
        · have:=cmono j (by omega) (i + 1) (by omega); omega
        · have:=cmono i (by omega) (j + 1) (by omega); omega
      · intro fr' h' G' M' a' w' e1 e2 e3 e4 e5;refine ⟨rfl,G',M',fr',h',?_,?_,e3,e4,fun b hb h0=>e5 b (fun i hi=>hb (idsb i b hi)) h0⟩
        · rw [e1,d.fr,hDv,hlen]
        · rw [e2,d.h,hlen]
      · intro x y h1;by_cases hx:x < ops.size <;> simp [hx] at h1
      · rw [hF];funext t;rw [qdm ops.size (Nat.zero_le _) fun j _ h2 _=>by simp [h2]];rfl
      · rw [hH];funext t;rw [qdm ops.size (Nat.zero_le _) fun j _ h2 _=>by simp [h2]];rfl
      · exact ⟨hr.sim.drawn,hr.frr,hr.sz,hr.df.ext (Ext.drawn (G:=G)),hr.gl,hr.bs⟩
      · intro i _ b hb;have:=idsb i b hb;exact hid b this.1 this.2
      · unfold unl;exact Nat.le_trans List.countP_le_length (by simp)
    · cases hx
end
end
section
open Go
def wpL (rd:Option Nat) (P:Program) (c:Code) (Q:Exit->Act->World->Prop) (a:Act) (w:World):Prop:=
 ∀ (b:Frame) k cs,b.roundOf = rd->∃ e a' w',Q e a' w'/\ArrivesIn (Machine.fenced P (FW rd)) P (lone (b.atR a (.code c :: .inLoop c :: k)) cs w) b k cs e a' w'
section
variable {rd:Option Nat} {P:Program} {gl:Fr} {bs:BS} {n:Nat}
theorem q9g {c:Code} {Q:Exit->Act->World->Prop} {a:Act} {w:World} (h:wpL rd P c Q a w):(Code.loop c).wpIn (FW rd) 0 P Q a w:=by
 intro b k cs hro hb hrm;obtain ⟨e,a',w',hq,harr⟩:=h b k cs hro;exact ⟨e,a',w',hq,.of_steps (.one (fenced_calm hb hrm rfl) stepR_loop) harr⟩
def jdr (rd:Option Nat) (P:Program) (c:Code) (Q:Exit->Act->World->Prop):Exit->Act->World->Prop
 | .normal,a,w=>wpL rd P c Q a w
 | e,a,w=>Q e a w
theorem qzy {c:Code} {Q Q':Exit->Act->World->Prop} {a:Act} {w:World} (h:wpL rd P c Q a w) (hq:∀ e a w,Q e a w->Q' e a w):wpL rd P c Q' a w:=by
 intro b k cs hro;obtain ⟨e,a',w',h1,h2⟩:=h b k cs hro;exact ⟨e,a',w',hq _ _ _ h1,h2⟩
theorem qr9 {c:Code} {Q:Exit->Act->World->Prop} {a:Act} {w:World} (hp:∀ a w ch,¬ Q (.panic ch) a w) (ho:∀ a w,¬ Q .outgrown a w) (h:c.wpIn (FW rd) 0 P (jdr rd P c Q) a w):wpL rd P c Q a w:=by
 intro b k cs hro;obtain ⟨e,a2,w2,hq,harr⟩:=h b (.inLoop c :: k) cs hro trivial (qty _ _)
 cases e with
 | normal=>
  obtain ⟨e,a3,w3,hq3,harr3⟩:=hq b k cs hro;exact ⟨e,a3,w3,hq3,.of_steps (StepsIn.trans harr (.one (fenced_calm (F:=FW rd) (n:=0) trivial (qty _ _) rfl) stepR_inLoop)) harr3⟩
 | exit id=>exact ⟨_,a2,w2,hq,.pass (x:=.inLoop c) rfl (fun _ _=>.inl (by simp)) harr⟩
 | goto l=>exact ⟨_,a2,w2,hq,.pass (x:=.inLoop c) rfl (fun _ _=>.inl (by simp)) harr⟩
 | ret=>exact ⟨_,a2,w2,hq,.pass (x:=.inLoop c) rfl (fun _ _=>.inl (by simp)) harr⟩
 | panic ch=>exact absurd hq (hp _ _ _)
 | outgrown=>exact absurd hq (ho _ _)
def qaq (P:Program) (f:FuncId) (fi:FnI):Prop:=
 ∃ fn body,P.funcs[f]? = some fn/\fn.body = some body/\fn.name ≠ "runtime.NumGoroutine" /\ fn.ntmps = fi.n/\qdk P fn.results.toList = some fi.rs/\qc2 P fi.n body = some fi.code
def qsb (P:Program) (FT:Nat->Option FnI):Prop:=∀ f fi,FT f = some fi->qaq P f fi
def T.allP {α:Type} (p:Nat->α->Prop):T α->(Nat->Nat)->Prop
 | .lf,_=>True
 | .nd v l r,k=>(match v with | some x=>p (k 0) x | none=>True)/\l.allP p (fun n=>k (2 * n + 1))/\r.allP p (fun n=>k (2 * n + 2))
theorem jjc {α:Type} {p:Nat->α->Prop}:∀ {t:T α} {k:Nat->Nat},t.allP p k->∀ {n:Nat} {x:α},t.get n = some x->p (k n) x
 | .lf,k,_,n,x,h=>by simp [T.get] at h
 | .nd v l r,k,ha,n,x,h=>by
  obtain ⟨h1,h2,h3⟩:=ha;simp only [T.get] at h;by_cases h0:n = 0
  ·subst h0;simp only [Nat.beq,cond_true] at h;rw [h] at h1; exact h1
  ·rw [qbs h0] at h;simp only [cond_false] at h;by_cases hm:n % 2 = 1
   ·have:Nat.beq (n % 2) 1 = true:=by rw [hm]; rfl
    rw [this] at h;simp only [cond_true] at h;have:=jjc h2 h;simp only [show 2 * (n / 2) + 1 = n by omega] at this;exact this
   ·rw [qbs hm] at h;simp only [cond_false] at h;have:=jjc h3 h;simp only [show 2 * (n / 2 - 1) + 2 = n by omega] at this;exact this
theorem jjl {P:Program} {t:T FnI} (h:t.allP (qaq P) (fun n=>n)):qsb P t.get:=fun _ _ hf=>jjc h hf
theorem qq6:∀ {args:List V} {i:Nat} {t:T V},q42 i args = some t->t.get = lk (qq5 i args)
 | [],i,t,h=>by simp only [q42,Option.some.injEq] at h; subst h; funext b; simp [T.get,qq5,lk]
 | v :: r,i,t,h=>by
  simp only [q42] at h;obtain ⟨t1,h1,h2⟩:=qad h;rw [jiu h2,qq6 h1];funext x;simp only [upd,qq5,lk]
theorem qwb {fr:Fr} {hl:Hp}:∀ {rs:List qsd} {vs:List V} {K:List V->Prop},qxc (lk fr) (lk hl) rs = some vs->K vs->qqj fr hl K rs
 | [],vs,K,h,hk=>by simp only [qxc,Option.some.injEq] at h; subst h; exact hk
 | .tmp t :: r,vs,K,h,hk=>by
  simp only [qxc] at h;obtain ⟨v,h1,h2⟩:=qad h;obtain ⟨vs',h3,h4⟩:=qad h2;cases h4;simp only [qqj,h1];exact qwb h3 hk
 | .cell t ag m :: r,vs,K,h,hk=>by
  simp only [qxc] at h;split at h
  ·rename_i b g i off ht;split at h
   ·rename_i g' sz es hb;obtain ⟨h1,h2⟩:=qae h;obtain ⟨vs',h3,h4⟩:=qad h2;cases h4;simp only [Bool.and_eq_true,decide_eq_true_eq] at h1;simp only [qqj,ht,hb];exact ⟨h1.1.1,h1.1.2,V.partOkB_iff.1 h1.2,qwb h3 hk⟩
   ·cases h
  ·cases h
theorem qtc {fn:Func} {rs:List qsd} {G:qaz} {M:qar} {fr:Fr} {hl:Hp} {a:Act} {w:World} (hr:R bs n gl G M fr hl a w) (hres:qdk P fn.results.toList = some rs) {vs:List V} (hv:qxc (lk fr) (lk hl) rs = some vs) :
  ∃ r,qak G M (q8h vs) r/\(results fn a.tmps).run P w = .ok r w:=by
 obtain ⟨vs',rvs,k1,k2,k3,k4⟩:=qey (P:=P) hr hres (qwb (K:=fun x=>x = vs) hv rfl);subst k1
 have hmap:(fn.results.mapM (fun x=>match x with
   | .tmp t=>pure (a.tmps.getD t undef)
   | .cell ad t=>do loadVar t (<- asAddr (a.tmps.getD ad undef)):ResultVar->Sem Value)).run P w = .ok rvs.toArray w:=by
  rw [<- Array.toArray_toList (xs:=fn.results),List.mapM_toArray];simp only [Sem.run_map];exact congrArg (fun q:Result (List Value)=>q.andThen fun a w'=>Result.ok a.toArray w') k4
 have hrun:(results fn a.tmps).run P w = .ok (if h:rvs.toArray.size = 1 then rvs.toArray[0] else .tuple rvs.toArray) w:=by
  unfold results;rw [Sem.run_bind];exact congrArg (fun q:Result (Array Value)=>q.andThen fun vs w=>(pure (if h:vs.size = 1 then vs[0] else .tuple vs):Sem Value).run P w) hmap
 match vs',rvs,k2,k3,hrun with
 | [v],[r],_,k3,hrun=>exact ⟨r,k3 0 (by simp),by rw [hrun]; rfl⟩
 | [],[],k2,k3,hrun=>exact ⟨_,.tup [] #[] rfl (fun i hi=>by simp at hi),by rw [hrun]; rfl⟩
 | v1 :: v2 :: vs,r1 :: r2 :: rs,k2,k3,hrun=>
  refine ⟨.tuple (r1 :: r2 :: rs).toArray,.tup _ _ (by simpa using k2) (fun i hi=>?_),by rw [hrun,dif_neg (by simp)]⟩;have:=k3 i hi;rw [qbq]; exact this
theorem qq7 {O:OrT} (hO:q3r P gl O) {FT:Nat->Option FnI} (hFT:qsb P FT) {rec:XC->ES->Option (qb3 × ES)}
  (ih:∀ (n:Nat) (c:Code) (x:XC) (S:ES) (e:qb3) (S':ES),qc2 P n c = some x->rec x S = some (e,S')->qz4 (noR c) (fun rd Q a w=>c.wpIn (FW rd) 0 P Q a w) n gl S e S'):qij P gl (qme O FT rec):=by
 intro f args h c v h' c' he;unfold qme at he
 cases ho:O f args with
 | some v0=>rw [ho] at he; cases he; exact hO f args _ ho _ _
 | none=>
 rw [ho] at he;dsimp only at he;obtain ⟨fi,h1,he⟩:=qad he;obtain ⟨h2,he⟩:=qae he;obtain ⟨fr0,h3,he⟩:=qad he;obtain ⟨fn,body,f1,f2,f3,f4,f5,f6⟩:=hFT f fi h1
 have key:∀ (e:qb3) (S:ES),rec fi.code ⟨fr0,h,c⟩ = some (e,S)->(e = .normal∨e = .ret)->(eb (qxc S.fr.get S.h.get fi.rs) fun vs=>some (q8h vs,S.h,S.c)) = some (v,h',c')->qq2 P gl f args h.get c v h'.get c':=by
  intro e S hrec hee hres;obtain ⟨vs,r1,r2⟩:=qad hres;simp only [Option.some.injEq,Prod.mk.injEq] at r2;obtain ⟨rfl,rfl,rfl⟩:=r2;obtain ⟨i1,i2⟩:=ih fi.n body fi.code ⟨fr0,h,c⟩ e S f6 hrec;refine ⟨by simp [qbt,f1,f2,f3],i1,fun G M w rargs hl hH hs hgl hsz hrel hid=>?_⟩;refine qeo.1 (callsIn_of_wp_marks (F:=FW none) (n:=0) f1 f2 trivial (wpIn_mono (i2 none w.heap.size (fun h=>nomatch h) G M _ w (qq5 0 args) hl (qq6 h3).symm hH ⟨hs,fun t u ht=>?_,?_,.nil _ _ _,hgl,jki _⟩ hid) ?_))
  ·obtain ⟨-,q2,q3⟩:=qmr args 0 t u ht;rw [Nat.sub_zero] at q2 q3
   have:(rargs ++ Array.replicate (fn.ntmps - rargs.size) undef).getD t undef = rargs.getD t undef:=by
    simp only [jke,Array.getElem?_append];rw [if_pos (by omega)]
   rw [this,<- q3]; exact hrel t q2
  ·have:=Nat.le_of_ble_eq_true h2;simp [f4]; omega
  ·rintro ex ⟨tm,df⟩ w1 ⟨rfl,G',M',fr',hl',e1,e2,hr1,hx1,hf⟩;obtain ⟨w',hr,hx,hlv⟩:=hr1.leave hx1
   let a':Act:=⟨tm,[]⟩
   rw [<- e1,<- e2] at r1;obtain ⟨r,q1,q2⟩:=qtc (P:=P) hr f5 r1
   have fin:∃ v,(results fn a'.tmps).run P w' = .ok v w'/\∃ rv,Ending.returned v = .returned rv/\∃ hl' G' M',lk hl' = S.h.get/\qak G' M' (q8h vs) rv/\Sim G' M' hl' w'/\Ext G M w G' M' w'/\∀ b,¬ (c≤b/\b < S.c)->qaa M b = 0->qaa M' b = 0:=
    ⟨r,q2,r,rfl,hl',G',M',e2,q1,hr.sim,hx,hf⟩
   rcases hee with rfl | rfl
   ·exact hlv P _ _ fn _ fin
   ·exact hlv P _ _ fn _ fin
 split at he
 ·rename_i S hrec; exact key .normal S hrec (.inl rfl) he
 ·rename_i S hrec; exact key .ret S hrec (.inr rfl) he
 ·cases he
theorem qoi:∀ {l:Fr} {t:T V},qva l = some t->t.get = lk l
 | [],t,h=>by simp only [qva,Option.some.injEq] at h; subst h; funext b; simp [T.get,lk]
 | (k,v) :: r,t,h=>by
  simp only [qva] at h;obtain ⟨t1,h1,h2⟩:=qad h;rw [jiu h2,qoi h1];funext x;simp only [upd,lk]
theorem jjd {α:Type}:∀ {t:T α} {k:Nat->Nat} {i:Nat} {x:α},(i,x) ∈ t.list k->∃ n,i = k n/\t.get n = some x
 | .lf,_,_,_,h=>by simp [T.list] at h
 | .nd v l r,k,i,x,h=>by
  simp only [T.list,List.mem_append] at h;rcases h with (h | h) | h
  ·cases v with
   | none=>simp at h
   | some y=>simp at h; exact ⟨0,h.1,by simp [T.get,h.2]⟩
  ·obtain ⟨n,h1,h2⟩:=jjd h;refine ⟨2 * n + 1,h1,?_⟩;have e1:Nat.beq (2 * n + 1) 0 = false:=qbs (by omega);have e2:Nat.beq ((2 * n + 1) % 2) 1 = true:=by rw [show (2 * n + 1) % 2 = 1 by omega]; rfl
   simp only [T.get,e1,e2,cond_true,cond_false,show (2 * n + 1) / 2 = n by omega];exact h2
  ·obtain ⟨n,h1,h2⟩:=jjd h;refine ⟨2 * n + 2,h1,?_⟩;have e1:Nat.beq (2 * n + 2) 0 = false:=qbs (by omega);have e2:Nat.beq ((2 * n + 2) % 2) 1 = false:=qbs (by omega);simp only [T.get,e1,e2,cond_false,show (2 * n + 2) / 2 - 1 = n by omega];exact h2
theorem qve {α:Type}:∀ {l:List (Nat × α)} {t:Nat} {v:α},lk l t = some v->(t,v) ∈ l
 | [],t,v,h=>by simp [lk] at h
 | (k,x) :: r,t,v,h=>by
  simp only [lk] at h;split at h
  ·rename_i e; cases h; subst e; exact List.mem_cons_self
  ·exact List.mem_cons_of_mem _ (qve h)
theorem jjz {t:T V} {i:Nat} {x:V} (h:lk (t.list fun n=>n) i = some x):t.get i = some x:=by
 obtain ⟨n,h1,h2⟩:=jjd (qve h);rw [h1]; exact h2
theorem q3p {rec:XC->ES->Option (qb3 × ES)}
  (ih:∀ (n:Nat) (c:Code) (x:XC) (S:ES) (e:qb3) (S':ES),qc2 P n c = some x->rec x S = some (e,S')->qz4 (noR c) (fun rd Q a w=>c.wpIn (FW rd) 0 P Q a w) n gl S e S'):qxi P gl (jbo P rec):=by
 intro b g vs h c v h' c' he;unfold jbo at he;split at he
 case h_2=>cases he
 rename_i g' m frl ps asg body hb;obtain ⟨c1,he1⟩:=qae he;simp only [Bool.and_eq_true] at c1;obtain ⟨⟨⟨⟨c1,c2⟩,c3⟩,c4⟩,c5⟩:=c1;have hgg:g' = g:=qbp c1;rw [hgg] at hb;obtain ⟨xa,hxa,he2⟩:=qad he1;obtain ⟨xb,hxb,he3⟩:=qad he2;obtain ⟨fr0,hfr,he4⟩:=qad he3;clear he he1 he2 he3 hgg c1;unfold yldA at he4;split at he4
 case h_2=>cases he4
 rename_i S1 hA;split at he4
 case h_2=>cases he4
 rename_i g1 m1 fr1 ps1 as1 b1 hb1;obtain ⟨d1,he5⟩:=qae he4;have hg1:g1 = g:=qbp d1;rw [hg1] at hb1 he5;obtain ⟨h1,hp1,he6⟩:=qad he5;clear he4 he5 d1 hg1;unfold yldB at he6;split at he6
 case h_2=>cases he6
 rename_i S2 hB;split at he6
 case h_2=>cases he6
 rename_i g2 m2 fr2 ps2 a2 b2 hb2;obtain ⟨d2,he7⟩:=qae he6;simp only [Bool.and_eq_true] at d2;have hg2:g2 = g:=qbp d2.1;rw [hg2] at hb2 he7;obtain ⟨h2,hp2,he8⟩:=qad he7;clear he6 he7 hg2;simp only [Option.some.injEq,Prod.mk.injEq] at he8;obtain ⟨rfl,rfl,rfl⟩:=he8;obtain ⟨i1,i2⟩:=ih m asg xa ⟨fr0,h,c⟩ .normal S1 hxa hA;obtain ⟨j1,j2⟩:=ih m body xb ⟨S1.fr,h1,S1.c⟩ .normal S2 hxb hB;simp only [] at i1 j1;refine ⟨Nat.le_trans i1 j1,fun rd G M w hl r0 ra hH hs hgl hr0 hsz hrel hid=>?_⟩
 have key:=ql1 (P:=P) (rd:=rd) (KK:=fun _ M' hp=>lk hp = h2.get/\∀ b,¬ (c≤b/\b < S2.c)->qaa M b = 0->qaa M' b = 0) (asg:=asg) (body:=body) (frl:=frl) (m:=m) (ps:=ps) hs hgl (by rw [hH]; exact hb) hr0 hsz hrel (qbp c2) (fun t ht=>by
   have:=List.all_eq_true.1 c5 t ht
   exact Nat.lt_of_succ_le (Nat.le_of_ble_eq_true this)) (fun l a hr=>by
  refine wpIn_mono (i2 (some l) w.heap.size (fun _=>c3) G M a w _ hl (qoi hfr).symm hH hr (fun b b1 b2=>hid b b1 (by (try simp only [] at b2); omega))) ?_;rintro e a1 w1 ⟨rfl,G1,M1,frx,hpx,e1,e2,hr1,hx1,hf1⟩;refine ⟨rfl,G1,M1,frx,hpx,m1,fr1,ps1,as1,b1,hr1,hx1,by rw [e2]; exact hb1,fun w2 hr2 hx2=>?_⟩
  have hH2:lk ((b,Blk.loop g m1 fr1 ps1 as1 b1 true) :: hpx) = h1.get:=by
   rw [jiu hp1,<- e2]; funext x; simp only [lk,upd]
  refine wpIn_mono (j2 (some l) w.heap.size (fun _=>c4) G1 M1 a1 w2 frx _ e1 hH2 hr2 (fun b b1 b2=>hf1 b (fun hc=>by (try simp only [] at b1 b2 hc); omega) (hid b (by (try simp only [] at b1); omega) b2))) ?_;rintro e ac w3 ⟨rfl,G2,M2,fry,hpy,k1,k2,hr3,hx3,hf2⟩;refine ⟨rfl,G2,M2,hpy,m2,fr2,ps2,a2,b2,hr3.sim,hx2.trans hx3,by rw [k2]; exact hb2,?_,fun b hb h0=>hf2 b (fun hc=>hb ⟨by (try simp only [] at hc); omega,hc.2⟩) (hf1 b (fun hc=>hb ⟨hc.1,by (try simp only [] at hc); omega⟩) h0)⟩;rw [jiu hp2,<- k2]; funext x; simp only [lk,upd])
 obtain ⟨l,fn,tmps,asg',body',e1,e2,e3⟩:=key;refine ⟨l,fn,tmps,asg',body',e1,e2,RoundIn.mono e3 ?_⟩;rintro e w' ⟨rfl,G',M',hp,⟨q1,q2⟩,q3,q4⟩;exact ⟨_,rfl,hp,G',M',q1,.bool _,q3,q4,q2⟩
theorem q3h {cl:qix} (hcl:qij P gl cl) {f:Operand} {ps:Array Tmp} {asg body:Code} {S S':ES} {e:qb3} (he:jhw cl n ps.toList asg body S (evF gl S.fr.get (co f)) = some (e,S')) :
  qz4 (noR (.rangeFunc f ps asg body)) (fun rd Q a w=>(Code.rangeFunc f ps asg body).wpIn (FW rd) 0 P Q a w) n gl S e S':=by
 unfold jhw at he;split at he
 case h_2=>cases he
 rename_i fid fst cap hf;obtain ⟨h1,hp1,he⟩:=qad he;obtain ⟨z,hz,he⟩:=qad he;split at he
 case h_2=>cases he
 rename_i m1 fr1 ps1 a1 b1 hb1;obtain ⟨h2,hp2,he⟩:=qad he;simp only [Option.some.injEq,Prod.mk.injEq] at he;obtain ⟨rfl,rfl⟩:=he;obtain ⟨hcal,hcc,hrun⟩:=hcl _ _ _ _ z.1 z.2.1 z.2.2 hz;refine ⟨by simp only []; omega,fun rd bs hn G M a w fr hl hF hH hr hid=>?_⟩;simp only [] at hid
 cases rd with
 | some l=>exact absurd (hn rfl) (by simp [noR])
 | none=>
 have hg0:qaa M S.c = 0:=hid S.c (jki _) (by omega);rw [<- hF,qbh] at hf;refine wpIn_mono (qrz (P:=P) (KK:=fun _ M' hp=>lk hp = h2.get/\∀ b,¬ (S.c≤b/\b < z.2.2)->qaa M b = 0->qaa M' b = 0) hr S.c (S.fr.list fun n=>n) (fun t v ht=>by rw [hF]; exact jjz ht) hf hcal fun mb w1 rargs hmb hs1 hgl hsz hrel=>?_) ?_
 ·rw [hg0] at hs1 hsz hrel;have hM1:∀ b,b ≠ S.c->qaa (upd M S.c mb) b = qaa M b:=fun b hb=>by simp only [qaa,qgq _ _ hb]
  refine Calls.mono (hrun G (upd M S.c mb) w1 rargs _ (by rw [jiu hp1,<- hH]; funext x; simp only [lk,upd]) hs1 hgl hsz hrel (fun b b1 b2=>by rw [hM1 b (by omega)]; exact hid b (by omega) b2)) ?_;rintro e w' ⟨rv,rfl,hl',G',M',e1,e2,e3,e4,e5⟩;refine ⟨rv,G',M',hl',m1,fr1,ps1,a1,b1,rfl,by rw [e1,hg0]; exact hb1,⟨?_,fun b hb h0=>?_⟩,e3,e4⟩
  ·rw [jiu hp2,<- e1,hg0]; funext x; simp only [lk,upd]
  ·refine e5 b (fun hc=>hb ⟨by omega,hc.2⟩) ?_;by_cases hbc:b = S.c
   ·exact absurd ⟨by omega,by omega⟩ hb
   ·rw [hM1 b hbc]; exact h0
 ·rintro e a' w' ⟨rfl,G',M',hp,⟨q1,q2⟩,q3,q4⟩;exact ⟨rfl,G',M',fr,hp,hF,q1,q3,q4,q2⟩
theorem XQ.refl {S S':ES} {e:qb3} {G:qaz} {M:qar} {a:Act} {w:World} {fr:Fr} {hl:Hp} (hF:lk fr = S.fr.get) (hH:lk hl = S.h.get) (hr:R bs n gl G M fr hl a w) (h1:S' = S):XQ bs n gl S e S' G M w e.out a w:=by
 subst h1;exact ⟨rfl,G,M,fr,hl,hF,hH,hr,.refl _ _ _,fun _ _ h0=>h0⟩
theorem qso {O:OrT} (hO:q3r P gl O) {FT:Nat->Option FnI} (hFT:qsb P FT):∀ (m n:Nat) (c:Code) (x:XC) (S:ES) (e:qb3) (S':ES),qc2 P n c = some x->exec P O FT gl m x S = some (e,S')->
  qz4 (noR c) (fun rd Q a w=>c.wpIn (FW rd) 0 P Q a w) n gl S e S'/\∀ c0,c = .loop c0->qz4 (noR c0) (fun rd Q a w=>wpL rd P c0 Q a w) n gl S e S':=by
 intro m
 induction m with
 | zero=>intro n c x S e S' _ he; simp [exec] at he
 | succ m ih=>
  intro n c x S e S' hx he;have ihA:∀ (n:Nat) (c:Code) (x:XC) (S:ES) (e:qb3) (S':ES),qc2 P n c = some x->exec P O FT gl m x S = some (e,S')->qz4 (noR c) (fun rd Q a w=>c.wpIn (FW rd) 0 P Q a w) n gl S e S':=fun n c x S e S' h1 h2=>(ih n c x S e S' h1 h2).1;have hcl:qij P gl (qme O FT (exec P O FT gl m)):=qq7 hO hFT ihA;have hyl:qxi P gl (jbo P (exec P O FT gl m)):=q3p ihA;simp only [exec] at he
  -- no panic, no outgrowing
  have nopanic:∀ {bs:BS} {S:ES} {e:qb3} {S':ES} {G:qaz} {M:qar} {w:World} (a:Act) (w2:World) (ch:_),¬ XQ bs n gl S e S' G M w (.panic ch) a w2:=fun a w2 ch hq=>by
   have:=hq.1;rename_i e0 _ _ _ _;cases e0 <;> cases this
  have nogrow:∀ {bs:BS} {S:ES} {e:qb3} {S':ES} {G:qaz} {M:qar} {w:World} (a:Act) (w2:World),¬ XQ bs n gl S e S' G M w .outgrown a w2:=fun a w2 hq=>by
   have:=hq.1;rename_i e0 _ _ _ _;cases e0 <;> cases this
  cases c with
  | skip=>
   cases hx;simp only [step,Option.some.injEq,Prod.mk.injEq] at he;obtain ⟨rfl,rfl⟩:=he;exact ⟨⟨jki _,fun rd bs hn G M a w fr hl hF hH hr _=>wpIn_skip (XQ.refl hF hH hr rfl)⟩,fun c0 h=>by cases h⟩
  | label l=>
   cases hx;simp only [step,Option.some.injEq,Prod.mk.injEq] at he;obtain ⟨rfl,rfl⟩:=he;exact ⟨⟨jki _,fun rd bs hn G M a w fr hl hF hH hr _=>wpIn_label (XQ.refl hF hH hr rfl)⟩,fun c0 h=>by cases h⟩
  | exit id=>
   cases hx;simp only [step,Option.some.injEq,Prod.mk.injEq] at he;obtain ⟨rfl,rfl⟩:=he;exact ⟨⟨jki _,fun rd bs hn G M a w fr hl hF hH hr _=>wpIn_exit (XQ.refl (e:=.exit id) hF hH hr rfl)⟩,fun c0 h=>by cases h⟩
  | goto l=>
   cases hx;simp only [step,Option.some.injEq,Prod.mk.injEq] at he;obtain ⟨rfl,rfl⟩:=he;exact ⟨⟨jki _,fun rd bs hn G M a w fr hl hF hH hr _=>wpIn_goto (XQ.refl (e:=.goto l) hF hH hr rfl)⟩,fun c0 h=>by cases h⟩
  | ret=>
   cases hx;simp only [step,Option.some.injEq,Prod.mk.injEq] at he;obtain ⟨rfl,rfl⟩:=he;exact ⟨⟨jki _,fun rd bs hn G M a w fr hl hF hH hr _=>wpIn_ret (XQ.refl hF hH hr rfl)⟩,fun c0 h=>by cases h⟩
  | region id ops draw=>
   refine ⟨?_,fun c0 h=>by cases h⟩;simp only [qc2] at hx
   cases draw with
   | false=>
    simp only [] at hx
    cases hall:qb9 P n ops ops.toList with
    | none=>rw [hall] at hx; cases hx
    | some l=>
     rw [hall] at hx;cases hx;simp only [step] at he;obtain ⟨S1,h1,h2⟩:=qad he;simp only [Option.some.injEq,Prod.mk.injEq] at h2;obtain ⟨rfl,rfl⟩:=h2;have hxs:=fun rd bs hd=>qih (rd:=rd) (bs:=bs) hcl hyl hd hall l 0 rfl h1;refine ⟨(hxs none ⟨0,[]⟩ (fun _ _ _ h=>nomatch h)).1,fun rd bs hn G M a w fr hl hF hH hr hid=>wpIn_region ?_⟩;have hl':l.length = ops.size:=by have:=(qbl hall).1; simpa using this
     have:=(hxs rd bs (qmy hn)).2 (XQ bs n gl S .normal S1 G M w) G M a w fr hl hF hH hr hid (fun a' w' hq=>hq);rw [Nat.sub_zero,hl',<- List.range_eq_range'] at this;exact this
   | true=>
    simp only [] at hx;obtain ⟨l,chk,rfl,hreg⟩:=qwa hcl (id:=id) hx;simp only [step] at he;obtain ⟨z,h1,h2⟩:=qad he;obtain ⟨h3,h4⟩:=qae h2;simp only [Option.some.injEq,Prod.mk.injEq] at h4;obtain ⟨rfl,rfl⟩:=h4;exact hreg h1 h3
  | seq c1 c2=>
   refine ⟨?_,fun c0 h=>by cases h⟩;simp only [qc2] at hx;split at hx
   ·rename_i x1 x2 hx1 hx2;cases hx;simp only [step] at he;split at he
    ·rename_i S1 h1;obtain ⟨i1,i2⟩:=ihA n c1 x1 S .normal S1 hx1 h1;obtain ⟨j1,j2⟩:=ihA n c2 x2 S1 e S' hx2 he;refine ⟨Nat.le_trans i1 j1,fun rd bs hn G M a w fr hl hF hH hr hid=>?_⟩;have hn':=fun h=>Bool.and_eq_true_iff.1 (hn h);refine wpIn_seq (wpIn_mono (i2 rd bs (fun h=>(hn' h).1) G M a w fr hl hF hH hr (fun b b1 b2=>hid b b1 (by omega))) ?_);rintro ex a1 w1 ⟨rfl,G1,M1,fr1,hl1,e1,e2,hr1,hx1',hf1⟩;exact wpIn_mono (j2 rd bs (fun h=>(hn' h).2) G1 M1 a1 w1 fr1 hl1 e1 e2 hr1 (fun b b1 b2=>hf1 b (fun hc=>by omega) (hid b (by omega) b2))) fun ex a2 w2 hq=>XQ.trans i1 j1 hx1' hf1 hq
    ·rename_i hne;obtain ⟨i1,i2⟩:=ihA n c1 x1 S e S' hx1 he;refine ⟨i1,fun rd bs hn G M a w fr hl hF hH hr hid=>?_⟩;refine wpIn_seq (wpIn_mono (i2 rd bs (fun h=>(Bool.and_eq_true_iff.1 (hn h)).1) G M a w fr hl hF hH hr hid) ?_);rintro ex a1 w1 hq
     cases e with
     | normal=>exact absurd he (hne S')
     | exit id=>obtain ⟨rfl,hq2⟩:=hq; exact ⟨rfl,hq2⟩
     | goto l=>obtain ⟨rfl,hq2⟩:=hq; exact ⟨rfl,hq2⟩
     | ret=>obtain ⟨rfl,hq2⟩:=hq; exact ⟨rfl,hq2⟩
   ·cases hx
  | cond cd c1 c2=>
   refine ⟨?_,fun c0 h=>by cases h⟩;simp only [qc2] at hx;split at hx
   ·rename_i x1 x2 hx1 hx2;cases hx;simp only [step] at he;split at he
    ·rename_i t ht
     cases t with
     | true=>
      obtain ⟨i1,i2⟩:=ihA n c1 x1 S e S' hx1 he;refine ⟨i1,fun rd bs hn G M a w fr hl hF hH hr hid=>wpIn_cond_true ?_ (i2 rd bs (fun h=>(Bool.and_eq_true_iff.1 (hn h)).1) G M a w fr hl hF hH hr hid)⟩;rw [<- hF,qbh] at ht;exact qbk (qat hr ht)
     | false=>
      obtain ⟨i1,i2⟩:=ihA n c2 x2 S e S' hx2 he;refine ⟨i1,fun rd bs hn G M a w fr hl hF hH hr hid=>wpIn_cond_false ?_ (i2 rd bs (fun h=>(Bool.and_eq_true_iff.1 (hn h)).2) G M a w fr hl hF hH hr hid)⟩;rw [<- hF,qbh] at ht;exact qbk (qat hr ht)
    ·cases he
   ·cases hx
  | block id c1=>
   refine ⟨?_,fun c0 h=>by cases h⟩;simp only [qc2] at hx;split at hx
   ·rename_i x1 hx1;cases hx;simp only [step] at he;split at he
    ·rename_i id' S1 h1;obtain ⟨i1,i2⟩:=ihA n c1 x1 S (.exit id') S1 hx1 h1
     cases hb:Nat.beq id' id with
     | true=>
      rw [hb] at he;simp only [cond_true,Option.some.injEq,Prod.mk.injEq] at he;obtain ⟨rfl,rfl⟩:=he;refine ⟨i1,fun rd bs hn G M a w fr hl hF hH hr hid=>wpIn_block (wpIn_mono (i2 rd bs hn G M a w fr hl hF hH hr hid) ?_)⟩;rintro ex a1 w1 ⟨rfl,hq⟩;simp only [qb3.out,Exit.inBlock];rw [if_pos (qbp hb)];exact ⟨rfl,hq⟩
     | false=>
      rw [hb] at he;simp only [cond_false,Option.some.injEq,Prod.mk.injEq] at he;obtain ⟨rfl,rfl⟩:=he;refine ⟨i1,fun rd bs hn G M a w fr hl hF hH hr hid=>wpIn_block (wpIn_mono (i2 rd bs hn G M a w fr hl hF hH hr hid) ?_)⟩;rintro ex a1 w1 ⟨rfl,hq⟩;simp only [qb3.out,Exit.inBlock];rw [if_neg (fun h=>by subst h; rw [Nat.beq_refl] at hb; cases hb)];exact ⟨rfl,hq⟩
    ·rename_i hne;obtain ⟨i1,i2⟩:=ihA n c1 x1 S e S' hx1 he;refine ⟨i1,fun rd bs hn G M a w fr hl hF hH hr hid=>wpIn_block (wpIn_mono (i2 rd bs hn G M a w fr hl hF hH hr hid) ?_)⟩;rintro ex a1 w1 ⟨rfl,hq⟩
     cases e with
     | exit id'=>exact absurd he (hne id' S')
     | normal=>exact ⟨rfl,hq⟩
     | goto l=>exact ⟨rfl,hq⟩
     | ret=>exact ⟨rfl,hq⟩
   ·cases hx
  | scope c1=>
   refine ⟨?_,fun c0 h=>by cases h⟩;simp only [qc2] at hx;split at hx
   ·rename_i x1 hx1;cases hx;simp only [step] at he;split at he
    ·cases he
    ·rename_i hne;obtain ⟨i1,i2⟩:=ihA n c1 x1 S e S' hx1 he;refine ⟨i1,fun rd bs hn G M a w fr hl hF hH hr hid=>ql8 (wpIn_mono (i2 rd bs hn G M a w fr hl hF hH hr hid) ?_)⟩;rintro ex a1 w1 ⟨rfl,hq⟩
     cases e with
     | goto l=>exact absurd he (hne l S')
     | normal=>exact ⟨rfl,hq⟩
     | exit id=>exact ⟨rfl,hq⟩
     | ret=>exact ⟨rfl,hq⟩
   ·cases hx
  | loop c1=>
   have peeled:qz4 (noR c1) (fun rd Q a w=>wpL rd P c1 Q a w) n gl S e S':=by
    have hxl:=hx;simp only [qc2] at hx;split at hx
    ·rename_i x1 hx1;cases hx;simp only [step] at he;split at he
     ·rename_i S1 h1;obtain ⟨i1,i2⟩:=ihA n c1 x1 S .normal S1 hx1 h1;obtain ⟨j1,j2⟩:=(ih n (.loop c1) (.loop x1) S1 e S' hxl he).2 c1 rfl;refine ⟨Nat.le_trans i1 j1,fun rd bs hn G M a w fr hl hF hH hr hid=>?_⟩;refine qr9 nopanic nogrow (wpIn_mono (i2 rd bs hn G M a w fr hl hF hH hr (fun b b1 b2=>hid b b1 (by omega))) ?_);rintro ex a1 w1 ⟨rfl,G1,M1,fr1,hl1,e1,e2,hr1,hx1',hf1⟩;exact qzy (j2 rd bs hn G1 M1 a1 w1 fr1 hl1 e1 e2 hr1 (fun b b1 b2=>hf1 b (fun hc=>by omega) (hid b (by omega) b2))) fun ex a2 w2 hq=>XQ.trans i1 j1 hx1' hf1 hq
     ·rename_i hne;obtain ⟨i1,i2⟩:=ihA n c1 x1 S e S' hx1 he;refine ⟨i1,fun rd bs hn G M a w fr hl hF hH hr hid=>?_⟩;refine qr9 nopanic nogrow (wpIn_mono (i2 rd bs hn G M a w fr hl hF hH hr hid) ?_);rintro ex a1 w1 ⟨rfl,hq⟩
      cases e with
      | normal=>exact absurd he (hne S')
      | exit id=>exact ⟨rfl,hq⟩
      | goto l=>exact ⟨rfl,hq⟩
      | ret=>exact ⟨rfl,hq⟩
    ·cases hx
   refine ⟨⟨peeled.1,fun rd bs hn G M a w fr hl hF hH hr hid=>q9g (peeled.2 rd bs hn G M a w fr hl hF hH hr hid)⟩,fun c0 h=>?_⟩;cases h;exact peeled
  | rangeFunc f ps asg body=>
   refine ⟨?_,fun c0 h=>by cases h⟩;cases hx;simp only [step] at he;exact q3h hcl he
  | refuse s=>cases hx
theorem qt6 {O:OrT} (hO:q3r P gl O) {FT:Nat->Option FnI} (hFT:qsb P FT) (m:Nat):qij P gl (qme O FT (exec P O FT gl m)):=qq7 hO hFT fun n c x S e S' h1 h2=>(qso hO hFT m n c x S e S' h1 h2).1
def q3j (P:Program) (O:OrT) (FT:Nat->Option FnI) (gl:Fr) (m d:Nat) (f:FuncId) (args:List V):Option V:=
 eb (qme O FT (exec P O FT gl m) f args .lf 0) fun z=>some (q56 z.2.1.get d z.1)
def runX (P:Program) (FT:Nat->Option FnI) (gl:Fr) (m d:Nat) (f:FuncId) (args:List V):Option V:=q3j P noO FT gl m d f args
theorem qac.of_runO {O:OrT} (hO:q3r P gl O) {FT:Nat->Option FnI} (hFT:qsb P FT) {m d:Nat} {f:FuncId} {args:List V} {res:V} (h:q3j P O FT gl m d f args = some res):qac P gl f args res:=by
 unfold q3j at h;obtain ⟨z,h1,h2⟩:=qad h;simp only [Option.some.injEq] at h2;obtain ⟨hc,-,hi⟩:=qt6 hO hFT m f args .lf 0 z.1 z.2.1 z.2.2 h1;refine ⟨hc,fun G w rargs hg hgl hsz hrel=>?_⟩;have hl0:lk ([]:Hp) = (T.lf:T Blk).get:=by funext b; simp [lk,T.get]
 refine Calls.mono (hi G M0 w rargs [] hl0 ⟨hg,fun b k hk=>(by simp [lk] at hk),fun b b' mb mb' rb h1=>(by cases h1),fun b mb rb h1=>(by cases h1)⟩ hgl hsz hrel (fun b _ _=>rfl)) ?_;rintro e w' ⟨rv,rfl,hl',G',M',e1,e2,e3,hx,e5⟩
 let Gf:qaz:=fun k=>if k < w.heap.size then G k else match w'.heap[k]? with
  | some (.cells c _ _)=>some c
  | _=>none
 have hkeep:∀ k,k < w.heap.size->w'.heap[k]? = w.heap[k]?:=fun k hk=>hx.keep k hk (qbc k)
 have hGf:G'.le Gf:=by
  intro k c hk;simp only [Gf];split
  ·rename_i hlt;rcases hx.gnew k c hk with h3 | h3 | h3
   ·exact h3
   ·omega
   ·exact absurd h3 (qbc _)
  ·obtain ⟨ty,fz,he⟩:=e3.gw k c hk;simp [he]
 have hin:GIn Gf w':=by
  intro k c hk;simp only [Gf] at hk;split at hk
  ·rename_i hlt;obtain ⟨ty,fz,he⟩:=hg k c hk;exact ⟨ty,fz,by rw [hkeep k hlt]; exact he⟩
  ·split at hk
   ·rename_i c' ty fz he; cases hk; exact ⟨ty,fz,he⟩
   ·cases hk
 have hext:Ext G M0 w Gf M0 w':=by
  refine ⟨qaz.le_trans hx.g hGf,fun k c hk=>?_,qar.le_refl _,fun _ h=>.inr h,hx.os,hx.tape,hx.output,hx.size,hx.keep⟩;simp only [Gf] at hk;split at hk
  ·exact .inl hk
  ·rename_i hge; exact .inr (.inl (by omega))
 have hfr:=qfu e3 hGf (fun b mb rb arr ty fz h1 h2 he=>by
  have:¬ rb < w.heap.size:=fun hlt=>by
   rcases hx.mnew rb ⟨b,mb,h1,h2⟩ with h3 | h3
   ·omega
   ·exact absurd h3 (qbc _)
  simp [Gf,this,he]) d
 refine ⟨rv,Gf,rfl,?_,hin,hext⟩;have:=hfr _ _ e2;rw [q0k,e1,h2] at this;exact this
theorem jji {FT:Nat->Option FnI} (hFT:qsb P FT) {m d:Nat} {f:FuncId} {args:List V} {res:V} (h:runX P FT gl m d f args = some res):qac P gl f args res:=.of_runO q0u hFT h
end
end
end Go.Proofs.YtbbnmiaabmbheaaGreatDoor
