/- Lemmas. Conditions: none. -/
import Derived.Test.YtlmniacemoohpaaGreatDoorP6
set_option linter.all false
namespace Go.Proofs.YtlmniacemoohpaaGreatDoor
section
open Go
structure Ci.nar (c:Ci):Prop where
 n:c.n.length≤16
 i:∀ n,n < c.n.length->(c.nd n).i.length≤3
 b:∀ n,n < c.n.length->∀ y ∈ c.g n,y < n
abbrev Pth:=List Ln
def qb1 (P:Pth):Nat:=(P.getD (P.length - 1) (0,0)).1.toNat
def qee (l:List Int) (m n k:Nat):List Ln:=((List.range k).filter fun (j:Nat)=>decide (l.getD j 0 = (m:Int))).map fun (j:Nat)=>((n:Int),(j:Int))
def qvk (c:Ci) (m n:Nat):List Ln:=if (c.nd n).k = 14 then [] else qee (c.nd n).i m n (c.nd n).i.length
def qoq (c:Ci) (m k:Nat):List Ln:=(List.range k).flatMap (qvk c m)
def ext (c:Ci) (m:Nat):List Ln:=qoq c m c.n.length
theorem qhp (l:List Int) (m n k:Nat):qee l m n (k + 1) = qee l m n k ++ if l.getD k 0 = (m:Int) then [((n:Int),(k:Int))] else []:=by
 unfold qee;rw [List.range_succ,List.filter_append,List.map_append];congr 1;by_cases h:l.getD k 0 = (m:Int)
 ·rw [if_pos h,List.filter_cons_of_pos (by simpa using h)]; rfl
 ·rw [if_neg h,List.filter_cons_of_neg (by simpa using h)]; rfl
theorem qg1 (l:List Int) (m n k:Nat):(qee l m n k).length≤k:=by
 unfold qee;rw [List.length_map];exact Nat.le_trans (List.length_filter_le _ _) (by simp)
theorem qh2 (c:Ci) (m k:Nat):qoq c m (k + 1) = qoq c m k ++ qvk c m k:=by simp [qoq,List.range_succ]
theorem qiu {l:List Int} {m n k:Nat} {a:Ln}:a ∈ qee l m n k↔∃ j,j < k/\l.getD j 0 = (m:Int)/\a = ((n:Int),(j:Int)):=by
 simp only [qee,List.mem_map,List.mem_filter,List.mem_range,decide_eq_true_eq];constructor
 ·rintro ⟨j,⟨h1,h2⟩,rfl⟩; exact ⟨j,h1,h2,rfl⟩
 ·rintro ⟨j,h1,h2,rfl⟩; exact ⟨j,⟨h1,h2⟩,rfl⟩
theorem qn4 {c:Ci} {m k:Nat} {a:Ln}:a ∈ qoq c m k↔∃ n j:Nat,n < k/\(c.nd n).k ≠ 14/\j < (c.nd n).i.length/\(c.nd n).i.getD j 0 = (m:Int)/\a = ((n:Int),(j:Int)):=by
 simp only [qoq,List.mem_flatMap,List.mem_range];constructor
 ·rintro ⟨n,hn,h⟩;unfold qvk at h;split at h
  ·simp at h
  ·rename_i hk;obtain ⟨j,h1,h2,rfl⟩:=qiu.1 h;exact ⟨n,j,hn,hk,h1,h2,rfl⟩
 ·rintro ⟨n,j,hn,hk,h1,h2,rfl⟩;exact ⟨n,hn,by unfold qvk; rw [if_neg hk]; exact qiu.2 ⟨j,h1,h2,rfl⟩⟩
theorem qwm {c:Ci} (hg:c.good) (hr:c.nar) {m k:Nat} (hk:k≤c.n.length) {a:Ln} (h:a ∈ qoq c m k):∃ n:Nat,a.1 = (n:Int)/\m < n/\n < k:=by
 obtain ⟨n,j,hn,hk14,hj,hm,rfl⟩:=qn4.1 h;refine ⟨n,rfl,?_,hn⟩;have hnN:n < c.n.length:=by omega
 refine hr.b n hnN m ?_;rw [g_nd hg hnN hk14,List.mem_map];refine ⟨(c.nd n).i[j],ji3 hj,?_⟩;rw [ji0,ji4 hj] at hm;simp only [Option.getD_some] at hm;rw [hm]; rfl
def tsF (c:Ci):Nat->Nat->Nat
 | 0,_=>1
 | k + 1,m=>1 + ((ext c m).map fun l=>tsF c k l.1.toNat).sum
def ts (c:Ci) (m:Nat):Nat:=tsF c c.n.length m
theorem qfs {α:Type} {f g:α->Nat}:∀ {l:List α},(∀ x ∈ l,f x = g x)->(l.map f).sum = (l.map g).sum
 | [],_=>rfl
 | a :: l,h=>by simp only [List.map_cons,List.sum_cons]; rw [h a List.mem_cons_self,qfs fun x hx=>h x (List.mem_cons_of_mem _ hx)]
theorem q15 {c:Ci} (hg:c.good) (hr:c.nar):∀ k m,c.n.length≤m + k->tsF c k m = tsF c (k + 1) m
 | 0,m,h=>by
  have:ext c m = []:=by
   cases he:ext c m with
   | nil=>rfl
   | cons a r=>
    have hae:a ∈ ext c m:=by rw [he]; exact List.mem_cons_self
    obtain ⟨n,-,h1,h2⟩:=qwm hg hr (ji5 _) (show a ∈ qoq c m c.n.length from hae);omega
  simp [tsF,this]
 | k + 1,m,h=>by
  rw [tsF,tsF];congr 1;refine qfs fun l hl=>?_;obtain ⟨n,h1,h2,h3⟩:=qwm hg hr (ji5 _) hl;rw [h1,Int.toNat_natCast];exact q15 hg hr k n (by omega)
theorem jan {c:Ci} (hg:c.good) (hr:c.nar) (m:Nat):ts c m = 1 + ((ext c m).map fun l=>ts c l.1.toNat).sum:=by
 have h:=q15 hg hr c.n.length m (by omega);unfold ts
 conv=>lhs; rw [h]
 rfl
theorem q4w (a b:List Nat):(a ++ b).sum = a.sum + b.sum:=by simp
theorem qt1 {α:Type} {f:α->Nat} {B:Nat}:∀ {l:List α},(∀ x ∈ l,f x≤B)->(l.map f).sum≤l.length * B
 | [],_=>by simp
 | a :: l,h=>by
  simp only [List.map_cons,List.sum_cons,List.length_cons,Nat.add_mul,Nat.one_mul];have h1:=h a List.mem_cons_self;have h2:=qt1 fun x hx=>h x (List.mem_cons_of_mem _ hx);omega
theorem qsv {c:Ci} (hg:c.good) (hr:c.nar) {m k:Nat} (hk:k≤c.n.length) (h:k≤m + 1):qoq c m k = []:=by
 cases he:qoq c m k with
 | nil=>rfl
 | cons a r=>
  obtain ⟨n,-,h1,h2⟩:=qwm hg hr hk (show a ∈ qoq c m k by rw [he]; exact List.mem_cons_self);omega
theorem jgh {c:Ci} (hg:c.good) (hr:c.nar):∀ d m,c.n.length≤m + d->ts c m≤4 ^ d:=by
 intro d
 induction d using Nat.strongRecOn with
 | ind d ih=>
  intro m h;rw [jan hg hr]
  have key:∀ t,m + 1 + t≤c.n.length->((qoq c m (m + 1 + t)).map fun l=>ts c l.1.toNat).sum + 4 ^ (d - t)≤4 ^ d:=by
   intro t
   induction t with
   | zero=>intro h1; rw [qsv hg hr h1 (ji5 _)]; simp
   | succ t iht=>
    intro h1;have h2:=iht (by omega);rw [show m + 1 + (t + 1) = m + 1 + t + 1 by omega,qh2,List.map_append,q4w];have hts:=ih (d - (t + 1)) (by omega) (m + 1 + t) (by omega)
    have h3:((qvk c m (m + 1 + t)).map fun l=>ts c l.1.toNat).sum≤3 * 4 ^ (d - (t + 1)):=by
     have hl:(qvk c m (m + 1 + t)).length≤3:=by
      unfold qvk;split
      ·simp
      ·exact Nat.le_trans (qg1 _ _ _ _) (hr.i _ (by omega))
     refine Nat.le_trans (qt1 (B:=4 ^ (d - (t + 1))) fun a ha=>?_) (Nat.mul_le_mul_right _ hl);unfold qvk at ha;split at ha
     ·simp at ha
     ·obtain ⟨j,-,-,rfl⟩:=qiu.1 ha;simp only [Int.toNat_natCast];exact hts
    have h4:4 ^ (d - t) = 4 * 4 ^ (d - (t + 1)):=by
     rw [show d - t = d - (t + 1) + 1 by omega,Nat.pow_succ,Nat.mul_comm]
    omega
  by_cases hm:m + 1≤c.n.length
  ·have h1:=key (c.n.length - (m + 1)) (by omega);rw [show m + 1 + (c.n.length - (m + 1)) = c.n.length by omega] at h1;have h2:0 < 4 ^ (d - (c.n.length - (m + 1))):=Nat.pow_pos (by omega);unfold ext;omega
  ·have h2:0 < 4 ^ d:=Nat.pow_pos (by omega);unfold ext;rw [qsv hg hr (ji5 _) (by omega)];simp only [List.map_nil,List.sum_nil];omega
def mT (c:Ci) (T:List Pth):Nat:=(T.map fun P=>ts c (qb1 P)).sum
theorem jao (c:Ci) (m:Nat):1≤ts c m:=by
 unfold ts
 cases c.n.length with
 | zero=>exact ji5 _
 | succ k=>rw [tsF]; omega
theorem qti (c:Ci):∀ T:List Pth,T.length≤mT c T
 | []=>Nat.zero_le _
 | P :: T=>by
  have h1:=qti c T;have h2:=jao c (qb1 P);simp only [mT,List.map_cons,List.sum_cons,List.length_cons] at h1 ⊢;omega
theorem q7z (c:Ci) (A B:List Pth):mT c (A ++ B) = mT c A + mT c B:=by simp [mT]
theorem q3v (c:Ci) (P:Pth) (A:List Pth):mT c (P :: A) = ts c (qb1 P) + mT c A:=by simp [mT]
theorem qml (P:Pth) (l:Ln):qb1 (P ++ [l]) = l.1.toNat:=by
 unfold qb1;simp
theorem q70 (c:Ci) (P:Pth) (E:List Ln):mT c (E.map fun l=>P ++ [l]) = (E.map fun l=>ts c l.1.toNat).sum:=by
 unfold mT;rw [List.map_map];exact qfs fun l _=>by simp [qml]
theorem q4j:4 ^ 16 = 4294967296:=by decide
theorem jam {c:Ci} (hg:c.good) (hr:c.nar) (m:Nat):ts c m≤4294967296:=by
 rw [<- q4j];exact jgh hg hr 16 m (by have:=hr.n; omega)
end
section
open Go
structure PP (c:Ci) (P:Pth):Prop where
 ne:0 < P.length
 l:∀ i,i < P.length->lnk c P i = true
theorem qnt {c:Ci} {P:Pth}:qri c P = true↔PP c P/\qjw c (qb1 P) = true:=by
 constructor
 ·intro h;obtain ⟨h1,h2⟩:=qnu h;simp only [qri,Bool.and_eq_true] at h;exact ⟨⟨h1,h2⟩,h.2⟩
 ·rintro ⟨⟨h1,h2⟩,h3⟩;simp only [qri,Bool.and_eq_true,decide_eq_true_eq,List.all_eq_true,List.mem_range];exact ⟨⟨h2,h1⟩,h3⟩
theorem qnr {P R:Pth} {i:Nat} (h:i < P.length):(P ++ R).getD i (0,0) = P.getD i (0,0):=by
 rw [ji0,ji0,List.getElem?_append_left h]
theorem qxf {c:Ci} {P R:Pth} {i:Nat} (h:i < P.length):lnk c (P ++ R) i = lnk c P i:=by
 unfold lnk;rw [qnr h,qnr (by omega:i - 1 < P.length)]
theorem qw0 {P:Pth} {l:Ln}:(P ++ [l]).getD P.length (0,0) = l:=by simp [ji0]
theorem q93 {c:Ci} {P R:Pth} (h0:0 < P.length) (h:PP c (P ++ R)):PP c P:=⟨h0,fun i hi=>by rw [<- qxf (R:=R) hi]; exact h.l i (by simp; omega)⟩
theorem qr0 {c:Ci} {P:Pth} (h:PP c P):(P.getD (P.length - 1) (0,0)).1 = (qb1 P:Int)/\qb1 P < c.n.length:=by
 have h1:=h.l (P.length - 1) (by have:=h.ne; omega);unfold lnk at h1;simp only [Bool.and_eq_true,decide_eq_true_eq] at h1;obtain ⟨⟨h2,h3⟩,-⟩:=h1;unfold qb1;rw [Int.toNat_of_nonneg h2];exact ⟨rfl,by omega⟩
theorem qte {c:Ci} {P:Pth} (h:PP c P) {l:Ln}:lnk c (P ++ [l]) P.length = true↔l ∈ ext c (qb1 P):=by
 obtain ⟨e1,e2⟩:=qr0 h;have hne:=h.ne;have hg1:(P ++ [l]).getD (P.length - 1) (0,0) = P.getD (P.length - 1) (0,0):=qnr (by omega);unfold lnk;rw [qw0,hg1,e1,if_neg (by omega)];unfold ext;rw [qn4];simp only [Bool.and_eq_true,decide_eq_true_eq,Bool.not_eq_true',decide_eq_false_iff_not];obtain ⟨a,b⟩:=l;constructor
 ·rintro ⟨⟨h1,h2⟩,⟨⟨h3,h4⟩,h5⟩,h6⟩;simp only at h1 h2 h3 h4 h5 h6;refine ⟨a.toNat,b.toNat,by omega,h3,by omega,h6,?_⟩;rw [Int.toNat_of_nonneg h1,Int.toNat_of_nonneg h4]
 ·rintro ⟨n,j,h1,h2,h3,h4,he⟩;simp only [Prod.mk.injEq] at he;obtain ⟨rfl,rfl⟩:=he;simp only [Int.toNat_natCast];exact ⟨⟨by omega,by omega⟩,⟨⟨h2,by omega⟩,by omega⟩,h4⟩
theorem qr1 {c:Ci} {P:Pth} (h:PP c P) {l:Ln} (hl:l ∈ ext c (qb1 P)):PP c (P ++ [l]):=by
 refine ⟨by simp,fun i hi=>?_⟩;by_cases hip:i < P.length
 ·rw [qxf hip]; exact h.l i hip
 ·have:i = P.length:=by simp at hi; omega
  subst this;exact (qte h).2 hl
theorem q1y {c:Ci} {n:Nat} (hn:n < c.n.length) (hs:qot (c.nd n) = true):PP c [((n:Int),-1)]:=by
 refine ⟨by simp,fun i hi=>?_⟩;obtain rfl:i = 0:=by simp at hi; exact hi
 unfold lnk;simp [hn,hs]
def obsA (c:Ci) (m:Nat):Bool:=(c.o.any fun x=>decide (x = (m:Int))) || (List.range c.n.length).any fun n=>decide ((c.nd n).k = 14) && (c.nd n).i.any fun x=>decide (x = (m:Int))
theorem q32 {c:Ci} (hg:c.good) (m:Nat):obsA c m = qjw c m:=by
 unfold obsA qjw;congr 1;rw [Bool.eq_iff_iff,List.any_eq_true,List.any_eq_true];constructor
 ·rintro ⟨n,hn,h⟩;simp only [Bool.and_eq_true,decide_eq_true_eq,List.any_eq_true] at h;obtain ⟨hk,x,hx,he⟩:=h;have hn':=List.mem_range.1 hn;have hm:n ∈ ids 14 c.n 0:=(qrg 14 c.n 0 n).2 ⟨n,hn',by omega,by rw [<- c.nd_get hn']; exact hk⟩;obtain ⟨hn2,y,hy,h1,h2,-⟩:=qp3 hg hm;refine ⟨n,hm,?_⟩;rw [c.nd_get hn',hy] at hx;have hxy:x = y:=by simpa using hx
  have:qq9 c n = m:=by
   unfold qq9;rw [c.nd_get hn',hy];simp only [List.getD_cons_zero];omega
  simpa using this
 ·rintro ⟨n,hm,h⟩;obtain ⟨hn',y,hy,h1,h2,hk⟩:=qp3 hg hm;refine ⟨n,List.mem_range.2 hn',?_⟩;unfold qq9 at h;rw [c.nd_get hn',hy] at h;rw [c.nd_get hn',hy];simp only [List.getD_cons_zero,decide_eq_true_eq] at h;simp only [Bool.and_eq_true,decide_eq_true_eq,List.any_cons,List.any_nil,Bool.or_false];exact ⟨hk,by omega⟩
structure qt4 (c:Ci) (T O:List Pth):Prop where
 t:∀ P ∈ T,PP c P
 o:∀ P ∈ O,qri c P = true
 all:∀ Q,qri c Q = true->Q ∈ O∨∃ P R,P ∈ T/\Q = P ++ R
theorem qt4.step {c:Ci} {P:Pth} {T O:List Pth} (h:qt4 c (P :: T) O):qt4 c (T ++ (ext c (qb1 P)).map fun l=>P ++ [l]) (O ++ if qjw c (qb1 P) = true then [P] else []):=by
 have hP:=h.t P List.mem_cons_self;refine ⟨fun Q hQ=>?_,fun Q hQ=>?_,fun Q hQ=>?_⟩
 ·rcases List.mem_append.1 hQ with hQ | hQ
  ·exact h.t Q (List.mem_cons_of_mem _ hQ)
  ·obtain ⟨l,hl,rfl⟩:=List.mem_map.1 hQ;exact qr1 hP hl
 ·rcases List.mem_append.1 hQ with hQ | hQ
  ·exact h.o Q hQ
  ·split at hQ
   ·rename_i ho;rw [List.mem_singleton] at hQ;subst hQ;exact qnt.2 ⟨hP,ho⟩
   ·simp at hQ
 ·rcases h.all Q hQ with hQ1 | ⟨P1,R,hP1,rfl⟩
  ·exact .inl (List.mem_append.2 (.inl hQ1))
  ·rcases List.mem_cons.1 hP1 with rfl | hP1
   ·obtain ⟨hpp,hob⟩:=qnt.1 hQ
    cases R with
    | nil=>
     rw [List.append_nil] at hob ⊢;exact .inl (List.mem_append.2 (.inr (by rw [if_pos hob]; exact List.mem_singleton.2 rfl)))
    | cons l R=>
     have h1:PP c (P1 ++ [l]):=by
      refine q93 (R:=R) (by simp) ?_;rw [List.append_assoc];exact hpp
     have h2:=h1.l P1.length (by simp);refine .inr ⟨P1 ++ [l],R,List.mem_append.2 (.inr (List.mem_map.2 ⟨l,(qte hP).1 h2,rfl⟩)),by simp⟩
   ·exact .inr ⟨P1,R,List.mem_append.2 (.inl hP1),rfl⟩
def qi3 (c:Ci) (k:Nat):List Pth:=((List.range k).filter fun n=>qot (c.nd n)).map fun (n:Nat)=>[((n:Int),-1)]
theorem qql (c:Ci) (k:Nat):qi3 c (k + 1) = qi3 c k ++ if qot (c.nd k) = true then [[((k:Int),-1)]] else []:=by
 unfold qi3;rw [List.range_succ,List.filter_append,List.map_append];congr 1;by_cases h:qot (c.nd k) = true
 ·rw [if_pos h]; simp [h]
 ·rw [if_neg h]; simp [h]
theorem qoi (c:Ci) (k:Nat):(qi3 c k).length≤k:=by
 unfold qi3;rw [List.length_map];exact Nat.le_trans (List.length_filter_le _ _) (by simp)
theorem qt4.start (c:Ci):qt4 c (qi3 c c.n.length) []:=by
 refine ⟨fun P hP=>?_,fun P hP=>by simp at hP,fun Q hQ=>?_⟩
 ·obtain ⟨n,hn,rfl⟩:=List.mem_map.1 hP;obtain ⟨h1,h2⟩:=List.mem_filter.1 hn;exact q1y (List.mem_range.1 h1) h2
 ·obtain ⟨h1,h2⟩:=qnu hQ;obtain ⟨n,hn,hnN,hs⟩:=qrq h1 (h2 0 h1)
  cases Q with
  | nil=>simp at h1
  | cons l R=>
   simp only [List.getElem_cons_zero] at hn;subst hn;exact .inr ⟨[((n:Int),-1)],R,List.mem_map.2 ⟨n,List.mem_filter.2 ⟨List.mem_range.2 hnN,hs⟩,rfl⟩,rfl⟩
theorem qtp {c:Ci} (hg:c.good) (hr:c.nar) {P:Pth} (h:PP c P):P.length≤c.n.length:=by
 have key:∀ i,i < P.length->∃ n:Nat,(P.getD i (0,0)).1 = (n:Int)/\i≤n/\n < c.n.length:=by
  intro i
  induction i with
  | zero=>
   intro hi;obtain ⟨n,hn,hnN,-⟩:=qrq hi (h.l 0 hi);exact ⟨n,by rw [ji0,ji4 hi,Option.getD_some,hn],by omega,hnN⟩
  | succ i ih=>
   intro hi;obtain ⟨n,h1,h2,h3⟩:=ih (by omega);obtain ⟨m,q,e1,e2,e3,e4,e5⟩:=qxg hg hi (h.l (i + 1) hi);rw [ji0,ji4 (by omega),Option.getD_some] at h1;rw [h1] at e5;have hy:=hr.b m e2 ((c.g m)[q]) (ji3 e4);rw [ji0,ji4 e4,Option.getD_some] at e5;refine ⟨m,by rw [ji0,ji4 hi,Option.getD_some,e1],by omega,e2⟩
 have hne:=h.ne;obtain ⟨n,-,h1,h2⟩:=key (P.length - 1) (by omega);omega
end
section
open Go
def pv (P:Pth):V:=.sl (P.map lnI) (if P.length = 1 then some 1 else none)
theorem qiz (P:Pth):(pv P).pure = true:=by simp [pv,V.pure,qbs]
theorem qgz (T:List Pth):jgy (T.map pv) = true:=by
 induction T with
 | nil=>rfl
 | cons P T ih=>simp only [List.map_cons,jgy,qiz,ih,Bool.and_self]
def tdV (b g:Nat) (T:List Pth):V:=match T with | []=>.nil | P :: R=>.ref b g 0 (R.length + 1) none
def tdH (b g:Nat) (T:List Pth):Hp:=match T with | []=>[] | P :: R=>[(b,.row g 1 (pv P :: R.map pv))]
theorem qj1 {c:Ci} (hr:c.nar) (m:Nat):∀ n,n≤c.n.length->(qoq c m n).length≤3 * n:=by
 intro n
 induction n with
 | zero=>intro _; simp [qoq]
 | succ n ih=>
  intro hn;have h1:=ih (by omega)
  have h2:(qvk c m n).length≤3:=by
   unfold qvk;split
   ·simp
   ·exact Nat.le_trans (qg1 _ _ _ _) (hr.i n (by omega))
  rw [qh2,List.length_append];omega
def qm7 (c:Ci):Nat->List Pth->List Pth->List Pth
 | 0,_,O=>O
 | _ + 1,[],O=>O
 | k + 1,P :: T,O=>if O.length < 5000 then qm7 c k (T ++ (ext c (qb1 P)).map fun l=>P ++ [l]) (O ++ if qjw c (qb1 P) = true then [P] else []) else O
theorem qrr {c:Ci} (hg:c.good) (hr:c.nar) (P:Pth) (T:List Pth):mT c (T ++ (ext c (qb1 P)).map fun l=>P ++ [l]) + 1 = mT c (P :: T):=by
 rw [q7z,q70,q3v,jan hg hr (qb1 P)];omega
theorem qvw {c:Ci} (hg:c.good) (hr:c.nar):∀ k T O,qt4 c T O->mT c T≤k->O.length≤5000->(qm7 c k T O).length≤5000/\(5000≤(qm7 c k T O).length∨qt4 c [] (qm7 c k T O)):=by
 intro k
 induction k with
 | zero=>
  intro T O h hm ho
  have:T = []:=by
   have:=qti c T;exact List.length_eq_zero_iff.1 (by omega)
  subst this;exact ⟨ho,.inr h⟩
 | succ k ih=>
  intro T O h hm ho
  cases T with
  | nil=>exact ⟨ho,.inr h⟩
  | cons P T=>
   rw [qm7];split
   ·rename_i hlt;refine ih _ _ h.step ?_ ?_
    ·have:=qrr hg hr P T; omega
    ·split <;> simp <;> omega
   ·exact ⟨ho,.inl (by omega)⟩
theorem qhr {b g:Nat} {T:List Pth} {h:Hp} (hh:∀ P R,T = P :: R->lk h b = some (.row g 1 (pv P :: R.map pv))):Sub (tdH b g T) h:=by
 cases T with
 | nil=>simp [tdH]
 | cons P R=>simpa [tdH] using hh P R rfl
theorem qtq {l:List V} {v:V} (h:jgy l = true) (hv:v.pure = true):jgy (l ++ [v]) = true:=by
 induction l with
 | nil=>simp only [List.nil_append,jgy,hv,Bool.and_self]
 | cons a l ih=>
  simp only [List.cons_append,jgy,Bool.and_eq_true] at h ⊢;exact ⟨h.1,ih h.2⟩
structure AS2 where
 n:Nat
 j:Nat
 g:Nat
 pre:List V
structure AS where
 k:Nat
 g:Nat
 pre:List V
 T:List Pth
 O:List Pth
 gO:Nat
set_option maxRecDepth 100000 in
set_option maxHeartbeats 4000000 in
theorem jda (c:Ci) (hg:c.good) (hr:c.nar):qac Tryz.prog gl0 30 [c.v] (qgk ((qm7 c 68719476736 (qi3 c c.n.length) []).map pv)):=by
 have hn1:=hr.n;have hcl:c.v.cells = [.sl (c.n.map Nd.v) none,.sl (c.s.map .str) none,.sl (c.m.map Md.v) none,.sl (qc1 c.o) none]:=rfl
 ·refine jiu 2 ok30 rfl ?_;simp [i30,x30];intro gf1;generalize gf1 1 = g1
  refine jhc (X:=Nat × Nat) (fun z=>[(5,qab z.1),(4,tdV 40 z.2 (qi3 c z.1)),(3,.nil),(1,.ptr 1 g1 0 0)]) (fun z=>(1,.row g1 4 [c.v]) :: tdH 40 z.2 (qi3 c z.1))
   (fun z=>z.1≤c.n.length) (fun z=>c.n.length - z.1) ?_ ?_
  ·refine .done ⟨(0,0),by simp,?_,?_⟩
   all_goals simp [qab,qi3,tdV,tdH]
  rintro ⟨k,g⟩ hk;dsimp only at hk;simp [qab];refine jis (fun hb=>?_) (fun hb=>?_)
  ·have hk':k < c.n.length:=jiy hb;have hw:=qbg k (by omega);obtain ⟨y,hy⟩:∃ y,c.n[k] = y:=⟨_,rfl⟩;have hs:=qql c k;rw [c.nd_get hk',hy] at hs;have hlen:=qoi c k;obtain ⟨T2,hT2⟩:∃ T,qi3 c (k + 1) = T:=⟨_,rfl⟩;rw [hT2] at hs;generalize hT1:qi3 c k = T1 at hs hlen ⊢;simp [hk',hy];by_cases h0:y.k = 0
   case' pos=>
    have hsb:qot y = true:=by unfold qot; simp [h0]
    rw [if_pos hsb] at hs;simp [h0]
   case' neg=>
    by_cases h14:y.k = 14
    case' pos=>
     have hsb:qot y = true:=by unfold qot; simp [h14]
     rw [if_pos hsb] at hs;simp [h14,hk',hy]
    case' neg=>
     have hsb:qot y = false:=by unfold qot; simp [h0,h14]
     rw [hsb] at hs;simp at hs;simp [h0,h14,hk',hy,hw];refine .done ⟨k + 1,hk',g,⟨by simp,by simp [hT2,hs],by simp,by simp⟩,⟨by simp,by rw [hT2,hs]; cases T1 <;> simp [tdH]⟩,by omega⟩
   all_goals
    subst hs;intro gf38 gf39 gf40;have hpc:=qnb c;rcases T1 with _ | ⟨P,R⟩
    ·simp [tdV,tdH,hw];refine .frz (g:=gf38 38) (sz:=2) (es:=[.agg [.int .i64 (k:Int),.int .i64 (-1)]]) 38 (by simp) (by simp) (.done ⟨k + 1,hk',gf40 40,⟨?_,?_,?_,?_⟩,⟨?_,?_⟩,by omega⟩)
     all_goals simp [hT2,qpx,qmo,fzV,fzf,fzp,V.mapR,Blk.fz,qbz _ hpc,pv,lnI]
    ·have hRl:R.length≤274877906942:=by simp at hlen; omega
     have hR:=qgz R;have hP:=qiz P;have htk:(R.map pv).take R.length = R.map pv:=ji2 (by simp);simp [tdV,tdH,hw,hRl,htk];refine .frz (g:=gf38 38) (sz:=2) (es:=[.agg [.int .i64 (k:Int),.int .i64 (-1)]]) 38 (by simp) (by simp) (.done ⟨k + 1,hk',gf40 40,⟨?_,?_,?_,?_⟩,⟨?_,?_⟩,by omega⟩)
     all_goals simp [hT2,qpx,qmo,Blk.fz,qn2 hR,qh3 hP,-List.map_map]
     all_goals simp [fzV,fzf,fzp,V.mapR,qbz _ hpc,pv,lnI]
  ·have hk':k = c.n.length:=by have:=jiz hb; omega
   subst hk'
   have hm0:mT c (qi3 c c.n.length)≤68719476736:=by
    have h1:=qoi c c.n.length;have h2:mT c (qi3 c c.n.length)≤(qi3 c c.n.length).length * 4294967296:=qt1 fun P _=>jam hg hr _;omega
   have hi0:=qt4.start c;obtain ⟨R,hR⟩:∃ R,qm7 c 68719476736 (qi3 c c.n.length) [] = R:=⟨_,rfl⟩;rw [hR];generalize qi3 c c.n.length = T0 at hm0 hi0 hR ⊢;rcases T0 with _ | ⟨P0,T0⟩
   ·have hRe:R = []:=by rw [<- hR]; rfl
    subst hRe;simp [tdV,tdH];refine jit (X:=Unit) (fun _=>[(4,.nil),(3,.nil),(1,.ptr 1 g1 0 0)]) (fun _=>[(1,.row g1 4 [c.v])]) (fun _=>True) (fun _=>0) () (by simp) (by simp) (by simp) ?_;rintro ⟨⟩ -;simp [qgk]
   ·simp [tdV,tdH]
    refine jit (X:=AS) (fun z=>[(4,.ref 40 z.g z.pre.length z.T.length none),(3,tdV 129 z.gO z.O),(1,.ptr 1 g1 0 0)]) (fun z=>(1,.row g1 4 [c.v]) :: (40,.row z.g 1 (z.pre ++ z.T.map pv)) :: tdH 129 z.gO z.O)
     (fun z=>jgy z.pre = true/\qt4 c z.T z.O/\mT c z.T≤z.k/\z.k≤68719476736/\z.O.length≤5000/\qm7 c z.k z.T z.O = R) (fun z=>z.k) ⟨68719476736,g,[],P0 :: T0,[],0⟩ ⟨by simp,hi0,hm0,ji5 _,by simp,hR⟩ (by simp [tdV]) (by simp [tdH]) ?_
    rintro ⟨k,g,pre,T,O,gO⟩ ⟨q1,q2,q3,q4,q5,q6⟩;dsimp only at q1 q2 q3 q4 q5 q6;rcases T with _ | ⟨P,T⟩
    ·have hO:O = R:=by rw [<- q6]; cases k <;> rfl
     subst hO;rcases O with _ | ⟨o,O⟩
     ·simp [tdV,tdH,qgk]
     ·have hp:=qiz o;have hp2:=qgz O;have htk:(O.map pv).take O.length = O.map pv:=ji2 (by simp);simp [tdV,tdH,qgk,q1,qbz _ hp,qa4 hp2,htk,-List.map_map]
    ·obtain ⟨k,rfl⟩:∃ k',k = k' + 1:=⟨k - 1,by have:=qti c (P :: T); simp at this; omega⟩;have hPP:=q2.t P List.mem_cons_self;obtain ⟨hl1,hl2⟩:=qr0 hPP;have hPl:=qtp hg hr hPP;have hPn:=hPP.ne;have hTl:=qti c (P :: T);simp only [List.length_cons] at hTl;by_cases hO5:O.length < 5000
     case neg=>
      have hO:O = R:=by rw [<- q6,qm7,if_neg hO5]
      subst hO;rcases O with _ | ⟨o,O⟩
      ·simp at hO5
      ·have hp:=qiz o;have hp2:=qgz O;have htk:(O.map pv).take O.length = O.map pv:=ji2 (by simp);simp only [List.length_cons] at hO5;have hO6:decide ((O.length:Int) + 1 < 5000) = false:=decide_eq_false (by omega);simp [tdV,tdH,qgk,q1,hO6,BrB,qbz _ hp,qa4 hp2,htk,-List.map_map]
       try simp [tdV,tdH,qgk,q1,qbz _ hp,qa4 hp2,htk,-List.map_map]
     case pos=>
      rw [qm7,if_pos hO5] at q6;have hpP:=qiz P;obtain ⟨cp,hcp⟩:∃ cp,pv P = .sl (P.map lnI) cp:=⟨_,rfl⟩;rw [hcp] at hpP
      have hPe:P[P.length - 1]? = some ((qb1 P:Int),(P.getD (P.length - 1) (0,0)).2):=by
       rw [ji4 (by omega)];rw [ji0,ji4 (by omega),Option.getD_some] at hl1 ⊢;rw [<- hl1]
      have hws:IntKind.i64.wrap ((P.length:Int) - 1) = ((P.length - 1:Nat):Int):=qqo (p:=P.length - 1) (b:=1) (by omega) (by omega);obtain ⟨O1,hO1⟩:∃ O1,O1 = O:=⟨O,rfl⟩;rw [<- hO1] at q2 q5 q6;have hO5':=hO5;rw [<- hO1] at hO5';have hoE:=q32 hg (qb1 P);have hTs:=qrr hg hr P T;generalize (P.getD (P.length - 1) (0,0)).2 = lp at hPe;obtain ⟨m,hm⟩:∃ m,qb1 P = m:=⟨_,rfl⟩;rw [hm] at hPe hl2 hoE hTs q6;have hPm:P.length - 1 < P.length:=by omega
      have hPf:(P[P.length - 1]'hPm).1 = (m:Int):=by rw [ji4 hPm] at hPe; simp at hPe; simp [hPe]
      obtain ⟨VO,hVO⟩:∃ f:Nat->Bool,∀ i,f i = (c.o.take i).any fun x=>decide (x = (m:Int)):=⟨_,fun _=>rfl⟩;have hVO0:VO 0 = false:=by rw [hVO]; simp
      have hol:c.o.length≤16384:=(qqd hg.sh).2.2.2;have step:∀ {G C:Prop},(G->C)->G->C:=fun f g=>f g;refine step (G:=?G) ?a ?b
      case a=>
       intro hkey;rcases O with _ | ⟨o,O⟩
       case' nil=>simp [tdV,tdH,hcp,hws,hPe,hPm,hPf,lnI]
       case' cons=>
        simp only [List.length_cons] at hO5;have hO6:decide ((O.length:Int) + 1 < 5000) = true:=decide_eq_true (by omega);simp [tdV,tdH,hO6,BrB,hcp,hws,hPe,hPm,hPf,lnI]
       all_goals
        refine jit (X:=Nat) (fun i=>[(9,qab i),(8,.bool (VO i)),(7,qab m),(6,.sl (P.map lnI) cp),(4,.ref 40 g (pre.length + 1) T.length none),(3,tdV 129 gO O1),(1,.ptr 1 g1 0 0)]) (fun _=>(1,.row g1 4 [c.v]) :: (40,.row g 1 (pre ++ .sl (P.map lnI) cp :: T.map pv)) :: tdH 129 gO O1)
         (fun i=>i≤c.o.length) (fun i=>c.o.length - i) 0 (by simp) (by simp [qab,hVO0,hO1,tdV]) (by simp [hO1,tdH]) ?_
        exact hkey
      case b=>
       rintro i hi;simp [qab];refine jis (fun hb=>?_) (fun hb=>?_)
       ·have hi':i < c.o.length:=jiy hb;have hw:=qbg i (by omega);obtain ⟨x,hx⟩:∃ x,c.o[i] = x:=⟨_,rfl⟩;have hn:VO (i + 1) = (VO i || decide (x = (m:Int))):=by rw [hVO,hVO,List.take_succ_eq_append_getElem hi',hx]; simp
        generalize VO i = va at hn ⊢;cases va
        case' true=>simp [hw]
        case' false=>simp [hi',qb9,hx,hw]
        all_goals exact ⟨i + 1,hi',⟨by simp,by simp [hn]⟩,qhr (fun _ _ e=>by simp [e,tdH]),by omega⟩
       ·have hi':i = c.o.length:=by have:=jiz hb; omega
        subst hi';simp;obtain ⟨VN,hVN⟩:∃ f:Nat->Bool,∀ n,f n = (VO c.o.length || (List.range n).any fun n=>decide ((c.nd n).k = 14) && (c.nd n).i.any fun x=>decide (x = (m:Int))):=⟨_,fun _=>rfl⟩;have hVN0:VN 0 = VO c.o.length:=by rw [hVN]; simp
        have hVNe:VN c.n.length = qjw c m:=by
         rw [<- hoE,hVN,hVO,List.take_length]; rfl
        obtain ⟨WN,hWN⟩:∃ f:Nat->List Pth,∀ n,f n = T ++ (qoq c m n).map fun l=>P ++ [l]:=⟨_,fun _=>rfl⟩;have hWN0:WN 0 = T:=by rw [hWN]; simp [qoq]
        have hWNe:WN c.n.length = T ++ (ext c m).map fun l=>P ++ [l]:=hWN _
        have hWl:∀ n,n≤c.n.length->(WN n).length≤68719476736 + 48:=by
         intro n hn;have h1:=qj1 hr m n hn;rw [hWN];simp only [List.length_append,List.length_map];omega
        refine jit (X:=AS2) (fun z=>[(10,qab z.n),(8,.bool (VN z.n)),(7,qab m),(6,.sl (P.map lnI) cp),(4,.ref 40 z.g z.pre.length (WN z.n).length none),(3,tdV 129 gO O1),(1,.ptr 1 g1 0 0)]) (fun z=>(1,.row g1 4 [c.v]) :: (40,.row z.g 1 (z.pre ++ (WN z.n).map pv)) :: tdH 129 gO O1)
         (fun z=>jgy z.pre = true/\z.n≤c.n.length) (fun z=>c.n.length - z.n) ⟨0,0,g,pre ++ [.sl (P.map lnI) cp]⟩ ⟨qtq q1 hpP,by simp⟩ (by simp [qab,hVN0,hWN0]) (by simp [hWN0]; exact qhr (fun _ _ e=>by simp [e,tdH])) ?_
        rintro ⟨n,j,g,pre⟩ ⟨r1,r2⟩;dsimp only at r1 r2;simp [qab];refine jis (fun hb=>?_) (fun hb=>?_)
        ·have hn:n < c.n.length:=jiy hb;have hwn:=qbg n (by omega);have hr3:=hr.i n hn;obtain ⟨y,hy⟩:∃ y,c.n[n] = y:=⟨_,rfl⟩;rw [c.nd_get hn,hy] at hr3;obtain ⟨VP,hVP⟩:∃ f:Nat->Bool,∀ j,f j = (VN n || decide (y.k = 14) && (y.i.take j).any fun x=>decide (x = (m:Int))):=⟨_,fun _=>rfl⟩;have hVP0:VP 0 = VN n:=by rw [hVP]; simp
         have hVPe:VP y.i.length = VN (n + 1):=by
          rw [hVP,List.take_length,hVN,hVN,List.range_succ,List.any_append,<- Bool.or_assoc];simp only [List.any_cons,List.any_nil,Bool.or_false];rw [c.nd_get hn,hy]
         obtain ⟨WP,hWP⟩:∃ f:Nat->List Pth,∀ j,f j = WN n ++ (if y.k = 14 then [] else qee y.i m n j).map fun l=>P ++ [l]:=⟨_,fun _=>rfl⟩;have hWP0:WP 0 = WN n:=by rw [hWP]; simp [qee]
         have hWPe:WP y.i.length = WN (n + 1):=by
          rw [hWP,hWN,hWN,qh2,List.map_append,<- List.append_assoc];unfold qvk;rw [c.nd_get hn,hy]
         have hWPl:∀ j,j≤3->(WP j).length≤68719476736 + 60:=by
          intro j hj;have h1:=hWl n (by omega);have h2:=qg1 y.i m n j;rw [hWP];simp only [List.length_append,List.length_map];split
          ·simp; omega
          ·omega
         simp [hn,hy]
         refine jhc (X:=AS2) (fun z=>[(11,qab z.j),(10,qab n),(8,.bool (VP z.j)),(7,qab m),(6,.sl (P.map lnI) cp),(4,.ref 40 z.g z.pre.length (WP z.j).length none),(3,tdV 129 gO O1),(1,.ptr 1 g1 0 0)]) (fun z=>(1,.row g1 4 [c.v]) :: (40,.row z.g 1 (z.pre ++ (WP z.j).map pv)) :: tdH 129 gO O1)
          (fun z=>jgy z.pre = true/\z.j≤y.i.length) (fun z=>y.i.length - z.j) (.done ⟨⟨n,0,g,pre⟩,⟨r1,by simp⟩,by simp [qab,hVP0,hWP0],by simp [hWP0]; exact qhr (fun _ _ e=>by simp [e,tdH]),⟩) ?_
         rintro ⟨n',j,g,pre⟩ ⟨s1,s2⟩;dsimp only at s1 s2;simp [qab,hn,hy];refine jis (fun hb2=>?_) (fun hb2=>?_)
         ·have hj:j < y.i.length:=jiy hb2;have hwj:=qbg j (by omega);have hW3:=hWPl j (by omega);obtain ⟨x,hx⟩:∃ x,y.i[j] = x:=⟨_,rfl⟩
          have hVPn:VP (j + 1) = (VP j || decide (y.k = 14) && decide (x = (m:Int))):=by
           rw [hVP,hVP,List.take_succ_eq_append_getElem hj,hx,List.any_append,Bool.and_or_distrib_left,Bool.or_assoc];simp
          have hgd:y.i.getD j 0 = x:=by rw [ji0,ji4 hj,hx]; rfl
          have hWPn:WP (j + 1) = WP j ++ if y.k = 14 then [] else if x = (m:Int) then [P ++ [((n:Int),(j:Int))]] else []:=by
           rw [hWP,hWP,List.append_assoc,qhp,hgd];congr 1;split
           ·simp
           ·split <;> simp
          have htk:∀ l:List Pth,List.take l.length (l.map pv) = l.map pv:=fun l=>ji2 (by simp);by_cases hxm:x = (m:Int)
          case neg=>
           rw [decide_eq_false hxm,Bool.and_false,Bool.or_false] at hVPn;rw [if_neg hxm,ite_self,List.append_nil] at hWPn;simp [hn,hy,hj,qb9,hx,hxm,hwj];refine .done ⟨⟨n,j + 1,g,pre⟩,⟨s1,hj⟩,by simp [hVPn,hWPn],by simp [hWPn]; exact qhr (fun _ _ e=>by simp [e,tdH]),by dsimp only; omega⟩
          case pos=>
           subst hxm;by_cases h14:y.k = 14
           ·rw [if_pos h14,List.append_nil] at hWPn;simp [h14] at hVPn;simp [hn,hy,hj,qb9,hx,h14,hwj];refine .done ⟨⟨n,j + 1,g,pre⟩,⟨s1,hj⟩,by simp [hVPn,hWPn],by simp [hWPn]; exact qhr (fun _ _ e=>by simp [e,tdH]),by dsimp only; omega⟩
           ·rw [if_neg h14,if_pos rfl] at hWPn;rw [decide_eq_false h14,Bool.false_and,Bool.or_false] at hVPn;have hall:(P.all ((fun x=>decide (x.cells.length = 2)) ∘ lnI)) = true:=List.all_eq_true.2 fun x _=>rfl;have hPA:P.length≤274877906944:=by omega
            have hPA1:P.length≤274877906943:=by omega
            have hWA:(WP j).length≤274877906943:=by omega
            have htl:List.take P.length (P.map lnI) = P.map lnI:=ji2 (by simp);simp [hn,hy,hj,qb9,hx,h14,hwj];intro gf1 gf2;simp [hall,hPA];intro gf3 gf4;refine ⟨hPA1,fun gf5 gf6=>⟨hWA,?_⟩⟩;rw [htk,htl,hwj];have hel:jgy (P.map lnI ++ [.agg [.int .i64 (n:Int),.int .i64 (j:Int)]]) = true:=qtq (qbs P) rfl;have hpc:=qnb c
            have hpvn:pv (P ++ [((n:Int),(j:Int))]) = .sl (P.map lnI ++ [.agg [.int .i64 (n:Int),.int .i64 (j:Int)]]) none:=by
             unfold pv;rw [if_neg (by simp only [List.length_append,List.length_singleton]; omega)];simp [lnI]
            have hpW:=qgz (WP j)
            have htd:fzV 115 (gf4 115) (P.map lnI ++ [.agg [.int .i64 (n:Int),.int .i64 (j:Int)]]) (tdV 129 gO O1) = tdV 129 gO O1:=by
             cases O1 <;> simp [tdV,fzV,V.mapR,fzf]
            refine .frz (g:=gf4 115) (sz:=2) (es:=P.map lnI ++ [.agg [.int .i64 (n:Int),.int .i64 (j:Int)]]) 115 (by simp) hel (.done ⟨⟨n,j + 1,gf6 40,[]⟩,⟨rfl,hj⟩,⟨?_,?_,?_,?_,?_,?_,?_,?_⟩,⟨?_,?_,?_⟩,by dsimp only; omega⟩)
            all_goals try simp [qpx,qh3 hpP,htd,hVPn,hWPn]
            ·simp [fzV,V.mapR]
            ·simp [fzV,V.mapR]
            ·simp [fzV,V.mapR]
            ·simp [fzV,V.mapR]
            ·simp [fzV,V.mapR,fzf]
            ·simp [fzV,V.mapR,fzp]
            ·simp [qmo,Blk.fz,qh3 hpc]
            ·simp [qmo,Blk.fz,qn2 hpW,-List.map_map,hpvn];simp [fzV,V.mapR,fzf];exact ji2 (by simp)
            ·refine qhr (fun A B e=>?_);have hpA:=qiz A;have hpB:=qgz B;simp [qmo,Blk.fz,e,tdH,qh3 hpA,qn2 hpB,-List.map_map]
         ·have hj:j = y.i.length:=by have:=jiz hb2; omega
          subst hj;simp [hwn];exact ⟨⟨n + 1,0,g,pre⟩,⟨s1,hn⟩,⟨by simp,hVPe,rfl,rfl,by rw [hWPe]⟩,⟨⟨rfl,by rw [hWPe]⟩,qhr (fun _ _ e=>by simp [e,tdH])⟩,by dsimp only; omega⟩
        ·have hn:n = c.n.length:=by have:=jiz hb; omega
         subst hn;have hWk:mT c (WN c.n.length)≤k:=by rw [hWNe]; omega
         rw [<- hWNe] at q6;have hstep:=q2.step;rw [hm,<- hWNe] at hstep;simp [hVNe];generalize qjw c m = ob at q6 hstep ⊢;cases ob
         ·simp at q6 hstep;simp [BrB];refine ⟨⟨k,g,pre,WN c.n.length,O1,gO⟩,⟨r1,hstep,hWk,by dsimp only; omega,q5,q6⟩,⟨by simp,rfl⟩,⟨by simp,by cases O1 <;> simp [tdH]⟩,by dsimp only; omega⟩
         ·simp at q6 hstep;rcases O1 with _ | ⟨o,O1⟩
          ·simp at q6 hstep;simp [BrB,tdV,tdH];intro gf1 gf2;refine ⟨⟨k,g,pre,WN c.n.length,[P],gf2 129⟩,⟨r1,hstep,hWk,by dsimp only; omega,by simp,q6⟩,⟨by simp,by simp⟩,⟨by simp,by simp [hcp]⟩,by dsimp only; omega⟩
          ·have hO9:O1.length≤274877906942:=by simp at hO5'; omega
           simp at q6 hstep;simp [BrB,tdV,tdH];intro gf1 gf2;refine ⟨hO9,⟨k,g,pre,WN c.n.length,o :: (O1 ++ [P]),gf2 129⟩,⟨r1,hstep,hWk,by dsimp only; omega,by simp at hO5' ⊢; omega,q6⟩,⟨by simp,by simp⟩,⟨by simp,by simp [hcp,ji2]⟩,by dsimp only; omega⟩
end
section
open Go
theorem qwv (bus:Bool) (g:Gx) (l:List Nd):(qey bus g l).2.length≤3:=by
 unfold qey;dsimp only
 repeat' split
 all_goals simp
def i3 (l:List Nd):Prop:=∀ y ∈ l,y.i.length≤3
theorem qs4 (bus:Bool):∀ (gs:List Gx) (l:List Nd),i3 l->i3 (qdw bus gs l)
 | [],l,h=>h
 | g :: gs,l,h=>by
  rw [qdw];refine qs4 bus gs _ fun y hy=>?_;rcases List.mem_append.1 hy with hy | hy
  ·exact h y hy
  ·rw [List.mem_singleton] at hy;subst hy;simp only [ndN,List.length_map];exact qwv bus g l
theorem q7j (x:Cx):i3 x.st0:=by
 intro y hy;unfold Cx.st0 Cx.st1 at hy;rcases List.mem_append.1 hy with hy | hy
 ·rcases List.mem_append.1 hy with hy | hy
  ·rw [List.eq_of_mem_replicate hy]; exact Nat.zero_le _
  ·rw [List.eq_of_mem_replicate hy]; exact (by decide:1≤3)
 ·split at hy
  ·simp at hy;rcases hy with rfl | rfl <;> simp
  ·simp at hy
theorem q1o (x:Cx):∀ j,i3 (x.ns1 j)/\(x.ns1 j).length = x.nn
 | 0=>⟨qs4 x.bus _ _ (q7j x),rfl⟩
 | j + 1=>by
  obtain ⟨h1,h2⟩:=q1o x j;rw [Cx.ns1];constructor
  ·intro y hy;rcases List.mem_or_eq_of_mem_set hy with hy | hy
   ·exact h1 y hy
   ·subst hy; simp
  ·simp [h2]
theorem q6u (x:Cx):x.ci.nar:=by
 obtain ⟨h1,h2⟩:=q1o x (x.f % 3);refine ⟨?_,?_,qna x⟩
 ·show (x.ns1 (x.f % 3)).length≤16;rw [h2];exact (qk8 x).2.2.2
 ·intro n hn;rw [x.ci.nd_get hn];exact h1 _ (ji3 hn)
end
section
open Go
def allP (c:Ci):List Pth:=qm7 c 68719476736 (qi3 c c.n.length) []
theorem qym {c:Ci} (hg:c.good) (hr:c.nar):mT c (qi3 c c.n.length)≤68719476736:=by
 have hn1:=hr.n;have h1:=qoi c c.n.length;have h2:mT c (qi3 c c.n.length)≤(qi3 c c.n.length).length * 4294967296:=qt1 fun P _=>jam hg hr _;omega
theorem qvx {c:Ci} (hg:c.good) (hr:c.nar):(allP c).length≤5000/\(5000≤(allP c).length∨qt4 c [] (allP c)):=qvw hg hr _ _ _ (qt4.start c) (qym hg hr) (by simp)
theorem q6a (c:Ci) (hg:c.good) (hr:c.nar):qac Tryz.prog gl0 30 [c.v] (.sl ((allP c).map pv) none):=by
 refine (jda c hg hr).wide ⟨VLe.refl _,trivial⟩ ?_;change VLe (qgk ((allP c).map pv)) _
 cases (allP c).map pv with
 | nil=>exact VLe.nil'
 | cons a r=>exact VLe.refl _
end
end Go.Proofs.YtlmniacemoohpaaGreatDoor
