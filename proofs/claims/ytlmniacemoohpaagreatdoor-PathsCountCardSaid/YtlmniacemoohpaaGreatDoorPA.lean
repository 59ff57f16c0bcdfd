/- Paths: the extensions of a path; how many there are at most. No program stands in it. Conditions: none. -/
import Derived.Test.YtlmniacemoohpaaGreatDoorP6
set_option linter.unusedSimpArgs false
set_option linter.unusedVariables false
namespace Go.Proofs.YtlmniacemoohpaaGreatDoor
open Go
structure Ci.nar (c : Ci) : Prop where
 n : c.n.length ≤ 16
 i : ∀ n,n < c.n.length→(c.nd n).i.length ≤ 3
 b : ∀ n,n < c.n.length→∀ y ∈ c.g n,y < n
abbrev Pth:=List Ln
def lastN (P : Pth) : Nat:=(P.getD (P.length - 1) (0,0)).1.toNat
def rdPins (l : List Int) (m n k : Nat) : List Ln:=((List.range k).filter fun (j : Nat)=>decide (l.getD j 0 = (m : Int))).map fun (j : Nat)=>((n : Int),(j : Int))
def extN (c : Ci) (m n : Nat) : List Ln:=if (c.nd n).k = 14 then [] else rdPins (c.nd n).i m n (c.nd n).i.length
def extU (c : Ci) (m k : Nat) : List Ln:=(List.range k).flatMap (extN c m)
def ext (c : Ci) (m : Nat) : List Ln:=extU c m c.n.length
theorem rdPins_succ (l : List Int) (m n k : Nat) : rdPins l m n (k + 1) = rdPins l m n k ++ if l.getD k 0 = (m : Int) then [((n : Int),(k : Int))] else []:=by
 unfold rdPins
 rw [List.range_succ,List.filter_append,List.map_append]
 congr 1
 by_cases h : l.getD k 0 = (m : Int)
 ·rw [if_pos h,List.filter_cons_of_pos (by simpa using h)]; rfl
 ·rw [if_neg h,List.filter_cons_of_neg (by simpa using h)]; rfl
theorem rdPins_len (l : List Int) (m n k : Nat) : (rdPins l m n k).length ≤ k:=by
 unfold rdPins
 rw [List.length_map]
 exact Nat.le_trans (List.length_filter_le _ _) (by simp)
theorem extU_succ (c : Ci) (m k : Nat) : extU c m (k + 1) = extU c m k ++ extN c m k:=by simp [extU,List.range_succ]
theorem mem_rdPins {l : List Int} {m n k : Nat} {a : Ln} : a ∈ rdPins l m n k↔∃ j,j < k∧l.getD j 0 = (m : Int)∧a = ((n : Int),(j : Int)):=by
 simp only [rdPins,List.mem_map,List.mem_filter,List.mem_range,decide_eq_true_eq]
 constructor
 ·rintro ⟨j,⟨h1,h2⟩,rfl⟩; exact ⟨j,h1,h2,rfl⟩
 ·rintro ⟨j,h1,h2,rfl⟩; exact ⟨j,⟨h1,h2⟩,rfl⟩
theorem mem_extU {c : Ci} {m k : Nat} {a : Ln} : a ∈ extU c m k↔∃ n j : Nat,n < k∧(c.nd n).k ≠ 14∧j < (c.nd n).i.length∧(c.nd n).i.getD j 0 = (m : Int)∧a = ((n : Int),(j : Int)):=by
 simp only [extU,List.mem_flatMap,List.mem_range]
 constructor
 ·rintro ⟨n,hn,h⟩
  unfold extN at h
  split at h
  ·simp at h
  ·rename_i hk
   obtain ⟨j,h1,h2,rfl⟩:=mem_rdPins.1 h
   exact ⟨n,j,hn,hk,h1,h2,rfl⟩
 ·rintro ⟨n,j,hn,hk,h1,h2,rfl⟩
  exact ⟨n,hn,by unfold extN; rw [if_neg hk]; exact mem_rdPins.2 ⟨j,h1,h2,rfl⟩⟩
theorem ext_up {c : Ci} (hg : c.good) (hr : c.nar) {m k : Nat} (hk : k ≤ c.n.length) {a : Ln} (h : a ∈ extU c m k) : ∃ n : Nat,a.1 = (n : Int)∧m < n∧n < k:=by
 obtain ⟨n,j,hn,hk14,hj,hm,rfl⟩:=mem_extU.1 h
 refine ⟨n,rfl,?_,hn⟩
 have hnN : n < c.n.length:=by omega
 refine hr.b n hnN m ?_
 rw [g_nd hg hnN hk14,List.mem_map]
 refine ⟨(c.nd n).i[j],List.getElem_mem hj,?_⟩
 rw [List.getD_eq_getElem?_getD,List.getElem?_eq_getElem hj] at hm
 simp only [Option.getD_some] at hm
 rw [hm]; rfl
def tsF (c : Ci) : Nat→Nat→Nat
 | 0,_=>1
 | k + 1,m=>1 + ((ext c m).map fun l=>tsF c k l.1.toNat).sum
def ts (c : Ci) (m : Nat) : Nat:=tsF c c.n.length m
theorem map_sum_congr {α : Type} {f g : α→Nat} : ∀ {l : List α},(∀ x ∈ l,f x = g x)→(l.map f).sum = (l.map g).sum
 | [],_=>rfl
 | a :: l,h=>by simp only [List.map_cons,List.sum_cons]; rw [h a List.mem_cons_self,map_sum_congr fun x hx=>h x (List.mem_cons_of_mem _ hx)]
theorem tsF_eq {c : Ci} (hg : c.good) (hr : c.nar) : ∀ k m,c.n.length ≤ m + k→tsF c k m = tsF c (k + 1) m
  | 0,m,h=>by
    have : ext c m = []:=by
      cases he : ext c m with
      | nil=>rfl
      | cons a r=>
        obtain ⟨n, -, h1, h2⟩ := ext_up hg hr (Nat.le_refl _) (show a ∈ extU c m c.n.length by have : a ∈ ext c m := by rw [he]; exact List.mem_cons_self
                                                                                               exact this)
        omega
    simp [tsF,this]
  | k + 1,m,h=>by
    rw [tsF,tsF]
    congr 1
    refine map_sum_congr fun l hl=>?_
    obtain ⟨n,h1,h2,h3⟩:=ext_up hg hr (Nat.le_refl _) hl
    rw [h1,Int.toNat_natCast]
    exact tsF_eq hg hr k n (by omega)
theorem ts_eq {c : Ci} (hg : c.good) (hr : c.nar) (m : Nat) : ts c m = 1 + ((ext c m).map fun l=>ts c l.1.toNat).sum:=by
 have h:=tsF_eq hg hr c.n.length m (by omega)
 unfold ts
 conv=>lhs; rw [h]
 rfl
theorem sum_app (a b : List Nat) : (a ++ b).sum = a.sum + b.sum:=by simp
theorem sum_le {α : Type} {f : α→Nat} {B : Nat} : ∀ {l : List α},(∀ x ∈ l,f x ≤ B)→(l.map f).sum ≤ l.length * B
 | [],_=>by simp
 | a :: l,h=>by
  simp only [List.map_cons,List.sum_cons,List.length_cons,Nat.add_mul,Nat.one_mul]
  have h1:=h a List.mem_cons_self
  have h2:=sum_le fun x hx=>h x (List.mem_cons_of_mem _ hx)
  omega
theorem extU_low {c : Ci} (hg : c.good) (hr : c.nar) {m k : Nat} (hk : k ≤ c.n.length) (h : k ≤ m + 1) : extU c m k = []:=by
 cases he : extU c m k with
 | nil=>rfl
 | cons a r=>
  obtain ⟨n,-,h1,h2⟩:=ext_up hg hr hk (show a ∈ extU c m k by rw [he]; exact List.mem_cons_self)
  omega
theorem ts_le {c : Ci} (hg : c.good) (hr : c.nar) : ∀ d m,c.n.length ≤ m + d→ts c m ≤ 4 ^ d:=by
 intro d
 induction d using Nat.strongRecOn with
 | ind d ih=>
  intro m h
  rw [ts_eq hg hr]
  have key : ∀ t,m + 1 + t ≤ c.n.length→((extU c m (m + 1 + t)).map fun l=>ts c l.1.toNat).sum + 4 ^ (d - t) ≤ 4 ^ d:=by
   intro t
   induction t with
   | zero=>intro h1; rw [extU_low hg hr h1 (Nat.le_refl _)]; simp
   | succ t iht=>
    intro h1
    have h2:=iht (by omega)
    rw [show m + 1 + (t + 1) = m + 1 + t + 1 by omega,extU_succ,List.map_append,sum_app]
    have hts:=ih (d - (t + 1)) (by omega) (m + 1 + t) (by omega)
    have h3 : ((extN c m (m + 1 + t)).map fun l=>ts c l.1.toNat).sum ≤ 3 * 4 ^ (d - (t + 1)):=by
     have hl : (extN c m (m + 1 + t)).length ≤ 3:=by
      unfold extN
      split
      ·simp
      ·exact Nat.le_trans (rdPins_len _ _ _ _) (hr.i _ (by omega))
     refine Nat.le_trans (sum_le (B:=4 ^ (d - (t + 1))) fun a ha=>?_) (Nat.mul_le_mul_right _ hl)
     unfold extN at ha
     split at ha
     ·simp at ha
     ·obtain ⟨j,-,-,rfl⟩:=mem_rdPins.1 ha
      simp only [Int.toNat_natCast]
      exact hts
    have h4 : 4 ^ (d - t) = 4 * 4 ^ (d - (t + 1)):=by
     rw [show d - t = d - (t + 1) + 1 by omega,Nat.pow_succ,Nat.mul_comm]
    omega
  by_cases hm : m + 1 ≤ c.n.length
  ·have h1:=key (c.n.length - (m + 1)) (by omega)
   rw [show m + 1 + (c.n.length - (m + 1)) = c.n.length by omega] at h1
   have h2 : 0 < 4 ^ (d - (c.n.length - (m + 1))):=Nat.pow_pos (by omega)
   unfold ext
   omega
  ·have h2 : 0 < 4 ^ d:=Nat.pow_pos (by omega)
   unfold ext
   rw [extU_low hg hr (Nat.le_refl _) (by omega)]
   simp only [List.map_nil,List.sum_nil]
   omega
def mT (c : Ci) (T : List Pth) : Nat:=(T.map fun P=>ts c (lastN P)).sum
theorem ts_pos (c : Ci) (m : Nat) : 1 ≤ ts c m:=by
 unfold ts
 cases c.n.length with
 | zero=>exact Nat.le_refl _
 | succ k=>rw [tsF]; omega
theorem mT_len (c : Ci) : ∀ T : List Pth,T.length ≤ mT c T
 | []=>Nat.zero_le _
 | P :: T=>by
  have h1:=mT_len c T
  have h2:=ts_pos c (lastN P)
  simp only [mT,List.map_cons,List.sum_cons,List.length_cons] at h1 ⊢
  omega
theorem mT_app (c : Ci) (A B : List Pth) : mT c (A ++ B) = mT c A + mT c B:=by simp [mT]
theorem mT_cons (c : Ci) (P : Pth) (A : List Pth) : mT c (P :: A) = ts c (lastN P) + mT c A:=by simp [mT]
theorem lastN_snoc (P : Pth) (l : Ln) : lastN (P ++ [l]) = l.1.toNat:=by
 unfold lastN
 simp
theorem mT_ext (c : Ci) (P : Pth) (E : List Ln) : mT c (E.map fun l=>P ++ [l]) = (E.map fun l=>ts c l.1.toNat).sum:=by
 unfold mT
 rw [List.map_map]
 exact map_sum_congr fun l _=>by simp [lastN_snoc]
theorem pow_416 : 4 ^ 16 = 4294967296:=by decide
theorem ts_16 {c : Ci} (hg : c.good) (hr : c.nar) (m : Nat) : ts c m ≤ 4294967296:=by
 rw [← pow_416]
 exact ts_le hg hr 16 m (by have:=hr.n; omega)
end Go.Proofs.YtlmniacemoohpaaGreatDoor
namespace Go.Proofs.YtlmniacemoohpaaGreatDoor
open Go
structure PP (c : Ci) (P : Pth) : Prop where
 ne : 0 < P.length
 l : ∀ i,i < P.length→lnk c P i = true
theorem isPB_iff {c : Ci} {P : Pth} : isPB c P = true↔PP c P∧obsF c (lastN P) = true:=by
 constructor
 ·intro h
  obtain ⟨h1,h2⟩:=isPB_lnk h
  simp only [isPB,Bool.and_eq_true] at h
  exact ⟨⟨h1,h2⟩,h.2⟩
 ·rintro ⟨⟨h1,h2⟩,h3⟩
  simp only [isPB,Bool.and_eq_true,decide_eq_true_eq,List.all_eq_true,List.mem_range]
  exact ⟨⟨h2,h1⟩,h3⟩
theorem getD_app {P R : Pth} {i : Nat} (h : i < P.length) : (P ++ R).getD i (0,0) = P.getD i (0,0):=by
 rw [List.getD_eq_getElem?_getD,List.getD_eq_getElem?_getD,List.getElem?_append_left h]
theorem lnk_app {c : Ci} {P R : Pth} {i : Nat} (h : i < P.length) : lnk c (P ++ R) i = lnk c P i:=by
 unfold lnk
 rw [getD_app h,getD_app (by omega : i - 1 < P.length)]
theorem getD_last {P : Pth} {l : Ln} : (P ++ [l]).getD P.length (0,0) = l:=by simp [List.getD_eq_getElem?_getD]
theorem pp_app {c : Ci} {P R : Pth} (h0 : 0 < P.length) (h : PP c (P ++ R)) : PP c P:=⟨h0,fun i hi=>by rw [← lnk_app (R:=R) hi]; exact h.l i (by simp; omega)⟩
theorem pp_last {c : Ci} {P : Pth} (h : PP c P) : (P.getD (P.length - 1) (0,0)).1 = (lastN P : Int)∧lastN P < c.n.length:=by
 have h1:=h.l (P.length - 1) (by have:=h.ne; omega)
 unfold lnk at h1
 simp only [Bool.and_eq_true,decide_eq_true_eq] at h1
 obtain ⟨⟨h2,h3⟩,-⟩:=h1
 unfold lastN
 rw [Int.toNat_of_nonneg h2]
 exact ⟨rfl,by omega⟩
theorem lnk_snoc {c : Ci} {P : Pth} (h : PP c P) {l : Ln} : lnk c (P ++ [l]) P.length = true↔l ∈ ext c (lastN P):=by
 obtain ⟨e1,e2⟩:=pp_last h
 have hne:=h.ne
 have hg1 : (P ++ [l]).getD (P.length - 1) (0,0) = P.getD (P.length - 1) (0,0):=getD_app (by omega)
 unfold lnk
 rw [getD_last,hg1,e1,if_neg (by omega)]
 unfold ext
 rw [mem_extU]
 simp only [Bool.and_eq_true,decide_eq_true_eq,Bool.not_eq_true',decide_eq_false_iff_not]
 obtain ⟨a,b⟩:=l
 constructor
 ·rintro ⟨⟨h1,h2⟩,⟨⟨h3,h4⟩,h5⟩,h6⟩
  simp only at h1 h2 h3 h4 h5 h6
  refine ⟨a.toNat,b.toNat,by omega,h3,by omega,h6,?_⟩
  rw [Int.toNat_of_nonneg h1,Int.toNat_of_nonneg h4]
 ·rintro ⟨n,j,h1,h2,h3,h4,he⟩
  simp only [Prod.mk.injEq] at he
  obtain ⟨rfl,rfl⟩:=he
  simp only [Int.toNat_natCast]
  exact ⟨⟨by omega,by omega⟩,⟨⟨h2,by omega⟩,by omega⟩,h4⟩
theorem pp_snoc {c : Ci} {P : Pth} (h : PP c P) {l : Ln} (hl : l ∈ ext c (lastN P)) : PP c (P ++ [l]):=by
 refine ⟨by simp,fun i hi=>?_⟩
 by_cases hip : i < P.length
 ·rw [lnk_app hip]; exact h.l i hip
 ·have : i = P.length:=by simp at hi; omega
  subst this
  exact (lnk_snoc h).2 hl
theorem pp_one {c : Ci} {n : Nat} (hn : n < c.n.length) (hs : srcB (c.nd n) = true) : PP c [((n : Int),-1)]:=by
 refine ⟨by simp,fun i hi=>?_⟩
 obtain rfl : i = 0:=by simp at hi; exact hi
 unfold lnk
 simp [hn,hs]
def obsA (c : Ci) (m : Nat) : Bool:=(c.o.any fun x=>decide (x = (m : Int))) || (List.range c.n.length).any fun n=>decide ((c.nd n).k = 14) && (c.nd n).i.any fun x=>decide (x = (m : Int))
theorem obsA_eq {c : Ci} (hg : c.good) (m : Nat) : obsA c m = obsF c m:=by
 unfold obsA obsF
 congr 1
 rw [Bool.eq_iff_iff,List.any_eq_true,List.any_eq_true]
 constructor
 ·rintro ⟨n,hn,h⟩
  simp only [Bool.and_eq_true,decide_eq_true_eq,List.any_eq_true] at h
  obtain ⟨hk,x,hx,he⟩:=h
  have hn':=List.mem_range.1 hn
  have hm : n ∈ ids 14 c.n 0:=(ids_mem 14 c.n 0 n).2 ⟨n,hn',by omega,by rw [← c.nd_get hn']; exact hk⟩
  obtain ⟨hn2,y,hy,h1,h2,-⟩:=nd_dff hg hm
  refine ⟨n,hm,?_⟩
  rw [c.nd_get hn',hy] at hx
  have hxy : x = y:=by simpa using hx
  have : dffIn c n = m:=by
   unfold dffIn
   rw [c.nd_get hn',hy]
   simp only [List.getD_cons_zero]
   omega
  simpa using this
 ·rintro ⟨n,hm,h⟩
  obtain ⟨hn',y,hy,h1,h2,hk⟩:=nd_dff hg hm
  refine ⟨n,List.mem_range.2 hn',?_⟩
  unfold dffIn at h
  rw [c.nd_get hn',hy] at h
  rw [c.nd_get hn',hy]
  simp only [List.getD_cons_zero,decide_eq_true_eq] at h
  simp only [Bool.and_eq_true,decide_eq_true_eq,List.any_cons,List.any_nil,Bool.or_false]
  exact ⟨hk,by omega⟩
structure AllI (c : Ci) (T O : List Pth) : Prop where
 t : ∀ P ∈ T,PP c P
 o : ∀ P ∈ O,isPB c P = true
 all : ∀ Q,isPB c Q = true→Q ∈ O∨∃ P R,P ∈ T∧Q = P ++ R
theorem AllI.step {c : Ci} {P : Pth} {T O : List Pth} (h : AllI c (P :: T) O) : AllI c (T ++ (ext c (lastN P)).map fun l=>P ++ [l]) (O ++ if obsF c (lastN P) = true then [P] else []):=by
 have hP:=h.t P List.mem_cons_self
 refine ⟨fun Q hQ=>?_,fun Q hQ=>?_,fun Q hQ=>?_⟩
 ·rcases List.mem_append.1 hQ with hQ | hQ
  ·exact h.t Q (List.mem_cons_of_mem _ hQ)
  ·obtain ⟨l,hl,rfl⟩:=List.mem_map.1 hQ
   exact pp_snoc hP hl
 ·rcases List.mem_append.1 hQ with hQ | hQ
  ·exact h.o Q hQ
  ·split at hQ
   ·rename_i ho
    rw [List.mem_singleton] at hQ
    subst hQ
    exact isPB_iff.2 ⟨hP,ho⟩
   ·simp at hQ
 ·rcases h.all Q hQ with hQ1 | ⟨P1,R,hP1,rfl⟩
  ·exact .inl (List.mem_append.2 (.inl hQ1))
  ·rcases List.mem_cons.1 hP1 with rfl | hP1
   ·obtain ⟨hpp,hob⟩:=isPB_iff.1 hQ
    cases R with
    | nil=>
     rw [List.append_nil] at hob ⊢
     exact .inl (List.mem_append.2 (.inr (by rw [if_pos hob]; exact List.mem_singleton.2 rfl)))
    | cons l R=>
     have h1 : PP c (P1 ++ [l]):=by
      refine pp_app (R:=R) (by simp) ?_
      rw [List.append_assoc]
      exact hpp
     have h2:=h1.l P1.length (by simp)
     refine .inr ⟨P1 ++ [l],R,List.mem_append.2 (.inr (List.mem_map.2 ⟨l,(lnk_snoc hP).1 h2,rfl⟩)),by simp⟩
   ·exact .inr ⟨P1,R,List.mem_append.2 (.inl hP1),rfl⟩
def srcT (c : Ci) (k : Nat) : List Pth:=((List.range k).filter fun n=>srcB (c.nd n)).map fun (n : Nat)=>[((n : Int),-1)]
theorem srcT_succ (c : Ci) (k : Nat) : srcT c (k + 1) = srcT c k ++ if srcB (c.nd k) = true then [[((k : Int),-1)]] else []:=by
 unfold srcT
 rw [List.range_succ,List.filter_append,List.map_append]
 congr 1
 by_cases h : srcB (c.nd k) = true
 ·rw [if_pos h]; simp [h]
 ·rw [if_neg h]; simp [h]
theorem srcT_len (c : Ci) (k : Nat) : (srcT c k).length ≤ k:=by
 unfold srcT
 rw [List.length_map]
 exact Nat.le_trans (List.length_filter_le _ _) (by simp)
theorem AllI.start (c : Ci) : AllI c (srcT c c.n.length) []:=by
 refine ⟨fun P hP=>?_,fun P hP=>by simp at hP,fun Q hQ=>?_⟩
 ·obtain ⟨n,hn,rfl⟩:=List.mem_map.1 hP
  obtain ⟨h1,h2⟩:=List.mem_filter.1 hn
  exact pp_one (List.mem_range.1 h1) h2
 ·obtain ⟨h1,h2⟩:=isPB_lnk hQ
  obtain ⟨n,hn,hnN,hs⟩:=lnk_src h1 (h2 0 h1)
  cases Q with
  | nil=>simp at h1
  | cons l R=>
   simp only [List.getElem_cons_zero] at hn
   subst hn
   exact .inr ⟨[((n : Int),-1)],R,List.mem_map.2 ⟨n,List.mem_filter.2 ⟨List.mem_range.2 hnN,hs⟩,rfl⟩,rfl⟩
theorem AllI.fin {c : Ci} {O : List Pth} (h : AllI c [] O) (Q : Pth) : isPB c Q = true↔Q ∈ O:=
 ⟨fun hQ=>(h.all Q hQ).elim id fun ⟨P,R,hP,_⟩=>by simp at hP,h.o Q⟩
theorem pp_len {c : Ci} (hg : c.good) (hr : c.nar) {P : Pth} (h : PP c P) : P.length ≤ c.n.length:=by
 have key : ∀ i,i < P.length→∃ n : Nat,(P.getD i (0,0)).1 = (n : Int)∧i ≤ n∧n < c.n.length:=by
  intro i
  induction i with
  | zero=>
   intro hi
   obtain ⟨n,hn,hnN,-⟩:=lnk_src hi (h.l 0 hi)
   exact ⟨n,by rw [List.getD_eq_getElem?_getD,List.getElem?_eq_getElem hi,Option.getD_some,hn],by omega,hnN⟩
  | succ i ih=>
   intro hi
   obtain ⟨n,h1,h2,h3⟩:=ih (by omega)
   obtain ⟨m,q,e1,e2,e3,e4,e5⟩:=lnk_pin hg hi (h.l (i + 1) hi)
   rw [List.getD_eq_getElem?_getD,List.getElem?_eq_getElem (by omega),Option.getD_some] at h1
   rw [h1] at e5
   have hy:=hr.b m e2 ((c.g m)[q]) (List.getElem_mem e4)
   rw [List.getD_eq_getElem?_getD,List.getElem?_eq_getElem e4,Option.getD_some] at e5
   refine ⟨m,by rw [List.getD_eq_getElem?_getD,List.getElem?_eq_getElem hi,Option.getD_some,e1],by omega,e2⟩
 have hne:=h.ne
 obtain ⟨n,-,h1,h2⟩:=key (P.length - 1) (by omega)
 omega
end Go.Proofs.YtlmniacemoohpaaGreatDoor
namespace Go.Proofs.YtlmniacemoohpaaGreatDoor
open Go
def pv (P : Pth) : V:=.sl (P.map lnI) (if P.length = 1 then some 1 else none)
theorem pv_pure (P : Pth) : (pv P).pure = true:=by simp [pv,V.pure,lnI_pure]
theorem pvs_pure (T : List Pth) : V.pureL (T.map pv) = true:=by
 induction T with
 | nil=>rfl
 | cons P T ih=>simp only [List.map_cons,V.pureL,pv_pure,ih,Bool.and_self]
def tdV (b g : Nat) (T : List Pth) : V:=match T with | []=>.nil | P :: R=>.ref b g 0 (R.length + 1) none
def tdH (b g : Nat) (T : List Pth) : Hp:=match T with | []=>[] | P :: R=>[(b,.row g 1 (pv P :: R.map pv))]
theorem extU_len {c : Ci} (hr : c.nar) (m : Nat) : ∀ n,n ≤ c.n.length→(extU c m n).length ≤ 3 * n:=by
 intro n
 induction n with
 | zero=>intro _; simp [extU]
 | succ n ih=>
  intro hn
  have h1:=ih (by omega)
  have h2 : (extN c m n).length ≤ 3:=by
   unfold extN
   split
   ·simp
   ·exact Nat.le_trans (rdPins_len _ _ _ _) (hr.i n (by omega))
  rw [extU_succ,List.length_append]
  omega
def allF (c : Ci) : Nat→List Pth→List Pth→List Pth
 | 0,_,O=>O
 | _ + 1,[],O=>O
 | k + 1,P :: T,O=>if O.length < 5000 then allF c k (T ++ (ext c (lastN P)).map fun l=>P ++ [l]) (O ++ if obsF c (lastN P) = true then [P] else []) else O
theorem mT_step {c : Ci} (hg : c.good) (hr : c.nar) (P : Pth) (T : List Pth) : mT c (T ++ (ext c (lastN P)).map fun l=>P ++ [l]) + 1 = mT c (P :: T):=by
 rw [mT_app,mT_ext,mT_cons,ts_eq hg hr (lastN P)]
 omega
theorem allF_prop {c : Ci} (hg : c.good) (hr : c.nar) : ∀ k T O,AllI c T O→mT c T ≤ k→O.length ≤ 5000→(allF c k T O).length ≤ 5000∧(5000 ≤ (allF c k T O).length∨AllI c [] (allF c k T O)):=by
 intro k
 induction k with
 | zero=>
  intro T O h hm ho
  have : T = []:=by
   have:=mT_len c T
   exact List.length_eq_zero_iff.1 (by omega)
  subst this
  exact ⟨ho,.inr h⟩
 | succ k ih=>
  intro T O h hm ho
  cases T with
  | nil=>exact ⟨ho,.inr h⟩
  | cons P T=>
   rw [allF]
   split
   ·rename_i hlt
    refine ih _ _ h.step ?_ ?_
    ·have:=mT_step hg hr P T; omega
    ·split <;> simp <;> omega
   ·exact ⟨ho,.inl (by omega)⟩
theorem sub_tdH {b g : Nat} {T : List Pth} {h : Hp} (hh : ∀ P R,T = P :: R→lk h b = some (.row g 1 (pv P :: R.map pv))) : Sub (tdH b g T) h:=by
 cases T with
 | nil=>simp [tdH]
 | cons P R=>simpa [tdH] using hh P R rfl
theorem pre_snoc {l : List V} {v : V} (h : V.pureL l = true) (hv : v.pure = true) : V.pureL (l ++ [v]) = true:=by
 induction l with
 | nil=>simp only [List.nil_append,V.pureL,hv,Bool.and_self]
 | cons a l ih=>
  simp only [List.cons_append,V.pureL,Bool.and_eq_true] at h ⊢
  exact ⟨h.1,ih h.2⟩
structure AS2 where
 n : Nat
 j : Nat
 g : Nat
 pre : List V
structure AS where
 k : Nat
 g : Nat
 pre : List V
 T : List Pth
 O : List Pth
 gO : Nat
set_option maxRecDepth 100000 in
set_option maxHeartbeats 4000000 in
theorem all_c (c : Ci) (hg : c.good) (hr : c.nar) : PureC Tryz.prog gl0 30 [c.v] (listV ((allF c 68719476736 (srcT c c.n.length) []).map pv)):=by
 have hn1:=hr.n
 have hcl : c.v.cells = [.sl (c.n.map Nd.v) none,.sl (c.s.map .str) none,.sl (c.m.map Md.v) none,.sl (ints c.o) none]:=rfl
 ·refine PureC.of_W 2 ok30 rfl ?_
  simp [i30,x30]
  intro gf1
  generalize gf1 1 = g1
  refine LoopP.ofM (X:=Nat × Nat) (fun z=>[(5,natV z.1),(4,tdV 40 z.2 (srcT c z.1)),(3,.nil),(1,.ptr 1 g1 0 0)]) (fun z=>(1,.row g1 4 [c.v]) :: tdH 40 z.2 (srcT c z.1))
   (fun z=>z.1 ≤ c.n.length) (fun z=>c.n.length - z.1) ?_ ?_
  ·refine .done ⟨(0,0),by simp,?_,?_⟩
   all_goals simp [natV,srcT,tdV,tdH]
  rintro ⟨k,g⟩ hk
  dsimp only at hk
  simp [natV]
  refine BrB.of (fun hb=>?_) (fun hb=>?_)
  ·have hk' : k < c.n.length:=of_decide_eq_true hb
   have hw:=wrapN k (by omega)
   obtain ⟨y,hy⟩ : ∃ y,c.n[k] = y:=⟨_,rfl⟩
   have hs:=srcT_succ c k
   rw [c.nd_get hk',hy] at hs
   have hlen:=srcT_len c k
   obtain ⟨T2,hT2⟩ : ∃ T,srcT c (k + 1) = T:=⟨_,rfl⟩
   rw [hT2] at hs
   generalize hT1 : srcT c k = T1 at hs hlen ⊢
   simp [hk',hy]
   by_cases h0 : y.k = 0
   case' pos=>
    have hsb : srcB y = true:=by unfold srcB; simp [h0]
    rw [if_pos hsb] at hs
    simp [h0]
   case' neg=>
    by_cases h14 : y.k = 14
    case' pos=>
     have hsb : srcB y = true:=by unfold srcB; simp [h14]
     rw [if_pos hsb] at hs
     simp [h14,hk',hy]
    case' neg=>
     have hsb : srcB y = false:=by unfold srcB; simp [h0,h14]
     rw [hsb] at hs
     simp at hs
     simp [h0,h14,hk',hy,hw]
     refine .done ⟨k + 1,hk',g,⟨by simp,by simp [hT2,hs],by simp,by simp⟩,⟨by simp,by rw [hT2,hs]; cases T1 <;> simp [tdH]⟩,by omega⟩
   all_goals
    subst hs
    intro gf38 gf39 gf40
    have hpc:=ci_pure2 c
    rcases T1 with _ | ⟨P,R⟩
    ·simp [tdV,tdH,hw]
     refine .frz (g:=gf38 38) (sz:=2) (es:=[.agg [.int .i64 (k : Int),.int .i64 (-1)]]) 38 (by simp) (by simp) (.done ⟨k + 1,hk',gf40 40,⟨?_,?_,?_,?_⟩,⟨?_,?_⟩,by omega⟩)
     all_goals simp [hT2,lk_fzF,lk_fzH,fzV,fzf,fzp,V.mapR,Blk.fz,mapR_pure _ hpc,pv,lnI]
    ·have hRl : R.length ≤ 274877906942:=by simp at hlen; omega
     have hR:=pvs_pure R
     have hP:=pv_pure P
     have htk : (R.map pv).take R.length = R.map pv:=List.take_of_length_le (by simp)
     simp [tdV,tdH,hw,hRl,htk]
     refine .frz (g:=gf38 38) (sz:=2) (es:=[.agg [.int .i64 (k : Int),.int .i64 (-1)]]) 38 (by simp) (by simp) (.done ⟨k + 1,hk',gf40 40,⟨?_,?_,?_,?_⟩,⟨?_,?_⟩,by omega⟩)
     all_goals simp [hT2,lk_fzF,lk_fzH,Blk.fz,map_fzV hR,fzV_pure hP,-List.map_map]
     all_goals simp [fzV,fzf,fzp,V.mapR,mapR_pure _ hpc,pv,lnI]
  ·have hk' : k = c.n.length:=by have:=of_decide_eq_false hb; omega
   subst hk'
   have hm0 : mT c (srcT c c.n.length) ≤ 68719476736:=by
    have h1:=srcT_len c c.n.length
    have h2 : mT c (srcT c c.n.length) ≤ (srcT c c.n.length).length * 4294967296:=sum_le fun P _=>ts_16 hg hr _
    omega
   have hi0:=AllI.start c
   obtain ⟨R,hR⟩ : ∃ R,allF c 68719476736 (srcT c c.n.length) [] = R:=⟨_,rfl⟩
   rw [hR]
   generalize srcT c c.n.length = T0 at hm0 hi0 hR ⊢
   rcases T0 with _ | ⟨P0,T0⟩
   ·have hRe : R = []:=by rw [← hR]; rfl
    subst hRe
    simp [tdV,tdH]
    refine LoopP.of (X:=Unit) (fun _=>[(4,.nil),(3,.nil),(1,.ptr 1 g1 0 0)]) (fun _=>[(1,.row g1 4 [c.v])]) (fun _=>True) (fun _=>0) () (by simp) (by simp) (by simp) ?_
    rintro ⟨⟩ -
    simp [listV]
   ·simp [tdV,tdH]
    refine LoopP.of (X:=AS) (fun z=>[(4,.ref 40 z.g z.pre.length z.T.length none),(3,tdV 129 z.gO z.O),(1,.ptr 1 g1 0 0)]) (fun z=>(1,.row g1 4 [c.v]) :: (40,.row z.g 1 (z.pre ++ z.T.map pv)) :: tdH 129 z.gO z.O)
     (fun z=>V.pureL z.pre = true∧AllI c z.T z.O∧mT c z.T ≤ z.k∧z.k ≤ 68719476736∧z.O.length ≤ 5000∧allF c z.k z.T z.O = R) (fun z=>z.k) ⟨68719476736,g,[],P0 :: T0,[],0⟩ ⟨by simp,hi0,hm0,Nat.le_refl _,by simp,hR⟩ (by simp [tdV]) (by simp [tdH]) ?_
    rintro ⟨k,g,pre,T,O,gO⟩ ⟨q1,q2,q3,q4,q5,q6⟩
    dsimp only at q1 q2 q3 q4 q5 q6
    rcases T with _ | ⟨P,T⟩
    ·have hO : O = R:=by rw [← q6]; cases k <;> rfl
     subst hO
     rcases O with _ | ⟨o,O⟩
     ·simp [tdV,tdH,listV]
     ·have hp:=pv_pure o
      have hp2:=pvs_pure O
      have htk : (O.map pv).take O.length = O.map pv:=List.take_of_length_le (by simp)
      simp [tdV,tdH,listV,q1,mapR_pure _ hp,map_frz_pure hp2,htk,-List.map_map]
    ·obtain ⟨k,rfl⟩ : ∃ k',k = k' + 1:=⟨k - 1,by have:=mT_len c (P :: T); simp at this; omega⟩
     have hPP:=q2.t P List.mem_cons_self
     obtain ⟨hl1,hl2⟩:=pp_last hPP
     have hPl:=pp_len hg hr hPP
     have hPn:=hPP.ne
     have hTl:=mT_len c (P :: T)
     simp only [List.length_cons] at hTl
     by_cases hO5 : O.length < 5000
     case neg=>
      have hO : O = R:=by rw [← q6,allF,if_neg hO5]
      subst hO
      rcases O with _ | ⟨o,O⟩
      ·simp at hO5
      ·have hp:=pv_pure o
       have hp2:=pvs_pure O
       have htk : (O.map pv).take O.length = O.map pv:=List.take_of_length_le (by simp)
       simp only [List.length_cons] at hO5
       have hO6 : decide ((O.length : Int) + 1 < 5000) = false:=decide_eq_false (by omega)
       simp [tdV,tdH,listV,q1,hO6,BrB,mapR_pure _ hp,map_frz_pure hp2,htk,-List.map_map]
       try simp [tdV,tdH,listV,q1,mapR_pure _ hp,map_frz_pure hp2,htk,-List.map_map]
     case pos=>
      rw [allF,if_pos hO5] at q6
      have hpP:=pv_pure P
      obtain ⟨cp,hcp⟩ : ∃ cp,pv P = .sl (P.map lnI) cp:=⟨_,rfl⟩
      rw [hcp] at hpP
      have hPe : P[P.length - 1]? = some ((lastN P : Int),(P.getD (P.length - 1) (0,0)).2):=by
       rw [List.getElem?_eq_getElem (by omega)]
       rw [List.getD_eq_getElem?_getD,List.getElem?_eq_getElem (by omega),Option.getD_some] at hl1 ⊢
       rw [← hl1]
      have hws : IntKind.i64.wrap ((P.length : Int) - 1) = ((P.length - 1 : Nat) : Int):=subN (p:=P.length - 1) (b:=1) (by omega) (by omega)
      obtain ⟨O1,hO1⟩ : ∃ O1,O1 = O:=⟨O,rfl⟩
      rw [← hO1] at q2 q5 q6
      have hO5':=hO5
      rw [← hO1] at hO5'
      have hoE:=obsA_eq hg (lastN P)
      have hTs:=mT_step hg hr P T
      generalize (P.getD (P.length - 1) (0,0)).2 = lp at hPe
      obtain ⟨m,hm⟩ : ∃ m,lastN P = m:=⟨_,rfl⟩
      rw [hm] at hPe hl2 hoE hTs q6
      have hPm : P.length - 1 < P.length:=by omega
      have hPf : (P[P.length - 1]'hPm).1 = (m : Int):=by rw [List.getElem?_eq_getElem hPm] at hPe; simp at hPe; simp [hPe]
      obtain ⟨VO,hVO⟩ : ∃ f : Nat→Bool,∀ i,f i = (c.o.take i).any fun x=>decide (x = (m : Int)):=⟨_,fun _=>rfl⟩
      have hVO0 : VO 0 = false:=by rw [hVO]; simp
      have hol : c.o.length ≤ 16384:=(sh_len hg.sh).2.2.2
      have step : ∀ {G C : Prop},(G→C)→G→C:=fun f g=>f g
      refine step (G:=?G) ?a ?b
      case a=>
       intro hkey
       rcases O with _ | ⟨o,O⟩
       case' nil=>simp [tdV,tdH,hcp,hws,hPe,hPm,hPf,lnI]
       case' cons=>
        simp only [List.length_cons] at hO5
        have hO6 : decide ((O.length : Int) + 1 < 5000) = true:=decide_eq_true (by omega)
        simp [tdV,tdH,hO6,BrB,hcp,hws,hPe,hPm,hPf,lnI]
       all_goals
        refine LoopP.of (X:=Nat) (fun i=>[(9,natV i),(8,.bool (VO i)),(7,natV m),(6,.sl (P.map lnI) cp),(4,.ref 40 g (pre.length + 1) T.length none),(3,tdV 129 gO O1),(1,.ptr 1 g1 0 0)]) (fun _=>(1,.row g1 4 [c.v]) :: (40,.row g 1 (pre ++ .sl (P.map lnI) cp :: T.map pv)) :: tdH 129 gO O1)
         (fun i=>i ≤ c.o.length) (fun i=>c.o.length - i) 0 (by simp) (by simp [natV,hVO0,hO1,tdV]) (by simp [hO1,tdH]) ?_
        exact hkey
      case b=>
       rintro i hi
       simp [natV]
       refine BrB.of (fun hb=>?_) (fun hb=>?_)
       ·have hi' : i < c.o.length:=of_decide_eq_true hb
        have hw:=wrapN i (by omega)
        obtain ⟨x,hx⟩ : ∃ x,c.o[i] = x:=⟨_,rfl⟩
        have hn : VO (i + 1) = (VO i || decide (x = (m : Int))):=by rw [hVO,hVO,List.take_succ_eq_append_getElem hi',hx]; simp
        generalize VO i = va at hn ⊢
        cases va
        case' true=>simp [hw]
        case' false=>simp [hi',ints_getE,hx,hw]
        all_goals exact ⟨i + 1,hi',⟨by simp,by simp [hn]⟩,sub_tdH (fun _ _ e=>by simp [e,tdH]),by omega⟩
       ·have hi' : i = c.o.length:=by have:=of_decide_eq_false hb; omega
        subst hi'
        simp
        obtain ⟨VN,hVN⟩ : ∃ f : Nat→Bool,∀ n,f n = (VO c.o.length || (List.range n).any fun n=>decide ((c.nd n).k = 14) && (c.nd n).i.any fun x=>decide (x = (m : Int))):=⟨_,fun _=>rfl⟩
        have hVN0 : VN 0 = VO c.o.length:=by rw [hVN]; simp
        have hVNe : VN c.n.length = obsF c m:=by
         rw [← hoE,hVN,hVO,List.take_length]; rfl
        obtain ⟨WN,hWN⟩ : ∃ f : Nat→List Pth,∀ n,f n = T ++ (extU c m n).map fun l=>P ++ [l]:=⟨_,fun _=>rfl⟩
        have hWN0 : WN 0 = T:=by rw [hWN]; simp [extU]
        have hWNe : WN c.n.length = T ++ (ext c m).map fun l=>P ++ [l]:=hWN _
        have hWl : ∀ n,n ≤ c.n.length→(WN n).length ≤ 68719476736 + 48:=by
         intro n hn
         have h1:=extU_len hr m n hn
         rw [hWN]
         simp only [List.length_append,List.length_map]
         omega
        refine LoopP.of (X:=AS2) (fun z=>[(10,natV z.n),(8,.bool (VN z.n)),(7,natV m),(6,.sl (P.map lnI) cp),(4,.ref 40 z.g z.pre.length (WN z.n).length none),(3,tdV 129 gO O1),(1,.ptr 1 g1 0 0)]) (fun z=>(1,.row g1 4 [c.v]) :: (40,.row z.g 1 (z.pre ++ (WN z.n).map pv)) :: tdH 129 gO O1)
         (fun z=>V.pureL z.pre = true∧z.n ≤ c.n.length) (fun z=>c.n.length - z.n) ⟨0,0,g,pre ++ [.sl (P.map lnI) cp]⟩ ⟨pre_snoc q1 hpP,by simp⟩ (by simp [natV,hVN0,hWN0]) (by simp [hWN0]; exact sub_tdH (fun _ _ e=>by simp [e,tdH])) ?_
        rintro ⟨n,j,g,pre⟩ ⟨r1,r2⟩
        dsimp only at r1 r2
        simp [natV]
        refine BrB.of (fun hb=>?_) (fun hb=>?_)
        ·have hn : n < c.n.length:=of_decide_eq_true hb
         have hwn:=wrapN n (by omega)
         have hr3:=hr.i n hn
         obtain ⟨y,hy⟩ : ∃ y,c.n[n] = y:=⟨_,rfl⟩
         rw [c.nd_get hn,hy] at hr3
         obtain ⟨VP,hVP⟩ : ∃ f : Nat→Bool,∀ j,f j = (VN n || decide (y.k = 14) && (y.i.take j).any fun x=>decide (x = (m : Int))):=⟨_,fun _=>rfl⟩
         have hVP0 : VP 0 = VN n:=by rw [hVP]; simp
         have hVPe : VP y.i.length = VN (n + 1):=by
          rw [hVP,List.take_length,hVN,hVN,List.range_succ,List.any_append,← Bool.or_assoc]
          simp only [List.any_cons,List.any_nil,Bool.or_false]
          rw [c.nd_get hn,hy]
         obtain ⟨WP,hWP⟩ : ∃ f : Nat→List Pth,∀ j,f j = WN n ++ (if y.k = 14 then [] else rdPins y.i m n j).map fun l=>P ++ [l]:=⟨_,fun _=>rfl⟩
         have hWP0 : WP 0 = WN n:=by rw [hWP]; simp [rdPins]
         have hWPe : WP y.i.length = WN (n + 1):=by
          rw [hWP,hWN,hWN,extU_succ,List.map_append,← List.append_assoc]
          unfold extN
          rw [c.nd_get hn,hy]
         have hWPl : ∀ j,j ≤ 3→(WP j).length ≤ 68719476736 + 60:=by
          intro j hj
          have h1:=hWl n (by omega)
          have h2:=rdPins_len y.i m n j
          rw [hWP]
          simp only [List.length_append,List.length_map]
          split
          ·simp; omega
          ·omega
         simp [hn,hy]
         refine LoopP.ofM (X:=AS2) (fun z=>[(11,natV z.j),(10,natV n),(8,.bool (VP z.j)),(7,natV m),(6,.sl (P.map lnI) cp),(4,.ref 40 z.g z.pre.length (WP z.j).length none),(3,tdV 129 gO O1),(1,.ptr 1 g1 0 0)]) (fun z=>(1,.row g1 4 [c.v]) :: (40,.row z.g 1 (z.pre ++ (WP z.j).map pv)) :: tdH 129 gO O1)
          (fun z=>V.pureL z.pre = true∧z.j ≤ y.i.length) (fun z=>y.i.length - z.j) (.done ⟨⟨n,0,g,pre⟩,⟨r1,by simp⟩,by simp [natV,hVP0,hWP0],by simp [hWP0]; exact sub_tdH (fun _ _ e=>by simp [e,tdH]),⟩) ?_
         rintro ⟨n',j,g,pre⟩ ⟨s1,s2⟩
         dsimp only at s1 s2
         simp [natV,hn,hy]
         refine BrB.of (fun hb2=>?_) (fun hb2=>?_)
         ·have hj : j < y.i.length:=of_decide_eq_true hb2
          have hwj:=wrapN j (by omega)
          have hW3:=hWPl j (by omega)
          obtain ⟨x,hx⟩ : ∃ x,y.i[j] = x:=⟨_,rfl⟩
          have hVPn : VP (j + 1) = (VP j || decide (y.k = 14) && decide (x = (m : Int))):=by
           rw [hVP,hVP,List.take_succ_eq_append_getElem hj,hx,List.any_append,Bool.and_or_distrib_left,Bool.or_assoc]
           simp
          have hgd : y.i.getD j 0 = x:=by rw [List.getD_eq_getElem?_getD,List.getElem?_eq_getElem hj,hx]; rfl
          have hWPn : WP (j + 1) = WP j ++ if y.k = 14 then [] else if x = (m : Int) then [P ++ [((n : Int),(j : Int))]] else []:=by
           rw [hWP,hWP,List.append_assoc,rdPins_succ,hgd]
           congr 1
           split
           ·simp
           ·split <;> simp
          have htk : ∀ l : List Pth,List.take l.length (l.map pv) = l.map pv:=fun l=>List.take_of_length_le (by simp)
          by_cases hxm : x = (m : Int)
          case neg=>
           rw [decide_eq_false hxm,Bool.and_false,Bool.or_false] at hVPn
           rw [if_neg hxm,ite_self,List.append_nil] at hWPn
           simp [hn,hy,hj,ints_getE,hx,hxm,hwj]
           refine .done ⟨⟨n,j + 1,g,pre⟩,⟨s1,hj⟩,by simp [hVPn,hWPn],by simp [hWPn]; exact sub_tdH (fun _ _ e=>by simp [e,tdH]),by dsimp only; omega⟩
          case pos=>
           subst hxm
           by_cases h14 : y.k = 14
           ·rw [if_pos h14,List.append_nil] at hWPn
            simp [h14] at hVPn
            simp [hn,hy,hj,ints_getE,hx,h14,hwj]
            refine .done ⟨⟨n,j + 1,g,pre⟩,⟨s1,hj⟩,by simp [hVPn,hWPn],by simp [hWPn]; exact sub_tdH (fun _ _ e=>by simp [e,tdH]),by dsimp only; omega⟩
           ·rw [if_neg h14,if_pos rfl] at hWPn
            rw [decide_eq_false h14,Bool.false_and,Bool.or_false] at hVPn
            have hall : (P.all ((fun x=>decide (x.cells.length = 2)) ∘ lnI)) = true:=List.all_eq_true.2 fun x _=>rfl
            have hPA : P.length ≤ 274877906944:=by omega
            have hPA1 : P.length ≤ 274877906943:=by omega
            have hWA : (WP j).length ≤ 274877906943:=by omega
            have htl : List.take P.length (P.map lnI) = P.map lnI:=List.take_of_length_le (by simp)
            simp [hn,hy,hj,ints_getE,hx,h14,hwj]
            intro gf1 gf2
            simp [hall,hPA]
            intro gf3 gf4
            refine ⟨hPA1,fun gf5 gf6=>⟨hWA,?_⟩⟩
            rw [htk,htl,hwj]
            have hel : V.pureL (P.map lnI ++ [.agg [.int .i64 (n : Int),.int .i64 (j : Int)]]) = true:=pre_snoc (lnI_pure P) rfl
            have hpc:=ci_pure2 c
            have hpvn : pv (P ++ [((n : Int),(j : Int))]) = .sl (P.map lnI ++ [.agg [.int .i64 (n : Int),.int .i64 (j : Int)]]) none:=by
             unfold pv
             rw [if_neg (by simp only [List.length_append,List.length_singleton]; omega)]
             simp [lnI]
            have hpW:=pvs_pure (WP j)
            have htd : fzV 115 (gf4 115) (P.map lnI ++ [.agg [.int .i64 (n : Int),.int .i64 (j : Int)]]) (tdV 129 gO O1) = tdV 129 gO O1:=by
             cases O1 <;> simp [tdV,fzV,V.mapR,fzf]
            refine .frz (g:=gf4 115) (sz:=2) (es:=P.map lnI ++ [.agg [.int .i64 (n : Int),.int .i64 (j : Int)]]) 115 (by simp) hel (.done ⟨⟨n,j + 1,gf6 40,[]⟩,⟨rfl,hj⟩,⟨?_,?_,?_,?_,?_,?_,?_,?_⟩,⟨?_,?_,?_⟩,by dsimp only; omega⟩)
            all_goals try simp [lk_fzF,fzV_pure hpP,htd,hVPn,hWPn]
            ·simp [fzV,V.mapR]
            ·simp [fzV,V.mapR]
            ·simp [fzV,V.mapR]
            ·simp [fzV,V.mapR]
            ·simp [fzV,V.mapR,fzf]
            ·simp [fzV,V.mapR,fzp]
            ·simp [lk_fzH,Blk.fz,fzV_pure hpc]
            ·simp [lk_fzH,Blk.fz,map_fzV hpW,-List.map_map,hpvn]
             simp [fzV,V.mapR,fzf]
             exact List.take_of_length_le (by simp)
            ·refine sub_tdH (fun A B e=>?_)
             have hpA:=pv_pure A
             have hpB:=pvs_pure B
             simp [lk_fzH,Blk.fz,e,tdH,fzV_pure hpA,map_fzV hpB,-List.map_map]
         ·have hj : j = y.i.length:=by have:=of_decide_eq_false hb2; omega
          subst hj
          simp [hwn]
          exact ⟨⟨n + 1,0,g,pre⟩,⟨s1,hn⟩,⟨by simp,hVPe,rfl,rfl,by rw [hWPe]⟩,⟨⟨rfl,by rw [hWPe]⟩,sub_tdH (fun _ _ e=>by simp [e,tdH])⟩,by dsimp only; omega⟩
        ·have hn : n = c.n.length:=by have:=of_decide_eq_false hb; omega
         subst hn
         have hWk : mT c (WN c.n.length) ≤ k:=by rw [hWNe]; omega
         rw [← hWNe] at q6
         have hstep:=q2.step
         rw [hm,← hWNe] at hstep
         simp [hVNe]
         generalize obsF c m = ob at q6 hstep ⊢
         cases ob
         ·simp at q6 hstep
          simp [BrB]
          refine ⟨⟨k,g,pre,WN c.n.length,O1,gO⟩,⟨r1,hstep,hWk,by dsimp only; omega,q5,q6⟩,⟨by simp,rfl⟩,⟨by simp,by cases O1 <;> simp [tdH]⟩,by dsimp only; omega⟩
         ·simp at q6 hstep
          rcases O1 with _ | ⟨o,O1⟩
          ·simp at q6 hstep
           simp [BrB,tdV,tdH]
           intro gf1 gf2
           refine ⟨⟨k,g,pre,WN c.n.length,[P],gf2 129⟩,⟨r1,hstep,hWk,by dsimp only; omega,by simp,q6⟩,⟨by simp,by simp⟩,⟨by simp,by simp [hcp]⟩,by dsimp only; omega⟩
          ·have hO9 : O1.length ≤ 274877906942:=by simp at hO5'; omega
           simp at q6 hstep
           simp [BrB,tdV,tdH]
           intro gf1 gf2
           refine ⟨hO9,⟨k,g,pre,WN c.n.length,o :: (O1 ++ [P]),gf2 129⟩,⟨r1,hstep,hWk,by dsimp only; omega,by simp at hO5' ⊢; omega,q6⟩,⟨by simp,by simp⟩,⟨by simp,by simp [hcp,List.take_of_length_le]⟩,by dsimp only; omega⟩
end Go.Proofs.YtlmniacemoohpaaGreatDoor
namespace Go.Proofs.YtlmniacemoohpaaGreatDoor
open Go
theorem gateC_len (bus : Bool) (g : Gx) (l : List Nd) : (gateC bus g l).2.length ≤ 3:=by
 unfold gateC
 dsimp only
 repeat' split
 all_goals simp
def i3 (l : List Nd) : Prop:=∀ y ∈ l,y.i.length ≤ 3
theorem i3_gates (bus : Bool) : ∀ (gs : List Gx) (l : List Nd),i3 l→i3 (gatesN bus gs l)
 | [],l,h=>h
 | g :: gs,l,h=>by
  rw [gatesN]
  refine i3_gates bus gs _ fun y hy=>?_
  rcases List.mem_append.1 hy with hy | hy
  ·exact h y hy
  ·rw [List.mem_singleton] at hy
   subst hy
   simp only [ndN,List.length_map]
   exact gateC_len bus g l
theorem i3_st0 (x : Cx) : i3 x.st0:=by
 intro y hy
 unfold Cx.st0 Cx.st1 at hy
 rcases List.mem_append.1 hy with hy | hy
 ·rcases List.mem_append.1 hy with hy | hy
  ·rw [List.eq_of_mem_replicate hy]; exact Nat.zero_le _
  ·rw [List.eq_of_mem_replicate hy]; exact (by decide : 1 ≤ 3)
 ·split at hy
  ·simp at hy
   rcases hy with rfl | rfl <;> simp
  ·simp at hy
theorem i3_ns1 (x : Cx) : ∀ j,i3 (x.ns1 j)∧(x.ns1 j).length = x.nn
 | 0=>⟨i3_gates x.bus _ _ (i3_st0 x),rfl⟩
 | j + 1=>by
  obtain ⟨h1,h2⟩:=i3_ns1 x j
  rw [Cx.ns1]
  constructor
  ·intro y hy
   rcases List.mem_or_eq_of_mem_set hy with hy | hy
   ·exact h1 y hy
   ·subst hy; simp
  ·simp [h2]
theorem ci_nar (x : Cx) : x.ci.nar:=by
 obtain ⟨h1,h2⟩:=i3_ns1 x (x.f % 3)
 refine ⟨?_,?_,ci_below x⟩
 ·show (x.ns1 (x.f % 3)).length ≤ 16
  rw [h2]
  exact (ns0_ok x).2.2.2
 ·intro n hn
  rw [x.ci.nd_get hn]
  exact h1 _ (List.getElem_mem hn)
end Go.Proofs.YtlmniacemoohpaaGreatDoor
namespace Go.Proofs.YtlmniacemoohpaaGreatDoor
open Go
def allP (c : Ci) : List Pth:=allF c 68719476736 (srcT c c.n.length) []
theorem srcT_mT {c : Ci} (hg : c.good) (hr : c.nar) : mT c (srcT c c.n.length) ≤ 68719476736:=by
 have hn1:=hr.n
 have h1:=srcT_len c c.n.length
 have h2 : mT c (srcT c c.n.length) ≤ (srcT c c.n.length).length * 4294967296:=sum_le fun P _=>ts_16 hg hr _
 omega
theorem allP_prop {c : Ci} (hg : c.good) (hr : c.nar) : (allP c).length ≤ 5000∧(5000 ≤ (allP c).length∨AllI c [] (allP c)):=allF_prop hg hr _ _ _ (AllI.start c) (srcT_mT hg hr) (by simp)
theorem allP_c (c : Ci) (hg : c.good) (hr : c.nar) : PureC Tryz.prog gl0 30 [c.v] (.sl ((allP c).map pv) none):=by
 refine (all_c c hg hr).wide ⟨VLe.refl _,trivial⟩ ?_
 change VLe (listV ((allP c).map pv)) _
 cases (allP c).map pv with
 | nil=>exact VLe.nil'
 | cons a r=>exact VLe.refl _
theorem notN_iff {a b : Nat} : (a ≤ 1∧b = notN a)↔¬ (1 < a∨1 < b∨a = b):=by
 unfold notN
 constructor
 ·rintro ⟨h1,h2⟩
  rw [if_pos h1] at h2
  omega
 ·intro h
  have h1 : a ≤ 1:=by omega
  rw [if_pos h1]
  omega
end Go.Proofs.YtlmniacemoohpaaGreatDoor
