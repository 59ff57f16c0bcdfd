/- Circuits evaluated in an order; patterns as data. No program stands in it. Conditions: none. -/
import Derived.Test.YtcmblmkbdenakaaGreatDoorNet13
import Derived.Test.YtcmblmkbdenakaaGreatDoorBase15
import Derived.Test.YtcmblmkbdenakaaGreatDoorNet17
import Derived.Test.YtcmblmkbdenakaaGreatDoorLG
set_option linter.unusedSimpArgs false
set_option linter.unusedVariables false
namespace Go.Proofs.YtcmblmkbdenakaaGreatDoor
open Go
variable {α β : Type}
def evl (ev : Nat→(Nat→α)→α) (cb : Nat→Bool) : List Nat→(Nat→α)→(Nat→α)
 | [],f=>f
 | n :: L,f=>evl ev cb L (if cb n = true then upd1 f n (ev n f) else f)
theorem evl_snoc (ev : Nat→(Nat→α)→α) (cb : Nat→Bool) (n : Nat) : ∀ (L : List Nat) (f : Nat→α),evl ev cb (L ++ [n]) f = if cb n = true then upd1 (evl ev cb L f) n (ev n (evl ev cb L f)) else evl ev cb L f
 | [],_=>rfl
 | m :: L,f=>by simp only [List.cons_append,evl,evl_snoc ev cb n L]
def put : List Nat→List α→(Nat→α)→(Nat→α)
 | n :: ns,v :: vs,f=>put ns vs (upd1 f n v)
 | _,_,f=>f
def ids (k : Int) : List Nd→Nat→List Nat
 | [],_=>[]
 | n :: r,i=>if n.k = k then i :: ids k r (i + 1) else ids k r (i + 1)
theorem ofLs_ids (k : Int) : ∀ (l : List Nd) (i : Nat),ofLs [k] l i = natsV (ids k l i)
 | [],_=>rfl
 | n :: r,i=>by
  simp only [ofLs,ids,List.mem_singleton]
  split <;> simp [ofLs_ids k r (i + 1),natsV,natV]
theorem ids_mem (k : Int) : ∀ (l : List Nd) (i x : Nat),x ∈ ids k l i↔∃ j,∃ h : j < l.length,x = i + j∧l[j].k = k
 | [],i,x=>by simp [ids]
 | n :: r,i,x=>by
  have ih:=ids_mem k r (i + 1) x
  have hsh : (∃ j,∃ h : j < (n :: r).length,x = i + j∧(n :: r)[j].k = k)↔(x = i∧n.k = k)∨∃ j,∃ h : j < r.length,x = i + 1 + j∧r[j].k = k:=by
   constructor
   ·rintro ⟨j,hj,rfl,hk⟩
    cases j with
    | zero=>exact .inl ⟨rfl,hk⟩
    | succ j=>exact .inr ⟨j,by simpa using hj,by omega,hk⟩
   ·rintro (⟨rfl,hk⟩ | ⟨j,hj,rfl,hk⟩)
    ·exact ⟨0,by simp,rfl,hk⟩
    ·exact ⟨j + 1,by simpa using hj,by omega,hk⟩
  rw [hsh,← ih]
  simp only [ids]
  split
  ·rename_i hk; simp [hk]
  ·rename_i hk; simp [hk]
def cnt (k : Int) (l : List Nd) : Nat:=(ids k l 0).length
theorem ids_len (k : Int) : ∀ (l : List Nd) (i : Nat),(ids k l i).length = cnt k l
 | l,0=>rfl
 | [],i + 1=>rfl
 | n :: r,i + 1=>by
  unfold cnt
  simp only [ids]
  split
  ·simp [ids_len k r (i + 2),ids_len k r 1]
  ·simp [ids_len k r (i + 2),ids_len k r 1]
theorem cnt_cons (k : Int) (n : Nd) (r : List Nd) : cnt k (n :: r) = (if n.k = k then 1 else 0) + cnt k r:=by
 rw [cnt,ids]
 split
 ·simp [ids_len k r 1]; omega
 ·simp [ids_len k r 1]
theorem cnt_le (k : Int) : ∀ l : List Nd,cnt k l ≤ l.length
 | []=>by simp [cnt,ids]
 | n :: r=>by
  rw [cnt_cons]
  have:=cnt_le k r
  simp only [List.length_cons]
  split <;> omega
theorem ids_lt {k : Int} {l : List Nd} {x : Nat} (h : x ∈ ids k l 0) : ∃ hx : x < l.length,l[x].k = k:=by
 obtain ⟨j,hj,rfl,hk⟩:=(ids_mem k l 0 x).1 h
 simp only [Nat.zero_add]
 exact ⟨hj,hk⟩
structure Pt where
 i : List Nat
 s : List Nat
def Pt.v (p : Pt) : V:=.agg [.sl (p.i.map u8V) none,.sl (p.s.map u8V) none]
end Go.Proofs.YtcmblmkbdenakaaGreatDoor
namespace Go.Proofs.YtcmblmkbdenakaaGreatDoor
open Go
structure Ci.good (c : Ci) : Prop where
 wf : c.wf
 chk : chkE c = 0
 sh : shE c = 0
 ac : acyc c
 m : c.m = []
 k : ∀ y ∈ c.n,y.k ≠ 15
 n0 : 0 < c.n.length
 n1 : c.n.length ≤ 20
theorem Ci.good.val {c : Ci} (h : c.good) : c.val:=sh_val h.wf h.sh
structure Pt.fit (p : Pt) (c : Ci) : Prop where
 i : p.i.length = cnt 0 c.n
 s : p.s.length = cnt 14 c.n
 iv : ∀ x ∈ p.i,x ≤ 3
 sv : ∀ x ∈ p.s,x ≤ 3
structure Ord (c : Ci) (L : List Nat) : Prop where
 r : InR c.n.length L
 p : L.Pairwise (lexlt (lvOf c))
noncomputable def ordL (c : Ci) : List Nat:=Classical.epsilon fun L=>Ord c L
theorem Ord.eq {c : Ci} {L : List Nat} (h : Ord c L) : ordL c = L:=by
 have h2 : Ord c (ordL c):=Classical.epsilon_spec (p:=fun L=>Ord c L) ⟨L,h⟩
 refine lex_unique h2.p h.p fun x=>?_
 have h1:=nodup_full (lex_nodup h.p) h.r.lt (by have:=h.r.len; omega)
 have h3:=nodup_full (lex_nodup h2.p) h2.r.lt (by have:=h2.r.len; omega)
 exact ⟨fun hx=>h1 x (h2.r.lt x hx),fun hx=>h3 x (h.r.lt x hx)⟩
theorem Ci.good.o {c : Ci} (h : c.good) {x : Int} (hx : x ∈ c.o) : 0 ≤ x∧x < c.n.length:=by
 have h1:=(sh_zero h.sh).2.2.2.2.2
 rw [List.any_eq_false] at h1
 have:=h1 x hx
 simp [outB] at this
 omega
end Go.Proofs.YtcmblmkbdenakaaGreatDoor
namespace Go.Proofs.YtcmblmkbdenakaaGreatDoor
open Go
variable {α : Type}
theorem Ord.all {c : Ci} {L : List Nat} (h : Ord c L) {n : Nat} (hn : n < c.n.length) : n ∈ L:=nodup_full (lex_nodup h.p) h.r.lt (by have:=h.r.len; omega) n hn
variable {c : Ci} {W : Nat→Nat→Nat} {Q : Nat→Nat→Nat→Nat} {p : Pt}
end Go.Proofs.YtcmblmkbdenakaaGreatDoor
