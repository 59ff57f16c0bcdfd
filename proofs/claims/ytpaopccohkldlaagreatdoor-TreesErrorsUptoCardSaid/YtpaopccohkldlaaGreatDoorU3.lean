/- Faults: dependence of nets; bridged nets. Conditions: none. -/
import Derived.Test.YtpaopccohkldlaaGreatDoorT12
set_option linter.unusedSimpArgs false
set_option linter.unusedVariables false
namespace Go.Proofs.YtpaopccohkldlaaGreatDoor
open Go
def dep (c : Ci) : Nat→Nat→Nat→Bool
 | 0,a,b=>decide (a = b)
 | k + 1,a,b=>decide (a = b) || (c.g a).any fun x=>dep c k x b
theorem nd_kw {c : Ci} (hg : c.good) {n : Nat} (hn : n < c.n.length) : 0 ≤ (c.nd n).k∧(c.nd n).k ≤ 14∧widB (c.nd n).k (c.nd n).i.length = true:=by
 have hm:=List.getElem_mem hn
 have h1:=nd_zero ((sh_zero hg.sh).2.2.1 _ hm)
 have h2:=hg.wf.k _ hm
 have h3:=hg.k _ hm
 rw [c.nd_get hn]
 refine ⟨h2.1,?_,h1.2.1⟩
 have:=h1.1
 omega
theorem nd_in {c : Ci} (hg : c.good) {n : Nat} (hn : n < c.n.length) (hk : (c.nd n).k = 0) : (c.nd n).i = []:=by
 have hw:=(nd_kw hg hn).2.2
 rw [hk] at hw
 have e1 : kHi 0 = 0:=rfl
 simp only [widB,e1,Bool.and_eq_true,decide_eq_true_eq] at hw
 exact List.length_eq_zero_iff.1 (by omega)
theorem g_nd {c : Ci} (hg : c.good) {n : Nat} (hn : n < c.n.length) (hk : (c.nd n).k ≠ 14) : c.g n = (c.nd n).i.map Int.toNat:=by
 obtain ⟨h0,h1,-⟩:=nd_kw hg hn
 unfold Ci.g
 by_cases h : (c.nd n).k = 0
 ·rw [nd_in hg hn h]; simp
 ·rw [if_pos (by simp only [combB,decide_eq_true_eq]; omega)]
theorem g_14 {c : Ci} {n : Nat} (hk : (c.nd n).k = 14) : c.g n = []:=by
 unfold Ci.g
 rw [if_neg (by simp [combB,hk])]
structure Ft.okB (c : Ci) (f : Ft) : Prop where
 m : f.m = 2∨f.m = 3
 n : f.n < c.n.length
 o : f.o < c.n.length
 q : f.q = 0
 ne : f.n ≠ f.o
 lt : f.m = 2→f.n ≤ f.o
 v : f.v ≤ 1
 v3 : f.m = 3→f.v = 0
 k1 : (c.nd f.n).k ≠ 12
 k2 : (c.nd f.o).k ≠ 12
 d1 : dep c (c.n.length + 1) f.n f.o = false
 d2 : dep c (c.n.length + 1) f.o f.n = false
end Go.Proofs.YtpaopccohkldlaaGreatDoor
namespace Go.Proofs.YtpaopccohkldlaaGreatDoor
open Go
noncomputable def visB (c : Ci) (W : Nat→Nat→Nat) (Q : Nat→Nat→Nat→Nat) (p : Pt) : Bool:=seenB (obsO c (netN c p)) (obsS c (netN c p)) (obsMO c (netM c W Q p)) (obsMS c Q (netM c W Q p))
end Go.Proofs.YtpaopccohkldlaaGreatDoor
namespace Go.Proofs.YtpaopccohkldlaaGreatDoor
open Go
inductive Rch (g : Nat→List Nat) : Nat→Nat→Prop
 | rfl (a : Nat) : Rch g a a
 | head {a x b : Nat} (hx : x ∈ g a) (h : Rch g x b) : Rch g a b
theorem Rch.tail {g : Nat→List Nat} {a x b : Nat} (h : Rch g a x) (hb : b ∈ g x) : Rch g a b:=by
 induction h with
 | rfl a=>exact .head hb (.rfl _)
 | head hx _ ih=>exact .head hx (ih hb)
theorem Rch.closed {g : Nat→List Nat} {S : Nat→Prop} (hS : ∀ x,S x→∀ y ∈ g x,S y) {a b : Nat} (h : Rch g a b) : S a→S b:=by
 induction h with
 | rfl a=>exact id
 | head hx _ ih=>exact fun ha=>ih (hS _ ha _ hx)
theorem rch_of_dep {c : Ci} : ∀ (k : Nat) {a b : Nat},dep c k a b = true→Rch c.g a b
 | 0,a,b,h=>by simp only [dep,decide_eq_true_eq] at h; subst h; exact .rfl _
 | k + 1,a,b,h=>by
  simp only [dep,Bool.or_eq_true,decide_eq_true_eq,List.any_eq_true] at h
  rcases h with rfl | ⟨x,hx,h⟩
  ·exact .rfl _
  ·exact .head hx (rch_of_dep k h)
theorem dep_of_rch {c : Ci} (hg : c.good) {a b : Nat} (h : Rch c.g a b) : ∀ k,lvOf c a < k→a < c.n.length→dep c k a b = true:=by
 have hlv : IsLv c.n.length c.g (lvOf c):=hg.ac.lv
 induction h with
 | rfl a=>intro k _ _; cases k <;> simp [dep]
 | @head a x b hx _ ih=>
  intro k hk ha
  obtain ⟨k,rfl⟩ : ∃ j,k = j + 1:=⟨k - 1,by omega⟩
  have h1:=hlv a ha
  have h2:=le_mx (f:=lvOf c) hx
  rw [dep,Bool.or_eq_true,List.any_eq_true]
  exact .inr ⟨x,hx,ih k (by omega) (hg.val.g a ha x hx)⟩
theorem dep_iff {c : Ci} (hg : c.good) {a b : Nat} (ha : a < c.n.length) : dep c (c.n.length + 1) a b = true↔Rch c.g a b:=by
 have hlv : IsLv c.n.length c.g (lvOf c):=hg.ac.lv
 have:=hlv.lt hg.val.g a ha
 exact ⟨rch_of_dep _,fun h=>dep_of_rch hg h _ (by omega) ha⟩
def unm (S : Nat→Bool) (n : Nat) : Nat:=sumR (fun i=>if S i = true then 0 else 1) n
theorem unm_upd (S : Nat→Bool) {x : Nat} (hx : S x = false) : ∀ n,unm (upd1 S x true) n + (if x < n then 1 else 0) = unm S n
 | 0=>by simp [unm,sumR]
 | n + 1=>by
  have ih:=unm_upd S hx n
  unfold unm at ih ⊢
  simp only [sumR]
  by_cases h : n = x
  ·subst h
   rw [upd1_same,hx]
   simp only [Nat.lt_irrefl,if_false,if_true,Nat.lt_succ_self,Bool.false_eq_true] at ih ⊢
   omega
  ·rw [upd1_ne _ _ h]
   by_cases h2 : x < n
   ·simp only [if_pos h2,if_pos (show x < n + 1 by omega)] at ih ⊢; omega
   ·simp only [if_neg h2,if_neg (show ¬ x < n + 1 by omega)] at ih ⊢; omega
def boolsV (n : Nat) (S : Nat→Bool) : List V:=tab n fun i=>.bool (S i)
@[simp] theorem boolsV_length (n : Nat) (S : Nat→Bool) : (boolsV n S).length = n:=by simp [boolsV]
theorem boolsV_get (n : Nat) (S : Nat→Bool) (i : Nat) (h : i < (boolsV n S).length) : (boolsV n S)[i] = .bool (S i):=by simp only [boolsV]; rw [tab_get]
theorem boolsV_set (n : Nat) (S : Nat→Bool) (i : Nat) (b : Bool) : (boolsV n S).set i (.bool b) = boolsV n (upd1 S i b):=by
 unfold boolsV
 rw [tab_set]
 congr 1
 funext j
 by_cases h : j = i
 ·subst h; simp
 ·rw [upd1_ne _ _ h,upd1_ne _ _ h]
theorem boolsV_rep (n : Nat) : List.replicate n (V.bool false) = boolsV n fun _=>false:=by
 refine List.ext_getElem (by simp) fun i h1 h2=>?_
 rw [boolsV_get,List.getElem_replicate]
theorem boolsV_pure (n : Nat) (S : Nat→Bool) : V.pureL (boolsV n S) = true:=by
 rw [V.pureL_iff]
 intro v hv
 unfold boolsV tab at hv
 obtain ⟨j,-,rfl⟩:=List.mem_map.1 hv
 rfl
structure ConeI (c : Ci) (a : Nat) (S : Nat→Bool) (td : List Nat) (n : Option Nat) (jn : List Nat) : Prop where
 m : S a = true
 r : ∀ x,S x = true→x < c.n.length∧Rch c.g a x
 t : ∀ x ∈ td,S x = true
 s : ∀ x,n = some x→S x = true
 c : ∀ x,S x = true→x ∉ td→n ≠ some x→∀ y ∈ c.g x,S y = true
 j : ∀ y ∈ jn,S y = true
theorem ConeI.pop {c : Ci} {a : Nat} {S : Nat→Bool} {td : List Nat} {n : Nat} (h : ConeI c a S (td ++ [n]) none []) : ConeI c a S td (some n) [] where
 m:=h.m
 r:=h.r
 t:=fun x hx=>h.t x (List.mem_append.2 (.inl hx))
 s:=fun x hx=>by cases hx; exact h.t _ (by simp)
 c:=fun x hx h1 h2=>h.c x hx (fun h3=>by
  rcases List.mem_append.1 h3 with h3 | h3
  ·exact h1 h3
  ·exact h2 (by rw [List.mem_singleton.1 h3])) (by simp)
 j:=by simp
theorem ConeI.skip {c : Ci} {a : Nat} {S : Nat→Bool} {td jn : List Nat} {n : Option Nat} {m : Nat} (h : ConeI c a S td n jn) (hm : S m = true) : ConeI c a S td n (jn ++ [m]) where
 m:=h.m
 r:=h.r
 t:=h.t
 s:=h.s
 c:=h.c
 j:=fun y hy=>by
  rcases List.mem_append.1 hy with hy | hy
  ·exact h.j y hy
  ·rw [List.mem_singleton.1 hy]; exact hm
theorem upd_true {S : Nat→Bool} {m x : Nat} (h : S x = true) : upd1 S m true x = true:=by
 by_cases e : x = m
 ·rw [e,upd1_same]
 ·rw [upd1_ne _ _ e]; exact h
theorem ConeI.push {c : Ci} (hg : c.good) {a : Nat} {S : Nat→Bool} {td jn : List Nat} {n m : Nat} (h : ConeI c a S td (some n) jn) (hm : m ∈ c.g n) : ConeI c a (upd1 S m true) (td ++ [m]) (some n) (jn ++ [m]) where
 m:=upd_true h.m
 r:=fun x hx=>by
  by_cases e : x = m
  ·rw [e]
   obtain ⟨h1,h2⟩:=h.r n (h.s n rfl)
   exact ⟨hg.val.g n h1 m hm,h2.tail hm⟩
  ·rw [upd1_ne _ _ e] at hx; exact h.r x hx
 t:=fun x hx=>by
  rcases List.mem_append.1 hx with hx | hx
  ·exact upd_true (h.t x hx)
  ·rw [List.mem_singleton.1 hx,upd1_same]
 s:=fun x hx=>upd_true (h.s x hx)
 c:=fun x hx h1 h2 y hy=>by
  simp only [List.mem_append,List.mem_singleton,not_or] at h1
  rw [upd1_ne _ _ h1.2] at hx
  exact upd_true (h.c x hx h1.1 h2 y hy)
 j:=fun y hy=>by
  rcases List.mem_append.1 hy with hy | hy
  ·exact upd_true (h.j y hy)
  ·rw [List.mem_singleton.1 hy,upd1_same]
theorem ConeI.next {c : Ci} {a : Nat} {S : Nat→Bool} {td jn : List Nat} {n : Nat} (h : ConeI c a S td (some n) jn) (hj : ∀ y ∈ c.g n,y ∈ jn) : ConeI c a S td none [] where
 m:=h.m
 r:=h.r
 t:=h.t
 s:=fun x hx=>by cases hx
 c:=fun x hx h1 _ y hy=>by
  by_cases e : x = n
  ·rw [e] at hy; exact h.j y (hj y hy)
  ·exact h.c x hx h1 (fun h=>e (by cases h; rfl)) y hy
 j:=by simp
theorem ConeI.all {c : Ci} (hg : c.good) {a : Nat} (ha : a < c.n.length) {S : Nat→Bool} (h : ConeI c a S [] none []) : boolsV c.n.length S = boolsV c.n.length (dep c (c.n.length + 1) a):=by
 have : S = dep c (c.n.length + 1) a:=by
  funext x
  have hd : dep c (c.n.length + 1) a x = true↔S x = true:=by
   rw [dep_iff hg ha]
   exact ⟨fun q=>q.closed (S:=fun z=>S z = true) (fun z hz y hy=>h.c z hz (by simp) (by simp) y hy) h.m,fun q=>(h.r x q).2⟩
  cases hs : S x <;> cases hd2 : dep c (c.n.length + 1) a x <;> simp_all
 rw [this]
theorem cone_ini (c : Ci) (a : Nat) (ha : a < c.n.length) : ConeI c a (upd1 (fun _=>false) a true) [a] none [] where
 m:=by simp
 r:=fun x hx=>by
  by_cases e : x = a
  ·rw [e]; exact ⟨ha,.rfl _⟩
  ·rw [upd1_ne _ _ e] at hx; cases hx
 t:=fun x hx=>by rw [List.mem_singleton.1 hx]; simp
 s:=fun x hx=>by cases hx
 c:=fun x hx h1 _=>by
  by_cases e : x = a
  ·exact absurd (by simp [e]) h1
  ·rw [upd1_ne _ _ e] at hx; cases hx
 j:=by simp
structure CoSt where
 S : Nat→Bool
 es : List Nat
 l : Nat
 g : Nat
 cap : Option Nat
structure CoSt2 extends CoSt where
 k : Nat
set_option maxHeartbeats 4000000 in
theorem cone_c (c : Ci) (hg : c.good) (a : Nat) (ha : a < c.n.length) : PureC Tryz.prog gl0 132 [c.v,natV a] (.sl (boolsV c.n.length (dep c (c.n.length + 1) a)) (some c.n.length)):=by
 have hn1:=hg.n1
 have hu0:=unm_upd (fun _=>false) (x:=a) rfl c.n.length
 have hu1 : unm (fun _=>false) c.n.length = c.n.length:=by unfold unm; simp [sumR_const]
 rw [hu1,if_pos ha] at hu0
 refine PureC.of_W 1 ok132 rfl ?_
 simp [i132,x132,natV,boolsV_rep]
 intro gf1 gf2
 simp [ha,boolsV_set,boolsV_get,show c.n.length ≤ 549755813888 by omega]
 intro gf3
 generalize gf1 2 = g2
 generalize gf2 13 = g13
 refine LoopP.of (X:=CoSt) (fun z=>[(6,.ref 18 z.g 0 z.l z.cap),(5,.ref 13 g13 0 c.n.length (some c.n.length)),(2,.ptr 2 g2 0 0)])
  (fun z=>[(18,.row z.g 1 (natsV z.es)),(13,.row g13 1 (boolsV c.n.length z.S)),(2,.row g2 4 [c.v])])
  (fun z=>z.l ≤ z.es.length∧2 * unm z.S c.n.length + z.l ≤ 2 * c.n.length∧ConeI c a z.S (z.es.take z.l) none []) (fun z=>2 * unm z.S c.n.length + z.l)
  ⟨upd1 (fun _=>false) a true,[a],1,gf3 18,some 1⟩ ⟨by simp,by simp; omega,by simpa using cone_ini c a ha⟩ (by simp) (by simp [natsV,natV]) ?_
 rintro ⟨S,es,len,g18,cap⟩ ⟨q1,q2,q3⟩
 dsimp only at q1 q2 q3 ⊢
 simp
 refine BrB.of (fun hb=>?_) (fun hb=>?_)
 ·have hl : 0 < len:=of_decide_eq_true hb
  obtain ⟨l,rfl⟩ : ∃ l,len = l + 1:=⟨len - 1,by omega⟩
  have hsub : IntKind.i64.wrap (((l + 1 : Nat) : Int) - 1) = (l : Int):=subN (b:=1) (by omega) (by omega)
  have hle : l < es.length:=by omega
  obtain ⟨n,hn⟩ : ∃ n,es[l] = n:=⟨_,rfl⟩
  have htk : es.take (l + 1) = es.take l ++ [n]:=by rw [List.take_succ_eq_append_getElem hle,hn]
  rw [htk] at q3
  have hp:=q3.pop
  have hnN:=(hp.r n (hp.s n rfl)).1
  obtain ⟨y,hy⟩ : ∃ y,c.n[n] = y:=⟨_,rfl⟩
  have hnd : c.nd n = y:=by rw [c.nd_get hnN,hy]
  have hyi:=hg.val.i n hnN
  have hyl:=hg.val.l n hnN
  rw [hnd] at hyi hyl
  obtain ⟨L,hL⟩ : ∃ L,l + 1 = L:=⟨_,rfl⟩
  rw [hL] at hsub q1 q2 ⊢
  simp [hsub,hle,natsV,hn,natV,show l < L by omega,show l ≤ L by omega,hnN,hy]
  by_cases h14 : y.k = 14
  ·simp [h14]
   exact ⟨⟨S,es,l,g18,cap⟩,⟨by dsimp only; omega,by dsimp only; omega,hp.next (jn:=[]) (by rw [g_14 (by rw [hnd]; exact h14)]; simp)⟩,by simp,by simp,by dsimp only; omega⟩
  have hgn : c.g n = y.i.map Int.toNat:=by rw [g_nd hg hnN (by rw [hnd]; exact h14),hnd]
  simp [h14,hnN,hy]
  refine LoopP.of (X:=CoSt2) (fun z=>[(47,natV z.k),(46,natV y.i.length),(45,.sl (ints y.i) none),(6,.ref 18 z.g 0 z.l z.cap),(5,.ref 13 g13 0 c.n.length (some c.n.length)),(2,.ptr 2 g2 0 0)])
   (fun z=>[(18,.row z.g 1 (natsV z.es)),(13,.row g13 1 (boolsV c.n.length z.S)),(2,.row g2 4 [c.v])])
   (fun z=>z.l ≤ z.es.length∧2 * unm z.S c.n.length + z.l < 2 * unm S c.n.length + L∧z.k ≤ y.i.length∧ConeI c a z.S (z.es.take z.l) (some n) ((y.i.map Int.toNat).take z.k)) (fun z=>y.i.length - z.k)
   ⟨⟨S,es,l,g18,cap⟩,0⟩ ⟨by dsimp only; omega,by dsimp only; omega,by simp,by simpa using hp⟩ (by simp [natV]) (by simp [natsV,natV]) ?_
  rintro ⟨⟨S1,es1,l1,g1,cap1⟩,k⟩ ⟨p1,p2,p3,p4⟩
  dsimp only at p1 p2 p3 p4 ⊢
  simp [natV]
  refine BrB.of (fun hb2=>?_) (fun hb2=>?_)
  ·have hk : k < y.i.length:=of_decide_eq_true hb2
   have hw:=wrapN k (by omega)
   have h2:=hyi _ (List.getElem_mem hk)
   obtain ⟨m,hm⟩ : ∃ m : Nat,y.i[k] = (m : Int):=⟨(y.i[k]).toNat,by omega⟩
   have hmN : m < c.n.length:=by omega
   have hmg : m ∈ c.g n:=by
    rw [hgn]
    have:=List.mem_map_of_mem (f:=Int.toNat) (List.getElem_mem hk)
    rw [hm] at this; exact this
   have hjn : (y.i.map Int.toNat).take (k + 1) = (y.i.map Int.toNat).take k ++ [m]:=by
    rw [List.take_succ_eq_append_getElem (by simpa using hk),List.getElem_map,hm]; rfl
   have hes : (natsV es1).take l1 ++ [V.int .i64 (m : Int)] = natsV (es1.take l1 ++ [m]):=by simp [natsV,natV]
   have htk1 : (es1.take l1 ++ [m]).take (l1 + 1) = es1.take l1 ++ [m]:=List.take_of_length_le (by simp; omega)
   simp [hk,hm,ints_getE,hmN,boolsV_get]
   cases hs : S1 m
   ·have hu:=unm_upd S1 hs c.n.length
    rw [if_pos hmN] at hu
    have hpu:=p4.push hg hmg
    simp [p1,boolsV_get,boolsV_set,hmN,show l1 ≤ 274877906943 by omega]
    intro gf
    exact ⟨⟨⟨upd1 S1 m true,es1.take l1 ++ [m],l1 + 1,gf 18,none⟩,k + 1⟩,⟨by simp [p1],by dsimp only; omega,hk,by dsimp only; rw [hjn,htk1]; exact hpu⟩,by simp [hw],by simp [hes],by dsimp only; omega⟩
   ·simp [hw]
    exact ⟨⟨⟨S1,es1,l1,g1,cap1⟩,k + 1⟩,⟨p1,p2,hk,by dsimp only; rw [hjn]; exact p4.skip hs⟩,by simp,by simp [natsV],by dsimp only; omega⟩
  ·have hk : k = y.i.length:=by have:=of_decide_eq_false hb2; omega
   subst hk
   rw [show y.i.length = (y.i.map Int.toNat).length by simp,List.take_length,← hgn] at p4
   simp
   exact ⟨⟨S1,es1,l1,g1,cap1⟩,⟨p1,by dsimp only; omega,p4.next fun y hy=>hy⟩,by simp,by simp [natsV],by dsimp only; omega⟩
 ·have hl : len = 0:=by have:=of_decide_eq_false hb; omega
  subst hl
  have:=q3.all hg ha
  simp [this,map_frz_pure (boolsV_pure _ _)]
  exact List.take_of_length_le (by simp)
end Go.Proofs.YtpaopccohkldlaaGreatDoor
