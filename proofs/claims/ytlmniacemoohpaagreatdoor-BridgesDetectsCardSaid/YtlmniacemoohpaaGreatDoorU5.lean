/- Faults: dependence of nets; bridged nets. Conditions: none. -/
import Derived.Test.YtlmniacemoohpaaGreatDoorJ7
import Derived.Test.YtlmniacemoohpaaGreatDoorT14
import Derived.Test.YtlmniacemoohpaaGreatDoorXB
set_option linter.unusedSimpArgs false
set_option linter.unusedVariables false
namespace Go.Proofs.YtlmniacemoohpaaGreatDoor
open Go
def dep (c : Ci) : Nat→Nat→Nat→Bool
  | 0,a,b=>decide (a = b)
  | k + 1,a,b=>decide (a = b) || (c.g a).any fun x=>dep c k x b
theorem nd_kw {c : Ci} (hg : c.good) {n : Nat} (hn : n < c.n.length) : 0 ≤ (c.nd n).k∧(c.nd n).k ≤ 14∧widB (c.nd n).k (c.nd n).i.length = true:=by
  have hm:=List.getElem_mem hn
  have h1:=nd_zero ((sh_zero hg.sh).2.2.1 _ hm)
  have h2:=hg.wf.k _ hm
  have h3:=hg.k _ hm
  rw [c.nd_get hn]
  refine ⟨h2.1,?_,h1.2.1⟩
  have:=h1.1
  omega
theorem nd_in {c : Ci} (hg : c.good) {n : Nat} (hn : n < c.n.length) (hk : (c.nd n).k = 0) : (c.nd n).i = []:=by
  have hw:=(nd_kw hg hn).2.2
  rw [hk] at hw
  have e1 : kHi 0 = 0:=rfl
  simp only [widB,e1,Bool.and_eq_true,decide_eq_true_eq] at hw
  exact List.length_eq_zero_iff.1 (by omega)
theorem g_nd {c : Ci} (hg : c.good) {n : Nat} (hn : n < c.n.length) (hk : (c.nd n).k ≠ 14) : c.g n = (c.nd n).i.map Int.toNat:=by
  obtain ⟨h0,h1,-⟩:=nd_kw hg hn
  unfold Ci.g
  by_cases h : (c.nd n).k = 0
  · rw [nd_in hg hn h]; simp
  · rw [if_pos (by simp only [combB,decide_eq_true_eq]; omega)]
theorem g_14 {c : Ci} {n : Nat} (hk : (c.nd n).k = 14) : c.g n = []:=by
  unfold Ci.g
  rw [if_neg (by simp [combB,hk])]
theorem depends_c (c : Ci) (hg : c.good) (b : Nat) : ∀ (k d a : Nat),k + d = c.n.length + 1→a < c.n.length→PureC Tryz.prog gl0 122 [c.v,natV a,natV b,natV d] (.bool (dep c k a b)):=by
  intro k
  induction k with
  | zero=>
    intro d a hk ha
    have hn1:=hg.n1
    refine PureC.of_W 2 ok122 rfl ?_
    by_cases hab : a = b
    · simp [i122,x122,natV,hab,dep]
    · simp [i122,x122,natV,hab,dep,show (c.n.length : Int) < (d : Int) by omega]
  | succ k ih=>
    intro d a hk ha
    have hn1:=hg.n1
    obtain ⟨y,hy⟩ : ∃ y,c.n[a] = y:=⟨_,rfl⟩
    have hnd : c.nd a = y:=by rw [c.nd_get ha,hy]
    have hyi:=hg.val.i a ha
    have hyl:=hg.val.l a ha
    rw [hnd] at hyi hyl
    by_cases hab : a = b
    · refine PureC.of_W 2 ok122 rfl ?_
      simp [i122,x122,natV,hab,dep]
    by_cases h14 : y.k = 14
    · have hr : dep c (k + 1) a b = false:=by
        rw [dep,g_14 (by rw [hnd]; exact h14)]; simp [hab]
      rw [hr]
      refine PureC.of_W 2 ok122 rfl ?_
      simp [i122,x122,natV,hab,ha,hy,h14,show ¬ (c.n.length : Int) < (d : Int) by omega]
    · obtain ⟨r,hr⟩ : ∃ r,dep c (k + 1) a b = r:=⟨_,rfl⟩
      have hr2 : r = y.i.any fun x=>dep c k x.toNat b:=by
        rw [← hr,dep,g_nd hg ha (by rw [hnd]; exact h14),hnd]; simp [hab,List.any_map,Function.comp_def]
      rw [hr]
      have hw:=wrapN d (by omega)
      refine PureC.of_W 2 ok122 rfl ?_
      simp [i122,x122,natV,hab,ha,hy,h14,show ¬ (c.n.length : Int) < (d : Int) by omega]
      intro gf
      generalize gf 4 = g4
      refine LoopP.of (X:=Nat) (fun i=>[(9,natV i),(4,.ptr 4 g4 0 0),(1,natV a),(2,natV b),(3,natV d)]) (fun _=>[(4,.row g4 4 [c.v])])
        (fun i=>i ≤ y.i.length∧∀ j,(h : j < y.i.length)→j < i→dep c k (y.i[j]).toNat b = false) (fun i=>y.i.length - i) 0 ⟨by simp,by simp⟩ (by simp [natV]) (by simp) ?_
      rintro i ⟨q1,q2⟩
      simp [natV,ha,hy]
      refine BrB.of (fun hb=>?_) (fun hb=>?_)
      · have hi : i < y.i.length:=of_decide_eq_true hb
        have hw2:=wrapN i (by omega)
        have h2:=hyi _ (List.getElem_mem hi)
        obtain ⟨x,hx⟩ : ∃ x : Nat,y.i[i] = (x : Int):=⟨(y.i[i]).toNat,by omega⟩
        have hxn : x < c.n.length:=by omega
        have hc:=ih (d + 1) x (by omega) hxn
        obtain ⟨z,hz⟩ : ∃ z,dep c k x b = z:=⟨_,rfl⟩
        rw [hz] at hc
        simp only [natV] at hc
        simp
        intro gm
        simp [ha,hy,hi,hx,ints_getE,hw]
        first | refine ⟨_,_,_,.pure hc (by simp [V.pureL,V.pure]),?_⟩ | refine ⟨_,⟨_,_,.pure hc (by simp [V.pureL,V.pure])⟩,?_⟩ | refine ⟨_,_,⟨_,.pure hc (by simp [V.pureL,V.pure])⟩,?_⟩
        simp
        cases z
        · simp [hw2]
          refine ⟨i + 1,⟨hi,fun j hj hji=>?_⟩,rfl,by omega⟩
          by_cases hji2 : j = i
          · subst hji2; rw [hx]; exact hz
          · exact q2 j hj (by omega)
        · have : r = true:=by
            rw [hr2,List.any_eq_true]
            exact ⟨y.i[i],List.getElem_mem hi,by rw [hx]; exact hz⟩
          simp [this]
      · have hi : i = y.i.length:=by have:=of_decide_eq_false hb; omega
        have : r = false:=by
          rw [hr2,List.any_eq_false]
          intro x hx
          obtain ⟨j,hj,rfl⟩:=List.getElem_of_mem hx
          rw [q2 j hj (by omega)]; simp
        simp [this]
structure Ft.okB (c : Ci) (f : Ft) : Prop where
  m : f.m = 2∨f.m = 3
  n : f.n < c.n.length
  o : f.o < c.n.length
  q : f.q = 0
  ne : f.n ≠ f.o
  lt : f.m = 2→f.n ≤ f.o
  v : f.v ≤ 1
  v3 : f.m = 3→f.v = 0
  k1 : (c.nd f.n).k ≠ 12
  k2 : (c.nd f.o).k ≠ 12
  d1 : dep c (c.n.length + 1) f.n f.o = false
  d2 : dep c (c.n.length + 1) f.o f.n = false
def bridgeE (c : Ci) (f : Ft) : Int:=
  if f.n = f.o∨(f.m = 2∧f.o < f.n) then 1
  else if (c.nd f.n).k = 12∨(c.nd f.o).k = 12 then 7
  else if dep c (c.n.length + 1) f.n f.o = true∨dep c (c.n.length + 1) f.o f.n = true then 6
  else 0
set_option maxRecDepth 100000 in
theorem pcheck_c (c : Ci) (hg : c.good) (f : Ft) (hm : f.m = 2∨f.m = 3) (hn : f.n < c.n.length) (ho : f.o < c.n.length) (hq : f.q = 0) (hv : f.v ≤ 1) (hv3 : f.m = 3→f.v = 0) : PureC Tryz.prog gl0 81 [c.v,f.w] (.int .i64 (bridgeE c f)):=by
  have hn1:=hg.n1
  have d1:=depends_c c hg f.o (c.n.length + 1) 0 f.n (by omega) hn
  have d2:=depends_c c hg f.n (c.n.length + 1) 0 f.o (by omega) ho
  obtain ⟨y,hy⟩ : ∃ y,c.n[f.n] = y:=⟨_,rfl⟩
  obtain ⟨z,hz⟩ : ∃ z,c.n[f.o] = z:=⟨_,rfl⟩
  have hp : f.pin = -1:=by unfold Ft.pin; omega
  unfold bridgeE
  rw [c.nd_get hn,c.nd_get ho,hy,hz]
  generalize dep c (c.n.length + 1) f.n f.o = D1 at d1 ⊢
  generalize dep c (c.n.length + 1) f.o f.n = D2 at d2 ⊢
  simp only [natV] at d1 d2
  have e3 : f.m = 3→¬ (f.v ≠ 0):=fun h=>by have:=hv3 h; omega
  refine PureC.of_W 2 ok81 rfl ?_
  have hv1 : ¬ 1 < f.v:=by omega
  have n1 : ¬ c.n.length ≤ f.n:=by omega
  have n2 : ¬ c.n.length ≤ f.o:=by omega
  have n3 : ¬ ((f.n : Int) < 0):=by omega
  have n4 : ¬ ((f.o : Int) < 0):=by omega
  have n5 : ¬ ((y.i.length : Int) ≤ -1):=by omega
  rcases hm with hm | hm
  case' inl=>
    simp [i81,x81,Ft.w,u8V,natV,hm]
    intro gf1 gf2 gm
    simp [hn,hy,hp,hv1,n1,n2,n3,n4,n5,ho,hz]
  case' inr=>
    have hv0:=hv3 hm
    simp [i81,x81,Ft.w,u8V,natV,hm]
    intro gf1 gf2 gm
    simp [hn,hy,hp,hv0,n1,n2,n3,n4,n5,ho,hz]
  all_goals
    by_cases e1 : f.n = f.o
    · simp [e1]
    by_cases e2 : f.o < f.n
    case' pos=>simp [e1,e2,hy,hz,hn,ho]
    case' neg=>simp [e1,e2,hy,hz,hn,ho]
  all_goals
    by_cases e3 : y.k = 12
    · simp [e3]
    by_cases e4 : z.k = 12
    · simp [e3,e4,ho,hz]
    simp [e3,e4,ho,hz]
    refine CallO.pure d1 (by simp [V.pureL,V.pure]) ?_
    cases D1
    · simp
      refine CallO.pure d2 (by simp [V.pureL,V.pure]) ?_
      cases D2 <;> simp
    · simp
end Go.Proofs.YtlmniacemoohpaaGreatDoor
namespace Go.Proofs.YtlmniacemoohpaaGreatDoor
open Go
def le2 (u v : Nat) : Prop:=u = v∨u = 2
def leL : List Nat→List Nat→Prop
  | [],[]=>True
  | a :: l,b :: r=>le2 a b∧leL l r
  | _,_=>False
def Pt.le (p q : Pt) : Prop:=leL p.i q.i∧leL p.s q.s
noncomputable def visB (c : Ci) (W : Nat→Nat→Nat) (Q : Nat→Nat→Nat→Nat) (p : Pt) : Bool:=seenB (obsO c (netN c p)) (obsS c (netN c p)) (obsMO c (netM c W Q p)) (obsMS c Q (netM c W Q p))
end Go.Proofs.YtlmniacemoohpaaGreatDoor
namespace Go.Proofs.YtlmniacemoohpaaGreatDoor
open Go
inductive Rch (g : Nat→List Nat) : Nat→Nat→Prop
  | rfl (a : Nat) : Rch g a a
  | head {a x b : Nat} (hx : x ∈ g a) (h : Rch g x b) : Rch g a b
theorem Rch.tail {g : Nat→List Nat} {a x b : Nat} (h : Rch g a x) (hb : b ∈ g x) : Rch g a b:=by
  induction h with
  | rfl a=>exact .head hb (.rfl _)
  | head hx _ ih=>exact .head hx (ih hb)
theorem Rch.closed {g : Nat→List Nat} {S : Nat→Prop} (hS : ∀ x,S x→∀ y ∈ g x,S y) {a b : Nat} (h : Rch g a b) : S a→S b:=by
  induction h with
  | rfl a=>exact id
  | head hx _ ih=>exact fun ha=>ih (hS _ ha _ hx)
theorem rch_of_dep {c : Ci} : ∀ (k : Nat) {a b : Nat},dep c k a b = true→Rch c.g a b
  | 0,a,b,h=>by simp only [dep,decide_eq_true_eq] at h; subst h; exact .rfl _
  | k + 1,a,b,h=>by
    simp only [dep,Bool.or_eq_true,decide_eq_true_eq,List.any_eq_true] at h
    rcases h with rfl | ⟨x,hx,h⟩
    · exact .rfl _
    · exact .head hx (rch_of_dep k h)
theorem dep_of_rch {c : Ci} (hg : c.good) {a b : Nat} (h : Rch c.g a b) : ∀ k,lvOf c a < k→a < c.n.length→dep c k a b = true:=by
  have hlv : IsLv c.n.length c.g (lvOf c):=hg.ac.lv
  induction h with
  | rfl a=>intro k _ _; cases k <;> simp [dep]
  | @head a x b hx _ ih=>
    intro k hk ha
    obtain ⟨k,rfl⟩ : ∃ j,k = j + 1:=⟨k - 1,by omega⟩
    have h1:=hlv a ha
    have h2:=le_mx (f:=lvOf c) hx
    rw [dep,Bool.or_eq_true,List.any_eq_true]
    exact .inr ⟨x,hx,ih k (by omega) (hg.val.g a ha x hx)⟩
theorem dep_iff {c : Ci} (hg : c.good) {a b : Nat} (ha : a < c.n.length) : dep c (c.n.length + 1) a b = true↔Rch c.g a b:=by
  have hlv : IsLv c.n.length c.g (lvOf c):=hg.ac.lv
  have:=hlv.lt hg.val.g a ha
  exact ⟨rch_of_dep _,fun h=>dep_of_rch hg h _ (by omega) ha⟩
def unm (S : Nat→Bool) (n : Nat) : Nat:=sumR (fun i=>if S i = true then 0 else 1) n
theorem unm_upd (S : Nat→Bool) {x : Nat} (hx : S x = false) : ∀ n,unm (upd1 S x true) n + (if x < n then 1 else 0) = unm S n
  | 0=>by simp [unm,sumR]
  | n + 1=>by
    have ih:=unm_upd S hx n
    unfold unm at ih ⊢
    simp only [sumR]
    by_cases h : n = x
    · subst h
      rw [upd1_same,hx]
      simp only [Nat.lt_irrefl,if_false,if_true,Nat.lt_succ_self,Bool.false_eq_true] at ih ⊢
      omega
    · rw [upd1_ne _ _ h]
      by_cases h2 : x < n
      · simp only [if_pos h2,if_pos (show x < n + 1 by omega)] at ih ⊢; omega
      · simp only [if_neg h2,if_neg (show ¬ x < n + 1 by omega)] at ih ⊢; omega
def boolsV (n : Nat) (S : Nat→Bool) : List V:=tab n fun i=>.bool (S i)
@[simp] theorem boolsV_length (n : Nat) (S : Nat→Bool) : (boolsV n S).length = n:=by simp [boolsV]
theorem boolsV_get (n : Nat) (S : Nat→Bool) (i : Nat) (h : i < (boolsV n S).length) : (boolsV n S)[i] = .bool (S i):=by simp only [boolsV]; rw [tab_get]
theorem boolsV_set (n : Nat) (S : Nat→Bool) (i : Nat) (b : Bool) : (boolsV n S).set i (.bool b) = boolsV n (upd1 S i b):=by
  unfold boolsV
  rw [tab_set]
  congr 1
  funext j
  by_cases h : j = i
  · subst h; simp
  · rw [upd1_ne _ _ h,upd1_ne _ _ h]
theorem boolsV_rep (n : Nat) : List.replicate n (V.bool false) = boolsV n fun _=>false:=by
  refine List.ext_getElem (by simp) fun i h1 h2=>?_
  rw [boolsV_get,List.getElem_replicate]
theorem boolsV_pure (n : Nat) (S : Nat→Bool) : V.pureL (boolsV n S) = true:=by
  rw [V.pureL_iff]
  intro v hv
  unfold boolsV tab at hv
  obtain ⟨j,-,rfl⟩:=List.mem_map.1 hv
  rfl
structure ConeI (c : Ci) (a : Nat) (S : Nat→Bool) (td : List Nat) (n : Option Nat) (jn : List Nat) : Prop where
  m : S a = true
  r : ∀ x,S x = true→x < c.n.length∧Rch c.g a x
  t : ∀ x ∈ td,S x = true
  s : ∀ x,n = some x→S x = true
  c : ∀ x,S x = true→x ∉ td→n ≠ some x→∀ y ∈ c.g x,S y = true
  j : ∀ y ∈ jn,S y = true
theorem ConeI.pop {c : Ci} {a : Nat} {S : Nat→Bool} {td : List Nat} {n : Nat} (h : ConeI c a S (td ++ [n]) none []) : ConeI c a S td (some n) [] where
  m:=h.m
  r:=h.r
  t:=fun x hx=>h.t x (List.mem_append.2 (.inl hx))
  s:=fun x hx=>by cases hx; exact h.t _ (by simp)
  c:=fun x hx h1 h2=>h.c x hx (fun h3=>by
    rcases List.mem_append.1 h3 with h3 | h3
    · exact h1 h3
    · exact h2 (by rw [List.mem_singleton.1 h3])) (by simp)
  j:=by simp
theorem ConeI.skip {c : Ci} {a : Nat} {S : Nat→Bool} {td jn : List Nat} {n : Option Nat} {m : Nat} (h : ConeI c a S td n jn) (hm : S m = true) : ConeI c a S td n (jn ++ [m]) where
  m:=h.m
  r:=h.r
  t:=h.t
  s:=h.s
  c:=h.c
  j:=fun y hy=>by
    rcases List.mem_append.1 hy with hy | hy
    · exact h.j y hy
    · rw [List.mem_singleton.1 hy]; exact hm
theorem upd_true {S : Nat→Bool} {m x : Nat} (h : S x = true) : upd1 S m true x = true:=by
  by_cases e : x = m
  · rw [e,upd1_same]
  · rw [upd1_ne _ _ e]; exact h
theorem ConeI.push {c : Ci} (hg : c.good) {a : Nat} {S : Nat→Bool} {td jn : List Nat} {n m : Nat} (h : ConeI c a S td (some n) jn) (hm : m ∈ c.g n) : ConeI c a (upd1 S m true) (td ++ [m]) (some n) (jn ++ [m]) where
  m:=upd_true h.m
  r:=fun x hx=>by
    by_cases e : x = m
    · rw [e]
      obtain ⟨h1,h2⟩:=h.r n (h.s n rfl)
      exact ⟨hg.val.g n h1 m hm,h2.tail hm⟩
    · rw [upd1_ne _ _ e] at hx; exact h.r x hx
  t:=fun x hx=>by
    rcases List.mem_append.1 hx with hx | hx
    · exact upd_true (h.t x hx)
    · rw [List.mem_singleton.1 hx,upd1_same]
  s:=fun x hx=>upd_true (h.s x hx)
  c:=fun x hx h1 h2 y hy=>by
    simp only [List.mem_append,List.mem_singleton,not_or] at h1
    rw [upd1_ne _ _ h1.2] at hx
    exact upd_true (h.c x hx h1.1 h2 y hy)
  j:=fun y hy=>by
    rcases List.mem_append.1 hy with hy | hy
    · exact upd_true (h.j y hy)
    · rw [List.mem_singleton.1 hy,upd1_same]
theorem ConeI.next {c : Ci} {a : Nat} {S : Nat→Bool} {td jn : List Nat} {n : Nat} (h : ConeI c a S td (some n) jn) (hj : ∀ y ∈ c.g n,y ∈ jn) : ConeI c a S td none [] where
  m:=h.m
  r:=h.r
  t:=h.t
  s:=fun x hx=>by cases hx
  c:=fun x hx h1 _ y hy=>by
    by_cases e : x = n
    · rw [e] at hy; exact h.j y (hj y hy)
    · exact h.c x hx h1 (fun h=>e (by cases h; rfl)) y hy
  j:=by simp
theorem ConeI.all {c : Ci} (hg : c.good) {a : Nat} (ha : a < c.n.length) {S : Nat→Bool} (h : ConeI c a S [] none []) : boolsV c.n.length S = boolsV c.n.length (dep c (c.n.length + 1) a):=by
  have : S = dep c (c.n.length + 1) a:=by
    funext x
    have hd : dep c (c.n.length + 1) a x = true↔S x = true:=by
      rw [dep_iff hg ha]
      exact ⟨fun q=>q.closed (S:=fun z=>S z = true) (fun z hz y hy=>h.c z hz (by simp) (by simp) y hy) h.m,fun q=>(h.r x q).2⟩
    cases hs : S x <;> cases hd2 : dep c (c.n.length + 1) a x <;> simp_all
  rw [this]
theorem cone_ini (c : Ci) (a : Nat) (ha : a < c.n.length) : ConeI c a (upd1 (fun _=>false) a true) [a] none [] where
  m:=by simp
  r:=fun x hx=>by
    by_cases e : x = a
    · rw [e]; exact ⟨ha,.rfl _⟩
    · rw [upd1_ne _ _ e] at hx; cases hx
  t:=fun x hx=>by rw [List.mem_singleton.1 hx]; simp
  s:=fun x hx=>by cases hx
  c:=fun x hx h1 _=>by
    by_cases e : x = a
    · exact absurd (by simp [e]) h1
    · rw [upd1_ne _ _ e] at hx; cases hx
  j:=by simp
structure CoSt where
  S : Nat→Bool
  es : List Nat
  l : Nat
  g : Nat
  cap : Option Nat
structure CoSt2 extends CoSt where
  k : Nat
set_option maxHeartbeats 4000000 in
theorem cone_c (c : Ci) (hg : c.good) (a : Nat) (ha : a < c.n.length) : PureC Tryz.prog gl0 112 [c.v,natV a] (.sl (boolsV c.n.length (dep c (c.n.length + 1) a)) (some c.n.length)):=by
  have hn1:=hg.n1
  have hu0:=unm_upd (fun _=>false) (x:=a) rfl c.n.length
  have hu1 : unm (fun _=>false) c.n.length = c.n.length:=by unfold unm; simp [sumR_const]
  rw [hu1,if_pos ha] at hu0
  refine PureC.of_W 1 ok112 rfl ?_
  simp [i112,x112,natV,boolsV_rep]
  intro gf1 gf2
  simp [ha,boolsV_set,boolsV_get,show c.n.length ≤ 549755813888 by omega]
  intro gf3
  generalize gf1 2 = g2
  generalize gf2 13 = g13
  refine LoopP.of (X:=CoSt) (fun z=>[(6,.ref 18 z.g 0 z.l z.cap),(5,.ref 13 g13 0 c.n.length (some c.n.length)),(2,.ptr 2 g2 0 0)])
    (fun z=>[(18,.row z.g 1 (natsV z.es)),(13,.row g13 1 (boolsV c.n.length z.S)),(2,.row g2 4 [c.v])])
    (fun z=>z.l ≤ z.es.length∧2 * unm z.S c.n.length + z.l ≤ 2 * c.n.length∧ConeI c a z.S (z.es.take z.l) none []) (fun z=>2 * unm z.S c.n.length + z.l)
    ⟨upd1 (fun _=>false) a true,[a],1,gf3 18,some 1⟩ ⟨by simp,by simp; omega,by simpa using cone_ini c a ha⟩ (by simp) (by simp [natsV,natV]) ?_
  rintro ⟨S,es,len,g18,cap⟩ ⟨q1,q2,q3⟩
  dsimp only at q1 q2 q3 ⊢
  simp
  refine BrB.of (fun hb=>?_) (fun hb=>?_)
  · have hl : 0 < len:=of_decide_eq_true hb
    obtain ⟨l,rfl⟩ : ∃ l,len = l + 1:=⟨len - 1,by omega⟩
    have hsub : IntKind.i64.wrap (((l + 1 : Nat) : Int) - 1) = (l : Int):=subN (b:=1) (by omega) (by omega)
    have hle : l < es.length:=by omega
    obtain ⟨n,hn⟩ : ∃ n,es[l] = n:=⟨_,rfl⟩
    have htk : es.take (l + 1) = es.take l ++ [n]:=by rw [List.take_succ_eq_append_getElem hle,hn]
    rw [htk] at q3
    have hp:=q3.pop
    have hnN:=(hp.r n (hp.s n rfl)).1
    obtain ⟨y,hy⟩ : ∃ y,c.n[n] = y:=⟨_,rfl⟩
    have hnd : c.nd n = y:=by rw [c.nd_get hnN,hy]
    have hyi:=hg.val.i n hnN
    have hyl:=hg.val.l n hnN
    rw [hnd] at hyi hyl
    obtain ⟨L,hL⟩ : ∃ L,l + 1 = L:=⟨_,rfl⟩
    rw [hL] at hsub q1 q2 ⊢
    simp [hsub,hle,natsV,hn,natV,show l < L by omega,show l ≤ L by omega,hnN,hy]
    by_cases h14 : y.k = 14
    · simp [h14]
      exact ⟨⟨S,es,l,g18,cap⟩,⟨by dsimp only; omega,by dsimp only; omega,hp.next (jn:=[]) (by rw [g_14 (by rw [hnd]; exact h14)]; simp)⟩,by simp,by simp,by dsimp only; omega⟩
    have hgn : c.g n = y.i.map Int.toNat:=by rw [g_nd hg hnN (by rw [hnd]; exact h14),hnd]
    simp [h14,hnN,hy]
    refine LoopP.of (X:=CoSt2) (fun z=>[(47,natV z.k),(46,natV y.i.length),(45,.sl (ints y.i) none),(6,.ref 18 z.g 0 z.l z.cap),(5,.ref 13 g13 0 c.n.length (some c.n.length)),(2,.ptr 2 g2 0 0)])
      (fun z=>[(18,.row z.g 1 (natsV z.es)),(13,.row g13 1 (boolsV c.n.length z.S)),(2,.row g2 4 [c.v])])
      (fun z=>z.l ≤ z.es.length∧2 * unm z.S c.n.length + z.l < 2 * unm S c.n.length + L∧z.k ≤ y.i.length∧ConeI c a z.S (z.es.take z.l) (some n) ((y.i.map Int.toNat).take z.k)) (fun z=>y.i.length - z.k)
      ⟨⟨S,es,l,g18,cap⟩,0⟩ ⟨by dsimp only; omega,by dsimp only; omega,by simp,by simpa using hp⟩ (by simp [natV]) (by simp [natsV,natV]) ?_
    rintro ⟨⟨S1,es1,l1,g1,cap1⟩,k⟩ ⟨p1,p2,p3,p4⟩
    dsimp only at p1 p2 p3 p4 ⊢
    simp [natV]
    refine BrB.of (fun hb2=>?_) (fun hb2=>?_)
    · have hk : k < y.i.length:=of_decide_eq_true hb2
      have hw:=wrapN k (by omega)
      have h2:=hyi _ (List.getElem_mem hk)
      obtain ⟨m,hm⟩ : ∃ m : Nat,y.i[k] = (m : Int):=⟨(y.i[k]).toNat,by omega⟩
      have hmN : m < c.n.length:=by omega
      have hmg : m ∈ c.g n:=by
        rw [hgn]
        have:=List.mem_map_of_mem (f:=Int.toNat) (List.getElem_mem hk)
        rw [hm] at this; exact this
      have hjn : (y.i.map Int.toNat).take (k + 1) = (y.i.map Int.toNat).take k ++ [m]:=by
        rw [List.take_succ_eq_append_getElem (by simpa using hk),List.getElem_map,hm]; rfl
      have hes : (natsV es1).take l1 ++ [V.int .i64 (m : Int)] = natsV (es1.take l1 ++ [m]):=by simp [natsV,natV]
      have htk1 : (es1.take l1 ++ [m]).take (l1 + 1) = es1.take l1 ++ [m]:=List.take_of_length_le (by simp; omega)
      simp [hk,hm,ints_getE,hmN,boolsV_get]
      cases hs : S1 m
      · have hu:=unm_upd S1 hs c.n.length
        rw [if_pos hmN] at hu
        have hpu:=p4.push hg hmg
        simp [p1,boolsV_get,boolsV_set,hmN,show l1 ≤ 274877906943 by omega]
        intro gf
        exact ⟨⟨⟨upd1 S1 m true,es1.take l1 ++ [m],l1 + 1,gf 18,none⟩,k + 1⟩,⟨by simp [p1],by dsimp only; omega,hk,by dsimp only; rw [hjn,htk1]; exact hpu⟩,by simp [hw],by simp [hes],by dsimp only; omega⟩
      · simp [hw]
        exact ⟨⟨⟨S1,es1,l1,g1,cap1⟩,k + 1⟩,⟨p1,p2,hk,by dsimp only; rw [hjn]; exact p4.skip hs⟩,by simp,by simp [natsV],by dsimp only; omega⟩
    · have hk : k = y.i.length:=by have:=of_decide_eq_false hb2; omega
      subst hk
      rw [show y.i.length = (y.i.map Int.toNat).length by simp,List.take_length,← hgn] at p4
      simp
      exact ⟨⟨S1,es1,l1,g1,cap1⟩,⟨p1,by dsimp only; omega,p4.next fun y hy=>hy⟩,by simp,by simp [natsV],by dsimp only; omega⟩
  · have hl : len = 0:=by have:=of_decide_eq_false hb; omega
    subst hl
    have:=q3.all hg ha
    simp [this,map_frz_pure (boolsV_pure _ _)]
    exact List.take_of_length_le (by simp)
set_option maxRecDepth 100000 in
theorem bridge_c (c : Ci) (hg : c.good) (f : Ft) (hf : f.okB c) : PureC Tryz.prog gl0 65 [c.v,f.w] (.int .i64 0):=by
  have hn:=hf.n
  have ho:=hf.o
  have c1:=cone_c c hg f.n hf.n
  have c2:=cone_c c hg f.o hf.o
  have d1:=hf.d1
  have d2:=hf.d2
  have hv3:=hf.v3
  have hlt:=hf.lt
  have hne:=hf.ne
  have hv:=hf.v
  obtain ⟨y,hy⟩ : ∃ y,c.n[f.n] = y:=⟨_,rfl⟩
  obtain ⟨z,hz⟩ : ∃ z,c.n[f.o] = z:=⟨_,rfl⟩
  have k1:=hf.k1
  have k2:=hf.k2
  rw [c.nd_get hn,hy] at k1
  rw [c.nd_get ho,hz] at k2
  have hp : f.pin = -1:=by unfold Ft.pin; rw [hf.q]; rfl
  generalize dep c (c.n.length + 1) f.n = D1 at c1 d1
  generalize dep c (c.n.length + 1) f.o = D2 at c2 d2
  simp only [natV] at c1 c2
  have n2 : ¬ c.n.length ≤ f.o:=by omega
  have n4 : ¬ ((f.o : Int) < 0):=by omega
  rcases hf.m with hm | hm
  case' inl=>
    have hlt2 : ¬ f.o < f.n:=by have:=hlt hm; omega
    refine PureC.of_W 2 ok65 rfl ?_
    simp [i65,x65,Ft.w,u8V,natV,hm,hp,n2,n4,hne,hlt2]
    intros
    simp [hn,hy,ho,hz,k1,k2,n2,n4,hne,hlt2]
  case' inr=>
    have hv0:=hv3 hm
    refine PureC.of_W 2 ok65 rfl ?_
    simp [i65,x65,Ft.w,u8V,natV,hm,hp,n2,n4,hne,hv0]
    intros
    simp [hn,hy,ho,hz,k1,k2,n2,n4,hne,hv0]
  all_goals
    refine CallO.pure c1 (by simp [V.pureL,V.pure]) ?_
    simp [ho,boolsV_get,d1]
    refine CallO.pure c2 (by simp [V.pureL,V.pure]) ?_
    simp [hn,boolsV_get,d2]
theorem fcheckB_c (c : Ci) (hg : c.good) (f : Ft) (hf : f.okB c) : PureC Tryz.prog gl0 29 [c.v,f.w] (.int .i64 0):=by
  have h1:=valid_c c hg
  have h2:=line_c c f hf.n (by rw [hf.q]; omega)
  have h3:=bridge_c c hg f hf
  have hm:=hf.m
  have hv:=hf.v
  simp only [Ft.ln,natV] at h2
  simp only [Ft.w,u8V,natV] at h3
  refine PureC.of_W 2 ok29 rfl ?_
  simp [i29,x29,u8V,natV]
  intro gf1 gf2
  refine CallO.pure h1 (by simp) ?_
  simp [show ¬ 3 < f.m by omega,show ¬ 1 < f.v by omega,u8V,natV]
  refine CallO.pure h2 (by simp) ?_
  simp [show 2 ≤ f.m by omega,u8V,natV]
  refine CallO.pure h3 (by simp) ?_
  simp
end Go.Proofs.YtlmniacemoohpaaGreatDoor
namespace Go.Proofs.YtlmniacemoohpaaGreatDoor
open Go
def Ft.any (c : Ci) (f : Ft) : Prop:=(f.ok c∧f.m = 0)∨f.okB c
def wiW (f : Ft) (A : Nat→Nat) : Nat→Nat→Nat:=fun n v=>if n = f.n∨n = f.o then logE (resK f.v) [A f.n,A f.o] else v
noncomputable def Ft.W (c : Ci) (f : Ft) (p : Pt) : Nat→Nat→Nat:=if f.m = 2 then wiW f (netN c p) else if f.m = 3 then atW f (fun _=>netN c p f.o) else atW f fun _=>f.v
noncomputable def Ft.Q (c : Ci) (f : Ft) (p : Pt) : Nat→Nat→Nat→Nat:=if f.m = 2 then idQ else if f.m = 3 then atQ f (fun _=>netN c p f.o) else atQ f fun _=>f.v
noncomputable def Ft.M (c : Ci) (f : Ft) (p : Pt) : Nat→Nat:=netM c (f.W c p) (f.Q c p) p
theorem Ft.any.n {c : Ci} {f : Ft} (h : f.any c) : f.n < c.n.length:=h.elim (fun h=>h.1.n) fun h=>h.n
theorem Ft.any.v {c : Ci} {f : Ft} (h : f.any c) : f.v ≤ 1:=h.elim (fun h=>h.1.v) fun h=>h.v
theorem Ft.any.q {c : Ci} {f : Ft} (h : f.any c) : f.q ≤ (c.nd f.n).i.length:=h.elim (fun h=>h.1.q) fun h=>by rw [h.q]; omega
theorem Ft.any.m {c : Ci} {f : Ft} (h : f.any c) : f.m = 0∨f.m = 2∨f.m = 3:=h.elim (fun h=>.inl h.2) fun h=>.inr h.m
noncomputable def Ft.det (c : Ci) (f : Ft) (p : Pt) : Bool:=visB c (f.W c p) (f.Q c p) p
theorem wi_c (f : Ft) (A : Nat→Nat) : FnW (.fn 125 [] [.iptr (natV f.n) 0,.iptr (natV f.o) 0,.iptr (u8V (logE (resK f.v) [A f.n,A f.o])) 0]) (wiW f A):=by
  refine ⟨125,_,rfl,rfl,fun n v _ _=>?_⟩
  unfold wiW
  generalize logE (resK f.v) [A f.n,A f.o] = E
  refine PureC.of_W 2 ok125 rfl ?_
  by_cases h1 : n = f.n
  · simp [i125,x125,natV,u8V,h1]
  · by_cases h2 : n = f.o
    · subst h2; simp [i125,x125,natV,u8V,h1]
    · simp [i125,x125,natV,u8V,h1,h2]
theorem strV (N : Nat) (A : Nat→Nat) (o : Nat) (ho : o < N) (cap : Option Nat) : FnV (.fn 127 [] [.iptr (.sl (tU N A) cap) 0,.iptr (natV o) 0]) (fun _=>A o):=by
  refine ⟨127,_,rfl,by simp [V.pureL,V.pure,natV],fun v _=>?_⟩
  show PureC Tryz.prog gl0 127 [u8V v,.iptr (.sl (tU N A) cap) 0,.iptr (natV o) 0] (u8V (A o))
  obtain ⟨x,hx⟩ : ∃ x,A o = x:=⟨_,rfl⟩
  rw [hx]
  refine PureC.of_W 2 ok127 rfl ?_
  simp [i127,x127,natV,u8V,ho,tU_get,hx]
theorem faultyR_c (c : Ci) (f : Ft) (hf : f.okB c) (hm : f.m = 3) (A : Nat→Nat) : OwnC Tryz.prog gl0 84 [c.v,f.w,.sl (tU c.n.length A) (some c.n.length)]
    (CyK c (nfV f (.fn 127 [] [.iptr (.sl (tU c.n.length A) (some c.n.length)) 0,.iptr (natV f.o) 0])) (pfV f (.fn 127 [] [.iptr (.sl (tU c.n.length A) (some c.n.length)) 0,.iptr (natV f.o) 0]))):=by
  have hV:=strV c.n.length A f.o hf.o (some c.n.length)
  have hat:=atU_c c f _ _ hV
  have hNW : FnW (nfV f _) _:=atNF f _ _ hV
  have hPQ : FnQ (pfV f _) _:=atPF f _ _ hV
  have hnp:=fnW_pure hNW
  have hpp:=fnQ_pure hPQ
  clear hNW hPQ hV
  have hl : V.pureL (tU c.n.length A) = true:=tU_pure _ _
  generalize tU c.n.length A = L at *
  generalize hNF : nfV f _ = NF at hat hnp ⊢
  generalize hPF : pfV f _ = PF at hat hpp ⊢
  have hcyp:=cyN_pure (c:=c) hnp hpp
  simp only [natV] at hat
  refine OwnC.of_W ok84 rfl ?_
  simp [i84,x84,u8V,hm,natV]
  intro gf1 gf2 gf3 gm
  refine ⟨by decide,?_⟩
  refine CallO.frzB 5 (g:=gf3 5) (sz:=1) (es:=[.sl L (some c.n.length)]) (by simp) (by simp [V.pureL,V.pure,hl]) ?_
  simp [fzV,V.mapR,V.mapRL,fzp,fzH,Blk.fz,mapR_pure _ (ci_pure2 c),mapRL_pure,hl]
  refine CallO.frzB 8 (g:=gm 8) (sz:=1) (es:=[.int .i64 (f.o : Int)]) (by simp) (by simp) ?_
  simp [fzV,V.mapR,V.mapRL,fzp,fzH,Blk.fz,mapR_pure _ (ci_pure2 c),mapRL_pure,hl]
  refine CallO.own 900 hat (by simp [V.pureL,V.pure,hl]) (by simp) ?_
  rintro v h ⟨g0,rfl,rfl⟩ gf8
  simp [upH,upS,Blk.rn,rn_pure _ hcyp]
  generalize gf8 900 + g0 = gx
  refine .move 900 0 _ (by simp) (by simp; rfl) fun g'=>.done ?_
  simp [rn_pure _ hcyp]
  exact ⟨[(0,.row g' 7 [cyV c .nil NF PF])],by simp,g',rfl,rfl⟩
theorem faultyW_c (c : Ci) (f : Ft) (hf : f.okB c) (hm : f.m = 2) (A : Nat→Nat) : OwnC Tryz.prog gl0 84 [c.v,f.w,.sl (tU c.n.length A) (some c.n.length)]
    (CyK c (.fn 125 [] [.iptr (natV f.n) 0,.iptr (natV f.o) 0,.iptr (u8V (logE (resK f.v) [A f.n,A f.o])) 0]) (.fn 124 [] [])):=by
  have h1:=resolved_c f.v
  have hn:=hf.n
  have ho:=hf.o
  obtain ⟨x,hx⟩ : ∃ x,A f.n = x:=⟨_,rfl⟩
  obtain ⟨y,hy⟩ : ∃ y,A f.o = y:=⟨_,rfl⟩
  have h2:=res1_c (resK f.v) (resK_lt _) x y
  rw [hx,hy]
  generalize resK f.v = K at h1 h2 ⊢
  generalize logE K [x,y] = E at h2 ⊢
  simp only [u8V] at h1 h2
  refine OwnC.of_W ok84 rfl ?_
  simp [i84,x84,u8V,hm,natV]
  intro gf1 gf2 gf3 gm
  refine ⟨by decide,?_⟩
  intro gm2
  first | refine ⟨_,_,_,.pure h1 rfl,?_⟩ | refine ⟨_,⟨_,_,.pure h1 rfl⟩,?_⟩ | refine ⟨_,_,⟨_,.pure h1 rfl⟩,?_⟩
  simp [hn,ho,tU_get,hx,hy,u8V]
  first | refine ⟨_,_,_,.pure h2 (by simp [V.pureL,V.pure]),?_⟩ | refine ⟨_,⟨_,_,.pure h2 (by simp [V.pureL,V.pure])⟩,?_⟩ | refine ⟨_,_,⟨_,.pure h2 (by simp [V.pureL,V.pure])⟩,?_⟩
  simp
  refine ⟨rfl,?_⟩
  intro gf4
  have hl : V.pureL (tU c.n.length A) = true:=tU_pure _ _
  generalize tU c.n.length A = LL at hl ⊢
  refine .frz (g:=gm 7) (sz:=1) (es:=[.int .i64 (f.n : Int)]) 7 (by simp) (by simp) (.frz (g:=gm 8) (sz:=1) (es:=[.int .i64 (f.o : Int)]) 8 (by simp [fzH,Blk.fz]; exact fzV_pure rfl) (by simp)
    (.frz (g:=gm2 9) (sz:=1) (es:=[.int .u8 (E : Int)]) 9 (by simp [fzH,Blk.fz]; rw [fzV_pure rfl,fzV_pure rfl]) (by simp) ?_))
  simp [fzF,fzV,V.mapR,V.mapRL,fzp,fzH,Blk.fz,mapR_pure _ (ci_pure2 c),mapR_pure _ (ft_pure f),mapRL_pure,hl]
  refine .move 34 0 _ (by simp) (by simp; rfl) fun g'=>.done ?_
  simp [rnL_pure _ (nds_pure _),rnL_pure _ (strs_pure _),rnL_pure _ (mds_pure _),rnL_pure _ (ints_pure _)]
  exact ⟨[(0,.row g' 7 [cyV c .nil (.fn 125 [] [.iptr (natV f.n) 0,.iptr (natV f.o) 0,.iptr (u8V E) 0]) (.fn 124 [] [])])],by simp; rfl,g',rfl,rfl⟩
theorem faultyA_c (c : Ci) (f : Ft) (hf : f.any c) (p : Pt) : ∃ NX PX,FnW NX (f.W c p)∧FnQ PX (f.Q c p)∧OwnC Tryz.prog gl0 84 [c.v,f.w,.sl (tU c.n.length (netN c p)) (some c.n.length)] (CyK c NX PX):=by
  rcases hf.m with hm | hm | hm
  · have hW : f.W c p = atW f fun _=>f.v:=by unfold Ft.W; rw [if_neg (by omega),if_neg (by omega)]
    have hQ : f.Q c p = atQ f fun _=>f.v:=by unfold Ft.Q; rw [if_neg (by omega),if_neg (by omega)]
    rw [hW,hQ]
    exact ⟨_,_,atNF f _ _ (stkV f),atPF f _ _ (stkV f),faultyS_c c f hm _ _ (tU_pure _ _)⟩
  · have hb : f.okB c:=hf.elim (fun h=>by have:=h.2; omega) id
    have hW : f.W c p = wiW f (netN c p):=by unfold Ft.W; rw [if_pos hm]
    have hQ : f.Q c p = idQ:=by unfold Ft.Q; rw [if_pos hm]
    rw [hW,hQ]
    exact ⟨_,_,wi_c f _,readQ_c,faultyW_c c f hb hm _⟩
  · have hb : f.okB c:=hf.elim (fun h=>by have:=h.2; omega) id
    have hW : f.W c p = atW f fun _=>netN c p f.o:=by unfold Ft.W; rw [if_neg (by omega),if_pos hm]
    have hQ : f.Q c p = atQ f fun _=>netN c p f.o:=by unfold Ft.Q; rw [if_neg (by omega),if_pos hm]
    rw [hW,hQ]
    exact ⟨_,_,atNF f _ _ (strV _ _ _ hb.o _),atPF f _ _ (strV _ _ _ hb.o _),faultyR_c c f hb hm _⟩
theorem fcheckA_c (c : Ci) (hg : c.good) (f : Ft) (hf : f.any c) : PureC Tryz.prog gl0 29 [c.v,f.w] (.int .i64 0):=hf.elim (fun h=>fcheck_c c hg f h.1) (fcheckB_c c hg f)
theorem netN_le3 {c : Ci} {p : Pt} (hp : p.fit c) (n : Nat) : netN c p n ≤ 3:=by
  rw [netN_M]
  exact evlM_le (fun _ _ h=>h) _ _ (ini_le hp) n
theorem W_le3 {c : Ci} {f : Ft} (hf : f.any c) {p : Pt} (hp : p.fit c) : Le3W (f.W c p):=by
  have hv:=hf.v
  unfold Ft.W
  split
  · intro n v h
    unfold wiW
    split
    · exact logE_le _ _
    · exact h
  split
  · exact atW_le f _ fun _=>netN_le3 hp _
  · exact atW_le f _ fun _=>by omega
noncomputable def Ft.O (c : Ci) (f : Ft) (p : Pt) : List Nat:=obsMO c (f.M c p)
noncomputable def Ft.S (c : Ci) (f : Ft) (p : Pt) : List Nat:=obsMS c (f.Q c p) (f.M c p)
theorem bothA_c (c : Ci) (hg : c.good) (f : Ft) (hf : f.any c) (p : Pt) (hp : p.fit c) :
    PureC Tryz.prog gl0 47 [c.v,f.w,p.v] (.tup [rspV (obsO c (netN c p)) (obsS c (netN c p)),rspV (f.O c p) (f.S c p),.sl (tU c.n.length (f.M c p)) (some c.n.length),.int .i64 0]):=by
  obtain ⟨NX,PX,h1,h2,h3⟩:=faultyA_c c f hf p
  exact both_c c hg f (fcheckA_c c hg f hf) (by have:=hf.m; omega) p hp _ _ NX PX h1 h2 (W_le3 hf hp) h3
theorem detA_c (c : Ci) (hg : c.good) (f : Ft) (hf : f.any c) (p : Pt) (hp : p.fit c) : PureC Tryz.prog gl0 18 [c.v,f.w,p.v] (.tup [.bool (f.det c p),.int .i64 0]):=by
  have hno : c.o.length ≤ 16384:=(sh_len hg.sh).2.2.2
  have hn1:=hg.n1
  have l1:=cnt_le 14 c.n
  have e1:=obsO_len c (netN c p)
  have e2:=obsS_len c (netN c p)
  exact detF_c c hg f p _ _ _ _ _ (by omega) (by omega) (bothA_c c hg f hf p hp)
theorem runA_c (c : Ci) (hg : c.good) (f : Ft) (hf : f.any c) (p : Pt) (hp : p.fit c) : PureC Tryz.prog gl0 21 [c.v,f.w,p.v] (.tup [rspV (f.O c p) (f.S c p),.sl (tU c.n.length (f.M c p)) (some c.n.length),.int .i64 0]):=by
  have hb:=bothA_c c hg f hf p hp
  generalize f.O c p = O at hb ⊢
  generalize f.S c p = S at hb ⊢
  generalize f.M c p = M at hb ⊢
  simp only [rspV,Pt.v] at hb ⊢
  refine PureC.of_W 2 ok21 rfl ?_
  simp [i21,x21]
  intro gf1 gf2 gf3 gf4
  refine CallO.pure hb (by simp [natV,u8V]) ?_
  simp [mapRL_pure,map_frz_pure (tU_pure _ _)]
end Go.Proofs.YtlmniacemoohpaaGreatDoor
namespace Go.Proofs.YtlmniacemoohpaaGreatDoor
open Go
set_option maxRecDepth 100000 in
set_option maxHeartbeats 4000000 in
theorem fofB_c (c : Ci) (hg : c.good) (f : Fx) (hf : f.ok) (m : Nat) (hm : f.m % 4 = m) (hm2 : m = 2∨m = 3) : ∃ g : Ft,g.any c∧PureC Tryz.prog gl0 42 [f.v,c.v] g.w:=by
  have hn0:=hg.n0
  have hn1:=hg.n1
  obtain ⟨N,hN⟩ : ∃ N,c.n.length = N:=⟨_,rfl⟩
  obtain ⟨a,ha⟩ : ∃ a,f.n % N = a:=⟨_,rfl⟩
  obtain ⟨b,hb⟩ : ∃ b,f.o % N = b:=⟨_,rfl⟩
  have haN : a < N:=by rw [← ha]; exact Nat.mod_lt _ (by omega)
  have hbN : b < N:=by rw [← hb]; exact Nat.mod_lt _ (by omega)
  have r1 : ((f.m : Int)).tmod 4 = (m : Int):=modN hm
  have r2 : ((f.n : Int)).tmod (N : Int) = (a : Int):=modN ha
  have r4 : ((f.o : Int)).tmod (N : Int) = (b : Int):=modN hb
  have w1 : IntKind.u8.wrap (m : Int) = (m : Int):=wrap_u8 (by omega) (by omega)
  have w2 : IntKind.i64.wrap (f.n : Int) = (f.n : Int):=u8i hf.n
  have w3 : IntKind.i64.wrap (f.p : Int) = (f.p : Int):=u8i hf.p
  have w4 : IntKind.i64.wrap (a : Int) = (a : Int):=u8i (by omega)
  have w6 : IntKind.i64.wrap (f.o : Int) = (f.o : Int):=u8i hf.o
  have w7 : IntKind.i64.wrap (b : Int) = (b : Int):=u8i (by omega)
  have hN0 : N ≠ 0:=by omega
  have hne : c.n ≠ []:=by intro e; rw [e] at hN; simp at hN; omega
  -- the bridge asked for
  obtain ⟨p,q,hpq,hpN,hqN⟩ : ∃ p q,(if m = 2∧b < a then (b,a) else (a,b)) = (p,q)∧p < N∧q < N:=by
    split
    · exact ⟨b,a,rfl,hbN,haN⟩
    · exact ⟨a,b,rfl,haN,hbN⟩
  obtain ⟨v,hv⟩ : ∃ v : Nat,(if m = 3 then 0 else if f.one = true then 1 else 0) = v:=⟨_,rfl⟩
  have hv1 : v ≤ 1:=by rw [← hv]; split <;> (try split) <;> omega
  have hv3 : m = 3→v = 0:=fun h=>by rw [← hv,if_pos h]
  have hlt : m = 2→p ≤ q:=fun h=>by
    by_cases e : b < a
    · rw [if_pos ⟨h,e⟩] at hpq; cases hpq; omega
    · rw [if_neg fun k=>e k.2] at hpq; cases hpq; omega
  have hpc:=pcheck_c c hg ⟨m,p,0,v,q⟩ hm2 (by dsimp only; omega) (by dsimp only; omega) rfl hv1 hv3
  obtain ⟨E,hE⟩ : ∃ E,bridgeE c ⟨m,p,0,v,q⟩ = E:=⟨_,rfl⟩
  rw [hE] at hpc
  obtain ⟨y,hy⟩ : ∃ y,c.n[p]'(by omega) = y:=⟨_,rfl⟩
  have hyl:=hg.val.l p (by omega)
  have hnd : c.nd p = y:=by rw [c.nd_get (by omega),hy]
  rw [hnd] at hyl
  obtain ⟨M,hM⟩ : ∃ M,y.i.length = M:=⟨_,rfl⟩
  obtain ⟨k,hk⟩ : ∃ k,f.p % (M + 1) = k:=⟨_,rfl⟩
  have hkM : k < M + 1:=by rw [← hk]; exact Nat.mod_lt _ (by omega)
  have r3 : ((f.p : Int)).tmod (((M + 1 : Nat)) : Int) = (k : Int):=modN hk
  have w8:=wrapN M (by omega)
  have w9 : IntKind.i64.wrap ((k : Int) - 1) = (k : Int) - 1:=by rw [wrap_i64] <;> omega
  obtain ⟨M1,hM1⟩ : ∃ M1,M + 1 = M1:=⟨_,rfl⟩
  rw [hM1] at w8 r3
  have hM10 : M1 ≠ 0:=by omega
  have hpc2 : c.n.length = N:=hN
  have hwalk : PureC Tryz.prog gl0 42 [f.v,c.v] (if E = 0 then (⟨m,p,0,v,q⟩ : Ft) else ⟨0,p,k,v,0⟩).w:=by
    simp only [Ft.w,u8V,natV] at hpc
    change PureC _ _ _ [_,.agg [_,_,.int .i64 (-1),_,_]] _ at hpc
    refine PureC.of_W 2 ok42 rfl ?_
    simp [i42,x42,Fx.v,u8V,hne]
    intro gf1 gf2 gf3 gm
    simp [hN,r1,r2,w2]
    refine ⟨rfl,?_⟩
    rcases hm2 with rfl | rfl
    case' inl=>
      by_cases hba : b < a
      case' pos=>
        rw [if_pos ⟨rfl,hba⟩] at hpq
        cases hpq
      case' neg=>
        rw [if_neg (fun k=>hba k.2)] at hpq
        cases hpq
      all_goals
        rw [if_neg (by omega)] at hv
        cases hone : f.one
        case' true=>
          rw [hone,if_pos rfl] at hv
          subst hv
          simp [hN,w6,r4,hN0,hba]
        case' false=>
          rw [hone,if_neg Bool.false_ne_true] at hv
          subst hv
          simp [hN,w6,r4,hN0,hba]
    case' inr=>
      rw [if_neg (fun k=>by omega)] at hpq
      cases hpq
      rw [if_pos rfl] at hv
      subst hv
      cases hone : f.one
      case' true=>simp [hN,w6,r4,hN0]
      case' false=>simp [hN,w6,r4,hN0]
    all_goals
      refine CallO.pure hpc (by simp [V.pureL,V.pure]) ?_
      by_cases hE0 : E = 0
      · simp [hE0]
        rfl
      · simp [hE0]
        intro gm2
        simp [hN,haN,hbN,hy,hM,w3,w8,hM10,r3,w9,hM1]
        rfl
  by_cases hE0 : E = 0
  · refine ⟨⟨m,p,0,v,q⟩,.inr ?_,by rw [if_pos hE0] at hwalk; exact hwalk⟩
    rw [hE0] at hE
    unfold bridgeE at hE
    split at hE
    · cases hE
    rename_i e1
    split at hE
    · cases hE
    rename_i e2
    split at hE
    · cases hE
    rename_i e3
    simp only [not_or,Bool.not_eq_true] at e1 e2 e3
    exact ⟨hm2,by dsimp only; omega,by dsimp only; omega,rfl,e1.1,hlt,hv1,hv3,e2.1,e2.2,e3.1,e3.2⟩
  · exact ⟨⟨0,p,k,v,0⟩,.inl ⟨⟨by simp,by dsimp only; omega,by dsimp only; rw [hnd,hM]; omega,hv1,rfl⟩,rfl⟩,by rw [if_neg hE0] at hwalk; exact hwalk⟩
theorem fofA_c (c : Ci) (hg : c.good) (z : Fx) (hz : z.ok) : ∃ f : Ft,PureC Tryz.prog gl0 42 [z.v,c.v] f.w∧((z.m % 4 = 1∧f.m = 1∧f.ok c)∨(z.m % 4 ≠ 1∧f.any c)):=by
  have h : z.m % 4 = 0∨z.m % 4 = 1∨z.m % 4 = 2∨z.m % 4 = 3:=by omega
  rcases h with h | h | h | h
  · exact ⟨_,fof_c c hg z hz 0 h (by omega),.inr ⟨by omega,.inl ⟨of_ok c hg z 0 (by omega),rfl⟩⟩⟩
  · exact ⟨_,fof_c c hg z hz 1 h (by omega),.inl ⟨h,rfl,of_ok c hg z 1 (by omega)⟩⟩
  · obtain ⟨g,h1,h2⟩:=fofB_c c hg z hz 2 h (.inl rfl)
    exact ⟨g,h2,.inr ⟨by omega,h1⟩⟩
  · obtain ⟨g,h1,h2⟩:=fofB_c c hg z hz 3 h (.inr rfl)
    exact ⟨g,h2,.inr ⟨by omega,h1⟩⟩
end Go.Proofs.YtlmniacemoohpaaGreatDoor
