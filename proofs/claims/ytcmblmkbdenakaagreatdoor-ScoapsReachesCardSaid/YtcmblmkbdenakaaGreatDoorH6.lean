/- Reaches: the law. Conditions: none. -/
import Derived.Test.YtcmblmkbdenakaaGreatDoorR2
import Derived.Test.YtcmblmkbdenakaaGreatDoorD7
import Derived.Test.YtcmblmkbdenakaaGreatDoorD13
import Derived.Test.YtcmblmkbdenakaaGreatDoorLV
import Derived.Test.YtcmblmkbdenakaaGreatDoorST
import Derived.Test.YtcmblmkbdenakaaGreatDoorXL4
set_option linter.unusedSimpArgs false
set_option linter.unusedVariables false
namespace Go.Proofs.YtcmblmkbdenakaaGreatDoor
open Go
theorem cnt_two : ∀ l : List Nd,cnt 0 l + cnt 14 l ≤ l.length
 | []=>by simp [cnt,ids]
 | n :: r=>by
  have:=cnt_two r
  rw [cnt_cons,cnt_cons,List.length_cons]
  split <;> split <;> omega
theorem ifp {p q : Prop} [Decidable p] [Decidable q] (h : p↔q) : (if p then 1 else 0 : Nat) = if q then 1 else 0:=by
 by_cases hp : p
 ·rw [if_pos hp,if_pos (h.1 hp)]
 ·rw [if_neg hp,if_neg fun q=>hp (h.2 q)]
open Classical in
noncomputable def seenP (c : Ci) (m j v k : Nat) : Nat:=if (∃ i,i < m∧netN c (bitP c i) k = v)∨(k < j∧netN c (bitP c m) k = v) then 1 else 0
theorem seen_step {c : Ci} {m j v : Nat} (h : netN c (bitP c m) j = v) : upd1 (seenP c m j v) j 1 = seenP c m (j + 1) v:=by
 funext k
 by_cases hk : k = j
 ·subst hk
  rw [upd1_same]; unfold seenP
  rw [if_pos (.inr ⟨Nat.lt_succ_self _,h⟩)]
 ·rw [upd1_ne _ _ hk]; unfold seenP
  exact ifp (or_congr .rfl (and_congr ⟨fun _=>by omega,fun _=>by omega⟩ .rfl))
theorem seen_skip {c : Ci} {m j v : Nat} (h : netN c (bitP c m) j ≠ v) : seenP c m (j + 1) v = seenP c m j v:=by
 funext k
 unfold seenP
 by_cases hk : k = j
 ·subst hk
  exact ifp (or_congr .rfl ⟨fun q=>absurd q.2 h,fun q=>absurd q.2 h⟩)
 ·exact ifp (or_congr .rfl (and_congr ⟨fun _=>by omega,fun _=>by omega⟩ .rfl))
theorem seen_next (c : Ci) (N m v : Nat) : natsT N (seenP c m N v) = natsT N (seenP c (m + 1) 0 v):=natsT_congr fun k hk=>by
 unfold seenP
 refine ifp ⟨fun q=>by
  rcases q with ⟨i,h1,h2⟩ | ⟨h1,h2⟩
  ·exact .inl ⟨i,by omega,h2⟩
  ·exact .inl ⟨m,by omega,h2⟩,fun q=>by
  rcases q with ⟨i,h1,h2⟩ | ⟨h1,h2⟩
  ·by_cases hi : i = m
   ·subst hi; exact .inr ⟨hk,h2⟩
   ·exact .inl ⟨i,by omega,h2⟩
  ·omega⟩
theorem seen_one {c : Ci} {m v k : Nat} : seenP c m 0 v k = 1↔∃ i,i < m∧netN c (bitP c i) k = v:=by
 unfold seenP
 constructor
 ·intro h
  split at h
  ·rename_i q
   rcases q with q | ⟨q,-⟩
   ·exact q
   ·omega
  ·cases h
 ·intro h
  rw [if_pos (.inl h)]
theorem seen_zero (c : Ci) (v : Nat) : seenP c 0 0 v = fun _=>0:=by
 funext k
 unfold seenP
 rw [if_neg]
 rintro (⟨i,h,-⟩ | ⟨h,-⟩) <;> omega
structure RcS where
 n : Nat
 R : Nat→Nat
 tr : Bool
 cs : Bool
 gt : Bool
structure RcQ where
 i : Nat
 R : Nat→Nat
 tr : Bool
def RcP (c : Ci) (n i m j : Nat) : Prop:=j < (c.nd m).i.length∧(m < n∨(m = n∧j < i))
structure RcI (c : Ci) (n i : Nat) (R : Nat→Nat) (tr : Bool) : Prop where
 one : ∀ m j,RcP c n i m j→1 ≤ R (inC c m j)
 uni : tr = true→∀ m j m' j',RcP c n i m j→RcP c n i m' j'→inC c m j = inC c m' j'→m = m'∧j = j'
 le : ∀ k,R k ≤ 3 * n + i
structure FlI (c : Ci) (n : Nat) (cs gt : Bool) : Prop where
 cs : cs = false→∀ m,m < n→(c.nd m).k ≠ 1∧(c.nd m).k ≠ 2
 gt : gt = true→∀ m,m < n→(c.nd m).k ≠ 12∧(c.nd m).k ≠ 13
theorem RcI.start (c : Ci) : RcI c 0 0 (fun _=>0) true where
 one:=fun m j h=>by have:=h.2; omega
 uni:=fun _ m j m' j' h=>by have:=h.2; omega
 le:=fun k=>Nat.zero_le _
theorem FlI.start (c : Ci) : FlI c 0 false true:=⟨fun _ m h=>by omega,fun _ m h=>by omega⟩
theorem RcI.next {c : Ci} {n : Nat} {R : Nat→Nat} {tr : Bool} (h : RcI c n (c.nd n).i.length R tr) (hl : (c.nd n).i.length ≤ 3) : RcI c (n + 1) 0 R tr:=by
 have e : ∀ m j,RcP c (n + 1) 0 m j→RcP c n (c.nd n).i.length m j:=fun m j h=>⟨h.1,by
  have h2:=h.2
  by_cases hm : m = n
  ·subst hm; exact .inr ⟨rfl,h.1⟩
  ·exact .inl (by omega)⟩
 exact ⟨fun m j q=>h.one m j (e m j q),fun t m j m' j' q q'=>h.uni t m j m' j' (e _ _ q) (e _ _ q'),fun k=>by have:=h.le k; omega⟩
theorem RcI.step {c : Ci} {n i x : Nat} {R : Nat→Nat} {tr : Bool} (h : RcI c n i R tr) (hx : inC c n i = x) : RcI c n (i + 1) (upd1 R x (R x + 1)) (tr && decide (R x + 1 < 2)):=by
 have e : ∀ m j,RcP c n (i + 1) m j→RcP c n i m j∨(m = n∧j = i):=fun m j q=>by
  have h2:=q.2
  by_cases hm : m = n∧j = i
  ·exact .inr hm
  ·exact .inl ⟨q.1,by omega⟩
 have hge : ∀ k,R k ≤ upd1 R x (R x + 1) k:=fun k=>by
  by_cases hk : k = x
  ·subst hk; rw [upd1_same]; omega
  ·rw [upd1_ne _ _ hk]; exact Nat.le_refl _
 refine ⟨fun m j q=>?_,fun t m j m' j' q q' eq=>?_,fun k=>?_⟩
 ·rcases e m j q with q | ⟨rfl,rfl⟩
  ·exact Nat.le_trans (h.one m j q) (hge _)
  ·rw [hx,upd1_same]; omega
 ·simp only [Bool.and_eq_true,decide_eq_true_eq] at t
  rcases e m j q with q | ⟨rfl,rfl⟩
  ·rcases e m' j' q' with q' | ⟨rfl,rfl⟩
   ·exact h.uni t.1 m j m' j' q q' eq
   ·have:=h.one m j q
    rw [eq,hx] at this; omega
  ·rcases e m' j' q' with q' | ⟨rfl,rfl⟩
   ·have:=h.one m' j' q'
    rw [← eq,hx] at this; omega
   ·exact ⟨rfl,rfl⟩
 ·have:=h.le k
  by_cases hk : k = x
  ·subst hk; rw [upd1_same]; omega
  ·rw [upd1_ne _ _ hk]; omega
theorem FlI.next {c : Ci} {n : Nat} {cs gt : Bool} (h : FlI c n cs gt) : FlI c (n + 1) (cs || decide ((c.nd n).k = 1) || decide ((c.nd n).k = 2)) (gt && !decide ((c.nd n).k = 12) && !decide ((c.nd n).k = 13)):=by
 refine ⟨fun q m hm=>?_,fun q m hm=>?_⟩
 ·simp only [Bool.or_eq_false_iff,decide_eq_false_iff_not] at q
  by_cases e : m = n
  ·subst e; exact ⟨q.1.2,q.2⟩
  ·exact h.cs q.1.1 m (by omega)
 ·simp only [Bool.and_eq_true,Bool.not_eq_true',decide_eq_false_iff_not] at q
  by_cases e : m = n
  ·subst e; exact ⟨q.1.2,q.2⟩
  ·exact h.gt q.1.1 m (by omega)
structure EnS where
 j : Nat
 b : Bool
def EnI (c : Ci) (k : Nat) (S : List Nat) (b : Bool) : Prop:=b = true↔∃ e,e ∈ S∧rchN c [k] e = 1
theorem EnI.start (c : Ci) (k : Nat) : EnI c k [] false:=⟨fun h=>by simp at h,fun ⟨e,h,_⟩=>by simp at h⟩
theorem EnI.step {c : Ci} {k : Nat} {S : List Nat} {b : Bool} (h : EnI c k S b) (e : Nat) : EnI c k (S ++ [e]) (b || decide (rchN c [k] e = 1)):=by
 unfold EnI at *
 rw [Bool.or_eq_true,h,decide_eq_true_eq]
 constructor
 ·rintro (⟨x,h1,h2⟩ | h1)
  ·exact ⟨x,by simp [h1],h2⟩
  ·exact ⟨e,by simp,h1⟩
 ·rintro ⟨x,h1,h2⟩
  rcases List.mem_append.1 h1 with h1 | h1
  ·exact .inl ⟨x,h1,h2⟩
  ·have : x = e:=by simpa using h1
   subst this; exact .inr h2
theorem EnI.path {c : Ci} {k : Nat} {b : Bool} (h : EnI c k (outsN c ++ (ids 14 c.n 0).map (dnN c)) b) : b = true↔pathN c k:=by
 unfold EnI at h
 rw [h]
 have hr : ∀ e,rchN c [k] e = 1↔Rch c [k] e:=fun e=>by
  unfold rchN
  split
  ·rename_i q; exact ⟨fun _=>q,fun _=>rfl⟩
  ·rename_i q; exact ⟨fun z=>by omega,fun z=>absurd z q⟩
 exact ⟨fun ⟨e,h1,h2⟩=>⟨e,(hr e).1 h2,List.mem_append.1 h1⟩,fun ⟨e,h1,h2⟩=>⟨e,List.mem_append.2 h2,(hr e).2 h1⟩⟩
set_option maxHeartbeats 4000000 in
set_option maxRecDepth 100000 in
theorem law4_c (x : Cx) (hx : x.ok) : PureC Tryz.prog gl0 4 [x.v] (.bool true):=by
 have hyok : x.nm.ok:=⟨hx.n,hx.f,hx.d0,hx.d1,hx.p0,hx.p1,hx.p2,hx.p3,hx.g,hx.o⟩
 have hof:=cof_c x.nm hyok
 have hxv : x.nm.v = .agg [u8V x.n,u8V x.f,u8V x.d0,u8V x.d1,.bool x.bus,.bool false,u8V x.p0,u8V x.p1,u8V x.p2,u8V x.p3,.sl (x.g.map Gx.v) none,.sl (x.o.map u8V) none]:=rfl
 rw [hxv] at hof
 have hgp : V.pureL (x.g.map Gx.v) = true:=pureL_map (fun g=>by simp [Gx.v,u8V]) x.g
 have hop : V.pureL (x.o.map u8V) = true:=u8s_pure x.o
 have hg:=nm_good x
 have hs:=nm_shr x
 generalize x.nm.st0.length = s0 at hs
 have hol : x.nm.ci.o.length ≤ 4:=by simp [Cx.ci]; omega
 generalize x.nm.ci = c at hof hg hs hol
 have ho:=hg.ord
 have hn1:=hs.s3
 have hn20:=hg.n1
 have hct:=ControlP_c c hg.wf hg.chk hn20
 have hob:=ObserveP_c c hg.wf hg.chk hn20
 have hab:=cnt_two c.n
 have hpat:=fun i hi=>patterns_c c hg i hi (by omega)
 refine PureC.of_W 3 ok4 rfl ?_
 simp [i4,x4,Cx.v,u8V]
 intro ga
 generalize ga 1 = g1
 refine CallO.pure hof (by simp [u8V,hgp,hop]) ?_
 simp
 intro gb
 generalize gb 3 = g3
 refine CallO.pure hct (by simp) ?_
 simp
 refine CallO.pure hob (by simp) ?_
 simp [netsC_len,natsT_len]
 intro gc gd
 refine ⟨by omega,fun ge=>⟨by omega,?_⟩⟩
 generalize gc 8 = g8
 generalize gd 71 = g71
 generalize ge 76 = g76
 have hp0:=hpat 0 (by omega)
 obtain ⟨T,hT⟩ : ∃ T,2 ^ (cnt 0 c.n + cnt 14 c.n) = T:=⟨_,rfl⟩
 have hT2 : T < 1000000:=by
  have h1 : 2 ^ (cnt 0 c.n + cnt 14 c.n) ≤ 2 ^ 14:=Nat.pow_le_pow_right (by omega) (by omega)
  have h3 : (2 : Nat) ^ 14 = 16384:=rfl
  rw [h3] at h1; omega
 rw [hT] at hpat hp0
 simp only [natV,Int.natCast_zero,Int.ofNat_zero] at hp0
 refine CallO.pure hp0 (by simp) ?_
 simp
 intro gf
 generalize gf 10 = g10
 rw [natsT_rep]
 refine LoopP.of (X:=Nat) (fun m=>[(11,natV m),(9,natV T),(8,.ptr 8 g8 0 0),(6,.sl (natsT c.n.length (obs c)) (some c.n.length)),(4,.sl (netsC c.n.length (ctl c)) (some c.n.length)),(3,.ptr 3 g3 0 0),(2,.bool false)])
  (fun m=>[(8,.row g8 2 [.agg [.ref 71 g71 0 c.n.length (some c.n.length),.ref 76 g76 0 c.n.length (some c.n.length)]]),(71,.row g71 1 (natsT c.n.length (seenP c m 0 0))),(76,.row g76 1 (natsT c.n.length (seenP c m 0 1))),(3,.row g3 4 [c.v])])
  (fun m=>m ≤ T) (fun m=>T - m) 0 (Nat.zero_le _) (by simp [natV]) (by simp [seen_zero]; rfl) ?_
 intro m hm
 simp [natV]
 refine BrB.of (fun hb=>?_) (fun hb=>?_)
 ·have hm':=of_decide_eq_true hb
  have hwm:=wrapN m (by omega)
  have hpm:=hpat m (by omega)
  have hfit:=bitP_fit c m
  have hrun:=PureC.wide (run_c c hg (bitP c m) hfit) (args:=[c.v,.agg [.sl ((bitP c m).i.map u8V) (some (cnt 0 c.n)),.sl ((bitP c m).s.map u8V) (some (cnt 14 c.n))]]) ⟨.refl _,.agg ⟨.cap _ _,.cap _ _,trivial⟩,trivial⟩ (.refl _)
  simp only [natV] at hpm
  have hip:=u8s_pure (bitP c m).i
  have hsp:=u8s_pure (bitP c m).s
  simp
  refine CallO.pure hpm (by simp [u8s_pure]) ?_
  generalize (bitP c m).i.map u8V = LI at hrun hip ⊢
  generalize (bitP c m).s.map u8V = LS at hrun hsp ⊢
  simp
  intro gh
  generalize gh 13 = g13
  refine CallO.pure hrun (by simp [hip,hsp]) ?_
  obtain ⟨RS,hRS⟩ : ∃ RS,rspV (obsO c (netN c (bitP c m))) (obsS c (netN c (bitP c m))) = RS:=⟨_,rfl⟩
  have hRS2 : RS.cells.length = 2∧RS.cellsOk = true:=by rw [← hRS]; exact ⟨rfl,rfl⟩
  rw [hRS]
  simp
  intro gi
  refine ⟨hRS2,?_⟩
  generalize gi 14 = g14
  refine LoopP.of (X:=Nat) (fun j=>[(17,natV j),(15,.sl (tab c.n.length fun i=>u8V (netN c (bitP c m) i)) (some c.n.length)),(11,natV m),(9,natV T),(8,.ptr 8 g8 0 0),(6,.sl (natsT c.n.length (obs c)) (some c.n.length)),(4,.sl (netsC c.n.length (ctl c)) (some c.n.length)),(3,.ptr 3 g3 0 0),(2,.bool false)])
   (fun j=>[(8,.row g8 2 [.agg [.ref 71 g71 0 c.n.length (some c.n.length),.ref 76 g76 0 c.n.length (some c.n.length)]]),(71,.row g71 1 (natsT c.n.length (seenP c m j 0))),(76,.row g76 1 (natsT c.n.length (seenP c m j 1))),(3,.row g3 4 [c.v])])
   (fun j=>j ≤ c.n.length) (fun j=>c.n.length - j) 0 (Nat.zero_le _) (by simp [natV]) (by simp) ?_
  intro j hj
  simp [natV]
  refine BrB.of (fun hb2=>?_) (fun hb2=>?_)
  ·have hj':=of_decide_eq_true hb2
   have hwj:=wrapN j (by omega)
   obtain ⟨q,hq⟩ : ∃ q,netN c (bitP c m) j = q:=⟨_,rfl⟩
   have h4 : (tab c.n.length fun i=>u8V (netN c (bitP c m) i))[j]'(by simpa using hj') = V.int .u8 (q : Int):=by rw [tab_get,hq]; rfl
   have hset:=fun v=>natsT_set c.n.length (seenP c m j v) j 1
   simp only [Int.natCast_one,Int.ofNat_one] at hset
   by_cases q0 : q = 0
   ·subst q0
    have e0:=seen_step hq
    have e1:=seen_skip (c:=c) (m:=m) (j:=j) (v:=1) (by omega)
    have hs0:=hset 0
    rw [e0] at hs0
    simp [hj',h4,natsT_len,natsT_at,hs0,hwj]
    exact ⟨j + 1,hj',by simp,⟨rfl,by rw [e1]⟩,by omega⟩
   by_cases q1 : q = 1
   ·subst q1
    have e1:=seen_step hq
    have e0:=seen_skip (c:=c) (m:=m) (j:=j) (v:=0) (by omega)
    have hs1:=hset 1
    rw [e1] at hs1
    simp [hj',h4,natsT_len,natsT_at,hs1,hwj]
    exact ⟨j + 1,hj',by simp,⟨by rw [e0],rfl⟩,by omega⟩
   ·have e0:=seen_skip (c:=c) (m:=m) (j:=j) (v:=0) (by omega)
    have e1:=seen_skip (c:=c) (m:=m) (j:=j) (v:=1) (by omega)
    have d2 : decide ((q : Int) < 2) = false:=decide_eq_false (by omega)
    have d3 : ¬ q < 2:=by omega
    simp [hj',h4,d2,d3,hwj]
    exact ⟨j + 1,hj',by simp,⟨by rw [e0],by rw [e1]⟩,by omega⟩
  ·have hj' : j = c.n.length:=by have:=of_decide_eq_false hb2; omega
   simp [hwm]
   refine ⟨m + 1,hm',by simp,⟨?_,?_⟩,by omega⟩
   ·rw [hj',seen_next]
   ·rw [hj',seen_next]
 have hm' : m = T:=by have:=of_decide_eq_false hb; omega
 subst hm'
 simp
 intro gf3
 refine ⟨by omega,?_⟩
 generalize gf3 133 = g133
 rw [natsT_rep]
 refine LoopP.of (X:=RcS) (fun z=>[(22,natV z.n),(21,.bool z.gt),(20,.bool z.cs),(19,.bool z.tr),(18,.ref 133 g133 0 c.n.length (some c.n.length)),(8,.ptr 8 g8 0 0),(6,.sl (natsT c.n.length (obs c)) (some c.n.length)),(4,.sl (netsC c.n.length (ctl c)) (some c.n.length)),(3,.ptr 3 g3 0 0),(2,.bool false)])
  (fun z=>[(133,.row g133 1 (natsT c.n.length z.R)),(8,.row g8 2 [.agg [.ref 71 g71 0 c.n.length (some c.n.length),.ref 76 g76 0 c.n.length (some c.n.length)]]),(71,.row g71 1 (natsT c.n.length (seenP c m 0 0))),(76,.row g76 1 (natsT c.n.length (seenP c m 0 1))),(3,.row g3 4 [c.v])])
  (fun z=>z.n ≤ c.n.length∧RcI c z.n 0 z.R z.tr∧FlI c z.n z.cs z.gt) (fun z=>c.n.length - z.n) ⟨0,fun _=>0,true,false,true⟩ ⟨by simp,RcI.start c,FlI.start c⟩ (by simp [natV]) (by simp) ?_
 rintro ⟨n,R,tr,cs,gt⟩ ⟨hn,hR,hF⟩
 dsimp only at hn hR hF ⊢
 simp [natV]
 refine BrB.of (fun hb=>?_) (fun hb=>?_)
 ·have hn':=of_decide_eq_true hb
  have hwn:=wrapN n (by omega)
  obtain ⟨y,hy⟩ : ∃ y,c.n[n] = y:=⟨_,rfl⟩
  have hyc : c.nd n = y:=by rw [c.nd_get hn',hy]
  have hym : y ∈ c.n:=hy ▸ List.getElem_mem hn'
  have hyv:=val_mem hg.val hym
  have hl3:=hs.i n hn'
  rw [hyc] at hl3
  have hF2:=hF.next
  rw [hyc] at hF2
  obtain ⟨cs',hcs'⟩ : ∃ b,(cs || decide (y.k = 1) || decide (y.k = 2)) = b:=⟨_,rfl⟩
  obtain ⟨gt',hgt'⟩ : ∃ b,(gt && !decide (y.k = 12) && !decide (y.k = 13)) = b:=⟨_,rfl⟩
  rw [hcs',hgt'] at hF2
  have hcs : ((cs = true)∧cs' = true)∨((cs = false∧y.k = 1)∧cs' = true)∨((cs = false∧¬ y.k = 1)∧decide (y.k = 2) = cs'):=by
   rw [← hcs']
   by_cases h : y.k = 1 <;> cases cs <;> simp [h]
  have hgt : ((gt = false)∧gt' = false)∨((gt = true∧y.k = 12)∧gt' = false)∨((gt = true∧¬ y.k = 12)∧(!decide (y.k = 13)) = gt'):=by
   rw [← hgt']
   by_cases h : y.k = 12 <;> cases gt <;> simp [h]
  rcases hcs with ⟨h1,h2⟩ | ⟨h1,h2⟩ | ⟨h1,h2⟩ <;> rcases hgt with ⟨h3,h4⟩ | ⟨h3,h4⟩ | ⟨h3,h4⟩
  all_goals try (exfalso; omega)
  all_goals simp [hn',hy,h1,h2,h3,h4]
  all_goals
   refine LoopP.of (X:=RcQ) (fun z=>[(24,natV z.i),(22,natV n),(21,.bool gt'),(20,.bool cs'),(19,.bool z.tr),(18,.ref 133 g133 0 c.n.length (some c.n.length)),(8,.ptr 8 g8 0 0),(6,.sl (natsT c.n.length (obs c)) (some c.n.length)),(4,.sl (netsC c.n.length (ctl c)) (some c.n.length)),(3,.ptr 3 g3 0 0),(2,.bool false)])
    (fun z=>[(133,.row g133 1 (natsT c.n.length z.R)),(8,.row g8 2 [.agg [.ref 71 g71 0 c.n.length (some c.n.length),.ref 76 g76 0 c.n.length (some c.n.length)]]),(71,.row g71 1 (natsT c.n.length (seenP c m 0 0))),(76,.row g76 1 (natsT c.n.length (seenP c m 0 1))),(3,.row g3 4 [c.v])])
    (fun z=>z.i ≤ y.i.length∧RcI c n z.i z.R z.tr) (fun z=>y.i.length - z.i) ⟨0,R,tr⟩ ⟨by simp,hR⟩ (by simp [natV,h2,h4]; try (first | (rw [← h2]; simp [h3.2]; done) | (rw [← h4]; simp [h1.2]; done))) (by simp) ?_
   rintro ⟨i,Q,u⟩ ⟨hi,hQ⟩
   dsimp only at hi hQ ⊢
   simp [natV,hn',hy]
   refine BrB.of (fun hb2=>?_) (fun hb2=>?_)
   ·have hi':=of_decide_eq_true hb2
    have hwi:=wrapN i (by omega)
    obtain ⟨r,hr⟩ : ∃ r : Nat,y.i[i] = r:=⟨y.i[i].toNat,by have:=(hyv.2 _ (List.getElem_mem hi')).1; omega⟩
    have hrN : r < c.n.length:=by have:=(hyv.2 _ (List.getElem_mem hi')).2; omega
    have h5 : (ints y.i)[i]'(by simpa using hi') = .int .i64 (r : Int):=by simp [ints,hr]
    have hrd : inC c n i = r:=by unfold inC; rw [hyc,List.getD_eq_getElem?_getD,List.getElem?_eq_getElem hi']; simp [hr]
    have hQ2:=hQ.step hrd
    have hle:=hQ.le r
    have hwr:=wrapN (Q r) (by omega)
    have hset:=natsT_set c.n.length Q r (Q r + 1)
    simp only [Int.natCast_add,Int.natCast_one,Int.ofNat_one] at hset
    cases u with
    | false=>
     simp [hn',hy,hi',h5,hrN,natsT_len,natsT_at,hwr,hset,hwi]
     exact ⟨⟨i + 1,_,_⟩,⟨hi',hQ2⟩,by simp,rfl,by dsimp only; omega⟩
    | true=>
     simp [hn',hy,hi',h5,hrN,natsT_len,natsT_at,hwr,hset,hwi,upd1_same]
     have hdi : decide ((Q r : Int) + 1 < 2) = (true && decide (Q r + 1 < 2)):=by
      rw [Bool.true_and]
      exact decide_eq_decide.2 (by omega)
     exact ⟨⟨i + 1,_,_⟩,⟨hi',hQ2⟩,⟨by simp,hdi⟩,rfl,by dsimp only; omega⟩
   ·have hi' : i = y.i.length:=by have:=of_decide_eq_false hb2; omega
    rw [hi',← hyc] at hQ
    have hQ2:=hQ.next (by rw [hyc]; exact hl3)
    simp [hwn]
    exact ⟨⟨n + 1,Q,u,cs',gt'⟩,⟨hn',hQ2,hF2⟩,by simp,rfl,by dsimp only; omega⟩
 have hnN : n = c.n.length:=by have:=of_decide_eq_false hb; omega
 subst hnN
 have hu : tr = true→c.uni:=fun t n n' i i' h1 h2 h3 h4 e=>hR.uni t n i n' i' ⟨h3,.inl h1⟩ ⟨h4,.inl h2⟩ e
 have hnt : gt = true→c.ntb:=fun t n hn=>hF.gt t n hn
 have hga : cs = false→gt = true→c.gat:=fun t u n hn hc=>by
  have h1:=hF.cs t n hn
  have h2:=hF.gt u n hn
  simp [combB] at hc
  omega
 clear hF hR hb
 have hk0 : ∀ k v,k < c.n.length→v ≤ 1→seenP c m 0 v k = 1→tb (ctl c k) v < nev:=fun k v hk hv h=>by
  obtain ⟨i,-,e⟩:=seen_one.1 h
  have:=known_cost hg hs (bitP c i) hk (by rw [e]; exact hv)
  rwa [e] at this
 have hk1 : tr = true→gt = true→∀ k v,k < c.n.length→v ≤ 1→tb (ctl c k) v < nev→seenP c m 0 v k = 1:=fun t u k v hk hv h=>by
  obtain ⟨w,hw,hw2⟩:=tree_val hg hs (hu t) (hnt u) hk hv h
  obtain ⟨i,hi,h3⟩:=bit_ini hg hw
  exact seen_one.2 ⟨i,by rw [← hT]; exact hi,hw2 _ h3⟩
 have hk2 : cs = false→gt = true→∀ k v,k < c.n.length→v ≤ 1→tb (ctl c k) v < nev:=fun t u k v hk hv=>by
  have:=both_cost hg hs (hga t u) hk
  have hv2 : v = 0∨v = 1:=by omega
  rcases hv2 with rfl | rfl
  ·exact this.1
  ·exact this.2
 have hk3 : cs = false→gt = true→∀ k,k < c.n.length→(obs c k < nev↔pathN c k):=fun t u k hk=>obs_iff hg hs (hga t u) hk
 have hfo:=fun k (hk : k < c.n.length)=>followsO_c c hg.val (by omega) [k] (some 1) (fun n hn=>by simp at hn; omega) (by simp)
 have hsx:=statesN_c c (by omega)
 have hil : (ids 14 c.n 0).length = cnt 14 c.n:=rfl
 have hlv:=lives_c
 simp
 refine LoopP.of (X:=Nat) (fun k=>[(25,natV k),(21,.bool gt),(20,.bool cs),(19,.bool tr),(8,.ptr 8 g8 0 0),(6,.sl (natsT c.n.length (obs c)) (some c.n.length)),(4,.sl (netsC c.n.length (ctl c)) (some c.n.length)),(3,.ptr 3 g3 0 0),(2,.bool false)])
  (fun k=>[(8,.row g8 2 [.agg [.ref 71 g71 0 c.n.length (some c.n.length),.ref 76 g76 0 c.n.length (some c.n.length)]]),(71,.row g71 1 (natsT c.n.length (seenP c m 0 0))),(76,.row g76 1 (natsT c.n.length (seenP c m 0 1))),(3,.row g3 4 [c.v])])
  (fun k=>k ≤ c.n.length) (fun k=>c.n.length - k) 0 (Nat.zero_le _) (by simp [natV]) (by simp) ?_
 intro k hk
 simp [natV]
 refine BrB.of (fun hb=>?_) (fun hb=>?_)
 ·have hk':=of_decide_eq_true hb
  have hwk:=wrapN k (by omega)
  have h3:=netsC_at c.n.length (ctl c) k (by rw [netsC_len]; exact hk')
  have a0:=hk0 k 0 hk' (by omega)
  have a1:=hk0 k 1 hk' (by omega)
  have b0:=fun t u=>hk1 t u k 0 hk' (by omega)
  have b1:=fun t u=>hk1 t u k 1 hk' (by omega)
  have c0:=fun t u=>hk2 t u k 0 hk' (by omega)
  have c1:=fun t u=>hk2 t u k 1 hk' (by omega)
  have d:=fun t u=>hk3 t u k hk'
  obtain ⟨⟨z0,z1⟩,hz⟩ : ∃ z,ctl c k = z:=⟨_,rfl⟩
  rw [hz] at h3 a0 a1 b0 b1 c0 c1
  simp only [nC,natV] at h3
  have t0 : ∀ a b : Nat,tb (a,b) 0 = a:=fun _ _=>rfl
  have t1 : ∀ a b : Nat,tb (a,b) 1 = b:=fun _ _=>rfl
  simp only [t0,t1] at a0 a1 b0 b1 c0 c1
  obtain ⟨u,hut⟩ : ∃ u,u = tr:=⟨_,rfl⟩
  obtain ⟨s0,hs0⟩ : ∃ s,seenP c m 0 0 k = s:=⟨_,rfl⟩
  obtain ⟨s1,hs1⟩ : ∃ s,seenP c m 0 1 k = s:=⟨_,rfl⟩
  rw [hs0] at a0 b0
  rw [hs1] at a1 b1
  have hnv : nev = 1073741824:=rfl
  rw [hnv] at a0 a1 b0 b1 c0 c1 d
  have hA : (¬ z0 < 1073741824∧¬ s0 = 1)∨(z0 < 1073741824∧s0 = 1)∨(z0 < 1073741824∧¬ s0 = 1):=by omega
  have hB : (¬ z1 < 1073741824∧¬ s1 = 1)∨(z1 < 1073741824∧s1 = 1)∨(z1 < 1073741824∧¬ s1 = 1):=by omega
  simp [hk',netsC_len,h3,natsT_len,natsT_at,hs0]
  rcases hA with hA | hA | hA
  all_goals simp [hk',hA,natsT_len,natsT_at,hs1]
  all_goals rcases hB with hB | hB | hB
  all_goals cases gt <;> cases tr <;> cases cs
  all_goals try (exfalso; have:=b0 rfl rfl; omega)
  all_goals try (exfalso; have:=b1 rfl rfl; omega)
  all_goals try (exfalso; have:=c0 rfl rfl; omega)
  all_goals try (exfalso; have:=c1 rfl rfl; omega)
  all_goals simp [hk',natsT_len,natsT_at,hs0,hs1,hA,hB,hwk]
  all_goals try exact ⟨k + 1,hk',by simp,by omega⟩
  all_goals
   have dd:=d rfl rfl
   intro gp
   generalize gp 278 = gk
   have hNG:=natsT_noG c.n.length (rchN c [k])
   have hNP:=natsT_pure c.n.length (rchN c [k])
   have hNL:=natsT_len c.n.length (rchN c [k])
   have hNA:=natsT_at c.n.length (rchN c [k])
   refine CallO.ownBorrow 1 1000 (hfo k hk') (by simp [frz_pure,frz_rowP (sz:=1) 0 (L:=natsV [k]),natsV,natV]) (by simp) ?_
   rintro v h' ⟨g,rfl,rfl⟩
   refine ⟨rfl,fun b kk hb=>?_,fun gf2=>?_⟩
   ·simp only [lk] at hb
    split at hb
    ·cases hb; exact hNG
    ·cases hb
   have hmp : ∀ t : Nat→Nat→Nat × Nat,(natsT c.n.length (rchN c [k])).map (V.rn t) = natsT c.n.length (rchN c [k]):=fun t=>map_rn_pure hNP
   simp [upH,upS,Blk.rn,hmp,hNL]
   generalize gf2 1000 + g = g9
   refine LoopP.of (X:=EnS) (fun z=>[(30,natV z.j),(29,.bool z.b),(28,.ref 1000 g9 0 c.n.length (some c.n.length)),(27,.bool true),(26,.bool true),(25,natV k),(21,.bool true),(20,.bool false),(19,.bool u),(8,.ptr 8 g8 0 0),(6,.sl (natsT c.n.length (obs c)) (some c.n.length)),(4,.sl (netsC c.n.length (ctl c)) (some c.n.length)),(3,.ptr 3 g3 0 0),(2,.bool false)])
    (fun _=>[(1000,.row g9 1 (natsT c.n.length (rchN c [k]))),(8,.row g8 2 [.agg [.ref 71 g71 0 c.n.length (some c.n.length),.ref 76 g76 0 c.n.length (some c.n.length)]]),(71,.row g71 1 (natsT c.n.length (seenP c m 0 0))),(76,.row g76 1 (natsT c.n.length (seenP c m 0 1))),(3,.row g3 4 [c.v])])
    (fun z=>z.j ≤ c.o.length∧EnI c k ((outsN c).take z.j) z.b) (fun z=>c.o.length - z.j) ⟨0,false⟩ ⟨by simp,by simpa using EnI.start c k⟩ (by simp [natV,hut]) (by simp) ?_
   rintro ⟨j,b⟩ ⟨hj,hI⟩
   dsimp only at hj hI ⊢
   simp [natV]
   refine BrB.of (fun hb2=>?_) (fun hb2=>?_)
   ·have hj':=of_decide_eq_true hb2
    have hwj:=wrapN j (by omega)
    have hoo:=hg.o (List.getElem_mem hj')
    obtain ⟨q,hq⟩ : ∃ q : Nat,c.o[j] = q:=⟨c.o[j].toNat,by omega⟩
    have hqN : q < c.n.length:=by omega
    have h5 : (ints c.o)[j]'(by simpa using hj') = .int .i64 (q : Int):=by simp [ints,hq]
    have hjo : j < (outsN c).length:=by simpa [outsN] using hj'
    have hoq : (outsN c)[j] = q:=by simp [outsN,hq]
    have hst:=hI.step q
    rw [← hoq,← take_snoc _ _ hjo,hoq] at hst
    cases b with
    | true=>
     simp [hwj]
     exact ⟨⟨j + 1,_⟩,⟨hj',hst⟩,by simp,by dsimp only; omega⟩
    | false=>
     simp [hj',h5,hqN,hNL,hNA,hwj]
     rw [Bool.false_or] at hst
     exact ⟨⟨j + 1,decide (rchN c [k] q = 1)⟩,⟨hj',hst⟩,by simp,by dsimp only; omega⟩
   have hjN : j = c.o.length:=by have:=of_decide_eq_false hb2; omega
   rw [hjN,List.take_of_length_le (by simp [outsN])] at hI
   simp
   refine CallO.pure hsx (by simp) ?_
   simp
   refine LoopP.of (X:=EnS) (fun z=>[(32,natV z.j),(31,.sl (natsV (ids 14 c.n 0)) (some (cnt 14 c.n))),(29,.bool z.b),(28,.ref 1000 g9 0 c.n.length (some c.n.length)),(27,.bool true),(26,.bool true),(25,natV k),(21,.bool true),(20,.bool false),(19,.bool u),(8,.ptr 8 g8 0 0),(6,.sl (natsT c.n.length (obs c)) (some c.n.length)),(4,.sl (netsC c.n.length (ctl c)) (some c.n.length)),(3,.ptr 3 g3 0 0),(2,.bool false)])
    (fun _=>[(1000,.row g9 1 (natsT c.n.length (rchN c [k]))),(8,.row g8 2 [.agg [.ref 71 g71 0 c.n.length (some c.n.length),.ref 76 g76 0 c.n.length (some c.n.length)]]),(71,.row g71 1 (natsT c.n.length (seenP c m 0 0))),(76,.row g76 1 (natsT c.n.length (seenP c m 0 1))),(3,.row g3 4 [c.v])])
    (fun z=>z.j ≤ (ids 14 c.n 0).length∧EnI c k (outsN c ++ ((ids 14 c.n 0).map (dnN c)).take z.j) z.b) (fun z=>(ids 14 c.n 0).length - z.j) ⟨0,b⟩ ⟨by simp,by simpa using hI⟩ (by simp [natV]) (by simp) ?_
   rintro ⟨j,b⟩ ⟨hj,hI⟩
   dsimp only at hj hI ⊢
   simp [natV]
   refine BrB.of (fun hb3=>?_) (fun hb3=>?_)
   ·have hj':=of_decide_eq_true hb3
    have hwj:=wrapN j (by omega)
    obtain ⟨q,hq⟩ : ∃ q : Nat,(ids 14 c.n 0)[j] = q:=⟨_,rfl⟩
    obtain ⟨hqN,hqi,hqd⟩:=dff_in hg.wf hg.sh (hq ▸ List.getElem_mem hj')
    obtain ⟨y,hy⟩ : ∃ y,c.n[q] = y:=⟨_,rfl⟩
    rw [hy] at hqi
    have hjo : j < ((ids 14 c.n 0).map (dnN c)).length:=by simpa using hj'
    have hoq : ((ids 14 c.n 0).map (dnN c))[j] = dnN c q:=by simp [hq]
    have hst:=hI.step (dnN c q)
    rw [List.append_assoc,← hoq,← take_snoc _ _ hjo,hoq] at hst
    generalize dnN c q = r at hst hqi hqd
    have hyv : y.v = .agg [.int .u8 y.k,.sl [.int .i64 (r : Int)] none,.int .i64 y.a,.int .i64 y.b]:=by unfold Nd.v; rw [hqi]; rfl
    cases b with
    | true=>
     simp [hwj]
     exact ⟨⟨j + 1,_⟩,⟨hj',hst⟩,by simp,by dsimp only; omega⟩
    | false=>
     simp [hj',natsV_get,hq,hqN,hy,hyv,hqd,hNL,hNA,hwj]
     rw [Bool.false_or] at hst
     exact ⟨⟨j + 1,decide (rchN c [k] r = 1)⟩,⟨hj',hst⟩,by simp,by dsimp only; omega⟩
   have hjN : j = (ids 14 c.n 0).length:=by have:=of_decide_eq_false hb3; omega
   rw [hjN,List.take_of_length_le (by simp)] at hI
   have hpath:=hI.path
   rw [← dd] at hpath
   cases b with
   | true=>
    have hob2 : obs c k < 1073741824:=hpath.1 rfl
    simp [hk',hNL,hNA,natsT_len,natsT_at,hob2,hwk]
    exact ⟨k + 1,hk',by simp [hut],by omega⟩
   | false=>
    have hob2 : ¬ obs c k < 1073741824:=fun h=>by simpa using hpath.2 h
    simp [hk',hNL,hNA,natsT_len,natsT_at,hob2,hwk]
    exact ⟨k + 1,hk',by simp [hut],by omega⟩
 ·simp
  refine CallO.pure hlv rfl ?_
  simp
end Go.Proofs.YtcmblmkbdenakaaGreatDoor
