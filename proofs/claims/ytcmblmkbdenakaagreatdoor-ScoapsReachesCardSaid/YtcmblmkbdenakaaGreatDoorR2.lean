/- Reach: bounds of the costs of a short circuit. No program stands in it. Conditions: none. -/
import Derived.Test.YtcmblmkbdenakaaGreatDoorG0
import Derived.Test.YtcmblmkbdenakaaGreatDoorD13
import Derived.Test.YtcmblmkbdenakaaGreatDoorS7
import Derived.Test.YtcmblmkbdenakaaGreatDoorR1
set_option linter.unusedSimpArgs false
set_option linter.unusedVariables false
namespace Go.Proofs.YtcmblmkbdenakaaGreatDoor
open Go
def asg2 : Nat→List (List Nat)
 | 0=>[[]]
 | n + 1=>(asg2 n).map (0 :: ·) ++ (asg2 n).map (1 :: ·)
def asg3 : Nat→List (List Nat)
 | 0=>[[]]
 | n + 1=>(asg3 n).map (0 :: ·) ++ (asg3 n).map (1 :: ·) ++ (asg3 n).map (2 :: ·)
theorem asg2_mem : ∀ (n : Nat) (a : List Nat),a ∈ asg2 n↔a.length = n∧∀ v ∈ a,v ≤ 1
 | 0,a=>by
  simp only [asg2,List.mem_singleton]
  constructor
  ·rintro rfl; simp
  ·rintro ⟨h,-⟩; exact List.length_eq_zero_iff.1 h
 | n + 1,a=>by
  simp only [asg2,List.mem_append,List.mem_map]
  constructor
  ·rintro (⟨b,hb,rfl⟩ | ⟨b,hb,rfl⟩) <;>
   ·have:=(asg2_mem n b).1 hb
    refine ⟨by simp [this.1],fun v hv=>?_⟩
    rcases List.mem_cons.1 hv with rfl | hv
    ·omega
    ·exact this.2 v hv
  ·rintro ⟨h1,h2⟩
   match a,h1,h2 with
   | v :: b,h1,h2=>
    have hb:=(asg2_mem n b).2 ⟨by simpa using h1,fun x hx=>h2 x (List.mem_cons_of_mem _ hx)⟩
    have hv:=h2 v List.mem_cons_self
    have : v = 0∨v = 1:=by omega
    rcases this with rfl | rfl
    ·exact .inl ⟨b,hb,rfl⟩
    ·exact .inr ⟨b,hb,rfl⟩
theorem asg3_mem : ∀ (n : Nat) (a : List Nat),a ∈ asg3 n↔a.length = n∧∀ v ∈ a,v < 3
 | 0,a=>by
  simp only [asg3,List.mem_singleton]
  constructor
  ·rintro rfl; simp
  ·rintro ⟨h,-⟩; exact List.length_eq_zero_iff.1 h
 | n + 1,a=>by
  simp only [asg3,List.mem_append,List.mem_map]
  constructor
  ·rintro ((⟨b,hb,rfl⟩ | ⟨b,hb,rfl⟩) | ⟨b,hb,rfl⟩) <;>
   ·have:=(asg3_mem n b).1 hb
    refine ⟨by simp [this.1],fun v hv=>?_⟩
    rcases List.mem_cons.1 hv with rfl | hv
    ·omega
    ·exact this.2 v hv
  ·rintro ⟨h1,h2⟩
   match a,h1,h2 with
   | v :: b,h1,h2=>
    have hb:=(asg3_mem n b).2 ⟨by simpa using h1,fun x hx=>h2 x (List.mem_cons_of_mem _ hx)⟩
    have hv:=h2 v List.mem_cons_self
    have : v = 0∨v = 1∨v = 2:=by omega
    rcases this with rfl | rfl | rfl
    ·exact .inl (.inl ⟨b,hb,rfl⟩)
    ·exact .inl (.inr ⟨b,hb,rfl⟩)
    ·exact .inr ⟨b,hb,rfl⟩
theorem val_tab : ∀ k : Fin 12,∀ m : Fin 4,∀ v : Fin 2,3 ≤ k.val→widB (k.val : Int) m.val = true→((asg2 m.val).any fun a=>decide (logE k.val a = v.val)) = true:=by decide +kernel
theorem val_ex {k m v : Nat} (hk : 3 ≤ k∧k ≤ 11) (hm : m ≤ 3) (hw : widB (k : Int) m = true) (hv : v ≤ 1) : ∃ a : List Nat,a.length = m∧(∀ x ∈ a,x ≤ 1)∧logE k a = v:=by
 have h:=val_tab ⟨k,by omega⟩ ⟨m,by omega⟩ ⟨v,by omega⟩ hk.1 hw
 rw [List.any_eq_true] at h
 obtain ⟨a,ha,he⟩:=h
 have:=(asg2_mem m a).1 ha
 exact ⟨a,this.1,this.2,of_decide_eq_true he⟩
theorem sees_tab : ∀ k : Fin 12,∀ m : Fin 4,∀ p : Fin 3,3 ≤ k.val→p.val < m.val→widB (k.val : Int) m.val = true→((asg3 m.val).any fun a=>decide (a.getD p.val 2 = 2) && sees k.val p.val a) = true:=by decide +kernel
theorem sees_ex {k m p : Nat} (hk : 3 ≤ k∧k ≤ 11) (hm : m ≤ 3) (hp : p < m) (hw : widB (k : Int) m = true) : ∃ a : List Nat,a.length = m∧(∀ x ∈ a,x < 3)∧a.getD p 2 = 2∧sees k p a = true:=by
 have h:=sees_tab ⟨k,by omega⟩ ⟨m,by omega⟩ ⟨p,by omega⟩ hk.1 hp hw
 rw [List.any_eq_true] at h
 obtain ⟨a,ha,he⟩:=h
 have:=(asg3_mem m a).1 ha
 rw [Bool.and_eq_true] at he
 exact ⟨a,this.1,this.2,of_decide_eq_true he.1,he.2⟩
theorem mono_tab : ∀ k : Fin 12,∀ m : Fin 4,3 ≤ k.val→((asg3 m.val).all fun a=>(asg2 m.val).all fun b=>!((List.range m.val).all fun i=>decide (a.getD i 2 = 2) || decide (a.getD i 2 = b.getD i 2)) || !decide (logE k.val a ≤ 1) || decide (logE k.val b = logE k.val a)) = true:=by decide +kernel
theorem logE_mono2 {k m : Nat} (hk : 3 ≤ k∧k ≤ 11) (hm : m ≤ 3) {a b : List Nat} (ha : a.length = m) (ha3 : ∀ x ∈ a,x < 3) (hb : b.length = m) (hb2 : ∀ x ∈ b,x ≤ 1) (h : ∀ i,i < m→a.getD i 2 = 2∨a.getD i 2 = b.getD i 2) (hv : logE k a ≤ 1) : logE k b = logE k a:=by
 have h1:=mono_tab ⟨k,by omega⟩ ⟨m,by omega⟩ hk.1
 rw [List.all_eq_true] at h1
 have h2:=h1 a ((asg3_mem m a).2 ⟨ha,ha3⟩)
 rw [List.all_eq_true] at h2
 have h3:=h2 b ((asg2_mem m b).2 ⟨hb,hb2⟩)
 have h4 : ((List.range m).all fun i=>decide (a.getD i 2 = 2) || decide (a.getD i 2 = b.getD i 2)) = true:=by
  rw [List.all_eq_true]
  intro i hi
  rcases h i (List.mem_range.1 hi) with q | q
  ·rw [decide_eq_true q]; rfl
  ·rw [decide_eq_true q,Bool.or_true]
 simp only [h4,Bool.not_true,Bool.false_or,decide_eq_true hv,decide_eq_true_eq] at h3
 exact h3
section
variable {c : Ci} {s : Nat}
theorem ctl_kk (hwf : c.wf) (hsh : shE c = 0) (hac : acyc c) {n : Nat} (hn : n < c.n.length) (h14 : (c.nd n).k ≠ 14) : ∃ kk : Nat,(c.nd n).k = kk∧kk ≤ 15∧widB (kk : Int) (c.nd n).i.length = true∧ctl c n = gateD kk (insC (ctl c) (c.nd n)):=by
 have hval:=sh_val hwf hsh
 have hk0:=hwf.k (c.nd n) (by rw [c.nd_get hn]; exact List.getElem_mem hn)
 have hw:=nd_wid hsh hn
 have hbg:=ctl_gate hwf hval hac hn h14
 obtain ⟨kk,hkk⟩ : ∃ kk : Nat,(c.nd n).k = kk:=⟨(c.nd n).k.toNat,by omega⟩
 rw [hkk] at hbg hw
 simp only [Int.toNat_natCast] at hbg
 rw [gate_eq kk _ (by omega) (by rw [insC_len]; exact hw.2)] at hbg
 exact ⟨kk,hkk,by omega,hw.2,hbg⟩
theorem ctl_up (hwf : c.wf) (hsh : shE c = 0) (hac : acyc c) (hs : c.shr s) {n : Nat} (hn : n < c.n.length) {kk : Nat} (hkk : (c.nd n).k = kk) (hc : combB (c.nd n).k = true) {vals : List Nat} {B v : Nat} (hl : vals.length = (c.nd n).i.length) (he : logE kk vals = v) (hv : v ≤ 1)
  (hB : ∀ i (hi : i < (c.nd n).i.length),vals.getD i 2 ≤ 1→tb (ctl c ((c.nd n).i[i]).toNat) (vals.getD i 2) ≤ B) : tb (ctl c n) v ≤ 3 * B + 1:=by
 have hc2:=hc
 rw [hkk] at hc2
 simp [combB] at hc2
 obtain ⟨k2,hk2,-,hw,hg⟩:=ctl_kk hwf hsh hac hn (by rw [hkk]; omega)
 have : k2 = kk:=by omega
 subst this
 rw [hg]
 refine gate_at (by omega) (by rw [insC_len]; exact hl) (by rw [insC_len]; exact hs.i n hn) he hv fun i u hu hvi=>?_
 have hi : i < (c.nd n).i.length:=by
  rcases Nat.lt_or_ge i (c.nd n).i.length with q | q
  ·exact q
  ·rw [List.getElem?_eq_none (by rw [insC_len]; exact q)] at hu; cases hu
 have e2 : u = ctl c ((c.nd n).i[i]).toNat:=by
  unfold insC at hu
  rw [List.getElem?_map,List.getElem?_eq_getElem hi] at hu
  exact (Option.some.inj hu).symm
 rw [e2]
 exact hB i hi hvi
theorem p4_up (n : Nat) : 3 * 4 ^ n + 1 ≤ 4 ^ (n + 1):=by
 have : 0 < 4 ^ n:=Nat.pow_pos (by omega)
 rw [Nat.pow_succ]; omega
theorem p4_le {m n : Nat} (h : m < n) : 4 ^ (m + 1) ≤ 4 ^ n:=Nat.pow_le_pow_right (by omega) h
theorem in_lt (hs : c.shr s) {n : Nat} (hn : n < c.n.length) (hc : combB (c.nd n).k = true) {i : Nat} (hi : i < (c.nd n).i.length) : ((c.nd n).i[i]).toNat < n:=by
 refine hs.b n hn _ ?_
 have : combC c n = true:=hc
 rw [g_comb this]; exact List.mem_map_of_mem (List.getElem_mem hi)
theorem src_one (hwf : c.wf) (hsh : shE c = 0) (hac : acyc c) (h15 : ∀ y ∈ c.n,y.k ≠ 15) {n : Nat} (hn : n < c.n.length) (hc : combB (c.nd n).k = false) : ctl c n = (1,1):=by
 have hval:=sh_val hwf hsh
 by_cases h14 : (c.nd n).k = 14
 ·exact ctl_dff hwf hval hac hn h14
 ·obtain ⟨kk,hkk,hk15,hw,hg⟩:=ctl_kk hwf hsh hac hn h14
  have h15':=h15 (c.nd n) (by rw [c.nd_get hn]; exact List.getElem_mem hn)
  rw [hkk] at hc h15'
  simp [combB] at hc
  have : kk = 0:=by omega
  subst this
  rw [hg]; rfl
theorem cost_le (hg : c.good) (hs : c.shr s) (p : Pt) : ∀ k n,n < k→n < c.n.length→netN c p n ≤ 1→tb (ctl c n) (netN c p n) ≤ 4 ^ (n + 1):=by
 intro k
 induction k with
 | zero=>intro n hn; omega
 | succ k ih=>
  intro n hnk hn hv
  by_cases hc : combB (c.nd n).k = true
  ·have hsol:=netN_sol (p:=p) hg hg.ord n hn
   have hcc : combC c n = true:=hc
   rw [if_pos hcc,rdsM_id hcc,g_comb hcc,List.map_map] at hsol
   have hk0:=hg.wf.k (c.nd n) (by rw [c.nd_get hn]; exact List.getElem_mem hn)
   obtain ⟨kk,hkk⟩ : ∃ kk : Nat,(c.nd n).k = kk:=⟨(c.nd n).k.toNat,by omega⟩
   have he : logE kk ((c.nd n).i.map (netN c p ∘ Int.toNat)) = netN c p n:=by
    rw [hkk] at hsol
    exact hsol.symm
   have h1:=ctl_up hg.wf hg.sh hg.ac hs hn hkk hc (B:=4 ^ n) (by simp) he hv (fun i hi hvi=>by
    have e1 : ((c.nd n).i.map (netN c p ∘ Int.toNat)).getD i 2 = netN c p ((c.nd n).i[i]).toNat:=by
     rw [List.getD_eq_getElem?_getD,List.getElem?_map,List.getElem?_eq_getElem hi]; rfl
    rw [e1] at hvi ⊢
    have hlt:=in_lt hs hn hc hi
    exact Nat.le_trans (ih _ (by omega) (by omega) hvi) (p4_le hlt))
   exact Nat.le_trans h1 (p4_up n)
  ·rw [src_one hg.wf hg.sh hg.ac hg.k hn (by simpa using hc)]
   have h1 : 1 ≤ 4 ^ (n + 1):=Nat.le_trans (by omega) (p4_up n)
   have hv2 : netN c p n = 0∨netN c p n = 1:=by omega
   rcases hv2 with e | e <;> rw [e] <;> exact h1
theorem p4_nev {n : Nat} (h : n < 14) : 4 ^ (n + 1) < nev:=Nat.lt_of_le_of_lt (Nat.pow_le_pow_right (by omega) (show n + 1 ≤ 14 by omega)) (by decide)
theorem known_cost (hg : c.good) (hs : c.shr s) (p : Pt) {n : Nat} (hn : n < c.n.length) (hv : netN c p n ≤ 1) : tb (ctl c n) (netN c p n) < nev:=
 Nat.lt_of_le_of_lt (cost_le hg hs p (n + 1) n (Nat.lt_succ_self n) hn hv) (p4_nev (by have:=hs.s3; omega))
def Ci.gat (c : Ci) : Prop:=∀ n,n < c.n.length→combB (c.nd n).k = true→3 ≤ (c.nd n).k∧(c.nd n).k ≤ 11
theorem both_le (hg : c.good) (hs : c.shr s) (hgt : c.gat) : ∀ k n,n < k→n < c.n.length→∀ v,v ≤ 1→tb (ctl c n) v ≤ 4 ^ (n + 1):=by
 intro k
 induction k with
 | zero=>intro n hn; omega
 | succ k ih=>
  intro n hnk hn v hv
  by_cases hc : combB (c.nd n).k = true
  ·have hk3:=hgt n hn hc
   obtain ⟨kk,hkk,-,hw,-⟩:=ctl_kk hg.wf hg.sh hg.ac hn (by omega)
   obtain ⟨a,ha,ha1,hae⟩:=val_ex (k:=kk) (m:=(c.nd n).i.length) (v:=v) (by omega) (hs.i n hn) hw hv
   have h1:=ctl_up hg.wf hg.sh hg.ac hs hn hkk hc (B:=4 ^ n) ha hae hv (fun i hi hvi=>by
    have hlt:=in_lt hs hn hc hi
    exact Nat.le_trans (ih _ (by omega) (by omega) _ hvi) (p4_le hlt))
   exact Nat.le_trans h1 (p4_up n)
  ·rw [src_one hg.wf hg.sh hg.ac hg.k hn (by simpa using hc)]
   have h1 : 1 ≤ 4 ^ (n + 1):=Nat.le_trans (by omega) (p4_up n)
   have hv2 : v = 0∨v = 1:=by omega
   rcases hv2 with rfl | rfl <;> exact h1
theorem both_cost (hg : c.good) (hs : c.shr s) (hgt : c.gat) {n : Nat} (hn : n < c.n.length) : (ctl c n).1 < nev∧(ctl c n).2 < nev:=
  ⟨Nat.lt_of_le_of_lt (both_le hg hs hgt (n + 1) n (Nat.lt_succ_self n) hn 0 (by omega)) (p4_nev (by have:=hs.s3; omega)),
   Nat.lt_of_le_of_lt (both_le hg hs hgt (n + 1) n (Nat.lt_succ_self n) hn 1 (by omega)) (p4_nev (by have:=hs.s3; omega))⟩
theorem pin_le (hg : c.good) (hs : c.shr s) (hgt : c.gat) {n : Nat} (hn : n < c.n.length) (hc : combB (c.nd n).k = true) {i : Nat} (hi : i < (c.nd n).i.length) : pnC c (ctl c) n i ≤ 3 * 4 ^ n + 1:=by
 have hk3:=hgt n hn hc
 obtain ⟨kk,hkk,-,hw,-⟩:=ctl_kk hg.wf hg.sh hg.ac hn (by omega)
 rw [pnC_D hg.wf hg.sh (ctl c) hn hi (by omega),hkk]
 simp only [Int.toNat_natCast]
 unfold pinD
 rw [if_neg (by omega)]
 obtain ⟨a,ha,ha3,hap,hae⟩:=sees_ex (k:=kk) (m:=(c.nd n).i.length) (p:=i) (by omega) (hs.i n hn) hi hw
 have h1:=bsk_at (B:=4 ^ n) (kp:=(i : Int)) (insC (ctl c) (c.nd n)) 0 (sees kk i) a (by rw [insC_len]; exact ha) ha3 hae (fun j hj _=>by
  have : j = i:=by omega
  rw [this]; exact hap) (fun j t ht hj=>by
  have hjl : j < (c.nd n).i.length:=by
   rcases Nat.lt_or_ge j (c.nd n).i.length with q | q
   ·exact q
   ·rw [List.getElem?_eq_none (by rw [insC_len]; exact q)] at ht; cases ht
  have e2 : t = ctl c ((c.nd n).i[j]).toNat:=by
   unfold insC at ht
   rw [List.getElem?_map,List.getElem?_eq_getElem hjl] at ht
   exact (Option.some.inj ht).symm
  rw [e2]
  have hlt:=in_lt hs hn hc hjl
  by_cases hv : a.getD j 2 ≤ 1
  ·exact Nat.le_trans (both_le hg hs hgt _ _ (Nat.lt_succ_self _) (by omega) _ hv) (p4_le hlt)
  ·have : tb (ctl c ((c.nd n).i[j]).toNat) (a.getD j 2) = 0:=by unfold tb; rw [if_neg (by omega),if_neg (by omega)]
   rw [this]; exact Nat.zero_le _)
 rw [insC_len] at h1
 have h3:=hs.i n hn
 have h4:=Nat.mul_le_mul_right (4 ^ n) h3
 have h5:=pls_le2 (bsk (i : Int) 0 (insC (ctl c) (c.nd n)) (sees kk i)) 1
 omega
end
end Go.Proofs.YtcmblmkbdenakaaGreatDoor
namespace Go.Proofs.YtcmblmkbdenakaaGreatDoor
open Go
section
variable {c : Ci} {s : Nat}
def endN (c : Ci) (e : Nat) : Prop:=e ∈ outsN c∨e ∈ (ids 14 c.n 0).map (dnN c)
def pathN (c : Ci) (k : Nat) : Prop:=∃ e,Rch c [k] e∧endN c e
theorem Rch.pre {k m : Nat} (hm : m < c.n.length) (h14 : (c.nd m).k ≠ 14) {i : Nat} (hi : i < (c.nd m).i.length) (e : ((c.nd m).i.getD i 0).toNat = k) {n : Nat} (h : Rch c [m] n) : Rch c [k] n:=by
 induction h with
 | base hb=>
  rename_i n
  have : n = m:=by simpa using hb
  subst this
  exact .step hm h14 hi (by rw [e]; exact .base (by simp))
 | step h1 h2 h3 _ ih=>exact .step h1 h2 h3 ih
theorem ob1_zero {e : Nat} (h : endN c e) : ob1 c e = 0:=by
 have h1:=(zeroL_iff (ob1 c e) e ((ids 14 c.n 0).map (dnN c)) (ob0 c)).1 (Nat.le_refl _)
 rcases h with h | h
 ·have h2:=(zeroL_iff (ob0 c e) e (outsN c) fun _=>nev).1 (Nat.le_refl _)
  have:=h2.2 h
  omega
 ·have:=h1.2 h
  omega
theorem ob1_nev {e : Nat} (h : ¬ endN c e) : nev ≤ ob1 c e:=by
 unfold ob1
 rw [zeroL_iff]
 refine ⟨?_,fun q=>absurd (.inr q) h⟩
 unfold ob0
 rw [zeroL_iff]
 exact ⟨Nat.le_refl _,fun q=>absurd (.inl q) h⟩
theorem get_in {n i : Nat} (hi : i < (c.nd n).i.length) : ((c.nd n).i.getD i 0).toNat = ((c.nd n).i[i]).toNat:=by rw [List.getD_eq_getElem?_getD,List.getElem?_eq_getElem hi]; rfl
theorem not_comb_len (hg : c.good) {n i : Nat} (hn : n < c.n.length) (h14 : (c.nd n).k ≠ 14) (hi : i < (c.nd n).i.length) : combB (c.nd n).k = true:=by
 cases hc : combB (c.nd n).k with
 | true=>rfl
 | false=>
  rcases nd_src hg.wf hg.sh hn hc with ⟨q,-⟩ | ⟨q,-⟩
  ·exact absurd q h14
  ·omega
theorem obs_none (hg : c.good) (hs : c.shr s) : ∀ d k,c.n.length ≤ k + d→k < c.n.length→¬ pathN c k→nev ≤ obs c k:=by
 intro d
 induction d with
 | zero=>intro k h1 h2; omega
 | succ d ih=>
  intro k h1 hk hp
  refine (obsN_iff hg.wf hg.sh hg.ac hg.ord (ctl c) nev k).2 ⟨ob1_nev fun he=>hp ⟨k,.base (by simp),he⟩,fun m hm i hi e=>?_⟩
  by_cases h14 : (c.nd m).k = 14
  ·rw [pnC_dff h14,pls_comm,pls_n]; exact Nat.le_refl _
  ·have hc:=not_comb_len hg hm h14 hi
   have hlt:=in_lt hs hm hc hi
   rw [← get_in hi,e] at hlt
   have h2:=ih m (by omega) hm fun ⟨q,hq,hqe⟩=>hp ⟨q,hq.pre hm h14 hi e,hqe⟩
   have h3 : obs c m = nev:=Nat.le_antisymm (obsN_le _ _ _ _) h2
   show nev ≤ pls (obs c m) _
   rw [h3,pls_n]; exact Nat.le_refl _
def obU (k : Nat) : Nat:=2 * 4 ^ 14 - 2 * 4 ^ (k + 1)
theorem obU_step {k m : Nat} (h : k < m) (hm : m < 14) : obU m + (3 * 4 ^ m + 1) ≤ obU k:=by
 have h1 : 4 ^ (k + 1) ≤ 4 ^ m:=p4_le h
 have h2 : 4 ^ (m + 1) ≤ 4 ^ 14:=Nat.pow_le_pow_right (by omega) (by omega)
 have h3 : 4 ^ (m + 1) = 4 * 4 ^ m:=by rw [Nat.pow_succ]; omega
 have h4 : 0 < 4 ^ m:=Nat.pow_pos (by omega)
 unfold obU
 generalize 4 ^ (m + 1) = A at *
 generalize 4 ^ m = B at *
 generalize 4 ^ (k + 1) = C at *
 generalize 4 ^ 14 = D at *
 omega
theorem obU_nev (k : Nat) : obU k < nev:=Nat.lt_of_le_of_lt (Nat.sub_le _ _) (by decide)
theorem obs_some (hg : c.good) (hs : c.shr s) (hgt : c.gat) {k : Nat} {n : Nat} (h : Rch c [k] n) (hk : k < c.n.length) : obs c n ≤ obU n→obs c k ≤ obU k:=by
 induction h with
 | base hb=>
  rename_i n
  have : n = k:=by simpa using hb
  subst this; exact id
 | step h1 h2 h3 hr ih=>
  rename_i n i
  intro hn
  refine ih ?_
  have hc:=not_comb_len hg h1 h2 h3
  have hlt:=in_lt hs h1 hc h3
  rw [← get_in h3] at hlt
  have hpin:=pin_le hg hs hgt h1 hc h3
  have h4:=((obsN_iff hg.wf hg.sh hg.ac hg.ord (ctl c) (obs c ((c.nd n).i.getD i 0).toNat) _).1 (Nat.le_refl _)).2 n h1 i h3 rfl
  have h5:=pls_le2 (obs c n) (pnC c (ctl c) n i)
  have h6:=obU_step hlt (by have:=hs.s3; omega)
  exact Nat.le_trans h4 (Nat.le_trans h5 (by omega))
theorem obs_end (hg : c.good) {e : Nat} (h : endN c e) : obs c e = 0:=by
 have h1:=((obsN_iff hg.wf hg.sh hg.ac hg.ord (ctl c) (obs c e) e).1 (Nat.le_refl _)).1
 rw [ob1_zero h] at h1
 omega
theorem obs_iff (hg : c.good) (hs : c.shr s) (hgt : c.gat) {k : Nat} (hk : k < c.n.length) : obs c k < nev↔pathN c k:=by
 constructor
 ·intro h
  refine Classical.byContradiction fun hp=>?_
  have:=obs_none hg hs c.n.length k (by omega) hk hp
  omega
 ·rintro ⟨e,he,hee⟩
  have:=obs_some hg hs hgt he hk (by rw [obs_end hg hee]; exact Nat.zero_le _)
  exact Nat.lt_of_le_of_lt this (obU_nev k)
end
end Go.Proofs.YtcmblmkbdenakaaGreatDoor
namespace Go.Proofs.YtcmblmkbdenakaaGreatDoor
open Go
def inC (c : Ci) (n i : Nat) : Nat:=((c.nd n).i.getD i 0).toNat
def Ci.uni (c : Ci) : Prop:=∀ n n' i i',n < c.n.length→n' < c.n.length→i < (c.nd n).i.length→i' < (c.nd n').i.length→inC c n i = inC c n' i'→n = n'∧i = i'
def Ci.ntb (c : Ci) : Prop:=∀ n,n < c.n.length→(c.nd n).k ≠ 12∧(c.nd n).k ≠ 13
theorem pls_lt {a b : Nat} (h : pls a b < nev) : a < nev∧b < nev:=by unfold pls at h; omega
theorem bst_ex : ∀ (ts : List (Nat × Nat)) (p : List Nat→Bool),bst ts p < nev→∃ a : List Nat,a.length = ts.length∧(∀ x ∈ a,x < 3)∧p a = true∧∀ i t,ts[i]? = some t→a.getD i 2 ≤ 1→tb t (a.getD i 2) < nev
 | [],p,h=>by
  unfold bst at h
  by_cases hp : p [] = true
  ·exact ⟨[],rfl,by simp,hp,fun i t ht=>by simp at ht⟩
  ·rw [if_neg hp] at h; omega
 | t :: ts,p,h=>by
  have key : ∀ v,v < 3→(v ≤ 1→tb t v < nev)→(bst ts fun a=>p (v :: a)) < nev→∃ a : List Nat,a.length = (t :: ts).length∧(∀ x ∈ a,x < 3)∧p a = true∧∀ i u,(t :: ts)[i]? = some u→a.getD i 2 ≤ 1→tb u (a.getD i 2) < nev:=fun v hv ht hb=>by
   obtain ⟨a,h1,h2,h3,h4⟩:=bst_ex ts (fun a=>p (v :: a)) hb
   refine ⟨v :: a,by simp [h1],fun x hx=>?_,h3,fun i u hu hi=>?_⟩
   ·rcases List.mem_cons.1 hx with rfl | hx
    ·exact hv
    ·exact h2 x hx
   ·cases i with
    | zero=>simp at hu hi; subst hu; exact ht hi
    | succ i=>exact h4 i u (by simpa using hu) (by simpa using hi)
  unfold bst at h
  by_cases c0 : pls t.1 (bst ts fun a=>p (0 :: a)) < nev
  ·exact key 0 (by omega) (fun _=>(pls_lt c0).1) (pls_lt c0).2
  by_cases c1 : pls t.2 (bst ts fun a=>p (1 :: a)) < nev
  ·exact key 1 (by omega) (fun _=>(pls_lt c1).1) (pls_lt c1).2
  ·exact key 2 (by omega) (fun h=>by omega) (by omega)
section
variable {c : Ci} {s : Nat}
structure GdA (c : Ci) (m v : Nat) (a : List Nat) : Prop where
 l : a.length = (c.nd m).i.length
 v3 : ∀ x ∈ a,x < 3
 e : logE (c.nd m).k.toNat a = v
 c : ∀ i,i < (c.nd m).i.length→a.getD i 2 ≤ 1→tb (ctl c (inC c m i)) (a.getD i 2) < nev
theorem gd_ex (hg : c.good) (hn : c.ntb) {m : Nat} (hm : m < c.n.length) (hc : combB (c.nd m).k = true) {v : Nat} (hv : v ≤ 1) (h : tb (ctl c m) v < nev) : ∃ a,GdA c m v a:=by
 have hcc:=hc
 have hk2:=hn m hm
 have h14 : (c.nd m).k ≠ 14:=fun e=>by rw [e] at hc; cases hc
 obtain ⟨kk,hkk,-,hw,hgt⟩:=ctl_kk hg.wf hg.sh hg.ac hm h14
 rw [hkk] at hc hk2
 simp [combB] at hc
 rw [hgt] at h
 have hv2 : v = 0∨v = 1:=by omega
 by_cases k1 : kk = 1
 ·subst k1
  have hl : (c.nd m).i.length = 0:=by
   have : kHi 1 = 0:=by decide
   unfold widB at hw
   simp at hw
   omega
  have : v = 0:=by
   rcases hv2 with e | e
   ·exact e
   ·subst e; exact absurd h (by show ¬ nev < nev; omega)
  subst this
  exact ⟨[],hl.symm,by simp,by rw [hkk]; decide,fun i hi=>by omega⟩
 by_cases k2 : kk = 2
 ·subst k2
  have hl : (c.nd m).i.length = 0:=by
   have : kHi 2 = 0:=by decide
   unfold widB at hw
   simp at hw
   omega
  have : v = 1:=by
   rcases hv2 with e | e
   ·subst e; exact absurd h (by show ¬ nev < nev; omega)
   ·exact e
  subst this
  exact ⟨[],hl.symm,by simp,by rw [hkk]; decide,fun i hi=>by omega⟩
 have hg2 : gateD kk (insC (ctl c) (c.nd m)) = (pls (bst (insC (ctl c) (c.nd m)) fun a=>decide (logE kk a = 0)) 1,pls (bst (insC (ctl c) (c.nd m)) fun a=>decide (logE kk a = 1)) 1):=by
  unfold gateD
  rw [if_neg (by omega),if_neg (by omega),if_neg (by omega),if_neg (by omega),if_neg (by omega)]
 rw [hg2] at h
 have hb : (bst (insC (ctl c) (c.nd m)) fun a=>decide (logE kk a = v)) < nev:=by
  rcases hv2 with rfl | rfl
  ·exact (pls_lt (show pls (bst (insC (ctl c) (c.nd m)) fun a=>decide (logE kk a = 0)) 1 < nev from h)).1
  ·exact (pls_lt (show pls (bst (insC (ctl c) (c.nd m)) fun a=>decide (logE kk a = 1)) 1 < nev from h)).1
 obtain ⟨a,h1,h2,h3,h4⟩:=bst_ex _ _ hb
 rw [insC_len] at h1
 refine ⟨a,h1,h2,by rw [hkk]; exact of_decide_eq_true h3,fun i hi hai=>?_⟩
 refine h4 i (ctl c (inC c m i)) ?_ hai
 unfold insC inC
 rw [List.getElem?_map,List.getElem?_eq_getElem hi,List.getD_eq_getElem?_getD,List.getElem?_eq_getElem hi]; rfl
theorem inC_lt (hs : c.shr s) {m : Nat} (hm : m < c.n.length) (hc : combB (c.nd m).k = true) {i : Nat} (hi : i < (c.nd m).i.length) : inC c m i < m:=by
 unfold inC
 rw [List.getD_eq_getElem?_getD,List.getElem?_eq_getElem hi]
 exact in_lt hs hm hc hi
theorem wish_ex (hg : c.good) (hs : c.shr s) (hu : c.uni) (hn : c.ntb) {n0 v0 : Nat} (hn0 : n0 < c.n.length) (hv0 : v0 ≤ 1) (h0 : tb (ctl c n0) v0 < nev) : ∀ d,∃ W : Nat→Nat,W n0 = v0∧(∀ m,W m ≤ 1→m ≤ n0∧tb (ctl c m) (W m) < nev)∧
  ∀ m,n0 + 1 ≤ m + d→m ≤ n0→combB (c.nd m).k = true→W m ≤ 1→∃ a,GdA c m (W m) a∧∀ i,i < (c.nd m).i.length→W (inC c m i) = a.getD i 2
 | 0=>by
  refine ⟨upd1 (fun _=>2) n0 v0,upd1_same _ _ _,fun m hm=>?_,fun m h1 h2=>by omega⟩
  by_cases e : m = n0
  ·subst e; rw [upd1_same]; exact ⟨Nat.le_refl _,h0⟩
  ·rw [upd1_ne _ _ e] at hm; omega
 | d + 1=>by
  obtain ⟨W,w1,w2,w3⟩:=wish_ex hg hs hu hn hn0 hv0 h0 d
  by_cases hd : n0 < d
  ·exact ⟨W,w1,w2,fun m _ h2=>w3 m (by omega) h2⟩
  obtain ⟨m0,hm0⟩ : ∃ m0,n0 - d = m0:=⟨_,rfl⟩
  have hm0N : m0 < c.n.length:=by omega
  by_cases hc : combB (c.nd m0).k = true∧W m0 ≤ 1
  ·obtain ⟨hc,hW⟩:=hc
   obtain ⟨a,ha⟩:=gd_ex hg hn hm0N hc hW (w2 m0 hW).2
   have hlt:=fun i (hi : i < (c.nd m0).i.length)=>inC_lt hs hm0N hc hi
   have hdec : ∀ j,∃ w,(∀ i,i < (c.nd m0).i.length→inC c m0 i = j→w = a.getD i 2)∧((∀ i,i < (c.nd m0).i.length→inC c m0 i ≠ j)→w = W j):=fun j=>by
    by_cases hj : ∃ i,i < (c.nd m0).i.length∧inC c m0 i = j
    ·obtain ⟨i,hi,e⟩:=hj
     exact ⟨a.getD i 2,fun i' hi' e'=>by rw [(hu m0 m0 i i' hm0N hm0N hi hi' (e.trans e'.symm)).2],fun q=>absurd e (q i hi)⟩
    ·exact ⟨W j,fun i hi e=>absurd ⟨i,hi,e⟩ hj,fun _=>rfl⟩
   obtain ⟨W',hW'⟩:=Classical.axiomOfChoice hdec
   have keep : ∀ j,m0 ≤ j→W' j = W j:=fun j hj=>(hW' j).2 fun i hi e=>by have:=hlt i hi; omega
   refine ⟨W',by rw [keep n0 (by omega)]; exact w1,fun j hj=>?_,fun m h1 h2 hcm hm=>?_⟩
   ·by_cases hji : ∃ i,i < (c.nd m0).i.length∧inC c m0 i = j
    ·obtain ⟨i,hi,e⟩:=hji
     have e2:=(hW' j).1 i hi e
     rw [e2] at hj ⊢
     have:=ha.c i hi hj
     rw [e] at this
     exact ⟨by have:=hlt i hi; omega,this⟩
    ·have e2:=(hW' j).2 fun i hi e=>hji ⟨i,hi,e⟩
     rw [e2] at hj ⊢
     exact w2 j hj
   ·by_cases em : m = m0
    ·subst em
     rw [keep m (Nat.le_refl _)]
     exact ⟨a,ha,fun i hi=>(hW' _).1 i hi rfl⟩
    ·rw [keep m (by omega)] at hm ⊢
     obtain ⟨b,hb,hbi⟩:=w3 m (by omega) h2 hcm hm
     refine ⟨b,hb,fun i hi=>?_⟩
     rw [(hW' (inC c m i)).2 fun i' hi' e=>em (hu m m0 i i' (by omega) hm0N hi hi' e.symm).1]
     exact hbi i hi
  ·refine ⟨W,w1,w2,fun m h1 h2 hcm hm=>?_⟩
   by_cases em : m = m0
   ·subst em; exact absurd ⟨hcm,hm⟩ hc
   ·exact w3 m (by omega) h2 hcm hm
theorem full_tab : ∀ k : Fin 12,∀ m : Fin 4,1 ≤ k.val→widB (k.val : Int) m.val = true→((asg2 m.val).all fun b=>decide (logE k.val b ≤ 1)) = true:=by decide +kernel
theorem full_le (hg : c.good) (hs : c.shr s) (hn : c.ntb) {p : Pt} (hp : ∀ n,n < c.n.length→combB (c.nd n).k = false→ini c p n ≤ 1) : ∀ k n,n < k→n < c.n.length→netN c p n ≤ 1:=by
 intro k
 induction k with
 | zero=>intro n hn; omega
 | succ k ih=>
  intro n hnk hnN
  have hsol:=netN_sol (p:=p) hg hg.ord n hnN
  by_cases hc : combB (c.nd n).k = true
  ·have hcc : combC c n = true:=hc
   rw [if_pos hcc,rdsM_id hcc,g_comb hcc,List.map_map] at hsol
   have h14 : (c.nd n).k ≠ 14:=fun e=>by rw [e] at hc; cases hc
   obtain ⟨kk,hkk,-,hw,-⟩:=ctl_kk hg.wf hg.sh hg.ac hnN h14
   have hk2:=hn n hnN
   have hc2:=hc
   rw [hkk] at hc2 hk2
   simp [combB] at hc2
   have h1:=full_tab ⟨kk,by omega⟩ ⟨(c.nd n).i.length,by have:=hs.i n hnN; omega⟩ (by show 1 ≤ kk; omega) hw
   rw [List.all_eq_true] at h1
   have h2:=h1 ((c.nd n).i.map (netN c p ∘ Int.toNat)) ((asg2_mem _ _).2 ⟨by simp,fun x hx=>by
    obtain ⟨j,hj,rfl⟩:=List.mem_map.1 hx
    obtain ⟨i,hi,rfl⟩:=List.getElem_of_mem hj
    have hlt:=in_lt hs hnN hc hi
    exact ih _ (by omega) (by omega)⟩)
   rw [hkk] at hsol
   have e : netN c p n = logE kk ((c.nd n).i.map (netN c p ∘ Int.toNat)):=hsol
   rw [e]
   exact of_decide_eq_true h2
  ·have hcc : ¬ combC c n = true:=hc
   rw [if_neg hcc] at hsol
   have e : netN c p n = ini c p n:=hsol
   rw [e]
   exact hp n hnN (by simpa using hc)
theorem tree_val (hg : c.good) (hs : c.shr s) (hu : c.uni) (hn : c.ntb) {n0 v0 : Nat} (hn0 : n0 < c.n.length) (hv0 : v0 ≤ 1) (h0 : tb (ctl c n0) v0 < nev) :
  ∃ w : Nat→Nat,(∀ n,w n ≤ 1)∧∀ p : Pt,(∀ n,n < c.n.length→combB (c.nd n).k = false→ini c p n = w n)→netN c p n0 = v0:=by
 obtain ⟨W,w1,w2,w3⟩:=wish_ex hg hs hu hn hn0 hv0 h0 (n0 + 1)
 refine ⟨fun n=>if W n ≤ 1 then W n else 0,fun n=>by dsimp only; split <;> omega,fun p hp=>?_⟩
 have hfull:=fun n hnN=>full_le hg hs hn (p:=p) (fun n hnN hc=>by rw [hp n hnN hc]; dsimp only; split <;> omega) (n + 1) n (Nat.lt_succ_self n) hnN
 have key : ∀ k m,m < k→m ≤ n0→W m ≤ 1→netN c p m = W m:=by
  intro k
  induction k with
  | zero=>intro m hm; omega
  | succ k ih=>
   intro m hmk hm hW
   have hmN : m < c.n.length:=by omega
   have hsol:=netN_sol (p:=p) hg hg.ord m hmN
   by_cases hc : combB (c.nd m).k = true
   ·have hcc : combC c m = true:=hc
    rw [if_pos hcc,rdsM_id hcc,g_comb hcc,List.map_map] at hsol
    obtain ⟨a,ha,hai⟩:=w3 m (by omega) hm hc hW
    have h14 : (c.nd m).k ≠ 14:=fun e=>by rw [e] at hc; cases hc
    obtain ⟨kk,hkk,-,hw,-⟩:=ctl_kk hg.wf hg.sh hg.ac hmN h14
    have hk2:=hn m hmN
    have hc2:=hc
    rw [hkk] at hc2 hk2
    simp [combB] at hc2
    have hae:=ha.e
    rw [hkk] at hsol hae
    simp only [Int.toNat_natCast] at hae
    have e : netN c p m = logE kk ((c.nd m).i.map (netN c p ∘ Int.toNat)):=hsol
    have hvi : ∀ i,i < (c.nd m).i.length→((c.nd m).i.map (netN c p ∘ Int.toNat)).getD i 2 = netN c p (inC c m i):=fun i hi=>by
     unfold inC
     rw [List.getD_eq_getElem?_getD,List.getElem?_map,List.getElem?_eq_getElem hi,List.getD_eq_getElem?_getD,List.getElem?_eq_getElem hi]; rfl
    rw [e]
    by_cases k12 : kk = 1∨kk = 2
    ·have hl : (c.nd m).i.length = 0:=by
      have q1 : kHi 1 = 0:=by decide
      have q2 : kHi 2 = 0:=by decide
      unfold widB at hw
      simp at hw
      rcases k12 with rfl | rfl
      ·have:=hw.2; rw [show ((1 : Nat) : Int) = 1 from rfl,q1] at this; omega
      ·have:=hw.2; rw [show ((2 : Nat) : Int) = 2 from rfl,q2] at this; omega
     have h1 : a = []:=List.length_eq_zero_iff.1 (by rw [ha.l,hl])
     have h2 : (c.nd m).i = []:=List.length_eq_zero_iff.1 hl
     rw [h2]
     rw [h1] at hae
     exact hae
    ·rw [logE_mono2 (k:=kk) (m:=(c.nd m).i.length) (a:=a) (by omega) (hs.i m hmN) ha.l ha.v3 (by simp) (fun x hx=>by
      obtain ⟨j,hj,rfl⟩:=List.mem_map.1 hx
      obtain ⟨i,hi,rfl⟩:=List.getElem_of_mem hj
      have hlt:=in_lt hs hmN hc hi
      exact hfull _ (by omega)) (fun i hi=>by
      rw [hvi i hi]
      by_cases h2 : a.getD i 2 ≤ 1
      ·right
       have hlt:=inC_lt hs hmN hc hi
       rw [ih (inC c m i) (by omega) (by omega) (by rw [hai i hi]; exact h2),hai i hi]
      ·left
       have : a.getD i 2 < 3:=by
        rw [List.getD_eq_getElem?_getD]
        cases hq : a[i]? with
        | none=>simp
        | some x=>exact ha.v3 x (List.mem_of_getElem? hq)
       omega) (by rw [hae]; exact hW)]
     exact hae
   ·have hcc : ¬ combC c m = true:=hc
    rw [if_neg hcc] at hsol
    have e : netN c p m = ini c p m:=hsol
    rw [e,hp m hmN (by simpa using hc)]
    dsimp only
    rw [if_pos hW]
 rw [key (n0 + 1) n0 (Nat.lt_succ_self _) (Nat.le_refl _) (by rw [w1]; exact hv0),w1]
end
theorem bits_ex (f : Nat→Nat) (hf : ∀ k,f k ≤ 1) : ∀ n,∃ i,i < 2 ^ n∧∀ k,k < n→i / 2 ^ k % 2 = f k
 | 0=>⟨0,by simp,fun k hk=>by omega⟩
 | n + 1=>by
  obtain ⟨i,h1,h2⟩:=bits_ex f hf n
  have hp : 2 ^ (n + 1) = 2 * 2 ^ n:=by rw [Nat.pow_succ]; omega
  have hfn : f n = 0∨f n = 1:=by have:=hf n; omega
  refine ⟨i + f n * 2 ^ n,?_,fun k hk=>?_⟩
  ·rcases hfn with e | e <;> rw [e] <;> omega
  ·by_cases e : k = n
   ·subst e
    have h0 : 0 < 2 ^ k:=Nat.pow_pos (by omega)
    rw [Nat.add_mul_div_right _ _ h0,Nat.div_eq_of_lt h1]
    rcases hfn with q | q <;> rw [q]
   ·rw [← h2 k (by omega)]
    have e2 : 2 ^ n = 2 ^ k * (2 * 2 ^ (n - k - 1)):=by
     rw [← Nat.mul_assoc,← Nat.pow_succ,← Nat.pow_add]; congr 1; omega
    have h0 : 0 < 2 ^ k:=Nat.pow_pos (by omega)
    rw [show i + f n * 2 ^ n = i + 2 ^ k * (f n * (2 * 2 ^ (n - k - 1))) by rw [e2]; rw [Nat.mul_left_comm],Nat.add_mul_div_left _ _ h0]
    rw [show f n * (2 * 2 ^ (n - k - 1)) = 2 * (f n * 2 ^ (n - k - 1)) by rw [Nat.mul_left_comm]]
    omega
def bitP (c : Ci) (i : Nat) : Pt:=⟨tab (cnt 0 c.n) fun k=>i / 2 ^ k % 2,tab (cnt 14 c.n) fun k=>i / 2 ^ (k + cnt 0 c.n) % 2⟩
theorem bitP_fit (c : Ci) (i : Nat) : (bitP c i).fit c where
 i:=by simp [bitP]
 s:=by simp [bitP]
 iv:=fun x hx=>by
  unfold bitP tab at hx
  obtain ⟨m,-,rfl⟩:=List.mem_map.1 hx
  omega
 sv:=fun x hx=>by
  unfold bitP tab at hx
  obtain ⟨m,-,rfl⟩:=List.mem_map.1 hx
  omega
theorem put_at {α : Type} : ∀ (ns : List Nat) (vs : List α) (f : Nat→α) (k : Nat) (h1 : k < ns.length) (h2 : k < vs.length),ns.Nodup→put ns vs f ns[k] = vs[k]
 | m :: ns,w :: vs,f,0,_,_,hd=>by
  rw [put]
  simp only [List.getElem_cons_zero]
  rw [put_ne _ _ _ (List.nodup_cons.1 hd).1,upd1_same]
 | m :: ns,w :: vs,f,k + 1,h1,h2,hd=>by
  rw [put]
  simp only [List.getElem_cons_succ]
  exact put_at ns vs _ k _ _ (List.nodup_cons.1 hd).2
theorem bit_ini {c : Ci} (hg : c.good) {w : Nat→Nat} (hw : ∀ n,w n ≤ 1) : ∃ i,i < 2 ^ (cnt 0 c.n + cnt 14 c.n)∧∀ n,n < c.n.length→combB (c.nd n).k = false→ini c (bitP c i) n = w n:=by
 obtain ⟨i,h1,h2⟩:=bits_ex (fun k=>w ((ids 0 c.n 0 ++ ids 14 c.n 0).getD k 0)) (fun k=>hw _) (cnt 0 c.n + cnt 14 c.n)
 refine ⟨i,h1,fun n hn hc=>?_⟩
 have hk:=hg.wf.k (c.nd n) (by rw [c.nd_get hn]; exact List.getElem_mem hn)
 have h15:=hg.k (c.nd n) (by rw [c.nd_get hn]; exact List.getElem_mem hn)
 have hwd:=(nd_wid hg.sh hn).1
 have hl0 : (ids 0 c.n 0).length = cnt 0 c.n:=rfl
 have hl14 : (ids 14 c.n 0).length = cnt 14 c.n:=rfl
 unfold ini
 by_cases h14 : (c.nd n).k = 14
 ·have hm:=(mem_dff hn).2 h14
  obtain ⟨k,hk2,rfl⟩:=List.getElem_of_mem hm
  rw [put_at _ _ _ k hk2 (by simp [bitP]; omega) (ids_nodup 14 c.n 0)]
  have:=h2 (k + cnt 0 c.n) (by omega)
  rw [List.getD_eq_getElem?_getD,List.getElem?_append_right (by omega),hl0,Nat.add_sub_cancel,List.getElem?_eq_getElem hk2] at this
  show (tab (cnt 14 c.n) fun k=>i / 2 ^ (k + cnt 0 c.n) % 2)[k]'(by simp; omega) = _
  rw [tab_get]; exact this
 ·have h0 : (c.nd n).k = 0:=by simp [combB] at hc; omega
  have hm : n ∈ ids 0 c.n 0:=(ids_mem 0 c.n 0 n).2 ⟨n,hn,by omega,by rw [← c.nd_get hn]; exact h0⟩
  rw [put_ne _ _ _ fun q=>h14 ((mem_dff hn).1 q)]
  obtain ⟨k,hk2,rfl⟩:=List.getElem_of_mem hm
  rw [put_at _ _ _ k hk2 (by simp [bitP]; omega) (ids_nodup 0 c.n 0)]
  have:=h2 k (by omega)
  rw [List.getD_eq_getElem?_getD,List.getElem?_append_left hk2,List.getElem?_eq_getElem hk2] at this
  show (tab (cnt 0 c.n) fun k=>i / 2 ^ k % 2)[k]'(by simp; omega) = _
  rw [tab_get]; exact this
end Go.Proofs.YtcmblmkbdenakaaGreatDoor
namespace Go.Proofs.YtcmblmkbdenakaaGreatDoor
open Go
theorem shrI (i k : Nat) (hi : i < 1000000) (hk : k < 1000) : ((i : Int).fdiv (2 ^ min k IntKind.i64.bits)).tmod 2 = ((i / 2 ^ k % 2 : Nat) : Int):=by
 have hb : IntKind.i64.bits = 64:=rfl
 have hf : ∀ m : Nat,(i : Int).fdiv ((m : Nat) : Int) = ((i / m : Nat) : Int):=fun m=>by
  cases i with
  | zero=>simp
  | succ a=>rfl
 have hp : ∀ m : Nat,(2 : Int) ^ m = ((2 ^ m : Nat) : Int):=fun m=>by simp
 rw [hb,hp,hf]
 have e : i / 2 ^ min k 64 = i / 2 ^ k:=by
  by_cases h : k ≤ 64
  ·rw [Nat.min_eq_left h]
  ·rw [Nat.min_eq_right (by omega)]
   have h1 : i / 2 ^ 64 = 0:=Nat.div_eq_of_lt (by omega)
   have h2 : 2 ^ 64 ≤ 2 ^ k:=Nat.pow_le_pow_right (by omega) (by omega)
   have h3 : i / 2 ^ k = 0:=Nat.div_eq_of_lt (by omega)
   rw [h1,h3]
 rw [e]; rfl
structure PaS where
 k : Nat
 I : List Nat
set_option maxRecDepth 100000 in
theorem patterns_c (c : Ci) (hg : c.good) (i : Nat) (hi : i < 1000000) (hab : cnt 0 c.n + cnt 14 c.n ≤ 20) :
  PureC Tryz.prog gl0 15 [c.v,natV i] (.tup [natV (2 ^ (cnt 0 c.n + cnt 14 c.n)),.agg [.sl ((bitP c i).i.map u8V) (some (cnt 0 c.n)),.sl ((bitP c i).s.map u8V) (some (cnt 14 c.n))]]):=by
 have hbl:=blankO_c c hg
 unfold BlkK at hbl
 have hI : (bitP c i).i = tab (cnt 0 c.n) fun k=>i / 2 ^ k % 2:=rfl
 have hS : (bitP c i).s = tab (cnt 14 c.n) fun k=>i / 2 ^ (k + cnt 0 c.n) % 2:=rfl
 rw [hI,hS]
 generalize cnt 0 c.n = A at *
 generalize cnt 14 c.n = B at *
 refine PureC.of_WM 5 3 ok15 rfl ?_
 simp [i15,x15]
 intro ga gb
 generalize ga 2 = g2
 generalize gb 5 = g5
 refine KM.mk (.done ?_)
 simp
 refine CallO.own 900 hbl (by simp) (by simp) ?_
 rintro v h ⟨gI,gS,rfl,rfl⟩ gf
 have hBp:=rep2_pure B
 have hAp:=rep2_pure A
 simp [upH,upS,Blk.rn]
 generalize gf 900 + gI = gI
 generalize gf 901 + gS = gS
 intro gc
 generalize gc 6 = g6
 refine KM.mk (.done ?_)
 simp
 have hr2 : ∀ m,List.replicate m (V.int .u8 2) = (List.replicate m 2).map u8V:=fun m=>by rw [List.map_replicate]; rfl
 have hcv : ∀ x : Nat,x < 256→IntKind.u8.wrap (x : Int) = (x : Int):=fun x hx=>by rw [show IntKind.u8.wrap (x : Int) = (x : Int) % 256 from rfl]; omega
 have hue : ∀ e : Nat,u8V e = V.int .u8 (e : Int):=fun _=>rfl
 rw [hr2 A,hr2 B]
 refine LoopP.of (X:=PaS) (fun z=>[(7,natV z.k),(6,.ptr 6 g6 0 0),(5,.ptr 5 g5 0 0),(4,.int .i64 0),(2,.ptr 2 g2 0 0),(1,natV i)])
  (fun z=>[(6,.row g6 2 [.agg [.ref 900 gI 0 A (some A),.ref 901 gS 0 B (some B)]]),(900,.row gI 1 (z.I.map u8V)),(901,.row gS 1 ((List.replicate B 2).map u8V)),(5,.row g5 2 [.agg [.nil,.nil]]),(2,.row g2 4 [c.v])])
  (fun z=>z.k ≤ A∧z.I.length = A∧∀ j,j < z.k→z.I.getD j 0 = i / 2 ^ j % 2) (fun z=>A - z.k) ⟨0,List.replicate A 2⟩ ⟨by simp,by simp,fun j hj=>by simp at hj⟩ (by simp [natV]) (by simp; try rfl) ?_
 rintro ⟨k,J⟩ ⟨hk,hJ,hJv⟩
 dsimp only at hk hJ hJv ⊢
 simp [natV]
 refine BrB.of (fun hb2=>?_) (fun hb2=>?_)
 ·have hk':=of_decide_eq_true hb2
  have hw2:=wrapN k (by omega)
  have hkJ : k < J.length:=by omega
  obtain ⟨e,he⟩ : ∃ e,J[k] = e:=⟨_,rfl⟩
  have hsh:=shrI i k hi (by omega)
  obtain ⟨m,hm⟩ : ∃ m,i / 2 ^ k % 2 = m:=⟨_,rfl⟩
  rw [hm] at hsh
  have hm2 : m < 256:=by omega
  have hset : (J.map u8V).set k (V.int .u8 (m : Int)) = (J.set k m).map u8V:=by rw [List.map_set]; rfl
  simp [hk',hsh,hcv m hm2,hkJ,hJ,hset,hw2,he,hue e]
  refine ⟨⟨k + 1,J.set k m⟩,⟨hk',by simp [hJ],fun j hj=>?_⟩,by simp,by rw [List.map_set,hue],by dsimp only; omega⟩
  dsimp only at hj ⊢
  by_cases ej : j = k
  ·subst ej
   rw [List.getElem?_set_self hkJ,← hm]; rfl
  ·rw [List.getElem?_set_ne (fun e=>ej e.symm),← List.getD_eq_getElem?_getD]
   exact hJv j (by omega)
 have hk' : k = A:=by have:=of_decide_eq_false hb2; omega
 subst hk'
 have hJe : J = tab k fun j=>i / 2 ^ j % 2:=by
  refine List.ext_getElem (by simp [hJ]) fun j h1 h2=>?_
  have:=hJv j (by omega)
  rw [List.getD_eq_getElem?_getD,List.getElem?_eq_getElem h1] at this
  rw [tab_get]; exact this
 rw [← hJe]
 have hJp:=u8s_pure J
 simp
 refine KM.mk (.done ?_)
 simp
 refine LoopP.of (X:=PaS) (fun z=>[(8,natV z.k),(6,.ptr 6 g6 0 0),(5,.ptr 5 g5 0 0),(4,.int .i64 0),(2,.ptr 2 g2 0 0),(1,natV i)])
  (fun z=>[(6,.row g6 2 [.agg [.ref 900 gI 0 k (some k),.ref 901 gS 0 B (some B)]]),(900,.row gI 1 (J.map u8V)),(901,.row gS 1 (z.I.map u8V)),(5,.row g5 2 [.agg [.nil,.nil]]),(2,.row g2 4 [c.v])])
  (fun z=>z.k ≤ B∧z.I.length = B∧∀ j,j < z.k→z.I.getD j 0 = i / 2 ^ (j + k) % 2) (fun z=>B - z.k) ⟨0,List.replicate B 2⟩ ⟨by simp,by simp,fun j hj=>by simp at hj⟩ (by simp [natV]) (by simp; try rfl) ?_
 rintro ⟨n,S⟩ ⟨hn,hS,hSv⟩
 dsimp only at hn hS hSv ⊢
 simp [natV]
 refine BrB.of (fun hb3=>?_) (fun hb3=>?_)
 ·have hn':=of_decide_eq_true hb3
  have hw2:=wrapN n (by omega)
  have hnS : n < S.length:=by omega
  obtain ⟨e,he⟩ : ∃ e,S[n] = e:=⟨_,rfl⟩
  have hsh:=shrI i (n + k) hi (by omega)
  have hadd : IntKind.i64.wrap ((n : Int) + (k : Int)) = ((n + k : Nat) : Int):=by rw [wrap_i64] <;> omega
  obtain ⟨m,hm⟩ : ∃ m,i / 2 ^ (n + k) % 2 = m:=⟨_,rfl⟩
  rw [hm] at hsh
  have hm2 : m < 256:=by omega
  have h0 : (0 : Int) ≤ (n : Int) + (k : Int):=by omega
  have ht : ((n : Int) + (k : Int)).toNat = n + k:=by omega
  have hset : (S.map u8V).set n (V.int .u8 (m : Int)) = (S.set n m).map u8V:=by rw [List.map_set]; rfl
  simp [hn',hnS,hS,hw2,he,hue e,hadd,h0,ht,hsh,hcv m hm2,hset]
  refine ⟨⟨n + 1,S.set n m⟩,⟨hn',by simp [hS],fun j hj=>?_⟩,by simp,by rw [List.map_set,hue],by dsimp only; omega⟩
  dsimp only at hj ⊢
  by_cases ej : j = n
  ·subst ej
   rw [List.getElem?_set_self hnS,← hm]; rfl
  ·rw [List.getElem?_set_ne (fun e=>ej e.symm),← List.getD_eq_getElem?_getD]
   exact hSv j (by omega)
 ·have hn' : n = B:=by have:=of_decide_eq_false hb3; omega
  subst hn'
  have hSe : S = tab n fun j=>i / 2 ^ (j + k) % 2:=by
   refine List.ext_getElem (by simp [hS]) fun j h1 h2=>?_
   have:=hSv j (by omega)
   rw [List.getD_eq_getElem?_getD,List.getElem?_eq_getElem h1] at this
   rw [tab_get]; exact this
  rw [← hSe]
  have hSp:=u8s_pure S
  have hadd : IntKind.i64.wrap ((k : Int) + (n : Int)) = ((k + n : Nat) : Int):=by rw [wrap_i64] <;> omega
  have h0 : (0 : Int) ≤ (k : Int) + (n : Int):=by omega
  have ht : ((k : Int) + (n : Int)).toNat = k + n:=by omega
  simp
  refine KM.mk (.done ?_)
  simp [hadd,h0,ht]
  refine KM.mk (.done ?_)
  have hb : IntKind.i64.bits = 64:=rfl
  have hsh : IntKind.i64.wrap (2 ^ min (k + n) IntKind.i64.bits) = 2 ^ (k + n):=by
   rw [hb,Nat.min_eq_left (by omega)]
   have h1 : 2 ^ (k + n) ≤ 2 ^ 20:=Nat.pow_le_pow_right (by omega) hab
   have h2 : (2 : Int) ^ (k + n) = ((2 ^ (k + n) : Nat) : Int):=by simp
   have h3 : (2 : Nat) ^ 20 = 1048576:=rfl
   rw [h3] at h1
   rw [h2]
   generalize 2 ^ (k + n) = q at h1
   rw [wrap_i64] <;> omega
  rw [hsh]
  have htJ : List.take k (J.map u8V) = J.map u8V:=List.take_of_length_le (by simp [hJ])
  have htS : List.take n (S.map u8V) = S.map u8V:=List.take_of_length_le (by simp [hS])
  simp [hJ,hS,Function.comp_def,u8V,V.mapR]
  exact ⟨htJ,htS⟩
end Go.Proofs.YtcmblmkbdenakaaGreatDoor
