/- Sequences: every value that is known in some cycle has a cost. No program stands in it. Conditions: none. -/
import Derived.Test.YtcmblmkbdenakaaGreatDoorG0
import Derived.Test.YtcmblmkbdenakaaGreatDoorD13
set_option linter.unusedSimpArgs false
set_option linter.unusedVariables false
namespace Go.Proofs.YtcmblmkbdenakaaGreatDoor
open Go
theorem sumR_lt {f g : Nat→Nat} : ∀ {n k : Nat},(∀ j,j < n→f j ≤ g j)→k < n→f k < g k→sumR f n < sumR g n
 | 0,k,_,hk,_=>by omega
 | n + 1,k,h,hk,hlt=>by
  simp only [sumR]
  have h1:=h n (Nat.lt_succ_self n)
  by_cases e : k = n
  ·subst e
   have : sumR f k ≤ sumR g k:=sumR_mono fun j hj=>h j (by omega)
   omega
  ·have:=sumR_lt (f:=f) (g:=g) (n:=n) (fun j hj=>h j (by omega)) (show k < n by omega) hlt
   omega
structure Cyc (c : Ci) (v : Nat→Nat) : Prop where
 gate : ∀ n,n < c.n.length→combB (c.nd n).k = true→v n = logE (c.nd n).k.toNat ((c.g n).map v)
 other : ∀ n,n < c.n.length→combB (c.nd n).k = false→(c.nd n).k ≠ 14→(c.nd n).k = 0
structure Cycs (c : Ci) (T : Nat) (v : Nat→Nat→Nat) : Prop where
 cyc : ∀ t,t < T→Cyc c (v t)
 zero : ∀ n,n < c.n.length→(c.nd n).k = 14→0 < T→¬ v 0 n ≤ 1
 next : ∀ t n,t + 1 < T→n < c.n.length→(c.nd n).k = 14→v (t + 1) n ≤ 1→v t (dnN c n) = v (t + 1) n
def bB : Nat→Nat
 | 0=>1
 | j + 1=>3 * bB j + 19
theorem bB_up (j : Nat) : bB j ≤ bB (j + 1):=by simp only [bB]; omega
theorem bB_16 : bB 16 + 6 < nev:=by decide
theorem bB_le : ∀ {i j : Nat},i ≤ j→bB i ≤ bB j
  | i, 0, h => by have : i = 0 := by omega
                  subst this; exact Nat.le_refl _
  | i,j + 1,h=>by
    by_cases e : i = j + 1
    · subst e; exact Nat.le_refl _
    · exact Nat.le_trans (bB_le (show i ≤ j by omega)) (bB_up j)
theorem tb_inc {p : Nat × Nat} {v B : Nat} (hv : v ≤ 1) (h : tb p v ≤ B) : tb (incP p) v ≤ B + 1:=by
 have hv2 : v = 0∨v = 1:=by omega
 rcases hv2 with rfl | rfl
 ·have h : p.1 ≤ B:=h
  show pls p.1 1 ≤ _
  have:=pls_le2 p.1 1; omega
 ·have h : p.2 ≤ B:=h
  show pls p.2 1 ≤ _
  have:=pls_le2 p.2 1; omega
section
variable {c : Ci} {s T : Nat} {v : Nat→Nat→Nat} {b : Nat→Nat × Nat}
def Exc (c : Ci) (s T : Nat) (v : Nat→Nat→Nat) (b : Nat→Nat × Nat) (B m : Nat) : Prop:=∃ t,t < T∧s + m / 2 < c.n.length∧v t (s + m / 2) = m % 2∧B < tb (b (s + m / 2)) (m % 2)
theorem exc_at (hwf : c.wf) (hsh : shE c = 0) (hac : acyc c) (hs : c.shr s) (hT : T ≤ 6) (hv : Cycs c T v) (hb : SeqP c b) {j : Nat} (h : ∀ m,m < 16→Exc c s T v b (bB j) m→Exc c s T v b (bB (j + 1)) m) {t : Nat} (ht : t < T)
  (hd : ∀ n,n < c.n.length→(c.nd n).k = 14→v t n ≤ 1→tb (b n) (v t n) ≤ bB j + t) : ∀ k n,n < k→n < c.n.length→v t n ≤ 1→tb (b n) (v t n) ≤ bB j + if (c.nd n).k = 14 then t else 0:=by
 have hval:=sh_val hwf hsh
 have h1 : 1 ≤ bB j:=bB_le (Nat.zero_le j)
 intro k
 induction k with
 | zero=>intro n hn; omega
 | succ k ih=>
  intro n hnk hn hvn
  by_cases h14 : (c.nd n).k = 14
  ·rw [if_pos h14]; exact hd n hn h14 hvn
  rw [if_neg h14]
  have hk0:=hwf.k (c.nd n) (by rw [c.nd_get hn]; exact List.getElem_mem hn)
  have hw:=nd_wid hsh hn
  have hbg:=hb.gate hwf hval hac hn h14
  obtain ⟨kk,hkk⟩ : ∃ kk : Nat,(c.nd n).k = kk:=⟨(c.nd n).k.toNat,by omega⟩
  rw [hkk] at hbg hw h14
  simp only [Int.toNat_natCast] at hbg
  rw [gate_eq kk _ (by omega) (by rw [insC_len]; exact hw.2)] at hbg
  by_cases hc : combB (c.nd n).k = true
  ·have hcc:=hc
   rw [hkk] at hc
   simp [combB] at hc
   have hvg:=(hv.cyc t ht).gate n hn hcc
   rw [hkk,g_comb hcc,List.map_map] at hvg
   simp only [Int.toNat_natCast] at hvg
   have hs3:=hs.i n hn
   have hat:=gate_at (k:=kk) (ts:=insC b (c.nd n)) (vals:=(c.nd n).i.map (v t ∘ Int.toNat)) (B:=bB j + 6) (v:=v t n) (by omega) (by rw [List.length_map,insC_len]) (by rw [insC_len]; exact hs3) hvg.symm hvn (fun i u hu hvi=>by
    have hi : i < (c.nd n).i.length:=by
     rcases Nat.lt_or_ge i (c.nd n).i.length with q | q
     ·exact q
     ·rw [List.getElem?_eq_none (by rw [insC_len]; exact q)] at hu; cases hu
    have e1 : ((c.nd n).i.map (v t ∘ Int.toNat)).getD i 2 = v t ((c.nd n).i[i]).toNat:=by
     rw [List.getD_eq_getElem?_getD,List.getElem?_map,List.getElem?_eq_getElem hi]; rfl
    rw [e1] at hvi ⊢
    have e2 : u = b ((c.nd n).i[i]).toNat:=by
     unfold insC at hu
     rw [List.getElem?_map,List.getElem?_eq_getElem hi] at hu
     exact (Option.some.inj hu).symm
    subst e2
    have hm : ((c.nd n).i[i]).toNat ∈ c.g n:=by rw [g_comb hcc]; exact List.mem_map_of_mem (List.getElem_mem hi)
    have hlt:=hs.b n hn _ hm
    have:=ih _ (by omega) (by omega) hvi
    split at this <;> omega)
   rw [← hbg] at hat
   have hns : s ≤ n:=by
    rcases Nat.lt_or_ge n s with q | q
    ·rw [hs.k n q] at hcc; cases hcc
    ·exact q
   have hs2:=hs.s2
   by_cases hgt : bB j < tb (b n) (v t n)
   ·exfalso
    have e1 : s + (2 * (n - s) + v t n) / 2 = n:=by omega
    have e2 : (2 * (n - s) + v t n) % 2 = v t n:=by omega
    obtain ⟨t',-,-,-,hx⟩:=h (2 * (n - s) + v t n) (by omega) ⟨t,ht,by rw [e1]; exact hn,by rw [e1,e2],by rw [e1,e2]; exact hgt⟩
    rw [e1,e2] at hx
    simp only [bB] at hx
    omega
   ·omega
  ·have hk:=(hv.cyc t ht).other n hn (by simpa using hc) (by omega)
   rw [hkk] at hk
   have : kk = 0:=by omega
   subst this
   rw [hbg]
   have hv2 : v t n = 0∨v t n = 1:=by omega
   rcases hv2 with e | e <;> rw [e] <;> exact h1
theorem exc_step (hwf : c.wf) (hsh : shE c = 0) (hac : acyc c) (hs : c.shr s) (hT : T ≤ 6) (hv : Cycs c T v) (hb : SeqP c b) {j : Nat} (h : ∀ m,m < 16→Exc c s T v b (bB j) m→Exc c s T v b (bB (j + 1)) m) :
  ∀ t,t < T→∀ n,n < c.n.length→v t n ≤ 1→tb (b n) (v t n) ≤ bB j + if (c.nd n).k = 14 then t else 0:=by
 have hval:=sh_val hwf hsh
 intro t
 induction t with
 | zero=>
  intro ht n hn
  exact exc_at hwf hsh hac hs hT hv hb h ht (fun n hn h14 hvn=>absurd hvn (hv.zero n hn h14 ht)) (n + 1) n (Nat.lt_succ_self n) hn
 | succ t ih=>
  intro ht n hn
  refine exc_at hwf hsh hac hs hT hv hb h ht (fun n hn h14 hvn=>?_) (n + 1) n (Nat.lt_succ_self n) hn
  have hnx:=hv.next t n ht hn h14 hvn
  have hdn : dnN c n < c.n.length:=(dff_in hwf hsh ((mem_dff hn).2 h14)).2.2
  have h1:=ih (by omega) (dnN c n) hdn (by rw [hnx]; exact hvn)
  rw [hnx] at h1
  rw [hb.dff hwf hval hac hn h14]
  have:=tb_inc (B:=bB j + t) hvn (Nat.le_trans h1 (by split <;> omega))
  omega
open Classical in
noncomputable def exi (c : Ci) (s T : Nat) (v : Nat→Nat→Nat) (b : Nat→Nat × Nat) (B m : Nat) : Nat:=if Exc c s T v b B m then 1 else 0
theorem exi_pos {B m : Nat} (h : Exc c s T v b B m) : exi c s T v b B m = 1:=if_pos h
theorem exi_neg {B m : Nat} (h : ¬ Exc c s T v b B m) : exi c s T v b B m = 0:=if_neg h
theorem exi_le (B m : Nat) : exi c s T v b B m ≤ 1:=by unfold exi; split <;> omega
noncomputable def excN (c : Ci) (s T : Nat) (v : Nat→Nat→Nat) (b : Nat→Nat × Nat) (j : Nat) : Nat:=sumR (exi c s T v b (bB j)) 16
theorem Exc.down {B B' m : Nat} (hB : B ≤ B') (h : Exc c s T v b B' m) : Exc c s T v b B m:=by
 obtain ⟨t,h1,h2,h3,h4⟩:=h
 exact ⟨t,h1,h2,h3,Nat.lt_of_le_of_lt hB h4⟩
theorem excN_le (hwf : c.wf) (hsh : shE c = 0) (hac : acyc c) (hs : c.shr s) (hT : T ≤ 6) (hv : Cycs c T v) (hb : SeqP c b) : ∀ j,excN c s T v b j ≤ 16 - j
 | 0=>by
  unfold excN
  have:=sumR_mono (f:=exi c s T v b (bB 0)) (g:=fun _=>1) (n:=16) (fun m _=>exi_le _ m)
  rw [sumR_const] at this
  exact this
 | j + 1=>by
  have ih:=excN_le hwf hsh hac hs hT hv hb j
  by_cases h : ∃ m,m < 16∧Exc c s T v b (bB j) m∧¬ Exc c s T v b (bB (j + 1)) m
  ·obtain ⟨m,hm,h1,h2⟩:=h
   have : excN c s T v b (j + 1) < excN c s T v b j:=sumR_lt (k:=m) (fun i _=>by
    by_cases q : Exc c s T v b (bB (j + 1)) i
    ·rw [exi_pos q,exi_pos (q.down (bB_up j))]; exact Nat.le_refl _
    ·rw [exi_neg q]; exact Nat.zero_le _) hm (by rw [exi_neg h2,exi_pos h1]; omega)
   omega
  ·have h' : ∀ m,m < 16→Exc c s T v b (bB j) m→Exc c s T v b (bB (j + 1)) m:=fun m hm h1=>Classical.byContradiction fun h2=>h ⟨m,hm,h1,h2⟩
   have hall:=exc_step hwf hsh hac hs hT hv hb h'
   have hno : ∀ m,¬ Exc c s T v b (bB (j + 1)) m:=fun m ⟨t,ht,hn,e,hx⟩=>by
    have h3:=hall t ht _ hn (by rw [e]; omega)
    rw [e] at h3
    have hm14 : (c.nd (s + m / 2)).k = 14→False:=fun h14=>?_
    ·rw [if_neg hm14] at h3
     have:=bB_up j
     omega
    ·rw [if_pos h14] at h3
     have : bB (j + 1) = 3 * bB j + 19:=rfl
     have h1 : 1 ≤ bB j:=bB_le (Nat.zero_le j)
     omega
   unfold excN
   have : sumR (exi c s T v b (bB (j + 1))) 16 = sumR (fun _=>0) 16:=sumR_congr (fun m=>exi_neg (hno m)) 16
   rw [this,sumR_zero]
   exact Nat.zero_le _
theorem seq_bound (hwf : c.wf) (hsh : shE c = 0) (hac : acyc c) (hs : c.shr s) (hT : T ≤ 6) (hv : Cycs c T v) (hb : SeqP c b) : ∀ t,t < T→∀ n,n < c.n.length→v t n ≤ 1→tb (b n) (v t n) < nev:=by
 have h0:=excN_le hwf hsh hac hs hT hv hb 16
 have hno : ∀ m,m < 16→¬ Exc c s T v b (bB 16) m:=fun m hm hx=>by
  have : sumR (fun _=>0) 16 < excN c s T v b 16:=sumR_lt (k:=m) (fun _ _=>Nat.zero_le _) hm (by rw [exi_pos hx]; omega)
  omega
 intro t ht n hn hvn
 have h1:=exc_step hwf hsh hac hs hT hv hb (j:=16) (fun m hm hx=>absurd hx (hno m hm)) t ht n hn hvn
 have:=bB_16
 split at h1 <;> omega
end
end Go.Proofs.YtcmblmkbdenakaaGreatDoor
