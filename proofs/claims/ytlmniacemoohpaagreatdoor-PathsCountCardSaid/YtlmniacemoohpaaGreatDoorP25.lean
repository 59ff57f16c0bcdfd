/- Paths: how many there are, counted from both ends. No program stands in it. Conditions: none. -/
import Derived.Test.YtlmniacemoohpaaGreatDoorPA
set_option linter.unusedSimpArgs false
set_option linter.unusedVariables false
namespace Go.Proofs.YtlmniacemoohpaaGreatDoor
open Go
def sm : Nat→(Nat→Nat)→Nat
 | 0,_=>0
 | k + 1,f=>sm k f + f k
theorem sm_congr {f g : Nat→Nat} : ∀ {k : Nat},(∀ i,i < k→f i = g i)→sm k f = sm k g
 | 0,_=>rfl
 | k + 1,h=>by rw [sm,sm,sm_congr fun i hi=>h i (by omega),h k (by omega)]
theorem sm_add (f g : Nat→Nat) : ∀ k,sm k (fun i=>f i + g i) = sm k f + sm k g
 | 0=>rfl
 | k + 1=>by rw [sm,sm,sm,sm_add f g k]; omega
theorem sm_mul (f : Nat→Nat) (a : Nat) : ∀ k,sm k f * a = sm k fun i=>f i * a
 | 0=>by simp [sm]
 | k + 1=>by rw [sm,sm,Nat.add_mul,sm_mul f a k]
theorem sm_zero : ∀ k,sm k (fun _=>0) = 0
 | 0=>rfl
 | k + 1=>by rw [sm,sm_zero k]
theorem sm_swap (f : Nat→Nat→Nat) (b : Nat) : ∀ a,sm a (fun i=>sm b fun j=>f i j) = sm b fun j=>sm a fun i=>f i j
 | 0=>by simp only [sm,sm_zero]
 | a + 1=>by
  rw [sm,sm_swap f b a,← sm_add]
  rfl
theorem sm_range (f : Nat→Nat) : ∀ k,sm k f = ((List.range k).map f).sum
 | 0=>rfl
 | k + 1=>by rw [sm,sm_range f k,List.range_succ,List.map_append,sum_app]; simp
theorem sm_one (f : Nat→Nat) (x : Nat) : ∀ k,x < k→sm k (fun m=>(if x = m then 1 else 0) * f m) = f x
 | 0,h=>by omega
 | k + 1,h=>by
  rw [sm]
  by_cases hx : x = k
  ·subst hx
   rw [sm_congr (g:=fun _=>0) fun i hi=>by rw [if_neg (by omega),Nat.zero_mul],sm_zero]
   simp
  ·rw [sm_one f x k (by omega),if_neg hx]
   omega
theorem both_ends (N : Nat) (A : Nat→Nat→Nat) (ob sr C M : Nat→Nat) (hC : ∀ m,m < N→C m = ob m + sm N fun n=>A m n * C n) (hM : ∀ n,n < N→M n = sr n + sm N fun m=>A m n * M m) :
  (sm N fun n=>ob n * M n) = sm N fun n=>sr n * C n:=by
 have h1 : (sm N fun m=>C m * M m) = (sm N fun m=>ob m * M m) + sm N fun m=>sm N fun n=>A m n * C n * M m:=by
  rw [← sm_add]
  refine sm_congr fun m hm=>?_
  rw [← sm_mul,← Nat.add_mul,← hC m hm]
 have h2 : (sm N fun n=>C n * M n) = (sm N fun n=>sr n * C n) + sm N fun n=>sm N fun m=>A m n * C n * M m:=by
  rw [← sm_add]
  refine sm_congr fun n hn=>?_
  have : (sm N fun m=>A m n * C n * M m) = (sm N fun m=>A m n * M m) * C n:=by
   rw [sm_mul]
   refine sm_congr fun m _=>?_
   rw [Nat.mul_right_comm]
  rw [this,← Nat.add_mul,← hM n hn,Nat.mul_comm]
 rw [sm_swap fun m n=>A m n * C n * M m] at h1
 omega
def ob (c : Ci) (m : Nat) : Nat:=if obsF c m = true then 1 else 0
def srN (c : Ci) (n : Nat) : Nat:=if srcB (c.nd n) = true then 1 else 0
def adj (c : Ci) (m n : Nat) : Nat:=(extN c m n).length
theorem extU_sum (c : Ci) (f : Nat→Nat) (m : Nat) : ∀ k,((extU c m k).map fun l=>f l.1.toNat).sum = sm k fun n=>adj c m n * f n
 | 0=>by simp [extU,sm]
 | k + 1=>by
  rw [extU_succ,List.map_append,sum_app,extU_sum c f m k,sm]
  congr 1
  have : ∀ l ∈ extN c m k,f l.1.toNat = f k:=by
   intro l hl
   unfold extN at hl
   split at hl
   ·simp at hl
   ·obtain ⟨j,-,-,rfl⟩:=mem_rdPins.1 hl
    simp
  unfold adj
  generalize extN c m k = E at this ⊢
  induction E with
  | nil=>simp
  | cons a E ih=>
   rw [List.map_cons,List.sum_cons,this a List.mem_cons_self,ih fun l hl=>this l (List.mem_cons_of_mem _ hl),List.length_cons,Nat.add_mul,Nat.one_mul,Nat.add_comm]
def cnF (c : Ci) : Nat→Nat→Nat
 | 0,m=>ob c m
 | k + 1,m=>ob c m + ((ext c m).map fun l=>cnF c k l.1.toNat).sum
def cn (c : Ci) (m : Nat) : Nat:=cnF c c.n.length m
theorem cnF_eq {c : Ci} (hg : c.good) (hr : c.nar) : ∀ k m,c.n.length ≤ m + k→cnF c k m = cnF c (k + 1) m
 | 0,m,h=>by
  have : ext c m = []:=extU_low hg hr (Nat.le_refl _) (by omega)
  simp [cnF,this]
 | k + 1,m,h=>by
  rw [cnF,cnF]
  congr 1
  refine map_sum_congr fun l hl=>?_
  obtain ⟨n,h1,h2,h3⟩:=ext_up hg hr (Nat.le_refl _) hl
  rw [h1,Int.toNat_natCast]
  exact cnF_eq hg hr k n (by omega)
theorem cn_eq {c : Ci} (hg : c.good) (hr : c.nar) (m : Nat) : cn c m = ob c m + ((ext c m).map fun l=>cn c l.1.toNat).sum:=by
 have h:=cnF_eq hg hr c.n.length m (by omega)
 unfold cn
 conv=>lhs; rw [h]
 rfl
def cT (c : Ci) (T : List Pth) : Nat:=(T.map fun P=>cn c (lastN P)).sum
theorem allF_cnt {c : Ci} (hg : c.good) (hr : c.nar) : ∀ k T O,mT c T ≤ k→(allF c k T O).length < 5000→(allF c k T O).length = O.length + cT c T:=by
 intro k
 induction k with
 | zero=>
  intro T O hm ho
  have : T = []:=by
   have:=mT_len c T
   exact List.length_eq_zero_iff.1 (by omega)
  subst this
  rfl
 | succ k ih=>
  intro T O hm ho
  cases T with
  | nil=>rfl
  | cons P T=>
   rw [allF] at ho ⊢
   split at ho
   ·rename_i hlt
    rw [if_pos hlt]
    have hs:=mT_step hg hr P T
    rw [ih _ _ (by omega) ho]
    have e1 : cT c (T ++ (ext c (lastN P)).map fun l=>P ++ [l]) = cT c T + ((ext c (lastN P)).map fun l=>cn c l.1.toNat).sum:=by
     unfold cT
     rw [List.map_append,sum_app,List.map_map]
     congr 1
     exact map_sum_congr fun l _=>by simp [lastN_snoc]
    have e2 : cT c (P :: T) = cn c (lastN P) + cT c T:=by simp [cT]
    have e3:=cn_eq hg hr (lastN P)
    rw [e1,e2,e3,List.length_append]
    unfold ob
    split <;> simp <;> omega
   ·omega
theorem srcT_cnt (c : Ci) : ∀ k,cT c (srcT c k) = sm k fun n=>srN c n * cn c n
 | 0=>rfl
 | k + 1=>by
  rw [srcT_succ,sm,← srcT_cnt c k]
  unfold cT srN
  rw [List.map_append,sum_app]
  congr 1
  split
  ·simp [lastN]
  ·simp
def mnF (c : Ci) : Nat→Nat→Nat
 | 0,_=>0
 | k + 1,n=>if combC c n = true then ((c.g n).map (mnF c k)).sum else 1
def mn (c : Ci) (n : Nat) : Nat:=mnF c (n + 1) n
theorem mnF_eq {c : Ci} (hr : c.nar) : ∀ k n,n < c.n.length→n < k→mnF c k n = mnF c (n + 1) n
 | 0,n,_,h=>by omega
 | k + 1,n,hn,h=>by
  rw [mnF,mnF]
  split
  ·refine map_sum_congr fun x hx=>?_
   have hb:=hr.b n hn x hx
   rw [mnF_eq hr k x (by omega) (by omega),← mnF_eq hr n x (by omega) hb]
  ·rfl
termination_by k=>k
theorem mn_eq {c : Ci} (hr : c.nar) {n : Nat} (hn : n < c.n.length) : mn c n = if combC c n = true then ((c.g n).map (mn c)).sum else 1:=by
 unfold mn
 rw [mnF]
 split
 ·refine map_sum_congr fun x hx=>?_
  exact mnF_eq hr n x (by have:=hr.b n hn x hx; omega) (hr.b n hn x hx)
 ·rfl
theorem mn_le {c : Ci} (hr : c.nar) : ∀ n,n < c.n.length→mn c n ≤ 4 ^ n:=by
 intro n
 induction n using Nat.strongRecOn with
 | ind n ih=>
  intro hn
  rw [mn_eq hr hn]
  have h4 : 0 < 4 ^ n:=Nat.pow_pos (by omega)
  split
  ·by_cases h0 : n = 0
   ·have : c.g n = []:=by
     cases h : c.g n with
     | nil=>rfl
     | cons x r=>have:=hr.b n hn x (by rw [h]; exact List.mem_cons_self); omega
    rw [this]
    simp
   ·have hl : (c.g n).length ≤ 3:=by
     rename_i hc
     rw [g_comb hc,List.length_map]
     exact hr.i n hn
    refine Nat.le_trans (sum_le (B:=4 ^ (n - 1)) fun x hx=>?_) ?_
    ·have hb:=hr.b n hn x hx
     exact Nat.le_trans (ih x hb (by omega)) (Nat.pow_le_pow_right (by omega) (by omega))
    ·have : 4 ^ n = 4 * 4 ^ (n - 1):=by rw [← Nat.pow_succ']; congr 1; omega
     rw [this]
     exact Nat.mul_le_mul_right _ (by omega)
  ·omega
theorem pins_sum (l : List Int) (N n : Nat) (f : Nat→Nat) (hl : ∀ x ∈ l,0 ≤ x∧x < N) : ∀ k,k ≤ l.length→(((l.take k).map Int.toNat).map f).sum = sm N fun m=>(rdPins l m n k).length * f m
 | 0,_=>by
  rw [sm_congr (g:=fun _=>0) fun i _=>by simp [rdPins],sm_zero]
  simp
 | k + 1,h=>by
  have hk : k < l.length:=by omega
  obtain ⟨h0,h1⟩:=hl l[k] (List.getElem_mem hk)
  have hgd : l.getD k 0 = l[k]:=by rw [List.getD_eq_getElem?_getD,List.getElem?_eq_getElem hk]; rfl
  rw [List.take_succ_eq_append_getElem hk,List.map_append,List.map_append,sum_app,pins_sum l N n f hl k (by omega)]
  have : ∀ m,(rdPins l m n (k + 1)).length * f m = (rdPins l m n k).length * f m + (if l[k].toNat = m then 1 else 0) * f m:=by
   intro m
   rw [rdPins_succ,hgd,List.length_append,Nat.add_mul]
   congr 2
   by_cases hm : l[k] = (m : Int)
   ·rw [if_pos hm,if_pos (by omega)]; rfl
   ·rw [if_neg hm,if_neg (by omega)]; rfl
  rw [sm_congr fun i _=>this i,sm_add,sm_one f l[k].toNat N (by omega)]
  simp
theorem mn_adj {c : Ci} (hg : c.good) (hr : c.nar) {n : Nat} (hn : n < c.n.length) : mn c n = srN c n + sm c.n.length fun m=>adj c m n * mn c m:=by
 obtain ⟨k0,k14,hw⟩:=nd_kw hg hn
 have hcb : combC c n = decide (1 ≤ (c.nd n).k∧(c.nd n).k ≤ 13):=rfl
 rw [mn_eq hr hn]
 unfold srN srcB
 by_cases hc : combC c n = true
 ·have hk:=of_decide_eq_true (hcb.symm.trans hc)
  rw [if_pos hc,if_neg (by simp; omega),Nat.zero_add,g_comb hc]
  have h:=pins_sum (c.nd n).i c.n.length n (mn c) (hg.val.i n hn) (c.nd n).i.length (Nat.le_refl _)
  rw [List.take_length] at h
  rw [h]
  refine sm_congr fun m _=>?_
  unfold adj extN
  rw [if_neg (by omega)]
 ·have hk : ¬ (1 ≤ (c.nd n).k∧(c.nd n).k ≤ 13):=fun h=>hc (hcb.trans (decide_eq_true h))
  have hk2 : (c.nd n).k = 0∨(c.nd n).k = 14:=by omega
  rw [if_neg hc,if_pos (by simpa using hk2)]
  have hz : ∀ m,adj c m n = 0:=by
   intro m
   unfold adj extN
   rcases hk2 with h | h
   ·rw [if_neg (by omega)]
    rw [h] at hw
    simp [widB,kLo,kHi,tLo,tHi] at hw
    rw [hw]
    rfl
   ·rw [if_pos h]; rfl
  rw [sm_congr (g:=fun _=>0) fun i _=>by rw [hz,Nat.zero_mul],sm_zero]
theorem allP_cnt {c : Ci} (hg : c.good) (hr : c.nar) (h : (allP c).length < 5000) : (allP c).length = sm c.n.length fun n=>ob c n * mn c n:=by
 unfold allP at h ⊢
 rw [allF_cnt hg hr _ _ _ (srcT_mT hg hr) h,srcT_cnt,both_ends c.n.length (adj c) (ob c) (srN c) (cn c) (mn c) (fun m _=>by rw [cn_eq hg hr m]; unfold ext; rw [extU_sum]) (fun n hn=>mn_adj hg hr hn)]
 simp
theorem topo_take {g : Nat→List Nat} : ∀ (L A : List Nat),Topo g A L→∀ i (hi : i < L.length),∀ x ∈ g L[i],x ∈ A∨x ∈ L.take i
 | n :: L,A,h,0,_,x,hx=>.inl (h.1 x hx)
 | n :: L,A,h,i + 1,hi,x,hx=>by
  rcases topo_take L (n :: A) h.2 i (by simpa using hi) x hx with h | h
  ·rcases List.mem_cons.1 h with rfl | h
   ·exact .inr (by simp)
   ·exact .inl h
  ·exact .inr (by rw [List.take_succ_cons]; exact List.mem_cons_of_mem _ h)
theorem ord_sum {c : Ci} {L : List Nat} (h : Ord c L) (f : Nat→Nat) : (L.map f).sum = sm c.n.length f:=by
 have hp : L.Perm (List.range c.n.length):=(List.perm_ext_iff_of_nodup (lex_nodup h.p) List.nodup_range).2 fun a=>by
  rw [List.mem_range]
  exact ⟨h.r.lt a,h.all⟩
 rw [(hp.map f).sum_nat,sm_range]
end Go.Proofs.YtlmniacemoohpaaGreatDoor
