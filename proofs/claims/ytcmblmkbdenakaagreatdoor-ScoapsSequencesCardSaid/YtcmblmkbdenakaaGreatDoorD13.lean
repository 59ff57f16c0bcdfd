/- Nets that follow some nets through gates: the contract of follows. Conditions: none. -/
import Derived.Test.YtcmblmkbdenakaaGreatDoorD5
import Derived.Test.YtcmblmkbdenakaaGreatDoorD11
import Derived.Test.YtcmblmkbdenakaaGreatDoorD7
set_option linter.unusedSimpArgs false
set_option linter.unusedVariables false
namespace Go.Proofs.YtcmblmkbdenakaaGreatDoor
open Go
inductive Rch (c : Ci) (fr : List Nat) : Nat→Prop
 | base {n : Nat} : n ∈ fr→Rch c fr n
 | step {n i : Nat} : n < c.n.length→(c.nd n).k ≠ 14→i < (c.nd n).i.length→Rch c fr ((c.nd n).i.getD i 0).toNat→Rch c fr n
open Classical in
noncomputable def rchN (c : Ci) (fr : List Nat) (n : Nat) : Nat:=if Rch c fr n then 1 else 0
structure FoI (c : Ci) (fr : List Nat) (o : Nat→Nat) : Prop where
 le : ∀ n,o n ≤ 1
 so : ∀ n,o n = 1→Rch c fr n
 ba : ∀ n ∈ fr,o n = 1
def FoC (c : Ci) (o : Nat→Nat) (n : Nat) : Prop:=(c.nd n).k = 14∨o n = 1∨∀ i,i < (c.nd n).i.length→o ((c.nd n).i.getD i 0).toNat ≠ 1
theorem FoI.all {c : Ci} {fr : List Nat} {o : Nat→Nat} (h : FoI c fr o) (hc : ∀ n,n < c.n.length→FoC c o n) : ∀ n,o n = rchN c fr n:=by
 have key : ∀ n,Rch c fr n→o n = 1:=fun n hn=>by
  induction hn with
  | base hm=>exact h.ba _ hm
  | step hn hk hi _ ih=>
   rcases hc _ hn with q | q | q
   ·exact absurd q hk
   ·exact q
   ·exact absurd ih (q _ hi)
 intro n
 unfold rchN
 by_cases hn : Rch c fr n
 ·rw [if_pos hn]; exact key n hn
 ·rw [if_neg hn]
  have:=h.le n
  have h2 : o n ≠ 1:=fun e=>hn (h.so n e)
  omega
theorem FoI.upd {c : Ci} {fr : List Nat} {o : Nat→Nat} (h : FoI c fr o) {n : Nat} (hn : Rch c fr n) : FoI c fr (upd1 o n 1):=by
 refine ⟨fun m=>?_,fun m hm=>?_,fun m hm=>?_⟩
 ·by_cases e : m = n
  ·subst e; rw [upd1_same]; exact Nat.le_refl _
  ·rw [upd1_ne _ _ e]; exact h.le m
 ·by_cases e : m = n
  ·subst e; exact hn
  ·rw [upd1_ne _ _ e] at hm; exact h.so m hm
 ·by_cases e : m = n
  ·subst e; rw [upd1_same]
  ·rw [upd1_ne _ _ e]; exact h.ba m hm
def oneL : List Nat→(Nat→Nat)→Nat→Nat
 | [],f=>f
 | n :: l,f=>oneL l (upd1 f n 1)
theorem oneL_at (k : Nat) : ∀ (l : List Nat) (f : Nat→Nat),oneL l f k = if k ∈ l then 1 else f k
 | [],f=>by simp [oneL]
 | n :: l,f=>by
  rw [show oneL (n :: l) f = oneL l (upd1 f n 1) from rfl,oneL_at k l]
  by_cases h : k ∈ l
  ·simp [h]
  ·by_cases e : k = n
   ·subst e; simp [h,upd1_same]
   ·simp [h,e,upd1_ne _ _ e]
theorem FoI.start (c : Ci) (fr : List Nat) : FoI c fr (oneL fr fun _=>0):=by
 refine ⟨fun n=>?_,fun n hn=>?_,fun n hn=>?_⟩
 ·rw [oneL_at]; split <;> omega
 ·rw [oneL_at] at hn
  split at hn
  ·rename_i h; exact .base h
  ·cases hn
 ·rw [oneL_at,if_pos hn]
structure FoS where
 o : Nat→Nat
 ag : Bool
structure FoN where
 n : Nat
 o : Nat→Nat
 ag : Bool
end Go.Proofs.YtcmblmkbdenakaaGreatDoor
namespace Go.Proofs.YtcmblmkbdenakaaGreatDoor
open Go
theorem gateP_src {k : Nat} (hk : k = 0∨15 ≤ k) {ts us : List (Nat × Nat)} (h : ts.length = us.length) : gateP k ts = gateP k us:=by
 unfold gateP
 rw [h]
 rcases hk with rfl | hk
 ·simp
 ·by_cases e : k = 15
  ·subst e; simp
  ·rw [if_pos (by simp; omega),if_pos (by simp; omega)]
theorem ctE_congr {c : Ci} (hwf : c.wf) (st : Nat→Option (Nat × Nat)) {n : Nat} (hn : n < c.n.length) {f f' : Nat→Nat × Nat} (h : ∀ x ∈ c.g n,f x = f' x) : ctE c st n f = ctE c st n f':=by
 have hk:=hwf.k (c.nd n) (by rw [c.nd_get hn]; exact List.getElem_mem hn)
 unfold ctE
 congr 1
 unfold ctV
 by_cases h14 : (c.nd n).k = 14
 ·rw [if_pos h14,if_pos h14]
 rw [if_neg h14,if_neg h14]
 by_cases hc : combB (c.nd n).k = true
 ·have : insC f (c.nd n) = insC f' (c.nd n):=List.map_congr_left fun j hj=>h _ (by
   unfold Ci.g; rw [if_pos hc]; exact List.mem_map.2 ⟨j,hj,rfl⟩)
  rw [this]
 ·refine gateP_src ?_ (by simp [insC])
  simp [combB] at hc
  omega
theorem ctL_eq {c : Ci} (hwf : c.wf) (hv : c.val) (hac : acyc c) (st : Nat→Option (Nat × Nat)) {n : Nat} (hn : n < c.n.length) : ctL c st (ordL c) n = ctE c st n (ctL c st (ordL c)):=by
 have ho:=ord_ex hv hac
 have hT : Topo c.g [] (ordL c):=topo_of hv.g hac.lv (ordL c) [] ho.r.lt (fun x hx=>.inr (ho.mem.2 hx)) ho.p
 have hself : ∀ m,m < c.n.length→m ∉ c.g m:=fun m hm h=>by have:=lv_read hac hm h; omega
 let ev : Nat→(Nat→Nat × Nat)→Nat × Nat:=fun n f=>if n < c.n.length then ctE c st n f else (0,0)
 have hE : ∀ (L : List Nat) f,(∀ m ∈ L,m < c.n.length)→evl (ctE c st) (fun _=>true) L f = evl ev (fun _=>true) L f:=by
  intro L
  induction L with
  | nil=>intro f _; rfl
  | cons m L ih=>
   intro f h
   simp only [evl,if_true]
   rw [ih _ fun x hx=>h x (List.mem_cons_of_mem _ hx)]
   have : ev m f = ctE c st m f:=if_pos (h m List.mem_cons_self)
   rw [this]
 have hc : EvC c.g ev:=fun m f f' h _=>by
  show (if m < c.n.length then _ else _) = (if m < c.n.length then _ else _)
  by_cases hm : m < c.n.length
  ·rw [if_pos hm,if_pos hm]; exact ctE_congr hwf st hm h
  ·rw [if_neg hm,if_neg hm]
 have h1:=evl_eq hc (ordL c) [] (fun _=>(0,0)) hT (lex_nodup ho.p) (by simp) n (ho.mem.2 hn)
 rw [← hE _ _ ho.r.lt] at h1
 have h2 : ev n (upd1 (evl (ctE c st) (fun _=>true) (ordL c) fun _=>(0,0)) n (0,0)) = ctE c st n (upd1 (evl (ctE c st) (fun _=>true) (ordL c) fun _=>(0,0)) n (0,0)):=if_pos hn
 rw [h2] at h1
 show evl (ctE c st) (fun _=>true) (ordL c) (fun _=>(0,0)) n = _
 rw [h1]
 refine ctE_congr hwf st hn fun x hx=>?_
 have : x ≠ n:=fun e=>hself n hn (e ▸ hx)
 rw [upd1_ne _ _ this]; rfl
structure SeqP (c : Ci) (b : Nat→Nat × Nat) : Prop where
 le : ∀ n,(b n).1 ≤ nev∧(b n).2 ≤ nev
 ex : ∃ st,b = ctL c (stO (ids 14 c.n 0) st) (ordL c)∧(∀ n,(st n).1 ≤ nev∧(st n).2 ≤ nev)∧∀ n ∈ ids 14 c.n 0,st n = incP (b (dnN c n))
theorem mem_dff {c : Ci} {n : Nat} (hn : n < c.n.length) : n ∈ ids 14 c.n 0↔(c.nd n).k = 14:=by
 rw [ids_mem,c.nd_get hn]
 constructor
 ·rintro ⟨j,hj,e,h⟩
  have : n = j:=by omega
  subst this; exact h
 ·exact fun h=>⟨n,hn,by omega,h⟩
theorem SeqP.dff {c : Ci} (hwf : c.wf) (hv : c.val) (hac : acyc c) {b : Nat→Nat × Nat} (h : SeqP c b) {n : Nat} (hn : n < c.n.length) (h14 : (c.nd n).k = 14) : b n = incP (b (dnN c n)):=by
 obtain ⟨st,e,-,hs⟩:=h.ex
 have h1:=ctL_eq hwf hv hac (stO (ids 14 c.n 0) st) hn
 rw [← e] at h1
 have hm:=(mem_dff hn).2 h14
 rw [h1]
 unfold ctE stO
 rw [if_pos hm]
 exact hs n hm
theorem SeqP.gate {c : Ci} (hwf : c.wf) (hv : c.val) (hac : acyc c) {b : Nat→Nat × Nat} (h : SeqP c b) {n : Nat} (hn : n < c.n.length) (h14 : (c.nd n).k ≠ 14) : b n = gateP (c.nd n).k.toNat (insC b (c.nd n)):=by
 obtain ⟨st,e,-,hs⟩:=h.ex
 have h1:=ctL_eq hwf hv hac (stO (ids 14 c.n 0) st) hn
 rw [← e] at h1
 rw [h1]
 unfold ctE stO ctV
 rw [if_neg fun hm=>h14 ((mem_dff hn).1 hm),if_neg h14]
 rfl
theorem ctl_dff {c : Ci} (hwf : c.wf) (hv : c.val) (hac : acyc c) {n : Nat} (hn : n < c.n.length) (h14 : (c.nd n).k = 14) : ctl c n = (1,1):=by
 have h1:=ctL_eq hwf hv hac (fun _=>none) hn
 rw [show ctl c n = ctL c (fun _=>none) (ordL c) n from rfl,h1]
 unfold ctE ctV
 rw [if_pos h14]; rfl
theorem ctl_gate {c : Ci} (hwf : c.wf) (hv : c.val) (hac : acyc c) {n : Nat} (hn : n < c.n.length) (h14 : (c.nd n).k ≠ 14) : ctl c n = gateP (c.nd n).k.toNat (insC (ctl c) (c.nd n)):=by
 have h1:=ctL_eq hwf hv hac (fun _=>none) hn
 rw [show ctl c n = ctL c (fun _=>none) (ordL c) n from rfl,h1]
 unfold ctE ctV
 rw [if_neg h14]; rfl
theorem pls_one (a : Nat) : 1 ≤ pls a 1:=by unfold pls nev; omega
theorem SeqP.up {c : Ci} (hwf : c.wf) (hv : c.val) (hac : acyc c) {b : Nat→Nat × Nat} (h : SeqP c b) : ∀ n,n < c.n.length→leP (ctl c n) (b n):=by
 have key : ∀ k n,n < c.n.length→lvOf c n < k→leP (ctl c n) (b n):=by
  intro k
  induction k with
  | zero=>intro n _ h; omega
  | succ k ih=>
   intro n hn hlv
   by_cases h14 : (c.nd n).k = 14
   ·rw [ctl_dff hwf hv hac hn h14,h.dff hwf hv hac hn h14]
    exact ⟨pls_one _,pls_one _⟩
   ·rw [ctl_gate hwf hv hac hn h14,h.gate hwf hv hac hn h14]
    by_cases hc : combB (c.nd n).k = true
    ·refine gateP_mono _ ?_
     unfold insC
     have : ∀ l : List Int,(∀ j ∈ l,j.toNat ∈ c.g n)→leT (l.map fun j=>ctl c j.toNat) (l.map fun j=>b j.toNat):=by
      intro l
      induction l with
      | nil=>intro _; exact trivial
      | cons j l ihl=>
       intro hl
       have hj:=hl j List.mem_cons_self
       have:=ih j.toNat (hv.g n hn _ hj) (by have:=lv_read hac hn hj; omega)
       exact ⟨this.1,this.2,ihl fun x hx=>hl x (List.mem_cons_of_mem _ hx)⟩
     exact this _ fun j hj=>by unfold Ci.g; rw [if_pos hc]; exact List.mem_map.2 ⟨j,hj,rfl⟩
    ·have hk:=hwf.k (c.nd n) (by rw [c.nd_get hn]; exact List.getElem_mem hn)
     rw [gateP_src (k:=(c.nd n).k.toNat) (by simp [combB] at hc; omega) (show (insC (ctl c) (c.nd n)).length = (insC b (c.nd n)).length by simp [insC])]
     exact leP_refl _
 exact fun n hn=>key _ n hn (Nat.lt_succ_self _)
theorem SeqP.same {c : Ci} (hwf : c.wf) (hsh : shE c = 0) (hac : acyc c) {b : Nat→Nat × Nat} (h : SeqP c b) : ∀ n,n < c.n.length→¬ Rch c (ids 14 c.n 0) n→ctl c n = b n:=by
 have hv:=sh_val hwf hsh
 have key : ∀ k n,n < c.n.length→lvOf c n < k→¬ Rch c (ids 14 c.n 0) n→ctl c n = b n:=by
  intro k
  induction k with
  | zero=>intro n _ h; omega
  | succ k ih=>
   intro n hn hlv hr
   have h14 : (c.nd n).k ≠ 14:=fun e=>hr (.base ((mem_dff hn).2 e))
   rw [ctl_gate hwf hv hac hn h14,h.gate hwf hv hac hn h14]
   congr 1
   by_cases hc : combB (c.nd n).k = true
   ·refine List.map_congr_left fun j hj=>?_
    have hg : j.toNat ∈ c.g n:=by unfold Ci.g; rw [if_pos hc]; exact List.mem_map.2 ⟨j,hj,rfl⟩
    refine ih j.toNat (hv.g n hn _ hg) (by have:=lv_read hac hn hg; omega) fun hj2=>hr ?_
    obtain ⟨i,hi,e⟩:=List.getElem_of_mem hj
    exact .step hn h14 hi (by rw [List.getD_eq_getElem?_getD,List.getElem?_eq_getElem hi,e]; exact hj2)
   ·rcases nd_src hwf hsh hn (by simpa using hc) with ⟨q,-⟩ | ⟨q,-⟩
    ·exact absurd q h14
    ·rw [List.length_eq_zero_iff] at q
     unfold insC; rw [q]; rfl
 exact fun n hn=>key _ n hn (Nat.lt_succ_self _)
end Go.Proofs.YtcmblmkbdenakaaGreatDoor
