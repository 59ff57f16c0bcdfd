/- The circuits of the laws are narrow and short. No program stands in it. Conditions: none. -/
import Derived.Test.YtcmblmkbdenakaaGreatDoorT1
import Derived.Test.YtcmblmkbdenakaaGreatDoorC8
set_option linter.unusedSimpArgs false
set_option linter.unusedVariables false
namespace Go.Proofs.YtcmblmkbdenakaaGreatDoor
open Go
theorem gateC_len (bus : Bool) (g : Gx) (l : List Nd) : (gateC bus g l).2.length ≤ 3:=by
 unfold gateC
 dsimp only
 repeat' split
 all_goals simp
def i3 (l : List Nd) : Prop:=∀ y ∈ l,y.i.length ≤ 3
theorem i3_gates (bus : Bool) : ∀ (gs : List Gx) (l : List Nd),i3 l→i3 (gatesN bus gs l)
 | [],l,h=>h
 | g :: gs,l,h=>by
  rw [gatesN]
  refine i3_gates bus gs _ fun y hy=>?_
  rcases List.mem_append.1 hy with hy | hy
  ·exact h y hy
  ·rw [List.mem_singleton] at hy
   subst hy
   simp only [ndN,List.length_map]
   exact gateC_len bus g l
theorem i3_st0 (x : Cx) : i3 x.st0:=by
 intro y hy
 unfold Cx.st0 Cx.st1 at hy
 rcases List.mem_append.1 hy with hy | hy
 ·rcases List.mem_append.1 hy with hy | hy
  ·rw [List.eq_of_mem_replicate hy]; exact Nat.zero_le _
  ·rw [List.eq_of_mem_replicate hy]; exact (by decide : 1 ≤ 3)
 ·split at hy
  ·simp at hy
   rcases hy with rfl | rfl <;> simp
  ·simp at hy
theorem ns1_all (x : Cx) : ∀ j,i3 (x.ns1 j)∧(x.ns1 j).map Nd.k = x.ns0.map Nd.k
 | 0=>⟨i3_gates x.bus _ _ (i3_st0 x),rfl⟩
 | j + 1=>by
  obtain ⟨h1,h2⟩:=ns1_all x j
  rw [Cx.ns1]
  constructor
  ·intro y hy
   rcases List.mem_or_eq_of_mem_set hy with hy | hy
   ·exact h1 y hy
   ·rw [hy]; exact (by simp)
  ·rw [← h2]
   refine List.ext_getElem (by simp) fun i q1 q2=>?_
   have hi : i < (x.ns1 j).length:=by simpa using q2
   rw [List.getElem_map,List.getElem_map]
   by_cases e : x.n % 4 + 1 + j = i
   ·subst e
    rw [List.getElem_set_self,List.getD_eq_getElem?_getD,List.getElem?_eq_getElem hi]; rfl
   ·rw [List.getElem_set_ne e]
structure Ci.shr (c : Ci) (s : Nat) : Prop where
 b : ∀ n,n < c.n.length→∀ y ∈ c.g n,y < n
 i : ∀ n,n < c.n.length→(c.nd n).i.length ≤ 3
 s1 : s ≤ c.n.length
 s2 : c.n.length ≤ s + 8
 s3 : c.n.length ≤ 14
 k : ∀ n,n < s→combB (c.nd n).k = false
theorem nm_shr (x : Cx) : x.nm.ci.shr x.nm.st0.length:=by
 have hl:=(cxn_ok x.nm).2
 have hg:=gates_ok x.nm x.nm.bus (x.nm.g.take 8) x.nm.st0 (st0_len x.nm).1 (st0_ok x.nm)
 have hnn : x.nm.nn = x.nm.st0.length + (x.nm.g.take 8).length:=hg.2.2
 have h8 : (x.nm.g.take 8).length ≤ 8:=by simp; omega
 have hs0 : x.nm.st0.length ≤ 6:=by
  have h1 : x.nm.n % 4 < 4:=Nat.mod_lt _ (by omega)
  have h2 : x.nm.f % 3 < 3:=Nat.mod_lt _ (by omega)
  have hm : x.nm.mem = false:=rfl
  simp only [Cx.st0,Cx.st1,hm,List.length_append,List.length_replicate]
  simp
  omega
 refine ⟨ci_below x.nm,fun n hn=>?_,by omega,by omega,by omega,fun n hn=>?_⟩
 ·rw [Ci.nd_get _ hn]
  exact (ns1_all x.nm (x.nm.f % 3)).1 _ (List.getElem_mem hn)
 ·have hN : n < x.nm.ci.n.length:=by omega
  rw [Ci.nd_get _ hN]
  have hk:=(ns1_all x.nm (x.nm.f % 3)).2
  obtain ⟨r,hr⟩:=hg.2.1
  have e1 : (x.nm.ci.n[n]'hN).k = (x.nm.st0[n]'hn).k:=by
   have h1 : ((x.nm.ns1 (x.nm.f % 3)).map Nd.k)[n]? = (x.nm.ns0.map Nd.k)[n]?:=by rw [hk]
   have h2 : x.nm.ns0[n]? = some x.nm.st0[n]:=by
    show (gatesN x.nm.bus (x.nm.g.take 8) x.nm.st0)[n]? = _
    rw [hr,List.getElem?_append_left hn,List.getElem?_eq_getElem hn]
   rw [List.getElem?_map,List.getElem?_map,h2,List.getElem?_eq_getElem (show n < (x.nm.ns1 (x.nm.f % 3)).length from hN)] at h1
   simp only [Option.map_some,Option.some.injEq] at h1
   exact h1
  rw [e1]
  have hm:=List.getElem_mem hn
  have hmem : x.nm.mem = false:=rfl
  generalize x.nm.st0[n] = y at hm
  simp only [Cx.st0,Cx.st1,hmem] at hm
  simp at hm
  rcases hm with ⟨-,rfl⟩ | ⟨-,rfl⟩
  ·rfl
  ·rfl
end Go.Proofs.YtcmblmkbdenakaaGreatDoor
namespace Go.Proofs.YtcmblmkbdenakaaGreatDoor
open Go
theorem rd_at (v : Nat) : (rdN v = 0↔v = 0)∧(rdN v = 1↔v = 1)∧rdN v < 3∧rdN (rdN v) = rdN v:=by unfold rdN; omega
theorem dec_rd {lo hi : Nat} (h : lo = 0∧hi = 1∨lo = 1∧hi = 0) : ∀ (l : List Nat) (out : Nat),dec lo hi out (l.map rdN) = dec lo hi out l
 | [],_=>rfl
 | v :: l,out=>by
  have h1:=rd_at v
  have e1 : (rdN v = lo↔v = lo):=by rcases h with ⟨rfl,-⟩ | ⟨rfl,-⟩ <;> simp [h1]
  have e2 : (rdN v = hi↔v = hi):=by rcases h with ⟨-,rfl⟩ | ⟨-,rfl⟩ <;> simp [h1]
  simp only [List.map_cons,dec,e1,e2,dec_rd h l]
theorem xor_rd : ∀ (l : List Nat) (out : Nat),xorN out (l.map rdN) = xorN out l
 | [],_=>rfl
 | v :: l,out=>by
  have h1:=rd_at v
  simp only [List.map_cons,xorN,h1.1,h1.2.1,xor_rd l]
theorem getD_rd (l : List Nat) (j : Nat) : (l.map rdN).getD j 0 = rdN (l.getD j 0):=by
 rw [List.getD_eq_getElem?_getD,List.getD_eq_getElem?_getD,List.getElem?_map]
 cases l[j]? <;> rfl
theorem mux_rd (s a b : Nat) : muxN (rdN s) (rdN a) (rdN b) = muxN s a b:=by
 have hs:=rd_at s
 have ha:=rd_at a
 have hb:=rd_at b
 unfold muxN
 rw [ha.2.2.2,hb.2.2.2]
 simp only [hs.1,hs.2.1]
 by_cases e : s = 0
 ·simp [e]
 by_cases e1 : s = 1
 ·simp [e1]
 simp only [if_neg e,if_neg e1]
 by_cases e2 : a = b
 ·subst e2; simp
 ·rw [if_neg e2]
  split
  ·rename_i q; unfold rdN at q ⊢; omega
  ·rfl
theorem tri_rd (e d : Nat) : triN (rdN e) (rdN d) = triN e d:=by
 have h1:=rd_at e
 have h2:=rd_at d
 unfold triN
 simp only [h1.1,h1.2.1,h2.2.2.2]
theorem not_rd (v : Nat) : notN (rdN v) = notN v:=by unfold notN rdN; (repeat' split) <;> omega
theorem logE_rd {k : Nat} (h13 : k ≠ 13) (l : List Nat) : logE k (l.map rdN) = logE k l:=by
 unfold logE
 rw [List.length_map]
 split
 ·rfl
 unfold gateN
 simp only [getD_rd,dec_rd (lo:=0) (hi:=1) (.inl ⟨rfl,rfl⟩),dec_rd (lo:=1) (hi:=0) (.inr ⟨rfl,rfl⟩),xor_rd,mux_rd,tri_rd,not_rd,(rd_at _).2.2.2,if_neg h13]
theorem bst_at {B : Nat} : ∀ (ts : List (Nat × Nat)) (p : List Nat→Bool) (a : List Nat),a.length = ts.length→(∀ v ∈ a,v < 3)→p a = true→(∀ (i : Nat) t,ts[i]? = some t→tb t (a.getD i 2) ≤ B)→bst ts p ≤ ts.length * B
 | [],p,a,hl,_,hp,_=>by
  have : a = []:=List.length_eq_zero_iff.1 hl
  subst this
  unfold bst; rw [if_pos hp]; exact Nat.zero_le _
 | t :: ts,p,[],hl,_,_,_=>by simp at hl
 | t :: ts,p,v :: a,hl,hv,hp,hB=>by
  have ih:=bst_at (B:=B) ts (fun a=>p (v :: a)) a (by simpa using hl) (fun x hx=>hv x (List.mem_cons_of_mem _ hx)) hp (fun i u hu=>hB (i + 1) u (by simpa using hu))
  have h0 : tb t v ≤ B:=hB 0 t rfl
  have hv3:=hv v List.mem_cons_self
  have e : (ts.length + 1) * B = ts.length * B + B:=Nat.succ_mul _ _
  unfold bst
  simp only [List.length_cons,e]
  generalize ts.length * B = S at ih ⊢
  have h3 : v = 0∨v = 1∨v = 2:=by omega
  rcases h3 with rfl | rfl | rfl
  ·have h0 : t.1 ≤ B:=h0
   refine Nat.le_trans (Nat.min_le_left _ _) (Nat.le_trans (Nat.min_le_left _ _) ?_)
   refine Nat.le_trans (Nat.min_le_left _ _) ?_
   omega
  ·have h0 : t.2 ≤ B:=h0
   refine Nat.le_trans (Nat.min_le_left _ _) (Nat.le_trans (Nat.min_le_right _ _) ?_)
   refine Nat.le_trans (Nat.min_le_left _ _) ?_
   omega
  ·exact Nat.le_trans (Nat.min_le_right _ _) (by omega)
theorem bsk_at {B : Nat} {kp : Int} : ∀ (ts : List (Nat × Nat)) (j : Nat) (p : List Nat→Bool) (a : List Nat),a.length = ts.length→(∀ v ∈ a,v < 3)→p a = true→(∀ i : Nat,((j + i : Nat) : Int) = kp→i < ts.length→a.getD i 2 = 2)→(∀ (i : Nat) t,ts[i]? = some t→((j + i : Nat) : Int) ≠ kp→tb t (a.getD i 2) ≤ B)→bsk kp j ts p ≤ ts.length * B
 | [],j,p,a,hl,_,hp,_,_=>by
  have : a = []:=List.length_eq_zero_iff.1 hl
  subst this
  unfold bsk; rw [if_pos hp]; exact Nat.zero_le _
 | t :: ts,j,p,[],hl,_,_,_,_=>by simp at hl
 | t :: ts,j,p,v :: a,hl,hv,hp,h2,hB=>by
  have ih:=bsk_at (B:=B) (kp:=kp) ts (j + 1) (fun a=>p (v :: a)) a (by simpa using hl) (fun x hx=>hv x (List.mem_cons_of_mem _ hx)) hp (fun i hi hl2=>by
   have:=h2 (i + 1) (by rw [← hi]; congr 1; omega) (by simpa using hl2)
   simpa using this) (fun i u hu hi=>hB (i + 1) u (by simpa using hu) (by rw [show j + (i + 1) = j + 1 + i by omega]; exact hi))
  have e : (ts.length + 1) * B = ts.length * B + B:=Nat.succ_mul _ _
  unfold bsk
  simp only [List.length_cons,e]
  generalize ts.length * B = S at ih ⊢
  by_cases hk : (j : Int) = kp
  ·rw [if_pos hk]
   have hv2 : v = 2:=by have:=h2 0 (by simpa using hk) (by simp); simpa using this
   subst hv2
   omega
  ·rw [if_neg hk]
   have h0 : tb t v ≤ B:=by have:=hB 0 t rfl (by simpa using hk); simpa using this
   have hv3:=hv v List.mem_cons_self
   have h3 : v = 0∨v = 1∨v = 2:=by omega
   rcases h3 with rfl | rfl | rfl
   ·have h0 : t.1 ≤ B:=h0
    refine Nat.le_trans (Nat.min_le_left _ _) (Nat.le_trans (Nat.min_le_left _ _) ?_)
    refine Nat.le_trans (Nat.min_le_left _ _) ?_
    omega
   ·have h0 : t.2 ≤ B:=h0
    refine Nat.le_trans (Nat.min_le_left _ _) (Nat.le_trans (Nat.min_le_right _ _) ?_)
    refine Nat.le_trans (Nat.min_le_left _ _) ?_
    omega
   ·exact Nat.le_trans (Nat.min_le_right _ _) (by omega)
theorem mnV_at (b : Bool) : ∀ (ts : List (Nat × Nat)) (i : Nat) (t : Nat × Nat),ts[i]? = some t→mnV b ts ≤ tv b t
 | [],i,t,h=>by simp at h
 | u :: ts,0,t,h=>by simp at h; subst h; exact Nat.min_le_left _ _
 | u :: ts,i + 1,t,h=>Nat.le_trans (Nat.min_le_right _ _) (mnV_at b ts i t (by simpa using h))
theorem pls_le2 (a b : Nat) : pls a b ≤ a + b:=Nat.min_le_left _ _
theorem bus_known {l : List Nat} {v : Nat} (h : busN l = v) (hv : v ≤ 1) : v ∈ l:=by
 unfold busN at h
 cases hf : l.find? (fun v=>v != 3) with
 | none=>rw [hf] at h; simp at h; omega
 | some u=>
  rw [hf] at h
  simp only at h
  split at h
  ·omega
  ·subst h; exact List.mem_of_find?_eq_some hf
theorem gate_at {k : Nat} {ts : List (Nat × Nat)} {vals : List Nat} {B v : Nat} (hk : 1 ≤ k∧k ≤ 13) (hl : vals.length = ts.length) (h3 : ts.length ≤ 3) (he : logE k vals = v) (hv : v ≤ 1)
  (hB : ∀ (i : Nat) t,ts[i]? = some t→vals.getD i 2 ≤ 1→tb t (vals.getD i 2) ≤ B) : tb (gateD k ts) v ≤ 3 * B + 1:=by
 have hv2 : v = 0∨v = 1:=by omega
 by_cases k1 : k = 1
 ·subst k1
  have : v = 0:=by
   unfold logE at he
   split at he
   ·omega
   ·exact he.symm
  subst this; exact Nat.zero_le _
 by_cases k2 : k = 2
 ·subst k2
  have : v = 1:=by
   unfold logE at he
   split at he
   ·omega
   ·exact he.symm
  subst this; exact Nat.zero_le _
 have hg : gateD k ts = if k = 13 then (pls (mnV false ts) 1,pls (mnV true ts) 1) else (pls (bst ts fun a=>decide (logE k a = 0)) 1,pls (bst ts fun a=>decide (logE k a = 1)) 1):=by
  unfold gateD
  rw [if_neg (by omega),if_neg (by omega),if_neg (by omega),if_neg (by omega)]
 rw [hg]
 by_cases k13 : k = 13
 ·subst k13
  rw [if_pos rfl]
  have hb : busN vals = v:=by
   unfold logE at he
   split at he
   ·omega
   ·exact he
  have hm:=bus_known hb hv
  obtain ⟨i,hi,hiv⟩:=List.getElem_of_mem hm
  have hti : ts[i]? = some ts[i]:=List.getElem?_eq_getElem (by omega)
  have hvi : vals.getD i 2 = v:=by rw [List.getD_eq_getElem?_getD,List.getElem?_eq_getElem hi,hiv]; rfl
  have hb2:=hB i _ hti (by rw [hvi]; exact hv)
  rw [hvi] at hb2
  rcases hv2 with rfl | rfl
  ·have:=mnV_at false ts i _ hti
   have h5 : tb ts[i] 0 = tv false ts[i]:=rfl
   show pls (mnV false ts) 1 ≤ _
   have:=pls_le2 (mnV false ts) 1
   omega
  ·have:=mnV_at true ts i _ hti
   have h5 : tb ts[i] 1 = tv true ts[i]:=rfl
   show pls (mnV true ts) 1 ≤ _
   have:=pls_le2 (mnV true ts) 1
   omega
 ·rw [if_neg k13]
  have he2 : logE k (vals.map rdN) = v:=by rw [logE_rd k13]; exact he
  have key : ∀ w,v = w→(bst ts fun a=>decide (logE k a = w)) ≤ 3 * B:=fun w hw=>by
   have h1:=bst_at (B:=B) ts (fun a=>decide (logE k a = w)) (vals.map rdN) (by simpa using hl) (fun x hx=>by
    obtain ⟨y,-,rfl⟩:=List.mem_map.1 hx
    exact (rd_at y).2.2.1) (decide_eq_true (he2.trans hw)) (fun i t ht=>by
    have e : (vals.map rdN).getD i 2 = rdN (vals.getD i 2):=by
     rw [List.getD_eq_getElem?_getD,List.getD_eq_getElem?_getD,List.getElem?_map]
     cases vals[i]? <;> rfl
    rw [e]
    by_cases hvi : vals.getD i 2 ≤ 1
    ·have : rdN (vals.getD i 2) = vals.getD i 2:=by unfold rdN; omega
     rw [this]; exact hB i t ht hvi
    ·have : rdN (vals.getD i 2) = 2:=by unfold rdN; omega
     rw [this]; exact Nat.zero_le _)
   exact Nat.le_trans h1 (Nat.mul_le_mul_right _ h3)
  rcases hv2 with rfl | rfl
  ·have:=key 0 rfl
   show pls _ 1 ≤ _
   have:=pls_le2 (bst ts fun a=>decide (logE k a = 0)) 1
   omega
  ·have:=key 1 rfl
   show pls _ 1 ≤ _
   have:=pls_le2 (bst ts fun a=>decide (logE k a = 1)) 1
   omega
end Go.Proofs.YtcmblmkbdenakaaGreatDoor
