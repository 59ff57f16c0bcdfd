/- Bridges: what a bridge of two known nets makes of a pattern. Conditions: none. -/
import Derived.Test.YtlmniacemoohpaaGreatDoorU5
import Derived.Test.YtlmniacemoohpaaGreatDoorT12
set_option linter.unusedSimpArgs false
set_option linter.unusedVariables false
namespace Go.Proofs.YtlmniacemoohpaaGreatDoor
open Go
variable {c : Ci} {p : Pt}
theorem unaff (hg : c.good) {W : Nat→Nat→Nat} {Q : Nat→Nat→Nat→Nat} {b : Nat} (hW : ∀ n v,n ≠ b→W n v = v) (hQ : ∀ n k v,Q n k v = v) : ∀ (m i : Nat),lvOf c i < m→i < c.n.length→¬ Rch c.g i b→netM c W Q p i = netN c p i
  | 0,_,h,_,_=>by omega
  | m + 1,i,hm,hi,hr=>by
    have h1:=netM_sol (W:=W) (Q:=Q) (p:=p) hg hg.ord i hi
    have h2:=netN_sol (p:=p) hg hg.ord i hi
    have hib : i ≠ b:=fun e=>hr (e ▸ .rfl _)
    rw [h1,hW _ _ hib,h2]
    unfold idW
    by_cases hc : combC c i = true
    · rw [if_pos hc,if_pos hc]
      congr 1
      refine rdsM_congr fun k hk=>?_
      have hx : ((c.nd i).i[k]).toNat ∈ c.g i:=by rw [g_comb hc]; exact List.mem_map_of_mem (List.getElem_mem hk)
      have hlv : IsLv c.n.length c.g (lvOf c):=hg.ac.lv
      have e1:=hlv i hi
      have e2:=le_mx (f:=lvOf c) hx
      rw [hQ,unaff hg hW hQ m _ (by omega) (hg.val.g i hi _ hx) fun h=>hr (.head hx h)]
      rfl
    · rw [if_neg hc,if_neg hc]
theorem res_log {a b v : Nat} (ha : a ≤ 1) (hb : b ≤ 1) (hv : v ≤ 1) (h : a ≠ b) : logE (resK v) [a,b] = v:=by
  obtain rfl | rfl : a = 0∨a = 1:=by omega
  all_goals obtain rfl | rfl : b = 0∨b = 1:=by omega
  all_goals obtain rfl | rfl : v = 0∨v = 1:=by omega
  all_goals first | exact absurd rfl h | decide
theorem res_same {a v : Nat} (ha : a ≤ 1) (hv : v ≤ 1) : logE (resK v) [a,a] = a:=by
  obtain rfl | rfl : a = 0∨a = 1:=by omega
  all_goals obtain rfl | rfl : v = 0∨v = 1:=by omega
  all_goals decide
def wantF (f : Ft) (A : Nat→Nat) : Ft:=if f.m = 2∧f.v = A f.n then ⟨0,f.o,0,A f.n,0⟩ else ⟨0,f.n,0,A f.o,0⟩
theorem want_any {f : Ft} (hf : f.okB c) {A : Nat→Nat} (h1 : A f.n ≤ 1) (h2 : A f.o ≤ 1) : (wantF f A).any c:=by
  unfold wantF
  split
  · exact .inl ⟨⟨Nat.zero_lt_two,hf.o,Nat.zero_le _,h1,rfl⟩,rfl⟩
  · exact .inl ⟨⟨Nat.zero_lt_two,hf.n,Nat.zero_le _,h2,rfl⟩,rfl⟩
theorem wantW (f : Ft) (A : Nat→Nat) : (wantF f A).W c p = fun n v=>if n = (if f.m = 2∧f.v = A f.n then f.o else f.n) then (if f.m = 2∧f.v = A f.n then A f.n else A f.o) else v:=by
  funext n v
  unfold Ft.W wantF
  split
  · rename_i h; simp [h,atW]
  · rename_i h; simp [h,atW]
theorem wantQ (f : Ft) (A : Nat→Nat) (n k v : Nat) : (wantF f A).Q c p n k v = v:=by
  unfold Ft.Q wantF
  split <;> simp [atQ]
theorem brQ {f : Ft} (hf : f.okB c) (n k v : Nat) : f.Q c p n k v = v:=by
  unfold Ft.Q
  rcases hf.m with h | h
  · simp [h,idQ]
  · simp [h,atQ,hf.q]
theorem noR12 (hg : c.good) {a b : Nat} (ha : a < c.n.length) (h : dep c (c.n.length + 1) a b = false) : ¬ Rch c.g a b:=fun hr=>by
  rw [(dep_iff hg ha).2 hr] at h; cases h
theorem brM (hg : c.good) {f : Ft} (hf : f.okB c) (h1 : netN c p f.n ≤ 1) (h2 : netN c p f.o ≤ 1) (hne : netN c p f.n ≠ netN c p f.o) : ∀ i,i < c.n.length→(wantF f (netN c p)).M c p i = f.M c p i:=by
  have hWw:=wantW (c:=c) (p:=p) f (netN c p)
  have hQw:=wantQ (c:=c) (p:=p) f (netN c p)
  have hQf:=brQ (p:=p) hf
  have u1:=noR12 hg hf.n hf.d1
  have u2:=noR12 hg hf.o hf.d2
  intro i hi
  refine netM_uniq hg hg.ord (fun n hn=>?_) i hi
  have hs:=netM_sol (W:=(wantF f (netN c p)).W c p) (Q:=(wantF f (netN c p)).Q c p) (p:=p) hg hg.ord n hn
  have hrd : rdsM c ((wantF f (netN c p)).Q c p) n ((wantF f (netN c p)).M c p) = rdsM c (f.Q c p) n ((wantF f (netN c p)).M c p):=rdsM_congr fun k _=>by rw [hQw,hQf]
  unfold Ft.M at hrd ⊢
  rw [hrd] at hs
  have un : ∀ {t s : Nat},t < c.n.length→¬ Rch c.g t s→(∀ n v,n ≠ s→(wantF f (netN c p)).W c p n v = v)→netM c ((wantF f (netN c p)).W c p) ((wantF f (netN c p)).Q c p) p t = netN c p t:=fun ht hr hW=>unaff hg hW hQw _ _ (Nat.lt_succ_self _) ht hr
  generalize (if combC c n = true then logE (c.nd n).k.toNat (rdsM c (f.Q c p) n (netM c ((wantF f (netN c p)).W c p) ((wantF f (netN c p)).Q c p) p)) else ini c p n) = E at hs ⊢
  rw [hWw] at un
  rw [hWw] at hs
  rw [hWw]
  rcases hf.m with hm | hm
  · have hfW : f.W c p = wiW f (netN c p):=by unfold Ft.W; rw [if_pos hm]
    rw [hfW]
    have hR:=res_log h1 h2 hf.v hne
    unfold wiW
    rw [hR]
    by_cases hv : f.v = netN c p f.n
    · have hc : f.m = 2∧f.v = netN c p f.n:=⟨hm,hv⟩
      simp only [if_pos hc] at hs un ⊢
      by_cases e : n = f.o
      · rw [if_pos (.inr e)]; rw [if_pos e] at hs; rw [hs]; exact hv.symm
      · by_cases e2 : n = f.n
        · rw [if_pos (.inl e2),e2,un hf.n u1 fun n v h=>if_neg h]; exact hv.symm
        · rw [if_neg (by rintro (h | h) <;> contradiction)]; rw [if_neg e] at hs; exact hs
    · have hc : ¬ (f.m = 2∧f.v = netN c p f.n):=fun h=>hv h.2
      have hvo : f.v = netN c p f.o:=by have:=hf.v; omega
      simp only [if_neg hc] at hs un ⊢
      by_cases e : n = f.n
      · rw [if_pos (.inl e)]; rw [if_pos e] at hs; rw [hs]; exact hvo.symm
      · by_cases e2 : n = f.o
        · rw [if_pos (.inr e2),e2,un hf.o u2 fun n v h=>if_neg h]; exact hvo.symm
        · rw [if_neg (by rintro (h | h) <;> contradiction)]; rw [if_neg e] at hs; exact hs
  · have hfW : f.W c p = atW f fun _=>netN c p f.o:=by unfold Ft.W; rw [if_neg (by omega),if_pos hm]
    have hc : ¬ (f.m = 2∧f.v = netN c p f.n):=fun h=>by omega
    rw [hfW]
    simp only [if_neg hc] at hs ⊢
    unfold atW
    by_cases e : n = f.n
    · rw [if_pos ⟨hf.q,e⟩]; rw [if_pos e] at hs; exact hs
    · rw [if_neg (fun h=>e h.2)]; rw [if_neg e] at hs; exact hs
theorem brSame (hg : c.good) {f : Ft} (hf : f.okB c) (h1 : netN c p f.n ≤ 1) (he : netN c p f.n = netN c p f.o) : ∀ i,i < c.n.length→f.M c p i = netN c p i:=by
  refine netM_same hg hg.ord (fun n hn=>?_) fun n _ k _=>brQ hf _ _ _
  rcases hf.m with hm | hm
  · have hfW : f.W c p = wiW f (netN c p):=by unfold Ft.W; rw [if_pos hm]
    rw [hfW]
    unfold wiW
    rw [← he,res_same h1 hf.v]
    split
    · rename_i h
      rcases h with h | h
      · rw [h]
      · rw [h,he]
    · rfl
  · have hfW : f.W c p = atW f fun _=>netN c p f.o:=by unfold Ft.W; rw [if_neg (by omega),if_pos hm]
    rw [hfW]
    unfold atW
    split
    · rename_i h; rw [h.2,he]
    · rfl
theorem obsMO_eq (hg : c.good) {M M' : Nat→Nat} (h : ∀ i,i < c.n.length→M i = M' i) : obsMO c M = obsMO c M':=by
  unfold obsMO
  refine List.map_congr_left fun x hx=>?_
  have:=hg.o hx
  exact h _ (by omega)
theorem obsMS_eq (hg : c.good) {M M' : Nat→Nat} {Q Q' : Nat→Nat→Nat→Nat} (h : ∀ i,i < c.n.length→M i = M' i) (hQ : ∀ n k v,Q n k v = v) (hQ' : ∀ n k v,Q' n k v = v) : obsMS c Q M = obsMS c Q' M':=by
  unfold obsMS
  refine List.map_congr_left fun n hn=>?_
  obtain ⟨hl,x,hx,h0,h1,-⟩:=nd_dff hg hn
  have hnd : (c.nd n).i = [x]:=by rw [c.nd_get hl]; exact hx
  have hr : rdsM c Q n M = rdsM c Q' n M':=rdsM_congr fun k hk=>by
    rw [hQ,hQ']
    have : k = 0:=by rw [hnd] at hk; simpa using hk
    subst this
    simp only [hnd,List.getElem_cons_zero]
    exact h _ (by omega)
  unfold nxtM
  rw [hr]
theorem brO (hg : c.good) {f : Ft} (hf : f.okB c) (h1 : netN c p f.n ≤ 1) (h2 : netN c p f.o ≤ 1) (hne : netN c p f.n ≠ netN c p f.o) : (wantF f (netN c p)).O c p = f.O c p:=obsMO_eq hg (brM hg hf h1 h2 hne)
theorem brS (hg : c.good) {f : Ft} (hf : f.okB c) (h1 : netN c p f.n ≤ 1) (h2 : netN c p f.o ≤ 1) (hne : netN c p f.n ≠ netN c p f.o) : (wantF f (netN c p)).S c p = f.S c p:=obsMS_eq hg (brM hg hf h1 h2 hne) (wantQ f _) (brQ hf)
theorem brD (hg : c.good) {f : Ft} (hf : f.okB c) (h1 : netN c p f.n ≤ 1) (h2 : netN c p f.o ≤ 1) (hne : netN c p f.n ≠ netN c p f.o) : (wantF f (netN c p)).det c p = f.det c p:=by
  have e1:=brO hg hf h1 h2 hne
  have e2:=brS hg hf h1 h2 hne
  unfold Ft.O Ft.M at e1
  unfold Ft.S Ft.M at e2
  unfold Ft.det visB
  rw [e1,e2]
theorem brN (hg : c.good) (hp : p.fit c) {f : Ft} (hf : f.okB c) (h1 : netN c p f.n ≤ 1) (he : netN c p f.n = netN c p f.o) : f.det c p = false:=by
  have hM:=brSame hg hf h1 he
  unfold Ft.M at hM
  unfold Ft.det visB
  rw [obsMO_same hg hp hM,obsMS_same hg hp hM fun n _ k _=>brQ hf _ _ _]
  exact seen_self _ _
end Go.Proofs.YtlmniacemoohpaaGreatDoor
