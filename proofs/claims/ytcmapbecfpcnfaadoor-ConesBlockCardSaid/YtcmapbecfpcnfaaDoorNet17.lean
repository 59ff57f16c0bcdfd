/- Netlists: the order of the reference; the law Order. Conditions: none. -/
import Derived.Test.YtcmapbecfpcnfaaDoorNet16
namespace Go.Proofs.YtcmapbecfpcnfaaDoor
open Go
variable {n k : Nat} {lv : Nat→Nat} {L A B : List Nat}
theorem lex_irr (x : Nat) : ¬ lexlt lv x x:=by rintro (h | ⟨-,h⟩) <;> omega
theorem lex_asym {x y : Nat} (h : lexlt lv x y) : ¬ lexlt lv y x:=by
  rintro (k | ⟨k,k2⟩) <;> rcases h with h | ⟨h,h2⟩ <;> omega
theorem lex_unique : ∀ {A B : List Nat},A.Pairwise (lexlt lv)→B.Pairwise (lexlt lv)→(∀ x,x ∈ A↔x ∈ B)→A = B
  | [],[],_,_,_=>rfl
  | [],b :: B,_,_,h=>absurd ((h b).2 List.mem_cons_self) (by simp)
  | a :: A,[],_,_,h=>absurd ((h a).1 List.mem_cons_self) (by simp)
  | a :: A,b :: B,hA,hB,h=>by
    obtain ⟨a1,a2⟩:=List.pairwise_cons.1 hA
    obtain ⟨b1,b2⟩:=List.pairwise_cons.1 hB
    have hab : a = b:=by
      rcases List.mem_cons.1 ((h a).1 List.mem_cons_self) with q | q
      · exact q
      · rcases List.mem_cons.1 ((h b).2 List.mem_cons_self) with r | r
        · exact r.symm
        · exact absurd (b1 a q) (lex_asym (a1 b r))
    subst hab
    rw [lex_unique a2 b2 fun x=>⟨fun hx=>?_,fun hx=>?_⟩]
    · rcases List.mem_cons.1 ((h x).1 (List.mem_cons_of_mem _ hx)) with rfl | q
      · exact absurd (a1 x hx) (lex_irr x)
      · exact q
    · rcases List.mem_cons.1 ((h x).2 (List.mem_cons_of_mem _ hx)) with rfl | q
      · exact absurd (b1 x hx) (lex_irr x)
      · exact q
theorem lex_nodup (h : A.Pairwise (lexlt lv)) : A.Nodup:=h.imp fun h e=>by subst e; exact lex_irr _ h
def lvL (n : Nat) (lv : Nat→Nat) : Nat→List Nat
  | 0=>[]
  | k + 1=>lvL n lv k ++ (List.range n).filter fun i=>lv i == k
theorem lvL_mem (k x : Nat) : x ∈ lvL n lv k↔x < n∧lv x < k:=by
  induction k with
  | zero=>simp [lvL]
  | succ k ih=>simp [lvL,ih]; omega
theorem lvL_pw (k : Nat) : (lvL n lv k).Pairwise (lexlt lv):=by
  induction k with
  | zero=>simp [lvL]
  | succ k ih=>
    simp only [lvL]
    refine List.pairwise_append.2 ⟨ih,?_,fun a ha b hb=>?_⟩
    · refine ((List.pairwise_lt_range (n:=n)).filter _).imp_of_mem ?_
      intro a b ha hb hab
      simp at ha hb
      exact .inr ⟨by omega,hab⟩
    · have:=(lvL_mem (n:=n) (lv:=lv) k a).1 ha
      simp at hb
      exact .inl (by omega)
theorem lvL_len (k : Nat) : (lvL n lv k).length ≤ n:=nodup_len (lex_nodup (lvL_pw k)) fun x hx=>((lvL_mem k x).1 hx).1
theorem lvL_full (hk : n ≤ (lvL n lv k).length) : ∀ x,x < n→lv x < k:=fun x hx=>((lvL_mem k x).1 (nodup_full (lex_nodup (lvL_pw k)) (fun y hy=>((lvL_mem k y).1 hy).1) hk x hx)).2
theorem lvL_all (h : ∀ x,x < n→lv x < n) : n ≤ (lvL n lv n).length:=by
  have hs:=sumR_nodup (n:=n) (R:=lvL n lv n) (lex_nodup (lvL_pw n)) fun x hx=>((lvL_mem n x).1 hx).1
  have h1 : sumR (fun _=>1) n ≤ sumR (fun i=>if i ∈ lvL n lv n then 1 else 0) n:=sumR_mono fun j hj=>by rw [if_pos ((lvL_mem n j).2 ⟨hj,h j hj⟩)]; exact Nat.le_refl _
  rw [sumR_const,hs] at h1
  omega
theorem lvL_lt {k : Nat} (h : ∀ x,x < n→lv x < n) (hk : (lvL n lv k).length < n) : k < n:=by
  by_cases hc : k < n
  · exact hc
  · exfalso
    have h1:=lvL_all h
    have : ∀ x,x ∈ lvL n lv n→x ∈ lvL n lv k:=fun x hx=>by
      rw [lvL_mem] at hx ⊢; omega
    have hs:=sumR_nodup (n:=n) (R:=lvL n lv k) (lex_nodup (lvL_pw k)) fun x hx=>((lvL_mem k x).1 hx).1
    have hs2:=sumR_nodup (n:=n) (R:=lvL n lv n) (lex_nodup (lvL_pw n)) fun x hx=>((lvL_mem n x).1 hx).1
    have : (lvL n lv n).length ≤ (lvL n lv k).length:=by
      rw [← hs,← hs2]
      exact sumR_mono fun j hj=>by
        by_cases hj2 : j ∈ lvL n lv n
        · rw [if_pos hj2,if_pos (this j hj2)]; exact Nat.le_refl _
        · rw [if_neg hj2]; exact Nat.zero_le _
    omega
theorem lvL_eq (hk : n ≤ (lvL n lv k).length) (hL : InR n L) (hp : L.Pairwise (lexlt lv)) : lvL n lv k = L:=by
  refine lex_unique (lvL_pw k) hp fun x=>?_
  have h1:=lvL_full hk
  have h2:=nodup_full (lex_nodup hp) hL.lt (by have:=hL.len; omega)
  rw [lvL_mem]
  exact ⟨fun h=>h2 x h.1,fun h=>⟨hL.lt x h,h1 x (hL.lt x h)⟩⟩
theorem rorder_c (c : Ci) (hv : c.val) (ha : acyc c) (hl : c.n.length < 1000000) (h0 : 0 < c.n.length) (L : List Nat) (hL : InR c.n.length L) (hp : L.Pairwise (lexlt (lvOf c))) : PureC Tryd.prog gl0 33 [c.v] (.sl (natsV L) none):=by
  have hlv:=rlevels_c c hv hl
  rw [rlvRes,if_pos ha] at hlv
  have hlt : ∀ x,x < c.n.length→lvOf c x < c.n.length:=IsLv.lt hv.g ha.lv
  obtain ⟨N,hN⟩ : ∃ N,c.n.length = N:=⟨_,rfl⟩
  refine PureC.of_W 2 ok33 rfl ?_
  simp [i33,x33]
  intro gf
  generalize gf 1 = g1
  refine CallO.pure hlv (by simp [V.pureL]) ?_
  simp
  rw [hN] at hlt hL h0 hl ⊢
  refine LoopP.of (X:=Nat × Option (Nat × List V)) (fun y=>[(6,natV y.1),(5,accV 37 y.2),(3,.sl (tab N fun i=>natV (lvOf c i)) (some N)),(1,.ptr 1 g1 0 0)]) (fun y=>(1,.row g1 4 [c.v]) :: accH 37 1 y.2)
    (fun y=>y.1 ≤ N∧(y.2 = none↔accL y.2 = [])∧accL y.2 = natsV (lvL N (lvOf c) y.1)) (fun y=>N - y.1) (0,none) ⟨by simp,by simp [accL],by simp [accL,lvL,natsV]⟩ (by simp [natV,accV]) (by simp [accH]) ?_
  rintro ⟨k,acc⟩ ⟨h1,h2,h3⟩
  dsimp only at h1 h2 h3 ⊢
  have hkN : natsV (lvL N (lvOf c) k) = accL acc:=h3.symm
  have hll:=lvL_len (n:=N) (lv:=lvOf c) k
  rcases acc with _ | ⟨g,l⟩
  case' none=>
    have hk : k < N:=lvL_lt hlt (by
      have : (natsV (lvL N (lvOf c) k)).length = 0:=by rw [hkN]; rfl
      simp [natsV] at this
      simp [this]; omega)
    simp [accV,accH,natV,h0,hN]
  case' some=>
    have hlk : l.length = (lvL N (lvOf c) k).length:=by simp only [accL] at h3; rw [h3]; simp [natsV]
    simp [accV,accH,natV,hN]
    refine BrB.of (fun hb=>?_) (fun hb=>?_)
    case' refine_1=>
      have hk : k < N:=lvL_lt hlt (by have:=of_decide_eq_true hb; omega)
      simp
  case some.refine_2=>
    have hge : N ≤ (lvL N (lvOf c) k).length:=by have:=of_decide_eq_false hb; omega
    have he:=lvL_eq hge hL hp
    simp only [accL] at h3
    rw [he] at h3
    subst h3
    simp [map_frz_pure (natsV_pure L)]
    exact List.take_of_length_le (by simp [natsV])
  all_goals
    first
      | refine LoopP.of (X := Nat × Option (Nat × List V)) (fun y => [(7, natV y.1), (6, natV k), (5, accV 37 y.2), (3, .sl (tab N fun i => natV (lvOf c i)) (some N)), (1, .ptr 1 g1 0 0)]) (fun y => (1, .row g1 4 [c.v]) :: accH 37 1 y.2)
            (fun y=>y.1 ≤ N∧(y.2 = none↔accL y.2 = [])∧accL y.2 = natsV (lvL N (lvOf c) k ++ (List.range y.1).filter fun i=>lvOf c i == k)) (fun y=>N - y.1) (0,none) ⟨by simp,h2,by simpa using h3⟩ (by simp [natV,accV]) (by simp [accH]) ?_
      | refine LoopP.of (X := Nat × Option (Nat × List V)) (fun y => [(7, natV y.1), (6, natV k), (5, accV 37 y.2), (3, .sl (tab N fun i => natV (lvOf c i)) (some N)), (1, .ptr 1 g1 0 0)]) (fun y => (1, .row g1 4 [c.v]) :: accH 37 1 y.2)
            (fun y=>y.1 ≤ N∧(y.2 = none↔accL y.2 = [])∧accL y.2 = natsV (lvL N (lvOf c) k ++ (List.range y.1).filter fun i=>lvOf c i == k)) (fun y=>N - y.1) (0,some (g,l)) ⟨by simp,h2,by simpa using h3⟩ (by simp [natV,accV]) (by simp [accH]) ?_
    have hwk:=wrapN k (by omega)
    clear h2 h3 hkN
    rintro ⟨i,acc⟩ ⟨q1,q2,q3⟩
    dsimp only at q1 q2 q3 ⊢
    simp [natV,hN]
    refine BrB.of (fun hb2=>?_) (fun hb2=>?_)
    · have hi : i < N:=of_decide_eq_true hb2
      have hwi:=wrapN i (by omega)
      simp [hi,tab_get]
      have hfs : (List.range (i + 1)).filter (fun j=>lvOf c j == k) = (List.range i).filter (fun j=>lvOf c j == k) ++ if lvOf c i = k then [i] else []:=by
        rw [range_filter_succ]
        simp
      have hlen : (accL acc).length ≤ N + i:=by
        rw [q3]
        have : ((List.range i).filter fun j=>lvOf c j == k).length ≤ i:=by
          have:=List.length_filter_le (fun j=>lvOf c j == k) (List.range i)
          simpa using this
        simp [natsV]; omega
      refine BrB.of (fun hb3=>?_) (fun hb3=>?_)
      · have he : lvOf c i = k:=by have:=of_decide_eq_true hb3; omega
        rw [if_pos he] at hfs
        cases acc with
        | none=>
          have hnil:=q2.1 rfl
          simp only [accL] at q3
          simp [accV,accH,hwi]
          intro ga gb
          refine ⟨i + 1,some (gb 37,[natV i]),⟨by omega,by simp [accL],?_⟩,by simp,by simp [natV],by omega⟩
          rw [hfs,← List.append_assoc,natsV_append,← q3]; rfl
        | some gl=>
          obtain ⟨g2,l2⟩:=gl
          simp only [accL] at q3 hlen
          have hle : l2.length + 1 ≤ 274877906944:=by omega
          simp [accV,accH,hwi,hle]
          intro ga gb
          refine ⟨i + 1,some (gb 37,l2 ++ [natV i]),⟨by omega,by simp [accL],?_⟩,by simp,by simp [natV],by omega⟩
          rw [hfs,← List.append_assoc,natsV_append,← q3]; rfl
      · have he : ¬ lvOf c i = k:=by have:=of_decide_eq_false hb3; omega
        rw [if_neg he,List.append_nil] at hfs
        simp [hwi]
        refine ⟨i + 1,acc,⟨by omega,q2,by rw [hfs]; exact q3⟩,⟨by simp,rfl⟩,by cases acc <;> simp [accH],by omega⟩
    · have hi : i = N:=by have:=of_decide_eq_false hb2; omega
      rw [hi] at q3
      simp [hwk]
      refine ⟨k + 1,acc,⟨by omega,q2,q3⟩,⟨by simp,rfl⟩,by cases acc <;> simp [accH],by omega⟩
end Go.Proofs.YtcmapbecfpcnfaaDoor
