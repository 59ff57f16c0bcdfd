/- Netlists: the order of the reference; the law Order. Conditions: none. -/
import Derived.Test.YtcmapbecfpcnfaaDoorNet16
namespace Go.Proofs.YtcmapbecfpcnfaaDoor
open Go
variable {n k : Nat} {lv : Nat→Nat} {L A B : List Nat}
theorem lex_irr (x : Nat) : ¬ lexlt lv x x:=by rintro (h | ⟨-,h⟩) <;> omega
theorem lex_asym {x y : Nat} (h : lexlt lv x y) : ¬ lexlt lv y x:=by
  rintro (k | ⟨k,k2⟩) <;> rcases h with h | ⟨h,h2⟩ <;> omega
theorem lex_unique : ∀ {A B : List Nat},A.Pairwise (lexlt lv)→B.Pairwise (lexlt lv)→(∀ x,x ∈ A↔x ∈ B)→A = B
  | [],[],_,_,_=>rfl
  | [],b :: B,_,_,h=>absurd ((h b).2 List.mem_cons_self) (by simp)
  | a :: A,[],_,_,h=>absurd ((h a).1 List.mem_cons_self) (by simp)
  | a :: A,b :: B,hA,hB,h=>by
    obtain ⟨a1,a2⟩:=List.pairwise_cons.1 hA
    obtain ⟨b1,b2⟩:=List.pairwise_cons.1 hB
    have hab : a = b:=by
      rcases List.mem_cons.1 ((h a).1 List.mem_cons_self) with q | q
      · exact q
      · rcases List.mem_cons.1 ((h b).2 List.mem_cons_self) with r | r
        · exact r.symm
        · exact absurd (b1 a q) (lex_asym (a1 b r))
    subst hab
    rw [lex_unique a2 b2 fun x=>⟨fun hx=>?_,fun hx=>?_⟩]
    · rcases List.mem_cons.1 ((h x).1 (List.mem_cons_of_mem _ hx)) with rfl | q
      · exact absurd (a1 x hx) (lex_irr x)
      · exact q
    · rcases List.mem_cons.1 ((h x).2 (List.mem_cons_of_mem _ hx)) with rfl | q
      · exact absurd (b1 x hx) (lex_irr x)
      · exact q
theorem lex_nodup (h : A.Pairwise (lexlt lv)) : A.Nodup:=h.imp fun h e=>by subst e; exact lex_irr _ h
def lvL (n : Nat) (lv : Nat→Nat) : Nat→List Nat
  | 0=>[]
  | k + 1=>lvL n lv k ++ (List.range n).filter fun i=>lv i == k
theorem lvL_mem (k x : Nat) : x ∈ lvL n lv k↔x < n∧lv x < k:=by
  induction k with
  | zero=>simp [lvL]
  | succ k ih=>simp [lvL,ih]; omega
theorem lvL_pw (k : Nat) : (lvL n lv k).Pairwise (lexlt lv):=by
  induction k with
  | zero=>simp [lvL]
  | succ k ih=>
    simp only [lvL]
    refine List.pairwise_append.2 ⟨ih,?_,fun a ha b hb=>?_⟩
    · refine ((List.pairwise_lt_range (n:=n)).filter _).imp_of_mem ?_
      intro a b ha hb hab
      simp at ha hb
      exact .inr ⟨by omega,hab⟩
    · have:=(lvL_mem (n:=n) (lv:=lv) k a).1 ha
      simp at hb
      exact .inl (by omega)
theorem lvL_len (k : Nat) : (lvL n lv k).length ≤ n:=nodup_len (lex_nodup (lvL_pw k)) fun x hx=>((lvL_mem k x).1 hx).1
theorem lvL_full (hk : n ≤ (lvL n lv k).length) : ∀ x,x < n→lv x < k:=fun x hx=>((lvL_mem k x).1 (nodup_full (lex_nodup (lvL_pw k)) (fun y hy=>((lvL_mem k y).1 hy).1) hk x hx)).2
theorem lvL_all (h : ∀ x,x < n→lv x < n) : n ≤ (lvL n lv n).length:=by
  have hs:=sumR_nodup (n:=n) (R:=lvL n lv n) (lex_nodup (lvL_pw n)) fun x hx=>((lvL_mem n x).1 hx).1
  have h1 : sumR (fun _=>1) n ≤ sumR (fun i=>if i ∈ lvL n lv n then 1 else 0) n:=sumR_mono fun j hj=>by rw [if_pos ((lvL_mem n j).2 ⟨hj,h j hj⟩)]; exact Nat.le_refl _
  rw [sumR_const,hs] at h1
  omega
theorem lvL_eq (hk : n ≤ (lvL n lv k).length) (hL : InR n L) (hp : L.Pairwise (lexlt lv)) : lvL n lv k = L:=by
  refine lex_unique (lvL_pw k) hp fun x=>?_
  have h1:=lvL_full hk
  have h2:=nodup_full (lex_nodup hp) hL.lt (by have:=hL.len; omega)
  rw [lvL_mem]
  exact ⟨fun h=>h2 x h.1,fun h=>⟨hL.lt x h,h1 x (hL.lt x h)⟩⟩
end Go.Proofs.YtcmapbecfpcnfaaDoor
