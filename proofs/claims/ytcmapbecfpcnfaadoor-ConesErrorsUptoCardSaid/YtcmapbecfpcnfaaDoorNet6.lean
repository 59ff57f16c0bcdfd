/- Netlists: contracts, the reference's Levels. Conditions: none. -/
import Derived.Test.YtcmapbecfpcnfaaDoorNet5
namespace Go.Proofs.YtcmapbecfpcnfaaDoor
open Go
open Classical in
noncomputable def rlvRes (c : Ci) : V:=if acyc c then .tup [.sl (tab c.n.length fun i=>natV (lvOf c i)) (some c.n.length),.bool true] else .tup [.nil,.bool false]
theorem frz_tupB (h : Hp) (n : Nat) (a : V) (b : Bool) : frz h n (.tup [a,.bool b]) = .tup [frz h n a,.bool b]:=by
  cases n <;> simp [frz]
structure LR where
  r : Nat
  o : Nat→Nat
structure LI where
  i : Nat
  a : Bool
  o : Nat→Nat
theorem rcomb3_c (k : Int) : PureC Tryd.prog gl0 77 [.int .u8 k] (.bool (combB k)):=rcomb_c k
theorem rlevels_c (c : Ci) (hv : c.val) (hl : c.n.length < 1000000) : PureC Tryd.prog gl0 49 [c.v] (rlvRes c):=by
  obtain ⟨q,hq⟩ : ∃ r,rlvRes c = r:=⟨_,rfl⟩
  rw [hq]
  unfold rlvRes at hq
  have hle : c.n.length ≤ 549755813888:=by omega
  have hg:=hv.g
  refine PureC.of_W 2 ok49 rfl ?_
  simp [i49,x49,hle]
  intro gf gf2
  generalize gf 1 = g1
  generalize gf2 13 = g13
  have hn2 : c.n.length * c.n.length ≤ 1000000 * c.n.length:=Nat.mul_le_mul_right _ (by omega)
  refine LoopP.of (X:=LR) (fun x=>[(5,natV x.r),(4,.ref 13 g13 0 c.n.length (some c.n.length)),(1,.ptr 1 g1 0 0)]) (fun x=>[(13,.row g13 1 (tab c.n.length fun j=>natV (x.o j))),(1,.row g1 4 [c.v])])
    (fun x=>x.r ≤ c.n.length + 1∧RS c.n.length c.g x.r x.o∧∀ j,j < c.n.length→x.o j ≤ 16 * (x.r * c.n.length)) (fun x=>c.n.length + 1 - x.r) ⟨0,fun _=>0⟩ ⟨by simp,RS.start,fun j hj=>Nat.zero_le _⟩ (by simp [natV]) (by simp [natV,tab_const]) ?_
  rintro ⟨r,o0⟩ ⟨h1,h2,h3⟩
  dsimp only at h1 h2 h3
  simp [natV]
  refine BrB.of (fun hb=>?_) (fun hb=>?_)
  · have hr : r ≤ c.n.length:=of_decide_eq_true hb
    have hrn : r * c.n.length ≤ c.n.length * c.n.length:=Nat.mul_le_mul_right _ hr
    have hwr:=wrapN r (by omega)
    simp
    refine LoopP.of (X:=LI) (fun x=>[(7,natV x.i),(6,.bool x.a),(5,natV r),(4,.ref 13 g13 0 c.n.length (some c.n.length)),(1,.ptr 1 g1 0 0)]) (fun x=>[(13,.row g13 1 (tab c.n.length fun j=>natV (x.o j))),(1,.row g1 4 [c.v])])
      (fun x=>x.i ≤ c.n.length∧RR c.n.length c.g r o0 x.o x.a x.i 0∧∀ j,j < c.n.length→x.o j ≤ 16 * (r * c.n.length + x.i)) (fun x=>c.n.length - x.i) ⟨0,false,o0⟩ ⟨Nat.zero_le _,h2.round,fun j hj=>by have:=h3 j hj; simpa using this⟩ (by simp [natV]) (by simp [natV]) ?_
    rintro ⟨i,a,o⟩ ⟨h4,h5,h6⟩
    dsimp only at h4 h5 h6
    simp [natV]
    refine BrB.of (fun hb=>?_) (fun hb=>?_)
    · have hi : i < c.n.length:=of_decide_eq_true hb
      have hwi:=wrapN i (by omega)
      simp [hi]
      intro gf8
      generalize gf8 8 = g8
      have hlen:=hv.l i hi
      have hin:=hv.i i hi
      have hgi : ∀ b,combB c.n[i].k = b→c.g i = if b = true then c.n[i].i.map Int.toNat else []:=fun b hb=>by unfold Ci.g; rw [Ci.nd_get c hi,hb]
      rw [c.nd_get hi] at hlen hin
      generalize hx : c.n[i] = x at *
      refine LoopP.of (X:=LI) (fun y=>[(9,natV y.i),(8,.ptr 8 g8 0 0),(7,natV i),(6,.bool y.a),(5,natV r),(4,.ref 13 g13 0 c.n.length (some c.n.length)),(1,.ptr 1 g1 0 0)]) (fun y=>[(8,.row g8 4 [x.v]),(13,.row g13 1 (tab c.n.length fun j=>natV (y.o j))),(1,.row g1 4 [c.v])])
        (fun y=>y.i ≤ x.i.length∧(y.i = 0∨combB x.k = true)∧RR c.n.length c.g r o0 y.o y.a i y.i∧∀ j,j < c.n.length→y.o j ≤ 16 * (r * c.n.length + i) + y.i) (fun y=>x.i.length - y.i) ⟨0,a,o⟩ ⟨Nat.zero_le _,.inl rfl,h5,h6⟩ (by simp [natV]) (by simp [natV]) ?_
      clear h5 h6 a o
      rintro ⟨k,a,o⟩ ⟨h7,h0,h5,h6⟩
      dsimp only at h7 h0 h5 h6
      simp [natV]
      refine BrB.of (fun hb=>?_) (fun hb=>?_)
      · have hk : k < x.i.length:=of_decide_eq_true hb
        have hwk:=wrapN k (by omega)
        simp [hb]
        refine CallO.pure (rcomb3_c _) (by simp) ?_
        simp
        refine BrB.of (fun hc=>?_) (fun hc=>?_)
        · have hgx:=hgi _ hc
          simp only [if_true] at hgx
          have hkg : k < (c.g i).length:=by rw [hgx]; simpa using hk
          obtain ⟨m,hm⟩ : ∃ m : Nat,x.i[k] = (m : Int):=⟨x.i[k].toNat,by have:=hin _ (List.getElem_mem hk); omega⟩
          have hml : m < c.n.length:=by have:=hin _ (List.getElem_mem hk); omega
          have hgk : (c.g i)[k] = m:=by simp only [hgx,List.getElem_map,hm]; rfl
          have hom:=h6 m hml
          have hwm:=wrapN (o m) (by omega)
          have hkeep:=h5.keep hg hi hkg
          have hraise:=h5.raise hg hi hkg
          rw [hgk] at hkeep hraise
          simp [hi,hk,ints_getE,hm,hml,tab_get,hwm]
          refine BrB.of (fun hz=>?_) (fun hz=>?_)
          · have hlt : o i < o m + 1:=by have:=of_decide_eq_true hz; omega
            simp [hi,hk,ints_getE,hm,hml,tab_get,tab_set,hwm,hwk]
            refine ⟨⟨k + 1,true,upd1 o i (o m + 1)⟩,⟨hk,.inr hc,hraise hlt,fun j hj=>?_⟩,by simp,?_,by simp only; omega⟩
            · by_cases e : j = i
              · subst e; simp; omega
              · have:=h6 j hj
                simp only [upd1_ne _ _ e]
                omega
            · simp
              refine tab_congr fun j _=>?_
              by_cases e : j = i
              · subst e; simp
              · rw [upd1_ne _ _ e,upd1_ne _ _ e]
          · have hlt : ¬ o i < o m + 1:=by have:=of_decide_eq_false hz; omega
            simp [hwk]
            exact ⟨⟨k + 1,a,o⟩,⟨hk,.inr hc,hkeep hlt,fun j hj=>by have:=h6 j hj; simp only; omega⟩,by simp,by simp,by simp only; omega⟩
        · have hgx:=hgi _ hc
          simp only [Bool.false_eq_true,if_false] at hgx
          rcases h0 with h0 | h0
          · subst h0
            simp [hwi]
            refine ⟨⟨i + 1,a,o⟩,⟨hi,h5.node (by rw [hgx]; simp),fun j hj=>by have:=h6 j hj; simp only; omega⟩,by simp,by simp,by simp only; omega⟩
          · rw [hc] at h0; cases h0
      · have hk : k = x.i.length:=by have:=of_decide_eq_false hb; omega
        simp [hb,hwi]
        refine ⟨⟨i + 1,a,o⟩,⟨hi,h5.node ?_,fun j hj=>by have:=h6 j hj; simp only; omega⟩,by simp,by simp,by simp only; omega⟩
        unfold Ci.g
        rw [c.nd_get hi,hx]
        split <;> simp [hk]
    · have hi : i = c.n.length:=by have:=of_decide_eq_false hb; omega
      subst hi
      simp
      cases a with
      | true=>
        simp [hwr]
        refine ⟨⟨r + 1,o⟩,⟨by simp only; omega,h5.again hg,fun j hj=>?_⟩,by simp,by simp,by simp only; omega⟩
        have:=h6 j hj
        simp only
        rw [show (r + 1) * c.n.length = r * c.n.length + c.n.length from Nat.succ_mul _ _]
        exact this
      | false=>
        simp [-frz]
        have hlv:=h5.stable hg
        have hac : acyc c:=⟨o,hlv⟩
        rw [frz_tupB,frz_tab (f:=fun j=>natV (o j)) (sz:=1) (g:=g13) (by simp [natV]) (fun _=>rfl),← hq]
        refine Eq.trans ?_ (if_pos hac).symm
        congr 3
        exact tab_congr fun j hj=>by rw [hlv.unique hg hac.lv j hj]
  · have hr : r = c.n.length + 1:=by have:=of_decide_eq_false hb; omega
    simp
    have hna : ¬ acyc c:=fun ⟨f,hf⟩=>by have:=h2.rn f hf; omega
    rw [← hq]
    exact (if_neg hna).symm
theorem errs_zero : ∀ {l : List Int} {t : Int},errs l t = 0→(∀ x ∈ l,x = 0)∧t = 0
  | [],t,h=>⟨by simp,h⟩
  | x :: l,t,h=>by
    simp only [errs] at h
    split at h
    · rename_i hx; exact absurd h hx
    · rename_i hx
      have hx0 : x = 0:=Classical.not_not.1 hx
      obtain ⟨h1,h2⟩:=errs_zero h
      exact ⟨fun y hy=>by rcases List.mem_cons.1 hy with rfl | hy; exact hx0; exact h1 y hy,h2⟩
theorem sh_zero {c : Ci} (h : shE c = 0) : shBig c = false∧c.s.length = c.n.length∧(∀ x ∈ c.n,ndE c x = 0)∧nmBad [] c.s = false∧(∀ m ∈ c.m,mdE c m = 0)∧c.o.any (outB c.n.length) = false:=by
  unfold shE at h
  split at h
  · cases h
  · rename_i h1
    split at h
    · cases h
    · rename_i h2
      obtain ⟨h3,h4⟩:=errs_zero h
      unfold shS at h4
      split at h4
      · cases h4
      · rename_i h5
        obtain ⟨h6,h7⟩:=errs_zero h4
        unfold shO at h7
        split at h7
        · cases h7
        · rename_i h8
          exact ⟨by simpa using h1,Classical.not_not.1 h2,fun x hx=>h3 _ (List.mem_map_of_mem hx),by simpa using h5,fun x hx=>h6 _ (List.mem_map_of_mem hx),by simpa using h8⟩
theorem nd_zero {c : Ci} {x : Nd} (h : ndE c x = 0) : x.k ≤ 15∧widB x.k x.i.length = true∧x.i.any (outB c.n.length) = false∧(x.k = 13→x.i.any (fun v=>!decide ((c.nd v.toNat).k = 12)) = false)∧bitB c x = true:=by
  unfold ndE at h
  split at h
  · cases h
  · rename_i h1
    split at h
    · cases h
    · rename_i h2
      split at h
      · cases h
      · rename_i h3
        split at h
        · cases h
        · rename_i h4
          split at h
          · cases h
          · rename_i h5
            exact ⟨by omega,by simpa using h2,by simpa using h3,fun hk=>by simpa [hk] using h4,by simpa using h5⟩
theorem sh_val {c : Ci} (hwf : c.wf) (h : shE c = 0) : c.val:=by
  obtain ⟨h1,h2,h3,h4,h5,h6⟩:=sh_zero h
  refine ⟨fun j hj x hx=>?_,fun j hj=>?_⟩
  · rw [c.nd_get hj] at hx
    have:=(nd_zero (h3 _ (List.getElem_mem hj))).2.2.1
    have:=List.any_eq_false.1 this x hx
    simp [outB] at this
    omega
  · rw [c.nd_get hj]
    obtain ⟨q1,q2,-⟩:=nd_zero (h3 _ (List.getElem_mem hj))
    exact widB_le (hwf.k _ (List.getElem_mem hj)).1 q1 q2
theorem sh_len {c : Ci} (h : shE c = 0) : c.n.length ≤ 16384∧c.s.length = c.n.length∧c.m.length ≤ 16∧c.o.length ≤ 16384:=by
  obtain ⟨h1,h2,-⟩:=sh_zero h
  simp [shBig] at h1
  omega
open Classical in
noncomputable def chkE (c : Ci) : Int:=if shE c ≠ 0 then shE c else if acyc c then 0 else 6
theorem levelsW_c (c : Ci) (hwf : c.wf) : PureC Tryd.prog gl0 13 [c.v] (lvRes c (shE c)):=
  levels_c c _ (shape_c c hwf) (sh_val hwf) (fun h=>by have:=sh_len h; omega)
open Classical in
theorem lvRes_eq (c : Ci) : lvRes c (shE c) = .tup [if chkE c = 0 then .sl (tab c.n.length fun i=>natV (lvOf c i)) (some c.n.length) else .nil,.int .i64 (chkE c)]:=by
  unfold lvRes chkE
  by_cases h1 : shE c = 0
  · by_cases h2 : acyc c <;> simp [h1,h2]
  · simp [h1]
theorem check_c (c : Ci) (hwf : c.wf) : PureC Tryd.prog gl0 43 [c.v] (.int .i64 (chkE c)):=by
  refine PureC.of_W 2 ok43 rfl ?_
  have:=levelsW_c c hwf
  rw [lvRes_eq] at this
  simp [i43,x43]
  intro gf
  refine CallO.pure this (by simp) ?_
  simp
theorem rcheck_c (c : Ci) (hwf : c.wf) : PureC Tryd.prog gl0 17 [c.v] (.int .i64 (chkE c)):=by
  obtain ⟨q,hq⟩ : ∃ r,chkE c = r:=⟨_,rfl⟩
  rw [hq]
  unfold chkE at hq
  refine PureC.of_W 2 ok17 rfl ?_
  simp [i17,x17]
  intro gf
  refine CallO.pure (rshape_c c hwf) (by simp) ?_
  simp
  refine BrB.of (fun h=>?_) (fun h=>?_)
  · have h' : shE c = 0:=of_decide_eq_true h
    rw [if_neg (by simp [h'])] at hq
    have hlen:=sh_len h'
    have:=rlevels_c c (sh_val hwf h') (by omega)
    unfold rlvRes at this
    by_cases hac : acyc c
    · rw [if_pos hac] at this hq
      simp
      refine CallO.pure this (by simp) ?_
      simp [← hq]
    · rw [if_neg hac] at this hq
      simp
      refine CallO.pure this (by simp) ?_
      simp [← hq]
  · have h' : ¬ shE c = 0:=of_decide_eq_false h
    rw [if_pos h'] at hq
    simp [hq]
end Go.Proofs.YtcmapbecfpcnfaaDoor
