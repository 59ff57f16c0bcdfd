/- Cones: the contracts of Stems and Meets. Conditions: none. -/
import Derived.Test.YtcmapbecfpcnfaaDoorK11
set_option linter.unusedSimpArgs false
set_option linter.unusedVariables false
namespace Go.Proofs.YtcmapbecfpcnfaaDoor
open Go
noncomputable def stemB (c : Ci) (i : Nat) : Bool:=decide (i = stemOf c i)
set_option maxHeartbeats 4000000 in
theorem stems_c (c : Ci) (hwf : c.wf) (h0 : chkE c = 0) (h20 : c.n.length ≤ 20) (hl : c.lens) : PureC Tryd.prog gl0 24 [c.v] (okV (fL c.n.length (stemB c))):=by
  have hreg:=reg_c c hwf h0 h20 hl
  have hsl : (stL c).length = c.n.length:=by simp [stL,tab]
  obtain ⟨N,hN⟩ : ∃ N,c.n.length = N:=⟨_,rfl⟩
  simp only [okV] at hreg
  rw [hN] at hsl ⊢
  rw [hsl] at hreg
  refine PureC.of_W 2 ok24 rfl ?_
  simp [i24,x24]
  intro gf1
  refine CallO.pure hreg (by simp) ?_
  simp [hsl]
  refine LoopP.of (X:=AcSt) (fun z=>[(16,natV z.i),(15,natV N),(14,.sl (natsV (stL c)) (some N)),(6,accV 27 z.a),(5,natV 0)]) (fun z=>accH 27 1 z.a)
    (fun z=>z.i ≤ N∧(z.a = none∨accL z.a ≠ [])∧accL z.a = natsV (fL z.i (stemB c))) (fun z=>N - z.i) ⟨0,none⟩ ⟨by simp,by simp,by simp [accL,fL,natsV]⟩ (by simp [natV,accV]) (by simp [accH]) ?_
  rintro ⟨i,acc⟩ ⟨q1,q2,q3⟩
  dsimp only at q1 q2 q3 ⊢
  simp [natV]
  have hll : (accL acc).length ≤ i:=by rw [q3,natsV_length]; exact fL_len i _
  refine BrB.of (fun hb=>?_) (fun hb=>?_)
  · have hi : i < N:=of_decide_eq_true hb
    have hw:=wrapN i (by omega)
    have hge : (stL c)[i]'(by omega) = stemOf c i:=by simp only [stL]; rw [tab_get]
    have hs:=fL_succ i (stemB c)
    cases hD : (stemB c) i with
    | false=>
      simp [hD] at hs
      have hD2 : ¬ i = stemOf c i:=of_decide_eq_false hD
      simp [hi,hsl,natsV_get,hge,hD2,natV,hw]
      exact ⟨⟨i + 1,acc⟩,⟨hi,q2,by dsimp only; rw [hs]; exact q3⟩,by simp,by cases acc <;> simp [accH],by dsimp only; omega⟩
    | true=>
      simp [hD] at hs
      have hD2 : i = stemOf c i:=of_decide_eq_true hD
      have hn2 : natsV (fL (i + 1) (stemB c)) = natsV (fL i (stemB c)) ++ [.int .i64 (i : Int)]:=by rw [hs]; simp [natsV,natV]
      cases acc with
      | none=>
        simp only [accL] at q3
        simp [accV,accH,hi,hsl,natsV_get,hge,← hD2,natV,hw]
        refine fun gf5 gf6=>⟨⟨i + 1,some (gf6 27,[.int .i64 i])⟩,⟨hi,by simp [accL],by dsimp only; rw [hn2,← q3]; rfl⟩,by simp,by simp,by dsimp only; omega⟩
      | some gl=>
        obtain ⟨g,l⟩:=gl
        simp only [accL] at q3 hll
        have hle : l.length + 1 ≤ 274877906944:=by omega
        simp [accV,accH,hi,hsl,natsV_get,hge,← hD2,natV,hw,hle]
        refine fun gf5 gf6=>⟨⟨i + 1,some (gf6 27,l ++ [.int .i64 i])⟩,⟨hi,by simp [accL],by dsimp only [accL]; rw [hn2,← q3]⟩,by simp,by simp,by dsimp only; omega⟩
  · have hi : i = N:=by have:=of_decide_eq_false hb; omega
    subst i
    cases acc with
    | none=>
      simp only [accL] at q3
      have hL0 : (fL N (stemB c)) = []:=by
        cases hh : (fL N (stemB c)) with
        | nil=>rfl
        | cons x l=>rw [hh] at q3; cases q3
      simp [accV]
      refine CallO.pure clip0_c (by simp) ?_
      simp [okV,hL0,natsV]
    | some gl=>
      obtain ⟨g,l⟩:=gl
      simp only [accL] at q3
      subst q3
      simp [accV,accH]
      refine clip_c (fL N (stemB c)) 27 g _ (by simp) _ ⟨[(27,.row g 1 (natsV (fL N (stemB c))))],by simp,?_⟩
      simp [map_frz_pure (natsV_pure _),okV]
      exact List.take_of_length_le (by simp)
noncomputable def onB (c : Ci) (n : Nat) (j : Nat) : Bool:=bP (Rch c.g j n)
noncomputable def meetB (c : Ci) (n : Nat) (i : Nat) : Bool:=decide (1 < pinC c (onB c n) i)
noncomputable def pnT (c : Ci) (n i : Nat) (l : List Nat) (k : Nat) : Nat:=sumC (onB c n) (fun j=>(c.g k).count j) i + if onB c n i = true then l.count k else 0
theorem pnT_step {c : Ci} {n i : Nat} (h : onB c n i = true) (l : List Nat) (x : Nat) : upd1 (pnT c n i l) x (pnT c n i l x + 1) = pnT c n i (l ++ [x]):=by
  funext k
  show (if k = x then _ else _) = _
  unfold pnT
  simp only [h,if_true,List.count_append]
  by_cases e : k = x
  · subst e; simp; omega
  · rw [if_neg e]
    have : [x].count k = 0:=List.count_eq_zero.2 (by simpa using e)
    omega
theorem pnT_off {c : Ci} {n i : Nat} (h : onB c n i = false) (l m : List Nat) : pnT c n i l = pnT c n i m:=by
  funext k; simp [pnT,h]
theorem pnT_next {c : Ci} (hv : c.val) {n i k : Nat} (hk : k < c.n.length) : pnT c n i (rdL c i) k = pnT c n (i + 1) [] k:=by
  unfold pnT
  simp only [sumC,rdL_count hv i hk]
  simp
theorem pnT_le {c : Ci} (hv : c.val) {n i : Nat} (l : List Nat) (k : Nat) : pnT c n i l k ≤ i * 16 + l.length:=by
  unfold pnT
  have h1:=sumC_le (onB c n) (fun j=>(c.g k).count j) 16 i fun j _=>Nat.le_trans List.count_le_length (g_len hv k)
  have h2 : l.count k ≤ l.length:=List.count_le_length
  split <;> omega
theorem pnT_end {c : Ci} (hv : c.val) {n : Nat} (k : Nat) : pnT c n c.n.length [] k = pinC c (onB c n) k:=by
  unfold pnT pinC
  by_cases hk : k < c.n.length
  · rw [sumC_count _ _ _ fun x hx=>hv.g k hk x hx]; simp
  · have e : c.g k = []:=by
      have : c.nd k = default:=by unfold Ci.nd; rw [List.getD_eq_getElem?_getD,List.getElem?_eq_none (by omega)]; rfl
      unfold Ci.g
      rw [this,if_neg (by simp [combB,show (default : Nd).k = 0 from rfl])]
    rw [e]
    simp [sumC_zero]
set_option maxHeartbeats 4000000 in
theorem meets_c (c : Ci) (hwf : c.wf) (h0 : chkE c = 0) (n : Nat) (hn : n < c.n.length) : PureC Tryd.prog gl0 22 [c.v,natV n] (okV (fL c.n.length (meetB c n))):=by
  obtain ⟨hv,ha⟩:=ck_val hwf h0
  have hN6 : c.n.length < 1000000:=by have:=chk_len h0; omega
  have hck:=checkC_c c hwf [(n : Int)] (some 1) (by simp)
  have hz:=argE_ok h0 (l:=[n]) (by simpa using hn)
  simp only [List.map_cons,List.map_nil] at hz
  rw [hz] at hck
  simp only [ints,List.map_cons,List.map_nil] at hck
  have hrd:=readers_c c hv hN6
  have hre:=reached_c c.n.length hN6 (rdL c) _ (r_dn hv ha hN6) [n] (by simpa using hn) (by simp) (some 1)
  have hon : (boolsV c.n.length fun j=>bP (∃ x ∈ [n],Rch (rdL c) x j)) = boolsV c.n.length (onB c n):=boolsV_congr fun j _=>bP_congr (by simp [rch_rd hv])
  rw [hon] at hre
  simp only [natsV,List.map_cons,List.map_nil,natV] at hre
  have hrl:=fun x=>rdL_len hv hN6 x
  have hplN:=fun x l=>pnT_le hv (n:=n) (i:=x) l
  have hnxt:=fun i k hk=>pnT_next hv (n:=n) (i:=i) (k:=k) hk
  have hend:=fun k=>pnT_end hv (n:=n) k
  have hlt : ∀ i x,x ∈ rdL c i→x < c.n.length:=fun i x hx=>rdL_lt hx
  obtain ⟨N,hN⟩ : ∃ N,c.n.length = N:=⟨_,rfl⟩
  simp only [hN] at hck hrd hre hN6 hnxt hend hlt hn ⊢
  refine PureC.of_W 2 ok22 rfl ?_
  simp [i22,x22,natV]
  intro gf1 gf2
  generalize gf1 2 = g2
  generalize gf2 19 = g19
  refine CallO.borrow 1 hck (by simp) rfl ?_
  simp
  refine CallO.pure hrd (by simp) ?_
  simp
  intro gf3
  generalize gf3 28 = g28
  refine CallO.frzB 28 (by simp; exact ⟨rfl,rfl,rfl⟩) (by simp) ?_
  simp [fzV,V.mapR,V.mapRL,fzp,fzf,fzH,Blk.fz,mapR_pure _ (ci_pure c),mapRL_pure,edV_pure]
  refine CallO.pure hre (by simp [edV_pure]) ?_
  have hzz : List.replicate N (V.int .i64 0) = natsV (tab N (pnT c n 0 [])):=by
    refine List.ext_getElem (by simp [tab]) fun i h1 h2=>?_
    rw [natsV_get,tab_get,List.getElem_replicate]; simp [pnT,sumC,natV]
  have htl : ∀ f : Nat→Nat,(tab N f).length = N:=fun f=>by simp [tab]
  simp [hN,hzz,show N ≤ 549755813888 by omega]
  intro gf4
  generalize gf4 33 = g33
  refine LoopP.of (X:=Nat) (fun i=>[(36,natV i),(35,natV N),(34,.sl (boolsV N (onB c n)) (some N)),(7,.sl (tab N (edV (rdL c))) (some N)),(9,.ref 33 g33 0 N (some N)),(5,natV 0)])
    (fun i=>[(33,.row g33 1 (natsV (tab N (pnT c n i []))))]) (fun i=>i ≤ N) (fun i=>N - i) 0 (by simp) (by simp [natV]) (by simp) ?_
  intro i h1
  simp [natV]
  refine BrB.of (fun hb=>?_) (fun hb=>?_)
  · have hi : i < N:=of_decide_eq_true hb
    have hw:=wrapN i (by omega)
    obtain ⟨ks,hks⟩ : ∃ ks,rdL c i = ks:=⟨_,rfl⟩
    have hkl : ks.length < 1000000000:=by rw [← hks]; exact hrl i
    have hkN : ∀ x ∈ ks,x < N:=fun x hx=>hlt i x (by rw [hks]; exact hx)
    simp [hi,boolsV_get,tab_get,edV,hks]
    refine LoopP.of (X:=Nat) (fun t=>[(46,natV t),(45,natV ks.length),(44,.sl (natsV ks) none),(11,.bool (onB c n i)),(36,natV i),(35,natV N),(34,.sl (boolsV N (onB c n)) (some N)),(7,.sl (tab N (edV (rdL c))) (some N)),(9,.ref 33 g33 0 N (some N)),(5,natV 0)])
      (fun t=>[(33,.row g33 1 (natsV (tab N (pnT c n i (ks.take t)))))]) (fun t=>t ≤ ks.length) (fun t=>ks.length - t) 0 (by simp) (by simp [natV]) (by simp) ?_
    intro t h2
    simp [natV]
    refine BrB.of (fun hb2=>?_) (fun hb2=>?_)
    · have ht : t < ks.length:=of_decide_eq_true hb2
      have hwt:=wrapN t (by omega)
      obtain ⟨x,hx⟩ : ∃ x,ks[t] = x:=⟨_,rfl⟩
      have hxN:=hkN x (by rw [← hx]; exact List.getElem_mem ht)
      have htk : ks.take (t + 1) = ks.take t ++ [x]:=by rw [List.take_succ_eq_append_getElem ht,hx]
      simp [ht,natsV_get,hx]
      cases hon2 : onB c n i with
      | false=>
        simp [hwt]
        exact ⟨t + 1,ht,by simp,by rw [pnT_off hon2 (ks.take t) (ks.take (t + 1))],by omega⟩
      | true=>
        have hp1:=hplN i (ks.take t) x
        have hp2 : (ks.take t).length ≤ t:=by simp; omega
        have hwp:=wrapN (pnT c n i (ks.take t) x) (by omega)
        have hst:=pnT_step hon2 (ks.take t) x
        rw [← htk] at hst
        generalize pnT c n i (ks.take t) x + 1 = u at hwp hst
        simp [hxN,htl,natsV_get,tab_get,natV,hwp,natsV_set0,hst,hwt]
        exact ⟨t + 1,ht,by simp,rfl,by omega⟩
    · have ht : t = ks.length:=by have:=of_decide_eq_false hb2; omega
      subst ht
      simp [hw]
      refine ⟨i + 1,hi,by simp,?_,by omega⟩
      congr 1
      refine tab_congr fun k hk=>?_
      rw [← hks]; exact hnxt i k hk
  · have hi : i = N:=by have:=of_decide_eq_false hb; omega
    subst i
    clear hb h1
    have hT : tab N (pnT c n N []) = tab N (pinC c (onB c n)):=tab_congr fun k _=>hend k
    rw [hT]
    simp [htl]
    refine LoopP.of (X:=AcSt) (fun z=>[(61,natV z.i),(60,natV N),(59,.ref 33 g33 0 N (some N)),(14,accV 71 z.a),(5,natV 0)]) (fun z=>[(33,.row g33 1 (natsV (tab N (pinC c (onB c n)))))] ++ accH 71 1 z.a)
      (fun z=>z.i ≤ N∧(z.a = none∨accL z.a ≠ [])∧accL z.a = natsV (fL z.i (meetB c n))) (fun z=>N - z.i) ⟨0,none⟩ ⟨by simp,by simp,by simp [accL,fL,natsV]⟩ (by simp [natV,accV]) (by simp [accH]) ?_
    rintro ⟨i,acc⟩ ⟨q1,q2,q3⟩
    dsimp only at q1 q2 q3 ⊢
    simp [natV]
    have hll : (accL acc).length ≤ i:=by rw [q3,natsV_length]; exact fL_len i _
    refine BrB.of (fun hb=>?_) (fun hb=>?_)
    · have hi : i < N:=of_decide_eq_true hb
      have hw:=wrapN i (by omega)
      have hs:=fL_succ i (meetB c n)
      cases hD : (meetB c n) i with
      | false=>
        simp [hD] at hs
        have hD2 : ¬ (1 < pinC c (onB c n) i):=of_decide_eq_false hD
        simp [hi,htl,natsV_get,tab_get,hD2,natV,hw]
        exact ⟨⟨i + 1,acc⟩,⟨hi,q2,by dsimp only; rw [hs]; exact q3⟩,by simp,by cases acc <;> simp [accH],by dsimp only; omega⟩
      | true=>
        simp [hD] at hs
        have hD2 : 1 < pinC c (onB c n) i:=of_decide_eq_true hD
        have hn2 : natsV (fL (i + 1) (meetB c n)) = natsV (fL i (meetB c n)) ++ [.int .i64 (i : Int)]:=by rw [hs]; simp [natsV,natV]
        cases acc with
        | none=>
          simp only [accL] at q3
          simp [accV,accH,hi,htl,natsV_get,tab_get,hD2,natV,hw]
          refine fun gf5 gf6=>⟨⟨i + 1,some (gf6 71,[.int .i64 i])⟩,⟨hi,by simp [accL],by dsimp only; rw [hn2,← q3]; rfl⟩,by simp,by simp,by dsimp only; omega⟩
        | some gl=>
          obtain ⟨g,l⟩:=gl
          simp only [accL] at q3 hll
          have hle : l.length + 1 ≤ 274877906944:=by omega
          simp [accV,accH,hi,htl,natsV_get,tab_get,hD2,natV,hw,hle]
          refine fun gf5 gf6=>⟨⟨i + 1,some (gf6 71,l ++ [.int .i64 i])⟩,⟨hi,by simp [accL],by dsimp only [accL]; rw [hn2,← q3]⟩,by simp,by simp,by dsimp only; omega⟩
    · have hi : i = N:=by have:=of_decide_eq_false hb; omega
      subst i
      simp
      cases acc with
      | none=>
        simp only [accL] at q3
        have hL0 : (fL N (meetB c n)) = []:=by
          cases hh : (fL N (meetB c n)) with
          | nil=>rfl
          | cons x l=>rw [hh] at q3; cases q3
        simp [accV]
        refine CallO.pure clip0_c (by simp) ?_
        simp [okV,hL0,natsV]
      | some gl=>
        obtain ⟨g,l⟩:=gl
        simp only [accL] at q3
        subst q3
        simp [accV,accH]
        refine clip_c (fL N (meetB c n)) 71 g _ (by simp) _ ⟨[(71,.row g 1 (natsV (fL N (meetB c n))))],by simp,?_⟩
        simp [map_frz_pure (natsV_pure _),okV]
        exact List.take_of_length_le (by simp)
end Go.Proofs.YtcmapbecfpcnfaaDoor
