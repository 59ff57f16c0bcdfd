/- Cones: the contracts of the reference: Reads, Reach, Points, Seen. Conditions: none. -/
import Derived.Test.YtcmapbecfpcnfaaDoorK12
set_option linter.unusedSimpArgs false
set_option linter.unusedVariables false
namespace Go.Proofs.YtcmapbecfpcnfaaDoor
open Go
structure ReSt where
  o : Nat→Bool
  k : Nat
def acW (b : Nat) : Option (Nat × List Int)→V
  | none=>.sl [] (some 0)
  | some (g,l)=>.ref b g 0 l.length none
def acI (b : Nat) : Option (Nat × List Int)→Hp
  | none=>[]
  | some (g,l)=>[(b,.row g 1 (ints l))]
def acM : Option (Nat × List Int)→List Int
  | none=>[]
  | some (_,l)=>l
structure PoSt where
  i : Nat
  a : Option (Nat × List Int)
theorem ints_nil : ints [] = []:=rfl
theorem ints_cons (a : Int) (l : List Int) : ints (a :: l) = .int .i64 a :: ints l:=rfl
theorem ints_app (a b : List Int) : ints (a ++ b) = ints a ++ ints b:=by simp [ints]
set_option maxRecDepth 100000 in
set_option maxHeartbeats 8000000 in
theorem rpoints_c (c : Ci) (hl : c.lens) (hob : (obsL c).length ≤ 1000000000) : PureC Tryd.prog gl0 28 [c.v] (.sl (boolsV c.n.length (ptB c)) (some c.n.length)):=by
  have hn:=hl.n
  obtain ⟨A,hA⟩ : ∃ A,c.o = A:=⟨_,rfl⟩
  have hAl : A.length ≤ 1000000000:=by
    rw [← hA]; simp only [obsL,List.length_append] at hob; omega
  refine PureC.of_W 1 ok28 rfl ?_
  simp [i28,x28,hA,show A.length ≤ 274877906944 by omega]
  intro gf1 gf2
  generalize gf1 1 = g1
  have hfl : ∀ k,k ≤ c.n.length→(A ++ (c.n.take k).flatMap fun x=>if x.k = 14 then x.i else []).length ≤ 1000000000:=fun k hk=>by
    have h1 : c.n.flatMap (fun x=>if x.k = 14 then x.i else []) = (c.n.take k).flatMap (fun x=>if x.k = 14 then x.i else []) ++ (c.n.drop k).flatMap (fun x=>if x.k = 14 then x.i else []):=by
      rw [← List.flatMap_append,List.take_append_drop]
    simp only [obsL,hA,h1,List.length_append] at hob ⊢
    omega
  obtain ⟨B,hB⟩ : ∃ B,A = B:=⟨_,rfl⟩
  rw [hB] at hfl hA
  rcases A with _ | ⟨z,A⟩
  case' nil=>
    simp [ints]
    refine LoopP.ofM (X:=PoSt) (fun x=>[(4,natV x.i),(3,acW 900 x.a),(1,.ptr 1 g1 0 0)]) (fun x=>(1,.row g1 4 [c.v]) :: acI 900 x.a)
      (fun x=>x.i ≤ c.n.length∧acM x.a = B ++ (c.n.take x.i).flatMap fun x=>if x.k = 14 then x.i else []) (fun x=>c.n.length - x.i) (.done ⟨⟨0,none⟩,⟨by simp,by simp [← hB,acM]⟩,by simp [natV,acW],by simp [acI]⟩) ?_
  case' cons=>
    simp [ints]
    refine LoopP.ofM (X:=PoSt) (fun x=>[(4,natV x.i),(3,acW 900 x.a),(1,.ptr 1 g1 0 0)]) (fun x=>(1,.row g1 4 [c.v]) :: acI 900 x.a)
      (fun x=>x.i ≤ c.n.length∧acM x.a = B ++ (c.n.take x.i).flatMap fun x=>if x.k = 14 then x.i else []) (fun x=>c.n.length - x.i) (.move 10 900 _ (by omega) (by simp; rfl) fun g=>.done ⟨⟨0,some (g,z :: A)⟩,⟨by simp,by simp [← hB,acM]⟩,by simp [natV,acW],by simp [acI,ints,map_rn_pure (show V.pureL (A.map (V.int .i64)) = true from ints_pure A),rn_pure _ (ci_pure c)]⟩) ?_
  all_goals
    rintro ⟨i,acc⟩ ⟨h1,h2⟩
    dsimp only at h1 h2 ⊢
    have hlen : (acM acc).length ≤ 1000000000:=by rw [h2]; exact hfl i h1
    simp [natV]
    refine BrB.of (fun hb=>?_) (fun hb=>?_)
    · have hi : i < c.n.length:=of_decide_eq_true hb
      have hw:=wrapN i (by omega)
      obtain ⟨y,hy⟩ : ∃ y,c.n[i] = y:=⟨_,rfl⟩
      have htk : c.n.take (i + 1) = c.n.take i ++ [y]:=by rw [List.take_succ_eq_append_getElem hi,hy]
      have hl2:=hfl (i + 1) hi
      simp [hi,hy,Nd.v]
      refine BrB.of (fun hk=>?_) (fun hk=>?_)
      · have hk' : y.k = 14:=of_decide_eq_true hk
        have hst : (B ++ (c.n.take (i + 1)).flatMap fun x=>if x.k = 14 then x.i else []) = (B ++ (c.n.take i).flatMap fun x=>if x.k = 14 then x.i else []) ++ y.i:=by rw [htk]; simp [hk']
        rw [hst,← h2] at hl2
        rw [← h2] at hst
        simp only [List.length_append] at hl2
        cases acc with
        | none=>
          obtain ⟨Y,hY⟩ : ∃ Y,y.i = Y:=⟨_,rfl⟩
          rw [hY] at hst hl2
          simp [acW,acI,hi,hy,Nd.v,hY,hw,show Y.length ≤ 274877906944 by omega]
          intro gf3
          rcases Y with _ | ⟨u,A2⟩
          · simp [ints,hw]
            exact .done ⟨⟨i + 1,none⟩,⟨hi,by dsimp only; rw [hst]; rfl⟩,by simp [acW],by simp [acI],by dsimp only; omega⟩
          · simp [ints,hw]
            exact .move 32 900 _ (by omega) (by simp; rfl) fun g=>.done ⟨⟨i + 1,some (g,u :: A2)⟩,⟨hi,by dsimp only; rw [hst]; rfl⟩,by simp [acW],by simp [acI,ints,map_rn_pure (show V.pureL (A2.map (V.int .i64)) = true from ints_pure A2),rn_pure _ (ci_pure c)],by dsimp only; omega⟩
        | some gl=>
          obtain ⟨g,l⟩:=gl
          simp only [acM] at hl2 hst
          have hle : l.length + y.i.length ≤ 274877906944:=by omega
          simp [acW,acI,hi,hy,Nd.v,hw,hle]
          intro gf4
          exact .done ⟨⟨i + 1,some (gf4 900,l ++ y.i)⟩,⟨hi,by dsimp only [acM]; rw [hst]⟩,by simp [acW],by simp [acI,ints_app],by dsimp only; omega⟩
      · have hk' : ¬ y.k = 14:=of_decide_eq_false hk
        have hst : (B ++ (c.n.take (i + 1)).flatMap fun x=>if x.k = 14 then x.i else []) = (B ++ (c.n.take i).flatMap fun x=>if x.k = 14 then x.i else []):=by rw [htk]; simp [hk']
        simp [hw]
        exact .done ⟨⟨i + 1,acc⟩,⟨hi,by dsimp only; rw [hst]; exact h2⟩,by simp,by cases acc <;> simp [acI],by dsimp only; omega⟩
    · have hi : i = c.n.length:=by have:=of_decide_eq_false hb; omega
      subst i
      rw [List.take_length] at h2
      obtain ⟨B2,hB2⟩ : ∃ B2,(B ++ c.n.flatMap fun x=>if x.k = 14 then x.i else []) = B2:=⟨_,rfl⟩
      have hobs : obsL c = B2 ++ c.m.flatMap fun m=>m.a ++ (m.d ++ [m.w]):=by rw [← hB2,← hA]; simp [obsL]
      rw [hB2] at h2
      clear hb hfl hlen
      have hfm : ∀ k,k ≤ c.m.length→(B2 ++ (c.m.take k).flatMap fun m=>m.a ++ (m.d ++ [m.w])).length ≤ 1000000000:=fun k hk=>by
        have h1 : c.m.flatMap (fun m=>m.a ++ (m.d ++ [m.w])) = (c.m.take k).flatMap (fun m=>m.a ++ (m.d ++ [m.w])) ++ (c.m.drop k).flatMap (fun m=>m.a ++ (m.d ++ [m.w])):=by
          rw [← List.flatMap_append,List.take_append_drop]
        rw [hobs,h1] at hob
        simp only [List.length_append] at hob ⊢
        omega
      simp
      refine LoopP.ofM (X:=PoSt) (fun x=>[(5,natV x.i),(3,acW 900 x.a),(1,.ptr 1 g1 0 0)]) (fun x=>(1,.row g1 4 [c.v]) :: acI 900 x.a)
        (fun x=>x.i ≤ c.m.length∧acM x.a = B2 ++ (c.m.take x.i).flatMap fun m=>m.a ++ (m.d ++ [m.w])) (fun x=>c.m.length - x.i) (.done ⟨⟨0,acc⟩,⟨by simp,by simpa using h2⟩,by simp [natV],by cases acc <;> simp [acI]⟩) ?_
      clear h2 acc
      rintro ⟨i,acc⟩ ⟨h1,h2⟩
      dsimp only at h1 h2 ⊢
      have hlen : (acM acc).length ≤ 1000000000:=by rw [h2]; exact hfm i h1
      simp [natV]
      refine BrB.of (fun hb=>?_) (fun hb=>?_)
      · have hi : i < c.m.length:=of_decide_eq_true hb
        have hw:=wrapN i (by have:=hl.m; omega)
        obtain ⟨m,hm⟩ : ∃ m,c.m[i] = m:=⟨_,rfl⟩
        have htk : c.m.take (i + 1) = c.m.take i ++ [m]:=by rw [List.take_succ_eq_append_getElem hi,hm]
        have hl2:=hfm (i + 1) hi
        have hst : (B2 ++ (c.m.take (i + 1)).flatMap fun m=>m.a ++ (m.d ++ [m.w])) = (B2 ++ (c.m.take i).flatMap fun m=>m.a ++ (m.d ++ [m.w])) ++ (m.a ++ (m.d ++ [m.w])):=by rw [htk]; simp
        rw [hst,← h2] at hl2
        rw [← h2] at hst
        simp only [List.length_append,List.length_singleton] at hl2
        obtain ⟨Ya,hYa⟩ : ∃ Y,m.a = Y:=⟨_,rfl⟩
        obtain ⟨Yd,hYd⟩ : ∃ Y,m.d = Y:=⟨_,rfl⟩
        rw [hYa,hYd] at hst hl2
        cases acc with
        | none=>
          simp [acW,acI,hi,hm,Md.v,hYa,hYd,hw,show Ya.length ≤ 274877906944 by omega]
          intro gm
          rcases Ya with _ | ⟨u,A2⟩
          · simp [ints_nil,ints_cons,hi,hm,Md.v,hYd,show Yd.length ≤ 274877906944 by omega]
            rcases Yd with _ | ⟨u,A2⟩
            · simp [ints_nil,ints_cons,hi,hm,Md.v,hYd,hw]
              exact ⟨rfl,.move 62 900 _ (by omega) (by simp; rfl) fun g=>.done ⟨⟨i + 1,some (g,[m.w])⟩,⟨hi,by dsimp only; rw [hst]; simp [acM]⟩,by simp [acW],by simp [acI,ints_cons,ints_nil,rn_pure _ (ci_pure c)],by dsimp only; omega⟩⟩
            · have hle : A2.length + 1 + 1 ≤ 274877906944:=by simp at hl2; omega
              simp [ints_nil,ints_cons,hi,hm,Md.v,hYd,hw,hle]
              exact ⟨rfl,.move 54 900 _ (by omega) (by simp; rfl) fun g=>.done ⟨⟨i + 1,some (g,u :: A2 ++ [m.w])⟩,⟨hi,by dsimp only; rw [hst]; simp [acM]⟩,by simp [acW],by simp [acI,ints_cons,ints_nil,ints_app,map_rn_pure (ints_pure A2),rn_pure _ (ci_pure c)],by dsimp only; omega⟩⟩
          · have hle : A2.length + 1 + Yd.length ≤ 274877906944:=by simp at hl2; omega
            have hle2 : A2.length + 1 + Yd.length + 1 ≤ 274877906944:=by simp at hl2; omega
            simp [ints_nil,ints_cons,hi,hm,Md.v,hYd,hw,hle,hle2]
            exact ⟨by omega,rfl,.move 47 900 _ (by omega) (by simp; rfl) fun g=>.done ⟨⟨i + 1,some (g,u :: A2 ++ (Yd ++ [m.w]))⟩,⟨hi,by dsimp only; rw [hst]; simp [acM]⟩,by simp [acW]; omega,by simp [acI,ints_cons,ints_nil,ints_app,map_rn_pure (ints_pure A2),map_rn_pure (ints_pure Yd),rn_pure _ (ci_pure c)]; rw [List.take_of_length_le (by simp; omega)]; simp,by dsimp only; omega⟩⟩
        | some gl=>
          obtain ⟨g,l⟩:=gl
          simp only [acM] at hl2 hst
          have hle1 : l.length + Ya.length ≤ 274877906944:=by omega
          have hle2 : l.length + Ya.length + Yd.length ≤ 274877906944:=by omega
          have hle3 : l.length + Ya.length + Yd.length + 1 ≤ 274877906944:=by omega
          simp [acW,acI,hi,hm,Md.v,hYa,hYd,hw,hle1,hle2,hle3]
          intro gm
          exact ⟨rfl,.done ⟨⟨i + 1,some (g + 1 + 1 + 1,l ++ (Ya ++ (Yd ++ [m.w])))⟩,⟨hi,by dsimp only [acM]; rw [hst]⟩,by simp [acW]; omega,by simp [acI,ints_app,ints_cons,ints_nil,List.take_of_length_le]; rw [List.take_of_length_le (by simp; omega)]; simp,by dsimp only; omega⟩⟩
      · have hi : i = c.m.length:=by have:=of_decide_eq_false hb; omega
        subst i
        rw [List.take_length,← hobs] at h2
        simp [show c.n.length ≤ 549755813888 by omega,boolsV_rep]
        intro gf5
        generalize gf5 66 = g66
        cases acc with
        | none=>
          simp only [acM] at h2
          refine LoopP.of (X:=Unit) (fun _=>[(7,.int .i64 0),(6,.ref 66 g66 0 c.n.length (some c.n.length)),(3,.sl [] (some 0))]) (fun _=>[(66,.row g66 1 (boolsV c.n.length fun _=>false))]) (fun _=>True) (fun _=>0) () trivial (by simp [acW]) (by simp) ?_
          rintro ⟨⟩ -
          simp [map_frz_pure (boolsV_pure _ _)]
          rw [List.take_of_length_le (by simp)]
          exact boolsV_congr fun j _=>by simp [ptB,← h2]
        | some gl=>
          obtain ⟨g,l⟩:=gl
          simp only [acM] at h2
          subst h2
          refine LoopP.of (X:=Nat) (fun k=>[(7,natV k),(6,.ref 66 g66 0 c.n.length (some c.n.length)),(3,.ref 900 g 0 (obsL c).length none),(1,.ptr 1 g1 0 0)]) (fun k=>[(66,.row g66 1 (boolsV c.n.length fun j=>decide ((j : Int) ∈ (obsL c).take k))),(1,.row g1 4 [c.v]),(900,.row g 1 (ints (obsL c)))])
            (fun k=>k ≤ (obsL c).length) (fun k=>(obsL c).length - k) 0 (by simp) (by simp [natV,acW]) (by simp [acI]) ?_
          intro k h1
          simp [natV]
          refine BrB.of (fun hb=>?_) (fun hb=>?_)
          · have hk : k < (obsL c).length:=of_decide_eq_true hb
            have hw:=wrapN k (by omega)
            obtain ⟨z,hz⟩ : ∃ z,(obsL c)[k] = z:=⟨_,rfl⟩
            have htk : (obsL c).take (k + 1) = (obsL c).take k ++ [z]:=by rw [List.take_succ_eq_append_getElem hk,hz]
            simp [hk,ints_getE,hz]
            intro gm
            first | refine ⟨_,_,_,.pure (ris2_c c z) (by simp),?_⟩ | refine ⟨_,⟨_,_,.pure (ris2_c c z) (by simp)⟩,?_⟩ | refine ⟨_,_,⟨_,.pure (ris2_c c z) (by simp)⟩,?_⟩
            simp
            refine BrB.of (fun hv=>?_) (fun hv=>?_)
            · simp [hw]
              refine ⟨k + 1,hk,by simp,boolsV_congr fun j hj=>?_,by omega⟩
              have : ¬ (j : Int) = z:=fun e=>by subst e; simp [outB] at hv; omega
              simp [htk,this]
            · obtain ⟨j,rfl⟩ : ∃ j : Nat,z = (j : Int):=⟨z.toNat,by simp [outB] at hv; omega⟩
              have hj : j < c.n.length:=by simp [outB] at hv; omega
              simp [hw,hk,ints_getE,hz,hj,boolsV_get,boolsV_set]
              refine ⟨k + 1,hk,by simp,boolsV_congr fun x hx=>?_,by omega⟩
              show (if x = j then true else _) = _
              by_cases e : x = j
              · subst e; simp [htk]
              · have : ¬ (x : Int) = (j : Int):=by omega
                simp [htk,e,this]
          · have hk : k = (obsL c).length:=by have:=of_decide_eq_false hb; omega
            subst hk
            simp [map_frz_pure (boolsV_pure _ _)]
            rw [List.take_of_length_le (by simp)]
            exact boolsV_congr fun j _=>rfl
end Go.Proofs.YtcmapbecfpcnfaaDoor
