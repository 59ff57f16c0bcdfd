/- Cones: contracts of valid, set, observed, Points. Conditions: none. -/
import Derived.Test.YtcmapbecfpcnfaaDoorK2
import Derived.Test.YtcmapbecfpcnfaaDoorXK
import Derived.Test.YtcmapbecfpcnfaaDoorNet10
import Derived.Test.YtcmapbecfpcnfaaDoorNet17
set_option linter.unusedSimpArgs false
set_option linter.unusedVariables false
namespace Go.Proofs.YtcmapbecfpcnfaaDoor
open Go
def boolsV (n : Nat) (S : Nat→Bool) : List V:=tab n fun i=>.bool (S i)
@[simp] theorem boolsV_length (n : Nat) (S : Nat→Bool) : (boolsV n S).length = n:=by simp [boolsV,tab]
theorem boolsV_get (n : Nat) (S : Nat→Bool) (i : Nat) (h : i < (boolsV n S).length) : (boolsV n S)[i] = .bool (S i):=by simp only [boolsV]; rw [tab_get]
theorem boolsV_set (n : Nat) (S : Nat→Bool) (i : Nat) (b : Bool) : (boolsV n S).set i (.bool b) = boolsV n (upd1 S i b):=by
  unfold boolsV
  rw [tab_set]
  congr 1
  funext j
  show (if j = i then _ else _) = V.bool (if j = i then _ else _)
  split <;> rfl
theorem boolsV_rep (n : Nat) : List.replicate n (V.bool false) = boolsV n fun _=>false:=by
  refine List.ext_getElem (by simp) fun i h1 h2=>?_
  rw [boolsV_get,List.getElem_replicate]
theorem boolsV_pure (n : Nat) (S : Nat→Bool) : V.pureL (boolsV n S) = true:=by
  rw [V.pureL_iff]
  intro v hv
  unfold boolsV tab at hv
  obtain ⟨j,-,rfl⟩:=List.mem_map.1 hv
  rfl
theorem boolsV_congr {n : Nat} {S T : Nat→Bool} (h : ∀ i,i < n→S i = T i) : boolsV n S = boolsV n T:=tab_congr fun i hi=>by rw [h i hi]
theorem VLe.tup {a b : List V} (h : AllLe a b) : VLe (.tup a) (.tup b):=fun G M r hr=>by
  obtain ⟨h1,h2⟩:=h.spec
  cases hr with
  | tup _ arr hs q=>exact .tup b arr (by rw [hs,h1]) (fun i hi=>h2 i G M _ (q i (by omega)))
theorem clip_c (l : List Nat) (b g : Nat) (h : Hp) (hb : lk h b = some (.row g 1 (natsV l))) (K : V→Hp→Prop) (hk : ∃ h2,Sub h2 h∧K (.ref b g 0 l.length (some l.length)) h2) : ICallO Tryd.prog gl0 56 [.ref b g 0 l.length none] h K:=by
  refine CallO.of_W ok56 rfl ?_
  simp [i56,x56,hb]
  exact .done (by simp; exact hk)
theorem clip0_c : PureC Tryd.prog gl0 56 [.nil] (.sl [] (some 0)):=by
  refine PureC.of_W 1 ok56 rfl ?_
  simp [i56,x56]
structure AcSt where
  i : Nat
  a : Option (Nat × List V)
theorem set_c (n : Nat) (hn : n < 1000000) (D : Nat→Bool) (cap : Option Nat) : PureC Tryd.prog gl0 51 [.sl (boolsV n D) cap] (.sl (natsV (fL n D)) (some (fL n D).length)):=by
  refine PureC.of_W 1 ok51 rfl ?_
  simp [i51,x51]
  refine LoopP.of (X:=AcSt) (fun z=>[(8,natV z.i),(7,natV n),(6,.sl (boolsV n D) cap),(3,accV 17 z.a)]) (fun z=>accH 17 1 z.a)
    (fun z=>z.i ≤ n∧(z.a = none∨accL z.a ≠ [])∧accL z.a = natsV (fL z.i D)) (fun z=>n - z.i) ⟨0,none⟩ ⟨by simp,by simp,by simp [accL,fL,natsV]⟩ (by simp [natV,accV]) (by simp [accH]) ?_
  rintro ⟨i,acc⟩ ⟨h1,h2,h3⟩
  dsimp only at h1 h2 h3 ⊢
  simp [natV]
  have hll : (accL acc).length ≤ i:=by rw [h3,natsV_length]; exact fL_len i D
  refine BrB.of (fun hb=>?_) (fun hb=>?_)
  · have hi : i < n:=of_decide_eq_true hb
    have hw:=wrapN i (by omega)
    simp [hi,boolsV_get]
    have hs:=fL_succ i D
    cases hD : D i with
    | false=>
      simp [hD] at hs
      simp [hw]
      exact ⟨⟨i + 1,acc⟩,⟨hi,h2,by dsimp only; rw [hs]; exact h3⟩,⟨rfl,rfl⟩,by cases acc <;> simp [accH],by dsimp only; omega⟩
    | true=>
      simp [hD] at hs
      have hn2 : natsV (fL (i + 1) D) = natsV (fL i D) ++ [.int .i64 (i : Int)]:=by rw [hs]; simp [natsV,natV]
      cases acc with
      | none=>
        simp only [accL] at h3
        simp [accV,accH,hw]
        refine fun gf1 gf2=>⟨⟨i + 1,some (gf2 17,[.int .i64 i])⟩,⟨hi,by simp [accL],by dsimp only; rw [hn2,← h3]; rfl⟩,by simp,by simp,by dsimp only; omega⟩
      | some gl=>
        obtain ⟨g,l⟩:=gl
        simp only [accL] at h3 hll
        have hle : l.length + 1 ≤ 274877906944:=by omega
        simp [accV,accH,hw,hle]
        refine fun gf1 gf2=>⟨⟨i + 1,some (gf2 17,l ++ [.int .i64 i])⟩,⟨hi,by simp [accL],by dsimp only [accL]; rw [hn2,← h3]⟩,by simp,by simp,by dsimp only; omega⟩
  · have hi : i = n:=by have:=of_decide_eq_false hb; omega
    subst hi
    cases acc with
    | none=>
      simp only [accL] at h3
      have h4 : fL i D = []:=by
        cases h : fL i D with
        | nil=>rfl
        | cons x l=>rw [h] at h3; cases h3
      simp [accV]
      refine CallO.pure clip0_c (by simp) ?_
      simp [h4,natsV]
    | some gl=>
      obtain ⟨g,l⟩:=gl
      simp only [accL] at h3
      subst h3
      simp [accV,accH]
      refine clip_c (fL i D) 17 g _ (by simp) _ ⟨[(17,.row g 1 (natsV (fL i D)))],by simp,?_⟩
      simp [map_frz_pure (natsV_pure _)]
      exact List.take_of_length_le (by simp)
theorem outK_c (c : Ci) (i : Int) : PureC Tryd.prog gl0 108 [.int .i64 i,.iptr c.v 0] (.bool (outB c.n.length i)):=by
  refine PureC.of_W 2 ok108 rfl ?_
  simp [i108,x108,Ci.v]
  refine BrB.of (fun h=>?_) (fun h=>?_)
  · simp [h,outB]
  · simp [h,outB]
theorem valid_c (c : Ci) (l : List Int) (cap : Option Nat) (hl : l.length < 1000000000000) : PureC Tryd.prog gl0 78 [c.v,.sl (ints l) cap] (.bool (!l.any (outB c.n.length))):=by
  refine PureC.of_W 2 ok78 rfl ?_
  simp [i78,x78]
  intro gf
  refine CallO.borrow 2 (containsFunc_c l cap 108 [.iptr c.v 0] (outB c.n.length) (fun x _=>outK_c c x) (by simp) hl) (by simp [mapRL_pure,frz,V.mapR,V.mapRL,lk,mapR_pure _ (ci_pure c),ints_pure]) rfl ?_
  simp
def markF (g1 g3 : Nat) : V:=.fn 81 [] [.ptr 1 g1 0 0,.ptr 3 g3 0 0]
def obH (c : Ci) (g1 g3 gB : Nat) (D : Nat→Bool) : Hp:=[(12,.row gB 1 (boolsV c.n.length D)),(3,.row g3 1 [.ref 12 gB 0 c.n.length (some c.n.length)]),(1,.row g1 4 [c.v])]
theorem mark_c (c : Ci) (hn : c.n.length < 1000000) (l : List Int) (cap : Option Nat) (hl : l.length < 1000000000) (g1 g3 gB : Nat) (D : Nat→Bool) (K : V→Hp→Prop)
    (hk : K (.tup []) (obH c g1 g3 gB fun i=>D i || decide ((i : Int) ∈ l))) : ICallO Tryd.prog gl0 81 [.sl (ints l) cap,.ptr 1 g1 0 0,.ptr 3 g3 0 0] (obH c g1 g3 gB D) K:=by
  refine CallO.of_W ok81 rfl ?_
  simp [i81,x81,obH]
  refine LoopP.of (X:=Nat) (fun i=>[(8,natV i),(7,natV l.length),(6,.sl (ints l) cap),(1,.ptr 1 g1 0 0),(2,.ptr 3 g3 0 0)]) (fun k=>obH c g1 g3 gB fun i=>D i || decide ((i : Int) ∈ l.take k))
    (fun i=>i ≤ l.length) (fun i=>l.length - i) 0 (by simp) (by simp [natV]) (by simp [obH]) ?_
  intro k h1
  simp [natV,obH]
  refine BrB.of (fun hb=>?_) (fun hb=>?_)
  · have hk' : k < l.length:=of_decide_eq_true hb
    have hw:=wrapN k (by omega)
    have htk : l.take (k + 1) = l.take k ++ [l[k]]:=by rw [List.take_succ_eq_append_getElem hk']
    obtain ⟨m,hm⟩ : ∃ m,l[k] = m:=⟨_,rfl⟩
    rw [hm] at htk
    simp [hk',ints_getE,hm]
    intro gf
    have hv:=valid_c c [m] (some 1) (by simp)
    simp [ints] at hv
    refine CallO.borrow 1 hv (by simp [frz,V.mapR,V.mapRL,lk,mapR_pure _ (ci_pure c)]) rfl ?_
    simp
    refine BrB.of (fun h2=>?_) (fun h2=>?_)
    · simp [hw]
      refine ⟨k + 1,hk',by simp,⟨?_,by omega⟩⟩
      refine boolsV_congr fun i hi=>?_
      have : (i : Int) ≠ m:=fun e=>by
        subst e; simp [outB] at h2; omega
      simp [htk,this]
    · obtain ⟨j,hj⟩ : ∃ j : Nat,m = (j : Int):=⟨m.toNat,by simp [outB] at h2; omega⟩
      subst hj
      have hjn : j < c.n.length:=by simp [outB] at h2; omega
      simp [hw,hjn,boolsV_set,boolsV_get]
      refine ⟨k + 1,hk',by simp,⟨?_,by omega⟩⟩
      refine boolsV_congr fun i hi=>?_
      show (if i = j then true else _) = _
      by_cases e : i = j
      · subst e; simp [htk]
      · have : ¬ (i : Int) = (j : Int):=by omega
        simp [htk,e,this]
  · have hk' : k = l.length:=by have:=of_decide_eq_false hb; omega
    subst hk'
    simp
    exact .done ⟨_,by simp [obH],hk⟩
end Go.Proofs.YtcmapbecfpcnfaaDoor
namespace Go.Proofs.YtcmapbecfpcnfaaDoor
open Go
def ids (k : Int) : List Nd→Nat→List Nat
  | [],_=>[]
  | n :: r,i=>if n.k = k then i :: ids k r (i + 1) else ids k r (i + 1)
theorem ofLs_ids (k : Int) : ∀ (l : List Nd) (i : Nat),ofLs [k] l i = natsV (ids k l i)
  | [],_=>rfl
  | n :: r,i=>by
    simp only [ofLs,ids,List.mem_singleton]
    split <;> simp [ofLs_ids k r (i + 1),natsV,natV]
theorem ids_lt (k : Int) : ∀ (l : List Nd) (i x : Nat),x ∈ ids k l i→i ≤ x∧x < i + l.length
  | [],i,x,h=>by simp [ids] at h
  | n :: r,i,x,h=>by
    simp only [ids] at h
    split at h
    · rcases List.mem_cons.1 h with rfl | h
      · simp
      · have:=ids_lt k r (i + 1) x h; simp; omega
    · have:=ids_lt k r (i + 1) x h; simp; omega
theorem ids_len (k : Int) : ∀ (l : List Nd) (i : Nat),(ids k l i).length ≤ l.length
  | [],_=>by simp [ids]
  | n :: r,i=>by
    have:=ids_len k r (i + 1)
    simp only [ids]
    split <;> simp <;> omega
theorem ids_flat (k : Int) (f : Nd→List Int) : ∀ (l : List Nd) (i : Nat) (g : Nat→Nd),(∀ j (h : j < l.length),g (i + j) = l[j])→(ids k l i).flatMap (fun x=>f (g x)) = l.flatMap fun x=>if x.k = k then f x else []
  | [],_,_,_=>rfl
  | n :: r,i,g,h=>by
    have h0 : g i = n:=h 0 (by simp)
    have ih:=ids_flat k f r (i + 1) g fun j hj=>by
      have:=h (j + 1) (by simpa using hj)
      simpa [Nat.add_assoc,Nat.add_comm 1 j] using this
    simp only [ids]
    by_cases e : n.k = k
    · simp [e,h0,ih]
    · simp [e,ih]
def mkD (D : Nat→Bool) (l : List Int) : Nat→Bool:=fun i=>D i || decide ((i : Int) ∈ l)
theorem mkD_app (D : Nat→Bool) (a b : List Int) : mkD (mkD D a) b = mkD D (a ++ b):=by
  funext i
  simp [mkD,Bool.or_assoc]
theorem mark2_c (c : Ci) (hn : c.n.length < 1000000) (l : List Int) (cap : Option Nat) (hl : l.length < 1000000000) (g1 g3 gB : Nat) (D : Nat→Bool) (h : Hp) (hs : Sub (obH c g1 g3 gB D) h) (K : V→Hp→Prop)
    (hk : K (.tup []) (obH c g1 g3 gB (mkD D l))) : ICallO Tryd.prog gl0 81 [.sl (ints l) cap,.ptr 1 g1 0 0,.ptr 3 g3 0 0] h K:=CallO.weaken hs (mark_c c hn l cap hl g1 g3 gB D K hk)
theorem heapIn_ob (c : Ci) (g1 g3 gB : Nat) (D : Nat→Bool) : heapIn [12,3,1] (obH c g1 g3 gB D) = true:=by
  simp [obH,V.inBL_pure _ _ (boolsV_pure _ _),V.inB_pure _ _ (ci_pure c)]
theorem mark3_c (c : Ci) (hn : c.n.length < 1000000) (l : List Int) (cap : Option Nat) (hl : l.length < 1000000000) (g1 g3 gB : Nat) (D : Nat→Bool) (h rest : Hp) (hs : Sub (obH c g1 g3 gB D) h) (hr : Sub rest h) (hrD : (rest.all fun p=>!([12,3,1] : List Nat).contains p.1) = true) (K : V→Hp→Prop)
    (hk : K (.tup []) (obH c g1 g3 gB (mkD D l) ++ rest)) : ICallO Tryd.prog gl0 81 [.sl (ints l) cap,.ptr 1 g1 0 0,.ptr 3 g3 0 0] h K:=
  CallO.lend [12,3,1] (obH c g1 g3 gB D) rest (K0:=fun v h=>v = .tup []∧h = obH c g1 g3 gB (mkD D l)) (mark_c c hn l cap hl g1 g3 gB D _ ⟨rfl,rfl⟩) (by simp [V.inBL_pure _ _ (ints_pure _)]) hs (heapIn_ob c g1 g3 gB D) hr hrD
    (by rintro v h' ⟨rfl,rfl⟩; exact ⟨by simp,heapIn_ob c g1 g3 gB _,hk⟩)
set_option maxHeartbeats 4000000 in
theorem obs_c (c : Ci) (hl : c.lens) : PureC Tryd.prog gl0 57 [c.v] (.sl (boolsV c.n.length (ptB c)) (some c.n.length)):=by
  have hn:=hl.n
  have hst:=statesP_c c hn
  rw [ofLs_ids] at hst
  obtain ⟨S,hS⟩ : ∃ S,ids 14 c.n 0 = S:=⟨_,rfl⟩
  have hflat:=ids_flat 14 Nd.i c.n 0 c.nd fun j hj=>by rw [Nat.zero_add,c.nd_get hj]
  have hSl:=ids_len 14 c.n 0
  have hSm:=ids_lt 14 c.n 0
  rw [hS] at hst hflat hSl hSm
  refine PureC.of_W 1 ok57 rfl ?_
  simp [i57,x57,boolsV_rep]
  intro gf1 gf2
  simp [show c.n.length ≤ 549755813888 by omega]
  intro gf3
  generalize gf1 1 = g1
  generalize gf2 12 = gB
  generalize gf3 3 = g3
  refine mark2_c c hn c.o none hl.o g1 g3 gB (fun _=>false) _ (by simp [obH]) _ ?_
  simp [obH]
  refine CallO.pure hst (by simp) ?_
  simp [natV]
  refine LoopP.of (X:=Nat) (fun k=>[(21,natV k),(20,natV S.length),(19,.sl (natsV S) (some S.length)),(4,markF g1 g3),(3,.ptr 3 g3 0 0),(1,.ptr 1 g1 0 0)])
    (fun k=>obH c g1 g3 gB (mkD (fun _=>false) (c.o ++ (S.take k).flatMap fun x=>(c.nd x).i))) (fun k=>k ≤ S.length) (fun k=>S.length - k) 0 (by simp) (by simp [natV,markF]) (by simp [obH]) ?_
  · intro k h1
    simp [natV,obH,markF]
    refine BrB.of (fun hb=>?_) (fun hb=>?_)
    · have hk : k < S.length:=of_decide_eq_true hb
      have hw:=wrapN k (by omega)
      obtain ⟨m,hm⟩ : ∃ m,S[k] = m:=⟨_,rfl⟩
      have hmN : m < c.n.length:=by have:=hSm m (by rw [← hm]; exact List.getElem_mem hk); omega
      have htk : S.take (k + 1) = S.take k ++ [m]:=by rw [List.take_succ_eq_append_getElem hk,hm]
      obtain ⟨y,hy⟩ : ∃ y,c.n[m] = y:=⟨_,rfl⟩
      have hnd : c.nd m = y:=by rw [c.nd_get hmN,hy]
      simp [hk,natsV_get,hm,hmN,hy,Nd.v]
      refine mark2_c c hn y.i none (hl.i y (by rw [← hy]; exact List.getElem_mem hmN)) g1 g3 gB _ _ (by simp [obH]; rfl) _ ?_
      simp [obH,hw]
      refine ⟨k + 1,hk,rfl,⟨?_,by omega⟩⟩
      rw [mkD_app,htk]
      simp [hnd]
    · have hk : k = S.length:=by have:=of_decide_eq_false hb; omega
      subst hk
      simp [hflat]
      obtain ⟨B,hB⟩ : ∃ B,c.o ++ (c.n.flatMap fun x=>if x.k = 14 then x.i else []) = B:=⟨_,rfl⟩
      rw [hB]
      refine LoopP.of (X:=Nat) (fun k=>[(37,natV k),(36,natV c.m.length),(35,.sl (c.m.map Md.v) none),(4,markF g1 g3),(3,.ptr 3 g3 0 0),(1,.ptr 1 g1 0 0)])
        (fun k=>obH c g1 g3 gB (mkD (fun _=>false) (B ++ (c.m.take k).flatMap fun m=>m.a ++ m.d ++ [m.w]))) (fun k=>k ≤ c.m.length) (fun k=>c.m.length - k) 0 (by simp) (by simp [natV,markF]) (by simp [obH]) ?_
      intro k h1
      simp [natV,obH,markF]
      refine BrB.of (fun hb=>?_) (fun hb=>?_)
      · have hk : k < c.m.length:=of_decide_eq_true hb
        have hw:=wrapN k (by have:=hl.m; omega)
        obtain ⟨m,hm⟩ : ∃ m,c.m[k] = m:=⟨_,rfl⟩
        have htk : c.m.take (k + 1) = c.m.take k ++ [m]:=by rw [List.take_succ_eq_append_getElem hk,hm]
        have hlm:=hl.a m (by rw [← hm]; exact List.getElem_mem hk)
        simp [hk,hm,Md.v]
        intro gf8
        generalize gf8 8 = g8
        refine mark3_c c hn m.a none hlm.1 g1 g3 gB _ _ [(8,.row g8 3 [m.v])] (by simp [obH]; rfl) (by simp [Md.v]) (by simp) _ ?_
        simp [obH,Md.v]
        refine mark3_c c hn m.d none hlm.2 g1 g3 gB _ _ [(8,.row g8 3 [m.v])] (by simp [obH]; rfl) (by simp [Md.v]) (by simp) _ ?_
        simp [obH,Md.v]
        intro gf9
        have hw1:=mark2_c c hn [m.w] (some 1) (by simp) g1 g3 gB
        simp only [ints,List.map_cons,List.map_nil] at hw1
        refine CallO.frzB 52 (by simp; exact ⟨rfl,rfl,rfl⟩) (by simp) ?_
        simp [fzV,V.mapR,V.mapRL,fzp,fzf,fzH,Blk.fz,mapR_pure _ (ci_pure c),mapRL_pure,boolsV_pure]
        refine hw1 (mkD (mkD (mkD (fun x=>false) (B ++ List.flatMap (fun m=>m.a ++ (m.d ++ [m.w])) (List.take k c.m))) m.a) m.d) _ ?hs _ ?_
        case hs=>simp [obH,map_fzV (boolsV_pure _ _)]
        simp [obH,hw]
        refine ⟨k + 1,hk,rfl,⟨?_,by omega⟩⟩
        rw [mkD_app,mkD_app,mkD_app,htk]
        simp
      · have hk : k = c.m.length:=by have:=of_decide_eq_false hb; omega
        subst hk
        simp [map_frz_pure (boolsV_pure _ _)]
        rw [List.take_of_length_le (by simp)]
        refine boolsV_congr fun i _=>?_
        subst hB
        simp [mkD,ptB,obsL]
theorem points_c (c : Ci) (hl : c.lens) : PureC Tryd.prog gl0 26 [c.v] (.sl (natsV (fL c.n.length (ptB c))) (some (fL c.n.length (ptB c)).length)):=by
  refine PureC.of_W 1 ok26 rfl ?_
  simp [i26,x26]
  intro gf
  refine CallO.pure (obs_c c hl) (by simp) ?_
  simp
  refine CallO.pure (set_c _ hl.n _ _) (by simp [boolsV_pure]) ?_
  simp [natsV_pure,mapRL_pure]
theorem sources_own (c : Ci) (hn : c.n.length < 1000000) : PureC Tryd.prog gl0 53 [c.v] (.sl (tab c.n.length fun j=>if combB (c.nd j).k = true then .sl (ints (c.nd j).i) none else .nil) (some c.n.length)):=by
  refine PureC.of_W 1 ok53 rfl ?_
  simp [i53,x53]
  intro gf1 gf2
  generalize gf1 1 = g1
  generalize gf2 9 = g9
  have hrep : List.replicate c.n.length V.nil = tab c.n.length fun _=>V.nil:=by
    refine List.ext_getElem (by simp [tab]) fun i h1 h2=>?_
    rw [tab_get,List.getElem_replicate]
  simp [show c.n.length ≤ 549755813888 by omega,hrep]
  refine LoopP.of (X:=Nat) (fun k=>[(13,natV k),(12,natV c.n.length),(11,.sl (c.n.map Nd.v) none),(3,.ref 9 g9 0 c.n.length (some c.n.length)),(1,.ptr 1 g1 0 0)])
    (fun k=>[(9,.row g9 1 (tab c.n.length fun j=>if j < k∧combB (c.nd j).k = true then .sl (ints (c.nd j).i) none else .nil)),(1,.row g1 4 [c.v])])
    (fun k=>k ≤ c.n.length) (fun k=>c.n.length - k) 0 (by simp) (by simp [natV]) (by simp) ?_
  intro k h1
  simp [natV]
  refine BrB.of (fun hb=>?_) (fun hb=>?_)
  · have hk : k < c.n.length:=of_decide_eq_true hb
    have hw:=wrapN k (by omega)
    obtain ⟨y,hy⟩ : ∃ y,c.n[k] = y:=⟨_,rfl⟩
    have hnd : c.nd k = y:=by rw [c.nd_get hk,hy]
    simp [hk,hy,Nd.v]
    intro gf3
    refine CallO.pure (rcomb2_c y.k) (by simp) ?_
    simp
    refine BrB.of (fun hc=>?_) (fun hc=>?_)
    · simp [hk,hw,tab_set,tab_get]
      refine ⟨k + 1,hk,by simp,tab_congr fun j hj=>?_,by omega⟩
      show (if j = k then _ else _) = _
      by_cases e : j = k
      · subst e; simp [hnd,hc]
      · have e2 : (j < k + 1)↔(j < k):=by omega
        simp [e,e2]
    · simp [hw]
      refine ⟨k + 1,hk,rfl,tab_congr fun j hj=>?_,by omega⟩
      by_cases e : j = k
      · subst e; simp [hnd,hc]
      · have e2 : (j < k + 1)↔(j < k):=by omega
        simp [e2]
  · have hk : k = c.n.length:=by have:=of_decide_eq_false hb; omega
    subst hk
    have hp : V.pureL (tab c.n.length fun j=>if j < c.n.length∧combB (c.nd j).k = true then V.sl (ints (c.nd j).i) none else V.nil) = true:=by
      rw [V.pureL_iff]
      intro v hv
      unfold tab at hv
      obtain ⟨j,-,rfl⟩:=List.mem_map.1 hv
      split
      · simp [V.pure,ints_pure]
      · rfl
    simp [map_frz_pure hp]
    rw [List.take_of_length_le (by simp [tab])]
    exact tab_congr fun j hj=>by simp [hj]
end Go.Proofs.YtcmapbecfpcnfaaDoor
namespace Go.Proofs.YtcmapbecfpcnfaaDoor
open Go
def rdV (l : List Nat) : V:=if l = [] then .nil else .sl (natsV l) none
theorem rdV_pure (l : List Nat) : (rdV l).pure = true:=by
  unfold rdV; split
  · rfl
  · simp [V.pure,natsV_pure]
def rdF (c : Ci) (l : List (Nat × Nat)) : List Nat:=(l.filter fun p=>combB (c.nd p.1).k).map (·.1)
theorem rdF_snoc (c : Ci) (l : List (Nat × Nat)) (p : Nat × Nat) : rdF c (l ++ [p]) = rdF c l ++ if combB (c.nd p.1).k = true then [p.1] else []:=by
  unfold rdF
  rw [List.filter_append,List.map_append]
  congr 1
  by_cases h : combB (c.nd p.1).k = true <;> simp [h]
def rdRow (c : Ci) (n k : Nat) (x : V) : List V:=tab n fun j=>if j < k then rdV (rdL c j) else if j = k then x else .nil
theorem rdRow_get (c : Ci) (n k : Nat) (x : V) (hk : k < n) (h : k < (rdRow c n k x).length) : (rdRow c n k x)[k] = x:=by
  simp only [rdRow]; rw [tab_get]; simp
theorem rdRow_set (c : Ci) (n k : Nat) (x y : V) : (rdRow c n k x).set k y = rdRow c n k y:=by
  unfold rdRow
  rw [tab_set]
  refine tab_congr fun j hj=>?_
  show (if j = k then y else _) = _
  by_cases e : j = k
  · subst e; simp
  · simp [e]
@[simp] theorem rdRow_length (c : Ci) (n k : Nat) (x : V) : (rdRow c n k x).length = n:=by simp [rdRow,tab]
theorem rdRow_next (c : Ci) (n k : Nat) (x : V) (hx : x = rdV (rdL c k)) : rdRow c n k x = rdRow c n (k + 1) .nil:=by
  subst hx
  refine tab_congr fun j hj=>?_
  by_cases e : j = k
  · subst e; simp
  · by_cases e2 : j < k
    · simp [e2,show j < k + 1 by omega]
    · simp [e,e2,show ¬ j < k + 1 by omega]
theorem rdRow_fz (c : Ci) (n k b g : Nat) (es : List V) (x : V) : (rdRow c n k x).map (fzV b g es) = rdRow c n k (fzV b g es x):=by
  unfold rdRow tab
  rw [List.map_map]
  refine List.map_congr_left fun j _=>?_
  show fzV b g es (if j < k then _ else _) = _
  by_cases e2 : j < k
  · simp only [e2,if_true]; exact fzV_pure (rdV_pure _)
  · by_cases e : j = k
    · simp [e]
    · simp only [e,e2,if_false]; exact fzV_pure rfl
theorem rdRow_pure (c : Ci) (n : Nat) : V.pureL (rdRow c n n .nil) = true:=by
  rw [V.pureL_iff]
  intro v hv
  unfold rdRow tab at hv
  obtain ⟨j,-,rfl⟩:=List.mem_map.1 hv
  split
  · exact rdV_pure _
  · split <;> rfl
theorem fanVs_pure (c : Ci) : V.pureL (fanVs c) = true:=by
  rw [V.pureL_iff]
  intro v hv
  obtain ⟨j,-,rfl⟩:=List.mem_map.1 hv
  show V.pureL (rfanL (j : Int) c.n 0) = true
  rw [rfanL_P]
  exact pureL_map (fun _=>rfl) _
structure RdSt where
  i : Nat
  a : Option (Nat × List V)
set_option maxHeartbeats 4000000 in
theorem readers_own (c : Ci) (hv : c.val) (hn : c.n.length < 1000000) : PureC Tryd.prog gl0 54 [c.v] (.sl (tab c.n.length fun j=>rdV (rdL c j)) (some c.n.length)):=by
  have hin : ∀ n ∈ c.n,n.i.length < 17:=fun x hx=>by
    obtain ⟨i,hi,rfl⟩:=List.getElem_of_mem hx
    have:=hv.l i hi
    rw [c.nd_get hi] at this; omega
  have hq : ∀ j : Int,(rfanL j c.n 0).length ≤ 1000000000:=fun j=>by
    have h1:=rfanL_le j 17 c.n 0 hin
    omega
  have hfan:=fanout_c c hn (fun x hx=>by have:=hin x hx; omega) hq
  have hN : (fanVs c).length = c.n.length:=by simp [fanVs]
  refine PureC.of_W 1 ok54 rfl ?_
  simp [i54,x54]
  intro gf1 gf2
  generalize gf1 1 = g1
  generalize gf2 11 = g11
  have hrep : List.replicate c.n.length V.nil = rdRow c c.n.length 0 .nil:=by
    refine List.ext_getElem (by simp) fun i h1 h2=>?_
    simp only [rdRow]
    rw [tab_get,List.getElem_replicate]
    simp
  simp [show c.n.length ≤ 549755813888 by omega,hrep]
  refine CallO.pure hfan (by simp) ?_
  simp [hN]
  refine LoopP.ofM (X:=Nat) (fun k=>[(15,natV k),(14,natV c.n.length),(13,.sl (fanVs c) (some c.n.length)),(3,.ref 11 g11 0 c.n.length (some c.n.length)),(1,.ptr 1 g1 0 0)])
    (fun k=>[(11,.row g11 1 (rdRow c c.n.length k .nil)),(1,.row g1 4 [c.v])])
    (fun k=>k ≤ c.n.length) (fun k=>c.n.length - k) (.done ⟨0,by simp,by simp [natV],by simp⟩) ?_
  intro k h1
  simp [natV]
  refine BrB.of (fun hb=>?_) (fun hb=>?_)
  · have hk : k < c.n.length:=of_decide_eq_true hb
    have hw:=wrapN k (by omega)
    obtain ⟨P,hP⟩ : ∃ P,fanP (k : Int) c.n 0 = P:=⟨_,rfl⟩
    have hPl : P.length ≤ 1000000000:=by
      have:=hq (k : Int)
      rw [rfanL_P,hP,List.length_map] at this; exact this
    have hPm : ∀ p ∈ P,p.1 < c.n.length:=fun p hp=>by
      have:=fanP_mem (k : Int) c.n 0 p (by rw [hP]; exact hp)
      omega
    have hget : (fanVs c)[k]'(by rw [hN]; exact hk) = linesV (P.map lineP):=by
      simp only [fanVs,List.getElem_map,List.getElem_range]
      rw [rfanL_P,hP]
    simp [hk,hN,hget,linesV]
    refine LoopP.of (X:=RdSt) (fun z=>[(22,natV z.i),(21,natV P.length),(20,.sl (P.map lineP) (some P.length)),(4,natV k),(15,natV k),(14,natV c.n.length),(13,.sl (fanVs c) (some c.n.length)),(3,.ref 11 g11 0 c.n.length (some c.n.length)),(1,.ptr 1 g1 0 0)])
      (fun z=>[(11,.row g11 1 (rdRow c c.n.length k (accV 43 z.a))),(1,.row g1 4 [c.v])] ++ accH 43 1 z.a)
      (fun z=>z.i ≤ P.length∧(z.a = none∨accL z.a ≠ [])∧accL z.a = natsV (rdF c (P.take z.i))) (fun z=>P.length - z.i) ⟨0,none⟩ ⟨by simp,by simp,by simp [accL,rdF,natsV]⟩ (by simp [natV]) (by simp [accH,accV]) ?_
    rintro ⟨i,acc⟩ ⟨q1,q2,q3⟩
    dsimp only at q1 q2 q3 ⊢
    simp [natV]
    have hll : (accL acc).length ≤ i:=by
      rw [q3,natsV_length]
      unfold rdF
      rw [List.length_map]
      refine Nat.le_trans (List.length_filter_le _ _) ?_
      simp; omega
    refine BrB.of (fun hb2=>?_) (fun hb2=>?_)
    · have hi : i < P.length:=of_decide_eq_true hb2
      have hwi:=wrapN i (by omega)
      obtain ⟨p,hp⟩ : ∃ p,P[i] = p:=⟨_,rfl⟩
      have hpN:=hPm p (by rw [← hp]; exact List.getElem_mem hi)
      have htk : P.take (i + 1) = P.take i ++ [p]:=by rw [List.take_succ_eq_append_getElem hi,hp]
      have hsn:=rdF_snoc c (P.take i) p
      rw [← htk] at hsn
      obtain ⟨y,hy⟩ : ∃ y,c.n[p.1] = y:=⟨_,rfl⟩
      have hnd : c.nd p.1 = y:=by rw [c.nd_get hpN,hy]
      rw [hnd] at hsn
      simp [hi,hp,lineP,lineV]
      intro gf7
      generalize gf7 7 = g7
      simp [hpN,hy,Nd.v]
      refine CallO.pure (rcomb2_c y.k) (by simp) ?_
      simp
      refine BrB.of (fun hc=>?_) (fun hc=>?_)
      · rw [if_pos hc] at hsn
        have hn2 : natsV (rdF c (P.take (i + 1))) = natsV (rdF c (P.take i)) ++ [.int .i64 (p.1 : Int)]:=by rw [hsn]; simp [natsV,natV]
        cases acc with
        | none=>
          simp only [accL] at q3
          simp [accV,accH,hk,rdRow_get,rdRow_set,hwi]
          intro gm
          exact ⟨rfl,⟨i + 1,some (gm 43,[.int .i64 (p.1 : Int)])⟩,⟨hi,by simp [accL],by dsimp only [accL]; rw [hn2,← q3]; rfl⟩,by simp,by simp [accV],by dsimp only; omega⟩
        | some gl=>
          obtain ⟨g,l⟩:=gl
          simp only [accL] at q3 hll
          have hle : l.length + 1 ≤ 274877906944:=by omega
          simp [accV,accH,hk,rdRow_get,rdRow_set,hwi,hle]
          intro gm
          exact ⟨rfl,⟨i + 1,some (g + 1,l ++ [.int .i64 (p.1 : Int)])⟩,⟨hi,by simp [accL],by dsimp only [accL]; rw [hn2,← q3]⟩,by simp,by simp [accV],by dsimp only; omega⟩
      · rw [if_neg (by simp [hc]),List.append_nil] at hsn
        simp [hwi]
        exact ⟨⟨i + 1,acc⟩,⟨hi,q2,by dsimp only; rw [hsn]; exact q3⟩,by simp,by cases acc <;> simp [accH],by dsimp only; omega⟩
    · have hi : i = P.length:=by have:=of_decide_eq_false hb2; omega
      subst hi
      rw [List.take_length] at q3
      have hrl : rdF c P = rdL c k:=by unfold rdF rdL; rw [hP]
      rw [hrl] at q3
      simp [hw]
      cases acc with
      | none=>
        have h0 : rdL c k = []:=by
          simp only [accL] at q3
          cases h : rdL c k with
          | nil=>rfl
          | cons x l=>rw [h] at q3; cases q3
        refine .done ⟨k + 1,hk,by simp,?_,by omega⟩
        simp [accV,accH]
        exact rdRow_next c c.n.length k .nil (by simp [rdV,h0])
      | some gl=>
        obtain ⟨g,l⟩:=gl
        simp only [accL] at q3
        subst q3
        have hne : rdL c k ≠ []:=fun e=>by rcases q2 with q2 | q2 <;> simp [accL,e,natsV] at q2
        simp [accV,accH]
        refine .frz (g:=g) (sz:=1) (es:=natsV (rdL c k)) 43 (by simp) (natsV_pure _) (.done ⟨k + 1,hk,?_,?_,by omega⟩)
        · simp [fzF,fzV,V.mapR,fzf,fzp,mapRL_pure,V.pureL]
          exact mapRL_pure _ (fanVs_pure c)
        · simp [fzH,Blk.fz,rdRow_fz,fzV_pure (ci_pure c)]
          refine rdRow_next c c.n.length k _ ?_
          simp [fzV,V.mapR,fzf,rdV,hne]
          exact List.take_of_length_le (by simp)
  · have hk : k = c.n.length:=by have:=of_decide_eq_false hb; omega
    subst hk
    simp [map_frz_pure (rdRow_pure _ _)]
    rw [List.take_of_length_le (by simp)]
    exact tab_congr fun j hj=>by simp [hj]
def edV (e : Nat→List Nat) (j : Nat) : V:=.sl (natsV (e j)) none
theorem tab_le {n : Nat} {f g : Nat→V} {c : Option Nat} (h : ∀ j,j < n→CellsLe (f j) (g j)) : VLe (.sl (tab n f) c) (.sl (tab n g) c):=by
  refine .slc (by simp [tab]) fun i=>?_
  by_cases hi : i < n
  · simp only [List.getD_eq_getElem?_getD]
    rw [tab_get? f hi,tab_get? g hi]
    exact h i hi
  · simp only [List.getD_eq_getElem?_getD]
    rw [List.getElem?_eq_none (by simp [tab]; omega),List.getElem?_eq_none (by simp [tab]; omega)]
    exact ⟨.refl _,trivial⟩
theorem readers_c (c : Ci) (hv : c.val) (hn : c.n.length < 1000000) : PureC Tryd.prog gl0 54 [c.v] (.sl (tab c.n.length (edV (rdL c))) (some c.n.length)):=
  PureC.wide (readers_own c hv hn) (AllLe.refl _) (tab_le fun j _=>by
    unfold rdV edV
    split
    · rename_i h; rw [h]; exact ⟨.nil',trivial⟩
    · exact ⟨.refl _,trivial⟩)
theorem ints_toNat {l : List Int} (h : ∀ x ∈ l,0 ≤ x) : ints l = natsV (l.map Int.toNat):=by
  simp only [ints,natsV,List.map_map]
  refine List.map_congr_left fun x hx=>?_
  simp [natV,Int.toNat_of_nonneg (h x hx)]
theorem sources_c (c : Ci) (hv : c.val) (hn : c.n.length < 1000000) : PureC Tryd.prog gl0 53 [c.v] (.sl (tab c.n.length (edV c.g)) (some c.n.length)):=
  PureC.wide (sources_own c hn) (AllLe.refl _) (tab_le fun j hj=>by
    unfold edV Ci.g
    split
    · rw [ints_toNat fun x hx=>(hv.i j hj x hx).1]; exact ⟨.refl _,trivial⟩
    · exact ⟨.nil',trivial⟩)
end Go.Proofs.YtcmapbecfpcnfaaDoor
