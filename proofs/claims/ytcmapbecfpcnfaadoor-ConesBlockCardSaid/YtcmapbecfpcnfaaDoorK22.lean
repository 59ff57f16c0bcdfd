/- Cones: the law Block: the values. Conditions: none. -/
import Derived.Test.YtcmapbecfpcnfaaDoorK17
import Derived.Test.YtcmapbecfpcnfaaDoorK18
import Derived.Test.YtcmapbecfpcnfaaDoorK20
import Derived.Test.YtcmapbecfpcnfaaDoorLC
import Derived.Test.YtcmapbecfpcnfaaDoorXL10
set_option linter.unusedSimpArgs false
set_option linter.unusedVariables false
namespace Go.Proofs.YtcmapbecfpcnfaaDoor
open Go
def givB (G : List Nat) (i : Nat) : Nat:=if G = [] then 0 else G.getD (i % G.length) 0 % 4
def svF (c : Ci) (G : List Nat) (nt : Option Nat) (to : Nat) : Nat→Nat→Nat
  | 0,_=>0
  | k + 1,i=>if nt = some i then to else if combB (c.nd i).k = true then logE (c.nd i).k.toNat ((c.g i).map (svF c G nt to k)) else givB G i
noncomputable def sv (c : Ci) (G : List Nat) (nt : Option Nat) (to : Nat) (i : Nat) : Nat:=svF c G nt to (lvOf c i + 1) i
noncomputable def svB (c : Ci) (G : List Nat) (f : Nat→Nat) (i : Nat) : Nat:=if combB (c.nd i).k = true then logE (c.nd i).k.toNat ((c.g i).map f) else givB G i
theorem svF_st {c : Ci} (hd : Dag c.g c.n.length (lvOf c)) (G : List Nat) (nt : Option Nat) (to : Nat) : ∀ k i,lvOf c i < k→svF c G nt to k i = if nt = some i then to else svB c G (sv c G nt to) i:=by
  intro k
  induction k using Nat.strongRecOn with
  | ind k ih=>
    intro i hi
    obtain ⟨k,rfl⟩ : ∃ m,k = m + 1:=⟨k - 1,by omega⟩
    simp only [svF,svB]
    have : (c.g i).map (svF c G nt to k) = (c.g i).map (sv c G nt to):=List.map_congr_left fun x hx=>by
      have hx2:=hd.lt _ _ hx
      rw [ih k (by omega) x (by omega)]
      unfold sv
      rw [ih (lvOf c x + 1) (by omega) x (by omega)]
      rfl
    rw [this]
theorem sv_eq {c : Ci} (hd : Dag c.g c.n.length (lvOf c)) (G : List Nat) (nt : Option Nat) (to i : Nat) : sv c G nt to i = if nt = some i then to else svB c G (sv c G nt to) i:=svF_st hd G nt to _ i (Nat.lt_succ_self _)
theorem sv_dif {c : Ci} (hd : Dag c.g c.n.length (lvOf c)) (G : List Nat) (n to m : Nat) (h : sv c G none 0 m ≠ sv c G (some n) to m) : m = n∨∃ x ∈ c.g m,sv c G none 0 x ≠ sv c G (some n) to x:=by
  by_cases e : m = n
  · exact .inl e
  refine .inr (Classical.byContradiction fun q=>h ?_)
  rw [sv_eq hd,sv_eq hd G (some n),if_neg (by simp),if_neg (fun h=>e (Option.some.inj h).symm)]
  unfold svB
  have : (c.g m).map (sv c G none 0) = (c.g m).map (sv c G (some n) to):=List.map_congr_left fun x hx=>Classical.byContradiction fun h2=>q ⟨x,hx,h2⟩
  rw [this]
noncomputable def svT (c : Ci) (G : List Nat) (nt : Option Nat) (to : Nat) (l : List Nat) (x : Nat) : Nat:=if x ∈ l then sv c G nt to x else 0
theorem svT_next (c : Ci) (G : List Nat) (nt : Option Nat) (to : Nat) (l : List Nat) (i : Nat) : upd1 (svT c G nt to l) i (sv c G nt to i) = svT c G nt to (l ++ [i]):=by
  funext x
  show (if x = i then _ else _) = _
  by_cases e : x = i
  · subst e; rw [if_pos rfl]; unfold svT; rw [if_pos (by simp)]
  · rw [if_neg e]; unfold svT; simp [e]
theorem ord_src {c : Ci} (hv : c.val) (ha : acyc c) {t i : Nat} (ht : t < (ordL c).length) (hi : (ordL c)[t] = i) : i ∉ (ordL c).take t∧∀ w ∈ c.g i,w ∈ (ordL c).take t:=by
  have hd:=ci_dag hv ha
  have hLp:=ordL_pw c
  have hnd:=lex_nodup hLp
  refine ⟨fun q=>?_,fun w hw=>?_⟩
  · obtain ⟨k,hk,e⟩:=List.getElem_of_mem q
    have hk2 : k < t:=by simp at hk; omega
    rw [List.getElem_take] at e
    have:=(List.getElem_inj hnd (h₀:=by omega) (h₁:=by omega)).1 (e.trans hi.symm)
    omega
  · have h3:=hd.lt i w hw
    obtain ⟨k,hk,e⟩:=List.getElem_of_mem ((ordL_mem hv ha).2 (hd.b i w hw).1)
    have hkt : k < t:=by
      refine Nat.lt_of_not_le fun q=>?_
      rcases Nat.lt_or_eq_of_le q with q | q
      · have:=List.pairwise_iff_getElem.1 hLp t k (by omega) hk q
        rw [hi,e] at this
        rcases this with h | ⟨h,-⟩ <;> omega
      · subst q; rw [hi] at e; rw [e] at h3; omega
    rw [← e]
    exact List.mem_take_iff_getElem.2 ⟨k,by omega,rfl⟩
structure SvSt where
  j : Nat
  a : Option (Nat × List V)
set_option maxRecDepth 100000 in
set_option maxHeartbeats 8000000 in
theorem settled_c (c : Ci) (hf : c.fit) (G : List Nat) (hG : ∀ a ∈ G,a < 256) (nt : Option Nat) (to : Nat) : PureC Tryd.prog gl0 37 [c.v,.sl (G.map u8V) none,.sl (natsV (ordL c)) (some c.n.length),.int .i64 (ntI nt),u8V to] (.sl (tab c.n.length fun i=>u8V (sv c G nt to i)) (some c.n.length)):=by
  obtain ⟨hv,ha⟩:=ck_val hf.wf hf.ck
  have hd:=ci_dag hv ha
  have hN:=hf.n
  have hLl:=ordL_len hv ha
  have hLm : ∀ x,x ∈ ordL c↔x < c.n.length:=fun x=>ordL_mem hv ha
  have hsrc:=fun t i (ht : t < (ordL c).length) hi=>ord_src hv ha (t:=t) (i:=i) ht hi
  have hsv:=sv_eq hd G nt to
  have hnt:=fun i=>nt_iff (nt:=nt) (i:=i)
  have hwk:=hf.wf.k
  obtain ⟨N,hNn⟩ : ∃ N,c.n.length = N:=⟨_,rfl⟩
  obtain ⟨L,hL⟩ : ∃ L,ordL c = L:=⟨_,rfl⟩
  obtain ⟨NT,hNT⟩ : ∃ x,ntI nt = x:=⟨_,rfl⟩
  simp only [hNn,hL] at hN hLl hLm hsrc ⊢
  simp only [hNT] at hnt ⊢
  refine PureC.of_W 1 ok37 rfl ?_
  simp [i37,x37,u8V,hNn,show N ≤ 549755813888 by omega]
  intro gf1 gf2
  generalize gf1 5 = g5
  generalize gf2 20 = g20
  have hz : List.replicate N (V.int .u8 0) = tab N fun x=>u8V (svT c G nt to [] x):=by
    refine List.ext_getElem (by simp [tab]) fun i h1 h2=>?_
    rw [tab_get,List.getElem_replicate]; simp [svT,u8V]
  rw [hz]
  have htl : ∀ f : Nat→V,(tab N f).length = N:=fun f=>by simp [tab]
  refine LoopP.of (X:=Nat) (fun t=>[(12,natV t),(11,.ref 20 g20 0 N (some N)),(5,.ptr 5 g5 0 0),(1,.sl (G.map u8V) none),(2,.sl (natsV L) (some N)),(3,.int .i64 NT),(4,u8V to)])
    (fun t=>[(20,.row g20 1 (tab N fun x=>u8V (svT c G nt to (L.take t) x))),(5,.row g5 4 [c.v])]) (fun t=>t ≤ N) (fun t=>N - t) 0 (by simp) (by simp [natV,u8V]) (by simp) ?_
  intro t h1
  simp [natV,hLl]
  refine BrB.of (fun hb=>?_) (fun hb=>?_)
  · have ht : t < N:=of_decide_eq_true hb
    have hw:=wrapN t (by omega)
    obtain ⟨i,hi⟩ : ∃ i,L[t]'(by omega) = i:=⟨_,rfl⟩
    have hiN : i < N:=(hLm i).1 (by rw [← hi]; exact List.getElem_mem _)
    obtain ⟨hni,hsr⟩:=hsrc t i (by omega) hi
    obtain ⟨y,hy⟩ : ∃ y,c.n[i] = y:=⟨_,rfl⟩
    have hnd2 : c.nd i = y:=by rw [c.nd_get (by omega),hy]
    have htk : L.take (t + 1) = L.take t ++ [i]:=by rw [List.take_succ_eq_append_getElem (by omega),hi]
    have hyi:=hv.i i (by omega)
    have hyl:=hv.l i (by omega)
    have hyk:=hwk y (by rw [← hy]; exact List.getElem_mem _)
    rw [hnd2] at hyi hyl
    obtain ⟨T,hT⟩ : ∃ T,svT c G nt to (L.take t) = T:=⟨_,rfl⟩
    have hTs : ∀ w ∈ c.g i,T w = sv c G nt to w:=fun w hw=>by rw [← hT]; unfold svT; rw [if_pos (hsr w hw)]
    have hTi : T i = 0:=by rw [← hT]; unfold svT; rw [if_neg hni]
    have hnext : upd1 T i (sv c G nt to i) = svT c G nt to (L.take (t + 1)):=by rw [← hT,htk]; exact svT_next c G nt to _ i
    have hset : ∀ v : Nat,(tab N fun x=>V.int .u8 ((T x : Nat) : Int)).set i (.int .u8 (v : Int)) = tab N fun x=>V.int .u8 ((upd1 T i v x : Nat) : Int):=fun v=>by
      rw [tab_set]
      refine tab_congr fun k hk=>?_
      show (if k = i then _ else _) = V.int .u8 (((if k = i then _ else _) : Nat) : Int)
      by_cases e : k = i <;> simp [e]
    have hset2 : ∀ u v : Nat,(tab N fun x=>V.int .u8 ((upd1 T i u x : Nat) : Int)).set i (.int .u8 (v : Int)) = tab N fun x=>V.int .u8 ((upd1 T i v x : Nat) : Int):=fun u v=>by
      rw [tab_set]
      refine tab_congr fun k hk=>?_
      show (if k = i then _ else V.int .u8 (((if k = i then _ else _) : Nat) : Int)) = V.int .u8 (((if k = i then _ else _) : Nat) : Int)
      by_cases e : k = i <;> simp [e]
    have hrow0 : (tab N fun x=>u8V (T x)) = tab N fun x=>u8V (upd1 T i 0 x):=tab_congr fun k hk=>by
      show _ = u8V (if k = i then _ else _)
      by_cases e : k = i
      · subst e; simp [hTi]
      · simp [e]
    have hfin : ∀ u,(if nt = some i then to else u) = sv c G nt to i→(tab N fun x=>u8V (upd1 T i (if nt = some i then to else u) x)) = tab N fun x=>u8V (svT c G nt to (L.take (t + 1)) x):=fun u hu=>by rw [hu,hnext]
    have hsvi:=hsv i
    have hsB : svB c G (sv c G nt to) i = if combB y.k = true then logE y.k.toNat ((c.g i).map (sv c G nt to)) else givB G i:=by unfold svB; rw [hnd2]
    have hgc : combB y.k = true→c.g i = y.i.map Int.toNat:=fun h=>by unfold Ci.g; rw [hnd2,if_pos h]
    obtain ⟨Y,hY⟩ : ∃ Y,(y.i.map fun v=>u8V (T v.toNat)) = Y:=⟨_,rfl⟩
    have hYl : Y.length = y.i.length:=by rw [← hY]; simp
    rw [hT]
    simp [ht,hLl,natsV_get,hi,hiN,hNn,hy]
    intro gf3
    generalize gf3 14 = g14
    refine LoopP.of (X:=SvSt) (fun z=>[(16,natV z.j),(15,accV 53 z.a),(14,.ptr 14 g14 0 0),(13,natV i),(12,natV t),(11,.ref 20 g20 0 N (some N)),(5,.ptr 5 g5 0 0),(1,.sl (G.map u8V) none),(2,.sl (natsV L) (some N)),(3,.int .i64 NT),(4,u8V to)])
      (fun z=>[(20,.row g20 1 (tab N fun x=>u8V (T x))),(14,.row g14 4 [y.v]),(5,.row g5 4 [c.v])] ++ accH 53 1 z.a)
      (fun z=>z.j ≤ y.i.length∧(z.a = none∨accL z.a ≠ [])∧accL z.a = Y.take z.j) (fun z=>y.i.length - z.j) ⟨0,none⟩ ⟨by simp,by simp,by simp [accL]⟩ (by simp [natV,accV]) (by simp [accH]) ?_
    rintro ⟨j,acc⟩ ⟨q1,q2,q3⟩
    dsimp only at q1 q2 q3 ⊢
    simp [natV,Nd.v]
    have hll : (accL acc).length = j:=by rw [q3]; simp; omega
    refine BrB.of (fun hb2=>?_) (fun hb2=>?_)
    · have hj : j < y.i.length:=of_decide_eq_true hb2
      have hwj:=wrapN j (by omega)
      obtain ⟨w,hwe⟩ : ∃ w : Nat,y.i[j] = (w : Int):=⟨y.i[j].toNat,by have:=hyi _ (List.getElem_mem hj); omega⟩
      have hwN : w < N:=by have:=hyi _ (List.getElem_mem hj); rw [hwe] at this; omega
      have hsn : Y.take (j + 1) = Y.take j ++ [u8V (T w)]:=by
        rw [List.take_succ_eq_append_getElem (by omega)]
        simp only [← hY,List.getElem_map,hwe]
        rfl
      have hle : (accL acc).length + 1 ≤ 274877906944:=by omega
      simp [Nd.v,hj,ints_getE,hwe,hwN,htl,tab_get,u8V]
      cases acc with
      | none=>
        simp only [accL] at q3
        simp [accV,accH,hwj]
        intro gf5 gf6
        exact ⟨⟨j + 1,some (gf6 53,[u8V (T w)])⟩,⟨hj,by simp [accL],by dsimp only [accL]; rw [hsn,← q3]; rfl⟩,by simp [accV],by simp [accH,u8V],by dsimp only; omega⟩
      | some gl=>
        obtain ⟨g,l⟩:=gl
        simp only [accL] at q3 hle
        simp [accV,accH,hwj,hle]
        intro gf5 gf6
        exact ⟨⟨j + 1,some (gf6 53,l ++ [u8V (T w)])⟩,⟨hj,by simp [accL],by dsimp only [accL]; rw [hsn,← q3]⟩,by simp [accV],by simp [accH,u8V],by dsimp only; omega⟩
    · have hj : j = y.i.length:=by have:=of_decide_eq_false hb2; omega
      clear hll
      subst j
      rw [List.take_of_length_le (by omega)] at q3
      obtain ⟨kk,hkk⟩ : ∃ kk : Nat,y.k = (kk : Int):=⟨y.k.toNat,by omega⟩
      have hcmb:=rcomb2_c y.k
      rw [hkk] at hcmb hsB hgc hyk
      simp [Nd.v,hkk]
      refine CallO.pure hcmb (by simp) ?_
      simp
      refine BrB.of (fun hcb=>?b1) (fun hcb=>?b2)
      case' b1=>
        have hvs : Y = ((c.g i).map (sv c G nt to)).map u8V:=by
          rw [← hY,hgc hcb,List.map_map,List.map_map]
          refine List.map_congr_left fun v hv=>?_
          show u8V (T v.toNat) = u8V (sv c G nt to v.toNat)
          rw [hTs v.toNat (by rw [hgc hcb]; exact List.mem_map_of_mem hv)]
        rw [hcb,if_pos rfl,Int.toNat_natCast] at hsB
        have hvl : ((c.g i).map (sv c G nt to)).length < 1000000000:=by rw [List.length_map,hgc hcb,List.length_map]; omega
        have hE:=fun cap=>logE_c kk (by omega) ((c.g i).map (sv c G nt to)) cap hvl
        rw [← hsB,← hvs] at hE
        obtain ⟨V0,hV0⟩ : ∃ v,svB c G (sv c G nt to) i = v:=⟨_,rfl⟩
        rw [hV0] at hE hsvi
        have hYp : V.pureL Y = true:=by rw [hvs]; exact pureL_map (fun _=>rfl) _
        cases acc
      case' b1.none=>
        simp only [accL] at q3
        simp [accV,accH,Nd.v,hkk]
        refine CallO.pure ((hE (some 0)).wide ⟨.refl _,(by rw [← q3]; exact .nil),trivial⟩ (.refl _)) (by simp) ?_
        simp [htl,hiN,tab_get,u8V,hset]
      case' b1.some gl=>
        obtain ⟨g,l⟩:=gl
        simp only [accL] at q3
        subst q3
        simp [accV,accH,Nd.v,hkk]
        refine CallO.borrow 1 (hE none) (by simp [u8V,map_frz_pure hYp]) rfl ?_
        simp [htl,hiN,tab_get,u8V,hset]
      case' b2=>
        rw [hcb,if_neg (by simp)] at hsB
        obtain ⟨V0,hV0⟩ : ∃ v,svB c G (sv c G nt to) i = v:=⟨_,rfl⟩
        rw [hV0] at hsvi
        have hV1 : V0 = givB G i:=by rw [← hV0,hsB]
        simp
        refine BrB.of (fun hg=>?b3) (fun hg=>?b4)
      case' b3=>
        have hg0 : 0 < G.length:=by simpa using hg
        obtain ⟨r,hr⟩ : ∃ r,i % G.length = r:=⟨_,rfl⟩
        have hrl : r < G.length:=by rw [← hr]; exact Nat.mod_lt _ hg0
        obtain ⟨gv,hgv⟩ : ∃ gv,G[r] = gv:=⟨_,rfl⟩
        have hg256:=hG gv (by rw [← hgv]; exact List.getElem_mem hrl)
        have hV2 : gv % 4 = V0:=by
          rw [hV1]
          unfold givB
          rw [if_neg (fun e=>by rw [e] at hg0; simp at hg0),hr,List.getD_eq_getElem?_getD,List.getElem?_eq_getElem hrl,Option.getD_some,hgv]
        have hm1:=modN hr
        have hm2 : ((gv : Int)).tmod 4 = (V0 : Int):=modN (b:=4) hV2
        have hgne : ¬ G.length = 0:=by omega
        have hgne2 : ¬ G = []:=fun e=>by rw [e] at hg0; simp at hg0
        simp [hm1,hrl,hgv,u8V,hm2,hgne,hgne2,htl,hiN,tab_get,hset]
      case' b4=>
        have hg0 : G = []:=by
          cases G with
          | nil=>rfl
          | cons a l=>simp at hg
        have hV2 : V0 = 0:=by rw [hV1]; unfold givB; rw [if_pos hg0]
        have hrow1 : (tab N fun x=>u8V (T x)) = tab N fun x=>u8V (upd1 T i V0 x):=by rw [hV2]; exact hrow0
        rw [hrow1]
        simp [u8V]
      all_goals
        refine BrB.of (fun hat=>?_) (fun hat=>?_)
        · have hat' : nt = some i:=(hnt i).1 (of_decide_eq_true hat)
          have hend:=hfin V0 hsvi.symm
          rw [if_pos hat'] at hend
          simp [htl,hiN,tab_get,u8V,hset2,hw]
          exact ⟨t + 1,ht,by simp,hend,by omega⟩
        · have hat' : ¬ nt = some i:=fun q=>of_decide_eq_false hat ((hnt i).2 q)
          have hend:=hfin V0 hsvi.symm
          rw [if_neg hat'] at hend
          simp [u8V,hw]
          exact ⟨t + 1,ht,by simp,hend,by omega⟩
  · have ht : t = N:=by have:=of_decide_eq_false hb; omega
    subst t
    have hp : V.pureL (tab N fun x=>u8V (svT c G nt to (L.take N) x)) = true:=by
      rw [V.pureL_iff]
      intro v hv
      unfold tab at hv
      obtain ⟨j,-,rfl⟩:=List.mem_map.1 hv
      rfl
    simp [map_frz_pure hp]
    rw [List.take_of_length_le (by simp [htl])]
    refine tab_congr fun x hx=>?_
    rw [List.take_of_length_le (by omega)]
    unfold svT
    rw [if_pos ((hLm x).2 hx)]; rfl
end Go.Proofs.YtcmapbecfpcnfaaDoor
