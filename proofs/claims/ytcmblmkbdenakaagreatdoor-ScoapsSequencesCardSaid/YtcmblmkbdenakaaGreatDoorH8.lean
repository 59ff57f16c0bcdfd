/- Sequences: the law. Conditions: none. -/
import Derived.Test.YtcmblmkbdenakaaGreatDoorH7
import Derived.Test.YtcmblmkbdenakaaGreatDoorR1
import Derived.Test.YtcmblmkbdenakaaGreatDoorS7
import Derived.Test.YtcmblmkbdenakaaGreatDoorLV
import Derived.Test.YtcmblmkbdenakaaGreatDoorST
import Derived.Test.YtcmblmkbdenakaaGreatDoorXL5
set_option linter.unusedSimpArgs false
set_option linter.unusedVariables false
namespace Go.Proofs.YtcmblmkbdenakaaGreatDoor
open Go
theorem put_map {α : Type} {n : Nat} (F : Nat→α) : ∀ (ns : List Nat) (f : Nat→α),n ∈ ns→put ns (ns.map F) f n = F n
 | [],_,h=>by simp at h
 | m :: ns,f,h=>by
  rw [List.map_cons,put]
  by_cases hm : n ∈ ns
  ·exact put_map F ns _ hm
  ·rw [put_ne _ _ _ hm]
   rcases List.mem_cons.1 h with rfl | h
   ·rw [upd1_same]
   ·exact absurd h hm
def inB (c : Ci) (a : Nat) : List Nat:=tab (cnt 0 c.n) fun i=>a / 2 ^ i % 2
theorem inB_len (c : Ci) (a : Nat) : (inB c a).length = cnt 0 c.n:=by simp [inB]
noncomputable def sqS (c : Ci) (l : List Nat) : Nat→List Nat
 | 0=>List.replicate (cnt 14 c.n) 2
 | t + 1=>obsS c (netN c ⟨inB c (l.getD t 0),sqS c l t⟩)
noncomputable def sqP (c : Ci) (l : List Nat) (t : Nat) : Pt:=⟨inB c (l.getD t 0),sqS c l t⟩
noncomputable def sqV (c : Ci) (l : List Nat) (t : Nat) : Nat→Nat:=netN c (sqP c l t)
theorem nxtN_le (c : Ci) (f : Nat→Nat) (n : Nat) : nxtN c f n ≤ 2:=by
 unfold nxtN; split
 ·unfold rdN; omega
 ·omega
theorem sqS_len (c : Ci) (l : List Nat) : ∀ t,(sqS c l t).length = cnt 14 c.n∧∀ x ∈ sqS c l t,x ≤ 3
 | 0=>⟨by simp [sqS],fun x hx=>by rw [List.eq_of_mem_replicate hx]; omega⟩
 | t + 1=>⟨by simp [sqS,obsS]; rfl,fun x hx=>by
  simp only [sqS,obsS] at hx
  obtain ⟨m,-,rfl⟩:=List.mem_map.1 hx
  have:=nxtN_le c (netN c ⟨inB c (l.getD t 0),sqS c l t⟩) m
  omega⟩
theorem sqP_fit (c : Ci) (l : List Nat) (t : Nat) : (sqP c l t).fit c where
 i:=inB_len c _
 s:=(sqS_len c l t).1
 iv:=fun x hx=>by
  unfold sqP inB tab at hx
  obtain ⟨m,-,rfl⟩:=List.mem_map.1 hx
  omega
 sv:=(sqS_len c l t).2
theorem sq_cycs {c : Ci} (hg : c.good) (ho : Ord c (ordL c)) (l : List Nat) (T : Nat) : Cycs c T (sqV c l) where
 cyc:=fun t _=>⟨fun n hn hc=>by
   have h:=netN_sol (p:=sqP c l t) hg ho n hn
   have hcc : combC c n = true:=hc
   rw [if_pos hcc,rdsM_id hcc] at h
   exact h,fun n hn hc h14=>by
   have hk:=hg.wf.k (c.nd n) (by rw [c.nd_get hn]; exact List.getElem_mem hn)
   have h15:=hg.k (c.nd n) (by rw [c.nd_get hn]; exact List.getElem_mem hn)
   have hw:=(nd_wid hg.sh hn).1
   simp [combB] at hc
   omega⟩
 zero:=fun n hn h14 _=>by
  have h:=netN_sol (p:=sqP c l 0) hg ho n hn
  have hcc : ¬ combC c n = true:=by unfold combC; rw [h14]; decide
  rw [if_neg hcc] at h
  have hm:=(mem_dff hn).2 h14
  have e : ini c (sqP c l 0) n = 2:=by
   unfold ini
   have e2 : (sqP c l 0).s = (ids 14 c.n 0).map fun _=>2:=by
    show List.replicate (cnt 14 c.n) 2 = _
    rw [List.map_const']; rfl
   rw [e2,put_map _ _ _ hm]
  have h' : sqV c l 0 n = 2:=h.trans e
  omega
 next:=fun t n ht hn h14 hle=>by
  have h:=netN_sol (p:=sqP c l (t + 1)) hg ho n hn
  have hcc : ¬ combC c n = true:=by unfold combC; rw [h14]; decide
  rw [if_neg hcc] at h
  have hm:=(mem_dff hn).2 h14
  have e : ini c (sqP c l (t + 1)) n = nxtN c (sqV c l t) n:=by
   unfold ini
   show put (ids 14 c.n 0) ((ids 14 c.n 0).map (nxtN c (netN c ⟨inB c (l.getD t 0),sqS c l t⟩))) _ n = _
   rw [put_map _ _ _ hm]; rfl
  have h' : sqV c l (t + 1) n = nxtN c (sqV c l t) n:=h.trans e
  rw [h'] at hle ⊢
  obtain ⟨hx1,hi1,-⟩:=dff_in hg.wf hg.sh hm
  have hnd : (c.nd n).i = [(dnN c n : Int)]:=by rw [c.nd_get hn]; exact hi1
  unfold nxtN at hle ⊢
  rw [hnd] at hle ⊢
  simp only [Int.toNat_natCast] at hle ⊢
  generalize sqV c l t (dnN c n) = w at hle ⊢
  unfold rdN clean at *
  by_cases h3 : 3 < w
  ·rw [if_pos h3] at hle; omega
  ·rw [if_neg h3] at hle ⊢; omega
theorem shr8 (a k : Nat) (ha : a < 256) : ((a : Int).fdiv (2 ^ min k IntKind.u8.bits)).tmod 2 = ((a / 2 ^ k % 2 : Nat) : Int):=by
 have hf : ∀ m : Nat,(a : Int).fdiv ((m : Nat) : Int) = ((a / m : Nat) : Int):=fun m=>by
  cases a with
  | zero=>simp
  | succ a=>rfl
 have hb : IntKind.u8.bits = 8:=rfl
 have hp : ∀ m : Nat,(2 : Int) ^ m = ((2 ^ m : Nat) : Int):=fun m=>by simp
 rw [hb,hp,hf]
 have e : a / 2 ^ min k 8 = a / 2 ^ k:=by
  by_cases h : k ≤ 8
  ·rw [Nat.min_eq_left h]
  ·rw [Nat.min_eq_right (by omega)]
   have h1 : a / 2 ^ 8 = 0:=Nat.div_eq_of_lt (by omega)
   have h2 : 2 ^ 8 ≤ 2 ^ k:=Nat.pow_le_pow_right (by omega) (by omega)
   have h3 : a / 2 ^ k = 0:=Nat.div_eq_of_lt (by omega)
   rw [h1,h3]
 rw [e]; rfl
structure SqL where
 t : Nat
 I : List Nat
structure SqB where
 k : Nat
 I : List Nat
structure SqN where
 n : Nat
set_option maxRecDepth 100000 in
theorem law5_c (x : Cx) (hx : x.ok) (l : List Nat) (hl : ∀ a ∈ l,a < 256) : PureC Tryz.prog gl0 5 [x.v,.sl (l.map u8V) none] (.bool true):=by
 have hyok : x.nm.ok:=⟨hx.n,hx.f,hx.d0,hx.d1,hx.p0,hx.p1,hx.p2,hx.p3,hx.g,hx.o⟩
 have hof:=cof_c x.nm hyok
 have hxv : x.nm.v = .agg [u8V x.n,u8V x.f,u8V x.d0,u8V x.d1,.bool x.bus,.bool false,u8V x.p0,u8V x.p1,u8V x.p2,u8V x.p3,.sl (x.g.map Gx.v) none,.sl (x.o.map u8V) none]:=rfl
 rw [hxv] at hof
 have hgp : V.pureL (x.g.map Gx.v) = true:=pureL_map (fun g=>by simp [Gx.v,u8V]) x.g
 have hop : V.pureL (x.o.map u8V) = true:=u8s_pure x.o
 have hg:=nm_good x
 have hs:=nm_shr x
 generalize x.nm.st0.length = s0 at hs
 generalize x.nm.ci = c at hof hg hs
 have ho:=hg.ord
 have hn1:=hg.n1
 have hlp:=u8s_pure l
 refine PureC.of_WM 7 3 ok5 rfl ?_
 simp [i5,x5,Cx.v,u8V]
 intro ga
 generalize ga 2 = g2
 refine KM.mk (.done ?_)
 simp
 by_cases h6 : 6 < l.length
 ·simp [h6]
  refine CallO.pure lives_c rfl ?_
  simp
 simp [h6]
 refine KM.mk (.done ?_)
 simp
 refine KM.mk (.done ?_)
 simp
 refine CallO.pure hof (by simp [u8V,hgp,hop]) ?_
 simp
 intro gb
 generalize gb 5 = g5
 refine KM.mk (.done ?_)
 simp
 refine CallO.own 700 (Sequential_c c hg.wf) (by simp) (by simp) ?_
 rintro v h (⟨h1,-⟩ | ⟨-,g,st,L,rfl,rfl,hR,hO,hst,hS⟩) gf
 ·exact absurd hg.chk h1
 have hsqp : SeqP c (ctL c (stO (ids 14 c.n 0) st) L):=⟨ctL_le c _ (stO_le _ hst) L,st,by rw [(hO (by omega)).eq],hst,hS⟩
 generalize ctL c (stO (ids 14 c.n 0) st) L = b at hsqp
 have hbp:=netsC_pure c.n.length b
 have hbl:=netsC_len c.n.length b
 simp [upH,upS,Blk.rn,map_rn_pure hbp]
 generalize gf 700 + g = g9
 refine KM.mk (.done ?_)
 simp
 refine CallO.own 900 (blankO_c c hg) (by simp) (by simp) ?_
 rintro v h ⟨gI,gS,rfl,rfl⟩ gf2
 obtain ⟨A,hA⟩ : ∃ A,cnt 0 c.n = A:=⟨_,rfl⟩
 obtain ⟨B,hB⟩ : ∃ B,cnt 14 c.n = B:=⟨_,rfl⟩
 have hA20 : A ≤ 20:=by have:=cnt_le 0 c.n; omega
 have hr2 : ∀ m,List.replicate m (V.int .u8 2) = (List.replicate m 2).map u8V:=fun m=>by rw [List.map_replicate]; rfl
 have hBp:=rep2_pure B
 simp [upH,upS,Blk.rn]
 rw [hA,hB]
 generalize gf2 900 + gI = gI
 generalize gf2 901 + gS = gS
 intro gc
 generalize gc 8 = g8
 have hZl : (List.replicate B (V.int .u8 2)).length = B:=by simp
 have hZr:=hr2 B
 generalize List.replicate B (V.int .u8 2) = Z at *
 refine KM.mk (.frz (g:=g9) (sz:=2) (es:=netsC c.n.length b) 700 (by simp) hbp (.frz (g:=gS) (sz:=1) (es:=Z) 901 (by simp [fzH,Blk.fz,map_fzV hBp]) hBp (.done ?_)))
 have z1 : ∀ b g es,fzV b g es c.v = c.v:=fun _ _ _=>fzV_pure (by simp)
 have z2 : ∀ b g es,fzV b g es (.agg [.sl (c.n.map Nd.v) none,.sl (c.s.map .str) none,.sl (c.m.map Md.v) none,.sl (ints c.o) none]) = .agg [.sl (c.n.map Nd.v) none,.sl (c.s.map .str) none,.sl (c.m.map Md.v) none,.sl (ints c.o) none]:=fun _ _ _=>fzV_pure (by simp)
 have z3 : ∀ b g es m,fzV b g es (.agg [.int .u8 x.n,.int .u8 x.f,.int .u8 x.d0,.int .u8 x.d1,.bool x.bus,.bool m,.int .u8 x.p0,.int .u8 x.p1,.int .u8 x.p2,.int .u8 x.p3,.sl (x.g.map Gx.v) none,.sl (x.o.map u8V) none]) = .agg [.int .u8 x.n,.int .u8 x.f,.int .u8 x.d0,.int .u8 x.d1,.bool x.bus,.bool m,.int .u8 x.p0,.int .u8 x.p1,.int .u8 x.p2,.int .u8 x.p3,.sl (x.g.map Gx.v) none,.sl (x.o.map u8V) none]:=fun _ _ _ _=>fzV_pure (by simp [hgp,hop])
 have z4 : ∀ b g es,fzV b g es (.sl (l.map u8V) none) = .sl (l.map u8V) none:=fun _ _ _=>fzV_pure (by simp [hlp])
 simp only [fzF,fzH,Blk.fz,List.map_cons,List.map_nil,z1,z2,z3,z4]
 have htk : List.take c.n.length (netsC c.n.length b) = netsC c.n.length b:=List.take_of_length_le (by rw [hbl]; exact Nat.le_refl _)
 have htz : List.take B Z = Z:=List.take_of_length_le (by omega)
 have hm1 : ∀ b g es,List.map (fzV b g es) Z = Z:=fun _ _ _=>map_fzV hBp
 have hmr : ∀ (f : Nat→Nat→Nat→Nat→Option Nat→V) (p : Nat→Nat→Nat→Nat→V),V.mapRL f p (netsC c.n.length b) = netsC c.n.length b:=fun _ _=>mapRL_pure _ hbp
 simp [fzH,Blk.fz,z1,z2,z3,z4,hm1]
 simp [fzV,V.mapR,V.mapRL,fzp,fzf,hbl,htk,htz,hZl,hmr,z2,z3]
 refine KM.mk (.done ?_)
 have hZ0 : Z = (sqS c l 0).map u8V:=by rw [hZr]; show _ = (List.replicate (cnt 14 c.n) 2).map u8V; rw [hB]
 have hcyc:=sq_cycs hg ho l l.length
 have hbound:=seq_bound hg.wf hg.sh hg.ac hs (by omega) hcyc hsqp
 have hlives:=lives_c
 simp
 refine LoopP.of (X:=SqL) (fun z=>[(9,natV z.t),(8,.ptr 8 g8 0 0),(6,.sl (netsC c.n.length b) (some c.n.length)),(5,.ptr 5 g5 0 0),(1,.sl (l.map u8V) none),(4,.bool false)])
  (fun z=>[(8,.row g8 2 [.agg [.ref 900 gI 0 A (some A),.sl ((sqS c l z.t).map u8V) (some B)]]),(900,.row gI 1 (z.I.map u8V)),(5,.row g5 4 [c.v])])
  (fun z=>z.t ≤ l.length∧z.I.length = A) (fun z=>l.length - z.t) ⟨0,List.replicate A 2⟩ ⟨by simp,by simp⟩ (by simp [natV]) (by simp [hZ0,← hr2]; try rfl) ?_
 rintro ⟨t,I⟩ ⟨ht,hI⟩
 dsimp only at ht hI ⊢
 have hSl:=(sqS_len c l t).1
 rw [hB] at hSl
 simp [natV]
 refine BrB.of (fun hb=>?_) (fun hb=>?_)
 ·have ht':=of_decide_eq_true hb
  have hw:=wrapN t (by omega)
  obtain ⟨a,ha⟩ : ∃ a,l[t] = a:=⟨_,rfl⟩
  have ha256:=hl a (ha ▸ List.getElem_mem ht')
  have hla : l.getD t 0 = a:=by rw [List.getD_eq_getElem?_getD,List.getElem?_eq_getElem ht',ha]; rfl
  have hnext : sqS c l (t + 1) = obsS c (netN c (sqP c l t)):=rfl
  have hPt : sqP c l t = ⟨inB c a,sqS c l t⟩:=by unfold sqP; rw [hla]
  have hfit:=sqP_fit c l t
  simp
  refine LoopP.of (X:=SqB) (fun z=>[(10,natV z.k),(9,natV t),(8,.ptr 8 g8 0 0),(6,.sl (netsC c.n.length b) (some c.n.length)),(5,.ptr 5 g5 0 0),(1,.sl (l.map u8V) none),(4,.bool false)])
   (fun z=>[(8,.row g8 2 [.agg [.ref 900 gI 0 A (some A),.sl ((sqS c l t).map u8V) (some B)]]),(900,.row gI 1 (z.I.map u8V)),(5,.row g5 4 [c.v])])
   (fun z=>z.k ≤ A∧z.I.length = A∧∀ j,j < z.k→z.I.getD j 0 = a / 2 ^ j % 2) (fun z=>A - z.k) ⟨0,I⟩ ⟨by simp,hI,fun j hj=>by simp at hj⟩ (by simp [natV]) (by simp) ?_
  rintro ⟨k,J⟩ ⟨hk,hJ,hJv⟩
  dsimp only at hk hJ hJv ⊢
  simp [natV]
  refine BrB.of (fun hb2=>?_) (fun hb2=>?_)
  ·have hk':=of_decide_eq_true hb2
   have hw2:=wrapN k (by omega)
   have hkJ : k < J.length:=by omega
   obtain ⟨e,he⟩ : ∃ e,J[k]? = some e:=⟨_,List.getElem?_eq_getElem hkJ⟩
   have hsh:=shr8 a k ha256
   obtain ⟨m,hm⟩ : ∃ m,a / 2 ^ k % 2 = m:=⟨_,rfl⟩
   rw [hm] at hsh
   have hset : (J.map u8V).set k (V.int .u8 (m : Int)) = (J.set k m).map u8V:=by rw [List.map_set]; rfl
   simp [hk',ht',ha,u8V]
   rw [he,hsh]
   simp only [Option.map_some,Option.getD_some]
   rw [show u8V e = V.int .u8 (e : Int) from rfl]
   simp [hkJ,hset,hw2]
   refine ⟨⟨k + 1,J.set k m⟩,⟨hk',by simp [hJ],fun j hj=>?_⟩,by simp,by rw [List.map_set],by dsimp only; omega⟩
   dsimp only at hj ⊢
   by_cases ej : j = k
   ·subst ej
    rw [List.getElem?_set_self hkJ,← hm]; rfl
   ·rw [List.getElem?_set_ne (fun e=>ej e.symm),← List.getD_eq_getElem?_getD]
    exact hJv j (by omega)
  ·have hk' : k = A:=by have:=of_decide_eq_false hb2; omega
   subst hk'
   have hJe : J = inB c a:=by
    refine List.ext_getElem (by rw [hJ,inB_len,hA]) fun j h1 h2=>?_
    have:=hJv j (by omega)
    rw [List.getD_eq_getElem?_getD,List.getElem?_eq_getElem h1] at this
    have e : (inB c a)[j] = a / 2 ^ j % 2:=by simp only [inB]; rw [tab_get]
    rw [e]; exact this
   have hrun:=runO_c c hg (sqP c l t) hfit gI
   have hv0 : netN c (sqP c l t) = sqV c l t:=rfl
   have hob : obsS c (netN c (sqP c l t)) = sqS c l (t + 1):=rfl
   have hSl2:=(sqS_len c l (t + 1)).1
   rw [hB] at hSl2
   rw [hob,hv0] at hrun
   have hbt:=hbound t ht'
   rw [hPt,← hJe] at hrun
   dsimp only at hrun
   rw [hJ,hSl] at hrun
   generalize sqV c l t = v at hrun hbt
   have hSp:=u8s_pure (sqS c l (t + 1))
   obtain ⟨S',hS'e⟩ : ∃ S',S' = sqS c l (t + 1):=⟨_,rfl⟩
   rw [← hS'e] at hrun hSl2 hSp
   generalize obsO c v = O at hrun
   simp only [rspV] at hrun
   rw [hSl2] at hrun
   simp
   refine CallO.lend [900] [(900,.row gI 1 (J.map u8V))] [(8,.row g8 2 [.agg [.ref 900 gI 0 k (some k),.sl ((sqS c l t).map u8V) (some B)]]),(5,.row g5 4 [c.v])] hrun
    (by simp [V.inBL,V.inB,V.inBL_pure,u8s_pure,V.inB_pure]) (by simp) (by simp [V.inBL_pure,u8s_pure]) (by simp) (by simp) ?_
   rintro v' h' ⟨rfl,rfl⟩
   refine ⟨by simp [V.inB,V.inBL,V.inBL_pure,u8s_pure,tabU_pure],by simp [V.inBL_pure,u8s_pure],?_⟩
   simp [netsC_len]
   have hlen : decide (S'.length = (sqS c l t).length) = true:=decide_eq_true (by rw [hSl2,hSl])
   intro gd
   generalize gd 11 = g11
   simp [hlen]
   refine LoopP.of (X:=SqN) (fun z=>[(14,natV z.n),(12,.sl (tab c.n.length fun i=>u8V (v i)) (some c.n.length)),(11,.ptr 11 g11 0 0),(9,natV t),(8,.ptr 8 g8 0 0),(6,.sl (netsC c.n.length b) (some c.n.length)),(5,.ptr 5 g5 0 0),(1,.sl (l.map u8V) none),(4,.bool false)])
    (fun z=>[(11,.row g11 2 [.agg [.sl (O.map u8V) (some O.length),.sl (S'.map u8V) (some B)]]),(8,.row g8 2 [.agg [.ref 900 gI 0 k (some k),.sl ((sqS c l t).map u8V) (some B)]]),(900,.row gI 1 (J.map u8V)),(5,.row g5 4 [c.v])])
    (fun z=>z.n ≤ c.n.length) (fun z=>c.n.length - z.n) ⟨0⟩ (by simp) (by simp [natV]) (by simp; try rfl) ?_
   rintro ⟨n⟩ hn
   dsimp only at hn ⊢
   simp [natV]
   refine BrB.of (fun hb3=>?_) (fun hb3=>?_)
   ·have hn':=of_decide_eq_true hb3
    have hw3:=wrapN n (by omega)
    have hbn:=hbt n hn'
    have h3:=netsC_at c.n.length b n (by rw [netsC_len]; exact hn')
    obtain ⟨q,hq⟩ : ∃ q,v n = q:=⟨_,rfl⟩
    have h4 : (tab c.n.length fun i=>u8V (v i))[n]'(by simpa using hn') = V.int .u8 (q : Int):=by rw [tab_get,hq]; rfl
    rw [hq] at hbn
    obtain ⟨⟨z0,z1⟩,hz⟩ : ∃ z,b n = z:=⟨_,rfl⟩
    rw [hz] at hbn h3
    simp only [nC,natV] at h3
    by_cases q0 : q = 0
    ·subst q0
     have hz0 : z0 < 1073741824:=hbn (by omega)
     have d0 : ¬ 1073741824 ≤ z0:=by omega
     simp [hn',h4,netsC_len,h3,d0,hw3]
     exact ⟨⟨n + 1⟩,hn',by simp,by dsimp only; omega⟩
    by_cases q1 : q = 1
    ·subst q1
     have hz1 : z1 < 1073741824:=hbn (by omega)
     have d1 : ¬ 1073741824 ≤ z1:=by omega
     simp [hn',h4,netsC_len,h3,d1,hw3]
     exact ⟨⟨n + 1⟩,hn',by simp,by dsimp only; omega⟩
    ·have d0 : decide (q = 0) = false:=decide_eq_false q0
     have d1 : decide (q = 1) = false:=decide_eq_false q1
     simp [hn',h4,d0,d1,hw3]
     exact ⟨⟨n + 1⟩,hn',by simp,by dsimp only; omega⟩
   ·simp [hw]
    exact ⟨⟨t + 1,J⟩,⟨ht',hJ⟩,by simp,⟨by rw [hS'e],rfl⟩,by dsimp only; omega⟩
 ·simp
  refine CallO.pure hlives rfl ?_
  simp
end Go.Proofs.YtcmblmkbdenakaaGreatDoor
