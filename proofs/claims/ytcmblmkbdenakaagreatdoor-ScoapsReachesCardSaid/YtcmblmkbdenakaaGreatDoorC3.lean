/- Costs: the contracts of parity and of the visits of all assignments. Conditions: none. -/
import Derived.Test.YtcmblmkbdenakaaGreatDoorC1
set_option linter.unusedSimpArgs false
set_option linter.unusedVariables false
namespace Go.Proofs.YtcmblmkbdenakaaGreatDoor
open Go
theorem evO_snoc : ∀ (l : List (Nat × Nat)) (e o : Nat) (t : Nat × Nat),evO e o (l ++ [t]) = (min (pls (evO e o l).1 t.1) (pls (evO e o l).2 t.2),min (pls (evO e o l).1 t.2) (pls (evO e o l).2 t.1))
 | [],e,o,t=>rfl
 | x :: l,e,o,t=>by simp only [List.cons_append,evO]; exact evO_snoc l _ _ t
theorem evO_le (l : List (Nat × Nat)) : (evO 0 nev l).1 ≤ nev∧(evO 0 nev l).2 ≤ nev:=by rw [xor_b]; exact ⟨bst_le _ _,bst_le _ _⟩
theorem parity_c (k : Nat) (ts : List (Nat × Nat)) (cap : Option Nat) (ht : ∀ t ∈ ts,t.1 ≤ nev∧t.2 ≤ nev) (hl : ts.length < 1000000) :
  PureC Tryz.prog gl0 28 [u8V k,.sl (ts.map tbV) cap] (nC (swC k (pls (evO 0 nev ts).1 1,pls (evO 0 nev ts).2 1))):=by
 have hn : nev = 1073741824:=rfl
 refine PureC.of_W 3 ok28 rfl ?_
 simp [i28,x28]
 intro gf
 generalize gf 4 = g4
 refine LoopP.of (X:=Nat × Nat × Nat) (fun z=>[(11,natV z.1),(10,natV ts.length),(9,.sl (ts.map tbV) cap),(6,natV z.2.2),(5,natV z.2.1),(4,.ptr 4 g4 0 0),(0,u8V k)])
  (fun _=>[(4,.row g4 2 [.agg [.int .i64 0,.int .i64 0]])]) (fun z=>z.1 ≤ ts.length∧evO 0 nev (ts.take z.1) = z.2) (fun z=>ts.length - z.1) (0,0,nev) (by simp [evO]) (by simp [natV,u8V]) (by simp) ?_
 rintro ⟨i,e,o⟩ ⟨q1,q2⟩
 dsimp only at q1 q2 ⊢
 have hle:=evO_le (ts.take i)
 rw [q2] at hle
 dsimp only at hle
 simp [natV,u8V]
 refine BrB.of (fun hb2=>?_) (fun hb2=>?_)
 ·have hi:=of_decide_eq_true hb2
  have hw:=wrapN i (by omega)
  obtain ⟨t,hti⟩ : ∃ t,ts[i] = t:=⟨_,rfl⟩
  have htt:=ht t (hti ▸ List.getElem_mem hi)
  have p1:=plus_c e t.1 (by omega) (by omega)
  have p2:=plus_c o t.2 (by omega) (by omega)
  have p3:=plus_c e t.2 (by omega) (by omega)
  have p4:=plus_c o t.1 (by omega) (by omega)
  simp [hi,hti,tbV,natV,u8V]
  intro gf gm
  first | refine ⟨_,_,_,.pure p1 (by simp [natV]),?_⟩ | refine ⟨_,⟨_,_,.pure p1 (by simp [natV])⟩,?_⟩ | refine ⟨_,_,⟨_,.pure p1 (by simp [natV])⟩,?_⟩
  simp
  first | refine ⟨_,_,_,.pure p2 (by simp [natV]),?_⟩ | refine ⟨_,⟨_,_,.pure p2 (by simp [natV])⟩,?_⟩ | refine ⟨_,_,⟨_,.pure p2 (by simp [natV])⟩,?_⟩
  simp [natV,min_i]
  first | refine ⟨_,_,_,.pure p3 (by simp [natV]),?_⟩ | refine ⟨_,⟨_,_,.pure p3 (by simp [natV])⟩,?_⟩ | refine ⟨_,_,⟨_,.pure p3 (by simp [natV])⟩,?_⟩
  simp
  first | refine ⟨_,_,_,.pure p4 (by simp [natV]),?_⟩ | refine ⟨_,⟨_,_,.pure p4 (by simp [natV])⟩,?_⟩ | refine ⟨_,_,⟨_,.pure p4 (by simp [natV])⟩,?_⟩
  simp [natV,min_i,hw]
  refine ⟨by simp [indAll,snocF,indF,memN],i + 1,_,_,⟨hi,?_⟩,⟨by omega,rfl,rfl⟩,by omega⟩
  rw [take_snoc _ _ hi,hti,evO_snoc,q2]
 ·have hi : i = ts.length:=by have:=of_decide_eq_false hb2; omega
  subst hi
  rw [List.take_length] at q2
  have hp1:=plus_c e 1 (by omega) (by omega)
  have hp2:=plus_c o 1 (by omega) (by omega)
  simp
  refine CallO.pure hp1 (by simp [natV]) ?_
  simp
  refine CallO.pure hp2 (by simp [natV]) ?_
  simp [natV]
  refine CallO.pure (invert_c k (pls e 1,pls o 1)) (by simp [u8V,nC,natV]) ?_
  simp [nC,natV,q2]
def asgV (ts : List (Nat × Nat)) (cap : Option Nat) (kp : Int) : V:=.fn 59 [] [.iptr (.sl (ts.map tbV) cap) 0,.iptr (.int .i64 kp) 0]
theorem assign_c (ts : List (Nat × Nat)) (cap : Option Nat) (kp : Int) : PureC Tryz.prog gl0 30 [.sl (ts.map tbV) cap,.int .i64 kp] (asgV ts cap kp):=by
 have hp:=tbs_pure ts
 unfold asgV
 generalize ts.map tbV = L at hp ⊢
 refine PureC.of_W 3 ok30 rfl ?_
 simp [i30,x30]
 intro gf gf2
 exact mapRL_pure _ hp
structure VG where
 g3 : Nat
 g4 : Nat
 g5 : Nat
 g8 : Nat
def visV (ts : List (Nat × Nat)) (cap : Option Nat) (kp : Int) (G : VG) : List V:=[.iptr (.sl (ts.map tbV) cap) 0,.ptr 3 G.g3 0 0,.ptr 4 G.g4 0 0,.iptr (.int .i64 kp) 0,.ptr 5 G.g5 0 0]
def visH (ts : List (Nat × Nat)) (cap : Option Nat) (kp : Int) (G : VG) (B g : Nat) (hr : Hp) (a : List Nat) : Hp:=
 (8,.row G.g8 1 (a.map u8V)) :: (5,.row G.g5 1 [.fn 60 [] (visV ts cap kp G)]) :: (4,.row G.g4 1 [.ref 8 G.g8 0 ts.length (some ts.length)]) :: (3,.row G.g3 1 [.own B g]) :: hr
section
variable {ts : List (Nat × Nat)} {cap : Option Nat} {kp : Int} {G : VG} {B g : Nat} {hr : Hp} {a : List Nat}
theorem visH_3 : lk (visH ts cap kp G B g hr a) 3 = some (.row G.g3 1 [.own B g]):=by simp [visH]
theorem visH_4 : lk (visH ts cap kp G B g hr a) 4 = some (.row G.g4 1 [.ref 8 G.g8 0 ts.length (some ts.length)]):=by simp [visH]
theorem visH_5 : lk (visH ts cap kp G B g hr a) 5 = some (.row G.g5 1 [.fn 60 [] (visV ts cap kp G)]):=by simp [visH]
theorem visH_8 : lk (visH ts cap kp G B g hr a) 8 = some (.row G.g8 1 (a.map u8V)):=by simp [visH]
end
structure VSt (σ : Type) where
 v : Nat
 a : List Nat
 s : σ
theorem CallO.weakenS {P : Program} {gl : Fr} {f : FuncId} {args : List V} {h h2 : Hp} {K : V→Hp→Prop} (hs : ∀ b k,lk h2 b = some k→lk h b = some k) (hc : ICallO P gl f args h2 K) : ICallO P gl f args h K:=
 ⟨hc.1,fun G M w rargs hs' hgl hsz hr=>hc.2 G M w rargs ⟨hs'.gw,fun b k hk=>hs'.hb b k (hs b k hk),hs'.inj,hs'.mlt⟩ hgl hsz hr⟩
theorem visH_store {ts : List (Nat × Nat)} {cap : Option Nat} {kp : Int} {G : VG} {B g : Nat} {hr : Hp} {a : List Nat} {i v : Nat} {L : List V} (hL : L = (a.set i v).map u8V) (b : Nat) (k : Blk) (h : lk (visH ts cap kp G B g hr (a.set i v)) b = some k) : lk ((8,.row G.g8 1 L) :: visH ts cap kp G B g hr a) b = some k:=by
 subst hL
 simp only [visH,lk] at h ⊢
 split at h
 ·simp_all
 ·simp_all
def vst {σ : Type} (kp : Int) (up : List Nat→Nat→σ→σ) (i : Nat) (r : List (Nat × Nat)) (pre : List Nat) (cost : Nat) (t : Nat × Nat) : Nat→σ→σ
 | 0,s=>s
 | v + 1,s=>let s1:=vst kp up i r pre cost t v s
  if pls cost (tb t v) < nev then vis kp up (i + 1) r (pre ++ [v]) (pls cost (tb t v)) s1 else s1
theorem vst_3 {σ : Type} (kp : Int) (up : List Nat→Nat→σ→σ) (i : Nat) (r : List (Nat × Nat)) (pre : List Nat) (cost : Nat) (t : Nat × Nat) (s : σ) (h : ¬ (i : Int) = kp) : vis kp up i (t :: r) pre cost s = vst kp up i r pre cost t 3 s:=by
 simp only [vis,vst,tb,if_neg h]; rfl
def Kn (h h' : Hp) : Prop:=∀ b k,lk h b = some k→lk h' b = some k
theorem Kn_ddup {h h' : Hp} (hk : Kn h h') : Kn h (ddup h'):=fun b k hb=>by rw [lk_ddup]; exact hk b k hb
theorem Kn.trans {h h1 h2 : Hp} (a : Kn h h1) (b : Kn h1 h2) : Kn h h2:=fun x k hx=>b x k (a x k hx)
theorem Kn_refl (h : Hp) : Kn h h:=fun _ _ h=>h
theorem Sub_Kn {h h' : Hp} (hk : Kn h h') : Sub (ddup h) h':=Sub_of_mem fun _ _ hm=>hk _ _ (ddup_mem hm)
set_option maxRecDepth 100000 in
theorem visit_c {σ : Type} (ts : List (Nat × Nat)) (cap : Option Nat) (kp : Int) (G : VG) (B g : Nat) (hr : σ→Hp) (up : List Nat→Nat→σ→σ) (ht : ∀ t ∈ ts,t.1 ≤ nev∧t.2 ≤ nev) (hl : ts.length < 1000000)
  (hy : ∀ a cost s (K : V→Hp→Prop),a.length = ts.length→(∀ v ∈ a,v < 3)→cost < nev→(∀ h',Kn (visH ts cap kp G B g (hr (up a cost s)) a) h'→K (.bool true) h')→IYield Tryz.prog gl0 B g [.ref 8 G.g8 0 ts.length (some ts.length),natV cost] (visH ts cap kp G B g (hr s) a) K) :
  ∀ (r : List (Nat × Nat)) (i cost : Nat) (a : List Nat) (s : σ) (h : Hp) (K : V→Hp→Prop),ts.drop i = r→a.length = ts.length→i ≤ ts.length→(∀ v ∈ a,v < 3)→cost < nev→Kn (visH ts cap kp G B g (hr s) a) h→
   (∀ a' h',a'.length = ts.length→a'.take i = a.take i→(∀ v ∈ a',v < 3)→Kn (visH ts cap kp G B g (hr (vis kp up i r (a.take i) cost s)) a') h'→K (.bool true) h')→
   ICallO Tryz.prog gl0 60 ([natV i,natV cost] ++ visV ts cap kp G) h K
 | [],i,cost,a,s,h,K,h1,h2,h3,h4,h5,h6,hK=>by
  have hi : i = ts.length:=by have:=congrArg List.length h1; simp at this; omega
  subst hi
  refine CallO.weakenS h6 (CallO.of_W ok60 rfl ?_)
  simp [i60,x60,visV,natV,visH_3,visH_4]
  refine hy a cost s _ h2 h4 h5 fun h' hh=>?_
  simp
  have ha : a.take ts.length = a:=by rw [← h2]; exact List.take_length
  exact .done ⟨ddup h',Sub_ddup _,hK a _ h2 rfl h4 (by rw [ha]; exact Kn_ddup hh)⟩
 | t :: r,i,cost,a,s,h,K,h1,h2,h3,h4,h5,h6,hK=>by
  have ih:=visit_c ts cap kp G B g hr up ht hl hy r (i + 1)
  have hi : i < ts.length:=by have:=congrArg List.length h1; simp at this; omega
  have hti : ts[i] = t:=by
   have:=congrArg (fun l=>l[0]?) h1
   simpa [hi] using this
  have htt:=ht t (hti ▸ List.getElem_mem hi)
  have hdr : ts.drop (i + 1) = r:=by rw [← List.tail_drop,h1]; rfl
  have hset : ∀ (a : List Nat) v,v < 3→(∀ x ∈ a,x < 3)→∀ x ∈ a.set i v,x < 3:=fun a v hv ha x hx=>by
   rcases List.mem_or_eq_of_mem_set hx with h | h
   ·exact ha x h
   ·omega
  have htk : ∀ (a : List Nat) v,i < a.length→(a.set i v).take (i + 1) = a.take i ++ [v]:=fun a v hv=>by
   rw [take_snoc _ _ (by simpa using hv),List.take_set_of_le (by omega)]; simp
  refine CallO.weakenS h6 (CallO.of_W ok60 rfl ?_)
  simp [i60,x60,visV,natV]
  refine BrB.of (fun hb=>by have:=of_decide_eq_true hb; omega) (fun _=>?_)
  simp [visH_3,visH_4]
  refine BrB.of (fun hb=>?_) (fun hb=>?_)
  ·have hk:=of_decide_eq_true hb
   have hai : i < a.length:=by omega
   have hw:=wrapN i (by omega)
   simp [visH_3,visH_4,visH_5,visH_8,hai,hw,u8V]
   refine ⟨hi,ih cost _ s _ _ hdr (by simp [h2]) (by omega) (hset a 2 (by omega) h4) h5 (visH_store (v:=2) (by rw [List.map_set]; rfl)) fun a' h' b1 b2 b3 hh=>?_⟩
   have b4 : a'.take i = a.take i:=by
    have:=congrArg (List.take i) b2
    rw [List.take_take,List.take_take,Nat.min_eq_left (by omega),List.take_set_of_le (by omega)] at this
    exact this
   simp
   refine .done ⟨ddup h',Sub_ddup _,hK a' _ b1 b4 b3 ?_⟩
   rw [htk _ _ hai] at hh
   rw [vis,if_pos hk]
   exact Kn_ddup hh
  ·have hk:=of_decide_eq_false hb
   have hwi:=wrapN i (by omega)
   simp
   refine LoopP.of (X:=VSt σ) (fun z=>[(10,u8V z.v),(9,.bool false),(0,natV i),(1,natV cost),(2,(V.sl (List.map tbV ts) cap).iptr 0),(3,.ptr 3 G.g3 0 0),(4,.ptr 4 G.g4 0 0),(5,(V.int IntKind.i64 kp).iptr 0),(6,.ptr 5 G.g5 0 0)])
    (fun z=>ddup (visH ts cap kp G B g (hr z.s) z.a)) (fun z=>z.v ≤ 3∧z.a.length = ts.length∧(∀ x ∈ z.a,x < 3)∧z.a.take i = a.take i∧z.s = vst kp up i r (a.take i) cost t z.v s) (fun z=>3 - z.v) ⟨0,a,s⟩ ⟨by simp,h2,h4,rfl,rfl⟩ (by simp [natV,u8V]) (Sub_ddup _) ?_
   rintro ⟨v,c,z⟩ ⟨q1,q2,q3,q4,q5⟩
   dsimp only at q1 q2 q3 q4 q5 ⊢
   have hci : i < c.length:=by omega
   simp [natV,u8V,lk_ddup]
   refine BrB.of (fun hb2=>?_) (fun hb2=>?_)
   ·have hv : v ≤ 2:=by have:=of_decide_eq_true hb2; omega
    have h3 : v = 0∨v = 1∨v = 2:=by omega
    have hv1 : IntKind.u8.wrap ((v : Int) + 1) = ((v + 1 : Nat) : Int):=by rcases h3 with rfl | rfl | rfl <;> decide
    have hvl : [V.int IntKind.i64 ↑t.1,V.int IntKind.i64 ↑t.2,V.int IntKind.i64 0][v]?.getD V.undef = natV (tb t v):=by rcases h3 with rfl | rfl | rfl <;> rfl
    have htb : tb t v ≤ nev:=by unfold tb; split <;> (try split) <;> omega
    have hnv : nev = 1073741824:=rfl
    have hp:=plus_c cost (tb t v) (by omega) (by omega)
    have hst : (u8V v :: []) = [V.int IntKind.u8 (v : Int)]:=rfl
    simp [visH_3,visH_4,visH_5,visH_8,hci,hwi,u8V,lk_ddup,hi,hti,tbV,natV]
    rw [hvl]
    refine ⟨by omega,CallO.pure hp (by simp [natV]) ?_⟩
    have hnext : vst kp up i r (a.take i) cost t (v + 1) s = if pls cost (tb t v) < nev then vis kp up (i + 1) r (a.take i ++ [v]) (pls cost (tb t v)) z else z:=by rw [q5]; rfl
    have hKn : Kn (visH ts cap kp G B g (hr z) (c.set i v)) ((8,.row G.g8 1 ((List.map u8V c).set i (V.int IntKind.u8 ↑v))) :: ddup (visH ts cap kp G B g (hr z) c)):=fun b k hb=>by
     have:=visH_store (ts:=ts) (cap:=cap) (kp:=kp) (G:=G) (B:=B) (g:=g) (hr:=hr z) (a:=c) (i:=i) (v:=v) (L:=(List.map u8V c).set i (V.int IntKind.u8 ↑v)) (by rw [List.map_set]; rfl) b k hb
     simp only [lk,lk_ddup] at this ⊢
     exact this
    simp [natV]
    refine BrB.of (fun hb3=>?_) (fun hb3=>?_)
    ·have hlt : pls cost (tb t v) < nev:=of_decide_eq_true hb3
     simp [visH_5,lk_ddup,hwi,visV,hlt]
     refine ih (pls cost (tb t v)) _ z _ _ hdr (by simp [q2]) (by omega) (hset c v (by omega) q3) hlt hKn fun a' h' b1 b2 b3 hh=>?_
     rw [htk _ _ hci,q4] at hh
     have b4 : a'.take i = a.take i:=by
      have:=congrArg (List.take i) b2
      rw [List.take_take,List.take_take,Nat.min_eq_left (by omega),List.take_set_of_le (by omega),q4] at this
      exact this
     simp [hv1]
     rw [if_pos hlt] at hnext
     refine ⟨⟨v + 1,a',_⟩,⟨by dsimp only; omega,b1,b3,b4,hnext.symm⟩,by simp,?_,by dsimp only; omega⟩
     exact Sub_Kn hh
    ·have hlt : ¬ pls cost (tb t v) < nev:=of_decide_eq_false hb3
     simp [hlt,hv1]
     rw [if_neg hlt] at hnext
     refine ⟨⟨v + 1,c.set i v,z⟩,⟨by dsimp only; omega,by simpa using q2,hset c v (by omega) q3,by dsimp only; rw [List.take_set_of_le (by omega)]; exact q4,hnext.symm⟩,by simp,?_,by dsimp only; omega⟩
     exact Sub_Kn hKn
   ·have hv : v = 3:=by have:=of_decide_eq_false hb2; omega
    subst hv
    simp
    refine .done ⟨ddup (ddup (visH ts cap kp G B g (hr z) c)),Sub_ddup _,hK c _ q2 q4 q3 ?_⟩
    rw [vst_3 _ _ _ _ _ _ _ _ hk,← q5]
    exact Kn_ddup (Kn_ddup (Kn_refl _))
end Go.Proofs.YtcmblmkbdenakaaGreatDoor
namespace Go.Proofs.YtcmblmkbdenakaaGreatDoor
open Go
set_option maxRecDepth 100000 in
theorem iter_c {σ : Type} (ts : List (Nat × Nat)) (cap : Option Nat) (kp : Int) (B g : Nat) (hr : σ→Hp) (up : List Nat→Nat→σ→σ) (ht : ∀ t ∈ ts,t.1 ≤ nev∧t.2 ≤ nev) (hl : ts.length < 1000000)
  (hy : ∀ G a cost s (K : V→Hp→Prop),a.length = ts.length→(∀ v ∈ a,v < 3)→cost < nev→(∀ h',Kn (visH ts cap kp G B g (hr (up a cost s)) a) h'→K (.bool true) h')→IYield Tryz.prog gl0 B g [.ref 8 G.g8 0 ts.length (some ts.length),natV cost] (visH ts cap kp G B g (hr s) a) K)
  (s : σ) (h : Hp) (hh : Kn (hr s) h) (K : V→Hp→Prop) (hK : ∀ v G a h',Kn (visH ts cap kp G B g (hr (vis kp up 0 ts [] 0 s)) a) h'→K v h') :
  ICallO Tryz.prog gl0 59 [.own B g,.iptr (.sl (ts.map tbV) cap) 0,.iptr (.int .i64 kp) 0] h K:=by
 refine CallO.weakenS hh (CallO.of_W ok59 rfl ?_)
 simp [i59,x59]
 intro ga gb
 refine ⟨by omega,fun gc gd=>?_⟩
 have h0 : V.int IntKind.i64 0 = natV 0:=rfl
 refine visit_c ts cap kp ⟨ga 3,gc 4,gd 5,gb 8⟩ B g hr up ht hl (fun a cost s K h1 h2 h3 h4=>hy _ a cost s K h1 h2 h3 h4) ts 0 0 (List.replicate ts.length 0) s _ _ rfl (by simp) (by omega) (by simp) (by unfold nev; omega) (fun b k hb=>?_) fun a' h' b1 b2 b3 hh=>?_
 ·simp only [visH,visV,lk,List.map_replicate] at hb ⊢
  split at hb
  ·simp_all [u8V]
  ·simp_all
 ·simp
  exact .done ⟨ddup h',Sub_ddup _,hK _ _ a' _ (Kn_ddup hh)⟩
def gateP (k : Nat) (ts : List (Nat × Nat)) : Nat × Nat:=
 if (decide (k ≤ 15) && widB k ts.length) = false then (nev,nev)
 else if k = 0∨k = 14 then (1,1) else if k = 15 then (nev,nev) else if k = 1 then (0,nev) else if k = 2 then (nev,0)
 else if (ctlV k).2 = true then swC k (if (ctlV k).1 = 0 then (pls (mnV false ts) 1,pls (smV true ts) 1) else (pls (smV false ts) 1,pls (mnV true ts) 1))
 else if k = 9∨k = 10 then swC k (pls (evO 0 nev ts).1 1,pls (evO 0 nev ts).2 1)
 else if k = 13 then (pls (mnV false ts) 1,pls (mnV true ts) 1)
 else (pls (bst ts fun a=>decide (logE k a = 0)) 1,pls (bst ts fun a=>decide (logE k a = 1)) 1)
theorem gateP_fit {k : Nat} {ts : List (Nat × Nat)} (h : (decide (k ≤ 15) && widB k ts.length) = true) : gateP k ts =
 if k = 0∨k = 14 then (1,1) else if k = 15 then (nev,nev) else if k = 1 then (0,nev) else if k = 2 then (nev,0)
 else if (ctlV k).2 = true then swC k (if (ctlV k).1 = 0 then (pls (mnV false ts) 1,pls (smV true ts) 1) else (pls (smV false ts) 1,pls (mnV true ts) 1))
 else if k = 9∨k = 10 then swC k (pls (evO 0 nev ts).1 1,pls (evO 0 nev ts).2 1)
 else if k = 13 then (pls (mnV false ts) 1,pls (mnV true ts) 1)
 else (pls (bst ts fun a=>decide (logE k a = 0)) 1,pls (bst ts fun a=>decide (logE k a = 1)) 1):=by
 unfold gateP; rw [if_neg (by rw [h]; simp)]
theorem caps_le (l : List (Int × Int)) : ∀ t ∈ l.map capC,t.1 ≤ nev∧t.2 ≤ nev:=by
 intro t ht
 obtain ⟨p,-,rfl⟩:=List.mem_map.1 ht
 exact ⟨capI_le _,capI_le _⟩
noncomputable def hr10 (k g2 g6 g7 g : Nat) (z : Nat × Nat) : Hp:=[(2000079,.loop g 100 [(2,.ptr 2 g2 0 0),(6,.ptr 6 g6 0 0)] [79,80] ra7_0 rb7_0 false),(6,.row g6 3 [.agg [natV z.1,natV z.2,natV 0]]),(7004,.row g7 2 [.agg [natV 0,natV 0]]),(2,.row g2 1 [u8V k])]
theorem yld10 {ts : List (Nat × Nat)} {cap : Option Nat} {G : VG} {k g2 g6 g7 g cost : Nat} {a : List Nat} {z : Nat × Nat} {K : V→Hp→Prop} (hk : k < 256) (hl : ts.length < 1000000) (ha : a.length = ts.length)
  (hK : ∀ h',Kn (visH ts cap (-1) G 2000079 g (hr10 k g2 g6 g7 g (upB (fun a=>decide (logE k a = 0)) (fun a=>decide (logE k a = 1)) a cost z)) a) h'→K (.bool true) h') :
  IYield Tryz.prog gl0 2000079 g [.ref 8 G.g8 0 ts.length (some ts.length),natV cost] (visH ts cap (-1) G 2000079 g (hr10 k g2 g6 g7 g z) a) K:=by
 have hlog:=logE_c k hk a (some ts.length) (by omega)
 refine IYield.of_W rok7_0 (show lk (visH ts cap (-1) G 2000079 g (hr10 k g2 g6 g7 g z) a) 2000079 = some (.loop g 100 [(2,.ptr 2 g2 0 0),(6,.ptr 6 g6 0 0)] [79,80] ra7_0 rb7_0 false) by simp [visH,hr10]) rfl ?_
 simp [xa7_0,xb7_0,visH,hr10,u8V]
 refine ⟨_,_,_,_,_,⟨rfl,rfl,rfl,rfl,rfl⟩,?_⟩
 have hft : ∀ (f : Nat→Nat→Nat→Nat→Option Nat→V) (p : Nat→Nat→Nat→Nat→V),List.take ts.length (List.map (fun x=>V.mapR f p x) (a.map u8V)) = a.map u8V:=fun f p=>takeR (u8s_pure a) (by simp [ha]) f p
 refine CallO.borrow 1 hlog (by
  simp [ha,u8V]
  rw [← List.map_map]; exact hft _ _) rfl ?_
 generalize he : logE k a = e at hlog
 simp [u8V]
 refine BrB.of (fun hb=>?_) (fun hb=>?_)
 ·have h1 : e = 0∨e = 1:=by have:=of_decide_eq_true hb; omega
  rcases h1 with rfl | rfl
  ·simp [natV,min_i]
   refine .done ⟨_,_,_,_,_,by simp; exact ⟨rfl,rfl,rfl,rfl,rfl⟩,_,Sub_ddup _,hK _ (Sub.spec ?_)⟩
   simp [visH,hr10,lk_ddup,upB,he,natV,u8V]
  ·simp [natV,min_i]
   refine .done ⟨_,_,_,_,_,by simp; exact ⟨rfl,rfl,rfl,rfl,rfl⟩,_,Sub_ddup _,hK _ (Sub.spec ?_)⟩
   simp [visH,hr10,lk_ddup,upB,he,natV,u8V]
 ·have h1 : ¬ e ≤ 1:=of_decide_eq_false hb
  have h2 : ¬ e = 0:=by omega
  have h3 : ¬ e = 1:=by omega
  simp
  refine .done ⟨_,_,_,_,_,by simp; exact ⟨rfl,rfl,rfl,rfl,rfl⟩,_,Sub_ddup _,hK _ (Sub.spec ?_)⟩
  simp [visH,hr10,lk_ddup,upB,he,h2,h3,natV,u8V]
set_option maxRecDepth 100000 in
theorem sgate_c (k : Nat) (hk : k < 256) (l : List (Int × Int)) (cap : Option Nat) (hl : l.length < 1000000) : PureC Tryz.prog gl0 7 [u8V k,.sl (l.map cV) cap] (nC (gateP k (l.map capC))):=by
 have hf:=fits_c k l.length hk hl
 have htb:=tables_c l cap hl
 have hle:=caps_le l
 have hlen : (l.map capC).length = l.length:=by simp
 have hn : nev = 1073741824:=rfl
 generalize hts : l.map capC = ts at htb hle hlen ⊢
 refine PureC.of_WM 7 2 ok7 rfl ?_
 simp [i7,x7,u8V]
 intro ga gb
 refine KM.mk (.done ?_)
 simp
 refine CallO.pure hf (by simp [u8V]) ?_
 simp
 refine BrB.of (fun hb=>?_) (fun hb=>?_)
 ·simp [gl0]
  have hfit : (decide (k ≤ 15) && widB k ts.length) = false:=by rw [hlen]; revert hb; cases (decide (k ≤ 15)) <;> cases (widB k l.length) <;> simp
  simp [gateP,hfit,nC,natV]
 ·have hfit : (decide (k ≤ 15) && widB k ts.length) = true:=by rw [hlen]; revert hb; cases (decide (k ≤ 15)) <;> cases (widB k l.length) <;> simp
  have hgp:=gateP_fit hfit
  simp
  refine KM.mk (.done ?_)
  simp
  refine CallO.pure htb (by simp [cVs_pure]) ?_
  simp
  refine KM.mk (.done ?_)
  simp
  refine BrB.of (fun h0=>?_) (fun h0=>?_)
  ·have h0 : k = 0:=of_decide_eq_true h0
   subst h0
   simp [gl0]
   rw [hgp]; simp [nC,natV]
  have h0 : ¬ k = 0:=of_decide_eq_false h0
  simp [h0]
  refine BrB.of (fun h14=>?_) (fun h14=>?_)
  ·have h14 : k = 14:=of_decide_eq_true h14
   subst h14
   simp [gl0]
   rw [hgp]; simp [nC,natV]
  have h14 : ¬ k = 14:=of_decide_eq_false h14
  simp [h0,h14]
  refine BrB.of (fun h15=>?_) (fun h15=>?_)
  ·have h15 : k = 15:=of_decide_eq_true h15
   subst h15
   simp [gl0]
   rw [hgp]; simp [nC,natV]
  have h15 : ¬ k = 15:=of_decide_eq_false h15
  simp [h0,h14,h15]
  refine BrB.of (fun h1=>?_) (fun h1=>?_)
  ·have h1 : k = 1:=of_decide_eq_true h1
   subst h1
   simp
   rw [hgp]; simp [nC,natV]
  have h1 : ¬ k = 1:=of_decide_eq_false h1
  simp [h0,h14,h15,h1]
  refine BrB.of (fun h2=>?_) (fun h2=>?_)
  ·have h2 : k = 2:=of_decide_eq_true h2
   subst h2
   simp
   rw [hgp]; simp [nC,natV]
  have h2 : ¬ k = 2:=of_decide_eq_false h2
  simp [h0,h14,h15,h1,h2]
  refine BrB.of (fun h5=>?_) (fun h5=>?_)
  ·have h5 : k = 5:=of_decide_eq_true h5
   subst h5
   simp
   refine CallO.pure (controlled_c 5 ts (some l.length) (by simp [ctlV]) hle (by omega)) (by simp [u8V,tbs_pure]) ?_
   simp [nC,natV]
   rw [hgp]; simp [ctlV,nC,natV]
  have h5 : ¬ k = 5:=of_decide_eq_false h5
  simp [h0,h14,h15,h1,h2,h5]
  refine BrB.of (fun h6=>?_) (fun h6=>?_)
  ·have h6 : k = 6:=of_decide_eq_true h6
   subst h6
   simp
   refine CallO.pure (controlled_c 6 ts (some l.length) (by simp [ctlV]) hle (by omega)) (by simp [u8V,tbs_pure]) ?_
   simp [nC,natV]
   rw [hgp]; simp [ctlV,nC,natV]
  have h6 : ¬ k = 6:=of_decide_eq_false h6
  simp [h0,h14,h15,h1,h2,h5,h6]
  refine BrB.of (fun h7=>?_) (fun h7=>?_)
  ·have h7 : k = 7:=of_decide_eq_true h7
   subst h7
   simp
   refine CallO.pure (controlled_c 7 ts (some l.length) (by simp [ctlV]) hle (by omega)) (by simp [u8V,tbs_pure]) ?_
   simp [nC,natV]
   rw [hgp]; simp [ctlV,nC,natV]
  have h7 : ¬ k = 7:=of_decide_eq_false h7
  simp [h0,h14,h15,h1,h2,h5,h6,h7]
  refine BrB.of (fun h8=>?_) (fun h8=>?_)
  ·have h8 : k = 8:=of_decide_eq_true h8
   subst h8
   simp
   refine CallO.pure (controlled_c 8 ts (some l.length) (by simp [ctlV]) hle (by omega)) (by simp [u8V,tbs_pure]) ?_
   simp [nC,natV]
   rw [hgp]; simp [ctlV,nC,natV]
  have h8 : ¬ k = 8:=of_decide_eq_false h8
  simp [h0,h14,h15,h1,h2,h5,h6,h7,h8]
  refine BrB.of (fun h9=>?_) (fun h9=>?_)
  ·have h9 : k = 9:=of_decide_eq_true h9
   subst h9
   simp
   refine CallO.pure (parity_c 9 ts (some l.length) hle (by omega)) (by simp [u8V,tbs_pure]) ?_
   simp [nC,natV]
   rw [hgp]; simp [ctlV,nC,natV]
  have h9 : ¬ k = 9:=of_decide_eq_false h9
  simp [h0,h14,h15,h1,h2,h5,h6,h7,h8,h9]
  refine BrB.of (fun h10=>?_) (fun h10=>?_)
  ·have h10 : k = 10:=of_decide_eq_true h10
   subst h10
   simp
   refine CallO.pure (parity_c 10 ts (some l.length) hle (by omega)) (by simp [u8V,tbs_pure]) ?_
   simp [nC,natV]
   rw [hgp]; simp [ctlV,nC,natV]
  have h10 : ¬ k = 10:=of_decide_eq_false h10
  simp [h0,h14,h15,h1,h2,h5,h6,h7,h8,h9,h10]
  refine KM.mk (.done ?_)
  simp
  intro gc
  refine KM.mk (.done ?_)
  simp
  refine BrB.of (fun h13=>?_) (fun h13=>?_)
  ·have h13 : k = 13:=of_decide_eq_true h13
   subst h13
   simp
   refine LoopP.of (X:=Nat × Nat × Nat) (fun z=>[(53,natV z.1),(52,natV l.length),(51,.sl (ts.map tbV) (some l.length)),(6,.ptr 6 (gc 6) 0 0),(4,.ptr 4 (gb 4) 0 0)])
    (fun z=>[(6,.row (gc 6) 3 [.agg [natV z.2.1,natV z.2.2,natV 0]]),(4,.row (gb 4) 2 [.agg [.int .i64 0,.int .i64 0]])]) (fun z=>z.1 ≤ ts.length∧z.2.1 = mnV false (ts.take z.1)∧z.2.2 = mnV true (ts.take z.1)) (fun z=>ts.length - z.1) (0,nev,nev) (by simp [mnV]) (by simp [natV,hlen]) (by simp [natV]) ?_
   rintro ⟨i,e,o⟩ ⟨q1,q2,q3⟩
   dsimp only at q1 q2 q3 ⊢
   have hle1:=mnV_le false (ts.take i)
   have hle2:=mnV_le true (ts.take i)
   simp [natV,← hlen]
   refine BrB.of (fun hb2=>?_) (fun hb2=>?_)
   ·have hi:=of_decide_eq_true hb2
    have hw:=wrapN i (by omega)
    obtain ⟨t,hti⟩ : ∃ t,ts[i] = t:=⟨_,rfl⟩
    have htt:=hle t (hti ▸ List.getElem_mem hi)
    simp [hi,hti,tbV,natV,min_i,hw]
    refine ⟨rfl,i + 1,_,_,⟨hi,?_,?_⟩,by omega,⟨rfl,rfl⟩,by omega⟩
    ·rw [take_snoc _ _ hi,hti,mnV_snoc _ _ _ (by simp [tv]; omega),q2]; rfl
    ·rw [take_snoc _ _ hi,hti,mnV_snoc _ _ _ (by simp [tv]; omega),q3]; rfl
   ·have hi : i = ts.length:=by have:=of_decide_eq_false hb2; omega
    subst hi
    rw [List.take_length] at q2 q3 hle1 hle2
    have hp1:=plus_c e 1 (by omega) (by omega)
    have hp2:=plus_c o 1 (by omega) (by omega)
    simp
    intro gm
    first | refine ⟨_,_,_,.pure hp1 (by simp [natV]),?_⟩ | refine ⟨_,⟨_,_,.pure hp1 (by simp [natV])⟩,?_⟩ | refine ⟨_,_,⟨_,.pure hp1 (by simp [natV])⟩,?_⟩
    simp
    first | refine ⟨_,_,_,.pure hp2 (by simp [natV]),?_⟩ | refine ⟨_,⟨_,_,.pure hp2 (by simp [natV])⟩,?_⟩ | refine ⟨_,_,⟨_,.pure hp2 (by simp [natV])⟩,?_⟩
    simp [natV]
    refine ⟨rfl,?_⟩
    rw [hgp]; simp [ctlV,nC,natV,q2,q3]
  ·have h13 : ¬ k = 13:=of_decide_eq_false h13
   simp
   refine KM.mk (.move 4 7004 _ (by decide) (by simp; rfl) fun g7=>.done ?_)
   simp [mvF,mvH,mvS,V.rn,V.rnL,Blk.rn,Blk.gen,rnL_pure _ (tbs_pure ts),rnL_pure _ (cVs_pure l)]
   refine CallO.pure (assign_c ts (some l.length) (-1)) (by simp [tbs_pure]) ?_
   simp [asgV]
   refine ⟨[(2,.ptr 2 (ga 2) 0 0),(6,.ptr 6 (gc 6) 0 0)],by simp,[(6,.row (gc 6) 3 [.agg [natV nev,natV nev,natV 0]]),(7004,.row g7 2 [.agg [natV 0,natV 0]]),(2,.row (ga 2) 1 [u8V k])],by simp [natV,u8V,hn],fun g=>?_⟩
   refine iter_c ts (some l.length) (-1) 2000079 g (hr10 k (ga 2) (gc 6) g7 g) (upB (fun a=>decide (logE k a = 0)) (fun a=>decide (logE k a = 1))) hle (by omega) (fun G a cost s K e1 e2 e3 e4=>yld10 hk (by omega) e1 e4) (nev,nev) _ (Kn_refl _) _ fun v G a h' hh=>?_
   rw [vis_bsk _ _ _ _ _ _ _ _ (by unfold nev; omega) (Nat.le_refl _) (Nat.le_refl _),bsk_past _ _ _ (by omega),bsk_past _ _ _ (by omega)] at hh
   have hz1:=bst_le ts fun a=>decide (logE k a = 0)
   have hz2:=bst_le ts fun a=>decide (logE k a = 1)
   simp only [pls_0 hz1,pls_0 hz2,List.nil_append,Nat.min_eq_right hz1,Nat.min_eq_right hz2] at hh
   have k1:=hh 2000079 _ (by simp [visH,hr10]; rfl)
   have k2:=hh 6 _ (by simp [visH,hr10]; rfl)
   have k3:=hh 7004 _ (by simp [visH,hr10]; rfl)
   clear hh
   have hgp2 : gateP k ts = (pls (bst ts fun a=>decide (logE k a = 0)) 1,pls (bst ts fun a=>decide (logE k a = 1)) 1):=by
    have hct : ¬ (ctlV k).2 = true:=by unfold ctlV; rw [if_neg (by omega),if_neg (by omega)]; simp
    rw [hgp,if_neg (by omega),if_neg (by omega),if_neg (by omega),if_neg (by omega),if_neg hct,if_neg (by omega),if_neg h13]
   generalize (bst ts fun a=>decide (logE k a = 0)) = z1 at hz1 k1 k2 k3 hgp2
   generalize (bst ts fun a=>decide (logE k a = 1)) = z2 at hz2 k1 k2 k3 hgp2
   have hp1:=plus_c z1 1 (by omega) (by omega)
   have hp2:=plus_c z2 1 (by omega) (by omega)
   refine ⟨_,_,_,_,_,k1,?_⟩
   simp
   refine KM.mk (.done ?_)
   simp [k2]
   intro gm
   first | refine ⟨_,_,_,.pure hp1 (by simp [natV]),?_⟩ | refine ⟨_,⟨_,_,.pure hp1 (by simp [natV])⟩,?_⟩ | refine ⟨_,_,⟨_,.pure hp1 (by simp [natV])⟩,?_⟩
   simp [k2]
   first | refine ⟨_,_,_,.pure hp2 (by simp [natV]),?_⟩ | refine ⟨_,⟨_,_,.pure hp2 (by simp [natV])⟩,?_⟩ | refine ⟨_,_,⟨_,.pure hp2 (by simp [natV])⟩,?_⟩
   simp [k3,natV]
   refine ⟨rfl,?_⟩
   rw [hgp2]; simp [nC,natV]
end Go.Proofs.YtcmblmkbdenakaaGreatDoor
