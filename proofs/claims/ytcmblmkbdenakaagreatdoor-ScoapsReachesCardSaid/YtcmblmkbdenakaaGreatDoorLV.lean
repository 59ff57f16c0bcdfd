/- Costs: the contract of Pin. Conditions: none. -/
import Derived.Test.YtcmblmkbdenakaaGreatDoorC3
import Derived.Test.YtcmblmkbdenakaaGreatDoorXG
set_option linter.unusedSimpArgs false
set_option linter.unusedVariables false
namespace Go.Proofs.YtcmblmkbdenakaaGreatDoor
open Go
theorem clone39_c (l : List Nat) (cap : Option Nat) (h0 : l ≠ []) (hl : l.length < 1000000) : OwnC Tryz.prog gl0 33 [.sl (l.map u8V) cap] (OneB 1 (l.map u8V) none):=by
 refine OwnC.of_W ok33 rfl ?_
 obtain ⟨x,r,rfl⟩ : ∃ x r,l = x :: r:=by cases l with
  | nil=>exact absurd rfl h0
  | cons x r=>exact ⟨x,r,rfl⟩
 have hp:=u8s_pure (x :: r)
 have hx : (x :: r).map u8V = u8V x :: r.map u8V:=rfl
 rw [hx] at hp ⊢
 simp at hl
 simp [i33,x33]
 intro gf0
 simp [nop]
 intro gf1 gf2
 have hc : (u8V x).cells.length = 1:=rfl
 have hall : (r.all ((fun x=>decide (x.cells.length = 1)) ∘ u8V)) = true:=List.all_eq_true.2 fun x _=>rfl
 have hle : r.length + 1 ≤ 274877906944:=by omega
 simp [hc,hall,hle]
 refine .move 5 0 _ (by simp) (by simp; rfl) fun g=>.done ?_
 simp
 exact ⟨[(0,.row g 1 (u8V x :: r.map u8V))],by simp [Blk.rn,V.rn,map_rn_pure (u8s_pure r),u8V],g,by simp,rfl⟩
theorem frz_rowP {h : Hp} {b g n sz : Nat} {cap : Option Nat} {L : List V} (m : Nat) (hb : lk h b = some (.row g sz L)) (hp : V.pureL L = true) (hn : n = L.length) : frz h (m + 1) (.ref b g 0 n cap) = .sl L cap:=by
 subst hn
 have : L.map (frz h m) = L:=by
  conv=>rhs; rw [← List.map_id L]
  exact List.map_congr_left fun x hx=>frz_pure _ _ ((V.pureL_iff L).1 hp x hx)
 simp [frz,V.mapR,hb]
 exact this
def smk (f : Nat × Nat→Nat) (kp : Int) : Nat→List (Nat × Nat)→Nat
 | _,[]=>0
 | i,t :: ts=>if (i : Int) = kp then smk f kp (i + 1) ts else pls (f t) (smk f kp (i + 1) ts)
theorem smk_le (f : Nat × Nat→Nat) (kp : Int) : ∀ (ts : List (Nat × Nat)) (i : Nat),smk f kp i ts ≤ nev
 | [],_=>Nat.zero_le _
 | t :: ts,i=>by unfold smk; split; exact smk_le f kp ts _; exact pls_le _ _
theorem smk_snoc (f : Nat × Nat→Nat) (kp : Int) (t : Nat × Nat) (ht : f t ≤ nev) : ∀ (l : List (Nat × Nat)) (i : Nat),smk f kp i (l ++ [t]) = if ((i + l.length : Nat) : Int) = kp then smk f kp i l else pls (smk f kp i l) (f t)
 | [],i=>by simp only [List.nil_append,smk,List.length_nil,Nat.add_zero,pls_comm (f t) 0]
 | x :: l,i=>by
  simp only [List.cons_append,smk,List.length_cons]
  rw [smk_snoc f kp t ht l (i + 1)]
  have e : (i + 1 + l.length : Nat) = i + (l.length + 1):=by omega
  rw [e]
  by_cases h : (i : Int) = kp
  ·rw [if_pos h,if_pos h]
  ·rw [if_neg h,if_neg h]
   by_cases h2 : ((i + (l.length + 1) : Nat) : Int) = kp
   ·rw [if_pos h2,if_pos h2]
   ·rw [if_neg h2,if_neg h2,pls_assoc]
def sees (k p : Nat) (a : List Nat) : Bool:=decide (logE k (a.set p 0) ≤ 1) && decide (logE k (a.set p 1) ≤ 1) && !decide (logE k (a.set p 0) = logE k (a.set p 1))
def pnP (k : Nat) (p : Int) (ts : List (Nat × Nat)) : Nat:=
 if (decide (k ≤ 15) && widB k ts.length) = false∨k = 14∨p < 0∨(ts.length : Int) ≤ p then nev
 else if k = 13 then 1
 else if (ctlV k).2 = true then pls (smk (tv (decide ((ctlV k).1 = 0))) p 0 ts) 1
 else if k = 9∨k = 10 then pls (smk (fun t=>min t.1 t.2) p 0 ts) 1
 else pls (bsk p 0 ts (sees k p.toNat)) 1
noncomputable def hr13 (k p g3 g4 gb g : Nat) (z : Nat × Nat) : Hp:=[(2000101,.loop g 135 [(3,.ptr 7003 g3 0 0),(4,.ptr 7004 g4 0 0),(15,.ptr 15 gb 0 0)] [101,102] ra8_0 rb8_0 false),(15,.row gb 1 [natV z.1]),(7003,.row g3 1 [u8V k]),(7004,.row g4 1 [natV p])]
theorem yld13 {ts : List (Nat × Nat)} {cap : Option Nat} {G : VG} {k p g3 g4 gb g cost : Nat} {a : List Nat} {z : Nat × Nat} {K : V→Hp→Prop} (hk : k < 256) (hl : ts.length < 1000000) (hp : p < ts.length) (ha : a.length = ts.length)
  (hK : ∀ h',Kn (visH ts cap p G 2000101 g (hr13 k p g3 g4 gb g (upB (sees k p) (fun _=>false) a cost z)) a) h'→K (.bool true) h') :
  IYield Tryz.prog gl0 2000101 g [.ref 8 G.g8 0 ts.length (some ts.length),natV cost] (visH ts cap p G 2000101 g (hr13 k p g3 g4 gb g z) a) K:=by
 have hlog0:=logE_c k hk (a.set p 0) none (by simp; omega)
 have hlog1:=logE_c k hk (a.set p 1) none (by simp; omega)
 have hcl:=clone39_c a (some ts.length) (fun e=>by rw [e] at ha; simp at ha; omega) (by omega)
 have hft : ∀ (f : Nat→Nat→Nat→Nat→Option Nat→V) (p : Nat→Nat→Nat→Nat→V),List.take ts.length (List.map (fun x=>V.mapR f p x) (a.map u8V)) = a.map u8V:=fun f p=>takeR (u8s_pure a) (by simp [ha]) f p
 refine IYield.of_W rok8_0 (show lk (visH ts cap p G 2000101 g (hr13 k p g3 g4 gb g z) a) 2000101 = some (.loop g 135 [(3,.ptr 7003 g3 0 0),(4,.ptr 7004 g4 0 0),(15,.ptr 15 gb 0 0)] [101,102] ra8_0 rb8_0 false) by simp [visH,hr13]) rfl ?_
 simp [xa8_0,xb8_0,visH,hr13,u8V]
 refine ⟨_,_,_,_,_,⟨rfl,rfl,rfl,rfl,rfl⟩,?_⟩
 refine CallO.ownBorrow 1 3000000 hcl (by
  simp [ha]
  rw [← List.map_map]; exact hft _ _) (by simp) fun v h' hv=>?_
 obtain ⟨gc,rfl,rfl⟩:=hv
 have hng : V.noGL (a.map u8V) = true:=V.noGL_map (fun _=>rfl) a
 have hrn : ∀ s,(V.rn s ∘ u8V) = u8V:=fun s=>rfl
 refine ⟨rfl,fun b x hx=>?_,fun gf=>?_⟩
 ·simp only [lk] at hx
  split at hx
  ·cases hx; exact hng
  ·cases hx
 simp [upS,upH,V.rn,Blk.rn,Blk.gen,hrn]
 generalize gf 3000000 + gc = g1
 refine CallO.ownBorrow 1 4000000 hcl (by
  simp [ha]
  rw [← List.map_map]; exact hft _ _) (by simp) fun v h' hv=>?_
 obtain ⟨gc,rfl,rfl⟩:=hv
 refine ⟨rfl,fun b x hx=>?_,fun gf=>?_⟩
 ·simp only [lk] at hx
  split at hx
  ·cases hx; exact hng
  ·cases hx
 simp [upS,upH,V.rn,Blk.rn,Blk.gen,hrn]
 generalize gf 4000000 + gc = g2
 have hpa : p < a.length:=by omega
 have hs0 : (List.map u8V a).set p (.int .u8 0) = (a.set p 0).map u8V:=by rw [List.map_set]; rfl
 have hs1 : (List.map u8V a).set p (.int .u8 1) = (a.set p 1).map u8V:=by rw [List.map_set]; rfl
 simp [natV,u8V,hpa]
 refine ⟨rfl,fun gm=>?_⟩
 first | refine ⟨_,_,_,.borrow 1 hlog0 (by
  rw [List.map_cons,List.map_cons,List.map_nil,frz_rowP (sz:=1) 0 (L:=(a.set p 0).map u8V) (by simp [u8V]) (u8s_pure _) (by simp)]; rfl) rfl,?_⟩ | refine ⟨_,⟨_,_,.borrow 1 hlog0 (by
  rw [List.map_cons,List.map_cons,List.map_nil,frz_rowP (sz:=1) 0 (L:=(a.set p 0).map u8V) (by simp [u8V]) (u8s_pure _) (by simp)]; rfl) rfl⟩,?_⟩ | refine ⟨_,_,⟨_,.borrow 1 hlog0 (by
  rw [List.map_cons,List.map_cons,List.map_nil,frz_rowP (sz:=1) 0 (L:=(a.set p 0).map u8V) (by simp [u8V]) (u8s_pure _) (by simp)]; rfl) rfl⟩,?_⟩
 simp
 first | refine ⟨_,_,_,.borrow 1 hlog1 (by
  rw [List.map_cons,List.map_cons,List.map_nil,frz_rowP (sz:=1) 0 (L:=(a.set p 1).map u8V) (by simp [u8V]) (u8s_pure _) (by simp)]; rfl) rfl,?_⟩ | refine ⟨_,⟨_,_,.borrow 1 hlog1 (by
  rw [List.map_cons,List.map_cons,List.map_nil,frz_rowP (sz:=1) 0 (L:=(a.set p 1).map u8V) (by simp [u8V]) (u8s_pure _) (by simp)]; rfl) rfl⟩,?_⟩ | refine ⟨_,_,⟨_,.borrow 1 hlog1 (by
  rw [List.map_cons,List.map_cons,List.map_nil,frz_rowP (sz:=1) 0 (L:=(a.set p 1).map u8V) (by simp [u8V]) (u8s_pure _) (by simp)]; rfl) rfl⟩,?_⟩
 have hsee : sees k p a = (decide (logE k (a.set p 0) ≤ 1) && decide (logE k (a.set p 1) ≤ 1) && !decide (logE k (a.set p 0) = logE k (a.set p 1))):=rfl
 generalize logE k (a.set p 0) = x at hsee
 generalize logE k (a.set p 1) = y at hsee
 simp [u8V]
 refine ⟨rfl,?_⟩
 by_cases h1 : x ≤ 1
 ·by_cases h2 : y ≤ 1
  ·by_cases h3 : x = y
   ·subst h3
    simp [h1]
    refine .done ⟨_,_,_,_,_,by simp; exact ⟨rfl,rfl,rfl,rfl,rfl⟩,_,Sub_ddup _,hK _ (Sub.spec ?_)⟩
    simp [visH,hr13,lk_ddup,upB,hsee,natV,u8V,h1]
   ·simp [h1,h2,h3,natV,min_i]
    refine .done ⟨_,_,_,_,_,by simp; exact ⟨rfl,rfl,rfl,rfl,rfl⟩,_,Sub_ddup _,hK _ (Sub.spec ?_)⟩
    simp [visH,hr13,lk_ddup,upB,hsee,natV,u8V,h1,h2,h3]
  ·simp [h1,h2]
   refine .done ⟨_,_,_,_,_,by simp; exact ⟨rfl,rfl,rfl,rfl,rfl⟩,_,Sub_ddup _,hK _ (Sub.spec ?_)⟩
   simp [visH,hr13,lk_ddup,upB,hsee,natV,u8V,h1,h2]
 ·simp [h1]
  refine .done ⟨_,_,_,_,_,by simp; exact ⟨rfl,rfl,rfl,rfl,rfl⟩,_,Sub_ddup _,hK _ (Sub.spec ?_)⟩
  simp [visH,hr13,lk_ddup,upB,hsee,natV,u8V,h1]
theorem pnP_fit {k : Nat} {p : Nat} {ts : List (Nat × Nat)} (h : (decide (k ≤ 15) && widB k ts.length) = true) (h14 : ¬ k = 14) (hp : p < ts.length) : pnP k p ts =
 if k = 13 then 1
 else if (ctlV k).2 = true then pls (smk (tv (decide ((ctlV k).1 = 0))) p 0 ts) 1
 else if k = 9∨k = 10 then pls (smk (fun t=>min t.1 t.2) p 0 ts) 1
 else pls (bsk p 0 ts (sees k p)) 1:=by
 unfold pnP; rw [if_neg (by rw [h]; simp [h14]; omega),Int.toNat_natCast]
set_option maxRecDepth 100000 in
theorem spin_c (k : Nat) (hk : k < 256) (p : Int) (l : List (Int × Int)) (cap : Option Nat) (hl : l.length < 1000000) : PureC Tryz.prog gl0 8 [u8V k,.int .i64 p,.sl (l.map cV) cap] (natV (pnP k p (l.map capC))):=by
 have hf:=fits_c k l.length hk hl
 have htb:=tables_c l cap hl
 have hle:=caps_le l
 have hlen : (l.map capC).length = l.length:=by simp
 have hn : nev = 1073741824:=rfl
 have hct:=lctrl_c k
 have hu0 : IntKind.u8.wrap 0 = 0:=by decide
 have hu1 : IntKind.u8.wrap 1 = 1:=by decide
 generalize hts : l.map capC = ts at htb hle hlen ⊢
 rw [← hlen] at hf
 by_cases hbad : (decide (k ≤ 15) && widB k ts.length) = false∨k = 14∨p < 0∨(ts.length : Int) ≤ p
 ·have hpn : pnP k p ts = nev:=by unfold pnP; rw [if_pos hbad]
  refine PureC.of_W 2 ok8 rfl ?_
  simp [i8,x8,u8V]
  intro ga gb
  rw [← hlen]
  refine CallO.pure hf (by simp [u8V,natV]) ?_
  generalize (decide (k ≤ 15) && widB k ts.length) = q at hbad
  rw [hpn]
  have hx : nev = 1073741824:=rfl
  cases q with
  | false=>simp [natV,hx]
  | true=>
   by_cases h1 : k = 14
   ·subst h1; simp [natV,hx]
   ·by_cases h2 : p < 0
    ·simp [h1,h2,natV,hx]
    ·have h3 : (l.length : Int) ≤ p:=by
      rcases hbad with h | h | h | h
      ·cases h
      ·exact absurd h h1
      ·exact absurd h h2
      ·rw [← hlen]; exact h
     simp [h1,h2,h3,natV,hx]
 ·have hfit : (decide (k ≤ 15) && widB k ts.length) = true:=by
   cases h : (decide (k ≤ 15) && widB k ts.length)
   ·exact absurd (.inl h) hbad
   ·rfl
  have h14 : ¬ k = 14:=fun h=>hbad (.inr (.inl h))
  obtain ⟨p,rfl⟩ : ∃ q : Nat,p = q:=⟨p.toNat,by omega⟩
  have hp : p < ts.length:=by omega
  have hpn:=pnP_fit hfit h14 hp
  rw [hfit] at hf
  refine PureC.of_WM 7 2 ok8 rfl ?_
  simp [i8,x8,u8V]
  intro ga gb
  refine KM.mk (.done ?_)
  simp
  rw [← hlen]
  refine CallO.pure hf (by simp [u8V,natV]) ?_
  have hp2 : ¬ l.length ≤ p:=by omega
  have hle2 : ∀ t ∈ ts,tv true t ≤ nev∧tv false t ≤ nev:=fun t ht=>⟨(hle t ht).2,(hle t ht).1⟩
  simp [h14,hp2]
  refine KM.mk (.done ?_)
  simp
  refine CallO.pure htb (by simp [cVs_pure]) ?_
  simp
  refine KM.mk (.done ?_)
  simp
  refine KM.mk (.done ?_)
  simp
  refine BrB.of (fun h13=>?_) (fun h13=>?_)
  ·have h13 : k = 13:=of_decide_eq_true h13
   subst h13
   simp
   rw [hpn]; simp [natV]
  have h13 : ¬ k = 13:=of_decide_eq_false h13
  simp [h13]
  refine BrB.of (fun h5=>?_) (fun h5=>?_)
  ·have h5 : k = 5:=of_decide_eq_true h5
   subst h5
   simp
   refine CallO.pure hct (by simp [u8V]) ?_
   simp [ctlV,u8V]
   refine LoopP.of (X:=Nat × Nat) (fun z=>[(58,natV z.1),(57,natV ts.length),(56,.sl (ts.map tbV) (some l.length)),(8,natV z.2),(9,u8V 0),(4,.ptr 4 (gb 4) 0 0)])
    (fun z=>[(4,.row (gb 4) 1 [natV p])]) (fun z=>z.1 ≤ ts.length∧z.2 = smk (tv true) p 0 (ts.take z.1)) (fun z=>ts.length - z.1) (0,0) (by simp [smk]) (by simp [natV,u8V,hlen]) (by simp [natV]) ?_
   rintro ⟨i,sm⟩ ⟨q1,q2⟩
   dsimp only at q1 q2 ⊢
   have hsm:=smk_le (tv true) p (ts.take i) 0
   rw [← q2] at hsm
   simp [natV,u8V]
   refine BrB.of (fun hb2=>?_) (fun hb2=>?_)
   ·have hi:=of_decide_eq_true hb2
    have hw:=wrapN i (by omega)
    obtain ⟨t,hti⟩ : ∃ t,ts[i] = t:=⟨_,rfl⟩
    have htt:=hle t (hti ▸ List.getElem_mem hi)
    have hsn:=smk_snoc (tv true) p t (by simp [tv]; omega) (ts.take i) 0
    rw [List.length_take,Nat.min_eq_left (by omega),Nat.zero_add,← q2] at hsn
    have hpc:=plus_c sm t.2 (by omega) (by omega)
    simp [hi,hti,tbV,natV,u8V]
    intro gx
    refine BrB.of (fun hb3=>?_) (fun hb3=>?_)
    ·have he : i = p:=by simpa using hb3
     rw [if_pos (by omega)] at hsn
     simp [hw]
     exact ⟨i + 1,_,⟨hi,by rw [take_snoc _ _ hi,hti,hsn]⟩,⟨by omega,rfl⟩,by omega⟩
    ·have hne : ¬ i = p:=by simpa using hb3
     rw [if_neg (by omega)] at hsn
     simp [hne,hu0,hu1]
     refine CallO.pure hpc (by simp [natV]) ?_
     simp [natV,hw]
     exact ⟨i + 1,_,⟨hi,by rw [take_snoc _ _ hi,hti,hsn]; rfl⟩,⟨by omega,rfl⟩,by omega⟩
   ·have hi : i = ts.length:=by have:=of_decide_eq_false hb2; omega
    subst hi
    rw [List.take_length] at q2
    have hpc:=plus_c sm 1 (by omega) (by omega)
    simp
    refine CallO.pure hpc (by simp [natV]) ?_
    simp [natV]
    rw [hpn]; simp [ctlV,q2]
  have h5 : ¬ k = 5:=of_decide_eq_false h5
  simp [h13,h5]
  refine BrB.of (fun h6=>?_) (fun h6=>?_)
  ·have h6 : k = 6:=of_decide_eq_true h6
   subst h6
   simp
   refine CallO.pure hct (by simp [u8V]) ?_
   simp [ctlV,u8V]
   refine LoopP.of (X:=Nat × Nat) (fun z=>[(58,natV z.1),(57,natV ts.length),(56,.sl (ts.map tbV) (some l.length)),(8,natV z.2),(9,u8V 0),(4,.ptr 4 (gb 4) 0 0)])
    (fun z=>[(4,.row (gb 4) 1 [natV p])]) (fun z=>z.1 ≤ ts.length∧z.2 = smk (tv true) p 0 (ts.take z.1)) (fun z=>ts.length - z.1) (0,0) (by simp [smk]) (by simp [natV,u8V,hlen]) (by simp [natV]) ?_
   rintro ⟨i,sm⟩ ⟨q1,q2⟩
   dsimp only at q1 q2 ⊢
   have hsm:=smk_le (tv true) p (ts.take i) 0
   rw [← q2] at hsm
   simp [natV,u8V]
   refine BrB.of (fun hb2=>?_) (fun hb2=>?_)
   ·have hi:=of_decide_eq_true hb2
    have hw:=wrapN i (by omega)
    obtain ⟨t,hti⟩ : ∃ t,ts[i] = t:=⟨_,rfl⟩
    have htt:=hle t (hti ▸ List.getElem_mem hi)
    have hsn:=smk_snoc (tv true) p t (by simp [tv]; omega) (ts.take i) 0
    rw [List.length_take,Nat.min_eq_left (by omega),Nat.zero_add,← q2] at hsn
    have hpc:=plus_c sm t.2 (by omega) (by omega)
    simp [hi,hti,tbV,natV,u8V]
    intro gx
    refine BrB.of (fun hb3=>?_) (fun hb3=>?_)
    ·have he : i = p:=by simpa using hb3
     rw [if_pos (by omega)] at hsn
     simp [hw]
     exact ⟨i + 1,_,⟨hi,by rw [take_snoc _ _ hi,hti,hsn]⟩,⟨by omega,rfl⟩,by omega⟩
    ·have hne : ¬ i = p:=by simpa using hb3
     rw [if_neg (by omega)] at hsn
     simp [hne,hu0,hu1]
     refine CallO.pure hpc (by simp [natV]) ?_
     simp [natV,hw]
     exact ⟨i + 1,_,⟨hi,by rw [take_snoc _ _ hi,hti,hsn]; rfl⟩,⟨by omega,rfl⟩,by omega⟩
   ·have hi : i = ts.length:=by have:=of_decide_eq_false hb2; omega
    subst hi
    rw [List.take_length] at q2
    have hpc:=plus_c sm 1 (by omega) (by omega)
    simp
    refine CallO.pure hpc (by simp [natV]) ?_
    simp [natV]
    rw [hpn]; simp [ctlV,q2]
  have h6 : ¬ k = 6:=of_decide_eq_false h6
  simp [h13,h5,h6]
  refine BrB.of (fun h7=>?_) (fun h7=>?_)
  ·have h7 : k = 7:=of_decide_eq_true h7
   subst h7
   simp
   refine CallO.pure hct (by simp [u8V]) ?_
   simp [ctlV,u8V]
   refine LoopP.of (X:=Nat × Nat) (fun z=>[(58,natV z.1),(57,natV ts.length),(56,.sl (ts.map tbV) (some l.length)),(8,natV z.2),(9,u8V 1),(4,.ptr 4 (gb 4) 0 0)])
    (fun z=>[(4,.row (gb 4) 1 [natV p])]) (fun z=>z.1 ≤ ts.length∧z.2 = smk (tv false) p 0 (ts.take z.1)) (fun z=>ts.length - z.1) (0,0) (by simp [smk]) (by simp [natV,u8V,hlen]) (by simp [natV]) ?_
   rintro ⟨i,sm⟩ ⟨q1,q2⟩
   dsimp only at q1 q2 ⊢
   have hsm:=smk_le (tv false) p (ts.take i) 0
   rw [← q2] at hsm
   simp [natV,u8V]
   refine BrB.of (fun hb2=>?_) (fun hb2=>?_)
   ·have hi:=of_decide_eq_true hb2
    have hw:=wrapN i (by omega)
    obtain ⟨t,hti⟩ : ∃ t,ts[i] = t:=⟨_,rfl⟩
    have htt:=hle t (hti ▸ List.getElem_mem hi)
    have hsn:=smk_snoc (tv false) p t (by simp [tv]; omega) (ts.take i) 0
    rw [List.length_take,Nat.min_eq_left (by omega),Nat.zero_add,← q2] at hsn
    have hpc:=plus_c sm t.1 (by omega) (by omega)
    simp [hi,hti,tbV,natV,u8V]
    intro gx
    refine BrB.of (fun hb3=>?_) (fun hb3=>?_)
    ·have he : i = p:=by simpa using hb3
     rw [if_pos (by omega)] at hsn
     simp [hw]
     exact ⟨i + 1,_,⟨hi,by rw [take_snoc _ _ hi,hti,hsn]⟩,⟨by omega,rfl⟩,by omega⟩
    ·have hne : ¬ i = p:=by simpa using hb3
     rw [if_neg (by omega)] at hsn
     simp [hne,hu0,hu1]
     refine CallO.pure hpc (by simp [natV]) ?_
     simp [natV,hw]
     exact ⟨i + 1,_,⟨hi,by rw [take_snoc _ _ hi,hti,hsn]; rfl⟩,⟨by omega,rfl⟩,by omega⟩
   ·have hi : i = ts.length:=by have:=of_decide_eq_false hb2; omega
    subst hi
    rw [List.take_length] at q2
    have hpc:=plus_c sm 1 (by omega) (by omega)
    simp
    refine CallO.pure hpc (by simp [natV]) ?_
    simp [natV]
    rw [hpn]; simp [ctlV,q2]
  have h7 : ¬ k = 7:=of_decide_eq_false h7
  simp [h13,h5,h6,h7]
  refine BrB.of (fun h8=>?_) (fun h8=>?_)
  ·have h8 : k = 8:=of_decide_eq_true h8
   subst h8
   simp
   refine CallO.pure hct (by simp [u8V]) ?_
   simp [ctlV,u8V]
   refine LoopP.of (X:=Nat × Nat) (fun z=>[(58,natV z.1),(57,natV ts.length),(56,.sl (ts.map tbV) (some l.length)),(8,natV z.2),(9,u8V 1),(4,.ptr 4 (gb 4) 0 0)])
    (fun z=>[(4,.row (gb 4) 1 [natV p])]) (fun z=>z.1 ≤ ts.length∧z.2 = smk (tv false) p 0 (ts.take z.1)) (fun z=>ts.length - z.1) (0,0) (by simp [smk]) (by simp [natV,u8V,hlen]) (by simp [natV]) ?_
   rintro ⟨i,sm⟩ ⟨q1,q2⟩
   dsimp only at q1 q2 ⊢
   have hsm:=smk_le (tv false) p (ts.take i) 0
   rw [← q2] at hsm
   simp [natV,u8V]
   refine BrB.of (fun hb2=>?_) (fun hb2=>?_)
   ·have hi:=of_decide_eq_true hb2
    have hw:=wrapN i (by omega)
    obtain ⟨t,hti⟩ : ∃ t,ts[i] = t:=⟨_,rfl⟩
    have htt:=hle t (hti ▸ List.getElem_mem hi)
    have hsn:=smk_snoc (tv false) p t (by simp [tv]; omega) (ts.take i) 0
    rw [List.length_take,Nat.min_eq_left (by omega),Nat.zero_add,← q2] at hsn
    have hpc:=plus_c sm t.1 (by omega) (by omega)
    simp [hi,hti,tbV,natV,u8V]
    intro gx
    refine BrB.of (fun hb3=>?_) (fun hb3=>?_)
    ·have he : i = p:=by simpa using hb3
     rw [if_pos (by omega)] at hsn
     simp [hw]
     exact ⟨i + 1,_,⟨hi,by rw [take_snoc _ _ hi,hti,hsn]⟩,⟨by omega,rfl⟩,by omega⟩
    ·have hne : ¬ i = p:=by simpa using hb3
     rw [if_neg (by omega)] at hsn
     simp [hne,hu0,hu1]
     refine CallO.pure hpc (by simp [natV]) ?_
     simp [natV,hw]
     exact ⟨i + 1,_,⟨hi,by rw [take_snoc _ _ hi,hti,hsn]; rfl⟩,⟨by omega,rfl⟩,by omega⟩
   ·have hi : i = ts.length:=by have:=of_decide_eq_false hb2; omega
    subst hi
    rw [List.take_length] at q2
    have hpc:=plus_c sm 1 (by omega) (by omega)
    simp
    refine CallO.pure hpc (by simp [natV]) ?_
    simp [natV]
    rw [hpn]; simp [ctlV,q2]
  have h8 : ¬ k = 8:=of_decide_eq_false h8
  simp [h13,h5,h6,h7,h8]
  refine BrB.of (fun h9=>?_) (fun h9=>?_)
  ·have h9 : k = 9:=of_decide_eq_true h9
   subst h9
   simp
   refine LoopP.of (X:=Nat × Nat) (fun z=>[(80,natV z.1),(79,natV ts.length),(78,.sl (ts.map tbV) (some l.length)),(8,natV z.2),(4,.ptr 4 (gb 4) 0 0)])
    (fun z=>[(4,.row (gb 4) 1 [natV p])]) (fun z=>z.1 ≤ ts.length∧z.2 = smk (fun t=>min t.1 t.2) p 0 (ts.take z.1)) (fun z=>ts.length - z.1) (0,0) (by simp [smk]) (by simp [natV,u8V,hlen]) (by simp [natV]) ?_
   rintro ⟨i,sm⟩ ⟨q1,q2⟩
   dsimp only at q1 q2 ⊢
   have hsm:=smk_le (fun t=>min t.1 t.2) p (ts.take i) 0
   rw [← q2] at hsm
   simp [natV,u8V]
   refine BrB.of (fun hb2=>?_) (fun hb2=>?_)
   ·have hi:=of_decide_eq_true hb2
    have hw:=wrapN i (by omega)
    obtain ⟨t,hti⟩ : ∃ t,ts[i] = t:=⟨_,rfl⟩
    have htt:=hle t (hti ▸ List.getElem_mem hi)
    have hsn:=smk_snoc (fun t=>min t.1 t.2) p t (by show min t.1 t.2 ≤ nev; omega) (ts.take i) 0
    rw [List.length_take,Nat.min_eq_left (by omega),Nat.zero_add,← q2] at hsn
    have hpc:=plus_c sm (min t.1 t.2) (by omega) (by omega)
    simp [hi,hti,tbV,natV,u8V]
    intro gx
    refine BrB.of (fun hb3=>?_) (fun hb3=>?_)
    ·have he : i = p:=by simpa using hb3
     rw [if_pos (by omega)] at hsn
     simp [hw]
     exact ⟨i + 1,_,⟨hi,by rw [take_snoc _ _ hi,hti,hsn]⟩,⟨by omega,rfl⟩,by omega⟩
    ·have hne : ¬ i = p:=by simpa using hb3
     rw [if_neg (by omega)] at hsn
     simp [hne,min_i]
     refine CallO.pure hpc (by simp [natV]) ?_
     simp [natV,hw]
     exact ⟨i + 1,_,⟨hi,by rw [take_snoc _ _ hi,hti,hsn]⟩,⟨by omega,rfl⟩,by omega⟩
   ·have hi : i = ts.length:=by have:=of_decide_eq_false hb2; omega
    subst hi
    rw [List.take_length] at q2
    have hpc:=plus_c sm 1 (by omega) (by omega)
    simp
    refine CallO.pure hpc (by simp [natV]) ?_
    simp [natV]
    rw [hpn]; simp [ctlV,q2]
  have h9 : ¬ k = 9:=of_decide_eq_false h9
  simp [h13,h5,h6,h7,h8,h9]
  refine BrB.of (fun h10=>?_) (fun h10=>?_)
  ·have h10 : k = 10:=of_decide_eq_true h10
   subst h10
   simp
   refine LoopP.of (X:=Nat × Nat) (fun z=>[(80,natV z.1),(79,natV ts.length),(78,.sl (ts.map tbV) (some l.length)),(8,natV z.2),(4,.ptr 4 (gb 4) 0 0)])
    (fun z=>[(4,.row (gb 4) 1 [natV p])]) (fun z=>z.1 ≤ ts.length∧z.2 = smk (fun t=>min t.1 t.2) p 0 (ts.take z.1)) (fun z=>ts.length - z.1) (0,0) (by simp [smk]) (by simp [natV,u8V,hlen]) (by simp [natV]) ?_
   rintro ⟨i,sm⟩ ⟨q1,q2⟩
   dsimp only at q1 q2 ⊢
   have hsm:=smk_le (fun t=>min t.1 t.2) p (ts.take i) 0
   rw [← q2] at hsm
   simp [natV,u8V]
   refine BrB.of (fun hb2=>?_) (fun hb2=>?_)
   ·have hi:=of_decide_eq_true hb2
    have hw:=wrapN i (by omega)
    obtain ⟨t,hti⟩ : ∃ t,ts[i] = t:=⟨_,rfl⟩
    have htt:=hle t (hti ▸ List.getElem_mem hi)
    have hsn:=smk_snoc (fun t=>min t.1 t.2) p t (by show min t.1 t.2 ≤ nev; omega) (ts.take i) 0
    rw [List.length_take,Nat.min_eq_left (by omega),Nat.zero_add,← q2] at hsn
    have hpc:=plus_c sm (min t.1 t.2) (by omega) (by omega)
    simp [hi,hti,tbV,natV,u8V]
    intro gx
    refine BrB.of (fun hb3=>?_) (fun hb3=>?_)
    ·have he : i = p:=by simpa using hb3
     rw [if_pos (by omega)] at hsn
     simp [hw]
     exact ⟨i + 1,_,⟨hi,by rw [take_snoc _ _ hi,hti,hsn]⟩,⟨by omega,rfl⟩,by omega⟩
    ·have hne : ¬ i = p:=by simpa using hb3
     rw [if_neg (by omega)] at hsn
     simp [hne,min_i]
     refine CallO.pure hpc (by simp [natV]) ?_
     simp [natV,hw]
     exact ⟨i + 1,_,⟨hi,by rw [take_snoc _ _ hi,hti,hsn]⟩,⟨by omega,rfl⟩,by omega⟩
   ·have hi : i = ts.length:=by have:=of_decide_eq_false hb2; omega
    subst hi
    rw [List.take_length] at q2
    have hpc:=plus_c sm 1 (by omega) (by omega)
    simp
    refine CallO.pure hpc (by simp [natV]) ?_
    simp [natV]
    rw [hpn]; simp [ctlV,q2]
  have h10 : ¬ k = 10:=of_decide_eq_false h10
  simp [h13,h5,h6,h7,h8,h9,h10]
  refine KM.mk (.done ?_)
  simp
  intro gc
  refine KM.mk (.move 3 7003 _ (by decide) (by simp; rfl) fun g3=>.move 4 7004 _ (by decide) (by simp [mvH,mvS]; rfl) fun g4=>.done ?_)
  simp [mvF,mvH,mvS,V.rn,V.rnL,Blk.rn,Blk.gen,rnL_pure _ (tbs_pure ts),rnL_pure _ (cVs_pure l)]
  refine CallO.pure (assign_c ts (some l.length) p) (by simp [tbs_pure]) ?_
  simp [asgV]
  refine ⟨[(3,.ptr 7003 g3 0 0),(4,.ptr 7004 g4 0 0),(15,.ptr 15 (gc 15) 0 0)],by simp,[(15,.row (gc 15) 1 [natV nev]),(7003,.row g3 1 [u8V k]),(7004,.row g4 1 [natV p])],by simp [natV,u8V,hn],fun g=>?_⟩
  refine iter_c ts (some l.length) p 2000101 g (hr13 k p g3 g4 (gc 15) g) (upB (sees k p) fun _=>false) hle (by omega) (fun G a cost s K e1 e2 e3 e4=>yld13 hk (by omega) hp e1 e4) (nev,nev) _ (Kn_refl _) _ fun v G a h' hh=>?_
  rw [vis_bsk _ _ _ _ _ _ _ _ (by unfold nev; omega) (Nat.le_refl _) (Nat.le_refl _)] at hh
  have hz1:=bsk_le p ts 0 (sees k p)
  simp only [pls_0 hz1,List.nil_append,Nat.min_eq_right hz1] at hh
  have k1:=hh 2000101 _ (by simp [visH,hr13]; rfl)
  have k2:=hh 15 _ (by simp [visH,hr13]; rfl)
  clear hh
  have hpn2 : pnP k p ts = pls (bsk p 0 ts (sees k p)) 1:=by
   have hct : ¬ (ctlV k).2 = true:=by unfold ctlV; rw [if_neg (by omega),if_neg (by omega)]; simp
   rw [hpn,if_neg h13,if_neg hct,if_neg (by omega)]
  generalize (bsk p 0 ts (sees k p)) = z1 at hz1 k1 k2 hpn2
  have hp1:=plus_c z1 1 (by omega) (by omega)
  refine ⟨_,_,_,_,_,k1,?_⟩
  simp
  refine KM.mk (.done ?_)
  simp [k2,natV]
  refine CallO.pure hp1 (by simp [natV]) ?_
  simp [natV]
  rw [hpn2]
end Go.Proofs.YtcmblmkbdenakaaGreatDoor
namespace Go.Proofs.YtcmblmkbdenakaaGreatDoor
open Go
def ndV (k : Int) (l : List Int) : V:=.agg [.int .u8 k,(match l with | []=>.nil | a :: b=>.sl ((a :: b).map (.int .i64)) (some (b.length + 1))),.int .i64 0,.int .i64 0]
def exV : V:=.agg [.sl [ndV 0 [],ndV 0 [],ndV 0 [],ndV 5 [0,1],ndV 7 [3,2]] (some 5),.sl [.str [97],.str [98],.str [99],.str [100],.str [101]] (some 5),.nil,.sl [.int .i64 4] (some 1)]
theorem ex_d : OwnC Tryz.prog gl0 10 [] (DatK 6 exV):=OwnC.of_runD FTt_ok (m:=200000) (by kernel_rfl)
def ccV (l : List (Int × Int)) : V:=.sl (l.map fun p=>.agg [.int .i64 p.1,.int .i64 p.2]) (some l.length)
theorem control_d : OwnC Tryz.prog gl0 13 [exV] (DatK 6 (.tup [ccV [(1,1),(1,1),(1,1),(2,3),(4,2)],.int .i64 0])):=OwnC.of_runD FTt_ok (m:=200000) (by kernel_rfl)
theorem observe_d : OwnC Tryz.prog gl0 14 [exV] (DatK 6 (.tup [.sl ([4,4,3,2,0].map (V.int .i64)) (some 5),.int .i64 0])):=OwnC.of_runD FTt_ok (m:=200000) (by kernel_rfl)
theorem line_d : OwnC Tryz.prog gl0 36 [exV,.agg [.int .i64 4,.int .i64 1]] (DatK 6 (.tup [.int .i64 3,.int .i64 0])):=OwnC.of_runD FTt_ok (m:=200000) (by kernel_rfl)
theorem ints_d : PureC Tryz.prog gl0 38 [.sl ([4,4,3,2,0].map (V.int .i64)) (some 5),.sl ([4,4,3,2,0].map (V.int .i64)) (some 5)] (.int .i64 0):=PureC.of_run FTt_ok (m:=2000) (d:=4) (by kernel_rfl)
end Go.Proofs.YtcmblmkbdenakaaGreatDoor
namespace Go.Proofs.YtcmblmkbdenakaaGreatDoor
open Go
theorem gateR (k : Nat) (l : List (Int × Int)) (cap : Option Nat) (r : Nat × Nat) (hk : k < 256) (hl : l.length < 1000000) (h : gateP k (l.map capC) = r) : PureC Tryz.prog gl0 7 [u8V k,.sl (l.map cV) cap] (nC r):=h ▸ sgate_c k hk l cap hl
theorem pinR (k : Nat) (p : Int) (l : List (Int × Int)) (cap : Option Nat) (r : Nat) (hk : k < 256) (hl : l.length < 1000000) (h : pnP k p (l.map capC) = r) : PureC Tryz.prog gl0 8 [u8V k,.int .i64 p,.sl (l.map cV) cap] (natV r):=h ▸ spin_c k hk p l cap hl
theorem gate0 (k : Nat) (r : Nat × Nat) (hk : k < 256) (h : gateP k [] = r) : PureC Tryz.prog gl0 7 [u8V k,.nil] (nC r):=PureC.normA (gateR k [] (some 0) r hk (by simp) h)
set_option maxRecDepth 100000 in
theorem lives_c : PureC Tryz.prog gl0 11 [] (.bool true):=by
 have g1:=gateR 5 [(1,1),(2,3)] (some 2) (2,5) (by omega) (by simp) (by decide +kernel)
 have g2:=gateR 9 [(1,1),(2,3)] (some 2) (4,4) (by omega) (by simp) (by decide +kernel)
 have g3:=gateR 11 [(1,1),(2,9),(9,2)] (some 3) (4,4) (by omega) (by simp) (by decide +kernel)
 have g4:=gateR 12 [(1,2),(3,4)] (some 2) (6,7) (by omega) (by simp) (by decide +kernel)
 have g5:=gateR 13 [(3,9),(4,5)] (some 2) (4,6) (by omega) (by simp) (by decide +kernel)
 have g6:=gate0 1 (0,1073741824) (by omega) (by decide +kernel)
 have p1:=pinR 5 0 [(1,1),(2,3)] (some 2) 4 (by omega) (by simp) (by decide +kernel)
 have p2:=pinR 9 1 [(1,4),(2,3)] (some 2) 2 (by omega) (by simp) (by decide +kernel)
 have p3:=pinR 11 0 [(1,1),(2,9),(9,2)] (some 3) 5 (by omega) (by simp) (by decide +kernel)
 have p4:=pinR 12 0 [(1,2),(3,4)] (some 2) 1073741824 (by omega) (by simp) (by decide +kernel)
 simp only [u8V,nC,natV,cV,List.map] at g1 g2 g3 g4 g5 g6 p1 p2 p3 p4
 refine PureC.of_W 3 ok11 rfl ?_
 simp [i11,x11]
 intro ga gb gc gd ge gf gg
 refine CallO.borrow 1 g1 (by simp) rfl ?_
 simp
 intro gh
 refine CallO.borrow 1 g2 (by simp) rfl ?_
 simp
 intro gi
 refine CallO.borrow 1 g3 (by simp) rfl ?_
 simp
 intro gj
 refine CallO.borrow 1 g4 (by simp) rfl ?_
 simp
 intro gk
 refine CallO.borrow 1 g5 (by simp) rfl ?_
 simp
 refine CallO.pure g6 (by simp) ?_
 simp
 intro gl
 refine CallO.borrow 1 p1 (by simp) rfl ?_
 simp
 intro gm
 refine CallO.borrow 1 p2 (by simp) rfl ?_
 simp
 intro gn
 refine CallO.borrow 1 p3 (by simp) rfl ?_
 simp
 intro go
 refine CallO.borrow 1 p4 (by simp) rfl ?_
 simp
 refine CallO.dat 0 ex_d rfl ?_
 simp
 refine CallO.dat 0 control_d (by simp [exV,ndV]) ?_
 simp
 refine CallO.dat 0 ex_d rfl ?_
 simp
 refine CallO.dat 0 observe_d (by simp [exV,ndV]) ?_
 simp
 refine CallO.dat 0 ex_d rfl ?_
 simp
 refine CallO.dat 0 line_d (by simp [exV,ndV]) ?_
 simp [ccV]
 intro gp
 have hi:=ints_d
 first | refine ⟨_,_,_,.borrow 1 hi (by simp) rfl,?_⟩ | refine ⟨_,⟨_,_,.borrow 1 hi (by simp) rfl⟩,?_⟩ | refine ⟨_,_,⟨_,.borrow 1 hi (by simp) rfl⟩,?_⟩
 simp
end Go.Proofs.YtcmblmkbdenakaaGreatDoor
