/- Observability: the contract of Line. Conditions: none. -/
import Derived.Test.YtcmblmkbdenakaaGreatDoorD5
set_option linter.unusedSimpArgs false
set_option linter.unusedVariables false
namespace Go.Proofs.YtcmblmkbdenakaaGreatDoor
open Go
noncomputable def obs (c : Ci) : Nat→Nat:=obsN c (ctl c) (ordL c)
def lnBad (c : Ci) (n p : Int) : Prop:=n < 0∨(c.n.length : Int) ≤ n∨p < -1∨((c.nd n.toNat).i.length : Int) ≤ p
noncomputable def lnC (c : Ci) (n p : Int) : Nat:=if p < 0 then obs c n.toNat else if (c.nd n.toNat).k = 14 then 0 else pls (obs c n.toNat) (pnC c (ctl c) n.toNat p.toNat)
def LinK (c : Ci) (n p : Int) (v : V) (h : Hp) : Prop:=h = []∧
 ((chkE c ≠ 0∧v = .tup [.int .i64 0,.int .i64 (chkE c)])∨(chkE c = 0∧lnBad c n p∧v = .tup [.int .i64 0,.int .i64 1])∨
  (chkE c = 0∧¬ lnBad c n p∧∃ z : Nat,v = .tup [natV z,.int .i64 0]∧(c.n.length ≤ 20→z = lnC c n p)))
set_option maxRecDepth 100000 in
theorem Line_c (c : Ci) (hwf : c.wf) (n p : Int) : OwnC Tryz.prog gl0 36 [c.v,.agg [.int .i64 n,.int .i64 p]] (LinK c n p):=by
 refine OwnC.of_W ok36 rfl ?_
 simp [i36,x36]
 intro ga gb
 generalize ga 2 = g2
 generalize gb 3 = g3
 refine CallO.own 1000 (Observe_c c hwf) (by simp) (by simp) ?_
 rintro v h (⟨h1,rfl,rfl⟩ | ⟨h0,g,o,rfl,rfl,hle,ho⟩) gf
 ·simp [h1]
  exact .done ⟨[],by simp,rfl,.inl ⟨h1,rfl⟩⟩
 obtain ⟨hsh,hac⟩:=chk_sh h0
 have hval:=sh_val hwf hsh
 obtain ⟨hlen,-,-,hol⟩:=sh_len hsh
 have hlP:=natsT_pure c.n.length o
 simp [upH,upS,Blk.rn,map_rn_pure hlP]
 generalize gf 1000 + g = g9
 intro gm
 have bad : lnBad c n p→LinK c n p (.tup [.int .i64 0,.int .i64 1]) []:=fun hb=>⟨rfl,.inr (.inl ⟨h0,hb,rfl⟩)⟩
 refine BrB.of (fun hb=>?_) (fun hb=>?_)
 ·simp [hb]
  exact .done ⟨[],by simp,bad (.inl (of_decide_eq_true hb))⟩
 have hn0 : ¬ n < 0:=of_decide_eq_false hb
 simp [hb]
 refine BrB.of (fun hb=>?_) (fun hb=>?_)
 ·simp [hb]
  exact .done ⟨[],by simp,bad (.inr (.inl (of_decide_eq_true hb)))⟩
 have hnN : ¬ (c.n.length : Int) ≤ n:=of_decide_eq_false hb
 simp [hb]
 refine BrB.of (fun hb=>?_) (fun hb=>?_)
 ·simp [hb]
  exact .done ⟨[],by simp,bad (.inr (.inr (.inl (of_decide_eq_true hb))))⟩
 have hp1 : ¬ p < -1:=of_decide_eq_false hb
 simp [hb]
 obtain ⟨m,rfl⟩ : ∃ m : Nat,n = m:=⟨n.toNat,by omega⟩
 have hmN : m < c.n.length:=by omega
 obtain ⟨y,hy⟩ : ∃ y,c.n[m] = y:=⟨_,rfl⟩
 have hyc : c.nd m = y:=by rw [c.nd_get hmN,hy]
 have hym : y ∈ c.n:=hy ▸ List.getElem_mem hmN
 simp [hmN,hy]
 refine BrB.of (fun hb=>?_) (fun hb=>?_)
 ·simp
  exact .done ⟨[],by simp,bad (.inr (.inr (.inr (by
   have:=of_decide_eq_true hb
   simp only [Int.toNat_natCast,hyc]; exact this))))⟩
 have hpy : ¬ (y.i.length : Int) ≤ p:=of_decide_eq_false hb
 have hgood : ¬ lnBad c (m : Int) p:=by
  unfold lnBad; simp only [Int.toNat_natCast,hyc]
  omega
 have good : ∀ z : Nat,(c.n.length ≤ 20→z = lnC c m p)→LinK c m p (.tup [.int .i64 z,.int .i64 0]) []:=fun z hz=>⟨rfl,.inr (.inr ⟨h0,hgood,z,rfl,hz⟩)⟩
 simp [hmN,hy]
 intro gc
 generalize gc 8 = g8
 refine BrB.of (fun hb=>?_) (fun hb=>?_)
 ·have hp0 : p < 0:=of_decide_eq_true hb
  simp [hmN,natsT_len,natsT_at]
  exact .done ⟨[],by simp,good (o m) fun h20=>by unfold lnC; rw [if_pos hp0,ho h20]; rfl⟩
 have hp0 : ¬ p < 0:=of_decide_eq_false hb
 obtain ⟨q,rfl⟩ : ∃ q : Nat,p = q:=⟨p.toNat,by omega⟩
 simp
 refine BrB.of (fun hb=>?_) (fun hb=>?_)
 ·have h14 : y.k = 14:=of_decide_eq_true hb
  simp
  exact .done ⟨[],by simp,good 0 fun h20=>by unfold lnC; rw [if_neg hp0]; simp only [Int.toNat_natCast,hyc]; rw [if_pos h14]⟩
 have h14 : ¬ y.k = 14:=of_decide_eq_false hb
 simp
 refine CallO.own 2000 (Control_c c hwf) (by simp) (by simp) ?_
 rintro v h (⟨h1,-⟩ | ⟨-,g',f,rfl,rfl,hfle,hf⟩) gf2
 ·exact absurd h0 h1
 have hcP:=netsC_pure c.n.length f
 simp [upH,upS,Blk.rn,map_rn_pure hcP]
 generalize gf2 2000 + g' = g7
 have hyv:=val_mem hval hym
 have hinp:=inputs_c y c.n.length f (some c.n.length) (by omega) hyv.2
 obtain ⟨k,hkk⟩ : ∃ k : Nat,y.k = k:=⟨y.k.toNat,by have:=(hwf.k y hym).1; omega⟩
 have hk256 : k < 256:=by have:=(hwf.k y hym).2; omega
 have hinl : (insC f y).length = y.i.length:=by simp [insC]
 have hinle : ∀ p ∈ insC f y,p.1 ≤ nev∧p.2 ≤ nev:=fun p hp=>by
  obtain ⟨j,-,rfl⟩:=List.mem_map.1 hp
  exact hfle _
 have p1 : PureC Tryz.prog gl0 8 [u8V k,natV q,.sl ((insC f y).map nC) (some y.i.length)] (natV (pnC c f m q)):=by
  have h1:=spin_c k hk256 q ((insC f y).map icost) (some y.i.length) (by rw [List.length_map,hinl]; omega)
  rw [icost_c hinle,icost_v] at h1
  unfold pnC
  rw [hyc,hkk]
  exact h1
 have hip:=nCs_pure (insC f y)
 have hPle : pnC c f m q ≤ nev:=pnP_le _ _ _
 have hfin : c.n.length ≤ 20→pls (o m) (pnC c f m q) = lnC c m q:=fun h20=>by
  unfold lnC; rw [if_neg hp0]; simp only [Int.toNat_natCast,hyc]; rw [if_neg h14,hf h20,ho h20]; rfl
 generalize pnC c f m q = P at hfin p1 hPle
 have hom:=hle m
 have p2:=plus_c (o m) P (by simp only [nev] at hom; omega) (by simp only [nev] at hPle; omega)
 simp only [natV,u8V] at p1 p2
 rw [← hkk] at p1
 simp [hmN,natsT_len,natsT_at]
 intro gd
 have hd:=OwnC.dat1 hinp (nCs_pure _) (nCs_noG _)
 have ha : ∀ h,lk h 2000 = some (.row g7 2 (netsC c.n.length f))→[y.v,V.ref 2000 g7 0 c.n.length (some c.n.length)].map (frz h 1) = [y.v,.sl (netsC c.n.length f) (some c.n.length)]:=fun h hh=>by
  rw [List.map_cons,List.map_cons,List.map_nil,frz_rowP (sz:=2) 0 hh hcP (netsC_len _ _).symm]; simp
 first | refine ⟨_,_,_,.dat 1 hd (ha _ (by simp)),?_⟩ | refine ⟨_,⟨_,_,.dat 1 hd (ha _ (by simp))⟩,?_⟩ | refine ⟨_,_,⟨_,.dat 1 hd (ha _ (by simp))⟩,?_⟩
 simp
 first | refine ⟨_,_,_,.pure p1 (by simp [hip]),?_⟩ | refine ⟨_,⟨_,_,.pure p1 (by simp [hip])⟩,?_⟩ | refine ⟨_,_,⟨_,.pure p1 (by simp [hip])⟩,?_⟩
 simp
 first | refine ⟨_,_,_,.pure p2 (by simp),?_⟩ | refine ⟨_,⟨_,_,.pure p2 (by simp)⟩,?_⟩ | refine ⟨_,_,⟨_,.pure p2 (by simp)⟩,?_⟩
 simp
 refine ⟨by simp [indAll,snocF,indF,memN],?_⟩
 exact .done ⟨[],by simp,good _ hfin⟩
end Go.Proofs.YtcmblmkbdenakaaGreatDoor
