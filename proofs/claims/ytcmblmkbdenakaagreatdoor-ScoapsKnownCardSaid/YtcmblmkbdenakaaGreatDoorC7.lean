/- Costs: the contracts of the law's own functions. Conditions: none. -/
import Derived.Test.YtcmblmkbdenakaaGreatDoorLV
set_option linter.unusedSimpArgs false
set_option linter.unusedVariables false
namespace Go.Proofs.YtcmblmkbdenakaaGreatDoor
open Go
theorem capped_c (z : Int) : PureC Tryz.prog gl0 54 [.int .i64 z] (natV (capI z)):=by
 refine PureC.of_W 3 ok54 rfl ?_
 simp [i54,x54,natV,capI_i]
theorem power_c (n : Nat) (hn : n ≤ 30) : PureC Tryz.prog gl0 55 [natV n] (natV (3 ^ n)):=by
 refine PureC.of_W 3 ok55 rfl ?_
 simp [i55,x55,natV]
 refine LoopP.of (X:=Nat) (fun i=>[(4,natV i),(3,natV (3 ^ i)),(0,natV n)]) (fun _=>[]) (fun i=>i ≤ n) (fun i=>n - i) 0 (by simp) (by simp [natV]) (by simp) ?_
 rintro i q1
 obtain ⟨q,hq⟩ : ∃ q,3 ^ i = q:=⟨_,rfl⟩
 have hb : q ≤ 3 ^ 30:=by rw [← hq]; exact Nat.pow_le_pow_right (by omega) (by omega)
 have h3 : (3 : Nat) ^ 30 = 205891132094649:=by decide
 simp [natV,hq]
 refine BrB.of (fun hb=>?_) (fun hb=>?_)
 ·have hi:=of_decide_eq_true hb
  have hw:=wrapN i (by omega)
  have hw3 : IntKind.i64.wrap (3 * (q : Int)) = ((3 * q : Nat) : Int):=by rw [wrap_i64] <;> omega
  simp [hw,hw3]
  exact ⟨i + 1,hi,⟨by omega,by rw [← hq,Int.pow_succ,Int.mul_comm]; simp⟩,by omega⟩
 ·have hi : i = n:=by have:=of_decide_eq_false hb; omega
  subst hi
  simp
  rw [← hq]; simp
def costI (b : Nat) : Int:=if b = 255 then 1073741824 else if b = 254 then -3 else if b = 253 then 1073741831 else ((b / 8 : Nat) : Int)
theorem cost_c (b : Nat) (hb : b < 256) : PureC Tryz.prog gl0 53 [u8V b] (.int .i64 (costI b)):=by
 refine PureC.of_W 3 ok53 rfl ?_
 simp [i53,x53,u8V]
 have hw:=u8i hb
 refine BrB.of (fun h=>?_) (fun h=>?_)
 ·have h1 : b = 255:=of_decide_eq_true h
  subst h1; simp [costI]
 have h1 : ¬ b = 255:=of_decide_eq_false h
 simp [h1]
 refine BrB.of (fun h=>?_) (fun h=>?_)
 ·have h1 : b = 254:=of_decide_eq_true h
  subst h1; simp [costI]
 have h2 : ¬ b = 254:=of_decide_eq_false h
 simp [h1,h2]
 refine BrB.of (fun h=>?_) (fun h=>?_)
 ·have h1 : b = 253:=of_decide_eq_true h
  subst h1; simp [costI]
 have h3 : ¬ b = 253:=of_decide_eq_false h
 obtain ⟨q,hq⟩ : ∃ q,b / 8 = q:=⟨_,rfl⟩
 have hd : ((b : Int)).tdiv 8 = (q : Int):=by rw [← hq]; rfl
 have hwq : IntKind.i64.wrap (q : Int) = (q : Int):=by rw [wrap_i64] <;> omega
 simp [h1,h2,h3,hw,costI,hd,hq,hwq]
def dg : Nat→Nat→List Nat
 | 0,_=>[]
 | k + 1,n=>n % 3 :: dg k (n / 3)
def prc (kp : Int) : Nat→List (Nat × Nat)→Nat→Nat
 | _,[],_=>0
 | i,t :: ts,n=>(if (i : Int) = kp then 0 else tb t (n % 3)) + prc kp (i + 1) ts (n / 3)
theorem dg_len : ∀ k n,(dg k n).length = k
 | 0,_=>rfl
 | k + 1,n=>by simp [dg,dg_len k]
theorem tb_le {t : Nat × Nat} (h : t.1 ≤ nev∧t.2 ≤ nev) (v : Nat) : tb t v ≤ nev:=by unfold tb; split; exact h.1; split; exact h.2; omega
theorem accV_n (b : Nat) : accV b none = .nil:=rfl
theorem accV_s (b g : Nat) (l : List V) : accV b (some (g,l)) = .ref b g 0 l.length none:=rfl
theorem accH_n (b sz : Nat) : accH b sz none = []:=rfl
theorem accH_s (b sz g : Nat) (l : List V) : accH b sz (some (g,l)) = [(b,.row g sz l)]:=rfl
theorem accL_n : accL none = []:=rfl
theorem accL_s (g : Nat) (l : List V) : accL (some (g,l)) = l:=rfl
structure PrS where
 i : Nat
 m : Nat
 s : Nat
 z : Option (Nat × List V)
theorem price_c (l : List (Int × Int)) (cap : Option Nat) (n : Nat) (kp : Int) (hl : l.length < 65536) (hn : n < 1000000000000000) : OwnC Tryz.prog gl0 56 [.sl (l.map cV) cap,natV n,.int .i64 kp]
  (fun v h=>∃ z,accL z = (dg l.length n).map u8V∧v = .tup [natV (min (prc kp 0 (l.map capC) n) nev),accV 0 z]∧h = accH 0 1 z):=by
 have hle:=caps_le l
 have hlen : (l.map capC).length = l.length:=by simp
 have hcap : ∀ i (h : i < l.length) (h2 : i < (l.map capC).length),(l.map capC)[i] = (capI l[i].1,capI l[i].2):=fun i h h2=>by simp [capC]
 generalize l.map capC = ts at hle hlen hcap ⊢
 refine OwnC.of_W ok56 rfl ?_
 simp [i56,x56,natV]
 refine LoopP.of (X:=PrS) (fun z=>[(10,natV z.i),(9,accV 26 z.z),(8,natV z.s),(1,natV z.m),(0,.sl (l.map cV) cap),(2,.int .i64 kp)]) (fun z=>accH 26 1 z.z)
  (fun z=>z.i ≤ l.length∧z.m < 1000000000000000∧z.s ≤ z.i * nev∧(dg l.length n).map u8V = accL z.z ++ (dg (l.length - z.i) z.m).map u8V∧(accL z.z).length = z.i∧z.s + prc kp z.i (ts.drop z.i) z.m = prc kp 0 ts n) (fun z=>l.length - z.i) ⟨0,n,0,none⟩
  ⟨by simp,hn,by simp,by simp [accL],by simp [accL],by simp⟩ (by simp [natV,accV]) (by simp [accH]) ?_
 rintro ⟨i,m,s,z⟩ ⟨q1,q2,q3,q4,q5,q6⟩
 dsimp only at q1 q2 q3 q4 q5 q6 ⊢
 simp [natV]
 refine BrB.of (fun hb=>?_) (fun hb=>?_)
 ·have hi:=of_decide_eq_true hb
  have hw:=wrapN i (by omega)
  have hit : i < ts.length:=by omega
  obtain ⟨t,hti⟩ : ∃ t,ts[i] = t:=⟨_,rfl⟩
  obtain ⟨pp,hpi⟩ : ∃ pp,l[i] = pp:=⟨_,rfl⟩
  have htp : t = (capI pp.1,capI pp.2):=by rw [← hti,← hpi]; exact hcap i hi hit
  have htt:=hle t (hti ▸ List.getElem_mem hit)
  obtain ⟨d,hd⟩ : ∃ d,m % 3 = d:=⟨_,rfl⟩
  obtain ⟨e,he⟩ : ∃ e,m / 3 = e:=⟨_,rfl⟩
  have hd3 : d < 3:=by omega
  have hmd : ((m : Int)).tmod 3 = (d : Int):=by rw [← hd]; rfl
  have hud : IntKind.u8.wrap (d : Int) = (d : Int):=wrap_u8 (by omega) (by omega)
  have hmq : IntKind.i64.wrap (((m : Int)).tdiv 3) = (e : Int):=by
   have : ((m : Int)).tdiv 3 = (e : Int):=by rw [← he]; rfl
   rw [this,wrap_i64] <;> omega
  have hmq2 : IntKind.i64.wrap ((m : Int) / 3) = (e : Int):=by
   have : (m : Int) / 3 = (e : Int):=by rw [← he]; rfl
   rw [this,wrap_i64] <;> omega
  have hdr : ts.drop i = t :: ts.drop (i + 1):=by rw [← hti]; exact List.drop_eq_getElem_cons hit
  have hsub : l.length - i = (l.length - (i + 1)) + 1:=by omega
  have hdg : dg (l.length - i) m = d :: dg (l.length - (i + 1)) e:=by rw [hsub,dg,hd,he]
  have hpr : prc kp i (ts.drop i) m = (if (i : Int) = kp then 0 else tb t d) + prc kp (i + 1) (ts.drop (i + 1)) e:=by rw [hdr,prc,hd,he]
  have hs1 : s + nev < 1000000000000000000:=by
   have : i * nev ≤ 65536 * nev:=Nat.mul_le_mul_right _ (by omega)
   simp only [nev] at *; omega
  have htb:=tb_le htt d
  have fin : ∀ (s' : Nat) (z' : Option (Nat × List V)),s' = s + (if (i : Int) = kp then 0 else tb t d)→accL z' = accL z ++ [u8V d]→
    (i + 1 ≤ l.length∧e < 1000000000000000∧s' ≤ (i + 1) * nev∧(dg l.length n).map u8V = accL z' ++ (dg (l.length - (i + 1)) e).map u8V∧(accL z').length = i + 1∧s' + prc kp (i + 1) (ts.drop (i + 1)) e = prc kp 0 ts n):=by
   intro s' z' h1 h2
   refine ⟨hi,by omega,?_,?_,by rw [h2]; simp [q5],?_⟩
   ·rw [h1,Nat.add_mul,Nat.one_mul]
    refine Nat.add_le_add q3 ?_
    split
    ·exact Nat.zero_le _
    ·exact htb
   ·rw [q4,hdg,h2]; simp
   ·rw [← q6,hpr,h1]; omega
  have hwa : ∀ x : Nat,x ≤ nev→IntKind.i64.wrap ((s : Int) + (x : Int)) = ((s + x : Nat) : Int):=fun x hx=>by simp only [nev] at *; rw [wrap_i64] <;> omega
  have c1:=capped_c pp.1
  have c2:=capped_c pp.2
  have hc1 : capI pp.1 ≤ nev:=capI_le _
  have hc2 : capI pp.2 ≤ nev:=capI_le _
  rcases z with _ | ⟨gz,r⟩
  ·simp [accV_n,accV_s,accH_n,accH_s,accL_n,accL_s,hmd,hmq,hud] at q5 ⊢
   intro ga gb
   by_cases h1 : (i : Int) = kp
   ·have hd1 : decide ((i : Int) = kp) = true:=decide_eq_true h1
    simp only [hd1]
    simp [hw,hmq2]
    refine ⟨⟨i + 1,e,s,some (gb 26,[u8V d])⟩,fin s (some (gb 26,[u8V d])) (by rw [if_pos h1]; rfl) (by simp [accL]),?_⟩; simp [accV_s,accH_s,u8V]; omega
   ·by_cases h2 : d = 0
    ·have htb0 : tb t d = capI pp.1:=by rw [h2,htp]; rfl
     have hwx:=hwa (capI pp.1) hc1
     simp [h1,h2,hi,hpi,cV]
     refine CallO.pure c1 (by simp) ?_
     simp [natV,hwx,hw,hmq2]
     refine ⟨⟨i + 1,e,s + capI pp.1,some (gb 26,[u8V d])⟩,fin _ (some (gb 26,[u8V d])) (by rw [if_neg h1,htb0]) (by simp [accL]),?_⟩; simp [accV_s,accH_s,u8V]; omega
    ·by_cases h3 : d = 1
     ·have htb1 : tb t d = capI pp.2:=by rw [h3,htp]; rfl
      have hwx:=hwa (capI pp.2) hc2
      simp [h1,h2,h3,hi,hpi,cV]
      refine CallO.pure c2 (by simp) ?_
      simp [natV,hwx,hw,hmq2]
      refine ⟨⟨i + 1,e,s + capI pp.2,some (gb 26,[u8V d])⟩,fin _ (some (gb 26,[u8V d])) (by rw [if_neg h1,htb1]) (by simp [accL]),?_⟩; simp [accV_s,accH_s,u8V]; omega
     ·have htb2 : tb t d = 0:=by unfold tb; rw [if_neg h2,if_neg h3]
      simp [h1,h2,h3,hw,hmq2]
      refine ⟨⟨i + 1,e,s,some (gb 26,[u8V d])⟩,fin s (some (gb 26,[u8V d])) (by rw [if_neg h1,htb2]; rfl) (by simp [accL]),?_⟩; simp [accV_s,accH_s,u8V]; omega
  ·simp [accV_n,accV_s,accH_n,accH_s,accL_n,accL_s,hmd,hmq,hud] at q5 ⊢
   intro ga gb
   refine ⟨by omega,?_⟩
   by_cases h1 : (i : Int) = kp
   ·have hd1 : decide ((i : Int) = kp) = true:=decide_eq_true h1
    simp only [hd1]
    simp [hw,hmq2]
    refine ⟨⟨i + 1,e,s,some (gb 26,r ++ [u8V d])⟩,fin s (some (gb 26,r ++ [u8V d])) (by rw [if_pos h1]; rfl) (by simp [accL]),?_⟩; simp [accV_s,accH_s,u8V]; omega
   ·by_cases h2 : d = 0
    ·have htb0 : tb t d = capI pp.1:=by rw [h2,htp]; rfl
     have hwx:=hwa (capI pp.1) hc1
     simp [h1,h2,hi,hpi,cV]
     refine CallO.pure c1 (by simp) ?_
     simp [natV,hwx,hw,hmq2]
     refine ⟨⟨i + 1,e,s + capI pp.1,some (gb 26,r ++ [u8V d])⟩,fin _ (some (gb 26,r ++ [u8V d])) (by rw [if_neg h1,htb0]) (by simp [accL]),?_⟩; simp [accV_s,accH_s,u8V]; omega
    ·by_cases h3 : d = 1
     ·have htb1 : tb t d = capI pp.2:=by rw [h3,htp]; rfl
      have hwx:=hwa (capI pp.2) hc2
      simp [h1,h2,h3,hi,hpi,cV]
      refine CallO.pure c2 (by simp) ?_
      simp [natV,hwx,hw,hmq2]
      refine ⟨⟨i + 1,e,s + capI pp.2,some (gb 26,r ++ [u8V d])⟩,fin _ (some (gb 26,r ++ [u8V d])) (by rw [if_neg h1,htb1]) (by simp [accL]),?_⟩; simp [accV_s,accH_s,u8V]; omega
     ·have htb2 : tb t d = 0:=by unfold tb; rw [if_neg h2,if_neg h3]
      simp [h1,h2,h3,hw,hmq2]
      refine ⟨⟨i + 1,e,s,some (gb 26,r ++ [u8V d])⟩,fin s (some (gb 26,r ++ [u8V d])) (by rw [if_neg h1,htb2]; rfl) (by simp [accL]),?_⟩; simp [accV_s,accH_s,u8V]; omega
 ·have hi : i = l.length:=by have:=of_decide_eq_false hb; omega
  subst hi
  have h0 : prc kp l.length (ts.drop l.length) m = 0:=by rw [← hlen,List.drop_length]; rfl
  rw [h0,Nat.add_zero] at q6
  rw [Nat.sub_self] at q4
  simp [dg] at q4
  have hmin : min (s : Int) 1073741824 = ((min (prc kp 0 ts n) nev : Nat) : Int):=by rw [q6]; simp only [nev]; omega
  rcases z with _ | ⟨gz,r⟩
  ·simp [accV_n,accH_n]
   exact .done ⟨[],by simp,none,q4.symm,⟨by rw [hmin],rfl⟩,rfl⟩
  ·have hrp : V.pureL r = true:=by have:=u8s_pure (dg l.length n); rw [q4] at this; exact this
   simp [accV_s,accH_s]
   refine .move 26 0 _ (by simp) (by simp; rfl) fun g=>.done ?_
   simp
   exact ⟨[(0,.row g 1 r)],by simp [Blk.rn,map_rn_pure hrp],some (g,r),q4.symm,⟨by rw [hmin],by simp [accV_s]⟩,rfl⟩
end Go.Proofs.YtcmblmkbdenakaaGreatDoor
namespace Go.Proofs.YtcmblmkbdenakaaGreatDoor
open Go
def lw (f : Nat→Nat) (p : Nat→Bool) : Nat→Nat
 | 0=>nev
 | n + 1=>if p n = true then min (lw f p n) (f n) else lw f p n
theorem lw_le (f : Nat→Nat) (p : Nat→Bool) : ∀ n,lw f p n ≤ nev
 | 0=>Nat.le_refl _
 | n + 1=>by have:=lw_le f p n; unfold lw; split <;> omega
theorem lw_three (f : Nat→Nat) (p : Nat→Bool) : ∀ n,lw f p (3 * n) = min (min (lw (fun m=>f (3 * m)) (fun m=>p (3 * m)) n) (lw (fun m=>f (3 * m + 1)) (fun m=>p (3 * m + 1)) n)) (lw (fun m=>f (3 * m + 2)) (fun m=>p (3 * m + 2)) n)
 | 0=>by simp [lw]
 | n + 1=>by
  have h : 3 * (n + 1) = 3 * n + 1 + 1 + 1:=by omega
  rw [h]
  simp only [lw]
  rw [lw_three f p n]
  split <;> split <;> split <;> omega
theorem lw_add (x : Nat) (g : Nat→Nat) (q : Nat→Bool) : ∀ n,lw (fun m=>min (x + g m) nev) q n = pls x (lw (fun m=>min (g m) nev) q n)
 | 0=>by simp only [lw]; unfold pls; omega
 | n + 1=>by
  simp only [lw]
  rw [lw_add x g q n]
  unfold pls
  split <;> omega
theorem lw_bsk (kp : Int) : ∀ (ts : List (Nat × Nat)) (i : Nat) (P : List Nat→Bool),(∀ j : Nat,((i + j : Nat) : Int) = kp→∀ a v,P (a.set j v) = P a)→
  lw (fun n=>min (prc kp i ts n) nev) (fun n=>P (dg ts.length n)) (3 ^ ts.length) = bsk kp i ts P
 | [],i,P,hP=>by
  simp only [List.length_nil,Nat.pow_zero,lw,prc,dg,bsk]
  split <;> omega
 | t :: ts,i,P,hP=>by
  have hd : ∀ m v,v < 3→dg (t :: ts).length (3 * m + v) = v :: dg ts.length m:=fun m v hv=>by
   simp only [List.length_cons,dg]
   rw [show (3 * m + v) % 3 = v by omega,show (3 * m + v) / 3 = m by omega]
  have hd0 : ∀ m,dg (t :: ts).length (3 * m) = 0 :: dg ts.length m:=fun m=>hd m 0 (by omega)
  have hp : ∀ m v,v < 3→prc kp i (t :: ts) (3 * m + v) = (if (i : Int) = kp then 0 else tb t v) + prc kp (i + 1) ts m:=fun m v hv=>by
   simp only [prc]
   rw [show (3 * m + v) % 3 = v by omega,show (3 * m + v) / 3 = m by omega]
  have hp0 : ∀ m,prc kp i (t :: ts) (3 * m) = (if (i : Int) = kp then 0 else tb t 0) + prc kp (i + 1) ts m:=fun m=>hp m 0 (by omega)
  have h3 : 3 ^ (t :: ts).length = 3 * 3 ^ ts.length:=by rw [List.length_cons,Nat.pow_succ,Nat.mul_comm]
  have hP' : ∀ v (j : Nat),((i + 1 + j : Nat) : Int) = kp→∀ a w,P (v :: a.set j w) = P (v :: a):=fun v j hj a w=>by
   have:=hP (j + 1) (by omega) (v :: a) w
   simpa using this
  have ih:=fun v=>lw_bsk kp ts (i + 1) (fun a=>P (v :: a)) (hP' v)
  rw [h3,lw_three]
  simp only [hd _ 1 (by omega),hd _ 2 (by omega),hd0,hp _ 1 (by omega),hp _ 2 (by omega),hp0,lw_add]
  rw [ih 0,ih 1,ih 2]
  simp only [bsk]
  by_cases hk : (i : Int) = kp
  ·rw [if_pos hk,if_pos hk,if_pos hk,if_pos hk]
   have hq : ∀ v,(fun a=>P (v :: a)) = fun a=>P (2 :: a):=fun v=>by
    funext a
    have:=hP 0 (by simpa using hk) (v :: a) 2
    simpa using this.symm
   rw [hq 0,hq 1,pls_0 (bsk_le _ _ _ _)]
   omega
  ·rw [if_neg hk,if_neg hk,if_neg hk,if_neg hk]
   have e0 : tb t 0 = t.1:=rfl
   have e1 : tb t 1 = t.2:=rfl
   have e2 : tb t 2 = 0:=rfl
   rw [e0,e1,e2,pls_0 (bsk_le _ _ _ _)]
def gateD (k : Nat) (ts : List (Nat × Nat)) : Nat × Nat:=
 if k = 0∨k = 14 then (1,1) else if k = 15 then (nev,nev) else if k = 1 then (0,nev) else if k = 2 then (nev,0)
 else if k = 13 then (pls (mnV false ts) 1,pls (mnV true ts) 1)
 else (pls (bst ts fun a=>decide (logE k a = 0)) 1,pls (bst ts fun a=>decide (logE k a = 1)) 1)
def pinD (k p : Nat) (ts : List (Nat × Nat)) : Nat:=if k = 13 then 1 else pls (bsk p 0 ts (sees k p)) 1
structure GaS where
 n : Nat
 x : Nat
 y : Nat
set_option maxRecDepth 100000 in
theorem lgate_c (k : Nat) (hk : k < 256) (l : List (Int × Int)) (cap : Option Nat) (hl : l.length ≤ 20) (hl0 : ¬ (k = 0∨k = 14)→¬ k = 15→¬ k = 1→¬ k = 2→0 < l.length) : PureC Tryz.prog gl0 23 [u8V k,.sl (l.map cV) cap] (nC (gateD k (l.map capC))):=by
 have hn : nev = 1073741824:=rfl
 have hle:=caps_le l
 have hlen : (l.map capC).length = l.length:=by simp
 have hcap : ∀ i (h : i < l.length) (h2 : i < (l.map capC).length),(l.map capC)[i] = (capI l[i].1,capI l[i].2):=fun i h h2=>by simp [capC]
 have hprc:=fun n hn=>price_c l cap n (-1) (by omega) hn
 have hpow:=power_c l.length (by omega)
 have hb3 : (3 : Nat) ^ l.length ≤ 3 ^ 20:=Nat.pow_le_pow_right (by omega) hl
 have h320 : (3 : Nat) ^ 20 = 3486784401:=by decide
 have hlb:=fun q=>lw_bsk (-1) (l.map capC) 0 q (fun j hj=>by omega)
 have hpast:=fun q=>bsk_past (kp:=-1) (l.map capC) 0 q (by omega)
 generalize hts : l.map capC = ts at hle hlen hcap hprc hlb hpast ⊢
 rw [hlen] at hlb
 refine PureC.of_W 2 ok23 rfl ?_
 simp [i23,x23,u8V]
 intro ga gb
 refine BrB.of (fun h0=>?_) (fun h0=>?_)
 ·have h0 : k = 0:=of_decide_eq_true h0
  subst h0; simp [gateD,nC,natV]
 have h0 : ¬ k = 0:=of_decide_eq_false h0
 simp [h0]
 refine BrB.of (fun h14=>?_) (fun h14=>?_)
 ·have h14 : k = 14:=of_decide_eq_true h14
  subst h14; simp [gateD,nC,natV]
 have h14 : ¬ k = 14:=of_decide_eq_false h14
 simp [h0,h14]
 refine BrB.of (fun h15=>?_) (fun h15=>?_)
 ·have h15 : k = 15:=of_decide_eq_true h15
  subst h15; simp [gateD,nC,natV]
 have h15 : ¬ k = 15:=of_decide_eq_false h15
 simp [h0,h14,h15]
 refine BrB.of (fun h1=>?_) (fun h1=>?_)
 ·have h1 : k = 1:=of_decide_eq_true h1
  subst h1; simp [gateD,nC,natV]
 have h1 : ¬ k = 1:=of_decide_eq_false h1
 simp [h0,h14,h15,h1]
 refine BrB.of (fun h2=>?_) (fun h2=>?_)
 ·have h2 : k = 2:=of_decide_eq_true h2
  subst h2; simp [gateD,nC,natV]
 have h2 : ¬ k = 2:=of_decide_eq_false h2
 simp [h0,h14,h15,h1,h2]
 have hgd : gateD k ts = if k = 13 then (pls (mnV false ts) 1,pls (mnV true ts) 1)
   else (pls (bst ts fun a=>decide (logE k a = 0)) 1,pls (bst ts fun a=>decide (logE k a = 1)) 1):=by
  unfold gateD; rw [if_neg (by omega),if_neg h15,if_neg h1,if_neg h2]
 refine BrB.of (fun h13=>?_) (fun h13=>?_)
 ·have h13 : k = 13:=of_decide_eq_true h13
  rw [if_pos h13] at hgd
  simp
  refine LoopP.of (X:=GaS) (fun z=>[(6,natV z.n),(5,.ptr 5 (gb 5) 0 0),(4,.ptr 4 (ga 4) 0 0),(1,.sl (l.map cV) cap)]) (fun z=>[(5,.row (gb 5) 2 [.agg [natV z.x,natV z.y]]),(4,.row (ga 4) 2 [.agg [.int .i64 0,.int .i64 0]])])
   (fun z=>z.n ≤ ts.length∧z.x = mnV false (ts.take z.n)∧z.y = mnV true (ts.take z.n)) (fun z=>ts.length - z.n) ⟨0,nev,nev⟩ ⟨by simp,by simp [mnV],by simp [mnV]⟩ (by simp [natV]) (by simp [natV]) ?_
  rintro ⟨i,e,o⟩ ⟨q1,q2,q3⟩
  dsimp only at q1 q2 q3 ⊢
  have hle1:=mnV_le false (ts.take i)
  have hle2:=mnV_le true (ts.take i)
  simp [natV,← hlen]
  refine BrB.of (fun hb2=>?_) (fun hb2=>?_)
  ·have hi:=of_decide_eq_true hb2
   have hil : i < l.length:=by omega
   have hw:=wrapN i (by omega)
   obtain ⟨t,hti⟩ : ∃ t,ts[i] = t:=⟨_,rfl⟩
   obtain ⟨pp,hpi⟩ : ∃ pp,l[i] = pp:=⟨_,rfl⟩
   have htp : t = (capI pp.1,capI pp.2):=by rw [← hti,← hpi]; exact hcap i hil hi
   have htt:=hle t (hti ▸ List.getElem_mem hi)
   have c1:=capped_c pp.1
   have c2:=capped_c pp.2
   simp [hil,hpi,cV]
   intro gm
   first | refine ⟨_,_,_,.pure c1 (by simp),?_⟩ | refine ⟨_,⟨_,_,.pure c1 (by simp)⟩,?_⟩ | refine ⟨_,_,⟨_,.pure c1 (by simp)⟩,?_⟩
   simp [natV,min_i,hil,hpi,cV]
   refine ⟨rfl,fun gm2=>?_⟩
   first | refine ⟨_,_,_,.pure c2 (by simp),?_⟩ | refine ⟨_,⟨_,_,.pure c2 (by simp)⟩,?_⟩ | refine ⟨_,_,⟨_,.pure c2 (by simp)⟩,?_⟩
   simp [natV,min_i,hw]
   refine ⟨rfl,⟨i + 1,_,_⟩,⟨hi,?_,?_⟩,rfl,⟨rfl,rfl⟩,by dsimp only; omega⟩
   ·dsimp only
    rw [take_snoc _ _ hi,hti,mnV_snoc _ _ _ (by simp [tv]; omega),q2,htp]; rfl
   ·dsimp only
    rw [take_snoc _ _ hi,hti,mnV_snoc _ _ _ (by simp [tv]; omega),q3,htp]; rfl
  ·have hi : i = ts.length:=by have:=of_decide_eq_false hb2; omega
   subst hi
   rw [List.take_length] at q2 q3 hle1 hle2
   have hwe : IntKind.i64.wrap ((e : Int) + 1) = (e : Int) + 1:=by rw [wrap_i64] <;> omega
   have hwo : IntKind.i64.wrap ((o : Int) + 1) = (o : Int) + 1:=by rw [wrap_i64] <;> omega
   have he1 : min ((e : Int) + 1) 1073741824 = ((pls e 1 : Nat) : Int):=pls_i e 1
   have ho1 : min ((o : Int) + 1) 1073741824 = ((pls o 1 : Nat) : Int):=pls_i o 1
   simp [hwe,hwo,he1,ho1]
   rw [hgd]; simp [nC,natV,q2,q3]
 ·have h13 : ¬ k = 13:=of_decide_eq_false h13
  rw [if_neg h13] at hgd
  simp
  refine LoopP.of (X:=GaS) (fun z=>[(7,natV z.n),(5,.ptr 5 (gb 5) 0 0),(4,.ptr 4 (ga 4) 0 0),(1,.sl (l.map cV) cap),(0,u8V k)]) (fun z=>[(5,.row (gb 5) 2 [.agg [natV z.x,natV z.y]]),(4,.row (ga 4) 2 [.agg [.int .i64 0,.int .i64 0]])])
   (fun z=>z.n ≤ 3 ^ l.length∧z.x = lw (fun n=>min (prc (-1) 0 ts n) nev) (fun n=>decide (logE k (dg l.length n) = 0)) z.n∧z.y = lw (fun n=>min (prc (-1) 0 ts n) nev) (fun n=>decide (logE k (dg l.length n) = 1)) z.n) (fun z=>3 ^ l.length - z.n) ⟨0,nev,nev⟩ ⟨by simp,by simp [lw],by simp [lw]⟩ (by simp [natV,u8V]) (by simp [natV]) ?_
  rintro ⟨n,e,o⟩ ⟨q1,q2,q3⟩
  dsimp only at q1 q2 q3 ⊢
  generalize hN : 3 ^ l.length = N at *
  simp [natV]
  refine CallO.pure hpow (by simp [natV]) ?_
  simp [natV]
  refine BrB.of (fun hb2=>?_) (fun hb2=>?_)
  ·have hi:=of_decide_eq_true hb2
   have hw:=wrapN n (by omega)
   have hlog:=logE_c k hk (dg l.length n) none (by rw [dg_len]; omega)
   have hdl:=dg_len l.length n
   have hl1:=hl0 (by omega) h15 h1 h2
   have e1 : lw (fun n=>min (prc (-1) 0 ts n) nev) (fun n=>decide (logE k (dg l.length n) = 0)) (n + 1) = if logE k (dg l.length n) = 0 then min e (min (prc (-1) 0 ts n) nev) else e:=by rw [q2]; simp [lw]
   have e2 : lw (fun n=>min (prc (-1) 0 ts n) nev) (fun n=>decide (logE k (dg l.length n) = 1)) (n + 1) = if logE k (dg l.length n) = 1 then min o (min (prc (-1) 0 ts n) nev) else o:=by rw [q3]; simp [lw]
   have hp37:=hprc n (by omega)
   generalize min (prc (-1) 0 ts n) nev = w at *
   generalize dg l.length n = D at *
   simp
   refine CallO.own 1000 hp37 (by simp [cVs_pure,natV]) (by simp) fun v h' hv gf=>?_
   obtain ⟨z,z1,rfl,rfl⟩:=hv
   rcases z with _ | ⟨gz,r⟩
   ·exfalso
    have:=congrArg List.length z1
    simp [accL_n,hdl] at this; omega
   ·have z1 : r = D.map u8V:=z1
    subst z1
    have hrn : ∀ s,(V.rn s ∘ u8V) = u8V:=fun s=>rfl
    simp [accV_s,accH_s,upS,upH,V.rn,V.rnL,Blk.rn,Blk.gen,hrn,natV,hdl]
    generalize gf 1000 + gz = g1
    refine CallO.borrow 1 hlog (by
     rw [List.map_cons,List.map_cons,List.map_nil,frz_rowP (sz:=1) 0 (L:=D.map u8V) (by simp) (u8s_pure _) (by simp [hdl])]; rfl) rfl ?_
    generalize logE k D = q at *
    simp [u8V]
    refine BrB.of (fun hq=>?_) (fun hq=>?_)
    ·have hq : q = 0:=of_decide_eq_true hq
     subst hq
     simp [natV,min_i,hw]
     exact ⟨⟨n + 1,min e w,o⟩,⟨hi,by dsimp only; rw [e1,if_pos rfl],by dsimp only; rw [e2,if_neg (by omega)]⟩,rfl,⟨rfl,rfl⟩,by dsimp only; omega⟩
    ·have hq : ¬ q = 0:=of_decide_eq_false hq
     rw [if_neg hq] at e1
     simp [hq]
     refine BrB.of (fun hq1=>?_) (fun hq1=>?_)
     ·have hq1 : q = 1:=of_decide_eq_true hq1
      subst hq1
      simp [natV,min_i,hw]
      exact ⟨⟨n + 1,e,min o w⟩,⟨hi,e1.symm,by dsimp only; rw [e2,if_pos rfl]⟩,rfl,⟨rfl,rfl⟩,by dsimp only; omega⟩
     ·have hq1 : ¬ q = 1:=of_decide_eq_false hq1
      rw [if_neg hq1] at e2
      simp [hq,hq1,hw]
      exact ⟨⟨n + 1,e,o⟩,⟨hi,e1.symm,e2.symm⟩,rfl,⟨rfl,rfl⟩,by dsimp only; omega⟩
  ·have hi : n = N:=by have:=of_decide_eq_false hb2; omega
   subst hi
   rw [hlb (fun a=>decide (logE k a = 0)),hpast] at q2
   rw [hlb (fun a=>decide (logE k a = 1)),hpast] at q3
   have hle1:=bst_le ts fun a=>decide (logE k a = 0)
   have hle2:=bst_le ts fun a=>decide (logE k a = 1)
   rw [← q2] at hle1
   rw [← q3] at hle2
   have hwe : IntKind.i64.wrap ((e : Int) + 1) = (e : Int) + 1:=by rw [wrap_i64] <;> omega
   have hwo : IntKind.i64.wrap ((o : Int) + 1) = (o : Int) + 1:=by rw [wrap_i64] <;> omega
   have he1 : min ((e : Int) + 1) 1073741824 = ((pls e 1 : Nat) : Int):=pls_i e 1
   have ho1 : min ((o : Int) + 1) 1073741824 = ((pls o 1 : Nat) : Int):=pls_i o 1
   simp [hwe,hwo,he1,ho1]
   rw [hgd,← q2,← q3]; simp [nC,natV]
end Go.Proofs.YtcmblmkbdenakaaGreatDoor
namespace Go.Proofs.YtcmblmkbdenakaaGreatDoor
open Go
structure PiS where
 n : Nat
 x : Nat
set_option maxRecDepth 100000 in
theorem lpin_c (k p : Nat) (hk : k < 256) (l : List (Int × Int)) (cap : Option Nat) (hl : l.length ≤ 20) (hp : p < l.length) : PureC Tryz.prog gl0 24 [u8V k,natV p,.sl (l.map cV) cap] (natV (pinD k p (l.map capC))):=by
 have hn : nev = 1073741824:=rfl
 have hlen : (l.map capC).length = l.length:=by simp
 have hprc:=fun n hn=>price_c l cap n p (by omega) hn
 have hpow:=power_c l.length (by omega)
 have hb3 : (3 : Nat) ^ l.length ≤ 3 ^ 20:=Nat.pow_le_pow_right (by omega) hl
 have h320 : (3 : Nat) ^ 20 = 3486784401:=by decide
 have hlb:=lw_bsk p (l.map capC) 0 (sees k p) (fun j hj a v=>by
  have : j = p:=by omega
  subst this
  simp [sees])
 generalize hts : l.map capC = ts at hlen hprc hlb ⊢
 rw [hlen] at hlb
 refine PureC.of_W 2 ok24 rfl ?_
 simp [i24,x24,u8V]
 have hgd : pinD k p ts = if k = 13 then 1 else pls (bsk p 0 ts (sees k p)) 1:=rfl
 refine BrB.of (fun h13=>?_) (fun h13=>?_)
 ·have h13 : k = 13:=of_decide_eq_true h13
  subst h13; simp [pinD,natV]
 have h13 : ¬ k = 13:=of_decide_eq_false h13
 rw [if_neg h13] at hgd
 simp
 refine LoopP.of (X:=PiS) (fun z=>[(8,natV z.n),(7,natV z.x),(0,u8V k),(1,natV p),(2,.sl (l.map cV) cap)]) (fun z=>[])
  (fun z=>z.n ≤ 3 ^ l.length∧z.x = lw (fun n=>min (prc p 0 ts n) nev) (fun n=>sees k p (dg l.length n)) z.n) (fun z=>3 ^ l.length - z.n) ⟨0,nev⟩ ⟨by simp,by simp [lw]⟩ (by simp [natV,u8V]) (by simp) ?_
 rintro ⟨n,e⟩ ⟨q1,q2⟩
 dsimp only at q1 q2 ⊢
 have hep:=lw_le (fun n=>min (prc p 0 ts n) nev) (fun n=>sees k p (dg l.length n)) n
 rw [← q2] at hep
 generalize hN : 3 ^ l.length = N at *
 simp [natV]
 refine CallO.pure hpow (by simp [natV]) ?_
 simp [natV]
 refine BrB.of (fun hb2=>?_) (fun hb2=>?_)
 ·have hi:=of_decide_eq_true hb2
  have hw:=wrapN n (by omega)
  have hdl:=dg_len l.length n
  have hlog0:=logE_c k hk ((dg l.length n).set p 0) none (by simp; omega)
  have hlog1:=logE_c k hk ((dg l.length n).set p 1) none (by simp; omega)
  have e1 : lw (fun n=>min (prc p 0 ts n) nev) (fun n=>sees k p (dg l.length n)) (n + 1) = if sees k p (dg l.length n) = true then min e (min (prc p 0 ts n) nev) else e:=by rw [q2]; simp [lw]
  have hp37:=hprc n (by omega)
  have hsee : sees k p (dg l.length n) = (decide (logE k ((dg l.length n).set p 0) ≤ 1) && decide (logE k ((dg l.length n).set p 1) ≤ 1) && !decide (logE k ((dg l.length n).set p 0) = logE k ((dg l.length n).set p 1))):=rfl
  generalize min (prc p 0 ts n) nev = w at *
  generalize dg l.length n = D at *
  have hpD : p < D.length:=by omega
  simp
  refine CallO.own 1000 hp37 (by simp [cVs_pure,natV]) (by simp) fun v h' hv gf=>?_
  obtain ⟨z,z1,rfl,rfl⟩:=hv
  rcases z with _ | ⟨gz,r⟩
  ·exfalso
   have:=congrArg List.length z1
   simp [accL_n,hdl] at this; omega
  ·have z1 : r = D.map u8V:=z1
   subst z1
   have hrn : ∀ s,(V.rn s ∘ u8V) = u8V:=fun s=>rfl
   simp [accV_s,accH_s,upS,upH,V.rn,V.rnL,Blk.rn,Blk.gen,hrn,natV,hdl,hp,u8V,hpD]
   generalize gf 1000 + gz = g1
   refine CallO.borrow 1 hlog0 (by
    rw [List.map_cons,List.map_cons,List.map_nil,frz_rowP (sz:=1) 0 (L:=(D.set p 0).map u8V) (by simp [u8V]) (u8s_pure _) (by simp [hdl])]; rfl) rfl ?_
   simp [hdl,hp,hpD]
   refine CallO.borrow 1 hlog1 (by
    rw [List.map_cons,List.map_cons,List.map_nil,frz_rowP (sz:=1) 0 (L:=(D.set p 1).map u8V) (by simp [u8V]) (u8s_pure _) (by simp [hdl])]; rfl) rfl ?_
   generalize logE k (D.set p 0) = x at *
   generalize logE k (D.set p 1) = y at *
   simp [u8V]
   have lt2 : ∀ q : Nat,decide (q ≤ 1) = decide (q < 2):=fun q=>decide_eq_decide.2 (by omega)
   rw [lt2,lt2] at hsee
   by_cases h1 : x < 2
   ·by_cases h2 : y < 2
    ·by_cases h3 : x = y
     ·subst h3
      rw [if_neg (by rw [hsee]; simp)] at e1
      simp [h1,hw]
      exact ⟨⟨n + 1,e⟩,⟨hi,e1.symm⟩,⟨rfl,rfl⟩,by dsimp only; omega⟩
     ·rw [if_pos (by rw [hsee]; simp [h1,h2,h3])] at e1
      simp [h1,h2,h3,natV,min_i,hw]
      exact ⟨⟨n + 1,min e w⟩,⟨hi,e1.symm⟩,⟨rfl,rfl⟩,by dsimp only; omega⟩
    ·rw [if_neg (by rw [hsee]; simp [h2])] at e1
     simp [h1,h2,hw]
     exact ⟨⟨n + 1,e⟩,⟨hi,e1.symm⟩,⟨rfl,rfl⟩,by dsimp only; omega⟩
   ·rw [if_neg (by rw [hsee]; simp [h1])] at e1
    simp [h1,hw]
    exact ⟨⟨n + 1,e⟩,⟨hi,e1.symm⟩,⟨rfl,rfl⟩,by dsimp only; omega⟩
 ·have hi : n = N:=by have:=of_decide_eq_false hb2; omega
  subst hi
  have hwe : IntKind.i64.wrap ((e : Int) + 1) = (e : Int) + 1:=by rw [wrap_i64] <;> omega
  have he1 : min ((e : Int) + 1) 1073741824 = ((pls e 1 : Nat) : Int):=pls_i e 1
  simp [hwe,he1]
  rw [hgd,← hlb,← q2]
def costL (bs : List Nat) : Nat→List (Int × Int)
 | 0=>[]
 | n + 1=>costL bs n ++ [if 2 * n + 1 < bs.length then (costI (bs.getD (2 * n) 0),costI (bs.getD (2 * n + 1) 0)) else (1,1)]
theorem costL_len (bs : List Nat) : ∀ n,(costL bs n).length = n
 | 0=>rfl
 | n + 1=>by simp [costL,costL_len bs n]
theorem lohi {k : Int} (h0 : 0 ≤ k) (h : k < 16) : 0 ≤ kLo k∧kLo k ≤ min (kHi k) 4:=kind_cases h0 h (Q:=fun k=>0 ≤ kLo k∧kLo k ≤ min (kHi k) 4) (by decide)
theorem many_c (k b : Nat) (hk : k < 16) (hb : b < 256) : ∃ m : Nat,m ≤ 4∧widB k m = true∧PureC Tryz.prog gl0 22 [u8V k,u8V b] (natV m):=by
 have hf:=fanin_c k (by omega) (by omega)
 obtain ⟨q1,q2⟩:=lohi (k:=k) (by omega) (by omega)
 obtain ⟨lo,hlo⟩ : ∃ lo : Nat,kLo k = lo:=⟨(kLo k).toNat,by omega⟩
 obtain ⟨w,hw⟩ : ∃ w : Nat,min (kHi k) 4 = lo + w:=⟨(min (kHi k) 4 - lo).toNat,by omega⟩
 obtain ⟨r,hr⟩ : ∃ r,b % (w + 1) = r:=⟨_,rfl⟩
 have hrw : r ≤ w:=by have:=Nat.mod_lt b (show 0 < w + 1 by omega); omega
 refine ⟨lo + r,by omega,by simp [widB]; omega,?_⟩
 refine PureC.of_W 3 ok22 rfl ?_
 have hub:=u8i hb
 have w1 : IntKind.i64.wrap ((lo : Int) + w - lo) = (w : Int):=by rw [wrap_i64] <;> omega
 have w2 : IntKind.i64.wrap ((w : Int) + 1) = ((w + 1 : Nat) : Int):=by rw [wrap_i64] <;> omega
 have w3 : ((b : Int)).tmod ((w + 1 : Nat) : Int) = (r : Int):=by rw [← hr]; rfl
 have w4 : IntKind.i64.wrap ((lo : Int) + (r : Int)) = ((lo + r : Nat) : Int):=by rw [wrap_i64] <;> omega
 have w0 : ¬ ((w + 1 : Nat) : Int) = 0:=by omega
 obtain ⟨hk2,hhk⟩ : ∃ x,kHi k = x:=⟨_,rfl⟩
 rw [hlo,hhk] at hf
 rw [hhk] at hw
 simp [i22,x22,u8V]
 refine CallO.pure hf (by simp) ?_
 obtain ⟨w',hw'⟩ : ∃ w',w + 1 = w':=⟨_,rfl⟩
 rw [hw'] at w2 w3 w0
 have w0' : ¬ w' = 0:=by omega
 simp [hw,w1,w2,hub,w3,w4,natV,w0']
theorem costs_c (bs : List Nat) (cap : Option Nat) (n : Nat) (hb : ∀ x ∈ bs,x < 256) (hl : bs.length < 1000) (hn : n < 1000) : PureC Tryz.prog gl0 21 [.sl (bs.map u8V) cap,natV n] (listV ((costL bs n).map cV)):=by
 refine PureC.of_W 2 ok21 rfl ?_
 simp [i21,x21,natV]
 refine LoopP.of (X:=PrS) (fun z=>[(6,natV z.i),(5,accV 37 z.z),(0,.sl (bs.map u8V) cap),(1,natV n)]) (fun z=>accH 37 2 z.z)
  (fun z=>z.i ≤ n∧accL z.z = (costL bs z.i).map cV∧(z.i = 0→z.z = none)) (fun z=>n - z.i) ⟨0,0,0,none⟩ ⟨by simp,rfl,fun _=>rfl⟩ (by simp [natV,accV_n]) (by simp [accH_n]) ?_
 rintro ⟨i,m,s,z⟩ ⟨q1,q2,q3⟩
 dsimp only at q1 q2 q3 ⊢
 simp [natV]
 refine BrB.of (fun hb2=>?_) (fun hb2=>?_)
 ·have hi:=of_decide_eq_true hb2
  have hw:=wrapN i (by omega)
  have w1 : IntKind.i64.wrap (2 * (i : Int)) = ((2 * i : Nat) : Int):=by rw [wrap_i64] <;> omega
  have hwj:=wrapN (2 * i) (by omega)
  obtain ⟨j,hj⟩ : ∃ j,2 * i = j:=⟨_,rfl⟩
  obtain ⟨j1,hj1⟩ : ∃ j,2 * i + 1 = j:=⟨_,rfl⟩
  rw [hj] at w1 hwj
  rw [← hj,hj1,hj] at hwj
  have hcl : costL bs (i + 1) = costL bs i ++ [if j1 < bs.length then (costI (bs.getD j 0),costI (bs.getD j1 0)) else (1,1)]:=by simp only [costL]; rw [hj1,hj]
  have hcp : ∀ q,costL bs (i + 1) = costL bs i ++ [q]→(costL bs (i + 1)).map cV = accL z ++ [cV q]:=fun q h=>by rw [h,q2]; simp
  have fin : ∀ (q : Int × Int) (g37 : Nat),costL bs (i + 1) = costL bs i ++ [q]→(i + 1 ≤ n∧accL (some (g37,accL z ++ [cV q])) = (costL bs (i + 1)).map cV∧(i + 1 = 0→some (g37,accL z ++ [cV q]) = none)):=fun q g h=>⟨hi,(hcp q h).symm,fun h=>by omega⟩
  simp [w1,hwj]
  intro gf
  refine BrB.of (fun hb3=>?_) (fun hb3=>?_)
  ·have hj1b:=of_decide_eq_true hb3
   have hjb : j < bs.length:=by omega
   rw [if_pos hj1b] at hcl
   obtain ⟨x,hx⟩ : ∃ x,bs[j] = x:=⟨_,rfl⟩
   obtain ⟨y,hy⟩ : ∃ y,bs[j1] = y:=⟨_,rfl⟩
   have hxb:=hb x (hx ▸ List.getElem_mem hjb)
   have hyb:=hb y (hy ▸ List.getElem_mem hj1b)
   have hx2 : bs.getD j 0 = x:=by rw [List.getD_eq_getElem?_getD,List.getElem?_eq_getElem hjb,hx]; rfl
   have hy2 : bs.getD j1 0 = y:=by rw [List.getD_eq_getElem?_getD,List.getElem?_eq_getElem hj1b,hy]; rfl
   rw [hx2,hy2] at hcl
   have c1:=cost_c x hxb
   have c2:=cost_c y hyb
   simp [w1,hwj,hjb,hj1b,hx,hy,u8V]
   intro gm
   first | refine ⟨_,_,_,.pure c1 (by simp [u8V]),?_⟩ | refine ⟨_,⟨_,_,.pure c1 (by simp [u8V])⟩,?_⟩ | refine ⟨_,_,⟨_,.pure c1 (by simp [u8V])⟩,?_⟩
   simp [w1,hwj,hj1b,hy]
   trace_state
   first | refine ⟨_,_,_,.pure c2 (by simp [u8V]),?_⟩ | refine ⟨_,⟨_,_,.pure c2 (by simp [u8V])⟩,?_⟩ | refine ⟨_,_,⟨_,.pure c2 (by simp [u8V])⟩,?_⟩
   simp
   refine ⟨rfl,?_⟩
   rcases z with _ | ⟨gz,r⟩
   ·simp [accV_n,accH_n]
    intro gx gy
    simp [hw]
    exact ⟨⟨i + 1,0,0,some (gy 37,[] ++ [cV (costI x,costI y)])⟩,fin _ _ hcl,⟨by simp,rfl⟩,by simp [accH_s,cV],by dsimp only; omega⟩
   ·have hrl : r.length = i:=by have:=congrArg List.length q2; simpa [accL_s,costL_len] using this
    simp [accV_s,accH_s]
    intro gx gy
    simp [hw]
    exact ⟨by omega,⟨i + 1,0,0,some (gy 37,r ++ [cV (costI x,costI y)])⟩,fin _ _ hcl,⟨by simp,by simp [accV_s]⟩,by simp [accH_s,cV],by dsimp only; omega⟩
  ·have hj1b:=of_decide_eq_false hb3
   rw [if_neg hj1b] at hcl
   simp
   rcases z with _ | ⟨gz,r⟩
   ·simp [accV_n,accH_n]
    intro gx gy
    simp [hw]
    exact ⟨⟨i + 1,0,0,some (gy 37,[] ++ [cV ((1 : Int),(1 : Int))])⟩,fin _ _ hcl,⟨by simp,rfl⟩,by simp [accH_s,cV],by dsimp only; omega⟩
   ·have hrl : r.length = i:=by have:=congrArg List.length q2; simpa [accL_s,costL_len] using this
    simp [accV_s,accH_s]
    intro gx gy
    simp [hw]
    exact ⟨by omega,⟨i + 1,0,0,some (gy 37,r ++ [cV ((1 : Int),(1 : Int))])⟩,fin _ _ hcl,⟨by simp,by simp [accV_s]⟩,by simp [accH_s,cV],by dsimp only; omega⟩
 ·have hi : i = n:=by have:=of_decide_eq_false hb2; omega
  subst hi
  rw [← q2]
  rcases z with _ | ⟨gz,r⟩
  ·simp [accV_n,accH_n,accL_n,listV]
  ·have hrp : V.pureL r = true:=by have:=cVs_pure (costL bs i); rw [← q2] at this; exact this
   have hr0 : r ≠ []:=fun e=>by
    have hl2 : r.length = i:=by have:=congrArg List.length q2; simpa [accL_s,costL_len] using this
    rw [e] at hl2
    have:=q3 (by simpa using hl2.symm)
    cases this
   simp [accV_s,accH_s,accL_s]
   have hmr : ∀ f p,r.map (fun x=>V.mapR f p x) = r:=fun f p=>by
    have:=takeR hrp rfl f p
    rwa [List.take_of_length_le (by simp)] at this
   rw [hmr]
   cases r with
   | nil=>exact absurd rfl hr0
   | cons a b=>rfl
end Go.Proofs.YtcmblmkbdenakaaGreatDoor
