/- Renumbered: the law. Conditions: none. -/
import Derived.Test.YtcdfifbabhfknaaDoorM1
import Derived.Test.YtcdfifbabhfknaaDoorX2
import Derived.Test.YtcdfifbabhfknaaDoorXL7
set_option linter.unusedSimpArgs false
set_option linter.unusedVariables false
namespace Go.Proofs.YtcdfifbabhfknaaDoor
open Go
section
variable {P : Program} {gl : Fr} {fr : Fr} {h : Hp} {a b : XC} {Q : IQ}
@[simp] theorem wpM_8 : XC.wpM P gl 8 (.seq a b) Q fr h = a.wpF P gl (seqQ (KM P gl 7 b Q) Q) fr h:=wpM_seq
@[simp] theorem wpM_9 : XC.wpM P gl 9 (.seq a b) Q fr h = a.wpF P gl (seqQ (KM P gl 8 b Q) Q) fr h:=wpM_seq
@[simp] theorem wpM_10 : XC.wpM P gl 10 (.seq a b) Q fr h = a.wpF P gl (seqQ (KM P gl 9 b Q) Q) fr h:=wpM_seq
@[simp] theorem wpM_11 : XC.wpM P gl 11 (.seq a b) Q fr h = a.wpF P gl (seqQ (KM P gl 10 b Q) Q) fr h:=wpM_seq
@[simp] theorem wpM_12 : XC.wpM P gl 12 (.seq a b) Q fr h = a.wpF P gl (seqQ (KM P gl 11 b Q) Q) fr h:=wpM_seq
end
theorem u8sP (l : List Nat) : V.pureL (l.map u8V) = true:=pureL_map (fun _=>rfl) l
theorem md_okR {c : Ci} {m : Md} (hm : mdE c m = 0) : m.a ≠ []∧m.d ≠ []∧(∀ x ∈ m.a,0 ≤ x∧x < (c.n.length : Int))∧(∀ x ∈ m.d,0 ≤ x∧x < (c.n.length : Int))∧(0 ≤ m.w∧m.w < (c.n.length : Int))∧m.a.length ≤ 8∧m.d.length ≤ 32:=by
 unfold mdE at hm
 split at hm
 ·cases hm
 ·rename_i h1
  split at hm
  ·cases hm
  ·rename_i h2
   simp only [Bool.not_eq_true,Bool.or_eq_false_iff] at h1 h2
   have ho : ∀ {x : Int},outB c.n.length x = false→0 ≤ x∧x < (c.n.length : Int):=fun hx=>by simp [outB] at hx; omega
   have ha : ∀ {l : List Int},l.any (outB c.n.length) = false→∀ x ∈ l,0 ≤ x∧x < (c.n.length : Int):=fun hl x hx=>by
    rw [List.any_eq_false] at hl
    exact ho (by simpa using hl x hx)
   have w1:=h1.1
   have w2:=h1.2
   simp [wrB] at w1 w2
   exact ⟨w1.1,w2.1,ha h2.1.1,ha h2.1.2,ho h2.2,by omega,by omega⟩
def MdV (d : Md) (P : Nat→Nat) : V:=(rMd P d).v
structure MmS where
 j : Nat
 g : Nat
def mmV (z : MmS) : V:=if z.j = 0 then .nil else .ref 144 z.g 0 1 none
def mmH (d : V) (z : MmS) : Hp:=if z.j = 0 then [] else [(144,.row z.g 3 [d])]
def entR (P : Nat→Nat) (y : Nd) : V:=.agg [.int .u8 y.k,if y.i = [] then .nil else .sl (ints (y.i.map (rP P))) none,.int .i64 y.a,.int .i64 y.b]
def blkN : V:=.agg [.int .u8 0,.nil,.int .i64 0,.int .i64 0]
def rowN (c : Ci) (P Q : Nat→Nat) (m j : Nat) : V:=if Q j < m then entR P (c.nd (Q j)) else blkN
def rowS (c : Ci) (Q : Nat→Nat) (m j : Nat) : V:=if Q j < m then .str (120 :: c.s.getD (Q j) []) else .str []
theorem entR_pure (P : Nat→Nat) (y : Nd) : (entR P y).pure = true:=by
 unfold entR; split <;> simp [V.pure,V.pureL,ints_pure]
theorem rowN_pure (c : Ci) (P Q : Nat→Nat) (m n : Nat) : V.pureL (tab n (rowN c P Q m)) = true:=tab_pure fun j=>by
 unfold rowN; split
 ·exact entR_pure _ _
 ·rfl
theorem rowS_pure (c : Ci) (Q : Nat→Nat) (m n : Nat) : V.pureL (tab n (rowS c Q m)) = true:=tab_pure fun j=>by
 unfold rowS; split <;> rfl
theorem rowN_zero (c : Ci) (P Q : Nat→Nat) (n : Nat) : List.replicate n (V.agg [.int .u8 0,.nil,.int .i64 0,.int .i64 0]) = tab n (rowN c P Q 0):=by
 rw [tab_const]; exact tab_congr fun j _=>by simp [rowN,blkN]
theorem rowS_zero (c : Ci) (Q : Nat→Nat) (n : Nat) : List.replicate n (V.str []) = tab n (rowS c Q 0):=by
 rw [tab_const]; exact tab_congr fun j _=>by simp [rowS]
theorem rowN_set {c : Ci} {n m : Nat} {P Q : Nat→Nat} (h : Pm n P Q) (hm : m < n) : (tab n (rowN c P Q m)).set (P m) (entR P (c.nd m)) = tab n (rowN c P Q (m + 1)):=by
 rw [tab_set]
 refine tab_congr fun j hj=>?_
 by_cases e : j = P m
 ·subst e
  rw [upd1_same]; unfold rowN
  rw [h.qp m hm,if_pos (Nat.lt_succ_self m)]
 ·rw [upd1_ne _ _ e]
  have : Q j ≠ m:=fun q=>e (by rw [← q,h.pq j hj])
  unfold rowN
  by_cases q : Q j < m
  ·rw [if_pos q,if_pos (by omega)]
  ·rw [if_neg q,if_neg (by omega)]
theorem rowS_set {c : Ci} {n m : Nat} {P Q : Nat→Nat} (h : Pm n P Q) (hm : m < n) : (tab n (rowS c Q m)).set (P m) (.str (120 :: c.s.getD m [])) = tab n (rowS c Q (m + 1)):=by
 rw [tab_set]
 refine tab_congr fun j hj=>?_
 by_cases e : j = P m
 ·subst e
  rw [upd1_same]; unfold rowS
  rw [h.qp m hm,if_pos (Nat.lt_succ_self m)]
 ·rw [upd1_ne _ _ e]
  have : Q j ≠ m:=fun q=>e (by rw [← q,h.pq j hj])
  unfold rowS
  by_cases q : Q j < m
  ·rw [if_pos q,if_pos (by omega)]
  ·rw [if_neg q,if_neg (by omega)]
theorem entR_le (P : Nat→Nat) (y : Nd) : CellsLe (entR P y) (rNd P y).v:=by
 unfold entR
 refine ⟨.refl _,?_,.refl _,.refl _,trivial⟩
 by_cases h : y.i = []
 ·rw [if_pos h]
  simp only [rNd,h]
  exact VLe.nil'
 ·rw [if_neg h]; exact .refl _
theorem rowN_le {c : Ci} {P Q : Nat→Nat} {n : Nat} (hn : c.n.length = n) (h : Pm n P Q) (cap : Option Nat) : VLe (.sl (tab n (rowN c P Q n)) cap) (.sl ((rCi c P Q).n.map Nd.v) none):=by
 refine VLe.trans (VLe.slc (by simp [rCi,hn]) fun j=>?_) (.cap _ cap)
 simp only [List.getD_eq_getElem?_getD,List.getElem?_map]
 by_cases hj : j < n
 ·rw [tab_get? _ hj]
  have e : (rCi c P Q).n[j]? = some (rNd P (c.nd (Q j))):=by simp only [rCi]; rw [hn,tab_get? _ hj]
  rw [e]
  unfold rowN
  rw [if_pos (h.q j hj)]
  exact entR_le _ _
 ·rw [List.getElem?_eq_none (by simp; omega),List.getElem?_eq_none (by rw [rCi_len]; omega)]
  exact AllLe.refl _
theorem rowS_le {c : Ci} {P Q : Nat→Nat} {n : Nat} (hn : c.n.length = n) (h : Pm n P Q) (cap : Option Nat) : VLe (.sl (tab n (rowS c Q n)) cap) (.sl ((rCi c P Q).s.map .str) none):=by
 have e : tab n (rowS c Q n) = (rCi c P Q).s.map .str:=by
  simp only [rCi]; rw [hn,tab_map]
  exact tab_congr fun j hj=>by unfold rowS; rw [if_pos (h.q j hj)]
 rw [e]; exact .cap _ cap
set_option maxRecDepth 100000 in
theorem lawRen_c (x : Cx) (hx : x.ok) (l : List Nat) (hl : l.length = 16) (hw : ∀ a ∈ l,a < 256) : PureC Tryd.prog gl0 7 [x.v,.agg (l.map u8V)] (.bool true):=by
 have hof:=cof_c x hx
 have hsh:=shE_ok x
 have hac : acyc x.ci:=acyc_below (ci_below x)
 have hwf:=ci_wf x
 have hval:=sh_val hwf hsh
 have hnn:=(cxn_ok x).2
 have hn16 : x.ci.n.length ≤ 16:=by rw [hnn]; exact (ns0_ok x).2.2.2
 have hsn : x.ci.s = (List.range x.ci.n.length).map nameB:=by rw [hnn]; rfl
 have hml : x.ci.m.length ≤ 1:=by simp only [Cx.ci]; split <;> simp
 have hol : x.ci.o.length ≤ 4∧x.ci.o ≠ []:=by simp [Cx.ci]; omega
 have hxp : x.v.pure = true:=by
  have hgp : V.pureL (x.g.map Gx.v) = true:=pureL_map (fun g=>by simp [Gx.v,u8V]) x.g
  have hop : V.pureL (x.o.map u8V) = true:=u8sP x.o
  simp [Cx.v,u8V,hgp,hop]
 generalize x.ci = c at *
 have hpm:=rk_pm l c.n.length
 have hkp:=u8sP l
 refine PureC.of_WM 11 3 ok7 rfl ?_
 have hxv : x.v = .agg [u8V x.n,u8V x.f,u8V x.d0,u8V x.d1,.bool x.bus,.bool x.mem,u8V x.p0,u8V x.p1,u8V x.p2,u8V x.p3,.sl (x.g.map Gx.v) none,.sl (x.o.map u8V) none]:=rfl
 rw [hxv] at hof hxp
 have hkc : (l.map u8V).length = 16:=by simpa using hl
 simp [i7,x7,Cx.v,u8V]
 intro ga gb
 generalize ga 2 = g2
 generalize gb 3 = g3
 refine KM.mk (.done ?_)
 simp
 refine CallO.pure hof (by simpa [u8V] using hxp) ?_
 simp
 intro gc
 generalize gc 5 = g5
 refine KM.mk (.done ?_)
 simp
 refine KM.mk (.done ?_)
 simp
 intro gd
 refine ⟨by omega,fun ge=>?_⟩
 generalize gd 27 = g27
 generalize ge 7 = g7
 rw [natsT_rep,hl]
 refine KM.mk (.done ?_)
 obtain ⟨n,hn⟩ : ∃ n,c.n.length = n:=⟨_,rfl⟩
 rw [hn] at hpm ⊢
 have hn16n : n ≤ 16:=by omega
 have hk16 : ∀ k,k % 16 < 16:=fun k=>Nat.mod_lt _ (by omega)
 have hgd : ∀ k,l.getD (k % 16) 0 = l[k % 16]'(by rw [hl]; exact hk16 k):=fun k=>by rw [List.getD_eq_getElem?_getD,List.getElem?_eq_getElem]; rfl
 simp
 refine LoopP.of (X:=Nat) (fun i=>[(8,natV i),(7,.ptr 7 g7 0 0),(6,natV n),(5,.ptr 5 g5 0 0),(4,.bool false),(3,.ptr 3 g3 0 0)])
  (fun i=>[(7,.row g7 1 [.ref 27 g27 0 n (some n)]),(27,.row g27 1 (natsT n (rkS l n i 0))),(5,.row g5 4 [c.v]),(3,.row g3 16 [.agg (l.map u8V)])])
  (fun i=>i ≤ n) (fun i=>n - i) 0 (Nat.zero_le _) (by simp [natV]) (by simp [rkS_start]; rfl) ?_
 intro i hi
 simp [natV]
 refine BrB.of (fun hb=>?_) (fun hb=>?_)
 ·have hi':=of_decide_eq_true hb
  have hwi:=wrapN i (by omega)
  simp
  refine LoopP.of (X:=Nat) (fun k=>[(9,natV k),(8,natV i),(7,.ptr 7 g7 0 0),(6,natV n),(5,.ptr 5 g5 0 0),(4,.bool false),(3,.ptr 3 g3 0 0)])
   (fun k=>[(7,.row g7 1 [.ref 27 g27 0 n (some n)]),(27,.row g27 1 (natsT n (rkS l n i k))),(5,.row g5 4 [c.v]),(3,.row g3 16 [.agg (l.map u8V)])])
   (fun k=>k ≤ n) (fun k=>n - k) 0 (Nat.zero_le _) (by simp [natV]) (by simp) ?_
  intro k hk
  simp [natV]
  refine BrB.of (fun hb2=>?_) (fun hb2=>?_)
  ·have hk':=of_decide_eq_true hb2
   have hwk:=wrapN k (by omega)
   have ek : ((k : Int)).tmod 16 = ((k % 16 : Nat) : Int):=modN (b:=16) rfl
   have ei : ((i : Int)).tmod 16 = ((i % 16 : Nat) : Int):=modN (b:=16) rfl
   have hkl : k % 16 < l.length:=by rw [hl]; exact hk16 k
   have hil : i % 16 < l.length:=by rw [hl]; exact hk16 i
   obtain ⟨A,hA⟩ : ∃ A,l[k % 16] = A:=⟨_,rfl⟩
   obtain ⟨B,hB⟩ : ∃ B,l[i % 16] = B:=⟨_,rfl⟩
   have hlo : lo l k i = (decide (A < B) || (decide (A = B) && decide (k < i))):=by unfold lo; rw [hgd,hgd,hA,hB]
   have hk6:=hk16 k
   have hi6:=hk16 i
   generalize k % 16 = k6 at *
   generalize i % 16 = i6 at *
   have hue : ∀ e : Nat,u8V e = V.int .u8 (e : Int):=fun _=>rfl
   have hRl:=natsT_len n (rkS l n i k)
   have hRa:=natsT_at n (rkS l n i k)
   have hset:=natsT_set n (rkS l n i k) i (rkS l n i k i + 1)
   simp only [Int.natCast_add,Int.natCast_one,Int.ofNat_one] at hset
   have hwR:=wrapN (rkS l n i k i) (by rw [rkS_at]; have:=sumR01 (lo l · i) k; omega)
   have hcase : (A < B∨¬ A < B∧A = B∧k < i)∨(¬ A < B∧A = B∧¬ k < i∨¬ A < B∧¬ A = B):=by omega
   rcases hcase with (h1 | h1) | (h1 | h1)
   all_goals simp [ek,ei,hkl,hil,hA,hB,hue,h1,hi',hRl,hRa,hwR,hset,hwk]
   ·have hlt : lo l k i = true:=by rw [hlo]; simp [h1]
    exact ⟨hk6,hi6,k + 1,hk',by simp,by rw [rkS_up hlt],by omega⟩
   ·have hlt : lo l k i = true:=by rw [hlo]; simp [h1]
    exact ⟨hk6,hi6,hk6,hi6,k + 1,hk',by simp,by rw [rkS_up hlt],by omega⟩
   ·have hlt : lo l k i = false:=by rw [hlo]; simp [h1]
    exact ⟨hk6,hi6,hk6,hi6,k + 1,hk',by simp,by rw [rkS_same hlt],by omega⟩
   ·have hlt : lo l k i = false:=by rw [hlo]; simp [h1]
    exact ⟨hk6,hi6,hk6,hi6,k + 1,hk',by simp,by rw [rkS_same hlt],by omega⟩
  ·have hk' : k = n:=by have:=of_decide_eq_false hb2; omega
   simp [hwi]
   exact ⟨i + 1,hi',by simp,by rw [hk',rkS_next],by omega⟩
 have hi' : i = n:=by have:=of_decide_eq_false hb; omega
 subst hi'
 rw [rkS_end]
 have hPp:=natsT_pure i (rk l i)
 have hPl:=natsT_len i (rk l i)
 have hPa:=natsT_at i (rk l i)
 simp
 have htk : List.take i (natsT i (rk l i)) = natsT i (rk l i):=List.take_of_length_le (by rw [hPl]; exact Nat.le_refl _)
 have hmr : ∀ (f : Nat→Nat→Nat→Nat→Option Nat→V) (p : Nat→Nat→Nat→Nat→V),V.mapRL f p (natsT i (rk l i)) = natsT i (rk l i):=fun _ _=>mapRL_pure _ hPp
 have hmk : ∀ (f : Nat→Nat→Nat→Nat→Option Nat→V) (p : Nat→Nat→Nat→Nat→V),V.mapRL f p (l.map u8V) = l.map u8V:=fun _ _=>mapRL_pure _ hkp
 refine KM.mk (.frz (g:=g27) (sz:=1) (es:=natsT i (rk l i)) 27 (by simp) hPp (.frz (g:=g7) (sz:=1) (es:=[.sl (natsT i (rk l i)) (some i)]) 7 (by simp [fzH,Blk.fz,fzV,V.mapR,V.mapRL,fzf,hPl,htk]) (by simp [V.pureL,V.pure,hPp]) (.done ?_)))
 simp [fzF,fzH,fzV,fzf,fzp,Blk.fz,V.mapR,V.mapRL,hPl,htk,hmr,hmk,mapRL_pure]
 have hoi : ∀ x ∈ c.o,0 ≤ x∧x < (i : Int):=fun x hxo=>by
  have h6:=(sh_zero hsh).2.2.2.2.2
  rw [List.any_eq_false] at h6
  have:=h6 x hxo
  simp [outB] at this
  omega
 have hmo:=moved1_c i (rk l i) c.o none (some i) hoi (by omega) hol.2
 refine KM.mk (.done ?_)
 simp
 intro gm
 refine ⟨by omega,?_⟩
 have hol2 : (ints (c.o.map (rP (rk l i)))).length = c.o.length:=by simp [ints]
 have hOp:=ints_pure (c.o.map (rP (rk l i)))
 first | refine ⟨_,_,_,.own hmo (by simp [hPp]) hOp rfl,?_⟩ | refine ⟨_,⟨_,_,.own hmo (by simp [hPp]) hOp rfl⟩,?_⟩ | refine ⟨_,_,⟨_,.own hmo (by simp [hPp]) hOp rfl⟩,?_⟩
 generalize hO : ints (c.o.map (rP (rk l i))) = O at *
 simp
 refine ⟨by simp [indAll,snocF,indF,memN]; decide,?_⟩
 generalize gm 71 = g71
 generalize gm 73 = g73
 generalize gm 11 = g11
 generalize gm 77 = g77
 have htO : List.take c.o.length O = O:=List.take_of_length_le (by omega)
 have hOr : ∀ (f : Nat→Nat→Nat→Nat→Option Nat→V) (p : Nat→Nat→Nat→Nat→V),V.mapRL f p O = O:=fun _ _=>mapRL_pure _ hOp
 rw [rowN_zero c (rk l i) (rkQ l i),rowS_zero c (rkQ l i)]
 have hNp:=fun m=>rowN_pure c (rk l i) (rkQ l i) m i
 have hSp:=fun m=>rowS_pure c (rkQ l i) m i
 have hNr : ∀ m (f : Nat→Nat→Nat→Nat→Option Nat→V) (p : Nat→Nat→Nat→Nat→V),V.mapRL f p (tab i (rowN c (rk l i) (rkQ l i) m)) = tab i (rowN c (rk l i) (rkQ l i) m):=fun m _ _=>mapRL_pure _ (hNp m)
 have hSr : ∀ m (f : Nat→Nat→Nat→Nat→Option Nat→V) (p : Nat→Nat→Nat→Nat→V),V.mapRL f p (tab i (rowS c (rkQ l i) m)) = tab i (rowS c (rkQ l i) m):=fun m _ _=>mapRL_pure _ (hSp m)
 have hmN : ∀ b g es m,List.map (fzV b g es) (tab i (rowN c (rk l i) (rkQ l i) m)) = tab i (rowN c (rk l i) (rkQ l i) m):=fun _ _ _ m=>map_fzV (hNp m)
 have hmS : ∀ b g es m,List.map (fzV b g es) (tab i (rowS c (rkQ l i) m)) = tab i (rowS c (rkQ l i) m):=fun _ _ _ m=>map_fzV (hSp m)
 refine KM.mk (.frz (g:=g77) (sz:=1) (es:=O) 77 (by simp) hOp (.done ?_))
 simp [fzF,fzH,Blk.fz,hmN,hmS]
 simp [fzV,fzf,fzp,V.mapR,V.mapRL,hol2,htO,hOr,hmk,mapRL_pure,hPp,hmr]
 refine LoopP.ofM (X:=Nat) (fun m=>[(12,natV m),(11,.ptr 11 g11 0 0),(10,.fn 30 [] [.iptr (.sl (natsT i (rk l i)) (some i)) 0]),(7,.iptr (.sl (natsT i (rk l i)) (some i)) 0),(6,natV i),(5,.ptr 5 g5 0 0),(4,.bool false)])
  (fun m=>[(11,.row g11 4 [.agg [.ref 71 g71 0 i (some i),.ref 73 g73 0 i (some i),.nil,.sl O none]]),(73,.row g73 1 (tab i (rowS c (rkQ l i) m))),(71,.row g71 4 (tab i (rowN c (rk l i) (rkQ l i) m))),(5,.row g5 4 [c.v])])
  (fun m=>m ≤ i) (fun m=>i - m) (.done ⟨0,Nat.zero_le _,by simp [natV],by simp⟩) ?_
 intro m hm
 simp [natV]
 refine BrB.of (fun hb3=>?_) (fun hb3=>?_)
 ·have hm':=of_decide_eq_true hb3
  have hwm:=wrapN m (by omega)
  have hmc : m < c.n.length:=by omega
  obtain ⟨y,hy⟩ : ∃ y,c.n[m] = y:=⟨_,rfl⟩
  have hyc : c.nd m = y:=by rw [c.nd_get hmc,hy]
  have hyi : ∀ x ∈ y.i,0 ≤ x∧x < (i : Int):=fun x hxo=>by
   have:=hval.i m hmc x (by rw [hyc]; exact hxo)
   omega
  have hyl:=hval.l m hmc
  rw [hyc] at hyl
  have hmv:=moved_c i (rk l i) y.i none (some i) hyi (by omega)
  have hsl : c.s.length = i:=by rw [(sh_zero hsh).2.1,hn]
  have hms : m < c.s.length:=by omega
  obtain ⟨nm,hnm⟩ : ∃ nm,c.s[m] = nm:=⟨_,rfl⟩
  have hsg : c.s.getD m [] = nm:=by rw [List.getD_eq_getElem?_getD,List.getElem?_eq_getElem hms,hnm]; rfl
  have hyv : y.v = .agg [.int .u8 y.k,.sl (ints y.i) none,.int .i64 y.a,.int .i64 y.b]:=rfl
  have hPm:=hpm.p m hm'
  have hsN:=rowN_set (c:=c) hpm hm'
  have hsS:=rowS_set (c:=c) hpm hm'
  rw [hyc] at hsN
  rw [hsg] at hsS
  obtain ⟨pm,hpe⟩ : ∃ pm,rk l i m = pm:=⟨_,rfl⟩
  rw [hpe] at hsN hsS hPm
  have hQm : rkQ l i pm = m:=by rw [← hpe,hpm.qp m hm']
  have hN0 : (tab i (rowN c (rk l i) (rkQ l i) m))[pm]'(by simpa using hPm) = .agg [.int .u8 0,.nil,.int .i64 0,.int .i64 0]:=by
   rw [tab_get]; unfold rowN; rw [hQm,if_neg (by omega)]; rfl
  have hS0 : (tab i (rowS c (rkQ l i) m))[pm]'(by simpa using hPm) = .str []:=by
   rw [tab_get]; unfold rowS; rw [hQm,if_neg (by omega)]
  have hnl : nm.length = 3:=by rw [← hnm]; simp [hsn,nameB]
  simp [hmc,hy]
  intro gp
  generalize gp 13 = g13
  refine CallO.own 9000 hmv (by simp [hPp]) (by simp) ?_
  rintro v h (⟨h1,rfl,rfl⟩ | ⟨h1,g,rfl,rfl⟩) gf2
  ·have hy0 : y.i = []:=by simpa [ints] using h1
   have he : entR (rk l i) y = .agg [.int .u8 y.k,.nil,.int .i64 y.a,.int .i64 y.b]:=by unfold entR; rw [if_pos hy0]
   rw [he] at hsN
   simp [upH,upS,hyv,hPl,hPa,hpe,hPm,hm',hms,hnm,hN0,hS0,hnl,hsN,hsS,hwm]
   exact .done ⟨m + 1,hm',by simp,by simp,by omega⟩
  ·have hLp:=ints_pure (y.i.map (rP (rk l i)))
   have hLr : ∀ (f : Nat→Nat→Nat→Nat→Option Nat→V) (p : Nat→Nat→Nat→Nat→V),V.mapRL f p (ints (y.i.map (rP (rk l i)))) = ints (y.i.map (rP (rk l i))):=fun _ _=>mapRL_pure _ hLp
   have hLm : ∀ t : Nat→Nat→Nat × Nat,(ints (y.i.map (rP (rk l i)))).map (V.rn t) = ints (y.i.map (rP (rk l i))):=fun t=>map_rn_pure hLp
   have hLl : (ints (y.i.map (rP (rk l i)))).length = y.i.length:=by simp [ints]
   have hy0 : ¬ y.i = []:=fun e=>h1 (by rw [e]; rfl)
   have he : entR (rk l i) y = .agg [.int .u8 y.k,.sl (ints (y.i.map (rP (rk l i)))) none,.int .i64 y.a,.int .i64 y.b]:=by unfold entR; rw [if_neg hy0]
   rw [he] at hsN
   generalize ints (y.i.map (rP (rk l i))) = L at *
   have htL : List.take y.i.length L = L:=List.take_of_length_le (by omega)
   simp [upH,upS,Blk.rn,hLm,hyv,hPl,hPa,hpe,hPm,hm',hms,hnm,hN0,hS0,hnl,hsS,hwm,hLl]
   generalize gf2 9000 + g = g9
   refine .frz (g:=g9) (sz:=1) (es:=L) 9000 (by simp) hLp (.done ?_)
   simp [fzF,fzH,Blk.fz,hmN,hmS,List.map_set]
   simp [fzV,fzf,fzp,V.mapR,V.mapRL,hLl,htL,hLr,hOr,hmr,mapRL_pure,hsN]
   exact ⟨m + 1,hm',by simp,by simp,by omega⟩
 have hmi : m = i:=by have:=of_decide_eq_false hb3; omega
 rw [hmi]
 simp
 refine KM.mk (.done ?_)
 have hlv1 : PureC Tryd.prog gl0 15 [c.v] (.tup [.sl (natsT i (lvOf c)) (some i),.int .i64 0]):=by
  have h:=levelsW_c c hwf
  rw [hsh] at h
  simpa [lvRes,hac,hn,natsT] using h
 obtain ⟨hdac,hdlv⟩:=ren_lv (c:=c) (P:=rk l i) (Q:=rkQ l i) (by rw [hn]; exact hpm) hval hac
 have hdsh:=ren_sh (c:=c) (P:=rk l i) (Q:=rkQ l i) (by rw [hn]; exact hpm) hn16 hsn hsh
 have hdwf : (rCi c (rk l i) (rkQ l i)).wf:=by
  refine ⟨fun y hy=>?_,fun z hz=>?_⟩
  ·simp only [rCi,tab,List.mem_map,List.mem_range] at hy
   obtain ⟨j,hj,rfl⟩:=hy
   rw [hn] at hj
   have hq:=hpm.q j hj
   exact hwf.k (c.nd (rkQ l i j)) (by rw [c.nd_get (by omega)]; exact List.getElem_mem (by omega))
  ·simp only [rCi,tab,List.mem_map,List.mem_range] at hz
   obtain ⟨j,hj,rfl⟩:=hz
   rw [hn] at hj
   have hq:=hpm.q j hj
   rw [hsn,List.getD_eq_getElem?_getD,List.getElem?_eq_getElem (by simp; omega)]
   simp [nameB]
 have hdl : (rCi c (rk l i) (rkQ l i)).n.length = i:=by rw [rCi_len,hn]
 have hlv2 : ∀ MV,VLe MV (.sl ((rCi c (rk l i) (rkQ l i)).m.map Md.v) none)→PureC Tryd.prog gl0 15 [.agg [.sl (tab i (rowN c (rk l i) (rkQ l i) i)) (some i),.sl (tab i (rowS c (rkQ l i) i)) (some i),MV,.sl O none]] (.tup [.sl (natsT i (lvOf (rCi c (rk l i) (rkQ l i)))) (some i),.int .i64 0]):=fun MV hMV=>by
  have h:=levelsW_c _ hdwf
  rw [hdsh] at h
  have h2:=PureC.wide h (args:=[.agg [.sl (tab i (rowN c (rk l i) (rkQ l i) i)) (some i),.sl (tab i (rowS c (rkQ l i) i)) (some i),MV,.sl O none]]) ⟨.agg ⟨rowN_le hn hpm _,rowS_le hn hpm _,hMV,by rw [← hO]; exact .refl _,trivial⟩,trivial⟩ (.refl _)
  simpa [lvRes,hdac,hdl,natsT] using h2
 have hlives:=lives_c
 cases hcm : c.m with
 | nil=>
  have hcm2 : c.m.length = 0:=by rw [hcm]; rfl
  simp
  refine LoopP.of (X:=Nat) (fun j=>[(14,natV j),(11,.ptr 11 g11 0 0),(7,.iptr (.sl (natsT i (rk l i)) (some i)) 0),(6,natV i),(5,.ptr 5 g5 0 0),(4,.bool false)])
   (fun _=>[(11,.row g11 4 [.agg [.ref 71 g71 0 i (some i),.ref 73 g73 0 i (some i),.nil,.sl O none]]),(73,.row g73 1 (tab i (rowS c (rkQ l i) i))),(71,.row g71 4 (tab i (rowN c (rk l i) (rkQ l i) i))),(5,.row g5 4 [c.v])])
   (fun j=>j = 0) (fun j=>1 - j) 0 rfl (by simp [natV]) (by simp) ?_
  rintro j rfl
  simp [natV,hcm2]
  refine KM.mk (.frz (g:=g71) (sz:=4) (es:=tab i (rowN c (rk l i) (rkQ l i) i)) 71 (by simp) (hNp i) (.frz (g:=g73) (sz:=1) (es:=tab i (rowS c (rkQ l i) i)) 73 (by simp [fzH,Blk.fz,hmS]) (hSp i) (.done ?_)))
  simp [fzF,fzH,Blk.fz,hmN,hmS]
  have htN : List.take i (tab i (rowN c (rk l i) (rkQ l i) i)) = tab i (rowN c (rk l i) (rkQ l i) i):=List.take_of_length_le (by simp)
  have htS : List.take i (tab i (rowS c (rkQ l i) i)) = tab i (rowS c (rkQ l i) i):=List.take_of_length_le (by simp)
  simp [fzV,fzf,fzp,V.mapR,V.mapRL,htN,htS,hNr,hSr,hOr,hmr,mapRL_pure]
  obtain ⟨MV,hMe⟩ : ∃ MV,MV = V.nil:=⟨_,rfl⟩
  have hMV : VLe MV (.sl ((rCi c (rk l i) (rkQ l i)).m.map Md.v) none):=by rw [hMe]; simp only [rCi,hcm]; exact VLe.nil'
  have hMp : MV.pure = true:=by rw [hMe]; rfl
  have hlv3:=hlv2 MV hMV
  rw [← hMe]
  refine CallO.pure hlv1 (by simp) ?_
  simp
  have hL1l:=natsT_len i (lvOf c)
  have hL1a:=natsT_at i (lvOf c)
  obtain ⟨F,hF⟩ : ∃ F,lvOf (rCi c (rk l i) (rkQ l i)) = F:=⟨_,rfl⟩
  rw [hF] at hlv3 hdlv
  have hL2l:=natsT_len i F
  have hL2a:=natsT_at i F
  have hMc : MV.cells = [MV]:=by rw [hMe]; rfl
  have hMpu:=hMp
  refine KM.mk (.done ?_)
  simp
  refine CallO.pure hlv3 (by simp [hMp,hNp,hSp,hOp]) ?_
  simp
  refine KM.mk (.done ?_)
  simp [hL1l,hL2l]
  refine LoopP.of (X:=Nat) (fun k=>[(20,natV k),(18,.sl (natsT i F) (some i)),(16,.sl (natsT i (lvOf c)) (some i)),(7,.iptr (.sl (natsT i (rk l i)) (some i)) 0),(6,natV i),(4,.bool false)])
   (fun _=>[]) (fun k=>k ≤ i) (fun k=>i - k) 0 (Nat.zero_le _) (by simp [natV]) trivial ?_
  intro k hk
  simp [natV]
  refine BrB.of (fun hb4=>?_) (fun hb4=>?_)
  ·have hk':=of_decide_eq_true hb4
   have hwk:=wrapN k (by omega)
   have hpk:=hpm.p k hk'
   have hlk:=hdlv k (by omega)
   simp [hk',hL1l,hL1a,hL2l,hL2a,hPl,hPa,hpk,hlk,hwk]
   exact ⟨k + 1,hk',by simp,by omega⟩
  ·simp
   refine CallO.pure hlives rfl ?_
   simp
 | cons d r=>
  have hr0 : r = []:=by rw [hcm] at hml; simpa using hml
  rw [hr0] at hcm
  obtain ⟨ma,mb,mc,md,me,mf,mg⟩:=md_okR ((sh_zero hsh).2.2.2.2.1 d (by rw [hcm]; simp))
  rw [hn] at mc md me
  have hq1:=moved1_c i (rk l i) d.a none (some i) mc (by omega) ma
  have hq2:=moved1_c i (rk l i) d.d none (some i) md (by omega) mb
  have hcl : c.m.length = 1:=by rw [hcm]; rfl
  have hc0 : ∀ h : 0 < c.m.length,c.m[0] = d:=fun h=>by simp [hcm]
  obtain ⟨w,hwe⟩ : ∃ w : Nat,d.w = w:=⟨d.w.toNat,by omega⟩
  have hwi : w < i:=by omega
  have hdv : d.v = .agg [.sl (ints d.a) none,.sl (ints d.d) none,.int .i64 (w : Int)]:=by rw [← hwe]; rfl
  have hMm : MdV d (rk l i) = V.agg [.sl (ints (d.a.map (rP (rk l i)))) none,.sl (ints (d.d.map (rP (rk l i)))) none,.int .i64 ((rk l i w : Nat) : Int)]:=by
   show V.agg [.sl (ints (d.a.map (rP (rk l i)))) none,.sl (ints (d.d.map (rP (rk l i)))) none,.int .i64 (rP (rk l i) d.w)] = _
   rw [hwe]; simp [rP]
  have hAp:=ints_pure (d.a.map (rP (rk l i)))
  have hDp:=ints_pure (d.d.map (rP (rk l i)))
  have hAl : (ints (d.a.map (rP (rk l i)))).length = d.a.length:=by simp [ints]
  have hDl : (ints (d.d.map (rP (rk l i)))).length = d.d.length:=by simp [ints]
  generalize ints (d.a.map (rP (rk l i))) = LA at *
  generalize ints (d.d.map (rP (rk l i))) = LD at *
  obtain ⟨MD,hMD⟩ : ∃ MD,MD = V.agg [.sl LA none,.sl LD none,.int .i64 ((rk l i w : Nat) : Int)]:=⟨_,rfl⟩
  simp
  refine LoopP.ofM (X:=MmS) (fun z=>[(14,natV z.j),(11,.ptr 11 g11 0 0),(10,.fn 30 [] [.iptr (.sl (natsT i (rk l i)) (some i)) 0]),(7,.iptr (.sl (natsT i (rk l i)) (some i)) 0),(6,natV i),(5,.ptr 5 g5 0 0),(4,.bool false)])
   (fun z=>[(11,.row g11 4 [.agg [.ref 71 g71 0 i (some i),.ref 73 g73 0 i (some i),mmV z,.sl O none]]),(73,.row g73 1 (tab i (rowS c (rkQ l i) i))),(71,.row g71 4 (tab i (rowN c (rk l i) (rkQ l i) i))),(5,.row g5 4 [c.v])] ++ mmH MD z)
   (fun z=>z.j ≤ 1) (fun z=>1 - z.j) (.done ⟨⟨0,0⟩,by simp,by simp [natV],by simp [mmV,mmH]⟩) ?_
  rintro ⟨j,g⟩ hj
  dsimp only at hj ⊢
  have hj2 : j = 0∨j = 1:=by omega
  rcases hj2 with rfl | rfl
  ·simp [natV,mmV,mmH,hcl,hc0,hdv]
   intro gq gm
   first | refine ⟨_,_,_,.own hq1 (by simp [hPp]) hAp rfl,?_⟩ | refine ⟨_,⟨_,_,.own hq1 (by simp [hPp]) hAp rfl⟩,?_⟩ | refine ⟨_,_,⟨_,.own hq1 (by simp [hPp]) hAp rfl⟩,?_⟩
   simp
   first | refine ⟨_,_,_,.own hq2 (by simp [hPp]) hDp rfl,?_⟩ | refine ⟨_,⟨_,_,.own hq2 (by simp [hPp]) hDp rfl⟩,?_⟩ | refine ⟨_,_,⟨_,.own hq2 (by simp [hPp]) hDp rfl⟩,?_⟩
   simp [hPl,hPa,hwi]
   refine ⟨by simp [indAll,snocF,indF,memN]; decide,?_⟩
   generalize gm 132 = g132
   generalize gm 136 = g136
   have htA : List.take d.a.length LA = LA:=List.take_of_length_le (by omega)
   have htD : List.take d.d.length LD = LD:=List.take_of_length_le (by omega)
   have hAr : ∀ (f : Nat→Nat→Nat→Nat→Option Nat→V) (p : Nat→Nat→Nat→Nat→V),V.mapRL f p LA = LA:=fun _ _=>mapRL_pure _ hAp
   have hDr : ∀ (f : Nat→Nat→Nat→Nat→Option Nat→V) (p : Nat→Nat→Nat→Nat→V),V.mapRL f p LD = LD:=fun _ _=>mapRL_pure _ hDp
   refine .frz (g:=g132) (sz:=1) (es:=LA) 132 (by simp) hAp (.frz (g:=g136) (sz:=1) (es:=LD) 136 (by simp [fzH,Blk.fz,map_fzV hDp]) hDp (.done ?_))
   simp [fzF,fzH,Blk.fz,hmN,hmS]
   simp [fzV,fzf,fzp,V.mapR,V.mapRL,hAl,hDl,htA,htD,hAr,hDr,hOr,hmr,mapRL_pure]
   exact ⟨⟨1,gm 144⟩,by simp,by simp,⟨by simp,by simp [hMD]⟩,by simp⟩
  ·simp [natV,mmV,mmH,hcl]
   have hMDp : MD.pure = true:=by rw [hMD]; simp [V.pure,V.pureL,hAp,hDp]
   have htN : List.take i (tab i (rowN c (rk l i) (rkQ l i) i)) = tab i (rowN c (rk l i) (rkQ l i) i):=List.take_of_length_le (by simp)
   have htS : List.take i (tab i (rowS c (rkQ l i) i)) = tab i (rowS c (rkQ l i) i):=List.take_of_length_le (by simp)
   have hMz : ∀ b g es,fzV b g es MD = MD:=fun _ _ _=>fzV_pure hMDp
   refine KM.mk (.frz (g:=g) (sz:=3) (es:=[MD]) 144 (by simp) (by simp [V.pureL,hMDp]) (.frz (g:=g71) (sz:=4) (es:=tab i (rowN c (rk l i) (rkQ l i) i)) 71 (by simp [fzH,Blk.fz,hmN]) (hNp i) (.frz (g:=g73) (sz:=1) (es:=tab i (rowS c (rkQ l i) i)) 73 (by simp [fzH,Blk.fz,hmS]) (hSp i) (.done ?_))))
   have hMr : ∀ (f : Nat→Nat→Nat→Nat→Option Nat→V) (p : Nat→Nat→Nat→Nat→V),V.mapR f p MD = MD:=fun _ _=>mapR_pure _ hMDp
   simp [fzF,fzH,Blk.fz,hmN,hmS]
   simp [fzV,fzf,fzp,V.mapR,V.mapRL,htN,htS,hNr,hSr,hOr,hmr,hMr,mapRL_pure]
   obtain ⟨MV,hMe⟩ : ∃ MV,MV = V.sl [MD] none:=⟨_,rfl⟩
   have hMV : VLe MV (.sl ((rCi c (rk l i) (rkQ l i)).m.map Md.v) none):=by
    have e : (rCi c (rk l i) (rkQ l i)).m.map Md.v = [MD]:=by
     simp only [rCi,hcm,List.map_cons,List.map_nil]
     rw [hMD,← hMm]; rfl
    rw [e,hMe]; exact .refl _
   have hMp : MV.pure = true:=by rw [hMe]; simp [V.pure,V.pureL,hMDp]
   have hMc : MV.cells = [MV]:=by rw [hMe]; rfl
   rw [← hMe]
   have hlv3:=hlv2 MV hMV
   refine CallO.pure hlv1 (by simp) ?_
   simp
   have hL1l:=natsT_len i (lvOf c)
   have hL1a:=natsT_at i (lvOf c)
   obtain ⟨F,hF⟩ : ∃ F,lvOf (rCi c (rk l i) (rkQ l i)) = F:=⟨_,rfl⟩
   rw [hF] at hlv3 hdlv
   have hL2l:=natsT_len i F
   have hL2a:=natsT_at i F
   have hMpu:=hMp
   refine KM.mk (.done ?_)
   simp
   refine CallO.pure hlv3 (by simp [hMp,hNp,hSp,hOp]) ?_
   simp
   refine KM.mk (.done ?_)
   simp [hL1l,hL2l]
   refine LoopP.of (X:=Nat) (fun k=>[(20,natV k),(18,.sl (natsT i F) (some i)),(16,.sl (natsT i (lvOf c)) (some i)),(7,.iptr (.sl (natsT i (rk l i)) (some i)) 0),(6,natV i),(4,.bool false)])
    (fun _=>[]) (fun k=>k ≤ i) (fun k=>i - k) 0 (Nat.zero_le _) (by simp [natV]) trivial ?_
   intro k hk
   simp [natV]
   refine BrB.of (fun hb4=>?_) (fun hb4=>?_)
   ·have hk':=of_decide_eq_true hb4
    have hwk:=wrapN k (by omega)
    have hpk:=hpm.p k hk'
    have hlk:=hdlv k (by omega)
    simp [hk',hL1l,hL1a,hL2l,hL2a,hPl,hPa,hpk,hlk,hwk]
    exact ⟨k + 1,hk',by simp,by omega⟩
   ·simp
    refine CallO.pure hlives rfl ?_
    simp
theorem keys_cells : ∀ l : List Nat,(l.map u8V).flatMap V.cells = l.map u8V
 | []=>rfl
 | a :: l=>by rw [List.map_cons,List.flatMap_cons,keys_cells l]; rfl
end Go.Proofs.YtcdfifbabhfknaaDoor
