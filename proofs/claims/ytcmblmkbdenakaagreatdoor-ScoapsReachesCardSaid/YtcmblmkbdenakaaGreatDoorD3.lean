/- Observability: the least cost over pins, in an order and by rounds; control evaluated in an order. No program stands in it. Conditions: none. -/
import Derived.Test.YtcmblmkbdenakaaGreatDoorD2
import Derived.Test.YtcmblmkbdenakaaGreatDoorI1
set_option linter.unusedSimpArgs false
set_option linter.unusedVariables false
namespace Go.Proofs.YtcmblmkbdenakaaGreatDoor
open Go
def mnJ (at' : Nat→Nat) (is : List Int) (f : Nat→Nat) : Nat→Nat→Nat
 | 0=>f
 | j + 1=>upd1 (mnJ at' is f j) (is.getD j 0).toNat (min (mnJ at' is f j (is.getD j 0).toNat) (at' j))
def obJ (n : Nat) (P : Nat→Nat) (is : List Int) (f : Nat→Nat) : Nat→Nat→Nat
 | 0=>f
 | j + 1=>upd1 (obJ n P is f j) (is.getD j 0).toNat (min (obJ n P is f j (is.getD j 0).toNat) (pls (obJ n P is f j n) (P j)))
theorem mnJ_iff (at' : Nat→Nat) (is : List Int) (f : Nat→Nat) (t k : Nat) : ∀ j,t ≤ mnJ at' is f j k↔t ≤ f k∧∀ i,i < j→(is.getD i 0).toNat = k→t ≤ at' i
 | 0=>by simp [mnJ]
 | j + 1=>by
  have ih:=mnJ_iff at' is f t k j
  simp only [mnJ]
  by_cases hk : k = (is.getD j 0).toNat
  ·rw [hk] at ih ⊢
   rw [upd1_same,Nat.le_min,ih]
   constructor
   ·rintro ⟨⟨h1,h2⟩,h3⟩
    refine ⟨h1,fun i hi e=>?_⟩
    rcases Nat.lt_succ_iff_lt_or_eq.1 hi with h | rfl
    ·exact h2 i h e
    ·exact h3
   ·rintro ⟨h1,h2⟩
    exact ⟨⟨h1,fun i hi e=>h2 i (by omega) e⟩,h2 j (by omega) rfl⟩
  ·rw [upd1_ne _ _ hk,ih]
   constructor
   ·rintro ⟨h1,h2⟩
    refine ⟨h1,fun i hi e=>?_⟩
    rcases Nat.lt_succ_iff_lt_or_eq.1 hi with h | rfl
    ·exact h2 i h e
    ·exact absurd e.symm hk
   ·rintro ⟨h1,h2⟩
    exact ⟨h1,fun i hi e=>h2 i (by omega) e⟩
theorem mnJ_le (at' : Nat→Nat) (is : List Int) (f : Nat→Nat) (k j : Nat) : mnJ at' is f j k ≤ f k:=((mnJ_iff at' is f _ k j).1 (Nat.le_refl _)).1
theorem mnJ_keep {at' : Nat→Nat} {is : List Int} {f : Nat→Nat} {k : Nat} : ∀ {j},(∀ i,i < j→(is.getD i 0).toNat = k→f k ≤ at' i)→mnJ at' is f j k = f k:=fun {j} h=>
 Nat.le_antisymm (mnJ_le at' is f k j) ((mnJ_iff at' is f _ k j).2 ⟨Nat.le_refl _,h⟩)
theorem obJ_eq {n : Nat} {P : Nat→Nat} {is : List Int} {f : Nat→Nat} (hf : f n ≤ nev) : ∀ {j},(∀ i,i < j→(is.getD i 0).toNat = n→nev ≤ P i)→obJ n P is f j = mnJ (fun i=>pls (f n) (P i)) is f j
 | 0,_=>rfl
 | j + 1,h=>by
  have ih:=obJ_eq (n:=n) (P:=P) (is:=is) (f:=f) hf (j:=j) fun i hi e=>h i (by omega) e
  have hk : mnJ (fun i=>pls (f n) (P i)) is f j n = f n:=mnJ_keep fun i hi e=>by
   have:=h i (by omega) e
   simp only [pls,nev] at *; omega
  simp only [obJ,mnJ,ih,hk]
def obL (c : Ci) (P : Nat→Nat→Nat) : List Nat→(Nat→Nat)→Nat→Nat
 | [],f=>f
 | n :: L,f=>obL c P L (obJ n (P n) (c.nd n).i f (c.nd n).i.length)
theorem obL_snoc (c : Ci) (P : Nat→Nat→Nat) (n : Nat) : ∀ (L : List Nat) (f : Nat→Nat),obL c P (L ++ [n]) f = obJ n (P n) (c.nd n).i (obL c P L f) (c.nd n).i.length
 | [],_=>rfl
 | _ :: L,_=>by simp only [List.cons_append,obL]; exact obL_snoc c P n L _
def keeps (c : Ci) (P : Nat→Nat→Nat) (m k : Nat) : Prop:=∀ i,i < (c.nd m).i.length→((c.nd m).i.getD i 0).toNat = k→nev ≤ P m i
theorem obJ_keep {c : Ci} {P : Nat→Nat→Nat} {m k : Nat} {f : Nat→Nat} (hm : keeps c P m m) (hk : keeps c P m k) (hf : ∀ i,f i ≤ nev) : obJ m (P m) (c.nd m).i f (c.nd m).i.length k = f k:=by
 rw [obJ_eq (hf m) hm]
 exact mnJ_keep fun i hi e=>by
  have:=hk i hi e
  have:=hf k
  simp only [pls,nev] at *; omega
theorem obJ_le (n : Nat) (P : Nat→Nat) (is : List Int) (f : Nat→Nat) (hf : ∀ i,f i ≤ nev) : ∀ j i,obJ n P is f j i ≤ nev
 | 0,i=>hf i
 | j + 1,i=>by
  have ih:=obJ_le n P is f hf j
  simp only [obJ]
  by_cases h : i = (is.getD j 0).toNat
  ·subst h; rw [upd1_same]; exact Nat.le_trans (Nat.min_le_left _ _) (ih _)
  ·rw [upd1_ne _ _ h]; exact ih i
theorem obL_le (c : Ci) (P : Nat→Nat→Nat) : ∀ (L : List Nat) (f : Nat→Nat),(∀ i,f i ≤ nev)→∀ i,obL c P L f i ≤ nev
 | [],_,h=>h
 | n :: L,f,h=>obL_le c P L _ (obJ_le n _ _ f h _)
theorem obL_keep {c : Ci} {P : Nat→Nat→Nat} {k : Nat} : ∀ (L : List Nat) (f : Nat→Nat),(∀ m ∈ L,keeps c P m m∧keeps c P m k)→(∀ i,f i ≤ nev)→obL c P L f k = f k
 | [],_,_,_=>rfl
 | n :: L,f,h,hf=>by
  have h1:=h n List.mem_cons_self
  simp only [obL]
  rw [obL_keep L _ (fun m hm=>h m (List.mem_cons_of_mem _ hm)) (obJ_le n _ _ f hf _),obJ_keep h1.1 h1.2 hf]
theorem obL_iff {c : Ci} {P : Nat→Nat→Nat} (t k : Nat) : ∀ (L : List Nat) (f : Nat→Nat),(∀ m ∈ L,keeps c P m m)→L.Pairwise (fun a b=>keeps c P b a)→(∀ i,f i ≤ nev)→
  (t ≤ obL c P L f k↔t ≤ f k∧∀ m ∈ L,∀ i,i < (c.nd m).i.length→((c.nd m).i.getD i 0).toNat = k→t ≤ pls (obL c P L f m) (P m i))
 | [],_,_,_,_=>by simp [obL]
 | n :: L,f,h,hp,hf=>by
  obtain ⟨p1,p2⟩:=List.pairwise_cons.1 hp
  have hn:=h n List.mem_cons_self
  have hL : ∀ m ∈ L,keeps c P m m:=fun m hm=>h m (List.mem_cons_of_mem _ hm)
  have hf1:=obJ_le n (P n) (c.nd n).i f hf (c.nd n).i.length
  have ih:=obL_iff t k L (obJ n (P n) (c.nd n).i f (c.nd n).i.length) hL p2 hf1
  have hon : obL c P (n :: L) f n = f n:=obL_keep _ _ (fun m hm=>by
   rcases List.mem_cons.1 hm with rfl | hm
   ·exact ⟨hn,hn⟩
   ·exact ⟨hL m hm,p1 m hm⟩) hf
  rw [show t ≤ obL c P (n :: L) f k↔t ≤ obL c P L (obJ n (P n) (c.nd n).i f (c.nd n).i.length) k from Iff.rfl,ih,obJ_eq (hf n) hn,mnJ_iff,← obJ_eq (hf n) hn]
  constructor
  ·rintro ⟨⟨h1,h2⟩,h3⟩
   refine ⟨h1,fun m hm i hi e=>?_⟩
   rcases List.mem_cons.1 hm with rfl | hm
   ·rw [hon]; exact h2 i hi e
   ·exact h3 m hm i hi e
  ·rintro ⟨h1,h2⟩
   refine ⟨⟨h1,fun i hi e=>?_⟩,fun m hm i hi e=>h2 m (List.mem_cons_of_mem _ hm) i hi e⟩
   have:=h2 n List.mem_cons_self i hi e
   rwa [hon] at this
end Go.Proofs.YtcmblmkbdenakaaGreatDoor
namespace Go.Proofs.YtcmblmkbdenakaaGreatDoor
open Go
def zeroL : List Nat→(Nat→Nat)→Nat→Nat
 | [],f=>f
 | n :: l,f=>zeroL l (upd1 f n 0)
theorem zeroL_snoc (n : Nat) : ∀ (l : List Nat) (f : Nat→Nat),zeroL (l ++ [n]) f = upd1 (zeroL l f) n 0
 | [],_=>rfl
 | _ :: l,_=>zeroL_snoc n l _
theorem zeroL_iff (t k : Nat) : ∀ (l : List Nat) (f : Nat→Nat),t ≤ zeroL l f k↔t ≤ f k∧(k ∈ l→t ≤ 0)
 | [],f=>by simp [zeroL]
 | n :: l,f=>by
  rw [show t ≤ zeroL (n :: l) f k↔t ≤ zeroL l (upd1 f n 0) k from Iff.rfl,zeroL_iff t k l]
  by_cases h : k = n
  ·subst h; rw [upd1_same]; simp; omega
  ·rw [upd1_ne _ _ h]; simp [h]
theorem zeroL_le {f : Nat→Nat} {b : Nat} (l : List Nat) (hf : ∀ i,f i ≤ b) (i : Nat) : zeroL l f i ≤ b:=Nat.le_trans ((zeroL_iff _ i l f).1 (Nat.le_refl _)).1 (hf i)
def dnN (c : Ci) (n : Nat) : Nat:=((c.nd n).i.getD 0 0).toNat
def outsN (c : Ci) : List Nat:=c.o.map Int.toNat
def ob0 (c : Ci) : Nat→Nat:=zeroL (outsN c) fun _=>nev
def ob1 (c : Ci) : Nat→Nat:=zeroL ((ids 14 c.n 0).map (dnN c)) (ob0 c)
theorem nd_wid {c : Ci} (h : shE c = 0) {n : Nat} (hn : n < c.n.length) : (c.nd n).k ≤ 15∧widB (c.nd n).k (c.nd n).i.length = true:=by
 have h1:=(sh_zero h).2.2.1 (c.nd n) (by rw [c.nd_get hn]; exact List.getElem_mem hn)
 exact ⟨(nd_zero h1).1,(nd_zero h1).2.1⟩
theorem wid_src {k : Int} {n : Nat} (h0 : 0 ≤ k) (h9 : k ≤ 15) (hk : combB k = false) (h : widB k n = true) : (k = 14∧n = 1)∨(n = 0∧k ≠ 14):=by
 have hc : k = 0∨k = 14∨k = 15:=by
  simp [combB] at hk; omega
 have e1 : kLo 0 = 0∧kHi 0 = 0∧kLo 14 = 1∧kHi 14 = 1∧kLo 15 = 0∧kHi 15 = 0:=by decide
 obtain ⟨a1,a2,a3,a4,a5,a6⟩:=e1
 unfold widB at h
 rcases hc with rfl | rfl | rfl
 ·rw [a1,a2] at h; simp at h; exact .inr ⟨by omega,by decide⟩
 ·rw [a3,a4] at h; simp at h; exact .inl ⟨rfl,by omega⟩
 ·rw [a5,a6] at h; simp at h; exact .inr ⟨by omega,by decide⟩
theorem nd_src {c : Ci} (hwf : c.wf) (h : shE c = 0) {n : Nat} (hn : n < c.n.length) (hk : combB (c.nd n).k = false) : ((c.nd n).k = 14∧(c.nd n).i.length = 1)∨((c.nd n).i.length = 0∧(c.nd n).k ≠ 14):=
 wid_src (hwf.k _ (by rw [c.nd_get hn]; exact List.getElem_mem hn)).1 (nd_wid h hn).1 hk (nd_wid h hn).2
def pnC (c : Ci) (f : Nat→Nat × Nat) (m i : Nat) : Nat:=pnP (c.nd m).k.toNat i (insC f (c.nd m))
theorem pnP_dff (i : Int) (ts : List (Nat × Nat)) : pnP 14 i ts = nev:=by unfold pnP; rw [if_pos (.inr (.inl rfl))]
theorem pnC_dff {c : Ci} {f : Nat→Nat × Nat} {m i : Nat} (h : (c.nd m).k = 14) : pnC c f m i = nev:=by unfold pnC; rw [h]; exact pnP_dff _ _
theorem g_mem {c : Ci} {m i k : Nat} (hc : combB (c.nd m).k = true) (hi : i < (c.nd m).i.length) (e : ((c.nd m).i.getD i 0).toNat = k) : k ∈ c.g m:=by
 unfold Ci.g
 rw [if_pos hc,← e,List.getD_eq_getElem?_getD,List.getElem?_eq_getElem hi]
 exact List.mem_map.2 ⟨_,List.getElem_mem hi,rfl⟩
theorem lv_read {c : Ci} (hac : acyc c) {m k : Nat} (hm : m < c.n.length) (h : k ∈ c.g m) : lvOf c k < lvOf c m:=by
 have:=hac.lv m hm
 rw [this]; exact le_mx h
theorem keeps_lv {c : Ci} (hwf : c.wf) (hsh : shE c = 0) (hac : acyc c) (f : Nat→Nat × Nat) {m k : Nat} (hm : m < c.n.length) (h : ¬ lvOf c k < lvOf c m) : keeps c (pnC c f) m k:=by
 intro i hi e
 by_cases hc : combB (c.nd m).k = true
 ·exact absurd (lv_read hac hm (g_mem hc hi e)) h
 ·rcases nd_src hwf hsh hm (by simpa using hc) with ⟨q,-⟩ | ⟨q,-⟩
  ·rw [pnC_dff q]; exact Nat.le_refl _
  ·omega
def obsN (c : Ci) (f : Nat→Nat × Nat) (L : List Nat) : Nat→Nat:=obL c (pnC c f) L.reverse (ob1 c)
theorem ob1_le (c : Ci) (i : Nat) : ob1 c i ≤ nev:=zeroL_le _ (fun i=>zeroL_le _ (fun _=>Nat.le_refl _) i) i
theorem obsN_le (c : Ci) (f : Nat→Nat × Nat) (L : List Nat) (i : Nat) : obsN c f L i ≤ nev:=obL_le _ _ _ _ (ob1_le c) i
theorem Ord.mem {c : Ci} {L : List Nat} (h : Ord c L) {x : Nat} : x ∈ L↔x < c.n.length:=
 ⟨h.r.lt x,nodup_full (lex_nodup h.p) h.r.lt (by have:=h.r.len; omega) x⟩
theorem obsN_iff {c : Ci} (hwf : c.wf) (hsh : shE c = 0) (hac : acyc c) {L : List Nat} (ho : Ord c L) (f : Nat→Nat × Nat) (t k : Nat) :
  t ≤ obsN c f L k↔t ≤ ob1 c k∧∀ m,m < c.n.length→∀ i,i < (c.nd m).i.length→((c.nd m).i.getD i 0).toNat = k→t ≤ pls (obsN c f L m) (pnC c f m i):=by
 have h1:=obL_iff (c:=c) (P:=pnC c f) t k L.reverse (ob1 c) (fun m hm=>keeps_lv hwf hsh hac f (ho.r.lt m (List.mem_reverse.1 hm)) (by omega)) (List.pairwise_reverse.2 ?_) (ob1_le c)
 ·unfold obsN
  rw [h1]
  constructor
  ·rintro ⟨a,b⟩; exact ⟨a,fun m hm=>b m (List.mem_reverse.2 (ho.mem.2 hm))⟩
  ·rintro ⟨a,b⟩; exact ⟨a,fun m hm=>b m (ho.r.lt m (List.mem_reverse.1 hm))⟩
 ·refine List.Pairwise.imp_of_mem ?_ ho.p
  intro a b ha hb hab
  refine keeps_lv hwf hsh hac f (ho.r.lt a ha) ?_
  rcases hab with q | ⟨q,-⟩ <;> omega
theorem insC_len (f : Nat→Nat × Nat) (y : Nd) : (insC f y).length = y.i.length:=by simp [insC]
theorem pnC_D {c : Ci} (hwf : c.wf) (hsh : shE c = 0) (f : Nat→Nat × Nat) {n i : Nat} (hn : n < c.n.length) (hi : i < (c.nd n).i.length) (h14 : (c.nd n).k ≠ 14) : pnC c f n i = pinD (c.nd n).k.toNat i (insC f (c.nd n)):=by
 have hk:=hwf.k (c.nd n) (by rw [c.nd_get hn]; exact List.getElem_mem hn)
 have hw:=nd_wid hsh hn
 obtain ⟨k,hkk⟩ : ∃ k : Nat,(c.nd n).k = k:=⟨(c.nd n).k.toNat,by omega⟩
 unfold pnC
 rw [hkk] at hw h14 ⊢
 exact pin_eq k i _ (by omega) (by rw [insC_len]; exact hw.2) (by omega) (by rw [insC_len]; exact hi)
end Go.Proofs.YtcmblmkbdenakaaGreatDoor
namespace Go.Proofs.YtcmblmkbdenakaaGreatDoor
open Go
noncomputable def ctl (c : Ci) : Nat→Nat × Nat:=ctL c (fun _=>none) (ordL c)
def CtlK (c : Ci) (v : V) (h : Hp) : Prop:=(chkE c ≠ 0∧v = .tup [.nil,.int .i64 (chkE c)]∧h = [])∨
 (chkE c = 0∧∃ g f,v = .tup [.ref 0 g 0 c.n.length (some c.n.length),.int .i64 0]∧h = [(0,.row g 2 (netsC c.n.length f))]∧(∀ i,(f i).1 ≤ nev∧(f i).2 ≤ nev)∧(c.n.length ≤ 20→f = ctl c))
theorem chk_sh {c : Ci} (h : chkE c = 0) : shE c = 0∧acyc c:=by
 unfold chkE at h
 split at h
 ·rename_i q; exact absurd h q
 ·rename_i q
  split at h
  ·rename_i q2; exact ⟨Classical.not_not.1 q,q2⟩
  ·cases h
theorem val_mem {c : Ci} (hv : c.val) {y : Nd} (hy : y ∈ c.n) : y.i.length ≤ 16∧∀ j ∈ y.i,0 ≤ j∧j < c.n.length:=by
 obtain ⟨i,hi,rfl⟩:=List.getElem_of_mem hy
 have h1:=hv.l i hi
 have h2:=hv.i i hi
 rw [c.nd_get hi] at h1 h2
 exact ⟨h1,h2⟩
theorem Control_c (c : Ci) (hwf : c.wf) : OwnC Tryz.prog gl0 13 [c.v] (CtlK c):=by
 refine OwnC.of_W ok13 rfl ?_
 simp [i13,x13]
 intro ga
 refine CallO.own 1000 (order_c c hwf) (by simp) (by simp) ?_
 rintro v h (⟨h1,rfl,rfl⟩ | ⟨h0,g,L,rfl,rfl,hR,hpw⟩) gf4
 ·simp [h1]
  exact .done ⟨[],by simp,.inl ⟨h1,rfl,rfl⟩⟩
 ·obtain ⟨hsh,hac⟩:=chk_sh h0
  have hval:=sh_val hwf hsh
  have hlen:=(sh_len hsh).1
  have hct:=control_c c hval hwf (by omega) L (some c.n.length) hR.lt (by rw [hR.len]; omega) (fun y hy=>by have:=(val_mem hval hy).1; omega) (fun y hy=>(val_mem hval hy).2) hwf.k
  have hle:=ctL_le c (fun _=>none) (fun _ _ h=>by cases h) L
  have hfL : c.n.length ≤ 20→ctL c (fun _=>none) L = ctl c:=fun h20=>by
   have ho : Ord c L:=⟨hR,hpw h20⟩
   unfold ctl; rw [ho.eq]
  generalize ctL c (fun _=>none) L = f at hct hle hfL
  simp [upH,upS,Blk.rn,map_rn_pure (natsV_pure L)]
  generalize gf4 1000 + g = g9
  have hfr : ∀ h,lk h 1000 = some (.row g9 1 (natsV L))→frz h 1 (.ref 1000 g9 0 c.n.length (some c.n.length)) = .sl (natsV L) (some c.n.length):=fun h hh=>frz_rowP (sz:=1) 0 hh (natsV_pure _) (by rw [natsV_length,hR.len])
  refine CallO.ownBorrow 1 2000 hct (by
   rw [List.map_cons,List.map_cons,List.map_cons,List.map_nil,hfr _ (by simp)]; simp) (by simp) ?_
  rintro v h' ⟨g2,rfl,rfl⟩
  refine ⟨rfl,fun b k hb=>?_,fun gf=>?_⟩
  ·simp only [lk] at hb
   split at hb
   ·cases hb; exact netsC_noG _ _
   ·cases hb
  ·have hp:=netsC_pure c.n.length f
   have hl2:=netsC_len c.n.length f
   simp [upH,upS,Blk.rn,map_rn_pure hp,hl2]
   generalize gf 2000 + g2 = g3
   refine .move 2000 0 _ (by simp) (by simp; rfl) fun g=>.done ?_
   simp
   exact ⟨[(0,.row g 2 (netsC c.n.length f))],by simp [Blk.rn,map_rn_pure hp],.inr ⟨h0,g,f,rfl,rfl,hle,hfL⟩⟩
end Go.Proofs.YtcmblmkbdenakaaGreatDoor
