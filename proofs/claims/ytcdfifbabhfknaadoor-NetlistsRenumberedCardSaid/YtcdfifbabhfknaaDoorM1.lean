/- Renumbered: a circuit with other numbers and names: valid, with the same levels. No program stands in it. Conditions: none. -/
import Derived.Test.YtcdfifbabhfknaaDoorNet16
import Derived.Test.YtcdfifbabhfknaaDoorNet7
import Derived.Test.YtcdfifbabhfknaaDoorXG
set_option linter.unusedSimpArgs false
set_option linter.unusedVariables false
namespace Go.Proofs.YtcdfifbabhfknaaDoor
open Go
structure Pm (n : Nat) (P Q : Nat→Nat) : Prop where
 p : ∀ i,i < n→P i < n
 q : ∀ j,j < n→Q j < n
 pq : ∀ j,j < n→P (Q j) = j
 qp : ∀ i,i < n→Q (P i) = i
def rP (P : Nat→Nat) (x : Int) : Int:=((P x.toNat : Nat) : Int)
def rNd (P : Nat→Nat) (y : Nd) : Nd:=⟨y.k,y.i.map (rP P),y.a,y.b⟩
def rMd (P : Nat→Nat) (m : Md) : Md:=⟨m.a.map (rP P),m.d.map (rP P),rP P m.w⟩
def rCi (c : Ci) (P Q : Nat→Nat) : Ci:=⟨tab c.n.length fun j=>rNd P (c.nd (Q j)),tab c.n.length fun j=>120 :: c.s.getD (Q j) [],c.m.map (rMd P),c.o.map (rP P)⟩
theorem nm_ok : ∀ (l seen : List (List UInt8)),(∀ x ∈ l,nameOk x = true)→l.Nodup→(∀ x ∈ l,x ∉ seen)→nmBad seen l = false
 | [],_,_,_,_=>rfl
 | x :: r,seen,h1,h2,h3=>by
  obtain ⟨h4,h5⟩:=List.nodup_cons.1 h2
  have hs : seen.contains x = false:=by simpa using h3 x List.mem_cons_self
  rw [nmBad,h1 x List.mem_cons_self,hs,nm_ok r (seen ++ [x]) (fun y hy=>h1 y (List.mem_cons_of_mem _ hy)) h5]
  ·rfl
  ·intro y hy hm
   rcases List.mem_append.1 hm with hm | hm
   ·exact h3 y (List.mem_cons_of_mem _ hy) hm
   ·have : y = x:=by simpa using hm
    subst this; exact h4 hy
theorem nameX_ok : ∀ i : Fin 16,nameOk (120 :: nameB i.val) = true:=by decide +kernel
theorem nameX_inj : ∀ i j : Fin 16,nameB i.val = nameB j.val→i = j:=by decide +kernel
variable {c : Ci} {P Q : Nat→Nat}
theorem rCi_len : (rCi c P Q).n.length = c.n.length:=by simp [rCi]
theorem rCi_nd (h : Pm c.n.length P Q) {i : Nat} (hi : i < c.n.length) : (rCi c P Q).nd (P i) = rNd P (c.nd i):=by
 have hp:=h.p i hi
 rw [(rCi c P Q).nd_get (by rw [rCi_len]; exact hp)]
 simp only [rCi,tab_get,h.qp i hi]
theorem rP_out (h : Pm c.n.length P Q) {x : Int} (hx : outB c.n.length x = false) : outB c.n.length (rP P x) = false:=by
 simp [outB] at hx ⊢
 have:=h.p x.toNat (by omega)
 unfold rP
 omega
theorem rP_any (h : Pm c.n.length P Q) {l : List Int} (hl : l.any (outB c.n.length) = false) : (l.map (rP P)).any (outB c.n.length) = false:=by
 rw [List.any_eq_false] at hl ⊢
 intro x hx
 obtain ⟨y,hy,rfl⟩:=List.mem_map.1 hx
 have:=rP_out h (by simpa using hl y hy)
 simp [this]
theorem ren_nd (h : Pm c.n.length P Q) {y : Nd} (hy : ndE c y = 0) : ndE (rCi c P Q) (rNd P y) = 0:=by
 obtain ⟨h1,h2,h3,h4,h5⟩:=nd_zero hy
 have hk : (rNd P y).k = y.k:=rfl
 unfold ndE
 rw [hk,rCi_len,if_neg (by omega),if_neg (by simp [rNd,h2]),if_neg (by rw [show (rNd P y).i = y.i.map (rP P) from rfl,rP_any h h3]; simp),if_neg,if_neg]
 ·have e : bitB (rCi c P Q) (rNd P y) = bitB c y:=by
   unfold bitB
   rw [hk]
   by_cases h15 : y.k = 15
   ·rw [if_pos h15,if_pos h15]
    have hm : (rCi c P Q).m.length = c.m.length:=by simp [rCi]
    have hd : ((rCi c P Q).m.getD (rNd P y).a.toNat default).d.length = (c.m.getD y.a.toNat default).d.length:=by
     show ((c.m.map (rMd P)).getD y.a.toNat default).d.length = _
     rw [List.getD_eq_getElem?_getD,List.getD_eq_getElem?_getD,List.getElem?_map]
     cases c.m[y.a.toNat]? with
     | none=>rfl
     | some m=>simp [rMd]
    rw [hm,hd]; rfl
   ·rw [if_neg h15,if_neg h15]; rfl
  rw [e,h5]; simp
 ·rintro ⟨h13,hq⟩
  have h6:=h4 h13
  rw [List.any_eq_false] at h6
  obtain ⟨v,hv,hv2⟩:=List.any_eq_true.1 hq
  obtain ⟨x,hx,rfl⟩:=List.mem_map.1 (show v ∈ y.i.map (rP P) from hv)
  have h7:=h6 x hx
  have h8 : outB c.n.length x = false:=by rw [List.any_eq_false] at h3; simpa using h3 x hx
  simp [outB] at h8
  have hx2 : (rP P x).toNat = P x.toNat:=by simp [rP]
  rw [hx2,rCi_nd h (by omega)] at hv2
  exact h7 hv2
theorem ren_md (h : Pm c.n.length P Q) {m : Md} (hm : mdE c m = 0) : mdE (rCi c P Q) (rMd P m) = 0:=by
 unfold mdE at hm ⊢
 rw [rCi_len]
 split at hm
 ·cases hm
 ·rename_i h1
  split at hm
  ·cases hm
  ·rename_i h2
   simp only [Bool.not_eq_true,Bool.or_eq_false_iff] at h1 h2
   have e1 : wrB (rMd P m).a 8 = wrB m.a 8:=by simp [wrB,rMd]
   have e2 : wrB (rMd P m).d 32 = wrB m.d 32:=by simp [wrB,rMd]
   rw [e1,e2,h1.1,h1.2,show (rMd P m).a = m.a.map (rP P) from rfl,show (rMd P m).d = m.d.map (rP P) from rfl,show (rMd P m).w = rP P m.w from rfl,rP_any h h2.1.1,rP_any h h2.1.2,rP_out h h2.2]
   simp
theorem ren_sh (h : Pm c.n.length P Q) (hn : c.n.length ≤ 16) (hs : c.s = (List.range c.n.length).map nameB) (hc : shE c = 0) : shE (rCi c P Q) = 0:=by
 obtain ⟨h1,h2,h3,h4,h5,h6⟩:=sh_zero hc
 have hb : shBig (rCi c P Q) = false:=by
  have : shBig (rCi c P Q) = shBig c:=by unfold shBig; rw [rCi_len]; simp [rCi]
  rw [this]; exact h1
 have hl : (rCi c P Q).s.length = (rCi c P Q).n.length:=by simp [rCi]
 unfold shE
 rw [hb,if_neg (by simp),if_neg (by rw [hl]; simp),shN,errs_all,shS]
 ·have hnm : nmBad [] (rCi c P Q).s = false:=by
   have hsg : ∀ i,i < c.n.length→c.s.getD i [] = nameB i:=fun i hi=>by
    rw [hs,List.getD_eq_getElem?_getD,List.getElem?_eq_getElem (by simpa using hi)]; simp
   refine nm_ok _ [] (fun x hx=>?_) ?_ (fun x _=>by simp)
   ·simp only [rCi,tab,List.mem_map,List.mem_range] at hx
    obtain ⟨j,hj,rfl⟩:=hx
    have hq:=h.q j hj
    rw [hsg _ hq]
    exact nameX_ok ⟨Q j,by omega⟩
   ·simp only [rCi,tab]
    rw [List.Nodup,List.pairwise_map]
    refine List.Pairwise.imp_of_mem (fun {a b} ha hb hab e=>?_) List.nodup_range
    have ha':=List.mem_range.1 ha
    have hb':=List.mem_range.1 hb
    have qa:=h.q a ha'
    have qb:=h.q b hb'
    rw [hsg _ qa,hsg _ qb] at e
    have e2 : Q a = Q b:=congrArg Fin.val (nameX_inj ⟨Q a,by omega⟩ ⟨Q b,by omega⟩ (List.cons.inj e).2)
    refine hab ?_
    rw [← h.pq a ha',← h.pq b hb',e2]
  rw [hnm,if_neg (by simp),shM,errs_all,shO]
  ·rw [show (rCi c P Q).o = c.o.map (rP P) from rfl,rCi_len,rP_any h h6]; simp
  ·intro e he
   obtain ⟨m,hm,rfl⟩:=List.mem_map.1 he
   obtain ⟨m',hm',rfl⟩:=List.mem_map.1 (show m ∈ c.m.map (rMd P) from hm)
   exact ren_md h (h5 m' hm')
 ·intro e he
  obtain ⟨y,hy,rfl⟩:=List.mem_map.1 he
  simp only [rCi,tab,List.mem_map,List.mem_range] at hy
  obtain ⟨j,hj,rfl⟩:=hy
  have hq:=h.q j hj
  exact ren_nd h (h3 _ (by rw [c.nd_get hq]; exact List.getElem_mem hq))
theorem ren_g (h : Pm c.n.length P Q) {i : Nat} (hi : i < c.n.length) : (rCi c P Q).g (P i) = (c.g i).map P:=by
 unfold Ci.g
 rw [rCi_nd h hi]
 show (if combB (c.nd i).k = true then ((c.nd i).i.map (rP P)).map Int.toNat else []) = _
 split
 ·rw [List.map_map,List.map_map]
  exact List.map_congr_left fun x _=>by simp [rP]
 ·rfl
theorem mx_map (f : Nat→Nat) (P : Nat→Nat) : ∀ l : List Nat,mx f (l.map P) = mx (fun x=>f (P x)) l
 | []=>rfl
 | x :: l=>by rw [List.map_cons,mx_cons,mx_cons,mx_map f P l]
theorem ren_lv (h : Pm c.n.length P Q) (hv : c.val) (ha : acyc c) : acyc (rCi c P Q)∧∀ i,i < c.n.length→lvOf (rCi c P Q) (P i) = lvOf c i:=by
 have hl:=ha.lv
 have hlv : IsLv (rCi c P Q).n.length (rCi c P Q).g (fun j=>lvOf c (Q j)):=by
  intro j hj
  rw [rCi_len] at hj
  have hq:=h.q j hj
  have hg:=ren_g h hq
  rw [h.pq j hj] at hg
  rw [hg,mx_map]
  show lvOf c (Q j) = _
  rw [hl (Q j) hq]
  exact mx_congr fun x hx=>by rw [h.qp x (hv.g (Q j) hq x hx)]
 have hac : acyc (rCi c P Q):=⟨_,hlv⟩
 refine ⟨hac,fun i hi=>?_⟩
 have hgl : ∀ j,j < (rCi c P Q).n.length→∀ x ∈ (rCi c P Q).g j,x < (rCi c P Q).n.length:=fun j hj x hx=>by
  rw [rCi_len] at hj ⊢
  have hg:=ren_g h (h.q j hj)
  rw [h.pq j hj] at hg
  rw [hg] at hx
  obtain ⟨z,hz,rfl⟩:=List.mem_map.1 hx
  exact h.p z (hv.g (Q j) (h.q j hj) z hz)
 have:=IsLv.unique hgl hac.lv hlv (P i) (by rw [rCi_len]; exact h.p i hi)
 rw [this,h.qp i hi]
theorem sumR_lt {f g : Nat→Nat} : ∀ {n k : Nat},(∀ j,j < n→f j ≤ g j)→k < n→f k < g k→sumR f n < sumR g n
 | 0,k,_,hk,_=>by omega
 | n + 1,k,h,hk,hlt=>by
  simp only [sumR]
  have h1:=h n (Nat.lt_succ_self n)
  by_cases e : k = n
  ·subst e
   have : sumR f k ≤ sumR g k:=sumR_mono fun j hj=>h j (by omega)
   omega
  ·have:=sumR_lt (f:=f) (g:=g) (n:=n) (fun j hj=>h j (by omega)) (show k < n by omega) hlt
   omega
def lo (l : List Nat) (k i : Nat) : Bool:=decide (l.getD (k % 16) 0 < l.getD (i % 16) 0) || (decide (l.getD (k % 16) 0 = l.getD (i % 16) 0) && decide (k < i))
def rk (l : List Nat) (n i : Nat) : Nat:=sumR (fun k=>if lo l k i = true then 1 else 0) n
theorem lo_irr (l : List Nat) (i : Nat) : lo l i i = false:=by simp [lo]
theorem lo_tot (l : List Nat) {i j : Nat} (h : i ≠ j) : lo l i j = true∨lo l j i = true:=by
 simp [lo]; omega
theorem lo_trans (l : List Nat) {i j k : Nat} (h1 : lo l i j = true) (h2 : lo l j k = true) : lo l i k = true:=by
 simp [lo] at h1 h2 ⊢; omega
theorem rk_lt (l : List Nat) {n i : Nat} (hi : i < n) : rk l n i < n:=by
 have:=sumR_lt (f:=fun k=>if lo l k i = true then 1 else 0) (g:=fun _=>1) (n:=n) (k:=i) (fun j _=>by split <;> omega) hi (by simp [lo_irr])
 rw [sumR_const] at this
 unfold rk; omega
theorem rk_mono (l : List Nat) {n i j : Nat} (hi : i < n) (h : lo l i j = true) : rk l n i < rk l n j:=by
 refine sumR_lt (k:=i) (fun k _=>?_) hi ?_
 ·by_cases hk : lo l k i = true
  ·rw [if_pos hk,if_pos (lo_trans l hk h)]; exact Nat.le_refl _
  ·rw [if_neg hk]; omega
 ·rw [lo_irr,if_pos h]; simp
theorem rk_inj (l : List Nat) {n i j : Nat} (hi : i < n) (hj : j < n) (h : rk l n i = rk l n j) : i = j:=by
 by_cases e : i = j
 ·exact e
 ·rcases lo_tot l e with q | q
  ·have:=rk_mono l hi q; omega
  ·have:=rk_mono l hj q; omega
theorem rk_sur (l : List Nat) {n j : Nat} (hj : j < n) : ∃ i,i < n∧rk l n i = j:=by
 have hnd : ((List.range n).map (rk l n)).Nodup:=by
  rw [List.Nodup,List.pairwise_map]
  exact List.Pairwise.imp_of_mem (fun {a b} ha hb hab e=>hab (rk_inj l (List.mem_range.1 ha) (List.mem_range.1 hb) e)) List.nodup_range
 have:=nodup_full hnd (n:=n) (fun i hi=>by
  obtain ⟨k,hk,rfl⟩:=List.mem_map.1 hi
  exact rk_lt l (List.mem_range.1 hk)) (by simp) j hj
 obtain ⟨k,hk,e⟩:=List.mem_map.1 this
 exact ⟨k,List.mem_range.1 hk,e⟩
open Classical in
noncomputable def rkQ (l : List Nat) (n j : Nat) : Nat:=if h : ∃ i,i < n∧rk l n i = j then h.choose else 0
theorem rk_pm (l : List Nat) (n : Nat) : Pm n (rk l n) (rkQ l n):=by
 have hq : ∀ j,j < n→rkQ l n j < n∧rk l n (rkQ l n j) = j:=fun j hj=>by
  have h:=rk_sur l hj
  unfold rkQ
  rw [dif_pos h]
  exact h.choose_spec
 exact ⟨fun i hi=>rk_lt l hi,fun j hj=>(hq j hj).1,fun j hj=>(hq j hj).2,fun i hi=>rk_inj l (hq _ (rk_lt l hi)).1 hi (hq _ (rk_lt l hi)).2⟩
end Go.Proofs.YtcdfifbabhfknaaDoor
namespace Go.Proofs.YtcdfifbabhfknaaDoor
open Go
def natsT (N : Nat) (o : Nat→Nat) : List V:=tab N fun i=>natV (o i)
theorem natsT_len (N : Nat) (o : Nat→Nat) : (natsT N o).length = N:=by simp [natsT]
theorem natsT_pure (N : Nat) (o : Nat→Nat) : V.pureL (natsT N o) = true:=tab_pure fun _=>rfl
theorem natsT_at (N : Nat) (o : Nat→Nat) (i : Nat) (h : i < (natsT N o).length) : (natsT N o)[i] = .int .i64 (o i):=by simp only [natsT]; rw [tab_get]; rfl
theorem natsT_set (N : Nat) (o : Nat→Nat) (i x : Nat) : (natsT N o).set i (.int .i64 (x : Int)) = natsT N (upd1 o i x):=by
 unfold natsT
 rw [tab_set]
 congr 1
 funext j
 by_cases h : j = i
 ·subst h; rw [upd1_same,upd1_same]; rfl
 ·rw [upd1_ne _ _ h,upd1_ne _ _ h]
theorem natsT_rep (N : Nat) : List.replicate N (V.int .i64 0) = natsT N fun _=>0:=by
 refine List.ext_getElem (by simp [natsT]) fun j h1 h2=>?_
 simp only [natsT]
 rw [tab_get,List.getElem_replicate]
 rfl
theorem natsT_congr {N : Nat} {f g : Nat→Nat} (h : ∀ i,i < N→f i = g i) : natsT N f = natsT N g:=tab_congr fun i hi=>by rw [h i hi]
def rkS (l : List Nat) (n i k j : Nat) : Nat:=if j < i then rk l n j else if j = i then sumR (fun q=>if lo l q i = true then 1 else 0) k else 0
theorem rkS_at (l : List Nat) (n i k : Nat) : rkS l n i k i = sumR (fun q=>if lo l q i = true then 1 else 0) k:=by simp [rkS]
theorem rkS_up {l : List Nat} {n i k : Nat} (h : lo l k i = true) : upd1 (rkS l n i k) i (rkS l n i k i + 1) = rkS l n i (k + 1):=by
 funext j
 by_cases e : j = i
 ·subst e; rw [upd1_same,rkS_at,rkS_at]; simp [sumR,h]
 ·rw [upd1_ne _ _ e]; simp [rkS,e]
theorem rkS_same {l : List Nat} {n i k : Nat} (h : lo l k i = false) : rkS l n i (k + 1) = rkS l n i k:=by
 funext j
 by_cases e : j = i
 ·subst e; rw [rkS_at,rkS_at]; simp [sumR,h]
 ·simp [rkS,e]
theorem rkS_next (l : List Nat) (n i : Nat) : rkS l n i n = rkS l n (i + 1) 0:=by
 funext j
 unfold rkS
 by_cases h : j < i
 ·rw [if_pos h,if_pos (by omega)]
 ·by_cases e : j = i
  ·subst e; rw [if_neg h,if_pos rfl,if_pos (Nat.lt_succ_self _)]; rfl
  ·rw [if_neg h,if_neg e,if_neg (by omega)]; split <;> rfl
theorem rkS_start (l : List Nat) (n : Nat) : rkS l n 0 0 = fun _=>0:=by
 funext j; simp [rkS,sumR]
theorem rkS_end (l : List Nat) (n : Nat) : natsT n (rkS l n n 0) = natsT n (rk l n):=natsT_congr fun i hi=>by simp [rkS,hi]
theorem sumR01 (f : Nat→Bool) : ∀ n,sumR (fun q=>if f q = true then 1 else 0) n ≤ n
 | 0=>Nat.le_refl _
 | n + 1=>by
  have:=sumR01 f n
  simp only [sumR]
  split <;> omega
end Go.Proofs.YtcdfifbabhfknaaDoor
namespace Go.Proofs.YtcdfifbabhfknaaDoor
open Go
def MvK (l : List V) (v : V) (h : Hp) : Prop:=(l = []∧v = .nil∧h = [])∨(l ≠ []∧∃ g,v = .ref 0 g 0 l.length none∧h = [(0,.row g 1 l)])
structure MvS where
 i : Nat
 g : Nat
def mvV (z : MvS) : V:=if z.i = 0 then .nil else .ref 21 z.g 0 z.i none
def mvR (P : Nat→Nat) (l : List Int) (z : MvS) : Hp:=if z.i = 0 then [] else [(21,.row z.g 1 (ints ((l.take z.i).map (rP P))))]
theorem moved_c (n : Nat) (P : Nat→Nat) (l : List Int) (cap cp : Option Nat) (hl : ∀ x ∈ l,0 ≤ x∧x < n) (hll : l.length < 1000000) : OwnC Tryd.prog gl0 30 [.sl (ints l) cap,.iptr (.sl (natsT n P) cp) 0] (MvK (ints (l.map (rP P)))):=by
 refine OwnC.of_W ok30 rfl ?_
 simp [i30,x30]
 refine LoopP.of (X:=MvS) (fun z=>[(5,natV z.i),(4,mvV z),(1,.iptr (.sl (natsT n P) cp) 0),(0,.sl (ints l) cap)]) (mvR P l) (fun z=>z.i ≤ l.length) (fun z=>l.length - z.i) ⟨0,0⟩ (by simp) (by simp [natV,mvV]) (by simp [mvR]) ?_
 rintro ⟨i,g⟩ hi
 dsimp only at hi ⊢
 have hPa:=natsT_at n P
 have hPl:=natsT_len n P
 simp [natV]
 refine BrB.of (fun hb=>?_) (fun hb=>?_)
 ·have hi':=of_decide_eq_true hb
  have hw:=wrapN i (by omega)
  obtain ⟨q,hq⟩ : ∃ q : Nat,l[i] = q:=⟨l[i].toNat,by have:=(hl _ (List.getElem_mem hi')).1; omega⟩
  have hqn : q < n:=by have:=(hl _ (List.getElem_mem hi')).2; omega
  have h5 : (ints l)[i]'(by simpa using hi') = .int .i64 (q : Int):=by simp [ints,hq]
  have htk : (l.take (i + 1)).map (rP P) = (l.take i).map (rP P) ++ [((P q : Nat) : Int)]:=by
   rw [List.take_succ_eq_append_getElem hi',List.map_append,List.map_cons,List.map_nil,hq]
   simp [rP]
  have hin : ints ((l.take (i + 1)).map (rP P)) = ints ((l.take i).map (rP P)) ++ [.int .i64 ((P q : Nat) : Int)]:=by rw [htk]; simp [ints]
  by_cases h0 : i = 0
  ·subst h0
   have h1 : List.take 1 (l.map (rP P)) = [((P q : Nat) : Int)]:=by rw [← List.map_take]; simpa using htk
   simp [mvV,mvR,hi',h5,hPl,hPa,hqn,hw]
   intro gm
   exact ⟨⟨1,gm 21⟩,by dsimp only; omega,⟨by simp,by simp⟩,by simp [h1,ints],by dsimp only; omega⟩
  ·have hlen : (ints ((l.take i).map (rP P))).length = i:=by simp [ints]; omega
   have htt : List.take i (ints ((l.take i).map (rP P))) = ints ((l.take i).map (rP P)):=List.take_of_length_le (by omega)
   rw [List.map_take,List.map_take] at hin
   rw [List.map_take] at htt
   simp [mvV,mvR,h0,hi',h5,hPl,hPa,hqn,hw]
   intro gm
   refine ⟨⟨by omega,by omega⟩,⟨i + 1,g + 1⟩,?_,⟨by simp,by simp⟩,?_,?_⟩
   ·exact hi'
   ·simp [hin,htt]
   ·dsimp only; omega
 ·have hi' : i = l.length:=by have:=of_decide_eq_false hb; omega
  subst hi'
  simp
  by_cases h0 : l = []
  ·subst h0
   refine .done ?_
   simp [mvV,mvR]
   exact ⟨[],trivial,.inl ⟨rfl,rfl,rfl⟩⟩
  ·have h1 : ¬ l.length = 0:=fun e=>h0 (List.length_eq_zero_iff.1 e)
   have h2 : List.take l.length (l.map (rP P)) = l.map (rP P):=List.take_of_length_le (by simp)
   simp [mvV,mvR,h1,h2]
   refine .move 21 0 _ (by simp) (by simp; rfl) fun g'=>.done ?_
   simp
   exact ⟨[(0,.row g' 1 (ints (l.map (rP P))))],by simp [Blk.rn,map_rn_pure (ints_pure _)],.inr ⟨by simpa [ints] using h0,g',by simp,rfl⟩⟩
theorem moved1_c (n : Nat) (P : Nat→Nat) (l : List Int) (cap cp : Option Nat) (hl : ∀ x ∈ l,0 ≤ x∧x < n) (hll : l.length < 1000000) (h0 : l ≠ []) : OwnC Tryd.prog gl0 30 [.sl (ints l) cap,.iptr (.sl (natsT n P) cp) 0] (OneB 1 (ints (l.map (rP P))) none):=
 OwnC.mono (moved_c n P l cap cp hl hll) fun v h=>by
  rintro (⟨h1,-⟩ | ⟨-,g,h1,h2⟩)
  ·exact absurd (by simpa [ints] using h1) h0
  ·exact ⟨g,h1,h2⟩
end Go.Proofs.YtcdfifbabhfknaaDoor
