/- Circuits whose values are replaced at nets and pins: their values solve equations, and alone do. No program stands in it. Conditions: none. -/
import Derived.Test.YtlmniacemoohpaaGreatDoorS1
import Derived.Test.YtlmniacemoohpaaGreatDoorT7
set_option linter.unusedSimpArgs false
set_option linter.unusedVariables false
namespace Go.Proofs.YtlmniacemoohpaaGreatDoor
open Go
variable {α : Type}
theorem evl_keep {ev : Nat→(Nat→α)→α} {cb : Nat→Bool} {n : Nat} : ∀ (L : List Nat) (f : Nat→α),n ∉ L→evl ev cb L f n = f n
 | [],_,_=>rfl
 | m :: L,f,h=>by
  simp only [List.mem_cons,not_or] at h
  rw [evl,evl_keep L _ h.2]
  split
  ·exact upd1_ne _ _ h.1
  ·rfl
def EvC (g : Nat→List Nat) (ev : Nat→(Nat→α)→α) : Prop:=∀ n f f',(∀ x ∈ g n,f x = f' x)→f n = f' n→ev n f = ev n f'
theorem evl_eq {g : Nat→List Nat} {ev : Nat→(Nat→α)→α} (hc : EvC g ev) : ∀ (L A : List Nat) (f : Nat→α),Topo g A L→L.Nodup→(∀ x ∈ A,x ∉ L)→
  ∀ n,n ∈ L→evl ev (fun _=>true) L f n = ev n (upd1 (evl ev (fun _=>true) L f) n (f n))
 | [],_,_,_,_,_,n,hn=>by simp at hn
 | m :: L,A,f,ht,hd,ha,n,hn=>by
  obtain ⟨hmL,hd'⟩:=List.nodup_cons.1 hd
  simp only [evl,if_true]
  have hA : ∀ x ∈ m :: A,x ∉ L:=fun x hx=>by
   rcases List.mem_cons.1 hx with rfl | hx
   ·exact hmL
   ·exact fun h=>ha x hx (List.mem_cons_of_mem _ h)
  rcases List.mem_cons.1 hn with rfl | hnL
  ·rw [evl_keep L _ hmL,upd1_same]
   refine hc n _ _ (fun x hx=>?_) (by rw [upd1_same])
   have hxA:=ht.1 x hx
   have hxn : x ≠ n:=fun e=>ha x hxA (e ▸ List.mem_cons_self)
   rw [upd1_ne _ _ hxn,evl_keep L _ (hA x (List.mem_cons_of_mem _ hxA)),upd1_ne _ _ hxn]
  ·have hnm : n ≠ m:=fun e=>hmL (e ▸ hnL)
   have ih:=evl_eq hc L (m :: A) (upd1 f m (ev m f)) ht.2 hd' hA n hnL
   rw [upd1_ne _ _ hnm] at ih
   exact ih
theorem evl_all {ev : Nat→(Nat→α)→α} {cb : Nat→Bool} : ∀ (L : List Nat) (f : Nat→α),evl ev cb L f = evl (fun n f=>if cb n = true then ev n f else f n) (fun _=>true) L f
 | [],_=>rfl
 | m :: L,f=>by
  rw [evl,evl,evl_all L]
  congr 1
  simp only [if_true]
  split
  ·rfl
  ·funext j
   by_cases h : j = m
   ·subst h; rw [upd1_same]
   ·rw [upd1_ne _ _ h]
def rdsM (c : Ci) (Q : Nat→Nat→Nat→Nat) (n : Nat) (f : Nat→Nat) : List Nat:=(c.nd n).i.mapIdx fun p x=>Q n p (f x.toNat)
def evM (c : Ci) (W : Nat→Nat→Nat) (Q : Nat→Nat→Nat→Nat) (n : Nat) (f : Nat→Nat) : Nat:=W n (if combC c n = true then logE (c.nd n).k.toNat (rdsM c Q n f) else f n)
noncomputable def netM (c : Ci) (W : Nat→Nat→Nat) (Q : Nat→Nat→Nat→Nat) (p : Pt) : Nat→Nat:=evl (evM c W Q) (fun _=>true) (ordL c) (ini c p)
def idW : Nat→Nat→Nat:=fun _ v=>v
def idQ : Nat→Nat→Nat→Nat:=fun _ _ v=>v
theorem g_comb {c : Ci} {n : Nat} (h : combC c n = true) : c.g n = (c.nd n).i.map Int.toNat:=by
 unfold Ci.g
 have h' : combB (c.nd n).k = true:=h
 rw [if_pos h']
theorem rdsM_congr {c : Ci} {Q Q' : Nat→Nat→Nat→Nat} {n : Nat} {f f' : Nat→Nat} (h : ∀ p (hp : p < (c.nd n).i.length),Q n p (f ((c.nd n).i[p]).toNat) = Q' n p (f' ((c.nd n).i[p]).toNat)) : rdsM c Q n f = rdsM c Q' n f':=by
 refine List.ext_getElem (by simp [rdsM]) fun p h1 h2=>?_
 simp only [rdsM,List.getElem_mapIdx]
 exact h p (by simpa [rdsM] using h1)
theorem evM_c (c : Ci) (W : Nat→Nat→Nat) (Q : Nat→Nat→Nat→Nat) : EvC c.g (evM c W Q):=fun n f f' h h'=>by
 unfold evM
 by_cases hc : combC c n = true
 ·rw [if_pos hc,if_pos hc]
  congr 2
  refine rdsM_congr fun p hp=>?_
  rw [h]
  rw [g_comb hc]
  exact List.mem_map_of_mem (List.getElem_mem hp)
 ·rw [if_neg hc,if_neg hc,h']
theorem Ord.all {c : Ci} {L : List Nat} (h : Ord c L) {n : Nat} (hn : n < c.n.length) : n ∈ L:=nodup_full (lex_nodup h.p) h.r.lt (by have:=h.r.len; omega) n hn
theorem evM_upd {c : Ci} {W : Nat→Nat→Nat} {Q : Nat→Nat→Nat→Nat} (hb : acyc c) (_hv : c.val) {n : Nat} (hn : n < c.n.length) (G : Nat→Nat) (v : Nat) :
  evM c W Q n (upd1 G n v) = W n (if combC c n = true then logE (c.nd n).k.toNat (rdsM c Q n G) else v):=by
 unfold evM
 by_cases hc : combC c n = true
 ·rw [if_pos hc,if_pos hc]
  congr 2
  refine rdsM_congr fun p hp=>?_
  rw [upd1_ne]
  intro e
  have hx : ((c.nd n).i[p]).toNat ∈ c.g n:=by rw [g_comb hc]; exact List.mem_map_of_mem (List.getElem_mem hp)
  rw [e] at hx
  have hlv : IsLv c.n.length c.g (lvOf c):=hb.lv
  have:=hlv n hn
  have:=le_mx (f:=lvOf c) hx
  omega
 ·rw [if_neg hc,if_neg hc,upd1_same]
variable {c : Ci} {W : Nat→Nat→Nat} {Q : Nat→Nat→Nat→Nat} {p : Pt}
def Sol (c : Ci) (W : Nat→Nat→Nat) (Q : Nat→Nat→Nat→Nat) (p : Pt) (G : Nat→Nat) : Prop:=∀ n,n < c.n.length→G n = W n (if combC c n = true then logE (c.nd n).k.toNat (rdsM c Q n G) else ini c p n)
theorem netM_sol (hg : c.good) (ho : Ord c (ordL c)) : Sol c W Q p (netM c W Q p):=fun n hn=>by
 have h:=evl_eq (evM_c c W Q) (ordL c) [] (ini c p) (ho.topo hg) (lex_nodup ho.p) (by simp) n (ho.all hn)
 rw [evM_upd hg.ac hg.val hn] at h
 exact h
theorem rdsM_id {n : Nat} (h : combC c n = true) (f : Nat→Nat) : rdsM c idQ n f = (c.g n).map f:=by
 rw [g_comb h,List.map_map]
 refine List.ext_getElem (by simp [rdsM]) fun p h1 h2=>?_
 simp [rdsM,idQ]
theorem netN_M (c : Ci) (p : Pt) : netN c p = netM c idW idQ p:=by
 unfold netN netM
 rw [evl_all]
 congr 1
 funext n f
 unfold evM idW
 by_cases hc : combC c n = true
 ·rw [if_pos hc,if_pos hc,rdsM_id hc]; rfl
 ·rw [if_neg hc,if_neg hc]
theorem netN_sol (hg : c.good) (ho : Ord c (ordL c)) : Sol c idW idQ p (netN c p):=by rw [netN_M]; exact netM_sol hg ho
end Go.Proofs.YtlmniacemoohpaaGreatDoor
namespace Go.Proofs.YtlmniacemoohpaaGreatDoor
open Go
def cyV (c : Ci) (nets NF PF : V) : V:=.agg [.sl (c.n.map Nd.v) none,.sl (c.s.map .str) none,.sl (c.m.map Md.v) none,.sl (ints c.o) none,nets,NF,PF]
@[simp] theorem cy_cells (c : Ci) (a b d : V) : (cyV c a b d).cells = [.sl (c.n.map Nd.v) none,.sl (c.s.map .str) none,.sl (c.m.map Md.v) none,.sl (ints c.o) none,a,b,d]:=rfl
@[simp] theorem cy_okN (c : Ci) (f g : FuncId) (x y z w : List V) : (cyV c .nil (.fn f x y) (.fn g z w)).cellsOk = true:=rfl
@[simp] theorem cy_okS (c : Ci) (f g : FuncId) (xs x y z w : List V) (cap : Option Nat) : (cyV c (.sl xs cap) (.fn f x y) (.fn g z w)).cellsOk = true:=rfl
@[simp] theorem cy_okR (c : Ci) (f g : FuncId) (b gg o l : Nat) (x y z w : List V) (cap : Option Nat) : (cyV c (.ref b gg o l cap) (.fn f x y) (.fn g z w)).cellsOk = true:=rfl
def tU (N : Nat) (f : Nat→Nat) : List V:=tab N fun j=>u8V (f j)
@[simp] theorem tU_length (N : Nat) (f : Nat→Nat) : (tU N f).length = N:=by simp [tU]
@[simp] theorem tU_pure (N : Nat) (f : Nat→Nat) : V.pureL (tU N f) = true:=tabU_pure N f
end Go.Proofs.YtlmniacemoohpaaGreatDoor
namespace Go.Proofs.YtlmniacemoohpaaGreatDoor
open Go
theorem logE_le (k : Nat) (l : List Nat) : logE k l ≤ 3:=by
 unfold logE
 split
 ·omega
 unfold gateN
 have h0 : ∀ i,rdN (l.getD i 0) ≤ 3:=fun i=>by unfold rdN; omega
 have h1 : ∀ v,notN v ≤ 3:=fun v=>by unfold notN; split <;> omega
 have h2 : ∀ lo hi out,lo ≤ 2→out ≤ 2→dec lo hi out l ≤ 3:=fun lo hi out a b=>by have:=dec_le lo hi a l out b; omega
 have h3 : xorN 0 l ≤ 3:=by have:=xorN_le l 0 (by omega); omega
 have h4 : ∀ s a b,muxN s a b ≤ 3:=fun s a b=>by unfold muxN rdN; split <;> (try split) <;> (try split) <;> omega
 have h5 : ∀ e d,triN e d ≤ 3:=fun e d=>by unfold triN rdN; split <;> (try split) <;> omega
 have h6 : busN l ≤ 3:=by
  unfold busN
  split
  ·omega
  ·split
   ·omega
   ·rename_i v hv h
    simp only [not_or,not_exists,not_and] at h
    by_cases hc : v ≤ 3
    ·exact hc
    ·exfalso
     exact h.2 v (List.mem_of_find?_eq_some hv) (by unfold clean; rw [if_pos (by omega)])
 by_cases e1 : k = 1
 ·rw [if_pos e1]; omega
 rw [if_neg e1]
 by_cases e2 : k = 2
 ·rw [if_pos e2]; omega
 rw [if_neg e2]
 by_cases e3 : k = 3
 ·rw [if_pos e3]; exact h0 _
 rw [if_neg e3]
 by_cases e4 : k = 4
 ·rw [if_pos e4]; exact h1 _
 rw [if_neg e4]
 by_cases e5 : k = 5
 ·rw [if_pos e5]; exact h2 _ _ _ (by omega) (by omega)
 rw [if_neg e5]
 by_cases e6 : k = 6
 ·rw [if_pos e6]; exact h1 _
 rw [if_neg e6]
 by_cases e7 : k = 7
 ·rw [if_pos e7]; exact h2 _ _ _ (by omega) (by omega)
 rw [if_neg e7]
 by_cases e8 : k = 8
 ·rw [if_pos e8]; exact h1 _
 rw [if_neg e8]
 by_cases e9 : k = 9
 ·rw [if_pos e9]; exact h3
 rw [if_neg e9]
 by_cases e10 : k = 10
 ·rw [if_pos e10]; exact h1 _
 rw [if_neg e10]
 by_cases e11 : k = 11
 ·rw [if_pos e11]; exact h4 _ _ _
 rw [if_neg e11]
 by_cases e12 : k = 12
 ·rw [if_pos e12]; exact h5 _ _
 rw [if_neg e12]
 by_cases e13 : k = 13
 ·rw [if_pos e13]; exact h6
 rw [if_neg e13]
 omega
end Go.Proofs.YtlmniacemoohpaaGreatDoor
namespace Go.Proofs.YtlmniacemoohpaaGreatDoor
open Go
def Le3W (W : Nat→Nat→Nat) : Prop:=∀ n v,v ≤ 3→W n v ≤ 3
theorem put_le : ∀ (ns vs : List Nat) (f : Nat→Nat),(∀ v ∈ vs,v ≤ 3)→(∀ i,f i ≤ 3)→∀ i,put ns vs f i ≤ 3
 | [],_,f,_,hf,i=>by simpa [put] using hf i
 | _ :: _,[],f,_,hf,i=>by simpa [put] using hf i
 | n :: ns,v :: vs,f,hv,hf,i=>by
  rw [put]
  refine put_le ns vs _ (fun x hx=>hv x (List.mem_cons_of_mem _ hx)) (fun j=>?_) i
  by_cases h : j = n
  ·subst h; rw [upd1_same]; exact hv v List.mem_cons_self
  ·rw [upd1_ne _ _ h]; exact hf j
theorem ini_le {c : Ci} {p : Pt} (hp : p.fit c) (i : Nat) : ini c p i ≤ 3:=put_le _ _ _ hp.sv (put_le _ _ _ hp.iv fun _=>by omega) i
theorem evM_le {c : Ci} {W : Nat→Nat→Nat} {Q : Nat→Nat→Nat→Nat} (hW : Le3W W) {f : Nat→Nat} (hf : ∀ i,f i ≤ 3) (n : Nat) : evM c W Q n f ≤ 3:=by
 unfold evM
 refine hW _ _ ?_
 split
 ·exact logE_le _ _
 ·exact hf n
theorem evlM_le {c : Ci} {W : Nat→Nat→Nat} {Q : Nat→Nat→Nat→Nat} (hW : Le3W W) : ∀ (L : List Nat) (f : Nat→Nat),(∀ i,f i ≤ 3)→∀ i,evl (evM c W Q) (fun _=>true) L f i ≤ 3
 | [],f,hf,i=>hf i
 | n :: L,f,hf,i=>by
  rw [evl,if_pos rfl]
  refine evlM_le hW L _ (fun j=>?_) i
  by_cases h : j = n
  ·subst h; rw [upd1_same]; exact evM_le hW hf _
  ·rw [upd1_ne _ _ h]; exact hf j
end Go.Proofs.YtlmniacemoohpaaGreatDoor
