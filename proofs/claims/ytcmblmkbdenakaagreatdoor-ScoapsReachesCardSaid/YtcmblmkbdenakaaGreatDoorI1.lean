/- Circuits evaluated in an order; patterns as data. No program stands in it. Conditions: none. -/
import Derived.Test.YtcmblmkbdenakaaGreatDoorNet13
import Derived.Test.YtcmblmkbdenakaaGreatDoorBase15
import Derived.Test.YtcmblmkbdenakaaGreatDoorNet17
import Derived.Test.YtcmblmkbdenakaaGreatDoorLG
set_option linter.unusedSimpArgs false
set_option linter.unusedVariables false
namespace Go.Proofs.YtcmblmkbdenakaaGreatDoor
open Go
variable {α β : Type}
def evl (ev : Nat→(Nat→α)→α) (cb : Nat→Bool) : List Nat→(Nat→α)→(Nat→α)
 | [],f=>f
 | n :: L,f=>evl ev cb L (if cb n = true then upd1 f n (ev n f) else f)
theorem evl_snoc (ev : Nat→(Nat→α)→α) (cb : Nat→Bool) (n : Nat) : ∀ (L : List Nat) (f : Nat→α),evl ev cb (L ++ [n]) f = if cb n = true then upd1 (evl ev cb L f) n (ev n (evl ev cb L f)) else evl ev cb L f
 | [],_=>rfl
 | m :: L,f=>by simp only [List.cons_append,evl,evl_snoc ev cb n L]
def put : List Nat→List α→(Nat→α)→(Nat→α)
 | n :: ns,v :: vs,f=>put ns vs (upd1 f n v)
 | _,_,f=>f
theorem put_snoc (n : Nat) (v : α) : ∀ (ns : List Nat) (vs : List α) (f : Nat→α),ns.length = vs.length→put (ns ++ [n]) (vs ++ [v]) f = upd1 (put ns vs f) n v
 | [],[],_,_=>rfl
 | [],_ :: _,_,h=>by simp at h
 | _ :: _,[],_,h=>by simp at h
 | m :: ns,w :: vs,f,h=>by
  simp only [List.cons_append,put]
  exact put_snoc n v ns vs _ (by simpa using h)
theorem put_take {ns : List Nat} {vs : List α} {f : Nat→α} (i : Nat) (h : ns.length = vs.length) (hi : i < ns.length) : put (ns.take (i + 1)) (vs.take (i + 1)) f = upd1 (put (ns.take i) (vs.take i) f) ns[i] (vs[i]'(by omega)):=by
 rw [List.take_succ_eq_append_getElem hi,List.take_succ_eq_append_getElem (l:=vs) (by omega)]
 exact put_snoc _ _ _ _ _ (by simp; omega)
theorem put_ne {n : Nat} : ∀ (ns : List Nat) (vs : List α) (f : Nat→α),n ∉ ns→put ns vs f n = f n
 | [],_,_,_=>by simp [put]
 | _ :: _,[],_,_=>by simp [put]
 | m :: ns,w :: vs,f,h=>by
  simp only [List.mem_cons,not_or] at h
  rw [put,put_ne ns vs _ h.2,upd1_ne _ _ h.1]
def Topo (g : Nat→List Nat) : List Nat→List Nat→Prop
 | _,[]=>True
 | A,n :: L=>(∀ x ∈ g n,x ∈ A)∧Topo g (n :: A) L
def ids (k : Int) : List Nd→Nat→List Nat
 | [],_=>[]
 | n :: r,i=>if n.k = k then i :: ids k r (i + 1) else ids k r (i + 1)
theorem ofLs_ids (k : Int) : ∀ (l : List Nd) (i : Nat),ofLs [k] l i = natsV (ids k l i)
 | [],_=>rfl
 | n :: r,i=>by
  simp only [ofLs,ids,List.mem_singleton]
  split <;> simp [ofLs_ids k r (i + 1),natsV,natV]
theorem ids_mem (k : Int) : ∀ (l : List Nd) (i x : Nat),x ∈ ids k l i↔∃ j,∃ h : j < l.length,x = i + j∧l[j].k = k
 | [],i,x=>by simp [ids]
 | n :: r,i,x=>by
  have ih:=ids_mem k r (i + 1) x
  have hsh : (∃ j,∃ h : j < (n :: r).length,x = i + j∧(n :: r)[j].k = k)↔(x = i∧n.k = k)∨∃ j,∃ h : j < r.length,x = i + 1 + j∧r[j].k = k:=by
   constructor
   ·rintro ⟨j,hj,rfl,hk⟩
    cases j with
    | zero=>exact .inl ⟨rfl,hk⟩
    | succ j=>exact .inr ⟨j,by simpa using hj,by omega,hk⟩
   ·rintro (⟨rfl,hk⟩ | ⟨j,hj,rfl,hk⟩)
    ·exact ⟨0,by simp,rfl,hk⟩
    ·exact ⟨j + 1,by simpa using hj,by omega,hk⟩
  rw [hsh,← ih]
  simp only [ids]
  split
  ·rename_i hk; simp [hk]
  ·rename_i hk; simp [hk]
def cnt (k : Int) (l : List Nd) : Nat:=(ids k l 0).length
theorem ids_len (k : Int) : ∀ (l : List Nd) (i : Nat),(ids k l i).length = cnt k l
 | l,0=>rfl
 | [],i + 1=>rfl
 | n :: r,i + 1=>by
  unfold cnt
  simp only [ids]
  split
  ·simp [ids_len k r (i + 2),ids_len k r 1]
  ·simp [ids_len k r (i + 2),ids_len k r 1]
theorem cnt_cons (k : Int) (n : Nd) (r : List Nd) : cnt k (n :: r) = (if n.k = k then 1 else 0) + cnt k r:=by
 rw [cnt,ids]
 split
 ·simp [ids_len k r 1]; omega
 ·simp [ids_len k r 1]
theorem cnt_le (k : Int) : ∀ l : List Nd,cnt k l ≤ l.length
 | []=>by simp [cnt,ids]
 | n :: r=>by
  rw [cnt_cons]
  have:=cnt_le k r
  simp only [List.length_cons]
  split <;> omega
theorem ids_lt {k : Int} {l : List Nd} {x : Nat} (h : x ∈ ids k l 0) : ∃ hx : x < l.length,l[x].k = k:=by
 obtain ⟨j,hj,rfl,hk⟩:=(ids_mem k l 0 x).1 h
 simp only [Nat.zero_add]
 exact ⟨hj,hk⟩
structure Pt where
 i : List Nat
 s : List Nat
def Pt.v (p : Pt) : V:=.agg [.sl (p.i.map u8V) none,.sl (p.s.map u8V) none]
end Go.Proofs.YtcmblmkbdenakaaGreatDoor
namespace Go.Proofs.YtcmblmkbdenakaaGreatDoor
open Go
theorem topo_of {N : Nat} {g : Nat→List Nat} {lv : Nat→Nat} (hg : ∀ n,n < N→∀ x ∈ g n,x < N) (hlv : IsLv N g lv) : ∀ (L A : List Nat),(∀ x ∈ L,x < N)→(∀ x,x < N→x ∈ A∨x ∈ L)→L.Pairwise (lexlt lv)→Topo g A L
 | [],_,_,_,_=>trivial
 | n :: L,A,hl,ha,hp=>by
  obtain ⟨p1,p2⟩:=List.pairwise_cons.1 hp
  have hn:=hl n List.mem_cons_self
  refine ⟨fun x hx=>?_,topo_of hg hlv L (n :: A) (fun x hx=>hl x (List.mem_cons_of_mem _ hx)) (fun x hx=>?_) p2⟩
  ·have h1 : lv x < lv n:=by rw [hlv n hn]; exact le_mx hx
   rcases ha x (hg n hn x hx) with h | h
   ·exact h
   ·exfalso
    rcases List.mem_cons.1 h with rfl | h
    ·omega
    ·rcases p1 x h with q | ⟨q,-⟩ <;> omega
  ·rcases ha x hx with h | h
   ·exact .inl (List.mem_cons_of_mem _ h)
   ·rcases List.mem_cons.1 h with rfl | h
    ·exact .inl List.mem_cons_self
    ·exact .inr h
structure Ci.good (c : Ci) : Prop where
 wf : c.wf
 chk : chkE c = 0
 sh : shE c = 0
 ac : acyc c
 m : c.m = []
 k : ∀ y ∈ c.n,y.k ≠ 15
 n0 : 0 < c.n.length
 n1 : c.n.length ≤ 20
theorem Ci.good.val {c : Ci} (h : c.good) : c.val:=sh_val h.wf h.sh
structure Pt.fit (p : Pt) (c : Ci) : Prop where
 i : p.i.length = cnt 0 c.n
 s : p.s.length = cnt 14 c.n
 iv : ∀ x ∈ p.i,x ≤ 3
 sv : ∀ x ∈ p.s,x ≤ 3
def combC (c : Ci) (n : Nat) : Bool:=combB (c.nd n).k
def ini (c : Ci) (p : Pt) : Nat→Nat:=put (ids 14 c.n 0) p.s (put (ids 0 c.n 0) p.i fun _=>0)
def nevN (c : Ci) (n : Nat) (f : Nat→Nat) : Nat:=logE (c.nd n).k.toNat ((c.g n).map f)
structure Ord (c : Ci) (L : List Nat) : Prop where
 r : InR c.n.length L
 p : L.Pairwise (lexlt (lvOf c))
noncomputable def ordL (c : Ci) : List Nat:=Classical.epsilon fun L=>Ord c L
theorem Ord.eq {c : Ci} {L : List Nat} (h : Ord c L) : ordL c = L:=by
 have h2 : Ord c (ordL c):=Classical.epsilon_spec (p:=fun L=>Ord c L) ⟨L,h⟩
 refine lex_unique h2.p h.p fun x=>?_
 have h1:=nodup_full (lex_nodup h.p) h.r.lt (by have:=h.r.len; omega)
 have h3:=nodup_full (lex_nodup h2.p) h2.r.lt (by have:=h2.r.len; omega)
 exact ⟨fun hx=>h1 x (h2.r.lt x hx),fun hx=>h3 x (h.r.lt x hx)⟩
noncomputable def netN (c : Ci) (p : Pt) : Nat→Nat:=evl (nevN c) (combC c) (ordL c) (ini c p)
def obsO (c : Ci) (f : Nat→Nat) : List Nat:=c.o.map fun n=>clean (f n.toNat)
def nxtN (c : Ci) (f : Nat→Nat) (n : Nat) : Nat:=match (c.nd n).i with
 | [x]=>rdN (clean (f x.toNat))
 | _=>2
def obsS (c : Ci) (f : Nat→Nat) : List Nat:=(ids 14 c.n 0).map (nxtN c f)
def rspV (o s : List Nat) : V:=.agg [.sl (o.map u8V) (some o.length),.sl (s.map u8V) (some s.length)]
theorem Ci.good.o {c : Ci} (h : c.good) {x : Int} (hx : x ∈ c.o) : 0 ≤ x∧x < c.n.length:=by
 have h1:=(sh_zero h.sh).2.2.2.2.2
 rw [List.any_eq_false] at h1
 have:=h1 x hx
 simp [outB] at this
 omega
theorem Ord.topo {c : Ci} {L : List Nat} (hg : c.good) (h : Ord c L) : Topo c.g [] L:=by
 have hlv : IsLv c.n.length c.g (lvOf c):=hg.ac.lv
 exact topo_of hg.val.g hlv L [] h.r.lt (fun x hx=>.inr (nodup_full (lex_nodup h.p) h.r.lt (by have:=h.r.len; omega) x hx)) h.p
end Go.Proofs.YtcmblmkbdenakaaGreatDoor
namespace Go.Proofs.YtcmblmkbdenakaaGreatDoor
open Go
variable {α : Type}
theorem evl_keep {ev : Nat→(Nat→α)→α} {cb : Nat→Bool} {n : Nat} : ∀ (L : List Nat) (f : Nat→α),n ∉ L→evl ev cb L f n = f n
 | [],_,_=>rfl
 | m :: L,f,h=>by
  simp only [List.mem_cons,not_or] at h
  rw [evl,evl_keep L _ h.2]
  split
  ·exact upd1_ne _ _ h.1
  ·rfl
def EvC (g : Nat→List Nat) (ev : Nat→(Nat→α)→α) : Prop:=∀ n f f',(∀ x ∈ g n,f x = f' x)→f n = f' n→ev n f = ev n f'
theorem evl_eq {g : Nat→List Nat} {ev : Nat→(Nat→α)→α} (hc : EvC g ev) : ∀ (L A : List Nat) (f : Nat→α),Topo g A L→L.Nodup→(∀ x ∈ A,x ∉ L)→
  ∀ n,n ∈ L→evl ev (fun _=>true) L f n = ev n (upd1 (evl ev (fun _=>true) L f) n (f n))
 | [],_,_,_,_,_,n,hn=>by simp at hn
 | m :: L,A,f,ht,hd,ha,n,hn=>by
  obtain ⟨hmL,hd'⟩:=List.nodup_cons.1 hd
  simp only [evl,if_true]
  have hA : ∀ x ∈ m :: A,x ∉ L:=fun x hx=>by
   rcases List.mem_cons.1 hx with rfl | hx
   ·exact hmL
   ·exact fun h=>ha x hx (List.mem_cons_of_mem _ h)
  rcases List.mem_cons.1 hn with rfl | hnL
  ·rw [evl_keep L _ hmL,upd1_same]
   refine hc n _ _ (fun x hx=>?_) (by rw [upd1_same])
   have hxA:=ht.1 x hx
   have hxn : x ≠ n:=fun e=>ha x hxA (e ▸ List.mem_cons_self)
   rw [upd1_ne _ _ hxn,evl_keep L _ (hA x (List.mem_cons_of_mem _ hxA)),upd1_ne _ _ hxn]
  ·have hnm : n ≠ m:=fun e=>hmL (e ▸ hnL)
   have ih:=evl_eq hc L (m :: A) (upd1 f m (ev m f)) ht.2 hd' hA n hnL
   rw [upd1_ne _ _ hnm] at ih
   exact ih
theorem evl_all {ev : Nat→(Nat→α)→α} {cb : Nat→Bool} : ∀ (L : List Nat) (f : Nat→α),evl ev cb L f = evl (fun n f=>if cb n = true then ev n f else f n) (fun _=>true) L f
 | [],_=>rfl
 | m :: L,f=>by
  rw [evl,evl,evl_all L]
  congr 1
  simp only [if_true]
  split
  ·rfl
  ·funext j
   by_cases h : j = m
   ·subst h; rw [upd1_same]
   ·rw [upd1_ne _ _ h]
def rdsM (c : Ci) (Q : Nat→Nat→Nat→Nat) (n : Nat) (f : Nat→Nat) : List Nat:=(c.nd n).i.mapIdx fun p x=>Q n p (f x.toNat)
def evM (c : Ci) (W : Nat→Nat→Nat) (Q : Nat→Nat→Nat→Nat) (n : Nat) (f : Nat→Nat) : Nat:=W n (if combC c n = true then logE (c.nd n).k.toNat (rdsM c Q n f) else f n)
noncomputable def netM (c : Ci) (W : Nat→Nat→Nat) (Q : Nat→Nat→Nat→Nat) (p : Pt) : Nat→Nat:=evl (evM c W Q) (fun _=>true) (ordL c) (ini c p)
def idW : Nat→Nat→Nat:=fun _ v=>v
def idQ : Nat→Nat→Nat→Nat:=fun _ _ v=>v
theorem g_comb {c : Ci} {n : Nat} (h : combC c n = true) : c.g n = (c.nd n).i.map Int.toNat:=by
 unfold Ci.g
 have h' : combB (c.nd n).k = true:=h
 rw [if_pos h']
theorem rdsM_congr {c : Ci} {Q Q' : Nat→Nat→Nat→Nat} {n : Nat} {f f' : Nat→Nat} (h : ∀ p (hp : p < (c.nd n).i.length),Q n p (f ((c.nd n).i[p]).toNat) = Q' n p (f' ((c.nd n).i[p]).toNat)) : rdsM c Q n f = rdsM c Q' n f':=by
 refine List.ext_getElem (by simp [rdsM]) fun p h1 h2=>?_
 simp only [rdsM,List.getElem_mapIdx]
 exact h p (by simpa [rdsM] using h1)
theorem evM_c (c : Ci) (W : Nat→Nat→Nat) (Q : Nat→Nat→Nat→Nat) : EvC c.g (evM c W Q):=fun n f f' h h'=>by
 unfold evM
 by_cases hc : combC c n = true
 ·rw [if_pos hc,if_pos hc]
  congr 2
  refine rdsM_congr fun p hp=>?_
  rw [h]
  rw [g_comb hc]
  exact List.mem_map_of_mem (List.getElem_mem hp)
 ·rw [if_neg hc,if_neg hc,h']
theorem Ord.all {c : Ci} {L : List Nat} (h : Ord c L) {n : Nat} (hn : n < c.n.length) : n ∈ L:=nodup_full (lex_nodup h.p) h.r.lt (by have:=h.r.len; omega) n hn
theorem evM_upd {c : Ci} {W : Nat→Nat→Nat} {Q : Nat→Nat→Nat→Nat} (hb : acyc c) (_hv : c.val) {n : Nat} (hn : n < c.n.length) (G : Nat→Nat) (v : Nat) :
  evM c W Q n (upd1 G n v) = W n (if combC c n = true then logE (c.nd n).k.toNat (rdsM c Q n G) else v):=by
 unfold evM
 by_cases hc : combC c n = true
 ·rw [if_pos hc,if_pos hc]
  congr 2
  refine rdsM_congr fun p hp=>?_
  rw [upd1_ne]
  intro e
  have hx : ((c.nd n).i[p]).toNat ∈ c.g n:=by rw [g_comb hc]; exact List.mem_map_of_mem (List.getElem_mem hp)
  rw [e] at hx
  have hlv : IsLv c.n.length c.g (lvOf c):=hb.lv
  have:=hlv n hn
  have:=le_mx (f:=lvOf c) hx
  omega
 ·rw [if_neg hc,if_neg hc,upd1_same]
variable {c : Ci} {W : Nat→Nat→Nat} {Q : Nat→Nat→Nat→Nat} {p : Pt}
def Sol (c : Ci) (W : Nat→Nat→Nat) (Q : Nat→Nat→Nat→Nat) (p : Pt) (G : Nat→Nat) : Prop:=∀ n,n < c.n.length→G n = W n (if combC c n = true then logE (c.nd n).k.toNat (rdsM c Q n G) else ini c p n)
theorem netM_sol (hg : c.good) (ho : Ord c (ordL c)) : Sol c W Q p (netM c W Q p):=fun n hn=>by
 have h:=evl_eq (evM_c c W Q) (ordL c) [] (ini c p) (ho.topo hg) (lex_nodup ho.p) (by simp) n (ho.all hn)
 rw [evM_upd hg.ac hg.val hn] at h
 exact h
theorem rdsM_id {n : Nat} (h : combC c n = true) (f : Nat→Nat) : rdsM c idQ n f = (c.g n).map f:=by
 rw [g_comb h,List.map_map]
 refine List.ext_getElem (by simp [rdsM]) fun p h1 h2=>?_
 simp [rdsM,idQ]
theorem netN_M (c : Ci) (p : Pt) : netN c p = netM c idW idQ p:=by
 unfold netN netM
 rw [evl_all]
 congr 1
 funext n f
 unfold evM idW
 by_cases hc : combC c n = true
 ·rw [if_pos hc,if_pos hc,rdsM_id hc]; rfl
 ·rw [if_neg hc,if_neg hc]
theorem netN_sol (hg : c.good) (ho : Ord c (ordL c)) : Sol c idW idQ p (netN c p):=by rw [netN_M]; exact netM_sol hg ho
end Go.Proofs.YtcmblmkbdenakaaGreatDoor
