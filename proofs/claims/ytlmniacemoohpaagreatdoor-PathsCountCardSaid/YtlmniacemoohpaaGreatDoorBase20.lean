/- The library's Delete of one element of a list of integers, over memory of the activation's own. No program stands in it. Conditions: none. -/
import Derived.Test.YtlmniacemoohpaaGreatDoorBase18
import Derived.Shelf.Slices.Delete
import Derived.Test.YtlmniacemoohpaaGreatDoorBase15
set_option linter.unusedSimpArgs false
set_option linter.unusedVariables false
namespace Go.Proofs.YtlmniacemoohpaaGreatDoor
open Go Go.Shelf Go.Sort
section
variable {P : Program} {gl : Fr} {ρ : Ren}
def intsV (l : List Int) : List V:=l.map (V.int .i64)
theorem CallO.delete (L : Lays2.n23 P ρ) (hcal : callable P (ρ.f 23) = true) {b g i : Nat} {l : List Int} {cap : Option Nat} {h : Hp} {K : V→Hp→Prop} (hi : i < l.length) (hb : lk h b = some (.row g 1 (intsV l)))
  (hk : K (.ref b g 0 (l.length - 1) none) ((b,.row g 1 (intsV (l.take i ++ l.drop (i + 1) ++ [0]))) :: h)) : ICallO P gl (ρ.f 23) [.ref b g 0 l.length cap,.int .i64 i,.int .i64 ((i + 1 : Nat) : Int)] h K:=by
 refine ⟨hcal,fun G M w rargs hs hgl hsz hrel=>?_⟩
 obtain ⟨mb,m1,m2,m3,m4⟩:=hs.hb b _ hb
 have r0:=hrel 0 (by simp)
 have r1:=hrel 1 (by simp)
 have r2:=hrel 2 (by simp)
 simp only [List.getD_cons_zero,List.getD_cons_succ] at r0 r1 r2
 obtain ⟨ra,rcap,mb',e0,hM,hg,hl,hcc,hh⟩:=ref_inv r0
 rw [m1] at hM; cases hM
 have e1:=relV_int_inv r1
 have e2:=relV_int_inv r2
 have hre:=hh m2.symm
 cases hreal : mb.real with
 | none=>simp only [RefReal,hreal] at hre; omega
 | some rb=>
  simp only [RefReal,hreal] at hre
  simp only [RowRel,hreal] at m4
  obtain ⟨arr,ty,w1,w2,w3,w4,w5⟩:=m4
  rcases hre with ⟨rfl,hroom⟩ | ⟨q,-⟩
  case inr=>omega
  have hll : (intsV l).length = l.length:=by simp [intsV]
  have hel : ∀ (l : List Int) j (hj : j < l.length),((intsV l).getD j .undef) = .int .i64 l[j]:=fun l j hj=>by
   rw [List.getD_eq_getElem?_getD]; simp [intsV,hj]
  rw [m3] at w2 w4 w5
  have hcell : ∀ j (hj : j < l.length),arr.getD (mb.base + j) undef = .int .i64 l[j]:=fun j hj=>by
   have:=(w5 j 0 (by rw [hll]; exact hj) (by omega)).1
   rw [hel l j hj] at this
   simp only [V.cells,List.getD_cons_zero,Nat.mul_one,Nat.add_zero] at this
   exact relV_int_inv this
  have hsize : mb.base + l.length ≤ arr.size:=by rw [hll] at w3; omega
  have hargs : rargs = #[.slice (some ⟨rb,mb.base,none⟩) l.length rcap,.int .i64 i,.int .i64 ((i + 1 : Nat) : Int)]:=by
   apply Array.ext
   ·simpa using hsz
   ·intro k h1 h2
    have hk3 : k < 3:=by simpa using h2
    have hgd : rargs.getD k undef = rargs[k]:=by simp [Array.getD_eq_getD_getElem?,h1]
    match k,hk3 with
    | 0,_=>rw [← hgd,e0]; simp
    | 1,_=>rw [← hgd,e1]; simp
    | 2,_=>rw [← hgd,e2]; simp
  have hH : Holds (Value.int .i64) w rb mb.base l.toArray:=fun j hj=>by
   have hj' : j < l.length:=by simpa using hj
   refine ⟨?_,?_⟩
   ·rw [cell_of_row w1 (mb.base + j) (by omega),hcell j hj']
    rw [getElem!_pos l.toArray j hj]; simp
   ·simp [World.frozen?,w1]
  have hcall:=Any.slices_Delete_int L rb mb.base rcap i (i + 1) l w hH hl (by omega) (by omega) (by omega)
  rw [hargs]
  refine hcall.mono ?_
  rintro e w' ⟨rfl,q,rfl⟩
  obtain ⟨d,hd⟩ : ∃ d : List Int,d = l.take i ++ l.drop (i + 1) ++ [0]:=⟨_,rfl⟩
  have hrep : List.replicate (i + 1 - i) (0 : Int) = [0]:=by rw [Nat.add_sub_cancel_left]; rfl
  rw [hrep,← hd]
  rw [← hd] at hk
  have hdl : d.length = l.length:=by rw [hd]; simp; omega
  have hheap : ∀ k,(putRow (Value.int .i64) (Sort.ahead w q) rb mb.base d.toArray).heap[k]? = if rb = k then some (.cells (putCells (Value.int .i64) mb.base d.toArray arr) ty (0,0)) else w.heap[k]?:=fun k=>by
   simp only [putRow,mapBlock,Sort.ahead,Array.getElem?_modify]
   by_cases h : rb = k
   ·subst h; simp [w1,onCells]
   ·simp [h]
  have hblk : BlkRel G (upd M b mb) (putRow (Value.int .i64) (Sort.ahead w q) rb mb.base d.toArray) b (.row g 1 (intsV d)):=by
   refine ⟨mb,upd_same _ _ _,m2,m3,?_⟩
   simp only [RowRel,hreal]
   have hdl' : (intsV d).length = l.length:=by simp [intsV,hdl]
   refine ⟨_,ty,by rw [hheap,if_pos rfl],by simpa [putCells,m3] using w2,by rw [hdl',← hll]; exact w3,fun j hj=>?_,fun j t hj ht=>?_⟩
   ·rw [hdl'] at hj
    rw [hel d j (by omega),m3]; rfl
   ·rw [hdl'] at hj
    rw [m3] at ht ⊢
    obtain rfl : t = 0:=by omega
    rw [hel d j (by omega)]
    have hget : (putCells (Value.int .i64) mb.base d.toArray arr).getD (mb.base + j * 1 + 0) undef = .int .i64 (d[j]'(by omega)):=by
     simp only [putCells,Array.getD_eq_getD_getElem?,Array.getElem?_mapIdx,Nat.mul_one,Nat.add_zero]
     rw [Array.getElem?_eq_getElem (by omega)]
     simp only [Option.map_some,Option.getD_some]
     rw [if_pos ⟨by omega,by simp; omega⟩,Nat.add_sub_cancel_left,getElem!_pos d.toArray j (by simp; omega)]
     simp
    rw [hget]
    exact ⟨.int _ _,rfl⟩
  obtain ⟨s1,s2⟩:=hs.change (w':=putRow (Value.int .i64) (Sort.ahead w q) rb mb.base d.toArray) b mb (.row g 1 (intsV d)) (fun m hm=>.inr (by rw [m1] at hm; cases hm; rfl)) (fun r hr=>.inr ⟨mb,m1,hr⟩) (by simp)
   (fun k _ hk=>by rw [hheap,if_neg fun e=>hk (by rw [hreal,e])]) (fun _ _ _ _=>trivial) rfl rfl rfl hblk
  refine ⟨_,_,_,_,_,rfl,hk,?_,s1,s2⟩
  have hn : l.length - (i + 1 - i) = l.length - 1:=by omega
  rw [hn]
  refine .ref _ _ _ _ _ _ _ mb (upd_same _ _ _) (by omega) (by omega) (by simp) fun _=>?_
  simp only [RefReal,hreal]
  exact .inl ⟨by simp,hroom⟩
end
end Go.Proofs.YtlmniacemoohpaaGreatDoor
namespace Go.Proofs.YtlmniacemoohpaaGreatDoor
open Go
section
variable {P : Program} {gl : Fr} {bs n : Nat} {ops : Array Oper} {gm : Nat→Nat} {vs : Nat→V} {Ws : Nat→Hp} {rd : Nat→Nat→Prop} {al ex : Nat→Option Nat} {F0 : FF} {H0 : HH}
theorem regionGL {rd0 : Option Nat} {m : Nat} (hm : ops.size = m + 1) (hback : ckBack ops = true) (hbl : ∀ i,i < m→bd (ancs ops.toList []) i m = true)
  (hy : ∀ i o,i < m→ops[i]? = some o→YieldG P gl n ops gm i o (st (Dv ops vs) all1 F0 i) (st Ws all1 H0 i) (rd i) (al i) (ex i) (vs i) (Ws i))
  (hslot : ∀ i j oi oj,i < j→j < m→ops[i]? = some oi→ops[j]? = some oj→bd (ancs ops.toList []) i j = false→SlotInd ops oi oj)
  (hheap : ∀ i j,i < j→j < m→bd (ancs ops.toList []) i j = false→HeapInd (Ws i) (Ws j) (rd i) (rd j))
  (hrd : ∀ i b,al i = some b→rd i b) (hbig : ∀ i b,al i = some b→b ≠ 999999) (hal2 : ∀ i j b,i ≠ j→i < m→j < m→al i = some b→b ≠ 999999→ex j ≠ some b) {Q : Exit→Act→World→Prop} (hd : ∀ (i : Nat) (o : Oper),ops[i]? = some o→rd0.isSome = true→isDefer o.op = false) (hnq : ¬ LetsOut Q) {G0 : GMap} {M0' : MMap} {w0 : World}
  (hfin : ∀ fr' h' G' M' a' w',lk fr' = st (Dv ops vs) all1 F0 m→lk h' = st Ws all1 H0 m→R bs n gl G' M' fr' h' a' w'→Ext G0 M0' w0 G' M' w'→wpOpIn (FW rd0) 0 P ops Q m (fun a w=>Q .normal a w) a' w') :
  ∀ (fuel : Nat) (listed : Array Bool) (fr : Fr) (h : Hp) (G : GMap) (M : MMap) (a : Act) (w : World),listed.size = ops.size→(∀ x y,listed.getD x false = true→bnds ops x y = true→listed.getD y false = true)→
   listed.getD m false = false→lk fr = st (Dv ops vs) (fun j=>listed.getD j false) F0 m→lk h = st Ws (fun j=>listed.getD j false) H0 m→R bs n gl G M fr h a w→Ext G0 M0' w0 G M w→
   (∀ i,i < m→listed.getD i false = false→∀ b,al i = some b→b ≠ 999999→st Ws all1 H0 i b = none→freshGen M b = gm b∧lk h b = none)→unl ops.size listed ≤ fuel→wpAnyIn (FW rd0) 0 P .any ops Q fuel listed a w:=by
 have done : ∀ (fuel : Nat) (listed : Array Bool) (a : Act) (w : World),listed.size = ops.size→(∀ i,i < ops.size→listed.getD i true = true)→Q .normal a w→wpAnyIn (FW rd0) 0 P .any ops Q fuel listed a w:=by
  intro fuel listed a w hs hal hq
  have hno : ∀ i,i ∉ Region.ready .any ops listed:=fun i hm=>by
   obtain ⟨h1,o,h2,-⟩:=mem_ready.1 hm
   rw [hal i (Array.getElem?_eq_some_iff.1 h2).1] at h1; cases h1
  cases fuel with
  | zero=>
   refine ⟨?_,hq⟩
   cases hrd : Region.ready .any ops listed with
   | nil=>rfl
   | cons i r=>exact absurd (by rw [hrd]; exact List.mem_cons_self) (hno i)
  | succ fuel=>exact ⟨fun _=>hq,fun i hi=>absurd hi (hno i)⟩
 intro fuel
 induction fuel with
 | zero=>
  intro listed fr h G M a w hs hdc hml hf hh hr hx hfi hu
  have hall:=unl_zero (by omega : unl ops.size listed = 0) m (by omega)
  have hms : m < listed.size:=by omega
  simp [hms] at hall hml
  rw [hall] at hml; cases hml
 | succ fuel ihf=>
  intro listed fr h G M a w hs hdc hml hf hh hr hx hfi hu
  have hms : m < listed.size:=by omega
  refine ⟨fun hn=>?_,fun i hir=>?_⟩
  ·exact absurd hn (ready_ex hback hs (i:=m) (by omega) (by simp [hms] at hml ⊢; exact hml))
  ·obtain ⟨hun,o,ho,hall⟩:=mem_ready.1 hir
   have his0 : i < ops.size:=(Array.getElem?_eq_some_iff.1 ho).1
   have hil : i < listed.size:=by omega
   have hunf : listed.getD i false = false:=by
    simp [hil] at hun
    simp [hil,hun]
   have hpre : ∀ y,bnds ops i y = true→listed.getD y false = true:=fun y hy'=>bnds_listed hir hy'
   have below : ∀ j,bd (ancs ops.toList []) j i = true→listed.getD j false = true:=fun j hb=>bd_spec hb (fun x=>listed.getD x false = true) hdc hpre
   have above : ∀ j,listed.getD j false = true→bd (ancs ops.toList []) i j = false:=by
    intro j hj
    cases hb : bd (ancs ops.toList []) i j with
    | false=>rfl
    | true=>
     have:=bd_spec hb (fun x=>listed.getD x false = true) hdc (fun y hy'=>hdc j y hj hy')
     rw [hunf] at this; cases this
   have hdv : ∀ j,Dv ops vs j = match ops[j]? with | some oj=>dD oj.dst (vs j) | none=>[]:=fun j=>rfl
   have hset : ∀ j,j ≠ i→(listed.setIfInBounds i true).getD j false = listed.getD j false:=fun j hj=>getD_set_ne false (Ne.symm hj)
   have hseti : (listed.setIfInBounds i true).getD i false = true:=by simp [hil]
   by_cases him : i = m
   ·subst him
    have hall : ∀ j,j < i→all1 j = (fun j=>listed.getD j false) j:=fun j hj=>(below j (hbl j hj)).symm
    refine wpOpIn_mono (fun a' w' hq=>done fuel _ a' w' (by simpa using hs) (fun j hj=>?_) hq) (hfin fr h G M a w (by rw [hf,st_congr i hall]) (by rw [hh,st_congr i hall]) hr hx)
    by_cases hji : j = i
    ·subst hji; exact listed_ft hseti
    ·have h1:=below j (hbl j (by omega))
     rw [← hset j hji] at h1
     exact listed_ft h1
   have his : i < m:=by omega
   have hreads : ∀ b,rd i b→lk h b = st Ws all1 H0 i b:=by
    intro b hb
    rw [hh]
    rw [st_above (i:=i) m (by omega) fun j h1 h2 h3=>?_]
    ·refine st_below i fun j hj h3=>?_
     cases hb' : bd (ancs ops.toList []) j i with
     | true=>exact below j hb'
     | false=>exact absurd ((hheap j i hj his hb').wr b hb) h3
    ·cases hl : listed.getD j false with
     | false=>rfl
     | true=>
      have hji : i ≠ j:=fun e=>by rw [← e,hunf] at hl; cases hl
      exact absurd ((hheap i j (by omega) h2 (above j hl)).rw b hb) h3
   refine wpOpIn_of (K:=wpAnyIn (FW rd0) 0 P .any ops Q fuel (listed.setIfInBounds i true)) (hd i) hnq (hy i o his ho hr (fun t ht=>?_) hreads (fun b hb hn=>?_) (fun rv G' M' w' hr' hx' hf'=>?_)) (fun _ _ h=>h)
   ·rw [hf]
    rw [st_above (i:=i) m (by omega) fun j h1 h2 h3=>?_]
    ·refine st_below i fun j hj h3=>?_
     have hoj : ops[j]? = some ops[j]:=Array.getElem?_eq_getElem (by omega)
     rw [hdv,hoj] at h3
     have hd:=lk_dD_some h3
     cases hb : bd (ancs ops.toList []) j i with
     | true=>exact below j hb
     | false=>exact absurd hd ((hslot j i _ _ hj his hoj ho hb).xy t ht)
    ·have hoj : ops[j]? = some ops[j]:=Array.getElem?_eq_getElem (by omega)
     rw [hdv,hoj] at h3
     have hd:=lk_dD_some h3
     cases hl : listed.getD j false with
     | false=>rfl
     | true=>
      have hji : i ≠ j:=fun e=>by rw [← e,hunf] at hl; cases hl
      exact absurd hd ((hslot i j _ _ (by omega) h2 ho hoj (above j hl)).yx t ht)
   ·by_cases h9 : b = 999999
    ·exact absurd h9 (hbig i b hb)
    ·exact (hfi i his hunf b hb h9 (by rw [← hreads b (hrd i b hb)]; exact hn)).1
   ·refine ihf (listed.setIfInBounds i true) _ _ G' M' _ w' (by simpa using hs) ?_ (by rw [hset m (fun e=>him e.symm)]; exact hml) ?_ ?_ hr' (hx.trans hx') ?_ ?_
    ·intro x y h1 h2
     by_cases hy' : y = i
     ·subst hy'; exact hseti
     ·rw [hset y hy']
      by_cases hxi : x = i
      ·subst hxi; exact hpre y h2
      ·rw [hset x hxi] at h1; exact hdc x y h1 h2
    ·rw [putF_dD,lk_append,hf]
     have : dD o.dst (vs i) = Dv ops vs i:=by rw [hdv,ho]
     rw [this]
     refine (st_put (L:=fun j=>listed.getD j false) hunf hseti hset m his fun j h1 h2 h3 t=>?_).symm
     have hoj : ops[j]? = some ops[j]:=Array.getElem?_eq_getElem (by omega)
     have hI:=hslot i j _ _ h1 h2 ho hoj (above j h3)
     rw [hdv,hdv,ho,hoj]
     by_cases hd : o.dst = some t
     ·exact .inr (lk_dD (hI.dd t hd))
     ·exact .inl (lk_dD hd)
    ·rw [lk_append,hh]
     exact (st_put (L:=fun j=>listed.getD j false) hunf hseti hset m his fun j h1 h2 h3 t=>(hheap i j h1 h2 (above j h3)).ww t).symm
    ·intro j hjs hj b hb h9 hn
     have hji : j ≠ i:=fun e=>by rw [e,hseti] at hj; cases hj
     rw [hset j hji] at hj
     obtain ⟨f1,f2⟩:=hfi j hjs hj b hb h9 hn
     refine ⟨(hf' b (fun hc=>hal2 j i b hji hjs his hb h9 hc) f2).trans f1,?_⟩
     rw [lk_append,ov_none ?_]
     ·exact f2
     ·rcases Nat.lt_or_ge i j with hij | hij
      ·exact st_none j hn i hij
      ·have hnb : bd (ancs ops.toList []) j i = false:=by
        cases hb' : bd (ancs ops.toList []) j i with
        | false=>rfl
        | true=>have:=below j hb'; rw [hj] at this; cases this
       exact (hheap j i (by omega) his hnb).rw b (hrd j b hb)
    ·have:=unl_set hs his0 hun
     omega
end
theorem st_D {α : Type} {D D' : Nat→List (Nat × α)} {L : Nat→Bool} {F0 : Nat→Option α} : ∀ k,(∀ j,j < k→D j = D' j)→st D L F0 k = st D' L F0 k
 | 0,_=>rfl
 | k + 1,h=>by simp only [st]; rw [st_D k fun j hj=>h j (by omega),h k (by omega)]
def lastOk (an : List Nat) (m : Nat) : Bool:=(List.range m).all fun i=>bd an i m
def compRegL (P : Program) (n : Nat) (ops : Array Oper) : Option XC:=
 match compOps P n ops ops.toList.dropLast,ops[ops.size - 1]? with
 | some lp,some o=>match compOp P n ops o with
  | some x=>if P.follows .mixedOrders = true∧ckBack ops = true∧slotsIn ops ops.toList.dropLast lp = true∧pairsOk ops (ancs ops.toList []) = true∧(lp.all regOp && alDist lp []) = true∧(compOps P n ops ops.toList).isSome = true∧(asCall x.op).isSome = true∧lastOk (ancs ops.toList []) (ops.size - 1) = true
    then some (.seq (.reg lp (chkOf (ancs ops.toList []) lp)) (.ops [x])) else compReg P n ops
  | none=>compReg P n ops
 | _,_=>compReg P n ops
section
variable {P : Program} {gl : Fr} {bs n : Nat} {ops : Array Oper}
theorem IW.regGL {id : Nat} {x : XC} (hx : compRegL P n ops = some x) {fr : Fr} {h : Hp} {Q : IQ} (hw0 : x.wpF P gl Q fr h) : IW P n gl (.region id ops true) Q fr h:=by
 have old : ∀ {x : XC},compReg P n ops = some x→x.wpF P gl Q fr h→IW P n gl (.region id ops true) Q fr h:=fun hx hw=>by
  obtain ⟨l,chk,rfl,hreg⟩:=IW.regG (gl:=gl) (id:=id) (fr:=fr) (h:=h) (Q:=Q) hx
  exact hreg fun gm=>hw gm
 unfold compRegL at hx
 split at hx
 ·rename_i all o hall ho
  split at hx
  ·rename_i x1 hx1
   split at hx
   ·rename_i hcond
    obtain ⟨hm,hback,hslots,hpairs,hok,hful,hcal,hlast⟩:=hcond
    cases hx
    obtain ⟨full,hfull⟩:=Option.isSome_iff_exists.1 hful
    simp only [Bool.and_eq_true] at hok
    obtain ⟨hro,had⟩:=hok
    obtain ⟨ad1,ad2⟩:=alDist_spec had
    obtain ⟨m,hm1⟩ : ∃ m,ops.size = m + 1:=⟨ops.size - 1,by have:=(Array.getElem?_eq_some_iff.1 ho).1; omega⟩
    have hom : ops[m]? = some o:=by rw [hm1,Nat.add_sub_cancel] at ho; exact ho
    have hbl : ∀ i,i < m→bd (ancs ops.toList []) i m = true:=fun i hi=>by
     rw [hm1,Nat.add_sub_cancel] at hlast
     exact List.all_eq_true.1 hlast i (List.mem_range.2 hi)
    have hw : ∀ gm,dregW P gl gm all fr h [] (fun fr' h' fps=>indAll fps (chkOf (ancs ops.toList []) all) = true∧xopsW P gl [x1] fr' h' (QN Q)):=fun gm=>hw0 gm
    intro rd0 bs hn G M a w hr
    refine wpIn_region_any hm ?_
    obtain ⟨fr',h',fps,vs,Ws,rd,⟨hind,hq⟩,d⟩:=dreg_data (gm:=freshGen M) (dsts_lt hfull) ops.toList.dropLast all hall hslots hro (hw (freshGen M))
    rw [List.nil_append] at hind
    have hlen : ops.toList.dropLast.length = m:=by simp [hm1]
    have hall_len:=(compOps_spec hall).1
    have hlo : ∀ i,i < m→ops.toList.dropLast[i]? = ops[i]?:=fun i hi=>by rw [List.getElem?_dropLast]; simp [hm1,hi]
    have hax : ∀ i,i < m→all[i]? = some (all.getD i default):=fun i hi=>by
     have hi' : i < all.length:=by omega
     rw [List.getElem?_eq_getElem hi',List.getD_eq_getElem?_getD,List.getElem?_eq_getElem hi']; rfl
    have hDj : ∀ i,i < m→DvL ops.toList.dropLast vs i = Dv ops vs i:=fun i hi=>by simp only [DvL,Dv,hlo i hi]; rfl
    have hst : ∀ k,k ≤ m→∀ F,st (DvL ops.toList.dropLast vs) all1 F k = st (Dv ops vs) all1 F k:=fun k hk F=>st_D k fun j hj=>hDj j (by omega)
    let al : Nat→Option Nat:=fun i=>if i < m then alOf (all.getD i default) else none
    let ex : Nat→Option Nat:=fun i=>if i < m then exOf (all.getD i default) else none
    have hal : ∀ i b,al i = some b→i < m∧alOf (all.getD i default) = some b:=fun i b hb=>by
     simp only [al] at hb
     split at hb
     ·rename_i h1; exact ⟨h1,hb⟩
     ·cases hb
    refine regionGL (P:=P) (gl:=gl) (bs:=bs) (n:=n) (gm:=freshGen M) (vs:=vs) (Ws:=Ws) (rd:=fun i b=>b ∈ rd i) (al:=al) (ex:=ex) (F0:=lk fr) (H0:=lk h) hm1 hback hbl ?_ ?_ ?_ ?_ ?_ ?_ (noR_ops hn) Up.noOut (G0:=G) (M0':=M) (w0:=w) ?_
     ops.size (Array.replicate ops.size false) fr h G M a _ (by simp) ?_ (by simp [hm1]) ?_ ?_ ?_ Ext.drawn ?_ ?_
    ·intro i o hi ho
     have e1 : al i = alOf (all.getD i default):=by simp only [al,if_pos hi]
     have e2 : ex i = exOf (all.getD i default):=by simp only [ex,if_pos hi]
     rw [e1,e2,← hst i (by omega)]
     intro bs fr h G M a w Q K' h1 h2 h3 h4 h5
     exact d.y i o _ (by rw [hlo i hi]; exact ho) (hax i hi) i ho h1 h2 h3 h4 h5
    ·intro i j oi oj hij hjm hoi hoj hb
     have hj : j < ops.size:=(Array.getElem?_eq_some_iff.1 hoj).1
     simp only [pairsOk,List.all_eq_true,List.mem_range,Bool.or_eq_true] at hpairs
     rcases hpairs j hj i hij with h | h
     ·rw [hb] at h; cases h
     ·rw [hoi,hoj] at h; exact slotInd_spec h
    ·intro i j hij hj hb
     have hxi:=hax i (by omega)
     have hxj:=hax j hj
     cases hc : clash (all.getD i default).op (all.getD j default).op with
     | true=>
      have hmem:=chkOf_mem hij hxi hxj hb hc
      have:=List.all_eq_true.1 hind _ hmem
      rw [d.fp i (by omega),d.fp j (by omega)] at this
      exact indF_spec this
     | false=>
      simp only [clash,Bool.or_eq_false_iff,Bool.and_eq_false_iff,Bool.not_eq_false'] at hc
      obtain ⟨h1,h2⟩:=hc
      have pi:=d.pure i _ hxi
      have pj:=d.pure j _ hxj
      have key : (Ws i = []∧Ws j = [])∨(Ws i = []∧rd i = [])∨(Ws j = []∧rd j = []):=by
       rcases h1 with h1 | h1
       ·rcases h2 with h2 | h2
        ·exact .inr (.inl (pi.2 h2))
        ·exact .inl ⟨pi.1 h1,pj.1 h2⟩
       ·exact .inr (.inr (pj.2 h1))
      rcases key with ⟨e1,e2⟩ | ⟨e1,e2⟩ | ⟨e1,e2⟩
      ·rw [e1,e2]; exact ⟨(fun _=>.inl rfl),(fun _ _=>rfl),(fun _ _=>rfl)⟩
      ·rw [e1]; exact ⟨(fun _=>.inl rfl),(fun _ _=>rfl),(fun b hb=>by simp only [e2] at hb; cases hb)⟩
      ·rw [e1]; exact ⟨(fun _=>.inr rfl),(fun b hb=>by simp only [e2] at hb; cases hb),(fun _ _=>rfl)⟩
    ·intro i b hb
     exact d.alrd i _ b (hax i (hal i b hb).1) (hal i b hb).2
    ·intro i b hb
     exact (ad1 i _ b (hax i (hal i b hb).1) (hal i b hb).2).2
    ·intro i j b hij hi hj hb h9 hc
     simp only [ex,if_pos hj] at hc
     exact ad2 i j _ _ b hij (hax i hi) (hax j hj) (hal i b hb).2 (exOf_al hc h9)
    ·intro fr2 h2 G' M' a' w' e1 e2 e3 e4
     have e5 : R bs n gl G' M' fr' h' a' w':=e3.weaken (fun t v ht=>by rw [e1,← hst m (Nat.le_refl _),← hlen,← d.efr]; exact ht) (fun b k hb=>by rw [e2,← hlen,← d.eh]; exact hb)
     refine opW_sound (dsts_lt hfull) e5 hom (noR_ops hn m _ hom) hx1 hq fun fr3 h3 G3 M3 a3 w3 q1 q2 q3=>?_
     exact ⟨.normal,G3,M3,fr3,h3,rfl,q1,q2,e4.trans q3⟩
    ·intro x y h1
     by_cases hx : x < ops.size <;> simp [hx] at h1
    ·funext t
     rw [st_above m (Nat.zero_le _) fun j _ h2 _=>by simp [show j < ops.size by omega]]
     rfl
    ·funext t
     rw [st_above m (Nat.zero_le _) fun j _ h2 _=>by simp [show j < ops.size by omega]]
     rfl
    ·exact ⟨hr.sim.drawn,hr.frr,hr.sz,hr.df.ext (Ext.drawn (G:=G)),hr.gl,hr.bs⟩
    ·intro i hi _ b hb h9 hn
     refine ⟨rfl,?_⟩
     cases hk : lk h b with
     | none=>rfl
     | some k=>
      exfalso
      have : ∀ m,st Ws all1 (lk h) m b ≠ none:=by
       intro m
       induction m with
       | zero=>show lk h b ≠ none; rw [hk]; simp
       | succ m ihm=>
        show ov (Ws m) (st Ws all1 (lk h) m) b ≠ none
        unfold ov
        split
        ·simp
        ·exact ihm
      exact this i hn
    ·unfold unl
     exact Nat.le_trans List.countP_le_length (by simp)
   ·exact old hx hw0
  ·exact old hx hw0
 ·exact old hx hw0
end
def compXL (P : Program) (n : Nat) : Code→Option XC
 | .skip=>some .skip
 | .region _ ops draw=>match draw with
  | false=>(compOps P n ops ops.toList).map .ops
  | true=>compRegL P n ops
 | .seq a b=>match compXL P n a,compXL P n b with
  | some x,some y=>some (.seq x y)
  | _,_=>none
 | .cond c a b=>match compXL P n a,compXL P n b with
  | some x,some y=>some (.cond (co c) x y)
  | _,_=>none
 | .block id a=>match compXL P n a with
  | some x=>some (.block id x)
  | none=>none
 | .loop a=>match compXL P n a with
  | some x=>some (.loop x)
  | none=>none
 | .scope a=>match compXL P n a with
  | some x=>some (.scope x)
  | none=>none
 | .exit id=>some (.exit id)
 | .goto l=>some (.goto l)
 | .label l=>some (.label l)
 | .ret=>some .ret
 | .rangeFunc f ps asg body=>some (.rng n (2000000 + ps.toList.headD 0) (co f) ps.toList asg body)
 | _=>none
def FiOkL (P : Program) (f : FuncId) (fi : FnI) : Prop:=
 ∃ fn body,P.funcs[f]? = some fn∧fn.body = some body∧fn.name ≠ "runtime.NumGoroutine" ∧ fn.ntmps = fi.n∧compRess P fn.results.toList = some fi.rs∧compXL P fi.n body = some fi.code
section
variable {P : Program} {gl : Fr} {bs n : Nat} {fr : Fr} {h : Hp}
theorem wpFL_sound : ∀ {c : Code} {x : XC},compXL P n c = some x→∀ {Q : IQ} {fr : Fr} {h : Hp},x.wpF P gl Q fr h→IW P n gl c Q fr h:=by
 intro c
 induction c with
 | skip=>intro x hx Q fr h hw; cases hx; exact IW.skip hw
 | region id ops draw=>
  intro x hx Q fr h hw
  simp only [compXL] at hx
  cases draw with
  | false=>
   simp only [] at hx
   cases hl : compOps P n ops ops.toList with
   | none=>rw [hl] at hx; cases hx
   | some l=>
    rw [hl] at hx; cases hx
    intro rd bs hn G M a w hr
    refine wpIn_region ?_
    have hll : l.length = ops.size:=by have:=(compOps_spec hl).1; simpa using this
    have:=xopsW_sound (noR_ops hn) hl (Q:=Up bs n gl G M w Q) l 0 rfl hr hw (fun fr' h' G' M' a' w' q1 q2 q3=>⟨.normal,G',M',fr',h',rfl,q1,q2,q3⟩)
    rw [Nat.sub_zero,hll,← List.range_eq_range'] at this
    exact this
  | true=>
   simp only [] at hx
   exact IW.regGL hx hw
 | seq a b iha ihb=>
  intro x hx Q fr h hw
  simp only [compXL] at hx
  split at hx
  ·rename_i xa xb ha hb
   cases hx
   refine IW.seq (IW.mono (iha ha hw) fun e fr h hq=>?_)
   cases e with
   | normal=>exact ihb hb hq
   | exit id=>exact hq
   | goto l=>exact hq
   | ret=>exact hq
  ·cases hx
 | cond c a b iha ihb=>
  intro x hx Q fr h hw
  simp only [compXL] at hx
  split at hx
  ·rename_i xa xb ha hb
   cases hx
   simp only [XC.wpF] at hw
   intro rd bs hn G M ac w hr
   cases hc0 : ev gl fr (co c) with
   | none=>rw [hc0] at hw; exact hw.elim
   | some v=>
    rw [hc0] at hw
    cases v <;> simp only [condF] at hw
    rename_i t
    have hc:=relV_bool_inv (ev_co hr hc0)
    cases t with
    | true=>exact wpIn_cond_true hc (iha ha (by simpa using hw) rd bs (fun h=>(Bool.and_eq_true_iff.1 (hn h)).1) G M ac w hr)
    | false=>exact wpIn_cond_false hc (ihb hb (by simpa using hw) rd bs (fun h=>(Bool.and_eq_true_iff.1 (hn h)).2) G M ac w hr)
  ·cases hx
 | block id a iha=>
  intro x hx Q fr h hw
  simp only [compXL] at hx
  split at hx
  ·rename_i xa ha; cases hx; exact IW.block (iha ha hw)
  ·cases hx
 | loop a iha=>
  intro x hx Q fr h hw
  simp only [compXL] at hx
  split at hx
  ·rename_i xa ha
   cases hx
   rcases hw with ⟨X,F,H,Inv,mu,x0,h0,h1,h2,h3⟩ | ⟨X,F,H,Inv,mu,h0,h3⟩ | ⟨X,F,H,Inv,mu,h0,h3⟩
   ·refine IW.loop F H Inv mu x0 h0 h1.spec h2.spec fun x hI=>IW.mono (iha ha (h3 x hI)) fun e fr h hq=>?_
    cases e with
    | normal=>obtain ⟨x',q1,q2,q3,q4⟩:=hq; exact ⟨x',q1,q2.spec,q3.spec,q4⟩
    | exit id=>exact hq
    | goto l=>exact hq
    | ret=>exact hq
   ·refine IW.loopM F H Inv mu (h0.mono fun _ _ ⟨x0,q1,q2,q3⟩=>⟨x0,q1,q2.spec,q3.spec⟩) fun x hI=>IW.mono (iha ha (h3 x hI)) fun e fr h hq=>?_
    cases e with
    | normal=>exact MvP.mono (fun _ _ ⟨x',q1,q2,q3,q4⟩=>⟨x',q1,q2.spec,q3.spec,q4⟩) hq
    | exit id=>exact hq
    | goto l=>exact hq
    | ret=>exact hq
   ·refine IW.exitM (IW.loopM F H Inv mu (h0.mono fun _ _ ⟨x0,q1,q2,q3⟩=>⟨x0,q1,q2.spec,q3.spec⟩) fun x hI=>IW.mono (iha ha (h3 x hI)) fun e fr h hq=>?_)
    cases e with
    | normal=>exact MvP.mono (fun _ _ ⟨x',q1,q2,q3,q4⟩=>⟨x',q1,q2.spec,q3.spec,q4⟩) hq
    | exit id=>exact hq
    | goto l=>exact hq
    | ret=>exact hq
  ·cases hx
 | scope a iha=>
  intro x hx Q fr h hw
  simp only [compXL] at hx
  split at hx
  ·rename_i xa ha
   cases hx
   intro rd bs hn G M ac w hr
   refine wpIn_scope (wpIn_mono (iha ha hw rd bs hn G M ac w hr) ?_)
   rintro e a' w' ⟨ie,G',M',fr',h',rfl,hq,hr',hx'⟩
   cases ie with
   | goto l=>exact hq.elim
   | normal=>exact ⟨.normal,G',M',fr',h',rfl,hq,hr',hx'⟩
   | exit id=>exact ⟨.exit id,G',M',fr',h',rfl,hq,hr',hx'⟩
   | ret=>exact ⟨.ret,G',M',fr',h',rfl,hq,hr',hx'⟩
  ·cases hx
 | exit id=>intro x hx Q fr h hw; cases hx; exact IW.exit hw
 | goto l=>intro x hx Q fr h hw; cases hx; exact IW.goto hw
 | label l=>intro x hx Q fr h hw; cases hx; exact IW.label hw
 | ret=>intro x hx Q fr h hw; cases hx; exact IW.ret hw
 | rangeFunc f ps a b=>
  intro x hx Q fr h hw
  cases hx
  simp only [XC.wpF] at hw
  cases hf : ev gl fr (co f) with
  | none=>rw [hf] at hw; exact hw.elim
  | some v=>
   rw [hf] at hw
   cases v <;> simp only [rngW] at hw
   obtain ⟨frs,hs,s1,s2,hc⟩:=hw
   exact IW.rng' _ hf s1 s2 hc
 | refuse s=>intro x hx; cases hx
theorem CallO.of_WL {f : FuncId} {fi : FnI} {args : List V} {K : V→Hp→Prop} (hb : FiOkL P f fi) (hk : Nat.ble args.length fi.n = true) (hw : fi.code.wpF P gl (retO fi.rs K) (argF 0 args) h) : ICallO P gl f args h K:=by
 obtain ⟨fn,body,h1,h2,h3,h4,h5,h6⟩:=hb
 refine ICallO.of_body h1 h2 h3 (by have:=Nat.le_of_ble_eq_true hk; omega) h5 ?_
 rw [h4]
 exact wpFL_sound h6 hw
end
end Go.Proofs.YtlmniacemoohpaaGreatDoor
