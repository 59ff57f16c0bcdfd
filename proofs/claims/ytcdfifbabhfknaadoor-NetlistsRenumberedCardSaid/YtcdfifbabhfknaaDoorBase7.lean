/- Regions whose order is drawn: whatever each operation does, if those that may change places leave each other alone. No program stands in it. Conditions: none. Operations as a function of the state: each has one value, the blocks that it changes, the blocks that it reads. No program stands in it. Conditions: none. -/
import Derived.Test.YtcdfifbabhfknaaDoorBase6
namespace Go.Proofs.YtcdfifbabhfknaaDoor
open Go
abbrev FF:=Nat→Option V
abbrev HH:=Nat→Option Blk
def bnds (ops : Array Oper) (j i : Nat) : Bool:=match ops[j]? with
 | some o=>o.after.any fun e=>Region.binds .any e && e.on == i
 | none=>false
def ckBack (ops : Array Oper) : Bool:=(List.range ops.size).all fun j=>match ops[j]? with
 | some o=>o.after.all fun e=>!(Region.binds .any e) || decide (e.on < j)
 | none=>true
theorem bnds_listed {ops : Array Oper} {listed : Array Bool} {j i : Nat} (hj : j ∈ Region.ready .any ops listed) (hb : bnds ops j i = true) : listed.getD i false = true:=by
 obtain ⟨-,o,ho,hall⟩:=mem_ready.1 hj
 simp only [bnds,ho] at hb
 obtain ⟨e,he,hb⟩:=Array.any_eq_true'.1 hb
 simp only [Bool.and_eq_true,beq_iff_eq] at hb
 have:=hall e he hb.1
 rw [hb.2] at this; exact this
def unl (sz : Nat) (listed : Array Bool) : Nat:=(List.range sz).countP fun i=>!listed.getD i true
theorem countP_lt {p q : Nat→Bool} {i : Nat} : ∀ (l : List Nat),(∀ j ∈ l,q j = true→p j = true)→i ∈ l→p i = true→q i = false→l.countP q < l.countP p
 | [],_,h,_,_=>by cases h
 | x :: l,h1,h2,h3,h4=>by
  have hle : l.countP q ≤ l.countP p:=List.countP_mono_left fun j hj=>h1 j (List.mem_cons_of_mem _ hj)
  simp only [List.countP_cons]
  by_cases hx : i = x
  ·subst hx
   rw [h3,h4]; simp; omega
  ·have hi : i ∈ l:=by
    rcases List.mem_cons.1 h2 with h | h
    ·exact absurd h hx
    ·exact h
   have:=countP_lt l (fun j hj=>h1 j (List.mem_cons_of_mem _ hj)) hi h3 h4
   have hxx:=h1 x (List.mem_cons_self)
   cases hq : q x <;> cases hp : p x
   ·simp; omega
   ·simp; omega
   ·rw [hxx hq] at hp; cases hp
   ·simp; omega
theorem unl_set {sz : Nat} {listed : Array Bool} {i : Nat} (hs : listed.size = sz) (hi : i < sz) (hu : listed.getD i true = false) : unl sz (listed.setIfInBounds i true) < unl sz listed:=by
 refine countP_lt (i:=i) _ (fun j _ hj=>?_) (List.mem_range.2 hi) (by rw [hu]; rfl) ?_
 ·by_cases hji : i = j
  ·subst hji; rw [hu]; rfl
  ·rw [getD_set_ne true hji] at hj; exact hj
 ·have : i < listed.size:=by omega
  simp [this]
theorem unl_zero {sz : Nat} {listed : Array Bool} (h : unl sz listed = 0) : ∀ i,i < sz→listed.getD i true = true:=by
 intro i hi
 have:=List.countP_eq_zero.1 h i (List.mem_range.2 hi)
 simpa using this
theorem first_unlisted {sz : Nat} {listed : Array Bool} : ∀ i,i < sz→listed.getD i true = false→∃ i,i < sz∧listed.getD i true = false∧∀ j,j < i→listed.getD j true = true:=by
 intro i
 induction i using Nat.strongRecOn with
 | ind i ih=>
  intro hi hu
  by_cases h : ∃ j,j < i∧listed.getD j true = false
  ·obtain ⟨j,hj,hju⟩:=h; exact ih j hj (by omega) hju
  ·refine ⟨i,hi,hu,fun j hj=>?_⟩
   cases hl : listed.getD j true with
   | true=>rfl
   | false=>exact absurd ⟨j,hj,hl⟩ h
theorem ready_ex {ops : Array Oper} {listed : Array Bool} (hb : ckBack ops = true) (hs : listed.size = ops.size) {i : Nat} (hi : i < ops.size) (hu : listed.getD i true = false) : Region.ready .any ops listed ≠ []:=by
 obtain ⟨j,hj,hju,hall⟩:=first_unlisted i hi hu
 intro hn
 have : j ∈ Region.ready .any ops listed:=by
  refine mem_ready.2 ⟨hju,ops[j],Array.getElem?_eq_getElem hj,fun e he hbe=>?_⟩
  simp only [ckBack,List.all_eq_true,List.mem_range] at hb
  have h1:=hb j hj
  rw [Array.getElem?_eq_getElem hj] at h1
  have h1:=(Array.all_eq_true_iff_forall_mem.1 h1) e he
  simp only [hbe,Bool.not_true,Bool.false_or,decide_eq_true_eq] at h1
  have h2:=hall e.on h1
  have hlt : e.on < listed.size:=by omega
  simp [hlt] at h2 ⊢
  exact h2
 rw [hn] at this; cases this
def ov {α : Type} (D : List (Nat × α)) (F : Nat→Option α) : Nat→Option α:=fun t=>match lk D t with
 | some v=>some v
 | none=>F t
theorem lk_append {α : Type} (D h : List (Nat × α)) : lk (D ++ h) = ov D (lk h):=by
 induction D with
 | nil=>rfl
 | cons p r ih=>
  obtain ⟨k,v⟩:=p
  funext t
  simp only [List.cons_append,lk,ih,ov]
  by_cases h1 : t = k <;> simp [h1]
theorem ov_none {α : Type} {D : List (Nat × α)} {F : Nat→Option α} {t : Nat} (h : lk D t = none) : ov D F t = F t:=by simp [ov,h]
def st {α : Type} (D : Nat→List (Nat × α)) (L : Nat→Bool) (F0 : Nat→Option α) : Nat→Nat→Option α
 | 0=>F0
 | k + 1=>if L k = true then ov (D k) (st D L F0 k) else st D L F0 k
section
variable {α : Type} {D : Nat→List (Nat × α)} {L : Nat→Bool} {F0 : Nat→Option α}
theorem st_below {t : Nat} : ∀ k,(∀ j,j < k→lk (D j) t ≠ none→L j = true)→st D L F0 k t = st D (fun _=>true) F0 k t
 | 0,_=>rfl
 | k + 1,h=>by
  have ih:=st_below k fun j hj=>h j (by omega)
  simp only [st,if_true]
  by_cases hl : L k = true
  ·rw [if_pos hl]; simp only [ov,ih]
  ·rw [if_neg hl,ih]
   have : lk (D k) t = none:=by
    cases hc : lk (D k) t with
    | none=>rfl
    | some v=>exact absurd (h k (by omega) (by rw [hc]; simp)) hl
   rw [ov_none this]
theorem st_above {t i : Nat} : ∀ k,i ≤ k→(∀ j,i ≤ j→j < k→lk (D j) t ≠ none→L j = false)→st D L F0 k t = st D L F0 i t
  | 0, hi, _ => by obtain rfl : i = 0 := by omega
                   rfl
  | k + 1,hi,h=>by
    by_cases hik : i = k + 1
    · rw [hik]
    · have ih:=st_above (i:=i) k (by omega) fun j h1 h2=>h j h1 (by omega)
      simp only [st]
      by_cases hl : L k = true
      · rw [if_pos hl]
        have : lk (D k) t = none:=by
          cases hc : lk (D k) t with
          | none=>rfl
          | some v=>have:=h k (by omega) (by omega) (by rw [hc]; simp); rw [this] at hl; cases hl
        rw [ov_none this,ih]
      · rw [if_neg hl,ih]
theorem st_congr {L' : Nat→Bool} : ∀ k,(∀ j,j < k→L' j = L j)→st D L' F0 k = st D L F0 k
 | 0,_=>rfl
 | k + 1,h=>by
  simp only [st]
  rw [st_congr k fun j hj=>h j (by omega),h k (by omega)]
theorem ov_comm {A B : List (Nat × α)} {F : Nat→Option α} (h : ∀ t,lk A t = none∨lk B t = none) : ov A (ov B F) = ov B (ov A F):=by
 funext t
 simp only [ov]
 rcases h t with h | h
 ·simp [h]
 ·simp [h]
theorem st_put {L' : Nat→Bool} {i : Nat} (hi : L i = false) (hi' : L' i = true) (hL : ∀ j,j ≠ i→L' j = L j) : ∀ k,i < k→(∀ j,i < j→j < k→L j = true→∀ t,lk (D i) t = none∨lk (D j) t = none)→st D L' F0 k = ov (D i) (st D L F0 k)
 | 0,h,_=>by omega
 | k + 1,h,hd=>by
  simp only [st]
  by_cases hik : i = k
  ·subst hik
   rw [if_pos hi',hi,if_neg (by simp),st_congr i fun j hj=>hL j (by omega)]
  ·have ih:=st_put hi hi' hL k (by omega) fun j h1 h2=>hd j h1 (by omega)
   rw [hL k (Ne.symm hik),ih]
   by_cases hl : L k = true
   ·rw [if_pos hl,if_pos hl]
    exact ov_comm fun t=>(hd k (by omega) (by omega) hl t).symm
   ·rw [if_neg hl,if_neg hl]
end
def ancM (acc : List Nat) (o : Oper) : Nat:=o.after.toList.foldl (fun m e=>if Region.binds .any e = true then (m ||| acc.getD e.on 0) ||| 2 ^ e.on else m) 0
def ancs : List Oper→List Nat→List Nat
 | [],acc=>acc
 | o :: r,acc=>ancs r (acc ++ [ancM acc o])
def bd (an : List Nat) (i j : Nat) : Bool:=(an.getD j 0).testBit i
def AncOk (ops : Array Oper) (m j : Nat) : Prop:=∀ L : Nat→Prop,(∀ x y,L x→bnds ops x y = true→L y)→(∀ y,bnds ops j y = true→L y)→∀ i,m.testBit i = true→L i
theorem ancM_ok {ops : Array Oper} {acc : List Nat} (hacc : ∀ j,j < acc.length→AncOk ops (acc.getD j 0) j) {k : Nat} {o : Oper} (ho : ops[k]? = some o) : AncOk ops (ancM acc o) k:=by
 intro L hL hk
 have key : ∀ (l : List Edge) (m : Nat),(∀ e ∈ l,e ∈ o.after)→(∀ i,m.testBit i = true→L i)→∀ i,(l.foldl (fun m e=>if Region.binds .any e = true then (m ||| acc.getD e.on 0) ||| 2 ^ e.on else m) m).testBit i = true→L i:=by
  intro l
  induction l with
  | nil=>intro m _ hm; exact hm
  | cons e r ih=>
   intro m hl hm
   simp only [List.foldl_cons]
   refine ih _ (fun e' he'=>hl e' (List.mem_cons_of_mem _ he')) fun i hi=>?_
   split at hi
   ·rename_i hb
    have hon : L e.on:=hk e.on (by
     simp only [bnds,ho,Array.any_eq_true']
     exact ⟨e,hl e List.mem_cons_self,by simp [hb]⟩)
    rw [Nat.testBit_or,Nat.testBit_or,Bool.or_eq_true,Bool.or_eq_true] at hi
    rcases hi with (hi | hi) | hi
    ·exact hm i hi
    ·rcases Nat.lt_or_ge e.on acc.length with h | h
     ·exact hacc e.on h L hL (fun y hy=>hL e.on y hon hy) i hi
     ·rw [List.getD_eq_getElem?_getD,List.getElem?_eq_none h] at hi; simp at hi
    ·rw [Nat.testBit_two_pow] at hi
     have : e.on = i:=by simpa using hi
     exact this ▸ hon
   ·exact hm i hi
 exact key o.after.toList 0 (fun e he=>by simpa using he) (fun i hi=>by simp at hi)
theorem ancs_ok {ops : Array Oper} : ∀ (l : List Oper) (acc : List Nat),ops.toList.drop acc.length = l→(∀ j,j < acc.length→AncOk ops (acc.getD j 0) j)→∀ j,j < (ancs l acc).length→AncOk ops ((ancs l acc).getD j 0) j
 | [],acc,_,hacc=>hacc
 | o :: r,acc,hd,hacc=>by
  have ho : ops[acc.length]? = some o:=by
   have:=congrArg (fun l : List Oper=>l[0]?) hd
   simpa using this
  refine ancs_ok r _ (by rw [List.length_append,List.length_singleton,← List.tail_drop,hd]; rfl) fun j hj=>?_
  by_cases hja : j < acc.length
  ·have : (acc ++ [ancM acc o]).getD j 0 = acc.getD j 0:=by rw [List.getD_eq_getElem?_getD,List.getD_eq_getElem?_getD,List.getElem?_append_left hja]
   rw [this]; exact hacc j hja
  ·have hje : j = acc.length:=by simp at hj; omega
   subst hje
   have : (acc ++ [ancM acc o]).getD acc.length 0 = ancM acc o:=by simp [List.getD_eq_getElem?_getD]
   rw [this]; exact ancM_ok hacc ho
theorem bd_spec {ops : Array Oper} {i j : Nat} (hb : bd (ancs ops.toList []) i j = true) (L : Nat→Prop) (hL : ∀ x y,L x→bnds ops x y = true→L y) (hj : ∀ y,bnds ops j y = true→L y) : L i:=by
 unfold bd at hb
 rcases Nat.lt_or_ge j (ancs ops.toList []).length with h | h
 ·exact ancs_ok ops.toList [] rfl (fun j hj=>by simp at hj) j h L hL hj i hb
 ·rw [List.getD_eq_getElem?_getD,List.getElem?_eq_none h] at hb; simp at hb
def dD (d : Option Nat) (v : V) : Fr:=match d with
 | some d=>[(d,v)]
 | none=>[]
theorem putF_dD (fr : Fr) (d : Option Nat) (v : V) : putF fr d v = dD d v ++ fr:=by cases d <;> rfl
theorem lk_dD {d : Option Nat} {v : V} {t : Nat} (h : d ≠ some t) : lk (dD d v) t = none:=by
 cases d with
 | none=>rfl
 | some e=>
  have : t ≠ e:=fun he=>h (by rw [he])
  simp [dD,lk,this]
theorem lk_dD_some {d : Option Nat} {v : V} {t : Nat} (h : lk (dD d v) t ≠ none) : d = some t:=by
 by_cases hd : d = some t
 ·exact hd
 ·exact absurd (lk_dD hd) h
def YieldS (P : Program) (gl : Fr) (n : Nat) (ops : Array Oper) (i : Nat) (o : Oper) (F : FF) (H : HH) (rd ids : Nat→Prop) (v : V) (W : Hp) : Prop:=
 ∀ {bs : Nat} {fr : Fr} {h : Hp} {G : GMap} {M : MMap} {a : Act} {w : World} {Q : Exit→Act→World→Prop} {K' : Act→World→Prop},R bs n gl G M fr h a w→(∀ t ∈ o.looksAt ops,lk fr t = F t)→(∀ b,rd b→lk h b = H b)→(∀ b,ids b→freshGen M b = 0)→
  (∀ rv G' M' w',R bs n gl G' M' (putF fr o.dst v) (W ++ h) (a.put o.dst rv) w'→Ext G M w G' M' w'→(∀ b,¬ ids b→freshGen M b = 0→freshGen M' b = 0)→K' (a.put o.dst rv) w')→wpOp P ops Q i K' a w
structure SlotInd (ops : Array Oper) (x y : Oper) : Prop where
 xy : ∀ t ∈ y.looksAt ops,x.dst ≠ some t
 yx : ∀ t ∈ x.looksAt ops,y.dst ≠ some t
 dd : ∀ t,x.dst = some t→y.dst ≠ some t
structure HeapInd (W W' : Hp) (rd rd' : Nat→Prop) : Prop where
 ww : ∀ b,lk W b = none∨lk W' b = none
 wr : ∀ b,rd' b→lk W b = none
 rw : ∀ b,rd b→lk W' b = none
section
variable {P : Program} {gl : Fr} {bs n : Nat} {ops : Array Oper} {vs : Nat→V} {Ws : Nat→Hp} {rd ids : Nat→Nat→Prop} {F0 : FF} {H0 : HH}
def Dv (ops : Array Oper) (vs : Nat→V) (i : Nat) : Fr:=match ops[i]? with
 | some o=>dD o.dst (vs i)
 | none=>[]
def all1 : Nat→Bool:=fun _=>true
theorem region_any (hback : ckBack ops = true)
  (hy : ∀ i o,ops[i]? = some o→YieldS P gl n ops i o (st (Dv ops vs) all1 F0 i) (st Ws all1 H0 i) (rd i) (ids i) (vs i) (Ws i))
  (hslot : ∀ i j oi oj,i < j→ops[i]? = some oi→ops[j]? = some oj→bd (ancs ops.toList []) i j = false→SlotInd ops oi oj)
  (hheap : ∀ i j,i < j→j < ops.size→bd (ancs ops.toList []) i j = false→HeapInd (Ws i) (Ws j) (rd i) (rd j))
  (hids : ∀ i j b,i ≠ j→ids i b→¬ ids j b) {Q : Exit→Act→World→Prop} {G0 : GMap} {M0' : MMap} {w0 : World}
  (hfin : ∀ fr' h' G' M' a' w',lk fr' = st (Dv ops vs) all1 F0 ops.size→lk h' = st Ws all1 H0 ops.size→R bs n gl G' M' fr' h' a' w'→Ext G0 M0' w0 G' M' w'→
   (∀ b,(∀ i,¬ ids i b)→freshGen M0' b = 0→freshGen M' b = 0)→Q .normal a' w') :
  ∀ (fuel : Nat) (listed : Array Bool) (fr : Fr) (h : Hp) (G : GMap) (M : MMap) (a : Act) (w : World),listed.size = ops.size→(∀ x y,listed.getD x false = true→bnds ops x y = true→listed.getD y false = true)→
   lk fr = st (Dv ops vs) (fun j=>listed.getD j false) F0 ops.size→lk h = st Ws (fun j=>listed.getD j false) H0 ops.size→R bs n gl G M fr h a w→Ext G0 M0' w0 G M w→
   (∀ i,listed.getD i false = false→∀ b,ids i b→freshGen M b = 0)→(∀ b,(∀ i,¬ ids i b)→freshGen M0' b = 0→freshGen M b = 0)→unl ops.size listed ≤ fuel→wpAny P .any ops Q fuel listed a w:=by
 have done : ∀ (listed : Array Bool) (fr : Fr) (h : Hp) (G : GMap) (M : MMap) (a : Act) (w : World),listed.size = ops.size→(∀ i,i < ops.size→listed.getD i true = true)→
   lk fr = st (Dv ops vs) (fun j=>listed.getD j false) F0 ops.size→lk h = st Ws (fun j=>listed.getD j false) H0 ops.size→R bs n gl G M fr h a w→Ext G0 M0' w0 G M w→
   (∀ b,(∀ i,¬ ids i b)→freshGen M0' b = 0→freshGen M b = 0)→Q .normal a w:=by
  intro listed fr h G M a w hs hal hf hh hr hx hfr
  have hl : ∀ j,j < ops.size→all1 j = (fun j=>listed.getD j false) j:=fun j hj=>by
   have:=hal j hj
   have hjs : j < listed.size:=by omega
   simp [hjs] at this
   simp [all1,hjs,this]
  exact hfin fr h G M a w (by rw [hf,st_congr ops.size hl]) (by rw [hh,st_congr ops.size hl]) hr hx hfr
 intro fuel
 induction fuel with
 | zero=>
  intro listed fr h G M a w hs hdc hf hh hr hx hfi hfr hu
  have hal:=unl_zero (by omega : unl ops.size listed = 0)
  refine ⟨?_,done listed fr h G M a w hs hal hf hh hr hx hfr⟩
  cases hrd : Region.ready .any ops listed with
  | nil=>rfl
  | cons i r=>
   have hm : i ∈ Region.ready .any ops listed:=by rw [hrd]; exact List.mem_cons_self
   obtain ⟨h1,o,h2,-⟩:=mem_ready.1 hm
   rw [hal i (Array.getElem?_eq_some_iff.1 h2).1] at h1; cases h1
 | succ fuel ihf=>
  intro listed fr h G M a w hs hdc hf hh hr hx hfi hfr hu
  refine ⟨fun hn=>?_,fun i hir=>?_⟩
  ·refine done listed fr h G M a w hs (fun i hi'=>?_) hf hh hr hx hfr
   cases hl : listed.getD i true with
   | true=>rfl
   | false=>exact absurd hn (ready_ex hback hs hi' hl)
  ·obtain ⟨hun,o,ho,hall⟩:=mem_ready.1 hir
   have his : i < ops.size:=(Array.getElem?_eq_some_iff.1 ho).1
   have hil : i < listed.size:=by omega
   have hunf : listed.getD i false = false:=by
    simp [hil] at hun
    simp [hil,hun]
   have hpre : ∀ y,bnds ops i y = true→listed.getD y false = true:=fun y hy'=>bnds_listed hir hy'
   have below : ∀ j,bd (ancs ops.toList []) j i = true→listed.getD j false = true:=fun j hb=>bd_spec hb (fun x=>listed.getD x false = true) hdc hpre
   have above : ∀ j,listed.getD j false = true→bd (ancs ops.toList []) i j = false:=by
    intro j hj
    cases hb : bd (ancs ops.toList []) i j with
    | false=>rfl
    | true=>
     have:=bd_spec hb (fun x=>listed.getD x false = true) hdc (fun y hy'=>hdc j y hj hy')
     rw [hunf] at this; cases this
   have hdv : ∀ j,Dv ops vs j = match ops[j]? with | some oj=>dD oj.dst (vs j) | none=>[]:=fun j=>rfl
   have hlist : ∀ j,listed.getD j false = true→j < ops.size:=fun j hj=>by
    rcases Nat.lt_or_ge j listed.size with h' | h'
    ·omega
    ·simp [Array.getElem?_eq_none h'] at hj
   have hset : ∀ j,j ≠ i→(listed.setIfInBounds i true).getD j false = listed.getD j false:=fun j hj=>getD_set_ne false (Ne.symm hj)
   have hseti : (listed.setIfInBounds i true).getD i false = true:=by simp [hil]
   refine hy i o ho hr (fun t ht=>?_) (fun b hb=>?_) (fun b hb=>hfi i hunf b hb) (fun rv G' M' w' hr' hx' hf'=>?_)
   ·rw [hf]
    rw [st_above (i:=i) ops.size (by omega) fun j h1 h2 h3=>?_]
    ·refine st_below i fun j hj h3=>?_
     have hoj : ops[j]? = some ops[j]:=Array.getElem?_eq_getElem (by omega)
     rw [hdv,hoj] at h3
     have hd:=lk_dD_some h3
     cases hb : bd (ancs ops.toList []) j i with
     | true=>exact below j hb
     | false=>exact absurd hd ((hslot j i _ _ hj hoj ho hb).xy t ht)
    ·have hoj : ops[j]? = some ops[j]:=Array.getElem?_eq_getElem h2
     rw [hdv,hoj] at h3
     have hd:=lk_dD_some h3
     cases hl : listed.getD j false with
     | false=>rfl
     | true=>
      have hji : i ≠ j:=fun e=>by rw [← e,hunf] at hl; cases hl
      exact absurd hd ((hslot i j _ _ (by omega) ho hoj (above j hl)).yx t ht)
   ·rw [hh]
    rw [st_above (i:=i) ops.size (by omega) fun j h1 h2 h3=>?_]
    ·refine st_below i fun j hj h3=>?_
     cases hb' : bd (ancs ops.toList []) j i with
     | true=>exact below j hb'
     | false=>exact absurd ((hheap j i hj his hb').wr b hb) h3
    ·cases hl : listed.getD j false with
     | false=>rfl
     | true=>
      have hji : i ≠ j:=fun e=>by rw [← e,hunf] at hl; cases hl
      exact absurd ((hheap i j (by omega) h2 (above j hl)).rw b hb) h3
   ·refine ihf (listed.setIfInBounds i true) _ _ G' M' _ w' (by simpa using hs) ?_ ?_ ?_ hr' (hx.trans hx') ?_ ?_ ?_
    ·intro x y h1 h2
     by_cases hy' : y = i
     ·subst hy'; exact hseti
     ·rw [hset y hy']
      by_cases hxi : x = i
      ·subst hxi; exact hpre y h2
      ·rw [hset x hxi] at h1; exact hdc x y h1 h2
    ·rw [putF_dD,lk_append,hf]
     have : dD o.dst (vs i) = Dv ops vs i:=by rw [hdv,ho]
     rw [this]
     refine (st_put (L:=fun j=>listed.getD j false) hunf hseti hset ops.size his fun j h1 h2 h3 t=>?_).symm
     have hoj : ops[j]? = some ops[j]:=Array.getElem?_eq_getElem h2
     have hI:=hslot i j _ _ h1 ho hoj (above j h3)
     rw [hdv,hdv,ho,hoj]
     by_cases hd : o.dst = some t
     ·exact .inr (lk_dD (hI.dd t hd))
     ·exact .inl (lk_dD hd)
    ·rw [lk_append,hh]
     exact (st_put (L:=fun j=>listed.getD j false) hunf hseti hset ops.size his fun j h1 h2 h3 t=>(hheap i j h1 h2 (above j h3)).ww t).symm
    ·intro j hj b hb
     have hji : j ≠ i:=fun e=>by rw [e,hseti] at hj; cases hj
     rw [hset j hji] at hj
     exact hf' b (fun hc=>hids i j b (Ne.symm hji) hc hb) (hfi j hj b hb)
    ·intro b hb h0
     exact hf' b (hb i) (hfr b hb h0)
    ·have:=unl_set hs his hun
     omega
end
end Go.Proofs.YtcdfifbabhfknaaDoor
namespace Go.Proofs.YtcdfifbabhfknaaDoor
open Go
abbrev Y:=V × Hp × List Nat
def gd {α : Type} (c : Bool) (x : Option α) : Option α:=match c with
 | true=>x
 | false=>none
def eb {α β : Type} (x : Option α) (f : α→Option β) : Option β:=match x with
 | some v=>f v
 | none=>none
theorem gd_some {α : Type} {c : Bool} {x : Option α} {y : α} (h : gd c x = some y) : c = true∧x = some y:=by
 cases c
 ·cases h
 ·exact ⟨rfl,h⟩
theorem eb_some {α β : Type} {x : Option α} {f : α→Option β} {y : β} (h : eb x f = some y) : ∃ v,x = some v∧f v = some y:=by
 cases x with
 | none=>cases h
 | some v=>exact ⟨v,rfl,h⟩
def V.partOkB (ag : Bool) (off n : Nat) (x : V) : Bool:=match ag with
 | true=>decide (off + n ≤ x.cells.length)
 | false=>decide (off < x.cells.length)
theorem V.partOkB_iff {ag : Bool} {off n : Nat} {x : V} : V.partOkB ag off n x = true↔V.partOk ag off n x:=by cases ag <;> simp [V.partOkB,V.partOk]
def V.putOkB (off n : Nat) (v x : V) : Bool:=decide (v.cells.length = n) && v.cellsOk && match x with
 | .agg cs=>decide (off + n ≤ cs.length)
 | x=>decide (off = 0) && decide (n = 1) && x.isCell && v.isCell
theorem V.putOkB_iff {off n : Nat} {v x : V} : V.putOkB off n v x = true↔V.putOk off n v x:=by cases x <;> simp [V.putOkB,V.putOk,and_assoc]
def evF (gl : Fr) (F : FF) : IOpd→Option V
 | .t n=>F n
 | .g n=>lk gl n
 | .c v=>some v
 | .f f=>some (.fn f [] [])
theorem evF_lk (gl fr : Fr) (x : IOpd) : evF gl (lk fr) x = ev gl fr x:=by cases x <;> rfl
def evsF (gl : Fr) (F : FF) : List IOpd→Option (List V)
 | []=>some []
 | x :: r=>match evF gl F x,evsF gl F r with
  | some v,some vs=>some (v :: vs)
  | _,_=>none
theorem evsF_lk (gl fr : Fr) : ∀ l,evsF gl (lk fr) l = evs gl fr l
 | []=>rfl
 | x :: r=>by simp only [evsF,evs,evF_lk,evsF_lk gl fr r]; rfl
def evpsF (gl : Fr) (F : FF) : List (Nat × Nat × IOpd)→Option (List (Nat × Nat × V))
 | []=>some []
 | (o,s,x) :: r=>match evF gl F x,evpsF gl F r with
  | some v,some vs=>some ((o,s,v) :: vs)
  | _,_=>none
theorem evpsF_lk (gl fr : Fr) : ∀ l,evpsF gl (lk fr) l = evps gl fr l
 | []=>rfl
 | (o,s,x) :: r=>by simp only [evpsF,evps,evF_lk,evpsF_lk gl fr r]; rfl
def fillO (cells : List V) : List (Nat × Nat × V)→Option (List V)
 | []=>some cells
 | (off,sz,v) :: r=>gd (decide (v.cells.length = sz) && v.cellsOk && decide (off + sz ≤ cells.length)) (fillO (cells.take off ++ v.cells ++ cells.drop (off + sz)) r)
def binO (op : BinOp) : V→V→Option V
 | .int k a,.int k' b=>
  match op with
  | .shl=>gd (decide (0 ≤ b)) (some (.int k (k.wrap (a * 2 ^ (min b.toNat k.bits)))))
  | .shr=>gd (decide (0 ≤ b)) (some (.int k (a.fdiv (2 ^ (min b.toNat k.bits)))))
  | .add=>gd (decide (k = k')) (some (.int k (k.wrap (a + b))))
  | .sub=>gd (decide (k = k')) (some (.int k (k.wrap (a - b))))
  | .mul=>gd (decide (k = k')) (some (.int k (k.wrap (a * b))))
  | .quo=>gd (decide (k = k') && !decide (b = 0)) (some (.int k (k.wrap (a.tdiv b))))
  | .rem=>gd (decide (k = k') && !decide (b = 0)) (some (.int k (a.tmod b)))
  | .eql=>gd (decide (k = k')) (some (.bool (decide (a = b))))
  | .neq=>gd (decide (k = k')) (some (.bool (!decide (a = b))))
  | .lss=>gd (decide (k = k')) (some (.bool (decide (a < b))))
  | .leq=>gd (decide (k = k')) (some (.bool (decide (a ≤ b))))
  | .gtr=>gd (decide (k = k')) (some (.bool (decide (b < a))))
  | .geq=>gd (decide (k = k')) (some (.bool (decide (b ≤ a))))
  | .and=>gd (decide (k = k')) (some (.int k (bitsI .and k a b)))
  | .or=>gd (decide (k = k')) (some (.int k (bitsI .or k a b)))
  | .xor=>gd (decide (k = k')) (some (.int k (bitsI .xor k a b)))
  | .andNot=>gd (decide (k = k')) (some (.int k (bitsI .andNot k a b)))
 | .str a,.str b=>
  match op with
  | .add=>gd (decide (a.length + b.length ≤ 4294967296)) (some (.str (a ++ b)))
  | .eql=>some (.bool (decide (a = b)))
  | .neq=>some (.bool (!decide (a = b)))
  | .lss=>some (.bool (Op.bytesLess a b))
  | .gtr=>some (.bool (!(Op.bytesLess a b || decide (a = b))))
  | .leq=>some (.bool (Op.bytesLess a b || decide (a = b)))
  | .geq=>some (.bool (!Op.bytesLess a b))
  | _=>none
 | _,_=>none
def unO (op : UnOp) : V→Option V
 | .bool b=>match op with
  | .not=>some (.bool !b)
  | _=>none
 | .int k a=>match op with
  | .neg=>some (.int k (k.wrap (0 - a)))
  | .xor=>some (.int k (bitsI .xor k (if k.signed then -1 else k.max) a))
  | _=>none
 | _=>none
def eqOkB : List V→List V→Bool
 | [],[]=>true
 | .int k _ :: r,.int k' _ :: s=>decide (k = k') && eqOkB r s
 | _,_=>false
theorem eqOkB_iff : ∀ {a b : List V},eqOkB a b = true→eqOk a b
 | [],[],_=>trivial
 | .int k _ :: r,.int k' _ :: s,h=>by
  simp only [eqOkB,Bool.and_eq_true,decide_eq_true_eq] at h
  exact ⟨h.1,eqOkB_iff h.2⟩
def elemsO (H : HH) (sz : Nat) : V→Option (List V × List Nat)
 | .sl xs _=>gd (xs.all fun x=>decide (x.cells.length = sz)) (some (xs,[]))
 | .ref b g off len _=>match H b with
  | some (.row g' sz' es)=>gd (decide (g' = g) && decide (sz' = sz) && decide (off + len ≤ es.length)) (some ((es.drop off).take len,[b]))
  | _=>none
 | _=>none
def boundO (gl : Fr) (F : FF) (d : Nat) : Option IOpd→Option Nat
 | none=>some d
 | some x=>match evF gl F x with
  | some (.int _ n)=>gd (decide (0 ≤ n)) (some n.toNat)
  | _=>none
def boundMO (gl : Fr) (F : FF) : Option IOpd→Option (Option Nat)
 | none=>some none
 | some x=>match evF gl F x with
  | some (.int _ n)=>gd (decide (0 ≤ n)) (some (some n.toNat))
  | _=>none
def maxOkB (u len : Nat) : Option Nat→Bool
 | none=>true
 | some m=>decide (u ≤ m) && decide (m ≤ len)
theorem maxOkB_iff {u len : Nat} {m : Option Nat} : maxOkB u len m = true↔maxOk u len m:=by cases m <;> simp [maxOkB,maxOk]
def oneCells (sz : Nat) (z : List V) : V:=match sz with
 | 1=>z.getD 0 .undef
 | _=>.agg z
def sameK : V→V→Option Bool
 | .str a,.str b=>some (decide (a = b))
 | .int k a,.int k' b=>bif decide (k = k') then some (decide (a = b)) else none
 | _,_=>none
def findV (k : V) : List (V × V)→Nat→Option (Option (Nat × V))
 | [],_=>some none
 | e :: es,i=>match sameK k e.1 with
  | some true=>some (some (i,e.2))
  | some false=>findV k es (i + 1)
  | none=>none
def idxOf (n : Int) : List UInt8→Nat→Int
 | [],_=>-1
 | b :: r,i=>bif decide ((b.toNat : Int) = n) then i else idxOf n r (i + 1)
def keyFits : Option (Option IntKind)→V→Bool
 | some (some k),.int k' _=>decide (k' = k)
 | some none,.str _=>true
 | _,_=>false
def NOp.pure : NOp→Bool
 | .bad | .isnil .. | .lookup .. | .idxByte .. | .add64 .. | .nchk .. | .mentry ..=>true
 | _=>false
def evNF (gl : Fr) (F : FF) (x : IOpd) : Option V:=(evF gl F x).map V.norm
theorem evNF_lk (gl fr : Fr) (x : IOpd) : evNF gl (lk fr) x = evN gl fr x:=by unfold evNF evN; rw [evF_lk]
def nop (gl : Fr) (gf : Nat→Nat) (id : Nat) (F : FF) (H : HH) : NOp→Option Y
 | .bad=>none
 | .isnil neg x=>match evF gl F x with
  | some .nil=>some (.bool (!neg),[],[])
  | some (.sl (_ :: _) _)=>some (.bool neg,[],[])
  | some (.ref b g _ (_ + 1) _)=>match H b with
   | some (.row g' _ _)=>gd (decide (g' = g)) (some (.bool neg,[],[b]))
   | _=>none
  | _=>none
 | .mkmap=>some (.own id (gf id),[(id,.map (gf id) [])],[])
 | .lookup kd ok z m k=>match evF gl F m,evF gl F k with
  | some (.own b g),some kv=>match H b with
   | some (.map g' es)=>gd (decide (g' = g) && keyFits kd kv) (match findV kv es 0 with
    | some (some (_,v))=>some (bif ok then .tup [v,.bool true] else v,[],[b])
    | some none=>some (bif ok then .tup [z,.bool false] else z,[],[b])
    | none=>none)
   | _=>none
  | some .nilmap,some kv=>gd (keyFits kd kv) (some (bif ok then .tup [z,.bool false] else z,[],[]))
  | _,_=>none
 | .mapup kd m k v=>match evF gl F m,evF gl F k,evF gl F v with
  | some (.own b g),some kv,some vv=>match H b with
   | some (.map g' es)=>gd (decide (g' = g) && keyFits kd kv) (match findV kv es 0 with
    | some (some (i,_))=>some (.undef,[(b,.map g (es.set i (kv,vv)))],[b])
    | some none=>some (.undef,[(b,.map g (es ++ [(kv,vv)]))],[b])
    | none=>none)
   | _=>none
  | _,_,_=>none
 | .srange x=>match evF gl F x with
  | some (.str s)=>some (.own id (gf id),[(id,.siter (gf id) s 0)],[])
  | _=>none
 | .snext x=>match evF gl F x with
  | some (.own b g)=>match H b with
   | some (.siter g' s pos)=>gd (decide (g' = g)) (bif decide (pos < s.length) then
     some (.tup [.bool true,.int .i64 pos,.int .i32 (Utf8.decode ⟨s.toArray⟩ pos).1],[(b,.siter g s (pos + (Utf8.decode ⟨s.toArray⟩ pos).2))],[b])
    else some (.tup [.bool false],[(b,.siter g s pos)],[b]))
   | _=>none
  | _=>none
 | .mrange x=>match evF gl F x with
  | some (.own b g)=>match H b with
   | some (.map g' es)=>gd (decide (g' = g)) (some (.own id (gf id),[(id,.miter (gf id) (.own b g) es.length [])],[b]))
   | _=>none
  | _=>none
 | .mnext _=>none
 | .mentry x=>match evF gl F x with
  | some (.own b g)=>match H b with
   | some (.miter g' (.own b2 g2) n seen)=>match H b2 with
    | some (.map g3 es)=>match seen.getLast? with
     | some i=>gd (decide (g' = g) && decide (g3 = g2) && decide (es.length = n) && decide (i < n)) (some (.tup [(es.getD i (.undef,.undef)).1,(es.getD i (.undef,.undef)).2],[],[b,b2]))
     | none=>none
    | _=>none
   | _=>none
  | _=>none
 | .nchk x=>match evF gl F x with
  | some (.ptr b g i o)=>some (.ptr b g i o,[],[])
  | some (.iptr x o)=>some (.iptr x o,[],[])
  | _=>none
 | .idxByte s c=>match evF gl F s,evF gl F c with
  | some (.str l),some (.int .u8 n)=>gd (decide (0 ≤ n) && decide (n < 256)) (some (.int .i64 (idxOf n l 0),[],[]))
  | _,_=>none
 | .add64 x y z=>match evF gl F x,evF gl F y,evF gl F z with
  | some (.int .u64 a),some (.int .u64 b),some (.int .u64 c)=>gd (decide (0 ≤ a) && decide (0 ≤ b) && decide (0 ≤ c) && decide (c ≤ 1)) (some (.tup [.int .u64 ((a + b + c) % 18446744073709551616),.int .u64 ((a + b + c) / 18446744073709551616)],[],[]))
  | _,_,_=>none
 | .appc sz bytes z x y=>match evNF gl F x,evNF gl F y with
  | some (.ref b g off len (some c)),some vy=>match H b with
   | some (.row g' sz' es)=>eb (elemsO H sz vy) fun ys=>gd (decide (g' = g) && decide (sz' = sz) && decide (off + len ≤ es.length) && decide (bytes ≤ 256) && decide (z.length = sz) && decide (0 < ys.1.length) && decide (len + ys.1.length ≤ 274877906944))
     (match decide (len + ys.1.length ≤ c) with
     | true=>some (.ref b g off (len + ys.1.length) (some c),[(b,.row g sz (es.take (off + len) ++ ys.1 ++ es.drop (off + len + ys.1.length)))],b :: ys.2)
     | false=>some (.ref id (gf id) 0 (len + ys.1.length) none,[(id,.row (gf id) sz ((es.drop off).take len ++ ys.1))],b :: ys.2))
   | _=>none
  | _,_=>none
 | .cpy sz x y=>match evNF gl F x,evNF gl F y with
  | some (.ref b g off len _),some vy=>match H b with
   | some (.row g' sz' es)=>eb (elemsO H sz vy) fun ys=>gd (decide (g' = g) && decide (sz' = sz) && decide (off + len ≤ es.length))
     (some (.int .i64 ((min ys.1.length len : Nat) : Int),[(b,.row g sz (es.take off ++ ys.1.take (min ys.1.length len) ++ es.drop (off + min ys.1.length len)))],b :: ys.2))
   | _=>none
  | _,_=>none
def eop (gl : Fr) (gf : Nat→Nat) (id : Nat) (F : FF) (H : HH) : IOp→Option Y
  | .mv x=>eb (evF gl F x) fun v=>some (v,[],[])
  | .pick c a b=>match evF gl F c with
    | some (.bool t)=>(match t with
      | true=>eb (evF gl F a) fun v=>some (v,[],[])
      | false=>eb (evF gl F b) fun v=>some (v,[],[]))
    | _=>none
  | .box x=>eb (evF gl F x) fun v=>gd v.cellsOk (some (.ptr id (gf id) 0 0,[(id,.row (gf id) v.cells.length [v])],[]))
  | .alloc z=>gd z.cellsOk (some (.ptr id (gf id) 0 0,[(id,.row (gf id) z.cells.length [z])],[]))
  | .build z ps=>eb (evpsF gl F ps) fun l=>eb (fillO z l) fun cs=>some (.agg cs,[],[])
  | .buildSl sz len z ps=>eb (evpsF gl F ps) fun l=>eb (fillO z l) fun cs=>some (.ref id (gf id) 0 len (some len),[(id,.row (gf id) sz (groups sz len cs))],[])
  | .load ag n a=>match evF gl F a with
    | some (.iptr x off)=>gd (V.partOkB ag off n x) (some (V.partV ag off n x,[],[]))
    | some (.ptr b g i off)=>match H b with
      | some (.row g' _ es)=>gd (decide (g' = g) && decide (i < es.length) && V.partOkB ag off n (es.getD i .undef)) (some (V.partV ag off n (es.getD i .undef),[],[b]))
      | _=>none
    | _=>none
  | .store n a x=>match evF gl F a,evF gl F x with
    | some (.ptr b g i off),some v=>match H b with
      | some (.row g' sz es)=>gd (decide (g' = g) && decide (i < es.length) && V.putOkB off n v (es.getD i .undef)) (some (.undef,[(b,.row g sz (es.set i (V.putV off n v (es.getD i .undef))))],[b]))
      | _=>none
    | _,_=>none
  | .bin op x y=>match evF gl F x,evF gl F y with
    | some a,some b=>eb (binO op a b) fun v=>some (v,[],[])
    | _,_=>none
  | .eqs neg n x y=>match evF gl F x,evF gl F y with
    | some (.agg a),some (.agg b)=>gd (decide (a.length = n) && decide (b.length = n) && eqOkB a b) (some (.bool (match neg with | true=>!(eqCells a b) | false=>eqCells a b),[],[]))
    | _,_=>none
  | .beq neg x y=>match evF gl F x,evF gl F y with
    | some (.bool a),some (.bool b)=>some (.bool (match neg with | true=>a != b | false=>a == b),[],[])
    | _,_=>none
  | .un op x=>eb (evF gl F x) fun a=>eb (unO op a) fun v=>some (v,[],[])
  | .conv k x=>match evF gl F x with
    | some (.int _ n)=>some (.int k (k.wrap n),[],[])
    | _=>none
  | .mkfn f a b=>match evsF gl F a,evsF gl F b with
    | some va,some vb=>some (.fn f va vb,[],[])
    | _,_=>none
  | .mksl z sz bytes l c=>match evF gl F l,evF gl F c with
    | some (.int _ a),some (.int _ b)=>gd (decide (0 ≤ a) && decide (a ≤ b) && decide (b ≤ 549755813888) && decide (bytes ≤ 256) && decide (z.length = sz) && z.all V.isCell)
        (some (.ref id (gf id) 0 a.toNat (some b.toNat),[(id,.row (gf id) sz (List.replicate a.toNat (oneCells sz z)))],[]))
    | _,_=>none
  | .slice sz x lo hi mx=>match evNF gl F x with
    | some (.sl xs cap)=>eb (boundO gl F 0 lo) fun l=>eb (boundO gl F xs.length hi) fun u=>eb (boundMO gl F mx) fun m=>
        gd (decide (l ≤ u) && decide (u ≤ xs.length) && (decide (l = 0) || decide (u = l) || decide ((xs.getD l .undef).cells.length = sz)) && maxOkB u xs.length m) (some (.sl ((xs.drop l).take (u - l)) (maxCap l cap m),[],[]))
    | some (.ref b g off len cap)=>match H b with
      | some (.row g' sz' _)=>gd (decide (g' = g) && decide (sz' = sz)) (eb (boundO gl F 0 lo) fun l=>eb (boundO gl F len hi) fun u=>eb (boundMO gl F mx) fun m=>
          gd (decide (l ≤ u) && decide (u ≤ len) && maxOkB u len m) (some (.ref b g (off + l) (u - l) (maxCap l cap m),[],[b])))
      | _=>none
    | _=>none
  | .sliceS x lo hi=>match evF gl F x with
    | some (.str s)=>eb (boundO gl F 0 lo) fun l=>eb (boundO gl F s.length hi) fun u=>gd (decide (l ≤ u) && decide (u ≤ s.length)) (some (.str ((s.drop l).take (u - l)),[],[]))
    | _=>none
  | .fieldA off x=>match evF gl F x with
    | some (.iptr y o)=>some (.iptr y (o + off),[],[])
    | some (.ptr b g i o)=>some (.ptr b g i (o + off),[],[])
    | _=>none
  | .field ag off n x=>match evF gl F x with
    | some (.agg cs)=>gd (V.partOkB ag off n (.agg cs)) (some (V.partV ag off n (.agg cs),[],[]))
    | _=>none
  | .idxA sz x i=>match evF gl F x,evF gl F i with
    | some (.sl xs _),some (.int _ j)=>gd (decide (0 ≤ j) && decide (j < xs.length) && decide ((xs.getD j.toNat .undef).cells.length = sz)) (some (.iptr (xs.getD j.toNat .undef) 0,[],[]))
    | some (.ref b g off len _),some (.int _ j)=>match H b with
      | some (.row g' sz' _)=>gd (decide (g' = g) && decide (sz' = sz) && decide (0 ≤ j) && decide (j < len)) (some (.ptr b g (off + j.toNat) 0,[],[b]))
      | _=>none
    | _,_=>none
  | .idxP len sz x i=>match evF gl F x,evF gl F i with
    | some (.iptr y o),some (.int _ j)=>gd (decide (0 ≤ j) && decide (j < len)) (some (.iptr y (o + j.toNat * sz),[],[]))
    | some (.ptr b g k o),some (.int _ j)=>gd (decide (0 ≤ j) && decide (j < len)) (some (.ptr b g k (o + j.toNat * sz),[],[]))
    | _,_=>none
  | .idxV ag len sz x i=>match evF gl F x,evF gl F i with
    | some (.agg cs),some (.int _ j)=>gd (decide (0 ≤ j) && decide (j < len) && V.partOkB ag (j.toNat * sz) sz (.agg cs)) (some (V.partV ag (j.toNat * sz) sz (.agg cs),[],[]))
    | _,_=>none
  | .idxS x i=>match evF gl F x,evF gl F i with
    | some (.str s),some (.int _ j)=>gd (decide (0 ≤ j) && decide (j < s.length)) (some (.int .u8 (s.getD j.toNat 0).toNat,[],[]))
    | _,_=>none
  | .len x=>match evNF gl F x with
    | some (.sl xs _)=>some (.int .i64 xs.length,[],[])
    | some (.ref _ _ _ len _)=>some (.int .i64 len,[],[])
    | _=>none
  | .lenS x=>match evF gl F x with
    | some (.str s)=>some (.int .i64 s.length,[],[])
    | _=>none
  | .lenK n=>some (.int .i64 n,[],[])
  | .cap x=>match evNF gl F x with
    | some (.sl _ (some c))=>some (.int .i64 c,[],[])
    | some (.ref _ _ _ _ (some c))=>some (.int .i64 c,[],[])
    | _=>none
  | .app sz bytes z x y=>match evNF gl F x,evNF gl F y with
    | some (.sl xs cap), some vy => eb (elemsO H sz vy) fun ys => gd ((xs.all fun x => decide (x.cells.length = sz)) && decide (cap = some xs.length) && decide (bytes ≤ 256) && decide (z.length = sz) && decide (xs.length + ys.1.length ≤ 274877906944))
          (match ys.1 with
          | []=>some (.sl xs cap,[],ys.2)
          | _ :: _=>some (.ref id (gf id) 0 (xs.length + ys.1.length) none,[(id,.row (gf id) sz (xs ++ ys.1))],ys.2))
    | some (.ref b g off len _),some vy=>match H b with
      | some (.row g' sz' es)=>eb (elemsO H sz vy) fun ys=>gd (decide (g' = g) && decide (sz' = sz) && decide (off + len ≤ es.length) && decide (bytes ≤ 256) && decide (z.length = sz) && decide (len + ys.1.length ≤ 274877906944))
          (some (.ref b (gf b) 0 (len + ys.1.length) none,[(b,.row (gf b) sz ((es.drop off).take len ++ ys.1))],b :: ys.2))
      | _=>none
    | _,_=>none
  | .copy _ _ _=>none
  | .mm mx x y=>match evF gl F x,evF gl F y with
    | some (.int k a),some (.int _ b)=>some (.int k (match mx with | true=>max a b | false=>min a b),[],[])
    | _,_=>none
  | .call _ _=>none
  | .extract x i=>match evF gl F x with
    | some (.tup vs)=>eb vs[i]? fun v=>some (v,[],[])
    | _=>none
  | .cvs x=>match evF gl F x with
    | some (.str s)=>some (.str s,[],[])
    | _=>none
  | .b2s x=>eb (evNF gl F x) fun vx=>eb (elemsO H 1 vx) fun es=>eb (bytesOf es.1) fun s=>some (.str s,[],es.2)  | .n x=>nop gl gf id F H x
end Go.Proofs.YtcdfifbabhfknaaDoor
