/- Lemmas. Conditions: none. -/
import Derived.Test.YtlmniacemoohpaaGreatDoorBase6
import Derived.MapKept
import Derived.Maps.RangeRun
set_option linter.all false
namespace Go.Proofs.YtlmniacemoohpaaGreatDoor
section
open Go
abbrev FF:=Nat->Option V
abbrev HH:=Nat->Option Blk
def qt7 (ops:Array Oper) (j i:Nat):Bool:=match ops[j]? with
 | some o=>o.after.any fun e=>Region.binds .any e && e.on == i
 | none=>false
def qjd (ops:Array Oper):Bool:=(List.range ops.size).all fun j=>match ops[j]? with
 | some o=>o.after.all fun e=>!(Region.binds .any e) || decide (e.on < j)
 | none=>true
theorem qhg {ops:Array Oper} {listed:Array Bool} {j i:Nat} (hj:j ∈ Region.ready .any ops listed) (hb:qt7 ops j i = true):listed.getD i false = true:=by
 obtain ⟨-,o,ho,hall⟩:=mem_ready.1 hj;simp only [qt7,ho] at hb;obtain ⟨e,he,hb⟩:=Array.any_eq_true'.1 hb;simp only [Bool.and_eq_true,beq_iff_eq] at hb;have:=hall e he hb.1;rw [hb.2] at this; exact this
def unl (sz:Nat) (listed:Array Bool):Nat:=(List.range sz).countP fun i=>!listed.getD i true
theorem qo7 {p q:Nat->Bool} {i:Nat}:∀ (l:List Nat),(∀ j ∈ l,q j = true->p j = true)->i ∈ l->p i = true->q i = false->l.countP q < l.countP p
 | [],_,h,_,_=>by cases h
 | x :: l,h1,h2,h3,h4=>by
  have hle:l.countP q≤l.countP p:=List.countP_mono_left fun j hj=>h1 j (List.mem_cons_of_mem _ hj);simp only [List.countP_cons];by_cases hx:i = x
  ·subst hx;rw [h3,h4]; simp; omega
  ·have hi:i ∈ l:=by
    rcases List.mem_cons.1 h2 with h | h
    ·exact absurd h hx
    ·exact h
   have:=qo7 l (fun j hj=>h1 j (List.mem_cons_of_mem _ hj)) hi h3 h4;have hxx:=h1 x (List.mem_cons_self);cases hq:q x <;> cases hp:p x
   ·simp; omega
   ·simp; omega
   ·rw [hxx hq] at hp; cases hp
   ·simp; omega
theorem qsb {sz:Nat} {listed:Array Bool} {i:Nat} (hs:listed.size = sz) (hi:i < sz) (hu:listed.getD i true = false):unl sz (listed.setIfInBounds i true) < unl sz listed:=by
 refine qo7 (i:=i) _ (fun j _ hj=>?_) (List.mem_range.2 hi) (by rw [hu]; rfl) ?_
 ·by_cases hji:i = j
  ·subst hji; rw [hu]; rfl
  ·rw [getD_set_ne true hji] at hj; exact hj
 ·have:i < listed.size:=by omega
  simp [this]
theorem qon {sz:Nat} {listed:Array Bool} (h:unl sz listed = 0):∀ i,i < sz->listed.getD i true = true:=by
 intro i hi;have:=List.countP_eq_zero.1 h i (List.mem_range.2 hi);simpa using this
theorem qpv {listed:Array Bool} {i:Nat} (h:listed.getD i false = true):listed.getD i true = true:=by
 rcases Nat.lt_or_ge i listed.size with h' | h'
 ·simp [h'] at h ⊢; exact h
 ·simp [Array.getElem?_eq_none h']
theorem qlw {sz:Nat} {listed:Array Bool}:∀ i,i < sz->listed.getD i true = false->∃ i,i < sz/\listed.getD i true = false/\∀ j,j < i->listed.getD j true = true:=by
 intro i
 induction i using Nat.strongRecOn with
 | ind i ih=>
  intro hi hu;by_cases h:∃ j,j < i/\listed.getD j true = false
  ·obtain ⟨j,hj,hju⟩:=h; exact ih j hj (by omega) hju
  ·refine ⟨i,hi,hu,fun j hj=>?_⟩
   cases hl:listed.getD j true with
   | true=>rfl
   | false=>exact absurd ⟨j,hj,hl⟩ h
theorem qod {ops:Array Oper} {listed:Array Bool} (hb:qjd ops = true) (hs:listed.size = ops.size) {i:Nat} (hi:i < ops.size) (hu:listed.getD i true = false):Region.ready .any ops listed ≠ []:=by
 obtain ⟨j,hj,hju,hall⟩:=qlw i hi hu;intro hn
 have:j ∈ Region.ready .any ops listed:=by
  refine mem_ready.2 ⟨hju,ops[j],Array.getElem?_eq_getElem hj,fun e he hbe=>?_⟩;simp only [qjd,List.all_eq_true,List.mem_range] at hb;have h1:=hb j hj;rw [Array.getElem?_eq_getElem hj] at h1;have h1:=(Array.all_eq_true_iff_forall_mem.1 h1) e he;simp only [hbe,Bool.not_true,Bool.false_or,decide_eq_true_eq] at h1;have h2:=hall e.on h1;have hlt:e.on < listed.size:=by omega
  simp [hlt] at h2 ⊢;exact h2
 rw [hn] at this; cases this
def ov {α:Type} (D:List (Nat × α)) (F:Nat->Option α):Nat->Option α:=fun t=>match lk D t with
 | some v=>some v
 | none=>F t
theorem qb4 {α:Type} (D h:List (Nat × α)):lk (D ++ h) = ov D (lk h):=by
 induction D with
 | nil=>rfl
 | cons p r ih=>
  obtain ⟨k,v⟩:=p;funext t;simp only [List.cons_append,lk,ih,ov];by_cases h1:t = k <;> simp [h1]
theorem qoa {α:Type} {D:List (Nat × α)} {F:Nat->Option α} {t:Nat} (h:lk D t = none):ov D F t = F t:=by simp [ov,h]
def st {α:Type} (D:Nat->List (Nat × α)) (L:Nat->Bool) (F0:Nat->Option α):Nat->Nat->Option α
 | 0=>F0
 | k + 1=>if L k = true then ov (D k) (st D L F0 k) else st D L F0 k
section
variable {α:Type} {D:Nat->List (Nat × α)} {L:Nat->Bool} {F0:Nat->Option α}
theorem qf0 {t:Nat}:∀ k,(∀ j,j < k->lk (D j) t ≠ none->L j = true)->st D L F0 k t = st D (fun _=>true) F0 k t
 | 0,_=>rfl
 | k + 1,h=>by
  have ih:=qf0 k fun j hj=>h j (by omega);simp only [st,if_true];by_cases hl:L k = true
  ·rw [if_pos hl]; simp only [ov,ih]
  ·rw [if_neg hl,ih]
   have:lk (D k) t = none:=by
    cases hc:lk (D k) t with
    | none=>rfl
    | some v=>exact absurd (h k (by omega) (by rw [hc]; simp)) hl
   rw [qoa this]
theorem qcc {t i:Nat}:∀ k,i≤k->(∀ j,i≤j->j < k->lk (D j) t ≠ none->L j = false)->st D L F0 k t = st D L F0 i t
 | 0,hi,_=>by
  obtain rfl:i = 0:=by omega
  rfl
 | k + 1,hi,h=>by
  by_cases hik:i = k + 1
  ·rw [hik]
  ·have ih:=qcc (i:=i) k (by omega) fun j h1 h2=>h j h1 (by omega);simp only [st];by_cases hl:L k = true
   ·rw [if_pos hl]
    have:lk (D k) t = none:=by
     cases hc:lk (D k) t with
     | none=>rfl
     | some v=>have:=h k (by omega) (by omega) (by rw [hc]; simp); rw [this] at hl; cases hl
    rw [qoa this,ih]
   ·rw [if_neg hl,ih]
theorem qet {L':Nat->Bool}:∀ k,(∀ j,j < k->L' j = L j)->st D L' F0 k = st D L F0 k
 | 0,_=>rfl
 | k + 1,h=>by
  simp only [st];rw [qet k fun j hj=>h j (by omega),h k (by omega)]
theorem q4f {A B:List (Nat × α)} {F:Nat->Option α} (h:∀ t,lk A t = none∨lk B t = none):ov A (ov B F) = ov B (ov A F):=by
 funext t;simp only [ov];rcases h t with h | h
 ·simp [h]
 ·simp [h]
theorem qlk {L':Nat->Bool} {i:Nat} (hi:L i = false) (hi':L' i = true) (hL:∀ j,j ≠ i->L' j = L j):∀ k,i < k->(∀ j,i < j->j < k->L j = true->∀ t,lk (D i) t = none∨lk (D j) t = none)->st D L' F0 k = ov (D i) (st D L F0 k)
 | 0,h,_=>by omega
 | k + 1,h,hd=>by
  simp only [st];by_cases hik:i = k
  ·subst hik;rw [if_pos hi',hi,if_neg (by simp),qet i fun j hj=>hL j (by omega)]
  ·have ih:=qlk hi hi' hL k (by omega) fun j h1 h2=>hd j h1 (by omega);rw [hL k (Ne.symm hik),ih];by_cases hl:L k = true
   ·rw [if_pos hl,if_pos hl];exact q4f fun t=>(hd k (by omega) (by omega) hl t).symm
   ·rw [if_neg hl,if_neg hl]
end
def q6b (acc:List Nat) (o:Oper):Nat:=o.after.toList.foldl (fun m e=>if Region.binds .any e = true then (m ||| acc.getD e.on 0) ||| 2 ^ e.on else m) 0
def qev:List Oper->List Nat->List Nat
 | [],acc=>acc
 | o :: r,acc=>qev r (acc ++ [q6b acc o])
def bd (an:List Nat) (i j:Nat):Bool:=(an.getD j 0).testBit i
def qy4 (ops:Array Oper) (m j:Nat):Prop:=∀ L:Nat->Prop,(∀ x y,L x->qt7 ops x y = true->L y)->(∀ y,qt7 ops j y = true->L y)->∀ i,m.testBit i = true->L i
theorem q2g {ops:Array Oper} {acc:List Nat} (hacc:∀ j,j < acc.length->qy4 ops (acc.getD j 0) j) {k:Nat} {o:Oper} (ho:ops[k]? = some o):qy4 ops (q6b acc o) k:=by
 intro L hL hk
 have key:∀ (l:List Edge) (m:Nat),(∀ e ∈ l,e ∈ o.after)->(∀ i,m.testBit i = true->L i)->∀ i,(l.foldl (fun m e=>if Region.binds .any e = true then (m ||| acc.getD e.on 0) ||| 2 ^ e.on else m) m).testBit i = true->L i:=by
  intro l
  induction l with
  | nil=>intro m _ hm; exact hm
  | cons e r ih=>
   intro m hl hm;simp only [List.foldl_cons];refine ih _ (fun e' he'=>hl e' (List.mem_cons_of_mem _ he')) fun i hi=>?_;split at hi
   ·rename_i hb
    have hon:L e.on:=hk e.on (by
     simp only [qt7,ho,Array.any_eq_true'];exact ⟨e,hl e List.mem_cons_self,by simp [hb]⟩)
    rw [Nat.testBit_or,Nat.testBit_or,Bool.or_eq_true,Bool.or_eq_true] at hi;rcases hi with (hi | hi) | hi
    ·exact hm i hi
    ·rcases Nat.lt_or_ge e.on acc.length with h | h
     ·exact hacc e.on h L hL (fun y hy=>hL e.on y hon hy) i hi
     ·rw [ji0,List.getElem?_eq_none h] at hi; simp at hi
    ·rw [Nat.testBit_two_pow] at hi;have:e.on = i:=by simpa using hi
     exact this ▸ hon
   ·exact hm i hi
 exact key o.after.toList 0 (fun e he=>by simpa using he) (fun i hi=>by simp at hi)
theorem qvy {ops:Array Oper}:∀ (l:List Oper) (acc:List Nat),ops.toList.drop acc.length = l->(∀ j,j < acc.length->qy4 ops (acc.getD j 0) j)->∀ j,j < (qev l acc).length->qy4 ops ((qev l acc).getD j 0) j
 | [],acc,_,hacc=>hacc
 | o :: r,acc,hd,hacc=>by
  have ho:ops[acc.length]? = some o:=by
   have:=congrArg (fun l:List Oper=>l[0]?) hd;simpa using this
  refine qvy r _ (by rw [List.length_append,List.length_singleton,<- List.tail_drop,hd]; rfl) fun j hj=>?_;by_cases hja:j < acc.length
  ·have:(acc ++ [q6b acc o]).getD j 0 = acc.getD j 0:=by rw [ji0,ji0,List.getElem?_append_left hja]
   rw [this]; exact hacc j hja
  ·have hje:j = acc.length:=by simp at hj; omega
   subst hje;have:(acc ++ [q6b acc o]).getD acc.length 0 = q6b acc o:=by simp [ji0]
   rw [this]; exact q2g hacc ho
theorem qin {ops:Array Oper} {i j:Nat} (hb:bd (qev ops.toList []) i j = true) (L:Nat->Prop) (hL:∀ x y,L x->qt7 ops x y = true->L y) (hj:∀ y,qt7 ops j y = true->L y):L i:=by
 unfold bd at hb;rcases Nat.lt_or_ge j (qev ops.toList []).length with h | h
 ·exact qvy ops.toList [] rfl (fun j hj=>by simp at hj) j h L hL hj i hb
 ·rw [ji0,List.getElem?_eq_none h] at hb; simp at hb
def dD (d:Option Nat) (v:V):Fr:=match d with
 | some d=>[(d,v)]
 | none=>[]
theorem qoc (fr:Fr) (d:Option Nat) (v:V):ql1 fr d v = dD d v ++ fr:=by cases d <;> rfl
theorem qro {d:Option Nat} {v:V} {t:Nat} (h:d ≠ some t):lk (dD d v) t = none:=by
 cases d with
 | none=>rfl
 | some e=>
  have:t ≠ e:=fun he=>h (by rw [he]);simp [dD,lk,this]
theorem qd2 {d:Option Nat} {v:V} {t:Nat} (h:lk (dD d v) t ≠ none):d = some t:=by
 by_cases hd:d = some t
 ·exact hd
 ·exact absurd (qro hd) h
def ql4 (P:Program) (gl:Fr) (n:Nat) (ops:Array Oper) (i:Nat) (o:Oper) (F:FF) (H:HH) (rd ids:Nat->Prop) (v:V) (W:Hp):Prop:=
 ∀ {bs:Nat} {fr:Fr} {h:Hp} {G:qa5} {M:qas} {a:Act} {w:World} {Q:Exit->Act->World->Prop} {K':Act->World->Prop},R bs n gl G M fr h a w->(∀ t ∈ o.looksAt ops,lk fr t = F t)->(∀ b,rd b->lk h b = H b)->(∀ b,ids b->qaa M b = 0)->
  (∀ rv G' M' w',R bs n gl G' M' (ql1 fr o.dst v) (W ++ h) (a.put o.dst rv) w'->Ext G M w G' M' w'->(∀ b,¬ ids b->qaa M b = 0->qaa M' b = 0)->K' (a.put o.dst rv) w')->wpOp P ops Q i K' a w
structure qm6 (ops:Array Oper) (x y:Oper):Prop where
 xy:∀ t ∈ y.looksAt ops,x.dst ≠ some t
 yx:∀ t ∈ x.looksAt ops,y.dst ≠ some t
 dd:∀ t,x.dst = some t->y.dst ≠ some t
structure qm4 (W W':Hp) (rd rd':Nat->Prop):Prop where
 ww:∀ b,lk W b = none∨lk W' b = none
 wr:∀ b,rd' b->lk W b = none
 rw:∀ b,rd b->lk W' b = none
section
variable {P:Program} {gl:Fr} {bs n:Nat} {ops:Array Oper} {vs:Nat->V} {Ws:Nat->Hp} {rd ids:Nat->Nat->Prop} {F0:FF} {H0:HH}
def Dv (ops:Array Oper) (vs:Nat->V) (i:Nat):Fr:=match ops[i]? with
 | some o=>dD o.dst (vs i)
 | none=>[]
def qde:Nat->Bool:=fun _=>true
theorem quz (hback:qjd ops = true)
  (hy:∀ i o,ops[i]? = some o->ql4 P gl n ops i o (st (Dv ops vs) qde F0 i) (st Ws qde H0 i) (rd i) (ids i) (vs i) (Ws i))
  (hslot:∀ i j oi oj,i < j->ops[i]? = some oi->ops[j]? = some oj->bd (qev ops.toList []) i j = false->qm6 ops oi oj)
  (hheap:∀ i j,i < j->j < ops.size->bd (qev ops.toList []) i j = false->qm4 (Ws i) (Ws j) (rd i) (rd j))
  (hids:∀ i j b,i ≠ j->ids i b->¬ ids j b) {Q:Exit->Act->World->Prop} {G0:qa5} {M0':qas} {w0:World}
  (hfin:∀ fr' h' G' M' a' w',lk fr' = st (Dv ops vs) qde F0 ops.size->lk h' = st Ws qde H0 ops.size->R bs n gl G' M' fr' h' a' w'->Ext G0 M0' w0 G' M' w'->
   (∀ b,(∀ i,¬ ids i b)->qaa M0' b = 0->qaa M' b = 0)->Q .normal a' w') :
  ∀ (fuel:Nat) (listed:Array Bool) (fr:Fr) (h:Hp) (G:qa5) (M:qas) (a:Act) (w:World),listed.size = ops.size->(∀ x y,listed.getD x false = true->qt7 ops x y = true->listed.getD y false = true)->
   lk fr = st (Dv ops vs) (fun j=>listed.getD j false) F0 ops.size->lk h = st Ws (fun j=>listed.getD j false) H0 ops.size->R bs n gl G M fr h a w->Ext G0 M0' w0 G M w->
   (∀ i,listed.getD i false = false->∀ b,ids i b->qaa M b = 0)->(∀ b,(∀ i,¬ ids i b)->qaa M0' b = 0->qaa M b = 0)->unl ops.size listed≤fuel->wpAny P .any ops Q fuel listed a w:=by
 have done:∀ (listed:Array Bool) (fr:Fr) (h:Hp) (G:qa5) (M:qas) (a:Act) (w:World),listed.size = ops.size->(∀ i,i < ops.size->listed.getD i true = true)->
   lk fr = st (Dv ops vs) (fun j=>listed.getD j false) F0 ops.size->lk h = st Ws (fun j=>listed.getD j false) H0 ops.size->R bs n gl G M fr h a w->Ext G0 M0' w0 G M w->
   (∀ b,(∀ i,¬ ids i b)->qaa M0' b = 0->qaa M b = 0)->Q .normal a w:=by
  intro listed fr h G M a w hs hal hf hh hr hx hfr
  have hl:∀ j,j < ops.size->qde j = (fun j=>listed.getD j false) j:=fun j hj=>by
   have:=hal j hj;have hjs:j < listed.size:=by omega
   simp [hjs] at this;simp [qde,hjs,this]
  exact hfin fr h G M a w (by rw [hf,qet ops.size hl]) (by rw [hh,qet ops.size hl]) hr hx hfr
 intro fuel
 induction fuel with
 | zero=>
  intro listed fr h G M a w hs hdc hf hh hr hx hfi hfr hu;have hal:=qon (by omega:unl ops.size listed = 0);refine ⟨?_,done listed fr h G M a w hs hal hf hh hr hx hfr⟩
  cases hrd:Region.ready .any ops listed with
  | nil=>rfl
  | cons i r=>
   have hm:i ∈ Region.ready .any ops listed:=by rw [hrd]; exact List.mem_cons_self
   obtain ⟨h1,o,h2,-⟩:=mem_ready.1 hm;rw [hal i (Array.getElem?_eq_some_iff.1 h2).1] at h1; cases h1
 | succ fuel ihf=>
  intro listed fr h G M a w hs hdc hf hh hr hx hfi hfr hu;refine ⟨fun hn=>?_,fun i hir=>?_⟩
  ·refine done listed fr h G M a w hs (fun i hi'=>?_) hf hh hr hx hfr
   cases hl:listed.getD i true with
   | true=>rfl
   | false=>exact absurd hn (qod hback hs hi' hl)
  ·obtain ⟨hun,o,ho,hall⟩:=mem_ready.1 hir;have his:i < ops.size:=(Array.getElem?_eq_some_iff.1 ho).1;have hil:i < listed.size:=by omega
   have hunf:listed.getD i false = false:=by
    simp [hil] at hun;simp [hil,hun]
   have hpre:∀ y,qt7 ops i y = true->listed.getD y false = true:=fun y hy'=>qhg hir hy';have below:∀ j,bd (qev ops.toList []) j i = true->listed.getD j false = true:=fun j hb=>qin hb (fun x=>listed.getD x false = true) hdc hpre
   have above:∀ j,listed.getD j false = true->bd (qev ops.toList []) i j = false:=by
    intro j hj
    cases hb:bd (qev ops.toList []) i j with
    | false=>rfl
    | true=>
     have:=qin hb (fun x=>listed.getD x false = true) hdc (fun y hy'=>hdc j y hj hy');rw [hunf] at this; cases this
   have hdv:∀ j,Dv ops vs j = match ops[j]? with | some oj=>dD oj.dst (vs j) | none=>[]:=fun j=>rfl
   have hlist:∀ j,listed.getD j false = true->j < ops.size:=fun j hj=>by
    rcases Nat.lt_or_ge j listed.size with h' | h'
    ·omega
    ·simp [Array.getElem?_eq_none h'] at hj
   have hset:∀ j,j ≠ i->(listed.setIfInBounds i true).getD j false = listed.getD j false:=fun j hj=>getD_set_ne false (Ne.symm hj);have hseti:(listed.setIfInBounds i true).getD i false = true:=by simp [hil]
   refine hy i o ho hr (fun t ht=>?_) (fun b hb=>?_) (fun b hb=>hfi i hunf b hb) (fun rv G' M' w' hr' hx' hf'=>?_)
   ·rw [hf];rw [qcc (i:=i) ops.size (by omega) fun j h1 h2 h3=>?_]
    ·refine qf0 i fun j hj h3=>?_;have hoj:ops[j]? = some ops[j]:=Array.getElem?_eq_getElem (by omega);rw [hdv,hoj] at h3;have hd:=qd2 h3
     cases hb:bd (qev ops.toList []) j i with
     | true=>exact below j hb
     | false=>exact absurd hd ((hslot j i _ _ hj hoj ho hb).xy t ht)
    ·have hoj:ops[j]? = some ops[j]:=Array.getElem?_eq_getElem h2;rw [hdv,hoj] at h3;have hd:=qd2 h3
     cases hl:listed.getD j false with
     | false=>rfl
     | true=>
      have hji:i ≠ j:=fun e=>by rw [<- e,hunf] at hl; cases hl
      exact absurd hd ((hslot i j _ _ (by omega) ho hoj (above j hl)).yx t ht)
   ·rw [hh];rw [qcc (i:=i) ops.size (by omega) fun j h1 h2 h3=>?_]
    ·refine qf0 i fun j hj h3=>?_
     cases hb':bd (qev ops.toList []) j i with
     | true=>exact below j hb'
     | false=>exact absurd ((hheap j i hj his hb').wr b hb) h3
    ·cases hl:listed.getD j false with
     | false=>rfl
     | true=>
      have hji:i ≠ j:=fun e=>by rw [<- e,hunf] at hl; cases hl
      exact absurd ((hheap i j (by omega) h2 (above j hl)).rw b hb) h3
   ·refine ihf (listed.setIfInBounds i true) _ _ G' M' _ w' (by simpa using hs) ?_ ?_ ?_ hr' (hx.trans hx') ?_ ?_ ?_
    ·intro x y h1 h2;by_cases hy':y = i
     ·subst hy'; exact hseti
     ·rw [hset y hy'];by_cases hxi:x = i
      ·subst hxi; exact hpre y h2
      ·rw [hset x hxi] at h1; exact hdc x y h1 h2
    ·rw [qoc,qb4,hf];have:dD o.dst (vs i) = Dv ops vs i:=by rw [hdv,ho]
     rw [this];refine (qlk (L:=fun j=>listed.getD j false) hunf hseti hset ops.size his fun j h1 h2 h3 t=>?_).symm;have hoj:ops[j]? = some ops[j]:=Array.getElem?_eq_getElem h2;have hI:=hslot i j _ _ h1 ho hoj (above j h3);rw [hdv,hdv,ho,hoj];by_cases hd:o.dst = some t
     ·exact .inr (qro (hI.dd t hd))
     ·exact .inl (qro hd)
    ·rw [qb4,hh];exact (qlk (L:=fun j=>listed.getD j false) hunf hseti hset ops.size his fun j h1 h2 h3 t=>(hheap i j h1 h2 (above j h3)).ww t).symm
    ·intro j hj b hb;have hji:j ≠ i:=fun e=>by rw [e,hseti] at hj; cases hj
     rw [hset j hji] at hj;exact hf' b (fun hc=>hids i j b (Ne.symm hji) hc hb) (hfi j hj b hb)
    ·intro b hb h0;exact hf' b (hb i) (hfr b hb h0)
    ·have:=qsb hs his hun;omega
end
end
section
open Go
abbrev Y:=V × Hp × List Nat
def gd {α:Type} (c:Bool) (x:Option α):Option α:=match c with
 | true=>x
 | false=>none
def eb {α β:Type} (x:Option α) (f:α->Option β):Option β:=match x with
 | some v=>f v
 | none=>none
theorem qae {α:Type} {c:Bool} {x:Option α} {y:α} (h:gd c x = some y):c = true/\x = some y:=by
 cases c
 ·cases h
 ·exact ⟨rfl,h⟩
theorem qad {α β:Type} {x:Option α} {f:α->Option β} {y:β} (h:eb x f = some y):∃ v,x = some v/\f v = some y:=by
 cases x with
 | none=>cases h
 | some v=>exact ⟨v,rfl,h⟩
def jhk (ag:Bool) (off n:Nat) (x:V):Bool:=match ag with
 | true=>decide (off + n≤x.cells.length)
 | false=>decide (off < x.cells.length)
theorem V.partOkB_iff {ag:Bool} {off n:Nat} {x:V}:jhk ag off n x = true↔jhg ag off n x:=by cases ag <;> simp [jhk,jhg]
def jh0 (off n:Nat) (v x:V):Bool:=decide (v.cells.length = n) && v.cellsOk && match x with
 | .agg cs=>decide (off + n≤cs.length)
 | x=>decide (off = 0) && decide (n = 1) && x.isCell && v.isCell
theorem V.putOkB_iff {off n:Nat} {v x:V}:jh0 off n v x = true↔jht off n v x:=by cases x <;> simp [jh0,jht,and_assoc]
def evF (gl:Fr) (F:FF):qam->Option V
 | .t n=>F n
 | .g n=>lk gl n
 | .c v=>some v
 | .f f=>some (.fn f [] [])
theorem qby (gl fr:Fr) (x:qam):evF gl (lk fr) x = ev gl fr x:=by cases x <;> rfl
def qvj (gl:Fr) (F:FF):List qam->Option (List V)
 | []=>some []
 | x :: r=>match evF gl F x,qvj gl F r with
  | some v,some vs=>some (v :: vs)
  | _,_=>none
theorem qfp (gl fr:Fr):∀ l,qvj gl (lk fr) l = evs gl fr l
 | []=>rfl
 | x :: r=>by simp only [qvj,evs,qby,qfp gl fr r]; rfl
def qnl (gl:Fr) (F:FF):List (Nat × Nat × qam)->Option (List (Nat × Nat × V))
 | []=>some []
 | (o,s,x) :: r=>match evF gl F x,qnl gl F r with
  | some v,some vs=>some ((o,s,v) :: vs)
  | _,_=>none
theorem qnm (gl fr:Fr):∀ l,qnl gl (lk fr) l = qzn gl fr l
 | []=>rfl
 | (o,s,x) :: r=>by simp only [qnl,qzn,qby,qnm gl fr r]; rfl
def qrb (cells:List V):List (Nat × Nat × V)->Option (List V)
 | []=>some cells
 | (off,sz,v) :: r=>gd (decide (v.cells.length = sz) && v.cellsOk && decide (off + sz≤cells.length)) (qrb (cells.take off ++ v.cells ++ cells.drop (off + sz)) r)
def jax (op:BinOp):V->V->Option V
 | .int k a,.int k' b=>
  match op with
  | .shl=>gd (decide (0≤b)) (some (.int k (k.wrap (a * 2 ^ (min b.toNat k.bits)))))
  | .shr=>gd (decide (0≤b)) (some (.int k (a.fdiv (2 ^ (min b.toNat k.bits)))))
  | .add=>gd (decide (k = k')) (some (.int k (k.wrap (a + b))))
  | .sub=>gd (decide (k = k')) (some (.int k (k.wrap (a - b))))
  | .mul=>gd (decide (k = k')) (some (.int k (k.wrap (a * b))))
  | .quo=>gd (decide (k = k') && !decide (b = 0)) (some (.int k (k.wrap (a.tdiv b))))
  | .rem=>gd (decide (k = k') && !decide (b = 0)) (some (.int k (a.tmod b)))
  | .eql=>gd (decide (k = k')) (some (.bool (decide (a = b))))
  | .neq=>gd (decide (k = k')) (some (.bool (!decide (a = b))))
  | .lss=>gd (decide (k = k')) (some (.bool (decide (a < b))))
  | .leq=>gd (decide (k = k')) (some (.bool (decide (a≤b))))
  | .gtr=>gd (decide (k = k')) (some (.bool (decide (b < a))))
  | .geq=>gd (decide (k = k')) (some (.bool (decide (b≤a))))
  | .and=>gd (decide (k = k')) (some (.int k (qjr .and k a b)))
  | .or=>gd (decide (k = k')) (some (.int k (qjr .or k a b)))
  | .xor=>gd (decide (k = k')) (some (.int k (qjr .xor k a b)))
  | .andNot=>gd (decide (k = k')) (some (.int k (qjr .andNot k a b)))
 | .str a,.str b=>
  match op with
  | .add=>gd (decide (a.length + b.length≤4294967296)) (some (.str (a ++ b)))
  | .eql=>some (.bool (decide (a = b)))
  | .neq=>some (.bool (!decide (a = b)))
  | .lss=>some (.bool (Op.bytesLess a b))
  | .gtr=>some (.bool (!(Op.bytesLess a b || decide (a = b))))
  | .leq=>some (.bool (Op.bytesLess a b || decide (a = b)))
  | .geq=>some (.bool (!Op.bytesLess a b))
  | _=>none
 | _,_=>none
def unO (op:UnOp):V->Option V
 | .bool b=>match op with
  | .not=>some (.bool !b)
  | _=>none
 | .int k a=>match op with
  | .neg=>some (.int k (k.wrap (0 - a)))
  | .xor=>some (.int k (qjr .xor k (if k.signed then -1 else k.max) a))
  | _=>none
 | _=>none
def qwi:List V->List V->Bool
 | [],[]=>true
 | .int k _ :: r,.int k' _ :: s=>decide (k = k') && qwi r s
 | _,_=>false
theorem qpa:∀ {a b:List V},qwi a b = true->qkp a b
 | [],[],_=>trivial
 | .int k _ :: r,.int k' _ :: s,h=>by
  simp only [qwi,Bool.and_eq_true,decide_eq_true_eq] at h;exact ⟨h.1,qpa h.2⟩
def qge (H:HH) (sz:Nat):V->Option (List V × List Nat)
 | .sl xs _=>gd (xs.all fun x=>decide (x.cells.length = sz)) (some (xs,[]))
 | .ref b g off len _=>match H b with
  | some (.row g' sz' es)=>gd (decide (g' = g) && decide (sz' = sz) && decide (off + len≤es.length)) (some ((es.drop off).take len,[b]))
  | _=>none
 | _=>none
def qe6 (gl:Fr) (F:FF) (d:Nat):Option qam->Option Nat
 | none=>some d
 | some x=>match evF gl F x with
  | some (.int _ n)=>gd (decide (0≤n)) (some n.toNat)
  | _=>none
def qfl (gl:Fr) (F:FF):Option qam->Option (Option Nat)
 | none=>some none
 | some x=>match evF gl F x with
  | some (.int _ n)=>gd (decide (0≤n)) (some (some n.toNat))
  | _=>none
def qp0 (u len:Nat):Option Nat->Bool
 | none=>true
 | some m=>decide (u≤m) && decide (m≤len)
theorem qmq {u len:Nat} {m:Option Nat}:qp0 u len m = true↔qxm u len m:=by cases m <;> simp [qp0,qxm]
def qtn (sz:Nat) (z:List V):V:=match sz with
 | 1=>z.getD 0 .undef
 | _=>.agg z
def qya:V->V->Option Bool
 | .str a,.str b=>some (decide (a = b))
 | .int k a,.int k' b=>bif decide (k = k') then some (decide (a = b)) else none
 | _,_=>none
def qks (k:V):List (V × V)->Nat->Option (Option (Nat × V))
 | [],_=>some none
 | e :: es,i=>match qya k e.1 with
  | some true=>some (some (i,e.2))
  | some false=>qks k es (i + 1)
  | none=>none
def qju (n:Int):List UInt8->Nat->Int
 | [],_=>-1
 | b :: r,i=>bif decide ((b.toNat:Int) = n) then i else qju n r (i + 1)
def qeb:Option (Option IntKind)->V->Bool
 | some (some k),.int k' _=>decide (k' = k)
 | some none,.str _=>true
 | _,_=>false
def NOp.pure:NOp->Bool
 | .bad | .isnil .. | .lookup .. | .idxByte .. | .add64 .. | .nchk .. | .mentry ..=>true
 | _=>false
def qqx (gl:Fr) (F:FF) (x:qam):Option V:=(evF gl F x).map V.norm
theorem qni (gl fr:Fr) (x:qam):qqx gl (lk fr) x = evN gl fr x:=by unfold qqx evN; rw [qby]
def nop (gl:Fr) (gf:Nat->Nat) (id:Nat) (F:FF) (H:HH):NOp->Option Y
 | .bad=>none
 | .isnil neg x=>match evF gl F x with
  | some .nil=>some (.bool (!neg),[],[])
  | some (.sl (_ :: _) _)=>some (.bool neg,[],[])
  | some (.ref b g _ (_ + 1) _)=>match H b with
   | some (.row g' _ _)=>gd (decide (g' = g)) (some (.bool neg,[],[b]))
   | _=>none
  | _=>none
 | .mkmap=>some (.own id (gf id),[(id,.map (gf id) [])],[])
 | .lookup kd ok z m k=>match evF gl F m,evF gl F k with
  | some (.own b g),some kv=>match H b with
   | some (.map g' es)=>gd (decide (g' = g) && qeb kd kv) (match qks kv es 0 with
    | some (some (_,v))=>some (bif ok then .tup [v,.bool true] else v,[],[b])
    | some none=>some (bif ok then .tup [z,.bool false] else z,[],[b])
    | none=>none)
   | _=>none
  | some .nilmap,some kv=>gd (qeb kd kv) (some (bif ok then .tup [z,.bool false] else z,[],[]))
  | _,_=>none
 | .mapup kd m k v=>match evF gl F m,evF gl F k,evF gl F v with
  | some (.own b g),some kv,some vv=>match H b with
   | some (.map g' es)=>gd (decide (g' = g) && qeb kd kv) (match qks kv es 0 with
    | some (some (i,_))=>some (.undef,[(b,.map g (es.set i (kv,vv)))],[b])
    | some none=>some (.undef,[(b,.map g (es ++ [(kv,vv)]))],[b])
    | none=>none)
   | _=>none
  | _,_,_=>none
 | .srange x=>match evF gl F x with
  | some (.str s)=>some (.own id (gf id),[(id,.siter (gf id) s 0)],[])
  | _=>none
 | .snext x=>match evF gl F x with
  | some (.own b g)=>match H b with
   | some (.siter g' s pos)=>gd (decide (g' = g)) (bif decide (pos < s.length) then
     some (.tup [.bool true,.int .i64 pos,.int .i32 (Utf8.decode ⟨s.toArray⟩ pos).1],[(b,.siter g s (pos + (Utf8.decode ⟨s.toArray⟩ pos).2))],[b])
    else some (.tup [.bool false],[(b,.siter g s pos)],[b]))
   | _=>none
  | _=>none
 | .mrange x=>match evF gl F x with
  | some (.own b g)=>match H b with
   | some (.map g' es)=>gd (decide (g' = g)) (some (.own id (gf id),[(id,.miter (gf id) (.own b g) es.length [])],[b]))
   | _=>none
  | _=>none
 | .mnext _=>none
 | .mentry x=>match evF gl F x with
  | some (.own b g)=>match H b with
   | some (.miter g' (.own b2 g2) n seen)=>match H b2 with
    | some (.map g3 es)=>match seen.getLast? with
     | some i=>gd (decide (g' = g) && decide (g3 = g2) && decide (es.length = n) && decide (i < n)) (some (.tup [(es.getD i (.undef,.undef)).1,(es.getD i (.undef,.undef)).2],[],[b,b2]))
     | none=>none
    | _=>none
   | _=>none
  | _=>none
 | .nchk x=>match evF gl F x with
  | some (.ptr b g i o)=>some (.ptr b g i o,[],[])
  | some (.iptr x o)=>some (.iptr x o,[],[])
  | _=>none
 | .idxByte s c=>match evF gl F s,evF gl F c with
  | some (.str l),some (.int .u8 n)=>gd (decide (0≤n) && decide (n < 256)) (some (.int .i64 (qju n l 0),[],[]))
  | _,_=>none
 | .add64 x y z=>match evF gl F x,evF gl F y,evF gl F z with
  | some (.int .u64 a),some (.int .u64 b),some (.int .u64 c)=>gd (decide (0≤a) && decide (0≤b) && decide (0≤c) && decide (c≤1)) (some (.tup [.int .u64 ((a + b + c) % 18446744073709551616),.int .u64 ((a + b + c) / 18446744073709551616)],[],[]))
  | _,_,_=>none
 | .appc sz bytes z x y=>match qqx gl F x,qqx gl F y with
  | some (.ref b g off len (some c)),some vy=>match H b with
   | some (.row g' sz' es)=>eb (qge H sz vy) fun ys=>gd (decide (g' = g) && decide (sz' = sz) && decide (off + len≤es.length) && decide (bytes≤256) && decide (z.length = sz) && decide (0 < ys.1.length) && decide (len + ys.1.length≤274877906944))
     (match decide (len + ys.1.length≤c) with
     | true=>some (.ref b g off (len + ys.1.length) (some c),[(b,.row g sz (es.take (off + len) ++ ys.1 ++ es.drop (off + len + ys.1.length)))],b :: ys.2)
     | false=>some (.ref id (gf id) 0 (len + ys.1.length) none,[(id,.row (gf id) sz ((es.drop off).take len ++ ys.1))],b :: ys.2))
   | _=>none
  | _,_=>none
 | .cpy sz x y=>match qqx gl F x,qqx gl F y with
  | some (.ref b g off len _),some vy=>match H b with
   | some (.row g' sz' es)=>eb (qge H sz vy) fun ys=>gd (decide (g' = g) && decide (sz' = sz) && decide (off + len≤es.length))
     (some (.int .i64 ((min ys.1.length len:Nat):Int),[(b,.row g sz (es.take off ++ ys.1.take (min ys.1.length len) ++ es.drop (off + min ys.1.length len)))],b :: ys.2))
   | _=>none
  | _,_=>none
def eop (gl:Fr) (gf:Nat->Nat) (id:Nat) (F:FF) (H:HH):IOp->Option Y
  | .mv x=>eb (evF gl F x) fun v=>some (v,[],[])
  | .pick c a b=>match evF gl F c with
    | some (.bool t)=>(match t with
      | true=>eb (evF gl F a) fun v=>some (v,[],[])
      | false=>eb (evF gl F b) fun v=>some (v,[],[]))
    | _=>none
  | .box x=>eb (evF gl F x) fun v=>gd v.cellsOk (some (.ptr id (gf id) 0 0,[(id,.row (gf id) v.cells.length [v])],[]))
  | .alloc z=>gd z.cellsOk (some (.ptr id (gf id) 0 0,[(id,.row (gf id) z.cells.length [z])],[]))
  | .build z ps=>eb (qnl gl F ps) fun l=>eb (qrb z l) fun cs=>some (.agg cs,[],[])
  | .buildSl sz len z ps=>eb (qnl gl F ps) fun l=>eb (qrb z l) fun cs=>some (.ref id (gf id) 0 len (some len),[(id,.row (gf id) sz (qfb sz len cs))],[])
  | .load ag n a=>match evF gl F a with
    | some (.iptr x off)=>gd (jhk ag off n x) (some (jg3 ag off n x,[],[]))
    | some (.ptr b g i off)=>match H b with
      | some (.row g' _ es)=>gd (decide (g' = g) && decide (i < es.length) && jhk ag off n (es.getD i .undef)) (some (jg3 ag off n (es.getD i .undef),[],[b]))
      | _=>none
    | _=>none
  | .store n a x=>match evF gl F a,evF gl F x with
    | some (.ptr b g i off),some v=>match H b with
      | some (.row g' sz es)=>gd (decide (g' = g) && decide (i < es.length) && jh0 off n v (es.getD i .undef)) (some (.undef,[(b,.row g sz (es.set i (jg7 off n v (es.getD i .undef))))],[b]))
      | _=>none
    | _,_=>none
  | .bin op x y=>match evF gl F x,evF gl F y with
    | some a,some b=>eb (jax op a b) fun v=>some (v,[],[])
    | _,_=>none
  | .eqs neg n x y=>match evF gl F x,evF gl F y with
    | some (.agg a),some (.agg b)=>gd (decide (a.length = n) && decide (b.length = n) && qwi a b) (some (.bool (match neg with | true=>!(qbx a b) | false=>qbx a b),[],[]))
    | _,_=>none
  | .beq neg x y=>match evF gl F x,evF gl F y with
    | some (.bool a),some (.bool b)=>some (.bool (match neg with | true=>a != b | false=>a == b),[],[])
    | _,_=>none
  | .un op x=>eb (evF gl F x) fun a=>eb (unO op a) fun v=>some (v,[],[])
  | .conv k x=>match evF gl F x with
    | some (.int _ n)=>some (.int k (k.wrap n),[],[])
    | _=>none
  | .mkfn f a b=>match qvj gl F a,qvj gl F b with
    | some va,some vb=>some (.fn f va vb,[],[])
    | _,_=>none
  | .mksl z sz bytes l c=>match evF gl F l,evF gl F c with
    | some (.int _ a),some (.int _ b)=>gd (decide (0≤a) && decide (a≤b) && decide (b≤549755813888) && decide (bytes≤256) && decide (z.length = sz) && z.all V.isCell)
        (some (.ref id (gf id) 0 a.toNat (some b.toNat),[(id,.row (gf id) sz (List.replicate a.toNat (qtn sz z)))],[]))
    | _,_=>none
  | .slice sz x lo hi mx=>match qqx gl F x with
    | some (.sl xs cap)=>eb (qe6 gl F 0 lo) fun l=>eb (qe6 gl F xs.length hi) fun u=>eb (qfl gl F mx) fun m=>
        gd (decide (l≤u) && decide (u≤xs.length) && (decide (l = 0) || decide (u = l) || decide ((xs.getD l .undef).cells.length = sz)) && qp0 u xs.length m) (some (.sl ((xs.drop l).take (u - l)) (qhb l cap m),[],[]))
    | some (.ref b g off len cap)=>match H b with
      | some (.row g' sz' _)=>gd (decide (g' = g) && decide (sz' = sz)) (eb (qe6 gl F 0 lo) fun l=>eb (qe6 gl F len hi) fun u=>eb (qfl gl F mx) fun m=>
          gd (decide (l≤u) && decide (u≤len) && qp0 u len m) (some (.ref b g (off + l) (u - l) (qhb l cap m),[],[b])))
      | _=>none
    | _=>none
  | .sliceS x lo hi=>match evF gl F x with
    | some (.str s)=>eb (qe6 gl F 0 lo) fun l=>eb (qe6 gl F s.length hi) fun u=>gd (decide (l≤u) && decide (u≤s.length)) (some (.str ((s.drop l).take (u - l)),[],[]))
    | _=>none
  | .fieldA off x=>match evF gl F x with
    | some (.iptr y o)=>some (.iptr y (o + off),[],[])
    | some (.ptr b g i o)=>some (.ptr b g i (o + off),[],[])
    | _=>none
  | .field ag off n x=>match evF gl F x with
    | some (.agg cs)=>gd (jhk ag off n (.agg cs)) (some (jg3 ag off n (.agg cs),[],[]))
    | _=>none
  | .idxA sz x i=>match evF gl F x,evF gl F i with
    | some (.sl xs _),some (.int _ j)=>gd (decide (0≤j) && decide (j < xs.length) && decide ((xs.getD j.toNat .undef).cells.length = sz)) (some (.iptr (xs.getD j.toNat .undef) 0,[],[]))
    | some (.ref b g off len _),some (.int _ j)=>match H b with
      | some (.row g' sz' _)=>gd (decide (g' = g) && decide (sz' = sz) && decide (0≤j) && decide (j < len)) (some (.ptr b g (off + j.toNat) 0,[],[b]))
      | _=>none
    | _,_=>none
  | .idxP len sz x i=>match evF gl F x,evF gl F i with
    | some (.iptr y o),some (.int _ j)=>gd (decide (0≤j) && decide (j < len)) (some (.iptr y (o + j.toNat * sz),[],[]))
    | some (.ptr b g k o),some (.int _ j)=>gd (decide (0≤j) && decide (j < len)) (some (.ptr b g k (o + j.toNat * sz),[],[]))
    | _,_=>none
  | .idxV ag len sz x i=>match evF gl F x,evF gl F i with
    | some (.agg cs),some (.int _ j)=>gd (decide (0≤j) && decide (j < len) && jhk ag (j.toNat * sz) sz (.agg cs)) (some (jg3 ag (j.toNat * sz) sz (.agg cs),[],[]))
    | _,_=>none
  | .idxS x i=>match evF gl F x,evF gl F i with
    | some (.str s),some (.int _ j)=>gd (decide (0≤j) && decide (j < s.length)) (some (.int .u8 (s.getD j.toNat 0).toNat,[],[]))
    | _,_=>none
  | .len x=>match qqx gl F x with
    | some (.sl xs _)=>some (.int .i64 xs.length,[],[])
    | some (.ref _ _ _ len _)=>some (.int .i64 len,[],[])
    | _=>none
  | .lenS x=>match evF gl F x with
    | some (.str s)=>some (.int .i64 s.length,[],[])
    | _=>none
  | .lenK n=>some (.int .i64 n,[],[])
  | .cap x=>match qqx gl F x with
    | some (.sl _ (some c))=>some (.int .i64 c,[],[])
    | some (.ref _ _ _ _ (some c))=>some (.int .i64 c,[],[])
    | _=>none
  | .app sz bytes z x y=>match qqx gl F x,qqx gl F y with
    | some (.sl xs cap), some vy => eb (qge H sz vy) fun ys => gd ((xs.all fun x => decide (x.cells.length = sz)) && decide (cap = some xs.length) && decide (bytes≤256) && decide (z.length = sz) && decide (xs.length + ys.1.length≤274877906944))
          (match ys.1 with
          | []=>some (.sl xs cap,[],ys.2)
          | _ :: _=>some (.ref id (gf id) 0 (xs.length + ys.1.length) none,[(id,.row (gf id) sz (xs ++ ys.1))],ys.2))
    | some (.ref b g off len _),some vy=>match H b with
      | some (.row g' sz' es)=>eb (qge H sz vy) fun ys=>gd (decide (g' = g) && decide (sz' = sz) && decide (off + len≤es.length) && decide (bytes≤256) && decide (z.length = sz) && decide (len + ys.1.length≤274877906944))
          (some (.ref b (gf b) 0 (len + ys.1.length) none,[(b,.row (gf b) sz ((es.drop off).take len ++ ys.1))],b :: ys.2))
      | _=>none
    | _,_=>none
  | .copy _ _ _=>none
  | .mm mx x y=>match evF gl F x,evF gl F y with
    | some (.int k a),some (.int _ b)=>some (.int k (match mx with | true=>max a b | false=>min a b),[],[])
    | _,_=>none
  | .call _ _=>none
  | .extract x i=>match evF gl F x with
    | some (.tup vs)=>eb vs[i]? fun v=>some (v,[],[])
    | _=>none
  | .cvs x=>match evF gl F x with
    | some (.str s)=>some (.str s,[],[])
    | _=>none
  | .b2s x=>eb (qqx gl F x) fun vx=>eb (qge H 1 vx) fun es=>eb (bytesOf es.1) fun s=>some (.str s,[],es.2)  | .n x=>nop gl gf id F H x
end
section
open Go
def qag:IOp->Bool
 | .box _ | .alloc _ | .buildSl .. | .store .. | .mksl .. | .call .. | .app .. | .copy ..=>false
 | .n x=>x.pure
 | _=>true
section
variable {P:Program} {gl:Fr} {bs n:Nat} {fr:Fr} {h:Hp} {G:qa5} {M:qas} {a:Act} {w:World} {gf:Nat->Nat}
theorem qrc:∀ {l:List (Nat × Nat × V)} {cs r:List V} {K:List V->Prop},qrb cs l = some r->K r->qug cs K l
 | [],cs,r,K,h,hk=>by simp only [qrb,Option.some.injEq] at h; subst h; exact hk
 | (o,s,v) :: l,cs,r,K,h,hk=>by
  simp only [qrb] at h;obtain ⟨h1,h2⟩:=qae h;simp only [Bool.and_eq_true,decide_eq_true_eq] at h1;exact ⟨h1.1.1,h1.1.2,h1.2,qrc h2 hk⟩
theorem qhz {sz:Nat} {v:V} {r:List V × List Nat} {K:List V->Prop} (he:qge (lk h) sz v = some r) (hk:K r.1):qcz h sz K v:=by
 unfold qge at he;unfold qcz;split at he
 ·obtain ⟨h1,h2⟩:=qae he;cases h2;refine ⟨fun x hx=>?_,hk⟩;have:=List.all_eq_true.1 h1 x hx;simpa using this
 ·split at he
  ·rename_i hb;obtain ⟨h1,h2⟩:=qae he;cases h2;simp only [Bool.and_eq_true,decide_eq_true_eq] at h1;simp only [hb];exact ⟨h1.1.1,h1.1.2,h1.2,hk⟩
  ·cases he
 ·cases he
theorem qgr {F:FF} (hF:F = lk fr) {d l:Nat} {x:Option qam} {K:Nat->Prop} (he:qe6 gl F d x = some l) (hk:K l):qg6 gl fr d K x:=by
 subst hF
 cases x with
 | none=>simp only [qe6,Option.some.injEq] at he; subst he; exact hk
 | some y=>
  simp only [qe6,qby] at he;simp only [qg6];split at he
  ·rename_i hy;obtain ⟨h1,h2⟩:=qae he;cases h2;rw [hy];exact ⟨by simpa using h1,hk⟩
  ·cases he
theorem qo0 {F:FF} (hF:F = lk fr) {l:Option Nat} {x:Option qam} {K:Option Nat->Prop} (he:qfl gl F x = some l) (hk:K l):ql7 gl fr K x:=by
 subst hF
 cases x with
 | none=>simp only [qfl,Option.some.injEq] at he; subst he; exact hk
 | some y=>
  simp only [qfl,qby] at he;simp only [ql7];split at he
  ·rename_i hy;obtain ⟨h1,h2⟩:=qae he;cases h2;rw [hy];exact ⟨by simpa using h1,hk⟩
  ·cases he
theorem q6g {op:BinOp} {x y v:V} {K:V->Prop} (he:jax op x y = some v) (hk:K v):jay op K x y:=by
 unfold jax at he;unfold jay;split at he
 ·cases op <;> simp only [] at he ⊢ <;> (obtain ⟨h1,h2⟩:=qae he; cases h2; simp at h1; first | exact ⟨h1,hk⟩ | exact ⟨h1.1,h1.2,hk⟩)
 ·cases op <;> simp only [] at he ⊢ <;> first
   | (cases he; exact hk)
   | (obtain ⟨h1,h2⟩:=qae he; cases h2; simp at h1; exact ⟨h1,hk⟩)
   | cases he
 ·cases he
theorem jgi {op:UnOp} {x v:V} {K:V->Prop} (he:unO op x = some v) (hk:K v):unW op K x:=by
 unfold unO at he;unfold unW;split at he
 ·cases op <;> simp only [] at he ⊢ <;> first
   | (cases he; exact hk)
   | cases he
 ·cases op <;> simp only [] at he ⊢ <;> first
   | (cases he; exact hk)
   | cases he
 ·cases he
theorem qwh {id id':Nat} {io:IOp} (hn:∀ x,io ≠ .n x) (hp:qag io = true) {y:Y} (he:eop gl gf id (lk fr) (lk h) io = some y):y.2.1 = []/\qbb P gl id' fr h (fun v _=>v = y.1) io:=by
 cases io <;> simp only [qag,Bool.false_eq_true] at hp <;> simp only [eop,qby,qfp,qnm,qni] at he <;> simp only [qbb]
 case n x=>exact absurd rfl (hn x)
 case mv x=>
  obtain ⟨v,h1,h2⟩:=qad he;cases h2; rw [h1]; exact ⟨rfl,rfl⟩
 case pick c x z=>
  split at he
  ·rename_i t hc;simp only [hc]
   cases t with
   | true=>simp only [] at he; obtain ⟨v,h1,h2⟩:=qad he; cases h2; rw [h1]; exact ⟨rfl,(fun _=>rfl),(fun h=>Bool.noConfusion h)⟩
   | false=>simp only [] at he; obtain ⟨v,h1,h2⟩:=qad he; cases h2; rw [h1]; exact ⟨rfl,(fun h=>Bool.noConfusion h),(fun _=>rfl)⟩
  ·cases he
 case build z ps=>
  obtain ⟨l,h1,h2⟩:=qad he;obtain ⟨cs,h3,h4⟩:=qad h2;cases h4;rw [h1];exact ⟨rfl,qrc h3 rfl⟩
 case load ag m x=>
  split at he
  ·simp only [*];rename_i hx;obtain ⟨h1,h2⟩:=qae he;cases h2;exact ⟨rfl,V.partOkB_iff.1 h1,rfl⟩
  ·simp only [*];rename_i hx;split at he
   ·rename_i hb;obtain ⟨h1,h2⟩:=qae he;cases h2;simp only [Bool.and_eq_true,decide_eq_true_eq] at h1;simp only [hb];exact ⟨trivial,h1.1.1,h1.1.2,V.partOkB_iff.1 h1.2,trivial⟩
   ·cases he
  ·cases he
 case bin op x z=>
  split at he
  ·simp only [*];obtain ⟨v,h1,h2⟩:=qad he;cases h2;exact ⟨rfl,q6g h1 rfl⟩
  ·cases he
 case eqs neg m x z=>
  split at he
  ·simp only [*];obtain ⟨h1,h2⟩:=qae he;cases h2;simp only [Bool.and_eq_true,decide_eq_true_eq] at h1;exact ⟨rfl,h1.1.1,h1.1.2,qpa h1.2,rfl⟩
  ·cases he
 case beq neg x z=>
  split at he
  ·simp only [*]; cases he; exact ⟨rfl,rfl⟩
  ·cases he
 case un op x=>
  obtain ⟨v,h1,h2⟩:=qad he;obtain ⟨v',h3,h4⟩:=qad h2;cases h4;rw [h1];exact ⟨rfl,jgi h3 rfl⟩
 case conv k x=>
  split at he
  ·simp only [*]; cases he; exact ⟨rfl,rfl⟩
  ·cases he
 case mkfn f x z=>
  split at he
  ·simp only [*]; cases he; exact ⟨rfl,rfl⟩
  ·cases he
 case slice sz x lo hi mx=>
  split at he
  ·simp only [*];obtain ⟨l,h1,he⟩:=qad he;obtain ⟨u,h2,he⟩:=qad he;obtain ⟨m,h3,he⟩:=qad he;obtain ⟨h4,he⟩:=qae he;cases he;simp only [Bool.and_eq_true,Bool.or_eq_true,decide_eq_true_eq,qmq] at h4;exact ⟨rfl,.inr (qgr rfl h1 (qgr rfl h2 (qo0 rfl h3 ⟨h4.1.1.1,h4.1.1.2,by rcases h4.1.2 with (h | h) | h; exact .inl h; exact .inr (.inl h); exact .inr (.inr h),h4.2,rfl⟩)))⟩
  ·simp only [*];split at he
   ·rename_i hb;obtain ⟨h0,he⟩:=qae he;obtain ⟨l,h1,he⟩:=qad he;obtain ⟨u,h2,he⟩:=qad he;obtain ⟨m,h3,he⟩:=qad he;obtain ⟨h4,he⟩:=qae he;cases he;simp only [Bool.and_eq_true,decide_eq_true_eq,qmq] at h4 h0;simp only [hb];exact ⟨trivial,.inr ⟨h0.1,h0.2,qgr rfl h1 (qgr rfl h2 (qo0 rfl h3 ⟨h4.1.1,h4.1.2,h4.2,rfl⟩))⟩⟩
   ·cases he
  ·cases he
 case sliceS x lo hi=>
  split at he
  ·simp only [*];obtain ⟨l,h1,he⟩:=qad he;obtain ⟨u,h2,he⟩:=qad he;obtain ⟨h4,he⟩:=qae he;cases he;simp only [Bool.and_eq_true,decide_eq_true_eq] at h4;exact ⟨rfl,qgr rfl h1 (qgr rfl h2 ⟨h4.1,h4.2,rfl⟩)⟩
  ·cases he
 case fieldA off x=>split at he <;> first | (simp only [*]; cases he; exact ⟨rfl,rfl⟩) | cases he
 case field ag off m x=>
  split at he
  ·simp only [*];obtain ⟨h1,he⟩:=qae he;cases he;exact ⟨rfl,V.partOkB_iff.1 h1,rfl⟩
  ·cases he
 case idxA sz x z=>
  split at he
  ·simp only [*];obtain ⟨h1,he⟩:=qae he;cases he;simp only [Bool.and_eq_true,decide_eq_true_eq] at h1;exact ⟨rfl,h1.1.1,h1.1.2,h1.2,rfl⟩
  ·simp only [*];split at he
   ·rename_i hb;obtain ⟨h1,he⟩:=qae he;cases he;simp only [Bool.and_eq_true,decide_eq_true_eq] at h1;simp only [hb];exact ⟨trivial,h1.1.1.1,h1.1.1.2,h1.1.2,h1.2,trivial⟩
   ·cases he
  ·cases he
 case idxP len sz x z=>
  split at he
  ·simp only [*];obtain ⟨h1,he⟩:=qae he;cases he;simp only [Bool.and_eq_true,decide_eq_true_eq] at h1;exact ⟨rfl,h1.1,h1.2,rfl⟩
  ·simp only [*];obtain ⟨h1,he⟩:=qae he;cases he;simp only [Bool.and_eq_true,decide_eq_true_eq] at h1;exact ⟨rfl,h1.1,h1.2,rfl⟩
  ·cases he
 case idxV ag len sz x z=>
  split at he
  ·simp only [*];obtain ⟨h1,he⟩:=qae he;cases he;simp only [Bool.and_eq_true,decide_eq_true_eq] at h1;exact ⟨rfl,h1.1.1,h1.1.2,V.partOkB_iff.1 h1.2,rfl⟩
  ·cases he
 case idxS x z=>
  split at he
  ·simp only [*];obtain ⟨h1,he⟩:=qae he;cases he;simp only [Bool.and_eq_true,decide_eq_true_eq] at h1;exact ⟨rfl,h1.1,h1.2,rfl⟩
  ·cases he
 case len x=>split at he <;> first | (simp only [*]; cases he; exact ⟨rfl,rfl⟩) | cases he
 case lenS x=>split at he <;> first | (simp only [*]; cases he; exact ⟨rfl,rfl⟩) | cases he
 case lenK m=>cases he; exact ⟨rfl,rfl⟩
 case cap x=>split at he <;> first | (simp only [*]; cases he; exact ⟨rfl,rfl⟩) | cases he
 case mm mx x z=>split at he <;> first | (simp only [*]; cases he; exact ⟨rfl,rfl⟩) | cases he
 case extract x i=>
  split at he
  ·simp only [*];obtain ⟨v,h1,h2⟩:=qad he;cases h2;rw [h1];exact ⟨rfl,rfl⟩
  ·cases he
 case cvs x=>split at he <;> first | (simp only [*]; cases he; exact ⟨rfl,rfl⟩) | cases he
 case b2s x=>
  obtain ⟨v,h1,h2⟩:=qad he;obtain ⟨es,h3,h4⟩:=qad h2;obtain ⟨s,h5,h6⟩:=qad h4;cases h6;rw [h1];exact ⟨rfl,qhz (K:=fun es=>match bytesOf es with | some s'=>V.str s' = V.str s | none=>False) h3 (by rw [h5])⟩
end
end
section
open Go Go.MapKept
theorem qlo (c:Array MapEntry) (j:Nat):c.toList.getD j default = c.getD j default:=by
 rw [ji1,ji0,Array.getElem?_toList]
section
variable {P:Program} {gl:Fr} {bs n:Nat} {fr:Fr} {h:Hp} {G:qa5} {M:qas} {a:Act} {w:World}
theorem qmx {k k':V} {r r':Value} {b:Bool} (h:qya k k' = some b) (hr:qal G M k r) (hr':qal G M k' r'):(∀ d,IsKey d r->IsKey d r'/\Instr.sameNow d r r' = some b)/\(b = true->r = r'):=by
 unfold qya at h;split at h
 ·cases h;rw [qba hr,qba hr'];rename_i x y
  have hiff:decide (x = y) = true↔(⟨x.toArray⟩:ByteArray) = ⟨y.toArray⟩:=by
   simp [ByteArray.ext_iff]
  refine ⟨fun d hd=>?_,fun hb=>by rw [hiff.1 hb]⟩;cases d <;> simp only [IsKey] at hd ⊢;refine ⟨trivial,?_⟩;simp only [Instr.sameNow,Option.some.injEq];rw [Bool.eq_iff_iff,bytes_beq,hiff]
 ·rename_i j x j' y
  cases hj:decide (j = j') with
  | false=>rw [hj] at h; cases h
  | true=>
   rw [hj] at h;simp only [cond_true,Option.some.injEq] at h;have hjj:j = j':=by simpa using hj
   subst hjj h;rw [qai hr,qai hr'];refine ⟨fun d hd=>?_,fun hb=>by rw [jiy hb]⟩;cases d <;> simp only [IsKey] at hd ⊢;refine ⟨hd,?_⟩;simp [Instr.sameNow]
   try (rw [Bool.eq_iff_iff]; simp)
 ·cases h
theorem qip {k:V} {r:Value} {d:TypeDesc} (hr:qal G M k r) (hd:IsKey d r):∀ (es:List (V × V)) (l:List MapEntry) (i:Nat) (q:Option (Nat × V)),qks k es i = some q->l.length = es.length->
  (∀ j,j < es.length->qal G M ((es.getD j (.undef,.undef)).1) ((l.getD j default).key)/\qal G M ((es.getD j (.undef,.undef)).2) ((l.getD j default).val))->
  match q with
  | none=>Instr.findNow d r l i = some none
  | some (j,v)=>i≤j/\j - i < es.length/\(l.getD (j - i) default).key = r/\Instr.findNow d r l i = some (some (j,(l.getD (j - i) default).val))/\qal G M v ((l.getD (j - i) default).val)
 | [],l,i,q,h,hl,hrel=>by
  simp only [qks,Option.some.injEq] at h; subst h;have:l = []:=List.length_eq_zero_iff.1 hl;subst this; rfl
 | e :: es,[],i,q,h,hl,hrel=>by simp at hl
 | e :: es,x :: l,i,q,h,hl,hrel=>by
  simp only [qks] at h;have h0:=hrel 0 (by simp);simp only [List.getD_cons_zero] at h0;split at h
  ·rename_i hs;cases h;obtain ⟨s1,s2⟩:=qmx hs hr h0.1;obtain ⟨-,s3⟩:=s1 d hd;have hk:=s2 rfl;refine ⟨ji5 _,by simp,by simp [hk],?_,by simpa using h0.2⟩;simp [Instr.findNow,s3]
  ·rename_i hs;obtain ⟨s1,s2⟩:=qmx hs hr h0.1;obtain ⟨-,s3⟩:=s1 d hd;have ih:=qip hr hd es l (i + 1) q h (by simpa using hl) (fun j hj=>by simpa using hrel (j + 1) (by simpa using hj))
   cases q with
   | none=>simp only [Instr.findNow,s3]; exact ih
   | some jv=>
    obtain ⟨j,v⟩:=jv;obtain ⟨i1,i2,i3,i4,i5⟩:=ih;have e1:j - i = (j - (i + 1)) + 1:=by omega
    refine ⟨by omega,by simp; omega,?_,?_,?_⟩
    ·rw [e1]; simpa using i3
    ·rw [e1]; simp only [Instr.findNow,s3]; simpa using i4
    ·rw [e1]; simpa using i5
  ·cases h
theorem qlb {b g:Nat} {r:Value} (hs:Sim G M h w) (hr:qal G M (.own b g) r) {es:List (V × V)} (hb:lk h b = some (.map g es)):∃ mb rb,M b = some mb/\mb.gen = g/\mb.real = some rb/\mb.sz = 0/\r = .map (some rb)/\qow G M w rb es:=by
 obtain ⟨mb,rb,h1,h2,h3,h4,h5⟩:=hs.hb b _ hb;refine ⟨mb,rb,h1,h2,h3,h4,?_,h5⟩
 cases hr with
 | own _ _ _ mb' hM hg ho hh=>
  rw [h1] at hM; cases hM;obtain ⟨rb',q1,q2⟩:=hh h2.symm;rw [h3] at q1; cases q1;rw [q2,if_pos h4]
theorem q0l {b g:Nat} {r:Value} (hs:Sim G M h w) (hr:qal G M (.own b g) r) {s:List UInt8} {pos:Nat} (hb:lk h b = some (.siter g s pos)):∃ mb rb,M b = some mb/\mb.gen = g/\mb.real = some rb/\mb.sz = 1/\r = .pointer (some ⟨rb,0,none⟩)/\w.heap[rb]? = some (.stringIter ⟨s.toArray⟩ pos):=by
 obtain ⟨mb,rb,h1,h2,h3,h4,h5⟩:=hs.hb b _ hb;refine ⟨mb,rb,h1,h2,h3,h4,?_,h5⟩
 cases hr with
 | own _ _ _ mb' hM hg ho hh=>
  rw [h1] at hM; cases hM;obtain ⟨rb',q1,q2⟩:=hh h2.symm;rw [h3] at q1; cases q1;rw [q2,if_neg (by omega),if_neg (by omega)]
theorem qp5 {b g:Nat} {r:Value} (hs:Sim G M h w) (hr:qal G M (.own b g) r) {g' n2:Nat} {x:V} {seen:List Nat} (hb:lk h b = some (.miter g' x n2 seen)):∃ mb rb,(g' = g->r = .pointer (some ⟨rb,0,none⟩))/\M b = some mb/\mb.gen = g'/\mb.real = some rb/\mb.sz = 1/\∃ r2,qal G M x (.map (some r2))/\w.heap[rb]? = some (.mapIter (some r2) n2 seen.toArray n2):=by
 obtain ⟨mb,rb,h1,h2,h3,h4,h5⟩:=hs.hb b _ hb;refine ⟨mb,rb,fun e=>?_,h1,h2,h3,h4,h5⟩
 cases hr with
 | own _ _ _ mb' hM hg ho hh=>
  rw [h1] at hM; cases hM;obtain ⟨rb',q1,q2⟩:=hh (by omega);rw [h3] at q1; cases q1;rw [q2,if_neg (by omega),if_neg (by omega)]
theorem q0m {b g:Nat} {r:Value} (hs:Sim G M h w) (hr:qal G M (.own b g) r) {m:Nat} {fr:Fr} {ps:List Nat} {asg body:Code} {busy:Bool} (hb:lk h b = some (.loop g m fr ps asg body busy)):∃ mb rb,M b = some mb/\mb.gen = g/\mb.real = some rb/\mb.sz = 2/\r = .func (.yield rb) #[] #[]/\qvr G M w rb m fr ps asg body busy:=by
 obtain ⟨mb,rb,h1,h2,h3,h4,h5⟩:=hs.hb b _ hb;refine ⟨mb,rb,h1,h2,h3,h4,?_,h5⟩
 cases hr with
 | own _ _ _ mb' hM hg ho hh=>
  rw [h1] at hM; cases hM;obtain ⟨rb',q1,q2⟩:=hh h2.symm;rw [h3] at q1; cases q1;rw [q2,if_neg (by omega),if_pos h4]
theorem qmj (n:Int) (hn:0≤n/\n < 256):∀ (l:List UInt8) (pre:List UInt8),qju n l pre.length = match (List.range' pre.length l.length).find? (fun (i:Nat)=>(pre ++ l)[i]! == UInt8.ofNat n.toNat) with
  | some i=>(i:Int)
  | none=>-1
 | [],pre=>rfl
 | b :: r,pre=>by
  have ih:=qmj n hn r (pre ++ [b]);simp only [qju,List.length_cons,List.range'_succ,List.find?_cons];have e1:(pre ++ b :: r)[pre.length]! = b:=by simp
  have e2:(decide ((b.toNat:Int) = n)) = (b == UInt8.ofNat n.toNat):=by
   rw [Bool.eq_iff_iff,decide_eq_true_eq,beq_iff_eq];constructor
   ·intro h;apply UInt8.toNat_inj.1;rw [UInt8.toNat_ofNat'];omega
   ·intro h;rw [h,UInt8.toNat_ofNat'];omega
  rw [e1,e2]
  cases hb:(b == UInt8.ofNat n.toNat) with
  | true=>simp
  | false=>
   simp only [cond_false];have e3:(pre ++ [b]).length = pre.length + 1:=by simp
   rw [e3] at ih;rw [ih]
   have e4:(fun (i:Nat)=>(pre ++ [b] ++ r)[i]! == UInt8.ofNat n.toNat) = fun (i:Nat)=>(pre ++ b :: r)[i]! == UInt8.ofNat n.toNat:=by
    funext i; simp
   rw [e4]
theorem qx9 {t e:TypeId} (hu:P.underlying t = some (.slice e)) (ra:Option Addr) (len cap l2 c2:Nat) (neg:Bool) :
  (binOp (if neg then .neq else .eql) t (.slice ra len cap) (.slice none l2 c2)).run P w = .ok (.bool (if neg then !ra.isNone else ra.isNone)) w:=by
 have hq:(Op.equal t (.slice ra len cap) (.slice none l2 c2)).run P w = .ok ra.isNone w:=by
  show (Op.equalIn (9999 + 1) t (.slice ra len cap) (.slice none l2 c2)).run P w = _;unfold Op.equalIn;simp only [Sem.run_bind,run_underlying hu,Result.andThen_ok];cases ra <;> rfl
 cases neg
 ·show (do pure (.bool (<- Op.equal t (.slice ra len cap) (.slice none l2 c2))):Sem Value).run P w = _;simp only [Sem.run_bind,hq,Result.andThen_ok,Sem.run_pure];rfl
 ·show (do pure (.bool (!(<- Op.equal t (.slice ra len cap) (.slice none l2 c2)))):Sem Value).run P w = _;simp only [Sem.run_bind,hq,Result.andThen_ok,Sem.run_pure];rfl
theorem qmc {o:Oper} {t e ty:TypeId} {x y:Operand} (neg:Bool) (ho:o.op = .binOp (if neg then .neq else .eql) t x y ty) (hu:P.underlying t = some (.slice e)) (hny:qh8 y = true) {ra:Option Addr} {len cap:Nat} (hx:a.eval x = .slice ra len cap) :
  (execOp a.eval o).run P w = .ok (.value (.bool (if neg then !ra.isNone else ra.isNone))) w:=by
 cases y with
 | const cv=>
  cases cv <;> simp only [qh8,Bool.false_eq_true] at hny;rename_i rb l2 c2
  cases rb with
  | some _=>simp at hny
  | none=>
   have hev:a.eval (.const (.slice none l2 c2)) = .slice none l2 c2:=rfl
   have hg:(eqGuard (if neg then .neq else .eql) t x (.const (.slice none l2 c2)) (.slice ra len cap) (.slice none l2 c2)).run P w = .ok () w:=by
    cases neg <;> rfl
   simp only [execOp,ho,hx,hev,Sem.run_bind,hg,Result.andThen_ok,qx9 hu,Sem.run_pure]
 | tmp _=>simp [qh8] at hny
 | global _=>simp [qh8] at hny
 | func _=>simp [qh8] at hny
theorem qlj (hr:R bs n gl G M fr h a w) {o:Oper} {t e ty:TypeId} {x1 y1:Operand} (neg:Bool) (ho:o.op = .binOp (if neg then .neq else .eql) t x1 y1 ty) (hu:P.underlying t = some (.slice e)) (hny:qh8 y1 = true)
  {gf:Nat->Nat} {id:Nat} {y:Y} (he:nop gl gf id (lk fr) (lk h) (.isnil neg (co x1)) = some y) {Q:Exit->Act->World->Prop}:y.2.1 = []/\o.wp P a w (qao (fun v _=>v = y.1) G M w o a h) Q:=by
 have key:∀ (ra:Option Addr) (len cap:Nat),a.eval x1 = .slice ra len cap->∀ bb,ra.isNone = bb->∀ rd,y = (.bool (if neg then !bb else bb),[],rd)->y.2.1 = []/\o.wp P a w (qao (fun v _=>v = y.1) G M w o a h) Q:=by
  intro ra len cap hra bb hbb rd hy;subst hy hbb;exact ⟨rfl,qaj hr (rv:=.bool (if neg then !ra.isNone else ra.isNone)) (qmc neg ho hu hny hra) rfl (.bool _)⟩
 simp only [nop,qby] at he;split at he
 ·rename_i hv;cases he;have:=qax hr hv;generalize hev:a.eval x1 = r at this;cases this;exact key none 0 0 hev true rfl [] (by cases neg <;> rfl)
 ·rename_i hv;cases he;have:=qax hr hv;generalize hev:a.eval x1 = r at this
  cases this with
  | sl xs cap rb ro rcap sz cells hne hG hsz hb hl hcc hh ho'=>exact key (some ⟨rb,ro,none⟩) _ _ hev false rfl [] (by cases neg <;> rfl)
 ·rename_i b g off len cap hv;split at he
  ·rename_i g' sz es hb;obtain ⟨h1,h2⟩:=qae he;cases h2;have hgg:g' = g:=by simpa using h1
   subst hgg;obtain ⟨ra,rcap,mb,e1,hM,hg,hl,hcc,hh⟩:=qhq (qax hr hv);obtain ⟨mb0,q1,q2,q3,q4⟩:=hr.sim.hb b _ hb;rw [hM] at q1; cases q1;have hre:=hh q2.symm
   have hsome:∃ ad,ra = some ad:=by
    unfold qbr at hre;split at hre
    ·omega
    ·rcases hre with ⟨e,-⟩ | ⟨e,-⟩
     ·exact ⟨_,e⟩
     ·omega
   obtain ⟨ad,rfl⟩:=hsome;exact key (some ad) _ _ e1 false rfl [b] (by cases neg <;> rfl)
  ·cases he
 ·cases he
theorem qrj {kt:TypeId} (hkk:qnv P kt = true):∃ d,P.underlying kt = some d/\((∃ j,d = .int j)∨d = .string):=by
 unfold qnv at hkk;split at hkk
 ·rename_i j hj; exact ⟨_,hj,.inl ⟨j,rfl⟩⟩
 ·rename_i hj; exact ⟨_,hj,.inr rfl⟩
 ·cases hkk
def add64E:Array Value->Sem Value:=fun args=>do
 let (x,y,c) <- Extern.MathBitsCarry.three "Add64" args
 pure (Extern.MathBitsCarry.pair ((x + y + c) % Extern.MathBitsCarry.m64) ((x + y + c) / Extern.MathBitsCarry.m64))
theorem qvu {P:Program} {w:World} (A B C:Nat) (hC:C≤1):(add64E #[.int .u64 (A:Int),.int .u64 (B:Int),.int .u64 (C:Int)]).run P w = .ok (.tuple #[.int .u64 (((A:Int) + B + C) % 18446744073709551616),.int .u64 (((A:Int) + B + C) / 18446744073709551616)]) w:=by
 have h3:Extern.MathBitsCarry.three "Add64" #[.int .u64 (A:Int),.int .u64 (B:Int),.int .u64 (C:Int)] = (do
  let c:=(<- asInt (.int .u64 (C:Int))).toNat
  if c > 1 then unsupported (.noEntry ("extern/math/bits." ++ "Add64" ++ ": a carry that is neither 0 nor 1"))
  pure ((<- asInt (.int .u64 (A:Int))).toNat,(<- asInt (.int .u64 (B:Int))).toNat,c)):=rfl
 have hi:∀ n:Nat,(asInt (.int .u64 (n:Int))).run P w = .ok (n:Int) w:=fun n=>by simp [asInt,asIntOf]
 have hC':¬ C > 1:=by omega
 have e1:Extern.MathBitsCarry.pair ((A + B + C) % Extern.MathBitsCarry.m64) ((A + B + C) / Extern.MathBitsCarry.m64) = .tuple #[.int .u64 (((A:Int) + B + C) % 18446744073709551616),.int .u64 (((A:Int) + B + C) / 18446744073709551616)]:=by
  have hm:Extern.MathBitsCarry.m64 = 18446744073709551616:=by decide
  unfold Extern.MathBitsCarry.pair;rw [hm];rfl
 unfold add64E;rw [h3];simp only [Sem.run_bind,hi,Result.andThen_ok,Int.toNat_natCast,if_neg hC',Sem.run_pure,e1]
theorem q0i (hr:R bs n gl G M fr h a w) {o:Oper} {x:NOp} (hc:qje P o = some x∨x = .bad) (hp:x.pure = true) {gf:Nat->Nat} {id:Nat} {y:Y} (he:nop gl gf id (lk fr) (lk h) x = some y) {Q:Exit->Act->World->Prop} :
  y.2.1 = []/\o.wp P a w (qao (fun v _=>v = y.1) G M w o a h) Q:=by
 rcases hc with hc | rfl
 case inr=>simp [nop] at he
 unfold qje at hc;split at hc
 ·rename_i op t x1 y1 ty ho;split at hc
  ·rename_i e hu;split at hc
   ·rename_i hny; cases hc; exact qlj hr false ho hu hny he
   ·cases hc
  ·rename_i e hu;split at hc
   ·rename_i hny; cases hc; exact qlj hr true ho hu hny he
   ·cases hc
  ·cases hc
 ·cases hc; simp [NOp.pure] at hp
 ·rename_i t m k ok ho;split at hc
  ·rename_i kt et hu;split at hc
   ·rename_i hkk
    cases hz:qcm P et with
    | none=>rw [hz] at hc; cases hc
    | some z=>
     rw [hz] at hc; cases hc;simp only [nop,qby] at he;split at he
     ·rename_i b g kv hm hk;split at he
      ·rename_i g' es hb;obtain ⟨h1,h2⟩:=qae he;simp only [Bool.and_eq_true,decide_eq_true_eq] at h1;obtain ⟨hgg,hkf⟩:=h1;subst hgg;obtain ⟨mb,rb,m1,m2,m3,m4,m5,entries,clock,m6,m7,m8⟩:=qlb hr.sim (qax hr hm) hb;have rk:=qax hr hk;obtain ⟨z1,z2,-⟩:=qce hz;obtain ⟨d,hd,hdk⟩:=qrj hkk
       have hkey:IsKey d (a.eval k):=by
        rcases hdk with ⟨j,rfl⟩ | rfl
        ·have hkd:qep P kt = some (some j):=by simp [qep,hd]
         rw [hkd] at hkf;cases kv <;> simp only [qeb,Bool.false_eq_true,decide_eq_true_eq] at hkf;rw [qai rk]; exact hkf
        ·have hkd:qep P kt = some none:=by simp [qep,hd]
         rw [hkd] at hkf;cases kv <;> simp only [qeb,Bool.false_eq_true] at hkf;rw [qba rk]; trivial
       have hrel:∀ j,j < es.length->qal G M ((es.getD j (.undef,.undef)).1) ((entries.toList.getD j default).key)/\qal G M ((es.getD j (.undef,.undef)).2) ((entries.toList.getD j default).val):=fun j hj=>by
        rw [qlo]; exact m8 j hj
       have fin:∀ (rv:Value) (q:Option (Nat × Value)) (v:V) (fnd:Bool),Instr.findNow d (a.eval k) entries.toList 0 = some q->qal G M v rv->(match q with | some (_,u)=>rv = u/\fnd = true | none=>rv = z/\fnd = false)->
         o.wp P a w (qao (fun v' _=>v' = (bif ok then .tup [v,.bool fnd] else v)) G M w o a h) Q:=by
        intro rv q v fnd hfn hrelv hq;refine qaj hr (rv:=if ok then .tuple #[rv,.bool fnd] else rv) ?_ rfl ?_
        ·simp only [execOp,ho,Instr.lookup,Sem.run_bind,run_underlying hu,Result.andThen_ok,m5,MapKept.run_getObj_map m6,Sem.run_pure,MapKept.run_checkKey (n:=9999) hd hkey,MapKept.run_findKey hd hfn]
         cases q with
         | none=>obtain ⟨rfl,rfl⟩:=hq; simp [z1]
         | some ju=>obtain ⟨j,u⟩:=ju; obtain ⟨rfl,rfl⟩:=hq; simp
        ·cases ok
         ·exact hrelv
         ·exact .tup _ _ rfl (fun i hi=>by
           match i,hi with
           | 0,_=>exact hrelv
           | 1,_=>exact .bool _)
       cases hq:qks kv es 0 with
       | none=>rw [hq] at h2; cases h2
       | some q=>
        have hfs:=qip (d:=d) rk hkey es entries.toList 0 q hq (by simpa using m7.1) hrel;rw [hq] at h2
        cases q with
        | none=>
         cases h2;exact ⟨rfl,fin z none (qf3 z) false hfs (qlg G M z2) ⟨rfl,rfl⟩⟩
        | some iv=>
         obtain ⟨i,v⟩:=iv;cases h2;obtain ⟨-,-,-,f4,f5⟩:=hfs;exact ⟨rfl,fin _ _ v true f4 f5 ⟨rfl,rfl⟩⟩
      ·cases he
     ·rename_i kv hm hk;obtain ⟨hkf,h2⟩:=qae he;cases h2;have rm:a.eval m = .map none:=by have:=qax hr hm; generalize a.eval m = r at this; cases this; rfl
      have rk:=qax hr hk;obtain ⟨z1,z2,-⟩:=qce hz;obtain ⟨d,hd,hdk⟩:=qrj hkk
      have hkey:IsKey d (a.eval k):=by
       rcases hdk with ⟨j,rfl⟩ | rfl
       ·have hkd:qep P kt = some (some j):=by simp [qep,hd]
        rw [hkd] at hkf;cases kv <;> simp only [qeb,Bool.false_eq_true,decide_eq_true_eq] at hkf;rw [qai rk]; exact hkf
       ·have hkd:qep P kt = some none:=by simp [qep,hd]
        rw [hkd] at hkf;cases kv <;> simp only [qeb,Bool.false_eq_true] at hkf;rw [qba rk]; trivial
      refine ⟨rfl,qaj hr (rv:=if ok then .tuple #[z,.bool false] else z) ?_ rfl ?_⟩
      ·simp only [execOp,ho,Instr.lookup,Sem.run_bind,run_underlying hu,Result.andThen_ok,rm,Sem.run_pure,MapKept.run_checkKey (n:=9999) hd hkey,MapKept.run_findKey hd (show Instr.findNow d (a.eval k) (#[]:Array MapEntry).toList 0 = some none from rfl)];simp [z1]
      ·have hrelv:=qlg G M z2;cases ok
       ·exact hrelv
       ·exact .tup _ _ rfl (fun i hi=>by
         match i,hi with
         | 0,_=>exact hrelv
         | 1,_=>exact .bool _)
     ·cases he
   ·cases hc
  ·cases hc
 ·split at hc
  ·split at hc
   ·cases hc; simp [NOp.pure] at hp
   ·cases hc
  ·cases hc
 ·split at hc
  ·cases hc; simp [NOp.pure] at hp
  ·cases hc; simp [NOp.pure] at hp
  ·cases hc
 ·cases hc; simp [NOp.pure] at hp
 ·cases hc; simp [NOp.pure] at hp
 ·rename_i it ho;cases hc;simp only [nop,qby] at he;split at he
  ·rename_i b g hx;split at he
   ·rename_i g' b2 g2 n2 seen hb;split at he
    ·rename_i g3 es hb2;split at he
     ·rename_i i hi;obtain ⟨h1,h2⟩:=qae he;simp only [Bool.and_eq_true,decide_eq_true_eq] at h1;obtain ⟨⟨⟨e1,e2⟩,e3⟩,e4⟩:=h1;subst e1; subst e2; subst e3;cases h2;obtain ⟨mb,rb,m5,-,-,-,-,r2,m6,m7⟩:=qp5 hr.sim (qax hr hx) hb;have m5:=m5 rfl;obtain ⟨mb2,rb2,k1,k2,k3,k4,k5,entries,clock,k6,⟨k7,k8,k9⟩,k10⟩:=qlb hr.sim m6 hb2;cases k5;obtain ⟨s0,rfl⟩:∃ s0,seen = s0 ++ [i]:=List.getLast?_eq_some_iff.1 hi;have hlt:i < entries.size:=by omega
      have hbo:(entries[i]).born = i:=by
       have:=k9 i e4;simpa [ji1,hlt] using this
      have hnd:(entries.toList.map (·.born)).Nodup:=by
       have:entries.toList.map (·.born) = List.range es.length:=by
        refine List.ext_getElem (by simp [k7]) fun j h1 h2=>?_;have hj:j < es.length:=by simpa [k7] using h1
        have:=k9 j hj;have hj2:j < entries.size:=by omega
        simpa [ji1,hj2] using this
       rw [this]; exact List.nodup_range
      have hse:(s0 ++ [i]).toArray = s0.toArray.push (entries[i]).born:=by rw [hbo]; simp
      rw [hse] at m7;have hrun:=run_entry_at (P:=P) w rb _ es.length s0.toArray entries clock (entries[i]) (by rw [k8]; exact m7) k6 (by simp) hnd;obtain ⟨q1,q2⟩:=k10 i e4;have hg:entries.getD i default = entries[i]:=by simp [ji1,hlt]
      rw [hg] at q1 q2;refine ⟨rfl,qaj hr (rv:=.tuple #[(entries[i]).key,(entries[i]).val]) ?_ rfl (.tup _ _ rfl fun j hj=>?_)⟩
      ·simp only [execOp,ho,m5,Sem.run_bind,hrun,Result.andThen_ok,Sem.run_pure]
      ·match j,hj with
       | 0,_=>exact q1
       | 1,_=>exact q2
     ·cases he
    ·cases he
   ·cases he
  ·cases he
 ·rename_i c ho;split at hc
  ·rename_i f x1 y1 hcal hargs;split at hc
   ·rename_i hf;cases hc;simp only [nop,qby] at he;split at he
    ·rename_i l nn hl hn;obtain ⟨h1,h2⟩:=qae he;cases h2;simp only [Bool.and_eq_true,decide_eq_true_eq] at h1;refine ⟨rfl,?_⟩;have es:=qba (qax hr hl);have en:=qai (qax hr hn);have ha2:=qgb hargs;unfold qpn at hf;split at hf
     ·rename_i fn hfn;simp only [Bool.and_eq_true,beq_iff_eq,Option.isNone_iff_eq_none] at hf;obtain ⟨⟨hname,hbody⟩,hnext⟩:=hf
      have hfind:Extern.find fn = some Extern.BytealgIndexByte.indexByte:=by
       have g1:Extern.allGenericRows.lookup "internal/bytealg.IndexByteString" = none:=by kernel_rfl
       have g2:Extern.allTypedRows.lookup "internal/bytealg.IndexByteString" = none:=by kernel_rfl
       have g3:Extern.allRows.lookup "internal/bytealg.IndexByteString" = some Extern.BytealgIndexByte.indexByte:=by kernel_rfl
       simp [Extern.find,hname,g1,g2,g3]
      have hrun:(Extern.BytealgIndexByte.indexByte #[.string ⟨l.toArray⟩,.int .u8 nn]).run P w = .ok (.int .i64 (qju nn l 0)) w:=by
       have hsp:=qmj nn h1 l [];simp only [List.length_nil,List.nil_append] at hsp;rw [hsp];have hsz:(⟨l.toArray⟩:ByteArray).size = l.length:=by simp [ByteArray.size]
       have hget:∀ i:Nat,(⟨l.toArray⟩:ByteArray)[i]! = l[i]!:=fun i=>by
        rcases Nat.lt_or_ge i l.length with hi | hi
        ·rw [getElem!_pos (⟨l.toArray⟩:ByteArray) i (by rw [hsz]; exact hi),getElem!_pos l i hi]; rfl
        ·rw [getElem!_neg (⟨l.toArray⟩:ByteArray) i (by rw [hsz]; omega),getElem!_neg l i (by omega)]
       have hb8:nn.toNat.toUInt8 = UInt8.ofNat nn.toNat:=rfl
       show (do
        let b <- Extern.Bytes.bytesOf (.string ⟨l.toArray⟩)
        let c <- Extern.Bytes.asByte (.int .u8 nn)
        match (List.range b.size).find? fun i=>b[i]! == c with
        | some i=>pure (goInt i)
        | none=>pure (goInt (-1)):Sem Value).run P w = _
       simp only [Extern.Bytes.bytesOf,Extern.Bytes.asByte,Sem.run_bind,Sem.run_pure,Result.andThen_ok,hsz,hget,hb8,List.range_eq_range']
       cases hq:(List.range' 0 l.length).find? (fun (i:Nat)=>l[i]! == UInt8.ofNat nn.toNat) with
       | none=>rfl
       | some i=>rfl
      refine qaj hr (rv:=.int .i64 (qju nn l 0)) ?_ rfl (.int _ _);have hfv:a.eval (.func f) = .func (.func f) #[] #[]:=rfl
      have hcall:(callFunc f #[.string ⟨l.toArray⟩,.int .u8 nn]).run P w = .ok (.value (.int .i64 (qju nn l 0))) w:=by
       have hne:(fn.name == "runtime.NumGoroutine") = false:=by rw [hname]; rfl
       simp [callFunc,hfn,hname,hbody,hnext,hfind,hrun]
      simp [execOp,ho,resolve,hcal,hfv,Deferred.ofValue,invoke,ha2,es,en,hcall]
     ·cases hf
    ·cases he
   ·cases hc
  ·rename_i f x1 y1 z1 hcal hargs;split at hc
   ·rename_i hf;cases hc;simp only [nop,qby] at he;split at he
    ·rename_i na nb nc hx hy hz;obtain ⟨h1,h2⟩:=qae he;cases h2;simp only [Bool.and_eq_true,decide_eq_true_eq] at h1;obtain ⟨⟨⟨h1,h2⟩,h3⟩,h4⟩:=h1;refine ⟨rfl,?_⟩;have ea:=qai (qax hr hx);have eb':=qai (qax hr hy);have ec:=qai (qax hr hz);have ha3:c.args = #[x1,y1,z1]:=by rw [<- Array.toArray_toList (xs:=c.args),hargs]
     unfold qw2 at hf;split at hf
     ·rename_i fn hfn;simp only [Bool.and_eq_true,beq_iff_eq,Option.isNone_iff_eq_none] at hf;obtain ⟨⟨hname,hbody⟩,hnext⟩:=hf;obtain ⟨A,rfl⟩:=Int.eq_ofNat_of_zero_le h1;obtain ⟨B,rfl⟩:=Int.eq_ofNat_of_zero_le h2;obtain ⟨C,rfl⟩:=Int.eq_ofNat_of_zero_le h3
      have hfind:Extern.find fn = some add64E:=by
       have g1:Extern.allGenericRows.lookup "math/bits.Add64" = none:=by kernel_rfl
       have g2:Extern.allTypedRows.lookup "math/bits.Add64" = none:=by kernel_rfl
       have g3:Extern.allRows.lookup "math/bits.Add64" = some add64E:=by kernel_rfl
       simp [Extern.find,hname,g1,g2,g3]
      have hC:¬ C > 1:=by omega
      have hrun:(add64E #[.int .u64 (A:Int),.int .u64 (B:Int),.int .u64 (C:Int)]).run P w = .ok (.tuple #[.int .u64 (((A:Int) + B + C) % 18446744073709551616),.int .u64 (((A:Int) + B + C) / 18446744073709551616)]) w:=qvu A B C (by omega);refine qaj hr (rv:=.tuple #[.int .u64 (((A:Int) + B + C) % 18446744073709551616),.int .u64 (((A:Int) + B + C) / 18446744073709551616)]) ?_ rfl (.tup _ _ rfl fun i hi=>?_)
      ·have hfv:a.eval (.func f) = .func (.func f) #[] #[]:=rfl
       have hcall:(callFunc f #[.int .u64 (A:Int),.int .u64 (B:Int),.int .u64 (C:Int)]).run P w = .ok (.value (.tuple #[.int .u64 (((A:Int) + B + C) % 18446744073709551616),.int .u64 (((A:Int) + B + C) / 18446744073709551616)])) w:=by
        have hne:(fn.name == "runtime.NumGoroutine") = false:=by rw [hname]; rfl
        simp [callFunc,hfn,hname,hbody,hnext,hfind,hrun]
       simp [execOp,ho,resolve,hcal,hfv,Deferred.ofValue,invoke,ha3,ea,eb',ec,hcall]
      ·match i,hi with
       | 0,_=>exact .int _ _
       | 1,_=>exact .int _ _
     ·cases hf
    ·cases he
   ·cases hc
  ·split at hc
   ·split at hc
    ·split at hc
     ·split at hc
      ·cases hc; simp [NOp.pure] at hp
      ·cases hc
     ·cases hc
    ·cases hc
   ·cases hc
  ·cases hc
 ·rename_i x1 ho;cases hc;simp only [nop,qby] at he;split at he
  ·rename_i b g i o' hv;cases he;have:=qax hr hv;generalize hev:a.eval x1 = r at this
   cases this with
   | ptr _ _ _ _ ad mb hM hg hh=>exact ⟨rfl,qaj hr (rv:=.pointer (some ad)) (by simp [execOp,ho,hev]) rfl (.ptr _ _ _ _ _ _ hM hg hh)⟩
  ·rename_i x2 o' hv;cases he;have:=qax hr hv;generalize hev:a.eval x1 = r at this
   cases this with
   | iptr _ _ rb ro cells hG hb hx hy=>exact ⟨rfl,qaj hr (rv:=.pointer (some ⟨rb,ro + o',none⟩)) (by simp [execOp,ho,hev]) rfl (.iptr _ _ _ _ _ hG hb hx hy)⟩
  ·cases he
 ·cases hc
theorem q0t {o:Obj} (hs:Sim G M h w) (id:Nat) (mb:MB) (k:Blk) (hgen:mb.gen = qaa M id) (hreal:mb.real = some w.heap.size) (hk:qck G (upd M id mb) (w.alloc o) id k) :
  Sim G (upd M id mb) ((id,k) :: h) (w.alloc o)/\Ext G M w G (upd M id mb) (w.alloc o):=by
 refine hs.change id mb k (fun mb0 h0=>.inl (by rw [hgen]; simp [qaa,h0])) (fun rb hrb=>?_) (by show _≤(w.heap.push o).size; simp) (fun q hq hne=>(MapKept.heap_alloc w o).2 q hq) (fun _ _ _ _=>trivial) rfl rfl rfl hk;rw [hreal] at hrb;cases hrb;exact .inl ⟨ji5 _,by show _ < (w.heap.push o).size; simp⟩
theorem qyf {o:Obj} (hs:Sim G M h w) (id:Nat) (mb:MB) (k:Blk) (hgen:mb.gen = qaa M id) (hreal:mb.real = some w.heap.size) (hk:∀ M',M' id = some mb->qck G M' (w.alloc o) id k) :
  Sim G (upd M id mb) ((id,k) :: h) (w.alloc o)/\Ext G M w G (upd M id mb) (w.alloc o):=by
 refine hs.change id mb k (fun mb0 h0=>.inl (by rw [hgen]; simp [qaa,h0])) (fun rb hrb=>?_) (by show _≤(w.heap.push o).size; simp) (fun q hq hne=>(MapKept.heap_alloc w o).2 q hq) (fun _ _ _ _=>trivial) rfl rfl rfl (hk _ (qaw _ _ _));rw [hreal] at hrb;cases hrb;exact .inl ⟨ji5 _,by show _ < (w.heap.push o).size; simp⟩
theorem qwc (hs:Sim G M h w) {sz:Nat} {vy:V} {ry:Value} {ys:List V} (he:qcz h sz (fun l=>l = ys) vy) (hy:qal G M vy ry) (m:Nat) (hm:m≤ys.length) (h0:0 < m) :
  ∃ ra rcap cells,ry = .slice ra ys.length rcap/\qco G M sz (ys.take m) cells/\∀ w':World,w'.heap = w.heap->(Builtin.firstCells sz m ry).run P w' = .ok cells.toArray w':=by
 have key:∀ (vs:V) (ra:Option Addr) (rcap:Nat),qcz h sz (fun l=>l = ys.take m) vs->qal G M vs (.slice ra m rcap)->ry = .slice ra ys.length rcap->∃ ra rcap cells,ry = .slice ra ys.length rcap/\qco G M sz (ys.take m) cells/\∀ w':World,w'.heap = w.heap->(Builtin.firstCells sz m ry).run P w' = .ok cells.toArray w':=by
  intro vs ra rcap he1 hr1 hry;obtain ⟨zs,ra2,rc2,cells,rfl,e2,f,r⟩:=qca (P:=P) hs he1 hr1;refine ⟨ra,rcap,cells,hry,f,fun w' hw'=>?_⟩;have hlen:(ys.take m).length = m:=by simp; omega
  have:=r w' hw';rw [hlen] at this;rw [hry];cases ra <;> exact this
 unfold qcz at he;split at he
 ·rename_i xs cap;obtain ⟨hall,rfl⟩:=he;have hne:xs ≠ []:=fun e=>by subst e; simp at hm; omega
  cases hy with
  | slnil=>exact absurd rfl hne
  | sl _ _ rb ro rcap sz' cells _ hG hsz hb hl hc hh ho=>
   have hgm:∀ i,i < m->(xs.take m).getD i .undef = xs.getD i .undef:=fun i hi=>by simp [ji0,hi]
   have hlen:(xs.take m).length = m:=by simp; omega
   refine key (.sl (xs.take m) none) _ rcap ⟨fun x hx=>hall x (List.mem_of_mem_take hx),rfl⟩ ?_ rfl
   have:=qal.sl (G:=G) (M:=M) (xs.take m) none rb ro rcap sz' cells (fun e=>by rw [e] at hlen; simp at hlen; omega) hG (fun i hi=>by rw [hlen] at hi; rw [hgm i hi]; exact hsz i (by omega))
    (by rw [hlen]; have:=Nat.mul_le_mul_right sz' hm; omega) (by omega) (by simp) (fun i j hi hj=>by rw [hlen] at hi; rw [hgm i hi]; exact hh i j (by omega) hj) (fun i j hi hj=>by rw [hlen] at hi; exact ho i j (by omega) hj)
   rwa [hlen] at this
 ·rename_i b g off len cap;split at he
  ·rename_i g' sz' es hb;obtain ⟨rfl,rfl,hle,hk⟩:=he;subst hk;have hlen:((es.drop off).take len).length = len:=by simp; omega
   rw [hlen] at hm
   cases hy with
   | ref _ _ _ _ _ ra rcap mb hM hg hl hcc hh=>
    refine key (.ref b g' off m none) ra rcap ?_ (.ref b g' off m none ra rcap mb hM hg (by omega) (by simp) fun e=>?_) (by rw [hlen])
    ·simp only [qcz,hb];exact ⟨trivial,trivial,by omega,by rw [List.take_take,Nat.min_eq_left hm]⟩
    ·have:=hh e;unfold qbr at this ⊢;split at this
     ·exact this
     ·rcases this with q | ⟨q,q2⟩
      ·exact .inl q
      ·omega
  ·exact he.elim
 ·exact he.elim
theorem q0p {s t2 tt e:TypeId} {sz m:Nat} (h1:P.underlying s = some (.slice e)) (hsz:∀ w,(sizeOf e).run P w = .ok sz w) {ra rb:Option Addr} {l cap k cy:Nat} {new:List Value} {w':World} (hm:min k l = m)
  (hnew:(Builtin.firstCells sz m (.slice rb k cy)).run P w = .ok new.toArray w) (hst:(ra = none/\w' = w)∨∃ ad,ra = some ad/\(storeCells ad new).run P w = .ok () w') :
  (Builtin.copy_ #[s,t2] tt #[.slice ra l cap,.slice rb k cy]).run P w = .ok (.int .i64 (m:Int)) w':=by
 have hmn:Nat.min k l = m:=hm;simp only [Builtin.copy_,List.getElem?_toArray,List.getElem?_cons_zero,List.getElem?_cons_succ,Sem.run_bind,underlying,run_program,Result.andThen_ok,h1,Sem.run_pure,hsz,Builtin.lenOf,hmn,hnew];rcases hst with ⟨rfl,rfl⟩ | ⟨ad,rfl,hst⟩
 ·simp [goInt]
 ·simp [hst,goInt]
theorem qyj (hr:R bs n gl G M fr h a w) {o:Oper} {c:Call} {t t2 e e2:TypeId} {x y:Operand} {ty:Bool × Nat × Nat} {Q:Exit->Act->World->Prop} (ho:o.op = .call c) (hc:c.callee = .builtin .copy)
  (ha:c.args.toList = [x,y]) (hat:c.argTypes.toList = [t,t2]) (h1:P.underlying t = some (.slice e)) (_h1':P.underlying t2 = some (.slice e2)) (h2:qc3 P e = some ty) (hn0:ty.2.1 ≠ 0) {id:Nat}
  {b g off len:Nat} {cap:Option Nat} {vy:V} {es ys:List V} (hx:evN gl fr (co x) = some (.ref b g off len cap)) (hy:evN gl fr (co y) = some vy) (hb:lk h b = some (.row g ty.2.1 es)) (hys:qcz h ty.2.1 (fun l=>l = ys) vy) (hle:off + len≤es.length) :
  o.wp P a w (qe5 h id (fun v h'=>v = .int .i64 ((min ys.length len:Nat):Int)/\h' = (b,.row g ty.2.1 (es.take off ++ ys.take (min ys.length len) ++ es.drop (off + min ys.length len))) :: h) G M w o a) Q:=by
 obtain ⟨-,hsz,-⟩:=qbn (P:=P) (t:=e) (ag:=ty.1) (n:=ty.2.1) (by_:=ty.2.2) (by rw [h2]);have ha':=qgb ha;have hat':=qgb hat;obtain ⟨m,hm⟩:∃ m,min ys.length len = m:=⟨_,rfl⟩;rw [hm];have rx:=qd9 hr hx;have ry:=qd9 hr hy;obtain ⟨zs,ra2,rc2,cells2,hzs,ey,f2,r2⟩:=qca (P:=P) hr.sim hys ry;subst hzs;obtain ⟨mb0,q1,q2,q3,q4⟩:=hr.sim.hb b _ hb;obtain ⟨ra',cx',mb',ex',hM,hg,hl,hcc,hh⟩:=qhq rx;rw [q1] at hM; cases hM;have hre:=hh q2.symm;have nb:∀ x,lk h x = none->x ≠ b:=fun x h0 e=>by subst e; rw [hb] at h0; cases h0
 have hexec:∀ {w':World} (new:Array Value),(Builtin.firstCells ty.2.1 m (a.eval y)).run P w = .ok new w->((∃ ad,ra' = some ad/\(storeCells ad new.toList).run P w = .ok () w')∨(ra' = none/\w' = w))->(execOp a.eval o).run P w = .ok (.value (.int .i64 (m:Int))) w':=by
  intro w' new hf hst
  have hrun:=q0p (P:=P) (w:=w) (w':=w') (t2:=t2) (tt:=o.type) (cap:=cx') (new:=new.toList) h1 hsz hm (by rw [<- ey]; simpa using hf) (ra:=ra') (by
   rcases hst with ⟨ad,rfl,hst⟩ | ⟨rfl,rfl⟩
   ·exact .inr ⟨ad,rfl,hst⟩
   ·exact .inl ⟨rfl,rfl⟩)
  simp [execOp,ho,resolve,hc,invoke,builtin,ha',hat',ex',ey,hrun]
 have hc0:∀ rx',(Builtin.firstCells ty.2.1 0 (.slice ra2 rx' rc2)).run P w = .ok #[] w:=fun rx'=>by
  cases ra2 <;> simp [Builtin.firstCells,loadCells,loadCellsFrom]
 by_cases hm0:m = 0
 ·-- nothing is copied
  subst hm0;have hnew:es.take off ++ zs.take 0 ++ es.drop (off + 0) = es:=by simp
  rw [hnew];refine qb8 (w':=w) (hexec #[] (by rw [ey]; exact hc0 _) ?_) ⟨rfl,rfl⟩ (.int _ _) (G':=G) (M':=M) ⟨hr.sim.gw,fun b' k hk=>?_,hr.sim.inj,hr.sim.mlt⟩ (.refl _ _ _) (fun _ _ _=>rfl)
  ·cases ra' with
   | none=>exact .inr ⟨rfl,rfl⟩
   | some ad=>exact .inl ⟨ad,rfl,by simp [storeCells]⟩
  ·refine hr.sim.hb b' k ?_;simp only [lk] at hk;split at hk
   ·rename_i e; rw [e,hb]; exact hk
   ·exact hk
 ·have hmy:m≤zs.length:=by omega
  have hml:m≤len:=by omega
  obtain ⟨ra3,rc3,new,ey3,f3,r3⟩:=qwc (P:=P) hr.sim hys ry m hmy (by omega);have hzl:(zs.take m).length = m:=by simp; omega
  cases hreal:mb0.real with
  | none=>simp only [qbr,hreal] at hre; omega
  | some rb=>
   simp only [qbr,hreal] at hre;simp only [qbw,hreal] at q4;obtain ⟨arr,ty',w1,w2,w3,w4,w5⟩:=q4
   have hre':ra' = some ⟨rb,mb0.base + off * mb0.sz,none⟩/\off + cx'≤min mb0.room 9223372036854775807:=by
    rcases hre with q | ⟨q,-⟩
    ·exact q
    ·omega
   obtain ⟨rfl,hroom⟩:=hre';have hnl:new.length = m * ty.2.1:=by have:=f3.1; rwa [hzl] at this
   have hroom2:(off + m) * mb0.sz≤mb0.room * mb0.sz:=Nat.mul_le_mul_right _ (by omega);rw [Nat.add_mul,q3] at hroom2;rw [q3] at w2 w4 w5;have hst:=run_storeCells_at P rb (mb0.base + off * ty.2.1) ty' new 0 arr w w1 (by rw [hnl]; omega) (f3.one hn0);simp only [Nat.add_zero] at hst;have hle2:M.le (upd M b mb0):=jg8 fun m hm=>.inr (by rw [q1] at hm; cases hm; rfl)
   have hkey:=hr.sim.change (w':=w.setRow rb (arr.toList.take (mb0.base + off * ty.2.1) ++ new ++ arr.toList.drop (mb0.base + off * ty.2.1 + new.length)).toArray) b mb0 (.row g ty.2.1 (es.take off ++ zs.take m ++ es.drop (off + m))) (fun m hm=>.inr (by rw [q1] at hm; cases hm; rfl)) (fun r hr'=>.inr ⟨mb0,q1,hr'⟩)
    (by rw [qfz]; exact ji5 _) (fun k _ hk=>qdn _ _ _ _ (fun e=>hk (by rw [hreal,e]))) (fun _ _ _ _=>trivial) rfl rfl rfl ?_
   ·refine qb8 (hexec new.toArray (r3 w rfl) (.inl ⟨_,rfl,?_⟩)) ⟨rfl,rfl⟩ (.int _ _) hkey.1 hkey.2 (fun x _ h0=>qay _ _ _ _ (nb x h0));rw [q3]; simpa using hst
   ·refine ⟨mb0,qaw _ _ _,q2,q3,?_⟩;simp only [qbw,hreal];have hel:(es.take off ++ zs.take m ++ es.drop (off + m)).length = es.length:=by simp; omega
    have hget:∀ i,i < es.length->(es.take off ++ zs.take m ++ es.drop (off + m)).getD i .undef = if off≤i/\i < off + m then zs.getD (i - off) .undef else es.getD i .undef:=by
     intro i hi;simp only [ji0,List.getElem?_append,List.length_append,List.length_take,List.getElem?_take,List.getElem?_drop];have e1:min off es.length = off:=by omega
     have e2:min m zs.length = m:=by omega
     rw [e1,e2];by_cases c1:i < off
     ·rw [if_pos (by omega),if_pos c1,if_pos c1,if_neg (by omega)]
     ·by_cases c2:i < off + m
      ·rw [if_pos (by omega),if_neg c1,if_pos (by omega),if_pos (by omega)]
      ·rw [if_neg (by omega),if_neg (by omega)];congr 2;omega
    have hzg:∀ i,i < m->(zs.take m).getD i .undef = zs.getD i .undef:=fun i hi=>by simp [ji0,hi]
    refine ⟨_,ty',setRow_heap w rb arr _ ty' (0,0) w1,?_,by rw [hel]; exact w3,fun i hi=>?_,fun i j hi hj=>?_⟩
    ·rw [q3]; simp only [List.size_toArray,List.length_append,List.length_take,List.length_drop,Array.length_toList];omega
    ·rw [hel] at hi;rw [hget i hi,q3];split
     ·rw [<- hzg _ (by omega)]; exact (f3.2 _ (by rw [hzl]; omega)).1
     ·exact w4 i hi
    ·rw [hel] at hi;rw [hget i hi,q3,qbu,qeg _ _ _ _ (by have e9:arr.toList.length = arr.size:=Array.length_toList; omega)];rw [q3] at hj;have heb:=qa8 (sz:=ty.2.1) hi w3;by_cases hin:off≤i/\i < off + m
     ·have e3:i * ty.2.1 = off * ty.2.1 + (i - off) * ty.2.1:=by rw [<- Nat.add_mul]; congr 1; omega
      have heb3:=qa8 (sz:=ty.2.1) (show i - off < m by omega) (ji5 _);rw [if_pos hin,if_pos (by rw [hnl]; omega)];have e4:mb0.base + i * ty.2.1 + j - (mb0.base + off * ty.2.1) = (i - off) * ty.2.1 + j:=by omega
      rw [e4,<- hzg _ (by omega)];have:=(f3.2 (i - off) (by rw [hzl]; omega)).2 j hj;exact ⟨this.1.mono G.le_refl hle2,this.2⟩
     ·rw [if_neg hin,if_neg (by
       rw [hnl];rintro ⟨c1,c2⟩;apply hin;refine ⟨?_,?_⟩
       ·by_cases hc:off≤i
        ·exact hc
        ·have:=qa8 (sz:=ty.2.1) (show i < off by omega) (ji5 _); omega
       ·by_cases hc:i < off + m
        ·exact hc
        ·have:=Nat.mul_le_mul_right ty.2.1 (show off + m≤i by omega);rw [Nat.add_mul] at this; omega)]
      have e2:arr.toList.getD (mb0.base + i * ty.2.1 + j) undef = arr.getD (mb0.base + i * ty.2.1 + j) undef:=by
       simp [ji0,ji1]
      rw [e2];have:=w5 i j hi hj;exact ⟨this.1.mono G.le_refl hle2,this.2⟩
theorem q0h (hr:R bs n gl G M fr h a w) {o:Oper} {x:NOp} (hc:qje P o = some x∨x = .bad) (hp:x.pure = false) {id:Nat} {y:Y} (he:nop gl (qaa M) id (lk fr) (lk h) x = some y) {Q:Exit->Act->World->Prop} :
  o.wp P a w (qe5 h id (fun v h'=>v = y.1/\h' = y.2.1 ++ h) G M w o a) Q:=by
 rcases hc with hc | rfl
 case inr=>simp [NOp.pure] at hp
 unfold qje at hc;split at hc
 ·split at hc
  ·split at hc
   ·cases hc; simp [NOp.pure] at hp
   ·cases hc
  ·split at hc
   ·cases hc; simp [NOp.pure] at hp
   ·cases hc
  ·cases hc
 ·rename_i t ho;cases hc;simp only [nop,Option.some.injEq] at he;subst he;obtain ⟨s1,s2⟩:=qyf (o:=.map #[] 0) hr.sim id ⟨qaa M id,0,0,0,some w.heap.size⟩ (.map (qaa M id) []) rfl rfl (fun M' hM'=>⟨_,w.heap.size,hM',rfl,rfl,rfl,#[],0,(MapKept.heap_alloc w _).1,⟨rfl,rfl,fun i hi=>by simp at hi⟩,fun i hi=>by simp at hi⟩);exact qb8 (rv:=.map (some w.heap.size)) (by simp [execOp,ho,Instr.makeMap]) ⟨rfl,rfl⟩ (.own _ _ _ _ (qaw _ _ _) (ji5 _) rfl fun _=>⟨w.heap.size,rfl,rfl⟩) s1 s2 (fun b hb _=>qay _ _ _ _ hb)
 ·split at hc
  ·split at hc
   ·rename_i z _
    cases hz:qcm P _ with
    | none=>rw [hz] at hc; cases hc
    | some z=>rw [hz] at hc; cases hc; simp [NOp.pure] at hp
   ·cases hc
  ·cases hc
 ·rename_i t m k v ho;split at hc
  ·rename_i kt et hu;split at hc
   ·rename_i hkk;cases hc;simp only [nop,qby] at he;split at he
    ·rename_i b g kv vv hm hk hv;split at he
     ·rename_i g' es hb;obtain ⟨h1,h2⟩:=qae he;simp only [Bool.and_eq_true,decide_eq_true_eq] at h1;obtain ⟨hgg,hkf⟩:=h1;subst hgg;obtain ⟨mb,rb,m1,m2,m3,m4,m5,entries,clock,m6,m7,m8⟩:=qlb hr.sim (qax hr hm) hb;have rk:=qax hr hk;have rv:=qax hr hv;obtain ⟨d,hd,hdk⟩:=qrj hkk
      have hkey:IsKey d (a.eval k):=by
       rcases hdk with ⟨j,rfl⟩ | rfl
       ·have hkd:qep P kt = some (some j):=by simp [qep,hd]
        rw [hkd] at hkf;cases kv <;> simp only [qeb,Bool.false_eq_true,decide_eq_true_eq] at hkf;rw [qai rk]; exact hkf
       ·have hkd:qep P kt = some none:=by simp [qep,hd]
        rw [hkd] at hkf;cases kv <;> simp only [qeb,Bool.false_eq_true] at hkf;rw [qba rk]; trivial
      have hrel:∀ j,j < es.length->qal G M ((es.getD j (.undef,.undef)).1) ((entries.toList.getD j default).key)/\qal G M ((es.getD j (.undef,.undef)).2) ((entries.toList.getD j default).val):=fun j hj=>by
       rw [qlo]; exact m8 j hj
      have hrb:rb < w.heap.size:=(Array.getElem?_eq_some_iff.1 m6).1
      have hchg:∀ (es':List (V × V)) (entries':Array MapEntry) (clock':Nat),(entries'.size = es'.length/\clock' = es'.length/\∀ i,i < es'.length->(entries'.getD i default).born = i)->(∀ i,i < es'.length->qal G M ((es'.getD i (.undef,.undef)).1) ((entries'.getD i default).key)/\qal G M ((es'.getD i (.undef,.undef)).2) ((entries'.getD i default).val))->
        Sim G (upd M b mb) ((b,.map g' es') :: h) { w with heap:=w.heap.setIfInBounds rb (.map entries' clock') }/\Ext G M w G (upd M b mb) { w with heap:=w.heap.setIfInBounds rb (.map entries' clock') }:=by
       intro es' entries' clock' hsz hall;have hle2:M.le (upd M b mb):=jg8 fun m' hm'=>.inr (by rw [m1] at hm'; cases hm'; rfl);refine hr.sim.change b mb (.map g' es') (fun m' hm'=>.inr (by rw [m1] at hm'; cases hm'; rfl)) (fun r hr'=>.inr ⟨mb,m1,hr'⟩) (by simp) (fun q hq hne=>?_) (fun _ _ _ _=>trivial) rfl rfl rfl ?_
       ·exact (MapKept.heap_set m6).2 q (fun e=>hne (by rw [m3,e]))
       ·exact ⟨mb,rb,qaw _ _ _,m2,m3,m4,entries',clock',(MapKept.heap_set m6).1,hsz,fun i hi=>⟨(hall i hi).1.mono G.le_refl hle2,(hall i hi).2.mono G.le_refl hle2⟩⟩
      have hfresh:∀ b',b' ≠ id->lk h b' = none->qaa (upd M b mb) b' = qaa M b':=fun b' _ h0=>by
       exact qay _ _ _ _ (fun e=>by subst e; rw [hb] at h0; cases h0)
      cases hq:qks kv es 0 with
      | none=>rw [hq] at h2; cases h2
      | some q=>
       have hfs:=qip (d:=d) rk hkey es entries.toList 0 q hq (by simpa using m7.1) hrel;rw [hq] at h2
       cases q with
       | none=>
        cases h2
        obtain ⟨s1,s2⟩:=hchg (es ++ [(kv,vv)]) (entries.push { key:=a.eval k,val:=a.eval v,born:=clock }) (clock + 1) ⟨by simp [m7.1],by simp [m7.2.1],fun i hi=>by
         simp only [List.length_append,List.length_singleton] at hi;simp only [ji1,Array.getElem?_push];by_cases hie:i < es.length
         ·rw [if_neg (by omega),<- ji1]; exact m7.2.2 i hie
         ·rw [if_pos (by omega)]; show clock = i; omega⟩ (fun i hi=>by
         simp only [List.length_append,List.length_singleton] at hi;by_cases hie:i < es.length
         ·have:=m8 i hie;have e1:(es ++ [(kv,vv)]).getD i (.undef,.undef) = es.getD i (.undef,.undef):=by simp only [ji0,List.getElem?_append_left hie]
          have e2:(entries.push { key:=a.eval k,val:=a.eval v,born:=clock }).getD i default = entries.getD i default:=by
           simp only [ji1,Array.getElem?_push];rw [if_neg (by omega)]
          rw [e1,e2]; exact this
         ·have hie':i = es.length:=by omega
          subst hie';have e1:(es ++ [(kv,vv)]).getD es.length (.undef,.undef) = (kv,vv):=by simp [ji0]
          have e2:(entries.push { key:=a.eval k,val:=a.eval v,born:=clock }).getD es.length default = { key:=a.eval k,val:=a.eval v,born:=clock }:=by
           simp only [ji1,Array.getElem?_push];rw [if_pos (by omega)]; rfl
          rw [e1,e2]; exact ⟨rk,rv⟩)
        refine qnq ?_ ⟨rfl,rfl⟩ s1 s2 hfresh;simp only [execOp,ho,Instr.mapUpdate,Sem.run_bind,run_underlying hu,Result.andThen_ok,m5,MapKept.run_getObj_map m6,Sem.run_pure,MapKept.run_checkKey (n:=9999) hd hkey,MapKept.run_findKey hd hfs,MapKept.run_setObj_map _ m6]
       | some iv=>
        obtain ⟨i,v0⟩:=iv;cases h2;obtain ⟨-,f2,f3,f4,f5⟩:=hfs;rw [Nat.sub_zero] at f2 f3 f4 f5;have hie:i < entries.size:=by omega
        have hget:entries[i]? = some (entries[i]'hie):=Array.getElem?_eq_getElem hie
        have hkey':(entries[i]'hie).key = a.eval k:=by
         rw [ji0,Array.getElem?_toList,hget] at f3;exact f3
        obtain ⟨s1,s2⟩:=hchg (es.set i (kv,vv)) (entries.modify i fun e=>{ e with key:=a.eval k,val:=a.eval v }) clock ⟨by simp [m7.1],by simp [m7.2.1],fun j hj=>by
         simp only [List.length_set] at hj;have:=m7.2.2 j hj;have hj2:j < entries.size:=by omega
         simp only [ji1,hj2,Array.getElem?_eq_getElem,Option.getD_some] at this;simp only [ji1,Array.getElem?_modify,hj2,Array.getElem?_eq_getElem,Option.map_some]
         split <;> simpa using this⟩ (fun j hj=>by
         simp only [List.length_set] at hj;by_cases hji:j = i
         ·subst hji;have e1:(es.set j (kv,vv)).getD j (.undef,.undef) = (kv,vv):=by simp [ji0,hj]
          have e2:(entries.modify j fun e=>{ e with key:=a.eval k,val:=a.eval v }).getD j default = { (entries[j]'hie) with key:=a.eval k,val:=a.eval v }:=by
           simp [ji1,Array.getElem_modify,hie]
          rw [e1,e2]; exact ⟨rk,rv⟩
         ·have e1:(es.set i (kv,vv)).getD j (.undef,.undef) = es.getD j (.undef,.undef):=by simp only [ji0,List.getElem?_set]; rw [if_neg (Ne.symm hji)]
          have e2:(entries.modify i fun e=>{ e with key:=a.eval k,val:=a.eval v }).getD j default = entries.getD j default:=by
           simp only [ji1,Array.getElem?_modify];rw [if_neg (Ne.symm hji)]
          rw [e1,e2]; exact m8 j hj)
        refine qnq ?_ ⟨rfl,rfl⟩ s1 s2 hfresh;simp only [execOp,ho,Instr.mapUpdate,Sem.run_bind,run_underlying hu,Result.andThen_ok,m5,MapKept.run_getObj_map m6,Sem.run_pure,MapKept.run_checkKey (n:=9999) hd hkey,MapKept.run_findKey hd f4,hget,Option.map_some,Option.getD_some,hkey',MapKept.run_keyThatStays hkey,MapKept.run_setObj_map _ m6]
     ·cases he
    ·cases he
   ·cases hc
  ·cases hc
 ·rename_i t x1 ho;split at hc
  ·rename_i hu;cases hc;simp only [nop,qby] at he;split at he
   ·rename_i s hx;simp only [Option.some.injEq] at he;subst he;have ex:=qba (qax hr hx);obtain ⟨s1,s2⟩:=qyf (o:=.stringIter ⟨s.toArray⟩ 0) hr.sim id ⟨qaa M id,1,0,0,some w.heap.size⟩ (.siter (qaa M id) s 0) rfl rfl (fun M' hM'=>⟨_,w.heap.size,hM',rfl,rfl,rfl,(MapKept.heap_alloc w _).1⟩);exact qb8 (rv:=.pointer (some ⟨w.heap.size,0,none⟩)) (by simp [execOp,ho,Instr.range,run_underlying hu,Result.andThen,ex]) ⟨rfl,rfl⟩ (.own _ _ _ _ (qaw _ _ _) (ji5 _) rfl fun _=>⟨w.heap.size,rfl,rfl⟩) s1 s2 (fun b hb _=>qay _ _ _ _ hb)
   ·cases he
  ·rename_i kt et hu;cases hc;simp only [nop,qby] at he;split at he
   ·rename_i b g hx;split at he
    ·rename_i g' es hb;obtain ⟨h1,h2⟩:=qae he;have hgg:g' = g:=by simpa using h1
     subst hgg;cases h2;have rx:=qax hr hx;obtain ⟨mb,rb,m1,m2,m3,m4,m5,entries,clock,m6,⟨m7,m8,-⟩,-⟩:=qlb hr.sim rx hb;rw [m5] at rx;obtain ⟨s1,s2⟩:=q0t (o:=.mapIter (some rb) clock #[] clock) hr.sim id ⟨qaa M id,1,0,0,some w.heap.size⟩ (.miter (qaa M id) (.own b g') es.length []) rfl rfl ⟨_,w.heap.size,qaw _ _ _,rfl,rfl,rfl,rb,rx.mono G.le_refl (jg8 fun mb0 h0=>.inl (by simp [qaa,h0])),by rw [m8]; exact (MapKept.heap_alloc w _).1⟩;exact qb8 (rv:=.pointer (some ⟨w.heap.size,0,none⟩)) (by simp [execOp,ho,Instr.range,run_underlying hu,Result.andThen,m5,MapKept.run_getObj_map m6]) ⟨rfl,rfl⟩ (.own _ _ _ _ (qaw _ _ _) (ji5 _) rfl fun _=>⟨w.heap.size,rfl,rfl⟩) s1 s2 (fun b hb _=>qay _ _ _ _ hb)
    ·cases he
   ·cases he
  ·cases hc
 ·rename_i it ho;cases hc;simp only [nop,qby] at he;split at he
  ·rename_i b g hx;split at he
   ·rename_i g' s pos hb;obtain ⟨h1,h2⟩:=qae he;have hgg:g' = g:=by simpa using h1
    subst hgg;obtain ⟨mb,rb,m1,m2,m3,m4,m5,m6⟩:=q0l hr.sim (qax hr hx) hb;have hrb:rb < w.heap.size:=(Array.getElem?_eq_some_iff.1 m6).1
    have hfresh:∀ b',b' ≠ id->lk h b' = none->qaa (upd M b mb) b' = qaa M b':=fun b' _ h0=>by
     exact qay _ _ _ _ (fun e=>by subst e; rw [hb] at h0; cases h0)
    have hgetO:(getObj rb).run P w = .ok (.stringIter ⟨s.toArray⟩ pos) w:=by simp [getObj,Sem.run,m6]
    have hsz:(⟨s.toArray⟩:ByteArray).size = s.length:=by simp [ByteArray.size]
    cases hd:decide (pos < s.length) with
    | true=>
     have hlt:pos < s.length:=by simpa using hd
     rw [hd] at h2;simp only [cond_true,Option.some.injEq] at h2;subst h2;have hset:∀ o':Obj,(setObj rb o').run P w = .ok () { w with heap:=w.heap.setIfInBounds rb o' }:=fun o'=>by simp [setObj,Sem.run,m6]
     obtain ⟨s1,s2⟩:Sim G (upd M b mb) ((b,.siter g' s (pos + (Utf8.decode ⟨s.toArray⟩ pos).2)) :: h) { w with heap:=w.heap.setIfInBounds rb (.stringIter ⟨s.toArray⟩ (pos + (Utf8.decode ⟨s.toArray⟩ pos).2)) }/\Ext G M w G (upd M b mb) { w with heap:=w.heap.setIfInBounds rb (.stringIter ⟨s.toArray⟩ (pos + (Utf8.decode ⟨s.toArray⟩ pos).2)) }:=by
      refine hr.sim.change b mb _ (fun m' hm'=>.inr (by rw [m1] at hm'; cases hm'; rfl)) (fun r hr'=>.inr ⟨mb,m1,hr'⟩) (by simp) (fun q hq hne=>?_) (fun _ _ _ _=>trivial) rfl rfl rfl ?_
      ·exact (MapKept.heap_set m6).2 q (fun e=>hne (by rw [m3,e]))
      ·exact ⟨mb,rb,qaw _ _ _,m2,m3,m4,(MapKept.heap_set m6).1⟩
     refine qb8 (rv:=.tuple #[.bool true,.int .i64 pos,.int .i32 (Utf8.decode ⟨s.toArray⟩ pos).1]) ?_ ⟨rfl,rfl⟩ (.tup _ _ rfl fun i hi=>?_) s1 s2 hfresh
     ·simp only [execOp,ho,Instr.next,m5,Sem.run_bind,hgetO,Result.andThen_ok,hsz,if_pos hlt,hset,Sem.run_pure];rfl
     ·match i,hi with
      | 0,_=>exact .bool _
      | 1,_=>exact .int _ _
      | 2,_=>exact .int _ _
    | false=>
     have hlt:¬ pos < s.length:=by simpa using hd
     rw [hd] at h2;simp only [cond_false,Option.some.injEq] at h2;subst h2
     obtain ⟨s1,s2⟩:Sim G (upd M b mb) ((b,.siter g' s pos) :: h) w/\Ext G M w G (upd M b mb) w:=by
      refine hr.sim.change b mb _ (fun m' hm'=>.inr (by rw [m1] at hm'; cases hm'; rfl)) (fun r hr'=>.inr ⟨mb,m1,hr'⟩) (ji5 _) (fun q hq hne=>rfl) (fun _ _ _ _=>trivial) rfl rfl rfl ?_;exact ⟨mb,rb,qaw _ _ _,m2,m3,m4,m6⟩
     refine qb8 (rv:=.tuple #[.bool false]) ?_ ⟨rfl,rfl⟩ (.tup _ _ rfl fun i hi=>?_) s1 s2 hfresh
     ·simp only [execOp,ho,Instr.next,m5,Sem.run_bind,hgetO,Result.andThen_ok,hsz,if_neg hlt,Sem.run_pure]
     ·match i,hi with
      | 0,_=>exact .bool _
   ·cases he
  ·cases he
 ·cases hc; simp only [nop] at he; cases he
 ·cases hc; simp [NOp.pure] at hp
 ·rename_i c ho;split at hc
  ·split at hc
   ·cases hc; simp [NOp.pure] at hp
   ·cases hc
  ·split at hc
   ·cases hc; simp [NOp.pure] at hp
   ·cases hc
  ·rename_i x1 y1 hcal hargs;split at hc
   ·rename_i t t2 hat;split at hc
    ·rename_i e e2 hu hu2;split at hc
     ·rename_i ty hty;split at hc
      ·rename_i hn0;cases hc;simp only [nop,qni] at he;split at he
       ·rename_i b g off len cap vy hx hy;split at he
        ·rename_i g' sz' es hb;obtain ⟨ys,hys,he1⟩:=qad he;obtain ⟨h1,he2⟩:=qae he1;cases he2;simp only [Bool.and_eq_true,decide_eq_true_eq] at h1;obtain ⟨⟨e1,e2⟩,hle⟩:=h1;subst e1 e2;exact qyj hr ho hcal hargs hat hu hu2 hty hn0 hx hy hb (qhz hys rfl) hle
        ·cases he
       ·cases he
      ·cases hc
     ·cases hc
    ·cases hc
   ·cases hc
  ·cases hc
 ·cases hc; simp [NOp.pure] at hp
 ·cases hc
end
end
section
open Go
section
variable {P:Program} {gl:Fr} {bs n:Nat} {fr:Fr} {h:Hp} {G:qa5} {M:qas} {a:Act} {w:World}
theorem qmk (hr:R bs n gl G M fr h a w) {o:Oper} {io:IOp} (hpure:qag io = true) (hc:qjt P o = some io) {Q:Exit->Act->World->Prop} {K:V->Hp->Prop} {id:Nat} (hi:qbb P gl id fr h K io):o.wp P a w (qao K G M w o a h) Q:=by
 unfold qjt at hc;split at hc
 ·rename_i x ho; cases hc; exact qtz hr (.inl ho) hi
 ·rename_i x ho; cases hc; exact qtz hr (.inr ho) hi
 ·rename_i c x y ho; cases hc; exact qvd hr ho hi
 ·rename_i t x ho; cases hc; simp [qag] at hpure
 ·rename_i t ho
  cases hz:qcm P t with
  | none=>rw [hz] at hc; cases hc
  | some z=>rw [hz] at hc; cases hc; simp [qag] at hpure
 ·rename_i t ps ho;split at hc
  ·rename_i z fields hz hu;split at hc
   ·rename_i hf
    cases hl:qcp (qho P fields) ps.toList with
    | none=>rw [hl] at hc; cases hc
    | some l=>rw [hl] at hc; cases hc; exact qqh hr ho hu hf hz hl hi
   ·cases hc
  ·rename_i z len e hz hu;split at hc
   ·rename_i ag m by_ ht
    cases hl:qcp (fun i=>some (i * m,m)) ps.toList with
    | none=>rw [hl] at hc; cases hc
    | some l=>rw [hl] at hc; cases hc; exact qqg (ty:=(ag,m,by_)) hr ho hu ht hz hl hi
   ·cases hc
  ·cases hc
 ·rename_i t len ps ho;split at hc
  ·rename_i e hu;split at hc
   ·rename_i ag m by_ z ht hz;split at hc
    ·rename_i hcond
     cases hl:qcp (fun i=>some (i * m,m)) ps.toList with
     | none=>rw [hl] at hc; cases hc
     | some l=>rw [hl] at hc; cases hc; simp [qag] at hpure
    ·cases hc
   ·cases hc
  ·cases hc
 ·rename_i t x ho
  cases ht:qc3 P t with
  | none=>rw [ht] at hc; cases hc
  | some ty=>rw [ht] at hc; cases hc; exact qvb hr ho ht hi
 ·rename_i t x y ho
  cases ht:qc3 P t with
  | none=>rw [ht] at hc; cases hc
  | some ty=>rw [ht] at hc; cases hc; simp [qag] at hpure
 ·rename_i op t x y yt ho;split at hc
  ·split at hc
   ·cases hc; exact qgp hr ho hi
   ·cases hc; exact qgp hr ho hi
   ·rename_i hu; cases hc; exact qqf (neg:=false) hr ho rfl hu hi
   ·cases hp:qcb P t with
    | none=>rw [hp] at hc; cases hc
    | some m=>rw [hp] at hc; cases hc; exact qqi (neg:=false) hr ho rfl hp hi
  ·split at hc
   ·cases hc; exact qgp hr ho hi
   ·cases hc; exact qgp hr ho hi
   ·rename_i hu; cases hc; exact qqf (neg:=true) hr ho rfl hu hi
   ·cases hp:qcb P t with
    | none=>rw [hp] at hc; cases hc
    | some m=>rw [hp] at hc; cases hc; exact qqi (neg:=true) hr ho rfl hp hi
  ·cases hc; exact qgp hr ho hi
 ·rename_i op t x ho; cases hc; exact q0u hr ho hi
 ·rename_i s d x ho;split at hc
  ·rename_i ks k h1 h2; cases hc; exact qu5 hr ho h1 h2 hi
  ·rename_i h1 h2; cases hc; exact qyk hr ho h1 h2 hi
  ·rename_i e h1 h2;split at hc
   ·rename_i h3; cases hc; exact qyh hr ho h1 h2 h3 hi
   ·cases hc
  ·cases hc
 ·rename_i f x y ho; cases hc; exact qvc hr ho hi
 ·rename_i t l c ho;split at hc
  ·rename_i e hu;split at hc
   ·rename_i ag m by_ z ht hz;split at hc
    ·rename_i hm; cases hc; simp [qag] at hpure
    ·cases hc
   ·cases hc
  ·cases hc
 ·rename_i t x lo hi' mx ho;split at hc
  ·rename_i e hu;split at hc
   ·rename_i ag m by_ ht;split at hc
    ·rename_i hm; cases hc; exact qr8 (ty:=(ag,m,by_)) hr ho hu ht hm.2 hi
    ·cases hc
   ·cases hc
  ·rename_i hu;split at hc
   ·cases hc; exact qqk hr ho hu hi
   ·cases hc
  ·cases hc
 ·rename_i s x i ho;split at hc
  ·rename_i fields hu;split at hc
   ·rename_i f hf;split at hc
    ·rename_i ag m by_ ht;split at hc
     ·cases hc
     ·rename_i hm; cases hc; exact qqj (ty:=(ag,m,by_)) hr ho hu hf ht hm hi
    ·cases hc
   ·cases hc
  ·cases hc
 ·rename_i s x i ho;split at hc
  ·rename_i fields hu;split at hc
   ·rename_i f hf;split at hc
    ·rename_i ag m by_ ht;cases hc; exact qr7 (ty:=(ag,m,by_)) hr ho hu hf ht hi
    ·cases hc
   ·cases hc
  ·cases hc
 ·rename_i t x y ho;split at hc
  ·rename_i e hu;split at hc
   ·rename_i ag m by_ ht;split at hc
    ·cases hc; exact qu6 (ty:=(ag,m,by_)) hr ho hu ht hi
    ·cases hc
   ·cases hc
  ·rename_i len e hu;split at hc
   ·rename_i ag m by_ ht; cases hc; exact qu7 (ty:=(ag,m,by_)) hr ho hu ht hi
   ·cases hc
  ·cases hc
 ·rename_i t x y ho;split at hc
  ·rename_i len e hu;split at hc
   ·rename_i ag m by_ ht; cases hc; exact qu9 (ty:=(ag,m,by_)) hr ho hu ht hi
   ·cases hc
  ·rename_i hu; cases hc; exact qu8 hr ho hu hi
  ·cases hc
 ·rename_i x i ho; cases hc; exact qoh hr ho hi
 ·rename_i c ho;split at hc
  ·rename_i f hcal; cases hc; simp [qag] at hpure
  ·rename_i hcal;split at hc
   ·rename_i t x hat ha;split at hc
    ·rename_i e hu; cases hc; exact qyl hr ho hcal ha hat hu hi
    ·rename_i hu; cases hc; exact qva hr ho hcal ha hat hu hi
    ·rename_i m e hu; cases hc; exact qmz hr ho hcal ha hat (.inl ⟨e,hu⟩) hi
    ·rename_i u hu;split at hc
     ·rename_i m e hu2; cases hc; exact qmz hr ho hcal ha hat (.inr ⟨u,e,hu,hu2⟩) hi
     ·cases hc
    ·cases hc
   ·cases hc
  ·rename_i hcal;split at hc
   ·rename_i t x hat ha;split at hc
    ·rename_i e hu; cases hc; exact qyi hr ho hcal ha hat hu hi
    ·cases hc
   ·cases hc
  ·rename_i hcal;split at hc
   ·rename_i t t2 x y hat ha;split at hc
    ·rename_i e e2 hu hu2;split at hc
     ·rename_i ag m by_ z ht hz;split at hc
      ·rename_i hm; cases hc; simp [qag] at hpure
      ·cases hc
     ·cases hc
    ·cases hc
   ·cases hc
  ·rename_i hcal;split at hc
   ·rename_i x y ha; cases hc; exact qty (mx:=true) hr ho hcal ha hi
   ·cases hc
  ·rename_i hcal;split at hc
   ·rename_i x y ha; cases hc; exact qty (mx:=false) hr ho hcal ha hi
   ·cases hc
  ·cases hc
 ·cases hc
theorem qkj {o:Oper} {io:IOp} (hc:qjt P o = some io) (hnp:qag io = false) :
  (∃ t y,o.op = .box t y/\io = .box (co y))∨(∃ t z,o.op = .alloc t/\qcm P t = some z/\io = .alloc (qf3 z))∨
  (∃ t e len ps l z ty,o.op = .buildSlice t len ps/\P.underlying t = some (.slice e)/\qc3 P e = some ty/\qcm P e = some z/\len * ty.2.1≤4096/\ty.2.1 ≠ 0/\qcp (fun i=>some (i * ty.2.1,ty.2.1)) ps.toList = some l/\
   io = .buildSl ty.2.1 len ((List.range (len * ty.2.1)).map fun i=>(qf3 z).cells.getD (i % ty.2.1) .undef) l)∨
  (∃ t e x y z ty,o.op = .makeSlice t x y/\P.underlying t = some (.slice e)/\qc3 P e = some ty/\qcm P e = some z/\ty.2.1 ≠ 0/\io = .mksl (qf3 z).cells ty.2.1 ty.2.2 (co x) (co y))∨
  (∃ c f,o.op = .call c/\c.callee = .value f/\io = .call (co f) (c.args.toList.map co))∨(∃ t x y ty,o.op = .store t x y/\qc3 P t = some ty/\io = .store ty.2.1 (co x) (co y))∨∃ c t t2 e e2 x y z ty,o.op = .call c/\c.callee = .builtin .append/\c.args.toList = [x,y]/\c.argTypes.toList = [t,t2]/\P.underlying t = some (.slice e)/\P.underlying t2 = some (.slice e2)/\qc3 P e = some ty/\qcm P e = some z/\ty.2.1 ≠ 0/\io = .app ty.2.1 ty.2.2 (qf3 z).cells (co x) (co y):=by
 unfold qjt at hc;split at hc
 ·cases hc; simp [qag] at hnp
 ·cases hc; simp [qag] at hnp
 ·cases hc; simp [qag] at hnp
 ·rename_i t x ho; cases hc; exact .inl ⟨t,x,ho,rfl⟩
 ·rename_i t ho
  cases hz:qcm P t with
  | none=>rw [hz] at hc; cases hc
  | some z=>rw [hz] at hc; cases hc; exact .inr (.inl ⟨t,z,ho,hz,rfl⟩)
 ·rename_i t ps ho;split at hc
  ·split at hc
   ·rename_i z fields hz hu hf
    cases hl:qcp (qho P fields) ps.toList with
    | none=>rw [hl] at hc; cases hc
    | some l=>rw [hl] at hc; cases hc; simp [qag] at hnp
   ·cases hc
  ·split at hc
   ·rename_i z len e hz hu _ ag m by_ ht
    cases hl:qcp (fun i=>some (i * m,m)) ps.toList with
    | none=>rw [hl] at hc; cases hc
    | some l=>rw [hl] at hc; cases hc; simp [qag] at hnp
   ·cases hc
  ·cases hc
 ·rename_i t len ps ho;split at hc
  ·rename_i e hu;split at hc
   ·rename_i ag m by_ z ht hz;split at hc
    ·rename_i hcond
     cases hl:qcp (fun i=>some (i * m,m)) ps.toList with
     | none=>rw [hl] at hc; cases hc
     | some l=>rw [hl] at hc; cases hc; exact .inr (.inr (.inl ⟨t,e,len,ps,l,z,(ag,m,by_),ho,hu,ht,hz,hcond.1,hcond.2,hl,rfl⟩))
    ·cases hc
   ·cases hc
  ·cases hc
 ·rename_i t x ho
  cases ht:qc3 P t with
  | none=>rw [ht] at hc; cases hc
  | some ty=>rw [ht] at hc; cases hc; simp [qag] at hnp
 ·rename_i t x y ho
  cases ht:qc3 P t with
  | none=>rw [ht] at hc; cases hc
  | some ty=>rw [ht] at hc; cases hc; exact .inr (.inr (.inr (.inr (.inr (.inl ⟨t,x,y,ty,ho,ht,rfl⟩)))))
 ·rename_i op t x y yt ho;split at hc
  ·split at hc
   ·cases hc; simp [qag] at hnp
   ·cases hc; simp [qag] at hnp
   ·cases hc; simp [qag] at hnp
   ·cases hp:qcb P t with
    | none=>rw [hp] at hc; cases hc
    | some m=>rw [hp] at hc; cases hc; simp [qag] at hnp
  ·split at hc
   ·cases hc; simp [qag] at hnp
   ·cases hc; simp [qag] at hnp
   ·cases hc; simp [qag] at hnp
   ·cases hp:qcb P t with
    | none=>rw [hp] at hc; cases hc
    | some m=>rw [hp] at hc; cases hc; simp [qag] at hnp
  ·cases hc; simp [qag] at hnp
 ·cases hc; simp [qag] at hnp
 ·split at hc
  ·cases hc; simp [qag] at hnp
  ·cases hc; simp [qag] at hnp
  ·split at hc
   ·cases hc; simp [qag] at hnp
   ·cases hc
  ·cases hc
 ·cases hc; simp [qag] at hnp
 ·rename_i t x y ho;split at hc
  ·rename_i e hu;split at hc
   ·rename_i ag m by_ z ht hz;split at hc
    ·rename_i hm; cases hc; exact .inr (.inr (.inr (.inl ⟨t,e,x,y,z,(ag,m,by_),ho,hu,ht,hz,hm,rfl⟩)))
    ·cases hc
   ·cases hc
  ·cases hc
 ·split at hc
  ·split at hc
   ·split at hc
    ·cases hc; simp [qag] at hnp
    ·cases hc
   ·cases hc
  ·split at hc
   ·cases hc; simp [qag] at hnp
   ·cases hc
  ·cases hc
 ·split at hc
  ·split at hc
   ·split at hc
    ·split at hc
     ·cases hc
     ·cases hc; simp [qag] at hnp
    ·cases hc
   ·cases hc
  ·cases hc
 ·split at hc
  ·split at hc
   ·split at hc
    ·cases hc; simp [qag] at hnp
    ·cases hc
   ·cases hc
  ·cases hc
 ·split at hc
  ·split at hc
   ·split at hc
    ·cases hc; simp [qag] at hnp
    ·cases hc
   ·cases hc
  ·split at hc
   ·cases hc; simp [qag] at hnp
   ·cases hc
  ·cases hc
 ·split at hc
  ·split at hc
   ·cases hc; simp [qag] at hnp
   ·cases hc
  ·cases hc; simp [qag] at hnp
  ·cases hc
 ·cases hc; simp [qag] at hnp
 ·rename_i c ho;split at hc
  ·rename_i f hcal; cases hc; exact .inr (.inr (.inr (.inr (.inl ⟨c,f,ho,hcal,rfl⟩))))
  ·split at hc
   ·split at hc
    ·cases hc; simp [qag] at hnp
    ·cases hc; simp [qag] at hnp
    ·cases hc; simp [qag] at hnp
    ·split at hc
     ·cases hc; simp [qag] at hnp
     ·cases hc
    ·cases hc
   ·cases hc
  ·split at hc
   ·split at hc
    ·cases hc; simp [qag] at hnp
    ·cases hc
   ·cases hc
  ·rename_i hcal;split at hc
   ·rename_i t t2 x y hat ha;split at hc
    ·rename_i e e2 hu hu2;split at hc
     ·rename_i ag m by_ z ht hz;split at hc
      ·rename_i hm; cases hc; exact .inr (.inr (.inr (.inr (.inr (.inr ⟨c,t,t2,e,e2,x,y,z,(ag,m,by_),ho,hcal,ha,hat,hu,hu2,ht,hz,hm,rfl⟩)))))
      ·cases hc
     ·cases hc
    ·cases hc
   ·cases hc
  ·split at hc
   ·cases hc; simp [qag] at hnp
   ·cases hc
  ·split at hc
   ·cases hc; simp [qag] at hnp
   ·cases hc
  ·cases hc
 ·cases hc
theorem qua {o:Oper} (x:NOp):qjt P o ≠ some (.n x):=by
 intro h;unfold qjt at h
 repeat' (first | (cases h; done) | (simp at h; done) | split at h | (simp only [Option.map_eq_some_iff] at h; obtain ⟨_,_,h⟩:=h))
theorem qgy (hr:R bs n gl G M fr h a w) {o:Oper} {io:IOp} (hc:qhy P o = some io) (hp:qag io = true) {gf:Nat->Nat} {id:Nat} {y:Y} (he:eop gl gf id (lk fr) (lk h) io = some y) {Q:Exit->Act->World->Prop} :
  y.2.1 = []/\o.wp P a w (qao (fun v _=>v = y.1) G M w o a h) Q:=by
 rcases qdg hc with ⟨x,rfl,hn⟩ | h1
 ·exact q0i hr hn (by simpa [qag] using hp) (by simpa [eop] using he)
 ·by_cases hne:∃ x,io = .n x
  ·obtain ⟨x,rfl⟩:=hne;exact absurd h1 (qua _)
  ·obtain ⟨q1,q2⟩:=qwh (id':=id) (fun x hx=>hne ⟨x,hx⟩) hp he;exact ⟨q1,qmk hr hp h1 q2⟩
def qyx (gl:Fr) (F:FF):Option qam->Bool
 | none=>true
 | some y=>match evF gl F y with
  | some (.int _ i)=>decide (i = 0)
  | _=>false
def jb3 (gl:Fr) (F:FF):IOp->Bool
 | .slice _ x lo hi mx=>(match evF gl F x with | some .nil=>true | _=>false) && (qyx gl F lo && (qyx gl F hi && qyx gl F mx))
 | _=>false
theorem qsh {b:Option qam} (hb:qyx gl (lk fr) b = true):qyw gl fr b:=by
 cases b with
 | none=>trivial
 | some y=>
  simp only [qyx,qby] at hb;split at hb
  ·rename_i k i hy;obtain rfl:=jiy hb;exact ⟨k,hy⟩
  ·cases hb
theorem quq (hr:R bs n gl G M fr h a w) {o:Oper} {io:IOp} (hc:qhy P o = some io) (hn:jb3 gl (lk fr) io = true) {Q:Exit->Act->World->Prop} :
  o.wp P a w (qao (fun v _=>v = .nil) G M w o a h) Q:=by
 rcases qdg hc with ⟨x,rfl,-⟩ | h1
 ·cases hn
 ·cases io <;> try (cases hn; done)
  rename_i sz x lo hi mx;simp only [jb3,qby,Bool.and_eq_true] at hn;obtain ⟨n1,n2,n3,n4⟩:=hn;refine qmk (id:=0) hr rfl h1 ?_;simp only [qbb];refine .inl ⟨?_,qsh n2,qsh n3,qsh n4,trivial⟩;split at n1
  ·assumption
  ·cases n1
theorem qh0 (hr:R bs n gl G M fr h a w) {o:Oper} {io:IOp} (hcx:qhy P o = some io) {id:Nat} {y:Y} (he:eop gl (qaa M) id (lk fr) (lk h) io = some y) {Q:Exit->Act->World->Prop} :
  o.wp P a w (qe5 h id (fun v h'=>v = y.1/\h' = y.2.1 ++ h) G M w o a) Q:=by
 cases hp:qag io with
 | true=>
  obtain ⟨h1,h2⟩:=qgy (Q:=Q) hr hcx hp he;refine Oper.wp_mono ?_ h2;rintro a' w' ⟨v,rv,e1,e2,e3,rfl⟩;exact ⟨v,h,rv,G,M,⟨e1,by rw [h1]; rfl⟩,e2,e3,hr.sim,.refl _ _ _,fun _ _ _=>rfl⟩
 | false=>
  rcases qdg hcx with ⟨x,rfl,hn⟩ | hc
  ·exact q0h hr hn (by simpa [qag] using hp) (by simpa [eop] using he)
  rcases qkj hc hp with ⟨t,x,ho,rfl⟩ | ⟨t,z,ho,hz,rfl⟩ | ⟨t,e,len,ps,l,z,ty,ho,hu,ht,hz,hn,hn0,hl,rfl⟩ | ⟨t,e,x,y',z,ty,ho,hu,ht,hz,hn0,rfl⟩ | ⟨c,f,ho,hcal,rfl⟩ | ⟨t,x,y',ty,ho,ht,rfl⟩ | ⟨c,t,t2,e,e2,x,y',z,ty,ho,hcal,ha,hat,hu,hu2,ht,hz,hn0,rfl⟩
  ·simp only [eop,qby] at he;obtain ⟨v,hv,he⟩:=qad he;obtain ⟨h1,he⟩:=qae he;cases he;exact jcw hr (jgb hr ho hv h1) ⟨rfl,rfl⟩
  ·simp only [eop] at he;obtain ⟨h1,he⟩:=qae he;cases he;exact jcw hr (q4m hr ho hz h1) ⟨rfl,rfl⟩
  ·simp only [eop,qnm] at he;obtain ⟨vs,hvs,he⟩:=qad he;obtain ⟨cs,hcs,he⟩:=qad he;cases he;obtain ⟨cs',hk,hq⟩:=qx2 hr ho hu ht hz hn hn0 hl (id:=id) hvs (qrc (K:=fun x=>x = cs) hcs rfl);subst hk;exact jcw hr (hq Q) ⟨rfl,rfl⟩
  ·simp only [eop,qby] at he;split at he
   ·rename_i k p k' q hx hy;obtain ⟨h1,he⟩:=qae he;cases he;simp only [Bool.and_eq_true,decide_eq_true_eq] at h1;exact jcw hr (q98 hr ho hu ht hz hn0 hx hy h1.1.1.1.1.1 h1.1.1.1.1.2 h1.1.1.1.2 h1.1.1.2 h1.1.2 Q) ⟨rfl,rfl⟩
   ·cases he
  ·simp [eop] at he
  ·refine qr9 hr ho ht (id:=id) ?_;simp only [eop,qby] at he;simp only [qbb];split at he
   ·simp only [*];split at he
    ·rename_i hb;obtain ⟨h1,he⟩:=qae he;cases he;simp only [Bool.and_eq_true,decide_eq_true_eq] at h1;simp only [hb];exact ⟨h1.1.1,h1.1.2,V.putOkB_iff.1 h1.2,by simp⟩
    ·cases he
   ·cases he
  ·refine qu4 hr ho hcal ha hat hu hu2 ht hz hn0 (id:=id) ?_;simp only [eop,qni] at he;unfold jdc;split at he
   ·simp only [*];obtain ⟨ys,hys,he⟩:=qad he;obtain ⟨h1,he⟩:=qae he;simp only [Bool.and_eq_true,decide_eq_true_eq] at h1;refine qhz hys ⟨fun x hx=>?_,h1.1.1.1.2,h1.1.1.2,h1.1.2,h1.2,fun hn=>?_,fun hn=>?_⟩
    ·have:=List.all_eq_true.1 h1.1.1.1.1 x hx;simpa using this
    ·rw [hn] at he;cases he;exact ⟨rfl,rfl⟩
    ·split at he
     ·rename_i hn'; exact absurd hn' hn
     ·cases he; exact ⟨rfl,rfl⟩
   ·simp only [*];split at he
    ·rename_i hb;obtain ⟨ys,hys,he⟩:=qad he;obtain ⟨h1,he⟩:=qae he;cases he;simp only [Bool.and_eq_true,decide_eq_true_eq] at h1;simp only [hb];exact qhz hys ⟨h1.1.1.1.1.1,h1.1.1.1.1.2,h1.1.1.1.2,h1.1.1.2,h1.1.2,h1.2,rfl,rfl⟩
    ·cases he
   ·cases he
end
def qam.slots:qam->List Nat
 | .t n=>[n]
 | _=>[]
def osl:Option qam->List Nat
 | none=>[]
 | some x=>x.slots
def NOp.slots:NOp->List Nat
 | .bad | .mkmap=>[]
 | .isnil _ x | .srange x | .snext x | .nchk x | .mrange x | .mnext x | .mentry x=>x.slots
 | .lookup _ _ _ m k | .idxByte m k | .cpy _ m k | .appc _ _ _ m k=>m.slots ++ k.slots
 | .add64 a b c=>a.slots ++ (b.slots ++ c.slots)
 | .mapup _ m k v=>m.slots ++ k.slots ++ v.slots
def IOp.slots:IOp->List Nat
 | .n x=>x.slots
 | .mv x | .box x | .load _ _ x | .un _ x | .conv _ x | .fieldA _ x | .field _ _ _ x | .len x | .lenS x | .cap x | .extract x _ | .b2s x | .cvs x=>x.slots
 | .pick c a b=>c.slots ++ a.slots ++ b.slots
 | .alloc _ | .lenK _=>[]
 | .build _ ps | .buildSl _ _ _ ps=>ps.flatMap fun p=>p.2.2.slots
 | .store _ a x | .bin _ a x | .eqs _ _ a x | .beq _ a x | .idxA _ a x | .idxP _ _ a x | .idxV _ _ _ a x | .idxS a x | .app _ _ _ a x | .copy _ a x | .mm _ a x | .mksl _ _ _ a x=>a.slots ++ x.slots
 | .mkfn _ a b=>(a.flatMap qam.slots) ++ (b.flatMap qam.slots)
 | .slice _ x lo hi mx=>x.slots ++ osl lo ++ osl hi ++ osl mx
 | .sliceS x lo hi=>x.slots ++ osl lo ++ osl hi
 | .call f as=>f.slots ++ as.flatMap qam.slots
section
variable {gl:Fr} {F F':FF} {H H':HH} {gf gf':Nat->Nat} {id:Nat}
theorem qaf {x:qam} (hx:∀ t ∈ x.slots,F' t = F t):evF gl F' x = evF gl F x:=by
 cases x <;> first | rfl | exact hx _ (by simp [qam.slots])
theorem qci {x:qam} (hx:∀ t ∈ x.slots,F' t = F t):qqx gl F' x = qqx gl F x:=by unfold qqx; rw [qaf hx]
theorem qd1:∀ {l:List qam},(∀ t ∈ l.flatMap qam.slots,F' t = F t)->qvj gl F' l = qvj gl F l
 | [],_=>rfl
 | x :: r,hx=>by
  simp only [qvj];rw [qaf (fun t ht=>hx t (by simp [ht])),qd1 (fun t ht=>hx t (by simp only [List.flatMap_cons,List.mem_append]; exact .inr ht))]
theorem qhj:∀ {l:List (Nat × Nat × qam)},(∀ t ∈ l.flatMap (fun p=>p.2.2.slots),F' t = F t)->qnl gl F' l = qnl gl F l
 | [],_=>rfl
 | (o,s,x) :: r,hx=>by
  simp only [qnl];rw [qaf (fun t ht=>hx t (by simp [ht])),qhj (fun t ht=>hx t (by simp only [List.flatMap_cons,List.mem_append]; exact .inr ht))]
theorem qem {d:Nat} {x:Option qam} (hx:∀ t ∈ osl x,F' t = F t):qe6 gl F' d x = qe6 gl F d x:=by
 cases x with
 | none=>rfl
 | some y=>simp only [qe6]; rw [qaf (fun t ht=>hx t ht)]
theorem qm8 {x:Option qam} (hx:∀ t ∈ osl x,F' t = F t):qfl gl F' x = qfl gl F x:=by
 cases x with
 | none=>rfl
 | some y=>simp only [qfl]; rw [qaf (fun t ht=>hx t ht)]
theorem qdq {sz:Nat} {v:V} {r:List V × List Nat} (he:qge H sz v = some r) (hH:∀ b ∈ r.2,H' b = H b):qge H' sz v = some r:=by
 unfold qge at he ⊢;split at he
 ·exact he
 ·rename_i b g off len cap
  cases hb:H b with
  | none=>rw [hb] at he; cases he
  | some k=>
   rw [hb] at he
   cases k with
   | row g' sz' es=>
    obtain ⟨h1,h2⟩:=qae he;cases h2;have hbb:H' b = H b:=hH b (by simp);rw [hbb,hb];simp only [h1,gd]
   | map g' es=>cases he
   | siter g' s pos=>cases he
   | loop=>cases he
   | miter=>cases he
   | dead=>cases he
 ·cases he
theorem qxs {x:NOp} (hF:∀ t ∈ x.slots,F' t = F t):nop gl gf id F' H x = nop gl gf id F H x:=by
 cases x <;> simp only [NOp.slots,List.mem_append] at hF <;> simp only [nop]
 case isnil neg x=>rw [qaf hF]
 case lookup kd ok z m k=>rw [qaf (fun t ht=>hF t (.inl ht)),qaf (fun t ht=>hF t (.inr ht))]
 case mapup kd m k v=>rw [qaf (fun t ht=>hF t (.inl (.inl ht))),qaf (fun t ht=>hF t (.inl (.inr ht))),qaf (fun t ht=>hF t (.inr ht))]
 case srange x=>rw [qaf hF]
 case nchk x=>rw [qaf hF]
 case mrange x=>rw [qaf hF]
 case mentry x=>rw [qaf hF]
 case snext x=>rw [qaf hF]
 case idxByte s c=>rw [qaf (fun t ht=>hF t (.inl ht)),qaf (fun t ht=>hF t (.inr ht))]
 case add64 x y z=>rw [qaf (fun t ht=>hF t (.inl ht)),qaf (fun t ht=>hF t (.inr (.inl ht))),qaf (fun t ht=>hF t (.inr (.inr ht)))]
 case cpy sz x y=>rw [qci (fun t ht=>hF t (.inl ht)),qci (fun t ht=>hF t (.inr ht))]
 case appc sz b z x y=>rw [qci (fun t ht=>hF t (.inl ht)),qci (fun t ht=>hF t (.inr ht))]
theorem qxt {x:NOp} {y:Y} (he:nop gl gf id F H x = some y) (hH:∀ b ∈ y.2.2,H' b = H b) (hg:gf' id = gf id) (hgr:∀ b ∈ y.2.2,∀ k,H b = some k->gf' b = gf b):nop gl gf' id F H' x = some y:=by
 cases x <;> simp only [nop] at he ⊢
 case bad=>exact he
 case isnil neg x=>
  split at he
  ·exact he
  ·exact he
  ·split at he
   ·rename_i hb;obtain ⟨h1,h2⟩:=qae he;cases h2;rw [hH _ (by simp),hb];simp only [h1,gd]
   ·cases he
  ·cases he
 case mkmap=>rw [hg]; exact he
 case lookup kd ok z m k=>
  split at he
  ·split at he
   ·rename_i hb;have he0:=he;obtain ⟨h1,h2⟩:=qae he;split at h2
    ·cases h2; rw [hH _ (by simp),hb]; exact he0
    ·cases h2; rw [hH _ (by simp),hb]; exact he0
    ·cases h2
   ·cases he
  ·exact he
  ·cases he
 case mapup kd m k v=>
  split at he
  ·split at he
   ·rename_i hb;have he0:=he;obtain ⟨h1,h2⟩:=qae he;split at h2
    ·cases h2; rw [hH _ (by simp),hb]; exact he0
    ·cases h2; rw [hH _ (by simp),hb]; exact he0
    ·cases h2
   ·cases he
  ·cases he
 case srange x=>rw [hg]; exact he
 case snext x=>
  split at he
  ·split at he
   ·rename_i b g _ _ g' s pos hb;have he0:=he;obtain ⟨h1,h2⟩:=qae he
    have hin:y.2.2 = [b]:=by
     cases hd:decide (pos < s.length) with
     | true=>rw [hd] at h2; simp only [cond_true] at h2; cases h2; rfl
     | false=>rw [hd] at h2; simp only [cond_false] at h2; cases h2; rfl
    rw [hH _ (by rw [hin]; simp),hb]; exact he0
   ·cases he
  ·cases he
 case idxByte s c=>exact he
 case add64 x y z=>exact he
 case nchk x=>exact he
 case mnext x=>exact he
 case mrange x=>
  split at he
  ·split at he
   ·rename_i hb;have he0:=he;obtain ⟨h1,h2⟩:=qae he;cases h2;rw [hH _ (by simp),hb,hg]; exact he0
   ·cases he
  ·cases he
 case mentry x=>
  split at he
  ·split at he
   ·rename_i hb;split at he
    ·rename_i hb2;split at he
     ·rename_i hi;have he0:=he;obtain ⟨h1,h2⟩:=qae he;cases h2;rw [hH _ (by simp),hb];simp only [];rw [hH _ (by simp),hb2];simp only [hi]; exact he0
     ·cases he
    ·cases he
   ·cases he
  ·cases he
 case cpy sz x vy=>
  split at he
  ·rename_i b g off len cap v hx hz
   try simp only [hx,hz]
   split at he
   ·rename_i g' sz' es hb;have st0:=he;obtain ⟨ys,hys,he⟩:=qad he;obtain ⟨h1,he⟩:=qae he;cases he;rw [hH b (by simp),hb];simp only [];rw [qdq hys (fun b hb=>hH b (by simp [hb]))];rw [hys] at st0;exact st0
   ·cases he
  ·cases he
 case appc sz bytes z x vy=>
  split at he
  ·rename_i b g off len cp v hx hz
   try simp only [hx,hz]
   split at he
   ·rename_i g' sz' es hb;have st0:=he;obtain ⟨ys,hys,he⟩:=qad he;obtain ⟨h1,he⟩:=qae he
    have hin:b ∈ y.2.2/\∀ q ∈ ys.2,q ∈ y.2.2:=by
     split at he <;> cases he <;> exact ⟨by simp,fun q hq=>by simp [hq]⟩
    rw [hH b hin.1,hb,hg];simp only [];rw [qdq hys (fun q hq=>hH q (hin.2 q hq))];rw [hys] at st0;exact st0
   ·cases he
  ·cases he
theorem qd8 {io:IOp} (hF:∀ t ∈ io.slots,F' t = F t) {y:Y} (he:eop gl gf id F H io = some y) (hH:∀ b ∈ y.2.2,H' b = H b) (hg:gf' id = gf id) (hgr:∀ b ∈ y.2.2,∀ k,H b = some k->gf' b = gf b):eop gl gf' id F' H' io = some y:=by
 have stable:eop gl gf id F' H io = some y:=by
  rw [<- he];cases io <;> simp only [IOp.slots,List.mem_append] at hF <;> simp only [eop]
  case mv x=>rw [qaf hF]
  case pick c x y=>rw [qaf (fun t ht=>hF t (.inl (.inl ht))),qaf (fun t ht=>hF t (.inl (.inr ht))),qaf (fun t ht=>hF t (.inr ht))]
  case box x=>rw [qaf hF]
  case build z ps=>rw [qhj hF]
  case buildSl sz len z ps=>rw [qhj hF]
  case load ag m x=>rw [qaf hF]
  case store m x y=>rw [qaf (fun t ht=>hF t (.inl ht)),qaf (fun t ht=>hF t (.inr ht))]
  case bin op x y=>rw [qaf (fun t ht=>hF t (.inl ht)),qaf (fun t ht=>hF t (.inr ht))]
  case eqs neg m x y=>rw [qaf (fun t ht=>hF t (.inl ht)),qaf (fun t ht=>hF t (.inr ht))]
  case beq neg x y=>rw [qaf (fun t ht=>hF t (.inl ht)),qaf (fun t ht=>hF t (.inr ht))]
  case un op x=>rw [qaf hF]
  case conv k x=>rw [qaf hF]
  case mkfn f x y=>rw [qd1 (fun t ht=>hF t (.inl ht)),qd1 (fun t ht=>hF t (.inr ht))]
  case mksl z sz b x y=>rw [qaf (fun t ht=>hF t (.inl ht)),qaf (fun t ht=>hF t (.inr ht))]
  case slice sz x lo hi mx=>
   rw [qci (fun t ht=>hF t (.inl (.inl (.inl ht)))),qem (fun t ht=>hF t (.inl (.inl (.inr ht)))),qm8 (fun t ht=>hF t (.inr ht))];simp only [qem (x:=hi) (fun t ht=>hF t (.inl (.inr ht)))]
  case sliceS x lo hi=>
   rw [qaf (fun t ht=>hF t (.inl (.inl ht))),qem (fun t ht=>hF t (.inl (.inr ht)))];simp only [qem (x:=hi) (fun t ht=>hF t (.inr ht))]
  case fieldA off x=>rw [qaf hF]
  case field ag off m x=>rw [qaf hF]
  case idxA sz x y=>rw [qaf (fun t ht=>hF t (.inl ht)),qaf (fun t ht=>hF t (.inr ht))]
  case idxP len sz x y=>rw [qaf (fun t ht=>hF t (.inl ht)),qaf (fun t ht=>hF t (.inr ht))]
  case idxV ag len sz x y=>rw [qaf (fun t ht=>hF t (.inl ht)),qaf (fun t ht=>hF t (.inr ht))]
  case idxS x y=>rw [qaf (fun t ht=>hF t (.inl ht)),qaf (fun t ht=>hF t (.inr ht))]
  case len x=>rw [qci hF]
  case lenS x=>rw [qaf hF]
  case cap x=>rw [qci hF]
  case app sz b z x y=>rw [qci (fun t ht=>hF t (.inl ht)),qci (fun t ht=>hF t (.inr ht))]
  case mm mx x y=>rw [qaf (fun t ht=>hF t (.inl ht)),qaf (fun t ht=>hF t (.inr ht))]
  case extract x i=>rw [qaf hF]
  case cvs x=>rw [qaf hF]
  case b2s x=>rw [qci hF]
  case n x=>exact qxs (by simpa [IOp.slots] using hF)
 clear he hF;have hrow:∀ {b:Nat} {k:Blk},b ∈ y.2.2->H b = some k->H' b = some k:=fun hb hk=>by rw [hH _ hb]; exact hk
 cases io <;> simp only [eop] at stable ⊢
 case box x=>rw [hg]; exact stable
 case alloc z=>rw [hg]; exact stable
 case buildSl sz len z ps=>rw [hg]; exact stable
 case mksl z sz b x z'=>rw [hg]; exact stable
 case load ag m x=>
  split at stable
  ·simp only [*]
  ·rename_i b g i off hx
   try simp only [hx]
   cases hb:H b with
   | none=>rw [hb] at stable; cases stable
   | some k=>
    rw [hb] at stable
    cases k with
    | row g' sz es=>
     obtain ⟨h1,h2⟩:=qae stable;cases h2;rw [hrow (by simp) hb];exact stable
    | map g' es=>cases stable
    | siter g' s pos=>cases stable
    | loop=>cases stable
    | miter=>cases stable
    | dead=>cases stable
  ·cases stable
 case store m x z=>
  split at stable
  ·rename_i b g i off v hx hz
   try simp only [hx,hz]
   cases hb:H b with
   | none=>rw [hb] at stable; cases stable
   | some k=>
    rw [hb] at stable
    cases k with
    | row g' sz es=>
     obtain ⟨h1,h2⟩:=qae stable;cases h2;rw [hrow (by simp) hb];exact stable
    | map g' es=>cases stable
    | siter g' s pos=>cases stable
    | loop=>cases stable
    | miter=>cases stable
    | dead=>cases stable
  ·cases stable
 case slice sz x lo hi mx=>
  split at stable
  ·simp only [*]
  ·rename_i b g off len cap hx
   try simp only [hx]
   cases hb:H b with
   | none=>rw [hb] at stable; cases stable
   | some k=>
    rw [hb] at stable
    cases k with
    | row g' sz es=>
     have st0:=stable;obtain ⟨h0,he⟩:=qae stable;obtain ⟨l,h1,he⟩:=qad he;obtain ⟨u,h2,he⟩:=qad he;obtain ⟨m,h3,he⟩:=qad he;obtain ⟨h4,he⟩:=qae he;cases he;rw [hrow (by simp) hb];exact st0
    | map g' es=>cases stable
    | siter g' s pos=>cases stable
    | loop=>cases stable
    | miter=>cases stable
    | dead=>cases stable
  ·cases stable
 case idxA sz x z=>
  split at stable
  ·simp only [*]
  ·rename_i b g off len cap k j hx hz
   try simp only [hx,hz]
   cases hb:H b with
   | none=>rw [hb] at stable; cases stable
   | some k=>
    rw [hb] at stable
    cases k with
    | row g' sz es=>
     have st0:=stable;obtain ⟨h1,h2⟩:=qae stable;cases h2;rw [hrow (by simp) hb];exact st0
    | map g' es=>cases stable
    | siter g' s pos=>cases stable
    | loop=>cases stable
    | miter=>cases stable
    | dead=>cases stable
  ·cases stable
 case app sz by_ z x vy=>
  split at stable
  ·simp only [*];have st0:=stable;obtain ⟨ys,hys,he⟩:=qad stable;obtain ⟨h1,he⟩:=qae he
   have hr:y.2.2 = ys.2:=by
    split at he <;> (cases he; rfl)
   rw [qdq hys (fun b hb=>hH b (by rw [hr]; exact hb))];rw [hys] at st0;simp only [eb] at st0 ⊢
   first | exact st0 | (rw [hg]; exact st0)
  ·rename_i b g off len cap vy hx hz
   try simp only [hx,hz]
   cases hb:H b with
   | none=>rw [hb] at stable; cases stable
   | some k=>
    rw [hb] at stable
    cases k with
    | row g' sz es=>
     have st0:=stable;obtain ⟨ys,hys,he⟩:=qad stable;obtain ⟨h1,he⟩:=qae he;cases he;rw [hrow (by simp) hb];simp only [];rw [qdq hys (fun b hb=>hH b (by simp [hb])),hgr _ (by simp) _ hb];rw [hys] at st0;exact st0
    | map g' es=>cases stable
    | siter g' s pos=>cases stable
    | loop=>cases stable
    | miter=>cases stable
    | dead=>cases stable
  ·cases stable
 case b2s x=>
  have st0:=stable;obtain ⟨v,h1,h2⟩:=qad stable;obtain ⟨es,h3,h4⟩:=qad h2;obtain ⟨s,h5,h6⟩:=qad h4;cases h6;rw [h1] at st0 ⊢;simp only [eb] at st0 ⊢;have:=qdq (H':=H') h3 hH;rw [this];rw [h3] at st0;exact st0
 case n x=>exact qxt stable hH hg hgr
 all_goals exact stable
end
end
end Go.Proofs.YtlmniacemoohpaaGreatDoor
