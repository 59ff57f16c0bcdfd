/- Lemmas. Conditions: none. -/
import Derived.Test.YtbbnmiaabmbheaaGreatDoorBase6
import Derived.MapKept
import Derived.Maps.RangeRun
set_option linter.all false
namespace Go.Proofs.YtbbnmiaabmbheaaGreatDoor
section
open Go
abbrev FF:=Nat->Option V
abbrev HH:=Nat->Option Blk
def qt4 (ops:Array Oper) (j i:Nat):Bool:=match ops[j]? with
 | some o=>o.after.any fun e=>Region.binds .any e && e.on == i
 | none=>false
def qnr (ops:Array Oper):Bool:=(List.range ops.size).all fun j=>match ops[j]? with
 | some o=>o.after.all fun e=>!(Region.binds .any e) || decide (e.on < j)
 | none=>true
theorem qjp {ops:Array Oper} {listed:Array Bool} {j i:Nat} (hj:j ∈ Region.ready .any ops listed) (hb:qt4 ops j i = true):listed.getD i false = true:=by
 obtain ⟨-,o,ho,hall⟩:=mem_ready.1 hj;simp only [qt4,ho] at hb;obtain ⟨e,he,hb⟩:=Array.any_eq_true'.1 hb;simp only [Bool.and_eq_true,beq_iff_eq] at hb;have:=hall e he hb.1;rw [hb.2] at this; exact this
def unl (sz:Nat) (listed:Array Bool):Nat:=(List.range sz).countP fun i=>!listed.getD i true
theorem qnv {p q:Nat->Bool} {i:Nat}:∀ (l:List Nat),(∀ j ∈ l,q j = true->p j = true)->i ∈ l->p i = true->q i = false->l.countP q < l.countP p
 | [],_,h,_,_=>by cases h
 | x :: l,h1,h2,h3,h4=>by
  have hle:l.countP q≤l.countP p:=List.countP_mono_left fun j hj=>h1 j (List.mem_cons_of_mem _ hj);simp only [List.countP_cons];by_cases hx:i = x
  ·subst hx;rw [h3,h4]; simp; omega
  ·have hi:i ∈ l:=by
    rcases List.mem_cons.1 h2 with h | h
    ·exact absurd h hx
    ·exact h
   have:=qnv l (fun j hj=>h1 j (List.mem_cons_of_mem _ hj)) hi h3 h4;have hxx:=h1 x (List.mem_cons_self);cases hq:q x <;> cases hp:p x
   ·simp; omega
   ·simp; omega
   ·rw [hxx hq] at hp; cases hp
   ·simp; omega
theorem qw1 {sz:Nat} {listed:Array Bool} {i:Nat} (hs:listed.size = sz) (hi:i < sz) (hu:listed.getD i true = false):unl sz (listed.setIfInBounds i true) < unl sz listed:=by
 refine qnv (i:=i) _ (fun j _ hj=>?_) (List.mem_range.2 hi) (by rw [hu]; rfl) ?_
 ·by_cases hji:i = j
  ·subst hji; rw [hu]; rfl
  ·rw [getD_set_ne true hji] at hj; exact hj
 ·have:i < listed.size:=by omega
  simp [this]
theorem qr7 {sz:Nat} {listed:Array Bool} (h:unl sz listed = 0):∀ i,i < sz->listed.getD i true = true:=by
 intro i hi;have:=List.countP_eq_zero.1 h i (List.mem_range.2 hi);simpa using this
theorem qk1 {sz:Nat} {listed:Array Bool}:∀ i,i < sz->listed.getD i true = false->∃ i,i < sz/\listed.getD i true = false/\∀ j,j < i->listed.getD j true = true:=by
 intro i
 induction i using Nat.strongRecOn with
 | ind i ih=>
  intro hi hu;by_cases h:∃ j,j < i/\listed.getD j true = false
  ·obtain ⟨j,hj,hju⟩:=h; exact ih j hj (by omega) hju
  ·refine ⟨i,hi,hu,fun j hj=>?_⟩
   cases hl:listed.getD j true with
   | true=>rfl
   | false=>exact absurd ⟨j,hj,hl⟩ h
theorem qry {ops:Array Oper} {listed:Array Bool} (hb:qnr ops = true) (hs:listed.size = ops.size) {i:Nat} (hi:i < ops.size) (hu:listed.getD i true = false):Region.ready .any ops listed ≠ []:=by
 obtain ⟨j,hj,hju,hall⟩:=qk1 i hi hu;intro hn
 have:j ∈ Region.ready .any ops listed:=by
  refine mem_ready.2 ⟨hju,ops[j],Array.getElem?_eq_getElem hj,fun e he hbe=>?_⟩;simp only [qnr,List.all_eq_true,List.mem_range] at hb;have h1:=hb j hj;rw [Array.getElem?_eq_getElem hj] at h1;have h1:=(Array.all_eq_true_iff_forall_mem.1 h1) e he;simp only [hbe,Bool.not_true,Bool.false_or,decide_eq_true_eq] at h1;have h2:=hall e.on h1;have hlt:e.on < listed.size:=by omega
  simp [hlt] at h2 ⊢;exact h2
 rw [hn] at this; cases this
def ov {α:Type} (D:List (Nat × α)) (F:Nat->Option α):Nat->Option α:=fun t=>match lk D t with
 | some v=>some v
 | none=>F t
theorem qcd {α:Type} (D h:List (Nat × α)):lk (D ++ h) = ov D (lk h):=by
 induction D with
 | nil=>rfl
 | cons p r ih=>
  obtain ⟨k,v⟩:=p;funext t;simp only [List.cons_append,lk,ih,ov];by_cases h1:t = k <;> simp [h1]
theorem qqc {α:Type} {D:List (Nat × α)} {F:Nat->Option α} {t:Nat} (h:lk D t = none):ov D F t = F t:=by simp [ov,h]
def st {α:Type} (D:Nat->List (Nat × α)) (L:Nat->Bool) (F0:Nat->Option α):Nat->Nat->Option α
 | 0=>F0
 | k + 1=>if L k = true then ov (D k) (st D L F0 k) else st D L F0 k
section
variable {α:Type} {D:Nat->List (Nat × α)} {L:Nat->Bool} {F0:Nat->Option α}
theorem qht {t:Nat}:∀ k,(∀ j,j < k->lk (D j) t ≠ none->L j = true)->st D L F0 k t = st D (fun _=>true) F0 k t
 | 0,_=>rfl
 | k + 1,h=>by
  have ih:=qht k fun j hj=>h j (by omega);simp only [st,if_true];by_cases hl:L k = true
  ·rw [if_pos hl]; simp only [ov,ih]
  ·rw [if_neg hl,ih]
   have:lk (D k) t = none:=by
    cases hc:lk (D k) t with
    | none=>rfl
    | some v=>exact absurd (h k (by omega) (by rw [hc]; simp)) hl
   rw [qqc this]
theorem qdm {t i:Nat}:∀ k,i≤k->(∀ j,i≤j->j < k->lk (D j) t ≠ none->L j = false)->st D L F0 k t = st D L F0 i t
  | 0, hi, _ => by obtain rfl:i = 0 := by omega
                   rfl
  | k + 1,hi,h=>by
    by_cases hik:i = k + 1
    · rw [hik]
    · have ih:=qdm (i:=i) k (by omega) fun j h1 h2=>h j h1 (by omega);simp only [st];by_cases hl:L k = true
      · rw [if_pos hl]
        have:lk (D k) t = none:=by
          cases hc:lk (D k) t with
          | none=>rfl
          | some v=>have:=h k (by omega) (by omega) (by rw [hc]; simp); rw [this] at hl; cases hl
        rw [qqc this,ih]
      · rw [if_neg hl,ih]
theorem qgi {L':Nat->Bool}:∀ k,(∀ j,j < k->L' j = L j)->st D L' F0 k = st D L F0 k
 | 0,_=>rfl
 | k + 1,h=>by
  simp only [st];rw [qgi k fun j hj=>h j (by omega),h k (by omega)]
theorem q23 {A B:List (Nat × α)} {F:Nat->Option α} (h:∀ t,lk A t = none∨lk B t = none):ov A (ov B F) = ov B (ov A F):=by
 funext t;simp only [ov];rcases h t with h | h
 ·simp [h]
 ·simp [h]
theorem qo8 {L':Nat->Bool} {i:Nat} (hi:L i = false) (hi':L' i = true) (hL:∀ j,j ≠ i->L' j = L j):∀ k,i < k->(∀ j,i < j->j < k->L j = true->∀ t,lk (D i) t = none∨lk (D j) t = none)->st D L' F0 k = ov (D i) (st D L F0 k)
 | 0,h,_=>by omega
 | k + 1,h,hd=>by
  simp only [st];by_cases hik:i = k
  ·subst hik;rw [if_pos hi',hi,if_neg (by simp),qgi i fun j hj=>hL j (by omega)]
  ·have ih:=qo8 hi hi' hL k (by omega) fun j h1 h2=>hd j h1 (by omega);rw [hL k (Ne.symm hik),ih];by_cases hl:L k = true
   ·rw [if_pos hl,if_pos hl];exact q23 fun t=>(hd k (by omega) (by omega) hl t).symm
   ·rw [if_neg hl,if_neg hl]
end
def q40 (acc:List Nat) (o:Oper):Nat:=o.after.toList.foldl (fun m e=>if Region.binds .any e = true then (m ||| acc.getD e.on 0) ||| 2 ^ e.on else m) 0
def qjn:List Oper->List Nat->List Nat
 | [],acc=>acc
 | o :: r,acc=>qjn r (acc ++ [q40 acc o])
def bd (an:List Nat) (i j:Nat):Bool:=(an.getD j 0).testBit i
def qxd (ops:Array Oper) (m j:Nat):Prop:=∀ L:Nat->Prop,(∀ x y,L x->qt4 ops x y = true->L y)->(∀ y,qt4 ops j y = true->L y)->∀ i,m.testBit i = true->L i
theorem q1b {ops:Array Oper} {acc:List Nat} (hacc:∀ j,j < acc.length->qxd ops (acc.getD j 0) j) {k:Nat} {o:Oper} (ho:ops[k]? = some o):qxd ops (q40 acc o) k:=by
 intro L hL hk
 have key:∀ (l:List Edge) (m:Nat),(∀ e ∈ l,e ∈ o.after)->(∀ i,m.testBit i = true->L i)->∀ i,(l.foldl (fun m e=>if Region.binds .any e = true then (m ||| acc.getD e.on 0) ||| 2 ^ e.on else m) m).testBit i = true->L i:=by
  intro l
  induction l with
  | nil=>intro m _ hm; exact hm
  | cons e r ih=>
   intro m hl hm;simp only [List.foldl_cons];refine ih _ (fun e' he'=>hl e' (List.mem_cons_of_mem _ he')) fun i hi=>?_;split at hi
   ·rename_i hb
    have hon:L e.on:=hk e.on (by
     simp only [qt4,ho,Array.any_eq_true'];exact ⟨e,hl e List.mem_cons_self,by simp [hb]⟩)
    rw [Nat.testBit_or,Nat.testBit_or,Bool.or_eq_true,Bool.or_eq_true] at hi;rcases hi with (hi | hi) | hi
    ·exact hm i hi
    ·rcases Nat.lt_or_ge e.on acc.length with h | h
     ·exact hacc e.on h L hL (fun y hy=>hL e.on y hon hy) i hi
     ·rw [jkd,List.getElem?_eq_none h] at hi; simp at hi
    ·rw [Nat.testBit_two_pow] at hi;have:e.on = i:=by simpa using hi
     exact this ▸ hon
   ·exact hm i hi
 exact key o.after.toList 0 (fun e he=>by simpa using he) (fun i hi=>by simp at hi)
theorem qt3 {ops:Array Oper}:∀ (l:List Oper) (acc:List Nat),ops.toList.drop acc.length = l->(∀ j,j < acc.length->qxd ops (acc.getD j 0) j)->∀ j,j < (qjn l acc).length->qxd ops ((qjn l acc).getD j 0) j
 | [],acc,_,hacc=>hacc
 | o :: r,acc,hd,hacc=>by
  have ho:ops[acc.length]? = some o:=by
   have:=congrArg (fun l:List Oper=>l[0]?) hd;simpa using this
  refine qt3 r _ (by rw [List.length_append,List.length_singleton,<- List.tail_drop,hd]; rfl) fun j hj=>?_;by_cases hja:j < acc.length
  ·have:(acc ++ [q40 acc o]).getD j 0 = acc.getD j 0:=by rw [jkd,jkd,List.getElem?_append_left hja]
   rw [this]; exact hacc j hja
  ·have hje:j = acc.length:=by simp at hj; omega
   subst hje;have:(acc ++ [q40 acc o]).getD acc.length 0 = q40 acc o:=by simp [jkd]
   rw [this]; exact q1b hacc ho
theorem qmb {ops:Array Oper} {i j:Nat} (hb:bd (qjn ops.toList []) i j = true) (L:Nat->Prop) (hL:∀ x y,L x->qt4 ops x y = true->L y) (hj:∀ y,qt4 ops j y = true->L y):L i:=by
 unfold bd at hb;rcases Nat.lt_or_ge j (qjn ops.toList []).length with h | h
 ·exact qt3 ops.toList [] rfl (fun j hj=>by simp at hj) j h L hL hj i hb
 ·rw [jkd,List.getElem?_eq_none h] at hb; simp at hb
def dD (d:Option Nat) (v:V):Fr:=match d with
 | some d=>[(d,v)]
 | none=>[]
theorem qqg (fr:Fr) (d:Option Nat) (v:V):qk5 fr d v = dD d v ++ fr:=by cases d <;> rfl
theorem qvc {d:Option Nat} {v:V} {t:Nat} (h:d ≠ some t):lk (dD d v) t = none:=by
 cases d with
 | none=>rfl
 | some e=>
  have:t ≠ e:=fun he=>h (by rw [he]);simp [dD,lk,this]
theorem qgb {d:Option Nat} {v:V} {t:Nat} (h:lk (dD d v) t ≠ none):d = some t:=by
 by_cases hd:d = some t
 ·exact hd
 ·exact absurd (qvc hd) h
def qk9 (P:Program) (gl:Fr) (n:Nat) (ops:Array Oper) (i:Nat) (o:Oper) (F:FF) (H:HH) (rd ids:Nat->Prop) (v:V) (W:Hp):Prop:=
 ∀ {bs:BS} {fr:Fr} {h:Hp} {G:qaz} {M:qar} {a:Act} {w:World} {Q:Exit->Act->World->Prop} {K':Act->World->Prop},R bs n gl G M fr h a w->(∀ t ∈ o.looksAt ops,lk fr t = F t)->(∀ b,rd b->lk h b = H b)->(∀ b,ids b->qaa M b = 0)->
  (∀ rv G' M' w',R bs n gl G' M' (qk5 fr o.dst v) (W ++ h) (a.put o.dst rv) w'->Ext G M w G' M' w'->(∀ b,¬ ids b->qaa M b = 0->qaa M' b = 0)->K' (a.put o.dst rv) w')->wpOp P ops Q i K' a w
structure qpl (ops:Array Oper) (x y:Oper):Prop where
 xy:∀ t ∈ y.looksAt ops,x.dst ≠ some t
 yx:∀ t ∈ x.looksAt ops,y.dst ≠ some t
 dd:∀ t,x.dst = some t->y.dst ≠ some t
structure qpi (W W':Hp) (rd rd':Nat->Prop):Prop where
 ww:∀ b,lk W b = none∨lk W' b = none
 wr:∀ b,rd' b->lk W b = none
 rw:∀ b,rd b->lk W' b = none
section
variable {P:Program} {gl:Fr} {bs:BS} {n:Nat} {ops:Array Oper} {vs:Nat->V} {Ws:Nat->Hp} {rd ids:Nat->Nat->Prop} {F0:FF} {H0:HH}
def Dv (ops:Array Oper) (vs:Nat->V) (i:Nat):Fr:=match ops[i]? with
 | some o=>dD o.dst (vs i)
 | none=>[]
def qe2:Nat->Bool:=fun _=>true
theorem qtb (hback:qnr ops = true)
  (hy:∀ i o,ops[i]? = some o->qk9 P gl n ops i o (st (Dv ops vs) qe2 F0 i) (st Ws qe2 H0 i) (rd i) (ids i) (vs i) (Ws i))
  (hslot:∀ i j oi oj,i < j->ops[i]? = some oi->ops[j]? = some oj->bd (qjn ops.toList []) i j = false->qpl ops oi oj)
  (hheap:∀ i j,i < j->j < ops.size->bd (qjn ops.toList []) i j = false->qpi (Ws i) (Ws j) (rd i) (rd j))
  (hids:∀ i j b,i ≠ j->ids i b->¬ ids j b) {Q:Exit->Act->World->Prop} {G0:qaz} {M0':qar} {w0:World}
  (hfin:∀ fr' h' G' M' a' w',lk fr' = st (Dv ops vs) qe2 F0 ops.size->lk h' = st Ws qe2 H0 ops.size->R bs n gl G' M' fr' h' a' w'->Ext G0 M0' w0 G' M' w'->
   (∀ b,(∀ i,¬ ids i b)->qaa M0' b = 0->qaa M' b = 0)->Q .normal a' w') :
  ∀ (fuel:Nat) (listed:Array Bool) (fr:Fr) (h:Hp) (G:qaz) (M:qar) (a:Act) (w:World),listed.size = ops.size->(∀ x y,listed.getD x false = true->qt4 ops x y = true->listed.getD y false = true)->
   lk fr = st (Dv ops vs) (fun j=>listed.getD j false) F0 ops.size->lk h = st Ws (fun j=>listed.getD j false) H0 ops.size->R bs n gl G M fr h a w->Ext G0 M0' w0 G M w->
   (∀ i,listed.getD i false = false->∀ b,ids i b->qaa M b = 0)->(∀ b,(∀ i,¬ ids i b)->qaa M0' b = 0->qaa M b = 0)->unl ops.size listed≤fuel->wpAny P .any ops Q fuel listed a w:=by
 have done:∀ (listed:Array Bool) (fr:Fr) (h:Hp) (G:qaz) (M:qar) (a:Act) (w:World),listed.size = ops.size->(∀ i,i < ops.size->listed.getD i true = true)->
   lk fr = st (Dv ops vs) (fun j=>listed.getD j false) F0 ops.size->lk h = st Ws (fun j=>listed.getD j false) H0 ops.size->R bs n gl G M fr h a w->Ext G0 M0' w0 G M w->
   (∀ b,(∀ i,¬ ids i b)->qaa M0' b = 0->qaa M b = 0)->Q .normal a w:=by
  intro listed fr h G M a w hs hal hf hh hr hx hfr
  have hl:∀ j,j < ops.size->qe2 j = (fun j=>listed.getD j false) j:=fun j hj=>by
   have:=hal j hj;have hjs:j < listed.size:=by omega
   simp [hjs] at this;simp [qe2,hjs,this]
  exact hfin fr h G M a w (by rw [hf,qgi ops.size hl]) (by rw [hh,qgi ops.size hl]) hr hx hfr
 intro fuel
 induction fuel with
 | zero=>
  intro listed fr h G M a w hs hdc hf hh hr hx hfi hfr hu;have hal:=qr7 (by omega:unl ops.size listed = 0);refine ⟨?_,done listed fr h G M a w hs hal hf hh hr hx hfr⟩
  cases hrd:Region.ready .any ops listed with
  | nil=>rfl
  | cons i r=>
   have hm:i ∈ Region.ready .any ops listed:=by rw [hrd]; exact List.mem_cons_self
   obtain ⟨h1,o,h2,-⟩:=mem_ready.1 hm;rw [hal i (Array.getElem?_eq_some_iff.1 h2).1] at h1; cases h1
 | succ fuel ihf=>
  intro listed fr h G M a w hs hdc hf hh hr hx hfi hfr hu;refine ⟨fun hn=>?_,fun i hir=>?_⟩
  ·refine done listed fr h G M a w hs (fun i hi'=>?_) hf hh hr hx hfr
   cases hl:listed.getD i true with
   | true=>rfl
   | false=>exact absurd hn (qry hback hs hi' hl)
  ·obtain ⟨hun,o,ho,hall⟩:=mem_ready.1 hir;have his:i < ops.size:=(Array.getElem?_eq_some_iff.1 ho).1;have hil:i < listed.size:=by omega
   have hunf:listed.getD i false = false:=by
    simp [hil] at hun;simp [hil,hun]
   have hpre:∀ y,qt4 ops i y = true->listed.getD y false = true:=fun y hy'=>qjp hir hy';have below:∀ j,bd (qjn ops.toList []) j i = true->listed.getD j false = true:=fun j hb=>qmb hb (fun x=>listed.getD x false = true) hdc hpre
   have above:∀ j,listed.getD j false = true->bd (qjn ops.toList []) i j = false:=by
    intro j hj
    cases hb:bd (qjn ops.toList []) i j with
    | false=>rfl
    | true=>
     have:=qmb hb (fun x=>listed.getD x false = true) hdc (fun y hy'=>hdc j y hj hy');rw [hunf] at this; cases this
   have hdv:∀ j,Dv ops vs j = match ops[j]? with | some oj=>dD oj.dst (vs j) | none=>[]:=fun j=>rfl
   have hlist:∀ j,listed.getD j false = true->j < ops.size:=fun j hj=>by
    rcases Nat.lt_or_ge j listed.size with h' | h'
    ·omega
    ·simp [Array.getElem?_eq_none h'] at hj
   have hset:∀ j,j ≠ i->(listed.setIfInBounds i true).getD j false = listed.getD j false:=fun j hj=>getD_set_ne false (Ne.symm hj);have hseti:(listed.setIfInBounds i true).getD i false = true:=by simp [hil]
   refine hy i o ho hr (fun t ht=>?_) (fun b hb=>?_) (fun b hb=>hfi i hunf b hb) (fun rv G' M' w' hr' hx' hf'=>?_)
   ·rw [hf];rw [qdm (i:=i) ops.size (by omega) fun j h1 h2 h3=>?_]
    ·refine qht i fun j hj h3=>?_;have hoj:ops[j]? = some ops[j]:=Array.getElem?_eq_getElem (by omega);rw [hdv,hoj] at h3;have hd:=qgb h3
     cases hb:bd (qjn ops.toList []) j i with
     | true=>exact below j hb
     | false=>exact absurd hd ((hslot j i _ _ hj hoj ho hb).xy t ht)
    ·have hoj:ops[j]? = some ops[j]:=Array.getElem?_eq_getElem h2;rw [hdv,hoj] at h3;have hd:=qgb h3
     cases hl:listed.getD j false with
     | false=>rfl
     | true=>
      have hji:i ≠ j:=fun e=>by rw [<- e,hunf] at hl; cases hl
      exact absurd hd ((hslot i j _ _ (by omega) ho hoj (above j hl)).yx t ht)
   ·rw [hh];rw [qdm (i:=i) ops.size (by omega) fun j h1 h2 h3=>?_]
    ·refine qht i fun j hj h3=>?_
     cases hb':bd (qjn ops.toList []) j i with
     | true=>exact below j hb'
     | false=>exact absurd ((hheap j i hj his hb').wr b hb) h3
    ·cases hl:listed.getD j false with
     | false=>rfl
     | true=>
      have hji:i ≠ j:=fun e=>by rw [<- e,hunf] at hl; cases hl
      exact absurd ((hheap i j (by omega) h2 (above j hl)).rw b hb) h3
   ·refine ihf (listed.setIfInBounds i true) _ _ G' M' _ w' (by simpa using hs) ?_ ?_ ?_ hr' (hx.trans hx') ?_ ?_ ?_
    ·intro x y h1 h2;by_cases hy':y = i
     ·subst hy'; exact hseti
     ·rw [hset y hy'];by_cases hxi:x = i
      ·subst hxi; exact hpre y h2
      ·rw [hset x hxi] at h1; exact hdc x y h1 h2
    ·rw [qqg,qcd,hf];have:dD o.dst (vs i) = Dv ops vs i:=by rw [hdv,ho]
     rw [this];refine (qo8 (L:=fun j=>listed.getD j false) hunf hseti hset ops.size his fun j h1 h2 h3 t=>?_).symm;have hoj:ops[j]? = some ops[j]:=Array.getElem?_eq_getElem h2;have hI:=hslot i j _ _ h1 ho hoj (above j h3);rw [hdv,hdv,ho,hoj];by_cases hd:o.dst = some t
     ·exact .inr (qvc (hI.dd t hd))
     ·exact .inl (qvc hd)
    ·rw [qcd,hh];exact (qo8 (L:=fun j=>listed.getD j false) hunf hseti hset ops.size his fun j h1 h2 h3 t=>(hheap i j h1 h2 (above j h3)).ww t).symm
    ·intro j hj b hb;have hji:j ≠ i:=fun e=>by rw [e,hseti] at hj; cases hj
     rw [hset j hji] at hj;exact hf' b (fun hc=>hids i j b (Ne.symm hji) hc hb) (hfi j hj b hb)
    ·intro b hb h0;exact hf' b (hb i) (hfr b hb h0)
    ·have:=qw1 hs his hun;omega
end
end
section
open Go
abbrev Y:=V × Hp × List Nat
def gd {α:Type} (c:Bool) (x:Option α):Option α:=match c with
 | true=>x
 | false=>none
def eb {α β:Type} (x:Option α) (f:α->Option β):Option β:=match x with
 | some v=>f v
 | none=>none
theorem qae {α:Type} {c:Bool} {x:Option α} {y:α} (h:gd c x = some y):c = true/\x = some y:=by
 cases c
 ·cases h
 ·exact ⟨rfl,h⟩
theorem qad {α β:Type} {x:Option α} {f:α->Option β} {y:β} (h:eb x f = some y):∃ v,x = some v/\f v = some y:=by
 cases x with
 | none=>cases h
 | some v=>exact ⟨v,rfl,h⟩
def jiy (ag:Bool) (off n:Nat) (x:V):Bool:=match ag with
 | true=>decide (off + n≤x.cells.length)
 | false=>decide (off < x.cells.length)
theorem V.partOkB_iff {ag:Bool} {off n:Nat} {x:V}:jiy ag off n x = true↔jiv ag off n x:=by cases ag <;> simp [jiy,jiv]
def jjf (off n:Nat) (v x:V):Bool:=decide (v.cells.length = n) && v.cellsOk && match x with
 | .agg cs=>decide (off + n≤cs.length)
 | x=>decide (off = 0) && decide (n = 1) && x.isCell && v.isCell
theorem V.putOkB_iff {off n:Nat} {v x:V}:jjf off n v x = true↔ji6 off n v x:=by cases x <;> simp [jjf,ji6,and_assoc]
def evF (gl:Fr) (F:FF):qal->Option V
 | .t n=>F n
 | .g n=>lk gl n
 | .c v=>some v
 | .f f=>some (.fn f [] [])
theorem qbh (gl fr:Fr) (x:qal):evF gl (lk fr) x = ev gl fr x:=by cases x <;> rfl
def qtu (gl:Fr) (F:FF):List qal->Option (List V)
 | []=>some []
 | x :: r=>match evF gl F x,qtu gl F r with
  | some v,some vs=>some (v :: vs)
  | _,_=>none
theorem qgy (gl fr:Fr):∀ l,qtu gl (lk fr) l = evs gl fr l
 | []=>rfl
 | x :: r=>by simp only [qtu,evs,qbh,qgy gl fr r]; rfl
def qmm (gl:Fr) (F:FF):List (Nat × Nat × qal)->Option (List (Nat × Nat × V))
 | []=>some []
 | (o,s,x) :: r=>match evF gl F x,qmm gl F r with
  | some v,some vs=>some ((o,s,v) :: vs)
  | _,_=>none
theorem qmn (gl fr:Fr):∀ l,qmm gl (lk fr) l = qx3 gl fr l
 | []=>rfl
 | (o,s,x) :: r=>by simp only [qmm,qx3,qbh,qmn gl fr r]; rfl
def qpr (cells:List V):List (Nat × Nat × V)->Option (List V)
 | []=>some cells
 | (off,sz,v) :: r=>gd (decide (v.cells.length = sz) && v.cellsOk && decide (off + sz≤cells.length)) (qpr (cells.take off ++ v.cells ++ cells.drop (off + sz)) r)
def q9k (op:BinOp):V->V->Option V
 | .int k a,.int k' b=>
  match op with
  | .shl=>gd (decide (0≤b)) (some (.int k (k.wrap (a * 2 ^ (min b.toNat k.bits)))))
  | .shr=>gd (decide (0≤b)) (some (.int k (a.fdiv (2 ^ (min b.toNat k.bits)))))
  | .add=>gd (decide (k = k')) (some (.int k (k.wrap (a + b))))
  | .sub=>gd (decide (k = k')) (some (.int k (k.wrap (a - b))))
  | .mul=>gd (decide (k = k')) (some (.int k (k.wrap (a * b))))
  | .quo=>gd (decide (k = k') && !decide (b = 0)) (some (.int k (k.wrap (a.tdiv b))))
  | .rem=>gd (decide (k = k') && !decide (b = 0)) (some (.int k (a.tmod b)))
  | .eql=>gd (decide (k = k')) (some (.bool (decide (a = b))))
  | .neq=>gd (decide (k = k')) (some (.bool (!decide (a = b))))
  | .lss=>gd (decide (k = k')) (some (.bool (decide (a < b))))
  | .leq=>gd (decide (k = k')) (some (.bool (decide (a≤b))))
  | .gtr=>gd (decide (k = k')) (some (.bool (decide (b < a))))
  | .geq=>gd (decide (k = k')) (some (.bool (decide (b≤a))))
  | .and=>gd (decide (k = k')) (some (.int k (qiz .and k a b)))
  | .or=>gd (decide (k = k')) (some (.int k (qiz .or k a b)))
  | .xor=>gd (decide (k = k')) (some (.int k (qiz .xor k a b)))
  | .andNot=>gd (decide (k = k')) (some (.int k (qiz .andNot k a b)))
 | .str a,.str b=>
  match op with
  | .add=>gd (decide (a.length + b.length≤4294967296)) (some (.str (a ++ b)))
  | .eql=>some (.bool (decide (a = b)))
  | .neq=>some (.bool (!decide (a = b)))
  | .lss=>some (.bool (Op.bytesLess a b))
  | .gtr=>some (.bool (!(Op.bytesLess a b || decide (a = b))))
  | .leq=>some (.bool (Op.bytesLess a b || decide (a = b)))
  | .geq=>some (.bool (!Op.bytesLess a b))
  | _=>none
 | _,_=>none
def unO (op:UnOp):V->Option V
 | .bool b=>match op with
  | .not=>some (.bool !b)
  | _=>none
 | .int k a=>match op with
  | .neg=>some (.int k (k.wrap (0 - a)))
  | .xor=>some (.int k (qiz .xor k (if k.signed then -1 else k.max) a))
  | _=>none
 | _=>none
def qun:List V->List V->Bool
 | [],[]=>true
 | .int k _ :: r,.int k' _ :: s=>decide (k = k') && qun r s
 | _,_=>false
theorem qny:∀ {a b:List V},qun a b = true->qjz a b
 | [],[],_=>trivial
 | .int k _ :: r,.int k' _ :: s,h=>by
  simp only [qun,Bool.and_eq_true,decide_eq_true_eq] at h;exact ⟨h.1,qny h.2⟩
def qfs (H:HH) (sz:Nat):V->Option (List V × List Nat)
 | .sl xs _=>gd (xs.all fun x=>decide (x.cells.length = sz)) (some (xs,[]))
 | .ref b g off len _=>match H b with
  | some (.row g' sz' es)=>gd (decide (g' = g) && decide (sz' = sz) && decide (off + len≤es.length)) (some ((es.drop off).take len,[b]))
  | _=>none
 | _=>none
def qem (gl:Fr) (F:FF) (d:Nat):Option qal->Option Nat
 | none=>some d
 | some x=>match evF gl F x with
  | some (.int _ n)=>gd (decide (0≤n)) (some n.toNat)
  | _=>none
def qe3 (gl:Fr) (F:FF):Option qal->Option (Option Nat)
 | none=>some none
 | some x=>match evF gl F x with
  | some (.int _ n)=>gd (decide (0≤n)) (some (some n.toNat))
  | _=>none
def qok (u len:Nat):Option Nat->Bool
 | none=>true
 | some m=>decide (u≤m) && decide (m≤len)
theorem qlt {u len:Nat} {m:Option Nat}:qok u len m = true↔qvn u len m:=by cases m <;> simp [qok,qvn]
def qdl (sz:Nat) (z:List V):V:=match sz with
 | 1=>z.getD 0 .undef
 | _=>.agg z
def qwi:V->V->Option Bool
 | .str a,.str b=>some (decide (a = b))
 | .int k a,.int k' b=>bif decide (k = k') then some (decide (a = b)) else none
 | _,_=>none
def qj2 (k:V):List (V × V)->Nat->Option (Option (Nat × V))
 | [],_=>some none
 | e :: es,i=>match qwi k e.1 with
  | some true=>some (some (i,e.2))
  | some false=>qj2 k es (i + 1)
  | none=>none
def idxOf (n:Int):List UInt8->Nat->Int
 | [],_=>-1
 | b :: r,i=>bif decide ((b.toNat:Int) = n) then i else idxOf n r (i + 1)
def qdt:Option (Option IntKind)->V->Bool
 | some (some k),.int k' _=>decide (k' = k)
 | some none,.str _=>true
 | _,_=>false
def NOp.pure:NOp->Bool
 | .bad | .isnil .. | .lookup .. | .idxByte .. | .add64 .. | .nchk .. | .ifnil .. | .mlen .. | .gsl .. | .i2s .. | .mentry ..=>true
 | _=>false
def qnz (gl:Fr) (F:FF) (x:qal):Option V:=(evF gl F x).map V.norm
theorem qmk (gl fr:Fr) (x:qal):qnz gl (lk fr) x = evN gl fr x:=by unfold qnz evN; rw [qbh]
def nop (gl:Fr) (gf:Nat->Nat) (id:Nat) (F:FF) (H:HH):NOp->Option Y
 | .bad=>none
 | .isnil neg x=>match evF gl F x with
  | some .nil=>some (.bool (!neg),[],[])
  | some (.sl (_ :: _) _)=>some (.bool neg,[],[])
  | some (.ref b g _ (_ + 1) _)=>match H b with
   | some (.row g' _ _)=>gd (decide (g' = g)) (some (.bool neg,[],[b]))
   | _=>none
  | _=>none
 | .mkmap=>some (.own id (gf id),[(id,.map (gf id) [])],[])
 | .lookup kd ok z m k=>match evF gl F m,evF gl F k with
  | some (.own b g),some kv=>match H b with
   | some (.map g' es)=>gd (decide (g' = g) && qdt kd kv) (match qj2 kv es 0 with
    | some (some (_,v))=>some (bif ok then .tup [v,.bool true] else v,[],[b])
    | some none=>some (bif ok then .tup [z,.bool false] else z,[],[b])
    | none=>none)
   | _=>none
  | some .nilmap,some kv=>gd (qdt kd kv) (some (bif ok then .tup [z,.bool false] else z,[],[]))
  | _,_=>none
 | .mapup kd m k v=>match evF gl F m,evF gl F k,evF gl F v with
  | some (.own b g),some kv,some vv=>match H b with
   | some (.map g' es)=>gd (decide (g' = g) && qdt kd kv) (match qj2 kv es 0 with
    | some (some (i,_))=>some (.undef,[(b,.map g (es.set i (kv,vv)))],[b])
    | some none=>some (.undef,[(b,.map g (es ++ [(kv,vv)]))],[b])
    | none=>none)
   | _=>none
  | _,_,_=>none
 | .srange x=>match evF gl F x with
  | some (.str s)=>some (.own id (gf id),[(id,.siter (gf id) s 0)],[])
  | _=>none
 | .snext x=>match evF gl F x with
  | some (.own b g)=>match H b with
   | some (.siter g' s pos)=>gd (decide (g' = g)) (bif decide (pos < s.length) then
     some (.tup [.bool true,.int .i64 pos,.int .i32 (Utf8.decode ⟨s.toArray⟩ pos).1],[(b,.siter g s (pos + (Utf8.decode ⟨s.toArray⟩ pos).2))],[b])
    else some (.tup [.bool false],[(b,.siter g s pos)],[b]))
   | _=>none
  | _=>none
 | .mrange x=>match evF gl F x with
  | some (.own b g)=>match H b with
   | some (.map g' es)=>gd (decide (g' = g)) (some (.own id (gf id),[(id,.miter (gf id) (.own b g) es.length [])],[b]))
   | _=>none
  | _=>none
 | .mnext _=>none
 | .mentry x=>match evF gl F x with
  | some (.own b g)=>match H b with
   | some (.miter g' (.own b2 g2) n seen)=>match H b2 with
    | some (.map g3 es)=>match seen.getLast? with
     | some i=>gd (decide (g' = g) && decide (g3 = g2) && decide (es.length = n) && decide (i < n)) (some (.tup [(es.getD i (.undef,.undef)).1,(es.getD i (.undef,.undef)).2],[],[b,b2]))
     | none=>none
    | _=>none
   | _=>none
  | _=>none
 | .i2s x=>match evF gl F x with
  | some (.int _ n)=>gd (decide (0≤n) && decide (n < 128)) (some (.str [UInt8.ofNat n.toNat],[],[]))
  | _=>none
 | .ifnil neg x=>match evF gl F x with
  | some (.err b)=>some (.bool (if neg then !b else b),[],[])
  | _=>none
 | .mlen x=>match evF gl F x with
  | some (.own b g)=>match H b with
   | some (.map g' es)=>gd (decide (g' = g)) (some (.int .i64 (es.length:Nat),[],[b]))
   | _=>none
  | some .nilmap=>some (.int .i64 0,[],[])
  | _=>none
 | .gsl n x=>match evF gl F x with
  | some (.iptr (.agg vs) 0)=>gd (decide (vs.length = n) && decide (0 < n) && vs.all V.isCell) (some (.sl vs (some n),[],[]))
  | _=>none
 | .appz sz bytes z x m=>match qnz gl F x,evF gl F m with
  | some (.sl [] (some 0)),some (.int _ m)=>gd (decide (0 < m) && decide (m≤274877906944) && decide (bytes≤256) && decide (z.length = sz)) (some (.ref id (gf id) 0 m.toNat none,[(id,.row (gf id) sz (List.replicate m.toNat (qdl sz z)))],[]))
  | _,_=>none
 | .nchk x=>match evF gl F x with
  | some (.ptr b g i o)=>some (.ptr b g i o,[],[])
  | some (.iptr x o)=>some (.iptr x o,[],[])
  | _=>none
 | .idxByte s c=>match evF gl F s,evF gl F c with
  | some (.str l),some (.int .u8 n)=>gd (decide (0≤n) && decide (n < 256)) (some (.int .i64 (idxOf n l 0),[],[]))
  | _,_=>none
 | .add64 x y z=>match evF gl F x,evF gl F y,evF gl F z with
  | some (.int .u64 a),some (.int .u64 b),some (.int .u64 c)=>gd (decide (0≤a) && decide (0≤b) && decide (0≤c) && decide (c≤1)) (some (.tup [.int .u64 ((a + b + c) % 18446744073709551616),.int .u64 ((a + b + c) / 18446744073709551616)],[],[]))
  | _,_,_=>none
 | .appc sz bytes z x y=>match qnz gl F x,qnz gl F y with
  | some (.ref b g off len (some c)),some vy=>match H b with
   | some (.row g' sz' es)=>eb (qfs H sz vy) fun ys=>gd (decide (g' = g) && decide (sz' = sz) && decide (off + len≤es.length) && decide (bytes≤256) && decide (z.length = sz) && decide (0 < ys.1.length) && decide (len + ys.1.length≤274877906944))
     (match decide (len + ys.1.length≤c) with
     | true=>some (.ref b g off (len + ys.1.length) (some c),[(b,.row g sz (es.take (off + len) ++ ys.1 ++ es.drop (off + len + ys.1.length)))],b :: ys.2)
     | false=>some (.ref id (gf id) 0 (len + ys.1.length) none,[(id,.row (gf id) sz ((es.drop off).take len ++ ys.1))],b :: ys.2))
   | _=>none
  | _,_=>none
 | .cpy sz x y=>match qnz gl F x,qnz gl F y with
  | some (.ref b g off len _),some vy=>match H b with
   | some (.row g' sz' es)=>eb (qfs H sz vy) fun ys=>gd (decide (g' = g) && decide (sz' = sz) && decide (off + len≤es.length))
     (some (.int .i64 ((min ys.1.length len:Nat):Int),[(b,.row g sz (es.take off ++ ys.1.take (min ys.1.length len) ++ es.drop (off + min ys.1.length len)))],b :: ys.2))
   | _=>none
  | _,_=>none
def eop (gl:Fr) (gf:Nat->Nat) (id:Nat) (F:FF) (H:HH):IOp->Option Y
  | .mv x=>eb (evF gl F x) fun v=>some (v,[],[])
  | .pick c a b=>match evF gl F c with
    | some (.bool t)=>(match t with
      | true=>eb (evF gl F a) fun v=>some (v,[],[])
      | false=>eb (evF gl F b) fun v=>some (v,[],[]))
    | _=>none
  | .box x=>eb (evF gl F x) fun v=>gd v.cellsOk (some (.ptr id (gf id) 0 0,[(id,.row (gf id) v.cells.length [v])],[]))
  | .alloc z=>gd z.cellsOk (some (.ptr id (gf id) 0 0,[(id,.row (gf id) z.cells.length [z])],[]))
  | .build z ps=>eb (qmm gl F ps) fun l=>eb (qpr z l) fun cs=>some (.agg cs,[],[])
  | .buildSl sz len z ps=>eb (qmm gl F ps) fun l=>eb (qpr z l) fun cs=>some (.ref id (gf id) 0 len (some len),[(id,.row (gf id) sz (qet sz len cs))],[])
  | .load ag n a=>match evF gl F a with
    | some (.iptr x off)=>gd (jiy ag off n x) (some (jif ag off n x,[],[]))
    | some (.ptr b g i off)=>match H b with
      | some (.row g' _ es)=>gd (decide (g' = g) && decide (i < es.length) && jiy ag off n (es.getD i .undef)) (some (jif ag off n (es.getD i .undef),[],[b]))
      | _=>none
    | _=>none
  | .store n a x=>match evF gl F a,evF gl F x with
    | some (.ptr b g i off),some v=>match H b with
      | some (.row g' sz es)=>gd (decide (g' = g) && decide (i < es.length) && jjf off n v (es.getD i .undef)) (some (.undef,[(b,.row g sz (es.set i (jii off n v (es.getD i .undef))))],[b]))
      | _=>none
    | _,_=>none
  | .bin op x y=>match evF gl F x,evF gl F y with
    | some a,some b=>eb (q9k op a b) fun v=>some (v,[],[])
    | _,_=>none
  | .eqs neg n x y=>match evF gl F x,evF gl F y with
    | some (.agg a),some (.agg b)=>gd (decide (a.length = n) && decide (b.length = n) && qun a b) (some (.bool (match neg with | true=>!(qbm a b) | false=>qbm a b),[],[]))
    | _,_=>none
  | .beq neg x y=>match evF gl F x,evF gl F y with
    | some (.bool a),some (.bool b)=>some (.bool (match neg with | true=>a != b | false=>a == b),[],[])
    | _,_=>none
  | .un op x=>eb (evF gl F x) fun a=>eb (unO op a) fun v=>some (v,[],[])
  | .conv k x=>match evF gl F x with
    | some (.int _ n)=>some (.int k (k.wrap n),[],[])
    | _=>none
  | .mkfn f a b=>match qtu gl F a,qtu gl F b with
    | some va,some vb=>some (.fn f va vb,[],[])
    | _,_=>none
  | .mksl z sz bytes l c=>match evF gl F l,evF gl F c with
    | some (.int _ a),some (.int _ b)=>gd (decide (0≤a) && decide (a≤b) && decide (b≤549755813888) && decide (bytes≤256) && decide (z.length = sz) && z.all V.isCell)
        (some (.ref id (gf id) 0 a.toNat (some b.toNat),[(id,.row (gf id) sz (List.replicate a.toNat (qdl sz z)))],[]))
    | _,_=>none
  | .slice sz x lo hi mx=>match qnz gl F x with
    | some (.sl xs cap)=>eb (qem gl F 0 lo) fun l=>eb (qem gl F xs.length hi) fun u=>eb (qe3 gl F mx) fun m=>
        gd (decide (l≤u) && decide (u≤xs.length) && (decide (l = 0) || decide (u = l) || decide ((xs.getD l .undef).cells.length = sz)) && qok u xs.length m) (some (.sl ((xs.drop l).take (u - l)) (qgo l cap m),[],[]))
    | some (.ref b g off len cap)=>match H b with
      | some (.row g' sz' _)=>gd (decide (g' = g) && decide (sz' = sz)) (eb (qem gl F 0 lo) fun l=>eb (qem gl F len hi) fun u=>eb (qe3 gl F mx) fun m=>
          gd (decide (l≤u) && decide (u≤len) && qok u len m) (some (.ref b g (off + l) (u - l) (qgo l cap m),[],[b])))
      | _=>none
    | _=>none
  | .sliceS x lo hi=>match evF gl F x with
    | some (.str s)=>eb (qem gl F 0 lo) fun l=>eb (qem gl F s.length hi) fun u=>gd (decide (l≤u) && decide (u≤s.length)) (some (.str ((s.drop l).take (u - l)),[],[]))
    | _=>none
  | .fieldA off x=>match evF gl F x with
    | some (.iptr y o)=>some (.iptr y (o + off),[],[])
    | some (.ptr b g i o)=>some (.ptr b g i (o + off),[],[])
    | _=>none
  | .field ag off n x=>match evF gl F x with
    | some (.agg cs)=>gd (jiy ag off n (.agg cs)) (some (jif ag off n (.agg cs),[],[]))
    | _=>none
  | .idxA sz x i=>match evF gl F x,evF gl F i with
    | some (.sl xs _),some (.int _ j)=>gd (decide (0≤j) && decide (j < xs.length) && decide ((xs.getD j.toNat .undef).cells.length = sz)) (some (.iptr (xs.getD j.toNat .undef) 0,[],[]))
    | some (.ref b g off len _),some (.int _ j)=>match H b with
      | some (.row g' sz' _)=>gd (decide (g' = g) && decide (sz' = sz) && decide (0≤j) && decide (j < len)) (some (.ptr b g (off + j.toNat) 0,[],[b]))
      | _=>none
    | _,_=>none
  | .idxP len sz x i=>match evF gl F x,evF gl F i with
    | some (.iptr y o),some (.int _ j)=>gd (decide (0≤j) && decide (j < len)) (some (.iptr y (o + j.toNat * sz),[],[]))
    | some (.ptr b g k o),some (.int _ j)=>gd (decide (0≤j) && decide (j < len)) (some (.ptr b g k (o + j.toNat * sz),[],[]))
    | _,_=>none
  | .idxV ag len sz x i=>match evF gl F x,evF gl F i with
    | some (.agg cs),some (.int _ j)=>gd (decide (0≤j) && decide (j < len) && jiy ag (j.toNat * sz) sz (.agg cs)) (some (jif ag (j.toNat * sz) sz (.agg cs),[],[]))
    | _,_=>none
  | .idxS x i=>match evF gl F x,evF gl F i with
    | some (.str s),some (.int _ j)=>gd (decide (0≤j) && decide (j < s.length)) (some (.int .u8 (s.getD j.toNat 0).toNat,[],[]))
    | _,_=>none
  | .len x=>match qnz gl F x with
    | some (.sl xs _)=>some (.int .i64 xs.length,[],[])
    | some (.ref _ _ _ len _)=>some (.int .i64 len,[],[])
    | _=>none
  | .lenS x=>match evF gl F x with
    | some (.str s)=>some (.int .i64 s.length,[],[])
    | _=>none
  | .lenK n=>some (.int .i64 n,[],[])
  | .cap x=>match qnz gl F x with
    | some (.sl _ (some c))=>some (.int .i64 c,[],[])
    | some (.ref _ _ _ _ (some c))=>some (.int .i64 c,[],[])
    | _=>none
  | .app sz bytes z x y=>match qnz gl F x,qnz gl F y with
    | some (.sl xs cap), some vy => eb (qfs H sz vy) fun ys => gd ((xs.all fun x => decide (x.cells.length = sz)) && decide (cap = some xs.length) && decide (bytes≤256) && decide (z.length = sz) && decide (xs.length + ys.1.length≤274877906944))
          (match ys.1 with
          | []=>some (.sl xs cap,[],ys.2)
          | _ :: _=>some (.ref id (gf id) 0 (xs.length + ys.1.length) none,[(id,.row (gf id) sz (xs ++ ys.1))],ys.2))
    | some (.ref b g off len _),some vy=>match H b with
      | some (.row g' sz' es)=>eb (qfs H sz vy) fun ys=>gd (decide (g' = g) && decide (sz' = sz) && decide (off + len≤es.length) && decide (bytes≤256) && decide (z.length = sz) && decide (len + ys.1.length≤274877906944))
          (some (.ref b (gf b) 0 (len + ys.1.length) none,[(b,.row (gf b) sz ((es.drop off).take len ++ ys.1))],b :: ys.2))
      | _=>none
    | _,_=>none
  | .copy _ _ _=>none
  | .mm mx x y=>match evF gl F x,evF gl F y with
    | some (.int k a),some (.int _ b)=>some (.int k (match mx with | true=>max a b | false=>min a b),[],[])
    | _,_=>none
  | .call _ _=>none
  | .extract x i=>match evF gl F x with
    | some (.tup vs)=>eb vs[i]? fun v=>some (v,[],[])
    | _=>none
  | .cvs x=>match evF gl F x with
    | some (.str s)=>some (.str s,[],[])
    | _=>none
  | .b2s x=>eb (qnz gl F x) fun vx=>eb (qfs H 1 vx) fun es=>eb (bytesOf es.1) fun s=>some (.str s,[],es.2)  | .n x=>nop gl gf id F H x
end
section
open Go
def qah:IOp->Bool
 | .box _ | .alloc _ | .buildSl .. | .store .. | .mksl .. | .call .. | .app .. | .copy ..=>false
 | .n x=>x.pure
 | _=>true
section
variable {P:Program} {gl:Fr} {bs:BS} {n:Nat} {fr:Fr} {h:Hp} {G:qaz} {M:qar} {a:Act} {w:World} {gf:Nat->Nat}
theorem qps:∀ {l:List (Nat × Nat × V)} {cs r:List V} {K:List V->Prop},qpr cs l = some r->K r->qsq cs K l
 | [],cs,r,K,h,hk=>by simp only [qpr,Option.some.injEq] at h; subst h; exact hk
 | (o,s,v) :: l,cs,r,K,h,hk=>by
  simp only [qpr] at h;obtain ⟨h1,h2⟩:=qae h;simp only [Bool.and_eq_true,decide_eq_true_eq] at h1;exact ⟨h1.1.1,h1.1.2,h1.2,qps h2 hk⟩
theorem qi7 {sz:Nat} {v:V} {r:List V × List Nat} {K:List V->Prop} (he:qfs (lk h) sz v = some r) (hk:K r.1):qcy h sz K v:=by
 unfold qfs at he;unfold qcy;split at he
 ·obtain ⟨h1,h2⟩:=qae he;cases h2;refine ⟨fun x hx=>?_,hk⟩;have:=List.all_eq_true.1 h1 x hx;simpa using this
 ·split at he
  ·rename_i hb;obtain ⟨h1,h2⟩:=qae he;cases h2;simp only [Bool.and_eq_true,decide_eq_true_eq] at h1;simp only [hb];exact ⟨h1.1.1,h1.1.2,h1.2,hk⟩
  ·cases he
 ·cases he
theorem qf5 {F:FF} (hF:F = lk fr) {d l:Nat} {x:Option qal} {K:Nat->Prop} (he:qem gl F d x = some l) (hk:K l):qgl gl fr d K x:=by
 subst hF
 cases x with
 | none=>simp only [qem,Option.some.injEq] at he; subst he; exact hk
 | some y=>
  simp only [qem,qbh] at he;simp only [qgl];split at he
  ·rename_i hy;obtain ⟨h1,h2⟩:=qae he;cases h2;rw [hy];exact ⟨by simpa using h1,hk⟩
  ·cases he
theorem qnn {F:FF} (hF:F = lk fr) {l:Option Nat} {x:Option qal} {K:Option Nat->Prop} (he:qe3 gl F x = some l) (hk:K l):qlc gl fr K x:=by
 subst hF
 cases x with
 | none=>simp only [qe3,Option.some.injEq] at he; subst he; exact hk
 | some y=>
  simp only [qe3,qbh] at he;simp only [qlc];split at he
  ·rename_i hy;obtain ⟨h1,h2⟩:=qae he;cases h2;rw [hy];exact ⟨by simpa using h1,hk⟩
  ·cases he
theorem q44 {op:BinOp} {x y v:V} {K:V->Prop} (he:q9k op x y = some v) (hk:K v):q9l op K x y:=by
 unfold q9k at he;unfold q9l;split at he
 ·cases op <;> simp only [] at he ⊢ <;> (obtain ⟨h1,h2⟩:=qae he; cases h2; simp at h1; first | exact ⟨h1,hk⟩ | exact ⟨h1.1,h1.2,hk⟩)
 ·cases op <;> simp only [] at he ⊢ <;> first
   | (cases he; exact hk)
   | (obtain ⟨h1,h2⟩:=qae he; cases h2; simp at h1; exact ⟨h1,hk⟩)
   | cases he
 ·cases he
theorem jh1 {op:UnOp} {x v:V} {K:V->Prop} (he:unO op x = some v) (hk:K v):unW op K x:=by
 unfold unO at he;unfold unW;split at he
 ·cases op <;> simp only [] at he ⊢ <;> first
   | (cases he; exact hk)
   | cases he
 ·cases op <;> simp only [] at he ⊢ <;> first
   | (cases he; exact hk)
   | cases he
 ·cases he
theorem qum {id id':Nat} {io:IOp} (hn:∀ x,io ≠ .n x) (hp:qah io = true) {y:Y} (he:eop gl gf id (lk fr) (lk h) io = some y):y.2.1 = []/\qa8 P gl id' fr h (fun v _=>v = y.1) io:=by
 cases io <;> simp only [qah,Bool.false_eq_true] at hp <;> simp only [eop,qbh,qgy,qmn,qmk] at he <;> simp only [qa8]
 case n x=>exact absurd rfl (hn x)
 case mv x=>
  obtain ⟨v,h1,h2⟩:=qad he;cases h2; rw [h1]; exact ⟨rfl,rfl⟩
 case pick c x z=>
  split at he
  ·rename_i t hc;simp only [hc]
   cases t with
   | true=>simp only [] at he; obtain ⟨v,h1,h2⟩:=qad he; cases h2; rw [h1]; exact ⟨rfl,(fun _=>rfl),(fun h=>Bool.noConfusion h)⟩
   | false=>simp only [] at he; obtain ⟨v,h1,h2⟩:=qad he; cases h2; rw [h1]; exact ⟨rfl,(fun h=>Bool.noConfusion h),(fun _=>rfl)⟩
  ·cases he
 case build z ps=>
  obtain ⟨l,h1,h2⟩:=qad he;obtain ⟨cs,h3,h4⟩:=qad h2;cases h4;rw [h1];exact ⟨rfl,qps h3 rfl⟩
 case load ag m x=>
  split at he
  ·simp only [*];rename_i hx;obtain ⟨h1,h2⟩:=qae he;cases h2;exact ⟨rfl,V.partOkB_iff.1 h1,rfl⟩
  ·simp only [*];rename_i hx;split at he
   ·rename_i hb;obtain ⟨h1,h2⟩:=qae he;cases h2;simp only [Bool.and_eq_true,decide_eq_true_eq] at h1;simp only [hb];exact ⟨trivial,h1.1.1,h1.1.2,V.partOkB_iff.1 h1.2,trivial⟩
   ·cases he
  ·cases he
 case bin op x z=>
  split at he
  ·simp only [*];obtain ⟨v,h1,h2⟩:=qad he;cases h2;exact ⟨rfl,q44 h1 rfl⟩
  ·cases he
 case eqs neg m x z=>
  split at he
  ·simp only [*];obtain ⟨h1,h2⟩:=qae he;cases h2;simp only [Bool.and_eq_true,decide_eq_true_eq] at h1;exact ⟨rfl,h1.1.1,h1.1.2,qny h1.2,rfl⟩
  ·cases he
 case beq neg x z=>
  split at he
  ·simp only [*]; cases he; exact ⟨rfl,rfl⟩
  ·cases he
 case un op x=>
  obtain ⟨v,h1,h2⟩:=qad he;obtain ⟨v',h3,h4⟩:=qad h2;cases h4;rw [h1];exact ⟨rfl,jh1 h3 rfl⟩
 case conv k x=>
  split at he
  ·simp only [*]; cases he; exact ⟨rfl,rfl⟩
  ·cases he
 case mkfn f x z=>
  split at he
  ·simp only [*]; cases he; exact ⟨rfl,rfl⟩
  ·cases he
 case slice sz x lo hi mx=>
  split at he
  ·simp only [*];obtain ⟨l,h1,he⟩:=qad he;obtain ⟨u,h2,he⟩:=qad he;obtain ⟨m,h3,he⟩:=qad he;obtain ⟨h4,he⟩:=qae he;cases he;simp only [Bool.and_eq_true,Bool.or_eq_true,decide_eq_true_eq,qlt] at h4;exact ⟨rfl,.inr (qf5 rfl h1 (qf5 rfl h2 (qnn rfl h3 ⟨h4.1.1.1,h4.1.1.2,by rcases h4.1.2 with (h | h) | h; exact .inl h; exact .inr (.inl h); exact .inr (.inr h),h4.2,rfl⟩)))⟩
  ·simp only [*];split at he
   ·rename_i hb;obtain ⟨h0,he⟩:=qae he;obtain ⟨l,h1,he⟩:=qad he;obtain ⟨u,h2,he⟩:=qad he;obtain ⟨m,h3,he⟩:=qad he;obtain ⟨h4,he⟩:=qae he;cases he;simp only [Bool.and_eq_true,decide_eq_true_eq,qlt] at h4 h0;simp only [hb];exact ⟨trivial,.inr ⟨h0.1,h0.2,qf5 rfl h1 (qf5 rfl h2 (qnn rfl h3 ⟨h4.1.1,h4.1.2,h4.2,rfl⟩))⟩⟩
   ·cases he
  ·cases he
 case sliceS x lo hi=>
  split at he
  ·simp only [*];obtain ⟨l,h1,he⟩:=qad he;obtain ⟨u,h2,he⟩:=qad he;obtain ⟨h4,he⟩:=qae he;cases he;simp only [Bool.and_eq_true,decide_eq_true_eq] at h4;exact ⟨rfl,qf5 rfl h1 (qf5 rfl h2 ⟨h4.1,h4.2,rfl⟩)⟩
  ·cases he
 case fieldA off x=>split at he <;> first | (simp only [*]; cases he; exact ⟨rfl,rfl⟩) | cases he
 case field ag off m x=>
  split at he
  ·simp only [*];obtain ⟨h1,he⟩:=qae he;cases he;exact ⟨rfl,V.partOkB_iff.1 h1,rfl⟩
  ·cases he
 case idxA sz x z=>
  split at he
  ·simp only [*];obtain ⟨h1,he⟩:=qae he;cases he;simp only [Bool.and_eq_true,decide_eq_true_eq] at h1;exact ⟨rfl,h1.1.1,h1.1.2,h1.2,rfl⟩
  ·simp only [*];split at he
   ·rename_i hb;obtain ⟨h1,he⟩:=qae he;cases he;simp only [Bool.and_eq_true,decide_eq_true_eq] at h1;simp only [hb];exact ⟨trivial,h1.1.1.1,h1.1.1.2,h1.1.2,h1.2,trivial⟩
   ·cases he
  ·cases he
 case idxP len sz x z=>
  split at he
  ·simp only [*];obtain ⟨h1,he⟩:=qae he;cases he;simp only [Bool.and_eq_true,decide_eq_true_eq] at h1;exact ⟨rfl,h1.1,h1.2,rfl⟩
  ·simp only [*];obtain ⟨h1,he⟩:=qae he;cases he;simp only [Bool.and_eq_true,decide_eq_true_eq] at h1;exact ⟨rfl,h1.1,h1.2,rfl⟩
  ·cases he
 case idxV ag len sz x z=>
  split at he
  ·simp only [*];obtain ⟨h1,he⟩:=qae he;cases he;simp only [Bool.and_eq_true,decide_eq_true_eq] at h1;exact ⟨rfl,h1.1.1,h1.1.2,V.partOkB_iff.1 h1.2,rfl⟩
  ·cases he
 case idxS x z=>
  split at he
  ·simp only [*];obtain ⟨h1,he⟩:=qae he;cases he;simp only [Bool.and_eq_true,decide_eq_true_eq] at h1;exact ⟨rfl,h1.1,h1.2,rfl⟩
  ·cases he
 case len x=>split at he <;> first | (simp only [*]; cases he; exact ⟨rfl,rfl⟩) | cases he
 case lenS x=>split at he <;> first | (simp only [*]; cases he; exact ⟨rfl,rfl⟩) | cases he
 case lenK m=>cases he; exact ⟨rfl,rfl⟩
 case cap x=>split at he <;> first | (simp only [*]; cases he; exact ⟨rfl,rfl⟩) | cases he
 case mm mx x z=>split at he <;> first | (simp only [*]; cases he; exact ⟨rfl,rfl⟩) | cases he
 case extract x i=>
  split at he
  ·simp only [*];obtain ⟨v,h1,h2⟩:=qad he;cases h2;rw [h1];exact ⟨rfl,rfl⟩
  ·cases he
 case cvs x=>split at he <;> first | (simp only [*]; cases he; exact ⟨rfl,rfl⟩) | cases he
 case b2s x=>
  obtain ⟨v,h1,h2⟩:=qad he;obtain ⟨es,h3,h4⟩:=qad h2;obtain ⟨s,h5,h6⟩:=qad h4;cases h6;rw [h1];exact ⟨rfl,qi7 (K:=fun es=>match bytesOf es with | some s'=>V.str s' = V.str s | none=>False) h3 (by rw [h5])⟩
end
end
section
open Go Go.MapKept
theorem qko (c:Array MapEntry) (j:Nat):c.toList.getD j default = c.getD j default:=by
 rw [jke,jkd,Array.getElem?_toList]
section
variable {P:Program} {gl:Fr} {bs:BS} {n:Nat} {fr:Fr} {h:Hp} {G:qaz} {M:qar} {a:Act} {w:World}
theorem ql2 {k k':V} {r r':Value} {b:Bool} (h:qwi k k' = some b) (hr:qak G M k r) (hr':qak G M k' r'):(∀ d,IsKey d r->IsKey d r'/\Instr.sameNow d r r' = some b)/\(b = true->r = r'):=by
 unfold qwi at h;split at h
 ·cases h;rw [qa7 hr,qa7 hr'];rename_i x y
  have hiff:decide (x = y) = true↔(⟨x.toArray⟩:ByteArray) = ⟨y.toArray⟩:=by
   simp [ByteArray.ext_iff]
  refine ⟨fun d hd=>?_,fun hb=>by rw [hiff.1 hb]⟩;cases d <;> simp only [IsKey] at hd ⊢;refine ⟨trivial,?_⟩;simp only [Instr.sameNow,Option.some.injEq];rw [Bool.eq_iff_iff,bytes_beq,hiff]
 ·rename_i j x j' y
  cases hj:decide (j = j') with
  | false=>rw [hj] at h; cases h
  | true=>
   rw [hj] at h;simp only [cond_true,Option.some.injEq] at h;have hjj:j = j':=by simpa using hj
   subst hjj h;rw [qaj hr,qaj hr'];refine ⟨fun d hd=>?_,fun hb=>by rw [jkb hb]⟩;cases d <;> simp only [IsKey] at hd ⊢;refine ⟨hd,?_⟩;simp [Instr.sameNow]
   try (rw [Bool.eq_iff_iff]; simp)
 ·cases h
theorem qh2 {k:V} {r:Value} {d:TypeDesc} (hr:qak G M k r) (hd:IsKey d r):∀ (es:List (V × V)) (l:List MapEntry) (i:Nat) (q:Option (Nat × V)),qj2 k es i = some q->l.length = es.length->
  (∀ j,j < es.length->qak G M ((es.getD j (.undef,.undef)).1) ((l.getD j default).key)/\qak G M ((es.getD j (.undef,.undef)).2) ((l.getD j default).val))->
  match q with
  | none=>Instr.findNow d r l i = some none
  | some (j,v)=>i≤j/\j - i < es.length/\(l.getD (j - i) default).key = r/\Instr.findNow d r l i = some (some (j,(l.getD (j - i) default).val))/\qak G M v ((l.getD (j - i) default).val)
 | [],l,i,q,h,hl,hrel=>by
  simp only [qj2,Option.some.injEq] at h; subst h;have:l = []:=List.length_eq_zero_iff.1 hl;subst this; rfl
 | e :: es,[],i,q,h,hl,hrel=>by simp at hl
 | e :: es,x :: l,i,q,h,hl,hrel=>by
  simp only [qj2] at h;have h0:=hrel 0 (by simp);simp only [List.getD_cons_zero] at h0;split at h
  ·rename_i hs;cases h;obtain ⟨s1,s2⟩:=ql2 hs hr h0.1;obtain ⟨-,s3⟩:=s1 d hd;have hk:=s2 rfl;refine ⟨jki _,by simp,by simp [hk],?_,by simpa using h0.2⟩;simp [Instr.findNow,s3]
  ·rename_i hs;obtain ⟨s1,s2⟩:=ql2 hs hr h0.1;obtain ⟨-,s3⟩:=s1 d hd;have ih:=qh2 hr hd es l (i + 1) q h (by simpa using hl) (fun j hj=>by simpa using hrel (j + 1) (by simpa using hj))
   cases q with
   | none=>simp only [Instr.findNow,s3]; exact ih
   | some jv=>
    obtain ⟨j,v⟩:=jv;obtain ⟨i1,i2,i3,i4,i5⟩:=ih;have e1:j - i = (j - (i + 1)) + 1:=by omega
    refine ⟨by omega,by simp; omega,?_,?_,?_⟩
    ·rw [e1]; simpa using i3
    ·rw [e1]; simp only [Instr.findNow,s3]; simpa using i4
    ·rw [e1]; simpa using i5
  ·cases h
theorem qia {b g:Nat} {r:Value} (hs:Sim G M h w) (hr:qak G M (.own b g) r) {es:List (V × V)} (hb:lk h b = some (.map g es)):∃ mb rb,M b = some mb/\mb.gen = g/\mb.real = some rb/\mb.sz = 0/\r = .map (some rb)/\qni G M w rb es:=by
 obtain ⟨mb,rb,h1,h2,h3,h4,h5⟩:=hs.hb b _ hb;refine ⟨mb,rb,h1,h2,h3,h4,?_,h5⟩
 cases hr with
 | own _ _ _ mb' hM hg ho hh=>
  rw [h1] at hM; cases hM;obtain ⟨rb',q1,q2⟩:=hh h2.symm;rw [h3] at q1; cases q1;rw [q2,if_pos h4]
theorem qy7 {b g:Nat} {r:Value} (hs:Sim G M h w) (hr:qak G M (.own b g) r) {s:List UInt8} {pos:Nat} (hb:lk h b = some (.siter g s pos)):∃ mb rb,M b = some mb/\mb.gen = g/\mb.real = some rb/\mb.sz = 1/\r = .pointer (some ⟨rb,0,none⟩)/\w.heap[rb]? = some (.stringIter ⟨s.toArray⟩ pos):=by
 obtain ⟨mb,rb,h1,h2,h3,h4,h5⟩:=hs.hb b _ hb;refine ⟨mb,rb,h1,h2,h3,h4,?_,h5⟩
 cases hr with
 | own _ _ _ mb' hM hg ho hh=>
  rw [h1] at hM; cases hM;obtain ⟨rb',q1,q2⟩:=hh h2.symm;rw [h3] at q1; cases q1;rw [q2,if_neg (by omega),if_neg (by omega)]
theorem qot {b g:Nat} {r:Value} (hs:Sim G M h w) (hr:qak G M (.own b g) r) {g' n2:Nat} {x:V} {seen:List Nat} (hb:lk h b = some (.miter g' x n2 seen)):∃ mb rb,(g' = g->r = .pointer (some ⟨rb,0,none⟩))/\M b = some mb/\mb.gen = g'/\mb.real = some rb/\mb.sz = 1/\∃ r2,qak G M x (.map (some r2))/\w.heap[rb]? = some (.mapIter (some r2) n2 seen.toArray n2):=by
 obtain ⟨mb,rb,h1,h2,h3,h4,h5⟩:=hs.hb b _ hb;refine ⟨mb,rb,fun e=>?_,h1,h2,h3,h4,h5⟩
 cases hr with
 | own _ _ _ mb' hM hg ho hh=>
  rw [h1] at hM; cases hM;obtain ⟨rb',q1,q2⟩:=hh (by omega);rw [h3] at q1; cases q1;rw [q2,if_neg (by omega),if_neg (by omega)]
theorem qy8 {b g:Nat} {r:Value} (hs:Sim G M h w) (hr:qak G M (.own b g) r) {m:Nat} {fr:Fr} {ps:List Nat} {asg body:Code} {busy:Bool} (hb:lk h b = some (.loop g m fr ps asg body busy)):∃ mb rb,M b = some mb/\mb.gen = g/\mb.real = some rb/\mb.sz = 2/\r = .func (.yield rb) #[] #[]/\qt0 G M w rb m fr ps asg body busy:=by
 obtain ⟨mb,rb,h1,h2,h3,h4,h5⟩:=hs.hb b _ hb;refine ⟨mb,rb,h1,h2,h3,h4,?_,h5⟩
 cases hr with
 | own _ _ _ mb' hM hg ho hh=>
  rw [h1] at hM; cases hM;obtain ⟨rb',q1,q2⟩:=hh h2.symm;rw [h3] at q1; cases q1;rw [q2,if_neg (by omega),if_pos h4]
theorem qlo (n:Int) (hn:0≤n/\n < 256):∀ (l:List UInt8) (pre:List UInt8),idxOf n l pre.length = match (List.range' pre.length l.length).find? (fun (i:Nat)=>(pre ++ l)[i]! == UInt8.ofNat n.toNat) with
  | some i=>(i:Int)
  | none=>-1
 | [],pre=>rfl
 | b :: r,pre=>by
  have ih:=qlo n hn r (pre ++ [b]);simp only [idxOf,List.length_cons,List.range'_succ,List.find?_cons];have e1:(pre ++ b :: r)[pre.length]! = b:=by simp
  have e2:(decide ((b.toNat:Int) = n)) = (b == UInt8.ofNat n.toNat):=by
   rw [Bool.eq_iff_iff,decide_eq_true_eq,beq_iff_eq];constructor
   ·intro h;apply UInt8.toNat_inj.1;rw [UInt8.toNat_ofNat'];omega
   ·intro h;rw [h,UInt8.toNat_ofNat'];omega
  rw [e1,e2]
  cases hb:(b == UInt8.ofNat n.toNat) with
  | true=>simp
  | false=>
   simp only [cond_false];have e3:(pre ++ [b]).length = pre.length + 1:=by simp
   rw [e3] at ih;rw [ih]
   have e4:(fun (i:Nat)=>(pre ++ [b] ++ r)[i]! == UInt8.ofNat n.toNat) = fun (i:Nat)=>(pre ++ b :: r)[i]! == UInt8.ofNat n.toNat:=by
    funext i; simp
   rw [e4]
theorem qwh {t e:TypeId} (hu:P.underlying t = some (.slice e)) (ra:Option Addr) (len cap l2 c2:Nat) (neg:Bool) :
  (binOp (if neg then .neq else .eql) t (.slice ra len cap) (.slice none l2 c2)).run P w = .ok (.bool (if neg then !ra.isNone else ra.isNone)) w:=by
 have hq:(Op.equal t (.slice ra len cap) (.slice none l2 c2)).run P w = .ok ra.isNone w:=by
  show (Op.equalIn (9999 + 1) t (.slice ra len cap) (.slice none l2 c2)).run P w = _;unfold Op.equalIn;simp only [Sem.run_bind,run_underlying hu,Result.andThen_ok];cases ra <;> rfl
 cases neg
 ·show (do pure (.bool (<- Op.equal t (.slice ra len cap) (.slice none l2 c2))):Sem Value).run P w = _;simp only [Sem.run_bind,hq,Result.andThen_ok,Sem.run_pure];rfl
 ·show (do pure (.bool (!(<- Op.equal t (.slice ra len cap) (.slice none l2 c2)))):Sem Value).run P w = _;simp only [Sem.run_bind,hq,Result.andThen_ok,Sem.run_pure];rfl
theorem qlj {o:Oper} {t e ty:TypeId} {x y:Operand} (neg:Bool) (ho:o.op = .binOp (if neg then .neq else .eql) t x y ty) (hu:P.underlying t = some (.slice e)) (hny:qhg y = true) {ra:Option Addr} {len cap:Nat} (hx:a.eval x = .slice ra len cap) :
  (execOp a.eval o).run P w = .ok (.value (.bool (if neg then !ra.isNone else ra.isNone))) w:=by
 cases y with
 | const cv=>
  cases cv <;> simp only [qhg,Bool.false_eq_true] at hny;rename_i rb l2 c2
  cases rb with
  | some _=>simp at hny
  | none=>
   have hev:a.eval (.const (.slice none l2 c2)) = .slice none l2 c2:=rfl
   have hg:(eqGuard (if neg then .neq else .eql) t x (.const (.slice none l2 c2)) (.slice ra len cap) (.slice none l2 c2)).run P w = .ok () w:=by
    cases neg <;> rfl
   simp only [execOp,ho,hx,hev,Sem.run_bind,hg,Result.andThen_ok,qwh hu,Sem.run_pure]
 | tmp _=>simp [qhg] at hny
 | global _=>simp [qhg] at hny
 | func _=>simp [qhg] at hny
theorem qwf {t:TypeId} {ms:Array (String × TypeId)} (hu:P.underlying t = some (.interface ms)) (neg b:Bool) (rv:Value) (hv:(b = true/\rv = .nilIface)∨(b = false/\∃ tx x,rv = .iface tx x)) :
  (binOp (if neg then .neq else .eql) t rv .nilIface).run P w = .ok (.bool (if neg then !b else b)) w:=by
 have hq:(Op.equal t rv .nilIface).run P w = .ok b w:=by
  show (Op.equalIn (9999 + 1) t rv .nilIface).run P w = _;unfold Op.equalIn;simp only [Sem.run_bind,run_underlying hu,Result.andThen_ok];rcases hv with ⟨rfl,rfl⟩ | ⟨rfl,tx,x,rfl⟩ <;> rfl
 rcases hv with ⟨rfl,rfl⟩ | ⟨rfl,tx,x,rfl⟩
 ·cases neg
  ·show (do pure (.bool (<- Op.equal t .nilIface .nilIface)):Sem Value).run P w = _;simp only [Sem.run_bind,hq,Result.andThen_ok,Sem.run_pure];rfl
  ·show (do pure (.bool (!(<- Op.equal t .nilIface .nilIface))):Sem Value).run P w = _;simp only [Sem.run_bind,hq,Result.andThen_ok,Sem.run_pure];rfl
 ·cases neg
  ·show (do pure (.bool (<- Op.equal t (.iface tx x) .nilIface)):Sem Value).run P w = _;simp only [Sem.run_bind,hq,Result.andThen_ok,Sem.run_pure];rfl
  ·show (do pure (.bool (!(<- Op.equal t (.iface tx x) .nilIface))):Sem Value).run P w = _;simp only [Sem.run_bind,hq,Result.andThen_ok,Sem.run_pure];rfl
theorem qli {o:Oper} {t ty:TypeId} {ms:Array (String × TypeId)} {x y:Operand} (neg b:Bool) (ho:o.op = .binOp (if neg then .neq else .eql) t x y ty) (hu:P.underlying t = some (.interface ms)) (hny:qfy y = true) {rv:Value} (hx:a.eval x = rv) (hv:(b = true/\rv = .nilIface)∨(b = false/\∃ tx x,rv = .iface tx x)) :
  (execOp a.eval o).run P w = .ok (.value (.bool (if neg then !b else b))) w:=by
 cases y with
 | const cv=>
  cases cv <;> simp only [qfy,Bool.false_eq_true] at hny;have hev:a.eval (.const .nilIface) = .nilIface:=rfl
  have hg:(eqGuard (if neg then .neq else .eql) t x (.const .nilIface) rv .nilIface).run P w = .ok () w:=by
   rcases hv with ⟨rfl,rfl⟩ | ⟨rfl,tx,z,rfl⟩
   ·unfold eqGuard;cases neg <;> simp
   ·cases neg <;> rfl
  simp only [execOp,ho,hx,hev,Sem.run_bind,hg,Result.andThen_ok,qwf hu neg b rv hv,Sem.run_pure]
 | tmp _=>simp [qfy] at hny
 | global _=>simp [qfy] at hny
 | func _=>simp [qfy] at hny
theorem qkh (hr:R bs n gl G M fr h a w) {o:Oper} {t ty:TypeId} {ms:Array (String × TypeId)} {x1 y1:Operand} (neg:Bool) (ho:o.op = .binOp (if neg then .neq else .eql) t x1 y1 ty) (hu:P.underlying t = some (.interface ms)) (hny:qfy y1 = true)
  {gf:Nat->Nat} {id:Nat} {y:Y} (he:nop gl gf id (lk fr) (lk h) (.ifnil neg (co x1)) = some y) {Q:Exit->Act->World->Prop}:y.2.1 = []/\o.wp P a w (qan (fun v _=>v = y.1) G M w o a h) Q:=by
 simp only [nop,qbh] at he;split at he
 ·rename_i b hv;cases he;have:=qat hr hv;generalize hev:a.eval x1 = r at this
  cases this with
  | errnil=>exact ⟨rfl,qai hr (rv:=.bool (if neg then !true else true)) (qli neg true ho hu hny hev (.inl ⟨rfl,rfl⟩)) rfl (.bool _)⟩
  | errsome t x=>exact ⟨rfl,qai hr (rv:=.bool (if neg then !false else false)) (qli neg false ho hu hny hev (.inr ⟨rfl,_,_,rfl⟩)) rfl (.bool _)⟩
 ·cases he
theorem qki (hr:R bs n gl G M fr h a w) {o:Oper} {t e ty:TypeId} {x1 y1:Operand} (neg:Bool) (ho:o.op = .binOp (if neg then .neq else .eql) t x1 y1 ty) (hu:P.underlying t = some (.slice e)) (hny:qhg y1 = true)
  {gf:Nat->Nat} {id:Nat} {y:Y} (he:nop gl gf id (lk fr) (lk h) (.isnil neg (co x1)) = some y) {Q:Exit->Act->World->Prop}:y.2.1 = []/\o.wp P a w (qan (fun v _=>v = y.1) G M w o a h) Q:=by
 have key:∀ (ra:Option Addr) (len cap:Nat),a.eval x1 = .slice ra len cap->∀ bb,ra.isNone = bb->∀ rd,y = (.bool (if neg then !bb else bb),[],rd)->y.2.1 = []/\o.wp P a w (qan (fun v _=>v = y.1) G M w o a h) Q:=by
  intro ra len cap hra bb hbb rd hy;subst hy hbb;exact ⟨rfl,qai hr (rv:=.bool (if neg then !ra.isNone else ra.isNone)) (qlj neg ho hu hny hra) rfl (.bool _)⟩
 simp only [nop,qbh] at he;split at he
 ·rename_i hv;cases he;have:=qat hr hv;generalize hev:a.eval x1 = r at this;cases this;exact key none 0 0 hev true rfl [] (by cases neg <;> rfl)
 ·rename_i hv;cases he;have:=qat hr hv;generalize hev:a.eval x1 = r at this
  cases this with
  | sl xs cap rb ro rcap sz cells hne hG hsz hb hl hcc hh ho'=>exact key (some ⟨rb,ro,none⟩) _ _ hev false rfl [] (by cases neg <;> rfl)
 ·rename_i b g off len cap hv;split at he
  ·rename_i g' sz es hb;obtain ⟨h1,h2⟩:=qae he;cases h2;have hgg:g' = g:=by simpa using h1
   subst hgg;obtain ⟨ra,rcap,mb,e1,hM,hg,hl,hcc,hh⟩:=qkd (qat hr hv);obtain ⟨mb0,q1,q2,q3,q4⟩:=hr.sim.hb b _ hb;rw [hM] at q1; cases q1;have hre:=hh q2.symm
   have hsome:∃ ad,ra = some ad:=by
    unfold qb4 at hre;split at hre
    ·omega
    ·rcases hre with ⟨e,-⟩ | ⟨e,-⟩
     ·exact ⟨_,e⟩
     ·omega
   obtain ⟨ad,rfl⟩:=hsome;exact key (some ad) _ _ e1 false rfl [b] (by cases neg <;> rfl)
  ·cases he
 ·cases he
theorem qpx {kt:TypeId} (hkk:qmp P kt = true):∃ d,P.underlying kt = some d/\((∃ j,d = .int j)∨d = .string):=by
 unfold qmp at hkk;split at hkk
 ·rename_i j hj; exact ⟨_,hj,.inl ⟨j,rfl⟩⟩
 ·rename_i hj; exact ⟨_,hj,.inr rfl⟩
 ·cases hkk
def qnk:Array Value->Sem Value:=fun args=>do
 let (x,y,c) <- Extern.MathBitsCarry.three "Add64" args
 pure (Extern.MathBitsCarry.pair ((x + y + c) % Extern.MathBitsCarry.m64) ((x + y + c) / Extern.MathBitsCarry.m64))
theorem qt2 {P:Program} {w:World} (A B C:Nat) (hC:C≤1):(qnk #[.int .u64 (A:Int),.int .u64 (B:Int),.int .u64 (C:Int)]).run P w = .ok (.tuple #[.int .u64 (((A:Int) + B + C) % 18446744073709551616),.int .u64 (((A:Int) + B + C) / 18446744073709551616)]) w:=by
 have h3:Extern.MathBitsCarry.three "Add64" #[.int .u64 (A:Int),.int .u64 (B:Int),.int .u64 (C:Int)] = (do
  let c:=(<- asInt (.int .u64 (C:Int))).toNat
  if c > 1 then unsupported (.noEntry ("extern/math/bits." ++ "Add64" ++ ": a carry that is neither 0 nor 1"))
  pure ((<- asInt (.int .u64 (A:Int))).toNat,(<- asInt (.int .u64 (B:Int))).toNat,c)):=rfl
 have hi:∀ n:Nat,(asInt (.int .u64 (n:Int))).run P w = .ok (n:Int) w:=fun n=>by simp [asInt,asIntOf]
 have hC':¬ C > 1:=by omega
 have e1:Extern.MathBitsCarry.pair ((A + B + C) % Extern.MathBitsCarry.m64) ((A + B + C) / Extern.MathBitsCarry.m64) = .tuple #[.int .u64 (((A:Int) + B + C) % 18446744073709551616),.int .u64 (((A:Int) + B + C) / 18446744073709551616)]:=by
  have hm:Extern.MathBitsCarry.m64 = 18446744073709551616:=by decide
  unfold Extern.MathBitsCarry.pair;rw [hm];rfl
 unfold qnk;rw [h3];simp only [Sem.run_bind,hi,Result.andThen_ok,Int.toNat_natCast,if_neg hC',Sem.run_pure,e1]
theorem qm2 {sz:Nat} {zc:List V} {cs:Array Value} (hzl:zc.length = sz) (hz0:qcq G M zc cs):(qdl sz zc).cells.length = sz/\∀ j,j < sz->(qdl sz zc).cells.getD j .undef = zc.getD j .undef:=by
 unfold qdl;split
 ·have h0:=hz0.2 0 (by omega);rw [qjq h0.1 h0.2];refine ⟨rfl,fun j hj=>?_⟩;obtain rfl:j = 0:=by omega
  rfl
 ·exact ⟨hzl,fun j hj=>rfl⟩
theorem qsr {sz:Nat} {zc:List V} {cs:Array Value} (N:Nat) (hzl:zc.length = sz) (hz0:qcq G M zc cs):qb2 G M sz (List.replicate N (qdl sz zc)) ((List.range (N * sz)).map fun i=>cs.getD (i % sz) undef):=by
 have hel:=qm2 hzl hz0;refine ⟨by simp,fun i hi=>?_⟩;have hi':i < N:=by simpa using hi
 have e1:(List.replicate N (qdl sz zc)).getD i .undef = qdl sz zc:=by simp [jkd,hi']
 rw [e1];refine ⟨hel.1,fun j hj=>?_⟩;rw [hel.2 j hj];have heb:=qbb (sz:=sz) hi' (jki _)
 have e2:((List.range (N * sz)).map fun i=>cs.getD (i % sz) undef).getD (i * sz + j) undef = cs.getD j undef:=by
  have hlt:i * sz + j < N * sz:=by omega
  have hmod:(i * sz + j) % sz = j:=by rw [Nat.mul_comm,Nat.mul_add_mod]; exact Nat.mod_eq_of_lt hj
  simp only [jkd,List.getElem?_map,List.getElem?_range hlt,Option.map_some,Option.getD_some,hmod]
 rw [e2];exact hz0.2 j (by omega)
theorem qk7 {cs:Array Value} {sz N:Nat} (hs:cs.size = sz) (h0:sz ≠ 0):(Builtin.zeroCells cs N).toList = (List.range (N * sz)).map fun i=>cs.getD (i % sz) undef:=by
 unfold Builtin.zeroCells;rw [hs];simp only [Array.toList_map,Array.toList_range];refine List.map_congr_left fun i _=>?_;have hmod:i % sz < cs.size:=by rw [hs]; exact Nat.mod_lt _ (by omega)
 rw [getElem!_pos cs _ hmod];simp [jke,hmod]
theorem qi3 {s t2 tt e:TypeId} {k0:IntKind} {z:Value} {ty:Bool × Nat × Nat} {i0:TypeInfo} (h1:P.underlying s = some (.slice e)) (h1':P.underlying t2 = some (.int k0)) (hsz:∀ w,(sizeOf e).run P w = .ok ty.2.1 w) (hz:∀ w,(zeroValue e).run P w = .ok z w)
  (hi:P.info? e = some i0) (hib:i0.bytes = ty.2.2) {ra:Option Addr} {N:Nat} (h0:0 < N) (hby:ty.2.2≤256) (hlen:N≤274877906944) (hn0:ty.2.1 ≠ 0) (k:IntKind) :
  (Builtin.append_ #[s,t2] tt #[.slice ra 0 0,.int k (N:Int)]).run P w = .ok (.slice (some ⟨w.heap.size,0,none⟩) N ((Question.appendCap N 0 e).cut (w.tape w.drawn (.appendCap N 0 e))))
   ({ w with drawn:=w.drawn + 1 }.alloc (.cells ((Builtin.zeroCells z.cells N).toList ++ (Builtin.zeroCells z.cells ((Question.appendCap N 0 e).cut (w.tape w.drawn (.appendCap N 0 e)) - N)).toList).toArray e)):=by
 have hg:Builtin.nextslicecap N 0 * i0.bytes≤281474976710656:=growslice_fits (by omega) (by
  rw [hib]
  have:N * ty.2.2≤274877906944 * 256:=Nat.mul_le_mul hlen hby
  omega)
 have hng:¬ Builtin.nextslicecap N 0 * i0.bytes > 2 ^ 48:=by omega
 have hb0:¬ ((N:Int) * (i0.bytes:Int) > 2 ^ 48):=by
  have h1:N * i0.bytes≤274877906944 * 256:=by rw [hib]; exact Nat.mul_le_mul hlen hby
  have h2:((N * i0.bytes:Nat):Int)≤274877906944 * 256:=by omega
  rw [Int.natCast_mul] at h2;omega
 have hfc:(Question.appendCap N 0 e).forced = false:=rfl;have hmax:IntKind.i64.max = 9223372036854775807:=by decide
 have wm:IntKind.i64.wrap (N:Int) = N:=qas (by omega) (by omega);have hn1:¬ N≤0:=by omega
 have hNn:¬ ((N:Int) < 0):=by omega
 have hNm:¬ N * ty.2.1 = 0:=by
  have:0 < N * ty.2.1:=Nat.mul_pos h0 (by omega);omega
 have hold:∀ w:World,(Builtin.firstCells ty.2.1 0 (.slice ra 0 0)).run P w = .ok #[] w:=fun w=>by
  cases ra <;> simp [Builtin.firstCells,loadCells,loadCellsFrom]
 simp only [Builtin.append_,List.getElem?_toArray,List.getElem?_cons_zero,List.getElem?_cons_succ,Sem.run_bind,underlying,run_program,Result.andThen_ok,h1,h1',Sem.run_pure,hsz,asInt,asIntOf,wm,if_true,if_neg hNn,typeInfo,hi,if_neg hb0,Int.toNat_natCast,Nat.zero_add,if_neg hn1,Sem.run_ite,if_neg hng,run_choose,hfc,run_askRoom,hold,if_neg hNm,Bool.not_true,Bool.false_eq_true,if_false,hz,newRow,run_newObj];rw [if_neg (by rw [hmax]; omega)];have e1:∀ a b:Array Value,(#[] ++ a ++ b) = (a.toList ++ b.toList).toArray:=fun a b=>by apply Array.ext'; simp
 rw [e1];rfl
theorem qz2 (hr:R bs n gl G M fr h a w) {o:Oper} {x:NOp} (hc:qjr P o = some x) (hp:x.pure = true) {gf:Nat->Nat} {id:Nat} {y:Y} (he:nop gl gf id (lk fr) (lk h) x = some y) {Q:Exit->Act->World->Prop} :
  y.2.1 = []/\o.wp P a w (qan (fun v _=>v = y.1) G M w o a h) Q:=by
 rcases qhz hc with ⟨t,e,N,ty,x1,ho,hu,ht,h1,rfl⟩ | ⟨_,_,_,_,_,_,_,_,_,_,_,_,_,_,_,_,_,_,rfl⟩
 ·simp only [nop,qbh] at he;split at he
  ·rename_i vs hx;obtain ⟨hg,h2⟩:=qae he;cases h2;simp only [Bool.and_eq_true,decide_eq_true_eq,List.all_eq_true] at hg;obtain ⟨⟨g1,g2⟩,g3⟩:=hg;have hev:=qat hr hx;obtain ⟨-,hsz,-⟩:=qbd (P:=P) (t:=e) (ag:=ty.1) (n:=ty.2.1) (by_:=ty.2.2) (by rw [ht]);refine ⟨rfl,?_⟩;generalize hr1:a.eval x1 = r at hev
   cases hev with
   | iptr _ _ rb ro cells hG hb hrel hone=>
    simp only [V.cells] at hb hrel hone;refine qai hr (rv:=.slice (some ⟨rb,ro,none⟩) N N) ?_ rfl ?_
    ·have hN:¬ N = 0:=by omega
     simp [execOp,ho,Instr.sliceAt,underlying,hu,hr1,Instr.sureAddr,Instr.sliceBounds,hsz,Addr.add,hN]
    ·have hc1:∀ i,i < vs.length->(vs.getD i .undef).cells = [vs.getD i .undef]:=fun i hi=>by
      have hm:vs.getD i .undef ∈ vs:=by rw [jkd,jkh hi]; exact jkg hi
      have:=g3 _ hm;generalize vs.getD i .undef = u at this;cases u <;> first | rfl | simp [V.isCell] at this
     subst g1;refine .sl vs (some vs.length) rb ro vs.length 1 cells (by intro e0; rw [e0] at g2; simp at g2) hG (fun i hi=>by rw [hc1 i hi]; rfl) (by omega) (jki _) (fun c hc=>by cases hc; rfl) (fun i j hi hj=>?_) (fun i j hi hj=>?_)
     ·obtain rfl:j = 0:=by omega
      rw [hc1 i hi]; simpa using hrel i hi
     ·obtain rfl:j = 0:=by omega
      simpa using hone i hi
  ·cases he
 ·simp [NOp.pure] at hp
theorem qz1 (hr:R bs n gl G M fr h a w) {o:Oper} {x:NOp} (hc:qjr P o = some x) (hp:x.pure = false) {id:Nat} {y:Y} (he:nop gl (qaa M) id (lk fr) (lk h) x = some y) {Q:Exit->Act->World->Prop} :
  o.wp P a w (qfn h id (fun v h'=>v = y.1/\h' = y.2.1 ++ h) G M w o a) Q:=by
 rcases qhz hc with ⟨_,_,_,_,_,_,_,_,_,rfl⟩ | ⟨c,t,t2,e,k0,x1,y1,z,ty,ho,hcal,ha,hat,hu,hu2,ht,hz,hn0,rfl⟩
 ·simp [NOp.pure] at hp
 ·simp only [nop,qbh,qmk] at he;split at he
  ·rename_i k m hx hy;obtain ⟨hg,h2⟩:=qae he;cases h2;simp only [Bool.and_eq_true,decide_eq_true_eq] at hg;obtain ⟨⟨⟨g1,g2⟩,g3⟩,g4⟩:=hg;have rx:=qd5 hr hx;have ey:=qaj (qat hr hy);obtain ⟨-,hsz,hti⟩:=qbd (P:=P) (t:=e) (ag:=ty.1) (n:=ty.2.1) (by_:=ty.2.2) (by rw [ht]);obtain ⟨z1,z2,i0,z3,z4⟩:=qbz hz;obtain ⟨i1,hi1,hib,hisz,hinfo⟩:=hti w;rw [z3] at hinfo; cases hinfo;have hzsz:z.cells.size = ty.2.1:=by rw [z4,hisz]
   have hz0:=qcv G M z2;obtain ⟨N,rfl⟩:∃ N:Nat,m = N:=⟨m.toNat,by omega⟩;have hflat:=qsr N g4 hz0;have ha':=qfo ha;have hat':=qfo hat
   obtain ⟨ra,rfl' ⟩:∃ ra,a.eval x1 = .slice ra 0 0:=by
    generalize a.eval x1 = r at rx
    cases rx with
    | slnil _ base rcap hcc _=>exact ⟨base,by rw [hcc 0 rfl]⟩
    | sl _ _ _ _ _ _ _ hne=>exact absurd rfl hne
   have wm:IntKind.i64.wrap (N:Int) = N:=qas (by omega) (by omega)
   let q:Question:=.appendCap N 0 e
   let nc:=q.cut (w.tape w.drawn q)
   have hnc:N≤nc:=by simp [nc,q,Question.cut]
   have hnc2:nc≤9223372036854775807:=by
    simp only [nc,q,Question.cut];have:=Nat.mod_lt (w.tape w.drawn (.appendCap N 0 e)) (y:=2 ^ 63 - N) (by omega);omega
   obtain ⟨s1,s2⟩:=hr.sim.drawn.allocFlat id e ty.2.1 nc (rest:=(Builtin.zeroCells z.cells (nc - N)).toList) hflat (by
    simp only [List.length_map,List.length_range,Array.length_toList,qgr,hzsz];rw [<- Nat.add_mul];exact Nat.le_of_eq (by congr 1; omega)) (by simpa using hnc)
   refine qb0 (rv:=.slice (some ⟨w.heap.size,0,none⟩) N nc) ?_ ⟨rfl,rfl⟩ (qfd hnc (by omega) (by simp) _) s1 (Ext.drawn.trans s2) (fun b hb _=>qax _ _ _ _ hb);have hrun:=qi3 (P:=P) (w:=w) (tt:=o.type) hu hu2 hsz z1 z3 hib (ra:=ra) (N:=N) (by omega) g3 (by omega) hn0;rw [qk7 hzsz hn0] at hrun;have hrun:=hrun k;simp [execOp,ho,resolve,hcal,invoke,builtin,ha',hat',rfl',ey,hrun];exact ⟨rfl,rfl⟩
  ·cases he
theorem qy1 (hr:R bs n gl G M fr h a w) {o:Oper} {x:NOp} (hc:qle P o = some x∨x = .bad) (hp:x.pure = true) {gf:Nat->Nat} {id:Nat} {y:Y} (he:nop gl gf id (lk fr) (lk h) x = some y) {Q:Exit->Act->World->Prop} :
  y.2.1 = []/\o.wp P a w (qan (fun v _=>v = y.1) G M w o a h) Q:=by
 rcases hc with hc | rfl
 case inr=>simp [nop] at he
 rcases qf6 hc with hc | hc
 ·exact qz2 hr hc hp he
 unfold qhy at hc;split at hc
 ·rename_i op t x1 y1 ty ho;split at hc
  ·rename_i e hu;split at hc
   ·rename_i hny; cases hc; exact qki hr false ho hu hny he
   ·cases hc
  ·rename_i e hu;split at hc
   ·rename_i hny; cases hc; exact qki hr true ho hu hny he
   ·cases hc
  ·rename_i e hu;split at hc
   ·rename_i hny; cases hc; exact qkh hr false ho hu hny he
   ·cases hc
  ·rename_i e hu;split at hc
   ·rename_i hny; cases hc; exact qkh hr true ho hu hny he
   ·cases hc
  ·cases hc
 ·cases hc; simp [NOp.pure] at hp
 ·rename_i t m k ok ho;split at hc
  ·rename_i kt et hu;split at hc
   ·rename_i hkk
    cases hz:qb6 P et with
    | none=>rw [hz] at hc; cases hc
    | some z=>
     rw [hz] at hc; cases hc;simp only [nop,qbh] at he;split at he
     ·rename_i b g kv hm hk;split at he
      ·rename_i g' es hb;obtain ⟨h1,h2⟩:=qae he;simp only [Bool.and_eq_true,decide_eq_true_eq] at h1;obtain ⟨hgg,hkf⟩:=h1;subst hgg;obtain ⟨mb,rb,m1,m2,m3,m4,m5,entries,clock,m6,m7,m8⟩:=qia hr.sim (qat hr hm) hb;have rk:=qat hr hk;obtain ⟨z1,z2,-⟩:=qbz hz;obtain ⟨d,hd,hdk⟩:=qpx hkk
       have hkey:IsKey d (a.eval k):=by
        rcases hdk with ⟨j,rfl⟩ | rfl
        ·have hkd:qd9 P kt = some (some j):=by simp [qd9,hd]
         rw [hkd] at hkf;cases kv <;> simp only [qdt,Bool.false_eq_true,decide_eq_true_eq] at hkf;rw [qaj rk]; exact hkf
        ·have hkd:qd9 P kt = some none:=by simp [qd9,hd]
         rw [hkd] at hkf;cases kv <;> simp only [qdt,Bool.false_eq_true] at hkf;rw [qa7 rk]; trivial
       have hrel:∀ j,j < es.length->qak G M ((es.getD j (.undef,.undef)).1) ((entries.toList.getD j default).key)/\qak G M ((es.getD j (.undef,.undef)).2) ((entries.toList.getD j default).val):=fun j hj=>by
        rw [qko]; exact m8 j hj
       have fin:∀ (rv:Value) (q:Option (Nat × Value)) (v:V) (fnd:Bool),Instr.findNow d (a.eval k) entries.toList 0 = some q->qak G M v rv->(match q with | some (_,u)=>rv = u/\fnd = true | none=>rv = z/\fnd = false)->
         o.wp P a w (qan (fun v' _=>v' = (bif ok then .tup [v,.bool fnd] else v)) G M w o a h) Q:=by
        intro rv q v fnd hfn hrelv hq;refine qai hr (rv:=if ok then .tuple #[rv,.bool fnd] else rv) ?_ rfl ?_
        ·simp only [execOp,ho,Instr.lookup,Sem.run_bind,run_underlying hu,Result.andThen_ok,m5,MapKept.run_getObj_map m6,Sem.run_pure,MapKept.run_checkKey (n:=9999) hd hkey,MapKept.run_findKey hd hfn]
         cases q with
         | none=>obtain ⟨rfl,rfl⟩:=hq; simp [z1]
         | some ju=>obtain ⟨j,u⟩:=ju; obtain ⟨rfl,rfl⟩:=hq; simp
        ·cases ok
         ·exact hrelv
         ·exact .tup _ _ rfl (fun i hi=>by
           match i,hi with
           | 0,_=>exact hrelv
           | 1,_=>exact .bool _)
       cases hq:qj2 kv es 0 with
       | none=>rw [hq] at h2; cases h2
       | some q=>
        have hfs:=qh2 (d:=d) rk hkey es entries.toList 0 q hq (by simpa using m7.1) hrel;rw [hq] at h2
        cases q with
        | none=>
         cases h2;exact ⟨rfl,fin z none (qfh z) false hfs (qkf G M z2) ⟨rfl,rfl⟩⟩
        | some iv=>
         obtain ⟨i,v⟩:=iv;cases h2;obtain ⟨-,-,-,f4,f5⟩:=hfs;exact ⟨rfl,fin _ _ v true f4 f5 ⟨rfl,rfl⟩⟩
      ·cases he
     ·rename_i kv hm hk;obtain ⟨hkf,h2⟩:=qae he;cases h2;have rm:a.eval m = .map none:=by have:=qat hr hm; generalize a.eval m = r at this; cases this; rfl
      have rk:=qat hr hk;obtain ⟨z1,z2,-⟩:=qbz hz;obtain ⟨d,hd,hdk⟩:=qpx hkk
      have hkey:IsKey d (a.eval k):=by
       rcases hdk with ⟨j,rfl⟩ | rfl
       ·have hkd:qd9 P kt = some (some j):=by simp [qd9,hd]
        rw [hkd] at hkf;cases kv <;> simp only [qdt,Bool.false_eq_true,decide_eq_true_eq] at hkf;rw [qaj rk]; exact hkf
       ·have hkd:qd9 P kt = some none:=by simp [qd9,hd]
        rw [hkd] at hkf;cases kv <;> simp only [qdt,Bool.false_eq_true] at hkf;rw [qa7 rk]; trivial
      refine ⟨rfl,qai hr (rv:=if ok then .tuple #[z,.bool false] else z) ?_ rfl ?_⟩
      ·simp only [execOp,ho,Instr.lookup,Sem.run_bind,run_underlying hu,Result.andThen_ok,rm,Sem.run_pure,MapKept.run_checkKey (n:=9999) hd hkey,MapKept.run_findKey hd (show Instr.findNow d (a.eval k) (#[]:Array MapEntry).toList 0 = some none from rfl)];simp [z1]
      ·have hrelv:=qkf G M z2;cases ok
       ·exact hrelv
       ·exact .tup _ _ rfl (fun i hi=>by
         match i,hi with
         | 0,_=>exact hrelv
         | 1,_=>exact .bool _)
     ·cases he
   ·cases hc
  ·cases hc
 ·split at hc
  ·split at hc
   ·cases hc; simp [NOp.pure] at hp
   ·cases hc
  ·cases hc
 ·split at hc
  ·cases hc; simp [NOp.pure] at hp
  ·cases hc; simp [NOp.pure] at hp
  ·cases hc
 ·cases hc; simp [NOp.pure] at hp
 ·cases hc; simp [NOp.pure] at hp
 ·rename_i it ho;cases hc;simp only [nop,qbh] at he;split at he
  ·rename_i b g hx;split at he
   ·rename_i g' b2 g2 n2 seen hb;split at he
    ·rename_i g3 es hb2;split at he
     ·rename_i i hi;obtain ⟨h1,h2⟩:=qae he;simp only [Bool.and_eq_true,decide_eq_true_eq] at h1;obtain ⟨⟨⟨e1,e2⟩,e3⟩,e4⟩:=h1;subst e1; subst e2; subst e3;cases h2;obtain ⟨mb,rb,m5,-,-,-,-,r2,m6,m7⟩:=qot hr.sim (qat hr hx) hb;have m5:=m5 rfl;obtain ⟨mb2,rb2,k1,k2,k3,k4,k5,entries,clock,k6,⟨k7,k8,k9⟩,k10⟩:=qia hr.sim m6 hb2;cases k5;obtain ⟨s0,rfl⟩:∃ s0,seen = s0 ++ [i]:=List.getLast?_eq_some_iff.1 hi;have hlt:i < entries.size:=by omega
      have hbo:(entries[i]).born = i:=by
       have:=k9 i e4;simpa [jke,hlt] using this
      have hnd:(entries.toList.map (·.born)).Nodup:=by
       have:entries.toList.map (·.born) = List.range es.length:=by
        refine List.ext_getElem (by simp [k7]) fun j h1 h2=>?_;have hj:j < es.length:=by simpa [k7] using h1
        have:=k9 j hj;have hj2:j < entries.size:=by omega
        simpa [jke,hj2] using this
       rw [this]; exact List.nodup_range
      have hse:(s0 ++ [i]).toArray = s0.toArray.push (entries[i]).born:=by rw [hbo]; simp
      rw [hse] at m7;have hrun:=run_entry_at (P:=P) w rb _ es.length s0.toArray entries clock (entries[i]) (by rw [k8]; exact m7) k6 (by simp) hnd;obtain ⟨q1,q2⟩:=k10 i e4;have hg:entries.getD i default = entries[i]:=by simp [jke,hlt]
      rw [hg] at q1 q2;refine ⟨rfl,qai hr (rv:=.tuple #[(entries[i]).key,(entries[i]).val]) ?_ rfl (.tup _ _ rfl fun j hj=>?_)⟩
      ·simp only [execOp,ho,m5,Sem.run_bind,hrun,Result.andThen_ok,Sem.run_pure]
      ·match j,hj with
       | 0,_=>exact q1
       | 1,_=>exact q2
     ·cases he
    ·cases he
   ·cases he
  ·cases he
 ·rename_i c ho;split at hc
  ·rename_i f x1 y1 hcal hargs;split at hc
   ·rename_i hf;cases hc;simp only [nop,qbh] at he;split at he
    ·rename_i l nn hl hn;obtain ⟨h1,h2⟩:=qae he;cases h2;simp only [Bool.and_eq_true,decide_eq_true_eq] at h1;refine ⟨rfl,?_⟩;have es:=qa7 (qat hr hl);have en:=qaj (qat hr hn);have ha2:=qfo hargs;unfold qoc at hf;split at hf
     ·rename_i fn hfn;simp only [Bool.and_eq_true,beq_iff_eq,Option.isNone_iff_eq_none] at hf;obtain ⟨⟨hname,hbody⟩,hnext⟩:=hf
      have hfind:Extern.find fn = some Extern.BytealgIndexByte.indexByte:=by
       have g1:Extern.allGenericRows.lookup "internal/bytealg.IndexByteString" = none:=by kernel_rfl
       have g2:Extern.allTypedRows.lookup "internal/bytealg.IndexByteString" = none:=by kernel_rfl
       have g3:Extern.allRows.lookup "internal/bytealg.IndexByteString" = some Extern.BytealgIndexByte.indexByte:=by kernel_rfl
       simp [Extern.find,hname,g1,g2,g3]
      have hrun:(Extern.BytealgIndexByte.indexByte #[.string ⟨l.toArray⟩,.int .u8 nn]).run P w = .ok (.int .i64 (idxOf nn l 0)) w:=by
       have hsp:=qlo nn h1 l [];simp only [List.length_nil,List.nil_append] at hsp;rw [hsp];have hsz:(⟨l.toArray⟩:ByteArray).size = l.length:=by simp [ByteArray.size]
       have hget:∀ i:Nat,(⟨l.toArray⟩:ByteArray)[i]! = l[i]!:=fun i=>by
        rcases Nat.lt_or_ge i l.length with hi | hi
        ·rw [getElem!_pos (⟨l.toArray⟩:ByteArray) i (by rw [hsz]; exact hi),getElem!_pos l i hi]; rfl
        ·rw [getElem!_neg (⟨l.toArray⟩:ByteArray) i (by rw [hsz]; omega),getElem!_neg l i (by omega)]
       have hb8:nn.toNat.toUInt8 = UInt8.ofNat nn.toNat:=rfl
       show (do
        let b <- Extern.Bytes.bytesOf (.string ⟨l.toArray⟩)
        let c <- Extern.Bytes.asByte (.int .u8 nn)
        match (List.range b.size).find? fun i=>b[i]! == c with
        | some i=>pure (goInt i)
        | none=>pure (goInt (-1)):Sem Value).run P w = _
       simp only [Extern.Bytes.bytesOf,Extern.Bytes.asByte,Sem.run_bind,Sem.run_pure,Result.andThen_ok,hsz,hget,hb8,List.range_eq_range']
       cases hq:(List.range' 0 l.length).find? (fun (i:Nat)=>l[i]! == UInt8.ofNat nn.toNat) with
       | none=>rfl
       | some i=>rfl
      refine qai hr (rv:=.int .i64 (idxOf nn l 0)) ?_ rfl (.int _ _);have hfv:a.eval (.func f) = .func (.func f) #[] #[]:=rfl
      have hcall:(callFunc f #[.string ⟨l.toArray⟩,.int .u8 nn]).run P w = .ok (.value (.int .i64 (idxOf nn l 0))) w:=by
       have hne:(fn.name == "runtime.NumGoroutine") = false:=by rw [hname]; rfl
       simp [callFunc,hfn,hname,hbody,hnext,hfind,hrun]
      simp [execOp,ho,resolve,hcal,hfv,Deferred.ofValue,invoke,ha2,es,en,hcall]
     ·cases hf
    ·cases he
   ·cases hc
  ·rename_i f x1 y1 z1 hcal hargs;split at hc
   ·rename_i hf;cases hc;simp only [nop,qbh] at he;split at he
    ·rename_i na nb nc hx hy hz;obtain ⟨h1,h2⟩:=qae he;cases h2;simp only [Bool.and_eq_true,decide_eq_true_eq] at h1;obtain ⟨⟨⟨h1,h2⟩,h3⟩,h4⟩:=h1;refine ⟨rfl,?_⟩;have ea:=qaj (qat hr hx);have eb':=qaj (qat hr hy);have ec:=qaj (qat hr hz);have ha3:c.args = #[x1,y1,z1]:=by rw [<- Array.toArray_toList (xs:=c.args),hargs]
     unfold qu6 at hf;split at hf
     ·rename_i fn hfn;simp only [Bool.and_eq_true,beq_iff_eq,Option.isNone_iff_eq_none] at hf;obtain ⟨⟨hname,hbody⟩,hnext⟩:=hf;obtain ⟨A,rfl⟩:=Int.eq_ofNat_of_zero_le h1;obtain ⟨B,rfl⟩:=Int.eq_ofNat_of_zero_le h2;obtain ⟨C,rfl⟩:=Int.eq_ofNat_of_zero_le h3
      have hfind:Extern.find fn = some qnk:=by
       have g1:Extern.allGenericRows.lookup "math/bits.Add64" = none:=by kernel_rfl
       have g2:Extern.allTypedRows.lookup "math/bits.Add64" = none:=by kernel_rfl
       have g3:Extern.allRows.lookup "math/bits.Add64" = some qnk:=by kernel_rfl
       simp [Extern.find,hname,g1,g2,g3]
      have hC:¬ C > 1:=by omega
      have hrun:(qnk #[.int .u64 (A:Int),.int .u64 (B:Int),.int .u64 (C:Int)]).run P w = .ok (.tuple #[.int .u64 (((A:Int) + B + C) % 18446744073709551616),.int .u64 (((A:Int) + B + C) / 18446744073709551616)]) w:=qt2 A B C (by omega);refine qai hr (rv:=.tuple #[.int .u64 (((A:Int) + B + C) % 18446744073709551616),.int .u64 (((A:Int) + B + C) / 18446744073709551616)]) ?_ rfl (.tup _ _ rfl fun i hi=>?_)
      ·have hfv:a.eval (.func f) = .func (.func f) #[] #[]:=rfl
       have hcall:(callFunc f #[.int .u64 (A:Int),.int .u64 (B:Int),.int .u64 (C:Int)]).run P w = .ok (.value (.tuple #[.int .u64 (((A:Int) + B + C) % 18446744073709551616),.int .u64 (((A:Int) + B + C) / 18446744073709551616)])) w:=by
        have hne:(fn.name == "runtime.NumGoroutine") = false:=by rw [hname]; rfl
        simp [callFunc,hfn,hname,hbody,hnext,hfind,hrun]
       simp [execOp,ho,resolve,hcal,hfv,Deferred.ofValue,invoke,ha3,ea,eb',ec,hcall]
      ·match i,hi with
       | 0,_=>exact .int _ _
       | 1,_=>exact .int _ _
     ·cases hf
    ·cases he
   ·cases hc
  ·split at hc
   ·split at hc
    ·split at hc
     ·split at hc
      ·cases hc; simp [NOp.pure] at hp
      ·cases hc
     ·cases hc
    ·cases hc
   ·cases hc
  ·rename_i x1 hcal hargs;split at hc
   ·rename_i t hat;split at hc
    ·rename_i kt et hu;cases hc;simp only [nop,qbh] at he;have ha':=qee hargs;have hat':=qee hat;split at he
     ·rename_i b g hx;split at he
      ·rename_i g' es hb;obtain ⟨h1,h2⟩:=qae he;simp only [decide_eq_true_eq] at h1;subst h1;cases h2;obtain ⟨mb,rb,m1,m2,m3,m4,m5,entries,clock,m6,m7,m8⟩:=qia hr.sim (qat hr hx) hb;have hsz:=m7.1;refine ⟨rfl,qai hr (rv:=.int .i64 (es.length:Nat)) ?_ rfl (.int _ _)⟩;simp [execOp,ho,resolve,hcal,invoke,builtin,Builtin.len_,ha',hat',m5,underlying,hu,goInt,MapKept.run_getObj_map m6,hsz]
      ·cases he
     ·rename_i hx;cases he;have rm:a.eval x1 = .map none:=by have:=qat hr hx; generalize a.eval x1 = r at this; cases this; rfl
      exact ⟨rfl,qai hr (rv:=.int .i64 0) (by simp [execOp,ho,resolve,hcal,invoke,builtin,Builtin.len_,ha',hat',rm,underlying,hu,goInt]) rfl (.int _ _)⟩
     ·cases he
    ·cases hc
   ·cases hc
  ·cases hc
 ·rename_i x1 ho;cases hc;simp only [nop,qbh] at he;split at he
  ·rename_i b g i o' hv;cases he;have:=qat hr hv;generalize hev:a.eval x1 = r at this
   cases this with
   | ptr _ _ _ _ ad mb hM hg hh=>exact ⟨rfl,qai hr (rv:=.pointer (some ad)) (by simp [execOp,ho,hev]) rfl (.ptr _ _ _ _ _ _ hM hg hh)⟩
  ·rename_i x2 o' hv;cases he;have:=qat hr hv;generalize hev:a.eval x1 = r at this
   cases this with
   | iptr _ _ rb ro cells hG hb hx hy=>exact ⟨rfl,qai hr (rv:=.pointer (some ⟨rb,ro + o',none⟩)) (by simp [execOp,ho,hev]) rfl (.iptr _ _ _ _ _ hG hb hx hy)⟩
  ·cases he
 ·rename_i s1 d1 x1 ho;split at hc
  ·rename_i ks hs hd;cases hc;simp only [nop,qbh] at he;split at he
   ·rename_i k' n' hv;obtain ⟨h1,h2⟩:=qae he;simp only [Bool.and_eq_true,decide_eq_true_eq] at h1;cases h2;have hi:=qaj (qat hr hv)
    have he2:Utf8.encode n' = ⟨#[UInt8.ofNat n'.toNat]⟩:=by
     have hvv:Utf8.valid n' = true:=by
      unfold Utf8.valid;simp only [Bool.or_eq_true,Bool.and_eq_true,decide_eq_true_eq];omega
     unfold Utf8.encode;simp only [hvv,if_true];rw [if_pos (by omega)]
    refine ⟨rfl,qai hr (rv:=.string ⟨#[UInt8.ofNat n'.toNat]⟩) ?_ rfl (.str _)⟩;simp [execOp,ho,hi,convert,underlying,hs,hd,Conv.intToString,he2]
   ·cases he
  ·cases hc
 ·cases hc
theorem qzm {o:Obj} (hs:Sim G M h w) (id:Nat) (mb:MB) (k:Blk) (hgen:mb.gen = qaa M id) (hreal:mb.real = some w.heap.size) (hk:qb7 G (upd M id mb) (w.alloc o) id k) :
  Sim G (upd M id mb) ((id,k) :: h) (w.alloc o)/\Ext G M w G (upd M id mb) (w.alloc o):=by
 refine hs.change id mb k (fun mb0 h0=>.inl (by rw [hgen]; simp [qaa,h0])) (fun rb hrb=>?_) (by show _≤(w.heap.push o).size; simp) (fun q hq hne=>(MapKept.heap_alloc w o).2 q hq) (fun _ _ _ _=>trivial) rfl rfl rfl hk;rw [hreal] at hrb;cases hrb;exact .inl ⟨jki _,by show _ < (w.heap.push o).size; simp⟩
theorem qwm {o:Obj} (hs:Sim G M h w) (id:Nat) (mb:MB) (k:Blk) (hgen:mb.gen = qaa M id) (hreal:mb.real = some w.heap.size) (hk:∀ M',M' id = some mb->qb7 G M' (w.alloc o) id k) :
  Sim G (upd M id mb) ((id,k) :: h) (w.alloc o)/\Ext G M w G (upd M id mb) (w.alloc o):=by
 refine hs.change id mb k (fun mb0 h0=>.inl (by rw [hgen]; simp [qaa,h0])) (fun rb hrb=>?_) (by show _≤(w.heap.push o).size; simp) (fun q hq hne=>(MapKept.heap_alloc w o).2 q hq) (fun _ _ _ _=>trivial) rfl rfl rfl (hk _ (qaw _ _ _));rw [hreal] at hrb;cases hrb;exact .inl ⟨jki _,by show _ < (w.heap.push o).size; simp⟩
theorem quh (hs:Sim G M h w) {sz:Nat} {vy:V} {ry:Value} {ys:List V} (he:qcy h sz (fun l=>l = ys) vy) (hy:qak G M vy ry) (m:Nat) (hm:m≤ys.length) (h0:0 < m) :
  ∃ ra rcap cells,ry = .slice ra ys.length rcap/\qb2 G M sz (ys.take m) cells/\∀ w':World,w'.heap = w.heap->(Builtin.firstCells sz m ry).run P w' = .ok cells.toArray w':=by
 have key:∀ (vs:V) (ra:Option Addr) (rcap:Nat),qcy h sz (fun l=>l = ys.take m) vs->qak G M vs (.slice ra m rcap)->ry = .slice ra ys.length rcap->∃ ra rcap cells,ry = .slice ra ys.length rcap/\qb2 G M sz (ys.take m) cells/\∀ w':World,w'.heap = w.heap->(Builtin.firstCells sz m ry).run P w' = .ok cells.toArray w':=by
  intro vs ra rcap he1 hr1 hry;obtain ⟨zs,ra2,rc2,cells,rfl,e2,f,r⟩:=qck (P:=P) hs he1 hr1;refine ⟨ra,rcap,cells,hry,f,fun w' hw'=>?_⟩;have hlen:(ys.take m).length = m:=by simp; omega
  have:=r w' hw';rw [hlen] at this;rw [hry];cases ra <;> exact this
 unfold qcy at he;split at he
 ·rename_i xs cap;obtain ⟨hall,rfl⟩:=he;have hne:xs ≠ []:=fun e=>by subst e; simp at hm; omega
  cases hy with
  | slnil=>exact absurd rfl hne
  | sl _ _ rb ro rcap sz' cells _ hG hsz hb hl hc hh ho=>
   have hgm:∀ i,i < m->(xs.take m).getD i .undef = xs.getD i .undef:=fun i hi=>by simp [jkd,hi]
   have hlen:(xs.take m).length = m:=by simp; omega
   refine key (.sl (xs.take m) none) _ rcap ⟨fun x hx=>hall x (List.mem_of_mem_take hx),rfl⟩ ?_ rfl
   have:=qak.sl (G:=G) (M:=M) (xs.take m) none rb ro rcap sz' cells (fun e=>by rw [e] at hlen; simp at hlen; omega) hG (fun i hi=>by rw [hlen] at hi; rw [hgm i hi]; exact hsz i (by omega))
    (by rw [hlen]; have:=Nat.mul_le_mul_right sz' hm; omega) (by omega) (by simp) (fun i j hi hj=>by rw [hlen] at hi; rw [hgm i hi]; exact hh i j (by omega) hj) (fun i j hi hj=>by rw [hlen] at hi; exact ho i j (by omega) hj)
   rwa [hlen] at this
 ·rename_i b g off len cap;split at he
  ·rename_i g' sz' es hb;obtain ⟨rfl,rfl,hle,hk⟩:=he;subst hk;have hlen:((es.drop off).take len).length = len:=by simp; omega
   rw [hlen] at hm
   cases hy with
   | ref _ _ _ _ _ ra rcap mb hM hg hl hcc hh=>
    refine key (.ref b g' off m none) ra rcap ?_ (.ref b g' off m none ra rcap mb hM hg (by omega) (by simp) fun e=>?_) (by rw [hlen])
    ·simp only [qcy,hb];exact ⟨trivial,trivial,by omega,by rw [List.take_take,Nat.min_eq_left hm]⟩
    ·have:=hh e;unfold qb4 at this ⊢;split at this
     ·exact this
     ·rcases this with q | ⟨q,q2⟩
      ·exact .inl q
      ·omega
  ·exact he.elim
 ·exact he.elim
theorem qzk {s t2 tt e:TypeId} {sz m:Nat} (h1:P.underlying s = some (.slice e)) (hsz:∀ w,(sizeOf e).run P w = .ok sz w) {ra rb:Option Addr} {l cap k cy:Nat} {new:List Value} {w':World} (hm:min k l = m)
  (hnew:(Builtin.firstCells sz m (.slice rb k cy)).run P w = .ok new.toArray w) (hst:(ra = none/\w' = w)∨∃ ad,ra = some ad/\(storeCells ad new).run P w = .ok () w') :
  (Builtin.copy_ #[s,t2] tt #[.slice ra l cap,.slice rb k cy]).run P w = .ok (.int .i64 (m:Int)) w':=by
 have hmn:Nat.min k l = m:=hm;simp only [Builtin.copy_,List.getElem?_toArray,List.getElem?_cons_zero,List.getElem?_cons_succ,Sem.run_bind,underlying,run_program,Result.andThen_ok,h1,Sem.run_pure,hsz,Builtin.lenOf,hmn,hnew];rcases hst with ⟨rfl,rfl⟩ | ⟨ad,rfl,hst⟩
 ·simp [goInt]
 ·simp [hst,goInt]
theorem qwq (hr:R bs n gl G M fr h a w) {o:Oper} {c:Call} {t t2 e e2:TypeId} {x y:Operand} {ty:Bool × Nat × Nat} {Q:Exit->Act->World->Prop} (ho:o.op = .call c) (hc:c.callee = .builtin .copy)
  (ha:c.args.toList = [x,y]) (hat:c.argTypes.toList = [t,t2]) (h1:P.underlying t = some (.slice e)) (_h1':P.underlying t2 = some (.slice e2)) (h2:qcg P e = some ty) (hn0:ty.2.1 ≠ 0) {id:Nat}
  {b g off len:Nat} {cap:Option Nat} {vy:V} {es ys:List V} (hx:evN gl fr (co x) = some (.ref b g off len cap)) (hy:evN gl fr (co y) = some vy) (hb:lk h b = some (.row g ty.2.1 es)) (hys:qcy h ty.2.1 (fun l=>l = ys) vy) (hle:off + len≤es.length) :
  o.wp P a w (qfn h id (fun v h'=>v = .int .i64 ((min ys.length len:Nat):Int)/\h' = (b,.row g ty.2.1 (es.take off ++ ys.take (min ys.length len) ++ es.drop (off + min ys.length len))) :: h) G M w o a) Q:=by
 obtain ⟨-,hsz,-⟩:=qbd (P:=P) (t:=e) (ag:=ty.1) (n:=ty.2.1) (by_:=ty.2.2) (by rw [h2]);have ha':=qfo ha;have hat':=qfo hat;obtain ⟨m,hm⟩:∃ m,min ys.length len = m:=⟨_,rfl⟩;rw [hm];have rx:=qd5 hr hx;have ry:=qd5 hr hy;obtain ⟨zs,ra2,rc2,cells2,hzs,ey,f2,r2⟩:=qck (P:=P) hr.sim hys ry;subst hzs;obtain ⟨mb0,q1,q2,q3,q4⟩:=hr.sim.hb b _ hb;obtain ⟨ra',cx',mb',ex',hM,hg,hl,hcc,hh⟩:=qkd rx;rw [q1] at hM; cases hM;have hre:=hh q2.symm;have nb:∀ x,lk h x = none->x ≠ b:=fun x h0 e=>by subst e; rw [hb] at h0; cases h0
 have hexec:∀ {w':World} (new:Array Value),(Builtin.firstCells ty.2.1 m (a.eval y)).run P w = .ok new w->((∃ ad,ra' = some ad/\(storeCells ad new.toList).run P w = .ok () w')∨(ra' = none/\w' = w))->(execOp a.eval o).run P w = .ok (.value (.int .i64 (m:Int))) w':=by
  intro w' new hf hst
  have hrun:=qzk (P:=P) (w:=w) (w':=w') (t2:=t2) (tt:=o.type) (cap:=cx') (new:=new.toList) h1 hsz hm (by rw [<- ey]; simpa using hf) (ra:=ra') (by
   rcases hst with ⟨ad,rfl,hst⟩ | ⟨rfl,rfl⟩
   ·exact .inr ⟨ad,rfl,hst⟩
   ·exact .inl ⟨rfl,rfl⟩)
  simp [execOp,ho,resolve,hc,invoke,builtin,ha',hat',ex',ey,hrun]
 have hc0:∀ rx',(Builtin.firstCells ty.2.1 0 (.slice ra2 rx' rc2)).run P w = .ok #[] w:=fun rx'=>by
  cases ra2 <;> simp [Builtin.firstCells,loadCells,loadCellsFrom]
 by_cases hm0:m = 0
 ·-- nothing is copied
  subst hm0;have hnew:es.take off ++ zs.take 0 ++ es.drop (off + 0) = es:=by simp
  rw [hnew];refine qb0 (w':=w) (hexec #[] (by rw [ey]; exact hc0 _) ?_) ⟨rfl,rfl⟩ (.int _ _) (G':=G) (M':=M) ⟨hr.sim.gw,fun b' k hk=>?_,hr.sim.inj,hr.sim.mlt⟩ (.refl _ _ _) (fun _ _ _=>rfl)
  ·cases ra' with
   | none=>exact .inr ⟨rfl,rfl⟩
   | some ad=>exact .inl ⟨ad,rfl,by simp [storeCells]⟩
  ·refine hr.sim.hb b' k ?_;simp only [lk] at hk;split at hk
   ·rename_i e; rw [e,hb]; exact hk
   ·exact hk
 ·have hmy:m≤zs.length:=by omega
  have hml:m≤len:=by omega
  obtain ⟨ra3,rc3,new,ey3,f3,r3⟩:=quh (P:=P) hr.sim hys ry m hmy (by omega);have hzl:(zs.take m).length = m:=by simp; omega
  cases hreal:mb0.real with
  | none=>simp only [qb4,hreal] at hre; omega
  | some rb=>
   simp only [qb4,hreal] at hre;simp only [qbo,hreal] at q4;obtain ⟨arr,ty',w1,w2,w3,w4,w5⟩:=q4
   have hre':ra' = some ⟨rb,mb0.base + off * mb0.sz,none⟩/\off + cx'≤min mb0.room 9223372036854775807:=by
    rcases hre with q | ⟨q,-⟩
    ·exact q
    ·omega
   obtain ⟨rfl,hroom⟩:=hre';have hnl:new.length = m * ty.2.1:=by have:=f3.1; rwa [hzl] at this
   have hroom2:(off + m) * mb0.sz≤mb0.room * mb0.sz:=Nat.mul_le_mul_right _ (by omega);rw [Nat.add_mul,q3] at hroom2;rw [q3] at w2 w4 w5;have hst:=run_storeCells_at P rb (mb0.base + off * ty.2.1) ty' new 0 arr w w1 (by rw [hnl]; omega) (f3.one hn0);simp only [Nat.add_zero] at hst;have hle2:M.le (upd M b mb0):=jip fun m hm=>.inr (by rw [q1] at hm; cases hm; rfl)
   have hkey:=hr.sim.change (w':=w.setRow rb (arr.toList.take (mb0.base + off * ty.2.1) ++ new ++ arr.toList.drop (mb0.base + off * ty.2.1 + new.length)).toArray) b mb0 (.row g ty.2.1 (es.take off ++ zs.take m ++ es.drop (off + m))) (fun m hm=>.inr (by rw [q1] at hm; cases hm; rfl)) (fun r hr'=>.inr ⟨mb0,q1,hr'⟩)
    (by rw [qg2]; exact jki _) (fun k _ hk=>qeh _ _ _ _ (fun e=>hk (by rw [hreal,e]))) (fun _ _ _ _=>trivial) rfl rfl rfl ?_
   ·refine qb0 (hexec new.toArray (r3 w rfl) (.inl ⟨_,rfl,?_⟩)) ⟨rfl,rfl⟩ (.int _ _) hkey.1 hkey.2 (fun x _ h0=>qax _ _ _ _ (nb x h0));rw [q3]; simpa using hst
   ·refine ⟨mb0,qaw _ _ _,q2,q3,?_⟩;simp only [qbo,hreal];have hel:(es.take off ++ zs.take m ++ es.drop (off + m)).length = es.length:=by simp; omega
    have hget:∀ i,i < es.length->(es.take off ++ zs.take m ++ es.drop (off + m)).getD i .undef = if off≤i/\i < off + m then zs.getD (i - off) .undef else es.getD i .undef:=by
     intro i hi;simp only [jkd,List.getElem?_append,List.length_append,List.length_take,List.getElem?_take,List.getElem?_drop];have e1:min off es.length = off:=by omega
     have e2:min m zs.length = m:=by omega
     rw [e1,e2];by_cases c1:i < off
     ·rw [if_pos (by omega),if_pos c1,if_pos c1,if_neg (by omega)]
     ·by_cases c2:i < off + m
      ·rw [if_pos (by omega),if_neg c1,if_pos (by omega),if_pos (by omega)]
      ·rw [if_neg (by omega),if_neg (by omega)];congr 2;omega
    have hzg:∀ i,i < m->(zs.take m).getD i .undef = zs.getD i .undef:=fun i hi=>by simp [jkd,hi]
    refine ⟨_,ty',setRow_heap w rb arr _ ty' (0,0) w1,?_,by rw [hel]; exact w3,fun i hi=>?_,fun i j hi hj=>?_⟩
    ·rw [q3]; simp only [List.size_toArray,List.length_append,List.length_take,List.length_drop,Array.length_toList];omega
    ·rw [hel] at hi;rw [hget i hi,q3];split
     ·rw [<- hzg _ (by omega)]; exact (f3.2 _ (by rw [hzl]; omega)).1
     ·exact w4 i hi
    ·rw [hel] at hi;rw [hget i hi,q3,qbq,qff _ _ _ _ (by have e9:arr.toList.length = arr.size:=Array.length_toList; omega)];rw [q3] at hj;have heb:=qbb (sz:=ty.2.1) hi w3;by_cases hin:off≤i/\i < off + m
     ·have e3:i * ty.2.1 = off * ty.2.1 + (i - off) * ty.2.1:=by rw [<- Nat.add_mul]; congr 1; omega
      have heb3:=qbb (sz:=ty.2.1) (show i - off < m by omega) (jki _);rw [if_pos hin,if_pos (by rw [hnl]; omega)];have e4:mb0.base + i * ty.2.1 + j - (mb0.base + off * ty.2.1) = (i - off) * ty.2.1 + j:=by omega
      rw [e4,<- hzg _ (by omega)];have:=(f3.2 (i - off) (by rw [hzl]; omega)).2 j hj;exact ⟨this.1.mono G.le_refl hle2,this.2⟩
     ·rw [if_neg hin,if_neg (by
       rw [hnl];rintro ⟨c1,c2⟩;apply hin;refine ⟨?_,?_⟩
       ·by_cases hc:off≤i
        ·exact hc
        ·have:=qbb (sz:=ty.2.1) (show i < off by omega) (jki _); omega
       ·by_cases hc:i < off + m
        ·exact hc
        ·have:=Nat.mul_le_mul_right ty.2.1 (show off + m≤i by omega);rw [Nat.add_mul] at this; omega)]
      have e2:arr.toList.getD (mb0.base + i * ty.2.1 + j) undef = arr.getD (mb0.base + i * ty.2.1 + j) undef:=by
       simp [jkd,jke]
      rw [e2];have:=w5 i j hi hj;exact ⟨this.1.mono G.le_refl hle2,this.2⟩
theorem qy0 (hr:R bs n gl G M fr h a w) {o:Oper} {x:NOp} (hc:qle P o = some x∨x = .bad) (hp:x.pure = false) {id:Nat} {y:Y} (he:nop gl (qaa M) id (lk fr) (lk h) x = some y) {Q:Exit->Act->World->Prop} :
  o.wp P a w (qfn h id (fun v h'=>v = y.1/\h' = y.2.1 ++ h) G M w o a) Q:=by
 rcases hc with hc | rfl
 case inr=>simp [NOp.pure] at hp
 rcases qf6 hc with hc | hc
 ·exact qz1 hr hc hp he
 unfold qhy at hc;split at hc
 ·split at hc
  ·split at hc
   ·cases hc; simp [NOp.pure] at hp
   ·cases hc
  ·split at hc
   ·cases hc; simp [NOp.pure] at hp
   ·cases hc
  ·split at hc
   ·cases hc; simp [NOp.pure] at hp
   ·cases hc
  ·split at hc
   ·cases hc; simp [NOp.pure] at hp
   ·cases hc
  ·cases hc
 ·rename_i t ho;cases hc;simp only [nop,Option.some.injEq] at he;subst he;obtain ⟨s1,s2⟩:=qwm (o:=.map #[] 0) hr.sim id ⟨qaa M id,0,0,0,some w.heap.size⟩ (.map (qaa M id) []) rfl rfl (fun M' hM'=>⟨_,w.heap.size,hM',rfl,rfl,rfl,#[],0,(MapKept.heap_alloc w _).1,⟨rfl,rfl,fun i hi=>by simp at hi⟩,fun i hi=>by simp at hi⟩);exact qb0 (rv:=.map (some w.heap.size)) (by simp [execOp,ho,Instr.makeMap]) ⟨rfl,rfl⟩ (.own _ _ _ _ (qaw _ _ _) (jki _) rfl fun _=>⟨w.heap.size,rfl,rfl⟩) s1 s2 (fun b hb _=>qax _ _ _ _ hb)
 ·split at hc
  ·split at hc
   ·rename_i z _
    cases hz:qb6 P _ with
    | none=>rw [hz] at hc; cases hc
    | some z=>rw [hz] at hc; cases hc; simp [NOp.pure] at hp
   ·cases hc
  ·cases hc
 ·rename_i t m k v ho;split at hc
  ·rename_i kt et hu;split at hc
   ·rename_i hkk;cases hc;simp only [nop,qbh] at he;split at he
    ·rename_i b g kv vv hm hk hv;split at he
     ·rename_i g' es hb;obtain ⟨h1,h2⟩:=qae he;simp only [Bool.and_eq_true,decide_eq_true_eq] at h1;obtain ⟨hgg,hkf⟩:=h1;subst hgg;obtain ⟨mb,rb,m1,m2,m3,m4,m5,entries,clock,m6,m7,m8⟩:=qia hr.sim (qat hr hm) hb;have rk:=qat hr hk;have rv:=qat hr hv;obtain ⟨d,hd,hdk⟩:=qpx hkk
      have hkey:IsKey d (a.eval k):=by
       rcases hdk with ⟨j,rfl⟩ | rfl
       ·have hkd:qd9 P kt = some (some j):=by simp [qd9,hd]
        rw [hkd] at hkf;cases kv <;> simp only [qdt,Bool.false_eq_true,decide_eq_true_eq] at hkf;rw [qaj rk]; exact hkf
       ·have hkd:qd9 P kt = some none:=by simp [qd9,hd]
        rw [hkd] at hkf;cases kv <;> simp only [qdt,Bool.false_eq_true] at hkf;rw [qa7 rk]; trivial
      have hrel:∀ j,j < es.length->qak G M ((es.getD j (.undef,.undef)).1) ((entries.toList.getD j default).key)/\qak G M ((es.getD j (.undef,.undef)).2) ((entries.toList.getD j default).val):=fun j hj=>by
       rw [qko]; exact m8 j hj
      have hrb:rb < w.heap.size:=(Array.getElem?_eq_some_iff.1 m6).1
      have hchg:∀ (es':List (V × V)) (entries':Array MapEntry) (clock':Nat),(entries'.size = es'.length/\clock' = es'.length/\∀ i,i < es'.length->(entries'.getD i default).born = i)->(∀ i,i < es'.length->qak G M ((es'.getD i (.undef,.undef)).1) ((entries'.getD i default).key)/\qak G M ((es'.getD i (.undef,.undef)).2) ((entries'.getD i default).val))->
        Sim G (upd M b mb) ((b,.map g' es') :: h) { w with heap:=w.heap.setIfInBounds rb (.map entries' clock') }/\Ext G M w G (upd M b mb) { w with heap:=w.heap.setIfInBounds rb (.map entries' clock') }:=by
       intro es' entries' clock' hsz hall;have hle2:M.le (upd M b mb):=jip fun m' hm'=>.inr (by rw [m1] at hm'; cases hm'; rfl);refine hr.sim.change b mb (.map g' es') (fun m' hm'=>.inr (by rw [m1] at hm'; cases hm'; rfl)) (fun r hr'=>.inr ⟨mb,m1,hr'⟩) (by simp) (fun q hq hne=>?_) (fun _ _ _ _=>trivial) rfl rfl rfl ?_
       ·exact (MapKept.heap_set m6).2 q (fun e=>hne (by rw [m3,e]))
       ·exact ⟨mb,rb,qaw _ _ _,m2,m3,m4,entries',clock',(MapKept.heap_set m6).1,hsz,fun i hi=>⟨(hall i hi).1.mono G.le_refl hle2,(hall i hi).2.mono G.le_refl hle2⟩⟩
      have hfresh:∀ b',b' ≠ id->lk h b' = none->qaa (upd M b mb) b' = qaa M b':=fun b' _ h0=>by
       exact qax _ _ _ _ (fun e=>by subst e; rw [hb] at h0; cases h0)
      cases hq:qj2 kv es 0 with
      | none=>rw [hq] at h2; cases h2
      | some q=>
       have hfs:=qh2 (d:=d) rk hkey es entries.toList 0 q hq (by simpa using m7.1) hrel;rw [hq] at h2
       cases q with
       | none=>
        cases h2
        obtain ⟨s1,s2⟩:=hchg (es ++ [(kv,vv)]) (entries.push { key:=a.eval k,val:=a.eval v,born:=clock }) (clock + 1) ⟨by simp [m7.1],by simp [m7.2.1],fun i hi=>by
         simp only [List.length_append,List.length_singleton] at hi;simp only [jke,Array.getElem?_push];by_cases hie:i < es.length
         ·rw [if_neg (by omega),<- jke]; exact m7.2.2 i hie
         ·rw [if_pos (by omega)]; show clock = i; omega⟩ (fun i hi=>by
         simp only [List.length_append,List.length_singleton] at hi;by_cases hie:i < es.length
         ·have:=m8 i hie;have e1:(es ++ [(kv,vv)]).getD i (.undef,.undef) = es.getD i (.undef,.undef):=by simp only [jkd,List.getElem?_append_left hie]
          have e2:(entries.push { key:=a.eval k,val:=a.eval v,born:=clock }).getD i default = entries.getD i default:=by
           simp only [jke,Array.getElem?_push];rw [if_neg (by omega)]
          rw [e1,e2]; exact this
         ·have hie':i = es.length:=by omega
          subst hie';have e1:(es ++ [(kv,vv)]).getD es.length (.undef,.undef) = (kv,vv):=by simp [jkd]
          have e2:(entries.push { key:=a.eval k,val:=a.eval v,born:=clock }).getD es.length default = { key:=a.eval k,val:=a.eval v,born:=clock }:=by
           simp only [jke,Array.getElem?_push];rw [if_pos (by omega)]; rfl
          rw [e1,e2]; exact ⟨rk,rv⟩)
        refine qmo ?_ ⟨rfl,rfl⟩ s1 s2 hfresh;simp only [execOp,ho,Instr.mapUpdate,Sem.run_bind,run_underlying hu,Result.andThen_ok,m5,MapKept.run_getObj_map m6,Sem.run_pure,MapKept.run_checkKey (n:=9999) hd hkey,MapKept.run_findKey hd hfs,MapKept.run_setObj_map _ m6]
       | some iv=>
        obtain ⟨i,v0⟩:=iv;cases h2;obtain ⟨-,f2,f3,f4,f5⟩:=hfs;rw [Nat.sub_zero] at f2 f3 f4 f5;have hie:i < entries.size:=by omega
        have hget:entries[i]? = some (entries[i]'hie):=Array.getElem?_eq_getElem hie
        have hkey':(entries[i]'hie).key = a.eval k:=by
         rw [jkd,Array.getElem?_toList,hget] at f3;exact f3
        obtain ⟨s1,s2⟩:=hchg (es.set i (kv,vv)) (entries.modify i fun e=>{ e with key:=a.eval k,val:=a.eval v }) clock ⟨by simp [m7.1],by simp [m7.2.1],fun j hj=>by
         simp only [List.length_set] at hj;have:=m7.2.2 j hj;have hj2:j < entries.size:=by omega
         simp only [jke,hj2,Array.getElem?_eq_getElem,Option.getD_some] at this;simp only [jke,Array.getElem?_modify,hj2,Array.getElem?_eq_getElem,Option.map_some]
         split <;> simpa using this⟩ (fun j hj=>by
         simp only [List.length_set] at hj;by_cases hji:j = i
         ·subst hji;have e1:(es.set j (kv,vv)).getD j (.undef,.undef) = (kv,vv):=by simp [jkd,hj]
          have e2:(entries.modify j fun e=>{ e with key:=a.eval k,val:=a.eval v }).getD j default = { (entries[j]'hie) with key:=a.eval k,val:=a.eval v }:=by
           simp [jke,Array.getElem_modify,hie]
          rw [e1,e2]; exact ⟨rk,rv⟩
         ·have e1:(es.set i (kv,vv)).getD j (.undef,.undef) = es.getD j (.undef,.undef):=by simp only [jkd,List.getElem?_set]; rw [if_neg (Ne.symm hji)]
          have e2:(entries.modify i fun e=>{ e with key:=a.eval k,val:=a.eval v }).getD j default = entries.getD j default:=by
           simp only [jke,Array.getElem?_modify];rw [if_neg (Ne.symm hji)]
          rw [e1,e2]; exact m8 j hj)
        refine qmo ?_ ⟨rfl,rfl⟩ s1 s2 hfresh;simp only [execOp,ho,Instr.mapUpdate,Sem.run_bind,run_underlying hu,Result.andThen_ok,m5,MapKept.run_getObj_map m6,Sem.run_pure,MapKept.run_checkKey (n:=9999) hd hkey,MapKept.run_findKey hd f4,hget,Option.map_some,Option.getD_some,hkey',MapKept.run_keyThatStays hkey,MapKept.run_setObj_map _ m6]
     ·cases he
    ·cases he
   ·cases hc
  ·cases hc
 ·rename_i t x1 ho;split at hc
  ·rename_i hu;cases hc;simp only [nop,qbh] at he;split at he
   ·rename_i s hx;simp only [Option.some.injEq] at he;subst he;have ex:=qa7 (qat hr hx);obtain ⟨s1,s2⟩:=qwm (o:=.stringIter ⟨s.toArray⟩ 0) hr.sim id ⟨qaa M id,1,0,0,some w.heap.size⟩ (.siter (qaa M id) s 0) rfl rfl (fun M' hM'=>⟨_,w.heap.size,hM',rfl,rfl,rfl,(MapKept.heap_alloc w _).1⟩);exact qb0 (rv:=.pointer (some ⟨w.heap.size,0,none⟩)) (by simp [execOp,ho,Instr.range,run_underlying hu,Result.andThen,ex]) ⟨rfl,rfl⟩ (.own _ _ _ _ (qaw _ _ _) (jki _) rfl fun _=>⟨w.heap.size,rfl,rfl⟩) s1 s2 (fun b hb _=>qax _ _ _ _ hb)
   ·cases he
  ·rename_i kt et hu;cases hc;simp only [nop,qbh] at he;split at he
   ·rename_i b g hx;split at he
    ·rename_i g' es hb;obtain ⟨h1,h2⟩:=qae he;have hgg:g' = g:=by simpa using h1
     subst hgg;cases h2;have rx:=qat hr hx;obtain ⟨mb,rb,m1,m2,m3,m4,m5,entries,clock,m6,⟨m7,m8,-⟩,-⟩:=qia hr.sim rx hb;rw [m5] at rx;obtain ⟨s1,s2⟩:=qzm (o:=.mapIter (some rb) clock #[] clock) hr.sim id ⟨qaa M id,1,0,0,some w.heap.size⟩ (.miter (qaa M id) (.own b g') es.length []) rfl rfl ⟨_,w.heap.size,qaw _ _ _,rfl,rfl,rfl,rb,rx.mono G.le_refl (jip fun mb0 h0=>.inl (by simp [qaa,h0])),by rw [m8]; exact (MapKept.heap_alloc w _).1⟩;exact qb0 (rv:=.pointer (some ⟨w.heap.size,0,none⟩)) (by simp [execOp,ho,Instr.range,run_underlying hu,Result.andThen,m5,MapKept.run_getObj_map m6]) ⟨rfl,rfl⟩ (.own _ _ _ _ (qaw _ _ _) (jki _) rfl fun _=>⟨w.heap.size,rfl,rfl⟩) s1 s2 (fun b hb _=>qax _ _ _ _ hb)
    ·cases he
   ·cases he
  ·cases hc
 ·rename_i it ho;cases hc;simp only [nop,qbh] at he;split at he
  ·rename_i b g hx;split at he
   ·rename_i g' s pos hb;obtain ⟨h1,h2⟩:=qae he;have hgg:g' = g:=by simpa using h1
    subst hgg;obtain ⟨mb,rb,m1,m2,m3,m4,m5,m6⟩:=qy7 hr.sim (qat hr hx) hb;have hrb:rb < w.heap.size:=(Array.getElem?_eq_some_iff.1 m6).1
    have hfresh:∀ b',b' ≠ id->lk h b' = none->qaa (upd M b mb) b' = qaa M b':=fun b' _ h0=>by
     exact qax _ _ _ _ (fun e=>by subst e; rw [hb] at h0; cases h0)
    have hgetO:(getObj rb).run P w = .ok (.stringIter ⟨s.toArray⟩ pos) w:=by simp [getObj,Sem.run,m6]
    have hsz:(⟨s.toArray⟩:ByteArray).size = s.length:=by simp [ByteArray.size]
    cases hd:decide (pos < s.length) with
    | true=>
     have hlt:pos < s.length:=by simpa using hd
     rw [hd] at h2;simp only [cond_true,Option.some.injEq] at h2;subst h2;have hset:∀ o':Obj,(setObj rb o').run P w = .ok () { w with heap:=w.heap.setIfInBounds rb o' }:=fun o'=>by simp [setObj,Sem.run,m6]
     obtain ⟨s1,s2⟩:Sim G (upd M b mb) ((b,.siter g' s (pos + (Utf8.decode ⟨s.toArray⟩ pos).2)) :: h) { w with heap:=w.heap.setIfInBounds rb (.stringIter ⟨s.toArray⟩ (pos + (Utf8.decode ⟨s.toArray⟩ pos).2)) }/\Ext G M w G (upd M b mb) { w with heap:=w.heap.setIfInBounds rb (.stringIter ⟨s.toArray⟩ (pos + (Utf8.decode ⟨s.toArray⟩ pos).2)) }:=by
      refine hr.sim.change b mb _ (fun m' hm'=>.inr (by rw [m1] at hm'; cases hm'; rfl)) (fun r hr'=>.inr ⟨mb,m1,hr'⟩) (by simp) (fun q hq hne=>?_) (fun _ _ _ _=>trivial) rfl rfl rfl ?_
      ·exact (MapKept.heap_set m6).2 q (fun e=>hne (by rw [m3,e]))
      ·exact ⟨mb,rb,qaw _ _ _,m2,m3,m4,(MapKept.heap_set m6).1⟩
     refine qb0 (rv:=.tuple #[.bool true,.int .i64 pos,.int .i32 (Utf8.decode ⟨s.toArray⟩ pos).1]) ?_ ⟨rfl,rfl⟩ (.tup _ _ rfl fun i hi=>?_) s1 s2 hfresh
     ·simp only [execOp,ho,Instr.next,m5,Sem.run_bind,hgetO,Result.andThen_ok,hsz,if_pos hlt,hset,Sem.run_pure];rfl
     ·match i,hi with
      | 0,_=>exact .bool _
      | 1,_=>exact .int _ _
      | 2,_=>exact .int _ _
    | false=>
     have hlt:¬ pos < s.length:=by simpa using hd
     rw [hd] at h2;simp only [cond_false,Option.some.injEq] at h2;subst h2
     obtain ⟨s1,s2⟩:Sim G (upd M b mb) ((b,.siter g' s pos) :: h) w/\Ext G M w G (upd M b mb) w:=by
      refine hr.sim.change b mb _ (fun m' hm'=>.inr (by rw [m1] at hm'; cases hm'; rfl)) (fun r hr'=>.inr ⟨mb,m1,hr'⟩) (jki _) (fun q hq hne=>rfl) (fun _ _ _ _=>trivial) rfl rfl rfl ?_;exact ⟨mb,rb,qaw _ _ _,m2,m3,m4,m6⟩
     refine qb0 (rv:=.tuple #[.bool false]) ?_ ⟨rfl,rfl⟩ (.tup _ _ rfl fun i hi=>?_) s1 s2 hfresh
     ·simp only [execOp,ho,Instr.next,m5,Sem.run_bind,hgetO,Result.andThen_ok,hsz,if_neg hlt,Sem.run_pure]
     ·match i,hi with
      | 0,_=>exact .bool _
   ·cases he
  ·cases he
 ·cases hc; simp only [nop] at he; cases he
 ·cases hc; simp [NOp.pure] at hp
 ·rename_i c ho;split at hc
  ·split at hc
   ·cases hc; simp [NOp.pure] at hp
   ·cases hc
  ·split at hc
   ·cases hc; simp [NOp.pure] at hp
   ·cases hc
  ·rename_i x1 y1 hcal hargs;split at hc
   ·rename_i t t2 hat;split at hc
    ·rename_i e e2 hu hu2;split at hc
     ·rename_i ty hty;split at hc
      ·rename_i hn0;cases hc;simp only [nop,qmk] at he;split at he
       ·rename_i b g off len cap vy hx hy;split at he
        ·rename_i g' sz' es hb;obtain ⟨ys,hys,he1⟩:=qad he;obtain ⟨h1,he2⟩:=qae he1;cases he2;simp only [Bool.and_eq_true,decide_eq_true_eq] at h1;obtain ⟨⟨e1,e2⟩,hle⟩:=h1;subst e1 e2;exact qwq hr ho hcal hargs hat hu hu2 hty hn0 hx hy hb (qi7 hys rfl) hle
        ·cases he
       ·cases he
      ·cases hc
     ·cases hc
    ·cases hc
   ·cases hc
  ·split at hc
   ·split at hc
    ·cases hc; simp [NOp.pure] at hp
    ·cases hc
   ·cases hc
  ·cases hc
 ·cases hc; simp [NOp.pure] at hp
 ·split at hc
  ·cases hc; simp [NOp.pure] at hp
  ·cases hc
 ·cases hc
end
end
section
open Go
section
variable {P:Program} {gl:Fr} {bs:BS} {n:Nat} {fr:Fr} {h:Hp} {G:qaz} {M:qar} {a:Act} {w:World}
theorem qlq (hr:R bs n gl G M fr h a w) {o:Oper} {io:IOp} (hpure:qah io = true) (hc:qky P o = some io) {Q:Exit->Act->World->Prop} {K:V->Hp->Prop} {id:Nat} (hi:qa8 P gl id fr h K io):o.wp P a w (qan K G M w o a h) Q:=by
 unfold qky at hc;split at hc
 ·rename_i x ho; cases hc; exact qr4 hr (.inl ho) hi
 ·rename_i x ho; cases hc; exact qr4 hr (.inr ho) hi
 ·rename_i c x y ho; cases hc; exact qtn hr ho hi
 ·rename_i t x ho; cases hc; simp [qah] at hpure
 ·rename_i t ho
  cases hz:qb6 P t with
  | none=>rw [hz] at hc; cases hc
  | some z=>rw [hz] at hc; cases hc; simp [qah] at hpure
 ·rename_i t ps ho;split at hc
  ·rename_i z fields hz hu;split at hc
   ·rename_i hf
    cases hl:qb8 (qg0 P fields) ps.toList with
    | none=>rw [hl] at hc; cases hc
    | some l=>rw [hl] at hc; cases hc; exact qo4 hr ho hu hf hz hl hi
   ·cases hc
  ·rename_i z len e hz hu;split at hc
   ·rename_i ag m by_ ht
    cases hl:qb8 (fun i=>some (i * m,m)) ps.toList with
    | none=>rw [hl] at hc; cases hc
    | some l=>rw [hl] at hc; cases hc; exact qo3 (ty:=(ag,m,by_)) hr ho hu ht hz hl hi
   ·cases hc
  ·cases hc
 ·rename_i t len ps ho;split at hc
  ·rename_i e hu;split at hc
   ·rename_i ag m by_ z ht hz;split at hc
    ·rename_i hcond
     cases hl:qb8 (fun i=>some (i * m,m)) ps.toList with
     | none=>rw [hl] at hc; cases hc
     | some l=>rw [hl] at hc; cases hc; simp [qah] at hpure
    ·cases hc
   ·cases hc
  ·cases hc
 ·rename_i t x ho
  cases ht:qcg P t with
  | none=>rw [ht] at hc; cases hc
  | some ty=>rw [ht] at hc; cases hc; exact qtl hr ho ht hi
 ·rename_i t x y ho
  cases ht:qcg P t with
  | none=>rw [ht] at hc; cases hc
  | some ty=>rw [ht] at hc; cases hc; simp [qah] at hpure
 ·rename_i op t x y yt ho;split at hc
  ·split at hc
   ·cases hc; exact qf3 hr ho hi
   ·cases hc; exact qf3 hr ho hi
   ·rename_i hu; cases hc; exact qo2 (neg:=false) hr ho rfl hu hi
   ·cases hp:qbx P t with
    | none=>rw [hp] at hc; cases hc
    | some m=>rw [hp] at hc; cases hc; exact qo5 (neg:=false) hr ho rfl hp hi
  ·split at hc
   ·cases hc; exact qf3 hr ho hi
   ·cases hc; exact qf3 hr ho hi
   ·rename_i hu; cases hc; exact qo2 (neg:=true) hr ho rfl hu hi
   ·cases hp:qbx P t with
    | none=>rw [hp] at hc; cases hc
    | some m=>rw [hp] at hc; cases hc; exact qo5 (neg:=true) hr ho rfl hp hi
  ·cases hc; exact qf3 hr ho hi
 ·rename_i op t x ho; cases hc; exact qzn hr ho hi
 ·rename_i s d x ho;split at hc
  ·rename_i ks k h1 h2; cases hc; exact qtf hr ho h1 h2 hi
  ·rename_i h1 h2; cases hc; exact qwr hr ho h1 h2 hi
  ·rename_i e h1 h2;split at hc
   ·rename_i h3; cases hc; exact qwo hr ho h1 h2 h3 hi
   ·cases hc
  ·cases hc
 ·rename_i f x y ho; cases hc; exact qtm hr ho hi
 ·rename_i t l c ho;split at hc
  ·rename_i e hu;split at hc
   ·rename_i ag m by_ z ht hz;split at hc
    ·rename_i hm; cases hc; simp [qah] at hpure
    ·cases hc
   ·cases hc
  ·cases hc
 ·rename_i t x lo hi' mx ho;split at hc
  ·rename_i e hu;split at hc
   ·rename_i ag m by_ ht;split at hc
    ·rename_i hm; cases hc; exact qqq (ty:=(ag,m,by_)) hr ho hu ht hm.2 hi
    ·cases hc
   ·cases hc
  ·rename_i hu;split at hc
   ·cases hc; exact qo7 hr ho hu hi
   ·cases hc
  ·cases hc
 ·rename_i s x i ho;split at hc
  ·rename_i fields hu;split at hc
   ·rename_i f hf;split at hc
    ·rename_i ag m by_ ht;split at hc
     ·cases hc
     ·rename_i hm; cases hc; exact qo6 (ty:=(ag,m,by_)) hr ho hu hf ht hm hi
    ·cases hc
   ·cases hc
  ·cases hc
 ·rename_i s x i ho;split at hc
  ·rename_i fields hu;split at hc
   ·rename_i f hf;split at hc
    ·rename_i ag m by_ ht;cases hc; exact qqp (ty:=(ag,m,by_)) hr ho hu hf ht hi
    ·cases hc
   ·cases hc
  ·cases hc
 ·rename_i t x y ho;split at hc
  ·rename_i e hu;split at hc
   ·rename_i ag m by_ ht;split at hc
    ·cases hc; exact qtg (ty:=(ag,m,by_)) hr ho hu ht hi
    ·cases hc
   ·cases hc
  ·rename_i len e hu;split at hc
   ·rename_i ag m by_ ht; cases hc; exact qth (ty:=(ag,m,by_)) hr ho hu ht hi
   ·cases hc
  ·cases hc
 ·rename_i t x y ho;split at hc
  ·rename_i len e hu;split at hc
   ·rename_i ag m by_ ht; cases hc; exact qtj (ty:=(ag,m,by_)) hr ho hu ht hi
   ·cases hc
  ·rename_i hu; cases hc; exact qti hr ho hu hi
  ·cases hc
 ·rename_i x i ho; cases hc; exact qm8 hr ho hi
 ·rename_i c ho;split at hc
  ·rename_i f hcal; cases hc; simp [qah] at hpure
  ·rename_i hcal;split at hc
   ·rename_i t x hat ha;split at hc
    ·rename_i e hu; cases hc; exact qws hr ho hcal ha hat hu hi
    ·rename_i hu; cases hc; exact qtk hr ho hcal ha hat hu hi
    ·rename_i m e hu; cases hc; exact ql4 hr ho hcal ha hat (.inl ⟨e,hu⟩) hi
    ·rename_i u hu;split at hc
     ·rename_i m e hu2; cases hc; exact ql4 hr ho hcal ha hat (.inr ⟨u,e,hu,hu2⟩) hi
     ·cases hc
    ·cases hc
   ·cases hc
  ·rename_i hcal;split at hc
   ·rename_i t x hat ha;split at hc
    ·rename_i e hu; cases hc; exact qwp hr ho hcal ha hat hu hi
    ·cases hc
   ·cases hc
  ·rename_i hcal;split at hc
   ·rename_i t t2 x y hat ha;split at hc
    ·rename_i e e2 hu hu2;split at hc
     ·rename_i ag m by_ z ht hz;split at hc
      ·rename_i hm; cases hc; simp [qah] at hpure
      ·cases hc
     ·cases hc
    ·cases hc
   ·cases hc
  ·rename_i hcal;split at hc
   ·rename_i x y ha; cases hc; exact qr3 (mx:=true) hr ho hcal ha hi
   ·cases hc
  ·rename_i hcal;split at hc
   ·rename_i x y ha; cases hc; exact qr3 (mx:=false) hr ho hcal ha hi
   ·cases hc
  ·cases hc
 ·cases hc
theorem qnu {o:Oper} {io:IOp} (hc:qky P o = some io) (hnp:qah io = false) :
  (∃ t y,o.op = .box t y/\io = .box (co y))∨(∃ t z,o.op = .alloc t/\qb6 P t = some z/\io = .alloc (qfh z))∨
  (∃ t e len ps l z ty,o.op = .buildSlice t len ps/\P.underlying t = some (.slice e)/\qcg P e = some ty/\qb6 P e = some z/\len * ty.2.1≤4096/\ty.2.1 ≠ 0/\qb8 (fun i=>some (i * ty.2.1,ty.2.1)) ps.toList = some l/\
   io = .buildSl ty.2.1 len ((List.range (len * ty.2.1)).map fun i=>(qfh z).cells.getD (i % ty.2.1) .undef) l)∨
  (∃ t e x y z ty,o.op = .makeSlice t x y/\P.underlying t = some (.slice e)/\qcg P e = some ty/\qb6 P e = some z/\ty.2.1 ≠ 0/\io = .mksl (qfh z).cells ty.2.1 ty.2.2 (co x) (co y))∨
  (∃ c f,o.op = .call c/\c.callee = .value f/\io = .call (co f) (c.args.toList.map co))∨(∃ t x y ty,o.op = .store t x y/\qcg P t = some ty/\io = .store ty.2.1 (co x) (co y))∨∃ c t t2 e e2 x y z ty,o.op = .call c/\c.callee = .builtin .append/\c.args.toList = [x,y]/\c.argTypes.toList = [t,t2]/\P.underlying t = some (.slice e)/\P.underlying t2 = some (.slice e2)/\qcg P e = some ty/\qb6 P e = some z/\ty.2.1 ≠ 0/\io = .app ty.2.1 ty.2.2 (qfh z).cells (co x) (co y):=by
 unfold qky at hc;split at hc
 ·cases hc; simp [qah] at hnp
 ·cases hc; simp [qah] at hnp
 ·cases hc; simp [qah] at hnp
 ·rename_i t x ho; cases hc; exact .inl ⟨t,x,ho,rfl⟩
 ·rename_i t ho
  cases hz:qb6 P t with
  | none=>rw [hz] at hc; cases hc
  | some z=>rw [hz] at hc; cases hc; exact .inr (.inl ⟨t,z,ho,hz,rfl⟩)
 ·rename_i t ps ho;split at hc
  ·split at hc
   ·rename_i z fields hz hu hf
    cases hl:qb8 (qg0 P fields) ps.toList with
    | none=>rw [hl] at hc; cases hc
    | some l=>rw [hl] at hc; cases hc; simp [qah] at hnp
   ·cases hc
  ·split at hc
   ·rename_i z len e hz hu _ ag m by_ ht
    cases hl:qb8 (fun i=>some (i * m,m)) ps.toList with
    | none=>rw [hl] at hc; cases hc
    | some l=>rw [hl] at hc; cases hc; simp [qah] at hnp
   ·cases hc
  ·cases hc
 ·rename_i t len ps ho;split at hc
  ·rename_i e hu;split at hc
   ·rename_i ag m by_ z ht hz;split at hc
    ·rename_i hcond
     cases hl:qb8 (fun i=>some (i * m,m)) ps.toList with
     | none=>rw [hl] at hc; cases hc
     | some l=>rw [hl] at hc; cases hc; exact .inr (.inr (.inl ⟨t,e,len,ps,l,z,(ag,m,by_),ho,hu,ht,hz,hcond.1,hcond.2,hl,rfl⟩))
    ·cases hc
   ·cases hc
  ·cases hc
 ·rename_i t x ho
  cases ht:qcg P t with
  | none=>rw [ht] at hc; cases hc
  | some ty=>rw [ht] at hc; cases hc; simp [qah] at hnp
 ·rename_i t x y ho
  cases ht:qcg P t with
  | none=>rw [ht] at hc; cases hc
  | some ty=>rw [ht] at hc; cases hc; exact .inr (.inr (.inr (.inr (.inr (.inl ⟨t,x,y,ty,ho,ht,rfl⟩)))))
 ·rename_i op t x y yt ho;split at hc
  ·split at hc
   ·cases hc; simp [qah] at hnp
   ·cases hc; simp [qah] at hnp
   ·cases hc; simp [qah] at hnp
   ·cases hp:qbx P t with
    | none=>rw [hp] at hc; cases hc
    | some m=>rw [hp] at hc; cases hc; simp [qah] at hnp
  ·split at hc
   ·cases hc; simp [qah] at hnp
   ·cases hc; simp [qah] at hnp
   ·cases hc; simp [qah] at hnp
   ·cases hp:qbx P t with
    | none=>rw [hp] at hc; cases hc
    | some m=>rw [hp] at hc; cases hc; simp [qah] at hnp
  ·cases hc; simp [qah] at hnp
 ·cases hc; simp [qah] at hnp
 ·split at hc
  ·cases hc; simp [qah] at hnp
  ·cases hc; simp [qah] at hnp
  ·split at hc
   ·cases hc; simp [qah] at hnp
   ·cases hc
  ·cases hc
 ·cases hc; simp [qah] at hnp
 ·rename_i t x y ho;split at hc
  ·rename_i e hu;split at hc
   ·rename_i ag m by_ z ht hz;split at hc
    ·rename_i hm; cases hc; exact .inr (.inr (.inr (.inl ⟨t,e,x,y,z,(ag,m,by_),ho,hu,ht,hz,hm,rfl⟩)))
    ·cases hc
   ·cases hc
  ·cases hc
 ·split at hc
  ·split at hc
   ·split at hc
    ·cases hc; simp [qah] at hnp
    ·cases hc
   ·cases hc
  ·split at hc
   ·cases hc; simp [qah] at hnp
   ·cases hc
  ·cases hc
 ·split at hc
  ·split at hc
   ·split at hc
    ·split at hc
     ·cases hc
     ·cases hc; simp [qah] at hnp
    ·cases hc
   ·cases hc
  ·cases hc
 ·split at hc
  ·split at hc
   ·split at hc
    ·cases hc; simp [qah] at hnp
    ·cases hc
   ·cases hc
  ·cases hc
 ·split at hc
  ·split at hc
   ·split at hc
    ·cases hc; simp [qah] at hnp
    ·cases hc
   ·cases hc
  ·split at hc
   ·cases hc; simp [qah] at hnp
   ·cases hc
  ·cases hc
 ·split at hc
  ·split at hc
   ·cases hc; simp [qah] at hnp
   ·cases hc
  ·cases hc; simp [qah] at hnp
  ·cases hc
 ·cases hc; simp [qah] at hnp
 ·rename_i c ho;split at hc
  ·rename_i f hcal; cases hc; exact .inr (.inr (.inr (.inr (.inl ⟨c,f,ho,hcal,rfl⟩))))
  ·split at hc
   ·split at hc
    ·cases hc; simp [qah] at hnp
    ·cases hc; simp [qah] at hnp
    ·cases hc; simp [qah] at hnp
    ·split at hc
     ·cases hc; simp [qah] at hnp
     ·cases hc
    ·cases hc
   ·cases hc
  ·split at hc
   ·split at hc
    ·cases hc; simp [qah] at hnp
    ·cases hc
   ·cases hc
  ·rename_i hcal;split at hc
   ·rename_i t t2 x y hat ha;split at hc
    ·rename_i e e2 hu hu2;split at hc
     ·rename_i ag m by_ z ht hz;split at hc
      ·rename_i hm; cases hc; exact .inr (.inr (.inr (.inr (.inr (.inr ⟨c,t,t2,e,e2,x,y,z,(ag,m,by_),ho,hcal,ha,hat,hu,hu2,ht,hz,hm,rfl⟩)))))
      ·cases hc
     ·cases hc
    ·cases hc
   ·cases hc
  ·split at hc
   ·cases hc; simp [qah] at hnp
   ·cases hc
  ·split at hc
   ·cases hc; simp [qah] at hnp
   ·cases hc
  ·cases hc
 ·cases hc
theorem qsk {o:Oper} (x:NOp):qky P o ≠ some (.n x):=by
 intro h;unfold qky at h
 repeat' (first | (cases h; done) | (simp at h; done) | split at h | (simp only [Option.map_eq_some_iff] at h; obtain ⟨_,_,h⟩:=h))
theorem qgh (hr:R bs n gl G M fr h a w) {o:Oper} {io:IOp} (hc:qg9 P o = some io) (hp:qah io = true) {gf:Nat->Nat} {id:Nat} {y:Y} (he:eop gl gf id (lk fr) (lk h) io = some y) {Q:Exit->Act->World->Prop} :
  y.2.1 = []/\o.wp P a w (qan (fun v _=>v = y.1) G M w o a h) Q:=by
 rcases qdn hc with ⟨x,rfl,hn⟩ | h1
 ·exact qy1 hr hn (by simpa [qah] using hp) (by simpa [eop] using he)
 ·by_cases hne:∃ x,io = .n x
  ·obtain ⟨x,rfl⟩:=hne;exact absurd h1 (qsk _)
  ·obtain ⟨q1,q2⟩:=qum (id':=id) (fun x hx=>hne ⟨x,hx⟩) hp he;exact ⟨q1,qlq hr hp h1 q2⟩
def qxa (gl:Fr) (F:FF):Option qal->Bool
 | none=>true
 | some y=>match evF gl F y with
  | some (.int _ i)=>decide (i = 0)
  | _=>false
def jah (gl:Fr) (F:FF):IOp->Bool
 | .slice _ x lo hi mx=>(match evF gl F x with | some .nil=>true | _=>false) && (qxa gl F lo && (qxa gl F hi && qxa gl F mx))
 | _=>false
theorem qq0 {b:Option qal} (hb:qxa gl (lk fr) b = true):qw9 gl fr b:=by
 cases b with
 | none=>trivial
 | some y=>
  simp only [qxa,qbh] at hb;split at hb
  ·rename_i k i hy;obtain rfl:=jkb hb;exact ⟨k,hy⟩
  ·cases hb
theorem qs1 (hr:R bs n gl G M fr h a w) {o:Oper} {io:IOp} (hc:qg9 P o = some io) (hn:jah gl (lk fr) io = true) {Q:Exit->Act->World->Prop} :
  o.wp P a w (qan (fun v _=>v = .nil) G M w o a h) Q:=by
 rcases qdn hc with ⟨x,rfl,-⟩ | h1
 ·cases hn
 ·cases io <;> try (cases hn; done)
  rename_i sz x lo hi mx;simp only [jah,qbh,Bool.and_eq_true] at hn;obtain ⟨n1,n2,n3,n4⟩:=hn;refine qlq (id:=0) hr rfl h1 ?_;simp only [qa8];refine .inl ⟨?_,qq0 n2,qq0 n3,qq0 n4,trivial⟩;split at n1
  ·assumption
  ·cases n1
theorem qhb (hr:R bs n gl G M fr h a w) {o:Oper} {io:IOp} (hcx:qg9 P o = some io) {id:Nat} {y:Y} (he:eop gl (qaa M) id (lk fr) (lk h) io = some y) {Q:Exit->Act->World->Prop} :
  o.wp P a w (qfn h id (fun v h'=>v = y.1/\h' = y.2.1 ++ h) G M w o a) Q:=by
 cases hp:qah io with
 | true=>
  obtain ⟨h1,h2⟩:=qgh (Q:=Q) hr hcx hp he;refine Oper.wp_mono ?_ h2;rintro a' w' ⟨v,rv,e1,e2,e3,rfl⟩;exact ⟨v,h,rv,G,M,⟨e1,by rw [h1]; rfl⟩,e2,e3,hr.sim,.refl _ _ _,fun _ _ _=>rfl⟩
 | false=>
  rcases qdn hcx with ⟨x,rfl,hn⟩ | hc
  ·exact qy0 hr hn (by simpa [qah] using hp) (by simpa [eop] using he)
  rcases qnu hc hp with ⟨t,x,ho,rfl⟩ | ⟨t,z,ho,hz,rfl⟩ | ⟨t,e,len,ps,l,z,ty,ho,hu,ht,hz,hn,hn0,hl,rfl⟩ | ⟨t,e,x,y',z,ty,ho,hu,ht,hz,hn0,rfl⟩ | ⟨c,f,ho,hcal,rfl⟩ | ⟨t,x,y',ty,ho,ht,rfl⟩ | ⟨c,t,t2,e,e2,x,y',z,ty,ho,hcal,ha,hat,hu,hu2,ht,hz,hn0,rfl⟩
  ·simp only [eop,qbh] at he;obtain ⟨v,hv,he⟩:=qad he;obtain ⟨h1,he⟩:=qae he;cases he;exact jbd hr (jhr hr ho hv h1) ⟨rfl,rfl⟩
  ·simp only [eop] at he;obtain ⟨h1,he⟩:=qae he;cases he;exact jbd hr (q28 hr ho hz h1) ⟨rfl,rfl⟩
  ·simp only [eop,qmn] at he;obtain ⟨vs,hvs,he⟩:=qad he;obtain ⟨cs,hcs,he⟩:=qad he;cases he;obtain ⟨cs',hk,hq⟩:=qv6 hr ho hu ht hz hn hn0 hl (id:=id) hvs (qps (K:=fun x=>x = cs) hcs rfl);subst hk;exact jbd hr (hq Q) ⟨rfl,rfl⟩
  ·simp only [eop,qbh] at he;split at he
   ·rename_i k p k' q hx hy;obtain ⟨h1,he⟩:=qae he;cases he;simp only [Bool.and_eq_true,decide_eq_true_eq] at h1;exact jbd hr (q83 hr ho hu ht hz hn0 hx hy h1.1.1.1.1.1 h1.1.1.1.1.2 h1.1.1.1.2 h1.1.1.2 h1.1.2 Q) ⟨rfl,rfl⟩
   ·cases he
  ·simp [eop] at he
  ·refine qqr hr ho ht (id:=id) ?_;simp only [eop,qbh] at he;simp only [qa8];split at he
   ·simp only [*];split at he
    ·rename_i hb;obtain ⟨h1,he⟩:=qae he;cases he;simp only [Bool.and_eq_true,decide_eq_true_eq] at h1;simp only [hb];exact ⟨h1.1.1,h1.1.2,V.putOkB_iff.1 h1.2,by simp⟩
    ·cases he
   ·cases he
  ·refine qte hr ho hcal ha hat hu hu2 ht hz hn0 (id:=id) ?_;simp only [eop,qmk] at he;unfold jbr;split at he
   ·simp only [*];obtain ⟨ys,hys,he⟩:=qad he;obtain ⟨h1,he⟩:=qae he;simp only [Bool.and_eq_true,decide_eq_true_eq] at h1;refine qi7 hys ⟨fun x hx=>?_,h1.1.1.1.2,h1.1.1.2,h1.1.2,h1.2,fun hn=>?_,fun hn=>?_⟩
    ·have:=List.all_eq_true.1 h1.1.1.1.1 x hx;simpa using this
    ·rw [hn] at he;cases he;exact ⟨rfl,rfl⟩
    ·split at he
     ·rename_i hn'; exact absurd hn' hn
     ·cases he; exact ⟨rfl,rfl⟩
   ·simp only [*];split at he
    ·rename_i hb;obtain ⟨ys,hys,he⟩:=qad he;obtain ⟨h1,he⟩:=qae he;cases he;simp only [Bool.and_eq_true,decide_eq_true_eq] at h1;simp only [hb];exact qi7 hys ⟨h1.1.1.1.1.1,h1.1.1.1.1.2,h1.1.1.1.2,h1.1.1.2,h1.1.2,h1.2,rfl,rfl⟩
    ·cases he
   ·cases he
end
def qal.slots:qal->List Nat
 | .t n=>[n]
 | _=>[]
def osl:Option qal->List Nat
 | none=>[]
 | some x=>x.slots
def NOp.slots:NOp->List Nat
 | .bad | .mkmap=>[]
 | .isnil _ x | .ifnil _ x | .mlen x | .gsl _ x | .i2s x | .srange x | .snext x | .nchk x | .mrange x | .mnext x | .mentry x=>x.slots
 | .lookup _ _ _ m k | .idxByte m k | .cpy _ m k | .appc _ _ _ m k | .appz _ _ _ m k=>m.slots ++ k.slots
 | .add64 a b c=>a.slots ++ (b.slots ++ c.slots)
 | .mapup _ m k v=>m.slots ++ k.slots ++ v.slots
def IOp.slots:IOp->List Nat
 | .n x=>x.slots
 | .mv x | .box x | .load _ _ x | .un _ x | .conv _ x | .fieldA _ x | .field _ _ _ x | .len x | .lenS x | .cap x | .extract x _ | .b2s x | .cvs x=>x.slots
 | .pick c a b=>c.slots ++ a.slots ++ b.slots
 | .alloc _ | .lenK _=>[]
 | .build _ ps | .buildSl _ _ _ ps=>ps.flatMap fun p=>p.2.2.slots
 | .store _ a x | .bin _ a x | .eqs _ _ a x | .beq _ a x | .idxA _ a x | .idxP _ _ a x | .idxV _ _ _ a x | .idxS a x | .app _ _ _ a x | .copy _ a x | .mm _ a x | .mksl _ _ _ a x=>a.slots ++ x.slots
 | .mkfn _ a b=>(a.flatMap qal.slots) ++ (b.flatMap qal.slots)
 | .slice _ x lo hi mx=>x.slots ++ osl lo ++ osl hi ++ osl mx
 | .sliceS x lo hi=>x.slots ++ osl lo ++ osl hi
 | .call f as=>f.slots ++ as.flatMap qal.slots
section
variable {gl:Fr} {F F':FF} {H H':HH} {gf gf':Nat->Nat} {id:Nat}
theorem qag {x:qal} (hx:∀ t ∈ x.slots,F' t = F t):evF gl F' x = evF gl F x:=by
 cases x <;> first | rfl | exact hx _ (by simp [qal.slots])
theorem qbu {x:qal} (hx:∀ t ∈ x.slots,F' t = F t):qnz gl F' x = qnz gl F x:=by unfold qnz; rw [qag hx]
theorem qes:∀ {l:List qal},(∀ t ∈ l.flatMap qal.slots,F' t = F t)->qtu gl F' l = qtu gl F l
 | [],_=>rfl
 | x :: r,hx=>by
  simp only [qtu];rw [qag (fun t ht=>hx t (by simp [ht])),qes (fun t ht=>hx t (by simp only [List.flatMap_cons,List.mem_append]; exact .inr ht))]
theorem qgx:∀ {l:List (Nat × Nat × qal)},(∀ t ∈ l.flatMap (fun p=>p.2.2.slots),F' t = F t)->qmm gl F' l = qmm gl F l
 | [],_=>rfl
 | (o,s,x) :: r,hx=>by
  simp only [qmm];rw [qag (fun t ht=>hx t (by simp [ht])),qgx (fun t ht=>hx t (by simp only [List.flatMap_cons,List.mem_append]; exact .inr ht))]
theorem qd3 {d:Nat} {x:Option qal} (hx:∀ t ∈ osl x,F' t = F t):qem gl F' d x = qem gl F d x:=by
 cases x with
 | none=>rfl
 | some y=>simp only [qem]; rw [qag (fun t ht=>hx t ht)]
theorem qmc {x:Option qal} (hx:∀ t ∈ osl x,F' t = F t):qe3 gl F' x = qe3 gl F x:=by
 cases x with
 | none=>rfl
 | some y=>simp only [qe3]; rw [qag (fun t ht=>hx t ht)]
theorem qda {sz:Nat} {v:V} {r:List V × List Nat} (he:qfs H sz v = some r) (hH:∀ b ∈ r.2,H' b = H b):qfs H' sz v = some r:=by
 unfold qfs at he ⊢;split at he
 ·exact he
 ·rename_i b g off len cap
  cases hb:H b with
  | none=>rw [hb] at he; cases he
  | some k=>
   rw [hb] at he
   cases k with
   | row g' sz' es=>
    obtain ⟨h1,h2⟩:=qae he;cases h2;have hbb:H' b = H b:=hH b (by simp);rw [hbb,hb];simp only [h1,gd]
   | map g' es=>cases he
   | siter g' s pos=>cases he
   | loop=>cases he
   | miter=>cases he
   | dead=>cases he
 ·cases he
theorem qvr {x:NOp} (hF:∀ t ∈ x.slots,F' t = F t):nop gl gf id F' H x = nop gl gf id F H x:=by
 cases x <;> simp only [NOp.slots,List.mem_append] at hF <;> simp only [nop]
 case isnil neg x=>rw [qag hF]
 case lookup kd ok z m k=>rw [qag (fun t ht=>hF t (.inl ht)),qag (fun t ht=>hF t (.inr ht))]
 case mapup kd m k v=>rw [qag (fun t ht=>hF t (.inl (.inl ht))),qag (fun t ht=>hF t (.inl (.inr ht))),qag (fun t ht=>hF t (.inr ht))]
 case srange x=>rw [qag hF]
 case nchk x=>rw [qag hF]
 case ifnil neg x=>rw [qag hF]
 case mlen x=>rw [qag hF]
 case i2s x=>rw [qag hF]
 case mrange x=>rw [qag hF]
 case mentry x=>rw [qag hF]
 case snext x=>rw [qag hF]
 case idxByte s c=>rw [qag (fun t ht=>hF t (.inl ht)),qag (fun t ht=>hF t (.inr ht))]
 case add64 x y z=>rw [qag (fun t ht=>hF t (.inl ht)),qag (fun t ht=>hF t (.inr (.inl ht))),qag (fun t ht=>hF t (.inr (.inr ht)))]
 case cpy sz x y=>rw [qbu (fun t ht=>hF t (.inl ht)),qbu (fun t ht=>hF t (.inr ht))]
 case gsl n x=>rw [qag hF]
 case appz sz b z x y=>rw [qbu (fun t ht=>hF t (.inl ht)),qag (fun t ht=>hF t (.inr ht))]
 case appc sz b z x y=>rw [qbu (fun t ht=>hF t (.inl ht)),qbu (fun t ht=>hF t (.inr ht))]
theorem qvs {x:NOp} {y:Y} (he:nop gl gf id F H x = some y) (hH:∀ b ∈ y.2.2,H' b = H b) (hg:gf' id = gf id) (hgr:∀ b ∈ y.2.2,∀ k,H b = some k->gf' b = gf b):nop gl gf' id F H' x = some y:=by
 cases x <;> simp only [nop] at he ⊢
 case bad=>exact he
 case isnil neg x=>
  split at he
  ·exact he
  ·exact he
  ·split at he
   ·rename_i hb;obtain ⟨h1,h2⟩:=qae he;cases h2;rw [hH _ (by simp),hb];simp only [h1,gd]
   ·cases he
  ·cases he
 case mkmap=>rw [hg]; exact he
 case lookup kd ok z m k=>
  split at he
  ·split at he
   ·rename_i hb;have he0:=he;obtain ⟨h1,h2⟩:=qae he;split at h2
    ·cases h2; rw [hH _ (by simp),hb]; exact he0
    ·cases h2; rw [hH _ (by simp),hb]; exact he0
    ·cases h2
   ·cases he
  ·exact he
  ·cases he
 case mapup kd m k v=>
  split at he
  ·split at he
   ·rename_i hb;have he0:=he;obtain ⟨h1,h2⟩:=qae he;split at h2
    ·cases h2; rw [hH _ (by simp),hb]; exact he0
    ·cases h2; rw [hH _ (by simp),hb]; exact he0
    ·cases h2
   ·cases he
  ·cases he
 case srange x=>rw [hg]; exact he
 case snext x=>
  split at he
  ·split at he
   ·rename_i b g _ _ g' s pos hb;have he0:=he;obtain ⟨h1,h2⟩:=qae he
    have hin:y.2.2 = [b]:=by
     cases hd:decide (pos < s.length) with
     | true=>rw [hd] at h2; simp only [cond_true] at h2; cases h2; rfl
     | false=>rw [hd] at h2; simp only [cond_false] at h2; cases h2; rfl
    rw [hH _ (by rw [hin]; simp),hb]; exact he0
   ·cases he
  ·cases he
 case idxByte s c=>exact he
 case add64 x y z=>exact he
 case nchk x=>exact he
 case ifnil neg x=>exact he
 case mlen x=>
  split at he
  ·split at he
   ·rename_i hb;have he0:=he;obtain ⟨h1,h2⟩:=qae he;cases h2;rw [hH _ (by simp),hb]; exact he0
   ·cases he
  ·exact he
  ·cases he
 case i2s x=>exact he
 case mnext x=>exact he
 case mrange x=>
  split at he
  ·split at he
   ·rename_i hb;have he0:=he;obtain ⟨h1,h2⟩:=qae he;cases h2;rw [hH _ (by simp),hb,hg]; exact he0
   ·cases he
  ·cases he
 case mentry x=>
  split at he
  ·split at he
   ·rename_i hb;split at he
    ·rename_i hb2;split at he
     ·rename_i hi;have he0:=he;obtain ⟨h1,h2⟩:=qae he;cases h2;rw [hH _ (by simp),hb];simp only [];rw [hH _ (by simp),hb2];simp only [hi]; exact he0
     ·cases he
    ·cases he
   ·cases he
  ·cases he
 case cpy sz x vy=>
  split at he
  ·rename_i b g off len cap v hx hz
   try simp only [hx,hz]
   split at he
   ·rename_i g' sz' es hb;have st0:=he;obtain ⟨ys,hys,he⟩:=qad he;obtain ⟨h1,he⟩:=qae he;cases he;rw [hH b (by simp),hb];simp only [];rw [qda hys (fun b hb=>hH b (by simp [hb]))];rw [hys] at st0;exact st0
   ·cases he
  ·cases he
 case gsl n x=>exact he
 case appz sz b z x y=>rw [hg]; exact he
 case appc sz bytes z x vy=>
  split at he
  ·rename_i b g off len cp v hx hz
   try simp only [hx,hz]
   split at he
   ·rename_i g' sz' es hb;have st0:=he;obtain ⟨ys,hys,he⟩:=qad he;obtain ⟨h1,he⟩:=qae he
    have hin:b ∈ y.2.2/\∀ q ∈ ys.2,q ∈ y.2.2:=by
     split at he <;> cases he <;> exact ⟨by simp,fun q hq=>by simp [hq]⟩
    rw [hH b hin.1,hb,hg];simp only [];rw [qda hys (fun q hq=>hH q (hin.2 q hq))];rw [hys] at st0;exact st0
   ·cases he
  ·cases he
theorem qer {io:IOp} (hF:∀ t ∈ io.slots,F' t = F t) {y:Y} (he:eop gl gf id F H io = some y) (hH:∀ b ∈ y.2.2,H' b = H b) (hg:gf' id = gf id) (hgr:∀ b ∈ y.2.2,∀ k,H b = some k->gf' b = gf b):eop gl gf' id F' H' io = some y:=by
 have stable:eop gl gf id F' H io = some y:=by
  rw [<- he];cases io <;> simp only [IOp.slots,List.mem_append] at hF <;> simp only [eop]
  case mv x=>rw [qag hF]
  case pick c x y=>rw [qag (fun t ht=>hF t (.inl (.inl ht))),qag (fun t ht=>hF t (.inl (.inr ht))),qag (fun t ht=>hF t (.inr ht))]
  case box x=>rw [qag hF]
  case build z ps=>rw [qgx hF]
  case buildSl sz len z ps=>rw [qgx hF]
  case load ag m x=>rw [qag hF]
  case store m x y=>rw [qag (fun t ht=>hF t (.inl ht)),qag (fun t ht=>hF t (.inr ht))]
  case bin op x y=>rw [qag (fun t ht=>hF t (.inl ht)),qag (fun t ht=>hF t (.inr ht))]
  case eqs neg m x y=>rw [qag (fun t ht=>hF t (.inl ht)),qag (fun t ht=>hF t (.inr ht))]
  case beq neg x y=>rw [qag (fun t ht=>hF t (.inl ht)),qag (fun t ht=>hF t (.inr ht))]
  case un op x=>rw [qag hF]
  case conv k x=>rw [qag hF]
  case mkfn f x y=>rw [qes (fun t ht=>hF t (.inl ht)),qes (fun t ht=>hF t (.inr ht))]
  case mksl z sz b x y=>rw [qag (fun t ht=>hF t (.inl ht)),qag (fun t ht=>hF t (.inr ht))]
  case slice sz x lo hi mx=>
   rw [qbu (fun t ht=>hF t (.inl (.inl (.inl ht)))),qd3 (fun t ht=>hF t (.inl (.inl (.inr ht)))),qmc (fun t ht=>hF t (.inr ht))];simp only [qd3 (x:=hi) (fun t ht=>hF t (.inl (.inr ht)))]
  case sliceS x lo hi=>
   rw [qag (fun t ht=>hF t (.inl (.inl ht))),qd3 (fun t ht=>hF t (.inl (.inr ht)))];simp only [qd3 (x:=hi) (fun t ht=>hF t (.inr ht))]
  case fieldA off x=>rw [qag hF]
  case field ag off m x=>rw [qag hF]
  case idxA sz x y=>rw [qag (fun t ht=>hF t (.inl ht)),qag (fun t ht=>hF t (.inr ht))]
  case idxP len sz x y=>rw [qag (fun t ht=>hF t (.inl ht)),qag (fun t ht=>hF t (.inr ht))]
  case idxV ag len sz x y=>rw [qag (fun t ht=>hF t (.inl ht)),qag (fun t ht=>hF t (.inr ht))]
  case idxS x y=>rw [qag (fun t ht=>hF t (.inl ht)),qag (fun t ht=>hF t (.inr ht))]
  case len x=>rw [qbu hF]
  case lenS x=>rw [qag hF]
  case cap x=>rw [qbu hF]
  case app sz b z x y=>rw [qbu (fun t ht=>hF t (.inl ht)),qbu (fun t ht=>hF t (.inr ht))]
  case mm mx x y=>rw [qag (fun t ht=>hF t (.inl ht)),qag (fun t ht=>hF t (.inr ht))]
  case extract x i=>rw [qag hF]
  case cvs x=>rw [qag hF]
  case b2s x=>rw [qbu hF]
  case n x=>exact qvr (by simpa [IOp.slots] using hF)
 clear he hF;have hrow:∀ {b:Nat} {k:Blk},b ∈ y.2.2->H b = some k->H' b = some k:=fun hb hk=>by rw [hH _ hb]; exact hk
 cases io <;> simp only [eop] at stable ⊢
 case box x=>rw [hg]; exact stable
 case alloc z=>rw [hg]; exact stable
 case buildSl sz len z ps=>rw [hg]; exact stable
 case mksl z sz b x z'=>rw [hg]; exact stable
 case load ag m x=>
  split at stable
  ·simp only [*]
  ·rename_i b g i off hx
   try simp only [hx]
   cases hb:H b with
   | none=>rw [hb] at stable; cases stable
   | some k=>
    rw [hb] at stable
    cases k with
    | row g' sz es=>
     obtain ⟨h1,h2⟩:=qae stable;cases h2;rw [hrow (by simp) hb];exact stable
    | map g' es=>cases stable
    | siter g' s pos=>cases stable
    | loop=>cases stable
    | miter=>cases stable
    | dead=>cases stable
  ·cases stable
 case store m x z=>
  split at stable
  ·rename_i b g i off v hx hz
   try simp only [hx,hz]
   cases hb:H b with
   | none=>rw [hb] at stable; cases stable
   | some k=>
    rw [hb] at stable
    cases k with
    | row g' sz es=>
     obtain ⟨h1,h2⟩:=qae stable;cases h2;rw [hrow (by simp) hb];exact stable
    | map g' es=>cases stable
    | siter g' s pos=>cases stable
    | loop=>cases stable
    | miter=>cases stable
    | dead=>cases stable
  ·cases stable
 case slice sz x lo hi mx=>
  split at stable
  ·simp only [*]
  ·rename_i b g off len cap hx
   try simp only [hx]
   cases hb:H b with
   | none=>rw [hb] at stable; cases stable
   | some k=>
    rw [hb] at stable
    cases k with
    | row g' sz es=>
     have st0:=stable;obtain ⟨h0,he⟩:=qae stable;obtain ⟨l,h1,he⟩:=qad he;obtain ⟨u,h2,he⟩:=qad he;obtain ⟨m,h3,he⟩:=qad he;obtain ⟨h4,he⟩:=qae he;cases he;rw [hrow (by simp) hb];exact st0
    | map g' es=>cases stable
    | siter g' s pos=>cases stable
    | loop=>cases stable
    | miter=>cases stable
    | dead=>cases stable
  ·cases stable
 case idxA sz x z=>
  split at stable
  ·simp only [*]
  ·rename_i b g off len cap k j hx hz
   try simp only [hx,hz]
   cases hb:H b with
   | none=>rw [hb] at stable; cases stable
   | some k=>
    rw [hb] at stable
    cases k with
    | row g' sz es=>
     have st0:=stable;obtain ⟨h1,h2⟩:=qae stable;cases h2;rw [hrow (by simp) hb];exact st0
    | map g' es=>cases stable
    | siter g' s pos=>cases stable
    | loop=>cases stable
    | miter=>cases stable
    | dead=>cases stable
  ·cases stable
 case app sz by_ z x vy=>
  split at stable
  ·simp only [*];have st0:=stable;obtain ⟨ys,hys,he⟩:=qad stable;obtain ⟨h1,he⟩:=qae he
   have hr:y.2.2 = ys.2:=by
    split at he <;> (cases he; rfl)
   rw [qda hys (fun b hb=>hH b (by rw [hr]; exact hb))];rw [hys] at st0;simp only [eb] at st0 ⊢
   first | exact st0 | (rw [hg]; exact st0)
  ·rename_i b g off len cap vy hx hz
   try simp only [hx,hz]
   cases hb:H b with
   | none=>rw [hb] at stable; cases stable
   | some k=>
    rw [hb] at stable
    cases k with
    | row g' sz es=>
     have st0:=stable;obtain ⟨ys,hys,he⟩:=qad stable;obtain ⟨h1,he⟩:=qae he;cases he;rw [hrow (by simp) hb];simp only [];rw [qda hys (fun b hb=>hH b (by simp [hb])),hgr _ (by simp) _ hb];rw [hys] at st0;exact st0
    | map g' es=>cases stable
    | siter g' s pos=>cases stable
    | loop=>cases stable
    | miter=>cases stable
    | dead=>cases stable
  ·cases stable
 case b2s x=>
  have st0:=stable;obtain ⟨v,h1,h2⟩:=qad stable;obtain ⟨es,h3,h4⟩:=qad h2;obtain ⟨s,h5,h6⟩:=qad h4;cases h6;rw [h1] at st0 ⊢;simp only [eb] at st0 ⊢;have:=qda (H':=H') h3 hH;rw [this];rw [h3] at st0;exact st0
 case n x=>exact qvs stable hH hg hgr
 all_goals exact stable
end
end
end Go.Proofs.YtbbnmiaabmbheaaGreatDoor
