/- Lemmas. Conditions: none. -/
import Derived.Test.YtlmniacemoohpaaGreatDoorBase18
set_option linter.all false
namespace Go.Proofs.YtlmniacemoohpaaGreatDoor
section
open Go
section
variable {P:Program} {gl:Fr} {bs n:Nat} {ops:Array Oper} {gm:Nat->Nat} {vs:Nat->V} {Ws:Nat->Hp} {rd:Nat->Nat->Prop} {al ex:Nat->Option Nat} {F0:FF} {H0:HH}
theorem qtu {rd0:Option Nat} {m:Nat} (hm:ops.size = m + 1) (hback:qjd ops = true) (hbl:∀ i,i < m->bd (qev ops.toList []) i m = true)
  (hy:∀ i o,i < m->ops[i]? = some o->qkd P gl n ops gm i o (st (Dv ops vs) qde F0 i) (st Ws qde H0 i) (rd i) (al i) (ex i) (vs i) (Ws i))
  (hslot:∀ i j oi oj,i < j->j < m->ops[i]? = some oi->ops[j]? = some oj->bd (qev ops.toList []) i j = false->qm6 ops oi oj)
  (hheap:∀ i j,i < j->j < m->bd (qev ops.toList []) i j = false->qm4 (Ws i) (Ws j) (rd i) (rd j))
  (hrd:∀ i b,al i = some b->rd i b) (hbig:∀ i b,al i = some b->b ≠ 999999) (hal2:∀ i j b,i ≠ j->i < m->j < m->al i = some b->b ≠ 999999->ex j ≠ some b) {Q:Exit->Act->World->Prop} (hd:∀ (i:Nat) (o:Oper),ops[i]? = some o->rd0.isSome = true->qez o.op = false) (hnq:¬ LetsOut Q) {G0:qa5} {M0':qas} {w0:World}
  (hfin:∀ fr' h' G' M' a' w',lk fr' = st (Dv ops vs) qde F0 m->lk h' = st Ws qde H0 m->R bs n gl G' M' fr' h' a' w'->Ext G0 M0' w0 G' M' w'->wpOpIn (FW rd0) 0 P ops Q m (fun a w=>Q .normal a w) a' w') :
  ∀ (fuel:Nat) (listed:Array Bool) (fr:Fr) (h:Hp) (G:qa5) (M:qas) (a:Act) (w:World),listed.size = ops.size->(∀ x y,listed.getD x false = true->qt7 ops x y = true->listed.getD y false = true)->
   listed.getD m false = false->lk fr = st (Dv ops vs) (fun j=>listed.getD j false) F0 m->lk h = st Ws (fun j=>listed.getD j false) H0 m->R bs n gl G M fr h a w->Ext G0 M0' w0 G M w->
   (∀ i,i < m->listed.getD i false = false->∀ b,al i = some b->b ≠ 999999->st Ws qde H0 i b = none->qaa M b = gm b/\lk h b = none)->unl ops.size listed≤fuel->wpAnyIn (FW rd0) 0 P .any ops Q fuel listed a w:=by
 have done:∀ (fuel:Nat) (listed:Array Bool) (a:Act) (w:World),listed.size = ops.size->(∀ i,i < ops.size->listed.getD i true = true)->Q .normal a w->wpAnyIn (FW rd0) 0 P .any ops Q fuel listed a w:=by
  intro fuel listed a w hs hal hq
  have hno:∀ i,i ∉ Region.ready .any ops listed:=fun i hm=>by
   obtain ⟨h1,o,h2,-⟩:=mem_ready.1 hm;rw [hal i (Array.getElem?_eq_some_iff.1 h2).1] at h1; cases h1
  cases fuel with
  | zero=>
   refine ⟨?_,hq⟩
   cases hrd:Region.ready .any ops listed with
   | nil=>rfl
   | cons i r=>exact absurd (by rw [hrd]; exact List.mem_cons_self) (hno i)
  | succ fuel=>exact ⟨fun _=>hq,fun i hi=>absurd hi (hno i)⟩
 intro fuel
 induction fuel with
 | zero=>
  intro listed fr h G M a w hs hdc hml hf hh hr hx hfi hu;have hall:=qon (by omega:unl ops.size listed = 0) m (by omega);have hms:m < listed.size:=by omega
  simp [hms] at hall hml;rw [hall] at hml; cases hml
 | succ fuel ihf=>
  intro listed fr h G M a w hs hdc hml hf hh hr hx hfi hu;have hms:m < listed.size:=by omega
  refine ⟨fun hn=>?_,fun i hir=>?_⟩
  ·exact absurd hn (qod hback hs (i:=m) (by omega) (by simp [hms] at hml ⊢; exact hml))
  ·obtain ⟨hun,o,ho,hall⟩:=mem_ready.1 hir;have his0:i < ops.size:=(Array.getElem?_eq_some_iff.1 ho).1;have hil:i < listed.size:=by omega
   have hunf:listed.getD i false = false:=by
    simp [hil] at hun;simp [hil,hun]
   have hpre:∀ y,qt7 ops i y = true->listed.getD y false = true:=fun y hy'=>qhg hir hy';have below:∀ j,bd (qev ops.toList []) j i = true->listed.getD j false = true:=fun j hb=>qin hb (fun x=>listed.getD x false = true) hdc hpre
   have above:∀ j,listed.getD j false = true->bd (qev ops.toList []) i j = false:=by
    intro j hj
    cases hb:bd (qev ops.toList []) i j with
    | false=>rfl
    | true=>
     have:=qin hb (fun x=>listed.getD x false = true) hdc (fun y hy'=>hdc j y hj hy');rw [hunf] at this; cases this
   have hdv:∀ j,Dv ops vs j = match ops[j]? with | some oj=>dD oj.dst (vs j) | none=>[]:=fun j=>rfl
   have hset:∀ j,j ≠ i->(listed.setIfInBounds i true).getD j false = listed.getD j false:=fun j hj=>getD_set_ne false (Ne.symm hj);have hseti:(listed.setIfInBounds i true).getD i false = true:=by simp [hil]
   by_cases him:i = m
   ·subst him;have hall:∀ j,j < i->qde j = (fun j=>listed.getD j false) j:=fun j hj=>(below j (hbl j hj)).symm;refine wpOpIn_mono (fun a' w' hq=>done fuel _ a' w' (by simpa using hs) (fun j hj=>?_) hq) (hfin fr h G M a w (by rw [hf,qet i hall]) (by rw [hh,qet i hall]) hr hx);by_cases hji:j = i
    ·subst hji; exact qpv hseti
    ·have h1:=below j (hbl j (by omega));rw [<- hset j hji] at h1;exact qpv h1
   have his:i < m:=by omega
   have hreads:∀ b,rd i b->lk h b = st Ws qde H0 i b:=by
    intro b hb;rw [hh];rw [qcc (i:=i) m (by omega) fun j h1 h2 h3=>?_]
    ·refine qf0 i fun j hj h3=>?_
     cases hb':bd (qev ops.toList []) j i with
     | true=>exact below j hb'
     | false=>exact absurd ((hheap j i hj his hb').wr b hb) h3
    ·cases hl:listed.getD j false with
     | false=>rfl
     | true=>
      have hji:i ≠ j:=fun e=>by rw [<- e,hunf] at hl; cases hl
      exact absurd ((hheap i j (by omega) h2 (above j hl)).rw b hb) h3
   refine qqt (K:=wpAnyIn (FW rd0) 0 P .any ops Q fuel (listed.setIfInBounds i true)) (hd i) hnq (hy i o his ho hr (fun t ht=>?_) hreads (fun b hb hn=>?_) (fun rv G' M' w' hr' hx' hf'=>?_)) (fun _ _ h=>h)
   ·rw [hf];rw [qcc (i:=i) m (by omega) fun j h1 h2 h3=>?_]
    ·refine qf0 i fun j hj h3=>?_;have hoj:ops[j]? = some ops[j]:=Array.getElem?_eq_getElem (by omega);rw [hdv,hoj] at h3;have hd:=qd2 h3
     cases hb:bd (qev ops.toList []) j i with
     | true=>exact below j hb
     | false=>exact absurd hd ((hslot j i _ _ hj his hoj ho hb).xy t ht)
    ·have hoj:ops[j]? = some ops[j]:=Array.getElem?_eq_getElem (by omega);rw [hdv,hoj] at h3;have hd:=qd2 h3
     cases hl:listed.getD j false with
     | false=>rfl
     | true=>
      have hji:i ≠ j:=fun e=>by rw [<- e,hunf] at hl; cases hl
      exact absurd hd ((hslot i j _ _ (by omega) h2 ho hoj (above j hl)).yx t ht)
   ·by_cases h9:b = 999999
    ·exact absurd h9 (hbig i b hb)
    ·exact (hfi i his hunf b hb h9 (by rw [<- hreads b (hrd i b hb)]; exact hn)).1
   ·refine ihf (listed.setIfInBounds i true) _ _ G' M' _ w' (by simpa using hs) ?_ (by rw [hset m (fun e=>him e.symm)]; exact hml) ?_ ?_ hr' (hx.trans hx') ?_ ?_
    ·intro x y h1 h2;by_cases hy':y = i
     ·subst hy'; exact hseti
     ·rw [hset y hy'];by_cases hxi:x = i
      ·subst hxi; exact hpre y h2
      ·rw [hset x hxi] at h1; exact hdc x y h1 h2
    ·rw [qoc,qb4,hf];have:dD o.dst (vs i) = Dv ops vs i:=by rw [hdv,ho]
     rw [this];refine (qlk (L:=fun j=>listed.getD j false) hunf hseti hset m his fun j h1 h2 h3 t=>?_).symm;have hoj:ops[j]? = some ops[j]:=Array.getElem?_eq_getElem (by omega);have hI:=hslot i j _ _ h1 h2 ho hoj (above j h3);rw [hdv,hdv,ho,hoj];by_cases hd:o.dst = some t
     ·exact .inr (qro (hI.dd t hd))
     ·exact .inl (qro hd)
    ·rw [qb4,hh];exact (qlk (L:=fun j=>listed.getD j false) hunf hseti hset m his fun j h1 h2 h3 t=>(hheap i j h1 h2 (above j h3)).ww t).symm
    ·intro j hjs hj b hb h9 hn;have hji:j ≠ i:=fun e=>by rw [e,hseti] at hj; cases hj
     rw [hset j hji] at hj;obtain ⟨f1,f2⟩:=hfi j hjs hj b hb h9 hn;refine ⟨(hf' b (fun hc=>hal2 j i b hji hjs his hb h9 hc) f2).trans f1,?_⟩;rw [qb4,qoa ?_]
     ·exact f2
     ·rcases Nat.lt_or_ge i j with hij | hij
      ·exact qsa j hn i hij
      ·have hnb:bd (qev ops.toList []) j i = false:=by
        cases hb':bd (qev ops.toList []) j i with
        | false=>rfl
        | true=>have:=below j hb'; rw [hj] at this; cases this
       exact (hheap j i (by omega) his hnb).rw b (hrd j b hb)
    ·have:=qsb hs his0 hun;omega
end
theorem jgf {α:Type} {D D':Nat->List (Nat × α)} {L:Nat->Bool} {F0:Nat->Option α}:∀ k,(∀ j,j < k->D j = D' j)->st D L F0 k = st D' L F0 k
 | 0,_=>rfl
 | k + 1,h=>by simp only [st]; rw [jgf k fun j hj=>h j (by omega),h k (by omega)]
def q1q (an:List Nat) (m:Nat):Bool:=(List.range m).all fun i=>bd an i m
def qnf (P:Program) (n:Nat) (ops:Array Oper):Option XC:=
 match qbh P n ops ops.toList.dropLast,ops[ops.size - 1]? with
 | some lp,some o=>match qe9 P n ops o with
  | some x=>if P.follows .mixedOrders = true/\qjd ops = true/\qe1 ops ops.toList.dropLast lp = true/\qhn ops (qev ops.toList []) = true/\(lp.all qqa && qke lp []) = true/\(qbh P n ops ops.toList).isSome = true/\(qcf x.op).isSome = true/\q1q (qev ops.toList []) (ops.size - 1) = true
    then some (.seq (.reg lp (qq4 (qev ops.toList []) lp)) (.ops [x])) else qdh P n ops
  | none=>qdh P n ops
 | _,_=>qdh P n ops
section
variable {P:Program} {gl:Fr} {bs n:Nat} {ops:Array Oper}
theorem jiq {id:Nat} {x:XC} (hx:qnf P n ops = some x) {fr:Fr} {h:Hp} {Q:IQ} (hw0:x.wpF P gl Q fr h):IW P n gl (.region id ops true) Q fr h:=by
 have old:∀ {x:XC},qdh P n ops = some x->x.wpF P gl Q fr h->IW P n gl (.region id ops true) Q fr h:=fun hx hw=>by
  obtain ⟨l,chk,rfl,hreg⟩:=jh7 (gl:=gl) (id:=id) (fr:=fr) (h:=h) (Q:=Q) hx;exact hreg fun gm=>hw gm
 unfold qnf at hx;split at hx
 ·rename_i all o hall ho;split at hx
  ·rename_i x1 hx1;split at hx
   ·rename_i hcond;obtain ⟨hm,hback,hslots,hpairs,hok,hful,hcal,hlast⟩:=hcond;cases hx;obtain ⟨full,hfull⟩:=Option.isSome_iff_exists.1 hful;simp only [Bool.and_eq_true] at hok;obtain ⟨hro,had⟩:=hok;obtain ⟨ad1,ad2⟩:=qd5 had;obtain ⟨m,hm1⟩:∃ m,ops.size = m + 1:=⟨ops.size - 1,by have:=(Array.getElem?_eq_some_iff.1 ho).1; omega⟩;have hom:ops[m]? = some o:=by rw [hm1,Nat.add_sub_cancel] at ho; exact ho
    have hbl:∀ i,i < m->bd (qev ops.toList []) i m = true:=fun i hi=>by
     rw [hm1,Nat.add_sub_cancel] at hlast;exact List.all_eq_true.1 hlast i (List.mem_range.2 hi)
    have hw:∀ gm,qf7 P gl gm all fr h [] (fun fr' h' fps=>qh6 fps (qq4 (qev ops.toList []) all) = true/\qi7 P gl [x1] fr' h' (QN Q)):=fun gm=>hw0 gm;intro rd0 bs hn G M a w hr;refine wpIn_region_any hm ?_;obtain ⟨fr',h',fps,vs,Ws,rd,⟨hind,hq⟩,d⟩:=qgd (gm:=qaa M) (qfo hfull) ops.toList.dropLast all hall hslots hro (hw (qaa M));rw [List.nil_append] at hind;have hlen:ops.toList.dropLast.length = m:=by simp [hm1]
    have hall_len:=(qa3 hall).1;have hlo:∀ i,i < m->ops.toList.dropLast[i]? = ops[i]?:=fun i hi=>by rw [List.getElem?_dropLast]; simp [hm1,hi]
    have hax:∀ i,i < m->all[i]? = some (all.getD i default):=fun i hi=>by
     have hi':i < all.length:=by omega
     rw [ji4 hi',ji0,ji4 hi']; rfl
    have hDj:∀ i,i < m->DvL ops.toList.dropLast vs i = Dv ops vs i:=fun i hi=>by simp only [DvL,Dv,hlo i hi]; rfl
    have hst:∀ k,k≤m->∀ F,st (DvL ops.toList.dropLast vs) qde F k = st (Dv ops vs) qde F k:=fun k hk F=>jgf k fun j hj=>hDj j (by omega)
    let al:Nat->Option Nat:=fun i=>if i < m then qfj (all.getD i default) else none
    let ex:Nat->Option Nat:=fun i=>if i < m then qnn (all.getD i default) else none
    have hal:∀ i b,al i = some b->i < m/\qfj (all.getD i default) = some b:=fun i b hb=>by
     simp only [al] at hb;split at hb
     ·rename_i h1; exact ⟨h1,hb⟩
     ·cases hb
    refine qtu (P:=P) (gl:=gl) (bs:=bs) (n:=n) (gm:=qaa M) (vs:=vs) (Ws:=Ws) (rd:=fun i b=>b ∈ rd i) (al:=al) (ex:=ex) (F0:=lk fr) (H0:=lk h) hm1 hback hbl ?_ ?_ ?_ ?_ ?_ ?_ (qe0 hn) Up.noOut (G0:=G) (M0':=M) (w0:=w) ?_
     ops.size (Array.replicate ops.size false) fr h G M a _ (by simp) ?_ (by simp [hm1]) ?_ ?_ ?_ Ext.drawn ?_ ?_
    ·intro i o hi ho;have e1:al i = qfj (all.getD i default):=by simp only [al,if_pos hi]
     have e2:ex i = qnn (all.getD i default):=by simp only [ex,if_pos hi]
     rw [e1,e2,<- hst i (by omega)];intro bs fr h G M a w Q K' h1 h2 h3 h4 h5;exact d.y i o _ (by rw [hlo i hi]; exact ho) (hax i hi) i ho h1 h2 h3 h4 h5
    ·intro i j oi oj hij hjm hoi hoj hb;have hj:j < ops.size:=(Array.getElem?_eq_some_iff.1 hoj).1;simp only [qhn,List.all_eq_true,List.mem_range,Bool.or_eq_true] at hpairs;rcases hpairs j hj i hij with h | h
     ·rw [hb] at h; cases h
     ·rw [hoi,hoj] at h; exact qes h
    ·intro i j hij hj hb;have hxi:=hax i (by omega);have hxj:=hax j hj
     cases hc:qlt (all.getD i default).op (all.getD j default).op with
     | true=>
      have hmem:=qhx hij hxi hxj hb hc;have:=List.all_eq_true.1 hind _ hmem;rw [d.fp i (by omega),d.fp j (by omega)] at this;exact qh7 this
     | false=>
      simp only [qlt,Bool.or_eq_false_iff,Bool.and_eq_false_iff,Bool.not_eq_false'] at hc;obtain ⟨h1,h2⟩:=hc;have pi:=d.pure i _ hxi;have pj:=d.pure j _ hxj
      have key:(Ws i = []/\Ws j = [])∨(Ws i = []/\rd i = [])∨(Ws j = []/\rd j = []):=by
       rcases h1 with h1 | h1
       ·rcases h2 with h2 | h2
        ·exact .inr (.inl (pi.2 h2))
        ·exact .inl ⟨pi.1 h1,pj.1 h2⟩
       ·exact .inr (.inr (pj.2 h1))
      rcases key with ⟨e1,e2⟩ | ⟨e1,e2⟩ | ⟨e1,e2⟩
      ·rw [e1,e2]; exact ⟨(fun _=>.inl rfl),(fun _ _=>rfl),(fun _ _=>rfl)⟩
      ·rw [e1]; exact ⟨(fun _=>.inl rfl),(fun _ _=>rfl),(fun b hb=>by simp only [e2] at hb; cases hb)⟩
      ·rw [e1]; exact ⟨(fun _=>.inr rfl),(fun b hb=>by simp only [e2] at hb; cases hb),(fun _ _=>rfl)⟩
    ·intro i b hb;exact d.alrd i _ b (hax i (hal i b hb).1) (hal i b hb).2
    ·intro i b hb;exact (ad1 i _ b (hax i (hal i b hb).1) (hal i b hb).2).2
    ·intro i j b hij hi hj hb h9 hc;simp only [ex,if_pos hj] at hc;exact ad2 i j _ _ b hij (hax i hi) (hax j hj) (hal i b hb).2 (qra hc h9)
    ·intro fr2 h2 G' M' a' w' e1 e2 e3 e4;have e5:R bs n gl G' M' fr' h' a' w':=e3.weaken (fun t v ht=>by rw [e1,<- hst m (ji5 _),<- hlen,<- d.efr]; exact ht) (fun b k hb=>by rw [e2,<- hlen,<- d.eh]; exact hb);refine qk9 (qfo hfull) e5 hom (qe0 hn m _ hom) hx1 hq fun fr3 h3 G3 M3 a3 w3 q1 q2 q3=>?_;exact ⟨.normal,G3,M3,fr3,h3,rfl,q1,q2,e4.trans q3⟩
    ·intro x y h1;by_cases hx:x < ops.size <;> simp [hx] at h1
    ·funext t;rw [qcc m (Nat.zero_le _) fun j _ h2 _=>by simp [show j < ops.size by omega]];rfl
    ·funext t;rw [qcc m (Nat.zero_le _) fun j _ h2 _=>by simp [show j < ops.size by omega]];rfl
    ·exact ⟨hr.sim.drawn,hr.frr,hr.sz,hr.df.ext (Ext.drawn (G:=G)),hr.gl,hr.bs⟩
    ·intro i hi _ b hb h9 hn;refine ⟨rfl,?_⟩
     cases hk:lk h b with
     | none=>rfl
     | some k=>
      exfalso
      have:∀ m,st Ws qde (lk h) m b ≠ none:=by
       intro m
       induction m with
       | zero=>show lk h b ≠ none; rw [hk]; simp
       | succ m ihm=>
        show ov (Ws m) (st Ws qde (lk h) m) b ≠ none;unfold ov;split
        ·simp
        ·exact ihm
      exact this i hn
    ·unfold unl;exact Nat.le_trans List.countP_le_length (by simp)
   ·exact old hx hw0
  ·exact old hx hw0
 ·exact old hx hw0
end
def qd7 (P:Program) (n:Nat):Code->Option XC
 | .skip=>some .skip
 | .region _ ops draw=>match draw with
  | false=>(qbh P n ops ops.toList).map .ops
  | true=>qnf P n ops
 | .seq a b=>match qd7 P n a,qd7 P n b with
  | some x,some y=>some (.seq x y)
  | _,_=>none
 | .cond c a b=>match qd7 P n a,qd7 P n b with
  | some x,some y=>some (.cond (co c) x y)
  | _,_=>none
 | .block id a=>match qd7 P n a with
  | some x=>some (.block id x)
  | none=>none
 | .loop a=>match qd7 P n a with
  | some x=>some (.loop x)
  | none=>none
 | .scope a=>match qd7 P n a with
  | some x=>some (.scope x)
  | none=>none
 | .exit id=>some (.exit id)
 | .goto l=>some (.goto l)
 | .label l=>some (.label l)
 | .ret=>some .ret
 | .rangeFunc f ps asg body=>some (.rng n (2000000 + ps.toList.headD 0) (co f) ps.toList asg body)
 | _=>none
def q56 (P:Program) (f:FuncId) (fi:FnI):Prop:=
 ∃ fn body,P.funcs[f]? = some fn/\fn.body = some body/\fn.name ≠ "runtime.NumGoroutine" /\ fn.ntmps = fi.n/\qdm P fn.results.toList = some fi.rs/\qd7 P fi.n body = some fi.code
section
variable {P:Program} {gl:Fr} {bs n:Nat} {fr:Fr} {h:Hp}
theorem qvg:∀ {c:Code} {x:XC},qd7 P n c = some x->∀ {Q:IQ} {fr:Fr} {h:Hp},x.wpF P gl Q fr h->IW P n gl c Q fr h:=by
 intro c
 induction c with
 | skip=>intro x hx Q fr h hw; cases hx; exact IW.skip hw
 | region id ops draw=>
  intro x hx Q fr h hw;simp only [qd7] at hx
  cases draw with
  | false=>
   simp only [] at hx
   cases hl:qbh P n ops ops.toList with
   | none=>rw [hl] at hx; cases hx
   | some l=>
    rw [hl] at hx; cases hx;intro rd bs hn G M a w hr;refine wpIn_region ?_;have hll:l.length = ops.size:=by have:=(qa3 hl).1; simpa using this
    have:=qf4 (qe0 hn) hl (Q:=Up bs n gl G M w Q) l 0 rfl hr hw (fun fr' h' G' M' a' w' q1 q2 q3=>⟨.normal,G',M',fr',h',rfl,q1,q2,q3⟩);rw [Nat.sub_zero,hll,<- List.range_eq_range'] at this;exact this
  | true=>
   simp only [] at hx;exact jiq hx hw
 | seq a b iha ihb=>
  intro x hx Q fr h hw;simp only [qd7] at hx;split at hx
  ·rename_i xa xb ha hb;cases hx;refine IW.seq (IW.mono (iha ha hw) fun e fr h hq=>?_)
   cases e with
   | normal=>exact ihb hb hq
   | exit id=>exact hq
   | goto l=>exact hq
   | ret=>exact hq
  ·cases hx
 | cond c a b iha ihb=>
  intro x hx Q fr h hw;simp only [qd7] at hx;split at hx
  ·rename_i xa xb ha hb;cases hx;simp only [XC.wpF] at hw;intro rd bs hn G M ac w hr
   cases hc0:ev gl fr (co c) with
   | none=>rw [hc0] at hw; exact hw.elim
   | some v=>
    rw [hc0] at hw;cases v <;> simp only [qq7] at hw;rename_i t;have hc:=qbc (qax hr hc0)
    cases t with
    | true=>exact wpIn_cond_true hc (iha ha (by simpa using hw) rd bs (fun h=>(Bool.and_eq_true_iff.1 (hn h)).1) G M ac w hr)
    | false=>exact wpIn_cond_false hc (ihb hb (by simpa using hw) rd bs (fun h=>(Bool.and_eq_true_iff.1 (hn h)).2) G M ac w hr)
  ·cases hx
 | block id a iha=>
  intro x hx Q fr h hw;simp only [qd7] at hx;split at hx
  ·rename_i xa ha; cases hx; exact IW.block (iha ha hw)
  ·cases hx
 | loop a iha=>
  intro x hx Q fr h hw;simp only [qd7] at hx;split at hx
  ·rename_i xa ha;cases hx;rcases hw with ⟨X,F,H,Inv,mu,x0,h0,h1,h2,h3⟩ | ⟨X,F,H,Inv,mu,h0,h3⟩ | ⟨X,F,H,Inv,mu,h0,h3⟩
   ·refine IW.loop F H Inv mu x0 h0 h1.spec h2.spec fun x hI=>IW.mono (iha ha (h3 x hI)) fun e fr h hq=>?_
    cases e with
    | normal=>obtain ⟨x',q1,q2,q3,q4⟩:=hq; exact ⟨x',q1,q2.spec,q3.spec,q4⟩
    | exit id=>exact hq
    | goto l=>exact hq
    | ret=>exact hq
   ·refine jhp F H Inv mu (h0.mono fun _ _ ⟨x0,q1,q2,q3⟩=>⟨x0,q1,q2.spec,q3.spec⟩) fun x hI=>IW.mono (iha ha (h3 x hI)) fun e fr h hq=>?_
    cases e with
    | normal=>exact MvP.mono (fun _ _ ⟨x',q1,q2,q3,q4⟩=>⟨x',q1,q2.spec,q3.spec,q4⟩) hq
    | exit id=>exact hq
    | goto l=>exact hq
    | ret=>exact hq
   ·refine jh8 (jhp F H Inv mu (h0.mono fun _ _ ⟨x0,q1,q2,q3⟩=>⟨x0,q1,q2.spec,q3.spec⟩) fun x hI=>IW.mono (iha ha (h3 x hI)) fun e fr h hq=>?_)
    cases e with
    | normal=>exact MvP.mono (fun _ _ ⟨x',q1,q2,q3,q4⟩=>⟨x',q1,q2.spec,q3.spec,q4⟩) hq
    | exit id=>exact hq
    | goto l=>exact hq
    | ret=>exact hq
  ·cases hx
 | scope a iha=>
  intro x hx Q fr h hw;simp only [qd7] at hx;split at hx
  ·rename_i xa ha;cases hx;intro rd bs hn G M ac w hr;refine qg3 (wpIn_mono (iha ha hw rd bs hn G M ac w hr) ?_);rintro e a' w' ⟨ie,G',M',fr',h',rfl,hq,hr',hx'⟩
   cases ie with
   | goto l=>exact hq.elim
   | normal=>exact ⟨.normal,G',M',fr',h',rfl,hq,hr',hx'⟩
   | exit id=>exact ⟨.exit id,G',M',fr',h',rfl,hq,hr',hx'⟩
   | ret=>exact ⟨.ret,G',M',fr',h',rfl,hq,hr',hx'⟩
  ·cases hx
 | exit id=>intro x hx Q fr h hw; cases hx; exact IW.exit hw
 | goto l=>intro x hx Q fr h hw; cases hx; exact IW.goto hw
 | label l=>intro x hx Q fr h hw; cases hx; exact IW.label hw
 | ret=>intro x hx Q fr h hw; cases hx; exact IW.ret hw
 | rangeFunc f ps a b=>
  intro x hx Q fr h hw;cases hx;simp only [XC.wpF] at hw
  cases hf:ev gl fr (co f) with
  | none=>rw [hf] at hw; exact hw.elim
  | some v=>
   rw [hf] at hw;cases v <;> simp only [q5y] at hw;obtain ⟨frs,hs,s1,s2,hc⟩:=hw;exact jib _ hf s1 s2 hc
 | refuse s=>intro x hx; cases hx
theorem jhm {f:FuncId} {fi:FnI} {args:List V} {K:V->Hp->Prop} (hb:q56 P f fi) (hk:Nat.ble args.length fi.n = true) (hw:fi.code.wpF P gl (qy2 fi.rs K) (qoy 0 args) h):qa6 P gl f args h K:=by
 obtain ⟨fn,body,h1,h2,h3,h4,h5,h6⟩:=hb;refine qa6.of_body h1 h2 h3 (by have:=Nat.le_of_ble_eq_true hk; omega) h5 ?_;rw [h4];exact qvg h6 hw
end
end
section
open Go
section
variable {P:Program} {n:Nat} {gl:Fr} {bs:Nat} {G:qa5} {M:qas} {fr:Fr} {h:Hp} {a:Act} {w:World}
def jdb (gl fr:Fr) (h:Hp) (id:Nat) (fg:Nat->Nat) (sz bytes:Nat) (z:List V) (x y:qam) (K:V->Hp->Prop):Prop:=
 match evN gl fr x,evN gl fr y with
  | some (.ref b g off len (some c)),some vy=>match lk h b with
   | some (.row g' sz' es)=>qcz h sz (fun ys=>g' = g/\sz' = sz/\off + len≤es.length/\bytes≤256/\z.length = sz/\0 < ys.length/\len + ys.length≤274877906944/\
     (len + ys.length≤c->K (.ref b g off (len + ys.length) (some c)) ((b,.row g sz (es.take (off + len) ++ ys ++ es.drop (off + len + ys.length))) :: h))/\
     (c < len + ys.length->K (.ref id (fg id) 0 (len + ys.length) none) ((id,.row (fg id) sz ((es.drop off).take len ++ ys)) :: h))) vy
   | _=>False
  | _,_=>False
set_option maxHeartbeats 2000000 in
theorem qu3 (hr:R bs n gl G M fr h a w) {o:Oper} {c:Call} {t t2 e e2:TypeId} {x y:Operand} {z:Value} {ty:Bool × Nat × Nat} {Q:Exit->Act->World->Prop} {K:V->Hp->Prop} (ho:o.op = .call c) (hc:c.callee = .builtin .append)
  (ha:c.args.toList = [x,y]) (hat:c.argTypes.toList = [t,t2]) (h1:P.underlying t = some (.slice e)) (h1':P.underlying t2 = some (.slice e2)) (h2:qc3 P e = some ty) (hz:qcm P e = some z) (hn0:ty.2.1 ≠ 0) {id:Nat}
  (hi:jdb gl fr h id (qaa M) ty.2.1 ty.2.2 (qf3 z).cells (co x) (co y) K):o.wp P a w (qe5 h id K G M w o a) Q:=by
 obtain ⟨-,hsz,hti⟩:=qbn (P:=P) (t:=e) (ag:=ty.1) (n:=ty.2.1) (by_:=ty.2.2) (by rw [h2]);obtain ⟨z1,z2,i0,z3,z4⟩:=qce hz;obtain ⟨i1,hi1,hib,hisz,hinfo⟩:=hti w;rw [z3] at hinfo; cases hinfo;have hzsz:z.cells.size = ty.2.1:=by rw [z4,hisz]
 have ha':=qgb ha;have hat':=qgb hat
 have hexec:∀ {rx ry:Value} {r:Result Value},a.eval x = rx->a.eval y = ry->(Builtin.append_ #[t,t2] o.type #[rx,ry]).run P w = r->(∀ v w',r = .ok v w'->(execOp a.eval o).run P w = .ok (.value v) w'):=by
  intro rx ry r ex ey hrun v w' hv;subst hv;simp [execOp,ho,resolve,hc,invoke,builtin,ha',hat',ex,ey,hrun]
 unfold jdb at hi;split at hi
 ·rename_i b g off len cp vy hx hy;split at hi
  ·rename_i g' sz' es hb;have rx:=qd9 hr hx;obtain ⟨ys,ra2,cy,new,⟨rfl,rfl,htip,hby,-,hy0,hlen,hkA,hkB⟩,ey,f2,r2⟩:=qca (P:=P) hr.sim hi (qd9 hr hy)
   obtain ⟨xs,ra,cx,old,⟨rfl,-⟩,ex,f1,r1⟩:=qca (P:=P) (K:=fun l=>l = ((es.drop off).take len)/\True) hr.sim (show qcz h ty.2.1 _ (.ref b g' off len (some cp)) from by
    simp only [qcz,hb];exact ⟨trivial,trivial,by omega,trivial,trivial⟩) rx
   have hxl:((es.drop off).take len).length = len:=by simp; omega
   obtain ⟨mb0,q1,q2,q3,q4⟩:=hr.sim.hb b _ hb;obtain ⟨ra',cx',mb',ex',hM,hg,hl,hcc,hh⟩:=qhq rx;rw [q1] at hM; cases hM;have hre:=hh q2.symm;have hcp:cx' = cp:=hcc cp rfl;have nb:∀ x,lk h x = none->x ≠ b:=fun x h0 e=>by subst e; rw [hb] at h0; cases h0
   rw [ex'] at ex
   obtain ⟨e1,e2⟩:ra' = ra/\cx' = cx:=by
    simp only [Value.slice.injEq] at ex; exact ⟨ex.1,ex.2.2⟩
   subst e1 e2;clear ex;have ex:=ex';rw [ex'] at r1;have hyl:=f2.1;by_cases hfit:len + ys.length≤cx'
   ·-- in place
    have hkey0:=hkA (by omega);clear hkA hkB
    cases hreal:mb0.real with
    | none=>simp only [qbr,hreal] at hre; omega
    | some rb=>
     simp only [qbr,hreal] at hre;simp only [qbw,hreal] at q4;obtain ⟨arr,ty',w1,w2,w3,w4,w5⟩:=q4
     have hre':ra' = some ⟨rb,mb0.base + off * mb0.sz,none⟩/\off + cx'≤min mb0.room 9223372036854775807:=by
      rcases hre with q | ⟨-,q⟩
      ·exact q
      ·omega
     obtain ⟨rfl,hroom⟩:=hre';obtain ⟨s,hs⟩:∃ s,off + len = s:=⟨_,rfl⟩;have hnl:new.length = ys.length * ty.2.1:=hyl;have hroom2:(s + ys.length) * mb0.sz≤mb0.room * mb0.sz:=Nat.mul_le_mul_right _ (by omega);rw [Nat.add_mul,q3] at hroom2;rw [q3] at w2 w4 w5;have hst:=run_storeCells_at P rb (mb0.base + s * ty.2.1) ty' new 0 arr w w1 (by rw [hnl]; omega) (f2.one hn0);simp only [Nat.add_zero] at hst;have hle2:M.le (upd M b mb0):=jg8 fun m hm=>.inr (by rw [q1] at hm; cases hm; rfl);rw [hs] at hkey0
     have hkey:=hr.sim.change (w':=w.setRow rb (arr.toList.take (mb0.base + s * ty.2.1) ++ new ++ arr.toList.drop (mb0.base + s * ty.2.1 + new.length)).toArray) b mb0 (.row g' ty.2.1 (es.take s ++ ys ++ es.drop (s + ys.length))) (fun m hm=>.inr (by rw [q1] at hm; cases hm; rfl)) (fun r hr'=>.inr ⟨mb0,q1,hr'⟩)
      (by rw [qfz]; exact ji5 _) (fun k _ hk=>qdn _ _ _ _ (fun e=>hk (by rw [hreal,e]))) (fun _ _ _ _=>trivial) rfl rfl rfl ?_
     ·refine qb8 (rv:=.slice (some ⟨rb,mb0.base + off * mb0.sz,none⟩) (len + ys.length) cx') (hexec ex ey (r:=.ok _ _) ?_ _ _ rfl) hkey0 ?_ hkey.1 hkey.2 (fun x _ h0=>qay _ _ _ _ (nb x h0))
      ·rw [ey] at r2;refine qcs h1 h1' hsz hfit (r2 w rfl) (.inr ⟨_,rfl,?_⟩);rw [Addr.add_lit,q3,Nat.add_assoc,<- Nat.add_mul,hs];exact hst
      ·refine .ref _ _ _ _ _ _ _ mb0 (qaw _ _ _) (Nat.le_of_eq q2.symm) (by omega) (fun c0 hc0=>by cases hc0; exact hcp) fun _=>?_;simp only [qbr,hreal];exact .inl ⟨by first | trivial | rfl,hroom⟩
     ·refine ⟨mb0,qaw _ _ _,q2,q3,?_⟩;simp only [qbw,hreal];have hel:(es.take s ++ ys ++ es.drop (s + ys.length)).length = max es.length (s + ys.length):=by simp; omega
      have hget:∀ i,i < max es.length (s + ys.length)->(es.take s ++ ys ++ es.drop (s + ys.length)).getD i .undef = if s≤i/\i < s + ys.length then ys.getD (i - s) .undef else es.getD i .undef:=by
       intro i hi;simp only [ji0,List.getElem?_append,List.length_append,List.length_take,List.getElem?_take,List.getElem?_drop];have e1:min s es.length = s:=by omega
       rw [e1];by_cases c1:i < s
       ·rw [if_pos (by omega),if_pos c1,if_pos c1,if_neg (by omega)]
       ·by_cases c2:i < s + ys.length
        ·rw [if_pos (by omega),if_neg c1,if_pos (by omega)]
        ·rw [if_neg (by omega),if_neg (by omega)];congr 2;omega
      refine ⟨_,ty',setRow_heap w rb arr _ ty' (0,0) w1,?_,by rw [hel]; omega,fun i hi=>?_,fun i j hi hj=>?_⟩
      ·rw [q3]; simp only [List.size_toArray,List.length_append,List.length_take,List.length_drop,Array.length_toList];omega
      ·rw [hel] at hi;rw [hget i hi,q3];split
       ·exact (f2.2 _ (by omega)).1
       ·exact w4 i (by omega)
      ·rw [hel] at hi;rw [hget i hi,q3,qbu,qeg _ _ _ _ (by have e9:arr.toList.length = arr.size:=Array.length_toList; omega)];rw [q3] at hj;by_cases hin:s≤i/\i < s + ys.length
       ·have e3:i * ty.2.1 = s * ty.2.1 + (i - s) * ty.2.1:=by rw [<- Nat.add_mul]; congr 1; omega
        have heb3:=qa8 (sz:=ty.2.1) (show i - s < ys.length by omega) (ji5 _);rw [if_pos hin,if_pos (by rw [hnl]; omega)];have e4:mb0.base + i * ty.2.1 + j - (mb0.base + s * ty.2.1) = (i - s) * ty.2.1 + j:=by omega
        rw [e4];have:=(f2.2 (i - s) (by omega)).2 j hj;exact ⟨this.1.mono G.le_refl hle2,this.2⟩
       ·rw [if_neg hin,if_neg (by
         rw [hnl];rintro ⟨c1,c2⟩;apply hin;refine ⟨?_,?_⟩
         ·by_cases hc:s≤i
          ·exact hc
          ·have:=qa8 (sz:=ty.2.1) (show i < s by omega) (ji5 _); omega
         ·by_cases hc:i < s + ys.length
          ·exact hc
          ·have:=Nat.mul_le_mul_right ty.2.1 (show s + ys.length≤i by omega);rw [Nat.add_mul] at this; omega)]
        have e2:arr.toList.getD (mb0.base + i * ty.2.1 + j) undef = arr.getD (mb0.base + i * ty.2.1 + j) undef:=by
         simp [ji0,ji1]
        rw [e2];have:=w5 i j (by omega) hj;exact ⟨this.1.mono G.le_refl hle2,this.2⟩
   ·-- a new row
    have hk:=hkB (by omega);clear hkA hkB;have r3:∀ w':World,w'.heap = w.heap->(Builtin.firstCells ty.2.1 ys.length (.slice ra2 ys.length cy)).run P w' = .ok new.toArray w':=by rw [<- ey]; exact r2
    clear hi r2 htip hh hre;generalize (es.drop off).take len = xs at f1 r1 hk hxl;subst hxl;obtain ⟨nc,hnc,hnc2,hrun⟩:=qgo (P:=P) (w:=w) (tt:=o.type) h1 ⟨e2,h1'⟩ hsz z1 z3 hib (by omega) hby hlen r1 r3
    obtain ⟨s1,s2⟩:=hr.sim.drawn.allocFlat id e ty.2.1 nc (rest:=(Builtin.zeroCells z.cells (nc - (xs.length + ys.length))).toList) (f1.append f2) (by
     simp only [List.length_append,f1.1,f2.1,Array.length_toList,qhf,hzsz];rw [<- Nat.add_mul,<- Nat.add_mul];exact Nat.le_of_eq (by congr 1; omega)) (by simpa using hnc)
    rw [List.append_assoc] at s1 s2;refine qb8 (hexec ex ey hrun _ _ rfl) hk ?_ s1 (Ext.drawn.trans s2) (fun x hx h0=>qay _ _ _ _ hx);exact qfx hnc (by omega) (by simp) _
  ·exact hi.elim
 ·exact hi.elim
theorem que (hr:R bs n gl G M fr h a w) {o:Oper} {sz bytes:Nat} {z:List V} {x y:qam} (hc:qjt P o = some (.app sz bytes z x y)) {id:Nat} {Y:V × Hp × List Nat} (he:eop gl (qaa M) id (lk fr) (lk h) (.n (.appc sz bytes z x y)) = some Y) {Q:Exit->Act->World->Prop} :
  o.wp P a w (qe5 h id (fun v h'=>v = Y.1/\h' = Y.2.1 ++ h) G M w o a) Q:=by
 have key:∀ {c:Call} {t t2 e e2:TypeId} {x' y':Operand} {z':Value} {ty:Bool × Nat × Nat},o.op = .call c->c.callee = .builtin .append->c.args.toList = [x',y']->c.argTypes.toList = [t,t2]->P.underlying t = some (.slice e)->P.underlying t2 = some (.slice e2)->qc3 P e = some ty->qcm P e = some z'->ty.2.1 ≠ 0->
   IOp.app sz bytes z x y = .app ty.2.1 ty.2.2 (qf3 z').cells (co x') (co y')->o.wp P a w (qe5 h id (fun v h'=>v = Y.1/\h' = Y.2.1 ++ h) G M w o a) Q:=by
  intro c t t2 e e2 x' y' z' ty ho hcal ha hat hu hu2 ht hz hn0 heq;simp only [IOp.app.injEq] at heq;obtain ⟨rfl,rfl,rfl,rfl,rfl⟩:=heq;refine qu3 hr ho hcal ha hat hu hu2 ht hz hn0 (id:=id) ?_;simp only [eop,nop,qni] at he;unfold jdb;split at he
  ·simp only [*];split at he
   ·rename_i hb;obtain ⟨ys,hys,he⟩:=qad he;obtain ⟨h1,he⟩:=qae he;simp only [Bool.and_eq_true,decide_eq_true_eq] at h1;simp only [hb];refine qhz hys ⟨h1.1.1.1.1.1.1,h1.1.1.1.1.1.2,h1.1.1.1.1.2,h1.1.1.1.2,h1.1.1.2,h1.1.2,h1.2,fun hle=>?_,fun hlt=>?_⟩
    ·rw [decide_eq_true hle] at he;cases he;exact ⟨rfl,rfl⟩
    ·rw [decide_eq_false (by omega)] at he;cases he;exact ⟨rfl,rfl⟩
   ·cases he
  ·cases he
 rcases qkj hc rfl with ⟨t,x,ho,he2⟩ | ⟨t,z,ho,hz,he2⟩ | ⟨t,e,len,ps,l,z,ty,ho,hu,ht,hz,hn,hn0,hl,he2⟩ | ⟨t,e,x,y',z,ty,ho,hu,ht,hz,hn0,he2⟩ | ⟨c,f,ho,hcal,he2⟩ | ⟨t,x,y',ty,ho,ht,he2⟩ | ⟨c,t,t2,e,e2,x',y',z',ty,ho,hcal,ha,hat,hu,hu2,ht,hz,hn0,he2⟩
 ·cases he2
 ·cases he2
 ·cases he2
 ·cases he2
 ·cases he2
 ·cases he2
 ·exact key ho hcal ha hat hu hu2 ht hz hn0 he2
end
section
variable {P:Program} {gl:Fr} {bs n:Nat} {ops:Array Oper} {gm:Nat->Nat}
theorem qsg (hops:∀ d,(∃ o,o ∈ ops.toList/\o.dst = some d)->d < n) {i:Nat} {o:Oper} (ho:ops[i]? = some o) {x:qa2} (hx:qe9 P n ops o = some x) {sz bytes:Nat} {z:List V} {xo yo:qam} (hxo:x.op = .app sz bytes z xo yo) (hsl:∀ t ∈ x.op.slots,t ∈ o.looksAt ops) {fr0:Fr} {h0:Hp} (hg:xgd (lk fr0) x.guard = some true)
  {y:Y} (he:eop gl (gfG gm (lk h0)) (x.dst.getD 999999) (lk fr0) (lk h0) (.n (.appc sz bytes z xo yo)) = some y) (hdst:x.dst ≠ none) :
  qkd P gl n ops gm i o (lk fr0) (lk h0) (fun b=>b ∈ x.dst.toList ++ y.2.2) x.dst (some (x.dst.getD 999999)) y.1 y.2.1:=by
 intro bs fr h G M a w Q K' hr hF hH hid hk;obtain ⟨c1,c2,c3,c4⟩:=qbp hx;unfold wpOp;simp only [ho];rw [qaz hops hr c2 hF hg,if_pos rfl];refine .inl ?_
 have c1':qjt P o = some (.app sz bytes z xo yo):=by
  rcases qdg c1 with ⟨q,hq,-⟩ | h1
  ·rw [hxo] at hq; cases hq
  ·rw [hxo] at h1; exact h1
 simp only [List.mem_append] at hH;have hgr:∀ b ∈ y.2.2,∀ k,lk h0 b = some k->qaa M b = gfG gm (lk h0) b:=fun b hb k hk'=>qgh (_fr:=fr) hr.sim (by rw [hH b (.inr hb)]; exact hk') hk'
 have he2:eop gl (qaa M) (x.dst.getD 999999) (lk fr) (lk h) (.n (.appc sz bytes z xo yo)) = some y:=by
  cases hd:x.dst with
  | some d=>
   have hal:x.dst = some d:=hd;refine qd8 (fun t ht=>hF t (hsl t (by rw [hxo]; simpa [IOp.slots,NOp.slots] using ht))) (by rw [hd] at he; exact he) (fun b hb=>hH b (.inr hb)) ?_ hgr;have hdd:lk h d = lk h0 d:=hH d (.inl (by simp [hd]))
   cases hk0:lk h0 d with
   | some k=>exact qgh (_fr:=fr) hr.sim (by simp only [Option.getD_some]; rw [hdd]; exact hk0) (by simpa using hk0)
   | none=>
    have:=hid d hal (by rw [hdd]; exact hk0);simp only [Option.getD_some,gfG,hk0]; exact this
  | none=>
   exact absurd hd hdst
 refine Oper.wp_mono ?_ (que hr c1' he2);rintro a' w' ⟨v,h',rv,G',M',⟨rfl,rfl⟩,rfl,q3,q4,q5,q6⟩;exact hk rv G' M' w' (hr.put c4 q3 q4 q5) q5 (fun b hnb h0=>q6 b (fun e=>hnb (by rw [e])) h0)
end
end
section
open Go
def toC (x:qa2):qa2:=match x.op with
 | .app sz bytes z p q=>⟨x.dst,x.guard,.n (.appc sz bytes z p q)⟩
 | _=>x
theorem jak {x:qa2} (h:¬ ∃ sz bytes z p q,x.op = .app sz bytes z p q):toC x = x:=by
 unfold toC;split
 ·rename_i h2; exact absurd ⟨_,_,_,_,_,h2⟩ h
 ·rfl
section
variable {P:Program} {gl:Fr} {bs n:Nat} {ops:Array Oper} {gm:Nat->Nat}
theorem qd0 (hops:∀ d,(∃ o,o ∈ ops.toList/\o.dst = some d)->d < n):∀ (lo:List Oper) (lx:List qa2),qbh P n ops lo = some lx->qe1 ops lo lx = true->(lx.all qqa) = true->∀ {fr:Fr} {h:Hp} {acc:Fps} {K:Fr->Hp->Fps->Prop},qf7 P gl gm (lx.map toC) fr h acc K->
  ∃ fr' h' fps vs Ws rd,K fr' h' (acc ++ fps)/\qyy P gl n ops gm lo lx fr h fr' h' fps vs Ws rd
 | [],lx,hc,_,_,fr,h,acc,K,hd=>by
  simp [qbh] at hc; subst hc;exact ⟨fr,h,[],fun _=>.undef,fun _=>[],fun _=>[],(by rw [List.append_nil]; exact hd),rfl,rfl,rfl,fun i hi=>by simp at hi,fun i x hx=>by simp at hx,fun i x b hx=>by simp at hx,fun i o x ho=>by simp at ho⟩
 | o :: lo,lx,hc,hsl,hro,fr,h,acc,K,hd=>by
  simp only [qbh] at hc;split at hc
  ·rename_i x l' hx hl;cases hc;simp only [qe1,Bool.and_eq_true,List.all_eq_true] at hsl;obtain ⟨hs1,hs2⟩:=hsl;have hslot:∀ t ∈ x.op.slots,t ∈ o.looksAt ops:=fun t ht=>by simpa using hs1 t ht
   simp only [List.all_cons,Bool.and_eq_true] at hro;obtain ⟨hr1,hr2⟩:=hro;obtain ⟨c1,c2,c3,c4⟩:=qbp hx;by_cases happ:∃ sz bytes z p q,x.op = .app sz bytes z p q
   ·obtain ⟨sz,bytes,z,p,q,hxo⟩:=happ;have e:toC x = ⟨x.dst,x.guard,.n (.appc sz bytes z p q)⟩:=by unfold toC; rw [hxo]
    have ea:qfj x = x.dst:=by unfold qfj; rw [hxo]; rfl
    have ee:qnn x = some (x.dst.getD 999999):=by unfold qnn; rw [hxo]; rfl
    rw [List.map_cons,e] at hd;simp only [qf7] at hd;rcases qs1 hd with ⟨hg,hd⟩ | ⟨hg,hd⟩
    ·unfold qfk jbi at hd;simp only [qcf] at hd;obtain ⟨y,h1,h2⟩:=qif hd;simp only [kRd,kD,qag,NOp.pure,cond_false] at h2;obtain ⟨fr',h',fps,vs,Ws,rd,k1,k2⟩:=qd0 hops lo l' hl hs2 hr2 h2;rw [c3] at k2;refine ⟨fr',h',_,_,_,_,?_,k2.cons (v:=y.1) (W:=y.2.1) (r:=x.dst.toList ++ y.2.2) ⟨fun hp=>?_,fun ht=>?_⟩ (fun b hb=>by rw [ea] at hb; rw [hb]; simp) fun j hj=>?_⟩
     ·simpa [qi2] using k1
     ·rw [hxo] at hp; cases hp
     ·rw [hxo] at ht; cases ht
     ·have hdst:x.dst ≠ none:=fun e=>by
       unfold qqa at hr1;rw [hxo] at hr1;simp [qcf,qag,qgw,e] at hr1
      rw [ea,ee];intro bs frx hx' G M a w Q K' q1 q2 q3 q4 q5;exact qsg hops hj hx hxo hslot hg h1 hdst q1 q2 q3 q4 q5
    ·simp only [kU] at hd;obtain ⟨fr',h',fps,vs,Ws,rd,k1,k2⟩:=qd0 hops lo l' hl hs2 hr2 hd;rw [c3] at k2;have ea2:qfj (⟨x.dst,x.guard,.n (.appc sz bytes z p q)⟩:qa2) = qfj x:=by rw [ea]; rfl
     rw [ea2] at k1;refine ⟨fr',h',_,_,_,_,?_,qyy.cons (v:=.tup []) (W:=[]) (r:=(qfj x).toList) (o:=o) (x:=x) k2 ⟨fun _=>rfl,fun ht=>⟨rfl,?_⟩⟩ (fun b hb=>by rw [hb]; simp) fun j hj=>qht hops hj hx hg⟩
     ·simpa [qi2] using k1
     ·rw [hxo] at ht; cases ht
   have etc:toC x = x:=jak happ;rw [List.map_cons,etc] at hd;simp only [qf7] at hd;rcases qs1 hd with ⟨hg,hd⟩ | ⟨hg,hd⟩
   ·unfold qfk jbi at hd
    cases hac:qcf x.op with
    | none=>
     rw [hac] at hd;simp only [] at hd;obtain ⟨y,h1,h2⟩:=qif hd;simp only [kRd,kD] at h2;obtain ⟨fr',h',fps,vs,Ws,rd,k1,k2⟩:=qd0 hops lo l' hl hs2 hr2 h2;rw [c3] at k2;refine ⟨fr',h',_,_,_,_,?_,k2.cons (v:=y.1) (W:=y.2.1) (r:=bif qag x.op then y.2.2 else x.dst.toList ++ y.2.2) ⟨fun hp=>qdl.pure_writes hp h1,fun ht=>⟨qdl.pure_writes (qct ht) h1,?_⟩⟩ ?_ fun j hj=>qqv hops hj hx hslot hg h1 ?_⟩
     ·simpa [qi2] using k1
     ·rw [qct ht]; exact qiy ht h1
     ·intro b hb;unfold qfj at hb;rw [hac] at hb;simp only [] at hb
      cases hpp:qag x.op with
      | true=>rw [hpp] at hb; cases hb
      | false=>rw [hpp] at hb; simp only [cond_false] at hb ⊢; simp [hb]
     ·unfold qqa at hr1;rw [hac] at hr1;simp only [Bool.or_eq_true] at hr1;rcases hr1 with (h | h) | h
      ·exact .inr (.inl h)
      ·exact .inl (fun e=>by rw [e] at h; cases h)
      ·exact .inr (.inr h)
    | some fa=>
     obtain ⟨f,as⟩:=fa;rw [hac] at hd;simp only [] at hd
     cases hf:ev gl fr f with
     | none=>rw [hf] at hd; exact hd.elim
     | some fv=>
      cases hvs:evs gl fr as with
      | none=>rw [hf,hvs] at hd; exact hd.elim
      | some vs0=>
       rw [hf,hvs] at hd;simp only [w2l] at hd;cases fv <;> simp only [qo8] at hd;rename_i fid fst cap;obtain ⟨res,W,rdc,hp,h2⟩:=hd;simp only [kD] at h2;obtain ⟨fr',h',fps,vs,Ws,rd,k1,k2⟩:=qd0 hops lo l' hl hs2 hr2 h2;rw [c3] at k2;have hio:=qc5 hac;have hal:qfj x = x.dst:=by unfold qfj; rw [hac]
       have hdrd:∀ b,x.dst = some b->b ∈ rdc:=by
        intro b hb;cases hp <;> simp [hb]
       refine ⟨fr',h',_,_,_,_,?_,qyy.cons (v:=res) (W:=W) (r:=rdc) (o:=o) (x:=x) k2 ⟨fun hpu=>?_,fun ht=>?_⟩ (fun b hb=>hdrd b (by rw [<- hal]; exact hb)) fun j hj=>?_⟩
       ·simpa [qi2] using k1
       ·rw [hio] at hpu; cases hpu
       ·rw [hio] at ht; cases ht
       ·intro bs frx hx' G M a w Q K' hrr hF hH hid hk;unfold wpOp;simp only [hj];rw [qaz hops hrr c2 hF hg,if_pos rfl];refine .inl ?_;rw [hio] at c1 hslot;obtain ⟨c,g,e1,e2,rfl,rfl⟩:=qdz c1;rw [<- qby,<- qaf (F':=lk frx) (fun t ht=>hF t (hslot t (by simp only [IOp.slots,List.mem_append]; exact .inl ht))),qby] at hf;rw [<- qfp,<- qd1 (F':=lk frx) (fun t ht=>hF t (hslot t (by simp only [IOp.slots,List.mem_append]; exact .inr ht))),qfp] at hvs
        have hcal:qb3 P fid = true:=by
         cases hp with
         | pure hc _=>exact hc.1
         | borrow m hc _ _=>exact hc.1
         | own hc _ _ _=>exact hc.1
         | ownb m hc _ _ _ _=>exact hc.1
         | ownv m hc _ _ _ _ _ _ _ _=>exact hc.1
         | purn m hc _ _ _=>exact hc.1
         | frzn m m2 hc _ _=>exact hc.1
         | lend D hc _ _ _ _ _ _ _ _=>exact hc.1
        have hex:qnn x = some (x.dst.getD 999999):=by unfold qnn; rw [hac]
        rw [hal] at hid;refine Oper.wp_mono ?_ (qkh hrr e1 e2 hf hvs hcal (Post:=fun rv w'=>∃ G' M',qal G' M' res rv/\Sim G' M' (W ++ hx') w'/\Ext G M w G' M' w'/\∀ b,x.dst ≠ some b->qaa M' b = qaa M b) fun rargs hsz hrel=>(hp.calls hH hid hrr.sim hrr.gl hsz hrel).2);rintro a' w' ⟨rv,rfl,G',M',m1,m2,m3,m4⟩;refine hk rv G' M' w' (hrr.put c4 m1 m2 m3) m3 (fun b hb _=>m4 b fun e=>?_);rw [hex,e] at hb;exact hb rfl
   ·simp only [kU] at hd;obtain ⟨fr',h',fps,vs,Ws,rd,k1,k2⟩:=qd0 hops lo l' hl hs2 hr2 hd;rw [c3] at k2;refine ⟨fr',h',_,_,_,_,?_,qyy.cons (v:=.tup []) (W:=[]) (r:=(qfj x).toList) (o:=o) (x:=x) k2 ⟨fun _=>rfl,fun ht=>⟨rfl,?_⟩⟩ (fun b hb=>by rw [hb]; simp) fun j hj=>qht hops hj hx hg⟩
    ·simpa [qi2] using k1
    ·unfold qfj
     cases hc:qcf x.op with
     | none=>rw [qct ht]; rfl
     | some fa=>rw [qkf hc] at ht; cases ht
  ·cases hc
end
def qne (P:Program) (n:Nat) (ops:Array Oper):Option XC:=
 match qbh P n ops ops.toList.dropLast,ops[ops.size - 1]? with
 | some lp,some o=>match qe9 P n ops o with
  | some x=>if P.follows .mixedOrders = true/\qjd ops = true/\qe1 ops ops.toList.dropLast lp = true/\qhn ops (qev ops.toList []) = true/\(lp.all qqa && qke lp []) = true/\(qbh P n ops ops.toList).isSome = true/\(qcf x.op).isSome = true/\q1q (qev ops.toList []) (ops.size - 1) = true
    then some (.seq (.reg (lp.map toC) (qq4 (qev ops.toList []) lp)) (.ops [x])) else qdh P n ops
  | none=>qdh P n ops
 | _,_=>qdh P n ops
section
variable {P:Program} {gl:Fr} {bs n:Nat} {ops:Array Oper}
theorem jip {id:Nat} {x:XC} (hx:qne P n ops = some x) {fr:Fr} {h:Hp} {Q:IQ} (hw0:x.wpF P gl Q fr h):IW P n gl (.region id ops true) Q fr h:=by
 have old:∀ {x:XC},qdh P n ops = some x->x.wpF P gl Q fr h->IW P n gl (.region id ops true) Q fr h:=fun hx hw=>by
  obtain ⟨l,chk,rfl,hreg⟩:=jh7 (gl:=gl) (id:=id) (fr:=fr) (h:=h) (Q:=Q) hx;exact hreg fun gm=>hw gm
 unfold qne at hx;split at hx
 ·rename_i all o hall ho;split at hx
  ·rename_i x1 hx1;split at hx
   ·rename_i hcond;obtain ⟨hm,hback,hslots,hpairs,hok,hful,hcal,hlast⟩:=hcond;cases hx;obtain ⟨full,hfull⟩:=Option.isSome_iff_exists.1 hful;simp only [Bool.and_eq_true] at hok;obtain ⟨hro,had⟩:=hok;obtain ⟨ad1,ad2⟩:=qd5 had;obtain ⟨m,hm1⟩:∃ m,ops.size = m + 1:=⟨ops.size - 1,by have:=(Array.getElem?_eq_some_iff.1 ho).1; omega⟩;have hom:ops[m]? = some o:=by rw [hm1,Nat.add_sub_cancel] at ho; exact ho
    have hbl:∀ i,i < m->bd (qev ops.toList []) i m = true:=fun i hi=>by
     rw [hm1,Nat.add_sub_cancel] at hlast;exact List.all_eq_true.1 hlast i (List.mem_range.2 hi)
    have hw:∀ gm,qf7 P gl gm (all.map toC) fr h [] (fun fr' h' fps=>qh6 fps (qq4 (qev ops.toList []) all) = true/\qi7 P gl [x1] fr' h' (QN Q)):=fun gm=>hw0 gm;intro rd0 bs hn G M a w hr;refine wpIn_region_any hm ?_;obtain ⟨fr',h',fps,vs,Ws,rd,⟨hind,hq⟩,d⟩:=qd0 (gm:=qaa M) (qfo hfull) ops.toList.dropLast all hall hslots hro (hw (qaa M));rw [List.nil_append] at hind;have hlen:ops.toList.dropLast.length = m:=by simp [hm1]
    have hall_len:=(qa3 hall).1;have hlo:∀ i,i < m->ops.toList.dropLast[i]? = ops[i]?:=fun i hi=>by rw [List.getElem?_dropLast]; simp [hm1,hi]
    have hax:∀ i,i < m->all[i]? = some (all.getD i default):=fun i hi=>by
     have hi':i < all.length:=by omega
     rw [ji4 hi',ji0,ji4 hi']; rfl
    have hDj:∀ i,i < m->DvL ops.toList.dropLast vs i = Dv ops vs i:=fun i hi=>by simp only [DvL,Dv,hlo i hi]; rfl
    have hst:∀ k,k≤m->∀ F,st (DvL ops.toList.dropLast vs) qde F k = st (Dv ops vs) qde F k:=fun k hk F=>jgf k fun j hj=>hDj j (by omega)
    let al:Nat->Option Nat:=fun i=>if i < m then qfj (all.getD i default) else none
    let ex:Nat->Option Nat:=fun i=>if i < m then qnn (all.getD i default) else none
    have hal:∀ i b,al i = some b->i < m/\qfj (all.getD i default) = some b:=fun i b hb=>by
     simp only [al] at hb;split at hb
     ·rename_i h1; exact ⟨h1,hb⟩
     ·cases hb
    refine qtu (P:=P) (gl:=gl) (bs:=bs) (n:=n) (gm:=qaa M) (vs:=vs) (Ws:=Ws) (rd:=fun i b=>b ∈ rd i) (al:=al) (ex:=ex) (F0:=lk fr) (H0:=lk h) hm1 hback hbl ?_ ?_ ?_ ?_ ?_ ?_ (qe0 hn) Up.noOut (G0:=G) (M0':=M) (w0:=w) ?_
     ops.size (Array.replicate ops.size false) fr h G M a _ (by simp) ?_ (by simp [hm1]) ?_ ?_ ?_ Ext.drawn ?_ ?_
    ·intro i o hi ho;have e1:al i = qfj (all.getD i default):=by simp only [al,if_pos hi]
     have e2:ex i = qnn (all.getD i default):=by simp only [ex,if_pos hi]
     rw [e1,e2,<- hst i (by omega)];intro bs fr h G M a w Q K' h1 h2 h3 h4 h5;exact d.y i o _ (by rw [hlo i hi]; exact ho) (hax i hi) i ho h1 h2 h3 h4 h5
    ·intro i j oi oj hij hjm hoi hoj hb;have hj:j < ops.size:=(Array.getElem?_eq_some_iff.1 hoj).1;simp only [qhn,List.all_eq_true,List.mem_range,Bool.or_eq_true] at hpairs;rcases hpairs j hj i hij with h | h
     ·rw [hb] at h; cases h
     ·rw [hoi,hoj] at h; exact qes h
    ·intro i j hij hj hb;have hxi:=hax i (by omega);have hxj:=hax j hj
     cases hc:qlt (all.getD i default).op (all.getD j default).op with
     | true=>
      have hmem:=qhx hij hxi hxj hb hc;have:=List.all_eq_true.1 hind _ hmem;rw [d.fp i (by omega),d.fp j (by omega)] at this;exact qh7 this
     | false=>
      simp only [qlt,Bool.or_eq_false_iff,Bool.and_eq_false_iff,Bool.not_eq_false'] at hc;obtain ⟨h1,h2⟩:=hc;have pi:=d.pure i _ hxi;have pj:=d.pure j _ hxj
      have key:(Ws i = []/\Ws j = [])∨(Ws i = []/\rd i = [])∨(Ws j = []/\rd j = []):=by
       rcases h1 with h1 | h1
       ·rcases h2 with h2 | h2
        ·exact .inr (.inl (pi.2 h2))
        ·exact .inl ⟨pi.1 h1,pj.1 h2⟩
       ·exact .inr (.inr (pj.2 h1))
      rcases key with ⟨e1,e2⟩ | ⟨e1,e2⟩ | ⟨e1,e2⟩
      ·rw [e1,e2]; exact ⟨(fun _=>.inl rfl),(fun _ _=>rfl),(fun _ _=>rfl)⟩
      ·rw [e1]; exact ⟨(fun _=>.inl rfl),(fun _ _=>rfl),(fun b hb=>by simp only [e2] at hb; cases hb)⟩
      ·rw [e1]; exact ⟨(fun _=>.inr rfl),(fun b hb=>by simp only [e2] at hb; cases hb),(fun _ _=>rfl)⟩
    ·intro i b hb;exact d.alrd i _ b (hax i (hal i b hb).1) (hal i b hb).2
    ·intro i b hb;exact (ad1 i _ b (hax i (hal i b hb).1) (hal i b hb).2).2
    ·intro i j b hij hi hj hb h9 hc;simp only [ex,if_pos hj] at hc;exact ad2 i j _ _ b hij (hax i hi) (hax j hj) (hal i b hb).2 (qra hc h9)
    ·intro fr2 h2 G' M' a' w' e1 e2 e3 e4;have e5:R bs n gl G' M' fr' h' a' w':=e3.weaken (fun t v ht=>by rw [e1,<- hst m (ji5 _),<- hlen,<- d.efr]; exact ht) (fun b k hb=>by rw [e2,<- hlen,<- d.eh]; exact hb);refine qk9 (qfo hfull) e5 hom (qe0 hn m _ hom) hx1 hq fun fr3 h3 G3 M3 a3 w3 q1 q2 q3=>?_;exact ⟨.normal,G3,M3,fr3,h3,rfl,q1,q2,e4.trans q3⟩
    ·intro x y h1;by_cases hx:x < ops.size <;> simp [hx] at h1
    ·funext t;rw [qcc m (Nat.zero_le _) fun j _ h2 _=>by simp [show j < ops.size by omega]];rfl
    ·funext t;rw [qcc m (Nat.zero_le _) fun j _ h2 _=>by simp [show j < ops.size by omega]];rfl
    ·exact ⟨hr.sim.drawn,hr.frr,hr.sz,hr.df.ext (Ext.drawn (G:=G)),hr.gl,hr.bs⟩
    ·intro i hi _ b hb h9 hn;refine ⟨rfl,?_⟩
     cases hk:lk h b with
     | none=>rfl
     | some k=>
      exfalso
      have:∀ m,st Ws qde (lk h) m b ≠ none:=by
       intro m
       induction m with
       | zero=>show lk h b ≠ none; rw [hk]; simp
       | succ m ihm=>
        show ov (Ws m) (st Ws qde (lk h) m) b ≠ none;unfold ov;split
        ·simp
        ·exact ihm
      exact this i hn
    ·unfold unl;exact Nat.le_trans List.countP_le_length (by simp)
   ·exact old hx hw0
  ·exact old hx hw0
 ·exact old hx hw0
end
def qdo (P:Program) (n:Nat):Code->Option XC
 | .skip=>some .skip
 | .region _ ops draw=>match draw with
  | false=>(qbh P n ops ops.toList).map .ops
  | true=>qne P n ops
 | .seq a b=>match qdo P n a,qdo P n b with
  | some x,some y=>some (.seq x y)
  | _,_=>none
 | .cond c a b=>match qdo P n a,qdo P n b with
  | some x,some y=>some (.cond (co c) x y)
  | _,_=>none
 | .block id a=>match qdo P n a with
  | some x=>some (.block id x)
  | none=>none
 | .loop a=>match qdo P n a with
  | some x=>some (.loop x)
  | none=>none
 | .scope a=>match qdo P n a with
  | some x=>some (.scope x)
  | none=>none
 | .exit id=>some (.exit id)
 | .goto l=>some (.goto l)
 | .label l=>some (.label l)
 | .ret=>some .ret
 | .rangeFunc f ps asg body=>some (.rng n (2000000 + ps.toList.headD 0) (co f) ps.toList asg body)
 | _=>none
def q55 (P:Program) (f:FuncId) (fi:FnI):Prop:=
 ∃ fn body,P.funcs[f]? = some fn/\fn.body = some body/\fn.name ≠ "runtime.NumGoroutine" /\ fn.ntmps = fi.n/\qdm P fn.results.toList = some fi.rs/\qdo P fi.n body = some fi.code
section
variable {P:Program} {gl:Fr} {bs n:Nat} {fr:Fr} {h:Hp}
theorem qm1:∀ {c:Code} {x:XC},qdo P n c = some x->∀ {Q:IQ} {fr:Fr} {h:Hp},x.wpF P gl Q fr h->IW P n gl c Q fr h:=by
 intro c
 induction c with
 | skip=>intro x hx Q fr h hw; cases hx; exact IW.skip hw
 | region id ops draw=>
  intro x hx Q fr h hw;simp only [qdo] at hx
  cases draw with
  | false=>
   simp only [] at hx
   cases hl:qbh P n ops ops.toList with
   | none=>rw [hl] at hx; cases hx
   | some l=>
    rw [hl] at hx; cases hx;intro rd bs hn G M a w hr;refine wpIn_region ?_;have hll:l.length = ops.size:=by have:=(qa3 hl).1; simpa using this
    have:=qf4 (qe0 hn) hl (Q:=Up bs n gl G M w Q) l 0 rfl hr hw (fun fr' h' G' M' a' w' q1 q2 q3=>⟨.normal,G',M',fr',h',rfl,q1,q2,q3⟩);rw [Nat.sub_zero,hll,<- List.range_eq_range'] at this;exact this
  | true=>
   simp only [] at hx;exact jip hx hw
 | seq a b iha ihb=>
  intro x hx Q fr h hw;simp only [qdo] at hx;split at hx
  ·rename_i xa xb ha hb;cases hx;refine IW.seq (IW.mono (iha ha hw) fun e fr h hq=>?_)
   cases e with
   | normal=>exact ihb hb hq
   | exit id=>exact hq
   | goto l=>exact hq
   | ret=>exact hq
  ·cases hx
 | cond c a b iha ihb=>
  intro x hx Q fr h hw;simp only [qdo] at hx;split at hx
  ·rename_i xa xb ha hb;cases hx;simp only [XC.wpF] at hw;intro rd bs hn G M ac w hr
   cases hc0:ev gl fr (co c) with
   | none=>rw [hc0] at hw; exact hw.elim
   | some v=>
    rw [hc0] at hw;cases v <;> simp only [qq7] at hw;rename_i t;have hc:=qbc (qax hr hc0)
    cases t with
    | true=>exact wpIn_cond_true hc (iha ha (by simpa using hw) rd bs (fun h=>(Bool.and_eq_true_iff.1 (hn h)).1) G M ac w hr)
    | false=>exact wpIn_cond_false hc (ihb hb (by simpa using hw) rd bs (fun h=>(Bool.and_eq_true_iff.1 (hn h)).2) G M ac w hr)
  ·cases hx
 | block id a iha=>
  intro x hx Q fr h hw;simp only [qdo] at hx;split at hx
  ·rename_i xa ha; cases hx; exact IW.block (iha ha hw)
  ·cases hx
 | loop a iha=>
  intro x hx Q fr h hw;simp only [qdo] at hx;split at hx
  ·rename_i xa ha;cases hx;rcases hw with ⟨X,F,H,Inv,mu,x0,h0,h1,h2,h3⟩ | ⟨X,F,H,Inv,mu,h0,h3⟩ | ⟨X,F,H,Inv,mu,h0,h3⟩
   ·refine IW.loop F H Inv mu x0 h0 h1.spec h2.spec fun x hI=>IW.mono (iha ha (h3 x hI)) fun e fr h hq=>?_
    cases e with
    | normal=>obtain ⟨x',q1,q2,q3,q4⟩:=hq; exact ⟨x',q1,q2.spec,q3.spec,q4⟩
    | exit id=>exact hq
    | goto l=>exact hq
    | ret=>exact hq
   ·refine jhp F H Inv mu (h0.mono fun _ _ ⟨x0,q1,q2,q3⟩=>⟨x0,q1,q2.spec,q3.spec⟩) fun x hI=>IW.mono (iha ha (h3 x hI)) fun e fr h hq=>?_
    cases e with
    | normal=>exact MvP.mono (fun _ _ ⟨x',q1,q2,q3,q4⟩=>⟨x',q1,q2.spec,q3.spec,q4⟩) hq
    | exit id=>exact hq
    | goto l=>exact hq
    | ret=>exact hq
   ·refine jh8 (jhp F H Inv mu (h0.mono fun _ _ ⟨x0,q1,q2,q3⟩=>⟨x0,q1,q2.spec,q3.spec⟩) fun x hI=>IW.mono (iha ha (h3 x hI)) fun e fr h hq=>?_)
    cases e with
    | normal=>exact MvP.mono (fun _ _ ⟨x',q1,q2,q3,q4⟩=>⟨x',q1,q2.spec,q3.spec,q4⟩) hq
    | exit id=>exact hq
    | goto l=>exact hq
    | ret=>exact hq
  ·cases hx
 | scope a iha=>
  intro x hx Q fr h hw;simp only [qdo] at hx;split at hx
  ·rename_i xa ha;cases hx;intro rd bs hn G M ac w hr;refine qg3 (wpIn_mono (iha ha hw rd bs hn G M ac w hr) ?_);rintro e a' w' ⟨ie,G',M',fr',h',rfl,hq,hr',hx'⟩
   cases ie with
   | goto l=>exact hq.elim
   | normal=>exact ⟨.normal,G',M',fr',h',rfl,hq,hr',hx'⟩
   | exit id=>exact ⟨.exit id,G',M',fr',h',rfl,hq,hr',hx'⟩
   | ret=>exact ⟨.ret,G',M',fr',h',rfl,hq,hr',hx'⟩
  ·cases hx
 | exit id=>intro x hx Q fr h hw; cases hx; exact IW.exit hw
 | goto l=>intro x hx Q fr h hw; cases hx; exact IW.goto hw
 | label l=>intro x hx Q fr h hw; cases hx; exact IW.label hw
 | ret=>intro x hx Q fr h hw; cases hx; exact IW.ret hw
 | rangeFunc f ps a b=>
  intro x hx Q fr h hw;cases hx;simp only [XC.wpF] at hw
  cases hf:ev gl fr (co f) with
  | none=>rw [hf] at hw; exact hw.elim
  | some v=>
   rw [hf] at hw;cases v <;> simp only [q5y] at hw;obtain ⟨frs,hs,s1,s2,hc⟩:=hw;exact jib _ hf s1 s2 hc
 | refuse s=>intro x hx; cases hx
def jae:Nat->Code->Bool
 | 0,_=>true
 | k + 1,.seq _ b=>jae k b
 | _ + 1,_=>false
theorem qm2:∀ (k:Nat) {c:Code} {x:XC},jae k c = true->qdo P n c = some x->∀ {Q:IQ} {fr:Fr} {h:Hp},x.wpM P gl k Q fr h->IW P n gl c Q fr h
 | 0,c,x,_,hx,Q,fr,h,hw=>qm1 hx (by rw [qkc] at hw; exact hw)
 | k + 1,.seq a b,x,hs,hx,Q,fr,h,hw=>by
  simp only [jae] at hs;simp only [qdo] at hx;split at hx
  ·rename_i xa xb ha hb;cases hx;simp only [XC.wpM] at hw;refine IW.seq (IW.mono (qm1 ha hw) fun e fr h hq=>?_)
   cases e with
   | normal=>exact jig (MvP.mono (fun _ _ q=>qm2 k hs hb q) hq)
   | exit id=>exact hq
   | goto l=>exact hq
   | ret=>exact hq
  ·cases hx
theorem jif {f:FuncId} {fi:FnI} {args:List V} {K:V->Hp->Prop} (k:Nat) (hb:q55 P f fi) (hs:((P.funcs[f]?).bind (·.body)).map (jae k) = some true) (hk:Nat.ble args.length fi.n = true) (hw:fi.code.wpM P gl k (qy2 fi.rs K) (qoy 0 args) h):qa6 P gl f args h K:=by
 obtain ⟨fn,body,h1,h2,h3,h4,h5,h6⟩:=hb;rw [h1,Option.bind_some,h2] at hs;refine qa6.of_body h1 h2 h3 (by have:=Nat.le_of_ble_eq_true hk; omega) h5 ?_;rw [h4];exact qm2 k (by simpa using hs) h6 hw
end
end
end Go.Proofs.YtlmniacemoohpaaGreatDoor
