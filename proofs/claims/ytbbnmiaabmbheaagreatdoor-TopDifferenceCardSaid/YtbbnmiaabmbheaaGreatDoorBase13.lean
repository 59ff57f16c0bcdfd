/- Lemmas. Conditions: none. -/
import Derived.Test.YtbbnmiaabmbheaaGreatDoorBase16
set_option linter.all false
namespace Go.Proofs.YtbbnmiaabmbheaaGreatDoor
section
open Go
section
variable {P:Program} {gl:Fr} {bs:BS} {n:Nat} {ops:Array Oper} {gm:Nat->Nat}
theorem qha (hops:∀ d,(∃ o,o ∈ ops.toList/\o.dst = some d)->d < n):∀ (lo:List Oper) (lx:List qa4),qb9 P n ops lo = some lx->qid ops lo lx = true->(lx.all q3f) = true->∀ {fr:Fr} {h:Hp} {acc:Fps} {K:Fr->Hp->Fps->Prop},qh0 P gl gm lx fr h acc K->
  ∃ fr' h' fps vs Ws rd,K fr' h' (acc ++ fps)/\q3s P gl n ops gm lo lx fr h fr' h' fps vs Ws rd
 | [],lx,hc,_,_,fr,h,acc,K,hd=>by
  simp [qb9] at hc; subst hc;exact ⟨fr,h,[],fun _=>.undef,fun _=>[],fun _=>[],(by rw [List.append_nil]; exact hd),rfl,rfl,rfl,fun i hi=>by simp at hi,fun i x hx=>by simp at hx,fun i o x ho=>by simp at ho⟩
 | o :: lo,lx,hc,hsl,hro,fr,h,acc,K,hd=>by
  simp only [qb9] at hc;split at hc
  ·rename_i x l' hx hl;cases hc;simp only [qid,Bool.and_eq_true,List.all_eq_true] at hsl;obtain ⟨hs1,hs2⟩:=hsl;have hslot:∀ t ∈ x.op.slots,t ∈ o.looksAt ops:=fun t ht=>by simpa using hs1 t ht
   simp only [List.all_cons,Bool.and_eq_true] at hro;obtain ⟨hr1,hr2⟩:=hro;obtain ⟨c1,c2,c3,c4⟩:=qbr hx;simp only [qh0] at hd;rcases q0l hd with ⟨hg,hd⟩ | ⟨hg,hd⟩
   ·unfold qfi dopW at hd
    cases hac:qcr x.op with
    | none=>
     rw [hac] at hd;simp only [] at hd;obtain ⟨y,h1,h2⟩:=qoq hd;simp only [kRd,kD] at h2;obtain ⟨fr',h',fps,vs,Ws,rd,k1,k2⟩:=qha hops lo l' hl hs2 hr2 h2;rw [c3] at k2;refine ⟨fr',h',_,_,_,_,?_,k2.cons (v:=y.1) (W:=y.2.1) (r:=bif qah x.op then y.2.2 else x.dst.toList ++ y.2.2) ⟨fun hp=>qfb hp h1,fun ht=>⟨qfb (qed ht) h1,?_⟩⟩ fun j hj=>qw8 hops hj hx hslot hg h1 ?_⟩
     ·simpa [qqn] using k1
     ·rw [qed ht]; exact qlx ht h1
     ·unfold q3f at hr1;rw [hac] at hr1;simp only [Bool.or_eq_true] at hr1;rcases hr1 with (h | h) | h
      ·exact .inr (.inl h)
      ·exact .inl (fun e=>by rw [e] at h; cases h)
      ·exact .inr (.inr h)
    | some fa=>
     obtain ⟨f,as⟩:=fa;rw [hac] at hd;simp only [] at hd
     cases hf:ev gl fr f with
     | none=>rw [hf] at hd; exact hd.elim
     | some fv=>
      cases hvs:evs gl fr as with
      | none=>rw [hf,hvs] at hd; exact hd.elim
      | some vs0=>
       rw [hf,hvs] at hd;simp only [w2l] at hd;cases fv <;> simp only [qrb] at hd;rename_i fid fst cap;obtain ⟨res,W,rdc,hp,h2⟩:=hd;simp only [kD] at h2;obtain ⟨fr',h',fps,vs,Ws,rd,k1,k2⟩:=qha hops lo l' hl hs2 hr2 h2;rw [c3] at k2;have hio:=qc1 hac;have hal:qkx x = x.dst:=by unfold qkx; rw [hac]
       refine ⟨fr',h',_,_,_,_,?_,q3s.cons (v:=res) (W:=W) (r:=rdc) (o:=o) (x:=x) k2 ⟨fun hpu=>?_,fun ht=>?_⟩ fun j hj=>?_⟩
       ·simpa [qqn] using k1
       ·rw [hio] at hpu; cases hpu
       ·rw [hio] at ht; cases ht
       ·intro bs frx hx' G M a w Q K' hrr hF hH hid hk;unfold wpOp;simp only [hj];rw [qa6 hops hrr c2 hF hg,if_pos rfl];refine .inl ?_;rw [hio] at c1 hslot;obtain ⟨c,g,e1,e2,rfl,rfl⟩:=qep c1;rw [<- qbh,<- qag (F':=lk frx) (fun t ht=>hF t (hslot t (by simp only [IOp.slots,List.mem_append]; exact .inl ht))),qbh] at hf;rw [<- qgy,<- qes (F':=lk frx) (fun t ht=>hF t (hslot t (by simp only [IOp.slots,List.mem_append]; exact .inr ht))),qgy] at hvs
        have hcal:qbt P fid = true:=by
         cases hp with
         | pure hc _=>exact hc.1
         | borrow m hc _ _=>exact hc.1
         | own hc _ _ _=>exact hc.1
         | ownb m hc _ _ _ _=>exact hc.1
         | ownv m hc _ _ _ _ _ _ _ _=>exact hc.1
         | own2 hc _ _ _ _=>exact hc.1
         | purn m hc _ _ _=>exact hc.1
         | frzn m m2 hc _ _=>exact hc.1
         | lend D hc _ _ _ _ _ _ _ _=>exact hc.1
        have hex:qtv x = some (x.dst.getD 999999):=by unfold qtv; rw [hac]
        rw [hal] at hid;refine Oper.wp_mono ?_ (qmf hrr e1 e2 hf hvs hcal (Post:=fun rv w'=>∃ G' M',qak G' M' res rv/\Sim G' M' (W ++ hx') w'/\Ext G M w G' M' w'/\∀ b,¬ ofT x.dst b->qaa M' b = qaa M b) fun rargs hsz hrel=>(hp.calls hH hid hrr.sim hrr.gl hsz hrel).2);rintro a' w' ⟨rv,rfl,G',M',m1,m2,m3,m4⟩;refine hk rv G' M' w' (hrr.put c4 m1 m2 m3) m3 (fun b hb _=>m4 b fun ⟨q,e,e'⟩=>hb ⟨q,by rw [hex,e]; rfl,e'⟩)
   ·simp only [kU] at hd;obtain ⟨fr',h',fps,vs,Ws,rd,k1,k2⟩:=qha hops lo l' hl hs2 hr2 hd;rw [c3] at k2;refine ⟨fr',h',_,_,_,_,?_,q3s.cons (v:=.tup []) (W:=[]) (r:=(qkx x).toList) (o:=o) (x:=x) k2 ⟨fun _=>rfl,fun ht=>⟨rfl,?_⟩⟩ fun j hj=>qqz hops hj hx hg⟩
    ·simpa [qqn] using k1
    ·unfold qkx
     cases hc:qcr x.op with
     | none=>simp [qed ht]
     | some fa=>rw [qnm hc] at ht; cases ht
  ·cases hc
theorem q14 {x:qa4} {b:Nat} (h:qtv x = some b) (hb:b ≠ 999999):qkx x = some b:=by
 unfold qtv at h;unfold qkx
 cases hc:qcr x.op with
 | some fa=>
  rw [hc] at h;simp only [Option.some.injEq] at h ⊢
  cases hd:x.dst with
  | none=>rw [hd] at h; exact absurd h.symm hb
  | some d=>rw [hd] at h; simp only [Option.getD_some] at h; rw [h]
 | none=>
  rw [hc] at h;simp only [] at h ⊢
  cases hp:qah x.op with
  | true=>rw [hp] at h; cases h
  | false=>
   rw [hp] at h;simp only [cond_false,Option.some.injEq] at h ⊢
   cases hd:x.dst with
   | none=>rw [hd] at h; exact absurd h.symm hb
   | some d=>rw [hd] at h; simp only [Option.getD_some] at h; rw [h]
theorem qgs:∀ {l:List qa4} {seen:List Nat},qlb l seen = true->(∀ (i:Nat) (x:qa4) (b:Nat),l[i]? = some x->qkx x = some b->b ∉ seen/\b < 999999)/\∀ (i j:Nat) (x y:qa4) (b:Nat),i ≠ j->l[i]? = some x->l[j]? = some y->qkx x = some b->qkx y ≠ some b
 | [],seen,_=>⟨fun i x b h=>by simp at h,fun i j x y b _ h=>by simp at h⟩
 | z :: r,seen,h=>by
  simp only [qlb] at h
  cases hz:qkx z with
  | none=>
   rw [hz] at h;obtain ⟨i1,i2⟩:=qgs h;refine ⟨fun i x b hx hb=>?_,fun i j x y b hij hx hy hb hb'=>?_⟩
   ·cases i with
    | zero=>simp at hx; subst hx; rw [hz] at hb; cases hb
    | succ i=>exact i1 i x b (by simpa using hx) hb
   ·cases i with
    | zero=>simp at hx; subst hx; rw [hz] at hb; cases hb
    | succ i=>
     cases j with
     | zero=>simp at hy; subst hy; rw [hz] at hb'; cases hb'
     | succ j=>exact i2 i j x y b (by omega) (by simpa using hx) (by simpa using hy) hb hb'
  | some c=>
   rw [hz] at h;simp only [Bool.and_eq_true,Bool.not_eq_true'] at h;obtain ⟨⟨h1,h2⟩,h3⟩:=h;obtain ⟨i1,i2⟩:=qgs h3;have hc1:c ∉ seen:=fun hm=>by rw [qjd.2 hm] at h1; cases h1
   have hc2:c < 999999:=Nat.le_of_ble_eq_true h2;refine ⟨fun i x b hx hb=>?_,fun i j x y b hij hx hy hb hb'=>?_⟩
   ·cases i with
    | zero=>simp at hx; subst hx; rw [hz] at hb; cases hb; exact ⟨hc1,hc2⟩
    | succ i=>
     obtain ⟨q1,q2⟩:=i1 i x b (by simpa using hx) hb;exact ⟨fun hm=>q1 (List.mem_cons_of_mem _ hm),q2⟩
   ·cases i with
    | zero=>
     simp at hx; subst hx; rw [hz] at hb; cases hb
     cases j with
     | zero=>exact hij rfl
     | succ j=>exact (i1 j y _ (by simpa using hy) hb').1 List.mem_cons_self
    | succ i=>
     cases j with
     | zero=>
      simp at hy; subst hy; rw [hz] at hb'; cases hb';exact (i1 i x _ (by simpa using hx) hb).1 List.mem_cons_self
     | succ j=>exact i2 i j x y b (by omega) (by simpa using hx) (by simpa using hy) hb hb'
theorem qpm {l:List qa4} (h:qlb l [] = true) {i j:Nat} {x y:qa4} {b:Nat} (hij:i ≠ j) (hx:l[i]? = some x) (hy:l[j]? = some y):ofT (qkx x) b->¬ ofT (qtv y) b:=by
 obtain ⟨h1,h2⟩:=qgs h;rintro ⟨d,e,q⟩ ⟨d',e',q'⟩;have a1:=(h1 i x d hx e).2;by_cases h9:d' = 999999
 ·omega
 ·have e2:=q14 e' h9;have a2:=(h1 j y d' hy e2).2;have:d ≠ d':=fun hd=>h2 i j x y d hij hx hy e (by rw [e2,hd]);omega
theorem jj1 {id:Nat} {x:XC} (hx:qjs P n ops = some x) {fr:Fr} {h:Hp} {Q:IQ}:∃ l chk,x = .reg l chk/\((∀ gm,qh0 P gl gm l fr h [] (fun fr' h' fps=>qlp fps chk = true/\Q .normal fr' h'))->IW P n gl (.region id ops true) Q fr h):=by
 unfold qjs at hx;split at hx
 ·cases hx
 ·rename_i all hall;split at hx
  ·rename_i hcond;obtain ⟨hm,hback,hslots,hpairs,hok⟩:=hcond;cases hx;refine ⟨_,_,rfl,fun hw=>?_⟩;simp only [Bool.and_eq_true] at hok;obtain ⟨hro,had⟩:=hok;intro rd0 bs hn G M a w hr;refine wpIn_region_any hm (qif (qmy hn) Up.noOut ?_);obtain ⟨fr',h',fps,vs,Ws,rd,⟨hind,hq⟩,d⟩:=qha (gm:=qaa M) (qjx hall) ops.toList all hall hslots hro (hw (qaa M));rw [List.nil_append] at hind;have hlen:ops.toList.length = ops.size:=by simp
   have hall_len:=(qbl hall).1;have hDv:DvL ops.toList vs = Dv ops vs:=by funext i; simp [DvL,Dv]; rfl
   have hax:∀ i,i < ops.size->all[i]? = some (all.getD i default):=fun i hi=>by
    have hi':i < all.length:=by omega
    rw [jkh hi',jkd,jkh hi']; rfl
   let al:Nat->Option Nat:=fun i=>if i < ops.size then qkx (all.getD i default) else none
   let ex:Nat->Option Nat:=fun i=>if i < ops.size then qtv (all.getD i default) else none
   refine q3g (P:=P) (gl:=gl) (bs:=bs) (n:=n) (gm:=qaa M) (vs:=vs) (Ws:=Ws) (rd:=fun i b=>b ∈ rd i) (al:=al) (ex:=ex) (F0:=lk fr) (H0:=lk h) hback ?_ ?_ ?_ ?_ (G0:=G) (M0':=M) (w0:=w) ?_
    ops.size (Array.replicate ops.size false) fr h G M a _ (by simp) ?_ ?_ ?_ ?_ Ext.drawn ?_ ?_
   ·intro i o ho;have hi:i < ops.size:=(Array.getElem?_eq_some_iff.1 ho).1;have e1:al i = qkx (all.getD i default):=by simp only [al,if_pos hi]
    have e2:ex i = qtv (all.getD i default):=by simp only [ex,if_pos hi]
    rw [e1,e2,<- hDv];intro bs fr h G M a w Q K' h1 h2 h3 h4 h5;exact d.y i o _ (by simpa using ho) (hax i hi) i ho h1 h2 h3 h4 h5
   ·intro i j oi oj hij hoi hoj hb;have hj:j < ops.size:=(Array.getElem?_eq_some_iff.1 hoj).1;simp only [qqe,List.all_eq_true,List.mem_range,Bool.or_eq_true] at hpairs;rcases hpairs j hj i hij with h | h
    ·rw [hb] at h; cases h
    ·rw [hoi,hoj] at h; exact qis h
   ·intro i j hij hj hb;have hxi:=hax i (by omega);have hxj:=hax j hj
    cases hc:qsh (all.getD i default).op (all.getD j default).op with
    | true=>
     have hmem:=qnq hij hxi hxj hb hc;have:=List.all_eq_true.1 hind _ hmem;rw [d.fp i (by omega),d.fp j (by omega)] at this;exact qn8 this
    | false=>
     simp only [qsh,Bool.or_eq_false_iff,Bool.and_eq_false_iff,Bool.not_eq_false'] at hc;obtain ⟨h1,h2⟩:=hc;have pi:=d.pure i _ hxi;have pj:=d.pure j _ hxj
     have key:(Ws i = []/\Ws j = [])∨(Ws i = []/\rd i = [])∨(Ws j = []/\rd j = []):=by
      rcases h1 with h1 | h1
      ·rcases h2 with h2 | h2
       ·exact .inr (.inl (pi.2 h2))
       ·exact .inl ⟨pi.1 h1,pj.1 h2⟩
      ·exact .inr (.inr (pj.2 h1))
     rcases key with ⟨e1,e2⟩ | ⟨e1,e2⟩ | ⟨e1,e2⟩
     ·rw [e1,e2]; exact ⟨(fun _=>.inl rfl),(fun _ _=>rfl),(fun _ _=>rfl)⟩
     ·rw [e1]; exact ⟨(fun _=>.inl rfl),(fun _ _=>rfl),(fun b hb=>by simp only [e2] at hb; cases hb)⟩
     ·rw [e1]; exact ⟨(fun _=>.inr rfl),(fun b hb=>by simp only [e2] at hb; cases hb),(fun _ _=>rfl)⟩
   ·intro i j b hij hi hj;simp only [al,ex,if_pos hi,if_pos hj];exact qpm had hij (hax i hi) (hax j hj)
   ·intro fr2 h2 G' M' a' w' e1 e2 e3 e4;refine ⟨.normal,G',M',fr',h',rfl,hq,?_,e4⟩;refine e3.weaken (fun t v ht=>?_) (fun b k hb=>?_)
    ·rw [e1,<- hDv,<- hlen,<- d.efr]; exact ht
    ·rw [e2,<- hlen,<- d.eh]; exact hb
   ·intro x y h1;by_cases hx:x < ops.size <;> simp [hx] at h1
   ·funext t;rw [qdm ops.size (Nat.zero_le _) fun j _ h2 _=>by simp [h2]];rfl
   ·funext t;rw [qdm ops.size (Nat.zero_le _) fun j _ h2 _=>by simp [h2]];rfl
   ·exact ⟨hr.sim.drawn,hr.frr,hr.sz,hr.df.ext (Ext.drawn (G:=G)),hr.gl,hr.bs⟩
   ·intro i hi _ b hb hbr hn;refine ⟨rfl,?_⟩
    cases hk:lk h b with
    | none=>rfl
    | some k=>
     exfalso
     have:∀ m,st Ws qe2 (lk h) m b ≠ none:=by
      intro m
      induction m with
      | zero=>show lk h b ≠ none; rw [hk]; simp
      | succ m ihm=>
       show ov (Ws m) (st Ws qe2 (lk h) m) b ≠ none;unfold ov;split
       ·simp
       ·exact ihm
     exact this i hn
   ·unfold unl;exact Nat.le_trans List.countP_le_length (by simp)
  ·cases hx
end
end
section
open Go
def qt5 (P:Program) (gl:Fr) (K:V->Hp->Prop) (h:Hp):V->List V->Prop
 | .fn g fst cap,vs=>qa2 P gl g (fst ++ vs ++ cap) h K
 | .own b g,vs=>qq3 P gl b g vs h K
 | _,_=>False
def kS (K:V->Hp->Prop) (h:Hp) (v:V) (W:Hp) (_:List Nat):Prop:=K v (W ++ h)
def q4b (gl:Fr) (fr:Fr):IOp->Bool
 | .n (.isnil _ x)=>match ev gl fr x with
  | some (.sl [] _)=>true
  | _=>false
 | _=>false
def mnq:IOp->Option qal
 | .n (.mnext x)=>some x
 | _=>none
def qrr (K:V->Hp->Prop) (h:Hp) (b g gb:Nat) (x:V) (n:Nat) (seen:List Nat):Option Blk->Prop
 | some (.map gb' es)=>gb' = gb/\es.length = n/\((∀ i,i < n->i ∈ seen)->K (.tup [.bool false]) h)/\
   ∀ i,i < n->i ∉ seen->K (.tup [.bool true,(es.getD i (.undef,.undef)).1,(es.getD i (.undef,.undef)).2]) ((b,.miter g x n (seen ++ [i])) :: h)
 | _=>False
def qrq (K:V->Hp->Prop) (h:Hp) (b g:Nat):Option Blk->Prop
 | some (.miter g' (.own b2 g2) n seen)=>g' = g/\qrr K h b g g2 (.own b2 g2) n seen (lk h b2)
 | _=>False
def qom (K:V->Hp->Prop) (h:Hp):Option V->Prop
 | some (.own b g)=>qrq K h b g (lk h b)
 | _=>False
def opW (P:Program) (gl:Fr) (id:Nat) (fr:Fr) (h:Hp) (K:V->Hp->Prop) (op:IOp):Prop:=
 match qcr op with
 | some (f,as)=>w2l (ev gl fr f) (evs gl fr as) (qt5 P gl K h)
 | none=>match mnq op with
  | some x=>qom K h (ev gl fr x)
  | none=>match q4b gl fr op with
   | true=>∀ b,K (.bool b) h
   | false=>∀ gf,qbn (eop gl gf id (lk fr) (lk h) op) (kS K h)
def opT (P:Program) (gl:Fr) (id:Nat) (fr:Fr) (h:Hp) (K:V->Hp->Prop) (op:IOp) (_:Unit):Prop:=opW P gl id fr h K op
def kF (I:Fr->Hp->(Fr->Hp->Prop)->Prop) (dst:Option Nat) (fr:Fr) (K:Fr->Hp->Prop) (v:V) (h:Hp):Prop:=I (qk5 fr dst v) h K
def kT (I:Fr->Hp->(Fr->Hp->Prop)->Prop) (dst:Option Nat) (fr:Fr) (h:Hp) (K:Fr->Hp->Prop) (_:Unit):Prop:=I (qk5 fr dst (.tup [])) h K
def qkr (P:Program) (gl:Fr):List qa4->Fr->Hp->(Fr->Hp->Prop)->Prop
 | [],fr,h,K=>K fr h
 | o :: r,fr,h,K=>gF fr (opT P gl (o.dst.getD 999999) fr h (kF (qkr P gl r) o.dst fr K) o.op) (kT (qkr P gl r) o.dst fr h K) o.guard
def qub (A B:Fr->Hp->Prop) (fr:Fr) (h:Hp):Option V->Prop
 | some (.bool t)=>if t = true then A fr h else B fr h
 | _=>False
def QN (Q:IQ) (fr:Fr) (h:Hp):Prop:=Q .normal fr h
def jdq (chk:List (Nat × Nat)) (K:Fr->Hp->Prop) (fr:Fr) (h:Hp) (fps:Fps):Prop:=qlp fps chk = true/\K fr h
def qwj (Q:IQ):IQ
 | .goto _,_,_=>False
 | e,fr,h=>Q e fr h
def jhv (b g:Nat) (Q:IQ) (fr:Fr) (_:V) (h:Hp):Prop:=∃ m frl psl asl bdl,lk h b = some (.loop g m frl psl asl bdl false)/\Q .normal fr ((b,.dead g) :: h)
def jbf (P:Program) (gl:Fr) (n b:Nat) (ps:List Nat) (asg body:Code) (Q:IQ) (fr:Fr) (h:Hp):Option V->Prop
 | some (.fn fid fst cap)=>∃ frs hs,Sub frs fr/\Sub hs h/\∀ g,qa2 P gl fid (fst ++ [.own b g] ++ cap) ((b,.loop g n frs ps asg body false) :: hs) (jhv b g Q fr)
 | _=>False
def XC.wpF (P:Program) (gl:Fr):XC->IQ->Fr->Hp->Prop
 | .skip,Q,fr,h=>Q .normal fr h
 | .ops l,Q,fr,h=>qkr P gl l fr h (QN Q)
 | .reg l chk,Q,fr,h=>∀ gm,qh0 P gl gm l fr h [] (jdq chk (QN Q))
 | .seq a b,Q,fr,h=>a.wpF P gl (ql3 (b.wpF P gl Q) Q) fr h
 | .cond c a b,Q,fr,h=>qub (a.wpF P gl Q) (b.wpF P gl Q) fr h (ev gl fr c)
 | .block id a,Q,fr,h=>a.wpF P gl (qjo id Q) fr h
 | .loop a,Q,fr,h=>qau (a.wpF P gl) Q fr h
 | .scope a,Q,fr,h=>a.wpF P gl (qwj Q) fr h
 | .exit id,Q,fr,h=>Q (.exit id) fr h
 | .goto l,Q,fr,h=>Q (.goto l) fr h
 | .label _,Q,fr,h=>Q .normal fr h
 | .ret,Q,fr,h=>Q .ret fr h
 | .rng n b f ps asg body,Q,fr,h=>jbf P gl n b ps asg body Q fr h (ev gl fr f)
section
variable {P:Program} {gl:Fr} {bs:BS} {n:Nat} {fr:Fr} {h:Hp} {G:qaz} {M:qar} {a:Act} {w:World} {ops:Array Oper}
theorem qs2 (hr:R bs n gl G M fr h a w) {o:Oper} {io:IOp} (hc:qg9 P o = some io) (hq:q4b gl fr io = true) {Q:Exit->Act->World->Prop}:o.wp P a w (qan (fun v _=>∃ b,v = .bool b) G M w o a h) Q:=by
 unfold q4b at hq;split at hq
 ·rename_i neg x;split at hq
  ·rename_i cap hv;rcases qdn hc with ⟨x',e,hn⟩ | hc1
   ·cases e;rcases hn with hn | hn
    ·rcases qf6 hn with hn | hn
     ·rcases qlf hn with ⟨_,_,q⟩ | ⟨_,_,_,_,_,q⟩ <;> cases q
     unfold qhy at hn
     have key:∀ (neg:Bool) (t ty:TypeId) (e:TypeId) (x1 y1:Operand),ev gl fr (co x1) = some (.sl [] cap)->o.op = .binOp (if neg then .neq else .eql) t x1 y1 ty->P.underlying t = some (.slice e)->qhg y1 = true->o.wp P a w (qan (fun v _=>∃ b,v = .bool b) G M w o a h) Q:=by
      intro neg t ty e x1 y1 hv ho hu hny;have:=qat hr hv;generalize hev:a.eval x1 = r at this
      cases this with
      | slnil _ base rcap hcc hb=>exact qai hr (v:=.bool (if neg then !base.isNone else base.isNone)) (rv:=.bool (if neg then !base.isNone else base.isNone)) (qlj neg ho hu hny hev) ⟨_,rfl⟩ (.bool _)
      | sl _ _ _ _ _ _ _ hne=>exact absurd rfl hne
     split at hn
     ·rename_i op t x1 y1 ty ho;split at hn
      ·rename_i e hu;split at hn
       ·rename_i hny; cases hn; exact key false t ty e x1 y1 hv ho hu hny
       ·cases hn
      ·rename_i e hu;split at hn
       ·rename_i hny; cases hn; exact key true t ty e x1 y1 hv ho hu hny
       ·cases hn
      ·split at hn <;> cases hn
      ·split at hn <;> cases hn
      ·cases hn
     all_goals (repeat' split at hn) <;> first | cases hn | (simp at hn)
    ·cases hn
   ·exfalso;unfold qky at hc1
    (repeat' split at hc1) <;> first | cases hc1 | (simp at hc1; done)
  ·cases hq
 ·cases hq
theorem qp6 (hr:R bs n gl G M fr h a w) {o:Oper} {it:Operand} (ho:o.op = .next it false) {K:V->Hp->Prop} (hw:qom K h (ev gl fr (co it))) {Q:Exit->Act->World->Prop}:o.wp P a w (fun a' w'=>∃ v h' rv G' M',K v h'/\a' = a.put o.dst rv/\qak G' M' v rv/\Sim G' M' h' w'/\Ext G M w G' M' w') Q:=by
 unfold qom at hw;split at hw
 ·rename_i b g hx;unfold qrq at hw;split at hw
  ·rename_i g' b2 g2 n2 seen hb;obtain ⟨e1,hw⟩:=hw;subst e1;unfold qrr at hw;split at hw
   ·rename_i g3 es hb2;obtain ⟨e2,e3,hw1,hw2⟩:=hw;subst e2; subst e3;obtain ⟨mb,rb,m5,m1,m2,m3,m4,r2,m6,m7⟩:=qot hr.sim (qat hr hx) hb;have m5:=m5 rfl;obtain ⟨mb2,rb2,k1,k2,k3,k4,k5,entries,clock,k6,⟨k7,k8,k9⟩,k10⟩:=qia hr.sim m6 hb2;cases k5
    have hget:∀ j (hj:j < entries.size),(entries[j]).born = j:=fun j hj=>by
     have:=k9 j (by omega);simpa [jke,hj] using this
    have hold:∀ x ∈ entries.toList,x.born < es.length:=fun x hm=>by
     obtain ⟨j,hj,rfl⟩:=List.mem_iff_getElem.1 hm;have hj2:j < entries.size:=by simpa using hj
     have:=hget j hj2;simp only [Array.getElem_toList];omega
    have hrb:rb < w.heap.size:=(Array.getElem?_eq_some_iff.1 m7).1;have hnx:=fun ty=>run_next_at (P:=P) w ty rb _ es.length es.length seen.toArray entries clock m7 k6 hold (jki _)
    have hin:∀ {j},j < entries.size->entries[j]! ∉ (leftOf entries seen.toArray).toList->j ∈ seen:=fun {j} hj hm=>by
     have hb1:=hget j hj;by_cases hc:j ∈ seen
     ·exact hc
     ·refine absurd ?_ hm;have:entries[j]! = entries[j]:=by simp [hj]
      rw [this];simp [leftOf,hb1,hc]
    unfold Oper.wp
    have hex:∃ ty,(execOp a.eval o).run P w = ((Instr.next (.pointer (some ⟨rb,0,none⟩)) false ty).run P w).andThen fun v w=>.ok (.value v) w:=by
     refine ⟨o.type,?_⟩;simp only [execOp,ho,m5,Sem.run_bind,Sem.run_pure]
    obtain ⟨ty,hex⟩:=hex;rcases hnx ty with ⟨q1,q2⟩ | ⟨e,q1,w1,q2,q3⟩
    ·rw [hex,q2];refine ⟨_,h,_,G,M,hw1 fun i hi=>hin (by omega) ?_,rfl,.tup _ _ rfl (fun i hi=>?_),hr.sim,.refl _ _ _⟩
     ·have:(leftOf entries seen.toArray) = #[]:=Array.eq_empty_of_size_eq_zero q1;rw [this]; simp
     ·match i,hi with
      | 0,_=>exact .bool _
    ·rw [hex,q3]
     obtain ⟨j,hj,hje⟩:∃ j,∃ hj:j < entries.size,entries[j] = e:=by
      have:e ∈ entries.toList:=by simp [leftOf] at q1 ⊢; exact q1.1
      obtain ⟨j,hj,h2⟩:=List.mem_iff_getElem.1 this;exact ⟨j,by simpa using hj,by simpa using h2⟩
     subst hje
     have hns:j ∉ seen:=by
      simp [leftOf,hget j hj] at q1;exact q1
     have hle:M.le (upd M b mb):=jip fun m' hm'=>.inr (by rw [m1] at hm'; cases hm'; rfl);have hdr:w1.heap = w.heap/\w1.os = w.os/\w1.tape = w.tape/\w1.output = w.output:=by rcases q2 with rfl | rfl <;> exact ⟨rfl,rfl,rfl,rfl⟩
     obtain ⟨d1,d2,d3,d4⟩:=hdr
     have hp:(ChangeMaps.setBlock w1 rb (.mapIter (some r2) es.length (seen.toArray.push (entries[j]).born) clock)).heap = w.heap.setIfInBounds rb (.mapIter (some r2) es.length (seen.toArray.push (entries[j]).born) clock):=by
      rw [<- d1]; rfl
     obtain ⟨s1,s2⟩:Sim G (upd M b mb) ((b,.miter g' (.own b2 g3) es.length (seen ++ [j])) :: h) (ChangeMaps.setBlock w1 rb (.mapIter (some r2) es.length (seen.toArray.push (entries[j]).born) clock))/\Ext G M w G (upd M b mb) (ChangeMaps.setBlock w1 rb (.mapIter (some r2) es.length (seen.toArray.push (entries[j]).born) clock)):=by
      refine hr.sim.change b mb _ (fun m' hm'=>.inr (by rw [m1] at hm'; cases hm'; rfl)) (fun r hr'=>.inr ⟨mb,m1,hr'⟩) (by rw [hp]; simp) (fun q hq hne=>?_) (fun _ _ _ _=>trivial) d2 d3 d4 ?_
      ·rw [hp]; exact (MapKept.heap_set m7).2 q (fun e=>hne (by rw [m3,e]))
      ·refine ⟨mb,rb,qaw _ _ _,m2,m3,m4,_,m6.mono G.le_refl hle,?_⟩;rw [hp,(MapKept.heap_set m7).1,hget j hj,k8];simp
     obtain ⟨r1,r2⟩:=k10 j (by omega);have hg:entries.getD j default = entries[j]:=by simp [jke,hj]
     rw [hg] at r1 r2;refine ⟨_,_,_,G,_,hw2 j (by omega) hns,rfl,.tup _ _ rfl (fun i hi=>?_),s1,s2⟩
     match i,hi with
     | 0,_=>exact .bool _
     | 1,_=>exact r1.mono G.le_refl hle
     | 2,_=>exact r2.mono G.le_refl hle
   ·exact hw.elim
  ·exact hw.elim
 ·exact hw.elim
theorem qvy {rd:Option Nat} (hops:∀ d,(∃ o,o ∈ ops.toList/\o.dst = some d)->d < n) (hr:R bs n gl G M fr h a w) {i:Nat} {o:Oper} (ho:ops[i]? = some o) (hd:rd.isSome = true->qe6 o.op = false) {x:qa4} (hx:qgm P n ops o = some x) {Q:Exit->Act->World->Prop} {K':Act->World->Prop} {K:Fr->Hp->Prop} {I:Fr->Hp->(Fr->Hp->Prop)->Prop}
  (hw:gF fr (opT P gl (x.dst.getD 999999) fr h (kF I x.dst fr K) x.op) (kT I x.dst fr h K) x.guard)
  (hk:∀ fr' h' G' M' a' w',I fr' h' K->R bs n gl G' M' fr' h' a' w'->Ext G M w G' M' w'->K' a' w'):wpOpIn (FW rd) 0 P ops Q i K' a w:=by
 obtain ⟨c1,c2,c3,c4⟩:=qbr hx;unfold wpOpIn;simp only [ho];rcases q0l hw with ⟨hg,hw⟩ | ⟨hg,hw⟩
 ·rw [qa6 hops hr c2 (F:=lk fr) (fun _ _=>rfl) hg,if_pos rfl];unfold opT opW at hw
  cases hac:qcr x.op with
  | some fa=>
   obtain ⟨f,as⟩:=fa;rw [hac] at hw;simp only [] at hw
   cases hf:ev gl fr f with
   | none=>rw [hf] at hw; exact hw.elim
   | some fv=>
    cases hvs:evs gl fr as with
    | none=>rw [hf,hvs] at hw; exact hw.elim
    | some vs=>
     rw [hf,hvs] at hw;simp only [w2l] at hw;rw [qc1 hac] at c1;obtain ⟨c,g,e1,e2,rfl,rfl⟩:=qep c1;cases fv <;> simp only [qt5] at hw
     case own b gg=>
      refine Oper.wpIn_mono ?_ (qy6 hr e1 e2 hf hvs hw);rintro a' w' ⟨rv,v,h',G',M',rfl,q1,q2,q3,q4⟩;have:=hr.put (dst:=o.dst) c4 q2 q3 q4;simp only [kF] at q1;rw [c3] at q1;exact hk _ _ G' M' _ _ q1 this q4
     rename_i fid fst cap;obtain ⟨hcal,hic⟩:=hw;refine jim hd (Oper.wp_mono ?_ (qmf hr e1 e2 hf hvs hcal (Post:=fun rv w'=>∃ v h' G' M',kF I x.dst fr K v h'/\qak G' M' v rv/\Sim G' M' h' w'/\Ext G M w G' M' w') fun rargs hsz hrel=>?_))
     ·rintro a' w' ⟨rv,rfl,v,h',G',M',q1,q2,q3,q4⟩;have:=hr.put (dst:=o.dst) c4 q2 q3 q4;rw [c3] at q1;exact hk _ _ G' M' _ _ q1 this q4
     ·refine Calls.mono (hic G M w rargs hr.sim hr.gl hsz hrel) ?_;rintro e w' ⟨rv,v,h',G',M',rfl,q1,q2,q3,q4⟩;exact ⟨rv,rfl,v,h',G',M',q1,q2,q3,q4⟩
  | none=>
   rw [hac] at hw;simp only [] at hw
   cases hmn:mnq x.op with
   | some x0=>
    rw [hmn] at hw;simp only [] at hw
    obtain ⟨it,e1,rfl⟩:∃ it,o.op = .next it false/\x0 = co it:=by
     unfold mnq at hmn;split at hmn
     ·rename_i x1 hxo;cases hmn;rw [hxo] at c1;rcases qdn c1 with ⟨x',e,hn⟩ | hc1
      ·cases e;rcases hn with hn | hn
       ·rcases qf6 hn with hn | hn
        ·rcases qlf hn with ⟨_,_,q⟩ | ⟨_,_,_,_,_,q⟩ <;> cases q
        unfold qhy at hn
        (repeat' split at hn) <;> first | (cases hn; exact ⟨_,by assumption,rfl⟩) | cases hn | (simp at hn; done)
       ·cases hn
      ·exfalso;unfold qky at hc1
       (repeat' split at hc1) <;> first | cases hc1 | (simp at hc1; done)
     ·cases hmn
    refine jim hd (Oper.wp_mono ?_ (qp6 hr e1 hw));rintro a' w' ⟨v,h',rv,G',M',q1,rfl,q3,q4,q5⟩;have:=hr.put (dst:=o.dst) c4 q3 q4 q5;simp only [kF] at q1;rw [c3] at q1;exact hk _ _ G' M' _ _ q1 this q5
   | none=>
   rw [hmn] at hw;simp only [] at hw
   cases hnq:q4b gl fr x.op with
   | true=>
    rw [hnq] at hw;simp only [] at hw;refine jim hd (Oper.wp_mono ?_ (qs2 hr c1 hnq));rintro a' w' ⟨v,rv,⟨b,rfl⟩,rfl,q3,rfl⟩;have h2:=hw b;simp only [kF] at h2;have:=hr.put (dst:=o.dst) c4 q3 hr.sim (.refl _ _ _);rw [c3] at h2;exact hk _ _ G M _ _ h2 this (.refl _ _ _)
   | false=>
   rw [hnq] at hw;simp only [] at hw;obtain ⟨y,h1,h2⟩:=qoq (hw (qaa M));refine jim hd (Oper.wp_mono ?_ (qhb hr c1 h1));rintro a' w' ⟨v,h',rv,G',M',⟨rfl,rfl⟩,rfl,q3,q4,q5,-⟩;have:=hr.put (dst:=o.dst) c4 q3 q4 q5;simp only [kS,kF] at h2;rw [c3] at h2;exact hk _ _ G' M' _ _ h2 this q5
 ·rw [qa6 hops hr c2 (F:=lk fr) (fun _ _=>rfl) hg,if_neg (by simp)];simp only [kT] at hw;rw [c3] at hw;exact ⟨fun _ _=>trivial,hk _ _ G M _ _ hw (hr.put c4 (.tup [] #[] rfl (fun i hi=>by simp at hi)) hr.sim (.refl _ _ _)) (.refl _ _ _)⟩
theorem qks {rd:Option Nat} (hd:∀ (i:Nat) (o:Oper),ops[i]? = some o->rd.isSome = true->qe6 o.op = false) {all:List qa4} (hx:qb9 P n ops ops.toList = some all) {Q:Exit->Act->World->Prop} {K:Fr->Hp->Prop}:∀ (l:List qa4) (k:Nat),all.drop k = l->∀ {fr h G M a w},R bs n gl G M fr h a w->qkr P gl l fr h K->
  (∀ fr' h' G' M' a' w',K fr' h'->R bs n gl G' M' fr' h' a' w'->Ext G M w G' M' w'->Q .normal a' w')->wpOpsIn (FW rd) 0 P ops Q (List.range' k (all.length - k)) a w
 | [],k,hk,fr,h,G,M,a,w,hr,hi,hq=>by
  have:all.length - k = 0:=by have:=congrArg List.length hk; simpa using this
  rw [this];exact hq fr h G M a w hi hr (.refl _ _ _)
 | x :: l,k,hk,fr,h,G,M,a,w,hr,hi,hq=>by
  have hlen:all.length - k = l.length + 1:=by have:=congrArg List.length hk; simpa using this
  rw [hlen,List.range'_succ,wpOpsIn_cons]
  have hxk:all[k]? = some x:=by
   have:=congrArg (fun q:List qa4=>q[0]?) hk;simpa using this
  have hkl:k < ops.toList.length:=by rw [<- (qbl hx).1]; exact (List.getElem?_eq_some_iff.1 hxk).1
  obtain ⟨x',hx1,hx2⟩:=(qbl hx).2 k _ (jkh hkl);rw [hxk] at hx1; cases hx1;have hok:ops[k]? = some ops.toList[k]:=by simp at hkl; simp [hkl]
  have hdrop:all.drop (k + 1) = l:=by rw [<- List.tail_drop,hk]; rfl
  have hll:all.length - (k + 1) = l.length:=by omega
  refine qvy (qjx hx) hr hok (hd k _ hok) hx2 hi fun fr' h' G' M' a' w' hK hr' hext=>?_;have:=qks hd hx (Q:=Q) l (k + 1) hdrop hr' hK (fun fr2 h2 G2 M2 a2 w2 q1 q2 q3=>hq fr2 h2 G2 M2 a2 w2 q1 q2 (hext.trans q3));rw [hll] at this; exact this
theorem qpd:∀ {c:Code} {x:XC},qc2 P n c = some x->∀ {Q:IQ} {fr:Fr} {h:Hp},x.wpF P gl Q fr h->IW P n gl c Q fr h:=by
 intro c
 induction c with
 | skip=>intro x hx Q fr h hw; cases hx; exact IW.skip hw
 | region id ops draw=>
  intro x hx Q fr h hw;simp only [qc2] at hx
  cases draw with
  | false=>
   simp only [] at hx
   cases hl:qb9 P n ops ops.toList with
   | none=>rw [hl] at hx; cases hx
   | some l=>
    rw [hl] at hx; cases hx;intro rd bs hn G M a w hr;refine wpIn_region ?_;have hll:l.length = ops.size:=by have:=(qbl hl).1; simpa using this
    have:=qks (qmy hn) hl (Q:=Up bs n gl G M w Q) l 0 rfl hr hw (fun fr' h' G' M' a' w' q1 q2 q3=>⟨.normal,G',M',fr',h',rfl,q1,q2,q3⟩);rw [Nat.sub_zero,hll,<- List.range_eq_range'] at this;exact this
  | true=>
   simp only [] at hx;obtain ⟨l,chk,rfl,hreg⟩:=jj1 (gl:=gl) (id:=id) (fr:=fr) (h:=h) (Q:=Q) hx;refine hreg fun gm=>?_;have:=hw gm;exact this
 | seq a b iha ihb=>
  intro x hx Q fr h hw;simp only [qc2] at hx;split at hx
  ·rename_i xa xb ha hb;cases hx;refine IW.seq (IW.mono (iha ha hw) fun e fr h hq=>?_)
   cases e with
   | normal=>exact ihb hb hq
   | exit id=>exact hq
   | goto l=>exact hq
   | ret=>exact hq
  ·cases hx
 | cond c a b iha ihb=>
  intro x hx Q fr h hw;simp only [qc2] at hx;split at hx
  ·rename_i xa xb ha hb;cases hx;simp only [XC.wpF] at hw;intro rd bs hn G M ac w hr
   cases hc0:ev gl fr (co c) with
   | none=>rw [hc0] at hw; exact hw.elim
   | some v=>
    rw [hc0] at hw;cases v <;> simp only [qub] at hw;rename_i t;have hc:=qbk (qat hr hc0)
    cases t with
    | true=>exact wpIn_cond_true hc (iha ha (by simpa using hw) rd bs (fun h=>(Bool.and_eq_true_iff.1 (hn h)).1) G M ac w hr)
    | false=>exact wpIn_cond_false hc (ihb hb (by simpa using hw) rd bs (fun h=>(Bool.and_eq_true_iff.1 (hn h)).2) G M ac w hr)
  ·cases hx
 | block id a iha=>
  intro x hx Q fr h hw;simp only [qc2] at hx;split at hx
  ·rename_i xa ha; cases hx; exact IW.block (iha ha hw)
  ·cases hx
 | loop a iha=>
  intro x hx Q fr h hw;simp only [qc2] at hx;split at hx
  ·rename_i xa ha;cases hx;rcases hw with ⟨X,F,H,Inv,mu,x0,h0,h1,h2,h3⟩ | ⟨X,F,H,Inv,mu,h0,h3⟩ | ⟨X,F,H,Inv,mu,h0,h3⟩
   ·refine IW.loop F H Inv mu x0 h0 h1.spec h2.spec fun x hI=>IW.mono (iha ha (h3 x hI)) fun e fr h hq=>?_
    cases e with
    | normal=>obtain ⟨x',q1,q2,q3,q4⟩:=hq; exact ⟨x',q1,q2.spec,q3.spec,q4⟩
    | exit id=>exact hq
    | goto l=>exact hq
    | ret=>exact hq
   ·refine jjq F H Inv mu (h0.mono fun _ _ ⟨x0,q1,q2,q3⟩=>⟨x0,q1,q2.spec,q3.spec⟩) fun x hI=>IW.mono (iha ha (h3 x hI)) fun e fr h hq=>?_
    cases e with
    | normal=>exact MvP.mono (fun _ _ ⟨x',q1,q2,q3,q4⟩=>⟨x',q1,q2.spec,q3.spec,q4⟩) hq
    | exit id=>exact hq
    | goto l=>exact hq
    | ret=>exact hq
   ·refine jj0 (jjq F H Inv mu (h0.mono fun _ _ ⟨x0,q1,q2,q3⟩=>⟨x0,q1,q2.spec,q3.spec⟩) fun x hI=>IW.mono (iha ha (h3 x hI)) fun e fr h hq=>?_)
    cases e with
    | normal=>exact MvP.mono (fun _ _ ⟨x',q1,q2,q3,q4⟩=>⟨x',q1,q2.spec,q3.spec,q4⟩) hq
    | exit id=>exact hq
    | goto l=>exact hq
    | ret=>exact hq
  ·cases hx
 | scope a iha=>
  intro x hx Q fr h hw;simp only [qc2] at hx;split at hx
  ·rename_i xa ha;cases hx;intro rd bs hn G M ac w hr;refine ql8 (wpIn_mono (iha ha hw rd bs hn G M ac w hr) ?_);rintro e a' w' ⟨ie,G',M',fr',h',rfl,hq,hr',hx'⟩
   cases ie with
   | goto l=>exact hq.elim
   | normal=>exact ⟨.normal,G',M',fr',h',rfl,hq,hr',hx'⟩
   | exit id=>exact ⟨.exit id,G',M',fr',h',rfl,hq,hr',hx'⟩
   | ret=>exact ⟨.ret,G',M',fr',h',rfl,hq,hr',hx'⟩
  ·cases hx
 | exit id=>intro x hx Q fr h hw; cases hx; exact IW.exit hw
 | goto l=>intro x hx Q fr h hw; cases hx; exact IW.goto hw
 | label l=>intro x hx Q fr h hw; cases hx; exact IW.label hw
 | ret=>intro x hx Q fr h hw; cases hx; exact IW.ret hw
 | rangeFunc f ps a b=>
  intro x hx Q fr h hw;cases hx;simp only [XC.wpF] at hw
  cases hf:ev gl fr (co f) with
  | none=>rw [hf] at hw; exact hw.elim
  | some v=>
   rw [hf] at hw;cases v <;> simp only [jbf] at hw;obtain ⟨frs,hs,s1,s2,hc⟩:=hw;exact jj2 _ hf s1 s2 hc
 | refuse s=>intro x hx; cases hx
theorem jj7 {f:FuncId} {fi:FnI} {args:List V} {res:V} (m:Nat) (hb:qaq P f fi) (hk:Nat.ble args.length fi.n = true) (hw:fi.code.wpF P gl (jht fi.rs m res) (qq5 0 args) []):qac P gl f args res:=by
 obtain ⟨fn,body,h1,h2,h3,h4,h5,h6⟩:=hb;refine qac.of_body m h1 h2 h3 (by have:=Nat.le_of_ble_eq_true hk; omega) h5 ?_;rw [h4];exact qpd h6 hw
def rndQ (P:Program) (gl:Fr) (b g:Nat) (xb:XC) (K:V->Hp->Prop):IQ
 | .normal,fr,h=>∃ m frl ps asg bd,lk h b = some (.loop g m frl ps asg bd false)/\xb.wpF P gl (q4o b g K) fr ((b,.loop g m frl ps asg bd true) :: h)
 | _,_,_=>False
theorem jka {f:FuncId} {fi:FnI} {args:List V} {K:V->Hp->Prop} (hb:qaq P f fi) (hk:Nat.ble args.length fi.n = true) (hw:fi.code.wpF P gl (q85 fi.rs K) (qq5 0 args) h):qa2 P gl f args h K:=by
 obtain ⟨fn,body,h1,h2,h3,h4,h5,h6⟩:=hb;refine qa2.of_body h1 h2 h3 (by have:=Nat.le_of_ble_eq_true hk; omega) h5 ?_;rw [h4];exact qpd h6 hw
theorem jj9 {f:FuncId} {fi:FnI} {args:List V} {K:V->Hp->Prop} (hb:qaq P f fi) (hk:Nat.ble args.length fi.n = true) (hw:fi.code.wpF P gl (q85 fi.rs K) (qq5 0 args) []):qce P gl f args K:=
 jjr (jka hb hk hw)
end
theorem jj6 {body:IQ->Fr->Hp->Prop} {Q:IQ} {fr:Fr} {h:Hp} {X:Type} (F:X->Fr) (H:X->Hp) (Inv:X->Prop) (mu:X->Nat) (x0:X) (h0:Inv x0) (hF:Sub (F x0) fr) (hH:Sub (H x0) h)
  (round:∀ x,Inv x->body (ql3 (fun fr' h'=>∃ x',Inv x'/\Sub (F x') fr'/\Sub (H x') h'/\mu x' < mu x) Q) (F x) (H x)):qau body Q fr h:=.inl ⟨X,F,H,Inv,mu,x0,h0,hF,hH,round⟩
theorem jix {body:IQ->Fr->Hp->Prop} {Q:IQ} {fr:Fr} {h:Hp} {X:Type} (F:X->Fr) (H:X->Hp) (Inv:X->Prop) (mu:X->Nat) (h0:MvP (fun fr' h'=>∃ x0,Inv x0/\Sub (F x0) fr'/\Sub (H x0) h') fr h)
  (round:∀ x,Inv x->body (ql3 (fun fr' h'=>MvP (fun fr2 h2=>∃ x',Inv x'/\Sub (F x') fr2/\Sub (H x') h2/\mu x' < mu x) fr' h') Q) (F x) (H x)):qau body Q fr h:=.inr (.inl ⟨X,F,H,Inv,mu,h0,round⟩)
theorem jjn {body:IQ->Fr->Hp->Prop} {Q:IQ} {fr:Fr} {h:Hp} {X:Type} (F:X->Fr) (H:X->Hp) (Inv:X->Prop) (mu:X->Nat) (h0:MvP (fun fr' h'=>∃ x0,Inv x0/\Sub (F x0) fr'/\Sub (H x0) h') fr h)
  (round:∀ x,Inv x->body (ql3 (fun fr' h'=>MvP (fun fr2 h2=>∃ x',Inv x'/\Sub (F x') fr2/\Sub (H x') h2/\mu x' < mu x) fr' h') (fun e=>ExP (Q e))) (F x) (H x)):qau body Q fr h:=.inr (.inr ⟨X,F,H,Inv,mu,h0,round⟩)
theorem qse:∃ f:Program->Fr->XC->IQ->Fr->Hp->Prop,∀ P gl c Q fr h,f P gl c Q fr h = c.wpF P gl Q fr h:=⟨fun P gl c Q fr h=>c.wpF P gl Q fr h,fun _ _ _ _ _ _=>(rfl)⟩
noncomputable def KC:Program->Fr->XC->IQ->Fr->Hp->Prop:=Classical.choose qse
noncomputable def KB:Program->Fr->XC->IQ->Fr->Hp->Prop:=Classical.choose qse
theorem q09:∃ f:Program->Fr->List qa4->Fr->Hp->(Fr->Hp->Prop)->Prop,∀ P gl l fr h K,f P gl l fr h K = qkr P gl l fr h K:=⟨fun P gl l fr h K=>qkr P gl l fr h K,fun _ _ _ _ _ _=>(rfl)⟩
noncomputable def KO:Program->Fr->List qa4->Fr->Hp->(Fr->Hp->Prop)->Prop:=Classical.choose q09
theorem qtz:∃ f:Program->Fr->(Nat->Nat)->List qa4->Fr->Hp->Fps->(Fr->Hp->Fps->Prop)->Prop,∀ P gl gm l fr h acc K,f P gl gm l fr h acc K = qh0 P gl gm l fr h acc K:=⟨fun P gl gm l fr h acc K=>qh0 P gl gm l fr h acc K,fun _ _ _ _ _ _ _ _=>(rfl)⟩
noncomputable def KD0:Program->Fr->(Nat->Nat)->List qa4->Fr->Hp->Fps->(Fr->Hp->Fps->Prop)->Prop:=Classical.choose qtz
theorem qnh (P:Program) (gl:Fr) (c:XC) (Q:IQ):KC P gl c Q = c.wpF P gl Q:=by funext fr h; exact Classical.choose_spec qse P gl c Q fr h
theorem q4w (P:Program) (gl:Fr) (c:XC):KB P gl c = c.wpF P gl:=by funext Q fr h; exact Classical.choose_spec qse P gl c Q fr h
theorem q4z (P:Program) (gl:Fr) (l:List qa4):KO P gl l = qkr P gl l:=by funext fr h K; exact Classical.choose_spec q09 P gl l fr h K
theorem q08 (P:Program) (gl:Fr) (gm:Nat->Nat) (l:List qa4):KD0 P gl gm l = qh0 P gl gm l:=by funext fr h acc K; exact Classical.choose_spec qtz P gl gm l fr h acc K
def BrB (c:Bool) (A B:Unit->Prop):Prop:=(c = true->A ())/\(c = false->B ())
@[simp] theorem q9i {A B:Unit->Prop}:BrB true A B = A ():=by simp [BrB]
@[simp] theorem q4u {A B:Unit->Prop}:BrB false A B = B ():=by simp [BrB]
@[simp] theorem jbp {c:Bool} {A B:Unit->Prop}:BrB (!c) A B = BrB c B A:=by cases c <;> simp
theorem jj5 {c:Bool} {A B:Unit->Prop} (h1:c = true->A ()) (h2:c = false->B ()):BrB c A B:=⟨h1,h2⟩
def uA (A:Fr->Hp->Prop) (fr:Fr) (h:Hp) (_:Unit):Prop:=A fr h
@[simp] theorem uA_app {A:Fr->Hp->Prop} {fr:Fr} {h:Hp} {u:Unit}:uA A fr h u = A fr h:=(rfl)
section
variable {P:Program} {gl:Fr} {Q:IQ} {fr:Fr} {h:Hp} {K:Fr->Hp->Prop} {gm:Nat->Nat} {acc:Fps} {KF:Fr->Hp->Fps->Prop}
@[simp] theorem KC_app {c:XC}:KC P gl c Q fr h = c.wpF P gl Q fr h:=Classical.choose_spec qse P gl c Q fr h
@[simp] theorem KB_app {c:XC}:KB P gl c Q fr h = c.wpF P gl Q fr h:=Classical.choose_spec qse P gl c Q fr h
@[simp] theorem KO_app {l:List qa4}:KO P gl l fr h K = qkr P gl l fr h K:=Classical.choose_spec q09 P gl l fr h K
@[simp] theorem jbq {l:List qa4}:KD0 P gl gm l fr h acc KF = qh0 P gl gm l fr h acc KF:=Classical.choose_spec qtz P gl gm l fr h acc KF
@[simp] theorem QN_app:QN Q fr h = Q .normal fr h:=(rfl)
@[simp] theorem q96 {chk:List (Nat × Nat)} {fps:Fps}:jdq chk K fr h fps = (qlp fps chk = true/\K fr h):=(rfl)
@[simp] theorem q39 {fps:Fps}:qlp fps [] = true:=(rfl)
@[simp] theorem jbm:XC.wpF P gl .skip Q fr h = Q .normal fr h:=(rfl)
@[simp] theorem jh3 {l:List qa4}:XC.wpF P gl (.ops l) Q fr h = qkr P gl l fr h (QN Q):=(rfl)
@[simp] theorem jh4 {l:List qa4} {chk:List (Nat × Nat)}:XC.wpF P gl (.reg l chk) Q fr h = ∀ gm,qh0 P gl gm l fr h [] (jdq chk (QN Q)):=(rfl)
@[simp] theorem jh7 {a b:XC}:XC.wpF P gl (.seq a b) Q fr h = a.wpF P gl (ql3 (KC P gl b Q) Q) fr h:=by rw [qnh]; exact Eq.refl _
@[simp] theorem jbi {c:qal} {a b:XC}:XC.wpF P gl (.cond c a b) Q fr h = qub (KC P gl a Q) (KC P gl b Q) fr h (ev gl fr c):=by rw [qnh,qnh]; exact Eq.refl _
@[simp] theorem q9d {id:Nat} {a:XC}:XC.wpF P gl (.block id a) Q fr h = a.wpF P gl (qjo id Q) fr h:=(rfl)
@[simp] theorem q9f {a:XC}:XC.wpF P gl (.scope a) Q fr h = a.wpF P gl (qwj Q) fr h:=(rfl)
@[simp] theorem jbl {a:XC}:XC.wpF P gl (.loop a) Q fr h = qau (KB P gl a) Q fr h:=by rw [q4w]; exact Eq.refl _
@[simp] theorem jbj {id:Nat}:XC.wpF P gl (.exit id) Q fr h = Q (.exit id) fr h:=(rfl)
@[simp] theorem jbk {l:Nat}:XC.wpF P gl (.goto l) Q fr h = Q (.goto l) fr h:=(rfl)
@[simp] theorem q9e {l:Nat}:XC.wpF P gl (.label l) Q fr h = Q .normal fr h:=(rfl)
@[simp] theorem jh6 {n b:Nat} {f:qal} {ps:List Nat} {asg body:Code}:XC.wpF P gl (.rng n b f ps asg body) Q fr h = jbf P gl n b ps asg body Q fr h (ev gl fr f):=(rfl)
@[simp] theorem rngW_f {n b:Nat} {ps:List Nat} {asg body:Code} {fid:FuncId} {fst cap:List V}:jbf P gl n b ps asg body Q fr h (some (.fn fid fst cap)) = ∃ frs hs,Sub frs fr/\Sub hs h/\∀ g,qa2 P gl fid (fst ++ [.own b g] ++ cap) ((b,.loop g n frs ps asg body false) :: hs) (jhv b g Q fr):=(rfl)
@[simp] theorem jbe {b g:Nat} {v:V}:jhv b g Q fr v h = ∃ m frl psl asl bdl,lk h b = some (.loop g m frl psl asl bdl false)/\Q .normal fr ((b,.dead g) :: h):=(rfl)
@[simp] theorem rndQ_n {b g:Nat} {xb:XC} {K2:V->Hp->Prop}:rndQ P gl b g xb K2 .normal fr h = ∃ m frl ps asg bd,lk h b = some (.loop g m frl ps asg bd false)/\KC P gl xb (q4o b g K2) fr ((b,.loop g m frl ps asg bd true) :: h):=by rw [qnh]; exact Eq.refl _
@[simp] theorem q49 {K2:V->Hp->Prop} {b g:Nat} {vs:List V}:qt5 P gl K2 h (.own b g) vs = qq3 P gl b g vs h K2:=(rfl)
@[simp] theorem rndB_n {b g:Nat} {K2:V->Hp->Prop}:q4o b g K2 .normal fr h = MvP (fun _ h2=>∃ m frl ps asg body h3,lk h2 b = some (.loop g m frl ps asg body true)/\Sub h3 ((b,.loop g m frl ps asg body false) :: h2)/\K2 (.bool true) h3) fr h:=(rfl)
@[simp] theorem jh5:XC.wpF P gl .ret Q fr h = Q .ret fr h:=(rfl)
@[simp] theorem q9h:qkr P gl [] fr h K = K fr h:=(rfl)
@[simp] theorem q4t {o:qa4} {r:List qa4}:qkr P gl (o :: r) fr h K = gF fr (opT P gl (o.dst.getD 999999) fr h (kF (KO P gl r) o.dst fr K) o.op) (kT (KO P gl r) o.dst fr h K) o.guard:=by rw [q4z]; exact Eq.refl _
@[simp] theorem q51:qh0 P gl gm [] fr h acc KF = KF fr h acc:=(rfl)
@[simp] theorem q36 {o:qa4} {r:List qa4}:qh0 P gl gm (o :: r) fr h acc KF = gF fr (qfi P gl gm o.dst fr h (kD (KD0 P gl gm r) o.dst fr h acc KF) o.op) (kU (KD0 P gl gm r) o fr h acc KF) o.guard:=by rw [q08]; exact Eq.refl _
section
variable {I:Fr->Hp->(Fr->Hp->Prop)->Prop} {d:Option Nat}
@[simp] theorem kF_app {v:V}:kF I d fr K v h = I (qk5 fr d v) h K:=(rfl)
@[simp] theorem kT_app {u:Unit}:kT I d fr h K u = I (qk5 fr d (.tup [])) h K:=(rfl)
end
@[simp] theorem kD_app {I:Fr->Hp->Fps->(Fr->Hp->Fps->Prop)->Prop} {d:Option Nat} {v:V} {W:Hp} {rd:List Nat}:kD I d fr h acc KF v W rd = I (qk5 fr d v) (W ++ h) (qqn acc (W.map (·.1)) rd) KF:=(rfl)
@[simp] theorem kU_app {I:Fr->Hp->Fps->(Fr->Hp->Fps->Prop)->Prop} {o:qa4} {u:Unit}:kU I o fr h acc KF u = I (qk5 fr o.dst (.tup [])) h (qqn acc [] (qkx o).toList) KF:=(rfl)
@[simp] theorem jdp {pu:Bool} {id:Option Nat} {K2:V->Hp->List Nat->Prop} {v:V} {W:Hp} {rd:List Nat}:kRd pu id K2 v W rd = K2 v W (bif pu then rd else id.toList ++ rd):=(rfl)
@[simp] theorem kS_app {K2:V->Hp->Prop} {v:V} {W:Hp} {rd:List Nat}:kS K2 h v W rd = K2 v (W ++ h):=(rfl)
@[simp] theorem opT_c {id:Nat} {K2:V->Hp->Prop} {f:qal} {as:List qal} {u:Unit}:opT P gl id fr h K2 (.call f as) u = w2l (ev gl fr f) (evs gl fr as) (qt5 P gl K2 h):=(rfl)
@[simp] theorem opT_mv {id:Nat} {K2:V->Hp->Prop} {u:Unit} {y0:qal}:opT P gl id fr h K2 (.mv y0) u = ∀ gf,qbn (eop gl gf id (lk fr) (lk h) (.mv y0)) (kS K2 h):=(rfl)
@[simp] theorem jb0 {id:Option Nat} {K2:V->Hp->List Nat->Prop} {u:Unit} {y0:qal}:qfi P gl gm id fr h K2 (.mv y0) u = qbn (eop gl (gfG gm (lk h)) (id.getD 999999) (lk fr) (lk h) (.mv y0)) (kRd (qah (.mv y0)) id K2):=(rfl)
@[simp] theorem ja1 {id:Nat} {K2:V->Hp->Prop} {u:Unit} {y0:qal} {y1:qal} {y2:qal}:opT P gl id fr h K2 (.pick y0 y1 y2) u = ∀ gf,qbn (eop gl gf id (lk fr) (lk h) (.pick y0 y1 y2)) (kS K2 h):=(rfl)
@[simp] theorem q50 {id:Option Nat} {K2:V->Hp->List Nat->Prop} {u:Unit} {y0:qal} {y1:qal} {y2:qal}:qfi P gl gm id fr h K2 (.pick y0 y1 y2) u = qbn (eop gl (gfG gm (lk h)) (id.getD 999999) (lk fr) (lk h) (.pick y0 y1 y2)) (kRd (qah (.pick y0 y1 y2)) id K2):=(rfl)
@[simp] theorem jha {id:Nat} {K2:V->Hp->Prop} {u:Unit} {y0:qal}:opT P gl id fr h K2 (.box y0) u = ∀ gf,qbn (eop gl gf id (lk fr) (lk h) (.box y0)) (kS K2 h):=(rfl)
@[simp] theorem q9x {id:Option Nat} {K2:V->Hp->List Nat->Prop} {u:Unit} {y0:qal}:qfi P gl gm id fr h K2 (.box y0) u = qbn (eop gl (gfG gm (lk h)) (id.getD 999999) (lk fr) (lk h) (.box y0)) (kRd (qah (.box y0)) id K2):=(rfl)
@[simp] theorem q8j {id:Nat} {K2:V->Hp->Prop} {u:Unit} {y0:V}:opT P gl id fr h K2 (.alloc y0) u = ∀ gf,qbn (eop gl gf id (lk fr) (lk h) (.alloc y0)) (kS K2 h):=(rfl)
@[simp] theorem q31 {id:Option Nat} {K2:V->Hp->List Nat->Prop} {u:Unit} {y0:V}:qfi P gl gm id fr h K2 (.alloc y0) u = qbn (eop gl (gfG gm (lk h)) (id.getD 999999) (lk fr) (lk h) (.alloc y0)) (kRd (qah (.alloc y0)) id K2):=(rfl)
@[simp] theorem q8k {id:Nat} {K2:V->Hp->Prop} {u:Unit} {y0:List V} {y1:List (Nat × Nat × qal)}:opT P gl id fr h K2 (.build y0 y1) u = ∀ gf,qbn (eop gl gf id (lk fr) (lk h) (.build y0 y1)) (kS K2 h):=(rfl)
@[simp] theorem q32 {id:Option Nat} {K2:V->Hp->List Nat->Prop} {u:Unit} {y0:List V} {y1:List (Nat × Nat × qal)}:qfi P gl gm id fr h K2 (.build y0 y1) u = qbn (eop gl (gfG gm (lk h)) (id.getD 999999) (lk fr) (lk h) (.build y0 y1)) (kRd (qah (.build y0 y1)) id K2):=(rfl)
@[simp] theorem q20 {id:Nat} {K2:V->Hp->Prop} {u:Unit} {y0:Nat} {y1:Nat} {y2:List V} {y3:List (Nat × Nat × qal)}:opT P gl id fr h K2 (.buildSl y0 y1 y2 y3) u = ∀ gf,qbn (eop gl gf id (lk fr) (lk h) (.buildSl y0 y1 y2 y3)) (kS K2 h):=(rfl)
@[simp] theorem q0f {id:Option Nat} {K2:V->Hp->List Nat->Prop} {u:Unit} {y0:Nat} {y1:Nat} {y2:List V} {y3:List (Nat × Nat × qal)}:qfi P gl gm id fr h K2 (.buildSl y0 y1 y2 y3) u = qbn (eop gl (gfG gm (lk h)) (id.getD 999999) (lk fr) (lk h) (.buildSl y0 y1 y2 y3)) (kRd (qah (.buildSl y0 y1 y2 y3)) id K2):=(rfl)
@[simp] theorem jaw {id:Nat} {K2:V->Hp->Prop} {u:Unit} {y0:Bool} {y1:Nat} {y2:qal}:opT P gl id fr h K2 (.load y0 y1 y2) u = ∀ gf,qbn (eop gl gf id (lk fr) (lk h) (.load y0 y1 y2)) (kS K2 h):=(rfl)
@[simp] theorem q5x {id:Option Nat} {K2:V->Hp->List Nat->Prop} {u:Unit} {y0:Bool} {y1:Nat} {y2:qal}:qfi P gl gm id fr h K2 (.load y0 y1 y2) u = qbn (eop gl (gfG gm (lk h)) (id.getD 999999) (lk fr) (lk h) (.load y0 y1 y2)) (kRd (qah (.load y0 y1 y2)) id K2):=(rfl)
@[simp] theorem q8t {id:Nat} {K2:V->Hp->Prop} {u:Unit} {y0:Nat} {y1:qal} {y2:qal}:opT P gl id fr h K2 (.store y0 y1 y2) u = ∀ gf,qbn (eop gl gf id (lk fr) (lk h) (.store y0 y1 y2)) (kS K2 h):=(rfl)
@[simp] theorem q35 {id:Option Nat} {K2:V->Hp->List Nat->Prop} {u:Unit} {y0:Nat} {y1:qal} {y2:qal}:qfi P gl gm id fr h K2 (.store y0 y1 y2) u = qbn (eop gl (gfG gm (lk h)) (id.getD 999999) (lk fr) (lk h) (.store y0 y1 y2)) (kRd (qah (.store y0 y1 y2)) id K2):=(rfl)
@[simp] theorem jg9 {id:Nat} {K2:V->Hp->Prop} {u:Unit} {y0:BinOp} {y1:qal} {y2:qal}:opT P gl id fr h K2 (.bin y0 y1 y2) u = ∀ gf,qbn (eop gl gf id (lk fr) (lk h) (.bin y0 y1 y2)) (kS K2 h):=(rfl)
@[simp] theorem q9w {id:Option Nat} {K2:V->Hp->List Nat->Prop} {u:Unit} {y0:BinOp} {y1:qal} {y2:qal}:qfi P gl gm id fr h K2 (.bin y0 y1 y2) u = qbn (eop gl (gfG gm (lk h)) (id.getD 999999) (lk fr) (lk h) (.bin y0 y1 y2)) (kRd (qah (.bin y0 y1 y2)) id K2):=(rfl)
@[simp] theorem jhe {id:Nat} {K2:V->Hp->Prop} {u:Unit} {y0:Bool} {y1:Nat} {y2:qal} {y3:qal}:opT P gl id fr h K2 (.eqs y0 y1 y2 y3) u = ∀ gf,qbn (eop gl gf id (lk fr) (lk h) (.eqs y0 y1 y2 y3)) (kS K2 h):=(rfl)
@[simp] theorem q90 {id:Option Nat} {K2:V->Hp->List Nat->Prop} {u:Unit} {y0:Bool} {y1:Nat} {y2:qal} {y3:qal}:qfi P gl gm id fr h K2 (.eqs y0 y1 y2 y3) u = qbn (eop gl (gfG gm (lk h)) (id.getD 999999) (lk fr) (lk h) (.eqs y0 y1 y2 y3)) (kRd (qah (.eqs y0 y1 y2 y3)) id K2):=(rfl)
@[simp] theorem jg8 {id:Nat} {K2:V->Hp->Prop} {u:Unit} {y0:Bool} {y1:qal} {y2:qal}:opT P gl id fr h K2 (.beq y0 y1 y2) u = ∀ gf,qbn (eop gl gf id (lk fr) (lk h) (.beq y0 y1 y2)) (kS K2 h):=(rfl)
@[simp] theorem q9v {id:Option Nat} {K2:V->Hp->List Nat->Prop} {u:Unit} {y0:Bool} {y1:qal} {y2:qal}:qfi P gl gm id fr h K2 (.beq y0 y1 y2) u = qbn (eop gl (gfG gm (lk h)) (id.getD 999999) (lk fr) (lk h) (.beq y0 y1 y2)) (kRd (qah (.beq y0 y1 y2)) id K2):=(rfl)
@[simp] theorem opT_un {id:Nat} {K2:V->Hp->Prop} {u:Unit} {y0:UnOp} {y1:qal}:opT P gl id fr h K2 (.un y0 y1) u = ∀ gf,qbn (eop gl gf id (lk fr) (lk h) (.un y0 y1)) (kS K2 h):=(rfl)
@[simp] theorem jb1 {id:Option Nat} {K2:V->Hp->List Nat->Prop} {u:Unit} {y0:UnOp} {y1:qal}:qfi P gl gm id fr h K2 (.un y0 y1) u = qbn (eop gl (gfG gm (lk h)) (id.getD 999999) (lk fr) (lk h) (.un y0 y1)) (kRd (qah (.un y0 y1)) id K2):=(rfl)
@[simp] theorem jao {id:Nat} {K2:V->Hp->Prop} {u:Unit} {y0:IntKind} {y1:qal}:opT P gl id fr h K2 (.conv y0 y1) u = ∀ gf,qbn (eop gl gf id (lk fr) (lk h) (.conv y0 y1)) (kS K2 h):=(rfl)
@[simp] theorem q5p {id:Option Nat} {K2:V->Hp->List Nat->Prop} {u:Unit} {y0:IntKind} {y1:qal}:qfi P gl gm id fr h K2 (.conv y0 y1) u = qbn (eop gl (gfG gm (lk h)) (id.getD 999999) (lk fr) (lk h) (.conv y0 y1)) (kRd (qah (.conv y0 y1)) id K2):=(rfl)
@[simp] theorem jax {id:Nat} {K2:V->Hp->Prop} {u:Unit} {y0:FuncId} {y1:List qal} {y2:List qal}:opT P gl id fr h K2 (.mkfn y0 y1 y2) u = ∀ gf,qbn (eop gl gf id (lk fr) (lk h) (.mkfn y0 y1 y2)) (kS K2 h):=(rfl)
@[simp] theorem q5y {id:Option Nat} {K2:V->Hp->List Nat->Prop} {u:Unit} {y0:FuncId} {y1:List qal} {y2:List qal}:qfi P gl gm id fr h K2 (.mkfn y0 y1 y2) u = qbn (eop gl (gfG gm (lk h)) (id.getD 999999) (lk fr) (lk h) (.mkfn y0 y1 y2)) (kRd (qah (.mkfn y0 y1 y2)) id K2):=(rfl)
@[simp] theorem jay {id:Nat} {K2:V->Hp->Prop} {u:Unit} {y0:List V} {y1:Nat} {y2:Nat} {y3:qal} {y4:qal}:opT P gl id fr h K2 (.mksl y0 y1 y2 y3 y4) u = ∀ gf,qbn (eop gl gf id (lk fr) (lk h) (.mksl y0 y1 y2 y3 y4)) (kS K2 h):=(rfl)
@[simp] theorem q5z {id:Option Nat} {K2:V->Hp->List Nat->Prop} {u:Unit} {y0:List V} {y1:Nat} {y2:Nat} {y3:qal} {y4:qal}:qfi P gl gm id fr h K2 (.mksl y0 y1 y2 y3 y4) u = qbn (eop gl (gfG gm (lk h)) (id.getD 999999) (lk fr) (lk h) (.mksl y0 y1 y2 y3 y4)) (kRd (qah (.mksl y0 y1 y2 y3 y4)) id K2):=(rfl)
@[simp] theorem q8r {id:Nat} {K2:V->Hp->Prop} {u:Unit} {y0:Nat} {y1:qal} {y2:Option qal} {y3:Option qal} {y4:Option qal}:opT P gl id fr h K2 (.slice y0 y1 y2 y3 y4) u = ∀ gf,qbn (eop gl gf id (lk fr) (lk h) (.slice y0 y1 y2 y3 y4)) (kS K2 h):=(rfl)
@[simp] theorem q34 {id:Option Nat} {K2:V->Hp->List Nat->Prop} {u:Unit} {y0:Nat} {y1:qal} {y2:Option qal} {y3:Option qal} {y4:Option qal}:qfi P gl gm id fr h K2 (.slice y0 y1 y2 y3 y4) u = qbn (eop gl (gfG gm (lk h)) (id.getD 999999) (lk fr) (lk h) (.slice y0 y1 y2 y3 y4)) (kRd (qah (.slice y0 y1 y2 y3 y4)) id K2):=(rfl)
@[simp] theorem q4h {id:Nat} {K2:V->Hp->Prop} {u:Unit} {y0:qal} {y1:Option qal} {y2:Option qal}:opT P gl id fr h K2 (.sliceS y0 y1 y2) u = ∀ gf,qbn (eop gl gf id (lk fr) (lk h) (.sliceS y0 y1 y2)) (kS K2 h):=(rfl)
@[simp] theorem q11 {id:Option Nat} {K2:V->Hp->List Nat->Prop} {u:Unit} {y0:qal} {y1:Option qal} {y2:Option qal}:qfi P gl gm id fr h K2 (.sliceS y0 y1 y2) u = qbn (eop gl (gfG gm (lk h)) (id.getD 999999) (lk fr) (lk h) (.sliceS y0 y1 y2)) (kRd (qah (.sliceS y0 y1 y2)) id K2):=(rfl)
@[simp] theorem q4d {id:Nat} {K2:V->Hp->Prop} {u:Unit} {y0:Nat} {y1:qal}:opT P gl id fr h K2 (.fieldA y0 y1) u = ∀ gf,qbn (eop gl gf id (lk fr) (lk h) (.fieldA y0 y1)) (kS K2 h):=(rfl)
@[simp] theorem q1z {id:Option Nat} {K2:V->Hp->List Nat->Prop} {u:Unit} {y0:Nat} {y1:qal}:qfi P gl gm id fr h K2 (.fieldA y0 y1) u = qbn (eop gl (gfG gm (lk h)) (id.getD 999999) (lk fr) (lk h) (.fieldA y0 y1)) (kRd (qah (.fieldA y0 y1)) id K2):=(rfl)
@[simp] theorem q8l {id:Nat} {K2:V->Hp->Prop} {u:Unit} {y0:Bool} {y1:Nat} {y2:Nat} {y3:qal}:opT P gl id fr h K2 (.field y0 y1 y2 y3) u = ∀ gf,qbn (eop gl gf id (lk fr) (lk h) (.field y0 y1 y2 y3)) (kS K2 h):=(rfl)
@[simp] theorem q33 {id:Option Nat} {K2:V->Hp->List Nat->Prop} {u:Unit} {y0:Bool} {y1:Nat} {y2:Nat} {y3:qal}:qfi P gl gm id fr h K2 (.field y0 y1 y2 y3) u = qbn (eop gl (gfG gm (lk h)) (id.getD 999999) (lk fr) (lk h) (.field y0 y1 y2 y3)) (kRd (qah (.field y0 y1 y2 y3)) id K2):=(rfl)
@[simp] theorem jaq {id:Nat} {K2:V->Hp->Prop} {u:Unit} {y0:Nat} {y1:qal} {y2:qal}:opT P gl id fr h K2 (.idxA y0 y1 y2) u = ∀ gf,qbn (eop gl gf id (lk fr) (lk h) (.idxA y0 y1 y2)) (kS K2 h):=(rfl)
@[simp] theorem q5r {id:Option Nat} {K2:V->Hp->List Nat->Prop} {u:Unit} {y0:Nat} {y1:qal} {y2:qal}:qfi P gl gm id fr h K2 (.idxA y0 y1 y2) u = qbn (eop gl (gfG gm (lk h)) (id.getD 999999) (lk fr) (lk h) (.idxA y0 y1 y2)) (kRd (qah (.idxA y0 y1 y2)) id K2):=(rfl)
@[simp] theorem jar {id:Nat} {K2:V->Hp->Prop} {u:Unit} {y0:Nat} {y1:Nat} {y2:qal} {y3:qal}:opT P gl id fr h K2 (.idxP y0 y1 y2 y3) u = ∀ gf,qbn (eop gl gf id (lk fr) (lk h) (.idxP y0 y1 y2 y3)) (kS K2 h):=(rfl)
@[simp] theorem q5s {id:Option Nat} {K2:V->Hp->List Nat->Prop} {u:Unit} {y0:Nat} {y1:Nat} {y2:qal} {y3:qal}:qfi P gl gm id fr h K2 (.idxP y0 y1 y2 y3) u = qbn (eop gl (gfG gm (lk h)) (id.getD 999999) (lk fr) (lk h) (.idxP y0 y1 y2 y3)) (kRd (qah (.idxP y0 y1 y2 y3)) id K2):=(rfl)
@[simp] theorem jat {id:Nat} {K2:V->Hp->Prop} {u:Unit} {y0:Bool} {y1:Nat} {y2:Nat} {y3:qal} {y4:qal}:opT P gl id fr h K2 (.idxV y0 y1 y2 y3 y4) u = ∀ gf,qbn (eop gl gf id (lk fr) (lk h) (.idxV y0 y1 y2 y3 y4)) (kS K2 h):=(rfl)
@[simp] theorem q5u {id:Option Nat} {K2:V->Hp->List Nat->Prop} {u:Unit} {y0:Bool} {y1:Nat} {y2:Nat} {y3:qal} {y4:qal}:qfi P gl gm id fr h K2 (.idxV y0 y1 y2 y3 y4) u = qbn (eop gl (gfG gm (lk h)) (id.getD 999999) (lk fr) (lk h) (.idxV y0 y1 y2 y3 y4)) (kRd (qah (.idxV y0 y1 y2 y3 y4)) id K2):=(rfl)
@[simp] theorem jas {id:Nat} {K2:V->Hp->Prop} {u:Unit} {y0:qal} {y1:qal}:opT P gl id fr h K2 (.idxS y0 y1) u = ∀ gf,qbn (eop gl gf id (lk fr) (lk h) (.idxS y0 y1)) (kS K2 h):=(rfl)
@[simp] theorem q5t {id:Option Nat} {K2:V->Hp->List Nat->Prop} {u:Unit} {y0:qal} {y1:qal}:qfi P gl gm id fr h K2 (.idxS y0 y1) u = qbn (eop gl (gfG gm (lk h)) (id.getD 999999) (lk fr) (lk h) (.idxS y0 y1)) (kRd (qah (.idxS y0 y1)) id K2):=(rfl)
@[simp] theorem jhh {id:Nat} {K2:V->Hp->Prop} {u:Unit} {y0:qal}:opT P gl id fr h K2 (.len y0) u = ∀ gf,qbn (eop gl gf id (lk fr) (lk h) (.len y0)) (kS K2 h):=(rfl)
@[simp] theorem q91 {id:Option Nat} {K2:V->Hp->List Nat->Prop} {u:Unit} {y0:qal}:qfi P gl gm id fr h K2 (.len y0) u = qbn (eop gl (gfG gm (lk h)) (id.getD 999999) (lk fr) (lk h) (.len y0)) (kRd (qah (.len y0)) id K2):=(rfl)
@[simp] theorem jav {id:Nat} {K2:V->Hp->Prop} {u:Unit} {y0:qal}:opT P gl id fr h K2 (.lenS y0) u = ∀ gf,qbn (eop gl gf id (lk fr) (lk h) (.lenS y0)) (kS K2 h):=(rfl)
@[simp] theorem q5w {id:Option Nat} {K2:V->Hp->List Nat->Prop} {u:Unit} {y0:qal}:qfi P gl gm id fr h K2 (.lenS y0) u = qbn (eop gl (gfG gm (lk h)) (id.getD 999999) (lk fr) (lk h) (.lenS y0)) (kRd (qah (.lenS y0)) id K2):=(rfl)
@[simp] theorem jau {id:Nat} {K2:V->Hp->Prop} {u:Unit} {y0:Nat}:opT P gl id fr h K2 (.lenK y0) u = ∀ gf,qbn (eop gl gf id (lk fr) (lk h) (.lenK y0)) (kS K2 h):=(rfl)
@[simp] theorem q5v {id:Option Nat} {K2:V->Hp->List Nat->Prop} {u:Unit} {y0:Nat}:qfi P gl gm id fr h K2 (.lenK y0) u = qbn (eop gl (gfG gm (lk h)) (id.getD 999999) (lk fr) (lk h) (.lenK y0)) (kRd (qah (.lenK y0)) id K2):=(rfl)
@[simp] theorem jhb {id:Nat} {K2:V->Hp->Prop} {u:Unit} {y0:qal}:opT P gl id fr h K2 (.cap y0) u = ∀ gf,qbn (eop gl gf id (lk fr) (lk h) (.cap y0)) (kS K2 h):=(rfl)
@[simp] theorem q9y {id:Option Nat} {K2:V->Hp->List Nat->Prop} {u:Unit} {y0:qal}:qfi P gl gm id fr h K2 (.cap y0) u = qbn (eop gl (gfG gm (lk h)) (id.getD 999999) (lk fr) (lk h) (.cap y0)) (kRd (qah (.cap y0)) id K2):=(rfl)
@[simp] theorem jg5 {id:Nat} {K2:V->Hp->Prop} {u:Unit} {y0:Nat} {y1:Nat} {y2:List V} {y3:qal} {y4:qal}:opT P gl id fr h K2 (.app y0 y1 y2 y3 y4) u = ∀ gf,qbn (eop gl gf id (lk fr) (lk h) (.app y0 y1 y2 y3 y4)) (kS K2 h):=(rfl)
@[simp] theorem q9t {id:Option Nat} {K2:V->Hp->List Nat->Prop} {u:Unit} {y0:Nat} {y1:Nat} {y2:List V} {y3:qal} {y4:qal}:qfi P gl gm id fr h K2 (.app y0 y1 y2 y3 y4) u = qbn (eop gl (gfG gm (lk h)) (id.getD 999999) (lk fr) (lk h) (.app y0 y1 y2 y3 y4)) (kRd (qah (.app y0 y1 y2 y3 y4)) id K2):=(rfl)
@[simp] theorem jap {id:Nat} {K2:V->Hp->Prop} {u:Unit} {y0:Nat} {y1:qal} {y2:qal}:opT P gl id fr h K2 (.copy y0 y1 y2) u = ∀ gf,qbn (eop gl gf id (lk fr) (lk h) (.copy y0 y1 y2)) (kS K2 h):=(rfl)
@[simp] theorem q5q {id:Option Nat} {K2:V->Hp->List Nat->Prop} {u:Unit} {y0:Nat} {y1:qal} {y2:qal}:qfi P gl gm id fr h K2 (.copy y0 y1 y2) u = qbn (eop gl (gfG gm (lk h)) (id.getD 999999) (lk fr) (lk h) (.copy y0 y1 y2)) (kRd (qah (.copy y0 y1 y2)) id K2):=(rfl)
@[simp] theorem opT_mm {id:Nat} {K2:V->Hp->Prop} {u:Unit} {y0:Bool} {y1:qal} {y2:qal}:opT P gl id fr h K2 (.mm y0 y1 y2) u = ∀ gf,qbn (eop gl gf id (lk fr) (lk h) (.mm y0 y1 y2)) (kS K2 h):=(rfl)
@[simp] theorem jbz {id:Option Nat} {K2:V->Hp->List Nat->Prop} {u:Unit} {y0:Bool} {y1:qal} {y2:qal}:qfi P gl gm id fr h K2 (.mm y0 y1 y2) u = qbn (eop gl (gfG gm (lk h)) (id.getD 999999) (lk fr) (lk h) (.mm y0 y1 y2)) (kRd (qah (.mm y0 y1 y2)) id K2):=(rfl)
@[simp] theorem q21 {id:Nat} {K2:V->Hp->Prop} {u:Unit} {y0:qal} {y1:Nat}:opT P gl id fr h K2 (.extract y0 y1) u = ∀ gf,qbn (eop gl gf id (lk fr) (lk h) (.extract y0 y1)) (kS K2 h):=(rfl)
@[simp] theorem q0g {id:Option Nat} {K2:V->Hp->List Nat->Prop} {u:Unit} {y0:qal} {y1:Nat}:qfi P gl gm id fr h K2 (.extract y0 y1) u = qbn (eop gl (gfG gm (lk h)) (id.getD 999999) (lk fr) (lk h) (.extract y0 y1)) (kRd (qah (.extract y0 y1)) id K2):=(rfl)
@[simp] theorem jg6 {id:Nat} {K2:V->Hp->Prop} {u:Unit} {y0:qal}:opT P gl id fr h K2 (.b2s y0) u = ∀ gf,qbn (eop gl gf id (lk fr) (lk h) (.b2s y0)) (kS K2 h):=(rfl)
@[simp] theorem q9u {id:Option Nat} {K2:V->Hp->List Nat->Prop} {u:Unit} {y0:qal}:qfi P gl gm id fr h K2 (.b2s y0) u = qbn (eop gl (gfG gm (lk h)) (id.getD 999999) (lk fr) (lk h) (.b2s y0)) (kRd (qah (.b2s y0)) id K2):=(rfl)
@[simp] theorem jhd {id:Nat} {K2:V->Hp->Prop} {u:Unit} {y0:qal}:opT P gl id fr h K2 (.cvs y0) u = ∀ gf,qbn (eop gl gf id (lk fr) (lk h) (.cvs y0)) (kS K2 h):=(rfl)
@[simp] theorem q9z {id:Option Nat} {K2:V->Hp->List Nat->Prop} {u:Unit} {y0:qal}:qfi P gl gm id fr h K2 (.cvs y0) u = qbn (eop gl (gfG gm (lk h)) (id.getD 999999) (lk fr) (lk h) (.cvs y0)) (kRd (qah (.cvs y0)) id K2):=(rfl)
section
variable {id:Nat} {K2:V->Hp->Prop} {u:Unit}
@[simp] theorem q8n {b:Bool} {x:qal}:opT P gl id fr h K2 (.n (.isnil b x)) u = match q4b gl fr (.n (.isnil b x)) with | true=>∀ b,K2 (.bool b) h | false=>∀ gf,qbn (eop gl gf id (lk fr) (lk h) (.n (.isnil b x))) (kS K2 h):=(rfl)
@[simp] theorem jg7:opT P gl id fr h K2 (.n (.bad)) u = ∀ gf,qbn (eop gl gf id (lk fr) (lk h) (.n (.bad))) (kS K2 h):=(rfl)
@[simp] theorem q8p:opT P gl id fr h K2 (.n (.mkmap)) u = ∀ gf,qbn (eop gl gf id (lk fr) (lk h) (.n (.mkmap))) (kS K2 h):=(rfl)
@[simp] theorem q4e {kd:Option (Option IntKind)} {ok:Bool} {z:V} {m k:qal}:opT P gl id fr h K2 (.n (.lookup kd ok z m k)) u = ∀ gf,qbn (eop gl gf id (lk fr) (lk h) (.n (.lookup kd ok z m k))) (kS K2 h):=(rfl)
@[simp] theorem q8o {kd:Option (Option IntKind)} {m k v:qal}:opT P gl id fr h K2 (.n (.mapup kd m k v)) u = ∀ gf,qbn (eop gl gf id (lk fr) (lk h) (.n (.mapup kd m k v))) (kS K2 h):=(rfl)
@[simp] theorem q4i {x:qal}:opT P gl id fr h K2 (.n (.srange x)) u = ∀ gf,qbn (eop gl gf id (lk fr) (lk h) (.n (.srange x))) (kS K2 h):=(rfl)
@[simp] theorem q8s {x:qal}:opT P gl id fr h K2 (.n (.snext x)) u = ∀ gf,qbn (eop gl gf id (lk fr) (lk h) (.n (.snext x))) (kS K2 h):=(rfl)
@[simp] theorem q22 {x y:qal}:opT P gl id fr h K2 (.n (.idxByte x y)) u = ∀ gf,qbn (eop gl gf id (lk fr) (lk h) (.n (.idxByte x y))) (kS K2 h):=(rfl)
@[simp] theorem q8i {x y z:qal}:opT P gl id fr h K2 (.n (.add64 x y z)) u = ∀ gf,qbn (eop gl gf id (lk fr) (lk h) (.n (.add64 x y z))) (kS K2 h):=(rfl)
@[simp] theorem q8m {b:Bool} {x:qal}:opT P gl id fr h K2 (.n (.ifnil b x)) u = ∀ gf,qbn (eop gl gf id (lk fr) (lk h) (.n (.ifnil b x))) (kS K2 h):=(rfl)
@[simp] theorem jhg {x:qal}:opT P gl id fr h K2 (.n (.i2s x)) u = ∀ gf,qbn (eop gl gf id (lk fr) (lk h) (.n (.i2s x))) (kS K2 h):=(rfl)
@[simp] theorem jaz {x:qal}:opT P gl id fr h K2 (.n (.mlen x)) u = ∀ gf,qbn (eop gl gf id (lk fr) (lk h) (.n (.mlen x))) (kS K2 h):=(rfl)
@[simp] theorem jhf {m:Nat} {x:qal}:opT P gl id fr h K2 (.n (.gsl m x)) u = ∀ gf,qbn (eop gl gf id (lk fr) (lk h) (.n (.gsl m x))) (kS K2 h):=(rfl)
@[simp] theorem jan {sz bytes:Nat} {z:List V} {x y:qal}:opT P gl id fr h K2 (.n (.appz sz bytes z x y)) u = ∀ gf,qbn (eop gl gf id (lk fr) (lk h) (.n (.appz sz bytes z x y))) (kS K2 h):=(rfl)
@[simp] theorem ja0 {x:qal}:opT P gl id fr h K2 (.n (.nchk x)) u = ∀ gf,qbn (eop gl gf id (lk fr) (lk h) (.n (.nchk x))) (kS K2 h):=(rfl)
@[simp] theorem jhc {sz:Nat} {x y:qal}:opT P gl id fr h K2 (.n (.cpy sz x y)) u = ∀ gf,qbn (eop gl gf id (lk fr) (lk h) (.n (.cpy sz x y))) (kS K2 h):=(rfl)
@[simp] theorem jam {sz bytes:Nat} {z:List V} {x y:qal}:opT P gl id fr h K2 (.n (.appc sz bytes z x y)) u = ∀ gf,qbn (eop gl gf id (lk fr) (lk h) (.n (.appc sz bytes z x y))) (kS K2 h):=(rfl)
@[simp] theorem q4g {x:qal}:opT P gl id fr h K2 (.n (.mrange x)) u = ∀ gf,qbn (eop gl gf id (lk fr) (lk h) (.n (.mrange x))) (kS K2 h):=(rfl)
@[simp] theorem q4f {x:qal}:opT P gl id fr h K2 (.n (.mentry x)) u = ∀ gf,qbn (eop gl gf id (lk fr) (lk h) (.n (.mentry x))) (kS K2 h):=(rfl)
@[simp] theorem q8q {x:qal}:opT P gl id fr h K2 (.n (.mnext x)) u = qom K2 h (ev gl fr x):=(rfl)
end
@[simp] theorem jac {K2:V->Hp->Prop} {b g:Nat}:qom K2 h (some (.own b g)) = qrq K2 h b g (lk h b):=(rfl)
@[simp] theorem jaa {K2:V->Hp->Prop} {b g g' b2 g2 m:Nat} {seen:List Nat}:qrq K2 h b g (some (.miter g' (.own b2 g2) m seen)) = (g' = g/\qrr K2 h b g g2 (.own b2 g2) m seen (lk h b2)):=(rfl)
@[simp] theorem jab {K2:V->Hp->Prop} {b g gb gb' m:Nat} {x:V} {es:List (V × V)} {seen:List Nat}:qrr K2 h b g gb x m seen (some (.map gb' es)) = (gb' = gb/\es.length = m/\((∀ i,i < m->i ∈ seen)->K2 (.tup [.bool false]) h)/\∀ i,i < m->i ∉ seen->K2 (.tup [.bool true,(es.getD i (.undef,.undef)).1,(es.getD i (.undef,.undef)).2]) ((b,.miter g x m (seen ++ [i])) :: h)):=(rfl)
section
variable {id:Option Nat} {K2:V->Hp->List Nat->Prop}
@[simp] theorem dopT_n {u:Unit} {y0:NOp}:qfi P gl gm id fr h K2 (.n y0) u = qbn (eop gl (gfG gm (lk h)) (id.getD 999999) (lk fr) (lk h) (.n y0)) (kRd (qah (.n y0)) id K2):=(rfl)
@[simp] theorem dopT_c {f:qal} {as:List qal} {u:Unit}:qfi P gl gm id fr h K2 (.call f as) u = w2l (ev gl fr f) (evs gl fr as) (qrb P gl gm id h K2):=(rfl)
end
@[simp] theorem jbx {A B:Fr->Hp->Prop} {t:Bool}:qub A B fr h (some (.bool t)) = BrB t (uA A fr h) (uA B fr h):=by
 cases t <;> simp [qub]
@[simp] theorem gF_n {A B:Unit->Prop}:gF fr A B none = A ():=(rfl)
@[simp] theorem gF_s {A B:Unit->Prop} {t:Nat} {w:Bool}:gF fr A B (some (t,w)) = gB w A B (lk fr t):=(rfl)
@[simp] theorem gB_t {A B:Unit->Prop} {b:Bool}:gB true A B (some (.bool b)) = BrB b A B:=by
 cases b <;> simp [gB]
@[simp] theorem gB_s {A B:Unit->Prop} {w:Bool}:gB w A B (some (.tup [])) = B ():=(rfl)
@[simp] theorem gB_f {A B:Unit->Prop} {b:Bool}:gB false A B (some (.bool b)) = BrB b B A:=by
 cases b <;> simp [gB]
@[simp] theorem w2l_s {v:V} {u:List V} {K2:V->List V->Prop}:w2l (some v) (some u) K2 = K2 v u:=(rfl)
@[simp] theorem jbt {K2:V->Hp->Prop} {g:FuncId} {fst cap vs:List V}:qt5 P gl K2 h (.fn g fst cap) vs = qa2 P gl g (fst ++ vs ++ cap) h K2:=(rfl)
@[simp] theorem q9r {gm:Nat->Nat} {d:Option Nat} {K2:V->Hp->List Nat->Prop} {g:FuncId} {fst cap vs:List V}:qrb P gl gm d h K2 (.fn g fst cap) vs = ∃ res W rd,qd1 P gl gm d g (fst ++ vs ++ cap) h res W rd/\K2 res W rd:=(rfl)
@[simp] theorem optW_s {y:Y} {K2:V->Hp->List Nat->Prop}:qbn (some y) K2 = K2 y.1 y.2.1 y.2.2:=(rfl)
@[simp] theorem jhi {c:Bool} {o:Option Y} {K2:V->Hp->List Nat->Prop}:qbn (gd c o) K2 = (c = true/\qbn o K2):=by
 cases c <;> simp [gd,qbn]
@[simp] theorem eb_s {α β:Type} {v:α} {f:α->Option β}:eb (some v) f = f v:=(rfl)
@[simp] theorem gd_t {α:Type} {x:Option α}:gd true x = x:=(rfl)
end
@[simp] theorem jhl (off n:Nat) (x:V):jif true off n x = .agg ((x.cells.drop off).take n):=(rfl)
@[simp] theorem jhk (off n:Nat) (x:V):jif false off n x = x.cells.getD off .undef:=(rfl)
@[simp] theorem ja5 (off n:Nat) (v:V) (cs:List V):jii off n v (.agg cs) = .agg (cs.take off ++ v.cells ++ cs.drop (off + n)):=(rfl)
@[simp] theorem ja7 (off n:Nat) (v:V) (k:IntKind) (i:Int):jii off n v (V.int k i) = v:=(rfl)
@[simp] theorem q81 (off n:Nat) (v:V) (b:Bool):jii off n v (V.bool b) = v:=(rfl)
@[simp] theorem jbc (off n:Nat) (v:V) (s:List UInt8):jii off n v (V.str s) = v:=(rfl)
@[simp] theorem jhq (off n:Nat) (v:V) (xs:List V) (c:Option Nat):jii off n v (V.sl xs c) = v:=(rfl)
@[simp] theorem jbb (off n:Nat) (v:V) (b g o l:Nat) (c:Option Nat):jii off n v (V.ref b g o l c) = v:=(rfl)
@[simp] theorem jba (off n:Nat) (v:V) (b g i o:Nat):jii off n v (V.ptr b g i o) = v:=(rfl)
@[simp] theorem q82 (off n:Nat) (v:V) (x:V) (o:Nat):jii off n v (V.iptr x o) = v:=(rfl)
@[simp] theorem jhp (off n:Nat) (v:V) (f:FuncId) (a b:List V):jii off n v (V.fn f a b) = v:=(rfl)
@[simp] theorem q4m (off n:Nat) (v:V) :jii off n v V.nilfn = v:=(rfl)
@[simp] theorem q27 (off n:Nat) (v:V) :jii off n v V.nilmap = v:=(rfl)
@[simp] theorem ja6 (off n:Nat) (v:V) (b:Bool):jii off n v (V.err b) = v:=(rfl)
@[simp] theorem ja8 (off n:Nat) (v:V) :jii off n v V.nil = v:=(rfl)
@[simp] theorem ja9 (off n:Nat) (v:V) (b g:Nat):jii off n v (V.own b g) = v:=(rfl)
@[simp] theorem q4n (off n:Nat) (v:V) :jii off n v V.undef = v:=(rfl)
@[simp] theorem q1g (cs:List V):(V.agg cs).cellsOk = true:=(rfl)
@[simp] theorem q1i (k:IntKind) (n:Int):(V.int k n).cellsOk = true:=(rfl)
@[simp] theorem qz8 (b:Bool):(V.bool b).cellsOk = true:=(rfl)
@[simp] theorem q1n (s:List UInt8):(V.str s).cellsOk = true:=(rfl)
@[simp] theorem q3w (xs:List V) (c:Option Nat):(V.sl xs c).cellsOk = true:=(rfl)
@[simp] theorem q1m (b g o l:Nat) (c:Option Nat):(V.ref b g o l c).cellsOk = true:=(rfl)
@[simp] theorem q1l (b g i o:Nat):(V.ptr b g i o).cellsOk = true:=(rfl)
@[simp] theorem qz9 (x:V) (o:Nat):(V.iptr x o).cellsOk = true:=(rfl)
@[simp] theorem q3v (f:FuncId) (a b:List V):(V.fn f a b).cellsOk = true:=(rfl)
@[simp] theorem qxm:V.nilfn.cellsOk = true:=(rfl)
@[simp] theorem qxb:V.nilmap.cellsOk = true:=(rfl)
@[simp] theorem q1h (b:Bool):(V.err b).cellsOk = true:=(rfl)
@[simp] theorem q1j:V.nil.cellsOk = true:=(rfl)
@[simp] theorem q1k (b g:Nat):(V.own b g).cellsOk = true:=(rfl)
@[simp] theorem qxn:V.undef.cellsOk = false:=(rfl)
@[simp] theorem q1o (cs:List V):(V.tup cs).cellsOk = false:=(rfl)
attribute [simp] q4b qcr qah NOp.pure eop evF qtu qmm qnz V.norm qpr q9k unO qun qfs qem qe3 qok qdl jiy jjf gfG
@[simp] theorem q5a (cs:List V):(V.agg cs).cells = cs:=(rfl)
@[simp] theorem q5c (k:IntKind) (n:Int):(V.int k n).cells = [.int k n]:=(rfl)
@[simp] theorem q3x (b:Bool):(V.bool b).cells = [.bool b]:=(rfl)
@[simp] theorem q5h (s:List UInt8):(V.str s).cells = [.str s]:=(rfl)
@[simp] theorem q5i (cs:List V):(V.tup cs).cells = [.tup cs]:=(rfl)
@[simp] theorem q9o (xs:List V) (c:Option Nat):(V.sl xs c).cells = [.sl xs c]:=(rfl)
@[simp] theorem q5g (b g o l:Nat) (c:Option Nat):(V.ref b g o l c).cells = [.ref b g o l c]:=(rfl)
@[simp] theorem q5f (b g i o:Nat):(V.ptr b g i o).cells = [.ptr b g i o]:=(rfl)
@[simp] theorem q3y (x:V) (o:Nat):(V.iptr x o).cells = [.iptr x o]:=(rfl)
@[simp] theorem q9n (f:FuncId) (a b:List V):(V.fn f a b).cells = [.fn f a b]:=(rfl)
@[simp] theorem q1p:V.nilfn.cells = [.nilfn]:=(rfl)
@[simp] theorem q0a:V.nilmap.cells = [.nilmap]:=(rfl)
@[simp] theorem q5b (b:Bool):(V.err b).cells = [.err b]:=(rfl)
@[simp] theorem q5d:V.nil.cells = [.nil]:=(rfl)
@[simp] theorem q1q:V.undef.cells = [.undef]:=(rfl)
@[simp] theorem q5e (b g:Nat):(V.own b g).cells = [.own b g]:=(rfl)
attribute [simp] V.isCell jiv ji6 ql3 qjo qwj jht qqj q2z qgo qet qbm frz V.mapR jio Sub lk ev evs qk5 qq5 V.pure jid V.scalar jiz bytesOf
attribute [simp] qqh V.noG jih Blk.noG q85 V.rn ji0 mvS mvF mvH Blk.rn Blk.gen upS upH
attribute [simp] qas Int.natCast_inj
@[simp] theorem jae (n m:Nat):((n:Int)≤(no_index (OfNat.ofNat m:Int))) = (n≤m):=by
 have:((OfNat.ofNat m:Int)) = (m:Int):=rfl;rw [this,Int.ofNat_le]
@[simp] theorem jaf (n m:Nat):((n:Int) < (no_index (OfNat.ofNat m:Int))) = (n < m):=by
 have:((OfNat.ofNat m:Int)) = (m:Int):=rfl;rw [this,Int.ofNat_lt]
@[simp] theorem q97 (n m:Nat):((no_index (OfNat.ofNat m:Int))≤(n:Int)) = (m≤n):=by
 have:((OfNat.ofNat m:Int)) = (m:Int):=rfl;rw [this,Int.ofNat_le]
@[simp] theorem q98 (n m:Nat):((no_index (OfNat.ofNat m:Int)) < (n:Int)) = (m < n):=by
 have:((OfNat.ofNat m:Int)) = (m:Int):=rfl;rw [this,Int.ofNat_lt]
@[simp] theorem jad (n m:Nat):((n:Int) = (no_index (OfNat.ofNat m:Int))) = (n = m):=by
 have:((OfNat.ofNat m:Int)) = (m:Int):=rfl;rw [this]; simp
end
section
open Go
variable {P:Program} {gl:Fr}
def VLe (a b:V):Prop:=∀ G M r,qak G M a r->qak G M b r
theorem VLe.refl (a:V):VLe a a:=fun _ _ _ h=>h
theorem jjb {f:FuncId} {args:List V} {K:V->Hp->Prop} {res:V} (m:Nat) (hc:qce P gl f args K) (hk:∀ v h,K v h->VLe (frz h m v) res):qac P gl f args res:=by
 refine ⟨hc.1,fun G w rargs hg hgl hsz hrel=>Calls.mono (hc.2 G w rargs hg hgl hsz hrel) ?_⟩;rintro e w' ⟨rv,v,h',G',M',rfl,hK,hv,hs,hx⟩
 let Gf:qaz:=fun k=>if k < w.heap.size then G k else match w'.heap[k]? with
  | some (.cells c _ _)=>some c
  | _=>none
 have hkeep:∀ k,k < w.heap.size->w'.heap[k]? = w.heap[k]?:=fun k hk=>hx.keep k hk (qbc k)
 have hGf:G'.le Gf:=by
  intro k c hk;simp only [Gf];split
  ·rename_i hlt;rcases hx.gnew k c hk with h3 | h3 | h3
   ·exact h3
   ·omega
   ·exact absurd h3 (qbc _)
  ·obtain ⟨ty,fz,he⟩:=hs.gw k c hk;simp [he]
 have hin:GIn Gf w':=by
  intro k c hk;simp only [Gf] at hk;split at hk
  ·rename_i hlt;obtain ⟨ty,fz,he⟩:=hg k c hk;exact ⟨ty,fz,by rw [hkeep k hlt]; exact he⟩
  ·split at hk
   ·rename_i c' ty fz he; cases hk; exact ⟨ty,fz,he⟩
   ·cases hk
 have hext:Ext G M0 w Gf M0 w':=by
  refine ⟨qaz.le_trans hx.g hGf,fun k c hk=>?_,qar.le_refl _,fun _ h=>.inr h,hx.os,hx.tape,hx.output,hx.size,hx.keep⟩;simp only [Gf] at hk;split at hk
  ·exact .inl hk
  ·rename_i hge; exact .inr (.inl (by omega))
 have hfr:=qfu hs hGf (fun b mb rb arr ty fz h1 h2 he=>by
  have:¬ rb < w.heap.size:=fun hlt=>by
   rcases hx.mnew rb ⟨b,mb,h1,h2⟩ with h3 | h3
   ·omega
   ·exact absurd h3 (qbc _)
  simp [Gf,this,he]) m
 have:=hfr _ _ hv;exact ⟨rv,Gf,rfl,hk v h' hK _ _ _ this,hin,hext⟩
theorem qac.of_own {f:FuncId} {args:List V} {K:V->Hp->Prop} {res:V} (m:Nat) (hc:qce P gl f args K) (hk:∀ v h,K v h->frz h m v = res):qac P gl f args res:=
 jjb m hc fun v h k=>by rw [hk v h k]; exact VLe.refl _
theorem VLe.trans {a b c:V} (h:VLe a b) (k:VLe b c):VLe a c:=fun G M r q=>k G M r (h G M r q)
theorem VLe.nil:VLe .nil (.sl [] (some 0)):=fun _ _ _ h=>by cases h; exact .slnil _ _ _ (by simp) (.inl rfl)
theorem VLe.cap (xs:List V) (c:Option Nat):VLe (.sl xs c) (.sl xs none):=fun G M r h=>by
 cases h with
 | slnil cap base rcap hc hb=>exact .slnil _ _ _ (by simp) hb
 | sl _ _ rb ro rcap sz cells hne hG hsz hb hl hc h ho=>exact .sl xs none rb ro rcap sz cells hne hG hsz hb hl (by simp) h ho
theorem VLe.nil':VLe .nil (.sl [] none):=VLe.trans .nil (.cap _ _)
def qg5:List V->List V->Prop
 | [],[]=>True
 | a :: r,b :: s=>VLe a b/\qg5 r s
 | _,_=>False
theorem qg5.refl:∀ l,qg5 l l
 | []=>trivial
 | a :: r=>⟨.refl a,qg5.refl r⟩
theorem qg5.spec:∀ {l m:List V},qg5 l m->l.length = m.length/\∀ i,VLe (l.getD i .undef) (m.getD i .undef)
 | [],[],_=>⟨rfl,fun _=>.refl _⟩
 | a :: r,b :: s,⟨h1,h2⟩=>⟨by simp [h2.spec.1],fun i=>by
  cases i with
  | zero=>simpa using h1
  | succ i=>simpa using h2.spec.2 i⟩
 | [],_ :: _,h=>h.elim
 | _ :: _,[],h=>h.elim
theorem qac.wide {f:FuncId} {args args':List V} {res res':V} (hc:qac P gl f args' res) (ha:qg5 args args') (hr:VLe res res'):qac P gl f args res':=by
 obtain ⟨h1,h2⟩:=ha.spec;refine ⟨hc.1,fun G w rargs hg hgl hsz hrel=>Calls.mono (hc.2 G w rargs hg hgl (hsz.trans h1) fun i hi=>h2 i _ _ _ (hrel i (by omega))) ?_⟩;rintro e w' ⟨rv,G',rfl,q1,q2,q3⟩;exact ⟨rv,G',rfl,hr _ _ _ q1,q2,q3⟩
theorem qce.wide {f:FuncId} {args args':List V} {K:V->Hp->Prop} (hc:qce P gl f args' K) (ha:qg5 args args'):qce P gl f args K:=by
 obtain ⟨h1,h2⟩:=ha.spec;exact ⟨hc.1,fun G w rargs hg hgl hsz hrel=>hc.2 G w rargs hg hgl (hsz.trans h1) fun i hi=>h2 i _ _ _ (hrel i (by omega))⟩
theorem qce.one {f:FuncId} {args:List V} {K:V->Hp->Prop} {sz:Nat} {xs:List V} (hc:qce P gl f args K) (hk:∀ v h,K v h->(xs = []/\v = .sl [] (some 0)/\h = [])∨qxg sz xs (some xs.length) v h):qce P gl f args (qxg sz xs (some xs.length)):=by
 refine ⟨hc.1,fun G w rargs hg hgl hsz hrel=>Calls.mono (hc.2 G w rargs hg hgl hsz hrel) ?_⟩;rintro e w' ⟨rv,v,h',G',M',rfl,hK,hv,hs,hx⟩;rcases hk v h' hK with ⟨rfl,rfl,rfl⟩ | hK
 ·let M2:qar:=fun b=>if b = 0 then some ⟨0,sz,0,0,none⟩ else none
  have e1:M2 0 = some ⟨0,sz,0,0,none⟩:=rfl
  have hno:∀ b mb rb,M2 b = some mb->mb.real = some rb->False:=by
   intro b mb rb h1 h2;simp only [M2] at h1;split at h1
   ·cases h1; cases h2
   ·cases h1
  refine ⟨rv,_,_,G',M2,rfl,⟨0,rfl,rfl⟩,?_,⟨hs.gw,fun b k hb=>?_,fun b b' mb mb' rb h1 _ h3=>(hno b mb rb h1 h3).elim,fun b mb rb h1 h2=>(hno b mb rb h1 h2).elim⟩,⟨hx.g,hx.gnew,fun _ _ q=>(by cases q),fun k ⟨b,mb,h1,h2⟩=>(hno b mb k h1 h2).elim,hx.os,hx.tape,hx.output,hx.size,hx.keep⟩⟩
  ·cases hv with
   | slnil cap base rcap hcc hb=>
    have hr0:=hcc 0 rfl;subst hr0;exact .ref _ _ _ _ _ _ _ _ e1 (jki _) (jki _) (by simp) fun _=>⟨rfl,rfl⟩
   | sl _ _ _ _ _ _ _ hne=>exact absurd rfl hne
  ·simp only [lk] at hb;split at hb
   ·rename_i h0;cases hb; subst h0;exact ⟨_,e1,rfl,rfl,rfl⟩
   ·cases hb
 ·exact ⟨rv,v,h',G',M',rfl,hK,hv,hs,hx⟩
theorem qcl {h:Hp} {n b g off len sz:Nat} {cap:Option Nat} {es:List V} (hb:lk h b = some (.row g sz es)) (hl:off + len≤es.length):frz h (n + 1) (.ref b g off len cap) = .sl (((es.drop off).take len).map (frz h n)) cap:=by
 simp [frz,hb,hl]
theorem qdr (h:Hp) (n:Nat) {l:List V} (hp:jid l = true):l.map (frz h n) = l:=by
 have:∀ x ∈ l,frz h n x = x:=fun x hx=>qjb h n ((jig l).1 hp x hx);rw [List.map_congr_left this,List.map_id']
theorem ji8 {f:FuncId} {args:List V} {sz:Nat} {xs:List V} {cap:Option Nat} (hc:qce P gl f args (qxg sz xs cap)) (hp:jid xs = true):qac P gl f args (.sl xs cap):=by
 refine qac.of_own 1 hc ?_;rintro v h ⟨g,rfl,rfl⟩;rw [qcl (es:=xs) (sz:=sz) (by simp [lk]) (by omega),List.drop_zero,List.take_length,qdr _ _ hp]
end
end Go.Proofs.YtbbnmiaabmbheaaGreatDoor
