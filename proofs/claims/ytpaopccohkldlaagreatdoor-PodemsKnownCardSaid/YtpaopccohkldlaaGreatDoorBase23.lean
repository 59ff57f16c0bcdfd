/- Lemmas. Conditions: none. -/
import Derived.Test.YtpaopccohkldlaaGreatDoorBase18
set_option linter.all false
namespace Go.Proofs.YtpaopccohkldlaaGreatDoor
section
open Go
inductive PX where
 | n (e:qfl)
 | p (ch:List PanicEntry)
def PX.out:PX->Exit
 | .n e=>e.out
 | .p ch=>.panic ch
abbrev PQ:=PX->Fr->Hp->Prop
def UpP (bs:BS) (n:Nat) (gl:Fr) (G:qa6) (M:qaz) (w:World) (Q:PQ):Exit->Act->World->Prop:=fun e a' w'=>
 ∃ x G' M' fr' h',e = x.out/\Q x fr' h'/\R bs n gl G' M' fr' h' a' w'/\Ext G M w G' M' w'
def IWP (P:Program) (n:Nat) (gl:Fr) (c:Code) (Q:PQ) (fr:Fr) (h:Hp):Prop:=
 ∀ bs G M a w,R bs n gl G M fr h a w->c.wpIn (FW none) 0 P (UpP bs n gl G M w Q) a w
section
variable {P:Program} {n:Nat} {gl:Fr} {Q:PQ} {fr:Fr} {h:Hp} {bs:BS} {G:qa6} {M:qaz} {a:Act} {w:World} {ops:Array Oper}
theorem UpP.after {G1:qa6} {M1:qaz} {w1:World} (hx:Ext G M w G1 M1 w1) {e:Exit} {a:Act} {w2:World} (h:UpP bs n gl G1 M1 w1 Q e a w2):UpP bs n gl G M w Q e a w2:=by
 obtain ⟨x,G',M',fr',h',h1,h2,h3,h4⟩:=h;exact ⟨x,G',M',fr',h',h1,h2,h3,hx.trans h4⟩
theorem IWP.of {c:Code} (hc:IW P n gl c (fun e=>Q (.n e)) fr h):IWP P n gl c Q fr h:=fun bs G M a w hr=>
 wpIn_mono (hc none bs (fun h=>nomatch h) G M a w hr) fun _ _ _ ⟨ie,G',M',fr',h',h1,h2,h3,h4⟩=>⟨.n ie,G',M',fr',h',h1,h2,h3,h4⟩
theorem IWP.mono {c:Code} {Q':PQ} (hc:IWP P n gl c Q fr h) (hq:∀ e fr h,Q e fr h->Q' e fr h):IWP P n gl c Q' fr h:=
 fun bs G M a w hr=>wpIn_mono (hc bs G M a w hr) fun _ _ _ ⟨ie,G',M',fr',h',h1,h2,h3,h4⟩=>⟨ie,G',M',fr',h',h1,hq _ _ _ h2,h3,h4⟩
def qoo (next:Fr->Hp->Prop) (Q:PQ):PQ
 | .n .normal,fr,h=>next fr h
 | e,fr,h=>Q e fr h
theorem IWP.seq {x y:Code} (hx:IWP P n gl x (qoo (IWP P n gl y Q) Q) fr h):IWP P n gl (.seq x y) Q fr h:=by
 intro bs G M a w hr;refine wpIn_seq (wpIn_mono (hx bs G M a w hr) ?_);rintro e a1 w1 ⟨ie,G',M',fr',h',rfl,h2,h3,h4⟩
 cases ie with
 | p ch=>exact ⟨.p ch,G',M',fr',h',rfl,h2,h3,h4⟩
 | n ie=>cases ie with
  | normal=>exact wpIn_mono (h2 bs G' M' a1 w1 h3) fun e a2 w2 hu=>hu.after h4
  | exit id=>exact ⟨.n (.exit id),G',M',fr',h',rfl,h2,h3,h4⟩
  | goto l=>exact ⟨.n (.goto l),G',M',fr',h',rfl,h2,h3,h4⟩
  | ret=>exact ⟨.n .ret,G',M',fr',h',rfl,h2,h3,h4⟩
theorem IWP.cond {c:Operand} {x y:Code} {t:Bool} (hc:ev gl fr (co c) = some (.bool t)) (hw:IWP P n gl (if t then x else y) Q fr h):IWP P n gl (.cond c x y) Q fr h:=
 fun bs G M a w hr=>wpIn_cond (qbu (qa2 hr hc)) (hw bs G M a w hr)
def qj3 (id:Nat) (Q:PQ):PQ
 | .n (.exit id'),fr,h=>if id' = id then Q (.n .normal) fr h else Q (.n (.exit id')) fr h
 | e,fr,h=>Q e fr h
theorem IWP.block {id:Nat} {c:Code} (hc:IWP P n gl c (qj3 id Q) fr h):IWP P n gl (.block id c) Q fr h:=by
 intro bs G M a w hr;refine wpIn_block (wpIn_mono (hc bs G M a w hr) ?_);rintro e a1 w1 ⟨ie,G',M',fr',h',rfl,h2,h3,h4⟩
 cases ie with
 | p ch=>exact ⟨.p ch,G',M',fr',h',rfl,h2,h3,h4⟩
 | n ie=>cases ie with
  | normal=>exact ⟨.n .normal,G',M',fr',h',rfl,h2,h3,h4⟩
  | exit id'=>
   simp only [PX.out,qfl.out,Exit.inBlock];simp only [qj3] at h2;split
   ·rename_i he; rw [if_pos he] at h2; exact ⟨.n .normal,G',M',fr',h',rfl,h2,h3,h4⟩
   ·rename_i he; rw [if_neg he] at h2; exact ⟨.n (.exit id'),G',M',fr',h',rfl,h2,h3,h4⟩
  | goto l=>exact ⟨.n (.goto l),G',M',fr',h',rfl,h2,h3,h4⟩
  | ret=>exact ⟨.n .ret,G',M',fr',h',rfl,h2,h3,h4⟩
theorem IWP.loop {c:Code} {X:Type} (F:X->Fr) (H:X->Hp) (Inv:X->Prop) (mu:X->Nat) (h0:MvP (fun fr' h'=>∃ x0,Inv x0/\Sub (F x0) fr'/\Sub (H x0) h') fr h)
  (round:∀ x,Inv x->IWP P n gl c (qoo (fun fr' h'=>MvP (fun fr2 h2=>∃ x',Inv x'/\Sub (F x') fr2/\Sub (H x') h2/\mu x' < mu x) fr' h') Q) (F x) (H x)):IWP P n gl (.loop c) Q fr h:=by
 intro bs G M a w hr;intro b k cs hro hb hrm
 have key:∀ m x G1 M1 a1 w1,mu x = m->Inv x->R bs n gl G1 M1 (F x) (H x) a1 w1->Ext G M w G1 M1 w1->
   ∃ e a' w',UpP bs n gl G M w Q e a' w'/\ArrivesIn (Machine.fenced P (FW none)) P (lone (b.atR a1 (.code c :: .inLoop c :: k)) cs w1) b k cs e a' w':=by
  intro m
  induction m using Nat.strongRecOn with
  | _ m ih=>
   intro x G1 M1 a1 w1 hm hI hr1 hx1;obtain ⟨e,a2,w2,⟨ie,G2,M2,fr2,h2,rfl,hq,hr2,hx2⟩,harr⟩:=round x hI bs G1 M1 a1 w1 hr1 b (.inLoop c :: k) cs hro hb hrm
   cases ie with
   | p ch=>exact ⟨_,a2,w2,⟨.p ch,G2,M2,fr2,h2,rfl,hq,hr2,hx1.trans hx2⟩,.pass (x:=.inLoop c) rfl (fun _ _=>.inl (by simp [PX.out])) harr⟩
   | n ie=>cases ie with
    | normal=>
     obtain ⟨fr3,h3,G3,M3,⟨x',hI',hf',hh',hlt⟩,hr3,hx3⟩:=MvP.sound hq hr2;obtain ⟨e,a3,w3,hq3,harr3⟩:=ih (mu x') (hm ▸ hlt) x' G3 M3 a2 w2 rfl hI' (hr3.weaken hf'.spec hh'.spec) ((hx1.trans hx2).trans hx3);exact ⟨e,a3,w3,hq3,.of_steps (StepsIn.trans harr (.one (fenced_calm hb hrm rfl) stepR_inLoop)) harr3⟩
    | exit id=>exact ⟨_,a2,w2,⟨.n (.exit id),G2,M2,fr2,h2,rfl,hq,hr2,hx1.trans hx2⟩,.pass (x:=.inLoop c) rfl (fun _ _=>.inl (by simp [PX.out,qfl.out])) harr⟩
    | goto l=>exact ⟨_,a2,w2,⟨.n (.goto l),G2,M2,fr2,h2,rfl,hq,hr2,hx1.trans hx2⟩,.pass (x:=.inLoop c) rfl (fun _ _=>.inl (by simp [PX.out,qfl.out])) harr⟩
    | ret=>exact ⟨_,a2,w2,⟨.n .ret,G2,M2,fr2,h2,rfl,hq,hr2,hx1.trans hx2⟩,.pass (x:=.inLoop c) rfl (fun _ _=>.inl (by simp [PX.out,qfl.out])) harr⟩
 obtain ⟨fr0,h0',G0',M0',⟨x0,i0,hF,hH⟩,r0,x00⟩:=h0.sound hr;obtain ⟨e,a',w',hq,harr⟩:=key _ x0 G0' M0' a w rfl i0 (r0.weaken hF.spec hH.spec) x00;exact ⟨e,a',w',hq,.of_steps (.one (fenced_calm hb hrm rfl) stepR_loop) harr⟩
theorem q1z (hr:R bs n gl G M fr h a w) {o:Oper} {c:Call} {f:Operand} {Q':Exit->Act->World->Prop} (ho:o.op = .call c) (hc:c.callee = .value f) {fid:FuncId} {fst cap vs:List V}
  (hf:ev gl fr (co f) = some (.fn fid fst cap)) (hvs:evs gl fr (c.args.toList.map co) = some vs) (hcal:qbq P fid = true) {Post:Value->World->Prop} {PostP:List PanicEntry->World->Prop}
  (hcalls:∀ rargs:Array Value,rargs.size = (fst ++ vs ++ cap).length->(∀ i,i < (fst ++ vs ++ cap).length->qam G M ((fst ++ vs ++ cap).getD i .undef) (rargs.getD i undef))->Calls P fid rargs w fun e w'=>(∃ rv,e = .returned rv/\Post rv w')∨∃ ch,e = .panicked ch/\PostP ch w')
  (hQ:∀ ch w',PostP ch w'->Q' (.panic ch) a w') :
  o.wp P a w (fun a' w'=>∃ rv,a' = a.put o.dst rv/\Post rv w') Q':=by
 obtain ⟨v1,v2⟩:=qmf hr hvs;have rf:=qa2 hr hf;generalize hev:a.eval f = r at rf
 cases rf with
 | fn _ _ _ rfst rcap s1 s2 s3 s4=>
  unfold qbq at hcal;split at hcal
  ·rename_i fn hfn;simp only [Bool.and_eq_true,bne_iff_ne,ne_eq,Option.isSome_iff_exists] at hcal;obtain ⟨hname,body,hbody⟩:=hcal
   have hrun:(execOp a.eval o).run P w = .ok (.enter fid (rfst ++ c.args.map a.eval ++ rcap)) w:=by
    simp [execOp,ho,resolve,hc,hev,Deferred.ofValue,invoke,callFunc,hfn,hname,hbody]
   unfold Oper.wp;rw [hrun,Oper.upon_enter];refine Calls.mono (hcalls (rfst ++ c.args.map a.eval ++ rcap) (by simp [v1]; omega) ?_) ?_
   ·intro i hi;simp only [List.length_append] at hi;simp only [jpi,jph,Array.getElem?_append,List.getElem?_append,Array.size_append,Array.size_map,List.length_append,s1];have hl:c.args.size = vs.length:=by rw [v1]; simp
    rw [hl];by_cases c1:i < fst.length + vs.length
    ·rw [if_pos c1,if_pos c1];by_cases c2:i < fst.length
     ·rw [if_pos c2,if_pos c2];have:=s3 i c2;simpa [jpi,jph] using this
     ·rw [if_neg c2,if_neg c2];have:=v2 (i - fst.length) (by omega);rw [<- qcd] at this;simpa only [jpi,jph] using this
    ·rw [if_neg c1,if_neg c1];have:=s4 (i - (fst.length + vs.length)) (by omega);simpa only [jpi,jph] using this
   ·rintro e w' (⟨rv,rfl,h1⟩ | ⟨ch,rfl,h1⟩)
    ·exact ⟨rv,rfl,h1⟩
    ·exact hQ ch w' h1
  ·cases hcal
def q1y (P:Program) (gl:Fr) (K:V->Hp->Prop) (KP:List PanicEntry->Hp->Prop) (h:Hp):V->List V->Prop
 | .fn fid fst cap,vs=>qby P gl fid (fst ++ vs ++ cap) h K KP
 | _,_=>False
def qfn (P:Program) (gl:Fr) (KP:List PanicEntry->Fr->Hp->Prop):List qay->Fr->Hp->(Fr->Hp->Prop)->Prop
 | [],fr,h,K=>K fr h
 | o :: r,fr,h,K=>match qdm o.op,o.guard with
  | some (f,as),none=>w2l (ev gl fr f) (evs gl fr as) (q1y P gl (kF (qfn P gl KP r) o.dst fr K) (fun ch=>KP ch fr) h)
  | _,_=>gF fr (opT P gl (o.dst.getD 999999) fr h (kF (qfn P gl KP r) o.dst fr K) o.op) (kT (qfn P gl KP r) o.dst fr h K) o.guard
theorem qlq {all:List qay} (hnd:∀ (i:Nat) (o:Oper),ops[i]? = some o->(none:Option Nat).isSome = true->qdt o.op = false) (hx:qbv P n ops ops.toList = some all) {Q':Exit->Act->World->Prop} {KP:List PanicEntry->Fr->Hp->Prop} {K:Fr->Hp->Prop}:∀ (l:List qay) (k:Nat),all.drop k = l->∀ {fr h G M a w},R bs n gl G M fr h a w->qfn P gl KP l fr h K->
  (∀ fr' h' G' M' a' w',K fr' h'->R bs n gl G' M' fr' h' a' w'->Ext G M w G' M' w'->Q' .normal a' w')->
  (∀ ch fr' h' G' M' a' w',KP ch fr' h'->R bs n gl G' M' fr' h' a' w'->Ext G M w G' M' w'->Q' (.panic ch) a' w')->wpOpsIn (FW none) 0 P ops Q' (List.range' k (all.length - k)) a w
 | [],k,hk,fr,h,G,M,a,w,hr,hi,hq,_=>by
  have:all.length - k = 0:=by have:=congrArg List.length hk; simpa using this
  rw [this];exact hq fr h G M a w hi hr (.refl _ _ _)
 | x :: l,k,hk,fr,h,G,M,a,w,hr,hi,hq,hp=>by
  have hlen:all.length - k = l.length + 1:=by have:=congrArg List.length hk; simpa using this
  rw [hlen,List.range'_succ,wpOpsIn_cons]
  have hxk:all[k]? = some x:=by
   have:=congrArg (fun q:List qay=>q[0]?) hk;simpa using this
  have hkl:k < ops.toList.length:=by rw [<- (qbp hx).1]; exact (List.getElem?_eq_some_iff.1 hxk).1
  obtain ⟨x',hx1,hx2⟩:=(qbp hx).2 k _ (jpl hkl);rw [hxk] at hx1; cases hx1;have hok:ops[k]? = some ops.toList[k]:=by simp at hkl; simp [hkl]
  have hdrop:all.drop (k + 1) = l:=by rw [<- List.tail_drop,hk]; rfl
  have hll:all.length - (k + 1) = l.length:=by omega
  have hrest:∀ fr' h' G' M' a' w',qfn P gl KP l fr' h' K->R bs n gl G' M' fr' h' a' w'->Ext G M w G' M' w'->wpOpsIn (FW none) 0 P ops Q' (List.range' (k + 1) l.length) a' w':=fun fr' h' G' M' a' w' hK hr' hext=>by
   have:=qlq hnd hx (Q':=Q') (KP:=KP) l (k + 1) hdrop hr' hK (fun fr2 h2 G2 M2 a2 w2 q1 q2 q3=>hq fr2 h2 G2 M2 a2 w2 q1 q2 (hext.trans q3)) fun ch fr2 h2 G2 M2 a2 w2 q1 q2 q3=>hp ch fr2 h2 G2 M2 a2 w2 q1 q2 (hext.trans q3);rw [hll] at this; exact this
  have old:gF fr (opT P gl (x.dst.getD 999999) fr h (kF (qfn P gl KP l) x.dst fr K) x.op) (kT (qfn P gl KP l) x.dst fr h K) x.guard->wpOpIn (FW none) 0 P ops Q' k (wpOpsIn (FW none) 0 P ops Q' (List.range' (k + 1) l.length)) a w:=
   fun hi=>qqi (qnk hx) hr hok (hnd k _ hok) hx2 hi hrest
  simp only [qfn] at hi;split at hi
  ·rename_i f as hac hgu;obtain ⟨c1,c2,c3,c4⟩:=qdf hx2
   cases hf:ev gl fr f with
   | none=>rw [hf] at hi; exact hi.elim
   | some fv=>
    cases hvs:evs gl fr as with
    | none=>rw [hf,hvs] at hi; exact hi.elim
    | some vs=>
     rw [hf,hvs] at hi;simp only [w2l] at hi;rw [qe5 hac] at c1;obtain ⟨c,g,e1,e2,rfl,rfl⟩:=qh4 c1;cases fv <;> simp only [q1y] at hi;rename_i fid fst cap;obtain ⟨hcal,hic⟩:=hi;unfold wpOpIn;simp only [hok];rw [qcx (qnk hx) hr c2 (F:=lk fr) (fun _ _=>rfl) (show xgd (lk fr) x.guard = some true by rw [hgu]; rfl),if_pos rfl]
     refine jnr (fun h=>nomatch h) (Oper.wp_mono ?_ (q1z hr e1 e2 hf hvs hcal (Post:=fun rv w'=>∃ v h' G' M',kF (qfn P gl KP l) x.dst fr K v h'/\qam G' M' v rv/\Sim G' M' h' w'/\Ext G M w G' M' w')
      (PostP:=fun ch w'=>∃ h' G' M',KP ch fr h'/\Sim G' M' h' w'/\Ext G M w G' M' w') (fun rargs hsz hrel=>?_) ?_))
     ·rintro a' w' ⟨rv,rfl,v,h',G',M',q1,q2,q3,q4⟩;have:=hr.put (dst:=(ops.toList[k]).dst) c4 q2 q3 q4;simp only [kF] at q1;rw [c3] at q1;exact hrest _ _ G' M' _ _ q1 this q4
     ·refine Calls.mono (hic G M w rargs hr.sim hr.gl hsz hrel) ?_;rintro e w' (⟨rv,v,h',G',M',rfl,q1,q2,q3,q4⟩ | ⟨ch,h',G',M',rfl,q1,q2,q3⟩)
      ·exact .inl ⟨rv,rfl,v,h',G',M',q1,q2,q3,q4⟩
      ·exact .inr ⟨ch,rfl,h',G',M',q1,q2,q3⟩
     ·rintro ch w' ⟨h',G',M',q1,q2,q3⟩;refine hp ch fr h' G' M' a w' q1 ⟨q2,fun t v ht=>(hr.frr t v ht).mono q3.g q3.m,hr.sz,hr.df.ext q3,hr.gl.mono q3.g,Nat.le_trans hr.bs q3.size⟩ q3
  ·exact old hi
theorem IWP.reg {id:Nat} {l:List qay} (hx:qbv P n ops ops.toList = some l) (hw:qfn P gl (fun ch=>Q (.p ch)) l fr h (Q (.n .normal))):IWP P n gl (.region id ops false) Q fr h:=by
 intro bs G M a w hr;refine wpIn_region ?_;have hll:l.length = ops.size:=by have:=(qbp hx).1; simpa using this
 have:=qlq (fun _ _ _ h=>nomatch h) hx (Q':=UpP bs n gl G M w Q) l 0 rfl hr hw (fun fr' h' G' M' a' w' q1 q2 q3=>⟨.n .normal,G',M',fr',h',rfl,q1,q2,q3⟩) fun ch fr' h' G' M' a' w' q1 q2 q3=>⟨.p ch,G',M',fr',h',rfl,q1,q2,q3⟩;rw [Nat.sub_zero,hll,<- List.range_eq_range'] at this;exact this
def q89 (rs:List qwi) (K:V->Hp->Prop) (KP:List PanicEntry->Hp->Prop):PQ
 | .n e,fr,h=>qz4 rs K e fr h
 | .p ch,_,h=>∃ h2,Sub h2 h/\KP ch h2
theorem jog {bs:Nat} {G:qa6} {M:qaz} {h:Hp}:∀ {l:List Deferred} {w:World}, Sim G M h w -> qdw bs M w l -> ∃ w', Sim G M h w' /\ (∀ k, k < bs -> w'.heap[k]? = w.heap[k]?) /\ w'.heap.size = w.heap.size /\ w'.os = w.os /\ w'.tape = w.tape /\ w'.output = w.output /\
      ∀ (P:Program) (F:Fence) (m:Nat) (fn:Func) (tmps:Array Value) (Rr:Ending->World->Prop) (ch:List PanicEntry),Rr (.panicked ch) w'->LeavesInM F m P fn tmps Rr l (.panicking ch) w
  | [],w,hs,_=>⟨w,hs,fun _ _=>rfl,rfl,rfl,rfl,rfl,fun _ _ _ _ _ _ _ h=>h⟩
  | d :: r,w,hs,⟨⟨k,h1,h2,h3,h4,h5⟩,h6⟩=>by
    have hk:k < w.heap.size:=(Array.getElem?_eq_some_iff.1 h3).1
    have hm:∀ {l:List Deferred},{ target:=.collected k,args:=#[] } ∉ l->qdw bs M w l->qdw bs M (w.putObj k (.deferred none)) l:=by
      intro l
      induction l with
      | nil=>exact fun _ _=>trivial
      | cons e l ih=>
        rintro hn ⟨⟨j,q1,q2,q3,q4,q5⟩,q6⟩;refine ⟨⟨j,q1,q2,?_,q4,q5⟩,ih (fun hc=>hn (List.mem_cons_of_mem _ hc)) q6⟩;rw [qb5 fun e'=>hn (by subst e'; rw [q1]; exact List.mem_cons_self)];exact q3
    obtain ⟨w',s1,s2,s3,s4,s5,s6,s7⟩:=jog (hs.putFree (o':=.deferred none) h3 (fun _ _ _ e=>by cases e) h4) (hm h5 h6);refine ⟨w',s1,fun j hj=>?_,by rw [s3,World.putObj_size],s4,s5,s6,fun P F m fn tmps Rr ch hv=>⟨(by simp),.inl ⟨k,_,by rw [h1],run_takeDeferred h3,s7 P F m fn tmps Rr ch hv⟩⟩⟩;rw [s2 j hj,qb5 (by omega)]
theorem qby.of_body {f:FuncId} {fn:Func} {c:Code} {args:List V} {K:V->Hp->Prop} {KP:List PanicEntry->Hp->Prop} {rs:List qwi} (hf:P.funcs[f]? = some fn) (hb:fn.body = some c) (hname:fn.name ≠ "runtime.NumGoroutine")
  (hargs:args.length≤fn.ntmps) (hres:qc0 P fn.results.toList = some rs) (hw:IWP P fn.ntmps gl c (q89 rs K KP) (qri 0 args) h):qby P gl f args h K KP:=by
 refine ⟨by simp [qbq,hf,hb,hname],fun G M w rargs hs hgl hsz hrel=>?_⟩;refine qd0.1 (callsIn_of_wp_marks (F:=FW none) (n:=0) hf hb trivial (wpIn_mono (hw (w.heap.size:BS) G M _ w ⟨hs,fun t v ht=>?_,by simp; omega,.nil _ _ _,hgl,jpm _⟩) ?_))
 ·obtain ⟨-,h2,h3⟩:=qkv args 0 t v ht;rw [Nat.sub_zero] at h2 h3
  have:(rargs ++ Array.replicate (fn.ntmps - rargs.size) undef).getD t undef = rargs.getD t undef:=by
   simp only [jpi,Array.getElem?_append];rw [if_pos (by omega)]
  rw [this,<- h3]; exact hrel t h2
 ·rintro e ⟨tm,df⟩ w1 ⟨x,G',M',fr',h',rfl,hq,hr0,hx0⟩
  cases x with
  | p ch=>
   obtain ⟨h2,q0,q1⟩:=hq;obtain ⟨l',e0,hmk,-⟩:=hr0.df;rw [List.append_nil] at e0;obtain ⟨w',s1,s2,s3,s4,s5,s6,s7⟩:=jog hr0.sim hmk;simp only at e0;subst e0;refine s7 P _ _ fn _ _ ch (.inr ⟨ch,h2,G',M',rfl,q1,⟨s1.gw,fun b k hk=>s1.hb b k (q0.spec b k hk),s1.inj,s1.mlt⟩,⟨hx0.g,hx0.gnew,hx0.m,hx0.mnew,s4.trans hx0.os,s5.trans hx0.tape,s6.trans hx0.output,by rw [s3]; exact hx0.size,fun k hk hn=>(s2 k hk).trans (hx0.keep k hk hn)⟩⟩)
  | n ie=>exact qhs hres hq hr0 hx0 fun rv v h0 G2 M2 w' q1 q2 q3 q4=>.inl ⟨rv,v,h0,G2,M2,rfl,q1,q2,q3,q4⟩
end
end
section
open Go
section
variable {P:Program} {n:Nat} {gl:Fr} {Q:PQ} {fr:Fr} {h:Hp}
theorem qd2 {ops:Array Oper} {Q':Exit->Act->World->Prop} {i:Nat} {o:Oper} {K:Act->World->Prop} {a:Act} {w:World} (ho:ops[i]? = some o) (hg:o.guard = none) (hd:qdt o.op = false) (hw:o.wp P a w K Q'):wpOpIn (FW none) 0 P ops Q' i K a w:=by
 unfold wpOpIn;rw [ho];simp only [Region.wanted,hg,if_true];exact jnr (fun _=>hd) hw
theorem R.putU {bs:BS} {G:qa6} {M:qaz} {a:Act} {w:World} (hr:R bs n gl G M fr h a w) {d:Nat} (hd:d < n) (v:Value):R bs n gl G M (qmz fr (some d) .undef) h (a.put (some d) v) w:=
 hr.put (dst:=some d) (v:=.undef) (rv:=v) hd (.undef v) hr.sim (.refl _ _ _)
theorem jox {id:Nat} {o0 o1 o2:Oper} {T T0:TypeId} {z:Value} {d0 t:Nat} {u:TypeDesc} (e0:o0.op = .build T0 #[]) (e1:o1.op = .makeInterface T (.tmp d0)) (e2:o2.op = .panic (.tmp t)) (g0:o0.guard = none) (g1:o1.guard = none) (g2:o2.guard = none)
  (d0':o0.dst = some d0) (d1:o1.dst = some t) (h0:d0 < n) (h1:t < n) (hz:∀ w,(Instr.build T0 #[]).run P w = .ok z w) (hT:P.underlying T = some u) (hu:∀ ms,u ≠ .interface ms)
  (hq:∀ fr',Q (.p [{ v:=.iface T z,recovered:=false }]) fr' h):IWP P n gl (.region id #[o0,o1,o2] false) Q fr h:=by
 intro bs G M a w hr;refine wpIn_region ?_;show wpOpsIn (FW none) 0 P #[o0,o1,o2] _ [0,1,2] a w;rw [wpOpsIn_cons];refine qd2 (o:=o0) rfl g0 (by rw [e0]; rfl) ?_;have r0:(execOp a.eval o0).run P w = .ok (.value z) w:=by simp [execOp,e0,hz]
 unfold Oper.wp;rw [r0,Oper.upon_value,d0'];have hr0:=hr.putU h0 z;have hev0:(a.put (some d0) z).eval (.tmp d0) = z:=by simp [Act.eval,Act.put,hr.sz,h0]
 generalize a.put (some d0) z = a0 at hr0 hev0 ⊢;rw [wpOpsIn_cons];refine qd2 (o:=o1) rfl g1 (by rw [e1]; rfl) ?_
 have r1:(execOp a0.eval o1).run P w = .ok (.value (.iface T z)) w:=by
  have hm:∀ y:Value,(Instr.makeInterface T y).run P w = .ok (.iface T y) w:=fun y=>by
   unfold Instr.makeInterface;rw [Sem.run_bind,run_underlying hT,Result.andThen_ok]
   cases u <;> first
    | rfl
    | exact absurd rfl (hu _)
  simp [execOp,e1,hm,hev0]
 unfold Oper.wp;rw [r1,Oper.upon_value,d1];have hr1:=hr0.putU h1 (.iface T z)
 have hev:(a0.put (some t) (.iface T z)).eval (.tmp t) = .iface T z:=by
  simp [Act.eval,Act.put,hr0.sz,h1]
 generalize a0.put (some t) (.iface T z) = a1 at hr1 hev ⊢;rw [wpOpsIn_cons];refine qd2 (o:=o2) rfl g2 (by rw [e2]; rfl) ?_
 have r2:(execOp a1.eval o2).run P w = .halt (.panic (.iface T z)) w:=by
  simp [execOp,e2,hev,Instr.panic]
 unfold Oper.wp;rw [r2];exact ⟨.p _,G,M,_,h,rfl,hq _,hr1,.refl _ _ _⟩
end
def qo2 (body:PQ->Fr->Hp->Prop) (Q:PQ) (fr:Fr) (h:Hp):Prop:=
 ∃ (X:Type) (F:X->Fr) (H:X->Hp) (Inv:X->Prop) (mu:X->Nat),MvP (fun fr' h'=>∃ x0,Inv x0/\Sub (F x0) fr'/\Sub (H x0) h') fr h/\
  ∀ x,Inv x->body (qoo (fun fr' h'=>MvP (fun fr2 h2=>∃ x',Inv x'/\Sub (F x') fr2/\Sub (H x') h2/\mu x' < mu x) fr' h') Q) (F x) (H x)
theorem qo2.of {body:PQ->Fr->Hp->Prop} {Q:PQ} {fr:Fr} {h:Hp} {X:Type} (F:X->Fr) (H:X->Hp) (Inv:X->Prop) (mu:X->Nat) (h0:MvP (fun fr' h'=>∃ x0,Inv x0/\Sub (F x0) fr'/\Sub (H x0) h') fr h)
  (round:∀ x,Inv x->body (qoo (fun fr' h'=>MvP (fun fr2 h2=>∃ x',Inv x'/\Sub (F x') fr2/\Sub (H x') h2/\mu x' < mu x) fr' h') Q) (F x) (H x)):qo2 body Q fr h:=⟨X,F,H,Inv,mu,h0,round⟩
def XC.wpP (P:Program) (gl:Fr):XC->PQ->Fr->Hp->Prop
 | .ops l,Q,fr,h=>qfn P gl (fun ch=>Q (.p ch)) l fr h (Q (.n .normal))
 | .seq a b,Q,fr,h=>a.wpP P gl (qoo (b.wpP P gl Q) Q) fr h
 | .cond c a b,Q,fr,h=>qpi (a.wpP P gl Q) (b.wpP P gl Q) fr h (ev gl fr c)
 | .block id a,Q,fr,h=>a.wpP P gl (qj3 id Q) fr h
 | .loop a,Q,fr,h=>qo2 (a.wpP P gl) Q fr h
 | x,Q,fr,h=>x.wpF P gl (fun e=>Q (.n e)) fr h
theorem qq6 {P:Program} {n:Nat} {gl:Fr}:∀ {c:Code} {x:XC},qcm P n c = some x->∀ {Q:PQ} {fr:Fr} {h:Hp},x.wpP P gl Q fr h->IWP P n gl c Q fr h:=by
 have old:∀ {c:Code} {x:XC},qcm P n c = some x->∀ {Q:PQ} {fr:Fr} {h:Hp},x.wpF P gl (fun e=>Q (.n e)) fr h->IWP P n gl c Q fr h:=fun hx _ _ _ hw=>.of (qcq hx hw);intro c
 induction c with
 | region id ops draw=>
  intro x hx Q fr h hw
  cases draw with
  | false=>
   have hx0:=hx;simp only [qcm] at hx
   cases hl:qbv P n ops ops.toList with
   | none=>rw [hl] at hx; cases hx
   | some l=>rw [hl] at hx; cases hx; exact IWP.reg hl hw
  | true=>
   have hx0:=hx;simp only [qcm] at hx;obtain ⟨l,chk,rfl,-⟩:=jom (gl:=gl) (id:=id) (fr:=fr) (h:=h) (Q:=fun e=>Q (.n e)) hx;exact old hx0 hw
 | seq a b iha ihb=>
  intro x hx Q fr h hw;simp only [qcm] at hx;split at hx
  ·rename_i xa xb ha hb;cases hx;refine IWP.seq (IWP.mono (iha ha hw) fun e fr h hq=>?_)
   cases e with
   | p ch=>exact hq
   | n e=>cases e with
    | normal=>exact ihb hb hq
    | exit id=>exact hq
    | goto l=>exact hq
    | ret=>exact hq
  ·cases hx
 | cond c a b iha ihb=>
  intro x hx Q fr h hw;simp only [qcm] at hx;split at hx
  ·rename_i xa xb ha hb;cases hx;simp only [XC.wpP] at hw
   cases hc0:ev gl fr (co c) with
   | none=>rw [hc0] at hw; exact hw.elim
   | some v=>
    rw [hc0] at hw;cases v <;> simp only [qpi] at hw;rename_i t
    cases t with
    | true=>exact IWP.cond hc0 (iha ha (by simpa using hw))
    | false=>exact IWP.cond hc0 (ihb hb (by simpa using hw))
  ·cases hx
 | block id a iha=>
  intro x hx Q fr h hw;simp only [qcm] at hx;split at hx
  ·rename_i xa ha; cases hx; exact IWP.block (iha ha hw)
  ·cases hx
 | loop a iha=>
  intro x hx Q fr h hw;simp only [qcm] at hx;split at hx
  ·rename_i xa ha;cases hx;obtain ⟨X,F,H,Inv,mu,h0,h3⟩:=hw;exact IWP.loop F H Inv mu h0 fun x hI=>iha ha (h3 x hI)
  ·cases hx
 | scope a iha=>intro x hx Q fr h hw; have hx0:=hx; simp only [qcm] at hx; split at hx; (· cases hx; exact old hx0 hw); cases hx
 | rangeFunc f ps a b=>intro x hx Q fr h hw; cases hx; exact old rfl hw
 | refuse s=>intro x hx; cases hx
 | skip=>intro x hx Q fr h hw; cases hx; exact old rfl hw
 | exit id=>intro x hx Q fr h hw; cases hx; exact old rfl hw
 | goto id=>intro x hx Q fr h hw; cases hx; exact old rfl hw
 | label id=>intro x hx Q fr h hw; cases hx; exact old rfl hw
 | ret=>intro x hx Q fr h hw; cases hx; exact old rfl hw
section
variable {P:Program} {gl:Fr} {Q:PQ} {fr:Fr} {h:Hp}
theorem jor {f:FuncId} {fi:FnI} {args:List V} {K:V->Hp->Prop} {KP:List PanicEntry->Hp->Prop} (hb:qah P f fi) (hk:Nat.ble args.length fi.n = true) (hw:fi.code.wpP P gl (q89 fi.rs K KP) (qri 0 args) h):qby P gl f args h K KP:=by
 obtain ⟨fn,body,h1,h2,h3,h4,h5,h6⟩:=hb;rw [<- h4] at h6 hk;exact qby.of_body h1 h2 h3 (Nat.le_of_ble_eq_true hk) h5 (qq6 h6 hw)
theorem q1n:∃ f:Program->Fr->XC->PQ->Fr->Hp->Prop,∀ P gl c Q fr h,f P gl c Q fr h = c.wpP P gl Q fr h:=⟨fun P gl c Q fr h=>c.wpP P gl Q fr h,fun _ _ _ _ _ _=>(rfl)⟩
noncomputable def KPc:Program->Fr->XC->PQ->Fr->Hp->Prop:=Classical.choose q1n
noncomputable def KPb:Program->Fr->XC->PQ->Fr->Hp->Prop:=Classical.choose q1n
theorem q44:∃ f:Program->Fr->(List PanicEntry->Fr->Hp->Prop)->List qay->Fr->Hp->(Fr->Hp->Prop)->Prop,∀ P gl KP l fr h K,f P gl KP l fr h K = qfn P gl KP l fr h K:=⟨fun P gl KP l fr h K=>qfn P gl KP l fr h K,fun _ _ _ _ _ _ _=>(rfl)⟩
noncomputable def KOP:Program->Fr->(List PanicEntry->Fr->Hp->Prop)->List qay->Fr->Hp->(Fr->Hp->Prop)->Prop:=Classical.choose q44
theorem qna (c:XC) (Q:PQ):KPc P gl c Q = c.wpP P gl Q:=by funext fr h; exact Classical.choose_spec q1n P gl c Q fr h
theorem qw0 (c:XC):KPb P gl c = c.wpP P gl:=by funext Q fr h; exact Classical.choose_spec q1n P gl c Q fr h
theorem qwz (KP:List PanicEntry->Fr->Hp->Prop) (l:List qay):KOP P gl KP l = qfn P gl KP l:=by funext fr h K; exact Classical.choose_spec q44 P gl KP l fr h K
@[simp] theorem jhs {c:XC}:KPc P gl c Q fr h = c.wpP P gl Q fr h:=by rw [qna]
@[simp] theorem jhr {c:XC}:KPb P gl c Q fr h = c.wpP P gl Q fr h:=by rw [qw0]
@[simp] theorem jhq {KP:List PanicEntry->Fr->Hp->Prop} {l:List qay} {K:Fr->Hp->Prop}:KOP P gl KP l fr h K = qfn P gl KP l fr h K:=by rw [qwz]
@[simp] theorem jmz {l:List qay}:XC.wpP P gl (.ops l) Q fr h = qfn P gl (fun ch=>Q (.p ch)) l fr h (Q (.n .normal)):=(rfl)
@[simp] theorem jm2 {a b:XC}:XC.wpP P gl (.seq a b) Q fr h = a.wpP P gl (qoo (KPc P gl b Q) Q) fr h:=by rw [qna]; exact Eq.refl _
@[simp] theorem jhc {c:qaw} {a b:XC}:XC.wpP P gl (.cond c a b) Q fr h = qpi (KPc P gl a Q) (KPc P gl b Q) fr h (ev gl fr c):=by rw [qna,qna]; exact Eq.refl _
@[simp] theorem jfc {id:Nat} {a:XC}:XC.wpP P gl (.block id a) Q fr h = a.wpP P gl (qj3 id Q) fr h:=(rfl)
@[simp] theorem jhe {a:XC}:XC.wpP P gl (.loop a) Q fr h = qo2 (KPb P gl a) Q fr h:=by rw [qw0]; exact Eq.refl _
@[simp] theorem jm0 {l:List qay} {chk:List (Nat × Nat)}:XC.wpP P gl (.reg l chk) Q fr h = XC.wpF P gl (.reg l chk) (fun e=>Q (.n e)) fr h:=(rfl)
@[simp] theorem jhf:XC.wpP P gl .skip Q fr h = Q (.n .normal) fr h:=(rfl)
@[simp] theorem jhd {id:Nat}:XC.wpP P gl (.exit id) Q fr h = Q (.n (.exit id)) fr h:=(rfl)
@[simp] theorem jm1:XC.wpP P gl .ret Q fr h = Q (.n .ret) fr h:=(rfl)
@[simp] theorem jff {KP:List PanicEntry->Fr->Hp->Prop} {K:Fr->Hp->Prop}:qfn P gl KP [] fr h K = K fr h:=(rfl)
@[simp] theorem jaz {KP:List PanicEntry->Fr->Hp->Prop} {K:Fr->Hp->Prop} {o:qay} {r:List qay}:qfn P gl KP (o :: r) fr h K = match qdm o.op,o.guard with
  | some (f,as),none=>w2l (ev gl fr f) (evs gl fr as) (q1y P gl (kF (KOP P gl KP r) o.dst fr K) (fun ch=>KP ch fr) h)
  | _,_=>gF fr (opT P gl (o.dst.getD 999999) fr h (kF (KOP P gl KP r) o.dst fr K) o.op) (kT (KOP P gl KP r) o.dst fr h K) o.guard:=by
 rw [qwz]; exact Eq.refl _
@[simp] theorem jfp {K:V->Hp->Prop} {KP:List PanicEntry->Hp->Prop} {fid:FuncId} {fst cap vs:List V}:q1y P gl K KP h (.fn fid fst cap) vs = qby P gl fid (fst ++ vs ++ cap) h K KP:=(rfl)
attribute [simp] qoo qj3 q89
end
end
end Go.Proofs.YtpaopccohkldlaaGreatDoor
