/- Lemmas. Conditions: none. -/
import Derived.Test.YtpaopccohkldlaaGreatDoorBase13
set_option linter.all false
namespace Go.Proofs.YtpaopccohkldlaaGreatDoor
section
open Go
variable {P:Program} {gl:Fr} {G:qa9} {M:qa2} {h:Hp} {w:World}
theorem CallP.lend {f:FuncId} {args:List V} {K0 K:V->Hp->Prop} {KP0 KP:List PanicEntry->Hp->Prop} (D:List Nat) (h0 rest:Hp) (hc:qif P gl f args h0 K0 KP0) (ha:jd9 D args = true) (hs0:Sub h0 h) (hi:qbc D h0 = true) (hr:Sub rest h) (hrD:(rest.all fun p=>!D.contains p.1) = true)
  (hk:∀ v h',K0 v h'->v.inB D = true/\qbc D h' = true/\K v (h' ++ rest)) (hkp:∀ c h',KP0 c h'->qbc D h' = true/\KP c (h' ++ rest)):qif P gl f args h K KP:=by
 refine ⟨hc.1,fun G M w rargs hs hgl hsz hrel=>?_⟩
 let M1:qa2:=fun x=>if D.contains x = true then M x else none
 have m1:∀ b,D.contains b = true->M1 b = M b:=fun b hb=>by simp only [M1]; rw [if_pos hb]
 have m1':∀ b mb,M1 b = some mb->D.contains b = true/\M b = some mb:=fun b mb hb=>by
  simp only [M1] at hb;split at hb
  ·rename_i e; exact ⟨e,hb⟩
  ·cases hb
 have hs1:Sim G M1 h0 w:=by
  refine ⟨hs.gw,fun b k hb=>?_,fun x y mx my rb hx hy r1 r2=>hs.inj x y mx my rb (m1' x mx hx).2 (m1' y my hy).2 r1 r2,fun x mx rb hx r1=>hs.mlt x mx rb (m1' x mx hx).2 r1⟩;obtain ⟨q1,q2⟩:=qe7 hi hb;exact (hs.hb b k (hs0.spec b k hb)).inB m1 q1 q2
 refine Calls.mono (hc.2 G M1 w rargs hs1 hgl hsz fun i hi'=>(hrel i hi').inB m1 (jef ha i)) ?_;rintro e w' hK
 have fin:∀ h' G' M',qbc D h' = true->Sim G' M' h' w'->Ext G M1 w G' M' w'->∃ M2:qa2,(∀ b,D.contains b = true->M2 b = M' b)/\Sim G' M2 (h' ++ rest) w'/\Ext G M w G' M2 w':=by
  intro h' G' M' k2 hs' hx
  let M2:qa2:=fun x=>if D.contains x = true then M' x else M x
  have m2:∀ b,D.contains b = true->M2 b = M' b:=fun b hb=>by simp only [M2]; rw [if_pos hb]
  have m2':∀ b,¬ D.contains b = true->M2 b = M b:=fun b hb=>by simp only [M2]; rw [if_neg hb]
  have hle:M.le M2:=fun x m hxm=>by
   by_cases hD:D.contains x = true
   ·obtain ⟨m',q1,q2,q3⟩:=hx.m x m (by rw [m1 x hD]; exact hxm);exact ⟨m',by rw [m2 x hD]; exact q1,q2,q3⟩
   ·exact ⟨m,by rw [m2' x hD]; exact hxm,jf5 _,fun _=>rfl⟩
  have own1:∀ k,qfo M1 k->qfo M k:=fun k ⟨b,mb,q1,q2⟩=>⟨b,mb,(m1' b mb q1).2,q2⟩
  have nown:∀ x mx rb,¬ D.contains x = true->M x = some mx->mx.real = some rb->¬ qfo M1 rb:=fun x mx rb hD h1 h2 ⟨b,mb,q1,q2⟩=>by
   obtain ⟨q3,q4⟩:=m1' b mb q1;have:=hs.inj x b mx mb rb h1 q4 h2 q2;subst this;exact hD q3
  have hrest:∀ b k,lk rest b = some k->¬ D.contains b = true:=fun b k hb=>by
   have:∀ (l:Hp),(l.all fun p=>!D.contains p.1) = true->lk l b = some k->¬ D.contains b = true:=by
    intro l
    induction l with
    | nil=>intro _ q; simp [lk] at q
    | cons p r ih=>
     obtain ⟨q,x⟩:=p;intro q1 q2;simp only [List.all_cons,Bool.and_eq_true,Bool.not_eq_true'] at q1;simp only [lk] at q2;split at q2
     ·rename_i e; subst e; rw [q1.1]; simp
     ·exact ih (by simpa using q1.2) q2
   exact this rest hrD hb
  refine ⟨M2,m2,⟨hs'.gw,fun b k hb=>?_,fun x y mx my rb hx1 hy1 r1 r2=>?_,fun x mx rb hx1 r1=>?_⟩,⟨hx.g,fun k c hkc=>?_,hle,fun q ⟨x,mx,hx1,r1⟩=>?_,hx.os,hx.tape,hx.output,hx.size,fun k hk1 hk2=>hx.keep k hk1 fun q=>hk2 (own1 k q)⟩⟩
  ·have hap:lk (h' ++ rest) b = (lk h' b).or (lk rest b):=by
    have:∀ l:Hp,lk (l ++ rest) b = (lk l b).or (lk rest b):=by
     intro l
     induction l with
     | nil=>simp [lk]
     | cons p r ih=>
      obtain ⟨q,x⟩:=p;simp only [List.cons_append,lk];split
      ·rfl
      ·exact ih
    exact this h'
   rw [hap] at hb
   cases hq:lk h' b with
   | some k'=>
    rw [hq] at hb;simp only [Option.or] at hb;cases hb;obtain ⟨q1,q2⟩:=qe7 k2 hq;exact (hs'.hb b k hq).inB m2 q1 q2
   | none=>
    rw [hq] at hb;simp only [Option.or] at hb;have hD:=hrest b k hb;exact (hs.hb b k (hr.spec b k hb)).mono hx.g hle (m2' b hD) fun mb rb h1 h2=>hx.keep rb (hs.mlt b mb rb h1 h2).1 (nown b mb rb hD h1 h2)
  ·by_cases h1:D.contains x = true <;> by_cases h2:D.contains y = true
   ·rw [m2 x h1] at hx1; rw [m2 y h2] at hy1; exact hs'.inj x y mx my rb hx1 hy1 r1 r2
   ·rw [m2 x h1] at hx1; rw [m2' y h2] at hy1;exfalso;rcases hx.mnew rb ⟨x,mx,hx1,r1⟩ with q | q
    ·have:=(hs.mlt y my rb hy1 r2).1; omega
    ·exact nown y my rb h2 hy1 r2 q
   ·rw [m2' x h1] at hx1; rw [m2 y h2] at hy1;exfalso;rcases hx.mnew rb ⟨y,my,hy1,r2⟩ with q | q
    ·have:=(hs.mlt x mx rb hx1 r1).1; omega
    ·exact nown x mx rb h1 hx1 r1 q
   ·rw [m2' x h1] at hx1; rw [m2' y h2] at hy1; exact hs.inj x y mx my rb hx1 hy1 r1 r2
  ·by_cases h1:D.contains x = true
   ·rw [m2 x h1] at hx1; exact hs'.mlt x mx rb hx1 r1
   ·rw [m2' x h1] at hx1;obtain ⟨q1,q2⟩:=hs.mlt x mx rb hx1 r1;refine ⟨Nat.lt_of_lt_of_le q1 hx.size,?_⟩
    cases hq:G' rb with
    | none=>rfl
    | some c=>
     exfalso;rcases hx.gnew rb c hq with q | q | q
     ·rw [q2] at q; cases q
     ·omega
     ·exact nown x mx rb h1 hx1 r1 q
  ·rcases hx.gnew k c hkc with q | q | q
   ·exact .inl q
   ·exact .inr (.inl q)
   ·exact .inr (.inr (own1 k q))
  ·by_cases h1:D.contains x = true
   ·rw [m2 x h1] at hx1;rcases hx.mnew q ⟨x,mx,hx1,r1⟩ with z | z
    ·exact .inl z
    ·exact .inr (own1 q z)
   ·rw [m2' x h1] at hx1; exact .inr ⟨x,mx,hx1,r1⟩
 rcases hK with ⟨rv,v,h',G',M',rfl,hK,hv,hs',hx⟩ | ⟨c,h',G',M',rfl,hK,hs',hx⟩
 ·obtain ⟨k1,k2,k3⟩:=hk v h' hK;obtain ⟨M2,q1,q2,q3⟩:=fin h' G' M' k2 hs' hx;exact .inl ⟨rv,v,h' ++ rest,G',M2,rfl,k3,hv.inB q1 k1,q2,q3⟩
 ·obtain ⟨k2,k3⟩:=hkp c h' hK;obtain ⟨M2,q1,q2,q3⟩:=fin h' G' M' k2 hs' hx;exact .inr ⟨c,h' ++ rest,G',M2,rfl,k3,q2,q3⟩
theorem CallO.lend {f:FuncId} {args:List V} {K0 K:V->Hp->Prop} (D:List Nat) (h0 rest:Hp) (hc:qan P gl f args h0 K0) (ha:jd9 D args = true) (hs0:Sub h0 h) (hi:qbc D h0 = true) (hr:Sub rest h) (hrD:(rest.all fun p=>!D.contains p.1) = true)
  (hk:∀ v h',K0 v h'->v.inB D = true/\qbc D h' = true/\K v (h' ++ rest)):qan P gl f args h K:=
 (CallP.lend (KP0:=fun _ _=>False) (KP:=fun _ _=>False) D h0 rest (qif.of hc) ha hs0 hi hr hrD hk fun _ _ h=>h.elim).toO
theorem qll {b g:Nat} {es:List V} {v:V} (h:v.pure = true):fzV b g es v = v:=qap v h
theorem qdp {b g:Nat} {es l:List V} (h:jd6 l = true):l.map (fzV b g es) = l:=by
 have:∀ x ∈ l,fzV b g es x = x:=fun x hx=>qll ((jee l).1 h x hx);rw [List.map_congr_left this,List.map_id']
attribute [simp] V.inB jd9 Blk.inB qbc
theorem jff {f:FuncId} {args:List V} {K:V->Hp->Prop} (b:Nat) {g sz:Nat} {es:List V} (hb:lk h b = some (.row g sz es)) (hp:jd6 es = true) (hc:qan P gl f (args.map (fzV b g es)) (fzH b g es h) K):qan P gl f args h K:=by
 refine ⟨hc.1,fun G M w rargs hs hgl hsz hrel=>?_⟩;obtain ⟨G1,M1,s1,x1,hv,-⟩:=hs.frz hb hp;refine Calls.mono (hc.2 G1 M1 w rargs s1 (hgl.mono x1.g) (by simpa using hsz) fun i hi=>?_) ?_
 ·have hi':i < args.length:=by simpa using hi
  have e:(args.map (fzV b g es)).getD i .undef = fzV b g es (args.getD i .undef):=by simp [jf0,hi']
  rw [e];exact hv _ _ (hrel i hi')
 ·rintro e w' ⟨rv,v,h',G',M',rfl,hK,hv',hs',hx⟩;exact ⟨rv,v,h',G',M',rfl,hK,hv',hs',x1.trans hx⟩
end
section
open Go
def q2m (m:Nat) (res:V) (v:V) (h:Hp):Prop:=v.noG = true/\(∀ b k,lk h b = some k->k.noG = true)/\VLe (frz h m v) res
section
variable {P:Program} {gl:Fr} {f:FuncId} {args args':List V} {h:Hp} {res:V} {K:V->Hp->Prop}
theorem jfc {m:Nat} (hc:qb5 P gl f args (q2m m res)):qac P gl f args res:=jeq m hc fun _ _ k=>k.2.2
theorem je1 {m2:Nat} (m:Nat) (hc:qb5 P gl f args' (q2m m2 res)) (ha:args.map (frz h m) = args') (hk:K res h):qan P gl f args h K:=
 je9 m m2 hc ha (fun _ _ k=>⟨k.1,k.2.1,k.2.2⟩) hk
theorem je8 {sz:Nat} {xs:List V} {cap:Option Nat} (hc:qb5 P gl f args (qsv sz xs cap)) (hp:jd6 xs = true) (hn:jec xs = true):qb5 P gl f args (q2m 1 (.sl xs cap)):=
 hc.mono fun v h' ⟨g,h1,h2⟩=>by
  subst h1 h2;refine ⟨rfl,fun b k hb=>?_,?_⟩
  ·simp only [lk] at hb;split at hb
   ·cases hb; exact hn
   ·cases hb
  ·rw [qd3 (es:=xs) (sz:=sz) (by simp) (by simp),List.drop_zero,jf2 (by simp),qer _ _ hp];exact .refl _
end
section
variable {P:Program} {gl:Fr} {bs:BS} {n:Nat} {fr:Fr} {h:Hp}
def XC.wpM (P:Program) (gl:Fr):Nat->XC->IQ->Fr->Hp->Prop
 | k + 1,.seq a b,Q,fr,h=>a.wpF P gl (qj9 (MvP (b.wpM P gl k Q)) Q) fr h
 | _,x,Q,fr,h=>x.wpF P gl Q fr h
theorem qgw (x:XC) (Q:IQ) (fr:Fr) (h:Hp):XC.wpM P gl 0 x Q fr h = x.wpF P gl Q fr h:=by cases x <;> rfl
theorem qjq:∀ (k:Nat) {c:Code} {x:XC},qeo P n c = some x->∀ {Q:IQ} {fr:Fr} {h:Hp},x.wpM P gl k Q fr h->IW P n gl c Q fr h
 | 0,c,x,hx,Q,fr,h,hw=>qff hx (by rw [qgw] at hw; exact hw)
 | k + 1,c,x,hx,Q,fr,h,hw=>by
  by_cases hs:∃ a b,c = .seq a b
  ·obtain ⟨a,b,rfl⟩:=hs;simp only [qeo] at hx;split at hx
   ·rename_i xa xb ha hb;cases hx;simp only [XC.wpM] at hw;refine IW.seq (IW.mono (qff ha hw) fun e fr h hq=>?_)
    cases e with
    | normal=>exact jfk (MvP.mono (fun _ _ q=>qjq k hb q) hq)
    | exit id=>exact hq
    | goto l=>exact hq
    | ret=>exact hq
   ·cases hx
  ·have hx2:x.wpF P gl Q fr h:=by
    cases x with
    | seq xa xb=>
     exfalso;cases c <;> simp only [qeo] at hx
     case seq a b=>exact hs ⟨a,b,rfl⟩
     all_goals first | (cases hx; done) | (split at hx <;> cases hx; done) | skip
     case region id ops draw=>
      cases draw
      ·simp only [Option.map_eq_some_iff] at hx; obtain ⟨l,-,h2⟩:=hx; cases h2
      ·simp only [] at hx; obtain ⟨l,chk,h2,-⟩:=jfe (P:=P) (gl:=gl) (id:=id) (fr:=fr) (h:=h) (Q:=Q) hx; cases h2
    | _=>exact hw
   exact qff hx hx2
theorem qac.of_WM {f:FuncId} {fi:FnI} {args:List V} {res:V} (k m:Nat) (hb:qam P f fi) (hk:Nat.ble args.length fi.n = true) (hw:fi.code.wpM P gl k (qyh fi.rs m res) (qrb 0 args) []):qac P gl f args res:=by
 obtain ⟨fn,body,h1,h2,h3,h4,h5,h6⟩:=hb;refine qac.of_body m h1 h2 h3 (by have:=Nat.le_of_ble_eq_true hk; omega) h5 ?_;rw [h4];exact qjq k h6 hw
theorem CallO.of_WM {f:FuncId} {fi:FnI} {args:List V} {K:V->Hp->Prop} (k:Nat) (hb:qam P f fi) (hk:Nat.ble args.length fi.n = true) (hw:fi.code.wpM P gl k (qmj fi.rs K) (qrb 0 args) h):qan P gl f args h K:=by
 obtain ⟨fn,body,h1,h2,h3,h4,h5,h6⟩:=hb;refine qan.of_body h1 h2 h3 (by have:=Nat.le_of_ble_eq_true hk; omega) h5 ?_;rw [h4];exact qjq k h6 hw
theorem qb5.of_WM {f:FuncId} {fi:FnI} {args:List V} {K:V->Hp->Prop} (k:Nat) (hb:qam P f fi) (hk:Nat.ble args.length fi.n = true) (hw:fi.code.wpM P gl k (qmj fi.rs K) (qrb 0 args) []):qb5 P gl f args K:=
 je3 (CallO.of_WM k hb hk hw)
theorem q3n:∃ f:Program->Fr->Nat->XC->IQ->Fr->Hp->Prop,∀ P gl k c Q fr h,f P gl k c Q fr h = MvP (c.wpM P gl k Q) fr h:=⟨fun P gl k c Q fr h=>MvP (c.wpM P gl k Q) fr h,fun _ _ _ _ _ _ _=>(rfl)⟩
noncomputable def KM:Program->Fr->Nat->XC->IQ->Fr->Hp->Prop:=Classical.choose q3n
theorem qy2 (P:Program) (gl:Fr) (k:Nat) (c:XC) (Q:IQ):KM P gl k c Q = MvP (c.wpM P gl k Q):=by funext fr h; exact Classical.choose_spec q3n P gl k c Q fr h
theorem KM.mk {k:Nat} {c:XC} {Q:IQ} (h':MvP (c.wpM P gl k Q) fr h):KM P gl k c Q fr h:=by rw [qy2]; exact h'
@[simp] theorem qhg {k:Nat} {a b:XC} {Q:IQ}:XC.wpM P gl (k + 1) (.seq a b) Q fr h = a.wpF P gl (qj9 (KM P gl k b Q) Q) fr h:=by rw [qy2]; rfl
section
variable {a b:XC} {Q:IQ}
@[simp] theorem wpM_1:XC.wpM P gl 1 (.seq a b) Q fr h = a.wpF P gl (qj9 (KM P gl 0 b Q) Q) fr h:=qhg
@[simp] theorem wpM_2:XC.wpM P gl 2 (.seq a b) Q fr h = a.wpF P gl (qj9 (KM P gl 1 b Q) Q) fr h:=qhg
@[simp] theorem wpM_3:XC.wpM P gl 3 (.seq a b) Q fr h = a.wpF P gl (qj9 (KM P gl 2 b Q) Q) fr h:=qhg
end
@[simp] theorem wpM_0 {x:XC} {Q:IQ}:XC.wpM P gl 0 x Q fr h = KC P gl x Q fr h:=by rw [qmm,qgw]
end
end
section
open Go
section
variable {P:Program} {gl:Fr} {n:Nat} {fr:Fr} {h:Hp}
def rndM (P:Program) (gl:Fr) (k b g id:Nat) (xs:XC) (K:V->Hp->Prop):IQ
 | .normal,fr,h=>∃ m frl ps asg bd,lk h b = some (.loop g m frl ps asg bd false)/\xs.wpM P gl k (qig id (q3g b g K)) fr ((b,.loop g m frl ps asg bd true) :: h)
 | _,_,_=>False
@[simp] theorem rndM_n {k b g id:Nat} {xs:XC} {K2:V->Hp->Prop}:rndM P gl k b g id xs K2 .normal fr h = ∃ m frl ps asg bd,lk h b = some (.loop g m frl ps asg bd false)/\xs.wpM P gl k (qig id (q3g b g K2)) fr ((b,.loop g m frl ps asg bd true) :: h):=(rfl)
section
variable {a b:XC} {Q:IQ}
@[simp] theorem wpM_4:XC.wpM P gl 4 (.seq a b) Q fr h = a.wpF P gl (qj9 (KM P gl 3 b Q) Q) fr h:=qhg
@[simp] theorem wpM_5:XC.wpM P gl 5 (.seq a b) Q fr h = a.wpF P gl (qj9 (KM P gl 4 b Q) Q) fr h:=qhg
@[simp] theorem wpM_6:XC.wpM P gl 6 (.seq a b) Q fr h = a.wpF P gl (qj9 (KM P gl 5 b Q) Q) fr h:=qhg
end
end
end
end Go.Proofs.YtpaopccohkldlaaGreatDoor
