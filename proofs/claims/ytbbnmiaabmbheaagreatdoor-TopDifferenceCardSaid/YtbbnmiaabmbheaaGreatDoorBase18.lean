/- Lemmas. Conditions: none. -/
import Derived.Test.YtbbnmiaabmbheaaGreatDoorBase13
set_option linter.all false
namespace Go.Proofs.YtbbnmiaabmbheaaGreatDoor
section
open Go
variable {P:Program} {gl:Fr} {G:qaz} {M:qar} {h:Hp} {w:World}
theorem CallP.lend {f:FuncId} {args:List V} {K0 K:V->Hp->Prop} {KP0 KP:List PanicEntry->Hp->Prop} (D:List Nat) (h0 rest:Hp) (hc:qjm P gl f args h0 K0 KP0) (ha:jil D args = true) (hs0:Sub h0 h) (hi:qd8 D h0 = true) (hr:Sub rest h) (hrD:(rest.all fun p=>!D.contains p.1) = true)
  (hk:∀ v h',K0 v h'->v.inB D = true/\qd8 D h' = true/\K v (h' ++ rest)) (hkp:∀ c h',KP0 c h'->qd8 D h' = true/\KP c (h' ++ rest)):qjm P gl f args h K KP:=by
 refine ⟨hc.1,fun G M w rargs hs hgl hsz hrel=>?_⟩
 let M1:qar:=fun x=>if D.contains x = true then M x else none
 have m1:∀ b,D.contains b = true->M1 b = M b:=fun b hb=>by simp only [M1]; rw [if_pos hb]
 have m1':∀ b mb,M1 b = some mb->D.contains b = true/\M b = some mb:=fun b mb hb=>by
  simp only [M1] at hb;split at hb
  ·rename_i e; exact ⟨e,hb⟩
  ·cases hb
 have hs1:Sim G M1 h0 w:=by
  refine ⟨hs.gw,fun b k hb=>?_,fun x y mx my rb hx hy r1 r2=>hs.inj x y mx my rb (m1' x mx hx).2 (m1' y my hy).2 r1 r2,fun x mx rb hx r1=>hs.mlt x mx rb (m1' x mx hx).2 r1⟩;obtain ⟨q1,q2⟩:=qfw hi hb;exact (hs.hb b k (hs0.spec b k hb)).inB m1 q1 q2
 refine Calls.mono (hc.2 G M1 w rargs hs1 hgl hsz fun i hi'=>(hrel i hi').inB m1 (jin ha i)) ?_;rintro e w' hK
 have fin:∀ h' G' M',qd8 D h' = true->Sim G' M' h' w'->Ext G M1 w G' M' w'->∃ M2:qar,(∀ b,D.contains b = true->M2 b = M' b)/\Sim G' M2 (h' ++ rest) w'/\Ext G M w G' M2 w':=by
  intro h' G' M' k2 hs' hx
  let M2:qar:=fun x=>if D.contains x = true then M' x else M x
  have m2:∀ b,D.contains b = true->M2 b = M' b:=fun b hb=>by simp only [M2]; rw [if_pos hb]
  have m2':∀ b,¬ D.contains b = true->M2 b = M b:=fun b hb=>by simp only [M2]; rw [if_neg hb]
  have hle:M.le M2:=fun x m hxm=>by
   by_cases hD:D.contains x = true
   ·obtain ⟨m',q1,q2,q3⟩:=hx.m x m (by rw [m1 x hD]; exact hxm);exact ⟨m',by rw [m2 x hD]; exact q1,q2,q3⟩
   ·exact ⟨m,by rw [m2' x hD]; exact hxm,jki _,fun _=>rfl⟩
  have own1:∀ k,qf0 M1 k->qf0 M k:=fun k ⟨b,mb,q1,q2⟩=>⟨b,mb,(m1' b mb q1).2,q2⟩
  have nown:∀ x mx rb,¬ D.contains x = true->M x = some mx->mx.real = some rb->¬ qf0 M1 rb:=fun x mx rb hD h1 h2 ⟨b,mb,q1,q2⟩=>by
   obtain ⟨q3,q4⟩:=m1' b mb q1;have:=hs.inj x b mx mb rb h1 q4 h2 q2;subst this;exact hD q3
  have hrest:∀ b k,lk rest b = some k->¬ D.contains b = true:=fun b k hb=>by
   have:∀ (l:Hp),(l.all fun p=>!D.contains p.1) = true->lk l b = some k->¬ D.contains b = true:=by
    intro l
    induction l with
    | nil=>intro _ q; simp [lk] at q
    | cons p r ih=>
     obtain ⟨q,x⟩:=p;intro q1 q2;simp only [List.all_cons,Bool.and_eq_true,Bool.not_eq_true'] at q1;simp only [lk] at q2;split at q2
     ·rename_i e; subst e; rw [q1.1]; simp
     ·exact ih (by simpa using q1.2) q2
   exact this rest hrD hb
  refine ⟨M2,m2,⟨hs'.gw,fun b k hb=>?_,fun x y mx my rb hx1 hy1 r1 r2=>?_,fun x mx rb hx1 r1=>?_⟩,⟨hx.g,fun k c hkc=>?_,hle,fun q ⟨x,mx,hx1,r1⟩=>?_,hx.os,hx.tape,hx.output,hx.size,fun k hk1 hk2=>hx.keep k hk1 fun q=>hk2 (own1 k q)⟩⟩
  ·have hap:lk (h' ++ rest) b = (lk h' b).or (lk rest b):=by
    have:∀ l:Hp,lk (l ++ rest) b = (lk l b).or (lk rest b):=by
     intro l
     induction l with
     | nil=>simp [lk]
     | cons p r ih=>
      obtain ⟨q,x⟩:=p;simp only [List.cons_append,lk];split
      ·rfl
      ·exact ih
    exact this h'
   rw [hap] at hb
   cases hq:lk h' b with
   | some k'=>
    rw [hq] at hb;simp only [Option.or] at hb;cases hb;obtain ⟨q1,q2⟩:=qfw k2 hq;exact (hs'.hb b k hq).inB m2 q1 q2
   | none=>
    rw [hq] at hb;simp only [Option.or] at hb;have hD:=hrest b k hb;exact (hs.hb b k (hr.spec b k hb)).mono hx.g hle (m2' b hD) fun mb rb h1 h2=>hx.keep rb (hs.mlt b mb rb h1 h2).1 (nown b mb rb hD h1 h2)
  ·by_cases h1:D.contains x = true <;> by_cases h2:D.contains y = true
   ·rw [m2 x h1] at hx1; rw [m2 y h2] at hy1; exact hs'.inj x y mx my rb hx1 hy1 r1 r2
   ·rw [m2 x h1] at hx1; rw [m2' y h2] at hy1;exfalso;rcases hx.mnew rb ⟨x,mx,hx1,r1⟩ with q | q
    ·have:=(hs.mlt y my rb hy1 r2).1; omega
    ·exact nown y my rb h2 hy1 r2 q
   ·rw [m2' x h1] at hx1; rw [m2 y h2] at hy1;exfalso;rcases hx.mnew rb ⟨y,my,hy1,r2⟩ with q | q
    ·have:=(hs.mlt x mx rb hx1 r1).1; omega
    ·exact nown x mx rb h1 hx1 r1 q
   ·rw [m2' x h1] at hx1; rw [m2' y h2] at hy1; exact hs.inj x y mx my rb hx1 hy1 r1 r2
  ·by_cases h1:D.contains x = true
   ·rw [m2 x h1] at hx1; exact hs'.mlt x mx rb hx1 r1
   ·rw [m2' x h1] at hx1;obtain ⟨q1,q2⟩:=hs.mlt x mx rb hx1 r1;refine ⟨Nat.lt_of_lt_of_le q1 hx.size,?_⟩
    cases hq:G' rb with
    | none=>rfl
    | some c=>
     exfalso;rcases hx.gnew rb c hq with q | q | q
     ·rw [q2] at q; cases q
     ·omega
     ·exact nown x mx rb h1 hx1 r1 q
  ·rcases hx.gnew k c hkc with q | q | q
   ·exact .inl q
   ·exact .inr (.inl q)
   ·exact .inr (.inr (own1 k q))
  ·by_cases h1:D.contains x = true
   ·rw [m2 x h1] at hx1;rcases hx.mnew q ⟨x,mx,hx1,r1⟩ with z | z
    ·exact .inl z
    ·exact .inr (own1 q z)
   ·rw [m2' x h1] at hx1; exact .inr ⟨x,mx,hx1,r1⟩
 rcases hK with ⟨rv,v,h',G',M',rfl,hK,hv,hs',hx⟩ | ⟨c,h',G',M',rfl,hK,hs',hx⟩
 ·obtain ⟨k1,k2,k3⟩:=hk v h' hK;obtain ⟨M2,q1,q2,q3⟩:=fin h' G' M' k2 hs' hx;exact .inl ⟨rv,v,h' ++ rest,G',M2,rfl,k3,hv.inB q1 k1,q2,q3⟩
 ·obtain ⟨k2,k3⟩:=hkp c h' hK;obtain ⟨M2,q1,q2,q3⟩:=fin h' G' M' k2 hs' hx;exact .inr ⟨c,h' ++ rest,G',M2,rfl,k3,q2,q3⟩
theorem CallO.lend {f:FuncId} {args:List V} {K0 K:V->Hp->Prop} (D:List Nat) (h0 rest:Hp) (hc:qa2 P gl f args h0 K0) (ha:jil D args = true) (hs0:Sub h0 h) (hi:qd8 D h0 = true) (hr:Sub rest h) (hrD:(rest.all fun p=>!D.contains p.1) = true)
  (hk:∀ v h',K0 v h'->v.inB D = true/\qd8 D h' = true/\K v (h' ++ rest)):qa2 P gl f args h K:=
 (CallP.lend (KP0:=fun _ _=>False) (KP:=fun _ _=>False) D h0 rest (qjm.of hc) ha hs0 hi hr hrD hk fun _ _ h=>h.elim).toO
theorem qjc {b g:Nat} {es:List V} {v:V} (h:v.pure = true):fzV b g es v = v:=qcu v h
theorem qvl {b g:Nat} {es l:List V} (h:jid l = true):l.map (fzV b g es) = l:=by
 have:∀ x ∈ l,fzV b g es x = x:=fun x hx=>qjc ((jig l).1 h x hx);rw [List.map_congr_left this,List.map_id']
attribute [simp] V.inB jil Blk.inB qd8
theorem jju {f:FuncId} {args:List V} {K:V->Hp->Prop} (b:Nat) {g sz:Nat} {es:List V} (hb:lk h b = some (.row g sz es)) (hp:jid es = true) (hc:qa2 P gl f (args.map (fzV b g es)) (fzH b g es h) K):qa2 P gl f args h K:=by
 refine ⟨hc.1,fun G M w rargs hs hgl hsz hrel=>?_⟩;obtain ⟨G1,M1,s1,x1,hv,-⟩:=hs.frz hb hp;refine Calls.mono (hc.2 G1 M1 w rargs s1 (hgl.mono x1.g) (by simpa using hsz) fun i hi=>?_) ?_
 ·have hi':i < args.length:=by simpa using hi
  have e:(args.map (fzV b g es)).getD i .undef = fzV b g es (args.getD i .undef):=by simp [jkd,hi']
  rw [e];exact hv _ _ (hrel i hi')
 ·rintro e w' ⟨rv,v,h',G',M',rfl,hK,hv',hs',hx⟩;exact ⟨rv,v,h',G',M',rfl,hK,hv',hs',x1.trans hx⟩
end
section
open Go
def qz3 (m:Nat) (res:V) (v:V) (h:Hp):Prop:=v.noG = true/\(∀ b k,lk h b = some k->k.noG = true)/\VLe (frz h m v) res
section
variable {P:Program} {gl:Fr} {f:FuncId} {args args':List V} {h:Hp} {res:V} {K:V->Hp->Prop}
theorem CallO.dat {m2:Nat} (m:Nat) (hc:qce P gl f args' (qz3 m2 res)) (ha:args.map (frz h m) = args') (hk:K res h):qa2 P gl f args h K:=
 jjo m m2 hc ha (fun _ _ k=>⟨k.1,k.2.1,k.2.2⟩) hk
theorem jjy {sz:Nat} {xs:List V} {cap:Option Nat} (hc:qce P gl f args (qxg sz xs cap)) (hp:jid xs = true) (hn:jih xs = true):qce P gl f args (qz3 1 (.sl xs cap)):=
 hc.mono fun v h' ⟨g,h1,h2⟩=>by
  subst h1 h2;refine ⟨rfl,fun b k hb=>?_,?_⟩
  ·simp only [lk] at hb;split at hb
   ·cases hb; exact hn
   ·cases hb
  ·rw [qcl (es:=xs) (sz:=sz) (by simp) (by simp),List.drop_zero,jkf (by simp),qdr _ _ hp];exact .refl _
end
theorem qol {α:Type}:∀ {l:List (Nat × α)} {b:Nat} {k:α},lk l b = some k->(b,k) ∈ l
 | [],b,k,h=>by simp [lk] at h
 | (a,x) :: r,b,k,h=>by
  simp only [lk] at h;split at h
  ·rename_i e; cases h; subst e; exact List.mem_cons_self
  ·exact List.mem_cons_of_mem _ (qol h)
def qza (H:HH) (S:List Nat):Hp:=S.filterMap fun b=>(H b).map fun k=>(b,k)
theorem qka (H:HH):∀ (S:List Nat) {b:Nat} {k:Blk},lk (qza H S) b = some k->H b = some k
 | [],b,k,h=>by simp [qza,lk] at h
 | a :: S,b,k,h=>by
  unfold qza at h;rw [List.filterMap_cons] at h
  cases ha:H a with
  | none=>rw [ha] at h; exact qka H S h
  | some x=>
   rw [ha] at h;simp only [Option.map_some,lk] at h;split at h
   ·rename_i e; subst e; rw [ha,h]
   ·exact qka H S h
def q3i (P:Program) (O:OrT) (FT:Nat->Option FnI) (gl:Fr) (m d:Nat) (f:FuncId) (args:List V):Option V:=
 eb (qme O FT (exec P O FT gl m) f args .lf 0) fun z=>eb (some (qza z.2.1.get (qta z.2.1.get 100000 (jiw [z.1] []) []))) fun h=>gd (z.1.noG && h.all fun p=>p.2.noG) (some (frz h d z.1))
theorem qce.of_runDO {P:Program} {gl:Fr} {O:OrT} (hO:q3r P gl O) {FT:Nat->Option FnI} (hFT:qsb P FT) {m d:Nat} {f:FuncId} {args:List V} {res:V} (h:q3i P O FT gl m d f args = some res):qce P gl f args (qz3 d res):=by
 unfold q3i at h;obtain ⟨z,h1,h2⟩:=qad h;obtain ⟨hp,h5,h2⟩:=qad h2;cases h5;obtain ⟨h3,h4⟩:=qae h2;simp only [Option.some.injEq] at h4;simp only [Bool.and_eq_true,List.all_eq_true] at h3;obtain ⟨hc,-,hi⟩:=qt6 hO hFT m f args .lf 0 z.1 z.2.1 z.2.2 h1;refine ⟨hc,fun G w rargs hg hgl hsz hrel=>?_⟩;have hl0:lk ([]:Hp) = (T.lf:T Blk).get:=by funext b; simp [lk,T.get]
 refine Calls.mono (hi G M0 w rargs [] hl0 ⟨hg,fun b k hk=>(by simp [lk] at hk),fun b b' mb mb' rb h1=>(by cases h1),fun b mb rb h1=>(by cases h1)⟩ hgl hsz hrel (fun b _ _=>rfl)) ?_;rintro e w' ⟨rv,rfl,hl',G',M',e1,e2,e3,hx,e5⟩;refine ⟨rv,z.1,_,G',M',rfl,⟨h3.1,fun b k hb=>h3.2 _ (qol hb),by rw [h4]; exact .refl _⟩,e2,⟨e3.gw,fun b k hb=>e3.hb b k ?_,e3.inj,e3.mlt⟩,hx⟩;have:=qka _ _ hb;rw [e1];exact this
def runD (P:Program) (FT:Nat->Option FnI) (gl:Fr) (m d:Nat) (f:FuncId) (args:List V):Option V:=q3i P noO FT gl m d f args
theorem ji7 {P:Program} {gl:Fr} {FT:Nat->Option FnI} (hFT:qsb P FT) {m d:Nat} {f:FuncId} {args:List V} {res:V} (h:runD P FT gl m d f args = some res):qce P gl f args (qz3 d res):=.of_runDO q0u hFT h
section
variable {P:Program} {gl:Fr} {bs:BS} {n:Nat} {fr:Fr} {h:Hp}
def XC.wpM (P:Program) (gl:Fr):Nat->XC->IQ->Fr->Hp->Prop
 | k + 1,.seq a b,Q,fr,h=>a.wpF P gl (ql3 (MvP (b.wpM P gl k Q)) Q) fr h
 | _,x,Q,fr,h=>x.wpF P gl Q fr h
theorem qzz (x:XC) (Q:IQ) (fr:Fr) (h:Hp):XC.wpM P gl 0 x Q fr h = x.wpF P gl Q fr h:=by cases x <;> rfl
theorem q4x:∃ f:Program->Fr->Nat->XC->IQ->Fr->Hp->Prop,∀ P gl k c Q fr h,f P gl k c Q fr h = MvP (c.wpM P gl k Q) fr h:=⟨fun P gl k c Q fr h=>MvP (c.wpM P gl k Q) fr h,fun _ _ _ _ _ _ _=>(rfl)⟩
noncomputable def KM:Program->Fr->Nat->XC->IQ->Fr->Hp->Prop:=Classical.choose q4x
theorem q4y (P:Program) (gl:Fr) (k:Nat) (c:XC) (Q:IQ):KM P gl k c Q = MvP (c.wpM P gl k Q):=by funext fr h; exact Classical.choose_spec q4x P gl k c Q fr h
@[simp] theorem qig {k:Nat} {a b:XC} {Q:IQ}:XC.wpM P gl (k + 1) (.seq a b) Q fr h = a.wpF P gl (ql3 (KM P gl k b Q) Q) fr h:=by rw [q4y]; rfl
section
variable {a b:XC} {Q:IQ}
@[simp] theorem wpM_1:XC.wpM P gl 1 (.seq a b) Q fr h = a.wpF P gl (ql3 (KM P gl 0 b Q) Q) fr h:=qig
@[simp] theorem wpM_2:XC.wpM P gl 2 (.seq a b) Q fr h = a.wpF P gl (ql3 (KM P gl 1 b Q) Q) fr h:=qig
@[simp] theorem wpM_3:XC.wpM P gl 3 (.seq a b) Q fr h = a.wpF P gl (ql3 (KM P gl 2 b Q) Q) fr h:=qig
end
@[simp] theorem wpM_0 {x:XC} {Q:IQ}:XC.wpM P gl 0 x Q fr h = KC P gl x Q fr h:=by rw [qnh,qzz]
end
end
section
open Go
section
variable {P:Program} {gl:Fr} {n:Nat} {fr:Fr} {h:Hp}
def rndM (P:Program) (gl:Fr) (k b g id:Nat) (xs:XC) (K:V->Hp->Prop):IQ
 | .normal,fr,h=>∃ m frl ps asg bd,lk h b = some (.loop g m frl ps asg bd false)/\xs.wpM P gl k (qjo id (q4o b g K)) fr ((b,.loop g m frl ps asg bd true) :: h)
 | _,_,_=>False
@[simp] theorem rndM_n {k b g id:Nat} {xs:XC} {K2:V->Hp->Prop}:rndM P gl k b g id xs K2 .normal fr h = ∃ m frl ps asg bd,lk h b = some (.loop g m frl ps asg bd false)/\xs.wpM P gl k (qjo id (q4o b g K2)) fr ((b,.loop g m frl ps asg bd true) :: h):=(rfl)
section
variable {a b:XC} {Q:IQ}
@[simp] theorem wpM_4:XC.wpM P gl 4 (.seq a b) Q fr h = a.wpF P gl (ql3 (KM P gl 3 b Q) Q) fr h:=qig
@[simp] theorem wpM_5:XC.wpM P gl 5 (.seq a b) Q fr h = a.wpF P gl (ql3 (KM P gl 4 b Q) Q) fr h:=qig
@[simp] theorem wpM_6:XC.wpM P gl 6 (.seq a b) Q fr h = a.wpF P gl (ql3 (KM P gl 5 b Q) Q) fr h:=qig
end
end
end
end Go.Proofs.YtbbnmiaabmbheaaGreatDoor
