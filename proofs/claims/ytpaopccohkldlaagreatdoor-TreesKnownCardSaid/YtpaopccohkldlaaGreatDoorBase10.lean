/- Lemmas. Conditions: none. -/
import Derived.Test.YtpaopccohkldlaaGreatDoorBase8
import Derived.Scope
import Derived.KernelRfl
import Derived.Test.YtpaopccohkldlaaGreatDoorBase6
set_option linter.all false
namespace Go.Proofs.YtpaopccohkldlaaGreatDoor
section
open Go
inductive T (α:Type) where
 | lf
 | nd (v:Option α) (l r:T α)
def T.get {α:Type}:T α->Nat->Option α
 | .lf,_=>none
 | .nd v l r,n=>bif Nat.beq n 0 then v else bif Nat.beq (n % 2) 1 then l.get (n / 2) else r.get (n / 2 - 1)
theorem q1i {a b:Nat} (h:¬ a = b):Nat.beq a b = false:=by
 cases hb:Nat.beq a b with
 | false=>rfl
 | true=>exact absurd (Nat.eq_of_beq_eq_true hb) h
end
section
open Go
inductive XC where
 | skip
 | ops (l:List qa5)
 | reg (l:List qa5) (chk:List (Nat × Nat))
 | seq (a b:XC)
 | cond (c:qaq) (a b:XC)
 | block (id:Nat) (a:XC)
 | loop (a:XC)
 | scope (a:XC)
 | exit (id:Nat)
 | goto (l:Nat)
 | label (l:Nat)
 | ret
 | rng (n b:Nat) (f:qaq) (ps:List Nat) (asg body:Code)
 deriving Inhabited
@[simp] def sq (l:List qa5) (b:XC):XC:=.seq (.ops l) b
structure FnI where
 n:Nat
 rs:List qwk
 code:XC
structure ES where
 fr:T V
 h:T Blk
 c:Nat
def qev:IOp->Bool
 | .load .. | .slice .. | .idxA .. | .b2s _ | .n _=>true
 | io=>!qag io
def ql3 (ops:Array Oper):List Oper->List qa5->Bool
 | o :: r,x :: s=>x.op.slots.all ((o.looksAt ops).contains ·) && ql3 ops r s
 | [],[]=>true
 | _,_=>false
def qpl (ops:Array Oper) (x y:Oper):Bool:=
 (match x.dst with | some t=>!((y.looksAt ops).contains t) && y.dst != some t | none=>true) && (match y.dst with | some t=>!((x.looksAt ops).contains t) | none=>true)
def qux (ops:Array Oper) (an:List Nat):Bool:=(List.range ops.size).all fun j=>(List.range j).all fun i=>bd an i j || match ops[i]?,ops[j]? with
 | some x,some y=>qpl ops x y
 | _,_=>true
def qw1 (a b:IOp):Bool:=(!qag a && qev b) || (qev a && !qag b)
def q0m (an:List Nat) (l:List qa5):List (Nat × Nat):=(List.range l.length).flatMap fun j=>(List.range j).filterMap fun i=>
 match l[i]?,l[j]? with
 | some x,some y=>bif !(bd an i j) && qw1 x.op y.op then some (i,j) else none
 | _,_=>none
def qdj:IOp->Option (qaq × List qaq)
 | .call f as=>some (f,as)
 | _=>none
def qoj (x:Nat):List Nat->Bool
 | []=>false
 | a :: r=>bif Nat.beq x a then true else qoj x r
def qnm:NOp->Bool
 | .mapup .. | .snext .. | .mnext ..=>true
 | _=>false
def qgm:IOp->Bool
 | .store ..=>true
 | .n x=>qnm x
 | _=>false
def qjy (x:qa5):Option Nat:=match qdj x.op with
 | some _=>x.dst
 | none=>bif qag x.op then none else x.dst
def qso (x:qa5):Option Nat:=match qdj x.op with
 | some _=>some (x.dst.getD 999999)
 | none=>bif qag x.op then none else some (x.dst.getD 999999)
def ofT (o:Option Nat) (b:Nat):Prop:=∃ d,o = some d/\(b = d∨b = d + 1000000)
def qkd:List qa5->List Nat->Bool
 | x :: r,seen=>(match qjy x with | some b=>!qoj b seen && Nat.blt b 999999 && qkd r (b :: seen) | none=>qkd r seen)
 | [],_=>true
def q1y (x:qa5):Bool:=match qdj x.op with
 | some _=>true
 | none=>qag x.op || x.dst.isSome || qgm x.op
def qos (P:Program) (n:Nat) (ops:Array Oper):Option XC:=
 match qc7 P n ops ops.toList with
 | none=>none
 | some all=>if P.follows .mixedOrders = true/\qp7 ops = true/\ql3 ops ops.toList all = true/\qux ops (qog ops.toList []) = true/\(all.all q1y && qkd all []) = true then some (.reg all (q0m (qog ops.toList []) all)) else none
def qeo (P:Program) (n:Nat):Code->Option XC
 | .skip=>some .skip
 | .region _ ops draw=>match draw with
  | false=>(qc7 P n ops ops.toList).map .ops
  | true=>qos P n ops
 | .seq a b=>match qeo P n a,qeo P n b with
  | some x,some y=>some (.seq x y)
  | _,_=>none
 | .cond c a b=>match qeo P n a,qeo P n b with
  | some x,some y=>some (.cond (co c) x y)
  | _,_=>none
 | .block id a=>match qeo P n a with
  | some x=>some (.block id x)
  | none=>none
 | .loop a=>match qeo P n a with
  | some x=>some (.loop x)
  | none=>none
 | .scope a=>match qeo P n a with
  | some x=>some (.scope x)
  | none=>none
 | .exit id=>some (.exit id)
 | .goto l=>some (.goto l)
 | .label l=>some (.label l)
 | .ret=>some .ret
 | .rangeFunc f ps asg body=>some (.rng n (2000000 + ps.toList.headD 0) (co f) ps.toList asg body)
 | _=>none
def xgd (F:FF):Option (Nat × Bool)->Option Bool
 | none=>some true
 | some (t,want)=>match F t with
  | some (.bool b)=>some (b == want)
  | some (.tup [])=>some false
  | _=>none
abbrev q3l:=FuncId->List V->T Blk->Nat->Option (V × T Blk × Nat)
abbrev YldF:=Nat->Nat->List V->T Blk->Nat->Option (V × T Blk × Nat)
def qwn (a b:List Nat × List Nat):Bool:=a.1.all (fun x=>!qoj x b.1 && !qoj x b.2) && b.1.all (fun x=>!qoj x a.2)
def qe8 (fps:List (List Nat × List Nat)) (chk:List (Nat × Nat)):Bool:=chk.all fun p=>qwn (fps.getD p.1 ([],[])) (fps.getD p.2 ([],[]))
def qr2:Fr->List Nat->List V->Fr
 | fr,t :: ts,v :: vs=>qr2 ((t,v) :: fr) ts vs
 | fr,_,_=>fr
end
section
open Go
theorem qqo {x:Nat} {l:List Nat}:qoj x l = true↔x ∈ l:=by
 induction l with
 | nil=>simp [qoj]
 | cons a r ih=>
  simp only [qoj,List.mem_cons];by_cases h:x = a
  ·subst h;have:Nat.beq x x = true:=Nat.beq_refl x;simp
  ·simp [q1i h,ih,h]
section
variable {P:Program} {gl:Fr} {bs:BS} {n:Nat} {fr:Fr} {h:Hp} {G:qa9} {M:qa2} {a:Act} {w:World} {ops:Array Oper}
theorem qo0 {o:Oper} {t:Nat} {want:Bool} (hg:qdm ops o = some (some (t,want))):t ∈ o.looksAt ops/\∃ (j:Nat) (oj:Oper),ops[j]? = some oj/\oj.dst = some t:=by
 unfold qdm at hg;split at hg
 ·cases hg
 ·rename_i j want' he;split at hg
  ·rename_i d hd;simp only [Option.some.injEq,Prod.mk.injEq] at hg;obtain ⟨rfl,rfl⟩:=hg;refine ⟨by simp [Oper.looksAt,he,hd],?_⟩;obtain ⟨oj,h1,h2⟩:=Option.bind_eq_some_iff.1 hd;exact ⟨j,oj,h1,h2⟩
  ·cases hg
theorem qc3 (hops:∀ d,(∃ o,o ∈ ops.toList/\o.dst = some d)->d < n) (hr:R bs n gl G M fr h a w) {o:Oper} {g:Option (Nat × Bool)} (hg:qdm ops o = some g) {F:FF} (hF:∀ t ∈ o.looksAt ops,lk fr t = F t) {b:Bool} (hx:xgd F g = some b) :
  Region.wanted o (yielded ops a.tmps) = b:=by
 cases g with
 | none=>simp only [xgd,Option.some.injEq] at hx; subst hx; exact qpv hg
 | some tw=>
  obtain ⟨t,want⟩:=tw;obtain ⟨g1,j,oj,g2,g3⟩:=qo0 hg;simp only [xgd] at hx;split at hx
  ·rename_i b' hb;cases hx;rw [qpx hr hg (by rw [hF t g1]; exact hb) (hops t ⟨oj,by simpa using Array.mem_of_getElem? g2,g3⟩)]
  ·rename_i hb;cases hx;exact qpw hr hg (by rw [hF t g1]; exact hb) (hops t ⟨oj,by simpa using Array.mem_of_getElem? g2,g3⟩)
  ·cases hx
theorem qr1 {gf:Nat->Nat} {id:Nat} {F:FF} {H:HH} {io:IOp} (hp:qev io = false) {y:Y} (he:eop gl gf id F H io = some y):y.2.2 = []:=by
 cases io <;> simp only [qev,qag,Bool.not_false,Bool.not_true,Bool.true_eq_false] at hp <;> simp only [eop] at he
 case mv x=>obtain ⟨v,h1,h2⟩:=qal he; cases h2; rfl
 case pick c x z=>
  split at he
  ·rename_i t hc;cases t <;> (simp only [] at he; obtain ⟨v,h1,h2⟩:=qal he; cases h2; rfl)
  ·cases he
 case build z ps=>
  obtain ⟨l,h1,h2⟩:=qal he;obtain ⟨cs,h3,h4⟩:=qal h2;cases h4; rfl
 case bin op x z=>
  split at he
  ·obtain ⟨v,h1,h2⟩:=qal he; cases h2; rfl
  ·cases he
 case eqs neg m x z=>
  split at he
  ·obtain ⟨h1,h2⟩:=qaf he; cases h2; rfl
  ·cases he
 case beq neg x z=>split at he <;> first | (cases he; rfl) | cases he
 case un op x=>
  obtain ⟨v,h1,h2⟩:=qal he;obtain ⟨v',h3,h4⟩:=qal h2;cases h4; rfl
 case conv k x=>split at he <;> first | (cases he; rfl) | cases he
 case mkfn f x z=>split at he <;> first | (cases he; rfl) | cases he
 case sliceS x lo hi=>
  split at he
  ·obtain ⟨l,h1,he⟩:=qal he;obtain ⟨u,h2,he⟩:=qal he;obtain ⟨h4,he⟩:=qaf he;cases he; rfl
  ·cases he
 case fieldA off x=>split at he <;> first | (cases he; rfl) | cases he
 case field ag off m x=>
  split at he
  ·obtain ⟨h1,h2⟩:=qaf he; cases h2; rfl
  ·cases he
 case idxP len sz x z=>
  split at he
  ·obtain ⟨h1,h2⟩:=qaf he; cases h2; rfl
  ·obtain ⟨h1,h2⟩:=qaf he; cases h2; rfl
  ·cases he
 case idxV ag len sz x z=>
  split at he
  ·obtain ⟨h1,h2⟩:=qaf he; cases h2; rfl
  ·cases he
 case idxS x z=>
  split at he
  ·obtain ⟨h1,h2⟩:=qaf he; cases h2; rfl
  ·cases he
 case len x=>split at he <;> first | (cases he; rfl) | cases he
 case lenS x=>split at he <;> first | (cases he; rfl) | cases he
 case lenK m=>cases he; rfl
 case cap x=>split at he <;> first | (cases he; rfl) | cases he
 case mm mx x z=>split at he <;> first | (cases he; rfl) | cases he
 case extract x i=>
  split at he
  ·obtain ⟨v,h1,h2⟩:=qal he; cases h2; rfl
  ·cases he
 case cvs x=>split at he <;> first | (cases he; rfl) | cases he
theorem qfe {io:IOp} (h:qev io = false):qag io = true:=by cases io <;> first | rfl | (simp [qev,qag] at h)
theorem qs4 (hr:R bs n gl G M fr h a w) {o:Oper} {c:Call} {f:Operand} {Q:Exit->Act->World->Prop} (ho:o.op = .call c) (hc:c.callee = .value f) {fid:FuncId} {fst cap vs:List V}
  (hf:ev gl fr (co f) = some (.fn fid fst cap)) (hvs:evs gl fr (c.args.toList.map co) = some vs) (hcal:qbx P fid = true) {Post:Value->World->Prop}
  (hcalls:∀ rargs:Array Value,rargs.size = (fst ++ vs ++ cap).length->(∀ i,i < (fst ++ vs ++ cap).length->qao G M ((fst ++ vs ++ cap).getD i .undef) (rargs.getD i undef))->Calls P fid rargs w fun e w'=>∃ rv,e = .returned rv/\Post rv w') :
  o.wp P a w (fun a' w'=>∃ rv,a' = a.put o.dst rv/\Post rv w') Q:=by
 obtain ⟨v1,v2⟩:=qm6 hr hvs;have rf:=qa1 hr hf;generalize hev:a.eval f = r at rf
 cases rf with
 | fn _ _ _ rfst rcap s1 s2 s3 s4=>
  unfold qbx at hcal;split at hcal
  ·rename_i fn hfn;simp only [Bool.and_eq_true,bne_iff_ne,ne_eq,Option.isSome_iff_exists] at hcal;obtain ⟨hname,body,hbody⟩:=hcal
   have hrun:(execOp a.eval o).run P w = .ok (.enter fid (rfst ++ c.args.map a.eval ++ rcap)) w:=by
    simp [execOp,ho,resolve,hc,hev,Deferred.ofValue,invoke,callFunc,hfn,hname,hbody]
   unfold Oper.wp;rw [hrun,Oper.upon_enter];refine Calls.mono (hcalls (rfst ++ c.args.map a.eval ++ rcap) (by simp [v1]; omega) ?_) ?_
   ·intro i hi;simp only [List.length_append] at hi;simp only [jf1,jf0,Array.getElem?_append,List.getElem?_append,Array.size_append,Array.size_map,List.length_append,s1];have hl:c.args.size = vs.length:=by rw [v1]; simp
    rw [hl];by_cases c1:i < fst.length + vs.length
    ·rw [if_pos c1,if_pos c1];by_cases c2:i < fst.length
     ·rw [if_pos c2,if_pos c2];have:=s3 i c2;simpa [jf1,jf0] using this
     ·rw [if_neg c2,if_neg c2];have:=v2 (i - fst.length) (by omega);rw [<- qco] at this;simpa only [jf1,jf0] using this
    ·rw [if_neg c1,if_neg c1];have:=s4 (i - (fst.length + vs.length)) (by omega);simpa only [jf1,jf0] using this
   ·rintro e w' ⟨rv,rfl,hp⟩;exact ⟨rv,rfl,hp⟩
  ·cases hcal
theorem qkh {o:Oper} {f:qaq} {as:List qaq} (hcx:qhj P o = some (.call f as)):∃ c g,o.op = .call c/\c.callee = .value g/\f = co g/\as = c.args.toList.map co:=by
 rcases qd8 hcx with ⟨x,hx,-⟩ | hc
 ·cases hx
 rcases qm0 hc rfl with ⟨t,x,ho,h⟩ | ⟨t,z,ho,hz,h⟩ | ⟨t,e,len,ps,l,z,ty,ho,hu,ht,hz,hn,hn0,hl,h⟩ | ⟨t,e,x,y',z,ty,ho,hu,ht,hz,hn0,h⟩ | ⟨c,f,ho,hcal,h⟩ | ⟨t,x,y',ty,ho,ht,h⟩ | ⟨c,t,t2,e,e2,x,y',z,ty,ho,hcal,ha,hat,hu,hu2,ht,hz,hn0,h⟩
 all_goals first
  | (cases h; done)
  | (cases h; exact ⟨c,f,ho,hcal,rfl,rfl⟩)
theorem qf0 {io:IOp} {f:qaq} {as:List qaq} (h:qdj io = some (f,as)):io = .call f as:=by
 cases io <;> simp only [qdj,reduceCtorEq] at h;simp only [Option.some.injEq,Prod.mk.injEq] at h;rw [h.1,h.2]
end
end
section
open Go
section
variable {P:Program} {gl:Fr} {bs:BS} {n:Nat} {fr:Fr} {h:Hp} {G:qa9} {M:qa2} {a:Act} {w:World}
theorem qch (w:World) (o:Obj) {k:Nat} (hk:k < w.heap.size):(w.alloc o).heap[k]? = w.heap[k]?:=(MapKept.heap_alloc w o).2 k hk
theorem qcp (w:World) (o:Obj):(w.alloc o).heap.size = w.heap.size + 1:=by show (w.heap.push o).size = _; simp
theorem Sim.allocFree (hs:Sim G M h w) (o:Obj):Sim G M h (w.alloc o)/\Ext G M w G M (w.alloc o):=by
 constructor
 ·refine ⟨fun k c hk=>?_,fun b blk hb=>(hs.hb b blk hb).mono G.le_refl M.le_refl rfl fun mb rb h1 h2=>qch w o (hs.mlt b mb rb h1 h2).1,hs.inj,fun b mb rb h1 h2=>?_⟩
  ·obtain ⟨ty,fz,he⟩:=hs.gw k c hk;exact ⟨ty,fz,by rw [qch w o (Array.getElem?_eq_some_iff.1 he).1]; exact he⟩
  ·obtain ⟨q1,q2⟩:=hs.mlt b mb rb h1 h2;exact ⟨by rw [qcp]; omega,q2⟩
 ·exact ⟨G.le_refl,fun _ _ q=>.inl q,M.le_refl,fun _ q=>.inr q,rfl,rfl,rfl,by rw [qcp]; omega,fun k hk _=>qch w o hk⟩
theorem Sim.turn (hs:Sim G M h w) {b l:Nat} {mb:MB} (hM:M b = some mb) (hl:mb.real = some l) (o:Obj) {k':Blk} (hbk:qcn G M (w.putObj l o) b k'):Sim G M ((b,k') :: h) (w.putObj l o)/\Ext G M w G M (w.putObj l o):=by
 constructor
 ·refine ⟨fun k c hk=>?_,fun b2 blk hb=>?_,hs.inj,fun b2 mb2 rb h1 h2=>?_⟩
  ·obtain ⟨ty,fz,he⟩:=hs.gw k c hk;refine ⟨ty,fz,?_⟩;rw [qc5 fun e=>?_]
   ·exact he
   ·subst e; have:=(hs.mlt b mb k hM hl).2; rw [hk] at this; cases this
  ·by_cases e:b2 = b
   ·subst e; simp [lk] at hb; subst hb; exact hbk
   ·simp only [lk,if_neg e] at hb;exact (hs.hb b2 blk hb).mono G.le_refl M.le_refl rfl fun mb2 rb h1 h2=>qc5 fun e2=>e (hs.inj b2 b mb2 mb l h1 hM (by rw [h2,e2]) hl)
  ·rw [World.putObj_size]; exact hs.mlt b2 mb2 rb h1 h2
 ·exact ⟨G.le_refl,fun _ _ q=>.inl q,M.le_refl,fun _ q=>.inr q,rfl,rfl,rfl,by rw [World.putObj_size]; exact jf5 _,fun k hk hn=>qc5 fun e=>hn ⟨b,mb,hM,by rw [e]; exact hl⟩⟩
theorem qlr {b g l m:Nat} {mb:MB} {frl:Fr} {ps:List Nat} {asg body:Code} {busy:Bool} {G1:qa9} {M1:qa2} {h1:Hp} {w1:World} (hM:M b = some mb) (hg:mb.gen = g) (hl:mb.real = some l) (hx:M.le M1) (hs:Sim G1 M1 h1 w1) (hb:lk h1 b = some (.loop g m frl ps asg body busy)) :
  ∃ r:Loop,M1 b = some mb/\mb.sz = 2/\w1.heap[l]? = some (.loop r)/\r.state = (bif busy then .busy else .ready)/\r.pending = none/\r.params.toList = ps/\r.assign = asg/\r.body = body/\r.tmps.size = m/\∀ t v,lk frl t = some v->qao G1 M1 v (r.tmps.getD t undef):=by
 obtain ⟨mb1,rb1,q1,q2,q3,q4,r,r1,r2⟩:=hs.hb b _ hb;obtain ⟨mb2,e1,e2,e3⟩:=hx b mb hM;rw [q1] at e1; cases e1;have:mb1 = mb:=e3 (by omega);subst this;rw [hl] at q3; cases q3;exact ⟨r,q1,q4,r1,r2⟩
theorem qqj {tmps:Array Value} (hn:tmps.size = n):∀ {ps:List Nat} {vs:List V} {ra:List Value} {fr:Fr} {tm:Array Value},tm.size = n->ps.length = vs.length->ra.length = vs.length->(∀ t ∈ ps,t < n)->(∀ i,i < vs.length->qao G M (vs.getD i .undef) (ra.getD i undef))->
  (∀ t v,lk fr t = some v->qao G M v (tm.getD t undef))->
  ((ps.zip ra).foldl (fun tmps (p:Tmp × Value)=>tmps.setIfInBounds p.1 p.2) tm).size = n/\∀ t v,lk (qr2 fr ps vs) t = some v->qao G M v (((ps.zip ra).foldl (fun tmps (p:Tmp × Value)=>tmps.setIfInBounds p.1 p.2) tm).getD t undef)
 | [],vs,ra,fr,tm,hs,h1,h2,hp,hr,hf=>by
  have:vs = []:=by cases vs <;> simp_all
  subst this;exact ⟨hs,hf⟩
 | p :: ps,[],ra,fr,tm,hs,h1,h2,hp,hr,hf=>by simp at h1
 | p :: ps,v :: vs,[],fr,tm,hs,h1,h2,hp,hr,hf=>by simp at h2
 | p :: ps,v :: vs,x :: ra,fr,tm,hs,h1,h2,hp,hr,hf=>by
  simp only [List.zip_cons_cons,List.foldl_cons,qr2];refine qqj hn (by simpa using hs) (by simpa using h1) (by simpa using h2) (fun t ht=>hp t (List.mem_cons_of_mem _ ht)) (fun i hi=>?_) fun t u ht=>?_
  ·have:=hr (i + 1) (by simpa using hi);simpa using this
  ·have hpn:p < tm.size:=by rw [hs]; exact hp p List.mem_cons_self
   simp only [lk] at ht;split at ht
   ·rename_i he;cases ht; subst he;have h0:=hr 0 (by simp);have e:(tm.setIfInBounds t x).getD t undef = x:=by simp [jf1,hpn]
    rw [e]; simpa using h0
   ·rename_i he
    have e:(tm.setIfInBounds p x).getD t undef = tm.getD t undef:=by
     simp only [jf1];rw [Array.getElem?_setIfInBounds_ne (by omega)]
    rw [e]; exact hf t u ht
theorem qr4 {rd:Option Nat} {b g m:Nat} {frl:Fr} {ps:List Nat} {asg body:Code} {KK:qa9->qa2->Hp->Prop} (hs:Sim G M h w) (hgl:qdi G gl) (hlk:lk h b = some (.loop g m frl ps asg body false)) {vs:List V} {r0:Value} (hr0:qao G M (.own b g) r0) {ra:Array Value}
  (h1:ra.size = vs.length) (h2:∀ i,i < vs.length->qao G M (vs.getD i .undef) (ra.getD i undef)) (hlen:ps.length = vs.length) (hps:∀ t ∈ ps,t < m)
  (hw:∀ (l:Nat) (a:Act),R w.heap.size m gl G M (qr2 frl ps vs) h a w->asg.wpIn (FW (some l)) 0 P (fun e a1 w1=>e = .normal/\∃ G1 M1 fr1 hp1 m2 fr2 ps2 as2 bd2,R w.heap.size m gl G1 M1 fr1 hp1 a1 w1/\Ext G M w G1 M1 w1/\lk hp1 b = some (.loop g m2 fr2 ps2 as2 bd2 false)/\
   ∀ w2,R w.heap.size m gl G1 M1 fr1 ((b,.loop g m2 fr2 ps2 as2 bd2 true) :: hp1) a1 w2->Ext G M w G1 M1 w2->body.wpIn (FW (some l)) 0 P (fun e _ w3=>e = .normal/\∃ G2 M2 hp2 m3 fr3 ps3 as3 bd3,Sim G2 M2 hp2 w3/\Ext G M w G2 M2 w3/\lk hp2 b = some (.loop g m3 fr3 ps3 as3 bd3 true)/\KK G2 M2 ((b,.loop g m3 fr3 ps3 as3 bd3 false) :: hp2)) a1 w2) a w) :
  ∃ l fn tmps asg body,r0 = .func (.yield l) #[] #[]/\(Instr.yield l ra).run P w = .ok (.round l fn tmps asg body) w/\
   RoundIn (FW rd) 0 P l fn tmps asg body w fun e w'=>e = .returned (.bool true)/\∃ G' M' h',KK G' M' h'/\Sim G' M' h' w'/\Ext G M w G' M' w':=by
 obtain ⟨mb,l,m1,m2,m3,m4,m5,-⟩:=qx9 hs hr0 hlk;obtain ⟨r,q1,q2,q3,q4,q5,q6,q7,q8,q9,q10⟩:=qlr m1 m2 m3 M.le_refl hs hlk
 have hsz:ra.size = r.params.size:=by
  have:r.params.toList.length = ra.toList.length:=by rw [q6,hlen]; simp [h1]
  simpa using this.symm
 refine ⟨l,_,_,_,_,m5,run_yield q3 hsz,?_⟩
 have hfold:(r.params.zip ra).foldl (fun tmps (t,a)=>tmps.setIfInBounds t a) r.tmps = (ps.zip ra.toList).foldl (fun tmps (p:Tmp × Value)=>tmps.setIfInBounds p.1 p.2) r.tmps:=by
  rw [<- Array.foldl_toList,Array.toList_zip,q6]
 obtain ⟨f1,f2⟩:=qqj (G:=G) (M:=M) (n:=m) q9 (ps:=ps) (vs:=vs) (ra:=ra.toList) (fr:=frl) (tm:=r.tmps) q9 hlen (by simp [h1]) hps (fun i hi=>by
  have:=h2 i hi;rw [jf1] at this;simpa [jf0] using this) q10
 rw [<- hfold] at f1 f2;refine roundIn_of_wpIn trivial ?_;show (r.assign).wpIn (FW (some l)) 0 P _ _ w;rw [q7];have hw:=hw l ⟨_,[]⟩ ⟨hs,f2,f1,.nil _ _ _,hgl,jf5 _⟩;refine wpIn_mono hw ?_;rintro e a1 w1 ⟨rfl,G1,M1,fr1,hp1,mm,frm,psm,asm,bdm,hr1,hx1,k1,k2⟩;obtain ⟨r',p1,p2,p3,p4,p5,p6,p7,p8,p9,p10⟩:=qlr m1 m2 m3 hx1.m hr1.sim k1;have hl1:l < w1.heap.size:=(Array.getElem?_eq_some_iff.1 p3).1;refine ⟨_,run_beginRound p3 p4,?_⟩;obtain ⟨s1,x1⟩:=hr1.sim.turn p1 m3 (.loop { r' with state:=.busy }) (k':=.loop g mm frm psm asm bdm true) ⟨mb,l,p1,m2,m3,p2,_,World.putObj_heap_same hl1,rfl,p5,p6,p7,p8,p9,p10⟩;rw [q8];show body.wpIn (FW (some l)) 0 P _ _ _;refine wpIn_mono (k2 _ ⟨s1,hr1.frr,hr1.sz,hr1.df.ext x1,hr1.gl,Nat.le_trans hr1.bs x1.size⟩ (hx1.trans x1)) ?_;rintro e a2 w2 ⟨rfl,G3,M3,hp3,mn,frn,psn,asn,bdn,sim3,hx,j1,j3⟩;obtain ⟨r'',t1,t2,t3,t4,t5,t6,t7,t8,t9,t10⟩:=qlr m1 m2 m3 hx.m sim3 j1;have hl2:l < w2.heap.size:=(Array.getElem?_eq_some_iff.1 t3).1;obtain ⟨s2,x2⟩:=sim3.turn t1 m3 (.loop { r'' with state:=.ready,pending:=none }) (k':=.loop g mn frn psn asn bdn false) ⟨mb,l,t1,m2,m3,t2,_,World.putObj_heap_same hl2,rfl,rfl,t6,t7,t8,t9,t10⟩;exact ⟨.bool true,_,run_endRound none t3,rfl,G3,M3,_,j3,s2,hx.trans x2⟩
theorem qyi {f:Operand} {ps:Array Tmp} {asg body:Code} {fid:FuncId} {fst cap:List V} {KK:qa9->qa2->Hp->Prop} (hr:R bs n gl G M fr h a w) (b:Nat) (frs:Fr) (hfrs:∀ t v,lk frs t = some v->lk fr t = some v) (hf:ev gl fr (co f) = some (.fn fid fst cap)) (hcal:qbx P fid = true)
  (hcalls:∀ mb w1 (rargs:Array Value),mb = ⟨qaa M b,2,0,0,some (w.heap.size + 1)⟩->Sim G (upd M b mb) ((b,.loop (qaa M b) n frs ps.toList asg body false) :: h) w1->qdi G gl->rargs.size = (fst ++ [V.own b (qaa M b)] ++ cap).length->(∀ i,i < (fst ++ [V.own b (qaa M b)] ++ cap).length->qao G (upd M b mb) ((fst ++ [V.own b (qaa M b)] ++ cap).getD i .undef) (rargs.getD i undef))->
   Calls P fid rargs w1 fun e w'=>∃ rv G' M' h' m frl psl asl bdl,e = .returned rv/\lk h' b = some (.loop (qaa M b) m frl psl asl bdl false)/\KK G' M' ((b,.dead (qaa M b)) :: h')/\Sim G' M' h' w'/\Ext G (upd M b mb) w1 G' M' w') :
  (Code.rangeFunc f ps asg body).wpIn (FW none) 0 P (fun e a' w'=>e = .normal/\∃ G' M' h',KK G' M' h'/\R bs n gl G' M' fr h' a' w'/\Ext G M w G' M' w') a w:=by
 refine wpIn_rangeFunc fun fn _=>?_;have rf:=qa1 hr hf;generalize hev:a.eval f = rv0 at rf
 cases rf with
 | fn _ _ _ rfst rcap s1 s2 s3 s4=>
 let o1:Obj:=.deferred (some [])
 let rec0:Loop:={ state:=.ready,pending:=none,fn,tmps:=a.tmps,params:=ps,assign:=asg,body,defers:=w.heap.size }
 let w1:World:=(w.alloc o1).alloc (.loop rec0)
 obtain ⟨sA,xA⟩:=hr.sim.allocFree o1;have hsz1:(w.alloc o1).heap.size = w.heap.size + 1:=qcp w o1;have hsz2:w1.heap.size = (w.alloc o1).heap.size + 1:=qcp _ _
 let mb:MB:=⟨qaa M b,2,0,0,some (w.alloc o1).heap.size⟩
 have hgm:∀ mb0,M b = some mb0->mb0.gen < mb.gen∨mb = mb0:=fun mb0 h0=>.inl (by simp [mb,qaa,h0]);have hle:M.le (upd M b mb):=jeg hgm;have hfrr:∀ t v,lk frs t = some v->qao G (upd M b mb) v (a.tmps.getD t undef):=fun t v ht=>(hr.frr t v (hfrs t v ht)).mono G.le_refl hle
 obtain ⟨sB,xB⟩:=sA.change (w':=w1) b mb (.loop (qaa M b) n frs ps.toList asg body false) hgm (fun rb hrb=>by
   cases hrb;exact .inl ⟨jf5 _,by rw [hsz2]; omega⟩) (by rw [hsz2]; omega) (fun q hq _=>qch _ _ hq) (fun _ _ _ _=>trivial) rfl rfl rfl
  ⟨mb,_,qa3 _ _ _,rfl,rfl,rfl,rec0,World.alloc_heap_new _ _,rfl,rfl,rfl,rfl,rfl,hr.sz,hfrr⟩
 have x01:Ext G M w G (upd M b mb) w1:=xA.trans xB
 have hD1:w1.heap[w.heap.size]? = some o1:=by
  show ((w.alloc o1).alloc _).heap[w.heap.size]? = _;rw [qch _ _ (by rw [hsz1]; omega)];exact World.alloc_heap_new w o1
 have hnD:¬ qfo (upd M b mb) w.heap.size:=fun ho=>by
  rcases xB.mnew _ ho with h1 | ⟨b2,mb2,h1,h2⟩
  ·rw [hsz1] at h1; omega
  ·have:=(hr.sim.mlt b2 mb2 _ h1 h2).1; omega
 unfold qbx at hcal;split at hcal
 ·rename_i fnn hfn;simp only [Bool.and_eq_true,bne_iff_ne,ne_eq,Option.isSome_iff_exists] at hcal;obtain ⟨hname,cb,hbody⟩:=hcal;have hyl:qao G (upd M b mb) (.own b (qaa M b)) (.func (.yield (w.alloc o1).heap.size) #[] #[]):=.own _ _ _ mb (qa3 _ _ _) (jf5 _) rfl fun _=>⟨_,rfl,rfl⟩;refine ⟨w.heap.size + 1,[{ target:=.collected w.heap.size,args:=#[] }],w1,{ target:=.fn (.func fid) rcap,args:=rfst ++ #[.func (.yield (w.heap.size + 1)) #[] #[]] },w1,fid,rfst ++ #[.func (.yield (w.heap.size + 1)) #[] #[]] ++ rcap,w1,?_,?_,(fun _ _=>trivial),?_,(fun h=>nomatch h),qfh.2 (Calls.mono (hcalls mb w1 _ (by show _ = MB.mk _ _ _ _ _; rw [<- hsz1]) sB (hr.gl.mono G.le_refl) (by simp [s1,s2]; omega) fun i hi=>?_) ?_)⟩
  ·exact run_enterLoop_outer fn a.tmps ps asg body
  ·simp [resolve,hev,Deferred.ofValue]; rfl
  ·simp [invoke,callFunc,hfn,hname,hbody]
  ·simp only [List.length_append,List.length_cons,List.length_nil] at hi;simp only [jf1,jf0,Array.getElem?_append,List.getElem?_append,Array.size_append,List.length_append,s1,List.length_cons,List.length_nil,List.size_toArray];by_cases c1:i < fst.length + (0 + 1)
   ·rw [if_pos c1,if_pos c1];by_cases c2:i < fst.length
    ·rw [if_pos c2,if_pos c2];have:=s3 i c2;simpa [jf1,jf0] using this.mono G.le_refl hle
    ·rw [if_neg c2,if_neg c2];obtain rfl:i = fst.length:=by omega
     rw [Nat.sub_self];show qao G (upd M b mb) (.own b (qaa M b)) (.func (.yield (w.heap.size + 1)) #[] #[]);rw [<- hsz1]; exact hyl
   ·rw [if_neg c1,if_neg c1];have:=s4 (i - (fst.length + (0 + 1))) (by omega);simpa only [jf1,jf0] using this.mono G.le_refl hle
  ·rintro e w' ⟨rv,G',M',h',m,frl,psl,asl,bdl,rfl,k1,k2,q3,q4⟩;obtain ⟨r,t1,t2,t3,t4,t5,-⟩:=qlr (qa3 M b mb) rfl rfl q4.m q3 k1;rw [hsz1] at t3;obtain ⟨st,pe,fn',tm',pa',as',bd',df'⟩:=r;obtain rfl:pe = none:=t5;have hend:=run_endLoop (P:=P) t3 (by rw [t4]; simp);have hreal:mb.real = some (w.heap.size + 1):=by show some _ = some _; rw [hsz1]
   obtain ⟨sC,xC⟩:=q3.turn t1 hreal (.loop ⟨.exhausted,none,fn',tm',pa',as',bd',df'⟩) (k':=.dead (qaa M b)) ⟨mb,t1,rfl⟩;have hx:Ext G M w G' M' _:=(x01.trans q4).trans xC;obtain ⟨dl,dl0,dl1,dl2⟩:=hr.df;refine ⟨none,_,hend,rfl,G',M',_,k2,⟨sC,fun t v ht=>(hr.frr t v ht).mono hx.g hx.m,hr.sz,⟨_ :: dl,(congrArg (List.cons _) dl0:_),⟨⟨w.heap.size,rfl,hr.bs,?_,?_,?_⟩,dl1.ext hx⟩,dl2⟩,hr.gl.mono hx.g,Nat.le_trans hr.bs hx.size⟩,hx⟩
   ·rw [qc5 (by omega),q4.keep _ (by rw [hsz2,hsz1]; omega) hnD]; exact hD1
   ·intro ho;rcases q4.mnew _ ho with h1 | h1
    ·rw [hsz2,hsz1] at h1; omega
    ·exact hnD h1
   ·intro hc
    have:∀ {l:List Deferred},qhr bs.n M w l->{ target:=.collected w.heap.size,args:=#[] } ∉ l:=by
     intro l
     induction l with
     | nil=>exact fun _ h=>by cases h
     | cons d l ih=>
      rintro ⟨⟨k,e1,-,e3,-⟩,e6⟩ hm;rcases List.mem_cons.1 hm with e | e
      ·rw [e1] at e;injection e with e _;injection e with e;have:=(Array.getElem?_eq_some_iff.1 e3).1;omega
      ·exact ih e6 e
    exact this dl1 hc
 ·cases hcal
end
end
section
open Go
def XQ (bs:BS) (n:Nat) (gl:Fr) (S:ES) (e:qg0) (S':ES) (G:qa9) (M:qa2) (w:World):Exit->Act->World->Prop:=fun ex a' w'=>
 ex = e.out/\∃ G' M' fr' hl',lk fr' = S'.fr.get/\lk hl' = S'.h.get/\R bs n gl G' M' fr' hl' a' w'/\Ext G M w G' M' w'/\∀ b,¬ (S.c≤b/\b < S'.c)->qaa M b = 0->qaa M' b = 0
theorem XQ.trans {bs:BS} {n:Nat} {gl:Fr} {S S1 S':ES} {e:qg0} {G G1:qa9} {M M1:qa2} {w w1:World} (hc1:S.c≤S1.c) (hc2:S1.c≤S'.c) (hx:Ext G M w G1 M1 w1) (hf:∀ b,¬ (S.c≤b/\b < S1.c)->qaa M b = 0->qaa M1 b = 0)
  {ex:Exit} {a:Act} {w2:World} (h:XQ bs n gl S1 e S' G1 M1 w1 ex a w2):XQ bs n gl S e S' G M w ex a w2:=by
 obtain ⟨h1,G',M',fr',hl',h2,h3,h4,h5,h6⟩:=h;exact ⟨h1,G',M',fr',hl',h2,h3,h4,hx.trans h5,fun b hb h0=>h6 b (fun hc=>hb ⟨by omega,hc.2⟩) (hf b (fun hc=>hb ⟨hc.1,by omega⟩) h0)⟩
section
variable {P:Program} {gl:Fr} {bs:BS} {n:Nat} {rd:Option Nat} {ops:Array Oper} {cl:q3l} {yl:YldF}
end
end
section
open Go
theorem ql6 {α:Type} {D:Nat->List (Nat × α)} {F0:Nat->Option α}:∀ k,st D qgx F0 (k + 1) = st (fun i=>D (i + 1)) qgx (ov (D 0) F0) k
 | 0=>by simp [st,qgx]
 | k + 1=>by
  have ih:=ql6 (D:=D) (F0:=F0) k;simp only [st,qgx,if_true] at ih ⊢;rw [ih]
def DvL (lo:List Oper) (vs:Nat->V) (i:Nat):Fr:=match lo[i]? with
 | some o=>dD o.dst (vs i)
 | none=>[]
section
variable {P:Program} {gl:Fr} {bs:BS} {n:Nat} {ops:Array Oper} {cl:q3l}
structure q9j (P:Program) (gl:Fr) (n:Nat) (ops:Array Oper) (lo:List Oper) (lx:List qa5) (S S':ES) (fps:List (List Nat × List Nat)) (vs:Nat->V) (Ws:Nat->Hp) (rd:Nat->List Nat) (cs:Nat->Nat):Prop where
 c0:cs 0 = S.c
 cn:cs lo.length = S'.c
 mono:∀ i,i < lo.length->cs i≤cs (i + 1)
 fr:S'.fr.get = st (DvL lo vs) qgx S.fr.get lo.length
 h:S'.h.get = st Ws qgx S.h.get lo.length
 len:fps.length = lo.length
 fp:∀ i,i < lo.length->fps.getD i ([],[]) = ((Ws i).map (·.1),rd i)
 pure:∀ i x,lx[i]? = some x->(qag x.op = true->Ws i = [])/\(qev x.op = false->Ws i = []/\rd i = [])
 y:∀ i o,lo[i]? = some o->∀ j,ops[j]? = some o->q3q P gl n ops j o (st (DvL lo vs) qgx S.fr.get i) (st Ws qgx S.h.get i) (fun b=>b ∈ rd i) (fun b=>cs i≤b/\b < cs (i + 1)) (vs i) (Ws i)
def shift {α:Type} (x:α) (f:Nat->α):Nat->α
 | 0=>x
 | i + 1=>f i
theorem qja {gl:Fr} {gf:Nat->Nat} {id:Nat} {F:FF} {H:HH} {io:IOp} (hp:qag io = true) {y:Y} (he:eop gl gf id F H io = some y):y.2.1 = []:=by
 cases io <;> simp only [qag,Bool.false_eq_true] at hp <;> simp only [eop] at he
 case mv x=>obtain ⟨v,h1,h2⟩:=qal he; cases h2; rfl
 case pick c x z=>
  split at he
  ·rename_i t hc;cases t <;> (simp only [] at he; obtain ⟨v,h1,h2⟩:=qal he; cases h2; rfl)
  ·cases he
 case build z ps=>
  obtain ⟨l,h1,h2⟩:=qal he;obtain ⟨cs,h3,h4⟩:=qal h2;cases h4; rfl
 case load ag m x=>
  split at he
  ·obtain ⟨h1,h2⟩:=qaf he; cases h2; rfl
  ·split at he
   ·obtain ⟨h1,h2⟩:=qaf he; cases h2; rfl
   ·cases he
  ·cases he
 case bin op x z=>
  split at he
  ·obtain ⟨v,h1,h2⟩:=qal he; cases h2; rfl
  ·cases he
 case eqs neg m x z=>
  split at he
  ·obtain ⟨h1,h2⟩:=qaf he; cases h2; rfl
  ·cases he
 case beq neg x z=>split at he <;> first | (cases he; rfl) | cases he
 case un op x=>
  obtain ⟨v,h1,h2⟩:=qal he;obtain ⟨v',h3,h4⟩:=qal h2;cases h4; rfl
 case conv k x=>split at he <;> first | (cases he; rfl) | cases he
 case mkfn f x z=>split at he <;> first | (cases he; rfl) | cases he
 case slice sz x lo hi mx=>
  split at he
  ·obtain ⟨l,h1,he⟩:=qal he;obtain ⟨u,h2,he⟩:=qal he;obtain ⟨m,h3,he⟩:=qal he;obtain ⟨h4,he⟩:=qaf he;cases he; rfl
  ·split at he
   ·obtain ⟨h0,he⟩:=qaf he;obtain ⟨l,h1,he⟩:=qal he;obtain ⟨u,h2,he⟩:=qal he;obtain ⟨m,h3,he⟩:=qal he;obtain ⟨h4,he⟩:=qaf he;cases he; rfl
   ·cases he
  ·cases he
 case sliceS x lo hi=>
  split at he
  ·obtain ⟨l,h1,he⟩:=qal he;obtain ⟨u,h2,he⟩:=qal he;obtain ⟨h4,he⟩:=qaf he;cases he; rfl
  ·cases he
 case fieldA off x=>split at he <;> first | (cases he; rfl) | cases he
 case field ag off m x=>
  split at he
  ·obtain ⟨h1,h2⟩:=qaf he; cases h2; rfl
  ·cases he
 case idxA sz x z=>
  split at he
  ·obtain ⟨h1,h2⟩:=qaf he; cases h2; rfl
  ·split at he
   ·obtain ⟨h1,h2⟩:=qaf he; cases h2; rfl
   ·cases he
  ·cases he
 case idxP len sz x z=>
  split at he
  ·obtain ⟨h1,h2⟩:=qaf he; cases h2; rfl
  ·obtain ⟨h1,h2⟩:=qaf he; cases h2; rfl
  ·cases he
 case idxV ag len sz x z=>
  split at he
  ·obtain ⟨h1,h2⟩:=qaf he; cases h2; rfl
  ·cases he
 case idxS x z=>
  split at he
  ·obtain ⟨h1,h2⟩:=qaf he; cases h2; rfl
  ·cases he
 case len x=>split at he <;> first | (cases he; rfl) | cases he
 case lenS x=>split at he <;> first | (cases he; rfl) | cases he
 case lenK m=>cases he; rfl
 case cap x=>split at he <;> first | (cases he; rfl) | cases he
 case mm mx x z=>split at he <;> first | (cases he; rfl) | cases he
 case extract x i=>
  split at he
  ·obtain ⟨v,h1,h2⟩:=qal he; cases h2; rfl
  ·cases he
 case cvs x=>split at he <;> first | (cases he; rfl) | cases he
 case b2s x=>
  obtain ⟨v,h1,h2⟩:=qal he;obtain ⟨es,h3,h4⟩:=qal h2;obtain ⟨s,h5,h6⟩:=qal h4;cases h6; rfl
 case n x=>
  cases x <;> simp only [NOp.pure,Bool.false_eq_true] at hp <;> simp only [nop] at he
  case bad=>cases he
  case isnil neg x=>
   split at he
   ·cases he; rfl
   ·cases he; rfl
   ·split at he
    ·obtain ⟨h1,h2⟩:=qaf he; cases h2; rfl
    ·cases he
   ·cases he
  case lookup kd ok z m k=>
   split at he
   ·split at he
    ·obtain ⟨h1,h2⟩:=qaf he;split at h2
     ·cases h2; rfl
     ·cases h2; rfl
     ·cases h2
    ·cases he
   ·obtain ⟨h1,h2⟩:=qaf he; cases h2; rfl
   ·cases he
  case nchk x=>split at he <;> first | (cases he; rfl) | cases he
  case ifnil neg x=>split at he <;> first | (cases he; rfl) | cases he
  case i2s x=>
   split at he
   ·obtain ⟨h1,h2⟩:=qaf he; cases h2; rfl
   ·cases he
  case mentry x=>
   split at he
   ·split at he
    ·split at he
     ·split at he
      ·obtain ⟨h1,h2⟩:=qaf he; cases h2; rfl
      ·cases he
     ·cases he
    ·cases he
   ·cases he
  case idxByte s c=>
   split at he
   ·obtain ⟨h1,h2⟩:=qaf he; cases h2; rfl
   ·cases he
  case add64 x y z=>
   split at he
   ·obtain ⟨h1,h2⟩:=qaf he; cases h2; rfl
   ·cases he
theorem qnx {x y:Oper} (h:qpl ops x y = true):qsw ops x y:=by
 simp only [qpl,Bool.and_eq_true] at h;obtain ⟨h1,h2⟩:=h;refine ⟨fun t ht hd=>?_,fun t ht hd=>?_,fun t hd hd'=>?_⟩
 ·rw [hd] at h1;simp only [Bool.and_eq_true,Bool.not_eq_true',List.contains_eq_mem,decide_eq_false_iff_not] at h1;exact h1.1 ht
 ·rw [hd] at h2;simp only [Bool.not_eq_true',List.contains_eq_mem,decide_eq_false_iff_not] at h2;exact h2 ht
 ·rw [hd] at h1;simp only [Bool.and_eq_true,bne_iff_ne,ne_eq] at h1;exact h1.2 hd'
theorem qlq {α:Type} {W:List (Nat × α)} {b:Nat} (h:b ∉ W.map (·.1)):lk W b = none:=by
 induction W with
 | nil=>rfl
 | cons p r ih=>
  obtain ⟨k,v⟩:=p;simp only [List.map_cons,List.mem_cons,not_or] at h;simp only [lk,if_neg h.1,ih h.2]
theorem qt5 {W W':Hp} {r r':List Nat} (h:qwn (W.map (·.1),r) (W'.map (·.1),r') = true):qss W W' (fun b=>b ∈ r) (fun b=>b ∈ r'):=by
 simp only [qwn,Bool.and_eq_true,List.all_eq_true,Bool.not_eq_true'] at h;obtain ⟨h1,h2⟩:=h;have nm:∀ {b:Nat} {l:List Nat},qoj b l = false->b ∉ l:=fun hb hm=>by rw [qqo.2 hm] at hb; cases hb
 refine ⟨fun b=>?_,fun b hb=>?_,fun b hb=>?_⟩
 ·by_cases hm:b ∈ W.map (·.1)
  ·exact .inr (qlq (nm (h1 b hm).1))
  ·exact .inl (qlq hm)
 ·refine qlq fun hm=>nm (h1 b hm).2 hb
 ·refine qlq fun hm=>nm (h2 b hm) hb
theorem qs5 {an:List Nat} {l:List qa5} {i j:Nat} {x y:qa5} (hij:i < j) (hi:l[i]? = some x) (hj:l[j]? = some y) (hb:bd an i j = false) (hc:qw1 x.op y.op = true):(i,j) ∈ q0m an l:=by
 have hjl:j < l.length:=(List.getElem?_eq_some_iff.1 hj).1;simp only [q0m,List.mem_flatMap,List.mem_range,List.mem_filterMap];refine ⟨j,hjl,i,hij,?_⟩;simp only [hi,hj,hb,hc,Bool.not_false,Bool.and_true,cond_true]
end
end
section
open Go
section
variable {rd:Option Nat} {P:Program} {gl:Fr} {bs:BS} {n:Nat}
def qam (P:Program) (f:FuncId) (fi:FnI):Prop:=
 ∃ fn body,P.funcs[f]? = some fn/\fn.body = some body/\fn.name ≠ "runtime.NumGoroutine" /\ fn.ntmps = fi.n/\qdd P fn.results.toList = some fi.rs/\qeo P fi.n body = some fi.code
theorem jfs {f:FuncId} {fi:FnI} {fn:Func} {body:Code} (h:P.funcs[f]? = some fn) (hb:fn.body = some body)
  (hk:(decide (fn.name ≠ "runtime.NumGoroutine"),fn.ntmps,qdd P fn.results.toList,qeo P fi.n body) = (true,fi.n,some fi.rs,some fi.code)):qam P f fi:=by
 simp only [Prod.mk.injEq,decide_eq_true_eq] at hk;exact ⟨fn,body,h,hb,hk.1,hk.2.1,hk.2.2.1,hk.2.2.2⟩
end
end
end Go.Proofs.YtpaopccohkldlaaGreatDoor
