/- Lemmas. Conditions: none. -/
import Derived.Test.YtbbnmiaabmbheaaGreatDoorBase6
import Derived.Test.YtbbnmiaabmbheaaGreatDoorBase10
set_option linter.all false
namespace Go.Proofs.YtbbnmiaabmbheaaGreatDoor
section
open Go
def qa2 (P:Program) (gl:Fr) (f:FuncId) (args:List V) (h:Hp) (K:V->Hp->Prop):Prop:=
 qbt P f = true/\∀ G M w (rargs:Array Value),Sim G M h w->qdy G gl->rargs.size = args.length->(∀ i,i < args.length->qak G M (args.getD i .undef) (rargs.getD i undef))->
  Calls P f rargs w fun e w'=>∃ rv v h' G' M',e = .returned rv/\K v h'/\qak G' M' v rv/\Sim G' M' h' w'/\Ext G M w G' M' w'
section
variable {G:qaz} {M:qar} {w:World}
def qjm (P:Program) (gl:Fr) (f:FuncId) (args:List V) (h:Hp) (K:V->Hp->Prop) (KP:List PanicEntry->Hp->Prop):Prop:=
 qbt P f = true/\∀ (G:qaz) (M:qar) (w:World) (rargs:Array Value),Sim G M h w->qdy G gl->rargs.size = args.length->(∀ i,i < args.length->qak G M (args.getD i .undef) (rargs.getD i undef))->
  Calls P f rargs w fun e w'=>(∃ rv v h' G' M',e = .returned rv/\K v h'/\qak G' M' v rv/\Sim G' M' h' w'/\Ext G M w G' M' w')∨∃ ch h' G' M',e = .panicked ch/\KP ch h'/\Sim G' M' h' w'/\Ext G M w G' M' w'
section
variable {P:Program} {gl:Fr} {h:Hp}
theorem qjm.of {f:FuncId} {args:List V} {K:V->Hp->Prop} {KP:List PanicEntry->Hp->Prop} (hc:qa2 P gl f args h K):qjm P gl f args h K KP:=
 ⟨hc.1,fun G M w rargs h1 h2 h3 h4=>Calls.mono (hc.2 G M w rargs h1 h2 h3 h4) fun _ _ q=>.inl q⟩
theorem qjm.toO {f:FuncId} {args:List V} {K:V->Hp->Prop} (hc:qjm P gl f args h K fun _ _=>False):qa2 P gl f args h K:=
 ⟨hc.1,fun G M w rargs h1 h2 h3 h4=>Calls.mono (hc.2 G M w rargs h1 h2 h3 h4) fun _ _ q=>q.elim id fun ⟨_,_,_,_,_,q,_⟩=>q.elim⟩
end
mutual
def V.inB (D:List Nat):V->Bool
 | .agg cs=>jil D cs
 | .tup cs=>jil D cs
 | .sl xs _=>jil D xs
 | .iptr x _=>V.inB D x
 | .fn _ a b=>jil D a && jil D b
 | .ref b ..=>D.contains b
 | .ptr b ..=>D.contains b
 | .own b ..=>D.contains b
 | .undef=>true
 | .int ..=>true
 | .bool _=>true
 | .str _=>true
 | .nilfn=>true
 | .nilmap=>true
 | .err _=>true
 | .nil=>true
def jil (D:List Nat):List V->Bool
 | []=>true
 | v :: r=>v.inB D && jil D r
end
def Blk.inB (D:List Nat):Blk->Bool
 | .row _ _ es=>jil D es
 | .map _ es=>es.all fun e=>e.1.inB D && e.2.inB D
 | .siter ..=>true
 | .loop ..=>false
 | .dead _=>true
 | .miter ..=>false
theorem jjv (D:List Nat) (l:List V):jil D l = true↔∀ v ∈ l,v.inB D = true:=by
 induction l with
 | nil=>simp [jil]
 | cons a r ih=>simp [jil,ih]
theorem jin {D:List Nat} {l:List V} (h:jil D l = true) (i:Nat):(l.getD i .undef).inB D = true:=by
 rw [jjv] at h;rw [jkd]
 cases hi:l[i]? with
 | none=>rfl
 | some v=>exact h v (List.mem_of_getElem? hi)
theorem ji9 {D:List Nat} {v:V} (h:v.inB D = true):jil D v.cells = true:=by
 cases v <;> simp_all [V.cells,V.inB,jil]
mutual
theorem jje (D:List Nat):∀ v:V,v.pure = true->v.inB D = true
 | .agg cs,h=>by simp only [V.inB]; exact jik D cs (by simpa [V.pure] using h)
 | .tup cs,h=>by simp only [V.inB]; exact jik D cs (by simpa [V.pure] using h)
 | .sl xs _,h=>by simp only [V.inB]; exact jik D xs (by simpa [V.pure] using h)
 | .iptr x _,h=>by simp only [V.inB]; exact jje D x (by simpa [V.pure] using h)
 | .fn _ a b,h=>by
  simp only [V.pure,Bool.and_eq_true] at h;simp only [V.inB,Bool.and_eq_true];exact ⟨jik D a h.1,jik D b h.2⟩
 | .ref ..,h=>by simp [V.pure] at h
 | .ptr ..,h=>by simp [V.pure] at h
 | .own ..,h=>by simp [V.pure] at h
 | .undef,_=>rfl
 | .int ..,_=>rfl
 | .bool _,_=>rfl
 | .str _,_=>rfl
 | .nilfn,_=>rfl
 | .nilmap,_=>rfl
 | .err _,_=>rfl
 | .nil,_=>rfl
theorem jik (D:List Nat):∀ l:List V,jid l = true->jil D l = true
 | [],_=>rfl
 | v :: r,h=>by
  simp only [jid,Bool.and_eq_true] at h;simp only [jil,Bool.and_eq_true];exact ⟨jje D v h.1,jik D r h.2⟩
end
theorem qak.inB {D:List Nat} {M':qar} (hM:∀ b,D.contains b = true->M' b = M b) {v:V} {r:Value} (hv:qak G M v r) (hp:v.inB D = true):qak G M' v r:=by
 induction hv with
 | undef v=>exact .undef v
 | int k n=>exact .int k n
 | bool b=>exact .bool b
 | str s=>exact .str s
 | agg cs arr hs _ ho ih=>exact .agg cs arr hs (fun i hi=>ih i hi (jin (by simpa [V.inB] using hp) i)) ho
 | tup cs arr hs _ ih=>exact .tup cs arr hs (fun i hi=>ih i hi (jin (by simpa [V.inB] using hp) i))
 | slnil cap base rcap hc hb=>exact .slnil cap base rcap hc hb
 | sl xs cap rb ro rcap sz cells hne hg hsz hb hl hc _ ho ih=>
  exact .sl xs cap rb ro rcap sz cells hne hg hsz hb hl hc (fun i j hi hj=>ih i j hi hj (jin (ji9 (jin (by simpa [V.inB] using hp) i)) j)) ho
 | ref b g o l c ra rcap mb hm hg hl hc hh=>exact .ref b g o l c ra rcap mb (by rw [hM b (by simpa [V.inB] using hp)]; exact hm) hg hl hc hh
 | ptr b g i o ad mb hm hg hh=>exact .ptr b g i o ad mb (by rw [hM b (by simpa [V.inB] using hp)]; exact hm) hg hh
 | own b g r mb hm hg ho hh=>exact .own b g r mb (by rw [hM b (by simpa [V.inB] using hp)]; exact hm) hg ho hh
 | iptr x o rb ro cells hg hb _ ho ih=>exact .iptr x o rb ro cells hg hb (fun j hj=>ih j hj (jin (ji9 (by simpa [V.inB] using hp)) j)) ho
 | fn g a b ra rb h1 h2 _ _ ih3 ih4=>
  simp only [V.inB,Bool.and_eq_true] at hp;exact .fn g a b ra rb h1 h2 (fun i hi=>ih3 i hi (jin hp.1 i)) (fun i hi=>ih4 i hi (jin hp.2 i))
 | nilfn=>exact .nilfn
 | nilmap=>exact .nilmap
 | errnil=>exact .errnil
 | errsome t x=>exact .errsome t x
 | nil=>exact .nil
theorem qb7.inB {D:List Nat} {M':qar} (hM:∀ b,D.contains b = true->M' b = M b) {b:Nat} {k:Blk} (hk:qb7 G M w b k) (hb:D.contains b = true) (hp:k.inB D = true):qb7 G M' w b k:=by
 cases k with
 | row g sz es=>
  obtain ⟨mb,q1,q2,q3,q4⟩:=hk;refine ⟨mb,by rw [hM b hb]; exact q1,q2,q3,?_⟩;unfold qbo at q4 ⊢;split at q4
  ·exact q4
  ·obtain ⟨arr,ty,w1,w2,w3,w4,w5⟩:=q4;exact ⟨arr,ty,w1,w2,w3,w4,fun i j hi hj=>⟨(w5 i j hi hj).1.inB hM (jin (ji9 (jin hp i)) j),(w5 i j hi hj).2⟩⟩
 | map g es=>
  obtain ⟨mb,rb,q1,q2,q3,q4,entries,clock,w1,w2,w3⟩:=hk;refine ⟨mb,rb,by rw [hM b hb]; exact q1,q2,q3,q4,entries,clock,w1,w2,fun i hi=>?_⟩
  have he:es.getD i (.undef,.undef) ∈ es:=by
   rw [jkd,jkh hi];exact jkg hi
  simp only [Blk.inB,List.all_eq_true,Bool.and_eq_true] at hp;exact ⟨(w3 i hi).1.inB hM (hp _ he).1,(w3 i hi).2.inB hM (hp _ he).2⟩
 | siter g t pos=>
  obtain ⟨mb,rb,q1,q2⟩:=hk;exact ⟨mb,rb,by rw [hM b hb]; exact q1,q2⟩
 | loop=>simp [Blk.inB] at hp
 | miter=>simp [Blk.inB] at hp
 | dead g=>obtain ⟨mb,q1,q2⟩:=hk; exact ⟨mb,by rw [hM b hb]; exact q1,q2⟩
def qd8 (D:List Nat) (h:Hp):Bool:=h.all fun p=>D.contains p.1 && p.2.inB D
theorem qfw {D:List Nat} {h:Hp} (hh:qd8 D h = true) {b:Nat} {k:Blk} (hb:lk h b = some k):D.contains b = true/\k.inB D = true:=by
 induction h with
 | nil=>simp [lk] at hb
 | cons p r ih=>
  obtain ⟨q,x⟩:=p;simp only [qd8,List.all_cons,Bool.and_eq_true] at hh;simp only [lk] at hb;split at hb
  ·rename_i e; cases hb; subst e; exact hh.1
  ·exact ih hh.2 hb
theorem qb7.gen {b:Nat} {k:Blk} (h:qb7 G M w b k):∃ mb,M b = some mb/\mb.gen = k.gen:=by
 cases k with
 | row g sz es=>obtain ⟨mb,h1,h2,-⟩:=h; exact ⟨mb,h1,h2⟩
 | map g es=>obtain ⟨mb,rb,h1,h2,-⟩:=h; exact ⟨mb,h1,h2⟩
 | siter g s pos=>obtain ⟨mb,rb,h1,h2,-⟩:=h; exact ⟨mb,h1,h2⟩
 | loop=>obtain ⟨mb,rb,h1,h2,-⟩:=h; exact ⟨mb,h1,h2⟩
 | miter=>obtain ⟨mb,rb,h1,h2,-⟩:=h; exact ⟨mb,h1,h2⟩
 | dead=>exact h
def qu3 (h0 W:Hp):Bool:=W.all fun p=>match lk h0 p.1 with
 | some k=>k.gen == p.2.gen
 | none=>false
theorem qx6 {h0 W:Hp} (hg:qu3 h0 W = true) {b:Nat} {k:Blk} (hb:lk W b = some k):∃ k0,lk h0 b = some k0/\k0.gen = k.gen:=by
 induction W with
 | nil=>simp [lk] at hb
 | cons p r ih=>
  obtain ⟨q,x⟩:=p;simp only [qu3,List.all_cons,Bool.and_eq_true] at hg;simp only [lk] at hb;split at hb
  ·rename_i e;cases hb; subst e;have h1:=hg.1;split at h1
   ·rename_i k0 e; exact ⟨k0,e,by simpa using h1⟩
   ·cases h1
  ·exact ih (by unfold qu3; exact hg.2) hb
theorem qsw {P:Program} {gl:Fr} {f:FuncId} {args:List V} {h0 h' W:Hp} {res:V} {K0:V->Hp->Prop} (D:List Nat) (hc:qa2 P gl f args h0 K0) (ha:jil D args = true) (hs0:∀ b k,lk h0 b = some k->lk h' b = some k) (hi:qd8 D h0 = true)
  (hk:∀ v hh,K0 v hh->v = res/\hh = W) (hp:V.inB D res = true) (hw:qd8 D W = true) (hg:qu3 h0 W = true) (hD:(D.all fun b=>(lk W b).isSome) = true)
  (hs:Sim G M h' w) (hgl:qdy G gl) {rargs:Array Value} (hsz:rargs.size = args.length) (hrel:∀ i,i < args.length->qak G M (args.getD i .undef) (rargs.getD i undef)) :
  Calls P f rargs w fun e w'=>∃ rv,e = .returned rv/\∃ G' M',qak G' M' res rv/\Sim G' M' (W ++ h') w'/\Ext G M w G' M' w'/\∀ b,qaa M' b = qaa M b:=by
 let M1:qar:=fun x=>if D.contains x = true then M x else none
 have m1:∀ b,D.contains b = true->M1 b = M b:=fun b hb=>by simp only [M1]; rw [if_pos hb]
 have m1':∀ b mb,M1 b = some mb->D.contains b = true/\M b = some mb:=fun b mb hb=>by
  simp only [M1] at hb;split at hb
  ·rename_i e; exact ⟨e,hb⟩
  ·cases hb
 have hs1:Sim G M1 h0 w:=by
  refine ⟨hs.gw,fun b k hb=>?_,fun x y mx my rb hx hy r1 r2=>hs.inj x y mx my rb (m1' x mx hx).2 (m1' y my hy).2 r1 r2,fun x mx rb hx r1=>hs.mlt x mx rb (m1' x mx hx).2 r1⟩;obtain ⟨q1,q2⟩:=qfw hi hb;exact (hs.hb b k (hs0 b k hb)).inB m1 q1 q2
 refine Calls.mono (hc.2 G M1 w rargs hs1 hgl hsz fun i hi'=>(hrel i hi').inB m1 (jin ha i)) ?_;rintro e w' ⟨rv,v,hh,G',M',rfl,hK,hv,hs',hx⟩;obtain ⟨rfl,rfl⟩:=hk v hh hK
 let M2:qar:=fun x=>if D.contains x = true then M' x else M x
 have m2:∀ b,D.contains b = true->M2 b = M' b:=fun b hb=>by simp only [M2]; rw [if_pos hb]
 have m2':∀ b,¬ D.contains b = true->M2 b = M b:=fun b hb=>by simp only [M2]; rw [if_neg hb]
 have hle:M.le M2:=fun x m hxm=>by
  by_cases hD:D.contains x = true
  ·obtain ⟨m',q1,q2,q3⟩:=hx.m x m (by rw [m1 x hD]; exact hxm);exact ⟨m',by rw [m2 x hD]; exact q1,q2,q3⟩
  ·exact ⟨m,by rw [m2' x hD]; exact hxm,jki _,fun _=>rfl⟩
 have own1:∀ k,qf0 M1 k->qf0 M k:=fun k ⟨b,mb,q1,q2⟩=>⟨b,mb,(m1' b mb q1).2,q2⟩
 have nown:∀ x mx rb,¬ D.contains x = true->M x = some mx->mx.real = some rb->¬ qf0 M1 rb:=fun x mx rb hD h1 h2 ⟨b,mb,q1,q2⟩=>by
  obtain ⟨q3,q4⟩:=m1' b mb q1;have:=hs.inj x b mx mb rb h1 q4 h2 q2;subst this;exact hD q3
 refine ⟨rv,rfl,G',M2,hv.inB m2 hp,⟨hs'.gw,fun b k hb=>?_,fun x y mx my rb hx1 hy1 r1 r2=>?_,fun x mx rb hx1 r1=>?_⟩,⟨hx.g,fun k c hkc=>?_,hle,fun q ⟨x,mx,hx1,r1⟩=>?_,hx.os,hx.tape,hx.output,hx.size,fun k hk1 hk2=>hx.keep k hk1 fun q=>hk2 (own1 k q)⟩,fun b=>?_⟩
 ·have hap:lk (hh ++ h') b = (lk hh b).or (lk h' b):=by
   have:∀ l:Hp,lk (l ++ h') b = (lk l b).or (lk h' b):=by
    intro l
    induction l with
    | nil=>simp [lk]
    | cons p r ih=>
     obtain ⟨q,x⟩:=p;simp only [List.cons_append,lk];split
     ·rfl
     ·exact ih
   exact this hh
  rw [hap] at hb
  cases hq:lk hh b with
  | some k'=>
   rw [hq] at hb;simp only [Option.or] at hb;cases hb;obtain ⟨q1,q2⟩:=qfw hw hq;exact (hs'.hb b k hq).inB m2 q1 q2
  | none=>
   rw [hq] at hb;simp only [Option.or] at hb
   have hDb:¬ D.contains b = true:=fun e=>by
    have h1:=(List.all_eq_true.1 hD) b (by simpa using e);rw [hq] at h1; cases h1
   exact (hs.hb b k hb).mono hx.g hle (m2' b hDb) fun mb rb h1 h2=>hx.keep rb (hs.mlt b mb rb h1 h2).1 (nown b mb rb hDb h1 h2)
 ·by_cases h1:D.contains x = true <;> by_cases h2:D.contains y = true
  ·rw [m2 x h1] at hx1; rw [m2 y h2] at hy1; exact hs'.inj x y mx my rb hx1 hy1 r1 r2
  ·rw [m2 x h1] at hx1; rw [m2' y h2] at hy1;exfalso;rcases hx.mnew rb ⟨x,mx,hx1,r1⟩ with q | q
   ·have:=(hs.mlt y my rb hy1 r2).1; omega
   ·exact nown y my rb h2 hy1 r2 q
  ·rw [m2' x h1] at hx1; rw [m2 y h2] at hy1;exfalso;rcases hx.mnew rb ⟨y,my,hy1,r2⟩ with q | q
   ·have:=(hs.mlt x mx rb hx1 r1).1; omega
   ·exact nown x mx rb h1 hx1 r1 q
  ·rw [m2' x h1] at hx1; rw [m2' y h2] at hy1; exact hs.inj x y mx my rb hx1 hy1 r1 r2
 ·by_cases h1:D.contains x = true
  ·rw [m2 x h1] at hx1; exact hs'.mlt x mx rb hx1 r1
  ·rw [m2' x h1] at hx1;obtain ⟨q1,q2⟩:=hs.mlt x mx rb hx1 r1;refine ⟨Nat.lt_of_lt_of_le q1 hx.size,?_⟩
   cases hq:G' rb with
   | none=>rfl
   | some c=>
    exfalso;rcases hx.gnew rb c hq with q | q | q
    ·rw [q2] at q; cases q
    ·omega
    ·exact nown x mx rb h1 hx1 r1 q
 ·rcases hx.gnew k c hkc with q | q | q
  ·exact .inl q
  ·exact .inr (.inl q)
  ·exact .inr (.inr (own1 k q))
 ·by_cases h1:D.contains x = true
  ·rw [m2 x h1] at hx1;rcases hx.mnew q ⟨x,mx,hx1,r1⟩ with z | z
   ·exact .inl z
   ·exact .inr (own1 q z)
  ·rw [m2' x h1] at hx1; exact .inr ⟨x,mx,hx1,r1⟩
 ·by_cases h1:D.contains b = true
  ·have h2:=(List.all_eq_true.1 hD) b (by simpa using h1);obtain ⟨k,hkb⟩:=Option.isSome_iff_exists.1 h2;obtain ⟨k0,q1,q2⟩:=qx6 hg hkb;obtain ⟨mb,r1,r2⟩:=(hs'.hb b k hkb).gen;obtain ⟨mb0,r3,r4⟩:=(hs.hb b k0 (hs0 b k0 q1)).gen;unfold qaa;rw [m2 b h1,r1,r3];simp only [];omega
  ·unfold qaa; rw [m2' b h1]
end
def qce (P:Program) (gl:Fr) (f:FuncId) (args:List V) (K:V->Hp->Prop):Prop:=
 qbt P f = true/\∀ G w (rargs:Array Value),GIn G w->qdy G gl->rargs.size = args.length->(∀ i,i < args.length->qak G M0 (args.getD i .undef) (rargs.getD i undef))->
  Calls P f rargs w fun e w'=>∃ rv v h' G' M',e = .returned rv/\K v h'/\qak G' M' v rv/\Sim G' M' h' w'/\Ext G M0 w G' M' w'
section
variable {P:Program} {gl:Fr} {bs:BS} {n:Nat} {fr:Fr} {h:Hp} {G:qaz} {M:qar} {a:Act} {w:World}
theorem CallO.of {f:FuncId} {args:List V} {K:V->Hp->Prop} (hc:qng P gl f args h K):qa2 P gl f args h K:=
 ⟨hc.1,fun G M w rargs h1 h2 h3 h4=>Calls.mono (hc.2 G M w rargs h1 h2 h3 h4) fun _ _ ⟨rv,v,h',G',M',q1,q2,q3,q4,q5,_⟩=>⟨rv,v,h',G',M',q1,q2,q3,q4,q5⟩⟩
theorem jj4 {f:FuncId} {args:List V} {res:V} {K:V->Hp->Prop} (hc:qac P gl f args res) (hp:jid args = true) (hk:K res h):qa2 P gl f args h K:=CallO.of (qng.pure hc hp hk)
theorem CallO.borrow {f:FuncId} {args args':List V} {res:V} {K:V->Hp->Prop} (m:Nat) (hc:qac P gl f args' res) (ha:args.map (frz h m) = args') (hp:res.scalar = true) (hk:K res h):qa2 P gl f args h K:=CallO.of (qng.borrow m hc ha hp hk)
def upS (base:Nat) (gf:Nat->Nat) (b g:Nat):Nat × Nat:=(base + b,gf (base + b) + g)
def upH (base:Nat) (gf:Nat->Nat) (h:Hp):Hp:=h.map fun p=>(base + p.1,p.2.rn (upS base gf) (gf (base + p.1) + p.2.gen))
theorem q6i (base:Nat) (gf:Nat->Nat) (h:Hp) (t:Nat):lk (upH base gf h) t = if base≤t then (lk h (t - base)).map fun k=>k.rn (upS base gf) (gf t + k.gen) else none:=by
 induction h with
 | nil=>simp [upH,lk]
 | cons p r ih=>
  obtain ⟨b,k⟩:=p;have ih':lk (List.map (fun p:Nat × Blk=>(base + p.1,p.2.rn (upS base gf) (gf (base + p.1) + p.2.gen))) r) t = _:=ih;simp only [upH,List.map_cons,lk];by_cases ht:t = base + b
  ·subst ht;have e:base + b - base = b:=by omega
   simp [e]
  ·rw [if_neg ht,ih'];by_cases hb:base≤t
   ·have:¬ t - base = b:=by omega
    simp [hb,this]
   ·simp [hb]
theorem qsx (a b:Hp) (t:Nat):lk (a ++ b) t = match lk a t with | some k=>some k | none=>lk b t:=by
 induction a with
 | nil=>simp [lk]
 | cons p r ih=>
  obtain ⟨k,v⟩:=p;simp only [List.cons_append,lk];by_cases ht:t = k
  ·simp [ht]
  ·simp only [ht,if_false]; exact ih
theorem qru {G':qaz} {M':qar} {w':World} {v:V} {rv:Value} {h':Hp} {K:V->Hp->Prop} (base:Nat) (hs:Sim G M h w) (hlow:(h.all fun p=>decide (p.1 < base)) = true) (hv:qak G' M' v rv) (hs':Sim G' M' h' w') (hx:Ext G M0 w G' M' w')
  (hk:∀ gf,K (v.rn (upS base gf)) (upH base gf h' ++ h)):∃ v2 h2 M2,K v2 h2/\qak G' M2 v2 rv/\Sim G' M2 h2 w'/\Ext G M w G' M2 w':=by
 have hx0:Ext G M0 w G' M0 w':=⟨hx.g,hx.gnew,qar.le_refl _,fun _ q=>.inr q,hx.os,hx.tape,hx.output,hx.size,hx.keep⟩;obtain ⟨s1,s2⟩:=hs.after hs'.gw hx0
 have hlowt:∀ t k,lk h t = some k->t < base:=by
  intro t k ht;clear s1 s2 hk hs
  induction h with
  | nil=>simp [lk] at ht
  | cons p r ih=>
   obtain ⟨b,x⟩:=p;simp only [List.all_cons,Bool.and_eq_true,decide_eq_true_eq] at hlow;simp only [lk] at ht;split at ht
   ·rename_i he; subst he; exact hlow.1
   ·exact ih hlow.2 ht
 let gf:=qaa M
 let M2:qar:=fun x=>if base≤x then (match M' (x - base) with | some mb=>some { mb with gen:=gf x + mb.gen } | none=>M x) else M x
 have e1:∀ b mb,M' b = some mb->M2 (base + b) = some { mb with gen:=gf (base + b) + mb.gen }:=fun b mb hb=>by
  have:base + b - base = b:=by omega
  simp [M2,this,hb]
 have e2:∀ x,x < base->M2 x = M x:=fun x hx'=>by
  have:¬ base≤x:=by omega
  simp [M2,this]
 have e3:∀ x mx,M2 x = some mx->(M x = some mx)∨∃ mb,base≤x/\M' (x - base) = some mb/\mx = { mb with gen:=gf x + mb.gen }:=by
  intro x mx hx';simp only [M2] at hx';split at hx'
  ·rename_i hb;split at hx'
   ·rename_i mb hmb; cases hx'; exact .inr ⟨mb,hb,hmb,rfl⟩
   ·exact .inl hx'
  ·exact .inl hx'
 have hle:M.le M2:=by
  intro x m hm;by_cases hb:base≤x
  ·cases hq:M' (x - base) with
   | none=>exact ⟨m,by simp [M2,hb,hq,hm],jki _,fun _=>rfl⟩
   | some mb=>
    have hg:gf x = m.gen + 1:=by simp [gf,qaa,hm]
    exact ⟨{ mb with gen:=gf x + mb.gen },by simp [M2,hb,hq],by simp only; omega,fun e=>by simp only at e; omega⟩
  ·exact ⟨m,by rw [e2 x (by omega)]; exact hm,jki _,fun _=>rfl⟩
 have hm:q3q (upS base gf) M' M2:=fun b g mb hb hg=>⟨_,e1 b mb hb,by simp only [upS]; omega,fun e=>by
  simp only [upS] at e;exact ⟨by omega,rfl⟩⟩
 have hnew:∀ b mb rb,M' b = some mb->mb.real = some rb->w.heap.size≤rb:=fun b mb rb h1 h2=>by
  rcases hx.mnew rb ⟨b,mb,h1,h2⟩ with q | q
  ·exact q
  ·exact absurd q (qbc _)
 refine ⟨_,_,M2,hk gf,hv.rn hm,⟨hs'.gw,fun t blk ht=>?_,fun x y mx my rb hx1 hy1 r1 r2=>?_,fun x mx rb hx1 r1=>?_⟩,⟨hx.g,s2.gnew,hle,fun q ⟨x,mx,hx1,r1⟩=>?_,hx.os,hx.tape,hx.output,hx.size,s2.keep⟩⟩
 ·rw [qsx,q6i] at ht;by_cases hb:base≤t
  ·rw [if_pos hb] at ht
   cases hq:lk h' (t - base) with
   | none=>
    rw [hq] at ht;have:=hlowt t blk ht;omega
   | some k=>
    rw [hq] at ht;cases ht;refine (hs'.hb _ k hq).rn hm fun mb hmb hg=>?_;have:=e1 _ mb hmb;rw [show base + (t - base) = t by omega] at this;rw [this,hg]
  ·rw [if_neg hb] at ht;exact (s1.hb t blk ht).mono G'.le_refl hle (e2 t (by omega)) (fun _ _ _ _=>rfl)
 ·rcases e3 x mx hx1 with p1 | ⟨mb1,b1,p1,rfl⟩ <;> rcases e3 y my hy1 with p2 | ⟨mb2,b2,p2,rfl⟩
  ·exact hs.inj x y mx my rb p1 p2 r1 r2
  ·have:=(hs.mlt x mx rb p1 r1).1;have:=hnew _ mb2 rb p2 r2;omega
  ·have:=(hs.mlt y my rb p2 r2).1;have:=hnew _ mb1 rb p1 r1;omega
  ·have:=hs'.inj _ _ mb1 mb2 rb p1 p2 r1 r2;omega
 ·rcases e3 x mx hx1 with p1 | ⟨mb1,b1,p1,rfl⟩
  ·exact s1.mlt x mx rb p1 r1
  ·exact hs'.mlt _ mb1 rb p1 r1
 ·rcases e3 x mx hx1 with p1 | ⟨mb1,b1,p1,rfl⟩
  ·exact .inr ⟨x,mx,p1,r1⟩
  ·exact .inl (hnew _ mb1 q p1 r1)
theorem CallO.own {f:FuncId} {args:List V} {K0 K:V->Hp->Prop} (base:Nat) (hc:qce P gl f args K0) (hp:jid args = true) (hlow:(h.all fun p=>decide (p.1 < base)) = true)
  (hk:∀ v h',K0 v h'->∀ gf,K (v.rn (upS base gf)) (upH base gf h' ++ h)):qa2 P gl f args h K:=by
 refine ⟨hc.1,fun G M w rargs hs hgl hsz hr=>Calls.mono (hc.2 G w rargs hs.gw hgl hsz fun i hi=>(hr i hi).pure M0 (jie hp i)) ?_⟩;rintro e w' ⟨rv,v,h',G',M',rfl,k0,hv,hs',hx⟩;obtain ⟨v2,h2,M2,q1,q2,q3,q4⟩:=qru (K:=K) base hs hlow hv hs' hx (hk v h' k0);exact ⟨rv,v2,h2,G',M2,rfl,q1,q2,q3,q4⟩
mutual
def V.noG:V->Bool
 | .agg cs=>jih cs
 | .tup cs=>jih cs
 | .sl xs _=>xs.isEmpty
 | .iptr ..=>false
 | .fn ..=>false
 | .ref ..=>true
 | .ptr ..=>true
 | .own ..=>true
 | .undef=>true
 | .int ..=>true
 | .bool _=>true
 | .str _=>true
 | .nilfn=>true
 | .nilmap=>true
 | .err _=>true
 | .nil=>true
def jih:List V->Bool
 | []=>true
 | v :: r=>v.noG && jih r
end
def Blk.noG:Blk->Bool
 | .row _ _ es=>jih es
 | .map ..=>false
 | .siter ..=>true
 | .loop ..=>false
 | .dead _=>true
 | .miter ..=>false
theorem ji4 (l:List V):jih l = true↔∀ v ∈ l,v.noG = true:=by
 induction l with
 | nil=>simp [jih]
 | cons a r ih=>simp [jih,ih]
theorem ji5 {l:List V} (h:jih l = true) (i:Nat):(l.getD i .undef).noG = true:=by
 rw [ji4] at h;rw [jkd]
 cases hi:l[i]? with
 | none=>rfl
 | some v=>exact h v (List.mem_of_getElem? hi)
theorem jjs {v:V} (h:v.noG = true):jih v.cells = true:=by
 cases v <;> simp_all [V.cells,V.noG,jih]
theorem qak.noG (G':qaz) {v:V} {r:Value} (hv:qak G M v r) (hp:v.noG = true):qak G' M v r:=by
 induction hv with
 | undef v=>exact .undef v
 | int k n=>exact .int k n
 | bool b=>exact .bool b
 | str s=>exact .str s
 | agg cs arr hs _ ho ih=>exact .agg cs arr hs (fun i hi=>ih i hi (ji5 (by simpa [V.noG] using hp) i)) ho
 | tup cs arr hs _ ih=>exact .tup cs arr hs (fun i hi=>ih i hi (ji5 (by simpa [V.noG] using hp) i))
 | slnil cap base rcap hc hb=>exact .slnil cap base rcap hc hb
 | sl xs cap rb ro rcap sz cells hne=>simp only [V.noG,List.isEmpty_iff] at hp; exact absurd hp hne
 | ref b g o l c ra rcap mb hM hg hl hc hh=>exact .ref b g o l c ra rcap mb hM hg hl hc hh
 | ptr b g i o ad mb hM hg hh=>exact .ptr b g i o ad mb hM hg hh
 | own b g r mb hM hg ho hh=>exact .own b g r mb hM hg ho hh
 | iptr=>simp [V.noG] at hp
 | fn=>simp [V.noG] at hp
 | nilfn=>exact .nilfn
 | nilmap=>exact .nilmap
 | errnil=>exact .errnil
 | errsome t x=>exact .errsome t x
 | nil=>exact .nil
theorem qb7.noG (G':qaz) {b:Nat} {k:Blk} (hk:qb7 G M w b k) (hp:k.noG = true):qb7 G' M w b k:=by
 cases k with
 | row g sz es=>
  obtain ⟨mb,q1,q2,q3,q4⟩:=hk;refine ⟨mb,q1,q2,q3,?_⟩;unfold qbo at q4 ⊢;split at q4
  ·exact q4
  ·obtain ⟨arr,ty,w1,w2,w3,w4,w5⟩:=q4;exact ⟨arr,ty,w1,w2,w3,w4,fun i j hi hj=>⟨(w5 i j hi hj).1.noG G' (ji5 (jjs (ji5 hp i)) j),(w5 i j hi hj).2⟩⟩
 | map g es=>simp [Blk.noG] at hp
 | siter g t pos=>exact hk
 | loop=>simp [Blk.noG] at hp
 | miter=>simp [Blk.noG] at hp
 | dead=>exact hk
theorem qex {f:FuncId} {args:List V} {K0:V->Hp->Prop} (m:Nat) (hc:qce P gl f (args.map (frz h m)) K0) (hs:Sim G M h w) (hgl:qdy G gl) {rargs:Array Value} (hsz:rargs.size = args.length) (hr:∀ i,i < args.length->qak G M (args.getD i .undef) (rargs.getD i undef))
  (hn:∀ v h',K0 v h'->v.noG = true/\(∀ b k,lk h' b = some k->k.noG = true)):Calls P f rargs w fun e w'=>∃ rv v h' M',e = .returned rv/\K0 v h'/\qak G M' v rv/\Sim G M' h' w'/\Ext G M0 w G M' w':=by
 let Gf:qaz:=fun k=>match w.heap[k]? with
  | some (.cells c _ _)=>some c
  | _=>none
 have hGf:G.le Gf:=fun k c hk=>by
  obtain ⟨ty,fz,he⟩:=hs.gw k c hk;simp [Gf,he]
 have hin:GIn Gf w:=fun k c hk=>by
  simp only [Gf] at hk;split at hk
  ·rename_i c' ty fz he; cases hk; exact ⟨ty,fz,he⟩
  ·cases hk
 have hfr:=qfu hs hGf (fun b mb rb arr ty fz _ _ he=>by simp [Gf,he]) m
 refine Calls.mono (hc.2 Gf w rargs hin (hgl.mono hGf) (by simpa using hsz) fun i hi=>by
  have hi':i < args.length:=by simpa using hi
  rw [qco _ _ _ _ hi']; exact hfr _ _ (hr i hi')) ?_
 rintro e w' ⟨rv,v,h',G',M',rfl,k0,hv,hs',hx⟩;obtain ⟨n1,n2⟩:=hn v h' k0
 have hnew:∀ rb,qf0 M' rb->w.heap.size≤rb:=fun rb ho=>by
  rcases hx.mnew rb ho with q | q
  ·exact q
  ·exact absurd q (qbc _)
 have hlt:∀ k c,G k = some c->k < w.heap.size:=fun k c hk=>by
  obtain ⟨ty,fz,he⟩:=hs.gw k c hk;exact (Array.getElem?_eq_some_iff.1 he).1
 have hsG:Sim G M' h' w':=by
  refine ⟨fun k c hkc=>?_,fun b k hb=>(hs'.hb b k hb).noG G (n2 b k hb),hs'.inj,fun b mb rb h1 h2=>⟨(hs'.mlt b mb rb h1 h2).1,?_⟩⟩
  ·obtain ⟨ty,fz,he⟩:=hs.gw k c hkc;exact ⟨ty,fz,by rw [hx.keep k (hlt k c hkc) (qbc _)]; exact he⟩
  ·cases hq:G rb with
   | none=>rfl
   | some c=>
    have:=hlt rb c hq;have:=hnew rb ⟨b,mb,h1,h2⟩;omega
 exact ⟨rv,v,h',M',rfl,k0,hv.noG G n1,hsG,⟨G.le_refl,fun _ _ q=>.inl q,hx.m,hx.mnew,hx.os,hx.tape,hx.output,hx.size,hx.keep⟩⟩
theorem ji3 {f:FuncId} {args args':List V} {K0 K:V->Hp->Prop} (m base:Nat) (hc:qce P gl f args' K0) (ha:args.map (frz h m) = args') (hlow:(h.all fun p=>decide (p.1 < base)) = true)
  (hk:∀ v h',K0 v h'->v.noG = true/\(∀ b k,lk h' b = some k->k.noG = true)/\∀ gf,K (v.rn (upS base gf)) (upH base gf h' ++ h)):qa2 P gl f args h K:=by
 subst ha;refine ⟨hc.1,fun G M w rargs hs hgl hsz hr=>Calls.mono (qex m hc hs hgl hsz hr fun v h' k0=>⟨(hk v h' k0).1,(hk v h' k0).2.1⟩) ?_⟩;rintro e w' ⟨rv,v,h',M',rfl,k0,hv,hs',hx⟩;obtain ⟨v2,h2,M2,q1,q2,q3,q4⟩:=qru (K:=K) base hs hlow hv hs' hx (hk v h' k0).2.2;exact ⟨rv,v2,h2,G,M2,rfl,q1,q2,q3,q4⟩
theorem qgp {f:FuncId} {args:List V} {K0:V->Hp->Prop} {res:V} (m m2:Nat) (hc:qce P gl f (args.map (frz h m)) K0) (hs:Sim G M h w) (hgl:qdy G gl) {rargs:Array Value} (hsz:rargs.size = args.length) (hr:∀ i,i < args.length->qak G M (args.getD i .undef) (rargs.getD i undef))
  (hn:∀ v h',K0 v h'->v.noG = true/\(∀ b k,lk h' b = some k->k.noG = true)/\∀ G M r,qak G M (frz h' m2 v) r->qak G M res r):Calls P f rargs w fun e w'=>∃ rv G',e = .returned rv/\qak G' M0 res rv/\GIn G' w'/\Ext G M0 w G' M0 w':=by
 refine Calls.mono (qex m hc hs hgl hsz hr fun v h' k0=>⟨(hn v h' k0).1,(hn v h' k0).2.1⟩) ?_;rintro e w' ⟨rv,v,h',M',rfl,hK,hv,hs',hx⟩
 let Gf:qaz:=fun k=>if k < w.heap.size then G k else match w'.heap[k]? with
  | some (.cells c _ _)=>some c
  | _=>none
 have hkeep:∀ k,k < w.heap.size->w'.heap[k]? = w.heap[k]?:=fun k hk=>hx.keep k hk (qbc k)
 have hGf:G.le Gf:=by
  intro k c hk;simp only [Gf];split
  ·exact hk
  ·obtain ⟨ty,fz,he⟩:=hs'.gw k c hk;simp [he]
 have hin:GIn Gf w':=by
  intro k c hk;simp only [Gf] at hk;split at hk
  ·rename_i hlt;obtain ⟨ty,fz,he⟩:=hs.gw k c hk;exact ⟨ty,fz,by rw [hkeep k hlt]; exact he⟩
  ·split at hk
   ·rename_i c' ty fz he; cases hk; exact ⟨ty,fz,he⟩
   ·cases hk
 have hext:Ext G M0 w Gf M0 w':=by
  refine ⟨hGf,fun k c hk=>?_,qar.le_refl _,fun _ h=>.inr h,hx.os,hx.tape,hx.output,hx.size,hx.keep⟩;simp only [Gf] at hk;split at hk
  ·exact .inl hk
  ·rename_i hge; exact .inr (.inl (by omega))
 have hfr:=qfu hs' hGf (fun b mb rb arr ty fz h1 h2 he=>by
  have:¬ rb < w.heap.size:=fun hlt=>by
   rcases hx.mnew rb ⟨b,mb,h1,h2⟩ with h3 | h3
   ·omega
   ·exact absurd h3 (qbc _)
  simp [Gf,this,he]) m2
 exact ⟨rv,Gf,rfl,(hn v h' hK).2.2 _ _ _ (hfr _ _ hv),hin,hext⟩
theorem jjo {f:FuncId} {args args':List V} {K0 K:V->Hp->Prop} {res:V} (m m2:Nat) (hc:qce P gl f args' K0) (ha:args.map (frz h m) = args')
  (hn:∀ v h',K0 v h'->v.noG = true/\(∀ b k,lk h' b = some k->k.noG = true)/\∀ G M r,qak G M (frz h' m2 v) r->qak G M res r) (hk:K res h):qa2 P gl f args h K:=by
 subst ha;refine ⟨hc.1,fun G M w rargs hs hgl hsz hr=>Calls.mono (qgp m m2 hc hs hgl hsz hr hn) ?_⟩;rintro e w' ⟨rv,G',rfl,hv,hg,hx⟩;obtain ⟨s1,s2⟩:=hs.after hg hx;exact ⟨rv,res,h,G',M,rfl,hk,hv.mono G'.le_refl (fun _ _ h=>by cases h),s1,s2⟩
def qxg (sz:Nat) (xs:List V) (cap:Option Nat) (v:V) (h:Hp):Prop:=∃ g,v = .ref 0 g 0 xs.length cap/\h = [(0,.row g sz xs)]
theorem qlw {G':qaz} {M':qar} {w':World} {rv:Value} {g sz:Nat} {xs:List V} {cap:Option Nat} (d:Nat) (hs:Sim G M h w) (hp:jid xs = true) (hv:qak G' M' (.ref 0 g 0 xs.length cap) rv) (hs':Sim G' M' [(0,.row g sz xs)] w') (hx:Ext G M0 w G' M' w') :
  ∃ M2,qak G' M2 (.ref d (qaa M d) 0 xs.length cap) rv/\Sim G' M2 ((d,.row (qaa M d) sz xs) :: h) w'/\Ext G M w G' M2 w'/\(∀ b,b ≠ d->qaa M2 b = qaa M b)/\∀ x,qak G' M' (.ref 0 g 0 xs.length cap) x->qak G' M2 (.ref d (qaa M d) 0 xs.length cap) x:=by
 have hx0:Ext G M0 w G' M0 w':=⟨hx.g,hx.gnew,qar.le_refl _,fun _ q=>.inr q,hx.os,hx.tape,hx.output,hx.size,hx.keep⟩;obtain ⟨s1,s2⟩:=hs.after hs'.gw hx0;obtain ⟨mb,hm0,hmg,hmsz,hrow⟩:=hs'.hb 0 (.row g sz xs) (by simp [lk]);generalize hgd:qaa M d = gd
 let M2:qar:=fun x=>if x = d then some { mb with gen:=gd } else M x
 have e1:M2 d = some { mb with gen:=gd }:=by simp [M2]
 have e2:∀ x,x ≠ d->M2 x = M x:=fun x hx'=>by simp [M2,hx']
 have hold:∀ m,M d = some m->m.gen < gd:=fun m hm=>by rw [<- hgd,qaa,hm]; simp
 have hle:M.le M2:=by
  intro x m hm;by_cases hxd:x = d
  ·subst hxd;have:=hold m hm;exact ⟨_,e1,by simp only; omega,fun e=>by simp only at e; omega⟩
  ·exact ⟨m,by rw [e2 x hxd]; exact hm,jki _,fun _=>rfl⟩
 have hnew:∀ rb,mb.real = some rb->w.heap.size≤rb:=fun rb h2=>by
  rcases hx.mnew rb ⟨0,mb,hm0,h2⟩ with q | q
  ·exact q
  ·exact absurd q (qbc _)
 have hrow2:qbo G' M2 w' { mb with gen:=gd } xs:=by
  unfold qbo at hrow ⊢
  cases hreal:mb.real with
  | none=>simp only [hreal] at hrow ⊢; exact hrow
  | some rb=>
   simp only [hreal] at hrow ⊢;obtain ⟨arr,ty,w1,w2,w3,w4,w5⟩:=hrow;exact ⟨arr,ty,w1,w2,w3,w4,fun i j hi hj=>⟨(w5 i j hi hj).1.pure M2 (jie (jit (jie hp i)) j),(w5 i j hi hj).2⟩⟩
 have hrr:∀ x,qak G' M' (.ref 0 g 0 xs.length cap) x->qak G' M2 (.ref d gd 0 xs.length cap) x:=fun x hxv=>by
  cases hxv with
  | ref _ _ _ _ _ ra rcap mb' hM hg hl hc hh=>
   rw [hm0] at hM; cases hM;exact .ref _ _ _ _ _ _ _ _ e1 (jki _) hl hc fun _=>hh hmg.symm
 refine ⟨M2,?_,⟨hs'.gw,fun t blk ht=>?_,fun x y mx my rb hx1 hy1 r1 r2=>?_,fun x mx rb hx1 r1=>?_⟩,⟨hx.g,s2.gnew,hle,fun q ⟨x,mx,hx1,r1⟩=>?_,hx.os,hx.tape,hx.output,hx.size,s2.keep⟩,fun b hb=>?_,fun x hxx=>?_⟩
 ·exact hrr _ hv
 ·simp only [lk] at ht;by_cases htd:t = d
  ·rw [if_pos htd] at ht;cases ht;subst htd;exact ⟨_,e1,rfl,hmsz,hrow2⟩
  ·rw [if_neg htd] at ht;exact (s1.hb t blk ht).mono G'.le_refl hle (e2 t htd) (fun _ _ _ _=>rfl)
 ·by_cases h1:x = d <;> by_cases h2:y = d
  ·rw [h1,h2]
  ·subst h1; rw [e1] at hx1; cases hx1; rw [e2 y h2] at hy1;have:=(hs.mlt y my rb hy1 r2).1;have:=hnew rb r1;omega
  ·subst h2; rw [e1] at hy1; cases hy1; rw [e2 x h1] at hx1;have:=(hs.mlt x mx rb hx1 r1).1;have:=hnew rb r2;omega
  ·rw [e2 x h1] at hx1; rw [e2 y h2] at hy1;exact hs.inj x y mx my rb hx1 hy1 r1 r2
 ·by_cases h1:x = d
  ·subst h1; rw [e1] at hx1; cases hx1; exact hs'.mlt 0 mb rb hm0 r1
  ·rw [e2 x h1] at hx1; exact s1.mlt x mx rb hx1 r1
 ·by_cases h1:x = d
  ·subst h1; rw [e1] at hx1; cases hx1; exact .inl (hnew q r1)
  ·rw [e2 x h1] at hx1; exact .inr ⟨x,mx,hx1,r1⟩
 ·simp only [qaa,e2 b hb]
 ·exact hrr _ hxx
theorem qos {G':qaz} {M':qar} {w':World} {rv:Value} {g sz:Nat} {xs:List V} {cap:Option Nat} (d:Nat) (hs:Sim G M h w) (hp:jid xs = true) (hv:qak G' M' (.ref 0 g 0 xs.length cap) rv) (hs':Sim G' M' [(0,.row g sz xs)] w') (hx:Ext G M0 w G' M' w') :
  ∃ M2,qak G' M2 (.ref d (qaa M d) 0 xs.length cap) rv/\Sim G' M2 ((d,.row (qaa M d) sz xs) :: h) w'/\Ext G M w G' M2 w'/\∀ b,b ≠ d->qaa M2 b = qaa M b:=by
 obtain ⟨M2,q1,q2,q3,q4,-⟩:=qlw d hs hp hv hs' hx;exact ⟨M2,q1,q2,q3,q4⟩
def TwoB (s0 s1:Nat) (xs ys:List V) (c0 c1:Option Nat) (v:V) (h:Hp):Prop:=∃ g0 g1,v = .agg [.ref 0 g0 0 xs.length c0,.ref 1 g1 0 ys.length c1]/\h = [(0,.row g0 s0 xs),(1,.row g1 s1 ys)]
theorem qv0 {G':qaz} {M':qar} {w':World} {rv:Value} {g0 g1 s0 s1:Nat} {xs ys:List V} {c0 c1:Option Nat} (d d2:Nat) (hdd:d ≠ d2) (hs:Sim G M h w) (hp:jid xs = true) (hp2:jid ys = true) (hv:qak G' M' (.agg [.ref 0 g0 0 xs.length c0,.ref 1 g1 0 ys.length c1]) rv) (hs':Sim G' M' [(0,.row g0 s0 xs),(1,.row g1 s1 ys)] w') (hx:Ext G M0 w G' M' w') :
  ∃ M2,qak G' M2 (.agg [.ref d (qaa M d) 0 xs.length c0,.ref d2 (qaa M d2) 0 ys.length c1]) rv/\Sim G' M2 ((d,.row (qaa M d) s0 xs) :: (d2,.row (qaa M d2) s1 ys) :: h) w'/\Ext G M w G' M2 w'/\∀ b,b ≠ d->b ≠ d2->qaa M2 b = qaa M b:=by
 have hx0:Ext G M0 w G' M0 w':=⟨hx.g,hx.gnew,qar.le_refl _,fun _ q=>.inr q,hx.os,hx.tape,hx.output,hx.size,hx.keep⟩;obtain ⟨s1',s2⟩:=hs.after hs'.gw hx0;obtain ⟨ma,hma,hag,hasz,hra⟩:=hs'.hb 0 (.row g0 s0 xs) (by simp [lk]);obtain ⟨mb,hmb,hbg,hbsz,hrb⟩:=hs'.hb 1 (.row g1 s1 ys) (by simp [lk]);generalize hgd:qaa M d = gd;generalize hge:qaa M d2 = ge
 let M2:qar:=fun x=>if x = d then some { ma with gen:=gd } else if x = d2 then some { mb with gen:=ge } else M x
 have e1:M2 d = some { ma with gen:=gd }:=by simp [M2]
 have e1':M2 d2 = some { mb with gen:=ge }:=by simp [M2,Ne.symm hdd]
 have e2:∀ x,x ≠ d->x ≠ d2->M2 x = M x:=fun x hx' hx2=>by simp [M2,hx',hx2]
 have hold:∀ m,M d = some m->m.gen < gd:=fun m hm=>by rw [<- hgd,qaa,hm]; simp
 have hold2:∀ m,M d2 = some m->m.gen < ge:=fun m hm=>by rw [<- hge,qaa,hm]; simp
 have hle:M.le M2:=by
  intro x m hm;by_cases hxd:x = d
  ·subst hxd;have:=hold m hm;exact ⟨_,e1,by simp only; omega,fun e=>by simp only at e; omega⟩
  ·by_cases hx2:x = d2
   ·subst hx2;have:=hold2 m hm;exact ⟨_,e1',by simp only; omega,fun e=>by simp only at e; omega⟩
   ·exact ⟨m,by rw [e2 x hxd hx2]; exact hm,jki _,fun _=>rfl⟩
 have hnew:∀ b m rb,M' b = some m->m.real = some rb->w.heap.size≤rb:=fun b m rb h1 h2=>by
  rcases hx.mnew rb ⟨b,m,h1,h2⟩ with q | q
  ·exact q
  ·exact absurd q (qbc _)
 have row:∀ (m:MB) (gg:Nat) (zs:List V),jid zs = true->qbo G' M' w' m zs->qbo G' M2 w' { m with gen:=gg } zs:=by
  intro m gg zs hz hrow;unfold qbo at hrow ⊢
  cases hreal:m.real with
  | none=>simp only [hreal] at hrow ⊢; exact hrow
  | some rb=>
   simp only [hreal] at hrow ⊢;obtain ⟨arr,ty,w1,w2,w3,w4,w5⟩:=hrow;exact ⟨arr,ty,w1,w2,w3,w4,fun i j hi hj=>⟨(w5 i j hi hj).1.pure M2 (jie (jit (jie hz i)) j),(w5 i j hi hj).2⟩⟩
 have inv:∀ x mx,M2 x = some mx->(x = d/\mx = { ma with gen:=gd })∨(x = d2/\mx = { mb with gen:=ge })∨(x ≠ d/\x ≠ d2/\M x = some mx):=by
  intro x mx hx1;by_cases h1:x = d
  ·subst h1; rw [e1] at hx1; cases hx1; exact .inl ⟨rfl,rfl⟩
  ·by_cases h2:x = d2
   ·subst h2; rw [e1'] at hx1; cases hx1; exact .inr (.inl ⟨rfl,rfl⟩)
   ·rw [e2 x h1 h2] at hx1; exact .inr (.inr ⟨h1,h2,hx1⟩)
 refine ⟨M2,?_,⟨hs'.gw,fun t blk ht=>?_,fun x y mx my rb hx1 hy1 r1 r2=>?_,fun x mx rb hx1 r1=>?_⟩,⟨hx.g,s2.gnew,hle,fun q ⟨x,mx,hx1,r1⟩=>?_,hx.os,hx.tape,hx.output,hx.size,s2.keep⟩,fun b hb hb2=>?_⟩
 ·cases hv with
  | agg _ arr hsz q ho=>
   refine .agg _ arr (by rw [hsz]; rfl) (fun i hi=>?_) (fun i hi=>ho i (by simpa using hi));have hi:i < 2:=by simpa using hi
   have hq:=q i (by simpa using hi)
   match i,hi,hq with
   | 0,_,hq=>
    change qak G' M' (.ref 0 g0 0 xs.length c0) _ at hq;show qak G' M2 (.ref d gd 0 xs.length c0) _;generalize arr.getD 0 undef = r at hq ⊢
    cases hq with
    | ref _ _ _ _ _ ra rcap mb' hM hg hl hc hh=>
     rw [hma] at hM; cases hM;exact .ref _ _ _ _ _ _ _ _ e1 (jki _) hl hc fun _=>hh hag.symm
   | 1,_,hq=>
    change qak G' M' (.ref 1 g1 0 ys.length c1) _ at hq;show qak G' M2 (.ref d2 ge 0 ys.length c1) _;generalize arr.getD 1 undef = r at hq ⊢
    cases hq with
    | ref _ _ _ _ _ ra rcap mb' hM hg hl hc hh=>
     rw [hmb] at hM; cases hM;exact .ref _ _ _ _ _ _ _ _ e1' (jki _) hl hc fun _=>hh hbg.symm
 ·simp only [lk] at ht;by_cases htd:t = d
  ·rw [if_pos htd] at ht;cases ht;subst htd;exact ⟨_,e1,rfl,hasz,row ma gd xs hp hra⟩
  ·rw [if_neg htd] at ht;by_cases ht2:t = d2
   ·rw [if_pos ht2] at ht;cases ht;subst ht2;exact ⟨_,e1',rfl,hbsz,row mb ge ys hp2 hrb⟩
   ·rw [if_neg ht2] at ht;exact (s1'.hb t blk ht).mono G'.le_refl hle (e2 t htd ht2) (fun _ _ _ _=>rfl)
 ·rcases inv x mx hx1 with ⟨p1,rfl⟩ | ⟨p1,rfl⟩ | ⟨p1,p1',q1⟩ <;> rcases inv y my hy1 with ⟨p2,rfl⟩ | ⟨p2,rfl⟩ | ⟨p2,p2',q2⟩
  ·rw [p1,p2]
  ·have:=hs'.inj 0 1 ma mb rb hma hmb r1 r2; omega
  ·have:=(hs.mlt y my rb q2 r2).1;have:=hnew 0 ma rb hma r1;omega
  ·have:=hs'.inj 1 0 mb ma rb hmb hma r1 r2; omega
  ·rw [p1,p2]
  ·have:=(hs.mlt y my rb q2 r2).1;have:=hnew 1 mb rb hmb r1;omega
  ·have:=(hs.mlt x mx rb q1 r1).1;have:=hnew 0 ma rb hma r2;omega
  ·have:=(hs.mlt x mx rb q1 r1).1;have:=hnew 1 mb rb hmb r2;omega
  ·exact hs.inj x y mx my rb q1 q2 r1 r2
 ·rcases inv x mx hx1 with ⟨p1,rfl⟩ | ⟨p1,rfl⟩ | ⟨p1,p1',q1⟩
  ·exact hs'.mlt 0 ma rb hma r1
  ·exact hs'.mlt 1 mb rb hmb r1
  ·exact s1'.mlt x mx rb q1 r1
 ·rcases inv x mx hx1 with ⟨p1,rfl⟩ | ⟨p1,rfl⟩ | ⟨p1,p1',q1⟩
  ·exact .inl (hnew 0 ma q hma r1)
  ·exact .inl (hnew 1 mb q hmb r1)
  ·exact .inr ⟨x,mx,q1,r1⟩
 ·simp only [qaa,e2 b hb hb2]
def mkA (pre post:List V) (r:V):V:=.agg (pre ++ r :: post)
theorem q2i {pre post:List V} {M M2:qar} (h1:jid pre = true) (h2:jid post = true) {r r2:V} (h:∀ x,qak G M r x->qak G M2 r2 x) {x:Value} (hx:qak G M (mkA pre post r) x):qak G M2 (mkA pre post r2) x:=by
 unfold mkA at hx ⊢
 cases hx with
 | agg _ arr hs q ho=>
  refine .agg _ arr (by rw [hs]; simp) (fun i hi=>?_) (fun i hi=>ho i (by simpa using hi));have hq:=q i (by simpa using hi);simp only [jkd] at hq ⊢;by_cases a:i < pre.length
  ·rw [List.getElem?_append_left a] at hq ⊢;refine hq.pure M2 ?_;have:=jie h1 i
   rwa [jkd] at this
  ·rw [List.getElem?_append_right (by omega)] at hq ⊢;by_cases b:i - pre.length = 0
   ·rw [b] at hq ⊢;exact h _ hq
   ·obtain ⟨k,hk⟩:∃ k,i - pre.length = k + 1:=⟨i - pre.length - 1,by omega⟩;rw [hk] at hq ⊢;simp only [List.getElem?_cons_succ] at hq ⊢;refine hq.pure M2 ?_;have:=jie h2 k
    rwa [jkd] at this
theorem q2n {pre post:List V} (h1:jih pre = true) (h2:jih post = true) {r:V} (hr:r.noG = true):(mkA pre post r).noG = true:=by
 rw [ji4] at h1 h2;show jih (pre ++ r :: post) = true;rw [ji4];intro v hv;rcases List.mem_append.1 hv with q | q
 ·exact h1 v q
 ·rcases List.mem_cons.1 q with rfl | q
  ·exact hr
  ·exact h2 v q
theorem qce.mono {f:FuncId} {args:List V} {K K':V->Hp->Prop} (hc:qce P gl f args K) (hk:∀ v h,K v h->K' v h):qce P gl f args K':=
 ⟨hc.1,fun G w rargs h1 h2 h3 h4=>Calls.mono (hc.2 G w rargs h1 h2 h3 h4) fun _ _ ⟨rv,v,h',G',M',q1,q2,q3⟩=>⟨rv,v,h',G',M',q1,hk _ _ q2,q3⟩⟩
def OneA (pre post:List V) (sz:Nat) (xs:List V) (v:V) (h:Hp):Prop:=∃ g cap,v = mkA pre post (.ref 0 g 0 xs.length cap)/\h = [(0,.row g sz xs)]
theorem qak.of_mkA {pre post:List V} {M:qar} {r:V} {x:Value} (hx:qak G M (mkA pre post r) x):∃ y,qak G M r y:=by
 unfold mkA at hx
 cases hx with
 | agg _ arr hs q ho=>
  have hq:=q pre.length (by simp);simp only [jkd] at hq;rw [List.getElem?_append_right (by omega),Nat.sub_self] at hq;exact ⟨_,hq⟩
theorem qs7 {G':qaz} {M':qar} {w':World} {rv:Value} {g sz:Nat} {xs pre post:List V} {cap:Option Nat} (d:Nat) (hs:Sim G M h w) (hp:jid xs = true) (h1:jid pre = true) (h2:jid post = true) (hv:qak G' M' (mkA pre post (.ref 0 g 0 xs.length cap)) rv) (hs':Sim G' M' [(0,.row g sz xs)] w') (hx:Ext G M0 w G' M' w') :
  ∃ M2,qak G' M2 (mkA pre post (.ref d (qaa M d) 0 xs.length none)) rv/\Sim G' M2 ((d,.row (qaa M d) sz xs) :: h) w'/\Ext G M w G' M2 w'/\∀ b,b ≠ d->qaa M2 b = qaa M b:=by
 obtain ⟨y,hy⟩:=hv.of_mkA;obtain ⟨M2,m1,m2,m3,m4,m5⟩:=qlw d hs hp hy hs' hx;refine ⟨M2,q2i h1 h2 (fun x q=>?_) hv,m2,m3,m4⟩;have:=m5 x q
 cases this with
 | ref _ _ _ _ _ ra rcap mb hM hg hl hc hh=>exact .ref _ _ _ _ _ _ _ _ hM hg hl (fun _ e=>by cases e) hh
def q85 (rs:List qsd) (K:V->Hp->Prop):IQ
 | .normal,fr,h=>MvP (fun fr h=>qqj fr h (q2z fun v=>∃ h2,Sub h2 h/\K v h2) rs) fr h
 | .ret,fr,h=>MvP (fun fr h=>qqj fr h (q2z fun v=>∃ h2,Sub h2 h/\K v h2) rs) fr h
 | _,_,_=>False
theorem qwc {fn:Func} {K:V->Hp->Prop} {rs:List qsd} (hres:qdk P fn.results.toList = some rs) {ie:qb3} {fr':Fr} {h':Hp} {n:Nat} {G0 G':qaz} {M0' M':qar} {w0 w1:World} {tm:Array Value} {df:List Deferred} (hq:q85 rs K ie fr' h') (hr0:R (w0.heap.size:BS) n gl G' M' fr' h' ⟨tm,df⟩ w1) (hx0:Ext G0 M0' w0 G' M' w1) {Rr:Ending->World->Prop}
  (hR:∀ rv v h0 G2 M2 w',K v h0->qak G2 M2 v rv->Sim G2 M2 h0 w'->Ext G0 M0' w0 G2 M2 w'->Rr (.returned rv) w'):bodyPostM (FW none) 0 P fn Rr ie.out ⟨tm,df⟩ w1:=by
 obtain ⟨w',hr,hx,hlv⟩:=hr0.leave hx0
 let a':Act:=⟨tm,[]⟩
 have fin:MvP (fun fr h=>qqj fr h (q2z fun v=>∃ h2,Sub h2 h/\K v h2) rs) fr' h'->∃ v,(results fn a'.tmps).run P w' = .ok v w'/\Rr (.returned v) w':=by
  intro hmv;obtain ⟨fr1,h1,G1,M1,hres',hr1,hx1⟩:=MvP.sound hmv hr;obtain ⟨vs,rvs,k1,k2,k3,k4⟩:=qey (P:=P) hr1 hres hres'
  have hone:∃ v r,(∃ h2,Sub h2 h1/\K v h2)/\qak G1 M1 v r/\(results fn a'.tmps).run P w' = .ok r w':=by
   have k5:(fn.results.toList.mapM (fun x=>match x with
     | .tmp t=>pure (a'.tmps.getD t undef)
     | .cell ad t=>do loadVar t (<- asAddr (a'.tmps.getD ad undef)):ResultVar->Sem Value)).run P w' = .ok rvs w':=k4
   have hmap:(fn.results.mapM (fun x=>match x with
     | .tmp t=>pure (a'.tmps.getD t undef)
     | .cell ad t=>do loadVar t (<- asAddr (a'.tmps.getD ad undef)):ResultVar->Sem Value)).run P w' = .ok rvs.toArray w':=by
    rw [<- Array.toArray_toList (xs:=fn.results),List.mapM_toArray];simp only [Sem.run_map,k5,Result.andThen_ok]
   have hrun:(results fn a'.tmps).run P w' = .ok (if h:rvs.toArray.size = 1 then rvs.toArray[0] else .tuple rvs.toArray) w':=by
    unfold results;rw [Sem.run_bind];exact congrArg (fun q:Result (Array Value)=>q.andThen fun vs w=>(pure (if h:vs.size = 1 then vs[0] else .tuple vs):Sem Value).run P w) hmap
   match vs,rvs,k1,k2,k3,hrun with
   | [v],[r],k1,_,k3,hrun=>exact ⟨v,r,k1,k3 0 (by simp),by rw [hrun]; rfl⟩
   | [],[],k1,k2,k3,hrun=>exact ⟨.tup [],_,k1,.tup [] #[] rfl (fun i hi=>by simp at hi),by rw [hrun]; rfl⟩
   | v1 :: v2 :: vs,r1 :: r2 :: rs,k1,k2,k3,hrun=>
    refine ⟨.tup (v1 :: v2 :: vs),.tuple (r1 :: r2 :: rs).toArray,k1,.tup _ _ (by simpa using k2) (fun i hi=>?_),by rw [hrun,dif_neg (by simp)]⟩;have:=k3 i hi;rw [qbq]; exact this
  obtain ⟨v,r,⟨h2,q0,q1⟩,q2,q3⟩:=hone;exact ⟨r,q3,hR r v h2 G1 M1 w' q1 q2 (hr1.weaken (fun _ _ q=>q) q0.spec).sim (hx.trans hx1)⟩
 cases ie with
 | normal=>exact hlv P _ _ fn _ (fin hq)
 | ret=>exact hlv P _ _ fn _ (fin hq)
 | exit id=>exact hq.elim
 | goto l=>exact hq.elim
theorem qa2.of_body {f:FuncId} {fn:Func} {c:Code} {args:List V} {K:V->Hp->Prop} {rs:List qsd} (hf:P.funcs[f]? = some fn) (hb:fn.body = some c) (hname:fn.name ≠ "runtime.NumGoroutine")
  (hargs:args.length≤fn.ntmps) (hres:qdk P fn.results.toList = some rs) (hw:IW P fn.ntmps gl c (q85 rs K) (qq5 0 args) h):qa2 P gl f args h K:=by
 refine ⟨by simp [qbt,hf,hb,hname],fun G M w rargs hs hgl hsz hrel=>?_⟩;refine qeo.1 (callsIn_of_wp_marks (F:=FW none) (n:=0) hf hb trivial (wpIn_mono (hw none w.heap.size (fun h=>nomatch h) G M _ w ⟨hs,fun t v ht=>?_,by simp; omega,.nil _ _ _,hgl,jki _⟩) ?_))
 ·obtain ⟨-,h2,h3⟩:=qmr args 0 t v ht;rw [Nat.sub_zero] at h2 h3
  have:(rargs ++ Array.replicate (fn.ntmps - rargs.size) undef).getD t undef = rargs.getD t undef:=by
   simp only [jke,Array.getElem?_append];rw [if_pos (by omega)]
  rw [this,<- h3]; exact hrel t h2
 ·rintro e ⟨tm,df⟩ w1 ⟨ie,G',M',fr',h',rfl,hq,hr0,hx0⟩;exact qwc hres hq hr0 hx0 fun rv v h0 G2 M2 w' q1 q2 q3 q4=>⟨rv,v,h0,G2,M2,rfl,q1,q2,q3,q4⟩
theorem jjr {f:FuncId} {args:List V} {K:V->Hp->Prop} (hc:qa2 P gl f args [] K):qce P gl f args K:=
 ⟨hc.1,fun G w rargs hg hgl hsz hrel=>hc.2 G M0 w rargs ⟨hg,fun b k hk=>(by simp [lk] at hk),fun b b' mb mb' rb h1=>(by cases h1),fun b mb rb h1=>(by cases h1)⟩ hgl hsz hrel⟩
end
end
section
open Go
def qnj (P:Program) (gl:Fr) (n:Nat) (ops:Array Oper) (gm:Nat->Nat) (i:Nat) (o:Oper) (F:FF) (H:HH) (rd:Nat->Prop) (al ex:Option Nat) (v:V) (W:Hp):Prop:=
 ∀ {bs:BS} {fr:Fr} {h:Hp} {G:qaz} {M:qar} {a:Act} {w:World} {Q:Exit->Act->World->Prop} {K':Act->World->Prop},R bs n gl G M fr h a w->(∀ t ∈ o.looksAt ops,lk fr t = F t)->(∀ b,rd b->lk h b = H b)->(∀ b,ofT al b->rd b->lk h b = none->qaa M b = gm b)->
  (∀ rv G' M' w',R bs n gl G' M' (qk5 fr o.dst v) (W ++ h) (a.put o.dst rv) w'->Ext G M w G' M' w'->(∀ b,¬ ofT ex b->lk h b = none->qaa M' b = qaa M b)->K' (a.put o.dst rv) w')->wpOp P ops Q i K' a w
section
variable {P:Program} {gl:Fr} {bs:BS} {n:Nat} {ops:Array Oper} {gm:Nat->Nat} {vs:Nat->V} {Ws:Nat->Hp} {rd:Nat->Nat->Prop} {al ex:Nat->Option Nat} {F0:FF} {H0:HH}
theorem qwu {α:Type} {D:Nat->List (Nat × α)} {F0:Nat->Option α} {b:Nat}:∀ k,st D qe2 F0 k b = none->∀ j,j < k->lk (D j) b = none
 | 0,_,j,hj=>by omega
 | k + 1,h,j,hj=>by
  have h:ov (D k) (st D qe2 F0 k) b = none:=h;unfold ov at h;split at h
  ·cases h
  ·rename_i hn;by_cases hjk:j = k
   ·subst hjk; exact hn
   ·exact qwu k h j (by omega)
theorem q3g (hback:qnr ops = true)
  (hy:∀ i o,ops[i]? = some o->qnj P gl n ops gm i o (st (Dv ops vs) qe2 F0 i) (st Ws qe2 H0 i) (rd i) (al i) (ex i) (vs i) (Ws i))
  (hslot:∀ i j oi oj,i < j->ops[i]? = some oi->ops[j]? = some oj->bd (qjn ops.toList []) i j = false->qpl ops oi oj)
  (hheap:∀ i j,i < j->j < ops.size->bd (qjn ops.toList []) i j = false->qpi (Ws i) (Ws j) (rd i) (rd j))
  (hal2:∀ i j b,i ≠ j->i < ops.size->j < ops.size->ofT (al i) b->¬ ofT (ex j) b) {Q:Exit->Act->World->Prop} {G0:qaz} {M0':qar} {w0:World}
  (hfin:∀ fr' h' G' M' a' w',lk fr' = st (Dv ops vs) qe2 F0 ops.size->lk h' = st Ws qe2 H0 ops.size->R bs n gl G' M' fr' h' a' w'->Ext G0 M0' w0 G' M' w'->Q .normal a' w') :
  ∀ (fuel:Nat) (listed:Array Bool) (fr:Fr) (h:Hp) (G:qaz) (M:qar) (a:Act) (w:World),listed.size = ops.size->(∀ x y,listed.getD x false = true->qt4 ops x y = true->listed.getD y false = true)->
   lk fr = st (Dv ops vs) (fun j=>listed.getD j false) F0 ops.size->lk h = st Ws (fun j=>listed.getD j false) H0 ops.size->R bs n gl G M fr h a w->Ext G0 M0' w0 G M w->
   (∀ i,i < ops.size->listed.getD i false = false->∀ b,ofT (al i) b->rd i b->st Ws qe2 H0 i b = none->qaa M b = gm b/\lk h b = none)->unl ops.size listed≤fuel->wpAny P .any ops Q fuel listed a w:=by
 have done:∀ (listed:Array Bool) (fr:Fr) (h:Hp) (G:qaz) (M:qar) (a:Act) (w:World),listed.size = ops.size->(∀ i,i < ops.size->listed.getD i true = true)->
   lk fr = st (Dv ops vs) (fun j=>listed.getD j false) F0 ops.size->lk h = st Ws (fun j=>listed.getD j false) H0 ops.size->R bs n gl G M fr h a w->Ext G0 M0' w0 G M w->Q .normal a w:=by
  intro listed fr h G M a w hs hal hf hh hr hx
  have hl:∀ j,j < ops.size->qe2 j = (fun j=>listed.getD j false) j:=fun j hj=>by
   have:=hal j hj;have hjs:j < listed.size:=by omega
   simp [hjs] at this;simp [qe2,hjs,this]
  exact hfin fr h G M a w (by rw [hf,qgi ops.size hl]) (by rw [hh,qgi ops.size hl]) hr hx
 intro fuel
 induction fuel with
 | zero=>
  intro listed fr h G M a w hs hdc hf hh hr hx hfi hu;have hall:=qr7 (by omega:unl ops.size listed = 0);refine ⟨?_,done listed fr h G M a w hs hall hf hh hr hx⟩
  cases hrd:Region.ready .any ops listed with
  | nil=>rfl
  | cons i r=>
   have hm:i ∈ Region.ready .any ops listed:=by rw [hrd]; exact List.mem_cons_self
   obtain ⟨h1,o,h2,-⟩:=mem_ready.1 hm;rw [hall i (Array.getElem?_eq_some_iff.1 h2).1] at h1; cases h1
 | succ fuel ihf=>
  intro listed fr h G M a w hs hdc hf hh hr hx hfi hu;refine ⟨fun hn=>?_,fun i hir=>?_⟩
  ·refine done listed fr h G M a w hs (fun i hi'=>?_) hf hh hr hx
   cases hl:listed.getD i true with
   | true=>rfl
   | false=>exact absurd hn (qry hback hs hi' hl)
  ·obtain ⟨hun,o,ho,hall⟩:=mem_ready.1 hir;have his:i < ops.size:=(Array.getElem?_eq_some_iff.1 ho).1;have hil:i < listed.size:=by omega
   have hunf:listed.getD i false = false:=by
    simp [hil] at hun;simp [hil,hun]
   have hpre:∀ y,qt4 ops i y = true->listed.getD y false = true:=fun y hy'=>qjp hir hy';have below:∀ j,bd (qjn ops.toList []) j i = true->listed.getD j false = true:=fun j hb=>qmb hb (fun x=>listed.getD x false = true) hdc hpre
   have above:∀ j,listed.getD j false = true->bd (qjn ops.toList []) i j = false:=by
    intro j hj
    cases hb:bd (qjn ops.toList []) i j with
    | false=>rfl
    | true=>
     have:=qmb hb (fun x=>listed.getD x false = true) hdc (fun y hy'=>hdc j y hj hy');rw [hunf] at this; cases this
   have hdv:∀ j,Dv ops vs j = match ops[j]? with | some oj=>dD oj.dst (vs j) | none=>[]:=fun j=>rfl
   have hset:∀ j,j ≠ i->(listed.setIfInBounds i true).getD j false = listed.getD j false:=fun j hj=>getD_set_ne false (Ne.symm hj);have hseti:(listed.setIfInBounds i true).getD i false = true:=by simp [hil]
   have hreads:∀ b,rd i b->lk h b = st Ws qe2 H0 i b:=by
    intro b hb;rw [hh];rw [qdm (i:=i) ops.size (by omega) fun j h1 h2 h3=>?_]
    ·refine qht i fun j hj h3=>?_
     cases hb':bd (qjn ops.toList []) j i with
     | true=>exact below j hb'
     | false=>exact absurd ((hheap j i hj his hb').wr b hb) h3
    ·cases hl:listed.getD j false with
     | false=>rfl
     | true=>
      have hji:i ≠ j:=fun e=>by rw [<- e,hunf] at hl; cases hl
      exact absurd ((hheap i j (by omega) h2 (above j hl)).rw b hb) h3
   refine hy i o ho hr (fun t ht=>?_) hreads (fun b hb hbr hn=>(hfi i his hunf b hb hbr (by rw [<- hreads b hbr]; exact hn)).1) (fun rv G' M' w' hr' hx' hf'=>?_)
   ·rw [hf];rw [qdm (i:=i) ops.size (by omega) fun j h1 h2 h3=>?_]
    ·refine qht i fun j hj h3=>?_;have hoj:ops[j]? = some ops[j]:=Array.getElem?_eq_getElem (by omega);rw [hdv,hoj] at h3;have hd:=qgb h3
     cases hb:bd (qjn ops.toList []) j i with
     | true=>exact below j hb
     | false=>exact absurd hd ((hslot j i _ _ hj hoj ho hb).xy t ht)
    ·have hoj:ops[j]? = some ops[j]:=Array.getElem?_eq_getElem h2;rw [hdv,hoj] at h3;have hd:=qgb h3
     cases hl:listed.getD j false with
     | false=>rfl
     | true=>
      have hji:i ≠ j:=fun e=>by rw [<- e,hunf] at hl; cases hl
      exact absurd hd ((hslot i j _ _ (by omega) ho hoj (above j hl)).yx t ht)
   ·refine ihf (listed.setIfInBounds i true) _ _ G' M' _ w' (by simpa using hs) ?_ ?_ ?_ hr' (hx.trans hx') ?_ ?_
    ·intro x y h1 h2;by_cases hy':y = i
     ·subst hy'; exact hseti
     ·rw [hset y hy'];by_cases hxi:x = i
      ·subst hxi; exact hpre y h2
      ·rw [hset x hxi] at h1; exact hdc x y h1 h2
    ·rw [qqg,qcd,hf];have:dD o.dst (vs i) = Dv ops vs i:=by rw [hdv,ho]
     rw [this];refine (qo8 (L:=fun j=>listed.getD j false) hunf hseti hset ops.size his fun j h1 h2 h3 t=>?_).symm;have hoj:ops[j]? = some ops[j]:=Array.getElem?_eq_getElem h2;have hI:=hslot i j _ _ h1 ho hoj (above j h3);rw [hdv,hdv,ho,hoj];by_cases hd:o.dst = some t
     ·exact .inr (qvc (hI.dd t hd))
     ·exact .inl (qvc hd)
    ·rw [qcd,hh];exact (qo8 (L:=fun j=>listed.getD j false) hunf hseti hset ops.size his fun j h1 h2 h3 t=>(hheap i j h1 h2 (above j h3)).ww t).symm
    ·intro j hjs hj b hb hbr hn;have hji:j ≠ i:=fun e=>by rw [e,hseti] at hj; cases hj
     rw [hset j hji] at hj;obtain ⟨f1,f2⟩:=hfi j hjs hj b hb hbr hn;refine ⟨(hf' b (fun hc=>hal2 j i b hji hjs his hb hc) f2).trans f1,?_⟩;rw [qcd,qqc ?_]
     ·exact f2
     ·rcases Nat.lt_or_ge i j with hij | hij
      ·exact qwu j hn i hij
      ·have hnb:bd (qjn ops.toList []) j i = false:=by
        cases hb':bd (qjn ops.toList []) j i with
        | false=>rfl
        | true=>have:=below j hb'; rw [hj] at this; cases this
       exact (hheap j i (by omega) his hnb).rw b hbr
    ·have:=qw1 hs his hun;omega
end
abbrev Fps:=List (List Nat × List Nat)
def qbn (o:Option Y) (K:V->Hp->List Nat->Prop):Prop:=match o with
 | some y=>K y.1 y.2.1 y.2.2
 | none=>False
def gB (want:Bool) (A B:Unit->Prop):Option V->Prop
 | some (.bool b)=>if b = want then A () else B ()
 | some (.tup [])=>B ()
 | _=>False
def gF (fr:Fr) (A B:Unit->Prop):Option (Nat × Bool)->Prop
 | none=>A ()
 | some (t,want)=>gB want A B (lk fr t)
def qxh (P:Program) (gl:Fr) (f:FuncId) (args:List V) (h:Hp) (res:V):Prop:=
 (jid args = true/\qac P gl f args res)∨∃ m,qac P gl f (args.map (frz h m)) res/\res.scalar = true
def w2l:Option V->Option (List V)->(V->List V->Prop)->Prop
 | some v,some u,K=>K v u
 | _,_,_=>False
def gfG (gm:Nat->Nat) (H:HH) (b:Nat):Nat:=match H b with
 | some (.row g _ _)=>g + 1
 | some (.map g _)=>g + 1
 | some (.siter g _ _)=>g + 1
 | some (.loop g ..)=>g + 1
 | some (.dead g)=>g + 1
 | some (.miter g ..)=>g + 1
 | none=>gm b
def kRd (pu:Bool) (id:Option Nat) (K:V->Hp->List Nat->Prop) (v:V) (W:Hp) (rd:List Nat):Prop:=K v W (bif pu then rd else id.toList ++ rd)
inductive qd1 (P:Program) (gl:Fr) (gm:Nat->Nat) (d:Option Nat) (f:FuncId) (args:List V) (h:Hp):V->Hp->List Nat->Prop
 | pure {res:V} (hc:qac P gl f args res) (hp:jid args = true):qd1 P gl gm d f args h res [] d.toList
 | borrow {res:V} {args':List V} (m:Nat) (hc:qac P gl f args' res) (ha:args.map (frz h m) = args') (hsc:res.scalar = true):qd1 P gl gm d f args h res [] (d.toList ++ h.map (·.1))
 | own {b sz:Nat} {xs:List V} {cap:Option Nat} (hc:qce P gl f args (qxg sz xs cap)) (hp:jid args = true) (hx:jid xs = true) (hd:d = some b) :
   qd1 P gl gm d f args h (.ref b (gfG gm (lk h) b) 0 xs.length cap) [(b,.row (gfG gm (lk h) b) sz xs)] d.toList
 | ownb {b sz:Nat} {xs args':List V} {cap:Option Nat} (m:Nat) (hc:qce P gl f args' (qxg sz xs cap)) (ha:args.map (frz h m) = args') (hx:jid xs = true) (hn:jih xs = true) (hd:d = some b) :
   qd1 P gl gm d f args h (.ref b (gfG gm (lk h) b) 0 xs.length cap) [(b,.row (gfG gm (lk h) b) sz xs)] (d.toList ++ h.map (·.1))
 | ownv {b sz:Nat} {xs pre post args':List V} (m:Nat) (hc:qce P gl f args' (OneA pre post sz xs)) (ha:args.map (frz h m) = args') (hx:jid xs = true) (hn:jih xs = true) (h1:jid pre = true) (h2:jid post = true) (h3:jih pre = true) (h4:jih post = true) (hd:d = some b) :
   qd1 P gl gm d f args h (mkA pre post (.ref b (gfG gm (lk h) b) 0 xs.length none)) [(b,.row (gfG gm (lk h) b) sz xs)] (d.toList ++ h.map (·.1))
 | own2 {b s0 s1:Nat} {xs ys:List V} {c0 c1:Option Nat} (hc:qce P gl f args (TwoB s0 s1 xs ys c0 c1)) (hp:jid args = true) (hx:jid xs = true) (hy:jid ys = true) (hd:d = some b) :
   qd1 P gl gm d f args h (.agg [.ref b (gfG gm (lk h) b) 0 xs.length c0,.ref (b + 1000000) (gfG gm (lk h) (b + 1000000)) 0 ys.length c1]) [(b,.row (gfG gm (lk h) b) s0 xs),(b + 1000000,.row (gfG gm (lk h) (b + 1000000)) s1 ys)] [b,b + 1000000]
 | purn {res:V} {args':List V} (m:Nat) (hc:qce P gl f args' (fun v h'=>v = res/\h' = [])) (ha:args.map (frz h m) = args') (hp:res.pure = true) (hn:res.noG = true):qd1 P gl gm d f args h res [] (d.toList ++ h.map (·.1))
 | frzn {res:V} {args':List V} {K0:V->Hp->Prop} (m m2:Nat) (hc:qce P gl f args' K0) (ha:args.map (frz h m) = args')
   (hn:∀ v h',K0 v h'->v.noG = true/\(∀ b k,lk h' b = some k->k.noG = true)/\∀ G M r,qak G M (frz h' m2 v) r->qak G M res r):qd1 P gl gm d f args h res [] (d.toList ++ h.map (·.1))
 | lend {res:V} {W h0:Hp} {K0:V->Hp->Prop} (D:List Nat) (hc:qa2 P gl f args h0 K0) (ha:jil D args = true) (hs0:Sub h0 h) (hi:qd8 D h0 = true) (hk:∀ v hh,K0 v hh->v = res/\hh = W) (hp:V.inB D res = true) (hw:qd8 D W = true) (hg:qu3 h0 W = true)
   (hD:(D.all fun b=>(lk W b).isSome) = true):qd1 P gl gm d f args h res W (d.toList ++ D)
def qrb (P:Program) (gl:Fr) (gm:Nat->Nat) (d:Option Nat) (h:Hp) (K:V->Hp->List Nat->Prop):V->List V->Prop
 | .fn g fst cap,vs=>∃ res W rd,qd1 P gl gm d g (fst ++ vs ++ cap) h res W rd/\K res W rd
 | _,_=>False
def dopW (P:Program) (gl:Fr) (gm:Nat->Nat) (id:Option Nat) (fr:Fr) (h:Hp) (K:V->Hp->List Nat->Prop) (op:IOp):Prop:=
 match qcr op with
 | some (f,as)=>w2l (ev gl fr f) (evs gl fr as) (qrb P gl gm id h K)
 | none=>qbn (eop gl (gfG gm (lk h)) (id.getD 999999) (lk fr) (lk h) op) (kRd (qah op) id K)
def qqn (acc:Fps) (ks:List Nat) (rd:List Nat):Fps:=acc ++ [(ks,rd)]
def kD (I:Fr->Hp->Fps->(Fr->Hp->Fps->Prop)->Prop) (dst:Option Nat) (fr:Fr) (h:Hp) (acc:Fps) (K:Fr->Hp->Fps->Prop) (v:V) (W:Hp) (rd:List Nat):Prop:=I (qk5 fr dst v) (W ++ h) (qqn acc (W.map (·.1)) rd) K
def kU (I:Fr->Hp->Fps->(Fr->Hp->Fps->Prop)->Prop) (o:qa4) (fr:Fr) (h:Hp) (acc:Fps) (K:Fr->Hp->Fps->Prop) (_:Unit):Prop:=I (qk5 fr o.dst (.tup [])) h (qqn acc [] (qkx o).toList) K
def qfi (P:Program) (gl:Fr) (gm:Nat->Nat) (id:Option Nat) (fr:Fr) (h:Hp) (K:V->Hp->List Nat->Prop) (op:IOp) (_:Unit):Prop:=dopW P gl gm id fr h K op
def qh0 (P:Program) (gl:Fr) (gm:Nat->Nat):List qa4->Fr->Hp->Fps->(Fr->Hp->Fps->Prop)->Prop
 | [],fr,h,acc,K=>K fr h acc
 | o :: r,fr,h,acc,K=>gF fr (qfi P gl gm o.dst fr h (kD (qh0 P gl gm r) o.dst fr h acc K) o.op) (kU (qh0 P gl gm r) o fr h acc K) o.guard
section
variable {P:Program} {gl:Fr} {bs:BS} {n:Nat} {ops:Array Oper} {gm:Nat->Nat}
theorem qoq {o:Option Y} {K:V->Hp->List Nat->Prop} (h:qbn o K):∃ y,o = some y/\K y.1 y.2.1 y.2.2:=by
 cases o with
 | none=>exact h.elim
 | some y=>exact ⟨y,rfl,h⟩
theorem qxh.calls {f:FuncId} {args:List V} {h:Hp} {res:V} (hp:qxh P gl f args h res) {h':Hp} (hh:∀ b,b ∈ h.map (·.1)->lk h' b = lk h b) {G:qaz} {M:qar} {w:World} (hs:Sim G M h' w) (hgl:qdy G gl) {rargs:Array Value} (hsz:rargs.size = args.length)
  (hr:∀ i,i < args.length->qak G M (args.getD i .undef) (rargs.getD i undef)):qbt P f = true/\Calls P f rargs w fun e w'=>∃ rv,e = .returned rv/\∃ G',qak G' M res rv/\Sim G' M h' w'/\Ext G M w G' M w':=by
 rcases hp with ⟨hpu,hc⟩ | ⟨m,hc,hsc⟩
 ·refine ⟨hc.1,Calls.mono (hc.2 G w rargs hs.gw hgl hsz fun i hi=>(hr i hi).pure M0 (jie hpu i)) ?_⟩;rintro e w' ⟨rv,G',rfl,hv,hg,hx⟩;obtain ⟨s1,s2⟩:=hs.after hg hx;exact ⟨rv,rfl,G',hv.mono G'.le_refl (fun _ _ h=>by cases h),s1,s2⟩
 ·refine ⟨hc.1,?_⟩;have hs0:Sim G M h w:=⟨hs.gw,fun b k hb=>hs.hb b k (by rw [hh b (lk_mem hb)]; exact hb),hs.inj,hs.mlt⟩
  let Gf:qaz:=fun k=>match w.heap[k]? with
   | some (.cells c _ _)=>some c
   | _=>none
  have hGf:G.le Gf:=fun k c hk=>by
   obtain ⟨ty,fz,he⟩:=hs.gw k c hk;simp [Gf,he]
  have hin:GIn Gf w:=fun k c hk=>by
   simp only [Gf] at hk;split at hk
   ·rename_i c' ty fz he; cases hk; exact ⟨ty,fz,he⟩
   ·cases hk
  have hfr:=qfu hs0 hGf (fun b mb rb arr ty fz _ _ he=>by simp [Gf,he]) m
  refine Calls.mono (hc.2 Gf w rargs hin (hgl.mono hGf) (by simpa using hsz) fun i hi=>by
   have hi':i < args.length:=by simpa using hi
   rw [qco _ _ _ _ hi']; exact hfr _ _ (hr i hi')) ?_
  rintro e w' ⟨rv,G',rfl,hv,hg,hx⟩;have hkeep:∀ k,k < w.heap.size->w'.heap[k]? = w.heap[k]?:=fun k hk=>hx.keep k hk (qbc k)
  have hgin:GIn G w':=fun k c hk=>by
   obtain ⟨ty,fz,he⟩:=hs.gw k c hk;exact ⟨ty,fz,by rw [hkeep k (Array.getElem?_eq_some_iff.1 he).1]; exact he⟩
  have hext:Ext G M0 w G M0 w':=⟨G.le_refl,fun _ _ h=>.inl h,qar.le_refl _,fun _ h=>.inr h,hx.os,hx.tape,hx.output,hx.size,hx.keep⟩;obtain ⟨s1,s2⟩:=hs.after hgin hext;exact ⟨rv,rfl,G,hv.scalar G M hsc,s1,s2⟩
where
 lk_mem {h:Hp} {b:Nat} {k:Blk} (hb:lk h b = some k):b ∈ h.map (·.1):=by
  induction h with
  | nil=>simp [lk] at hb
  | cons p r ih=>
   obtain ⟨q,v⟩:=p;simp only [lk] at hb;split at hb
   ·rename_i he; simp [he]
   ·simp [ih hb]
theorem qsy {gl:Fr} {F F':FF} {H H':HH} {gf gf':Nat->Nat} {id:Nat} {io:IOp} (hl:qhk io = true) (hF:∀ t ∈ io.slots,F' t = F t) {y:Y} (he:eop gl gf id F H io = some y) (hH:∀ b ∈ y.2.2,H' b = H b) (hgr:∀ b ∈ y.2.2,∀ k,H b = some k->gf' b = gf b):eop gl gf' id F' H' io = some y:=by
 have e1:=qer hF he hH (gf':=fun b=>if b = id then gf id else gf' b) (by simp) (fun b hb k hk=>by
  by_cases hbi:b = id
  ·subst hbi; simp
  ·simp [hbi]; exact hgr b hb k hk)
 cases io <;> simp only [qhk,Bool.false_eq_true] at hl
 case store m x z=>exact e1
 case n x=>
  cases x <;> simp only [qoj,Bool.false_eq_true] at hl
  ·exact e1
  ·exact e1
  ·exact e1
structure q3s (P:Program) (gl:Fr) (n:Nat) (ops:Array Oper) (gm:Nat->Nat) (lo:List Oper) (lx:List qa4) (fr:Fr) (h:Hp) (fr':Fr) (h':Hp) (fps:Fps) (vs:Nat->V) (Ws:Nat->Hp) (rd:Nat->List Nat):Prop where
 efr:lk fr' = st (DvL lo vs) qe2 (lk fr) lo.length
 eh:lk h' = st Ws qe2 (lk h) lo.length
 len:fps.length = lo.length
 fp:∀ i,i < lo.length->fps.getD i ([],[]) = ((Ws i).map (·.1),rd i)
 pure:∀ i x,lx[i]? = some x->(qah x.op = true->Ws i = [])/\(qei x.op = false->Ws i = []/\rd i = [])
 y:∀ i o x,lo[i]? = some o->lx[i]? = some x->∀ j,ops[j]? = some o->qnj P gl n ops gm j o (st (DvL lo vs) qe2 (lk fr) i) (st Ws qe2 (lk h) i) (fun b=>b ∈ rd i) (qkx x) (qtv x) (vs i) (Ws i)
theorem q3s.cons {o:Oper} {x:qa4} {lo:List Oper} {lx:List qa4} {fr fr':Fr} {h h':Hp} {fps:Fps} {vs:Nat->V} {Ws:Nat->Hp} {rd:Nat->List Nat} {v:V} {W:Hp} {r:List Nat}
  (d:q3s P gl n ops gm lo lx (qk5 fr o.dst v) (W ++ h) fr' h' fps vs Ws rd) (hp:(qah x.op = true->W = [])/\(qei x.op = false->W = []/\r = []))
  (hy:∀ j,ops[j]? = some o->qnj P gl n ops gm j o (lk fr) (lk h) (fun b=>b ∈ r) (qkx x) (qtv x) v W) :
  q3s P gl n ops gm (o :: lo) (x :: lx) fr h fr' h' ((W.map (·.1),r) :: fps) (shift v vs) (shift W Ws) (shift r rd):=by
 have eD:(fun i=>DvL (o :: lo) (shift v vs) (i + 1)) = DvL lo vs:=by funext i; simp [DvL,shift]
 have eW:(fun i=>shift W Ws (i + 1)) = Ws:=by funext i; rfl
 have e0:DvL (o :: lo) (shift v vs) 0 = dD o.dst v:=by simp [DvL,shift]
 have sF:∀ k,st (DvL (o :: lo) (shift v vs)) qe2 (lk fr) (k + 1) = st (DvL lo vs) qe2 (lk (qk5 fr o.dst v)) k:=fun k=>by rw [qhu,eD,e0,qqg,qcd]
 have sH:∀ k,st (shift W Ws) qe2 (lk h) (k + 1) = st Ws qe2 (lk (W ++ h)) k:=fun k=>by rw [qhu,eW,qcd]; rfl
 refine ⟨by rw [List.length_cons,sF]; exact d.efr,by rw [List.length_cons,sH]; exact d.eh,by simp [d.len],fun i hi=>?_,fun i x' hx'=>?_,fun i o' x' ho' hx' j hj=>?_⟩
 ·cases i with
  | zero=>rfl
  | succ i=>simpa [shift] using d.fp i (by simpa using hi)
 ·cases i with
  | zero=>simp at hx'; subst hx'; exact hp
  | succ i=>exact d.pure i x' (by simpa using hx')
 ·cases i with
  | zero=>
   simp at ho' hx'; subst ho'; subst hx';intro bs fr h G M a w Q K' h1 h2 h3 h4 h5;exact hy j hj h1 h2 h3 h4 h5
  | succ i=>
   rw [sF,sH];intro bs fr h G M a w Q K' h1 h2 h3 h4 h5;exact d.y i o' x' (by simpa using ho') (by simpa using hx') j hj h1 h2 h3 h4 h5
theorem q0l {fr:Fr} {A B:Unit->Prop} {g:Option (Nat × Bool)} (h:gF fr A B g):(xgd (lk fr) g = some true/\A ())∨(xgd (lk fr) g = some false/\B ()):=by
 cases g with
 | none=>exact .inl ⟨rfl,h⟩
 | some p=>
  obtain ⟨t,want⟩:=p;simp only [gF] at h;simp only [xgd]
  cases ht:lk fr t with
  | none=>rw [ht] at h; exact h.elim
  | some v=>
   rw [ht] at h
   cases v with
   | bool b=>
    simp only [gB] at h;by_cases hb:b = want
    ·rw [if_pos hb] at h; subst hb; exact .inl ⟨by simp,h⟩
    ·rw [if_neg hb] at h; exact .inr ⟨by simp [hb],h⟩
   | tup vs=>
    cases vs with
    | nil=>exact .inr ⟨rfl,h⟩
    | cons v vs=>exact h.elim
   | _=>exact h.elim
theorem qqz (hops:∀ d,(∃ o,o ∈ ops.toList/\o.dst = some d)->d < n) {i:Nat} {o:Oper} (ho:ops[i]? = some o) {x:qa4} (hx:qgm P n ops o = some x) {F:FF} {H:HH} (hg:xgd F x.guard = some false) {rd:Nat->Prop} {al ex:Option Nat} :
  qnj P gl n ops gm i o F H rd al ex (.tup []) []:=by
 intro bs fr h G M a w Q K' hr hF hH hid hk;obtain ⟨c1,c2,c3,c4⟩:=qbr hx;unfold wpOp;simp only [ho];rw [qa6 hops hr c2 hF hg,if_neg (by simp)];exact hk undef G M w (hr.put c4 (.tup [] #[] rfl (fun i hi=>by simp at hi)) hr.sim (.refl _ _ _)) (.refl _ _ _) (fun _ _ _=>rfl)
theorem qj5 {_fr:Fr} {h:Hp} {G:qaz} {M:qar} {w:World} (hs:Sim G M h w) {H:HH} {b:Nat} {k:Blk} (hb:lk h b = some k) (hH:H b = some k):qaa M b = gfG gm H b:=by
 have hk:=hs.hb b k hb;simp only [gfG,hH]
 cases k with
 | row g sz es=>obtain ⟨mb,h1,h2,-⟩:=hk; simp [qaa,h1,h2]
 | map g es=>obtain ⟨mb,rb,h1,h2,-⟩:=hk; simp [qaa,h1,h2]
 | siter g s pos=>obtain ⟨mb,rb,h1,h2,-⟩:=hk; simp [qaa,h1,h2]
 | loop=>obtain ⟨mb,rb,h1,h2,-⟩:=hk; simp [qaa,h1,h2]
 | miter=>obtain ⟨mb,rb,h1,h2,-⟩:=hk; simp [qaa,h1,h2]
 | dead=>obtain ⟨mb,h1,h2⟩:=hk; simp [qaa,h1,h2]
theorem q2g {h:Hp} {b:Nat} {k:Blk} (hb:lk h b = some k):b ∈ h.map (·.1):=by
 induction h with
 | nil=>simp [lk] at hb
 | cons p r ih=>
  obtain ⟨q,v⟩:=p;simp only [lk] at hb;split at hb
  ·rename_i he; simp [he]
  ·simp [ih hb]
theorem qd1.calls {d:Option Nat} {f:FuncId} {args:List V} {h:Hp} {res:V} {W:Hp} {rd:List Nat} (hp:qd1 P gl gm d f args h res W rd) {h':Hp} (hh:∀ b,b ∈ rd->lk h' b = lk h b) {G:qaz} {M:qar} {w:World} (hal:∀ b,ofT d b->b ∈ rd->lk h' b = none->qaa M b = gm b)
  (hs:Sim G M h' w) (hgl:qdy G gl) {rargs:Array Value} (hsz:rargs.size = args.length) (hr:∀ i,i < args.length->qak G M (args.getD i .undef) (rargs.getD i undef)) :
  qbt P f = true/\Calls P f rargs w fun e w'=>∃ rv,e = .returned rv/\∃ G' M',qak G' M' res rv/\Sim G' M' (W ++ h') w'/\Ext G M w G' M' w'/\∀ b,¬ ofT d b->qaa M' b = qaa M b:=by
 have hgen:∀ b,ofT d b->b ∈ rd->qaa M b = gfG gm (lk h) b:=by
  intro b hd hb;have e:=hh b hb
  cases hk:lk h b with
  | none=>rw [hk] at e; simp only [gfG,hk]; exact hal b hd hb e
  | some k=>rw [hk] at e; exact qj5 (_fr:=[]) hs e hk
 have hsub:∀ (_:∀ b,b ∈ h.map (·.1)->lk h' b = lk h b),Sim G M h w:=fun hq=>⟨hs.gw,fun b k hb=>hs.hb b k (by rw [hq b (q2g hb)]; exact hb),hs.inj,hs.mlt⟩
 cases hp with
 | pure hc hpu=>
  obtain ⟨q1,q2⟩:=qxh.calls (h:=[]) (.inl ⟨hpu,hc⟩) (fun b hb=>by simp at hb) hs hgl hsz hr;refine ⟨q1,Calls.mono q2 ?_⟩;rintro e w' ⟨rv,rfl,G',m1,m2,m3⟩;exact ⟨rv,rfl,G',M,m1,m2,m3,fun _ _=>rfl⟩
 | borrow m hc ha hsc=>
  subst ha;obtain ⟨q1,q2⟩:=qxh.calls (h:=h) (.inr ⟨m,hc,hsc⟩) (fun b hb=>hh b (List.mem_append.2 (.inr hb))) hs hgl hsz hr;refine ⟨q1,Calls.mono q2 ?_⟩;rintro e w' ⟨rv,rfl,G',m1,m2,m3⟩;exact ⟨rv,rfl,G',M,m1,m2,m3,fun _ _=>rfl⟩
 | own hc hpu hx hd=>
  rename_i b sz xs cap;subst hd;refine ⟨hc.1,Calls.mono (hc.2 G w rargs hs.gw hgl hsz fun i hi=>(hr i hi).pure M0 (jie hpu i)) ?_⟩;rintro e w' ⟨rv,v,h1,G',M',rfl,⟨g,rfl,rfl⟩,hv,hs',hxx⟩;obtain ⟨M2,m1,m2,m3,m4⟩:=qos b hs hx hv hs' hxx;rw [hgen b ⟨b,rfl,.inl rfl⟩ (by simp)] at m1 m2;exact ⟨rv,rfl,G',M2,m1,m2,m3,fun b' hb'=>m4 b' fun e=>hb' ⟨_,rfl,.inl e⟩⟩
 | ownb m hc ha hx hn hd=>
  rename_i b sz xs args' cap;subst hd ha;have hs0:=hsub fun b hb=>hh b (List.mem_append.2 (.inr hb));refine ⟨hc.1,Calls.mono (qex m hc hs0 hgl hsz hr ?_) ?_⟩
  ·rintro v h1 ⟨g,rfl,rfl⟩;refine ⟨rfl,fun b' k hk=>?_⟩;simp only [lk] at hk;split at hk
   ·cases hk; exact hn
   ·cases hk
  ·rintro e w' ⟨rv,v,h1,M',rfl,⟨g,rfl,rfl⟩,hv,hs',hxx⟩;obtain ⟨M2,m1,m2,m3,m4⟩:=qos b hs hx hv hs' hxx;rw [hgen b ⟨b,rfl,.inl rfl⟩ (by simp)] at m1 m2;exact ⟨rv,rfl,G,M2,m1,m2,m3,fun b' hb'=>m4 b' fun e=>hb' ⟨_,rfl,.inl e⟩⟩
 | ownv m hc ha hx hn p1 p2 p3 p4 hd=>
  rename_i b sz xs pre post args';subst hd ha;have hs0:=hsub fun b hb=>hh b (List.mem_append.2 (.inr hb));refine ⟨hc.1,Calls.mono (qex m hc hs0 hgl hsz hr ?_) ?_⟩
  ·rintro v h1 ⟨g,cap,rfl,rfl⟩;refine ⟨q2n p3 p4 rfl,fun b' k hk=>?_⟩;simp only [lk] at hk;split at hk
   ·cases hk; exact hn
   ·cases hk
  ·rintro e w' ⟨rv,v,h1,M',rfl,⟨g,cap,rfl,rfl⟩,hv,hs',hxx⟩;obtain ⟨M2,m1,m2,m3,m4⟩:=qs7 b hs hx p1 p2 hv hs' hxx;rw [hgen b ⟨b,rfl,.inl rfl⟩ (by simp)] at m1 m2;exact ⟨rv,rfl,G,M2,m1,m2,m3,fun b' hb'=>m4 b' fun e=>hb' ⟨_,rfl,.inl e⟩⟩
 | own2 hc hpu hx hy hd=>
  rename_i b s0 s1 xs ys c0 c1;subst hd;refine ⟨hc.1,Calls.mono (hc.2 G w rargs hs.gw hgl hsz fun i hi=>(hr i hi).pure M0 (jie hpu i)) ?_⟩;rintro e w' ⟨rv,v,h1,G',M',rfl,⟨g,g2,rfl,rfl⟩,hv,hs',hxx⟩;obtain ⟨M2,m1,m2,m3,m4⟩:=qv0 b (b + 1000000) (by omega) hs hx hy hv hs' hxx;rw [hgen b ⟨b,rfl,.inl rfl⟩ (by simp),hgen (b + 1000000) ⟨b,rfl,.inr rfl⟩ (by simp)] at m1 m2;exact ⟨rv,rfl,G',M2,m1,m2,m3,fun b' hb'=>m4 b' (fun e=>hb' ⟨_,rfl,.inl e⟩) fun e=>hb' ⟨_,rfl,.inr e⟩⟩
 | purn m hc ha hp hn=>
  rename_i args';subst ha;have hs0:=hsub fun b hb=>hh b (List.mem_append.2 (.inr hb));refine ⟨hc.1,Calls.mono (qex m hc hs0 hgl hsz hr ?_) ?_⟩
  ·rintro v h1 ⟨rfl,rfl⟩;exact ⟨hn,fun b' k hk=>by cases hk⟩
  ·rintro e w' ⟨rv,v,h1,M',rfl,⟨rfl,rfl⟩,hv,hs',hxx⟩;have hx0:Ext G M0 w G M0 w':=⟨hxx.g,hxx.gnew,qar.le_refl _,fun _ q=>.inr q,hxx.os,hxx.tape,hxx.output,hxx.size,hxx.keep⟩;obtain ⟨s1,s2⟩:=hs.after hs'.gw hx0;exact ⟨rv,rfl,G,M,hv.pure M hp,s1,s2,fun _ _=>rfl⟩
 | frzn m m2 hc ha hn=>
  rename_i args' K0;subst ha;have hs0:=hsub fun b hb=>hh b (List.mem_append.2 (.inr hb));refine ⟨hc.1,Calls.mono (qgp m m2 hc hs0 hgl hsz hr hn) ?_⟩;rintro e w' ⟨rv,G',rfl,hv,hg,hx⟩;obtain ⟨s1,s2⟩:=hs.after hg hx;exact ⟨rv,rfl,G',M,hv.mono G'.le_refl (fun _ _ h=>by cases h),s1,s2,fun _ _=>rfl⟩
 | lend D hc ha hs0 hi hk hp hw hg hD=>
  refine ⟨hc.1,Calls.mono (qsw D hc ha (fun b k hb=>?_) hi hk hp hw hg hD hs hgl hsz hr) ?_⟩
  ·have h1:=(qfw hi hb).1;rw [hh b (List.mem_append.2 (.inr (by simpa using h1)))];exact hs0.spec b k hb
  ·rintro e w' ⟨rv,rfl,G',M',q1,q2,q3,q4⟩;exact ⟨rv,rfl,G',M',q1,q2,q3,fun b _=>q4 b⟩
theorem qnm {io:IOp} {fa:qal × List qal} (hc:qcr io = some fa):io = .call fa.1 fa.2:=qc1 (f:=fa.1) (as:=fa.2) hc
theorem qw8 (hops:∀ d,(∃ o,o ∈ ops.toList/\o.dst = some d)->d < n) {i:Nat} {o:Oper} (ho:ops[i]? = some o) {x:qa4} (hx:qgm P n ops o = some x) (hsl:∀ t ∈ x.op.slots,t ∈ o.looksAt ops) {fr0:Fr} {h0:Hp} (hg:xgd (lk fr0) x.guard = some true)
  {y:Y} (he:eop gl (gfG gm (lk h0)) (x.dst.getD 999999) (lk fr0) (lk h0) x.op = some y) (hdst:x.dst ≠ none∨qah x.op = true∨qhk x.op = true) :
  qnj P gl n ops gm i o (lk fr0) (lk h0) (fun b=>b ∈ (bif qah x.op then y.2.2 else x.dst.toList ++ y.2.2)) (qkx x) (qtv x) y.1 y.2.1:=by
 intro bs fr h G M a w Q K' hr hF hH hid hk;obtain ⟨c1,c2,c3,c4⟩:=qbr hx;unfold wpOp;simp only [ho];rw [qa6 hops hr c2 hF hg,if_pos rfl];refine .inl ?_
 have hac:qcr x.op = none:=by
  cases hc:qcr x.op with
  | none=>rfl
  | some fa=>rw [qnm hc] at he; simp [eop] at he
 cases hp:qah x.op with
 | true=>
  rw [hp] at hH;have he2:eop gl (gfG gm (lk h0)) (x.dst.getD 999999) (lk fr) (lk h) x.op = some y:=qer (fun t ht=>hF t (hsl t ht)) he (fun b hb=>hH b hb) rfl (fun _ _ _ _=>rfl);obtain ⟨e1,e2⟩:=qgh (Q:=Q) hr c1 hp he2;refine Oper.wp_mono ?_ e2;rintro a' w' ⟨v,rv,q1,rfl,q3,rfl⟩;subst q1;refine hk rv G M w' ?_ (.refl _ _ _) (fun _ _ _=>rfl);rw [e1];exact hr.put c4 q3 hr.sim (.refl _ _ _)
 | false=>
  rw [hp] at hH;simp only [cond_false,List.mem_append] at hH;have hex:qtv x = some (x.dst.getD 999999):=by simp [qtv,hac,hp]
  have hgr:∀ b ∈ y.2.2,∀ k,lk h0 b = some k->qaa M b = gfG gm (lk h0) b:=fun b hb k hk'=>qj5 (_fr:=fr) hr.sim (by rw [hH b (.inr hb)]; exact hk') hk'
  have he2:eop gl (qaa M) (x.dst.getD 999999) (lk fr) (lk h) x.op = some y:=by
   cases hd:x.dst with
   | some d=>
    have hal:qkx x = some d:=by simp [qkx,hac,hp,hd]
    refine qer (fun t ht=>hF t (hsl t ht)) (by rw [hd] at he; exact he) (fun b hb=>hH b (.inr hb)) ?_ hgr;have hdd:lk h d = lk h0 d:=hH d (.inl (by simp [hd]))
    cases hk0:lk h0 d with
    | some k=>exact qj5 (_fr:=fr) hr.sim (by simp only [Option.getD_some]; rw [hdd]; exact hk0) (by simpa using hk0)
    | none=>
     have:=hid d ⟨d,hal,.inl rfl⟩ (by simp [hp,hd]) (by rw [hdd]; exact hk0);simp only [Option.getD_some,gfG,hk0]; exact this
   | none=>
    rw [hd] at he
    have hl:qhk x.op = true:=by
     rcases hdst with h1 | h1 | h1
     ·exact absurd hd h1
     ·rw [hp] at h1; cases h1
     ·exact h1
    exact qsy hl (fun t ht=>hF t (hsl t ht)) he (fun b hb=>hH b (.inr hb)) hgr
  refine Oper.wp_mono ?_ (qhb hr c1 he2);rintro a' w' ⟨v,h',rv,G',M',⟨rfl,rfl⟩,rfl,q3,q4,q5,q6⟩;exact hk rv G' M' w' (hr.put c4 q3 q4 q5) q5 (fun b hnb h0=>q6 b (fun e=>hnb ⟨_,hex,.inl e⟩) h0)
end
end
section
open Go
section
variable {P:Program} {gl:Fr} {bs:BS} {n:Nat} {fr:Fr} {h:Hp} {G:qaz} {M:qar} {a:Act} {w:World}
def q4o (b g:Nat) (K:V->Hp->Prop):IQ
 | .normal,fr,h=>MvP (fun _ h2=>∃ m frl ps asg body h3,lk h2 b = some (.loop g m frl ps asg body true)/\Sub h3 ((b,.loop g m frl ps asg body false) :: h2)/\K (.bool true) h3) fr h
 | _,_,_=>False
def rndA (P:Program) (gl:Fr) (n b g:Nat) (body:Code) (K:V->Hp->Prop):IQ
 | .normal,fr,h=>∃ m frl ps asg bd,lk h b = some (.loop g m frl ps asg bd false)/\IW P n gl body (q4o b g K) fr ((b,.loop g m frl ps asg bd true) :: h)
 | _,_,_=>False
def qq3 (P:Program) (gl:Fr) (b g:Nat) (args:List V) (h:Hp) (K:V->Hp->Prop):Prop:=
 ∃ m frl ps asg body,lk h b = some (.loop g m frl ps asg body false)/\ps.length = args.length/\noR asg = true/\noR body = true/\(∀ t ∈ ps,t < m)/\
  IW P m gl asg (rndA P gl m b g body K) (qqh frl ps args) h
theorem qql {rd:Option Nat} (hs:Sim G M h w) (hgl:qdy G gl) {b g:Nat} {vs:List V} {K:V->Hp->Prop} (hy:qq3 P gl b g vs h K) {r0:Value} (hr0:qak G M (.own b g) r0) {ra:Array Value} (h1:ra.size = vs.length) (h2:∀ i,i < vs.length->qak G M (vs.getD i .undef) (ra.getD i undef)) :
  ∃ l fn tmps asg body,r0 = .func (.yield l) #[] #[]/\(Instr.yield l ra).run P w = .ok (.round l fn tmps asg body) w/\
   RoundIn (FW rd) 0 P l fn tmps asg body w fun e w'=>∃ rv v h' G' M',e = .returned rv/\K v h'/\qak G' M' v rv/\Sim G' M' h' w'/\Ext G M w G' M' w':=by
 obtain ⟨m,frl,ps,asg,body,hlk,hlen,hnA,hnB,hps,hw⟩:=hy
 have key:=ql1 (P:=P) (rd:=rd) (KK:=fun _ _ h'=>∃ h3,Sub h3 h'/\K (.bool true) h3) (asg:=asg) (body:=body) hs hgl hlk hr0 h1 h2 hlen hps (fun l a hr=>by
  refine wpIn_mono (hw (some l) w.heap.size (fun _=>hnA) G M a w hr) ?_;rintro e a1 w1 ⟨ie,G1,M1,fr1,hp1,rfl,hq,hr1,hx1⟩
  cases ie with
  | exit id=>exact hq.elim
  | goto l=>exact hq.elim
  | ret=>exact hq.elim
  | normal=>
   obtain ⟨mm,frm,psm,asm,bdm,k1,k2⟩:=hq;refine ⟨rfl,G1,M1,fr1,hp1,mm,frm,psm,asm,bdm,hr1,hx1,k1,fun w2 hr2 hx2=>?_⟩;refine wpIn_mono (k2 (some l) w.heap.size (fun _=>hnB) G1 M1 a1 _ hr2) ?_;rintro e a2 w3 ⟨ie,G2,M2,fr2,hp2,rfl,hq2,hr3,hx3⟩
   cases ie with
   | exit id=>exact hq2.elim
   | goto l=>exact hq2.elim
   | ret=>exact hq2.elim
   | normal=>
    obtain ⟨fr3,hp3,G3,M3,⟨mn,frn,psn,asn,bdn,h3,j1,j2,j3⟩,hr4,hx4⟩:=MvP.sound hq2 hr3;exact ⟨rfl,G3,M3,hp3,mn,frn,psn,asn,bdn,hr4.sim,(hx2.trans hx3).trans hx4,j1,h3,j2,j3⟩)
 obtain ⟨l,fn,tmps,asg,body,e1,e2,e3⟩:=key;refine ⟨l,fn,tmps,asg,body,e1,e2,RoundIn.mono e3 ?_⟩;rintro e w' ⟨rfl,G',M',h',⟨h3,j2,j3⟩,q3,q4⟩;exact ⟨.bool true,.bool true,h3,G',M',rfl,j3,.bool _,⟨q3.gw,fun b k hk=>q3.hb b k (j2.spec b k hk),q3.inj,q3.mlt⟩,q4⟩
theorem qy6 {rd:Option Nat} (hr:R bs n gl G M fr h a w) {o:Oper} {c:Call} {f:Operand} {Q:Exit->Act->World->Prop} (ho:o.op = .call c) (hc:c.callee = .value f) {b g:Nat} {vs:List V}
  (hf:ev gl fr (co f) = some (.own b g)) (hvs:evs gl fr (c.args.toList.map co) = some vs) {K:V->Hp->Prop} (hy:qq3 P gl b g vs h K) :
  o.wpIn (FW rd) 0 P a w (fun a' w'=>∃ rv v h' G' M',a' = a.put o.dst rv/\K v h'/\qak G' M' v rv/\Sim G' M' h' w'/\Ext G M w G' M' w') Q:=by
 obtain ⟨v1,v2⟩:=qlh hr hvs;have rf:=qat hr hf
 obtain ⟨l,fn,tmps,asg,body,e1,e2,e3⟩:=qql (rd:=rd) hr.sim hr.gl hy rf (ra:=c.args.map a.eval) (by simp [v1]) (fun i hi=>by
  have:=v2 i hi;rw [<- qcb] at this;simpa only [jke,jkd] using this)
 have hs:Oper.semAt (FW rd).round a.eval o = execOp a.eval o:=Oper.semAt_eq _ _ _ fun c' hc'=>by rw [ho] at hc'; cases hc'
 have hrun:(execOp a.eval o).run P w = .ok (.round l fn tmps asg body) w:=by
  simp [execOp,ho,resolve,hc,e1,Deferred.ofValue,invoke];exact e2
 refine ⟨fun _ _=>trivial,?_⟩;rw [hs,hrun,Oper.uponIn_round];refine ⟨(fun h=>nomatch h),RoundIn.mono e3 ?_⟩;rintro e w' ⟨rv,v,h',G',M',rfl,q1,q2,q3,q4⟩;exact ⟨rv,v,h',G',M',rfl,q1,q2,q3,q4⟩
theorem jj2 {f:Operand} {ps:Array Tmp} {asg body:Code} {Q:IQ} {fid:FuncId} {fst cap:List V} {frs:Fr} {hs:Hp} (b:Nat) (hf:ev gl fr (co f) = some (.fn fid fst cap)) (h1:Sub frs fr) (h2:Sub hs h)
  (hc:∀ g,qa2 P gl fid (fst ++ [.own b g] ++ cap) ((b,.loop g n frs ps.toList asg body false) :: hs) (fun _ h'=>∃ m frl psl asl bdl,lk h' b = some (.loop g m frl psl asl bdl false)/\Q .normal fr ((b,.dead g) :: h'))) :
  IW P n gl (.rangeFunc f ps asg body) Q fr h:=by
 intro rd bs hn G M a w hr
 cases rd with
 | some l=>exact absurd (hn rfl) (by simp [noR])
 | none=>
 refine wpIn_mono (qrz (KK:=fun _ _ h'=>Q .normal fr h') (hr.weaken (fun _ _ q=>q) h2.spec) b frs h1.spec hf (hc 0).1 fun mb w1 rargs _ hs1 hgl hsz hrel=>?_) ?_
 ·refine Calls.mono ((hc (qaa M b)).2 G _ w1 rargs hs1 hgl hsz hrel) ?_;rintro e w' ⟨rv,v,h',G',M',rfl,⟨m,frl,psl,asl,bdl,k1,k2⟩,-,q3,q4⟩;exact ⟨rv,G',M',h',m,frl,psl,asl,bdl,rfl,k1,k2,q3,q4⟩
 ·rintro e a' w' ⟨rfl,G',M',h',q1,q2,q3⟩;exact ⟨.normal,G',M',fr,h',rfl,q1,q2,q3⟩
end
end
end Go.Proofs.YtbbnmiaabmbheaaGreatDoor
