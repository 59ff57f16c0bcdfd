/- Lemmas. Conditions: none. -/
import Derived.Test.YtbbnmiaabmbheaaGreatDoorBase10
import Derived.OpenShut
import Derived.Carry
import Derived.ChangeSame
import Derived.RowKit
import Derived.ChangeArms
import Derived.ChangeShapes
import Derived.MakeChecks
import Derived.LaidLaws
set_option linter.all false
namespace Go.Proofs.YtbbnmiaabmbheaaGreatDoor
section
open Go Go.RowKit Go.ChangeShapes
theorem qyj {P:Program} {H:Type} {enc:TypeId × Value->H} {fn:Func} {s:ChangeSpec} {W W':World} {args:Array Value} {ds gs:List (DataW H)} {before:List MemPlace} {tb:TypeId}
  (hl:laidOutB P = true) (hpar:(fn.params.toList.all fun t=>P.readableRec t && decide (t < P.types.size)) = true) (hres:fn.resultTypes = #[tb]) (htb:P.underlying tb = some .bool) (hvars:s.vars = [])
  (hfn:s.fn H (ds ++ gs) = { results:=[.lit (.bool true)],args:=ds }) (hW:DataW.Whole enc P fn.params.toList s.vars false W args.toList ds gs before) (hb:Below W.heap.size W W') :
  s.post enc P fn false true false false W args (.bool true) W':=by
 obtain ⟨p,q,hA,hV,hpq,hfz,hnd⟩:=id hW
 have hargs:DataW.TrodAll enc P W' 0 (fun b=>decide (b < W.heap.size)) true fn.params.toList args.toList ds p:=by
  have key:∀ (ts:List TypeId) (vs:List Value) (ds:List (DataW H)) (ps:List MemPlace),(∀ t ∈ ts,P.readableRec t = true/\t < P.types.size)->DataW.TrodAll enc P W 0 (fun _=>true) true ts vs ds ps->DataW.TrodAll enc P W' 0 (fun b=>decide (b < W.heap.size)) true ts vs ds ps:=by
   intro ts
   induction ts with
   | nil=>intro vs ds ps _ h; cases vs <;> cases ds <;> first | exact h | exact h.elim
   | cons t ts ih=>
    intro vs ds ps ht h
    cases vs with
    | nil=>exact h.elim
    | cons v vs=>
     cases ds with
     | nil=>exact h.elim
     | cons d ds=>
      have hlt:=h.lt;obtain ⟨p1,q1,⟨fuel,h1⟩,h2,rfl⟩:=h;obtain ⟨hr1,hr2⟩:=ht t List.mem_cons_self;have hp:∀ x ∈ p1,x.block < W.heap.size:=fun x hx=>hlt x (by simp [hx]);exact ⟨p1,q1,⟨fuel,DataW.trod_stays (kids_book hl hr1) (book_sized hr1) (fun h=>by cases h) ⟨hr2,book_self t⟩ h1 (fun x hx=>hb.same (hp x hx)) (fun x hx=>by simpa using hp x hx)⟩,ih vs ds q1 (fun t' ht'=>ht t' (List.mem_cons_of_mem _ ht')) h2,rfl⟩
  refine key _ _ _ _ (fun t ht=>?_) hA;have:=List.all_eq_true.1 hpar t ht;simpa using this
 rw [hvars] at hV;obtain ⟨rfl,rfl⟩:=trodVars_none hV;refine ⟨ds,[],before,[],p,[],hW,?_,?_,?_,⟨hb.os,hb.output,fun i hi=>?_⟩,fun h=>by cases h⟩
 ·rw [hfn,hres];exact trodAll_cons_mk (shut_bool htb true) trodAll_mk0
 ·rw [hfn]; exact hargs
 ·rw [hfn,hvars]; exact rfl
 ·rw [hb.block i hi]
  cases W.heap[i]? with
  | none=>trivial
  | some o=>cases o <;> simp
def qkv (W:World):qaz:=fun k=>match W.heap[k]? with
 | some (.cells c _ _)=>some c
 | _=>none
theorem q06 (W:World):GIn (qkv W) W:=fun k c hk=>by
 unfold qkv at hk;split at hk
 ·rename_i c' ty fz he; cases hk; exact ⟨ty,fz,he⟩
 ·cases hk
mutual
def qdo {H:Type}:DataW H->V
 | .lit (.int k n)=>.int k n
 | .lit (.bool b)=>.bool b
 | .lit (.string s)=>.str s
 | .nil=>.sl [] none
 | .slice es _=>.sl (qx0 es) none
 | .agg ps=>.agg (qxz ps)
 | _=>.undef
def qx0 {H:Type}:List (DataW H)->List V
 | []=>[]
 | d :: r=>qdo d :: qx0 r
def qxz {H:Type}:List (DataW H)->List V
 | []=>[]
 | d :: r=>(qdo d).cells ++ qxz r
end
theorem qui {H:Type} (l:List (DataW H)):qx0 l = l.map qdo:=by
 induction l with
 | nil=>rfl
 | cons a r ih=>simp [qx0,ih]
theorem qnx {H:Type} (l:List (DataW H)):qxz l = l.flatMap fun d=>(qdo d).cells:=by
 induction l with
 | nil=>rfl
 | cons a r ih=>simp [qxz,ih]
def qjv (P:Program):List Field->Nat->Nat->Bool
 | [],off,tot=>off == tot
 | f :: r,off,tot=>f.offset == off && qjv P r (off + P.cellsOf f.type) tot
def qcn (P:Program):Nat->TypeId->Bool
 | 0,_=>false
 | n + 1,t=>match P.underlying t with
  | some .bool=>P.cellsOf t == 1
  | some (.int _)=>P.cellsOf t == 1
  | some .string=>P.cellsOf t == 1
  | some (.slice e)=>P.cellsOf t == 1 && decide (0 < P.cellsOf e) && qcn P n e
  | some (.struct fs)=>qjv P fs.toList 0 (P.cellsOf t) && fs.toList.all fun f=>qcn P n f.type
  | some (.array m e)=>P.cellsOf t == m * P.cellsOf e && qcn P n e
  | _=>false
def qfv (p:TypeId->V->Prop):List TypeId->List V->Prop
 | [],[]=>True
 | t :: ts,v :: vs=>p t v/\qfv p ts vs
 | _,_=>False
def qeu (P:Program):Nat->TypeId->V->Prop
 | 0,_,_=>False
 | n + 1,t,v=>match P.underlying t with
  | some .bool=>∃ b,v = .bool b
  | some (.int k)=>∃ i,v = .int k i/\(Lit.int k i).wf = true
  | some .string=>∃ s:List UInt8,v = .str s/\s.length≤maxLen
  | some (.slice e)=>∃ xs:List V,v = .sl xs none/\xs.length≤maxLen/\∀ x ∈ xs,qeu P n e x
  | some (.struct fs)=>∃ ps:List V,v = .agg (ps.flatMap V.cells)/\qfv (qeu P n) (fs.toList.map (·.type)) ps
  | some (.array m e)=>∃ ps:List V,v = .agg (ps.flatMap V.cells)/\ps.length = m/\∀ x ∈ ps,qeu P n e x
  | _=>False
def qnd (G:qaz) (l:List V) (cs:List Value):Prop:=cs.length = l.length/\∀ i,i < l.length->qak G M0 (l.getD i .undef) (cs.getD i undef)/\(cs.getD i undef).oneCell' = true
theorem qnd.nil (G:qaz):qnd G [] []:=⟨rfl,fun i hi=>by simp at hi⟩
theorem qnd.one {G:qaz} {v:V} {r:Value} (h:qak G M0 v r) (ho:r.oneCell' = true):qnd G [v] [r]:=⟨rfl,fun i hi=>by
 obtain rfl:i = 0:=by simpa using hi
 exact ⟨h,ho⟩⟩
theorem qnd.append {G:qaz} {a b:List V} {c d:List Value} (h:qnd G a c) (k:qnd G b d):qnd G (a ++ b) (c ++ d):=by
 refine ⟨by simp [h.1,k.1],fun i hi=>?_⟩;simp only [jkd,List.getElem?_append,h.1];by_cases hia:i < a.length
 ·simp only [if_pos hia];have:=h.2 i hia;simpa only [jkd] using this
 ·simp only [if_neg hia];have:=k.2 (i - a.length) (by simp at hi; omega);simpa only [jkd] using this
section
variable {P:Program} {H:Type} {enc:TypeId × Value->H} {W:World} {sp:Nat->Bool} {held:Bool}
theorem qxj {a:Addr} (hs:a.spot = none) (i j:Nat):(a.add i).add j = ⟨a.block,a.off + i + j,none⟩:=by
 obtain ⟨b,o,s⟩:=a;simp only at hs;subst hs;unfold Addr.add;by_cases hi:i = 0 <;> by_cases hj:j = 0 <;> simp [hi,hj]
theorem qld {a:Addr} {m:Nat} {cs:List Value} (h:W.cells? 0 a m = some cs):cs.length = m/\∀ i,i < m->W.cell? (a.add i) = cs[i]?:=by
 unfold World.cells? at h;rw [if_pos (Nat.zero_le _)] at h;refine ⟨by simpa using mapM_some_length h,fun i hi=>mapM_some_get h i i (by simp [hi])⟩
theorem qnp {a:Addr} {v:Value} (h:W.cell? a = some v):∃ c,qkv W a.block = some c/\a.spot = none/\c[a.off]? = some v:=by
 unfold World.cell? at h;unfold qkv;split at h
 ·rename_i c ty fz he;split at h
  ·cases h
  ·rename_i hs;refine ⟨c,by rw [he],?_,h⟩
   cases hq:a.spot with
   | none=>rfl
   | some x=>rw [hq] at hs; simp at hs
 ·cases h
structure TR (P:Program) (W:World) (n:Nat) (t:TypeId) (cs:List Value) (v:V):Prop where
 len:cs.length = P.cellsOf t
 rel:qnd (qkv W) v.cells cs
 ok:v.cellsOk = true
 has:qeu P n t v
 pure:v.pure = true
theorem ql5 {n:Nat} {cs:List Value}:∀ (fs:List Field) (xs:List (DataW H × List MemPlace)) (off tot:Nat),qjv P fs off tot = true->cs.length = tot->xs.length = fs.length->
  (∀ (i:Nat) (f:Field) (x:DataW H × List MemPlace),fs[i]? = some f->xs[i]? = some x->TR P W n f.type ((cs.drop f.offset).take (P.cellsOf f.type)) (qdo x.1))->
  qnd (qkv W) (xs.flatMap fun x=>(qdo x.1).cells) (cs.drop off)/\qfv (qeu P n) (fs.map (·.type)) (xs.map fun x=>qdo x.1)/\∀ x ∈ xs,(qdo x.1).pure = true
 | [],[],off,tot,hc,hl,hx,ha=>by
  simp only [qjv,beq_iff_eq] at hc;rw [List.drop_eq_nil_of_le (by omega)];exact ⟨qnd.nil _,trivial,fun x hx=>by cases hx⟩
 | [],_ :: _,_,_,_,_,hx,_=>by simp at hx
 | _ :: _,[],_,_,_,_,hx,_=>by simp at hx
 | f :: fs,x :: xs,off,tot,hc,hl,hx,ha=>by
  simp only [qjv,Bool.and_eq_true,beq_iff_eq] at hc;obtain ⟨hoff,hc⟩:=hc;have h0:=ha 0 f x rfl rfl;obtain ⟨i1,i2,i3⟩:=ql5 fs xs (off + P.cellsOf f.type) tot hc hl (by simpa using hx) (fun i f' x' hf hx'=>ha (i + 1) f' x' (by simpa using hf) (by simpa using hx'));refine ⟨?_,⟨h0.has,i2⟩,fun y hy=>?_⟩
  ·have e:cs.drop off = (cs.drop off).take (P.cellsOf f.type) ++ cs.drop (off + P.cellsOf f.type):=by
    rw [<- List.drop_drop,List.take_append_drop]
   rw [e,List.flatMap_cons];rw [hoff] at h0;exact h0.rel.append i1
  ·rcases List.mem_cons.1 hy with h | h
   ·subst h; exact h0.pure
   ·exact i3 y h
theorem qnl {n:Nat} {e:TypeId} {cs:List Value}:∀ (m k:Nat) (xs:List (DataW H × List MemPlace)),xs.length = m->cs.length = (k + m) * P.cellsOf e->
  (∀ (i:Nat) (x:DataW H × List MemPlace),xs[i]? = some x->TR P W n e ((cs.drop ((k + i) * P.cellsOf e)).take (P.cellsOf e)) (qdo x.1))->
  qnd (qkv W) (xs.flatMap fun x=>(qdo x.1).cells) (cs.drop (k * P.cellsOf e))/\∀ x ∈ xs,qeu P n e (qdo x.1)/\(qdo x.1).pure = true
 | 0,k,[],_,hl,_=>by
  rw [List.drop_eq_nil_of_le (by rw [hl]; simp)];exact ⟨qnd.nil _,fun x hx=>by cases hx⟩
 | 0,k,_ :: _,hx,_,_=>by simp at hx
 | m + 1,k,[],hx,_,_=>by simp at hx
 | m + 1,k,x :: xs,hx,hl,ha=>by
  have h0:=ha 0 x rfl;rw [Nat.add_zero] at h0
  obtain ⟨i1,i2⟩:=qnl m (k + 1) xs (by simpa using hx) (by rw [hl]; congr 1; omega) (fun i x' hx'=>by
   have:=ha (i + 1) x' (by simpa using hx');rw [show k + 1 + i = k + (i + 1) from by omega]; exact this)
  refine ⟨?_,fun y hy=>?_⟩
  ·have e1:cs.drop (k * P.cellsOf e) = (cs.drop (k * P.cellsOf e)).take (P.cellsOf e) ++ cs.drop ((k + 1) * P.cellsOf e):=by
    rw [Nat.add_mul,Nat.one_mul,<- List.drop_drop,List.take_append_drop]
   rw [e1,List.flatMap_cons];exact h0.rel.append i1
  ·rcases List.mem_cons.1 hy with h | h
   ·subst h; exact ⟨h0.has,h0.pure⟩
   ·exact i2 y h
theorem qkc {l:List V} (h:∀ v ∈ l,v.pure = true):jid (l.flatMap V.cells) = true:=by
 rw [jig];intro v hv;obtain ⟨x,hx,hvx⟩:=List.mem_flatMap.1 hv;exact (jig _).1 (jit (h x hx)) v hvx
theorem qjk:∀ (n fuel:Nat) (t:TypeId) (cs:List Value) (x:DataW H × List MemPlace),qcn P n t = true->DataW.trod enc P W 0 sp held fuel t cs = some x->TR P W n t cs (qdo x.1)
 | 0,fuel,t,cs,x,hp,h=>by simp [qcn] at hp
 | n + 1,fuel,t,cs,x,hp,h=>by
  have ih:=fun fuel e cs x=>qjk n fuel e cs x;simp only [qcn] at hp;split at hp
  ·rename_i hu;obtain ⟨b,rfl,rfl⟩:=DataW.trod_bool hu h;exact ⟨by simpa using (beq_iff_eq.1 hp).symm,qnd.one (.bool b) rfl,rfl,by simp only [qeu,hu]; exact ⟨b,rfl⟩,rfl⟩
  ·rename_i k hu;obtain ⟨i,rfl,rfl,hwf⟩:=DataW.trod_int hu h;exact ⟨by simpa using (beq_iff_eq.1 hp).symm,qnd.one (.int k i) rfl,rfl,by simp only [qeu,hu]; exact ⟨i,rfl,hwf⟩,rfl⟩
  ·rename_i hu;obtain ⟨s,rfl,rfl,hm⟩:=DataW.trod_string hu h;refine ⟨by simpa using (beq_iff_eq.1 hp).symm,qnd.one ?_ rfl,rfl,by simp only [qeu,hu]; exact ⟨_,rfl,by simpa using hm⟩,rfl⟩;have:=qak.str (G:=qkv W) (M:=M0) s.data.toList;simpa [qdo] using this
  ·rename_i e hu;simp only [Bool.and_eq_true,beq_iff_eq,decide_eq_true_eq] at hp;obtain ⟨⟨hc1,hpos⟩,hpe⟩:=hp;rcases DataW.trod_slice hu h with ⟨rfl,rfl⟩ | ⟨a,len,cap,elems,rest,m,rfl,rfl,rfl,-,hlc,hcm,hel,hall,-,-⟩
   ·refine ⟨by simpa using hc1.symm,qnd.one (.slnil none none 0 (by simp) (.inl rfl)) rfl,rfl,by simp only [qeu,hu]; exact ⟨[],rfl,by simp,fun x hx=>by cases hx⟩,rfl⟩
   ·have hx:∀ (i:Nat) (x:DataW H × List MemPlace),elems[i]? = some x->∃ cs,W.cells? 0 (a.add (i * P.cellsOf e)) (P.cellsOf e) = some cs/\TR P W n e cs (qdo x.1):=by
     intro i x hi;have hil:i < len:=by rw [<- hel]; exact (List.getElem?_eq_some_iff.1 hi).1
     have:=hall i hil;rw [hi] at this;obtain ⟨cs,q1,q2⟩:=Option.bind_eq_some_iff.1 this;exact ⟨cs,q1,ih m e cs x hpe q2⟩
    have henc:qdo (DataW.slice (elems.map (·.1)) (rest.map (·.1))) = .sl (elems.map fun x=>qdo x.1) none:=by
     simp [qdo,qui,Function.comp_def]
    have hmem:∀ v ∈ elems.map (fun x=>qdo x.1),∃ cs,TR P W n e cs v:=by
     intro v hv;obtain ⟨x,hx',rfl⟩:=List.mem_map.1 hv;obtain ⟨i,hi⟩:=List.mem_iff_getElem?.1 hx';obtain ⟨cs,-,q⟩:=hx i x hi;exact ⟨cs,q⟩
    simp only [];rw [henc];refine ⟨by simpa using hc1.symm,qnd.one ?_ rfl,rfl,?_,?_⟩
    ·by_cases h0:len = 0
     ·have:elems = []:=List.length_eq_zero_iff.1 (by omega);subst this;subst h0;exact .slnil none _ cap (by simp) (.inr rfl)
     ·have hl0:0 < elems.length:=by omega
      obtain ⟨cs0,q1,q2⟩:=hx 0 elems[0] (jkh hl0);rw [Nat.zero_mul] at q1;have ha0:a.add 0 = a:=by simp [Addr.add]
      rw [ha0] at q1;obtain ⟨g1,g2⟩:=qld q1;have g3:=g2 0 hpos;rw [ha0,jkh (by omega)] at g3;obtain ⟨c,k1,k2,k3⟩:=qnp g3
      have hcell:∀ i j,i < elems.length->j < P.cellsOf e->∃ x v,elems[i]? = some x/\c[a.off + i * P.cellsOf e + j]? = some v/\∃ cs,TR P W n e cs (qdo x.1)/\cs[j]? = some v:=by
       intro i j hi hj;obtain ⟨cs,w1,w2⟩:=hx i elems[i] (jkh hi);obtain ⟨l1,l2⟩:=qld w1;have l3:=l2 j hj;rw [jkh (by omega)] at l3;obtain ⟨c',d1,d2,d3⟩:=qnp l3;rw [qxj k2] at d1 d3;simp only at d1 d3;rw [k1] at d1; cases d1;exact ⟨elems[i],_,jkh hi,d3,cs,w2,jkh (by omega)⟩
      have hgd:∀ i,i < elems.length->(elems.map fun x=>qdo x.1).getD i .undef = qdo (elems.getD i (.nil,[])).1:=fun i hi=>by
       simp [jkd,hi]
      have hspot:a = ⟨a.block,a.off,none⟩:=by
       obtain ⟨b,o,s⟩:=a;simp only at k2; rw [k2]
      rw [hspot];have hlen:(elems.map fun x=>qdo x.1).length = elems.length:=by simp
      have:=qak.sl (G:=qkv W) (M:=M0) (elems.map fun x=>qdo x.1) none a.block a.off cap (P.cellsOf e) c (fun hn=>by rw [hn] at hlen; simp at hlen; omega) k1
       (fun i hi=>by
        rw [hlen] at hi;obtain ⟨x,v,x1,-,cs,x2,-⟩:=hcell i 0 hi hpos;rw [hgd i hi,jkd,x1];simp only [Option.getD_some];rw [<- x2.rel.1,x2.len])
       (by
        rw [hlen];obtain ⟨x,v,-,x3,-⟩:=hcell (elems.length - 1) (P.cellsOf e - 1) (by omega) (by omega);have:=(Array.getElem?_eq_some_iff.1 x3).1
        have e1:elems.length * P.cellsOf e = (elems.length - 1) * P.cellsOf e + P.cellsOf e:=by
         rw [<- Nat.succ_mul]; congr 1; omega
        rw [e1]; omega)
       (by rw [hlen]; omega) (by simp)
       (fun i j hi hj=>by
        rw [hlen] at hi;obtain ⟨x,v,x1,x3,cs,x2,x4⟩:=hcell i j hi hj;have hge:elems.getD i (.nil,[]) = x:=by rw [jkd,x1]; rfl
        rw [hgd i hi,hge];have:=(x2.rel.2 j (by rw [<- x2.rel.1,x2.len]; exact hj)).1;rw [jkd (l:=cs),x4] at this;rw [jke,x3];exact this)
       (fun i j hi hj=>by
        rw [hlen] at hi;obtain ⟨x,v,x1,x3,cs,x2,x4⟩:=hcell i j hi hj;have:=(x2.rel.2 j (by rw [<- x2.rel.1,x2.len]; exact hj)).2;rw [jkd,x4] at this;rw [jke,x3];exact this)
      rw [hlen,hel] at this;exact this
    ·simp only [qeu,hu];refine ⟨_,rfl,by simp; omega,fun v hv=>?_⟩;obtain ⟨cs,q⟩:=hmem v hv;exact q.has
    ·simp only [V.pure];rw [jig];intro v hv;obtain ⟨cs,q⟩:=hmem v hv;exact q.pure
  ·rename_i fs hu;simp only [Bool.and_eq_true,List.all_eq_true] at hp;obtain ⟨xs,m,rfl,rfl,hl,hxl,hall⟩:=DataW.trod_struct hu h
   obtain ⟨s1,s2,s3⟩:=ql5 (P:=P) (W:=W) (n:=n) fs.toList xs 0 (P.cellsOf t) hp.1 hl (by simpa using hxl) (fun i f x hf hx=>by
    have hm:=hall i f (by simpa using hf);rw [hx] at hm;exact ih m f.type _ x (hp.2 f (List.mem_of_getElem? hf)) hm)
   have henc:qdo (DataW.agg (xs.map (·.1))) = .agg ((xs.map fun x=>qdo x.1).flatMap V.cells):=by
    simp [qdo,qnx,List.flatMap_map]
   simp only [];rw [henc];refine ⟨hl,?_,rfl,?_,?_⟩
   ·rw [List.drop_zero] at s1;simp only [V.cells,List.flatMap_map];exact s1
   ·simp only [qeu,hu]; exact ⟨_,rfl,s2⟩
   ·simp only [V.pure]
    exact qkc fun v hv=>by
     obtain ⟨x,hx,rfl⟩:=List.mem_map.1 hv;exact s3 x hx
  ·rename_i m e hu;simp only [Bool.and_eq_true,beq_iff_eq] at hp;obtain ⟨xs,k,rfl,rfl,hl,hxl,hall⟩:=DataW.trod_array hu h
   obtain ⟨s1,s2⟩:=qnl (P:=P) (W:=W) (n:=n) (e:=e) m 0 xs hxl (by rw [hl,hp.1,Nat.zero_add]) (fun i x hx=>by
    have hi:i < m:=by rw [<- hxl]; exact (List.getElem?_eq_some_iff.1 hx).1
    have hm:=hall i hi;rw [hx] at hm;rw [Nat.zero_add];exact ih k e _ x hp.2 hm)
   have henc:qdo (DataW.agg (xs.map (·.1))) = .agg ((xs.map fun x=>qdo x.1).flatMap V.cells):=by
    simp [qdo,qnx,List.flatMap_map]
   simp only [];rw [henc];refine ⟨hl,?_,rfl,?_,?_⟩
   ·rw [Nat.zero_mul,List.drop_zero] at s1;simp only [V.cells,List.flatMap_map];exact s1
   ·simp only [qeu,hu];refine ⟨_,rfl,by simp [hxl],fun v hv=>?_⟩;obtain ⟨x,hx,rfl⟩:=List.mem_map.1 hv;exact (s2 x hx).1
   ·simp only [V.pure]
    exact qkc fun v hv=>by
     obtain ⟨x,hx,rfl⟩:=List.mem_map.1 hv;exact (s2 x hx).2
  ·cases hp
theorem q1e {n:Nat} {t:TypeId} {v:Value} {d:DataW H} {ps:List MemPlace} (hp:qcn P n t = true) (h:DataW.Trod enc P W 0 sp held t v d ps) (hag:(∃ cs,v = .agg cs)↔∃ cs,qdo d = .agg cs) (hv:(∀ cs,v ≠ .agg cs)->v.cells = #[v]) :
  qak (qkv W) M0 (qdo d) v/\qeu P n t (qdo d)/\(qdo d).pure = true:=by
 obtain ⟨fuel,h⟩:=h;have T:=qjk n fuel t v.cells.toList (d,ps) hp h;refine ⟨?_,T.has,T.pure⟩;by_cases ha:∃ cs,v = .agg cs
 ·obtain ⟨l,hl⟩:=hag.1 ha;obtain ⟨cs,rfl⟩:=ha;have hr:=T.rel;simp only at hr hl;rw [hl] at hr ⊢;simp only [V.cells,Value.cells] at hr;refine .agg l cs (by simpa using hr.1) (fun i hi=>?_) (fun i hi=>?_)
  ·have:=(hr.2 i hi).1;rw [jkd (l:=cs.toList),Array.getElem?_toList] at this;rw [jke]; exact this
  ·have:=(hr.2 i hi).2;rw [jkd,Array.getElem?_toList] at this;rw [jke]; exact this
 ·have hna:¬ ∃ cs,qdo d = .agg cs:=fun hc=>ha (hag.2 hc)
  have hc:(qdo d).cells = [qdo d]:=by
   have hok:=T.ok;simp only at hok
   cases hd:qdo d <;> first
    | rfl
    | exact absurd ⟨_,hd⟩ hna
    | (rw [hd] at hok; simp [V.cellsOk,V.isCell] at hok)
  have hr:=T.rel;simp only at hr;rw [hc,hv (fun cs h=>ha ⟨cs,h⟩)] at hr;exact (hr.2 0 (by simp)).1
end
theorem qs5 {P:Program} {W:World} {base n:Nat} {t:TypeId} {v:Value} {w:V} (hp:qcn P n t = true) (h:Value.okWide P W .any base t v) (hh:qeu P n t w):((∃ cs,v = .agg cs)↔∃ cs,w = .agg cs)/\((∀ cs,v ≠ .agg cs)->v.cells = #[v]):=by
 cases n with
 | zero=>simp [qcn] at hp
 | succ n=>
  simp only [qcn] at hp;simp only [qeu] at hh;unfold Value.okWide at h;split at hp
  ·rename_i hu;simp only [hu] at h hh;obtain ⟨b,rfl⟩:=hh;unfold Cell.okWide at h;simp only [hu] at h;cases v <;> simp_all [Cell.ok,Value.cells]
  ·rename_i k hu;simp only [hu] at h hh;obtain ⟨b,rfl,-⟩:=hh;unfold Cell.okWide at h;simp only [hu] at h;cases v <;> simp_all [Cell.ok,Value.cells]
  ·rename_i hu;simp only [hu] at h hh;obtain ⟨b,rfl,-⟩:=hh;unfold Cell.okWide at h;simp only [hu] at h;cases v <;> simp_all [Cell.ok,Value.cells]
  ·rename_i e hu;simp only [hu] at h hh;obtain ⟨b,rfl,-⟩:=hh;unfold Cell.okWide at h;simp only [hu] at h;cases v <;> simp_all [Cell.ok,Value.cells]
  ·rename_i fs hu;simp only [hu] at h hh;obtain ⟨b,rfl,-⟩:=hh;obtain ⟨cs,rfl,-⟩:=h;exact ⟨⟨fun _=>⟨_,rfl⟩,fun _=>⟨_,rfl⟩⟩,fun hc=>absurd rfl (hc cs)⟩
  ·rename_i m e hu;simp only [hu] at h hh;obtain ⟨b,rfl,-⟩:=hh;obtain ⟨cs,rfl,-⟩:=h;exact ⟨⟨fun _=>⟨_,rfl⟩,fun _=>⟨_,rfl⟩⟩,fun hc=>absurd rfl (hc cs)⟩
  ·cases hp
def jdo {H:Type} (P:Program) (t:TypeId):DataW H->Bool
 | .iface _ _=>match P.underlying t with
  | some (.interface _)=>true
  | _=>false
 | _=>false
def glT {H:Type} (P:Program):List (String × DataW H)->Fr
 | []=>[]
 | (n,d) :: r=>match P.globalNamed n with
  | some g=>match (P.globals[g]?).map (·.type) with
   | some t=>bif qcn P 20 t then (g,.iptr (qdo d) 0) :: glT P r else bif jdo P t d then (g,.iptr (.err false) 0) :: glT P r else glT P r
   | none=>glT P r
  | none=>glT P r
theorem qpy {P:Program} {W:World}:∀ {laid:List (String × DataW Unit)} {ps:List MemPlace},DataW.LaidVars P W laid ps->qdy (qkv W) (glT P laid)
 | [],ps,_=>fun g v h=>by simp [glT,lk] at h
 | (n,d) :: r,ps,h=>by
  obtain ⟨g,t,cs,fuel,p,q,h1,h2,h3,h4,h5,-⟩:=h;have ih:=qpy h5;simp only [glT,h1,h2]
  cases hp:qcn P 20 t with
  | false=>
   cases hq:jdo P t d with
   | false=>exact ih
   | true=>
    unfold jdo at hq;split at hq
    ·rename_i nm x;split at hq
     ·rename_i ms hi;obtain ⟨f1,u,v0,hcs,-,-⟩:=iface_of_trod hi h4;intro g' v hv;simp only [cond_true,cond_false,lk] at hv;split at hv
      ·rename_i he;subst he;cases hv;refine ⟨rfl,?_⟩
       have hG:qkv W g' = some cs:=by
        unfold World.var? at h3;rw [h1] at h3;simp only [Option.bind_some] at h3;unfold qkv;split at h3
        ·rename_i c ty fz he; cases h3; rw [he]
        ·cases h3
       obtain ⟨l⟩:=cs;have hcs:l = [.iface u v0]:=hcs;subst hcs;refine ⟨.iptr (.err false) 0 g' 0 _ hG (by simp [V.cells]) (fun j hj=>?_) (fun j hj=>?_),_,hG,fun x o e=>by cases e; rfl⟩
       ·simp only [V.cells,List.length_cons,List.length_nil] at hj;obtain rfl:j = 0:=by omega
        exact .errsome _ _
       ·simp only [V.cells,List.length_cons,List.length_nil] at hj;obtain rfl:j = 0:=by omega
        rfl
      ·exact ih g' v hv
     ·cases hq
    ·cases hq
  | true=>
   have T:=qjk 20 fuel t cs.toList (d,p) hp h4;intro g' v hv;simp only [cond_true,lk] at hv;split at hv
   ·rename_i he;subst he;cases hv;refine ⟨by simp only [V.pure]; exact T.pure,?_⟩
    have hG:qkv W g' = some cs:=by
     unfold World.var? at h3;rw [h1] at h3;simp only [Option.bind_some] at h3;unfold qkv;split at h3
     ·rename_i c ty fz he; cases h3; rw [he]
     ·cases h3
    have hr:=T.rel;simp only at hr;refine ⟨.iptr (qdo d) 0 g' 0 cs (GAll_le_none hG) (by simpa using Nat.le_of_eq hr.1.symm) (fun j hj=>?_) (fun j hj=>?_),cs,hG,fun x o e=>by cases e; simpa using hr.1⟩
    ·rw [Nat.zero_add];have:=((hr.2 j hj).1).pure (fun _=>none) (jie (jit T.pure) j);rw [jkd (l:=cs.toList),Array.getElem?_toList] at this;rw [jke]; exact this
    ·rw [Nat.zero_add];have:=(hr.2 j hj).2;rw [jkd,Array.getElem?_toList] at this;rw [jke]; exact this
   ·exact ih g' v hv
where
 GAll_le_none {W:World} {g:Nat} {cs:Array Value} (h:qkv W g = some cs):qkv W g = some cs:=h
theorem qoe {P:Program} {H:Type} {enc:TypeId × Value->H} {f:FuncId} {fn:Func} {s:ChangeSpec} {W:World} {args:Array Value} {ds gs:List (DataW H)} {before:List MemPlace} {tb:TypeId} {gl:Fr} {vs:List V}
  (hl:laidOutB P = true) (hpar:(fn.params.toList.all fun t=>P.readableRec t && decide (t < P.types.size)) = true) (hres:fn.resultTypes = #[tb]) (htb:P.underlying tb = some .bool) (hvars:s.vars = [])
  (hfn:s.fn H (ds ++ gs) = { results:=[.lit (.bool true)],args:=ds }) (hW:DataW.Whole enc P fn.params.toList s.vars false W args.toList ds gs before)
  (hgl:qdy (qkv W) gl) (hsz:args.size = vs.length) (hrel:∀ i,i < vs.length->qak (qkv W) M0 (vs.getD i .undef) (args.getD i undef)) (hc:qac P gl f vs (.bool true)) :
  Calls P f args W fun e W'=>∃ v,e = .returned v/\s.post enc P fn false true false false W args v W':=by
 refine Calls.mono (hc.2 (qkv W) W args (q06 W) hgl hsz hrel) ?_;rintro e W' ⟨rv,G',rfl,hv,hg,hx⟩;have:=qbk hv;subst this;exact ⟨_,rfl,qyj hl hpar hres htb hvars hfn hW ⟨hx.os,hx.tape,hx.output,hx.size,fun k hk=>hx.keep k hk (qbc k)⟩⟩
end
section
open Go Go.RowKit Go.ChangeShapes
theorem qa5 {p:TypeId->V->Prop} {t:TypeId} {ts:List TypeId} {vs:List V} (h:qfv p (t :: ts) vs):∃ v vs',vs = v :: vs'/\p t v/\qfv p ts vs':=by
 cases vs with
 | nil=>exact h.elim
 | cons v vs=>exact ⟨v,vs,rfl,h.1,h.2⟩
theorem qf8 {p:TypeId->V->Prop} {vs:List V} (h:qfv p [] vs):vs = []:=by
 cases vs with
 | nil=>rfl
 | cons v vs=>exact h.elim
theorem strs {xs:List V} (h:∀ x ∈ xs,∃ s:List UInt8,x = .str s/\s.length≤maxLen):∃ l:List (List UInt8),xs = l.map .str:=by
 induction xs with
 | nil=>exact ⟨[],rfl⟩
 | cons x xs ih=>
  obtain ⟨s,rfl,-⟩:=h x List.mem_cons_self;obtain ⟨l,rfl⟩:=ih fun y hy=>h y (List.mem_cons_of_mem _ hy);exact ⟨s :: l,rfl⟩
section
variable {P:Program} {bs:BS} {n:Nat} {t:TypeId} {v:V}
theorem qh3 {e:TypeId} (hu:P.underlying t = some (.slice e)) (h:qeu P (n + 1) t v):∃ xs:List V,v = .sl xs none/\xs.length≤maxLen/\∀ x ∈ xs,qeu P n e x:=by simp only [qeu,hu] at h; exact h
theorem qgz {fs:Array Field} (hu:P.underlying t = some (.struct fs)) (h:qeu P (n + 1) t v):∃ ps:List V,v = .agg (ps.flatMap V.cells)/\qfv (qeu P n) (fs.toList.map (·.type)) ps:=by simp only [qeu,hu] at h; exact h
theorem qf9 {m:Nat} {e:TypeId} (hu:P.underlying t = some (.array m e)) (h:qeu P (n + 1) t v):∃ ps:List V,v = .agg (ps.flatMap V.cells)/\ps.length = m/\∀ x ∈ ps,qeu P n e x:=by simp only [qeu,hu] at h; exact h
theorem qx8 {k:IntKind} (hu:P.underlying t = some (.int k)) (h:qeu P (n + 1) t v):∃ i,v = .int k i/\(Lit.int k i).wf = true:=by simp only [qeu,hu] at h; exact h
theorem qn5 (hu:P.underlying t = some .bool) (h:qeu P (n + 1) t v):∃ b,v = .bool b:=by simp only [qeu,hu] at h; exact h
theorem q2c (hu:P.underlying t = some .string) (h:qeu P (n + 1) t v):∃ s:List UInt8,v = .str s/\s.length≤maxLen:=by simp only [qeu,hu] at h; exact h
theorem qvb {α:Type} {f:α->V} {Q:α->Prop} {xs:List V} (h:∀ x ∈ xs,∃ a,x = f a/\Q a):∃ l:List α,xs = l.map f/\∀ a ∈ l,Q a:=by
 induction xs with
 | nil=>exact ⟨[],rfl,by simp⟩
 | cons x xs ih=>
  obtain ⟨a,rfl,ha⟩:=h x List.mem_cons_self;obtain ⟨l,rfl,hl⟩:=ih fun y hy=>h y (List.mem_cons_of_mem _ hy)
  exact ⟨a :: l,rfl,fun b hb=>by
   rcases List.mem_cons.1 hb with rfl | hb
   ·exact ha
   ·exact hl b hb⟩
end
mutual
def V.size:V->Nat
 | .agg cs=>jis cs
 | .tup cs=>jis cs
 | .sl xs _=>jis xs + 1
 | .str s=>s.length + 1
 | .iptr _ _=>0
 | .fn _ _ _=>0
 | .ref ..=>0
 | .ptr ..=>0
 | .own ..=>0
 | .undef=>0
 | .int ..=>1
 | .bool _=>1
 | .nilfn=>0
 | .nilmap=>0
 | .err _=>0
 | .nil=>1
def jis:List V->Nat
 | []=>0
 | v :: r=>v.size + jis r
end
theorem jjt:∀ (a b:List V),jis (a ++ b) = jis a + jis b
 | [],b=>by simp [jis]
 | x :: a,b=>by simp only [List.cons_append,jis,jjt a b]; omega
theorem jj3 (v:V):jis v.cells = v.size:=by
 cases v <;> simp [V.cells,V.size,jis]
theorem jjx {v:V}:∀ {l:List V},v ∈ l->v.size≤jis l
 | x :: l,h=>by
  simp only [jis];rcases List.mem_cons.1 h with rfl | h
  ·omega
  ·have:=jjx h; omega
section
variable {P:Program} {H:Type} {enc:TypeId × Value->H} {W:World} {sp:Nat->Bool} {held:Bool}
theorem qma:∀ (ts:List TypeId) (vs:List Value) (ds:List (DataW H)) (ps:List MemPlace) (base:Nat),(ts.all fun t=>qcn P 20 t) = true->DataW.TrodAll enc P W 0 sp held ts vs ds ps->
  (∀ (j:Nat) t v,ts[j]? = some t->vs[j]? = some v->Value.okWide P W .any base t v)->
  vs.length = (ds.map qdo).length/\ds.length = ts.length/\(∀ i,i < (ds.map qdo).length->qak (qkv W) M0 ((ds.map qdo).getD i .undef) (vs.getD i undef))/\qfv (qeu P 20) ts (ds.map qdo)
 | [],[],[],ps,base,_,_,_=>⟨rfl,rfl,fun i hi=>by simp at hi,trivial⟩
 | [],[],_ :: _,ps,base,_,h,_=>h.elim
 | [],_ :: _,[],ps,base,_,h,_=>h.elim
 | [],_ :: _,_ :: _,ps,base,_,h,_=>h.elim
 | _ :: _,[],_,ps,base,_,h,_=>h.elim
 | _ :: _,_ :: _,[],ps,base,_,h,_=>h.elim
 | t :: ts,v :: vs,d :: ds,ps,base,hp,h,hv=>by
  simp only [List.all_cons,Bool.and_eq_true] at hp;obtain ⟨p1,q1,⟨fuel,h1⟩,h2,rfl⟩:=h;obtain ⟨i1,i2,i3,i4⟩:=qma ts vs ds q1 base hp.2 h2 (fun j t' v' a b=>hv (j + 1) t' v' (by simpa using a) (by simpa using b));have T:=qjk 20 fuel t v.cells.toList (d,p1) hp.1 h1;obtain ⟨o1,o2⟩:=qs5 hp.1 (hv 0 t v rfl rfl) T.has;obtain ⟨r1,r2,-⟩:=q1e hp.1 ⟨fuel,h1⟩ o1 o2;refine ⟨by simpa using i1,by simpa using i2,fun i hi=>?_,⟨r2,i4⟩⟩
  cases i with
  | zero=>exact r1
  | succ i=>simpa using i3 i (by simpa using hi)
theorem qof {f:FuncId} {fn:Func} {s:ChangeSpec} {args:Array Value} {ds gs:List (DataW H)} {before:List MemPlace} {tb:TypeId} {gl:Fr} {laid:List (String × DataW Unit)} {base:Nat}
  (hl:laidOutB P = true) (hpar:(fn.params.toList.all fun t=>P.readableRec t && decide (t < P.types.size)) = true) (hres:fn.resultTypes = #[tb]) (htb:P.underlying tb = some .bool) (hvars:s.vars = [])
  (hpl:(fn.params.toList.all fun t=>qcn P 20 t) = true) (hno:(laid.all fun x=>x.2.handleName?.isNone) = true) (hgl:glT P laid = gl)
  {np:Nat} (hnp:fn.params.toList.length = np) (hfn:∀ ds:List (DataW H),ds.length = np->s.fn H ds = { results:=[.lit (.bool true)],args:=ds })
  (hc:∀ vs,qfv (qeu P 20) fn.params.toList vs->qac P gl f vs (.bool true))
  (hval:∀ (j:Nat) t v,fn.params[j]? = some t->args[j]? = some v->Value.okWide P W .any base t v)
  (hW:DataW.Whole enc P fn.params.toList s.vars false W args.toList ds gs before) (hL:laidMetH P laid W) :
  Calls P f args W fun e W'=>∃ v,e = .returned v/\s.post enc P fn false true false false W args v W':=by
 obtain ⟨p,q,hA,hV,hpq,hfz,hnd⟩:=id hW;obtain ⟨i1,i2,i3,i4⟩:=qma _ _ _ _ base hpl hA (fun j t v a b=>hval j t v (by simpa using a) (by simpa using b));rw [hvars] at hV;obtain ⟨rfl,rfl⟩:=trodVars_none hV;rw [MakeChecks.laidMetH_plain P laid W hno] at hL;obtain ⟨ps,hL,-⟩:=hL;have hg:=qpy hL;rw [hgl] at hg;refine qoe hl hpar hres htb hvars (by rw [List.append_nil]; exact hfn ds (i2.trans hnp)) hW hg (vs:=ds.map qdo) (by simpa using i1) (fun i hi=>?_) (hc _ i4);have:=i3 i hi;rw [jkd (l:=args.toList),Array.getElem?_toList] at this;rw [jke]; exact this
theorem qyi {f:FuncId} {fn:Func} {s:ChangeSpec} {args:Array Value} {ds gs:List (DataW H)} {before:List MemPlace} {tb:TypeId} {gl:Fr} {laid:List (String × DataW Unit)} {base:Nat}
  (hl:laidOutB P = true) (hpar:(fn.params.toList.all fun t=>P.readableRec t && decide (t < P.types.size)) = true) (hres:fn.resultTypes = #[tb]) (htb:P.underlying tb = some .bool) (hvars:s.vars = [])
  (hpl:(fn.params.toList.all fun t=>qcn P 20 t) = true) (hno:(laid.all fun x=>x.2.handleName?.isNone) = true) (hgl:glT P laid = gl)
  {np:Nat} (hnp:fn.params.toList.length = np) (hfn:∀ ds:List (DataW H),ds.length = np->s.fn H ds = { results:=[.lit (.bool true)],args:=ds })
  (hc:qfv (qeu P 20) fn.params.toList (ds.map qdo)->qac P gl f (ds.map qdo) (.bool true))
  (hval:∀ (j:Nat) t v,fn.params[j]? = some t->args[j]? = some v->Value.okWide P W .any base t v)
  (hW:DataW.Whole enc P fn.params.toList s.vars false W args.toList ds gs before) (hL:laidMetH P laid W) :
  Calls P f args W fun e W'=>∃ v,e = .returned v/\s.post enc P fn false true false false W args v W':=by
 obtain ⟨p,q,hA,hV,hpq,hfz,hnd⟩:=id hW;obtain ⟨i1,i2,i3,i4⟩:=qma _ _ _ _ base hpl hA (fun j t v a b=>hval j t v (by simpa using a) (by simpa using b));rw [hvars] at hV;obtain ⟨rfl,rfl⟩:=trodVars_none hV;rw [MakeChecks.laidMetH_plain P laid W hno] at hL;obtain ⟨ps,hL,-⟩:=hL;have hg:=qpy hL;rw [hgl] at hg;refine qoe hl hpar hres htb hvars (by rw [List.append_nil]; exact hfn ds (i2.trans hnp)) hW hg (vs:=ds.map qdo) (by simpa using i1) (fun i hi=>?_) (hc i4);have:=i3 i hi;rw [jkd (l:=args.toList),Array.getElem?_toList] at this;rw [jke]; exact this
end
end
end Go.Proofs.YtbbnmiaabmbheaaGreatDoor
