/- Lemmas. Conditions: none. -/
import Derived.Test.YtlmniacemoohpaaGreatDoorBase10
import Derived.OpenShut
import Derived.Carry
import Derived.ChangeSame
import Derived.RowKit
import Derived.ChangeArms
import Derived.ChangeShapes
import Derived.MakeChecks
set_option linter.all false
namespace Go.Proofs.YtlmniacemoohpaaGreatDoor
section
open Go Go.RowKit Go.ChangeShapes
theorem qz5 {P:Program} {H:Type} {enc:TypeId × Value->H} {fn:Func} {s:ChangeSpec} {W W':World} {args:Array Value} {ds gs:List (DataW H)} {before:List MemPlace} {tb:TypeId}
  (hl:laidOutB P = true) (hpar:(fn.params.toList.all fun t=>P.readableRec t && decide (t < P.types.size)) = true) (hres:fn.resultTypes = #[tb]) (htb:P.underlying tb = some .bool) (hvars:s.vars = [])
  (hfn:s.fn H (ds ++ gs) = { results:=[.lit (.bool true)],args:=ds }) (hW:DataW.Whole enc P fn.params.toList s.vars false W args.toList ds gs before) (hb:Below W.heap.size W W') :
  s.post enc P fn false true false false W args (.bool true) W':=by
 obtain ⟨p,q,hA,hV,hpq,hfz,hnd⟩:=id hW
 have hargs:DataW.TrodAll enc P W' 0 (fun b=>decide (b < W.heap.size)) true fn.params.toList args.toList ds p:=by
  have key:∀ (ts:List TypeId) (vs:List Value) (ds:List (DataW H)) (ps:List MemPlace),(∀ t ∈ ts,P.readableRec t = true/\t < P.types.size)->DataW.TrodAll enc P W 0 (fun _=>true) true ts vs ds ps->DataW.TrodAll enc P W' 0 (fun b=>decide (b < W.heap.size)) true ts vs ds ps:=by
   intro ts
   induction ts with
   | nil=>intro vs ds ps _ h; cases vs <;> cases ds <;> first | exact h | exact h.elim
   | cons t ts ih=>
    intro vs ds ps ht h
    cases vs with
    | nil=>exact h.elim
    | cons v vs=>
     cases ds with
     | nil=>exact h.elim
     | cons d ds=>
      have hlt:=h.lt;obtain ⟨p1,q1,⟨fuel,h1⟩,h2,rfl⟩:=h;obtain ⟨hr1,hr2⟩:=ht t List.mem_cons_self;have hp:∀ x ∈ p1,x.block < W.heap.size:=fun x hx=>hlt x (by simp [hx]);exact ⟨p1,q1,⟨fuel,DataW.trod_stays (kids_book hl hr1) (book_sized hr1) (fun h=>by cases h) ⟨hr2,book_self t⟩ h1 (fun x hx=>hb.same (hp x hx)) (fun x hx=>by simpa using hp x hx)⟩,ih vs ds q1 (fun t' ht'=>ht t' (List.mem_cons_of_mem _ ht')) h2,rfl⟩
  refine key _ _ _ _ (fun t ht=>?_) hA;have:=List.all_eq_true.1 hpar t ht;simpa using this
 rw [hvars] at hV;obtain ⟨rfl,rfl⟩:=trodVars_none hV;refine ⟨ds,[],before,[],p,[],hW,?_,?_,?_,⟨hb.os,hb.output,fun i hi=>?_⟩,fun h=>by cases h⟩
 ·rw [hfn,hres];exact trodAll_cons_mk (shut_bool htb true) trodAll_mk0
 ·rw [hfn]; exact hargs
 ·rw [hfn,hvars]; exact rfl
 ·rw [hb.block i hi]
  cases W.heap[i]? with
  | none=>trivial
  | some o=>cases o <;> simp
def qm3 (W:World):qa5:=fun k=>match W.heap[k]? with
 | some (.cells c _ _)=>some c
 | _=>none
theorem q2a (W:World):GIn (qm3 W) W:=fun k c hk=>by
 unfold qm3 at hk;split at hk
 ·rename_i c' ty fz he; cases hk; exact ⟨ty,fz,he⟩
 ·cases hk
mutual
def qej {H:Type}:DataW H->V
 | .lit (.int k n)=>.int k n
 | .lit (.bool b)=>.bool b
 | .lit (.string s)=>.str s
 | .nil=>.sl [] none
 | .slice es _=>.sl (qzk es) none
 | .agg ps=>.agg (qzj ps)
 | _=>.undef
def qzk {H:Type}:List (DataW H)->List V
 | []=>[]
 | d :: r=>qej d :: qzk r
def qzj {H:Type}:List (DataW H)->List V
 | []=>[]
 | d :: r=>(qej d).cells ++ qzj r
end
theorem qwd {H:Type} (l:List (DataW H)):qzk l = l.map qej:=by
 induction l with
 | nil=>rfl
 | cons a r ih=>simp [qzk,ih]
theorem qo9 {H:Type} (l:List (DataW H)):qzj l = l.flatMap fun d=>(qej d).cells:=by
 induction l with
 | nil=>rfl
 | cons a r ih=>simp [qzj,ih]
def qkm (P:Program):List Field->Nat->Nat->Bool
 | [],off,tot=>off == tot
 | f :: r,off,tot=>f.offset == off && qkm P r (off + P.cellsOf f.type) tot
def qdd (P:Program):Nat->TypeId->Bool
 | 0,_=>false
 | n + 1,t=>match P.underlying t with
  | some .bool=>P.cellsOf t == 1
  | some (.int _)=>P.cellsOf t == 1
  | some .string=>P.cellsOf t == 1
  | some (.slice e)=>P.cellsOf t == 1 && decide (0 < P.cellsOf e) && qdd P n e
  | some (.struct fs)=>qkm P fs.toList 0 (P.cellsOf t) && fs.toList.all fun f=>qdd P n f.type
  | some (.array m e)=>P.cellsOf t == m * P.cellsOf e && qdd P n e
  | _=>false
def qg9 (p:TypeId->V->Prop):List TypeId->List V->Prop
 | [],[]=>True
 | t :: ts,v :: vs=>p t v/\qg9 p ts vs
 | _,_=>False
def qf8 (P:Program):Nat->TypeId->V->Prop
 | 0,_,_=>False
 | n + 1,t,v=>match P.underlying t with
  | some .bool=>∃ b,v = .bool b
  | some (.int k)=>∃ i,v = .int k i/\(Lit.int k i).wf = true
  | some .string=>∃ s:List UInt8,v = .str s/\s.length≤maxLen
  | some (.slice e)=>∃ xs:List V,v = .sl xs none/\xs.length≤maxLen/\∀ x ∈ xs,qf8 P n e x
  | some (.struct fs)=>∃ ps:List V,v = .agg (ps.flatMap V.cells)/\qg9 (qf8 P n) (fs.toList.map (·.type)) ps
  | some (.array m e)=>∃ ps:List V,v = .agg (ps.flatMap V.cells)/\ps.length = m/\∀ x ∈ ps,qf8 P n e x
  | _=>False
def qoo (G:qa5) (l:List V) (cs:List Value):Prop:=cs.length = l.length/\∀ i,i < l.length->qal G M0 (l.getD i .undef) (cs.getD i undef)/\(cs.getD i undef).oneCell' = true
theorem qoo.nil (G:qa5):qoo G [] []:=⟨rfl,fun i hi=>by simp at hi⟩
theorem qoo.one {G:qa5} {v:V} {r:Value} (h:qal G M0 v r) (ho:r.oneCell' = true):qoo G [v] [r]:=⟨rfl,fun i hi=>by
 obtain rfl:i = 0:=by simpa using hi
 exact ⟨h,ho⟩⟩
theorem qoo.append {G:qa5} {a b:List V} {c d:List Value} (h:qoo G a c) (k:qoo G b d):qoo G (a ++ b) (c ++ d):=by
 refine ⟨by simp [h.1,k.1],fun i hi=>?_⟩;simp only [ji0,List.getElem?_append,h.1];by_cases hia:i < a.length
 ·simp only [if_pos hia];have:=h.2 i hia;simpa only [ji0] using this
 ·simp only [if_neg hia];have:=k.2 (i - a.length) (by simp at hi; omega);simpa only [ji0] using this
section
variable {P:Program} {H:Type} {enc:TypeId × Value->H} {W:World} {sp:Nat->Bool} {held:Bool}
theorem qy8 {a:Addr} (hs:a.spot = none) (i j:Nat):(a.add i).add j = ⟨a.block,a.off + i + j,none⟩:=by
 obtain ⟨b,o,s⟩:=a;simp only at hs;subst hs;unfold Addr.add;by_cases hi:i = 0 <;> by_cases hj:j = 0 <;> simp [hi,hj]
theorem ql8 {a:Addr} {m:Nat} {cs:List Value} (h:W.cells? 0 a m = some cs):cs.length = m/\∀ i,i < m->W.cell? (a.add i) = cs[i]?:=by
 unfold World.cells? at h;rw [if_pos (Nat.zero_le _)] at h;refine ⟨by simpa using mapM_some_length h,fun i hi=>mapM_some_get h i i (by simp [hi])⟩
theorem qo3 {a:Addr} {v:Value} (h:W.cell? a = some v):∃ c,qm3 W a.block = some c/\a.spot = none/\c[a.off]? = some v:=by
 unfold World.cell? at h;unfold qm3;split at h
 ·rename_i c ty fz he;split at h
  ·cases h
  ·rename_i hs;refine ⟨c,by rw [he],?_,h⟩
   cases hq:a.spot with
   | none=>rfl
   | some x=>rw [hq] at hs; simp at hs
 ·cases h
structure TR (P:Program) (W:World) (n:Nat) (t:TypeId) (cs:List Value) (v:V):Prop where
 len:cs.length = P.cellsOf t
 rel:qoo (qm3 W) v.cells cs
 ok:v.cellsOk = true
 has:qf8 P n t v
 pure:v.pure = true
theorem qm0 {n:Nat} {cs:List Value}:∀ (fs:List Field) (xs:List (DataW H × List MemPlace)) (off tot:Nat),qkm P fs off tot = true->cs.length = tot->xs.length = fs.length->
  (∀ (i:Nat) (f:Field) (x:DataW H × List MemPlace),fs[i]? = some f->xs[i]? = some x->TR P W n f.type ((cs.drop f.offset).take (P.cellsOf f.type)) (qej x.1))->
  qoo (qm3 W) (xs.flatMap fun x=>(qej x.1).cells) (cs.drop off)/\qg9 (qf8 P n) (fs.map (·.type)) (xs.map fun x=>qej x.1)/\∀ x ∈ xs,(qej x.1).pure = true
 | [],[],off,tot,hc,hl,hx,ha=>by
  simp only [qkm,beq_iff_eq] at hc;rw [List.drop_eq_nil_of_le (by omega)];exact ⟨qoo.nil _,trivial,fun x hx=>by cases hx⟩
 | [],_ :: _,_,_,_,_,hx,_=>by simp at hx
 | _ :: _,[],_,_,_,_,hx,_=>by simp at hx
 | f :: fs,x :: xs,off,tot,hc,hl,hx,ha=>by
  simp only [qkm,Bool.and_eq_true,beq_iff_eq] at hc;obtain ⟨hoff,hc⟩:=hc;have h0:=ha 0 f x rfl rfl;obtain ⟨i1,i2,i3⟩:=qm0 fs xs (off + P.cellsOf f.type) tot hc hl (by simpa using hx) (fun i f' x' hf hx'=>ha (i + 1) f' x' (by simpa using hf) (by simpa using hx'));refine ⟨?_,⟨h0.has,i2⟩,fun y hy=>?_⟩
  ·have e:cs.drop off = (cs.drop off).take (P.cellsOf f.type) ++ cs.drop (off + P.cellsOf f.type):=by
    rw [<- List.drop_drop,List.take_append_drop]
   rw [e,List.flatMap_cons];rw [hoff] at h0;exact h0.rel.append i1
  ·rcases List.mem_cons.1 hy with h | h
   ·subst h; exact h0.pure
   ·exact i3 y h
theorem qoz {n:Nat} {e:TypeId} {cs:List Value}:∀ (m k:Nat) (xs:List (DataW H × List MemPlace)),xs.length = m->cs.length = (k + m) * P.cellsOf e->
  (∀ (i:Nat) (x:DataW H × List MemPlace),xs[i]? = some x->TR P W n e ((cs.drop ((k + i) * P.cellsOf e)).take (P.cellsOf e)) (qej x.1))->
  qoo (qm3 W) (xs.flatMap fun x=>(qej x.1).cells) (cs.drop (k * P.cellsOf e))/\∀ x ∈ xs,qf8 P n e (qej x.1)/\(qej x.1).pure = true
 | 0,k,[],_,hl,_=>by
  rw [List.drop_eq_nil_of_le (by rw [hl]; simp)];exact ⟨qoo.nil _,fun x hx=>by cases hx⟩
 | 0,k,_ :: _,hx,_,_=>by simp at hx
 | m + 1,k,[],hx,_,_=>by simp at hx
 | m + 1,k,x :: xs,hx,hl,ha=>by
  have h0:=ha 0 x rfl;rw [Nat.add_zero] at h0
  obtain ⟨i1,i2⟩:=qoz m (k + 1) xs (by simpa using hx) (by rw [hl]; congr 1; omega) (fun i x' hx'=>by
   have:=ha (i + 1) x' (by simpa using hx');rw [show k + 1 + i = k + (i + 1) from by omega]; exact this)
  refine ⟨?_,fun y hy=>?_⟩
  ·have e1:cs.drop (k * P.cellsOf e) = (cs.drop (k * P.cellsOf e)).take (P.cellsOf e) ++ cs.drop ((k + 1) * P.cellsOf e):=by
    rw [Nat.add_mul,Nat.one_mul,<- List.drop_drop,List.take_append_drop]
   rw [e1,List.flatMap_cons];exact h0.rel.append i1
  ·rcases List.mem_cons.1 hy with h | h
   ·subst h; exact ⟨h0.has,h0.pure⟩
   ·exact i2 y h
theorem qle {l:List V} (h:∀ v ∈ l,v.pure = true):jgy (l.flatMap V.cells) = true:=by
 rw [jg0];intro v hv;obtain ⟨x,hx,hvx⟩:=List.mem_flatMap.1 hv;exact (jg0 _).1 (jhj (h x hx)) v hvx
theorem qkb:∀ (n fuel:Nat) (t:TypeId) (cs:List Value) (x:DataW H × List MemPlace),qdd P n t = true->DataW.trod enc P W 0 sp held fuel t cs = some x->TR P W n t cs (qej x.1)
 | 0,fuel,t,cs,x,hp,h=>by simp [qdd] at hp
 | n + 1,fuel,t,cs,x,hp,h=>by
  have ih:=fun fuel e cs x=>qkb n fuel e cs x;simp only [qdd] at hp;split at hp
  ·rename_i hu;obtain ⟨b,rfl,rfl⟩:=DataW.trod_bool hu h;exact ⟨by simpa using (beq_iff_eq.1 hp).symm,qoo.one (.bool b) rfl,rfl,by simp only [qf8,hu]; exact ⟨b,rfl⟩,rfl⟩
  ·rename_i k hu;obtain ⟨i,rfl,rfl,hwf⟩:=DataW.trod_int hu h;exact ⟨by simpa using (beq_iff_eq.1 hp).symm,qoo.one (.int k i) rfl,rfl,by simp only [qf8,hu]; exact ⟨i,rfl,hwf⟩,rfl⟩
  ·rename_i hu;obtain ⟨s,rfl,rfl,hm⟩:=DataW.trod_string hu h;refine ⟨by simpa using (beq_iff_eq.1 hp).symm,qoo.one ?_ rfl,rfl,by simp only [qf8,hu]; exact ⟨_,rfl,by simpa using hm⟩,rfl⟩;have:=qal.str (G:=qm3 W) (M:=M0) s.data.toList;simpa [qej] using this
  ·rename_i e hu;simp only [Bool.and_eq_true,beq_iff_eq,decide_eq_true_eq] at hp;obtain ⟨⟨hc1,hpos⟩,hpe⟩:=hp;rcases DataW.trod_slice hu h with ⟨rfl,rfl⟩ | ⟨a,len,cap,elems,rest,m,rfl,rfl,rfl,-,hlc,hcm,hel,hall,-,-⟩
   ·refine ⟨by simpa using hc1.symm,qoo.one (.slnil none none 0 (by simp) (.inl rfl)) rfl,rfl,by simp only [qf8,hu]; exact ⟨[],rfl,by simp,fun x hx=>by cases hx⟩,rfl⟩
   ·have hx:∀ (i:Nat) (x:DataW H × List MemPlace),elems[i]? = some x->∃ cs,W.cells? 0 (a.add (i * P.cellsOf e)) (P.cellsOf e) = some cs/\TR P W n e cs (qej x.1):=by
     intro i x hi;have hil:i < len:=by rw [<- hel]; exact (List.getElem?_eq_some_iff.1 hi).1
     have:=hall i hil;rw [hi] at this;obtain ⟨cs,q1,q2⟩:=Option.bind_eq_some_iff.1 this;exact ⟨cs,q1,ih m e cs x hpe q2⟩
    have henc:qej (DataW.slice (elems.map (·.1)) (rest.map (·.1))) = .sl (elems.map fun x=>qej x.1) none:=by
     simp [qej,qwd,Function.comp_def]
    have hmem:∀ v ∈ elems.map (fun x=>qej x.1),∃ cs,TR P W n e cs v:=by
     intro v hv;obtain ⟨x,hx',rfl⟩:=List.mem_map.1 hv;obtain ⟨i,hi⟩:=List.mem_iff_getElem?.1 hx';obtain ⟨cs,-,q⟩:=hx i x hi;exact ⟨cs,q⟩
    simp only [];rw [henc];refine ⟨by simpa using hc1.symm,qoo.one ?_ rfl,rfl,?_,?_⟩
    ·by_cases h0:len = 0
     ·have:elems = []:=List.length_eq_zero_iff.1 (by omega);subst this;subst h0;exact .slnil none _ cap (by simp) (.inr rfl)
     ·have hl0:0 < elems.length:=by omega
      obtain ⟨cs0,q1,q2⟩:=hx 0 elems[0] (ji4 hl0);rw [Nat.zero_mul] at q1;have ha0:a.add 0 = a:=by simp [Addr.add]
      rw [ha0] at q1;obtain ⟨g1,g2⟩:=ql8 q1;have g3:=g2 0 hpos;rw [ha0,ji4 (by omega)] at g3;obtain ⟨c,k1,k2,k3⟩:=qo3 g3
      have hcell:∀ i j,i < elems.length->j < P.cellsOf e->∃ x v,elems[i]? = some x/\c[a.off + i * P.cellsOf e + j]? = some v/\∃ cs,TR P W n e cs (qej x.1)/\cs[j]? = some v:=by
       intro i j hi hj;obtain ⟨cs,w1,w2⟩:=hx i elems[i] (ji4 hi);obtain ⟨l1,l2⟩:=ql8 w1;have l3:=l2 j hj;rw [ji4 (by omega)] at l3;obtain ⟨c',d1,d2,d3⟩:=qo3 l3;rw [qy8 k2] at d1 d3;simp only at d1 d3;rw [k1] at d1; cases d1;exact ⟨elems[i],_,ji4 hi,d3,cs,w2,ji4 (by omega)⟩
      have hgd:∀ i,i < elems.length->(elems.map fun x=>qej x.1).getD i .undef = qej (elems.getD i (.nil,[])).1:=fun i hi=>by
       simp [ji0,hi]
      have hspot:a = ⟨a.block,a.off,none⟩:=by
       obtain ⟨b,o,s⟩:=a;simp only at k2; rw [k2]
      rw [hspot];have hlen:(elems.map fun x=>qej x.1).length = elems.length:=by simp
      have:=qal.sl (G:=qm3 W) (M:=M0) (elems.map fun x=>qej x.1) none a.block a.off cap (P.cellsOf e) c (fun hn=>by rw [hn] at hlen; simp at hlen; omega) k1
       (fun i hi=>by
        rw [hlen] at hi;obtain ⟨x,v,x1,-,cs,x2,-⟩:=hcell i 0 hi hpos;rw [hgd i hi,ji0,x1];simp only [Option.getD_some];rw [<- x2.rel.1,x2.len])
       (by
        rw [hlen];obtain ⟨x,v,-,x3,-⟩:=hcell (elems.length - 1) (P.cellsOf e - 1) (by omega) (by omega);have:=(Array.getElem?_eq_some_iff.1 x3).1
        have e1:elems.length * P.cellsOf e = (elems.length - 1) * P.cellsOf e + P.cellsOf e:=by
         rw [<- Nat.succ_mul]; congr 1; omega
        rw [e1]; omega)
       (by rw [hlen]; omega) (by simp)
       (fun i j hi hj=>by
        rw [hlen] at hi;obtain ⟨x,v,x1,x3,cs,x2,x4⟩:=hcell i j hi hj;have hge:elems.getD i (.nil,[]) = x:=by rw [ji0,x1]; rfl
        rw [hgd i hi,hge];have:=(x2.rel.2 j (by rw [<- x2.rel.1,x2.len]; exact hj)).1;rw [ji0 (l:=cs),x4] at this;rw [ji1,x3];exact this)
       (fun i j hi hj=>by
        rw [hlen] at hi;obtain ⟨x,v,x1,x3,cs,x2,x4⟩:=hcell i j hi hj;have:=(x2.rel.2 j (by rw [<- x2.rel.1,x2.len]; exact hj)).2;rw [ji0,x4] at this;rw [ji1,x3];exact this)
      rw [hlen,hel] at this;exact this
    ·simp only [qf8,hu];refine ⟨_,rfl,by simp; omega,fun v hv=>?_⟩;obtain ⟨cs,q⟩:=hmem v hv;exact q.has
    ·simp only [V.pure];rw [jg0];intro v hv;obtain ⟨cs,q⟩:=hmem v hv;exact q.pure
  ·rename_i fs hu;simp only [Bool.and_eq_true,List.all_eq_true] at hp;obtain ⟨xs,m,rfl,rfl,hl,hxl,hall⟩:=DataW.trod_struct hu h
   obtain ⟨s1,s2,s3⟩:=qm0 (P:=P) (W:=W) (n:=n) fs.toList xs 0 (P.cellsOf t) hp.1 hl (by simpa using hxl) (fun i f x hf hx=>by
    have hm:=hall i f (by simpa using hf);rw [hx] at hm;exact ih m f.type _ x (hp.2 f (List.mem_of_getElem? hf)) hm)
   have henc:qej (DataW.agg (xs.map (·.1))) = .agg ((xs.map fun x=>qej x.1).flatMap V.cells):=by
    simp [qej,qo9,List.flatMap_map]
   simp only [];rw [henc];refine ⟨hl,?_,rfl,?_,?_⟩
   ·rw [List.drop_zero] at s1;simp only [V.cells,List.flatMap_map];exact s1
   ·simp only [qf8,hu]; exact ⟨_,rfl,s2⟩
   ·simp only [V.pure]
    exact qle fun v hv=>by
     obtain ⟨x,hx,rfl⟩:=List.mem_map.1 hv;exact s3 x hx
  ·rename_i m e hu;simp only [Bool.and_eq_true,beq_iff_eq] at hp;obtain ⟨xs,k,rfl,rfl,hl,hxl,hall⟩:=DataW.trod_array hu h
   obtain ⟨s1,s2⟩:=qoz (P:=P) (W:=W) (n:=n) (e:=e) m 0 xs hxl (by rw [hl,hp.1,Nat.zero_add]) (fun i x hx=>by
    have hi:i < m:=by rw [<- hxl]; exact (List.getElem?_eq_some_iff.1 hx).1
    have hm:=hall i hi;rw [hx] at hm;rw [Nat.zero_add];exact ih k e _ x hp.2 hm)
   have henc:qej (DataW.agg (xs.map (·.1))) = .agg ((xs.map fun x=>qej x.1).flatMap V.cells):=by
    simp [qej,qo9,List.flatMap_map]
   simp only [];rw [henc];refine ⟨hl,?_,rfl,?_,?_⟩
   ·rw [Nat.zero_mul,List.drop_zero] at s1;simp only [V.cells,List.flatMap_map];exact s1
   ·simp only [qf8,hu];refine ⟨_,rfl,by simp [hxl],fun v hv=>?_⟩;obtain ⟨x,hx,rfl⟩:=List.mem_map.1 hv;exact (s2 x hx).1
   ·simp only [V.pure]
    exact qle fun v hv=>by
     obtain ⟨x,hx,rfl⟩:=List.mem_map.1 hv;exact (s2 x hx).2
  ·cases hp
theorem q2i {n:Nat} {t:TypeId} {v:Value} {d:DataW H} {ps:List MemPlace} (hp:qdd P n t = true) (h:DataW.Trod enc P W 0 sp held t v d ps) (hag:(∃ cs,v = .agg cs)↔∃ cs,qej d = .agg cs) (hv:(∀ cs,v ≠ .agg cs)->v.cells = #[v]) :
  qal (qm3 W) M0 (qej d) v/\qf8 P n t (qej d)/\(qej d).pure = true:=by
 obtain ⟨fuel,h⟩:=h;have T:=qkb n fuel t v.cells.toList (d,ps) hp h;refine ⟨?_,T.has,T.pure⟩;by_cases ha:∃ cs,v = .agg cs
 ·obtain ⟨l,hl⟩:=hag.1 ha;obtain ⟨cs,rfl⟩:=ha;have hr:=T.rel;simp only at hr hl;rw [hl] at hr ⊢;simp only [V.cells,Value.cells] at hr;refine .agg l cs (by simpa using hr.1) (fun i hi=>?_) (fun i hi=>?_)
  ·have:=(hr.2 i hi).1;rw [ji0 (l:=cs.toList),Array.getElem?_toList] at this;rw [ji1]; exact this
  ·have:=(hr.2 i hi).2;rw [ji0,Array.getElem?_toList] at this;rw [ji1]; exact this
 ·have hna:¬ ∃ cs,qej d = .agg cs:=fun hc=>ha (hag.2 hc)
  have hc:(qej d).cells = [qej d]:=by
   have hok:=T.ok;simp only at hok
   cases hd:qej d <;> first
    | rfl
    | exact absurd ⟨_,hd⟩ hna
    | (rw [hd] at hok; simp [V.cellsOk,V.isCell] at hok)
  have hr:=T.rel;simp only at hr;rw [hc,hv (fun cs h=>ha ⟨cs,h⟩)] at hr;exact (hr.2 0 (by simp)).1
end
theorem quu {P:Program} {W:World} {base n:Nat} {t:TypeId} {v:Value} {w:V} (hp:qdd P n t = true) (h:Value.okWide P W .any base t v) (hh:qf8 P n t w):((∃ cs,v = .agg cs)↔∃ cs,w = .agg cs)/\((∀ cs,v ≠ .agg cs)->v.cells = #[v]):=by
 cases n with
 | zero=>simp [qdd] at hp
 | succ n=>
  simp only [qdd] at hp;simp only [qf8] at hh;unfold Value.okWide at h;split at hp
  ·rename_i hu;simp only [hu] at h hh;obtain ⟨b,rfl⟩:=hh;unfold Cell.okWide at h;simp only [hu] at h;cases v <;> simp_all [Cell.ok,Value.cells]
  ·rename_i k hu;simp only [hu] at h hh;obtain ⟨b,rfl,-⟩:=hh;unfold Cell.okWide at h;simp only [hu] at h;cases v <;> simp_all [Cell.ok,Value.cells]
  ·rename_i hu;simp only [hu] at h hh;obtain ⟨b,rfl,-⟩:=hh;unfold Cell.okWide at h;simp only [hu] at h;cases v <;> simp_all [Cell.ok,Value.cells]
  ·rename_i e hu;simp only [hu] at h hh;obtain ⟨b,rfl,-⟩:=hh;unfold Cell.okWide at h;simp only [hu] at h;cases v <;> simp_all [Cell.ok,Value.cells]
  ·rename_i fs hu;simp only [hu] at h hh;obtain ⟨b,rfl,-⟩:=hh;obtain ⟨cs,rfl,-⟩:=h;exact ⟨⟨fun _=>⟨_,rfl⟩,fun _=>⟨_,rfl⟩⟩,fun hc=>absurd rfl (hc cs)⟩
  ·rename_i m e hu;simp only [hu] at h hh;obtain ⟨b,rfl,-⟩:=hh;obtain ⟨cs,rfl,-⟩:=h;exact ⟨⟨fun _=>⟨_,rfl⟩,fun _=>⟨_,rfl⟩⟩,fun hc=>absurd rfl (hc cs)⟩
  ·cases hp
def glT {H:Type} (P:Program):List (String × DataW H)->Fr
 | []=>[]
 | (n,d) :: r=>match P.globalNamed n with
  | some g=>match (P.globals[g]?).map (·.type) with
   | some t=>bif qdd P 20 t then (g,.iptr (qej d) 0) :: glT P r else glT P r
   | none=>glT P r
  | none=>glT P r
theorem qw6 {P:Program} {W:World}:∀ {laid:List (String × DataW Unit)} {ps:List MemPlace},DataW.LaidVars P W laid ps->qeu (qm3 W) (glT P laid)
 | [],ps,_=>fun g v h=>by simp [glT,lk] at h
 | (n,d) :: r,ps,h=>by
  obtain ⟨g,t,cs,fuel,p,q,h1,h2,h3,h4,h5,-⟩:=h;have ih:=qw6 h5;simp only [glT,h1,h2]
  cases hp:qdd P 20 t with
  | false=>exact ih
  | true=>
   have T:=qkb 20 fuel t cs.toList (d,p) hp h4;intro g' v hv;simp only [cond_true,lk] at hv;split at hv
   ·rename_i he;subst he;cases hv;refine ⟨by simp only [V.pure]; exact T.pure,?_⟩
    have hG:qm3 W g' = some cs:=by
     unfold World.var? at h3;rw [h1] at h3;simp only [Option.bind_some] at h3;unfold qm3;split at h3
     ·rename_i c ty fz he; cases h3; rw [he]
     ·cases h3
    have hr:=T.rel;simp only at hr;refine .iptr (qej d) 0 g' 0 cs (GAll_le_none hG) (by simpa using Nat.le_of_eq hr.1.symm) (fun j hj=>?_) (fun j hj=>?_)
    ·rw [Nat.zero_add];have:=((hr.2 j hj).1).pure (fun _=>none) (jg2 (jhj T.pure) j);rw [ji0 (l:=cs.toList),Array.getElem?_toList] at this;rw [ji1]; exact this
    ·rw [Nat.zero_add];have:=(hr.2 j hj).2;rw [ji0,Array.getElem?_toList] at this;rw [ji1]; exact this
   ·exact ih g' v hv
where
 GAll_le_none {W:World} {g:Nat} {cs:Array Value} (h:qm3 W g = some cs):qm3 W g = some cs:=h
theorem qw8 {P:Program} {H:Type} {enc:TypeId × Value->H} {f:FuncId} {fn:Func} {s:ChangeSpec} {W:World} {args:Array Value} {ds gs:List (DataW H)} {before:List MemPlace} {tb:TypeId} {gl:Fr} {vs:List V}
  (hl:laidOutB P = true) (hpar:(fn.params.toList.all fun t=>P.readableRec t && decide (t < P.types.size)) = true) (hres:fn.resultTypes = #[tb]) (htb:P.underlying tb = some .bool) (hvars:s.vars = [])
  (hfn:s.fn H (ds ++ gs) = { results:=[.lit (.bool true)],args:=ds }) (hW:DataW.Whole enc P fn.params.toList s.vars false W args.toList ds gs before)
  (hgl:qeu (qm3 W) gl) (hsz:args.size = vs.length) (hrel:∀ i,i < vs.length->qal (qm3 W) M0 (vs.getD i .undef) (args.getD i undef)) (hc:qac P gl f vs (.bool true)) :
  Calls P f args W fun e W'=>∃ v,e = .returned v/\s.post enc P fn false true false false W args v W':=by
 refine Calls.mono (hc.2 (qm3 W) W args (q2a W) hgl hsz hrel) ?_;rintro e W' ⟨rv,G',rfl,hv,hg,hx⟩;have:=qbc hv;subst this;exact ⟨_,rfl,qz5 hl hpar hres htb hvars hfn hW ⟨hx.os,hx.tape,hx.output,hx.size,fun k hk=>hx.keep k hk (qb0 k)⟩⟩
end
section
open Go Go.RowKit Go.ChangeShapes
theorem qbq {p:TypeId->V->Prop} {t:TypeId} {ts:List TypeId} {vs:List V} (h:qg9 p (t :: ts) vs):∃ v vs',vs = v :: vs'/\p t v/\qg9 p ts vs':=by
 cases vs with
 | nil=>exact h.elim
 | cons v vs=>exact ⟨v,vs,rfl,h.1,h.2⟩
theorem qiq {p:TypeId->V->Prop} {vs:List V} (h:qg9 p [] vs):vs = []:=by
 cases vs with
 | nil=>rfl
 | cons v vs=>exact h.elim
section
variable {P:Program} {bs n:Nat} {t:TypeId} {v:V}
theorem qmi {e:TypeId} (hu:P.underlying t = some (.slice e)) (h:qf8 P (n + 1) t v):∃ xs:List V,v = .sl xs none/\xs.length≤maxLen/\∀ x ∈ xs,qf8 P n e x:=by simp only [qf8,hu] at h; exact h
theorem qky {fs:Array Field} (hu:P.underlying t = some (.struct fs)) (h:qf8 P (n + 1) t v):∃ ps:List V,v = .agg (ps.flatMap V.cells)/\qg9 (qf8 P n) (fs.toList.map (·.type)) ps:=by simp only [qf8,hu] at h; exact h
theorem qir {m:Nat} {e:TypeId} (hu:P.underlying t = some (.array m e)) (h:qf8 P (n + 1) t v):∃ ps:List V,v = .agg (ps.flatMap V.cells)/\ps.length = m/\∀ x ∈ ps,qf8 P n e x:=by simp only [qf8,hu] at h; exact h
theorem qs3 {k:IntKind} (hu:P.underlying t = some (.int k)) (h:qf8 P (n + 1) t v):∃ i,v = .int k i/\(Lit.int k i).wf = true:=by simp only [qf8,hu] at h; exact h
theorem qpj (hu:P.underlying t = some .bool) (h:qf8 P (n + 1) t v):∃ b,v = .bool b:=by simp only [qf8,hu] at h; exact h
theorem qxc {α:Type} {f:α->V} {Q:α->Prop} {xs:List V} (h:∀ x ∈ xs,∃ a,x = f a/\Q a):∃ l:List α,xs = l.map f/\∀ a ∈ l,Q a:=by
 induction xs with
 | nil=>exact ⟨[],rfl,by simp⟩
 | cons x xs ih=>
  obtain ⟨a,rfl,ha⟩:=h x List.mem_cons_self;obtain ⟨l,rfl,hl⟩:=ih fun y hy=>h y (List.mem_cons_of_mem _ hy)
  exact ⟨a :: l,rfl,fun b hb=>by
   rcases List.mem_cons.1 hb with rfl | hb
   ·exact ha
   ·exact hl b hb⟩
end
section
variable {P:Program} {H:Type} {enc:TypeId × Value->H} {W:World} {sp:Nat->Bool} {held:Bool}
theorem qsk:∀ (ts:List TypeId) (vs:List Value) (ds:List (DataW H)) (ps:List MemPlace) (base:Nat),(ts.all fun t=>qdd P 20 t) = true->DataW.TrodAll enc P W 0 sp held ts vs ds ps->
  (∀ (j:Nat) t v,ts[j]? = some t->vs[j]? = some v->Value.okWide P W .any base t v)->
  vs.length = (ds.map qej).length/\ds.length = ts.length/\(∀ i,i < (ds.map qej).length->qal (qm3 W) M0 ((ds.map qej).getD i .undef) (vs.getD i undef))/\qg9 (qf8 P 20) ts (ds.map qej)
 | [],[],[],ps,base,_,_,_=>⟨rfl,rfl,fun i hi=>by simp at hi,trivial⟩
 | [],[],_ :: _,ps,base,_,h,_=>h.elim
 | [],_ :: _,[],ps,base,_,h,_=>h.elim
 | [],_ :: _,_ :: _,ps,base,_,h,_=>h.elim
 | _ :: _,[],_,ps,base,_,h,_=>h.elim
 | _ :: _,_ :: _,[],ps,base,_,h,_=>h.elim
 | t :: ts,v :: vs,d :: ds,ps,base,hp,h,hv=>by
  simp only [List.all_cons,Bool.and_eq_true] at hp;obtain ⟨p1,q1,⟨fuel,h1⟩,h2,rfl⟩:=h;obtain ⟨i1,i2,i3,i4⟩:=qsk ts vs ds q1 base hp.2 h2 (fun j t' v' a b=>hv (j + 1) t' v' (by simpa using a) (by simpa using b));have T:=qkb 20 fuel t v.cells.toList (d,p1) hp.1 h1;obtain ⟨o1,o2⟩:=quu hp.1 (hv 0 t v rfl rfl) T.has;obtain ⟨r1,r2,-⟩:=q2i hp.1 ⟨fuel,h1⟩ o1 o2;refine ⟨by simpa using i1,by simpa using i2,fun i hi=>?_,⟨r2,i4⟩⟩
  cases i with
  | zero=>exact r1
  | succ i=>simpa using i3 i (by simpa using hi)
theorem qpp {f:FuncId} {fn:Func} {s:ChangeSpec} {args:Array Value} {ds gs:List (DataW H)} {before:List MemPlace} {tb:TypeId} {gl:Fr} {laid:List (String × DataW Unit)} {base:Nat}
  (hl:laidOutB P = true) (hpar:(fn.params.toList.all fun t=>P.readableRec t && decide (t < P.types.size)) = true) (hres:fn.resultTypes = #[tb]) (htb:P.underlying tb = some .bool) (hvars:s.vars = [])
  (hpl:(fn.params.toList.all fun t=>qdd P 20 t) = true) (hno:(laid.all fun x=>x.2.handleName?.isNone) = true) (hgl:glT P laid = gl)
  {np:Nat} (hnp:fn.params.toList.length = np) (hfn:∀ ds:List (DataW H),ds.length = np->s.fn H ds = { results:=[.lit (.bool true)],args:=ds })
  (hc:∀ vs,qg9 (qf8 P 20) fn.params.toList vs->qac P gl f vs (.bool true))
  (hval:∀ (j:Nat) t v,fn.params[j]? = some t->args[j]? = some v->Value.okWide P W .any base t v)
  (hW:DataW.Whole enc P fn.params.toList s.vars false W args.toList ds gs before) (hL:laidMetH P laid W) :
  Calls P f args W fun e W'=>∃ v,e = .returned v/\s.post enc P fn false true false false W args v W':=by
 obtain ⟨p,q,hA,hV,hpq,hfz,hnd⟩:=id hW;obtain ⟨i1,i2,i3,i4⟩:=qsk _ _ _ _ base hpl hA (fun j t v a b=>hval j t v (by simpa using a) (by simpa using b));rw [hvars] at hV;obtain ⟨rfl,rfl⟩:=trodVars_none hV;rw [MakeChecks.laidMetH_plain P laid W hno] at hL;obtain ⟨ps,hL,-⟩:=hL;have hg:=qw6 hL;rw [hgl] at hg;refine qw8 hl hpar hres htb hvars (by rw [List.append_nil]; exact hfn ds (i2.trans hnp)) hW hg (vs:=ds.map qej) (by simpa using i1) (fun i hi=>?_) (hc _ i4);have:=i3 i hi;rw [ji0 (l:=args.toList),Array.getElem?_toList] at this;rw [ji1]; exact this
end
end
end Go.Proofs.YtlmniacemoohpaaGreatDoor
