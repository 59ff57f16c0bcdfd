/- Each ideal operation but the calls stands for the model's: second part. No program stands in it. Conditions: none. Each ideal operation but the calls stands for the model's: third part. No program stands in it. Conditions: none. Each ideal operation but the calls stands for the model's: fourth part. No program stands in it. Conditions: none. -/
import Derived.Test.YtcdfifbabhfknaaDoorBase2
import Derived.Laws.Small
import Derived.Laws.Append
namespace Go.Proofs.YtcdfifbabhfknaaDoor
open Go
theorem splice_getD (cur : List Value) (off : Nat) (vs : List Value) (i : Nat) (h : off + vs.length ≤ cur.length) :
  (cur.take off ++ vs ++ cur.drop (off + vs.length)).getD i undef = if off ≤ i∧i < off + vs.length then vs.getD (i - off) undef else cur.getD i undef:=by
 simp only [List.getD_eq_getElem?_getD,List.getElem?_append,List.length_append,List.length_take,List.getElem?_take,List.getElem?_drop]
 have hm : min off cur.length = off:=by omega
 rw [hm]
 by_cases h1 : i < off
 ·have : ¬ (off ≤ i∧i < off + vs.length):=by omega
  rw [if_pos (by omega),if_pos h1,if_pos h1,if_neg this]
 ·by_cases h2 : i < off + vs.length
  ·rw [if_pos (by omega),if_neg h1,if_pos (by omega)]
  ·have : ¬ (off ≤ i∧i < off + vs.length):=by omega
   rw [if_neg (by omega),if_neg this]
   congr 2
   omega
theorem spliceV_getD (cur : List V) (off : Nat) (vs : List V) (i : Nat) (h : off + vs.length ≤ cur.length) :
  (cur.take off ++ vs ++ cur.drop (off + vs.length)).getD i .undef = if off ≤ i∧i < off + vs.length then vs.getD (i - off) .undef else cur.getD i .undef:=by
 simp only [List.getD_eq_getElem?_getD,List.getElem?_append,List.length_append,List.length_take,List.getElem?_take,List.getElem?_drop]
 have hm : min off cur.length = off:=by omega
 rw [hm]
 by_cases h1 : i < off
 ·have : ¬ (off ≤ i∧i < off + vs.length):=by omega
  rw [if_pos (by omega),if_pos h1,if_pos h1,if_neg this]
 ·by_cases h2 : i < off + vs.length
  ·rw [if_pos (by omega),if_neg h1,if_pos (by omega)]
  ·have : ¬ (off ≤ i∧i < off + vs.length):=by omega
   rw [if_neg (by omega),if_neg this]
   congr 2
   omega
section
variable {P : Program} {gl : Fr} {bs n : Nat} {fr : Fr} {h : Hp} {G : GMap} {M : MMap} {a : Act} {w : World}
theorem V.putV_cells {off m : Nat} {v x : V} (h : V.putOk off m v x) : (V.putV off m v x).cells = x.cells.take off ++ v.cells ++ x.cells.drop (off + m):=by
 obtain ⟨h1,h2,h3⟩:=h
 unfold V.putV
 split
 ·rfl
 ·rename_i hx
  have hx' : x.cells = [x]:=by cases x <;> first | rfl | exact absurd rfl (hx _)
  have h3' : off = 0∧m = 1∧x.isCell = true∧v.isCell = true:=by
   revert h3; cases x <;> first | exact id | exact absurd rfl (hx _)
  obtain ⟨rfl,rfl,-,-⟩:=h3'
  simp [hx']
theorem V.putOk_le {off m : Nat} {v x : V} (h : V.putOk off m v x) : off + m ≤ x.cells.length:=by
 obtain ⟨h1,h2,h3⟩:=h
 cases x <;> first
  | exact h3
  | (obtain ⟨rfl,rfl,-,-⟩:=h3; simp [V.cells])
theorem list_set_getD {es : List V} {i k : Nat} {e : V} (hi : i < es.length) : (es.set i e).getD k .undef = if k = i then e else es.getD k .undef:=by
 simp only [List.getD_eq_getElem?_getD,List.getElem?_set]
 by_cases hk : i = k
 ·subst hk; simp [hi]
 ·rw [if_neg hk,if_neg (fun e=>hk e.symm)]
theorem row_ne {i k sz j l : Nat} (hne : k ≠ i) (hj : j < sz) (hl : l < sz) : k * sz + j ≠ i * sz + l:=by
 intro e
 rcases Nat.lt_or_gt_of_ne hne with h | h
 ·have:=Nat.mul_le_mul_right sz (show k + 1 ≤ i by omega); rw [Nat.add_mul] at this; omega
 ·have:=Nat.mul_le_mul_right sz (show i + 1 ≤ k by omega); rw [Nat.add_mul] at this; omega
theorem oneCell_toList {r : Value} {v : V} (hv : RelV G M v r) (hc : v.cellsOk = true) : ∀ u ∈ r.cells.toList,u.oneCell' = true:=by
 obtain ⟨h1,h2⟩:=hv.cells hc
 intro u hu
 obtain ⟨i,hi,rfl⟩:=List.mem_iff_getElem.1 hu
 have hi' : i < r.cells.size:=by simpa using hi
 have:=(h2 i (by omega)).2
 simpa [Array.getD_eq_getD_getElem?,hi'] using this
theorem sound_store (hr : R bs n gl G M fr h a w) {o : Oper} {t : TypeId} {x y : Operand} {ty : Bool × Nat × Nat} {Q : Exit→Act→World→Prop} {K : V→Hp→Prop} (ho : o.op = .store t x y) (ht : tyOf P t = some ty) {id : Nat}
  (hi : istep P gl id fr h K (.store ty.2.1 (co x) (co y))) : o.wp P a w (OpPost h id K G M w o a) Q:=by
 simp only [istep] at hi
 split at hi
 ·rename_i b g i off v hx hy
  split at hi
  ·rename_i g' sz es hb
   obtain ⟨rfl,hlt,hput,hi⟩:=hi
   have ry:=ev_co hr hy
   obtain ⟨mb,rb,arr,ty',h1,h2,h3,h4,h5,h6,h7,h8,h9,h10⟩:=own_ptr hr.sim (ev_co hr hx) hb hlt
   obtain ⟨c1,c2⟩:=ry.cells hput.2.1
   have hle:=V.putOk_le hput
   rw [h9 i hlt] at hle
   have hvl : v.cells.length = ty.2.1:=hput.1
   have heb:=elem_bound (sz:=sz) hlt h8
   obtain ⟨-,hsz,-⟩:=tyOf_spec (P:=P) (t:=t) (ag:=ty.1) (n:=ty.2.1) (by_:=ty.2.2) (by rw [ht])
   have hlen : (a.eval y).cells.toList.length = ty.2.1:=by simp; omega
   have hst:=run_storeCells_at P rb (mb.base + i * sz + off) ty' (a.eval y).cells.toList 0 arr w h6 (by omega) (oneCell_toList ry hput.2.1)
   simp only [Nat.add_zero] at hst
   have hrun : (execOp a.eval o).run P w = .ok .skip (w.setRow rb (arr.toList.take (mb.base + i * sz + off) ++ (a.eval y).cells.toList ++ arr.toList.drop (mb.base + i * sz + off + (a.eval y).cells.toList.length)).toArray):=by
    have hne : ¬ (a.eval y).cells.size ≠ ty.2.1:=by omega
    simp only [execOp,ho,Instr.storeAt,h5,Instr.sureAddr,storeVar,Sem.run_bind,Sem.run_pure,Result.andThen_ok,hsz]
    rw [if_neg hne]
    simp [hst]
   have hkey:=hr.sim.change (w':=w.setRow rb (arr.toList.take (mb.base + i * sz + off) ++ (a.eval y).cells.toList ++ arr.toList.drop (mb.base + i * sz + off + (a.eval y).cells.toList.length)).toArray)
    b mb (.row g' sz (es.set i (V.putV off ty.2.1 v (es.getD i .undef)))) (fun m hm=>.inr (by rw [h1] at hm; cases hm; rfl)) (fun r hr'=>.inr ⟨mb,h1,hr'⟩)
    (by rw [size_setRow]; exact Nat.le_refl _) (fun k _ hk=>heap_setRow_ne _ _ _ _ (fun e=>hk (by rw [h4,e]))) (fun _ _ _ _=>trivial) rfl rfl rfl ?_
   ·exact fin_skip hrun hi hkey.1 hkey.2 (fun b' hb' h0=>by
     by_cases e : b' = b
     ·subst e; rw [hb] at h0; cases h0
     ·exact freshGen_upd _ _ _ _ e)
   ·refine ⟨mb,upd_same _ _ _,h2,h3,?_⟩
    have hle2 : M.le (upd M b mb):=MMap.le_upd fun m hm=>.inr (by rw [h1] at hm; cases hm; rfl)
    simp only [RowRel,h4]
    refine ⟨_,ty',setRow_heap w rb arr _ ty' (0,0) h6,?_,by simpa using h8,?_,?_⟩
    ·rw [h3]; simp; omega
    ·intro k hk
     rw [list_set_getD hlt,h3]
     split
     ·rw [V.putV_cells hput]
      have:=h9 i hlt
      simp only [List.length_append,List.length_take,List.length_drop]
      omega
     ·exact h9 k (by simpa using hk)
    ·intro k j hk hj
     rw [h3] at hj ⊢
     have hk' : k < es.length:=by simpa using hk
     rw [getD_toArray,splice_getD _ _ _ _ (by rw [hlen]; simp; omega),list_set_getD hlt,hlen]
     by_cases hki : k = i
     ·subst hki
      rw [if_pos rfl,V.putV_cells hput,← hvl,spliceV_getD _ _ _ _ (by rw [h9 k hlt,hvl]; exact hle)]
      by_cases hin : off ≤ j∧j < off + v.cells.length
      ·rw [if_pos hin,if_pos (by omega)]
       have:=c2 (j - off) (by omega)
       have e : mb.base + k * sz + j - (mb.base + k * sz + off) = j - off:=by omega
       rw [e]
       have e2 : (a.eval y).cells.toList.getD (j - off) undef = (a.eval y).cells.getD (j - off) undef:=by
        simp [List.getD_eq_getElem?_getD,Array.getD_eq_getD_getElem?]
       rw [e2]
       exact ⟨this.1.mono G.le_refl hle2,this.2⟩
      ·rw [if_neg hin,if_neg (by omega)]
       have:=h10 k j hk' hj
       have e2 : arr.toList.getD (mb.base + k * sz + j) undef = arr.getD (mb.base + k * sz + j) undef:=by
        simp [List.getD_eq_getElem?_getD,Array.getD_eq_getD_getElem?]
       rw [e2]
       exact ⟨this.1.mono G.le_refl hle2,this.2⟩
     ·rw [if_neg hki]
      have hnin : ¬ (mb.base + i * sz + off ≤ mb.base + k * sz + j∧mb.base + k * sz + j < mb.base + i * sz + off + ty.2.1):=by
       intro ⟨q1,q2⟩
       exact row_ne (l:=mb.base + k * sz + j - (mb.base + i * sz)) hki hj (by omega) (by omega)
      rw [if_neg hnin]
      have:=h10 k j hk' hj
      have e2 : arr.toList.getD (mb.base + k * sz + j) undef = arr.getD (mb.base + k * sz + j) undef:=by
       simp [List.getD_eq_getElem?_getD,Array.getD_eq_getD_getElem?]
      rw [e2]
      exact ⟨this.1.mono G.le_refl hle2,this.2⟩
  ·exact hi.elim
 ·exact hi.elim
theorem sound_beq (hr : R bs n gl G M fr h a w) {o : Oper} {op : BinOp} {t yt : TypeId} {x y : Operand} {neg : Bool} {Q : Exit→Act→World→Prop} {K : V→Hp→Prop} (ho : o.op = .binOp op t x y yt)
  (hop : op = if neg then .neq else .eql) (ht : P.underlying t = some .bool) {id : Nat} (hi : istep P gl id fr h K (.beq neg (co x) (co y))) : o.wp P a w (PurePost K G M w o a h) Q:=by
 simp only [istep] at hi
 split at hi
 ·rename_i p q hx hy
  have ex:=relV_bool_inv (ev_co hr hx)
  have ey:=relV_bool_inv (ev_co hr hy)
  refine fin_pure hr ?_ hi (.bool _)
  subst hop
  cases neg
  ·have:=run_eql_bool (P:=P) (w:=w) t p q ht
   simp only [execOp,ho,ex,ey,eqGuard,Bool.false_eq_true,if_false]
   simp [this]
  ·have:=run_neq_bool (P:=P) (w:=w) t p q ht
   simp only [execOp,ho,ex,ey,eqGuard,if_true]
   simp [this]
   cases p <;> cases q <;> rfl
 ·exact hi.elim
theorem sound_un (hr : R bs n gl G M fr h a w) {o : Oper} {op : UnOp} {t : TypeId} {x : Operand} {Q : Exit→Act→World→Prop} {K : V→Hp→Prop} (ho : o.op = .unOp op t x) {id : Nat}
  (hi : istep P gl id fr h K (.un op (co x))) : o.wp P a w (PurePost K G M w o a h) Q:=by
 simp only [istep] at hi
 split at hi
 ·rename_i v hv
  have rx:=ev_co hr hv
  unfold unW at hi
  split at hi
  ·have ex:=relV_bool_inv rx
   cases op <;> simp only [] at hi <;> first
    | exact hi.elim
    | exact fin_pure hr (by simp [execOp,ho,ex,Op.unary]) hi (.bool _)
  ·have ex:=relV_int_inv rx
   cases op <;> simp only [] at hi <;> first
    | exact hi.elim
    | (refine fin_pure hr ?_ hi (.int _ _); simp [execOp,ho,ex,Op.unary,Op.intArith]; done)
    | (refine fin_pure hr ?_ hi (.int _ _); simp [execOp,ho,ex,Op.unary,Op.intBits,bitsI]; done)
  ·exact hi.elim
 ·exact hi.elim
theorem sound_conv (hr : R bs n gl G M fr h a w) {o : Oper} {s d : TypeId} {ks k : IntKind} {x : Operand} {Q : Exit→Act→World→Prop} {K : V→Hp→Prop} (ho : o.op = .convert s d x)
  (h1 : P.underlying s = some (.int ks)) (h2 : P.underlying d = some (.int k)) {id : Nat} (hi : istep P gl id fr h K (.conv k (co x))) : o.wp P a w (PurePost K G M w o a h) Q:=by
 simp only [istep] at hi
 split at hi
 ·rename_i k0 m hv
  have ex:=relV_int_inv (ev_co hr hv)
  exact fin_pure hr (by simp [execOp,ho,ex,convert,underlying,h1,h2,Conv.intToInt]) hi (.int _ _)
 ·exact hi.elim
theorem sound_convS (hr : R bs n gl G M fr h a w) {o : Oper} {s d : TypeId} {x : Operand} {Q : Exit→Act→World→Prop} {K : V→Hp→Prop} (ho : o.op = .convert s d x)
  (h1 : P.underlying s = some .string) (h2 : P.underlying d = some .string) {_id : Nat} (hi : ∃ l,ev gl fr (co x) = some (.str l)∧K (.str l) h) : o.wp P a w (PurePost K G M w o a h) Q:=by
 obtain ⟨l,hx,hk⟩:=hi
 have ex:=relV_str_inv (ev_co hr hx)
 exact fin_pure hr (by simp [execOp,ho,ex,convert,underlying,h1,h2]) hk (.str _)
theorem sound_fieldA (hr : R bs n gl G M fr h a w) {o : Oper} {s : TypeId} {x : Operand} {i : Nat} {fields : Array Field} {f : Field} {ty : Bool × Nat × Nat} {Q : Exit→Act→World→Prop} {K : V→Hp→Prop} (ho : o.op = .fieldAddr s x i)
  (h1 : P.underlying s = some (.struct fields)) (h2 : fields[i]? = some f) (h3 : tyOf P f.type = some ty) (h4 : ty.2.1 ≠ 0) {id : Nat} (hi : istep P gl id fr h K (.fieldA f.offset (co x))) : o.wp P a w (PurePost K G M w o a h) Q:=by
 obtain ⟨-,hsz,-⟩:=tyOf_spec (P:=P) (t:=f.type) (ag:=ty.1) (n:=ty.2.1) (by_:=ty.2.2) (by rw [h3])
 have hrun : ∀ ad : Addr,a.eval x = .pointer (some ad)→(execOp a.eval o).run P w = .ok (.value (.pointer (some (ad.add f.offset)))) w:=by
  intro ad he
  simp [execOp,ho,Instr.fieldAt,underlying,h1,h2,he,Instr.sureAddr,fieldPlace,hsz,h4]
 simp only [istep] at hi
 split at hi
 ·rename_i y off hv
  have rx:=ev_co hr hv
  generalize hev : a.eval x = r at rx
  cases rx with
  | iptr _ _ rb ro cells hG hb hh hoo=>
   refine fin_pure hr (hrun _ hev) hi ?_
   rw [Addr.add_lit,Nat.add_assoc]
   exact .iptr _ _ rb ro cells hG hb hh hoo
 ·rename_i b g k off hv
  have rx:=ev_co hr hv
  generalize hev : a.eval x = r at rx
  cases rx with
  | ptr _ _ _ _ ad mb hM hg hh=>
   refine fin_pure hr (hrun _ hev) hi ?_
   refine .ptr _ _ _ _ _ mb hM hg fun hgen=>?_
   obtain ⟨rb,q1,rfl⟩:=hh hgen
   exact ⟨rb,q1,by rw [Addr.add_lit,Nat.add_assoc]⟩
 ·exact hi.elim
end
end Go.Proofs.YtcdfifbabhfknaaDoor
namespace Go.Proofs.YtcdfifbabhfknaaDoor
open Go
section
variable {P : Program} {gl : Fr} {bs n : Nat} {fr : Fr} {h : Hp} {G : GMap} {M : MMap} {a : Act} {w : World}
theorem sound_cvs (hr : R bs n gl G M fr h a w) {o : Oper} {s d : TypeId} {x : Operand} {Q : Exit→Act→World→Prop} {K : V→Hp→Prop} (ho : o.op = .convert s d x)
  (h1 : P.underlying s = some .string) (h2 : P.underlying d = some .string) {id : Nat} (hi : istep P gl id fr h K (.cvs (co x))) : o.wp P a w (PurePost K G M w o a h) Q:=by
 simp only [istep] at hi
 split at hi
 ·rename_i l hx
  exact sound_convS hr ho h1 h2 (_id:=id) ⟨l,hx,hi⟩
 ·exact hi.elim
theorem sound_idxA (hr : R bs n gl G M fr h a w) {o : Oper} {t e : TypeId} {x y : Operand} {ty : Bool × Nat × Nat} {Q : Exit→Act→World→Prop} {K : V→Hp→Prop} (ho : o.op = .indexAddr t x y)
  (h1 : P.underlying t = some (.slice e)) (h2 : tyOf P e = some ty) {id : Nat} (hi : istep P gl id fr h K (.idxA ty.2.1 (co x) (co y))) : o.wp P a w (PurePost K G M w o a h) Q:=by
 obtain ⟨-,hsz,-⟩:=tyOf_spec (P:=P) (t:=e) (ag:=ty.1) (n:=ty.2.1) (by_:=ty.2.2) (by rw [h2])
 have hrun : ∀ (ad : Addr) (len cap : Nat) (k : IntKind) (j : Int),a.eval x = .slice (some ad) len cap→a.eval y = .int k j→0 ≤ j→j < len→
   (execOp a.eval o).run P w = .ok (.value (.pointer (some (ad.add (j.toNat * ty.2.1))))) w:=by
  intro ad len cap k j ex ey hj0 hj1
  simp [execOp,ho,Instr.indexAt,ex,ey,asIntOf,underlying,h1,hsz,hj0,hj1]
 simp only [istep] at hi
 split at hi
 ·rename_i xs cap k j hx hy
  obtain ⟨hj0,hj1,hc,hi⟩:=hi
  have ey:=relV_int_inv (ev_co hr hy)
  have rx:=ev_co hr hx
  have hjl : j.toNat < xs.length:=by omega
  generalize hev : a.eval x = r at rx
  cases rx with
  | slnil=>simp at hjl
  | sl _ _ rb ro rcap sz cells hne hG hsz' hb hl hcc hh hoo=>
   have e1:=hsz' j.toNat hjl
   rw [hc] at e1; subst e1
   refine fin_pure hr (hrun _ _ _ _ _ hev ey hj0 hj1) hi ?_
   rw [Addr.add_lit]
   have heb:=elem_bound (sz:=ty.2.1) hjl (Nat.le_refl xs.length)
   exact .iptr _ 0 rb (ro + j.toNat * ty.2.1) cells hG (by omega) (fun q hq=>hh _ q hjl (by omega)) (fun q hq=>hoo _ q hjl (by omega))
 ·rename_i b g off len cap k j hx hy
  split at hi
  ·rename_i g' sz' es hb
   obtain ⟨rfl,rfl,hj0,hj1,hi⟩:=hi
   have ey:=relV_int_inv (ev_co hr hy)
   have rx:=ev_co hr hx
   obtain ⟨mb0,m1,m2,m3,m4⟩:=hr.sim.hb b _ hb
   generalize hev : a.eval x = r at rx
   cases rx with
   | ref _ _ _ _ _ ra rcap mb hM hg hl hcc hh=>
    rw [m1] at hM; cases hM
    have hre:=hh m2.symm
    cases hreal : mb0.real with
    | none=>simp only [RefReal,hreal] at hre; omega
    | some rb=>
     simp only [RefReal,hreal] at hre
     rcases hre with ⟨rfl,hroom⟩ | ⟨q,-⟩
     ·refine fin_pure hr (hrun _ _ _ _ _ hev ey hj0 hj1) hi ?_
      rw [Addr.add_lit]
      refine .ptr _ _ _ _ _ mb0 m1 (by omega) fun _=>⟨rb,hreal,?_⟩
      rw [m3,Nat.add_mul]; simp [Nat.add_assoc]
     ·omega
  ·exact hi.elim
 ·exact hi.elim
theorem sound_idxP (hr : R bs n gl G M fr h a w) {o : Oper} {t e : TypeId} {len : Nat} {x y : Operand} {ty : Bool × Nat × Nat} {Q : Exit→Act→World→Prop} {K : V→Hp→Prop} (ho : o.op = .indexAddr t x y)
  (h1 : P.underlying t = some (.array len e)) (h2 : tyOf P e = some ty) {id : Nat} (hi : istep P gl id fr h K (.idxP len ty.2.1 (co x) (co y))) : o.wp P a w (PurePost K G M w o a h) Q:=by
 obtain ⟨-,hsz,-⟩:=tyOf_spec (P:=P) (t:=e) (ag:=ty.1) (n:=ty.2.1) (by_:=ty.2.2) (by rw [h2])
 have hrun : ∀ (ad : Addr) (k : IntKind) (j : Int),a.eval x = .pointer (some ad)→a.eval y = .int k j→0 ≤ j→j < len→
   (execOp a.eval o).run P w = .ok (.value (.pointer (some (ad.add (j.toNat * ty.2.1))))) w:=by
  intro ad k j ex ey hj0 hj1
  simp [execOp,ho,Instr.indexAt,ex,ey,asIntOf,underlying,h1,hsz,hj0,hj1,Instr.sureAddr]
 simp only [istep] at hi
 split at hi
 ·rename_i y0 off k j hx hy
  obtain ⟨hj0,hj1,hi⟩:=hi
  have ey:=relV_int_inv (ev_co hr hy)
  have rx:=ev_co hr hx
  generalize hev : a.eval x = r at rx
  cases rx with
  | iptr _ _ rb ro cells hG hb hh hoo=>
   refine fin_pure hr (hrun _ _ _ hev ey hj0 hj1) hi ?_
   rw [Addr.add_lit,Nat.add_assoc]
   exact .iptr _ _ rb ro cells hG hb hh hoo
 ·rename_i b g k0 off k j hx hy
  obtain ⟨hj0,hj1,hi⟩:=hi
  have ey:=relV_int_inv (ev_co hr hy)
  have rx:=ev_co hr hx
  generalize hev : a.eval x = r at rx
  cases rx with
  | ptr _ _ _ _ ad mb hM hg hh=>
   refine fin_pure hr (hrun _ _ _ hev ey hj0 hj1) hi ?_
   refine .ptr _ _ _ _ _ mb hM hg fun hgen=>?_
   obtain ⟨rb,q1,rfl⟩:=hh hgen
   exact ⟨rb,q1,by rw [Addr.add_lit,Nat.add_assoc]⟩
 ·exact hi.elim
theorem sound_idxV (hr : R bs n gl G M fr h a w) {o : Oper} {t e : TypeId} {len : Nat} {x y : Operand} {ty : Bool × Nat × Nat} {Q : Exit→Act→World→Prop} {K : V→Hp→Prop} (ho : o.op = .index t x y)
  (h1 : P.underlying t = some (.array len e)) (h2 : tyOf P e = some ty) {id : Nat} (hi : istep P gl id fr h K (.idxV ty.1 len ty.2.1 (co x) (co y))) : o.wp P a w (PurePost K G M w o a h) Q:=by
 obtain ⟨-,hsz,-⟩:=tyOf_spec (P:=P) (t:=e) (ag:=ty.1) (n:=ty.2.1) (by_:=ty.2.2) (by rw [h2])
 simp only [istep] at hi
 split at hi
 ·rename_i cs k j hx hy
  obtain ⟨hj0,hj1,hok,hi⟩:=hi
  have ey:=relV_int_inv (ev_co hr hy)
  obtain ⟨arr,ex,hc⟩:=relV_agg_inv (ev_co hr hx)
  obtain ⟨rv,q1,q2⟩:=run_part (P:=P) (w:=w) (t:=e) (ag:=ty.1) (m:=ty.2.1) (by_:=ty.2.2) (by rw [h2]) hc hok
  exact fin_pure hr (by simp [execOp,ho,Instr.index,ex,ey,asIntOf,underlying,h1,hsz,hj0,hj1,q1]) hi q2
 ·exact hi.elim
theorem sound_idxS (hr : R bs n gl G M fr h a w) {o : Oper} {t : TypeId} {x y : Operand} {Q : Exit→Act→World→Prop} {K : V→Hp→Prop} (ho : o.op = .index t x y)
  (h1 : P.underlying t = some .string) {id : Nat} (hi : istep P gl id fr h K (.idxS (co x) (co y))) : o.wp P a w (PurePost K G M w o a h) Q:=by
 simp only [istep] at hi
 split at hi
 ·rename_i s k j hx hy
  obtain ⟨hj0,hj1,hi⟩:=hi
  have ey:=relV_int_inv (ev_co hr hy)
  have ex:=relV_str_inv (ev_co hr hx)
  have hlt : j.toNat < s.length:=by omega
  have hget : (⟨s.toArray⟩ : ByteArray)[j.toNat]? = some (s.getD j.toNat 0):=by
   have hlt' : j.toNat < (⟨s.toArray⟩ : ByteArray).size:=by simpa [ByteArray.size] using hlt
   rw [getElem?_pos (⟨s.toArray⟩ : ByteArray) j.toNat hlt']
   simp [List.getD_eq_getElem?_getD,hlt]
   rfl
  exact fin_pure hr (by simp only [execOp,ho,Instr.index,ex,ey,asIntOf,Sem.run_bind,Sem.run_pure,Result.andThen_ok,underlying,run_program,h1,if_pos hj0,hget]) hi (.int _ _)
 ·exact hi.elim
theorem sound_field (hr : R bs n gl G M fr h a w) {o : Oper} {s : TypeId} {x : Operand} {i : Nat} {fields : Array Field} {f : Field} {ty : Bool × Nat × Nat} {Q : Exit→Act→World→Prop} {K : V→Hp→Prop} (ho : o.op = .field s x i)
  (h1 : P.underlying s = some (.struct fields)) (h2 : fields[i]? = some f) (h3 : tyOf P f.type = some ty) {id : Nat} (hi : istep P gl id fr h K (.field ty.1 f.offset ty.2.1 (co x))) : o.wp P a w (PurePost K G M w o a h) Q:=by
 simp only [istep] at hi
 split at hi
 ·rename_i cs hx
  obtain ⟨arr,ex,hc⟩:=relV_agg_inv (ev_co hr hx)
  obtain ⟨rv,q1,q2⟩:=run_part (P:=P) (w:=w) (t:=f.type) (ag:=ty.1) (m:=ty.2.1) (by_:=ty.2.2) (by rw [h3]) hc hi.1
  exact fin_pure hr (by simp [execOp,ho,Instr.field,ex,asAgg,underlying,h1,h2,q1]) hi.2 q2
 ·exact hi.elim
theorem sl_inv {xs : List V} {cap : Option Nat} {r : Value} (h : RelV G M (.sl xs cap) r) : ∃ ra rcap,r = .slice ra xs.length rcap∧xs.length ≤ rcap∧(∀ c,cap = some c→rcap = c):=by
 cases h with
 | slnil _ base rcap hc hb=>exact ⟨base,rcap,rfl,Nat.zero_le _,hc⟩
 | sl _ _ rb ro rcap sz cells hne hG hsz hb hl hc hh ho=>exact ⟨_,rcap,rfl,hl,hc⟩
theorem arr_one {α : Type} {c : Array α} {x : α} (h : c.toList = [x]) : c = #[x]:=by rw [← Array.toArray_toList (xs:=c),h]
theorem arr_two {α : Type} {c : Array α} {x y : α} (h : c.toList = [x,y]) : c = #[x,y]:=by rw [← Array.toArray_toList (xs:=c),h]
theorem sound_len (hr : R bs n gl G M fr h a w) {o : Oper} {c : Call} {t e : TypeId} {x : Operand} {Q : Exit→Act→World→Prop} {K : V→Hp→Prop} (ho : o.op = .call c) (hc : c.callee = .builtin .len)
  (ha : c.args.toList = [x]) (hat : c.argTypes.toList = [t]) (h1 : P.underlying t = some (.slice e)) {id : Nat} (hi : istep P gl id fr h K (.len (co x))) : o.wp P a w (PurePost K G M w o a h) Q:=by
 have ha':=arr_one ha
 have hat':=arr_one hat
 simp only [istep] at hi
 split at hi
 ·rename_i xs cap hx
  obtain ⟨ra,rcap,ex,-,-⟩:=sl_inv (evN_co hr hx)
  exact fin_pure hr (by simp [execOp,ho,resolve,hc,invoke,builtin,Builtin.len_,ha',hat',ex,underlying,h1,goInt]) hi (.int _ _)
 ·rename_i b g off len cap hx
  have rx:=evN_co hr hx
  generalize hev : a.eval x = r at rx
  cases rx with
  | ref _ _ _ _ _ ra rcap mb hM hg hl hcc hh=>
   exact fin_pure hr (by simp [execOp,ho,resolve,hc,invoke,builtin,Builtin.len_,ha',hat',hev,underlying,h1,goInt]) hi (.int _ _)
 ·exact hi.elim
theorem sound_lenS (hr : R bs n gl G M fr h a w) {o : Oper} {c : Call} {t : TypeId} {x : Operand} {Q : Exit→Act→World→Prop} {K : V→Hp→Prop} (ho : o.op = .call c) (hc : c.callee = .builtin .len)
  (ha : c.args.toList = [x]) (hat : c.argTypes.toList = [t]) (h1 : P.underlying t = some .string) {id : Nat} (hi : istep P gl id fr h K (.lenS (co x))) : o.wp P a w (PurePost K G M w o a h) Q:=by
 have ha':=arr_one ha
 have hat':=arr_one hat
 simp only [istep] at hi
 split at hi
 ·rename_i s hx
  have ex:=relV_str_inv (ev_co hr hx)
  have hsz : (⟨s.toArray⟩ : ByteArray).size = s.length:=rfl
  exact fin_pure hr (rv:=.int .i64 s.length) (by simp [execOp,ho,resolve,hc,invoke,builtin,Builtin.len_,ha',hat',ex,underlying,h1,goInt,hsz]) hi (.int _ _)
 ·exact hi.elim
theorem sound_lenK (hr : R bs n gl G M fr h a w) {o : Oper} {c : Call} {t : TypeId} {m : Nat} {x : Operand} {Q : Exit→Act→World→Prop} {K : V→Hp→Prop} (ho : o.op = .call c) (hc : c.callee = .builtin .len)
  (ha : c.args.toList = [x]) (hat : c.argTypes.toList = [t]) (h1 : (∃ e,P.underlying t = some (.array m e))∨∃ u e,P.underlying t = some (.pointer u)∧P.underlying u = some (.array m e)) {id : Nat} (hi : istep P gl id fr h K (.lenK m)) : o.wp P a w (PurePost K G M w o a h) Q:=by
 have ha':=arr_one ha
 have hat':=arr_one hat
 simp only [istep] at hi
 rcases h1 with ⟨e,h1⟩ | ⟨u,e,h1,h2⟩
 ·exact fin_pure hr (by simp [execOp,ho,resolve,hc,invoke,builtin,Builtin.len_,ha',hat',underlying,h1,goInt]) hi (.int _ _)
 ·exact fin_pure hr (by simp [execOp,ho,resolve,hc,invoke,builtin,Builtin.len_,ha',hat',underlying,h1,h2,goInt]) hi (.int _ _)
theorem sound_cap (hr : R bs n gl G M fr h a w) {o : Oper} {c : Call} {t e : TypeId} {x : Operand} {Q : Exit→Act→World→Prop} {K : V→Hp→Prop} (ho : o.op = .call c) (hc : c.callee = .builtin .cap)
  (ha : c.args.toList = [x]) (hat : c.argTypes.toList = [t]) (h1 : P.underlying t = some (.slice e)) {id : Nat} (hi : istep P gl id fr h K (.cap (co x))) : o.wp P a w (PurePost K G M w o a h) Q:=by
 have ha':=arr_one ha
 have hat':=arr_one hat
 simp only [istep] at hi
 split at hi
 ·rename_i xs cap hx
  obtain ⟨ra,rcap,ex,-,hcap⟩:=sl_inv (evN_co hr hx)
  have:=hcap cap rfl; subst this
  exact fin_pure hr (by simp [execOp,ho,resolve,hc,invoke,builtin,Builtin.cap_,ha',hat',ex,underlying,h1,goInt]) hi (.int _ _)
 ·rename_i b g off len cap hx
  have rx:=evN_co hr hx
  generalize hev : a.eval x = r at rx
  cases rx with
  | ref _ _ _ _ _ ra rcap mb hM hg hl hcc hh=>
   have:=hcc cap rfl; subst this
   exact fin_pure hr (by simp [execOp,ho,resolve,hc,invoke,builtin,Builtin.cap_,ha',hat',hev,underlying,h1,goInt]) hi (.int _ _)
 ·exact hi.elim
theorem sound_mm (hr : R bs n gl G M fr h a w) {o : Oper} {c : Call} {x y : Operand} {mx : Bool} {Q : Exit→Act→World→Prop} {K : V→Hp→Prop} (ho : o.op = .call c) (hc : c.callee = .builtin (if mx then .max else .min))
  (ha : c.args.toList = [x,y]) {id : Nat} (hi : istep P gl id fr h K (.mm mx (co x) (co y))) : o.wp P a w (PurePost K G M w o a h) Q:=by
 have ha':=arr_two ha
 simp only [istep] at hi
 split at hi
 ·rename_i k p k' q hx hy
  have ex:=relV_int_inv (ev_co hr hx)
  have ey:=relV_int_inv (ev_co hr hy)
  refine fin_pure hr ?_ hi (.int _ _)
  cases mx
  ·simp only [execOp,ho,resolve,hc,invoke,builtin,Builtin.min_,ha']
   simp [Builtin.min2,ex,ey]
   omega
  ·simp only [execOp,ho,resolve,hc,invoke,builtin,Builtin.max_,ha']
   simp [Builtin.max2,ex,ey]
   omega
 ·exact hi.elim
theorem sound_extract (hr : R bs n gl G M fr h a w) {o : Oper} {x : Operand} {i : Nat} {Q : Exit→Act→World→Prop} {K : V→Hp→Prop} (ho : o.op = .extract x i) {id : Nat}
  (hi : istep P gl id fr h K (.extract (co x) i)) : o.wp P a w (PurePost K G M w o a h) Q:=by
 simp only [istep] at hi
 split at hi
 ·rename_i vs hx
  split at hi
  ·rename_i v hv
   have rx:=ev_co hr hx
   generalize hev : a.eval x = r at rx
   cases rx with
   | tup _ arr hs hh=>
    have hlt : i < vs.length:=(List.getElem?_eq_some_iff.1 hv).1
    have hlt' : i < arr.size:=by omega
    have:=hh i hlt
    rw [List.getD_eq_getElem?_getD,hv] at this
    exact fin_pure hr (rv:=arr.getD i undef) (by simp [execOp,ho,hev,Instr.extract,hlt',Array.getD_eq_getD_getElem?]) hi this
  ·exact hi.elim
 ·exact hi.elim
theorem evs_co (hr : R bs n gl G M fr h a w) : ∀ {l : List Operand} {vs : List V},evs gl fr (l.map co) = some vs→vs.length = l.length∧∀ i,i < vs.length→RelV G M (vs.getD i .undef) ((l.map a.eval).getD i undef)
 | [],vs,h=>by simp [evs] at h; subst h; exact ⟨rfl,fun i hi=>by cases hi⟩
 | x :: l,vs,h=>by
  simp only [List.map_cons,evs] at h
  split at h
  ·rename_i v vs' hv hvs
   cases h
   obtain ⟨i1,i2⟩:=evs_co hr hvs
   refine ⟨by simp [i1],fun i hi=>?_⟩
   cases i with
   | zero=>simpa using ev_co hr hv
   | succ i=>simpa using i2 i (by simpa using hi)
  ·cases h
theorem getD_map_toList (c : Array Operand) (f : Operand→Value) (i : Nat) : (c.map f).getD i undef = (c.toList.map f).getD i undef:=by
 simp [Array.getD_eq_getD_getElem?,List.getD_eq_getElem?_getD]
theorem sound_mkfn (hr : R bs n gl G M fr h a w) {o : Oper} {f : FuncId} {x y : Array Operand} {Q : Exit→Act→World→Prop} {K : V→Hp→Prop} (ho : o.op = .makeFunc (.func f) x y) {id : Nat}
  (hi : istep P gl id fr h K (.mkfn f (x.toList.map co) (y.toList.map co))) : o.wp P a w (PurePost K G M w o a h) Q:=by
 simp only [istep] at hi
 split at hi
 ·rename_i va vb hx hy
  obtain ⟨a1,a2⟩:=evs_co hr hx
  obtain ⟨b1,b2⟩:=evs_co hr hy
  refine fin_pure hr (rv:=.func (.func f) (x.map a.eval) (y.map a.eval)) (by simp [execOp,ho,Instr.makeFunc]) hi (.fn _ _ _ _ _ (by simp [a1]) (by simp [b1]) (fun i hi=>?_) (fun i hi=>?_))
  ·have:=a2 i hi; rw [← getD_map_toList] at this; simpa using this
  ·have:=b2 i hi; rw [← getD_map_toList] at this; simpa using this
 ·exact hi.elim
theorem sound_call (hr : R bs n gl G M fr h a w) {o : Oper} {c : Call} {f : Operand} {Q : Exit→Act→World→Prop} {K : V→Hp→Prop} (ho : o.op = .call c) (hc : c.callee = .value f) {id : Nat}
  (hi : istep P gl id fr h K (.call (co f) (c.args.toList.map co))) : o.wp P a w (OpPost h id K G M w o a) Q:=by
 simp only [istep] at hi
 split at hi
 ·rename_i fid fst cap vs hf hvs
  obtain ⟨v1,v2⟩:=evs_co hr hvs
  obtain ⟨hcal,hi⟩:=hi
  have rf:=ev_co hr hf
  generalize hev : a.eval f = r at rf
  cases rf with
  | fn _ _ _ rfst rcap s1 s2 s3 s4=>
   unfold callable at hcal
   split at hcal
   ·rename_i fn hfn
    simp only [Bool.and_eq_true,bne_iff_ne,ne_eq,Option.isSome_iff_exists] at hcal
    obtain ⟨hname,body,hbody⟩:=hcal
    have hrun : (execOp a.eval o).run P w = .ok (.enter fid (rfst ++ c.args.map a.eval ++ rcap)) w:=by
     simp [execOp,ho,resolve,hc,hev,Deferred.ofValue,invoke,callFunc,hfn,hname,hbody]
    unfold Oper.wp
    rw [hrun,Oper.upon_enter]
    refine Calls.mono (hi G M w (rfst ++ c.args.map a.eval ++ rcap) hr.sim hr.gl (by simp [v1]; omega) ?_) ?_
    ·intro i hi
     simp only [List.length_append] at hi
     simp only [Array.getD_eq_getD_getElem?,List.getD_eq_getElem?_getD,Array.getElem?_append,List.getElem?_append,Array.size_append,Array.size_map,List.length_append,s1]
     have hl : c.args.size = vs.length:=by rw [v1]; simp
     rw [hl]
     by_cases c1 : i < fst.length + vs.length
     ·rw [if_pos c1,if_pos c1]
      by_cases c2 : i < fst.length
      ·rw [if_pos c2,if_pos c2]
       have:=s3 i c2
       simpa [Array.getD_eq_getD_getElem?,List.getD_eq_getElem?_getD] using this
      ·rw [if_neg c2,if_neg c2]
       have:=v2 (i - fst.length) (by omega)
       rw [← getD_map_toList] at this
       simpa only [Array.getD_eq_getD_getElem?,List.getD_eq_getElem?_getD] using this
     ·rw [if_neg c1,if_neg c1]
      have:=s4 (i - (fst.length + vs.length)) (by omega)
      simpa only [Array.getD_eq_getD_getElem?,List.getD_eq_getElem?_getD] using this
    ·rintro e w' ⟨rv,v,h',G',M',rfl,hk,hv,hs,hx,hf⟩
     exact ⟨v,h',rv,G',M',hk,rfl,hv,hs,hx,fun b _ h0=>hf b h0⟩
   ·cases hcal
 ·exact hi.elim
end
end Go.Proofs.YtcdfifbabhfknaaDoor
namespace Go.Proofs.YtcdfifbabhfknaaDoor
open Go
section
variable {P : Program} {gl : Fr} {bs n : Nat} {fr : Fr} {h : Hp} {G : GMap} {M : MMap} {a : Act} {w : World}
def RelParts (G : GMap) (M : MMap) (place : Nat→Option (Nat × Nat)) : List (Nat × Nat × V)→List (Nat × Value)→Prop
 | [],[]=>True
 | (o,s,v) :: r,(i,u) :: q=>place i = some (o,s)∧RelV G M v u∧RelParts G M place r q
 | _,_=>False
theorem coParts_rel (hr : R bs n gl G M fr h a w) {place : Nat→Option (Nat × Nat)} : ∀ {ps : List (Nat × Operand)} {l : List (Nat × Nat × IOpd)} {vs : List (Nat × Nat × V)},
  coParts place ps = some l→evps gl fr l = some vs→RelParts G M place vs (ps.map fun (i,x)=>(i,a.eval x))
 | [],l,vs,h1,h2=>by simp [coParts] at h1; subst h1; simp [evps] at h2; subst h2; trivial
 | (i,x) :: r,l,vs,h1,h2=>by
  simp only [coParts] at h1
  split at h1
  ·rename_i o m l' hp hc
   cases h1
   simp only [evps] at h2
   split at h2
   ·rename_i v vs' hv hvs
    cases h2
    exact ⟨hp,ev_co hr hv,coParts_rel hr hc hvs⟩
   ·cases h2
  ·cases h1
theorem foldl_set_splice (off : Nat) : ∀ (l : List Value) (k : Nat) (cells : Array Value),off + k + l.length ≤ cells.size→
  (l.zipIdx k).foldl (fun cs (p : Value × Nat)=>cs.setIfInBounds (off + p.2) p.1) cells = (cells.toList.take (off + k) ++ l ++ cells.toList.drop (off + k + l.length)).toArray
 | [],k,cells,_=>by simp
 | x :: r,k,cells,hl=>by
  simp only [List.zipIdx_cons,List.foldl_cons]
  have hlt : off + k < cells.size:=by simp at hl; omega
  rw [foldl_set_splice off r (k + 1) _ (by simp at hl ⊢; omega)]
  congr 1
  simp only [Array.toList_setIfInBounds]
  have:=list_seg_step cells.toList (off + k) x r (by simp at hl ⊢; omega)
  have e1 : off + (k + 1) = off + k + 1:=by omega
  have e2 : (x :: r).length = r.length + 1:=rfl
  rw [e1,e2]
  exact this
theorem relCells_splice {cs vs : List V} {arr us : Array Value} (hc : RelCells G M cs arr) (hv : us.size = vs.length) (hv2 : ∀ j,j < vs.length→RelV G M (vs.getD j .undef) (us.getD j undef)∧(us.getD j undef).oneCell' = true) (off : Nat) (hle : off + vs.length ≤ cs.length) :
  RelCells G M (cs.take off ++ vs ++ cs.drop (off + vs.length)) (arr.toList.take off ++ us.toList ++ arr.toList.drop (off + us.toList.length)).toArray:=by
 have h1:=hc.1
 refine ⟨by simp; omega,fun i hi=>?_⟩
 rw [getD_toArray,splice_getD _ _ _ _ (by simp; omega),spliceV_getD _ _ _ _ hle]
 have hul : us.toList.length = vs.length:=by simpa using hv
 rw [hul]
 have hil : i < cs.length:=by simp at hi; omega
 by_cases hin : off ≤ i∧i < off + vs.length
 ·rw [if_pos hin,if_pos hin]
  have:=hv2 (i - off) (by omega)
  simpa [List.getD_eq_getElem?_getD,Array.getD_eq_getD_getElem?] using this
 ·rw [if_neg hin,if_neg hin]
  have:=hc.2 i hil
  simpa [List.getD_eq_getElem?_getD,Array.getD_eq_getD_getElem?] using this
theorem fill_rel {place : Nat→Option (Nat × Nat)} {K : List V→Prop} : ∀ {vs : List (Nat × Nat × V)} {us : List (Nat × Value)} {cs : List V} {arr : Array Value},RelParts G M place vs us→RelCells G M cs arr→fillW cs K vs→
  ∃ cs' arr',Instr.fill place arr us = some arr'∧RelCells G M cs' arr'∧K cs'
 | [],[],cs,arr,_,hc,hk=>⟨cs,arr,rfl,hc,hk⟩
 | [],_ :: _,_,_,hp,_,_=>hp.elim
 | _ :: _,[],_,_,hp,_,_=>hp.elim
 | (o,s,v) :: r,(i,u) :: q,cs,arr,hp,hc,hk=>by
  obtain ⟨h1,h2,h3⟩:=hp
  obtain ⟨k1,k2,k3,k4⟩:=hk
  obtain ⟨c1,c2⟩:=h2.cells k2
  have hsz:=hc.1
  have hne : ¬ (u.cells.size ≠ s || decide (o + u.cells.size > arr.size)) = true:=by
   simp; omega
  have hf:=foldl_set_splice o u.cells.toList 0 arr (by simp; omega)
  have hrc:=relCells_splice hc c1 c2 o (by omega)
  obtain ⟨cs',arr',e1,e2,e3⟩:=fill_rel (cs:=cs.take o ++ v.cells ++ cs.drop (o + s)) (arr:=(arr.toList.take o ++ u.cells.toList ++ arr.toList.drop (o + u.cells.toList.length)).toArray) h3 (by rw [k1] at hrc; exact hrc) k4
  refine ⟨cs',arr',?_,e2,e3⟩
  have hfold : Array.foldl (fun cs (x : Value × Nat)=>cs.setIfInBounds (o + x.2) x.1) arr u.cells.zipIdx = (arr.toList.take o ++ u.cells.toList ++ arr.toList.drop (o + u.cells.toList.length)).toArray:=by
   rw [← Array.foldl_toList,Array.toList_zipIdx]
   simpa using hf
  simp only [Instr.fill,h1]
  rw [if_neg hne,← e1]
  congr 1
theorem relCells_zero (G : GMap) (M : MMap) {z : Value} (hz : z.cells.all (·.oneCell') = true) : RelCells G M (vOfZ z).cells z.cells:=by
 rw [vOfZ_cells]
 refine ⟨by simp,fun i hi=>?_⟩
 have hi' : i < z.cells.size:=by simpa using hi
 have e1 : (z.cells.toList.map vOf).getD i .undef = vOf (z.cells.getD i undef):=by
  simp [List.getD_eq_getElem?_getD,Array.getD_eq_getD_getElem?,hi']
 rw [e1]
 refine ⟨relV_vOf _ _ _,?_⟩
 simp only [Array.all_eq_true] at hz
 simpa [Array.getD_eq_getD_getElem?,hi'] using hz i hi'
theorem coParts_map {ps : Array (Nat × Operand)} : (ps.map fun (x : Nat × Operand)=>(x.1,a.eval x.2)).toList = ps.toList.map fun (x : Nat × Operand)=>(x.1,a.eval x.2):=by simp
theorem sound_buildA (hr : R bs n gl G M fr h a w) {o : Oper} {t e : TypeId} {len : Nat} {ps : Array (Nat × Operand)} {l : List (Nat × Nat × IOpd)} {z : Value} {ty : Bool × Nat × Nat} {Q : Exit→Act→World→Prop} {K : V→Hp→Prop} (ho : o.op = .build t ps)
  (h1 : P.underlying t = some (.array len e)) (h2 : tyOf P e = some ty) (hz : zeroOf P t = some z) (hl : coParts (fun i=>some (i * ty.2.1,ty.2.1)) ps.toList = some l) {id : Nat} (hi : istep P gl id fr h K (.build (vOfZ z).cells l)) : o.wp P a w (PurePost K G M w o a h) Q:=by
 obtain ⟨-,hsz,-⟩:=tyOf_spec (P:=P) (t:=e) (ag:=ty.1) (n:=ty.2.1) (by_:=ty.2.2) (by rw [h2])
 obtain ⟨z1,z2,-⟩:=zeroOf_spec hz
 simp only [istep] at hi
 split at hi
 ·rename_i vs hvs
  obtain ⟨cs',arr',e1,e2,e3⟩:=fill_rel (coParts_rel hr hl hvs) (relCells_zero G M z2) hi
  refine fin_pure hr (rv:=.agg arr') ?_ e3 (relV_agg e2)
  simp only [execOp,ho,Instr.build,Sem.run_bind,z1,Result.andThen_ok,underlying,run_program,h1,hsz,Sem.run_pure]
  rw [coParts_map,e1]
  simp
 ·exact hi.elim
theorem mapM_places {fields : Array Field} (hf : fields.toList.all (fun f=>(tyOf P f.type).isSome) = true) :
  (fields.mapM fun f=>do pure (f.offset,← sizeOf f.type) : Sem (Array (Nat × Nat))).run P w = .ok (fields.map fun f=>(f.offset,((tyOf P f.type).getD (false,0,0)).2.1)) w:=by
 rw [← Array.toArray_toList (xs:=fields)]
 generalize fields.toList = fl at hf
 rw [List.mapM_toArray]
 have key : ∀ fl : List Field,fl.all (fun f=>(tyOf P f.type).isSome) = true→(fl.mapM fun f=>Prod.mk f.offset <$> sizeOf f.type : Sem (List (Nat × Nat))).run P w = .ok (fl.map fun f=>(f.offset,((tyOf P f.type).getD (false,0,0)).2.1)) w:=by
  intro fl hf
  induction fl with
  | nil=>simp
  | cons f r ih=>
   simp only [List.all_cons,Bool.and_eq_true] at hf
   obtain ⟨ty,hty⟩:=Option.isSome_iff_exists.1 hf.1
   obtain ⟨-,hsz,-⟩:=tyOf_spec (P:=P) (t:=f.type) (ag:=ty.1) (n:=ty.2.1) (by_:=ty.2.2) (by rw [hty])
   simp [hsz,ih hf.2,hty]
 simp [key fl hf]
theorem sound_buildS (hr : R bs n gl G M fr h a w) {o : Oper} {t : TypeId} {fields : Array Field} {ps : Array (Nat × Operand)} {l : List (Nat × Nat × IOpd)} {z : Value} {Q : Exit→Act→World→Prop} {K : V→Hp→Prop} (ho : o.op = .build t ps)
  (h1 : P.underlying t = some (.struct fields)) (hf : fields.toList.all (fun f=>(tyOf P f.type).isSome) = true) (hz : zeroOf P t = some z) (hl : coParts (placeOf P fields) ps.toList = some l) {id : Nat} (hi : istep P gl id fr h K (.build (vOfZ z).cells l)) : o.wp P a w (PurePost K G M w o a h) Q:=by
 obtain ⟨z1,z2,-⟩:=zeroOf_spec hz
 simp only [istep] at hi
 split at hi
 ·rename_i vs hvs
  have hplace : ∀ i p,placeOf P fields i = some p→(fields.map fun f=>(f.offset,((tyOf P f.type).getD (false,0,0)).2.1))[i]? = some p:=by
   intro i p hp
   unfold placeOf at hp
   split at hp
   ·rename_i f hff
    split at hp
    ·rename_i ag m by_ hty
     cases hp
     simp [hff,hty]
    ·cases hp
   ·cases hp
  have hrp : ∀ (vs : List (Nat × Nat × V)) (us : List (Nat × Value)),RelParts G M (placeOf P fields) vs us→RelParts G M (fun i=>(fields.map fun f=>(f.offset,((tyOf P f.type).getD (false,0,0)).2.1))[i]?) vs us:=by
   intro vs
   induction vs with
   | nil=>intro us hu; cases us <;> exact hu
   | cons p r ih=>
    intro us hu
    cases us with
    | nil=>exact hu
    | cons q s=>exact ⟨hplace _ _ hu.1,hu.2.1,ih s hu.2.2⟩
  obtain ⟨cs',arr',e1,e2,e3⟩:=fill_rel (hrp _ _ (coParts_rel hr hl hvs)) (relCells_zero G M z2) hi
  refine fin_pure hr (rv:=.agg arr') ?_ e3 (relV_agg e2)
  simp only [execOp,ho,Instr.build,Sem.run_bind,z1,Result.andThen_ok,underlying,run_program,h1,Sem.run_pure,mapM_places hf]
  rw [coParts_map,e1]
  simp
 ·exact hi.elim
theorem groups_spec (sz : Nat) (hsz : sz ≠ 0) : ∀ (m : Nat) (cs : List V),cs.length = m * sz→(∀ i,i < cs.length→(cs.getD i .undef).cells = [cs.getD i .undef])→(groups sz m cs).length = m∧
  ∀ i,i < m→((groups sz m cs).getD i .undef).cells.length = sz∧∀ j,j < sz→((groups sz m cs).getD i .undef).cells.getD j .undef = cs.getD (i * sz + j) .undef
 | 0,cs,_,_=>⟨rfl,fun i hi=>by omega⟩
 | m + 1,cs,hl,hc=>by
  have hl' : (cs.drop sz).length = m * sz:=by simp [hl,Nat.add_mul]
  obtain ⟨i1,i2⟩:=groups_spec sz hsz m (cs.drop sz) hl' (fun i hi=>by
   have:=hc (sz + i) (by simp at hi; omega)
   simpa [List.getD_eq_getElem?_getD] using this)
  refine ⟨by simp [groups,i1],fun i hi=>?_⟩
  cases i with
  | zero=>
   have hle : sz ≤ cs.length:=by rw [hl,Nat.add_mul]; omega
   simp only [groups,List.getD_cons_zero,Nat.zero_mul,Nat.zero_add]
   split
   ·have h0:=hc 0 (by omega)
    rw [h0]
    refine ⟨rfl,fun j hj=>?_⟩
    obtain rfl : j = 0:=by omega
    rfl
   ·refine ⟨by simp [V.cells]; omega,fun j hj=>?_⟩
    simp [V.cells,List.getD_eq_getElem?_getD,hj]
  | succ i=>
   simp only [groups,List.getD_cons_succ]
   obtain ⟨q1,q2⟩:=i2 i (by omega)
   refine ⟨q1,fun j hj=>?_⟩
   rw [q2 j hj]
   simp only [List.getD_eq_getElem?_getD,List.getElem?_drop]
   congr 2
   rw [Nat.add_mul]; omega
end
end Go.Proofs.YtcdfifbabhfknaaDoor
