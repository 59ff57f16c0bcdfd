/- Each ideal operation but the calls stands for the model's: seventh part: append, copy, equality of structs, bytes to a string. No program stands in it. Conditions: none. Each ideal operation but the calls stands for the model's: eighth part: equality of structs, bytes to a string; all together. No program stands in it. Conditions: none. Whatever operation is compiled stands for the model's; code; functions. No program stands in it. Conditions: none. -/
import Derived.Test.YtcdfifbabhfknaaDoorBase4
import Derived.Laws.StructEq
import Derived.Laws.BytesString
namespace Go.Proofs.YtcdfifbabhfknaaDoor
open Go
section
variable {P : Program} {gl : Fr} {bs n : Nat} {fr : Fr} {h : Hp} {G : GMap} {M : MMap} {a : Act} {w : World}
theorem flat_of_row {k : Nat} {arr : Array Value} {ty : TypeId} {fz : Nat × Nat} (he : w.heap[k]? = some (.cells arr ty fz)) (o sz : Nat) {ys : List V} (hb : o + ys.length * sz ≤ arr.size)
  (hy : ∀ i,i < ys.length→(ys.getD i .undef).cells.length = sz) (hr : ∀ i j,i < ys.length→j < sz→RelV G M ((ys.getD i .undef).cells.getD j .undef) (arr.getD (o + i * sz + j) undef)∧(arr.getD (o + i * sz + j) undef).oneCell' = true) :
  FlatRel G M sz ys ((arr.toList.drop o).take (ys.length * sz))∧∀ w' : World,w'.heap = w.heap→∀ len cap,len = ys.length→(Builtin.firstCells sz ys.length (.slice (some ⟨k,o,none⟩) len cap)).run P w' = .ok ((arr.toList.drop o).take (ys.length * sz)).toArray w':=by
 have hlen : ((arr.toList.drop o).take (ys.length * sz)).length = ys.length * sz:=by simp; omega
 have hget : ∀ q,q < ys.length * sz→((arr.toList.drop o).take (ys.length * sz)).getD q undef = arr.getD (o + q) undef:=by
  intro q hq
  simp [List.getD_eq_getElem?_getD,hq,Array.getD_eq_getD_getElem?]
 refine ⟨⟨hlen,fun i hi=>⟨hy i hi,fun j hj=>?_⟩⟩,fun w' hw' len cap _=>?_⟩
 ·have heb:=elem_bound (sz:=sz) hi (Nat.le_refl ys.length)
  rw [hget _ (by omega),← Nat.add_assoc]
  exact hr i j hi hj
 ·simp only [Builtin.firstCells]
  have hcell : ∀ j v,((arr.toList.drop o).take (ys.length * sz))[j]? = some v→w'.cell? ((⟨k,o,none⟩ : Addr).add j) = some v:=by
   intro j v hv
   have hj : j < ys.length * sz:=by rw [← hlen]; exact (List.getElem?_eq_some_iff.1 hv).1
   have:=hget j hj
   rw [List.getD_eq_getElem?_getD,hv] at this
   rw [Addr.add_lit,cell_of_row (w:=w') (by rw [hw']; exact he) (o + j) (by omega),← this]
   rfl
  have:=run_loadCells_list (P:=P) w' ⟨k,o,none⟩ _ hcell
  rw [hlen] at this
  exact this
theorem elemsW_spec (hs : Sim G M h w) {sz : Nat} {K : List V→Prop} {vy : V} {ry : Value} (he : elemsW h sz K vy) (hy : RelV G M vy ry) :
  ∃ ys ra rcap cells,K ys∧ry = .slice ra ys.length rcap∧FlatRel G M sz ys cells∧∀ w' : World,w'.heap = w.heap→(Builtin.firstCells sz ys.length ry).run P w' = .ok cells.toArray w':=by
 unfold elemsW at he
 split at he
 ·rename_i xs cap
  obtain ⟨hall,hk⟩:=he
  cases hy with
  | slnil _ base rcap hc hb=>
   refine ⟨[],base,rcap,[],hk,rfl,.nil _,fun w' _=>?_⟩
   cases base <;> simp [Builtin.firstCells,loadCells,loadCellsFrom]
  | sl _ _ rb ro rcap sz' cells hne hG hsz hb hl hc hh ho=>
   have hpos : 0 < xs.length:=by cases xs with
    | nil=>exact absurd rfl hne
    | cons=>simp
   have e1 : sz' = sz:=by
    rw [← hsz 0 hpos]
    refine hall _ ?_
    rw [List.getD_eq_getElem?_getD,List.getElem?_eq_getElem hpos]
    exact List.getElem_mem _
   subst e1
   obtain ⟨ty,fz,hhe⟩:=hs.gw rb cells hG
   obtain ⟨f1,f2⟩:=flat_of_row (P:=P) hhe ro sz' hb hsz (fun i j hi hj=>⟨hh i j hi hj,ho i j hi hj⟩)
   exact ⟨xs,_,rcap,_,hk,rfl,f1,fun w' hw'=>f2 w' hw' _ _ rfl⟩
 ·rename_i b g off len cap
  split at he
  ·rename_i g' sz' es hb
   obtain ⟨rfl,rfl,hle,hk⟩:=he
   obtain ⟨mb0,q1,q2,q3,q4⟩:=hs.hb b _ hb
   subst q3
   have hlen : ((es.drop off).take len).length = len:=by simp; omega
   cases hy with
   | ref _ _ _ _ _ ra rcap mb hM hg hl hcc hh=>
    rw [q1] at hM; cases hM
    have hre:=hh q2.symm
    by_cases h0 : len = 0
    ·subst h0
     have e0 : (es.drop off).take 0 = []:=by simp
     refine ⟨[],ra,rcap,[],by rw [e0] at hk; exact hk,rfl,.nil _,fun w' _=>?_⟩
     cases ra <;> simp [Builtin.firstCells,loadCells,loadCellsFrom]
    ·cases hreal : mb0.real with
     | none=>simp only [RefReal,hreal] at hre; omega
     | some rb=>
      simp only [RefReal,hreal] at hre
      simp only [RowRel,hreal] at q4
      rcases hre with ⟨rfl,hroom⟩ | ⟨q,q'⟩
      ·obtain ⟨arr,ty,r1,r2,r3,r4,r5⟩:=q4
       have hget : ∀ i,i < len→((es.drop off).take len).getD i .undef = es.getD (off + i) .undef:=by
        intro i hi
        simp only [List.getD_eq_getElem?_getD,List.getElem?_take,if_pos hi,List.getElem?_drop]
       have hbnd : mb0.base + off * mb0.sz + ((es.drop off).take len).length * mb0.sz ≤ arr.size:=by
        rw [hlen]
        have h1 : off * mb0.sz + len * mb0.sz = (off + len) * mb0.sz:=by rw [Nat.add_mul]
        have h2 : (off + len) * mb0.sz ≤ mb0.room * mb0.sz:=Nat.mul_le_mul_right _ (by omega)
        omega
       obtain ⟨f1,f2⟩:=flat_of_row (P:=P) (ys:=(es.drop off).take len) r1 (mb0.base + off * mb0.sz) mb0.sz hbnd (fun i hi=>by rw [hlen] at hi; rw [hget i hi]; exact r4 _ (by omega)) (fun i j hi hj=>by
        rw [hlen] at hi; rw [hget i hi]
        have:=r5 (off + i) j (by omega) hj
        rw [Nat.add_mul,← Nat.add_assoc] at this; exact this)
       exact ⟨_,some ⟨rb,mb0.base + off * mb0.sz,none⟩,rcap,_,hk,by rw [hlen],f1,fun w' hw'=>f2 w' hw' len rcap hlen.symm⟩
      ·exact absurd q h0
  ·exact he.elim
 ·exact he.elim
theorem zeroCells_size (zero : Array Value) (m : Nat) : (Builtin.zeroCells zero m).size = m * zero.size:=by simp [Builtin.zeroCells]
theorem run_append_grow {s t2 tt e : TypeId} {z : Value} {ty : Bool × Nat × Nat} {i0 : TypeInfo} (h1 : P.underlying s = some (.slice e)) (h1' : ∃ e2,P.underlying t2 = some (.slice e2)) (hsz : ∀ w,(sizeOf e).run P w = .ok ty.2.1 w) (hz : ∀ w,(zeroValue e).run P w = .ok z w)
  (hi : P.info? e = some i0) (hib : i0.bytes = ty.2.2) {ra rb : Option Addr} {l cap m cy : Nat} {old new : List Value} (hc : cap < l + m) (hby : ty.2.2 ≤ 256) (hlen : l + m ≤ 274877906944)
  (hold : ∀ w',w'.heap = w.heap→(Builtin.firstCells ty.2.1 l (.slice ra l cap)).run P w' = .ok old.toArray w') (hnew : ∀ w',w'.heap = w.heap→(Builtin.firstCells ty.2.1 m (.slice rb m cy)).run P w' = .ok new.toArray w') :
  ∃ nc,l + m ≤ nc∧nc ≤ 9223372036854775807∧(Builtin.append_ #[s,t2] tt #[.slice ra l cap,.slice rb m cy]).run P w = .ok (.slice (some ⟨w.heap.size,0,none⟩) (l + m) nc)
   ({ w with drawn:=w.drawn + 1 }.alloc (.cells (old ++ (new ++ (Builtin.zeroCells z.cells (nc - (l + m))).toList)).toArray e)):=by
 obtain ⟨e2,h1'⟩:=h1'
 refine ⟨(Question.appendCap (l + m) cap e).cut (w.tape w.drawn (.appendCap (l + m) cap e)),by simp [Question.cut],?_,?_⟩
 ·simp only [Question.cut]
  have:=Nat.mod_lt (w.tape w.drawn (.appendCap (l + m) cap e)) (y:=2 ^ 63 - (l + m)) (by omega)
  omega
 have hg : Builtin.nextslicecap (l + m) cap * i0.bytes ≤ 281474976710656:=growslice_fits hc (by
  rw [hib]
  have : (l + m) * ty.2.2 ≤ 274877906944 * 256:=Nat.mul_le_mul hlen hby
  omega)
 have hng : ¬ Builtin.nextslicecap (l + m) cap * i0.bytes > 2 ^ 48:=by omega
 have hn1 : ¬ l + m ≤ cap:=by omega
 have hfc : (Question.appendCap (l + m) cap e).forced = false:=rfl
 have ho:=hold { w with drawn:=w.drawn + 1 } rfl
 have hn:=hnew { w with drawn:=w.drawn + 1 } rfl
 simp only [Builtin.append_,List.getElem?_toArray,List.getElem?_cons_zero,List.getElem?_cons_succ,Sem.run_bind,underlying,run_program,Result.andThen_ok,h1,h1',Sem.run_pure,hsz,Builtin.lenOf,Bool.false_eq_true,if_false,Bool.not_false,if_true,if_neg hn1,typeInfo,hi,Sem.run_ite,if_neg hng,run_choose,hfc,run_askRoom,ho,hn,hz,newRow,run_newObj]
 have hmax : IntKind.i64.max = 9223372036854775807:=by decide
 rw [if_neg (by rw [hmax]; omega)]
 have harr : old.toArray ++ new.toArray ++ Builtin.zeroCells z.cells ((Question.appendCap (l + m) cap e).cut (w.tape w.drawn (Question.appendCap (l + m) cap e)) - (l + m)) =
   (old ++ (new ++ (Builtin.zeroCells z.cells ((Question.appendCap (l + m) cap e).cut (w.tape w.drawn (Question.appendCap (l + m) cap e)) - (l + m))).toList)).toArray:=by
  apply Array.ext'; simp
 rw [harr]
 rfl
theorem run_append_fits {s t2 tt e e2 : TypeId} {sz : Nat} (h1 : P.underlying s = some (.slice e)) (h1' : P.underlying t2 = some (.slice e2)) (hsz : ∀ w,(sizeOf e).run P w = .ok sz w)
  {ra rb : Option Addr} {l cap m cy : Nat} {new : List Value} {w' : World} (hfit : l + m ≤ cap) (hnew : (Builtin.firstCells sz m (.slice rb m cy)).run P w = .ok new.toArray w)
  (hst : (ra = none∧w' = w)∨∃ ad,ra = some ad∧(storeCells (ad.add (l * sz)) new).run P w = .ok () w') :
  (Builtin.append_ #[s,t2] tt #[.slice ra l cap,.slice rb m cy]).run P w = .ok (.slice ra (l + m) cap) w':=by
 simp only [Builtin.append_,List.getElem?_toArray,List.getElem?_cons_zero,List.getElem?_cons_succ,Sem.run_bind,underlying,run_program,Result.andThen_ok,h1,h1',Sem.run_pure,hsz,Builtin.lenOf,Bool.false_eq_true,if_false,Bool.not_false,if_true,if_pos hfit,hnew]
 rcases hst with ⟨rfl,rfl⟩ | ⟨ad,rfl,hst⟩
 ·simp
 ·simp [hst]
theorem Sim.drawn (hs : Sim G M h w) : Sim G M h { w with drawn:=w.drawn + 1 }:=
 ⟨hs.gw,fun b k hk=>by
  have:=hs.hb b k hk
  cases k <;> exact this,hs.inj,hs.mlt⟩
theorem Ext.drawn : Ext G M w G M { w with drawn:=w.drawn + 1 }:=
 ⟨G.le_refl,fun _ _ h=>.inl h,M.le_refl,fun _ h=>.inr h,rfl,rfl,rfl,Nat.le_refl _,fun _ _ _=>rfl⟩
theorem ref_inv {b g off len : Nat} {cap : Option Nat} {r : Value} (h : RelV G M (.ref b g off len cap) r) : ∃ ra rcap mb,r = .slice ra len rcap∧M b = some mb∧g ≤ mb.gen∧len ≤ rcap∧(∀ c,cap = some c→rcap = c)∧(g = mb.gen→RefReal mb off len ra rcap):=by
 cases h with
 | ref _ _ _ _ _ ra rcap mb hM hg hl hc hh=>exact ⟨ra,rcap,mb,rfl,hM,hg,hl,hc,hh⟩
def appG (gl fr : Fr) (h : Hp) (id : Nat) (fg : Nat→Nat) (sz bytes : Nat) (z : List V) (x y : IOpd) (K : V→Hp→Prop) : Prop:=
  match evN gl fr x,evN gl fr y with
    | some (.sl xs cap), some vy => elemsW h sz (fun ys => (∀ x ∈ xs, x.cells.length = sz) ∧ cap = some xs.length ∧ bytes ≤ 256 ∧ z.length = sz ∧ xs.length + ys.length ≤ 274877906944 ∧
          (ys = []→K (.sl xs cap) h)∧(ys ≠ []→K (.ref id (fg id) 0 (xs.length + ys.length) none) ((id,.row (fg id) sz (xs ++ ys)) :: h))) vy
    | some (.ref b g off len _),some vy=>match lk h b with
      | some (.row g' sz' es)=>elemsW h sz (fun ys=>g' = g∧sz' = sz∧off + len ≤ es.length∧bytes ≤ 256∧z.length = sz∧len + ys.length ≤ 274877906944∧
          K (.ref b (fg b) 0 (len + ys.length) none) ((b,.row (fg b) sz (((es.drop off).take len) ++ ys)) :: h)) vy
      | _=>False
    | _,_=>False
theorem sound_appG (hr : R bs n gl G M fr h a w) {o : Oper} {c : Call} {t t2 e e2 : TypeId} {x y : Operand} {z : Value} {ty : Bool × Nat × Nat} {Q : Exit→Act→World→Prop} {K : V→Hp→Prop} (ho : o.op = .call c) (hc : c.callee = .builtin .append)
  (ha : c.args.toList = [x,y]) (hat : c.argTypes.toList = [t,t2]) (h1 : P.underlying t = some (.slice e)) (h1' : P.underlying t2 = some (.slice e2)) (h2 : tyOf P e = some ty) (hz : zeroOf P e = some z) (hn0 : ty.2.1 ≠ 0) {id : Nat}
  (hi : appG gl fr h id (freshGen M) ty.2.1 ty.2.2 (vOfZ z).cells (co x) (co y) K) : o.wp P a w (OpPost h id K G M w o a) Q:=by
 obtain ⟨-,hsz,hti⟩:=tyOf_spec (P:=P) (t:=e) (ag:=ty.1) (n:=ty.2.1) (by_:=ty.2.2) (by rw [h2])
 obtain ⟨z1,z2,i0,z3,z4⟩:=zeroOf_spec hz
 obtain ⟨i1,hi1,hib,hisz,hinfo⟩:=hti w
 rw [z3] at hinfo; cases hinfo
 have hzsz : z.cells.size = ty.2.1:=by rw [z4,hisz]
 have ha':=arr_two ha
 have hat':=arr_two hat
 have hexec : ∀ {rx ry : Value} {r : Result Value},a.eval x = rx→a.eval y = ry→(Builtin.append_ #[t,t2] o.type #[rx,ry]).run P w = r→(∀ v w',r = .ok v w'→(execOp a.eval o).run P w = .ok (.value v) w'):=by
  intro rx ry r ex ey hrun v w' hv
  subst hv
  simp [execOp,ho,resolve,hc,invoke,builtin,ha',hat',ex,ey,hrun]
 -- an append that must make a new row, whatever block it is for
 have grow : ∀ (b : Nat) {ra rb : Option Addr} {cap cy : Nat} {xs ys : List V} {old new : List Value},a.eval x = .slice ra xs.length cap→a.eval y = .slice rb ys.length cy→cap < xs.length + ys.length→ty.2.2 ≤ 256→xs.length + ys.length ≤ 274877906944→
   FlatRel G M ty.2.1 xs old→FlatRel G M ty.2.1 ys new→(∀ w' : World,w'.heap = w.heap→(Builtin.firstCells ty.2.1 xs.length (.slice ra xs.length cap)).run P w' = .ok old.toArray w')→(∀ w' : World,w'.heap = w.heap→(Builtin.firstCells ty.2.1 ys.length (.slice rb ys.length cy)).run P w' = .ok new.toArray w')→
   K (.ref b (freshGen M b) 0 (xs.length + ys.length) none) ((b,.row (freshGen M b) ty.2.1 (xs ++ ys)) :: h)→(∀ x,x ≠ id→lk h x = none→x ≠ b)→o.wp P a w (OpPost h id K G M w o a) Q:=by
  intro b ra rb cap cy xs ys old new ex ey hcap hby hlen f1 f2 r1 r2 hk hfb
  obtain ⟨nc,hnc,hnc2,hrun⟩:=run_append_grow (P:=P) (w:=w) (tt:=o.type) h1 ⟨e2,h1'⟩ hsz z1 z3 hib hcap hby hlen r1 r2
  obtain ⟨s1,s2⟩:=hr.sim.drawn.allocFlat b e ty.2.1 nc (rest:=(Builtin.zeroCells z.cells (nc - (xs.length + ys.length))).toList) (f1.append f2) (by
   simp only [List.length_append,f1.1,f2.1,Array.length_toList,zeroCells_size,hzsz]
   rw [← Nat.add_mul,← Nat.add_mul]
   exact Nat.le_of_eq (by congr 1; omega)) (by simpa using hnc)
  rw [List.append_assoc] at s1 s2
  refine fin_value (hexec ex ey hrun _ _ rfl) hk ?_ s1 (Ext.drawn.trans s2) (fun x hx h0=>freshGen_upd _ _ _ _ (hfb x hx h0))
  exact relV_newref hnc (by omega) (by simp) _
 unfold appG at hi
 split at hi
 ·rename_i xs cap vy hx hy
  have rx:=evN_co hr hx
  obtain ⟨ys,ra2,cy,new,⟨hall,hcapx,hby,-,hlen,hk1,hk2⟩,ey,f2,r2⟩:=elemsW_spec (P:=P) hr.sim hi (evN_co hr hy)
  obtain ⟨xs',ra,cx,old,rfl,ex,f1,r1⟩:=elemsW_spec (P:=P) (K:=fun l=>xs = l) hr.sim (show elemsW h ty.2.1 (fun l=>xs = l) (.sl xs cap) from ⟨hall,rfl⟩) rx
  obtain ⟨ra',rcap',ex',hle,hcap'⟩:=sl_inv rx
  rw [ex] at ex'; cases ex'
  have hcx : cx = xs.length:=hcap' _ hcapx
  subst hcx
  by_cases hys : ys = []
  ·subst hys
   have hfc : (Builtin.firstCells ty.2.1 0 (.slice ra2 0 cy)).run P w = .ok #[] w:=by
    have:=r2 w rfl
    rw [ey] at this
    have hnew : new = []:=by have:=f2.1; simpa using this
    rw [hnew] at this; simpa using this
   refine pure_up hr (fin_pure hr (rv:=.slice ra xs.length xs.length) (hexec ex ey (r:=.ok _ w) ?_ _ _ rfl) (hk1 rfl) (by rw [ex] at rx; exact rx))
   refine run_append_fits (m:=0) (new:=[]) h1 h1' hsz (Nat.le_refl _) (by simpa using hfc) ?_
   cases ra with
   | none=>exact .inl ⟨rfl,rfl⟩
   | some ad=>exact .inr ⟨ad,rfl,by simp [storeCells]⟩
  ·refine grow id ex ey ?_ hby hlen f1 f2 (by rw [← ex]; exact r1) (by rw [← ey]; exact r2) (hk2 hys) (fun x hx _=>hx)
   have : 0 < ys.length:=by cases ys with
    | nil=>exact absurd rfl hys
    | cons=>simp
   omega
 ·rename_i b g off len cap vy hx hy
  split at hi
  ·rename_i g' sz' es hb
   have rx:=evN_co hr hx
   obtain ⟨ys,ra2,cy,new,⟨rfl,rfl,htip,hby,-,hlen,hk⟩,ey,f2,r2⟩:=elemsW_spec (P:=P) hr.sim hi (evN_co hr hy)
   obtain ⟨xs,ra,cx,old,⟨rfl,-⟩,ex,f1,r1⟩:=elemsW_spec (P:=P) (K:=fun l=>l = ((es.drop off).take len)∧True) hr.sim (show elemsW h ty.2.1 _ (.ref b g' off len cap) from by
    simp only [elemsW,hb]
    exact ⟨trivial,trivial,by omega,trivial,trivial⟩) rx
   have hxl : ((es.drop off).take len).length = len:=by simp; omega
   obtain ⟨mb0,q1,q2,q3,q4⟩:=hr.sim.hb b _ hb
   obtain ⟨ra',cx',mb',ex',hM,hg,hl,hcc,hh⟩:=ref_inv rx
   rw [q1] at hM; cases hM
   have hre:=hh q2.symm
   have hk0:=hk
   rw [show freshGen M b = mb0.gen + 1 by simp [freshGen,q1]] at hk
   have nb : ∀ x,lk h x = none→x ≠ b:=fun x h0 e=>by subst e; rw [hb] at h0; cases h0
   rw [ex'] at ex
   obtain ⟨e1,e2⟩ : ra' = ra∧cx' = cx:=by
    simp only [Value.slice.injEq] at ex; exact ⟨ex.1,ex.2.2⟩
   subst e1 e2
   clear ex
   have ex:=ex'
   rw [ex'] at r1
   by_cases hfit : len + ys.length ≤ cx'
   ·-- in place
    have hyl:=f2.1
    cases hreal : mb0.real with
    | none=>
     simp only [RefReal,hreal] at hre
     obtain ⟨rfl,rfl⟩:=hre
     have hys : ys = []:=List.length_eq_zero_iff.1 (by omega)
     subst hys
     have hl0 : len = 0:=by omega
     have hfc : (Builtin.firstCells ty.2.1 0 (.slice ra2 0 cy)).run P w = .ok #[] w:=by
      have hnew : new = []:=by simpa using hyl
      have:=r2 w rfl
      rw [ey,hnew] at this; simpa using this
     have hdrop : ((es.drop 0).take len) = []:=List.length_eq_zero_iff.1 (by rw [hxl,hl0])
     have hkey:=hr.sim.change (w':=w) b ⟨mb0.gen + 1,mb0.sz,0,0,none⟩ (.row (mb0.gen + 1) ty.2.1 ((es.drop 0).take len ++ [])) (fun m hm=>.inl (by rw [q1] at hm; cases hm; exact Nat.lt_succ_self _)) (fun r hr'=>by cases hr') (Nat.le_refl _) (fun _ _ _=>rfl) (fun _ _ _ _=>trivial) rfl rfl rfl
      ⟨_,upd_same _ _ _,rfl,q3,by simp only [RowRel]; simpa using hdrop⟩
     refine fin_value (rv:=.slice ra' ((es.drop 0).take len).length 0) (hexec (by rw [ex,hl0]) ey (r:=.ok _ w) ?_ _ _ rfl) hk ?_ hkey.1 hkey.2 (fun x _ h0=>freshGen_upd _ _ _ _ (nb x h0))
     ·have hdl : ((es.drop 0).take len).length = 0:=by rw [hdrop]; rfl
      rw [hdl]
      refine run_append_fits (m:=0) (new:=[]) h1 h1' hsz (Nat.le_refl _) (by simpa using hfc) ?_
      cases ra' with
      | none=>exact .inl ⟨rfl,rfl⟩
      | some ad=>exact .inr ⟨ad,rfl,by simp [storeCells]⟩
     ·have hdl : ((es.drop 0).take len).length = 0:=by rw [hdrop]; rfl
      rw [hdl]
      simp only [List.length_nil,Nat.add_zero,hl0]
      exact .ref _ _ _ _ _ _ _ _ (upd_same _ _ _) (Nat.le_refl _) (Nat.le_refl _) (by simp) fun _=>⟨rfl,rfl⟩
    | some rb=>
     simp only [RefReal,hreal] at hre
     simp only [RowRel,hreal] at q4
     obtain ⟨arr,ty',w1,w2,w3,w4,w5⟩:=q4
     rcases hre with ⟨rfl,hroom⟩ | ⟨hl0,hc0⟩
     ·have hroom2 : (off + cx') * mb0.sz ≤ mb0.room * mb0.sz:=Nat.mul_le_mul_right _ (by omega)
      have hfit2 : (len + ys.length) * mb0.sz ≤ cx' * mb0.sz:=Nat.mul_le_mul_right _ hfit
      rw [Nat.add_mul] at hroom2 hfit2
      rw [q3] at hroom2 hfit2 w2
      have hst:=run_storeCells_at P rb (mb0.base + off * ty.2.1 + len * ty.2.1) ty' new 0 arr w w1 (by rw [hyl]; omega) (f2.one hn0)
      simp only [Nat.add_zero] at hst
      have hkey:=hr.sim.change (w':=w.setRow rb (arr.toList.take (mb0.base + off * ty.2.1 + len * ty.2.1) ++ new ++ arr.toList.drop (mb0.base + off * ty.2.1 + len * ty.2.1 + new.length)).toArray) b
       ⟨mb0.gen + 1,ty.2.1,mb0.room - off,mb0.base + off * ty.2.1,some rb⟩ (.row (mb0.gen + 1) ty.2.1 (((es.drop off).take len) ++ ys)) (fun m hm=>.inl (by rw [q1] at hm; cases hm; exact Nat.lt_succ_self _)) (fun r hr'=>by cases hr'; exact .inr ⟨mb0,q1,hreal⟩)
       (by rw [size_setRow]; exact Nat.le_refl _) (fun k _ hk=>heap_setRow_ne _ _ _ _ (fun e=>hk (by rw [e]))) (fun _ _ _ _=>trivial) rfl rfl rfl ?_
      ·refine fin_value (rv:=.slice (some ⟨rb,mb0.base + off * mb0.sz,none⟩) (len + ys.length) cx') (hexec ex ey (r:=.ok _ _) ?_ _ _ rfl) hk ?_ hkey.1 hkey.2 (fun x _ h0=>freshGen_upd _ _ _ _ (nb x h0))
       ·rw [ey] at r2
        refine run_append_fits h1 h1' hsz hfit (r2 w rfl) (.inr ⟨_,rfl,?_⟩)
        rw [Addr.add_lit,q3]; exact hst
       ·refine .ref _ _ _ _ _ _ _ _ (upd_same _ _ _) (Nat.le_refl _) hfit (by simp) fun _=>.inl ⟨?_,by simp only [Nat.zero_add]; omega⟩
        simp [q3]
      ·have hle2 : M.le (upd M b ⟨mb0.gen + 1,ty.2.1,mb0.room - off,mb0.base + off * ty.2.1,some rb⟩):=MMap.le_upd fun m hm=>.inl (by rw [q1] at hm; cases hm; exact Nat.lt_succ_self _)
       refine ⟨_,upd_same _ _ _,rfl,rfl,?_⟩
       simp only [RowRel]
       refine ⟨_,ty',setRow_heap w rb arr _ ty' (0,0) w1,?_,by simp only [List.length_append,hxl]; omega,fun i hi=>((f1.append f2).2 i hi).1,fun i j hi hj=>?_⟩
       ·have hsub : (mb0.room - off) * ty.2.1 = mb0.room * ty.2.1 - off * ty.2.1:=Nat.sub_mul _ _ _
        simp only [List.size_toArray,List.length_append,List.length_take,List.length_drop,Array.length_toList,hyl,hsub]
        omega
       ·rw [getD_toArray,splice_getD _ _ _ _ (by have:=hyl; have e9 : arr.toList.length = arr.size:=Array.length_toList; omega)]
        have hil : i < len + ys.length:=by simpa only [List.length_append,hxl] using hi
        have heb:=elem_bound (sz:=ty.2.1) hil (Nat.le_refl _)
        have hfl:=((f1.append f2).2 i hi).2 j hj
        refine ⟨?_,?_⟩
        all_goals
         by_cases hin : i < len
         ·have heb2:=elem_bound (sz:=ty.2.1) hin (Nat.le_refl _)
          rw [if_neg (by omega)]
          have e1 : (((es.drop off).take len) ++ ys).getD i .undef = es.getD (off + i) .undef:=by
           simp only [List.getD_eq_getElem?_getD,List.getElem?_append,hxl,if_pos hin,List.getElem?_take,List.getElem?_drop]
          have:=w5 (off + i) j (by omega) (by rw [q3]; exact hj)
          rw [q3,Nat.add_mul,← Nat.add_assoc] at this
          have e2 : arr.toList.getD (mb0.base + off * ty.2.1 + i * ty.2.1 + j) undef = arr.getD (mb0.base + off * ty.2.1 + i * ty.2.1 + j) undef:=by
           simp [List.getD_eq_getElem?_getD,Array.getD_eq_getD_getElem?]
          rw [e2]
          first
           | (rw [e1]; exact this.1.mono G.le_refl hle2)
           | exact this.2
         ·have e3 : i * ty.2.1 = len * ty.2.1 + (i - len) * ty.2.1:=by rw [← Nat.add_mul]; congr 1; omega
          have hyi : i - len < ys.length:=by omega
          have heb3:=elem_bound (sz:=ty.2.1) hyi (Nat.le_refl _)
          rw [if_pos (by rw [hyl]; omega)]
          have e4 : mb0.base + off * ty.2.1 + i * ty.2.1 + j - (mb0.base + off * ty.2.1 + len * ty.2.1) = (i - len) * ty.2.1 + j:=by omega
          rw [e4]
          have e1 : (((es.drop off).take len) ++ ys).getD i .undef = ys.getD (i - len) .undef:=by
           simp only [List.getD_eq_getElem?_getD,List.getElem?_append,hxl,if_neg hin]
          have:=(f2.2 (i - len) hyi).2 j hj
          first
           | (rw [e1]; exact this.1.mono G.le_refl hle2)
           | exact this.2
     ·have hys : ys = []:=List.length_eq_zero_iff.1 (by omega)
      subst hys
      have hnew : new = []:=by simpa using hyl
      have hdrop : ((es.drop off).take len) = []:=List.length_eq_zero_iff.1 (by rw [hxl,hl0])
      have hkey:=hr.sim.change (w':=w) b ⟨mb0.gen + 1,ty.2.1,0,0,some rb⟩ (.row (mb0.gen + 1) ty.2.1 (((es.drop off).take len) ++ [])) (fun m hm=>.inl (by rw [q1] at hm; cases hm; exact Nat.lt_succ_self _)) (fun r hr'=>by cases hr'; exact .inr ⟨mb0,q1,hreal⟩) (Nat.le_refl _) (fun _ _ _=>rfl) (fun _ _ _ _=>trivial) rfl rfl rfl
       ⟨_,upd_same _ _ _,rfl,rfl,by
        simp only [RowRel]
        refine ⟨arr,ty',w1,by simp,by simp [hdrop],fun i hi=>by simp [hdrop] at hi,fun i j hi=>by simp [hdrop] at hi⟩⟩
      have hfc : (Builtin.firstCells ty.2.1 0 (.slice ra2 0 cy)).run P w = .ok #[] w:=by
       have:=r2 w rfl
       rw [ey,hnew] at this; simpa using this
      subst hl0 hc0
      refine fin_value (rv:=.slice ra' 0 0) (hexec ex ey (r:=.ok _ w) ?_ _ _ rfl) hk ?_ hkey.1 hkey.2 (fun x _ h0=>freshGen_upd _ _ _ _ (nb x h0))
      ·refine run_append_fits (m:=0) (new:=[]) h1 h1' hsz (Nat.le_refl _) (by simpa using hfc) ?_
       cases ra' with
       | none=>exact .inl ⟨rfl,rfl⟩
       | some ad=>exact .inr ⟨ad,rfl,by simp [storeCells]⟩
      ·exact .ref _ _ _ _ _ _ _ _ (upd_same _ _ _) (Nat.le_refl _) (Nat.le_refl _) (by simp) fun _=>.inr ⟨rfl,rfl⟩
   ·refine grow b (xs:=((es.drop off).take len)) (cap:=cx') (by rw [hxl]; exact ex) ey (by rw [hxl]; omega) hby (by rw [hxl]; exact hlen) f1 f2 (by rw [hxl] at r1 ⊢; exact r1) (by rw [← ey]; exact r2) ?_ (fun x _ h0=>nb x h0)
    rw [hxl]; exact hk0
  ·exact hi.elim
 ·exact hi.elim
theorem elemsW_mono {sz : Nat} {K K' : List V→Prop} {v : V} (hk : elemsW h sz K v) (hm : ∀ l,K l→K' l) : elemsW h sz K' v:=by
 unfold elemsW at hk ⊢
 split at hk
 ·exact ⟨hk.1,hm _ hk.2⟩
 ·split at hk
  ·rename_i he
   exact ⟨hk.1,hk.2.1,hk.2.2.1,hm _ hk.2.2.2⟩
  ·exact hk.elim
 ·exact hk.elim
theorem appG_of {id : Nat} {fg : Nat→Nat} {sz bytes : Nat} {z : List V} {x y : IOpd} {K : V→Hp→Prop} (hi : istep P gl id fr h K (.app sz bytes z x y)) : appG gl fr h id fg sz bytes z x y K:=by
 simp only [istep] at hi
 unfold appG
 split at hi
 ·rename_i h1 h2
  simp only [h1,h2]
  exact elemsW_mono hi fun l hl=>⟨hl.1,hl.2.1,hl.2.2.1,hl.2.2.2.1,hl.2.2.2.2.1,hl.2.2.2.2.2.1,fun hne=>hl.2.2.2.2.2.2 hne _⟩
 ·rename_i h1 h2
  simp only [h1,h2]
  split at hi
  ·rename_i h3
   simp only [h3]
   exact elemsW_mono hi fun l hl=>⟨hl.1,hl.2.1,hl.2.2.1,hl.2.2.2.1,hl.2.2.2.2.1,hl.2.2.2.2.2.1,hl.2.2.2.2.2.2 _⟩
  ·exact hi.elim
 ·exact hi.elim
theorem sound_app (hr : R bs n gl G M fr h a w) {o : Oper} {c : Call} {t t2 e e2 : TypeId} {x y : Operand} {z : Value} {ty : Bool × Nat × Nat} {Q : Exit→Act→World→Prop} {K : V→Hp→Prop} (ho : o.op = .call c) (hc : c.callee = .builtin .append)
  (ha : c.args.toList = [x,y]) (hat : c.argTypes.toList = [t,t2]) (h1 : P.underlying t = some (.slice e)) (h1' : P.underlying t2 = some (.slice e2)) (h2 : tyOf P e = some ty) (hz : zeroOf P e = some z) (hn0 : ty.2.1 ≠ 0) {id : Nat}
  (hi : istep P gl id fr h K (.app ty.2.1 ty.2.2 (vOfZ z).cells (co x) (co y))) : o.wp P a w (OpPost h id K G M w o a) Q:=sound_appG hr ho hc ha hat h1 h1' h2 hz hn0 (appG_of hi)
end
end Go.Proofs.YtcdfifbabhfknaaDoor
namespace Go.Proofs.YtcdfifbabhfknaaDoor
open Go
section
variable {P : Program} {gl : Fr} {bs n : Nat} {fr : Fr} {h : Hp} {G : GMap} {M : MMap} {a : Act} {w : World}
theorem eqOk_split : ∀ (j : Nat) {l1 l2 : List V},eqOk l1 l2→eqOk (l1.take j) (l2.take j)∧eqOk (l1.drop j) (l2.drop j)∧eqCells l1 l2 = (eqCells (l1.take j) (l2.take j) && eqCells (l1.drop j) (l2.drop j))
 | 0,l1,l2,h=>⟨by simp [eqOk],by simpa using h,by simp [eqCells]⟩
 | j + 1,[],[],h=>⟨by simp [eqOk],by simp [eqOk],by simp [eqCells]⟩
 | j + 1,[],_ :: _,h=>by simp [eqOk] at h
 | j + 1,x :: l1,[],h=>by cases x <;> simp [eqOk] at h
 | j + 1,x :: l1,y :: l2,h=>by
  cases x <;> cases y <;> simp only [eqOk] at h <;> try exact h.elim
  obtain ⟨rfl,h⟩:=h
  obtain ⟨h1,h2,h3⟩:=eqOk_split j h
  refine ⟨by simp only [List.take_succ_cons,eqOk]; exact ⟨trivial,h1⟩,by simpa using h2,?_⟩
  simp only [List.take_succ_cons,List.drop_succ_cons,eqCells,h3,Bool.and_assoc]
theorem eqOk_len : ∀ {l1 l2 : List V},eqOk l1 l2→l1.length = l2.length
 | [],[],_=>rfl
 | [],_ :: _,h=>by simp [eqOk] at h
 | x :: l1,[],h=>by cases x <;> simp [eqOk] at h
 | x :: l1,y :: l2,h=>by
  cases x <;> cases y <;> simp only [eqOk] at h <;> try exact h.elim
  simp [eqOk_len h.2]
theorem getD_take {l : List V} {k i : Nat} (h : i < k) : (l.take k).getD i .undef = l.getD i .undef:=by simp [List.getD_eq_getElem?_getD,h]
theorem getD_drop {l : List V} {k i : Nat} : (l.drop k).getD i .undef = l.getD (k + i) .undef:=by simp [List.getD_eq_getElem?_getD]
theorem getD_extract {xs : Array Value} {a b i : Nat} (h : a + i < b) (hb : b ≤ xs.size) : (xs.extract a b).getD i undef = xs.getD (a + i) undef:=by
 have h1 : i < (xs.extract a b).size:=by simp; omega
 have h2 : a + i < xs.size:=by omega
 rw [Array.getD_eq_getD_getElem?,Array.getD_eq_getD_getElem?,Array.getElem?_eq_getElem h1,Array.getElem?_eq_getElem h2,Array.getElem_extract]
structure FlatR (P : Program) (G : GMap) (M : MMap) (w : World) (d : Nat) (t : TypeId) (k : Nat) : Prop where
 whole : ∀ D,d ≤ D→∀ (xs ys : Array Value) (l1 l2 : List V),(∃ q,tyOf P t = some (true,q))→xs.size = k→ys.size = k→l1.length = k→(∀ i,i < k→RelV G M (l1.getD i .undef) (xs.getD i undef))→(∀ i,i < k→RelV G M (l2.getD i .undef) (ys.getD i undef))→eqOk l1 l2→
  (Op.equalIn D t (.agg xs) (.agg ys)).run P w = .ok (eqCells l1 l2) w
 cells : ∀ D,d ≤ D→∀ (xs ys : Array Value) (off : Nat) (l1 l2 : List V),off + k ≤ xs.size→off + k ≤ ys.size→l1.length = k→(∀ i,i < k→RelV G M (l1.getD i .undef) (xs.getD (off + i) undef))→(∀ i,i < k→RelV G M (l2.getD i .undef) (ys.getD (off + i) undef))→eqOk l1 l2→
  ∃ a b,(part t xs off).run P w = .ok a w∧(part t ys off).run P w = .ok b w∧(Op.equalIn D t a b).run P w = .ok (eqCells l1 l2) w
theorem run_flatF {d : Nat} (ih : ∀ t k,flatEq P d t = some k→FlatR P G M w d t k) {D : Nat} (hD : d ≤ D) {xs ys : Array Value} : ∀ (fs : List Field) (off tot : Nat) (l1 l2 : List V),flatF P (flatEq P d) fs off = some tot→tot ≤ xs.size→tot ≤ ys.size→off + l1.length = tot→
  (∀ i,i < l1.length→RelV G M (l1.getD i .undef) (xs.getD (off + i) undef))→(∀ i,i < l1.length→RelV G M (l2.getD i .undef) (ys.getD (off + i) undef))→eqOk l1 l2→off ≤ tot∧(Op.eqFields D xs ys fs).run P w = .ok (eqCells l1 l2) w
 | [],off,tot,l1,l2,h,h1,h2,h3,r1,r2,hk=>by
  simp only [flatF,Option.some.injEq] at h
  subst h
  have : l1 = []:=List.length_eq_zero_iff.1 (by omega)
  subst this
  have : l2 = []:=List.length_eq_zero_iff.1 (eqOk_len hk).symm
  subst this
  exact ⟨Nat.le_refl _,by simp [Op.eqFields,eqCells]⟩
 | f :: fs,off,tot,l1,l2,h,h1,h2,h3,r1,r2,hk=>by
  simp only [flatF] at h
  split at h
  ·rename_i hc
   obtain ⟨hn,rfl⟩:=hc
   split at h
   ·rename_i k hk2
    have hF:=ih f.type k hk2
    have hle : f.offset + k ≤ tot:=flatF_le fs _ _ h
    obtain ⟨o1,o2,o3⟩:=eqOk_split k hk
    obtain ⟨a,b,p1,p2,p3⟩:=hF.cells D hD xs ys f.offset (l1.take k) (l2.take k) (by omega) (by omega) (by simp; omega)
     (fun i hi=>by rw [getD_take hi]; exact r1 i (by omega)) (fun i hi=>by rw [getD_take hi]; exact r2 i (by omega)) o1
    obtain ⟨q1,q2⟩:=run_flatF ih hD fs (f.offset + k) tot (l1.drop k) (l2.drop k) h h1 h2 (by simp; omega)
     (fun i hi=>by rw [getD_drop]; simp at hi; have:=r1 (k + i) (by omega); rwa [← Nat.add_assoc] at this)
     (fun i hi=>by rw [getD_drop]; simp at hi; have:=r2 (k + i) (by omega); rwa [← Nat.add_assoc] at this) o2
    refine ⟨by omega,?_⟩
    simp only [Op.eqFields]
    rw [if_pos hn]
    simp only [Sem.run_bind,p1,p2,p3,Result.andThen_ok,o3]
    cases eqCells (l1.take k) (l2.take k)
    ·simp
    ·simpa using q2
   ·cases h
  ·cases h
where
 flatF_le {g : TypeId→Option Nat} : ∀ (fs : List Field) (off tot : Nat),flatF P g fs off = some tot→off ≤ tot
  | [],off,tot,h=>by simp only [flatF,Option.some.injEq] at h; omega
  | f :: fs,off,tot,h=>by
   simp only [flatF] at h
   split at h
   ·split at h
    ·have:=flatF_le fs _ _ h; omega
    ·cases h
   ·cases h
theorem run_flatI {d : Nat} {e : TypeId} {k : Nat} (ih : FlatR P G M w d e k) {D : Nat} (hD : d ≤ D) {xs ys : Array Value} : ∀ (m j : Nat) (l1 l2 : List V),(j + m) * k ≤ xs.size→(j + m) * k ≤ ys.size→l1.length = m * k→
  (∀ i,i < l1.length→RelV G M (l1.getD i .undef) (xs.getD (j * k + i) undef))→(∀ i,i < l1.length→RelV G M (l2.getD i .undef) (ys.getD (j * k + i) undef))→eqOk l1 l2→(Op.eqItems D e k xs ys (List.range' j m)).run P w = .ok (eqCells l1 l2) w
 | 0,j,l1,l2,h1,h2,h3,r1,r2,hk=>by
  have : l1 = []:=List.length_eq_zero_iff.1 (by omega)
  subst this
  have : l2 = []:=List.length_eq_zero_iff.1 (eqOk_len hk).symm
  subst this
  simp [Op.eqItems,eqCells]
 | m + 1,j,l1,l2,h1,h2,h3,r1,r2,hk=>by
  obtain ⟨o1,o2,o3⟩:=eqOk_split k hk
  have e1 : (j + (m + 1)) * k = j * k + k + m * k:=by rw [Nat.add_mul,Nat.add_mul]; omega
  have e2 : (m + 1) * k = m * k + k:=by rw [Nat.add_mul]; omega
  have e3 : (j + 1 + m) * k = j * k + k + m * k:=by rw [Nat.add_mul,Nat.add_mul]; omega
  have e4 : (j + 1) * k = j * k + k:=by rw [Nat.add_mul]; omega
  obtain ⟨a,b,p1,p2,p3⟩:=ih.cells D hD xs ys (j * k) (l1.take k) (l2.take k) (by omega) (by omega) (by simp; omega)
   (fun i hi=>by rw [getD_take hi]; exact r1 i (by omega)) (fun i hi=>by rw [getD_take hi]; exact r2 i (by omega)) o1
  rw [e1] at h1 h2
  have q2:=run_flatI ih hD (xs:=xs) (ys:=ys) m (j + 1) (l1.drop k) (l2.drop k) (by rw [e3]; exact h1) (by rw [e3]; exact h2) (by simp; omega)
   (fun i hi=>by rw [getD_drop,e4]; simp at hi; have:=r1 (k + i) (by omega); rwa [← Nat.add_assoc] at this)
   (fun i hi=>by rw [getD_drop,e4]; simp at hi; have:=r2 (k + i) (by omega); rwa [← Nat.add_assoc] at this) o2
  rw [List.range'_succ]
  simp only [Op.eqItems,Sem.run_bind,p1,p2,p3,Result.andThen_ok,o3]
  cases eqCells (l1.take k) (l2.take k)
  ·simp
  ·simpa using q2
theorem flat_cells {d : Nat} {t : TypeId} {k by_ : Nat} (ht : tyOf P t = some (true,k,by_))
  (hw : ∀ D,d ≤ D→∀ (xs ys : Array Value) (l1 l2 : List V),(∃ q,tyOf P t = some (true,q))→xs.size = k→ys.size = k→l1.length = k→(∀ i,i < k→RelV G M (l1.getD i .undef) (xs.getD i undef))→(∀ i,i < k→RelV G M (l2.getD i .undef) (ys.getD i undef))→eqOk l1 l2→
   (Op.equalIn D t (.agg xs) (.agg ys)).run P w = .ok (eqCells l1 l2) w) : FlatR P G M w d t k:=by
 obtain ⟨g1,g2,-⟩:=tyOf_spec ht
 refine ⟨hw,fun D hD xs ys off l1 l2 h1 h2 h3 r1 r2 hk=>⟨.agg (xs.extract off (off + k)),.agg (ys.extract off (off + k)),?_,?_,?_⟩⟩
 ·simp only [part,Sem.run_bind,g1,g2,Result.andThen_ok,if_true,Sem.run_pure]
 ·simp only [part,Sem.run_bind,g1,g2,Result.andThen_ok,if_true,Sem.run_pure]
 ·refine hw D hD _ _ l1 l2 ⟨_,ht⟩ (by simp; omega) (by simp; omega) h3 (fun i hi=>?_) (fun i hi=>?_) hk
  ·rw [getD_extract (by omega) h1]; exact r1 i hi
  ·rw [getD_extract (by omega) h2]; exact r2 i hi
theorem run_flat : ∀ (d : Nat) (t : TypeId) (k : Nat),flatEq P d t = some k→FlatR P G M w d t k
 | 0,_,_,h=>by cases h
 | d + 1,t,k,h=>by
  simp only [flatEq] at h
  split at h
  ·rename_i kk ty hu ht
   cases h
   have hag : tyOf P t = some (false,ty.2):=by
    unfold tyOf at ht ⊢
    rw [hu] at ht ⊢
    split at ht
    ·rename_i d0 i0 e1 e2
     cases e1
     simp only [Option.some.injEq] at ht
     subst ht
     first | rfl | (rw [e2]; rfl)
    ·cases ht
   obtain ⟨g1,-⟩:=tyOf_spec (ag:=false) (n:=ty.2.1) (by_:=ty.2.2) hag
   refine ⟨fun D _ xs ys l1 l2 ⟨q,hq⟩=>by rw [hag] at hq; simp at hq,fun D hD xs ys off l1 l2 h1 h2 h3 r1 r2 hk=>?_⟩
   have p : ∀ zs : Array Value,off + 1 ≤ zs.size→(part t zs off).run P w = .ok (zs.getD off undef) w:=fun zs hz=>by
    have hz' : off < zs.size:=by omega
    simp [part,g1,hz',Array.getD_eq_getD_getElem?]
   refine ⟨_,_,p xs h1,p ys h2,?_⟩
   match l1,l2,h3,hk,r1,r2 with
   | [x],[y],_,hk,r1,r2=>
    have q1:=r1 0 (by omega)
    have q2:=r2 0 (by omega)
    simp only [List.getD_cons_zero,Nat.add_zero] at q1 q2
    obtain ⟨kx,m,m',rfl,rfl⟩ : ∃ k m m',x = .int k m∧y = .int k m':=by
     cases x <;> cases y <;> simp only [eqOk] at hk <;> try exact hk.elim
     exact ⟨_,_,_,rfl,by rw [hk.1]⟩
    rw [relV_int_inv q1,relV_int_inv q2]
    obtain ⟨D,rfl⟩ : ∃ e,D = e + 1:=⟨D - 1,by omega⟩
    rw [run_equalIn_int w D t kx kk m m' hu]
    simp only [eqCells,Bool.and_true]
    rfl
   | [x],[],_,hk,_,_=>exact absurd (eqOk_len hk) (by simp)
   | [x],_ :: _ :: _,_,hk,_,_=>exact absurd (eqOk_len hk) (by simp)
  ·rename_i fs ty hu ht
   split at h
   ·rename_i k0 hk0
    split at h
    ·rename_i hc
     cases h
     obtain ⟨c1,c2⟩:=hc
     have ih:=run_flat d
     have hfo : P.fieldsOf t = fs:=by simp [Program.fieldsOf,hu]
     have hag : tyOf P t = some (true,k,ty.2.2):=by
      unfold tyOf at ht ⊢
      rw [hu] at ht ⊢
      split at ht
      ·rename_i d0 i0 e1 e2
       cases e1
       simp only [Option.some.injEq] at ht
       subst ht
       try rw [e2]
       simp only at c2
       simp [c2,isAggD]
      ·cases ht
     refine flat_cells hag fun D hD xs ys l1 l2 _ h1 h2 h3 r1 r2 hk=>?_
     obtain ⟨D,rfl⟩ : ∃ e,D = e + 1:=⟨D - 1,by omega⟩
     rw [run_equalIn_agg w D t xs ys (by rw [hfo]; exact hu) c1,hfo]
     exact (run_flatF ih (by omega) fs.toList 0 k l1 l2 hk0 (by omega) (by omega) (by omega) (fun i hi=>by rw [Nat.zero_add]; exact r1 i (by omega)) (fun i hi=>by rw [Nat.zero_add]; exact r2 i (by omega)) hk).2
    ·cases h
   ·cases h
  ·rename_i n e ty hu ht
   split at h
   ·rename_i k0 i0 hk0 hi0
    split at h
    ·rename_i hc
     cases h
     obtain ⟨c1,c2⟩:=hc
     have ih:=run_flat d e k0 hk0
     have hag : tyOf P t = some (true,n * k0,ty.2.2):=by
      unfold tyOf at ht ⊢
      rw [hu] at ht ⊢
      split at ht
      ·rename_i d0 i0 e1 e2
       cases e1
       simp only [Option.some.injEq] at ht
       subst ht
       try rw [e2]
       simp only at c2
       simp [c2,isAggD]
      ·cases ht
     refine flat_cells hag fun D hD xs ys l1 l2 _ h1 h2 h3 r1 r2 hk=>?_
     obtain ⟨D,rfl⟩ : ∃ e,D = e + 1:=⟨D - 1,by omega⟩
     rw [run_equalIn_array w D xs ys hu hi0,c1,List.range_eq_range']
     exact run_flatI ih (by omega) n 0 l1 l2 (by simp; omega) (by simp; omega) h3 (fun i hi=>by rw [Nat.zero_mul,Nat.zero_add]; exact r1 i (by omega)) (fun i hi=>by rw [Nat.zero_mul,Nat.zero_add]; exact r2 i (by omega)) hk
    ·cases h
   ·cases h
  ·cases h
theorem plainStruct_spec {t : TypeId} {m : Nat} (h : plainStruct P t = some m) : P.eqGuardType P.depth t = false∧flatEq P 100 t = some m∧∃ q,tyOf P t = some (true,q):=by
 have key : ∀ d,P.underlying t = some d→isAggD d = true→flatEq P 100 t = some m→∃ q,tyOf P t = some (true,q):=fun d hd ha hf=>by
  unfold flatEq at hf
  cases ht : tyOf P t with
  | none=>rw [hd,ht] at hf; cases d <;> cases hf
  | some ty=>
   refine ⟨ty.2,?_⟩
   unfold tyOf at ht
   rw [hd] at ht
   split at ht
   ·rename_i d0 i0 e1 e2
    cases e1
    simp only [Option.some.injEq] at ht
    subst ht
    simp [ha]
   ·cases ht
 unfold plainStruct at h
 split at h
 ·rename_i fields he
  split at h
  ·rename_i hc; exact ⟨hc,h,key _ he rfl h⟩
  ·cases h
 ·rename_i n e he
  split at h
  ·rename_i hc; exact ⟨hc,h,key _ he rfl h⟩
  ·cases h
 ·cases h
theorem sound_eqs (hr : R bs n gl G M fr h a w) {o : Oper} {op : BinOp} {t yt : TypeId} {x y : Operand} {neg : Bool} {m : Nat} {Q : Exit→Act→World→Prop} {K : V→Hp→Prop} (ho : o.op = .binOp op t x y yt)
  (hop : op = if neg then .neq else .eql) (hp : plainStruct P t = some m) {id : Nat} (hi : istep P gl id fr h K (.eqs neg m (co x) (co y))) : o.wp P a w (PurePost K G M w o a h) Q:=by
 obtain ⟨h4,h5,h6⟩:=plainStruct_spec hp
 simp only [istep] at hi
 split at hi
 ·rename_i ca cb hx hy
  obtain ⟨l1,l2,hok,hk⟩:=hi
  obtain ⟨xs,ex,hxs⟩:=relV_agg_inv (ev_co hr hx)
  obtain ⟨ys,ey,hys⟩:=relV_agg_inv (ev_co hr hy)
  have hq : (Op.equalIn 10000 t (.agg xs) (.agg ys)).run P w = .ok (eqCells ca cb) w := 
   (run_flat (G:=G) (M:=M) (w:=w) 100 t m h5).whole 10000 (by omega) xs ys ca cb h6 (by rw [hxs.1,l1]) (by rw [hys.1,l2]) l1 (fun i hi=>(hxs.2 i (by omega)).1) (fun i hi=>(hys.2 i (by omega)).1) hok
  refine fin_pure hr ?_ hk (.bool _)
  subst hop
  cases neg
  ·simp only [execOp,ho,ex,ey,Bool.false_eq_true,if_false,Sem.run_bind,run_eqGuard_agg w _ t x y xs ys h4,Result.andThen_ok,run_eql_struct,hq]
   simp
  ·simp only [execOp,ho,ex,ey,if_true,Sem.run_bind,run_eqGuard_agg w _ t x y xs ys h4,Result.andThen_ok,run_neq_struct,hq]
   simp
 ·exact hi.elim
theorem bytesOf_ints : ∀ {es : List V} {s : List UInt8},bytesOf es = some s→∃ ns : List Int,es = ns.map (V.int .u8)∧s = ns.map fun m=>UInt8.ofNat m.toNat
 | [],s,h=>by simp [bytesOf] at h; subst h; exact ⟨[],rfl,rfl⟩
 | e :: r,s,h=>by
  unfold bytesOf at h
  split at h
  ·cases ‹_ :: _ = []›
  ·rename_i m r' he
   cases he
   cases hr : bytesOf r with
   | none=>rw [hr] at h; cases h
   | some s'=>
    rw [hr] at h
    simp only [Option.map_some,Option.some.injEq] at h
    obtain ⟨ns,rfl,rfl⟩:=bytesOf_ints hr
    exact ⟨m :: ns,rfl,h.symm⟩
  ·cases h
theorem foldl_push_bytes : ∀ (ns : List Int) (b : ByteArray),ns.foldl (fun r (m : Int)=>r.push (UInt8.ofNat m.toNat)) b = ⟨(b.data.toList ++ ns.map fun m=>UInt8.ofNat m.toNat).toArray⟩
 | [],b=>by simp
 | m :: r,b=>by
  simp only [List.foldl_cons,foldl_push_bytes r]
  congr 1
  simp [ByteArray.push]
theorem sound_b2s (hr : R bs n gl G M fr h a w) {o : Oper} {s d e : TypeId} {x : Operand} {Q : Exit→Act→World→Prop} {K : V→Hp→Prop} (ho : o.op = .convert s d x)
  (h1 : P.underlying s = some (.slice e)) (h2 : P.underlying d = some .string) (h3 : P.underlying e = some (.int .u8)) {id : Nat} (hi : istep P gl id fr h K (.b2s (co x))) : o.wp P a w (PurePost K G M w o a h) Q:=by
 simp only [istep] at hi
 split at hi
 ·rename_i vx hx
  obtain ⟨ys,ra,rcap,cells,hk,ex,f1,r1⟩:=elemsW_spec (P:=P) hr.sim hi (evN_co hr hx)
  split at hk
  ·rename_i l hl
   obtain ⟨ns,rfl,rfl⟩:=bytesOf_ints hl
   have hcells : cells = ns.map (Value.int .u8):=by
    apply List.ext_getElem?
    intro i
    by_cases hi : i < ns.length
    ·have:=((f1.2 i (by simpa using hi)).2 0 (by omega)).1
     simp only [Nat.mul_one,Nat.add_zero,List.getD_eq_getElem?_getD,List.getElem?_map,List.getElem?_eq_getElem hi,Option.map_some,Option.getD_some,V.cells,List.getElem?_cons_zero] at this
     have hlt : i < cells.length:=by rw [f1.1]; simpa using hi
     rw [List.getElem?_eq_getElem hlt] at this ⊢
     have e:=relV_int_inv this
     simp only [Option.getD_some] at e
     simp [e,hi]
    ·rw [List.getElem?_eq_none (by rw [f1.1]; simpa using hi),List.getElem?_eq_none (by simpa using hi)]
   refine fin_pure hr (rv:=.string ⟨(ns.map fun m=>UInt8.ofNat m.toNat).toArray⟩) ?_ hk (.str _)
   have hlen : (ns.map (V.int .u8)).length = ns.length:=by simp
   have hcv : (convert s d (a.eval x)).run P w = (Conv.bytesToString (a.eval x)).run P w:=by
    rw [ex]
    simp [convert,underlying,h1,h2,h3]
   have hb : (Conv.bytesToString (a.eval x)).run P w = .ok (.string ⟨(ns.map fun m=>UInt8.ofNat m.toNat).toArray⟩) w:=by
    have r1':=r1 w rfl
    rw [ex] at r1' ⊢
    cases ra with
    | none=>
     simp only [Builtin.firstCells,Sem.run_pure,Result.ok.injEq,and_true] at r1'
     have : cells = []:=by simpa using r1'.symm
     rw [this] at hcells
     have hns : ns = []:=by simpa using hcells.symm
     subst hns
     simp [Conv.bytesToString]
     rfl
    | some ad=>
     simp only [Builtin.firstCells,Nat.mul_one] at r1'
     rw [hcells] at r1'
     rw [hlen] at r1' ⊢
     rw [run_bytesToString w ad ns.length rcap ns r1',foldl_push_bytes]
     rfl
   simp [execOp,ho,hcv,hb]
  ·exact hk.elim
 ·exact hi.elim
end
end Go.Proofs.YtcdfifbabhfknaaDoor
namespace Go.Proofs.YtcdfifbabhfknaaDoor
open Go
section
variable {P : Program} {gl : Fr} {bs n : Nat} {fr : Fr} {h : Hp} {G : GMap} {M : MMap} {a : Act} {w : World}
theorem istep_sound (hr : R bs n gl G M fr h a w) {o : Oper} {io : IOp} (hc : comp1 P o = some io) {Q : Exit→Act→World→Prop} {K : V→Hp→Prop} {id : Nat} (hi : istep P gl id fr h K io) : o.wp P a w (OpPost h id K G M w o a) Q:=by
 unfold comp1 at hc
 split at hc
 ·rename_i x ho; cases hc; exact pure_up hr (sound_mv hr (.inl ho) hi)
 ·rename_i x ho; cases hc; exact pure_up hr (sound_mv hr (.inr ho) hi)
 ·rename_i c x y ho; cases hc; exact pure_up hr (sound_pick hr ho hi)
 ·rename_i t x ho; cases hc; exact sound_box hr ho hi
 ·rename_i t ho
  cases hz : zeroOf P t with
  | none=>rw [hz] at hc; cases hc
  | some z=>rw [hz] at hc; cases hc; exact sound_alloc hr ho hz hi
 ·rename_i t ps ho
  split at hc
  ·rename_i z fields hz hu
   split at hc
   ·rename_i hf
    cases hl : coParts (placeOf P fields) ps.toList with
    | none=>rw [hl] at hc; cases hc
    | some l=>rw [hl] at hc; cases hc; exact pure_up hr (sound_buildS hr ho hu hf hz hl hi)
   ·cases hc
  ·rename_i z len e hz hu
   split at hc
   ·rename_i ag m by_ ht
    cases hl : coParts (fun i=>some (i * m,m)) ps.toList with
    | none=>rw [hl] at hc; cases hc
    | some l=>rw [hl] at hc; cases hc; exact pure_up hr (sound_buildA (ty:=(ag,m,by_)) hr ho hu ht hz hl hi)
   ·cases hc
  ·cases hc
 ·rename_i t len ps ho
  split at hc
  ·rename_i e hu
   split at hc
   ·rename_i ag m by_ z ht hz
    split at hc
    ·rename_i hcond
     cases hl : coParts (fun i=>some (i * m,m)) ps.toList with
     | none=>rw [hl] at hc; cases hc
     | some l=>rw [hl] at hc; cases hc; exact sound_buildSl (ty:=(ag,m,by_)) hr ho hu ht hz hcond.1 hcond.2 hl hi
    ·cases hc
   ·cases hc
  ·cases hc
 ·rename_i t x ho
  cases ht : tyOf P t with
  | none=>rw [ht] at hc; cases hc
  | some ty=>rw [ht] at hc; cases hc; exact pure_up hr (sound_load hr ho ht hi)
 ·rename_i t x y ho
  cases ht : tyOf P t with
  | none=>rw [ht] at hc; cases hc
  | some ty=>rw [ht] at hc; cases hc; exact sound_store hr ho ht hi
 ·rename_i op t x y yt ho
  split at hc
  ·split at hc
   ·cases hc; exact pure_up hr (sound_bin hr ho hi)
   ·cases hc; exact pure_up hr (sound_bin hr ho hi)
   ·rename_i hu; cases hc; exact pure_up hr (sound_beq (neg:=false) hr ho rfl hu hi)
   ·cases hp : plainStruct P t with
    | none=>rw [hp] at hc; cases hc
    | some m=>rw [hp] at hc; cases hc; exact pure_up hr (sound_eqs (neg:=false) hr ho rfl hp hi)
  ·split at hc
   ·cases hc; exact pure_up hr (sound_bin hr ho hi)
   ·cases hc; exact pure_up hr (sound_bin hr ho hi)
   ·rename_i hu; cases hc; exact pure_up hr (sound_beq (neg:=true) hr ho rfl hu hi)
   ·cases hp : plainStruct P t with
    | none=>rw [hp] at hc; cases hc
    | some m=>rw [hp] at hc; cases hc; exact pure_up hr (sound_eqs (neg:=true) hr ho rfl hp hi)
  ·cases hc; exact pure_up hr (sound_bin hr ho hi)
 ·rename_i op t x ho; cases hc; exact pure_up hr (sound_un hr ho hi)
 ·rename_i s d x ho
  split at hc
  ·rename_i ks k h1 h2; cases hc; exact pure_up hr (sound_conv hr ho h1 h2 hi)
  ·rename_i h1 h2; cases hc; exact pure_up hr (sound_cvs hr ho h1 h2 hi)
  ·rename_i e h1 h2
   split at hc
   ·rename_i h3; cases hc; exact pure_up hr (sound_b2s hr ho h1 h2 h3 hi)
   ·cases hc
  ·cases hc
 ·rename_i f x y ho; cases hc; exact pure_up hr (sound_mkfn hr ho hi)
 ·rename_i t l c ho
  split at hc
  ·rename_i e hu
   split at hc
   ·rename_i ag m by_ z ht hz
    split at hc
    ·rename_i hm; cases hc; exact sound_mksl (ty:=(ag,m,by_)) hr ho hu ht hz hm hi
    ·cases hc
   ·cases hc
  ·cases hc
 ·rename_i t x lo hi' mx ho
  split at hc
  ·rename_i e hu
   split at hc
   ·rename_i ag m by_ ht
    split at hc
    ·rename_i hm; cases hc; exact pure_up hr (sound_slice (ty:=(ag,m,by_)) hr ho hu ht hm.2 hi)
    ·cases hc
   ·cases hc
  ·rename_i hu
   split at hc
   ·cases hc; exact pure_up hr (sound_sliceS hr ho hu hi)
   ·cases hc
  ·cases hc
 ·rename_i s x i ho
  split at hc
  ·rename_i fields hu
   split at hc
   ·rename_i f hf
    split at hc
    ·rename_i ag m by_ ht
     split at hc
     ·cases hc
     ·rename_i hm; cases hc; exact pure_up hr (sound_fieldA (ty:=(ag,m,by_)) hr ho hu hf ht hm hi)
    ·cases hc
   ·cases hc
  ·cases hc
 ·rename_i s x i ho
  split at hc
  ·rename_i fields hu
   split at hc
   ·rename_i f hf
    split at hc
    ·rename_i ag m by_ ht
     cases hc; exact pure_up hr (sound_field (ty:=(ag,m,by_)) hr ho hu hf ht hi)
    ·cases hc
   ·cases hc
  ·cases hc
 ·rename_i t x y ho
  split at hc
  ·rename_i e hu
   split at hc
   ·rename_i ag m by_ ht
    split at hc
    ·cases hc; exact pure_up hr (sound_idxA (ty:=(ag,m,by_)) hr ho hu ht hi)
    ·cases hc
   ·cases hc
  ·rename_i len e hu
   split at hc
   ·rename_i ag m by_ ht; cases hc; exact pure_up hr (sound_idxP (ty:=(ag,m,by_)) hr ho hu ht hi)
   ·cases hc
  ·cases hc
 ·rename_i t x y ho
  split at hc
  ·rename_i len e hu
   split at hc
   ·rename_i ag m by_ ht; cases hc; exact pure_up hr (sound_idxV (ty:=(ag,m,by_)) hr ho hu ht hi)
   ·cases hc
  ·rename_i hu; cases hc; exact pure_up hr (sound_idxS hr ho hu hi)
  ·cases hc
 ·rename_i x i ho; cases hc; exact pure_up hr (sound_extract hr ho hi)
 ·rename_i c ho
  split at hc
  ·rename_i f hcal; cases hc; exact sound_call hr ho hcal hi
  ·rename_i hcal
   split at hc
   ·rename_i t x hat ha
    split at hc
    ·rename_i e hu; cases hc; exact pure_up hr (sound_len hr ho hcal ha hat hu hi)
    ·rename_i hu; cases hc; exact pure_up hr (sound_lenS hr ho hcal ha hat hu hi)
    ·rename_i m e hu; cases hc; exact pure_up hr (sound_lenK hr ho hcal ha hat (.inl ⟨e,hu⟩) hi)
    ·rename_i u hu
     split at hc
     ·rename_i m e hu2; cases hc; exact pure_up hr (sound_lenK hr ho hcal ha hat (.inr ⟨u,e,hu,hu2⟩) hi)
     ·cases hc
    ·cases hc
   ·cases hc
  ·rename_i hcal
   split at hc
   ·rename_i t x hat ha
    split at hc
    ·rename_i e hu; cases hc; exact pure_up hr (sound_cap hr ho hcal ha hat hu hi)
    ·cases hc
   ·cases hc
  ·rename_i hcal
   split at hc
   ·rename_i t t2 x y hat ha
    split at hc
    ·rename_i e e2 hu hu2
     split at hc
     ·rename_i ag m by_ z ht hz
      split at hc
      ·rename_i hm; cases hc; exact sound_app (ty:=(ag,m,by_)) hr ho hcal ha hat hu hu2 ht hz hm hi
      ·cases hc
     ·cases hc
    ·cases hc
   ·cases hc
  ·rename_i hcal
   split at hc
   ·rename_i x y ha; cases hc; exact pure_up hr (sound_mm (mx:=true) hr ho hcal ha hi)
   ·cases hc
  ·rename_i hcal
   split at hc
   ·rename_i x y ha; cases hc; exact pure_up hr (sound_mm (mx:=false) hr ho hcal ha hi)
   ·cases hc
  ·cases hc
 ·cases hc
theorem comp1X_inv {o : Oper} {io : IOp} (hc : comp1X P o = some io) : (∃ x,io = .n x∧(comp1N P o = some x∨x = .bad))∨comp1 P o = some io:=by
 unfold comp1X at hc
 split at hc
 ·rename_i x hx; cases hc; exact .inl ⟨x,rfl,.inl hx⟩
 ·split at hc
  ·rename_i io' h; cases hc; exact .inr h
  ·cases hc; exact .inl ⟨_,rfl,.inr rfl⟩
theorem istep_soundX (hr : R bs n gl G M fr h a w) {o : Oper} {io : IOp} (hc : comp1X P o = some io) {Q : Exit→Act→World→Prop} {K : V→Hp→Prop} {id : Nat} (hi : istep P gl id fr h K io) : o.wp P a w (OpPost h id K G M w o a) Q:=by
 rcases comp1X_inv hc with ⟨x,rfl,-⟩ | h1
 ·simp [istep] at hi
 ·exact istep_sound hr h1 hi
def putF (fr : Fr) : Option Nat→V→Fr
 | none,_=>fr
 | some d,v=>(d,v) :: fr
def guardW (fr : Fr) (A B : Prop) : Option (Nat × Bool)→Prop
 | none=>A
 | some (t,want)=>match lk fr t with
  | some (.bool b)=>(b = want→A)∧(b ≠ want→B)
  | _=>False
def iops (P : Program) (gl : Fr) : List IOper→Fr→Hp→(Fr→Hp→Prop)→Prop
 | [],fr,h,K=>K fr h
 | o :: r,fr,h,K=>guardW fr (istep P gl (o.dst.getD 999999) fr h (fun v h'=>iops P gl r (putF fr o.dst v) h' K) o.op) (iops P gl r (putF fr o.dst .undef) h K) o.guard
theorem lk_cons_ne {α : Type} {d t : Nat} {v : α} {fr : List (Nat × α)} (h : t ≠ d) : lk ((d,v) :: fr) t = lk fr t:=by simp [lk,h]
theorem R.put (hr : R bs n gl G M fr h a w) {dst : Option Nat} (hd : match dst with | some d=>d < n | none=>True) {v : V} {rv : Value} {h' : Hp} {G' : GMap} {M' : MMap} {w' : World}
  (hv : RelV G' M' v rv) (hs : Sim G' M' h' w') (hx : Ext G M w G' M' w') : R bs n gl G' M' (putF fr dst v) h' (a.put dst rv) w':=by
 cases dst with
 | none=>exact ⟨hs,fun t u ht=>(hr.frr t u ht).mono hx.g hx.m,hr.sz,hr.df.ext hx,hr.gl.mono hx.g,Nat.le_trans hr.bs hx.size⟩
 | some d=>
  refine ⟨hs,fun t u ht=>?_,by simp [Act.put,hr.sz],hr.df.ext hx,hr.gl.mono hx.g,Nat.le_trans hr.bs hx.size⟩
  have hdn : d < a.tmps.size:=by rw [hr.sz]; exact hd
  simp only [putF,lk] at ht
  split at ht
  ·rename_i he
   cases ht; subst he
   have : ((a.put (some t) rv).tmps).getD t undef = rv:=by
    simp [Act.put,Array.getD_eq_getD_getElem?,hdn]
   rw [this]; exact hv
  ·rename_i he
   have : ((a.put (some d) rv).tmps).getD t undef = a.tmps.getD t undef:=by
    simp only [Act.put,Array.getD_eq_getD_getElem?]
    rw [Array.getElem?_setIfInBounds_ne (by omega)]
   rw [this]; exact (hr.frr t u ht).mono hx.g hx.m
theorem wanted_spec {ops : Array Oper} {o : Oper} (hr : R bs n gl G M fr h a w) {t : Nat} {want b : Bool} (hg : guardOf ops o = some (some (t,want))) (hb : lk fr t = some (.bool b)) (hn : t < n) : Region.wanted o (yielded ops a.tmps) = (b == want):=by
 unfold guardOf at hg
 split at hg
 ·cases hg
 ·rename_i j want' he
  split at hg
  ·rename_i d hd
   simp only [Option.some.injEq,Prod.mk.injEq] at hg
   obtain ⟨rfl,rfl⟩:=hg
   have hrv:=relV_bool_inv (hr.frr _ _ hb)
   have hlt : d < a.tmps.size:=by rw [hr.sz]; exact hn
   have hget : a.tmps[d]? = some (.bool b):=by
    rw [Array.getD_eq_getD_getElem?,Array.getElem?_eq_getElem hlt] at hrv
    rw [Array.getElem?_eq_getElem hlt]
    simpa using hrv
   simp only [Region.wanted,he,yielded,hd,Option.bind_some,hget]
   cases b <;> cases want' <;> rfl
  ·cases hg
theorem wanted_skip {ops : Array Oper} {o : Oper} (hr : R bs n gl G M fr h a w) {t : Nat} {want : Bool} (hg : guardOf ops o = some (some (t,want))) (hb : lk fr t = some (.tup [])) (hn : t < n) : Region.wanted o (yielded ops a.tmps) = false:=by
 unfold guardOf at hg
 split at hg
 ·cases hg
 ·rename_i j want' he
  split at hg
  ·rename_i d hd
   simp only [Option.some.injEq,Prod.mk.injEq] at hg
   obtain ⟨rfl,rfl⟩:=hg
   have hrv : a.tmps.getD d undef = .tuple #[]:=by
    have:=hr.frr _ _ hb
    generalize a.tmps.getD d undef = r at this
    cases this with
    | tup _ arr hs _=>
     have : arr = #[]:=Array.eq_empty_of_size_eq_zero (by simpa using hs)
     rw [this]
   have hlt : d < a.tmps.size:=by rw [hr.sz]; exact hn
   have hget : a.tmps[d]? = some (.tuple #[]):=by
    rw [Array.getD_eq_getD_getElem?,Array.getElem?_eq_getElem hlt] at hrv
    rw [Array.getElem?_eq_getElem hlt]
    simpa using hrv
   simp only [Region.wanted,he,yielded,hd,Option.bind_some,hget]
   rfl
  ·cases hg
theorem wanted_none {ops : Array Oper} {o : Oper} {tmps : Array Value} (hg : guardOf ops o = some none) : Region.wanted o (yielded ops tmps) = true:=by
 unfold guardOf at hg
 split at hg
 ·rename_i he; simp [Region.wanted,he]
 ·split at hg <;> cases hg
theorem compOp_spec {ops : Array Oper} {o : Oper} {x : IOper} (h : compOp P n ops o = some x) : comp1X P o = some x.op∧guardOf ops o = some x.guard∧x.dst = o.dst∧(match o.dst with | some d=>d < n | none=>True):=by
 unfold compOp at h
 split at h
 ·rename_i io g h1 h2
  split at h
  ·rename_i hd
   cases h
   refine ⟨h1,h2,rfl,?_⟩
   cases hdst : o.dst with
   | none=>trivial
   | some d=>rw [hdst] at hd; simpa [dstOk] using hd
  ·cases h
 ·cases h
theorem op_sound {ops : Array Oper} (hops : ∀ d,(∃ o,o ∈ ops.toList∧o.dst = some d)→d < n) (hr : R bs n gl G M fr h a w) {i : Nat} {o : Oper} (hi : ops[i]? = some o) {x : IOper} (hx : compOp P n ops o = some x) {Q : Exit→Act→World→Prop} {K : Fr→Hp→Prop} {K' : Act→World→Prop}
  (hg : guardW fr (istep P gl (x.dst.getD 999999) fr h (fun v h'=>K (putF fr x.dst v) h') x.op) (K (putF fr x.dst .undef) h) x.guard)
  (hk : ∀ fr' h' G' M' a' w',K fr' h'→R bs n gl G' M' fr' h' a' w'→Ext G M w G' M' w'→K' a' w') : wpOp P ops Q i K' a w:=by
 obtain ⟨c1,c2,c3,c4⟩:=compOp_spec hx
 unfold wpOp
 simp only [hi]
 have run : istep P gl (x.dst.getD 999999) fr h (fun v h'=>K (putF fr x.dst v) h') x.op→o.wp P a w K' Q:=by
  intro hs
  refine Oper.wp_mono ?_ (istep_soundX (Q:=Q) hr c1 hs)
  rintro a' w' ⟨v,h',rv,G',M',hK,rfl,hv,hsim,hext,-⟩
  rw [c3] at hK
  exact hk _ _ G' M' _ _ hK (hr.put c4 hv hsim hext) hext
 have skip : K (putF fr x.dst .undef) h→K' (a.put o.dst undef) w:=by
  intro hK
  rw [c3] at hK
  exact hk _ _ G M _ _ hK (hr.put c4 (.undef _) hr.sim (.refl _ _ _)) (.refl _ _ _)
 unfold guardW at hg
 split at hg
 ·rename_i he
  rw [he] at c2
  rw [wanted_none c2,if_pos rfl]
  exact .inl (run hg)
 ·rename_i t want he
  rw [he] at c2
  split at hg
  ·rename_i b hb
   have ht : t < n:=by
    unfold guardOf at c2
    split at c2
    ·cases c2
    ·split at c2
     ·rename_i d hd
      simp only [Option.some.injEq,Prod.mk.injEq] at c2
      obtain ⟨rfl,rfl⟩:=c2
      simp only [Option.bind_eq_some_iff] at hd
      obtain ⟨o2,ho2,hd2⟩:=hd
      exact hops _ ⟨o2,by simpa using Array.mem_of_getElem? ho2,hd2⟩
     ·cases c2
   rw [wanted_spec hr c2 hb ht]
   by_cases hbw : b = want
   ·subst hbw
    rw [if_pos (by simp)]
    exact .inl (run (hg.1 rfl))
   ·have hf : (b == want) = false:=by simpa using hbw
    rw [hf,if_neg (by simp)]
    exact skip (hg.2 hbw)
  ·exact hg.elim
theorem compOps_spec {ops : Array Oper} : ∀ {l : List Oper} {xs : List IOper},compOps P n ops l = some xs→xs.length = l.length∧∀ (i : Nat) (o : Oper),l[i]? = some o→∃ x,xs[i]? = some x∧compOp P n ops o = some x
 | [],xs,h=>by simp [compOps] at h; subst h; exact ⟨rfl,fun i o h=>by simp at h⟩
 | o :: l,xs,h=>by
  simp only [compOps] at h
  split at h
  ·rename_i x l' h1 h2
   cases h
   obtain ⟨i1,i2⟩:=compOps_spec h2
   refine ⟨by simp [i1],fun i o' hi=>?_⟩
   cases i with
   | zero=>simp at hi; subst hi; exact ⟨x,rfl,h1⟩
   | succ i=>simpa using i2 i o' (by simpa using hi)
  ·cases h
theorem dsts_lt {ops : Array Oper} {xs : List IOper} (hx : compOps P n ops ops.toList = some xs) : ∀ d,(∃ o,o ∈ ops.toList∧o.dst = some d)→d < n:=by
 rintro d ⟨o,ho,hd⟩
 obtain ⟨i,hi⟩:=List.mem_iff_getElem?.1 ho
 obtain ⟨x,-,hc⟩:=(compOps_spec hx).2 i o hi
 have:=(compOp_spec hc).2.2.2
 rw [hd] at this; exact this
theorem iops_sound {ops : Array Oper} {all : List IOper} (hx : compOps P n ops ops.toList = some all) {Q : Exit→Act→World→Prop} {K : Fr→Hp→Prop} : ∀ (l : List IOper) (k : Nat),all.drop k = l→∀ {fr h G M a w},R bs n gl G M fr h a w→iops P gl l fr h K→
  (∀ fr' h' G' M' a' w',K fr' h'→R bs n gl G' M' fr' h' a' w'→Ext G M w G' M' w'→Q .normal a' w')→wpOps P ops Q (List.range' k (all.length - k)) a w
 | [],k,hk,fr,h,G,M,a,w,hr,hi,hq=>by
  have : all.length - k = 0:=by have:=congrArg List.length hk; simpa using this
  rw [this]
  exact hq fr h G M a w hi hr (.refl _ _ _)
 | x :: l,k,hk,fr,h,G,M,a,w,hr,hi,hq=>by
  have hlen : all.length - k = l.length + 1:=by have:=congrArg List.length hk; simpa using this
  rw [hlen,List.range'_succ,wpOps_cons]
  have hxk : all[k]? = some x:=by
   have:=congrArg (fun q : List IOper=>q[0]?) hk
   simpa using this
  have hkl : k < ops.toList.length:=by rw [← (compOps_spec hx).1]; exact (List.getElem?_eq_some_iff.1 hxk).1
  obtain ⟨x',hx1,hx2⟩:=(compOps_spec hx).2 k _ (List.getElem?_eq_getElem hkl)
  rw [hxk] at hx1; cases hx1
  have hok : ops[k]? = some ops.toList[k]:=by simp at hkl; simp [hkl]
  have hdrop : all.drop (k + 1) = l:=by rw [← List.tail_drop,hk]; rfl
  have hll : all.length - (k + 1) = l.length:=by omega
  refine op_sound (dsts_lt hx) hr hok hx2 (K:=fun fr h=>iops P gl l fr h K) hi fun fr' h' G' M' a' w' hK hr' hext=>?_
  have:=iops_sound hx (Q:=Q) l (k + 1) hdrop hr' hK (fun fr2 h2 G2 M2 a2 w2 q1 q2 q3=>hq fr2 h2 G2 M2 a2 w2 q1 q2 (hext.trans q3))
  rw [hll] at this; exact this
theorem IW.region {id : Nat} {ops : Array Oper} {l : List IOper} (hx : compOps P n ops ops.toList = some l) {Q : IQ} (hi : iops P gl l fr h (Q .normal)) : IW P n gl (.region id ops false) Q fr h:=by
 intro rd bs hn G M a w hr
 refine wpIn_region (wpOpsIn_of (noR_ops hn) Up.noOut ?_)
 have hl : l.length = ops.size:=by have:=(compOps_spec hx).1; simpa using this
 have:=iops_sound hx (Q:=Up bs n gl G M w Q) l 0 rfl hr hi (fun fr' h' G' M' a' w' q1 q2 q3=>⟨.normal,G',M',fr',h',rfl,q1,q2,q3⟩)
 rw [Nat.sub_zero,hl,← List.range_eq_range'] at this
 exact this
end
end Go.Proofs.YtcdfifbabhfknaaDoor
