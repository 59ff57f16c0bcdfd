/- Lemmas. Conditions: none. -/
import Derived.Test.YtbbnmiaabmbheaaGreatDoorBase4
import Derived.Laws.StructEq
import Derived.Laws.BytesString
set_option linter.all false
namespace Go.Proofs.YtbbnmiaabmbheaaGreatDoor
section
open Go
section
variable {P:Program} {gl:Fr} {bs:BS} {n:Nat} {fr:Fr} {h:Hp} {G:qaz} {M:qar} {a:Act} {w:World}
theorem qj3 {k:Nat} {arr:Array Value} {ty:TypeId} {fz:Nat × Nat} (he:w.heap[k]? = some (.cells arr ty fz)) (o sz:Nat) {ys:List V} (hb:o + ys.length * sz≤arr.size)
  (hy:∀ i,i < ys.length->(ys.getD i .undef).cells.length = sz) (hr:∀ i j,i < ys.length->j < sz->qak G M ((ys.getD i .undef).cells.getD j .undef) (arr.getD (o + i * sz + j) undef)/\(arr.getD (o + i * sz + j) undef).oneCell' = true) :
  qb2 G M sz ys ((arr.toList.drop o).take (ys.length * sz))/\∀ w':World,w'.heap = w.heap->∀ len cap,len = ys.length->(Builtin.firstCells sz ys.length (.slice (some ⟨k,o,none⟩) len cap)).run P w' = .ok ((arr.toList.drop o).take (ys.length * sz)).toArray w':=by
 have hlen:((arr.toList.drop o).take (ys.length * sz)).length = ys.length * sz:=by simp; omega
 have hget:∀ q,q < ys.length * sz->((arr.toList.drop o).take (ys.length * sz)).getD q undef = arr.getD (o + q) undef:=by
  intro q hq;simp [jkd,hq,jke]
 refine ⟨⟨hlen,fun i hi=>⟨hy i hi,fun j hj=>?_⟩⟩,fun w' hw' len cap _=>?_⟩
 ·have heb:=qbb (sz:=sz) hi (jki ys.length);rw [hget _ (by omega),<- Nat.add_assoc];exact hr i j hi hj
 ·simp only [Builtin.firstCells]
  have hcell:∀ j v,((arr.toList.drop o).take (ys.length * sz))[j]? = some v->w'.cell? ((⟨k,o,none⟩:Addr).add j) = some v:=by
   intro j v hv;have hj:j < ys.length * sz:=by rw [<- hlen]; exact (List.getElem?_eq_some_iff.1 hv).1
   have:=hget j hj;rw [jkd,hv] at this;rw [Addr.add_lit,qgt (w:=w') (by rw [hw']; exact he) (o + j) (by omega),<- this];rfl
  have:=run_loadCells_list (P:=P) w' ⟨k,o,none⟩ _ hcell;rw [hlen] at this;exact this
theorem qck (hs:Sim G M h w) {sz:Nat} {K:List V->Prop} {vy:V} {ry:Value} (he:qcy h sz K vy) (hy:qak G M vy ry) :
  ∃ ys ra rcap cells,K ys/\ry = .slice ra ys.length rcap/\qb2 G M sz ys cells/\∀ w':World,w'.heap = w.heap->(Builtin.firstCells sz ys.length ry).run P w' = .ok cells.toArray w':=by
 unfold qcy at he;split at he
 ·rename_i xs cap;obtain ⟨hall,hk⟩:=he
  cases hy with
  | slnil _ base rcap hc hb=>
   refine ⟨[],base,rcap,[],hk,rfl,.nil _,fun w' _=>?_⟩;cases base <;> simp [Builtin.firstCells,loadCells,loadCellsFrom]
  | sl _ _ rb ro rcap sz' cells hne hG hsz hb hl hc hh ho=>
   have hpos:0 < xs.length:=by cases xs with
    | nil=>exact absurd rfl hne
    | cons=>simp
   have e1:sz' = sz:=by
    rw [<- hsz 0 hpos];refine hall _ ?_;rw [jkd,jkh hpos];exact jkg _
   subst e1;obtain ⟨ty,fz,hhe⟩:=hs.gw rb cells hG;obtain ⟨f1,f2⟩:=qj3 (P:=P) hhe ro sz' hb hsz (fun i j hi hj=>⟨hh i j hi hj,ho i j hi hj⟩);exact ⟨xs,_,rcap,_,hk,rfl,f1,fun w' hw'=>f2 w' hw' _ _ rfl⟩
 ·rename_i b g off len cap;split at he
  ·rename_i g' sz' es hb;obtain ⟨rfl,rfl,hle,hk⟩:=he;obtain ⟨mb0,q1,q2,q3,q4⟩:=hs.hb b _ hb;subst q3;have hlen:((es.drop off).take len).length = len:=by simp; omega
   cases hy with
   | ref _ _ _ _ _ ra rcap mb hM hg hl hcc hh=>
    rw [q1] at hM; cases hM;have hre:=hh q2.symm;by_cases h0:len = 0
    ·subst h0;have e0:(es.drop off).take 0 = []:=by simp
     refine ⟨[],ra,rcap,[],by rw [e0] at hk; exact hk,rfl,.nil _,fun w' _=>?_⟩;cases ra <;> simp [Builtin.firstCells,loadCells,loadCellsFrom]
    ·cases hreal:mb0.real with
     | none=>simp only [qb4,hreal] at hre; omega
     | some rb=>
      simp only [qb4,hreal] at hre;simp only [qbo,hreal] at q4;rcases hre with ⟨rfl,hroom⟩ | ⟨q,q'⟩
      ·obtain ⟨arr,ty,r1,r2,r3,r4,r5⟩:=q4
       have hget:∀ i,i < len->((es.drop off).take len).getD i .undef = es.getD (off + i) .undef:=by
        intro i hi;simp only [jkd,List.getElem?_take,if_pos hi,List.getElem?_drop]
       have hbnd:mb0.base + off * mb0.sz + ((es.drop off).take len).length * mb0.sz≤arr.size:=by
        rw [hlen];have h1:off * mb0.sz + len * mb0.sz = (off + len) * mb0.sz:=by rw [Nat.add_mul]
        have h2:(off + len) * mb0.sz≤mb0.room * mb0.sz:=Nat.mul_le_mul_right _ (by omega);omega
       obtain ⟨f1,f2⟩:=qj3 (P:=P) (ys:=(es.drop off).take len) r1 (mb0.base + off * mb0.sz) mb0.sz hbnd (fun i hi=>by rw [hlen] at hi; rw [hget i hi]; exact r4 _ (by omega)) (fun i j hi hj=>by
        rw [hlen] at hi; rw [hget i hi];have:=r5 (off + i) j (by omega) hj;rw [Nat.add_mul,<- Nat.add_assoc] at this; exact this)
       exact ⟨_,some ⟨rb,mb0.base + off * mb0.sz,none⟩,rcap,_,hk,by rw [hlen],f1,fun w' hw'=>f2 w' hw' len rcap hlen.symm⟩
      ·exact absurd q h0
  ·exact he.elim
 ·exact he.elim
theorem qgr (zero:Array Value) (m:Nat):(Builtin.zeroCells zero m).size = m * zero.size:=by simp [Builtin.zeroCells]
theorem qkg {s t2 tt e:TypeId} {z:Value} {ty:Bool × Nat × Nat} {i0:TypeInfo} (h1:P.underlying s = some (.slice e)) (h1':∃ e2,P.underlying t2 = some (.slice e2)) (hsz:∀ w,(sizeOf e).run P w = .ok ty.2.1 w) (hz:∀ w,(zeroValue e).run P w = .ok z w)
  (hi:P.info? e = some i0) (hib:i0.bytes = ty.2.2) {ra rb:Option Addr} {l cap m cy:Nat} {old new:List Value} (hc:cap < l + m) (hby:ty.2.2≤256) (hlen:l + m≤274877906944)
  (hold:∀ w',w'.heap = w.heap->(Builtin.firstCells ty.2.1 l (.slice ra l cap)).run P w' = .ok old.toArray w') (hnew:∀ w',w'.heap = w.heap->(Builtin.firstCells ty.2.1 m (.slice rb m cy)).run P w' = .ok new.toArray w') :
  ∃ nc,l + m≤nc/\nc≤9223372036854775807/\(Builtin.append_ #[s,t2] tt #[.slice ra l cap,.slice rb m cy]).run P w = .ok (.slice (some ⟨w.heap.size,0,none⟩) (l + m) nc)
   ({ w with drawn:=w.drawn + 1 }.alloc (.cells (old ++ (new ++ (Builtin.zeroCells z.cells (nc - (l + m))).toList)).toArray e)):=by
 obtain ⟨e2,h1'⟩:=h1';refine ⟨(Question.appendCap (l + m) cap e).cut (w.tape w.drawn (.appendCap (l + m) cap e)),by simp [Question.cut],?_,?_⟩
 ·simp only [Question.cut];have:=Nat.mod_lt (w.tape w.drawn (.appendCap (l + m) cap e)) (y:=2 ^ 63 - (l + m)) (by omega);omega
 have hg:Builtin.nextslicecap (l + m) cap * i0.bytes≤281474976710656:=growslice_fits hc (by
  rw [hib]
  have:(l + m) * ty.2.2≤274877906944 * 256:=Nat.mul_le_mul hlen hby
  omega)
 have hng:¬ Builtin.nextslicecap (l + m) cap * i0.bytes > 2 ^ 48:=by omega
 have hn1:¬ l + m≤cap:=by omega
 have hfc:(Question.appendCap (l + m) cap e).forced = false:=rfl;have ho:=hold { w with drawn:=w.drawn + 1 } rfl;have hn:=hnew { w with drawn:=w.drawn + 1 } rfl;simp only [Builtin.append_,List.getElem?_toArray,List.getElem?_cons_zero,List.getElem?_cons_succ,Sem.run_bind,underlying,run_program,Result.andThen_ok,h1,h1',Sem.run_pure,hsz,Builtin.lenOf,Bool.false_eq_true,if_false,Bool.not_false,if_true,if_neg hn1,typeInfo,hi,Sem.run_ite,if_neg hng,run_choose,hfc,run_askRoom,ho,hn,hz,newRow,run_newObj];have hmax:IntKind.i64.max = 9223372036854775807:=by decide
 rw [if_neg (by rw [hmax]; omega)]
 have harr:old.toArray ++ new.toArray ++ Builtin.zeroCells z.cells ((Question.appendCap (l + m) cap e).cut (w.tape w.drawn (Question.appendCap (l + m) cap e)) - (l + m)) =
   (old ++ (new ++ (Builtin.zeroCells z.cells ((Question.appendCap (l + m) cap e).cut (w.tape w.drawn (Question.appendCap (l + m) cap e)) - (l + m))).toList)).toArray:=by
  apply Array.ext'; simp
 rw [harr];rfl
theorem qcw {s t2 tt e e2:TypeId} {sz:Nat} (h1:P.underlying s = some (.slice e)) (h1':P.underlying t2 = some (.slice e2)) (hsz:∀ w,(sizeOf e).run P w = .ok sz w)
  {ra rb:Option Addr} {l cap m cy:Nat} {new:List Value} {w':World} (hfit:l + m≤cap) (hnew:(Builtin.firstCells sz m (.slice rb m cy)).run P w = .ok new.toArray w)
  (hst:(ra = none/\w' = w)∨∃ ad,ra = some ad/\(storeCells (ad.add (l * sz)) new).run P w = .ok () w') :
  (Builtin.append_ #[s,t2] tt #[.slice ra l cap,.slice rb m cy]).run P w = .ok (.slice ra (l + m) cap) w':=by
 simp only [Builtin.append_,List.getElem?_toArray,List.getElem?_cons_zero,List.getElem?_cons_succ,Sem.run_bind,underlying,run_program,Result.andThen_ok,h1,h1',Sem.run_pure,hsz,Builtin.lenOf,Bool.false_eq_true,if_false,Bool.not_false,if_true,if_pos hfit,hnew];rcases hst with ⟨rfl,rfl⟩ | ⟨ad,rfl,hst⟩
 ·simp
 ·simp [hst]
theorem Sim.drawn (hs:Sim G M h w):Sim G M h { w with drawn:=w.drawn + 1 }:=
 ⟨hs.gw,fun b k hk=>by
  have:=hs.hb b k hk;cases k <;> exact this,hs.inj,hs.mlt⟩
theorem Ext.drawn:Ext G M w G M { w with drawn:=w.drawn + 1 }:=
 ⟨G.le_refl,fun _ _ h=>.inl h,M.le_refl,fun _ h=>.inr h,rfl,rfl,rfl,jki _,fun _ _ _=>rfl⟩
theorem qkd {b g off len:Nat} {cap:Option Nat} {r:Value} (h:qak G M (.ref b g off len cap) r):∃ ra rcap mb,r = .slice ra len rcap/\M b = some mb/\g≤mb.gen/\len≤rcap/\(∀ c,cap = some c->rcap = c)/\(g = mb.gen->qb4 mb off len ra rcap):=by
 cases h with
 | ref _ _ _ _ _ ra rcap mb hM hg hl hc hh=>exact ⟨ra,rcap,mb,rfl,hM,hg,hl,hc,hh⟩
def jbr (gl fr:Fr) (h:Hp) (id:Nat) (fg:Nat->Nat) (sz bytes:Nat) (z:List V) (x y:qal) (K:V->Hp->Prop):Prop:=
  match evN gl fr x,evN gl fr y with
    | some (.sl xs cap), some vy => qcy h sz (fun ys => (∀ x ∈ xs, x.cells.length = sz) /\ cap = some xs.length /\ bytes≤256 /\ z.length = sz /\ xs.length + ys.length≤274877906944 /\
          (ys = []->K (.sl xs cap) h)/\(ys ≠ []->K (.ref id (fg id) 0 (xs.length + ys.length) none) ((id,.row (fg id) sz (xs ++ ys)) :: h))) vy
    | some (.ref b g off len _),some vy=>match lk h b with
      | some (.row g' sz' es)=>qcy h sz (fun ys=>g' = g/\sz' = sz/\off + len≤es.length/\bytes≤256/\z.length = sz/\len + ys.length≤274877906944/\
          K (.ref b (fg b) 0 (len + ys.length) none) ((b,.row (fg b) sz (((es.drop off).take len) ++ ys)) :: h)) vy
      | _=>False
    | _,_=>False
theorem qte (hr:R bs n gl G M fr h a w) {o:Oper} {c:Call} {t t2 e e2:TypeId} {x y:Operand} {z:Value} {ty:Bool × Nat × Nat} {Q:Exit->Act->World->Prop} {K:V->Hp->Prop} (ho:o.op = .call c) (hc:c.callee = .builtin .append)
  (ha:c.args.toList = [x,y]) (hat:c.argTypes.toList = [t,t2]) (h1:P.underlying t = some (.slice e)) (h1':P.underlying t2 = some (.slice e2)) (h2:qcg P e = some ty) (hz:qb6 P e = some z) (hn0:ty.2.1 ≠ 0) {id:Nat}
  (hi:jbr gl fr h id (qaa M) ty.2.1 ty.2.2 (qfh z).cells (co x) (co y) K):o.wp P a w (qfn h id K G M w o a) Q:=by
 obtain ⟨-,hsz,hti⟩:=qbd (P:=P) (t:=e) (ag:=ty.1) (n:=ty.2.1) (by_:=ty.2.2) (by rw [h2]);obtain ⟨z1,z2,i0,z3,z4⟩:=qbz hz;obtain ⟨i1,hi1,hib,hisz,hinfo⟩:=hti w;rw [z3] at hinfo; cases hinfo;have hzsz:z.cells.size = ty.2.1:=by rw [z4,hisz]
 have ha':=qfo ha;have hat':=qfo hat
 have hexec:∀ {rx ry:Value} {r:Result Value},a.eval x = rx->a.eval y = ry->(Builtin.append_ #[t,t2] o.type #[rx,ry]).run P w = r->(∀ v w',r = .ok v w'->(execOp a.eval o).run P w = .ok (.value v) w'):=by
  intro rx ry r ex ey hrun v w' hv;subst hv;simp [execOp,ho,resolve,hc,invoke,builtin,ha',hat',ex,ey,hrun]
 -- an append that must make a new row, whatever block it is for
 have grow:∀ (b:Nat) {ra rb:Option Addr} {cap cy:Nat} {xs ys:List V} {old new:List Value},a.eval x = .slice ra xs.length cap->a.eval y = .slice rb ys.length cy->cap < xs.length + ys.length->ty.2.2≤256->xs.length + ys.length≤274877906944->
   qb2 G M ty.2.1 xs old->qb2 G M ty.2.1 ys new->(∀ w':World,w'.heap = w.heap->(Builtin.firstCells ty.2.1 xs.length (.slice ra xs.length cap)).run P w' = .ok old.toArray w')->(∀ w':World,w'.heap = w.heap->(Builtin.firstCells ty.2.1 ys.length (.slice rb ys.length cy)).run P w' = .ok new.toArray w')->
   K (.ref b (qaa M b) 0 (xs.length + ys.length) none) ((b,.row (qaa M b) ty.2.1 (xs ++ ys)) :: h)->(∀ x,x ≠ id->lk h x = none->x ≠ b)->o.wp P a w (qfn h id K G M w o a) Q:=by
  intro b ra rb cap cy xs ys old new ex ey hcap hby hlen f1 f2 r1 r2 hk hfb;obtain ⟨nc,hnc,hnc2,hrun⟩:=qkg (P:=P) (w:=w) (tt:=o.type) h1 ⟨e2,h1'⟩ hsz z1 z3 hib hcap hby hlen r1 r2
  obtain ⟨s1,s2⟩:=hr.sim.drawn.allocFlat b e ty.2.1 nc (rest:=(Builtin.zeroCells z.cells (nc - (xs.length + ys.length))).toList) (f1.append f2) (by
   simp only [List.length_append,f1.1,f2.1,Array.length_toList,qgr,hzsz];rw [<- Nat.add_mul,<- Nat.add_mul];exact Nat.le_of_eq (by congr 1; omega)) (by simpa using hnc)
  rw [List.append_assoc] at s1 s2;refine qb0 (hexec ex ey hrun _ _ rfl) hk ?_ s1 (Ext.drawn.trans s2) (fun x hx h0=>qax _ _ _ _ (hfb x hx h0));exact qfd hnc (by omega) (by simp) _
 unfold jbr at hi;split at hi
 ·rename_i xs cap vy hx hy;have rx:=qd5 hr hx;obtain ⟨ys,ra2,cy,new,⟨hall,hcapx,hby,-,hlen,hk1,hk2⟩,ey,f2,r2⟩:=qck (P:=P) hr.sim hi (qd5 hr hy);obtain ⟨xs',ra,cx,old,rfl,ex,f1,r1⟩:=qck (P:=P) (K:=fun l=>xs = l) hr.sim (show qcy h ty.2.1 (fun l=>xs = l) (.sl xs cap) from ⟨hall,rfl⟩) rx;obtain ⟨ra',rcap',ex',hle,hcap'⟩:=qwn rx;rw [ex] at ex'; cases ex';have hcx:cx = xs.length:=hcap' _ hcapx;subst hcx;by_cases hys:ys = []
  ·subst hys
   have hfc:(Builtin.firstCells ty.2.1 0 (.slice ra2 0 cy)).run P w = .ok #[] w:=by
    have:=r2 w rfl;rw [ey] at this;have hnew:new = []:=by have:=f2.1; simpa using this
    rw [hnew] at this; simpa using this
   refine q26 hr (qai hr (rv:=.slice ra xs.length xs.length) (hexec ex ey (r:=.ok _ w) ?_ _ _ rfl) (hk1 rfl) (by rw [ex] at rx; exact rx));refine qcw (m:=0) (new:=[]) h1 h1' hsz (jki _) (by simpa using hfc) ?_
   cases ra with
   | none=>exact .inl ⟨rfl,rfl⟩
   | some ad=>exact .inr ⟨ad,rfl,by simp [storeCells]⟩
  ·refine grow id ex ey ?_ hby hlen f1 f2 (by rw [<- ex]; exact r1) (by rw [<- ey]; exact r2) (hk2 hys) (fun x hx _=>hx)
   have:0 < ys.length:=by cases ys with
    | nil=>exact absurd rfl hys
    | cons=>simp
   omega
 ·rename_i b g off len cap vy hx hy;split at hi
  ·rename_i g' sz' es hb;have rx:=qd5 hr hx;obtain ⟨ys,ra2,cy,new,⟨rfl,rfl,htip,hby,-,hlen,hk⟩,ey,f2,r2⟩:=qck (P:=P) hr.sim hi (qd5 hr hy)
   obtain ⟨xs,ra,cx,old,⟨rfl,-⟩,ex,f1,r1⟩:=qck (P:=P) (K:=fun l=>l = ((es.drop off).take len)/\True) hr.sim (show qcy h ty.2.1 _ (.ref b g' off len cap) from by
    simp only [qcy,hb];exact ⟨trivial,trivial,by omega,trivial,trivial⟩) rx
   have hxl:((es.drop off).take len).length = len:=by simp; omega
   obtain ⟨mb0,q1,q2,q3,q4⟩:=hr.sim.hb b _ hb;obtain ⟨ra',cx',mb',ex',hM,hg,hl,hcc,hh⟩:=qkd rx;rw [q1] at hM; cases hM;have hre:=hh q2.symm;have hk0:=hk;rw [show qaa M b = mb0.gen + 1 by simp [qaa,q1]] at hk;have nb:∀ x,lk h x = none->x ≠ b:=fun x h0 e=>by subst e; rw [hb] at h0; cases h0
   rw [ex'] at ex
   obtain ⟨e1,e2⟩:ra' = ra/\cx' = cx:=by
    simp only [Value.slice.injEq] at ex; exact ⟨ex.1,ex.2.2⟩
   subst e1 e2;clear ex;have ex:=ex';rw [ex'] at r1;by_cases hfit:len + ys.length≤cx'
   ·-- in place
    have hyl:=f2.1
    cases hreal:mb0.real with
    | none=>
     simp only [qb4,hreal] at hre;obtain ⟨rfl,rfl⟩:=hre;have hys:ys = []:=List.length_eq_zero_iff.1 (by omega);subst hys;have hl0:len = 0:=by omega
     have hfc:(Builtin.firstCells ty.2.1 0 (.slice ra2 0 cy)).run P w = .ok #[] w:=by
      have hnew:new = []:=by simpa using hyl
      have:=r2 w rfl;rw [ey,hnew] at this; simpa using this
     have hdrop:((es.drop 0).take len) = []:=List.length_eq_zero_iff.1 (by rw [hxl,hl0])
     have hkey:=hr.sim.change (w':=w) b ⟨mb0.gen + 1,mb0.sz,0,0,none⟩ (.row (mb0.gen + 1) ty.2.1 ((es.drop 0).take len ++ [])) (fun m hm=>.inl (by rw [q1] at hm; cases hm; exact Nat.lt_succ_self _)) (fun r hr'=>by cases hr') (jki _) (fun _ _ _=>rfl) (fun _ _ _ _=>trivial) rfl rfl rfl
      ⟨_,qaw _ _ _,rfl,q3,by simp only [qbo]; simpa using hdrop⟩
     refine qb0 (rv:=.slice ra' ((es.drop 0).take len).length 0) (hexec (by rw [ex,hl0]) ey (r:=.ok _ w) ?_ _ _ rfl) hk ?_ hkey.1 hkey.2 (fun x _ h0=>qax _ _ _ _ (nb x h0))
     ·have hdl:((es.drop 0).take len).length = 0:=by rw [hdrop]; rfl
      rw [hdl];refine qcw (m:=0) (new:=[]) h1 h1' hsz (jki _) (by simpa using hfc) ?_
      cases ra' with
      | none=>exact .inl ⟨rfl,rfl⟩
      | some ad=>exact .inr ⟨ad,rfl,by simp [storeCells]⟩
     ·have hdl:((es.drop 0).take len).length = 0:=by rw [hdrop]; rfl
      rw [hdl];simp only [List.length_nil,Nat.add_zero,hl0];exact .ref _ _ _ _ _ _ _ _ (qaw _ _ _) (jki _) (jki _) (by simp) fun _=>⟨rfl,rfl⟩
    | some rb=>
     simp only [qb4,hreal] at hre;simp only [qbo,hreal] at q4;obtain ⟨arr,ty',w1,w2,w3,w4,w5⟩:=q4;rcases hre with ⟨rfl,hroom⟩ | ⟨hl0,hc0⟩
     ·have hroom2:(off + cx') * mb0.sz≤mb0.room * mb0.sz:=Nat.mul_le_mul_right _ (by omega);have hfit2:(len + ys.length) * mb0.sz≤cx' * mb0.sz:=Nat.mul_le_mul_right _ hfit;rw [Nat.add_mul] at hroom2 hfit2;rw [q3] at hroom2 hfit2 w2;have hst:=run_storeCells_at P rb (mb0.base + off * ty.2.1 + len * ty.2.1) ty' new 0 arr w w1 (by rw [hyl]; omega) (f2.one hn0);simp only [Nat.add_zero] at hst
      have hkey:=hr.sim.change (w':=w.setRow rb (arr.toList.take (mb0.base + off * ty.2.1 + len * ty.2.1) ++ new ++ arr.toList.drop (mb0.base + off * ty.2.1 + len * ty.2.1 + new.length)).toArray) b
       ⟨mb0.gen + 1,ty.2.1,mb0.room - off,mb0.base + off * ty.2.1,some rb⟩ (.row (mb0.gen + 1) ty.2.1 (((es.drop off).take len) ++ ys)) (fun m hm=>.inl (by rw [q1] at hm; cases hm; exact Nat.lt_succ_self _)) (fun r hr'=>by cases hr'; exact .inr ⟨mb0,q1,hreal⟩)
       (by rw [qg2]; exact jki _) (fun k _ hk=>qeh _ _ _ _ (fun e=>hk (by rw [e]))) (fun _ _ _ _=>trivial) rfl rfl rfl ?_
      ·refine qb0 (rv:=.slice (some ⟨rb,mb0.base + off * mb0.sz,none⟩) (len + ys.length) cx') (hexec ex ey (r:=.ok _ _) ?_ _ _ rfl) hk ?_ hkey.1 hkey.2 (fun x _ h0=>qax _ _ _ _ (nb x h0))
       ·rw [ey] at r2;refine qcw h1 h1' hsz hfit (r2 w rfl) (.inr ⟨_,rfl,?_⟩);rw [Addr.add_lit,q3]; exact hst
       ·refine .ref _ _ _ _ _ _ _ _ (qaw _ _ _) (jki _) hfit (by simp) fun _=>.inl ⟨?_,by simp only [Nat.zero_add]; omega⟩;simp [q3]
      ·have hle2:M.le (upd M b ⟨mb0.gen + 1,ty.2.1,mb0.room - off,mb0.base + off * ty.2.1,some rb⟩):=jip fun m hm=>.inl (by rw [q1] at hm; cases hm; exact Nat.lt_succ_self _);refine ⟨_,qaw _ _ _,rfl,rfl,?_⟩;simp only [qbo];refine ⟨_,ty',setRow_heap w rb arr _ ty' (0,0) w1,?_,by simp only [List.length_append,hxl]; omega,fun i hi=>((f1.append f2).2 i hi).1,fun i j hi hj=>?_⟩
       ·have hsub:(mb0.room - off) * ty.2.1 = mb0.room * ty.2.1 - off * ty.2.1:=Nat.sub_mul _ _ _;simp only [List.size_toArray,List.length_append,List.length_take,List.length_drop,Array.length_toList,hyl,hsub];omega
       ·rw [qbq,qff _ _ _ _ (by have:=hyl; have e9:arr.toList.length = arr.size:=Array.length_toList; omega)];have hil:i < len + ys.length:=by simpa only [List.length_append,hxl] using hi
        have heb:=qbb (sz:=ty.2.1) hil (jki _);have hfl:=((f1.append f2).2 i hi).2 j hj;refine ⟨?_,?_⟩
        all_goals
         by_cases hin:i < len
         ·have heb2:=qbb (sz:=ty.2.1) hin (jki _);rw [if_neg (by omega)]
          have e1:(((es.drop off).take len) ++ ys).getD i .undef = es.getD (off + i) .undef:=by
           simp only [jkd,List.getElem?_append,hxl,if_pos hin,List.getElem?_take,List.getElem?_drop]
          have:=w5 (off + i) j (by omega) (by rw [q3]; exact hj);rw [q3,Nat.add_mul,<- Nat.add_assoc] at this
          have e2:arr.toList.getD (mb0.base + off * ty.2.1 + i * ty.2.1 + j) undef = arr.getD (mb0.base + off * ty.2.1 + i * ty.2.1 + j) undef:=by
           simp [jkd,jke]
          rw [e2]
          first
           | (rw [e1]; exact this.1.mono G.le_refl hle2)
           | exact this.2
         ·have e3:i * ty.2.1 = len * ty.2.1 + (i - len) * ty.2.1:=by rw [<- Nat.add_mul]; congr 1; omega
          have hyi:i - len < ys.length:=by omega
          have heb3:=qbb (sz:=ty.2.1) hyi (jki _);rw [if_pos (by rw [hyl]; omega)];have e4:mb0.base + off * ty.2.1 + i * ty.2.1 + j - (mb0.base + off * ty.2.1 + len * ty.2.1) = (i - len) * ty.2.1 + j:=by omega
          rw [e4]
          have e1:(((es.drop off).take len) ++ ys).getD i .undef = ys.getD (i - len) .undef:=by
           simp only [jkd,List.getElem?_append,hxl,if_neg hin]
          have:=(f2.2 (i - len) hyi).2 j hj
          first
           | (rw [e1]; exact this.1.mono G.le_refl hle2)
           | exact this.2
     ·have hys:ys = []:=List.length_eq_zero_iff.1 (by omega);subst hys;have hnew:new = []:=by simpa using hyl
      have hdrop:((es.drop off).take len) = []:=List.length_eq_zero_iff.1 (by rw [hxl,hl0])
      have hkey:=hr.sim.change (w':=w) b ⟨mb0.gen + 1,ty.2.1,0,0,some rb⟩ (.row (mb0.gen + 1) ty.2.1 (((es.drop off).take len) ++ [])) (fun m hm=>.inl (by rw [q1] at hm; cases hm; exact Nat.lt_succ_self _)) (fun r hr'=>by cases hr'; exact .inr ⟨mb0,q1,hreal⟩) (jki _) (fun _ _ _=>rfl) (fun _ _ _ _=>trivial) rfl rfl rfl
       ⟨_,qaw _ _ _,rfl,rfl,by
        simp only [qbo];refine ⟨arr,ty',w1,by simp,by simp [hdrop],fun i hi=>by simp [hdrop] at hi,fun i j hi=>by simp [hdrop] at hi⟩⟩
      have hfc:(Builtin.firstCells ty.2.1 0 (.slice ra2 0 cy)).run P w = .ok #[] w:=by
       have:=r2 w rfl;rw [ey,hnew] at this; simpa using this
      subst hl0 hc0;refine qb0 (rv:=.slice ra' 0 0) (hexec ex ey (r:=.ok _ w) ?_ _ _ rfl) hk ?_ hkey.1 hkey.2 (fun x _ h0=>qax _ _ _ _ (nb x h0))
      ·refine qcw (m:=0) (new:=[]) h1 h1' hsz (jki _) (by simpa using hfc) ?_
       cases ra' with
       | none=>exact .inl ⟨rfl,rfl⟩
       | some ad=>exact .inr ⟨ad,rfl,by simp [storeCells]⟩
      ·exact .ref _ _ _ _ _ _ _ _ (qaw _ _ _) (jki _) (jki _) (by simp) fun _=>.inr ⟨rfl,rfl⟩
   ·refine grow b (xs:=((es.drop off).take len)) (cap:=cx') (by rw [hxl]; exact ex) ey (by rw [hxl]; omega) hby (by rw [hxl]; exact hlen) f1 f2 (by rw [hxl] at r1 ⊢; exact r1) (by rw [<- ey]; exact r2) ?_ (fun x _ h0=>nb x h0);rw [hxl]; exact hk0
  ·exact hi.elim
 ·exact hi.elim
end
end
section
open Go
section
variable {P:Program} {gl:Fr} {bs:BS} {n:Nat} {fr:Fr} {h:Hp} {G:qaz} {M:qar} {a:Act} {w:World}
theorem qh1:∀ (j:Nat) {l1 l2:List V},qjz l1 l2->qjz (l1.take j) (l2.take j)/\qjz (l1.drop j) (l2.drop j)/\qbm l1 l2 = (qbm (l1.take j) (l2.take j) && qbm (l1.drop j) (l2.drop j))
 | 0,l1,l2,h=>⟨by simp [qjz],by simpa using h,by simp [qbm]⟩
 | j + 1,[],[],h=>⟨by simp [qjz],by simp [qjz],by simp [qbm]⟩
 | j + 1,[],_ :: _,h=>by simp [qjz] at h
 | j + 1,x :: l1,[],h=>by cases x <;> simp [qjz] at h
 | j + 1,x :: l1,y :: l2,h=>by
  cases x <;> cases y <;> simp only [qjz] at h <;> try exact h.elim
  obtain ⟨rfl,h⟩:=h;obtain ⟨h1,h2,h3⟩:=qh1 j h;refine ⟨by simp only [List.take_succ_cons,qjz]; exact ⟨trivial,h1⟩,by simpa using h2,?_⟩;simp only [List.take_succ_cons,List.drop_succ_cons,qbm,h3,Bool.and_assoc]
theorem qhc:∀ {l1 l2:List V},qjz l1 l2->l1.length = l2.length
 | [],[],_=>rfl
 | [],_ :: _,h=>by simp [qjz] at h
 | x :: l1,[],h=>by cases x <;> simp [qjz] at h
 | x :: l1,y :: l2,h=>by
  cases x <;> cases y <;> simp only [qjz] at h <;> try exact h.elim
  simp [qhc h.2]
theorem qhf {l:List V} {k i:Nat} (h:i < k):(l.take k).getD i .undef = l.getD i .undef:=by simp [jkd,h]
theorem qhe {l:List V} {k i:Nat}:(l.drop k).getD i .undef = l.getD (k + i) .undef:=by simp [jkd]
theorem qip {xs:Array Value} {a b i:Nat} (h:a + i < b) (hb:b≤xs.size):(xs.extract a b).getD i undef = xs.getD (a + i) undef:=by
 have h1:i < (xs.extract a b).size:=by simp; omega
 have h2:a + i < xs.size:=by omega
 rw [jke,jke,Array.getElem?_eq_getElem h1,Array.getElem?_eq_getElem h2,Array.getElem_extract]
structure qxf (P:Program) (G:qaz) (M:qar) (w:World) (d:Nat) (t:TypeId) (k:Nat):Prop where
 whole:∀ D,d≤D->∀ (xs ys:Array Value) (l1 l2:List V),(∃ q,qcg P t = some (true,q))->xs.size = k->ys.size = k->l1.length = k->(∀ i,i < k->qak G M (l1.getD i .undef) (xs.getD i undef))->(∀ i,i < k->qak G M (l2.getD i .undef) (ys.getD i undef))->qjz l1 l2->
  (Op.equalIn D t (.agg xs) (.agg ys)).run P w = .ok (qbm l1 l2) w
 cells:∀ D,d≤D->∀ (xs ys:Array Value) (off:Nat) (l1 l2:List V),off + k≤xs.size->off + k≤ys.size->l1.length = k->(∀ i,i < k->qak G M (l1.getD i .undef) (xs.getD (off + i) undef))->(∀ i,i < k->qak G M (l2.getD i .undef) (ys.getD (off + i) undef))->qjz l1 l2->
  ∃ a b,(part t xs off).run P w = .ok a w/\(part t ys off).run P w = .ok b w/\(Op.equalIn D t a b).run P w = .ok (qbm l1 l2) w
theorem qoz {d:Nat} (ih:∀ t k,qft P d t = some k->qxf P G M w d t k) {D:Nat} (hD:d≤D) {xs ys:Array Value}:∀ (fs:List Field) (off tot:Nat) (l1 l2:List V),qn2 P (qft P d) fs off = some tot->tot≤xs.size->tot≤ys.size->off + l1.length = tot->
  (∀ i,i < l1.length->qak G M (l1.getD i .undef) (xs.getD (off + i) undef))->(∀ i,i < l1.length->qak G M (l2.getD i .undef) (ys.getD (off + i) undef))->qjz l1 l2->off≤tot/\(Op.eqFields D xs ys fs).run P w = .ok (qbm l1 l2) w
 | [],off,tot,l1,l2,h,h1,h2,h3,r1,r2,hk=>by
  simp only [qn2,Option.some.injEq] at h;subst h;have:l1 = []:=List.length_eq_zero_iff.1 (by omega);subst this;have:l2 = []:=List.length_eq_zero_iff.1 (qhc hk).symm;subst this;exact ⟨jki _,by simp [Op.eqFields,qbm]⟩
 | f :: fs,off,tot,l1,l2,h,h1,h2,h3,r1,r2,hk=>by
  simp only [qn2] at h;split at h
  ·rename_i hc;obtain ⟨hn,rfl⟩:=hc;split at h
   ·rename_i k hk2;have hF:=ih f.type k hk2;have hle:f.offset + k≤tot:=flatF_le fs _ _ h;obtain ⟨o1,o2,o3⟩:=qh1 k hk
    obtain ⟨a,b,p1,p2,p3⟩:=hF.cells D hD xs ys f.offset (l1.take k) (l2.take k) (by omega) (by omega) (by simp; omega)
     (fun i hi=>by rw [qhf hi]; exact r1 i (by omega)) (fun i hi=>by rw [qhf hi]; exact r2 i (by omega)) o1
    obtain ⟨q1,q2⟩:=qoz ih hD fs (f.offset + k) tot (l1.drop k) (l2.drop k) h h1 h2 (by simp; omega)
     (fun i hi=>by rw [qhe]; simp at hi; have:=r1 (k + i) (by omega); rwa [<- Nat.add_assoc] at this)
     (fun i hi=>by rw [qhe]; simp at hi; have:=r2 (k + i) (by omega); rwa [<- Nat.add_assoc] at this) o2
    refine ⟨by omega,?_⟩;simp only [Op.eqFields];rw [if_pos hn];simp only [Sem.run_bind,p1,p2,p3,Result.andThen_ok,o3];cases qbm (l1.take k) (l2.take k)
    ·simp
    ·simpa using q2
   ·cases h
  ·cases h
where
 flatF_le {g:TypeId->Option Nat}:∀ (fs:List Field) (off tot:Nat),qn2 P g fs off = some tot->off≤tot
  | [],off,tot,h=>by simp only [qn2,Option.some.injEq] at h; omega
  | f :: fs,off,tot,h=>by
   simp only [qn2] at h;split at h
   ·split at h
    ·have:=flatF_le fs _ _ h; omega
    ·cases h
   ·cases h
theorem qo0 {d:Nat} {e:TypeId} {k:Nat} (ih:qxf P G M w d e k) {D:Nat} (hD:d≤D) {xs ys:Array Value}:∀ (m j:Nat) (l1 l2:List V),(j + m) * k≤xs.size->(j + m) * k≤ys.size->l1.length = m * k->
  (∀ i,i < l1.length->qak G M (l1.getD i .undef) (xs.getD (j * k + i) undef))->(∀ i,i < l1.length->qak G M (l2.getD i .undef) (ys.getD (j * k + i) undef))->qjz l1 l2->(Op.eqItems D e k xs ys (List.range' j m)).run P w = .ok (qbm l1 l2) w
 | 0,j,l1,l2,h1,h2,h3,r1,r2,hk=>by
  have:l1 = []:=List.length_eq_zero_iff.1 (by omega);subst this;have:l2 = []:=List.length_eq_zero_iff.1 (qhc hk).symm;subst this;simp [Op.eqItems,qbm]
 | m + 1,j,l1,l2,h1,h2,h3,r1,r2,hk=>by
  obtain ⟨o1,o2,o3⟩:=qh1 k hk;have e1:(j + (m + 1)) * k = j * k + k + m * k:=by rw [Nat.add_mul,Nat.add_mul]; omega
  have e2:(m + 1) * k = m * k + k:=by rw [Nat.add_mul]; omega
  have e3:(j + 1 + m) * k = j * k + k + m * k:=by rw [Nat.add_mul,Nat.add_mul]; omega
  have e4:(j + 1) * k = j * k + k:=by rw [Nat.add_mul]; omega
  obtain ⟨a,b,p1,p2,p3⟩:=ih.cells D hD xs ys (j * k) (l1.take k) (l2.take k) (by omega) (by omega) (by simp; omega)
   (fun i hi=>by rw [qhf hi]; exact r1 i (by omega)) (fun i hi=>by rw [qhf hi]; exact r2 i (by omega)) o1
  rw [e1] at h1 h2
  have q2:=qo0 ih hD (xs:=xs) (ys:=ys) m (j + 1) (l1.drop k) (l2.drop k) (by rw [e3]; exact h1) (by rw [e3]; exact h2) (by simp; omega)
   (fun i hi=>by rw [qhe,e4]; simp at hi; have:=r1 (k + i) (by omega); rwa [<- Nat.add_assoc] at this)
   (fun i hi=>by rw [qhe,e4]; simp at hi; have:=r2 (k + i) (by omega); rwa [<- Nat.add_assoc] at this) o2
  rw [List.range'_succ];simp only [Op.eqItems,Sem.run_bind,p1,p2,p3,Result.andThen_ok,o3];cases qbm (l1.take k) (l2.take k)
  ·simp
  ·simpa using q2
theorem qln {d:Nat} {t:TypeId} {k by_:Nat} (ht:qcg P t = some (true,k,by_))
  (hw:∀ D,d≤D->∀ (xs ys:Array Value) (l1 l2:List V),(∃ q,qcg P t = some (true,q))->xs.size = k->ys.size = k->l1.length = k->(∀ i,i < k->qak G M (l1.getD i .undef) (xs.getD i undef))->(∀ i,i < k->qak G M (l2.getD i .undef) (ys.getD i undef))->qjz l1 l2->
   (Op.equalIn D t (.agg xs) (.agg ys)).run P w = .ok (qbm l1 l2) w):qxf P G M w d t k:=by
 obtain ⟨g1,g2,-⟩:=qbd ht;refine ⟨hw,fun D hD xs ys off l1 l2 h1 h2 h3 r1 r2 hk=>⟨.agg (xs.extract off (off + k)),.agg (ys.extract off (off + k)),?_,?_,?_⟩⟩
 ·simp only [part,Sem.run_bind,g1,g2,Result.andThen_ok,if_true,Sem.run_pure]
 ·simp only [part,Sem.run_bind,g1,g2,Result.andThen_ok,if_true,Sem.run_pure]
 ·refine hw D hD _ _ l1 l2 ⟨_,ht⟩ (by simp; omega) (by simp; omega) h3 (fun i hi=>?_) (fun i hi=>?_) hk
  ·rw [qip (by omega) h1]; exact r1 i hi
  ·rw [qip (by omega) h2]; exact r2 i hi
theorem qm6:∀ (d:Nat) (t:TypeId) (k:Nat),qft P d t = some k->qxf P G M w d t k
 | 0,_,_,h=>by cases h
 | d + 1,t,k,h=>by
  simp only [qft] at h;split at h
  ·rename_i kk ty hu ht;cases h
   have hag:qcg P t = some (false,ty.2):=by
    unfold qcg at ht ⊢;rw [hu] at ht ⊢;split at ht
    ·rename_i d0 i0 e1 e2;cases e1;simp only [Option.some.injEq] at ht;subst ht
     first | rfl | (rw [e2]; rfl)
    ·cases ht
   obtain ⟨g1,-⟩:=qbd (ag:=false) (n:=ty.2.1) (by_:=ty.2.2) hag;refine ⟨fun D _ xs ys l1 l2 ⟨q,hq⟩=>by rw [hag] at hq; simp at hq,fun D hD xs ys off l1 l2 h1 h2 h3 r1 r2 hk=>?_⟩
   have p:∀ zs:Array Value,off + 1≤zs.size->(part t zs off).run P w = .ok (zs.getD off undef) w:=fun zs hz=>by
    have hz':off < zs.size:=by omega
    simp [part,g1,hz',jke]
   refine ⟨_,_,p xs h1,p ys h2,?_⟩
   match l1,l2,h3,hk,r1,r2 with
   | [x],[y],_,hk,r1,r2=>
    have q1:=r1 0 (by omega);have q2:=r2 0 (by omega);simp only [List.getD_cons_zero,Nat.add_zero] at q1 q2
    obtain ⟨kx,m,m',rfl,rfl⟩:∃ k m m',x = .int k m/\y = .int k m':=by
     cases x <;> cases y <;> simp only [qjz] at hk <;> try exact hk.elim
     exact ⟨_,_,_,rfl,by rw [hk.1]⟩
    rw [qaj q1,qaj q2];obtain ⟨D,rfl⟩:∃ e,D = e + 1:=⟨D - 1,by omega⟩;rw [run_equalIn_int w D t kx kk m m' hu];simp only [qbm,Bool.and_true];rfl
   | [x],[],_,hk,_,_=>exact absurd (qhc hk) (by simp)
   | [x],_ :: _ :: _,_,hk,_,_=>exact absurd (qhc hk) (by simp)
  ·rename_i fs ty hu ht;split at h
   ·rename_i k0 hk0;split at h
    ·rename_i hc;cases h;obtain ⟨c1,c2⟩:=hc;have ih:=qm6 d;have hfo:P.fieldsOf t = fs:=by simp [Program.fieldsOf,hu]
     have hag:qcg P t = some (true,k,ty.2.2):=by
      unfold qcg at ht ⊢;rw [hu] at ht ⊢;split at ht
      ·rename_i d0 i0 e1 e2;cases e1;simp only [Option.some.injEq] at ht;subst ht
       try rw [e2]
       simp only at c2;simp [c2,qob]
      ·cases ht
     refine qln hag fun D hD xs ys l1 l2 _ h1 h2 h3 r1 r2 hk=>?_;obtain ⟨D,rfl⟩:∃ e,D = e + 1:=⟨D - 1,by omega⟩;rw [run_equalIn_agg w D t xs ys (by rw [hfo]; exact hu) c1,hfo];exact (qoz ih (by omega) fs.toList 0 k l1 l2 hk0 (by omega) (by omega) (by omega) (fun i hi=>by rw [Nat.zero_add]; exact r1 i (by omega)) (fun i hi=>by rw [Nat.zero_add]; exact r2 i (by omega)) hk).2
    ·cases h
   ·cases h
  ·rename_i n e ty hu ht;split at h
   ·rename_i k0 i0 hk0 hi0;split at h
    ·rename_i hc;cases h;obtain ⟨c1,c2⟩:=hc;have ih:=qm6 d e k0 hk0
     have hag:qcg P t = some (true,n * k0,ty.2.2):=by
      unfold qcg at ht ⊢;rw [hu] at ht ⊢;split at ht
      ·rename_i d0 i0 e1 e2;cases e1;simp only [Option.some.injEq] at ht;subst ht
       try rw [e2]
       simp only at c2;simp [c2,qob]
      ·cases ht
     refine qln hag fun D hD xs ys l1 l2 _ h1 h2 h3 r1 r2 hk=>?_;obtain ⟨D,rfl⟩:∃ e,D = e + 1:=⟨D - 1,by omega⟩;rw [run_equalIn_array w D xs ys hu hi0,c1,List.range_eq_range'];exact qo0 ih (by omega) n 0 l1 l2 (by simp; omega) (by simp; omega) h3 (fun i hi=>by rw [Nat.zero_mul,Nat.zero_add]; exact r1 i (by omega)) (fun i hi=>by rw [Nat.zero_mul,Nat.zero_add]; exact r2 i (by omega)) hk
    ·cases h
   ·cases h
  ·cases h
theorem qi1 {t:TypeId} {m:Nat} (h:qbx P t = some m):P.eqGuardType P.depth t = false/\qft P 100 t = some m/\∃ q,qcg P t = some (true,q):=by
 have key:∀ d,P.underlying t = some d->qob d = true->qft P 100 t = some m->∃ q,qcg P t = some (true,q):=fun d hd ha hf=>by
  unfold qft at hf
  cases ht:qcg P t with
  | none=>rw [hd,ht] at hf; cases d <;> cases hf
  | some ty=>
   refine ⟨ty.2,?_⟩;unfold qcg at ht;rw [hd] at ht;split at ht
   ·rename_i d0 i0 e1 e2;cases e1;simp only [Option.some.injEq] at ht;subst ht;simp [ha]
   ·cases ht
 unfold qbx at h;split at h
 ·rename_i fields he;split at h
  ·rename_i hc; exact ⟨hc,h,key _ he rfl h⟩
  ·cases h
 ·rename_i n e he;split at h
  ·rename_i hc; exact ⟨hc,h,key _ he rfl h⟩
  ·cases h
 ·cases h
theorem qo5 (hr:R bs n gl G M fr h a w) {o:Oper} {op:BinOp} {t yt:TypeId} {x y:Operand} {neg:Bool} {m:Nat} {Q:Exit->Act->World->Prop} {K:V->Hp->Prop} (ho:o.op = .binOp op t x y yt)
  (hop:op = if neg then .neq else .eql) (hp:qbx P t = some m) {id:Nat} (hi:qa8 P gl id fr h K (.eqs neg m (co x) (co y))):o.wp P a w (qan K G M w o a h) Q:=by
 obtain ⟨h4,h5,h6⟩:=qi1 hp;simp only [qa8] at hi;split at hi
 ·rename_i ca cb hx hy;obtain ⟨l1,l2,hok,hk⟩:=hi;obtain ⟨xs,ex,hxs⟩:=qec (qat hr hx);obtain ⟨ys,ey,hys⟩:=qec (qat hr hy)
  have hq:(Op.equalIn 10000 t (.agg xs) (.agg ys)).run P w = .ok (qbm ca cb) w := 
   (qm6 (G:=G) (M:=M) (w:=w) 100 t m h5).whole 10000 (by omega) xs ys ca cb h6 (by rw [hxs.1,l1]) (by rw [hys.1,l2]) l1 (fun i hi=>(hxs.2 i (by omega)).1) (fun i hi=>(hys.2 i (by omega)).1) hok
  refine qai hr ?_ hk (.bool _);subst hop;cases neg
  ·simp only [execOp,ho,ex,ey,Bool.false_eq_true,if_false,Sem.run_bind,run_eqGuard_agg w _ t x y xs ys h4,Result.andThen_ok,run_eql_struct,hq];simp
  ·simp only [execOp,ho,ex,ey,if_true,Sem.run_bind,run_eqGuard_agg w _ t x y xs ys h4,Result.andThen_ok,run_neq_struct,hq];simp
 ·exact hi.elim
theorem qik:∀ {es:List V} {s:List UInt8},bytesOf es = some s->∃ ns:List Int,es = ns.map (V.int .u8)/\s = ns.map fun m=>UInt8.ofNat m.toNat
 | [],s,h=>by simp [bytesOf] at h; subst h; exact ⟨[],rfl,rfl⟩
 | e :: r,s,h=>by
  unfold bytesOf at h;split at h
  ·cases ‹_ :: _ = []›
  ·rename_i m r' he;cases he
   cases hr:bytesOf r with
   | none=>rw [hr] at h; cases h
   | some s'=>
    rw [hr] at h;simp only [Option.map_some,Option.some.injEq] at h;obtain ⟨ns,rfl,rfl⟩:=qik hr;exact ⟨m :: ns,rfl,h.symm⟩
  ·cases h
theorem qfj:∀ (ns:List Int) (b:ByteArray),ns.foldl (fun r (m:Int)=>r.push (UInt8.ofNat m.toNat)) b = ⟨(b.data.toList ++ ns.map fun m=>UInt8.ofNat m.toNat).toArray⟩
 | [],b=>by simp
 | m :: r,b=>by
  simp only [List.foldl_cons,qfj r];congr 1;simp [ByteArray.push]
theorem qwo (hr:R bs n gl G M fr h a w) {o:Oper} {s d e:TypeId} {x:Operand} {Q:Exit->Act->World->Prop} {K:V->Hp->Prop} (ho:o.op = .convert s d x)
  (h1:P.underlying s = some (.slice e)) (h2:P.underlying d = some .string) (h3:P.underlying e = some (.int .u8)) {id:Nat} (hi:qa8 P gl id fr h K (.b2s (co x))):o.wp P a w (qan K G M w o a h) Q:=by
 simp only [qa8] at hi;split at hi
 ·rename_i vx hx;obtain ⟨ys,ra,rcap,cells,hk,ex,f1,r1⟩:=qck (P:=P) hr.sim hi (qd5 hr hx);split at hk
  ·rename_i l hl;obtain ⟨ns,rfl,rfl⟩:=qik hl
   have hcells:cells = ns.map (Value.int .u8):=by
    apply List.ext_getElem?;intro i;by_cases hi:i < ns.length
    ·have:=((f1.2 i (by simpa using hi)).2 0 (by omega)).1;simp only [Nat.mul_one,Nat.add_zero,jkd,List.getElem?_map,jkh hi,Option.map_some,Option.getD_some,V.cells,List.getElem?_cons_zero] at this;have hlt:i < cells.length:=by rw [f1.1]; simpa using hi
     rw [jkh hlt] at this ⊢;have e:=qaj this;simp only [Option.getD_some] at e;simp [e,hi]
    ·rw [List.getElem?_eq_none (by rw [f1.1]; simpa using hi),List.getElem?_eq_none (by simpa using hi)]
   refine qai hr (rv:=.string ⟨(ns.map fun m=>UInt8.ofNat m.toNat).toArray⟩) ?_ hk (.str _);have hlen:(ns.map (V.int .u8)).length = ns.length:=by simp
   have hcv:(convert s d (a.eval x)).run P w = (Conv.bytesToString (a.eval x)).run P w:=by
    rw [ex];simp [convert,underlying,h1,h2,h3]
   have hb:(Conv.bytesToString (a.eval x)).run P w = .ok (.string ⟨(ns.map fun m=>UInt8.ofNat m.toNat).toArray⟩) w:=by
    have r1':=r1 w rfl;rw [ex] at r1' ⊢
    cases ra with
    | none=>
     simp only [Builtin.firstCells,Sem.run_pure,Result.ok.injEq,and_true] at r1';have:cells = []:=by simpa using r1'.symm
     rw [this] at hcells;have hns:ns = []:=by simpa using hcells.symm
     subst hns;simp [Conv.bytesToString];rfl
    | some ad=>
     simp only [Builtin.firstCells,Nat.mul_one] at r1';rw [hcells] at r1';rw [hlen] at r1' ⊢;rw [run_bytesToString w ad ns.length rcap ns r1',qfj];rfl
   simp [execOp,ho,hcv,hb]
  ·exact hk.elim
 ·exact hi.elim
end
end
section
open Go
section
variable {P:Program} {gl:Fr} {bs:BS} {n:Nat} {fr:Fr} {h:Hp} {G:qaz} {M:qar} {a:Act} {w:World}
theorem qdn {o:Oper} {io:IOp} (hc:qg9 P o = some io):(∃ x,io = .n x/\(qle P o = some x∨x = .bad))∨qky P o = some io:=by
 unfold qg9 at hc;split at hc
 ·rename_i x hx; cases hc; exact .inl ⟨x,rfl,.inl hx⟩
 ·split at hc
  ·rename_i io' h; cases hc; exact .inr h
  ·cases hc; exact .inl ⟨_,rfl,.inr rfl⟩
def qk5 (fr:Fr):Option Nat->V->Fr
 | none,_=>fr
 | some d,v=>(d,v) :: fr
theorem qb1 {α:Type} {d t:Nat} {v:α} {fr:List (Nat × α)} (h:t ≠ d):lk ((d,v) :: fr) t = lk fr t:=by simp [lk,h]
theorem R.put (hr:R bs n gl G M fr h a w) {dst:Option Nat} (hd:match dst with | some d=>d < n | none=>True) {v:V} {rv:Value} {h':Hp} {G':qaz} {M':qar} {w':World}
  (hv:qak G' M' v rv) (hs:Sim G' M' h' w') (hx:Ext G M w G' M' w'):R bs n gl G' M' (qk5 fr dst v) h' (a.put dst rv) w':=by
 cases dst with
 | none=>exact ⟨hs,fun t u ht=>(hr.frr t u ht).mono hx.g hx.m,hr.sz,hr.df.ext hx,hr.gl.mono hx.g,Nat.le_trans hr.bs hx.size⟩
 | some d=>
  refine ⟨hs,fun t u ht=>?_,by simp [Act.put,hr.sz],hr.df.ext hx,hr.gl.mono hx.g,Nat.le_trans hr.bs hx.size⟩;have hdn:d < a.tmps.size:=by rw [hr.sz]; exact hd
  simp only [qk5,lk] at ht;split at ht
  ·rename_i he;cases ht; subst he
   have:((a.put (some t) rv).tmps).getD t undef = rv:=by
    simp [Act.put,jke,hdn]
   rw [this]; exact hv
  ·rename_i he
   have:((a.put (some d) rv).tmps).getD t undef = a.tmps.getD t undef:=by
    simp only [Act.put,jke];rw [Array.getElem?_setIfInBounds_ne (by omega)]
   rw [this]; exact (hr.frr t u ht).mono hx.g hx.m
theorem qqw {ops:Array Oper} {o:Oper} (hr:R bs n gl G M fr h a w) {t:Nat} {want b:Bool} (hg:qds ops o = some (some (t,want))) (hb:lk fr t = some (.bool b)) (hn:t < n):Region.wanted o (yielded ops a.tmps) = (b == want):=by
 unfold qds at hg;split at hg
 ·cases hg
 ·rename_i j want' he;split at hg
  ·rename_i d hd;simp only [Option.some.injEq,Prod.mk.injEq] at hg;obtain ⟨rfl,rfl⟩:=hg;have hrv:=qbk (hr.frr _ _ hb);have hlt:d < a.tmps.size:=by rw [hr.sz]; exact hn
   have hget:a.tmps[d]? = some (.bool b):=by
    rw [jke,Array.getElem?_eq_getElem hlt] at hrv;rw [Array.getElem?_eq_getElem hlt];simpa using hrv
   simp only [Region.wanted,he,yielded,hd,Option.bind_some,hget];cases b <;> cases want' <;> rfl
  ·cases hg
theorem qqv {ops:Array Oper} {o:Oper} (hr:R bs n gl G M fr h a w) {t:Nat} {want:Bool} (hg:qds ops o = some (some (t,want))) (hb:lk fr t = some (.tup [])) (hn:t < n):Region.wanted o (yielded ops a.tmps) = false:=by
 unfold qds at hg;split at hg
 ·cases hg
 ·rename_i j want' he;split at hg
  ·rename_i d hd;simp only [Option.some.injEq,Prod.mk.injEq] at hg;obtain ⟨rfl,rfl⟩:=hg
   have hrv:a.tmps.getD d undef = .tuple #[]:=by
    have:=hr.frr _ _ hb;generalize a.tmps.getD d undef = r at this
    cases this with
    | tup _ arr hs _=>
     have:arr = #[]:=Array.eq_empty_of_size_eq_zero (by simpa using hs);rw [this]
   have hlt:d < a.tmps.size:=by rw [hr.sz]; exact hn
   have hget:a.tmps[d]? = some (.tuple #[]):=by
    rw [jke,Array.getElem?_eq_getElem hlt] at hrv;rw [Array.getElem?_eq_getElem hlt];simpa using hrv
   simp only [Region.wanted,he,yielded,hd,Option.bind_some,hget];rfl
  ·cases hg
theorem qqu {ops:Array Oper} {o:Oper} {tmps:Array Value} (hg:qds ops o = some none):Region.wanted o (yielded ops tmps) = true:=by
 unfold qds at hg;split at hg
 ·rename_i he; simp [Region.wanted,he]
 ·split at hg <;> cases hg
theorem qbr {ops:Array Oper} {o:Oper} {x:qa4} (h:qgm P n ops o = some x):qg9 P o = some x.op/\qds ops o = some x.guard/\x.dst = o.dst/\(match o.dst with | some d=>d < n | none=>True):=by
 unfold qgm at h;split at h
 ·rename_i io g h1 h2;split at h
  ·rename_i hd;cases h;refine ⟨h1,h2,rfl,?_⟩
   cases hdst:o.dst with
   | none=>trivial
   | some d=>rw [hdst] at hd; simpa [q52] using hd
  ·cases h
 ·cases h
theorem qbl {ops:Array Oper}:∀ {l:List Oper} {xs:List qa4},qb9 P n ops l = some xs->xs.length = l.length/\∀ (i:Nat) (o:Oper),l[i]? = some o->∃ x,xs[i]? = some x/\qgm P n ops o = some x
 | [],xs,h=>by simp [qb9] at h; subst h; exact ⟨rfl,fun i o h=>by simp at h⟩
 | o :: l,xs,h=>by
  simp only [qb9] at h;split at h
  ·rename_i x l' h1 h2;cases h;obtain ⟨i1,i2⟩:=qbl h2;refine ⟨by simp [i1],fun i o' hi=>?_⟩
   cases i with
   | zero=>simp at hi; subst hi; exact ⟨x,rfl,h1⟩
   | succ i=>simpa using i2 i o' (by simpa using hi)
  ·cases h
theorem qjx {ops:Array Oper} {xs:List qa4} (hx:qb9 P n ops ops.toList = some xs):∀ d,(∃ o,o ∈ ops.toList/\o.dst = some d)->d < n:=by
 rintro d ⟨o,ho,hd⟩;obtain ⟨i,hi⟩:=List.mem_iff_getElem?.1 ho;obtain ⟨x,-,hc⟩:=(qbl hx).2 i o hi;have:=(qbr hc).2.2.2;rw [hd] at this; exact this
end
end
section
open Go
abbrev M0:qar:=fun _=>none
mutual
def V.mapR (f:Nat->Nat->Nat->Nat->Option Nat->V) (p:Nat->Nat->Nat->Nat->V):V->V
 | .agg cs=>.agg (jio f p cs)
 | .tup cs=>.tup (jio f p cs)
 | .sl xs c=>.sl (jio f p xs) c
 | .iptr x o=>.iptr (x.mapR f p) o
 | .fn g a b=>.fn g (jio f p a) (jio f p b)
 | .ref b g o l c=>f b g o l c
 | .ptr b g i o=>p b g i o
 | .own ..=>.undef
 | .undef=>.undef
 | .int k n=>.int k n
 | .bool b=>.bool b
 | .str s=>.str s
 | .nilfn=>.nilfn
 | .nilmap=>.nilmap
 | .err b=>.err b
 | .nil=>.nil
def jio (f:Nat->Nat->Nat->Nat->Option Nat->V) (p:Nat->Nat->Nat->Nat->V):List V->List V
 | []=>[]
 | v :: r=>v.mapR f p :: jio f p r
end
def frz (h:Hp):Nat->V->V
 | 0,v=>v.mapR (fun _ _ _ _ _=>.undef) (fun _ _ _ _=>.undef)
 | n + 1,v=>v.mapR
   (fun b g off len cap=>match lk h b with
    | some (.row g' _ es)=>if g' = g/\off + len≤es.length then .sl (((es.drop off).take len).map (frz h n)) cap else .undef
    | _=>.undef)
   (fun b g i off=>match lk h b with
    | some (.row g' _ es)=>if g' = g/\i < es.length then .iptr (frz h n (es.getD i .undef)) off else .undef
    | _=>.undef)
section
variable {f:Nat->Nat->Nat->Nat->Option Nat->V} {p:Nat->Nat->Nat->Nat->V}
theorem qcj (l:List V):jio f p l = l.map (V.mapR f p):=by
 induction l with
 | nil=>rfl
 | cons a r ih=>simp [jio,ih]
mutual
theorem qcu:∀ (v:V),v.pure = true->v.mapR f p = v
 | .agg cs,h=>by simp only [V.mapR]; rw [qao cs (by simpa [V.pure] using h)]
 | .tup cs,h=>by simp only [V.mapR]; rw [qao cs (by simpa [V.pure] using h)]
 | .sl xs c,h=>by simp only [V.mapR]; rw [qao xs (by simpa [V.pure] using h)]
 | .iptr x o,h=>by simp only [V.mapR]; rw [qcu x (by simpa [V.pure] using h)]
 | .fn g a b,h=>by
  simp only [V.pure,Bool.and_eq_true] at h;simp only [V.mapR]; rw [qao a h.1,qao b h.2]
 | .ref ..,h=>by simp [V.pure] at h
 | .ptr ..,h=>by simp [V.pure] at h
 | .own ..,h=>by simp [V.pure] at h
 | .undef,_=>rfl
 | .int ..,_=>rfl
 | .bool _,_=>rfl
 | .str _,_=>rfl
 | .nilfn,_=>rfl
 | .nilmap,_=>rfl
 | .err _,_=>rfl
 | .nil,_=>rfl
theorem qao:∀ (l:List V),jid l = true->jio f p l = l
 | [],_=>rfl
 | v :: r,h=>by
  simp only [jid,Bool.and_eq_true] at h;simp only [jio]; rw [qcu v h.1,qao r h.2]
end
end
theorem qjb (h:Hp) (n:Nat) {v:V} (hv:v.pure = true):frz h n v = v:=by
 cases n <;> exact qcu v hv
theorem qdb (h:Hp) (n:Nat) (x:V):(frz h n x).cells = x.cells.map (frz h n):=by
 have key:∀ (f:Nat->Nat->Nat->Nat->Option Nat->V) (p:Nat->Nat->Nat->Nat->V),(∀ b g o l c,(f b g o l c).cells = [f b g o l c])->(∀ b g i o,(p b g i o).cells = [p b g i o])->(x.mapR f p).cells = x.cells.map (V.mapR f p):=by
  intro f p hf hp
  cases x <;> simp only [V.mapR,V.cells,List.map_cons,List.map_nil,qcj] <;> first
   | exact hf _ _ _ _ _
   | exact hp _ _ _ _
   | rfl
 cases n with
 | zero=>exact key _ _ (fun _ _ _ _ _=>rfl) (fun _ _ _ _=>rfl)
 | succ n=>
  refine key _ _ (fun b g o l c=>?_) (fun b g i o=>?_)
  ·split
   ·split <;> rfl
   ·rfl
  ·split
   ·split <;> rfl
   ·rfl
theorem qco (h:Hp) (n:Nat) (l:List V) (i:Nat) (hi:i < l.length):(l.map (frz h n)).getD i .undef = frz h n (l.getD i .undef):=by
 simp [jkd,hi]
theorem qfu {G Gf:qaz} {M:qar} {h:Hp} {w:World} (hs:Sim G M h w) (hG:G.le Gf)
  (hown:∀ b mb rb arr ty fz,M b = some mb->mb.real = some rb->w.heap[rb]? = some (.cells arr ty fz)->Gf rb = some arr) :
  ∀ (n:Nat) (v:V) (r:Value),qak G M v r->qak Gf M0 (frz h n v) r:=by
 have core:∀ (f:Nat->Nat->Nat->Nat->Option Nat->V) (p:Nat->Nat->Nat->Nat->V),
   (∀ (x:V),(x.mapR f p).cells = x.cells.map (V.mapR f p))->
   (∀ b g o l c r,qak G M (.ref b g o l c) r->qak Gf M0 (f b g o l c) r)->(∀ b g i o r,qak G M (.ptr b g i o) r->qak Gf M0 (p b g i o) r)->
   ∀ (v:V) (r:Value),qak G M v r->qak Gf M0 (v.mapR f p) r:=by
  intro f p hcells hf hp v r hv
  have hget:∀ (l:List V) (i:Nat),i < l.length->(l.map (V.mapR f p)).getD i .undef = (l.getD i .undef).mapR f p:=by
   intro l i hi; simp [jkd,hi]
  induction hv with
  | undef r=>exact .undef r
  | int k m=>exact .int k m
  | bool b=>exact .bool b
  | str s=>exact .str s
  | agg cs arr hsz _ ho ih=>
   simp only [V.mapR,qcj];exact .agg _ _ (by simpa using hsz) (fun i hi=>by rw [hget cs i (by simpa using hi)]; exact ih i (by simpa using hi)) (fun i hi=>ho i (by simpa using hi))
  | tup cs arr hsz _ ih=>
   simp only [V.mapR,qcj];exact .tup _ _ (by simpa using hsz) (fun i hi=>by rw [hget cs i (by simpa using hi)]; exact ih i (by simpa using hi))
  | slnil cap base rcap hc hb=>exact .slnil cap base rcap hc hb
  | sl xs cap rb ro rcap sz cells hne hg hsz hb hl hc _ ho ih=>
   simp only [V.mapR,qcj];have hlen:(xs.map (V.mapR f p)).length = xs.length:=by simp
   have hx:∀ i,i < xs.length->((xs.map (V.mapR f p)).getD i .undef).cells = (xs.getD i .undef).cells.map (V.mapR f p):=fun i hi=>by rw [hget xs i hi,hcells]
   have:=qak.sl (G:=Gf) (M:=M0) (xs.map (V.mapR f p)) cap rb ro rcap sz cells (by simpa using hne) (hG _ _ hg) (fun i hi=>by rw [hlen] at hi; rw [hx i hi]; simpa using hsz i hi) (by simpa using hb) (by simpa using hl) hc
    (fun i j hi hj=>by
     rw [hlen] at hi;rw [hx i hi,hget _ j (by rw [hsz i hi]; exact hj)];exact ih i j hi hj)
    (fun i j hi hj=>ho i j (by simpa using hi) hj)
   rw [hlen] at this; exact this
  | ref b g o l c ra rcap mb hM hg hl hc hh=>exact hf _ _ _ _ _ _ (.ref b g o l c ra rcap mb hM hg hl hc hh)
  | ptr b g i o ad mb hM hg hh=>exact hp _ _ _ _ _ (.ptr b g i o ad mb hM hg hh)
  | iptr x o rb ro cells hg hb _ ho ih=>
   simp only [V.mapR];have hx:(x.mapR f p).cells = x.cells.map (V.mapR f p):=hcells x
   exact .iptr _ o rb ro cells (hG _ _ hg) (by rw [hx]; simpa using hb) (fun j hj=>by
    rw [hx] at hj ⊢;rw [hget _ j (by simpa using hj)];exact ih j (by simpa using hj)) (fun j hj=>ho j (by rw [hx] at hj; simpa using hj))
  | fn g a b ra rb h1 h2 _ _ ih3 ih4=>
   simp only [V.mapR,qcj];exact .fn g _ _ ra rb (by simpa using h1) (by simpa using h2) (fun i hi=>by rw [hget a i (by simpa using hi)]; exact ih3 i (by simpa using hi)) (fun i hi=>by rw [hget b i (by simpa using hi)]; exact ih4 i (by simpa using hi))
  | nilfn=>exact .nilfn
  | nilmap=>exact .nilmap
  | errnil=>exact .errnil
  | errsome t x=>exact .errsome t x
  | nil=>exact .nil
  | own b g r=>exact .undef r
 intro n
 induction n with
 | zero=>exact core _ _ (fun x=>qdb h 0 x) (fun _ _ _ _ _ r _=>.undef r) (fun _ _ _ _ r _=>.undef r)
 | succ n ih=>
  refine core _ _ (fun x=>qdb h (n + 1) x) (fun b g o l c r hr=>?_) (fun b g i o r hr=>?_)
  ·split
   ·rename_i g' sz es hb;split
    ·rename_i hcond;obtain ⟨rfl,hle⟩:=hcond;obtain ⟨ra,rcap,mb,rfl,hM,hg,hl,hc,hh⟩:=qkd hr;obtain ⟨mb1,q1,q2,q3,q4⟩:=hs.hb b _ hb;obtain rfl:mb = mb1:=by rw [q1] at hM; injection hM with e; exact e.symm
     have hre:=hh q2.symm;have hlen:(((es.drop o).take l).map (frz h n)).length = l:=by simp; omega
     by_cases h0:l = 0
     ·subst h0;have e0:((es.drop o).take 0).map (frz h n) = []:=by simp
      rw [e0];refine .slnil _ _ _ hc ?_
      cases hreal:mb.real with
      | none=>simp only [qb4,hreal] at hre; exact .inl hre.1
      | some rb=>
       simp only [qb4,hreal] at hre;rcases hre with ⟨e,-⟩ | ⟨-,e⟩
       ·exact .inr (by rw [e]; rfl)
       ·exact .inl e
     ·cases hreal:mb.real with
      | none=>simp only [qb4,hreal] at hre; omega
      | some rb=>
       simp only [qb4,hreal] at hre;simp only [qbo,hreal] at q4;rcases hre with ⟨rfl,hroom⟩ | ⟨e,-⟩
       ·obtain ⟨arr,ty,w1,w2,w3,w4,w5⟩:=q4
        have hget:∀ i,i < l->(((es.drop o).take l).map (frz h n)).getD i .undef = frz h n (es.getD (o + i) .undef):=by
         intro i hi;rw [qco _ _ _ _ (by simp; omega)];simp only [jkd,List.getElem?_take,if_pos hi,List.getElem?_drop]
        have hbnd:o * mb.sz + l * mb.sz≤mb.room * mb.sz:=by rw [<- Nat.add_mul]; exact Nat.mul_le_mul_right _ (by omega)
        have:=qak.sl (G:=Gf) (M:=M0) (((es.drop o).take l).map (frz h n)) c rb (mb.base + o * mb.sz) rcap mb.sz arr (fun e=>by rw [e] at hlen; simp at hlen; omega) (hown b mb rb arr ty _ q1 hreal w1)
         (fun i hi=>by rw [hlen] at hi; rw [hget i hi,qdb]; simpa using w4 (o + i) (by omega)) (by rw [hlen]; omega) (by rw [hlen]; exact hl) hc
         (fun i j hi hj=>by
          rw [hlen] at hi;rw [hget i hi,qdb,qco _ _ _ _ (by rw [w4 _ (by omega)]; exact hj)];have:=(w5 (o + i) j (by omega) hj).1;rw [Nat.add_mul,<- Nat.add_assoc] at this;exact ih _ _ this)
         (fun i j hi hj=>by
          rw [hlen] at hi;have:=(w5 (o + i) j (by omega) hj).2;rw [Nat.add_mul,<- Nat.add_assoc] at this;exact this)
        rw [hlen] at this; exact this
       ·exact absurd e h0
    ·exact .undef r
   ·exact .undef r
  ·split
   ·rename_i g' sz es hb;split
    ·rename_i hcond;obtain ⟨rfl,hlt⟩:=hcond;obtain ⟨mb,rb,arr,ty,h1,h2,h3,h4,h5,h6,h7,h8,h9,h10⟩:=qqd hs hr hb hlt;subst h5;have heb:=qbb (sz:=sz) hlt h8;refine .iptr _ o rb (mb.base + i * sz) arr (hown b mb rb arr ty _ h1 h4 h6) ?_ ?_ ?_
     ·rw [qdb,List.length_map,h9 i hlt]; omega
     ·intro j hj;rw [qdb,List.length_map,h9 i hlt] at hj;rw [qdb,qco _ _ _ _ (by rw [h9 i hlt]; exact hj)];exact ih _ _ (h10 i j hlt hj).1
     ·intro j hj;rw [qdb,List.length_map,h9 i hlt] at hj;exact (h10 i j hlt hj).2
    ·exact .undef r
   ·exact .undef r
def GIn (G:qaz) (w:World):Prop:=∀ k cells,G k = some cells->∃ ty fz,w.heap[k]? = some (.cells cells ty fz)
def qac (P:Program) (gl:Fr) (f:FuncId) (args:List V) (res:V):Prop:=
 qbt P f = true/\∀ G w (rargs:Array Value),GIn G w->qdy G gl->rargs.size = args.length->(∀ i,i < args.length->qak G M0 (args.getD i .undef) (rargs.getD i undef))->
  Calls P f rargs w fun e w'=>∃ rv G',e = .returned rv/\qak G' M0 res rv/\GIn G' w'/\Ext G M0 w G' M0 w'
section
variable {P:Program} {gl:Fr} {bs:BS} {n:Nat} {fr:Fr} {h:Hp} {G:qaz} {M:qar} {a:Act} {w:World}
theorem qbc (k:Nat):¬ qf0 M0 k:=by rintro ⟨b,mb,h,-⟩; cases h
theorem Sim.after (hs:Sim G M h w) {G':qaz} {w':World} (hg:GIn G' w') (hx:Ext G M0 w G' M0 w'):Sim G' M h w'/\Ext G M w G' M w':=by
 have hkeep:∀ k,k < w.heap.size->w'.heap[k]? = w.heap[k]?:=fun k hk=>hx.keep k hk (qbc k);refine ⟨⟨hg,fun b k hk=>(hs.hb b k hk).mono hx.g M.le_refl rfl (fun mb rb h1 h2=>hkeep rb (hs.mlt b mb rb h1 h2).1),hs.inj,fun b mb rb h1 h2=>?_⟩,⟨hx.g,?_,M.le_refl,fun k hk=>.inr hk,hx.os,hx.tape,hx.output,hx.size,fun k hk _=>hkeep k hk⟩⟩
 ·obtain ⟨q1,q2⟩:=hs.mlt b mb rb h1 h2;refine ⟨Nat.lt_of_lt_of_le q1 hx.size,?_⟩
  cases hgr:G' rb with
  | none=>rfl
  | some c=>
   rcases hx.gnew rb c hgr with h3 | h3 | h3
   ·rw [q2] at h3; cases h3
   ·omega
   ·exact absurd h3 (qbc _)
 ·intro k c hk;rcases hx.gnew k c hk with h3 | h3 | h3
  ·exact .inl h3
  ·exact .inr (.inl h3)
  ·exact absurd h3 (qbc _)
theorem qng.pure {f:FuncId} {args:List V} {res:V} {K:V->Hp->Prop} (hc:qac P gl f args res) (hp:jid args = true) (hk:K res h):qng P gl f args h K:=by
 refine ⟨hc.1,fun G M w rargs hs hgl hsz hr=>Calls.mono (hc.2 G w rargs hs.gw hgl hsz fun i hi=>(hr i hi).pure M0 (jie hp i)) ?_⟩;rintro e w' ⟨rv,G',rfl,hv,hg,hx⟩;obtain ⟨s1,s2⟩:=hs.after hg hx;exact ⟨rv,res,h,G',M,rfl,hk,hv.mono G'.le_refl (fun _ _ h=>by cases h),s1,s2,fun _ _=>rfl⟩
theorem qng.borrow {f:FuncId} {args args':List V} {res:V} {K:V->Hp->Prop} (m:Nat) (hc:qac P gl f args' res) (ha:args.map (frz h m) = args') (hp:res.scalar = true) (hk:K res h):qng P gl f args h K:=by
 subst ha;refine ⟨hc.1,fun G M w rargs hs hgl hsz hr=>?_⟩
 let Gf:qaz:=fun k=>match w.heap[k]? with
  | some (.cells c _ _)=>some c
  | _=>none
 have hGf:G.le Gf:=fun k c hk=>by
  obtain ⟨ty,fz,he⟩:=hs.gw k c hk;simp [Gf,he]
 have hin:GIn Gf w:=fun k c hk=>by
  simp only [Gf] at hk;split at hk
  ·rename_i c' ty fz he; cases hk; exact ⟨ty,fz,he⟩
  ·cases hk
 have hfr:=qfu hs hGf (fun b mb rb arr ty fz _ _ he=>by simp [Gf,he]) m
 refine Calls.mono (hc.2 Gf w rargs hin (hgl.mono hGf) (by simpa using hsz) fun i hi=>by
  have hi':i < args.length:=by simpa using hi
  rw [qco _ _ _ _ hi']; exact hfr _ _ (hr i hi')) ?_
 rintro e w' ⟨rv,G',rfl,hv,hg,hx⟩;have hkeep:∀ k,k < w.heap.size->w'.heap[k]? = w.heap[k]?:=fun k hk=>hx.keep k hk (qbc k)
 have hgin:GIn G w':=fun k c hk=>by
  obtain ⟨ty,fz,he⟩:=hs.gw k c hk;exact ⟨ty,fz,by rw [hkeep k (Array.getElem?_eq_some_iff.1 he).1]; exact he⟩
 have hext:Ext G M0 w G M0 w':=⟨G.le_refl,fun _ _ h=>.inl h,qar.le_refl _,fun _ h=>.inr h,hx.os,hx.tape,hx.output,hx.size,hx.keep⟩;obtain ⟨s1,s2⟩:=hs.after hgin hext;exact ⟨rv,res,h,G,M,rfl,hk,hv.scalar G M hp,s1,s2,fun _ _=>rfl⟩
inductive qsd where
 | tmp (t:Nat)
 | cell (t:Nat) (ag:Bool) (n:Nat)
 deriving Inhabited
def qqj (fr:Fr) (h:Hp) (K:List V->Prop):List qsd->Prop
 | []=>K []
 | .tmp t :: r=>match lk fr t with
  | some v=>qqj fr h (fun vs=>K (v :: vs)) r
  | none=>False
 | .cell t ag n :: r=>match lk fr t with
  | some (.ptr b g i off)=>match lk h b with
   | some (.row g' _ es)=>g' = g/\i < es.length/\jiv ag off n (es.getD i .undef)/\qqj fr h (fun vs=>K (jif ag off n (es.getD i .undef) :: vs)) r
   | _=>False
  | _=>False
def q2z (K:V->Prop):List V->Prop
 | [v]=>K v
 | vs=>K (.tup vs)
def qpo (P:Program):ResultVar->Option qsd
 | .tmp t=>some (.tmp t)
 | .cell t ty=>(qcg P ty).map fun x=>.cell t x.1 x.2.1
def qdk (P:Program):List ResultVar->Option (List qsd)
 | []=>some []
 | x :: r=>match qpo P x,qdk P r with
  | some y,some l=>some (y :: l)
  | _,_=>none
theorem qey (hr:R bs n gl G M fr h a w):∀ {rs:List ResultVar} {is:List qsd} {K:List V->Prop},qdk P rs = some is->qqj fr h K is->
  ∃ vs rvs,K vs/\rvs.length = vs.length/\(∀ i,i < vs.length->qak G M (vs.getD i .undef) (rvs.getD i undef))/\
   (rs.mapM (fun x=>match x with
    | .tmp t=>pure (a.tmps.getD t undef)
    | .cell ad t=>do loadVar t (<- asAddr (a.tmps.getD ad undef)):ResultVar->Sem Value)).run P w = .ok rvs w
 | [],is,K,h1,h2=>by
  simp [qdk] at h1; subst h1;exact ⟨[],[],h2,rfl,fun i hi=>by simp at hi,by simp⟩
 | x :: r,is,K,h1,h2=>by
  simp only [qdk] at h1;split at h1
  ·rename_i y l hy hl;cases h1
   cases x with
   | tmp t=>
    simp only [qpo,Option.some.injEq] at hy; subst hy;simp only [qqj] at h2;split at h2
    ·rename_i v hv;obtain ⟨vs,rvs,k1,k2,k3,k4⟩:=qey hr hl h2;refine ⟨v :: vs,a.tmps.getD t undef :: rvs,k1,by simp [k2],fun i hi=>?_,by simp only [List.mapM_cons,Sem.run_bind,Sem.run_pure,Result.andThen_ok,k4]⟩
     cases i with
     | zero=>exact hr.frr t v hv
     | succ i=>simpa using k3 i (by simpa using hi)
    ·exact h2.elim
   | cell t ty=>
    simp only [qpo] at hy
    cases ht:qcg P ty with
    | none=>rw [ht] at hy; cases hy
    | some q=>
     rw [ht] at hy; cases hy;simp only [qqj] at h2;split at h2
     ·rename_i b g i off hv;split at h2
      ·rename_i g' sz es hb;obtain ⟨rfl,hlt,hok,h2⟩:=h2;have hrv:=hr.frr t _ hv;obtain ⟨rv,e1,e2⟩:=qdj (P:=P) (w:=w) (t:=ty) (ag:=q.1) (n:=q.2.1) (by_:=q.2.2) (by rw [ht]) (qkb hr.sim hrv hb hlt) hok;obtain ⟨vs,rvs,k1,k2,k3,k4⟩:=qey hr hl h2;refine ⟨_ :: vs,rv :: rvs,k1,by simp [k2],fun i hi=>?_,?_⟩
       ·cases i with
        | zero=>exact e2
        | succ i=>simpa using k3 i (by simpa using hi)
       ·simp only [List.mapM_cons,Sem.run_bind];generalize a.tmps.getD t undef = q0 at hrv e1
        cases hrv with
        | ptr _ _ _ _ ad mb hM hg hh=>
         simp only [Instr.loadAt,Instr.sureAddr,Sem.run_bind,Sem.run_pure,Result.andThen_ok] at e1;have hasA:(asAddr (.pointer (some ad))).run P w = .ok ad w:=rfl;simp only [hasA,Sem.run_pure,Result.andThen_ok,e1,k4]
      ·exact h2.elim
     ·exact h2.elim
  ·cases h1
def qq5:Nat->List V->Fr
 | _,[]=>[]
 | i,v :: r=>(i,v) :: qq5 (i + 1) r
theorem qmr:∀ (args:List V) (k t:Nat) (v:V),lk (qq5 k args) t = some v->k≤t/\t - k < args.length/\args.getD (t - k) .undef = v
 | [],k,t,v,h=>by simp [qq5,lk] at h
 | x :: r,k,t,v,h=>by
  simp only [qq5,lk] at h;split at h
  ·rename_i he; subst he; cases h; simp
  ·rename_i hne;obtain ⟨h1,h2,h3⟩:=qmr r (k + 1) t v h;have e:t - k = (t - (k + 1)) + 1:=by omega
   refine ⟨by omega,by simp; omega,?_⟩;rw [e]; simpa using h3
def jht (rs:List qsd) (m:Nat) (res:V):IQ
 | .normal,fr,h=>qqj fr h (q2z fun v=>frz h m v = res) rs
 | .ret,fr,h=>qqj fr h (q2z fun v=>frz h m v = res) rs
 | _,_,_=>False
theorem qdc {w:World} {k j:Nat} {o:Obj} (hj:j ≠ k):(w.putObj k o).heap[j]? = w.heap[j]?:=World.putObj_heap_other hj
theorem Sim.putFree {G:qaz} {M:qar} {h:Hp} {w:World} (hs:Sim G M h w) {k:Nat} {o o':Obj} (ho:w.heap[k]? = some o) (hc:∀ c ty fz,o ≠ .cells c ty fz) (hn:¬ qf0 M k):Sim G M h (w.putObj k o'):=by
 refine ⟨fun j c hj=>?_,fun b blk hb=>?_,hs.inj,fun b mb rb h1 h2=>?_⟩
 ·obtain ⟨ty,fz,he⟩:=hs.gw j c hj;refine ⟨ty,fz,?_⟩;rw [qdc fun e=>?_]
  ·exact he
  ·subst e; rw [ho] at he; exact hc _ _ _ (Option.some.inj he)
 ·refine (hs.hb b blk hb).mono G.le_refl M.le_refl rfl fun mb rb h1 h2=>qdc fun e=>?_;subst e; exact hn ⟨b,mb,h1,h2⟩
 ·rw [World.putObj_size]; exact hs.mlt b mb rb h1 h2
theorem qiy.leave {bs:Nat} {G:qaz} {M:qar} {h:Hp}:∀ {l:List Deferred} {w:World}, Sim G M h w -> qiy bs M w l -> ∃ w', Sim G M h w' /\ (∀ k, k < bs -> w'.heap[k]? = w.heap[k]?) /\ w'.heap.size = w.heap.size /\ w'.os = w.os /\ w'.tape = w.tape /\ w'.output = w.output /\
      ∀ (P:Program) (F:Fence) (m:Nat) (fn:Func) (tmps:Array Value) (Rr:Ending->World->Prop),(∃ v,(results fn tmps).run P w' = .ok v w'/\Rr (.returned v) w')->LeavesInM F m P fn tmps Rr l .returning w
  | [],w,hs,_=>⟨w,hs,fun _ _=>rfl,rfl,rfl,rfl,rfl,fun _ _ _ _ _ _ h=>h⟩
  | d :: r,w,hs,⟨⟨k,h1,h2,h3,h4,h5⟩,h6⟩=>by
    have hk:k < w.heap.size:=(Array.getElem?_eq_some_iff.1 h3).1
    have hm:∀ {l:List Deferred},{ target:=.collected k,args:=#[] } ∉ l->qiy bs M w l->qiy bs M (w.putObj k (.deferred none)) l:=by
      intro l
      induction l with
      | nil=>exact fun _ _=>trivial
      | cons e l ih=>
        rintro hn ⟨⟨j,q1,q2,q3,q4,q5⟩,q6⟩;refine ⟨⟨j,q1,q2,?_,q4,q5⟩,ih (fun hc=>hn (List.mem_cons_of_mem _ hc)) q6⟩;rw [qdc fun e'=>hn (by subst e'; rw [q1]; exact List.mem_cons_self)];exact q3
    obtain ⟨w',s1,s2,s3,s4,s5,s6,s7⟩:=qiy.leave (hs.putFree (o':=.deferred none) h3 (fun _ _ _ e=>by cases e) h4) (hm h5 h6);refine ⟨w',s1,fun j hj=>?_,by rw [s3,World.putObj_size],s4,s5,s6,fun P F m fn tmps Rr hv=>⟨(by simp),.inl ⟨k,_,by rw [h1],run_takeDeferred h3,s7 P F m fn tmps Rr hv⟩⟩⟩;rw [s2 j hj,qdc (by omega)]
theorem R.leave {n:Nat} {gl:Fr} {G G0:qaz} {M M0':qar} {fr:Fr} {h:Hp} {a:Act} {w w0:World} (hr:R (w0.heap.size:BS) n gl G M fr h a w) (hx:Ext G0 M0' w0 G M w) :
  ∃ w',R (w0.heap.size:BS) n gl G M fr h { a with defers:=[] } w'/\Ext G0 M0' w0 G M w'/\
   ∀ (P:Program) (F:Fence) (m:Nat) (fn:Func) (Rr:Ending->World->Prop),(∃ v,(results fn a.tmps).run P w' = .ok v w'/\Rr (.returned v) w')->LeavesInM F m P fn a.tmps Rr a.defers .returning w:=by
 obtain ⟨l',e0,hmk,-⟩:=hr.df;rw [List.append_nil] at e0;obtain ⟨w',s1,s2,s3,s4,s5,s6,s7⟩:=qiy.leave hr.sim hmk;rw [<- e0] at s7;exact ⟨w',⟨s1,hr.frr,hr.sz,.nil _ _ _,hr.gl,by rw [s3]; exact hr.bs⟩,⟨hx.g,hx.gnew,hx.m,hx.mnew,s4.trans hx.os,s5.trans hx.tape,s6.trans hx.output,by rw [s3]; exact hx.size,fun k hk hn=>(s2 k hk).trans (hx.keep k hk hn)⟩,fun P F m fn Rr hv=>s7 P F m fn _ Rr hv⟩
theorem qac.of_body {f:FuncId} {fn:Func} {c:Code} {args:List V} {res:V} {rs:List qsd} (m:Nat) (hf:P.funcs[f]? = some fn) (hb:fn.body = some c) (hname:fn.name ≠ "runtime.NumGoroutine")
  (hargs:args.length≤fn.ntmps) (hres:qdk P fn.results.toList = some rs) (hw:IW P fn.ntmps gl c (jht rs m res) (qq5 0 args) []):qac P gl f args res:=by
 refine ⟨by simp [qbt,hf,hb,hname],fun G w rargs hg hgl hsz hrel=>?_⟩;refine qeo.1 (callsIn_of_wp_marks (F:=FW none) (n:=0) hf hb trivial (wpIn_mono (hw none w.heap.size (fun h=>nomatch h) G M0 _ w ⟨⟨hg,fun b k hk=>(by simp [lk] at hk),fun b b' mb mb' rb h1=>(by cases h1),fun b mb rb h1=>(by cases h1)⟩,fun t v ht=>?_,by simp; omega,.nil _ _ _,hgl,jki _⟩) ?_))
 ·obtain ⟨-,h2,h3⟩:=qmr args 0 t v ht;rw [Nat.sub_zero] at h2 h3
  have:(rargs ++ Array.replicate (fn.ntmps - rargs.size) undef).getD t undef = rargs.getD t undef:=by
   simp only [jke,Array.getElem?_append];rw [if_pos (by omega)]
  rw [this,<- h3]; exact hrel t h2
 ·rintro e ⟨tm,df⟩ w1 ⟨ie,G',M',fr',h',rfl,hq,hr1,hx1⟩;obtain ⟨w',hr,hx,hlv⟩:=hr1.leave hx1
  let a':Act:=⟨tm,[]⟩
  have fin:qqj fr' h' (q2z fun v=>frz h' m v = res) rs->∃ v,(results fn a'.tmps).run P w' = .ok v w'/\∃ rv G',Ending.returned v = .returned rv/\qak G' M0 res rv/\GIn G' w'/\Ext G M0 w G' M0 w':=by
   intro hres';obtain ⟨vs,rvs,k1,k2,k3,k4⟩:=qey (P:=P) hr hres hres'
   let Gf:qaz:=fun k=>if k < w.heap.size then G k else match w'.heap[k]? with
    | some (.cells c _ _)=>some c
    | _=>none
   have hkeep:∀ k,k < w.heap.size->w'.heap[k]? = w.heap[k]?:=fun k hk=>hx.keep k hk (qbc k)
   have hGf:G'.le Gf:=by
    intro k c hk;simp only [Gf];split
    ·rename_i hlt;rcases hx.gnew k c hk with h3 | h3 | h3
     ·exact h3
     ·omega
     ·exact absurd h3 (qbc _)
    ·obtain ⟨ty,fz,he⟩:=hr.sim.gw k c hk;simp [he]
   have hin:GIn Gf w':=by
    intro k c hk;simp only [Gf] at hk;split at hk
    ·rename_i hlt;obtain ⟨ty,fz,he⟩:=hg k c hk;exact ⟨ty,fz,by rw [hkeep k hlt]; exact he⟩
    ·split at hk
     ·rename_i c' ty fz he; cases hk; exact ⟨ty,fz,he⟩
     ·cases hk
   have hext:Ext G M0 w Gf M0 w':=by
    refine ⟨qaz.le_trans hx.g hGf,fun k c hk=>?_,qar.le_refl _,fun _ h=>.inr h,hx.os,hx.tape,hx.output,hx.size,hx.keep⟩;simp only [Gf] at hk;split at hk
    ·exact .inl hk
    ·rename_i hge; exact .inr (.inl (by omega))
   have hfr:=qfu hr.sim hGf (fun b mb rb arr ty fz h1 h2 he=>by
    have:¬ rb < w.heap.size:=fun hlt=>by
     rcases hx.mnew rb ⟨b,mb,h1,h2⟩ with h3 | h3
     ·omega
     ·exact absurd h3 (qbc _)
    simp [Gf,this,he]) m
   have hone:∃ v r,frz h' m v = res/\qak G' M' v r/\(results fn a'.tmps).run P w' = .ok r w':=by
    have k5:(fn.results.toList.mapM (fun x=>match x with
      | .tmp t=>pure (a'.tmps.getD t undef)
      | .cell ad t=>do loadVar t (<- asAddr (a'.tmps.getD ad undef)):ResultVar->Sem Value)).run P w' = .ok rvs w':=k4
    have hmap:(fn.results.mapM (fun x=>match x with
      | .tmp t=>pure (a'.tmps.getD t undef)
      | .cell ad t=>do loadVar t (<- asAddr (a'.tmps.getD ad undef)):ResultVar->Sem Value)).run P w' = .ok rvs.toArray w':=by
     rw [<- Array.toArray_toList (xs:=fn.results),List.mapM_toArray];simp only [Sem.run_map,k5,Result.andThen_ok]
    have hrun:(results fn a'.tmps).run P w' = .ok (if h:rvs.toArray.size = 1 then rvs.toArray[0] else .tuple rvs.toArray) w':=by
     unfold results;rw [Sem.run_bind];exact congrArg (fun q:Result (Array Value)=>q.andThen fun vs w=>(pure (if h:vs.size = 1 then vs[0] else .tuple vs):Sem Value).run P w) hmap
    match vs,rvs,k1,k2,k3,hrun with
    | [v],[r],k1,_,k3,hrun=>exact ⟨v,r,k1,k3 0 (by simp),by rw [hrun]; rfl⟩
    | [],[],k1,k2,k3,hrun=>exact ⟨.tup [],_,k1,.tup [] #[] rfl (fun i hi=>by simp at hi),by rw [hrun]; rfl⟩
    | v1 :: v2 :: vs,r1 :: r2 :: rs,k1,k2,k3,hrun=>
     refine ⟨.tup (v1 :: v2 :: vs),.tuple (r1 :: r2 :: rs).toArray,k1,.tup _ _ (by simpa using k2) (fun i hi=>?_),by rw [hrun,dif_neg (by simp)]⟩;have:=k3 i hi;rw [qbq]; exact this
   obtain ⟨v,r,e1,e2,e3⟩:=hone;have:=hfr _ _ e2;rw [e1] at this;exact ⟨r,e3,r,Gf,rfl,this,hin,hext⟩
  cases ie with
  | normal=>exact hlv P _ _ fn _ (fin hq)
  | ret=>exact hlv P _ _ fn _ (fin hq)
  | exit id=>exact hq.elim
  | goto l=>exact hq.elim
end
end
section
open Go
def Sub {α:Type}:List (Nat × α)->List (Nat × α)->Prop
 | [],_=>True
 | (k,v) :: r,b=>lk b k = some v/\Sub r b
theorem Sub.spec {α:Type}:∀ {a b:List (Nat × α)},Sub a b->∀ t v,lk a t = some v->lk b t = some v
 | [],b,_,t,v,h=>by simp [lk] at h
 | (k,x) :: r,b,hs,t,v,h=>by
  simp only [lk] at h;split at h
  ·rename_i he; cases h; subst he; exact hs.1
  ·exact Sub.spec hs.2 t v h
mutual
def V.rn (s:Nat->Nat->Nat × Nat):V->V
 | .agg cs=>.agg (ji0 s cs)
 | .tup cs=>.tup (ji0 s cs)
 | .sl xs c=>.sl (ji0 s xs) c
 | .iptr x o=>.iptr (x.rn s) o
 | .fn g a b=>.fn g (ji0 s a) (ji0 s b)
 | .ref b g o l c=>.ref (s b g).1 (s b g).2 o l c
 | .ptr b g i o=>.ptr (s b g).1 (s b g).2 i o
 | .own b g=>.own (s b g).1 (s b g).2
 | .undef=>.undef
 | .int k n=>.int k n
 | .bool b=>.bool b
 | .str s=>.str s
 | .nilfn=>.nilfn
 | .nilmap=>.nilmap
 | .err b=>.err b
 | .nil=>.nil
def ji0 (s:Nat->Nat->Nat × Nat):List V->List V
 | []=>[]
 | v :: r=>v.rn s :: ji0 s r
end
def q3q (s:Nat->Nat->Nat × Nat) (M M':qar):Prop:=∀ b g mb,M b = some mb->g≤mb.gen->
 ∃ mb',M' (s b g).1 = some mb'/\(s b g).2≤mb'.gen/\((s b g).2 = mb'.gen->g = mb.gen/\mb' = { mb with gen:=mb'.gen })
def Blk.gen:Blk->Nat
 | .row g _ _=>g
 | .map g _=>g
 | .siter g _ _=>g
 | .loop g ..=>g
 | .dead g=>g
 | .miter g ..=>g
def Blk.rn (s:Nat->Nat->Nat × Nat) (g':Nat):Blk->Blk
 | .row _ sz es=>.row g' sz (es.map (V.rn s))
 | .map _ es=>.map g' (es.map fun p=>(p.1.rn s,p.2.rn s))
 | .siter _ t pos=>.siter g' t pos
 | .loop _ n fr ps asg body busy=>.loop g' n (fr.map fun p=>(p.1,p.2.rn s)) ps asg body busy
 | .dead _=>.dead g'
 | .miter _ x n seen=>.miter g' (x.rn s) n seen
def mvS (b g b' g':Nat) (x y:Nat):Nat × Nat:=if x = b/\y = g then (b',g') else (x,y)
def mvF (s:Nat->Nat->Nat × Nat) (fr:Fr):Fr:=fr.map fun p=>(p.1,p.2.rn s)
def mvH (s:Nat->Nat->Nat × Nat) (b b' g':Nat):Hp->Hp
 | []=>[]
 | (k,x) :: r=>if k = b' then mvH s b b' g' r else if k = b then (b',x.rn s g') :: mvH s b b' g' r else (k,x.rn s x.gen) :: mvH s b b' g' r
section
variable {s:Nat->Nat->Nat × Nat} {G:qaz} {M M':qar} {P:Program} {bs:BS} {n:Nat} {gl fr:Fr} {h:Hp} {a:Act} {w:World}
theorem ql0 (l:List V):ji0 s l = l.map (V.rn s):=by
 induction l with
 | nil=>rfl
 | cons a r ih=>simp [ji0,ih]
theorem qfe (v:V):(v.rn s).cells = v.cells.map (V.rn s):=by
 cases v <;> simp [V.rn,V.cells,ql0]
theorem qdv (l:List V) (i:Nat):(l.map (V.rn s)).getD i .undef = (l.getD i .undef).rn s:=by
 simp only [jkd,List.getElem?_map];cases l[i]? <;> rfl
mutual
theorem qqk:∀ (v:V),v.pure = true->v.rn s = v
 | .agg cs,h=>by simp only [V.rn]; rw [qby cs (by simpa [V.pure] using h)]
 | .tup cs,h=>by simp only [V.rn]; rw [qby cs (by simpa [V.pure] using h)]
 | .sl xs c,h=>by simp only [V.rn]; rw [qby xs (by simpa [V.pure] using h)]
 | .iptr x o,h=>by simp only [V.rn]; rw [qqk x (by simpa [V.pure] using h)]
 | .fn g a b,h=>by
  simp only [V.pure,Bool.and_eq_true] at h;simp only [V.rn]; rw [qby a h.1,qby b h.2]
 | .ref ..,h=>by simp [V.pure] at h
 | .ptr ..,h=>by simp [V.pure] at h
 | .own ..,h=>by simp [V.pure] at h
 | .undef,_=>rfl
 | .int ..,_=>rfl
 | .bool _,_=>rfl
 | .str _,_=>rfl
 | .nilfn,_=>rfl
 | .nilmap,_=>rfl
 | .err _,_=>rfl
 | .nil,_=>rfl
theorem qby:∀ (l:List V),jid l = true->ji0 s l = l
 | [],_=>rfl
 | v :: r,h=>by
  simp only [jid,Bool.and_eq_true] at h;simp only [ji0]; rw [qqk v h.1,qby r h.2]
end
theorem qbi {l:List V} (h:jid l = true):l.map (V.rn s) = l:=by rw [<- ql0]; exact qby l h
theorem qak.rn (hm:q3q s M M') {v:V} {r:Value} (hv:qak G M v r):qak G M' (v.rn s) r:=by
 induction hv with
 | undef r=>exact .undef r
 | int k m=>exact .int k m
 | bool b=>exact .bool b
 | str t=>exact .str t
 | agg cs arr hsz _ ho ih=>
  simp only [V.rn,ql0];exact .agg _ _ (by simpa using hsz) (fun i hi=>by rw [qdv]; exact ih i (by simpa using hi)) (fun i hi=>ho i (by simpa using hi))
 | tup cs arr hsz _ ih=>
  simp only [V.rn,ql0];exact .tup _ _ (by simpa using hsz) (fun i hi=>by rw [qdv]; exact ih i (by simpa using hi))
 | slnil cap base rcap hc hb=>exact .slnil cap base rcap hc hb
 | sl xs cap rb ro rcap sz cells hne hg hsz hb hl hc _ ho ih=>
  simp only [V.rn,ql0];have hlen:(xs.map (V.rn s)).length = xs.length:=by simp
  have:=qak.sl (G:=G) (M:=M') (xs.map (V.rn s)) cap rb ro rcap sz cells (by simpa using hne) hg (fun i hi=>by rw [hlen] at hi; rw [qdv,qfe]; simpa using hsz i hi) (by simpa using hb) (by simpa using hl) hc
   (fun i j hi hj=>by
    rw [hlen] at hi;rw [qdv,qfe,qdv];exact ih i j hi hj)
   (fun i j hi hj=>ho i j (by simpa using hi) hj)
  rw [hlen] at this; exact this
 | ref b g o l c ra rcap mb hM hg hl hc hh=>
  obtain ⟨mb',q1,q2,q3⟩:=hm b g mb hM hg;refine .ref _ _ o l c ra rcap mb' q1 q2 hl hc fun e=>?_;obtain ⟨e1,e2⟩:=q3 e;have:=hh e1;rw [e2]; exact this
 | ptr b g i o ad mb hM hg hh=>
  obtain ⟨mb',q1,q2,q3⟩:=hm b g mb hM hg;refine .ptr _ _ i o ad mb' q1 q2 fun e=>?_;obtain ⟨e1,e2⟩:=q3 e;have:=hh e1;rw [e2]; exact this
 | iptr x o rb ro cells hg hb _ ho ih=>
  simp only [V.rn]
  exact .iptr _ o rb ro cells hg (by rw [qfe]; simpa using hb) (fun j hj=>by
   rw [qfe] at hj ⊢;rw [qdv];exact ih j (by simpa using hj)) (fun j hj=>ho j (by rw [qfe] at hj; simpa using hj))
 | fn g a b ra rb h1 h2 _ _ ih3 ih4=>
  simp only [V.rn,ql0];exact .fn g _ _ ra rb (by simpa using h1) (by simpa using h2) (fun i hi=>by rw [qdv]; exact ih3 i (by simpa using hi)) (fun i hi=>by rw [qdv]; exact ih4 i (by simpa using hi))
 | nilfn=>exact .nilfn
 | nilmap=>exact .nilmap
 | errnil=>exact .errnil
 | errsome t x=>exact .errsome t x
 | nil=>exact .nil
 | own b g r mb hM hg ho hh=>
  obtain ⟨mb',q1,q2,q3⟩:=hm b g mb hM hg;refine .own _ _ r mb' q1 q2 ho fun e=>?_;obtain ⟨e1,e2⟩:=q3 e;have:=hh e1;rw [e2]; exact this
theorem qbo.rn (hm:q3q s M M') {mb:MB} (g':Nat) {es:List V} (hr:qbo G M w mb es):qbo G M' w { mb with gen:=g' } (es.map (V.rn s)):=by
 unfold qbo at hr ⊢;split at hr
 ·rename_i hreal; rw [hr]; simp [hreal]
 ·rename_i rb hreal;simp only [hreal];obtain ⟨arr,ty,w1,w2,w3,w4,w5⟩:=hr;refine ⟨arr,ty,w1,w2,by simpa using w3,fun i hi=>?_,fun i j hi hj=>?_⟩
  ·rw [qdv,qfe]; simpa using w4 i (by simpa using hi)
  ·obtain ⟨k1,k2⟩:=w5 i j (by simpa using hi) hj;rw [qdv,qfe,qdv];exact ⟨k1.rn hm,k2⟩
theorem qni.rn (hm:q3q s M M') {rb:Nat} {es:List (V × V)} (hr:qni G M w rb es):qni G M' w rb (es.map fun p=>(p.1.rn s,p.2.rn s)):=by
 obtain ⟨entries,clock,h1,h2,h3⟩:=hr;refine ⟨entries,clock,h1,by simpa using h2,fun i hi=>?_⟩;have hi':i < es.length:=by simpa using hi
 obtain ⟨k1,k2⟩:=h3 i hi'
 have e:(es.map fun p=>(p.1.rn s,p.2.rn s)).getD i (.undef,.undef) = ((es.getD i (.undef,.undef)).1.rn s,(es.getD i (.undef,.undef)).2.rn s):=by
  simp [jkd,hi']
 rw [e];exact ⟨k1.rn hm,k2.rn hm⟩
theorem q0p (fr:Fr) (t:Nat):lk (mvF s fr) t = (lk fr t).map (V.rn s):=by
 induction fr with
 | nil=>rfl
 | cons p r ih=>
  obtain ⟨k,v⟩:=p;simp only [mvF,List.map_cons,lk];by_cases ht:t = k
  ·simp [ht]
  ·simp only [ht,if_false]; exact ih
theorem qb7.rn (hm:q3q s M M') {b b' g':Nat} {k:Blk} (hk:qb7 G M w b k) (hb:∀ mb,M b = some mb->mb.gen = k.gen->M' b' = some { mb with gen:=g' }):qb7 G M' w b' (k.rn s g'):=by
 cases k with
 | row g sz es=>
  obtain ⟨mb,q1,q2,q3,q4⟩:=hk;exact ⟨_,hb mb q1 q2,rfl,q3,q4.rn hm g'⟩
 | map g es=>
  obtain ⟨mb,rb,q1,q2,q3,q4,q5⟩:=hk;exact ⟨_,rb,hb mb q1 q2,rfl,q3,q4,q5.rn hm⟩
 | siter g t pos=>
  obtain ⟨mb,rb,q1,q2,q3,q4,q5⟩:=hk;exact ⟨_,rb,hb mb q1 q2,rfl,q3,q4,q5⟩
 | miter g x n seen=>
  obtain ⟨mb,rb,q1,q2,q3,q4,r,q5,q6⟩:=hk;exact ⟨_,rb,hb mb q1 q2,rfl,q3,q4,r,q5.rn hm,q6⟩
 | loop g n fr ps asg body busy=>
  obtain ⟨mb,rb,q1,q2,q3,q4,r,h4,h5,h6,h7,h8,h9,h10,h11⟩:=hk;refine ⟨_,rb,hb mb q1 q2,rfl,q3,q4,r,h4,h5,h6,h7,h8,h9,h10,fun t v ht=>?_⟩;have ht:lk (mvF s fr) t = some v:=ht;rw [q0p] at ht
  cases hq:lk fr t with
  | none=>rw [hq] at ht; cases ht
  | some v0=>rw [hq] at ht; cases ht; exact (h11 t v0 hq).rn hm
 | dead g=>obtain ⟨mb,q1,q2⟩:=hk; exact ⟨_,hb mb q1 q2,rfl⟩
theorem qvf {b b' g':Nat} (hne:b ≠ b') (h:Hp) (t:Nat):lk (mvH s b b' g' h) t = if t = b' then (lk h b).map (Blk.rn s g') else if t = b then none else (lk h t).map fun x=>x.rn s x.gen:=by
 induction h with
 | nil=>simp [mvH,lk]
 | cons p r ih=>
  obtain ⟨k,x⟩:=p;simp only [mvH];by_cases h1:k = b'
  ·rw [if_pos h1,ih];by_cases h2:t = b'
   ·simp [h2,lk,h1,hne]
   ·have h3:¬ t = k:=fun e=>h2 (e.trans h1);simp [h2,lk,h3]
  ·rw [if_neg h1];by_cases h2:k = b
   ·rw [if_pos h2];simp only [lk];by_cases h3:t = b'
    ·simp [h3,h2]
    ·rw [if_neg h3,ih,if_neg h3,if_neg h3];by_cases h4:t = b
     ·simp [h4]
     ·have h5:¬ t = k:=fun e=>h4 (e.trans h2);simp [h4,h5]
   ·rw [if_neg h2];simp only [lk];by_cases h3:t = k
    ·subst h3; simp [h1,h2]
    ·rw [if_neg h3,ih];have h4:¬ b = k:=fun e=>h2 e.symm;simp [h3,h4]
theorem R.move {b b':Nat} (hne:b ≠ b') {k:Blk} (hb:lk h b = some k) (hr:R bs n gl G M fr h a w) :
  ∃ M',R bs n gl G M' (mvF (mvS b k.gen b' (qaa M b')) fr) (mvH (mvS b k.gen b' (qaa M b')) b b' (qaa M b') h) a w/\Ext G M w G M' w:=by
 obtain ⟨mb,hmb,hgen⟩:∃ mb,M b = some mb/\mb.gen = k.gen:=by
  have:=hr.sim.hb b k hb
  cases k with
  | row g sz es=>obtain ⟨mb,q1,q2,-⟩:=this; exact ⟨mb,q1,q2⟩
  | map g es=>obtain ⟨mb,rb,q1,q2,-⟩:=this; exact ⟨mb,q1,q2⟩
  | siter g t pos=>obtain ⟨mb,rb,q1,q2,-⟩:=this; exact ⟨mb,q1,q2⟩
  | loop=>obtain ⟨mb,rb,q1,q2,-⟩:=this; exact ⟨mb,q1,q2⟩
  | miter=>obtain ⟨mb,rb,q1,q2,-⟩:=this; exact ⟨mb,q1,q2⟩
  | dead=>exact this
 generalize hg':qaa M b' = g'
 let M':qar:=fun x=>if x = b' then some { mb with gen:=g' } else if x = b then some { mb with gen:=mb.gen + 1,real:=none } else M x
 have e1:M' b' = some { mb with gen:=g' }:=by simp [M']
 have e2:M' b = some { mb with gen:=mb.gen + 1,real:=none }:=by simp [M',hne]
 have e3:∀ x,x ≠ b'->x ≠ b->M' x = M x:=fun x h1 h2=>by simp [M',h1,h2]
 have hold:∀ m,M b' = some m->m.gen < g':=fun m hm=>by rw [<- hg',qaa,hm]; simp
 have hm:q3q (mvS b k.gen b' g') M M':=by
  intro x g m hx hgx;unfold mvS;by_cases hc:x = b/\g = k.gen
  ·rw [if_pos hc];obtain ⟨rfl,rfl⟩:=hc;rw [hmb] at hx; cases hx;exact ⟨_,e1,jki _,fun _=>⟨hgen.symm,rfl⟩⟩
  ·rw [if_neg hc];by_cases h1:x = b'
   ·subst h1;have:=hold m hx;exact ⟨_,e1,by simp only; omega,fun e=>by simp only at e; omega⟩
   ·by_cases h2:x = b
    ·subst h2;rw [hmb] at hx; cases hx;have:g ≠ mb.gen:=fun e=>hc ⟨rfl,e.trans hgen⟩;exact ⟨_,e2,by simp only; omega,fun e=>by simp only at e; omega⟩
    ·exact ⟨m,by rw [e3 x h1 h2]; exact hx,hgx,fun e=>⟨e,rfl⟩⟩
 have hext:Ext G M w G M' w:=by
  refine ⟨G.le_refl,fun _ _ q=>.inl q,fun x m hx=>?_,fun q ⟨x,mx,hx,r1⟩=>.inr ?_,rfl,rfl,rfl,jki _,fun _ _ _=>rfl⟩
  ·by_cases h1:x = b'
   ·subst h1;have:=hold m hx;exact ⟨_,e1,by simp only; omega,fun e=>by simp only at e; omega⟩
   ·by_cases h2:x = b
    ·subst h2;rw [hmb] at hx; cases hx;exact ⟨_,e2,by simp only; omega,fun e=>by simp only at e; omega⟩
    ·exact ⟨m,by rw [e3 x h1 h2]; exact hx,jki _,fun _=>rfl⟩
  ·by_cases h1:x = b'
   ·subst h1; rw [e1] at hx; cases hx; exact ⟨b,mb,hmb,r1⟩
   ·by_cases h2:x = b
    ·subst h2; rw [e2] at hx; cases hx; cases r1
    ·rw [e3 x h1 h2] at hx; exact ⟨x,mx,hx,r1⟩
 refine ⟨M',⟨⟨hr.sim.gw,fun t blk ht=>?_,fun x y mx my rb hx hy r1 r2=>?_,fun x mx rb hx r1=>?_⟩,fun t v ht=>?_,hr.sz,hr.df.ext hext,hr.gl,hr.bs⟩,hext⟩
 ·rw [qvf hne] at ht;by_cases h1:t = b'
  ·rw [if_pos h1,hb] at ht;cases ht;subst h1;exact (hr.sim.hb b k hb).rn hm fun m hm' _=>by rw [hmb] at hm'; cases hm'; exact e1
  ·rw [if_neg h1] at ht;by_cases h2:t = b
   ·rw [if_pos h2] at ht; cases ht
   ·rw [if_neg h2] at ht
    cases hq:lk h t with
    | none=>rw [hq] at ht; cases ht
    | some x=>
     rw [hq] at ht; cases ht;refine (hr.sim.hb t x hq).rn hm fun m hm' hgm=>?_;rw [e3 t h1 h2,hm',<- hgm]
 ·have key:∀ z mz,M' z = some mz->mz.real = some rb->∃ z' mz',M z' = some mz'/\mz'.real = some rb/\(z = b'/\z' = b∨z ≠ b'/\z ≠ b/\z' = z):=by
   intro z mz hz rz;by_cases h1:z = b'
   ·subst h1; rw [e1] at hz; cases hz; exact ⟨b,mb,hmb,rz,.inl ⟨rfl,rfl⟩⟩
   ·by_cases h2:z = b
    ·subst h2; rw [e2] at hz; cases hz; cases rz
    ·rw [e3 z h1 h2] at hz; exact ⟨z,mz,hz,rz,.inr ⟨h1,h2,rfl⟩⟩
  obtain ⟨x',mx',p1,p2,p3⟩:=key x mx hx r1;obtain ⟨y',my',p4,p5,p6⟩:=key y my hy r2;have hxy:=hr.sim.inj x' y' mx' my' rb p1 p4 p2 p5;rcases p3 with ⟨rfl,rfl⟩ | ⟨h1,h2,rfl⟩ <;> rcases p6 with ⟨rfl,rfl⟩ | ⟨h3,h4,rfl⟩
  ·rfl
  ·exact absurd hxy.symm h4
  ·exact absurd hxy h2
  ·exact hxy
 ·by_cases h1:x = b'
  ·subst h1; rw [e1] at hx; cases hx; exact hr.sim.mlt b mb rb hmb r1
  ·by_cases h2:x = b
   ·subst h2; rw [e2] at hx; cases hx; cases r1
   ·rw [e3 x h1 h2] at hx; exact hr.sim.mlt x mx rb hx r1
 ·rw [q0p] at ht
  cases hq:lk fr t with
  | none=>rw [hq] at ht; cases ht
  | some v0=>rw [hq] at ht; cases ht; exact (hr.frr t v0 hq).rn hm
theorem qak.mapR {G Gf:qaz} {M M':qar} (hG:G.le Gf) {f:Nat->Nat->Nat->Nat->Option Nat->V} {p:Nat->Nat->Nat->Nat->V}
  (hcells:∀ (x:V),(x.mapR f p).cells = x.cells.map (V.mapR f p)) (hf:∀ b g o l c r,qak G M (.ref b g o l c) r->qak Gf M' (f b g o l c) r) (hp:∀ b g i o r,qak G M (.ptr b g i o) r->qak Gf M' (p b g i o) r) :
  ∀ (v:V) (r:Value),qak G M v r->qak Gf M' (v.mapR f p) r:=by
 intro v r hv
 have hget:∀ (l:List V) (i:Nat),i < l.length->(l.map (V.mapR f p)).getD i .undef = (l.getD i .undef).mapR f p:=by
  intro l i hi; simp [jkd,hi]
 induction hv with
 | undef r=>exact .undef r
 | int k m=>exact .int k m
 | bool b=>exact .bool b
 | str s=>exact .str s
 | agg cs arr hsz _ ho ih=>
  simp only [V.mapR,qcj];exact .agg _ _ (by simpa using hsz) (fun i hi=>by rw [hget cs i (by simpa using hi)]; exact ih i (by simpa using hi)) (fun i hi=>ho i (by simpa using hi))
 | tup cs arr hsz _ ih=>
  simp only [V.mapR,qcj];exact .tup _ _ (by simpa using hsz) (fun i hi=>by rw [hget cs i (by simpa using hi)]; exact ih i (by simpa using hi))
 | slnil cap base rcap hc hb=>exact .slnil cap base rcap hc hb
 | sl xs cap rb ro rcap sz cells hne hg hsz hb hl hc _ ho ih=>
  simp only [V.mapR,qcj];have hlen:(xs.map (V.mapR f p)).length = xs.length:=by simp
  have hx:∀ i,i < xs.length->((xs.map (V.mapR f p)).getD i .undef).cells = (xs.getD i .undef).cells.map (V.mapR f p):=fun i hi=>by rw [hget xs i hi,hcells]
  have:=qak.sl (G:=Gf) (M:=M') (xs.map (V.mapR f p)) cap rb ro rcap sz cells (by simpa using hne) (hG _ _ hg) (fun i hi=>by rw [hlen] at hi; rw [hx i hi]; simpa using hsz i hi) (by simpa using hb) (by simpa using hl) hc
   (fun i j hi hj=>by
    rw [hlen] at hi;rw [hx i hi,hget _ j (by rw [hsz i hi]; exact hj)];exact ih i j hi hj)
   (fun i j hi hj=>ho i j (by simpa using hi) hj)
  rw [hlen] at this; exact this
 | ref b g o l c ra rcap mb hM hg hl hc hh=>exact hf _ _ _ _ _ _ (.ref b g o l c ra rcap mb hM hg hl hc hh)
 | ptr b g i o ad mb hM hg hh=>exact hp _ _ _ _ _ (.ptr b g i o ad mb hM hg hh)
 | iptr x o rb ro cells hg hb _ ho ih=>
  simp only [V.mapR];have hx:(x.mapR f p).cells = x.cells.map (V.mapR f p):=hcells x
  exact .iptr _ o rb ro cells (hG _ _ hg) (by rw [hx]; simpa using hb) (fun j hj=>by
   rw [hx] at hj ⊢;rw [hget _ j (by simpa using hj)];exact ih j (by simpa using hj)) (fun j hj=>ho j (by rw [hx] at hj; simpa using hj))
 | fn g a b ra rb h1 h2 _ _ ih3 ih4=>
  simp only [V.mapR,qcj];exact .fn g _ _ ra rb (by simpa using h1) (by simpa using h2) (fun i hi=>by rw [hget a i (by simpa using hi)]; exact ih3 i (by simpa using hi)) (fun i hi=>by rw [hget b i (by simpa using hi)]; exact ih4 i (by simpa using hi))
 | nilfn=>exact .nilfn
 | nilmap=>exact .nilmap
 | errnil=>exact .errnil
 | errsome t x=>exact .errsome t x
 | nil=>exact .nil
 | own b g r=>exact .undef r
def fzf (b g:Nat) (es:List V) (b' g' o l:Nat) (c:Option Nat):V:=if b' = b/\g' = g then (if o + l≤es.length then .sl ((es.drop o).take l) c else .undef) else .ref b' g' o l c
def fzp (b g:Nat) (es:List V) (b' g' i o:Nat):V:=if b' = b/\g' = g then (if i < es.length then .iptr (es.getD i .undef) o else .undef) else .ptr b' g' i o
def fzV (b g:Nat) (es:List V) (v:V):V:=v.mapR (fzf b g es) (fzp b g es)
def fzF (b g:Nat) (es:List V) (fr:Fr):Fr:=fr.map fun p=>(p.1,fzV b g es p.2)
def Blk.fz (b g:Nat) (es:List V):Blk->Blk
 | .row g' sz xs=>.row g' sz (xs.map (fzV b g es))
 | .map g' xs=>.map g' (xs.map fun p=>(fzV b g es p.1,fzV b g es p.2))
 | .siter g' s pos=>.siter g' s pos
 | .loop g' n fr ps asg body busy=>.loop g' n (fr.map fun p=>(p.1,fzV b g es p.2)) ps asg body busy
 | .dead g'=>.dead g'
 | .miter g' x n seen=>.miter g' (fzV b g es x) n seen
def fzH (b g:Nat) (es:List V):Hp->Hp
 | []=>[]
 | (k,x) :: r=>if k = b then fzH b g es r else (k,x.fz b g es) :: fzH b g es r
theorem q0o (b g:Nat) (es:List V) (fr:Fr) (t:Nat):lk (fzF b g es fr) t = (lk fr t).map (fzV b g es):=by
 induction fr with
 | nil=>rfl
 | cons p r ih=>
  obtain ⟨k,v⟩:=p;simp only [fzF,List.map_cons,lk];by_cases ht:t = k
  ·simp [ht]
  ·simp only [ht,if_false]; exact ih
theorem q6h (b g:Nat) (es:List V) (h:Hp) (t:Nat):lk (fzH b g es h) t = if t = b then none else (lk h t).map (Blk.fz b g es):=by
 induction h with
 | nil=>simp [fzH,lk]
 | cons p r ih=>
  obtain ⟨k,x⟩:=p;simp only [fzH];by_cases h1:k = b
  ·rw [if_pos h1,ih];by_cases h2:t = b
   ·simp [h2]
   ·have:¬ t = k:=fun e=>h2 (e.trans h1);simp [h2,lk,this]
  ·rw [if_neg h1];simp only [lk];by_cases h2:t = k
   ·subst h2; simp [h1]
   ·simp only [h2,if_false]; exact ih
theorem qj4 (b g:Nat) (es:List V) (x:V):(fzV b g es x).cells = x.cells.map (fzV b g es):=by
 unfold fzV;cases x <;> simp only [V.mapR,V.cells,List.map_cons,List.map_nil,qcj]
 ·rename_i b1 g1 o l c;unfold fzf;by_cases h1:b1 = b/\g1 = g
  ·rw [if_pos h1];by_cases h2:o + l≤es.length
   ·rw [if_pos h2]
   ·rw [if_neg h2]
  ·rw [if_neg h1]
 ·rename_i b1 g1 o l;unfold fzp;by_cases h1:b1 = b/\g1 = g
  ·rw [if_pos h1];by_cases h2:o < es.length
   ·rw [if_pos h2]
   ·rw [if_neg h2]
  ·rw [if_neg h1]
theorem Sim.frz {b g sz:Nat} {es:List V} (hb:lk h b = some (.row g sz es)) (hp:jid es = true) (hr:Sim G M h w) :
  ∃ G' M',Sim G' M' (fzH b g es h) w/\Ext G M w G' M' w/\(∀ v r,qak G M v r->qak G' M' (fzV b g es v) r)/\∀ x,x ≠ b->M' x = M x:=by
 obtain ⟨mb,hmb,hgen,hsz,hrow⟩:=hr.hb b _ hb
 let M':qar:=fun x=>if x = b then some { mb with gen:=mb.gen + 1,real:=none } else M x
 let Gf:qaz:=fun k=>if mb.real = some k then (match w.heap[k]? with
  | some (.cells c _ _)=>some c
  | _=>none) else G k
 have e1:M' b = some { mb with gen:=mb.gen + 1,real:=none }:=by simp [M']
 have e2:∀ x,x ≠ b->M' x = M x:=fun x h1=>by simp [M',h1]
 have hGf:G.le Gf:=fun k c hk=>by
  simp only [Gf];split
  ·rename_i hre;have:=(hr.mlt b mb k hmb hre).2;rw [this] at hk; cases hk
  ·exact hk
 have hle:M.le M':=fun x m hx=>by
  by_cases h1:x = b
  ·subst h1; rw [hmb] at hx; cases hx; exact ⟨_,e1,by simp,fun e=>by simp at e⟩
  ·exact ⟨m,by rw [e2 x h1]; exact hx,jki _,fun _=>rfl⟩
 let M1:qar:=fun x=>if x = b then some mb else none
 have f1:M1 b = some mb:=by simp [M1]
 have f2:∀ x m,M1 x = some m->x = b/\m = mb:=fun x m hx=>by
  simp only [M1] at hx;split at hx
  ·rename_i e; cases hx; exact ⟨e,rfl⟩
  ·cases hx
 have hs1:Sim G M1 [(b,.row g sz es)] w:=by
  refine ⟨hr.gw,fun t blk ht=>?_,fun x y mx my rb hx hy _ _=>?_,fun x mx rb hx r1=>?_⟩
  ·simp only [lk] at ht;split at ht
   ·rename_i h0;cases ht; subst h0;refine ⟨mb,f1,hgen,hsz,?_⟩;unfold qbo at hrow ⊢
    cases hreal:mb.real with
    | none=>simp only [hreal] at hrow ⊢; exact hrow
    | some rb=>
     simp only [hreal] at hrow ⊢;obtain ⟨arr,ty,w1,w2,w3,w4,w5⟩:=hrow;exact ⟨arr,ty,w1,w2,w3,w4,fun i j hi hj=>⟨(w5 i j hi hj).1.pure M1 (jie (jit (jie hp i)) j),(w5 i j hi hj).2⟩⟩
   ·cases ht
  ·rw [(f2 x mx hx).1,(f2 y my hy).1]
  ·obtain ⟨rfl,rfl⟩:=f2 x mx hx;exact hr.mlt _ _ rb hmb r1
 have hfr:=qfu hs1 hGf (fun x mx rb arr ty fz h1 h2 he=>by
  obtain ⟨rfl,rfl⟩:=f2 x mx h1;simp [Gf,h2,he]) 1
 have hval:∀ v r,qak G M v r->qak Gf M' (fzV b g es v) r:=by
  refine qak.mapR hGf (fun x=>qj4 b g es x) (fun b1 g1 o l c r q=>?_) (fun b1 g1 i o r q=>?_)
  ·unfold fzf;by_cases hc:b1 = b/\g1 = g
   ·obtain ⟨rfl,rfl⟩:=hc;rw [if_pos ⟨rfl,rfl⟩];split
    ·rename_i hol
     have q1:qak G M1 (.ref b1 g1 o l c) r:=by
      cases q with
      | ref _ _ _ _ _ ra rcap mb' hM hg hl hc hh=>rw [hmb] at hM; cases hM; exact .ref _ _ _ _ _ _ _ _ f1 hg hl hc hh
     have:=hfr _ _ q1;simp only [_root_.Go.Proofs.YtbbnmiaabmbheaaGreatDoor.frz,V.mapR,lk,if_true,true_and,if_pos hol] at this
     have hpp:jid ((es.drop o).take l) = true:=by
      rw [jig] at hp ⊢;exact fun v hv=>hp v (List.mem_of_mem_drop (List.mem_of_mem_take hv))
     have e0:((es.drop o).take l).map (fun v=>V.mapR (fun _ _ _ _ _=>.undef) (fun _ _ _ _=>.undef) v) = (es.drop o).take l:=by
      have:∀ x ∈ (es.drop o).take l,(fun v=>V.mapR (fun _ _ _ _ _=>.undef) (fun _ _ _ _=>.undef) v) x = x:=fun x hx=>qcu x ((jig _).1 hpp x hx);rw [List.map_congr_left this,List.map_id']
     rw [e0] at this;exact this.mono Gf.le_refl (fun _ _ h=>by cases h)
    ·exact .undef r
   ·rw [if_neg hc]
    cases q with
    | ref _ _ _ _ _ ra rcap mb' hM hg hl hc' hh=>
     by_cases hbb:b1 = b
     ·subst hbb;rw [hmb] at hM; cases hM;have:g1 ≠ mb.gen:=fun e=>hc ⟨rfl,e.trans hgen⟩;exact .ref _ _ _ _ _ _ _ _ e1 (by simp only; omega) hl hc' (fun e=>by simp only at e; omega)
     ·exact .ref _ _ _ _ _ _ _ _ (by rw [e2 b1 hbb]; exact hM) hg hl hc' hh
  ·unfold fzp;by_cases hc:b1 = b/\g1 = g
   ·obtain ⟨rfl,rfl⟩:=hc;rw [if_pos ⟨rfl,rfl⟩];split
    ·rename_i hil
     have q1:qak G M1 (.ptr b1 g1 i o) r:=by
      cases q with
      | ptr _ _ _ _ ad mb' hM hg hh=>rw [hmb] at hM; cases hM; exact .ptr _ _ _ _ _ _ f1 hg hh
     have:=hfr _ _ q1;simp only [_root_.Go.Proofs.YtbbnmiaabmbheaaGreatDoor.frz,V.mapR,lk,if_true,true_and,if_pos hil] at this;rw [qcu _ (jie hp i)] at this;exact this.mono Gf.le_refl (fun _ _ h=>by cases h)
    ·exact .undef r
   ·rw [if_neg hc]
    cases q with
    | ptr _ _ _ _ ad mb' hM hg hh=>
     by_cases hbb:b1 = b
     ·subst hbb;rw [hmb] at hM; cases hM;have:g1 ≠ mb.gen:=fun e=>hc ⟨rfl,e.trans hgen⟩;exact .ptr _ _ _ _ _ _ e1 (by simp only; omega) (fun e=>by simp only at e; omega)
     ·exact .ptr _ _ _ _ _ _ (by rw [e2 b1 hbb]; exact hM) hg hh
 have hget:∀ (l:List V) (i:Nat),i < l.length->(l.map (fzV b g es)).getD i .undef = fzV b g es (l.getD i .undef):=by
  intro l i hi; simp [jkd,hi]
 refine ⟨Gf,M',⟨fun k c hk=>?_,fun t blk ht=>?_,fun x y mx my rb hx hy r1 r2=>?_,fun x mx rb hx r1=>?_⟩,⟨hGf,fun k c hk=>?_,hle,fun q ⟨x,mx,hx,r1⟩=>.inr ?_,rfl,rfl,rfl,jki _,fun _ _ _=>rfl⟩,hval,e2⟩
 ·simp only [Gf] at hk;split at hk
  ·split at hk
   ·rename_i c' ty fz he; cases hk; exact ⟨ty,fz,he⟩
   ·cases hk
  ·exact hr.gw k c hk
 ·rw [q6h] at ht;by_cases h1:t = b
  ·rw [if_pos h1] at ht; cases ht
  ·rw [if_neg h1] at ht
   cases hq:lk h t with
   | none=>rw [hq] at ht; cases ht
   | some x=>
    rw [hq] at ht; cases ht;have hbk:=hr.hb t x hq
    cases x with
    | row g2 sz2 xs=>
     obtain ⟨m2,q1,q2,q3,q4⟩:=hbk;refine ⟨m2,by rw [e2 t h1]; exact q1,q2,q3,?_⟩;unfold qbo at q4 ⊢
     cases hreal:m2.real with
     | none=>simp only [hreal] at q4 ⊢; rw [q4]; rfl
     | some rb=>
      simp only [hreal] at q4 ⊢;obtain ⟨arr,ty,w1,w2,w3,w4,w5⟩:=q4;refine ⟨arr,ty,w1,w2,by simpa using w3,fun i hi=>?_,fun i j hi hj=>?_⟩
      ·have hi':i < xs.length:=by simpa using hi
       rw [hget _ _ hi',qj4]; simpa using w4 i hi'
      ·have hi':i < xs.length:=by simpa using hi
       obtain ⟨k1,k2⟩:=w5 i j hi' hj;rw [hget _ _ hi',qj4,hget _ _ (by rw [w4 i hi']; exact hj)];exact ⟨hval _ _ k1,k2⟩
    | map g2 xs=>
     obtain ⟨m2,rb,q1,q2,q3,q4,entries,clock,w1,w2,w3⟩:=hbk;refine ⟨m2,rb,by rw [e2 t h1]; exact q1,q2,q3,q4,entries,clock,w1,by simpa using w2,fun i hi=>?_⟩;have hi':i < xs.length:=by simpa using hi
     obtain ⟨k1,k2⟩:=w3 i hi'
     have e:(xs.map fun p=>(fzV b g es p.1,fzV b g es p.2)).getD i (.undef,.undef) = (fzV b g es (xs.getD i (.undef,.undef)).1,fzV b g es (xs.getD i (.undef,.undef)).2):=by
      simp [jkd,hi']
     rw [e];exact ⟨hval _ _ k1,hval _ _ k2⟩
    | siter g2 s pos=>
     obtain ⟨m2,rb,q1,q2,q3,q4,q5⟩:=hbk;exact ⟨m2,rb,by rw [e2 t h1]; exact q1,q2,q3,q4,q5⟩
    | loop g2 n2 fr2 ps asg body busy=>
     obtain ⟨m2,rb,q1,q2,q3,q4,r,w1,w2,w3,w4,w5,w6,w7,w8⟩:=hbk;refine ⟨m2,rb,by rw [e2 t h1]; exact q1,q2,q3,q4,r,w1,w2,w3,w4,w5,w6,w7,fun t2 v2 ht2=>?_⟩;have ht2:lk (fzF b g es fr2) t2 = some v2:=ht2;rw [q0o] at ht2
     cases hq2:lk fr2 t2 with
     | none=>rw [hq2] at ht2; cases ht2
     | some v0=>rw [hq2] at ht2; cases ht2; exact hval _ _ (w8 t2 v0 hq2)
    | dead g2=>obtain ⟨m2,q1,q2⟩:=hbk; exact ⟨m2,by rw [e2 t h1]; exact q1,q2⟩
    | miter g2 x n2 seen=>
     obtain ⟨m2,rb,q1,q2,q3,q4,r,q5,q6⟩:=hbk;exact ⟨m2,rb,by rw [e2 t h1]; exact q1,q2,q3,q4,r,hval _ _ q5,q6⟩
 ·have key:∀ z mz,M' z = some mz->mz.real = some rb->M z = some mz:=fun z mz hz rz=>by
   by_cases h1:z = b
   ·subst h1; rw [e1] at hz; cases hz; cases rz
   ·rw [e2 z h1] at hz; exact hz
  exact hr.inj x y mx my rb (key x mx hx r1) (key y my hy r2) r1 r2
 ·by_cases h1:x = b
  ·subst h1; rw [e1] at hx; cases hx; cases r1
  ·rw [e2 x h1] at hx;obtain ⟨k1,k2⟩:=hr.mlt x mx rb hx r1;refine ⟨k1,?_⟩;simp only [Gf];rw [if_neg fun e=>h1 (hr.inj x b mx mb rb hx hmb r1 e)];exact k2
 ·simp only [Gf] at hk;split at hk
  ·rename_i hre; exact .inr (.inr ⟨b,mb,hmb,hre⟩)
  ·exact .inl hk
 ·by_cases h1:x = b
  ·subst h1; rw [e1] at hx; cases hx; cases r1
  ·rw [e2 x h1] at hx; exact ⟨x,mx,hx,r1⟩
theorem R.frz {b g sz:Nat} {es:List V} (hb:lk h b = some (.row g sz es)) (hp:jid es = true) (hr:R bs n gl G M fr h a w) :
  ∃ G' M',R bs n gl G' M' (fzF b g es fr) (fzH b g es h) a w/\Ext G M w G' M' w:=by
 obtain ⟨G',M',h1,h2,h4,-⟩:=hr.sim.frz hb hp;refine ⟨G',M',⟨h1,fun t v ht=>?_,hr.sz,hr.df.ext h2,hr.gl.mono h2.1,hr.bs⟩,h2⟩;rw [q0o] at ht
 cases hq:lk fr t with
 | none=>rw [hq] at ht; cases ht
 | some v0=>rw [hq] at ht; cases ht; exact h4 _ _ (hr.frr t v0 hq)
theorem qvg {b x:Nat} {k:Blk}:∀ {h:Hp},lk (h.filter fun p=>p.1 != b) x = some k->x ≠ b/\lk h x = some k
 | [],hk=>by simp [lk] at hk
 | (y,z) :: r,hk=>by
  by_cases e:y = b
  ·have:((y,z) :: r).filter (fun p=>p.1 != b) = r.filter fun p=>p.1 != b:=by simp [e]
   rw [this] at hk;obtain ⟨h1,h2⟩:=qvg hk;exact ⟨h1,by rw [lk,if_neg (fun q=>h1 (q.trans e))]; exact h2⟩
  ·have:((y,z) :: r).filter (fun p=>p.1 != b) = (y,z) :: r.filter fun p=>p.1 != b:=by simp [e]
   rw [this] at hk;simp only [lk] at hk ⊢;split at hk
   ·rename_i q; exact ⟨fun q2=>e (q.symm.trans q2),by rw [if_pos q]; exact hk⟩
   ·rename_i q; obtain ⟨h1,h2⟩:=qvg hk; exact ⟨h1,by rw [if_neg q]; exact h2⟩
theorem R.frzT {b t g sz off len:Nat} {cap:Option Nat} {es:List V} (hb:lk h b = some (.row g sz es)) (hp:jid es = true) (ht:lk fr t = some (.ref b g off len cap)) (hl:off + len≤es.length) (hr:R bs n gl G M fr h a w) :
  ∃ G' M',R bs n gl G' M' ((t,.sl ((es.drop off).take len) cap) :: fr) (h.filter fun p=>p.1 != b) a w/\Ext G M w G' M' w:=by
 obtain ⟨G',M',h1,h2,h4,h5⟩:=hr.sim.frz hb hp;refine ⟨G',M',⟨⟨h1.gw,fun x k hk=>?_,h1.inj,h1.mlt⟩,fun t2 v ht2=>?_,hr.sz,hr.df.ext h2,hr.gl.mono h2.1,hr.bs⟩,h2⟩
 ·obtain ⟨q1,q2⟩:=qvg hk;exact (hr.sim.hb x k q2).mono h2.g h2.m (h5 x q1) fun _ _ _ _=>rfl
 ·simp only [lk] at ht2;split at ht2
  ·rename_i e;cases ht2;subst e;have:=h4 _ _ (hr.frr t2 _ ht);simpa [fzV,V.mapR,fzf,hl] using this
  ·exact (hr.frr t2 v ht2).mono h2.g h2.m
inductive MvP (K:Fr->Hp->Prop):Fr->Hp->Prop
 | done {fr:Fr} {h:Hp} (hk:K fr h):MvP K fr h
 | move {fr:Fr} {h:Hp} (b b':Nat) (k:Blk) (hne:b ≠ b') (hb:lk h b = some k) (hk:∀ g',MvP K (mvF (mvS b k.gen b' g') fr) (mvH (mvS b k.gen b' g') b b' g' h)):MvP K fr h
 | frz {fr:Fr} {h:Hp} (b:Nat) {g sz:Nat} {es:List V} (hb:lk h b = some (.row g sz es)) (hp:jid es = true) (hk:MvP K (fzF b g es fr) (fzH b g es h)):MvP K fr h
 | frzT {fr:Fr} {h:Hp} (b t:Nat) {g sz off len:Nat} {cap:Option Nat} {es:List V} (hb:lk h b = some (.row g sz es)) (hp:jid es = true) (ht:lk fr t = some (.ref b g off len cap)) (hl:off + len≤es.length) (hk:MvP K ((t,.sl ((es.drop off).take len) cap) :: fr) (h.filter fun p=>p.1 != b)):MvP K fr h
 | rev {fr:Fr} {h:Hp} (t:Nat) {b g off len:Nat} (ht:lk fr t = some (.ref b g off len none)) (hk:∀ c,len≤c->MvP K ((t,.ref b g off len (some c)) :: fr) h):MvP K fr h
theorem MvP.sound {K:Fr->Hp->Prop} (hk:MvP K fr h):∀ {G M},R bs n gl G M fr h a w->∃ fr' h' G' M',K fr' h'/\R bs n gl G' M' fr' h' a w/\Ext G M w G' M' w:=by
 induction hk with
 | done hk=>intro G M hr; exact ⟨_,_,G,M,hk,hr,.refl _ _ _⟩
 | frz b hb hp _ ih=>
  intro G M hr;obtain ⟨G1,M1,r1,x1⟩:=hr.frz hb hp;obtain ⟨fr',h',G',M',q1,q2,q3⟩:=ih r1;exact ⟨fr',h',G',M',q1,q2,x1.trans q3⟩
 | frzT b t hb hp ht hl _ ih=>
  intro G M hr;obtain ⟨G1,M1,r1,x1⟩:=hr.frzT hb hp ht hl;obtain ⟨fr',h',G',M',q1,q2,q3⟩:=ih r1;exact ⟨fr',h',G',M',q1,q2,x1.trans q3⟩
 | move b b' k hne hb _ ih=>
  intro G M hr;obtain ⟨M1,r1,x1⟩:=hr.move hne hb;obtain ⟨fr',h',G',M',q1,q2,q3⟩:=ih _ r1;exact ⟨fr',h',G',M',q1,q2,x1.trans q3⟩
 | rev t ht _ ih=>
  rename_i fr0 h0 b g off len hk0;intro G M hr;obtain ⟨ra,rcap,mb,he,hM,hg,hl,-,hh⟩:=qkd (hr.frr t _ ht);refine ih rcap hl (G:=G) (M:=M) ⟨hr.sim,fun t2 v h2=>?_,hr.sz,hr.df,hr.gl,hr.bs⟩;by_cases h3:t2 = t
  ·rw [h3] at h2 ⊢;have h4:lk ((t,V.ref b g off len (some rcap)) :: fr0) t = some (.ref b g off len (some rcap)):=by simp [lk]
   obtain rfl:=Option.some.inj (h4.symm.trans h2);rw [he];exact .ref _ _ _ _ _ _ _ mb hM hg hl (fun c hc=>by cases hc; rfl) hh
  ·rw [qb1 h3] at h2;exact hr.frr t2 v h2
inductive ExP (K:Fr->Hp->Prop) (fr:Fr) (h:Hp):Prop
 | mk (fr':Fr) (h':Hp) (hf:Sub fr' fr) (hh:Sub h' h) (hm:MvP K fr' h'):ExP K fr h
theorem jj0 {c:Code} {Q:IQ} (hk:IW P n gl c (fun e=>ExP (Q e)) fr h):IW P n gl c Q fr h:=by
 intro rd bs hn G M a w hr;refine wpIn_mono (hk rd bs hn G M a w hr) ?_;rintro e a' w' ⟨ie,G',M',fr',h',rfl,⟨fr1,h1,s1,s2,hm⟩,hr',hx'⟩;obtain ⟨fr2,h2,G2,M2,q1,q2,q3⟩:=hm.sound (hr'.weaken s1.spec s2.spec);exact ⟨ie,G2,M2,fr2,h2,rfl,q1,q2,hx'.trans q3⟩
theorem jjq {c:Code} {Q:IQ} {X:Type} (F:X->Fr) (H:X->Hp) (Inv:X->Prop) (mu:X->Nat)
  (h0:MvP (fun fr' h'=>∃ x0,Inv x0/\(∀ t v,lk (F x0) t = some v->lk fr' t = some v)/\∀ t v,lk (H x0) t = some v->lk h' t = some v) fr h)
  (round:∀ x,Inv x->IW P n gl c (ql3 (fun fr' h'=>MvP (fun fr2 h2=>∃ x',Inv x'/\(∀ t v,lk (F x') t = some v->lk fr2 t = some v)/\(∀ t v,lk (H x') t = some v->lk h2 t = some v)/\mu x' < mu x) fr' h') Q) (F x) (H x)):IW P n gl (.loop c) Q fr h:=by
 intro rd bs hn G M a w hr;intro b k cs hro hb hrm
 have key:∀ m x G1 M1 a1 w1,mu x = m->Inv x->R bs n gl G1 M1 (F x) (H x) a1 w1->Ext G M w G1 M1 w1->
   ∃ e a' w',Up bs n gl G M w Q e a' w'/\ArrivesIn (Machine.fenced P (FW rd)) P (lone (b.atR a1 (.code c :: .inLoop c :: k)) cs w1) b k cs e a' w':=by
  intro m
  induction m using Nat.strongRecOn with
  | _ m ih=>
   intro x G1 M1 a1 w1 hm hI hr1 hx1;obtain ⟨e,a2,w2,⟨ie,G2,M2,fr2,h2,rfl,hq,hr2,hx2⟩,harr⟩:=round x hI rd bs hn G1 M1 a1 w1 hr1 b (.inLoop c :: k) cs hro hb hrm
   cases ie with
   | normal=>
    obtain ⟨fr3,h3,G3,M3,⟨x',hI',hf',hh',hlt⟩,hr3,hx3⟩:=MvP.sound hq hr2;obtain ⟨e,a3,w3,hq3,harr3⟩:=ih (mu x') (hm ▸ hlt) x' G3 M3 a2 w2 rfl hI' (hr3.weaken hf' hh') ((hx1.trans hx2).trans hx3);exact ⟨e,a3,w3,hq3,.of_steps (StepsIn.trans harr (.one (fenced_calm hb hrm rfl) stepR_inLoop)) harr3⟩
   | exit id=>exact ⟨_,a2,w2,⟨.exit id,G2,M2,fr2,h2,rfl,hq,hr2,hx1.trans hx2⟩,.pass (x:=.inLoop c) rfl (fun _ _=>.inl (by simp [qb3.out])) harr⟩
   | goto l=>exact ⟨_,a2,w2,⟨.goto l,G2,M2,fr2,h2,rfl,hq,hr2,hx1.trans hx2⟩,.pass (x:=.inLoop c) rfl (fun _ _=>.inl (by simp [qb3.out])) harr⟩
   | ret=>exact ⟨_,a2,w2,⟨.ret,G2,M2,fr2,h2,rfl,hq,hr2,hx1.trans hx2⟩,.pass (x:=.inLoop c) rfl (fun _ _=>.inl (by simp [qb3.out])) harr⟩
 obtain ⟨fr0,h0',G0',M0',⟨x0,i0,hF,hH⟩,r0,x00⟩:=h0.sound hr;obtain ⟨e,a',w',hq,harr⟩:=key _ x0 G0' M0' a w rfl i0 (r0.weaken hF hH) x00;exact ⟨e,a',w',hq,.of_steps (.one (fenced_calm hb hrm rfl) stepR_loop) harr⟩
end
def qau (body:IQ->Fr->Hp->Prop) (Q:IQ) (fr:Fr) (h:Hp):Prop:=
 (∃ (X:Type) (F:X->Fr) (H:X->Hp) (Inv:X->Prop) (mu:X->Nat) (x0:X),Inv x0/\Sub (F x0) fr/\Sub (H x0) h/\
  ∀ x,Inv x->body (ql3 (fun fr' h'=>∃ x',Inv x'/\Sub (F x') fr'/\Sub (H x') h'/\mu x' < mu x) Q) (F x) (H x))∨
 (∃ (X:Type) (F:X->Fr) (H:X->Hp) (Inv:X->Prop) (mu:X->Nat),MvP (fun fr' h'=>∃ x0,Inv x0/\Sub (F x0) fr'/\Sub (H x0) h') fr h/\
  ∀ x,Inv x->body (ql3 (fun fr' h'=>MvP (fun fr2 h2=>∃ x',Inv x'/\Sub (F x') fr2/\Sub (H x') h2/\mu x' < mu x) fr' h') Q) (F x) (H x))∨
 ∃ (X:Type) (F:X->Fr) (H:X->Hp) (Inv:X->Prop) (mu:X->Nat),MvP (fun fr' h'=>∃ x0,Inv x0/\Sub (F x0) fr'/\Sub (H x0) h') fr h/\
  ∀ x,Inv x->body (ql3 (fun fr' h'=>MvP (fun fr2 h2=>∃ x',Inv x'/\Sub (F x') fr2/\Sub (H x') h2/\mu x' < mu x) fr' h') (fun e=>ExP (Q e))) (F x) (H x)
theorem MvP.mono {K K':Fr->Hp->Prop} (hk:∀ fr h,K fr h->K' fr h) {fr:Fr} {h:Hp} (hm:MvP K fr h):MvP K' fr h:=by
 induction hm with
 | done h=>exact .done (hk _ _ h)
 | move b b' k hne hb _ ih=>exact .move b b' k hne hb ih
 | frz b hb hp _ ih=>exact .frz b hb hp ih
 | frzT b t hb hp ht hl _ ih=>exact .frzT b t hb hp ht hl ih
 | rev t ht _ ih=>exact .rev t ht ih
end
end Go.Proofs.YtbbnmiaabmbheaaGreatDoor
