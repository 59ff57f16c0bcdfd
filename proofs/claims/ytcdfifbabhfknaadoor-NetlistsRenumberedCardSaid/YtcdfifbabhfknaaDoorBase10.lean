/- A run says what the model does. No program stands in it. Conditions: none. A run says what the model does: regions whose order is drawn. No program stands in it. Conditions: none. A run says what the model does: code, functions, contracts. No program stands in it. Conditions: none. -/
import Derived.Test.YtcdfifbabhfknaaDoorBase9
import Derived.Test.YtcdfifbabhfknaaDoorBase17
namespace Go.Proofs.YtcdfifbabhfknaaDoor
open Go
def XQ (bs n : Nat) (gl : Fr) (S : ES) (e : IExit) (S' : ES) (G : GMap) (M : MMap) (w : World) : Exit→Act→World→Prop:=fun ex a' w'=>
 ex = e.out∧∃ G' M' fr' hl',lk fr' = S'.fr.get∧lk hl' = S'.h.get∧R bs n gl G' M' fr' hl' a' w'∧Ext G M w G' M' w'∧∀ b,¬ (S.c ≤ b∧b < S'.c)→freshGen M b = 0→freshGen M' b = 0
def IWXg (ok : Bool) (wpf : Option Nat→(Exit→Act→World→Prop)→Act→World→Prop) (n : Nat) (gl : Fr) (S : ES) (e : IExit) (S' : ES) : Prop:=
 S.c ≤ S'.c∧∀ rd bs,(rd.isSome = true→ok = true)→∀ G M a w fr hl,lk fr = S.fr.get→lk hl = S.h.get→R bs n gl G M fr hl a w→(∀ b,S.c ≤ b→b < S'.c→freshGen M b = 0)→wpf rd (XQ bs n gl S e S' G M w) a w
theorem XQ.noOut {bs n : Nat} {gl : Fr} {S S' : ES} {e : IExit} {G : GMap} {M : MMap} {w : World} : ¬ LetsOut (XQ bs n gl S e S' G M w):=by
 rintro ⟨a,w',h,_⟩
 cases e <;> cases h
theorem XQ.trans {bs n : Nat} {gl : Fr} {S S1 S' : ES} {e : IExit} {G G1 : GMap} {M M1 : MMap} {w w1 : World} (hc1 : S.c ≤ S1.c) (hc2 : S1.c ≤ S'.c) (hx : Ext G M w G1 M1 w1) (hf : ∀ b,¬ (S.c ≤ b∧b < S1.c)→freshGen M b = 0→freshGen M1 b = 0)
  {ex : Exit} {a : Act} {w2 : World} (h : XQ bs n gl S1 e S' G1 M1 w1 ex a w2) : XQ bs n gl S e S' G M w ex a w2:=by
 obtain ⟨h1,G',M',fr',hl',h2,h3,h4,h5,h6⟩:=h
 exact ⟨h1,G',M',fr',hl',h2,h3,h4,hx.trans h5,fun b hb h0=>h6 b (fun hc=>hb ⟨by omega,hc.2⟩) (hf b (fun hc=>hb ⟨hc.1,by omega⟩) h0)⟩
section
variable {P : Program} {gl : Fr} {bs n : Nat} {rd : Option Nat} {ops : Array Oper} {cl : CallF} {yl : YldF}
theorem eob_bump (io : IOp) (c : Nat) : c ≤ bumpC io c:=by
 unfold bumpC; cases isPure io <;> simp
theorem seq_op (hcl : CallOk P gl cl) (hyl : YldOk P gl yl) (hops : ∀ d,(∃ o,o ∈ ops.toList∧o.dst = some d)→d < n) {i : Nat} {o : Oper} (ho : ops[i]? = some o) (hd : rd.isSome = true→isDefer o.op = false) {x : IOper} (hx : compOp P n ops o = some x) {S : ES} (hg : xgd S.fr.get x.guard = some true)
  {y : V × T Blk × Nat} (he : xop cl yl gl x.op S = some y) : S.c ≤ y.2.2∧∀ {fr : Fr} {hl : Hp} {G : GMap} {M : MMap} {a : Act} {w : World} {Q : Exit→Act→World→Prop} {K' : Act→World→Prop},lk fr = S.fr.get→lk hl = S.h.get→R bs n gl G M fr hl a w→(∀ b,S.c ≤ b→b < y.2.2→freshGen M b = 0)→
   (∀ rv G' M' hl' w',lk hl' = y.2.1.get→R bs n gl G' M' (putF fr o.dst y.1) hl' (a.put o.dst rv) w'→Ext G M w G' M' w'→(∀ b,¬ (S.c ≤ b∧b < y.2.2)→freshGen M b = 0→freshGen M' b = 0)→K' (a.put o.dst rv) w')→wpOpIn (FW rd) 0 P ops Q i K' a w:=by
 obtain ⟨c1,c2,c3,c4⟩:=compOp_spec hx
 unfold xop at he
 cases hac : asCall x.op with
 | some fa=>
  obtain ⟨f,as⟩:=fa
  rw [hac] at he
  simp only [] at he
  by_cases hown : ∃ b g,evF gl S.fr.get f = some (.own b g)
  ·obtain ⟨b,gg,hv⟩:=hown
   rw [hv] at he
   simp only [xyld] at he
   obtain ⟨vs,q2,h2⟩:=eb_some he
   obtain ⟨hcc,hrun⟩:=hyl b gg vs S.h S.c y.1 y.2.1 y.2.2 h2
   refine ⟨hcc,fun {fr hl G M a w Q K'} hF hH hr hid hk=>?_⟩
   unfold wpOpIn
   simp only [ho]
   rw [guard_wanted hops hr c2 (F:=S.fr.get) (fun t _=>by rw [hF]) hg,if_pos rfl]
   have hio:=asCall_some hac
   rw [hio] at c1
   obtain ⟨c,g,e1,e2,rfl,rfl⟩:=comp1_call c1
   rw [← hF,evF_lk] at hv
   rw [← hF,evsF_lk] at q2
   refine Oper.wpIn_mono ?_ (own_op hr e1 e2 hv q2 (Post:=fun rv w'=>∃ hl' G' M',lk hl' = y.2.1.get∧RelV G' M' y.1 rv∧Sim G' M' hl' w'∧Ext G M w G' M' w'∧∀ b,¬ (S.c ≤ b∧b < y.2.2)→freshGen M b = 0→freshGen M' b = 0) fun r0 ra k1 k2 k3=>hrun rd G M w hl r0 ra hH hr.sim hr.gl k1 k2 k3 hid)
   rintro a' w' ⟨rv,rfl,hl',G',M',k1,k2,k3,k4,k5⟩
   exact hk rv G' M' hl' w' k1 (hr.put c4 k2 k3 k4) k4 k5
  have he : (eb (xcallee gl S.fr.get f as) fun q=>cl q.1 q.2 S.h S.c) = some y:=by
   unfold xyld at he
   split at he
   ·rename_i b g hv; exact absurd ⟨b,g,hv⟩ hown
   ·exact he
  obtain ⟨q,h1,h2⟩:=eb_some he
  have hi:=hcl q.1 q.2 S.h S.c y.1 y.2.1 y.2.2 h2
  obtain ⟨hcal,hcc,hrun⟩:=hi
  refine ⟨hcc,fun {fr hl G M a w Q K'} hF hH hr hid hk=>?_⟩
  unfold wpOpIn
  simp only [ho]
  rw [guard_wanted hops hr c2 (F:=S.fr.get) (fun t _=>by rw [hF]) hg,if_pos rfl]
  have hio:=asCall_some hac
  rw [hio] at c1
  obtain ⟨c,g,e1,e2,rfl,rfl⟩:=comp1_call c1
  obtain ⟨fst,cap,vs,q1,q2,q3⟩:=xcallee_spec h1
  rw [← hF,evF_lk] at q1
  rw [← hF,evsF_lk] at q2
  refine Oper.wpIn_of hd (Oper.wp_mono ?_ (call_at hr e1 e2 q1 q2 hcal (Post:=fun rv w'=>∃ hl' G' M',lk hl' = y.2.1.get∧RelV G' M' y.1 rv∧Sim G' M' hl' w'∧Ext G M w G' M' w'∧∀ b,¬ (S.c ≤ b∧b < y.2.2)→freshGen M b = 0→freshGen M' b = 0) fun rargs hsz hrel=>?_))
  ·rintro a' w' ⟨rv,rfl,hl',G',M',k1,k2,k3,k4,k5⟩
   exact hk rv G' M' hl' w' k1 (hr.put c4 k2 k3 k4) k4 k5
  ·rw [← q3] at hsz hrel
   exact hrun G M w rargs hl hH hr.sim hr.gl hsz hrel hid
 | none=>
  rw [hac] at he
  simp only [] at he
  cases hns : nilS gl S.fr.get x.op with
  | true=>
   rw [hns,cond_true] at he
   cases he
   refine ⟨Nat.le_refl _,fun {fr hl G M a w Q K'} hF hH hr hid hk=>?_⟩
   unfold wpOpIn
   simp only [ho]
   rw [guard_wanted hops hr c2 (F:=S.fr.get) (fun t _=>by rw [hF]) hg,if_pos rfl]
   refine Oper.wpIn_of hd (Oper.wp_mono ?_ (nilS_sound (Q:=Q) hr c1 (by rw [hF]; exact hns)))
   rintro a' w' ⟨v,rv,q1,rfl,q3,rfl⟩
   subst q1
   exact hk rv G M hl w' hH (hr.put c4 q3 hr.sim (.refl _ _ _)) (.refl _ _ _) (fun _ _ h0=>h0)
  | false=>
  rw [hns,cond_false] at he
  obtain ⟨z,h1,h2⟩:=eb_some he
  obtain ⟨h',h3,h4⟩:=eb_some h2
  cases h4
  refine ⟨eob_bump _ _,fun {fr hl G M a w Q K'} hF hH hr hid hk=>?_⟩
  unfold wpOpIn
  simp only [ho]
  rw [guard_wanted hops hr c2 (F:=S.fr.get) (fun t _=>by rw [hF]) hg,if_pos rfl]
  rw [← hF,← hH] at h1
  cases hp : isPure x.op with
  | true=>
   obtain ⟨e1,e2⟩:=pure_sound (Q:=Q) hr c1 hp h1
   refine Oper.wpIn_of hd (Oper.wp_mono ?_ e2)
   rintro a' w' ⟨v,rv,q1,rfl,q3,rfl⟩
   subst q1
   refine hk rv G M hl w' ?_ (hr.put c4 q3 hr.sim (.refl _ _ _)) (.refl _ _ _) (fun _ _ h0=>h0)
   rw [putsT_get h3,e1,hH]; rfl
  | false=>
   have hb : bumpC x.op S.c = S.c + 1:=by simp [bumpC,hp]
   simp only [hb] at hid hk ⊢
   have hc0 : freshGen M S.c = 0:=hid S.c (Nat.le_refl _) (by omega)
   have he2 : eop gl (freshGen M) S.c (lk fr) (lk hl) x.op = some z:=eop_frame (fun t ht=>rfl) h1 (fun b hb=>rfl) (by rw [hc0,gfE_id]) (fun b hb k hk'=>gfE_fresh hr.sim hc0 hk' hk')
   refine Oper.wpIn_of hd (Oper.wp_mono ?_ (eop_sound hr c1 he2))
   rintro a' w' ⟨v,hh,rv,G',M',⟨rfl,rfl⟩,rfl,q3,q4,q5,q6⟩
   refine hk rv G' M' (z.2.1 ++ hl) w' (by rw [lk_append,hH,putsT_get h3]) (hr.put c4 q3 q4 q5) q5 (fun b hnb h0=>(q6 b (fun e=>hnb ⟨by omega,by omega⟩) (hr.sim.none_of_fresh h0)).trans h0)
theorem xops_sound (hcl : CallOk P gl cl) (hyl : YldOk P gl yl) (hd : ∀ (i : Nat) (o : Oper),ops[i]? = some o→rd.isSome = true→isDefer o.op = false) {all : List IOper} (hx : compOps P n ops ops.toList = some all) : ∀ (l : List IOper) (k : Nat),all.drop k = l→∀ {S S' : ES},xops cl yl gl l S = some S'→
  S.c ≤ S'.c∧∀ (Q : Exit→Act→World→Prop) G M a w fr hl,lk fr = S.fr.get→lk hl = S.h.get→R bs n gl G M fr hl a w→(∀ b,S.c ≤ b→b < S'.c→freshGen M b = 0)→(∀ a' w',XQ bs n gl S .normal S' G M w .normal a' w'→Q .normal a' w')→wpOpsIn (FW rd) 0 P ops Q (List.range' k (all.length - k)) a w
 | [],k,hk,S,S',he=>by
  simp only [xops,Option.some.injEq] at he; subst he
  refine ⟨Nat.le_refl _,fun Q G M a w fr hl hF hH hr hid hq=>?_⟩
  have : all.length - k = 0:=by have:=congrArg List.length hk; simpa using this
  rw [this]
  exact hq a w ⟨rfl,G,M,fr,hl,hF,hH,hr,.refl _ _ _,fun _ _ h0=>h0⟩
 | x :: l,k,hk,S,S',he=>by
  have hlen : all.length - k = l.length + 1:=by have:=congrArg List.length hk; simpa using this
  have hxk : all[k]? = some x:=by
   have:=congrArg (fun q : List IOper=>q[0]?) hk
   simpa using this
  have hkl : k < ops.toList.length:=by rw [← (compOps_spec hx).1]; exact (List.getElem?_eq_some_iff.1 hxk).1
  obtain ⟨x',hx1,hx2⟩:=(compOps_spec hx).2 k _ (List.getElem?_eq_getElem hkl)
  rw [hxk] at hx1; cases hx1
  have hok : ops[k]? = some ops.toList[k]:=by simp at hkl; simp [hkl]
  have hdrop : all.drop (k + 1) = l:=by rw [← List.tail_drop,hk]; rfl
  have hll : all.length - (k + 1) = l.length:=by omega
  obtain ⟨c1,c2,c3,c4⟩:=compOp_spec hx2
  simp only [xops] at he
  split at he
  ·rename_i hg
   obtain ⟨y,h1,h2⟩:=eb_some he
   obtain ⟨fr1,h3,h4⟩:=eb_some h2
   obtain ⟨i1,i2⟩:=xops_sound hcl hyl hd hx l (k + 1) hdrop h4
   obtain ⟨j1,j2⟩:=seq_op hcl hyl (dsts_lt hx) hok (hd k _ hok) hx2 hg h1
   refine ⟨Nat.le_trans j1 i1,fun Q G M a w fr hl hF hH hr hid hq=>?_⟩
   rw [hlen,List.range'_succ,wpOpsIn_cons]
   refine j2 hF hH hr (fun b b1 b2=>hid b b1 (by simp only [] at i1; omega)) fun rv G' M' hl' w' k1 k2 k3 k4=>?_
   have:=i2 Q G' M' (a.put ops.toList[k].dst rv) w' (putF fr ops.toList[k].dst y.1) hl' (by rw [lk_putF',hF,putT_get h3,c3]) k1 k2 (fun b b1 b2=>k4 b (fun hc=>by simp only [] at b1; omega) (hid b (by simp only [] at b1; omega) b2)) (fun a2 w2 hx2'=>hq a2 w2 (XQ.trans j1 i1 k3 k4 hx2'))
   rw [hll] at this
   exact this
  ·rename_i hg
   obtain ⟨fr1,h3,h4⟩:=eb_some he
   obtain ⟨i1,i2⟩:=xops_sound hcl hyl hd hx l (k + 1) hdrop h4
   refine ⟨i1,fun Q G M a w fr hl hF hH hr hid hq=>?_⟩
   rw [hlen,List.range'_succ,wpOpsIn_cons]
   unfold wpOpIn
   simp only [hok]
   rw [guard_wanted (dsts_lt hx) hr c2 (F:=S.fr.get) (fun t _=>by rw [hF]) hg,if_neg (by simp)]
   refine ⟨fun _ _=>trivial,?_⟩
   have:=i2 Q G M (a.put ops.toList[k].dst undef) w (putF fr ops.toList[k].dst (.tup [])) hl (by rw [lk_putF',hF,putT_get h3,c3]) hH (hr.put c4 (.tup [] #[] rfl (fun i hi=>by simp at hi)) hr.sim (.refl _ _ _)) hid hq
   rw [hll] at this
   exact this
  ·cases he
end
end Go.Proofs.YtcdfifbabhfknaaDoor
namespace Go.Proofs.YtcdfifbabhfknaaDoor
open Go
theorem st_shift {α : Type} {D : Nat→List (Nat × α)} {F0 : Nat→Option α} : ∀ k,st D all1 F0 (k + 1) = st (fun i=>D (i + 1)) all1 (ov (D 0) F0) k
 | 0=>by simp [st,all1]
 | k + 1=>by
  have ih:=st_shift (D:=D) (F0:=F0) k
  simp only [st,all1,if_true] at ih ⊢
  rw [ih]
def DvL (lo : List Oper) (vs : Nat→V) (i : Nat) : Fr:=match lo[i]? with
 | some o=>dD o.dst (vs i)
 | none=>[]
theorem ov_dD (F : FF) (d : Option Nat) (v : V) : ov (dD d v) F = Fput' F d v:=by
 cases d with
 | none=>funext t; simp [dD,ov,Fput',lk]
 | some d=>
  funext t
  simp only [dD,ov,Fput',upd,lk]
  by_cases h : t = d <;> simp [h]
section
variable {P : Program} {gl : Fr} {bs n : Nat} {ops : Array Oper} {cl : CallF}
structure RegData (P : Program) (gl : Fr) (n : Nat) (ops : Array Oper) (lo : List Oper) (lx : List IOper) (S S' : ES) (fps : List (List Nat × List Nat)) (vs : Nat→V) (Ws : Nat→Hp) (rd : Nat→List Nat) (cs : Nat→Nat) : Prop where
 c0 : cs 0 = S.c
 cn : cs lo.length = S'.c
 mono : ∀ i,i < lo.length→cs i ≤ cs (i + 1)
 fr : S'.fr.get = st (DvL lo vs) all1 S.fr.get lo.length
 h : S'.h.get = st Ws all1 S.h.get lo.length
 len : fps.length = lo.length
 fp : ∀ i,i < lo.length→fps.getD i ([],[]) = ((Ws i).map (·.1),rd i)
 pure : ∀ i x,lx[i]? = some x→(isPure x.op = true→Ws i = [])∧(touches x.op = false→Ws i = []∧rd i = [])
 y : ∀ i o,lo[i]? = some o→∀ j,ops[j]? = some o→YieldS P gl n ops j o (st (DvL lo vs) all1 S.fr.get i) (st Ws all1 S.h.get i) (fun b=>b ∈ rd i) (fun b=>cs i ≤ b∧b < cs (i + 1)) (vs i) (Ws i)
def shift {α : Type} (x : α) (f : Nat→α) : Nat→α
 | 0=>x
 | i + 1=>f i
theorem RegData.cons {o : Oper} {x : IOper} {lo : List Oper} {lx : List IOper} {S S1 S' : ES} {fps : List (List Nat × List Nat)} {vs : Nat→V} {Ws : Nat→Hp} {rd : Nat→List Nat} {cs : Nat→Nat} (d : RegData P gl n ops lo lx S1 S' fps vs Ws rd cs)
  {v : V} {W : Hp} {r : List Nat} (hc : S.c ≤ S1.c) (hf : S1.fr.get = ov (dD o.dst v) S.fr.get) (hh : S1.h.get = ov W S.h.get) (hp : (isPure x.op = true→W = [])∧(touches x.op = false→W = []∧r = []))
  (hy : ∀ j,ops[j]? = some o→YieldS P gl n ops j o S.fr.get S.h.get (fun b=>b ∈ r) (fun b=>S.c ≤ b∧b < S1.c) v W) :
  RegData P gl n ops (o :: lo) (x :: lx) S S' ((W.map (·.1),r) :: fps) (shift v vs) (shift W Ws) (shift r rd) (shift S.c cs):=by
 have eD : (fun i=>DvL (o :: lo) (shift v vs) (i + 1)) = DvL lo vs:=by funext i; simp [DvL,shift]
 have eW : (fun i=>shift W Ws (i + 1)) = Ws:=by funext i; rfl
 have e0 : DvL (o :: lo) (shift v vs) 0 = dD o.dst v:=by simp [DvL,shift]
 have sF : ∀ k,st (DvL (o :: lo) (shift v vs)) all1 S.fr.get (k + 1) = st (DvL lo vs) all1 S1.fr.get k:=fun k=>by rw [st_shift,eD,e0,hf]
 have sH : ∀ k,st (shift W Ws) all1 S.h.get (k + 1) = st Ws all1 S1.h.get k:=fun k=>by rw [st_shift,eW,hh]; rfl
 refine ⟨rfl,d.cn,fun i hi=>?_,by rw [List.length_cons,sF]; exact d.fr,by rw [List.length_cons,sH]; exact d.h,by simp [d.len],fun i hi=>?_,fun i x' hx'=>?_,fun i o' ho' j hj=>?_⟩
 ·cases i with
  | zero=>show S.c ≤ cs 0; rw [d.c0]; exact hc
  | succ i=>exact d.mono i (by simpa using hi)
 ·cases i with
  | zero=>rfl
  | succ i=>simpa [shift] using d.fp i (by simpa using hi)
 ·cases i with
  | zero=>simp at hx'; subst hx'; exact hp
  | succ i=>exact d.pure i x' (by simpa using hx')
 ·cases i with
  | zero=>
   simp at ho'; subst ho'
   have : (fun b=>shift S.c cs 0 ≤ b∧b < shift S.c cs (0 + 1)) = fun b=>S.c ≤ b∧b < S1.c:=by funext b; simp only [shift,d.c0]
   rw [this]
   intro bs fr h G M a w Q K' h1 h2 h3 h4 h5
   exact hy j hj h1 h2 h3 h4 h5
  | succ i=>
   rw [sF,sH]
   intro bs fr h G M a w Q K' h1 h2 h3 h4 h5
   exact d.y i o' (by simpa using ho') j hj h1 h2 h3 h4 h5
theorem xregs_data (hcl : CallOk P gl cl) (hops : ∀ d,(∃ o,o ∈ ops.toList∧o.dst = some d)→d < n) : ∀ (lo : List Oper) (lx : List IOper),compOps P n ops lo = some lx→slotsIn ops lo lx = true→∀ {S S' : ES} {fps : List (List Nat × List Nat)},xregs cl gl lx S = some (S',fps)→
  ∃ vs Ws rd cs,RegData P gl n ops lo lx S S' fps vs Ws rd cs
 | [],lx,hc,_,S,S',fps,he=>by
  simp [compOps] at hc; subst hc
  simp only [xregs,Option.some.injEq,Prod.mk.injEq] at he
  obtain ⟨rfl,rfl⟩:=he
  exact ⟨fun _=>.undef,fun _=>[],fun _=>[],fun _=>S.c,rfl,rfl,fun i hi=>(by simp at hi),rfl,rfl,rfl,fun i hi=>(by simp at hi),fun i x hx=>(by simp at hx),fun i o ho=>(by simp at ho)⟩
 | o :: lo,lx,hc,hsl,S,S',fps,he=>by
  simp only [compOps] at hc
  split at hc
  ·rename_i x l' hx hl
   cases hc
   simp only [slotsIn,Bool.and_eq_true,List.all_eq_true] at hsl
   obtain ⟨hs1,hs2⟩:=hsl
   have hslot : ∀ t ∈ x.op.slots,t ∈ o.looksAt ops:=fun t ht=>by simpa using hs1 t ht
   obtain ⟨c1,c2,c3,c4⟩:=compOp_spec hx
   simp only [xregs] at he
   split at he
   ·rename_i hg
    obtain ⟨y,h1,h2⟩:=eb_some he
    obtain ⟨fr1,h3,h4⟩:=eb_some h2
    obtain ⟨hh1,h5,h6⟩:=eb_some h4
    obtain ⟨z,h7,h8⟩:=eb_some h6
    simp only [Option.some.injEq,Prod.mk.injEq] at h8
    obtain ⟨e1,e2⟩:=h8
    subst e1 e2
    obtain ⟨vs,Ws,rd,cs,d⟩:=xregs_data hcl hops lo l' hl hs2 (S':=z.1) (fps:=z.2) h7
    have hfr : fr1.get = ov (dD o.dst y.1) S.fr.get:=by rw [ov_dD,putT_get h3,c3]
    have hhh : hh1.get = ov y.2.1 S.h.get:=putsT_get h5
    unfold xopR at h1
    cases hac : asCall x.op with
    | none=>
     rw [hac] at h1
     simp only [] at h1
     obtain ⟨q,k1,k2⟩:=eb_some h1
     cases k2
     refine ⟨_,_,_,_,d.cons (v:=q.1) (W:=q.2.1) (r:=q.2.2) (eob_bump _ _) hfr hhh ⟨fun hp=>?_,fun ht=>?_⟩ fun j hj=>yield_op hops hj hx hslot hg k1⟩
     ·exact pure_writes hp k1
     ·exact ⟨pure_writes (touches_pure ht) k1,pure_reads ht k1⟩
    | some fa=>
     obtain ⟨f,as⟩:=fa
     rw [hac] at h1
     simp only [] at h1
     obtain ⟨q,k1,k2⟩:=eb_some h1
     unfold xcallR at k2
     simp only [] at k2
     obtain ⟨k3,k4⟩:=gd_some k2
     obtain ⟨hr,k5,k6⟩:=eb_some k4
     obtain ⟨zz,k7,k8⟩:=eb_some k6
     obtain ⟨k9,k10⟩:=gd_some k8
     cases k10
     simp only [Bool.and_eq_true] at k3
     have hi:=hcl q.1 q.2 hr S.c zz.1 zz.2.1 zz.2.2 k7
     rw [cutT_get k5] at hi
     have hio:=asCall_some hac
     refine ⟨_,_,_,_,d.cons (v:=zz.1) (S:=S) hi.2.1 hfr hhh ⟨fun hp=>?_,fun ht=>?_⟩ fun j hj=>?_⟩
     ·rw [hio] at hp; cases hp
     ·rw [hio] at ht; cases ht
     ·intro bs fr h G M a w Q K' hrr hF hH hid hk
      unfold wpOp
      simp only [hj]
      rw [guard_wanted hops hrr c2 hF hg,if_pos rfl]
      refine .inl ?_
      rw [hio] at c1 hslot
      obtain ⟨c,g,e1,e2,rfl,rfl⟩:=comp1_call c1
      obtain ⟨fst,cap,vs',q1,q2,q3⟩:=xcallee_spec k1
      rw [← evF_congr (F':=lk fr) (fun t ht=>hF t (hslot t (by simp only [IOp.slots,List.mem_append]; exact .inl ht))),evF_lk] at q1
      rw [← evsF_congr (F':=lk fr) (fun t ht=>hF t (hslot t (by simp only [IOp.slots,List.mem_append]; exact .inr ht))),evsF_lk] at q2
      refine Oper.wp_mono ?_ (call_at hrr e1 e2 q1 q2 hi.1 (Post:=fun rv w'=>∃ G' M',RelV G' M' zz.1 rv∧Sim G' M' ((diffT S.h.get zz.2.1.get (reach S.h.get 100000 (V.idsL q.2 []) []) ++ diffT S.h.get zz.2.1.get (upTo S.c (zz.2.2 - S.c))) ++ h) w'∧Ext G M w G' M' w'∧∀ b,¬ (S.c ≤ b∧b < zz.2.2)→freshGen M b = 0→freshGen M' b = 0) fun rargs hsz hrel=>?_)
      ·rintro a' w' ⟨rv,rfl,G',M',m1,m2,m3,m4⟩
       exact hk rv G' M' w' (hrr.put c4 m1 m2 m3) m3 m4
      ·rw [← q3] at hsz hrel
       exact frame_call hrr.sim k3.1 k3.2 (fun b hb=>hH b hb) hi k9 hrr.gl hid rargs hsz hrel
   ·rename_i hg
    obtain ⟨fr1,h3,h4⟩:=eb_some he
    obtain ⟨z,h7,h8⟩:=eb_some h4
    simp only [Option.some.injEq,Prod.mk.injEq] at h8
    obtain ⟨e1,e2⟩:=h8
    subst e1 e2
    obtain ⟨vs,Ws,rd,cs,d⟩:=xregs_data hcl hops lo l' hl hs2 (S':=z.1) (fps:=z.2) h7
    have hfr : fr1.get = ov (dD o.dst (.tup [])) S.fr.get:=by rw [ov_dD,putT_get h3,c3]
    exact ⟨_,_,_,_,d.cons (v:=.tup []) (W:=[]) (r:=[]) (S:=S) (Nat.le_refl _) hfr rfl ⟨fun _=>rfl,fun _=>⟨rfl,rfl⟩⟩ fun j hj=>yield_skip hops hj hx hg⟩
   ·cases he
  ·cases hc
where
 pure_writes {gl : Fr} {gf : Nat→Nat} {id : Nat} {F : FF} {H : HH} {io : IOp} (hp : isPure io = true) {y : Y} (he : eop gl gf id F H io = some y) : y.2.1 = []:=by
  cases io <;> simp only [isPure,Bool.false_eq_true] at hp <;> simp only [eop] at he
  case mv x=>obtain ⟨v,h1,h2⟩:=eb_some he; cases h2; rfl
  case pick c x z=>
   split at he
   ·rename_i t hc
    cases t <;> (simp only [] at he; obtain ⟨v,h1,h2⟩:=eb_some he; cases h2; rfl)
   ·cases he
  case build z ps=>
   obtain ⟨l,h1,h2⟩:=eb_some he
   obtain ⟨cs,h3,h4⟩:=eb_some h2
   cases h4; rfl
  case load ag m x=>
   split at he
   ·obtain ⟨h1,h2⟩:=gd_some he; cases h2; rfl
   ·split at he
    ·obtain ⟨h1,h2⟩:=gd_some he; cases h2; rfl
    ·cases he
   ·cases he
  case bin op x z=>
   split at he
   ·obtain ⟨v,h1,h2⟩:=eb_some he; cases h2; rfl
   ·cases he
  case eqs neg m x z=>
   split at he
   ·obtain ⟨h1,h2⟩:=gd_some he; cases h2; rfl
   ·cases he
  case beq neg x z=>split at he <;> first | (cases he; rfl) | cases he
  case un op x=>
   obtain ⟨v,h1,h2⟩:=eb_some he
   obtain ⟨v',h3,h4⟩:=eb_some h2
   cases h4; rfl
  case conv k x=>split at he <;> first | (cases he; rfl) | cases he
  case mkfn f x z=>split at he <;> first | (cases he; rfl) | cases he
  case slice sz x lo hi mx=>
   split at he
   ·obtain ⟨l,h1,he⟩:=eb_some he
    obtain ⟨u,h2,he⟩:=eb_some he
    obtain ⟨m,h3,he⟩:=eb_some he
    obtain ⟨h4,he⟩:=gd_some he
    cases he; rfl
   ·split at he
    ·obtain ⟨h0,he⟩:=gd_some he
     obtain ⟨l,h1,he⟩:=eb_some he
     obtain ⟨u,h2,he⟩:=eb_some he
     obtain ⟨m,h3,he⟩:=eb_some he
     obtain ⟨h4,he⟩:=gd_some he
     cases he; rfl
    ·cases he
   ·cases he
  case sliceS x lo hi=>
   split at he
   ·obtain ⟨l,h1,he⟩:=eb_some he
    obtain ⟨u,h2,he⟩:=eb_some he
    obtain ⟨h4,he⟩:=gd_some he
    cases he; rfl
   ·cases he
  case fieldA off x=>split at he <;> first | (cases he; rfl) | cases he
  case field ag off m x=>
   split at he
   ·obtain ⟨h1,h2⟩:=gd_some he; cases h2; rfl
   ·cases he
  case idxA sz x z=>
   split at he
   ·obtain ⟨h1,h2⟩:=gd_some he; cases h2; rfl
   ·split at he
    ·obtain ⟨h1,h2⟩:=gd_some he; cases h2; rfl
    ·cases he
   ·cases he
  case idxP len sz x z=>
   split at he
   ·obtain ⟨h1,h2⟩:=gd_some he; cases h2; rfl
   ·obtain ⟨h1,h2⟩:=gd_some he; cases h2; rfl
   ·cases he
  case idxV ag len sz x z=>
   split at he
   ·obtain ⟨h1,h2⟩:=gd_some he; cases h2; rfl
   ·cases he
  case idxS x z=>
   split at he
   ·obtain ⟨h1,h2⟩:=gd_some he; cases h2; rfl
   ·cases he
  case len x=>split at he <;> first | (cases he; rfl) | cases he
  case lenS x=>split at he <;> first | (cases he; rfl) | cases he
  case lenK m=>cases he; rfl
  case cap x=>split at he <;> first | (cases he; rfl) | cases he
  case mm mx x z=>split at he <;> first | (cases he; rfl) | cases he
  case extract x i=>
   split at he
   ·obtain ⟨v,h1,h2⟩:=eb_some he; cases h2; rfl
   ·cases he
  case cvs x=>split at he <;> first | (cases he; rfl) | cases he
  case b2s x=>
   obtain ⟨v,h1,h2⟩:=eb_some he
   obtain ⟨es,h3,h4⟩:=eb_some h2
   obtain ⟨s,h5,h6⟩:=eb_some h4
   cases h6; rfl
  case n x=>
   cases x <;> simp only [NOp.pure,Bool.false_eq_true] at hp <;> simp only [nop] at he
   case bad=>cases he
   case isnil neg x=>
    split at he
    ·cases he; rfl
    ·cases he; rfl
    ·split at he
     ·obtain ⟨h1,h2⟩:=gd_some he; cases h2; rfl
     ·cases he
    ·cases he
   case lookup kd ok z m k=>
    split at he
    ·split at he
     ·obtain ⟨h1,h2⟩:=gd_some he
      split at h2
      ·cases h2; rfl
      ·cases h2; rfl
      ·cases h2
     ·cases he
    ·obtain ⟨h1,h2⟩:=gd_some he; cases h2; rfl
    ·cases he
   case nchk x=>split at he <;> first | (cases he; rfl) | cases he
   case mentry x=>
    split at he
    ·split at he
     ·split at he
      ·split at he
       ·obtain ⟨h1,h2⟩:=gd_some he; cases h2; rfl
       ·cases he
      ·cases he
     ·cases he
    ·cases he
   case idxByte s c=>
    split at he
    ·obtain ⟨h1,h2⟩:=gd_some he; cases h2; rfl
    ·cases he
   case add64 x y z=>
    split at he
    ·obtain ⟨h1,h2⟩:=gd_some he; cases h2; rfl
    ·cases he
theorem slotInd_spec {x y : Oper} (h : slotInd ops x y = true) : SlotInd ops x y:=by
 simp only [slotInd,Bool.and_eq_true] at h
 obtain ⟨h1,h2⟩:=h
 refine ⟨fun t ht hd=>?_,fun t ht hd=>?_,fun t hd hd'=>?_⟩
 ·rw [hd] at h1
  simp only [Bool.and_eq_true,Bool.not_eq_true',List.contains_eq_mem,decide_eq_false_iff_not] at h1
  exact h1.1 ht
 ·rw [hd] at h2
  simp only [Bool.not_eq_true',List.contains_eq_mem,decide_eq_false_iff_not] at h2
  exact h2 ht
 ·rw [hd] at h1
  simp only [Bool.and_eq_true,bne_iff_ne,ne_eq] at h1
  exact h1.2 hd'
theorem lk_keys {α : Type} {W : List (Nat × α)} {b : Nat} (h : b ∉ W.map (·.1)) : lk W b = none:=by
 induction W with
 | nil=>rfl
 | cons p r ih=>
  obtain ⟨k,v⟩:=p
  simp only [List.map_cons,List.mem_cons,not_or] at h
  simp only [lk,if_neg h.1,ih h.2]
theorem indF_spec {W W' : Hp} {r r' : List Nat} (h : indF (W.map (·.1),r) (W'.map (·.1),r') = true) : HeapInd W W' (fun b=>b ∈ r) (fun b=>b ∈ r'):=by
 simp only [indF,Bool.and_eq_true,List.all_eq_true,Bool.not_eq_true'] at h
 obtain ⟨h1,h2⟩:=h
 have nm : ∀ {b : Nat} {l : List Nat},memN b l = false→b ∉ l:=fun hb hm=>by rw [memN_iff.2 hm] at hb; cases hb
 refine ⟨fun b=>?_,fun b hb=>?_,fun b hb=>?_⟩
 ·by_cases hm : b ∈ W.map (·.1)
  ·exact .inr (lk_keys (nm (h1 b hm).1))
  ·exact .inl (lk_keys hm)
 ·refine lk_keys fun hm=>nm (h1 b hm).2 hb
 ·refine lk_keys fun hm=>nm (h2 b hm) hb
theorem chkOf_mem {an : List Nat} {l : List IOper} {i j : Nat} {x y : IOper} (hij : i < j) (hi : l[i]? = some x) (hj : l[j]? = some y) (hb : bd an i j = false) (hc : clash x.op y.op = true) : (i,j) ∈ chkOf an l:=by
 have hjl : j < l.length:=(List.getElem?_eq_some_iff.1 hj).1
 simp only [chkOf,List.mem_flatMap,List.mem_range,List.mem_filterMap]
 refine ⟨j,hjl,i,hij,?_⟩
 simp only [hi,hj,hb,hc,Bool.not_false,Bool.and_true,cond_true]
theorem reg_sound (hcl : CallOk P gl cl) {id : Nat} {x : XC} (hx : compReg P n ops = some x) : ∃ l chk,x = .reg l chk∧∀ {S S' : ES} {fps : List (List Nat × List Nat)},xregs cl gl l S = some (S',fps)→indAll fps chk = true→
    IWXg (noR (.region id ops true)) (fun rd Q a w=>(Code.region id ops true).wpIn (FW rd) 0 P Q a w) n gl S .normal S':=by
  unfold compReg at hx
  split at hx
  · cases hx
  · rename_i all hall
    split at hx
    · rename_i hcond
      obtain ⟨hm,hback,hslots,hpairs,-⟩:=hcond
      cases hx
      refine ⟨_,_,rfl,fun {S S' fps} he hind=>?_⟩
      obtain ⟨vs,Ws,rd,cs,d⟩:=xregs_data hcl (dsts_lt hall) ops.toList all hall hslots he
      have hlen : ops.toList.length = ops.size:=by simp
      have hall_len:=(compOps_spec hall).1
      have cmono : ∀ j,j ≤ ops.size→∀ i,i ≤ j→cs i ≤ cs j:=by
        intro j
        induction j with
        | zero => intro _ i hi; obtain rfl : i = 0 := by omega
                  exact Nat.le_refl _
        | succ j ih=>
          intro hj i hi
          by_cases h : i = j + 1
          · rw [h]; exact Nat.le_refl _
          · exact Nat.le_trans (ih (by omega) i (by omega)) (d.mono j (by omega))
      have hSS : S.c ≤ S'.c:=by rw [← d.c0,← d.cn]; exact cmono _ (by omega) 0 (by omega)
      refine ⟨hSS,fun rd0 bs hn G M a w fr hl hF hH hr hid=>?_⟩
      refine wpIn_region_any hm (wpAnyIn_of (noR_ops hn) XQ.noOut ?_)
      have hDv : DvL ops.toList vs = Dv ops vs:=by funext i; simp [DvL,Dv]; rfl
      have idsb : ∀ i b,i < ops.size∧(cs i ≤ b∧b < cs (i + 1))→S.c ≤ b∧b < S'.c:=fun i b ⟨h1,h2,h3⟩=>by
        have q1:=cmono i (by omega) 0 (by omega)
        have q2:=cmono ops.size (by omega) (i + 1) (by omega)
        have q3:=d.cn
        rw [hlen] at q3
        rw [← d.c0,← q3]; omega
      refine region_any (P:=P) (gl:=gl) (bs:=bs) (n:=n) (vs:=vs) (Ws:=Ws) (rd:=fun i b=>b ∈ rd i) (ids:=fun i b=>i < ops.size∧(cs i ≤ b∧b < cs (i + 1))) (F0:=S.fr.get) (H0:=S.h.get) hback ?_ ?_ ?_ ?_ (G0:=G) (M0':=M) (w0:=w) ?_
        ops.size (Array.replicate ops.size false) fr hl G M a _ (by simp) ?_ ?_ ?_ ?_ Ext.drawn ?_ (fun b _ h0=>h0) ?_
      · intro i o ho
        have hi : i < ops.size:=(Array.getElem?_eq_some_iff.1 ho).1
        have hyy : YieldS P gl n ops i o (st (Dv ops vs) all1 S.fr.get i) (st Ws all1 S.h.get i) (fun b=>b ∈ rd i) (fun b=>cs i ≤ b∧b < cs (i + 1)) (vs i) (Ws i):=by
          rw [← hDv]
          intro bs fr h G M a w Q K' h1 h2 h3 h4 h5
          exact d.y i o (by simpa using ho) i ho h1 h2 h3 h4 h5
        intro bs fr h G M a w Q K' h1 h2 h3 h4 h5
        exact hyy h1 h2 h3 (fun b hb=>h4 b ⟨hi,hb⟩) (fun rv G' M' w' k1 k2 k3=>h5 rv G' M' w' k1 k2 (fun b hb h0=>k3 b (fun hc=>hb ⟨hi,hc⟩) h0))
      · intro i j oi oj hij hoi hoj hb
        have hj : j < ops.size:=(Array.getElem?_eq_some_iff.1 hoj).1
        simp only [pairsOk,List.all_eq_true,List.mem_range,Bool.or_eq_true] at hpairs
        rcases hpairs j hj i hij with h | h
        · rw [hb] at h; cases h
        · rw [hoi,hoj] at h; exact slotInd_spec h
      · intro i j hij hj hb
        have hxi : all[i]? = some (all[i]'(by omega)):=List.getElem?_eq_getElem (by omega)
        have hxj : all[j]? = some (all[j]'(by omega)):=List.getElem?_eq_getElem (by omega)
        cases hc : clash (all[i]'(by omega)).op (all[j]'(by omega)).op with
        | true=>
          have hmem:=chkOf_mem hij hxi hxj hb hc
          have:=List.all_eq_true.1 hind _ hmem
          rw [d.fp i (by omega),d.fp j (by omega)] at this
          exact indF_spec this
        | false=>
          simp only [clash,Bool.or_eq_false_iff,Bool.and_eq_false_iff,Bool.not_eq_false'] at hc
          obtain ⟨h1,h2⟩:=hc
          have pi:=d.pure i _ hxi
          have pj:=d.pure j _ hxj
          have key : (Ws i = []∧Ws j = [])∨(Ws i = []∧rd i = [])∨(Ws j = []∧rd j = []):=by
            rcases h1 with h1 | h1
            · rcases h2 with h2 | h2
              · exact .inr (.inl (pi.2 h2))
              · exact .inl ⟨pi.1 h1,pj.1 h2⟩
            · exact .inr (.inr (pj.2 h1))
          rcases key with ⟨e1,e2⟩ | ⟨e1,e2⟩ | ⟨e1,e2⟩
          · rw [e1,e2]; exact ⟨fun _=>.inl rfl,fun _ _=>rfl,fun _ _=>rfl⟩
          · rw [e1]; exact ⟨(fun _=>.inl rfl),(fun _ _=>rfl),(fun b hb=>by simp only [e2] at hb; cases hb)⟩
          · rw [e1]; exact ⟨(fun _=>.inr rfl),(fun b hb=>by simp only [e2] at hb; cases hb),(fun _ _=>rfl)⟩
      · rintro i j b hij ⟨h1,h2,h3⟩ ⟨h4,h5,h6⟩
        rcases Nat.lt_or_gt_of_ne hij with h | h
        · have:=cmono j (by omega) (i + 1) (by omega); omega
        · have:=cmono i (by omega) (j + 1) (by omega); omega
      · intro fr' h' G' M' a' w' e1 e2 e3 e4 e5
        refine ⟨rfl,G',M',fr',h',?_,?_,e3,e4,fun b hb h0=>e5 b (fun i hi=>hb (idsb i b hi)) h0⟩
        · rw [e1,d.fr,hDv,hlen]
        · rw [e2,d.h,hlen]
      · intro x y h1
        by_cases hx : x < ops.size <;> simp [hx] at h1
      · rw [hF]
        funext t
        rw [st_above ops.size (Nat.zero_le _) fun j _ h2 _=>by simp [h2]]
        rfl
      · rw [hH]
        funext t
        rw [st_above ops.size (Nat.zero_le _) fun j _ h2 _=>by simp [h2]]
        rfl
      · exact ⟨hr.sim.drawn,hr.frr,hr.sz,hr.df.ext (Ext.drawn (G:=G)),hr.gl,hr.bs⟩
      · intro i _ b hb
        have:=idsb i b hb
        exact hid b this.1 this.2
      · unfold unl
        exact Nat.le_trans List.countP_le_length (by simp)
    · cases hx
end
end Go.Proofs.YtcdfifbabhfknaaDoor
namespace Go.Proofs.YtcdfifbabhfknaaDoor
open Go
def wpL (rd : Option Nat) (P : Program) (c : Code) (Q : Exit→Act→World→Prop) (a : Act) (w : World) : Prop:=
 ∀ (b : Frame) k cs,b.roundOf = rd→∃ e a' w',Q e a' w'∧ArrivesIn (Machine.fenced P (FW rd)) P (lone (b.atR a (.code c :: .inLoop c :: k)) cs w) b k cs e a' w'
section
variable {rd : Option Nat} {P : Program} {gl : Fr} {bs n : Nat}
theorem wpL_wp {c : Code} {Q : Exit→Act→World→Prop} {a : Act} {w : World} (h : wpL rd P c Q a w) : (Code.loop c).wpIn (FW rd) 0 P Q a w:=by
 intro b k cs hro hb hrm
 obtain ⟨e,a',w',hq,harr⟩:=h b k cs hro
 exact ⟨e,a',w',hq,.of_steps (.one (fenced_calm hb hrm rfl) stepR_loop) harr⟩
def loopQ (rd : Option Nat) (P : Program) (c : Code) (Q : Exit→Act→World→Prop) : Exit→Act→World→Prop
 | .normal,a,w=>wpL rd P c Q a w
 | e,a,w=>Q e a w
theorem wpL_mono {c : Code} {Q Q' : Exit→Act→World→Prop} {a : Act} {w : World} (h : wpL rd P c Q a w) (hq : ∀ e a w,Q e a w→Q' e a w) : wpL rd P c Q' a w:=by
 intro b k cs hro
 obtain ⟨e,a',w',h1,h2⟩:=h b k cs hro
 exact ⟨e,a',w',hq _ _ _ h1,h2⟩
theorem wpL_step {c : Code} {Q : Exit→Act→World→Prop} {a : Act} {w : World} (hp : ∀ a w ch,¬ Q (.panic ch) a w) (ho : ∀ a w,¬ Q .outgrown a w) (h : c.wpIn (FW rd) 0 P (loopQ rd P c Q) a w) : wpL rd P c Q a w:=by
 intro b k cs hro
 obtain ⟨e,a2,w2,hq,harr⟩:=h b (.inLoop c :: k) cs hro trivial (FW_room _ _)
 cases e with
 | normal=>
  obtain ⟨e,a3,w3,hq3,harr3⟩:=hq b k cs hro
  exact ⟨e,a3,w3,hq3,.of_steps (StepsIn.trans harr (.one (fenced_calm (F:=FW rd) (n:=0) trivial (FW_room _ _) rfl) stepR_inLoop)) harr3⟩
 | exit id=>exact ⟨_,a2,w2,hq,.pass (x:=.inLoop c) rfl (fun _ _=>.inl (by simp)) harr⟩
 | goto l=>exact ⟨_,a2,w2,hq,.pass (x:=.inLoop c) rfl (fun _ _=>.inl (by simp)) harr⟩
 | ret=>exact ⟨_,a2,w2,hq,.pass (x:=.inLoop c) rfl (fun _ _=>.inl (by simp)) harr⟩
 | panic ch=>exact absurd hq (hp _ _ _)
 | outgrown=>exact absurd hq (ho _ _)
def FiOk (P : Program) (f : FuncId) (fi : FnI) : Prop:=
 ∃ fn body,P.funcs[f]? = some fn∧fn.body = some body∧fn.name ≠ "runtime.NumGoroutine" ∧ fn.ntmps = fi.n∧compRess P fn.results.toList = some fi.rs∧compX P fi.n body = some fi.code
def FTok (P : Program) (FT : Nat→Option FnI) : Prop:=∀ f fi,FT f = some fi→FiOk P f fi
def T.allP {α : Type} (p : Nat→α→Prop) : T α→(Nat→Nat)→Prop
 | .lf,_=>True
 | .nd v l r,k=>(match v with | some x=>p (k 0) x | none=>True)∧l.allP p (fun n=>k (2 * n + 1))∧r.allP p (fun n=>k (2 * n + 2))
theorem T.allP_get {α : Type} {p : Nat→α→Prop} : ∀ {t : T α} {k : Nat→Nat},t.allP p k→∀ {n : Nat} {x : α},t.get n = some x→p (k n) x
 | .lf,k,_,n,x,h=>by simp [T.get] at h
 | .nd v l r,k,ha,n,x,h=>by
  obtain ⟨h1,h2,h3⟩:=ha
  simp only [T.get] at h
  by_cases h0 : n = 0
  ·subst h0
   simp only [Nat.beq,cond_true] at h
   rw [h] at h1; exact h1
  ·rw [nbeq_ne h0] at h
   simp only [cond_false] at h
   by_cases hm : n % 2 = 1
   ·have : Nat.beq (n % 2) 1 = true:=by rw [hm]; rfl
    rw [this] at h
    simp only [cond_true] at h
    have:=T.allP_get h2 h
    simp only [show 2 * (n / 2) + 1 = n by omega] at this
    exact this
   ·rw [nbeq_ne hm] at h
    simp only [cond_false] at h
    have:=T.allP_get h3 h
    simp only [show 2 * (n / 2 - 1) + 2 = n by omega] at this
    exact this
theorem FTok.of_all {P : Program} {t : T FnI} (h : t.allP (FiOk P) (fun n=>n)) : FTok P t.get:=fun _ _ hf=>T.allP_get h hf
theorem argT_get : ∀ {args : List V} {i : Nat} {t : T V},argT i args = some t→t.get = lk (argF i args)
 | [],i,t,h=>by simp only [argT,Option.some.injEq] at h; subst h; funext b; simp [T.get,argF,lk]
 | v :: r,i,t,h=>by
  simp only [argT] at h
  obtain ⟨t1,h1,h2⟩:=eb_some h
  rw [T.put_get h2,argT_get h1]
  funext x
  simp only [upd,argF,lk]
theorem resO_W {fr : Fr} {hl : Hp} : ∀ {rs : List IRes} {vs : List V} {K : List V→Prop},resO (lk fr) (lk hl) rs = some vs→K vs→resW fr hl K rs
 | [],vs,K,h,hk=>by simp only [resO,Option.some.injEq] at h; subst h; exact hk
 | .tmp t :: r,vs,K,h,hk=>by
  simp only [resO] at h
  obtain ⟨v,h1,h2⟩:=eb_some h
  obtain ⟨vs',h3,h4⟩:=eb_some h2
  cases h4
  simp only [resW,h1]
  exact resO_W h3 hk
 | .cell t ag m :: r,vs,K,h,hk=>by
  simp only [resO] at h
  split at h
  ·rename_i b g i off ht
   split at h
   ·rename_i g' sz es hb
    obtain ⟨h1,h2⟩:=gd_some h
    obtain ⟨vs',h3,h4⟩:=eb_some h2
    cases h4
    simp only [Bool.and_eq_true,decide_eq_true_eq] at h1
    simp only [resW,ht,hb]
    exact ⟨h1.1.1,h1.1.2,V.partOkB_iff.1 h1.2,resO_W h3 hk⟩
   ·cases h
  ·cases h
theorem results_at {fn : Func} {rs : List IRes} {G : GMap} {M : MMap} {fr : Fr} {hl : Hp} {a : Act} {w : World} (hr : R bs n gl G M fr hl a w) (hres : compRess P fn.results.toList = some rs) {vs : List V} (hv : resO (lk fr) (lk hl) rs = some vs) :
  ∃ r,RelV G M (oneV vs) r∧(results fn a.tmps).run P w = .ok r w:=by
 obtain ⟨vs',rvs,k1,k2,k3,k4⟩:=resW_sound (P:=P) hr hres (resO_W (K:=fun x=>x = vs) hv rfl)
 subst k1
 have hmap : (fn.results.mapM (fun x=>match x with
   | .tmp t=>pure (a.tmps.getD t undef)
   | .cell ad t=>do loadVar t (← asAddr (a.tmps.getD ad undef)) : ResultVar→Sem Value)).run P w = .ok rvs.toArray w:=by
  rw [← Array.toArray_toList (xs:=fn.results),List.mapM_toArray]
  simp only [Sem.run_map]
  exact congrArg (fun q : Result (List Value)=>q.andThen fun a w'=>Result.ok a.toArray w') k4
 have hrun : (results fn a.tmps).run P w = .ok (if h : rvs.toArray.size = 1 then rvs.toArray[0] else .tuple rvs.toArray) w:=by
  unfold results
  rw [Sem.run_bind]
  exact congrArg (fun q : Result (Array Value)=>q.andThen fun vs w=>(pure (if h : vs.size = 1 then vs[0] else .tuple vs) : Sem Value).run P w) hmap
 match vs',rvs,k2,k3,hrun with
 | [v],[r],_,k3,hrun=>exact ⟨r,k3 0 (by simp),by rw [hrun]; rfl⟩
 | [],[],k2,k3,hrun=>exact ⟨_,.tup [] #[] rfl (fun i hi=>by simp at hi),by rw [hrun]; rfl⟩
 | v1 :: v2 :: vs,r1 :: r2 :: rs,k2,k3,hrun=>
  refine ⟨.tuple (r1 :: r2 :: rs).toArray,.tup _ _ (by simpa using k2) (fun i hi=>?_),by rw [hrun,dif_neg (by simp)]⟩
  have:=k3 i hi
  rw [getD_toArray]; exact this
theorem callX_ok {FT : Nat→Option FnI} (hFT : FTok P FT) {rec : XC→ES→Option (IExit × ES)}
  (ih : ∀ (n : Nat) (c : Code) (x : XC) (S : ES) (e : IExit) (S' : ES),compX P n c = some x→rec x S = some (e,S')→IWXg (noR c) (fun rd Q a w=>c.wpIn (FW rd) 0 P Q a w) n gl S e S') : CallOk P gl (callX FT rec):=by
 intro f args h c v h' c' he
 unfold callX at he
 obtain ⟨fi,h1,he⟩:=eb_some he
 obtain ⟨h2,he⟩:=gd_some he
 obtain ⟨fr0,h3,he⟩:=eb_some he
 obtain ⟨fn,body,f1,f2,f3,f4,f5,f6⟩:=hFT f fi h1
 have key : ∀ (e : IExit) (S : ES),rec fi.code ⟨fr0,h,c⟩ = some (e,S)→(e = .normal∨e = .ret)→(eb (resO S.fr.get S.h.get fi.rs) fun vs=>some (oneV vs,S.h,S.c)) = some (v,h',c')→ICallE P gl f args h.get c v h'.get c':=by
  intro e S hrec hee hres
  obtain ⟨vs,r1,r2⟩:=eb_some hres
  simp only [Option.some.injEq,Prod.mk.injEq] at r2
  obtain ⟨rfl,rfl,rfl⟩:=r2
  obtain ⟨i1,i2⟩:=ih fi.n body fi.code ⟨fr0,h,c⟩ e S f6 hrec
  refine ⟨by simp [callable,f1,f2,f3],i1,fun G M w rargs hl hH hs hgl hsz hrel hid=>?_⟩
  refine callsIn_FW.1 (callsIn_of_wp_marks (F:=FW none) (n:=0) f1 f2 trivial (wpIn_mono (i2 none w.heap.size (fun h=>nomatch h) G M _ w (argF 0 args) hl (argT_get h3).symm hH ⟨hs,fun t u ht=>?_,?_,trivial,hgl,Nat.le_refl _⟩ hid) ?_))
  ·obtain ⟨-,q2,q3⟩:=lk_argF args 0 t u ht
   rw [Nat.sub_zero] at q2 q3
   have : (rargs ++ Array.replicate (fn.ntmps - rargs.size) undef).getD t undef = rargs.getD t undef:=by
    simp only [Array.getD_eq_getD_getElem?,Array.getElem?_append]
    rw [if_pos (by omega)]
   rw [this,← q3]; exact hrel t q2
  ·have:=Nat.le_of_ble_eq_true h2
   simp [f4]; omega
  ·rintro ex ⟨tm,df⟩ w1 ⟨rfl,G',M',fr',hl',e1,e2,hr1,hx1,hf⟩
   obtain ⟨w',hr,hx,hlv⟩:=hr1.leave hx1
   let a' : Act:=⟨tm,[]⟩
   rw [← e1,← e2] at r1
   obtain ⟨r,q1,q2⟩:=results_at (P:=P) hr f5 r1
   have fin : ∃ v,(results fn a'.tmps).run P w' = .ok v w'∧∃ rv,Ending.returned v = .returned rv∧∃ hl' G' M',lk hl' = S.h.get∧RelV G' M' (oneV vs) rv∧Sim G' M' hl' w'∧Ext G M w G' M' w'∧∀ b,¬ (c ≤ b∧b < S.c)→freshGen M b = 0→freshGen M' b = 0:=
    ⟨r,q2,r,rfl,hl',G',M',e2,q1,hr.sim,hx,hf⟩
   rcases hee with rfl | rfl
   ·exact hlv P _ _ fn _ fin
   ·exact hlv P _ _ fn _ fin
 split at he
 ·rename_i S hrec; exact key .normal S hrec (.inl rfl) he
 ·rename_i S hrec; exact key .ret S hrec (.inr rfl) he
 ·cases he
theorem listT_get : ∀ {l : Fr} {t : T V},listT l = some t→t.get = lk l
 | [],t,h=>by simp only [listT,Option.some.injEq] at h; subst h; funext b; simp [T.get,lk]
 | (k,v) :: r,t,h=>by
  simp only [listT] at h
  obtain ⟨t1,h1,h2⟩:=eb_some h
  rw [T.put_get h2,listT_get h1]
  funext x
  simp only [upd,lk]
theorem T.list_mem {α : Type} : ∀ {t : T α} {k : Nat→Nat} {i : Nat} {x : α},(i,x) ∈ t.list k→∃ n,i = k n∧t.get n = some x
 | .lf,_,_,_,h=>by simp [T.list] at h
 | .nd v l r,k,i,x,h=>by
  simp only [T.list,List.mem_append] at h
  rcases h with (h | h) | h
  ·cases v with
   | none=>simp at h
   | some y=>simp at h; exact ⟨0,h.1,by simp [T.get,h.2]⟩
  ·obtain ⟨n,h1,h2⟩:=T.list_mem h
   refine ⟨2 * n + 1,h1,?_⟩
   have e1 : Nat.beq (2 * n + 1) 0 = false:=nbeq_ne (by omega)
   have e2 : Nat.beq ((2 * n + 1) % 2) 1 = true:=by rw [show (2 * n + 1) % 2 = 1 by omega]; rfl
   simp only [T.get,e1,e2,cond_true,cond_false,show (2 * n + 1) / 2 = n by omega]
   exact h2
  ·obtain ⟨n,h1,h2⟩:=T.list_mem h
   refine ⟨2 * n + 2,h1,?_⟩
   have e1 : Nat.beq (2 * n + 2) 0 = false:=nbeq_ne (by omega)
   have e2 : Nat.beq ((2 * n + 2) % 2) 1 = false:=nbeq_ne (by omega)
   simp only [T.get,e1,e2,cond_false,show (2 * n + 2) / 2 - 1 = n by omega]
   exact h2
theorem lk_mem' {α : Type} : ∀ {l : List (Nat × α)} {t : Nat} {v : α},lk l t = some v→(t,v) ∈ l
 | [],t,v,h=>by simp [lk] at h
 | (k,x) :: r,t,v,h=>by
  simp only [lk] at h
  split at h
  ·rename_i e; cases h; subst e; exact List.mem_cons_self
  ·exact List.mem_cons_of_mem _ (lk_mem' h)
theorem T.list_lk {t : T V} {i : Nat} {x : V} (h : lk (t.list fun n=>n) i = some x) : t.get i = some x:=by
 obtain ⟨n,h1,h2⟩:=T.list_mem (lk_mem' h)
 rw [h1]; exact h2
theorem yldX_ok {rec : XC→ES→Option (IExit × ES)}
  (ih : ∀ (n : Nat) (c : Code) (x : XC) (S : ES) (e : IExit) (S' : ES),compX P n c = some x→rec x S = some (e,S')→IWXg (noR c) (fun rd Q a w=>c.wpIn (FW rd) 0 P Q a w) n gl S e S') : YldOk P gl (yldX P rec):=by
 intro b g vs h c v h' c' he
 unfold yldX at he
 split at he
 case h_2=>cases he
 rename_i g' m frl ps asg body hb
 obtain ⟨c1,he1⟩:=gd_some he
 simp only [Bool.and_eq_true] at c1
 obtain ⟨⟨⟨⟨c1,c2⟩,c3⟩,c4⟩,c5⟩:=c1
 have hgg : g' = g:=nbeq_eq c1
 rw [hgg] at hb
 obtain ⟨xa,hxa,he2⟩:=eb_some he1
 obtain ⟨xb,hxb,he3⟩:=eb_some he2
 obtain ⟨fr0,hfr,he4⟩:=eb_some he3
 clear he he1 he2 he3 hgg c1
 unfold yldA at he4
 split at he4
 case h_2=>cases he4
 rename_i S1 hA
 split at he4
 case h_2=>cases he4
 rename_i g1 m1 fr1 ps1 as1 b1 hb1
 obtain ⟨d1,he5⟩:=gd_some he4
 have hg1 : g1 = g:=nbeq_eq d1
 rw [hg1] at hb1 he5
 obtain ⟨h1,hp1,he6⟩:=eb_some he5
 clear he4 he5 d1 hg1
 unfold yldB at he6
 split at he6
 case h_2=>cases he6
 rename_i S2 hB
 split at he6
 case h_2=>cases he6
 rename_i g2 m2 fr2 ps2 a2 b2 hb2
 obtain ⟨d2,he7⟩:=gd_some he6
 simp only [Bool.and_eq_true] at d2
 have hg2 : g2 = g:=nbeq_eq d2.1
 rw [hg2] at hb2 he7
 obtain ⟨h2,hp2,he8⟩:=eb_some he7
 clear he6 he7 hg2
 simp only [Option.some.injEq,Prod.mk.injEq] at he8
 obtain ⟨rfl,rfl,rfl⟩:=he8
 obtain ⟨i1,i2⟩:=ih m asg xa ⟨fr0,h,c⟩ .normal S1 hxa hA
 obtain ⟨j1,j2⟩:=ih m body xb ⟨S1.fr,h1,S1.c⟩ .normal S2 hxb hB
 simp only [] at i1 j1
 refine ⟨Nat.le_trans i1 j1,fun rd G M w hl r0 ra hH hs hgl hr0 hsz hrel hid=>?_⟩
 have key:=round_core (P:=P) (rd:=rd) (KK:=fun _ M' hp=>lk hp = h2.get∧∀ b,¬ (c ≤ b∧b < S2.c)→freshGen M b = 0→freshGen M' b = 0) (asg:=asg) (body:=body) (frl:=frl) (m:=m) (ps:=ps) hs hgl (by rw [hH]; exact hb) hr0 hsz hrel (nbeq_eq c2) (fun t ht=>by
   have:=List.all_eq_true.1 c5 t ht
   exact Nat.lt_of_succ_le (Nat.le_of_ble_eq_true this)) (fun l a hr=>by
  refine wpIn_mono (i2 (some l) w.heap.size (fun _=>c3) G M a w _ hl (listT_get hfr).symm hH hr (fun b b1 b2=>hid b b1 (by (try simp only [] at b2); omega))) ?_
  rintro e a1 w1 ⟨rfl,G1,M1,frx,hpx,e1,e2,hr1,hx1,hf1⟩
  refine ⟨rfl,G1,M1,frx,hpx,m1,fr1,ps1,as1,b1,hr1,hx1,by rw [e2]; exact hb1,fun w2 hr2 hx2=>?_⟩
  have hH2 : lk ((b,Blk.loop g m1 fr1 ps1 as1 b1 true) :: hpx) = h1.get:=by
   rw [T.put_get hp1,← e2]; funext x; simp only [lk,upd]
  refine wpIn_mono (j2 (some l) w.heap.size (fun _=>c4) G1 M1 a1 w2 frx _ e1 hH2 hr2 (fun b b1 b2=>hf1 b (fun hc=>by (try simp only [] at b1 b2 hc); omega) (hid b (by (try simp only [] at b1); omega) b2))) ?_
  rintro e ac w3 ⟨rfl,G2,M2,fry,hpy,k1,k2,hr3,hx3,hf2⟩
  refine ⟨rfl,G2,M2,hpy,m2,fr2,ps2,a2,b2,hr3.sim,hx2.trans hx3,by rw [k2]; exact hb2,?_,fun b hb h0=>hf2 b (fun hc=>hb ⟨by (try simp only [] at hc); omega,hc.2⟩) (hf1 b (fun hc=>hb ⟨hc.1,by (try simp only [] at hc); omega⟩) h0)⟩
  rw [T.put_get hp2,← k2]; funext x; simp only [lk,upd])
 obtain ⟨l,fn,tmps,asg',body',e1,e2,e3⟩:=key
 refine ⟨l,fn,tmps,asg',body',e1,e2,RoundIn.mono e3 ?_⟩
 rintro e w' ⟨rfl,G',M',hp,⟨q1,q2⟩,q3,q4⟩
 exact ⟨_,rfl,hp,G',M',q1,.bool _,q3,q4,q2⟩
theorem rngX_ok {cl : CallF} (hcl : CallOk P gl cl) {f : Operand} {ps : Array Tmp} {asg body : Code} {S S' : ES} {e : IExit} (he : rngX cl n ps.toList asg body S (evF gl S.fr.get (co f)) = some (e,S')) :
  IWXg (noR (.rangeFunc f ps asg body)) (fun rd Q a w=>(Code.rangeFunc f ps asg body).wpIn (FW rd) 0 P Q a w) n gl S e S':=by
 unfold rngX at he
 split at he
 case h_2=>cases he
 rename_i fid fst cap hf
 obtain ⟨h1,hp1,he⟩:=eb_some he
 obtain ⟨z,hz,he⟩:=eb_some he
 split at he
 case h_2=>cases he
 rename_i m1 fr1 ps1 a1 b1 hb1
 obtain ⟨h2,hp2,he⟩:=eb_some he
 simp only [Option.some.injEq,Prod.mk.injEq] at he
 obtain ⟨rfl,rfl⟩:=he
 obtain ⟨hcal,hcc,hrun⟩:=hcl _ _ _ _ z.1 z.2.1 z.2.2 hz
 refine ⟨by simp only []; omega,fun rd bs hn G M a w fr hl hF hH hr hid=>?_⟩
 simp only [] at hid
 cases rd with
 | some l=>exact absurd (hn rfl) (by simp [noR])
 | none=>
 have hg0 : freshGen M S.c = 0:=hid S.c (Nat.le_refl _) (by omega)
 rw [← hF,evF_lk] at hf
 refine wpIn_mono (rng_core (P:=P) (KK:=fun _ M' hp=>lk hp = h2.get∧∀ b,¬ (S.c ≤ b∧b < z.2.2)→freshGen M b = 0→freshGen M' b = 0) hr S.c (S.fr.list fun n=>n) (fun t v ht=>by rw [hF]; exact T.list_lk ht) hf hcal fun mb w1 rargs hmb hs1 hgl hsz hrel=>?_) ?_
 ·rw [hg0] at hs1 hsz hrel
  have hM1 : ∀ b,b ≠ S.c→freshGen (upd M S.c mb) b = freshGen M b:=fun b hb=>by simp only [freshGen,upd_ne _ _ hb]
  refine Calls.mono (hrun G (upd M S.c mb) w1 rargs _ (by rw [T.put_get hp1,← hH]; funext x; simp only [lk,upd]) hs1 hgl hsz hrel (fun b b1 b2=>by rw [hM1 b (by omega)]; exact hid b (by omega) b2)) ?_
  rintro e w' ⟨rv,rfl,hl',G',M',e1,e2,e3,e4,e5⟩
  refine ⟨rv,G',M',hl',m1,fr1,ps1,a1,b1,rfl,by rw [e1,hg0]; exact hb1,⟨?_,fun b hb h0=>?_⟩,e3,e4⟩
  ·rw [T.put_get hp2,← e1,hg0]; funext x; simp only [lk,upd]
  ·refine e5 b (fun hc=>hb ⟨by omega,hc.2⟩) ?_
   by_cases hbc : b = S.c
   ·exact absurd ⟨by omega,by omega⟩ hb
   ·rw [hM1 b hbc]; exact h0
 ·rintro e a' w' ⟨rfl,G',M',hp,⟨q1,q2⟩,q3,q4⟩
  exact ⟨rfl,G',M',fr,hp,hF,q1,q3,q4,q2⟩
theorem XQ.refl {S S' : ES} {e : IExit} {G : GMap} {M : MMap} {a : Act} {w : World} {fr : Fr} {hl : Hp} (hF : lk fr = S.fr.get) (hH : lk hl = S.h.get) (hr : R bs n gl G M fr hl a w) (h1 : S' = S) : XQ bs n gl S e S' G M w e.out a w:=by
 subst h1
 exact ⟨rfl,G,M,fr,hl,hF,hH,hr,.refl _ _ _,fun _ _ h0=>h0⟩
theorem exec_sound {FT : Nat→Option FnI} (hFT : FTok P FT) : ∀ (m n : Nat) (c : Code) (x : XC) (S : ES) (e : IExit) (S' : ES),compX P n c = some x→exec P FT gl m x S = some (e,S')→
  IWXg (noR c) (fun rd Q a w=>c.wpIn (FW rd) 0 P Q a w) n gl S e S'∧∀ c0,c = .loop c0→IWXg (noR c0) (fun rd Q a w=>wpL rd P c0 Q a w) n gl S e S':=by
 intro m
 induction m with
 | zero=>intro n c x S e S' _ he; simp [exec] at he
 | succ m ih=>
  intro n c x S e S' hx he
  have ihA : ∀ (n : Nat) (c : Code) (x : XC) (S : ES) (e : IExit) (S' : ES),compX P n c = some x→exec P FT gl m x S = some (e,S')→IWXg (noR c) (fun rd Q a w=>c.wpIn (FW rd) 0 P Q a w) n gl S e S':=fun n c x S e S' h1 h2=>(ih n c x S e S' h1 h2).1
  have hcl : CallOk P gl (callX FT (exec P FT gl m)):=callX_ok hFT ihA
  have hyl : YldOk P gl (yldX P (exec P FT gl m)):=yldX_ok ihA
  simp only [exec] at he
  -- no panic, no outgrowing
  have nopanic : ∀ {bs : Nat} {S : ES} {e : IExit} {S' : ES} {G : GMap} {M : MMap} {w : World} (a : Act) (w2 : World) (ch : _),¬ XQ bs n gl S e S' G M w (.panic ch) a w2:=fun a w2 ch hq=>by
   have:=hq.1
   rename_i e0 _ _ _ _
   cases e0 <;> cases this
  have nogrow : ∀ {bs : Nat} {S : ES} {e : IExit} {S' : ES} {G : GMap} {M : MMap} {w : World} (a : Act) (w2 : World),¬ XQ bs n gl S e S' G M w .outgrown a w2:=fun a w2 hq=>by
   have:=hq.1
   rename_i e0 _ _ _ _
   cases e0 <;> cases this
  cases c with
  | skip=>
   cases hx
   simp only [step,Option.some.injEq,Prod.mk.injEq] at he
   obtain ⟨rfl,rfl⟩:=he
   exact ⟨⟨Nat.le_refl _,fun rd bs hn G M a w fr hl hF hH hr _=>wpIn_skip (XQ.refl hF hH hr rfl)⟩,fun c0 h=>by cases h⟩
  | label l=>
   cases hx
   simp only [step,Option.some.injEq,Prod.mk.injEq] at he
   obtain ⟨rfl,rfl⟩:=he
   exact ⟨⟨Nat.le_refl _,fun rd bs hn G M a w fr hl hF hH hr _=>wpIn_label (XQ.refl hF hH hr rfl)⟩,fun c0 h=>by cases h⟩
  | exit id=>
   cases hx
   simp only [step,Option.some.injEq,Prod.mk.injEq] at he
   obtain ⟨rfl,rfl⟩:=he
   exact ⟨⟨Nat.le_refl _,fun rd bs hn G M a w fr hl hF hH hr _=>wpIn_exit (XQ.refl (e:=.exit id) hF hH hr rfl)⟩,fun c0 h=>by cases h⟩
  | goto l=>
   cases hx
   simp only [step,Option.some.injEq,Prod.mk.injEq] at he
   obtain ⟨rfl,rfl⟩:=he
   exact ⟨⟨Nat.le_refl _,fun rd bs hn G M a w fr hl hF hH hr _=>wpIn_goto (XQ.refl (e:=.goto l) hF hH hr rfl)⟩,fun c0 h=>by cases h⟩
  | ret=>
   cases hx
   simp only [step,Option.some.injEq,Prod.mk.injEq] at he
   obtain ⟨rfl,rfl⟩:=he
   exact ⟨⟨Nat.le_refl _,fun rd bs hn G M a w fr hl hF hH hr _=>wpIn_ret (XQ.refl hF hH hr rfl)⟩,fun c0 h=>by cases h⟩
  | region id ops draw=>
   refine ⟨?_,fun c0 h=>by cases h⟩
   simp only [compX] at hx
   cases draw with
   | false=>
    simp only [] at hx
    cases hall : compOps P n ops ops.toList with
    | none=>rw [hall] at hx; cases hx
    | some l=>
     rw [hall] at hx
     cases hx
     simp only [step] at he
     obtain ⟨S1,h1,h2⟩:=eb_some he
     simp only [Option.some.injEq,Prod.mk.injEq] at h2
     obtain ⟨rfl,rfl⟩:=h2
     have hxs:=fun rd bs hd=>xops_sound (rd:=rd) (bs:=bs) hcl hyl hd hall l 0 rfl h1
     refine ⟨(hxs none 0 (fun _ _ _ h=>nomatch h)).1,fun rd bs hn G M a w fr hl hF hH hr hid=>wpIn_region ?_⟩
     have hl' : l.length = ops.size:=by have:=(compOps_spec hall).1; simpa using this
     have:=(hxs rd bs (noR_ops hn)).2 (XQ bs n gl S .normal S1 G M w) G M a w fr hl hF hH hr hid (fun a' w' hq=>hq)
     rw [Nat.sub_zero,hl',← List.range_eq_range'] at this
     exact this
   | true=>
    simp only [] at hx
    obtain ⟨l,chk,rfl,hreg⟩:=reg_sound hcl (id:=id) hx
    simp only [step] at he
    obtain ⟨z,h1,h2⟩:=eb_some he
    obtain ⟨h3,h4⟩:=gd_some h2
    simp only [Option.some.injEq,Prod.mk.injEq] at h4
    obtain ⟨rfl,rfl⟩:=h4
    exact hreg h1 h3
  | seq c1 c2=>
   refine ⟨?_,fun c0 h=>by cases h⟩
   simp only [compX] at hx
   split at hx
   ·rename_i x1 x2 hx1 hx2
    cases hx
    simp only [step] at he
    split at he
    ·rename_i S1 h1
     obtain ⟨i1,i2⟩:=ihA n c1 x1 S .normal S1 hx1 h1
     obtain ⟨j1,j2⟩:=ihA n c2 x2 S1 e S' hx2 he
     refine ⟨Nat.le_trans i1 j1,fun rd bs hn G M a w fr hl hF hH hr hid=>?_⟩
     have hn':=fun h=>Bool.and_eq_true_iff.1 (hn h)
     refine wpIn_seq (wpIn_mono (i2 rd bs (fun h=>(hn' h).1) G M a w fr hl hF hH hr (fun b b1 b2=>hid b b1 (by omega))) ?_)
     rintro ex a1 w1 ⟨rfl,G1,M1,fr1,hl1,e1,e2,hr1,hx1',hf1⟩
     exact wpIn_mono (j2 rd bs (fun h=>(hn' h).2) G1 M1 a1 w1 fr1 hl1 e1 e2 hr1 (fun b b1 b2=>hf1 b (fun hc=>by omega) (hid b (by omega) b2))) fun ex a2 w2 hq=>XQ.trans i1 j1 hx1' hf1 hq
    ·rename_i hne
     obtain ⟨i1,i2⟩:=ihA n c1 x1 S e S' hx1 he
     refine ⟨i1,fun rd bs hn G M a w fr hl hF hH hr hid=>?_⟩
     refine wpIn_seq (wpIn_mono (i2 rd bs (fun h=>(Bool.and_eq_true_iff.1 (hn h)).1) G M a w fr hl hF hH hr hid) ?_)
     rintro ex a1 w1 hq
     cases e with
     | normal=>exact absurd he (hne S')
     | exit id=>obtain ⟨rfl,hq2⟩:=hq; exact ⟨rfl,hq2⟩
     | goto l=>obtain ⟨rfl,hq2⟩:=hq; exact ⟨rfl,hq2⟩
     | ret=>obtain ⟨rfl,hq2⟩:=hq; exact ⟨rfl,hq2⟩
   ·cases hx
  | cond cd c1 c2=>
   refine ⟨?_,fun c0 h=>by cases h⟩
   simp only [compX] at hx
   split at hx
   ·rename_i x1 x2 hx1 hx2
    cases hx
    simp only [step] at he
    split at he
    ·rename_i t ht
     cases t with
     | true=>
      obtain ⟨i1,i2⟩:=ihA n c1 x1 S e S' hx1 he
      refine ⟨i1,fun rd bs hn G M a w fr hl hF hH hr hid=>wpIn_cond_true ?_ (i2 rd bs (fun h=>(Bool.and_eq_true_iff.1 (hn h)).1) G M a w fr hl hF hH hr hid)⟩
      rw [← hF,evF_lk] at ht
      exact relV_bool_inv (ev_co hr ht)
     | false=>
      obtain ⟨i1,i2⟩:=ihA n c2 x2 S e S' hx2 he
      refine ⟨i1,fun rd bs hn G M a w fr hl hF hH hr hid=>wpIn_cond_false ?_ (i2 rd bs (fun h=>(Bool.and_eq_true_iff.1 (hn h)).2) G M a w fr hl hF hH hr hid)⟩
      rw [← hF,evF_lk] at ht
      exact relV_bool_inv (ev_co hr ht)
    ·cases he
   ·cases hx
  | block id c1=>
   refine ⟨?_,fun c0 h=>by cases h⟩
   simp only [compX] at hx
   split at hx
   ·rename_i x1 hx1
    cases hx
    simp only [step] at he
    split at he
    ·rename_i id' S1 h1
     obtain ⟨i1,i2⟩:=ihA n c1 x1 S (.exit id') S1 hx1 h1
     cases hb : Nat.beq id' id with
     | true=>
      rw [hb] at he
      simp only [cond_true,Option.some.injEq,Prod.mk.injEq] at he
      obtain ⟨rfl,rfl⟩:=he
      refine ⟨i1,fun rd bs hn G M a w fr hl hF hH hr hid=>wpIn_block (wpIn_mono (i2 rd bs hn G M a w fr hl hF hH hr hid) ?_)⟩
      rintro ex a1 w1 ⟨rfl,hq⟩
      simp only [IExit.out,Exit.inBlock]
      rw [if_pos (nbeq_eq hb)]
      exact ⟨rfl,hq⟩
     | false=>
      rw [hb] at he
      simp only [cond_false,Option.some.injEq,Prod.mk.injEq] at he
      obtain ⟨rfl,rfl⟩:=he
      refine ⟨i1,fun rd bs hn G M a w fr hl hF hH hr hid=>wpIn_block (wpIn_mono (i2 rd bs hn G M a w fr hl hF hH hr hid) ?_)⟩
      rintro ex a1 w1 ⟨rfl,hq⟩
      simp only [IExit.out,Exit.inBlock]
      rw [if_neg (fun h=>by subst h; rw [Nat.beq_refl] at hb; cases hb)]
      exact ⟨rfl,hq⟩
    ·rename_i hne
     obtain ⟨i1,i2⟩:=ihA n c1 x1 S e S' hx1 he
     refine ⟨i1,fun rd bs hn G M a w fr hl hF hH hr hid=>wpIn_block (wpIn_mono (i2 rd bs hn G M a w fr hl hF hH hr hid) ?_)⟩
     rintro ex a1 w1 ⟨rfl,hq⟩
     cases e with
     | exit id'=>exact absurd he (hne id' S')
     | normal=>exact ⟨rfl,hq⟩
     | goto l=>exact ⟨rfl,hq⟩
     | ret=>exact ⟨rfl,hq⟩
   ·cases hx
  | scope c1=>
   refine ⟨?_,fun c0 h=>by cases h⟩
   simp only [compX] at hx
   split at hx
   ·rename_i x1 hx1
    cases hx
    simp only [step] at he
    split at he
    ·cases he
    ·rename_i hne
     obtain ⟨i1,i2⟩:=ihA n c1 x1 S e S' hx1 he
     refine ⟨i1,fun rd bs hn G M a w fr hl hF hH hr hid=>wpIn_scope (wpIn_mono (i2 rd bs hn G M a w fr hl hF hH hr hid) ?_)⟩
     rintro ex a1 w1 ⟨rfl,hq⟩
     cases e with
     | goto l=>exact absurd he (hne l S')
     | normal=>exact ⟨rfl,hq⟩
     | exit id=>exact ⟨rfl,hq⟩
     | ret=>exact ⟨rfl,hq⟩
   ·cases hx
  | loop c1=>
   have peeled : IWXg (noR c1) (fun rd Q a w=>wpL rd P c1 Q a w) n gl S e S':=by
    have hxl:=hx
    simp only [compX] at hx
    split at hx
    ·rename_i x1 hx1
     cases hx
     simp only [step] at he
     split at he
     ·rename_i S1 h1
      obtain ⟨i1,i2⟩:=ihA n c1 x1 S .normal S1 hx1 h1
      obtain ⟨j1,j2⟩:=(ih n (.loop c1) (.loop x1) S1 e S' hxl he).2 c1 rfl
      refine ⟨Nat.le_trans i1 j1,fun rd bs hn G M a w fr hl hF hH hr hid=>?_⟩
      refine wpL_step nopanic nogrow (wpIn_mono (i2 rd bs hn G M a w fr hl hF hH hr (fun b b1 b2=>hid b b1 (by omega))) ?_)
      rintro ex a1 w1 ⟨rfl,G1,M1,fr1,hl1,e1,e2,hr1,hx1',hf1⟩
      exact wpL_mono (j2 rd bs hn G1 M1 a1 w1 fr1 hl1 e1 e2 hr1 (fun b b1 b2=>hf1 b (fun hc=>by omega) (hid b (by omega) b2))) fun ex a2 w2 hq=>XQ.trans i1 j1 hx1' hf1 hq
     ·rename_i hne
      obtain ⟨i1,i2⟩:=ihA n c1 x1 S e S' hx1 he
      refine ⟨i1,fun rd bs hn G M a w fr hl hF hH hr hid=>?_⟩
      refine wpL_step nopanic nogrow (wpIn_mono (i2 rd bs hn G M a w fr hl hF hH hr hid) ?_)
      rintro ex a1 w1 ⟨rfl,hq⟩
      cases e with
      | normal=>exact absurd he (hne S')
      | exit id=>exact ⟨rfl,hq⟩
      | goto l=>exact ⟨rfl,hq⟩
      | ret=>exact ⟨rfl,hq⟩
    ·cases hx
   refine ⟨⟨peeled.1,fun rd bs hn G M a w fr hl hF hH hr hid=>wpL_wp (peeled.2 rd bs hn G M a w fr hl hF hH hr hid)⟩,fun c0 h=>?_⟩
   cases h
   exact peeled
  | rangeFunc f ps asg body=>
   refine ⟨?_,fun c0 h=>by cases h⟩
   cases hx
   simp only [step] at he
   exact rngX_ok hcl he
  | refuse s=>cases hx
theorem call_ok {FT : Nat→Option FnI} (hFT : FTok P FT) (m : Nat) : CallOk P gl (callX FT (exec P FT gl m)):=callX_ok hFT fun n c x S e S' h1 h2=>(exec_sound hFT m n c x S e S' h1 h2).1
def runX (P : Program) (FT : Nat→Option FnI) (gl : Fr) (m d : Nat) (f : FuncId) (args : List V) : Option V:=
 eb (callX FT (exec P FT gl m) f args .lf 0) fun z=>some (frzF z.2.1.get d z.1)
theorem PureC.of_run {FT : Nat→Option FnI} (hFT : FTok P FT) {m d : Nat} {f : FuncId} {args : List V} {res : V} (h : runX P FT gl m d f args = some res) : PureC P gl f args res:=by
 unfold runX at h
 obtain ⟨z,h1,h2⟩:=eb_some h
 simp only [Option.some.injEq] at h2
 obtain ⟨hc,-,hi⟩:=call_ok hFT m f args .lf 0 z.1 z.2.1 z.2.2 h1
 refine ⟨hc,fun G w rargs hg hgl hsz hrel=>?_⟩
 have hl0 : lk ([] : Hp) = (T.lf : T Blk).get:=by funext b; simp [lk,T.get]
 refine Calls.mono (hi G M0 w rargs [] hl0 ⟨hg,fun b k hk=>(by simp [lk] at hk),fun b b' mb mb' rb h1=>(by cases h1),fun b mb rb h1=>(by cases h1)⟩ hgl hsz hrel (fun b _ _=>rfl)) ?_
 rintro e w' ⟨rv,rfl,hl',G',M',e1,e2,e3,hx,e5⟩
 let Gf : GMap:=fun k=>if k < w.heap.size then G k else match w'.heap[k]? with
  | some (.cells c _ _)=>some c
  | _=>none
 have hkeep : ∀ k,k < w.heap.size→w'.heap[k]? = w.heap[k]?:=fun k hk=>hx.keep k hk (owned_M0 k)
 have hGf : G'.le Gf:=by
  intro k c hk
  simp only [Gf]
  split
  ·rename_i hlt
   rcases hx.gnew k c hk with h3 | h3 | h3
   ·exact h3
   ·omega
   ·exact absurd h3 (owned_M0 _)
  ·obtain ⟨ty,fz,he⟩:=e3.gw k c hk
   simp [he]
 have hin : GIn Gf w':=by
  intro k c hk
  simp only [Gf] at hk
  split at hk
  ·rename_i hlt
   obtain ⟨ty,fz,he⟩:=hg k c hk
   exact ⟨ty,fz,by rw [hkeep k hlt]; exact he⟩
  ·split at hk
   ·rename_i c' ty fz he; cases hk; exact ⟨ty,fz,he⟩
   ·cases hk
 have hext : Ext G M0 w Gf M0 w':=by
  refine ⟨GMap.le_trans hx.g hGf,fun k c hk=>?_,MMap.le_refl _,fun _ h=>.inr h,hx.os,hx.tape,hx.output,hx.size,hx.keep⟩
  simp only [Gf] at hk
  split at hk
  ·exact .inl hk
  ·rename_i hge; exact .inr (.inl (by omega))
 have hfr:=frz_rel e3 hGf (fun b mb rb arr ty fz h1 h2 he=>by
  have : ¬ rb < w.heap.size:=fun hlt=>by
   rcases hx.mnew rb ⟨b,mb,h1,h2⟩ with h3 | h3
   ·omega
   ·exact absurd h3 (owned_M0 _)
  simp [Gf,this,he]) d
 refine ⟨rv,Gf,rfl,?_,hin,hext⟩
 have:=hfr _ _ e2
 rw [frz_eq,e1,h2] at this
 exact this
end
end Go.Proofs.YtcdfifbabhfknaaDoor
