/- Loops over functions: the loop is a block of memory, yield a value that leads to it: what the model does. No program stands in it. Conditions: none. -/
import Derived.Test.YtcdfifbabhfknaaDoorBase6
import Derived.Test.YtcdfifbabhfknaaDoorBase9
namespace Go.Proofs.YtcdfifbabhfknaaDoor
open Go
section
variable {P : Program} {gl : Fr} {bs n : Nat} {fr : Fr} {h : Hp} {G : GMap} {M : MMap} {a : Act} {w : World}
theorem heap_alloc_old (w : World) (o : Obj) {k : Nat} (hk : k < w.heap.size) : (w.alloc o).heap[k]? = w.heap[k]?:=(MapKept.heap_alloc w o).2 k hk
theorem heap_alloc_size (w : World) (o : Obj) : (w.alloc o).heap.size = w.heap.size + 1:=by show (w.heap.push o).size = _; simp
theorem Sim.allocFree (hs : Sim G M h w) (o : Obj) : Sim G M h (w.alloc o)∧Ext G M w G M (w.alloc o):=by
 constructor
 ·refine ⟨fun k c hk=>?_,fun b blk hb=>(hs.hb b blk hb).mono G.le_refl M.le_refl rfl fun mb rb h1 h2=>heap_alloc_old w o (hs.mlt b mb rb h1 h2).1,hs.inj,fun b mb rb h1 h2=>?_⟩
  ·obtain ⟨ty,fz,he⟩:=hs.gw k c hk
   exact ⟨ty,fz,by rw [heap_alloc_old w o (Array.getElem?_eq_some_iff.1 he).1]; exact he⟩
  ·obtain ⟨q1,q2⟩:=hs.mlt b mb rb h1 h2
   exact ⟨by rw [heap_alloc_size]; omega,q2⟩
 ·exact ⟨G.le_refl,fun _ _ q=>.inl q,M.le_refl,fun _ q=>.inr q,rfl,rfl,rfl,by rw [heap_alloc_size]; omega,fun k hk _=>heap_alloc_old w o hk⟩
theorem Sim.turn (hs : Sim G M h w) {b l : Nat} {mb : MB} (hM : M b = some mb) (hl : mb.real = some l) (o : Obj) {k' : Blk} (hbk : BlkRel G M (w.putObj l o) b k') : Sim G M ((b,k') :: h) (w.putObj l o)∧Ext G M w G M (w.putObj l o):=by
 constructor
 ·refine ⟨fun k c hk=>?_,fun b2 blk hb=>?_,hs.inj,fun b2 mb2 rb h1 h2=>?_⟩
  ·obtain ⟨ty,fz,he⟩:=hs.gw k c hk
   refine ⟨ty,fz,?_⟩
   rw [putObj_ne fun e=>?_]
   ·exact he
   ·subst e; have:=(hs.mlt b mb k hM hl).2; rw [hk] at this; cases this
  ·by_cases e : b2 = b
   ·subst e; simp [lk] at hb; subst hb; exact hbk
   ·simp only [lk,if_neg e] at hb
    exact (hs.hb b2 blk hb).mono G.le_refl M.le_refl rfl fun mb2 rb h1 h2=>putObj_ne fun e2=>e (hs.inj b2 b mb2 mb l h1 hM (by rw [h2,e2]) hl)
  ·rw [World.putObj_size]; exact hs.mlt b2 mb2 rb h1 h2
 ·exact ⟨G.le_refl,fun _ _ q=>.inl q,M.le_refl,fun _ q=>.inr q,rfl,rfl,rfl,by rw [World.putObj_size]; exact Nat.le_refl _,fun k hk hn=>putObj_ne fun e=>hn ⟨b,mb,hM,by rw [e]; exact hl⟩⟩
theorem loop_at {b g l m : Nat} {mb : MB} {frl : Fr} {ps : List Nat} {asg body : Code} {busy : Bool} {G1 : GMap} {M1 : MMap} {h1 : Hp} {w1 : World} (hM : M b = some mb) (hg : mb.gen = g) (hl : mb.real = some l) (hx : M.le M1) (hs : Sim G1 M1 h1 w1) (hb : lk h1 b = some (.loop g m frl ps asg body busy)) :
  ∃ r : Loop,M1 b = some mb∧mb.sz = 2∧w1.heap[l]? = some (.loop r)∧r.state = (bif busy then .busy else .ready)∧r.pending = none∧r.params.toList = ps∧r.assign = asg∧r.body = body∧r.tmps.size = m∧∀ t v,lk frl t = some v→RelV G1 M1 v (r.tmps.getD t undef):=by
 obtain ⟨mb1,rb1,q1,q2,q3,q4,r,r1,r2⟩:=hs.hb b _ hb
 obtain ⟨mb2,e1,e2,e3⟩:=hx b mb hM
 rw [q1] at e1; cases e1
 have : mb1 = mb:=e3 (by omega)
 subst this
 rw [hl] at q3; cases q3
 exact ⟨r,q1,q4,r1,r2⟩
theorem frr_puts {tmps : Array Value} (hn : tmps.size = n) : ∀ {ps : List Nat} {vs : List V} {ra : List Value} {fr : Fr} {tm : Array Value},tm.size = n→ps.length = vs.length→ra.length = vs.length→(∀ t ∈ ps,t < n)→(∀ i,i < vs.length→RelV G M (vs.getD i .undef) (ra.getD i undef))→
  (∀ t v,lk fr t = some v→RelV G M v (tm.getD t undef))→
  ((ps.zip ra).foldl (fun tmps (p : Tmp × Value)=>tmps.setIfInBounds p.1 p.2) tm).size = n∧∀ t v,lk (putsF fr ps vs) t = some v→RelV G M v (((ps.zip ra).foldl (fun tmps (p : Tmp × Value)=>tmps.setIfInBounds p.1 p.2) tm).getD t undef)
 | [],vs,ra,fr,tm,hs,h1,h2,hp,hr,hf=>by
  have : vs = []:=by cases vs <;> simp_all
  subst this
  exact ⟨hs,hf⟩
 | p :: ps,[],ra,fr,tm,hs,h1,h2,hp,hr,hf=>by simp at h1
 | p :: ps,v :: vs,[],fr,tm,hs,h1,h2,hp,hr,hf=>by simp at h2
 | p :: ps,v :: vs,x :: ra,fr,tm,hs,h1,h2,hp,hr,hf=>by
  simp only [List.zip_cons_cons,List.foldl_cons,putsF]
  refine frr_puts hn (by simpa using hs) (by simpa using h1) (by simpa using h2) (fun t ht=>hp t (List.mem_cons_of_mem _ ht)) (fun i hi=>?_) fun t u ht=>?_
  ·have:=hr (i + 1) (by simpa using hi)
   simpa using this
  ·have hpn : p < tm.size:=by rw [hs]; exact hp p List.mem_cons_self
   simp only [lk] at ht
   split at ht
   ·rename_i he
    cases ht; subst he
    have h0:=hr 0 (by simp)
    have e : (tm.setIfInBounds t x).getD t undef = x:=by simp [Array.getD_eq_getD_getElem?,hpn]
    rw [e]; simpa using h0
   ·rename_i he
    have e : (tm.setIfInBounds p x).getD t undef = tm.getD t undef:=by
     simp only [Array.getD_eq_getD_getElem?]
     rw [Array.getElem?_setIfInBounds_ne (by omega)]
    rw [e]; exact hf t u ht
theorem round_core {rd : Option Nat} {b g m : Nat} {frl : Fr} {ps : List Nat} {asg body : Code} {KK : GMap→MMap→Hp→Prop} (hs : Sim G M h w) (hgl : GlRel G gl) (hlk : lk h b = some (.loop g m frl ps asg body false)) {vs : List V} {r0 : Value} (hr0 : RelV G M (.own b g) r0) {ra : Array Value}
  (h1 : ra.size = vs.length) (h2 : ∀ i,i < vs.length→RelV G M (vs.getD i .undef) (ra.getD i undef)) (hlen : ps.length = vs.length) (hps : ∀ t ∈ ps,t < m)
  (hw : ∀ (l : Nat) (a : Act),R w.heap.size m gl G M (putsF frl ps vs) h a w→asg.wpIn (FW (some l)) 0 P (fun e a1 w1=>e = .normal∧∃ G1 M1 fr1 hp1 m2 fr2 ps2 as2 bd2,R w.heap.size m gl G1 M1 fr1 hp1 a1 w1∧Ext G M w G1 M1 w1∧lk hp1 b = some (.loop g m2 fr2 ps2 as2 bd2 false)∧
   ∀ w2,R w.heap.size m gl G1 M1 fr1 ((b,.loop g m2 fr2 ps2 as2 bd2 true) :: hp1) a1 w2→Ext G M w G1 M1 w2→body.wpIn (FW (some l)) 0 P (fun e _ w3=>e = .normal∧∃ G2 M2 hp2 m3 fr3 ps3 as3 bd3,Sim G2 M2 hp2 w3∧Ext G M w G2 M2 w3∧lk hp2 b = some (.loop g m3 fr3 ps3 as3 bd3 true)∧KK G2 M2 ((b,.loop g m3 fr3 ps3 as3 bd3 false) :: hp2)) a1 w2) a w) :
  ∃ l fn tmps asg body,r0 = .func (.yield l) #[] #[]∧(Instr.yield l ra).run P w = .ok (.round l fn tmps asg body) w∧
   RoundIn (FW rd) 0 P l fn tmps asg body w fun e w'=>e = .returned (.bool true)∧∃ G' M' h',KK G' M' h'∧Sim G' M' h' w'∧Ext G M w G' M' w':=by
 obtain ⟨mb,l,m1,m2,m3,m4,m5,-⟩:=own_loop hs hr0 hlk
 obtain ⟨r,q1,q2,q3,q4,q5,q6,q7,q8,q9,q10⟩:=loop_at m1 m2 m3 M.le_refl hs hlk
 have hsz : ra.size = r.params.size:=by
  have : r.params.toList.length = ra.toList.length:=by rw [q6,hlen]; simp [h1]
  simpa using this.symm
 refine ⟨l,_,_,_,_,m5,run_yield q3 hsz,?_⟩
 have hfold : (r.params.zip ra).foldl (fun tmps (t,a)=>tmps.setIfInBounds t a) r.tmps = (ps.zip ra.toList).foldl (fun tmps (p : Tmp × Value)=>tmps.setIfInBounds p.1 p.2) r.tmps:=by
  rw [← Array.foldl_toList,Array.toList_zip,q6]
 obtain ⟨f1,f2⟩:=frr_puts (G:=G) (M:=M) (n:=m) q9 (ps:=ps) (vs:=vs) (ra:=ra.toList) (fr:=frl) (tm:=r.tmps) q9 hlen (by simp [h1]) hps (fun i hi=>by
  have:=h2 i hi
  rw [Array.getD_eq_getD_getElem?] at this
  simpa [List.getD_eq_getElem?_getD] using this) q10
 rw [← hfold] at f1 f2
 refine roundIn_of_wpIn trivial ?_
 show (r.assign).wpIn (FW (some l)) 0 P _ _ w
 rw [q7]
 have hw:=hw l ⟨_,[]⟩ ⟨hs,f2,f1,trivial,hgl,Nat.le_refl _⟩
 refine wpIn_mono hw ?_
 rintro e a1 w1 ⟨rfl,G1,M1,fr1,hp1,mm,frm,psm,asm,bdm,hr1,hx1,k1,k2⟩
 obtain ⟨r',p1,p2,p3,p4,p5,p6,p7,p8,p9,p10⟩:=loop_at m1 m2 m3 hx1.m hr1.sim k1
 have hl1 : l < w1.heap.size:=(Array.getElem?_eq_some_iff.1 p3).1
 refine ⟨_,run_beginRound p3 p4,?_⟩
 obtain ⟨s1,x1⟩:=hr1.sim.turn p1 m3 (.loop { r' with state:=.busy }) (k':=.loop g mm frm psm asm bdm true) ⟨mb,l,p1,m2,m3,p2,_,World.putObj_heap_same hl1,rfl,p5,p6,p7,p8,p9,p10⟩
 rw [q8]
 show body.wpIn (FW (some l)) 0 P _ _ _
 refine wpIn_mono (k2 _ ⟨s1,hr1.frr,hr1.sz,hr1.df.ext x1,hr1.gl,Nat.le_trans hr1.bs x1.size⟩ (hx1.trans x1)) ?_
 rintro e a2 w2 ⟨rfl,G3,M3,hp3,mn,frn,psn,asn,bdn,sim3,hx,j1,j3⟩
 obtain ⟨r'',t1,t2,t3,t4,t5,t6,t7,t8,t9,t10⟩:=loop_at m1 m2 m3 hx.m sim3 j1
 have hl2 : l < w2.heap.size:=(Array.getElem?_eq_some_iff.1 t3).1
 obtain ⟨s2,x2⟩:=sim3.turn t1 m3 (.loop { r'' with state:=.ready,pending:=none }) (k':=.loop g mn frn psn asn bdn false) ⟨mb,l,t1,m2,m3,t2,_,World.putObj_heap_same hl2,rfl,rfl,t6,t7,t8,t9,t10⟩
 exact ⟨.bool true,_,run_endRound none t3,rfl,G3,M3,_,j3,s2,hx.trans x2⟩
theorem own_op {rd : Option Nat} (hr : R bs n gl G M fr h a w) {o : Oper} {c : Call} {f : Operand} {Q : Exit→Act→World→Prop} (ho : o.op = .call c) (hc : c.callee = .value f) {b g : Nat} {vs : List V}
  (hf : ev gl fr (co f) = some (.own b g)) (hvs : evs gl fr (c.args.toList.map co) = some vs) {Post : Value→World→Prop}
  (hy : ∀ (r0 : Value) (ra : Array Value),RelV G M (.own b g) r0→ra.size = vs.length→(∀ i,i < vs.length→RelV G M (vs.getD i .undef) (ra.getD i undef))→∃ l fn tmps asg body,r0 = .func (.yield l) #[] #[]∧(Instr.yield l ra).run P w = .ok (.round l fn tmps asg body) w∧
   RoundIn (FW rd) 0 P l fn tmps asg body w fun e w'=>∃ rv,e = .returned rv∧Post rv w') :
  o.wpIn (FW rd) 0 P a w (fun a' w'=>∃ rv,a' = a.put o.dst rv∧Post rv w') Q:=by
 obtain ⟨v1,v2⟩:=evs_co hr hvs
 obtain ⟨l,fn,tmps,asg,body,e1,e2,e3⟩:=hy _ (c.args.map a.eval) (ev_co hr hf) (by simp [v1]) (fun i hi=>by
  have:=v2 i hi
  rw [← getD_map_toList] at this
  simpa only [Array.getD_eq_getD_getElem?,List.getD_eq_getElem?_getD] using this)
 have hs : Oper.semAt (FW rd).round a.eval o = execOp a.eval o:=Oper.semAt_eq _ _ _ fun c' hc'=>by rw [ho] at hc'; cases hc'
 have hrun : (execOp a.eval o).run P w = .ok (.round l fn tmps asg body) w:=by
  simp [execOp,ho,resolve,hc,e1,Deferred.ofValue,invoke]
  exact e2
 refine ⟨fun _ _=>trivial,?_⟩
 rw [hs,hrun,Oper.uponIn_round]
 refine ⟨(fun h=>nomatch h),RoundIn.mono e3 ?_⟩
 rintro e w' ⟨rv,rfl,q⟩
 exact ⟨rv,rfl,q⟩
theorem rng_core {f : Operand} {ps : Array Tmp} {asg body : Code} {fid : FuncId} {fst cap : List V} {KK : GMap→MMap→Hp→Prop} (hr : R bs n gl G M fr h a w) (b : Nat) (frs : Fr) (hfrs : ∀ t v,lk frs t = some v→lk fr t = some v) (hf : ev gl fr (co f) = some (.fn fid fst cap)) (hcal : callable P fid = true)
  (hcalls : ∀ mb w1 (rargs : Array Value),mb = ⟨freshGen M b,2,0,0,some (w.heap.size + 1)⟩→Sim G (upd M b mb) ((b,.loop (freshGen M b) n frs ps.toList asg body false) :: h) w1→GlRel G gl→rargs.size = (fst ++ [V.own b (freshGen M b)] ++ cap).length→(∀ i,i < (fst ++ [V.own b (freshGen M b)] ++ cap).length→RelV G (upd M b mb) ((fst ++ [V.own b (freshGen M b)] ++ cap).getD i .undef) (rargs.getD i undef))→
   Calls P fid rargs w1 fun e w'=>∃ rv G' M' h' m frl psl asl bdl,e = .returned rv∧lk h' b = some (.loop (freshGen M b) m frl psl asl bdl false)∧KK G' M' ((b,.dead (freshGen M b)) :: h')∧Sim G' M' h' w'∧Ext G (upd M b mb) w1 G' M' w') :
  (Code.rangeFunc f ps asg body).wpIn (FW none) 0 P (fun e a' w'=>e = .normal∧∃ G' M' h',KK G' M' h'∧R bs n gl G' M' fr h' a' w'∧Ext G M w G' M' w') a w:=by
 refine wpIn_rangeFunc fun fn _=>?_
 have rf:=ev_co hr hf
 generalize hev : a.eval f = rv0 at rf
 cases rf with
 | fn _ _ _ rfst rcap s1 s2 s3 s4=>
 let o1 : Obj:=.deferred (some [])
 let rec0 : Loop:={ state:=.ready,pending:=none,fn,tmps:=a.tmps,params:=ps,assign:=asg,body,defers:=w.heap.size }
 let w1 : World:=(w.alloc o1).alloc (.loop rec0)
 obtain ⟨sA,xA⟩:=hr.sim.allocFree o1
 have hsz1 : (w.alloc o1).heap.size = w.heap.size + 1:=heap_alloc_size w o1
 have hsz2 : w1.heap.size = (w.alloc o1).heap.size + 1:=heap_alloc_size _ _
 let mb : MB:=⟨freshGen M b,2,0,0,some (w.alloc o1).heap.size⟩
 have hgm : ∀ mb0,M b = some mb0→mb0.gen < mb.gen∨mb = mb0:=fun mb0 h0=>.inl (by simp [mb,freshGen,h0])
 have hle : M.le (upd M b mb):=MMap.le_upd hgm
 have hfrr : ∀ t v,lk frs t = some v→RelV G (upd M b mb) v (a.tmps.getD t undef):=fun t v ht=>(hr.frr t v (hfrs t v ht)).mono G.le_refl hle
 obtain ⟨sB,xB⟩:=sA.change (w':=w1) b mb (.loop (freshGen M b) n frs ps.toList asg body false) hgm (fun rb hrb=>by
   cases hrb
   exact .inl ⟨Nat.le_refl _,by rw [hsz2]; omega⟩) (by rw [hsz2]; omega) (fun q hq _=>heap_alloc_old _ _ hq) (fun _ _ _ _=>trivial) rfl rfl rfl
  ⟨mb,_,upd_same _ _ _,rfl,rfl,rfl,rec0,World.alloc_heap_new _ _,rfl,rfl,rfl,rfl,rfl,hr.sz,hfrr⟩
 have x01 : Ext G M w G (upd M b mb) w1:=xA.trans xB
 have hD1 : w1.heap[w.heap.size]? = some o1:=by
  show ((w.alloc o1).alloc _).heap[w.heap.size]? = _
  rw [heap_alloc_old _ _ (by rw [hsz1]; omega)]
  exact World.alloc_heap_new w o1
 have hnD : ¬ owned (upd M b mb) w.heap.size:=fun ho=>by
  rcases xB.mnew _ ho with h1 | ⟨b2,mb2,h1,h2⟩
  ·rw [hsz1] at h1; omega
  ·have:=(hr.sim.mlt b2 mb2 _ h1 h2).1; omega
 unfold callable at hcal
 split at hcal
 ·rename_i fnn hfn
  simp only [Bool.and_eq_true,bne_iff_ne,ne_eq,Option.isSome_iff_exists] at hcal
  obtain ⟨hname,cb,hbody⟩:=hcal
  have hyl : RelV G (upd M b mb) (.own b (freshGen M b)) (.func (.yield (w.alloc o1).heap.size) #[] #[]):=.own _ _ _ mb (upd_same _ _ _) (Nat.le_refl _) rfl fun _=>⟨_,rfl,rfl⟩
  refine ⟨w.heap.size + 1,[{ target:=.collected w.heap.size,args:=#[] }],w1,{ target:=.fn (.func fid) rcap,args:=rfst ++ #[.func (.yield (w.heap.size + 1)) #[] #[]] },w1,fid,rfst ++ #[.func (.yield (w.heap.size + 1)) #[] #[]] ++ rcap,w1,?_,?_,(fun _ _=>trivial),?_,(fun h=>nomatch h),callsIn_FW.2 (Calls.mono (hcalls mb w1 _ (by show _ = MB.mk _ _ _ _ _; rw [← hsz1]) sB (hr.gl.mono G.le_refl) (by simp [s1,s2]; omega) fun i hi=>?_) ?_)⟩
  ·exact run_enterLoop_outer fn a.tmps ps asg body
  ·simp [resolve,hev,Deferred.ofValue]; rfl
  ·simp [invoke,callFunc,hfn,hname,hbody]
  ·simp only [List.length_append,List.length_cons,List.length_nil] at hi
   simp only [Array.getD_eq_getD_getElem?,List.getD_eq_getElem?_getD,Array.getElem?_append,List.getElem?_append,Array.size_append,List.length_append,s1,List.length_cons,List.length_nil,List.size_toArray]
   by_cases c1 : i < fst.length + (0 + 1)
   ·rw [if_pos c1,if_pos c1]
    by_cases c2 : i < fst.length
    ·rw [if_pos c2,if_pos c2]
     have:=s3 i c2
     simpa [Array.getD_eq_getD_getElem?,List.getD_eq_getElem?_getD] using this.mono G.le_refl hle
    ·rw [if_neg c2,if_neg c2]
     obtain rfl : i = fst.length:=by omega
     rw [Nat.sub_self]
     show RelV G (upd M b mb) (.own b (freshGen M b)) (.func (.yield (w.heap.size + 1)) #[] #[])
     rw [← hsz1]; exact hyl
   ·rw [if_neg c1,if_neg c1]
    have:=s4 (i - (fst.length + (0 + 1))) (by omega)
    simpa only [Array.getD_eq_getD_getElem?,List.getD_eq_getElem?_getD] using this.mono G.le_refl hle
  ·rintro e w' ⟨rv,G',M',h',m,frl,psl,asl,bdl,rfl,k1,k2,q3,q4⟩
   obtain ⟨r,t1,t2,t3,t4,t5,-⟩:=loop_at (upd_same M b mb) rfl rfl q4.m q3 k1
   rw [hsz1] at t3
   obtain ⟨st,pe,fn',tm',pa',as',bd',df'⟩:=r
   obtain rfl : pe = none:=t5
   have hend:=run_endLoop (P:=P) t3 (by rw [t4]; simp)
   have hreal : mb.real = some (w.heap.size + 1):=by show some _ = some _; rw [hsz1]
   obtain ⟨sC,xC⟩:=q3.turn t1 hreal (.loop ⟨.exhausted,none,fn',tm',pa',as',bd',df'⟩) (k':=.dead (freshGen M b)) ⟨mb,t1,rfl⟩
   have hx : Ext G M w G' M' _:=(x01.trans q4).trans xC
   refine ⟨none,_,hend,rfl,G',M',_,k2,⟨sC,fun t v ht=>(hr.frr t v ht).mono hx.g hx.m,hr.sz,⟨⟨w.heap.size,rfl,hr.bs,?_,?_,?_⟩,hr.df.ext hx⟩,hr.gl.mono hx.g,Nat.le_trans hr.bs hx.size⟩,hx⟩
   ·rw [putObj_ne (by omega),q4.keep _ (by rw [hsz2,hsz1]; omega) hnD]; exact hD1
   ·intro ho
    rcases q4.mnew _ ho with h1 | h1
    ·rw [hsz2,hsz1] at h1; omega
    ·exact hnD h1
   ·intro hc
    have : ∀ {l : List Deferred},Marks bs M w l→{ target:=.collected w.heap.size,args:=#[] } ∉ l:=by
     intro l
     induction l with
     | nil=>exact fun _ h=>by cases h
     | cons d l ih=>
      rintro ⟨⟨k,e1,-,e3,-⟩,e6⟩ hm
      rcases List.mem_cons.1 hm with e | e
      ·rw [e1] at e
       injection e with e _
       injection e with e
       have:=(Array.getElem?_eq_some_iff.1 e3).1
       omega
      ·exact ih e6 e
    exact this hr.df hc
 ·cases hcal
end
end Go.Proofs.YtcdfifbabhfknaaDoor
