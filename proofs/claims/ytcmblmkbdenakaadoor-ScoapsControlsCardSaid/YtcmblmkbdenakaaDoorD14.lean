/- Costs of nets: the law Controls. Conditions: none. -/
import Derived.Test.YtcmblmkbdenakaaDoorD13
import Derived.Test.YtcmblmkbdenakaaDoorLV
import Derived.Test.YtcmblmkbdenakaaDoorXL5
set_option linter.unusedSimpArgs false
set_option linter.unusedVariables false
namespace Go.Proofs.YtcmblmkbdenakaaDoor
open Go
structure CoL where
 n : Nat
set_option maxRecDepth 100000 in
theorem law5_c (x : Cx) (hx : x.ok) : PureC Tryd.prog gl0 5 [x.v] (.bool true):=by
 have hof:=cof_c x hx
 have hgp : V.pureL (x.g.map Gx.v) = true:=pureL_map (fun g=>by simp [Gx.v,u8V]) x.g
 have hop : V.pureL (x.o.map u8V) = true:=u8s_pure x.o
 have hwf:=ci_wf x
 have h0:=chk_ok x
 obtain ⟨hn16,hn0⟩:=ci_nn x
 generalize x.ci = c at hof hwf h0 hn16 hn0
 obtain ⟨hsh,hac⟩:=chk_sh h0
 have hval:=sh_val hwf hsh
 have hCo:=ControlP_c c hwf h0 (by omega)
 have hCle : ∀ i,(ctl c i).1 ≤ nev∧(ctl c i).2 ≤ nev:=ctL_le c _ (fun _ _ h=>by cases h) _
 have hdff:=fun n hn h=>ctl_dff (c:=c) hwf hval hac (n:=n) hn h
 have hgate:=fun n hn h=>ctl_gate (c:=c) hwf hval hac (n:=n) hn h
 have hsq:=fun b (h : SeqP c b)=>h.up hwf hval hac
 have hss:=fun b (h : SeqP c b)=>h.same hwf hsh hac
 have hCp:=netsC_pure c.n.length (ctl c)
 have hstt:=statesP_c c (by omega)
 rw [ofLs_ids] at hstt
 have hSl:=cnt_le 14 c.n
 have hSl2 : (ids 14 c.n 0).length = cnt 14 c.n:=rfl
 have hfol:=follows_c c hval (by omega) (ids 14 c.n 0) (some (ids 14 c.n 0).length) (fun s hs=>(ids_lt hs).1) (by omega)
 generalize ctl c = f at *
 refine PureC.of_WM 6 3 ok5 rfl ?_
 simp [i5,x5,Cx.v,u8V]
 intro ga
 generalize ga 1 = g1
 refine KM.mk (.done ?_)
 simp
 refine CallO.pure hof (by simp [Cx.v,u8V,hgp,hop]) ?_
 simp
 intro gb
 generalize gb 3 = g3
 refine KM.mk (.done ?_)
 simp
 refine CallO.pure hCo (by simp) ?_
 simp
 refine KM.mk (.done ?_)
 simp
 refine CallO.own 2000 (Sequential_c c hwf) (by simp) (by simp) ?_
 rintro v h (⟨h1,-⟩ | ⟨-,g,st,L,rfl,rfl,hR,hO,hst,hS⟩) gf
 ·exact absurd h0 h1
 have hsqp : SeqP c (ctL c (stO (ids 14 c.n 0) st) L):=⟨ctL_le c _ (stO_le _ hst) L,st,by rw [(hO (by omega)).eq],hst,hS⟩
 generalize ctL c (stO (ids 14 c.n 0) st) L = b at hsqp
 have hbp:=netsC_pure c.n.length b
 have hbl:=netsC_len c.n.length b
 simp [upH,upS,Blk.rn,map_rn_pure hbp]
 generalize gf 2000 + g = g9
 refine KM.mk (.frz (g:=g9) (sz:=2) (es:=netsC c.n.length b) 2000 (by simp) hbp (.done ?_))
 simp only [fzF,fzH,Blk.fz,List.map_cons,List.map_nil]
 rw [fzV_pure (v:=c.v) (by simp),fzV_pure (v:=.sl (netsC c.n.length f) (some c.n.length)) (by simp [hCp]),fzV_pure (v:=.tup [.sl (netsC c.n.length f) (some c.n.length),.int .i64 0]) (by simp [hCp])]
 have hagx : V.pure (.agg [.int .u8 x.n,.int .u8 x.f,.int .u8 x.d0,.int .u8 x.d1,.bool x.bus,.bool x.mem,.int .u8 x.p0,.int .u8 x.p1,.int .u8 x.p2,.int .u8 x.p3,.sl (x.g.map Gx.v) none,.sl (x.o.map u8V) none]) = true:=by simp [hgp,hop]
 rw [fzV_pure hagx,fzV_pure (v:=.agg [.sl (c.n.map Nd.v) none,.sl (c.s.map .str) none,.sl (c.m.map Md.v) none,.sl (ints c.o) none]) (by simp)]
 have htk : List.take c.n.length (netsC c.n.length b) = netsC c.n.length b:=List.take_of_length_le (by rw [hbl]; exact Nat.le_refl _)
 simp [fzV,V.mapR,V.mapRL,fzp,fzf,hbl,htk,netsC_len]
 refine KM.mk (.done ?_)
 simp
 refine CallO.pure hstt (by simp) ?_
 simp
 refine KM.mk (.done ?_)
 simp
 refine CallO.pure hfol (by simp [natsV_pure]) ?_
 simp
 have hsame : ∀ n,n < c.n.length→rchN c (ids 14 c.n 0) n = 0→f n = b n:=fun n hn h=>hss b hsqp n hn fun hr=>by
  unfold rchN at h; rw [if_pos hr] at h; cases h
 have hup:=hsq b hsqp
 have hbd:=fun n hn h=>hsqp.dff hwf hval hac (n:=n) hn h
 have hbg:=fun n hn h=>hsqp.gate hwf hval hac (n:=n) hn h
 have hble:=hsqp.le
 generalize rchN c (ids 14 c.n 0) = r at *
 have hrp:=natsT_pure c.n.length r
 refine LoopP.of (X:=CoL) (fun z=>[(10,natV z.n),(9,.sl (natsT c.n.length r) (some c.n.length)),(6,.sl (netsC c.n.length b) (some c.n.length)),(4,.sl (netsC c.n.length f) (some c.n.length)),(3,.ptr 3 g3 0 0)])
  (fun z=>[(3,.row g3 4 [c.v])]) (fun z=>z.n ≤ c.n.length) (fun z=>c.n.length - z.n) ⟨0⟩ (by simp) (by simp [natV]) (by simp; rfl) ?_
 rintro ⟨n⟩ hn
 dsimp only at hn ⊢
 simp [natV]
 refine BrB.of (fun hb=>?_) (fun hb=>?_)
 ·have hn':=of_decide_eq_true hb
  have hw:=wrapN n (by omega)
  obtain ⟨y,hy⟩ : ∃ y,c.n[n] = y:=⟨_,rfl⟩
  have hyc : c.nd n = y:=by rw [c.nd_get hn',hy]
  have hym : y ∈ c.n:=hy ▸ List.getElem_mem hn'
  have hyv:=val_mem hval hym
  have hyw:=nd_wid hsh hn'
  obtain ⟨k,hkk⟩ : ∃ k : Nat,y.k = k:=⟨y.k.toNat,by have:=(hwf.k y hym).1; omega⟩
  rw [hyc,hkk] at hyw
  have hk16 : k < 16:=by omega
  have h3f:=netsC_at c.n.length f n (by rw [netsC_len]; exact hn')
  have h3b:=netsC_at c.n.length b n (by rw [netsC_len]; exact hn')
  have h3r:=natsT_at c.n.length r n (by rw [natsT_len]; exact hn')
  have hupn:=hup n hn'
  have hsn:=hsame n hn'
  obtain ⟨⟨f0,f1⟩,hf⟩ : ∃ p,f n = p:=⟨_,rfl⟩
  obtain ⟨⟨b0,b1⟩,hbn⟩ : ∃ p,b n = p:=⟨_,rfl⟩
  rw [hf,hbn] at hupn
  have hsn2 : r n = 0→f0 = b0∧f1 = b1:=fun h=>by
   have:=hsn h; rw [hf,hbn] at this
   exact ⟨congrArg Prod.fst this,congrArg Prod.snd this⟩
  obtain ⟨hu0,hu1⟩ : f0 ≤ b0∧f1 ≤ b1:=hupn
  rw [hf] at h3f
  rw [hbn] at h3b
  simp only [nC,natV] at h3f h3b
  have hdn:=hdff n hn'
  have hgn:=hgate n hn'
  have hdb:=hbd n hn'
  have hgb:=hbg n hn'
  rw [hyc,hkk] at hdn hgn hdb hgb
  rw [hf] at hdn hgn
  rw [hbn] at hdb hgb
  by_cases h14 : k = 14
  ·have hd : decide (k = 14) = true:=decide_eq_true h14
   obtain ⟨hx1,hi1,hq⟩:=dff_in hwf hsh ((mem_dff hn').2 (by rw [hyc,hkk,h14]; rfl))
   rw [hy] at hi1
   have e1:=hdn (by rw [h14]; rfl)
   have e2:=hdb (by rw [h14]; rfl)
   obtain ⟨q,hqq⟩ : ∃ q,dnN c n = q:=⟨_,rfl⟩
   rw [hqq] at hi1 hq e2
   have h3q:=netsC_at c.n.length b q (by rw [netsC_len]; exact hq)
   have hbq:=hble q
   obtain ⟨⟨d0,d1⟩,hdq⟩ : ∃ p,b q = p:=⟨_,rfl⟩
   rw [hdq] at e2 h3q hbq
   simp only [nC,natV] at h3q
   dsimp only at hbq
   simp only [incP,Prod.mk.injEq] at e1 e2
   obtain ⟨rfl,rfl⟩:=e1
   obtain ⟨e20,e21⟩:=e2
   have m0 : min ((d0 : Int) + 1) 1073741824 = (b0 : Int):=by rw [e20]; exact pls_i d0 1
   have m1 : min ((d1 : Int) + 1) 1073741824 = (b1 : Int):=by rw [e21]; exact pls_i d1 1
   clear e20 e21
   have hbq : d0 ≤ 1073741824∧d1 ≤ 1073741824:=hbq
   have w0 : IntKind.i64.wrap ((d0 : Int) + 1) = (d0 : Int) + 1:=by rw [wrap_i64] <;> omega
   have w1 : IntKind.i64.wrap ((d1 : Int) + 1) = (d1 : Int) + 1:=by rw [wrap_i64] <;> omega
   simp [hn',hy,hkk,hd]
   intro gc1 gc2 gc3
   simp [Nd.v,hi1,ints,hq,netsC_len,h3q]
   intro gc4
   simp [w0,w1,m0,m1]
   intro gm2
   have lt0 : ¬ b0 < 1:=Nat.not_lt.2 hu0
   have lt1 : ¬ b1 < 1:=Nat.not_lt.2 hu1
   simp [hn',netsC_len,h3f,h3b,eqOkB,eqCells,natsT_len,h3r,lt0,lt1,hu0,hu1]
   refine BrB.of (fun hr0=>?_) (fun hr0=>?_)
   ·obtain ⟨rfl,rfl⟩:=hsn2 (of_decide_eq_true hr0)
    simp [hr0,hn',netsC_len,h3f,h3b,eqOkB,eqCells,hw]
    exact ⟨⟨n + 1⟩,hn',by simp,by dsimp only; omega⟩
   ·simp [hr0,hw]
    exact ⟨⟨n + 1⟩,hn',by simp,by dsimp only; omega⟩
  ·have hd : decide (k = 14) = false:=decide_eq_false h14
   have hN:=fun (F : Nat→Nat × Nat)=>linputs_c y c.n.length F (some c.n.length) (by omega) hyv.2
   have hLp : ∀ F : Nat→Nat × Nat,(listV ((insC F y).map nC)).pure = true:=fun F=>by
    have:=nCs_pure (insC F y)
    cases h : (insC F y).map nC with
    | nil=>rfl
    | cons a l=>rw [h] at this; simpa [listV,V.pure] using this
   have hG : ∀ F : Nat→Nat × Nat,(∀ i,(F i).1 ≤ nev∧(F i).2 ≤ nev)→PureC Tryd.prog gl0 11 [u8V k,listV ((insC F y).map nC)] (nC (gateP k (insC F y))):=fun F hF=>by
    have hinl : (insC F y).length = y.i.length:=by simp [insC]
    have hinle : ∀ p ∈ insC F y,p.1 ≤ nev∧p.2 ≤ nev:=fun p hp=>by
     obtain ⟨j,-,rfl⟩:=List.mem_map.1 hp
     exact hF _
    have h1:=lgateN_c k (by omega) ((insC F y).map icost) (by rw [List.length_map,hinl]; omega) (fun q1 q2 q3 q4=>by
     have:=need_in (k:=k) (m:=y.i.length) hk16 hyw.2 (by omega) q2 q3 q4
     rw [List.length_map,hinl]; exact this)
    rw [icost_c hinle,icost_v,← gate_eq k (insC F y) hk16 (by rw [hinl]; exact hyw.2)] at h1
    exact h1
   have e1:=hgn (by omega)
   have e2:=hgb (by omega)
   simp only [Int.toNat_natCast] at e1 e2
   have p1:=hG f hCle
   have p2:=hG b hble
   rw [← e1] at p1
   rw [← e2] at p2
   have n1:=hN f
   have n2:=hN b
   have l1:=hLp f
   have l2:=hLp b
   simp only [nC,natV,u8V] at p1 p2
   generalize listV ((insC f y).map nC) = A at n1 l1 p1
   generalize listV ((insC b y).map nC) = B at n2 l2 p2
   simp [hn',hy,hkk,hd]
   intro gc1 gc2 gc3 gm
   first | refine ⟨_,_,_,.pure n1 (by simp [hCp]),?_⟩ | refine ⟨_,⟨_,_,.pure n1 (by simp [hCp])⟩,?_⟩ | refine ⟨_,_,⟨_,.pure n1 (by simp [hCp])⟩,?_⟩
   simp
   first | refine ⟨_,_,_,.pure p1 (by simp [l1]),?_⟩ | refine ⟨_,⟨_,_,.pure p1 (by simp [l1])⟩,?_⟩ | refine ⟨_,_,⟨_,.pure p1 (by simp [l1])⟩,?_⟩
   simp
   refine ⟨by simp [indAll,snocF,indF,memN],fun gm2=>?_⟩
   first | refine ⟨_,_,_,.pure n2 (by simp [hbp]),?_⟩ | refine ⟨_,⟨_,_,.pure n2 (by simp [hbp])⟩,?_⟩ | refine ⟨_,_,⟨_,.pure n2 (by simp [hbp])⟩,?_⟩
   simp [hkk]
   first | refine ⟨_,_,_,.pure p2 (by simp [l2]),?_⟩ | refine ⟨_,⟨_,_,.pure p2 (by simp [l2])⟩,?_⟩ | refine ⟨_,_,⟨_,.pure p2 (by simp [l2])⟩,?_⟩
   simp
   refine ⟨by simp [indAll,snocF,indF,memN],?_⟩
   intro gm3
   have lt0 : ¬ b0 < f0:=Nat.not_lt.2 hu0
   have lt1 : ¬ b1 < f1:=Nat.not_lt.2 hu1
   simp [hn',netsC_len,h3f,h3b,eqOkB,eqCells,natsT_len,h3r,lt0,lt1,hu0,hu1]
   refine BrB.of (fun hr0=>?_) (fun hr0=>?_)
   ·obtain ⟨rfl,rfl⟩:=hsn2 (of_decide_eq_true hr0)
    simp [hr0,hn',netsC_len,h3f,h3b,eqOkB,eqCells,hw]
    exact ⟨⟨n + 1⟩,hn',by simp,by dsimp only; omega⟩
   ·simp [hr0,hw]
    exact ⟨⟨n + 1⟩,hn',by simp,by dsimp only; omega⟩
 ·simp
  refine CallO.pure lives_c rfl ?_
  simp
end Go.Proofs.YtcmblmkbdenakaaDoor
