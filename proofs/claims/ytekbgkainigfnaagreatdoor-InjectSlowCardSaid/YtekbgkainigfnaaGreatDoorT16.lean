/- Transitions and faults: the functions' code as the run takes it (a law). Conditions: none. -/
import Derived.Test.YtekbgkainigfnaaGreatDoorXT
import Derived.Test.YtekbgkainigfnaaGreatDoorT12
import Derived.Test.YtekbgkainigfnaaGreatDoorT14
set_option linter.unusedSimpArgs false
set_option linter.unusedVariables false
namespace Go.Proofs.YtekbgkainigfnaaGreatDoor
open Go
def x11 : XC:=(.seq (.ops [od 2 (.box (.t 0)),od 3 (.box (.t 1)),od 4 (.mv (.c (.bool false)))]) (.seq (.ops [od 21 (.fieldA 12 (.t 2)),od 22 (.fieldA 0 (.t 21)),⟨none,none,.store 1 (.t 22) (.c (.int .u8 1))⟩]) (.seq (.ops [od 24 (.load true 19 (.t 2)),od 25 (.call (.f 30) [.t 24]),od 23 (.mv (.t 25)),od 26 (.extract (.t 23) 0),od 27 (.extract (.t 23) 1),od 28 (.extract (.t 23) 2),od 5 (.alloc (.agg [.nil,.nil,.nil,.nil])),od 6 (.alloc (.agg [.int .u8 0,.int .i64 0,.int .i64 0,.int .u8 0,.int .i64 0])),od 7 (.alloc (.agg [.nil,.nil])),⟨none,none,.store 4 (.t 5) (.t 26)⟩,⟨none,none,.store 5 (.t 6) (.t 27)⟩,⟨none,none,.store 2 (.t 7) (.t 28)⟩]) (.seq (.ops [od 29 (.load true 2 (.t 3)),od 30 (.load true 4 (.t 5)),od 31 (.call (.f 38) [.t 29,.t 30]),od 8 (.alloc (.agg [.nil,.nil])),⟨none,none,.store 2 (.t 8) (.t 31)⟩]) (.seq (.ops [od 33 (.load true 4 (.t 5)),od 34 (.load true 2 (.t 7)),od 35 (.call (.f 15) [.t 33,.t 34]),od 32 (.mv (.t 35)),od 36 (.extract (.t 32) 0),od 37 (.extract (.t 32) 1),od 38 (.extract (.t 32) 2),od 9 (.alloc (.agg [.nil,.nil])),⟨none,none,.store 2 (.t 9) (.t 36)⟩,od 10 (.mv (.t 37)),od 11 (.mv (.t 38))]) (.seq (.ops [od 40 (.load true 4 (.t 5)),od 41 (.load true 2 (.t 8)),od 42 (.call (.f 15) [.t 40,.t 41]),od 39 (.mv (.t 42)),od 43 (.extract (.t 39) 0),od 44 (.extract (.t 39) 1),od 45 (.extract (.t 39) 2),od 12 (.alloc (.agg [.nil,.nil])),⟨none,none,.store 2 (.t 12) (.t 43)⟩,od 13 (.mv (.t 44)),od 14 (.mv (.t 45))]) (.seq (.ops [od 47 (.load true 4 (.t 5)),od 48 (.load true 5 (.t 6)),od 49 (.load true 2 (.t 7)),od 50 (.load true 2 (.t 8)),od 51 (.call (.f 29) [.t 47,.t 48,.t 49,.t 50]),od 46 (.mv (.t 51)),od 52 (.extract (.t 46) 0),od 53 (.extract (.t 46) 1),od 15 (.mv (.t 52)),od 16 (.mv (.t 53))]) (.seq (.seq (.ops [od 54 (.mv (.t 11)),od 55 (.bin .neq (.t 54) (.c (.int .i64 0))),od 56 (.mv (.t 55)),og 57 56 false (.mv (.t 14)),og 58 56 false (.bin .neq (.t 57) (.c (.int .i64 0))),od 59 (.pick (.t 56) (.c (.bool true)) (.t 58)),od 60 (.mv (.t 59)),og 61 60 false (.mv (.t 16)),og 62 60 false (.bin .neq (.t 61) (.c (.int .i64 0))),od 63 (.pick (.t 60) (.c (.bool true)) (.t 62)),od 64 (.mv (.t 63)),og 65 64 false (.mv (.t 10)),og 66 64 false (.len (.t 65)),og 67 64 false (.fieldA 0 (.t 5)),og 68 64 false (.load false 1 (.t 67)),og 69 64 false (.len (.t 68)),og 70 64 false (.bin .neq (.t 66) (.t 69)),od 71 (.pick (.t 64) (.c (.bool true)) (.t 70)),od 72 (.mv (.t 71)),og 73 72 false (.mv (.t 13)),og 74 72 false (.len (.t 73)),og 75 72 false (.mv (.t 10)),og 76 72 false (.len (.t 75)),og 77 72 false (.bin .neq (.t 74) (.t 76)),od 78 (.pick (.t 72) (.c (.bool true)) (.t 77)),od 79 (.mv (.t 78)),og 80 79 false (.mv (.t 10)),og 81 79 false (.len (.t 80)),og 82 79 false (.bin .eql (.t 81) (.c (.int .i64 0))),od 83 (.pick (.t 79) (.c (.bool true)) (.t 82))]) (.cond (.t 83) (.seq (.ops [od 4 (.mv (.c (.bool false)))]) .ret) .skip)) (.seq (.seq (.ops [od 17 (.mv (.c (.int .i64 0)))]) (.block 0 (.loop (.seq (.seq (.ops [od 84 (.mv (.t 17)),od 85 (.mv (.t 10)),od 86 (.len (.t 85)),od 87 (.bin .lss (.t 84) (.t 86))]) (.cond (.t 87) .skip (.exit 0))) (.seq (.block 1 (.seq (.ops [od 90 (.mv (.t 10)),od 91 (.mv (.t 17)),od 92 (.idxA 1 (.t 90) (.t 91)),od 93 (.load false 1 (.t 92)),od 94 (.bin .gtr (.t 93) (.c (.int .u8 1))),od 95 (.mv (.t 94)),og 96 95 false (.mv (.t 13)),og 97 95 false (.mv (.t 17)),og 98 95 false (.idxA 1 (.t 96) (.t 97)),og 99 95 false (.load false 1 (.t 98)),og 100 95 false (.bin .gtr (.t 99) (.c (.int .u8 1))),od 101 (.pick (.t 95) (.c (.bool true)) (.t 100))]) (.cond (.t 101) (.seq (.ops [od 102 (.call (.f 32) []),od 4 (.mv (.t 102))]) .ret) .skip))) (.ops [od 88 (.mv (.t 17)),od 89 (.bin .add (.t 88) (.c (.int .i64 1))),od 17 (.mv (.t 89))])))))) (.seq (.ops [od 103 (.fieldA 1 (.t 6)),od 104 (.fieldA 0 (.t 103)),od 105 (.load false 1 (.t 104)),od 18 (.mv (.t 105))]) (.seq (.seq (.ops [od 106 (.fieldA 1 (.t 6)),od 107 (.fieldA 1 (.t 106)),od 108 (.load false 1 (.t 107)),od 109 (.bin .geq (.t 108) (.c (.int .i64 0)))]) (.cond (.t 109) (.reg [od 110 (.fieldA 0 (.t 5)),od 111 (.load false 1 (.t 110)),od 112 (.mv (.t 18)),od 113 (.idxA 4 (.t 111) (.t 112)),od 114 (.fieldA 1 (.t 113)),od 115 (.load false 1 (.t 114)),od 116 (.fieldA 1 (.t 6)),od 117 (.fieldA 1 (.t 116)),od 118 (.load false 1 (.t 117)),od 119 (.idxA 1 (.t 115) (.t 118)),od 120 (.load false 1 (.t 119)),od 18 (.mv (.t 120))] []) .skip)) (.seq (.reg [od 122 (.load true 4 (.t 5)),od 123 (.fieldA 1 (.t 6)),od 124 (.load true 2 (.t 123)),od 125 (.fieldA 3 (.t 6)),od 126 (.load false 1 (.t 125)),od 127 (.call (.f 27) [.t 126]),od 128 (.build [.int .u8 0,.int .i64 0,.int .i64 0,.int .u8 0,.int .i64 0] [(1,(2,.t 124)),(3,(1,.t 127))]),od 129 (.load true 2 (.t 8)),od 130 (.call (.f 26) [.t 122,.t 128,.t 129]),od 121 (.mv (.t 130)),od 131 (.extract (.t 121) 0),od 132 (.extract (.t 121) 1),od 19 (.mv (.t 131)),od 20 (.mv (.t 132))] [(0,5),(2,5),(5,7)]) (.seq (.reg [od 133 (.mv (.t 20)),od 134 (.bin .eql (.t 133) (.c (.int .i64 0))),od 135 (.mv (.t 134)),og 136 135 true (.mv (.t 15)),og 137 135 true (.mv (.t 10)),og 138 135 true (.mv (.t 18)),og 139 135 true (.idxA 1 (.t 137) (.t 138)),og 140 135 true (.load false 1 (.t 139)),og 141 135 true (.fieldA 3 (.t 6)),og 142 135 true (.load false 1 (.t 141)),og 143 135 true (.call (.f 27) [.t 142]),og 144 135 true (.bin .eql (.t 140) (.t 143)),og 145 135 true (.mv (.t 144)),og 146 145 true (.mv (.t 19)),og 147 135 true (.pick (.t 145) (.t 146) (.c (.bool false))),og 148 135 true (.beq false (.t 136) (.t 147)),od 149 (.pick (.t 135) (.t 148) (.c (.bool false))),od 150 (.mv (.t 149)),og 151 150 true (.call (.f 32) []),od 152 (.pick (.t 150) (.t 151) (.c (.bool false))),od 4 (.mv (.t 152))] [(6,10),(7,10)]) .ret)))))))))))))
def i11 : FnI:=⟨153,[.tmp 4],x11⟩
theorem ok11 : FiOk Tryz.prog 11 i11:=⟨_,_,Tryz.func11,rfl,by decide,by kernel_rfl,by kernel_rfl,by kernel_rfl⟩
end Go.Proofs.YtekbgkainigfnaaGreatDoor
namespace Go.Proofs.YtekbgkainigfnaaGreatDoor
open Go
theorem opp_ok2 {c : Ci} {f : Ft} (hf : f.ok c) : f.opp.ok c:=⟨by simp [Ft.opp],hf.n,hf.q,not1 hf.v,hf.o⟩
set_option maxRecDepth 100000 in
set_option maxHeartbeats 8000000 in
theorem law11_c (x : Cx) (hx : x.ok) (z : Fx) (hz : z.ok) (p q : Pt) : PureC Tryz.prog gl0 11 [caseJ x z p,q.v] (.bool true):=by
  have hg:=nm_good x
  have hzo : ({ z with m:=1 } : Fx).ok:=⟨by simp,hz.n,hz.p,hz.o⟩
  have hfo:=fof_c x.nm.ci hg { z with m:=1 } hzo 1 rfl (by omega)
  have hcs:=caseJ_c x hx { z with m:=1 } _ hfo p
  have hcp:=caseJ_pure x { z with m:=1 } p
  generalize x.nm.ci = c at hcs hg
  have hn0:=hg.n0
  have hn1:=hg.n1
  have hfk:=of_ok c hg { z with m:=1 } 1 (by omega)
  have hfm : (Fx.of c { z with m:=1 } 1).m = 1:=rfl
  generalize Fx.of c { z with m:=1 } 1 = f at hcs hfk hfm
  have hq2:=pofV_c q c (by omega)
  have ha:=pof_fit c p
  have hb:=pof_fit c q
  generalize pof c p = p1 at hcs ha
  generalize pof c q = p2 at hq2 hb
  have hd:=pairD_c c hg f hfk hfm p1 p2 ha hb
  have hkn:=pairB_at hg hfk (a:=p1) hb
  have hst:=detS_c c hg f.opp (opp_ok2 hfk) rfl p2 hb
  have hno:=lnot_c f.v
  have hSB : seenB (obsO c (netN c p2)) (obsS c (netN c p2)) (obsMO c (netM c (atW f.opp fun _=>f.opp.v) (atQ f.opp fun _=>f.opp.v) p2)) (obsMS c (atQ f.opp fun _=>f.opp.v) (netM c (atW f.opp fun _=>f.opp.v) (atQ f.opp fun _=>f.opp.v) p2)) = stkB c f.opp p2:=rfl
  rw [hSB] at hst
  have r1:=run_c c hg p1 ha
  have r2:=run_c c hg p2 hb
  have hnl:=net_lt hg hfk.n hfk.q
  have hq:=hfk.q
  have hfn:=hfk.n
  have hval:=hg.val.i f.n hfn
  obtain ⟨y,hy⟩ : ∃ y,c.n[f.n] = y:=⟨_,rfl⟩
  have hnet : f.net c = if f.q = 0 then f.n else ((y.i.getD (f.q - 1) 0).toNat):=by unfold Ft.net; rw [c.nd_get hfn,hy]
  rw [c.nd_get hfn,hy] at hq hval
  have hoo:=hfk.o
  generalize stkB c f.opp p2 = SB at hkn hst
  generalize pairB c f p1 p2 = PB at hkn hd
  simp only [Ft.opp,Ft.w,u8V,natV,hoo] at hst
  generalize f.net c = n at hnl hnet hkn
  generalize netN c p1 = A at r1 hkn
  generalize netN c p2 = B at r2 hkn
  generalize obsO c A = O1 at r1
  generalize obsS c A = S1 at r1
  generalize obsO c B = O2 at r2
  generalize obsS c B = S2 at r2
  generalize notN f.v = nv at hst hno hkn
  simp only [rspV,Pt.v] at r1 r2 hd hst hcs hq2
  simp only [caseJ] at hcs hcp
  change PureC _ _ _ [_,.agg [_,_,.int .i64 f.pin,_,_],_] _ at hst
  simp only [u8V] at hno
  have hne : c.n ≠ []:=by intro e; rw [e] at hn0; simp at hn0
  refine PureC.of_W 2 ok11 rfl ?_
  simp [i11,x11,caseJ,u8V]
  intro gf1 gf2
  refine CallO.pure hcs hcp ?_
  simp
  intro gf3 gf4 gf5
  generalize gf3 5 = g5
  generalize gf4 6 = g6
  refine CallO.pure hq2 (by simp) ?_
  simp
  intro gf6
  generalize gf6 8 = g8
  refine CallO.pure r1 (by simp) ?_
  simp
  intro gf7
  refine CallO.pure r2 (by simp) ?_
  simp
  intro gf8
  refine CallO.pure hd (by simp [natV,u8V]) ?_
  simp [hne]
  refine LoopP.of (X:=Nat) (fun i=>[(17,natV i),(15,.bool PB),(13,.sl (tab c.n.length fun i=>u8V (B i)) (some c.n.length)),(10,.sl (tab c.n.length fun i=>u8V (A i)) (some c.n.length)),(5,.ptr 5 g5 0 0),(6,.ptr 6 g6 0 0),(8,.ptr 8 g8 0 0)])
    (fun _=>[(8,.row g8 2 [.agg [.sl (p2.i.map u8V) none,.sl (p2.s.map u8V) none]]),(6,.row g6 5 [f.w]),(5,.row g5 4 [c.v])])
    (fun i=>i ≤ c.n.length∧∀ j,j < i→A j ≤ 1∧B j ≤ 1) (fun i=>c.n.length - i) 0 ⟨by omega,fun j hj=>by omega⟩ (by simp [natV]) (by simp; exact ⟨rfl,rfl⟩) ?_
  rintro i ⟨q1,q2⟩
  simp [natV]
  refine BrB.of (fun hb=>?_) (fun hb=>?_)
  · have hi : i < c.n.length:=of_decide_eq_true hb
    have hw:=wrapN i (by omega)
    obtain ⟨xa,hxa⟩ : ∃ xa,A i = xa:=⟨_,rfl⟩
    obtain ⟨xb,hxb⟩ : ∃ xb,B i = xb:=⟨_,rfl⟩
    simp [hi,tab_get,hxa,hxb,u8V]
    by_cases h1 : 1 < xa
    · simp [h1]
      refine CallO.pure livesJ_c rfl ?_
      simp
    by_cases h2 : 1 < xb
    · simp [h1,h2,hi,tab_get,hxb,u8V]
      refine CallO.pure livesJ_c rfl ?_
      simp
    · simp [h1,h2,hi,tab_get,hxb,u8V,hw]
      refine ⟨i + 1,⟨hi,fun j hj=>?_⟩,rfl,by omega⟩
      by_cases e : j = i
      · subst e; omega
      · exact q2 j (by omega)
  · have hi : i = c.n.length:=by have:=of_decide_eq_false hb; omega
    subst hi
    obtain ⟨k1,k2⟩:=q2 n hnl
    have hkn2:=hkn k1 k2
    obtain ⟨xa,hxa⟩ : ∃ xa,A n = xa:=⟨_,rfl⟩
    rw [hxa] at hkn2
    by_cases h0 : f.q = 0
    case' pos=>
      have h1 : ¬ (0 : Int) ≤ f.pin:=by unfold Ft.pin; omega
      rw [if_pos h0] at hnet
      subst hnet
      simp [h1,natV,u8V]
    case' neg=>
      obtain ⟨k,hk⟩ : ∃ k,f.q = k + 1:=⟨f.q - 1,by omega⟩
      have hkl : k < y.i.length:=by omega
      have h1 : f.pin = (k : Int):=by unfold Ft.pin; omega
      rw [if_neg h0,hk,Nat.add_sub_cancel,List.getD_eq_getElem?_getD,List.getElem?_eq_getElem hkl] at hnet
      simp only [Option.getD_some] at hnet
      have h2:=hval _ (List.getElem_mem hkl)
      obtain ⟨m,hm⟩ : ∃ m : Nat,y.i[k] = (m : Int):=⟨(y.i[k]).toNat,by omega⟩
      rw [hm,Int.toNat_natCast] at hnet
      subst hnet
      rw [h1] at hst
      simp [h1,natV,u8V]
      intro gm
      simp [hfn,hy,hkl,ints_getE,hm,h1,natV,u8V]
    all_goals
      intro gm2
      first | refine ⟨_,_,_,.pure hno (by simp [V.pureL,V.pure]),?_⟩ | refine ⟨_,⟨_,_,.pure hno (by simp [V.pureL,V.pure])⟩,?_⟩ | refine ⟨_,_,⟨_,.pure hno (by simp [V.pureL,V.pure])⟩,?_⟩
      simp
      first | refine ⟨_,_,_,.pure hst (by simp [V.pureL,V.pure]),?_⟩ | refine ⟨_,⟨_,_,.pure hst (by simp [V.pureL,V.pure])⟩,?_⟩ | refine ⟨_,_,⟨_,.pure hst (by simp [V.pureL,V.pure])⟩,?_⟩
      simp [hnl,hfn,tab_get,hxa]
      refine ⟨rfl,?_⟩
      intro gm3
      first | refine ⟨_,_,_,.pure hno (by simp [V.pureL,V.pure,u8V]),?_⟩ | refine ⟨_,⟨_,_,.pure hno (by simp [V.pureL,V.pure,u8V])⟩,?_⟩ | refine ⟨_,_,⟨_,.pure hno (by simp [V.pureL,V.pure,u8V])⟩,?_⟩
      by_cases e1 : xa = nv
      case' pos=>
        rw [decide_eq_true e1,Bool.true_and] at hkn2
        rw [hkn2]
        simp [e1]
      case' neg=>
        rw [decide_eq_false e1,Bool.false_and] at hkn2
        rw [hkn2]
        simp [e1]
    all_goals
      first | refine ⟨_,_,_,.pure livesJ_c rfl,?_⟩ | refine ⟨_,⟨_,_,.pure livesJ_c rfl⟩,?_⟩ | refine ⟨_,_,⟨_,.pure livesJ_c rfl⟩,?_⟩
      simp
      try rfl
end Go.Proofs.YtekbgkainigfnaaGreatDoor
