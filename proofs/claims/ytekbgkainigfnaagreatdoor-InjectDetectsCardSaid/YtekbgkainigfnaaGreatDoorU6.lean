/- Transitions and faults: the functions' code as the run takes it (a law). Conditions: none. -/
import Derived.Test.YtekbgkainigfnaaGreatDoorXT
import Derived.Test.YtekbgkainigfnaaGreatDoorU5
set_option linter.unusedSimpArgs false
set_option linter.unusedVariables false
namespace Go.Proofs.YtekbgkainigfnaaGreatDoor
open Go
def x9 : XC:=(.seq (.ops [od 1 (.box (.t 0)),od 2 (.mv (.c (.bool false)))]) (.seq (.ops [od 17 (.load true 19 (.t 1)),od 18 (.call (.f 30) [.t 17]),od 16 (.mv (.t 18)),od 19 (.extract (.t 16) 0),od 20 (.extract (.t 16) 1),od 21 (.extract (.t 16) 2),od 3 (.alloc (.agg [.nil,.nil,.nil,.nil])),od 4 (.alloc (.agg [.int .u8 0,.int .i64 0,.int .i64 0,.int .u8 0,.int .i64 0])),od 5 (.alloc (.agg [.nil,.nil])),⟨none,none,.store 4 (.t 3) (.t 19)⟩,⟨none,none,.store 5 (.t 4) (.t 20)⟩,⟨none,none,.store 2 (.t 5) (.t 21)⟩]) (.seq (.ops [od 23 (.load true 4 (.t 3)),od 24 (.load true 5 (.t 4)),od 25 (.load true 2 (.t 5)),od 26 (.call (.f 26) [.t 23,.t 24,.t 25]),od 22 (.mv (.t 26)),od 27 (.extract (.t 22) 0),od 28 (.extract (.t 22) 1),od 6 (.mv (.t 27)),od 7 (.mv (.t 28))]) (.seq (.seq (.ops [od 29 (.fieldA 0 (.t 4)),od 30 (.load false 1 (.t 29)),od 31 (.bin .eql (.t 30) (.c (.int .u8 1)))]) (.cond (.t 31) (.seq (.ops [od 32 (.mv (.t 7)),od 33 (.bin .eql (.t 32) (.c (.int .i64 7))),od 34 (.mv (.t 33)),og 35 34 true (.mv (.t 6)),og 36 34 true (.un .not (.t 35)),od 37 (.pick (.t 34) (.t 36) (.c (.bool false))),od 38 (.mv (.t 37)),og 39 38 true (.call (.f 32) []),od 40 (.pick (.t 38) (.t 39) (.c (.bool false))),od 2 (.mv (.t 40))]) .ret) .skip)) (.seq (.ops [od 42 (.load true 4 (.t 3)),od 43 (.load true 2 (.t 5)),od 44 (.call (.f 15) [.t 42,.t 43]),od 41 (.mv (.t 44)),od 45 (.extract (.t 41) 0),od 46 (.extract (.t 41) 1),od 47 (.extract (.t 41) 2),od 8 (.alloc (.agg [.nil,.nil])),⟨none,none,.store 2 (.t 8) (.t 45)⟩,od 9 (.mv (.t 46)),od 10 (.mv (.t 47))]) (.seq (.ops [od 49 (.load true 4 (.t 3)),od 50 (.load true 5 (.t 4)),od 51 (.load true 2 (.t 5)),od 52 (.call (.f 31) [.t 49,.t 50,.t 51]),od 48 (.mv (.t 52)),od 53 (.extract (.t 48) 0),od 54 (.extract (.t 48) 1),od 55 (.extract (.t 48) 2),od 11 (.alloc (.agg [.nil,.nil])),⟨none,none,.store 2 (.t 11) (.t 53)⟩,od 12 (.mv (.t 54)),od 13 (.mv (.t 55))]) (.seq (.ops [od 57 (.load true 2 (.t 8)),od 58 (.load true 2 (.t 11)),od 59 (.call (.f 36) [.t 57,.t 58]),od 56 (.mv (.t 59)),od 60 (.extract (.t 56) 0),od 61 (.extract (.t 56) 1),od 14 (.mv (.t 60)),od 15 (.mv (.t 61))]) (.seq (.seq (.ops [od 62 (.mv (.t 7)),od 63 (.bin .neq (.t 62) (.c (.int .i64 0))),od 64 (.mv (.t 63)),og 65 64 false (.mv (.t 10)),og 66 64 false (.bin .neq (.t 65) (.c (.int .i64 0))),od 67 (.pick (.t 64) (.c (.bool true)) (.t 66)),od 68 (.mv (.t 67)),og 69 68 false (.mv (.t 13)),og 70 68 false (.bin .neq (.t 69) (.c (.int .i64 0))),od 71 (.pick (.t 68) (.c (.bool true)) (.t 70)),od 72 (.mv (.t 71)),og 73 72 false (.mv (.t 9)),og 74 72 false (.len (.t 73)),og 75 72 false (.fieldA 0 (.t 3)),og 76 72 false (.load false 1 (.t 75)),og 77 72 false (.len (.t 76)),og 78 72 false (.bin .neq (.t 74) (.t 77)),od 79 (.pick (.t 72) (.c (.bool true)) (.t 78)),od 80 (.mv (.t 79)),og 81 80 false (.fieldA 0 (.t 3)),og 82 80 false (.load false 1 (.t 81)),og 83 80 false (.len (.t 82)),og 84 80 false (.bin .eql (.t 83) (.c (.int .i64 0))),od 85 (.pick (.t 80) (.c (.bool true)) (.t 84)),od 86 (.mv (.t 85)),og 87 86 false (.mv (.t 6)),og 88 86 false (.mv (.t 14)),og 89 86 false (.len (.t 88)),og 90 86 false (.mv (.t 15)),og 91 86 false (.len (.t 90)),og 92 86 false (.bin .add (.t 89) (.t 91)),og 93 86 false (.bin .gtr (.t 92) (.c (.int .i64 0))),og 94 86 false (.beq true (.t 87) (.t 93)),od 95 (.pick (.t 86) (.c (.bool true)) (.t 94))]) (.cond (.t 95) (.seq (.ops [od 2 (.mv (.c (.bool false)))]) .ret) .skip)) (.seq (.seq (.reg [od 96 (.fieldA 0 (.t 4)),od 97 (.load false 1 (.t 96)),od 98 (.bin .eql (.t 97) (.c (.int .u8 0))),od 99 (.mv (.t 98)),og 100 99 true (.fieldA 1 (.t 4)),og 101 99 true (.fieldA 1 (.t 100)),og 102 99 true (.load false 1 (.t 101)),og 103 99 true (.bin .eql (.t 102) (.c (.int .i64 (-1)))),od 104 (.pick (.t 99) (.t 103) (.c (.bool false))),od 105 (.mv (.t 104)),og 106 105 true (.fieldA 3 (.t 3)),og 107 105 true (.load false 1 (.t 106)),og 108 105 true (.fieldA 1 (.t 4)),og 109 105 true (.fieldA 0 (.t 108)),og 110 105 true (.load false 1 (.t 109)),og 111 105 true (.call (.f 37) [.t 107,.t 110]),og 112 105 true (.bin .geq (.t 111) (.c (.int .i64 0))),od 113 (.pick (.t 105) (.t 112) (.c (.bool false))),od 114 (.mv (.t 113)),og 115 114 true (.mv (.t 9)),og 116 114 true (.fieldA 1 (.t 4)),og 117 114 true (.fieldA 0 (.t 116)),og 118 114 true (.load false 1 (.t 117)),og 119 114 true (.idxA 1 (.t 115) (.t 118)),og 120 114 true (.load false 1 (.t 119)),og 121 114 true (.fieldA 3 (.t 4)),og 122 114 true (.load false 1 (.t 121)),og 123 114 true (.call (.f 27) [.t 122]),og 124 114 true (.bin .eql (.t 120) (.t 123)),od 125 (.pick (.t 114) (.t 124) (.c (.bool false))),od 126 (.mv (.t 125)),og 127 126 true (.mv (.t 6)),og 128 126 true (.un .not (.t 127)),od 129 (.pick (.t 126) (.t 128) (.c (.bool false)))] [(22,27),(23,27),(24,27)]) (.cond (.t 129) (.seq (.ops [od 2 (.mv (.c (.bool false)))]) .ret) .skip)) (.seq (.ops [od 130 (.call (.f 32) []),od 2 (.mv (.t 130))]) .ret))))))))))
def i9 : FnI:=⟨131,[.tmp 2],x9⟩
theorem ok9 : FiOk Tryz.prog 9 i9:=⟨_,_,Tryz.func9,rfl,by decide,by kernel_rfl,by kernel_rfl,by kernel_rfl⟩
end Go.Proofs.YtekbgkainigfnaaGreatDoor
namespace Go.Proofs.YtekbgkainigfnaaGreatDoor
open Go
set_option maxRecDepth 100000 in
set_option maxHeartbeats 8000000 in
theorem law9_c (x : Cx) (hx : x.ok) (z : Fx) (hz : z.ok) (p : Pt) : PureC Tryz.prog gl0 9 [caseJ x z p] (.bool true):=by
  have hg:=nm_good x
  obtain ⟨f,hfo,hfk⟩:=fofA_c x.nm.ci hg z hz
  have hcs:=caseJ_c x hx z _ hfo p
  have hcp:=caseJ_pure x z p
  generalize x.nm.ci = c at hcs hg hfk
  have hn0:=hg.n0
  have hn1:=hg.n1
  have ha:=pof_fit c p
  generalize pof c p = p1 at hcs ha
  have hne : c.n ≠ []:=by intro e; rw [e] at hn0; simp at hn0
  simp only [caseJ,Pt.v] at hcs hcp
  rcases hfk with ⟨-,hm1,hfk⟩ | ⟨-,hfk⟩
  · have hd:=detSl_c c hg f hfk hm1 p1
    simp only [Pt.v] at hd
    refine PureC.of_W 2 ok9 rfl ?_
    simp [i9,x9,caseJ,u8V]
    intro gf1
    refine CallO.pure hcs (by simpa [u8V] using hcp) ?_
    simp
    intro gf3 gf4 gf5
    refine CallO.pure hd (by simp [natV,u8V]) ?_
    simp [hm1,u8V]
    refine CallO.pure livesJ_c rfl ?_
    simp
  · have hd:=detA_c c hg f hfk p1 ha
    have r1:=run_c c hg p1 ha
    have r2:=runA_c c hg f hfk p1 ha
    have hno : c.o.length ≤ 16384:=(sh_len hg.sh).2.2.2
    have l1:=cnt_le 14 c.n
    have e1:=obsO_len c (netN c p1)
    have e2:=obsS_len c (netN c p1)
    have hdf:=differ_c (obsO c (netN c p1)) (obsS c (netN c p1)) (f.O c p1) (f.S c p1) (by omega) (by omega)
    have hix:=index_c c.o none (f.n : Int) (by omega)
    have hln:=lnot_c f.v
    have hout:=fun hm hq=>det_out c hg f hm hq hfk.n hfk.v p1
    have hm1 : ¬ f.m = 1:=by have:=hfk.m; omega
    have hnl:=hfk.n
    have hdet : f.det c p1 = decide (0 < (cons (obsO c (netN c p1)) (f.O c p1)).length + (cons (obsS c (netN c p1)) (f.S c p1)).length):=rfl
    have c1:=cons_len (obsO c (netN c p1)) (f.O c p1)
    have c2:=cons_len (obsS c (netN c p1)) (f.S c p1)
    rw [e1] at c1
    rw [e2] at c2
    generalize cons (obsO c (netN c p1)) (f.O c p1) = K1 at hdf hdet c1
    generalize cons (obsS c (netN c p1)) (f.S c p1) = K2 at hdf hdet c2
    generalize f.det c p1 = D at hd hdet hout
    generalize f.O c p1 = O2 at r2 hdf
    generalize f.S c p1 = S2 at r2 hdf
    generalize f.M c p1 = M at r2
    generalize obsO c (netN c p1) = O1 at r1 hdf
    generalize obsS c (netN c p1) = S1 at r1 hdf
    generalize netN c p1 = A at r1 hout
    generalize notN f.v = nv at hln hout
    generalize idR (f.n : Int) c.o = I at hix hout
    obtain ⟨L,hL⟩ : ∃ L,K1.length + K2.length = L:=⟨_,rfl⟩
    have hw : IntKind.i64.wrap ((K1.length : Int) + (K2.length : Int)) = (L : Int):=by rw [wrap_i64] <;> omega
    rw [hL] at hdet
    obtain ⟨xa,hxa⟩ : ∃ xa,A f.n = xa:=⟨_,rfl⟩
    rw [hxa] at hout
    simp only [rspV,Pt.v,u8V] at hd r1 r2 hdf hln
    refine PureC.of_W 2 ok9 rfl ?_
    simp [i9,x9,caseJ,u8V]
    intro gf1
    refine CallO.pure hcs (by simpa [u8V] using hcp) ?_
    simp
    intro gf3 gf4 gf5
    refine CallO.pure hd (by simp [natV,u8V]) ?_
    simp [hm1,u8V]
    refine CallO.pure r1 (by simp) ?_
    simp
    intro gf6
    refine CallO.pure r2 (by simp [natV,u8V]) ?_
    simp
    intro gf7
    refine CallO.pure hdf (by simp) ?_
    simp [hne,hw,← hdet]
    intro gm
    by_cases hm : f.m = 0
    case' neg=>simp [hm]
    case' pos=>
      by_cases hq : f.q = 0
      case' neg=>
        have hp : ¬ f.pin = -1:=by unfold Ft.pin; omega
        simp [hm,hp]
      case' pos=>
        have hp : f.pin = -1:=by unfold Ft.pin; omega
        simp [hm,hp,natV]
        first | refine ⟨_,_,_,.pure hix (by simp [V.pureL,V.pure]),?_⟩ | refine ⟨_,⟨_,_,.pure hix (by simp [V.pureL,V.pure])⟩,?_⟩ | refine ⟨_,_,⟨_,.pure hix (by simp [V.pureL,V.pure])⟩,?_⟩
        by_cases hI : 0 ≤ I
        case' neg=>simp [hI]
        case' pos=>
          simp [hI,hnl,tab_get,hxa]
          first | refine ⟨_,_,_,.pure hln (by simp [V.pureL,V.pure,u8V]),?_⟩ | refine ⟨_,⟨_,_,.pure hln (by simp [V.pureL,V.pure,u8V])⟩,?_⟩ | refine ⟨_,_,⟨_,.pure hln (by simp [V.pureL,V.pure,u8V])⟩,?_⟩
          by_cases e : xa = nv
          case' neg=>simp [e]
          case' pos=>
            have hD:=hout hm hq hI e
            simp [e,hD]
    all_goals
      refine ⟨rfl,?_⟩
      refine CallO.pure livesJ_c rfl ?_
      simp
end Go.Proofs.YtekbgkainigfnaaGreatDoor
