/- Transitions and faults: the functions' code as the run takes it (a law). Conditions: none. -/
import Derived.Test.YtekbgkainigfnaaGreatDoorXT
import Derived.Test.YtekbgkainigfnaaGreatDoorU10
import Derived.Test.YtekbgkainigfnaaGreatDoorT14
set_option linter.unusedSimpArgs false
set_option linter.unusedVariables false
namespace Go.Proofs.YtekbgkainigfnaaGreatDoor
open Go
def x12 : XC:=(.seq (.ops [od 2 (.box (.t 0)),od 3 (.box (.t 1)),od 4 (.mv (.c (.bool false)))]) (.seq (.ops [od 26 (.fieldA 12 (.t 2)),od 27 (.fieldA 0 (.t 26)),⟨none,none,.store 1 (.t 27) (.c (.int .u8 1))⟩]) (.seq (.ops [od 29 (.load true 19 (.t 2)),od 30 (.call (.f 30) [.t 29]),od 28 (.mv (.t 30)),od 31 (.extract (.t 28) 0),od 32 (.extract (.t 28) 1),od 33 (.extract (.t 28) 2),od 5 (.alloc (.agg [.nil,.nil,.nil,.nil])),od 6 (.alloc (.agg [.int .u8 0,.int .i64 0,.int .i64 0,.int .u8 0,.int .i64 0])),od 7 (.alloc (.agg [.nil,.nil])),⟨none,none,.store 4 (.t 5) (.t 31)⟩,⟨none,none,.store 5 (.t 6) (.t 32)⟩,⟨none,none,.store 2 (.t 7) (.t 33)⟩]) (.seq (.ops [od 34 (.load true 2 (.t 3)),od 35 (.load true 4 (.t 5)),od 36 (.call (.f 38) [.t 34,.t 35]),od 8 (.alloc (.agg [.nil,.nil])),⟨none,none,.store 2 (.t 8) (.t 36)⟩]) (.seq (.ops [od 38 (.load true 4 (.t 5)),od 39 (.load true 2 (.t 7)),od 40 (.call (.f 15) [.t 38,.t 39]),od 37 (.mv (.t 40)),od 41 (.extract (.t 37) 0),od 42 (.extract (.t 37) 1),od 43 (.extract (.t 37) 2),od 9 (.alloc (.agg [.nil,.nil])),⟨none,none,.store 2 (.t 9) (.t 41)⟩,od 10 (.mv (.t 42)),od 11 (.mv (.t 43))]) (.seq (.seq (.ops [od 44 (.mv (.t 11)),od 45 (.bin .neq (.t 44) (.c (.int .i64 0))),od 46 (.mv (.t 45)),og 47 46 false (.mv (.t 10)),og 48 46 false (.len (.t 47)),og 49 46 false (.fieldA 0 (.t 5)),og 50 46 false (.load false 1 (.t 49)),og 51 46 false (.len (.t 50)),og 52 46 false (.bin .neq (.t 48) (.t 51)),od 53 (.pick (.t 46) (.c (.bool true)) (.t 52)),od 54 (.mv (.t 53)),og 55 54 false (.load true 4 (.t 5)),og 56 54 false (.load true 2 (.t 7)),og 57 54 false (.call (.f 33) [.t 55,.t 56]),og 58 54 false (.un .not (.t 57)),od 59 (.pick (.t 54) (.c (.bool true)) (.t 58)),od 60 (.mv (.t 59)),og 61 60 false (.load true 4 (.t 5)),og 62 60 false (.load true 2 (.t 8)),og 63 60 false (.call (.f 33) [.t 61,.t 62]),og 64 60 false (.un .not (.t 63)),od 65 (.pick (.t 60) (.c (.bool true)) (.t 64))]) (.cond (.t 65) (.seq (.ops [od 4 (.mv (.c (.bool false)))]) .ret) .skip)) (.seq (.ops [od 67 (.load true 4 (.t 5)),od 68 (.load true 2 (.t 8)),od 69 (.load true 5 (.t 6)),od 70 (.mv (.t 10)),od 71 (.call (.f 34) [.t 67,.t 68,.t 69,.t 70]),od 66 (.mv (.t 71)),od 72 (.extract (.t 66) 0),od 73 (.extract (.t 66) 1),od 12 (.alloc (.agg [.nil,.nil])),⟨none,none,.store 2 (.t 12) (.t 72)⟩,od 13 (.mv (.t 73))]) (.seq (.ops [od 75 (.load true 4 (.t 5)),od 76 (.load true 5 (.t 6)),od 77 (.load true 2 (.t 7)),od 78 (.load true 2 (.t 8)),od 79 (.call (.f 39) [.t 75,.t 76,.t 77,.t 78]),od 74 (.mv (.t 79)),od 80 (.extract (.t 74) 0),od 81 (.extract (.t 74) 1),od 82 (.extract (.t 74) 2),od 14 (.alloc (.agg [.nil,.nil])),⟨none,none,.store 2 (.t 14) (.t 80)⟩,od 15 (.mv (.t 81)),od 11 (.mv (.t 82))]) (.seq (.ops [od 84 (.load true 4 (.t 5)),od 85 (.load true 5 (.t 6)),od 86 (.load true 2 (.t 7)),od 87 (.load true 2 (.t 8)),od 88 (.call (.f 29) [.t 84,.t 85,.t 86,.t 87]),od 83 (.mv (.t 88)),od 89 (.extract (.t 83) 0),od 90 (.extract (.t 83) 1),od 16 (.mv (.t 89)),od 17 (.mv (.t 90))]) (.seq (.ops [od 92 (.load true 4 (.t 5)),od 93 (.load true 2 (.t 8)),od 94 (.call (.f 15) [.t 92,.t 93]),od 91 (.mv (.t 94)),od 95 (.extract (.t 91) 0),od 96 (.extract (.t 91) 1),od 97 (.extract (.t 91) 2),od 18 (.alloc (.agg [.nil,.nil])),⟨none,none,.store 2 (.t 18) (.t 95)⟩,od 19 (.mv (.t 96)),od 20 (.mv (.t 97))]) (.seq (.ops [od 99 (.load true 2 (.t 18)),od 100 (.load true 2 (.t 14)),od 101 (.call (.f 36) [.t 99,.t 100]),od 98 (.mv (.t 101)),od 102 (.extract (.t 98) 0),od 103 (.extract (.t 98) 1),od 21 (.mv (.t 102)),od 22 (.mv (.t 103))]) (.seq (.ops [od 105 (.load true 4 (.t 5)),od 106 (.fieldA 1 (.t 6)),od 107 (.load true 2 (.t 106)),od 108 (.build [.int .u8 0,.int .i64 0,.int .i64 0,.int .u8 0,.int .i64 0] [(1,(2,.t 107))]),od 109 (.load true 2 (.t 7)),od 110 (.load true 2 (.t 8)),od 111 (.call (.f 39) [.t 105,.t 108,.t 109,.t 110]),od 104 (.mv (.t 111)),od 112 (.extract (.t 104) 0),od 113 (.extract (.t 104) 1),od 114 (.extract (.t 104) 2),od 23 (.alloc (.agg [.nil,.nil])),⟨none,none,.store 2 (.t 23) (.t 112)⟩,od 24 (.mv (.t 113)),od 25 (.mv (.t 114))]) (.seq (.ops [od 115 (.mv (.t 11)),od 116 (.bin .eql (.t 115) (.c (.int .i64 0))),od 117 (.mv (.t 116)),og 118 117 true (.mv (.t 15)),og 119 117 true (.mv (.t 13)),og 120 117 true (.call (.f 35) [.t 118,.t 119]),od 121 (.pick (.t 117) (.t 120) (.c (.bool false))),od 122 (.mv (.t 121)),og 123 122 true (.fieldA 0 (.t 14)),og 124 122 true (.load false 1 (.t 123)),og 125 122 true (.fieldA 0 (.t 12)),og 126 122 true (.load false 1 (.t 125)),og 127 122 true (.call (.f 35) [.t 124,.t 126]),od 128 (.pick (.t 122) (.t 127) (.c (.bool false))),od 129 (.mv (.t 128)),og 130 129 true (.fieldA 1 (.t 14)),og 131 129 true (.load false 1 (.t 130)),og 132 129 true (.fieldA 1 (.t 12)),og 133 129 true (.load false 1 (.t 132)),og 134 129 true (.call (.f 35) [.t 131,.t 133]),od 135 (.pick (.t 129) (.t 134) (.c (.bool false))),od 136 (.mv (.t 135)),og 137 136 true (.mv (.t 17)),og 138 136 true (.bin .eql (.t 137) (.c (.int .i64 0))),od 139 (.pick (.t 136) (.t 138) (.c (.bool false))),od 140 (.mv (.t 139)),og 141 140 true (.mv (.t 20)),og 142 140 true (.bin .eql (.t 141) (.c (.int .i64 0))),od 143 (.pick (.t 140) (.t 142) (.c (.bool false))),od 144 (.mv (.t 143)),og 145 144 true (.mv (.t 16)),og 146 144 true (.mv (.t 21)),og 147 144 true (.len (.t 146)),og 148 144 true (.mv (.t 22)),og 149 144 true (.len (.t 148)),og 150 144 true (.bin .add (.t 147) (.t 149)),og 151 144 true (.bin .gtr (.t 150) (.c (.int .i64 0))),og 152 144 true (.beq false (.t 145) (.t 151)),od 153 (.pick (.t 144) (.t 152) (.c (.bool false))),od 154 (.mv (.t 153)),og 155 154 true (.mv (.t 25)),og 156 154 true (.bin .eql (.t 155) (.c (.int .i64 7))),od 157 (.pick (.t 154) (.t 156) (.c (.bool false))),od 158 (.mv (.t 157)),og 159 158 true (.call (.f 32) []),od 160 (.pick (.t 158) (.t 159) (.c (.bool false))),od 4 (.mv (.t 160))]) .ret)))))))))))))
def i12 : FnI:=⟨161,[.tmp 4],x12⟩
theorem ok12 : FiOk Tryz.prog 12 i12:=⟨_,_,Tryz.func12,rfl,by decide,by kernel_rfl,by kernel_rfl,by kernel_rfl⟩
end Go.Proofs.YtekbgkainigfnaaGreatDoor
namespace Go.Proofs.YtekbgkainigfnaaGreatDoor
open Go
theorem okM_slow {c : Ci} (hg : c.good) {f : Ft} (hf : f.ok c) : f.okM c:=by
  refine ⟨hf.n,hf.q,hf.v,by have:=hf.m; omega,by rw [hf.o]; exact hg.n0,fun h=>by have:=hf.m; omega⟩
theorem mG_slow {c : Ci} {f : Ft} (hf : f.ok c) (hm : f.m = 1) (a : Pt) : f.mG c (netN c a) = slG c f a:=by
  unfold Ft.mG slG
  rw [if_neg (by omega)]
  have hv : f.v = 1∨f.v = 0:=by have:=hf.v; omega
  rcases hv with hv | hv <;> rw [hv] <;> rfl
theorem meq_slow {c : Ci} (hg : c.good) {f : Ft} (hf : f.ok c) (hm : f.m = 1) (a b : Pt) : MEq c b f (netN c a) (slM c f a b):=fun n hn=>by
  have h1 : f.mW c (netN c a) = atW f (slG c f a):=by unfold Ft.mW; rw [if_pos (by omega),mG_slow hf hm]
  have h2 : f.mQ c (netN c a) = atQ f (slG c f a):=by unfold Ft.mQ; rw [if_pos (by omega),mG_slow hf hm]
  rw [h1,h2]
  exact netM_sol hg hg.ord n hn
theorem pair39_c (c : Ci) (hg : c.good) (f : Ft) (hf : f.ok c) (hm : f.m = 1) (a b : Pt) (ha : a.fit c) (hb : b.fit c) :
    PureC Tryz.prog gl0 39 [c.v,f.w,a.v,b.v] (.tup [rspV (obsMO c (slM c f a b)) (obsMS c (atQ f (slG c f a)) (slM c f a b)),.sl (tU c.n.length (slM c f a b)) (some c.n.length),.int .i64 0]):=by
  have hp:=pair_c c hg f hf hm a b ha hb
  generalize obsMO c (slM c f a b) = O at hp ⊢
  generalize obsMS c (atQ f (slG c f a)) (slM c f a b) = S at hp ⊢
  generalize slM c f a b = M at hp ⊢
  simp only [rspV,Pt.v] at hp ⊢
  refine PureC.of_W 2 ok39 rfl ?_
  simp [i39,x39]
  intro gf1 gf2 gf3 gf4 gf5
  refine CallO.pure hp (by simp [natV,u8V]) ?_
  simp [mapRL_pure,map_frz_pure (tU_pure _ _)]
theorem pair65K_c (c : Ci) (hg : c.good) (f : Ft) (hf : f.ok c) (hm : f.m = 0) (a b : Pt) :
    PureC Tryz.prog gl0 65 [c.v,f.w,a.v,b.v] (.tup [.agg [.nil,.nil],.agg [.nil,.nil],.nil,.int .i64 7]):=by
  have hfc:=fcheck_c c hg f hf
  simp only [Ft.w,u8V,natV] at hfc
  refine PureC.of_W 2 ok65 rfl ?_
  simp [i65,x65,u8V,natV]
  intro gf1 gf2 gf3 gf4 gf5 gf6
  refine CallO.pure hfc (by simp) ?_
  simp [u8V,hm]
  exact rfl
theorem pair39K_c (c : Ci) (hg : c.good) (f : Ft) (hf : f.ok c) (hm : f.m = 0) (a b : Pt) :
    PureC Tryz.prog gl0 39 [c.v,f.w,a.v,b.v] (.tup [.agg [.nil,.nil],.nil,.int .i64 7]):=by
  have hp:=pair65K_c c hg f hf hm a b
  simp only [Pt.v] at hp ⊢
  refine PureC.of_W 2 ok39 rfl ?_
  simp [i39,x39]
  intro gf1 gf2 gf3 gf4 gf5
  refine CallO.pure hp (by simp [natV,u8V]) ?_
  simp
set_option maxRecDepth 100000 in
set_option maxHeartbeats 8000000 in
theorem law12_c (x : Cx) (hx : x.ok) (z : Fx) (hz : z.ok) (p q : Pt) : PureC Tryz.prog gl0 12 [caseJ x z p,q.v] (.bool true):=by
  have hg:=nm_good x
  have hzo : ({ z with m:=1 } : Fx).ok:=⟨by simp,hz.n,hz.p,hz.o⟩
  have hfo:=fof_c x.nm.ci hg { z with m:=1 } hzo 1 rfl (by omega)
  have hcs:=caseJ_c x hx { z with m:=1 } _ hfo p
  have hcp:=caseJ_pure x { z with m:=1 } p
  generalize x.nm.ci = c at hcs hg
  have hn0:=hg.n0
  have hn1:=hg.n1
  have hfk:=of_ok c hg { z with m:=1 } 1 (by omega)
  have hfm : (Fx.of c { z with m:=1 } 1).m = 1:=rfl
  generalize Fx.of c { z with m:=1 } 1 = f at hcs hfk hfm
  have hq2:=pofV_c q c (by omega)
  have ha:=pof_fit c p
  have hb:=pof_fit c q
  generalize pof c p = p1 at hcs ha
  generalize pof c q = p2 at hq2 hb
  have r1:=run_c c hg p1 ha
  have r2:=run_c c hg p2 hb
  have r3:=run_mc c hg p2 hb f (okM_slow hg hfk) (netN c p1) (slM c f p1 p2) (meq_slow hg hfk hfm p1 p2)
  have f1:=fits33_c c hg p1 ha
  have f2:=fits33_c c hg p2 hb
  have r4:=pair39_c c hg f hfk hfm p1 p2 ha hb
  have r5:=pairD_c c hg f hfk hfm p1 p2 ha hb
  have r6:=pair39K_c c hg { f with m:=0,v:=0,o:=0 } ⟨by simp,hfk.n,hfk.q,by simp,rfl⟩ rfl p1 p2
  have hno : c.o.length ≤ 16384:=(sh_len hg.sh).2.2.2
  have l1:=cnt_le 14 c.n
  have eQ : f.mQ c (netN c p1) = atQ f (slG c f p1):=by unfold Ft.mQ; rw [if_pos (by omega),mG_slow hfk hfm]
  rw [eQ] at r3
  have hB : pairB c f p1 p2 = decide (0 < (cons (obsO c (netN c p2)) (obsMO c (slM c f p1 p2))).length + (cons (obsS c (netN c p2)) (obsMS c (atQ f (slG c f p1)) (slM c f p1 p2))).length):=rfl
  have e1 : (obsMO c (slM c f p1 p2)).length = c.o.length:=by simp [obsMO]
  have e2 : (obsMS c (atQ f (slG c f p1)) (slM c f p1 p2)).length = cnt 14 c.n:=by simp [obsMS,cnt]
  have e3:=obsO_len c (netN c p2)
  have e4:=obsS_len c (netN c p2)
  have s1:=same35_c (tab c.n.length (slM c f p1 p2)) (tab c.n.length (slM c f p1 p2)) (some c.n.length) (some c.n.length) (by simp; omega)
  rw [← tU_map] at s1
  clear eQ
  generalize obsMO c (slM c f p1 p2) = O at r3 r4 hB e1
  generalize obsMS c (atQ f (slG c f p1)) (slM c f p1 p2) = S at r3 r4 hB e2
  generalize slM c f p1 p2 = M at r3 r4 s1
  generalize pairB c f p1 p2 = PB at r5 hB
  have s2:=same35_c O O (some O.length) none (by omega)
  have s3:=same35_c S S (some S.length) none (by omega)
  simp only [decide_true] at s1 s2 s3
  have hdf:=differ_c (obsO c (netN c p2)) (obsS c (netN c p2)) O S (by omega) (by omega)
  have c1:=cons_len (obsO c (netN c p2)) O
  have c2:=cons_len (obsS c (netN c p2)) S
  rw [e3] at c1
  rw [e4] at c2
  generalize cons (obsO c (netN c p2)) O = K1 at hdf hB c1
  generalize cons (obsS c (netN c p2)) S = K2 at hdf hB c2
  generalize obsO c (netN c p1) = O1 at r1
  generalize obsS c (netN c p1) = S1 at r1
  generalize netN c p1 = A at r1 r3
  generalize obsO c (netN c p2) = O2 at r2 hdf
  generalize obsS c (netN c p2) = S2 at r2 hdf
  generalize netN c p2 = B at r2
  obtain ⟨L,hL⟩ : ∃ L,K1.length + K2.length = L:=⟨_,rfl⟩
  have hw : IntKind.i64.wrap ((K1.length : Int) + (K2.length : Int)) = (L : Int):=by rw [wrap_i64] <;> omega
  rw [hL] at hB
  have hoo:=hfk.o
  simp only [rspV,Pt.v] at r1 r2 r3 r4 r5 r6 f1 f2 hdf hcs hq2
  simp only [caseJ] at hcs hcp
  simp only [Ft.w,u8V,natV] at r6
  change PureC _ _ _ [_,.agg [_,_,.int .i64 f.pin,_,_],_,_] _ at r6
  have hne : c.n ≠ []:=by intro e; rw [e] at hn0; simp at hn0
  have hAp : V.pureL (tab c.n.length fun i=>V.int .u8 (A i : Int)) = true:=tU_pure _ _
  refine PureC.of_W 2 ok12 rfl ?_
  simp [i12,x12,caseJ,u8V]
  intro gf1 gf2
  refine CallO.pure hcs hcp ?_
  simp
  intro gf3 gf4 gf5
  refine CallO.pure hq2 (by simp) ?_
  simp
  intro gf6
  refine CallO.pure r1 (by simp) ?_
  simp
  intro gf7
  refine CallO.pure f1 (by simp) ?_
  simp
  refine CallO.pure f2 (by simp) ?_
  simp
  refine CallO.pure r3 (by simp [V.pureL,V.pure,hAp,natV,u8V]) ?_
  simp
  intro gf8
  refine CallO.pure r4 (by simp [natV,u8V]) ?_
  simp
  intro gf9
  refine CallO.pure r5 (by simp [natV,u8V]) ?_
  simp
  refine CallO.pure r2 (by simp) ?_
  simp
  intro gf10
  refine CallO.pure hdf (by simp) ?_
  simp
  refine CallO.pure r6 (by simp [V.pureL,V.pure,natV,u8V]) ?_
  simp
  intro gf11
  refine CallO.pure s1 (by simp) ?_
  simp
  refine CallO.pure s2 (by simp) ?_
  simp
  refine CallO.pure s3 (by simp) ?_
  simp [hw,← hB]
  refine CallO.pure livesJ_c rfl ?_
  simp
end Go.Proofs.YtekbgkainigfnaaGreatDoor
