/- Transitions and faults: the functions' code as the run takes it (a law). Conditions: none. -/
import Derived.Test.YtekbgkainigfnaaGreatDoorXT
import Derived.Test.YtekbgkainigfnaaGreatDoorU10
import Derived.Test.YtekbgkainigfnaaGreatDoorT14
set_option linter.unusedSimpArgs false
set_option linter.unusedVariables false
namespace Go.Proofs.YtekbgkainigfnaaGreatDoor
open Go
def x8 : XC:=(.seq (.ops [od 1 (.box (.t 0)),od 2 (.mv (.c (.bool false)))]) (.seq (.ops [od 17 (.load true 19 (.t 1)),od 18 (.call (.f 30) [.t 17]),od 16 (.mv (.t 18)),od 19 (.extract (.t 16) 0),od 20 (.extract (.t 16) 1),od 21 (.extract (.t 16) 2),od 3 (.alloc (.agg [.nil,.nil,.nil,.nil])),od 4 (.alloc (.agg [.int .u8 0,.int .i64 0,.int .i64 0,.int .u8 0,.int .i64 0])),od 5 (.alloc (.agg [.nil,.nil])),⟨none,none,.store 4 (.t 3) (.t 19)⟩,⟨none,none,.store 5 (.t 4) (.t 20)⟩,⟨none,none,.store 2 (.t 5) (.t 21)⟩]) (.seq (.seq (.ops [od 22 (.fieldA 0 (.t 4)),od 23 (.load false 1 (.t 22)),od 24 (.bin .eql (.t 23) (.c (.int .u8 1)))]) (.cond (.t 24) (.seq (.ops [od 26 (.load true 4 (.t 3)),od 27 (.load true 5 (.t 4)),od 28 (.load true 2 (.t 5)),od 29 (.call (.f 31) [.t 26,.t 27,.t 28]),od 25 (.mv (.t 29)),od 30 (.extract (.t 25) 0),od 31 (.extract (.t 25) 1),od 32 (.extract (.t 25) 2),od 6 (.alloc (.agg [.nil,.nil])),⟨none,none,.store 2 (.t 6) (.t 30)⟩,od 7 (.mv (.t 31)),od 8 (.mv (.t 32))]) (.seq (.ops [od 33 (.mv (.t 8)),od 34 (.bin .eql (.t 33) (.c (.int .i64 7))),od 35 (.mv (.t 34)),og 36 35 true (.call (.f 32) []),od 37 (.pick (.t 35) (.t 36) (.c (.bool false))),od 2 (.mv (.t 37))]) .ret)) .skip)) (.seq (.ops [od 39 (.load true 4 (.t 3)),od 40 (.load true 2 (.t 5)),od 41 (.call (.f 15) [.t 39,.t 40]),od 38 (.mv (.t 41)),od 42 (.extract (.t 38) 0),od 43 (.extract (.t 38) 1),od 44 (.extract (.t 38) 2),od 9 (.alloc (.agg [.nil,.nil])),⟨none,none,.store 2 (.t 9) (.t 42)⟩,od 10 (.mv (.t 43)),od 11 (.mv (.t 44))]) (.seq (.seq (.ops [od 45 (.mv (.t 11)),od 46 (.bin .neq (.t 45) (.c (.int .i64 0))),od 47 (.mv (.t 46)),og 48 47 false (.mv (.t 10)),og 49 47 false (.len (.t 48)),og 50 47 false (.fieldA 0 (.t 3)),og 51 47 false (.load false 1 (.t 50)),og 52 47 false (.len (.t 51)),og 53 47 false (.bin .neq (.t 49) (.t 52)),od 54 (.pick (.t 47) (.c (.bool true)) (.t 53)),od 55 (.mv (.t 54)),og 56 55 false (.load true 4 (.t 3)),og 57 55 false (.load true 2 (.t 5)),og 58 55 false (.call (.f 33) [.t 56,.t 57]),og 59 55 false (.un .not (.t 58)),od 60 (.pick (.t 55) (.c (.bool true)) (.t 59))]) (.cond (.t 60) (.seq (.ops [od 2 (.mv (.c (.bool false)))]) .ret) .skip)) (.seq (.ops [od 62 (.load true 4 (.t 3)),od 63 (.load true 2 (.t 5)),od 64 (.load true 5 (.t 4)),od 65 (.mv (.t 10)),od 66 (.call (.f 34) [.t 62,.t 63,.t 64,.t 65]),od 61 (.mv (.t 66)),od 67 (.extract (.t 61) 0),od 68 (.extract (.t 61) 1),od 12 (.alloc (.agg [.nil,.nil])),⟨none,none,.store 2 (.t 12) (.t 67)⟩,od 13 (.mv (.t 68))]) (.seq (.ops [od 70 (.load true 4 (.t 3)),od 71 (.load true 5 (.t 4)),od 72 (.load true 2 (.t 5)),od 73 (.call (.f 31) [.t 70,.t 71,.t 72]),od 69 (.mv (.t 73)),od 74 (.extract (.t 69) 0),od 75 (.extract (.t 69) 1),od 76 (.extract (.t 69) 2),od 14 (.alloc (.agg [.nil,.nil])),⟨none,none,.store 2 (.t 14) (.t 74)⟩,od 15 (.mv (.t 75)),od 11 (.mv (.t 76))]) (.seq (.ops [od 77 (.mv (.t 11)),od 78 (.bin .eql (.t 77) (.c (.int .i64 0))),od 79 (.mv (.t 78)),og 80 79 true (.mv (.t 15)),og 81 79 true (.mv (.t 13)),og 82 79 true (.call (.f 35) [.t 80,.t 81]),od 83 (.pick (.t 79) (.t 82) (.c (.bool false))),od 84 (.mv (.t 83)),og 85 84 true (.fieldA 0 (.t 14)),og 86 84 true (.load false 1 (.t 85)),og 87 84 true (.fieldA 0 (.t 12)),og 88 84 true (.load false 1 (.t 87)),og 89 84 true (.call (.f 35) [.t 86,.t 88]),od 90 (.pick (.t 84) (.t 89) (.c (.bool false))),od 91 (.mv (.t 90)),og 92 91 true (.fieldA 1 (.t 14)),og 93 91 true (.load false 1 (.t 92)),og 94 91 true (.fieldA 1 (.t 12)),og 95 91 true (.load false 1 (.t 94)),og 96 91 true (.call (.f 35) [.t 93,.t 95]),od 97 (.pick (.t 91) (.t 96) (.c (.bool false))),od 98 (.mv (.t 97)),og 99 98 true (.fieldA 0 (.t 14)),og 100 98 true (.load false 1 (.t 99)),og 101 98 true (.cap (.t 100)),og 102 98 true (.fieldA 0 (.t 14)),og 103 98 true (.load false 1 (.t 102)),og 104 98 true (.len (.t 103)),og 105 98 true (.bin .eql (.t 101) (.t 104)),od 106 (.pick (.t 98) (.t 105) (.c (.bool false))),od 107 (.mv (.t 106)),og 108 107 true (.fieldA 1 (.t 14)),og 109 107 true (.load false 1 (.t 108)),og 110 107 true (.cap (.t 109)),og 111 107 true (.fieldA 1 (.t 14)),og 112 107 true (.load false 1 (.t 111)),og 113 107 true (.len (.t 112)),og 114 107 true (.bin .eql (.t 110) (.t 113)),od 115 (.pick (.t 107) (.t 114) (.c (.bool false))),od 116 (.mv (.t 115)),og 117 116 true (.call (.f 32) []),od 118 (.pick (.t 116) (.t 117) (.c (.bool false))),od 2 (.mv (.t 118))]) .ret))))))))
def i8 : FnI:=⟨119,[.tmp 2],x8⟩
theorem ok8 : FiOk Tryz.prog 8 i8:=⟨_,_,Tryz.func8,rfl,by decide,by kernel_rfl,by kernel_rfl,by kernel_rfl⟩
end Go.Proofs.YtekbgkainigfnaaGreatDoor
namespace Go.Proofs.YtekbgkainigfnaaGreatDoor
open Go
theorem okM_any {c : Ci} (hg : c.good) {f : Ft} (hf : f.any c) : f.okM c:=by
  refine ⟨hf.n,hf.q,hf.v,by have:=hf.m; omega,?_,?_⟩
  · rcases hf with h | h
    · rw [h.1.o]; exact hg.n0
    · exact h.o
  · intro h2
    rcases hf with h | h
    · have:=h.2; omega
    · exact h.q
theorem mQ_any {c : Ci} {f : Ft} (hf : f.any c) (p : Pt) : f.mQ c (netN c p) = f.Q c p:=by
  unfold Ft.mQ Ft.Q
  rcases hf.m with hm | hm | hm
  · rw [if_pos (by omega),if_neg (by omega),if_neg (by omega)]
    unfold Ft.mG
    rw [if_pos hm]
  · rw [if_neg (by omega),if_pos hm]
  · have hb : f.okB c:=hf.elim (fun h=>by have:=h.2; omega) id
    rw [if_neg (by omega),if_neg (by omega),if_pos hm]
    funext n k v
    unfold atQ
    rw [if_neg fun h=>h.1 hb.q]; rfl
theorem mW_any {c : Ci} {f : Ft} (hf : f.any c) (p : Pt) : f.mW c (netN c p) = f.W c p:=by
  unfold Ft.mW Ft.W
  rcases hf.m with hm | hm | hm
  · rw [if_pos (by omega),if_neg (by omega),if_neg (by omega)]
    unfold Ft.mG
    rw [if_pos hm]
  · rw [if_neg (by omega),if_pos hm,if_pos hm]
  · rw [if_neg (by omega),if_neg (by omega),if_neg (by omega),if_pos hm]
theorem meq_any {c : Ci} (hg : c.good) {f : Ft} (hf : f.any c) (p : Pt) : MEq c p f (netN c p) (f.M c p):=fun n hn=>by
  rw [mW_any hf,mQ_any hf]
  exact netM_sol hg hg.ord n hn
set_option maxRecDepth 100000 in
set_option maxHeartbeats 8000000 in
theorem law8_c (x : Cx) (hx : x.ok) (z : Fx) (hz : z.ok) (p : Pt) : PureC Tryz.prog gl0 8 [caseJ x z p] (.bool true):=by
  have hg:=nm_good x
  obtain ⟨f,hfo,hfk⟩:=fofA_c x.nm.ci hg z hz
  have hcs:=caseJ_c x hx z _ hfo p
  have hcp:=caseJ_pure x z p
  generalize x.nm.ci = c at hcs hg hfk
  have hn0:=hg.n0
  have hn1:=hg.n1
  have ha:=pof_fit c p
  generalize pof c p = p1 at hcs ha
  simp only [caseJ,Pt.v] at hcs hcp
  rcases hfk with ⟨-,hm1,hfk⟩ | ⟨-,hfk⟩
  · have hd:=runSl_c c hg f hfk hm1 p1
    simp only [Pt.v,Ft.w,u8V,natV,hm1] at hd
    refine PureC.of_W 2 ok8 rfl ?_
    simp [i8,x8,caseJ,u8V]
    intro gf1
    refine CallO.pure hcs (by simpa [u8V] using hcp) ?_
    simp
    intro gf3 gf4 gf5
    simp [hm1,u8V]
    refine CallO.pure hd (by simp [natV,u8V]) ?_
    simp
    intro gf6
    refine CallO.pure livesJ_c rfl ?_
    simp
  · have r1:=run_c c hg p1 ha
    have r2:=runA_c c hg f hfk p1 ha
    have r3:=run_mc c hg p1 ha f (okM_any hg hfk) (netN c p1) (f.M c p1) (meq_any hg hfk p1)
    have hft:=fits33_c c hg p1 ha
    have hno : c.o.length ≤ 16384:=(sh_len hg.sh).2.2.2
    have l1:=cnt_le 14 c.n
    have eO : obsMO c (f.M c p1) = f.O c p1:=rfl
    have eS : obsMS c (f.mQ c (netN c p1)) (f.M c p1) = f.S c p1:=by rw [mQ_any hfk]; rfl
    have e1 : (f.O c p1).length = c.o.length:=by simp [Ft.O,obsMO]
    have e2 : (f.S c p1).length = cnt 14 c.n:=by simp [Ft.S,obsMS,cnt]
    rw [eO,eS] at r3
    have s1:=same35_c (tab c.n.length (f.M c p1)) (tab c.n.length (f.M c p1)) (some c.n.length) (some c.n.length) (by simp; omega)
    have s2:=same35_c (f.O c p1) (f.O c p1) (some (f.O c p1).length) none (by omega)
    have s3:=same35_c (f.S c p1) (f.S c p1) (some (f.S c p1).length) none (by omega)
    rw [← tU_map] at s1
    simp only [decide_true] at s1 s2 s3
    have hm1 : ¬ f.m = 1:=by have:=hfk.m; omega
    clear eO eS e1 e2
    generalize f.O c p1 = O at r2 r3 s2
    generalize f.S c p1 = S at r2 r3 s3
    generalize f.M c p1 = M at r2 r3 s1
    generalize obsO c (netN c p1) = O1 at r1
    generalize obsS c (netN c p1) = S1 at r1
    generalize netN c p1 = A at r1 r3
    simp only [rspV,Pt.v] at r1 r2 r3 hft
    refine PureC.of_W 2 ok8 rfl ?_
    simp [i8,x8,caseJ,u8V]
    intro gf1
    refine CallO.pure hcs (by simpa [u8V] using hcp) ?_
    simp
    intro gf3 gf4 gf5
    simp [hm1,u8V]
    refine CallO.pure r1 (by simp) ?_
    simp
    intro gf6
    refine CallO.pure hft (by simp) ?_
    simp
    refine CallO.pure r3 (by have : V.pureL (tab c.n.length fun i => V.int .u8 (A i : Int)) = true := tU_pure _ _
                             simp [V.pureL,V.pure,this,natV,u8V]) ?_
    simp
    intro gf7
    refine CallO.pure r2 (by simp [natV,u8V]) ?_
    simp
    intro gf8
    refine CallO.pure s1 (by simp) ?_
    simp
    refine CallO.pure s2 (by simp) ?_
    simp
    refine CallO.pure s3 (by simp) ?_
    simp
    refine CallO.pure livesJ_c rfl ?_
    simp
end Go.Proofs.YtekbgkainigfnaaGreatDoor
