/- Netlists: contracts, the shape of a circuit, by the reference. Conditions: none. Levels by rounds that raise them. No program stands in it. Conditions: none. -/
import Derived.Test.YtcmapbecfpcnfaaDoorNet4
import Derived.Test.YtcmapbecfpcnfaaDoorNet3
namespace Go.Proofs.YtcmapbecfpcnfaaDoor
open Go
theorem ris2_c (c : Ci) (i : Int) : PureC Tryd.prog gl0 18 [c.v,.int .i64 i] (.bool (!outB c.n.length i)):=by
  have:=ris_c c i
  have e : (!outB c.n.length i) = decide (0 ≤ i∧i < c.n.length):=by
    unfold outB
    by_cases h1 : i < 0 <;> by_cases h2 : (c.n.length : Int) ≤ i <;> simp [h1,h2] <;> omega
  rw [e]; exact this
theorem all_c (c : Ci) (l : List Int) (cap : Option Nat) (hl : l.length < 1000000000000) : PureC Tryd.prog gl0 76 [c.v,.sl (ints l) cap] (.bool (!l.any (outB c.n.length))):=by
  obtain ⟨q,hq⟩ : ∃ r,(!l.any (outB c.n.length)) = r:=⟨_,rfl⟩
  rw [hq]
  refine PureC.of_W 2 ok76 rfl ?_
  simp [i76,x76]
  intro gf
  refine LoopP.of (X:=Nat) (fun i=>[(5,natV i),(2,.ptr 2 (gf 2) 0 0),(1,.sl (ints l) cap)]) (fun _=>[(2,.row (gf 2) 4 [c.v])])
    (fun i=>i ≤ l.length∧(!(l.drop i).any (outB c.n.length)) = q) (fun i=>l.length - i) 0 ⟨by simp,by simpa using hq⟩ (by simp [natV]) (by simp) ?_
  rintro i ⟨h2,h3⟩
  simp [natV]
  refine BrB.of (fun h1=>?_) (fun h1=>?_)
  · have hi : i < l.length:=of_decide_eq_true h1
    have hw:=wrapN i (by omega)
    rw [List.drop_eq_getElem_cons hi] at h3
    simp only [List.any_cons] at h3
    simp [hi,ints_getE]
    intro gm
    refine ⟨_,_,_,.pure (ris2_c c _) (by simp),?_⟩
    simp
    refine BrB.of (fun h4=>?_) (fun h4=>?_)
    · simp [h4] at h3
      simp [h3]
    · simp only [h4,Bool.false_or] at h3
      simp [hw]
      exact ⟨i + 1,⟨hi,by rw [← h3]; simp⟩,rfl,by omega⟩
  · have hi : i = l.length:=by have:=of_decide_eq_false h1; omega
    rw [hi,List.drop_length] at h3
    simp at h3
    simp [h3]
def alB (k : Int) (n : Nat) : Bool:=if k = 1∨k = 2 then decide (n = 0) else if k = 3∨k = 4 then decide (n = 1) else if k = 11 then decide (n = 3) else if k = 12 then decide (n = 2) else if k = 13 then decide (1 ≤ n) && decide (n ≤ 16) else decide (5 ≤ k) && decide (k ≤ 10) && decide (2 ≤ n) && decide (n ≤ 16)
theorem allowed_c (k : Int) (n : Nat) (h0 : 0 ≤ k) (h9 : k ≤ 15) : PureC Tryd.prog gl0 124 [.int .u8 k,.int .i64 (n : Int)] (.bool (alB k n)):=by
  refine PureC.of_W 2 ok124 rfl ?_
  have hc : k = 0∨k = 1∨k = 2∨k = 3∨k = 4∨k = 5∨k = 6∨k = 7∨k = 8∨k = 9∨k = 10∨k = 11∨k = 12∨k = 13∨k = 14∨k = 15:=by omega
  rcases hc with rfl | rfl | rfl | rfl | rfl | rfl | rfl | rfl | rfl | rfl | rfl | rfl | rfl | rfl | rfl | rfl <;> simp [i124,x124,alB]
  all_goals (repeat' (first | refine BrB.of (fun _=>?_) (fun _=>?_) | (intro _) | simp [*]))
theorem alB_wid (k : Int) (n : Nat) (h0 : 1 ≤ k) (h9 : k ≤ 13) : alB k n = widB k n:=by
  have hc : k = 0∨k = 1∨k = 2∨k = 3∨k = 4∨k = 5∨k = 6∨k = 7∨k = 8∨k = 9∨k = 10∨k = 11∨k = 12∨k = 13∨k = 14∨k = 15:=by omega
  rcases hc with rfl | rfl | rfl | rfl | rfl | rfl | rfl | rfl | rfl | rfl | rfl | rfl | rfl | rfl | rfl | rfl <;> simp [alB,widB,kLo,kHi,tLo,tHi] at * <;> (rw [Bool.eq_iff_iff]; simp; try omega)
theorem inputs89_c (k : Int) (n : Nat) (h0 : 0 ≤ k) (h9 : k ≤ 15) : PureC Tryd.prog gl0 107 [.int .u8 k,.int .i64 (n : Int)] (.bool (widB k n)):=by
  refine PureC.of_W 2 ok107 rfl ?_
  have hal:=allowed_c k n h0 h9
  by_cases hk : 1 ≤ k∧k ≤ 13
  · rw [alB_wid k n hk.1 hk.2] at hal
    have e1 : ¬ k = 0:=by omega
    have e2 : ¬ k = 15:=by omega
    have e3 : ¬ k = 14:=by omega
    simp [i107,x107,e1,e2,e3]
    refine CallO.pure hal (by simp) ?_
    simp
  · have hc : k = 0∨k = 14∨k = 15:=by omega
    rcases hc with rfl | rfl | rfl
    · simp [i107,x107,widB,kLo,kHi,tLo,tHi]
    · simp [i107,x107,widB,kLo,kHi,tLo,tHi]
      refine BrB.of (fun h=>?_) (fun h=>?_)
      · have h':=of_decide_eq_true h
        simp [h']
      · have h':=of_decide_eq_false h
        simp [h']
        refine CallO.pure hal (by simp) ?_
        simp [alB]
        omega
    · simp [i107,x107,widB,kLo,kHi,tLo,tHi]
theorem rnode_c (c : Ci) (i : Nat) (hi : i < c.n.length) (h0 : 0 ≤ c.n[i].k) : PureC Tryd.prog gl0 74 [c.v,.int .i64 (i : Int)] (.int .i64 (ndE c c.n[i])):=by
  obtain ⟨q,hq⟩ : ∃ r,ndE c c.n[i] = r:=⟨_,rfl⟩
  rw [hq]
  unfold ndE at hq
  refine PureC.of_W 2 ok74 rfl ?_
  simp [i74,x74,hi]
  generalize hx : c.n[i] = x at *
  intro gf gf2
  generalize gf 2 = g2
  generalize gf2 5 = g5
  refine BrB.of (fun h=>?_) (fun h=>?_)
  · have h' : 15 < x.k:=of_decide_eq_true h
    rw [if_pos h'] at hq
    simp [← hq]
  · have h' : ¬ 15 < x.k:=of_decide_eq_false h
    rw [if_neg h'] at hq
    simp
    refine CallO.pure (inputs89_c x.k x.i.length h0 (by omega)) (by simp) ?_
    simp
    refine BrB.of (fun h1=>?_) (fun h1=>?_)
    · rw [if_neg (by simp [h1])] at hq
      have hl : x.i.length ≤ 16:=widB_le h0 (by omega) h1
      simp
      refine CallO.pure (all_c c x.i none (by omega)) (by simp) ?_
      simp
      refine BrB.of (fun h2=>?_) (fun h2=>?_)
      · rw [if_pos h2] at hq
        simp [← hq]
      · rw [if_neg (by simp [h2])] at hq
        have hin : ∀ v ∈ x.i,outB c.n.length v = false:=fun v hv=>by
          have:=List.any_eq_false.1 h2 v hv
          simpa using this
        have fin : ∀ (Q : Prop),(¬ (x.k = 13∧x.i.any (fun v=>!decide ((c.nd v.toNat).k = 12)) = true)→(if bitB c x = false then (1 : Int) else 0) = q→Q)→(x.k = 13→x.i.any (fun v=>!decide ((c.nd v.toNat).k = 12)) = false)→Q:=fun Q h5 h6=>by
          have h7 : ¬ (x.k = 13∧x.i.any (fun v=>!decide ((c.nd v.toNat).k = 12)) = true):=fun r=>by rw [h6 r.1] at r; exact absurd r.2 (by simp)
          rw [if_neg h7] at hq
          exact h5 h7 hq
        simp
        refine LoopP.of (X:=Nat) (fun i=>[(6,natV i),(5,.ptr 5 g5 0 0),(2,.ptr 2 g2 0 0)]) (fun _=>[(5,.row g5 4 [x.v]),(2,.row g2 4 [c.v])])
          (fun i=>i ≤ x.i.length∧(x.k = 13→(x.i.drop i).any (fun v=>!decide ((c.nd v.toNat).k = 12)) = x.i.any (fun v=>!decide ((c.nd v.toNat).k = 12)))) (fun i=>x.i.length - i) 0 ⟨by simp,by simp⟩ (by simp [natV]) (by simp) ?_
        rintro j ⟨h3,h4⟩
        simp [natV]
        refine BrB.of (fun hb=>?_) (fun hb=>?_)
        · have hj : j < x.i.length:=of_decide_eq_true hb
          have hw:=wrapN j (by omega)
          simp [hb]
          refine BrB.of (fun hk=>?_) (fun hk=>?_)
          · have hk' : x.k = 13:=of_decide_eq_true hk
            have h4':=h4 hk'
            rw [List.drop_eq_getElem_cons hj] at h4'
            simp only [List.any_cons] at h4'
            have hv:=hin _ (List.getElem_mem hj)
            simp [outB] at hv
            obtain ⟨m,hm⟩ : ∃ m : Nat,x.i[j] = (m : Int):=⟨x.i[j].toNat,by omega⟩
            have hml : m < c.n.length:=by omega
            rw [hm] at h4'
            simp [hj,ints_getE,hm,hml]
            simp [c.nd_get hml] at h4'
            refine BrB.of (fun hb2=>?_) (fun hb2=>?_)
            · simp [hw]
              refine ⟨j + 1,⟨hj,fun _=>?_⟩,by simp,by omega⟩
              have hb3:=of_decide_eq_true hb2
              simpa [hb3] using h4'
            · have hb3:=of_decide_eq_false hb2
              simp [hb3] at h4'
              rw [if_pos ⟨hk',by rw [List.any_eq_true]; simpa using h4'⟩] at hq
              simp [← hq]
          · have hk' : ¬ x.k = 13:=of_decide_eq_false hk
            simp
            refine fin _ (fun h5 h6=>?_) (fun r=>absurd r hk')
            refine BrB.of (fun t1=>?_) (fun t1=>?_)
            · have t1' : x.k = 15:=of_decide_eq_true t1
              simp [t1']
              intro gm
              refine BrB.of (fun t2=>?_) (fun t2=>?_)
              · have t2':=of_decide_eq_true t2
                have : bitB c x = false:=by
                  unfold bitB
                  rw [if_pos t1',decide_eq_false (show ¬ 0 ≤ x.a by omega)]
                  simp
                rw [if_pos this] at h6
                simp [t2,← h6]
              · have t2':=of_decide_eq_false t2
                simp [t2]
                refine BrB.of (fun t3=>?_) (fun t3=>?_)
                · have t3':=of_decide_eq_true t3
                  have : bitB c x = false:=by
                    unfold bitB
                    rw [if_pos t1',decide_eq_false (show ¬ x.a < c.m.length by omega)]
                    simp
                  rw [if_pos this] at h6
                  simp [t3,← h6]
                · have t3':=of_decide_eq_false t3
                  obtain ⟨m,hm⟩ : ∃ m : Nat,x.a = (m : Int):=⟨x.a.toNat,by omega⟩
                  have hml : m < c.m.length:=by omega
                  simp [t3]
                  refine BrB.of (fun t4=>?_) (fun t4=>?_)
                  · have t4':=of_decide_eq_true t4
                    have : bitB c x = false:=by
                      unfold bitB
                      rw [if_pos t1',decide_eq_false (show ¬ 0 ≤ x.b by omega)]
                      simp
                    rw [if_pos this] at h6
                    simp [t4,← h6]
                  · have t4':=of_decide_eq_false t4
                    simp [t4,hm,hml]
                    refine BrB.of (fun t5=>?_) (fun t5=>?_)
                    · have t5':=of_decide_eq_true t5
                      have : bitB c x = false:=by
                        unfold bitB
                        rw [if_pos t1',hm,Int.toNat_natCast,List.getD_eq_getElem?_getD,List.getElem?_eq_getElem hml,Option.getD_some,decide_eq_false (show ¬ x.b < c.m[m].d.length by omega)]
                        simp
                      rw [if_pos this] at h6
                      simp [← h6]
                    · have t5':=of_decide_eq_false t5
                      have : bitB c x = true:=by
                        unfold bitB
                        rw [if_pos t1',hm,Int.toNat_natCast,List.getD_eq_getElem?_getD,List.getElem?_eq_getElem hml,Option.getD_some]
                        simp [hml]
                        omega
                      rw [if_neg (by simp [this])] at h6
                      simp [← h6]
            · have t1' : ¬ x.k = 15:=of_decide_eq_false t1
              simp [t1']
              refine BrB.of (fun t2=>?_) (fun t2=>?_)
              · have t2':=of_decide_eq_true t2
                simp [t2]
                refine BrB.of (fun t3=>?_) (fun t3=>?_)
                · have t3':=of_decide_eq_true t3
                  have : bitB c x = true:=by
                    unfold bitB
                    rw [if_neg t1']
                    simp [t2',t3']
                  rw [if_neg (by simp [this])] at h6
                  simp [t1,← h6]
                · have t3':=of_decide_eq_false t3
                  have : bitB c x = false:=by
                    unfold bitB
                    rw [if_neg t1']
                    simp [t3']
                  rw [if_pos this] at h6
                  simp [← h6]
              · have t2':=of_decide_eq_false t2
                have : bitB c x = false:=by
                  unfold bitB
                  rw [if_neg t1']
                  simp [t2']
                rw [if_pos this] at h6
                simp [t2,← h6]
        · have hj : j = x.i.length:=by have:=of_decide_eq_false hb; omega
          simp [hj]
          refine fin _ (fun h5 h6=>?_) (fun r=>by have:=h4 r; rw [hj,List.drop_length] at this; simpa using this.symm)
          refine BrB.of (fun t1=>?_) (fun t1=>?_)
          · have t1' : x.k = 15:=of_decide_eq_true t1
            simp [t1']
            intro gm
            refine BrB.of (fun t2=>?_) (fun t2=>?_)
            · have t2':=of_decide_eq_true t2
              have : bitB c x = false:=by
                unfold bitB
                rw [if_pos t1',decide_eq_false (show ¬ 0 ≤ x.a by omega)]
                simp
              rw [if_pos this] at h6
              simp [t2,← h6]
            · have t2':=of_decide_eq_false t2
              simp [t2]
              refine BrB.of (fun t3=>?_) (fun t3=>?_)
              · have t3':=of_decide_eq_true t3
                have : bitB c x = false:=by
                  unfold bitB
                  rw [if_pos t1',decide_eq_false (show ¬ x.a < c.m.length by omega)]
                  simp
                rw [if_pos this] at h6
                simp [t3,← h6]
              · have t3':=of_decide_eq_false t3
                obtain ⟨m,hm⟩ : ∃ m : Nat,x.a = (m : Int):=⟨x.a.toNat,by omega⟩
                have hml : m < c.m.length:=by omega
                simp [t3]
                refine BrB.of (fun t4=>?_) (fun t4=>?_)
                · have t4':=of_decide_eq_true t4
                  have : bitB c x = false:=by
                    unfold bitB
                    rw [if_pos t1',decide_eq_false (show ¬ 0 ≤ x.b by omega)]
                    simp
                  rw [if_pos this] at h6
                  simp [t4,← h6]
                · have t4':=of_decide_eq_false t4
                  simp [t4,hm,hml]
                  refine BrB.of (fun t5=>?_) (fun t5=>?_)
                  · have t5':=of_decide_eq_true t5
                    have : bitB c x = false:=by
                      unfold bitB
                      rw [if_pos t1',hm,Int.toNat_natCast,List.getD_eq_getElem?_getD,List.getElem?_eq_getElem hml,Option.getD_some,decide_eq_false (show ¬ x.b < c.m[m].d.length by omega)]
                      simp
                    rw [if_pos this] at h6
                    simp [← h6]
                  · have t5':=of_decide_eq_false t5
                    have : bitB c x = true:=by
                      unfold bitB
                      rw [if_pos t1',hm,Int.toNat_natCast,List.getD_eq_getElem?_getD,List.getElem?_eq_getElem hml,Option.getD_some]
                      simp [hml]
                      omega
                    rw [if_neg (by simp [this])] at h6
                    simp [← h6]
          · have t1' : ¬ x.k = 15:=of_decide_eq_false t1
            simp [t1']
            refine BrB.of (fun t2=>?_) (fun t2=>?_)
            · have t2':=of_decide_eq_true t2
              simp [t2]
              refine BrB.of (fun t3=>?_) (fun t3=>?_)
              · have t3':=of_decide_eq_true t3
                have : bitB c x = true:=by
                  unfold bitB
                  rw [if_neg t1']
                  simp [t2',t3']
                rw [if_neg (by simp [this])] at h6
                simp [t1,← h6]
              · have t3':=of_decide_eq_false t3
                have : bitB c x = false:=by
                  unfold bitB
                  rw [if_neg t1']
                  simp [t3']
                rw [if_pos this] at h6
                simp [← h6]
            · have t2':=of_decide_eq_false t2
              have : bitB c x = false:=by
                unfold bitB
                rw [if_neg t1']
                simp [t2']
              rw [if_pos this] at h6
              simp [t2,← h6]
    · rw [if_pos (by simp [h1])] at hq
      simp [← hq]
theorem risName2_c (s : List UInt8) (hs : s.length < 9000000000000000000) : PureC Tryd.prog gl0 75 [.str s] (.bool (nameOk s)):=by
  rw [nameOk_eq]; exact risName_c s hs
theorem rshape_c (c : Ci) (hwf : c.wf) : PureC Tryd.prog gl0 48 [c.v] (.int .i64 (shE c)):=by
  obtain ⟨q,hq⟩ : ∃ r,shE c = r:=⟨_,rfl⟩
  rw [hq]
  unfold shE at hq
  refine PureC.of_W 2 ok48 rfl ?_
  simp [i48,x48]
  intro gf
  refine BrB.of (fun h1=>?_) (fun h1=>?_)
  · have : shBig c = true:=by unfold shBig; simp [h1]
    rw [this] at hq
    simp at hq
    simp [h1,← hq]
  · simp [h1]
    refine BrB.of (fun h2=>?_) (fun h2=>?_)
    · have : shBig c = true:=by unfold shBig; simp [h2]
      rw [this] at hq
      simp at hq
      simp [h2,← hq]
    · simp [h2]
      refine BrB.of (fun h3=>?_) (fun h3=>?_)
      · have : shBig c = true:=by unfold shBig; simp [h3]
        rw [this] at hq
        simp at hq
        simp [← hq]
      · have : shBig c = false:=by unfold shBig; simp [h1,h2,h3]
        rw [this] at hq
        simp only [Bool.false_eq_true,if_false] at hq
        have g1 : ¬ 16384 < c.n.length:=of_decide_eq_false h1
        have g2 : ¬ 16 < c.m.length:=of_decide_eq_false h2
        have g3 : ¬ 16384 < c.o.length:=of_decide_eq_false h3
        simp
        refine BrB.of (fun h4=>?_) (fun h4=>?_)
        · have h4' : c.s.length = c.n.length:=of_decide_eq_true h4
          rw [if_neg (by simp [h4'])] at hq
          simp
          generalize gf 1 = gg
          refine LoopP.of (X:=Nat) (fun i=>[(3,natV i),(1,.ptr 1 gg 0 0)]) (fun i=>[(1,.row gg 4 [c.v])])
            (fun i=>i ≤ c.n.length∧shN c (c.n.drop i) = q) (fun i=>c.n.length - i) 0 ⟨by simp,by simpa using hq⟩ (by simp [natV]) (by simp) ?_
          clear hq
          rintro i ⟨h5,hq⟩
          simp [natV]
          refine BrB.of (fun h6=>?_) (fun h6=>?_)
          · have hi : i < c.n.length:=of_decide_eq_true h6
            have hw:=wrapN i (by omega)
            have hk:=hwf.k _ (List.getElem_mem hi)
            rw [List.drop_eq_getElem_cons hi] at hq
            simp only [shN,List.map_cons,errs] at hq
            simp
            refine CallO.pure (rnode_c c i hi hk.1) (by simp) ?_
            simp
            refine BrB.of (fun h7=>?_) (fun h7=>?_)
            · have h7' : ndE c c.n[i] = 0:=of_decide_eq_true h7
              rw [if_neg (by simp [h7'])] at hq
              simp [hw]
              exact ⟨i + 1,⟨hi,hq⟩,by simp,by omega⟩
            · have h7' : ¬ ndE c c.n[i] = 0:=of_decide_eq_false h7
              rw [if_pos h7'] at hq
              simp [hq]
          · have hi : i = c.n.length:=by have:=of_decide_eq_false h6; omega
            rw [hi,List.drop_length] at hq
            simp only [shN,List.map_nil,errs,shS] at hq
            simp
            refine LoopP.of (X:=Nat) (fun i=>[(5,natV i),(1,.ptr 1 gg 0 0)]) (fun i=>[(1,.row gg 4 [c.v])])
              (fun i=>i ≤ c.s.length∧(if nmBad (c.s.take i) (c.s.drop i) = true then 5 else shM c c.m) = q) (fun i=>c.s.length - i) 0 ⟨by simp,by simpa using hq⟩ (by simp [natV]) (by simp) ?_
            clear hq
            rintro i ⟨h5,hq⟩
            simp [natV]
            refine BrB.of (fun h6=>?_) (fun h6=>?_)
            · have hi : i < c.s.length:=of_decide_eq_true h6
              have hw:=wrapN i (by omega)
              rw [List.drop_eq_getElem_cons hi] at hq
              simp only [nmBad] at hq
              simp [hi]
              refine CallO.pure (risName2_c _ (hwf.s _ (List.getElem_mem hi))) (by simp) ?_
              simp
              refine BrB.of (fun h7=>?_) (fun h7=>?_)
              · simp only [h7,Bool.not_true,Bool.false_or] at hq
                simp
                refine LoopP.of (X:=Nat) (fun k=>[(6,natV k),(5,natV i),(1,.ptr 1 gg 0 0)]) (fun i=>[(1,.row gg 4 [c.v])])
                  (fun k=>k ≤ i∧∀ j (hj : j < c.s.length),j < k→c.s[j] ≠ c.s[i]) (fun k=>i - k) 0 ⟨by simp,fun j _ hj=>by omega⟩ (by simp [natV]) (by simp) ?_
                rintro k ⟨h8,h9⟩
                simp [natV]
                refine BrB.of (fun hb=>?_) (fun hb=>?_)
                · have hk : k < i:=of_decide_eq_true hb
                  have hkl : k < c.s.length:=by omega
                  have hwk:=wrapN k (by omega)
                  simp [hi,hkl]
                  refine BrB.of (fun he=>?_) (fun he=>?_)
                  · have he':=of_decide_eq_true he
                    have hc : (c.s.take i).contains c.s[i] = true:=by
                      rw [List.contains_iff_mem,← he',List.mem_take_iff_getElem]
                      exact ⟨k,by omega,rfl⟩
                    rw [hc] at hq
                    simp at hq
                    simp [hq]
                  · have he':=of_decide_eq_false he
                    simp [hwk]
                    refine ⟨k + 1,⟨hk,fun j hj hjk=>?_⟩,by simp,by omega⟩
                    by_cases e : j = k
                    · subst e; exact he'
                    · exact h9 j hj (by omega)
                · have hk : k = i:=by have:=of_decide_eq_false hb; omega
                  have hc : (c.s.take i).contains c.s[i] = false:=by
                    rw [Bool.eq_false_iff]
                    intro hc
                    rw [List.contains_iff_mem,List.mem_take_iff_getElem] at hc
                    obtain ⟨j,hj,hje⟩:=hc
                    exact h9 j (by omega) (by omega) hje
                  rw [hc] at hq
                  simp only [Bool.false_or] at hq
                  simp [hw]
                  refine ⟨i + 1,⟨hi,?_⟩,by simp,by omega⟩
                  rw [List.take_succ_eq_append_getElem hi]
                  exact hq
              · simp [h7] at hq
                simp [hq]
            · have hi : i = c.s.length:=by have:=of_decide_eq_false h6; omega
              rw [hi,List.drop_length] at hq
              simp only [nmBad,Bool.false_eq_true,if_false] at hq
              simp
              refine LoopP.of (X:=Nat) (fun i=>[(7,natV i),(1,.ptr 1 gg 0 0)]) (fun i=>[(1,.row gg 4 [c.v])])
                (fun i=>i ≤ c.m.length∧shM c (c.m.drop i) = q) (fun i=>c.m.length - i) 0 ⟨by simp,by simpa using hq⟩ (by simp [natV]) (by simp) ?_
              clear hq
              rintro j ⟨h5,hq⟩
              simp [natV]
              refine BrB.of (fun h6=>?_) (fun h6=>?_)
              · have hj : j < c.m.length:=of_decide_eq_true h6
                have hw:=wrapN j (by omega)
                rw [List.drop_eq_getElem_cons hj] at hq
                simp only [shM,List.map_cons,errs] at hq
                simp [hj]
                generalize c.m[j] = m at hq
                intro gf8
                have e8 : (wrB m.a 8 || wrB m.d 32) = true→(8 : Int) = q:=fun h=>by
                  have : mdE c m = 8:=by unfold mdE; rw [if_pos h]
                  rw [this] at hq
                  simpa using hq
                refine BrB.of (fun w1=>?_) (fun w1=>?_)
                · have w1':=of_decide_eq_true w1
                  have:=e8 (by simp [wrB,w1'])
                  simp [w1,← this]
                · have w1':=of_decide_eq_false w1
                  simp [w1]
                  refine BrB.of (fun w2=>?_) (fun w2=>?_)
                  · have w2':=of_decide_eq_true w2
                    have:=e8 (by simp [wrB,w2'])
                    simp [w2,← this]
                  · have w2':=of_decide_eq_false w2
                    simp [w2]
                    refine BrB.of (fun w3=>?_) (fun w3=>?_)
                    · have w3':=of_decide_eq_true w3
                      have:=e8 (by simp [wrB,w3'])
                      simp [w3,← this]
                    · have w3':=of_decide_eq_false w3
                      simp [w3]
                      refine BrB.of (fun w4=>?_) (fun w4=>?_)
                      · have w4':=of_decide_eq_true w4
                        have:=e8 (by simp [wrB,w4'])
                        simp [← this]
                      · have w4':=of_decide_eq_false w4
                        have hwr : (wrB m.a 8 || wrB m.d 32) = false:=by simp [wrB,w1',w2',w3',w4']
                        have hmd : mdE c m = if (m.a.any (outB c.n.length) || m.d.any (outB c.n.length) || outB c.n.length m.w) = true then 1 else 0:=by
                          unfold mdE; rw [if_neg (by simp [hwr])]
                        have e1 : (m.a.any (outB c.n.length) || m.d.any (outB c.n.length) || outB c.n.length m.w) = true→(1 : Int) = q:=fun h=>by
                          rw [hmd,if_pos h] at hq
                          simpa using hq
                        simp
                        refine CallO.pure (all_c c m.a none (by omega)) (by simp) ?_
                        simp
                        refine BrB.of (fun v1=>?_) (fun v1=>?_)
                        · have:=e1 (by simp [v1])
                          simp [v1,← this]
                        · simp [v1]
                          refine CallO.pure (all_c c m.d none (by omega)) (by simp) ?_
                          simp
                          refine BrB.of (fun v2=>?_) (fun v2=>?_)
                          · have:=e1 (by simp [v2])
                            simp [v2,← this]
                          · simp [v2]
                            refine CallO.pure (ris2_c c m.w) (by simp) ?_
                            simp
                            refine BrB.of (fun v3=>?_) (fun v3=>?_)
                            · have:=e1 (by simp [v3])
                              simp [← this]
                            · rw [hmd,v1,v2,v3] at hq
                              simp at hq
                              simp [hw]
                              exact ⟨j + 1,⟨hj,by simpa [shM] using hq⟩,by simp,by omega⟩
              · have hj : j = c.m.length:=by have:=of_decide_eq_false h6; omega
                rw [hj,List.drop_length] at hq
                simp only [shM,List.map_nil,errs,shO] at hq
                simp
                refine CallO.pure (all_c c c.o none (by omega)) (by simp) ?_
                simp
                refine BrB.of (fun h9=>?_) (fun h9=>?_)
                · rw [if_pos h9] at hq
                  simp [← hq]
                · rw [if_neg (by simp [h9])] at hq
                  simp [← hq]
        · have h4' : c.s.length ≠ c.n.length:=of_decide_eq_false h4
          rw [if_pos h4'] at hq
          simp [← hq]
end Go.Proofs.YtcmapbecfpcnfaaDoor
namespace Go.Proofs.YtcmapbecfpcnfaaDoor
open Go
theorem mx_mono {f f' : Nat→Nat} : ∀ {l : List Nat},(∀ x ∈ l,f x ≤ f' x)→mx f l ≤ mx f' l
  | [],_=>Nat.le_refl _
  | y :: l,h=>by
    have h1:=mx_mono (f:=f) (f':=f') (l:=l) fun x hx=>h x (List.mem_cons_of_mem _ hx)
    have h2:=h y List.mem_cons_self
    simp; omega
structure RS (n : Nat) (g : Nat→List Nat) (r : Nat) (o : Nat→Nat) : Prop where
  up : ∀ f,IsLv n g f→∀ j,j < n→o j ≤ f j
  lo : ∀ f,IsLv n g f→∀ j,j < n→min (f j) r ≤ o j
  at' : ∀ j,j < n→o j ≤ mx o (g j)
  rn : ∀ f,IsLv n g f→r ≤ n
structure RR (n : Nat) (g : Nat→List Nat) (r : Nat) (o0 o : Nat→Nat) (a : Bool) (i k : Nat) : Prop where
  p0 : RS n g r o0
  mono : ∀ j,j < n→o0 j ≤ o j
  up : ∀ f,IsLv n g f→∀ j,j < n→o j ≤ f j
  at' : ∀ j,j < n→o j ≤ mx o (g j)
  e : ∀ j,j < i→∀ x ∈ g j,o0 x + 1 ≤ o j
  ek : ∀ x ∈ (g i).take k,o0 x + 1 ≤ o i
  ch : a = true→∃ j,j < n∧o0 j < o j
  un : a = false→∀ j,j < n→o j = o0 j
variable {n r i k : Nat} {g : Nat→List Nat} {o0 o : Nat→Nat} {a : Bool}
theorem RS.start : RS n g 0 (fun _=>0):=⟨fun _ _ _ _=>Nat.zero_le _,fun _ _ _ _=>by simp,fun _ _=>Nat.zero_le _,fun _ _=>Nat.zero_le _⟩
theorem RS.round (h : RS n g r o) : RR n g r o o false 0 0:=⟨h,fun _ _=>Nat.le_refl _,h.up,h.at',fun j hj=>by omega,by simp,fun h=>by simp at h,fun _ _ _=>rfl⟩
theorem RR.keep (hg : ∀ i,i < n→∀ x ∈ g i,x < n) (h : RR n g r o0 o a i k) (hi : i < n) (hk : k < (g i).length) (hle : ¬ o i < o (g i)[k] + 1) : RR n g r o0 o a i (k + 1):=by
  refine ⟨h.p0,h.mono,h.up,h.at',h.e,fun x hx=>?_,h.ch,h.un⟩
  rw [List.take_succ_eq_append_getElem hk,List.mem_append] at hx
  rcases hx with hx | hx
  · exact h.ek x hx
  · simp at hx; subst hx
    have:=h.mono _ (hg i hi _ (List.getElem_mem hk))
    omega
theorem RR.raise (hg : ∀ i,i < n→∀ x ∈ g i,x < n) (h : RR n g r o0 o a i k) (hi : i < n) (hk : k < (g i).length) (hlt : o i < o (g i)[k] + 1) : RR n g r o0 (upd1 o i (o (g i)[k] + 1)) true i (k + 1):=by
  have hxg : (g i)[k] ∈ g i:=List.getElem_mem hk
  have hxn:=hg i hi _ hxg
  generalize hx : (g i)[k] = x at *
  have hup : ∀ j,o j ≤ upd1 o i (o x + 1) j:=fun j=>by
    by_cases e : j = i
    · subst e; simp; omega
    · rw [upd1_ne _ _ e]; exact Nat.le_refl _
  refine ⟨h.p0,fun j hj=>Nat.le_trans (h.mono j hj) (hup j),fun f hf j hj=>?_,fun j hj=>?_,fun j hj y hy=>?_,fun y hy=>?_,fun _=>⟨i,hi,?_⟩,fun q=>by simp at q⟩
  · by_cases e : j = i
    · subst e
      rw [upd1_same,hf j hj]
      have h1:=le_mx (f:=f) hxg
      have h2:=h.up f hf x hxn
      omega
    · rw [upd1_ne _ _ e]; exact h.up f hf j hj
  · have hm:=mx_mono (f:=o) (f':=upd1 o i (o x + 1)) (l:=g j) fun y _=>hup y
    by_cases e : j = i
    · subst e
      rw [upd1_same]
      have h1:=le_mx (f:=o) hxg
      omega
    · rw [upd1_ne _ _ e]; exact Nat.le_trans (h.at' j hj) hm
  · exact Nat.le_trans (h.e j hj y hy) (hup j)
  · rw [List.take_succ_eq_append_getElem hk,List.mem_append] at hy
    rcases hy with hy | hy
    · exact Nat.le_trans (h.ek y hy) (hup i)
    · simp at hy
      rw [hx] at hy
      subst hy
      rw [upd1_same]
      have:=h.mono y hxn
      omega
  · rw [upd1_same]
    have:=h.mono i hi
    omega
theorem RR.node (h : RR n g r o0 o a i k) (hk : (g i).length ≤ k) : RR n g r o0 o a (i + 1) 0:=by
  refine ⟨h.p0,h.mono,h.up,h.at',fun j hj x hx=>?_,by simp,h.ch,h.un⟩
  by_cases e : j = i
  · subst e; exact h.ek x (by rw [List.take_of_length_le hk]; exact hx)
  · exact h.e j (by omega) x hx
theorem RR.stable (hg : ∀ i,i < n→∀ x ∈ g i,x < n) (h : RR n g r o0 o false n 0) : IsLv n g o:=by
  intro i hi
  refine Nat.le_antisymm (h.at' i hi) (mx_le fun x hx=>?_)
  rw [h.un rfl x (hg i hi x hx)]
  exact h.e i hi x hx
theorem RR.again (hg : ∀ i,i < n→∀ x ∈ g i,x < n) (h : RR n g r o0 o true n 0) : RS n g (r + 1) o:=by
  refine ⟨h.up,fun f hf i hi=>?_,h.at',fun f hf=>?_⟩
  · rcases mx_at f (g i) with q | ⟨x,hx,q⟩
    · rw [hf i hi,q]; simp
    · rw [← hf i hi] at q
      have h1:=h.p0.lo f hf x (hg i hi x hx)
      have h2:=h.e i hi x hx
      omega
  · obtain ⟨j,hj,hlt⟩:=h.ch rfl
    have h1:=h.up f hf j hj
    have h2:=h.p0.lo f hf j hj
    have h3:=hf.lt hg j hj
    have h4:=h.p0.rn f hf
    omega
end Go.Proofs.YtcmapbecfpcnfaaDoor
