/- Transitions and faults: the functions' code as the run takes it (a law). Conditions: none. -/
import Derived.Test.YtekbgkainigfnaaGreatDoorXT
import Derived.Test.YtekbgkainigfnaaGreatDoorU5
set_option linter.unusedSimpArgs false
set_option linter.unusedVariables false
namespace Go.Proofs.YtekbgkainigfnaaGreatDoor
open Go
def x10 : XC:=(.seq (.ops [od 2 (.box (.t 0)),od 4 (.mv (.c (.bool false)))]) (.seq (.ops [od 16 (.fieldA 12 (.t 2)),od 17 (.fieldA 0 (.t 16)),od 18 (.load false 1 (.t 17)),od 19 (.bin .rem (.t 18) (.c (.int .u8 4))),od 20 (.fieldA 12 (.t 2)),od 21 (.fieldA 0 (.t 20)),⟨none,none,.store 1 (.t 21) (.t 19)⟩]) (.seq (.seq (.ops [od 22 (.fieldA 12 (.t 2)),od 23 (.fieldA 0 (.t 22)),od 24 (.load false 1 (.t 23)),od 25 (.bin .eql (.t 24) (.c (.int .u8 1)))]) (.cond (.t 25) (.ops [od 26 (.fieldA 12 (.t 2)),od 27 (.fieldA 0 (.t 26)),⟨none,none,.store 1 (.t 27) (.c (.int .u8 0))⟩]) .skip)) (.seq (.ops [od 29 (.load true 19 (.t 2)),od 30 (.call (.f 30) [.t 29]),od 28 (.mv (.t 30)),od 31 (.extract (.t 28) 0),od 32 (.extract (.t 28) 1),od 33 (.extract (.t 28) 2),od 5 (.alloc (.agg [.nil,.nil,.nil,.nil])),od 6 (.alloc (.agg [.int .u8 0,.int .i64 0,.int .i64 0,.int .u8 0,.int .i64 0])),od 7 (.alloc (.agg [.nil,.nil])),⟨none,none,.store 4 (.t 5) (.t 31)⟩,⟨none,none,.store 5 (.t 6) (.t 32)⟩,⟨none,none,.store 2 (.t 7) (.t 33)⟩]) (.seq (.ops [od 35 (.load true 4 (.t 5)),od 36 (.load true 5 (.t 6)),od 37 (.load true 2 (.t 7)),od 38 (.call (.f 26) [.t 35,.t 36,.t 37]),od 34 (.mv (.t 38)),od 39 (.extract (.t 34) 0),od 40 (.extract (.t 34) 1),od 8 (.mv (.t 39)),od 9 (.mv (.t 40))]) (.seq (.ops [od 10 (.mv (.c (.int .i64 0)))]) (.seq (.reg [od 41 (.fieldA 0 (.t 7)),od 42 (.load false 1 (.t 41)),od 43 (.app 1 1 [.int .u8 0] (.c .nil) (.t 42)),od 44 (.fieldA 1 (.t 7)),od 45 (.load false 1 (.t 44)),od 46 (.app 1 1 [.int .u8 0] (.c .nil) (.t 45)),od 47 (.build [.nil,.nil] [(0,(1,.t 43)),(1,(1,.t 46))]),od 11 (.alloc (.agg [.nil,.nil])),⟨none,none,.store 2 (.t 11) (.t 47)⟩] [(2,4),(1,7),(2,7),(4,7),(5,7)]) (.seq (.seq (.ops [od 12 (.mv (.c (.int .i64 0)))]) (.block 0 (.loop (.seq (.seq (.ops [od 48 (.mv (.t 12)),od 49 (.fieldA 0 (.t 11)),od 50 (.load false 1 (.t 49)),od 51 (.len (.t 50)),od 52 (.bin .lss (.t 48) (.t 51))]) (.cond (.t 52) .skip (.exit 0))) (.seq (.block 1 (.seq (.ops [od 55 (.fieldA 0 (.t 11)),od 56 (.load false 1 (.t 55)),od 57 (.mv (.t 12)),od 58 (.idxA 1 (.t 56) (.t 57)),od 59 (.load false 1 (.t 58)),od 60 (.bin .eql (.t 59) (.c (.int .u8 2))),od 61 (.mv (.t 60)),og 62 61 true (.mv (.t 10)),og 63 61 true (.mv (.t 1)),og 64 61 true (.len (.t 63)),og 65 61 true (.bin .lss (.t 62) (.t 64)),od 66 (.pick (.t 61) (.t 65) (.c (.bool false)))]) (.cond (.t 66) (.seq (.reg [od 67 (.fieldA 0 (.t 11)),od 68 (.load false 1 (.t 67)),od 69 (.mv (.t 12)),od 70 (.mv (.t 1)),od 71 (.mv (.t 10)),od 72 (.idxA 1 (.t 70) (.t 71)),od 73 (.load false 1 (.t 72)),od 74 (.bin .rem (.t 73) (.c (.int .u8 2))),od 75 (.idxA 1 (.t 68) (.t 69)),⟨none,none,.store 1 (.t 75) (.t 74)⟩] []) (.ops [od 76 (.mv (.t 10)),od 77 (.bin .add (.t 76) (.c (.int .i64 1))),od 10 (.mv (.t 77))])) .skip))) (.ops [od 53 (.mv (.t 12)),od 54 (.bin .add (.t 53) (.c (.int .i64 1))),od 12 (.mv (.t 54))])))))) (.seq (.seq (.ops [od 13 (.mv (.c (.int .i64 0)))]) (.block 2 (.loop (.seq (.seq (.ops [od 78 (.mv (.t 13)),od 79 (.fieldA 1 (.t 11)),od 80 (.load false 1 (.t 79)),od 81 (.len (.t 80)),od 82 (.bin .lss (.t 78) (.t 81))]) (.cond (.t 82) .skip (.exit 2))) (.seq (.block 3 (.seq (.ops [od 85 (.fieldA 1 (.t 11)),od 86 (.load false 1 (.t 85)),od 87 (.mv (.t 13)),od 88 (.idxA 1 (.t 86) (.t 87)),od 89 (.load false 1 (.t 88)),od 90 (.bin .eql (.t 89) (.c (.int .u8 2))),od 91 (.mv (.t 90)),og 92 91 true (.mv (.t 10)),og 93 91 true (.mv (.t 1)),og 94 91 true (.len (.t 93)),og 95 91 true (.bin .lss (.t 92) (.t 94)),od 96 (.pick (.t 91) (.t 95) (.c (.bool false)))]) (.cond (.t 96) (.seq (.reg [od 97 (.fieldA 1 (.t 11)),od 98 (.load false 1 (.t 97)),od 99 (.mv (.t 13)),od 100 (.mv (.t 1)),od 101 (.mv (.t 10)),od 102 (.idxA 1 (.t 100) (.t 101)),od 103 (.load false 1 (.t 102)),od 104 (.bin .rem (.t 103) (.c (.int .u8 2))),od 105 (.idxA 1 (.t 98) (.t 99)),⟨none,none,.store 1 (.t 105) (.t 104)⟩] []) (.ops [od 106 (.mv (.t 10)),od 107 (.bin .add (.t 106) (.c (.int .i64 1))),od 10 (.mv (.t 107))])) .skip))) (.ops [od 83 (.mv (.t 13)),od 84 (.bin .add (.t 83) (.c (.int .i64 1))),od 13 (.mv (.t 84))])))))) (.seq (.ops [od 109 (.load true 4 (.t 5)),od 110 (.load true 5 (.t 6)),od 111 (.load true 2 (.t 11)),od 112 (.call (.f 26) [.t 109,.t 110,.t 111]),od 108 (.mv (.t 112)),od 113 (.extract (.t 108) 0),od 114 (.extract (.t 108) 1),od 14 (.mv (.t 113)),od 15 (.mv (.t 114))]) (.seq (.ops [od 115 (.mv (.t 9)),od 116 (.bin .eql (.t 115) (.c (.int .i64 0))),od 117 (.mv (.t 116)),og 118 117 true (.mv (.t 15)),og 119 117 true (.bin .eql (.t 118) (.c (.int .i64 0))),od 120 (.pick (.t 117) (.t 119) (.c (.bool false))),od 121 (.mv (.t 120)),og 122 121 true (.mv (.t 8)),og 123 121 true (.un .not (.t 122)),og 124 121 true (.mv (.t 123)),og 125 124 false (.mv (.t 14)),og 126 121 true (.pick (.t 124) (.c (.bool true)) (.t 125)),od 127 (.pick (.t 121) (.t 126) (.c (.bool false))),od 128 (.mv (.t 127)),og 129 128 true (.call (.f 32) []),od 130 (.pick (.t 128) (.t 129) (.c (.bool false))),od 4 (.mv (.t 130))]) .ret)))))))))))
def i10 : FnI:=⟨131,[.tmp 4],x10⟩
theorem ok10 : FiOk Tryz.prog 10 i10:=⟨_,_,Tryz.func10,rfl,by decide,by kernel_rfl,by kernel_rfl,by kernel_rfl⟩
end Go.Proofs.YtekbgkainigfnaaGreatDoor
namespace Go.Proofs.YtekbgkainigfnaaGreatDoor
open Go
def cpV (b g : Nat) : List Nat→V
  | []=>.sl [] (some 0)
  | a :: l=>.ref b g 0 (l.length + 1) none
def cpH (b g : Nat) : List Nat→Hp
  | []=>[]
  | a :: l=>[(b,.row g 1 (u8V a :: l.map u8V))]
theorem cpV_nil (b g : Nat) : cpV b g [] = .sl [] (some 0):=rfl
theorem cpH_nil (b g : Nat) : cpH b g [] = []:=rfl
theorem cpV_cons (b g a : Nat) (l : List Nat) : cpV b g (a :: l) = .ref b g 0 (l.length + 1) none:=rfl
theorem cpH_cons (b g a : Nat) (l : List Nat) : cpH b g (a :: l) = [(b,.row g 1 (u8V a :: l.map u8V))]:=rfl
def cpZ : List Nat→V
  | []=>.sl [] (some 0)
  | a :: l=>.sl (u8V a :: l.map u8V) none
theorem cpZ_le : ∀ l : List Nat,VLe (cpZ l) (.sl (l.map u8V) none)
  | []=>VLe.cap _ _
  | _ :: _=>.refl _
theorem cpZ_ne : ∀ {l : List Nat},l ≠ []→cpZ l = .sl (l.map u8V) none
  | [],h=>absurd rfl h
  | _ :: _,_=>rfl
theorem cpZ_nil : cpZ [] = .sl [] (some 0):=rfl
theorem cpV_ne (b g : Nat) : ∀ {l : List Nat},l ≠ []→cpV b g l = .ref b g 0 l.length none
  | [],h=>absurd rfl h
  | _ :: _,_=>rfl
theorem cpH_ne (b g : Nat) : ∀ {l : List Nat},l ≠ []→cpH b g l = [(b,.row g 1 (l.map u8V))]
  | [],h=>absurd rfl h
  | _ :: _,_=>rfl
theorem frz_blk {h : Hp} {m b g : Nat} {l : List Nat} (hb : lk h b = some (.row g 1 (l.map u8V))) : frz h (m + 1) (.ref b g 0 l.length none) = .sl (l.map u8V) none:=by
  rw [frz_ref hb (by simp),List.drop_zero,List.take_of_length_le (by simp),frz_all _ _ (u8s_pure l)]
theorem frz_nil0 (h : Hp) (m : Nat) : frz h m (.sl [] (some 0)) = .sl [] (some 0):=frz_pure h m rfl
theorem leL_refl : ∀ l : List Nat,leL l l
  | []=>trivial
  | _ :: l=>⟨.inl rfl,leL_refl l⟩
theorem leL_set {p : List Nat} : ∀ {l : List Nat} (i v : Nat) (h : i < l.length),leL p l→l[i] = 2→leL p (l.set i v):=by
  induction p with
  | nil=>intro l i v h hl _; cases l with
    | nil=>simp at h
    | cons a l=>exact hl.elim
  | cons b p ih=>
    intro l i v h hl he
    cases l with
    | nil=>simp at h
    | cons a l=>
      cases i with
      | zero=>
        simp only [List.getElem_cons_zero] at he
        refine ⟨?_,hl.2⟩
        rcases hl.1 with e | e
        · exact .inr (by omega)
        · exact .inr e
      | succ i=>exact ⟨hl.1,ih i v (by simpa using h) hl.2 (by simpa using he)⟩
theorem all_set {l : List Nat} {i v m : Nat} (h : ∀ x ∈ l,x ≤ m) (hv : v ≤ m) : ∀ x ∈ l.set i v,x ≤ m:=fun x hx=>by
  rcases List.mem_or_eq_of_mem_set hx with h1 | h1
  · exact h x h1
  · omega
structure MoSt where
  i : Nat
  k : Nat
  l : List Nat
set_option maxRecDepth 100000 in
set_option maxHeartbeats 8000000 in
theorem law10_c (x : Cx) (hx : x.ok) (z : Fx) (hz : z.ok) (p : Pt) (w : List Nat) : PureC Tryz.prog gl0 10 [caseJ x z p,.sl (w.map u8V) none] (.bool true):=by
  have hg:=nm_good x
  obtain ⟨m,hm⟩ : ∃ m,z.m % 4 = m:=⟨_,rfl⟩
  have hm4 : m < 4:=by omega
  have r1 : ((z.m : Int)).tmod 4 = (m : Int):=modN hm
  have w1 : IntKind.u8.wrap (m : Int) = (m : Int):=wrap_u8 (by omega) (by omega)
  obtain ⟨m2,hm2⟩ : ∃ m2,(if m = 1 then 0 else m) = m2:=⟨_,rfl⟩
  have hm24 : m2 < 4:=by rw [← hm2]; split <;> omega
  obtain ⟨f,hfo,hfk⟩:=fofA_c x.nm.ci hg { z with m:=m2 } ⟨by dsimp only; omega,hz.n,hz.p,hz.o⟩
  have hcs:=caseJ_c x hx { z with m:=m2 } _ hfo p
  have hcp:=caseJ_pure x { z with m:=m2 } p
  generalize x.nm.ci = c at hcs hg hfk
  have hfa : f.any c:=by
    rcases hfk with ⟨h,-,-⟩ | ⟨-,h⟩
    · exfalso
      dsimp only at h
      by_cases e : m = 1
      · rw [if_pos e] at hm2; omega
      · rw [if_neg e] at hm2; omega
    · exact h
  have hn1:=hg.n1
  have ha:=pof_fit c p
  generalize pof c p = p1 at hcs ha
  obtain ⟨I,S⟩:=p1
  have hd:=detA_c c hg f hfa ⟨I,S⟩ ha
  have hdet : ∀ (q : Pt),q.fit c→PureC Tryz.prog gl0 26 [c.v,f.w,q.v] (.tup [.bool (f.det c q),.int .i64 0]):=fun q hq=>detA_c c hg f hfa q hq
  have hmono : ∀ (q : Pt),Pt.le ⟨I,S⟩ q→f.det c ⟨I,S⟩ = true→f.det c q = true:=fun q hq=>det_mono c f hq
  generalize f.det c = D at hd hdet hmono
  obtain ⟨d1,hd1⟩ : ∃ d1,D ⟨I,S⟩ = d1:=⟨_,rfl⟩
  rw [hd1] at hd hmono
  simp only [caseJ,Pt.v] at hcs hcp hd
  have l0:=cnt_le 0 c.n
  have l1:=cnt_le 14 c.n
  have e1:=ha.i
  have e2:=ha.s
  refine PureC.of_W 2 ok10 rfl ?_
  by_cases hm1 : m = 1
  case' pos=>
    rw [if_pos hm1] at hm2
    subst hm2
    simp [i10,x10,caseJ,u8V,r1,w1,hm1]
  case' neg=>
    rw [if_neg hm1] at hm2
    subst hm2
    simp [i10,x10,caseJ,u8V,r1,w1,hm1]
  all_goals
    intro gf1
    refine CallO.pure hcs (by simpa [u8V] using hcp) ?_
    simp
    intro gf3 gf4 gf5
    refine CallO.pure hd (by simp [natV,u8V]) ?_
    simp
    intro gm
    generalize gf3 5 = g5
    generalize gf4 6 = g6
    have hall : ∀ l : List Nat,(l.all ((fun x : V=>decide (x.cells.length = 1)) ∘ u8V)) = true:=fun l=>by simp [u8V]
    have hc1 : ∀ a : Nat,(u8V a).cells.length = 1:=fun a=>rfl
    have hli : I.length ≤ 274877906944:=by simp only at e1; omega
    have hls : S.length ≤ 274877906944:=by simp only at e2; omega
    have hIl : I.length < 1000000:=by simp only at e1; omega
    have hSl : S.length < 1000000:=by simp only at e2; omega
    rcases hI0 : I with _ | ⟨a1,li⟩ <;> rcases hS0 : S with _ | ⟨a2,ls⟩ <;> rw [hI0] at hli <;> rw [hS0] at hls <;> simp only [List.length_nil,List.length_cons] at hli hls <;> simp [hall,hc1,hli,hls]
  all_goals
    refine ⟨rfl,?_⟩
    generalize gm 43 = g43
    generalize gm 46 = g46
    generalize gm 11 = g11
    refine LoopP.of (X:=MoSt) (fun z=>[(12,natV z.i),(10,natV z.k),(11,.ptr 11 g11 0 0),(1,.sl (w.map u8V) none),(8,.bool d1),(9,.int .i64 0),(5,.ptr 5 g5 0 0),(6,.ptr 6 g6 0 0)])
      (fun z=>[(11,.row g11 2 [.agg [cpV 43 g43 z.l,cpV 46 g46 S]]),(6,.row g6 5 [f.w]),(5,.row g5 4 [c.v])] ++ cpH 43 g43 z.l ++ cpH 46 g46 S)
      (fun z=>z.i ≤ z.l.length∧z.k ≤ z.i∧leL I z.l∧∀ x ∈ z.l,x ≤ 3) (fun z=>z.l.length - z.i) ⟨0,0,I⟩ ⟨Nat.zero_le _,Nat.zero_le _,leL_refl I,ha.iv⟩
      (by simp [natV]) (by rw [hI0,hS0]; simp [cpV,cpH]; exact ⟨rfl,rfl⟩) ?_
    rintro ⟨i,k,l⟩ ⟨q1,q2,q3,q4⟩
    dsimp only at q1 q2 q3 q4 ⊢
    have hlen:=leL_len q3
    rw [hS0]
    by_cases hLne : l = []
    case' pos=>
      have q3':=q3
      rw [hI0,hLne] at q3'
      try exact (show False from q3').elim
      all_goals simp [natV,hLne,cpV_nil,cpH_nil,cpV_cons,cpH_cons]
    case' neg=>
      have hlen':=hlen
      rw [hI0] at hlen'
      try exact absurd (List.length_eq_zero_iff.1 hlen'.symm) hLne
      all_goals
        simp [natV,cpV_ne _ _ hLne,cpH_ne _ _ hLne,cpV_nil,cpH_nil,cpV_cons,cpH_cons]
        refine BrB.of (fun hb=>?_) (fun hb=>?_)
        rotate_left
        simp
        rotate_left
        · have hil : i < l.length:=of_decide_eq_true hb
          have hw:=wrapN i (by omega)
          obtain ⟨a,ha2⟩ : ∃ a,l[i] = a:=⟨_,rfl⟩
          simp [hil,ha2,u8V]
          by_cases h2 : a = 2
          · by_cases hk : k < w.length
            · have hw2:=wrapN k (by omega)
              obtain ⟨u,hu⟩ : ∃ u,w[k] = u:=⟨_,rfl⟩
              obtain ⟨v,hv⟩ : ∃ v,u % 2 = v:=⟨_,rfl⟩
              have r5 : ((u : Int)).tmod 2 = (v : Int):=modN hv
              have w5 : IntKind.u8.wrap (v : Int) = (v : Int):=wrap_u8 (by omega) (by omega)
              have hset : (l.map u8V).set i (.int .u8 (v : Int)) = (l.set i v).map u8V:=by rw [List.map_set]; rfl
              simp [h2,hk,hil,hu,u8V]
              have hse : l.set i v ≠ []:=fun e=>hLne (by have:=congrArg List.length e; simp at this; exact this)
              refine ⟨⟨i + 1,k + 1,l.set i v⟩,⟨by simp; omega,by dsimp only; omega,leL_set i v hil q3 (by rw [ha2,h2]),all_set q4 (by omega)⟩,by simp [hw,hw2],by simp [cpV_ne _ _ hse,cpH_ne _ _ hse,cpV_nil,cpH_nil,cpV_cons,cpH_cons,List.map_set,r5,u8V],by simp; omega⟩
            · simp [h2,hk,hw]
              refine ⟨⟨i + 1,k,l⟩,⟨hil,Nat.le_succ_of_le q2,q3,q4⟩,by simp,by simp [cpV_ne _ _ hLne,cpH_ne _ _ hLne,cpV_nil,cpH_nil,cpV_cons,cpH_cons],by dsimp only; omega⟩
          · simp [h2,hw]
            refine ⟨⟨i + 1,k,l⟩,⟨hil,Nat.le_succ_of_le q2,q3,q4⟩,by simp,by simp [cpV_ne _ _ hLne,cpH_ne _ _ hLne,cpV_nil,cpH_nil,cpV_cons,cpH_cons],by dsimp only; omega⟩
  all_goals
    have hk0 : k ≤ l.length:=by omega
    refine LoopP.of (X:=MoSt) (fun z=>[(13,natV z.i),(10,natV z.k),(11,.ptr 11 g11 0 0),(1,.sl (w.map u8V) none),(8,.bool d1),(9,.int .i64 0),(5,.ptr 5 g5 0 0),(6,.ptr 6 g6 0 0)])
      (fun z=>[(11,.row g11 2 [.agg [cpV 43 g43 l,cpV 46 g46 z.l]]),(6,.row g6 5 [f.w]),(5,.row g5 4 [c.v])] ++ cpH 43 g43 l ++ cpH 46 g46 z.l)
      (fun z=>z.i ≤ z.l.length∧z.k ≤ l.length + z.i∧leL S z.l∧∀ x ∈ z.l,x ≤ 3) (fun z=>z.l.length - z.i) ⟨0,k,S⟩ ⟨Nat.zero_le _,hk0,leL_refl S,ha.sv⟩
      (by simp [natV]) (by first | (rw [hS0]; simp [hLne,cpV_nil,cpH_nil,cpV_cons,cpH_cons]; done) | (rw [hS0]; simp [cpV_ne _ _ hLne,cpH_ne _ _ hLne,cpV_nil,cpH_nil,cpV_cons,cpH_cons])) ?_
    rintro ⟨j,k2,l2⟩ ⟨p1,p2,p3,p4⟩
    dsimp only at p1 p2 p3 p4 ⊢
    have hlen2:=leL_len p3
    have hll : l = []→l.length = 0:=fun e=>by rw [e]; rfl
    try have hl0:=hll hLne
    have hdq:=hdet ⟨l,l2⟩ ⟨by dsimp only at e1 ⊢; omega,by dsimp only at e2 ⊢; omega,q4,p4⟩
    have hmq:=hmono ⟨l,l2⟩ ⟨q3,p3⟩
    have hdz : PureC Tryz.prog gl0 26 [c.v,f.w,.agg [cpZ l,cpZ l2]] (.tup [.bool (D ⟨l,l2⟩),.int .i64 0]):=
      PureC.wide hdq ⟨.refl _,.refl _,VLe.agg ⟨cpZ_le l,cpZ_le l2,trivial⟩,trivial⟩ (.refl _)
    generalize D ⟨l,l2⟩ = dq at hdz hmq
    clear hdq
    by_cases hLn2 : l2 = []
    case' pos=>
      have q3':=p3
      rw [hS0,hLn2] at q3'
      try exact (show False from q3').elim
      all_goals (first | simp [natV,cpV_ne _ _ hLne,cpH_ne _ _ hLne,hLn2,cpV_nil,cpH_nil] | simp [natV,hLne,hLn2,cpV_nil,cpH_nil])
    case' neg=>
      have hlen':=hlen2
      rw [hS0] at hlen'
      try exact absurd (List.length_eq_zero_iff.1 hlen'.symm) hLn2
      all_goals
        (first | simp [natV,cpV_ne _ _ hLne,cpH_ne _ _ hLne,cpV_ne _ _ hLn2,cpH_ne _ _ hLn2] | simp [natV,hLne,cpV_nil,cpH_nil,cpV_ne _ _ hLn2,cpH_ne _ _ hLn2])
        refine BrB.of (fun hb=>?_) (fun hb=>?_)
        rotate_left
        simp
        rotate_left
        · have hil : j < l2.length:=of_decide_eq_true hb
          have hw:=wrapN j (by omega)
          obtain ⟨a,ha2⟩ : ∃ a,l2[j] = a:=⟨_,rfl⟩
          simp [hil,ha2,u8V]
          by_cases h2 : a = 2
          · by_cases hk : k2 < w.length
            · have hw2:=wrapN k2 (by omega)
              obtain ⟨u,hu⟩ : ∃ u,w[k2] = u:=⟨_,rfl⟩
              obtain ⟨v,hv⟩ : ∃ v,u % 2 = v:=⟨_,rfl⟩
              have r5 : ((u : Int)).tmod 2 = (v : Int):=modN hv
              simp [h2,hk,hil,hu,u8V]
              have hse : l2.set j v ≠ []:=fun e=>hLn2 (by have:=congrArg List.length e; simp at this; exact this)
              refine ⟨⟨j + 1,k2 + 1,l2.set j v⟩,⟨by simp; omega,by dsimp only; omega,leL_set j v hil p3 (by rw [ha2,h2]),all_set p4 (by omega)⟩,by simp [hw,hw2],?_,by simp; omega⟩
              first
              | (simp [cpV_ne _ _ hLne,cpH_ne _ _ hLne,cpV_ne _ _ hse,cpH_ne _ _ hse,List.map_set,r5,u8V]; done)
              | (simp [hLne,cpV_nil,cpH_nil,cpV_ne _ _ hse,cpH_ne _ _ hse,List.map_set,r5,u8V]; done)
            · simp [h2,hk,hw]
              refine ⟨⟨j + 1,k2,l2⟩,⟨hil,by dsimp only; omega,p3,p4⟩,by simp,?_,by dsimp only; omega⟩
              (first | simp [cpV_ne _ _ hLne,cpH_ne _ _ hLne,cpV_ne _ _ hLn2,cpH_ne _ _ hLn2] | simp [hLne,cpV_nil,cpH_nil,cpV_ne _ _ hLn2,cpH_ne _ _ hLn2])
          · simp [h2,hw]
            refine ⟨⟨j + 1,k2,l2⟩,⟨hil,by dsimp only; omega,p3,p4⟩,by simp,?_,by dsimp only; omega⟩
            (first | simp [cpV_ne _ _ hLne,cpH_ne _ _ hLne,cpV_ne _ _ hLn2,cpH_ne _ _ hLn2] | simp [hLne,cpV_nil,cpH_nil,cpV_ne _ _ hLn2,cpH_ne _ _ hLn2])
  all_goals
    refine CallO.borrow 2 hdz ?_ rfl ?_
    · change List.map (frz _ _) [c.v,f.w,V.agg [_,_]] = _
      rw [List.map_cons,List.map_cons,List.map_cons,List.map_nil,frz_pure _ _ (ci_pure2 c),frz_pure _ _ (ft_pure f),frz_agg,List.map_cons,List.map_cons,List.map_nil]
      first
      | rw [cpZ_ne hLne,cpZ_ne hLn2,frz_blk (by simp),frz_blk (by simp)]
      | rw [cpZ_ne hLne,hLn2,cpZ_nil,frz_blk (by simp),frz_nil0]
      | rw [cpZ_ne hLn2,hLne,cpZ_nil,frz_nil0,frz_blk (by simp)]
      | rw [hLne,hLn2,cpZ_nil,frz_nil0]
    simp
    cases d1
    case' true=>
      have:=hmq rfl
      subst this
      simp
    case' false=>simp
  all_goals
    refine CallO.pure livesJ_c rfl ?_
    simp
end Go.Proofs.YtekbgkainigfnaaGreatDoor
