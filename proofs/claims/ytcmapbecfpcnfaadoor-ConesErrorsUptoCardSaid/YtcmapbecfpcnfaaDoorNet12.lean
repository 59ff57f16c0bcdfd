/- Netlists: the circuit of plain data: its nodes' names and its gates. Conditions: none. -/
import Derived.Test.YtcmapbecfpcnfaaDoorNet10
namespace Go.Proofs.YtcmapbecfpcnfaaDoor
open Go
def nameB (i : Nat) : List UInt8:=[110,UInt8.ofNat (48 + i / 10),UInt8.ofNat (48 + i % 10)]
theorem name_c (i : Nat) (hi : i < 100) : PureC Tryd.prog gl0 39 [natV i] (.str (nameB i)):=by
  refine PureC.of_W 2 ok39 rfl ?_
  simp [i39,x39,natV]
  exact (show ∀ j : Fin 100,[110,UInt8.ofNat (IntKind.u8.wrap (IntKind.i64.wrap (48 + IntKind.i64.wrap (((j : Nat) : Int) / 10)))).toNat,UInt8.ofNat (IntKind.u8.wrap (IntKind.i64.wrap (48 + (((j : Nat) : Int)).tmod 10))).toNat] = nameB j by decide +kernel) ⟨i,hi⟩
structure Gx where
  k : Nat
  a : Nat
  b : Nat
  d : Nat
  deriving Inhabited
def u8V (n : Nat) : V:=.int .u8 (n : Int)
def Gx.v (g : Gx) : V:=.agg [u8V g.k,u8V g.a,u8V g.b,u8V g.d]
structure Gx.ok (g : Gx) : Prop where
  k : g.k < 256
  a : g.a < 256
  b : g.b < 256
  d : g.d < 256
structure Cx where
  n : Nat
  f : Nat
  d0 : Nat
  d1 : Nat
  bus : Bool
  mem : Bool
  p0 : Nat
  p1 : Nat
  p2 : Nat
  p3 : Nat
  g : List Gx
  o : List Nat
def Cx.v (x : Cx) : V:=.agg [u8V x.n,u8V x.f,u8V x.d0,u8V x.d1,.bool x.bus,.bool x.mem,u8V x.p0,u8V x.p1,u8V x.p2,u8V x.p3,.sl (x.g.map Gx.v) none,.sl (x.o.map u8V) none]
def trisF : List Nd→Nat→List Nat
  | [],_=>[]
  | x :: r,i=>if x.k = 12 then i :: trisF r (i + 1) else trisF r (i + 1)
def gateKind (bus : Bool) (g : Gx) : Nat:=if bus then g.k % 13 else g.k % 9
def gateN (bus : Bool) (g : Gx) (l : List Nd) : Nat × List Nat:=
  let n:=l.length
  let a:=g.a % n
  let b:=g.b % n
  let d:=g.d % n
  let k:=gateKind bus g
  let ts:=trisF l 0
  if k < 6 then (5 + k,if 128 ≤ g.k then [a,b,d] else [a,b])
  else if k = 6 then (4,[a])
  else if k = 7 then (11,[a,b,d])
  else if k = 9∨k = 10 then (12,[a,b])
  else if 10 < k∧0 < ts.length then (13,ts.getD (g.a % ts.length) 0 :: if 1 < ts.length then [ts.getD ((g.a % ts.length + 1) % ts.length) 0] else [])
  else if 240 < g.k then (1 + g.a % 2,[])
  else (3,[a])
def GateK (q : Nat × List Nat) (v : V) (h : Hp) : Prop:=
  (q.2 = []∧v = .agg [u8V q.1,.nil,natV 0,natV 0]∧h = [])∨(q.2 ≠ []∧∃ g cap,v = .agg [u8V q.1,.ref 0 g 0 q.2.length cap,natV 0,natV 0]∧h = [(0,.row g 1 (natsV q.2))])
theorem u8i {x : Nat} (h : x < 256) : IntKind.i64.wrap (x : Int) = (x : Int):=by rw [wrap_i64] <;> omega
theorem modN {a b p : Nat} (h : a % b = p) : ((a : Int)).tmod (b : Int) = (p : Int):=by rw [← h]; rfl
theorem gate_c (x : Cx) (g : Gx) (l : List Nd) (hg : g.ok) (hn : 0 < l.length) (hn2 : l.length < 1000) : OwnC Tryd.prog gl0 38 [x.v,g.v,.sl (l.map Nd.v) none] (GateK (gateN x.bus g l)):=by
  obtain ⟨q,hq⟩ : ∃ r,gateN x.bus g l = r:=⟨_,rfl⟩
  rw [hq]
  obtain ⟨A,hA⟩ : ∃ p,g.a % l.length = p:=⟨_,rfl⟩
  obtain ⟨B,hB⟩ : ∃ p,g.b % l.length = p:=⟨_,rfl⟩
  obtain ⟨D,hD⟩ : ∃ p,g.d % l.length = p:=⟨_,rfl⟩
  obtain ⟨ts,hts⟩ : ∃ p,trisF l 0 = p:=⟨_,rfl⟩
  obtain ⟨kd,hkd⟩ : ∃ p,gateKind x.bus g = p:=⟨_,rfl⟩
  simp only [gateN,hA,hB,hD,hts,hkd] at hq
  have hne : l ≠ []:=fun h=>by subst h; simp at hn
  refine OwnC.of_W ok38 rfl ?_
  simp [i38,x38,Cx.v,Gx.v,u8V,hne,u8i hg.a,u8i hg.b,u8i hg.d,modN hA,modN hB,modN hD]
  intro g3 g4 g6
  generalize g3 3 = g3
  generalize g4 4 = g4
  generalize g6 6 = g6
  refine LoopP.of (X:=Nat × Option (Nat × List V)) (fun y=>[(12,natV y.1),(11,accV 51 y.2),(10,natV D),(9,natV B),(8,natV A),(7,natV l.length),(6,.ptr 6 g6 0 0),(4,.ptr 4 g4 0 0),(3,.ptr 3 g3 0 0),(2,.sl (l.map Nd.v) none)])
    (fun y=>[(6,.row g6 4 [.agg [u8V 0,.nil,natV 0,natV 0]]),(4,.row g4 4 [g.v]),(3,.row g3 12 [x.v])] ++ accH 51 1 y.2)
    (fun y=>y.1 ≤ l.length∧(y.2 = none∨accL y.2 ≠ [])∧(accL y.2).length ≤ y.1∧V.pureL (accL y.2) = true∧accL y.2 ++ natsV (trisF (l.drop y.1) y.1) = natsV ts) (fun y=>l.length - y.1) (0,none) ⟨by simp,by simp,by simp [accL],by simp [accL],by simpa [accL] using congrArg natsV hts⟩ (by simp [accV,natV]) (by simp [accH,Cx.v,Gx.v,natV,u8V]) ?_
  rintro ⟨i,acc⟩ ⟨h1,h2,h3,h4,h5⟩
  dsimp only at h1 h2 h3 h4 h5
  simp [natV]
  refine BrB.of (fun hb=>?_) (fun hb=>?_)
  · have hi : i < l.length:=of_decide_eq_true hb
    have hw:=wrapN i (by omega)
    rw [List.drop_eq_getElem_cons hi] at h5
    simp only [trisF] at h5
    simp [hi,Nd.v]
    refine BrB.of (fun hk=>?_) (fun hk=>?_)
    · rw [if_pos (of_decide_eq_true hk)] at h5
      cases acc with
      | none=>
        simp [accV,accH,hw]
        refine fun gf1 gf2=>⟨i + 1,some (gf2 51,[natV i]),?_⟩
        simp [accL,natsV,natV] at h5 ⊢
        exact ⟨⟨by omega,h5⟩,by omega⟩
      | some gl=>
        obtain ⟨gg,xs⟩:=gl
        simp only [accL] at h3 h4 h5 h2
        have hle : xs.length + 1 ≤ 274877906944:=by omega
        simp [accV,accH,hw,hle]
        refine fun gf1 gf2=>⟨i + 1,some (gf2 51,xs ++ [natV i]),?_⟩
        simp [accL,natsV,natV] at h5 ⊢
        refine ⟨⟨by omega,by omega,pureL_append h4 rfl,h5⟩,by omega⟩
    · rw [if_neg (of_decide_eq_false hk)] at h5
      simp [hw]
      exact ⟨i + 1,acc,⟨by omega,h2,by omega,h4,h5⟩,⟨rfl,rfl⟩,by cases acc <;> simp [accH],by omega⟩
  · have hi : ¬ i < l.length:=of_decide_eq_false hb
    rw [List.drop_eq_nil_of_le (by omega)] at h5
    simp [trisF,natsV] at h5
    have hw9 : x.bus = false→IntKind.i64.wrap (((g.k : Int)).tmod 9) = (kd : Int):=fun e=>by
      rw [show (9 : Int) = ((9 : Nat) : Int) from rfl,modN (b:=9) (p:=kd) (by rw [← hkd,gateKind,e]; rfl),wrap_i64] <;> have:=hg.k <;> have : kd < 9:=(by rw [← hkd,gateKind,e]; simp; omega) <;> omega
    have hw13 : x.bus = true→IntKind.i64.wrap (((g.k : Int)).tmod 13) = (kd : Int):=fun e=>by
      rw [show (13 : Int) = ((13 : Nat) : Int) from rfl,modN (b:=13) (p:=kd) (by rw [← hkd,gateKind,e]; rfl),wrap_i64] <;> have:=hg.k <;> have : kd < 13:=(by rw [← hkd,gateKind,e]; simp; omega) <;> omega
    have hk13 : kd < 13:=by rw [← hkd,gateKind]; split <;> omega
    simp [Gx.v,Cx.v,u8V]
    refine BrB.of (fun hbu=>?_) (fun hbu=>?_)
    case' refine_1=>simp [hw13 hbu]
    case' refine_2=>simp [hw9 hbu]
    all_goals
      refine BrB.of (fun t1=>?_) (fun t1=>?_)
      · have t1' : kd < 6:=by have:=of_decide_eq_true t1; omega
        obtain ⟨P,hP⟩ : ∃ p,5 + kd = p:=⟨_,rfl⟩
        have hPw : IntKind.u8.wrap (5 + IntKind.u8.wrap (kd : Int)) = (P : Int):=by
          simp [IntKind.wrap,IntKind.bits,IntKind.signed]; omega
        rw [if_pos t1',hP] at hq
        simp [t1,hPw]
        intro gf gf1
        generalize gf 70 = g70
        generalize gf1 14 = g14
        refine BrB.of (fun t2=>?_) (fun t2=>?_)
        · have t2':=of_decide_eq_true t2
          rw [if_pos t2'] at hq
          simp [t2]
          subst hq
          intro gf gf1
          refine .move 70 0 _ (by simp) (by simp; rfl) fun g2=>.done ?_
          simp
          refine ⟨[(0,.row g2 1 (natsV [A,B,D]))],by simp [natsV,natV],?_⟩
          simp [GateK,natsV,natV,u8V]
        · have t2':=of_decide_eq_false t2
          rw [if_neg t2'] at hq
          simp [t2]
          subst hq
          refine .move 70 0 _ (by simp) (by simp; rfl) fun g2=>.done ?_
          simp
          refine ⟨[(0,.row g2 1 (natsV [A,B]))],by simp [natsV,natV],?_⟩
          simp [GateK,natsV,natV,u8V]
      have t1' : ¬ kd < 6:=by have:=of_decide_eq_false t1; omega
      rw [if_neg t1'] at hq
      simp [t1]
      refine BrB.of (fun t2=>?_) (fun t2=>?_)
      · have t2' : kd = 6:=by have:=of_decide_eq_true t2; omega
        rw [if_pos t2'] at hq
        simp [t2]
        subst hq
        intro gf
        refine .move 86 0 _ (by simp) (by simp; rfl) fun g2=>.done ?_
        simp
        refine ⟨[(0,.row g2 1 (natsV [A]))],by simp [natsV,natV],?_⟩
        simp [GateK,natsV,natV,u8V]
      have t2' : ¬ kd = 6:=by have:=of_decide_eq_false t2; omega
      rw [if_neg t2'] at hq
      simp [t2]
      refine BrB.of (fun t3=>?_) (fun t3=>?_)
      · have t3' : kd = 7:=by have:=of_decide_eq_true t3; omega
        rw [if_pos t3'] at hq
        simp [t3]
        subst hq
        intro gf
        refine .move 94 0 _ (by simp) (by simp; rfl) fun g2=>.done ?_
        simp
        refine ⟨[(0,.row g2 1 (natsV [A,B,D]))],by simp [natsV,natV],?_⟩
        simp [GateK,natsV,natV,u8V]
      have t3' : ¬ kd = 7:=by have:=of_decide_eq_false t3; omega
      rw [if_neg t3'] at hq
      simp [t3]
      refine BrB.of (fun t4=>?_) (fun t4=>?_)
      · have t4' : kd = 9:=by have:=of_decide_eq_true t4; omega
        rw [if_pos (.inl t4')] at hq
        simp [t4]
        subst hq
        intro gf
        refine .move 105 0 _ (by simp) (by simp; rfl) fun g2=>.done ?_
        simp
        refine ⟨[(0,.row g2 1 (natsV [A,B]))],by simp [natsV,natV],?_⟩
        simp [GateK,natsV,natV,u8V]
      have t4' : ¬ kd = 9:=by have:=of_decide_eq_false t4; omega
      simp [t4]
      refine BrB.of (fun t5=>?_) (fun t5=>?_)
      · have t5' : kd = 10:=by have:=of_decide_eq_true t5; omega
        rw [if_pos (.inr t5')] at hq
        simp [t5]
        subst hq
        intro gf
        refine .move 105 0 _ (by simp) (by simp; rfl) fun g2=>.done ?_
        simp
        refine ⟨[(0,.row g2 1 (natsV [A,B]))],by simp [natsV,natV],?_⟩
        simp [GateK,natsV,natV,u8V]
      have t5' : ¬ kd = 10:=by have:=of_decide_eq_false t5; omega
      rw [if_neg (by omega)] at hq
      simp [t5]
      refine BrB.of (fun t6=>?_) (fun t6=>?_)
      · have t6' : 10 < kd:=by have:=of_decide_eq_true t6; omega
        cases acc with
        | none=>
          simp [accL] at h5
          have hts0 : ts = []:=by simpa using h5.symm
          subst hts0
          rw [if_neg (by simp)] at hq
          have t7:=t6
          simp [t6,accV]
          refine BrB.of (fun t8=>?_) (fun t8=>?_)
          · have t8':=of_decide_eq_true t8
            rw [if_pos (by omega)] at hq
            obtain ⟨P,hP⟩ : ∃ p,1 + g.a % 2 = p:=⟨_,rfl⟩
            have hPw : IntKind.u8.wrap (1 + ((g.a : Int)).tmod 2) = (P : Int):=by
              rw [show (2 : Int) = ((2 : Nat) : Int) from rfl,modN (b:=2) rfl]; simp [IntKind.wrap,IntKind.bits,IntKind.signed]; omega
            rw [hP] at hq
            simp [t8,hPw]
            subst hq
            refine .done ?_
            simp
            exact ⟨[],by simp,by simp [GateK,natV,u8V]⟩
          · have t8':=of_decide_eq_false t8
            rw [if_neg (by omega)] at hq
            simp [t8]
            subst hq
            intro gf
            refine .move 156 0 _ (by simp) (by simp; rfl) fun g2=>.done ?_
            simp
            refine ⟨[(0,.row g2 1 (natsV [A]))],by simp [natsV,natV],?_⟩
            simp [GateK,natsV,natV,u8V]
        | some gl=>
          obtain ⟨gg,xs⟩:=gl
          simp only [accL] at h5 h2
          have hxs : xs = natsV ts:=h5
          have hts0 : 0 < ts.length:=by
            rcases h2 with h2 | h2
            · simp at h2
            · rw [hxs] at h2; cases ts with
              | nil=>exact absurd rfl h2
              | cons _ _=>simp
          have htn : ts.length < 1000 := by have : xs.length = ts.length := by rw [hxs]; simp
                                            simp only [accL] at h3; omega
          subst hxs
          rw [if_pos ⟨t6',hts0⟩] at hq
          obtain ⟨K,hK⟩ : ∃ p,g.a % ts.length = p:=⟨_,rfl⟩
          rw [hK] at hq
          have hKl : K < ts.length:=by rw [← hK]; exact Nat.mod_lt _ hts0
          have htne : ts ≠ []:=fun h=>by subst h; simp at hts0
          obtain ⟨TK,hTK⟩ : ∃ p,ts[K] = p:=⟨_,rfl⟩
          have hq1 : ts.getD K 0 = TK:=by simp [List.getD_eq_getElem?_getD,hKl,hTK]
          rw [hq1] at hq
          simp [t6,accV,accH,hts0,htne,u8i hg.a,modN hK,hKl,natsV_get,hTK]
          intro gf gf1
          generalize gf 126 = g126
          generalize gf1 16 = g16
          refine BrB.of (fun t9=>?_) (fun t9=>?_)
          · have t9' : 1 < ts.length:=by have:=of_decide_eq_true t9; omega
            rw [if_pos t9'] at hq
            obtain ⟨K1,hK1⟩ : ∃ p,K + 1 = p:=⟨_,rfl⟩
            obtain ⟨J,hJ⟩ : ∃ p,K1 % ts.length = p:=⟨_,rfl⟩
            have hJl : J < ts.length:=by rw [← hJ]; exact Nat.mod_lt _ hts0
            obtain ⟨TJ,hTJ⟩ : ∃ p,ts[J] = p:=⟨_,rfl⟩
            have hq2 : ts.getD J 0 = TJ:=by simp [List.getD_eq_getElem?_getD,hJl,hTJ]
            rw [hK1,hJ,hq2] at hq
            have hw1 : IntKind.i64.wrap ((K : Int) + 1) = (K1 : Int):=by rw [wrap_i64] <;> omega
            simp [t9,htne,hw1,modN hJ,hJl,natsV_get,hTJ]
            subst hq
            intro gm
            refine ⟨rfl,?_⟩
            refine .move 126 0 _ (by simp) (by simp; rfl) fun g2=>.done ?_
            simp
            refine ⟨[(0,.row g2 1 (natsV [TK,TJ]))],by simp [natsV,natV],?_⟩
            simp [GateK,natsV,natV,u8V]
          · have t9' : ¬ 1 < ts.length:=by have:=of_decide_eq_false t9; omega
            rw [if_neg t9'] at hq
            simp [t9]
            subst hq
            refine .move 126 0 _ (by simp) (by simp; rfl) fun g2=>.done ?_
            simp
            refine ⟨[(0,.row g2 1 (natsV [TK]))],by simp [natsV,natV],?_⟩
            simp [GateK,natsV,natV,u8V]
      · have t6' : ¬ 10 < kd:=by have:=of_decide_eq_false t6; omega
        have t7:=t6
        rw [if_neg (by omega)] at hq
        simp [t6]
        refine BrB.of (fun t8=>?_) (fun t8=>?_)
        · have t8':=of_decide_eq_true t8
          rw [if_pos (by omega)] at hq
          obtain ⟨P,hP⟩ : ∃ p,1 + g.a % 2 = p:=⟨_,rfl⟩
          have hPw : IntKind.u8.wrap (1 + ((g.a : Int)).tmod 2) = (P : Int):=by
            rw [show (2 : Int) = ((2 : Nat) : Int) from rfl,modN (b:=2) rfl]; simp [IntKind.wrap,IntKind.bits,IntKind.signed]; omega
          rw [hP] at hq
          simp [t8,hPw]
          subst hq
          refine .done ?_
          simp
          exact ⟨[],by simp,by simp [GateK,natV,u8V]⟩
        · have t8':=of_decide_eq_false t8
          rw [if_neg (by omega)] at hq
          simp [t8]
          subst hq
          intro gf
          refine .move 156 0 _ (by simp) (by simp; rfl) fun g2=>.done ?_
          simp
          refine ⟨[(0,.row g2 1 (natsV [A]))],by simp [natsV,natV],?_⟩
          simp [GateK,natsV,natV,u8V]
end Go.Proofs.YtcmapbecfpcnfaaDoor
namespace Go.Proofs.YtcmapbecfpcnfaaDoor
open Go
structure Ent where
  k : Nat
  l : List Nat
  b : Nat
  m : Option (Nat × Option Nat)
def Ent.nd (e : Ent) : Nd:=⟨e.k,e.l.map fun (x : Nat)=>(x : Int),0,e.b⟩
def Ent.iv (e : Ent) (n : Nat) : V:=match e.m with
  | none=>.nil
  | some (g,cap)=>.ref n g 0 e.l.length cap
def Ent.v (e : Ent) (n : Nat) : V:=.agg [u8V e.k,e.iv n,natV 0,natV e.b]
def Ent.h (e : Ent) (n : Nat) : Hp:=match e.m with
  | none=>[]
  | some (g,_)=>[(n,.row g 1 (natsV e.l))]
def entV (b : Nat) : List Ent→List V
  | []=>[]
  | e :: r=>e.v b :: entV (b + 1) r
def entH (b : Nat) : List Ent→Hp
  | []=>[]
  | e :: r=>e.h b ++ entH (b + 1) r
@[simp] theorem entV_length (b : Nat) (L : List Ent) : (entV b L).length = L.length:=by
  induction L generalizing b with
  | nil=>rfl
  | cons e r ih=>simp [entV,ih]
theorem entV_snoc (b : Nat) (L : List Ent) (e : Ent) : entV b (L ++ [e]) = entV b L ++ [e.v (b + L.length)]:=by
  induction L generalizing b with
  | nil=>rfl
  | cons x r ih=>simp [entV,ih,show b + 1 + r.length = b + (r.length + 1) by omega]
theorem entV_get (b : Nat) (L : List Ent) (i : Nat) (h : i < L.length) : (entV b L)[i]'(by rw [entV_length]; exact h) = L[i].v (b + i):=by
  induction L generalizing b i with
  | nil=>simp at h
  | cons x r ih=>
    cases i with
    | zero=>rfl
    | succ i=>simp [entV,ih (b + 1) i (by simpa using h),show b + 1 + i = b + (i + 1) by omega]
theorem entV_set (b : Nat) (L : List Ent) (i : Nat) (e : Ent) : (entV b L).set i (e.v (b + i)) = entV b (L.set i e):=by
  induction L generalizing b i with
  | nil=>rfl
  | cons x r ih=>
    cases i with
    | zero=>rfl
    | succ i=>simp [entV,← ih,show b + 1 + i = b + (i + 1) by omega]
theorem entV_rn (s : Nat→Nat→Nat × Nat) (b : Nat) (L : List Ent) (h : ∀ i g,b ≤ i→s i g = (i,g)) : (entV b L).map (V.rn s) = entV b L:=by
  induction L generalizing b with
  | nil=>rfl
  | cons e r ih=>
    have h1:=ih (b + 1) fun i g hi=>h i g (by omega)
    simp only [entV,List.map_cons,h1]
    congr 1
    cases hm : e.m with
    | none=>simp [Ent.v,Ent.iv,hm,u8V,natV]
    | some x=>simp [Ent.v,Ent.iv,hm,u8V,natV,h b _ (Nat.le_refl _)]
theorem lk_entH_low (b : Nat) (L : List Ent) (t : Nat) (h : t < b) : lk (entH b L) t = none:=by
  induction L generalizing b with
  | nil=>rfl
  | cons e r ih=>
    have h1:=ih (b + 1) (by omega)
    cases hm : e.m with
    | none=>simp [entH,Ent.h,hm,h1]
    | some x=>simp [entH,Ent.h,hm,h1,show ¬ t = b by omega]
theorem lk_entH (b : Nat) (L : List Ent) (i : Nat) (e : Ent) (g : Nat) (c : Option Nat) (h : L[i]? = some e) (hm : e.m = some (g,c)) : lk (entH b L) (b + i) = some (.row g 1 (natsV e.l)):=by
  induction L generalizing b i with
  | nil=>simp at h
  | cons x r ih=>
    cases i with
    | zero=>
      simp only [List.getElem?_cons_zero,Option.some.injEq] at h
      subst h
      simp [entH,Ent.h,hm]
    | succ i=>
      have:=ih (b + 1) i (by simpa using h)
      rw [show b + 1 + i = b + (i + 1) by omega] at this
      cases hx : x.m with
      | none=>simpa [entH,Ent.h,hx] using this
      | some y=>simpa [entH,Ent.h,hx,show ¬ b + (i + 1) = b by omega] using this
theorem sub_entH (b : Nat) (L : List Ent) (h : Hp) (hk : ∀ (i : Nat) e g c,L[i]? = some e→e.m = some (g,c)→lk h (b + i) = some (.row g 1 (natsV e.l))) : Sub (entH b L) h:=by
  induction L generalizing b with
  | nil=>trivial
  | cons e r ih=>
    simp only [entH,sub_app]
    refine ⟨?_,ih (b + 1) fun i x g c hx hm=>?_⟩
    · cases hm : e.m with
      | none=>simp [Ent.h,hm]
      | some y=>
        have:=hk 0 e y.1 y.2 (by simp) hm
        simpa [Ent.h,hm] using this
    · have:=hk (i + 1) x g c (by simpa using hx) hm
      rwa [show b + (i + 1) = b + 1 + i by omega] at this
theorem lk_entH_mv {base : Nat} {L : List Ent} {b b' g : Nat} {s : Nat→Nat→Nat × Nat} {i : Nat} {e : Ent} {g0 : Nat} {c : Option Nat} (hne : b ≠ b') (h1 : ¬ base + i = b') (h2 : ¬ base + i = b) (hi : L[i]? = some e) (hm : e.m = some (g0,c)) : lk (mvH s b b' g (entH base L)) (base + i) = some (.row g0 1 (natsV e.l)):=by
  rw [lk_mvH hne,if_neg h1,if_neg h2,lk_entH base L i e g0 c hi hm]
  simp [Blk.rn,map_rn_pure (natsV_pure _)]
theorem natsV_ints (l : List Nat) : natsV l = ints (l.map fun (x : Nat)=>(x : Int)):=by simp [natsV,natV,ints]
def Ent.f (e : Ent) : V:=.agg [u8V e.k,(match e.m with | none=>.nil | some (_,cap)=>.sl (natsV e.l) cap),natV 0,natV e.b]
theorem ent_frz {h : Hp} {n : Nat} (b : Nat) (L : List Ent) (hk : ∀ (i : Nat) e g c,L[i]? = some e→e.m = some (g,c)→lk h (b + i) = some (.row g 1 (natsV e.l))) : (entV b L).map (frz h (n + 1)) = L.map Ent.f:=by
  induction L generalizing b with
  | nil=>rfl
  | cons e r ih=>
    have h1:=ih (b + 1) fun i x g c hx hm=>by
      have:=hk (i + 1) x g c (by simpa using hx) hm
      rwa [show b + (i + 1) = b + 1 + i by omega] at this
    simp only [entV,List.map_cons,h1]
    congr 1
    cases hm : e.m with
    | none=>simp [Ent.v,Ent.iv,Ent.f,hm,u8V,natV,frz]
    | some y=>
      have h0:=hk 0 e y.1 y.2 (by simp) hm
      rw [Nat.add_zero] at h0
      simp only [Ent.v,Ent.iv,Ent.f,hm,frz_agg,List.map_cons,List.map_nil]
      rw [frz_ref h0 (by simp),List.drop_zero,List.take_of_length_le (by simp),frz_all _ _ (natsV_pure _)]
      simp [u8V,natV,frz]
theorem ent_le (e : Ent) (h : e.m = none→e.l = []) : CellsLe e.f e.nd.v:=by
  refine ⟨.refl _,?_,.refl _,.refl _,trivial⟩
  cases hm : e.m with
  | none=>simp only [h hm,Ent.nd]; exact VLe.nil'
  | some y=>simp only [Ent.nd,natsV_ints]; exact .cap _ _
theorem ents_le (L : List Ent) (h : ∀ e ∈ L,e.m = none→e.l = []) (c : Option Nat) : VLe (.sl (L.map Ent.f) c) (.sl ((L.map Ent.nd).map Nd.v) none):=by
  refine VLe.trans (VLe.slc (by simp) fun i=>?_) (.cap _ c)
  simp only [List.map_map,List.getD_eq_getElem?_getD,List.getElem?_map]
  cases hx : L[i]? with
  | none=>exact AllLe.refl _
  | some e=>exact ent_le e (h e (List.mem_of_getElem? hx))
end Go.Proofs.YtcmapbecfpcnfaaDoor
