/- Faults: the fault that plain data name; the law Detects of layer 13. Conditions: none. -/
import Derived.Test.YtekbgkainigfnaaGreatDoorU4
import Derived.Test.YtekbgkainigfnaaGreatDoorT14
import Derived.Test.YtekbgkainigfnaaGreatDoorXM
set_option linter.unusedSimpArgs false
set_option linter.unusedVariables false
namespace Go.Proofs.YtekbgkainigfnaaGreatDoor
open Go
set_option maxRecDepth 100000 in
set_option maxHeartbeats 4000000 in
theorem fofB_c (c : Ci) (hg : c.good) (f : Fx) (hf : f.ok) (m : Nat) (hm : f.m % 4 = m) (hm2 : m = 2∨m = 3) : ∃ g : Ft,g.any c∧PureC Tryz.prog gl0 21 [f.v,c.v] g.w:=by
  have hn0:=hg.n0
  have hn1:=hg.n1
  obtain ⟨N,hN⟩ : ∃ N,c.n.length = N:=⟨_,rfl⟩
  obtain ⟨a,ha⟩ : ∃ a,f.n % N = a:=⟨_,rfl⟩
  obtain ⟨b,hb⟩ : ∃ b,f.o % N = b:=⟨_,rfl⟩
  have haN : a < N:=by rw [← ha]; exact Nat.mod_lt _ (by omega)
  have hbN : b < N:=by rw [← hb]; exact Nat.mod_lt _ (by omega)
  have r1 : ((f.m : Int)).tmod 4 = (m : Int):=modN hm
  have r2 : ((f.n : Int)).tmod (N : Int) = (a : Int):=modN ha
  have r4 : ((f.o : Int)).tmod (N : Int) = (b : Int):=modN hb
  have w1 : IntKind.u8.wrap (m : Int) = (m : Int):=wrap_u8 (by omega) (by omega)
  have w2 : IntKind.i64.wrap (f.n : Int) = (f.n : Int):=u8i hf.n
  have w3 : IntKind.i64.wrap (f.p : Int) = (f.p : Int):=u8i hf.p
  have w4 : IntKind.i64.wrap (a : Int) = (a : Int):=u8i (by omega)
  have w6 : IntKind.i64.wrap (f.o : Int) = (f.o : Int):=u8i hf.o
  have w7 : IntKind.i64.wrap (b : Int) = (b : Int):=u8i (by omega)
  have hN0 : N ≠ 0:=by omega
  have hne : c.n ≠ []:=by intro e; rw [e] at hN; simp at hN; omega
  -- the bridge asked for
  obtain ⟨p,q,hpq,hpN,hqN⟩ : ∃ p q,(if m = 2∧b < a then (b,a) else (a,b)) = (p,q)∧p < N∧q < N:=by
    split
    · exact ⟨b,a,rfl,hbN,haN⟩
    · exact ⟨a,b,rfl,haN,hbN⟩
  obtain ⟨v,hv⟩ : ∃ v : Nat,(if m = 3 then 0 else if f.one = true then 1 else 0) = v:=⟨_,rfl⟩
  have hv1 : v ≤ 1:=by rw [← hv]; split <;> (try split) <;> omega
  have hv3 : m = 3→v = 0:=fun h=>by rw [← hv,if_pos h]
  have hlt : m = 2→p ≤ q:=fun h=>by
    by_cases e : b < a
    · rw [if_pos ⟨h,e⟩] at hpq; cases hpq; omega
    · rw [if_neg fun k=>e k.2] at hpq; cases hpq; omega
  have hpc:=pcheck_c c hg ⟨m,p,0,v,q⟩ hm2 (by dsimp only; omega) (by dsimp only; omega) rfl hv1 hv3
  obtain ⟨E,hE⟩ : ∃ E,bridgeE c ⟨m,p,0,v,q⟩ = E:=⟨_,rfl⟩
  rw [hE] at hpc
  obtain ⟨y,hy⟩ : ∃ y,c.n[p]'(by omega) = y:=⟨_,rfl⟩
  have hyl:=hg.val.l p (by omega)
  have hnd : c.nd p = y:=by rw [c.nd_get (by omega),hy]
  rw [hnd] at hyl
  obtain ⟨M,hM⟩ : ∃ M,y.i.length = M:=⟨_,rfl⟩
  obtain ⟨k,hk⟩ : ∃ k,f.p % (M + 1) = k:=⟨_,rfl⟩
  have hkM : k < M + 1:=by rw [← hk]; exact Nat.mod_lt _ (by omega)
  have r3 : ((f.p : Int)).tmod (((M + 1 : Nat)) : Int) = (k : Int):=modN hk
  have w8:=wrapN M (by omega)
  have w9 : IntKind.i64.wrap ((k : Int) - 1) = (k : Int) - 1:=by rw [wrap_i64] <;> omega
  obtain ⟨M1,hM1⟩ : ∃ M1,M + 1 = M1:=⟨_,rfl⟩
  rw [hM1] at w8 r3
  have hM10 : M1 ≠ 0:=by omega
  have hpc2 : c.n.length = N:=hN
  have hwalk : PureC Tryz.prog gl0 21 [f.v,c.v] (if E = 0 then (⟨m,p,0,v,q⟩ : Ft) else ⟨0,p,k,v,0⟩).w:=by
    simp only [Ft.w,u8V,natV] at hpc
    change PureC _ _ _ [_,.agg [_,_,.int .i64 (-1),_,_]] _ at hpc
    refine PureC.of_W 2 ok21 rfl ?_
    simp [i21,x21,Fx.v,u8V,hne]
    intro gf1 gf2 gf3 gm
    simp [hN,r1,r2,w2]
    refine ⟨rfl,?_⟩
    rcases hm2 with rfl | rfl
    case' inl=>
      by_cases hba : b < a
      case' pos=>
        rw [if_pos ⟨rfl,hba⟩] at hpq
        cases hpq
      case' neg=>
        rw [if_neg (fun k=>hba k.2)] at hpq
        cases hpq
      all_goals
        rw [if_neg (by omega)] at hv
        cases hone : f.one
        case' true=>
          rw [hone,if_pos rfl] at hv
          subst hv
          simp [hN,w6,r4,hN0,hba]
        case' false=>
          rw [hone,if_neg Bool.false_ne_true] at hv
          subst hv
          simp [hN,w6,r4,hN0,hba]
    case' inr=>
      rw [if_neg (fun k=>by omega)] at hpq
      cases hpq
      rw [if_pos rfl] at hv
      subst hv
      cases hone : f.one
      case' true=>simp [hN,w6,r4,hN0]
      case' false=>simp [hN,w6,r4,hN0]
    all_goals
      refine CallO.pure hpc (by simp [V.pureL,V.pure]) ?_
      by_cases hE0 : E = 0
      · simp [hE0]
        rfl
      · simp [hE0]
        intro gm2
        simp [hN,haN,hbN,hy,hM,w3,w8,hM10,r3,w9,hM1]
        rfl
  by_cases hE0 : E = 0
  · refine ⟨⟨m,p,0,v,q⟩,.inr ?_,by rw [if_pos hE0] at hwalk; exact hwalk⟩
    rw [hE0] at hE
    unfold bridgeE at hE
    split at hE
    · cases hE
    rename_i e1
    split at hE
    · cases hE
    rename_i e2
    split at hE
    · cases hE
    rename_i e3
    simp only [not_or,Bool.not_eq_true] at e1 e2 e3
    exact ⟨hm2,by dsimp only; omega,by dsimp only; omega,rfl,e1.1,hlt,hv1,hv3,e2.1,e2.2,e3.1,e3.2⟩
  · exact ⟨⟨0,p,k,v,0⟩,.inl ⟨⟨by simp,by dsimp only; omega,by dsimp only; rw [hnd,hM]; omega,hv1,rfl⟩,rfl⟩,by rw [if_neg hE0] at hwalk; exact hwalk⟩
theorem fofA_c (c : Ci) (hg : c.good) (z : Fx) (hz : z.ok) : ∃ f : Ft,PureC Tryz.prog gl0 21 [z.v,c.v] f.w∧((z.m % 4 = 1∧f.m = 1∧f.ok c)∨(z.m % 4 ≠ 1∧f.any c)):=by
  have h : z.m % 4 = 0∨z.m % 4 = 1∨z.m % 4 = 2∨z.m % 4 = 3:=by omega
  rcases h with h | h | h | h
  · exact ⟨_,fof_c c hg z hz 0 h (by omega),.inr ⟨by omega,.inl ⟨of_ok c hg z 0 (by omega),rfl⟩⟩⟩
  · exact ⟨_,fof_c c hg z hz 1 h (by omega),.inl ⟨h,rfl,of_ok c hg z 1 (by omega)⟩⟩
  · obtain ⟨g,h1,h2⟩:=fofB_c c hg z hz 2 h (.inl rfl)
    exact ⟨g,h2,.inr ⟨by omega,h1⟩⟩
  · obtain ⟨g,h1,h2⟩:=fofB_c c hg z hz 3 h (.inr rfl)
    exact ⟨g,h2,.inr ⟨by omega,h1⟩⟩
theorem bothS_c (c : Ci) (hg : c.good) (f : Ft) (hf : f.ok c) (hm : f.m = 1) (p : Pt) : PureC Tryz.prog gl0 58 [c.v,f.w,p.v] (.tup [.agg [.nil,.nil],.agg [.nil,.nil],.nil,.int .i64 7]):=by
  have hfc:=fcheck_c c hg f hf
  simp only [Ft.w,u8V,natV] at hfc
  refine PureC.of_W 2 ok58 rfl ?_
  simp [i58,x58,u8V,natV]
  intro gf1 gf2 gf3 gf4 gf5
  refine CallO.pure hfc (by simp) ?_
  simp [u8V,hm]
  exact rfl
theorem detSl_c (c : Ci) (hg : c.good) (f : Ft) (hf : f.ok c) (hm : f.m = 1) (p : Pt) : PureC Tryz.prog gl0 26 [c.v,f.w,p.v] (.tup [.bool false,.int .i64 7]):=by
  have hb:=bothS_c c hg f hf hm p
  have hs:=seen_c [] [] [] [] (by simp) (by simp)
  have hs2 : PureC Tryz.prog gl0 59 [.agg [.nil,.nil],.agg [.nil,.nil]] (.bool false):=
    PureC.wide hs ⟨VLe.agg ⟨VLe.nil,VLe.nil,trivial⟩,VLe.agg ⟨VLe.nil,VLe.nil,trivial⟩,trivial⟩ (.refl _)
  simp only [Pt.v] at hb
  refine PureC.of_W 2 ok26 rfl ?_
  simp [i26,x26]
  intro gf1 gf2 gf3
  refine CallO.pure hb (by simp [natV,u8V]) ?_
  simp
  intro gf5 gf6
  refine CallO.pure hs2 (by simp [V.pureL,V.pure]) ?_
  simp
theorem runSl_c (c : Ci) (hg : c.good) (f : Ft) (hf : f.ok c) (hm : f.m = 1) (p : Pt) : PureC Tryz.prog gl0 31 [c.v,f.w,p.v] (.tup [.agg [.nil,.nil],.nil,.int .i64 7]):=by
  have hb:=bothS_c c hg f hf hm p
  simp only [Pt.v] at hb
  refine PureC.of_W 2 ok31 rfl ?_
  simp [i31,x31]
  intro gf1 gf2 gf3 gf4
  refine CallO.pure hb (by simp [natV,u8V]) ?_
  simp
def fidx (n : Int) : List Int→Nat
  | []=>0
  | x :: l=>if x = n then 0 else fidx n l + 1
theorem fidx_le (n : Int) : ∀ l : List Int,fidx n l ≤ l.length
  | []=>Nat.le_refl _
  | x :: l=>by rw [fidx]; split; exact Nat.zero_le _; simp; exact fidx_le n l
theorem fidx_get (n : Int) : ∀ (l : List Int) (h : fidx n l < l.length),l[fidx n l] = n
  | [],h=>by simp at h
  | x :: l,h=>by
    by_cases e : x = n
    · simp [fidx,e]
    · simp only [fidx,if_neg e] at h ⊢
      simpa using fidx_get n l (by simpa using h)
theorem fidx_ne (n : Int) : ∀ (l : List Int) (j : Nat) (h : j < l.length),j < fidx n l→l[j] ≠ n
  | [],j,h,_=>by simp at h
  | x :: l,j,h,hj=>by
    by_cases e : x = n
    · simp [fidx,e] at hj
    · simp only [fidx,if_neg e] at hj
      cases j with
      | zero=>simpa using e
      | succ j=>simpa using fidx_ne n l j (by simpa using h) (by omega)
def idR (n : Int) (l : List Int) : Int:=if fidx n l < l.length then (fidx n l : Int) else -1
theorem index_c (l : List Int) (cap : Option Nat) (n : Int) (hl : l.length < 1000000) : PureC Tryz.prog gl0 37 [.sl (ints l) cap,.int .i64 n] (.int .i64 (idR n l)):=by
  obtain ⟨r,hr⟩ : ∃ r,idR n l = r:=⟨_,rfl⟩
  rw [hr]
  refine PureC.of_W 2 ok37 rfl ?_
  simp [i37,x37]
  refine LoopP.of (X:=Nat) (fun i=>[(5,natV i),(1,.int .i64 n),(0,.sl (ints l) cap)]) (fun _=>[]) (fun i=>i ≤ fidx n l) (fun i=>l.length - i) 0 (Nat.zero_le _) (by simp [natV]) (by simp) ?_
  intro i hi
  have hle:=fidx_le n l
  simp [natV]
  refine BrB.of (fun hb=>?_) (fun hb=>?_)
  · have hil : i < l.length:=of_decide_eq_true hb
    have hw:=wrapN i (by omega)
    simp [hil,ints_getE]
    by_cases e : l[i] = n
    · have hif : i = fidx n l:=by
        by_cases hlt : i < fidx n l
        · exact absurd e (fidx_ne n l i hil hlt)
        · omega
      have : r = (i : Int):=by rw [← hr]; unfold idR; rw [← hif,if_pos hil]
      simp [e,this]
    · simp [e,hw]
      refine ⟨i + 1,?_,rfl,by omega⟩
      by_cases hif : i = fidx n l
      · exact absurd (by have:=fidx_get n l (by omega); simpa only [← hif] using this) e
      · omega
  · have hil : ¬ i < l.length:=by have:=of_decide_eq_false hb; omega
    have : r = -1:=by rw [← hr]; unfold idR; rw [if_neg (by omega)]
    simp [this]
theorem det_out (c : Ci) (hg : c.good) (f : Ft) (hm : f.m = 0) (hq : f.q = 0) (hn : f.n < c.n.length) (hv : f.v ≤ 1) (p : Pt) (ho : 0 ≤ idR (f.n : Int) c.o) (hA : netN c p f.n = notN f.v) : f.det c p = true:=by
  have hM : f.M c p f.n = f.v:=by
    have h:=netM_sol (W:=f.W c p) (Q:=f.Q c p) (p:=p) hg hg.ord f.n hn
    have hW : f.W c p = atW f fun _=>f.v:=by unfold Ft.W; rw [if_neg (by omega),if_neg (by omega)]
    unfold Ft.M
    rw [h,hW]
    unfold atW
    rw [if_pos ⟨hq,rfl⟩]
  have hlt : fidx (f.n : Int) c.o < c.o.length:=by
    by_cases h : fidx (f.n : Int) c.o < c.o.length
    · exact h
    · unfold idR at ho; rw [if_neg h] at ho; omega
  have hget:=fidx_get (f.n : Int) c.o hlt
  generalize fidx (f.n : Int) c.o = i at hlt hget
  unfold Ft.det visB seenB
  rw [decide_eq_true_eq]
  have : 0 < (cons (obsO c (netN c p)) (obsMO c (netM c (f.W c p) (f.Q c p) p))).length:=by
    rw [cons_pos]
    refine ⟨i,by simp [obsO,obsMO,hlt],?_⟩
    have e1 : (obsO c (netN c p)).getD i 0 = clean (notN f.v):=by
      rw [List.getD_eq_getElem?_getD,List.getElem?_eq_getElem (by simpa [obsO] using hlt)]
      simp [obsO,hget,hA]
    have e2 : (obsMO c (netM c (f.W c p) (f.Q c p) p)).getD i 0 = f.v:=by
      rw [List.getD_eq_getElem?_getD,List.getElem?_eq_getElem (by simpa [obsMO] using hlt)]
      simp only [obsMO,List.getElem_map,hget,Option.getD_some,Int.toNat_natCast]
      exact hM
    unfold conB
    rw [e1,e2]
    have : f.v = 0∨f.v = 1:=by omega
    rcases this with h | h <;> rw [h] <;> decide
  omega
end Go.Proofs.YtekbgkainigfnaaGreatDoor
