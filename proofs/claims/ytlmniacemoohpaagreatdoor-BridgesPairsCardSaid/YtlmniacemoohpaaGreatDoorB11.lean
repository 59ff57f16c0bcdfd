/- Bridges: the pairs of nets that may be bridged, in order. No program stands in it. Conditions: none. -/
import Derived.Test.YtlmniacemoohpaaGreatDoorB5
import Derived.Test.YtlmniacemoohpaaGreatDoorBase18
import Derived.Test.YtlmniacemoohpaaGreatDoorT7
import Derived.Test.YtlmniacemoohpaaGreatDoorXC2
import Derived.Test.YtlmniacemoohpaaGreatDoorXL7
set_option linter.unusedSimpArgs false
set_option linter.unusedVariables false
namespace Go.Proofs.YtlmniacemoohpaaGreatDoor
open Go
def okP (c : Ci) (a b : Nat) : Bool:=!(decide ((c.nd a).k = 12) || decide ((c.nd b).k = 12)) && !dep c (c.n.length + 1) a b && !dep c (c.n.length + 1) b a
def rowP (c : Ci) (a b : Nat) : List (Nat × Nat):=((List.range b).filter fun j=>decide (a < j) && okP c a j).map fun j=>(a,j)
def prsP (c : Ci) (n : Nat) : List (Nat × Nat):=(List.range n).flatMap fun a=>rowP c a c.n.length
theorem rowP_succ (c : Ci) (a b : Nat) : rowP c a (b + 1) = rowP c a b ++ if (decide (a < b) && okP c a b) = true then [(a,b)] else []:=by
  unfold rowP
  rw [List.range_succ,List.filter_append,List.map_append]
  congr 1
  by_cases h : (decide (a < b) && okP c a b) = true
  · rw [if_pos h]; simp only [List.filter,h]; rfl
  · rw [if_neg h]; simp only [List.filter,Bool.eq_false_iff.2 h]; rfl
theorem rowP_ini (c : Ci) (a : Nat) : ∀ b,b ≤ a + 1→rowP c a b = []
  | 0,_=>rfl
  | b + 1,h=>by
    rw [rowP_succ,rowP_ini c a b (by omega),if_neg]
    · rfl
    · have : ¬ a < b:=by omega
      simp [this]
theorem prsP_succ (c : Ci) (n : Nat) : prsP c (n + 1) = prsP c n ++ rowP c n c.n.length:=by simp [prsP,List.range_succ]
theorem rowP_len (c : Ci) (a b : Nat) : (rowP c a b).length ≤ b:=by
  unfold rowP
  rw [List.length_map]
  have:=List.length_filter_le (fun j=>decide (a < j) && okP c a j) (List.range b)
  rw [List.length_range] at this
  exact this
theorem prsP_len (c : Ci) : ∀ n,(prsP c n).length ≤ c.n.length * n
  | 0=>by simp [prsP]
  | n + 1=>by
    rw [prsP_succ,List.length_append]
    have:=prsP_len c n
    have:=rowP_len c n c.n.length
    rw [Nat.mul_succ]; omega
def pqP (c : Ci) (a b : Nat) : List (Nat × Nat):=prsP c a ++ rowP c a b
theorem pqP_ini (c : Ci) (a b : Nat) (h : b ≤ a + 1) : pqP c a b = prsP c a:=by unfold pqP; rw [rowP_ini c a b h,List.append_nil]
theorem pqP_end (c : Ci) (a : Nat) : pqP c a c.n.length = prsP c (a + 1):=by rw [prsP_succ]; rfl
theorem pqP_no {c : Ci} {a b : Nat} (h : a < b→okP c a b = false) : pqP c a (b + 1) = pqP c a b:=by
  unfold pqP
  rw [rowP_succ,if_neg,List.append_nil]
  intro q
  simp only [Bool.and_eq_true,decide_eq_true_eq] at q
  rw [h q.1] at q
  exact Bool.noConfusion q.2
theorem pqP_ok {c : Ci} {a b : Nat} (h1 : a < b) (h : okP c a b = true) : pqP c a (b + 1) = pqP c a b ++ [(a,b)]:=by
  unfold pqP
  rw [rowP_succ,if_pos (by simp [h1,h]),List.append_assoc]
theorem pqP_len (c : Ci) (hn : c.n.length ≤ 20) {a b : Nat} (ha : a ≤ c.n.length) (hb : b ≤ c.n.length) : (pqP c a b).length ≤ 420:=by
  unfold pqP
  rw [List.length_append]
  have l1:=prsP_len c a
  have l2:=rowP_len c a b
  have l3 : c.n.length * a ≤ 20 * 20:=Nat.mul_le_mul hn (by omega)
  omega
def pV (p : Nat × Nat) : V:=.agg [natV p.1,natV p.2]
theorem pVs_pure (l : List (Nat × Nat)) : V.pureL (l.map pV) = true:=pureL_map (fun x=>by simp [pV,natV]) l
def fL (p : Nat × Nat) : List Ft:=[⟨2,p.1,0,0,p.2⟩,⟨2,p.1,0,1,p.2⟩]
def fsP (l : List (Nat × Nat)) : List Ft:=l.flatMap fL
theorem fsP_len : ∀ l : List (Nat × Nat),(fsP l).length = 2 * l.length
  | []=>rfl
  | p :: l=>by
    have:=fsP_len l
    unfold fsP at this ⊢
    rw [List.flatMap_cons,List.length_append,this]
    simp [fL]; omega
theorem fsP_append (l r : List (Nat × Nat)) : fsP (l ++ r) = fsP l ++ fsP r:=List.flatMap_append
theorem fsP_get : ∀ (l : List (Nat × Nat)) (i : Nat) (h : i < l.length) (h2 : 2 * i < (fsP l).length),(fsP l)[2 * i] = ⟨2,l[i].1,0,0,l[i].2⟩
  | p :: l,0,_,_=>by simp [fsP,fL]
  | p :: l,i + 1,h,h2=>by
    have hl:=fsP_len (p :: l)
    have hi : i < l.length:=by simpa using h
    have hf:=fsP_len l
    have:=fsP_get l i hi (by omega)
    have e : fsP (p :: l) = fL p ++ fsP l:=by simp [fsP]
    rw [List.getElem_cons_succ]
    simp only [e]
    rw [List.getElem_append_right (by simp [fL]; omega)]
    simp only [fL,List.length_cons,List.length_nil]
    have e2 : 2 * (i + 1) - (0 + 1 + 1) = 2 * i:=by omega
    simp only [e2]
    exact this
end Go.Proofs.YtlmniacemoohpaaGreatDoor
namespace Go.Proofs.YtlmniacemoohpaaGreatDoor
open Go
theorem mkp59_c (c : Ci) : PureC Tryz.prog gl0 59 [c.v] (.fn 108 [] [.iptr c.v 0]):=by
  refine PureC.of_W 3 ok59 rfl ?_
  simp [i59,x59]
theorem clipP_c (l : List (Nat × Nat)) (cap : Option Nat) : PureC Tryz.prog gl0 60 [.sl (l.map pV) cap] (.sl (l.map pV) (some l.length)):=by
  have hp:=pVs_pure l
  have hl : (l.map pV).length = l.length:=by simp
  generalize l.map pV = v at hp hl ⊢
  rw [← hl]
  refine PureC.of_W 2 ok60 rfl ?_
  simp [i60,x60]
  exact mapRL_pure _ hp
theorem clipPN_c : PureC Tryz.prog gl0 60 [.nil] (.sl [] (some 0)):=by
  refine PureC.of_W 2 ok60 rfl ?_
  simp [i60,x60]
def prsV (l : List (Nat × Nat)) : V:=.sl (l.map pV) (some l.length)
noncomputable def lp27 (g g6 : Nat) : Blk:=.loop g 28 [(6,.ptr 6 g6 0 0)] [18] ra27_0 rb27_0 false
theorem yld27 {g g6 : Nat} {z : Option (Nat × List V)} {p : Nat × Nat} {h : Hp} {K : V→Hp→Prop} (hz : (accL z).length < 65536) (hp : V.pureL (accL z) = true) (h1 : lk h 2000018 = some (lp27 g g6)) (h2 : lk h 6 = some (.row g6 1 [accV 25 z])) (h3 : ∀ g' l,z = some (g',l)→lk h 25 = some (.row g' 2 l))
    (hk : ∀ ga h3,lk h3 2000018 = some (lp27 g g6)→lk h3 6 = some (.row g6 1 [accV 25 (some (ga,accL z ++ [pV p]))])→lk h3 25 = some (.row ga 2 (accL z ++ [pV p]))→(∀ t,t ≠ 2000018→t ≠ 6→t ≠ 25→t ≠ 7→t ≠ 24→lk h3 t = lk h t)→K (.bool true) h3) :
    IYield Tryz.prog gl0 2000018 g [pV p] h K:=by
  unfold lp27 at *
  refine IYield.of_W rok27_0 h1 rfl ?_
  rcases z with _ | ⟨gz,l⟩
  · simp only [accV,accL] at *
    simp [xa27_0,xb27_0,pV,natV,h1,h2]
    intro gf
    refine ⟨_,_,_,_,_,⟨rfl,rfl,rfl,rfl,rfl⟩,?_⟩
    intro ga gb
    refine .done ⟨_,_,_,_,_,by simp; exact ⟨rfl,rfl,rfl,rfl,rfl⟩,_,Sub_ddup _,?_⟩
    refine hk (gb 25) _ ?_ ?_ ?_ fun t q1 q2 q3 q4 q5=>?_
    all_goals rw [lk_ddup]
    all_goals simp [pV,natV, *]
  · have h4:=h3 _ _ rfl
    simp only [accV,accL] at *
    simp [xa27_0,xb27_0,pV,natV,h1,h2,h4]
    intro gf
    refine ⟨_,_,_,_,_,⟨rfl,rfl,rfl,rfl,rfl⟩,?_⟩
    have hle : ¬ l.length = 65536:=by omega
    simp [hle,h1,h2,h4]
    intro ga gb
    refine ⟨by omega,.done ⟨_,_,_,_,_,by simp; exact ⟨rfl,rfl,rfl,rfl,rfl⟩,_,Sub_ddup _,?_⟩⟩
    refine hk (gb 25) _ ?_ ?_ ?_ fun t q1 q2 q3 q4 q5=>?_
    all_goals rw [lk_ddup]
    all_goals simp [pV,natV, *]
def conesV (c : Ci) (i : Nat) : List V:=tab c.n.length fun j=>if j < i then .sl (boolsV c.n.length (dep c (c.n.length + 1) j)) (some c.n.length) else .nil
@[simp] theorem conesV_length (c : Ci) (i : Nat) : (conesV c i).length = c.n.length:=by simp [conesV]
theorem conesV_rep (c : Ci) : List.replicate c.n.length V.nil = conesV c 0:=by
  refine List.ext_getElem (by simp) fun i h1 h2=>?_
  simp only [conesV]
  rw [tab_get,List.getElem_replicate]
  simp
theorem conesV_at (c : Ci) (i : Nat) (h : i < (conesV c i).length) : (conesV c i)[i] = .nil:=by simp only [conesV]; rw [tab_get,if_neg (Nat.lt_irrefl i)]
theorem conesV_all (c : Ci) (j : Nat) (h : j < (conesV c c.n.length).length) : (conesV c c.n.length)[j] = .sl (boolsV c.n.length (dep c (c.n.length + 1) j)) (some c.n.length):=by
  have hj : j < c.n.length:=by simpa using h
  simp only [conesV]; rw [tab_get,if_pos hj]
theorem conesV_set (c : Ci) (i : Nat) : (conesV c i).set i (.sl (boolsV c.n.length (dep c (c.n.length + 1) i)) (some c.n.length)) = conesV c (i + 1):=by
  unfold conesV
  rw [tab_set]
  congr 1
  funext j
  by_cases h : j = i
  · subst h; simp
  · rw [upd1_ne _ _ h]
    by_cases h2 : j < i
    · rw [if_pos h2,if_pos (by omega)]
    · rw [if_neg h2,if_neg (by omega)]
structure PrSt where
  i : Nat
  z : Option (Nat × List V)
theorem accH_lk {b sz : Nat} {z : Option (Nat × List V)} {g' : Nat} {l : List V} (h : z = some (g',l)) : accH b sz z = [(b,.row g' sz l)]:=by rw [h]; rfl
set_option maxRecDepth 100000 in
theorem iter108_c (c : Ci) (hg : c.good) (g g6 g3 g2 : Nat) (K : V→Hp→Prop)
    (hK : ∀ v z,accL z = (prsP c c.n.length).map pV→K v ((2000018,lp27 g g6) :: (6,.row g6 1 [accV 25 z]) :: (3,.row g3 1 [.int .i64 0]) :: (2,.row g2 1 [.nil]) :: accH 25 2 z)) :
    ICallO Tryz.prog gl0 108 [.own 2000018 g,.iptr c.v 0] [(2000018,lp27 g g6),(6,.row g6 1 [.nil]),(3,.row g3 1 [.int .i64 0]),(2,.row g2 1 [.nil])] K:=by
  have hn1:=hg.n1
  have hn0:=hg.n0
  refine CallO.of_W ok108 rfl ?_
  simp [i108,x108]
  intro gf
  refine ⟨by omega,?_⟩
  generalize gf 11 = g11
  refine LoopP.of (X:=Nat) (fun i=>[(14,natV i),(13,natV c.n.length),(3,.ref 11 g11 0 c.n.length (some c.n.length)),(1,.iptr c.v 0),(0,.own 2000018 g)])
    (fun i=>[(11,.row g11 1 (conesV c i)),(2000018,lp27 g g6),(6,.row g6 1 [.nil]),(3,.row g3 1 [.int .i64 0]),(2,.row g2 1 [.nil])])
    (fun i=>i ≤ c.n.length) (fun i=>c.n.length - i) 0 (by simp) (by simp [natV]) (by simp [conesV_rep]) ?_
  rintro i q1
  simp [natV]
  refine BrB.of (fun hb1=>?_) (fun hb1=>?_)
  · have hi:=of_decide_eq_true hb1
    have hw:=wrapN i (by omega)
    have hc:=bcone_c c hg i hi
    simp
    refine CallO.pure hc (by simp [natV]) ?_
    simp [hi,conesV_at,conesV_set,hw]
    exact ⟨i + 1,hi,rfl,rfl,by omega⟩
  · have hi : i = c.n.length:=by have:=of_decide_eq_false hb1; omega
    subst hi
    simp
    refine LoopP.of (X:=PrSt) (fun z=>[(27,natV z.i),(26,natV c.n.length),(3,.ref 11 g11 0 c.n.length (some c.n.length)),(1,.iptr c.v 0),(0,.own 2000018 g)])
      (fun z=>(11,.row g11 1 (conesV c c.n.length)) :: (2000018,lp27 g g6) :: (6,.row g6 1 [accV 25 z.z]) :: (3,.row g3 1 [.int .i64 0]) :: (2,.row g2 1 [.nil]) :: accH 25 2 z.z)
      (fun z=>z.i ≤ c.n.length∧accL z.z = (prsP c z.i).map pV) (fun z=>c.n.length - z.i) ⟨0,none⟩ ⟨by simp,by simp [accL,prsP]⟩ (by simp [natV]) (by simp [accV,accH]) ?_
    rintro ⟨a,z⟩ ⟨q2,q3⟩
    dsimp only at q2 q3 ⊢
    simp [natV]
    refine BrB.of (fun hb2=>?_) (fun hb2=>?_)
    · have ha:=of_decide_eq_true hb2
      have hwa:=wrapN a (by omega)
      obtain ⟨y,hy⟩ : ∃ y,c.n[a] = y:=⟨_,rfl⟩
      have hya : c.nd a = y:=by rw [c.nd_get ha,hy]
      simp [hwa]
      refine LoopP.of (X:=PrSt) (fun z=>[(6,natV z.i),(5,natV a),(27,natV a),(26,natV c.n.length),(3,.ref 11 g11 0 c.n.length (some c.n.length)),(1,.iptr c.v 0),(0,.own 2000018 g)])
        (fun z=>(11,.row g11 1 (conesV c c.n.length)) :: (2000018,lp27 g g6) :: (6,.row g6 1 [accV 25 z.z]) :: (3,.row g3 1 [.int .i64 0]) :: (2,.row g2 1 [.nil]) :: accH 25 2 z.z)
        (fun z=>a < z.i∧z.i ≤ c.n.length∧accL z.z = (pqP c a z.i).map pV) (fun z=>c.n.length - z.i) ⟨a + 1,z⟩ ⟨by simp,ha,by rw [pqP_ini c a _ (Nat.le_refl _)]; exact q3⟩ (by simp [natV]) (by rcases z with _ | ⟨ga,r⟩ <;> simp [accH]) ?_
      rintro ⟨b,z⟩ ⟨q4,q5,q6⟩
      dsimp only at q4 q5 q6 ⊢
      simp [natV]
      refine BrB.of (fun hb3=>?_) (fun hb3=>?_)
      · have hb:=of_decide_eq_true hb3
        have hwb:=wrapN b (by omega)
        obtain ⟨w,hw⟩ : ∃ w,c.n[b] = w:=⟨_,rfl⟩
        have hwb2 : c.nd b = w:=by rw [c.nd_get hb,hw]
        have skip : okP c a b = false→accL z = (pqP c a (b + 1)).map pV:=fun h=>by rw [pqP_no fun _=>h]; exact q6
        have add : okP c a b = true→accL z ++ [pV (a,b)] = (pqP c a (b + 1)).map pV:=fun h=>by rw [pqP_ok q4 h,List.map_append,← q6]; rfl
        have hsub : Sub (accH 25 2 z) ((11,.row g11 1 (conesV c c.n.length)) :: (2000018,lp27 g g6) :: (6,.row g6 1 [accV 25 z]) :: (3,.row g3 1 [.int .i64 0]) :: (2,.row g2 1 [.nil]) :: accH 25 2 z):=by rcases z with _ | ⟨ga,r⟩ <;> simp [accH]
        have hok : okP c a b = (!(decide (y.k = 12) || decide (w.k = 12)) && !dep c (c.n.length + 1) a b && !dep c (c.n.length + 1) b a):=by unfold okP; rw [hya,hwb2]
        simp [ha,hb,hy,hw]
        by_cases e1 : y.k = 12
        · simp [e1,hwb]
          exact ⟨⟨b + 1,z⟩,⟨by dsimp only; omega,hb,skip (by rw [hok]; simp [e1])⟩,rfl,⟨rfl,hsub⟩,by dsimp only; omega⟩
        by_cases e2 : w.k = 12
        · simp [e1,e2,ha,hb,hy,hw,hwb]
          exact ⟨⟨b + 1,z⟩,⟨by dsimp only; omega,hb,skip (by rw [hok]; simp [e2])⟩,rfl,⟨rfl,hsub⟩,by dsimp only; omega⟩
        simp [e1,e2,ha,hb,hy,hw,hwb,conesV_all,boolsV_get]
        cases d1 : dep c (c.n.length + 1) a b
        case' true=>
          simp [d1,e1,e2,ha,hb,hy,hw,hwb,conesV_all,boolsV_get]
          exact ⟨⟨b + 1,z⟩,⟨by dsimp only; omega,hb,skip (by rw [hok,d1]; simp)⟩,rfl,⟨rfl,hsub⟩,by dsimp only; omega⟩
        simp [d1,e1,e2,ha,hb,hy,hw,hwb,conesV_all,boolsV_get]
        cases d2 : dep c (c.n.length + 1) b a
        case' true=>
          simp [d2,e1,e2,ha,hb,hy,hw,hwb,conesV_all,boolsV_get]
          exact ⟨⟨b + 1,z⟩,⟨by dsimp only; omega,hb,skip (by rw [hok,d2]; simp)⟩,rfl,⟨rfl,hsub⟩,by dsimp only; omega⟩
        have hadd:=add (by rw [hok,d1,d2]; simp [e1,e2])
        have hln : (accL z).length < 65536:=by
          rw [q6,List.length_map]
          have:=pqP_len c hn1 (a:=a) (b:=b) (by omega) q5
          omega
        have hlp : V.pureL (accL z) = true:=by rw [q6]; exact pVs_pure _
        simp [d2,e1,e2,ha,hb,hy,hw,hwb,conesV_all,boolsV_get]
        refine yld27 (g6:=g6) (z:=z) (p:=(a,b)) hln hlp (by simp) (by simp) (fun g' l e=>by simp [accH_lk e]) fun ga h3 k1 k2 k3 k4=>?_
        have k11:=k4 11 (by simp) (by simp) (by simp) (by simp) (by simp)
        have kk3:=k4 3 (by simp) (by simp) (by simp) (by simp) (by simp)
        have kk2:=k4 2 (by simp) (by simp) (by simp) (by simp) (by simp)
        simp at k11 kk3 kk2
        simp [hwb]
        exact ⟨⟨b + 1,some (ga,accL z ++ [pV (a,b)])⟩,⟨by dsimp only; omega,hb,hadd⟩,rfl,⟨k11,k1,k2,kk3,kk2,by simp [accH,k3]⟩,by dsimp only; omega⟩
      · have hb : b = c.n.length:=by have:=of_decide_eq_false hb3; omega
        subst hb
        simp [hwa]
        exact ⟨⟨a + 1,z⟩,⟨ha,by dsimp only; rw [← pqP_end]; exact q6⟩,rfl,⟨rfl,by rcases z with _ | ⟨ga,r⟩ <;> simp [accH]⟩,by dsimp only; omega⟩
    · have ha : a = c.n.length:=by have:=of_decide_eq_false hb2; omega
      subst ha
      simp
      refine .done ⟨_,?_,hK _ z q3⟩
      rcases z with _ | ⟨ga,r⟩ <;> simp [accH]
set_option maxRecDepth 100000 in
theorem pairs_c (c : Ci) (hg : c.good) : PureC Tryz.prog gl0 27 [c.v] (.tup [prsV (prsP c c.n.length),.int .i64 0]):=by
  have hl:=lines_c c hg
  have hm:=mkp59_c c
  have hn1:=hg.n1
  refine PureC.of_WM 4 2 ok27 rfl ?_
  simp [i27,x27]
  intro gf1 gf2 gf2b
  refine KM.mk (.done ?_)
  simp
  refine CallO.pure hl (by simp) ?_
  simp
  refine KM.mk (.done ?_)
  simp
  intro gf3
  refine KM.mk (.done ?_)
  simp
  refine CallO.pure hm (by simp) ?_
  simp
  generalize gf3 6 = g6
  generalize gf2b 3 = g3
  generalize gf2 2 = g2
  refine ⟨[(6,.ptr 6 g6 0 0)],by simp,[(6,.row g6 1 [.nil]),(3,.row g3 1 [.int .i64 0]),(2,.row g2 1 [.nil])],by simp,fun g=>iter108_c c hg g g6 g3 g2 _ fun v z hz=>?_⟩
  unfold lp27
  simp
  rcases z with _ | ⟨ga,r⟩
  · have hz2 : prsP c c.n.length = []:=List.map_eq_nil_iff.1 hz.symm
    rw [hz2]
    refine KM.mk (.done ?_)
    simp [accV,accH]
    refine CallO.pure clipPN_c rfl ?_
    simp [prsV]
  · have hr : r = (prsP c c.n.length).map pV:=hz
    have hp : V.pureL r = true:=by rw [hr]; exact pVs_pure _
    have hclip:=clipP_c (prsP c c.n.length) none
    have hpv : prsV (prsP c c.n.length) = .sl r (some r.length):=by rw [hr]; simp [prsV]
    rw [← hr,show (prsP c c.n.length).length = r.length by rw [hr]; simp] at hclip
    rw [hpv]
    refine KM.mk (.frz (g:=ga) (sz:=2) (es:=r) 25 (by simp [accH]) hp (.done ?_))
    simp [accV,accH,fzV,V.mapR,V.mapRL,fzH,Blk.fz,lnsN_pure,fzF,fzp,fzf]
    refine CallO.pure hclip (by simp [hp]) ?_
    simp
    exact mapRL_pure _ hp
end Go.Proofs.YtlmniacemoohpaaGreatDoor
namespace Go.Proofs.YtlmniacemoohpaaGreatDoor
open Go
theorem mkp110_c (c : Ci) : PureC Tryz.prog gl0 110 [c.v] (.fn 144 [] [.iptr c.v 0]):=by
  refine PureC.of_W 3 ok110 rfl ?_
  simp [i110,x110]
theorem mks61_c (c : Ci) (l : V) (hl : l.pure = true) (hc : l.cellsOk = true) (m : Nat) : PureC Tryz.prog gl0 61 [c.v,u8V m,l] (.fn 109 [] [.iptr (u8V m) 0,.iptr l 0,.iptr c.v 0]):=by
  refine PureC.of_W 3 ok61 rfl ?_
  simp [i61,x61,u8V]
  intro gf1 gf2 gf3
  exact ⟨hc,mapR_pure _ hl⟩
theorem fws_pure (l : List Ft) : V.pureL (l.map Ft.w) = true:=pureL_map (fun x=>by simp [Ft.w,u8V,natV]) l
theorem clipF_c (l : List Ft) (cap : Option Nat) : PureC Tryz.prog gl0 62 [.sl (l.map Ft.w) cap] (.sl (l.map Ft.w) (some l.length)):=by
  have hp:=fws_pure l
  have hl : (l.map Ft.w).length = l.length:=by simp
  generalize l.map Ft.w = v at hp hl ⊢
  rw [← hl]
  refine PureC.of_W 2 ok62 rfl ?_
  simp [i62,x62]
  exact mapRL_pure _ hp
theorem clipFN_c : PureC Tryz.prog gl0 62 [.nil] (.sl [] (some 0)):=by
  refine PureC.of_W 2 ok62 rfl ?_
  simp [i62,x62]
def flV (l : List Ft) : V:=.sl (l.map Ft.w) (some l.length)
noncomputable def lp28 (g g8 : Nat) : Blk:=.loop g 36 [(8,.ptr 7008 g8 0 0)] [26] ra28_0 rb28_0 false
theorem yld28 {g g8 : Nat} {z : Option (Nat × List V)} {f : Ft} {h : Hp} {K : V→Hp→Prop} (hz : (accL z).length < 65536) (hp : V.pureL (accL z) = true) (h1 : lk h 2000026 = some (lp28 g g8)) (h2 : lk h 7008 = some (.row g8 1 [accV 33 z])) (h3 : ∀ g' l,z = some (g',l)→lk h 33 = some (.row g' 5 l))
    (hk : ∀ ga h3,lk h3 2000026 = some (lp28 g g8)→lk h3 7008 = some (.row g8 1 [accV 33 (some (ga,accL z ++ [f.w]))])→lk h3 33 = some (.row ga 5 (accL z ++ [f.w]))→(∀ t,t ≠ 2000026→t ≠ 7008→t ≠ 33→t ≠ 9→t ≠ 32→lk h3 t = lk h t)→K (.bool true) h3) :
    IYield Tryz.prog gl0 2000026 g [f.w] h K:=by
  unfold lp28 at *
  refine IYield.of_W rok28_0 h1 rfl ?_
  rcases z with _ | ⟨gz,l⟩
  · simp only [accV,accL] at *
    simp [xa28_0,xb28_0,Ft.w,u8V,natV,h1,h2]
    intro gf
    refine ⟨_,_,_,_,_,⟨rfl,rfl,rfl,rfl,rfl⟩,?_⟩
    intro ga gb
    refine .done ⟨_,_,_,_,_,by simp; exact ⟨rfl,rfl,rfl,rfl,rfl⟩,_,Sub_ddup _,?_⟩
    refine hk (gb 33) _ ?_ ?_ ?_ fun t q1 q2 q3 q4 q5=>?_
    all_goals rw [lk_ddup]
    all_goals simp [Ft.w,u8V,natV, *]
  · have h4:=h3 _ _ rfl
    simp only [accV,accL] at *
    simp [xa28_0,xb28_0,Ft.w,u8V,natV,h1,h2,h4]
    intro gf
    refine ⟨_,_,_,_,_,⟨rfl,rfl,rfl,rfl,rfl⟩,?_⟩
    have hle : ¬ l.length = 65536:=by omega
    simp [hle,h1,h2,h4]
    intro ga gb
    refine ⟨by omega,.done ⟨_,_,_,_,_,by simp; exact ⟨rfl,rfl,rfl,rfl,rfl⟩,_,Sub_ddup _,?_⟩⟩
    refine hk (gb 33) _ ?_ ?_ ?_ fun t q1 q2 q3 q4 q5=>?_
    all_goals rw [lk_ddup]
    all_goals simp [Ft.w,u8V,natV, *]
noncomputable def lp109 (g2 g4 : Nat) : Blk:=.loop g2 64 [(1,.iptr (.int .u8 2) 0),(4,.ptr 4 g4 0 0)] [35,36] ra109_0 rb109_0 false
noncomputable def hh109 (c : Ci) (y : Nd) (g g2 g4 g5 g6 g7 g8 g12 : Nat) (z : Option (Nat × List V)) : Hp:=
  (12,.row g12 1 (conesV c c.n.length)) :: (6,.row g6 4 [y.v]) :: (2000035,lp109 g2 g4) :: (4,.row g4 1 [.own 2000026 g]) :: (2000026,lp28 g g8) :: (7008,.row g8 1 [accV 33 z]) :: (7004,.row g7 1 [.nil]) :: (5,.row g5 1 [.int .i64 0]) :: accH 33 5 z
theorem conesV_pure (c : Ci) (i : Nat) : V.pureL (conesV c i) = true:=by
  rw [V.pureL_iff]
  intro v hv
  unfold conesV tab at hv
  obtain ⟨j,-,rfl⟩:=List.mem_map.1 hv
  split
  · simp [V.pure,boolsV_pure]
  · rfl
set_option maxRecDepth 100000 in
theorem yld109 (c : Ci) (y : Nd) {g g2 g4 g5 g6 g7 g8 g12 : Nat} {z : Option (Nat × List V)} {a b : Nat} {K : V→Hp→Prop} (hz : (accL z).length < 65535) (hp : V.pureL (accL z) = true)
    (hk : ∀ z',accL z' = accL z ++ (if b < a then [] else (fL (a,b)).map Ft.w)→K (.bool true) (hh109 c y g g2 g4 g5 g6 g7 g8 g12 z')) :
    IYield Tryz.prog gl0 2000035 g2 [natV a,natV b] (hh109 c y g g2 g4 g5 g6 g7 g8 g12 z) K:=by
  have hcp : V.pureL (conesV c c.n.length) = true:=conesV_pure c _
  have hyp : y.v.pure = true:=by simp [Nd.v]
  have hlk : lk (hh109 c y g g2 g4 g5 g6 g7 g8 g12 z) 2000035 = some (.loop g2 64 [(1,.iptr (.int .u8 2) 0),(4,.ptr 4 g4 0 0)] [35,36] ra109_0 rb109_0 false):=by simp [hh109,lp109]
  unfold hh109
  refine IYield.of_WM 1 rok109_0 hlk rfl ?_
  rcases z with _ | ⟨gz,l⟩
  · simp [xa109_0,natV,lp109,accV,accH]
    refine ⟨_,_,_,_,_,⟨rfl,rfl,rfl,rfl,rfl⟩,?_⟩
    intro gf
    refine KM.mk (.move 9 7009 _ (by decide) (by simp; rfl) fun g9=>.done ?_)
    simp [mvF,mvH,mvS,V.rn,V.rnL,Blk.rn,Blk.gen,lp28,map_rn_pure hcp,rn_pure _ hyp]
    refine BrB.of (fun hb=>?_) (fun hb=>?_)
    · have hba:=of_decide_eq_true hb
      simp
      exact .done ⟨_,_,_,_,_,by simp; exact ⟨rfl,rfl,rfl,rfl,rfl⟩,_,by simp [hh109,lp109,lp28,accV,accH],hk none (by simp [hba,accL])⟩
    · have hba:=of_decide_eq_false hb
      simp
      refine yld28 (g8:=g8) (z:=none) (f:=⟨2,a,0,0,b⟩) (by omega) hp (by simp [lp28]) (by simp [accV]) (fun g' l' e=>by cases e; try simp) fun ga h3 k1 k2 k3 k4=>?_
      have f7009:=k4 7009 (by simp) (by simp) (by simp) (by simp) (by simp)
      have f35:=k4 2000035 (by simp) (by simp) (by simp) (by simp) (by simp)
      have f12:=k4 12 (by simp) (by simp) (by simp) (by simp) (by simp)
      have f6:=k4 6 (by simp) (by simp) (by simp) (by simp) (by simp)
      have f4:=k4 4 (by simp) (by simp) (by simp) (by simp) (by simp)
      have f7004:=k4 7004 (by simp) (by simp) (by simp) (by simp) (by simp)
      have f5:=k4 5 (by simp) (by simp) (by simp) (by simp) (by simp)
      simp at f7009 f35 f12 f6 f4 f7004 f5
      clear k4
      have hp2 : V.pureL (accL none ++ [Ft.w ⟨2,a,0,0,b⟩]) = true:=pureL_append hp (by simp [Ft.w,u8V,natV])
      have hz2 : (accL none ++ [Ft.w ⟨2,a,0,0,b⟩]).length < 65536:=by rw [List.length_append]; simp only [List.length_singleton]; omega
      simp [f7009,f35,f12,f6,f4,f7004,f5]
      refine yld28 (g8:=g8) (z:=some (ga,accL none ++ [Ft.w ⟨2,a,0,0,b⟩])) (f:=⟨2,a,0,1,b⟩) hz2 hp2 (by simp [k1]) (by simp [k2]) (fun g' l' e=>by cases e; simp [k3]) fun gb h4 m1 m2 m3 m4=>?_
      have n7009:=m4 7009 (by simp) (by simp) (by simp) (by simp) (by simp)
      have n35:=m4 2000035 (by simp) (by simp) (by simp) (by simp) (by simp)
      have n12:=m4 12 (by simp) (by simp) (by simp) (by simp) (by simp)
      have n6:=m4 6 (by simp) (by simp) (by simp) (by simp) (by simp)
      have n4:=m4 4 (by simp) (by simp) (by simp) (by simp) (by simp)
      have n7004:=m4 7004 (by simp) (by simp) (by simp) (by simp) (by simp)
      have n5:=m4 5 (by simp) (by simp) (by simp) (by simp) (by simp)
      simp [f7009,f35,f12,f6,f4,f7004,f5] at n7009 n35 n12 n6 n4 n7004 n5
      clear m4
      simp
      exact .done ⟨_,_,_,_,_,n35,hh109 c y g g2 g4 g5 g6 g7 g8 g12 (some (gb,accL none ++ [Ft.w ⟨2,a,0,0,b⟩] ++ [Ft.w ⟨2,a,0,1,b⟩])),by simp only [hh109,lp109,accH]; simp [n12,n6,n4,m1,m2,m3,n7004,n5,accL],hk _ (by simp [hba,accL,fL])⟩
  · have hlp : V.pureL l = true:=hp
    simp [xa109_0,natV,lp109,accV,accH]
    refine ⟨_,_,_,_,_,⟨rfl,rfl,rfl,rfl,rfl⟩,?_⟩
    intro gf
    refine KM.mk (.move 9 7009 _ (by decide) (by simp; rfl) fun g9=>.done ?_)
    simp [mvF,mvH,mvS,V.rn,V.rnL,Blk.rn,Blk.gen,lp28,map_rn_pure hcp,rn_pure _ hyp,map_rn_pure hlp]
    refine BrB.of (fun hb=>?_) (fun hb=>?_)
    · have hba:=of_decide_eq_true hb
      simp
      exact .done ⟨_,_,_,_,_,by simp; exact ⟨rfl,rfl,rfl,rfl,rfl⟩,_,by simp [hh109,lp109,lp28,accV,accH],hk (some (gz,l)) (by simp [hba,accL])⟩
    · have hba:=of_decide_eq_false hb
      simp
      refine yld28 (g8:=g8) (z:=(some (gz,l))) (f:=⟨2,a,0,0,b⟩) (by omega) hp (by simp [lp28]) (by simp [accV]) (fun g' l' e=>by cases e; try simp) fun ga h3 k1 k2 k3 k4=>?_
      have f7009:=k4 7009 (by simp) (by simp) (by simp) (by simp) (by simp)
      have f35:=k4 2000035 (by simp) (by simp) (by simp) (by simp) (by simp)
      have f12:=k4 12 (by simp) (by simp) (by simp) (by simp) (by simp)
      have f6:=k4 6 (by simp) (by simp) (by simp) (by simp) (by simp)
      have f4:=k4 4 (by simp) (by simp) (by simp) (by simp) (by simp)
      have f7004:=k4 7004 (by simp) (by simp) (by simp) (by simp) (by simp)
      have f5:=k4 5 (by simp) (by simp) (by simp) (by simp) (by simp)
      simp at f7009 f35 f12 f6 f4 f7004 f5
      clear k4
      have hp2 : V.pureL (accL (some (gz,l)) ++ [Ft.w ⟨2,a,0,0,b⟩]) = true:=pureL_append hp (by simp [Ft.w,u8V,natV])
      have hz2 : (accL (some (gz,l)) ++ [Ft.w ⟨2,a,0,0,b⟩]).length < 65536:=by rw [List.length_append]; simp only [List.length_singleton]; omega
      simp [f7009,f35,f12,f6,f4,f7004,f5]
      refine yld28 (g8:=g8) (z:=some (ga,accL (some (gz,l)) ++ [Ft.w ⟨2,a,0,0,b⟩])) (f:=⟨2,a,0,1,b⟩) hz2 hp2 (by simp [k1]) (by simp [k2]) (fun g' l' e=>by cases e; simp [k3]) fun gb h4 m1 m2 m3 m4=>?_
      have n7009:=m4 7009 (by simp) (by simp) (by simp) (by simp) (by simp)
      have n35:=m4 2000035 (by simp) (by simp) (by simp) (by simp) (by simp)
      have n12:=m4 12 (by simp) (by simp) (by simp) (by simp) (by simp)
      have n6:=m4 6 (by simp) (by simp) (by simp) (by simp) (by simp)
      have n4:=m4 4 (by simp) (by simp) (by simp) (by simp) (by simp)
      have n7004:=m4 7004 (by simp) (by simp) (by simp) (by simp) (by simp)
      have n5:=m4 5 (by simp) (by simp) (by simp) (by simp) (by simp)
      simp [f7009,f35,f12,f6,f4,f7004,f5] at n7009 n35 n12 n6 n4 n7004 n5
      clear m4
      simp
      exact .done ⟨_,_,_,_,_,n35,hh109 c y g g2 g4 g5 g6 g7 g8 g12 (some (gb,accL (some (gz,l)) ++ [Ft.w ⟨2,a,0,0,b⟩] ++ [Ft.w ⟨2,a,0,1,b⟩])),by simp only [hh109,lp109,accH]; simp [n12,n6,n4,m1,m2,m3,n7004,n5,accL],hk _ (by simp [hba,accL,fL])⟩
noncomputable def hh0 (g g2 g4 g5 g7 g8 : Nat) (z : Option (Nat × List V)) : Hp:=
  (2000035,lp109 g2 g4) :: (4,.row g4 1 [.own 2000026 g]) :: (2000026,lp28 g g8) :: (7008,.row g8 1 [accV 33 z]) :: (7004,.row g7 1 [.nil]) :: (5,.row g5 1 [.int .i64 0]) :: accH 33 5 z
set_option maxRecDepth 100000 in
theorem iter144_c (c : Ci) (hg : c.good) (g g2 g4 g5 g7 g8 : Nat) (K : V→Hp→Prop)
    (hK : ∀ v z,accL z = (fsP (prsP c c.n.length)).map Ft.w→K v (hh0 g g2 g4 g5 g7 g8 z)) :
    ICallO Tryz.prog gl0 144 [.own 2000035 g2,.iptr c.v 0] (hh0 g g2 g4 g5 g7 g8 none) K:=by
  have hn1:=hg.n1
  have hn0:=hg.n0
  refine CallO.of_W ok144 rfl ?_
  simp [i144,x144]
  intro gf
  refine ⟨by omega,?_⟩
  generalize gf 12 = g12
  refine LoopP.of (X:=Nat) (fun i=>[(15,natV i),(14,natV c.n.length),(3,.ref 12 g12 0 c.n.length (some c.n.length)),(1,.iptr c.v 0),(0,.own 2000035 g2)])
    (fun i=>(12,.row g12 1 (conesV c i)) :: hh0 g g2 g4 g5 g7 g8 none)
    (fun i=>i ≤ c.n.length) (fun i=>c.n.length - i) 0 (by simp) (by simp [natV]) (by simp [conesV_rep,hh0,accH]) ?_
  rintro i q1
  simp [natV]
  refine BrB.of (fun hb1=>?_) (fun hb1=>?_)
  · have hi:=of_decide_eq_true hb1
    have hw:=wrapN i (by omega)
    have hc:=cone_c c hg i hi
    simp
    refine CallO.pure hc (by simp [natV]) ?_
    simp [hi,conesV_at,conesV_set,hw,hh0,accH]
    exact ⟨i + 1,hi,rfl,rfl,by omega⟩
  · have hi : i = c.n.length:=by have:=of_decide_eq_false hb1; omega
    subst hi
    simp
    refine LoopP.of (X:=PrSt) (fun z=>[(28,natV z.i),(27,natV c.n.length),(26,.sl (c.n.map Nd.v) none),(3,.ref 12 g12 0 c.n.length (some c.n.length)),(1,.iptr c.v 0),(0,.own 2000035 g2)])
      (fun z=>(12,.row g12 1 (conesV c c.n.length)) :: hh0 g g2 g4 g5 g7 g8 z.z)
      (fun z=>z.i ≤ c.n.length∧accL z.z = (fsP (prsP c z.i)).map Ft.w) (fun z=>c.n.length - z.i) ⟨0,none⟩ ⟨by simp,by simp [accL,prsP,fsP]⟩ (by simp [natV]) (by simp [hh0,accV,accH]) ?_
    rintro ⟨a,z⟩ ⟨q2,q3⟩
    dsimp only at q2 q3 ⊢
    simp [natV]
    refine BrB.of (fun hb2=>?_) (fun hb2=>?_)
    · have ha:=of_decide_eq_true hb2
      have hwa:=wrapN a (by omega)
      obtain ⟨y,hy⟩ : ∃ y,c.n[a] = y:=⟨_,rfl⟩
      have hya : c.nd a = y:=by rw [c.nd_get ha,hy]
      simp [hwa,ha,hy]
      intro gf6
      generalize gf6 6 = g6
      refine LoopP.of (X:=PrSt) (fun z=>[(36,natV z.i),(35,natV c.n.length),(34,.sl (c.n.map Nd.v) none),(6,.ptr 6 g6 0 0),(5,natV a),(28,natV a),(27,natV c.n.length),(26,.sl (c.n.map Nd.v) none),(3,.ref 12 g12 0 c.n.length (some c.n.length)),(1,.iptr c.v 0),(0,.own 2000035 g2)])
        (fun z=>hh109 c y g g2 g4 g5 g6 g7 g8 g12 z.z)
        (fun z=>z.i ≤ c.n.length∧accL z.z = (fsP (pqP c a z.i)).map Ft.w) (fun z=>c.n.length - z.i) ⟨0,z⟩ ⟨by simp,by rw [pqP_ini c a 0 (Nat.zero_le _)]; exact q3⟩ (by simp [natV]) (by rcases z with _ | ⟨ga,r⟩ <;> simp [hh0,hh109,accH]) ?_
      rintro ⟨b,z⟩ ⟨q5,q6⟩
      dsimp only at q5 q6 ⊢
      have hsub : Sub (hh109 c y g g2 g4 g5 g6 g7 g8 g12 z) (hh109 c y g g2 g4 g5 g6 g7 g8 g12 z):=by rcases z with _ | ⟨ga,r⟩ <;> simp [hh109,accH]
      have hl6 : lk (hh109 c y g g2 g4 g5 g6 g7 g8 g12 z) 6 = some (.row g6 4 [y.v]):=by simp [hh109]
      have hl12 : lk (hh109 c y g g2 g4 g5 g6 g7 g8 g12 z) 12 = some (.row g12 1 (conesV c c.n.length)):=by simp [hh109]
      have hsub8 : ∀ g8' x x',Sub (hh109 c y g g2 g4 g5 g6 g7 g8 g12 z) ((8,.row g8' 4 x) :: (8,.row g8' 4 x') :: hh109 c y g g2 g4 g5 g6 g7 g8 g12 z):=fun _ _ _=>by rcases z with _ | ⟨ga,r⟩ <;> simp [hh109,accH]
      simp [natV]
      refine BrB.of (fun hb3=>?_) (fun hb3=>?_)
      · have hb:=of_decide_eq_true hb3
        have hwb:=wrapN b (by omega)
        obtain ⟨w,hw⟩ : ∃ w,c.n[b] = w:=⟨_,rfl⟩
        have hwb2 : c.nd b = w:=by rw [c.nd_get hb,hw]
        have hok : okP c a b = (!(decide (y.k = 12) || decide (w.k = 12)) && !dep c (c.n.length + 1) a b && !dep c (c.n.length + 1) b a):=by unfold okP; rw [hya,hwb2]
        have skip : okP c a b = false→accL z = (fsP (pqP c a (b + 1))).map Ft.w:=fun h=>by rw [pqP_no fun _=>h]; exact q6
        simp [ha,hb,hy,hw]
        intro gf8
        by_cases e1 : y.k = 12
        · simp [hl6,hl12,e1,hwb,Nd.v]
          exact ⟨⟨b + 1,z⟩,⟨hb,skip (by rw [hok]; simp [e1])⟩,rfl,hsub8 _ _ _,by dsimp only; omega⟩
        by_cases e2 : w.k = 12
        · simp [hl6,hl12,e1,e2,hwb,Nd.v]
          exact ⟨⟨b + 1,z⟩,⟨hb,skip (by rw [hok]; simp [e2])⟩,rfl,hsub8 _ _ _,by dsimp only; omega⟩
        simp [hl6,hl12,e1,e2,ha,hb,hwb,Nd.v,conesV_all,boolsV_get]
        cases d1 : dep c (c.n.length + 1) a b
        case' true=>
          simp [hl6,hl12,d1,ha,hb,hwb,conesV_all,boolsV_get]
          exact ⟨⟨b + 1,z⟩,⟨hb,skip (by rw [hok]; simp [d1])⟩,rfl,hsub8 _ _ _,by dsimp only; omega⟩
        simp [hl6,hl12,d1,ha,hb,hwb,conesV_all,boolsV_get]
        cases d2 : dep c (c.n.length + 1) b a
        case' true=>
          simp [hl6,hl12,d2,ha,hb,hwb,conesV_all,boolsV_get]
          exact ⟨⟨b + 1,z⟩,⟨hb,skip (by rw [hok]; simp [d2])⟩,rfl,hsub8 _ _ _,by dsimp only; omega⟩
        simp [hl6,hl12,d2,ha,hb,hwb,conesV_all,boolsV_get]
        have hne : a ≠ b:=fun e=>by rw [e,dep_self] at d1; exact Bool.noConfusion d1
        have hokt : okP c a b = true:=by rw [hok,d1,d2]; simp [e1,e2]
        have hln : (accL z).length < 65535:=by
          rw [q6,List.length_map,fsP_len]
          have:=pqP_len c hn1 (a:=a) (b:=b) (by omega) q5
          omega
        have hlp : V.pureL (accL z) = true:=by rw [q6]; exact fws_pure _
        refine IYield.sub (hsub8 _ _ _) (yld109 c y hln hlp fun z' hz'=>?_)
        have hz2 : accL z' = (fsP (pqP c a (b + 1))).map Ft.w:=by
          rw [hz',q6]
          by_cases hba : b < a
          · rw [if_pos hba,List.append_nil,pqP_no fun h=>by omega]
          · rw [if_neg hba,pqP_ok (by omega) hokt,fsP_append,List.map_append]
            simp [fsP]
        simp [hwb]
        exact ⟨⟨b + 1,z'⟩,⟨hb,hz2⟩,rfl,by rcases z' with _ | ⟨ga,r⟩ <;> simp [hh109,accH],by dsimp only; omega⟩
      · have hb : b = c.n.length:=by have:=of_decide_eq_false hb3; omega
        subst hb
        simp [hwa]
        exact ⟨⟨a + 1,z⟩,⟨ha,by dsimp only; rw [← pqP_end]; exact q6⟩,rfl,⟨hl12,by rcases z with _ | ⟨ga,r⟩ <;> simp [hh0,hh109,accH]⟩,by dsimp only; omega⟩
    · have ha : a = c.n.length:=by have:=of_decide_eq_false hb2; omega
      subst ha
      simp
      refine .done ⟨_,?_,hK _ z q3⟩
      rcases z with _ | ⟨ga,r⟩ <;> simp [hh0,accH]
noncomputable def hhA (g g5 g7 g8 : Nat) (z : Option (Nat × List V)) : Hp:=
  (2000026,lp28 g g8) :: (7008,.row g8 1 [accV 33 z]) :: (7004,.row g7 1 [.nil]) :: (5,.row g5 1 [.int .i64 0]) :: accH 33 5 z
theorem iter109_c (c : Ci) (hg : c.good) (l : V) (g g5 g7 g8 : Nat) (K : V→Hp→Prop)
    (hK : ∀ v z,accL z = (fsP (prsP c c.n.length)).map Ft.w→K v (hhA g g5 g7 g8 z)) :
    ICallO Tryz.prog gl0 109 [.own 2000026 g,.iptr (.int .u8 2) 0,.iptr l 0,.iptr c.v 0] (hhA g g5 g7 g8 none) K:=by
  have hm:=mkp110_c c
  refine CallO.of_W ok109 rfl ?_
  simp [i109,x109]
  intro gf
  generalize gf 4 = g4
  refine CallO.pure hm (by simp) ?_
  simp
  refine ⟨[(1,.iptr (.int .u8 2) 0),(4,.ptr 4 g4 0 0)],by simp,(4,.row g4 1 [.own 2000026 g]) :: hhA g g5 g7 g8 none,by simp [hhA,accH],fun g2=>iter144_c c hg g g2 g4 g5 g7 g8 _ fun v z hz=>?_⟩
  simp [hh0,lp109]
  refine .done ⟨_,?_,hK _ z hz⟩
  rcases z with _ | ⟨ga,r⟩ <;> simp [hhA,accH]
set_option maxRecDepth 100000 in
theorem all2_c (c : Ci) (hg : c.good) : PureC Tryz.prog gl0 28 [c.v,u8V 2] (.tup [flV (fsP (prsP c c.n.length)),.int .i64 0]):=by
  have hl:=lines_c c hg
  have hn1:=hg.n1
  have hlp:=lnsN_pure c c.n.length
  have hm:=mks61_c c (.sl (lnsN c c.n.length) (some (lnsN c c.n.length).length)) (by simp [V.pure,hlp]) rfl 2
  generalize lnsN c c.n.length = L at hl hm hlp
  simp only [u8V] at hm ⊢
  refine PureC.of_WM 5 2 ok28 rfl ?_
  simp [i28,x28]
  intro gf1 gf2 gf3
  refine KM.mk (.done ?_)
  simp
  refine CallO.pure hl (by simp) ?_
  simp
  refine KM.mk (.done ?_)
  simp
  refine KM.mk (.done ?_)
  simp
  intro gf4
  refine KM.mk (.move 4 7004 _ (by decide) (by simp; rfl) fun g7=>.move 8 7008 _ (by decide) (by simp [mvH,mvS]; rfl) fun g8=>.done ?_)
  simp [mvF,mvH,mvS,V.rn,V.rnL,Blk.rn,Blk.gen,rn_pure _ (ci_pure2 c),rnL_pure L hlp]
  refine CallO.pure hm (by simp [V.pure,hlp]) ?_
  simp
  generalize gf3 5 = g5
  refine ⟨[(8,.ptr 7008 g8 0 0)],by simp,[(7008,.row g8 1 [.nil]),(7004,.row g7 1 [.nil]),(5,.row g5 1 [.int .i64 0])],by simp,fun g=>iter109_c c hg _ g g5 g7 g8 _ fun v z hz=>?_⟩
  unfold hhA lp28
  simp
  rcases z with _ | ⟨ga,r⟩
  · have hz2 : fsP (prsP c c.n.length) = []:=List.map_eq_nil_iff.1 hz.symm
    rw [hz2]
    refine KM.mk (.done ?_)
    simp [accV,accH]
    refine CallO.pure clipFN_c rfl ?_
    simp [flV]
  · have hr : r = (fsP (prsP c c.n.length)).map Ft.w:=hz
    have hp : V.pureL r = true:=by rw [hr]; exact fws_pure _
    have hclip:=clipF_c (fsP (prsP c c.n.length)) none
    have hpv : flV (fsP (prsP c c.n.length)) = .sl r (some r.length):=by rw [hr]; simp [flV]
    rw [← hr,show (fsP (prsP c c.n.length)).length = r.length by rw [hr]; simp] at hclip
    rw [hpv]
    refine KM.mk (.frz (g:=ga) (sz:=5) (es:=r) 33 (by simp [accH]) hp (.done ?_))
    simp [accV,accH,fzV,V.mapR,V.mapRL,fzH,Blk.fz,hlp,fzF,fzp,fzf]
    refine CallO.pure hclip (by simp [hp]) ?_
    simp
    exact mapRL_pure _ hp
end Go.Proofs.YtlmniacemoohpaaGreatDoor
namespace Go.Proofs.YtlmniacemoohpaaGreatDoor
open Go
set_option maxRecDepth 100000 in
set_option maxHeartbeats 8000000 in
theorem law7_c (x : Cx) (hx : x.ok) : PureC Tryz.prog gl0 7 [x.v] (.bool true):=by
  have hg:=nm_good x
  have hcs:=circU_c x hx
  generalize x.nm.ci = c at hcs hg
  have hgp : V.pureL (x.g.map Gx.v) = true:=pureL_map (fun g=>by simp [Gx.v,u8V]) x.g
  have hn0:=hg.n0
  have hn1:=hg.n1
  have h1:=pairs_c c hg
  have h2:=all2_c c hg
  have hlen:=prsP_len c c.n.length
  have hl400 : c.n.length * c.n.length ≤ 20 * 20:=Nat.mul_le_mul hn1 hn1
  have hfl:=fsP_len (prsP c c.n.length)
  have hpp:=pVs_pure (prsP c c.n.length)
  have hfp:=fws_pure (fsP (prsP c c.n.length))
  generalize prsP c c.n.length = P at h1 h2 hlen hfl hpp hfp
  simp only [prsV,flV,u8V] at h1 h2
  refine PureC.of_W 2 ok7 rfl ?_
  simp [i7,x7,Cx.v,u8V]
  intro gf1
  refine CallO.pure hcs (by simp [u8V,hgp]) ?_
  simp
  intro gf2
  refine CallO.pure h1 (by simp) ?_
  simp
  refine CallO.pure h2 (by simp) ?_
  have hw2 : IntKind.i64.wrap (2 * (P.length : Int)) = 2 * (P.length : Int):=by rw [wrap_i64] <;> omega
  simp [hfl,hw2]
  generalize gf2 3 = g3
  refine LoopP.of (X:=Nat) (fun i=>[(8,natV i),(6,.sl ((fsP P).map Ft.w) (some (2 * P.length))),(4,.sl (P.map pV) (some P.length)),(3,.ptr 3 g3 0 0)]) (fun _=>[(3,.row g3 4 [c.v])])
    (fun i=>i ≤ P.length) (fun i=>P.length - i) 0 (by simp) (by simp [natV]) (by simp [Ci.v]) ?_
  rintro i q1
  simp [natV]
  refine BrB.of (fun hb1=>?_) (fun hb1=>?_)
  · have hi:=of_decide_eq_true hb1
    have hw:=wrapN i (by omega)
    have hi2 : 2 * i < (fsP P).length:=by omega
    have hget:=fsP_get P i hi hi2
    obtain ⟨p,hp⟩ : ∃ p,P[i] = p:=⟨_,rfl⟩
    rw [hp] at hget
    obtain ⟨k,hk⟩ : ∃ k,2 * i = k:=⟨_,rfl⟩
    have hwi : IntKind.i64.wrap (2 * (i : Int)) = (k : Int):=by rw [wrap_i64] <;> omega
    simp only [hk] at hget hi2
    simp [hi,hwi,hi2,hget,hp,pV,Ft.w,natV,u8V,hw]
    exact ⟨i + 1,hi,rfl,by omega⟩
  · have hi : i = P.length:=by have:=of_decide_eq_false hb1; omega
    subst hi
    simp
    refine LoopP.of (X:=Nat) (fun i=>[(9,natV i),(3,.ptr 3 g3 0 0)]) (fun _=>[(3,.row g3 4 [c.v])])
      (fun i=>i ≤ c.n.length) (fun i=>c.n.length - i) 0 (by simp) (by simp [natV]) (by simp) ?_
    rintro i q2
    simp [natV]
    refine BrB.of (fun hb2=>?_) (fun hb2=>?_)
    · have hi:=of_decide_eq_true hb2
      have hwi:=wrapN i (by omega)
      simp
      refine LoopP.of (X:=Nat) (fun j=>[(10,natV j),(9,natV i),(3,.ptr 3 g3 0 0)]) (fun _=>[(3,.row g3 4 [c.v])])
        (fun j=>j ≤ c.n.length) (fun j=>c.n.length - j) 0 (by simp) (by simp [natV]) (by simp) ?_
      rintro j q3
      simp [natV]
      refine BrB.of (fun hb3=>?_) (fun hb3=>?_)
      · have hj:=of_decide_eq_true hb3
        have hwj:=wrapN j (by omega)
        have f1:=feed_c c hg i j hi hj
        have f2:=fcheckX_c c hg i j hi hj
        have f3:=feed_c c hg j i hj hi
        rw [fdB_comm c j i] at f3
        have e6 : brE c i j = 6→fdB c i j = true:=brE_6
        have e0 : brE c i j = 0→fdB c i j = false:=brE_0
        have es : i = j→fdB c i j = true:=fun e=>by rw [e]; exact fdB_self c j
        generalize fdB c i j = D at f1 f3 e6 e0 es
        generalize brE c i j = E at f2 e6 e0
        simp only [natV,brF,Ft.w,u8V,Ft.pin] at f1 f2 f3
        simp
        refine CallO.pure f1 (by simp) ?_
        simp
        refine CallO.pure f2 (by simp) ?_
        cases D
        case' false=>
          have n1 : ¬ i = j:=fun h=>Bool.noConfusion (es h)
          have n2 : ¬ E = 6:=fun h=>Bool.noConfusion (e6 h)
          simp [n1,n2]
          rcases Decidable.em (E = 0) with n3 | n3
          all_goals simp [n1,n2,n3]
        case' true=>
          have n3 : ¬ E = 0:=fun h=>Bool.noConfusion (e0 h)
          rcases Decidable.em (i = j) with n1 | n1
          all_goals rcases Decidable.em (E = 6) with n2 | n2
          all_goals simp [n1,n2,n3]
        all_goals
          first | refine CallO.pure f3 (by simp) ?_ | (rw [n1] at f3; refine CallO.pure f3 (by simp) ?_)
          simp [hwj]
          exact ⟨j + 1,hj,rfl,by omega⟩
      · have hj : j = c.n.length:=by have:=of_decide_eq_false hb3; omega
        subst hj
        simp [hwi]
        exact ⟨i + 1,hi,rfl,by omega⟩
    · have hi : i = c.n.length:=by have:=of_decide_eq_false hb2; omega
      subst hi
      simp
      refine CallO.pure livesB_c rfl ?_
      simp
end Go.Proofs.YtlmniacemoohpaaGreatDoor
