/- Bridges: the nets that a net depends on, as bridges finds them. Conditions: none. -/
import Derived.Test.YtlmniacemoohpaaGreatDoorB1
import Derived.Test.YtlmniacemoohpaaGreatDoorT10
set_option linter.unusedSimpArgs false
set_option linter.unusedVariables false
namespace Go.Proofs.YtlmniacemoohpaaGreatDoor
open Go
theorem ConeI.popF {c : Ci} {a : Nat} {S : Nat→Bool} {td : List Nat} {n : Nat} (h : ConeI c a S (n :: td) none []) : ConeI c a S td (some n) [] where
  m:=h.m
  r:=h.r
  t:=fun x hx=>h.t x (List.mem_cons_of_mem _ hx)
  s:=fun x hx=>by cases hx; exact h.t _ List.mem_cons_self
  c:=fun x hx h1 h2=>h.c x hx (fun h3=>by
    rcases List.mem_cons.1 h3 with h3 | h3
    · exact h2 (by rw [h3])
    · exact h1 h3) (by simp)
  j:=by simp
structure BcSt where
  S : Nat→Bool
  es : List Nat
  o : Nat
  l : Nat
  g : Nat
  cap : Option Nat
structure BcSt2 extends BcSt where
  k : Nat
set_option maxHeartbeats 4000000 in
theorem bcone_c (c : Ci) (hg : c.good) (a : Nat) (ha : a < c.n.length) : PureC Tryz.prog gl0 58 [c.v,natV a] (.sl (boolsV c.n.length (dep c (c.n.length + 1) a)) (some c.n.length)):=by
  have hn1:=hg.n1
  have hu0:=unm_upd (fun _=>false) (x:=a) rfl c.n.length
  have hu1 : unm (fun _=>false) c.n.length = c.n.length:=by unfold unm; simp [sumR_const]
  rw [hu1,if_pos ha] at hu0
  refine PureC.of_W 1 ok58 rfl ?_
  simp [i58,x58,natV,boolsV_rep]
  intro gf1 gf2
  simp [ha,boolsV_set,boolsV_get,show c.n.length ≤ 549755813888 by omega]
  intro gf3
  generalize gf1 2 = g2
  generalize gf2 13 = g13
  refine LoopP.of (X:=BcSt) (fun z=>[(6,.ref 18 z.g z.o z.l z.cap),(5,.ref 13 g13 0 c.n.length (some c.n.length)),(2,.ptr 2 g2 0 0)])
    (fun z=>[(18,.row z.g 1 (natsV z.es)),(13,.row g13 1 (boolsV c.n.length z.S)),(2,.row g2 4 [c.v])])
    (fun z=>z.o + z.l ≤ z.es.length∧2 * unm z.S c.n.length + z.l ≤ 2 * c.n.length∧ConeI c a z.S ((z.es.drop z.o).take z.l) none []) (fun z=>2 * unm z.S c.n.length + z.l)
    ⟨upd1 (fun _=>false) a true,[a],0,1,gf3 18,some 1⟩ ⟨by simp,by simp; omega,by simpa using cone_ini c a ha⟩ (by simp) (by simp [natsV,natV]) ?_
  rintro ⟨S,es,off,len,g18,cap⟩ ⟨q1,q2,q3⟩
  dsimp only at q1 q2 q3 ⊢
  simp
  refine BrB.of (fun hb=>?_) (fun hb=>?_)
  · have hl : 0 < len:=of_decide_eq_true hb
    obtain ⟨l,rfl⟩ : ∃ l,len = l + 1:=⟨len - 1,by omega⟩
    have hle : off < es.length:=by omega
    obtain ⟨n,hn⟩ : ∃ n,es[off] = n:=⟨_,rfl⟩
    have htk : (es.drop off).take (l + 1) = n :: (es.drop (off + 1)).take l:=by rw [List.drop_eq_getElem_cons hle,List.take_succ_cons,hn]
    rw [htk] at q3
    have hp:=q3.popF
    have hnN:=(hp.r n (hp.s n rfl)).1
    obtain ⟨y,hy⟩ : ∃ y,c.n[n] = y:=⟨_,rfl⟩
    have hnd : c.nd n = y:=by rw [c.nd_get hnN,hy]
    have hyi:=hg.val.i n hnN
    have hyl:=hg.val.l n hnN
    rw [hnd] at hyi hyl
    obtain ⟨L,hL⟩ : ∃ L,l + 1 = L:=⟨_,rfl⟩
    rw [hL] at q1 q2 ⊢
    have hL1 : L - 1 = l:=by omega
    obtain ⟨cap2,hc2⟩ : ∃ q,Option.map (fun c=>c - 1) cap = q:=⟨_,rfl⟩
    simp [hle,natsV,hn,natV,show 0 < L by omega,show 1 ≤ L by omega,hnN,hy,hL1,hc2]
    by_cases h14 : y.k = 14
    · refine LoopP.of (X:=Nat) (fun k=>[(34,natV k),(33,natV y.i.length),(32,.sl (ints y.i) none),(7,natV n),(6,.ref 18 g18 (off + 1) l cap2),(5,.ref 13 g13 0 c.n.length (some c.n.length)),(2,.ptr 2 g2 0 0)])
        (fun _=>[(18,.row g18 1 (natsV es)),(13,.row g13 1 (boolsV c.n.length S)),(2,.row g2 4 [c.v])])
        (fun k=>k ≤ y.i.length) (fun k=>y.i.length - k) 0 (by simp) (by simp [natV]) (by simp [natsV,natV]) ?_
      rintro k p3
      simp [natV]
      refine BrB.of (fun hb2=>?_) (fun hb2=>?_)
      · have hk : k < y.i.length:=of_decide_eq_true hb2
        have hw:=wrapN k (by omega)
        simp [hk,ints_getE,hnN,hy,h14,hw]
        exact ⟨k + 1,hk,rfl,by omega⟩
      · simp
        refine ⟨⟨S,es,off + 1,l,g18,cap2⟩,⟨by dsimp only; omega,by dsimp only; omega,hp.next (jn:=[]) (by rw [g_14 (by rw [hnd]; exact h14)]; simp)⟩,by simp,by simp [natsV],by dsimp only; omega⟩
    have hgn : c.g n = y.i.map Int.toNat:=by rw [g_nd hg hnN (by rw [hnd]; exact h14),hnd]
    refine LoopP.of (X:=BcSt2) (fun z=>[(34,natV z.k),(33,natV y.i.length),(32,.sl (ints y.i) none),(7,natV n),(6,.ref 18 z.g z.o z.l z.cap),(5,.ref 13 g13 0 c.n.length (some c.n.length)),(2,.ptr 2 g2 0 0)])
      (fun z=>[(18,.row z.g 1 (natsV z.es)),(13,.row g13 1 (boolsV c.n.length z.S)),(2,.row g2 4 [c.v])])
      (fun z=>z.o + z.l ≤ z.es.length∧2 * unm z.S c.n.length + z.l < 2 * unm S c.n.length + L∧z.k ≤ y.i.length∧ConeI c a z.S ((z.es.drop z.o).take z.l) (some n) ((y.i.map Int.toNat).take z.k)) (fun z=>y.i.length - z.k)
      ⟨⟨S,es,off + 1,l,g18,cap2⟩,0⟩ ⟨by dsimp only; omega,by dsimp only; omega,by simp,by simpa using hp⟩ (by simp [natV]) (by simp [natsV,natV]) ?_
    rintro ⟨⟨S1,es1,o1,l1,g1,cap1⟩,k⟩ ⟨p1,p2,p3,p4⟩
    dsimp only at p1 p2 p3 p4 ⊢
    simp [natV]
    refine BrB.of (fun hb2=>?_) (fun hb2=>?_)
    · have hk : k < y.i.length:=of_decide_eq_true hb2
      have hw:=wrapN k (by omega)
      have h2:=hyi _ (List.getElem_mem hk)
      obtain ⟨m,hm⟩ : ∃ m : Nat,y.i[k] = (m : Int):=⟨(y.i[k]).toNat,by omega⟩
      have hmN : m < c.n.length:=by omega
      have hmg : m ∈ c.g n:=by
        rw [hgn]
        have:=List.mem_map_of_mem (f:=Int.toNat) (List.getElem_mem hk)
        rw [hm] at this; exact this
      have hjn : (y.i.map Int.toNat).take (k + 1) = (y.i.map Int.toNat).take k ++ [m]:=by
        rw [List.take_succ_eq_append_getElem (by simpa using hk),List.getElem_map,hm]; rfl
      have hes : ((natsV es1).drop o1).take l1 ++ [V.int .i64 (m : Int)] = natsV ((es1.drop o1).take l1 ++ [m]):=by simp [natsV,natV,List.map_take,List.map_drop]
      have htk1 : (((es1.drop o1).take l1 ++ [m]).drop 0).take (l1 + 1) = (es1.drop o1).take l1 ++ [m]:=by rw [List.drop_zero]; exact List.take_of_length_le (by simp; omega)
      simp [hk,hm,ints_getE,hmN,boolsV_get,hnN,hy,h14]
      cases hs : S1 m
      · have hu:=unm_upd S1 hs c.n.length
        rw [if_pos hmN] at hu
        have hpu:=p4.push hg hmg
        simp [p1,boolsV_get,boolsV_set,hmN,show l1 ≤ 274877906943 by omega]
        intro gf
        exact ⟨⟨⟨upd1 S1 m true,(es1.drop o1).take l1 ++ [m],0,l1 + 1,gf 18,none⟩,k + 1⟩,⟨by simp; omega,by dsimp only; omega,hk,by dsimp only; rw [hjn,htk1]; exact hpu⟩,by simp [hw],by simp [hes],by dsimp only; omega⟩
      · simp [hw]
        exact ⟨⟨⟨S1,es1,o1,l1,g1,cap1⟩,k + 1⟩,⟨p1,p2,hk,by dsimp only; rw [hjn]; exact p4.skip hs⟩,by simp,by simp [natsV],by dsimp only; omega⟩
    · have hk : k = y.i.length:=by have:=of_decide_eq_false hb2; omega
      subst hk
      rw [show y.i.length = (y.i.map Int.toNat).length by simp,List.take_length,← hgn] at p4
      simp
      exact ⟨⟨S1,es1,o1,l1,g1,cap1⟩,⟨p1,by dsimp only; omega,p4.next fun y hy=>hy⟩,by simp,by simp [natsV],by dsimp only; omega⟩
  · have hl : len = 0:=by have:=of_decide_eq_false hb; omega
    subst hl
    have:=q3.all hg ha
    simp [this,map_frz_pure (boolsV_pure _ _)]
    exact List.take_of_length_le (by simp)
end Go.Proofs.YtlmniacemoohpaaGreatDoor
namespace Go.Proofs.YtlmniacemoohpaaGreatDoor
open Go
def brE (c : Ci) (x y : Nat) : Int:=
  if x = y then 1 else if (c.nd x).k = 12∨(c.nd y).k = 12 then 7
  else if dep c (c.n.length + 1) x y = true∨dep c (c.n.length + 1) y x = true then 6 else 0
def brF (x y : Nat) : Ft:=⟨3,x,0,0,y⟩
def fdB (c : Ci) (x y : Nat) : Bool:=dep c (c.n.length + 1) x y || dep c (c.n.length + 1) y x
theorem fdB_comm (c : Ci) (x y : Nat) : fdB c x y = fdB c y x:=Bool.or_comm _ _
theorem dep_self (c : Ci) (k x : Nat) : dep c k x x = true:=by cases k <;> simp [dep]
theorem fdB_self (c : Ci) (x : Nat) : fdB c x x = true:=by simp [fdB,dep_self]
theorem brE_6 {c : Ci} {x y : Nat} (h : brE c x y = 6) : fdB c x y = true:=by
  unfold brE at h
  split at h
  · cases h
  split at h
  · cases h
  split at h
  · rename_i h3; simpa [fdB] using h3
  · cases h
theorem brE_0 {c : Ci} {x y : Nat} (h : brE c x y = 0) : fdB c x y = false:=by
  unfold brE at h
  split at h
  · cases h
  split at h
  · cases h
  split at h
  · cases h
  · rename_i h3; simpa [fdB] using h3
set_option maxRecDepth 100000 in
theorem bridgeX_c (c : Ci) (hg : c.good) (x y : Nat) (hx : x < c.n.length) (hy : y < c.n.length) : PureC Tryz.prog gl0 65 [c.v,(brF x y).w] (.int .i64 (brE c x y)):=by
  have c1:=cone_c c hg x hx
  have c2:=cone_c c hg y hy
  obtain ⟨u,hu⟩ : ∃ u,c.n[x] = u:=⟨_,rfl⟩
  obtain ⟨v,hv⟩ : ∃ v,c.n[y] = v:=⟨_,rfl⟩
  unfold brE
  rw [c.nd_get hx,c.nd_get hy,hu,hv]
  generalize dep c (c.n.length + 1) x = D1 at c1 ⊢
  generalize dep c (c.n.length + 1) y = D2 at c2 ⊢
  simp only [natV] at c1 c2
  have n2 : ¬ c.n.length ≤ y:=by omega
  have n4 : ¬ ((y : Int) < 0):=by omega
  refine PureC.of_W 2 ok65 rfl ?_
  simp [i65,x65,brF,Ft.w,Ft.pin,u8V,natV,n2,n4]
  intros
  by_cases h1 : x = y
  · simp [h1]
  · by_cases h2 : u.k = 12
    · simp [hx,hu,hy,hv,h1,h2]
    · by_cases h3 : v.k = 12
      · simp [hx,hu,hy,hv,h1,h2,h3]
      · simp [hx,hu,hy,hv,h1,h2,h3]
        refine CallO.pure c1 (by simp [V.pureL,V.pure]) ?_
        simp [hy,boolsV_get]
        cases hd : D1 y
        · simp
          refine CallO.pure c2 (by simp [V.pureL,V.pure]) ?_
          simp [hx,boolsV_get]
          cases D2 x <;> simp
        · simp
theorem fcheckX_c (c : Ci) (hg : c.good) (x y : Nat) (hx : x < c.n.length) (hy : y < c.n.length) : PureC Tryz.prog gl0 29 [c.v,(brF x y).w] (.int .i64 (brE c x y)):=by
  have h1:=valid_c c hg
  have h2:=line_c c (brF x y) hx (Nat.zero_le _)
  have h3:=bridgeX_c c hg x y hx hy
  generalize brE c x y = E at h3 ⊢
  simp only [Ft.ln,Ft.w,natV,u8V,brF] at h2 h3 ⊢
  refine PureC.of_W 2 ok29 rfl ?_
  simp [i29,x29]
  intro gf1 gf2
  refine CallO.pure h1 (by simp) ?_
  simp
  refine CallO.pure h2 (by simp) ?_
  simp
  refine CallO.pure h3 (by simp) ?_
  simp
theorem feed_c (c : Ci) (hg : c.good) (x y : Nat) (hx : x < c.n.length) (hy : y < c.n.length) : PureC Tryz.prog gl0 26 [c.v,natV x,natV y] (.tup [.bool (fdB c x y),.int .i64 0]):=by
  have hl:=lines_c c hg
  have c1:=bcone_c c hg x hx
  have c2:=bcone_c c hg y hy
  unfold fdB
  generalize dep c (c.n.length + 1) x = D1 at c1 ⊢
  generalize dep c (c.n.length + 1) y = D2 at c2 ⊢
  simp only [natV] at c1 c2 ⊢
  refine PureC.of_W 2 ok26 rfl ?_
  simp [i26,x26]
  intro gf1
  have e1 : ¬ (min (x : Int) (y : Int) < 0):=by omega
  have e2 : ¬ ((c.n.length : Int) ≤ max (x : Int) (y : Int)):=by omega
  refine CallO.pure hl (by simp) ?_
  simp [e1,e2]
  refine CallO.pure c1 (by simp) ?_
  simp [hy,boolsV_get]
  cases hd : D1 y
  · simp
    refine CallO.pure c2 (by simp) ?_
    simp [hx,boolsV_get]
  · simp
end Go.Proofs.YtlmniacemoohpaaGreatDoor
