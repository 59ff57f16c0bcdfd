/- Bridges: the nets that a net depends on, as bridges finds them. Conditions: none. -/
import Derived.Test.YtlmniacemoohpaaGreatDoorB1
import Derived.Test.YtlmniacemoohpaaGreatDoorT10
import Derived.Test.YtlmniacemoohpaaGreatDoorT7
import Derived.Test.YtlmniacemoohpaaGreatDoorXC2
import Derived.Test.YtlmniacemoohpaaGreatDoorXL6
set_option linter.unusedSimpArgs false
set_option linter.unusedVariables false
namespace Go.Proofs.YtlmniacemoohpaaGreatDoor
open Go
theorem ConeI.popF {c : Ci} {a : Nat} {S : Nat→Bool} {td : List Nat} {n : Nat} (h : ConeI c a S (n :: td) none []) : ConeI c a S td (some n) [] where
  m:=h.m
  r:=h.r
  t:=fun x hx=>h.t x (List.mem_cons_of_mem _ hx)
  s:=fun x hx=>by cases hx; exact h.t _ List.mem_cons_self
  c:=fun x hx h1 h2=>h.c x hx (fun h3=>by
    rcases List.mem_cons.1 h3 with h3 | h3
    · exact h2 (by rw [h3])
    · exact h1 h3) (by simp)
  j:=by simp
structure BcSt where
  S : Nat→Bool
  es : List Nat
  o : Nat
  l : Nat
  g : Nat
  cap : Option Nat
structure BcSt2 extends BcSt where
  k : Nat
set_option maxHeartbeats 4000000 in
theorem bcone_c (c : Ci) (hg : c.good) (a : Nat) (ha : a < c.n.length) : PureC Tryz.prog gl0 58 [c.v,natV a] (.sl (boolsV c.n.length (dep c (c.n.length + 1) a)) (some c.n.length)):=by
  have hn1:=hg.n1
  have hu0:=unm_upd (fun _=>false) (x:=a) rfl c.n.length
  have hu1 : unm (fun _=>false) c.n.length = c.n.length:=by unfold unm; simp [sumR_const]
  rw [hu1,if_pos ha] at hu0
  refine PureC.of_W 1 ok58 rfl ?_
  simp [i58,x58,natV,boolsV_rep]
  intro gf1 gf2
  simp [ha,boolsV_set,boolsV_get,show c.n.length ≤ 549755813888 by omega]
  intro gf3
  generalize gf1 2 = g2
  generalize gf2 13 = g13
  refine LoopP.of (X:=BcSt) (fun z=>[(6,.ref 18 z.g z.o z.l z.cap),(5,.ref 13 g13 0 c.n.length (some c.n.length)),(2,.ptr 2 g2 0 0)])
    (fun z=>[(18,.row z.g 1 (natsV z.es)),(13,.row g13 1 (boolsV c.n.length z.S)),(2,.row g2 4 [c.v])])
    (fun z=>z.o + z.l ≤ z.es.length∧2 * unm z.S c.n.length + z.l ≤ 2 * c.n.length∧ConeI c a z.S ((z.es.drop z.o).take z.l) none []) (fun z=>2 * unm z.S c.n.length + z.l)
    ⟨upd1 (fun _=>false) a true,[a],0,1,gf3 18,some 1⟩ ⟨by simp,by simp; omega,by simpa using cone_ini c a ha⟩ (by simp) (by simp [natsV,natV]) ?_
  rintro ⟨S,es,off,len,g18,cap⟩ ⟨q1,q2,q3⟩
  dsimp only at q1 q2 q3 ⊢
  simp
  refine BrB.of (fun hb=>?_) (fun hb=>?_)
  · have hl : 0 < len:=of_decide_eq_true hb
    obtain ⟨l,rfl⟩ : ∃ l,len = l + 1:=⟨len - 1,by omega⟩
    have hle : off < es.length:=by omega
    obtain ⟨n,hn⟩ : ∃ n,es[off] = n:=⟨_,rfl⟩
    have htk : (es.drop off).take (l + 1) = n :: (es.drop (off + 1)).take l:=by rw [List.drop_eq_getElem_cons hle,List.take_succ_cons,hn]
    rw [htk] at q3
    have hp:=q3.popF
    have hnN:=(hp.r n (hp.s n rfl)).1
    obtain ⟨y,hy⟩ : ∃ y,c.n[n] = y:=⟨_,rfl⟩
    have hnd : c.nd n = y:=by rw [c.nd_get hnN,hy]
    have hyi:=hg.val.i n hnN
    have hyl:=hg.val.l n hnN
    rw [hnd] at hyi hyl
    obtain ⟨L,hL⟩ : ∃ L,l + 1 = L:=⟨_,rfl⟩
    rw [hL] at q1 q2 ⊢
    have hL1 : L - 1 = l:=by omega
    obtain ⟨cap2,hc2⟩ : ∃ q,Option.map (fun c=>c - 1) cap = q:=⟨_,rfl⟩
    simp [hle,natsV,hn,natV,show 0 < L by omega,show 1 ≤ L by omega,hnN,hy,hL1,hc2]
    by_cases h14 : y.k = 14
    · refine LoopP.of (X:=Nat) (fun k=>[(34,natV k),(33,natV y.i.length),(32,.sl (ints y.i) none),(7,natV n),(6,.ref 18 g18 (off + 1) l cap2),(5,.ref 13 g13 0 c.n.length (some c.n.length)),(2,.ptr 2 g2 0 0)])
        (fun _=>[(18,.row g18 1 (natsV es)),(13,.row g13 1 (boolsV c.n.length S)),(2,.row g2 4 [c.v])])
        (fun k=>k ≤ y.i.length) (fun k=>y.i.length - k) 0 (by simp) (by simp [natV]) (by simp [natsV,natV]) ?_
      rintro k p3
      simp [natV]
      refine BrB.of (fun hb2=>?_) (fun hb2=>?_)
      · have hk : k < y.i.length:=of_decide_eq_true hb2
        have hw:=wrapN k (by omega)
        simp [hk,ints_getE,hnN,hy,h14,hw]
        exact ⟨k + 1,hk,rfl,by omega⟩
      · simp
        refine ⟨⟨S,es,off + 1,l,g18,cap2⟩,⟨by dsimp only; omega,by dsimp only; omega,hp.next (jn:=[]) (by rw [g_14 (by rw [hnd]; exact h14)]; simp)⟩,by simp,by simp [natsV],by dsimp only; omega⟩
    have hgn : c.g n = y.i.map Int.toNat:=by rw [g_nd hg hnN (by rw [hnd]; exact h14),hnd]
    refine LoopP.of (X:=BcSt2) (fun z=>[(34,natV z.k),(33,natV y.i.length),(32,.sl (ints y.i) none),(7,natV n),(6,.ref 18 z.g z.o z.l z.cap),(5,.ref 13 g13 0 c.n.length (some c.n.length)),(2,.ptr 2 g2 0 0)])
      (fun z=>[(18,.row z.g 1 (natsV z.es)),(13,.row g13 1 (boolsV c.n.length z.S)),(2,.row g2 4 [c.v])])
      (fun z=>z.o + z.l ≤ z.es.length∧2 * unm z.S c.n.length + z.l < 2 * unm S c.n.length + L∧z.k ≤ y.i.length∧ConeI c a z.S ((z.es.drop z.o).take z.l) (some n) ((y.i.map Int.toNat).take z.k)) (fun z=>y.i.length - z.k)
      ⟨⟨S,es,off + 1,l,g18,cap2⟩,0⟩ ⟨by dsimp only; omega,by dsimp only; omega,by simp,by simpa using hp⟩ (by simp [natV]) (by simp [natsV,natV]) ?_
    rintro ⟨⟨S1,es1,o1,l1,g1,cap1⟩,k⟩ ⟨p1,p2,p3,p4⟩
    dsimp only at p1 p2 p3 p4 ⊢
    simp [natV]
    refine BrB.of (fun hb2=>?_) (fun hb2=>?_)
    · have hk : k < y.i.length:=of_decide_eq_true hb2
      have hw:=wrapN k (by omega)
      have h2:=hyi _ (List.getElem_mem hk)
      obtain ⟨m,hm⟩ : ∃ m : Nat,y.i[k] = (m : Int):=⟨(y.i[k]).toNat,by omega⟩
      have hmN : m < c.n.length:=by omega
      have hmg : m ∈ c.g n:=by
        rw [hgn]
        have:=List.mem_map_of_mem (f:=Int.toNat) (List.getElem_mem hk)
        rw [hm] at this; exact this
      have hjn : (y.i.map Int.toNat).take (k + 1) = (y.i.map Int.toNat).take k ++ [m]:=by
        rw [List.take_succ_eq_append_getElem (by simpa using hk),List.getElem_map,hm]; rfl
      have hes : ((natsV es1).drop o1).take l1 ++ [V.int .i64 (m : Int)] = natsV ((es1.drop o1).take l1 ++ [m]):=by simp [natsV,natV,List.map_take,List.map_drop]
      have htk1 : (((es1.drop o1).take l1 ++ [m]).drop 0).take (l1 + 1) = (es1.drop o1).take l1 ++ [m]:=by rw [List.drop_zero]; exact List.take_of_length_le (by simp; omega)
      simp [hk,hm,ints_getE,hmN,boolsV_get,hnN,hy,h14]
      cases hs : S1 m
      · have hu:=unm_upd S1 hs c.n.length
        rw [if_pos hmN] at hu
        have hpu:=p4.push hg hmg
        simp [p1,boolsV_get,boolsV_set,hmN,show l1 ≤ 274877906943 by omega]
        intro gf
        exact ⟨⟨⟨upd1 S1 m true,(es1.drop o1).take l1 ++ [m],0,l1 + 1,gf 18,none⟩,k + 1⟩,⟨by simp; omega,by dsimp only; omega,hk,by dsimp only; rw [hjn,htk1]; exact hpu⟩,by simp [hw],by simp [hes],by dsimp only; omega⟩
      · simp [hw]
        exact ⟨⟨⟨S1,es1,o1,l1,g1,cap1⟩,k + 1⟩,⟨p1,p2,hk,by dsimp only; rw [hjn]; exact p4.skip hs⟩,by simp,by simp [natsV],by dsimp only; omega⟩
    · have hk : k = y.i.length:=by have:=of_decide_eq_false hb2; omega
      subst hk
      rw [show y.i.length = (y.i.map Int.toNat).length by simp,List.take_length,← hgn] at p4
      simp
      exact ⟨⟨S1,es1,o1,l1,g1,cap1⟩,⟨p1,by dsimp only; omega,p4.next fun y hy=>hy⟩,by simp,by simp [natsV],by dsimp only; omega⟩
  · have hl : len = 0:=by have:=of_decide_eq_false hb; omega
    subst hl
    have:=q3.all hg ha
    simp [this,map_frz_pure (boolsV_pure _ _)]
    exact List.take_of_length_le (by simp)
end Go.Proofs.YtlmniacemoohpaaGreatDoor
namespace Go.Proofs.YtlmniacemoohpaaGreatDoor
open Go
def fdB (c : Ci) (x y : Nat) : Bool:=dep c (c.n.length + 1) x y || dep c (c.n.length + 1) y x
theorem feed_c (c : Ci) (hg : c.good) (x y : Nat) (hx : x < c.n.length) (hy : y < c.n.length) : PureC Tryz.prog gl0 26 [c.v,natV x,natV y] (.tup [.bool (fdB c x y),.int .i64 0]):=by
  have hl:=lines_c c hg
  have c1:=bcone_c c hg x hx
  have c2:=bcone_c c hg y hy
  unfold fdB
  generalize dep c (c.n.length + 1) x = D1 at c1 ⊢
  generalize dep c (c.n.length + 1) y = D2 at c2 ⊢
  simp only [natV] at c1 c2 ⊢
  refine PureC.of_W 2 ok26 rfl ?_
  simp [i26,x26]
  intro gf1
  have e1 : ¬ (min (x : Int) (y : Int) < 0):=by omega
  have e2 : ¬ ((c.n.length : Int) ≤ max (x : Int) (y : Int)):=by omega
  refine CallO.pure hl (by simp) ?_
  simp [e1,e2]
  refine CallO.pure c1 (by simp) ?_
  simp [hy,boolsV_get]
  cases hd : D1 y
  · simp
    refine CallO.pure c2 (by simp) ?_
    simp [hx,boolsV_get]
  · simp
theorem feedR_c (c : Ci) (hg : c.good) (x y : Int) (h : ¬ (0 ≤ x∧x < c.n.length∧0 ≤ y∧y < c.n.length)) : PureC Tryz.prog gl0 26 [c.v,.int .i64 x,.int .i64 y] (.tup [.bool false,.int .i64 1]):=by
  have hl:=lines_c c hg
  refine PureC.of_W 2 ok26 rfl ?_
  simp [i26,x26]
  intro gf1
  refine CallO.pure hl (by simp) ?_
  by_cases e1 : min x y < 0
  · simp [e1]
  · have e2 : (c.n.length : Int) ≤ max x y:=by omega
    simp [e1,e2]
end Go.Proofs.YtlmniacemoohpaaGreatDoor
namespace Go.Proofs.YtlmniacemoohpaaGreatDoor
open Go
def updT (S : Nat→Nat→Bool) (n k : Nat) (b : Bool) : Nat→Nat→Bool:=fun m=>if m = n then upd1 (S n) k b else S m
theorem updT_same (S : Nat→Nat→Bool) (n k : Nat) (b : Bool) : updT S n k b n = upd1 (S n) k b:=by simp [updT]
theorem updT_ne (S : Nat→Nat→Bool) {n m : Nat} (k : Nat) (b : Bool) (h : m ≠ n) : updT S n k b m = S m:=by simp [updT,h]
structure Fb (c : Ci) (r n : Nat) (S : Nat→Nat→Bool) : Prop where
  s : ∀ m,m < c.n.length→∀ k,S m k = true→Rch c.g m k
  d : ∀ m,m < c.n.length→S m m = true
  c : ∀ m,m < c.n.length→(lvOf c m < r∨(lvOf c m ≤ r∧m < n))→∀ k,Rch c.g m k→S m k = true
structure Fb2 (c : Ci) (r n : Nat) (jn : List Nat) (S : Nat→Nat→Bool) : Prop where
  b : Fb c r n S
  j : lvOf c n ≤ r→∀ x ∈ jn,∀ k,Rch c.g x k→S n k = true
structure Fb3 (c : Ci) (r n : Nat) (jn : List Nat) (x kk : Nat) (S : Nat→Nat→Bool) : Prop where
  b : Fb2 c r n jn S
  p : ∀ k,k < kk→S x k = true→S n k = true
variable {c : Ci} {r n x kk : Nat} {jn : List Nat} {S : Nat→Nat→Bool}
theorem Fb.ini : Fb c 0 0 (fun m k=>decide (m = k)) where
  s:=fun m _ k h=>by have:=of_decide_eq_true h; subst this; exact .rfl _
  d:=fun m _=>by simp
  c:=fun m _ h=>by omega
theorem Fb.start (h : Fb c r n S) : Fb2 c r n [] S:=⟨h,by simp⟩
theorem Fb2.start (h : Fb2 c r n jn S) (x : Nat) : Fb3 c r n jn x 0 S:=⟨h,fun k hk=>by omega⟩
theorem updT_mono {b : Bool} (hb : S n kk = true→b = true) {m k : Nat} (h : S m k = true) : updT S n kk b m k = true:=by
  by_cases h1 : m = n
  · subst h1
    rw [updT_same]
    by_cases h2 : k = kk
    · subst h2; rw [upd1_same]; exact hb h
    · rw [upd1_ne _ _ h2]; exact h
  · rw [updT_ne _ _ _ h1]; exact h
theorem lv_in (hg : c.good) (hn : n < c.n.length) (hx : x ∈ c.g n) : lvOf c x < lvOf c n:=by
  have hlv : IsLv c.n.length c.g (lvOf c):=hg.ac.lv
  have e1:=hlv n hn
  have e2:=le_mx (f:=lvOf c) hx
  omega
theorem Fb3.step (hg : c.good) (hn : n < c.n.length) (hx : x ∈ c.g n) (h : Fb3 c r n jn x kk S) : Fb3 c r n jn x (kk + 1) (updT S n kk (S n kk || S x kk)):=by
  have hm : ∀ {m k : Nat},S m k = true→updT S n kk (S n kk || S x kk) m k = true:=fun q=>updT_mono (fun w=>by rw [w]; rfl) q
  have hxn : x ≠ n:=fun e=>by have:=lv_in hg hn hx; rw [e] at this; omega
  have hxN:=hg.val.g n hn x hx
  refine ⟨⟨⟨fun m hmN k q=>?_,fun m hmN=>hm (h.b.b.d m hmN),fun m hmN hl k hr=>hm (h.b.b.c m hmN hl k hr)⟩,fun hl y hy k hr=>hm (h.b.j hl y hy k hr)⟩,fun k hk q=>?_⟩
  · by_cases h1 : m = n
    · subst h1
      rw [updT_same] at q
      by_cases h2 : k = kk
      · subst h2
        rw [upd1_same,Bool.or_eq_true] at q
        rcases q with q | q
        · exact h.b.b.s _ hmN _ q
        · exact .head hx (h.b.b.s x hxN _ q)
      · rw [upd1_ne _ _ h2] at q; exact h.b.b.s _ hmN _ q
    · rw [updT_ne _ _ _ h1] at q; exact h.b.b.s m hmN k q
  · rw [updT_ne _ _ _ hxn] at q
    by_cases h2 : k = kk
    · subst h2; rw [updT_same,upd1_same,q]; simp
    · exact hm (h.p k (by omega) q)
theorem Fb3.done (hg : c.good) (hn : n < c.n.length) (hx : x ∈ c.g n) (h : Fb3 c r n jn x c.n.length S) : Fb2 c r n (jn ++ [x]) S:=by
  refine ⟨h.b.b,fun hl y hy k hr=>?_⟩
  rcases List.mem_append.1 hy with hy | hy
  · exact h.b.j hl y hy k hr
  · rw [List.mem_singleton.1 hy] at hr
    have hxN:=hg.val.g n hn x hx
    have hk : k < c.n.length:=hr.closed (S:=fun z=>z < c.n.length) (fun z hz w hw=>hg.val.g z hz w hw) hxN
    have:=lv_in hg hn hx
    exact h.p k hk (h.b.b.c x hxN (.inl (by omega)) k hr)
theorem Fb2.done (h : Fb2 c r n jn S) (hj : ∀ x ∈ c.g n,x ∈ jn) (hn : n < c.n.length) : Fb c r (n + 1) S:=by
  refine ⟨h.b.s,h.b.d,fun m hm hl k hr=>?_⟩
  by_cases e : m = n∧lvOf c m ≤ r
  · obtain ⟨rfl,hl2⟩:=e
    cases hr with
    | rfl=>exact h.b.d m hm
    | head hx hr=>exact h.j hl2 _ (hj _ hx) k hr
  · refine h.b.c m hm ?_ k hr
    rcases hl with hl | ⟨hl,hm2⟩
    · exact .inl hl
    · have : m ≠ n:=fun e2=>e ⟨e2,hl⟩
      exact .inr ⟨hl,by omega⟩
theorem Fb.round (h : Fb c r c.n.length S) : Fb c (r + 1) 0 S:=⟨h.s,h.d,fun m hm hl k hr=>h.c m hm (.inr ⟨by omega,hm⟩) k hr⟩
theorem Fb.all (hg : c.good) (h : Fb c c.n.length 0 S) {m : Nat} (hm : m < c.n.length) (k : Nat) : S m k = dep c (c.n.length + 1) m k:=by
  have hlv : IsLv c.n.length c.g (lvOf c):=hg.ac.lv
  have hl:=hlv.lt hg.val.g m hm
  have hd : dep c (c.n.length + 1) m k = true↔S m k = true:=by
    rw [dep_iff hg hm]
    exact ⟨fun q=>h.c m hm (.inl hl) k q,fun q=>h.s m hm k q⟩
  cases hs : S m k <;> cases hd2 : dep c (c.n.length + 1) m k <;> simp_all
def rowsH (i N : Nat) (G : Nat→Nat) (S : Nat→Nat→Bool) : Hp:=(List.range i).map fun j=>(j + 5000,.row (G j) 1 (boolsV N (S j)))
theorem lk_appB {α : Type} (a b : List (Nat × α)) (t : Nat) : lk (a ++ b) t = (match lk a t with | some v=>some v | none=>lk b t):=by
  induction a with
  | nil=>rfl
  | cons p a ih=>
    obtain ⟨k,v⟩:=p
    simp only [List.cons_append,lk]
    by_cases h : t = k
    · simp [h]
    · simp [h,ih]
theorem rowsH_succ (i N : Nat) (G : Nat→Nat) (S : Nat→Nat→Bool) : rowsH (i + 1) N G S = rowsH i N G S ++ [(i + 5000,.row (G i) 1 (boolsV N (S i)))]:=by simp [rowsH,List.range_succ]
theorem lk_rowsH_out (N : Nat) (G : Nat→Nat) (S : Nat→Nat→Bool) {t : Nat} : ∀ i,(t < 5000∨i + 5000 ≤ t)→lk (rowsH i N G S) t = none
  | 0,_=>rfl
  | i + 1,h=>by
    rw [rowsH_succ,lk_appB,lk_rowsH_out N G S i (by omega)]
    simp only [lk]
    rw [if_neg (by omega)]
theorem lk_rowsH (N : Nat) (G : Nat→Nat) (S : Nat→Nat→Bool) {j : Nat} : ∀ i,j < i→lk (rowsH i N G S) (j + 5000) = some (.row (G j) 1 (boolsV N (S j)))
  | 0,h=>by omega
  | i + 1,h=>by
    rw [rowsH_succ,lk_appB]
    by_cases e : j = i
    · subst e
      rw [lk_rowsH_out N G S j (by omega)]
      simp [lk]
    · rw [lk_rowsH N G S i (by omega)]
theorem Sub_append {α : Type} : ∀ {a b h : List (Nat × α)},Sub (a ++ b) h↔Sub a h∧Sub b h
  | [],b,h=>by simp [Sub]
  | (k,v) :: a,b,h=>by
    simp only [List.cons_append,Sub]
    rw [Sub_append,and_assoc]
theorem Sub_rows {N : Nat} {G : Nat→Nat} {S : Nat→Nat→Bool} {h : Hp} : ∀ i,(∀ j,j < i→lk h (j + 5000) = some (.row (G j) 1 (boolsV N (S j))))→Sub (rowsH i N G S) h
  | 0,_=>trivial
  | i + 1,q=>by
    rw [rowsH_succ,Sub_append]
    exact ⟨Sub_rows i fun j hj=>q j (by omega),q i (by omega),trivial⟩
end Go.Proofs.YtlmniacemoohpaaGreatDoor
namespace Go.Proofs.YtlmniacemoohpaaGreatDoor
open Go
def tabR (N i : Nat) (G : Nat→Nat) : List V:=tab N fun j=>if j < i then .ref (j + 5000) (G j) 0 N (some N) else .nil
@[simp] theorem tabR_length (N i : Nat) (G : Nat→Nat) : (tabR N i G).length = N:=by simp [tabR]
theorem tabR_rep (N : Nat) (G : Nat→Nat) : List.replicate N V.nil = tabR N 0 G:=by
  refine List.ext_getElem (by simp) fun i h1 h2=>?_
  simp only [tabR]
  rw [tab_get,List.getElem_replicate]
  simp
theorem tabR_get (N i : Nat) (G : Nat→Nat) (j : Nat) (h : j < (tabR N i G).length) (hj : j < i) : (tabR N i G)[j] = .ref (j + 5000) (G j) 0 N (some N):=by simp only [tabR]; rw [tab_get,if_pos hj]
theorem tabR_all (N : Nat) (G : Nat→Nat) (j : Nat) (h : j < (tabR N N G).length) : (tabR N N G)[j] = .ref (j + 5000) (G j) 0 N (some N):=tabR_get N N G j h (by simpa using h)
theorem tabR_set (N i : Nat) (G : Nat→Nat) (v : V) : (tabR N i G).set i v = tab N fun j=>if j < i then .ref (j + 5000) (G j) 0 N (some N) else if j = i then v else .nil:=by
  unfold tabR
  rw [tab_set]
  congr 1
  funext j
  by_cases h : j = i
  · subst h; simp
  · rw [upd1_ne _ _ h,if_neg h]
theorem tabR_at (N i : Nat) (G : Nat→Nat) (h : i < (tabR N i G).length) : (tabR N i G)[i] = .nil:=by simp only [tabR]; rw [tab_get,if_neg (Nat.lt_irrefl i)]
theorem boolsV_rn (s : Nat→Nat→Nat × Nat) (N : Nat) (S : Nat→Bool) : (boolsV N S).map (V.rn s) = boolsV N S:=by
  unfold boolsV tab
  rw [List.map_map]
  rfl
theorem tabR_rn (N i g g' : Nat) (G : Nat→Nat) : (tab N fun j=>if j < i then V.ref (j + 5000) (G j) 0 N (some N) else if j = i then .ref 64 g 0 N (some N) else .nil).map (V.rn (mvS 64 g (i + 5000) g')) = tabR N (i + 1) (upd1 G i g'):=by
  unfold tabR tab
  rw [List.map_map]
  refine List.map_congr_left fun j _=>?_
  simp only [Function.comp]
  by_cases h : j < i
  · rw [if_pos h,if_pos (by omega),upd1_ne _ _ (by omega)]
    simp only [V.rn,mvS]
    rw [if_neg (by omega)]
  · by_cases e : j = i
    · subst e
      rw [if_neg h,if_pos rfl,if_pos (by omega),upd1_same]
      simp [V.rn,mvS]
    · rw [if_neg h,if_neg e,if_neg (by omega)]
      rfl
set_option maxRecDepth 100000 in
set_option maxHeartbeats 8000000 in
theorem law6_c (x : Cx) (hx : x.ok) (a b : Int) : PureC Tryz.prog gl0 6 [x.v,.int .i64 a,.int .i64 b] (.bool true):=by
  have hg:=nm_good x
  have hcs:=circU_c x hx
  generalize x.nm.ci = c at hcs hg
  have hgp : V.pureL (x.g.map Gx.v) = true:=pureL_map (fun g=>by simp [Gx.v,u8V]) x.g
  have hn0:=hg.n0
  have hn1:=hg.n1
  by_cases hr : 0 ≤ a∧a < c.n.length∧0 ≤ b∧b < c.n.length
  case' neg=>
    have hf:=feedR_c c hg a b hr
    refine PureC.of_W 2 ok6 rfl ?_
    simp [i6,x6,Cx.v,u8V]
    intro gf1
    refine CallO.pure hcs (by simp [u8V,hgp]) ?_
    simp
    intro gf2
    refine CallO.pure hf (by simp) ?_
    by_cases e1 : a < 0
    · simp [e1]
      refine CallO.pure livesB_c rfl ?_
      simp
    by_cases e2 : b < 0
    · simp [e1,e2]
      refine CallO.pure livesB_c rfl ?_
      simp
    by_cases e3 : (c.n.length : Int) ≤ a
    · simp [e1,e2,e3]
      refine CallO.pure livesB_c rfl ?_
      simp
    have e4 : (c.n.length : Int) ≤ b:=by omega
    simp [e1,e2,e3,e4]
    refine CallO.pure livesB_c rfl ?_
    simp
  case' pos=>
    obtain ⟨h1,h2,h3,h4⟩:=hr
    obtain ⟨a,rfl⟩:=Int.eq_ofNat_of_zero_le h1
    obtain ⟨b,rfl⟩:=Int.eq_ofNat_of_zero_le h3
    have ha : a < c.n.length:=by omega
    have hb : b < c.n.length:=by omega
    have hf:=feed_c c hg a b ha hb
    refine PureC.of_W 2 ok6 rfl ?_
    simp [i6,x6,Cx.v,u8V]
    intro gf1
    refine CallO.pure hcs (by simp [u8V,hgp]) ?_
    simp
    intro gf2
    refine CallO.pure hf (by simp [natV]) ?_
    simp [Nat.not_le.2 ha,Nat.not_le.2 hb,show c.n.length ≤ 22906492245 by omega]
    intro gf3
    refine ⟨by omega,?_⟩
    generalize gf2 7 = g7
    generalize gf3 55 = g55
    obtain ⟨D,hD⟩ : ∃ D,fdB c a b = D:=⟨_,rfl⟩
    rw [hD]
    refine LoopP.ofM (X:=Nat × (Nat→Nat)) (fun z=>[(12,natV z.1),(10,natV c.n.length),(11,.ref 55 g55 0 c.n.length (some c.n.length)),(9,.int .i64 0),(8,.bool D),(7,.ptr 7 g7 0 0),(2,natV b),(1,natV a)])
      (fun z=>(55,.row g55 1 (tabR c.n.length z.1 z.2)) :: (7,.row g7 4 [c.v]) :: rowsH z.1 c.n.length z.2 fun m k=>decide (m = k))
      (fun z=>z.1 ≤ c.n.length) (fun z=>c.n.length - z.1) (.done ⟨(0,fun _=>0),by simp,by simp [natV],by simp [rowsH,tabR_rep c.n.length fun _=>0,Ci.v]⟩) ?_
    rintro ⟨i,G⟩ q1
    dsimp only at q1 ⊢
    simp [natV]
    refine BrB.of (fun hb1=>?_) (fun hb1=>?_)
    · have hi : i < c.n.length:=of_decide_eq_true hb1
      have hw:=wrapN i (by omega)
      simp [hi,hw,tabR_set,tabR_at,tab_get,boolsV_rep,boolsV_set,boolsV_get,show c.n.length ≤ 549755813888 by omega]
      intro gf
      refine .move 64 (i + 5000) (.row (gf 64) 1 (boolsV c.n.length (upd1 (fun _=>false) i true))) (by omega) (by simp) fun g'=>.done ⟨i + 1,hi,?_,⟨upd1 G i g',?_,?_,Sub_rows _ fun j hj=>?_⟩,by omega⟩
      · simp [lk_mvF,V.rn,mvS]
      · rw [lk_mvH (by omega),if_neg (by omega),if_neg (by omega)]
        simp [Blk.rn,Blk.gen,tabR_rn]
      · rw [lk_mvH (by omega),if_neg (by omega),if_neg (by omega)]
        simp [Blk.rn,Blk.gen,rn_pure _ (ci_pure2 c)]
      · rw [lk_mvH (by omega)]
        by_cases e : j = i
        · subst e
          rw [if_pos rfl]
          have hS : (upd1 (fun _=>false) j true : Nat→Bool) = fun k=>decide (j = k):=by
            funext k
            by_cases e : k = j
            · subst e; simp
            · rw [upd1_ne _ _ e]; simp [show ¬ j = k from fun h=>e h.symm]
          simp [Blk.rn,boolsV_rn,hS]
        · rw [if_neg (by omega),if_neg (by omega)]
          have hl:=lk_rowsH c.n.length G (fun m k=>decide (m = k)) i (show j < i by omega)
          simp [hl,Blk.rn,Blk.gen,boolsV_rn,upd1_ne _ _ e]
    · have hi : i = c.n.length:=by have:=of_decide_eq_false hb1; omega
      subst hi
      simp
      refine LoopP.of (X:=Nat × (Nat→Nat→Bool)) (fun z=>[(13,natV z.1),(10,natV c.n.length),(11,.ref 55 g55 0 c.n.length (some c.n.length)),(9,.int .i64 0),(8,.bool D),(7,.ptr 7 g7 0 0),(2,natV b),(1,natV a)]) (fun z=>(55,.row g55 1 (tabR c.n.length c.n.length G)) :: (7,.row g7 4 [c.v]) :: rowsH c.n.length c.n.length G z.2)
        (fun z=>z.1 ≤ c.n.length∧Fb c z.1 0 z.2) (fun z=>c.n.length - z.1) (0,fun m k=>decide (m = k)) ⟨by simp,Fb.ini⟩ (by simp [natV]) (by simp; exact Sub_rows _ fun j hj=>by simp [lk_rowsH _ _ _ _ hj]) ?_
      rintro ⟨r,S⟩ ⟨q2,q3⟩
      dsimp only at q2 q3 ⊢
      simp [natV]
      refine BrB.of (fun hb2=>?_) (fun hb2=>?_)
      · have hr:=of_decide_eq_true hb2
        have hwr:=wrapN r (by omega)
        simp
        refine LoopP.of (X:=Nat × (Nat→Nat→Bool)) (fun z=>[(14,natV z.1),(13,natV r),(10,natV c.n.length),(11,.ref 55 g55 0 c.n.length (some c.n.length)),(9,.int .i64 0),(8,.bool D),(7,.ptr 7 g7 0 0),(2,natV b),(1,natV a)]) (fun z=>(55,.row g55 1 (tabR c.n.length c.n.length G)) :: (7,.row g7 4 [c.v]) :: rowsH c.n.length c.n.length G z.2)
          (fun z=>z.1 ≤ c.n.length∧Fb c r z.1 z.2) (fun z=>c.n.length - z.1) (0,S) ⟨by simp,q3⟩ (by simp [natV]) (by simp; exact Sub_rows _ fun j hj=>by simp [lk_rowsH _ _ _ _ hj]) ?_
        rintro ⟨n,S⟩ ⟨q4,q5⟩
        dsimp only at q4 q5 ⊢
        simp [natV]
        refine BrB.of (fun hb3=>?_) (fun hb3=>?_)
        · have hn:=of_decide_eq_true hb3
          have hwn:=wrapN n (by omega)
          obtain ⟨y,hy⟩ : ∃ y,c.n[n] = y:=⟨_,rfl⟩
          have hnd : c.nd n = y:=by rw [c.nd_get hn,hy]
          have hyi:=hg.val.i n hn
          have hyl:=hg.val.l n hn
          rw [hnd] at hyi hyl
          simp
          refine LoopP.of (X:=Nat × (Nat→Nat→Bool)) (fun z=>[(15,natV z.1),(14,natV n),(13,natV r),(10,natV c.n.length),(11,.ref 55 g55 0 c.n.length (some c.n.length)),(9,.int .i64 0),(8,.bool D),(7,.ptr 7 g7 0 0),(2,natV b),(1,natV a)]) (fun z=>(55,.row g55 1 (tabR c.n.length c.n.length G)) :: (7,.row g7 4 [c.v]) :: rowsH c.n.length c.n.length G z.2)
            (fun z=>z.1 ≤ y.i.length∧Fb2 c r n ((y.i.map Int.toNat).take z.1) z.2∧(y.k = 14→z.1 = 0)) (fun z=>y.i.length - z.1) (0,S) ⟨by simp,by simpa using q5.start,fun _=>rfl⟩ (by simp [natV]) (by simp; exact Sub_rows _ fun j hj=>by simp [lk_rowsH _ _ _ _ hj]) ?_
          rintro ⟨i,S⟩ ⟨q6,q7,q8⟩
          dsimp only at q6 q7 q8 ⊢
          simp [natV,hn,hy]
          have stop : (∀ x ∈ c.g n,x ∈ (y.i.map Int.toNat).take i)→Fb c r (n + 1) S:=fun h=>q7.done h hn
          refine BrB.of (fun hb4=>?_) (fun hb4=>?_)
          · have hi:=of_decide_eq_true hb4
            by_cases h14 : y.k = 14
            · simp [hi,hn,hy,h14,hwn]
              exact ⟨n + 1,S,⟨hn,stop (by rw [g_14 (by rw [hnd]; exact h14)]; simp)⟩,rfl,Sub_rows _ fun j hj=>by simp [lk_rowsH _ _ _ _ hj],by omega⟩
            · have hgn : c.g n = y.i.map Int.toNat:=by rw [g_nd hg hn (by rw [hnd]; exact h14),hnd]
              have hwi:=wrapN i (by omega)
              have h2:=hyi _ (List.getElem_mem hi)
              obtain ⟨x,hx⟩ : ∃ x : Nat,y.i[i] = (x : Int):=⟨(y.i[i]).toNat,by omega⟩
              have hxN : x < c.n.length:=by omega
              have hxg : x ∈ c.g n:=by
                rw [hgn]
                have:=List.mem_map_of_mem (f:=Int.toNat) (List.getElem_mem hi)
                rw [hx] at this; exact this
              have hjn : (y.i.map Int.toNat).take (i + 1) = (y.i.map Int.toNat).take i ++ [x]:=by
                rw [List.take_succ_eq_append_getElem (by simpa using hi),List.getElem_map,hx]; rfl
              simp [hi,hn,hy,h14]
              refine LoopP.of (X:=Nat × (Nat→Nat→Bool)) (fun z=>[(16,natV z.1),(15,natV i),(14,natV n),(13,natV r),(10,natV c.n.length),(11,.ref 55 g55 0 c.n.length (some c.n.length)),(9,.int .i64 0),(8,.bool D),(7,.ptr 7 g7 0 0),(2,natV b),(1,natV a)]) (fun z=>(55,.row g55 1 (tabR c.n.length c.n.length G)) :: (7,.row g7 4 [c.v]) :: rowsH c.n.length c.n.length G z.2)
                (fun z=>z.1 ≤ c.n.length∧Fb3 c r n ((y.i.map Int.toNat).take i) x z.1 z.2) (fun z=>c.n.length - z.1) (0,S) ⟨by simp,q7.start x⟩ (by simp [natV]) (by simp; exact Sub_rows _ fun j hj=>by simp [lk_rowsH _ _ _ _ hj]) ?_
              rintro ⟨k,S⟩ ⟨q9,q10⟩
              dsimp only at q9 q10 ⊢
              simp [natV]
              refine BrB.of (fun hb5=>?_) (fun hb5=>?_)
              · have hk:=of_decide_eq_true hb5
                have hwk:=wrapN k (by omega)
                simp [hn,hy,hi,hx,ints_getE,tabR_all,lk_rowsH _ _ _ _ hn,lk_rowsH _ _ _ _ hxN,boolsV_get,boolsV_set,hk,hwk,hxN]
                intro gm
                have hst:=q10.step hg hn hxg
                have hrow : ∀ B : Bool,Sub (rowsH c.n.length c.n.length G (updT S n k B)) ((n + 5000,Blk.row (G n) 1 (boolsV c.n.length (upd1 (S n) k B))) :: (55,Blk.row g55 1 (tabR c.n.length c.n.length G)) :: (7,Blk.row g7 4 [c.v]) :: rowsH c.n.length c.n.length G S):=fun B=>Sub_rows _ fun j hj=>by
                  by_cases e : j = n
                  · subst e; simp [updT_same]
                  · simp [updT_ne S k B e,lk_rowsH _ _ _ _ hj,e]
                cases hs1 : S n k
                all_goals
                  simp only [hs1,Bool.false_or,Bool.true_or] at hst
                  simp [hs1,hn,hy,hi,hx,ints_getE,tabR_all,lk_rowsH _ _ _ _ hn,lk_rowsH _ _ _ _ hxN,boolsV_get,boolsV_set,hk,hwk,hxN]
                  exact ⟨k + 1,_,⟨hk,hst⟩,rfl,hrow _,by omega⟩
              · have hk : k = c.n.length:=by have:=of_decide_eq_false hb5; omega
                subst hk
                simp [hwi]
                exact ⟨i + 1,S,⟨hi,by rw [hjn]; exact q10.done hg hn hxg⟩,rfl,Sub_rows _ fun j hj=>by simp [lk_rowsH _ _ _ _ hj],by omega⟩
          · have hi : i = y.i.length:=by have:=of_decide_eq_false hb4; omega
            subst hi
            simp [hwn]
            refine ⟨n + 1,S,⟨hn,stop ?_⟩,rfl,Sub_rows _ fun j hj=>by simp [lk_rowsH _ _ _ _ hj],by omega⟩
            by_cases h14 : y.k = 14
            · rw [g_14 (by rw [hnd]; exact h14)]; simp
            · rw [g_nd hg hn (by rw [hnd]; exact h14),hnd,show y.i.length = (y.i.map Int.toNat).length by simp,List.take_length]
              exact fun x hx=>hx
        · have hn : n = c.n.length:=by have:=of_decide_eq_false hb3; omega
          subst hn
          simp [hwr]
          exact ⟨r + 1,S,⟨hr,q5.round⟩,rfl,Sub_rows _ fun j hj=>by simp [lk_rowsH _ _ _ _ hj],by omega⟩
      · have hr : r = c.n.length:=by have:=of_decide_eq_false hb2; omega
        subst hr
        have e1:=q3.all hg ha b
        have e2:=q3.all hg hb a
        have hDD : (S a b || S b a) = D:=by rw [e1,e2]; exact hD
        subst hDD
        cases hab : S a b
        all_goals
          simp [hab,ha,hb,tabR_all,lk_rowsH _ _ _ _ ha,lk_rowsH _ _ _ _ hb,boolsV_get]
          refine CallO.pure livesB_c rfl ?_
          simp
end Go.Proofs.YtlmniacemoohpaaGreatDoor
