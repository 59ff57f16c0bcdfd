/- Circuits whose values are replaced at nets and pins: their values solve equations, and alone do. No program stands in it. Conditions: none. -/
import Derived.Test.YtlmniacemoohpaaGreatDoorS1
import Derived.Test.YtlmniacemoohpaaGreatDoorT7
set_option linter.unusedSimpArgs false
set_option linter.unusedVariables false
namespace Go.Proofs.YtlmniacemoohpaaGreatDoor
open Go
variable {α : Type}
theorem evl_keep {ev : Nat→(Nat→α)→α} {cb : Nat→Bool} {n : Nat} : ∀ (L : List Nat) (f : Nat→α),n ∉ L→evl ev cb L f n = f n
  | [],_,_=>rfl
  | m :: L,f,h=>by
    simp only [List.mem_cons,not_or] at h
    rw [evl,evl_keep L _ h.2]
    split
    · exact upd1_ne _ _ h.1
    · rfl
def EvC (g : Nat→List Nat) (ev : Nat→(Nat→α)→α) : Prop:=∀ n f f',(∀ x ∈ g n,f x = f' x)→f n = f' n→ev n f = ev n f'
theorem evl_eq {g : Nat→List Nat} {ev : Nat→(Nat→α)→α} (hc : EvC g ev) : ∀ (L A : List Nat) (f : Nat→α),Topo g A L→L.Nodup→(∀ x ∈ A,x ∉ L)→
    ∀ n,n ∈ L→evl ev (fun _=>true) L f n = ev n (upd1 (evl ev (fun _=>true) L f) n (f n))
  | [],_,_,_,_,_,n,hn=>by simp at hn
  | m :: L,A,f,ht,hd,ha,n,hn=>by
    obtain ⟨hmL,hd'⟩:=List.nodup_cons.1 hd
    simp only [evl,if_true]
    have hA : ∀ x ∈ m :: A,x ∉ L:=fun x hx=>by
      rcases List.mem_cons.1 hx with rfl | hx
      · exact hmL
      · exact fun h=>ha x hx (List.mem_cons_of_mem _ h)
    rcases List.mem_cons.1 hn with rfl | hnL
    · rw [evl_keep L _ hmL,upd1_same]
      refine hc n _ _ (fun x hx=>?_) (by rw [upd1_same])
      have hxA:=ht.1 x hx
      have hxn : x ≠ n:=fun e=>ha x hxA (e ▸ List.mem_cons_self)
      rw [upd1_ne _ _ hxn,evl_keep L _ (hA x (List.mem_cons_of_mem _ hxA)),upd1_ne _ _ hxn]
    · have hnm : n ≠ m:=fun e=>hmL (e ▸ hnL)
      have ih:=evl_eq hc L (m :: A) (upd1 f m (ev m f)) ht.2 hd' hA n hnL
      rw [upd1_ne _ _ hnm] at ih
      exact ih
theorem evl_uniq {g : Nat→List Nat} {ev : Nat→(Nat→α)→α} (hc : EvC g ev) : ∀ (L A : List Nat) (f G : Nat→α),Topo g A L→L.Nodup→(∀ x ∈ A,x ∉ L)→
    (∀ n ∈ A,G n = f n)→(∀ n ∈ L,G n = ev n (upd1 G n (f n)))→∀ n,n ∈ L→G n = evl ev (fun _=>true) L f n
  | [],_,_,_,_,_,_,_,_,n,hn=>by simp at hn
  | m :: L,A,f,G,ht,hd,ha,hf,hG,n,hn=>by
    obtain ⟨hmL,hd'⟩:=List.nodup_cons.1 hd
    simp only [evl,if_true]
    have hA : ∀ x ∈ m :: A,x ∉ L:=fun x hx=>by
      rcases List.mem_cons.1 hx with rfl | hx
      · exact hmL
      · exact fun h=>ha x hx (List.mem_cons_of_mem _ h)
    have hm : G m = ev m f:=by
      rw [hG m List.mem_cons_self]
      refine hc m _ _ (fun x hx=>?_) (by rw [upd1_same])
      have hxA:=ht.1 x hx
      have hxn : x ≠ m:=fun e=>ha x hxA (e ▸ List.mem_cons_self)
      rw [upd1_ne _ _ hxn,hf x hxA]
    rcases List.mem_cons.1 hn with rfl | hnL
    · rw [evl_keep L _ hmL,upd1_same,hm]
    · refine evl_uniq hc L (m :: A) (upd1 f m (ev m f)) G ht.2 hd' hA (fun x hx=>?_) (fun x hx=>?_) n hnL
      · by_cases hxm : x = m
        · subst hxm; rw [upd1_same,hm]
        · rw [upd1_ne _ _ hxm]
          exact hf x ((List.mem_cons.1 hx).resolve_left hxm)
      · have hxm : x ≠ m:=fun e=>hmL (e ▸ hx)
        rw [upd1_ne _ _ hxm]
        exact hG x (List.mem_cons_of_mem _ hx)
theorem evl_all {ev : Nat→(Nat→α)→α} {cb : Nat→Bool} : ∀ (L : List Nat) (f : Nat→α),evl ev cb L f = evl (fun n f=>if cb n = true then ev n f else f n) (fun _=>true) L f
  | [],_=>rfl
  | m :: L,f=>by
    rw [evl,evl,evl_all L]
    congr 1
    simp only [if_true]
    split
    · rfl
    · funext j
      by_cases h : j = m
      · subst h; rw [upd1_same]
      · rw [upd1_ne _ _ h]
def rdsM (c : Ci) (Q : Nat→Nat→Nat→Nat) (n : Nat) (f : Nat→Nat) : List Nat:=(c.nd n).i.mapIdx fun p x=>Q n p (f x.toNat)
def evM (c : Ci) (W : Nat→Nat→Nat) (Q : Nat→Nat→Nat→Nat) (n : Nat) (f : Nat→Nat) : Nat:=W n (if combC c n = true then logE (c.nd n).k.toNat (rdsM c Q n f) else f n)
noncomputable def netM (c : Ci) (W : Nat→Nat→Nat) (Q : Nat→Nat→Nat→Nat) (p : Pt) : Nat→Nat:=evl (evM c W Q) (fun _=>true) (ordL c) (ini c p)
def idW : Nat→Nat→Nat:=fun _ v=>v
def idQ : Nat→Nat→Nat→Nat:=fun _ _ v=>v
theorem g_comb {c : Ci} {n : Nat} (h : combC c n = true) : c.g n = (c.nd n).i.map Int.toNat:=by
  unfold Ci.g
  have h' : combB (c.nd n).k = true:=h
  rw [if_pos h']
theorem rdsM_congr {c : Ci} {Q Q' : Nat→Nat→Nat→Nat} {n : Nat} {f f' : Nat→Nat} (h : ∀ p (hp : p < (c.nd n).i.length),Q n p (f ((c.nd n).i[p]).toNat) = Q' n p (f' ((c.nd n).i[p]).toNat)) : rdsM c Q n f = rdsM c Q' n f':=by
  refine List.ext_getElem (by simp [rdsM]) fun p h1 h2=>?_
  simp only [rdsM,List.getElem_mapIdx]
  exact h p (by simpa [rdsM] using h1)
theorem evM_c (c : Ci) (W : Nat→Nat→Nat) (Q : Nat→Nat→Nat→Nat) : EvC c.g (evM c W Q):=fun n f f' h h'=>by
  unfold evM
  by_cases hc : combC c n = true
  · rw [if_pos hc,if_pos hc]
    congr 2
    refine rdsM_congr fun p hp=>?_
    rw [h]
    rw [g_comb hc]
    exact List.mem_map_of_mem (List.getElem_mem hp)
  · rw [if_neg hc,if_neg hc,h']
theorem Ord.all {c : Ci} {L : List Nat} (h : Ord c L) {n : Nat} (hn : n < c.n.length) : n ∈ L:=nodup_full (lex_nodup h.p) h.r.lt (by have:=h.r.len; omega) n hn
theorem evM_upd {c : Ci} {W : Nat→Nat→Nat} {Q : Nat→Nat→Nat→Nat} (hb : acyc c) (_hv : c.val) {n : Nat} (hn : n < c.n.length) (G : Nat→Nat) (v : Nat) :
    evM c W Q n (upd1 G n v) = W n (if combC c n = true then logE (c.nd n).k.toNat (rdsM c Q n G) else v):=by
  unfold evM
  by_cases hc : combC c n = true
  · rw [if_pos hc,if_pos hc]
    congr 2
    refine rdsM_congr fun p hp=>?_
    rw [upd1_ne]
    intro e
    have hx : ((c.nd n).i[p]).toNat ∈ c.g n:=by rw [g_comb hc]; exact List.mem_map_of_mem (List.getElem_mem hp)
    rw [e] at hx
    have hlv : IsLv c.n.length c.g (lvOf c):=hb.lv
    have:=hlv n hn
    have:=le_mx (f:=lvOf c) hx
    omega
  · rw [if_neg hc,if_neg hc,upd1_same]
variable {c : Ci} {W : Nat→Nat→Nat} {Q : Nat→Nat→Nat→Nat} {p : Pt}
def Sol (c : Ci) (W : Nat→Nat→Nat) (Q : Nat→Nat→Nat→Nat) (p : Pt) (G : Nat→Nat) : Prop:=∀ n,n < c.n.length→G n = W n (if combC c n = true then logE (c.nd n).k.toNat (rdsM c Q n G) else ini c p n)
theorem netM_sol (hg : c.good) (ho : Ord c (ordL c)) : Sol c W Q p (netM c W Q p):=fun n hn=>by
  have h:=evl_eq (evM_c c W Q) (ordL c) [] (ini c p) (ho.topo hg) (lex_nodup ho.p) (by simp) n (ho.all hn)
  rw [evM_upd hg.ac hg.val hn] at h
  exact h
theorem netM_uniq (hg : c.good) (ho : Ord c (ordL c)) {G : Nat→Nat} (hG : Sol c W Q p G) : ∀ n,n < c.n.length→G n = netM c W Q p n:=fun n hn=>by
  refine evl_uniq (evM_c c W Q) (ordL c) [] (ini c p) G (ho.topo hg) (lex_nodup ho.p) (by simp) (by simp) (fun m hm=>?_) n (ho.all hn)
  have hm':=ho.r.lt m hm
  rw [evM_upd hg.ac hg.val hm']
  exact hG m hm'
theorem rdsM_id {n : Nat} (h : combC c n = true) (f : Nat→Nat) : rdsM c idQ n f = (c.g n).map f:=by
  rw [g_comb h,List.map_map]
  refine List.ext_getElem (by simp [rdsM]) fun p h1 h2=>?_
  simp [rdsM,idQ]
theorem netN_M (c : Ci) (p : Pt) : netN c p = netM c idW idQ p:=by
  unfold netN netM
  rw [evl_all]
  congr 1
  funext n f
  unfold evM idW
  by_cases hc : combC c n = true
  · rw [if_pos hc,if_pos hc,rdsM_id hc]; rfl
  · rw [if_neg hc,if_neg hc]
theorem netN_sol (hg : c.good) (ho : Ord c (ordL c)) : Sol c idW idQ p (netN c p):=by rw [netN_M]; exact netM_sol hg ho
theorem netM_same (hg : c.good) (ho : Ord c (ordL c)) (hW : ∀ n,n < c.n.length→W n (netN c p n) = netN c p n)
    (hQ : ∀ n,n < c.n.length→∀ k (hk : k < (c.nd n).i.length),Q n k (netN c p ((c.nd n).i[k]).toNat) = netN c p ((c.nd n).i[k]).toNat) : ∀ n,n < c.n.length→netM c W Q p n = netN c p n:=fun n hn=>by
  refine (netM_uniq hg ho (G:=netN c p) (fun m hm=>?_) n hn).symm
  have h:=netN_sol (p:=p) hg ho m hm
  have hr : rdsM c Q m (netN c p) = rdsM c idQ m (netN c p):=rdsM_congr fun k hk=>by rw [hQ m hm k hk]; rfl
  rw [hr]
  unfold idW at h
  rw [← h,hW m hm]
def obsMO (c : Ci) (f : Nat→Nat) : List Nat:=c.o.map fun n=>f n.toNat
def nxtM (c : Ci) (Q : Nat→Nat→Nat→Nat) (f : Nat→Nat) (n : Nat) : Nat:=if (rdsM c Q n f).getD 0 0 = 3 then 2 else (rdsM c Q n f).getD 0 0
def obsMS (c : Ci) (Q : Nat→Nat→Nat→Nat) (f : Nat→Nat) : List Nat:=(ids 14 c.n 0).map (nxtM c Q f)
end Go.Proofs.YtlmniacemoohpaaGreatDoor
namespace Go.Proofs.YtlmniacemoohpaaGreatDoor
open Go
def FnW (F : V) (W : Nat→Nat→Nat) : Prop:=∃ f caps,F = .fn f [] caps∧V.pureL caps = true∧∀ n v,n < 1000→v ≤ 3→PureC Tryz.prog gl0 f (natV n :: u8V v :: caps) (u8V (W n v))
def FnQ (F : V) (Q : Nat→Nat→Nat→Nat) : Prop:=∃ f caps,F = .fn f [] caps∧V.pureL caps = true∧∀ n k v,n < 1000→k < 1000→v ≤ 3→PureC Tryz.prog gl0 f (natV n :: natV k :: u8V v :: caps) (u8V (Q n k v))
def cyV (c : Ci) (nets NF PF : V) : V:=.agg [.sl (c.n.map Nd.v) none,.sl (c.s.map .str) none,.sl (c.m.map Md.v) none,.sl (ints c.o) none,nets,NF,PF]
@[simp] theorem cy_cells (c : Ci) (a b d : V) : (cyV c a b d).cells = [.sl (c.n.map Nd.v) none,.sl (c.s.map .str) none,.sl (c.m.map Md.v) none,.sl (ints c.o) none,a,b,d]:=rfl
@[simp] theorem cy_okN (c : Ci) (f g : FuncId) (x y z w : List V) : (cyV c .nil (.fn f x y) (.fn g z w)).cellsOk = true:=rfl
@[simp] theorem cy_okS (c : Ci) (f g : FuncId) (xs x y z w : List V) (cap : Option Nat) : (cyV c (.sl xs cap) (.fn f x y) (.fn g z w)).cellsOk = true:=rfl
@[simp] theorem cy_okR (c : Ci) (f g : FuncId) (b gg o l : Nat) (x y z w : List V) (cap : Option Nat) : (cyV c (.ref b gg o l cap) (.fn f x y) (.fn g z w)).cellsOk = true:=rfl
def tU (N : Nat) (f : Nat→Nat) : List V:=tab N fun j=>u8V (f j)
@[simp] theorem tU_length (N : Nat) (f : Nat→Nat) : (tU N f).length = N:=by simp [tU]
theorem tU_get (N : Nat) (f : Nat→Nat) (i : Nat) (h : i < (tU N f).length) : (tU N f)[i] = u8V (f i):=by simp only [tU]; rw [tab_get]
@[simp] theorem tU_pure (N : Nat) (f : Nat→Nat) : V.pureL (tU N f) = true:=tabU_pure N f
theorem tU_set (N : Nat) (F : Nat→Nat) (n x : Nat) : (tU N F).set n (.int .u8 (x : Int)) = tU N (upd1 F n x):=tabU_set N F n x
theorem rdsM_len (c : Ci) (Q : Nat→Nat→Nat→Nat) (n : Nat) (f : Nat→Nat) : (rdsM c Q n f).length = (c.nd n).i.length:=by simp [rdsM]
theorem rdsM_get {c : Ci} {Q : Nat→Nat→Nat→Nat} {n : Nat} {f : Nat→Nat} {k : Nat} {y : Nd} {x : Nat} (hy : c.nd n = y) (hk : k < y.i.length) (hx : y.i[k] = (x : Int)) (h : k < (rdsM c Q n f).length) : (rdsM c Q n f)[k] = Q n k (f x):=by
  subst hy
  simp [rdsM,hx]
set_option maxRecDepth 100000 in
theorem reads_c (c : Ci) (hg : c.good) (Q : Nat→Nat→Nat→Nat) (NF PF : V) (hNF : NF.pure = true∧∃ f x y,NF = .fn f x y) (hQ : FnQ PF Q) (f : Nat→Nat) (hf : ∀ i,i < c.n.length→f i ≤ 3) (n : Nat) (hn : n < c.n.length) :
    OwnC Tryz.prog gl0 130 [.iptr (cyV c (.sl (tU c.n.length f) (some c.n.length)) NF PF) 0,natV n] (DatK 1 (.sl ((rdsM c Q n f).map u8V) none)):=by
  obtain ⟨hNp,f0,x0,y0,rfl⟩:=hNF
  obtain ⟨g0,caps,rfl,hcp,hQ⟩:=hQ
  obtain ⟨y,hy⟩ : ∃ y,c.n[n] = y:=⟨_,rfl⟩
  have hnd : c.nd n = y:=by rw [c.nd_get hn,hy]
  have hyi:=hg.val.i n hn
  have hyl:=hg.val.l n hn
  have hn1:=hg.n1
  rw [hnd] at hyi hyl
  have hRl : (rdsM c Q n f).length = y.i.length:=by rw [rdsM_len,hnd]
  have hRg : ∀ k (hk : k < y.i.length) (x : Nat),y.i[k] = (x : Int)→∀ h,(rdsM c Q n f)[k]'h = Q n k (f x):=fun k hk x hx h=>rdsM_get hnd hk hx h
  generalize rdsM c Q n f = R at hRl hRg ⊢
  have hR3 : V.pureL (R.map u8V) = true:=u8s_pure R
  have h0 : OwnC Tryz.prog gl0 130 [.iptr (cyV c (.sl (tU c.n.length f) (some c.n.length)) (.fn f0 x0 y0) (.fn g0 [] caps)) 0,natV n] (fun v h=>(v = .nil∧R = []∧h = [])∨∃ g,v = .ref 0 g 0 R.length none∧h = [(0,.row g 1 (R.map u8V))]):=by
    refine OwnC.of_W ok130 rfl ?_
    simp [i130,x130,natV,nop,hn,hy]
    refine LoopP.ofM (X:=Nat × Option (Nat × List V)) (fun z=>[(18,natV z.1),(17,natV y.i.length),(16,.sl (ints y.i) none),(5,accV 39 z.2),(0,.iptr (cyV c (.sl (tU c.n.length f) (some c.n.length)) (.fn f0 x0 y0) (.fn g0 [] caps)) 0),(1,natV n)]) (fun z=>accH 39 1 z.2)
      (fun z=>z.1 ≤ y.i.length∧(z.2 = none↔z.1 = 0)∧accL z.2 = (R.map u8V).take z.1) (fun z=>y.i.length - z.1) (.done ⟨(0,none),⟨by simp,by simp,by simp [accL]⟩,by simp [natV,accV],by simp [accH]⟩) ?_
    rintro ⟨k,acc⟩ ⟨q1,q2,q3⟩
    dsimp only at q1 q2 q3 ⊢
    simp [natV]
    refine BrB.of (fun hb=>?_) (fun hb=>?_)
    · have hk : k < y.i.length:=of_decide_eq_true hb
      have hw:=wrapN k (by omega)
      have h2:=hyi _ (List.getElem_mem hk)
      obtain ⟨x,hx⟩ : ∃ x : Nat,y.i[k] = (x : Int):=⟨(y.i[k]).toNat,by omega⟩
      have hxN : x < c.n.length:=by rw [hx] at h2; omega
      have hkR : k < R.length:=by omega
      have hgk:=hRg k hk x hx hkR
      have hnx : (R.map u8V).take (k + 1) = (R.map u8V).take k ++ [u8V (Q n k (f x))]:=by
        rw [List.take_succ_eq_append_getElem (by simpa using hkR)]
        simp [hgk]
      have hQk:=hQ n k (f x) (by omega) (by omega) (hf x hxN)
      obtain ⟨qv,hqv⟩ : ∃ qv,Q n k (f x) = qv:=⟨_,rfl⟩
      obtain ⟨fv,hfv⟩ : ∃ fv,f x = fv:=⟨_,rfl⟩
      rw [hqv] at hQk hnx
      rw [hfv] at hQk
      rw [← q3] at hnx
      simp only [u8V,natV] at hQk hnx
      rcases acc with _ | ⟨ga,r⟩
      · simp [accV,accH,hk,hx,ints_getE,hxN,tU_get,hfv,nop,u8V]
        intro gm
        first | refine ⟨_,_,_,.pure hQk (by simp [V.pureL,V.pure,hcp]),?_⟩ | refine ⟨_,⟨_,_,.pure hQk (by simp [V.pureL,V.pure,hcp])⟩,?_⟩ | refine ⟨_,_,⟨_,.pure hQk (by simp [V.pureL,V.pure,hcp])⟩,?_⟩
        simp
        exact .done ⟨k + 1,some (gm 39,[.int .u8 (qv : Int)]),⟨hk,by simp,by simpa [accL] using hnx.symm⟩,by simp [hw],by simp,by omega⟩
      · simp [accV,accH,hk,hx,ints_getE,hxN,tU_get,hfv,nop,u8V]
        intro gm
        first | refine ⟨_,_,_,.pure hQk (by simp [V.pureL,V.pure,hcp]),?_⟩ | refine ⟨_,⟨_,_,.pure hQk (by simp [V.pureL,V.pure,hcp])⟩,?_⟩ | refine ⟨_,_,⟨_,.pure hQk (by simp [V.pureL,V.pure,hcp])⟩,?_⟩
        simp
        exact ⟨by have:=congrArg List.length q3; simp [accL] at this; omega,.done ⟨k + 1,some (ga + 1,r ++ [.int .u8 (qv : Int)]),⟨hk,by simp,by simpa [accL] using hnx.symm⟩,by simp [hw],by simp,by omega⟩⟩
    · have hk : k = y.i.length:=by have:=of_decide_eq_false hb; omega
      subst hk
      have hRt : (R.map u8V).take y.i.length = R.map u8V:=List.take_of_length_le (by simp; omega)
      rw [hRt] at q3
      rcases acc with _ | ⟨ga,r⟩
      · have hR0 : R = []:=by simpa [accL] using q3.symm
        simp [accV,accH]
        exact .done (by simp [hR0])
      · simp only [accL] at q3
        subst q3
        simp [accV,accH]
        refine .move 39 0 _ (by simp) (by simp; rfl) fun g=>.done ?_
        simp [map_rn_pure hR3]
  refine h0.mono fun v h hk=>?_
  rcases hk with ⟨rfl,rfl,rfl⟩ | ⟨g,rfl,rfl⟩
  · exact ⟨rfl,fun b k hb=>by simp [lk] at hb,VLe.nil'⟩
  · refine ⟨rfl,fun b k hb=>?_,?_⟩
    · simp only [lk] at hb
      split at hb
      · cases hb; exact u8s_noG R
      · cases hb
    · rw [frz_ref (es:=R.map u8V) (sz:=1) (by simp) (by simp),List.drop_zero,List.take_of_length_le (by simp),frz_all _ _ hR3]
      exact .refl _
end Go.Proofs.YtlmniacemoohpaaGreatDoor
namespace Go.Proofs.YtlmniacemoohpaaGreatDoor
open Go
theorem logE_le (k : Nat) (l : List Nat) : logE k l ≤ 3:=by
  unfold logE
  split
  · omega
  unfold gateN
  have h0 : ∀ i,rdN (l.getD i 0) ≤ 3:=fun i=>by unfold rdN; omega
  have h1 : ∀ v,notN v ≤ 3:=fun v=>by unfold notN; split <;> omega
  have h2 : ∀ lo hi out,lo ≤ 2→out ≤ 2→dec lo hi out l ≤ 3:=fun lo hi out a b=>by have:=dec_le lo hi a l out b; omega
  have h3 : xorN 0 l ≤ 3:=by have:=xorN_le l 0 (by omega); omega
  have h4 : ∀ s a b,muxN s a b ≤ 3:=fun s a b=>by unfold muxN rdN; split <;> (try split) <;> (try split) <;> omega
  have h5 : ∀ e d,triN e d ≤ 3:=fun e d=>by unfold triN rdN; split <;> (try split) <;> omega
  have h6 : busN l ≤ 3:=by
    unfold busN
    split
    · omega
    · split
      · omega
      · rename_i v hv h
        simp only [not_or,not_exists,not_and] at h
        by_cases hc : v ≤ 3
        · exact hc
        · exfalso
          exact h.2 v (List.mem_of_find?_eq_some hv) (by unfold clean; rw [if_pos (by omega)])
  by_cases e1 : k = 1
  · rw [if_pos e1]; omega
  rw [if_neg e1]
  by_cases e2 : k = 2
  · rw [if_pos e2]; omega
  rw [if_neg e2]
  by_cases e3 : k = 3
  · rw [if_pos e3]; exact h0 _
  rw [if_neg e3]
  by_cases e4 : k = 4
  · rw [if_pos e4]; exact h1 _
  rw [if_neg e4]
  by_cases e5 : k = 5
  · rw [if_pos e5]; exact h2 _ _ _ (by omega) (by omega)
  rw [if_neg e5]
  by_cases e6 : k = 6
  · rw [if_pos e6]; exact h1 _
  rw [if_neg e6]
  by_cases e7 : k = 7
  · rw [if_pos e7]; exact h2 _ _ _ (by omega) (by omega)
  rw [if_neg e7]
  by_cases e8 : k = 8
  · rw [if_pos e8]; exact h1 _
  rw [if_neg e8]
  by_cases e9 : k = 9
  · rw [if_pos e9]; exact h3
  rw [if_neg e9]
  by_cases e10 : k = 10
  · rw [if_pos e10]; exact h1 _
  rw [if_neg e10]
  by_cases e11 : k = 11
  · rw [if_pos e11]; exact h4 _ _ _
  rw [if_neg e11]
  by_cases e12 : k = 12
  · rw [if_pos e12]; exact h5 _ _
  rw [if_neg e12]
  by_cases e13 : k = 13
  · rw [if_pos e13]; exact h6
  rw [if_neg e13]
  omega
theorem evalC_c (c : Ci) (hg : c.good) (Q : Nat→Nat→Nat→Nat) (NF PF : V) (hNF : NF.pure = true∧∃ f x y,NF = .fn f x y) (hQ : FnQ PF Q) (f : Nat→Nat) (hf : ∀ i,i < c.n.length→f i ≤ 3) (n : Nat) (hn : n < c.n.length) :
    PureC Tryz.prog gl0 129 [.iptr (cyV c (.sl (tU c.n.length f) (some c.n.length)) NF PF) 0,natV n] (u8V (logE (c.nd n).k.toNat (rdsM c Q n f))):=by
  have hr:=PureC.of_dat (reads_c c hg Q NF PF hNF hQ f hf n hn)
  obtain ⟨hNp,f0,x0,y0,rfl⟩:=hNF
  obtain ⟨g0,caps,rfl,hcp,hQ⟩:=hQ
  obtain ⟨y,hy⟩ : ∃ y,c.n[n] = y:=⟨_,rfl⟩
  have hnd : c.nd n = y:=by rw [c.nd_get hn,hy]
  have hyl:=hg.val.l n hn
  have hyk:=hg.wf.k y (by rw [← hy]; exact List.getElem_mem hn)
  have hRl : (rdsM c Q n f).length = y.i.length:=by rw [rdsM_len,hnd]
  rw [hnd] at hyl ⊢
  generalize rdsM c Q n f = R at hr hRl ⊢
  have hlog:=logE_c y.k.toNat (by omega) R none (by omega)
  have hku : u8V y.k.toNat = .int .u8 y.k:=by simp [u8V,Int.toNat_of_nonneg hyk.1]
  rw [hku] at hlog
  generalize logE y.k.toNat R = E at hlog ⊢
  simp only [natV,u8V] at hr hlog ⊢
  have hp1 : V.pure (cyV c (.sl (tU c.n.length f) (some c.n.length)) (.fn f0 x0 y0) (.fn g0 [] caps)) = true:=by
    simp only [V.pure] at hNp
    simp [cyV,V.pureL,hcp,hNp]
  refine PureC.of_W 2 ok129 rfl ?_
  simp [i129,x129,nop,hn,hy]
  intro gm
  first | refine ⟨_,_,_,.pure hr (by simp [hp1]),?_⟩ | refine ⟨_,⟨_,_,.pure hr (by simp [hp1])⟩,?_⟩ | refine ⟨_,_,⟨_,.pure hr (by simp [hp1])⟩,?_⟩
  simp
  first | refine ⟨_,_,_,.pure hlog (by simp),?_⟩ | refine ⟨_,⟨_,_,.pure hlog (by simp)⟩,?_⟩ | refine ⟨_,_,⟨_,.pure hlog (by simp)⟩,?_⟩
  simp
  try rfl
end Go.Proofs.YtlmniacemoohpaaGreatDoor
namespace Go.Proofs.YtlmniacemoohpaaGreatDoor
open Go
def Le3W (W : Nat→Nat→Nat) : Prop:=∀ n v,v ≤ 3→W n v ≤ 3
theorem put_le : ∀ (ns vs : List Nat) (f : Nat→Nat),(∀ v ∈ vs,v ≤ 3)→(∀ i,f i ≤ 3)→∀ i,put ns vs f i ≤ 3
  | [],_,f,_,hf,i=>by simpa [put] using hf i
  | _ :: _,[],f,_,hf,i=>by simpa [put] using hf i
  | n :: ns,v :: vs,f,hv,hf,i=>by
    rw [put]
    refine put_le ns vs _ (fun x hx=>hv x (List.mem_cons_of_mem _ hx)) (fun j=>?_) i
    by_cases h : j = n
    · subst h; rw [upd1_same]; exact hv v List.mem_cons_self
    · rw [upd1_ne _ _ h]; exact hf j
theorem ini_le {c : Ci} {p : Pt} (hp : p.fit c) (i : Nat) : ini c p i ≤ 3:=put_le _ _ _ hp.sv (put_le _ _ _ hp.iv fun _=>by omega) i
theorem evM_le {c : Ci} {W : Nat→Nat→Nat} {Q : Nat→Nat→Nat→Nat} (hW : Le3W W) {f : Nat→Nat} (hf : ∀ i,f i ≤ 3) (n : Nat) : evM c W Q n f ≤ 3:=by
  unfold evM
  refine hW _ _ ?_
  split
  · exact logE_le _ _
  · exact hf n
theorem evlM_le {c : Ci} {W : Nat→Nat→Nat} {Q : Nat→Nat→Nat→Nat} (hW : Le3W W) : ∀ (L : List Nat) (f : Nat→Nat),(∀ i,f i ≤ 3)→∀ i,evl (evM c W Q) (fun _=>true) L f i ≤ 3
  | [],f,hf,i=>hf i
  | n :: L,f,hf,i=>by
    rw [evl,if_pos rfl]
    refine evlM_le hW L _ (fun j=>?_) i
    by_cases h : j = n
    · subst h; rw [upd1_same]; exact evM_le hW hf _
    · rw [upd1_ne _ _ h]; exact hf j
theorem frz_cy {h : Hp} {b g g29 N : Nat} {c : Ci} {F : Nat→Nat} {NF PF : V} (h1 : lk h b = some (.row g 7 [cyV c (.ref 29 g29 0 N (some N)) NF PF])) (h2 : lk h 29 = some (.row g29 1 (tU N F))) (hn : NF.pure = true) (hp : PF.pure = true) :
    frz h 3 (.ptr b g 0 0) = .iptr (cyV c (.sl (tU N F) (some N)) NF PF) 0:=by
  have e : frz h 3 (.ptr b g 0 0) = .iptr (frz h 2 (cyV c (.ref 29 g29 0 N (some N)) NF PF)) 0:=by simp [frz,V.mapR,h1]
  have e1 : ∀ v : V,v.pure = true→frz h 2 v = v:=fun v hv=>frz_pure h 2 hv
  rw [e]
  congr 1
  unfold cyV
  rw [frz_agg]
  simp only [List.map_cons,List.map_nil]
  rw [e1 _ (by simp),e1 _ (by simp),e1 _ (by simp),e1 _ (by simp),e1 _ hn,e1 _ hp,frz_ref h2 (by simp),List.drop_zero,List.take_of_length_le (by simp),frz_all _ _ (tU_pure N F)]
theorem fz_cy {b g g29 N : Nat} {es : List V} {c : Ci} {cap : Option Nat} {NF PF : V} (hb : b ≠ 29) (hn : NF.pure = true) (hp : PF.pure = true) :
    V.mapR (fzf b g es) (fzp b g es) (cyV c (.ref 29 g29 0 N cap) NF PF) = cyV c (.ref 29 g29 0 N cap) NF PF:=by
  have h1 : (29 = b∧g29 = g) = False:=by simp [Ne.symm hb]
  simp only [cyV,V.mapR,V.mapRL,mapRL_pure _ (nds_pure _),mapRL_pure _ (strs_pure _),mapRL_pure _ (mds_pure _),mapRL_pure _ (ints_pure _),mapR_pure _ hn,mapR_pure _ hp,fzf,h1,if_false]
set_option maxRecDepth 100000 in
set_option maxHeartbeats 16000000 in
theorem crun_c (c : Ci) (hg : c.good) (p : Pt) (hp : p.fit c) (W : Nat→Nat→Nat) (Q : Nat→Nat→Nat→Nat) (NF PF : V) (hNW : FnW NF W) (hPQ : FnQ PF Q) (hW3 : Le3W W) (g : Nat) :
    ICallO Tryz.prog gl0 85 [.ptr 900 g 0 0,p.v] [(900,.row g 7 [cyV c .nil NF PF])]
      (fun v h=>v = rspV (obsMO c (netM c W Q p)) (obsMS c Q (netM c W Q p))∧∃ g2,h = [(900,.row g 7 [cyV c (.ref 29 g2 0 c.n.length (some c.n.length)) NF PF]),(29,.row g2 1 (tU c.n.length (netM c W Q p)))]):=by
  have hn1:=hg.n1
  have l0:=cnt_le 0 c.n
  have l1:=cnt_le 14 c.n
  have ci:=inputsN_c c (by omega)
  have cs:=statesN_c c (by omega)
  have hI0 : ∀ x ∈ ids 0 c.n 0,x < c.n.length:=fun x hx=>(ids_lt hx).1
  have hS0 : ∀ x ∈ ids 14 c.n 0,x < c.n.length:=fun x hx=>(ids_lt hx).1
  have hdff:=fun n (hn : n ∈ ids 14 c.n 0)=>nd_dff hg hn
  have hIl : (ids 0 c.n 0).length = cnt 0 c.n:=rfl
  have hSl : (ids 14 c.n 0).length = cnt 14 c.n:=rfl
  have hpi:=hp.i
  have hps:=hp.s
  have hno : c.o.length ≤ 16384:=(sh_len hg.sh).2.2.2
  have hord3:=hg.ord
  have hMS : obsMS c Q (netM c W Q p) = (ids 14 c.n 0).map (nxtM c Q (netM c W Q p)):=rfl
  obtain ⟨I0,hI00⟩ : ∃ I0,ini c p = I0:=⟨_,rfl⟩
  have hI00':=hI00
  have hini : ∀ i,I0 i ≤ 3:=fun i=>hI00 ▸ ini_le hp i
  rw [hMS]
  unfold ini at hI00'
  generalize ids 0 c.n 0 = I at ci hIl hI0 hI00'
  generalize ids 14 c.n 0 = S at cs hSl hS0 hI00' hdff ⊢
  rw [← hIl] at ci l0 hpi
  rw [← hSl] at cs l1 hps
  obtain ⟨N,hN⟩ : ∃ N,c.n.length = N:=⟨_,rfl⟩
  have hrd:=fun f (hf : ∀ i,i < c.n.length→f i ≤ 3) n (hn : n < c.n.length)=>reads_c c hg Q NF PF (by obtain ⟨f,x,rfl,h,-⟩:=hNW; exact ⟨by simp [V.pure,V.pureL,h],_,_,_,rfl⟩) hPQ f hf n hn
  have hev:=fun f (hf : ∀ i,i < c.n.length→f i ≤ 3) n (hn : n < c.n.length)=>evalC_c c hg Q NF PF (by obtain ⟨f,x,rfl,h,-⟩:=hNW; exact ⟨by simp [V.pure,V.pureL,h],_,_,_,rfl⟩) hPQ f hf n hn
  have hor:=order_c c hg.wf
  obtain ⟨f0,caps0,rfl,hcp0,hNW⟩:=hNW
  obtain ⟨f1,caps1,rfl,hcp1,hPQ⟩:=hPQ
  rw [hN] at hn1 hI0 hS0 l0 l1 hrd hev ⊢
  refine CallO.of_W ok85 rfl ?_
  simp [i85,x85,nop,cyV]
  intro gf1 gf2 gf3
  generalize gf1 3 = g3
  generalize gf2 4 = g4
  rw [hN]
  refine ⟨by omega,?_⟩
  generalize gf3 29 = g29
  refine CallO.pure cs (by simp) ?_
  simp [nop]
  refine CallO.pure ci (by simp) ?_
  simp
  refine LoopP.of (X:=Nat) (fun i=>[(43,natV i),(42,natV I.length),(41,.sl (natsV I) (some I.length)),(3,.ptr 3 g3 0 0),(4,.ptr 4 g4 0 0),(0,.ptr 900 g 0 0),(5,.sl (natsV S) (some S.length))])
    (fun i=>[(29,.row g29 1 (tU N (put (I.take i) (p.i.take i) (fun _=>0)))),(900,.row g 7 [cyV c (.ref 29 g29 0 N (some N)) (.fn f0 [] caps0) (.fn f1 [] caps1)]),(3,.row g3 2 [p.v]),(4,.row g4 2 [.agg [.nil,.nil]])])
    (fun i=>i ≤ I.length) (fun i=>I.length - i) 0 (Nat.zero_le _) (by simp [natV]) (by simp [put,tU,tab_const,u8V]; try rfl) ?_
  intro i hi
  simp [natV]
  refine BrB.of (fun hb=>?_) (fun hb=>?_)
  · have hi' : i < I.length:=of_decide_eq_true hb
    have hip : i < p.i.length:=by omega
    have hw:=wrapN i (by omega)
    obtain ⟨n,hn⟩ : ∃ n,I[i] = n:=⟨_,rfl⟩
    have hnN : n < N:=hI0 n (by rw [← hn]; exact List.getElem_mem hi')
    obtain ⟨x,hx⟩ : ∃ x,p.i[i] = x:=⟨_,rfl⟩
    have hpt:=put_take (f:=(fun _=>0)) i hpi.symm hi'
    rw [hn,hx] at hpt
    have hst:=tU_set N (put (I.take i) (p.i.take i) (fun _=>0)) n x
    rw [← hpt] at hst
    simp [hi',natsV_get,hn]
    intro gm
    simp [hip,hx,u8V,hnN,nop,tU_get,hst,hw]
    exact ⟨i + 1,hi',by simp,rfl,by omega⟩
  have hi' : i = I.length:=by have:=of_decide_eq_false hb; omega
  subst hi'
  rw [List.take_length,List.take_of_length_le (l:=p.i) (by omega)]
  generalize put I p.i (fun _=>0) = F0 at hI00' ⊢
  simp
  refine LoopP.of (X:=Nat) (fun i=>[(62,natV i),(61,natV S.length),(60,.sl (natsV S) (some S.length)),(3,.ptr 3 g3 0 0),(4,.ptr 4 g4 0 0),(0,.ptr 900 g 0 0),(5,.sl (natsV S) (some S.length))])
    (fun i=>[(29,.row g29 1 (tU N (put (S.take i) (p.s.take i) F0))),(900,.row g 7 [cyV c (.ref 29 g29 0 N (some N)) (.fn f0 [] caps0) (.fn f1 [] caps1)]),(3,.row g3 2 [p.v]),(4,.row g4 2 [.agg [.nil,.nil]])])
    (fun i=>i ≤ S.length) (fun i=>S.length - i) 0 (Nat.zero_le _) (by simp [natV]) (by simp [put,tU,u8V]; try rfl) ?_
  intro i hi
  simp [natV]
  refine BrB.of (fun hb=>?_) (fun hb=>?_)
  · have hi' : i < S.length:=of_decide_eq_true hb
    have hip : i < p.s.length:=by omega
    have hw:=wrapN i (by omega)
    obtain ⟨n,hn⟩ : ∃ n,S[i] = n:=⟨_,rfl⟩
    have hnN : n < N:=hS0 n (by rw [← hn]; exact List.getElem_mem hi')
    obtain ⟨x,hx⟩ : ∃ x,p.s[i] = x:=⟨_,rfl⟩
    have hpt:=put_take (f:=F0) i hps.symm hi'
    rw [hn,hx] at hpt
    have hst:=tU_set N (put (S.take i) (p.s.take i) F0) n x
    rw [← hpt] at hst
    simp [hi',natsV_get,hn]
    intro gm
    simp [hip,hx,u8V,hnN,nop,tU_get,hst,hw]
    exact ⟨i + 1,hi',by simp,rfl,by omega⟩
  have hi' : i = S.length:=by have:=of_decide_eq_false hb; omega
  subst hi'
  rw [List.take_length,List.take_of_length_le (l:=p.s) (by omega),hI00']
  simp [nop]
  refine CallO.own 1000 hor (by simp) (by simp) ?_
  rintro v h (⟨h1,-⟩ | ⟨-,gq,L,rfl,rfl,hR,hpw⟩) gf4
  · exact absurd hg.chk h1
  have hord : Ord c L:=⟨hR,hpw (by omega)⟩
  have hLl : L.length = c.n.length:=hR.len
  have hL3 : ∀ m i,evl (evM c W Q) (fun _=>true) (L.take m) I0 i ≤ 3:=fun m i=>evlM_le hW3 (L.take m) I0 hini i
  have hLW : netM c W Q p = evl (evM c W Q) (fun _=>true) L I0:=by unfold netM; rw [hord.eq,hI00]
  have hLN : ∀ x ∈ L,x < N:=fun x hx=>by rw [← hN]; exact hR.lt x hx
  simp [upH,upS,Blk.rn,map_rn_pure (natsV_pure L)]
  generalize gf4 1000 + gq = g9
  rw [hN] at hLl ⊢
  refine LoopP.of (X:=Nat) (fun i=>[(91,natV i),(90,natV N),(89,.ref 1000 g9 0 N (some N)),(12,.fn 129 [.ptr 900 g 0 0] []),(4,.ptr 4 g4 0 0),(0,.ptr 900 g 0 0),(5,.sl (natsV S) (some S.length))])
    (fun i=>[(29,.row g29 1 (tU N (evl (evM c W Q) (fun _=>true) (L.take i) I0))),(1000,.row g9 1 (natsV L)),(900,.row g 7 [cyV c (.ref 29 g29 0 N (some N)) (.fn f0 [] caps0) (.fn f1 [] caps1)]),(4,.row g4 2 [.agg [.nil,.nil]])])
    (fun i=>i ≤ N) (fun i=>N - i) 0 (Nat.zero_le _) (by simp [natV]) (by simp [evl]; try rfl) ?_
  intro i hi
  have hF3:=hL3 i
  obtain ⟨F,hF⟩ : ∃ F,evl (evM c W Q) (fun _=>true) (L.take i) I0 = F:=⟨_,rfl⟩
  rw [hF] at hF3 ⊢
  simp [natV]
  refine BrB.of (fun hb=>?_) (fun hb=>?_)
  · have hi' : i < N:=of_decide_eq_true hb
    have hw:=wrapN i (by omega)
    have hiL : i < L.length:=by omega
    obtain ⟨n,hn⟩ : ∃ n,L[i] = n:=⟨_,rfl⟩
    have hnN : n < N:=hLN n (by rw [← hn]; exact List.getElem_mem hiL)
    have hnc : n < c.n.length:=by omega
    obtain ⟨y,hy⟩ : ∃ y,c.n[n] = y:=⟨_,rfl⟩
    have hyk:=hg.wf.k y (by rw [← hy]; exact List.getElem_mem hnc)
    have hy15:=hg.k y (by rw [← hy]; exact List.getElem_mem hnc)
    have hyz:=(nd_zero ((sh_zero hg.sh).2.2.1 y (by rw [← hy]; exact List.getElem_mem hnc))).1
    have hst : evl (evM c W Q) (fun _=>true) (L.take (i + 1)) I0 = upd1 F n (evM c W Q n F):=by
      rw [List.take_succ_eq_append_getElem hiL,hn,evl_snoc,hF,if_pos rfl]
    have hcb : combC c n = decide (1 ≤ y.k∧y.k ≤ 13):=by unfold combC combB; rw [c.nd_get hnc,hy]
    have hevn:=hev F (fun i _=>hF3 i) n hnN
    rw [c.nd_get hnc,hy] at hevn
    obtain ⟨E,hE⟩ : ∃ E,logE y.k.toNat (rdsM c Q n F) = E:=⟨_,rfl⟩
    have hE3 : E ≤ 3:=by rw [← hE]; exact logE_le _ _
    rw [hE] at hevn
    have hem : evM c W Q n F = W n (if combC c n = true then E else F n):=by unfold evM; rw [c.nd_get hnc,hy,hE]
    rw [hem] at hst
    simp only [u8V,natV] at hevn
    by_cases hcomb : 1 ≤ y.k∧y.k ≤ 13
    case' pos=>
      rw [hcb,decide_eq_true hcomb,if_pos rfl] at hst
      have hx0:=hNW n E (by omega) hE3
      obtain ⟨x,hx⟩ : ∃ x,W n E = x:=⟨_,rfl⟩
      rw [hx] at hx0 hst
      have hs1:=tU_set N F n E
      have hs2:=tU_set N (upd1 F n E) n x
      have hs3 : upd1 (upd1 F n E) n x = upd1 F n x:=by
        funext j
        by_cases hj : j = n
        · subst hj; simp
        · rw [upd1_ne _ _ hj,upd1_ne _ _ hj,upd1_ne _ _ hj]
      rw [hs3,← hst] at hs2
      simp only [u8V,natV] at hx0
      simp [hi',hLl,natsV_get,hn,hnc,hy,nop,show ¬ y.k = 0 by omega,show ¬ y.k = 14 by omega]
      intro gm
      first | refine ⟨_,_,_,.borrow 3 hevn ?_ rfl,?_⟩ | refine ⟨_,⟨_,_,.borrow 3 hevn ?_ rfl⟩,?_⟩ | refine ⟨_,_,⟨_,.borrow 3 hevn ?_ rfl⟩,?_⟩
      · simp only [List.map_cons,List.map_nil]
        rw [frz_cy (c:=c) (g29:=g29) (F:=F) (NF:=.fn f0 [] caps0) (PF:=.fn f1 [] caps1) (by simp; try rfl) (by simp ) (by simp [V.pure,V.pureL,hcp0]) (by simp [V.pure,V.pureL,hcp1]),frz_pure _ _ rfl]
      simp [hnN,tU_get,u8V,hs1,nop]
      refine ⟨by simp [indAll,snocF,indF,memN],?_⟩
      intro gm2
      first | refine ⟨_,_,_,.pure hx0 (by simp [V.pureL,V.pure,hcp0]),?_⟩ | refine ⟨_,⟨_,_,.pure hx0 (by simp [V.pureL,V.pure,hcp0])⟩,?_⟩ | refine ⟨_,_,⟨_,.pure hx0 (by simp [V.pureL,V.pure,hcp0])⟩,?_⟩
      simp [hnN,tU_get,u8V,hs2,hw]
      exact ⟨by simp [indAll,snocF,indF,memN],i + 1,hi',by simp,rfl,by omega⟩
    case' neg=>
      rw [hcb,decide_eq_false hcomb,if_neg (by simp)] at hst
      have hx0:=hNW n (F n) (by omega) (hF3 n)
      obtain ⟨fv,hfv⟩ : ∃ fv,F n = fv:=⟨_,rfl⟩
      rw [hfv] at hx0 hst
      obtain ⟨x,hx⟩ : ∃ x,W n fv = x:=⟨_,rfl⟩
      rw [hx] at hx0 hst
      have hs2:=tU_set N F n x
      rw [← hst] at hs2
      simp only [u8V,natV] at hx0
      have hk2 : y.k = 0∨y.k = 14:=by have:=hyk.1; omega
      rcases hk2 with hk2 | hk2
      all_goals
        simp [hi',hLl,natsV_get,hn,hnc,hy,nop,hk2,hnN,tU_get,hfv,u8V]
        intro gm2
        first | refine ⟨_,_,_,.pure hx0 (by simp [V.pureL,V.pure,hcp0]),?_⟩ | refine ⟨_,⟨_,_,.pure hx0 (by simp [V.pureL,V.pure,hcp0])⟩,?_⟩ | refine ⟨_,_,⟨_,.pure hx0 (by simp [V.pureL,V.pure,hcp0])⟩,?_⟩
        simp [hnN,tU_get,u8V,hs2,hw]
        exact ⟨by simp [indAll,snocF,indF,memN],i + 1,hi',by simp,rfl,by omega⟩
  have hi' : i = N:=by have:=of_decide_eq_false hb; omega
  subst hi'
  rw [List.take_of_length_le (by omega),← hLW] at hF
  rw [hF]
  obtain ⟨G,hG⟩ : ∃ G : Int→Nat,G = fun n=>F n.toNat:=⟨_,rfl⟩
  have hO : obsMO c F = c.o.map G:=by rw [hG]; rfl
  obtain ⟨T,hT⟩ : ∃ T : Nat→Nat,T = nxtM c Q F:=⟨_,rfl⟩
  rw [hO,← hT]
  simp [nop]
  intro gf16
  generalize gf16 16 = g16
  have hNPc : (V.fn f0 [] caps0).pure = true∧(V.fn f1 [] caps1).pure = true:=⟨by simp [V.pure,V.pureL,hcp0],by simp [V.pure,V.pureL,hcp1]⟩
  refine LoopP.of (X:=Nat × Option (Nat × List V)) (fun z=>[(145,natV z.1),(144,natV c.o.length),(143,.sl (ints c.o) none),(16,.ptr 16 g16 0 0),(4,.ptr 4 g4 0 0),(0,.ptr 900 g 0 0),(5,.sl (natsV S) (some S.length))])
    (fun z=>[(16,.row g16 2 [.agg [accV 159 z.2,.nil]]),(29,.row g29 1 (tU i F)),(900,.row g 7 [cyV c (.ref 29 g29 0 i (some i)) (.fn f0 [] caps0) (.fn f1 [] caps1)]),(4,.row g4 2 [.agg [.nil,.nil]])] ++ accH 159 1 z.2)
    (fun z=>z.1 ≤ c.o.length∧(z.2 = none↔z.1 = 0)∧accL z.2 = ((c.o.take z.1).map G).map u8V) (fun z=>c.o.length - z.1) (0,none) ⟨by simp,by simp,by simp [accL]⟩ (by simp [natV]) (by simp [accV,accH]) ?_
  rintro ⟨m,acc⟩ ⟨q1,q2,q3⟩
  dsimp only at q1 q2 q3 ⊢
  simp [natV]
  refine BrB.of (fun hb=>?_) (fun hb=>?_)
  · have hm : m < c.o.length:=of_decide_eq_true hb
    have hw:=wrapN m (by omega)
    obtain ⟨y,hy⟩ : ∃ y,c.o[m] = y:=⟨_,rfl⟩
    obtain ⟨y0,y1⟩:=hg.o (x:=y) (by rw [← hy]; exact List.getElem_mem hm)
    obtain ⟨n,rfl⟩:=Int.eq_ofNat_of_zero_le y0
    have hnN : n < i:=by omega
    have hGn : G (n : Int) = F n:=by rw [hG]; rfl
    obtain ⟨x,hx⟩ : ∃ x,F n = x:=⟨_,rfl⟩
    have hnx:=congrArg (List.map u8V) (map_take_succ G hm hy)
    rw [List.map_append,← q3,hGn,hx] at hnx
    simp only [List.map_cons,List.map_nil,u8V] at hnx
    rcases acc with _ | ⟨ga,r⟩
    · simp [accV,accH,hm,ints_getE,hy,nop]
      intro gm
      simp [hnN,tU_get,hx,u8V,hw]
      exact ⟨rfl,m + 1,some (gm 159,[.int .u8 (x : Int)]),⟨hm,by simp,by simpa [accL,u8V] using hnx.symm⟩,by simp,by simp,by omega⟩
    · simp only [accL] at q3 hnx
      simp [accV,accH,hm,ints_getE,hy,nop]
      intro gm
      simp [hnN,tU_get,hx,u8V,hw]
      refine ⟨by have:=congrArg List.length q3; simp at this; omega,rfl,m + 1,some (ga + 1,r ++ [.int .u8 (x : Int)]),⟨hm,by simp,by simpa [accL,u8V] using hnx.symm⟩,by simp,by simp,by omega⟩
  have hm : m = c.o.length:=by have:=of_decide_eq_false hb; omega
  subst hm
  rw [List.take_length] at q3
  simp
  refine LoopP.ofF (X:=Nat × Option (Nat × List V)) (fun z=>[(164,natV z.1),(163,natV S.length),(162,.sl (natsV S) (some S.length)),(16,.ptr 16 g16 0 0),(4,.ptr 4 g4 0 0),(0,.ptr 900 g 0 0)])
    (fun z=>[(16,.row g16 2 [.agg [accV 159 acc,accV 179 z.2]]),(29,.row g29 1 (tU i F)),(900,.row g 7 [cyV c (.ref 29 g29 0 i (some i)) (.fn f0 [] caps0) (.fn f1 [] caps1)]),(4,.row g4 2 [.agg [.nil,.nil]])] ++ (accH 159 1 acc ++ accH 179 1 z.2))
    (fun z=>z.1 ≤ S.length∧(z.2 = none↔z.1 = 0)∧accL z.2 = ((S.take z.1).map T).map u8V) (fun z=>S.length - z.1) (.done ⟨(0,none),⟨by simp,by simp,by simp [accL]⟩,by simp [natV],?_⟩) ?_
  · rcases acc with _ | ⟨ga,r⟩ <;> simp [accV,accH]
  rintro ⟨m,acc2⟩ ⟨p1,p2,p3⟩
  dsimp only at p1 p2 p3 ⊢
  simp [natV]
  refine BrB.of (fun hb2=>?_) (fun hb2=>?_)
  · have hm : m < S.length:=of_decide_eq_true hb2
    have hw:=wrapN m (by omega)
    obtain ⟨n,hn⟩ : ∃ n,S[m] = n:=⟨_,rfl⟩
    obtain ⟨hnc,x,hxi,x0,x1,-⟩:=hdff n (by rw [← hn]; exact List.getElem_mem hm)
    have hnN : n < i:=by omega
    have hrdn:=hrd F (fun j _=>hF3 j) n hnN
    obtain ⟨q,hq⟩ : ∃ q,rdsM c Q n F = [q]:=by
      have:=rdsM_len c Q n F
      rw [c.nd_get hnc,hxi] at this
      match hR : rdsM c Q n F,this with
      | [q],_=>exact ⟨q,rfl⟩
    rw [hq] at hrdn
    have hTn : T n = if q = 3 then 2 else q:=by rw [hT]; simp only [nxtM]; rw [hq]; rfl
    have hnx:=congrArg (List.map u8V) (map_take_succ T hm hn)
    rw [List.map_append,← p3,hTn] at hnx
    simp only [List.map_cons,List.map_nil,u8V] at hnx hrdn
    have hfz : ∀ h : Hp,lk h 900 = some (.row g 7 [cyV c (.ref 29 g29 0 i (some i)) (.fn f0 [] caps0) (.fn f1 [] caps1)])→lk h 29 = some (.row g29 1 (tU i F))→[V.ptr 900 g 0 0,natV n].map (frz h 3) = [.iptr (cyV c (.sl (tU i F) (some i)) (.fn f0 [] caps0) (.fn f1 [] caps1)) 0,natV n]:=fun h h1 h2=>by
      simp only [List.map_cons,List.map_nil]
      rw [frz_cy h1 h2 hNPc.1 hNPc.2,frz_pure _ _ rfl]
    simp only [natV] at hfz hrdn
    rcases acc2 with _ | ⟨gb,rb⟩ <;> rcases acc with _ | ⟨ga,ra⟩
    all_goals
      simp [accV,accH,hm,natsV_get,hn]
      refine CallO.dat 3 hrdn (hfz _ (by simp) (by simp)) ?_
      simp
      refine BrB.of (fun h3=>?_) (fun h3=>?_)
    · have h4 : q = 3:=by have:=of_decide_eq_true h3; omega
      rw [if_pos h4] at hnx
      simp
      (intro ga1 gb1; exact .done ⟨m + 1,some (gb1 179,[.int .u8 2]),⟨hm,by simp,by simpa [accL,u8V] using hnx.symm⟩,by simp [hw],by simp,by omega⟩)
    · have h4 : ¬ q = 3:=by have:=of_decide_eq_false h3; omega
      rw [if_neg h4] at hnx
      simp
      (intro ga1 gb1; exact .done ⟨m + 1,some (gb1 179,[.int .u8 (q : Int)]),⟨hm,by simp,by simpa [accL,u8V] using hnx.symm⟩,by simp [hw],by simp,by omega⟩)
    · have h4 : q = 3:=by have:=of_decide_eq_true h3; omega
      rw [if_pos h4] at hnx
      simp
      (intro ga1 gb1; exact .done ⟨m + 1,some (gb1 179,[.int .u8 2]),⟨hm,by simp,by simpa [accL,u8V] using hnx.symm⟩,by simp [hw],by simp,by omega⟩)
    · have h4 : ¬ q = 3:=by have:=of_decide_eq_false h3; omega
      rw [if_neg h4] at hnx
      simp
      (intro ga1 gb1; exact .done ⟨m + 1,some (gb1 179,[.int .u8 (q : Int)]),⟨hm,by simp,by simpa [accL,u8V] using hnx.symm⟩,by simp [hw],by simp,by omega⟩)
    · have h4 : q = 3:=by have:=of_decide_eq_true h3; omega
      rw [if_pos h4] at hnx
      simp
      (intro ga1 gb1; exact ⟨by have:=congrArg List.length p3; simp [accL] at this; omega,.done ⟨m + 1,some (gb1 179,rb ++ [.int .u8 2]),⟨hm,by simp,by simpa [accL,u8V] using hnx.symm⟩,by simp [hw],by simp,by omega⟩⟩)
    · have h4 : ¬ q = 3:=by have:=of_decide_eq_false h3; omega
      rw [if_neg h4] at hnx
      simp
      (intro ga1 gb1; exact ⟨by have:=congrArg List.length p3; simp [accL] at this; omega,.done ⟨m + 1,some (gb1 179,rb ++ [.int .u8 (q : Int)]),⟨hm,by simp,by simpa [accL,u8V] using hnx.symm⟩,by simp [hw],by simp,by omega⟩⟩)
    · have h4 : q = 3:=by have:=of_decide_eq_true h3; omega
      rw [if_pos h4] at hnx
      simp
      (intro ga1 gb1; exact ⟨by have:=congrArg List.length p3; simp [accL] at this; omega,.done ⟨m + 1,some (gb1 179,rb ++ [.int .u8 2]),⟨hm,by simp,by simpa [accL,u8V] using hnx.symm⟩,by simp [hw],by simp,by omega⟩⟩)
    · have h4 : ¬ q = 3:=by have:=of_decide_eq_false h3; omega
      rw [if_neg h4] at hnx
      simp
      (intro ga1 gb1; exact ⟨by have:=congrArg List.length p3; simp [accL] at this; omega,.done ⟨m + 1,some (gb1 179,rb ++ [.int .u8 (q : Int)]),⟨hm,by simp,by simpa [accL,u8V] using hnx.symm⟩,by simp [hw],by simp,by omega⟩⟩)
  have hm : m = S.length:=by have:=of_decide_eq_false hb2; omega
  subst hm
  rw [List.take_length] at p3
  have hcO:=clip_c (c.o.map G) none (by simp; omega)
  have hcS:=clip_c (S.map T) none (by simp; omega)
  have hOl : (c.o.map G).length = c.o.length:=by simp
  generalize c.o.map G = O at q3 hcO hOl ⊢
  generalize S.map T = U at p3 hcS ⊢
  have htO : List.take O.length (O.map u8V) = O.map u8V:=List.take_of_length_le (by simp)
  have htU : List.take U.length (U.map u8V) = U.map u8V:=List.take_of_length_le (by simp)
  have hfz1:=fun (es : List V) (g' : Nat)=>fz_cy (b:=159) (g:=g') (g29:=g29) (N:=i) (es:=es) (c:=c) (cap:=some i) (by simp) hNPc.1 hNPc.2
  have hfz2:=fun (es : List V) (g' : Nat)=>fz_cy (b:=179) (g:=g') (g29:=g29) (N:=i) (es:=es) (c:=c) (cap:=some i) (by simp) hNPc.1 hNPc.2
  rcases acc with _ | ⟨ga,ra⟩ <;> rcases acc2 with _ | ⟨gb,rb⟩
  · have hO : O = []:=by simpa [accL] using q3.symm
    subst hO
    have hU : U = []:=by simpa [accL] using p3.symm
    subst hU
    simp [accV,accH]
    refine .mk [(16,.ptr 16 g16 0 0),(4,.ptr 4 g4 0 0)] [(16,.row g16 2 [.agg [.nil,.nil]]),(29,.row g29 1 (tU i F)),(900,.row g 7 [cyV c (.ref 29 g29 0 i (some i)) (.fn f0 [] caps0) (.fn f1 [] caps1)]),(4,.row g4 2 [.agg [.nil,.nil]])] (by simp) (by simp) (.done ?_)
    simp
    intro gm
    first | refine ⟨_,_,_,.pure clip0_c (by simp),?_⟩ | refine ⟨_,⟨_,_,.pure clip0_c (by simp)⟩,?_⟩ | refine ⟨_,_,⟨_,.pure clip0_c (by simp)⟩,?_⟩
    simp
    first | refine ⟨_,_,_,.pure clip0_c (by simp),?_⟩ | refine ⟨_,⟨_,_,.pure clip0_c (by simp)⟩,?_⟩ | refine ⟨_,_,⟨_,.pure clip0_c (by simp)⟩,?_⟩
    simp [rspV]
    refine ⟨rfl,.done ?_⟩
    simp
    first | exact ⟨[(900,.row g 7 [cyV c (.ref 29 g29 0 i (some i)) (.fn f0 [] caps0) (.fn f1 [] caps1)]),(29,.row g29 1 (tU i F))],⟨by simp; try rfl,g29,rfl⟩⟩ | exact ⟨[(900,.row g 7 [cyV c (.ref 29 g29 0 i (some i)) (.fn f0 [] caps0) (.fn f1 [] caps1)]),(29,.row g29 1 (tU i F))],by simp; try rfl,g29,rfl⟩
  · have hO : O = []:=by simpa [accL] using q3.symm
    subst hO
    simp only [accL] at p3
    subst p3
    simp [accV,accH]
    refine .mk [(16,.ptr 16 g16 0 0),(4,.ptr 4 g4 0 0)] [(16,.row g16 2 [.agg [.nil,.ref 179 gb 0 U.length none]]),(29,.row g29 1 (tU i F)),(900,.row g 7 [cyV c (.ref 29 g29 0 i (some i)) (.fn f0 [] caps0) (.fn f1 [] caps1)]),(4,.row g4 2 [.agg [.nil,.nil]]),(179,.row gb 1 (U.map u8V))] (by simp) (by simp) (.frz (g:=gb) (sz:=1) (es:=U.map u8V) 179 (by simp) (u8s_pure U) (.done ?_))
    simp [fzF,fzH,fzV,fzf,fzp,Blk.fz,htU,hfz2,map_fzV (tU_pure i F)]
    intro gm
    first | refine ⟨_,_,_,.pure clip0_c (by simp),?_⟩ | refine ⟨_,⟨_,_,.pure clip0_c (by simp)⟩,?_⟩ | refine ⟨_,_,⟨_,.pure clip0_c (by simp)⟩,?_⟩
    simp
    first | refine ⟨_,_,_,.pure hcS (by simp),?_⟩ | refine ⟨_,⟨_,_,.pure hcS (by simp)⟩,?_⟩ | refine ⟨_,_,⟨_,.pure hcS (by simp)⟩,?_⟩
    simp [rspV]
    refine ⟨rfl,.done ?_⟩
    simp
    first | exact ⟨[(900,.row g 7 [cyV c (.ref 29 g29 0 i (some i)) (.fn f0 [] caps0) (.fn f1 [] caps1)]),(29,.row g29 1 (tU i F))],⟨by simp; try rfl,g29,rfl⟩⟩ | exact ⟨[(900,.row g 7 [cyV c (.ref 29 g29 0 i (some i)) (.fn f0 [] caps0) (.fn f1 [] caps1)]),(29,.row g29 1 (tU i F))],by simp; try rfl,g29,rfl⟩
  · simp only [accL] at q3
    subst q3
    have hU : U = []:=by simpa [accL] using p3.symm
    subst hU
    simp [accV,accH]
    refine .mk [(16,.ptr 16 g16 0 0),(4,.ptr 4 g4 0 0)] [(16,.row g16 2 [.agg [.ref 159 ga 0 O.length none,.nil]]),(29,.row g29 1 (tU i F)),(900,.row g 7 [cyV c (.ref 29 g29 0 i (some i)) (.fn f0 [] caps0) (.fn f1 [] caps1)]),(4,.row g4 2 [.agg [.nil,.nil]]),(159,.row ga 1 (O.map u8V))] (by simp) (by simp) (.frz (g:=ga) (sz:=1) (es:=O.map u8V) 159 (by simp) (u8s_pure O) (.done ?_))
    simp [fzF,fzH,fzV,fzf,fzp,Blk.fz,htO,hfz1,map_fzV (tU_pure i F)]
    intro gm
    first | refine ⟨_,_,_,.pure hcO (by simp),?_⟩ | refine ⟨_,⟨_,_,.pure hcO (by simp)⟩,?_⟩ | refine ⟨_,_,⟨_,.pure hcO (by simp)⟩,?_⟩
    simp
    first | refine ⟨_,_,_,.pure clip0_c (by simp),?_⟩ | refine ⟨_,⟨_,_,.pure clip0_c (by simp)⟩,?_⟩ | refine ⟨_,_,⟨_,.pure clip0_c (by simp)⟩,?_⟩
    simp [rspV]
    refine ⟨rfl,.done ?_⟩
    simp
    first | exact ⟨[(900,.row g 7 [cyV c (.ref 29 g29 0 i (some i)) (.fn f0 [] caps0) (.fn f1 [] caps1)]),(29,.row g29 1 (tU i F))],⟨by simp; try rfl,g29,rfl⟩⟩ | exact ⟨[(900,.row g 7 [cyV c (.ref 29 g29 0 i (some i)) (.fn f0 [] caps0) (.fn f1 [] caps1)]),(29,.row g29 1 (tU i F))],by simp; try rfl,g29,rfl⟩
  · simp only [accL] at q3
    subst q3
    simp only [accL] at p3
    subst p3
    simp [accV,accH]
    refine .mk [(16,.ptr 16 g16 0 0),(4,.ptr 4 g4 0 0)] [(16,.row g16 2 [.agg [.ref 159 ga 0 O.length none,.ref 179 gb 0 U.length none]]),(29,.row g29 1 (tU i F)),(900,.row g 7 [cyV c (.ref 29 g29 0 i (some i)) (.fn f0 [] caps0) (.fn f1 [] caps1)]),(4,.row g4 2 [.agg [.nil,.nil]]),(159,.row ga 1 (O.map u8V)),(179,.row gb 1 (U.map u8V))] (by simp) (by simp) (.frz (g:=ga) (sz:=1) (es:=O.map u8V) 159 (by simp) (u8s_pure O) (.frz (g:=gb) (sz:=1) (es:=U.map u8V) 179 (by simp [fzH,Blk.fz,map_fzV (u8s_pure U)]) (u8s_pure U) (.done ?_)))
    simp [fzF,fzH,fzV,fzf,fzp,Blk.fz,htO,htU,mapRL_pure,hfz1,hfz2,map_fzV (tU_pure i F)]
    intro gm
    first | refine ⟨_,_,_,.pure hcO (by simp),?_⟩ | refine ⟨_,⟨_,_,.pure hcO (by simp)⟩,?_⟩ | refine ⟨_,_,⟨_,.pure hcO (by simp)⟩,?_⟩
    simp
    first | refine ⟨_,_,_,.pure hcS (by simp),?_⟩ | refine ⟨_,⟨_,_,.pure hcS (by simp)⟩,?_⟩ | refine ⟨_,_,⟨_,.pure hcS (by simp)⟩,?_⟩
    simp [rspV]
    refine ⟨rfl,.done ?_⟩
    simp
    first | exact ⟨[(900,.row g 7 [cyV c (.ref 29 g29 0 i (some i)) (.fn f0 [] caps0) (.fn f1 [] caps1)]),(29,.row g29 1 (tU i F))],⟨by simp; try rfl,g29,rfl⟩⟩ | exact ⟨[(900,.row g 7 [cyV c (.ref 29 g29 0 i (some i)) (.fn f0 [] caps0) (.fn f1 [] caps1)]),(29,.row g29 1 (tU i F))],by simp; try rfl,g29,rfl⟩
end Go.Proofs.YtlmniacemoohpaaGreatDoor
