/- Faults: the machine that evaluates nets by recursion. Conditions: none. -/
import Derived.Test.YtekbgkainigfnaaGreatDoorU5
set_option linter.unusedSimpArgs false
set_option linter.unusedVariables false
namespace Go.Proofs.YtekbgkainigfnaaGreatDoor
open Go
theorem put_get {n v : Nat} : ∀ (ns vs : List Nat) (f : Nat→Nat) (j : Nat) (h : j < ns.length) (h' : j < vs.length),ns.Nodup→ns[j] = n→vs[j] = v→put ns vs f n = v
  | [],_,_,j,h,_,_,_,_=>by simp at h
  | _ :: _,[],_,j,_,h',_,_,_=>by simp at h'
  | m :: ns,w :: vs,f,0,_,_,hd,e1,e2=>by
    simp only [List.getElem_cons_zero] at e1 e2
    subst e1 e2
    rw [put,put_ne _ _ _ (List.nodup_cons.1 hd).1,upd1_same]
  | m :: ns,w :: vs,f,j + 1,h,h',hd,e1,e2=>by
    rw [put]
    exact put_get ns vs _ j (by simpa using h) (by simpa using h') (List.nodup_cons.1 hd).2 (by simpa using e1) (by simpa using e2)
theorem ids_pw (k : Int) : ∀ (l : List Nd) (i : Nat),(∀ x ∈ ids k l i,i ≤ x)∧(ids k l i).Nodup
  | [],i=>⟨by simp [ids],by simp [ids]⟩
  | n :: r,i=>by
    obtain ⟨h1,h2⟩:=ids_pw k r (i + 1)
    simp only [ids]
    split
    · refine ⟨fun x hx=>?_,List.nodup_cons.2 ⟨fun h=>?_,h2⟩⟩
      · rcases List.mem_cons.1 hx with rfl | hx
        · omega
        · have:=h1 x hx; omega
      · have:=h1 _ h; omega
    · exact ⟨fun x hx=>by have:=h1 x hx; omega,h2⟩
theorem ids_pos {k : Int} {l : List Nd} {n : Nat} (hn : n ∈ ids k l 0) : ∃ j,∃ h : j < (ids k l 0).length,(ids k l 0)[j] = n∧idR (n : Int) ((ids k l 0).map fun x : Nat=>(x : Int)) = (j : Int):=by
  generalize ids k l 0 = L at hn ⊢
  have hlt : fidx (n : Int) (L.map fun x : Nat=>(x : Int)) < (L.map fun x : Nat=>(x : Int)).length:=by
    by_cases h : fidx (n : Int) (L.map fun x : Nat=>(x : Int)) < (L.map fun x : Nat=>(x : Int)).length
    · exact h
    · exfalso
      obtain ⟨j,hj,e⟩:=List.getElem_of_mem hn
      exact fidx_ne (n : Int) (L.map fun x : Nat=>(x : Int)) j (by simpa using hj) (by simp at h ⊢; omega) (by simp [e])
  have hg:=fidx_get _ _ hlt
  refine ⟨fidx (n : Int) (L.map fun x : Nat=>(x : Int)),by simpa using hlt,?_,by unfold idR; rw [if_pos hlt]⟩
  simpa using hg
theorem ini_in {c : Ci} {p : Pt} (hp : p.fit c) {n j : Nat} (h : j < (ids 0 c.n 0).length) (e : (ids 0 c.n 0)[j] = n) : ∃ h' : j < p.i.length,p.i[j] = ini c p n:=by
  have h' : j < p.i.length:=by rw [hp.i]; exact h
  refine ⟨h',?_⟩
  have hn : n ∈ ids 0 c.n 0:=by rw [← e]; exact List.getElem_mem h
  obtain ⟨hl,hk⟩:=ids_lt hn
  have hn2 : n ∉ ids 14 c.n 0:=fun q=>by obtain ⟨_,hk2⟩:=ids_lt q; rw [hk] at hk2; cases hk2
  unfold ini
  rw [put_ne _ _ _ hn2]
  exact (put_get _ _ _ j h h' (ids_pw 0 c.n 0).2 e rfl).symm
theorem ini_st {c : Ci} {p : Pt} (hp : p.fit c) {n j : Nat} (h : j < (ids 14 c.n 0).length) (e : (ids 14 c.n 0)[j] = n) : ∃ h' : j < p.s.length,p.s[j] = ini c p n:=by
  have h' : j < p.s.length:=by rw [hp.s]; exact h
  refine ⟨h',?_⟩
  unfold ini
  exact (put_get _ _ _ j h h' (ids_pw 14 c.n 0).2 e rfl).symm
theorem ids_of {c : Ci} {n : Nat} (hn : n < c.n.length) {k : Int} (hk : (c.nd n).k = k) : n ∈ ids k c.n 0:=by
  rw [ids_mem]
  exact ⟨n,hn,by omega,by rw [← c.nd_get hn]; exact hk⟩
def Ft.mG (c : Ci) (f : Ft) (A : Nat→Nat) : Nat→Nat:=if f.m = 0 then fun _=>f.v else fun v=>logE (if f.v = 1 then 5 else 7) [A (f.net c),v]
def Ft.mW (c : Ci) (f : Ft) (A : Nat→Nat) : Nat→Nat→Nat:=if f.m < 2 then atW f (f.mG c A) else if f.m = 2 then wiW f A else atW f fun _=>A f.o
def Ft.mQ (c : Ci) (f : Ft) (A : Nat→Nat) : Nat→Nat→Nat→Nat:=if f.m < 2 then atQ f (f.mG c A) else idQ
structure Ft.okM (c : Ci) (f : Ft) : Prop where
  n : f.n < c.n.length
  q : f.q ≤ (c.nd f.n).i.length
  v : f.v ≤ 1
  m : f.m ≤ 3
  o : f.o < c.n.length
  b : 2 ≤ f.m→f.q = 0
def mV (c : Ci) (p : Pt) (f : Ft) (A : Nat→Nat) (d n : V) : V:=.agg [.sl (c.n.map Nd.v) none,.sl (c.s.map .str) none,.sl (c.m.map Md.v) none,.sl (ints c.o) none,.sl (p.i.map u8V) none,.sl (p.s.map u8V) none,u8V f.m,natV f.n,.int .i64 f.pin,u8V f.v,natV f.o,.sl (tU c.n.length A) (some c.n.length),d,n]
def mS (M : Nat→Nat) (D : Nat→Bool) : Nat→Nat:=fun i=>if D i = true then M i else 0
def mH (c : Ci) (p : Pt) (f : Ft) (A M : Nat→Nat) (g gd gn : Nat) (D : Nat→Bool) : Hp:=
  [(30,.row g 14 [mV c p f A (.ref 24 gd 0 c.n.length (some c.n.length)) (.ref 28 gn 0 c.n.length (some c.n.length))]),(24,.row gd 1 (boolsV c.n.length D)),(28,.row gn 1 (tU c.n.length (mS M D)))]
@[simp] theorem mV_cells (c : Ci) (p : Pt) (f : Ft) (A : Nat→Nat) (d n : V) : (mV c p f A d n).cells = [.sl (c.n.map Nd.v) none,.sl (c.s.map .str) none,.sl (c.m.map Md.v) none,.sl (ints c.o) none,.sl (p.i.map u8V) none,.sl (p.s.map u8V) none,u8V f.m,natV f.n,.int .i64 f.pin,u8V f.v,natV f.o,.sl (tU c.n.length A) (some c.n.length),d,n]:=rfl
@[simp] theorem mV_ok (c : Ci) (p : Pt) (f : Ft) (A : Nat→Nat) (a b : List V) (x y : Option Nat) : (mV c p f A (.sl a x) (.sl b y)).cellsOk = true:=rfl
def clD (c : Ci) (D : Nat→Bool) : Prop:=∀ x,x < c.n.length→D x = true→∀ y ∈ c.g x,D y = true
def exD (c : Ci) (D : Nat→Bool) (n : Nat) : Nat→Bool:=fun i=>D i || dep c (c.n.length + 1) n i
def exL (c : Ci) (D : Nat→Bool) (l : List Nat) : Nat→Bool:=fun i=>D i || l.any fun n=>dep c (c.n.length + 1) n i
theorem exL_nil (c : Ci) (D : Nat→Bool) : exL c D [] = D:=by funext i; simp [exL]
theorem exL_snoc (c : Ci) (D : Nat→Bool) (l : List Nat) (n : Nat) : exD c (exL c D l) n = exL c D (l ++ [n]):=by
  funext i; simp [exL,exD,Bool.or_assoc]
theorem dep_closed {c : Ci} (hg : c.good) {n x y : Nat} (hn : n < c.n.length) (hx : dep c (c.n.length + 1) n x = true) (hy : y ∈ c.g x) : dep c (c.n.length + 1) n y = true:=by
  rw [dep_iff hg hn] at hx ⊢
  exact hx.tail hy
theorem clD_ex {c : Ci} (hg : c.good) {D : Nat→Bool} (hD : clD c D) {n : Nat} (hn : n < c.n.length) : clD c (exD c D n):=fun x hxN hx y hy=>by
  simp only [exD,Bool.or_eq_true] at hx ⊢
  rcases hx with hx | hx
  · exact .inl (hD x hxN hx y hy)
  · exact .inr (dep_closed hg hn hx hy)
theorem clD_exL {c : Ci} (hg : c.good) {D : Nat→Bool} (hD : clD c D) {l : List Nat} (hl : ∀ n ∈ l,n < c.n.length) : clD c (exL c D l):=fun x hxN hx y hy=>by
  simp only [exL,Bool.or_eq_true,List.any_eq_true] at hx ⊢
  rcases hx with hx | ⟨n,hn,hx⟩
  · exact .inl (hD x hxN hx y hy)
  · exact .inr ⟨n,hn,dep_closed hg (hl n hn) hx hy⟩
theorem exD_old {c : Ci} (hg : c.good) {D : Nat→Bool} (hD : clD c D) {n : Nat} (hn : n < c.n.length) (h : D n = true) : exD c D n = D:=by
  funext i
  unfold exD
  cases hd : dep c (c.n.length + 1) n i
  · simp
  · rw [dep_iff hg hn] at hd
    have:=hd.closed (S:=fun x=>x < c.n.length∧D x = true) (fun x hx y hy=>⟨hg.val.g x hx.1 y hy,hD x hx.1 hx.2 y hy⟩) ⟨hn,h⟩
    rw [this.2]; rfl
theorem exD_new {c : Ci} (hg : c.good) (D : Nat→Bool) {n : Nat} (hn : n < c.n.length) : upd1 (exL c D (c.g n)) n true = exD c D n:=by
  funext i
  have e : dep c (c.n.length + 1) n i = (decide (n = i) || (c.g n).any fun x=>dep c (c.n.length + 1) x i):=by
    rw [Bool.eq_iff_iff,dep_iff hg hn,Bool.or_eq_true,decide_eq_true_eq,List.any_eq_true]
    constructor
    · intro h
      cases h with
      | rfl=>exact .inl rfl
      | @head _ x _ hx h=>exact .inr ⟨x,hx,(dep_iff hg (hg.val.g n hn x hx)).2 h⟩
    · rintro (rfl | ⟨x,hx,h⟩)
      · exact .rfl _
      · exact .head hx ((dep_iff hg (hg.val.g n hn x hx)).1 h)
  by_cases h : i = n
  · subst h; rw [upd1_same,exD,e]; simp
  · rw [upd1_ne _ _ h,exL,exD,e]
    have : decide (n = i) = false:=by simp; exact fun q=>h q.symm
    rw [this,Bool.false_or]
theorem mS_upd {M : Nat→Nat} {D : Nat→Bool} (n : Nat) : upd1 (mS M D) n (M n) = mS M (upd1 D n true):=by
  funext i
  unfold mS
  by_cases h : i = n
  · subst h; rw [upd1_same,upd1_same,if_pos rfl]
  · rw [upd1_ne _ _ h,upd1_ne _ _ h]
theorem line_mc (c : Ci) (hg : c.good) (p : Pt) (f : Ft) (hf : f.okM c) (hm : f.m < 2) (A : Nat→Nat) (d n : V) (hd : d.pure = true) (hn : n.pure = true) (x : Nat) (hx : x = f.net c) (v : Nat) :
    PureC Tryz.prog gl0 116 [.iptr (mV c p f A d n) 0,natV x,u8V v] (u8V (f.mG c A v)):=by
  have hnl:=net_lt hg hf.n hf.q
  rw [← hx] at hnl
  unfold Ft.mG
  rw [← hx]
  obtain ⟨xa,hxa⟩ : ∃ xa,A x = xa:=⟨_,rfl⟩
  rw [hxa]
  by_cases h0 : f.m = 0
  · rw [if_pos h0]
    refine PureC.of_W 2 ok116 rfl ?_
    simp [i116,x116,u8V,natV,nop,h0]
  · have h1 : f.m = 1:=by omega
    rw [if_neg h0]
    by_cases hv : f.v = 1
    · rw [if_pos hv]
      have hl:=logE_c 5 (by omega) [xa,v] (some 2) (by simp)
      simp only [u8V,List.map_cons,List.map_nil] at hl
      generalize logE 5 [xa,v] = E at hl ⊢
      refine PureC.of_W 2 ok116 rfl ?_
      simp [i116,x116,u8V,natV,nop,h1,hv,hnl,tU_get,hxa]
      intro gf
      refine CallO.borrow 2 hl (by simp [frz,V.mapR,lk]) rfl ?_
      simp
    · rw [if_neg hv]
      have hv0 : f.v = 0:=by have:=hf.v; omega
      have hl:=logE_c 7 (by omega) [xa,v] (some 2) (by simp)
      simp only [u8V,List.map_cons,List.map_nil] at hl
      generalize logE 7 [xa,v] = E at hl ⊢
      refine PureC.of_W 2 ok116 rfl ?_
      simp [i116,x116,u8V,natV,nop,h1,hv0,hnl,tU_get,hxa]
      intro gf
      refine CallO.borrow 2 hl (by simp [frz,V.mapR,lk]) rfl ?_
      simp
end Go.Proofs.YtekbgkainigfnaaGreatDoor
