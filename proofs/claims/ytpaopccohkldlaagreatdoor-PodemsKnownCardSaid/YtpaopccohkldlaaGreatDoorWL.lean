/- Lemmas. Conditions: none. -/
import Derived.Test.YtpaopccohkldlaaGreatDoorWA
import Derived.Test.YtpaopccohkldlaaGreatDoorT13
import Derived.Test.YtpaopccohkldlaaGreatDoorA5
set_option linter.all false
namespace Go.Proofs.YtpaopccohkldlaaGreatDoor
section
open Go
def qrd:List Nat->Nat
 | []=>0
 | b :: r=>b + 2 * qrd r
theorem qzl:∀ (l:List Nat),(∀ x ∈ l,x≤1)->qrd l < 2 ^ l.length
 | [],_=>by simp [qrd]
 | b :: r,h=>by
  have h1:=h b List.mem_cons_self;have h2:=qzl r fun x hx=>h x (List.mem_cons_of_mem _ hx);rw [qrd,List.length_cons,Nat.pow_succ]; omega
theorem qt4:∀ (l:List Nat),(∀ x ∈ l,x≤1)->∀ k,(qrd l).testBit k = decide (l.getD k 0 = 1)
 | [],_,k=>by simp [qrd]
 | b :: r,h,k=>by
  have h1:=h b List.mem_cons_self;have h2:=qt4 r fun x hx=>h x (List.mem_cons_of_mem _ hx);rw [qrd]
  cases k with
  | zero=>
   rw [Nat.testBit_zero];have:(b + 2 * qrd r) % 2 = b:=by omega
   rw [this]; rfl
  | succ k=>
   rw [Nat.testBit_succ];have:(b + 2 * qrd r) / 2 = qrd r:=by omega
   rw [this,h2 k]; rfl
def qi7 (c:Ci) (i:Nat):Pt:=qhc c (BitVec.ofNat 64 i)
theorem q2i (c:Ci) (hn:c.n.length≤20) (p:Pt) (hp:p.fit c) (hk:p.kn):∃ i,i < 2 ^ (cnt 0 c.n + cnt 14 c.n)/\qi7 c i = p:=by
 have hl:(p.i ++ p.s).length = cnt 0 c.n + cnt 14 c.n:=by rw [List.length_append,hp.i,hp.s]
 have hx:∀ x ∈ p.i ++ p.s,x≤1:=fun x hx=>(List.mem_append.1 hx).elim (hk.1 x) (hk.2 x);have l0:=qbt 0 c.n;have l1:=qbt 14 c.n
 have hfb:∀ k,k < cnt 0 c.n + cnt 14 c.n->fb (BitVec.ofNat 64 (qrd (p.i ++ p.s))) k = (p.i ++ p.s).getD k 0:=fun k hk'=>by
  unfold fb;rw [Nat.mod_eq_of_lt (by omega),BitVec.getLsbD_ofNat,qt4 _ hx];have hk2:k < (p.i ++ p.s).length:=by omega
  have hx1:=hx _ (jpk hk2);rw [jph,jpl hk2];simp only [Option.getD_some];generalize (p.i ++ p.s)[k] = v at hx1;have:decide (k < 64) = true:=decide_eq_true (by omega);rw [this];simp only [Bool.true_and,decide_eq_true_eq];split <;> omega
 refine ⟨qrd (p.i ++ p.s),by rw [<- hl]; exact qzl _ hx,?_⟩;unfold qi7 qhc;obtain ⟨a,b⟩:=p;have ea:a.length = cnt 0 c.n:=hp.i;have eb:b.length = cnt 14 c.n:=hp.s;congr 1
 ·refine List.ext_getElem (by rw [qen,ea]) fun j h1 h2=>?_;have e:(fbL (BitVec.ofNat 64 (qrd (a ++ b))) 0 (cnt 0 c.n))[j]'h1 = fb (BitVec.ofNat 64 (qrd (a ++ b))) (0 + j):=by simp only [fbL]; rw [qbr]
  refine e.trans ?_;rw [Nat.zero_add];refine (hfb j (by simp only [qen] at h1; omega)).trans ?_;rw [jph,List.getElem?_append_left h2,jpl h2]; rfl
 ·refine List.ext_getElem (by rw [qen,eb]) fun j h1 h2=>?_;have e:(fbL (BitVec.ofNat 64 (qrd (a ++ b))) (cnt 0 c.n) (cnt 14 c.n))[j]'h1 = fb (BitVec.ofNat 64 (qrd (a ++ b))) (cnt 0 c.n + j):=by simp only [fbL]; rw [qbr]
  refine e.trans ((hfb (cnt 0 c.n + j) (by simp only [qen] at h1; omega)).trans ?_);show (a ++ b).getD (cnt 0 c.n + j) 0 = b[j];rw [jph,List.getElem?_append_right (by omega),ea,Nat.add_sub_cancel_left,jpl h2]; rfl
noncomputable def q5g (c:Ci) (f:Ft):Bool:=(List.range (2 ^ (cnt 0 c.n + cnt 14 c.n))).any fun i=>f.det c (qi7 c i)
def Pt.fil (q:Pt):Pt:=⟨q.i.map fun x=>if x = 2 then 0 else x,q.s.map fun x=>if x = 2 then 0 else x⟩
theorem q7j {q:Pt} {c:Ci} (h:q.fit c):q.fil.fit c:=by
 refine ⟨by simp only [Pt.fil,List.length_map]; exact h.i,by simp only [Pt.fil,List.length_map]; exact h.s,fun x hx=>?_,fun x hx=>?_⟩
 ·obtain ⟨y,hy,rfl⟩:=List.mem_map.1 hx;have:=h.iv y hy;split <;> omega
 ·obtain ⟨y,hy,rfl⟩:=List.mem_map.1 hx;have:=h.sv y hy;split <;> omega
theorem jcm {q:Pt} (h:q.cu):q.fil.kn:=by
 refine ⟨fun x hx=>?_,fun x hx=>?_⟩
 ·obtain ⟨y,hy,rfl⟩:=List.mem_map.1 hx;have:=h.1 y hy;split <;> omega
 ·obtain ⟨y,hy,rfl⟩:=List.mem_map.1 hx;have:=h.2 y hy;split <;> omega
theorem jdc (q:Pt):q.le q.fil:=by
 refine ⟨qhh (by simp [Pt.fil]) fun i h1 h2=>?_,qhh (by simp [Pt.fil]) fun i h1 h2=>?_⟩
 ·simp only [Pt.fil,List.getElem_map];split
  ·rename_i h; exact .inr h
  ·exact .inl rfl
 ·simp only [Pt.fil,List.getElem_map];split
  ·rename_i h; exact .inr h
  ·exact .inl rfl
def VR.fnd:VR->Bool
 | .found _ _=>true
 | _=>false
theorem qhb (c:Ci) (i:Nat):(qi7 c i).fit c:=q2j c _
theorem q7l (c:Ci) (i:Nat):(qi7 c i).kn:=q7m c _
theorem qyk (c:Ci) (hg:c.good) (hk:c.plain) (f:Ft) (hf:f.ok c) (hm:f.m = 0) (l:Nat) {q:Pt} {w:Nat} (h:qkn c f l = .found q w):q5g c f = true:=by
 have hv:=qpv c hg hk f hf hm l;rw [h] at hv;obtain ⟨-,h2,h3,h4,-⟩:=hv;obtain ⟨i,hi,e⟩:=q2i c hg.n1 q.fil (q7j h2) (jcm h3);refine List.any_eq_true.2 ⟨i,List.mem_range.2 hi,?_⟩;rw [e];exact Go.Proofs.YtpaopccohkldlaaGreatDoor.det_mono c f (jdc q) h4
theorem qpw (c:Ci) (hg:c.good) (hk:c.plain) (f:Ft) (hf:f.ok c) (hm:f.m = 0) (l:Nat) {t:DT} {w:Nat} (h:qkn c f l = .proof t w):q5g c f = false:=by
 have hv:=qpv c hg hk f hf hm l;rw [h] at hv;obtain ⟨h1,h2,-⟩:=hv;unfold q5g;rw [List.any_eq_false];intro i hi;have hq:=qhb c i;have hkn:=q7l c i;have hmany:(qd3 c).many = (qi7 c i).many:=by unfold Pt.many; rw [hq.i,hq.s]; simp [qd3]
 have hle:(qd3 c).le (qi7 c i):=Pt.le_bit.2 ⟨by rw [hq.i]; simp [qd3],by rw [hq.s]; simp [qd3],fun k hk'=>.inr (qnc hk')⟩;have hok:=h2 [] (by simp);rw [hmany] at hok;have hok2:t.ok (qi7 c i).many []:=hok;have:=qsl hg hf hq hkn t [] (qd3 c) hok2 hle h1;rw [this]; simp
theorem qxf (c:Ci):(qd3 c).opens≤cnt 0 c.n + cnt 14 c.n:=by
 have:=qho (qd3 c);rw [qg5] at this;exact this
theorem qtv (c:Ci) (hg:c.good) (hk:c.plain) (f:Ft) (hf:f.ok c) (hm:f.m = 0) (l:Nat) (hl:2 ^ (cnt 0 c.n + cnt 14 c.n)≤l + 1) (q:Pt):qkn c f l ≠ .spent q:=fun h=>by
 have hv:=qpv c hg hk f hf hm l;rw [h] at hv;change l - 0 + 1 < 2 ^ (qd3 c).opens at hv;have:=Nat.pow_le_pow_right (n:=2) (by omega) (qxf c);omega
theorem q7n (c:Ci) (hg:c.good) (hk:c.plain) (f:Ft) (hf:f.ok c) (hm:f.m = 0) (l:Nat) (hl:2 ^ (cnt 0 c.n + cnt 14 c.n)≤l + 1):(qkn c f l).fnd = q5g c f:=by
 cases h:qkn c f l with
 | found q w=>rw [qyk c hg hk f hf hm l h]; rfl
 | proof t w=>rw [qpw c hg hk f hf hm l h]; rfl
 | spent q=>exact absurd h (qtv c hg hk f hf hm l hl q)
end
section
open Go
theorem q0o (c:Ci) (hn:c.n.length < 1000000):qab Tryz.prog gl0 59 [c.v] (qaa (cnt 0 c.n + cnt 14 c.n)):=by
 have l0:=qbt 0 c.n;refine jpb 2 ok59 rfl ?_;simp [i59,x59];intro gf;generalize gf 1 = g1
 refine jpa (X:=Nat) (fun j=>[(4,qaa j),(3,qaa (cnt 0 (c.n.take j) + cnt 14 (c.n.take j))),(1,.ptr 1 g1 0 0)]) (fun _=>[(1,.row g1 4 [c.v])])
  (fun j=>j≤c.n.length) (fun j=>c.n.length - j) 0 (Nat.zero_le _) (by simp [qaa,cnt,ids]) (by simp) ?_
 intro j hj;simp [qaa];refine jo8 (fun hb=>?_) (fun hb=>?_)
 ·have hj2:j < c.n.length:=jpf hb;have hwj:=qa1 j (by omega);obtain ⟨y,hy⟩:∃ y,c.n[j] = y:=⟨_,rfl⟩;have t0:=qjh (k:=0) hj2 hy;have t1:=qjh (k:=14) hj2 hy;have u0:=qbt 0 (c.n.take j);have u1:=qbt 14 (c.n.take j);rw [List.length_take] at u0 u1;obtain ⟨S,hS⟩:∃ S,cnt 0 (c.n.take j) + cnt 14 (c.n.take j) = S:=⟨_,rfl⟩;have hwS:=qa1 S (by omega);have hSc:((cnt 0 (c.n.take j):Nat):Int) + ((cnt 14 (c.n.take j):Nat):Int) = (S:Int):=by omega
  by_cases k0:y.k = 0
  ·have k1:¬ y.k = 14:=by omega
   rw [if_pos k0] at t0;rw [if_neg k1] at t1;simp [hj2,hy,hwj,k0,hSc,hwS];exact ⟨j + 1,hj2,⟨by simp,by omega⟩,by omega⟩
  ·by_cases k1:y.k = 14
   ·rw [if_neg k0] at t0;rw [if_pos k1] at t1;simp [hj2,hy,hwj,k0,k1,hSc,hwS];exact ⟨j + 1,hj2,⟨by simp,by omega⟩,by omega⟩
   ·rw [if_neg k0] at t0;rw [if_neg k1] at t1;simp [hj2,hy,hwj,k0,k1];exact ⟨j + 1,hj2,⟨by simp,by omega⟩,by omega⟩
 ·have hj3:j = c.n.length:=by have:=jpg hb; omega
  subst hj3;rw [List.take_length];simp
theorem q47 (c:Ci) (hn:c.n.length < 1000000):qab Tryz.prog gl0 17 [c.v] (qaa (cnt 0 c.n + cnt 14 c.n)):=by
 have h:=q0o c hn;refine jpb 2 ok17 rfl ?_;simp [i17,x17];intro gf;refine jo7 h (by simp) ?_;simp [qaa]
def ccB (a b:List Nat):Bool:=(List.range b.length).all fun i=>decide (a.getD i 0 = 2∨a.getD i 0 = b.getD i 0)
theorem jbs {a b:List Nat} (h:∀ i,i < b.length->(a.getD i 0 = 2∨a.getD i 0 = b.getD i 0)):ccB a b = true:=
 List.all_eq_true.2 fun i hi=>decide_eq_true (h i (List.mem_range.1 hi))
theorem jbr {a b:List Nat} {i:Nat} (hi:i < b.length) (h1:a.getD i 0 ≠ 2) (h2:a.getD i 0 ≠ b.getD i 0):ccB a b = false:=by
 cases h:ccB a b with
 | false=>rfl
 | true=>
  have:=jpf (List.all_eq_true.1 h i (List.mem_range.2 hi));rcases this with q | q
  ·exact absurd q h1
  ·exact absurd q h2
set_option maxRecDepth 10000 in
theorem qrr (a b d e:List Nat) (hab:a.length = b.length) (hde:d.length = e.length) (h1:b.length < 1000000) (h2:e.length < 1000000) :
  qab Tryz.prog gl0 96 [.agg [.sl (a.map u8V) none,.sl (d.map u8V) none],.agg [.sl (b.map u8V) none,.sl (e.map u8V) none]] (.bool (ccB a b && ccB d e)):=by
 refine jpb 2 ok96 rfl ?_;simp [i96,x96];intro gf2 gf3;generalize gf2 2 = g2;generalize gf3 3 = g3
 refine jpa (X:=Nat) (fun j=>[(5,qaa j),(3,.ptr 3 g3 0 0),(2,.ptr 2 g2 0 0)]) (fun _=>[(3,.row g3 2 [.agg [.sl (b.map u8V) none,.sl (e.map u8V) none]]),(2,.row g2 2 [.agg [.sl (a.map u8V) none,.sl (d.map u8V) none]])])
  (fun j=>j≤b.length/\∀ i,i < j->(a.getD i 0 = 2∨a.getD i 0 = b.getD i 0)) (fun j=>b.length - j) 0 ⟨Nat.zero_le _,fun _ h=>by omega⟩ (by simp [qaa]) (by simp) ?_
 rintro j ⟨hj,h0⟩;simp [qaa];refine jo8 (fun hb=>?_) (fun hb=>?_)
 ·have hj2:j < b.length:=jpf hb;have hj2':j < a.length:=by omega
  have hwj:=qa1 j (by omega);obtain ⟨x,hx⟩:∃ x,a[j] = x:=⟨_,rfl⟩;obtain ⟨y,hy⟩:∃ y,b[j] = y:=⟨_,rfl⟩;have gx:a.getD j 0 = x:=by rw [jph,jpl hj2',hx]; rfl
  have gy:b.getD j 0 = y:=by rw [jph,jpl hj2,hy]; rfl
  by_cases k2:x = 2
  ·simp [hj2,hj2',hx,hy,u8V,k2]
   exact ⟨j + 1,⟨hj2,fun i hi=>by
    by_cases e:i = j
    ·subst e; exact .inl (gx.trans k2)
    ·exact h0 i (by omega)⟩,by simpa using hwj,by omega⟩
  ·have k2':¬ ((x:Int) = 2):=by omega
   by_cases ke:x = y
   ·subst ke;simp [hj2,hj2',hx,hy,u8V,k2]
    exact ⟨j + 1,⟨hj2,fun i hi=>by
     by_cases e:i = j
     ·subst e; exact .inr (by have:=gx.trans gy.symm; simpa using this)
     ·exact h0 i (by omega)⟩,by simpa using hwj,by omega⟩
   ·have hf:ccB a b = false:=jbr hj2 (by rw [gx]; exact k2) (by rw [gx,gy]; exact ke);simp [hj2,hj2',hx,hy,u8V,k2,ke,hf]
 ·have hj3:j = b.length:=by have:=jpg hb; omega
  subst hj3;have ht:ccB a b = true:=jbs h0;clear h0;simp [ht]
  refine jpa (X:=Nat) (fun j=>[(6,qaa j),(3,.ptr 3 g3 0 0),(2,.ptr 2 g2 0 0)]) (fun _=>[(3,.row g3 2 [.agg [.sl (b.map u8V) none,.sl (e.map u8V) none]]),(2,.row g2 2 [.agg [.sl (a.map u8V) none,.sl (d.map u8V) none]])])
   (fun j=>j≤e.length/\∀ i,i < j->(d.getD i 0 = 2∨d.getD i 0 = e.getD i 0)) (fun j=>e.length - j) 0 ⟨Nat.zero_le _,fun _ h=>by omega⟩ (by simp [qaa]) (by simp) ?_
  rintro j ⟨hj,h0⟩;simp [qaa];refine jo8 (fun hb=>?_) (fun hb=>?_)
  ·have hj2:j < e.length:=jpf hb;have hj2':j < d.length:=by omega
   have hwj:=qa1 j (by omega);obtain ⟨x,hx⟩:∃ x,d[j] = x:=⟨_,rfl⟩;obtain ⟨y,hy⟩:∃ y,e[j] = y:=⟨_,rfl⟩;have gx:d.getD j 0 = x:=by rw [jph,jpl hj2',hx]; rfl
   have gy:e.getD j 0 = y:=by rw [jph,jpl hj2,hy]; rfl
   by_cases k2:x = 2
   ·simp [hj2,hj2',hx,hy,u8V,k2]
    exact ⟨j + 1,⟨hj2,fun i hi=>by
     by_cases e:i = j
     ·subst e; exact .inl (gx.trans k2)
     ·exact h0 i (by omega)⟩,by simpa using hwj,by omega⟩
   ·have k2':¬ ((x:Int) = 2):=by omega
    by_cases ke:x = y
    ·subst ke;simp [hj2,hj2',hx,hy,u8V,k2]
     exact ⟨j + 1,⟨hj2,fun i hi=>by
      by_cases e:i = j
      ·subst e; exact .inr (by have:=gx.trans gy.symm; simpa using this)
      ·exact h0 i (by omega)⟩,by simpa using hwj,by omega⟩
    ·have hf:ccB d e = false:=jbr hj2 (by rw [gx]; exact k2) (by rw [gx,gy]; exact ke);simp [hj2,hj2',hx,hy,u8V,k2,ke,hf]
  ·have hj3:j = e.length:=by have:=jpg hb; omega
   subst hj3;have ht:ccB d e = true:=jbs h0;clear h0;simp [ht]
end
section
open Go
def spc (l:List Nat):Nat:=l.countP fun x=>decide (x < 2)
theorem q4e (l:List Nat) (j:Nat) (hj:j < l.length):spc (l.take (j + 1)) = spc (l.take j) + if l[j] < 2 then 1 else 0:=by
 unfold spc;rw [List.take_succ_eq_append_getElem hj,List.countP_append,List.countP_singleton];simp only [decide_eq_true_eq]
theorem je4 (l:List Nat):spc l≤l.length:=List.countP_le_length
set_option maxRecDepth 10000 in
theorem qxl (xs ys:List Nat) (hx:∀ x ∈ xs,x≤2) (hy:∀ x ∈ ys,x≤2) (h1:xs.length < 1000000) (h2:ys.length < 1000000) :
  qab Tryz.prog gl0 95 [.agg [.sl (xs.map u8V) none,.sl (ys.map u8V) none]] (.tup [qaa (spc (xs ++ ys)),.int .i64 0]):=by
 have hl:∀ x ∈ xs ++ ys,x≤2:=fun x hx'=>(List.mem_append.1 hx').elim (hx x) (hy x);have hll:(xs ++ ys).length = xs.length + ys.length:=List.length_append;have hml:xs.map u8V ++ ys.map u8V = (xs ++ ys).map u8V:=by rw [List.map_append]
 refine jpb 2 ok95 rfl ?_;have a1:∀ zs:List Nat,zs.all ((fun x:V=>decide (x.cells.length = 1)) ∘ u8V) = true:=fun zs=>List.all_eq_true.2 fun _ _=>rfl;have b1:xs.length≤274877906944:=by omega
 have b2:xs.length + ys.length≤274877906944:=by omega
 simp [i95,x95,nop,a1];intro gf1 gm;simp [a1,b1,b2];refine ⟨by decide,?_⟩;have hfl:xs.length + ys.length = (xs ++ ys).length:=hll.symm;obtain ⟨l,hle⟩:∃ l,xs ++ ys = l:=⟨_,rfl⟩;rw [hle] at hl hfl ⊢;generalize gm 8 + 1 + 1 = g8
 refine jpa (X:=Nat) (fun j=>[(7,qaa j),(6,.ref 8 g8 0 l.length none),(5,.int .i64 0),(4,qaa (spc (l.take j)))]) (fun _=>[(8,.row g8 1 (l.map u8V))])
  (fun j=>j≤l.length) (fun j=>l.length - j) 0 (Nat.zero_le _) (by simp [qaa,hfl,spc]) (by rw [<- hle]; simp [jpj (show (xs.map u8V).length≤xs.length by simp)]) ?_
 intro j hj;simp [qaa];refine jo8 (fun hb=>?_) (fun hb=>?_)
 ·have hj2:j < l.length:=jpf hb;have hwj:=qa1 j (by omega);have hst:=q4e l j hj2;have hsl:=je4 (l.take j);rw [List.length_take] at hsl;generalize spc (l.take j) = S at hst hsl ⊢;obtain ⟨x,hx⟩:∃ x,l[j] = x:=⟨_,rfl⟩;have hx2:x≤2:=by rw [<- hx]; exact hl _ (jpk hj2)
  have hn2:¬ (2:Int) < (x:Int):=by omega
  rw [hx] at hst;by_cases hk:x < 2
  ·rw [if_pos hk] at hst;have hwS:=qa1 S (by omega);have hk':(x:Int) < 2:=by omega
   simp [hj2,hx,u8V,hn2,hk',hk,hwS];exact ⟨j + 1,hj2,⟨by simpa using hwj,by omega⟩,by omega⟩
  ·rw [if_neg hk] at hst;have hk':¬ (x:Int) < 2:=by omega
   simp [hj2,hx,u8V,hn2,hk',hk];exact ⟨j + 1,hj2,⟨by simpa using hwj,by omega⟩,by omega⟩
 ·have hj3:j = l.length:=by have:=jpg hb; omega
  subst hj3;rw [List.take_length];simp
end
section
open Go
theorem q5o (c:Ci) (hl:c.n.length < 1000000) (i:Nat) (hi:i < 1048577):qab Tryz.prog gl0 36 [c.v,.int .u64 (i:Int)] (qi7 c i).v:=by
 have h:=jco c hl (BitVec.ofNat 64 i);have e:(BitVec.ofNat 64 i).toNat = i:=by rw [BitVec.toNat_ofNat,Nat.mod_eq_of_lt (by omega)]
 unfold bvV at h;rw [e] at h;exact h
theorem je3 {B:Nat} (h:B≤20):IntKind.i64.wrap (2 ^ min B IntKind.i64.bits) = ((2 ^ B:Nat):Int):=by
 have eb:IntKind.i64.bits = 64:=rfl;rw [eb,Nat.min_eq_left (by omega)];have h2:2 ^ B≤2 ^ 20:=Nat.pow_le_pow_right (by omega) h;have e:((2:Int) ^ B) = ((2 ^ B:Nat):Int):=by push_cast; rfl
 rw [e];generalize 2 ^ B = N at h2 ⊢;rw [qas] <;> omega
theorem q54 {B:Nat} (h:B≤20):2 ^ B≤1048576:=by
 have h2:2 ^ B≤2 ^ 20:=Nat.pow_le_pow_right (by omega) h;omega
theorem qw9 {n j:Nat} {F:Nat->Bool} (hj:j < n) (h:F j = true):(List.range n).any F = true:=List.any_eq_true.2 ⟨j,List.mem_range.2 hj,h⟩
theorem q1r {n:Nat} {F:Nat->Bool} (h:∀ i,i < n->F i = false):(List.range n).any F = false:=by
 rw [List.any_eq_false];intro i hi;rw [h i (List.mem_range.1 hi)]; simp
set_option maxRecDepth 10000 in
theorem qtk (c:Ci) (hg:c.good) (f:Ft) (hf:f.ok c) (hm:f.m = 0):qab Tryz.prog gl0 48 [c.v,f.w] (.bool (q5g c f)):=by
 have hn1:=hg.n1;have hb:=q47 c (by omega);have hfu:=fun i hi=>q5o c (by omega) i hi;have hd:=fun i=>qx0 c hg f hf hm _ (qhb c i);have l2:=qnf c.n;unfold q5g;obtain ⟨B,hB⟩:∃ B,cnt 0 c.n + cnt 14 c.n = B:=⟨_,rfl⟩;rw [hB] at hb ⊢;have hB20:B≤20:=by omega
 have hsh:=je3 hB20;have hp20:=q54 hB20;generalize 2 ^ B = N at hsh hp20 ⊢;simp only [qaa,Ft.w,u8V,Pt.v] at hb hd hfu;refine jpb 2 ok48 rfl ?_;simp [i48,x48,Ft.w,u8V,qaa];intro gf2 gf3;generalize gf2 2 = g2;generalize gf3 3 = g3
 refine jpa (X:=Nat) (fun j=>[(5,qaa j),(3,.ptr 3 g3 0 0),(2,.ptr 2 g2 0 0)]) (fun _=>[(3,.row g3 5 [f.w]),(2,.row g2 4 [c.v])])
  (fun j=>j≤N/\∀ i,i < j->f.det c (qi7 c i) = false) (fun j=>N - j) 0 ⟨Nat.zero_le _,fun _ h=>by omega⟩ (by simp [qaa]) (by simp [Ft.w,u8V,qaa]) ?_
 rintro j ⟨hj,h0⟩;simp [qaa];refine jo7 hb (by simp) ?_;simp [hsh];refine jo8 (fun hb2=>?_) (fun hb2=>?_)
 ·have hj2:j < N:=jpf hb2;have hwj:=qa1 j (by omega)
  have hu:IntKind.u64.wrap (j:Int) = (j:Int):=by
   show ((j:Int) % 18446744073709551616) = _;omega
  have h1:=hfu j (by omega);have h2:=hd j;simp [hj2,hu,Ft.w,u8V,qaa];intro gm
  first | refine ⟨_,_,_,.pure h1 (by simp),?_⟩ | refine ⟨_,⟨_,_,.pure h1 (by simp)⟩,?_⟩ | refine ⟨_,_,⟨_,.pure h1 (by simp)⟩,?_⟩
  simp
  first | refine ⟨_,_,_,.pure h2 (by simp),?_⟩ | refine ⟨_,⟨_,_,.pure h2 (by simp)⟩,?_⟩ | refine ⟨_,_,⟨_,.pure h2 (by simp)⟩,?_⟩
  simp;refine ⟨by decide,?_⟩
  cases hdj:f.det c (qi7 c j) with
  | true=>
   have:=qw9 (F:=fun i=>f.det c (qi7 c i)) hj2 hdj;rw [this];simp
  | false=>
   simp
   exact ⟨j + 1,⟨hj2,fun i hi=>by
    by_cases e:i = j
    ·subst e; exact hdj
    ·exact h0 i (by omega)⟩,by simpa using hwj,by omega⟩
 ·have hj3:j = N:=by have:=jpg hb2; omega
  subst hj3;rw [q1r h0];simp
end
section
open Go
theorem jbt {a b:List Nat} (hl:a.length = b.length) (h:ccB a b = true):leL a b:=
 qhh hl fun i h1 h2=>by
  have:=jpf (List.all_eq_true.1 h i (List.mem_range.2 h2));rw [jph,jpl h1,jph,jpl h2] at this;rcases this with q | q
  ·exact .inr q
  ·exact .inl q
theorem qxc (c:Ci) (hg:c.good):qbi Tryz.prog gl0 22 [c.v] (jhu 1 1 (List.replicate (cnt 0 c.n) (.int .u8 2)) (List.replicate (cnt 14 c.n) (.int .u8 2)) (some (cnt 0 c.n)) (some (cnt 14 c.n))):=
 qbi.mono (qnb c hg) fun v h ⟨g0,g1,e1,e2⟩=>⟨g0,g1,by rw [e1]; simp,e2⟩
set_option maxRecDepth 100000 in
theorem q39 (c:Ci) (hg:c.good) (f:Ft) (hf:f.ok c) (hm:f.m = 0) (q:Pt) (w l L:Nat) (hq:q.fit c) (hc:q.cu) (hd:f.det c q = true) (hs:spc (q.i ++ q.s)≤w) (hw:w≤L) (hL:L < 1000000000) :
  qab Tryz.prog gl0 47 [c.v,f.w,qvy l (.found q w),qaa L] (.bool true):=by
 have hn1:=hg.n1;have l2:=qnf c.n;have ei:=hq.i;have es:=hq.s;have hcare:=qxl q.i q.s hc.1 hc.2 (by omega) (by omega)
 have hcr:qab Tryz.prog gl0 95 [.agg [.sl (q.i.map u8V) (some q.i.length),.sl (q.s.map u8V) (some q.s.length)]] (.tup [qaa (spc (q.i ++ q.s)),.int .i64 0]):=
  qab.wide hcare ⟨VLe.agg ⟨VLe.cap _ _,VLe.cap _ _,trivial⟩,trivial⟩ (.refl _)
 generalize spc (q.i ++ q.s) = sp at hcr hs;have hbl:=qxc c hg;have hb:=q47 c (by omega);have hfu:=fun i hi=>q5o c (by omega) i hi;have hdt:=fun i=>qx0 c hg f hf hm _ (qhb c i)
 have hcm:∀ i,qab Tryz.prog gl0 96 [.agg [.sl (q.i.map u8V) (some q.i.length),.sl (q.s.map u8V) (some q.s.length)],(qi7 c i).v] (.bool (ccB q.i (qi7 c i).i && ccB q.s (qi7 c i).s)):=fun i=>by
  have hp:=qhb c i;exact qab.wide (qrr q.i (qi7 c i).i q.s (qi7 c i).s (by rw [ei,hp.i]) (by rw [es,hp.s]) (by rw [hp.i]; omega) (by rw [hp.s]; omega)) ⟨VLe.agg ⟨VLe.cap _ _,VLe.cap _ _,trivial⟩,.refl _,trivial⟩ (.refl _)
 have himp:∀ i,(ccB q.i (qi7 c i).i && ccB q.s (qi7 c i).s) = true->f.det c (qi7 c i) = true:=fun i h=>by
  rw [Bool.and_eq_true] at h;have hp:=qhb c i;exact Go.Proofs.YtpaopccohkldlaaGreatDoor.det_mono c f ⟨jbt (by rw [ei,hp.i]) h.1,jbt (by rw [es,hp.s]) h.2⟩ hd
 generalize hB:cnt 0 c.n + cnt 14 c.n = B at hb;have hB20:B≤20:=by omega
 have hsh:=je3 hB20;have hp20:=q54 hB20;generalize 2 ^ B = N at hsh hp20;generalize cnt 0 c.n = A0 at *;generalize cnt 14 c.n = A1 at *;have hwL:¬ L < w:=by omega
 have hsw:¬ w < sp:=by omega
 simp only [qaa,Ft.w,u8V,Pt.v,ei,es] at hb hdt hfu hcr hcm;refine jpb 2 jlf rfl ?_;simp [i47,x47,nop,qvy,Ft.w,u8V,qaa,ei,es];intro gf4 gf5 gf6;generalize gf4 4 = g4;generalize gf5 5 = g5;generalize gf6 6 = g6;simp [hwL];refine jo7 hcr (by simp) ?_;simp;refine CallO.own 9000 hbl (by simp) (by simp) ?_;rintro v h ⟨q1,q2,rfl,rfl⟩ gf9;simp [upH,upS,Blk.rn];intro gf11;simp [ei,es,hsw]
 refine jpa (X:=Nat) (fun j=>[(12,qaa j),(6,.ptr 6 g6 0 0),(5,.ptr 5 g5 0 0),(4,.ptr 4 g4 0 0)])
  (fun _=>[(4,.row g4 4 [c.v]),(5,.row g5 5 [.agg [.int .u8 f.m,.int .i64 f.n,.int .i64 f.pin,.int .u8 f.v,.int .i64 f.o]]),(6,.row g6 5 [.agg [.int .u8 1,.sl (q.i.map u8V) (some A0),.sl (q.s.map u8V) (some A1),.nil,.int .i64 w]])])
  (fun j=>j≤N) (fun j=>N - j) 0 (Nat.zero_le _) (by simp [qaa]) (by simp [u8V]) ?_
 intro j hj;simp [qaa];refine jo7 hb (by simp) ?_;simp [hsh];refine jo8 (fun hb2=>?_) (fun hb2=>?_)
 ·have hj2:j < N:=jpf hb2;have hwj:=qa1 j (by omega)
  have hu:IntKind.u64.wrap (j:Int) = (j:Int):=by
   show ((j:Int) % 18446744073709551616) = _;omega
  have h1:=hfu j (by omega);have h2:=hdt j;have h3:=hcm j;have h4:=himp j;generalize f.det c (qi7 c j) = D at h2 h4;generalize (ccB q.i (qi7 c j).i && ccB q.s (qi7 c j).s) = C at h3 h4;generalize (qi7 c j).i = pi at h1 h2 h3;generalize (qi7 c j).s = ps at h1 h2 h3;simp [hj2,hu];refine jo7 h1 (by simp) ?_;simp [u8V];intro gf13;refine jo7 h2 (by simp [u8V]) ?_;simp;refine jo7 h3 (by simp [u8V]) ?_
  cases C with
  | false=>
   simp;exact ⟨j + 1,hj2,by simpa using hwj,by omega⟩
  | true=>
   have hD:=h4 rfl;subst hD;simp;exact ⟨j + 1,hj2,by simpa using hwj,by omega⟩
 ·simp
set_option maxRecDepth 100000 in
theorem q4a (c:Ci) (hg:c.good) (hk:c.plain) (f:Ft) (hf:f.ok c) (hm:f.m = 0) (t:DT) (w l L:Nat) (hpr:prB c f t (qd3 c) = true) (hok:t.ok (cnt 0 c.n + cnt 14 c.n) []) (hsz:t.sz = 2 * w + 1) (hdb:q5g c f = false) (hw:w≤L) (hL:L < 100000000) :
  qab Tryz.prog gl0 47 [c.v,f.w,qvy l (.proof t w),qaa L] (.bool true):=by
 have hcare:=qxl [] [] (by simp) (by simp) (by simp) (by simp)
 have hcr:qab Tryz.prog gl0 95 [.agg [.nil,.nil]] (.tup [.int .i64 0,.int .i64 0]):=
  qab.wide hcare ⟨VLe.agg ⟨VLe.nil',VLe.nil',trivial⟩,trivial⟩ (.refl _)
 have hbl:=qxc c hg;have hck:=qtg c hg hk f hf hm t hok (by omega);rw [if_pos hpr] at hck;have hdt:=qtk c hg f hf hm;rw [hdb] at hdt;have hwL:¬ L < w:=by omega
 have htl:((t.fl 0).map Tn.v).length = t.sz:=by rw [List.length_map,jn4]
 have hmul:IntKind.i64.wrap (2 * (w:Int)) = ((2 * w:Nat):Int):=by rw [qas] <;> omega
 have hadd:IntKind.i64.wrap (2 * (w:Int) + 1) = 2 * (w:Int) + 1:=by rw [qas] <;> omega
 have htp:=qck (t.fl 0);simp only [qvy,trV];generalize (t.fl 0).map Tn.v = T at hck htl htp ⊢;simp only [Ft.w,u8V,qaa] at hck hdt;refine jpb 2 jlf rfl ?_;simp [i47,x47,nop,qvy,trV,Ft.w,u8V,qaa];intro gf4 gf5 gf6;simp [hwL];refine jo7 hcr (by simp) ?_;simp;refine CallO.own 9000 hbl (by simp) (by simp) ?_;rintro v h ⟨q1,q2,rfl,rfl⟩ gf9;simp [upH,upS,Blk.rn];intro gf11;refine jo7 hck (by simp [htp]) ?_;simp [hmul,hadd,htl,hsz];refine jo7 hdt (by simp) ?_;simp
set_option maxRecDepth 100000 in
theorem q4b (c:Ci) (hg:c.good) (f:Ft) (q:Pt) (l:Nat) (hl:l < 100000000):qab Tryz.prog gl0 47 [c.v,f.w,qvy l (.spent q),qaa l] (.bool true):=by
 have hcare:=qxl [] [] (by simp) (by simp) (by simp) (by simp)
 have hcr:qab Tryz.prog gl0 95 [.agg [.nil,.nil]] (.tup [.int .i64 0,.int .i64 0]):=
  qab.wide hcare ⟨VLe.agg ⟨VLe.nil',VLe.nil',trivial⟩,trivial⟩ (.refl _)
 have hbl:=qxc c hg;refine jpb 2 jlf rfl ?_;simp [i47,x47,nop,qvy,Ft.w,u8V,qaa];intro gf4 gf5 gf6;refine jo7 hcr (by simp) ?_;simp;refine CallO.own 9000 hbl (by simp) (by simp) ?_;rintro v h ⟨q1,q2,rfl,rfl⟩ gf9;simp [upH,upS,Blk.rn]
end
end Go.Proofs.YtpaopccohkldlaaGreatDoor
