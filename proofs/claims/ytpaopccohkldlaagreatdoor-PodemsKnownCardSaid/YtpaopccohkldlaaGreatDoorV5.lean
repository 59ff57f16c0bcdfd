/- Lemmas. Conditions: none. -/
import Derived.Test.YtpaopccohkldlaaGreatDoorW0
import Derived.Test.YtpaopccohkldlaaGreatDoorS4
import Derived.Test.YtpaopccohkldlaaGreatDoorY3
set_option linter.all false
namespace Go.Proofs.YtpaopccohkldlaaGreatDoor
section
open Go
structure Sea where
 c:Ci
 f:Ft
 cst:List (Int × Int)
 cc:Option Nat
 ord:List Nat
 oc:Option Nat
 w:List Nat
def qlx (x:Int × Int):V:=.agg [.int .i64 x.1,.int .i64 x.2]
structure SG where
 b:Nat
 w:Nat
 s:Nat
 i:Nat
 t:Nat
def Sea.cells (S:Sea) (g:SG) (p:Pt):List V:=[.ptr 9000 g.b 0 0,.sl (S.c.n.map Nd.v) none,.sl (S.c.s.map V.str) none,.sl (S.c.m.map Md.v) none,.sl (qde S.c.o) none,u8V S.f.m,qaa S.f.n,.int .i64 S.f.pin,u8V S.f.v,qaa S.f.o,
 .sl (S.cst.map qlx) S.cc,.own 9001 g.w,.sl (qao S.ord) S.oc,.ref 9003 g.i 0 p.i.length (some p.i.length),.ref 9004 g.t 0 p.s.length (some p.s.length)]
def qif (l:List Nat):List (V × V):=l.zipIdx.map fun x=>(qaa x.1,qaa x.2)
def Sea.H (S:Sea) (g:SG) (p:Pt) (l u:Nat):Hp:=[(9002,.row g.s 15 [.agg (S.cells g p)]),(9003,.row g.i 1 (p.i.map u8V)),(9004,.row g.t 1 (p.s.map u8V)),(9001,.map g.w (qif S.w)),(9000,.row g.b 2 [.agg [qaa l,qaa u]])]
def qu6 (g:SG) (p:Pt) (i:Nat):V:=if i < p.i.length then .ptr 9003 g.i i 0 else .ptr 9004 g.t (i - p.i.length) 0
theorem qtc (S:Sea) (g:SG) (p:Pt) (l u:Nat) (i:Nat) (hi:i < p.i.length + p.s.length) (hb:p.i.length + p.s.length < 1000000) :
  qat Tryz.prog gl0 170 [.ptr 9002 g.s 0 0,qaa i] (S.H g p l u) (fun v h'=>v = qu6 g p i/\h' = S.H g p l u):=by
 refine jpe jka rfl ?_;unfold Sea.H Sea.cells;simp [i170,x170,nop,qaa];by_cases hl:i < p.i.length
 ·simp [hl,nop];refine .done ?_;simp [qu6,hl]
 ·have hw:IntKind.i64.wrap ((i:Int) - (p.i.length:Int)) = ((i - p.i.length:Nat):Int):=qqy (by omega) (by omega);have hl2:i - p.i.length < p.s.length:=by omega
  simp [hl];intro gm;simp [nop,hw,hl2];refine .done ?_;simp [qu6,hl]
end
section
open Go
def Ft.at (c:Ci) (f:Ft):Nat:=if f.q = 0 then f.n else ((c.nd f.n).i.getD (f.q - 1) 0).toNat
def q4t (k:Int):Nat:=if k = 5∨k = 6 then 1 else 0
def qh6 (A M:Nat->Nat) (l:List Int):Bool:=l.any fun x=>decide (A x.toNat + M x.toNat = 1)
def qo6 (c:Ci) (f:Ft) (A M:Nat->Nat) (n:Nat):Option (Nat × Nat):=
 if A n≤1/\M n≤1 then none
 else if ((decide (n = f.n) && decide (f.q ≠ 0)) || qh6 A M (c.nd n).i) && decide ((c.nd n).k ≠ 14) then ((c.nd n).i.find? fun x=>decide (A x.toNat = 2)).map fun x=>(x.toNat,q4t (c.nd n).k)
 else none
def q46 (c:Ci) (f:Ft) (ord:List Nat) (A M:Nat->Nat):Option (Nat × Nat):=
 if A (f.at c) = 2 then some (f.at c,1 - f.v) else ord.findSome? (qo6 c f A M)
def qsh (o:Option (Nat × Nat)):V:=match o with
 | some x=>.tup [qaa x.1,u8V x.2,.bool true]
 | none=>.tup [.int .i64 0,.int .u8 0,.bool false]
def qpm (k:Int):Nat × Bool:=if k = 5∨k = 6 then (0,true) else if k = 7∨k = 8 then (1,true) else (2,false)
theorem jb4 (k:Int):qab Tryz.prog gl0 221 [.int .u8 k] (.tup [u8V (qpm k).1,.bool (qpm k).2]):=by
 refine jpb 2 jd2 rfl ?_;simp [jip,jm9];by_cases h5:k = 5
 ·simp [h5,qpm,u8V]
 by_cases h6:k = 6
 ·simp [h6,qpm,u8V]
 by_cases h7:k = 7
 ·simp [h7,qpm,u8V]
 by_cases h8:k = 8
 ·simp [h8,qpm,u8V]
 simp [h5,h6,h7,h8,qpm,u8V]
structure Sea.ok (S:Sea):Prop where
 g:S.c.good
 f:S.f.ok S.c
 m:S.f.m = 0
 o:∀ x ∈ S.ord,x < S.c.n.length
 ol:S.ord.length < 1000000
def qky:XC:=xs2 (xs2 (xs2 (xs2 qoz)))
def jba (S:Sea) (g:SG) (p:Pt) (l u:Nat) (r:Option (Nat × Nat)) (v:V) (h':Hp):Prop:=v = qsh r/\h' = S.H g p l u
def xbk:XC->XC
 | .block _ a=>a
 | c=>c
def xlp:XC->XC
 | .loop a=>a
 | c=>c
def qn3:XC:=xlp (xbk (xs2 (xs1 qky)))
def qj2:XC:=xbk (xs1 (xs2 (xs2 qn3)))
def q9y:XC:=xs2 (xs2 (xs2 (xs2 qj2)))
def q78:XC:=xs2 (xs2 (xs2 qj2))
theorem q3e:q78 = .seq (xs1 (xs2 (xs2 (xs2 qj2)))) q9y:=rfl
theorem q3b:qky = .seq (.seq (xs1 (xs1 qky)) (.block 0 (.loop (.seq (xs1 qn3) (.seq (xs1 (xs2 qn3)) (.seq (.block 1 (.seq (xs1 qj2) (.seq (xs1 (xs2 qj2)) (.seq (xs1 (xs2 (xs2 qj2))) q78)))) (xs2 (xs2 (xs2 qn3))))))))) (xs2 qky):=rfl
theorem qvf {A M:Nat->Nat} {l:List Int} {j:Nat} (h:j < l.length):qh6 A M (l.take (j + 1)) = (qh6 A M (l.take j) || decide (A (l[j]).toNat + M (l[j]).toNat = 1)):=by
 unfold qh6;rw [List.take_succ_eq_append_getElem h,List.any_append];simp
theorem jbd (S:Sea) (hS:S.ok) (A M:Nat->Nat) (hA:∀ i,A i≤3) (hM:∀ i,M i≤3) (ca cb:Option Nat) (Q:IQ) (fr:Fr) (h:Hp) (B0 B1 B2 B3 B4:Blk) (n g12:Nat) (D:Bool)
  (hn:n < S.c.n.length) (ps:V) (l1 l2 l3:V)
  (h0:lk fr 0 = some ps) (h1:lk fr 1 = some (.sl (tU S.c.n.length A) ca)) (h2:lk fr 2 = some (.sl (tU S.c.n.length M) cb)) (h12:lk fr 12 = some (.ptr 12 g12 0 0)) (h13:lk fr 13 = some (.bool D))
  (h66:lk fr 66 = some l1) (h67:lk fr 67 = some l2) (h68:lk fr 68 = some l3) (hsb:Sub [(12,.row g12 4 [(S.c.nd n).v]),(9002,B2),(9003,B3),(9004,B4),(9001,B1),(9000,B0)] h)
  (hf:∀ x fr',((D || qh6 A M (S.c.nd n).i) && decide ((S.c.nd n).k ≠ 14)) = true->(S.c.nd n).i.find? (fun x=>decide (A x.toNat = 2)) = some x->lk fr' 6 = some (qaa x.toNat)->lk fr' 7 = some (u8V (q4t (S.c.nd n).k))->lk fr' 8 = some (.bool true)->Q .ret fr' [(12,.row g12 4 [(S.c.nd n).v]),(9002,B2),(9003,B3),(9004,B4),(9001,B1),(9000,B0)])
  (hq:∀ fr',(((D || qh6 A M (S.c.nd n).i) && decide ((S.c.nd n).k ≠ 14)) = true->(S.c.nd n).i.find? (fun x=>decide (A x.toNat = 2)) = none)->lk fr' 0 = some ps->lk fr' 1 = some (.sl (tU S.c.n.length A) ca)->lk fr' 2 = some (.sl (tU S.c.n.length M) cb)->lk fr' 66 = some l1->lk fr' 67 = some l2->lk fr' 68 = some l3->Q .normal fr' [(12,.row g12 4 [(S.c.nd n).v]),(9002,B2),(9003,B3),(9004,B4),(9001,B1),(9000,B0)]) :
  q9y.wpF Tryz.prog gl0 Q fr h:=by
 have hh:=hsb.spec 12 (.row g12 4 [(S.c.nd n).v]) (by simp);obtain ⟨y,hy⟩:∃ y,S.c.nd n = y:=⟨_,rfl⟩;have hyi:=hS.g.val.i n hn;have hyl:=hS.g.val.l n hn;rw [hy] at hyi hyl hf hq hsb hh;obtain ⟨N,hN⟩:∃ N,S.c.n.length = N:=⟨_,rfl⟩;rw [hN] at h1 h2 hyi hq;simp [q9y,qj2,qn3,qky,xs1,xs2,xbk,xlp,qoz,h12,hh]
 refine jpa (X:=Nat) (fun j=>[(112,qaa j),(111,qaa y.i.length),(110,.sl (qde y.i) none),(13,.bool (D || qh6 A M (y.i.take j))),(12,.ptr 12 g12 0 0),(0,ps),(1,.sl (tU N A) ca),(2,.sl (tU N M) cb),(66,l1),(67,l2),(68,l3)])
  (fun _=>[(12,.row g12 4 [y.v]),(9002,B2),(9003,B3),(9004,B4),(9001,B1),(9000,B0)]) (fun j=>j≤y.i.length) (fun j=>y.i.length - j) 0 (Nat.zero_le _) (by simp [qaa,h0,h1,h2,h12,h13,h66,h67,h68,qh6]) hsb ?_
 intro j hj;simp [qaa];refine jo8 (fun hb=>?_) (fun hb=>?_)
 ·have hj2:j < y.i.length:=jpf hb;have hw:=qa1 j (by omega);obtain ⟨x,hx⟩:∃ x,y.i[j] = x:=⟨_,rfl⟩;have hxb:=hyi x (by rw [<- hx]; exact jpk hj2);have hsn:=qvf (A:=A) (M:=M) hj2;rw [hx] at hsn;obtain ⟨z,rfl⟩:∃ z:Nat,x = z:=⟨x.toNat,(Int.toNat_of_nonneg hxb.1).symm⟩;have hzN:z < N:=by omega
  have hAz:=hA z;have hMz:=hM z
  cases hD:(D || qh6 A M (y.i.take j)) with
  | true=>
   simp [hj2,qa0,hx]
   have hD2:D = true∨qh6 A M (y.i.take (j + 1)) = true:=by
    rcases Bool.or_eq_true_iff.1 hD with h | h
    ·exact .inl h
    ·exact .inr (by rw [hsn,h]; rfl)
   exact ⟨j + 1,hj2,⟨hw,hD2⟩,by omega⟩
  | false=>
   have hsum:IntKind.u8.wrap ((A z:Int) + (M z:Int)) = ((A z + M z:Nat):Int):=by rw [qiq] <;> omega
   have hdec:decide (((A z + M z:Nat):Int) = 1) = decide (A z + M z = 1):=by congr 1; apply propext; omega
   simp [hj2,qa0,hx];intro gm;simp [hzN,qb1,u8V,hsum,hw];refine ⟨j + 1,hj2,⟨by simp,?_⟩,by omega⟩;have hD2:=Bool.or_eq_false_iff.1 hD;rw [hsn,hD2.1,hD2.2];simpa using hdec
 ·have hj:j = y.i.length:=by have:=jpg hb; omega
  subst hj;rw [List.take_length];generalize (D || qh6 A M y.i) = E at hf hq ⊢;simp
  refine jpa (X:=Nat) (fun j=>[(133,qaa j),(132,qaa y.i.length),(131,.sl (qde y.i) none),(13,.bool E),(12,.ptr 12 g12 0 0),(0,ps),(1,.sl (tU N A) ca),(2,.sl (tU N M) cb),(66,l1),(67,l2),(68,l3)])
   (fun _=>[(12,.row g12 4 [y.v]),(9002,B2),(9003,B3),(9004,B4),(9001,B1),(9000,B0)]) (fun j=>j≤y.i.length/\((E && decide (y.k ≠ 14)) = true->(y.i.find? fun x=>decide (A x.toNat = 2)) = (y.i.drop j).find? fun x=>decide (A x.toNat = 2))) (fun j=>y.i.length - j) 0 ⟨Nat.zero_le _,fun _=>rfl⟩ (by simp [qaa]) (by simp) ?_
  rintro j ⟨hj,hfd⟩;simp [qaa];refine jo8 (fun hb=>?_) (fun hb=>?_)
  ·have hj2:j < y.i.length:=jpf hb;have hw:=qa1 j (by omega);obtain ⟨x,hx⟩:∃ x,y.i[j] = x:=⟨_,rfl⟩;have hxb:=hyi x (by rw [<- hx]; exact jpk hj2);rw [List.drop_eq_getElem_cons hj2,hx,List.find?_cons] at hfd;obtain ⟨z,rfl⟩:∃ z:Nat,x = z:=⟨x.toNat,(Int.toNat_of_nonneg hxb.1).symm⟩;have hzN:z < N:=by omega
   have hAz:=hA z;have hk:=jb4 y.k;by_cases hgo:(E && decide (y.k ≠ 14)) = true
   ·obtain ⟨rfl,hk14⟩:E = true/\y.k ≠ 14:=by simpa using hgo
    simp [hj2,qa0,hx,hk14,hzN,qb1,u8V];refine jo8 (fun hb=>?_) (fun hb=>?_)
    ·have hA2:A z = 2:=jpf hb;have hfz:=hfd hgo;simp [hA2] at hfz;simp;refine jo7 hk (by simp) ?_;have fin:∀ fr',lk fr' 6 = some (qaa z)->lk fr' 7 = some (u8V (q4t y.k))->lk fr' 8 = some (.bool true)->Q .ret fr' [(12,.row g12 4 [y.v]),(9002,B2),(9003,B3),(9004,B4),(9001,B1),(9000,B0)]:=fun fr' e6 e7 e8=>hf (z:Int) fr' hgo hfz (by simpa using e6) e7 e8;unfold q4t at fin;unfold qpm;have w1:IntKind.u8.wrap 1 = 1:=by decide
     have w0:IntKind.u8.wrap 0 = 0:=by decide
     by_cases h5:y.k = 5∨y.k = 6
     ·simp [h5,u8V,w1];exact fin _ (by simp [qaa]) (by simp [h5,u8V]) (by simp)
     ·by_cases h7:y.k = 7∨y.k = 8
      ·simp [h5,h7,u8V,w0];exact fin _ (by simp [qaa]) (by simp [h5,u8V]) (by simp)
      ·simp [h5,h7,u8V];exact fin _ (by simp [qaa]) (by simp [h5,u8V]) (by simp)
    ·have hA2:¬ A z = 2:=jpg hb;have hfz:=hfd hgo;simp [hA2] at hfz;simp;refine ⟨j + 1,⟨hj2,by simpa using hfz⟩,hw,by omega⟩
   ·cases E with
    | false=>
     simp [hj2,qa0,hx];exact ⟨j + 1,hj2,hw,by omega⟩
    | true=>
     have hk14:y.k = 14:=by simpa using hgo
     simp [hj2,qa0,hx,hk14];exact ⟨j + 1,hj2,hw,by omega⟩
  ·have hj:j = y.i.length:=by have:=jpg hb; omega
   subst hj;rw [List.drop_length] at hfd;simp;exact hq _ (by simpa using hfd) (by simp) (by simp) (by simp) (by simp) (by simp) (by simp)
theorem jbc (S:Sea) (hS:S.ok) (A M:Nat->Nat) (hA:∀ i,A i≤3) (hM:∀ i,M i≤3) (ca cb:Option Nat) (Q:IQ) (fr:Fr) (h:Hp) (g:SG) (p:Pt) (B0 B1 B3 B4:Blk) (n g12:Nat)
  (hn:n < S.c.n.length) (l1 l2 l3:V)
  (h0:lk fr 0 = some (.ptr 9002 g.s 0 0)) (h1:lk fr 1 = some (.sl (tU S.c.n.length A) ca)) (h2:lk fr 2 = some (.sl (tU S.c.n.length M) cb)) (h12:lk fr 12 = some (.ptr 12 g12 0 0)) (h11:lk fr 11 = some (qaa n))
  (h66:lk fr 66 = some l1) (h67:lk fr 67 = some l2) (h68:lk fr 68 = some l3) (hsb:Sub [(12,.row g12 4 [(S.c.nd n).v]),(9002,.row g.s 15 [.agg (S.cells g p)]),(9003,B3),(9004,B4),(9001,B1),(9000,B0)] h)
  (hf:∀ x fr',(((decide (n = S.f.n) && decide (S.f.q ≠ 0)) || qh6 A M (S.c.nd n).i) && decide ((S.c.nd n).k ≠ 14)) = true->(S.c.nd n).i.find? (fun x=>decide (A x.toNat = 2)) = some x->lk fr' 6 = some (qaa x.toNat)->lk fr' 7 = some (u8V (q4t (S.c.nd n).k))->lk fr' 8 = some (.bool true)->Q .ret fr' [(12,.row g12 4 [(S.c.nd n).v]),(9002,.row g.s 15 [.agg (S.cells g p)]),(9003,B3),(9004,B4),(9001,B1),(9000,B0)])
  (hq:∀ fr',((((decide (n = S.f.n) && decide (S.f.q ≠ 0)) || qh6 A M (S.c.nd n).i) && decide ((S.c.nd n).k ≠ 14)) = true->(S.c.nd n).i.find? (fun x=>decide (A x.toNat = 2)) = none)->lk fr' 0 = some (.ptr 9002 g.s 0 0)->lk fr' 1 = some (.sl (tU S.c.n.length A) ca)->lk fr' 2 = some (.sl (tU S.c.n.length M) cb)->lk fr' 66 = some l1->lk fr' 67 = some l2->lk fr' 68 = some l3->Q .normal fr' [(12,.row g12 4 [(S.c.nd n).v]),(9002,.row g.s 15 [.agg (S.cells g p)]),(9003,B3),(9004,B4),(9001,B1),(9000,B0)]) :
  q78.wpF Tryz.prog gl0 Q fr h:=by
 have hT:=jbd S hS A M hA hM ca cb Q;have hh:=hsb.spec 9002 _ (by simp; rfl);have hq0:S.f.q = 0↔S.f.pin < 0:=by unfold Ft.pin; omega
 rw [q3e];unfold Sea.cells at hh;by_cases hnf:n = S.f.n
 ·by_cases hq1:S.f.q = 0
  ·have hpn:¬ 0≤S.f.pin:=by have:=hq0.1 hq1; omega
   simp [qj2,qn3,qky,xs1,xs2,xbk,xlp,qoz,nop,h0,h11,hh,qaa,hnf,hpn];refine hT _ h B0 B1 _ B3 B4 n g12 false hn (.ptr 9002 g.s 0 0) l1 l2 l3 (by simp [h0]) (by simp [h1]) (by simp [h2]) (by simp [h12]) (by simp) (by simp [h66]) (by simp [h67]) (by simp [h68]) hsb (fun x fr' e=>hf x fr' (by simpa [hq1] using e)) (fun fr' e=>hq fr' (by simpa [hq1] using e))
  ·have hpn:0≤S.f.pin:=by unfold Ft.pin; omega
   simp [qj2,qn3,qky,xs1,xs2,xbk,xlp,qoz,nop,h0,h11,hh,qaa,hnf,hpn];refine hT _ h B0 B1 _ B3 B4 n g12 true hn (.ptr 9002 g.s 0 0) l1 l2 l3 (by simp [h0]) (by simp [h1]) (by simp [h2]) (by simp [h12]) (by simp) (by simp [h66]) (by simp [h67]) (by simp [h68]) hsb (fun x fr' e=>hf x fr' (by simpa [hq1,hnf] using e)) (fun fr' e=>hq fr' (by simpa [hq1,hnf] using e))
 ·simp [qj2,qn3,qky,xs1,xs2,xbk,xlp,qoz,nop,h0,h11,hh,qaa,hnf];refine hT _ h B0 B1 _ B3 B4 n g12 false hn (.ptr 9002 g.s 0 0) l1 l2 l3 (by simp [h0]) (by simp [h1]) (by simp [h2]) (by simp [h12]) (by simp) (by simp [h66]) (by simp [h67]) (by simp [h68]) hsb (fun x fr' e=>hf x fr' (by simpa [hnf] using e)) (fun fr' e=>hq fr' (by simpa [hnf] using e))
theorem jbb (S:Sea) (hS:S.ok) (g:SG) (p:Pt) (l u:Nat) (A M:Nat->Nat) (hA:∀ i,A i≤3) (hM:∀ i,M i≤3) (ca cb:Option Nat) (fr:Fr)
  (h0:lk fr 0 = some (.ptr 9002 g.s 0 0)) (h1:lk fr 1 = some (.sl (tU S.c.n.length A) ca)) (h2:lk fr 2 = some (.sl (tU S.c.n.length M) cb)) :
  qky.wpF Tryz.prog gl0 (qz4 jct.rs (jba S g p l u (S.ord.findSome? (qo6 S.c S.f A M)))) fr (S.H g p l u):=by
 have hol:=hS.ol;have hMd:=fun Q fr h=>jbc S hS A M hA hM ca cb Q fr h g p;obtain ⟨N,hN⟩:∃ N,S.c.n.length = N:=⟨_,rfl⟩;rw [hN] at h1 h2 hMd;rw [q3b];generalize hR:S.ord.findSome? (qo6 S.c S.f A M) = R;have hSH:S.H g p l u = [(9002,.row g.s 15 [.agg (S.cells g p)]),(9003,.row g.i 1 (p.i.map u8V)),(9004,.row g.t 1 (p.s.map u8V)),(9001,.map g.w (qif S.w)),(9000,.row g.b 2 [.agg [qaa l,qaa u]])]:=rfl;unfold jba;rw [hSH];generalize Blk.row g.i 1 (p.i.map u8V) = B3;generalize Blk.row g.t 1 (p.s.map u8V) = B4;generalize Blk.map g.w (qif S.w) = B1;generalize Blk.row g.b 2 [.agg [qaa l,qaa u]] = B0;obtain ⟨C,hC⟩:∃ C,S.cells g p = C:=⟨_,rfl⟩;rw [hC] at hMd ⊢;have c1:(∀ h:1 < C.length,C[1] = .sl (S.c.n.map Nd.v) none)/\(∀ h:12 < C.length,C[12] = .sl (qao S.ord) S.oc)/\C.length = 15:=by subst hC; exact ⟨fun _=>rfl,fun _=>rfl,rfl⟩
 simp [qn3,qj2,qky,xs1,xs2,xbk,xlp,qoz,jct,nop,h0,c1.1,c1.2.1,c1.2.2]
 refine jpa (X:=Nat) (fun i=>[(68,qaa i),(67,qaa S.ord.length),(66,.sl (qao S.ord) S.oc),(0,.ptr 9002 g.s 0 0),(1,.sl (tU N A) ca),(2,.sl (tU N M) cb)])
  (fun _=>[(9002,.row g.s 15 [.agg C]),(9003,B3),(9004,B4),(9001,B1),(9000,B0)]) (fun i=>i≤S.ord.length/\R = (S.ord.drop i).findSome? (qo6 S.c S.f A M)) (fun i=>S.ord.length - i) 0 ⟨Nat.zero_le _,by simp [hR]⟩ (by simp [qaa,h0,h1,h2]) (by simp) ?_
 rintro i ⟨hi,hr⟩;simp [qaa];refine jo8 (fun hb=>?_) (fun hb=>?_)
 ·have hi2:i < S.ord.length:=jpf hb;have hw:=qa1 i (by omega);obtain ⟨n,hn⟩:∃ n,S.ord[i] = n:=⟨_,rfl⟩;have hnN:n < N:=by rw [<- hN,<- hn]; exact hS.o _ (jpk hi2)
  have hnc:n < S.c.n.length:=by omega
  have hnd:=S.c.nd_get hnc;rw [List.drop_eq_getElem_cons hi2,hn,List.findSome?_cons] at hr;obtain ⟨y,hy⟩:∃ y,S.c.nd n = y:=⟨_,rfl⟩;have hMd:=fun Q fr h=>hMd Q fr h B0 B1 B3 B4 n;rw [hy] at hMd hnd;by_cases hs:A n≤1/\M n≤1
  ·have hnone:qo6 S.c S.f A M n = none:=by unfold qo6; rw [if_pos hs]
   rw [hnone] at hr;simp [hi2,qap,hn,hnc,nop,c1.1,c1.2.2];intro gf;simp [hnN,qb1,u8V,hs.1,hs.2];exact ⟨i + 1,⟨hi2,hr⟩,hw,by omega⟩
  ·by_cases h1A:A n≤1
   ·have h1M:¬ M n≤1:=fun h=>hs ⟨h1A,h⟩;simp [hi2,qap,hn,hnc,nop,c1.1,c1.2.2];intro gf;simp [hnN,qb1,u8V,h1A,h1M];rw [<- hnd];refine hMd _ _ _ (gf 12) hnN (.sl (qao S.ord) S.oc) (qaa S.ord.length) (qaa i) (by simp) (by simp) (by simp) (by simp) (by simp [qaa]) (by simp) (by simp [qaa]) (by simp [qaa]) (by simp) (fun x fr' k1 k2 k3 k4 k5=>?_) (fun fr' k1 k2 k3 k4 k5 k6 k7=>?_)
    ·have hsome:qo6 S.c S.f A M n = some (x.toNat,q4t y.k):=by unfold qo6; rw [if_neg hs,hy,if_pos k1,k2]; rfl
     rw [hsome] at hr;subst hr;simp;refine .done ?_;simp [k3,k4,k5,qsh]
     done
    ·have hnone:qo6 S.c S.f A M n = none:=by
      unfold qo6;rw [if_neg hs,hy];split
      ·rename_i hc; rw [k1 hc]; rfl
      ·rfl
     rw [hnone] at hr;simp [k2,k3,k4,k5,k6,k7,qaa];exact ⟨i + 1,⟨hi2,hr⟩,hw,by omega⟩
   ·simp [hi2,qap,hn,hnc,nop,c1.1,c1.2.2];intro gf;simp [hnN,qb1,u8V,h1A];rw [<- hnd];refine hMd _ _ _ (gf 12) hnN (.sl (qao S.ord) S.oc) (qaa S.ord.length) (qaa i) (by simp) (by simp) (by simp) (by simp) (by simp [qaa]) (by simp) (by simp [qaa]) (by simp [qaa]) (by simp) (fun x fr' k1 k2 k3 k4 k5=>?_) (fun fr' k1 k2 k3 k4 k5 k6 k7=>?_)
    ·have hsome:qo6 S.c S.f A M n = some (x.toNat,q4t y.k):=by unfold qo6; rw [if_neg hs,hy,if_pos k1,k2]; rfl
     rw [hsome] at hr;subst hr;simp;refine .done ?_;simp [k3,k4,k5,qsh]
     done
    ·have hnone:qo6 S.c S.f A M n = none:=by
      unfold qo6;rw [if_neg hs,hy];split
      ·rename_i hc; rw [k1 hc]; rfl
      ·rfl
     rw [hnone] at hr;simp [k2,k3,k4,k5,k6,k7,qaa];exact ⟨i + 1,⟨hi2,hr⟩,hw,by omega⟩
 ·have hi3:i = S.ord.length:=by have:=jpg hb; omega
  subst hi3;rw [List.drop_length] at hr;simp at hr;subst hr;simp;refine .done ?_;simp [qsh]
  done
def q8g:XC:=xs2 (xs2 (xs2 qoz))
theorem q97:qoz = .seq (xs1 qoz) (.seq (xs1 (xs2 qoz)) (.seq (xs1 (xs2 (xs2 qoz))) q8g)):=rfl
theorem q3l:q8g = .seq (xs1 (xs2 (xs2 (xs2 qoz)))) qky:=rfl
theorem jhv (S:Sea) (hS:S.ok) (g:SG) (p:Pt) (l u:Nat) (A M:Nat->Nat) (hA:∀ i,A i≤3) (hM:∀ i,M i≤3) (ca cb:Option Nat) :
  qat Tryz.prog gl0 194 [.ptr 9002 g.s 0 0,.sl (tU S.c.n.length A) ca,.sl (tU S.c.n.length M) cb] (S.H g p l u) (jba S g p l u (q46 S.c S.f S.ord A M)):=by
 refine jpe jkm rfl ?_;have hL:=fun fr=>jbb S hS g p l u A M hA hM ca cb fr;have hfn:=hS.f.n;have hfq:=hS.f.q;have hfv:=hS.f.v;have hval:=hS.g.val;have hyi:=hval.i S.f.n hfn;have hyl:=hval.l S.f.n hfn;have hnd:=S.c.nd_get hfn;obtain ⟨N,hN⟩:∃ N,S.c.n.length = N:=⟨_,rfl⟩;rw [hN] at hL hyi ⊢;unfold q46
 have hat:∀ m:Nat,S.f.at S.c = m->m < N->∀ fr,lk fr 0 = some (.ptr 9002 g.s 0 0)->lk fr 1 = some (.sl (tU N A) ca)->lk fr 2 = some (.sl (tU N M) cb)->lk fr 9 = some (qaa m)->
   XC.wpF Tryz.prog gl0 q8g (qz4 jct.rs (jba S g p l u (if A (S.f.at S.c) = 2 then some (S.f.at S.c,1 - S.f.v) else S.ord.findSome? (qo6 S.c S.f A M)))) fr (S.H g p l u):=by
  intro m hm hmN fr k0 k1 k2 k9;rw [hm,q3l];by_cases h2:A m = 2
  ·rw [if_pos h2];have hsub:IntKind.u8.wrap (1 - (S.f.v:Int)) = ((1 - S.f.v:Nat):Int):=by rw [qiq] <;> omega
   simp [xs1,xs2,qoz,k0,k1,k2,k9,qaa,hmN,qb1,u8V,h2];intro gm;simp [nop,Sea.H,Sea.cells,u8V,hsub];refine .done ?_;simp [jba,qsh,qaa,u8V,jct,Sea.H,Sea.cells]
  ·rw [if_neg h2];simp [xs1,xs2,qoz,k0,k1,k2,k9,qaa,hmN,qb1,u8V,h2];exact hL _ (by simp [k0]) (by simp [k1]) (by simp [k2])
 show qoz.wpF _ _ _ _ _;rw [q97];by_cases hq:S.f.q = 0
 ·have hpn:¬ 0≤S.f.pin:=by unfold Ft.pin; omega
  have hat2:=hat S.f.n (by unfold Ft.at; rw [if_pos hq]) (by omega);simp only [Sea.H,Sea.cells,qaa,u8V] at hat2;simp [xs1,xs2,qoz,nop,Sea.H,Sea.cells,qaa,u8V,hpn];exact hat2 _ (by simp) (by simp) (by simp) (by simp)
 ·have hpe:S.f.pin = ((S.f.q - 1:Nat):Int):=by unfold Ft.pin; omega
  obtain ⟨y,hy⟩:∃ y,S.c.nd S.f.n = y:=⟨_,rfl⟩;rw [hy] at hyi hyl hfq hnd;obtain ⟨k,hk⟩:∃ k,S.f.q - 1 = k:=⟨_,rfl⟩;rw [hk] at hpe;have hkl:k < y.i.length:=by omega
  obtain ⟨x,hx⟩:∃ x,y.i[k] = x:=⟨_,rfl⟩;have hxb:=hyi x (by rw [<- hx]; exact jpk hkl);obtain ⟨z,rfl⟩:∃ z:Nat,x = z:=⟨x.toNat,(Int.toNat_of_nonneg hxb.1).symm⟩;have hat2:=hat z (by unfold Ft.at; rw [if_neg hq,hy,hk,jph,jpl hkl,hx]; rfl) (by omega);simp only [Sea.H,Sea.cells,qaa,u8V] at hat2;simp only [hpe] at hat2 ⊢;have hn0:∃ h,y = S.c.n[S.f.n]'h:=⟨hfn,hnd⟩;simp [xs1,xs2,qoz,nop,Sea.H,Sea.cells,qaa,u8V,hpe];intro gm;simp [hfn,<- hnd,hkl,qa0,hx];exact hat2 _ (by simp) (by simp) (by simp) (by simp)
end
section
open Go
def qcy:List Nat->Nat->Nat->Option Nat
 | [],_,_=>none
 | x :: l,n,k=>if x = n then some k else qcy l n (k + 1)
theorem qlp:∀ (l:List Nat) (n k r:Nat),qcy l n k = some r->k≤r/\r < k + l.length
 | [],_,_,_,h=>by simp [qcy] at h
 | x :: l,n,k,r,h=>by
  unfold qcy at h;split at h
  ·cases h; simp
  ·have:=qlp l n (k + 1) r h;simp; omega
theorem qgq (n:Nat):∀ (l:List Nat) (k i:Nat),∃ m,qf7 (qaa n) ((l.zipIdx k).map fun x=>(qaa x.1,qaa x.2)) i = some ((qcy l n k).map fun r=>(m,qaa r))
 | [],k,i=>⟨0,rfl⟩
 | x :: l,k,i=>by
  obtain ⟨m,hm⟩:=qgq n l (k + 1) (i + 1);by_cases e:x = n
  ·subst e;exact ⟨i,by simp [qcy,qf7,qsq,qaa]⟩
  ·refine ⟨m,?_⟩;have e2:decide ((n:Int) = (x:Int)) = false:=by simp; omega
   simp [qcy,qf7,qsq,qaa,e,e2] at hm ⊢;rw [show decide (n = x) = false by simp; omega];exact hm
def jcz (k:Int):Bool:=decide (k ∈ [(4:Int),6,8,10])
theorem jc0 (k:Int):qab Tryz.prog gl0 222 [.int .u8 k] (.bool (jcz k)):=by
 have h:=qh5 k [4,6,8,10] (some 4) (by simp);refine jpb 2 jd3 rfl ?_;simp [jiq,jna];intro gf;refine CallO.borrow 2 h (by simp [frz]) rfl ?_;simp [jcz]
def Sea.cost (S:Sea) (v x:Nat):Int:=if v = 1 then (S.cst.getD x (0,0)).2 else (S.cst.getD x (0,0)).1
def qrk (S:Sea) (A:Nat->Nat) (v:Nat) (b:Int × Int) (x:Int):Int × Int:=if A x.toNat = 2/\S.cost v x.toNat < b.2 then (x,S.cost v x.toNat) else b
def qdc (S:Sea) (A:Nat->Nat) (v:Nat) (l:List Int):Int × Int:=l.foldl (qrk S A v) (-1,1073741825)
def qin (S:Sea) (n v:Nat):Nat:=if jcz (S.c.nd n).k = true then qjb v else v
def qh3 (S:Sea) (p:Pt) (A:Nat->Nat):Nat->Nat->Nat->Nat × Nat × Bool
 | 0,_,_=>(0,0,false)
 | k + 1,n,v=>match qcy S.w n 0 with
  | some i=>(i,v,decide (p.bit i = 2))
  | none=>if (qdc S A (qin S n v) (S.c.nd n).i).1 < 0 then (0,0,false) else qh3 S p A k (qdc S A (qin S n v) (S.c.nd n).i).1.toNat (qin S n v)
theorem jdt {f:Nat->Nat}:∀ {l:List Nat} {x:Nat},x ∈ l->f x < mx f l
 | y :: l,x,h=>by
  rw [qn8];rcases List.mem_cons.1 h with rfl | h
  ·omega
  ·have:=jdt (f:=f) h; omega
theorem qta (S:Sea) (A:Nat->Nat) (v:Nat):∀ (l:List Int) (b:Int × Int),(l.foldl (qrk S A v) b).1 = b.1∨(l.foldl (qrk S A v) b).1 ∈ l
 | [],b=>.inl rfl
 | x :: l,b=>by
  rw [List.foldl_cons];rcases qta S A v l (qrk S A v b x) with h | h
  ·rw [h];unfold qrk;split
   ·exact .inr List.mem_cons_self
   ·exact .inl rfl
  ·exact .inr (List.mem_cons_of_mem _ h)
structure Sea.okW (S:Sea):Prop where
 w:∀ n,n < S.c.n.length->qcy S.w n 0 = none->qb3 S.c n = true
 wl:S.w.length < 1000000
 cl:S.cst.length = S.c.n.length
 cb:∀ x ∈ S.cst,-1000000000000 < x.1/\x.1 < 1000000000000/\-1000000000000 < x.2/\x.2 < 1000000000000
theorem qj1 (S:Sea) (hS:S.ok) (hW:S.okW) (A:Nat->Nat) (n v:Nat) (hn:n < S.c.n.length) (hw:qcy S.w n 0 = none) (hb:¬ (qdc S A v (S.c.nd n).i).1 < 0) :
  (qdc S A v (S.c.nd n).i).1.toNat < S.c.n.length/\qhy S.c (qdc S A v (S.c.nd n).i).1.toNat < qhy S.c n:=by
 rcases qta S A v (S.c.nd n).i (-1,1073741825) with h | h
 ·exact absurd (show (qdc S A v (S.c.nd n).i).1 < 0 by rw [qdc,h]; decide) hb
 ·have hx:=hS.g.val.i n hn _ h;refine ⟨by unfold qdc; omega,?_⟩;have hc:=hW.w n hn hw
  have hm:(qdc S A v (S.c.nd n).i).1.toNat ∈ S.c.g n:=by
   rw [qiw hc];exact List.mem_map_of_mem h
  rw [hS.g.ac.lv n hn];exact jdt hm
theorem qes (S:Sea) (hS:S.ok) (hW:S.okW) (p:Pt) (A:Nat->Nat):∀ (k n v:Nat),n < S.c.n.length->qhy S.c n < k->qh3 S p A k n v = qh3 S p A (qhy S.c n + 1) n v
 | 0,n,v,hn,h=>by omega
 | k + 1,n,v,hn,h=>by
  unfold qh3
  cases hw:qcy S.w n 0 with
  | some i=>rfl
  | none=>
   simp only [];by_cases hb:(qdc S A (qin S n v) (S.c.nd n).i).1 < 0
   ·rw [if_pos hb,if_pos hb]
   ·rw [if_neg hb,if_neg hb];obtain ⟨h1,h2⟩:=qj1 S hS hW A n (qin S n v) hn hw hb;rw [qes S hS hW p A k _ _ h1 (by omega),qes S hS hW p A (qhy S.c n) _ _ h1 h2]
def qi6 (S:Sea) (p:Pt) (A:Nat->Nat) (n v:Nat):Nat × Nat × Bool:=qh3 S p A S.c.n.length n v
theorem qu5 (S:Sea) (hS:S.ok) (p:Pt) (A:Nat->Nat) (n v i:Nat) (h:qcy S.w n 0 = some i):qi6 S p A n v = (i,v,decide (p.bit i = 2)):=by
 have:=hS.g.n0;unfold qi6
 cases hN:S.c.n.length with
 | zero=>omega
 | succ k=>simp [qh3,h]
theorem qu4 (S:Sea) (hS:S.ok) (hW:S.okW) (p:Pt) (A:Nat->Nat) (n v:Nat) (hn:n < S.c.n.length) (h:qcy S.w n 0 = none) :
  qi6 S p A n v = if (qdc S A (qin S n v) (S.c.nd n).i).1 < 0 then (0,0,false) else qi6 S p A (qdc S A (qin S n v) (S.c.nd n).i).1.toNat (qin S n v):=by
 have hlt:=hS.g.ac.lv.lt hS.g.val.g;unfold qi6;rw [qes S hS hW p A _ n v hn (hlt n hn)]
 conv=>lhs; unfold qh3
 rw [h];simp only [];by_cases hb:(qdc S A (qin S n v) (S.c.nd n).i).1 < 0
 ·rw [if_pos hb,if_pos hb]
 ·rw [if_neg hb,if_neg hb];obtain ⟨h1,h2⟩:=qj1 S hS hW A n (qin S n v) hn h hb;rw [qes S hS hW p A _ _ _ h1 h2,qes S hS hW p A S.c.n.length _ _ h1 (hlt _ h1)]
end
end Go.Proofs.YtpaopccohkldlaaGreatDoor
