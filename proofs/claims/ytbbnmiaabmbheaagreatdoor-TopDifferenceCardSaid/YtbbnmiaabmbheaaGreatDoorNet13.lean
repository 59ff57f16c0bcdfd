/- Netlists: contracts, a copy taken for what it holds; same. Conditions: none. Netlists: contracts, the law Check. Conditions: none. -/
import Derived.Test.YtbbnmiaabmbheaaGreatDoorNet9
set_option linter.all false
namespace Go.Proofs.YtbbnmiaabmbheaaGreatDoor
section
open Go
theorem VLe.agg {a b:List V} (h:qg5 a b):VLe (.agg a) (.agg b):=fun G M r hr=>by
 obtain ⟨h1,h2⟩:=h.spec
 cases hr with
 | agg _ arr hs q ho=>exact .agg b arr (by rw [hs,h1]) (fun i hi=>h2 i G M _ (q i (by omega))) (fun i hi=>ho i (by omega))
def qph (a b:V):Prop:=qg5 a.cells b.cells
theorem VLe.slc {a b:List V} {c:Option Nat} (hl:a.length = b.length) (h:∀ i,qph (a.getD i .undef) (b.getD i .undef)):VLe (.sl a c) (.sl b c):=fun G M r hr=>by
 cases hr with
 | slnil cap base rcap hc hb=>
  have:b = []:=List.length_eq_zero_iff.1 (by rw [<- hl]; rfl);subst this;exact .slnil _ _ _ hc hb
 | sl _ _ rb ro rcap sz cells hne hG hsz hb hl2 hc hh ho=>
  rw [hl];refine .sl b c rb ro rcap sz cells (fun e=>hne (List.length_eq_zero_iff.1 (by rw [hl,e]; rfl))) hG (fun i hi=>?_) (by rw [<- hl]; exact hb) (by rw [<- hl]; exact hl2) hc (fun i j hi hj=>?_) (fun i j hi hj=>ho i j (by omega) hj)
  ·rw [<- (h i).spec.1]; exact hsz i (by omega)
  ·exact (h i).spec.2 j G M _ (hh i j (by omega) hj)
def Nd.c (x:Nd):V:=.agg [.int .u8 x.k,.sl (qdh x.i) (some x.i.length),.int .i64 x.a,.int .i64 x.b]
def Md.c (x:Md):V:=.agg [.sl (qdh x.a) (some x.a.length),.sl (qdh x.d) (some x.d.length),.int .i64 x.w]
def Ci.c (c:Ci):V:=.agg [.sl (c.n.map Nd.c) (some c.n.length),.sl (c.s.map .str) (some c.s.length),.sl (c.m.map Md.c) (some c.m.length),.sl (qdh c.o) (some c.o.length)]
theorem qpt (h:Hp) (n:Nat) (cs:List V):frz h n (.agg cs) = .agg (cs.map (frz h n)):=by
 cases n <;> simp [frz,qcj]
structure Ci.lens (c:Ci):Prop where
 n:c.n.length < 1000000
 s:c.s.length < 1000000000
 m:c.m.length < 1000000
 o:c.o.length < 1000000000
 i:∀ x ∈ c.n,x.i.length < 1000000000
 a:∀ x ∈ c.m,x.a.length < 1000000000/\x.d.length < 1000000000
@[simp] theorem q6d (l:List Int):List.take l.length (qdh l) = qdh l:=jkf (by simp)
end
section
open Go
end
section
open Go
def qh6 (i:Nat):List UInt8:=[110,UInt8.ofNat (48 + i / 10),UInt8.ofNat (48 + i % 10)]
theorem qvq (i:Nat) (hi:i < 100):qac Tryz.prog gl0 89 [qab i] (.str (qh6 i)):=by
 refine jj7 2 ok89 rfl ?_;simp [i89,x89,qab];exact (show ∀ j:Fin 100,[110,UInt8.ofNat (IntKind.u8.wrap (IntKind.i64.wrap (48 + IntKind.i64.wrap (((j:Nat):Int) / 10)))).toNat,UInt8.ofNat (IntKind.u8.wrap (IntKind.i64.wrap (48 + (((j:Nat):Int)).tmod 10))).toNat] = qh6 j by decide +kernel) ⟨i,hi⟩
structure Gx where
 k:Nat
 a:Nat
 b:Nat
 d:Nat
 deriving Inhabited
def u8V (n:Nat):V:=.int .u8 (n:Int)
def Gx.v (g:Gx):V:=.agg [u8V g.k,u8V g.a,u8V g.b,u8V g.d]
structure Gx.ok (g:Gx):Prop where
 k:g.k < 256
 a:g.a < 256
 b:g.b < 256
 d:g.d < 256
structure Cx where
 n:Nat
 f:Nat
 d0:Nat
 d1:Nat
 bus:Bool
 mem:Bool
 p0:Nat
 p1:Nat
 p2:Nat
 p3:Nat
 g:List Gx
 o:List Nat
def Cx.v (x:Cx):V:=.agg [u8V x.n,u8V x.f,u8V x.d0,u8V x.d1,.bool x.bus,.bool x.mem,u8V x.p0,u8V x.p1,u8V x.p2,u8V x.p3,.sl (x.g.map Gx.v) none,.sl (x.o.map u8V) none]
def qej:List Nd->Nat->List Nat
 | [],_=>[]
 | x :: r,i=>if x.k = 12 then i :: qej r (i + 1) else qej r (i + 1)
def qd6 (bus:Bool) (g:Gx):Nat:=if bus then g.k % 13 else g.k % 9
def qe5 (bus:Bool) (g:Gx) (l:List Nd):Nat × List Nat:=
 let n:=l.length
 let a:=g.a % n
 let b:=g.b % n
 let d:=g.d % n
 let k:=qd6 bus g
 let ts:=qej l 0
 if k < 6 then (5 + k,if 128≤g.k then [a,b,d] else [a,b])
 else if k = 6 then (4,[a])
 else if k = 7 then (11,[a,b,d])
 else if k = 9∨k = 10 then (12,[a,b])
 else if 10 < k/\0 < ts.length then (13,ts.getD (g.a % ts.length) 0 :: if 1 < ts.length then [ts.getD ((g.a % ts.length + 1) % ts.length) 0] else [])
 else if 240 < g.k then (1 + g.a % 2,[])
 else (3,[a])
def qg6 (q:Nat × List Nat) (v:V) (h:Hp):Prop:=
 (q.2 = []/\v = .agg [u8V q.1,.nil,qab 0,qab 0]/\h = [])∨(q.2 ≠ []/\∃ g cap,v = .agg [u8V q.1,.ref 0 g 0 q.2.length cap,qab 0,qab 0]/\h = [(0,.row g 1 (qaf q.2))])
theorem u8i {x:Nat} (h:x < 256):IntKind.i64.wrap (x:Int) = (x:Int):=by rw [qas] <;> omega
theorem qk2 {a b p:Nat} (h:a % b = p):((a:Int)).tmod (b:Int) = (p:Int):=by rw [<- h]; rfl
theorem q57 (x:Cx) (g:Gx) (l:List Nd) (hg:g.ok) (hn:0 < l.length) (hn2:l.length < 1000):qce Tryz.prog gl0 88 [x.v,g.v,.sl (l.map Nd.v) none] (qg6 (qe5 x.bus g l)):=by
 obtain ⟨q,hq⟩:∃ r,qe5 x.bus g l = r:=⟨_,rfl⟩;rw [hq];obtain ⟨A,hA⟩:∃ p,g.a % l.length = p:=⟨_,rfl⟩;obtain ⟨B,hB⟩:∃ p,g.b % l.length = p:=⟨_,rfl⟩;obtain ⟨D,hD⟩:∃ p,g.d % l.length = p:=⟨_,rfl⟩;obtain ⟨ts,hts⟩:∃ p,qej l 0 = p:=⟨_,rfl⟩;obtain ⟨kd,hkd⟩:∃ p,qd6 x.bus g = p:=⟨_,rfl⟩;simp only [qe5,hA,hB,hD,hts,hkd] at hq;have hne:l ≠ []:=fun h=>by subst h; simp at hn
 refine jj9 ok88 rfl ?_;simp [i88,x88,Cx.v,Gx.v,u8V,hne,u8i hg.a,u8i hg.b,u8i hg.d,qk2 hA,qk2 hB,qk2 hD];intro g3 g4 g6;generalize g3 3 = g3;generalize g4 4 = g4;generalize g6 6 = g6
 refine jj6 (X:=Nat × Option (Nat × List V)) (fun y=>[(12,qab y.1),(11,qbe 51 y.2),(10,qab D),(9,qab B),(8,qab A),(7,qab l.length),(6,.ptr 6 g6 0 0),(4,.ptr 4 g4 0 0),(3,.ptr 3 g3 0 0),(2,.sl (l.map Nd.v) none)])
  (fun y=>[(6,.row g6 4 [.agg [u8V 0,.nil,qab 0,qab 0]]),(4,.row g4 4 [g.v]),(3,.row g3 12 [x.v])] ++ qbj 51 1 y.2)
  (fun y=>y.1≤l.length/\(y.2 = none∨qav y.2 ≠ [])/\(qav y.2).length≤y.1/\jid (qav y.2) = true/\qav y.2 ++ qaf (qej (l.drop y.1) y.1) = qaf ts) (fun y=>l.length - y.1) (0,none) ⟨by simp,by simp,by simp [qav],by simp [qav],by simpa [qav] using congrArg qaf hts⟩ (by simp [qbe,qab]) (by simp [qbj,Cx.v,Gx.v,qab,u8V]) ?_
 rintro ⟨i,acc⟩ ⟨h1,h2,h3,h4,h5⟩;dsimp only at h1 h2 h3 h4 h5;simp [qab];refine jj5 (fun hb=>?_) (fun hb=>?_)
 ·have hi:i < l.length:=jkb hb;have hw:=qbg i (by omega);rw [List.drop_eq_getElem_cons hi] at h5;simp only [qej] at h5;simp [hi,Nd.v];refine jj5 (fun hk=>?_) (fun hk=>?_)
  ·rw [if_pos (jkb hk)] at h5
   cases acc with
   | none=>
    simp [qbe,qbj,hw];refine fun gf1 gf2=>⟨i + 1,some (gf2 51,[qab i]),?_⟩;simp [qav,qaf,qab] at h5 ⊢;exact ⟨⟨by omega,h5⟩,by omega⟩
   | some gl=>
    obtain ⟨gg,xs⟩:=gl;simp only [qav] at h3 h4 h5 h2;have hle:xs.length + 1≤274877906944:=by omega
    simp [qbe,qbj,hw,hle];refine fun gf1 gf2=>⟨i + 1,some (gf2 51,xs ++ [qab i]),?_⟩;simp [qav,qaf,qab] at h5 ⊢;refine ⟨⟨by omega,by omega,qf1 h4 rfl,h5⟩,by omega⟩
  ·rw [if_neg (jkc hk)] at h5;simp [hw];exact ⟨i + 1,acc,⟨by omega,h2,by omega,h4,h5⟩,⟨rfl,rfl⟩,by cases acc <;> simp [qbj],by omega⟩
 ·have hi:¬ i < l.length:=jkc hb;rw [List.drop_eq_nil_of_le (by omega)] at h5;simp [qej,qaf] at h5
  have hw9:x.bus = false->IntKind.i64.wrap (((g.k:Int)).tmod 9) = (kd:Int):=fun e=>by
   rw [show (9:Int) = ((9:Nat):Int) from rfl,qk2 (b:=9) (p:=kd) (by rw [<- hkd,qd6,e]; rfl),qas] <;> have:=hg.k <;> have:kd < 9:=(by rw [<- hkd,qd6,e]; simp; omega) <;> omega
  have hw13:x.bus = true->IntKind.i64.wrap (((g.k:Int)).tmod 13) = (kd:Int):=fun e=>by
   rw [show (13:Int) = ((13:Nat):Int) from rfl,qk2 (b:=13) (p:=kd) (by rw [<- hkd,qd6,e]; rfl),qas] <;> have:=hg.k <;> have:kd < 13:=(by rw [<- hkd,qd6,e]; simp; omega) <;> omega
  have hk13:kd < 13:=by rw [<- hkd,qd6]; split <;> omega
  simp [Gx.v,Cx.v,u8V];refine jj5 (fun hbu=>?_) (fun hbu=>?_)
  case' refine_1=>simp [hw13 hbu]
  case' refine_2=>simp [hw9 hbu]
  all_goals
   refine jj5 (fun t1=>?_) (fun t1=>?_)
   ·have t1':kd < 6:=by have:=jkb t1; omega
    obtain ⟨P,hP⟩:∃ p,5 + kd = p:=⟨_,rfl⟩
    have hPw:IntKind.u8.wrap (5 + IntKind.u8.wrap (kd:Int)) = (P:Int):=by
     simp [IntKind.wrap,IntKind.bits,IntKind.signed]; omega
    rw [if_pos t1',hP] at hq;simp [t1,hPw];intro gf gf1;generalize gf 70 = g70;generalize gf1 14 = g14;refine jj5 (fun t2=>?_) (fun t2=>?_)
    ·have t2':=jkb t2;rw [if_pos t2'] at hq;simp [t2];subst hq;intro gf gf1;refine .move 70 0 _ (by simp) (by simp; rfl) fun g2=>.done ?_;simp;refine ⟨[(0,.row g2 1 (qaf [A,B,D]))],by simp [qaf,qab],?_⟩;simp [qg6,qaf,qab,u8V]
    ·have t2':=jkc t2;rw [if_neg t2'] at hq;simp [t2];subst hq;refine .move 70 0 _ (by simp) (by simp; rfl) fun g2=>.done ?_;simp;refine ⟨[(0,.row g2 1 (qaf [A,B]))],by simp [qaf,qab],?_⟩;simp [qg6,qaf,qab,u8V]
   have t1':¬ kd < 6:=by have:=jkc t1; omega
   rw [if_neg t1'] at hq;simp [t1];refine jj5 (fun t2=>?_) (fun t2=>?_)
   ·have t2':kd = 6:=by have:=jkb t2; omega
    rw [if_pos t2'] at hq;simp [t2];subst hq;intro gf;refine .move 86 0 _ (by simp) (by simp; rfl) fun g2=>.done ?_;simp;refine ⟨[(0,.row g2 1 (qaf [A]))],by simp [qaf,qab],?_⟩;simp [qg6,qaf,qab,u8V]
   have t2':¬ kd = 6:=by have:=jkc t2; omega
   rw [if_neg t2'] at hq;simp [t2];refine jj5 (fun t3=>?_) (fun t3=>?_)
   ·have t3':kd = 7:=by have:=jkb t3; omega
    rw [if_pos t3'] at hq;simp [t3];subst hq;intro gf;refine .move 94 0 _ (by simp) (by simp; rfl) fun g2=>.done ?_;simp;refine ⟨[(0,.row g2 1 (qaf [A,B,D]))],by simp [qaf,qab],?_⟩;simp [qg6,qaf,qab,u8V]
   have t3':¬ kd = 7:=by have:=jkc t3; omega
   rw [if_neg t3'] at hq;simp [t3];refine jj5 (fun t4=>?_) (fun t4=>?_)
   ·have t4':kd = 9:=by have:=jkb t4; omega
    rw [if_pos (.inl t4')] at hq;simp [t4];subst hq;intro gf;refine .move 105 0 _ (by simp) (by simp; rfl) fun g2=>.done ?_;simp;refine ⟨[(0,.row g2 1 (qaf [A,B]))],by simp [qaf,qab],?_⟩;simp [qg6,qaf,qab,u8V]
   have t4':¬ kd = 9:=by have:=jkc t4; omega
   simp [t4];refine jj5 (fun t5=>?_) (fun t5=>?_)
   ·have t5':kd = 10:=by have:=jkb t5; omega
    rw [if_pos (.inr t5')] at hq;simp [t5];subst hq;intro gf;refine .move 105 0 _ (by simp) (by simp; rfl) fun g2=>.done ?_;simp;refine ⟨[(0,.row g2 1 (qaf [A,B]))],by simp [qaf,qab],?_⟩;simp [qg6,qaf,qab,u8V]
   have t5':¬ kd = 10:=by have:=jkc t5; omega
   rw [if_neg (by omega)] at hq;simp [t5];refine jj5 (fun t6=>?_) (fun t6=>?_)
   ·have t6':10 < kd:=by have:=jkb t6; omega
    cases acc with
    | none=>
     simp [qav] at h5;have hts0:ts = []:=by simpa using h5.symm
     subst hts0;rw [if_neg (by simp)] at hq;have t7:=t6;simp [t6,qbe];refine jj5 (fun t8=>?_) (fun t8=>?_)
     ·have t8':=jkb t8;rw [if_pos (by omega)] at hq;obtain ⟨P,hP⟩:∃ p,1 + g.a % 2 = p:=⟨_,rfl⟩
      have hPw:IntKind.u8.wrap (1 + ((g.a:Int)).tmod 2) = (P:Int):=by
       rw [show (2:Int) = ((2:Nat):Int) from rfl,qk2 (b:=2) rfl]; simp [IntKind.wrap,IntKind.bits,IntKind.signed]; omega
      rw [hP] at hq;simp [t8,hPw];subst hq;refine .done ?_;simp;exact ⟨[],by simp,by simp [qg6,qab,u8V]⟩
     ·have t8':=jkc t8;rw [if_neg (by omega)] at hq;simp [t8];subst hq;intro gf;refine .move 156 0 _ (by simp) (by simp; rfl) fun g2=>.done ?_;simp;refine ⟨[(0,.row g2 1 (qaf [A]))],by simp [qaf,qab],?_⟩;simp [qg6,qaf,qab,u8V]
    | some gl=>
     obtain ⟨gg,xs⟩:=gl;simp only [qav] at h5 h2;have hxs:xs = qaf ts:=h5
     have hts0:0 < ts.length:=by
      rcases h2 with h2 | h2
      ·simp at h2
      ·rw [hxs] at h2; cases ts with
       | nil=>exact absurd rfl h2
       | cons _ _=>simp
     have htn:ts.length < 1000:=by
      have:xs.length = ts.length:=by rw [hxs]; simp
      simp only [qav] at h3; omega
     subst hxs;rw [if_pos ⟨t6',hts0⟩] at hq;obtain ⟨K,hK⟩:∃ p,g.a % ts.length = p:=⟨_,rfl⟩;rw [hK] at hq;have hKl:K < ts.length:=by rw [<- hK]; exact Nat.mod_lt _ hts0
     have htne:ts ≠ []:=fun h=>by subst h; simp at hts0
     obtain ⟨TK,hTK⟩:∃ p,ts[K] = p:=⟨_,rfl⟩;have hq1:ts.getD K 0 = TK:=by simp [jkd,hKl,hTK]
     rw [hq1] at hq;simp [t6,qbe,qbj,hts0,htne,u8i hg.a,qk2 hK,hKl,qap,hTK];intro gf gf1;generalize gf 126 = g126;generalize gf1 16 = g16;refine jj5 (fun t9=>?_) (fun t9=>?_)
     ·have t9':1 < ts.length:=by have:=jkb t9; omega
      rw [if_pos t9'] at hq;obtain ⟨K1,hK1⟩:∃ p,K + 1 = p:=⟨_,rfl⟩;obtain ⟨J,hJ⟩:∃ p,K1 % ts.length = p:=⟨_,rfl⟩;have hJl:J < ts.length:=by rw [<- hJ]; exact Nat.mod_lt _ hts0
      obtain ⟨TJ,hTJ⟩:∃ p,ts[J] = p:=⟨_,rfl⟩;have hq2:ts.getD J 0 = TJ:=by simp [jkd,hJl,hTJ]
      rw [hK1,hJ,hq2] at hq;have hw1:IntKind.i64.wrap ((K:Int) + 1) = (K1:Int):=by rw [qas] <;> omega
      simp [t9,htne,hw1,qk2 hJ,hJl,qap,hTJ];subst hq;intro gm;refine ⟨rfl,?_⟩;refine .move 126 0 _ (by simp) (by simp; rfl) fun g2=>.done ?_;simp;refine ⟨[(0,.row g2 1 (qaf [TK,TJ]))],by simp [qaf,qab],?_⟩;simp [qg6,qaf,qab,u8V]
     ·have t9':¬ 1 < ts.length:=by have:=jkc t9; omega
      rw [if_neg t9'] at hq;simp [t9];subst hq;refine .move 126 0 _ (by simp) (by simp; rfl) fun g2=>.done ?_;simp;refine ⟨[(0,.row g2 1 (qaf [TK]))],by simp [qaf,qab],?_⟩;simp [qg6,qaf,qab,u8V]
   ·have t6':¬ 10 < kd:=by have:=jkc t6; omega
    have t7:=t6;rw [if_neg (by omega)] at hq;simp [t6];refine jj5 (fun t8=>?_) (fun t8=>?_)
    ·have t8':=jkb t8;rw [if_pos (by omega)] at hq;obtain ⟨P,hP⟩:∃ p,1 + g.a % 2 = p:=⟨_,rfl⟩
     have hPw:IntKind.u8.wrap (1 + ((g.a:Int)).tmod 2) = (P:Int):=by
      rw [show (2:Int) = ((2:Nat):Int) from rfl,qk2 (b:=2) rfl]; simp [IntKind.wrap,IntKind.bits,IntKind.signed]; omega
     rw [hP] at hq;simp [t8,hPw];subst hq;refine .done ?_;simp;exact ⟨[],by simp,by simp [qg6,qab,u8V]⟩
    ·have t8':=jkc t8;rw [if_neg (by omega)] at hq;simp [t8];subst hq;intro gf;refine .move 156 0 _ (by simp) (by simp; rfl) fun g2=>.done ?_;simp;refine ⟨[(0,.row g2 1 (qaf [A]))],by simp [qaf,qab],?_⟩;simp [qg6,qaf,qab,u8V]
end
section
open Go
structure Ent where
 k:Nat
 l:List Nat
 b:Nat
 m:Option (Nat × Option Nat)
def Ent.nd (e:Ent):Nd:=⟨e.k,e.l.map fun (x:Nat)=>(x:Int),0,e.b⟩
def Ent.iv (e:Ent) (n:Nat):V:=match e.m with
 | none=>.nil
 | some (g,cap)=>.ref n g 0 e.l.length cap
def Ent.v (e:Ent) (n:Nat):V:=.agg [u8V e.k,e.iv n,qab 0,qab e.b]
def Ent.h (e:Ent) (n:Nat):Hp:=match e.m with
 | none=>[]
 | some (g,_)=>[(n,.row g 1 (qaf e.l))]
def qd0 (b:Nat):List Ent->List V
 | []=>[]
 | e :: r=>e.v b :: qd0 (b + 1) r
def qin (b:Nat):List Ent->Hp
 | []=>[]
 | e :: r=>e.h b ++ qin (b + 1) r
@[simp] theorem qjy (b:Nat) (L:List Ent):(qd0 b L).length = L.length:=by
 induction L generalizing b with
 | nil=>rfl
 | cons e r ih=>simp [qd0,ih]
theorem qeq (b:Nat) (L:List Ent) (e:Ent):qd0 b (L ++ [e]) = qd0 b L ++ [e.v (b + L.length)]:=by
 induction L generalizing b with
 | nil=>rfl
 | cons x r ih=>simp [qd0,ih,show b + 1 + r.length = b + (r.length + 1) by omega]
theorem qx1 (b:Nat) (L:List Ent) (i:Nat) (h:i < L.length):(qd0 b L)[i]'(by rw [qjy]; exact h) = L[i].v (b + i):=by
 induction L generalizing b i with
 | nil=>simp at h
 | cons x r ih=>
  cases i with
  | zero=>rfl
  | succ i=>simp [qd0,ih (b + 1) i (by simpa using h),show b + 1 + i = b + (i + 1) by omega]
theorem qx2 (b:Nat) (L:List Ent) (i:Nat) (e:Ent):(qd0 b L).set i (e.v (b + i)) = qd0 b (L.set i e):=by
 induction L generalizing b i with
 | nil=>rfl
 | cons x r ih=>
  cases i with
  | zero=>rfl
  | succ i=>simp [qd0,<- ih,show b + 1 + i = b + (i + 1) by omega]
theorem qmi (s:Nat->Nat->Nat × Nat) (b:Nat) (L:List Ent) (h:∀ i g,b≤i->s i g = (i,g)):(qd0 b L).map (V.rn s) = qd0 b L:=by
 induction L generalizing b with
 | nil=>rfl
 | cons e r ih=>
  have h1:=ih (b + 1) fun i g hi=>h i g (by omega);simp only [qd0,List.map_cons,h1];congr 1
  cases hm:e.m with
  | none=>simp [Ent.v,Ent.iv,hm,u8V,qab]
  | some x=>simp [Ent.v,Ent.iv,hm,u8V,qab,h b _ (jki _)]
theorem qe7 (b:Nat) (L:List Ent) (t:Nat) (h:t < b):lk (qin b L) t = none:=by
 induction L generalizing b with
 | nil=>rfl
 | cons e r ih=>
  have h1:=ih (b + 1) (by omega)
  cases hm:e.m with
  | none=>simp [qin,Ent.h,hm,h1]
  | some x=>simp [qin,Ent.h,hm,h1,show ¬ t = b by omega]
theorem qcf (b:Nat) (L:List Ent) (i:Nat) (e:Ent) (g:Nat) (c:Option Nat) (h:L[i]? = some e) (hm:e.m = some (g,c)):lk (qin b L) (b + i) = some (.row g 1 (qaf e.l)):=by
 induction L generalizing b i with
 | nil=>simp at h
 | cons x r ih=>
  cases i with
  | zero=>
   simp only [List.getElem?_cons_zero,Option.some.injEq] at h;subst h;simp [qin,Ent.h,hm]
  | succ i=>
   have:=ih (b + 1) i (by simpa using h);rw [show b + 1 + i = b + (i + 1) by omega] at this
   cases hx:x.m with
   | none=>simpa [qin,Ent.h,hx] using this
   | some y=>simpa [qin,Ent.h,hx,show ¬ b + (i + 1) = b by omega] using this
theorem qb5 (b:Nat) (L:List Ent) (h:Hp) (hk:∀ (i:Nat) e g c,L[i]? = some e->e.m = some (g,c)->lk h (b + i) = some (.row g 1 (qaf e.l))):Sub (qin b L) h:=by
 induction L generalizing b with
 | nil=>trivial
 | cons e r ih=>
  simp only [qin,qww];refine ⟨?_,ih (b + 1) fun i x g c hx hm=>?_⟩
  ·cases hm:e.m with
   | none=>simp [Ent.h,hm]
   | some y=>
    have:=hk 0 e y.1 y.2 (by simp) hm;simpa [Ent.h,hm] using this
  ·have:=hk (i + 1) x g c (by simpa using hx) hm
   rwa [show b + (i + 1) = b + 1 + i by omega] at this
theorem qgd {base:Nat} {L:List Ent} {b b' g:Nat} {s:Nat->Nat->Nat × Nat} {i:Nat} {e:Ent} {g0:Nat} {c:Option Nat} (hne:b ≠ b') (h1:¬ base + i = b') (h2:¬ base + i = b) (hi:L[i]? = some e) (hm:e.m = some (g0,c)):lk (mvH s b b' g (qin base L)) (base + i) = some (.row g0 1 (qaf e.l)):=by
 rw [qvf hne,if_neg h1,if_neg h2,qcf base L i e g0 c hi hm];simp [Blk.rn,qbi (qay _)]
theorem qh7 (l:List Nat):qaf l = qdh (l.map fun (x:Nat)=>(x:Int)):=by simp [qaf,qab,qdh]
def Ent.f (e:Ent):V:=.agg [u8V e.k,(match e.m with | none=>.nil | some (_,cap)=>.sl (qaf e.l) cap),qab 0,qab e.b]
theorem quk {h:Hp} {n:Nat} (b:Nat) (L:List Ent) (hk:∀ (i:Nat) e g c,L[i]? = some e->e.m = some (g,c)->lk h (b + i) = some (.row g 1 (qaf e.l))):(qd0 b L).map (frz h (n + 1)) = L.map Ent.f:=by
 induction L generalizing b with
 | nil=>rfl
 | cons e r ih=>
  have h1:=ih (b + 1) fun i x g c hx hm=>by
   have:=hk (i + 1) x g c (by simpa using hx) hm
   rwa [show b + (i + 1) = b + 1 + i by omega] at this
  simp only [qd0,List.map_cons,h1];congr 1
  cases hm:e.m with
  | none=>simp [Ent.v,Ent.iv,Ent.f,hm,u8V,qab,frz]
  | some y=>
   have h0:=hk 0 e y.1 y.2 (by simp) hm;rw [Nat.add_zero] at h0;simp only [Ent.v,Ent.iv,Ent.f,hm,qpt,List.map_cons,List.map_nil];rw [qcl h0 (by simp),List.drop_zero,jkf (by simp),qdr _ _ (qay _)];simp [u8V,qab,frz]
theorem q53 (e:Ent) (h:e.m = none->e.l = []):qph e.f e.nd.v:=by
 refine ⟨.refl _,?_,.refl _,.refl _,trivial⟩
 cases hm:e.m with
 | none=>simp only [h hm,Ent.nd]; exact VLe.nil'
 | some y=>simp only [Ent.nd,qh7]; exact .cap _ _
theorem qul (L:List Ent) (h:∀ e ∈ L,e.m = none->e.l = []) (c:Option Nat):VLe (.sl (L.map Ent.f) c) (.sl ((L.map Ent.nd).map Nd.v) none):=by
 refine VLe.trans (VLe.slc (by simp) fun i=>?_) (.cap _ c);simp only [List.map_map,jkd,List.getElem?_map]
 cases hx:L[i]? with
 | none=>exact qg5.refl _
 | some e=>exact q53 e (h e (List.mem_of_getElem? hx))
end
section
open Go
def ndN (q:Nat × List Nat):Nd:=⟨q.1,q.2.map fun (x:Nat)=>(x:Int),0,0⟩
def in0:Nd:=⟨0,[],0,0⟩
def q9s (d:Nat):Nd:=⟨14,[(d:Int)],0,0⟩
def Cx.st1 (x:Cx) (j:Nat):List Nd:=List.replicate (x.n % 4 + 1) in0 ++ List.replicate j (q9s 0)
def Cx.st0 (x:Cx):List Nd:=x.st1 (x.f % 3) ++ if x.mem = true then [⟨15,[],0,0⟩,⟨15,[],0,1⟩] else []
def qd7 (bus:Bool):List Gx->List Nd->List Nd
 | [],l=>l
 | g :: r,l=>qd7 bus r (l ++ [ndN (qe5 bus g l)])
def Cx.ns0 (x:Cx):List Nd:=qd7 x.bus (x.g.take 8) x.st0
def Cx.nn (x:Cx):Nat:=x.ns0.length
def Cx.dat (x:Cx) (i:Nat):Nat:=(if i = 0 then x.d0 else x.d1) % x.nn
def Cx.ns1 (x:Cx):Nat->List Nd
 | 0=>x.ns0
 | i + 1=>(x.ns1 i).set (x.n % 4 + 1 + i) ⟨((x.ns1 i).getD (x.n % 4 + 1 + i) in0).k,[(x.dat i:Int)],0,((x.ns1 i).getD (x.n % 4 + 1 + i) in0).b⟩
def Cx.ci (x:Cx):Ci:=⟨x.ns1 (x.f % 3),(List.range x.nn).map qh6,if x.mem = true then [⟨[((x.p0 % x.nn:Nat):Int)],[((x.p1 % x.nn:Nat):Int),((x.p2 % x.nn:Nat):Int)],((x.p3 % x.nn:Nat):Int)⟩] else [],
 ((x.o.take 3).map fun o=>((o % x.nn:Nat):Int)) ++ [((x.nn - 1:Nat):Int)]⟩
structure Cx.ok (x:Cx):Prop where
 n:x.n < 256
 f:x.f < 256
 d0:x.d0 < 256
 d1:x.d1 < 256
 p0:x.p0 < 256
 p1:x.p1 < 256
 p2:x.p2 < 256
 p3:x.p3 < 256
 g:∀ g ∈ x.g,g.ok
 o:∀ o ∈ x.o,o < 256
def okS (S:List Ent):Prop:=∀ e ∈ S,e.m = none->e.l = []
def e0:Ent:=⟨0,[],0,none⟩
theorem qfg {b:Nat} {L:List Ent} {e:Ent} {h:Hp} (h1:∀ g c,e.m = some (g,c)->lk h (b + L.length) = some (.row g 1 (qaf e.l))) (h2:∀ (i:Nat) x g c,i < L.length->L[i]? = some x->x.m = some (g,c)->lk h (b + i) = some (.row g 1 (qaf x.l))):Sub (qin b (L ++ [e])) h:=
 qb5 _ _ _ fun i x g c hx hm=>by
  by_cases hi:i < L.length
  ·rw [List.getElem?_append_left hi] at hx;exact h2 i x g c hi hx hm
  ·rw [List.getElem?_append_right (by omega)] at hx
   have h0:i - L.length = 0:=by
    have:=(List.getElem?_eq_some_iff.1 hx).1;simp at this; omega
   rw [h0] at hx;simp only [List.getElem?_cons_zero,Option.some.injEq] at hx;subst hx;rw [show i = L.length by omega];exact h1 g c hm
theorem qvx {S:List Ent} {p:Nat} {e:Ent} (h:okS S) (he:e.m = none->e.l = []):okS (S.set p e):=by
 intro x hx;rcases List.mem_or_eq_of_mem_set hx with q | rfl
 ·exact h x q
 ·exact he
theorem qiu {b p:Nat} {L:List Ent} {e:Ent} {h:Hp} (h1:∀ g c,e.m = some (g,c)->lk h (b + p) = some (.row g 1 (qaf e.l))) (h2:∀ (i:Nat) x g c,i ≠ p->L[i]? = some x->x.m = some (g,c)->lk h (b + i) = some (.row g 1 (qaf x.l))):Sub (qin b (L.set p e)) h:=
 qb5 _ _ _ fun i x g c hx hm=>by
  by_cases hi:i = p
  ·subst hi;rw [List.getElem?_set_self' ] at hx
   cases hL:L[i]? with
   | none=>rw [hL] at hx; cases hx
   | some y=>rw [hL] at hx; simp at hx; subst hx; exact h1 g c hm
  ·rw [List.getElem?_set_ne (by omega)] at hx;exact h2 i x g c hi hx hm
theorem qm1 {S:List Ent} {e:Ent} (h:okS S) (he:e.m = none->e.l = []):okS (S ++ [e]):=by
 intro x hx;rcases List.mem_append.1 hx with q | q
 ·exact h x q
 ·rw [List.mem_singleton.1 q]; exact he
theorem qx7 (s:Nat->Nat->Nat × Nat) (l:List Gx):ji0 s (l.map Gx.v) = l.map Gx.v:=by
 induction l with
 | nil=>rfl
 | cons x r ih=>simp [ji0,ih,Gx.v,u8V]
theorem qzw (s:Nat->Nat->Nat × Nat) (l:List Nat):ji0 s (l.map u8V) = l.map u8V:=by
 induction l with
 | nil=>rfl
 | cons x r ih=>simp [ji0,ih,u8V]
def ofH (x:Cx) (g1 g2 g3 g:Nat) (S:List Ent) (vs:List V):Hp:=
 (25,.row g 4 (qd0 1000 S)) :: (3,.row g3 4 [.agg (.ref 25 g 0 S.length none :: vs)]) :: (1,.row g1 12 [x.v]) :: (2,.row g2 4 [.agg [.nil,.nil,.nil,.nil]]) :: qin 1000 S
theorem qud (x:Cx):x.v.pure = true:=by
 simp [Cx.v,V.pure,jid,u8V];exact ⟨V.pureL_map _ _ fun g=>by simp [Gx.v,u8V],V.pureL_map _ _ fun _=>rfl⟩
theorem q2b (g:Gx):g.v.pure = true:=by simp [Gx.v,u8V]
theorem q2u (x:Cx) (G:Gx) {h:Hp} {U:List Ent} {gM:Nat} (h25:lk h 25 = some (.row gM 4 (qd0 1000 U))) (hk:∀ (i:Nat) e g c,U[i]? = some e->e.m = some (g,c)->lk h (1000 + i) = some (.row g 1 (qaf e.l))) :
  [x.v,G.v,.ref 25 gM 0 U.length none].map (frz h 2) = [x.v,G.v,.sl (U.map Ent.f) none]:=by
 simp only [List.map_cons,List.map_nil];rw [qjb _ _ (qud x),qjb _ _ (q2b G),qcl h25 (by simp),List.drop_zero,jkf (by simp),quk (n:=0) 1000 U hk]
theorem q18 (x:Cx) (G:Gx) (U:List Ent) (hG:G.ok) (h0:0 < U.length) (h1:U.length < 1000) (hU:okS U):qce Tryz.prog gl0 88 [x.v,G.v,.sl (U.map Ent.f) none] (qg6 (qe5 x.bus G (U.map Ent.nd))):=
 qce.wide (q57 x G (U.map Ent.nd) hG (by simpa using h0) (by simpa using h1)) ⟨.refl _,.refl _,qul U hU none,trivial⟩
theorem qj9 (l:List Nat):jih (qaf l) = true:=by
 rw [ji4];intro v hv;obtain ⟨n,-,rfl⟩:=List.mem_map.1 hv;rfl
def OfK (x:Cx) (v:V) (h:Hp):Prop:=VLe (frz h 3 v) x.ci.v
theorem q0x {x:Cx} {h:Hp} {S:List Ent} {gM g144 M:Nat} {mv ov:V} (hS:S.map Ent.nd = x.ns1 (x.f % 3)) (hok:okS S) (hM:x.nn = M) (h25:lk h 25 = some (.row gM 4 (qd0 1000 S))) (hfam:∀ (i:Nat) e g c,S[i]? = some e->e.m = some (g,c)->lk h (1000 + i) = some (.row g 1 (qaf e.l)))
  (h144:lk h 144 = some (.row g144 1 (((List.range M).map qh6).map V.str))) (hm:VLe (frz h 3 mv) (.sl (x.ci.m.map Md.v) none)) (ho:VLe (frz h 3 ov) (.sl (qdh x.ci.o) none)) :
  OfK x (.agg [.ref 25 gM 0 S.length none,.ref 144 g144 0 M none,mv,ov]) h:=by
 unfold OfK;rw [qpt];simp only [List.map_cons,List.map_nil];rw [qcl h25 (by simp),qcl h144 (by simp),List.drop_zero,jkf (by simp),quk (n:=1) 1000 S hfam,List.drop_zero,jkf (by simp),qdr _ _ (qo9 _)];have h1:=qul S hok none;rw [hS] at h1;subst hM;exact VLe.agg ⟨h1,.refl _,hm,ho,trivial⟩
theorem q6o (A0 A1 A2 A3:Nat):VLe (.sl [.agg [.sl [qab A0] (some 1),.sl [qab A1,qab A2] (some 2),qab A3]] (some 1)) (.sl ([(⟨[(A0:Int)],[(A1:Int),(A2:Int)],(A3:Int)⟩:Md)].map Md.v) none):=
 VLe.trans (b:=.sl ([(⟨[(A0:Int)],[(A1:Int),(A2:Int)],(A3:Int)⟩:Md)].map Md.v) (some 1)) (VLe.slc rfl fun i=>by
  cases i with
  | zero=>exact ⟨.cap _ _,.cap _ _,.refl _,trivial⟩
  | succ i=>exact qg5.refl _) (.cap _ _)
def MemK (x:Cx) (M:Nat) (mv:V) (h:Hp):Prop:=
 (x.mem = false/\mv = .nil)∨(x.mem = true/\∃ g132 g124 g111,mv = .ref 132 g132 0 1 (some 1)/\lk h 132 = some (.row g132 3 [.agg [.ref 111 g111 0 1 (some 1),.ref 124 g124 0 2 (some 2),qab (x.p3 % M)]])/\lk h 124 = some (.row g124 1 [qab (x.p1 % M),qab (x.p2 % M)])/\lk h 111 = some (.row g111 1 [qab (x.p0 % M)]))
theorem qvw {x:Cx} {Hw:Hp} {S:List Ent} {gM g144 M b gb:Nat} {mv:V} {l:List Nat} (hS:S.map Ent.nd = x.ns1 (x.f % 3)) (hok:okS S) (hM:x.nn = M) (h25:lk Hw 25 = some (.row gM 4 (qd0 1000 S))) (hfam:∀ (i:Nat) e g c,S[i]? = some e->e.m = some (g,c)->lk Hw (1000 + i) = some (.row g 1 (qaf e.l)))
  (h144:lk Hw 144 = some (.row g144 1 (((List.range M).map qh6).map V.str))) (hm:MemK x M mv Hw) (hbn:b = 168∨b = 175) (hb:lk Hw b = some (.row gb 1 (qaf l))) (hl:l = (x.o.take 3).map (fun o=>o % M) ++ [M - 1]) :
  ∃ h2,Sub h2 Hw/\OfK x (.agg [.ref 25 gM 0 S.length none,.ref 144 g144 0 M none,mv,.ref b gb 0 l.length none]) h2:=by
 have ho:qaf l = qdh x.ci.o:=by
  rw [qh7,hl]; simp only [Cx.ci,hM,List.map_append,List.map_map,List.map_cons,List.map_nil,Function.comp_def,List.map_take]
 have hlen:l.length = (qaf l).length:=by simp [qaf]
 rcases hm with ⟨hm,rfl⟩ | ⟨hm,g132,g124,g111,rfl,h132,h124,h111⟩
 ·have hmm:x.ci.m = []:=by simp [Cx.ci,hm]
  refine ⟨(25,.row gM 4 (qd0 1000 S)) :: (144,.row g144 1 (((List.range M).map qh6).map V.str)) :: (b,.row gb 1 (qaf l)) :: qin 1000 S,⟨h25,h144,hb,qb5 _ _ _ hfam⟩,q0x (h:=_) hS hok hM (by simp) (fun i e g c he hem=>?_) (by simp) (by rw [hmm]; exact VLe.nil') ?_⟩
  ·rw [qb1 (by omega),qb1 (by omega),qb1 (by omega)];exact qcf _ _ _ _ _ _ he hem
  ·rw [qcl (es:=qaf l) (sz:=1) (by rcases hbn with rfl | rfl <;> simp) (by omega),List.drop_zero,jkf (by omega),qdr _ _ (qay _),ho];exact .refl _
 ·have hmm:x.ci.m = [⟨[((x.p0 % M:Nat):Int)],[((x.p1 % M:Nat):Int),((x.p2 % M:Nat):Int)],((x.p3 % M:Nat):Int)⟩]:=by simp [Cx.ci,hm,hM]
  refine ⟨(25,.row gM 4 (qd0 1000 S)) :: (144,.row g144 1 (((List.range M).map qh6).map V.str)) :: (b,.row gb 1 (qaf l)) :: (132,.row g132 3 [.agg [.ref 111 g111 0 1 (some 1),.ref 124 g124 0 2 (some 2),qab (x.p3 % M)]]) :: (124,.row g124 1 [qab (x.p1 % M),qab (x.p2 % M)]) :: (111,.row g111 1 [qab (x.p0 % M)]) :: qin 1000 S,⟨h25,h144,hb,h132,h124,h111,qb5 _ _ _ hfam⟩,q0x (h:=_) hS hok hM (by simp) (fun i e g c he hem=>?_) (by simp) ?_ ?_⟩
  ·rw [qb1 (by omega),qb1 (by omega),qb1 (by omega),qb1 (by omega),qb1 (by omega),qb1 (by omega)];exact qcf _ _ _ _ _ _ he hem
  ·rw [qcl (es:=[.agg [.ref 111 g111 0 1 (some 1),.ref 124 g124 0 2 (some 2),qab (x.p3 % M)]]) (sz:=3) (by rcases hbn with rfl | rfl <;> simp) (by simp),hmm];simp only [List.drop_zero,List.take_succ_cons,List.take_zero,List.map_cons,List.map_nil,qpt];rw [qcl (es:=[qab (x.p0 % M)]) (sz:=1) (by rcases hbn with rfl | rfl <;> simp) (by simp),qcl (es:=[qab (x.p1 % M),qab (x.p2 % M)]) (sz:=1) (by rcases hbn with rfl | rfl <;> simp) (by simp)];exact q6o _ _ _ _
  ·rw [qcl (es:=qaf l) (sz:=1) (by rcases hbn with rfl | rfl <;> simp) (by omega),List.drop_zero,jkf (by omega),qdr _ _ (qay _),ho];exact .refl _
set_option maxHeartbeats 8000000 in
theorem of_own (x:Cx) (hx:x.ok):qce Tryz.prog gl0 24 [x.v] (OfK x):=by
  obtain ⟨N4,hN4⟩:∃ p,x.n % 4 = p:=⟨_,rfl⟩;obtain ⟨F3,hF3⟩:∃ p,x.f % 3 = p:=⟨_,rfl⟩;have hN4l:N4 < 4:=by omega
  have hF3l:F3 < 3:=by omega
  have w4:((x.n:Int)).tmod 4 = (N4:Int):=qk2 (b:=4) hN4;have w3:((x.f:Int)).tmod 3 = (F3:Int):=qk2 (b:=3) hF3;refine jj9 ok24 rfl ?_;simp [i24,x24,Cx.v];intro gf1 gf2 gf3;generalize gf1 1 = g1;generalize gf2 2 = g2;generalize gf3 3 = g3
  refine jj6 (X:=Nat × Option (Nat × List V)) (fun y=>[(4,qab y.1),(3,.ptr 3 g3 0 0),(2,.ptr 2 g2 0 0),(1,.ptr 1 g1 0 0)])
    (fun y=>[(3,.row g3 4 [.agg [qbe 25 y.2,.nil,.nil,.nil]]),(1,.row g1 12 [x.v]),(2,.row g2 4 [.agg [.nil,.nil,.nil,.nil]])] ++ qbj 25 4 y.2)
    (fun y=>y.1≤N4 + 1/\(y.2 = none↔y.1 = 0)/\qav y.2 = qd0 1000 (List.replicate y.1 e0)) (fun y=>5 - y.1) (0,none) ⟨by simp,by simp,by simp [qav,qd0]⟩ (by simp [qab]) (by simp [qbe,qbj,Cx.v]) ?_
  rintro ⟨i,acc⟩ ⟨h1,h2,h3⟩;dsimp only at h1 h2 h3;simp [qab,Cx.v,u8V,w4,u8i (show N4 < 256 by omega)];refine jj5 (fun hb=>?_) (fun hb=>?_)
  · have hi:i≤N4:=by have:=jkb hb; omega
    have hw:=qbg i (by omega);have hrep:List.replicate (i + 1) e0 = List.replicate i e0 ++ [e0]:=List.replicate_succ'
    cases acc with
    | none=>
      have hi0:i = 0:=h2.1 rfl;subst hi0;simp [qbe,qbj];intro gf gf1;refine ⟨1,some (gf1 25,[e0.v 1000]),⟨by omega,by simp,by simp [qav,qd0]⟩,rfl,?_,by omega⟩;simp [e0,Ent.v,Ent.iv,u8V,qab]
    | some gl=>
      obtain ⟨g,l⟩:=gl;simp only [qav] at h3;subst h3;have ht:List.take i (qd0 1000 (List.replicate i e0)) = qd0 1000 (List.replicate i e0):=jkf (by simp);simp [hw,qbe,qbj,ht];intro gf gf1;refine ⟨by omega,i + 1,some (gf1 25,qd0 1000 (List.replicate (i + 1) e0)),⟨by omega,by simp,rfl⟩,by simp,?_,by omega⟩;rw [hrep,qeq];simp [e0,Ent.v,Ent.iv,u8V,qab]
  · have hi:i = N4 + 1:=by have:=jkc hb; omega
    subst hi
    cases acc with
    | none=>have:=h2.1 rfl; omega
    | some gl=>
    obtain ⟨g,l⟩:=gl;simp only [qav] at h3;subst h3;obtain ⟨N,hN⟩:∃ p,N4 + 1 = p:=⟨_,rfl⟩;rw [hN];simp [qbe,qbj,w3,u8i (show F3 < 256 by omega)]
    refine jix (X:=Nat × Nat × List Ent) (fun y=>[(7,qab y.1),(6,qab F3),(5,qab N),(3,.ptr 3 g3 0 0),(2,.ptr 2 g2 0 0),(1,.ptr 1 g1 0 0)])
      (fun y=>ofH x g1 g2 g3 y.2.1 y.2.2 [.nil,.nil,.nil])
      (fun y=>y.1≤F3/\y.2.2.map Ent.nd = x.st1 y.1/\okS y.2.2) (fun y=>F3 - y.1) ?_ ?_
    · refine .done ⟨(0,g,List.replicate N e0),⟨by simp,?_,?_⟩,by simp [qab],?_⟩
      · simp [Cx.st1,hN4,hN,Ent.nd,e0,in0]
      · intro e he;rw [List.eq_of_mem_replicate he];intro _; rfl
      · simp [ofH,Cx.v,u8V];refine qb5 _ _ _ fun i e g c he hm=>?_;have:=List.eq_of_mem_replicate (List.mem_of_getElem? he);subst this;cases hm
    · rintro ⟨j,gN,S⟩ ⟨k1,k2,k3⟩;dsimp only at k1 k2 k3;have hS:S.length = N + j:=by have:=congrArg List.length k2; simpa [Cx.st1,hN4,hN] using this
      simp [qab,ofH,Cx.v,u8V];refine jj5 (fun hb2=>?_) (fun hb2=>?_)
      · have hj:j < F3:=jkb hb2;have hw:=qbg j (by omega);have ht:List.take S.length (qd0 1000 S) = qd0 1000 S:=jkf (by simp);simp [hw,ht];intro ga gb gc;generalize ga 41 = g41;generalize gc 25 = gM;refine ⟨by omega,?_⟩;obtain ⟨B,hB⟩:∃ B,1000 + S.length = B:=⟨_,rfl⟩;refine .move 41 B _ (by omega) (by simp; rfl) fun g'=>.done ⟨j + 1,gM,S ++ [⟨14,[0],0,some (g',some 1)⟩],⟨by omega,?_,qm1 k3 (by simp)⟩,?_⟩
        · simp [k2,Cx.st1,List.replicate_succ',Ent.nd,q9s]
        · have hfr:=qmi (mvS 41 g41 B g') 1000 S (qon _ _ _ _ _ (by omega));rw [qeq,hB];simp [show ¬ 41 = B by omega,show ¬ 25 = B by omega,show ¬ 3 = B by omega,show ¬ 1 = B by omega,show ¬ 2 = B by omega,show ¬ 43 = B by omega,hfr,Ent.v,Ent.iv,u8V,qab,qx7,qzw];refine ⟨qfg (fun g c e=>?_) (fun i e g c hi he hm=>?_),by omega⟩
          · simp only [Option.some.injEq,Prod.mk.injEq] at e;obtain ⟨rfl,rfl⟩:=e;rw [hB];simp [show ¬ B = 3 by omega,show ¬ B = 25 by omega,show ¬ B = 43 by omega,qaf,qab]
          · simp [show ¬ 1000 + i = 3 by omega,show ¬ 1000 + i = 25 by omega,show ¬ 1000 + i = 43 by omega,show ¬ 1000 + i = B by omega,show ¬ 1000 + i = 1 by omega,show ¬ 1000 + i = 2 by omega];exact qgd (by omega) (by omega) (by omega) he hm
      · have hj:j = F3:=by have:=jkc hb2; omega
        subst hj;simp;refine jj5 (fun hm=>?_) (fun hm=>?_)
        case' refine_1=>
          have ht:List.take S.length (qd0 1000 S) = qd0 1000 S:=jkf (by simp);obtain ⟨T,hT⟩:∃ T:List Ent,T = S ++ [⟨15,[],0,none⟩,⟨15,[],1,none⟩]:=⟨_,rfl⟩;have hst0:T.map Ent.nd = x.st0:=by simp [hT,Cx.st0,hm,k2,hF3,Ent.nd]
          have hok0:okS T:=fun e he=>by
            rw [hT] at he;rcases List.mem_append.1 he with q | q
            · exact k3 e q
            · simp at q; rcases q with rfl | rfl <;> simp
          have hTl:T.length = S.length + 2:=by simp [hT]
          have hTv:qd0 1000 T = qd0 1000 S ++ [.agg [u8V 15,.nil,qab 0,qab 0],.agg [u8V 15,.nil,qab 0,qab 1]]:=by
            rw [hT,show S ++ [⟨15,[],0,none⟩,⟨15,[],1,none⟩] = (S ++ [(⟨15,[],0,none⟩:Ent)]) ++ [⟨15,[],1,none⟩] by simp,qeq,qeq];simp [Ent.v,Ent.iv]
          simp [hm,ht,qjy];intro ga gb;refine ⟨by omega,?_⟩
          refine jix (X:=Nat × Nat × List Ent) (fun y=>[(8,qab y.1),(6,qab j),(5,qab N),(3,.ptr 3 g3 0 0),(2,.ptr 2 g2 0 0),(1,.ptr 1 g1 0 0)])
            (fun y=>ofH x g1 g2 g3 y.2.1 y.2.2 [.nil,.nil,.nil])
            (fun y=>qd7 x.bus ((x.g.take 8).drop y.1) (y.2.2.map Ent.nd) = x.ns0/\okS y.2.2/\N + j≤y.2.2.length/\y.2.2.length≤8 + y.1/\y.1≤8) (fun y=>8 - y.1) ?_ ?_
          refine .done ⟨(0,gb 25,T),⟨by simp [hst0,Cx.ns0],hok0,by simp [hTl]; omega,by simp [hTl]; omega,by simp⟩,by simp [qab],?_⟩
          have hTS:∀ (i:Nat) (e:Ent) (g:Nat) (c:Option Nat),T[i]? = some e->e.m = some (g,c)->S[i]? = some e:=fun i e g c he hem=>by
            rw [hT] at he;by_cases hi:i < S.length
            · rwa [List.getElem?_append_left hi] at he
            · rw [List.getElem?_append_right (by omega)] at he;have hmem:=List.mem_of_getElem? he;simp at hmem;rcases hmem with rfl | rfl <;> cases hem
          simp [ofH,Cx.v,u8V,qab,hm,hTv,hTl];refine qb5 _ _ _ fun i e g c he hem=>?_;simp [show ¬ 1000 + i = 3 by omega,show ¬ 1000 + i = 25 by omega,show ¬ 1000 + i = 52 by omega,show ¬ 1000 + i = 1 by omega,show ¬ 1000 + i = 2 by omega];exact qcf _ _ _ _ _ _ (hTS i e g c he hem) hem
        case' refine_2=>
          have hst0:S.map Ent.nd = x.st0:=by simp [Cx.st0,hm,k2,hF3]
          have hok0:okS S:=k3;simp [hm]
          refine jix (X:=Nat × Nat × List Ent) (fun y=>[(8,qab y.1),(6,qab j),(5,qab N),(3,.ptr 3 g3 0 0),(2,.ptr 2 g2 0 0),(1,.ptr 1 g1 0 0)])
            (fun y=>ofH x g1 g2 g3 y.2.1 y.2.2 [.nil,.nil,.nil])
            (fun y=>qd7 x.bus ((x.g.take 8).drop y.1) (y.2.2.map Ent.nd) = x.ns0/\okS y.2.2/\N + j≤y.2.2.length/\y.2.2.length≤8 + y.1/\y.1≤8) (fun y=>8 - y.1) ?_ ?_
          refine .done ⟨(0,gN,S),⟨by simp [hst0,Cx.ns0],hok0,by simp [hS],by simp [hS]; omega,by simp⟩,by simp [qab],?_⟩;simp [ofH,Cx.v,u8V,hm];refine qb5 _ _ _ fun i e g c he hem=>?_;simp [show ¬ 1000 + i = 3 by omega,show ¬ 1000 + i = 25 by omega,show ¬ 1000 + i = 1 by omega,show ¬ 1000 + i = 2 by omega];exact qcf _ _ _ _ _ _ he hem
        all_goals
          clear hok0;rintro ⟨i,gM,U⟩ ⟨q1,q2,q3,q4,q5⟩;dsimp only at q1 q2 q3 q4 q5;simp [qab,ofH,Cx.v,u8V,hm];refine jj5 (fun b1=>?_) (fun b1=>?_)
          case' refine_1=>
            have b1':i < x.g.length:=by have:=jkb b1; omega
            simp [b1];refine jj5 (fun b2=>?_) (fun b2=>?_)
            case refine_1=>
              have b2':i < 8:=by have:=jkb b2; omega
              obtain ⟨G,hG⟩:∃ G,x.g[i] = G:=⟨_,rfl⟩;have hGok:G.ok:=by rw [<- hG]; exact hx.g _ (jkg b1')
              have hw:=qbg i (by omega);have ht:List.take U.length (qd0 1000 U) = qd0 1000 U:=jkf (by simp)
              have hdr:List.drop i (List.take 8 x.g) = G :: List.drop (i + 1) (List.take 8 x.g):=by
                rw [List.drop_eq_getElem_cons (by simp; omega)];simp [hG]
              have hgc:=q18 x G U hGok (by omega) (by omega) q2;obtain ⟨q,hq⟩:∃ q,qe5 x.bus G (U.map Ent.nd) = q:=⟨_,rfl⟩;rw [hq] at hgc;have hxv:x.v = .agg [.int .u8 x.n,.int .u8 x.f,.int .u8 x.d0,.int .u8 x.d1,.bool x.bus,.bool x.mem,.int .u8 x.p0,.int .u8 x.p1,.int .u8 x.p2,.int .u8 x.p3,.sl (x.g.map Gx.v) none,.sl (x.o.map u8V) none]:=by simp [Cx.v,u8V]
              rw [hm] at hxv;have hGv:G.v = .agg [.int .u8 G.k,.int .u8 G.a,.int .u8 G.b,.int .u8 G.d]:=by simp [Gx.v,u8V]
              have hlk:∀ (t:Nat) (y:Blk),lk (qin 1000 U) t = some y->lk ((25,.row gM 4 (qd0 1000 U)) :: (3,.row g3 4 [.agg [.ref 25 gM 0 U.length none,.nil,.nil,.nil]]) :: (1,.row g1 12 [x.v]) :: (2,.row g2 4 [.agg [.nil,.nil,.nil,.nil]]) :: qin 1000 U) t = some y:=fun t y ht=>by
                have:¬ t < 1000:=fun h=>by rw [qe7 _ _ _ h] at ht; cases ht
                simp [show ¬ t = 3 by omega,show ¬ t = 25 by omega,show ¬ t = 1 by omega,show ¬ t = 2 by omega,ht]
              have har:=q2u x G (h:=(25,.row gM 4 (qd0 1000 U)) :: (3,.row g3 4 [.agg [.ref 25 gM 0 U.length none,.nil,.nil,.nil]]) :: (1,.row g1 12 [x.v]) :: (2,.row g2 4 [.agg [.nil,.nil,.nil,.nil]]) :: qin 1000 U) (U:=U) (gM:=gM) (by simp) fun i e g c he hem=>hlk _ _ (qcf _ _ _ _ _ _ he hem);simp [b2,b1',hG,hGv];intro gm;rw [hxv,hGv] at har;have hlow:∀ t,t < 1000->lk (qin 1000 U) t = none:=fun t h=>qe7 _ _ _ h;by_cases hq2:q.2 = []
              · have hgc2:=qce.mono (K':=fun v h=>v = .agg [u8V q.1,.nil,qab 0,qab 0]/\h = []) hgc fun v h hk=>by
                  rcases hk with ⟨-,h1,h2⟩ | ⟨h0,-⟩
                  · exact ⟨h1,h2⟩
                  · exact absurd hq2 h0
                rw [hxv,hGv] at hgc2
                first | refine ⟨_,_,_,.purn 2 hgc2 har rfl rfl,?_⟩ | refine ⟨_,⟨_,_,.purn 2 hgc2 har rfl rfl⟩,?_⟩ | refine ⟨_,_,⟨_,.purn 2 hgc2 har rfl rfl⟩,?_⟩
                simp [hlow];refine ⟨by omega,rfl,.done ⟨i + 1,gM + 1,U ++ [⟨q.1,[],0,none⟩],⟨?_,qm1 q2 (by simp),by simp; omega,by simp; omega,by omega⟩,?_⟩⟩
                · rw [<- q1,hdr];simp [qd7,hq,ndN,Ent.nd,hq2]
                · rw [qeq];simp [hw,ht,Ent.v,Ent.iv,u8V,qab];refine ⟨qfg (fun g c e=>by cases e) (fun i e g c hi he hem=>?_),by omega⟩;simp [show ¬ 1000 + i = 3 by omega,show ¬ 1000 + i = 25 by omega,show ¬ 1000 + i = 77 by omega,show ¬ 1000 + i = 1 by omega,show ¬ 1000 + i = 2 by omega];exact qcf _ _ _ _ _ _ he hem
              · have hgc2:=qce.mono (K':=OneA [u8V q.1] [qab 0,qab 0] 1 (qaf q.2)) hgc fun v h hk=>by
                  rcases hk with ⟨h0,-⟩ | ⟨-,g,cap,h1,h2⟩
                  · exact absurd h0 hq2
                  · exact ⟨g,cap,by simp [h1,mkA],h2⟩
                rw [hxv,hGv] at hgc2
                first | refine ⟨_,_,_,.ownv 2 hgc2 har (qay _) (qj9 _) rfl rfl rfl rfl rfl,?_⟩ | refine ⟨_,⟨_,_,.ownv 2 hgc2 har (qay _) (qj9 _) rfl rfl rfl rfl rfl⟩,?_⟩ | refine ⟨_,_,⟨_,.ownv 2 hgc2 har (qay _) (qj9 _) rfl rfl rfl rfl rfl⟩,?_⟩
                simp [hlow,mkA];refine ⟨by omega,rfl,?_⟩;generalize gm 76 = g76;generalize gm 77 = g77;obtain ⟨B,hB⟩:∃ B,1000 + U.length = B:=⟨_,rfl⟩;refine .move 76 B _ (by omega) (by simp; rfl) fun g'=>.done ⟨i + 1,gM + 1,U ++ [⟨q.1,q.2,0,some (g',none)⟩],⟨?_,qm1 q2 (by simp),by simp; omega,by simp; omega,by omega⟩,?_⟩
                · rw [<- q1,hdr];simp [qd7,hq,ndN,Ent.nd]
                · have hfr:=qmi (mvS 76 g76 B g') 1000 U (qon _ _ _ _ _ (by omega));rw [qeq,hB];simp [hw,ht,show ¬ 76 = B by omega,show ¬ 25 = B by omega,show ¬ 3 = B by omega,show ¬ 1 = B by omega,show ¬ 2 = B by omega,show ¬ 77 = B by omega,hfr,Ent.v,Ent.iv,u8V,qab,qx7,qzw];refine ⟨qfg (fun g c e=>?_) (fun i e g c hi he hem=>?_),by omega⟩
                  · simp only [Option.some.injEq,Prod.mk.injEq] at e;obtain ⟨rfl,rfl⟩:=e;rw [hB];simp [show ¬ B = 3 by omega,show ¬ B = 25 by omega,show ¬ B = 77 by omega,qbi (qay _)]
                  · simp [show ¬ 1000 + i = 3 by omega,show ¬ 1000 + i = 25 by omega,show ¬ 1000 + i = 77 by omega,show ¬ 1000 + i = B by omega,show ¬ 1000 + i = 1 by omega,show ¬ 1000 + i = 2 by omega];exact qgd (by omega) (by omega) (by omega) he hem
            case' refine_2=>
              have hend:List.drop i (List.take 8 x.g) = []:=by simp; have:=jkc b2; omega
              simp [b2]
          case' refine_2=>
            have hend:List.drop i (List.take 8 x.g) = []:=by simp; have:=jkc b1; omega
            simp [b1]
        all_goals
          rw [hend] at q1;simp only [qd7] at q1;obtain ⟨M,hM⟩:∃ M,x.nn = M:=⟨_,rfl⟩;have hUM:U.length = M:=by rw [<- hM,Cx.nn,<- q1]; simp
          have hM16:M≤16:=by omega
          have hNM:N + j≤M:=by omega
          rw [hUM]
          refine jix (X:=Nat × Nat × List Ent) (fun y=>[(10,qab y.1),(9,qab M),(6,qab j),(5,qab N),(3,.ptr 3 g3 0 0),(2,.ptr 2 g2 0 0),(1,.ptr 1 g1 0 0)])
            (fun y=>ofH x g1 g2 g3 y.2.1 y.2.2 [.nil,.nil,.nil])
            (fun y=>y.2.2.map Ent.nd = x.ns1 y.1/\okS y.2.2/\y.2.2.length = M/\y.1≤j) (fun y=>j - y.1) ?_ ?_
          · refine .done ⟨(0,gM,U),⟨q1,q2,hUM,by simp⟩,by simp [qab],?_⟩;simp [ofH,Cx.v,u8V,hm,hUM];refine qb5 _ _ _ fun i e g c he hem=>?_;simp [show ¬ 1000 + i = 3 by omega,show ¬ 1000 + i = 25 by omega,show ¬ 1000 + i = 1 by omega,show ¬ 1000 + i = 2 by omega];exact qcf _ _ _ _ _ _ he hem
          · clear hUM q1 q2 q3 q4 b1 hend;rintro ⟨e,gM,S⟩ ⟨q1,q2,q3,q4⟩;dsimp only at q1 q2 q3 q4;simp [qab,ofH,Cx.v,u8V,hm];refine jj5 (fun b3=>?_) (fun b3=>?_)
            · have b3':e < j:=by have:=jkb b3; omega
              have hw:=qbg e (by omega);obtain ⟨p,hp⟩:∃ p,N + e = p:=⟨_,rfl⟩;obtain ⟨D,hD⟩:∃ D,x.dat e = D:=⟨_,rfl⟩;have hpl:p < S.length:=by omega
              have hMne:M ≠ 0:=by omega
              obtain ⟨E,hE⟩:∃ E,S[p] = E:=⟨_,rfl⟩;have hget:(qd0 1000 S)[p]'(by simpa using hpl) = E.v (1000 + p):=by rw [qx1 1000 S p hpl,hE]
              have hlow:∀ t,t < 1000->lk (qin 1000 S) t = none:=fun t h=>qe7 _ _ _ h;have hpw:IntKind.i64.wrap ((N:Int) + (e:Int)) = (p:Int):=qtt hp (by omega);obtain ⟨B,hB⟩:∃ B,1000 + p = B:=⟨_,rfl⟩
              have hns:∀ g',(S.set p ⟨E.k,[D],E.b,some (g',some 1)⟩).map Ent.nd = x.ns1 (e + 1):=fun g'=>by
                have h1:(x.ns1 e).getD p in0 = E.nd:=by rw [<- q1,jkd,List.getElem?_map,jkh hpl,hE]; rfl
                simp only [Cx.ns1,hN4,hN,hp,hD,h1,List.map_set,q1];rfl
              have hset:∀ g',(qd0 1000 S).set p (.agg [u8V E.k,.ref B g' 0 1 (some 1),qab 0,qab E.b]) = qd0 1000 (S.set p ⟨E.k,[D],E.b,some (g',some 1)⟩):=fun g'=>by
                rw [<- qx2,hB]; rfl
              rcases (show e = 0∨e = 1 by omega) with rfl | rfl
              case inl=>
                have hD':x.d0 % M = D:=by rw [<- hD,Cx.dat,hM]; rfl
                have hpw2:IntKind.i64.wrap (N:Int) = (p:Int):=by simpa using hpw
                simp [u8i hx.d0,qk2 hD',hMne,hpl,hpw2,hget,Ent.v,hlow];intro gm;refine ⟨rfl,?_⟩;generalize gm 100 = g100;refine .move 100 B _ (by omega) (by simp; rfl) fun g'=>.done ⟨1,gM,S.set p ⟨E.k,[D],E.b,some (g',some 1)⟩,⟨hns g',qvx q2 (by simp),by simpa using q3,by omega⟩,?_⟩;have hfr:=qmi (mvS 100 g100 B g') 1000 S (qon _ _ _ _ _ (by omega));have hset':=hset g';simp [u8V,qab] at hset';simp [show ¬ 100 = B by omega,show ¬ 25 = B by omega,show ¬ 3 = B by omega,show ¬ 1 = B by omega,show ¬ 2 = B by omega,hfr,List.map_set,u8V,qab,qx7,qzw,hset'];refine ⟨qiu (fun g c e=>?_) (fun i y g c hi he hem=>?_),by omega⟩
                · simp only [Option.some.injEq,Prod.mk.injEq] at e;obtain ⟨rfl,rfl⟩:=e;rw [hB];simp [show ¬ B = 25 by omega,qaf,qab]
                · simp [show ¬ 1000 + i = 3 by omega,show ¬ 1000 + i = 25 by omega,show ¬ 1000 + i = B by omega,show ¬ 1000 + i = 1 by omega,show ¬ 1000 + i = 2 by omega];exact qgd (by omega) (by omega) (by omega) he hem
              case inr=>
                have hD':x.d1 % M = D:=by rw [<- hD,Cx.dat,hM]; rfl
                have hpw2:IntKind.i64.wrap ((N:Int) + 1) = (p:Int):=by simpa using hpw
                simp [u8i hx.d1,qk2 hD',hMne,hpl,hpw2,hget,Ent.v,hlow];intro gm;refine ⟨rfl,?_⟩;generalize gm 100 = g100;refine .move 100 B _ (by omega) (by simp; rfl) fun g'=>.done ⟨2,gM,S.set p ⟨E.k,[D],E.b,some (g',some 1)⟩,⟨hns g',qvx q2 (by simp),by simpa using q3,by omega⟩,?_⟩;have hfr:=qmi (mvS 100 g100 B g') 1000 S (qon _ _ _ _ _ (by omega));have hset':=hset g';simp [u8V,qab] at hset';simp [show ¬ 100 = B by omega,show ¬ 25 = B by omega,show ¬ 3 = B by omega,show ¬ 1 = B by omega,show ¬ 2 = B by omega,hfr,List.map_set,u8V,qab,qx7,qzw,hset'];refine ⟨qiu (fun g c e=>?_) (fun i y g c hi he hem=>?_),by omega⟩
                · simp only [Option.some.injEq,Prod.mk.injEq] at e;obtain ⟨rfl,rfl⟩:=e;rw [hB];simp [show ¬ B = 25 by omega,qaf,qab]
                · simp [show ¬ 1000 + i = 3 by omega,show ¬ 1000 + i = 25 by omega,show ¬ 1000 + i = B by omega,show ¬ 1000 + i = 1 by omega,show ¬ 1000 + i = 2 by omega];exact qgd (by omega) (by omega) (by omega) he hem
            · have b3':e = j:=by have:=jkc b3; omega
              subst b3';have hMne:M ≠ 0:=by omega
              have hlow:∀ t,t < 1000->lk (qin 1000 S) t = none:=fun t h=>qe7 _ _ _ h;obtain ⟨A0,hA0⟩:∃ p,x.p0 % M = p:=⟨_,rfl⟩;obtain ⟨A1,hA1⟩:∃ p,x.p1 % M = p:=⟨_,rfl⟩;obtain ⟨A2,hA2⟩:∃ p,x.p2 % M = p:=⟨_,rfl⟩;obtain ⟨A3,hA3⟩:∃ p,x.p3 % M = p:=⟨_,rfl⟩;simp [hMne,u8i hx.p0,u8i hx.p1,u8i hx.p2,u8i hx.p3,hlow,qk2 hA0,qk2 hA1,qk2 hA2,qk2 hA3];obtain ⟨mv,hmv⟩:∃ mv:V,mv = mv:=⟨.nil,rfl⟩
              first
                | (intro gm
                   refine ⟨rfl,?_⟩;generalize gm 111 = g111;generalize gm 124 = g124;generalize gm 132 = g132
                   refine jj6 (X:=Nat × Option (Nat × List V)) (fun y=>[(11,qab y.1),(9,qab M),(3,.ptr 3 g3 0 0),(2,.ptr 2 g2 0 0),(1,.ptr 1 g1 0 0)])
                     (fun y=>(3,.row g3 4 [.agg [.ref 25 gM 0 S.length none,qbe 144 y.2,.ref 132 g132 0 1 (some 1),.nil]]) :: (25,.row gM 4 (qd0 1000 S)) :: (1,.row g1 12 [x.v]) :: (2,.row g2 4 [.agg [.nil,.nil,.nil,.nil]]) :: (132,.row g132 3 [.agg [.ref 111 g111 0 1 (some 1),.ref 124 g124 0 2 (some 2),qab A3]]) :: (124,.row g124 1 [qab A1,qab A2]) :: (111,.row g111 1 [qab A0]) :: (qbj 144 1 y.2 ++ qin 1000 S))
                     (fun y=>y.1≤M/\(y.2 = none↔y.1 = 0)/\qav y.2 = ((List.range y.1).map qh6).map V.str) (fun y=>M - y.1) (0,none) ⟨by simp,by simp,by simp [qav]⟩ (by simp [qab]) ?_ ?_)
                | (refine jj6 (X := Nat × Option (Nat × List V)) (fun y => [(11, qab y.1), (9, qab M), (3, .ptr 3 g3 0 0), (2, .ptr 2 g2 0 0), (1, .ptr 1 g1 0 0)])
                     (fun y=>(3,.row g3 4 [.agg [.ref 25 gM 0 S.length none,qbe 144 y.2,.nil,.nil]]) :: (25,.row gM 4 (qd0 1000 S)) :: (1,.row g1 12 [x.v]) :: (2,.row g2 4 [.agg [.nil,.nil,.nil,.nil]]) :: (qbj 144 1 y.2 ++ qin 1000 S))
                     (fun y=>y.1≤M/\(y.2 = none↔y.1 = 0)/\qav y.2 = ((List.range y.1).map qh6).map V.str) (fun y=>M - y.1) (0,none) ⟨by simp,by simp,by simp [qav]⟩ (by simp [qab]) ?_ ?_)
              case refine_1=>
                simp [qbe,qbj,Cx.v,u8V,qab,hm];refine qb5 _ _ _ fun i e g c he hem=>?_;simp [show ¬ 1000 + i = 3 by omega,show ¬ 1000 + i = 25 by omega,show ¬ 1000 + i = 1 by omega,show ¬ 1000 + i = 2 by omega,show ¬ 1000 + i = 132 by omega,show ¬ 1000 + i = 124 by omega,show ¬ 1000 + i = 111 by omega];exact qcf _ _ _ _ _ _ he hem
              rintro ⟨i,acc⟩ ⟨r1,r2,r3⟩;dsimp only at r1 r2 r3;simp [qab,Cx.v,u8V,hm];refine jj5 (fun b4=>?_) (fun b4=>?_)
              · have b4':i < M:=jkb b4;have hw:=qbg i (by omega);simp [b4];intro gm
                first | refine ⟨_,_,_,.pure (qvq i (by omega)) rfl,?_⟩ | refine ⟨_,⟨_,_,.pure (qvq i (by omega)) rfl⟩,?_⟩ | refine ⟨_,_,⟨_,.pure (qvq i (by omega)) rfl⟩,?_⟩
                cases acc with
                | none=>
                  have hi0:i = 0:=r2.1 rfl;subst hi0;simp [qbe,qbj,hlow];refine ⟨rfl,1,some (gm 144,[.str (qh6 0)]),⟨by omega,by simp,by simp [qav,List.range_succ]⟩,rfl,?_,by omega⟩;simp;refine qb5 _ _ _ fun i e g c he hem=>?_;simp [show ¬ 1000 + i = 3 by omega,show ¬ 1000 + i = 25 by omega,show ¬ 1000 + i = 1 by omega,show ¬ 1000 + i = 2 by omega,show ¬ 1000 + i = 132 by omega,show ¬ 1000 + i = 124 by omega,show ¬ 1000 + i = 111 by omega,show ¬ 1000 + i = 143 by omega,show ¬ 1000 + i = 144 by omega];exact qcf _ _ _ _ _ _ he hem
                | some gl=>
                  obtain ⟨g,l⟩:=gl;simp only [qav] at r3;have hll:l.length = i:=by rw [r3]; simp
                  simp [qbe,qbj,hlow,hw];refine ⟨by omega,rfl,i + 1,some (g + 1,l ++ [.str (qh6 i)]),⟨by omega,by simp,by simp [qav,r3,List.range_succ]⟩,by simp,?_,by omega⟩;simp;refine qb5 _ _ _ fun i e g c he hem=>?_;simp [show ¬ 1000 + i = 3 by omega,show ¬ 1000 + i = 25 by omega,show ¬ 1000 + i = 1 by omega,show ¬ 1000 + i = 2 by omega,show ¬ 1000 + i = 132 by omega,show ¬ 1000 + i = 124 by omega,show ¬ 1000 + i = 111 by omega,show ¬ 1000 + i = 143 by omega,show ¬ 1000 + i = 144 by omega];exact qcf _ _ _ _ _ _ he hem
              · have hi:i = M:=by have:=jkc b4; omega
                rw [hi] at r2 r3 ⊢;clear hi b4 r1;clear i
                cases acc with
                | none=>have:=r2.1 rfl; omega
                | some gl=>
                obtain ⟨g144,nl⟩:=gl;simp only [qav] at r3;simp [qbe,qbj];have hnl:nl.length = M:=by rw [r3]; simp
                rw [hnl]
                first
                  | refine jj6 (X:=Nat × Option (Nat × List V)) (fun y=>[(12,qab y.1),(9,qab M),(3,.ptr 3 g3 0 0),(2,.ptr 2 g2 0 0),(1,.ptr 1 g1 0 0)])
                      (fun y=>(3,.row g3 4 [.agg [.ref 25 gM 0 S.length none,.ref 144 g144 0 M none,.ref 132 g132 0 1 (some 1),qbe 168 y.2]]) :: (25,.row gM 4 (qd0 1000 S)) :: (1,.row g1 12 [x.v]) :: (2,.row g2 4 [.agg [.nil,.nil,.nil,.nil]]) :: (132,.row g132 3 [.agg [.ref 111 g111 0 1 (some 1),.ref 124 g124 0 2 (some 2),qab A3]]) :: (124,.row g124 1 [qab A1,qab A2]) :: (111,.row g111 1 [qab A0]) :: (144,.row g144 1 nl) :: (qbj 168 1 y.2 ++ qin 1000 S))
                      (fun y=>y.1≤x.o.length/\y.1≤3/\(y.2 = none↔y.1 = 0)/\qav y.2 = qaf ((x.o.take y.1).map fun o=>o % M)) (fun y=>3 - y.1) (0,none) ⟨by simp,by simp,by simp,by simp [qav,qaf]⟩ (by simp [qab]) ?_ ?_
                  | refine jj6 (X:=Nat × Option (Nat × List V)) (fun y=>[(12,qab y.1),(9,qab M),(3,.ptr 3 g3 0 0),(2,.ptr 2 g2 0 0),(1,.ptr 1 g1 0 0)])
                      (fun y=>(3,.row g3 4 [.agg [.ref 25 gM 0 S.length none,.ref 144 g144 0 M none,.nil,qbe 168 y.2]]) :: (25,.row gM 4 (qd0 1000 S)) :: (1,.row g1 12 [x.v]) :: (2,.row g2 4 [.agg [.nil,.nil,.nil,.nil]]) :: (144,.row g144 1 nl) :: (qbj 168 1 y.2 ++ qin 1000 S))
                      (fun y=>y.1≤x.o.length/\y.1≤3/\(y.2 = none↔y.1 = 0)/\qav y.2 = qaf ((x.o.take y.1).map fun o=>o % M)) (fun y=>3 - y.1) (0,none) ⟨by simp,by simp,by simp,by simp [qav,qaf]⟩ (by simp [qab]) ?_ ?_
                case refine_1=>
                  simp [qbe,qbj,Cx.v,u8V,qab,hm];refine qb5 _ _ _ fun i e g c he hem=>?_;simp [show ¬ 1000 + i = 3 by omega,show ¬ 1000 + i = 25 by omega,show ¬ 1000 + i = 1 by omega,show ¬ 1000 + i = 2 by omega,show ¬ 1000 + i = 132 by omega,show ¬ 1000 + i = 124 by omega,show ¬ 1000 + i = 111 by omega,show ¬ 1000 + i = 144 by omega];exact qcf _ _ _ _ _ _ he hem
                rintro ⟨i,acc⟩ ⟨s1,s2,s3,s4⟩;dsimp only at s1 s2 s3 s4;simp [qab,Cx.v,u8V,hm];refine jj5 (fun c1=>?_) (fun c1=>?_)
                case' refine_1=>
                  have c1':i < x.o.length:=by have:=jkb c1; omega
                  simp [c1];refine jj5 (fun c2=>?_) (fun c2=>?_)
                  case refine_1=>
                    have c2':i < 3:=by have:=jkb c2; omega
                    have hw:=qbg i (by omega);obtain ⟨O,hO⟩:∃ O,x.o[i] = O:=⟨_,rfl⟩;have hOl:=hx.o _ (jkg c1');rw [hO] at hOl;obtain ⟨R,hR⟩:∃ R,O % M = R:=⟨_,rfl⟩;have htk:x.o.take (i + 1) = x.o.take i ++ [O]:=by rw [List.take_succ_eq_append_getElem c1',hO]
                    have htk':List.take (i + 1) (x.o.map fun o=>o % M) = List.take i (x.o.map fun o=>o % M) ++ [R]:=by rw [<- List.map_take,htk,List.map_append,List.map_take]; simp [hR]
                    cases acc with
                    | none=>
                      have hi0:i = 0:=s3.1 rfl;subst hi0;simp [c1',hO,u8V,u8i hOl,qk2 hR,hMne,qbe,qbj,hlow];intro gm;refine ⟨rfl,1,some (gm 168,[qab R]),⟨by omega,by omega,by simp,by have h:=htk'; rw [Nat.zero_add] at h; rw [h]; simp [qav,qaf]⟩,rfl,?_,by omega⟩;simp [qab];refine qb5 _ _ _ fun i e g c he hem=>?_;simp [show ¬ 1000 + i = 3 by omega,show ¬ 1000 + i = 25 by omega,show ¬ 1000 + i = 1 by omega,show ¬ 1000 + i = 2 by omega,show ¬ 1000 + i = 132 by omega,show ¬ 1000 + i = 124 by omega,show ¬ 1000 + i = 111 by omega,show ¬ 1000 + i = 144 by omega,show ¬ 1000 + i = 167 by omega,show ¬ 1000 + i = 168 by omega];exact qcf _ _ _ _ _ _ he hem
                    | some gl=>
                      obtain ⟨g,l⟩:=gl;simp only [qav] at s4;have hll:l.length = i:=by rw [s4]; simp; omega
                      simp [c2,c1',hO,u8V,u8i hOl,qk2 hR,hMne,qbe,qbj,hlow,hw];intro gm;refine ⟨by omega,rfl,i + 1,some (g + 1,l ++ [qab R]),⟨by omega,by omega,by simp,by rw [htk']; simp [qav,s4,qaf]⟩,by simp,?_,by omega⟩;simp [qab];refine qb5 _ _ _ fun i e g c he hem=>?_;simp [show ¬ 1000 + i = 3 by omega,show ¬ 1000 + i = 25 by omega,show ¬ 1000 + i = 1 by omega,show ¬ 1000 + i = 2 by omega,show ¬ 1000 + i = 132 by omega,show ¬ 1000 + i = 124 by omega,show ¬ 1000 + i = 111 by omega,show ¬ 1000 + i = 144 by omega,show ¬ 1000 + i = 167 by omega,show ¬ 1000 + i = 168 by omega];exact qcf _ _ _ _ _ _ he hem
                  case' refine_2=>
                    have hend:x.o.take i = x.o.take 3:=by
                      have:i = 3:=by have:=jkc c2; omega
                      rw [this]
                    simp [c2]
                case' refine_2=>
                  have hend:x.o.take i = x.o.take 3:=by
                    have:=jkc c1;rw [jkf (by omega),jkf (by omega)]
                  simp [c1]
                all_goals
                  rw [hend] at s4;obtain ⟨M1,hM1⟩:∃ p,M = 1 + p:=⟨M - 1,by omega⟩;have hMw:IntKind.i64.wrap ((M:Int) - 1) = (M1:Int):=ql6 (b:=1) hM1 (by omega);have hM1':M - 1 = M1:=by omega
                  cases acc with
                  | none=>
                    simp only [qav] at s4
                    have hnil:(x.o.take 3).map (fun o=>o % M) = []:=by
                      cases hq:(x.o.take 3).map (fun o=>o % M) with
                      | nil=>rfl
                      | cons a r=>rw [hq] at s4; simp [qaf] at s4
                    simp [qbe,qbj,hMw];intro ga gb;generalize gb 175 = g175;refine .done ?_;simp;refine qvw (b:=175) (l:=[M1]) (by rw [q1,hF3]) q2 hM (by simp) (fun i e g c he hem=>?_) (by simp [r3]) ?_ (.inr rfl) (by simp [qaf,qab]) (by rw [hnil,hM1']; rfl)
                    · simp [show ¬ 1000 + i = 25 by omega,show ¬ 1000 + i = 144 by omega,show ¬ 1000 + i = 175 by omega,show ¬ 1000 + i = 132 by omega,show ¬ 1000 + i = 124 by omega,show ¬ 1000 + i = 111 by omega,show ¬ 1000 + i = 2 by omega,show ¬ 1000 + i = 3 by omega,show ¬ 1000 + i = 1 by omega,show ¬ 1000 + i = 174 by omega];exact qcf _ _ _ _ _ _ he hem
                    · first
                        | exact .inl ⟨hm,rfl⟩
                        | (refine .inr ⟨hm,g132,g124,g111,rfl,?_,?_,?_⟩ <;> simp [hA0,hA1,hA2,hA3,qab])
                  | some gl=>
                    obtain ⟨g,l⟩:=gl;simp only [qav] at s4;have hll:l.length = (x.o.take 3).length:=by rw [s4]; simp [qaf]
                    have hl3:l.length≤3:=by rw [hll]; simp; omega
                    obtain ⟨Lo,hLo⟩:∃ Lo,Lo = (x.o.take 3).map (fun o=>o % M) ++ [M - 1]:=⟨_,rfl⟩;have hlo:l.length + 1 = Lo.length:=by rw [hLo,hll]; simp
                    have hlv:l ++ [.int .i64 (M1:Int)] = qaf Lo:=by rw [hLo,qfz,s4,hM1']; simp [qaf,qab]
                    simp [qbe,qbj,hMw];intro ga gb;generalize gb 168 = g168;refine ⟨by omega,.done ?_⟩;simp [hlo,hlv];refine qvw (b:=168) (l:=Lo) (by rw [q1,hF3]) q2 hM (by simp) (fun i e g c he hem=>?_) (by simp [r3]) ?_ (.inl rfl) (by simp) hLo
                    · simp [show ¬ 1000 + i = 25 by omega,show ¬ 1000 + i = 144 by omega,show ¬ 1000 + i = 168 by omega,show ¬ 1000 + i = 132 by omega,show ¬ 1000 + i = 124 by omega,show ¬ 1000 + i = 111 by omega,show ¬ 1000 + i = 2 by omega,show ¬ 1000 + i = 3 by omega,show ¬ 1000 + i = 1 by omega,show ¬ 1000 + i = 174 by omega];exact qcf _ _ _ _ _ _ he hem
                    · first
                        | exact .inl ⟨hm,rfl⟩
                        | (refine .inr ⟨hm,g132,g124,g111,rfl,?_,?_,?_⟩ <;> simp [hA0,hA1,hA2,hA3,qab])
theorem jbw (x:Cx) (hx:x.ok):qac Tryz.prog gl0 24 [x.v] x.ci.v:=jjb 3 (of_own x hx) fun _ _ h=>h
end
end Go.Proofs.YtbbnmiaabmbheaaGreatDoor
