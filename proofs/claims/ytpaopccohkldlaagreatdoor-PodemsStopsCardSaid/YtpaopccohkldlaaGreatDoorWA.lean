/- Podems: Generate. Conditions: none. -/
import Derived.Test.YtpaopccohkldlaaGreatDoorW7
import Derived.Test.YtpaopccohkldlaaGreatDoorV9
set_option linter.all false
namespace Go.Proofs.YtpaopccohkldlaaGreatDoor
section
open Go
def jd2 (l:Nat) (R:VR) (v:V) (h:Hp):Prop:=match R with
 | .found q w=>∃ g0 g1,v = .tup [.agg [.int .u8 1,.ref 0 g0 0 q.i.length (some q.i.length),.ref 1 g1 0 q.s.length (some q.s.length),.nil,qaa w],.int .i64 0]/\h = [(0,.row g0 1 (q.i.map u8V)),(1,.row g1 1 (q.s.map u8V))]
 | .proof t w=>(∃ cap,v = .tup [.agg [.int .u8 2,.nil,.nil,trV t cap,qaa w],.int .i64 0])/\h = []
 | .spent _=>v = .tup [.agg [.int .u8 3,.nil,.nil,.nil,qaa l],.int .i64 0]/\h = []
theorem q6i (c:Ci):(qd4 c).cu:=⟨fun x hx=>by rw [List.eq_of_mem_replicate hx]; omega,fun x hx=>by rw [List.eq_of_mem_replicate hx]; omega⟩
theorem jgm (c:Ci) (f:Ft) (g:SG) (l:Nat) (gf:Nat->Nat):upH 9000 gf (H0 c f g l) = (sea c f).H ⟨gf 9000 + g.b,gf 9001 + g.w,gf 9002 + g.s,gf 9003 + g.i,gf 9004 + g.t⟩ (qd4 c) l 0:=by
 have q:jos (c.n.map Nd.v) = true/\jos (c.s.map V.str) = true/\jos (c.m.map Md.v) = true/\jos (qc8 c.o) = true:=by simp
 obtain ⟨q1,q2,q3,q4⟩:=q;have hO:=qa1 (qjb c);have hC:=qeb c.n.length (ctl c);have hcs:=jat c f
 have hmE:∀ s,(qi5 (sea c f).w).map (fun p=>(V.rn s p.1,V.rn s p.2)) = qi5 (sea c f).w:=fun s=>by
  simp [qi5,qaa,V.rn]
 unfold H0 qyn Sea.H Sea.cells;rw [hcs,<- jnw c f];show _ = [(9002,Blk.row _ 15 [V.agg [.ptr 9000 _ 0 0,.sl (c.n.map Nd.v) none,.sl (c.s.map V.str) none,.sl (c.m.map Md.v) none,.sl (qc8 c.o) none,u8V f.m,qaa f.n,.int .i64 f.pin,u8V f.v,qaa f.o,.sl (qcv c.n.length (ctl c)) (some c.n.length),.own 9001 _,.sl (qad (qjb c)) (some c.n.length),_,_]]),_,_,_,_];simp [upH,upS,Blk.rn,V.rn,jpa,hmE,qap _ q1,qap _ q2,qap _ q3,qap _ q4,qap _ hC,qap _ hO,u8V,qaa,qd4]
noncomputable def qgn (c:Ci) (f:Ft) (l:Nat):VR:=qa4 (sea c f) l ((qd4 c).many + 1) (qd4 c) 0
theorem jd3 (c:Ci) (hg:c.good) (hk:c.plain) (f:Ft) (hf:f.ok c) (hm:f.m = 0) (l:Nat) (hl:l≤1000000):qbo Tryz.prog gl0 46 [c.v,f.w,qaa l] (jd2 l (qgn c f l)):=by
 have h1:=q3v c hg hk f hf l;have h2:=q73 c hg f l;have hlim:jb0 (l:Int) = 0:=by unfold jb0; rw [if_neg (by omega),if_neg (by omega)]
 rw [if_neg (by omega),hlim] at h1;have h3:=fun g=>jgi (sea c f) (q7n c hg f hf hm) (jau c hg f) hk (q7o c f) g l (by omega) (qd4 c) (qsr c) (q6i c);change ∀ g,qau _ _ _ _ _ (qvq g l (qgn c f l)) at h3;generalize qgn c f l = R at h3 ⊢;refine jqq ok46 rfl ?_;simp [i46,x46,nop,qaa];intro gf1 gf2 gf3;generalize gf1 3 = g3;generalize gf2 4 = g4;generalize gf3 6 = g6;simp only [Ft.w,u8V,qaa] at h1 h2 ⊢;refine jqk h1 (by simp) ?_;simp;refine CallO.own 9000 h2 (by simp) (by simp) ?_;rintro v h ⟨g,rfl,rfl⟩ gf4;rw [jgm];have h4:=h3 ⟨gf4 9000 + g.b,gf4 9001 + g.w,gf4 9002 + g.s,gf4 9003 + g.i,gf4 9004 + g.t⟩;have hin:=qcl (sea c f) ⟨gf4 9000 + g.b,gf4 9001 + g.w,gf4 9002 + g.s,gf4 9003 + g.i,gf4 9004 + g.t⟩ (qd4 c) l 0;have e9:(V.ptr 2 g.s 0 0).rn (upS 9000 gf4) = .ptr 9002 (gf4 9002 + g.s) 0 0:=rfl;rw [e9];generalize hSH:(sea c f).H ⟨gf4 9000 + g.b,gf4 9001 + g.w,gf4 9002 + g.s,gf4 9003 + g.i,gf4 9004 + g.t⟩ (qd4 c) l 0 = SH at h4 hin ⊢;simp;refine CallO.lend [9002,9003,9004,9001,9000] SH [(6,.row g6 5 [.agg [.int .u8 0,.nil,.nil,.nil,.int .i64 0]])] h4 (by simp) ?_ hin ?_ (by simp) ?_
 ·rw [<- hSH]; simp [Sea.H]
 ·rw [<- hSH]; simp [Sea.H]
 ·intro v h' hK;unfold qvq at hK;clear h4 hin hSH h1 h2 h3;generalize gf4 9003 + g.i = g5 at hK;generalize gf4 9004 + g.t = g7 at hK
  cases R with
  | found q w=>
   obtain ⟨rfl,rfl⟩:=hK;have hp1:jos (q.i.map u8V) = true:=by simp
   have hp2:jos (q.s.map u8V) = true:=by simp
   refine ⟨rfl,by simp [jot _ _ hp1,jot _ _ hp2],?_⟩;simp [qaa];refine .move 9003 0 _ (by simp) (by simp; rfl) fun g0=>.move 9004 1 _ (by simp) (by simp; rfl) fun g1=>.done ?_;simp [-List.map_map,jd2,Blk.rn,qaf hp1,qaf hp2,qaa];refine ⟨_,?_,g0,g1,⟨rfl,rfl⟩,rfl⟩;simp
  | proof t w=>
   obtain ⟨⟨cap,rfl⟩,rfl⟩:=hK;refine ⟨by simp [trV,qaa,jot _ _ (qcd _)],rfl,?_⟩;simp [qaa];refine .done ?_;simp [jd2,qaa];exact ⟨cap,rfl⟩
  | spent q=>
   obtain ⟨rfl,rfl⟩:=hK;refine ⟨rfl,rfl,?_⟩;simp [qaa];refine .done ?_;simp [jd2,qaa]
theorem VLe.tup {a b:List V} (h:qf0 a b):VLe (.tup a) (.tup b):=fun G M r hr=>by
 obtain ⟨h1,h2⟩:=h.spec
 cases hr with
 | tup _ arr hs q=>exact .tup _ arr (by rw [hs,h1]) fun i hi=>h2 i G M _ (q i (by rw [h1]; exact hi))
def qpl (l:Nat):VR->V
 | .found q w=>.agg [.int .u8 1,.sl (q.i.map u8V) (some q.i.length),.sl (q.s.map u8V) (some q.s.length),.nil,qaa w]
 | .proof t w=>.agg [.int .u8 2,.nil,.nil,trV t none,qaa w]
 | .spent _=>.agg [.int .u8 3,.nil,.nil,.nil,qaa l]
theorem qq1 (c:Ci) (hg:c.good) (hk:c.plain) (f:Ft) (hf:f.ok c) (hm:f.m = 0) (l:Nat) (hl:l≤1000000):qac Tryz.prog gl0 46 [c.v,f.w,qaa l] (.tup [qpl l (qgn c f l),.int .i64 0]):=by
 refine jpc 3 (jd3 c hg hk f hf hm l hl) ?_;intro v h hK;unfold jd2 at hK
 cases hR:qgn c f l with
 | found q w=>
  rw [hR] at hK;obtain ⟨g0,g1,rfl,rfl⟩:=hK;have hp1:jos (q.i.map u8V) = true:=by simp
  have hp2:jos (q.s.map u8V) = true:=by simp
  rw [qkk,qfl];rw [List.map_cons,List.map_cons,List.map_cons,List.map_cons,List.map_cons,List.map_nil,qbf (sz:=1) (es:=q.i.map u8V) (by simp) (by simp),qbf (sz:=1) (es:=q.s.map u8V) (by simp) (by simp)];rw [List.drop_zero,List.drop_zero,jqw (by simp),jqw (by simp),qbm _ _ hp1,qbm _ _ hp2];exact VLe.refl _
 | proof t w=>
  rw [hR] at hK;obtain ⟨⟨cap,rfl⟩,rfl⟩:=hK;rw [qkk,qfl];have:frz [] 3 (trV t cap) = trV t cap:=qbb _ (by simp [trV,V.pure,qcd]);rw [List.map_cons,List.map_cons,List.map_cons,List.map_cons,List.map_cons,List.map_nil,this];exact VLe.tup ⟨VLe.agg ⟨.refl _,.refl _,.refl _,VLe.cap _ _,.refl _,trivial⟩,.refl _,trivial⟩
 | spent q=>
  rw [hR] at hK;obtain ⟨rfl,rfl⟩:=hK;exact VLe.refl _
end
section
open Go
structure Fw where
 m:Int
 n:Int
 p:Int
 v:Int
 o:Int
def Fw.w (f:Fw):V:=.agg [.int .u8 f.m,.int .i64 f.n,.int .i64 f.p,.int .u8 f.v,.int .i64 f.o]
def Ft.x (f:Ft):Fw:=⟨f.m,f.n,f.pin,f.v,f.o⟩
structure AlSt where
 j:Nat
 g:Nat
end
section
open Go
noncomputable def chS (S:Sea) (p:Pt):Nat × Nat:=qcf S p (qbn S.c p) (S.f.M S.c p)
noncomputable def qq9 (i v:Nat) (t t2:DT):DT:=if v = 0 then .nd i t t2 else .nd i t2 t
theorem qeu (S:Sea) (l k:Nat) (p:Pt) (u:Nat):qa4 S l (k + 1) p u =
  if S.f.det S.c p = true then .found p u else if qkc S.c S.f p = true then .proof .lf u else if u = l then .spent p
  else match qa4 S l k (p.set (chS S p).1 (chS S p).2) (u + 1) with
   | .found q w=>.found q w
   | .spent q=>.spent q
   | .proof t w=>match qa4 S l k (p.set (chS S p).1 (1 - (chS S p).2)) w with
    | .found q w=>.found q w
    | .spent q=>.spent q
    | .proof t2 w2=>.proof (qq9 (chS S p).1 (chS S p).2 t t2) w2:=rfl
theorem jjh (S:Sea) (hS:S.ok) (hk:S.c.plain) (p:Pt) (hw:S.w.length = p.many) (hp:p.fit S.c) (hc:p.cu) (h1:¬ S.f.det S.c p = true) (h2:¬ qkc S.c S.f p = true):(chS S p).1 < p.many/\p.bit (chS S p).1 = 2/\(chS S p).2≤1:=by
 obtain ⟨j,hj,hj2⟩:=qtl hS.g hk hS.f hp hc h1 h2;exact qk1 S hS p hw _ _ hj hj2
def VOk (S:Sea) (l:Nat) (p:Pt) (u:Nat):VR->Prop
 | .found q w=>p.le q/\q.fit S.c/\q.cu/\S.f.det S.c q = true/\u≤w/\w≤l/\p.opens≤q.opens + (w - u)/\w - u + 1≤2 ^ p.opens
 | .proof t w=>prB S.c S.f t p = true/\(∀ us,(∀ j ∈ us,p.bit j ≠ 2)->t.ok p.many us)/\t.sz = 2 * (w - u) + 1/\u≤w/\w≤l/\w - u + 1≤2 ^ p.opens
 | .spent _=>l - u + 1 < 2 ^ p.opens
theorem Pt.le.trans {p q r:Pt} (h1:p.le q) (h2:q.le r):p.le r:=by
 rw [Pt.le_bit] at h1 h2 ⊢;refine ⟨h1.1.trans h2.1,h1.2.1.trans h2.2.1,fun k hk=>?_⟩;have hm:p.many = q.many:=by unfold Pt.many; rw [h1.1,h1.2.1]
 have a:=h1.2.2 k hk;have b:=h2.2.2 k (by omega);unfold le2 at a b ⊢;rcases a with a | a
 ·rw [a]; exact b
 ·exact .inr a
theorem qvl (n:Nat):1≤2 ^ n:=Nat.one_le_two_pow
theorem q4b (S:Sea) (p:Pt) {i v:Nat} (hv:v≤1) {t t2:DT} (h1:prB S.c S.f t (p.set i v) = true) (h2:prB S.c S.f t2 (p.set i (1 - v)) = true):prB S.c S.f (qq9 i v t t2) p = true:=by
 unfold qq9;by_cases h0:v = 0
 ·subst h0;rw [if_pos rfl,prB,h1,h2]; rfl
 ·have:v = 1:=by omega
  subst this;rw [if_neg (by decide),prB,h1];rw [show (1 - 1:Nat) = 0 from rfl] at h2;rw [h2]; rfl
theorem q4c {i v:Nat} (t t2:DT):(qq9 i v t t2).sz = 1 + t.sz + t2.sz:=by
 unfold qq9;split <;> simp only [DT.sz] <;> omega
theorem q4a {n i v:Nat} {t t2:DT} {us:List Nat} (hi:i < n) (hn:i ∉ us) (h1:t.ok n (i :: us)) (h2:t2.ok n (i :: us)):(qq9 i v t t2).ok n us:=by
 unfold qq9;split
 ·exact ⟨hi,hn,h1,h2⟩
 ·exact ⟨hi,hn,h2,h1⟩
theorem qpz (S:Sea) (hS:S.ok) (hk:S.c.plain) (hw:S.w.length = cnt 0 S.c.n + cnt 14 S.c.n) (l:Nat):∀ (k:Nat) (p:Pt) (u:Nat),p.fit S.c->p.cu->p.opens < k->u≤l->VOk S l p u (qa4 S l k p u)
 | 0,p,u,_,_,h,_=>by omega
 | k + 1,p,u,hp,hc,ho,hu=>by
  have hone:=qvl p.opens;rw [qeu];by_cases h1:S.f.det S.c p = true
  ·rw [if_pos h1];exact ⟨p.le_rfl,hp,hc,h1,jqz _,hu,by omega,by omega⟩
  rw [if_neg h1];by_cases h2:qkc S.c S.f p = true
  ·rw [if_pos h2];exact ⟨h2,fun _ _=>trivial,by simp [DT.sz],jqz _,hu,by omega⟩
  rw [if_neg h2];have hpm:S.w.length = p.many:=by rw [hw]; unfold Pt.many; rw [hp.i,hp.s]
  obtain ⟨c1,c2,c3⟩:=jjh S hS hk p hpm hp hc h1 h2;generalize (chS S p).1 = i at c1 c2 ⊢;generalize (chS S p).2 = v at c3 ⊢;have o1:=qfc c1 c2 c3;have o2:=qfc (v:=1 - v) c1 c2 (by omega);have f1:(p.set i v).fit S.c:=jo1 hp i v (by omega);have f2:(p.set i (1 - v)).fit S.c:=jo1 hp i (1 - v) (by omega);have u1:=qg5 hc c1 (v:=v) (by omega);have u2:=qg5 hc c1 (v:=1 - v) (by omega);have e1:p.le (p.set i v):=jp1 c1 v c2;have e2:p.le (p.set i (1 - v)):=jp1 c1 (1 - v) c2;have hpow:2 ^ p.opens = 2 * 2 ^ (p.set i v).opens:=by rw [o1,Nat.pow_succ]; omega
  have ho2:(p.set i (1 - v)).opens = (p.set i v).opens:=by omega
  have hone2:=qvl (p.set i v).opens;by_cases h3:u = l
  ·rw [if_pos h3];show l - u + 1 < 2 ^ p.opens;omega
  rw [if_neg h3];have i1:=qpz S hS hk hw l k (p.set i v) (u + 1) f1 u1 (by omega) (by omega)
  cases hr:qa4 S l k (p.set i v) (u + 1) with
  | found q w=>
   rw [hr] at i1;obtain ⟨a1,a2,a3,a4,a5,a6,a7,a8⟩:=i1;exact ⟨e1.trans a1,a2,a3,a4,by omega,a6,by omega,by omega⟩
  | spent q=>
   rw [hr] at i1;change l - (u + 1) + 1 < _ at i1;show l - u + 1 < _;omega
  | proof t w=>
   rw [hr] at i1;obtain ⟨a1,a2,a3,a4,a5,a6⟩:=i1;have i2:=qpz S hS hk hw l k (p.set i (1 - v)) w f2 u2 (by omega) a5;simp only []
   cases hr2:qa4 S l k (p.set i (1 - v)) w with
   | found q w2=>
    rw [hr2] at i2;obtain ⟨b1,b2,b3,b4,b5,b6,b7,b8⟩:=i2;rw [ho2] at b8;exact ⟨e2.trans b1,b2,b3,b4,by omega,b6,by omega,by omega⟩
   | spent q=>
    rw [hr2] at i2;change l - w + 1 < _ at i2;rw [ho2] at i2;show l - u + 1 < _;omega
   | proof t2 w2=>
    rw [hr2] at i2;obtain ⟨b1,b2,b3,b4,b5,b6⟩:=i2;rw [ho2] at b6;refine ⟨q4b S p c3 a1 b1,fun us hus=>?_,by rw [q4c,a3,b3]; omega,by omega,b5,by omega⟩;have hni:i ∉ us:=fun h=>hus i h c2;refine q4a c1 hni ?_ ?_
    ·have:=a2 (i :: us) fun j hj=>by
      rw [jo0 c1];split
      ·omega
      ·rename_i hne;rcases List.mem_cons.1 hj with rfl | hj
       ·exact absurd rfl hne
       ·exact hus j hj
     rwa [jpe] at this
    ·have:=b2 (i :: us) fun j hj=>by
      rw [jo0 c1];split
      ·omega
      ·rename_i hne;rcases List.mem_cons.1 hj with rfl | hj
       ·exact absurd rfl hne
       ·exact hus j hj
     rwa [jpe] at this
def VR.used:VR->Option Nat
 | .found _ w=>some w
 | .proof _ w=>some w
 | .spent _=>none
theorem qgt (S:Sea) (l:Nat):∀ (k:Nat) (p:Pt) (u w:Nat),(qa4 S l k p u).used = some w->u≤w
 | 0,p,u,w,h=>by simp [qa4,VR.used] at h
 | k + 1,p,u,w,h=>by
  rw [qeu] at h;split at h
  ·simp only [VR.used,Option.some.injEq] at h; omega
  split at h
  ·simp only [VR.used,Option.some.injEq] at h; omega
  split at h
  ·simp [VR.used] at h
  have i1:=qgt S l k (p.set (chS S p).1 (chS S p).2) (u + 1)
  cases hr:qa4 S l k (p.set (chS S p).1 (chS S p).2) (u + 1) with
  | found q w1=>
   rw [hr] at h i1;have:=i1 w1 rfl;simp only [VR.used,Option.some.injEq] at h; omega
  | spent q=>rw [hr] at h; simp [VR.used] at h
  | proof t w1=>
   rw [hr] at h i1;have h1:=i1 w1 rfl;have i2:=qgt S l k (p.set (chS S p).1 (1 - (chS S p).2)) w1 w;simp only [] at h
   cases hr2:qa4 S l k (p.set (chS S p).1 (1 - (chS S p).2)) w1 with
   | found q w2=>rw [hr2] at h i2; have:=i2 h; omega
   | spent q=>rw [hr2] at h; simp [VR.used] at h
   | proof t2 w2=>
    rw [hr2] at h i2;have:=i2 h; omega
theorem qgs (S:Sea) (l l':Nat):∀ (k:Nat) (p:Pt) (u w:Nat),(qa4 S l k p u).used = some w->w≤l'->qa4 S l' k p u = qa4 S l k p u
 | 0,p,u,w,h,_=>by simp [qa4,VR.used] at h
 | k + 1,p,u,w,h,hl=>by
  rw [qeu] at h;rw [qeu,qeu];by_cases h1:S.f.det S.c p = true
  ·rw [if_pos h1,if_pos h1]
  rw [if_neg h1] at h;rw [if_neg h1,if_neg h1];by_cases h2:qkc S.c S.f p = true
  ·rw [if_pos h2,if_pos h2]
  rw [if_neg h2] at h;rw [if_neg h2,if_neg h2];by_cases h3:u = l
  ·rw [if_pos h3] at h; simp [VR.used] at h
  rw [if_neg h3] at h;rw [if_neg h3];have m1:=qgt S l k (p.set (chS S p).1 (chS S p).2) (u + 1);have i1:=qgs S l l' k (p.set (chS S p).1 (chS S p).2) (u + 1)
  cases hr:qa4 S l k (p.set (chS S p).1 (chS S p).2) (u + 1) with
  | found q w1=>
   rw [hr] at h m1 i1;have:=m1 w1 rfl;simp only [VR.used,Option.some.injEq] at h;rw [if_neg (by omega),i1 w1 rfl (by omega)]
  | spent q=>rw [hr] at h; simp [VR.used] at h
  | proof t w1=>
   rw [hr] at h m1 i1;have h1':=m1 w1 rfl;have m2:=qgt S l k (p.set (chS S p).1 (1 - (chS S p).2)) w1 w;have i2:=qgs S l l' k (p.set (chS S p).1 (1 - (chS S p).2)) w1 w;simp only [] at h
   have hw1:w1≤w:=by
    cases hr2:qa4 S l k (p.set (chS S p).1 (1 - (chS S p).2)) w1 with
    | found q w2=>rw [hr2] at h m2; exact m2 h
    | spent q=>rw [hr2] at h; simp [VR.used] at h
    | proof t2 w2=>rw [hr2] at h m2; exact m2 h
   have hu2:(qa4 S l k (p.set (chS S p).1 (1 - (chS S p).2)) w1).used = some w:=by
    cases hr2:qa4 S l k (p.set (chS S p).1 (1 - (chS S p).2)) w1 with
    | found q w2=>rw [hr2] at h; exact h
    | spent q=>rw [hr2] at h; simp [VR.used] at h
    | proof t2 w2=>rw [hr2] at h; exact h
   rw [if_neg (by omega),i1 w1 rfl (by omega)];simp only [];rw [i2 hu2 hl]
theorem qji (S:Sea) (l l':Nat):∀ (k:Nat) (p:Pt) (u w:Nat),(qa4 S l k p u).used = some w->u≤l'->l' < w->∃ q,qa4 S l' k p u = .spent q
 | 0,p,u,w,h,_,_=>by simp [qa4,VR.used] at h
 | k + 1,p,u,w,h,hu,hl=>by
  rw [qeu] at h;rw [qeu];by_cases h1:S.f.det S.c p = true
  ·rw [if_pos h1] at h; simp only [VR.used,Option.some.injEq] at h; omega
  rw [if_neg h1] at h;rw [if_neg h1];by_cases h2:qkc S.c S.f p = true
  ·rw [if_pos h2] at h; simp only [VR.used,Option.some.injEq] at h; omega
  rw [if_neg h2] at h;rw [if_neg h2];by_cases h3:u = l
  ·rw [if_pos h3] at h; simp [VR.used] at h
  rw [if_neg h3] at h;by_cases h4:u = l'
  ·rw [if_pos h4]; exact ⟨_,rfl⟩
  rw [if_neg h4];have i1:=qji S l l' k (p.set (chS S p).1 (chS S p).2) (u + 1);have s1:=qgs S l l' k (p.set (chS S p).1 (chS S p).2) (u + 1)
  cases hr:qa4 S l k (p.set (chS S p).1 (chS S p).2) (u + 1) with
  | found q w1=>
   rw [hr] at h i1;simp only [VR.used,Option.some.injEq] at h;obtain ⟨q',e⟩:=i1 w1 rfl (by omega) (by omega);rw [e]; exact ⟨_,rfl⟩
  | spent q=>rw [hr] at h; simp [VR.used] at h
  | proof t w1=>
   rw [hr] at h i1 s1;simp only [] at h
   have hu2:(qa4 S l k (p.set (chS S p).1 (1 - (chS S p).2)) w1).used = some w:=by
    cases hr2:qa4 S l k (p.set (chS S p).1 (1 - (chS S p).2)) w1 with
    | found q w2=>rw [hr2] at h; exact h
    | spent q=>rw [hr2] at h; simp [VR.used] at h
    | proof t2 w2=>rw [hr2] at h; exact h
   by_cases h5:l' < w1
   ·obtain ⟨q',e⟩:=i1 w1 rfl (by omega) h5;rw [e]; exact ⟨_,rfl⟩
   ·rw [s1 w1 rfl (by omega)];simp only [];obtain ⟨q',e⟩:=qji S l l' k (p.set (chS S p).1 (1 - (chS S p).2)) w1 w hu2 (by omega) hl;rw [e]; exact ⟨_,rfl⟩
end
section
open Go
def jb7 (a:Nat) (xs ys:List Nat) (ts:List Tn) (w:Nat):V:=.agg [.int .u8 a,.sl (xs.map u8V) none,.sl (ys.map u8V) none,.sl (ts.map Tn.v) none,qaa w]
set_option maxRecDepth 10000 in
theorem qtw (a:Nat) (xs ys:List Nat) (ts:List Tn) (w:Nat) (h1:xs.length < 1000000000) (h2:ys.length < 1000000000) (h3:ts.length < 1000000000):qac Tryz.prog gl0 50 [jb7 a xs ys ts w,jb7 a xs ys ts w] (.bool true):=by
 have hp1:jos (xs.map u8V) = true:=by simp
 have hp2:jos (ys.map u8V) = true:=by simp
 have hp3:jos (ts.map Tn.v) = true:=qcd ts;unfold jb7;refine jqo 2 ok50 rfl ?_;simp [i50,x50,nop,qaa];intro gf2 gf3;generalize gf2 2 = g2;generalize gf3 3 = g3;obtain ⟨rw,hrw⟩:∃ rw,V.agg [.int .u8 a,.sl (xs.map u8V) none,.sl (ys.map u8V) none,.sl (ts.map Tn.v) none,.int .i64 w] = rw:=⟨_,rfl⟩
 refine jqn (X:=Nat) (fun j=>[(5,qaa j),(3,.ptr 3 g3 0 0),(2,.ptr 2 g2 0 0)]) (fun _=>[(3,.row g3 5 [.agg [.int .u8 a,.sl (xs.map u8V) none,.sl (ys.map u8V) none,.sl (ts.map Tn.v) none,.int .i64 w]]),(2,.row g2 5 [.agg [.int .u8 a,.sl (xs.map u8V) none,.sl (ys.map u8V) none,.sl (ts.map Tn.v) none,.int .i64 w]])])
  (fun j=>j≤ts.length) (fun j=>ts.length - j) 0 (Nat.zero_le _) (by simp [qaa]) (by simp) ?_
 intro j hj;simp [qaa];refine jql (fun hb=>?_) (fun hb=>?_)
 ·have hj2:j < ts.length:=jqs hb;have hwj:=qaz j (by omega);obtain ⟨y,hy⟩:∃ y,ts[j] = y:=⟨_,rfl⟩;simp [hj2,hy,hwj,Tn.v,qaa];exact ⟨j + 1,hj2,by simp,by omega⟩
 ·simp
  refine jqn (X:=Nat) (fun j=>[(6,qaa j),(3,.ptr 3 g3 0 0),(2,.ptr 2 g2 0 0)]) (fun _=>[(3,.row g3 5 [.agg [.int .u8 a,.sl (xs.map u8V) none,.sl (ys.map u8V) none,.sl (ts.map Tn.v) none,.int .i64 w]]),(2,.row g2 5 [.agg [.int .u8 a,.sl (xs.map u8V) none,.sl (ys.map u8V) none,.sl (ts.map Tn.v) none,.int .i64 w]])])
   (fun j=>j≤xs.length) (fun j=>xs.length - j) 0 (Nat.zero_le _) (by simp [qaa]) (by simp) ?_
  intro j hj;simp [qaa];refine jql (fun hb=>?_) (fun hb=>?_)
  ·have hj2:j < xs.length:=jqs hb;have hwj:=qaz j (by omega);obtain ⟨y,hy⟩:∃ y,xs[j] = y:=⟨_,rfl⟩;simp [hj2,hy,hwj,u8V,qaa];exact ⟨j + 1,hj2,by simp,by omega⟩
  ·simp
   refine jqn (X:=Nat) (fun j=>[(7,qaa j),(3,.ptr 3 g3 0 0),(2,.ptr 2 g2 0 0)]) (fun _=>[(3,.row g3 5 [.agg [.int .u8 a,.sl (xs.map u8V) none,.sl (ys.map u8V) none,.sl (ts.map Tn.v) none,.int .i64 w]]),(2,.row g2 5 [.agg [.int .u8 a,.sl (xs.map u8V) none,.sl (ys.map u8V) none,.sl (ts.map Tn.v) none,.int .i64 w]])])
    (fun j=>j≤ys.length) (fun j=>ys.length - j) 0 (Nat.zero_le _) (by simp [qaa]) (by simp) ?_
   intro j hj;simp [qaa];refine jql (fun hb=>?_) (fun hb=>?_)
   ·have hj2:j < ys.length:=jqs hb;have hwj:=qaz j (by omega);obtain ⟨y,hy⟩:∃ y,ys[j] = y:=⟨_,rfl⟩;simp [hj2,hy,hwj,u8V,qaa];exact ⟨j + 1,hj2,by simp,by omega⟩
   ·simp
def VR.sml:VR->Prop
 | .found q _=>q.i.length < 1000000000/\q.s.length < 1000000000
 | .proof t _=>t.sz < 1000000000
 | .spent _=>True
theorem jgf (l:Nat) (R:VR) (hR:R.sml):qac Tryz.prog gl0 50 [qpl l R,qpl l R] (.bool true):=by
 cases R with
 | found q w=>
  have h:=qtw 1 q.i q.s [] w hR.1 hR.2 (by simp);have hle:VLe (qpl l (.found q w)) (jb7 1 q.i q.s [] w):=VLe.agg ⟨.refl _,VLe.cap _ _,VLe.cap _ _,VLe.nil',.refl _,trivial⟩;exact qac.wide h ⟨hle,hle,trivial⟩ (.refl _)
 | proof t w=>
  have h:=qtw 2 [] [] (t.fl 0) w (by simp) (by simp) (by rw [jpg]; exact hR);have hle:VLe (qpl l (.proof t w)) (jb7 2 [] [] (t.fl 0) w):=VLe.agg ⟨.refl _,VLe.nil',VLe.nil',.refl _,.refl _,trivial⟩;exact qac.wide h ⟨hle,hle,trivial⟩ (.refl _)
 | spent q=>
  have h:=qtw 3 [] [] [] l (by simp) (by simp) (by simp);have hle:VLe (qpl l (.spent q)) (jb7 3 [] [] [] l):=VLe.agg ⟨.refl _,VLe.nil',VLe.nil',VLe.nil',.refl _,trivial⟩;exact qac.wide h ⟨hle,hle,trivial⟩ (.refl _)
theorem qng (c:Ci) (hg:c.good) (hk:c.plain) (f:Ft) (hf:f.ok c) (hm:f.m = 0) (l:Nat):VOk (sea c f) l (qd4 c) 0 (qgn c f l):=
 qpz (sea c f) (q7n c hg f hf hm) hk (q7o c f) l _ _ 0 (qsr c) (q6i c) (by have:=qif (qd4 c); omega) (Nat.zero_le _)
theorem q85 (c:Ci) (hg:c.good) (hk:c.plain) (f:Ft) (hf:f.ok c) (hm:f.m = 0) (l:Nat) (hl:l≤1000000):(qgn c f l).sml:=by
 have h:=qng c hg hk f hf hm l;have hn:=hg.n1;have l0:=qbt 0 c.n;have l1:=qbt 14 c.n
 cases hR:qgn c f l with
 | found q w=>
  rw [hR] at h;obtain ⟨-,h2,-⟩:=h;have e1:q.i.length = cnt 0 c.n:=h2.i;have e2:q.s.length = cnt 14 c.n:=h2.s;exact ⟨by omega,by omega⟩
 | proof t w=>
  rw [hR] at h;obtain ⟨-,-,h3,-,h5,-⟩:=h;show t.sz < _;omega
 | spent q=>trivial
end
end Go.Proofs.YtpaopccohkldlaaGreatDoor
