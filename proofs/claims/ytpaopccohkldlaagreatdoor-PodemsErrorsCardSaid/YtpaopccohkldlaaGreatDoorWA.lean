/- Podems: Generate. Conditions: none. -/
import Derived.Test.YtpaopccohkldlaaGreatDoorW7
import Derived.Test.YtpaopccohkldlaaGreatDoorV9
set_option linter.all false
namespace Go.Proofs.YtpaopccohkldlaaGreatDoor
section
open Go
def jcm (l:Nat) (R:VR) (v:V) (h:Hp):Prop:=match R with
 | .found q w=>∃ g0 g1,v = .tup [.agg [.int .u8 1,.ref 0 g0 0 q.i.length (some q.i.length),.ref 1 g1 0 q.s.length (some q.s.length),.nil,qaa w],.int .i64 0]/\h = [(0,.row g0 1 (q.i.map u8V)),(1,.row g1 1 (q.s.map u8V))]
 | .proof t w=>(∃ cap,v = .tup [.agg [.int .u8 2,.nil,.nil,trV t cap,qaa w],.int .i64 0])/\h = []
 | .spent _=>v = .tup [.agg [.int .u8 3,.nil,.nil,.nil,qaa l],.int .i64 0]/\h = []
theorem q5f (c:Ci):(qgj c).cu:=⟨fun x hx=>by rw [List.eq_of_mem_replicate hx]; omega,fun x hx=>by rw [List.eq_of_mem_replicate hx]; omega⟩
theorem jez (c:Ci) (f:Ft) (g:SG) (l:Nat) (gf:Nat->Nat):upH 9000 gf (H0 c f g l) = (sea c f).H ⟨gf 9000 + g.b,gf 9001 + g.w,gf 9002 + g.s,gf 9003 + g.i,gf 9004 + g.t⟩ (qgj c) l 0:=by
 have q:jm8 (c.n.map Nd.v) = true/\jm8 (c.s.map V.str) = true/\jm8 (c.m.map Md.v) = true/\jm8 (qc8 c.o) = true:=by simp
 obtain ⟨q1,q2,q3,q4⟩:=q;have hO:=qa0 (qi5 c);have hC:=qd5 c.n.length (ctl c);have hcs:=q9o c f
 have hmE:∀ s,(qi0 (sea c f).w).map (fun p=>(V.rn s p.1,V.rn s p.2)) = qi0 (sea c f).w:=fun s=>by
  simp [qi0,qaa,V.rn]
 unfold H0 qxt Sea.H Sea.cells;rw [hcs,<- jmc c f];show _ = [(9002,Blk.row _ 15 [V.agg [.ptr 9000 _ 0 0,.sl (c.n.map Nd.v) none,.sl (c.s.map V.str) none,.sl (c.m.map Md.v) none,.sl (qc8 c.o) none,u8V f.m,qaa f.n,.int .i64 f.pin,u8V f.v,qaa f.o,.sl (qcv c.n.length (ctl c)) (some c.n.length),.own 9001 _,.sl (qad (qi5 c)) (some c.n.length),_,_]]),_,_,_,_];simp [upH,upS,Blk.rn,V.rn,jnr,hmE,qap _ q1,qap _ q2,qap _ q3,qap _ q4,qap _ hC,qap _ hO,u8V,qaa,qgj]
noncomputable def qmk (c:Ci) (f:Ft) (l:Nat):VR:=qbk (sea c f) l ((qgj c).many + 1) (qgj c) 0
theorem jcn (c:Ci) (hg:c.good) (hk:c.plain) (f:Ft) (hf:f.ok c) (hm:f.m = 0) (l:Nat) (hl:l≤1000000):qbl Tryz.prog gl0 46 [c.v,f.w,qaa l] (jcm l (qmk c f l)):=by
 have h1:=q2q c hg hk f hf l;have h2:=q6w c hg f l;have hlim:q1o (l:Int) = 0:=by unfold q1o; rw [if_neg (by omega),if_neg (by omega)]
 rw [if_neg (by omega),hlim] at h1;have h3:=fun g=>jev (sea c f) (q6h c hg f hf hm) (q9p c hg f) hk (q6i c f) g l (by omega) (qgj c) (qr9 c) (q5f c);change ∀ g,qau _ _ _ _ _ (qu1 g l (qmk c f l)) at h3;generalize qmk c f l = R at h3 ⊢;refine jo5 ok46 rfl ?_;simp [i46,x46,nop,qaa];intro gf1 gf2 gf3;generalize gf1 3 = g3;generalize gf2 4 = g4;generalize gf3 6 = g6;simp only [Ft.w,u8V,qaa] at h1 h2 ⊢;refine joz h1 (by simp) ?_;simp;refine CallO.own 9000 h2 (by simp) (by simp) ?_;rintro v h ⟨g,rfl,rfl⟩ gf4;rw [jez];have h4:=h3 ⟨gf4 9000 + g.b,gf4 9001 + g.w,gf4 9002 + g.s,gf4 9003 + g.i,gf4 9004 + g.t⟩;have hin:=qcl (sea c f) ⟨gf4 9000 + g.b,gf4 9001 + g.w,gf4 9002 + g.s,gf4 9003 + g.i,gf4 9004 + g.t⟩ (qgj c) l 0;have e9:(V.ptr 2 g.s 0 0).rn (upS 9000 gf4) = .ptr 9002 (gf4 9002 + g.s) 0 0:=rfl;rw [e9];generalize hSH:(sea c f).H ⟨gf4 9000 + g.b,gf4 9001 + g.w,gf4 9002 + g.s,gf4 9003 + g.i,gf4 9004 + g.t⟩ (qgj c) l 0 = SH at h4 hin ⊢;simp;refine CallO.lend [9002,9003,9004,9001,9000] SH [(6,.row g6 5 [.agg [.int .u8 0,.nil,.nil,.nil,.int .i64 0]])] h4 (by simp) ?_ hin ?_ (by simp) ?_
 ·rw [<- hSH]; simp [Sea.H]
 ·rw [<- hSH]; simp [Sea.H]
 ·intro v h' hK;unfold qu1 at hK;clear h4 hin hSH h1 h2 h3;generalize gf4 9003 + g.i = g5 at hK;generalize gf4 9004 + g.t = g7 at hK
  cases R with
  | found q w=>
   obtain ⟨rfl,rfl⟩:=hK;have hp1:jm8 (q.i.map u8V) = true:=by simp
   have hp2:jm8 (q.s.map u8V) = true:=by simp
   refine ⟨rfl,by simp [jm9 _ _ hp1,jm9 _ _ hp2],?_⟩;simp [qaa];refine .move 9003 0 _ (by simp) (by simp; rfl) fun g0=>.move 9004 1 _ (by simp) (by simp; rfl) fun g1=>.done ?_;simp [-List.map_map,jcm,Blk.rn,qae hp1,qae hp2,qaa];refine ⟨_,?_,g0,g1,⟨rfl,rfl⟩,rfl⟩;simp
  | proof t w=>
   obtain ⟨⟨cap,rfl⟩,rfl⟩:=hK;refine ⟨by simp [trV,qaa,jm9 _ _ (qcp _)],rfl,?_⟩;simp [qaa];refine .done ?_;simp [jcm,qaa];exact ⟨cap,rfl⟩
  | spent q=>
   obtain ⟨rfl,rfl⟩:=hK;refine ⟨rfl,rfl,?_⟩;simp [qaa];refine .done ?_;simp [jcm,qaa]
theorem VLe.tup {a b:List V} (h:qf1 a b):VLe (.tup a) (.tup b):=fun G M r hr=>by
 obtain ⟨h1,h2⟩:=h.spec
 cases hr with
 | tup _ arr hs q=>exact .tup _ arr (by rw [hs,h1]) fun i hi=>h2 i G M _ (q i (by rw [h1]; exact hi))
def quz (l:Nat):VR->V
 | .found q w=>.agg [.int .u8 1,.sl (q.i.map u8V) (some q.i.length),.sl (q.s.map u8V) (some q.s.length),.nil,qaa w]
 | .proof t w=>.agg [.int .u8 2,.nil,.nil,trV t none,qaa w]
 | .spent _=>.agg [.int .u8 3,.nil,.nil,.nil,qaa l]
theorem qyq (c:Ci) (hg:c.good) (hk:c.plain) (f:Ft) (hf:f.ok c) (hm:f.m = 0) (l:Nat) (hl:l≤1000000):qac Tryz.prog gl0 46 [c.v,f.w,qaa l] (.tup [quz l (qmk c f l),.int .i64 0]):=by
 refine jnn 3 (jcn c hg hk f hf hm l hl) ?_;intro v h hK;unfold jcm at hK
 cases hR:qmk c f l with
 | found q w=>
  rw [hR] at hK;obtain ⟨g0,g1,rfl,rfl⟩:=hK;have hp1:jm8 (q.i.map u8V) = true:=by simp
  have hp2:jm8 (q.s.map u8V) = true:=by simp
  rw [qhv,qfi];rw [List.map_cons,List.map_cons,List.map_cons,List.map_cons,List.map_cons,List.map_nil,qbb (sz:=1) (es:=q.i.map u8V) (by simp) (by simp),qbb (sz:=1) (es:=q.s.map u8V) (by simp) (by simp)];rw [List.drop_zero,List.drop_zero,jpb (by simp),jpb (by simp),qbj _ _ hp1,qbj _ _ hp2];exact VLe.refl _
 | proof t w=>
  rw [hR] at hK;obtain ⟨⟨cap,rfl⟩,rfl⟩:=hK;rw [qhv,qfi];have:frz [] 3 (trV t cap) = trV t cap:=qbe _ (by simp [trV,V.pure,qcp]);rw [List.map_cons,List.map_cons,List.map_cons,List.map_cons,List.map_cons,List.map_nil,this];exact VLe.tup ⟨VLe.agg ⟨.refl _,.refl _,.refl _,VLe.cap _ _,.refl _,trivial⟩,.refl _,trivial⟩
 | spent q=>
  rw [hR] at hK;obtain ⟨rfl,rfl⟩:=hK;exact VLe.refl _
end
section
open Go
structure Fw where
 m:Int
 n:Int
 p:Int
 v:Int
 o:Int
def Fw.w (f:Fw):V:=.agg [.int .u8 f.m,.int .i64 f.n,.int .i64 f.p,.int .u8 f.v,.int .i64 f.o]
def Ft.x (f:Ft):Fw:=⟨f.m,f.n,f.pin,f.v,f.o⟩
def qvz (E:Fw->Int):List Fw->Int
 | []=>0
 | f :: r=>if E f ≠ 0 then E f else qvz E r
theorem qym (E:Fw->Int):∀ (l:List Fw) (j:Nat) (hj:j < l.length),(∀ i (hi:i < j),E (l[i]'(by omega)) = 0)->E l[j] ≠ 0->qvz E l = E l[j]
 | [],j,hj,_,_=>by simp at hj
 | f :: r,0,_,_,h=>by
  simp only [List.getElem_cons_zero] at h ⊢;rw [qvz,if_pos h]
 | f :: r,j + 1,hj,h0,h=>by
  have h1:=h0 0 (by omega);simp only [List.getElem_cons_zero] at h1;rw [qvz,if_neg (by omega)];simp only [List.getElem_cons_succ] at h ⊢;exact qym E r j _ (fun i hi=>by have:=h0 (i + 1) (by omega); simpa using this) h
theorem qqj (E:Fw->Int):∀ (l:List Fw),qvz E l = 0↔∀ f ∈ l,E f = 0
 | []=>by simp [qvz]
 | f :: r=>by
  rw [qvz];by_cases h:E f = 0
  ·rw [if_neg (by omega),qqj E r];simp [h]
  ·rw [if_pos h];simp [h]
def qpv (P:Int) (E:Fw->Int) (fs:List Fw):Int:=if P ≠ 0 then P else if 65536 < fs.length then 3 else qvz E fs
structure AlSt where
 j:Nat
 g:Nat
def ja4 (P:Int) (E:Fw->Int) (R:Fw->V) (fs:List Fw) (v:V) (h:Hp):Prop:=
 (qpv P E fs ≠ 0/\v = .tup [.nil,.int .i64 (qpv P E fs)]/\h = [])∨
 (qpv P E fs = 0/\∃ g cp,v = .tup [.ref 0 g 0 fs.length cp,.int .i64 0]/\h = [(0,.row g 5 (fs.map R))])
set_option maxRecDepth 10000 in
theorem jhn (c:Ci) (P:Int) (E:Fw->Int) (R:Fw->V) (l:Int) (hP:qac Tryz.prog gl0 42 [c.v] (.int .i64 P)) (fs:List Fw) (cap:Option Nat) (hE:P = 0->∀ f ∈ fs,qac Tryz.prog gl0 92 [c.v,f.w,.int .i64 l] (.int .i64 (E f)))
  (hR:P = 0->∀ f ∈ fs,E f = 0->qac Tryz.prog gl0 46 [c.v,f.w,.int .i64 l] (.tup [R f,.int .i64 0])) (hRp:∀ f ∈ fs,(R f).pure = true) (hRc:∀ f ∈ fs,∃ a b c d e,R f = .agg [a,b,c,d,e]) :
  qbl Tryz.prog gl0 51 [c.v,.sl (fs.map Fw.w) cap,.int .i64 l] (ja4 P E R fs):=by
 have hwl:(fs.map Fw.w).length = fs.length:=by simp
 refine jo5 ok51 rfl ?_;simp [i51,x51,nop,qaa];intro gf3;generalize gf3 3 = g3;refine joz hP (by simp) ?_;simp;by_cases hp:P = 0
 ·subst hp;have hE:=hE rfl;have hR:=hR rfl;simp;by_cases hl:65536 < fs.length
  ·have hl':¬ fs.length≤65536:=by omega
   simp [hl];refine .done ?_;simp [ja4,qpv,hl]
  ·simp [hl]
   refine jo2 (X:=Nat) (fun j=>[(27,qaa j),(26,qaa fs.length),(25,.sl (fs.map Fw.w) cap),(3,.ptr 3 g3 0 0),(1,.sl (fs.map Fw.w) cap),(2,.int .i64 l)]) (fun _=>[(3,.row g3 4 [c.v])])
    (fun j=>j≤fs.length/\∀ i (hi:i < fs.length),i < j->E fs[i] = 0) (fun j=>fs.length - j) 0 ⟨Nat.zero_le _,fun _ _ h=>by omega⟩ (by simp [qaa]) (by simp) ?_
   rintro j ⟨hj,h0⟩;simp [qaa];refine jo0 (fun hb=>?_) (fun hb=>?_)
   ·have hj2:j < fs.length:=jo7 hb;have hwj:=qa5 j (by omega);have hEj:=hE fs[j] (jpc hj2);obtain ⟨f,hf⟩:∃ f,fs[j] = f:=⟨_,rfl⟩;rw [hf] at hEj;simp only [Fw.w] at hEj;simp [hj2,hf,hwj,Fw.w];intro gf10;refine joz hEj (by simp) ?_;simp;by_cases he:E f = 0
    ·simp [he];refine ⟨j + 1,⟨hj2,fun i hi hij=>?_⟩,by simpa using hwj,by omega⟩;by_cases hij2:i = j
     ·subst hij2; rw [hf]; exact he
     ·exact h0 i hi (by omega)
    ·have hfe:qvz E fs = E f:=by rw [<- hf]; exact qym E fs j hj2 (fun i hi=>h0 i (by omega) hi) (by rw [hf]; exact he)
     simp [he];refine .done ?_;simp [ja4,qpv,hl,hfe,he]
   ·have hj3:j = fs.length:=by have:=jo8 hb; omega
    have h00:∀ f ∈ fs,E f = 0:=fun f hf=>by
     obtain ⟨i,hi,rfl⟩:=List.mem_iff_getElem.1 hf;exact h0 i hi (by omega)
    have hfe:qvz E fs = 0:=(qqj E fs).2 h00;clear hj hb h0;subst hj3;have hL:(0:Nat)≤fs.length:=Nat.zero_le _;simp;intro gf41;generalize gf41 41 = g41;have hlb:fs.length≤65536:=by omega
    refine ⟨by omega,?_⟩
    refine jo2 (X:=AlSt) (fun s=>[(44,qaa s.j),(43,qaa fs.length),(42,.sl (fs.map Fw.w) cap),(12,.ref 41 s.g 0 s.j (if s.j = 0 then some fs.length else none)),(3,.ptr 3 g3 0 0),(2,.int .i64 l)])
     (fun s=>[(41,.row s.g 5 ((fs.take s.j).map R)),(3,.row g3 4 [c.v])])
     (fun s=>s.j≤fs.length) (fun s=>fs.length - s.j) ⟨0,g41⟩ (Nat.zero_le _) (by simp [qaa]) (by simp) ?_
    rintro ⟨j,g⟩ hj;dsimp only at hj;simp [qaa];refine jo0 (fun hb=>?_) (fun hb=>?_)
    ·have hj2:j < fs.length:=jo7 hb;have hwj:=qa5 j (by omega);have hmem:fs[j] ∈ fs:=jpc hj2;have hRj:=hR fs[j] hmem (h00 _ hmem);obtain ⟨a1,a2,a3,a4,a5,hra⟩:=hRc fs[j] hmem;have hrp:=hRp fs[j] hmem;have htk:(fs.map R).take (j + 1) = (fs.map R).take j ++ [R fs[j]]:=by rw [List.take_succ_eq_append_getElem (by simpa using hj2),List.getElem_map]
     obtain ⟨f,hf⟩:∃ f,fs[j] = f:=⟨_,rfl⟩;rw [hf] at hRj hra hrp htk;rw [hra] at hRj hrp htk;have hmin:min j fs.length = j:=Nat.min_eq_left hj;simp only [Fw.w] at hRj;simp [hj2,hf,hwj,Fw.w];intro gf14;refine joz hRj (by simp) ?_;simp;intro gf15;simp [hmin];refine ⟨by omega,⟨j + 1,gf15 41⟩,hj2,⟨by simpa using hwj,rfl,rfl,by simp⟩,⟨rfl,?_⟩,by simp only []; omega⟩;rw [htk,List.take_take,Nat.min_self]
    ·have hj3:j = fs.length:=by have:=jo8 hb; omega
     subst hj3
     have hpR:jm8 (fs.map R) = true:=by
      rw [jnf];intro v hv;obtain ⟨f,hf,rfl⟩:=List.mem_map.1 hv;exact hRp f hf
     simp;refine .move 41 0 _ (by simp) (by simp; rfl) fun g0=>.done ?_;rw [jpb (by simp)];simp [-List.map_map,Blk.rn,qae hpR,ja4,qpv,hl,hfe]
 ·simp [hp];refine .done ?_;simp [ja4,qpv,hp]
end
section
open Go
noncomputable def chS (S:Sea) (p:Pt):Nat × Nat:=qce S p (qbm S.c p) (S.f.M S.c p)
noncomputable def qqr (i v:Nat) (t t2:DT):DT:=if v = 0 then .nd i t t2 else .nd i t2 t
theorem qve (S:Sea) (l k:Nat) (p:Pt) (u:Nat):qbk S l (k + 1) p u =
  if S.f.det S.c p = true then .found p u else if qma S.c S.f p = true then .proof .lf u else if u = l then .spent p
  else match qbk S l k (p.set (chS S p).1 (chS S p).2) (u + 1) with
   | .found q w=>.found q w
   | .spent q=>.spent q
   | .proof t w=>match qbk S l k (p.set (chS S p).1 (1 - (chS S p).2)) w with
    | .found q w=>.found q w
    | .spent q=>.spent q
    | .proof t2 w2=>.proof (qqr (chS S p).1 (chS S p).2 t t2) w2:=rfl
theorem jhw (S:Sea) (hS:S.ok) (hk:S.c.plain) (p:Pt) (hw:S.w.length = p.many) (hp:p.fit S.c) (hc:p.cu) (h1:¬ S.f.det S.c p = true) (h2:¬ qma S.c S.f p = true):(chS S p).1 < p.many/\p.bit (chS S p).1 = 2/\(chS S p).2≤1:=by
 obtain ⟨j,hj,hj2⟩:=qs0 hS.g hk hS.f hp hc h1 h2;exact qko S hS p hw _ _ hj hj2
def VOk (S:Sea) (l:Nat) (p:Pt) (u:Nat):VR->Prop
 | .found q w=>p.le q/\q.fit S.c/\q.cu/\S.f.det S.c q = true/\u≤w/\w≤l/\p.opens≤q.opens + (w - u)/\w - u + 1≤2 ^ p.opens
 | .proof t w=>prB S.c S.f t p = true/\(∀ us,(∀ j ∈ us,p.bit j ≠ 2)->t.ok p.many us)/\t.sz = 2 * (w - u) + 1/\u≤w/\w≤l/\w - u + 1≤2 ^ p.opens
 | .spent _=>l - u + 1 < 2 ^ p.opens
theorem Pt.le.trans {p q r:Pt} (h1:p.le q) (h2:q.le r):p.le r:=by
 rw [Pt.le_bit] at h1 h2 ⊢;refine ⟨h1.1.trans h2.1,h1.2.1.trans h2.2.1,fun k hk=>?_⟩;have hm:p.many = q.many:=by unfold Pt.many; rw [h1.1,h1.2.1]
 have a:=h1.2.2 k hk;have b:=h2.2.2 k (by omega);unfold le2 at a b ⊢;rcases a with a | a
 ·rw [a]; exact b
 ·exact .inr a
theorem quv (n:Nat):1≤2 ^ n:=Nat.one_le_two_pow
theorem q27 (S:Sea) (p:Pt) {i v:Nat} (hv:v≤1) {t t2:DT} (h1:prB S.c S.f t (p.set i v) = true) (h2:prB S.c S.f t2 (p.set i (1 - v)) = true):prB S.c S.f (qqr i v t t2) p = true:=by
 unfold qqr;by_cases h0:v = 0
 ·subst h0;rw [if_pos rfl,prB,h1,h2]; rfl
 ·have:v = 1:=by omega
  subst this;rw [if_neg (by decide),prB,h1];rw [show (1 - 1:Nat) = 0 from rfl] at h2;rw [h2]; rfl
theorem q28 {i v:Nat} (t t2:DT):(qqr i v t t2).sz = 1 + t.sz + t2.sz:=by
 unfold qqr;split <;> simp only [DT.sz] <;> omega
theorem q26 {n i v:Nat} {t t2:DT} {us:List Nat} (hi:i < n) (hn:i ∉ us) (h1:t.ok n (i :: us)) (h2:t2.ok n (i :: us)):(qqr i v t t2).ok n us:=by
 unfold qqr;split
 ·exact ⟨hi,hn,h1,h2⟩
 ·exact ⟨hi,hn,h2,h1⟩
theorem qpj (S:Sea) (hS:S.ok) (hk:S.c.plain) (hw:S.w.length = cnt 0 S.c.n + cnt 14 S.c.n) (l:Nat):∀ (k:Nat) (p:Pt) (u:Nat),p.fit S.c->p.cu->p.opens < k->u≤l->VOk S l p u (qbk S l k p u)
 | 0,p,u,_,_,h,_=>by omega
 | k + 1,p,u,hp,hc,ho,hu=>by
  have hone:=quv p.opens;rw [qve];by_cases h1:S.f.det S.c p = true
  ·rw [if_pos h1];exact ⟨p.le_rfl,hp,hc,h1,jpe _,hu,by omega,by omega⟩
  rw [if_neg h1];by_cases h2:qma S.c S.f p = true
  ·rw [if_pos h2];exact ⟨h2,fun _ _=>trivial,by simp [DT.sz],jpe _,hu,by omega⟩
  rw [if_neg h2];have hpm:S.w.length = p.many:=by rw [hw]; unfold Pt.many; rw [hp.i,hp.s]
  obtain ⟨c1,c2,c3⟩:=jhw S hS hk p hpm hp hc h1 h2;generalize (chS S p).1 = i at c1 c2 ⊢;generalize (chS S p).2 = v at c3 ⊢;have o1:=qe7 c1 c2 c3;have o2:=qe7 (v:=1 - v) c1 c2 (by omega);have f1:(p.set i v).fit S.c:=jnh hp i v (by omega);have f2:(p.set i (1 - v)).fit S.c:=jnh hp i (1 - v) (by omega);have u1:=qg2 hc c1 (v:=v) (by omega);have u2:=qg2 hc c1 (v:=1 - v) (by omega);have e1:p.le (p.set i v):=joi c1 v c2;have e2:p.le (p.set i (1 - v)):=joi c1 (1 - v) c2;have hpow:2 ^ p.opens = 2 * 2 ^ (p.set i v).opens:=by rw [o1,Nat.pow_succ]; omega
  have ho2:(p.set i (1 - v)).opens = (p.set i v).opens:=by omega
  have hone2:=quv (p.set i v).opens;by_cases h3:u = l
  ·rw [if_pos h3];show l - u + 1 < 2 ^ p.opens;omega
  rw [if_neg h3];have i1:=qpj S hS hk hw l k (p.set i v) (u + 1) f1 u1 (by omega) (by omega)
  cases hr:qbk S l k (p.set i v) (u + 1) with
  | found q w=>
   rw [hr] at i1;obtain ⟨a1,a2,a3,a4,a5,a6,a7,a8⟩:=i1;exact ⟨e1.trans a1,a2,a3,a4,by omega,a6,by omega,by omega⟩
  | spent q=>
   rw [hr] at i1;change l - (u + 1) + 1 < _ at i1;show l - u + 1 < _;omega
  | proof t w=>
   rw [hr] at i1;obtain ⟨a1,a2,a3,a4,a5,a6⟩:=i1;have i2:=qpj S hS hk hw l k (p.set i (1 - v)) w f2 u2 (by omega) a5;simp only []
   cases hr2:qbk S l k (p.set i (1 - v)) w with
   | found q w2=>
    rw [hr2] at i2;obtain ⟨b1,b2,b3,b4,b5,b6,b7,b8⟩:=i2;rw [ho2] at b8;exact ⟨e2.trans b1,b2,b3,b4,by omega,b6,by omega,by omega⟩
   | spent q=>
    rw [hr2] at i2;change l - w + 1 < _ at i2;rw [ho2] at i2;show l - u + 1 < _;omega
   | proof t2 w2=>
    rw [hr2] at i2;obtain ⟨b1,b2,b3,b4,b5,b6⟩:=i2;rw [ho2] at b6;refine ⟨q27 S p c3 a1 b1,fun us hus=>?_,by rw [q28,a3,b3]; omega,by omega,b5,by omega⟩;have hni:i ∉ us:=fun h=>hus i h c2;refine q26 c1 hni ?_ ?_
    ·have:=a2 (i :: us) fun j hj=>by
      rw [jng c1];split
      ·omega
      ·rename_i hne;rcases List.mem_cons.1 hj with rfl | hj
       ·exact absurd rfl hne
       ·exact hus j hj
     rwa [jnu] at this
    ·have:=b2 (i :: us) fun j hj=>by
      rw [jng c1];split
      ·omega
      ·rename_i hne;rcases List.mem_cons.1 hj with rfl | hj
       ·exact absurd rfl hne
       ·exact hus j hj
     rwa [jnu] at this
end
section
open Go
def jaz (a:Nat) (xs ys:List Nat) (ts:List Tn) (w:Nat):V:=.agg [.int .u8 a,.sl (xs.map u8V) none,.sl (ys.map u8V) none,.sl (ts.map Tn.v) none,qaa w]
set_option maxRecDepth 10000 in
theorem qs9 (a:Nat) (xs ys:List Nat) (ts:List Tn) (w:Nat) (h1:xs.length < 1000000000) (h2:ys.length < 1000000000) (h3:ts.length < 1000000000):qac Tryz.prog gl0 50 [jaz a xs ys ts w,jaz a xs ys ts w] (.bool true):=by
 have hp1:jm8 (xs.map u8V) = true:=by simp
 have hp2:jm8 (ys.map u8V) = true:=by simp
 have hp3:jm8 (ts.map Tn.v) = true:=qcp ts;unfold jaz;refine jo3 2 ok50 rfl ?_;simp [i50,x50,nop,qaa];intro gf2 gf3;generalize gf2 2 = g2;generalize gf3 3 = g3;obtain ⟨rw,hrw⟩:∃ rw,V.agg [.int .u8 a,.sl (xs.map u8V) none,.sl (ys.map u8V) none,.sl (ts.map Tn.v) none,.int .i64 w] = rw:=⟨_,rfl⟩
 refine jo2 (X:=Nat) (fun j=>[(5,qaa j),(3,.ptr 3 g3 0 0),(2,.ptr 2 g2 0 0)]) (fun _=>[(3,.row g3 5 [.agg [.int .u8 a,.sl (xs.map u8V) none,.sl (ys.map u8V) none,.sl (ts.map Tn.v) none,.int .i64 w]]),(2,.row g2 5 [.agg [.int .u8 a,.sl (xs.map u8V) none,.sl (ys.map u8V) none,.sl (ts.map Tn.v) none,.int .i64 w]])])
  (fun j=>j≤ts.length) (fun j=>ts.length - j) 0 (Nat.zero_le _) (by simp [qaa]) (by simp) ?_
 intro j hj;simp [qaa];refine jo0 (fun hb=>?_) (fun hb=>?_)
 ·have hj2:j < ts.length:=jo7 hb;have hwj:=qa5 j (by omega);obtain ⟨y,hy⟩:∃ y,ts[j] = y:=⟨_,rfl⟩;simp [hj2,hy,hwj,Tn.v,qaa];exact ⟨j + 1,hj2,by simp,by omega⟩
 ·simp
  refine jo2 (X:=Nat) (fun j=>[(6,qaa j),(3,.ptr 3 g3 0 0),(2,.ptr 2 g2 0 0)]) (fun _=>[(3,.row g3 5 [.agg [.int .u8 a,.sl (xs.map u8V) none,.sl (ys.map u8V) none,.sl (ts.map Tn.v) none,.int .i64 w]]),(2,.row g2 5 [.agg [.int .u8 a,.sl (xs.map u8V) none,.sl (ys.map u8V) none,.sl (ts.map Tn.v) none,.int .i64 w]])])
   (fun j=>j≤xs.length) (fun j=>xs.length - j) 0 (Nat.zero_le _) (by simp [qaa]) (by simp) ?_
  intro j hj;simp [qaa];refine jo0 (fun hb=>?_) (fun hb=>?_)
  ·have hj2:j < xs.length:=jo7 hb;have hwj:=qa5 j (by omega);obtain ⟨y,hy⟩:∃ y,xs[j] = y:=⟨_,rfl⟩;simp [hj2,hy,hwj,u8V,qaa];exact ⟨j + 1,hj2,by simp,by omega⟩
  ·simp
   refine jo2 (X:=Nat) (fun j=>[(7,qaa j),(3,.ptr 3 g3 0 0),(2,.ptr 2 g2 0 0)]) (fun _=>[(3,.row g3 5 [.agg [.int .u8 a,.sl (xs.map u8V) none,.sl (ys.map u8V) none,.sl (ts.map Tn.v) none,.int .i64 w]]),(2,.row g2 5 [.agg [.int .u8 a,.sl (xs.map u8V) none,.sl (ys.map u8V) none,.sl (ts.map Tn.v) none,.int .i64 w]])])
    (fun j=>j≤ys.length) (fun j=>ys.length - j) 0 (Nat.zero_le _) (by simp [qaa]) (by simp) ?_
   intro j hj;simp [qaa];refine jo0 (fun hb=>?_) (fun hb=>?_)
   ·have hj2:j < ys.length:=jo7 hb;have hwj:=qa5 j (by omega);obtain ⟨y,hy⟩:∃ y,ys[j] = y:=⟨_,rfl⟩;simp [hj2,hy,hwj,u8V,qaa];exact ⟨j + 1,hj2,by simp,by omega⟩
   ·simp
def VR.sml:VR->Prop
 | .found q _=>q.i.length < 1000000000/\q.s.length < 1000000000
 | .proof t _=>t.sz < 1000000000
 | .spent _=>True
theorem jet (l:Nat) (R:VR) (hR:R.sml):qac Tryz.prog gl0 50 [quz l R,quz l R] (.bool true):=by
 cases R with
 | found q w=>
  have h:=qs9 1 q.i q.s [] w hR.1 hR.2 (by simp);have hle:VLe (quz l (.found q w)) (jaz 1 q.i q.s [] w):=VLe.agg ⟨.refl _,VLe.cap _ _,VLe.cap _ _,VLe.nil',.refl _,trivial⟩;exact qac.wide h ⟨hle,hle,trivial⟩ (.refl _)
 | proof t w=>
  have h:=qs9 2 [] [] (t.fl 0) w (by simp) (by simp) (by rw [jny]; exact hR);have hle:VLe (quz l (.proof t w)) (jaz 2 [] [] (t.fl 0) w):=VLe.agg ⟨.refl _,VLe.nil',VLe.nil',.refl _,.refl _,trivial⟩;exact qac.wide h ⟨hle,hle,trivial⟩ (.refl _)
 | spent q=>
  have h:=qs9 3 [] [] [] l (by simp) (by simp) (by simp);have hle:VLe (quz l (.spent q)) (jaz 3 [] [] [] l):=VLe.agg ⟨.refl _,VLe.nil',VLe.nil',VLe.nil',.refl _,trivial⟩;exact qac.wide h ⟨hle,hle,trivial⟩ (.refl _)
theorem q5v (c:Ci) (hg:c.good) (hk:c.plain) (f:Ft) (hf:f.ok c) (hm:f.m = 0) (l:Nat):VOk (sea c f) l (qgj c) 0 (qmk c f l):=
 qpj (sea c f) (q6h c hg f hf hm) hk (q6i c f) l _ _ 0 (qr9 c) (q5f c) (by have:=qka (qgj c); omega) (Nat.zero_le _)
theorem q7u (c:Ci) (hg:c.good) (hk:c.plain) (f:Ft) (hf:f.ok c) (hm:f.m = 0) (l:Nat) (hl:l≤1000000):(qmk c f l).sml:=by
 have h:=q5v c hg hk f hf hm l;have hn:=hg.n1;have l0:=qca 0 c.n;have l1:=qca 14 c.n
 cases hR:qmk c f l with
 | found q w=>
  rw [hR] at h;obtain ⟨-,h2,-⟩:=h;have e1:q.i.length = cnt 0 c.n:=h2.i;have e2:q.s.length = cnt 14 c.n:=h2.s;exact ⟨by omega,by omega⟩
 | proof t w=>
  rw [hR] at h;obtain ⟨-,-,h3,-,h5,-⟩:=h;show t.sz < _;omega
 | spent q=>trivial
end
end Go.Proofs.YtpaopccohkldlaaGreatDoor
