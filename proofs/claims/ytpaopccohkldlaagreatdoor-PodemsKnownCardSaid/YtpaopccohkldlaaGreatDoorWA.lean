/- Podems: Generate. Conditions: none. -/
import Derived.Test.YtpaopccohkldlaaGreatDoorW7
import Derived.Test.YtpaopccohkldlaaGreatDoorV9
set_option linter.all false
namespace Go.Proofs.YtpaopccohkldlaaGreatDoor
section
open Go
def jcq (l:Nat) (R:VR) (v:V) (h:Hp):Prop:=match R with
 | .found q w=>∃ g0 g1,v = .tup [.agg [.int .u8 1,.ref 0 g0 0 q.i.length (some q.i.length),.ref 1 g1 0 q.s.length (some q.s.length),.nil,qaa w],.int .i64 0]/\h = [(0,.row g0 1 (q.i.map u8V)),(1,.row g1 1 (q.s.map u8V))]
 | .proof t w=>(∃ cap,v = .tup [.agg [.int .u8 2,.nil,.nil,trV t cap,qaa w],.int .i64 0])/\h = []
 | .spent _=>v = .tup [.agg [.int .u8 3,.nil,.nil,.nil,qaa l],.int .i64 0]/\h = []
theorem q48 (c:Ci):(qd3 c).cu:=⟨fun x hx=>by rw [List.eq_of_mem_replicate hx]; omega,fun x hx=>by rw [List.eq_of_mem_replicate hx]; omega⟩
theorem je8 (c:Ci) (f:Ft) (g:SG) (l:Nat) (gf:Nat->Nat):upH 9000 gf (H0 c f g l) = (sea c f).H ⟨gf 9000 + g.b,gf 9001 + g.w,gf 9002 + g.s,gf 9003 + g.i,gf 9004 + g.t⟩ (qd3 c) l 0:=by
 have q:jne (c.n.map Nd.v) = true/\jne (c.s.map V.str) = true/\jne (c.m.map Md.v) = true/\jne (qde c.o) = true:=by simp
 obtain ⟨q1,q2,q3,q4⟩:=q;have hO:=qbg (qij c);have hC:=qd1 c.n.length (ctl c);have hcs:=q9h c f
 have hmE:∀ s,(qif (sea c f).w).map (fun p=>(V.rn s p.1,V.rn s p.2)) = qif (sea c f).w:=fun s=>by
  simp [qif,qaa,V.rn]
 unfold H0 qxn Sea.H Sea.cells;rw [hcs,<- jmj c f];show _ = [(9002,Blk.row _ 15 [V.agg [.ptr 9000 _ 0 0,.sl (c.n.map Nd.v) none,.sl (c.s.map V.str) none,.sl (c.m.map Md.v) none,.sl (qde c.o) none,u8V f.m,qaa f.n,.int .i64 f.pin,u8V f.v,qaa f.o,.sl (qcp c.n.length (ctl c)) (some c.n.length),.own 9001 _,.sl (qao (qij c)) (some c.n.length),_,_]]),_,_,_,_];simp [upH,upS,Blk.rn,V.rn,jnz,hmE,qan _ q1,qan _ q2,qan _ q3,qan _ q4,qan _ hC,qan _ hO,u8V,qaa,qd3]
noncomputable def qkn (c:Ci) (f:Ft) (l:Nat):VR:=qbh (sea c f) l ((qd3 c).many + 1) (qd3 c) 0
theorem jcs (c:Ci) (hg:c.good) (hk:c.plain) (f:Ft) (hf:f.ok c) (hm:f.m = 0) (l:Nat) (hl:l≤1000000):qbi Tryz.prog gl0 46 [c.v,f.w,qaa l] (jcq l (qkn c f l)):=by
 have h1:=q2l c hg hk f hf l;have h2:=q6m c hg f l;have hlim:jap (l:Int) = 0:=by unfold jap; rw [if_neg (by omega),if_neg (by omega)]
 rw [if_neg (by omega),hlim] at h1;have h3:=fun g=>je5 (sea c f) (q6a c hg f hf hm) (q9i c hg f) hk (q6b c f) g l (by omega) (qd3 c) (qrn c) (q48 c);change ∀ g,qat _ _ _ _ _ (qui g l (qkn c f l)) at h3;generalize qkn c f l = R at h3 ⊢;refine jpd ok46 rfl ?_;simp [i46,x46,nop,qaa];intro gf1 gf2 gf3;generalize gf1 3 = g3;generalize gf2 4 = g4;generalize gf3 6 = g6;simp only [Ft.w,u8V,qaa] at h1 h2 ⊢;refine jo7 h1 (by simp) ?_;simp;refine CallO.own 9000 h2 (by simp) (by simp) ?_;rintro v h ⟨g,rfl,rfl⟩ gf4;rw [je8];have h4:=h3 ⟨gf4 9000 + g.b,gf4 9001 + g.w,gf4 9002 + g.s,gf4 9003 + g.i,gf4 9004 + g.t⟩;have hin:=qcg (sea c f) ⟨gf4 9000 + g.b,gf4 9001 + g.w,gf4 9002 + g.s,gf4 9003 + g.i,gf4 9004 + g.t⟩ (qd3 c) l 0;have e9:(V.ptr 2 g.s 0 0).rn (upS 9000 gf4) = .ptr 9002 (gf4 9002 + g.s) 0 0:=rfl;rw [e9];generalize hSH:(sea c f).H ⟨gf4 9000 + g.b,gf4 9001 + g.w,gf4 9002 + g.s,gf4 9003 + g.i,gf4 9004 + g.t⟩ (qd3 c) l 0 = SH at h4 hin ⊢;simp;refine CallO.lend [9002,9003,9004,9001,9000] SH [(6,.row g6 5 [.agg [.int .u8 0,.nil,.nil,.nil,.int .i64 0]])] h4 (by simp) ?_ hin ?_ (by simp) ?_
 ·rw [<- hSH]; simp [Sea.H]
 ·rw [<- hSH]; simp [Sea.H]
 ·intro v h' hK;unfold qui at hK;clear h4 hin hSH h1 h2 h3;generalize gf4 9003 + g.i = g5 at hK;generalize gf4 9004 + g.t = g7 at hK
  cases R with
  | found q w=>
   obtain ⟨rfl,rfl⟩:=hK;have hp1:jne (q.i.map u8V) = true:=by simp
   have hp2:jne (q.s.map u8V) = true:=by simp
   refine ⟨rfl,by simp [jnf _ _ hp1,jnf _ _ hp2],?_⟩;simp [qaa];refine .move 9003 0 _ (by simp) (by simp; rfl) fun g0=>.move 9004 1 _ (by simp) (by simp; rfl) fun g1=>.done ?_;simp [-List.map_map,jcq,Blk.rn,qaf hp1,qaf hp2,qaa];refine ⟨_,?_,g0,g1,⟨rfl,rfl⟩,rfl⟩;simp
  | proof t w=>
   obtain ⟨⟨cap,rfl⟩,rfl⟩:=hK;refine ⟨by simp [trV,qaa,jnf _ _ (qck _)],rfl,?_⟩;simp [qaa];refine .done ?_;simp [jcq,qaa];exact ⟨cap,rfl⟩
  | spent q=>
   obtain ⟨rfl,rfl⟩:=hK;refine ⟨rfl,rfl,?_⟩;simp [qaa];refine .done ?_;simp [jcq,qaa]
theorem VLe.tup {a b:List V} (h:qf6 a b):VLe (.tup a) (.tup b):=fun G M r hr=>by
 obtain ⟨h1,h2⟩:=h.spec
 cases hr with
 | tup _ arr hs q=>exact .tup _ arr (by rw [hs,h1]) fun i hi=>h2 i G M _ (q i (by rw [h1]; exact hi))
def qvy (l:Nat):VR->V
 | .found q w=>.agg [.int .u8 1,.sl (q.i.map u8V) (some q.i.length),.sl (q.s.map u8V) (some q.s.length),.nil,qaa w]
 | .proof t w=>.agg [.int .u8 2,.nil,.nil,trV t none,qaa w]
 | .spent _=>.agg [.int .u8 3,.nil,.nil,.nil,qaa l]
theorem qyj (c:Ci) (hg:c.good) (hk:c.plain) (f:Ft) (hf:f.ok c) (hm:f.m = 0) (l:Nat) (hl:l≤1000000):qab Tryz.prog gl0 46 [c.v,f.w,qaa l] (.tup [qvy l (qkn c f l),.int .i64 0]):=by
 refine jn2 3 (jcs c hg hk f hf hm l hl) ?_;intro v h hK;unfold jcq at hK
 cases hR:qkn c f l with
 | found q w=>
  rw [hR] at hK;obtain ⟨g0,g1,rfl,rfl⟩:=hK;have hp1:jne (q.i.map u8V) = true:=by simp
  have hp2:jne (q.s.map u8V) = true:=by simp
  rw [qjn,qib];rw [List.map_cons,List.map_cons,List.map_cons,List.map_cons,List.map_cons,List.map_nil,qbx (sz:=1) (es:=q.i.map u8V) (by simp) (by simp),qbx (sz:=1) (es:=q.s.map u8V) (by simp) (by simp)];rw [List.drop_zero,List.drop_zero,jpj (by simp),jpj (by simp),qbw _ _ hp1,qbw _ _ hp2];exact VLe.refl _
 | proof t w=>
  rw [hR] at hK;obtain ⟨⟨cap,rfl⟩,rfl⟩:=hK;rw [qjn,qib];have:frz [] 3 (trV t cap) = trV t cap:=qa5 _ (by simp [trV,V.pure,qck]);rw [List.map_cons,List.map_cons,List.map_cons,List.map_cons,List.map_cons,List.map_nil,this];exact VLe.tup ⟨VLe.agg ⟨.refl _,.refl _,.refl _,VLe.cap _ _,.refl _,trivial⟩,.refl _,trivial⟩
 | spent q=>
  rw [hR] at hK;obtain ⟨rfl,rfl⟩:=hK;exact VLe.refl _
end
section
open Go
structure Fw where
 m:Int
 n:Int
 p:Int
 v:Int
 o:Int
def Fw.w (f:Fw):V:=.agg [.int .u8 f.m,.int .i64 f.n,.int .i64 f.p,.int .u8 f.v,.int .i64 f.o]
def q1i (E:Fw->Int):List Fw->Int
 | []=>0
 | f :: r=>if E f ≠ 0 then E f else q1i E r
theorem qyf (E:Fw->Int):∀ (l:List Fw) (j:Nat) (hj:j < l.length),(∀ i (hi:i < j),E (l[i]'(by omega)) = 0)->E l[j] ≠ 0->q1i E l = E l[j]
 | [],j,hj,_,_=>by simp at hj
 | f :: r,0,_,_,h=>by
  simp only [List.getElem_cons_zero] at h ⊢;rw [q1i,if_pos h]
 | f :: r,j + 1,hj,h0,h=>by
  have h1:=h0 0 (by omega);simp only [List.getElem_cons_zero] at h1;rw [q1i,if_neg (by omega)];simp only [List.getElem_cons_succ] at h ⊢;exact qyf E r j _ (fun i hi=>by have:=h0 (i + 1) (by omega); simpa using this) h
theorem qpu (E:Fw->Int):∀ (l:List Fw),q1i E l = 0↔∀ f ∈ l,E f = 0
 | []=>by simp [q1i]
 | f :: r=>by
  rw [q1i];by_cases h:E f = 0
  ·rw [if_neg (by omega),qpu E r];simp [h]
  ·rw [if_pos h];simp [h]
def q1q (P:Int) (E:Fw->Int) (fs:List Fw):Int:=if P ≠ 0 then P else if 65536 < fs.length then 3 else q1i E fs
structure AlSt where
 j:Nat
 g:Nat
def ja1 (P:Int) (E:Fw->Int) (R:Fw->V) (fs:List Fw) (v:V) (h:Hp):Prop:=
 (q1q P E fs ≠ 0/\v = .tup [.nil,.int .i64 (q1q P E fs)]/\h = [])∨
 (q1q P E fs = 0/\∃ g cp,v = .tup [.ref 0 g 0 fs.length cp,.int .i64 0]/\h = [(0,.row g 5 (fs.map R))])
set_option maxRecDepth 10000 in
theorem jhw (c:Ci) (P:Int) (E:Fw->Int) (R:Fw->V) (l:Int) (hP:qab Tryz.prog gl0 42 [c.v] (.int .i64 P)) (fs:List Fw) (cap:Option Nat) (hE:P = 0->∀ f ∈ fs,qab Tryz.prog gl0 92 [c.v,f.w,.int .i64 l] (.int .i64 (E f)))
  (hR:P = 0->∀ f ∈ fs,E f = 0->qab Tryz.prog gl0 46 [c.v,f.w,.int .i64 l] (.tup [R f,.int .i64 0])) (hRp:∀ f ∈ fs,(R f).pure = true) (hRc:∀ f ∈ fs,∃ a b c d e,R f = .agg [a,b,c,d,e]) :
  qbi Tryz.prog gl0 51 [c.v,.sl (fs.map Fw.w) cap,.int .i64 l] (ja1 P E R fs):=by
 have hwl:(fs.map Fw.w).length = fs.length:=by simp
 refine jpd ok51 rfl ?_;simp [i51,x51,nop,qaa];intro gf3;generalize gf3 3 = g3;refine jo7 hP (by simp) ?_;simp;by_cases hp:P = 0
 ·subst hp;have hE:=hE rfl;have hR:=hR rfl;simp;by_cases hl:65536 < fs.length
  ·have hl':¬ fs.length≤65536:=by omega
   simp [hl];refine .done ?_;simp [ja1,q1q,hl]
  ·simp [hl]
   refine jpa (X:=Nat) (fun j=>[(27,qaa j),(26,qaa fs.length),(25,.sl (fs.map Fw.w) cap),(3,.ptr 3 g3 0 0),(1,.sl (fs.map Fw.w) cap),(2,.int .i64 l)]) (fun _=>[(3,.row g3 4 [c.v])])
    (fun j=>j≤fs.length/\∀ i (hi:i < fs.length),i < j->E fs[i] = 0) (fun j=>fs.length - j) 0 ⟨Nat.zero_le _,fun _ _ h=>by omega⟩ (by simp [qaa]) (by simp) ?_
   rintro j ⟨hj,h0⟩;simp [qaa];refine jo8 (fun hb=>?_) (fun hb=>?_)
   ·have hj2:j < fs.length:=jpf hb;have hwj:=qa1 j (by omega);have hEj:=hE fs[j] (jpk hj2);obtain ⟨f,hf⟩:∃ f,fs[j] = f:=⟨_,rfl⟩;rw [hf] at hEj;simp only [Fw.w] at hEj;simp [hj2,hf,hwj,Fw.w];intro gf10;refine jo7 hEj (by simp) ?_;simp;by_cases he:E f = 0
    ·simp [he];refine ⟨j + 1,⟨hj2,fun i hi hij=>?_⟩,by simpa using hwj,by omega⟩;by_cases hij2:i = j
     ·subst hij2; rw [hf]; exact he
     ·exact h0 i hi (by omega)
    ·have hfe:q1i E fs = E f:=by rw [<- hf]; exact qyf E fs j hj2 (fun i hi=>h0 i (by omega) hi) (by rw [hf]; exact he)
     simp [he];refine .done ?_;simp [ja1,q1q,hl,hfe,he]
   ·have hj3:j = fs.length:=by have:=jpg hb; omega
    have h00:∀ f ∈ fs,E f = 0:=fun f hf=>by
     obtain ⟨i,hi,rfl⟩:=List.mem_iff_getElem.1 hf;exact h0 i hi (by omega)
    have hfe:q1i E fs = 0:=(qpu E fs).2 h00;clear hj hb h0;subst hj3;have hL:(0:Nat)≤fs.length:=Nat.zero_le _;simp;intro gf41;generalize gf41 41 = g41;have hlb:fs.length≤65536:=by omega
    refine ⟨by omega,?_⟩
    refine jpa (X:=AlSt) (fun s=>[(44,qaa s.j),(43,qaa fs.length),(42,.sl (fs.map Fw.w) cap),(12,.ref 41 s.g 0 s.j (if s.j = 0 then some fs.length else none)),(3,.ptr 3 g3 0 0),(2,.int .i64 l)])
     (fun s=>[(41,.row s.g 5 ((fs.take s.j).map R)),(3,.row g3 4 [c.v])])
     (fun s=>s.j≤fs.length) (fun s=>fs.length - s.j) ⟨0,g41⟩ (Nat.zero_le _) (by simp [qaa]) (by simp) ?_
    rintro ⟨j,g⟩ hj;dsimp only at hj;simp [qaa];refine jo8 (fun hb=>?_) (fun hb=>?_)
    ·have hj2:j < fs.length:=jpf hb;have hwj:=qa1 j (by omega);have hmem:fs[j] ∈ fs:=jpk hj2;have hRj:=hR fs[j] hmem (h00 _ hmem);obtain ⟨a1,a2,a3,a4,a5,hra⟩:=hRc fs[j] hmem;have hrp:=hRp fs[j] hmem;have htk:(fs.map R).take (j + 1) = (fs.map R).take j ++ [R fs[j]]:=by rw [List.take_succ_eq_append_getElem (by simpa using hj2),List.getElem_map]
     obtain ⟨f,hf⟩:∃ f,fs[j] = f:=⟨_,rfl⟩;rw [hf] at hRj hra hrp htk;rw [hra] at hRj hrp htk;have hmin:min j fs.length = j:=Nat.min_eq_left hj;simp only [Fw.w] at hRj;simp [hj2,hf,hwj,Fw.w];intro gf14;refine jo7 hRj (by simp) ?_;simp;intro gf15;simp [hmin];refine ⟨by omega,⟨j + 1,gf15 41⟩,hj2,⟨by simpa using hwj,rfl,rfl,by simp⟩,⟨rfl,?_⟩,by simp only []; omega⟩;rw [htk,List.take_take,Nat.min_self]
    ·have hj3:j = fs.length:=by have:=jpg hb; omega
     subst hj3
     have hpR:jne (fs.map R) = true:=by
      rw [jnj];intro v hv;obtain ⟨f,hf,rfl⟩:=List.mem_map.1 hv;exact hRp f hf
     simp;refine .move 41 0 _ (by simp) (by simp; rfl) fun g0=>.done ?_;rw [jpj (by simp)];simp [-List.map_map,Blk.rn,qaf hpR,ja1,q1q,hl,hfe]
 ·simp [hp];refine .done ?_;simp [ja1,q1q,hp]
end
section
open Go
noncomputable def chS (S:Sea) (p:Pt):Nat × Nat:=qb9 S p (qbj S.c p) (S.f.M S.c p)
noncomputable def qp3 (i v:Nat) (t t2:DT):DT:=if v = 0 then .nd i t t2 else .nd i t2 t
theorem quw (S:Sea) (l k:Nat) (p:Pt) (u:Nat):qbh S l (k + 1) p u =
  if S.f.det S.c p = true then .found p u else if qlr S.c S.f p = true then .proof .lf u else if u = l then .spent p
  else match qbh S l k (p.set (chS S p).1 (chS S p).2) (u + 1) with
   | .found q w=>.found q w
   | .spent q=>.spent q
   | .proof t w=>match qbh S l k (p.set (chS S p).1 (1 - (chS S p).2)) w with
    | .found q w=>.found q w
    | .spent q=>.spent q
    | .proof t2 w2=>.proof (qp3 (chS S p).1 (chS S p).2 t t2) w2:=rfl
theorem jh5 (S:Sea) (hS:S.ok) (hk:S.c.plain) (p:Pt) (hw:S.w.length = p.many) (hp:p.fit S.c) (hc:p.cu) (h1:¬ S.f.det S.c p = true) (h2:¬ qlr S.c S.f p = true):(chS S p).1 < p.many/\p.bit (chS S p).1 = 2/\(chS S p).2≤1:=by
 obtain ⟨j,hj,hj2⟩:=qsg hS.g hk hS.f hp hc h1 h2;exact qj7 S hS p hw _ _ hj hj2
def VOk (S:Sea) (l:Nat) (p:Pt) (u:Nat):VR->Prop
 | .found q w=>p.le q/\q.fit S.c/\q.cu/\S.f.det S.c q = true/\u≤w/\w≤l/\p.opens≤q.opens + (w - u)/\w - u + 1≤2 ^ p.opens
 | .proof t w=>prB S.c S.f t p = true/\(∀ us,(∀ j ∈ us,p.bit j ≠ 2)->t.ok p.many us)/\t.sz = 2 * (w - u) + 1/\u≤w/\w≤l/\w - u + 1≤2 ^ p.opens
 | .spent _=>l - u + 1 < 2 ^ p.opens
theorem Pt.le.trans {p q r:Pt} (h1:p.le q) (h2:q.le r):p.le r:=by
 rw [Pt.le_bit] at h1 h2 ⊢;refine ⟨h1.1.trans h2.1,h1.2.1.trans h2.2.1,fun k hk=>?_⟩;have hm:p.many = q.many:=by unfold Pt.many; rw [h1.1,h1.2.1]
 have a:=h1.2.2 k hk;have b:=h2.2.2 k (by omega);unfold le2 at a b ⊢;rcases a with a | a
 ·rw [a]; exact b
 ·exact .inr a
theorem qud (n:Nat):1≤2 ^ n:=Nat.one_le_two_pow
theorem q2z (S:Sea) (p:Pt) {i v:Nat} (hv:v≤1) {t t2:DT} (h1:prB S.c S.f t (p.set i v) = true) (h2:prB S.c S.f t2 (p.set i (1 - v)) = true):prB S.c S.f (qp3 i v t t2) p = true:=by
 unfold qp3;by_cases h0:v = 0
 ·subst h0;rw [if_pos rfl,prB,h1,h2]; rfl
 ·have:v = 1:=by omega
  subst this;rw [if_neg (by decide),prB,h1];rw [show (1 - 1:Nat) = 0 from rfl] at h2;rw [h2]; rfl
theorem q20 {i v:Nat} (t t2:DT):(qp3 i v t t2).sz = 1 + t.sz + t2.sz:=by
 unfold qp3;split <;> simp only [DT.sz] <;> omega
theorem q2y {n i v:Nat} {t t2:DT} {us:List Nat} (hi:i < n) (hn:i ∉ us) (h1:t.ok n (i :: us)) (h2:t2.ok n (i :: us)):(qp3 i v t t2).ok n us:=by
 unfold qp3;split
 ·exact ⟨hi,hn,h1,h2⟩
 ·exact ⟨hi,hn,h2,h1⟩
theorem qow (S:Sea) (hS:S.ok) (hk:S.c.plain) (hw:S.w.length = cnt 0 S.c.n + cnt 14 S.c.n) (l:Nat):∀ (k:Nat) (p:Pt) (u:Nat),p.fit S.c->p.cu->p.opens < k->u≤l->VOk S l p u (qbh S l k p u)
 | 0,p,u,_,_,h,_=>by omega
 | k + 1,p,u,hp,hc,ho,hu=>by
  have hone:=qud p.opens;rw [quw];by_cases h1:S.f.det S.c p = true
  ·rw [if_pos h1];exact ⟨p.le_rfl,hp,hc,h1,jpm _,hu,by omega,by omega⟩
  rw [if_neg h1];by_cases h2:qlr S.c S.f p = true
  ·rw [if_pos h2];exact ⟨h2,fun _ _=>trivial,by simp [DT.sz],jpm _,hu,by omega⟩
  rw [if_neg h2];have hpm:S.w.length = p.many:=by rw [hw]; unfold Pt.many; rw [hp.i,hp.s]
  obtain ⟨c1,c2,c3⟩:=jh5 S hS hk p hpm hp hc h1 h2;generalize (chS S p).1 = i at c1 c2 ⊢;generalize (chS S p).2 = v at c3 ⊢;have o1:=qez c1 c2 c3;have o2:=qez (v:=1 - v) c1 c2 (by omega);have f1:(p.set i v).fit S.c:=jnn hp i v (by omega);have f2:(p.set i (1 - v)).fit S.c:=jnn hp i (1 - v) (by omega);have u1:=qgg hc c1 (v:=v) (by omega);have u2:=qgg hc c1 (v:=1 - v) (by omega);have e1:p.le (p.set i v):=joo c1 v c2;have e2:p.le (p.set i (1 - v)):=joo c1 (1 - v) c2;have hpow:2 ^ p.opens = 2 * 2 ^ (p.set i v).opens:=by rw [o1,Nat.pow_succ]; omega
  have ho2:(p.set i (1 - v)).opens = (p.set i v).opens:=by omega
  have hone2:=qud (p.set i v).opens;by_cases h3:u = l
  ·rw [if_pos h3];show l - u + 1 < 2 ^ p.opens;omega
  rw [if_neg h3];have i1:=qow S hS hk hw l k (p.set i v) (u + 1) f1 u1 (by omega) (by omega)
  cases hr:qbh S l k (p.set i v) (u + 1) with
  | found q w=>
   rw [hr] at i1;obtain ⟨a1,a2,a3,a4,a5,a6,a7,a8⟩:=i1;exact ⟨e1.trans a1,a2,a3,a4,by omega,a6,by omega,by omega⟩
  | spent q=>
   rw [hr] at i1;change l - (u + 1) + 1 < _ at i1;show l - u + 1 < _;omega
  | proof t w=>
   rw [hr] at i1;obtain ⟨a1,a2,a3,a4,a5,a6⟩:=i1;have i2:=qow S hS hk hw l k (p.set i (1 - v)) w f2 u2 (by omega) a5;simp only []
   cases hr2:qbh S l k (p.set i (1 - v)) w with
   | found q w2=>
    rw [hr2] at i2;obtain ⟨b1,b2,b3,b4,b5,b6,b7,b8⟩:=i2;rw [ho2] at b8;exact ⟨e2.trans b1,b2,b3,b4,by omega,b6,by omega,by omega⟩
   | spent q=>
    rw [hr2] at i2;change l - w + 1 < _ at i2;rw [ho2] at i2;show l - u + 1 < _;omega
   | proof t2 w2=>
    rw [hr2] at i2;obtain ⟨b1,b2,b3,b4,b5,b6⟩:=i2;rw [ho2] at b6;refine ⟨q2z S p c3 a1 b1,fun us hus=>?_,by rw [q20,a3,b3]; omega,by omega,b5,by omega⟩;have hni:i ∉ us:=fun h=>hus i h c2;refine q2y c1 hni ?_ ?_
    ·have:=a2 (i :: us) fun j hj=>by
      rw [jnm c1];split
      ·omega
      ·rename_i hne;rcases List.mem_cons.1 hj with rfl | hj
       ·exact absurd rfl hne
       ·exact hus j hj
     rwa [jnx] at this
    ·have:=b2 (i :: us) fun j hj=>by
      rw [jnm c1];split
      ·omega
      ·rename_i hne;rcases List.mem_cons.1 hj with rfl | hj
       ·exact absurd rfl hne
       ·exact hus j hj
     rwa [jnx] at this
end
section
open Go
theorem qpv (c:Ci) (hg:c.good) (hk:c.plain) (f:Ft) (hf:f.ok c) (hm:f.m = 0) (l:Nat):VOk (sea c f) l (qd3 c) 0 (qkn c f l):=
 qow (sea c f) (q6a c hg f hf hm) hk (q6b c f) l _ _ 0 (qrn c) (q48 c) (by have:=qho (qd3 c); omega) (Nat.zero_le _)
end
end Go.Proofs.YtpaopccohkldlaaGreatDoor
