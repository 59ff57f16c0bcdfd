/- Podems: Generate. Conditions: none. -/
import Derived.Test.YtpaopccohkldlaaGreatDoorW7
import Derived.Test.YtpaopccohkldlaaGreatDoorV9
set_option linter.all false
namespace Go.Proofs.YtpaopccohkldlaaGreatDoor
section
open Go
def jel (l:Nat) (R:VR) (v:V) (h:Hp):Prop:=match R with
 | .found q w=>∃ g0 g1,v = .tup [.agg [.int .u8 1,.ref 0 g0 0 q.i.length (some q.i.length),.ref 1 g1 0 q.s.length (some q.s.length),.nil,qaa w],.int .i64 0]/\h = [(0,.row g0 1 (q.i.map u8V)),(1,.row g1 1 (q.s.map u8V))]
 | .proof t w=>(∃ cap,v = .tup [.agg [.int .u8 2,.nil,.nil,trV t cap,qaa w],.int .i64 0])/\h = []
 | .spent _=>v = .tup [.agg [.int .u8 3,.nil,.nil,.nil,qaa l],.int .i64 0]/\h = []
theorem q6f (c:Ci):(qgg c).cu:=⟨fun x hx=>by rw [List.eq_of_mem_replicate hx]; omega,fun x hx=>by rw [List.eq_of_mem_replicate hx]; omega⟩
theorem jcf (c:Ci) (f:Ft) (g:SG) (l:Nat) (gf:Nat->Nat):upH 9000 gf (H0 c f g l) = (sea c f).H ⟨gf 9000 + g.b,gf 9001 + g.w,gf 9002 + g.s,gf 9003 + g.i,gf 9004 + g.t⟩ (qgg c) l 0:=by
 have q:jnp (c.n.map Nd.v) = true/\jnp (c.s.map V.str) = true/\jnp (c.m.map Md.v) = true/\jnp (qdg c.o) = true:=by simp
 obtain ⟨q1,q2,q3,q4⟩:=q;have hO:=qaz (qit c);have hC:=qd7 c.n.length (ctl c);have hcs:=q86 c f
 have hmE:∀ s,(qil (sea c f).w).map (fun p=>(V.rn s p.1,V.rn s p.2)) = qil (sea c f).w:=fun s=>by
  simp [qil,qaa,V.rn]
 unfold H0 qw6 Sea.H Sea.cells;rw [hcs,<- jm5 c f];show _ = [(9002,Blk.row _ 15 [V.agg [.ptr 9000 _ 0 0,.sl (c.n.map Nd.v) none,.sl (c.s.map V.str) none,.sl (c.m.map Md.v) none,.sl (qdg c.o) none,u8V f.m,qaa f.n,.int .i64 f.pin,u8V f.v,qaa f.o,.sl (qcv c.n.length (ctl c)) (some c.n.length),.own 9001 _,.sl (qad (qit c)) (some c.n.length),_,_]]),_,_,_,_];simp [upH,upS,Blk.rn,V.rn,jn6,hmE,qao _ q1,qao _ q2,qao _ q3,qao _ q4,qao _ hC,qao _ hO,u8V,qaa,qgg]
noncomputable def qob (c:Ci) (f:Ft) (l:Nat):VR:=qbm (sea c f) l ((qgg c).many + 1) (qgg c) 0
theorem jfb (c:Ci) (hg:c.good) (hk:c.plain) (f:Ft) (hf:f.ok c) (hm:f.m = 0) (l:Nat) (hl:l≤1000000):qbo Tryz.prog gl0 46 [c.v,f.w,qaa l] (jel l (qob c f l)):=by
 have h1:=qtw c hg hk f hf l;have h2:=q95 c hg f l;have hlim:q5u (l:Int) = 0:=by unfold q5u; rw [if_neg (by omega),if_neg (by omega)]
 rw [if_neg (by omega),hlim] at h1;have h3:=fun g=>jd6 (sea c f) (q55 c hg f hf hm) (q8h c hg f) hk (q5f c f) g l (by omega) (qgg c) (qss c) (q6f c);change ∀ g,qat _ _ _ _ _ (qvb g l (qob c f l)) at h3;generalize qob c f l = R at h3 ⊢;refine jpm ok46 rfl ?_;simp [i46,x46,nop,qaa];intro gf1 gf2 gf3;generalize gf1 3 = g3;generalize gf2 4 = g4;generalize gf3 6 = g6;simp only [Ft.w,u8V,qaa] at h1 h2 ⊢;refine jpg h1 (by simp) ?_;simp;refine CallO.own 9000 h2 (by simp) (by simp) ?_;rintro v h ⟨g,rfl,rfl⟩ gf4;rw [jcf];have h4:=h3 ⟨gf4 9000 + g.b,gf4 9001 + g.w,gf4 9002 + g.s,gf4 9003 + g.i,gf4 9004 + g.t⟩;have hin:=qck (sea c f) ⟨gf4 9000 + g.b,gf4 9001 + g.w,gf4 9002 + g.s,gf4 9003 + g.i,gf4 9004 + g.t⟩ (qgg c) l 0;have e9:(V.ptr 2 g.s 0 0).rn (upS 9000 gf4) = .ptr 9002 (gf4 9002 + g.s) 0 0:=rfl;rw [e9];generalize hSH:(sea c f).H ⟨gf4 9000 + g.b,gf4 9001 + g.w,gf4 9002 + g.s,gf4 9003 + g.i,gf4 9004 + g.t⟩ (qgg c) l 0 = SH at h4 hin ⊢;simp;refine CallO.lend [9002,9003,9004,9001,9000] SH [(6,.row g6 5 [.agg [.int .u8 0,.nil,.nil,.nil,.int .i64 0]])] h4 (by simp) ?_ hin ?_ (by simp) ?_
 ·rw [<- hSH]; simp [Sea.H]
 ·rw [<- hSH]; simp [Sea.H]
 ·intro v h' hK;unfold qvb at hK;clear h4 hin hSH h1 h2 h3;generalize gf4 9003 + g.i = g5 at hK;generalize gf4 9004 + g.t = g7 at hK
  cases R with
  | found q w=>
   obtain ⟨rfl,rfl⟩:=hK;have hp1:jnp (q.i.map u8V) = true:=by simp
   have hp2:jnp (q.s.map u8V) = true:=by simp
   refine ⟨rfl,by simp [jnq _ _ hp1,jnq _ _ hp2],?_⟩;simp [qaa];refine .move 9003 0 _ (by simp) (by simp; rfl) fun g0=>.move 9004 1 _ (by simp) (by simp; rfl) fun g1=>.done ?_;simp [-List.map_map,jel,Blk.rn,qaf hp1,qaf hp2,qaa];refine ⟨_,?_,g0,g1,⟨rfl,rfl⟩,rfl⟩;simp
  | proof t w=>
   obtain ⟨⟨cap,rfl⟩,rfl⟩:=hK;refine ⟨by simp [trV,qaa,jnq _ _ (qcn _)],rfl,?_⟩;simp [qaa];refine .done ?_;simp [jel,qaa];exact ⟨cap,rfl⟩
  | spent q=>
   obtain ⟨rfl,rfl⟩:=hK;refine ⟨rfl,rfl,?_⟩;simp [qaa];refine .done ?_;simp [jel,qaa]
theorem VLe.tup {a b:List V} (h:qfy a b):VLe (.tup a) (.tup b):=fun G M r hr=>by
 obtain ⟨h1,h2⟩:=h.spec
 cases hr with
 | tup _ arr hs q=>exact .tup _ arr (by rw [hs,h1]) fun i hi=>h2 i G M _ (q i (by rw [h1]; exact hi))
def q1p (l:Nat):VR->V
 | .found q w=>.agg [.int .u8 1,.sl (q.i.map u8V) (some q.i.length),.sl (q.s.map u8V) (some q.s.length),.nil,qaa w]
 | .proof t w=>.agg [.int .u8 2,.nil,.nil,trV t none,qaa w]
 | .spent _=>.agg [.int .u8 3,.nil,.nil,.nil,qaa l]
theorem qs9 (c:Ci) (hg:c.good) (hk:c.plain) (f:Ft) (hf:f.ok c) (hm:f.m = 0) (l:Nat) (hl:l≤1000000):qac Tryz.prog gl0 46 [c.v,f.w,qaa l] (.tup [q1p l (qob c f l),.int .i64 0]):=by
 refine jn4 3 (jfb c hg hk f hf hm l hl) ?_;intro v h hK;unfold jel at hK
 cases hR:qob c f l with
 | found q w=>
  rw [hR] at hK;obtain ⟨g0,g1,rfl,rfl⟩:=hK;have hp1:jnp (q.i.map u8V) = true:=by simp
  have hp2:jnp (q.s.map u8V) = true:=by simp
  rw [qh7,qfn];rw [List.map_cons,List.map_cons,List.map_cons,List.map_cons,List.map_cons,List.map_nil,qbc (sz:=1) (es:=q.i.map u8V) (by simp) (by simp),qbc (sz:=1) (es:=q.s.map u8V) (by simp) (by simp)];rw [List.drop_zero,List.drop_zero,jpt (by simp),jpt (by simp),qbl _ _ hp1,qbl _ _ hp2];exact VLe.refl _
 | proof t w=>
  rw [hR] at hK;obtain ⟨⟨cap,rfl⟩,rfl⟩:=hK;rw [qh7,qfn];have:frz [] 3 (trV t cap) = trV t cap:=qba _ (by simp [trV,V.pure,qcn]);rw [List.map_cons,List.map_cons,List.map_cons,List.map_cons,List.map_cons,List.map_nil,this];exact VLe.tup ⟨VLe.agg ⟨.refl _,.refl _,.refl _,VLe.cap _ _,.refl _,trivial⟩,.refl _,trivial⟩
 | spent q=>
  rw [hR] at hK;obtain ⟨rfl,rfl⟩:=hK;exact VLe.refl _
end
section
open Go
structure Fw where
 m:Int
 n:Int
 p:Int
 v:Int
 o:Int
def Fw.w (f:Fw):V:=.agg [.int .u8 f.m,.int .i64 f.n,.int .i64 f.p,.int .u8 f.v,.int .i64 f.o]
def Ft.x (f:Ft):Fw:=⟨f.m,f.n,f.pin,f.v,f.o⟩
def q1m (E:Fw->Int):List Fw->Int
 | []=>0
 | f :: r=>if E f ≠ 0 then E f else q1m E r
theorem qy1 (E:Fw->Int):∀ (l:List Fw) (j:Nat) (hj:j < l.length),(∀ i (hi:i < j),E (l[i]'(by omega)) = 0)->E l[j] ≠ 0->q1m E l = E l[j]
 | [],j,hj,_,_=>by simp at hj
 | f :: r,0,_,_,h=>by
  simp only [List.getElem_cons_zero] at h ⊢;rw [q1m,if_pos h]
 | f :: r,j + 1,hj,h0,h=>by
  have h1:=h0 0 (by omega);simp only [List.getElem_cons_zero] at h1;rw [q1m,if_neg (by omega)];simp only [List.getElem_cons_succ] at h ⊢;exact qy1 E r j _ (fun i hi=>by have:=h0 (i + 1) (by omega); simpa using this) h
theorem qlz (E:Fw->Int):∀ (l:List Fw),q1m E l = 0↔∀ f ∈ l,E f = 0
 | []=>by simp [q1m]
 | f :: r=>by
  rw [q1m];by_cases h:E f = 0
  ·rw [if_neg (by omega),qlz E r];simp [h]
  ·rw [if_pos h];simp [h]
def q2y (P:Int) (E:Fw->Int) (fs:List Fw):Int:=if P ≠ 0 then P else if 65536 < fs.length then 3 else q1m E fs
structure AlSt where
 j:Nat
 g:Nat
def jed (P:Int) (E:Fw->Int) (R:Fw->V) (fs:List Fw) (v:V) (h:Hp):Prop:=
 (q2y P E fs ≠ 0/\v = .tup [.nil,.int .i64 (q2y P E fs)]/\h = [])∨
 (q2y P E fs = 0/\∃ g cp,v = .tup [.ref 0 g 0 fs.length cp,.int .i64 0]/\h = [(0,.row g 5 (fs.map R))])
set_option maxRecDepth 10000 in
theorem jiy (c:Ci) (P:Int) (E:Fw->Int) (R:Fw->V) (l:Int) (hP:qac Tryz.prog gl0 42 [c.v] (.int .i64 P)) (fs:List Fw) (cap:Option Nat) (hE:P = 0->∀ f ∈ fs,qac Tryz.prog gl0 92 [c.v,f.w,.int .i64 l] (.int .i64 (E f)))
  (hR:P = 0->∀ f ∈ fs,E f = 0->qac Tryz.prog gl0 46 [c.v,f.w,.int .i64 l] (.tup [R f,.int .i64 0])) (hRp:∀ f ∈ fs,(R f).pure = true) (hRc:∀ f ∈ fs,∃ a b c d e,R f = .agg [a,b,c,d,e]) :
  qbo Tryz.prog gl0 51 [c.v,.sl (fs.map Fw.w) cap,.int .i64 l] (jed P E R fs):=by
 have hwl:(fs.map Fw.w).length = fs.length:=by simp
 refine jpm ok51 rfl ?_;simp [i51,x51,nop,qaa];intro gf3;generalize gf3 3 = g3;refine jpg hP (by simp) ?_;simp;by_cases hp:P = 0
 ·subst hp;have hE:=hE rfl;have hR:=hR rfl;simp;by_cases hl:65536 < fs.length
  ·have hl':¬ fs.length≤65536:=by omega
   simp [hl];refine .done ?_;simp [jed,q2y,hl]
  ·simp [hl]
   refine jpj (X:=Nat) (fun j=>[(27,qaa j),(26,qaa fs.length),(25,.sl (fs.map Fw.w) cap),(3,.ptr 3 g3 0 0),(1,.sl (fs.map Fw.w) cap),(2,.int .i64 l)]) (fun _=>[(3,.row g3 4 [c.v])])
    (fun j=>j≤fs.length/\∀ i (hi:i < fs.length),i < j->E fs[i] = 0) (fun j=>fs.length - j) 0 ⟨Nat.zero_le _,fun _ _ h=>by omega⟩ (by simp [qaa]) (by simp) ?_
   rintro j ⟨hj,h0⟩;simp [qaa];refine jph (fun hb=>?_) (fun hb=>?_)
   ·have hj2:j < fs.length:=jpp hb;have hwj:=qa1 j (by omega);have hEj:=hE fs[j] (jpu hj2);obtain ⟨f,hf⟩:∃ f,fs[j] = f:=⟨_,rfl⟩;rw [hf] at hEj;simp only [Fw.w] at hEj;simp [hj2,hf,hwj,Fw.w];intro gf10;refine jpg hEj (by simp) ?_;simp;by_cases he:E f = 0
    ·simp [he];refine ⟨j + 1,⟨hj2,fun i hi hij=>?_⟩,by simpa using hwj,by omega⟩;by_cases hij2:i = j
     ·subst hij2; rw [hf]; exact he
     ·exact h0 i hi (by omega)
    ·have hfe:q1m E fs = E f:=by rw [<- hf]; exact qy1 E fs j hj2 (fun i hi=>h0 i (by omega) hi) (by rw [hf]; exact he)
     simp [he];refine .done ?_;simp [jed,q2y,hl,hfe,he]
   ·have hj3:j = fs.length:=by have:=jpq hb; omega
    have h00:∀ f ∈ fs,E f = 0:=fun f hf=>by
     obtain ⟨i,hi,rfl⟩:=List.mem_iff_getElem.1 hf;exact h0 i hi (by omega)
    have hfe:q1m E fs = 0:=(qlz E fs).2 h00;clear hj hb h0;subst hj3;have hL:(0:Nat)≤fs.length:=Nat.zero_le _;simp;intro gf41;generalize gf41 41 = g41;have hlb:fs.length≤65536:=by omega
    refine ⟨by omega,?_⟩
    refine jpj (X:=AlSt) (fun s=>[(44,qaa s.j),(43,qaa fs.length),(42,.sl (fs.map Fw.w) cap),(12,.ref 41 s.g 0 s.j (if s.j = 0 then some fs.length else none)),(3,.ptr 3 g3 0 0),(2,.int .i64 l)])
     (fun s=>[(41,.row s.g 5 ((fs.take s.j).map R)),(3,.row g3 4 [c.v])])
     (fun s=>s.j≤fs.length) (fun s=>fs.length - s.j) ⟨0,g41⟩ (Nat.zero_le _) (by simp [qaa]) (by simp) ?_
    rintro ⟨j,g⟩ hj;dsimp only at hj;simp [qaa];refine jph (fun hb=>?_) (fun hb=>?_)
    ·have hj2:j < fs.length:=jpp hb;have hwj:=qa1 j (by omega);have hmem:fs[j] ∈ fs:=jpu hj2;have hRj:=hR fs[j] hmem (h00 _ hmem);obtain ⟨a1,a2,a3,a4,a5,hra⟩:=hRc fs[j] hmem;have hrp:=hRp fs[j] hmem;have htk:(fs.map R).take (j + 1) = (fs.map R).take j ++ [R fs[j]]:=by rw [List.take_succ_eq_append_getElem (by simpa using hj2),List.getElem_map]
     obtain ⟨f,hf⟩:∃ f,fs[j] = f:=⟨_,rfl⟩;rw [hf] at hRj hra hrp htk;rw [hra] at hRj hrp htk;have hmin:min j fs.length = j:=Nat.min_eq_left hj;simp only [Fw.w] at hRj;simp [hj2,hf,hwj,Fw.w];intro gf14;refine jpg hRj (by simp) ?_;simp;intro gf15;simp [hmin];refine ⟨by omega,⟨j + 1,gf15 41⟩,hj2,⟨by simpa using hwj,rfl,rfl,by simp⟩,⟨rfl,?_⟩,by simp only []; omega⟩;rw [htk,List.take_take,Nat.min_self]
    ·have hj3:j = fs.length:=by have:=jpq hb; omega
     subst hj3
     have hpR:jnp (fs.map R) = true:=by
      rw [jnu];intro v hv;obtain ⟨f,hf,rfl⟩:=List.mem_map.1 hv;exact hRp f hf
     simp;refine .move 41 0 _ (by simp) (by simp; rfl) fun g0=>.done ?_;rw [jpt (by simp)];simp [-List.map_map,Blk.rn,qaf hpR,jed,q2y,hl,hfe]
 ·simp [hp];refine .done ?_;simp [jed,q2y,hp]
end
section
open Go
noncomputable def chS (S:Sea) (p:Pt):Nat × Nat:=qcj S p (qbn S.c p) (S.f.M S.c p)
noncomputable def qqi (i v:Nat) (t t2:DT):DT:=if v = 0 then .nd i t t2 else .nd i t2 t
theorem qut (S:Sea) (l k:Nat) (p:Pt) (u:Nat):qbm S l (k + 1) p u =
  if S.f.det S.c p = true then .found p u else if ql9 S.c S.f p = true then .proof .lf u else if u = l then .spent p
  else match qbm S l k (p.set (chS S p).1 (chS S p).2) (u + 1) with
   | .found q w=>.found q w
   | .spent q=>.spent q
   | .proof t w=>match qbm S l k (p.set (chS S p).1 (1 - (chS S p).2)) w with
    | .found q w=>.found q w
    | .spent q=>.spent q
    | .proof t2 w2=>.proof (qqi (chS S p).1 (chS S p).2 t t2) w2:=rfl
theorem jii (S:Sea) (hS:S.ok) (hk:S.c.plain) (p:Pt) (hw:S.w.length = p.many) (hp:p.fit S.c) (hc:p.cu) (h1:¬ S.f.det S.c p = true) (h2:¬ ql9 S.c S.f p = true):(chS S p).1 < p.many/\p.bit (chS S p).1 = 2/\(chS S p).2≤1:=by
 obtain ⟨j,hj,hj2⟩:=qsg hS.g hk hS.f hp hc h1 h2;exact qld S hS p hw _ _ hj hj2
def VOk (S:Sea) (l:Nat) (p:Pt) (u:Nat):VR->Prop
 | .found q w=>p.le q/\q.fit S.c/\q.cu/\S.f.det S.c q = true/\u≤w/\w≤l/\p.opens≤q.opens + (w - u)/\w - u + 1≤2 ^ p.opens
 | .proof t w=>prB S.c S.f t p = true/\(∀ us,(∀ j ∈ us,p.bit j ≠ 2)->t.ok p.many us)/\t.sz = 2 * (w - u) + 1/\u≤w/\w≤l/\w - u + 1≤2 ^ p.opens
 | .spent _=>l - u + 1 < 2 ^ p.opens
theorem Pt.le.trans {p q r:Pt} (h1:p.le q) (h2:q.le r):p.le r:=by
 rw [Pt.le_bit] at h1 h2 ⊢;refine ⟨h1.1.trans h2.1,h1.2.1.trans h2.2.1,fun k hk=>?_⟩;have hm:p.many = q.many:=by unfold Pt.many; rw [h1.1,h1.2.1]
 have a:=h1.2.2 k hk;have b:=h2.2.2 k (by omega);unfold le2 at a b ⊢;rcases a with a | a
 ·rw [a]; exact b
 ·exact .inr a
theorem qux (n:Nat):1≤2 ^ n:=Nat.one_le_two_pow
theorem q3s (S:Sea) (p:Pt) {i v:Nat} (hv:v≤1) {t t2:DT} (h1:prB S.c S.f t (p.set i v) = true) (h2:prB S.c S.f t2 (p.set i (1 - v)) = true):prB S.c S.f (qqi i v t t2) p = true:=by
 unfold qqi;by_cases h0:v = 0
 ·subst h0;rw [if_pos rfl,prB,h1,h2]; rfl
 ·have:v = 1:=by omega
  subst this;rw [if_neg (by decide),prB,h1];rw [show (1 - 1:Nat) = 0 from rfl] at h2;rw [h2]; rfl
theorem q2v {i v:Nat} (t t2:DT):(qqi i v t t2).sz = 1 + t.sz + t2.sz:=by
 unfold qqi;split <;> simp only [DT.sz] <;> omega
theorem q31 {n i v:Nat} {t t2:DT} {us:List Nat} (hi:i < n) (hn:i ∉ us) (h1:t.ok n (i :: us)) (h2:t2.ok n (i :: us)):(qqi i v t t2).ok n us:=by
 unfold qqi;split
 ·exact ⟨hi,hn,h1,h2⟩
 ·exact ⟨hi,hn,h2,h1⟩
theorem qpe (S:Sea) (hS:S.ok) (hk:S.c.plain) (hw:S.w.length = cnt 0 S.c.n + cnt 14 S.c.n) (l:Nat):∀ (k:Nat) (p:Pt) (u:Nat),p.fit S.c->p.cu->p.opens < k->u≤l->VOk S l p u (qbm S l k p u)
 | 0,p,u,_,_,h,_=>by omega
 | k + 1,p,u,hp,hc,ho,hu=>by
  have hone:=qux p.opens;rw [qut];by_cases h1:S.f.det S.c p = true
  ·rw [if_pos h1];exact ⟨p.le_rfl,hp,hc,h1,jpw _,hu,by omega,by omega⟩
  rw [if_neg h1];by_cases h2:ql9 S.c S.f p = true
  ·rw [if_pos h2];exact ⟨h2,fun _ _=>trivial,by simp [DT.sz],jpw _,hu,by omega⟩
  rw [if_neg h2];have hpm:S.w.length = p.many:=by rw [hw]; unfold Pt.many; rw [hp.i,hp.s]
  obtain ⟨c1,c2,c3⟩:=jii S hS hk p hpm hp hc h1 h2;generalize (chS S p).1 = i at c1 c2 ⊢;generalize (chS S p).2 = v at c3 ⊢;have o1:=qe9 c1 c2 c3;have o2:=qe9 (v:=1 - v) c1 c2 (by omega);have f1:(p.set i v).fit S.c:=jnx hp i v (by omega);have f2:(p.set i (1 - v)).fit S.c:=jnx hp i (1 - v) (by omega);have u1:=qgx hc c1 (v:=v) (by omega);have u2:=qgx hc c1 (v:=1 - v) (by omega);have e1:p.le (p.set i v):=joy c1 v c2;have e2:p.le (p.set i (1 - v)):=joy c1 (1 - v) c2;have hpow:2 ^ p.opens = 2 * 2 ^ (p.set i v).opens:=by rw [o1,Nat.pow_succ]; omega
  have ho2:(p.set i (1 - v)).opens = (p.set i v).opens:=by omega
  have hone2:=qux (p.set i v).opens;by_cases h3:u = l
  ·rw [if_pos h3];show l - u + 1 < 2 ^ p.opens;omega
  rw [if_neg h3];have i1:=qpe S hS hk hw l k (p.set i v) (u + 1) f1 u1 (by omega) (by omega)
  cases hr:qbm S l k (p.set i v) (u + 1) with
  | found q w=>
   rw [hr] at i1;obtain ⟨a1,a2,a3,a4,a5,a6,a7,a8⟩:=i1;exact ⟨e1.trans a1,a2,a3,a4,by omega,a6,by omega,by omega⟩
  | spent q=>
   rw [hr] at i1;change l - (u + 1) + 1 < _ at i1;show l - u + 1 < _;omega
  | proof t w=>
   rw [hr] at i1;obtain ⟨a1,a2,a3,a4,a5,a6⟩:=i1;have i2:=qpe S hS hk hw l k (p.set i (1 - v)) w f2 u2 (by omega) a5;simp only []
   cases hr2:qbm S l k (p.set i (1 - v)) w with
   | found q w2=>
    rw [hr2] at i2;obtain ⟨b1,b2,b3,b4,b5,b6,b7,b8⟩:=i2;rw [ho2] at b8;exact ⟨e2.trans b1,b2,b3,b4,by omega,b6,by omega,by omega⟩
   | spent q=>
    rw [hr2] at i2;change l - w + 1 < _ at i2;rw [ho2] at i2;show l - u + 1 < _;omega
   | proof t2 w2=>
    rw [hr2] at i2;obtain ⟨b1,b2,b3,b4,b5,b6⟩:=i2;rw [ho2] at b6;refine ⟨q3s S p c3 a1 b1,fun us hus=>?_,by rw [q2v,a3,b3]; omega,by omega,b5,by omega⟩;have hni:i ∉ us:=fun h=>hus i h c2;refine q31 c1 hni ?_ ?_
    ·have:=a2 (i :: us) fun j hj=>by
      rw [jny c1];split
      ·omega
      ·rename_i hne;rcases List.mem_cons.1 hj with rfl | hj
       ·exact absurd rfl hne
       ·exact hus j hj
     rwa [job] at this
    ·have:=b2 (i :: us) fun j hj=>by
      rw [jny c1];split
      ·omega
      ·rename_i hne;rcases List.mem_cons.1 hj with rfl | hj
       ·exact absurd rfl hne
       ·exact hus j hj
     rwa [job] at this
end
section
open Go
def ja9 (a:Nat) (xs ys:List Nat) (ts:List Tn) (w:Nat):V:=.agg [.int .u8 a,.sl (xs.map u8V) none,.sl (ys.map u8V) none,.sl (ts.map Tn.v) none,qaa w]
set_option maxRecDepth 10000 in
theorem qsa (a:Nat) (xs ys:List Nat) (ts:List Tn) (w:Nat) (h1:xs.length < 1000000000) (h2:ys.length < 1000000000) (h3:ts.length < 1000000000):qac Tryz.prog gl0 50 [ja9 a xs ys ts w,ja9 a xs ys ts w] (.bool true):=by
 have hp1:jnp (xs.map u8V) = true:=by simp
 have hp2:jnp (ys.map u8V) = true:=by simp
 have hp3:jnp (ts.map Tn.v) = true:=qcn ts;unfold ja9;refine jpk 2 ok50 rfl ?_;simp [i50,x50,nop,qaa];intro gf2 gf3;generalize gf2 2 = g2;generalize gf3 3 = g3;obtain ⟨rw,hrw⟩:∃ rw,V.agg [.int .u8 a,.sl (xs.map u8V) none,.sl (ys.map u8V) none,.sl (ts.map Tn.v) none,.int .i64 w] = rw:=⟨_,rfl⟩
 refine jpj (X:=Nat) (fun j=>[(5,qaa j),(3,.ptr 3 g3 0 0),(2,.ptr 2 g2 0 0)]) (fun _=>[(3,.row g3 5 [.agg [.int .u8 a,.sl (xs.map u8V) none,.sl (ys.map u8V) none,.sl (ts.map Tn.v) none,.int .i64 w]]),(2,.row g2 5 [.agg [.int .u8 a,.sl (xs.map u8V) none,.sl (ys.map u8V) none,.sl (ts.map Tn.v) none,.int .i64 w]])])
  (fun j=>j≤ts.length) (fun j=>ts.length - j) 0 (Nat.zero_le _) (by simp [qaa]) (by simp) ?_
 intro j hj;simp [qaa];refine jph (fun hb=>?_) (fun hb=>?_)
 ·have hj2:j < ts.length:=jpp hb;have hwj:=qa1 j (by omega);obtain ⟨y,hy⟩:∃ y,ts[j] = y:=⟨_,rfl⟩;simp [hj2,hy,hwj,Tn.v,qaa];exact ⟨j + 1,hj2,by simp,by omega⟩
 ·simp
  refine jpj (X:=Nat) (fun j=>[(6,qaa j),(3,.ptr 3 g3 0 0),(2,.ptr 2 g2 0 0)]) (fun _=>[(3,.row g3 5 [.agg [.int .u8 a,.sl (xs.map u8V) none,.sl (ys.map u8V) none,.sl (ts.map Tn.v) none,.int .i64 w]]),(2,.row g2 5 [.agg [.int .u8 a,.sl (xs.map u8V) none,.sl (ys.map u8V) none,.sl (ts.map Tn.v) none,.int .i64 w]])])
   (fun j=>j≤xs.length) (fun j=>xs.length - j) 0 (Nat.zero_le _) (by simp [qaa]) (by simp) ?_
  intro j hj;simp [qaa];refine jph (fun hb=>?_) (fun hb=>?_)
  ·have hj2:j < xs.length:=jpp hb;have hwj:=qa1 j (by omega);obtain ⟨y,hy⟩:∃ y,xs[j] = y:=⟨_,rfl⟩;simp [hj2,hy,hwj,u8V,qaa];exact ⟨j + 1,hj2,by simp,by omega⟩
  ·simp
   refine jpj (X:=Nat) (fun j=>[(7,qaa j),(3,.ptr 3 g3 0 0),(2,.ptr 2 g2 0 0)]) (fun _=>[(3,.row g3 5 [.agg [.int .u8 a,.sl (xs.map u8V) none,.sl (ys.map u8V) none,.sl (ts.map Tn.v) none,.int .i64 w]]),(2,.row g2 5 [.agg [.int .u8 a,.sl (xs.map u8V) none,.sl (ys.map u8V) none,.sl (ts.map Tn.v) none,.int .i64 w]])])
    (fun j=>j≤ys.length) (fun j=>ys.length - j) 0 (Nat.zero_le _) (by simp [qaa]) (by simp) ?_
   intro j hj;simp [qaa];refine jph (fun hb=>?_) (fun hb=>?_)
   ·have hj2:j < ys.length:=jpp hb;have hwj:=qa1 j (by omega);obtain ⟨y,hy⟩:∃ y,ys[j] = y:=⟨_,rfl⟩;simp [hj2,hy,hwj,u8V,qaa];exact ⟨j + 1,hj2,by simp,by omega⟩
   ·simp
def VR.sml:VR->Prop
 | .found q _=>q.i.length < 1000000000/\q.s.length < 1000000000
 | .proof t _=>t.sz < 1000000000
 | .spent _=>True
theorem q5n (l:Nat) (R:VR) (hR:R.sml):qac Tryz.prog gl0 50 [q1p l R,q1p l R] (.bool true):=by
 cases R with
 | found q w=>
  have h:=qsa 1 q.i q.s [] w hR.1 hR.2 (by simp);have hle:VLe (q1p l (.found q w)) (ja9 1 q.i q.s [] w):=VLe.agg ⟨.refl _,VLe.cap _ _,VLe.cap _ _,VLe.nil',.refl _,trivial⟩;exact jpo h ⟨hle,hle,trivial⟩ (.refl _)
 | proof t w=>
  have h:=qsa 2 [] [] (t.fl 0) w (by simp) (by simp) (by rw [jof]; exact hR);have hle:VLe (q1p l (.proof t w)) (ja9 2 [] [] (t.fl 0) w):=VLe.agg ⟨.refl _,VLe.nil',VLe.nil',.refl _,.refl _,trivial⟩;exact jpo h ⟨hle,hle,trivial⟩ (.refl _)
 | spent q=>
  have h:=qsa 3 [] [] [] l (by simp) (by simp) (by simp);have hle:VLe (q1p l (.spent q)) (ja9 3 [] [] [] l):=VLe.agg ⟨.refl _,VLe.nil',VLe.nil',VLe.nil',.refl _,trivial⟩;exact jpo h ⟨hle,hle,trivial⟩ (.refl _)
theorem q52 (c:Ci) (hg:c.good) (hk:c.plain) (f:Ft) (hf:f.ok c) (hm:f.m = 0) (l:Nat):VOk (sea c f) l (qgg c) 0 (qob c f l):=
 qpe (sea c f) (q55 c hg f hf hm) hk (q5f c f) l _ _ 0 (qss c) (q6f c) (by have:=qj3 (qgg c); omega) (Nat.zero_le _)
theorem qy9 (c:Ci) (hg:c.good) (hk:c.plain) (f:Ft) (hf:f.ok c) (hm:f.m = 0) (l:Nat) (hl:l≤1000000):(qob c f l).sml:=by
 have h:=q52 c hg hk f hf hm l;have hn:=hg.n1;have l0:=qcb 0 c.n;have l1:=qcb 14 c.n
 cases hR:qob c f l with
 | found q w=>
  rw [hR] at h;obtain ⟨-,h2,-⟩:=h;have e1:q.i.length = cnt 0 c.n:=h2.i;have e2:q.s.length = cnt 14 c.n:=h2.s;exact ⟨by omega,by omega⟩
 | proof t w=>
  rw [hR] at h;obtain ⟨-,-,h3,-,h5,-⟩:=h;show t.sz < _;omega
 | spent q=>trivial
end
end Go.Proofs.YtpaopccohkldlaaGreatDoor
