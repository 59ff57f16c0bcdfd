/- Lemmas. Conditions: none. -/
import Derived.Test.YtpaopccohkldlaaGreatDoorJ4
import Derived.Test.YtpaopccohkldlaaGreatDoorXT
set_option linter.all false
namespace Go.Proofs.YtpaopccohkldlaaGreatDoor
section
open Go
theorem qy4 (f:Ft) (G:Nat->Nat) (hG:∀ v,G v≤3):q3p (atW f G):=fun n v hv=>by unfold atW; split; exact hG v; exact hv
def nfV (f:Ft) (F:V):V:=if f.q = 0 then .fn 189 [] [.iptr f.ln 0,.iptr F 0] else .fn 188 [] []
def pfV (f:Ft) (F:V):V:=if f.q = 0 then .fn 151 [] [] else .fn 190 [] [.iptr f.ln 0,.iptr F 0]
theorem q9r (c:Ci) (f:Ft) (F:V) (G:Nat->Nat) (hF:FnV F G):qb5 Tryz.prog gl0 153 [c.v,f.ln,F] (fun v h=>∃ g,v = .ptr 0 g 0 0/\h = [(0,.row g 7 [cyV c .nil (nfV f F) (pfV f F)])]):=q9s c f F G hF
theorem qqi {F:V} {W:Nat->Nat->Nat} (h:FnW F W):F.pure = true:=by obtain ⟨f,x,rfl,h,-⟩:=h; simp [V.pure,jd6,h]
theorem qqh {F:V} {Q:Nat->Nat->Nat->Nat} (h:FnQ F Q):F.pure = true:=by obtain ⟨f,x,rfl,h,-⟩:=h; simp [V.pure,jd6,h]
theorem qqa {c:Ci} {a b:V} (h1:a.pure = true) (h2:b.pure = true):(cyV c .nil a b).pure = true:=by simp [cyV,V.pure,jd6,h1,h2]
end
section
open Go
def q2v (a b:List Nat) (i:Nat):Bool:=decide (a.getD i 0≤1) && decide (b.getD i 0≤1) && decide (a.getD i 0 ≠ b.getD i 0)
def qrg (a b:List Nat) (n:Nat):List Nat:=(List.range n).filter (q2v a b)
theorem qtb (a b:List Nat) (n:Nat):qrg a b (n + 1) = if q2v a b n = true then qrg a b n ++ [n] else qrg a b n:=by
 unfold qrg;rw [List.range_succ,List.filter_append];by_cases h:q2v a b n = true
 ·rw [if_pos h]; simp [h]
 ·rw [if_neg h]; simp [h]
theorem qk8 (a b:List Nat) (n:Nat):(qrg a b n).length≤n:=by
 unfold qrg;have:=List.length_filter_le (q2v a b) (List.range n);simpa using this
def cons (a b:List Nat):List Nat:=qrg a b (min a.length b.length)
theorem q0o (l:List Nat) (cap:Option Nat):qac Tryz.prog gl0 131 [.sl (qak l) cap] (.sl (qak l) (some l.length)):=by
 refine jfu 2 q1m rfl ?_;simp [q7x,q9e];rw [jf2 (by simp)];exact qae _ (qa8 l)
theorem qkj (a b:List Nat) (ca cb:Option Nat) (hl:a.length < 1000000000):qac Tryz.prog gl0 158 [.sl (a.map u8V) ca,.sl (b.map u8V) cb] (.sl (qak (cons a b)) (some (cons a b).length)):=by
 unfold cons;obtain ⟨M,hM⟩:∃ M,min a.length b.length = M:=⟨_,rfl⟩;have hMi:(min (a.length:Int) (b.length:Int)) = (M:Int):=by omega
 rw [hM];refine jfu 2 jbo rfl ?_;simp [i158,x158,hMi]
 refine jem (X:=Nat × Option (Nat × List V)) (fun z=>[(12,qab z.1),(11,qab M),(5,qbt 41 z.2),(0,.sl (a.map u8V) ca),(1,.sl (b.map u8V) cb)]) (fun z=>qbm 41 1 z.2)
  (fun z=>z.1≤M/\qbe z.2 = qak (qrg a b z.1)/\(z.2 = none->qrg a b z.1 = [])) (fun z=>M - z.1) (.done ⟨(0,none),⟨by simp,by simp [qbe,qrg,qak],by simp [qrg]⟩,by simp [qab,qbt],by simp [qbm]⟩) ?_
 rintro ⟨j,acc⟩ ⟨q1,q2,q3⟩;dsimp only at q1 q2 q3 ⊢;simp [qab];refine jfr (fun h=>?_) (fun h=>?_)
 ·have hj:j < M:=jfy h;have hja:j < a.length:=by omega
  have hjb:j < b.length:=by omega
  have hw:=qbi j (by omega);obtain ⟨x,hx⟩:∃ x,a[j] = x:=⟨_,rfl⟩;obtain ⟨y,hy⟩:∃ y,b[j] = y:=⟨_,rfl⟩
  have hc:q2v a b j = (decide (x≤1) && decide (y≤1) && decide (x ≠ y)):=by
   unfold q2v;rw [jf0,jf4 hja,hx,jf0,jf4 hjb,hy]; rfl
  have hs:=qtb a b j;have hcl:=qk8 a b j;rw [hc] at hs;have hL:=congrArg List.length q2;simp at hL;by_cases h3:x≤1/\y≤1/\x ≠ y
  ·obtain ⟨h4,h5,h6⟩:=h3;rw [if_pos (by simp [h4,h5,h6])] at hs;have hnx:=congrArg qak hs;simp only [qak,List.map_append,List.map_cons,List.map_nil] at hnx q2;rw [<- q2] at hnx;rcases acc with _ | ⟨g,r⟩
   ·simp [hja,hjb,hx,hy,u8V,h4,h5,h6,qbt,qbm];intro ga gb;exact .done ⟨j + 1,some (gb 41,[.int .i64 (j:Int)]),⟨hj,by simpa [qbe,qab,qak] using hnx.symm,by simp⟩,by simp [hw],by simp,by omega⟩
   ·simp [hja,hjb,hx,hy,u8V,h4,h5,h6,qbt,qbm];intro ga gb;refine ⟨by simp only [qbe] at hL; omega,.done ⟨j + 1,some (gb 41,r ++ [.int .i64 (j:Int)]),⟨hj,by simpa [qbe,qab,qak] using hnx.symm,by simp⟩,by simp [hw],by simp,by omega⟩⟩
  ·have hb:(decide (x≤1) && decide (y≤1) && decide (x ≠ y)) = false:=by
    rw [Bool.eq_false_iff]; intro he; simp at he; exact h3 ⟨he.1.1,he.1.2,he.2⟩
   rw [if_neg (by rw [hb]; simp)] at hs
   have hcase:¬ x≤1∨(x≤1/\¬ y≤1)∨(x≤1/\y≤1/\x = y):=by
    by_cases p:x≤1 <;> by_cases p2:y≤1 <;> by_cases p3:x = y <;> simp_all
   have hsub:Sub (qbm 41 1 acc) (qbm 41 1 acc):=by rcases acc with _ | ⟨g,r⟩ <;> simp [qbm]
   rcases hcase with p | ⟨p,p2⟩ | ⟨p,p2,p3⟩
   ·simp [hja,hx,u8V,p];exact .done ⟨j + 1,acc,⟨hj,by rw [hs]; exact q2,fun e=>by rw [hs]; exact q3 e⟩,by simp [hw],hsub,by omega⟩
   ·simp [hja,hjb,hx,hy,u8V,p,p2];exact .done ⟨j + 1,acc,⟨hj,by rw [hs]; exact q2,fun e=>by rw [hs]; exact q3 e⟩,by simp [hw],hsub,by omega⟩
   ·subst p3;simp [hja,hjb,hx,hy,u8V,p];exact .done ⟨j + 1,acc,⟨hj,by rw [hs]; exact q2,fun e=>by rw [hs]; exact q3 e⟩,by simp [hw],hsub,by omega⟩
 ·have hj:j = M:=by have:=jfz h; omega
  subst hj;have hcl:=q0o (qrg a b j) none;have hlen:=qk8 a b j;generalize qrg a b j = C at q2 q3 hcl hlen ⊢;rcases acc with _ | ⟨g,r⟩
  ·have hC:=q3 rfl;subst hC;have hcl0:=qac.wide hcl (args:=[.nil]) ⟨VLe.nil',trivial⟩ (.refl _);simp [qbt,qbm];refine .mk [(5,.nil)] [] (by simp) (by simp) (.done ?_);simp;refine jfq hcl0 rfl ?_;simp [qak]
  ·simp only [qbe] at q2;subst q2;simp [qbt,qbm];refine .mk [(5,.ref 41 g 0 C.length none)] [(41,.row g 1 (qak C))] (by simp) (by simp) (.frz (g:=g) (sz:=1) (es:=qak C) 41 (by simp) (qa8 C) (.done ?_));have hCt:List.take C.length (qak C) = qak C:=jf2 (by simp);simp [fzF,fzH,fzV,fzf,hCt];refine jfq hcl (by simp [qa8]) ?_;simp [qae,qa8]
theorem qw5 (O S O2 S2:List Nat) (h1:O.length < 1000000) (h2:S.length < 1000000):qac Tryz.prog gl0 116 [qfq O S,qfq O2 S2] (.tup [.sl (qak (cons O O2)) (some (cons O O2).length),.sl (qak (cons S S2)) (some (cons S S2).length)]):=by
 have c1:=qkj O O2 (some O.length) (some O2.length) (by omega);have c2:=qkj S S2 (some S.length) (some S2.length) (by omega);generalize cons O O2 = A at c1 ⊢;generalize cons S S2 = B at c2 ⊢;refine jfu 2 ja1 rfl ?_;simp [i116,x116,qfq];intro gf1 gf2 gm
 first | refine ⟨_,_,_,.pure c1 (by simp),?_⟩ | refine ⟨_,⟨_,_,.pure c1 (by simp)⟩,?_⟩ | refine ⟨_,_,⟨_,.pure c1 (by simp)⟩,?_⟩
 simp
 first | refine ⟨_,_,_,.pure c2 (by simp),?_⟩ | refine ⟨_,⟨_,_,.pure c2 (by simp)⟩,?_⟩ | refine ⟨_,_,⟨_,.pure c2 (by simp)⟩,?_⟩
 simp [qae,qa8]
 try rfl
def qpk (O S O2 S2:List Nat):Bool:=decide (0 < (cons O O2).length + (cons S S2).length)
theorem qp8 (a b:List Nat):(cons a b).length≤a.length:=by
 unfold cons;have:=qk8 a b (min a.length b.length);omega
theorem q61 (O S O2 S2:List Nat) (h1:O.length < 1000000) (h2:S.length < 1000000):qac Tryz.prog gl0 78 [qfq O S,qfq O2 S2] (.bool (qpk O S O2 S2)):=by
 have hd:=qw5 O S O2 S2 h1 h2;have l1:=qp8 O O2;have l2:=qp8 S S2;unfold qpk;generalize cons O O2 = A at hd l1 ⊢;generalize cons S S2 = B at hd l2 ⊢;obtain ⟨m,hm⟩:∃ m,A.length + B.length = m:=⟨_,rfl⟩;have hw:IntKind.i64.wrap ((A.length:Int) + (B.length:Int)) = (m:Int):=by rw [qau] <;> omega
 rw [hm];simp only [qfq] at hd;refine jfu 2 ok78 rfl ?_;simp [i78,x78,qfq];intro gf1 gf2;refine jfq hd (by simp) ?_;simp [hw]
theorem qx1 (c:Ci) (f:Nat->Nat):(qqs c f).length = c.o.length:=by simp [qqs]
theorem qx2 (c:Ci) (f:Nat->Nat):(qqt c f).length = cnt 14 c.n:=by simp [qqt,cnt]
end
section
open Go
theorem q16 (f:Ft):FnV (.fn 155 [] [.iptr f.w 0]) (fun _=>f.v):=⟨155,_,rfl,rfl,fun v _=>by
 show qac Tryz.prog gl0 155 [u8V v,.iptr f.w 0] (u8V f.v);refine jfu 2 jbl rfl ?_;simp [i155,x155,u8V,Ft.w]⟩
def CyK (c:Ci) (NF PF:V) (v:V) (h:Hp):Prop:=∃ g,v = .ptr 0 g 0 0/\h = [(0,.row g 7 [cyV c .nil NF PF])]
theorem qm7 (c:Ci) (f:Ft) (hm:f.m = 0) (l:List V) (cap:Option Nat) (hl:jd6 l = true):qb5 Tryz.prog gl0 114 [c.v,f.w,.sl l cap] (CyK c (nfV f (.fn 155 [] [.iptr f.w 0])) (pfV f (.fn 155 [] [.iptr f.w 0]))):=by
 have hat:=q9r c f _ _ (q16 f);have hNW:FnW (nfV f _) _:=q9p f _ _ (q16 f);have hPQ:FnQ (pfV f _) _:=q9q f _ _ (q16 f);have hnp:=qqi hNW;have hpp:=qqh hPQ;clear hNW hPQ;generalize hNF:nfV f (.fn 155 [] [.iptr f.w 0]) = NF at hat hnp ⊢;generalize hPF:pfV f (.fn 155 [] [.iptr f.w 0]) = PF at hat hpp ⊢;have hcyp:=qqa (c:=c) hnp hpp;refine jfw jaz rfl ?_;simp [i114,x114,u8V,hm,qab];intro gf1 gf2 gf3 gm;refine ⟨by decide,?_⟩;refine jff 4 (g:=gf2 4) (sz:=5) (es:=[f.w]) (by simp) (by simp) ?_;simp [fzV,V.mapR,jd8,fzp,fzH,Blk.fz,qap _ (qb2 c),qae,hl];refine CallO.own 900 hat (by simp [jd6,V.pure]) (by simp) ?_;rintro v h ⟨g0,rfl,rfl⟩ gf8;simp [upH,upS,Blk.rn,qcy _ hcyp];generalize gf8 900 + g0 = gx;refine .move 900 0 _ (by simp) (by simp; rfl) fun g'=>.done ?_;simp [qcy _ hcyp];exact ⟨[(0,.row g' 7 [cyV c .nil NF PF])],by simp,g',rfl,rfl⟩
theorem qy5 (c:Ci) (hg:c.good) (f:Ft) (hfc:qac Tryz.prog gl0 43 [c.v,f.w] (.int .i64 0)) (hm:f.m ≠ 1) (p:Pt) (hp:p.fit c) (W:Nat->Nat->Nat) (Q:Nat->Nat->Nat->Nat) (NX PX:V) (hNW:FnW NX W) (hPQ:FnQ PX Q) (hW3:q3p W)
    (hfa:qb5 Tryz.prog gl0 114 [c.v,f.w,.sl (tU c.n.length (qgz c p)) (some c.n.length)] (CyK c NX PX)) :
    qac Tryz.prog gl0 77 [c.v,f.w,p.v] (.tup [qfq (qqs c (qgz c p)) (qqt c (qgz c p)),qfq (qj4 c (qmg c W Q p)) (qj5 c Q (qmg c W Q p)),.sl (tU c.n.length (qmg c W Q p)) (some c.n.length),.int .i64 0]):=by
  have r1:=q6z c hg p hp;have hrun:=fun g=>q4f c hg p hp W Q NX PX hNW hPQ hW3 g;have hnp:=qqi hNW;have hpp:=qqh hPQ;generalize qmg c W Q p = M at hrun ⊢;generalize qgz c p = A at r1 hfa ⊢;generalize qqs c A = O1 at r1 ⊢;generalize qqt c A = S1 at r1 ⊢;have hcyp:=qqa (c:=c) hnp hpp;have hin1:V.inB [900,29] (cyV c .nil NX PX) = true:=jeh _ _ hcyp
  have hin2:∀ g2 N,V.inB [900,29] (cyV c (.ref 29 g2 0 N (some N)) NX PX) = true:=fun g2 N=>by
    simp [cyV,V.inB,jd9,jeh _ _ hnp,jeh _ _ hpp,jd7 _ _ (qfk _),jd7 _ _ (qfd _),jd7 _ _ (qgn _),jd7 _ _ (qeb _)]
  generalize qj4 c M = MO at hrun ⊢;generalize qj5 c Q M = MS at hrun ⊢;have hm':¬ ((f.m:Int) = 1):=by omega
  simp only [qfq,Pt.v,u8V] at r1 hrun ⊢;simp only [Ft.w,u8V,qab] at hfc hfa;refine jfu 2 ok77 rfl ?_;simp [i77,x77,u8V,qab];intro gf1 gf2 gf3 gf4 gf5;refine jfq hfc (by simp) ?_;simp [u8V,hm'];refine jfq r1 (by simp) ?_;simp
  refine CallO.own 900 hfa (by have ht:jd6 (tab c.n.length fun i => V.int IntKind.u8 (A i:Int)) = true := qcf _ _
                               simp [jd6,V.pure,u8V,qab,ht]) (by simp) ?_
  rintro v h ⟨g0,rfl,rfl⟩ gf8;simp [upH,upS,Blk.rn,qcy _ hcyp];generalize gf8 900 + g0 = gx
  refine CallO.lend [900,29] [(900,.row gx 7 [cyV c .nil NX PX])] [(6,.row (gf4 6) 2 [.agg [.sl (O1.map u8V) (some O1.length),.sl (S1.map u8V) (some S1.length)]]),(7,.row (gf5 7) 2 [.agg [.nil,.nil]])]
    (hrun gx) (by simp [jd7]) (by simp) (by simp [qbc,Blk.inB,hin1,jd9]) (by simp) (by simp) ?_
  rintro v h ⟨rfl,g2,rfl⟩;refine ⟨by simp [V.inB,jd9,jd7 _ _ (qaj _)],by simp [qbc,Blk.inB,jd9,hin2,jd7 _ _ (qcf _ _)],?_⟩;simp;intro gm3;simp [nop,qae,qar (qcf _ _)]
  first | exact ⟨rfl,jf2 (by simp)⟩ | exact rfl
theorem q4i (c:Ci) (_hg:c.good) (f:Ft) (p:Pt) (O S O2 S2:List Nat) (L:V) (h1:O.length < 1000000) (h2:S.length < 1000000)
  (hb:qac Tryz.prog gl0 77 [c.v,f.w,p.v] (.tup [qfq O S,qfq O2 S2,L,.int .i64 0])):qac Tryz.prog gl0 35 [c.v,f.w,p.v] (.tup [.bool (qpk O S O2 S2),.int .i64 0]):=by
 have hs:=q61 O S O2 S2 h1 h2;generalize qpk O S O2 S2 = PB at hs ⊢;simp only [qfq,Pt.v] at hb hs ⊢;refine jfu 2 ok35 rfl ?_;simp [i35,x35];intro gf1 gf2 gf3;refine jfq hb (by simp [qab,u8V]) ?_;simp;intro gf5 gf6;refine jfq hs (by simp) ?_;simp
theorem q4j (c:Ci) (hg:c.good) (f:Ft) (hf:f.ok c) (hm:f.m = 0) (p:Pt) (hp:p.fit c):qac Tryz.prog gl0 35 [c.v,f.w,p.v]
  (.tup [.bool (qpk (qqs c (qgz c p)) (qqt c (qgz c p)) (qj4 c (qmg c (atW f fun _=>f.v) (atQ f fun _=>f.v) p)) (qj5 c (atQ f fun _=>f.v) (qmg c (atW f fun _=>f.v) (atQ f fun _=>f.v) p))),.int .i64 0]):=by
 have hno:c.o.length≤16384:=(qk2 hg.sh).2.2.2;have hn1:=hg.n1;have l1:=qcd 14 c.n;have e1:=qx1 c (qgz c p);have e2:=qx2 c (qgz c p);have hv:=hf.v
 exact q4i c hg f p _ _ _ _ _ (by omega) (by omega) (qy5 c hg f (qli c hg f hf) (by omega) p hp _ _ _ _ (q9p f _ _ (q16 f)) (q9q f _ _ (q16 f)) (qy4 f _ fun _=>by omega)
  (qm7 c f hm _ _ (qcf _ _)))
end
section
open Go
def Ci.plain (c:Ci):Prop:=∀ n,n < c.n.length->qdc c n = true->1≤(c.nd n).k/\(c.nd n).k≤11/\qwp (c.nd n).k (c.nd n).i.length = true
end
end Go.Proofs.YtpaopccohkldlaaGreatDoor
