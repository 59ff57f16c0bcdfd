/- Lemmas. Conditions: none. -/
import Derived.Test.YtpaopccohkldlaaGreatDoorJ4
import Derived.Test.YtpaopccohkldlaaGreatDoorXT
set_option linter.all false
namespace Go.Proofs.YtpaopccohkldlaaGreatDoor
section
open Go
theorem q03 (f:Ft) (G:Nat->Nat) (hG:∀ v,G v≤3):q6f (atW f G):=fun n v hv=>by unfold atW; split; exact hG v; exact hv
def nfV (f:Ft) (F:V):V:=if f.q = 0 then .fn 189 [] [.iptr f.ln 0,.iptr F 0] else .fn 188 [] []
def pfV (f:Ft) (F:V):V:=if f.q = 0 then .fn 151 [] [] else .fn 190 [] [.iptr f.ln 0,.iptr F 0]
theorem jcr (c:Ci) (f:Ft) (F:V) (G:Nat->Nat) (hF:FnV F G):qbw Tryz.prog gl0 153 [c.v,f.ln,F] (fun v h=>∃ g,v = .ptr 0 g 0 0/\h = [(0,.row g 7 [cyV c .nil (nfV f F) (pfV f F)])]):=jcs c f F G hF
theorem qrv {F:V} {W:Nat->Nat->Nat} (h:FnW F W):F.pure = true:=by obtain ⟨f,x,rfl,h,-⟩:=h; simp [V.pure,jhf,h]
theorem qru {F:V} {Q:Nat->Nat->Nat->Nat} (h:FnQ F Q):F.pure = true:=by obtain ⟨f,x,rfl,h,-⟩:=h; simp [V.pure,jhf,h]
theorem qrm {c:Ci} {a b:V} (h1:a.pure = true) (h2:b.pure = true):(cyV c .nil a b).pure = true:=by simp [cyV,V.pure,jhf,h1,h2]
end
section
open Go
def qsw (a b:List Nat) (i:Nat):Bool:=decide (a.getD i 0≤1) && decide (b.getD i 0≤1) && decide (a.getD i 0 ≠ b.getD i 0)
def qp3 (a b:List Nat) (n:Nat):List Nat:=(List.range n).filter (qsw a b)
theorem quu (a b:List Nat) (n:Nat):qp3 a b (n + 1) = if qsw a b n = true then qp3 a b n ++ [n] else qp3 a b n:=by
 unfold qp3;rw [List.range_succ,List.filter_append];by_cases h:qsw a b n = true
 ·rw [if_pos h]; simp [h]
 ·rw [if_neg h]; simp [h]
theorem qmb (a b:List Nat) (n:Nat):(qp3 a b n).length≤n:=by
 unfold qp3;have:=List.length_filter_le (qsw a b) (List.range n);simpa using this
def cons (a b:List Nat):List Nat:=qp3 a b (min a.length b.length)
theorem q25 (l:List Nat) (cap:Option Nat):qad Tryz.prog gl0 131 [.sl (qak l) cap] (.sl (qak l) (some l.length)):=by
 refine ji4 2 q4c rfl ?_;simp [jay,jcf];rw [jjc (by simp)];exact qah _ (qbc l)
theorem qli (a b:List Nat) (ca cb:Option Nat) (hl:a.length < 1000000000):qad Tryz.prog gl0 158 [.sl (a.map u8V) ca,.sl (b.map u8V) cb] (.sl (qak (cons a b)) (some (cons a b).length)):=by
 unfold cons;obtain ⟨M,hM⟩:∃ M,min a.length b.length = M:=⟨_,rfl⟩;have hMi:(min (a.length:Int) (b.length:Int)) = (M:Int):=by omega
 rw [hM];refine ji4 2 je3 rfl ?_;simp [i158,x158,hMi]
 refine jh1 (X:=Nat × Option (Nat × List V)) (fun z=>[(12,qaa z.1),(11,qaa M),(5,qbe 41 z.2),(0,.sl (a.map u8V) ca),(1,.sl (b.map u8V) cb)]) (fun z=>qbf 41 1 z.2)
  (fun z=>z.1≤M/\qa3 z.2 = qak (qp3 a b z.1)/\(z.2 = none->qp3 a b z.1 = [])) (fun z=>M - z.1) (.done ⟨(0,none),⟨by simp,by simp [qa3,qp3,qak],by simp [qp3]⟩,by simp [qaa,qbe],by simp [qbf]⟩) ?_
 rintro ⟨j,acc⟩ ⟨q1,q2,q3⟩;dsimp only at q1 q2 q3 ⊢;simp [qaa];refine ji1 (fun h=>?_) (fun h=>?_)
 ·have hj:j < M:=ji8 h;have hja:j < a.length:=by omega
  have hjb:j < b.length:=by omega
  have hw:=qa5 j (by omega);obtain ⟨x,hx⟩:∃ x,a[j] = x:=⟨_,rfl⟩;obtain ⟨y,hy⟩:∃ y,b[j] = y:=⟨_,rfl⟩
  have hc:qsw a b j = (decide (x≤1) && decide (y≤1) && decide (x ≠ y)):=by
   unfold qsw;rw [jja,jje hja,hx,jja,jje hjb,hy]; rfl
  have hs:=quu a b j;have hcl:=qmb a b j;rw [hc] at hs;have hL:=congrArg List.length q2;simp at hL;by_cases h3:x≤1/\y≤1/\x ≠ y
  ·obtain ⟨h4,h5,h6⟩:=h3;rw [if_pos (by simp [h4,h5,h6])] at hs;have hnx:=congrArg qak hs;simp only [qak,List.map_append,List.map_cons,List.map_nil] at hnx q2;rw [<- q2] at hnx;rcases acc with _ | ⟨g,r⟩
   ·simp [hja,hjb,hx,hy,u8V,h4,h5,h6,qbe,qbf];intro ga gb;exact .done ⟨j + 1,some (gb 41,[.int .i64 (j:Int)]),⟨hj,by simpa [qa3,qaa,qak] using hnx.symm,by simp⟩,by simp [hw],by simp,by omega⟩
   ·simp [hja,hjb,hx,hy,u8V,h4,h5,h6,qbe,qbf];intro ga gb;refine ⟨by simp only [qa3] at hL; omega,.done ⟨j + 1,some (gb 41,r ++ [.int .i64 (j:Int)]),⟨hj,by simpa [qa3,qaa,qak] using hnx.symm,by simp⟩,by simp [hw],by simp,by omega⟩⟩
  ·have hb:(decide (x≤1) && decide (y≤1) && decide (x ≠ y)) = false:=by
    rw [Bool.eq_false_iff]; intro he; simp at he; exact h3 ⟨he.1.1,he.1.2,he.2⟩
   rw [if_neg (by rw [hb]; simp)] at hs
   have hcase:¬ x≤1∨(x≤1/\¬ y≤1)∨(x≤1/\y≤1/\x = y):=by
    by_cases p:x≤1 <;> by_cases p2:y≤1 <;> by_cases p3:x = y <;> simp_all
   have hsub:Sub (qbf 41 1 acc) (qbf 41 1 acc):=by rcases acc with _ | ⟨g,r⟩ <;> simp [qbf]
   rcases hcase with p | ⟨p,p2⟩ | ⟨p,p2,p3⟩
   ·simp [hja,hx,u8V,p];exact .done ⟨j + 1,acc,⟨hj,by rw [hs]; exact q2,fun e=>by rw [hs]; exact q3 e⟩,by simp [hw],hsub,by omega⟩
   ·simp [hja,hjb,hx,hy,u8V,p,p2];exact .done ⟨j + 1,acc,⟨hj,by rw [hs]; exact q2,fun e=>by rw [hs]; exact q3 e⟩,by simp [hw],hsub,by omega⟩
   ·subst p3;simp [hja,hjb,hx,hy,u8V,p];exact .done ⟨j + 1,acc,⟨hj,by rw [hs]; exact q2,fun e=>by rw [hs]; exact q3 e⟩,by simp [hw],hsub,by omega⟩
 ·have hj:j = M:=by have:=ji9 h; omega
  subst hj;have hcl:=q25 (qp3 a b j) none;have hlen:=qmb a b j;generalize qp3 a b j = C at q2 q3 hcl hlen ⊢;rcases acc with _ | ⟨g,r⟩
  ·have hC:=q3 rfl;subst hC;have hcl0:=qad.wide hcl (args:=[.nil]) ⟨VLe.nil',trivial⟩ (.refl _);simp [qbe,qbf];refine .mk [(5,.nil)] [] (by simp) (by simp) (.done ?_);simp;refine ji0 hcl0 rfl ?_;simp [qak]
  ·simp only [qa3] at q2;subst q2;simp [qbe,qbf];refine .mk [(5,.ref 41 g 0 C.length none)] [(41,.row g 1 (qak C))] (by simp) (by simp) (.frz (g:=g) (sz:=1) (es:=qak C) 41 (by simp) (qbc C) (.done ?_));have hCt:List.take C.length (qak C) = qak C:=jjc (by simp);simp [fzF,fzH,fzV,fzf,hCt];refine ji0 hcl (by simp [qbc]) ?_;simp [qah,qbc]
theorem qyz (O S O2 S2:List Nat) (h1:O.length < 1000000) (h2:S.length < 1000000):qad Tryz.prog gl0 116 [qfg O S,qfg O2 S2] (.tup [.sl (qak (cons O O2)) (some (cons O O2).length),.sl (qak (cons S S2)) (some (cons S S2).length)]):=by
 have c1:=qli O O2 (some O.length) (some O2.length) (by omega);have c2:=qli S S2 (some S.length) (some S2.length) (by omega);generalize cons O O2 = A at c1 ⊢;generalize cons S S2 = B at c2 ⊢;refine ji4 2 jeg rfl ?_;simp [i116,x116,qfg];intro gf1 gf2 gm
 first | refine ⟨_,_,_,.pure c1 (by simp),?_⟩ | refine ⟨_,⟨_,_,.pure c1 (by simp)⟩,?_⟩ | refine ⟨_,_,⟨_,.pure c1 (by simp)⟩,?_⟩
 simp
 first | refine ⟨_,_,_,.pure c2 (by simp),?_⟩ | refine ⟨_,⟨_,_,.pure c2 (by simp)⟩,?_⟩ | refine ⟨_,_,⟨_,.pure c2 (by simp)⟩,?_⟩
 simp [qah,qbc]
 try rfl
def qh3 (O S O2 S2:List Nat):Bool:=decide (0 < (cons O O2).length + (cons S S2).length)
theorem qrl (a b:List Nat):(cons a b).length≤a.length:=by
 unfold cons;have:=qmb a b (min a.length b.length);omega
theorem q91 (O S O2 S2:List Nat) (h1:O.length < 1000000) (h2:S.length < 1000000):qad Tryz.prog gl0 78 [qfg O S,qfg O2 S2] (.bool (qh3 O S O2 S2)):=by
 have hd:=qyz O S O2 S2 h1 h2;have l1:=qrl O O2;have l2:=qrl S S2;unfold qh3;generalize cons O O2 = A at hd l1 ⊢;generalize cons S S2 = B at hd l2 ⊢;obtain ⟨m,hm⟩:∃ m,A.length + B.length = m:=⟨_,rfl⟩;have hw:IntKind.i64.wrap ((A.length:Int) + (B.length:Int)) = (m:Int):=by rw [qaw] <;> omega
 rw [hm];simp only [qfg] at hd;refine ji4 2 ok78 rfl ?_;simp [i78,x78,qfg];intro gf1 gf2;refine ji0 hd (by simp) ?_;simp [hw]
theorem qz3 (c:Ci) (f:Nat->Nat):(qj7 c f).length = c.o.length:=by simp [qj7]
theorem qz4 (c:Ci) (f:Nat->Nat):(qkx c f).length = cnt 14 c.n:=by simp [qkx,cnt]
end
section
open Go
theorem q4y (f:Ft):FnV (.fn 155 [] [.iptr f.w 0]) (fun _=>f.v):=⟨155,_,rfl,rfl,fun v _=>by
 show qad Tryz.prog gl0 155 [u8V v,.iptr f.w 0] (u8V f.v);refine ji4 2 je0 rfl ?_;simp [i155,x155,u8V,Ft.w]⟩
def CyK (c:Ci) (NF PF:V) (v:V) (h:Hp):Prop:=∃ g,v = .ptr 0 g 0 0/\h = [(0,.row g 7 [cyV c .nil NF PF])]
theorem qoj (c:Ci) (f:Ft) (hm:f.m = 0) (l:List V) (cap:Option Nat) (hl:jhf l = true):qbw Tryz.prog gl0 114 [c.v,f.w,.sl l cap] (CyK c (nfV f (.fn 155 [] [.iptr f.w 0])) (pfV f (.fn 155 [] [.iptr f.w 0]))):=by
 have hat:=jcr c f _ _ (q4y f);have hNW:FnW (nfV f _) _:=jcp f _ _ (q4y f);have hPQ:FnQ (pfV f _) _:=jcq f _ _ (q4y f);have hnp:=qrv hNW;have hpp:=qru hPQ;clear hNW hPQ;generalize hNF:nfV f (.fn 155 [] [.iptr f.w 0]) = NF at hat hnp ⊢;generalize hPF:pfV f (.fn 155 [] [.iptr f.w 0]) = PF at hat hpp ⊢;have hcyp:=qrm (c:=c) hnp hpp;refine ji6 jee rfl ?_;simp [i114,x114,u8V,hm,qaa];intro gf1 gf2 gf3 gm;refine ⟨by decide,?_⟩;refine jio 4 (g:=gf2 4) (sz:=5) (es:=[f.w]) (by simp) (by simp) ?_;simp [fzV,V.mapR,jhh,fzp,fzH,Blk.fz,qar _ (qb1 c),qah,hl];refine CallO.own 900 hat (by simp [jhf,V.pure]) (by simp) ?_;rintro v h ⟨g0,rfl,rfl⟩ gf8;simp [upH,upS,Blk.rn,qd0 _ hcyp];generalize gf8 900 + g0 = gx;refine .move 900 0 _ (by simp) (by simp; rfl) fun g'=>.done ?_;simp [qd0 _ hcyp];exact ⟨[(0,.row g' 7 [cyV c .nil NF PF])],by simp,g',rfl,rfl⟩
theorem q07 (c:Ci) (hg:c.good) (f:Ft) (hfc:qad Tryz.prog gl0 43 [c.v,f.w] (.int .i64 0)) (hm:f.m ≠ 1) (p:Pt) (hp:p.fit c) (W:Nat->Nat->Nat) (Q:Nat->Nat->Nat->Nat) (NX PX:V) (hNW:FnW NX W) (hPQ:FnQ PX Q) (hW3:q6f W)
    (hfa:qbw Tryz.prog gl0 114 [c.v,f.w,.sl (tU c.n.length (qb8 c p)) (some c.n.length)] (CyK c NX PX)) :
    qad Tryz.prog gl0 77 [c.v,f.w,p.v] (.tup [qfg (qj7 c (qb8 c p)) (qkx c (qb8 c p)),qfg (qfe c (qio c W Q p)) (qff c Q (qio c W Q p)),.sl (tU c.n.length (qio c W Q p)) (some c.n.length),.int .i64 0]):=by
  have r1:=q0i c hg p hp;have hrun:=fun g=>q64 c hg p hp W Q NX PX hNW hPQ hW3 g;have hnp:=qrv hNW;have hpp:=qru hPQ;generalize qio c W Q p = M at hrun ⊢;generalize qb8 c p = A at r1 hfa ⊢;generalize qj7 c A = O1 at r1 ⊢;generalize qkx c A = S1 at r1 ⊢;have hcyp:=qrm (c:=c) hnp hpp;have hin1:V.inB [900,29] (cyV c .nil NX PX) = true:=jhq _ _ hcyp
  have hin2:∀ g2 N,V.inB [900,29] (cyV c (.ref 29 g2 0 N (some N)) NX PX) = true:=fun g2 N=>by
    simp [cyV,V.inB,jhj,jhq _ _ hnp,jhq _ _ hpp,jhg _ _ (qaf _),jhg _ _ (qer _),jhg _ _ (qag _),jhg _ _ (qae _)]
  generalize qfe c M = MO at hrun ⊢;generalize qff c Q M = MS at hrun ⊢;have hm':¬ ((f.m:Int) = 1):=by omega
  simp only [qfg,Pt.v,u8V] at r1 hrun ⊢;simp only [Ft.w,u8V,qaa] at hfc hfa;refine ji4 2 ok77 rfl ?_;simp [i77,x77,u8V,qaa];intro gf1 gf2 gf3 gf4 gf5;refine ji0 hfc (by simp) ?_;simp [u8V,hm'];refine ji0 r1 (by simp) ?_;simp
  refine CallO.own 900 hfa (by have ht:jhf (tab c.n.length fun i => V.int IntKind.u8 (A i:Int)) = true := qbr _ _
                               simp [jhf,V.pure,u8V,qaa,ht]) (by simp) ?_
  rintro v h ⟨g0,rfl,rfl⟩ gf8;simp [upH,upS,Blk.rn,qd0 _ hcyp];generalize gf8 900 + g0 = gx
  refine CallO.lend [900,29] [(900,.row gx 7 [cyV c .nil NX PX])] [(6,.row (gf4 6) 2 [.agg [.sl (O1.map u8V) (some O1.length),.sl (S1.map u8V) (some S1.length)]]),(7,.row (gf5 7) 2 [.agg [.nil,.nil]])]
    (hrun gx) (by simp [jhg]) (by simp) (by simp [qbu,Blk.inB,hin1,jhj]) (by simp) (by simp) ?_
  rintro v h ⟨rfl,g2,rfl⟩;refine ⟨by simp [V.inB,jhj,jhg _ _ (qab _)],by simp [qbu,Blk.inB,jhj,hin2,jhg _ _ (qbr _ _)],?_⟩;simp;intro gm3;simp [nop,qah,qbb (qbr _ _)]
  first | exact ⟨rfl,jjc (by simp)⟩ | exact rfl
theorem q7a (c:Ci) (_hg:c.good) (f:Ft) (p:Pt) (O S O2 S2:List Nat) (L:V) (h1:O.length < 1000000) (h2:S.length < 1000000)
  (hb:qad Tryz.prog gl0 77 [c.v,f.w,p.v] (.tup [qfg O S,qfg O2 S2,L,.int .i64 0])):qad Tryz.prog gl0 35 [c.v,f.w,p.v] (.tup [.bool (qh3 O S O2 S2),.int .i64 0]):=by
 have hs:=q91 O S O2 S2 h1 h2;generalize qh3 O S O2 S2 = PB at hs ⊢;simp only [qfg,Pt.v] at hb hs ⊢;refine ji4 2 ok35 rfl ?_;simp [i35,x35];intro gf1 gf2 gf3;refine ji0 hb (by simp [qaa,u8V]) ?_;simp;intro gf5 gf6;refine ji0 hs (by simp) ?_;simp
theorem q7b (c:Ci) (hg:c.good) (f:Ft) (hf:f.ok c) (hm:f.m = 0) (p:Pt) (hp:p.fit c):qad Tryz.prog gl0 35 [c.v,f.w,p.v]
  (.tup [.bool (qh3 (qj7 c (qb8 c p)) (qkx c (qb8 c p)) (qfe c (qio c (atW f fun _=>f.v) (atQ f fun _=>f.v) p)) (qff c (atQ f fun _=>f.v) (qio c (atW f fun _=>f.v) (atQ f fun _=>f.v) p))),.int .i64 0]):=by
 have hno:c.o.length≤16384:=(qkh hg.sh).2.2.2;have hn1:=hg.n1;have l1:=qbn 14 c.n;have e1:=qz3 c (qb8 c p);have e2:=qz4 c (qb8 c p);have hv:=hf.v
 exact q7a c hg f p _ _ _ _ _ (by omega) (by omega) (q07 c hg f (qmq c hg f hf) (by omega) p hp _ _ _ _ (jcp f _ _ (q4y f)) (jcq f _ _ (q4y f)) (q03 f _ fun _=>by omega)
  (qoj c f hm _ _ (qbr _ _)))
end
section
open Go
theorem q68 {lo hi:Nat} (h:lo = 0/\hi = 1∨lo = 1/\hi = 0):∀ (l:List Nat) (out:Nat),(∀ v ∈ l,v≤1)->out≤1->dec lo hi out l≤1
 | [],out,_,h1=>h1
 | v :: l,out,hl,h1=>by
  have hv:=hl v List.mem_cons_self;rw [dec];split
  ·omega
  split
  ·exact q68 h l out (fun x hx=>hl x (List.mem_cons_of_mem _ hx)) h1
  ·omega
theorem jci:∀ (l:List Nat) (out:Nat),(∀ v ∈ l,v≤1)->out≤1->qns out l≤1
 | [],out,_,h1=>h1
 | v :: l,out,hl,h1=>by
  have hv:=hl v List.mem_cons_self;have hr:∀ x ∈ l,x≤1:=fun x hx=>hl x (List.mem_cons_of_mem _ hx);rw [qns];split
  ·exact jci l out hr h1
  split
  ·exact jci l (1 - out) hr (by omega)
  ·omega
theorem jbe {v:Nat} (h:v≤1):qo1 v≤1:=by unfold qo1; rw [if_pos h]; omega
theorem qvm {l:List Nat} (hl:∀ v ∈ l,v≤1) (i:Nat):l.getD i 0≤1:=by
 by_cases h:i < l.length
 ·rw [jja,jje h]; exact hl _ (jjd h)
 ·rw [jja,List.getElem?_eq_none (by omega)]; simp
theorem jdc {k:Nat} (h0:1≤k) (h1:k≤11) {l:List Nat} (hl:∀ v ∈ l,v≤1):qdo k l≤1:=by
 have hc:k = 1∨k = 2∨k = 3∨k = 4∨k = 5∨k = 6∨k = 7∨k = 8∨k = 9∨k = 10∨k = 11:=by omega
 have g0:=qvm hl 0;have g1:=qvm hl 1;have g2:=qvm hl 2;rcases hc with rfl | rfl | rfl | rfl | rfl | rfl | rfl | rfl | rfl | rfl | rfl
 ·simp [qdo]
 ·simp [qdo]
 ·show rdN (l.getD 0 0)≤1;unfold rdN; omega
 ·exact jbe g0
 ·exact q68 (.inl ⟨rfl,rfl⟩) l 1 hl (by omega)
 ·exact jbe (q68 (.inl ⟨rfl,rfl⟩) l 1 hl (by omega))
 ·exact q68 (.inr ⟨rfl,rfl⟩) l 0 hl (by omega)
 ·exact jbe (q68 (.inr ⟨rfl,rfl⟩) l 0 hl (by omega))
 ·exact jci l 0 hl (by omega)
 ·exact jbe (jci l 0 hl (by omega))
 ·show qtw (l.getD 0 0) (l.getD 1 0) (l.getD 2 0)≤1;unfold qtw rdN;split
  ·omega
  split
  ·omega
  ·omega
theorem q8m {k:Int} (h0:1≤k) (h1:k≤11) {l:List Nat} (hw:qir k l.length = true) (hl:∀ v ∈ l,v≤1):qow k.toNat l≤1:=by
 obtain ⟨m,rfl⟩:∃ m:Nat,k = (m:Int):=⟨k.toNat,by omega⟩;simp only [qir,Bool.and_eq_true,decide_eq_true_eq] at hw;unfold qow;rw [Int.toNat_natCast,if_neg (by omega)];exact jdc (by omega) (by omega) hl
def Ci.plain (c:Ci):Prop:=∀ n,n < c.n.length->qbx c n = true->1≤(c.nd n).k/\(c.nd n).k≤11/\qir (c.nd n).k (c.nd n).i.length = true
theorem evl1 {c:Ci} (hk:c.plain):∀ (L:List Nat) (f:Nat->Nat),(∀ n ∈ L,n < c.n.length)->(∀ i,f i≤1)->∀ i,evl (qyb c) (qbx c) L f i≤1
 | [],_,_,h,i=>h i
 | m :: L,f,hL,h,i=>by
  rw [evl];refine evl1 hk L _ (fun n hn=>hL n (List.mem_cons_of_mem _ hn)) (fun j=>?_) i;split
  ·rename_i hm;by_cases hj:j = m
   ·subst hj;rw [qbl];obtain ⟨h1,h2,h3⟩:=hk j (hL j List.mem_cons_self) hm;refine q8m h1 h2 ?_ fun v hv=>?_
    ·rw [qjv hm]; simpa using h3
    ·obtain ⟨x,-,rfl⟩:=List.mem_map.1 hv; exact h x
   ·rw [qa0 _ _ hj]; exact h j
  ·exact h j
theorem q9p:∀ (ns vs:List Nat) (f:Nat->Nat),(∀ v ∈ vs,v≤1)->(∀ i,f i≤1)->∀ i,put ns vs f i≤1
 | [],_,_,_,h,i=>h i
 | _ :: _,[],_,_,h,i=>h i
 | n :: ns,v :: vs,f,hv,h,i=>by
  rw [put];refine q9p ns vs _ (fun x hx=>hv x (List.mem_cons_of_mem _ hx)) (fun j=>?_) i;by_cases hj:j = n
  ·subst hj; rw [qbl]; exact hv v List.mem_cons_self
  ·rw [qa0 _ _ hj]; exact h j
def Pt.kn (p:Pt):Prop:=(∀ x ∈ p.i,x≤1)/\∀ x ∈ p.s,x≤1
theorem net1 {c:Ci} (hg:c.good) (hk:c.plain) {p:Pt} (hp:p.kn) (n:Nat):qb8 c p n≤1:=
 evl1 hk _ _ hg.ord.r.lt (q9p _ _ _ hp.2 (q9p _ _ _ hp.1 fun _=>by omega)) n
theorem qoc (a:List Nat):cons a a = []:=by
 unfold cons qp3;rw [List.filter_eq_nil_iff];intro i _;simp [qsw]
theorem qxa (O S:List Nat):qh3 O S O S = false:=by unfold qh3; rw [qoc,qoc]; rfl
theorem qit {v:Nat} (h:v≤3):qd1 v = v:=by unfold qd1; rw [if_neg (by omega)]
theorem jd0 {c:Ci} {p:Pt} (hp:p.fit c) (n:Nat):qb8 c p n≤3:=by
 rw [qr5];exact qp8 (fun _ _ h=>h) _ _ (q1t hp) n
end
end Go.Proofs.YtpaopccohkldlaaGreatDoor
