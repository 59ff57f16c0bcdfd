/- Lemmas. Conditions: none. -/
import Derived.Test.YtpaopccohkldlaaGreatDoorJ4
import Derived.Test.YtpaopccohkldlaaGreatDoorXT
set_option linter.all false
namespace Go.Proofs.YtpaopccohkldlaaGreatDoor
section
open Go
theorem q0t (f:Ft) (G:Nat->Nat) (hG:∀ v,G v≤3):q5p (atW f G):=fun n v hv=>by unfold atW; split; exact hG v; exact hv
def nfV (f:Ft) (F:V):V:=if f.q = 0 then .fn 189 [] [.iptr f.ln 0,.iptr F 0] else .fn 188 [] []
def pfV (f:Ft) (F:V):V:=if f.q = 0 then .fn 151 [] [] else .fn 190 [] [.iptr f.ln 0,.iptr F 0]
theorem jbq (c:Ci) (f:Ft) (F:V) (G:Nat->Nat) (hF:FnV F G):qbw Tryz.prog gl0 153 [c.v,f.ln,F] (fun v h=>∃ g,v = .ptr 0 g 0 0/\h = [(0,.row g 7 [cyV c .nil (nfV f F) (pfV f F)])]):=jbr c f F G hF
theorem qrw {F:V} {W:Nat->Nat->Nat} (h:FnW F W):F.pure = true:=by obtain ⟨f,x,rfl,h,-⟩:=h; simp [V.pure,jf8,h]
theorem qrv {F:V} {Q:Nat->Nat->Nat->Nat} (h:FnQ F Q):F.pure = true:=by obtain ⟨f,x,rfl,h,-⟩:=h; simp [V.pure,jf8,h]
theorem qro {c:Ci} {a b:V} (h1:a.pure = true) (h2:b.pure = true):(cyV c .nil a b).pure = true:=by simp [cyV,V.pure,jf8,h1,h2]
end
section
open Go
def q4t (a b:List Nat) (i:Nat):Bool:=decide (a.getD i 0≤1) && decide (b.getD i 0≤1) && decide (a.getD i 0 ≠ b.getD i 0)
def qsu (a b:List Nat) (n:Nat):List Nat:=(List.range n).filter (q4t a b)
theorem qup (a b:List Nat) (n:Nat):qsu a b (n + 1) = if q4t a b n = true then qsu a b n ++ [n] else qsu a b n:=by
 unfold qsu;rw [List.range_succ,List.filter_append];by_cases h:q4t a b n = true
 ·rw [if_pos h]; simp [h]
 ·rw [if_neg h]; simp [h]
theorem qma (a b:List Nat) (n:Nat):(qsu a b n).length≤n:=by
 unfold qsu;have:=List.length_filter_le (q4t a b) (List.range n);simpa using this
def cons (a b:List Nat):List Nat:=qsu a b (min a.length b.length)
theorem q2h (l:List Nat) (cap:Option Nat):qac Tryz.prog gl0 131 [.sl (qae l) cap] (.sl (qae l) (some l.length)):=by
 refine jhu 2 q3k rfl ?_;simp [q9x,jbe];rw [jh2 (by simp)];exact qag _ (qa3 l)
theorem qlh (a b:List Nat) (ca cb:Option Nat) (hl:a.length < 1000000000):qac Tryz.prog gl0 158 [.sl (a.map u8V) ca,.sl (b.map u8V) cb] (.sl (qae (cons a b)) (some (cons a b).length)):=by
 unfold cons;obtain ⟨M,hM⟩:∃ M,min a.length b.length = M:=⟨_,rfl⟩;have hMi:(min (a.length:Int) (b.length:Int)) = (M:Int):=by omega
 rw [hM];refine jhu 2 jdr rfl ?_;simp [i158,x158,hMi]
 refine jgv (X:=Nat × Option (Nat × List V)) (fun z=>[(12,qaa z.1),(11,qaa M),(5,qbl 41 z.2),(0,.sl (a.map u8V) ca),(1,.sl (b.map u8V) cb)]) (fun z=>qbj 41 1 z.2)
  (fun z=>z.1≤M/\qa5 z.2 = qae (qsu a b z.1)/\(z.2 = none->qsu a b z.1 = [])) (fun z=>M - z.1) (.done ⟨(0,none),⟨by simp,by simp [qa5,qsu,qae],by simp [qsu]⟩,by simp [qaa,qbl],by simp [qbj]⟩) ?_
 rintro ⟨j,acc⟩ ⟨q1,q2,q3⟩;dsimp only at q1 q2 q3 ⊢;simp [qaa];refine jhr (fun h=>?_) (fun h=>?_)
 ·have hj:j < M:=jhy h;have hja:j < a.length:=by omega
  have hjb:j < b.length:=by omega
  have hw:=qbb j (by omega);obtain ⟨x,hx⟩:∃ x,a[j] = x:=⟨_,rfl⟩;obtain ⟨y,hy⟩:∃ y,b[j] = y:=⟨_,rfl⟩
  have hc:q4t a b j = (decide (x≤1) && decide (y≤1) && decide (x ≠ y)):=by
   unfold q4t;rw [jh0,jh4 hja,hx,jh0,jh4 hjb,hy]; rfl
  have hs:=qup a b j;have hcl:=qma a b j;rw [hc] at hs;have hL:=congrArg List.length q2;simp at hL;by_cases h3:x≤1/\y≤1/\x ≠ y
  ·obtain ⟨h4,h5,h6⟩:=h3;rw [if_pos (by simp [h4,h5,h6])] at hs;have hnx:=congrArg qae hs;simp only [qae,List.map_append,List.map_cons,List.map_nil] at hnx q2;rw [<- q2] at hnx;rcases acc with _ | ⟨g,r⟩
   ·simp [hja,hjb,hx,hy,u8V,h4,h5,h6,qbl,qbj];intro ga gb;exact .done ⟨j + 1,some (gb 41,[.int .i64 (j:Int)]),⟨hj,by simpa [qa5,qaa,qae] using hnx.symm,by simp⟩,by simp [hw],by simp,by omega⟩
   ·simp [hja,hjb,hx,hy,u8V,h4,h5,h6,qbl,qbj];intro ga gb;refine ⟨by simp only [qa5] at hL; omega,.done ⟨j + 1,some (gb 41,r ++ [.int .i64 (j:Int)]),⟨hj,by simpa [qa5,qaa,qae] using hnx.symm,by simp⟩,by simp [hw],by simp,by omega⟩⟩
  ·have hb:(decide (x≤1) && decide (y≤1) && decide (x ≠ y)) = false:=by
    rw [Bool.eq_false_iff]; intro he; simp at he; exact h3 ⟨he.1.1,he.1.2,he.2⟩
   rw [if_neg (by rw [hb]; simp)] at hs
   have hcase:¬ x≤1∨(x≤1/\¬ y≤1)∨(x≤1/\y≤1/\x = y):=by
    by_cases p:x≤1 <;> by_cases p2:y≤1 <;> by_cases p3:x = y <;> simp_all
   have hsub:Sub (qbj 41 1 acc) (qbj 41 1 acc):=by rcases acc with _ | ⟨g,r⟩ <;> simp [qbj]
   rcases hcase with p | ⟨p,p2⟩ | ⟨p,p2,p3⟩
   ·simp [hja,hx,u8V,p];exact .done ⟨j + 1,acc,⟨hj,by rw [hs]; exact q2,fun e=>by rw [hs]; exact q3 e⟩,by simp [hw],hsub,by omega⟩
   ·simp [hja,hjb,hx,hy,u8V,p,p2];exact .done ⟨j + 1,acc,⟨hj,by rw [hs]; exact q2,fun e=>by rw [hs]; exact q3 e⟩,by simp [hw],hsub,by omega⟩
   ·subst p3;simp [hja,hjb,hx,hy,u8V,p];exact .done ⟨j + 1,acc,⟨hj,by rw [hs]; exact q2,fun e=>by rw [hs]; exact q3 e⟩,by simp [hw],hsub,by omega⟩
 ·have hj:j = M:=by have:=jhz h; omega
  subst hj;have hcl:=q2h (qsu a b j) none;have hlen:=qma a b j;generalize qsu a b j = C at q2 q3 hcl hlen ⊢;rcases acc with _ | ⟨g,r⟩
  ·have hC:=q3 rfl;subst hC;have hcl0:=qac.wide hcl (args:=[.nil]) ⟨VLe.nil',trivial⟩ (.refl _);simp [qbl,qbj];refine .mk [(5,.nil)] [] (by simp) (by simp) (.done ?_);simp;refine jhq hcl0 rfl ?_;simp [qae]
  ·simp only [qa5] at q2;subst q2;simp [qbl,qbj];refine .mk [(5,.ref 41 g 0 C.length none)] [(41,.row g 1 (qae C))] (by simp) (by simp) (.frz (g:=g) (sz:=1) (es:=qae C) 41 (by simp) (qa3 C) (.done ?_));have hCt:List.take C.length (qae C) = qae C:=jh2 (by simp);simp [fzF,fzH,fzV,fzf,hCt];refine jhq hcl (by simp [qa3]) ?_;simp [qag,qa3]
theorem qyw (O S O2 S2:List Nat) (h1:O.length < 1000000) (h2:S.length < 1000000):qac Tryz.prog gl0 116 [qfl O S,qfl O2 S2] (.tup [.sl (qae (cons O O2)) (some (cons O O2).length),.sl (qae (cons S S2)) (some (cons S S2).length)]):=by
 have c1:=qlh O O2 (some O.length) (some O2.length) (by omega);have c2:=qlh S S2 (some S.length) (some S2.length) (by omega);generalize cons O O2 = A at c1 ⊢;generalize cons S S2 = B at c2 ⊢;refine jhu 2 jc4 rfl ?_;simp [i116,x116,qfl];intro gf1 gf2 gm
 first | refine ⟨_,_,_,.pure c1 (by simp),?_⟩ | refine ⟨_,⟨_,_,.pure c1 (by simp)⟩,?_⟩ | refine ⟨_,_,⟨_,.pure c1 (by simp)⟩,?_⟩
 simp
 first | refine ⟨_,_,_,.pure c2 (by simp),?_⟩ | refine ⟨_,⟨_,_,.pure c2 (by simp)⟩,?_⟩ | refine ⟨_,_,⟨_,.pure c2 (by simp)⟩,?_⟩
 simp [qag,qa3]
 try rfl
def qqt (O S O2 S2:List Nat):Bool:=decide (0 < (cons O O2).length + (cons S S2).length)
theorem qrn (a b:List Nat):(cons a b).length≤a.length:=by
 unfold cons;have:=qma a b (min a.length b.length);omega
theorem q82 (O S O2 S2:List Nat) (h1:O.length < 1000000) (h2:S.length < 1000000):qac Tryz.prog gl0 78 [qfl O S,qfl O2 S2] (.bool (qqt O S O2 S2)):=by
 have hd:=qyw O S O2 S2 h1 h2;have l1:=qrn O O2;have l2:=qrn S S2;unfold qqt;generalize cons O O2 = A at hd l1 ⊢;generalize cons S S2 = B at hd l2 ⊢;obtain ⟨m,hm⟩:∃ m,A.length + B.length = m:=⟨_,rfl⟩;have hw:IntKind.i64.wrap ((A.length:Int) + (B.length:Int)) = (m:Int):=by rw [qar] <;> omega
 rw [hm];simp only [qfl] at hd;refine jhu 2 ok78 rfl ?_;simp [i78,x78,qfl];intro gf1 gf2;refine jhq hd (by simp) ?_;simp [hw]
theorem qzw (c:Ci) (f:Nat->Nat):(qqk c f).length = c.o.length:=by simp [qqk]
theorem qzx (c:Ci) (f:Nat->Nat):(qql c f).length = cnt 14 c.n:=by simp [qql,cnt]
end
section
open Go
theorem q35 (f:Ft):FnV (.fn 155 [] [.iptr f.w 0]) (fun _=>f.v):=⟨155,_,rfl,rfl,fun v _=>by
 show qac Tryz.prog gl0 155 [u8V v,.iptr f.w 0] (u8V f.v);refine jhu 2 jdo rfl ?_;simp [i155,x155,u8V,Ft.w]⟩
def CyK (c:Ci) (NF PF:V) (v:V) (h:Hp):Prop:=∃ g,v = .ptr 0 g 0 0/\h = [(0,.row g 7 [cyV c .nil NF PF])]
theorem qn7 (c:Ci) (f:Ft) (hm:f.m = 0) (l:List V) (cap:Option Nat) (hl:jf8 l = true):qbw Tryz.prog gl0 114 [c.v,f.w,.sl l cap] (CyK c (nfV f (.fn 155 [] [.iptr f.w 0])) (pfV f (.fn 155 [] [.iptr f.w 0]))):=by
 have hat:=jbq c f _ _ (q35 f);have hNW:FnW (nfV f _) _:=jbo f _ _ (q35 f);have hPQ:FnQ (pfV f _) _:=jbp f _ _ (q35 f);have hnp:=qrw hNW;have hpp:=qrv hPQ;clear hNW hPQ;generalize hNF:nfV f (.fn 155 [] [.iptr f.w 0]) = NF at hat hnp ⊢;generalize hPF:pfV f (.fn 155 [] [.iptr f.w 0]) = PF at hat hpp ⊢;have hcyp:=qro (c:=c) hnp hpp;refine jhw jc2 rfl ?_;simp [i114,x114,u8V,hm,qaa];intro gf1 gf2 gf3 gm;refine ⟨by decide,?_⟩;refine jhg 4 (g:=gf2 4) (sz:=5) (es:=[f.w]) (by simp) (by simp) ?_;simp [fzV,V.mapR,jga,fzp,fzH,Blk.fz,qaq _ (qb7 c),qag,hl];refine CallO.own 900 hat (by simp [jf8,V.pure]) (by simp) ?_;rintro v h ⟨g0,rfl,rfl⟩ gf8;simp [upH,upS,Blk.rn,qdk _ hcyp];generalize gf8 900 + g0 = gx;refine .move 900 0 _ (by simp) (by simp; rfl) fun g'=>.done ?_;simp [qdk _ hcyp];exact ⟨[(0,.row g' 7 [cyV c .nil NF PF])],by simp,g',rfl,rfl⟩
theorem q0v (c:Ci) (hg:c.good) (f:Ft) (hfc:qac Tryz.prog gl0 43 [c.v,f.w] (.int .i64 0)) (hm:f.m ≠ 1) (p:Pt) (hp:p.fit c) (W:Nat->Nat->Nat) (Q:Nat->Nat->Nat->Nat) (NX PX:V) (hNW:FnW NX W) (hPQ:FnQ PX Q) (hW3:q5p W)
    (hfa:qbw Tryz.prog gl0 114 [c.v,f.w,.sl (tU c.n.length (qgt c p)) (some c.n.length)] (CyK c NX PX)) :
    qac Tryz.prog gl0 77 [c.v,f.w,p.v] (.tup [qfl (qqk c (qgt c p)) (qql c (qgt c p)),qfl (qjz c (qnj c W Q p)) (qj0 c Q (qnj c W Q p)),.sl (tU c.n.length (qnj c W Q p)) (some c.n.length),.int .i64 0]):=by
  have r1:=q30 c hg p hp;have hrun:=fun g=>q6d c hg p hp W Q NX PX hNW hPQ hW3 g;have hnp:=qrw hNW;have hpp:=qrv hPQ;generalize qnj c W Q p = M at hrun ⊢;generalize qgt c p = A at r1 hfa ⊢;generalize qqk c A = O1 at r1 ⊢;generalize qql c A = S1 at r1 ⊢;have hcyp:=qro (c:=c) hnp hpp;have hin1:V.inB [900,29] (cyV c .nil NX PX) = true:=jgj _ _ hcyp
  have hin2:∀ g2 N,V.inB [900,29] (cyV c (.ref 29 g2 0 N (some N)) NX PX) = true:=fun g2 N=>by
    simp [cyV,V.inB,jgb,jgj _ _ hnp,jgj _ _ hpp,jf9 _ _ (qb8 _),jf9 _ _ (qew _),jf9 _ _ (qck _),jf9 _ _ (qbs _)]
  generalize qjz c M = MO at hrun ⊢;generalize qj0 c Q M = MS at hrun ⊢;have hm':¬ ((f.m:Int) = 1):=by omega
  simp only [qfl,Pt.v,u8V] at r1 hrun ⊢;simp only [Ft.w,u8V,qaa] at hfc hfa;refine jhu 2 ok77 rfl ?_;simp [i77,x77,u8V,qaa];intro gf1 gf2 gf3 gf4 gf5;refine jhq hfc (by simp) ?_;simp [u8V,hm'];refine jhq r1 (by simp) ?_;simp
  refine CallO.own 900 hfa (by have ht:jf8 (tab c.n.length fun i => V.int IntKind.u8 (A i:Int)) = true := qb6 _ _
                               simp [jf8,V.pure,u8V,qaa,ht]) (by simp) ?_
  rintro v h ⟨g0,rfl,rfl⟩ gf8;simp [upH,upS,Blk.rn,qdk _ hcyp];generalize gf8 900 + g0 = gx
  refine CallO.lend [900,29] [(900,.row gx 7 [cyV c .nil NX PX])] [(6,.row (gf4 6) 2 [.agg [.sl (O1.map u8V) (some O1.length),.sl (S1.map u8V) (some S1.length)]]),(7,.row (gf5 7) 2 [.agg [.nil,.nil]])]
    (hrun gx) (by simp [jf9]) (by simp) (by simp [qbp,Blk.inB,hin1,jgb]) (by simp) (by simp) ?_
  rintro v h ⟨rfl,g2,rfl⟩;refine ⟨by simp [V.inB,jgb,jf9 _ _ (qad _)],by simp [qbp,Blk.inB,jgb,hin2,jf9 _ _ (qb6 _ _)],?_⟩;simp;intro gm3;simp [nop,qag,qa0 (qb6 _ _)]
  first | exact ⟨rfl,jh2 (by simp)⟩ | exact rfl
theorem q6g (c:Ci) (_hg:c.good) (f:Ft) (p:Pt) (O S O2 S2:List Nat) (L:V) (h1:O.length < 1000000) (h2:S.length < 1000000)
  (hb:qac Tryz.prog gl0 77 [c.v,f.w,p.v] (.tup [qfl O S,qfl O2 S2,L,.int .i64 0])):qac Tryz.prog gl0 35 [c.v,f.w,p.v] (.tup [.bool (qqt O S O2 S2),.int .i64 0]):=by
 have hs:=q82 O S O2 S2 h1 h2;generalize qqt O S O2 S2 = PB at hs ⊢;simp only [qfl,Pt.v] at hb hs ⊢;refine jhu 2 ok35 rfl ?_;simp [i35,x35];intro gf1 gf2 gf3;refine jhq hb (by simp [qaa,u8V]) ?_;simp;intro gf5 gf6;refine jhq hs (by simp) ?_;simp
theorem q6h (c:Ci) (hg:c.good) (f:Ft) (hf:f.ok c) (hm:f.m = 0) (p:Pt) (hp:p.fit c):qac Tryz.prog gl0 35 [c.v,f.w,p.v]
  (.tup [.bool (qqt (qqk c (qgt c p)) (qql c (qgt c p)) (qjz c (qnj c (atW f fun _=>f.v) (atQ f fun _=>f.v) p)) (qj0 c (atQ f fun _=>f.v) (qnj c (atW f fun _=>f.v) (atQ f fun _=>f.v) p))),.int .i64 0]):=by
 have hno:c.o.length≤16384:=(qkb hg.sh).2.2.2;have hn1:=hg.n1;have l1:=qb2 14 c.n;have e1:=qzw c (qgt c p);have e2:=qzx c (qgt c p);have hv:=hf.v
 exact q6g c hg f p _ _ _ _ _ (by omega) (by omega) (q0v c hg f (qmn c hg f hf) (by omega) p hp _ _ _ _ (jbo f _ _ (q35 f)) (jbp f _ _ (q35 f)) (q0t f _ fun _=>by omega)
  (qn7 c f hm _ _ (qb6 _ _)))
end
section
open Go
def Ci.plain (c:Ci):Prop:=∀ n,n < c.n.length->qcv c n = true->1≤(c.nd n).k/\(c.nd n).k≤11/\qkn (c.nd n).k (c.nd n).i.length = true
end
end Go.Proofs.YtpaopccohkldlaaGreatDoor
