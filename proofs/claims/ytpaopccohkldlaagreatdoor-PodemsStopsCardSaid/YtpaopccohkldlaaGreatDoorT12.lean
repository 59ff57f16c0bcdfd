/- Lemmas. Conditions: none. -/
import Derived.Test.YtpaopccohkldlaaGreatDoorJ4
import Derived.Test.YtpaopccohkldlaaGreatDoorXP
set_option linter.all false
namespace Go.Proofs.YtpaopccohkldlaaGreatDoor
section
open Go
theorem que (f:Ft) (G:Nat->Nat) (hG:∀ v,G v≤3):jbn (atW f G):=fun n v hv=>by unfold atW; split; exact hG v; exact hv
def nfV (f:Ft) (F:V):V:=if f.q = 0 then .fn 189 [] [.iptr f.ln 0,.iptr F 0] else .fn 188 [] []
def pfV (f:Ft) (F:V):V:=if f.q = 0 then .fn 151 [] [] else .fn 190 [] [.iptr f.ln 0,.iptr F 0]
theorem jjd (c:Ci) (f:Ft) (F:V) (G:Nat->Nat) (hF:FnV F G):qbo Tryz.prog gl0 153 [c.v,f.ln,F] (fun v h=>∃ g,v = .ptr 0 g 0 0/\h = [(0,.row g 7 [cyV c .nil (nfV f F) (pfV f F)])]):=jje c f F G hF
theorem qop {F:V} {W:Nat->Nat->Nat} (h:FnW F W):F.pure = true:=by obtain ⟨f,x,rfl,h,-⟩:=h; simp [V.pure,jos,h]
theorem qoo {F:V} {Q:Nat->Nat->Nat->Nat} (h:FnQ F Q):F.pure = true:=by obtain ⟨f,x,rfl,h,-⟩:=h; simp [V.pure,jos,h]
theorem qoe {c:Ci} {a b:V} (h1:a.pure = true) (h2:b.pure = true):(cyV c .nil a b).pure = true:=by simp [cyV,V.pure,jos,h1,h2]
end
section
open Go
def qwh (a b:List Nat) (i:Nat):Bool:=decide (a.getD i 0≤1) && decide (b.getD i 0≤1) && decide (a.getD i 0 ≠ b.getD i 0)
def qsy (a b:List Nat) (n:Nat):List Nat:=(List.range n).filter (qwh a b)
theorem qyx (a b:List Nat) (n:Nat):qsy a b (n + 1) = if qwh a b n = true then qsy a b n ++ [n] else qsy a b n:=by
 unfold qsy;rw [List.range_succ,List.filter_append];by_cases h:qwh a b n = true
 ·rw [if_pos h]; simp [h]
 ·rw [if_neg h]; simp [h]
theorem qoc (a b:List Nat) (n:Nat):(qsy a b n).length≤n:=by
 unfold qsy;have:=List.length_filter_le (qwh a b) (List.range n);simpa using this
def cons (a b:List Nat):List Nat:=qsy a b (min a.length b.length)
theorem q8l (l:List Nat) (cap:Option Nat):qac Tryz.prog gl0 131 [.sl (qad l) cap] (.sl (qad l) (some l.length)):=by
 refine jqo 2 q93 rfl ?_;simp [jhg,jiu];rw [jqw (by simp)];exact qah _ (qa1 l)
theorem qm8 (a b:List Nat) (ca cb:Option Nat) (hl:a.length < 1000000000):qac Tryz.prog gl0 158 [.sl (a.map u8V) ca,.sl (b.map u8V) cb] (.sl (qad (cons a b)) (some (cons a b).length)):=by
 unfold cons;obtain ⟨M,hM⟩:∃ M,min a.length b.length = M:=⟨_,rfl⟩;have hMi:(min (a.length:Int) (b.length:Int)) = (M:Int):=by omega
 rw [hM];refine jqo 2 jlh rfl ?_;simp [i158,x158,hMi]
 refine jpi (X:=Nat × Option (Nat × List V)) (fun z=>[(12,qaa z.1),(11,qaa M),(5,qbk 41 z.2),(0,.sl (a.map u8V) ca),(1,.sl (b.map u8V) cb)]) (fun z=>qbl 41 1 z.2)
  (fun z=>z.1≤M/\qa6 z.2 = qad (qsy a b z.1)/\(z.2 = none->qsy a b z.1 = [])) (fun z=>M - z.1) (.done ⟨(0,none),⟨by simp,by simp [qa6,qsy,qad],by simp [qsy]⟩,by simp [qaa,qbk],by simp [qbl]⟩) ?_
 rintro ⟨j,acc⟩ ⟨q1,q2,q3⟩;dsimp only at q1 q2 q3 ⊢;simp [qaa];refine jql (fun h=>?_) (fun h=>?_)
 ·have hj:j < M:=jqs h;have hja:j < a.length:=by omega
  have hjb:j < b.length:=by omega
  have hw:=qaz j (by omega);obtain ⟨x,hx⟩:∃ x,a[j] = x:=⟨_,rfl⟩;obtain ⟨y,hy⟩:∃ y,b[j] = y:=⟨_,rfl⟩
  have hc:qwh a b j = (decide (x≤1) && decide (y≤1) && decide (x ≠ y)):=by
   unfold qwh;rw [jqu,jqy hja,hx,jqu,jqy hjb,hy]; rfl
  have hs:=qyx a b j;have hcl:=qoc a b j;rw [hc] at hs;have hL:=congrArg List.length q2;simp at hL;by_cases h3:x≤1/\y≤1/\x ≠ y
  ·obtain ⟨h4,h5,h6⟩:=h3;rw [if_pos (by simp [h4,h5,h6])] at hs;have hnx:=congrArg qad hs;simp only [qad,List.map_append,List.map_cons,List.map_nil] at hnx q2;rw [<- q2] at hnx;rcases acc with _ | ⟨g,r⟩
   ·simp [hja,hjb,hx,hy,u8V,h4,h5,h6,qbk,qbl];intro ga gb;exact .done ⟨j + 1,some (gb 41,[.int .i64 (j:Int)]),⟨hj,by simpa [qa6,qaa,qad] using hnx.symm,by simp⟩,by simp [hw],by simp,by omega⟩
   ·simp [hja,hjb,hx,hy,u8V,h4,h5,h6,qbk,qbl];intro ga gb;refine ⟨by simp only [qa6] at hL; omega,.done ⟨j + 1,some (gb 41,r ++ [.int .i64 (j:Int)]),⟨hj,by simpa [qa6,qaa,qad] using hnx.symm,by simp⟩,by simp [hw],by simp,by omega⟩⟩
  ·have hb:(decide (x≤1) && decide (y≤1) && decide (x ≠ y)) = false:=by
    rw [Bool.eq_false_iff]; intro he; simp at he; exact h3 ⟨he.1.1,he.1.2,he.2⟩
   rw [if_neg (by rw [hb]; simp)] at hs
   have hcase:¬ x≤1∨(x≤1/\¬ y≤1)∨(x≤1/\y≤1/\x = y):=by
    by_cases p:x≤1 <;> by_cases p2:y≤1 <;> by_cases p3:x = y <;> simp_all
   have hsub:Sub (qbl 41 1 acc) (qbl 41 1 acc):=by rcases acc with _ | ⟨g,r⟩ <;> simp [qbl]
   rcases hcase with p | ⟨p,p2⟩ | ⟨p,p2,p3⟩
   ·simp [hja,hx,u8V,p];exact .done ⟨j + 1,acc,⟨hj,by rw [hs]; exact q2,fun e=>by rw [hs]; exact q3 e⟩,by simp [hw],hsub,by omega⟩
   ·simp [hja,hjb,hx,hy,u8V,p,p2];exact .done ⟨j + 1,acc,⟨hj,by rw [hs]; exact q2,fun e=>by rw [hs]; exact q3 e⟩,by simp [hw],hsub,by omega⟩
   ·subst p3;simp [hja,hjb,hx,hy,u8V,p];exact .done ⟨j + 1,acc,⟨hj,by rw [hs]; exact q2,fun e=>by rw [hs]; exact q3 e⟩,by simp [hw],hsub,by omega⟩
 ·have hj:j = M:=by have:=jqt h; omega
  subst hj;have hcl:=q8l (qsy a b j) none;have hlen:=qoc a b j;generalize qsy a b j = C at q2 q3 hcl hlen ⊢;rcases acc with _ | ⟨g,r⟩
  ·have hC:=q3 rfl;subst hC;have hcl0:=qac.wide hcl (args:=[.nil]) ⟨VLe.nil',trivial⟩ (.refl _);simp [qbk,qbl];refine .mk [(5,.nil)] [] (by simp) (by simp) (.done ?_);simp;refine jqk hcl0 rfl ?_;simp [qad]
  ·simp only [qa6] at q2;subst q2;simp [qbk,qbl];refine .mk [(5,.ref 41 g 0 C.length none)] [(41,.row g 1 (qad C))] (by simp) (by simp) (.frz (g:=g) (sz:=1) (es:=qad C) 41 (by simp) (qa1 C) (.done ?_));have hCt:List.take C.length (qad C) = qad C:=jqw (by simp);simp [fzF,fzH,fzV,fzf,hCt];refine jqk hcl (by simp [qa1]) ?_;simp [qah,qa1]
theorem q3j (O S O2 S2:List Nat) (h1:O.length < 1000000) (h2:S.length < 1000000):qac Tryz.prog gl0 116 [qgq O S,qgq O2 S2] (.tup [.sl (qad (cons O O2)) (some (cons O O2).length),.sl (qad (cons S S2)) (some (cons S S2).length)]):=by
 have c1:=qm8 O O2 (some O.length) (some O2.length) (by omega);have c2:=qm8 S S2 (some S.length) (some S2.length) (by omega);generalize cons O O2 = A at c1 ⊢;generalize cons S S2 = B at c2 ⊢;refine jqo 2 jkt rfl ?_;simp [i116,x116,qgq];intro gf1 gf2 gm
 first | refine ⟨_,_,_,.pure c1 (by simp),?_⟩ | refine ⟨_,⟨_,_,.pure c1 (by simp)⟩,?_⟩ | refine ⟨_,_,⟨_,.pure c1 (by simp)⟩,?_⟩
 simp
 first | refine ⟨_,_,_,.pure c2 (by simp),?_⟩ | refine ⟨_,⟨_,_,.pure c2 (by simp)⟩,?_⟩ | refine ⟨_,_,⟨_,.pure c2 (by simp)⟩,?_⟩
 simp [qah,qa1]
 try rfl
def qje (O S O2 S2:List Nat):Bool:=decide (0 < (cons O O2).length + (cons S S2).length)
theorem quq (a b:List Nat):(cons a b).length≤a.length:=by
 unfold cons;have:=qoc a b (min a.length b.length);omega
theorem jgg (O S O2 S2:List Nat) (h1:O.length < 1000000) (h2:S.length < 1000000):qac Tryz.prog gl0 78 [qgq O S,qgq O2 S2] (.bool (qje O S O2 S2)):=by
 have hd:=q3j O S O2 S2 h1 h2;have l1:=quq O O2;have l2:=quq S S2;unfold qje;generalize cons O O2 = A at hd l1 ⊢;generalize cons S S2 = B at hd l2 ⊢;obtain ⟨m,hm⟩:∃ m,A.length + B.length = m:=⟨_,rfl⟩;have hw:IntKind.i64.wrap ((A.length:Int) + (B.length:Int)) = (m:Int):=by rw [qao] <;> omega
 rw [hm];simp only [qgq] at hd;refine jqo 2 ok78 rfl ?_;simp [i78,x78,qgq];intro gf1 gf2;refine jqk hd (by simp) ?_;simp [hw]
theorem q4x (c:Ci) (f:Nat->Nat):(qnp c f).length = c.o.length:=by simp [qnp]
theorem q4y (c:Ci) (f:Nat->Nat):(qnq c f).length = cnt 14 c.n:=by simp [qnq,cnt]
end
section
open Go
theorem q5q (f:Ft):FnV (.fn 155 [] [.iptr f.w 0]) (fun _=>f.v):=⟨155,_,rfl,rfl,fun v _=>by
 show qac Tryz.prog gl0 155 [u8V v,.iptr f.w 0] (u8V f.v);refine jqo 2 jle rfl ?_;simp [i155,x155,u8V,Ft.w]⟩
def CyK (c:Ci) (NF PF:V) (v:V) (h:Hp):Prop:=∃ g,v = .ptr 0 g 0 0/\h = [(0,.row g 7 [cyV c .nil NF PF])]
theorem qlf (c:Ci) (f:Ft) (hm:f.m = 0) (l:List V) (cap:Option Nat) (hl:jos l = true):qbo Tryz.prog gl0 114 [c.v,f.w,.sl l cap] (CyK c (nfV f (.fn 155 [] [.iptr f.w 0])) (pfV f (.fn 155 [] [.iptr f.w 0]))):=by
 have hat:=jjd c f _ _ (q5q f);have hNW:FnW (nfV f _) _:=jgx f _ _ (q5q f);have hPQ:FnQ (pfV f _) _:=jgy f _ _ (q5q f);have hnp:=qop hNW;have hpp:=qoo hPQ;clear hNW hPQ;generalize hNF:nfV f (.fn 155 [] [.iptr f.w 0]) = NF at hat hnp ⊢;generalize hPF:pfV f (.fn 155 [] [.iptr f.w 0]) = PF at hat hpp ⊢;have hcyp:=qoe (c:=c) hnp hpp;refine jqq jkr rfl ?_;simp [i114,x114,u8V,hm,qaa];intro gf1 gf2 gf3 gm;refine ⟨by decide,?_⟩;refine jp9 4 (g:=gf2 4) (sz:=5) (es:=[f.w]) (by simp) (by simp) ?_;simp [fzV,V.mapR,jow,fzp,fzH,Blk.fz,qbb _ (qc5 c),qah,hl];refine CallO.own 900 hat (by simp [jos,V.pure]) (by simp) ?_;rintro v h ⟨g0,rfl,rfl⟩ gf8;simp [upH,upS,Blk.rn,qez _ hcyp];generalize gf8 900 + g0 = gx;refine .move 900 0 _ (by simp) (by simp; rfl) fun g'=>.done ?_;simp [qez _ hcyp];exact ⟨[(0,.row g' 7 [cyV c .nil NF PF])],by simp,g',rfl,rfl⟩
theorem q6j (c:Ci) (hg:c.good) (f:Ft) (hfc:qac Tryz.prog gl0 43 [c.v,f.w] (.int .i64 0)) (hm:f.m ≠ 1) (p:Pt) (hp:p.fit c) (W:Nat->Nat->Nat) (Q:Nat->Nat->Nat->Nat) (NX PX:V) (hNW:FnW NX W) (hPQ:FnQ PX Q) (hW3:jbn W)
    (hfa:qbo Tryz.prog gl0 114 [c.v,f.w,.sl (tU c.n.length (qbn c p)) (some c.n.length)] (CyK c NX PX)) :
    qac Tryz.prog gl0 77 [c.v,f.w,p.v] (.tup [qgq (qnp c (qbn c p)) (qnq c (qbn c p)),qgq (qgv c (qjy c W Q p)) (qgw c Q (qjy c W Q p)),.sl (tU c.n.length (qjy c W Q p)) (some c.n.length),.int .i64 0]):=by
  have r1:=jgc c hg p hp;have hrun:=fun g=>q6o c hg p hp W Q NX PX hNW hPQ hW3 g;have hnp:=qop hNW;have hpp:=qoo hPQ;generalize qjy c W Q p = M at hrun ⊢;generalize qbn c p = A at r1 hfa ⊢;generalize qnp c A = O1 at r1 ⊢;generalize qnq c A = S1 at r1 ⊢;have hcyp:=qoe (c:=c) hnp hpp;have hin1:V.inB [900,29] (cyV c .nil NX PX) = true:=jo4 _ _ hcyp
  have hin2:∀ g2 N,V.inB [900,29] (cyV c (.ref 29 g2 0 N (some N)) NX PX) = true:=fun g2 N=>by
    simp [cyV,V.inB,jov,jo4 _ _ hnp,jo4 _ _ hpp,jot _ _ (qdq _),jot _ _ (qdw _),jot _ _ (qd7 _),jot _ _ (qcu _)]
  generalize qgv c M = MO at hrun ⊢;generalize qgw c Q M = MS at hrun ⊢;have hm':¬ ((f.m:Int) = 1):=by omega
  simp only [qgq,Pt.v,u8V] at r1 hrun ⊢;simp only [Ft.w,u8V,qaa] at hfc hfa;refine jqo 2 ok77 rfl ?_;simp [i77,x77,u8V,qaa];intro gf1 gf2 gf3 gf4 gf5;refine jqk hfc (by simp) ?_;simp [u8V,hm'];refine jqk r1 (by simp) ?_;simp
  refine CallO.own 900 hfa (by have ht:jos (tab c.n.length fun i => V.int IntKind.u8 (A i:Int)) = true := qbh _ _
                               simp [jos,V.pure,u8V,qaa,ht]) (by simp) ?_
  rintro v h ⟨g0,rfl,rfl⟩ gf8;simp [upH,upS,Blk.rn,qez _ hcyp];generalize gf8 900 + g0 = gx
  refine CallO.lend [900,29] [(900,.row gx 7 [cyV c .nil NX PX])] [(6,.row (gf4 6) 2 [.agg [.sl (O1.map u8V) (some O1.length),.sl (S1.map u8V) (some S1.length)]]),(7,.row (gf5 7) 2 [.agg [.nil,.nil]])]
    (hrun gx) (by simp [jot]) (by simp) (by simp [qb5,Blk.inB,hin1,jov]) (by simp) (by simp) ?_
  rintro v h ⟨rfl,g2,rfl⟩;refine ⟨by simp [V.inB,jov,jot _ _ (qat _)],by simp [qb5,Blk.inB,jov,hin2,jot _ _ (qbh _ _)],?_⟩;simp;intro gm3;simp [nop,qah,qc2 (qbh _ _)]
  first | exact ⟨rfl,jqw (by simp)⟩ | exact rfl
theorem jdh (c:Ci) (_hg:c.good) (f:Ft) (p:Pt) (O S O2 S2:List Nat) (L:V) (h1:O.length < 1000000) (h2:S.length < 1000000)
  (hb:qac Tryz.prog gl0 77 [c.v,f.w,p.v] (.tup [qgq O S,qgq O2 S2,L,.int .i64 0])):qac Tryz.prog gl0 35 [c.v,f.w,p.v] (.tup [.bool (qje O S O2 S2),.int .i64 0]):=by
 have hs:=jgg O S O2 S2 h1 h2;generalize qje O S O2 S2 = PB at hs ⊢;simp only [qgq,Pt.v] at hb hs ⊢;refine jqo 2 ok35 rfl ?_;simp [i35,x35];intro gf1 gf2 gf3;refine jqk hb (by simp [qaa,u8V]) ?_;simp;intro gf5 gf6;refine jqk hs (by simp) ?_;simp
theorem jdi (c:Ci) (hg:c.good) (f:Ft) (hf:f.ok c) (hm:f.m = 0) (p:Pt) (hp:p.fit c):qac Tryz.prog gl0 35 [c.v,f.w,p.v]
  (.tup [.bool (qje (qnp c (qbn c p)) (qnq c (qbn c p)) (qgv c (qjy c (atW f fun _=>f.v) (atQ f fun _=>f.v) p)) (qgw c (atQ f fun _=>f.v) (qjy c (atW f fun _=>f.v) (atQ f fun _=>f.v) p))),.int .i64 0]):=by
 have hno:c.o.length≤16384:=(qma hg.sh).2.2.2;have hn1:=hg.n1;have l1:=qbt 14 c.n;have e1:=q4x c (qbn c p);have e2:=q4y c (qbn c p);have hv:=hf.v
 exact jdh c hg f p _ _ _ _ _ (by omega) (by omega) (q6j c hg f (qh1 c hg f hf) (by omega) p hp _ _ _ _ (jgx f _ _ (q5q f)) (jgy f _ _ (q5q f)) (que f _ fun _=>by omega)
  (qlf c f hm _ _ (qbh _ _)))
end
section
open Go
theorem jdf {lo hi:Nat} (h:lo = 0/\hi = 1∨lo = 1/\hi = 0):∀ (l:List Nat) (out:Nat),(∀ v ∈ l,v≤1)->out≤1->dec lo hi out l≤1
 | [],out,_,h1=>h1
 | v :: l,out,hl,h1=>by
  have hv:=hl v List.mem_cons_self;rw [dec];split
  ·omega
  split
  ·exact jdf h l out (fun x hx=>hl x (List.mem_cons_of_mem _ hx)) h1
  ·omega
theorem jiz:∀ (l:List Nat) (out:Nat),(∀ v ∈ l,v≤1)->out≤1->qe2 out l≤1
 | [],out,_,h1=>h1
 | v :: l,out,hl,h1=>by
  have hv:=hl v List.mem_cons_self;have hr:∀ x ∈ l,x≤1:=fun x hx=>hl x (List.mem_cons_of_mem _ hx);rw [qe2];split
  ·exact jiz l out hr h1
  split
  ·exact jiz l (1 - out) hr (by omega)
  ·omega
theorem jht {v:Nat} (h:v≤1):qj8 v≤1:=by unfold qj8; rw [if_pos h]; omega
theorem qzn {l:List Nat} (hl:∀ v ∈ l,v≤1) (i:Nat):l.getD i 0≤1:=by
 by_cases h:i < l.length
 ·rw [jqu,jqy h]; exact hl _ (jqx h)
 ·rw [jqu,List.getElem?_eq_none (by omega)]; simp
theorem jjx {k:Nat} (h0:1≤k) (h1:k≤11) {l:List Nat} (hl:∀ v ∈ l,v≤1):qd6 k l≤1:=by
 have hc:k = 1∨k = 2∨k = 3∨k = 4∨k = 5∨k = 6∨k = 7∨k = 8∨k = 9∨k = 10∨k = 11:=by omega
 have g0:=qzn hl 0;have g1:=qzn hl 1;have g2:=qzn hl 2;rcases hc with rfl | rfl | rfl | rfl | rfl | rfl | rfl | rfl | rfl | rfl | rfl
 ·simp [qd6]
 ·simp [qd6]
 ·show rdN (l.getD 0 0)≤1;unfold rdN; omega
 ·exact jht g0
 ·exact jdf (.inl ⟨rfl,rfl⟩) l 1 hl (by omega)
 ·exact jht (jdf (.inl ⟨rfl,rfl⟩) l 1 hl (by omega))
 ·exact jdf (.inr ⟨rfl,rfl⟩) l 0 hl (by omega)
 ·exact jht (jdf (.inr ⟨rfl,rfl⟩) l 0 hl (by omega))
 ·exact jiz l 0 hl (by omega)
 ·exact jht (jiz l 0 hl (by omega))
 ·show qxn (l.getD 0 0) (l.getD 1 0) (l.getD 2 0)≤1;unfold qxn rdN;split
  ·omega
  split
  ·omega
  ·omega
theorem jev {k:Int} (h0:1≤k) (h1:k≤11) {l:List Nat} (hw:qgz k l.length = true) (hl:∀ v ∈ l,v≤1):qg7 k.toNat l≤1:=by
 obtain ⟨m,rfl⟩:∃ m:Nat,k = (m:Int):=⟨k.toNat,by omega⟩;simp only [qgz,Bool.and_eq_true,decide_eq_true_eq] at hw;unfold qg7;rw [Int.toNat_natCast,if_neg (by omega)];exact jjx (by omega) (by omega) hl
def Ci.plain (c:Ci):Prop:=∀ n,n < c.n.length->qb3 c n = true->1≤(c.nd n).k/\(c.nd n).k≤11/\qgz (c.nd n).k (c.nd n).i.length = true
theorem evl1 {c:Ci} (hk:c.plain):∀ (L:List Nat) (f:Nat->Nat),(∀ n ∈ L,n < c.n.length)->(∀ i,f i≤1)->∀ i,evl (q2u c) (qb3 c) L f i≤1
 | [],_,_,h,i=>h i
 | m :: L,f,hL,h,i=>by
  rw [evl];refine evl1 hk L _ (fun n hn=>hL n (List.mem_cons_of_mem _ hn)) (fun j=>?_) i;split
  ·rename_i hm;by_cases hj:j = m
   ·subst hj;rw [qa8];obtain ⟨h1,h2,h3⟩:=hk j (hL j List.mem_cons_self) hm;refine jev h1 h2 ?_ fun v hv=>?_
    ·rw [qjr hm]; simpa using h3
    ·obtain ⟨x,-,rfl⟩:=List.mem_map.1 hv; exact h x
   ·rw [qav _ _ hj]; exact h j
  ·exact h j
theorem jfu:∀ (ns vs:List Nat) (f:Nat->Nat),(∀ v ∈ vs,v≤1)->(∀ i,f i≤1)->∀ i,put ns vs f i≤1
 | [],_,_,_,h,i=>h i
 | _ :: _,[],_,_,h,i=>h i
 | n :: ns,v :: vs,f,hv,h,i=>by
  rw [put];refine jfu ns vs _ (fun x hx=>hv x (List.mem_cons_of_mem _ hx)) (fun j=>?_) i;by_cases hj:j = n
  ·subst hj; rw [qa8]; exact hv v List.mem_cons_self
  ·rw [qav _ _ hj]; exact h j
def Pt.kn (p:Pt):Prop:=(∀ x ∈ p.i,x≤1)/\∀ x ∈ p.s,x≤1
theorem net1 {c:Ci} (hg:c.good) (hk:c.plain) {p:Pt} (hp:p.kn) (n:Nat):qbn c p n≤1:=
 evl1 hk _ _ hg.ord.r.lt (jfu _ _ _ hp.2 (jfu _ _ _ hp.1 fun _=>by omega)) n
theorem qqq (a:List Nat):cons a a = []:=by
 unfold cons qsy;rw [List.filter_eq_nil_iff];intro i _;simp [qwh]
theorem q1l (O S:List Nat):qje O S O S = false:=by unfold qje; rw [qqq,qqq]; rfl
theorem qkd {v:Nat} (h:v≤3):qek v = v:=by unfold qek; rw [if_neg (by omega)]
theorem jkh {c:Ci} {p:Pt} (hp:p.fit c) (n:Nat):qbn c p n≤3:=by
 rw [qrk];exact qle (fun _ _ h=>h) _ _ (qu4 hp) n
end
end Go.Proofs.YtpaopccohkldlaaGreatDoor
