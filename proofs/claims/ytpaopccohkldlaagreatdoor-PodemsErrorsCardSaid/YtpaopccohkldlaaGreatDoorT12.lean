/- Lemmas. Conditions: none. -/
import Derived.Test.YtpaopccohkldlaaGreatDoorJ4
import Derived.Test.YtpaopccohkldlaaGreatDoorXP
set_option linter.all false
namespace Go.Proofs.YtpaopccohkldlaaGreatDoor
section
open Go
theorem qtr (f:Ft) (G:Nat->Nat) (hG:∀ v,G v≤3):jag (atW f G):=fun n v hv=>by unfold atW; split; exact hG v; exact hv
def nfV (f:Ft) (F:V):V:=if f.q = 0 then .fn 189 [] [.iptr f.ln 0,.iptr F 0] else .fn 188 [] []
def pfV (f:Ft) (F:V):V:=if f.q = 0 then .fn 151 [] [] else .fn 190 [] [.iptr f.ln 0,.iptr F 0]
theorem jhs (c:Ci) (f:Ft) (F:V) (G:Nat->Nat) (hF:FnV F G):qbl Tryz.prog gl0 153 [c.v,f.ln,F] (fun v h=>∃ g,v = .ptr 0 g 0 0/\h = [(0,.row g 7 [cyV c .nil (nfV f F) (pfV f F)])]):=jht c f F G hF
theorem qoe {F:V} {W:Nat->Nat->Nat} (h:FnW F W):F.pure = true:=by obtain ⟨f,x,rfl,h,-⟩:=h; simp [V.pure,jm8,h]
theorem qod {F:V} {Q:Nat->Nat->Nat->Nat} (h:FnQ F Q):F.pure = true:=by obtain ⟨f,x,rfl,h,-⟩:=h; simp [V.pure,jm8,h]
theorem qn3 {c:Ci} {a b:V} (h1:a.pure = true) (h2:b.pure = true):(cyV c .nil a b).pure = true:=by simp [cyV,V.pure,jm8,h1,h2]
end
section
open Go
def q1n (a b:List Nat) (i:Nat):Bool:=decide (a.getD i 0≤1) && decide (b.getD i 0≤1) && decide (a.getD i 0 ≠ b.getD i 0)
def qse (a b:List Nat) (n:Nat):List Nat:=(List.range n).filter (q1n a b)
theorem qx0 (a b:List Nat) (n:Nat):qse a b (n + 1) = if q1n a b n = true then qse a b n ++ [n] else qse a b n:=by
 unfold qse;rw [List.range_succ,List.filter_append];by_cases h:q1n a b n = true
 ·rw [if_pos h]; simp [h]
 ·rw [if_neg h]; simp [h]
theorem qn2 (a b:List Nat) (n:Nat):(qse a b n).length≤n:=by
 unfold qse;have:=List.length_filter_le (q1n a b) (List.range n);simpa using this
def cons (a b:List Nat):List Nat:=qse a b (min a.length b.length)
theorem q7d (l:List Nat) (cap:Option Nat):qac Tryz.prog gl0 131 [.sl (qad l) cap] (.sl (qad l) (some l.length)):=by
 refine jo3 2 q8x rfl ?_;simp [jfu,jg8];rw [jpb (by simp)];exact qah _ (qa0 l)
theorem qmy (a b:List Nat) (ca cb:Option Nat) (hl:a.length < 1000000000):qac Tryz.prog gl0 158 [.sl (a.map u8V) ca,.sl (b.map u8V) cb] (.sl (qad (cons a b)) (some (cons a b).length)):=by
 unfold cons;obtain ⟨M,hM⟩:∃ M,min a.length b.length = M:=⟨_,rfl⟩;have hMi:(min (a.length:Int) (b.length:Int)) = (M:Int):=by omega
 rw [hM];refine jo3 2 jjx rfl ?_;simp [i158,x158,hMi]
 refine jn3 (X:=Nat × Option (Nat × List V)) (fun z=>[(12,qaa z.1),(11,qaa M),(5,qbr 41 z.2),(0,.sl (a.map u8V) ca),(1,.sl (b.map u8V) cb)]) (fun z=>qbt 41 1 z.2)
  (fun z=>z.1≤M/\qa8 z.2 = qad (qse a b z.1)/\(z.2 = none->qse a b z.1 = [])) (fun z=>M - z.1) (.done ⟨(0,none),⟨by simp,by simp [qa8,qse,qad],by simp [qse]⟩,by simp [qaa,qbr],by simp [qbt]⟩) ?_
 rintro ⟨j,acc⟩ ⟨q1,q2,q3⟩;dsimp only at q1 q2 q3 ⊢;simp [qaa];refine jo0 (fun h=>?_) (fun h=>?_)
 ·have hj:j < M:=jo7 h;have hja:j < a.length:=by omega
  have hjb:j < b.length:=by omega
  have hw:=qa5 j (by omega);obtain ⟨x,hx⟩:∃ x,a[j] = x:=⟨_,rfl⟩;obtain ⟨y,hy⟩:∃ y,b[j] = y:=⟨_,rfl⟩
  have hc:q1n a b j = (decide (x≤1) && decide (y≤1) && decide (x ≠ y)):=by
   unfold q1n;rw [jo9,jpd hja,hx,jo9,jpd hjb,hy]; rfl
  have hs:=qx0 a b j;have hcl:=qn2 a b j;rw [hc] at hs;have hL:=congrArg List.length q2;simp at hL;by_cases h3:x≤1/\y≤1/\x ≠ y
  ·obtain ⟨h4,h5,h6⟩:=h3;rw [if_pos (by simp [h4,h5,h6])] at hs;have hnx:=congrArg qad hs;simp only [qad,List.map_append,List.map_cons,List.map_nil] at hnx q2;rw [<- q2] at hnx;rcases acc with _ | ⟨g,r⟩
   ·simp [hja,hjb,hx,hy,u8V,h4,h5,h6,qbr,qbt];intro ga gb;exact .done ⟨j + 1,some (gb 41,[.int .i64 (j:Int)]),⟨hj,by simpa [qa8,qaa,qad] using hnx.symm,by simp⟩,by simp [hw],by simp,by omega⟩
   ·simp [hja,hjb,hx,hy,u8V,h4,h5,h6,qbr,qbt];intro ga gb;refine ⟨by simp only [qa8] at hL; omega,.done ⟨j + 1,some (gb 41,r ++ [.int .i64 (j:Int)]),⟨hj,by simpa [qa8,qaa,qad] using hnx.symm,by simp⟩,by simp [hw],by simp,by omega⟩⟩
  ·have hb:(decide (x≤1) && decide (y≤1) && decide (x ≠ y)) = false:=by
    rw [Bool.eq_false_iff]; intro he; simp at he; exact h3 ⟨he.1.1,he.1.2,he.2⟩
   rw [if_neg (by rw [hb]; simp)] at hs
   have hcase:¬ x≤1∨(x≤1/\¬ y≤1)∨(x≤1/\y≤1/\x = y):=by
    by_cases p:x≤1 <;> by_cases p2:y≤1 <;> by_cases p3:x = y <;> simp_all
   have hsub:Sub (qbt 41 1 acc) (qbt 41 1 acc):=by rcases acc with _ | ⟨g,r⟩ <;> simp [qbt]
   rcases hcase with p | ⟨p,p2⟩ | ⟨p,p2,p3⟩
   ·simp [hja,hx,u8V,p];exact .done ⟨j + 1,acc,⟨hj,by rw [hs]; exact q2,fun e=>by rw [hs]; exact q3 e⟩,by simp [hw],hsub,by omega⟩
   ·simp [hja,hjb,hx,hy,u8V,p,p2];exact .done ⟨j + 1,acc,⟨hj,by rw [hs]; exact q2,fun e=>by rw [hs]; exact q3 e⟩,by simp [hw],hsub,by omega⟩
   ·subst p3;simp [hja,hjb,hx,hy,u8V,p];exact .done ⟨j + 1,acc,⟨hj,by rw [hs]; exact q2,fun e=>by rw [hs]; exact q3 e⟩,by simp [hw],hsub,by omega⟩
 ·have hj:j = M:=by have:=jo8 h; omega
  subst hj;have hcl:=q7d (qse a b j) none;have hlen:=qn2 a b j;generalize qse a b j = C at q2 q3 hcl hlen ⊢;rcases acc with _ | ⟨g,r⟩
  ·have hC:=q3 rfl;subst hC;have hcl0:=qac.wide hcl (args:=[.nil]) ⟨VLe.nil',trivial⟩ (.refl _);simp [qbr,qbt];refine .mk [(5,.nil)] [] (by simp) (by simp) (.done ?_);simp;refine joz hcl0 rfl ?_;simp [qad]
  ·simp only [qa8] at q2;subst q2;simp [qbr,qbt];refine .mk [(5,.ref 41 g 0 C.length none)] [(41,.row g 1 (qad C))] (by simp) (by simp) (.frz (g:=g) (sz:=1) (es:=qad C) 41 (by simp) (qa0 C) (.done ?_));have hCt:List.take C.length (qad C) = qad C:=jpb (by simp);simp [fzF,fzH,fzV,fzf,hCt];refine joz hcl (by simp [qa0]) ?_;simp [qah,qa0]
theorem q2g (O S O2 S2:List Nat) (h1:O.length < 1000000) (h2:S.length < 1000000):qac Tryz.prog gl0 116 [qgq O S,qgq O2 S2] (.tup [.sl (qad (cons O O2)) (some (cons O O2).length),.sl (qad (cons S S2)) (some (cons S S2).length)]):=by
 have c1:=qmy O O2 (some O.length) (some O2.length) (by omega);have c2:=qmy S S2 (some S.length) (some S2.length) (by omega);generalize cons O O2 = A at c1 ⊢;generalize cons S S2 = B at c2 ⊢;refine jo3 2 ji8 rfl ?_;simp [i116,x116,qgq];intro gf1 gf2 gm
 first | refine ⟨_,_,_,.pure c1 (by simp),?_⟩ | refine ⟨_,⟨_,_,.pure c1 (by simp)⟩,?_⟩ | refine ⟨_,_,⟨_,.pure c1 (by simp)⟩,?_⟩
 simp
 first | refine ⟨_,_,_,.pure c2 (by simp),?_⟩ | refine ⟨_,⟨_,_,.pure c2 (by simp)⟩,?_⟩ | refine ⟨_,_,⟨_,.pure c2 (by simp)⟩,?_⟩
 simp [qah,qa0]
 try rfl
def qmp (O S O2 S2:List Nat):Bool:=decide (0 < (cons O O2).length + (cons S S2).length)
theorem qt1 (a b:List Nat):(cons a b).length≤a.length:=by
 unfold cons;have:=qn2 a b (min a.length b.length);omega
theorem jeu (O S O2 S2:List Nat) (h1:O.length < 1000000) (h2:S.length < 1000000):qac Tryz.prog gl0 78 [qgq O S,qgq O2 S2] (.bool (qmp O S O2 S2)):=by
 have hd:=q2g O S O2 S2 h1 h2;have l1:=qt1 O O2;have l2:=qt1 S S2;unfold qmp;generalize cons O O2 = A at hd l1 ⊢;generalize cons S S2 = B at hd l2 ⊢;obtain ⟨m,hm⟩:∃ m,A.length + B.length = m:=⟨_,rfl⟩;have hw:IntKind.i64.wrap ((A.length:Int) + (B.length:Int)) = (m:Int):=by rw [qat] <;> omega
 rw [hm];simp only [qgq] at hd;refine jo3 2 ok78 rfl ?_;simp [i78,x78,qgq];intro gf1 gf2;refine joz hd (by simp) ?_;simp [hw]
theorem q3v (c:Ci) (f:Nat->Nat):(qnf c f).length = c.o.length:=by simp [qnf]
theorem q3w (c:Ci) (f:Nat->Nat):(qng c f).length = cnt 14 c.n:=by simp [qng,cnt]
end
section
open Go
theorem q4q (f:Ft):FnV (.fn 155 [] [.iptr f.w 0]) (fun _=>f.v):=⟨155,_,rfl,rfl,fun v _=>by
 show qac Tryz.prog gl0 155 [u8V v,.iptr f.w 0] (u8V f.v);refine jo3 2 jju rfl ?_;simp [i155,x155,u8V,Ft.w]⟩
def CyK (c:Ci) (NF PF:V) (v:V) (h:Hp):Prop:=∃ g,v = .ptr 0 g 0 0/\h = [(0,.row g 7 [cyV c .nil NF PF])]
theorem qk1 (c:Ci) (f:Ft) (hm:f.m = 0) (l:List V) (cap:Option Nat) (hl:jm8 l = true):qbl Tryz.prog gl0 114 [c.v,f.w,.sl l cap] (CyK c (nfV f (.fn 155 [] [.iptr f.w 0])) (pfV f (.fn 155 [] [.iptr f.w 0]))):=by
 have hat:=jhs c f _ _ (q4q f);have hNW:FnW (nfV f _) _:=jfa f _ _ (q4q f);have hPQ:FnQ (pfV f _) _:=jfb f _ _ (q4q f);have hnp:=qoe hNW;have hpp:=qod hPQ;clear hNW hPQ;generalize hNF:nfV f (.fn 155 [] [.iptr f.w 0]) = NF at hat hnp ⊢;generalize hPF:pfV f (.fn 155 [] [.iptr f.w 0]) = PF at hat hpp ⊢;have hcyp:=qn3 (c:=c) hnp hpp;refine jo5 ji6 rfl ?_;simp [i114,x114,u8V,hm,qaa];intro gf1 gf2 gf3 gm;refine ⟨by decide,?_⟩;refine jn7 4 (g:=gf2 4) (sz:=5) (es:=[f.w]) (by simp) (by simp) ?_;simp [fzV,V.mapR,jnc,fzp,fzH,Blk.fz,qbe _ (qdm c),qah,hl];refine CallO.own 900 hat (by simp [jm8,V.pure]) (by simp) ?_;rintro v h ⟨g0,rfl,rfl⟩ gf8;simp [upH,upS,Blk.rn,qet _ hcyp];generalize gf8 900 + g0 = gx;refine .move 900 0 _ (by simp) (by simp; rfl) fun g'=>.done ?_;simp [qet _ hcyp];exact ⟨[(0,.row g' 7 [cyV c .nil NF PF])],by simp,g',rfl,rfl⟩
theorem q5g (c:Ci) (hg:c.good) (f:Ft) (hfc:qac Tryz.prog gl0 43 [c.v,f.w] (.int .i64 0)) (hm:f.m ≠ 1) (p:Pt) (hp:p.fit c) (W:Nat->Nat->Nat) (Q:Nat->Nat->Nat->Nat) (NX PX:V) (hNW:FnW NX W) (hPQ:FnQ PX Q) (hW3:jag W)
    (hfa:qbl Tryz.prog gl0 114 [c.v,f.w,.sl (tU c.n.length (qbm c p)) (some c.n.length)] (CyK c NX PX)) :
    qac Tryz.prog gl0 77 [c.v,f.w,p.v] (.tup [qgq (qnf c (qbm c p)) (qng c (qbm c p)),qgq (qgt c (qjo c W Q p)) (qgu c Q (qjo c W Q p)),.sl (tU c.n.length (qjo c W Q p)) (some c.n.length),.int .i64 0]):=by
  have r1:=jeq c hg p hp;have hrun:=fun g=>q5m c hg p hp W Q NX PX hNW hPQ hW3 g;have hnp:=qoe hNW;have hpp:=qod hPQ;generalize qjo c W Q p = M at hrun ⊢;generalize qbm c p = A at r1 hfa ⊢;generalize qnf c A = O1 at r1 ⊢;generalize qng c A = S1 at r1 ⊢;have hcyp:=qn3 (c:=c) hnp hpp;have hin1:V.inB [900,29] (cyV c .nil NX PX) = true:=jnk _ _ hcyp
  have hin2:∀ g2 N,V.inB [900,29] (cyV c (.ref 29 g2 0 N (some N)) NX PX) = true:=fun g2 N=>by
    simp [cyV,V.inB,jnb,jnk _ _ hnp,jnk _ _ hpp,jm9 _ _ (qeo _),jm9 _ _ (qdt _),jm9 _ _ (qfp _),jm9 _ _ (qdr _)]
  generalize qgt c M = MO at hrun ⊢;generalize qgu c Q M = MS at hrun ⊢;have hm':¬ ((f.m:Int) = 1):=by omega
  simp only [qgq,Pt.v,u8V] at r1 hrun ⊢;simp only [Ft.w,u8V,qaa] at hfc hfa;refine jo3 2 ok77 rfl ?_;simp [i77,x77,u8V,qaa];intro gf1 gf2 gf3 gf4 gf5;refine joz hfc (by simp) ?_;simp [u8V,hm'];refine joz r1 (by simp) ?_;simp
  refine CallO.own 900 hfa (by have ht:jm8 (tab c.n.length fun i => V.int IntKind.u8 (A i:Int)) = true := qbg _ _
                               simp [jm8,V.pure,u8V,qaa,ht]) (by simp) ?_
  rintro v h ⟨g0,rfl,rfl⟩ gf8;simp [upH,upS,Blk.rn,qet _ hcyp];generalize gf8 900 + g0 = gx
  refine CallO.lend [900,29] [(900,.row gx 7 [cyV c .nil NX PX])] [(6,.row (gf4 6) 2 [.agg [.sl (O1.map u8V) (some O1.length),.sl (S1.map u8V) (some S1.length)]]),(7,.row (gf5 7) 2 [.agg [.nil,.nil]])]
    (hrun gx) (by simp [jm9]) (by simp) (by simp [qb4,Blk.inB,hin1,jnb]) (by simp) (by simp) ?_
  rintro v h ⟨rfl,g2,rfl⟩;refine ⟨by simp [V.inB,jnb,jm9 _ _ (qav _)],by simp [qb4,Blk.inB,jnb,hin2,jm9 _ _ (qbg _ _)],?_⟩;simp;intro gm3;simp [nop,qah,qcj (qbg _ _)]
  first | exact ⟨rfl,jpb (by simp)⟩ | exact rfl
theorem jb4 (c:Ci) (_hg:c.good) (f:Ft) (p:Pt) (O S O2 S2:List Nat) (L:V) (h1:O.length < 1000000) (h2:S.length < 1000000)
  (hb:qac Tryz.prog gl0 77 [c.v,f.w,p.v] (.tup [qgq O S,qgq O2 S2,L,.int .i64 0])):qac Tryz.prog gl0 35 [c.v,f.w,p.v] (.tup [.bool (qmp O S O2 S2),.int .i64 0]):=by
 have hs:=jeu O S O2 S2 h1 h2;generalize qmp O S O2 S2 = PB at hs ⊢;simp only [qgq,Pt.v] at hb hs ⊢;refine jo3 2 ok35 rfl ?_;simp [i35,x35];intro gf1 gf2 gf3;refine joz hb (by simp [qaa,u8V]) ?_;simp;intro gf5 gf6;refine joz hs (by simp) ?_;simp
theorem jb5 (c:Ci) (hg:c.good) (f:Ft) (hf:f.ok c) (hm:f.m = 0) (p:Pt) (hp:p.fit c):qac Tryz.prog gl0 35 [c.v,f.w,p.v]
  (.tup [.bool (qmp (qnf c (qbm c p)) (qng c (qbm c p)) (qgt c (qjo c (atW f fun _=>f.v) (atQ f fun _=>f.v) p)) (qgu c (atQ f fun _=>f.v) (qjo c (atW f fun _=>f.v) (atQ f fun _=>f.v) p))),.int .i64 0]):=by
 have hno:c.o.length≤16384:=(qlx hg.sh).2.2.2;have hn1:=hg.n1;have l1:=qca 14 c.n;have e1:=q3v c (qbm c p);have e2:=q3w c (qbm c p);have hv:=hf.v
 exact jb4 c hg f p _ _ _ _ _ (by omega) (by omega) (q5g c hg f (qhu c hg f hf) (by omega) p hp _ _ _ _ (jfa f _ _ (q4q f)) (jfb f _ _ (q4q f)) (qtr f _ fun _=>by omega)
  (qk1 c f hm _ _ (qbg _ _)))
end
section
open Go
theorem jb2 {lo hi:Nat} (h:lo = 0/\hi = 1∨lo = 1/\hi = 0):∀ (l:List Nat) (out:Nat),(∀ v ∈ l,v≤1)->out≤1->dec lo hi out l≤1
 | [],out,_,h1=>h1
 | v :: l,out,hl,h1=>by
  have hv:=hl v List.mem_cons_self;rw [dec];split
  ·omega
  split
  ·exact jb2 h l out (fun x hx=>hl x (List.mem_cons_of_mem _ hx)) h1
  ·omega
theorem jhd:∀ (l:List Nat) (out:Nat),(∀ v ∈ l,v≤1)->out≤1->qew out l≤1
 | [],out,_,h1=>h1
 | v :: l,out,hl,h1=>by
  have hv:=hl v List.mem_cons_self;have hr:∀ x ∈ l,x≤1:=fun x hx=>hl x (List.mem_cons_of_mem _ hx);rw [qew];split
  ·exact jhd l out hr h1
  split
  ·exact jhd l (1 - out) hr (by omega)
  ·omega
theorem jf7 {v:Nat} (h:v≤1):qjx v≤1:=by unfold qjx; rw [if_pos h]; omega
theorem q7v {l:List Nat} (hl:∀ v ∈ l,v≤1) (i:Nat):l.getD i 0≤1:=by
 by_cases h:i < l.length
 ·rw [jo9,jpd h]; exact hl _ (jpc h)
 ·rw [jo9,List.getElem?_eq_none (by omega)]; simp
theorem jib {k:Nat} (h0:1≤k) (h1:k≤11) {l:List Nat} (hl:∀ v ∈ l,v≤1):qd2 k l≤1:=by
 have hc:k = 1∨k = 2∨k = 3∨k = 4∨k = 5∨k = 6∨k = 7∨k = 8∨k = 9∨k = 10∨k = 11:=by omega
 have g0:=q7v hl 0;have g1:=q7v hl 1;have g2:=q7v hl 2;rcases hc with rfl | rfl | rfl | rfl | rfl | rfl | rfl | rfl | rfl | rfl | rfl
 ·simp [qd2]
 ·simp [qd2]
 ·show rdN (l.getD 0 0)≤1;unfold rdN; omega
 ·exact jf7 g0
 ·exact jb2 (.inl ⟨rfl,rfl⟩) l 1 hl (by omega)
 ·exact jf7 (jb2 (.inl ⟨rfl,rfl⟩) l 1 hl (by omega))
 ·exact jb2 (.inr ⟨rfl,rfl⟩) l 0 hl (by omega)
 ·exact jf7 (jb2 (.inr ⟨rfl,rfl⟩) l 0 hl (by omega))
 ·exact jhd l 0 hl (by omega)
 ·exact jf7 (jhd l 0 hl (by omega))
 ·show qwy (l.getD 0 0) (l.getD 1 0) (l.getD 2 0)≤1;unfold qwy rdN;split
  ·omega
  split
  ·omega
  ·omega
theorem jdc {k:Int} (h0:1≤k) (h1:k≤11) {l:List Nat} (hw:qgh k l.length = true) (hl:∀ v ∈ l,v≤1):qg5 k.toNat l≤1:=by
 obtain ⟨m,rfl⟩:∃ m:Nat,k = (m:Int):=⟨k.toNat,by omega⟩;simp only [qgh,Bool.and_eq_true,decide_eq_true_eq] at hw;unfold qg5;rw [Int.toNat_natCast,if_neg (by omega)];exact jib (by omega) (by omega) hl
def Ci.plain (c:Ci):Prop:=∀ n,n < c.n.length->qb2 c n = true->1≤(c.nd n).k/\(c.nd n).k≤11/\qgh (c.nd n).k (c.nd n).i.length = true
theorem evl1 {c:Ci} (hk:c.plain):∀ (L:List Nat) (f:Nat->Nat),(∀ n ∈ L,n < c.n.length)->(∀ i,f i≤1)->∀ i,evl (q1p c) (qb2 c) L f i≤1
 | [],_,_,h,i=>h i
 | m :: L,f,hL,h,i=>by
  rw [evl];refine evl1 hk L _ (fun n hn=>hL n (List.mem_cons_of_mem _ hn)) (fun j=>?_) i;split
  ·rename_i hm;by_cases hj:j = m
   ·subst hj;rw [qa1];obtain ⟨h1,h2,h3⟩:=hk j (hL j List.mem_cons_self) hm;refine jdc h1 h2 ?_ fun v hv=>?_
    ·rw [qji hm]; simpa using h3
    ·obtain ⟨x,-,rfl⟩:=List.mem_map.1 hv; exact h x
   ·rw [qao _ _ hj]; exact h j
  ·exact h j
theorem jd8:∀ (ns vs:List Nat) (f:Nat->Nat),(∀ v ∈ vs,v≤1)->(∀ i,f i≤1)->∀ i,put ns vs f i≤1
 | [],_,_,_,h,i=>h i
 | _ :: _,[],_,_,h,i=>h i
 | n :: ns,v :: vs,f,hv,h,i=>by
  rw [put];refine jd8 ns vs _ (fun x hx=>hv x (List.mem_cons_of_mem _ hx)) (fun j=>?_) i;by_cases hj:j = n
  ·subst hj; rw [qa1]; exact hv v List.mem_cons_self
  ·rw [qao _ _ hj]; exact h j
def Pt.kn (p:Pt):Prop:=(∀ x ∈ p.i,x≤1)/\∀ x ∈ p.s,x≤1
theorem net1 {c:Ci} (hg:c.good) (hk:c.plain) {p:Pt} (hp:p.kn) (n:Nat):qbm c p n≤1:=
 evl1 hk _ _ hg.ord.r.lt (jd8 _ _ _ hp.2 (jd8 _ _ _ hp.1 fun _=>by omega)) n
theorem qp8 (a:List Nat):cons a a = []:=by
 unfold cons qse;rw [List.filter_eq_nil_iff];intro i _;simp [q1n]
theorem q0i (O S:List Nat):qmp O S O S = false:=by unfold qmp; rw [qp8,qp8]; rfl
theorem qj1 {v:Nat} (h:v≤3):qe0 v = v:=by unfold qe0; rw [if_neg (by omega)]
theorem jix {c:Ci} {p:Pt} (hp:p.fit c) (n:Nat):qbm c p n≤3:=by
 rw [qq3];exact qk0 (fun _ _ h=>h) _ _ (que hp) n
end
end Go.Proofs.YtpaopccohkldlaaGreatDoor
