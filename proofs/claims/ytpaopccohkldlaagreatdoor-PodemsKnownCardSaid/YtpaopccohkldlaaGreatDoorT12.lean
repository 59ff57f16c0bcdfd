/- Lemmas. Conditions: none. -/
import Derived.Test.YtpaopccohkldlaaGreatDoorJ4
import Derived.Test.YtpaopccohkldlaaGreatDoorXP
set_option linter.all false
namespace Go.Proofs.YtpaopccohkldlaaGreatDoor
section
open Go
theorem qs8 (f:Ft) (G:Nat->Nat) (hG:∀ v,G v≤3):jac (atW f G):=fun n v hv=>by unfold atW; split; exact hG v; exact hv
def nfV (f:Ft) (F:V):V:=if f.q = 0 then .fn 189 [] [.iptr f.ln 0,.iptr F 0] else .fn 188 [] []
def pfV (f:Ft) (F:V):V:=if f.q = 0 then .fn 151 [] [] else .fn 190 [] [.iptr f.ln 0,.iptr F 0]
theorem jh1 (c:Ci) (f:Ft) (F:V) (G:Nat->Nat) (hF:FnV F G):qbi Tryz.prog gl0 153 [c.v,f.ln,F] (fun v h=>∃ g,v = .ptr 0 g 0 0/\h = [(0,.row g 7 [cyV c .nil (nfV f F) (pfV f F)])]):=jh2 c f F G hF
theorem qnr {F:V} {W:Nat->Nat->Nat} (h:FnW F W):F.pure = true:=by obtain ⟨f,x,rfl,h,-⟩:=h; simp [V.pure,jne,h]
theorem qnq {F:V} {Q:Nat->Nat->Nat->Nat} (h:FnQ F Q):F.pure = true:=by obtain ⟨f,x,rfl,h,-⟩:=h; simp [V.pure,jne,h]
theorem qni {c:Ci} {a b:V} (h1:a.pure = true) (h2:b.pure = true):(cyV c .nil a b).pure = true:=by simp [cyV,V.pure,jne,h1,h2]
end
section
open Go
def qvb (a b:List Nat) (i:Nat):Bool:=decide (a.getD i 0≤1) && decide (b.getD i 0≤1) && decide (a.getD i 0 ≠ b.getD i 0)
def qrs (a b:List Nat) (n:Nat):List Nat:=(List.range n).filter (qvb a b)
theorem qxw (a b:List Nat) (n:Nat):qrs a b (n + 1) = if qvb a b n = true then qrs a b n ++ [n] else qrs a b n:=by
 unfold qrs;rw [List.range_succ,List.filter_append];by_cases h:qvb a b n = true
 ·rw [if_pos h]; simp [h]
 ·rw [if_neg h]; simp [h]
theorem qng (a b:List Nat) (n:Nat):(qrs a b n).length≤n:=by
 unfold qrs;have:=List.length_filter_le (qvb a b) (List.range n);simpa using this
def cons (a b:List Nat):List Nat:=qrs a b (min a.length b.length)
theorem q65 (l:List Nat) (cap:Option Nat):qab Tryz.prog gl0 131 [.sl (qao l) cap] (.sl (qao l) (some l.length)):=by
 refine jpb 2 q8l rfl ?_;simp [jf3,jhg];rw [jpj (by simp)];exact qad _ (qbg l)
theorem qmd (a b:List Nat) (ca cb:Option Nat) (hl:a.length < 1000000000):qab Tryz.prog gl0 158 [.sl (a.map u8V) ca,.sl (b.map u8V) cb] (.sl (qao (cons a b)) (some (cons a b).length)):=by
 unfold cons;obtain ⟨M,hM⟩:∃ M,min a.length b.length = M:=⟨_,rfl⟩;have hMi:(min (a.length:Int) (b.length:Int)) = (M:Int):=by omega
 rw [hM];refine jpb 2 jj0 rfl ?_;simp [i158,x158,hMi]
 refine jn0 (X:=Nat × Option (Nat × List V)) (fun z=>[(12,qaa z.1),(11,qaa M),(5,qbo 41 z.2),(0,.sl (a.map u8V) ca),(1,.sl (b.map u8V) cb)]) (fun z=>qbn 41 1 z.2)
  (fun z=>z.1≤M/\qa7 z.2 = qao (qrs a b z.1)/\(z.2 = none->qrs a b z.1 = [])) (fun z=>M - z.1) (.done ⟨(0,none),⟨by simp,by simp [qa7,qrs,qao],by simp [qrs]⟩,by simp [qaa,qbo],by simp [qbn]⟩) ?_
 rintro ⟨j,acc⟩ ⟨q1,q2,q3⟩;dsimp only at q1 q2 q3 ⊢;simp [qaa];refine jo8 (fun h=>?_) (fun h=>?_)
 ·have hj:j < M:=jpf h;have hja:j < a.length:=by omega
  have hjb:j < b.length:=by omega
  have hw:=qa1 j (by omega);obtain ⟨x,hx⟩:∃ x,a[j] = x:=⟨_,rfl⟩;obtain ⟨y,hy⟩:∃ y,b[j] = y:=⟨_,rfl⟩
  have hc:qvb a b j = (decide (x≤1) && decide (y≤1) && decide (x ≠ y)):=by
   unfold qvb;rw [jph,jpl hja,hx,jph,jpl hjb,hy]; rfl
  have hs:=qxw a b j;have hcl:=qng a b j;rw [hc] at hs;have hL:=congrArg List.length q2;simp at hL;by_cases h3:x≤1/\y≤1/\x ≠ y
  ·obtain ⟨h4,h5,h6⟩:=h3;rw [if_pos (by simp [h4,h5,h6])] at hs;have hnx:=congrArg qao hs;simp only [qao,List.map_append,List.map_cons,List.map_nil] at hnx q2;rw [<- q2] at hnx;rcases acc with _ | ⟨g,r⟩
   ·simp [hja,hjb,hx,hy,u8V,h4,h5,h6,qbo,qbn];intro ga gb;exact .done ⟨j + 1,some (gb 41,[.int .i64 (j:Int)]),⟨hj,by simpa [qa7,qaa,qao] using hnx.symm,by simp⟩,by simp [hw],by simp,by omega⟩
   ·simp [hja,hjb,hx,hy,u8V,h4,h5,h6,qbo,qbn];intro ga gb;refine ⟨by simp only [qa7] at hL; omega,.done ⟨j + 1,some (gb 41,r ++ [.int .i64 (j:Int)]),⟨hj,by simpa [qa7,qaa,qao] using hnx.symm,by simp⟩,by simp [hw],by simp,by omega⟩⟩
  ·have hb:(decide (x≤1) && decide (y≤1) && decide (x ≠ y)) = false:=by
    rw [Bool.eq_false_iff]; intro he; simp at he; exact h3 ⟨he.1.1,he.1.2,he.2⟩
   rw [if_neg (by rw [hb]; simp)] at hs
   have hcase:¬ x≤1∨(x≤1/\¬ y≤1)∨(x≤1/\y≤1/\x = y):=by
    by_cases p:x≤1 <;> by_cases p2:y≤1 <;> by_cases p3:x = y <;> simp_all
   have hsub:Sub (qbn 41 1 acc) (qbn 41 1 acc):=by rcases acc with _ | ⟨g,r⟩ <;> simp [qbn]
   rcases hcase with p | ⟨p,p2⟩ | ⟨p,p2,p3⟩
   ·simp [hja,hx,u8V,p];exact .done ⟨j + 1,acc,⟨hj,by rw [hs]; exact q2,fun e=>by rw [hs]; exact q3 e⟩,by simp [hw],hsub,by omega⟩
   ·simp [hja,hjb,hx,hy,u8V,p,p2];exact .done ⟨j + 1,acc,⟨hj,by rw [hs]; exact q2,fun e=>by rw [hs]; exact q3 e⟩,by simp [hw],hsub,by omega⟩
   ·subst p3;simp [hja,hjb,hx,hy,u8V,p];exact .done ⟨j + 1,acc,⟨hj,by rw [hs]; exact q2,fun e=>by rw [hs]; exact q3 e⟩,by simp [hw],hsub,by omega⟩
 ·have hj:j = M:=by have:=jpg h; omega
  subst hj;have hcl:=q65 (qrs a b j) none;have hlen:=qng a b j;generalize qrs a b j = C at q2 q3 hcl hlen ⊢;rcases acc with _ | ⟨g,r⟩
  ·have hC:=q3 rfl;subst hC;have hcl0:=qab.wide hcl (args:=[.nil]) ⟨VLe.nil',trivial⟩ (.refl _);simp [qbo,qbn];refine .mk [(5,.nil)] [] (by simp) (by simp) (.done ?_);simp;refine jo7 hcl0 rfl ?_;simp [qao]
  ·simp only [qa7] at q2;subst q2;simp [qbo,qbn];refine .mk [(5,.ref 41 g 0 C.length none)] [(41,.row g 1 (qao C))] (by simp) (by simp) (.frz (g:=g) (sz:=1) (es:=qao C) 41 (by simp) (qbg C) (.done ?_));have hCt:List.take C.length (qao C) = qao C:=jpj (by simp);simp [fzF,fzH,fzV,fzf,hCt];refine jo7 hcl (by simp [qbg]) ?_;simp [qad,qbg]
theorem q19 (O S O2 S2:List Nat) (h1:O.length < 1000000) (h2:S.length < 1000000):qab Tryz.prog gl0 116 [qf4 O S,qf4 O2 S2] (.tup [.sl (qao (cons O O2)) (some (cons O O2).length),.sl (qao (cons S S2)) (some (cons S S2).length)]):=by
 have c1:=qmd O O2 (some O.length) (some O2.length) (by omega);have c2:=qmd S S2 (some S.length) (some S2.length) (by omega);generalize cons O O2 = A at c1 ⊢;generalize cons S S2 = B at c2 ⊢;refine jpb 2 jjb rfl ?_;simp [i116,x116,qf4];intro gf1 gf2 gm
 first | refine ⟨_,_,_,.pure c1 (by simp),?_⟩ | refine ⟨_,⟨_,_,.pure c1 (by simp)⟩,?_⟩ | refine ⟨_,_,⟨_,.pure c1 (by simp)⟩,?_⟩
 simp
 first | refine ⟨_,_,_,.pure c2 (by simp),?_⟩ | refine ⟨_,⟨_,_,.pure c2 (by simp)⟩,?_⟩ | refine ⟨_,_,⟨_,.pure c2 (by simp)⟩,?_⟩
 simp [qad,qbg]
 try rfl
def qim (O S O2 S2:List Nat):Bool:=decide (0 < (cons O O2).length + (cons S S2).length)
theorem qti (a b:List Nat):(cons a b).length≤a.length:=by
 unfold cons;have:=qng a b (min a.length b.length);omega
theorem je2 (O S O2 S2:List Nat) (h1:O.length < 1000000) (h2:S.length < 1000000):qab Tryz.prog gl0 78 [qf4 O S,qf4 O2 S2] (.bool (qim O S O2 S2)):=by
 have hd:=q19 O S O2 S2 h1 h2;have l1:=qti O O2;have l2:=qti S S2;unfold qim;generalize cons O O2 = A at hd l1 ⊢;generalize cons S S2 = B at hd l2 ⊢;obtain ⟨m,hm⟩:∃ m,A.length + B.length = m:=⟨_,rfl⟩;have hw:IntKind.i64.wrap ((A.length:Int) + (B.length:Int)) = (m:Int):=by rw [qas] <;> omega
 rw [hm];simp only [qf4] at hd;refine jpb 2 ok78 rfl ?_;simp [i78,x78,qf4];intro gf1 gf2;refine jo7 hd (by simp) ?_;simp [hw]
theorem q3m (c:Ci) (f:Nat->Nat):(qms c f).length = c.o.length:=by simp [qms]
theorem q3n (c:Ci) (f:Nat->Nat):(qmt c f).length = cnt 14 c.n:=by simp [qmt,cnt]
end
section
open Go
theorem q4j (f:Ft):FnV (.fn 155 [] [.iptr f.w 0]) (fun _=>f.v):=⟨155,_,rfl,rfl,fun v _=>by
 show qab Tryz.prog gl0 155 [u8V v,.iptr f.w 0] (u8V f.v);refine jpb 2 jjx rfl ?_;simp [i155,x155,u8V,Ft.w]⟩
def CyK (c:Ci) (NF PF:V) (v:V) (h:Hp):Prop:=∃ g,v = .ptr 0 g 0 0/\h = [(0,.row g 7 [cyV c .nil NF PF])]
theorem qki (c:Ci) (f:Ft) (hm:f.m = 0) (l:List V) (cap:Option Nat) (hl:jne l = true):qbi Tryz.prog gl0 114 [c.v,f.w,.sl l cap] (CyK c (nfV f (.fn 155 [] [.iptr f.w 0])) (pfV f (.fn 155 [] [.iptr f.w 0]))):=by
 have hat:=jh1 c f _ _ (q4j f);have hNW:FnW (nfV f _) _:=jfk f _ _ (q4j f);have hPQ:FnQ (pfV f _) _:=jfl f _ _ (q4j f);have hnp:=qnr hNW;have hpp:=qnq hPQ;clear hNW hPQ;generalize hNF:nfV f (.fn 155 [] [.iptr f.w 0]) = NF at hat hnp ⊢;generalize hPF:pfV f (.fn 155 [] [.iptr f.w 0]) = PF at hat hpp ⊢;have hcyp:=qni (c:=c) hnp hpp;refine jpd ji9 rfl ?_;simp [i114,x114,u8V,hm,qaa];intro gf1 gf2 gf3 gm;refine ⟨by decide,?_⟩;refine jow 4 (g:=gf2 4) (sz:=5) (es:=[f.w]) (by simp) (by simp) ?_;simp [fzV,V.mapR,jnh,fzp,fzH,Blk.fz,qa5 _ (qcr c),qad,hl];refine CallO.own 900 hat (by simp [jne,V.pure]) (by simp) ?_;rintro v h ⟨g0,rfl,rfl⟩ gf8;simp [upH,upS,Blk.rn,qea _ hcyp];generalize gf8 900 + g0 = gx;refine .move 900 0 _ (by simp) (by simp; rfl) fun g'=>.done ?_;simp [qea _ hcyp];exact ⟨[(0,.row g' 7 [cyV c .nil NF PF])],by simp,g',rfl,rfl⟩
theorem q49 (c:Ci) (hg:c.good) (f:Ft) (hfc:qab Tryz.prog gl0 43 [c.v,f.w] (.int .i64 0)) (hm:f.m ≠ 1) (p:Pt) (hp:p.fit c) (W:Nat->Nat->Nat) (Q:Nat->Nat->Nat->Nat) (NX PX:V) (hNW:FnW NX W) (hPQ:FnQ PX Q) (hW3:jac W)
    (hfa:qbi Tryz.prog gl0 114 [c.v,f.w,.sl (tU c.n.length (qbj c p)) (some c.n.length)] (CyK c NX PX)) :
    qab Tryz.prog gl0 77 [c.v,f.w,p.v] (.tup [qf4 (qms c (qbj c p)) (qmt c (qbj c p)),qf4 (qf8 c (qi3 c W Q p)) (qf9 c Q (qi3 c W Q p)),.sl (tU c.n.length (qi3 c W Q p)) (some c.n.length),.int .i64 0]):=by
  have r1:=jez c hg p hp;have hrun:=fun g=>q5e c hg p hp W Q NX PX hNW hPQ hW3 g;have hnp:=qnr hNW;have hpp:=qnq hPQ;generalize qi3 c W Q p = M at hrun ⊢;generalize qbj c p = A at r1 hfa ⊢;generalize qms c A = O1 at r1 ⊢;generalize qmt c A = S1 at r1 ⊢;have hcyp:=qni (c:=c) hnp hpp;have hin1:V.inB [900,29] (cyV c .nil NX PX) = true:=jnq _ _ hcyp
  have hin2:∀ g2 N,V.inB [900,29] (cyV c (.ref 29 g2 0 N (some N)) NX PX) = true:=fun g2 N=>by
    simp [cyV,V.inB,jni,jnq _ _ hnp,jnq _ _ hpp,jnf _ _ (qek _),jnf _ _ (qec _),jnf _ _ (qfc _),jnf _ _ (qdp _)]
  generalize qf8 c M = MO at hrun ⊢;generalize qf9 c Q M = MS at hrun ⊢;have hm':¬ ((f.m:Int) = 1):=by omega
  simp only [qf4,Pt.v,u8V] at r1 hrun ⊢;simp only [Ft.w,u8V,qaa] at hfc hfa;refine jpb 2 ok77 rfl ?_;simp [i77,x77,u8V,qaa];intro gf1 gf2 gf3 gf4 gf5;refine jo7 hfc (by simp) ?_;simp [u8V,hm'];refine jo7 r1 (by simp) ?_;simp
  refine CallO.own 900 hfa (by have ht:jne (tab c.n.length fun i => V.int IntKind.u8 (A i:Int)) = true := qbd _ _
                               simp [jne,V.pure,u8V,qaa,ht]) (by simp) ?_
  rintro v h ⟨g0,rfl,rfl⟩ gf8;simp [upH,upS,Blk.rn,qea _ hcyp];generalize gf8 900 + g0 = gx
  refine CallO.lend [900,29] [(900,.row gx 7 [cyV c .nil NX PX])] [(6,.row (gf4 6) 2 [.agg [.sl (O1.map u8V) (some O1.length),.sl (S1.map u8V) (some S1.length)]]),(7,.row (gf5 7) 2 [.agg [.nil,.nil]])]
    (hrun gx) (by simp [jnf]) (by simp) (by simp [qb4,Blk.inB,hin1,jni]) (by simp) (by simp) ?_
  rintro v h ⟨rfl,g2,rfl⟩;refine ⟨by simp [V.inB,jni,jnf _ _ (qar _)],by simp [qb4,Blk.inB,jni,hin2,jnf _ _ (qbd _ _)],?_⟩;simp;intro gm3;simp [nop,qad,qce (qbd _ _)]
  first | exact ⟨rfl,jpj (by simp)⟩ | exact rfl
theorem jb7 (c:Ci) (_hg:c.good) (f:Ft) (p:Pt) (O S O2 S2:List Nat) (L:V) (h1:O.length < 1000000) (h2:S.length < 1000000)
  (hb:qab Tryz.prog gl0 77 [c.v,f.w,p.v] (.tup [qf4 O S,qf4 O2 S2,L,.int .i64 0])):qab Tryz.prog gl0 35 [c.v,f.w,p.v] (.tup [.bool (qim O S O2 S2),.int .i64 0]):=by
 have hs:=je2 O S O2 S2 h1 h2;generalize qim O S O2 S2 = PB at hs ⊢;simp only [qf4,Pt.v] at hb hs ⊢;refine jpb 2 ok35 rfl ?_;simp [i35,x35];intro gf1 gf2 gf3;refine jo7 hb (by simp [qaa,u8V]) ?_;simp;intro gf5 gf6;refine jo7 hs (by simp) ?_;simp
theorem jb8 (c:Ci) (hg:c.good) (f:Ft) (hf:f.ok c) (hm:f.m = 0) (p:Pt) (hp:p.fit c):qab Tryz.prog gl0 35 [c.v,f.w,p.v]
  (.tup [.bool (qim (qms c (qbj c p)) (qmt c (qbj c p)) (qf8 c (qi3 c (atW f fun _=>f.v) (atQ f fun _=>f.v) p)) (qf9 c (atQ f fun _=>f.v) (qi3 c (atW f fun _=>f.v) (atQ f fun _=>f.v) p))),.int .i64 0]):=by
 have hno:c.o.length≤16384:=(qle hg.sh).2.2.2;have hn1:=hg.n1;have l1:=qbt 14 c.n;have e1:=q3m c (qbj c p);have e2:=q3n c (qbj c p);have hv:=hf.v
 exact jb7 c hg f p _ _ _ _ _ (by omega) (by omega) (q49 c hg f (qha c hg f hf) (by omega) p hp _ _ _ _ (jfk f _ _ (q4j f)) (jfl f _ _ (q4j f)) (qs8 f _ fun _=>by omega)
  (qki c f hm _ _ (qbd _ _)))
end
section
open Go
theorem jb5 {lo hi:Nat} (h:lo = 0/\hi = 1∨lo = 1/\hi = 0):∀ (l:List Nat) (out:Nat),(∀ v ∈ l,v≤1)->out≤1->dec lo hi out l≤1
 | [],out,_,h1=>h1
 | v :: l,out,hl,h1=>by
  have hv:=hl v List.mem_cons_self;rw [dec];split
  ·omega
  split
  ·exact jb5 h l out (fun x hx=>hl x (List.mem_cons_of_mem _ hx)) h1
  ·omega
theorem jhm:∀ (l:List Nat) (out:Nat),(∀ v ∈ l,v≤1)->out≤1->qer out l≤1
 | [],out,_,h1=>h1
 | v :: l,out,hl,h1=>by
  have hv:=hl v List.mem_cons_self;have hr:∀ x ∈ l,x≤1:=fun x hx=>hl x (List.mem_cons_of_mem _ hx);rw [qer];split
  ·exact jhm l out hr h1
  split
  ·exact jhm l (1 - out) hr (by omega)
  ·omega
theorem jgh {v:Nat} (h:v≤1):qjb v≤1:=by unfold qjb; rw [if_pos h]; omega
theorem qyl {l:List Nat} (hl:∀ v ∈ l,v≤1) (i:Nat):l.getD i 0≤1:=by
 by_cases h:i < l.length
 ·rw [jph,jpl h]; exact hl _ (jpk h)
 ·rw [jph,List.getElem?_eq_none (by omega)]; simp
theorem jii {k:Nat} (h0:1≤k) (h1:k≤11) {l:List Nat} (hl:∀ v ∈ l,v≤1):qdy k l≤1:=by
 have hc:k = 1∨k = 2∨k = 3∨k = 4∨k = 5∨k = 6∨k = 7∨k = 8∨k = 9∨k = 10∨k = 11:=by omega
 have g0:=qyl hl 0;have g1:=qyl hl 1;have g2:=qyl hl 2;rcases hc with rfl | rfl | rfl | rfl | rfl | rfl | rfl | rfl | rfl | rfl | rfl
 ·simp [qdy]
 ·simp [qdy]
 ·show rdN (l.getD 0 0)≤1;unfold rdN; omega
 ·exact jgh g0
 ·exact jb5 (.inl ⟨rfl,rfl⟩) l 1 hl (by omega)
 ·exact jgh (jb5 (.inl ⟨rfl,rfl⟩) l 1 hl (by omega))
 ·exact jb5 (.inr ⟨rfl,rfl⟩) l 0 hl (by omega)
 ·exact jgh (jb5 (.inr ⟨rfl,rfl⟩) l 0 hl (by omega))
 ·exact jhm l 0 hl (by omega)
 ·exact jgh (jhm l 0 hl (by omega))
 ·show qwn (l.getD 0 0) (l.getD 1 0) (l.getD 2 0)≤1;unfold qwn rdN;split
  ·omega
  split
  ·omega
  ·omega
theorem jdl {k:Int} (h0:1≤k) (h1:k≤11) {l:List Nat} (hw:ql5 k l.length = true) (hl:∀ v ∈ l,v≤1):qgi k.toNat l≤1:=by
 obtain ⟨m,rfl⟩:∃ m:Nat,k = (m:Int):=⟨k.toNat,by omega⟩;simp only [ql5,Bool.and_eq_true,decide_eq_true_eq] at hw;unfold qgi;rw [Int.toNat_natCast,if_neg (by omega)];exact jii (by omega) (by omega) hl
def Ci.plain (c:Ci):Prop:=∀ n,n < c.n.length->qb3 c n = true->1≤(c.nd n).k/\(c.nd n).k≤11/\ql5 (c.nd n).k (c.nd n).i.length = true
theorem evl1 {c:Ci} (hk:c.plain):∀ (L:List Nat) (f:Nat->Nat),(∀ n ∈ L,n < c.n.length)->(∀ i,f i≤1)->∀ i,evl (q1j c) (qb3 c) L f i≤1
 | [],_,_,h,i=>h i
 | m :: L,f,hL,h,i=>by
  rw [evl];refine evl1 hk L _ (fun n hn=>hL n (List.mem_cons_of_mem _ hn)) (fun j=>?_) i;split
  ·rename_i hm;by_cases hj:j = m
   ·subst hj;rw [qa4];obtain ⟨h1,h2,h3⟩:=hk j (hL j List.mem_cons_self) hm;refine jdl h1 h2 ?_ fun v hv=>?_
    ·rw [qiw hm]; simpa using h3
    ·obtain ⟨x,-,rfl⟩:=List.mem_map.1 hv; exact h x
   ·rw [qav _ _ hj]; exact h j
  ·exact h j
theorem jeg:∀ (ns vs:List Nat) (f:Nat->Nat),(∀ v ∈ vs,v≤1)->(∀ i,f i≤1)->∀ i,put ns vs f i≤1
 | [],_,_,_,h,i=>h i
 | _ :: _,[],_,_,h,i=>h i
 | n :: ns,v :: vs,f,hv,h,i=>by
  rw [put];refine jeg ns vs _ (fun x hx=>hv x (List.mem_cons_of_mem _ hx)) (fun j=>?_) i;by_cases hj:j = n
  ·subst hj; rw [qa4]; exact hv v List.mem_cons_self
  ·rw [qav _ _ hj]; exact h j
def Pt.kn (p:Pt):Prop:=(∀ x ∈ p.i,x≤1)/\∀ x ∈ p.s,x≤1
theorem net1 {c:Ci} (hg:c.good) (hk:c.plain) {p:Pt} (hp:p.kn) (n:Nat):qbj c p n≤1:=
 evl1 hk _ _ hg.ord.r.lt (jeg _ _ _ hp.2 (jeg _ _ _ hp.1 fun _=>by omega)) n
theorem qpk (a:List Nat):cons a a = []:=by
 unfold cons qrs;rw [List.filter_eq_nil_iff];intro i _;simp [qvb]
theorem q0d (O S:List Nat):qim O S O S = false:=by unfold qim; rw [qpk,qpk]; rfl
theorem qjg {v:Nat} (h:v≤3):qed v = v:=by unfold qed; rw [if_neg (by omega)]
theorem ji0 {c:Ci} {p:Pt} (hp:p.fit c) (n:Nat):qbj c p n≤3:=by
 rw [qqg];exact qkh (fun _ _ h=>h) _ _ (qtw hp) n
end
end Go.Proofs.YtpaopccohkldlaaGreatDoor
