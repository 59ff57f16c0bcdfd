/- Podems: what Generate refuses. Conditions: none. -/
import Derived.Test.YtpaopccohkldlaaGreatDoorW4
import Derived.Test.YtpaopccohkldlaaGreatDoorD3
set_option linter.all false
namespace Go.Proofs.YtpaopccohkldlaaGreatDoor
section
open Go
def jap (l:Int):Int:=if l < 0 then 1 else if 1000000 < l then 3 else 0
theorem q2l (c:Ci) (hg:c.good) (hk:c.plain) (f:Ft) (hf:f.ok c) (l:Int):qab Tryz.prog gl0 92 [c.v,f.w,.int .i64 l] (.int .i64 (if f.m ≠ 0 then 7 else jap l)):=by
 have h1:=qjs c hg hk;have h2:=qha c hg f hf;simp only [Ft.w,u8V] at h2 ⊢;refine jpb 2 jlg rfl ?_;simp [i92,x92,u8V];intro gf1 gf2;refine jo7 h1 (by simp) ?_;simp;refine jo7 h2 (by simp [jne,V.pure,qaa]) ?_;by_cases hm:f.m = 0
 ·unfold jap;by_cases h3:l < 0
  ·simp [hm,h3]
  ·by_cases h4:1000000 < l
   ·simp [hm,h3,h4]
   ·simp [hm,h3,h4]
 ·have hm':¬ ((f.m:Int) = 0):=by omega
  simp [hm,hm']
end
section
open Go
theorem qqc (l:List Nat) (x:Nat):qif (l ++ [x]) = qif l ++ [(qaa x,qaa l.length)]:=by
 simp [qif,List.zipIdx_append]
theorem qip:∀ (l:List Nat) (n k:Nat),qcy l n k = none↔n ∉ l
 | [],n,k=>by simp [qcy]
 | x :: l,n,k=>by
  unfold qcy;by_cases e:x = n
  ·simp [e]
  ·rw [if_neg e,qip l n (k + 1)];simp [Ne.symm e,eq_comm]
theorem qps {l:List Nat} {x:Nat} (h:x ∉ l):qf7 (qaa x) (qif l) 0 = some none:=by
 obtain ⟨m,hm⟩:=qgq x l 0 0;rw [(qip l x 0).2 h] at hm;exact hm
theorem qwf {c:Ci} (hg:c.good) (n:Nat) (hn:n < c.n.length) (h:qcy (ids 0 c.n 0 ++ ids 14 c.n 0) n 0 = none):qb3 c n = true:=by
 rw [qip,List.mem_append,not_or,qnu,qnu] at h;have hnd:=c.nd_get hn;have h0:c.n[n].k ≠ 0:=fun e=>h.1 ⟨n,hn,by omega,e⟩;have h14:c.n[n].k ≠ 14:=fun e=>h.2 ⟨n,hn,by omega,e⟩;have h15:=hg.k _ (jpk hn);have hz:=qig ((qgx hg.sh).2.2.1 _ (jpk hn));have hk:=hg.wf.k _ (jpk hn);unfold qb3 qgo;rw [hnd];simp only [decide_eq_true_eq];omega
theorem qym (k:Int):∀ (l:List Nd) (i:Nat),∀ x ∈ ids k l i,i≤x
 | [],_,x,h=>by simp [ids] at h
 | n :: r,i,x,h=>by
  unfold ids at h;split at h
  ·rcases List.mem_cons.1 h with rfl | h
   ·exact jpm _
   ·have:=qym k r (i + 1) x h; omega
  ·have:=qym k r (i + 1) x h; omega
theorem qhf (k:Int):∀ (l:List Nd) (i:Nat),(ids k l i).Nodup
 | [],_=>by simp [ids]
 | n :: r,i=>by
  unfold ids;split
  ·refine List.nodup_cons.2 ⟨fun h=>?_,qhf k r (i + 1)⟩;have:=qym k r (i + 1) i h;omega
  ·exact qhf k r (i + 1)
theorem qs4 (c:Ci):(ids 0 c.n 0 ++ ids 14 c.n 0).Nodup:=by
 refine List.nodup_append.2 ⟨qhf _ _ _,qhf _ _ _,fun a ha b hb e=>?_⟩;subst e;obtain ⟨h1,e1⟩:=qiy ha;obtain ⟨h2,e2⟩:=qiy hb;rw [e1] at e2;cases e2
theorem qmr {l:List Nat} (h:l.Nodup) {j:Nat} (hj:j < l.length):l[j] ∉ l.take j:=by
 intro hm;obtain ⟨i,hi,e⟩:=List.mem_iff_getElem.1 hm;simp only [List.length_take] at hi;rw [List.getElem_take] at e;exact List.pairwise_iff_getElem.1 h i j (by omega) hj (by omega) e
end
section
open Go
theorem jb3 (c:Ci) (hg:c.good):qab Tryz.prog gl0 133 [c.v] (.tup [.sl (qcp c.n.length (ctl c)) (some c.n.length),.int .i64 0]):=by
 refine joa 2 (qww c hg.wf) ?_;rintro v h (⟨h1,-⟩ | ⟨-,g,f,rfl,rfl,-,hf⟩)
 ·exact absurd hg.chk h1
 rw [hf hg.n1];have hp:=qd1 c.n.length (ctl c);have hl:=qcf c.n.length (ctl c);have ht:List.take c.n.length (qcp c.n.length (ctl c)) = qcp c.n.length (ctl c):=jpj (by omega);simp [frz,V.mapR,jnh,hl,qce hp];exact ht
noncomputable def sea (c:Ci) (f:Ft):Sea:=⟨c,f,tab c.n.length fun i=>(((ctl c i).1:Int),((ctl c i).2:Int)),some c.n.length,qij c,some c.n.length,ids 0 c.n 0 ++ ids 14 c.n 0⟩
theorem q9h (c:Ci) (f:Ft):(sea c f).cst.map qlx = qcp c.n.length (ctl c):=by
 simp only [sea,qcp,tab,List.map_map];rfl
theorem jmj (c:Ci) (f:Ft):(sea c f).w = ids 0 c.n 0 ++ ids 14 c.n 0:=rfl
theorem q6a (c:Ci) (hg:c.good) (f:Ft) (hf:f.ok c) (hm:f.m = 0):(sea c f).ok:=by
 have ho:=hg.ord;have hn:=hg.n1;exact ⟨hg,hf,hm,ho.r.lt,by show (qij c).length < _; rw [ho.r.len]; omega⟩
theorem q9i (c:Ci) (hg:c.good) (f:Ft):(sea c f).okW:=by
 have hn:=hg.n1;have l0:=qbt 0 c.n;have l1:=qbt 14 c.n;refine ⟨fun n hn' hw=>qwf hg n hn' hw,?_,by simp [sea],fun x hx=>?_⟩
 ·show (ids 0 c.n 0 ++ ids 14 c.n 0).length < _;rw [List.length_append];show cnt 0 c.n + cnt 14 c.n < _;omega
 ·simp only [sea,tab,List.mem_map,List.mem_range] at hx;obtain ⟨i,-,rfl⟩:=hx;have:=qxy c (fun _=>none) (fun _ _ h=>by cases h) (qij c) i;change (ctl c i).1≤nev/\(ctl c i).2≤nev at this;have hv:nev = 1073741824:=rfl;simp only [];omega
theorem q6b (c:Ci) (f:Ft):(sea c f).w.length = cnt 0 c.n + cnt 14 c.n:=by
 show (ids 0 c.n 0 ++ ids 14 c.n 0).length = _;rw [List.length_append]; rfl
noncomputable def qxn (c:Ci) (f:Ft) (g:SG):List V:=[.ptr 0 g.b 0 0,.sl (c.n.map Nd.v) none,.sl (c.s.map V.str) none,.sl (c.m.map Md.v) none,.sl (qde c.o) none,u8V f.m,qaa f.n,.int .i64 f.pin,u8V f.v,qaa f.o,
 .sl (qcp c.n.length (ctl c)) (some c.n.length),.own 1 g.w,.sl (qao (qij c)) (some c.n.length),.ref 3 g.i 0 (cnt 0 c.n) (some (cnt 0 c.n)),.ref 4 g.t 0 (cnt 14 c.n) (some (cnt 14 c.n))]
noncomputable def H0 (c:Ci) (f:Ft) (g:SG) (l:Nat):Hp:=[(2,.row g.s 15 [.agg (qxn c f g)]),(3,.row g.i 1 (List.replicate (cnt 0 c.n) (.int .u8 2))),(4,.row g.t 1 (List.replicate (cnt 14 c.n) (.int .u8 2))),(1,.map g.w (qif (ids 0 c.n 0 ++ ids 14 c.n 0))),(0,.row g.b 2 [.agg [qaa l,qaa 0]])]
def BegK (c:Ci) (f:Ft) (l:Nat) (v:V) (h:Hp):Prop:=∃ g:SG,v = .ptr 2 g.s 0 0/\h = H0 c f g l
theorem q6m (c:Ci) (hg:c.good) (f:Ft) (l:Nat):qbi Tryz.prog gl0 93 [c.v,f.w,qaa l] (BegK c f l):=by
 have hn1:=hg.n1;have l0:=qbt 0 c.n;have l1:=qbt 14 c.n;have ci:=qft c (by omega);have cs:=qeb c (by omega);have h1:=jb3 c hg;have h2:=qt9 c hg
 have hb:qbi Tryz.prog gl0 22 [c.v] (jhu 1 1 (List.replicate (cnt 0 c.n) (.int .u8 2)) (List.replicate (cnt 14 c.n) (.int .u8 2)) (some (cnt 0 c.n)) (some (cnt 14 c.n))):=
  qbi.mono (qnb c hg) fun v h ⟨g0,g1,e1,e2⟩=>⟨g0,g1,by rw [e1]; simp,e2⟩
 have hnd:=qs4 c;have hIl:(ids 0 c.n 0).length = cnt 0 c.n:=rfl;have hSl:(ids 14 c.n 0).length = cnt 14 c.n:=rfl;have hO:=qbg (qij c);have hC:=qd1 c.n.length (ctl c);unfold BegK H0 qxn;generalize ids 0 c.n 0 = I at ci hIl hnd ⊢;generalize ids 14 c.n 0 = S at cs hSl hnd ⊢;generalize cnt 0 c.n = A at ci hb hIl l0 ⊢;generalize cnt 14 c.n = B at cs hb hSl l1 ⊢;generalize qao (qij c) = O at h2 hO ⊢;generalize qcp c.n.length (ctl c) = T at h1 hC ⊢;have hpA:=qd8 A;have hpB:=qd8 B;simp only [Ft.w,u8V,qaa];refine jpd ok93 rfl ?_;simp [i93,x93,nop,u8V,qaa];intro gf3 gf4 gm;refine ⟨_,_,_,.own2 hb (by simp) hpA hpB rfl,?_⟩;simp [nop];refine ⟨by simp [qfk,qgz,qyo,qqf]; decide,?_⟩;refine jo7 h1 (by simp) ?_;simp [nop];refine jo7 h2 (by simp) ?_;simp [nop];intro gm2
 first | refine ⟨_,_,_,.pure ci (by simp),?_⟩ | refine ⟨_,⟨_,_,.pure ci (by simp)⟩,?_⟩ | refine ⟨_,_,⟨_,.pure ci (by simp)⟩,?_⟩
 simp
 first | refine ⟨_,_,_,.pure cs (by simp),?_⟩ | refine ⟨_,⟨_,_,.pure cs (by simp)⟩,?_⟩ | refine ⟨_,_,⟨_,.pure cs (by simp)⟩,?_⟩
 simp;have hI1:((qao I).all fun x=>decide (x.cells.length = 1)) = true:=by simp [qao,qaa]
 have hS1:((qao S).all fun x=>decide (x.cells.length = 1)) = true:=by simp [qao,qaa]
 rw [hI1,hS1];obtain ⟨W,hW⟩:∃ W,W = I ++ S:=⟨_,rfl⟩;have hWl:W.length = A + B:=by rw [hW,List.length_append,hIl,hSl]
 have hWn:qao W = qao I ++ qao S:=by rw [hW]; simp [qao]
 rw [<- hW] at hnd ⊢;have hAi:decide (A = I.length) = true:=by simp [hIl]
 rw [hAi];generalize gm 19 = g19;generalize gm 17 = g17;generalize gm 1000017 = g18;generalize gm 15 = g15;generalize gm 12 = g12
 obtain ⟨q1,q2,q3,q4⟩:jne (c.n.map Nd.v) = true/\jne (c.s.map V.str) = true/\jne (c.m.map Md.v) = true/\jne (qde c.o) = true:=by
  simp
 have hmE:∀ s,(qif W).map (fun p=>(V.rn s p.1,V.rn s p.2)) = qif W:=fun s=>by
  simp [qif,qaa,V.rn]
 rcases S with _ | ⟨s,S⟩
 ·have hB:B = 0:=by simpa using hSl.symm
  have e0:qao ([]:List Nat) = []:=rfl;rw [e0,List.append_nil] at hWn;have hIA:I.length≤274877906944:=by omega
  rw [<- hWn,e0];simp [hIA];refine ⟨by decide,?_⟩
  refine jpa (X:=Nat) (fun j=>[(42,qaa j),(41,qaa W.length),(40,.sl (qao W) (some A)),(7,.ptr 19 g19 0 0)]) (fun j=>[(19,.row g19 15 [.agg [.ptr 12 g12 0 0,.sl (c.n.map Nd.v) none,.sl (c.s.map V.str) none,.sl (c.m.map Md.v) none,.sl (qde c.o) none,.int .u8 f.m,.int .i64 f.n,.int .i64 f.pin,.int .u8 f.v,.int .i64 f.o,.sl T (some c.n.length),.own 15 g15,.sl O (some c.n.length),.ref 17 g17 0 A (some A),.ref 1000017 g18 0 B (some B)]]),(15,.map g15 (qif (W.take j)))] ++ [(17,.row g17 1 (List.replicate A (.int .u8 2))),(1000017,.row g18 1 (List.replicate B (.int .u8 2))),(12,.row g12 2 [.agg [.int .i64 l,.int .i64 0]])])
   (fun j=>j≤W.length) (fun j=>W.length - j) 0 (Nat.zero_le _) (by simp [qaa]) (by simp [qif]) ?_
  intro j hj;simp [qaa];refine jo8 (fun hb2=>?_) (fun hb2=>?_)
  ·have hj2:j < W.length:=jpf hb2;have hwj:=qa1 j (by omega);have hget:∀ h,(qao W)[j]'h = qaa W[j]:=fun h=>by simp [qao]
   have hne:=qps (qmr hnd hj2);have hsn:=qqc (W.take j) W[j];rw [<- List.take_succ_eq_append_getElem hj2] at hsn;simp only [qaa] at hget hne hsn;simp [hj2,hget,hwj,nop,hne];exact ⟨rfl,j + 1,hj2,by simp,by rw [hsn]; simp [Nat.min_eq_left hj],by omega⟩
  ·have hj3:j = W.length:=by have:=jpg hb2; omega
   subst hj3;rw [List.take_length];simp [nop];refine .move 12 0 _ (by simp) (by simp; rfl) fun g0=>.move 15 1 _ (by simp) (by simp; rfl) fun g1=>.move 19 2 _ (by simp) (by simp; rfl) fun g2=>.move 17 3 _ (by simp) (by simp; rfl) fun g3=>.move 1000017 4 _ (by simp) (by simp; rfl) fun g4=>.done ?_;simp [-List.map_map,Blk.rn,hmE,qan _ q1,qan _ q2,qan _ q3,qan _ q4,qan _ hC,qan _ hO];refine ⟨_,?_,⟨g0,g1,g2,g3,g4⟩,rfl,rfl⟩;simp
 ·have hIA:I.length + (S.length + 1)≤274877906944:=by simp only [List.length_cons] at hSl; omega
  have hWl2:I.length + (S.length + 1) = W.length:=by rw [hW]; simp
  have e1:qao (s :: S) = qaa s :: qao S:=rfl;simp [e1,hIA];rw [<- e1,<- hWn,hWl2];generalize gm2 40 = g40;refine ⟨by decide,?_⟩
  refine jpa (X:=Nat) (fun j=>[(42,qaa j),(41,qaa W.length),(40,.ref 40 g40 0 W.length none),(7,.ptr 19 g19 0 0)]) (fun j=>[(19,.row g19 15 [.agg [.ptr 12 g12 0 0,.sl (c.n.map Nd.v) none,.sl (c.s.map V.str) none,.sl (c.m.map Md.v) none,.sl (qde c.o) none,.int .u8 f.m,.int .i64 f.n,.int .i64 f.pin,.int .u8 f.v,.int .i64 f.o,.sl T (some c.n.length),.own 15 g15,.sl O (some c.n.length),.ref 17 g17 0 A (some A),.ref 1000017 g18 0 B (some B)]]),(15,.map g15 (qif (W.take j)))] ++ [(40,.row g40 1 (qao W)),(17,.row g17 1 (List.replicate A (.int .u8 2))),(1000017,.row g18 1 (List.replicate B (.int .u8 2))),(12,.row g12 2 [.agg [.int .i64 l,.int .i64 0]])])
   (fun j=>j≤W.length) (fun j=>W.length - j) 0 (Nat.zero_le _) (by simp [qaa]; omega) (by simp [qif]) ?_
  intro j hj;simp [qaa];refine jo8 (fun hb2=>?_) (fun hb2=>?_)
  ·have hj2:j < W.length:=jpf hb2;have hwj:=qa1 j (by omega);have hget:∀ h,(qao W)[j]'h = qaa W[j]:=fun h=>by simp [qao]
   have hne:=qps (qmr hnd hj2);have hsn:=qqc (W.take j) W[j];rw [<- List.take_succ_eq_append_getElem hj2] at hsn;simp only [qaa] at hget hne hsn;simp [hj2,hget,hwj,nop,hne];exact ⟨rfl,j + 1,hj2,by simp,by rw [hsn]; simp [Nat.min_eq_left hj],by omega⟩
  ·have hj3:j = W.length:=by have:=jpg hb2; omega
   subst hj3;rw [List.take_length];simp [nop];refine .move 12 0 _ (by simp) (by simp; rfl) fun g0=>.move 15 1 _ (by simp) (by simp; rfl) fun g1=>.move 19 2 _ (by simp) (by simp; rfl) fun g2=>.move 17 3 _ (by simp) (by simp; rfl) fun g3=>.move 1000017 4 _ (by simp) (by simp; rfl) fun g4=>.done ?_;simp [-List.map_map,Blk.rn,hmE,qan _ q1,qan _ q2,qan _ q3,qan _ q4,qan _ hC,qan _ hO];refine ⟨_,?_,⟨g0,g1,g2,g3,g4⟩,rfl,rfl⟩;simp
end
end Go.Proofs.YtpaopccohkldlaaGreatDoor
