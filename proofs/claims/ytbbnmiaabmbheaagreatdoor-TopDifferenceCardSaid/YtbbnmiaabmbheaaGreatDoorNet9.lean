/- Lemmas. Conditions: none. -/
import Derived.Test.YtbbnmiaabmbheaaGreatDoorNet4
set_option linter.all false
namespace Go.Proofs.YtbbnmiaabmbheaaGreatDoor
section
open Go
end
section
open Go
structure RS (n:Nat) (g:Nat->List Nat) (r:Nat) (o:Nat->Nat):Prop where
 up:∀ f,qkt n g f->∀ j,j < n->o j≤f j
 lo:∀ f,qkt n g f->∀ j,j < n->min (f j) r≤o j
 at':∀ j,j < n->o j≤mx o (g j)
 rn:∀ f,qkt n g f->r≤n
structure RR (n:Nat) (g:Nat->List Nat) (r:Nat) (o0 o:Nat->Nat) (a:Bool) (i k:Nat):Prop where
 p0:RS n g r o0
 mono:∀ j,j < n->o0 j≤o j
 up:∀ f,qkt n g f->∀ j,j < n->o j≤f j
 at':∀ j,j < n->o j≤mx o (g j)
 e:∀ j,j < i->∀ x ∈ g j,o0 x + 1≤o j
 ek:∀ x ∈ (g i).take k,o0 x + 1≤o i
 ch:a = true->∃ j,j < n/\o0 j < o j
 un:a = false->∀ j,j < n->o j = o0 j
variable {n r i k:Nat} {g:Nat->List Nat} {o0 o:Nat->Nat} {a:Bool}
end
section
open Go
structure LI where
 i:Nat
 a:Bool
 o:Nat->Nat
theorem qj0:∀ {l:List Int} {t:Int},qup l t = 0->(∀ x ∈ l,x = 0)/\t = 0
 | [],t,h=>⟨by simp,h⟩
 | x :: l,t,h=>by
  simp only [qup] at h;split at h
  ·rename_i hx; exact absurd h hx
  ·rename_i hx;have hx0:x = 0:=Classical.not_not.1 hx;obtain ⟨h1,h2⟩:=qj0 h;exact ⟨fun y hy=>by rcases List.mem_cons.1 hy with rfl | hy; exact hx0; exact h1 y hy,h2⟩
theorem qm7 {c:Ci} (h:shE c = 0):qic c = false/\c.s.length = c.n.length/\(∀ x ∈ c.n,ndE c x = 0)/\qk3 [] c.s = false/\(∀ m ∈ c.m,mdE c m = 0)/\c.o.any (qgg c.n.length) = false:=by
 unfold shE at h;split at h
 ·cases h
 ·rename_i h1;split at h
  ·cases h
  ·rename_i h2;obtain ⟨h3,h4⟩:=qj0 h;unfold shS at h4;split at h4
   ·cases h4
   ·rename_i h5;obtain ⟨h6,h7⟩:=qj0 h4;unfold shO at h7;split at h7
    ·cases h7
    ·rename_i h8;exact ⟨by simpa using h1,Classical.not_not.1 h2,fun x hx=>h3 _ (List.mem_map_of_mem hx),by simpa using h5,fun x hx=>h6 _ (List.mem_map_of_mem hx),by simpa using h8⟩
theorem qp8 {c:Ci} {x:Nd} (h:ndE c x = 0):x.k≤15/\ql7 x.k x.i.length = true/\x.i.any (qgg c.n.length) = false/\(x.k = 13->x.i.any (fun v=>!decide ((c.nd v.toNat).k = 12)) = false)/\qxk c x = true:=by
 unfold ndE at h;split at h
 ·cases h
 ·rename_i h1;split at h
  ·cases h
  ·rename_i h2;split at h
   ·cases h
   ·rename_i h3;split at h
    ·cases h
    ·rename_i h4;split at h
     ·cases h
     ·rename_i h5;exact ⟨by omega,by simpa using h2,by simpa using h3,fun hk=>by simpa [hk] using h4,by simpa using h5⟩
theorem qo1 {c:Ci} (hwf:c.wf) (h:shE c = 0):c.val:=by
 obtain ⟨h1,h2,h3,h4,h5,h6⟩:=qm7 h;refine ⟨fun j hj x hx=>?_,fun j hj=>?_⟩
 ·rw [c.nd_get hj] at hx;have:=(qp8 (h3 _ (jkg hj))).2.2.1;have:=List.any_eq_false.1 this x hx;simp [qgg] at this;omega
 ·rw [c.nd_get hj];obtain ⟨q1,q2,-⟩:=qp8 (h3 _ (jkg hj));exact qw5 (hwf.k _ (jkg hj)).1 q1 q2
theorem qwl {c:Ci} (h:shE c = 0):c.n.length≤16384/\c.s.length = c.n.length/\c.m.length≤16/\c.o.length≤16384:=by
 obtain ⟨h1,h2,-⟩:=qm7 h;simp [qic] at h1;omega
open Classical in
noncomputable def qi5 (c:Ci):Int:=if shE c ≠ 0 then shE c else if qgk c then 0 else 6
theorem qog (c:Ci) (hwf:c.wf):qac Tryz.prog gl0 92 [c.v] (qsz c (shE c)):=
 qyk c _ (q3k c hwf) (qo1 hwf) (fun h=>by have:=qwl h; omega)
open Classical in
theorem qro (c:Ci):qsz c (shE c) = .tup [if qi5 c = 0 then .sl (tab c.n.length fun i=>qab (qew c i)) (some c.n.length) else .nil,.int .i64 (qi5 c)]:=by
 unfold qsz qi5;by_cases h1:shE c = 0
 ·by_cases h2:qgk c <;> simp [h1,h2]
 ·simp [h1]
theorem q1r (c:Ci) (hwf:c.wf):qac Tryz.prog gl0 145 [c.v] (.int .i64 (qi5 c)):=by
 refine jj7 2 q62 rfl ?_;have:=qog c hwf;rw [qro] at this;simp [jca,x145];intro gf;refine jj4 this (by simp) ?_;simp
end
section
open Go
def qam (g19 g4 n:Nat) (lv:Nat->Nat) (L:List Nat):Hp:=[(19,.row g19 1 (qaf L)),(4,.row g4 1 [.sl (tab n fun i=>qab (lv i)) (some n)])]
structure InR (n:Nat) (L:List Nat):Prop where
 len:L.length = n
 lt:∀ x ∈ L,x < n
variable {g19 g4 n:Nat} {lv:Nat->Nat} {L:List Nat}
theorem jj8 {P:Program} {gl:Fr} {f:FuncId} {args:List V} {h:Hp} {K K':V->Hp->Prop} (hc:qa2 P gl f args h K) (hk:∀ v h,K v h->K' v h):qa2 P gl f args h K':=
 ⟨hc.1,fun G M w rargs h1 h2 h3 h4=>Calls.mono (hc.2 G M w rargs h1 h2 h3 h4) fun _ _ ⟨rv,v,h',G',M',q1,q2,q3⟩=>⟨rv,v,h',G',M',q1,hk _ _ q2,q3⟩⟩
theorem qdu (L:List Nat) (i x:Nat):(qaf L).set i (.int .i64 (x:Int)) = qaf (L.set i x):=by simp [qaf,qab,List.map_set]
theorem qap (L:List Nat) (i:Nat) (h:i < (qaf L).length):(qaf L)[i] = .int .i64 ((L[i]'(by simpa using h):Nat):Int):=by simp [qaf,qab]
theorem InR.set (h:InR n L) {i x:Nat} (hx:x < n):InR n (L.set i x):=⟨by simpa using h.len,fun y hy=>by
 rcases List.mem_or_eq_of_mem_set hy with q | q
 ·exact h.lt y q
 ·rw [q]; exact hx⟩
theorem InR.get (h:InR n L) {i:Nat} (hi:i < L.length):L[i] < n:=h.lt _ (jkg hi)
def q0c (a b:Nat):Int:=if a < b then -1 else if b < a then 1 else 0
theorem qu7 (a:Int):qac Tryz.prog gl0 158 [.int .i64 a] (.bool false):=by
 refine jj7 2 q65 rfl ?_;simp [jcd,x158]
theorem qua (a b:Nat):qac Tryz.prog gl0 95 [.int .i64 (a:Int),.int .i64 (b:Int)] (.int .i64 (q0c a b)):=by
 refine jj7 2 ok95 rfl ?_;simp [i95,x95];refine jj4 (qu7 _) (by simp) ?_;simp;refine jj4 (qu7 _) (by simp) ?_;simp;refine jj5 (fun h=>?_) (fun h=>?_)
 ·have h':=jkb h;simp [q0c,h']
 ·have h':=jkc h;simp;refine jj5 (fun h2=>?_) (fun h2=>?_)
  ·have h2':=jkb h2;simp [q0c,h',h2']
  ·have h2':=jkc h2;simp [q0c,h',h2']
theorem jbv (a b:Nat) (ha:a < n) (hb:b < n):qac Tryz.prog gl0 94 [.int .i64 (a:Int),.int .i64 (b:Int),.iptr (.sl (tab n fun i=>qab (lv i)) (some n)) 0] (.int .i64 (q0c (lv a) (lv b))):=by
 refine jj7 2 ok94 rfl ?_;simp [i94,x94,ha,hb,qa0,qab];intro gm;refine ⟨_,_,⟨_,.pure (qua _ _) (by simp)⟩,?_⟩;simp
theorem qwy (n:Nat) (lv:Nat->Nat):jid (tab n fun i=>qab (lv i)) = true:=qnb fun _=>rfl
theorem qg3 (hL:InR n L) (hn:n < 1000000) (a b k:Nat) (ha:a + k≤n) (hb:b + k≤n) (cf:V) :
  qa2 Tryz.prog gl0 324 [.ref 19 g19 0 n (some n),qab a,qab b,qab k,cf] (qam g19 g4 n lv L) (fun _ h=>∃ L',InR n L'/\h = qam g19 g4 n lv L'):=by
 refine jka q8b rfl ?_;simp [jdi,x324,qam,qab]
 refine jj6 (X:=Nat × List Nat) (fun x=>[(10,qab x.1),(0,.ref 19 g19 0 n (some n)),(1,qab a),(2,qab b),(3,qab k)]) (fun x=>qam g19 g4 n lv x.2)
  (fun x=>x.1≤k/\InR n x.2) (fun x=>k - x.1) (0,L) ⟨Nat.zero_le _,hL⟩ (by simp [qab]) (by simp [qam,qab]) ?_
 rintro ⟨i,M⟩ ⟨h1,h2⟩;dsimp only at h1 h2;simp [qab,qam];refine jj5 (fun hb=>?_) (fun hb=>?_)
 ·have hi:i < k:=jkb hb;have hw:=qbg i (by omega);obtain ⟨p,hp⟩:∃ p,a + i = p:=⟨_,rfl⟩;obtain ⟨r,hr⟩:∃ r,b + i = r:=⟨_,rfl⟩;have hwa:IntKind.i64.wrap ((a:Int) + (i:Int)) = (p:Int):=by rw [qas] <;> omega
  have hwb:IntKind.i64.wrap ((b:Int) + (i:Int)) = (r:Int):=by rw [qas] <;> omega
  have hMl:=h2.len;have h1:p < n:=by omega
  have h2':r < n:=by omega
  have h3:p < M.length:=by omega
  have h4:r < M.length:=by omega
  simp [hwa,hwb,h1,h2',qap,qdu,hw,hMl];refine ⟨i + 1,_,⟨hi,(h2.set (h2.get h4)).set (h2.get h3)⟩,by simp,rfl,by omega⟩
 ·simp;exact .done ⟨qam g19 g4 n lv M,by simp [qam,qab],M,h2,rfl⟩
theorem qtt {a b p:Nat} (h:a + b = p) (hp:p < 1000000000000000000):IntKind.i64.wrap ((a:Int) + (b:Int)) = (p:Int):=by rw [qas] <;> omega
theorem ql6 {a b p:Nat} (h:a = b + p) (hp:a < 1000000000000000000):IntKind.i64.wrap ((a:Int) - (b:Int)) = (p:Int):=by rw [qas] <;> omega
theorem qr0 (hL:InR n L) (hn:n < 1000000) (a m b:Nat) (h1:a < m) (h2:m < b) (h3:b≤n) (cf:V) :
  qa2 Tryz.prog gl0 284 [.ref 19 g19 0 n (some n),qab a,qab m,qab b,cf] (qam g19 g4 n lv L) (fun _ h=>∃ L',InR n L'/\h = qam g19 g4 n lv L'):=by
 refine jka q75 rfl ?_;obtain ⟨i0,hi0⟩:∃ i0,m = a + i0:=⟨m - a,by omega⟩;obtain ⟨j0,hj0⟩:∃ j0,b = m + j0:=⟨b - m,by omega⟩;simp [jdd,x284,qam,qab,ql6 hi0 (by omega),ql6 hj0 (by omega)]
 refine jj6 (X:=Nat × Nat × List Nat) (fun x=>[(10,qab x.1),(11,qab x.2.1),(0,.ref 19 g19 0 n (some n)),(2,qab m),(4,cf)]) (fun x=>qam g19 g4 n lv x.2.2)
  (fun x=>0 < x.1/\0 < x.2.1/\x.1≤m/\m + x.2.1≤n/\InR n x.2.2) (fun x=>x.1 + x.2.1) (i0,j0,L) ⟨by simp only; omega,by simp only; omega,by simp only; omega,by simp only; omega,hL⟩ (by simp [qab]) (by simp [qam,qab]) ?_
 rintro ⟨i,j,M⟩ ⟨q1,q2,q3,q4,q5⟩;dsimp only at q1 q2 q3 q4 q5;obtain ⟨mi,hmi⟩:∃ mi,m = i + mi:=⟨m - i,by omega⟩;simp [qab,qam];refine jj5 (fun hb=>?_) (fun hb=>?_)
 ·have hb':=jkb hb;subst hb';simp [ql6 hmi (by omega)];refine jj8 (qg3 (L:=M) q5 hn mi m i (by omega) (by omega) cf) ?_;rintro v h ⟨M',q6,rfl⟩;simp;exact .done ⟨qam g19 g4 n lv M',by simp [qam,qab],M',q6,rfl⟩
 ·have hb':=jkc hb;simp;refine jj5 (fun hc=>?_) (fun hc=>?_)
  ·have hc':=jkb hc;obtain ⟨ij,hij⟩:∃ ij,i = j + ij:=⟨i - j,by omega⟩;simp [ql6 hmi (by omega)];refine jj8 (qg3 (L:=M) q5 hn mi m j (by omega) (by omega) cf) ?_;rintro v h ⟨M',q6,rfl⟩;simp [ql6 hij (by omega)];exact ⟨ij,j,M',⟨by omega,q2,by omega,q4,q6⟩,⟨rfl,rfl⟩,by simp [qam,qab],by omega⟩
  ·have hc':=jkc hc;obtain ⟨ji,hji⟩:∃ ji,j = i + ji:=⟨j - i,by omega⟩;obtain ⟨mj,hmj⟩:∃ mj,m + j = mj:=⟨_,rfl⟩;obtain ⟨mji,hmji⟩:∃ mji,mj = i + mji:=⟨mj - i,by omega⟩;simp [ql6 hmi (by omega),qtt hmj (by omega),ql6 hmji (by omega)];refine jj8 (qg3 (L:=M) q5 hn mi mji i (by omega) (by omega) cf) ?_;rintro v h ⟨M',q6,rfl⟩;simp [ql6 hji (by omega)];exact ⟨i,ji,M',⟨q1,by omega,q3,by omega,q6⟩,⟨rfl,rfl⟩,by simp [qam,qab],by omega⟩
theorem qn4 {x p:Nat} (hp:x / 2 = p) (h:x < 1000000000000000000):IntKind.i64.wrap ((IntKind.u64.wrap (x:Int)).fdiv (2 ^ min 1 IntKind.u64.bits)) = (p:Int):=by
 have h0:(2 ^ min 1 IntKind.u64.bits:Int) = 2:=rfl;rw [h0];have h1:IntKind.u64.wrap (x:Int) = (x:Int):=by simp [IntKind.wrap,IntKind.bits,IntKind.signed]; omega
 rw [h1]
 have h2:(x:Int).fdiv 2 = ((x / 2:Nat):Int):=by
  rw [Int.fdiv_eq_ediv_of_nonneg _ (by omega)]; rfl
 rw [h2,hp,qas] <;> omega
def qdq (g4:Nat):V:=.fn 94 [] [.ptr 4 g4 0 0]
theorem qba {h:Hp} {a b:Nat} (ha:a < n) (hb:b < n) (hh:lk h 4 = some (.row g4 1 [.sl (tab n fun i=>qab (lv i)) (some n)])) {gm:Nat->Nat} {d:Option Nat} :
  qd1 Tryz.prog gl0 gm d 94 [.int .i64 (a:Int),.int .i64 (b:Int),.ptr 4 g4 0 0] h (.int .i64 (q0c (lv a) (lv b))) [] (d.toList ++ h.map (·.1)):=by
 refine .borrow 2 (jbv (lv:=lv) a b ha hb) ?_ rfl;simp [hh,frz];exact qao _ (qwy n lv)
theorem qj7 (hL:InR n L) (hn:n < 1000000) (a b:Nat) (ha:a≤n) (h3:b≤n) :
  qa2 Tryz.prog gl0 229 [.ref 19 g19 0 n (some n),qab a,qab b,qdq g4] (qam g19 g4 n lv L) (fun _ h=>∃ L',InR n L'/\(b≤a + 1->L' = L)/\h = qam g19 g4 n lv L'):=by
 refine jka q2y rfl ?_;obtain ⟨a1,ha1⟩:∃ a1,a + 1 = a1:=⟨_,rfl⟩;have hwa:IntKind.i64.wrap ((a:Int) + 1) = (a1:Int):=by rw [qas] <;> omega
 simp [q95,jib,qam,qab,qdq,hwa]
 refine jj6 (X:=Nat × List Nat) (fun x=>[(8,qab x.1),(0,.ref 19 g19 0 n (some n)),(1,qab a),(2,qab b),(3,qdq g4)]) (fun x=>qam g19 g4 n lv x.2)
  (fun x=>a1≤x.1/\InR n x.2/\(b≤a + 1->x.2 = L)) (fun x=>b - x.1) (a1,L) ⟨jki _,hL,fun _=>rfl⟩ (by simp [qab,qdq]) (by simp [qam,qab]) ?_
 rintro ⟨i,M⟩ ⟨q1,q2,q3⟩;dsimp only at q1 q2 q3;simp [qab,qam,qdq];refine jj5 (fun hb=>?_) (fun hb=>?_)
 ·have hi:i < b:=jkb hb;have hwi:=qbg i (by omega);simp
  refine jj6 (X:=Nat × List Nat) (fun x=>[(9,qab x.1),(8,qab i),(0,.ref 19 g19 0 n (some n)),(1,qab a),(2,qab b),(3,qdq g4)]) (fun x=>qam g19 g4 n lv x.2)
   (fun x=>x.1≤i/\InR n x.2) (fun x=>x.1) (i,M) ⟨jki _,q2⟩ (by simp [qab,qdq]) (by simp [qam,qab]) ?_
  clear q2 q3 M;rintro ⟨j,M⟩ ⟨q4,q2⟩;dsimp only at q4 q2;simp [qab,qam,qdq];intro gm;refine jj5 (fun hj=>?_) (fun hj=>?_)
  ·have hj':a < j:=jkb hj;obtain ⟨p,hp⟩:∃ p,j = 1 + p:=⟨j - 1,by omega⟩;have hwp:IntKind.i64.wrap ((j:Int) - 1) = (p:Int):=by rw [qas] <;> omega
   have hMl:=q2.len;have l1:j < n:=by omega
   have l2:p < n:=by omega
   have l3:j < M.length:=by omega
   have l4:p < M.length:=by omega
   simp [hj,hwp,l1,l2,l3,l4,qap];refine ⟨_,_,_,qba (lv:=lv) (q2.get l3) (q2.get l4) (by simp [qab]),?_⟩;simp;refine jj5 (fun hc=>?_) (fun hc=>?_)
   ·simp [hwp,l1,l2,qap,qdu,hMl];exact ⟨p,_,⟨by omega,(q2.set (q2.get l4)).set (q2.get l3)⟩,by simp,rfl,by omega⟩
   ·simp [hwi];exact ⟨i + 1,M,⟨by omega,q2,fun h=>by omega⟩,by simp,by simp,by omega⟩
  ·simp [hj,hwi];exact ⟨i + 1,M,⟨by omega,q2,fun h=>by omega⟩,by simp,by simp,by omega⟩
 ·have hi:¬ i < b:=jkc hb;simp;exact .done ⟨qam g19 g4 n lv M,by simp [qam,qab],M,q2,q3,rfl⟩
set_option maxHeartbeats 1600000 in
theorem qkn (hn:n < 1000000):∀ (k a m b:Nat),b - a≤k->a < m->m < b->b≤n->∀ L,InR n L->
  qa2 Tryz.prog gl0 230 [.ref 19 g19 0 n (some n),qab a,qab m,qab b,qdq g4] (qam g19 g4 n lv L) (fun _ h=>∃ L',InR n L'/\h = qam g19 g4 n lv L'):=by
 intro k
 induction k with
 | zero=>intro a m b h1 h2 h3; omega
 | succ k ih=>
  intro a m b hk ham hmb hbn L hL;refine jka q7s rfl ?_;obtain ⟨ma,hma⟩:∃ ma,m = a + ma:=⟨m - a,by omega⟩;obtain ⟨bm,hbm⟩:∃ bm,b = m + bm:=⟨b - m,by omega⟩;simp [jc0,x230,qam,qab,qdq,ql6 hma (by omega)];refine jj5 (fun hb=>?_) (fun hb=>?_)
  ·have hb':ma = 1:=jkb hb;simp
   refine jj6 (X:=Nat × Nat) (fun x=>[(10,qab x.1),(11,qab x.2),(0,.ref 19 g19 0 n (some n)),(1,qab a),(2,qab m),(3,qab b),(4,qdq g4)]) (fun x=>qam g19 g4 n lv L)
    (fun x=>m≤x.1/\x.1≤x.2/\x.2≤b) (fun x=>x.2 - x.1) (m,b) ⟨jki _,by simp only; omega,jki _⟩ (by simp [qab,qdq]) (by simp [qam,qab]) ?_
   rintro ⟨i,j⟩ ⟨q1,q2,q3⟩;dsimp only at q1 q2 q3;simp [qab,qam,qdq];refine jj5 (fun hi=>?_) (fun hi=>?_)
   ·have hi':i < j:=jkb hi;obtain ⟨ij,hij⟩:∃ ij,i + j = ij:=⟨_,rfl⟩;obtain ⟨h,hh⟩:∃ h,ij / 2 = h:=⟨_,rfl⟩;have hw:=qn4 hh (by omega);have hwh:=qbg h (by omega);have hLl:=hL.len;have l1:h < n:=by omega
    have l2:a < n:=by omega
    have l3:h < L.length:=by omega
    have l4:a < L.length:=by omega
    simp [qtt hij (by omega),hw,l1,l2,l3,l4,qap];intro gm
    first | refine ⟨_,_,_,qba (lv:=lv) (hL.get l3) (hL.get l4) (by simp [qab]),?_⟩ | refine ⟨_,⟨_,_,qba (lv:=lv) (hL.get l3) (hL.get l4) (by simp [qab])⟩,?_⟩ | refine ⟨_,_,⟨_,qba (lv:=lv) (hL.get l3) (hL.get l4) (by simp [qab])⟩,?_⟩
    simp;refine jj5 (fun hc=>?_) (fun hc=>?_)
    ·simp [hwh];exact ⟨h + 1,j,⟨by omega,by omega,q3⟩,by omega⟩
    ·simp;exact ⟨i,h,⟨by omega,by omega,by omega⟩,by omega⟩
   ·have hi':i = j:=by have:=jkc hi; omega
    simp
    refine jj6 (X:=Nat × List Nat) (fun x=>[(13,qab x.1),(10,qab i),(0,.ref 19 g19 0 n (some n))]) (fun x=>qam g19 g4 n lv x.2)
     (fun x=>InR n x.2) (fun x=>i - x.1) (a,L) hL (by simp [qab]) (by simp [qam,qab]) ?_
    rintro ⟨t,M⟩ q5;dsimp only at q5;obtain ⟨i1,hi1⟩:∃ i1,i = 1 + i1:=⟨i - 1,by omega⟩;have hwi1:IntKind.i64.wrap ((i:Int) - 1) = (i1:Int):=by rw [qas] <;> omega
    simp [qab,qam,hwi1];refine jj5 (fun ht=>?_) (fun ht=>?_)
    ·have ht':t < i1:=jkb ht;obtain ⟨t1,ht1⟩:∃ t1,t + 1 = t1:=⟨_,rfl⟩;have hwt:IntKind.i64.wrap ((t:Int) + 1) = (t1:Int):=by rw [qas] <;> omega
     have hMl:=q5.len;have l1:t < n:=by omega
     have l2:t1 < n:=by omega
     have l3:t < M.length:=by omega
     have l4:t1 < M.length:=by omega
     simp [hwt,l1,l2,qap,qdu,hMl];exact ⟨t1,_,(q5.set (q5.get l4)).set (q5.get l3),rfl,rfl,by omega⟩
    ·simp;exact .done ⟨qam g19 g4 n lv M,by simp [qam,qab],M,q5,rfl⟩
  ·have hb':¬ ma = 1:=jkc hb;simp [ql6 hbm (by omega)];refine jj5 (fun hc=>?_) (fun hc=>?_)
   ·have hc':bm = 1:=jkb hc;simp
    refine jj6 (X:=Nat × Nat) (fun x=>[(14,qab x.1),(15,qab x.2),(0,.ref 19 g19 0 n (some n)),(1,qab a),(2,qab m),(3,qab b),(4,qdq g4)]) (fun x=>qam g19 g4 n lv L)
     (fun x=>a≤x.1/\x.1≤x.2/\x.2≤m) (fun x=>x.2 - x.1) (a,m) ⟨jki _,by simp only; omega,jki _⟩ (by simp [qab,qdq]) (by simp [qam,qab]) ?_
    rintro ⟨i,j⟩ ⟨q1,q2,q3⟩;dsimp only at q1 q2 q3;simp [qab,qam,qdq];refine jj5 (fun hi=>?_) (fun hi=>?_)
    ·have hi':i < j:=jkb hi;obtain ⟨ij,hij⟩:∃ ij,i + j = ij:=⟨_,rfl⟩;obtain ⟨h,hh⟩:∃ h,ij / 2 = h:=⟨_,rfl⟩;have hw:=qn4 hh (by omega);have hwh:=qbg h (by omega);have hLl:=hL.len;have l1:h < n:=by omega
     have l2:m < n:=by omega
     have l3:h < L.length:=by omega
     have l4:m < L.length:=by omega
     simp [qtt hij (by omega),hw,l1,l2,l3,l4,qap];intro gm
     first | refine ⟨_,_,_,qba (lv:=lv) (hL.get l4) (hL.get l3) (by simp [qab]),?_⟩ | refine ⟨_,⟨_,_,qba (lv:=lv) (hL.get l4) (hL.get l3) (by simp [qab])⟩,?_⟩ | refine ⟨_,_,⟨_,qba (lv:=lv) (hL.get l4) (hL.get l3) (by simp [qab])⟩,?_⟩
     simp;refine jj5 (fun hc=>?_) (fun hc=>?_)
     ·simp;exact ⟨i,h,⟨by omega,by omega,by omega⟩,by omega⟩
     ·simp [hwh];exact ⟨h + 1,j,⟨by omega,by omega,q3⟩,by omega⟩
    ·have hi':i = j:=by have:=jkc hi; omega
     simp
     refine jj6 (X:=Nat × List Nat) (fun x=>[(17,qab x.1),(14,qab i),(0,.ref 19 g19 0 n (some n))]) (fun x=>qam g19 g4 n lv x.2)
      (fun x=>x.1≤m/\InR n x.2) (fun x=>x.1) (m,L) ⟨jki _,hL⟩ (by simp [qab]) (by simp [qam,qab]) ?_
     rintro ⟨t,M⟩ ⟨q6,q5⟩;dsimp only at q5 q6;simp [qab,qam];refine jj5 (fun ht=>?_) (fun ht=>?_)
     ·have ht':i < t:=jkb ht;obtain ⟨t1,ht1⟩:∃ t1,t = 1 + t1:=⟨t - 1,by omega⟩;have hwt:IntKind.i64.wrap ((t:Int) - 1) = (t1:Int):=by rw [qas] <;> omega
      have hMl:=q5.len;have l1:t < n:=by omega
      have l2:t1 < n:=by omega
      have l3:t < M.length:=by omega
      have l4:t1 < M.length:=by omega
      simp [hwt,l1,l2,qap,qdu,hMl];exact ⟨t1,_,⟨by omega,(q5.set (q5.get l4)).set (q5.get l3)⟩,rfl,rfl,by omega⟩
     ·simp;exact .done ⟨qam g19 g4 n lv M,by simp [qam,qab],M,q5,rfl⟩
   ·have hc':¬ bm = 1:=jkc hc;obtain ⟨ab,hab⟩:∃ ab,a + b = ab:=⟨_,rfl⟩;obtain ⟨mid,hmid⟩:∃ mid,ab / 2 = mid:=⟨_,rfl⟩;obtain ⟨nn,hnn⟩:∃ nn,mid + m = nn:=⟨_,rfl⟩;have hwm:=qn4 hmid (by omega);simp [qtt hab (by omega),hwm,qtt hnn (by omega)];refine jj5 (fun hd=>?_) (fun hd=>?_)
    ·have hd':mid < m:=jkb hd;obtain ⟨s0,hs0⟩:∃ s0,nn = b + s0:=⟨nn - b,by omega⟩;obtain ⟨r0,hr0⟩:∃ r0,mid = r0:=⟨_,rfl⟩;have c1:a≤s0:=by omega
     have c2:nn≤b + s0:=by omega
     have c3:s0≤r0:=by omega
     have c4:r0≤m/\r0≤mid:=by omega
     have hnn1:IntKind.i64.wrap ((nn:Int) - 1) = ((nn - 1:Nat):Int):=by rw [qas] <;> omega
     obtain ⟨pp,hpp⟩:∃ pp,nn - 1 = pp:=⟨_,rfl⟩;rw [hpp] at hnn1;simp [ql6 hs0 (by omega),hr0,hnn1]
     refine jj6 (X:=Nat × Nat) (fun x=>[(20,qab x.1),(21,qab x.2),(22,qab pp),(19,qab nn),(18,qab r0),(0,.ref 19 g19 0 n (some n)),(1,qab a),(2,qab m),(3,qab b),(4,qdq g4)]) (fun x=>qam g19 g4 n lv L)
      (fun x=>s0≤x.1/\x.1≤x.2/\x.2≤r0) (fun x=>x.2 - x.1) (s0,r0) ⟨jki _,by simp only; omega,jki _⟩ (by simp [qab,qdq]) (by simp [qam,qab]) ?_
     rintro ⟨i,j⟩ ⟨q1,q2,q3⟩;dsimp only at q1 q2 q3;simp [qab,qam,qdq];refine jj5 (fun hi=>?_) (fun hi=>?_)
     ·have hi':i < j:=jkb hi;obtain ⟨ij,hij⟩:∃ ij,i + j = ij:=⟨_,rfl⟩;obtain ⟨h,hh⟩:∃ h,ij / 2 = h:=⟨_,rfl⟩;have hw:=qn4 hh (by omega);have hwh:=qbg h (by omega);obtain ⟨t,ht⟩:∃ t,pp = h + t:=⟨pp - h,by omega⟩;have hLl:=hL.len;have l1:h < n:=by omega
      have l2:t < n:=by omega
      have l3:h < L.length:=by omega
      have l4:t < L.length:=by omega
      simp [qtt hij (by omega),hw,ql6 ht (by omega),l1,l2,l3,l4,qap];intro gm
      first | refine ⟨_,_,_,qba (lv:=lv) (hL.get l4) (hL.get l3) (by simp [qab]),?_⟩ | refine ⟨_,⟨_,_,qba (lv:=lv) (hL.get l4) (hL.get l3) (by simp [qab])⟩,?_⟩ | refine ⟨_,_,⟨_,qba (lv:=lv) (hL.get l4) (hL.get l3) (by simp [qab])⟩,?_⟩
      simp;refine jj5 (fun hc=>?_) (fun hc=>?_)
      ·simp;exact ⟨i,h,⟨by omega,by omega,by omega⟩,by omega⟩
      ·simp [hwh];exact ⟨h + 1,j,⟨by omega,by omega,q3⟩,by omega⟩
     ·have hi':i = j:=by have:=jkc hi; omega
      obtain ⟨en,hen⟩:∃ en,nn = i + en:=⟨nn - i,by omega⟩;simp [ql6 hen (by omega)];refine jj5 (fun w1=>?_) (fun w1=>?_)
      ·have w1':i < m:=jkb w1;simp [w1];refine jj5 (fun w2=>?_) (fun w2=>?_)
       ·have w2':m < en:=jkb w2;simp;refine jj8 (qr0 (L:=L) hL hn i m en (by omega) (by omega) (by omega) _) ?_;rintro v h ⟨M,hM,rfl⟩;simp;refine jj5 (fun w3=>?_) (fun w3=>?_)
        ·have w3':a < i:=jkb w3;simp [w3];refine jj5 (fun w4=>?_) (fun w4=>?_)
         ·have w4':i < r0:=jkb w4;simp;refine jj8 (ih a i r0 (by omega) w3' w4' (by omega) M hM) ?_;rintro v2 h2 ⟨M2,hM2,rfl⟩;simp;refine jj5 (fun w5=>?_) (fun w5=>?_)
          ·have w5':r0 < en:=jkb w5;simp [w5];refine jj5 (fun w6=>?_) (fun w6=>?_)
           ·have w6':en < b:=jkb w6;simp;refine jj8 (ih r0 en b (by omega) w5' w6' (by omega) M2 hM2) ?_;rintro v3 h3 ⟨M3,hM3,rfl⟩;simp;exact .done ⟨qam g19 g4 n lv M3,by simp [qam,qab],M3,hM3,rfl⟩
           ·simp;exact .done ⟨qam g19 g4 n lv M2,by simp [qam,qab],M2,hM2,rfl⟩
          ·simp [w5];exact .done ⟨qam g19 g4 n lv M2,by simp [qam,qab],M2,hM2,rfl⟩
         ·simp;refine jj5 (fun w5=>?_) (fun w5=>?_)
          ·have w5':r0 < en:=jkb w5;simp [w5];refine jj5 (fun w6=>?_) (fun w6=>?_)
           ·have w6':en < b:=jkb w6;simp;refine jj8 (ih r0 en b (by omega) w5' w6' (by omega) M hM) ?_;rintro v3 h3 ⟨M3,hM3,rfl⟩;simp;exact .done ⟨qam g19 g4 n lv M3,by simp [qam,qab],M3,hM3,rfl⟩
           ·simp;exact .done ⟨qam g19 g4 n lv M,by simp [qam,qab],M,hM,rfl⟩
          ·simp [w5];exact .done ⟨qam g19 g4 n lv M,by simp [qam,qab],M,hM,rfl⟩
        ·simp [w3];refine jj5 (fun w5=>?_) (fun w5=>?_)
         ·have w5':r0 < en:=jkb w5;simp [w5];refine jj5 (fun w6=>?_) (fun w6=>?_)
          ·have w6':en < b:=jkb w6;simp;refine jj8 (ih r0 en b (by omega) w5' w6' (by omega) M hM) ?_;rintro v3 h3 ⟨M3,hM3,rfl⟩;simp;exact .done ⟨qam g19 g4 n lv M3,by simp [qam,qab],M3,hM3,rfl⟩
          ·simp;exact .done ⟨qam g19 g4 n lv M,by simp [qam,qab],M,hM,rfl⟩
         ·simp [w5];exact .done ⟨qam g19 g4 n lv M,by simp [qam,qab],M,hM,rfl⟩
       ·simp;refine jj5 (fun w3=>?_) (fun w3=>?_)
        ·have w3':a < i:=jkb w3;simp [w3];refine jj5 (fun w4=>?_) (fun w4=>?_)
         ·have w4':i < r0:=jkb w4;simp;refine jj8 (ih a i r0 (by omega) w3' w4' (by omega) L hL) ?_;rintro v2 h2 ⟨M2,hM2,rfl⟩;simp;refine jj5 (fun w5=>?_) (fun w5=>?_)
          ·have w5':r0 < en:=jkb w5;simp [w5];refine jj5 (fun w6=>?_) (fun w6=>?_)
           ·have w6':en < b:=jkb w6;simp;refine jj8 (ih r0 en b (by omega) w5' w6' (by omega) M2 hM2) ?_;rintro v3 h3 ⟨M3,hM3,rfl⟩;simp;exact .done ⟨qam g19 g4 n lv M3,by simp [qam,qab],M3,hM3,rfl⟩
           ·simp;exact .done ⟨qam g19 g4 n lv M2,by simp [qam,qab],M2,hM2,rfl⟩
          ·simp [w5];exact .done ⟨qam g19 g4 n lv M2,by simp [qam,qab],M2,hM2,rfl⟩
         ·simp;refine jj5 (fun w5=>?_) (fun w5=>?_)
          ·have w5':r0 < en:=jkb w5;simp [w5];refine jj5 (fun w6=>?_) (fun w6=>?_)
           ·have w6':en < b:=jkb w6;simp;refine jj8 (ih r0 en b (by omega) w5' w6' (by omega) L hL) ?_;rintro v3 h3 ⟨M3,hM3,rfl⟩;simp;exact .done ⟨qam g19 g4 n lv M3,by simp [qam,qab],M3,hM3,rfl⟩
           ·simp;exact .done ⟨qam g19 g4 n lv L,by simp [qam,qab],L,hL,rfl⟩
          ·simp [w5];exact .done ⟨qam g19 g4 n lv L,by simp [qam,qab],L,hL,rfl⟩
        ·simp [w3];refine jj5 (fun w5=>?_) (fun w5=>?_)
         ·have w5':r0 < en:=jkb w5;simp [w5];refine jj5 (fun w6=>?_) (fun w6=>?_)
          ·have w6':en < b:=jkb w6;simp;refine jj8 (ih r0 en b (by omega) w5' w6' (by omega) L hL) ?_;rintro v3 h3 ⟨M3,hM3,rfl⟩;simp;exact .done ⟨qam g19 g4 n lv M3,by simp [qam,qab],M3,hM3,rfl⟩
          ·simp;exact .done ⟨qam g19 g4 n lv L,by simp [qam,qab],L,hL,rfl⟩
         ·simp [w5];exact .done ⟨qam g19 g4 n lv L,by simp [qam,qab],L,hL,rfl⟩
      ·simp [w1];refine jj5 (fun w3=>?_) (fun w3=>?_)
       ·have w3':a < i:=jkb w3;simp [w3];refine jj5 (fun w4=>?_) (fun w4=>?_)
        ·have w4':i < r0:=jkb w4;simp;refine jj8 (ih a i r0 (by omega) w3' w4' (by omega) L hL) ?_;rintro v2 h2 ⟨M2,hM2,rfl⟩;simp;refine jj5 (fun w5=>?_) (fun w5=>?_)
         ·have w5':r0 < en:=jkb w5;simp [w5];refine jj5 (fun w6=>?_) (fun w6=>?_)
          ·have w6':en < b:=jkb w6;simp;refine jj8 (ih r0 en b (by omega) w5' w6' (by omega) M2 hM2) ?_;rintro v3 h3 ⟨M3,hM3,rfl⟩;simp;exact .done ⟨qam g19 g4 n lv M3,by simp [qam,qab],M3,hM3,rfl⟩
          ·simp;exact .done ⟨qam g19 g4 n lv M2,by simp [qam,qab],M2,hM2,rfl⟩
         ·simp [w5];exact .done ⟨qam g19 g4 n lv M2,by simp [qam,qab],M2,hM2,rfl⟩
        ·simp;refine jj5 (fun w5=>?_) (fun w5=>?_)
         ·have w5':r0 < en:=jkb w5;simp [w5];refine jj5 (fun w6=>?_) (fun w6=>?_)
          ·have w6':en < b:=jkb w6;simp;refine jj8 (ih r0 en b (by omega) w5' w6' (by omega) L hL) ?_;rintro v3 h3 ⟨M3,hM3,rfl⟩;simp;exact .done ⟨qam g19 g4 n lv M3,by simp [qam,qab],M3,hM3,rfl⟩
          ·simp;exact .done ⟨qam g19 g4 n lv L,by simp [qam,qab],L,hL,rfl⟩
         ·simp [w5];exact .done ⟨qam g19 g4 n lv L,by simp [qam,qab],L,hL,rfl⟩
       ·simp [w3];refine jj5 (fun w5=>?_) (fun w5=>?_)
        ·have w5':r0 < en:=jkb w5;simp [w5];refine jj5 (fun w6=>?_) (fun w6=>?_)
         ·have w6':en < b:=jkb w6;simp;refine jj8 (ih r0 en b (by omega) w5' w6' (by omega) L hL) ?_;rintro v3 h3 ⟨M3,hM3,rfl⟩;simp;exact .done ⟨qam g19 g4 n lv M3,by simp [qam,qab],M3,hM3,rfl⟩
         ·simp;exact .done ⟨qam g19 g4 n lv L,by simp [qam,qab],L,hL,rfl⟩
        ·simp [w5];exact .done ⟨qam g19 g4 n lv L,by simp [qam,qab],L,hL,rfl⟩
    ·have hd':¬ mid < m:=jkc hd;have c2:nn≤b + a:=by omega
     have hnn1:IntKind.i64.wrap ((nn:Int) - 1) = ((nn - 1:Nat):Int):=by rw [qas] <;> omega
     obtain ⟨pp,hpp⟩:∃ pp,nn - 1 = pp:=⟨_,rfl⟩;rw [hpp] at hnn1;simp [hnn1]
     refine jj6 (X:=Nat × Nat) (fun x=>[(20,qab x.1),(21,qab x.2),(22,qab pp),(19,qab nn),(18,qab mid),(0,.ref 19 g19 0 n (some n)),(1,qab a),(2,qab m),(3,qab b),(4,qdq g4)]) (fun x=>qam g19 g4 n lv L)
      (fun x=>a≤x.1/\x.1≤x.2/\x.2≤m) (fun x=>x.2 - x.1) (a,m) ⟨jki _,by simp only; omega,jki _⟩ (by simp [qab,qdq]) (by simp [qam,qab]) ?_
     rintro ⟨i,j⟩ ⟨q1,q2,q3⟩;dsimp only at q1 q2 q3;simp [qab,qam,qdq];refine jj5 (fun hi=>?_) (fun hi=>?_)
     ·have hi':i < j:=jkb hi;obtain ⟨ij,hij⟩:∃ ij,i + j = ij:=⟨_,rfl⟩;obtain ⟨h,hh⟩:∃ h,ij / 2 = h:=⟨_,rfl⟩;have hw:=qn4 hh (by omega);have hwh:=qbg h (by omega);obtain ⟨t,ht⟩:∃ t,pp = h + t:=⟨pp - h,by omega⟩;have hLl:=hL.len;have l1:h < n:=by omega
      have l2:t < n:=by omega
      have l3:h < L.length:=by omega
      have l4:t < L.length:=by omega
      simp [qtt hij (by omega),hw,ql6 ht (by omega),l1,l2,l3,l4,qap];intro gm
      first | refine ⟨_,_,_,qba (lv:=lv) (hL.get l4) (hL.get l3) (by simp [qab]),?_⟩ | refine ⟨_,⟨_,_,qba (lv:=lv) (hL.get l4) (hL.get l3) (by simp [qab])⟩,?_⟩ | refine ⟨_,_,⟨_,qba (lv:=lv) (hL.get l4) (hL.get l3) (by simp [qab])⟩,?_⟩
      simp;refine jj5 (fun hc=>?_) (fun hc=>?_)
      ·simp;exact ⟨i,h,⟨by omega,by omega,by omega⟩,by omega⟩
      ·simp [hwh];exact ⟨h + 1,j,⟨by omega,by omega,q3⟩,by omega⟩
     ·have hi':i = j:=by have:=jkc hi; omega
      obtain ⟨en,hen⟩:∃ en,nn = i + en:=⟨nn - i,by omega⟩;simp [ql6 hen (by omega)];refine jj5 (fun w1=>?_) (fun w1=>?_)
      ·have w1':i < m:=jkb w1;simp [w1];refine jj5 (fun w2=>?_) (fun w2=>?_)
       ·have w2':m < en:=jkb w2;simp;refine jj8 (qr0 (L:=L) hL hn i m en (by omega) (by omega) (by omega) _) ?_;rintro v h ⟨M,hM,rfl⟩;simp;refine jj5 (fun w3=>?_) (fun w3=>?_)
        ·have w3':a < i:=jkb w3;simp [w3];refine jj5 (fun w4=>?_) (fun w4=>?_)
         ·have w4':i < mid:=jkb w4;simp;refine jj8 (ih a i mid (by omega) w3' w4' (by omega) M hM) ?_;rintro v2 h2 ⟨M2,hM2,rfl⟩;simp;refine jj5 (fun w5=>?_) (fun w5=>?_)
          ·have w5':mid < en:=jkb w5;simp [w5];refine jj5 (fun w6=>?_) (fun w6=>?_)
           ·have w6':en < b:=jkb w6;simp;refine jj8 (ih mid en b (by omega) w5' w6' (by omega) M2 hM2) ?_;rintro v3 h3 ⟨M3,hM3,rfl⟩;simp;exact .done ⟨qam g19 g4 n lv M3,by simp [qam,qab],M3,hM3,rfl⟩
           ·simp;exact .done ⟨qam g19 g4 n lv M2,by simp [qam,qab],M2,hM2,rfl⟩
          ·simp [w5];exact .done ⟨qam g19 g4 n lv M2,by simp [qam,qab],M2,hM2,rfl⟩
         ·simp;refine jj5 (fun w5=>?_) (fun w5=>?_)
          ·have w5':mid < en:=jkb w5;simp [w5];refine jj5 (fun w6=>?_) (fun w6=>?_)
           ·have w6':en < b:=jkb w6;simp;refine jj8 (ih mid en b (by omega) w5' w6' (by omega) M hM) ?_;rintro v3 h3 ⟨M3,hM3,rfl⟩;simp;exact .done ⟨qam g19 g4 n lv M3,by simp [qam,qab],M3,hM3,rfl⟩
           ·simp;exact .done ⟨qam g19 g4 n lv M,by simp [qam,qab],M,hM,rfl⟩
          ·simp [w5];exact .done ⟨qam g19 g4 n lv M,by simp [qam,qab],M,hM,rfl⟩
        ·simp [w3];refine jj5 (fun w5=>?_) (fun w5=>?_)
         ·have w5':mid < en:=jkb w5;simp [w5];refine jj5 (fun w6=>?_) (fun w6=>?_)
          ·have w6':en < b:=jkb w6;simp;refine jj8 (ih mid en b (by omega) w5' w6' (by omega) M hM) ?_;rintro v3 h3 ⟨M3,hM3,rfl⟩;simp;exact .done ⟨qam g19 g4 n lv M3,by simp [qam,qab],M3,hM3,rfl⟩
          ·simp;exact .done ⟨qam g19 g4 n lv M,by simp [qam,qab],M,hM,rfl⟩
         ·simp [w5];exact .done ⟨qam g19 g4 n lv M,by simp [qam,qab],M,hM,rfl⟩
       ·simp;refine jj5 (fun w3=>?_) (fun w3=>?_)
        ·have w3':a < i:=jkb w3;simp [w3];refine jj5 (fun w4=>?_) (fun w4=>?_)
         ·have w4':i < mid:=jkb w4;simp;refine jj8 (ih a i mid (by omega) w3' w4' (by omega) L hL) ?_;rintro v2 h2 ⟨M2,hM2,rfl⟩;simp;refine jj5 (fun w5=>?_) (fun w5=>?_)
          ·have w5':mid < en:=jkb w5;simp [w5];refine jj5 (fun w6=>?_) (fun w6=>?_)
           ·have w6':en < b:=jkb w6;simp;refine jj8 (ih mid en b (by omega) w5' w6' (by omega) M2 hM2) ?_;rintro v3 h3 ⟨M3,hM3,rfl⟩;simp;exact .done ⟨qam g19 g4 n lv M3,by simp [qam,qab],M3,hM3,rfl⟩
           ·simp;exact .done ⟨qam g19 g4 n lv M2,by simp [qam,qab],M2,hM2,rfl⟩
          ·simp [w5];exact .done ⟨qam g19 g4 n lv M2,by simp [qam,qab],M2,hM2,rfl⟩
         ·simp;refine jj5 (fun w5=>?_) (fun w5=>?_)
          ·have w5':mid < en:=jkb w5;simp [w5];refine jj5 (fun w6=>?_) (fun w6=>?_)
           ·have w6':en < b:=jkb w6;simp;refine jj8 (ih mid en b (by omega) w5' w6' (by omega) L hL) ?_;rintro v3 h3 ⟨M3,hM3,rfl⟩;simp;exact .done ⟨qam g19 g4 n lv M3,by simp [qam,qab],M3,hM3,rfl⟩
           ·simp;exact .done ⟨qam g19 g4 n lv L,by simp [qam,qab],L,hL,rfl⟩
          ·simp [w5];exact .done ⟨qam g19 g4 n lv L,by simp [qam,qab],L,hL,rfl⟩
        ·simp [w3];refine jj5 (fun w5=>?_) (fun w5=>?_)
         ·have w5':mid < en:=jkb w5;simp [w5];refine jj5 (fun w6=>?_) (fun w6=>?_)
          ·have w6':en < b:=jkb w6;simp;refine jj8 (ih mid en b (by omega) w5' w6' (by omega) L hL) ?_;rintro v3 h3 ⟨M3,hM3,rfl⟩;simp;exact .done ⟨qam g19 g4 n lv M3,by simp [qam,qab],M3,hM3,rfl⟩
          ·simp;exact .done ⟨qam g19 g4 n lv L,by simp [qam,qab],L,hL,rfl⟩
         ·simp [w5];exact .done ⟨qam g19 g4 n lv L,by simp [qam,qab],L,hL,rfl⟩
      ·simp [w1];refine jj5 (fun w3=>?_) (fun w3=>?_)
       ·have w3':a < i:=jkb w3;simp [w3];refine jj5 (fun w4=>?_) (fun w4=>?_)
        ·have w4':i < mid:=jkb w4;simp;refine jj8 (ih a i mid (by omega) w3' w4' (by omega) L hL) ?_;rintro v2 h2 ⟨M2,hM2,rfl⟩;simp;refine jj5 (fun w5=>?_) (fun w5=>?_)
         ·have w5':mid < en:=jkb w5;simp [w5];refine jj5 (fun w6=>?_) (fun w6=>?_)
          ·have w6':en < b:=jkb w6;simp;refine jj8 (ih mid en b (by omega) w5' w6' (by omega) M2 hM2) ?_;rintro v3 h3 ⟨M3,hM3,rfl⟩;simp;exact .done ⟨qam g19 g4 n lv M3,by simp [qam,qab],M3,hM3,rfl⟩
          ·simp;exact .done ⟨qam g19 g4 n lv M2,by simp [qam,qab],M2,hM2,rfl⟩
         ·simp [w5];exact .done ⟨qam g19 g4 n lv M2,by simp [qam,qab],M2,hM2,rfl⟩
        ·simp;refine jj5 (fun w5=>?_) (fun w5=>?_)
         ·have w5':mid < en:=jkb w5;simp [w5];refine jj5 (fun w6=>?_) (fun w6=>?_)
          ·have w6':en < b:=jkb w6;simp;refine jj8 (ih mid en b (by omega) w5' w6' (by omega) L hL) ?_;rintro v3 h3 ⟨M3,hM3,rfl⟩;simp;exact .done ⟨qam g19 g4 n lv M3,by simp [qam,qab],M3,hM3,rfl⟩
          ·simp;exact .done ⟨qam g19 g4 n lv L,by simp [qam,qab],L,hL,rfl⟩
         ·simp [w5];exact .done ⟨qam g19 g4 n lv L,by simp [qam,qab],L,hL,rfl⟩
       ·simp [w3];refine jj5 (fun w5=>?_) (fun w5=>?_)
        ·have w5':mid < en:=jkb w5;simp [w5];refine jj5 (fun w6=>?_) (fun w6=>?_)
         ·have w6':en < b:=jkb w6;simp;refine jj8 (ih mid en b (by omega) w5' w6' (by omega) L hL) ?_;rintro v3 h3 ⟨M3,hM3,rfl⟩;simp;exact .done ⟨qam g19 g4 n lv M3,by simp [qam,qab],M3,hM3,rfl⟩
         ·simp;exact .done ⟨qam g19 g4 n lv L,by simp [qam,qab],L,hL,rfl⟩
        ·simp [w5];exact .done ⟨qam g19 g4 n lv L,by simp [qam,qab],L,hL,rfl⟩
end
section
open Go
variable {g19 g4 n:Nat} {lv:Nat->Nat} {L:List Nat}
def qdi (lv:Nat->Nat) (x y:Nat):Prop:=lv x < lv y∨(lv x = lv y/\x < y)
theorem q6c {A B:List Nat} {x:Nat} (h:(A ++ B).Pairwise (qdi lv)) (hB:∀ y ∈ B,lv x < lv y) (hA:∀ y ∈ A,y < x) (hl:A = []∨∃ A' y,A = A' ++ [y]/\¬ lv x < lv y):(A ++ x :: B).Pairwise (qdi lv):=by
 rw [List.pairwise_append] at h ⊢;obtain ⟨h1,h2,h3⟩:=h;refine ⟨h1,List.pairwise_cons.2 ⟨fun y hy=>.inl (hB y hy),h2⟩,fun a ha b hb=>?_⟩;rcases List.mem_cons.1 hb with rfl | hb
 ·rcases hl with rfl | ⟨A',y,rfl,hy⟩
  ·simp at ha
  ·have hay:lv a≤lv y:=by
    rcases List.mem_append.1 ha with q | q
    ·rw [List.pairwise_append] at h1;have:=h1.2.2 a q y (by simp);unfold qdi at this;omega
    ·simp at q; subst q; exact jki _
   have:=hA a ha;unfold qdi;omega
 ·exact h3 a ha b hb
theorem qzl (A:List Nat) (x y:Nat) (C:List Nat):((A ++ y :: x :: C).set (A.length + 1) y).set A.length x = A ++ x :: y :: C:=by
 rw [List.set_append_right _ _ (by omega),List.set_append_right _ _ (by omega)];simp
theorem q1v (a b:Nat):decide (q0c a b < 0) = decide (a < b):=by
 unfold q0c;by_cases h:a < b
 ·simp [h]
 ·by_cases h2:b < a <;> simp [h,h2]
theorem qoa (hL:InR n L) (hinc:L.Pairwise (· < ·)) (hn:n < 1000000) :
  qa2 Tryz.prog gl0 229 [.ref 19 g19 0 n (some n),qab 0,qab n,qdq g4] (qam g19 g4 n lv L) (fun _ h=>∃ L',InR n L'/\L'.Pairwise (qdi lv)/\h = qam g19 g4 n lv L'):=by
 by_cases hn0:n = 0
 ·refine jj8 (qj7 hL hn 0 n (by omega) (jki _)) ?_;rintro v h ⟨L',h1,h2,rfl⟩;obtain rfl:=h2 (by omega);have:L' = []:=List.length_eq_zero_iff.1 (by rw [h1.len,hn0]);exact ⟨L',h1,by rw [this]; exact List.Pairwise.nil,rfl⟩
 refine jka q2y rfl ?_;simp [q95,jib,qam,qab,qdq];have hLl:=hL.len
 refine jj6 (X:=Nat × List Nat) (fun x=>[(8,qab x.1),(0,.ref 19 g19 0 n (some n)),(1,qab 0),(2,qab n),(3,qdq g4)]) (fun x=>qam g19 g4 n lv (x.2 ++ L.drop x.1))
  (fun x=>x.1≤n/\x.2.length = x.1/\x.2.Pairwise (qdi lv)/\(∀ a ∈ x.2,a < n)/\∀ a ∈ x.2,∀ b ∈ L.drop x.1,a < b) (fun x=>n - x.1) (1,L.take 1) ⟨by simp only; omega,by simp; omega,?_,fun a ha=>hL.lt a (List.mem_of_mem_take ha),?_⟩ (by simp [qab,qdq]) (by simp only [List.take_append_drop]; simp [qam,qab]) ?_
 ·cases L with
  | nil=>simp
  | cons a l=>simp
 ·cases L with
  | nil=>simp
  | cons a l=>
   intro x hx y hy;simp at hx hy;subst hx;exact (List.pairwise_cons.1 hinc).1 y hy
 rintro ⟨i,P⟩ ⟨q1,q2,q3,q9,q4⟩;dsimp only at q1 q2 q3 q4 q9;simp [qab,qam,qdq];refine jj5 (fun hb=>?_) (fun hb=>?_)
 ·have hi:i < n:=jkb hb;have hwi:=qbg i (by omega);have hiL:i < L.length:=by omega
  rw [List.drop_eq_getElem_cons hiL] at q4;simp;rw [List.drop_eq_getElem_cons hiL];have hxn:=hL.lt L[i] (jkg hiL)
  have hRx:∀ b ∈ L.drop (i + 1),L[i] < b:=fun b hb=>by
   have:L.Pairwise (· < ·):=hinc;rw [<- List.take_append_drop i L,List.drop_eq_getElem_cons hiL,List.pairwise_append] at this;exact (List.pairwise_cons.1 this.2.1).1 b hb
  have hRn:∀ b ∈ L.drop (i + 1),b < n:=fun b hb=>hL.lt b (List.mem_of_mem_drop hb);have hRl:(L.drop (i + 1)).length = n - (i + 1):=by simp [hLl]
  generalize hx:L[i] = x at *;generalize hR:L.drop (i + 1) = R at *
  refine jj6 (X:=List Nat × List Nat) (fun y=>[(9,qab y.1.length),(8,qab i),(0,.ref 19 g19 0 n (some n)),(1,qab 0),(2,qab n),(3,qdq g4)]) (fun y=>qam g19 g4 n lv (y.1 ++ x :: (y.2 ++ R)))
   (fun y=>y.1.length + y.2.length = i/\(y.1 ++ y.2).Pairwise (qdi lv)/\(∀ a ∈ y.1 ++ y.2,a ∈ P)/\∀ b ∈ y.2,lv x < lv b) (fun y=>y.1.length) (P,[]) ⟨by simpa using q2,by simpa using q3,by simp,by simp⟩ (by simp [qab,qdq,q2]) (by simp [qam,qab]) ?_
  rintro ⟨A,B⟩ ⟨q5,q6,q7,q8⟩;dsimp only at q5 q6 q7 q8;have hAP:∀ a ∈ A,a < x:=fun a ha=>q4 a (q7 a (by simp [ha])) x (by simp);have hPn:∀ a ∈ A ++ B,a < n:=fun a ha=>Nat.lt_trans (q4 a (q7 a ha) x (by simp)) hxn;have hML:(A ++ x :: (B ++ R)).length = n:=by simp [hRl]; omega
  simp [qab,qam,qdq];intro gm
  have fin:∀ (hl:A = []∨∃ A' y,A = A' ++ [y]/\¬ lv x < lv y),i + 1≤n/\(A ++ x :: B).length = i + 1/\(A ++ x :: B).Pairwise (qdi lv)/\(∀ a ∈ A ++ x :: B,a < n)/\∀ a ∈ A ++ x :: B,∀ b ∈ R,a < b:=fun hl=>
   ⟨hi,by simp; omega,q6c q6 q8 hAP hl,fun a ha=>by
    rcases List.mem_append.1 ha with h | h
    ·exact hPn a (by simp [h])
    ·rcases List.mem_cons.1 h with rfl | h
     ·exact hxn
     ·exact hPn a (by simp [h]),fun a ha b hb=>by
    rcases List.mem_append.1 ha with h | h
    ·exact q4 a (q7 a (by simp [h])) b (by simp [hb])
    ·rcases List.mem_cons.1 h with rfl | h
     ·exact hRx b hb
     ·exact q4 a (q7 a (by simp [h])) b (by simp [hb])⟩
  rcases List.eq_nil_or_concat A with rfl | ⟨A',y,rfl⟩
  ·have hf:=fin (.inl rfl);simp [hwi];refine ⟨i + 1,x :: B,⟨hf.1,by simpa using hf.2.1,by simpa using hf.2.2.1,by simpa using hf.2.2.2.1,?_⟩,by simp,?_,by omega⟩
   ·rw [hR]; simpa using hf.2.2.2.2
   ·rw [hR]; simp
  ·simp only [List.concat_eq_append] at *;obtain ⟨p,hp⟩:∃ p,A'.length = p:=⟨_,rfl⟩;have hj:(A' ++ [y]).length = p + 1:=by simp [hp]
   have hwp:IntKind.i64.wrap (((p:Int) + 1) - 1) = (p:Int):=by
    have:p + 1≤n:=by rw [<- hj]; simp at q5 ⊢; omega
    rw [qas] <;> omega
   have hM:A' ++ [y] ++ x :: (B ++ R) = A' ++ y :: x :: (B ++ R):=by simp
   have hpl:p + 1 < n:=by rw [hM] at hML; simp [hp] at hML; omega
   have g1:(qaf (A' ++ y :: x :: (B ++ R)))[p + 1]? = some (.int .i64 (x:Int)):=by subst hp; simp [qaf,qab]
   have g2:(qaf (A' ++ y :: x :: (B ++ R)))[p]? = some (.int .i64 (y:Int)):=by subst hp; simp [qaf,qab]
   have hNl:A'.length + (B.length + (R.length + 1 + 1)) = n:=by rw [hM] at hML; simp at hML; omega
   have l1:p + 1 < (qaf (A' ++ y :: x :: (B ++ R))).length:=by simp; omega
   have l2:p < (qaf (A' ++ y :: x :: (B ++ R))).length:=by simp; omega
   have g1':(qaf (A' ++ y :: x :: (B ++ R)))[p + 1] = .int .i64 (x:Int):=by rw [jkh l1] at g1; exact Option.some.inj g1
   have g2':(qaf (A' ++ y :: x :: (B ++ R)))[p] = .int .i64 (y:Int):=by rw [jkh l2] at g2; exact Option.some.inj g2
   have hyn:=hPn y (by simp);rw [hM,hj];obtain ⟨j,hj2⟩:∃ j,p + 1 = j:=⟨_,rfl⟩;have hwp2:IntKind.i64.wrap ((j:Int) - 1) = (p:Int):=by rw [qas] <;> omega
   have hj0:0 < j:=by omega
   have hpn:p < n:=by omega
   simp only [hj2] at g1 g1' hpl ⊢;rw [qcp] at l1 l2;rw [hj2] at l1;simp only [List.length_append,List.length_cons] at l1 l2;simp [hj0,hwp2,hpl,hpn,g1',g2',l1,l2]
   first | refine ⟨_,_,_,qba (lv:=lv) hxn hyn (by simp [qab]),?_⟩ | refine ⟨_,⟨_,_,qba (lv:=lv) hxn hyn (by simp [qab])⟩,?_⟩ | refine ⟨_,_,⟨_,qba (lv:=lv) hxn hyn (by simp [qab])⟩,?_⟩
   simp [q1v];refine jj5 (fun hc=>?_) (fun hc=>?_)
   ·have hc':=jkb hc;have g3:∀ hh,((qaf (A' ++ y :: x :: (B ++ R))).set j (.int .i64 (y:Int)))[p]'hh = .int .i64 (y:Int):=fun hh=>by rw [List.getElem_set_ne (by omega)]; exact g2'
    simp [hwp2,hpl,hpn,g1',g2',l1,l2,g3]
    have hsw:((qaf (A' ++ y :: x :: (B ++ R))).set j (.int .i64 (y:Int))).set p (.int .i64 (x:Int)) = qaf (A' ++ x :: y :: (B ++ R)):=by
     rw [qdu,qdu,<- hj2,<- hp,qzl]
    rw [hsw];refine ⟨A',y :: B,⟨by simp at q5 ⊢; omega,by simpa using q6,fun a ha=>q7 a (by simpa using ha),fun b hb=>?_⟩,by simp [hp],rfl,by omega⟩;rcases List.mem_cons.1 hb with rfl | hb
    ·exact hc'
    ·exact q8 b hb
   ·have hc':=jkc hc;have hf:=fin (.inr ⟨A',y,rfl,hc'⟩);simp [hwi];refine ⟨i + 1,A' ++ [y] ++ x :: B,⟨hf.1,hf.2.1,hf.2.2.1,hf.2.2.2.1,?_⟩,by simp,?_,by omega⟩
    ·rw [hR]; exact hf.2.2.2.2
    ·rw [hR]; simp
 ·have hi:i = n:=by have:=jkc hb; omega
  simp;have hM:P ++ L.drop i = P:=by rw [hi,<- hLl,List.drop_length,List.append_nil]
  rw [hM];exact .done ⟨qam g19 g4 n lv P,by simp [qam,qab],P,⟨by omega,q9⟩,q3,rfl⟩
theorem qzq (hL:InR n L) (hinc:L.Pairwise (· < ·)) (hn:n < 1000000) :
  qa2 Tryz.prog gl0 157 [.ref 19 g19 0 n (some n),qab n,qdq g4] (qam g19 g4 n lv L) (fun _ h=>∃ L',InR n L'/\(n≤20->L'.Pairwise (qdi lv))/\h = qam g19 g4 n lv L'):=by
 by_cases h20:n < 20
 ·refine jka q2w rfl ?_;simp [q93,jh9,qam,qab,qdq];refine jj6 (X:=Unit) (fun _=>[(6,qab 20),(7,qab 0),(8,qab 20),(0,.ref 19 g19 0 n (some n)),(1,qab n),(2,qdq g4)]) (fun _=>qam g19 g4 n lv L) (fun _=>True) (fun _=>0) () trivial (by simp [qab,qdq]) (by simp [qam,qab]) ?_;intro _ _;have h1:¬ 20≤n:=by omega
  simp [qab,qam,qdq,h1];refine jj8 (qoa hL hinc hn) ?_;rintro v h ⟨L',q1,q2,rfl⟩;simp;refine jj6 (X:=Unit) (fun _=>[(6,qab 20),(1,qab n)]) (fun _=>qam g19 g4 n lv L') (fun _=>True) (fun _=>0) () trivial (by simp [qab]) (by simp [qam,qab]) ?_;intro _ _;have h2:¬ 20 < n:=by omega
  simp [qab,h2];exact .done ⟨qam g19 g4 n lv L',by simp [qam,qab],L',q1,fun _=>q2,rfl⟩
 ·refine jka q2w rfl ?_;simp [q93,jh9,qam,qab,qdq]
  refine jj6 (X:=Nat × Nat × List Nat) (fun x=>[(6,qab 20),(7,qab x.1),(8,qab x.2.1),(0,.ref 19 g19 0 n (some n)),(1,qab n),(2,qdq g4)]) (fun x=>qam g19 g4 n lv x.2.2)
   (fun x=>x.2.1 = x.1 + 20/\x.1≤n/\InR n x.2.2/\(x.1 = 0->x.2.2 = L)/\(n = 20->x.1 = 0∨(x.1 = 20/\x.2.2.Pairwise (qdi lv)))) (fun x=>n + 20 - x.2.1) (0,20,L) ⟨rfl,Nat.zero_le _,hL,fun _=>rfl,fun _=>.inl rfl⟩ (by simp [qab,qdq]) (by simp [qam,qab]) ?_
  rintro ⟨a,b,M⟩ ⟨q1,q2,q3,q4,q5⟩;dsimp only at q1 q2 q3 q4 q5;simp [qab,qam,qdq];refine jj5 (fun hb=>?_) (fun hb=>?_)
  ·have hb':b≤n:=jkb hb;obtain ⟨b2,hb2⟩:∃ b2,b + 20 = b2:=⟨_,rfl⟩;have hwb:IntKind.i64.wrap ((b:Int) + 20) = (b2:Int):=by rw [qas] <;> omega
   simp;by_cases hs:n = 20
   ·have ha:a = 0:=by omega
    have hbn:b = n:=by omega
    have hM:=q4 ha;subst hM ha hbn;refine jj8 (qoa hL hinc hn) ?_;rintro v h ⟨L',r1,r2,rfl⟩;simp [hwb];exact ⟨b,b2,L',⟨by omega,by omega,r1,fun h=>by omega,fun _=>.inr ⟨hs,r2⟩⟩,⟨rfl,rfl⟩,by simp [qam,qab],by omega⟩
   ·refine jj8 (qj7 q3 hn a b (by omega) hb') ?_;rintro v h ⟨L',r1,r2,rfl⟩;simp [hwb];exact ⟨b,b2,L',⟨by omega,by omega,r1,fun h=>by omega,fun h=>absurd h hs⟩,⟨rfl,rfl⟩,by simp [qam,qab],by omega⟩
  ·have hb':¬ b≤n:=jkc hb;simp;refine jj8 (qj7 q3 hn a n q2 (jki _)) ?_;rintro v h ⟨L',r1,r2,rfl⟩;simp
   have hp:n≤20->L'.Pairwise (qdi lv):=fun h=>by
    have h20':n = 20:=by omega
    rcases q5 h20' with h | ⟨h,hp⟩
    ·omega
    ·rw [r2 (by omega)]; exact hp
   refine jj6 (X:=Nat × List Nat) (fun x=>[(6,qab x.1),(0,.ref 19 g19 0 n (some n)),(1,qab n),(2,qdq g4)]) (fun x=>qam g19 g4 n lv x.2)
    (fun x=>20≤x.1/\x.1≤2 * n/\InR n x.2/\(n≤20->x.2.Pairwise (qdi lv))) (fun x=>2 * n - x.1) (20,L') ⟨jki _,by simp only; omega,r1,hp⟩ (by simp [qab,qdq]) (by simp [qam,qab]) ?_
   clear hp r1 r2 q3 q4 q5 L' hb;rintro ⟨bs,M⟩ ⟨q3,q6,q4,q5⟩;dsimp only at q3 q4 q5 q6;simp [qab,qam,qdq];refine jj5 (fun hc=>?_) (fun hc=>?_)
   ·have hc':bs < n:=jkb hc;obtain ⟨b2,hb2⟩:∃ b2,2 * bs = b2:=⟨_,rfl⟩;have hwb:IntKind.i64.wrap (2 * (bs:Int)) = (b2:Int):=by rw [qas] <;> omega
    simp [hwb]
    refine jj6 (X:=Nat × List Nat) (fun x=>[(7,qab x.1),(8,qab (x.1 + b2)),(6,qab bs),(0,.ref 19 g19 0 n (some n)),(1,qab n),(2,qdq g4)]) (fun x=>qam g19 g4 n lv x.2)
     (fun x=>x.1≤n/\InR n x.2) (fun x=>n - x.1) (0,M) ⟨Nat.zero_le _,q4⟩ (by simp [qab,qdq]) (by simp [qam,qab]) ?_
    clear q4 q5 M;rintro ⟨a',M⟩ ⟨q7,q4⟩;dsimp only at q4 q7;obtain ⟨e1,he1⟩:∃ e1,a' + b2 = e1:=⟨_,rfl⟩;obtain ⟨e2,he2⟩:∃ e2,a' + bs = e2:=⟨_,rfl⟩;obtain ⟨e3,he3⟩:∃ e3,e1 + b2 = e3:=⟨_,rfl⟩;rw [he1];simp [qab,qam,qdq];refine jj5 (fun hd=>?_) (fun hd=>?_)
    ·have hd':e1≤n:=jkb hd;simp [qtt he2 (by omega)];refine jj8 (qkn hn (e1 - a') a' e2 e1 (jki _) (by omega) (by omega) hd' M q4) ?_;rintro v h ⟨L',r1,rfl⟩;simp [hwb,qtt he3 (by omega)];exact ⟨e1,L',⟨hd',r1⟩,by omega,by simp [qam,qab],by omega⟩
    ·have hd':¬ e1≤n:=jkc hd;have hwb2:IntKind.i64.wrap ((bs:Int) * 2) = (b2:Int):=by rw [qas] <;> omega
     simp [qtt he2 (by omega)];refine jj5 (fun hf=>?_) (fun hf=>?_)
     ·have hf':e2 < n:=jkb hf;simp;refine jj8 (qkn hn (n - a') a' e2 n (jki _) (by omega) hf' (jki _) M q4) ?_;rintro v h ⟨L',r1,rfl⟩;simp [hwb2];exact ⟨b2,L',⟨by omega,by omega,r1,fun h=>by omega⟩,by simp,by simp [qam,qab],by omega⟩
     ·simp [hwb2];exact ⟨b2,M,⟨by omega,by omega,q4,fun h=>by omega⟩,by simp,by simp,by omega⟩
   ·have hc':¬ bs < n:=jkc hc;simp;exact .done ⟨qam g19 g4 n lv M,by simp [qam,qab],M,q4,q5,rfl⟩
end
section
open Go
theorem CallO.weaken {P:Program} {gl:Fr} {f:FuncId} {args:List V} {h h2:Hp} {K:V->Hp->Prop} (hs:Sub h2 h) (hc:qa2 P gl f args h2 K):qa2 P gl f args h K:=
 ⟨hc.1,fun G M w rargs h1 h2' h3 h4=>hc.2 G M w rargs ⟨h1.gw,fun b k hb=>h1.hb b k (hs.spec b k hb),h1.inj,h1.mlt⟩ h2' h3 h4⟩
variable {g19 g4 n:Nat} {lv:Nat->Nat} {L:List Nat}
theorem qtd (hL:InR n L) (hinc:L.Pairwise (· < ·)) (hn:n < 1000000) :
  qa2 Tryz.prog gl0 93 [.ref 19 g19 0 n (some n),qdq g4] (qam g19 g4 n lv L) (fun _ h=>∃ L',InR n L'/\(n≤20->L'.Pairwise (qdi lv))/\h = qam g19 g4 n lv L'):=by
 refine jka ok93 rfl ?_;simp [i93,x93,qam,qab,qdq];refine jj8 (qzq hL hinc hn) ?_;rintro v h ⟨L',q1,q2,rfl⟩;simp;exact .done ⟨qam g19 g4 n lv L',by simp [qam,qab],L',q1,q2,rfl⟩
def OrdK (c:Ci) (v:V) (h:Hp):Prop:=(qi5 c ≠ 0/\v = .tup [.nil,.int .i64 (qi5 c)]/\h = [])∨
 (qi5 c = 0/\∃ g L,v = .tup [.ref 0 g 0 c.n.length (some c.n.length),.int .i64 0]/\h = [(0,.row g 1 (qaf L))]/\InR c.n.length L/\(c.n.length≤20->L.Pairwise (qdi (qew c))))
theorem q1t {c:Ci} (h:qi5 c = 0):c.n.length≤16384:=by
 unfold qi5 at h;split at h
 ·rename_i h1; exact absurd h h1
 ·rename_i h1; exact (qwl (Classical.not_not.1 h1)).1
theorem qvz (c:Ci) (hwf:c.wf):qce Tryz.prog gl0 26 [c.v] (OrdK c):=by
 refine jj9 ok26 rfl ?_;have hlv:=qog c hwf;rw [qro] at hlv;simp [i26,x26];intro gf;refine jj4 hlv (by simp) ?_;by_cases he:qi5 c = 0
 ·have hl:=q1t he;have hle:c.n.length≤549755813888:=by omega
  simp [he,hle];intro gf2 gf3;generalize gf 1 = g1;generalize gf2 4 = g4;generalize gf3 19 = g19
  refine jj6 (X:=Nat) (fun x=>[(22,qab x),(21,qab c.n.length),(6,.ref 19 g19 0 c.n.length (some c.n.length)),(4,.ptr 4 g4 0 0)]) (fun x=>qam g19 g4 c.n.length (qew c) (tab c.n.length fun j=>if j < x then j else 0))
   (fun x=>x≤c.n.length) (fun x=>c.n.length - x) 0 (Nat.zero_le _) (by simp [qab]) (by simp [qam,qab,qaf,qqt,qhv]) ?_
  intro i hi;simp [qab,qam];refine jj5 (fun hb=>?_) (fun hb=>?_)
  ·have hi':i < c.n.length:=jkb hb;have hw:=qbg i (by omega);simp [hi',hw,qdu,qc8,qap];refine ⟨i + 1,hi',by simp,?_,by omega⟩;congr 1;refine qa3 fun j _=>?_;by_cases e:j = i
   ·subst e; simp
   ·rw [qbv _ _ e];by_cases h:j < i
    ·rw [if_pos h,if_pos (by omega)]
    ·rw [if_neg h,if_neg (by omega)]
  ·have hi':i = c.n.length:=by have:=jkc hb; omega
   subst hi';simp;have hR:InR c.n.length (List.range c.n.length):=⟨by simp,by simp⟩
   have hT:(tab c.n.length fun j=>if j < c.n.length then j else 0) = List.range c.n.length:=by
    have:(tab c.n.length fun j=>if j < c.n.length then j else 0) = tab c.n.length fun j=>j:=qa3 fun j hj=>by rw [if_pos hj]
    rw [this]; simp [tab]
   rw [hT];refine CallO.weaken (h2:=qam g19 g4 c.n.length (qew c) (List.range c.n.length)) (by simp [qam,qab]) (jj8 (qtd hR List.pairwise_lt_range (by omega)) ?_);rintro v h ⟨L',q1,q2,rfl⟩;simp;refine .move 19 0 _ (by simp) (by simp [qam]; rfl) fun g2=>.done ⟨[(0,.row g2 1 (qaf L'))],?_,.inr ⟨he,g2,L',?_,rfl,q1,q2⟩⟩
   ·simp [qam,qbi (qay L')]
   ·simp
 ·simp [he];refine fun gf2=>.done ⟨[],trivial,.inl ⟨he,rfl,rfl⟩⟩
end
section
open Go
theorem qo9 (l:List (List UInt8)):jid (l.map V.str) = true:=V.pureL_map _ l fun _=>rfl
end
section
open Go
@[simp] theorem q9p (c:Ci):c.v.cells = [.sl (c.n.map Nd.v) none,.sl (c.s.map .str) none,.sl (c.m.map Md.v) none,.sl (qdh c.o) none]:=rfl
@[simp] theorem jag (c:Nd):c.v.cells = [.int .u8 c.k,.sl (qdh c.i) none,.int .i64 c.a,.int .i64 c.b]:=rfl
@[simp] theorem q99 (c:Md):c.v.cells = [.sl (qdh c.a) none,.sl (qdh c.d) none,.int .i64 c.w]:=rfl
end
end Go.Proofs.YtbbnmiaabmbheaaGreatDoor
