/- Lemmas. Conditions: none. -/
import Derived.Test.YtlmniacemoohpaaGreatDoorNet4
set_option linter.all false
namespace Go.Proofs.YtlmniacemoohpaaGreatDoor
section
open Go
end
section
open Go
structure RS (n:Nat) (g:Nat->List Nat) (r:Nat) (o:Nat->Nat):Prop where
 up:∀ f,qjz n g f->∀ j,j < n->o j≤f j
 lo:∀ f,qjz n g f->∀ j,j < n->min (f j) r≤o j
 at':∀ j,j < n->o j≤mx o (g j)
 rn:∀ f,qjz n g f->r≤n
structure RR (n:Nat) (g:Nat->List Nat) (r:Nat) (o0 o:Nat->Nat) (a:Bool) (i k:Nat):Prop where
 p0:RS n g r o0
 mono:∀ j,j < n->o0 j≤o j
 up:∀ f,qjz n g f->∀ j,j < n->o j≤f j
 at':∀ j,j < n->o j≤mx o (g j)
 e:∀ j,j < i->∀ x ∈ g j,o0 x + 1≤o j
 ek:∀ x ∈ (g i).take k,o0 x + 1≤o i
 ch:a = true->∃ j,j < n/\o0 j < o j
 un:a = false->∀ j,j < n->o j = o0 j
variable {n r i k:Nat} {g:Nat->List Nat} {o0 o:Nat->Nat} {a:Bool}
end
section
open Go
structure LR where
 r:Nat
 o:Nat->Nat
structure LI where
 i:Nat
 a:Bool
 o:Nat->Nat
theorem qkq:∀ {l:List Int} {t:Int},qwj l t = 0->(∀ x ∈ l,x = 0)/\t = 0
 | [],t,h=>⟨by simp,h⟩
 | x :: l,t,h=>by
  simp only [qwj] at h;split at h
  ·rename_i hx; exact absurd h hx
  ·rename_i hx;have hx0:x = 0:=Classical.not_not.1 hx;obtain ⟨h1,h2⟩:=qkq h;exact ⟨fun y hy=>by rcases List.mem_cons.1 hy with rfl | hy; exact hx0; exact h1 y hy,h2⟩
theorem qlh {c:Ci} (h:shE c = 0):qi1 c = false/\c.s.length = c.n.length/\(∀ x ∈ c.n,ndE c x = 0)/\qly [] c.s = false/\(∀ m ∈ c.m,mdE c m = 0)/\c.o.any (qla c.n.length) = false:=by
 unfold shE at h;split at h
 ·cases h
 ·rename_i h1;split at h
  ·cases h
  ·rename_i h2;obtain ⟨h3,h4⟩:=qkq h;unfold shS at h4;split at h4
   ·cases h4
   ·rename_i h5;obtain ⟨h6,h7⟩:=qkq h4;unfold shO at h7;split at h7
    ·cases h7
    ·rename_i h8;exact ⟨by simpa using h1,Classical.not_not.1 h2,fun x hx=>h3 _ (List.mem_map_of_mem hx),by simpa using h5,fun x hx=>h6 _ (List.mem_map_of_mem hx),by simpa using h8⟩
theorem qn7 {c:Ci} {x:Nd} (h:ndE c x = 0):x.k≤15/\qlq x.k x.i.length = true/\x.i.any (qla c.n.length) = false/\(x.k = 13->x.i.any (fun v=>!decide ((c.nd v.toNat).k = 12)) = false)/\qza c x = true:=by
 unfold ndE at h;split at h
 ·cases h
 ·rename_i h1;split at h
  ·cases h
  ·rename_i h2;split at h
   ·cases h
   ·rename_i h3;split at h
    ·cases h
    ·rename_i h4;split at h
     ·cases h
     ·rename_i h5;exact ⟨by omega,by simpa using h2,by simpa using h3,fun hk=>by simpa [hk] using h4,by simpa using h5⟩
theorem q13 {c:Ci} (hwf:c.wf) (h:shE c = 0):c.val:=by
 obtain ⟨h1,h2,h3,h4,h5,h6⟩:=qlh h;refine ⟨fun j hj x hx=>?_,fun j hj=>?_⟩
 ·rw [c.nd_get hj] at hx;have:=(qn7 (h3 _ (ji3 hj))).2.2.1;have:=List.any_eq_false.1 this x hx;simp [qla] at this;omega
 ·rw [c.nd_get hj];obtain ⟨q1,q2,-⟩:=qn7 (h3 _ (ji3 hj));exact qyu (hwf.k _ (ji3 hj)).1 q1 q2
theorem qqd {c:Ci} (h:shE c = 0):c.n.length≤16384/\c.s.length = c.n.length/\c.m.length≤16/\c.o.length≤16384:=by
 obtain ⟨h1,h2,-⟩:=qlh h;simp [qi1] at h1;omega
open Classical in
noncomputable def qsn (c:Ci):Int:=if shE c ≠ 0 then shE c else if qyz c then 0 else 6
theorem qps (c:Ci) (hwf:c.wf):qac Tryz.prog gl0 87 [c.v] (qup c (shE c)):=
 qz7 c _ (q4s c hwf) (q13 hwf) (fun h=>by have:=qqd h; omega)
open Classical in
theorem qth (c:Ci):qup c (shE c) = .tup [if qsn c = 0 then .sl (tab c.n.length fun i=>qab (qos c i)) (some c.n.length) else .nil,.int .i64 (qsn c)]:=by
 unfold qup qsn;by_cases h1:shE c = 0
 ·by_cases h2:qyz c <;> simp [h1,h2]
 ·simp [h1]
theorem q2v (c:Ci) (hwf:c.wf):qac Tryz.prog gl0 111 [c.v] (.int .i64 (qsn c)):=by
 refine jiu 2 q8g rfl ?_;have:=qps c hwf;rw [qth] at this;simp [jd2,x111];intro gf;refine jir this (by simp) ?_;simp
end
section
open Go
def qan (g19 g4 n:Nat) (lv:Nat->Nat) (L:List Nat):Hp:=[(19,.row g19 1 (qah L)),(4,.row g4 1 [.sl (tab n fun i=>qab (lv i)) (some n)])]
structure InR (n:Nat) (L:List Nat):Prop where
 len:L.length = n
 lt:∀ x ∈ L,x < n
variable {g19 g4 n:Nat} {lv:Nat->Nat} {L:List Nat}
theorem jiv {P:Program} {gl:Fr} {f:FuncId} {args:List V} {h:Hp} {K K':V->Hp->Prop} (hc:qa6 P gl f args h K) (hk:∀ v h,K v h->K' v h):qa6 P gl f args h K':=
 ⟨hc.1,fun G M w rargs h1 h2 h3 h4=>Calls.mono (hc.2 G M w rargs h1 h2 h3 h4) fun _ _ ⟨rv,v,h',G',M',q1,q2,q3⟩=>⟨rv,v,h',G',M',q1,hk _ _ q2,q3⟩⟩
theorem qed (L:List Nat) (i x:Nat):(qah L).set i (.int .i64 (x:Int)) = qah (L.set i x):=by simp [qah,qab,List.map_set]
theorem qar (L:List Nat) (i:Nat) (h:i < (qah L).length):(qah L)[i] = .int .i64 ((L[i]'(by simpa using h):Nat):Int):=by simp [qah,qab]
theorem InR.set (h:InR n L) {i x:Nat} (hx:x < n):InR n (L.set i x):=⟨by simpa using h.len,fun y hy=>by
 rcases List.mem_or_eq_of_mem_set hy with q | q
 ·exact h.lt y q
 ·rw [q]; exact hx⟩
theorem InR.get (h:InR n L) {i:Nat} (hi:i < L.length):L[i] < n:=h.lt _ (ji3 hi)
def q1d (a b:Nat):Int:=if a < b then -1 else if b < a then 1 else 0
theorem qw3 (a:Int):qac Tryz.prog gl0 135 [.int .i64 a] (.bool false):=by
 refine jiu 2 q8r rfl ?_;simp [jec,x135]
theorem qv6 (a b:Nat):qac Tryz.prog gl0 90 [.int .i64 (a:Int),.int .i64 (b:Int)] (.int .i64 (q1d a b)):=by
 refine jiu 2 ok90 rfl ?_;simp [i90,x90];refine jir (qw3 _) (by simp) ?_;simp;refine jir (qw3 _) (by simp) ?_;simp;refine jis (fun h=>?_) (fun h=>?_)
 ·have h':=jiy h;simp [q1d,h']
 ·have h':=jiz h;simp;refine jis (fun h2=>?_) (fun h2=>?_)
  ·have h2':=jiy h2;simp [q1d,h',h2']
  ·have h2':=jiz h2;simp [q1d,h',h2']
theorem jdi (a b:Nat) (ha:a < n) (hb:b < n):qac Tryz.prog gl0 89 [.int .i64 (a:Int),.int .i64 (b:Int),.iptr (.sl (tab n fun i=>qab (lv i)) (some n)) 0] (.int .i64 (q1d (lv a) (lv b))):=by
 refine jiu 2 ok89 rfl ?_;simp [i89,x89,ha,hb,qa1,qab];intro gm;refine ⟨_,_,⟨_,.pure (qv6 _ _) (by simp)⟩,?_⟩;simp
theorem qyq (n:Nat) (lv:Nat->Nat):jgy (tab n fun i=>qab (lv i)) = true:=qcd fun _=>rfl
theorem qhs (hL:InR n L) (hn:n < 1000000) (a b k:Nat) (ha:a + k≤n) (hb:b + k≤n) (cf:V) :
  qa6 Tryz.prog gl0 171 [.ref 19 g19 0 n (some n),qab a,qab b,qab k,cf] (qan g19 g4 n lv L) (fun _ h=>∃ L',InR n L'/\h = qan g19 g4 n lv L'):=by
 refine jix q9h rfl ?_;simp [je1,x171,qan,qab]
 refine jit (X:=Nat × List Nat) (fun x=>[(10,qab x.1),(0,.ref 19 g19 0 n (some n)),(1,qab a),(2,qab b),(3,qab k)]) (fun x=>qan g19 g4 n lv x.2)
  (fun x=>x.1≤k/\InR n x.2) (fun x=>k - x.1) (0,L) ⟨Nat.zero_le _,hL⟩ (by simp [qab]) (by simp [qan,qab]) ?_
 rintro ⟨i,M⟩ ⟨h1,h2⟩;dsimp only at h1 h2;simp [qab,qan];refine jis (fun hb=>?_) (fun hb=>?_)
 ·have hi:i < k:=jiy hb;have hw:=qbg i (by omega);obtain ⟨p,hp⟩:∃ p,a + i = p:=⟨_,rfl⟩;obtain ⟨r,hr⟩:∃ r,b + i = r:=⟨_,rfl⟩;have hwa:IntKind.i64.wrap ((a:Int) + (i:Int)) = (p:Int):=by rw [qaq] <;> omega
  have hwb:IntKind.i64.wrap ((b:Int) + (i:Int)) = (r:Int):=by rw [qaq] <;> omega
  have hMl:=h2.len;have h1:p < n:=by omega
  have h2':r < n:=by omega
  have h3:p < M.length:=by omega
  have h4:r < M.length:=by omega
  simp [hwa,hwb,h1,h2',qar,qed,hw,hMl];refine ⟨i + 1,_,⟨hi,(h2.set (h2.get h4)).set (h2.get h3)⟩,by simp,rfl,by omega⟩
 ·simp;exact .done ⟨qan g19 g4 n lv M,by simp [qan,qab],M,h2,rfl⟩
theorem qvv {a b p:Nat} (h:a + b = p) (hp:p < 1000000000000000000):IntKind.i64.wrap ((a:Int) + (b:Int)) = (p:Int):=by rw [qaq] <;> omega
theorem qqo {a b p:Nat} (h:a = b + p) (hp:a < 1000000000000000000):IntKind.i64.wrap ((a:Int) - (b:Int)) = (p:Int):=by rw [qaq] <;> omega
theorem qtw (hL:InR n L) (hn:n < 1000000) (a m b:Nat) (h1:a < m) (h2:m < b) (h3:b≤n) (cf:V) :
  qa6 Tryz.prog gl0 166 [.ref 19 g19 0 n (some n),qab a,qab m,qab b,cf] (qan g19 g4 n lv L) (fun _ h=>∃ L',InR n L'/\h = qan g19 g4 n lv L'):=by
 refine jix q9c rfl ?_;obtain ⟨i0,hi0⟩:∃ i0,m = a + i0:=⟨m - a,by omega⟩;obtain ⟨j0,hj0⟩:∃ j0,b = m + j0:=⟨b - m,by omega⟩;simp [jex,x166,qan,qab,qqo hi0 (by omega),qqo hj0 (by omega)]
 refine jit (X:=Nat × Nat × List Nat) (fun x=>[(10,qab x.1),(11,qab x.2.1),(0,.ref 19 g19 0 n (some n)),(2,qab m),(4,cf)]) (fun x=>qan g19 g4 n lv x.2.2)
  (fun x=>0 < x.1/\0 < x.2.1/\x.1≤m/\m + x.2.1≤n/\InR n x.2.2) (fun x=>x.1 + x.2.1) (i0,j0,L) ⟨by simp only; omega,by simp only; omega,by simp only; omega,by simp only; omega,hL⟩ (by simp [qab]) (by simp [qan,qab]) ?_
 rintro ⟨i,j,M⟩ ⟨q1,q2,q3,q4,q5⟩;dsimp only at q1 q2 q3 q4 q5;obtain ⟨mi,hmi⟩:∃ mi,m = i + mi:=⟨m - i,by omega⟩;simp [qab,qan];refine jis (fun hb=>?_) (fun hb=>?_)
 ·have hb':=jiy hb;subst hb';simp [qqo hmi (by omega)];refine jiv (qhs (L:=M) q5 hn mi m i (by omega) (by omega) cf) ?_;rintro v h ⟨M',q6,rfl⟩;simp;exact .done ⟨qan g19 g4 n lv M',by simp [qan,qab],M',q6,rfl⟩
 ·have hb':=jiz hb;simp;refine jis (fun hc=>?_) (fun hc=>?_)
  ·have hc':=jiy hc;obtain ⟨ij,hij⟩:∃ ij,i = j + ij:=⟨i - j,by omega⟩;simp [qqo hmi (by omega)];refine jiv (qhs (L:=M) q5 hn mi m j (by omega) (by omega) cf) ?_;rintro v h ⟨M',q6,rfl⟩;simp [qqo hij (by omega)];exact ⟨ij,j,M',⟨by omega,q2,by omega,q4,q6⟩,⟨rfl,rfl⟩,by simp [qan,qab],by omega⟩
  ·have hc':=jiz hc;obtain ⟨ji,hji⟩:∃ ji,j = i + ji:=⟨j - i,by omega⟩;obtain ⟨mj,hmj⟩:∃ mj,m + j = mj:=⟨_,rfl⟩;obtain ⟨mji,hmji⟩:∃ mji,mj = i + mji:=⟨mj - i,by omega⟩;simp [qqo hmi (by omega),qvv hmj (by omega),qqo hmji (by omega)];refine jiv (qhs (L:=M) q5 hn mi mji i (by omega) (by omega) cf) ?_;rintro v h ⟨M',q6,rfl⟩;simp [qqo hji (by omega)];exact ⟨i,ji,M',⟨q1,by omega,q3,by omega,q6⟩,⟨rfl,rfl⟩,by simp [qan,qab],by omega⟩
theorem qpi {x p:Nat} (hp:x / 2 = p) (h:x < 1000000000000000000):IntKind.i64.wrap ((IntKind.u64.wrap (x:Int)).fdiv (2 ^ min 1 IntKind.u64.bits)) = (p:Int):=by
 have h0:(2 ^ min 1 IntKind.u64.bits:Int) = 2:=rfl;rw [h0];have h1:IntKind.u64.wrap (x:Int) = (x:Int):=by simp [IntKind.wrap,IntKind.bits,IntKind.signed]; omega
 rw [h1]
 have h2:(x:Int).fdiv 2 = ((x / 2:Nat):Int):=by
  rw [Int.fdiv_eq_ediv_of_nonneg _ (by omega)]; rfl
 rw [h2,hp,qaq] <;> omega
def qd6 (g4:Nat):V:=.fn 89 [] [.ptr 4 g4 0 0]
theorem qbf {h:Hp} {a b:Nat} (ha:a < n) (hb:b < n) (hh:lk h 4 = some (.row g4 1 [.sl (tab n fun i=>qab (lv i)) (some n)])) {gm:Nat->Nat} {d:Option Nat} :
  qd4 Tryz.prog gl0 gm d 89 [.int .i64 (a:Int),.int .i64 (b:Int),.ptr 4 g4 0 0] h (.int .i64 (q1d (lv a) (lv b))) [] (d.toList ++ h.map (·.1)):=by
 refine .borrow 2 (jdi (lv:=lv) a b ha hb) ?_ rfl;simp [hh,frz];exact qak _ (qyq n lv)
theorem qkz (hL:InR n L) (hn:n < 1000000) (a b:Nat) (ha:a≤n) (h3:b≤n) :
  qa6 Tryz.prog gl0 157 [.ref 19 g19 0 n (some n),qab a,qab b,qd6 g4] (qan g19 g4 n lv L) (fun _ h=>∃ L',InR n L'/\(b≤a + 1->L' = L)/\h = qan g19 g4 n lv L'):=by
 refine jix q4a rfl ?_;obtain ⟨a1,ha1⟩:∃ a1,a + 1 = a1:=⟨_,rfl⟩;have hwa:IntKind.i64.wrap ((a:Int) + 1) = (a1:Int):=by rw [qaq] <;> omega
 simp [jbp,jgu,qan,qab,qd6,hwa]
 refine jit (X:=Nat × List Nat) (fun x=>[(8,qab x.1),(0,.ref 19 g19 0 n (some n)),(1,qab a),(2,qab b),(3,qd6 g4)]) (fun x=>qan g19 g4 n lv x.2)
  (fun x=>a1≤x.1/\InR n x.2/\(b≤a + 1->x.2 = L)) (fun x=>b - x.1) (a1,L) ⟨ji5 _,hL,fun _=>rfl⟩ (by simp [qab,qd6]) (by simp [qan,qab]) ?_
 rintro ⟨i,M⟩ ⟨q1,q2,q3⟩;dsimp only at q1 q2 q3;simp [qab,qan,qd6];refine jis (fun hb=>?_) (fun hb=>?_)
 ·have hi:i < b:=jiy hb;have hwi:=qbg i (by omega);simp
  refine jit (X:=Nat × List Nat) (fun x=>[(9,qab x.1),(8,qab i),(0,.ref 19 g19 0 n (some n)),(1,qab a),(2,qab b),(3,qd6 g4)]) (fun x=>qan g19 g4 n lv x.2)
   (fun x=>x.1≤i/\InR n x.2) (fun x=>x.1) (i,M) ⟨ji5 _,q2⟩ (by simp [qab,qd6]) (by simp [qan,qab]) ?_
  clear q2 q3 M;rintro ⟨j,M⟩ ⟨q4,q2⟩;dsimp only at q4 q2;simp [qab,qan,qd6];intro gm;refine jis (fun hj=>?_) (fun hj=>?_)
  ·have hj':a < j:=jiy hj;obtain ⟨p,hp⟩:∃ p,j = 1 + p:=⟨j - 1,by omega⟩;have hwp:IntKind.i64.wrap ((j:Int) - 1) = (p:Int):=by rw [qaq] <;> omega
   have hMl:=q2.len;have l1:j < n:=by omega
   have l2:p < n:=by omega
   have l3:j < M.length:=by omega
   have l4:p < M.length:=by omega
   simp [hj,hwp,l1,l2,l3,l4,qar];refine ⟨_,_,_,qbf (lv:=lv) (q2.get l3) (q2.get l4) (by simp [qab]),?_⟩;simp;refine jis (fun hc=>?_) (fun hc=>?_)
   ·simp [hwp,l1,l2,qar,qed,hMl];exact ⟨p,_,⟨by omega,(q2.set (q2.get l4)).set (q2.get l3)⟩,by simp,rfl,by omega⟩
   ·simp [hwi];exact ⟨i + 1,M,⟨by omega,q2,fun h=>by omega⟩,by simp,by simp,by omega⟩
  ·simp [hj,hwi];exact ⟨i + 1,M,⟨by omega,q2,fun h=>by omega⟩,by simp,by simp,by omega⟩
 ·have hi:¬ i < b:=jiz hb;simp;exact .done ⟨qan g19 g4 n lv M,by simp [qan,qab],M,q2,q3,rfl⟩
set_option maxHeartbeats 1600000 in
theorem qln (hn:n < 1000000):∀ (k a m b:Nat),b - a≤k->a < m->m < b->b≤n->∀ L,InR n L->
  qa6 Tryz.prog gl0 158 [.ref 19 g19 0 n (some n),qab a,qab m,qab b,qd6 g4] (qan g19 g4 n lv L) (fun _ h=>∃ L',InR n L'/\h = qan g19 g4 n lv L'):=by
 intro k
 induction k with
 | zero=>intro a m b h1 h2 h3; omega
 | succ k ih=>
  intro a m b hk ham hmb hbn L hL;refine jix q84 rfl ?_;obtain ⟨ma,hma⟩:∃ ma,m = a + ma:=⟨m - a,by omega⟩;obtain ⟨bm,hbm⟩:∃ bm,b = m + bm:=⟨b - m,by omega⟩;simp [jep,x158,qan,qab,qd6,qqo hma (by omega)];refine jis (fun hb=>?_) (fun hb=>?_)
  ·have hb':ma = 1:=jiy hb;simp
   refine jit (X:=Nat × Nat) (fun x=>[(10,qab x.1),(11,qab x.2),(0,.ref 19 g19 0 n (some n)),(1,qab a),(2,qab m),(3,qab b),(4,qd6 g4)]) (fun x=>qan g19 g4 n lv L)
    (fun x=>m≤x.1/\x.1≤x.2/\x.2≤b) (fun x=>x.2 - x.1) (m,b) ⟨ji5 _,by simp only; omega,ji5 _⟩ (by simp [qab,qd6]) (by simp [qan,qab]) ?_
   rintro ⟨i,j⟩ ⟨q1,q2,q3⟩;dsimp only at q1 q2 q3;simp [qab,qan,qd6];refine jis (fun hi=>?_) (fun hi=>?_)
   ·have hi':i < j:=jiy hi;obtain ⟨ij,hij⟩:∃ ij,i + j = ij:=⟨_,rfl⟩;obtain ⟨h,hh⟩:∃ h,ij / 2 = h:=⟨_,rfl⟩;have hw:=qpi hh (by omega);have hwh:=qbg h (by omega);have hLl:=hL.len;have l1:h < n:=by omega
    have l2:a < n:=by omega
    have l3:h < L.length:=by omega
    have l4:a < L.length:=by omega
    simp [qvv hij (by omega),hw,l1,l2,l3,l4,qar];intro gm
    first | refine ⟨_,_,_,qbf (lv:=lv) (hL.get l3) (hL.get l4) (by simp [qab]),?_⟩ | refine ⟨_,⟨_,_,qbf (lv:=lv) (hL.get l3) (hL.get l4) (by simp [qab])⟩,?_⟩ | refine ⟨_,_,⟨_,qbf (lv:=lv) (hL.get l3) (hL.get l4) (by simp [qab])⟩,?_⟩
    simp;refine jis (fun hc=>?_) (fun hc=>?_)
    ·simp [hwh];exact ⟨h + 1,j,⟨by omega,by omega,q3⟩,by omega⟩
    ·simp;exact ⟨i,h,⟨by omega,by omega,by omega⟩,by omega⟩
   ·have hi':i = j:=by have:=jiz hi; omega
    simp
    refine jit (X:=Nat × List Nat) (fun x=>[(13,qab x.1),(10,qab i),(0,.ref 19 g19 0 n (some n))]) (fun x=>qan g19 g4 n lv x.2)
     (fun x=>InR n x.2) (fun x=>i - x.1) (a,L) hL (by simp [qab]) (by simp [qan,qab]) ?_
    rintro ⟨t,M⟩ q5;dsimp only at q5;obtain ⟨i1,hi1⟩:∃ i1,i = 1 + i1:=⟨i - 1,by omega⟩;have hwi1:IntKind.i64.wrap ((i:Int) - 1) = (i1:Int):=by rw [qaq] <;> omega
    simp [qab,qan,hwi1];refine jis (fun ht=>?_) (fun ht=>?_)
    ·have ht':t < i1:=jiy ht;obtain ⟨t1,ht1⟩:∃ t1,t + 1 = t1:=⟨_,rfl⟩;have hwt:IntKind.i64.wrap ((t:Int) + 1) = (t1:Int):=by rw [qaq] <;> omega
     have hMl:=q5.len;have l1:t < n:=by omega
     have l2:t1 < n:=by omega
     have l3:t < M.length:=by omega
     have l4:t1 < M.length:=by omega
     simp [hwt,l1,l2,qar,qed,hMl];exact ⟨t1,_,(q5.set (q5.get l4)).set (q5.get l3),rfl,rfl,by omega⟩
    ·simp;exact .done ⟨qan g19 g4 n lv M,by simp [qan,qab],M,q5,rfl⟩
  ·have hb':¬ ma = 1:=jiz hb;simp [qqo hbm (by omega)];refine jis (fun hc=>?_) (fun hc=>?_)
   ·have hc':bm = 1:=jiy hc;simp
    refine jit (X:=Nat × Nat) (fun x=>[(14,qab x.1),(15,qab x.2),(0,.ref 19 g19 0 n (some n)),(1,qab a),(2,qab m),(3,qab b),(4,qd6 g4)]) (fun x=>qan g19 g4 n lv L)
     (fun x=>a≤x.1/\x.1≤x.2/\x.2≤m) (fun x=>x.2 - x.1) (a,m) ⟨ji5 _,by simp only; omega,ji5 _⟩ (by simp [qab,qd6]) (by simp [qan,qab]) ?_
    rintro ⟨i,j⟩ ⟨q1,q2,q3⟩;dsimp only at q1 q2 q3;simp [qab,qan,qd6];refine jis (fun hi=>?_) (fun hi=>?_)
    ·have hi':i < j:=jiy hi;obtain ⟨ij,hij⟩:∃ ij,i + j = ij:=⟨_,rfl⟩;obtain ⟨h,hh⟩:∃ h,ij / 2 = h:=⟨_,rfl⟩;have hw:=qpi hh (by omega);have hwh:=qbg h (by omega);have hLl:=hL.len;have l1:h < n:=by omega
     have l2:m < n:=by omega
     have l3:h < L.length:=by omega
     have l4:m < L.length:=by omega
     simp [qvv hij (by omega),hw,l1,l2,l3,l4,qar];intro gm
     first | refine ⟨_,_,_,qbf (lv:=lv) (hL.get l4) (hL.get l3) (by simp [qab]),?_⟩ | refine ⟨_,⟨_,_,qbf (lv:=lv) (hL.get l4) (hL.get l3) (by simp [qab])⟩,?_⟩ | refine ⟨_,_,⟨_,qbf (lv:=lv) (hL.get l4) (hL.get l3) (by simp [qab])⟩,?_⟩
     simp;refine jis (fun hc=>?_) (fun hc=>?_)
     ·simp;exact ⟨i,h,⟨by omega,by omega,by omega⟩,by omega⟩
     ·simp [hwh];exact ⟨h + 1,j,⟨by omega,by omega,q3⟩,by omega⟩
    ·have hi':i = j:=by have:=jiz hi; omega
     simp
     refine jit (X:=Nat × List Nat) (fun x=>[(17,qab x.1),(14,qab i),(0,.ref 19 g19 0 n (some n))]) (fun x=>qan g19 g4 n lv x.2)
      (fun x=>x.1≤m/\InR n x.2) (fun x=>x.1) (m,L) ⟨ji5 _,hL⟩ (by simp [qab]) (by simp [qan,qab]) ?_
     rintro ⟨t,M⟩ ⟨q6,q5⟩;dsimp only at q5 q6;simp [qab,qan];refine jis (fun ht=>?_) (fun ht=>?_)
     ·have ht':i < t:=jiy ht;obtain ⟨t1,ht1⟩:∃ t1,t = 1 + t1:=⟨t - 1,by omega⟩;have hwt:IntKind.i64.wrap ((t:Int) - 1) = (t1:Int):=by rw [qaq] <;> omega
      have hMl:=q5.len;have l1:t < n:=by omega
      have l2:t1 < n:=by omega
      have l3:t < M.length:=by omega
      have l4:t1 < M.length:=by omega
      simp [hwt,l1,l2,qar,qed,hMl];exact ⟨t1,_,⟨by omega,(q5.set (q5.get l4)).set (q5.get l3)⟩,rfl,rfl,by omega⟩
     ·simp;exact .done ⟨qan g19 g4 n lv M,by simp [qan,qab],M,q5,rfl⟩
   ·have hc':¬ bm = 1:=jiz hc;obtain ⟨ab,hab⟩:∃ ab,a + b = ab:=⟨_,rfl⟩;obtain ⟨mid,hmid⟩:∃ mid,ab / 2 = mid:=⟨_,rfl⟩;obtain ⟨nn,hnn⟩:∃ nn,mid + m = nn:=⟨_,rfl⟩;have hwm:=qpi hmid (by omega);simp [qvv hab (by omega),hwm,qvv hnn (by omega)];refine jis (fun hd=>?_) (fun hd=>?_)
    ·have hd':mid < m:=jiy hd;obtain ⟨s0,hs0⟩:∃ s0,nn = b + s0:=⟨nn - b,by omega⟩;obtain ⟨r0,hr0⟩:∃ r0,mid = r0:=⟨_,rfl⟩;have c1:a≤s0:=by omega
     have c2:nn≤b + s0:=by omega
     have c3:s0≤r0:=by omega
     have c4:r0≤m/\r0≤mid:=by omega
     have hnn1:IntKind.i64.wrap ((nn:Int) - 1) = ((nn - 1:Nat):Int):=by rw [qaq] <;> omega
     obtain ⟨pp,hpp⟩:∃ pp,nn - 1 = pp:=⟨_,rfl⟩;rw [hpp] at hnn1;simp [qqo hs0 (by omega),hr0,hnn1]
     refine jit (X:=Nat × Nat) (fun x=>[(20,qab x.1),(21,qab x.2),(22,qab pp),(19,qab nn),(18,qab r0),(0,.ref 19 g19 0 n (some n)),(1,qab a),(2,qab m),(3,qab b),(4,qd6 g4)]) (fun x=>qan g19 g4 n lv L)
      (fun x=>s0≤x.1/\x.1≤x.2/\x.2≤r0) (fun x=>x.2 - x.1) (s0,r0) ⟨ji5 _,by simp only; omega,ji5 _⟩ (by simp [qab,qd6]) (by simp [qan,qab]) ?_
     rintro ⟨i,j⟩ ⟨q1,q2,q3⟩;dsimp only at q1 q2 q3;simp [qab,qan,qd6];refine jis (fun hi=>?_) (fun hi=>?_)
     ·have hi':i < j:=jiy hi;obtain ⟨ij,hij⟩:∃ ij,i + j = ij:=⟨_,rfl⟩;obtain ⟨h,hh⟩:∃ h,ij / 2 = h:=⟨_,rfl⟩;have hw:=qpi hh (by omega);have hwh:=qbg h (by omega);obtain ⟨t,ht⟩:∃ t,pp = h + t:=⟨pp - h,by omega⟩;have hLl:=hL.len;have l1:h < n:=by omega
      have l2:t < n:=by omega
      have l3:h < L.length:=by omega
      have l4:t < L.length:=by omega
      simp [qvv hij (by omega),hw,qqo ht (by omega),l1,l2,l3,l4,qar];intro gm
      first | refine ⟨_,_,_,qbf (lv:=lv) (hL.get l4) (hL.get l3) (by simp [qab]),?_⟩ | refine ⟨_,⟨_,_,qbf (lv:=lv) (hL.get l4) (hL.get l3) (by simp [qab])⟩,?_⟩ | refine ⟨_,_,⟨_,qbf (lv:=lv) (hL.get l4) (hL.get l3) (by simp [qab])⟩,?_⟩
      simp;refine jis (fun hc=>?_) (fun hc=>?_)
      ·simp;exact ⟨i,h,⟨by omega,by omega,by omega⟩,by omega⟩
      ·simp [hwh];exact ⟨h + 1,j,⟨by omega,by omega,q3⟩,by omega⟩
     ·have hi':i = j:=by have:=jiz hi; omega
      obtain ⟨en,hen⟩:∃ en,nn = i + en:=⟨nn - i,by omega⟩;simp [qqo hen (by omega)];refine jis (fun w1=>?_) (fun w1=>?_)
      ·have w1':i < m:=jiy w1;simp [w1];refine jis (fun w2=>?_) (fun w2=>?_)
       ·have w2':m < en:=jiy w2;simp;refine jiv (qtw (L:=L) hL hn i m en (by omega) (by omega) (by omega) _) ?_;rintro v h ⟨M,hM,rfl⟩;simp;refine jis (fun w3=>?_) (fun w3=>?_)
        ·have w3':a < i:=jiy w3;simp [w3];refine jis (fun w4=>?_) (fun w4=>?_)
         ·have w4':i < r0:=jiy w4;simp;refine jiv (ih a i r0 (by omega) w3' w4' (by omega) M hM) ?_;rintro v2 h2 ⟨M2,hM2,rfl⟩;simp;refine jis (fun w5=>?_) (fun w5=>?_)
          ·have w5':r0 < en:=jiy w5;simp [w5];refine jis (fun w6=>?_) (fun w6=>?_)
           ·have w6':en < b:=jiy w6;simp;refine jiv (ih r0 en b (by omega) w5' w6' (by omega) M2 hM2) ?_;rintro v3 h3 ⟨M3,hM3,rfl⟩;simp;exact .done ⟨qan g19 g4 n lv M3,by simp [qan,qab],M3,hM3,rfl⟩
           ·simp;exact .done ⟨qan g19 g4 n lv M2,by simp [qan,qab],M2,hM2,rfl⟩
          ·simp [w5];exact .done ⟨qan g19 g4 n lv M2,by simp [qan,qab],M2,hM2,rfl⟩
         ·simp;refine jis (fun w5=>?_) (fun w5=>?_)
          ·have w5':r0 < en:=jiy w5;simp [w5];refine jis (fun w6=>?_) (fun w6=>?_)
           ·have w6':en < b:=jiy w6;simp;refine jiv (ih r0 en b (by omega) w5' w6' (by omega) M hM) ?_;rintro v3 h3 ⟨M3,hM3,rfl⟩;simp;exact .done ⟨qan g19 g4 n lv M3,by simp [qan,qab],M3,hM3,rfl⟩
           ·simp;exact .done ⟨qan g19 g4 n lv M,by simp [qan,qab],M,hM,rfl⟩
          ·simp [w5];exact .done ⟨qan g19 g4 n lv M,by simp [qan,qab],M,hM,rfl⟩
        ·simp [w3];refine jis (fun w5=>?_) (fun w5=>?_)
         ·have w5':r0 < en:=jiy w5;simp [w5];refine jis (fun w6=>?_) (fun w6=>?_)
          ·have w6':en < b:=jiy w6;simp;refine jiv (ih r0 en b (by omega) w5' w6' (by omega) M hM) ?_;rintro v3 h3 ⟨M3,hM3,rfl⟩;simp;exact .done ⟨qan g19 g4 n lv M3,by simp [qan,qab],M3,hM3,rfl⟩
          ·simp;exact .done ⟨qan g19 g4 n lv M,by simp [qan,qab],M,hM,rfl⟩
         ·simp [w5];exact .done ⟨qan g19 g4 n lv M,by simp [qan,qab],M,hM,rfl⟩
       ·simp;refine jis (fun w3=>?_) (fun w3=>?_)
        ·have w3':a < i:=jiy w3;simp [w3];refine jis (fun w4=>?_) (fun w4=>?_)
         ·have w4':i < r0:=jiy w4;simp;refine jiv (ih a i r0 (by omega) w3' w4' (by omega) L hL) ?_;rintro v2 h2 ⟨M2,hM2,rfl⟩;simp;refine jis (fun w5=>?_) (fun w5=>?_)
          ·have w5':r0 < en:=jiy w5;simp [w5];refine jis (fun w6=>?_) (fun w6=>?_)
           ·have w6':en < b:=jiy w6;simp;refine jiv (ih r0 en b (by omega) w5' w6' (by omega) M2 hM2) ?_;rintro v3 h3 ⟨M3,hM3,rfl⟩;simp;exact .done ⟨qan g19 g4 n lv M3,by simp [qan,qab],M3,hM3,rfl⟩
           ·simp;exact .done ⟨qan g19 g4 n lv M2,by simp [qan,qab],M2,hM2,rfl⟩
          ·simp [w5];exact .done ⟨qan g19 g4 n lv M2,by simp [qan,qab],M2,hM2,rfl⟩
         ·simp;refine jis (fun w5=>?_) (fun w5=>?_)
          ·have w5':r0 < en:=jiy w5;simp [w5];refine jis (fun w6=>?_) (fun w6=>?_)
           ·have w6':en < b:=jiy w6;simp;refine jiv (ih r0 en b (by omega) w5' w6' (by omega) L hL) ?_;rintro v3 h3 ⟨M3,hM3,rfl⟩;simp;exact .done ⟨qan g19 g4 n lv M3,by simp [qan,qab],M3,hM3,rfl⟩
           ·simp;exact .done ⟨qan g19 g4 n lv L,by simp [qan,qab],L,hL,rfl⟩
          ·simp [w5];exact .done ⟨qan g19 g4 n lv L,by simp [qan,qab],L,hL,rfl⟩
        ·simp [w3];refine jis (fun w5=>?_) (fun w5=>?_)
         ·have w5':r0 < en:=jiy w5;simp [w5];refine jis (fun w6=>?_) (fun w6=>?_)
          ·have w6':en < b:=jiy w6;simp;refine jiv (ih r0 en b (by omega) w5' w6' (by omega) L hL) ?_;rintro v3 h3 ⟨M3,hM3,rfl⟩;simp;exact .done ⟨qan g19 g4 n lv M3,by simp [qan,qab],M3,hM3,rfl⟩
          ·simp;exact .done ⟨qan g19 g4 n lv L,by simp [qan,qab],L,hL,rfl⟩
         ·simp [w5];exact .done ⟨qan g19 g4 n lv L,by simp [qan,qab],L,hL,rfl⟩
      ·simp [w1];refine jis (fun w3=>?_) (fun w3=>?_)
       ·have w3':a < i:=jiy w3;simp [w3];refine jis (fun w4=>?_) (fun w4=>?_)
        ·have w4':i < r0:=jiy w4;simp;refine jiv (ih a i r0 (by omega) w3' w4' (by omega) L hL) ?_;rintro v2 h2 ⟨M2,hM2,rfl⟩;simp;refine jis (fun w5=>?_) (fun w5=>?_)
         ·have w5':r0 < en:=jiy w5;simp [w5];refine jis (fun w6=>?_) (fun w6=>?_)
          ·have w6':en < b:=jiy w6;simp;refine jiv (ih r0 en b (by omega) w5' w6' (by omega) M2 hM2) ?_;rintro v3 h3 ⟨M3,hM3,rfl⟩;simp;exact .done ⟨qan g19 g4 n lv M3,by simp [qan,qab],M3,hM3,rfl⟩
          ·simp;exact .done ⟨qan g19 g4 n lv M2,by simp [qan,qab],M2,hM2,rfl⟩
         ·simp [w5];exact .done ⟨qan g19 g4 n lv M2,by simp [qan,qab],M2,hM2,rfl⟩
        ·simp;refine jis (fun w5=>?_) (fun w5=>?_)
         ·have w5':r0 < en:=jiy w5;simp [w5];refine jis (fun w6=>?_) (fun w6=>?_)
          ·have w6':en < b:=jiy w6;simp;refine jiv (ih r0 en b (by omega) w5' w6' (by omega) L hL) ?_;rintro v3 h3 ⟨M3,hM3,rfl⟩;simp;exact .done ⟨qan g19 g4 n lv M3,by simp [qan,qab],M3,hM3,rfl⟩
          ·simp;exact .done ⟨qan g19 g4 n lv L,by simp [qan,qab],L,hL,rfl⟩
         ·simp [w5];exact .done ⟨qan g19 g4 n lv L,by simp [qan,qab],L,hL,rfl⟩
       ·simp [w3];refine jis (fun w5=>?_) (fun w5=>?_)
        ·have w5':r0 < en:=jiy w5;simp [w5];refine jis (fun w6=>?_) (fun w6=>?_)
         ·have w6':en < b:=jiy w6;simp;refine jiv (ih r0 en b (by omega) w5' w6' (by omega) L hL) ?_;rintro v3 h3 ⟨M3,hM3,rfl⟩;simp;exact .done ⟨qan g19 g4 n lv M3,by simp [qan,qab],M3,hM3,rfl⟩
         ·simp;exact .done ⟨qan g19 g4 n lv L,by simp [qan,qab],L,hL,rfl⟩
        ·simp [w5];exact .done ⟨qan g19 g4 n lv L,by simp [qan,qab],L,hL,rfl⟩
    ·have hd':¬ mid < m:=jiz hd;have c2:nn≤b + a:=by omega
     have hnn1:IntKind.i64.wrap ((nn:Int) - 1) = ((nn - 1:Nat):Int):=by rw [qaq] <;> omega
     obtain ⟨pp,hpp⟩:∃ pp,nn - 1 = pp:=⟨_,rfl⟩;rw [hpp] at hnn1;simp [hnn1]
     refine jit (X:=Nat × Nat) (fun x=>[(20,qab x.1),(21,qab x.2),(22,qab pp),(19,qab nn),(18,qab mid),(0,.ref 19 g19 0 n (some n)),(1,qab a),(2,qab m),(3,qab b),(4,qd6 g4)]) (fun x=>qan g19 g4 n lv L)
      (fun x=>a≤x.1/\x.1≤x.2/\x.2≤m) (fun x=>x.2 - x.1) (a,m) ⟨ji5 _,by simp only; omega,ji5 _⟩ (by simp [qab,qd6]) (by simp [qan,qab]) ?_
     rintro ⟨i,j⟩ ⟨q1,q2,q3⟩;dsimp only at q1 q2 q3;simp [qab,qan,qd6];refine jis (fun hi=>?_) (fun hi=>?_)
     ·have hi':i < j:=jiy hi;obtain ⟨ij,hij⟩:∃ ij,i + j = ij:=⟨_,rfl⟩;obtain ⟨h,hh⟩:∃ h,ij / 2 = h:=⟨_,rfl⟩;have hw:=qpi hh (by omega);have hwh:=qbg h (by omega);obtain ⟨t,ht⟩:∃ t,pp = h + t:=⟨pp - h,by omega⟩;have hLl:=hL.len;have l1:h < n:=by omega
      have l2:t < n:=by omega
      have l3:h < L.length:=by omega
      have l4:t < L.length:=by omega
      simp [qvv hij (by omega),hw,qqo ht (by omega),l1,l2,l3,l4,qar];intro gm
      first | refine ⟨_,_,_,qbf (lv:=lv) (hL.get l4) (hL.get l3) (by simp [qab]),?_⟩ | refine ⟨_,⟨_,_,qbf (lv:=lv) (hL.get l4) (hL.get l3) (by simp [qab])⟩,?_⟩ | refine ⟨_,_,⟨_,qbf (lv:=lv) (hL.get l4) (hL.get l3) (by simp [qab])⟩,?_⟩
      simp;refine jis (fun hc=>?_) (fun hc=>?_)
      ·simp;exact ⟨i,h,⟨by omega,by omega,by omega⟩,by omega⟩
      ·simp [hwh];exact ⟨h + 1,j,⟨by omega,by omega,q3⟩,by omega⟩
     ·have hi':i = j:=by have:=jiz hi; omega
      obtain ⟨en,hen⟩:∃ en,nn = i + en:=⟨nn - i,by omega⟩;simp [qqo hen (by omega)];refine jis (fun w1=>?_) (fun w1=>?_)
      ·have w1':i < m:=jiy w1;simp [w1];refine jis (fun w2=>?_) (fun w2=>?_)
       ·have w2':m < en:=jiy w2;simp;refine jiv (qtw (L:=L) hL hn i m en (by omega) (by omega) (by omega) _) ?_;rintro v h ⟨M,hM,rfl⟩;simp;refine jis (fun w3=>?_) (fun w3=>?_)
        ·have w3':a < i:=jiy w3;simp [w3];refine jis (fun w4=>?_) (fun w4=>?_)
         ·have w4':i < mid:=jiy w4;simp;refine jiv (ih a i mid (by omega) w3' w4' (by omega) M hM) ?_;rintro v2 h2 ⟨M2,hM2,rfl⟩;simp;refine jis (fun w5=>?_) (fun w5=>?_)
          ·have w5':mid < en:=jiy w5;simp [w5];refine jis (fun w6=>?_) (fun w6=>?_)
           ·have w6':en < b:=jiy w6;simp;refine jiv (ih mid en b (by omega) w5' w6' (by omega) M2 hM2) ?_;rintro v3 h3 ⟨M3,hM3,rfl⟩;simp;exact .done ⟨qan g19 g4 n lv M3,by simp [qan,qab],M3,hM3,rfl⟩
           ·simp;exact .done ⟨qan g19 g4 n lv M2,by simp [qan,qab],M2,hM2,rfl⟩
          ·simp [w5];exact .done ⟨qan g19 g4 n lv M2,by simp [qan,qab],M2,hM2,rfl⟩
         ·simp;refine jis (fun w5=>?_) (fun w5=>?_)
          ·have w5':mid < en:=jiy w5;simp [w5];refine jis (fun w6=>?_) (fun w6=>?_)
           ·have w6':en < b:=jiy w6;simp;refine jiv (ih mid en b (by omega) w5' w6' (by omega) M hM) ?_;rintro v3 h3 ⟨M3,hM3,rfl⟩;simp;exact .done ⟨qan g19 g4 n lv M3,by simp [qan,qab],M3,hM3,rfl⟩
           ·simp;exact .done ⟨qan g19 g4 n lv M,by simp [qan,qab],M,hM,rfl⟩
          ·simp [w5];exact .done ⟨qan g19 g4 n lv M,by simp [qan,qab],M,hM,rfl⟩
        ·simp [w3];refine jis (fun w5=>?_) (fun w5=>?_)
         ·have w5':mid < en:=jiy w5;simp [w5];refine jis (fun w6=>?_) (fun w6=>?_)
          ·have w6':en < b:=jiy w6;simp;refine jiv (ih mid en b (by omega) w5' w6' (by omega) M hM) ?_;rintro v3 h3 ⟨M3,hM3,rfl⟩;simp;exact .done ⟨qan g19 g4 n lv M3,by simp [qan,qab],M3,hM3,rfl⟩
          ·simp;exact .done ⟨qan g19 g4 n lv M,by simp [qan,qab],M,hM,rfl⟩
         ·simp [w5];exact .done ⟨qan g19 g4 n lv M,by simp [qan,qab],M,hM,rfl⟩
       ·simp;refine jis (fun w3=>?_) (fun w3=>?_)
        ·have w3':a < i:=jiy w3;simp [w3];refine jis (fun w4=>?_) (fun w4=>?_)
         ·have w4':i < mid:=jiy w4;simp;refine jiv (ih a i mid (by omega) w3' w4' (by omega) L hL) ?_;rintro v2 h2 ⟨M2,hM2,rfl⟩;simp;refine jis (fun w5=>?_) (fun w5=>?_)
          ·have w5':mid < en:=jiy w5;simp [w5];refine jis (fun w6=>?_) (fun w6=>?_)
           ·have w6':en < b:=jiy w6;simp;refine jiv (ih mid en b (by omega) w5' w6' (by omega) M2 hM2) ?_;rintro v3 h3 ⟨M3,hM3,rfl⟩;simp;exact .done ⟨qan g19 g4 n lv M3,by simp [qan,qab],M3,hM3,rfl⟩
           ·simp;exact .done ⟨qan g19 g4 n lv M2,by simp [qan,qab],M2,hM2,rfl⟩
          ·simp [w5];exact .done ⟨qan g19 g4 n lv M2,by simp [qan,qab],M2,hM2,rfl⟩
         ·simp;refine jis (fun w5=>?_) (fun w5=>?_)
          ·have w5':mid < en:=jiy w5;simp [w5];refine jis (fun w6=>?_) (fun w6=>?_)
           ·have w6':en < b:=jiy w6;simp;refine jiv (ih mid en b (by omega) w5' w6' (by omega) L hL) ?_;rintro v3 h3 ⟨M3,hM3,rfl⟩;simp;exact .done ⟨qan g19 g4 n lv M3,by simp [qan,qab],M3,hM3,rfl⟩
           ·simp;exact .done ⟨qan g19 g4 n lv L,by simp [qan,qab],L,hL,rfl⟩
          ·simp [w5];exact .done ⟨qan g19 g4 n lv L,by simp [qan,qab],L,hL,rfl⟩
        ·simp [w3];refine jis (fun w5=>?_) (fun w5=>?_)
         ·have w5':mid < en:=jiy w5;simp [w5];refine jis (fun w6=>?_) (fun w6=>?_)
          ·have w6':en < b:=jiy w6;simp;refine jiv (ih mid en b (by omega) w5' w6' (by omega) L hL) ?_;rintro v3 h3 ⟨M3,hM3,rfl⟩;simp;exact .done ⟨qan g19 g4 n lv M3,by simp [qan,qab],M3,hM3,rfl⟩
          ·simp;exact .done ⟨qan g19 g4 n lv L,by simp [qan,qab],L,hL,rfl⟩
         ·simp [w5];exact .done ⟨qan g19 g4 n lv L,by simp [qan,qab],L,hL,rfl⟩
      ·simp [w1];refine jis (fun w3=>?_) (fun w3=>?_)
       ·have w3':a < i:=jiy w3;simp [w3];refine jis (fun w4=>?_) (fun w4=>?_)
        ·have w4':i < mid:=jiy w4;simp;refine jiv (ih a i mid (by omega) w3' w4' (by omega) L hL) ?_;rintro v2 h2 ⟨M2,hM2,rfl⟩;simp;refine jis (fun w5=>?_) (fun w5=>?_)
         ·have w5':mid < en:=jiy w5;simp [w5];refine jis (fun w6=>?_) (fun w6=>?_)
          ·have w6':en < b:=jiy w6;simp;refine jiv (ih mid en b (by omega) w5' w6' (by omega) M2 hM2) ?_;rintro v3 h3 ⟨M3,hM3,rfl⟩;simp;exact .done ⟨qan g19 g4 n lv M3,by simp [qan,qab],M3,hM3,rfl⟩
          ·simp;exact .done ⟨qan g19 g4 n lv M2,by simp [qan,qab],M2,hM2,rfl⟩
         ·simp [w5];exact .done ⟨qan g19 g4 n lv M2,by simp [qan,qab],M2,hM2,rfl⟩
        ·simp;refine jis (fun w5=>?_) (fun w5=>?_)
         ·have w5':mid < en:=jiy w5;simp [w5];refine jis (fun w6=>?_) (fun w6=>?_)
          ·have w6':en < b:=jiy w6;simp;refine jiv (ih mid en b (by omega) w5' w6' (by omega) L hL) ?_;rintro v3 h3 ⟨M3,hM3,rfl⟩;simp;exact .done ⟨qan g19 g4 n lv M3,by simp [qan,qab],M3,hM3,rfl⟩
          ·simp;exact .done ⟨qan g19 g4 n lv L,by simp [qan,qab],L,hL,rfl⟩
         ·simp [w5];exact .done ⟨qan g19 g4 n lv L,by simp [qan,qab],L,hL,rfl⟩
       ·simp [w3];refine jis (fun w5=>?_) (fun w5=>?_)
        ·have w5':mid < en:=jiy w5;simp [w5];refine jis (fun w6=>?_) (fun w6=>?_)
         ·have w6':en < b:=jiy w6;simp;refine jiv (ih mid en b (by omega) w5' w6' (by omega) L hL) ?_;rintro v3 h3 ⟨M3,hM3,rfl⟩;simp;exact .done ⟨qan g19 g4 n lv M3,by simp [qan,qab],M3,hM3,rfl⟩
         ·simp;exact .done ⟨qan g19 g4 n lv L,by simp [qan,qab],L,hL,rfl⟩
        ·simp [w5];exact .done ⟨qan g19 g4 n lv L,by simp [qan,qab],L,hL,rfl⟩
end
section
open Go
variable {g19 g4 n:Nat} {lv:Nat->Nat} {L:List Nat}
def qec (lv:Nat->Nat) (x y:Nat):Prop:=lv x < lv y∨(lv x = lv y/\x < y)
theorem q7m {A B:List Nat} {x:Nat} (h:(A ++ B).Pairwise (qec lv)) (hB:∀ y ∈ B,lv x < lv y) (hA:∀ y ∈ A,y < x) (hl:A = []∨∃ A' y,A = A' ++ [y]/\¬ lv x < lv y):(A ++ x :: B).Pairwise (qec lv):=by
 rw [List.pairwise_append] at h ⊢;obtain ⟨h1,h2,h3⟩:=h;refine ⟨h1,List.pairwise_cons.2 ⟨fun y hy=>.inl (hB y hy),h2⟩,fun a ha b hb=>?_⟩;rcases List.mem_cons.1 hb with rfl | hb
 ·rcases hl with rfl | ⟨A',y,rfl,hy⟩
  ·simp at ha
  ·have hay:lv a≤lv y:=by
    rcases List.mem_append.1 ha with q | q
    ·rw [List.pairwise_append] at h1;have:=h1.2.2 a q y (by simp);unfold qec at this;omega
    ·simp at q; subst q; exact ji5 _
   have:=hA a ha;unfold qec;omega
 ·exact h3 a ha b hb
theorem q0s (A:List Nat) (x y:Nat) (C:List Nat):((A ++ y :: x :: C).set (A.length + 1) y).set A.length x = A ++ x :: y :: C:=by
 rw [List.set_append_right _ _ (by omega),List.set_append_right _ _ (by omega)];simp
theorem q20 (a b:Nat):decide (q1d a b < 0) = decide (a < b):=by
 unfold q1d;by_cases h:a < b
 ·simp [h]
 ·by_cases h2:b < a <;> simp [h,h2]
theorem qpl (hL:InR n L) (hinc:L.Pairwise (· < ·)) (hn:n < 1000000) :
  qa6 Tryz.prog gl0 157 [.ref 19 g19 0 n (some n),qab 0,qab n,qd6 g4] (qan g19 g4 n lv L) (fun _ h=>∃ L',InR n L'/\L'.Pairwise (qec lv)/\h = qan g19 g4 n lv L'):=by
 by_cases hn0:n = 0
 ·refine jiv (qkz hL hn 0 n (by omega) (ji5 _)) ?_;rintro v h ⟨L',h1,h2,rfl⟩;obtain rfl:=h2 (by omega);have:L' = []:=List.length_eq_zero_iff.1 (by rw [h1.len,hn0]);exact ⟨L',h1,by rw [this]; exact List.Pairwise.nil,rfl⟩
 refine jix q4a rfl ?_;simp [jbp,jgu,qan,qab,qd6];have hLl:=hL.len
 refine jit (X:=Nat × List Nat) (fun x=>[(8,qab x.1),(0,.ref 19 g19 0 n (some n)),(1,qab 0),(2,qab n),(3,qd6 g4)]) (fun x=>qan g19 g4 n lv (x.2 ++ L.drop x.1))
  (fun x=>x.1≤n/\x.2.length = x.1/\x.2.Pairwise (qec lv)/\(∀ a ∈ x.2,a < n)/\∀ a ∈ x.2,∀ b ∈ L.drop x.1,a < b) (fun x=>n - x.1) (1,L.take 1) ⟨by simp only; omega,by simp; omega,?_,fun a ha=>hL.lt a (List.mem_of_mem_take ha),?_⟩ (by simp [qab,qd6]) (by simp only [List.take_append_drop]; simp [qan,qab]) ?_
 ·cases L with
  | nil=>simp
  | cons a l=>simp
 ·cases L with
  | nil=>simp
  | cons a l=>
   intro x hx y hy;simp at hx hy;subst hx;exact (List.pairwise_cons.1 hinc).1 y hy
 rintro ⟨i,P⟩ ⟨q1,q2,q3,q9,q4⟩;dsimp only at q1 q2 q3 q4 q9;simp [qab,qan,qd6];refine jis (fun hb=>?_) (fun hb=>?_)
 ·have hi:i < n:=jiy hb;have hwi:=qbg i (by omega);have hiL:i < L.length:=by omega
  rw [List.drop_eq_getElem_cons hiL] at q4;simp;rw [List.drop_eq_getElem_cons hiL];have hxn:=hL.lt L[i] (ji3 hiL)
  have hRx:∀ b ∈ L.drop (i + 1),L[i] < b:=fun b hb=>by
   have:L.Pairwise (· < ·):=hinc;rw [<- List.take_append_drop i L,List.drop_eq_getElem_cons hiL,List.pairwise_append] at this;exact (List.pairwise_cons.1 this.2.1).1 b hb
  have hRn:∀ b ∈ L.drop (i + 1),b < n:=fun b hb=>hL.lt b (List.mem_of_mem_drop hb);have hRl:(L.drop (i + 1)).length = n - (i + 1):=by simp [hLl]
  generalize hx:L[i] = x at *;generalize hR:L.drop (i + 1) = R at *
  refine jit (X:=List Nat × List Nat) (fun y=>[(9,qab y.1.length),(8,qab i),(0,.ref 19 g19 0 n (some n)),(1,qab 0),(2,qab n),(3,qd6 g4)]) (fun y=>qan g19 g4 n lv (y.1 ++ x :: (y.2 ++ R)))
   (fun y=>y.1.length + y.2.length = i/\(y.1 ++ y.2).Pairwise (qec lv)/\(∀ a ∈ y.1 ++ y.2,a ∈ P)/\∀ b ∈ y.2,lv x < lv b) (fun y=>y.1.length) (P,[]) ⟨by simpa using q2,by simpa using q3,by simp,by simp⟩ (by simp [qab,qd6,q2]) (by simp [qan,qab]) ?_
  rintro ⟨A,B⟩ ⟨q5,q6,q7,q8⟩;dsimp only at q5 q6 q7 q8;have hAP:∀ a ∈ A,a < x:=fun a ha=>q4 a (q7 a (by simp [ha])) x (by simp);have hPn:∀ a ∈ A ++ B,a < n:=fun a ha=>Nat.lt_trans (q4 a (q7 a ha) x (by simp)) hxn;have hML:(A ++ x :: (B ++ R)).length = n:=by simp [hRl]; omega
  simp [qab,qan,qd6];intro gm
  have fin:∀ (hl:A = []∨∃ A' y,A = A' ++ [y]/\¬ lv x < lv y),i + 1≤n/\(A ++ x :: B).length = i + 1/\(A ++ x :: B).Pairwise (qec lv)/\(∀ a ∈ A ++ x :: B,a < n)/\∀ a ∈ A ++ x :: B,∀ b ∈ R,a < b:=fun hl=>
   ⟨hi,by simp; omega,q7m q6 q8 hAP hl,fun a ha=>by
    rcases List.mem_append.1 ha with h | h
    ·exact hPn a (by simp [h])
    ·rcases List.mem_cons.1 h with rfl | h
     ·exact hxn
     ·exact hPn a (by simp [h]),fun a ha b hb=>by
    rcases List.mem_append.1 ha with h | h
    ·exact q4 a (q7 a (by simp [h])) b (by simp [hb])
    ·rcases List.mem_cons.1 h with rfl | h
     ·exact hRx b hb
     ·exact q4 a (q7 a (by simp [h])) b (by simp [hb])⟩
  rcases List.eq_nil_or_concat A with rfl | ⟨A',y,rfl⟩
  ·have hf:=fin (.inl rfl);simp [hwi];refine ⟨i + 1,x :: B,⟨hf.1,by simpa using hf.2.1,by simpa using hf.2.2.1,by simpa using hf.2.2.2.1,?_⟩,by simp,?_,by omega⟩
   ·rw [hR]; simpa using hf.2.2.2.2
   ·rw [hR]; simp
  ·simp only [List.concat_eq_append] at *;obtain ⟨p,hp⟩:∃ p,A'.length = p:=⟨_,rfl⟩;have hj:(A' ++ [y]).length = p + 1:=by simp [hp]
   have hwp:IntKind.i64.wrap (((p:Int) + 1) - 1) = (p:Int):=by
    have:p + 1≤n:=by rw [<- hj]; simp at q5 ⊢; omega
    rw [qaq] <;> omega
   have hM:A' ++ [y] ++ x :: (B ++ R) = A' ++ y :: x :: (B ++ R):=by simp
   have hpl:p + 1 < n:=by rw [hM] at hML; simp [hp] at hML; omega
   have g1:(qah (A' ++ y :: x :: (B ++ R)))[p + 1]? = some (.int .i64 (x:Int)):=by subst hp; simp [qah,qab]
   have g2:(qah (A' ++ y :: x :: (B ++ R)))[p]? = some (.int .i64 (y:Int)):=by subst hp; simp [qah,qab]
   have hNl:A'.length + (B.length + (R.length + 1 + 1)) = n:=by rw [hM] at hML; simp at hML; omega
   have l1:p + 1 < (qah (A' ++ y :: x :: (B ++ R))).length:=by simp; omega
   have l2:p < (qah (A' ++ y :: x :: (B ++ R))).length:=by simp; omega
   have g1':(qah (A' ++ y :: x :: (B ++ R)))[p + 1] = .int .i64 (x:Int):=by rw [ji4 l1] at g1; exact Option.some.inj g1
   have g2':(qah (A' ++ y :: x :: (B ++ R)))[p] = .int .i64 (y:Int):=by rw [ji4 l2] at g2; exact Option.some.inj g2
   have hyn:=hPn y (by simp);rw [hM,hj];obtain ⟨j,hj2⟩:∃ j,p + 1 = j:=⟨_,rfl⟩;have hwp2:IntKind.i64.wrap ((j:Int) - 1) = (p:Int):=by rw [qaq] <;> omega
   have hj0:0 < j:=by omega
   have hpn:p < n:=by omega
   simp only [hj2] at g1 g1' hpl ⊢;rw [qjk] at l1 l2;rw [hj2] at l1;simp only [List.length_append,List.length_cons] at l1 l2;simp [hj0,hwp2,hpl,hpn,g1',g2',l1,l2]
   first | refine ⟨_,_,_,qbf (lv:=lv) hxn hyn (by simp [qab]),?_⟩ | refine ⟨_,⟨_,_,qbf (lv:=lv) hxn hyn (by simp [qab])⟩,?_⟩ | refine ⟨_,_,⟨_,qbf (lv:=lv) hxn hyn (by simp [qab])⟩,?_⟩
   simp [q20];refine jis (fun hc=>?_) (fun hc=>?_)
   ·have hc':=jiy hc;have g3:∀ hh,((qah (A' ++ y :: x :: (B ++ R))).set j (.int .i64 (y:Int)))[p]'hh = .int .i64 (y:Int):=fun hh=>by rw [List.getElem_set_ne (by omega)]; exact g2'
    simp [hwp2,hpl,hpn,g1',g2',l1,l2,g3]
    have hsw:((qah (A' ++ y :: x :: (B ++ R))).set j (.int .i64 (y:Int))).set p (.int .i64 (x:Int)) = qah (A' ++ x :: y :: (B ++ R)):=by
     rw [qed,qed,<- hj2,<- hp,q0s]
    rw [hsw];refine ⟨A',y :: B,⟨by simp at q5 ⊢; omega,by simpa using q6,fun a ha=>q7 a (by simpa using ha),fun b hb=>?_⟩,by simp [hp],rfl,by omega⟩;rcases List.mem_cons.1 hb with rfl | hb
    ·exact hc'
    ·exact q8 b hb
   ·have hc':=jiz hc;have hf:=fin (.inr ⟨A',y,rfl,hc'⟩);simp [hwi];refine ⟨i + 1,A' ++ [y] ++ x :: B,⟨hf.1,hf.2.1,hf.2.2.1,hf.2.2.2.1,?_⟩,by simp,?_,by omega⟩
    ·rw [hR]; exact hf.2.2.2.2
    ·rw [hR]; simp
 ·have hi:i = n:=by have:=jiz hb; omega
  simp;have hM:P ++ L.drop i = P:=by rw [hi,<- hLl,List.drop_length,List.append_nil]
  rw [hM];exact .done ⟨qan g19 g4 n lv P,by simp [qan,qab],P,⟨by omega,q9⟩,q3,rfl⟩
theorem q0w (hL:InR n L) (hinc:L.Pairwise (· < ·)) (hn:n < 1000000) :
  qa6 Tryz.prog gl0 134 [.ref 19 g19 0 n (some n),qab n,qd6 g4] (qan g19 g4 n lv L) (fun _ h=>∃ L',InR n L'/\(n≤20->L'.Pairwise (qec lv))/\h = qan g19 g4 n lv L'):=by
 by_cases h20:n < 20
 ·refine jix q36 rfl ?_;simp [jbl,jgq,qan,qab,qd6];refine jit (X:=Unit) (fun _=>[(6,qab 20),(7,qab 0),(8,qab 20),(0,.ref 19 g19 0 n (some n)),(1,qab n),(2,qd6 g4)]) (fun _=>qan g19 g4 n lv L) (fun _=>True) (fun _=>0) () trivial (by simp [qab,qd6]) (by simp [qan,qab]) ?_;intro _ _;have h1:¬ 20≤n:=by omega
  simp [qab,qan,qd6,h1];refine jiv (qpl hL hinc hn) ?_;rintro v h ⟨L',q1,q2,rfl⟩;simp;refine jit (X:=Unit) (fun _=>[(6,qab 20),(1,qab n)]) (fun _=>qan g19 g4 n lv L') (fun _=>True) (fun _=>0) () trivial (by simp [qab]) (by simp [qan,qab]) ?_;intro _ _;have h2:¬ 20 < n:=by omega
  simp [qab,h2];exact .done ⟨qan g19 g4 n lv L',by simp [qan,qab],L',q1,fun _=>q2,rfl⟩
 ·refine jix q36 rfl ?_;simp [jbl,jgq,qan,qab,qd6]
  refine jit (X:=Nat × Nat × List Nat) (fun x=>[(6,qab 20),(7,qab x.1),(8,qab x.2.1),(0,.ref 19 g19 0 n (some n)),(1,qab n),(2,qd6 g4)]) (fun x=>qan g19 g4 n lv x.2.2)
   (fun x=>x.2.1 = x.1 + 20/\x.1≤n/\InR n x.2.2/\(x.1 = 0->x.2.2 = L)/\(n = 20->x.1 = 0∨(x.1 = 20/\x.2.2.Pairwise (qec lv)))) (fun x=>n + 20 - x.2.1) (0,20,L) ⟨rfl,Nat.zero_le _,hL,fun _=>rfl,fun _=>.inl rfl⟩ (by simp [qab,qd6]) (by simp [qan,qab]) ?_
  rintro ⟨a,b,M⟩ ⟨q1,q2,q3,q4,q5⟩;dsimp only at q1 q2 q3 q4 q5;simp [qab,qan,qd6];refine jis (fun hb=>?_) (fun hb=>?_)
  ·have hb':b≤n:=jiy hb;obtain ⟨b2,hb2⟩:∃ b2,b + 20 = b2:=⟨_,rfl⟩;have hwb:IntKind.i64.wrap ((b:Int) + 20) = (b2:Int):=by rw [qaq] <;> omega
   simp;by_cases hs:n = 20
   ·have ha:a = 0:=by omega
    have hbn:b = n:=by omega
    have hM:=q4 ha;subst hM ha hbn;refine jiv (qpl hL hinc hn) ?_;rintro v h ⟨L',r1,r2,rfl⟩;simp [hwb];exact ⟨b,b2,L',⟨by omega,by omega,r1,fun h=>by omega,fun _=>.inr ⟨hs,r2⟩⟩,⟨rfl,rfl⟩,by simp [qan,qab],by omega⟩
   ·refine jiv (qkz q3 hn a b (by omega) hb') ?_;rintro v h ⟨L',r1,r2,rfl⟩;simp [hwb];exact ⟨b,b2,L',⟨by omega,by omega,r1,fun h=>by omega,fun h=>absurd h hs⟩,⟨rfl,rfl⟩,by simp [qan,qab],by omega⟩
  ·have hb':¬ b≤n:=jiz hb;simp;refine jiv (qkz q3 hn a n q2 (ji5 _)) ?_;rintro v h ⟨L',r1,r2,rfl⟩;simp
   have hp:n≤20->L'.Pairwise (qec lv):=fun h=>by
    have h20':n = 20:=by omega
    rcases q5 h20' with h | ⟨h,hp⟩
    ·omega
    ·rw [r2 (by omega)]; exact hp
   refine jit (X:=Nat × List Nat) (fun x=>[(6,qab x.1),(0,.ref 19 g19 0 n (some n)),(1,qab n),(2,qd6 g4)]) (fun x=>qan g19 g4 n lv x.2)
    (fun x=>20≤x.1/\x.1≤2 * n/\InR n x.2/\(n≤20->x.2.Pairwise (qec lv))) (fun x=>2 * n - x.1) (20,L') ⟨ji5 _,by simp only; omega,r1,hp⟩ (by simp [qab,qd6]) (by simp [qan,qab]) ?_
   clear hp r1 r2 q3 q4 q5 L' hb;rintro ⟨bs,M⟩ ⟨q3,q6,q4,q5⟩;dsimp only at q3 q4 q5 q6;simp [qab,qan,qd6];refine jis (fun hc=>?_) (fun hc=>?_)
   ·have hc':bs < n:=jiy hc;obtain ⟨b2,hb2⟩:∃ b2,2 * bs = b2:=⟨_,rfl⟩;have hwb:IntKind.i64.wrap (2 * (bs:Int)) = (b2:Int):=by rw [qaq] <;> omega
    simp [hwb]
    refine jit (X:=Nat × List Nat) (fun x=>[(7,qab x.1),(8,qab (x.1 + b2)),(6,qab bs),(0,.ref 19 g19 0 n (some n)),(1,qab n),(2,qd6 g4)]) (fun x=>qan g19 g4 n lv x.2)
     (fun x=>x.1≤n/\InR n x.2) (fun x=>n - x.1) (0,M) ⟨Nat.zero_le _,q4⟩ (by simp [qab,qd6]) (by simp [qan,qab]) ?_
    clear q4 q5 M;rintro ⟨a',M⟩ ⟨q7,q4⟩;dsimp only at q4 q7;obtain ⟨e1,he1⟩:∃ e1,a' + b2 = e1:=⟨_,rfl⟩;obtain ⟨e2,he2⟩:∃ e2,a' + bs = e2:=⟨_,rfl⟩;obtain ⟨e3,he3⟩:∃ e3,e1 + b2 = e3:=⟨_,rfl⟩;rw [he1];simp [qab,qan,qd6];refine jis (fun hd=>?_) (fun hd=>?_)
    ·have hd':e1≤n:=jiy hd;simp [qvv he2 (by omega)];refine jiv (qln hn (e1 - a') a' e2 e1 (ji5 _) (by omega) (by omega) hd' M q4) ?_;rintro v h ⟨L',r1,rfl⟩;simp [hwb,qvv he3 (by omega)];exact ⟨e1,L',⟨hd',r1⟩,by omega,by simp [qan,qab],by omega⟩
    ·have hd':¬ e1≤n:=jiz hd;have hwb2:IntKind.i64.wrap ((bs:Int) * 2) = (b2:Int):=by rw [qaq] <;> omega
     simp [qvv he2 (by omega)];refine jis (fun hf=>?_) (fun hf=>?_)
     ·have hf':e2 < n:=jiy hf;simp;refine jiv (qln hn (n - a') a' e2 n (ji5 _) (by omega) hf' (ji5 _) M q4) ?_;rintro v h ⟨L',r1,rfl⟩;simp [hwb2];exact ⟨b2,L',⟨by omega,by omega,r1,fun h=>by omega⟩,by simp,by simp [qan,qab],by omega⟩
     ·simp [hwb2];exact ⟨b2,M,⟨by omega,by omega,q4,fun h=>by omega⟩,by simp,by simp,by omega⟩
   ·have hc':¬ bs < n:=jiz hc;simp;exact .done ⟨qan g19 g4 n lv M,by simp [qan,qab],M,q4,q5,rfl⟩
end
section
open Go
theorem CallO.weaken {P:Program} {gl:Fr} {f:FuncId} {args:List V} {h h2:Hp} {K:V->Hp->Prop} (hs:Sub h2 h) (hc:qa6 P gl f args h2 K):qa6 P gl f args h K:=
 ⟨hc.1,fun G M w rargs h1 h2' h3 h4=>hc.2 G M w rargs ⟨h1.gw,fun b k hb=>h1.hb b k (hs.spec b k hb),h1.inj,h1.mlt⟩ h2' h3 h4⟩
variable {g19 g4 n:Nat} {lv:Nat->Nat} {L:List Nat}
theorem qu2 (hL:InR n L) (hinc:L.Pairwise (· < ·)) (hn:n < 1000000) :
  qa6 Tryz.prog gl0 88 [.ref 19 g19 0 n (some n),qd6 g4] (qan g19 g4 n lv L) (fun _ h=>∃ L',InR n L'/\(n≤20->L'.Pairwise (qec lv))/\h = qan g19 g4 n lv L'):=by
 refine jix ok88 rfl ?_;simp [i88,x88,qan,qab,qd6];refine jiv (q0w hL hinc hn) ?_;rintro v h ⟨L',q1,q2,rfl⟩;simp;exact .done ⟨qan g19 g4 n lv L',by simp [qan,qab],L',q1,q2,rfl⟩
def OrdK (c:Ci) (v:V) (h:Hp):Prop:=(qsn c ≠ 0/\v = .tup [.nil,.int .i64 (qsn c)]/\h = [])∨
 (qsn c = 0/\∃ g L,v = .tup [.ref 0 g 0 c.n.length (some c.n.length),.int .i64 0]/\h = [(0,.row g 1 (qah L))]/\InR c.n.length L/\(c.n.length≤20->L.Pairwise (qec (qos c))))
theorem q2w {c:Ci} (h:qsn c = 0):c.n.length≤16384:=by
 unfold qsn at h;split at h
 ·rename_i h1; exact absurd h h1
 ·rename_i h1; exact (qqd (Classical.not_not.1 h1)).1
theorem qrx (c:Ci) (hwf:c.wf):qch Tryz.prog gl0 50 [c.v] (OrdK c):=by
 refine jiw ok50 rfl ?_;have hlv:=qps c hwf;rw [qth] at hlv;simp [i50,x50];intro gf;refine jir hlv (by simp) ?_;by_cases he:qsn c = 0
 ·have hl:=q2w he;have hle:c.n.length≤549755813888:=by omega
  simp [he,hle];intro gf2 gf3;generalize gf 1 = g1;generalize gf2 4 = g4;generalize gf3 19 = g19
  refine jit (X:=Nat) (fun x=>[(22,qab x),(21,qab c.n.length),(6,.ref 19 g19 0 c.n.length (some c.n.length)),(4,.ptr 4 g4 0 0)]) (fun x=>qan g19 g4 c.n.length (qos c) (tab c.n.length fun j=>if j < x then j else 0))
   (fun x=>x≤c.n.length) (fun x=>c.n.length - x) 0 (Nat.zero_le _) (by simp [qab]) (by simp [qan,qab,qah,qol,qeh]) ?_
  intro i hi;simp [qab,qan];refine jis (fun hb=>?_) (fun hb=>?_)
  ·have hi':i < c.n.length:=jiy hb;have hw:=qbg i (by omega);simp [hi',hw,qed,qi4,qar];refine ⟨i + 1,hi',by simp,?_,by omega⟩;congr 1;refine qcg fun j _=>?_;by_cases e:j = i
   ·subst e; simp
   ·rw [qa7 _ _ e];by_cases h:j < i
    ·rw [if_pos h,if_pos (by omega)]
    ·rw [if_neg h,if_neg (by omega)]
  ·have hi':i = c.n.length:=by have:=jiz hb; omega
   subst hi';simp;have hR:InR c.n.length (List.range c.n.length):=⟨by simp,by simp⟩
   have hT:(tab c.n.length fun j=>if j < c.n.length then j else 0) = List.range c.n.length:=by
    have:(tab c.n.length fun j=>if j < c.n.length then j else 0) = tab c.n.length fun j=>j:=qcg fun j hj=>by rw [if_pos hj]
    rw [this]; simp [tab]
   rw [hT];refine CallO.weaken (h2:=qan g19 g4 c.n.length (qos c) (List.range c.n.length)) (by simp [qan,qab]) (jiv (qu2 hR List.pairwise_lt_range (by omega)) ?_);rintro v h ⟨L',q1,q2,rfl⟩;simp;refine .move 19 0 _ (by simp) (by simp [qan]; rfl) fun g2=>.done ⟨[(0,.row g2 1 (qah L'))],?_,.inr ⟨he,g2,L',?_,rfl,q1,q2⟩⟩
   ·simp [qan,qap (qav L')]
   ·simp
 ·simp [he];refine fun gf2=>.done ⟨[],trivial,.inl ⟨he,rfl,rfl⟩⟩
end
section
open Go
theorem qqn (l:List (List UInt8)):jgy (l.map V.str) = true:=V.pureL_map _ l fun _=>rfl
end
section
open Go
@[simp] theorem ja4 (c:Ci):c.v.cells = [.sl (c.n.map Nd.v) none,.sl (c.s.map .str) none,.sl (c.m.map Md.v) none,.sl (qc1 c.o) none]:=rfl
@[simp] theorem jb2 (c:Nd):c.v.cells = [.int .u8 c.k,.sl (qc1 c.i) none,.int .i64 c.a,.int .i64 c.b]:=rfl
@[simp] theorem jbv (c:Md):c.v.cells = [.sl (qc1 c.a) none,.sl (qc1 c.d) none,.int .i64 c.w]:=rfl
end
end Go.Proofs.YtlmniacemoohpaaGreatDoor
