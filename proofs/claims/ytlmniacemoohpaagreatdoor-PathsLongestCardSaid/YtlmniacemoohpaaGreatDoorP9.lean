/- Lemmas. Conditions: none. -/
import Derived.Test.YtlmniacemoohpaaGreatDoorP6
import Derived.Test.YtlmniacemoohpaaGreatDoorXTP
import Derived.Test.YtlmniacemoohpaaGreatDoorXG
import Derived.Test.YtlmniacemoohpaaGreatDoorBase18
set_option linter.all false
namespace Go.Proofs.YtlmniacemoohpaaGreatDoor
section
open Go
def qpg:V:=.agg [.sl [.agg [.int .u8 0,.nil,.int .i64 0,.int .i64 0],.agg [.int .u8 0,.nil,.int .i64 0,.int .i64 0],.agg [.int .u8 5,.sl [.int .i64 0,.int .i64 1] (some 2),.int .i64 0,.int .i64 0]] (some 3),.sl [.str [97],.str [98],.str [121]] (some 3),.nil,.sl [.int .i64 2] (some 1)]
set_option maxRecDepth 1000000
theorem q7h:qch Tryz.prog gl0 66 [] (qsi 6 qpg):=jhh ql3 (m:=200000) (by kernel_rfl)
theorem q22:qch Tryz.prog gl0 32 [qpg] (qsi 6 (.tup [.int .u64 2,.int .i64 0])):=jhh ql3 (m:=200000) (by kernel_rfl)
def q0g:V:=.sl [.sl [.agg [.int .i64 2,.int .i64 0]] none,.sl [.agg [.int .i64 2,.int .i64 1]] none,.nil] (some 3)
def qxy (a b d e:Int):V:=.agg [.sl [.int .u8 a,.int .u8 b] (some 2),.nil,.sl [.int .u8 d,.int .u8 e] (some 2),.nil]
theorem q4g:qch Tryz.prog gl0 67 [.int .u8 0,.int .u8 1,.int .u8 1,.int .u8 1] (qsi 6 (qxy 0 1 1 1)):=jhh ql3 (m:=200000) (by kernel_rfl)
theorem q4h:qch Tryz.prog gl0 67 [.int .u8 1,.int .u8 1,.int .u8 0,.int .u8 1] (qsi 6 (qxy 1 1 0 1)):=jhh ql3 (m:=200000) (by kernel_rfl)
theorem q4i:qch Tryz.prog gl0 67 [.int .u8 1,.int .u8 0,.int .u8 0,.int .u8 1] (qsi 6 (qxy 1 0 0 1)):=jhh ql3 (m:=200000) (by kernel_rfl)
end
section
open Go
def gtC:Ci:=⟨[⟨0,[],0,0⟩,⟨0,[],0,0⟩,⟨5,[0,1],0,0⟩],[[97],[98],[121]],[],[2]⟩
theorem qwy:VLe qpg gtC.v:=by
 unfold qpg Ci.v gtC;refine VLe.agg ⟨VLe.trans (.cap _ _) (jhu rfl fun i=>?_),.cap _ _,.nil',.cap _ _,trivial⟩
 match i with
 | 0=>exact ⟨.refl _,.nil',.refl _,.refl _,trivial⟩
 | 1=>exact ⟨.refl _,.nil',.refl _,.refl _,trivial⟩
 | 2=>exact ⟨.refl _,.cap _ _,.refl _,.refl _,trivial⟩
 | i + 3=>exact qf9.refl _
theorem qwz:shE gtC = 0:=by decide
theorem qwx:gtC.g 0 = []/\gtC.g 1 = []/\gtC.g 2 = [0,1]:=by decide
theorem qc8:gtC.good where
 wf:=⟨by intro x hx; simp [gtC] at hx; rcases hx with rfl | rfl <;> simp,by intro s hs; simp [gtC] at hs; rcases hs with rfl | rfl | rfl <;> simp⟩
 chk:=by
  have ha:qyz gtC:=qgq fun i hi x hx=>by
   obtain ⟨g0,g1,g2⟩:=qwx
   match i,hi with
   | 0,_=>rw [g0] at hx; simp at hx
   | 1,_=>rw [g1] at hx; simp at hx
   | 2,_=>rw [g2] at hx; simp at hx; omega
   | i + 3,h=>have e:gtC.n.length = 3:=rfl; omega
  unfold qsn; rw [if_neg (by rw [qwz]; simp),if_pos ha]
 sh:=qwz
 ac:=qgq fun i hi x hx=>by
   obtain ⟨g0,g1,g2⟩:=qwx
   match i,hi with
   | 0,_=>rw [g0] at hx; simp at hx
   | 1,_=>rw [g1] at hx; simp at hx
   | 2,_=>rw [g2] at hx; simp at hx; omega
   | i + 3,h=>have e:gtC.n.length = 3:=rfl; omega
 m:=rfl
 k:=by intro y hy; simp [gtC] at hy; rcases hy with rfl | rfl <;> simp
 n0:=by decide
 n1:=by decide
def g2P (a b:Nat):Pt:=⟨[a,b],[]⟩
theorem q1j {a b:Nat} (ha:a≤1) (hb:b≤1):(g2P a b).fit gtC:=⟨rfl,rfl,by intro x hx; simp [g2P] at hx; omega,by intro x hx; simp [g2P] at hx⟩
theorem q1k {a b:Nat}:qel gtC (g2P a b) 0 = a/\qel gtC (g2P a b) 1 = b:=by
 have h0:=qtm qc8 qc8.ord (p:=g2P a b) (n:=0) (by decide) (by decide);have h1:=qtm qc8 qc8.ord (p:=g2P a b) (n:=1) (by decide) (by decide);have e0:ids 14 gtC.n 0 = []:=by decide
 have e1:ids 0 gtC.n 0 = [0,1]:=by decide
 unfold ini at h0 h1;rw [e0,e1] at h0 h1;simp [g2P,put,qfi] at h0 h1;exact ⟨h0,h1⟩
def qzs:List Ln:=[(0,-1),(2,0)]
theorem qzt:qri gtC qzs = true:=by decide
theorem gtst (a b d e:Nat) (h1:d≤1) (h2:d = qlz a) (h0:a≤1):jap gtC (qel gtC (g2P a b)) (qel gtC (g2P d e)) (qkt gtC (qel gtC (g2P a b)) (qel gtC (g2P d e))) qzs =
  if e = 1 then (if (decide (b≤1) && decide (b = e) || !decide (d = 0)) = true then 2 else 1) else 0:=by
 obtain ⟨a0,a1⟩:=q1k (a:=a) (b:=b);obtain ⟨b0,b1⟩:=q1k (a:=d) (b:=e);have hf:=q3d qc8 qc8.ord (qel gtC (g2P a b)) (qel gtC (g2P d e)) (n:=1) (by decide)
 have hs:stE gtC (qel gtC (g2P a b)) (qel gtC (g2P d e)) 1 (qkt gtC (qel gtC (g2P a b)) (qel gtC (g2P d e))) = (decide (b≤1) && decide (b = e)):=by
  have:qdf gtC 1 = false:=by decide
  unfold stE; rw [this,a1,b1]; rfl
 rw [hs] at hf;generalize qkt gtC (qel gtC (g2P a b)) (qel gtC (g2P d e)) = F at hf ⊢;have hg2:gtC.g 2 = [0,1]:=by decide
 have hk2:(gtC.nd 2).k.toNat = 5:=by decide
 have hn1:qlz 0 = 1:=rfl;have hc5:qop 5 = 0:=rfl;unfold jap;simp only [qzs,List.getD_cons_zero,Int.toNat_zero,a0,b0];rw [if_pos ⟨h0,h2⟩];simp only [List.drop_succ_cons,List.drop_zero,q1n];have ht2:(2:Int).toNat = 2:=rfl;simp only [ht2,Int.toNat_zero,hg2,hk2,qli,List.take_zero,List.drop_succ_cons,List.drop_zero,List.nil_append,List.getD_cons_zero,b0];unfold lnT;have hok:okT (qel gtC (g2P d e)) 5 0 [1] = decide (e = 1):=by simp [okT,b1,hc5,hn1]
 have hqu:quT F 5 0 [1] d = (decide (b≤1) && decide (b = e) || !decide (d = 0)):=by simp [quT,hf,hc5]
 rw [hok,hqu];by_cases he:e = 1
 ·simp only [he,decide_true,if_true];split <;> rfl
 ·simp [he]
end
section
open Go
def qjc (c:Ci) (X:Nat->List Ln):Nat->Nat->Bool
 | 0,n=>qjw c n
 | k + 1,n=>(X n).any fun l=>qjc c X k l.1.toNat
theorem q6e (L:List Nat) (cap:Option Nat):qac Tryz.prog gl0 113 [.sl (qah L) cap] (.fn 145 [] [.iptr (.sl (qah L) cap) 0]):=by
 refine jiu 3 q8h rfl ?_;simp [jd3,x113,qav,qak]
noncomputable def q5l (g g8 g7 g3:Nat):Blk:=.loop g 82 [(8,.ptr 8 g8 0 0),(7,.ptr 7 g7 0 0),(3,.ptr 3 g3 0 0)] [27,28] qp8 qp9 false
def qa0 (c:Ci) (X:Nat->List Ln) (n:Nat):V:=.sl (tab 256 fun k=>.bool (qjc c X k n)) (some 256)
def q45 (c:Ci) (X:Nat->List Ln) (S:Nat->Bool):List V:=tab c.n.length fun n=>bif S n then qa0 c X n else .nil
noncomputable def qvl (c:Ci) (X:Nat->List Ln) (cx:Option Nat) (g g8 g7 g3 g24:Nat) (S:Nat->Bool):Hp:=
 [(2000027,q5l g g8 g7 g3),(8,.row g8 1 [.ref 24 g24 0 c.n.length (some c.n.length)]),(7,.row g7 1 [.sl (qbk c.n.length (qjw c)) (some c.n.length)]),(3,.row g3 1 [.sl (tab c.n.length fun n=>.sl ((X n).map lnI) none) cx]),(24,.row g24 1 (q45 c X S))]
theorem q1z:List.replicate 256 (V.bool false) = qbk 256 fun _=>false:=by unfold qbk; rw [qeh]
set_option maxRecDepth 100000 in
set_option maxHeartbeats 4000000 in
theorem jgw (c:Ci) (hg:c.good) (X:Nat->List Ln) (cx:Option Nat) {g g8 g7 g3 g24:Nat} {S:Nat->Bool} {i n:Nat} (hn:n < c.n.length) (hSn:S n = false) (hXl:(X n).length < 1000000) (hX:∀ l ∈ X n,∃ m:Nat,l.1 = (m:Int)/\m < c.n.length/\m ≠ n/\S m = true) {K:V->Hp->Prop}
  (hk:∀ h',Sub (qvl c X cx g g8 g7 g3 g24 (qfi S n true)) h'->K (.bool true) h') :
  qja Tryz.prog gl0 2000027 g [qab i,qab n] (qvl c X cx g g8 g7 g3 g24 S) K:=by
 have hn1:=hg.n1;unfold qvl q45 at *;obtain ⟨r,hr⟩:∃ r:Nat->V,∀ m,r m = bif S m then qa0 c X m else .nil:=⟨_,fun _=>rfl⟩;have hrf:(fun n=>bif S n then qa0 c X n else V.nil) = r:=by funext m; rw [hr]
 have hrn:r n = .nil:=by rw [hr,hSn]; rfl
 have hr2:(fun m=>bif qfi S n true m then qa0 c X m else V.nil) = qfi r n (qa0 c X n):=by
  funext m;by_cases h:m = n
  ·subst h; simp
  ·rw [qa7 _ _ h,qa7 _ _ h,hr]
 rw [hr2] at hk;rw [hrf];refine qja.of_W q4r (by simp [q5l]; rfl) rfl ?_;simp [q16,q17,qab,q5l,q1z,-List.reduceReplicate];refine ⟨_,_,_,_,_,⟨rfl,rfl,rfl,rfl,rfl⟩,?_⟩;intro gm;generalize gm 31 = g31;simp [hn,qa1,hrn,qi4,q1z,-List.reduceReplicate];refine ⟨rfl,?_⟩;obtain ⟨en,hen⟩:∃ b,qjw c n = b:=⟨_,rfl⟩;simp [hn,qa1,qbv,hen,qcv]
 obtain ⟨D,hD⟩:∃ D:Nat->Nat->Bool,∀ j i,D j i = match i with
  | 0=>en
  | i + 1=>((X n).take j).any fun l=>qjc c X i l.1.toNat:=⟨_,fun _ _=>rfl⟩
 have hD0:D 0 = qfi (fun _=>false) 0 en:=by
  funext i;rw [hD]
  cases i with
  | zero=>simp
  | succ i=>rw [qa7 _ _ (by omega)]; simp
 have hDe:D (X n).length = fun k=>qjc c X k n:=by
  funext i;rw [hD]
  cases i with
  | zero=>simp [qjc,hen]
  | succ i=>simp [qjc]
 have hDs:∀ j (hj:j < (X n).length) i,D (j + 1) (i + 1) = (D j (i + 1) || qjc c X i ((X n)[j]).1.toNat):=fun j hj i=>by
  rw [hD,hD]; simp only [List.take_succ_eq_append_getElem hj,List.any_append,List.any_cons,List.any_nil,Bool.or_false]
 have hDz:∀ j,D j 0 = en:=fun j=>by rw [hD]
 rw [<- hD0]
 refine jit (X:=Nat) (fun j=>[(47,qab j),(46,qab (X n).length),(45,.sl ((X n).map lnI) none),(10,qab n),(8,.ptr 8 g8 0 0),(7,.ptr 7 g7 0 0),(3,.ptr 3 g3 0 0)])
  (fun j=>[(2000027,.loop g 82 [(8,.ptr 8 g8 0 0),(7,.ptr 7 g7 0 0),(3,.ptr 3 g3 0 0)] [27,28] qp8 qp9 true),(8,.row g8 1 [.ref 24 g24 0 c.n.length (some c.n.length)]),(7,.row g7 1 [.sl (qbk c.n.length (qjw c)) (some c.n.length)]),(3,.row g3 1 [.sl (tab c.n.length fun n=>.sl ((X n).map lnI) none) cx]),
   (24,.row g24 1 (tab c.n.length (qfi r n (.ref 31 g31 0 256 (some 256))))),(31,.row g31 1 (qbk 256 (D j)))])
  (fun j=>j≤(X n).length) (fun j=>(X n).length - j) 0 (by simp) (by simp [qab]) (by simp) ?_
 rintro j hj;simp [qab];refine jis (fun hb=>?_) (fun hb=>?_)
 ·have hj':j < (X n).length:=jiy hb;have hw:=qbg j (by omega);obtain ⟨m,hm,hmN,hmn,hSm⟩:=hX _ (ji3 hj');have hrm:r m = qa0 c X m:=by rw [hr,hSm]; rfl
  obtain ⟨⟨a,b⟩,hab⟩:∃ p,(X n)[j] = p:=⟨_,rfl⟩;have hDj:=hDs j hj';rw [hab] at hm hDj;dsimp only at hm;subst hm;simp [hj',hab,lnI];intro gf12;generalize gf12 12 = g12;obtain ⟨E,hE⟩:∃ E:Nat->Nat->Bool,∀ k i,E k i = if 1≤i/\i≤k then D (j + 1) i else D j i:=⟨_,fun _ _=>rfl⟩
  have hE0:E 0 = D j:=by funext i; rw [hE,if_neg (by omega)]
  have hEe:∀ i,i < 256->E 255 i = D (j + 1) i:=fun i hi=>by
   rw [hE];by_cases h:1≤i
   ·rw [if_pos ⟨h,by omega⟩]
   ·obtain rfl:i = 0:=by omega
    rw [if_neg (by omega),hDz,hDz]
  have hEs:∀ k,E (k + 1) = qfi (E k) (k + 1) (D (j + 1) (k + 1)):=fun k=>by
   funext i;by_cases h:i = k + 1
   ·subst h; rw [qcu,hE,if_pos (by omega)]
   ·rw [qa7 _ _ h,hE,hE];by_cases h2:1≤i/\i≤k
    ·rw [if_pos h2,if_pos (by omega)]
    ·rw [if_neg h2,if_neg (by omega)]
  have hEk:∀ k,E k (k + 1) = D j (k + 1):=fun k=>by rw [hE,if_neg (by omega)]
  refine jit (X:=Nat) (fun k=>[(51,qab k),(12,.ptr 12 g12 0 0),(47,qab j),(46,qab (X n).length),(45,.sl ((X n).map lnI) none),(10,qab n),(8,.ptr 8 g8 0 0),(7,.ptr 7 g7 0 0),(3,.ptr 3 g3 0 0)])
   (fun k=>[(2000027,.loop g 82 [(8,.ptr 8 g8 0 0),(7,.ptr 7 g7 0 0),(3,.ptr 3 g3 0 0)] [27,28] qp8 qp9 true),(8,.row g8 1 [.ref 24 g24 0 c.n.length (some c.n.length)]),(7,.row g7 1 [.sl (qbk c.n.length (qjw c)) (some c.n.length)]),(3,.row g3 1 [.sl (tab c.n.length fun n=>.sl ((X n).map lnI) none) cx]),
    (24,.row g24 1 (tab c.n.length (qfi r n (.ref 31 g31 0 256 (some 256))))),(31,.row g31 1 (qbk 256 (E k))),(12,.row g12 2 [lnI ((m:Int),b)])])
   (fun k=>k≤255) (fun k=>255 - k) 0 (by simp) (by simp [qab]) (by simp [hE0,lnI]) ?_
  rintro k hk2;simp [qab];refine jis (fun hb2=>?_) (fun hb2=>?_)
  ·have hk':k < 255:=jiy hb2;have hw2:=qbg k (by omega);have hmn':¬ n = m:=fun e=>hmn e.symm;obtain ⟨e1,he1⟩:∃ b,D j (k + 1) = b:=⟨_,rfl⟩;obtain ⟨e2,he2⟩:∃ b,qjc c X k m = b:=⟨_,rfl⟩;have hDk:=hDj k;simp only [Int.toNat_natCast] at hDk;rw [he1,he2] at hDk;have hEk':=hEk k;rw [he1] at hEk';have hnx:=hEs k;rw [hDk] at hnx;obtain ⟨q,hq⟩:∃ q,k + 1 = q:=⟨_,rfl⟩;rw [hq] at hw2 hEk' hnx;have hq2:q < 256:=by omega
   cases e1
   case' true=>
    simp [hw2,hn,qa1,hq2,qbv,hEk',qcv]
   case' false=>
    simp [hw2,hn,qa1,hq2,qbv,hEk',qcv,qa7 _ _ hmn,hrm,hmN,lnI,qa0,show k < 256 by omega,he2]
   all_goals
    first | refine ⟨q,by omega,rfl,?_,by omega⟩ | refine ⟨rfl,q,by omega,rfl,?_,by omega⟩
    rw [hnx]; simp
  ·have hk':k = 255:=by have:=jiz hb2; omega
   subst hk'
   have hbe:qbk 256 (E 255) = qbk 256 (D (j + 1)):=by
    unfold qbk;exact qcg fun i hi=>by rw [hEe i hi]
   simp [hw,hbe];exact ⟨j + 1,hj',by simp,by simp,by omega⟩
 ·have hj':j = (X n).length:=by have:=jiz hb; omega
  subst hj';rw [hDe];simp;refine .frz (g:=g31) (sz:=1) (es:=qbk 256 fun k=>qjc c X k n) 31 (by simp) (qc6 _ _) (.done ?_);have pX:jgy (tab c.n.length fun n=>V.sl ((X n).map lnI) none) = true:=qcd fun n=>by simp [qbs]
  have hmap:(tab c.n.length (qfi r n (.ref 31 g31 0 256 (some 256)))).map (fzV 31 g31 (qbk 256 fun k=>qjc c X k n)) = tab c.n.length (qfi r n (qa0 c X n)):=by
   rw [qol];refine qcg fun m hm=>?_;by_cases h:m = n
   ·subst h;rw [qcu,qcu];have ht:List.take 256 (qbk 256 fun k=>qjc c X k m) = qbk 256 fun k=>qjc c X k m:=ji2 (by simp);simp [fzV,fzf,V.mapR,qa0,qbk];exact ht
   ·rw [qa7 _ _ h,qa7 _ _ h,hr];cases S m
    ·rfl
    ·simp [qa0,fzV,V.mapR];exact qak _ (qcd fun _=>rfl)
  simp [fzF,fzH,fzV,fzf,fzp,Blk.fz,qak,qc6,pX];refine ⟨_,_,_,_,_,⟨rfl,rfl,rfl,rfl,rfl⟩,[(2000027,q5l g g8 g7 g3),(8,.row g8 1 [.ref 24 g24 0 c.n.length (some c.n.length)]),(7,.row g7 1 [.sl (qbk c.n.length (qjw c)) (some c.n.length)]),(3,.row g3 1 [.sl (tab c.n.length fun n=>.sl ((X n).map lnI) none) cx]),(24,.row g24 1 (tab c.n.length (qfi r n (qa0 c X n))))],?_,hk _ ?_⟩
  ·rw [<- hmap];simp [q5l,fzV]
  ·simp
def qjv (L:List Nat) (k:Nat) (n:Nat):Bool:=decide (n ∈ L.drop k)
theorem qw7 {L:List Nat} {k:Nat} (hk:k < L.length):qfi (qjv L (k + 1)) L[k] true = qjv L k:=by
 funext m;by_cases h:m = L[k]
 ·subst h; rw [qcu]; unfold qjv; rw [List.drop_eq_getElem_cons hk]; simp only [List.mem_cons,true_or,decide_true]
 ·rw [qa7 _ _ h]; unfold qjv; rw [List.drop_eq_getElem_cons hk]; simp only [List.mem_cons,h,false_or]
set_option maxRecDepth 100000 in
theorem qw4 (c:Ci) (hg:c.good) (X:Nat->List Ln) (cx cl:Option Nat) {g g8 g7 g3 g24:Nat} {L:List Nat} (hL:L.length = c.n.length) (hLN:∀ x ∈ L,x < c.n.length) (hnd:L.Nodup) (hXl:∀ n,n < c.n.length->(X n).length < 1000000)
  (hX:∀ k (hk:k < L.length),∀ l ∈ X L[k],∃ m:Nat,l.1 = (m:Int)/\m < c.n.length/\m ≠ L[k]/\m ∈ L.drop (k + 1)) {K:V->Hp->Prop} (hK:∀ v h',Sub (qvl c X cx g g8 g7 g3 g24 (fun n=>decide (n ∈ L))) h'->K v h') :
  qa6 Tryz.prog gl0 145 [.own 2000027 g,.iptr (.sl (qah L) cl) 0] (qvl c X cx g g8 g7 g3 g24 fun _=>false) K:=by
 have hn1:=hg.n1;have hn0:=hg.n0;obtain ⟨N,hN⟩:∃ N,c.n.length = N:=⟨_,rfl⟩;have hws:IntKind.i64.wrap ((N:Int) - 1) = ((N:Int) - 1):=by simp [IntKind.wrap,IntKind.bits,IntKind.signed]; omega
 refine jix q8y rfl ?_;simp [jej,x145,hL,hN,hws]
 refine jit (X:=Nat) (fun k=>[(3,.int .i64 ((k:Int) - 1)),(1,.iptr (.sl (qah L) cl) 0),(0,.own 2000027 g)])
  (fun k=>qvl c X cx g g8 g7 g3 g24 (qjv L k)) (fun k=>k≤N) (fun k=>k) N (by omega) (by simp) ?_ ?_
 ·have:qjv L N = fun _=>false:=by funext n; unfold qjv; rw [List.drop_of_length_le (by omega)]; simp
  rw [this];simp [qvl]
 rintro k hk;simp;refine jis (fun hb=>?_) (fun hb=>?_)
 ·have hk0:=jiy hb;obtain ⟨q,rfl⟩:∃ q,k = q + 1:=⟨k - 1,by omega⟩;have hq:q < L.length:=by omega
  have hnN:=hLN L[q] (ji3 hq);have hup:=qw7 hq
  have hSn:qjv L (q + 1) L[q] = false:=by
   unfold qjv;have h1:=List.drop_eq_getElem_cons hq;have h2:(L.drop q).Nodup:=hnd.sublist (List.drop_sublist _ _);rw [h1,List.nodup_cons] at h2;simpa using h2.1
  obtain ⟨n,hn⟩:∃ n,L[q] = n:=⟨_,rfl⟩;have hXn:=hX q hq;rw [hn] at hnN hup hSn hXn;have hq1:((q + 1:Nat):Int) - 1 = (q:Int):=by omega
  simp [hq,qar,hn]
  refine jgw c hg X cx hnN hSn (hXl n hnN) (fun l hl=>by
   obtain ⟨m,e1,e2,e3,e4⟩:=hXn l hl;exact ⟨m,e1,e2,e3,by unfold qjv; simpa using e4⟩) fun h' hs=>?_
  rw [hup] at hs;have hwq:IntKind.i64.wrap ((q:Int) - 1) = (q:Int) - 1:=by simp [IntKind.wrap,IntKind.bits,IntKind.signed]; omega
  simp [hwq];exact ⟨q,by omega,rfl,hs,by omega⟩
 ·have hk0:k = 0:=by have:=jiz hb; omega
  subst hk0;have e:qjv L 0 = fun n=>decide (n ∈ L):=by funext n; simp [qjv]
  rw [e];simp;refine .done ⟨_,?_,hK _ (qvl c X cx g g8 g7 g3 g24 fun n=>decide (n ∈ L)) ?_⟩
  all_goals simp [qvl]
theorem later {c:Ci} (hg:c.good) {L:List Nat} (ho:Ord c L) {k:Nat} (hk:k < L.length) {m:Nat} (hm:m < c.n.length) (h:L[k] ∈ c.g m):m ≠ L[k]/\m ∈ L.drop (k + 1):=by
 have hlv:qjz c.n.length c.g (qos c):=hg.ac.lv;have h1:qos c L[k] < qos c m:=by rw [hlv m hm]; exact qpq h
 refine ⟨fun e=>by rw [e] at h1; omega,?_⟩;obtain ⟨j,hj,rfl⟩:=List.getElem_of_mem (ho.all hm);have hp:=List.pairwise_iff_getElem.1 ho.p;rcases Nat.lt_trichotomy j k with hjk | rfl | hjk
 ·have:=hp j k hj hk hjk;exact absurd this (qs7 (.inl h1))
 ·omega
 ·rw [List.mem_iff_getElem];exact ⟨j - (k + 1),by simp; omega,by simp; congr 1; omega⟩
def q19 (c:Ci) (X:Nat->List Ln):Prop:=∀ n,n < c.n.length->(X n).length < 1000000/\∀ l ∈ X n,∃ m:Nat,l.1 = (m:Int)/\m < c.n.length/\n ∈ c.g m
set_option maxRecDepth 100000 in
theorem qpr (c:Ci) (hg:c.good) (X:Nat->List Ln) (hX:q19 c X) (cx:Option Nat):qac Tryz.prog gl0 72 [c.v,.sl (tab c.n.length fun n=>.sl ((X n).map lnI) none) cx] (.sl (tab c.n.length fun n=>qa0 c X n) (some c.n.length)):=by
 have hn1:=hg.n1;have hob:=qms c hg;have pX:jgy (tab c.n.length fun n=>V.sl ((X n).map lnI) none) = true:=qcd fun n=>by simp [qbs]
 refine jik 2 4 ok72 rfl ?_;simp [i72,x72];intro gf1 gf2;generalize gf1 2 = g2;generalize gf2 3 = g3;refine KM.mk (.done ?_);simp;refine CallO.own 1000 (qrx c hg.wf) (by simp) (by simp) ?_;rintro v h (⟨h1,-⟩ | ⟨-,g,L,rfl,rfl,hR,hpw⟩) gf4
 ·exact absurd hg.chk h1
 have hord:Ord c L:=⟨hR,hpw (by omega)⟩;have hLl:L.length = c.n.length:=hR.len;simp [upH,upS,Blk.rn,qap (qav L)];generalize gf4 1000 + g = g9;refine KM.mk (.frz (g:=g9) (sz:=1) (es:=qah L) 1000 (by simp) (qav _) (.done ?_));have htk:List.take c.n.length (qah L) = qah L:=ji2 (by simp [hLl]);simp [fzF,fzH,fzV,fzf,fzp,Blk.fz,qak,pX,qav,hLl,htk];have hback:=q6e L (some c.n.length);refine jir hob (by simp) ?_;simp;intro gf5 gf6;refine ⟨by omega,?_⟩;intro gf7;generalize gf5 7 = g7;generalize gf6 24 = g24;generalize gf7 8 = g8;refine jir hback (by simp [qav]) ?_;simp;have hcr0:List.replicate c.n.length V.nil = q45 c X fun _=>false:=by unfold q45; simp [qeh]
 refine ⟨[(8,.ptr 8 g8 0 0),(7,.ptr 7 g7 0 0),(3,.ptr 3 g3 0 0)],by simp,(qvl c X cx 0 g8 g7 g3 g24 fun _=>false).drop 1,by simp [qvl,hcr0],fun g=>?_⟩;refine qw4 c hg X cx (some c.n.length) hLl hR.lt (qda hord.p) (fun n hn=>(hX n hn).1) (fun k hk l hl=>?_) fun v h' hs=>?_
 ·obtain ⟨m,e1,e2,e3⟩:=(hX L[k] (hR.lt _ (ji3 hk))).2 l hl;obtain ⟨e4,e5⟩:=later hg hord hk e2 e3;exact ⟨m,e1,e2,e4,e5⟩
 have hall:(q45 c X fun n=>decide (n ∈ L)) = tab c.n.length fun n=>qa0 c X n:=by
  unfold q45;refine qcg fun n hn=>?_;have:=hord.all hn;simp [this]
 unfold qvl at hs;rw [hall] at hs;simp only [Sub,q5l] at hs;obtain ⟨s1,s2,s3,s4,s5,-⟩:=hs;have pR:jgy (tab c.n.length fun n=>qa0 c X n) = true:=qcd fun n=>by simp only [qa0,V.pure]; exact qcd fun _=>rfl
 simp [s1,s2,s5,qa4 pR];exact ji2 (by simp)
end
end Go.Proofs.YtlmniacemoohpaaGreatDoor
