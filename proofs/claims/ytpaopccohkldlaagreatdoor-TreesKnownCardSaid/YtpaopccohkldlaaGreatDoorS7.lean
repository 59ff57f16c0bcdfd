/- Lemmas. Conditions: none. -/
import Derived.Test.YtpaopccohkldlaaGreatDoorT7
import Derived.Test.YtpaopccohkldlaaGreatDoorXT
set_option linter.all false
namespace Go.Proofs.YtpaopccohkldlaaGreatDoor
open Go
set_option maxRecDepth 100000 in
theorem q5q (m:Nat) (h:m < 24):qac Tryz.prog gl0 141 [.int .u64 1,.int .u64 (m:Int)] (.tup [.int .u64 0,.int .u64 (m:Int)]):=by
 have hc:m = 0∨m = 1∨m = 2∨m = 3∨m = 4∨m = 5∨m = 6∨m = 7∨m = 8∨m = 9∨m = 10∨m = 11∨m = 12∨m = 13∨m = 14∨m = 15∨m = 16∨m = 17∨m = 18∨m = 19∨m = 20∨m = 21∨m = 22∨m = 23:=by omega
 rcases hc with rfl | rfl | rfl | rfl | rfl | rfl | rfl | rfl | rfl | rfl | rfl | rfl | rfl | rfl | rfl | rfl | rfl | rfl | rfl | rfl | rfl | rfl | rfl | rfl
 all_goals
  refine jfu 2 jbf rfl ?_;simp [i141,x141,nop]
  try decide
theorem q5p (m:Nat) (h:m < 24):qac Tryz.prog gl0 102 [.int .u64 1,.int .u64 (m:Int)] (.tup [.int .u64 0,.int .u64 (m:Int)]):=by
 have h1:=q5q m h;refine jfu 2 jar rfl ?_;simp [i102,x102,nop];refine jfq h1 (by simp [jd6,V.pure]) ?_;simp
def rpU (n m:Nat):List V:=List.replicate n (.int .u8 2) ++ List.replicate (m - n) (.int .u8 0)
@[simp] theorem q3h {n m:Nat} (h:n≤m):(rpU n m).length = m:=by simp [rpU]; omega
theorem qyj {n m:Nat} (h:n≤m):(rpU n m).take n ++ ((rpU n m).take n).take (min n (m - n)) ++ (rpU n m).drop (n + min n (m - n)) = rpU (n + min n (m - n)) m:=by
 have h1:(rpU n m).take n = List.replicate n (.int .u8 2):=by
  unfold rpU; rw [List.take_left' (by simp)]
 have h2:(rpU n m).drop (n + min n (m - n)) = List.replicate (m - (n + min n (m - n))) (.int .u8 0):=by
  unfold rpU;rw [<- List.drop_drop,List.drop_left' (by simp),List.drop_replicate];congr 1; omega
 rw [h1,h2];unfold rpU;rw [List.take_replicate,List.replicate_append_replicate];congr 2; omega
theorem qvc (m:Nat) (h:m < 24):qb5 Tryz.prog gl0 66 [.sl [.int .u8 2] (some 1),.int .i64 (m:Int)] (qsv 1 (List.replicate m (.int .u8 2)) (some m)):=by
 refine jfw ok66 rfl ?_;have hm:=q5p m h
 have hc:IntKind.u64.wrap (m:Int) = (m:Int):=by
  show ((m:Int) % 18446744073709551616) = _;omega
 have hc1:IntKind.u64.wrap 1 = 1:=rfl;have hi:IntKind.i64.wrap (m:Int) = (m:Int):=by rw [qau] <;> omega
 simp [i66,x66,hc,hc1];refine jfq hm (by simp) ?_;have hle:¬ (9223372036854775807:Int) < (m:Int):=by omega
 simp [hle,hi,nop,show m≤549755813888 by omega];obtain ⟨s,hs⟩:∃ s,min 1 m = s:=⟨_,rfl⟩
 have hini:List.take s [V.int IntKind.u8 2] ++ List.replicate (m - s) (V.int IntKind.u8 0) = rpU s m:=by
  have:s = 0∨s = 1:=by omega
  rcases this with rfl | rfl <;> rfl
 intro gf;generalize gf 30 = g;rw [hs];refine jft (X:=Nat) (fun n=>[(8,qab n),(7,.ref 30 g 0 m (some m))]) (fun n=>[(30,.row g 1 (rpU n m))]) (fun n=>n≤m/\(0 < m->1≤n)) (fun n=>m - n) s ⟨by omega,by omega⟩ (by simp [qab]) (by simp [<- hini]) ?_;rintro n ⟨h1,h2⟩;simp [qab];refine jfr (fun hb=>?_) (fun hb=>?_)
 ·have hn:n < m:=jfy hb;have:=h2 (by omega);simp [nop,h1,qab];exact ⟨n + min n (m - n),⟨by omega,by omega⟩,qq9 rfl (by omega),by rw [<- List.append_assoc]; exact qyj h1,by omega⟩
 ·have hn:n = m:=by have:=jfz hb; omega
  subst hn;have he:rpU n n = List.replicate n (.int .u8 2):=by simp [rpU]
  simp [he];refine .move 30 0 _ (by simp) (by simp; rfl) fun g=>.done ?_;simp;exact ⟨[(0,.row g 1 (List.replicate n (.int .u8 2)))],by simp [List.map_replicate],g,by simp,rfl⟩
theorem qdr (m:Nat):jd6 (List.replicate m (V.int .u8 2)) = true:=by rw [jee]; intro v hv; rw [List.eq_of_mem_replicate hv]; rfl
theorem qmr (m:Nat) (h:m < 24):qb5 Tryz.prog gl0 65 [.int .i64 (m:Int)] (qsv 1 (List.replicate m (.int .u8 2)) (some m)):=by
 refine jfw ok65 rfl ?_;have hr:=qvc m h;simp [i65,x65];intro gf;refine jer 1 1000 hr (by simp) (by simp) ?_;rintro v h' ⟨g,rfl,rfl⟩;refine ⟨rfl,fun b k hb=>?_,fun gf2=>?_⟩
 ·simp only [lk] at hb;split at hb
  ·cases hb;show jec _ = true;rw [jev]; intro v hv; rw [List.eq_of_mem_replicate hv]; rfl
  ·cases hb
 ·have hp:=qdr m;simp [upH,upS,Blk.rn,qaz hp];refine .move 1000 0 _ (by simp) (by simp; rfl) fun g=>.done ?_;simp;exact ⟨[(0,.row g 1 (List.replicate m (.int .u8 2)))],by simp [Blk.rn],g,by simp,rfl⟩
def q7e (c:Ci) (v:V) (h:Hp):Prop:=∃ g0 g1,v = .agg [.ref 0 g0 0 (cnt 0 c.n) (some (cnt 0 c.n)),.ref 1 g1 0 (cnt 14 c.n) (some (cnt 14 c.n))]/\
 h = [(0,.row g0 1 (List.replicate (cnt 0 c.n) (.int .u8 2))),(1,.row g1 1 (List.replicate (cnt 14 c.n) (.int .u8 2)))]
theorem qp3 (c:Ci) (hg:c.good):qb5 Tryz.prog gl0 22 [c.v] (q7e c):=by
 have hn1:=hg.n1;have l0:=qcd 0 c.n;have l1:=qcd 14 c.n;have ci:=qgi c (by omega);have cs:=qeg c (by omega);have hIl:(ids 0 c.n 0).length = cnt 0 c.n:=rfl;have hSl:(ids 14 c.n 0).length = cnt 14 c.n:=rfl;unfold q7e;generalize ids 0 c.n 0 = I at ci hIl;generalize ids 14 c.n 0 = S at cs hSl;generalize cnt 0 c.n = A at ci hIl l0 ⊢;generalize cnt 14 c.n = B at cs hSl l1 ⊢;have b0:=qmr A (by omega);have b1:=qmr B (by omega);refine jfw ok22 rfl ?_;simp [i22,x22];intro gf1 gf2 gm
 first | refine ⟨_,_,_,.pure ci (by simp),?_⟩ | refine ⟨_,⟨_,_,.pure ci (by simp)⟩,?_⟩ | refine ⟨_,_,⟨_,.pure ci (by simp)⟩,?_⟩
 simp [hIl];refine ⟨_,_,_,.own b0 (by simp) (qdr A) rfl,?_⟩;simp
 first | refine ⟨_,_,_,.pure cs (by simp),?_⟩ | refine ⟨_,⟨_,_,.pure cs (by simp)⟩,?_⟩ | refine ⟨_,_,⟨_,.pure cs (by simp)⟩,?_⟩
 simp [hSl];refine ⟨_,_,_,.own b1 (by simp) (qdr B) rfl,?_⟩;simp;refine ⟨by simp [qe8,qgr,qwn,qoj]; exact rfl,?_⟩;refine .move 8 0 _ (by simp) (by simp; rfl) fun g0=>.move 13 1 _ (by simp) (by simp; rfl) fun g1=>.done ?_;simp;exact ⟨[(0,.row g0 1 (List.replicate A (.int .u8 2))),(1,.row g1 1 (List.replicate B (.int .u8 2)))],by simp,g0,g1,⟨rfl,rfl⟩,rfl⟩
end Go.Proofs.YtpaopccohkldlaaGreatDoor
