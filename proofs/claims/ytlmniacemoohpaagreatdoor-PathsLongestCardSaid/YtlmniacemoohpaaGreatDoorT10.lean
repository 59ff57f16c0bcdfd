/- Transitions: the contract of All. Conditions: none. -/
import Derived.Test.YtlmniacemoohpaaGreatDoorJ7
import Derived.Test.YtlmniacemoohpaaGreatDoorT7
set_option linter.all false
namespace Go.Proofs.YtlmniacemoohpaaGreatDoor
open Go
def qvm (n m:Nat):List V:=(List.range m).map fun (k:Nat)=>.agg [qab n,.int .i64 ((k:Int) - 1)]
def qor (c:Ci) (i:Nat):List V:=(List.range i).flatMap fun n=>qvm n ((c.nd n).i.length + 1)
theorem qxi (n m:Nat):qvm n (m + 1) = qvm n m ++ [.agg [qab n,.int .i64 ((m:Int) - 1)]]:=by simp [qvm,List.range_succ]
theorem qpy (c:Ci) (i:Nat):qor c (i + 1) = qor c i ++ qvm i ((c.nd i).i.length + 1):=by simp [qor,List.range_succ]
theorem qxh (n m:Nat):jgy (qvm n m) = true:=by
 rw [jg0]; intro v hv;obtain ⟨k,-,rfl⟩:=List.mem_map.1 hv;rfl
theorem qgl (c:Ci) (i:Nat):jgy (qor c i) = true:=by
 rw [jg0]; intro v hv;obtain ⟨n,-,h⟩:=List.mem_flatMap.1 hv;exact (jg0 _).1 (qxh _ _) v h
theorem qtg (n m:Nat):(qvm n m).length = m:=by simp [qvm]
theorem qtf (c:Ci) (hc:∀ n,n < c.n.length->(c.nd n).i.length≤16):∀ i,i≤c.n.length->(qor c i).length≤17 * i
 | 0,_=>by simp [qor]
 | i + 1,h=>by
  rw [qpy,List.length_append,qtg];have:=qtf c hc i (by omega);have:=hc i (by omega);omega
theorem q2y (l:List V) (cap:Option Nat) (hp:jgy l = true) (_hc:∀ x ∈ l,x.cells.length = 2):qac Tryz.prog gl0 74 [.sl l cap] (.sl l (some l.length)):=by
 refine jiu 2 q9n rfl ?_;simp [i74,x74];exact qak _ hp
theorem qnx (c:Ci) (hg:c.good):qac Tryz.prog gl0 57 [c.v] (.tup [.sl (qor c c.n.length) (some (qor c c.n.length).length),.int .i64 0]):=by
 have h1:=q4y c hg;have hn1:=hg.n1;have hn0:=hg.n0;have hval:=hg.val;have hll:=qtf c (fun n hn=>hval.l n hn);refine jiu 2 ok57 rfl ?_;simp [i57,x57];intro gf1;generalize gf1 1 = g1;refine jir h1 (by simp) ?_;simp
 refine jh2 (X:=Nat × Option (Nat × List V)) (fun z=>[(17,qab z.1),(16,qab c.n.length),(15,.sl (c.n.map Nd.v) none),(5,qbj 35 z.2),(1,.ptr 1 g1 0 0)]) (fun z=>(1,.row g1 4 [c.v]) :: qbo 35 2 z.2)
  (fun z=>z.1≤c.n.length/\qau z.2 = qor c z.1/\(z.2 = none↔z.1 = 0)) (fun z=>c.n.length - z.1) (.done ⟨(0,none),⟨by simp,by simp [qau,qor],by simp⟩,by simp [qab,qbj],by simp [qbo]⟩) ?_
 rintro ⟨i,acc⟩ ⟨q1,q2,q3⟩;dsimp only at q1 q2 q3 ⊢;simp [qab];refine jis (fun hb=>?_) (fun hb=>?_)
 ·have hi:i < c.n.length:=jiy hb;have hw:=qbg i (by omega);obtain ⟨y,hy⟩:∃ y,c.n[i] = y:=⟨_,rfl⟩;have hyl:=hval.l i hi;have hnd:c.nd i = y:=by rw [c.nd_get hi,hy]
  have hsN:=qpy c i;rw [hnd] at hyl hsN;have hlli:=hll i (by omega);have hw2:=qbg y.i.length (by omega);obtain ⟨M,hM⟩:∃ M,y.i.length + 1 = M:=⟨_,rfl⟩;rw [hM] at hw2 hsN;simp [hi,hy];intro gf2;generalize gf2 7 = g7;simp [hw2]
  refine jit (X:=Nat × Option (Nat × List V)) (fun z=>[(26,qab z.1),(25,qab M),(6,qab i),(17,qab i),(16,qab c.n.length),(15,.sl (c.n.map Nd.v) none),(5,qbj 35 z.2),(1,.ptr 1 g1 0 0)]) (fun z=>(1,.row g1 4 [c.v]) :: qbo 35 2 z.2)
   (fun z=>z.1≤M/\qau z.2 = qor c i ++ qvm i z.1/\(z.2 = none->i = 0/\z.1 = 0)) (fun z=>M - z.1) (0,acc) ⟨by simp,by simp [qvm,q2],fun h=>⟨q3.1 h,rfl⟩⟩ (by simp [qab]) (by rcases acc with _ | ⟨ga,r⟩ <;> simp [qbo]) ?_
  rintro ⟨k,acc2⟩ ⟨p1,p2,p3⟩;dsimp only at p1 p2 p3 ⊢;simp [qab];refine jis (fun hb2=>?_) (fun hb2=>?_)
  ·have hk:k < M:=jiy hb2;have hw3:=qbg k (by omega);have hw4:IntKind.i64.wrap ((k:Int) - 1) = (k:Int) - 1:=by rw [qaq] <;> omega
   have hnx:=qxi i k;have hnx2:qor c i ++ qvm i (k + 1) = (qor c i ++ qvm i k) ++ [.agg [.int .i64 (i:Int),.int .i64 ((k:Int) - 1)]]:=by rw [hnx,List.append_assoc]; rfl
   rw [<- p2] at hnx2;have hlen:=congrArg List.length p2;rw [List.length_append,qtg] at hlen;rcases acc2 with _ | ⟨gb,rb⟩
   ·simp [qbj,qbo,hw4];intro ga gb;exact ⟨k + 1,some (gb 35,[.agg [.int .i64 (i:Int),.int .i64 ((k:Int) - 1)]]),⟨hk,by simpa [qau] using hnx2.symm,by simp⟩,by simp [hw3],by simp,by omega⟩
   ·simp [qbj,qbo,hw4];intro ga gb1;exact ⟨by simp only [qau] at hlen; omega,k + 1,some (gb1 35,rb ++ [.agg [.int .i64 (i:Int),.int .i64 ((k:Int) - 1)]]),⟨hk,by simpa [qau] using hnx2.symm,by simp⟩,by simp [hw3],by simp,by omega⟩
  ·have hk:k = M:=by have:=jiz hb2; omega
   subst hk;simp [hw];refine .done ⟨i + 1,acc2,⟨hi,by rw [p2,hsN],?_⟩,by simp,by rcases acc2 with _ | ⟨ga,r⟩ <;> simp [qbo],by omega⟩;constructor
   ·intro h; have:=(p3 h).2; omega
   ·intro h; omega
 ·have hi:i = c.n.length:=by have:=jiz hb; omega
  subst hi
  have hcl:=q2y (qor c c.n.length) none (qgl _ _) (fun x hx=>by
   obtain ⟨n,-,h⟩:=List.mem_flatMap.1 hx;obtain ⟨k,-,rfl⟩:=List.mem_map.1 h;rfl)
  have hpp:=qgl c c.n.length;generalize qor c c.n.length = C at q2 hcl hpp ⊢;rcases acc with _ | ⟨ga,r⟩
  ·have:=q3.1 rfl; omega
  ·simp only [qau] at q2;subst q2;simp [qbj,qbo];refine .mk [(5,.ref 35 ga 0 r.length none)] [(35,.row ga 2 r)] (by simp) (by simp) (.frz (g:=ga) (sz:=2) (es:=r) 35 (by simp) hpp (.done ?_));simp [fzF,fzH,fzV,fzf];refine jir hcl (by simp [hpp]) ?_;simp [qak,hpp]
end Go.Proofs.YtlmniacemoohpaaGreatDoor
