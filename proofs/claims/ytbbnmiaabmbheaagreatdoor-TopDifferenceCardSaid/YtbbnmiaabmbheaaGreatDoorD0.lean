/- Lemmas. Conditions: none. -/
import Derived.Test.YtbbnmiaabmbheaaGreatDoorK11
import Derived.Test.YtbbnmiaabmbheaaGreatDoorNet17
import Derived.Test.YtbbnmiaabmbheaaGreatDoorI1
import Derived.Test.YtbbnmiaabmbheaaGreatDoorT1
set_option linter.all false
namespace Go.Proofs.YtbbnmiaabmbheaaGreatDoor
section
open Go
structure Ci.fit (c:Ci):Prop where
 wf:c.wf
 ck:qi5 c = 0
 n:c.n.length≤20
 l:c.lens
 o:(jaj c).length≤1000000000
noncomputable def dmB (c:Ci) (n i:Nat):Bool:=bP (Dm c.g (Pp c) n i)
end
section
open Go
theorem q1u (x:Cx):x.ci.lens:=by
 have hv:=qo1 (qxq x) (qr2 x);have hl:=(qil x).2;have:=(qho x).2.2.2;refine ⟨by omega,?_,?_,?_,fun y hy=>?_,fun m hm=>?_⟩
 ·simp [Cx.ci]; omega
 ·simp only [Cx.ci]; split <;> simp
 ·simp [Cx.ci]; omega
 ·obtain ⟨i,hi,rfl⟩:=List.getElem_of_mem hy;have:=hv.l i hi;rw [x.ci.nd_get hi] at this; omega
 ·simp only [Cx.ci] at hm;split at hm
  ·rw [List.mem_singleton.1 hm]; simp
  ·simp at hm
theorem quy {α:Type} (f:α->List Int) (B:Nat):∀ l:List α,(∀ x ∈ l,(f x).length≤B)->(l.flatMap f).length≤l.length * B
 | [],_=>by simp
 | a :: l,h=>by
  have h1:=quy f B l fun x hx=>h x (List.mem_cons_of_mem _ hx);have h2:=h a List.mem_cons_self;simp only [List.flatMap_cons,List.length_append,List.length_cons,Nat.succ_mul]; omega
theorem ci_n (x:Cx):0 < x.ci.n.length/\x.ci.n.length≤16:=by
 rw [(qil x).2]; exact ⟨(qho x).2.2.1,(qho x).2.2.2⟩
theorem q5j (x:Cx):x.ci.fit:=by
 have hv:=qo1 (qxq x) (qr2 x);have hn:=ci_n x;refine ⟨qxq x,q0b x,by omega,q1u x,?_⟩;have h1:x.ci.o.length≤1000:=by simp [Cx.ci]; omega
 have h2:(x.ci.n.flatMap fun y=>if y.k = 14 then y.i else []).length≤x.ci.n.length * 16:=quy _ 16 _ fun y hy=>by
  obtain ⟨i,hi,rfl⟩:=List.getElem_of_mem hy;have:=hv.l i hi;rw [x.ci.nd_get hi] at this;split <;> simp; exact this
 have h3:(x.ci.m.flatMap fun m=>m.a ++ m.d ++ [m.w]).length≤1000:=by
  simp only [Cx.ci];split <;> simp
 simp only [jaj,List.length_append];omega
@[simp] theorem q9q (x:Cx):x.v.cells = [u8V x.n,u8V x.f,u8V x.d0,u8V x.d1,.bool x.bus,.bool x.mem,u8V x.p0,u8V x.p1,u8V x.p2,u8V x.p3,.sl (x.g.map Gx.v) none,.sl (x.o.map u8V) none]:=rfl
@[simp] theorem q3z (x:Cx):x.v.cellsOk = true:=rfl
theorem qxv (x:Cx):jid [x.v] = true:=by simp only [jid,Bool.and_true]; exact qud x
end
section
open Go
theorem q5o {c:Ci} (hv:c.val) (ha:qgk c) {n:Nat}:∀ (k b:Nat) (L:List Nat),c.n.length + 1 - plc c b≤k->qxe c.g (Pp c) c.n.length (qew c) n L b->∃ M,qsa c.g (Pp c) (qew c) n M:=by
 have hpl:=qcz hv ha;intro k
 induction k with
 | zero=>
  intro b L hk h;have:=(qim hv ha h.e).1;omega
 | succ k ih=>
  intro b L hk h;by_cases hb:b < c.n.length
  ·obtain ⟨b',e1,e2,e3⟩:=h.step hpl hb (qvt hv ha b hb);exact ih b' _ (by omega) e3
  ·exact ⟨L,h.done hb⟩
theorem qpq {c:Ci} (hv:c.val) (ha:qgk c) {n:Nat} (hn:n < c.n.length):qsa c.g (Pp c) (qew c) n (qxw c n):=by
 have hd:=qfq hv ha
 have:∃ M,qsa c.g (Pp c) (qew c) n M:=by
  rcases qvt hv ha n hn with ⟨-,h⟩ | ⟨b,-,-,h3,h4⟩
  ·exact ⟨[],qnw h⟩
  ·exact q5o hv ha _ b [] (jki _) (.ini hd h3 h4)
 exact Classical.epsilon_spec (p:=fun L=>qsa c.g (Pp c) (qew c) n L) this
theorem qx4 (n:Nat) (D:Nat->Bool):(fL n D).Nodup:=List.nodup_range.filter _
theorem qxx {c:Ci} (hv:c.val) (ha:qgk c) {n:Nat} (hn:n < c.n.length):(qxw c n).length = (fL c.n.length (dmB c n)).length:=by
 have h:=qpq hv ha hn;refine ((List.perm_ext_iff_of_nodup h.nodup (qx4 _ _)).2 fun j=>?_).length_eq;rw [h.m,q0i];unfold dmB;rw [qd2];exact ⟨fun q=>⟨q.lt (qfq hv ha),q⟩,fun q=>q.2⟩
end
section
open Go
def bvF (c:Ci) (A:Nat->Nat) (n to:Nat):Nat->Nat->Nat
 | 0,_=>0
 | k + 1,i=>if i = n then to else if qc9 c i = true then qmx c i (bvF c A n to k) else A i
noncomputable def bvN (c:Ci) (A:Nat->Nat) (n to:Nat) (i:Nat):Nat:=bvF c A n to (qew c i + 1) i
theorem q46 {c:Ci} (hd:Dag c.g c.n.length (qew c)) (A:Nat->Nat) (n to:Nat):∀ k i,qew c i < k->bvF c A n to k i = if i = n then to else if qc9 c i = true then qmx c i (bvN c A n to) else A i:=by
 intro k
 induction k using Nat.strongRecOn with
 | ind k ih=>
  intro i hi;obtain ⟨k,rfl⟩:∃ m,k = m + 1:=⟨k - 1,by omega⟩;simp only [bvF,qmx]
  have:(c.g i).map (bvF c A n to k) = (c.g i).map (bvN c A n to):=List.map_congr_left fun x hx=>by
   have hx2:=hd.lt _ _ hx;rw [ih k (by omega) x (by omega)];unfold bvN;rw [ih (qew c x + 1) (by omega) x (by omega)];rfl
  rw [this]
theorem q48 {c:Ci} (hd:Dag c.g c.n.length (qew c)) (A:Nat->Nat) (n to i:Nat):bvN c A n to i = if i = n then to else if qc9 c i = true then qmx c i (bvN c A n to) else A i:=q46 hd A n to _ i (Nat.lt_succ_self _)
theorem q1w {c:Ci} {i:Nat} (h:qc9 c i = true):i < c.n.length:=by
 refine Nat.lt_of_not_le fun hk=>?_;have:c.nd i = default:=by unfold Ci.nd; rw [jkd,List.getElem?_eq_none hk]; rfl
 unfold qc9 at h;rw [this] at h;exact absurd h (by simp [qdz,show (default:Nd).k = 0 from rfl])
theorem q6s {c:Ci} (hg:c.good) (p:Pt) {i:Nat} (hc:qc9 c i = true):qg4 c p i = qmx c i (qg4 c p):=by
 have h:=qyz (p:=p) hg hg.ord i (q1w hc);rw [if_pos hc,qv9 hc] at h;exact h
theorem q47 {c:Ci} (hg:c.good) (hd:Dag c.g c.n.length (qew c)) (p:Pt) (n to m:Nat) (h:qg4 c p m ≠ bvN c (qg4 c p) n to m):m = n∨∃ x ∈ c.g m,qg4 c p x ≠ bvN c (qg4 c p) n to x:=by
 by_cases e:m = n
 ·exact .inl e
 refine .inr (Classical.byContradiction fun q=>h ?_);rw [q48 hd,if_neg e];by_cases hc:qc9 c m = true
 ·rw [if_pos hc,q6s hg p hc];unfold qmx;have:(c.g m).map (qg4 c p) = (c.g m).map (bvN c (qg4 c p) n to):=List.map_congr_left fun x hx=>Classical.byContradiction fun h2=>q ⟨x,hx,h2⟩;rw [this]
 ·rw [if_neg hc]
theorem qyv {c:Ci} (hg:c.good) (p:Pt) {n to:Nat} (hn:n < c.n.length) {y:Nat} (hy:Pp c y) (hq:qg4 c p y ≠ bvN c (qg4 c p) n to y) {m:Nat} (hm:m ∈ qxw c n∨m = qdd c n):qg4 c p m ≠ bvN c (qg4 c p) n to m:=by
 intro hab;have hd:=qfq hg.val hg.ac;have hsn:Sn c.g (Pp c) (some m) n:=block hd (P:=Pp c) (D:=fun y=>qg4 c p y ≠ bvN c (qg4 c p) n to y) (fun m hm=>q47 hg hd p n to m hm) (fun d e=>by cases e; exact fun q=>q hab) hy hq;rcases hm with hm | rfl
 ·exact (((qpq hg.val hg.ac hn).m m).1 hm).2.2 hsn
 ·have hst:=qzp hg.val hg.ac n hn;by_cases e:qdd c n = n
  ·rw [e] at hsn; exact hsn.ne rfl
  ·exact ((hst.dom hg.val hg.ac e).2 hsn.any).2.2 hsn
end
end Go.Proofs.YtbbnmiaabmbheaaGreatDoor
