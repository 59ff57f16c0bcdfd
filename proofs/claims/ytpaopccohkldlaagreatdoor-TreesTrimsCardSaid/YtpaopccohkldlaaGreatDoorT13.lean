/- Transitions: circuits without nodes of kind Tri and Bus, patterns of known values; the law Detects. Conditions: none. -/
import Derived.Test.YtpaopccohkldlaaGreatDoorT12
import Derived.Test.YtpaopccohkldlaaGreatDoorT7
import Derived.Test.YtpaopccohkldlaaGreatDoorXT
set_option linter.all false
namespace Go.Proofs.YtpaopccohkldlaaGreatDoor
open Go
def qt8 (l:List Nd):Prop:=∀ y ∈ l,y.k ≠ 12/\y.k ≠ 13
theorem jb6 (g:Gx) (l:List Nd):(qd6 false g l).1 ≠ 12/\(qd6 false g l).1 ≠ 13:=by
 unfold qd6 qdq;dsimp only;have h:g.k % 9 < 9:=Nat.mod_lt _ (by omega);rw [if_neg Bool.false_ne_true];generalize g.k % 9 = k at h;split
 ·dsimp only; omega
 split
 ·simp
 split
 ·simp
 rw [if_neg (by omega),if_neg (by omega)];split
 ·dsimp only; omega
 ·simp
theorem q07:∀ (gs:List Gx) (l:List Nd),qt8 l->qt8 (qdn false gs l)
 | [],_,h=>h
 | g :: gs,l,h=>by
  rw [qdn];refine q07 gs _ fun y hy=>?_;rcases List.mem_append.1 hy with hy | hy
  ·exact h y hy
  ·obtain rfl:=List.mem_singleton.1 hy;obtain ⟨h1,h2⟩:=jb6 g l;exact ⟨by simp only [ndN]; omega,by simp only [ndN]; omega⟩
theorem st0K (x:Cx) (hm:x.mem = false):qt8 x.st0:=by
 intro y hy;unfold Cx.st0 Cx.st1 at hy;rw [if_neg (by rw [hm]; exact Bool.false_ne_true),List.append_nil] at hy;rcases List.mem_append.1 hy with h | h
 ·rw [List.eq_of_mem_replicate h]; exact ⟨by simp [in0],by simp [in0]⟩
 ·rw [List.eq_of_mem_replicate h]; exact ⟨by simp [q4u],by simp [q4u]⟩
theorem ns1K (x:Cx) (hb:x.bus = false) (hm:x.mem = false):∀ i,qt8 (x.ns1 i)
 | 0=>by
  show qt8 x.ns0;unfold Cx.ns0;rw [hb];exact q07 _ _ (st0K x hm)
 | i + 1=>by
  have ih:=ns1K x hb hm i;intro y hy;unfold Cx.ns1 at hy;rcases List.mem_or_eq_of_mem_set hy with h | rfl
  ·exact ih y h
  ·dsimp only;by_cases hl:x.n % 4 + 1 + i < (x.ns1 i).length
   ·rw [jh0,jh4 hl];exact ih _ (jh3 hl)
   ·rw [jh0,List.getElem?_eq_none (by omega)];exact ⟨by simp [in0],by simp [in0]⟩
theorem qys (x:Cx) (hb:x.bus = false) (hm:x.mem = false):x.ci.plain:=by
 intro n hn hc;obtain ⟨h1,-⟩:=qjd x;have h2:=h1 n hn;have h3:=ns1K x hb hm (x.f % 3) (x.ci.n[n]) (jh3 hn);unfold qcv at hc;rw [x.ci.nd_get hn] at hc ⊢;simp only [qen,decide_eq_true_eq] at hc;rcases h2 with h | h | h | h
 ·omega
 ·omega
 ·rw [hm] at h; exact absurd h.1 Bool.false_ne_true
 ·exact ⟨h.1,by omega,h.2.2.1⟩
def Cx.pl (x:Cx):Cx:={ x with bus:=false }
theorem q3r (x:Cx) (hx:x.ok):qac Tryz.prog gl0 14 [x.v] x.pl.nm.ci.v:=by
 have hyok:x.pl.ok:=⟨hx.n,hx.f,hx.d0,hx.d1,hx.p0,hx.p1,hx.p2,hx.p3,hx.g,hx.o⟩;have hof:=q2g x.pl hyok;have hpu:=qyv x.pl;generalize x.pl.nm.ci = c at hof ⊢;have hcl:c.v.cells = [.sl (c.n.map Nd.v) none,.sl (c.s.map .str) none,.sl (c.m.map Md.v) none,.sl (qda c.o) none]:=rfl;simp only [Cx.pl] at hof hpu;refine jhu 2 ok14 rfl ?_;simp [i14,x14,Cx.v];intro gf1 gf2;refine jhq hof hpu ?_;simp [qag,qb8,qck,qbs]
 try rfl
end Go.Proofs.YtpaopccohkldlaaGreatDoor
