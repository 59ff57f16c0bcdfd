/- Transitions: circuits without nodes of kind Tri and Bus, patterns of known values; the law Detects. Conditions: none. -/
import Derived.Test.YtpaopccohkldlaaGreatDoorT12
import Derived.Test.YtpaopccohkldlaaGreatDoorT7
import Derived.Test.YtpaopccohkldlaaGreatDoorXP
set_option linter.unusedSimpArgs false
set_option linter.unusedVariables false
namespace Go.Proofs.YtpaopccohkldlaaGreatDoor
open Go
def qx0 (l : List Nd) : Prop:=∀ y ∈ l,y.k ≠ 12/\y.k ≠ 13
theorem jks (g : Gx) (l : List Nd) : (qek false g l).1 ≠ 12/\(qek false g l).1 ≠ 13:=by
 unfold qek qd1;dsimp only;have h : g.k % 9 < 9:=Nat.mod_lt _ (by omega);rw [if_neg Bool.false_ne_true];generalize g.k % 9 = k at h;split
 ·dsimp only; omega
 split
 ·simp
 split
 ·simp
 rw [if_neg (by omega),if_neg (by omega)];split
 ·dsimp only; omega
 ·simp
theorem q5x : ∀ (gs : List Gx) (l : List Nd),qx0 l->qx0 (qdy false gs l)
 | [],_,h=>h
 | g :: gs,l,h=>by
  rw [qdy];refine q5x gs _ fun y hy=>?_;rcases List.mem_append.1 hy with hy | hy
  ·exact h y hy
  ·obtain rfl:=List.mem_singleton.1 hy;obtain ⟨h1,h2⟩:=jks g l;exact ⟨by simp only [ndN]; omega,by simp only [ndN]; omega⟩
theorem st0K (x : Cx) (hm : x.mem = false) : qx0 x.st0:=by
 intro y hy;unfold Cx.st0 Cx.st1 at hy;rw [if_neg (by rw [hm]; exact Bool.false_ne_true),List.append_nil] at hy;rcases List.mem_append.1 hy with h | h
 ·rw [List.eq_of_mem_replicate h]; exact ⟨by simp [in0],by simp [in0]⟩
 ·rw [List.eq_of_mem_replicate h]; exact ⟨by simp [ja8],by simp [ja8]⟩
theorem ns1K (x : Cx) (hb : x.bus = false) (hm : x.mem = false) : ∀ i,qx0 (x.ns1 i)
 | 0=>by
  show qx0 x.ns0;unfold Cx.ns0;rw [hb];exact q5x _ _ (st0K x hm)
 | i + 1=>by
  have ih:=ns1K x hb hm i;intro y hy;unfold Cx.ns1 at hy;rcases List.mem_or_eq_of_mem_set hy with h | rfl
  ·exact ih y h
  ·dsimp only;by_cases hl : x.n % 4 + 1 + i < (x.ns1 i).length
   ·rw [jpr,jpv hl];exact ih _ (jpu hl)
   ·rw [jpr,List.getElem?_eq_none (by omega)];exact ⟨by simp [in0],by simp [in0]⟩
theorem q4t (x : Cx) (hb : x.bus = false) (hm : x.mem = false) : x.ci.plain:=by
 intro n hn hc;obtain ⟨h1,-⟩:=qlr x;have h2:=h1 n hn;have h3:=ns1K x hb hm (x.f % 3) (x.ci.n[n]) (jpu hn);unfold qb2 at hc;rw [x.ci.nd_get hn] at hc ⊢;simp only [qf7,decide_eq_true_eq] at hc;rcases h2 with h | h | h | h
 ·omega
 ·omega
 ·rw [hm] at h; exact absurd h.1 Bool.false_ne_true
 ·exact ⟨h.1,by omega,h.2.2.1⟩
def Cx.pl (x : Cx) : Cx:={ x with bus:=false }
theorem q80 (x : Cx) (hx : x.ok) : qac Tryz.prog gl0 14 [x.v] x.pl.nm.ci.v:=by
 have hyok : x.pl.ok:=⟨hx.n,hx.f,hx.d0,hx.d1,hx.p0,hx.p1,hx.p2,hx.p3,hx.g,hx.o⟩;have hof:=q7h x.pl hyok;have hpu:=q3t x.pl;generalize x.pl.nm.ci = c at hof ⊢;have hcl : c.v.cells = [.sl (c.n.map Nd.v) none,.sl (c.s.map .str) none,.sl (c.m.map Md.v) none,.sl (qdg c.o) none]:=rfl;simp only [Cx.pl] at hof hpu;refine jpk 2 ok14 rfl ?_;simp [i14,x14,Cx.v];intro gf1 gf2;refine jpg hof hpu ?_;simp [qae,qdn,qd5,qcu]
 try rfl
end Go.Proofs.YtpaopccohkldlaaGreatDoor
