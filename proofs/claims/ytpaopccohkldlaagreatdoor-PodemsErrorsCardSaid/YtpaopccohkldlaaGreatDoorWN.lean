/- Podems: the law Errors. Conditions: none. -/
import Derived.Test.YtpaopccohkldlaaGreatDoorWH
import Derived.Test.YtpaopccohkldlaaGreatDoorWM
import Derived.Test.YtpaopccohkldlaaGreatDoorXL10
set_option linter.all false
namespace Go.Proofs.YtpaopccohkldlaaGreatDoor
open Go
theorem q2s (c:Ci) (f:Fw) (l P:Int) (hP:P ≠ 0) (h:qac Tryz.prog gl0 42 [c.v] (.int .i64 P)):qac Tryz.prog gl0 92 [c.v,f.w,.int .i64 l] (.int .i64 P):=by
 simp only [Fw.w];refine jo3 2 jlb rfl ?_;simp [i92,x92];intro gf1 gf2;refine joz h (by simp) ?_;simp [hP]
theorem qxg (c:Ci) (P:Int) (E:Fw->Int) (R:Fw->V) (l:Int) (hP:qac Tryz.prog gl0 42 [c.v] (.int .i64 P)) (fs:List Fw) (cap:Option Nat) (hE:P = 0->∀ f ∈ fs,qac Tryz.prog gl0 92 [c.v,f.w,.int .i64 l] (.int .i64 (E f)))
  (hR:P = 0->∀ f ∈ fs,E f = 0->qac Tryz.prog gl0 46 [c.v,f.w,.int .i64 l] (.tup [R f,.int .i64 0])) (hRp:∀ f ∈ fs,(R f).pure = true) (hRc:∀ f ∈ fs,∃ a b c d e,R f = .agg [a,b,c,d,e]) :
  qac Tryz.prog gl0 51 [c.v,.sl (fs.map Fw.w) cap,.int .i64 l] (.tup [if qpv P E fs ≠ 0 then .sl [] none else .sl (fs.map R) none,.int .i64 (qpv P E fs)]):=by
 have h:=jhn c P E R l hP fs cap hE hR hRp hRc;refine jnn 2 h ?_
 have hp:jm8 (fs.map R) = true:=by
  rw [jnf];intro v hv;obtain ⟨f,hf,rfl⟩:=List.mem_map.1 hv;exact hRp f hf
 rintro v h (⟨h1,rfl,rfl⟩ | ⟨h1,g,cp,rfl,rfl⟩)
 ·rw [if_pos h1];exact VLe.tup ⟨VLe.nil',.refl _,trivial⟩
 ·rw [if_neg (by rw [h1]; simp),h1];rw [qhv,qbb (sz:=5) (es:=fs.map R) (by simp) (by simp),List.drop_zero,jpb (by simp),qbj _ _ hp]
  cases cp with
  | none=>exact VLe.refl _
  | some k=>exact VLe.tup ⟨VLe.cap _ _,.refl _,trivial⟩
theorem q35 (x:Cx) (h:qut x.ci = 0):x.ci.good/\x.ci.plain:=by
 unfold qut at h;by_cases hm:x.ci.m = []
 ·rw [if_neg (by simpa using hm)] at h
  have hmem:x.mem = false:=by
   cases hx:x.mem with
   | false=>rfl
   | true=>simp [Cx.ci,hx] at hm
  have hg:=q7w x hmem;refine ⟨hg,fun n hn hc=>?_⟩
  have hof:qj8 [12,13,15] x.ci.n 0 = []:=by
   by_cases e:qj8 [12,13,15] x.ci.n 0 = []
   ·exact e
   ·rw [if_pos e] at h; cases h
  obtain ⟨k0,k1,k2⟩:=q8n hg hn
  have hne:(x.ci.nd n).k ≠ 12/\(x.ci.nd n).k ≠ 13:=by
   have key:∀ (l:List Nd) (i:Nat),qj8 [12,13,15] l i = []->∀ y ∈ l,y.k ∉ [(12:Int),13,15]:=by
    intro l
    induction l with
    | nil=>intro _ _ y hy; simp at hy
    | cons a r ih=>
     intro i hi y hy;rw [qj8] at hi;split at hi
     ·cases hi
     ·rename_i hn;rcases List.mem_cons.1 hy with rfl | hy
      ·exact hn
      ·exact ih (i + 1) hi y hy
   have:=key _ _ hof _ (jpc hn);rw [x.ci.nd_get hn];simp only [List.mem_cons,List.not_mem_nil,or_false,not_or] at this;exact ⟨this.1,this.2.1⟩
  unfold qb2 qfg at hc;simp only [decide_eq_true_eq] at hc;exact ⟨by omega,by omega,k2⟩
 ·rw [if_pos (by simpa using hm)] at h;cases h
end Go.Proofs.YtpaopccohkldlaaGreatDoor
