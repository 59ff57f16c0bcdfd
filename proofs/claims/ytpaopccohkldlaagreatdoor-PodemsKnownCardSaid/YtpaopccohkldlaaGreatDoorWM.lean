/- Podems: the law Finds. Conditions: none. -/
import Derived.Test.YtpaopccohkldlaaGreatDoorWL
import Derived.Test.YtpaopccohkldlaaGreatDoorWF
import Derived.Test.YtpaopccohkldlaaGreatDoorXL8
set_option linter.all false
namespace Go.Proofs.YtpaopccohkldlaaGreatDoor
open Go
theorem q0q {q:Pt} (hc:q.cu):spc (q.i ++ q.s) + q.opens = q.many:=by
 have h:∀ (l:List Nat),(∀ x ∈ l,x≤2)->(l.countP fun x=>decide (x < 2)) + (l.countP fun x=>decide (x = 2)) = l.length:=by
  intro l
  induction l with
  | nil=>intro _; rfl
  | cons a r ih=>
   intro h;have h1:=h a List.mem_cons_self;have h2:=ih fun x hx=>h x (List.mem_cons_of_mem _ hx);rw [List.countP_cons,List.countP_cons,List.length_cons];by_cases ha:a < 2
   ·have hb:¬ a = 2:=by omega
    simp [ha,hb]; omega
   ·have hb:a = 2:=by omega
    simp [hb]; omega
 have hl:∀ x ∈ q.i ++ q.s,x≤2:=fun x hx=>(List.mem_append.1 hx).elim (hc.1 x) (hc.2 x);have h1:=h _ hl
 have h2:q.opens = (q.i ++ q.s).countP fun x=>decide (x = 2):=by
  have e:q.i ++ q.s = (List.range q.many).map q.bit:=by
   refine List.ext_getElem (by simp [Pt.many]) fun j a b=>?_;rw [List.getElem_map,List.getElem_range];unfold Pt.bit;by_cases hj:j < q.i.length
   ·rw [if_pos hj,List.getElem_append_left hj,jph,jpl hj]; rfl
   ·have hj2:j - q.i.length < q.s.length:=by rw [List.length_append] at a; omega
    rw [if_neg hj,List.getElem_append_right (by omega),jph,jpl hj2]; rfl
  rw [e,List.countP_map];rfl
 rw [h2];unfold spc;unfold Pt.many;rw [<- List.length_append];exact h1
theorem q9l (c:Ci) (hg:c.good) (hk:c.plain) (f:Ft) (hf:f.ok c) (hm:f.m = 0) (l:Nat) (hl:l≤1000000):qab Tryz.prog gl0 47 [c.v,f.w,qvy l (qkn c f l),qaa l] (.bool true):=by
 have hv:=qpv c hg hk f hf hm l
 cases hR:qkn c f l with
 | found q w=>
  rw [hR] at hv;obtain ⟨-,h2,h3,h4,-,h6,h7,-⟩:=hv
  have ho:(qd3 c).opens = (qd3 c).many:=by
   unfold Pt.opens;rw [List.countP_eq_length.2 fun j hj=>by simp [qnc (List.mem_range.1 hj)],List.length_range]
  have hs:=q0q h3
  have hmm:q.many = (qd3 c).many:=by
   have e1:q.i.length = cnt 0 c.n:=h2.i;have e2:q.s.length = cnt 14 c.n:=h2.s;rw [qg5];unfold Pt.many;rw [e1,e2]
  exact q39 c hg f hf hm q w l l h2 h3 h4 (by omega) h6 (by omega)
 | proof t w=>
  rw [hR] at hv;obtain ⟨h1,h2,h3,-,h5,-⟩:=hv;have hok:=h2 [] (by simp);rw [qg5] at hok;exact q4a c hg hk f hf hm t w l l h1 hok (by omega) (qpw c hg hk f hf hm l hR) h5 (by omega)
 | spent q=>exact q4b c hg f q l (by omega)
theorem q88 (l:Nat) (R:VR):(qvy l R).pure = true:=by
 cases R <;> simp [qvy,V.pure,jne,qaa,trV,qck]
theorem qsn (l:Nat) (R:VR):∃ s:Nat,∃ b d e w:V,qvy l R = .agg [.int .u8 s,b,d,e,w]/\(decide ((s:Int) = 1) = R.fnd)/\((∀ q,R ≠ .spent q)->s ≠ 3):=by
 cases R with
 | found q w=>exact ⟨1,_,_,_,_,rfl,rfl,fun _=>by decide⟩
 | proof t w=>exact ⟨2,_,_,_,_,rfl,rfl,fun _=>by decide⟩
 | spent q=>exact ⟨3,_,_,_,_,rfl,rfl,fun h=>absurd rfl (h q)⟩
end Go.Proofs.YtpaopccohkldlaaGreatDoor
