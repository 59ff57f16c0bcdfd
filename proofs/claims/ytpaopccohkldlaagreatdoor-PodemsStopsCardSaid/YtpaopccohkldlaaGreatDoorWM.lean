/- Podems: the law Finds. Conditions: none. -/
import Derived.Test.YtpaopccohkldlaaGreatDoorWL
import Derived.Test.YtpaopccohkldlaaGreatDoorWF
import Derived.Test.YtpaopccohkldlaaGreatDoorXL8
set_option linter.all false
namespace Go.Proofs.YtpaopccohkldlaaGreatDoor
open Go
theorem q1y {q:Pt} (hc:q.cu):spc (q.i ++ q.s) + q.opens = q.many:=by
 have h:∀ (l:List Nat),(∀ x ∈ l,x≤2)->(l.countP fun x=>decide (x < 2)) + (l.countP fun x=>decide (x = 2)) = l.length:=by
  intro l
  induction l with
  | nil=>intro _; rfl
  | cons a r ih=>
   intro h;have h1:=h a List.mem_cons_self;have h2:=ih fun x hx=>h x (List.mem_cons_of_mem _ hx);rw [List.countP_cons,List.countP_cons,List.length_cons];by_cases ha:a < 2
   ·have hb:¬ a = 2:=by omega
    simp [ha,hb]; omega
   ·have hb:a = 2:=by omega
    simp [hb]; omega
 have hl:∀ x ∈ q.i ++ q.s,x≤2:=fun x hx=>(List.mem_append.1 hx).elim (hc.1 x) (hc.2 x);have h1:=h _ hl
 have h2:q.opens = (q.i ++ q.s).countP fun x=>decide (x = 2):=by
  have e:q.i ++ q.s = (List.range q.many).map q.bit:=by
   refine List.ext_getElem (by simp [Pt.many]) fun j a b=>?_;rw [List.getElem_map,List.getElem_range];unfold Pt.bit;by_cases hj:j < q.i.length
   ·rw [if_pos hj,List.getElem_append_left hj,jqu,jqy hj]; rfl
   ·have hj2:j - q.i.length < q.s.length:=by rw [List.length_append] at a; omega
    rw [if_neg hj,List.getElem_append_right (by omega),jqu,jqy hj2]; rfl
  rw [e,List.countP_map];rfl
 rw [h2];unfold spc;unfold Pt.many;rw [<- List.length_append];exact h1
theorem qty (c:Ci) (hg:c.good) (hk:c.plain) (f:Ft) (hf:f.ok c) (hm:f.m = 0) (l:Nat) (hl:l≤1000000):qac Tryz.prog gl0 47 [c.v,f.w,qpl l (qgn c f l),qaa l] (.bool true):=by
 have hv:=qng c hg hk f hf hm l
 cases hR:qgn c f l with
 | found q w=>
  rw [hR] at hv;obtain ⟨-,h2,h3,h4,-,h6,h7,-⟩:=hv
  have ho:(qd4 c).opens = (qd4 c).many:=by
   unfold Pt.opens;rw [List.countP_eq_length.2 fun j hj=>by simp [qn7 (List.mem_range.1 hj)],List.length_range]
  have hs:=q1y h3
  have hmm:q.many = (qd4 c).many:=by
   have e1:q.i.length = cnt 0 c.n:=h2.i;have e2:q.s.length = cnt 14 c.n:=h2.s;rw [qhw];unfold Pt.many;rw [e1,e2]
  exact q5h c hg f hf hm q w l l h2 h3 h4 (by omega) h6 (by omega)
 | proof t w=>
  rw [hR] at hv;obtain ⟨h1,h2,h3,-,h5,-⟩:=hv;have hok:=h2 [] (by simp);rw [qhw] at hok;exact q5i c hg hk f hf hm t w l l h1 hok (by omega) (qq2 c hg hk f hf hm l hR) h5 (by omega)
 | spent q=>exact q5j c hg f q l (by omega)
theorem je5 (x:Cx):x.nm.ci.n.length≤16:=by
 rw [(qjo x.nm).2];have:=(qlx x.nm).2.2.2;exact this
theorem q1a (l:Nat) (R:VR):(qpl l R).pure = true:=by
 cases R <;> simp [qpl,V.pure,jos,qaa,trV,qcd]
theorem qts (l:Nat) (R:VR):∃ s:Nat,∃ b d e w:V,qpl l R = .agg [.int .u8 s,b,d,e,w]/\(decide ((s:Int) = 1) = R.fnd)/\((∀ q,R ≠ .spent q)->s ≠ 3):=by
 cases R with
 | found q w=>exact ⟨1,_,_,_,_,rfl,rfl,fun _=>by decide⟩
 | proof t w=>exact ⟨2,_,_,_,_,rfl,rfl,fun _=>by decide⟩
 | spent q=>exact ⟨3,_,_,_,_,rfl,rfl,fun h=>absurd rfl (h q)⟩
set_option maxRecDepth 100000 in
theorem jef (x:Cx) (hx:x.ok) (z:Fx) (hz:z.ok):qac Tryz.prog gl0 8 [x.v,z.v] (.bool true):=by
 have hcs:=q00 x hx;have hcp:=qk8 x;have hg:=q0l x.pl;have hpl:=qun x.pl.nm rfl rfl;have h16:=je5 x.pl;generalize x.pl.nm.ci = c at hcs hg hpl h16;have hst:=q13 c hg z hz;obtain ⟨hf,hfm⟩:=q7r c hg z;generalize stF c z = f at hst hf hfm;have hlv:=qu8;have hb:=qyb c (by omega);have hdt:=qus c hg f hf hfm;have l2:=qk2 c.n;obtain ⟨B,hB⟩:∃ B,cnt 0 c.n + cnt 14 c.n = B:=⟨_,rfl⟩;have hB16:B≤16:=by omega
 have hsh:=jax (B:=B) (by omega);have hp16:2 ^ B≤2 ^ 16:=Nat.pow_le_pow_right (by omega) hB16;have hp1:1≤2 ^ B:=Nat.one_le_two_pow;have hN:2 ^ (cnt 0 c.n + cnt 14 c.n)≤(2 ^ B - 1) + 1:=by rw [hB]; omega
 have hgen:=qq1 c hg hpl f hf hfm (2 ^ B - 1) (by omega);have hso:=qty c hg hpl f hf hfm (2 ^ B - 1) (by omega);have hiff:=q84 c hg hpl f hf hfm (2 ^ B - 1) hN;have hend:=qor c hg hpl f hf hfm (2 ^ B - 1) hN;rw [hB] at hb;have hrp:=q1a (2 ^ B - 1) (qgn c f (2 ^ B - 1));obtain ⟨s,r1,r2,r3,r4,hr,hs1,hs3⟩:=qts (2 ^ B - 1) (qgn c f (2 ^ B - 1));have hs3':=hs3 hend;rw [hiff] at hs1;rw [hr] at hgen hso hrp
 have hsub:IntKind.i64.wrap (((2 ^ B:Nat):Int) - 1) = ((2 ^ B - 1:Nat):Int):=by
  generalize 2 ^ B = N at hp16 hp1 ⊢;rw [qao] <;> omega
 generalize q6q c f = D at hdt hs1;generalize 2 ^ B - 1 = L at hgen hso hsub;generalize 2 ^ B = N at hsh hsub;simp only [V.pure,jos,Bool.and_eq_true] at hrp;obtain ⟨-,p1,p2,p3,p4,-⟩:=hrp;have hs1':decide (s = 1) = D:=by rw [<- hs1]; exact decide_eq_decide.2 (by omega)
 simp only [Cx.v] at hcs hcp;simp only [Fx.v,u8V] at hst;simp only [qaa,Ft.w,u8V] at hb hdt hgen hso hst;refine jqo 2 ok8 rfl ?_;simp [i8,x8,nop,Cx.v,Fx.v,u8V];intro gf2 gf3;refine jqk hcs (by simp only [jos,Bool.and_true]; exact hcp) ?_;simp;intro gf5;refine jqk hst (by simp) ?_;simp;intro gf6;refine jqk hb (by simp) ?_;simp [hsh,hsub];refine jqk hgen (by simp) ?_;simp;intro gf8;simp [hs3'];refine jqk hso (by simp [p1,p2,p3,p4]) ?_;simp;intro gm
 first | refine ⟨_,_,_,.pure hdt (by simp),?_⟩ | refine ⟨_,⟨_,_,.pure hdt (by simp)⟩,?_⟩ | refine ⟨_,_,⟨_,.pure hdt (by simp)⟩,?_⟩
 simp [hs1']
 first | refine ⟨_,_,_,.pure hlv rfl,?_⟩ | refine ⟨_,⟨_,_,.pure hlv rfl⟩,?_⟩ | refine ⟨_,_,⟨_,.pure hlv rfl⟩,?_⟩
 simp
 try decide
end Go.Proofs.YtpaopccohkldlaaGreatDoor
