/- Podems: the law Known. Conditions: none. -/
import Derived.Test.YtpaopccohkldlaaGreatDoorWM
import Derived.Test.YtpaopccohkldlaaGreatDoorWC
import Derived.Test.YtpaopccohkldlaaGreatDoorWH
import Derived.Test.YtpaopccohkldlaaGreatDoorXL12
set_option linter.all false
namespace Go.Proofs.YtpaopccohkldlaaGreatDoor
open Go
def zeF:Fw:=⟨0,0,0,0,0⟩
theorem jab (n:Nat):(List.replicate n zeF).map Fw.w = List.replicate n (.agg [.int .u8 0,.int .i64 0,.int .i64 0,.int .u8 0,.int .i64 0]):=by rw [List.map_replicate]; rfl
theorem jbe (c:Ci) (hg:c.good) (hk:c.plain) (l:Int) (hl:q8v c zeF 0 l ≠ 0) (n:Nat) (hn:65536 < n) (cap:Option Nat) :
  qbi Tryz.prog gl0 51 [c.v,.sl (List.replicate n (.agg [.int .u8 0,.int .i64 0,.int .i64 0,.int .u8 0,.int .i64 0])) cap,.int .i64 l] (fun v h=>v = .tup [.nil,.int .i64 3]/\h = []):=by
 have h1:=qk3 c hg hk zeF 0 l (fun _ _ _ h=>absurd h (by decide))
 have h:=jhw c 0 (fun _=>q8v c zeF 0 l) (fun _=>.agg [.nil,.nil,.nil,.nil,.nil]) l (qjs c hg hk) (List.replicate n zeF) cap (fun _ f hf=>by obtain rfl:=List.eq_of_mem_replicate hf; exact h1)
  (fun _ f hf h=>absurd h hl) (fun f _=>rfl) (fun f _=>⟨_,_,_,_,_,rfl⟩)
 rw [jab] at h
 have e:q1q 0 (fun _=>q8v c zeF 0 l) (List.replicate n zeF) = 3:=by
  unfold q1q;rw [if_neg (by simp),if_pos (by rw [List.length_replicate]; exact hn)]
 refine qbi.mono h ?_;rintro v h (⟨-,h2,h3⟩ | ⟨h1,-⟩)
 ·rw [e] at h2;exact ⟨h2,h3⟩
 ·rw [e] at h1; cases h1
def emC:Ci:=⟨[],[],[],[]⟩
theorem qx3:qlv emC = 0:=by
 unfold qlv;rw [if_neg (by decide),if_pos (qh1 fun i hi=>absurd hi (by simp [emC]))]
def zeV:V:=.agg [.int .u8 0,.int .i64 0,.int .i64 0,.int .u8 0,.int .i64 0]
theorem jcr (l:Int):qab Tryz.prog gl0 46 [.agg [.nil,.nil,.nil,.nil],zeV,.int .i64 l] (.tup [.agg [.int .u8 0,.nil,.nil,.nil,.int .i64 0],.int .i64 1]):=by
 have h1:=qj5 emC ⟨by simp [emC],by simp [emC]⟩;rw [qx3] at h1;have h2:=q3v emC ⟨by simp [emC],by simp [emC]⟩ qx3 (by simp [emC]);have e2:jls emC = 0:=by decide
 rw [e2] at h2;have h3:=qy2 emC 0 0;have e3:qr6 emC 0 0 = false:=by decide
 rw [e3] at h3
 have h4:qab Tryz.prog gl0 89 [emC.v] (.int .i64 0):=by
  refine jpb 2 ok89 rfl ?_;simp [i89,x89];intro gf;refine jo7 h1 (by simp) ?_;simp [emC]
 have h5:qab Tryz.prog gl0 43 [emC.v,zeV] (.int .i64 1):=by
  refine jpb 2 jle rfl ?_;simp [i43,x43,zeV];intro gf1 gf2;refine jo7 h4 (by simp) ?_;simp;refine jo7 h3 (by simp) ?_;simp
 have h6:qab Tryz.prog gl0 92 [emC.v,zeF.w,.int .i64 l] (.int .i64 1):=by
  change qab Tryz.prog gl0 92 [emC.v,zeV,.int .i64 l] (.int .i64 1);simp only [zeV] at h5 ⊢;refine jpb 2 jlg rfl ?_;simp [i92,x92];intro gf1 gf2;refine jo7 h2 (by simp) ?_;simp;refine jo7 h5 (by simp) ?_;simp
 exact qab.wide (qyi emC zeF l 1 (by decide) h6) ⟨VLe.agg ⟨.nil',.nil',.nil',.nil',trivial⟩,.refl _,.refl _,trivial⟩ (.refl _)
noncomputable def r12:XC:=xs2 (xs2 (xs2 (xs2 x12)))
set_option maxRecDepth 100000 in
theorem jlx (fs:List Ft) (R:Ft->V) (D:Ft->Bool) (hfl:fs.length≤65536) (hlv:qab Tryz.prog gl0 49 [] (.bool true))
  (hR:∀ f ∈ fs,∃ s:Nat,∃ r1 r2 r3 r4:V,R f = .agg [.int .u8 s,r1,r2,r3,r4]/\decide ((s:Int) = 1) = D f/\s ≠ 3/\(R f).pure = true)
  (hG:∀ f ∈ fs,qab Tryz.prog gl0 46 [exV,f.w,.int .i64 3] (.tup [R f,.int .i64 0])) (hS:∀ f ∈ fs,qab Tryz.prog gl0 47 [exV,f.w,R f,.int .i64 3] (.bool true)) (hD:∀ f ∈ fs,qab Tryz.prog gl0 48 [exV,f.w] (.bool (D f)))
  (hM:∀ cap,qbi Tryz.prog gl0 51 [exV,.sl (List.replicate 65537 zeV) cap,.int .i64 1] (qwh 2 (.tup [.nil,.int .i64 3])))
  (g1:Nat) (fr:Fr) (h1:lk fr 1 = some (.ptr 1 g1 0 0)) (h2:lk fr 2 = some (.sl (fs.map Ft.w) (some fs.length))) (hr:Hp) :
  r12.wpF Tryz.prog gl0 (jet [.tmp 0] 2 (.bool true)) fr ((1,.row g1 4 [exV]) :: hr):=by
 have hp1:jne (fs.map Ft.w) = true:=qjo fs;simp only [exV] at hG hS hD;simp [r12,xs2,x12,h1,h2]
 refine jpa (X:=Nat) (fun j=>[(4,qaa j),(1,.ptr 1 g1 0 0),(2,.sl (fs.map Ft.w) (some fs.length))]) (fun _=>[(1,.row g1 4 [exV])])
  (fun j=>j≤fs.length) (fun j=>fs.length - j) 0 (Nat.zero_le _) (by simp [qaa,h1,h2]) (by simp [exV]) ?_
 intro j hj;simp [qaa];refine jo8 (fun hb=>?_) (fun hb=>?_)
 ·have hj2:j < fs.length:=jpf hb;have hwj:=qa1 j (by omega);obtain ⟨f,hf⟩:∃ f,fs[j] = f:=⟨_,rfl⟩;have hmem:f ∈ fs:=by rw [<- hf]; exact jpk hj2
  have hGf:=hG f hmem;have hSf:=hS f hmem;have hDf:=hD f hmem;obtain ⟨s,a1,a2,a3,a4,hra,hs1,hs3,hrp⟩:=hR f hmem;rw [hra] at hGf hSf hrp;have hs1':decide (s = 1) = D f:=by rw [<- hs1]; exact decide_eq_decide.2 (by omega)
  simp only [V.pure,jne,Bool.and_eq_true] at hrp;obtain ⟨-,p2,p3,p4,p5,-⟩:=hrp;simp only [Ft.w,u8V,qaa] at hGf hSf hDf;simp [hj2,hf,hwj,nop,Ft.w,u8V,qaa,exV];intro gm
  first | refine ⟨_,_,_,.pure hGf (by simp [jne,V.pure]),?_⟩ | refine ⟨_,⟨_,_,.pure hGf (by simp [jne,V.pure])⟩,?_⟩ | refine ⟨_,_,⟨_,.pure hGf (by simp [jne,V.pure])⟩,?_⟩
  simp;refine ⟨by decide,?_⟩;intro gm2;simp [hj2,hf,hs3,hs1',Ft.w,u8V,qaa]
  first | refine ⟨_,_,_,.pure hSf (by simp [jne,V.pure,p2,p3,p4,p5]),?_⟩ | refine ⟨_,⟨_,_,.pure hSf (by simp [jne,V.pure,p2,p3,p4,p5])⟩,?_⟩ | refine ⟨_,_,⟨_,.pure hSf (by simp [jne,V.pure,p2,p3,p4,p5])⟩,?_⟩
  simp [hj2,hf,hs3,hs1',Ft.w,u8V,qaa]
  first | refine ⟨_,_,_,.pure hDf (by simp [jne,V.pure]),?_⟩ | refine ⟨_,⟨_,_,.pure hDf (by simp [jne,V.pure])⟩,?_⟩ | refine ⟨_,_,⟨_,.pure hDf (by simp [jne,V.pure])⟩,?_⟩
  simp [hwj];refine ⟨by decide,j + 1,hj2,by simp,by omega⟩
 ·have hzl:(List.replicate 65537 zeV).length = 65537:=List.length_replicate
  have hzp:jne (List.replicate 65537 zeV) = true:=by
   rw [jnj];intro v hv;rw [List.eq_of_mem_replicate hv]; rfl
  have hN:=jcr 1;simp only [zeV,exV] at hM hzl hzp hN;simp [-List.reduceReplicate,exV];generalize List.replicate 65537 (V.agg [.int .u8 0,.int .i64 0,.int .i64 0,.int .u8 0,.int .i64 0]) = Z at hM hzl hzp ⊢;intro gm;have hfz:∀ (f:Nat->Nat->Nat->Nat->Option Nat->V) (q:Nat->Nat->Nat->Nat->V),jnh f q Z = Z:=fun _ _=>qad _ hzp;have hdr:List.take 65537 Z = Z:=jpj (by omega);refine ⟨_,_,_,.dat 1 (hM (some 65537)) (by simp [frz,V.mapR,jnh,hzl,hdr,qce hzp]),?_⟩;simp [hzl];refine ⟨by decide,?_⟩;refine jo7 hN (by simp) ?_;simp;intro gf9;refine jo7 hlv rfl ?_;simp
theorem q7u:qab Tryz.prog gl0 12 [] (.bool true):=by
 have hlv:=q29;have hex:=ex_c;have hfs:∀ f ∈ fsS (lnF exC),f.ok exC/\f.m = 0:=fun f hf=>jcn exC f hf;have hfl:(fsS (lnF exC)).length≤65536:=by have:=qy5 exC qc1; rw [qrz]; omega
 have h8:¬ (fsS (lnF exC)).length < 8:=by rw [qrz]; decide
 have hall:qab Tryz.prog gl0 52 [exV,u8V 0] (.tup [flV (fsS (lnF exC)),.int .i64 0]):=qab.wide (jbf exC qc1) ⟨qly,.refl _,trivial⟩ (.refl _);have hN4:2 ^ (cnt 0 exC.n + cnt 14 exC.n)≤3 + 1:=by decide
 have key:=jlx (fsS (lnF exC)) (fun f=>qvy 3 (qkn exC f 3)) (fun f=>q5g exC f) hfl hlv
  (fun f hf=>by
   obtain ⟨s,r1,r2,r3,r4,q1,q2,q3⟩:=qsn 3 (qkn exC f 3);refine ⟨s,r1,r2,r3,r4,q1,?_,q3 (qtv exC qc1 qc2 f (hfs f hf).1 (hfs f hf).2 3 hN4),q88 _ _⟩;rw [q2,q7n exC qc1 qc2 f (hfs f hf).1 (hfs f hf).2 3 hN4])
  (fun f hf=>qab.wide (qyj exC qc1 qc2 f (hfs f hf).1 (hfs f hf).2 3 (by decide)) ⟨qly,.refl _,.refl _,trivial⟩ (.refl _))
  (fun f hf=>qab.wide (q9l exC qc1 qc2 f (hfs f hf).1 (hfs f hf).2 3 (by decide)) ⟨qly,.refl _,.refl _,.refl _,trivial⟩ (.refl _))
  (fun f hf=>qab.wide (qtk exC qc1 f (hfs f hf).1 (hfs f hf).2) ⟨qly,.refl _,trivial⟩ (.refl _))
  (fun cap=>by
   have h:=jbe exC qc1 qc2 1 (by decide) 65537 (by decide) cap
   have h2:qbi Tryz.prog gl0 51 [exC.v,.sl (List.replicate 65537 zeV) cap,.int .i64 1] (qwh 2 (.tup [.nil,.int .i64 3])):=qbi.mono h (by
    rintro v h ⟨rfl,rfl⟩;exact ⟨rfl,fun b k hk=>by simp [lk] at hk,.refl _⟩)
   exact qbi.wide h2 ⟨qly,.refl _,.refl _,trivial⟩)
 generalize fsS (lnF exC) = fs at hall h8 key;simp only [flV,u8V,exV] at hall hex key;refine jn3 4 2 ok12 rfl ?_;simp [i12,x12,nop];refine KM.mk (.done ?_);simp;refine jo7 hex rfl ?_;simp;intro gf1;refine KM.mk (.done ?_);simp;refine jo7 hall (by simp [jne,V.pure]) ?_;simp;refine KM.mk (.done ?_);simp [h8];refine KM.mk (.done ?_);exact key (gf1 1) _ (by simp) (by simp) _
end Go.Proofs.YtpaopccohkldlaaGreatDoor
