/- Trees: what the checks say of any fault and any circuit of the data. Conditions: none. -/
import Derived.Test.YtpaopccohkldlaaGreatDoorA5
import Derived.Test.YtpaopccohkldlaaGreatDoorU3
import Derived.Test.YtpaopccohkldlaaGreatDoorT13
import Derived.Test.YtpaopccohkldlaaGreatDoorT7
set_option linter.unusedSimpArgs false
set_option linter.unusedVariables false
namespace Go.Proofs.YtpaopccohkldlaaGreatDoor
open Go
structure Fw where
 m : Int
 n : Int
 p : Int
 v : Int
 o : Int
def Fw.w (f : Fw) : V:=.agg [.int .u8 f.m,.int .i64 f.n,.int .i64 f.p,.int .u8 f.v,.int .i64 f.o]
def Ft.x (f : Ft) : Fw:=⟨f.m,f.n,f.pin,f.v,f.o⟩
theorem Fw.pure (f : Fw) : f.w.pure = true:=by simp [Fw.w,V.pure,V.pureL]
def lineB (c : Ci) (n p : Int) : Bool:=decide (0 ≤ n) && decide (n < c.n.length) && decide (-1 ≤ p) && decide (p < ((c.nd n.toNat).i.length : Int))
theorem lineR_c (c : Ci) (n p : Int) : PureC Tryz.prog gl0 90 [c.v,.agg [.int .i64 n,.int .i64 p]] (.bool (lineB c n p)):=by
 unfold lineB
 refine PureC.of_W 2 ok90 rfl ?_
 simp [i90,x90,natV]
 intro gf1 gf2 gm
 by_cases h1 : 0 ≤ n
 ·obtain ⟨k,rfl⟩ : ∃ k : Nat,n = (k : Int):=⟨n.toNat,by omega⟩
  by_cases h2 : k < c.n.length
  ·obtain ⟨y,hy⟩ : ∃ y,c.n[k] = y:=⟨_,rfl⟩
   have hnd:=c.nd_get h2
   rw [hy] at hnd
   by_cases h3 : -1 ≤ p
   ·simp [h2,h3,hy,hnd,natV]
    try rfl
   ·simp [h2,h3,hy,hnd,natV]
    try rfl
  ·have h2' : ¬ (k : Int) < (c.n.length : Int):=by omega
   simp [h2,natV]
   try rfl
 ·simp [h1,natV]
  try rfl
def fchE (c : Ci) (f : Fw) (B : Int) : Int:=if 3 < f.m then 1 else if 1 < f.v then 1 else if lineB c f.n f.p = false then 1 else if 2 ≤ f.m then B else if f.o ≠ 0 then 1 else 0
theorem fcheckR_c (c : Ci) (hg : c.good) (f : Fw) (B : Int) (hB : ¬ 3 < f.m→¬ 1 < f.v→lineB c f.n f.p = true→2 ≤ f.m→PureC Tryz.prog gl0 91 [c.v,f.w] (.int .i64 B)) : PureC Tryz.prog gl0 43 [c.v,f.w] (.int .i64 (fchE c f B)):=by
 have h1:=valid_c c hg
 have h2:=lineR_c c f.n f.p
 unfold fchE
 simp only [Fw.w] at hB ⊢
 generalize lineB c f.n f.p = L at h2 hB ⊢
 refine PureC.of_W 2 ok43 rfl ?_
 simp [i43,x43,natV]
 intro gf1 gf2
 refine CallO.pure h1 (by simp) ?_
 by_cases e1 : 3 < f.m
 ·simp [e1]
 by_cases e2 : 1 < f.v
 ·simp [e1,e2]
 simp [e1,e2]
 refine CallO.pure h2 (by simp) ?_
 cases L with
 | false=>simp
 | true=>
  by_cases e3 : 2 ≤ f.m
  ·simp [e3]
   refine CallO.pure (hB e1 e2 rfl e3) (by simp) ?_
   simp
  ·by_cases e4 : f.o = 0
   ·simp [e3,e4]
   ·simp [e3,e4]
set_option maxRecDepth 100000 in
theorem bridgeR_c (c : Ci) (hg : c.good) (f : Fw) (hm : f.m = 2∨f.m = 3) (hl : lineB c f.n f.p = true) : ∃ B : Int,PureC Tryz.prog gl0 91 [c.v,f.w] (.int .i64 B):=by
 unfold lineB at hl
 simp only [Bool.and_eq_true,decide_eq_true_eq] at hl
 obtain ⟨⟨⟨l1,l2⟩,l3⟩,l4⟩:=hl
 obtain ⟨m,n,p,v,o⟩:=f
 simp only [Fw.w] at *
 obtain ⟨a,rfl⟩ : ∃ a : Nat,n = (a : Int):=⟨n.toNat,by omega⟩
 have ha : a < c.n.length:=by omega
 by_cases hp : p = -1
 ·subst hp
  by_cases ho : 0 ≤ o∧o < c.n.length
  ·obtain ⟨b,rfl⟩ : ∃ b : Nat,o = (b : Int):=⟨o.toNat,by omega⟩
   have hb : b < c.n.length:=by omega
   have n2 : ¬ c.n.length ≤ b:=by omega
   have n4 : ¬ ((b : Int) < 0):=by omega
   by_cases hab : a = b
   ·subst hab
    refine ⟨1,PureC.of_W 2 ok91 rfl ?_⟩
    rcases hm with hm | hm
    ·subst hm
     simp [i91,x91,natV,n2,n4]
    ·subst hm
     simp [i91,x91,natV,n2,n4]
   ·have c1:=cone_c c hg a ha
    have c2:=cone_c c hg b hb
    obtain ⟨y,hy⟩ : ∃ y,c.n[a] = y:=⟨_,rfl⟩
    obtain ⟨z,hz⟩ : ∃ z,c.n[b] = z:=⟨_,rfl⟩
    generalize dep c (c.n.length + 1) a = D1 at c1
    generalize dep c (c.n.length + 1) b = D2 at c2
    simp only [natV] at c1 c2
    rcases hm with hm | hm
    ·subst hm
     by_cases hlt : b < a
     ·refine ⟨1,PureC.of_W 2 ok91 rfl ?_⟩
      simp [i91,x91,natV,n2,n4,hab,hlt]
     ·by_cases k1 : y.k = 12
      ·refine ⟨7,PureC.of_W 2 ok91 rfl ?_⟩
       simp [i91,x91,natV,n2,n4,hab,hlt]
       intros
       simp [ha,hy,k1]
      ·by_cases k2 : z.k = 12
       ·refine ⟨7,PureC.of_W 2 ok91 rfl ?_⟩
        simp [i91,x91,natV,n2,n4,hab,hlt]
        intros
        simp [ha,hy,hb,hz,k1,k2]
       ·refine ⟨if D1 b || D2 a then 6 else 0,PureC.of_W 2 ok91 rfl ?_⟩
        simp [i91,x91,natV,n2,n4,hab,hlt]
        intros
        simp [ha,hy,hb,hz,k1,k2]
        refine CallO.pure c1 (by simp [V.pureL,V.pure]) ?_
        cases hd1 : D1 b with
        | true=>simp [hb,boolsV_get,hd1]
        | false=>
         simp [hb,boolsV_get,hd1]
         refine CallO.pure c2 (by simp [V.pureL,V.pure]) ?_
         cases hd2 : D2 a <;> simp [ha,boolsV_get,hd2]
    ·subst hm
     by_cases hv : v = 0
     ·by_cases k1 : y.k = 12
      ·refine ⟨7,PureC.of_W 2 ok91 rfl ?_⟩
       simp [i91,x91,natV,n2,n4,hab,hv]
       intros
       simp [ha,hy,k1]
      ·by_cases k2 : z.k = 12
       ·refine ⟨7,PureC.of_W 2 ok91 rfl ?_⟩
        simp [i91,x91,natV,n2,n4,hab,hv]
        intros
        simp [ha,hy,hb,hz,k1,k2]
       ·refine ⟨if D1 b || D2 a then 6 else 0,PureC.of_W 2 ok91 rfl ?_⟩
        simp [i91,x91,natV,n2,n4,hab,hv]
        intros
        simp [ha,hy,hb,hz,k1,k2]
        refine CallO.pure c1 (by simp [V.pureL,V.pure]) ?_
        cases hd1 : D1 b with
        | true=>simp [hb,boolsV_get,hd1]
        | false=>
         simp [hb,boolsV_get,hd1]
         refine CallO.pure c2 (by simp [V.pureL,V.pure]) ?_
         cases hd2 : D2 a <;> simp [ha,boolsV_get,hd2]
     ·refine ⟨1,PureC.of_W 2 ok91 rfl ?_⟩
      simp [i91,x91,natV,n2,n4,hab,hv]
  ·refine ⟨1,PureC.of_W 2 ok91 rfl ?_⟩
   by_cases h0 : o < 0
   ·simp [i91,x91,natV,h0]
   ·have h1 : (c.n.length : Int) ≤ o:=by omega
    simp [i91,x91,natV,h0,h1]
 ·refine ⟨1,PureC.of_W 2 ok91 rfl ?_⟩
  simp [i91,x91,natV,hp]
def plnE (c : Ci) : Int:=if c.m ≠ [] then 7 else if ofLs [12,13,15] c.n 0 ≠ [] then 7 else 0
theorem plainR_c (c : Ci) (hwf : c.wf) (hk : chkE c = 0) (hn : c.n.length < 1000000) : PureC Tryz.prog gl0 42 [c.v] (.int .i64 (plnE c)):=by
 have h1:=check_c c hwf
 rw [hk] at h1
 have h2:=OwnC.dat1 (of1_c c [12,13,15] (some 3) hn (by simp)) (ofLs_noG [12,13,15] c.n 0).2 (ofLs_noG [12,13,15] c.n 0).1
 unfold plnE
 generalize ofLs [12,13,15] c.n 0 = L at h2 ⊢
 refine PureC.of_W 2 ok42 rfl ?_
 simp [i42,x42]
 intro gf
 refine CallO.pure h1 (by simp) ?_
 simp
 by_cases hm : c.m = []
 ·simp [hm]
  intro gf2
  refine CallO.dat 1 h2 (by simp) ?_
  cases L with
  | nil=>simp
  | cons a r=>simp
 ·have h0 : 0 < c.m.length:=List.length_pos_iff.2 hm
  simp [hm,h0]
theorem pln_good (x : Cx) (h : plnE x.ci = 0) : x.ci.good∧x.ci.plain:=by
 unfold plnE at h
 by_cases hm : x.ci.m = []
 ·rw [if_neg (by simpa using hm)] at h
  have hmem : x.mem = false:=by
   cases hx : x.mem with
   | false=>rfl
   | true=>simp [Cx.ci,hx] at hm
  have hg:=good_of x hmem
  refine ⟨hg,fun n hn hc=>?_⟩
  have hof : ofLs [12,13,15] x.ci.n 0 = []:=by
   by_cases e : ofLs [12,13,15] x.ci.n 0 = []
   ·exact e
   ·rw [if_pos e] at h; cases h
  obtain ⟨k0,k1,k2⟩:=nd_kw hg hn
  have hne : (x.ci.nd n).k ≠ 12∧(x.ci.nd n).k ≠ 13:=by
   have key : ∀ (l : List Nd) (i : Nat),ofLs [12,13,15] l i = []→∀ y ∈ l,y.k ∉ [(12 : Int),13,15]:=by
    intro l
    induction l with
    | nil=>intro _ _ y hy; simp at hy
    | cons a r ih=>
     intro i hi y hy
     rw [ofLs] at hi
     split at hi
     ·cases hi
     ·rename_i hn
      rcases List.mem_cons.1 hy with rfl | hy
      ·exact hn
      ·exact ih (i + 1) hi y hy
   have:=key _ _ hof _ (List.getElem_mem hn)
   rw [x.ci.nd_get hn]
   simp only [List.mem_cons,List.not_mem_nil,or_false,not_or] at this
   exact ⟨this.1,this.2.1⟩
  unfold combC combB at hc
  simp only [decide_eq_true_eq] at hc
  exact ⟨by omega,by omega,k2⟩
 ·rw [if_pos (by simpa using hm)] at h
  cases h
theorem ci_16 (x : Cx) : x.ci.n.length ≤ 16:=by
 rw [(cxn_ok x).2]
 have:=(ns0_ok x).2.2.2
 exact this
def Fw.tt (w : Fw) : Ft:=⟨w.m.toNat,w.n.toNat,(w.p + 1).toNat,w.v.toNat,w.o.toNat⟩
def tchE (P F m : Int) : Int:=if P ≠ 0 then P else if F ≠ 0 then F else if m ≠ 0 then 7 else 0
theorem tcheckR_c (c : Ci) (f : Fw) (P F : Int) (hP : PureC Tryz.prog gl0 42 [c.v] (.int .i64 P)) (hF : P = 0→PureC Tryz.prog gl0 43 [c.v,f.w] (.int .i64 F)) : PureC Tryz.prog gl0 60 [c.v,f.w] (.int .i64 (tchE P F f.m)):=by
 unfold tchE
 simp only [Fw.w] at hF ⊢
 refine PureC.of_W 2 ok60 rfl ?_
 simp [i60,x60]
 intro gf gf2
 refine CallO.pure hP (by simp) ?_
 by_cases h0 : P = 0
 ·have hF2:=hF h0
  simp [h0]
  refine CallO.pure hF2 (by simp) ?_
  by_cases h1 : F = 0
  ·by_cases h2 : f.m = 0
   ·simp [h1,h2]
   ·simp [h1,h2]
  ·simp [h1]
 ·simp [h0]
theorem tchE_ok (c : Ci) (w : Fw) (B : Int) (hm : 0 ≤ w.m) (hv : 0 ≤ w.v) (h : fchE c w B = 0) (hm0 : w.m = 0) : w.tt.ok c∧w.tt.m = 0∧w.tt.w = w.w:=by
 obtain ⟨m,n,p,v,o⟩:=w
 dsimp only at hm0
 subst hm0
 unfold fchE at h
 dsimp only at h hm hv
 rw [if_neg (by omega)] at h
 split at h
 ·cases h
 split at h
 ·cases h
 rename_i h4 h5
 rw [if_neg (by omega)] at h
 split at h
 ·cases h
 rename_i h6
 have ho : o = 0:=by omega
 subst ho
 simp only [Bool.not_eq_false] at h5
 unfold lineB at h5
 simp only [Bool.and_eq_true,decide_eq_true_eq] at h5
 obtain ⟨⟨⟨l1,l2⟩,l3⟩,l4⟩:=h5
 refine ⟨⟨by simp [Fw.tt],by simp only [Fw.tt]; omega,?_,by simp only [Fw.tt]; omega,by simp [Fw.tt]⟩,by simp [Fw.tt],?_⟩
 ·simp only [Fw.tt]; omega
 ·simp only [Fw.tt,Ft.w,Fw.w,u8V,natV,Ft.pin]
  rw [Int.toNat_of_nonneg l1,Int.toNat_of_nonneg hv,Int.toNat_of_nonneg (by omega : 0 ≤ p + 1)]
  simp
theorem checkedE_c (c : Ci) (f : Fw) (q : Pt) (e : Int) (he : e ≠ 0) (h : PureC Tryz.prog gl0 60 [c.v,f.w] (.int .i64 e)) : PureC Tryz.prog gl0 75 [c.v,f.w,q.v] (.int .i64 e):=by
 simp only [Fw.w,Pt.v] at h ⊢
 refine PureC.of_W 2 ok75 rfl ?_
 simp [i75,x75]
 intro gf1 gf2 gf3
 refine CallO.pure h (by simp) ?_
 simp [he]
theorem pairsE_c (c : Ci) (f : Fw) (q : Pt) (e : Int) (he : e ≠ 0) (h : PureC Tryz.prog gl0 75 [c.v,f.w,q.v] (.int .i64 e)) : PureC Tryz.prog gl0 37 [c.v,f.w,q.v] (.tup [.nil,.nil,.int .i64 e]):=by
 simp only [Fw.w,Pt.v] at h ⊢
 refine PureC.of_W 2 ok37 rfl ?_
 simp [i37,x37]
 intro gf1 gf2 gf3
 refine CallO.pure h (by simp) ?_
 simp [he]
theorem blockedE_c (c : Ci) (f : Fw) (q : Pt) (e : Int) (he : e ≠ 0) (h : PureC Tryz.prog gl0 75 [c.v,f.w,q.v] (.int .i64 e)) : PureC Tryz.prog gl0 29 [c.v,f.w,q.v] (.tup [.bool false,.int .i64 e]):=by
 simp only [Fw.w,Pt.v] at h ⊢
 refine PureC.of_W 2 ok29 rfl ?_
 simp [i29,x29]
 intro gf1 gf2 gf3
 refine CallO.pure h (by simp) ?_
 simp [he]
theorem seenE_c (c : Ci) (f : Fw) (q : Pt) (e : Int) (he : e ≠ 0) (h : PureC Tryz.prog gl0 75 [c.v,f.w,q.v] (.int .i64 e)) : PureC Tryz.prog gl0 30 [c.v,f.w,q.v] (.tup [.bool false,.int .i64 e]):=by
 simp only [Fw.w,Pt.v] at h ⊢
 refine PureC.of_W 2 ok30 rfl ?_
 simp [i30,x30]
 intro gf1 gf2 gf3
 refine CallO.pure h (by simp) ?_
 simp [he]
theorem checkE_c (c : Ci) (f : Fw) (xs : List V) (cap : Option Nat) (hx : V.pureL xs = true) (e : Int) (he : e ≠ 0) (h : PureC Tryz.prog gl0 60 [c.v,f.w] (.int .i64 e)) : PureC Tryz.prog gl0 18 [c.v,f.w,.sl xs cap] (.int .i64 e):=by
 simp only [Fw.w] at h ⊢
 refine PureC.of_W 2 ok18 rfl ?_
 simp [i18,x18]
 intro gf1 gf2 gf3
 refine CallO.pure h (by simp) ?_
 simp [he]
end Go.Proofs.YtpaopccohkldlaaGreatDoor
namespace Go.Proofs.YtpaopccohkldlaaGreatDoor
open Go
theorem aboveG_c (v : Nat) : PureC Tryz.prog gl0 118 [u8V v] (.bool (decide (3 < v))):=by
 refine PureC.of_W 2 ok118 rfl ?_
 simp [i118,x118,u8V]
 try omega
def gt3 (l : List Nat) : Bool:=l.any fun x=>decide (3 < x)
def gt2 (l : List Nat) : Bool:=l.any fun x=>decide (2 < x)
theorem contG_c (l : List Nat) (cap : Option Nat) (hl : l.length < 1000000000) : PureC Tryz.prog gl0 117 [.sl (l.map u8V) cap,.fn 118 [] []] (.bool (gt3 l)):=by
 cases hg : gt3 l with
 | false=>
  refine contNone_c 118 l cap hl fun v hv=>?_
  have h:=aboveG_c v
  have h2:=List.any_eq_false.1 hg v hv
  rw [Bool.not_eq_true] at h2
  rw [h2] at h
  exact h
 | true=>
  have hx : l.any (fun x=>decide (3 < x)) = true:=hg
  have hlt0 : l.findIdx (fun x=>decide (3 < x)) < l.length:=List.findIdx_lt_length_of_exists (List.any_eq_true.1 hx)
  obtain ⟨J,hlt,hat,hbef⟩ : ∃ J,∃ h : J < l.length,decide (3 < l[J]) = true∧∀ i (h : i < l.length),i < J→decide (3 < l[i]) = false:=
   ⟨_,hlt0,List.findIdx_getElem (w:=hlt0),fun i h h2=>by have:=List.not_of_lt_findIdx h2; simpa using this⟩
  have hidx : PureC Tryz.prog gl0 159 [.sl (l.map u8V) cap,.fn 118 [] []] (natV J):=by
   refine PureC.of_W 2 ok159 rfl ?_
   simp [i159,x159]
   refine LoopP.of (X:=Nat) (fun i=>[(8,natV i),(7,natV l.length),(0,.sl (l.map u8V) cap),(1,.fn 118 [] [])]) (fun _=>[])
    (fun i=>i ≤ J) (fun i=>J - i) 0 (Nat.zero_le _) (by simp [natV]) (by simp) ?_
   intro i hi
   simp [natV]
   refine BrB.of (fun hb=>?_) (fun hb=>?_)
   ·have hi' : i < l.length:=of_decide_eq_true hb
    have hw:=wrapN i (by omega)
    obtain ⟨y,hy⟩ : ∃ y,l[i] = y:=⟨_,rfl⟩
    have hfy:=aboveG_c y
    simp only [u8V] at hfy
    simp [hi',hy,u8V]
    by_cases hJ : i = J
    ·subst hJ
     rw [hy] at hat
     rw [hat] at hfy
     refine CallO.pure hfy rfl ?_
     simp
    ·have h3:=hbef i hi' (by omega)
     rw [hy] at h3
     rw [h3] at hfy
     refine CallO.pure hfy rfl ?_
     simp [hw]
     exact ⟨i + 1,by omega,rfl,by omega⟩
   ·have:=of_decide_eq_false hb
    omega
  simp only [natV] at hidx
  refine PureC.of_W 2 ok117 rfl ?_
  simp [i117,x117]
  refine CallO.pure hidx (by simp [V.pureL,V.pure,u8s_pure]) ?_
  simp
def fitE (c : Ci) (q : Pt) : Int:=if q.i.length ≠ cnt 0 c.n∨q.s.length ≠ cnt 14 c.n then 8 else if gt3 q.i || gt3 q.s then 1 else 0
theorem fitsR_c (c : Ci) (hg : c.good) (p : Pt) (hl1 : p.i.length < 1000000) (hl2 : p.s.length < 1000000) : PureC Tryz.prog gl0 80 [c.v,p.v] (.int .i64 (fitE c p)):=by
 have hn1:=hg.n1
 have hm:=hg.m
 have l0:=cnt_le 0 c.n
 have l1:=cnt_le 14 c.n
 have ci:=inputsN_c c (by omega)
 have cs:=statesN_c c (by omega)
 have cm:=ofMem_c c hg
 have k1:=contG_c p.i none (by omega)
 have k2:=contG_c p.s none (by omega)
 unfold fitE
 obtain ⟨I,hI⟩ : ∃ I,ids 0 c.n 0 = I:=⟨_,rfl⟩
 obtain ⟨S,hS⟩ : ∃ S,ids 14 c.n 0 = S:=⟨_,rfl⟩
 have hIl : I.length = cnt 0 c.n:=by rw [← hI]; rfl
 have hSl : S.length = cnt 14 c.n:=by rw [← hS]; rfl
 rw [hI] at ci
 rw [hS] at cs
 generalize gt3 p.i = G1 at k1 ⊢
 generalize gt3 p.s = G2 at k2 ⊢
 refine PureC.of_W 2 ok80 rfl ?_
 simp [i80,x80,hm]
 intro gf1 gf2
 intro gf3
 refine CallO.dat 1 cm (by simp) ?_
 simp
 intro gm
 refine ⟨_,_,_,.pure ci (by simp),?_⟩
 by_cases h1 : p.i.length = cnt 0 c.n
 ·simp [h1,hIl]
  refine ⟨_,_,_,.pure cs (by simp),?_⟩
  by_cases h2 : p.s.length = cnt 14 c.n
  ·simp [h2,hSl]
   refine ⟨rfl,?_⟩
   refine CallO.pure k1 (by simp) ?_
   cases G1 with
   | true=>simp
   | false=>
    simp
    refine CallO.pure k2 (by simp) ?_
    cases G2 <;> simp
  ·simp [h2,hSl]
   decide
 ·simp [h1,hIl]
  try decide
theorem simCheckR_c (c : Ci) (hg : c.good) (p : Pt) (hl1 : p.i.length < 1000000) (hl2 : p.s.length < 1000000) : PureC Tryz.prog gl0 109 [c.v,p.v] (.int .i64 (fitE c p)):=by
 have h1:=check_c c hg.wf
 rw [hg.chk] at h1
 have h2:=fitsR_c c hg p hl1 hl2
 simp only [Pt.v] at h2
 generalize fitE c p = E at h2 ⊢
 refine PureC.of_W 2 ok109 rfl ?_
 simp [i109,x109,Pt.v]
 intro gf gf2
 refine CallO.pure h1 (by simp) ?_
 simp
 refine CallO.pure h2 (by simp) ?_
 simp
def cubE (c : Ci) (q : Pt) : Int:=if q.i.length ≠ cnt 0 c.n∨q.s.length ≠ cnt 14 c.n then 8 else if gt2 q.i || gt2 q.s then 1 else 0
theorem gt2_of {l : List Nat} {j : Nat} (hj : j < l.length) (h : 2 < l[j]) : gt2 l = true:=List.any_eq_true.2 ⟨_,List.getElem_mem hj,decide_eq_true h⟩
theorem gt2_no {l : List Nat} (h : ∀ j (hj : j < l.length),¬ 2 < l[j]) : gt2 l = false:=by
 unfold gt2
 rw [List.any_eq_false]
 intro x hx
 obtain ⟨j,hj,rfl⟩:=List.getElem_of_mem hx
 simpa using h j hj
theorem gt3_gt2 {l : List Nat} (h : gt3 l = true) : gt2 l = true:=by
 obtain ⟨x,hx,h3⟩:=List.any_eq_true.1 h
 exact List.any_eq_true.2 ⟨x,hx,decide_eq_true (by have:=of_decide_eq_true h3; omega)⟩
theorem checkedR_c (c : Ci) (hg : c.good) (f : Fw) (p : Pt) (hl1 : p.i.length < 1000000) (hl2 : p.s.length < 1000000) (h1 : PureC Tryz.prog gl0 60 [c.v,f.w] (.int .i64 0)) : PureC Tryz.prog gl0 75 [c.v,f.w,p.v] (.int .i64 (cubE c p)):=by
 have h2:=simCheckR_c c hg p hl1 hl2
 have hcase : (fitE c p = cubE c p∧fitE c p ≠ 0)∨(fitE c p = 0∧cubE c p = if gt2 p.i || gt2 p.s then 1 else 0):=by
  unfold fitE cubE
  by_cases e : p.i.length ≠ cnt 0 c.n∨p.s.length ≠ cnt 14 c.n
  ·rw [if_pos e,if_pos e]; exact .inl ⟨rfl,by decide⟩
  ·rw [if_neg e,if_neg e]
   by_cases g : (gt3 p.i || gt3 p.s) = true
   ·have g2 : (gt2 p.i || gt2 p.s) = true:=by
     rw [Bool.or_eq_true] at g ⊢
     exact g.elim (fun h=>.inl (gt3_gt2 h)) fun h=>.inr (gt3_gt2 h)
    rw [if_pos g,if_pos g2]; exact .inl ⟨rfl,by decide⟩
   ·rw [if_neg g]; exact .inr ⟨rfl,rfl⟩
 generalize fitE c p = E at h2 hcase
 generalize cubE c p = E2 at hcase ⊢
 simp only [Fw.w,Pt.v] at h1 h2 ⊢
 rcases hcase with ⟨k1,k2⟩ | ⟨k1,k2⟩
 ·subst k1
  refine PureC.of_W 2 ok75 rfl ?_
  simp [i75,x75]
  intro gf1 gf2 gf3
  refine CallO.pure h1 (by simp) ?_
  simp
  refine CallO.pure h2 (by simp) ?_
  simp [k2]
 ·subst k1
  obtain ⟨R,hR⟩ : ∃ R,(gt2 p.i || gt2 p.s) = R:=⟨_,rfl⟩
  rw [hR] at k2
  refine PureC.of_W 2 ok75 rfl ?_
  simp [i75,x75]
  intro gf1 gf2 gf3
  refine CallO.pure h1 (by simp) ?_
  simp
  refine CallO.pure h2 (by simp) ?_
  simp
  intro gf4
  generalize gf4 29 = g29
  refine LoopP.of (X:=Nat) (fun i=>[(31,natV i),(30,natV 2),(29,.ref 29 g29 0 2 (some 2))]) (fun _=>[(29,.row g29 1 [.sl (p.i.map u8V) none,.sl (p.s.map u8V) none])])
   (fun i=>i ≤ 2∧(1 ≤ i→gt2 p.i = false)∧(2 ≤ i→gt2 p.s = false)) (fun i=>2 - i) 0 ⟨by omega,fun h=>by omega,fun h=>by omega⟩ (by simp [natV]) (by simp [u8V]) ?_
  rintro i ⟨hi,hn1,hn2⟩
  simp [natV]
  refine BrB.of (fun hb=>?_) (fun hb=>?_)
  ·have hi2 : i < 2:=of_decide_eq_true hb
   have hc2 : i = 0∨i = 1:=by omega
   obtain ⟨l,hl,hget,hyes,hno⟩ : ∃ l : List Nat,l.length < 1000000∧(∀ h,([V.sl (p.i.map u8V) none,.sl (p.s.map u8V) none])[i]'h = .sl (l.map u8V) none)∧(gt2 l = true→R = true)∧(gt2 l = false→(1 ≤ i + 1→gt2 p.i = false)∧(2 ≤ i + 1→gt2 p.s = false)):=by
    rcases hc2 with rfl | rfl
    ·exact ⟨p.i,hl1,fun _=>rfl,fun h=>by rw [← hR,h]; rfl,fun h=>⟨fun _=>h,fun h=>by omega⟩⟩
    ·exact ⟨p.s,hl2,fun _=>rfl,fun h=>by rw [← hR,h]; cases gt2 p.i <;> rfl,fun h=>⟨fun _=>hn1 (by omega),fun _=>h⟩⟩
   have hw:=wrapN i (by omega)
   simp [hi2,hget]
   refine LoopP.of (X:=Nat) (fun j=>[(37,natV j),(36,natV l.length),(35,.sl (l.map u8V) none),(31,natV i),(30,natV 2),(29,.ref 29 g29 0 2 (some 2))]) (fun _=>[(29,.row g29 1 [.sl (p.i.map u8V) none,.sl (p.s.map u8V) none])])
    (fun j=>j ≤ l.length∧∀ k (hk : k < l.length),k < j→¬ 2 < l[k]) (fun j=>l.length - j) 0 ⟨Nat.zero_le _,fun k _ h=>by omega⟩ (by simp [natV]) (by simp) ?_
   rintro j ⟨hj,hjn⟩
   simp [natV]
   refine BrB.of (fun hb2=>?_) (fun hb2=>?_)
   ·have hj2 : j < l.length:=of_decide_eq_true hb2
    have hwj:=wrapN j (by omega)
    obtain ⟨x,hx⟩ : ∃ x,l[j] = x:=⟨_,rfl⟩
    by_cases h3 : 2 < x
    ·have hRt:=hyes (gt2_of hj2 (by rw [hx]; exact h3))
     simp [hj2,hx,u8V,h3,k2,hRt]
    ·simp [hj2,hx,u8V,hwj,h3]
     refine ⟨j + 1,⟨hj2,fun k hk hk2=>?_⟩,by simp,by omega⟩
     by_cases e : k = j
     ·subst e; rw [hx]; omega
     ·have:=hjn k hk (by omega); omega
   ·have hjl : j = l.length:=by have:=of_decide_eq_false hb2; omega
    have hg2:=hno (gt2_no fun k hk=>hjn k hk (by omega))
    simp [hw]
    exact ⟨i + 1,⟨by omega,hg2.1,hg2.2⟩,by simp,by omega⟩
  ·have hi2 : i = 2:=by have:=of_decide_eq_false hb; omega
   have hRf : R = false:=by rw [← hR,hn1 (by omega),hn2 (by omega)]; rfl
   simp [k2,hRf]
end Go.Proofs.YtpaopccohkldlaaGreatDoor
