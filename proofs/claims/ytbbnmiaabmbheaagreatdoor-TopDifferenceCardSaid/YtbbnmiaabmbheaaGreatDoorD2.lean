/- Lemmas. Conditions: none. -/
import Derived.Test.YtbbnmiaabmbheaaGreatDoorS4
import Derived.Test.YtbbnmiaabmbheaaGreatDoorT1
import Derived.Test.YtbbnmiaabmbheaaGreatDoorI1
import Derived.Test.YtbbnmiaabmbheaaGreatDoorXTR
import Derived.Test.YtbbnmiaabmbheaaGreatDoorD0
import Derived.Test.YtbbnmiaabmbheaaGreatDoorXL5
import Derived.Test.YtbbnmiaabmbheaaGreatDoorTJ
set_option linter.all false
namespace Go.Proofs.YtbbnmiaabmbheaaGreatDoor
section
open Go
structure Pr where
 g:Nat
 b:Nat
def Pr.v (p:Pr):V:=.agg [u8V p.g,u8V p.b]
instance:Inhabited Pr:=⟨⟨0,0⟩⟩
@[simp] theorem ja2 (p:Pr):p.v.cells = [u8V p.g,u8V p.b]:=rfl
@[simp] theorem q4j (p:Pr):p.v.cellsOk = true:=rfl
@[simp] theorem jhn (p:Pr):p.v.pure = true:=rfl
theorem qm5 (l:List Pr):jid (l.map Pr.v) = true:=V.pureL_map _ l fun _=>rfl
theorem q24 (p:Pr):qac Tryz.prog gl0 105 [p.v] (u8V p.g):=by
 refine jj7 2 jd5 rfl ?_;simp [i105,x105,Pr.v,u8V]
theorem q8y (p:Pr):qac Tryz.prog gl0 106 [p.v] (u8V p.b):=by
 refine jj7 2 jd6 rfl ?_;simp [i106,x106,Pr.v,u8V]
def qtx (l:List Pr) (sel:Pr->Nat) (i:Nat):List V:=tab l.length fun j=>if j < i then u8V (sel (l.getD j default)) else u8V 0
theorem qzh (l:List Pr) (sel:Pr->Nat):qtx l sel l.length = (l.map sel).map u8V:=by
 refine List.ext_getElem? fun j=>?_;by_cases h:j < l.length
 ·rw [qtx,qhw _ h,if_pos h];simp [h]
 ·rw [List.getElem?_eq_none (by simp [qtx]; omega),List.getElem?_eq_none (by simp; omega)]
theorem qzi {l:List Pr} {i:Nat} {p:Pr} (sel:Pr->Nat) (h:i < l.length) (hp:l[i] = p):(qtx l sel i).set i (.int .u8 (sel p:Int)) = qtx l sel (i + 1):=by
 have e:(.int .u8 (sel p:Int):V) = u8V (sel (l.getD i default)):=by simp [u8V,h,hp]
 rw [e,qtx,qc8];refine qa3 fun j hj=>?_;unfold qc0;by_cases hji:j = i
 ·subst hji; simp
 ·have:(j < i + 1)↔j < i:=by omega
  simp [hji,this]
theorem qv4 (f:FuncId) (sel:Pr->Nat) (hf:∀ p,qac Tryz.prog gl0 f [p.v] (u8V (sel p))) (l:List Pr) (cap:Option Nat) (hl:l.length < 1000000000):qac Tryz.prog gl0 104 [.sl (l.map Pr.v) cap,.fn f [] []] (.sl ((l.map sel).map u8V) (some l.length)):=by
 refine jj7 2 jd4 rfl ?_;simp [i104,x104,show l.length≤549755813888 by omega];intro gf10;generalize gf10 10 = g10
 refine jj6 (X:=Nat) (fun i=>[(13,qab i),(12,qab l.length),(11,.sl (l.map Pr.v) cap),(5,.ref 10 g10 0 l.length (some l.length)),(1,.fn f [] [])]) (fun i=>[(10,.row g10 1 (qtx l sel i))])
  (fun i=>i≤l.length) (fun i=>l.length - i) 0 (Nat.zero_le _) (by simp [qab]) (by simp [qhv,u8V,qtx]) ?_
 intro i hi;simp [qab];refine jj5 (fun hb=>?_) (fun hb=>?_)
 ·have hi':i < l.length:=jkb hb;have hw:=qbg i (by omega);obtain ⟨p,hp⟩:∃ p,l[i] = p:=⟨_,rfl⟩;have hfp:=hf p;have hset:=qzi sel hi' hp;have hrl:(qtx l sel i).length = l.length:=by simp [qtx]
  have hri:∃ x,(qtx l sel i)[i]'(by rw [hrl]; exact hi') = .int .u8 x:=⟨0,by simp only [qtx]; rw [qa0]; rw [if_neg (by omega)]; rfl⟩;obtain ⟨x,hri⟩:=hri;simp only [Pr.v,u8V] at hfp;simp [hi',hp,Pr.v,u8V];intro gf7;refine jj4 hfp rfl ?_;simp [hi',hrl,hri,hset,hw];exact ⟨i + 1,hi',by simp,rfl,by omega⟩
 ·have hi':i = l.length:=by have:=jkc hb; omega
  subst hi';rw [qzh];have hl2:((l.map sel).map u8V).length = l.length:=by simp
  have hpX:=qa1 (l.map sel);obtain ⟨X,hX⟩:∃ X,(l.map sel).map u8V = X:=⟨_,rfl⟩;rw [hX] at hl2 hpX ⊢;simp [qbf hpX,hl2];rw [<- List.map_map,hX];exact jkf (by omega)
theorem q13 (k:Nat) (hk:k < 256) (l:List Pr) (cap:Option Nat) (hl:l.length < 1000000000):qac Tryz.prog gl0 31 [u8V k,.sl (l.map Pr.v) cap] (.agg [u8V (qpg k (l.map Pr.g)),u8V (qpg k (l.map Pr.b))]):=by
 have h1:=qv4 105 Pr.g q24 l cap hl;have h2:=qv4 106 Pr.b q8y l cap hl;have e1:=qvh k hk (l.map Pr.g) (some l.length) (by simpa using hl);have e2:=qvh k hk (l.map Pr.b) (some l.length) (by simpa using hl);generalize qpg k (l.map Pr.g) = A at e1 ⊢;generalize qpg k (l.map Pr.b) = B at e2 ⊢;obtain ⟨X,hX⟩:∃ X,l.map Pr.g = X:=⟨_,rfl⟩;obtain ⟨Y,hY⟩:∃ Y,l.map Pr.b = Y:=⟨_,rfl⟩;rw [hX] at h1 e1;rw [hY] at h2 e2;simp only [u8V] at e1 e2 ⊢;refine jj7 2 ok31 rfl ?_;simp [i31,x31];intro gf4;refine jj4 h1 (by simp only [jid,V.pure,qm5,Bool.and_self]) ?_;simp;refine jj4 h2 (by simp only [jid,V.pure,qm5,Bool.and_self]) ?_;simp;refine jj4 e1 (by simp only [jid,V.pure,qa1,Bool.and_self]) ?_;simp;refine jj4 e2 (by simp only [jid,V.pure,qa1,Bool.and_self]) ?_;simp
theorem q2h (k:Nat) (l:List Nat):qpg k l≤3:=by
 unfold qpg;split
 ·omega
 unfold qfl;have h0:∀ i,rdN (l.getD i 0)≤3:=fun i=>by unfold rdN; omega
 have h1:∀ v,qs3 v≤3:=fun v=>by unfold qs3; split <;> omega
 have h2:∀ lo hi out,lo≤2->out≤2->dec lo hi out l≤3:=fun lo hi out a b=>by have:=que lo hi a l out b; omega
 have h3:qtr 0 l≤3:=by have:=qqx l 0 (by omega); omega
 have h4:∀ s a b,q2j s a b≤3:=fun s a b=>by unfold q2j rdN; split <;> (try split) <;> (try split) <;> omega
 have h5:∀ e d,q3n e d≤3:=fun e d=>by unfold q3n rdN; split <;> (try split) <;> omega
 have h6:q3u l≤3:=by
  unfold q3u;split
  ·omega
  ·split
   ·omega
   ·rename_i v hv h;simp only [not_or,not_exists,not_and] at h;by_cases hc:v≤3
    ·exact hc
    ·exfalso;exact h.2 v (List.mem_of_find?_eq_some hv) (by unfold qde; rw [if_pos (by omega)])
 by_cases e1:k = 1
 ·rw [if_pos e1]; omega
 rw [if_neg e1];by_cases e2:k = 2
 ·rw [if_pos e2]; omega
 rw [if_neg e2];by_cases e3:k = 3
 ·rw [if_pos e3]; exact h0 _
 rw [if_neg e3];by_cases e4:k = 4
 ·rw [if_pos e4]; exact h1 _
 rw [if_neg e4];by_cases e5:k = 5
 ·rw [if_pos e5]; exact h2 _ _ _ (by omega) (by omega)
 rw [if_neg e5];by_cases e6:k = 6
 ·rw [if_pos e6]; exact h1 _
 rw [if_neg e6];by_cases e7:k = 7
 ·rw [if_pos e7]; exact h2 _ _ _ (by omega) (by omega)
 rw [if_neg e7];by_cases e8:k = 8
 ·rw [if_pos e8]; exact h1 _
 rw [if_neg e8];by_cases e9:k = 9
 ·rw [if_pos e9]; exact h3
 rw [if_neg e9];by_cases e10:k = 10
 ·rw [if_pos e10]; exact h1 _
 rw [if_neg e10];by_cases e11:k = 11
 ·rw [if_pos e11]; exact h4 _ _ _
 rw [if_neg e11];by_cases e12:k = 12
 ·rw [if_pos e12]; exact h5 _ _
 rw [if_neg e12];by_cases e13:k = 13
 ·rw [if_pos e13]; exact h6
 rw [if_neg e13];omega
def Le3W (W:Nat->Nat->Nat):Prop:=∀ n v,v≤3->W n v≤3
theorem qv5:∀ (ns vs:List Nat) (f:Nat->Nat),(∀ v ∈ vs,v≤3)->(∀ i,f i≤3)->∀ i,put ns vs f i≤3
 | [],_,f,_,hf,i=>by simpa [put] using hf i
 | _ :: _,[],f,_,hf,i=>by simpa [put] using hf i
 | n :: ns,v :: vs,f,hv,hf,i=>by
  rw [put];refine qv5 ns vs _ (fun x hx=>hv x (List.mem_cons_of_mem _ hx)) (fun j=>?_) i;by_cases h:j = n
  ·subst h; rw [qcx]; exact hv v List.mem_cons_self
  ·rw [qbv _ _ h]; exact hf j
theorem q6b {c:Ci} {p:Pt} (hp:p.fit c) (i:Nat):ini c p i≤3:=qv5 _ _ _ hp.sv (qv5 _ _ _ hp.iv fun _=>by omega) i
theorem q54 {c:Ci} {W:Nat->Nat->Nat} {Q:Nat->Nat->Nat->Nat} (hW:Le3W W) {f:Nat->Nat} (hf:∀ i,f i≤3) (n:Nat):evM c W Q n f≤3:=by
 unfold evM;refine hW _ _ ?_;split
 ·exact q2h _ _
 ·exact hf n
theorem quq {c:Ci} {W:Nat->Nat->Nat} {Q:Nat->Nat->Nat->Nat} (hW:Le3W W):∀ (L:List Nat) (f:Nat->Nat),(∀ i,f i≤3)->∀ i,evl (evM c W Q) (fun _=>true) L f i≤3
 | [],f,hf,i=>hf i
 | n :: L,f,hf,i=>by
  rw [evl,if_pos rfl];refine quq hW L _ (fun j=>?_) i;by_cases h:j = n
  ·subst h; rw [qcx]; exact q54 hW hf _
  ·rw [qbv _ _ h]; exact hf j
theorem qyy {c:Ci} {p:Pt} (hp:p.fit c) (n:Nat):qg4 c p n≤3:=by
 rw [q0t];exact quq (fun _ _ h=>h) _ _ (q6b hp) n
theorem qxr {v:Nat} (h:v≤3):qde v = v:=by unfold qde; rw [if_neg (by omega)]
theorem qy9 (a b:Nat):qac Tryz.prog gl0 107 [.agg [u8V a,u8V b]] (.agg [u8V (qde a),u8V (qde b)]):=by
 have h1:=qmg a;have h2:=qmg b;generalize qde a = A at h1 ⊢;generalize qde b = B at h2 ⊢;simp only [u8V] at h1 h2 ⊢;refine jj7 2 jd7 rfl ?_;simp [i107,x107];intro gf1 gf2 gm
 first | refine ⟨_,_,_,.pure h1 rfl,?_⟩ | refine ⟨_,⟨_,_,.pure h1 rfl⟩,?_⟩ | refine ⟨_,_,⟨_,.pure h1 rfl⟩,?_⟩
 simp
 first | refine ⟨_,_,_,.pure h2 rfl,?_⟩ | refine ⟨_,⟨_,_,.pure h2 rfl⟩,?_⟩ | refine ⟨_,_,⟨_,.pure h2 rfl⟩,?_⟩
 simp;rfl
theorem jhj (v:Nat):qac Tryz.prog gl0 32 [u8V v] (Pr.v ⟨qde v,qde v⟩):=by
 have h1:=qy9 v v;simp only [u8V,Pr.v] at h1 ⊢;refine jj7 2 ok32 rfl ?_;simp [i32,x32];intro gf1;refine jj4 h1 (by simp) ?_;simp
theorem pD_c:qac Tryz.prog gl0 109 [] (.agg [u8V 1,u8V 0]):=by
 refine jj7 2 jd9 rfl ?_;simp [i109,x109,u8V]
theorem pB_c:qac Tryz.prog gl0 110 [] (.agg [u8V 0,u8V 1]):=by
 refine jj7 2 jea rfl ?_;simp [i110,x110,u8V]
def q30 (p:Pr):Bool:=decide (p.g = 1/\p.b = 0) || decide (p.g = 0/\p.b = 1)
theorem quf (p:Pr):qac Tryz.prog gl0 34 [p.v] (.bool (q30 p)):=by
 obtain ⟨a,b⟩:=p;have h1:=pD_c;have h2:=pB_c;simp only [u8V,Pr.v,q30] at h1 h2 ⊢;refine jj7 2 ok34 rfl ?_;simp [i34,x34];intro gf1 gm
 first | refine ⟨_,_,_,.pure h1 rfl,?_⟩ | refine ⟨_,⟨_,_,.pure h1 rfl⟩,?_⟩ | refine ⟨_,_,⟨_,.pure h1 rfl⟩,?_⟩
 simp;refine jj5 (fun h=>?_) (fun h=>?_)
 ·simp [h];rfl
 ·simp [h]
  first | refine ⟨_,_,_,.pure h2 rfl,?_⟩ | refine ⟨_,⟨_,_,.pure h2 rfl⟩,?_⟩ | refine ⟨_,_,⟨_,.pure h2 rfl⟩,?_⟩
  simp;rfl
end
section
open Go
noncomputable def bT (A B:Nat->Nat) (l:List Nat) (j:Nat):Pr:=if j ∈ l then ⟨A j,B j⟩ else ⟨0,0⟩
theorem q1f (A B:Nat->Nat) (l:List Nat) (i:Nat):qc0 (bT A B l) i ⟨A i,B i⟩ = bT A B (l ++ [i]):=by
 funext x;show (if x = i then _ else _) = _;by_cases e:x = i
 ·subst e; rw [if_pos rfl]; unfold bT; rw [if_pos (by simp)]
 ·rw [if_neg e]; unfold bT; simp [e]
theorem qy3 {c:Ci} (hv:c.val) (ha:qgk c) {t i:Nat} (ht:t < (qi0 c).length) (hi:(qi0 c)[t] = i):i ∉ (qi0 c).take t/\∀ w ∈ c.g i,w ∈ (qi0 c).take t:=by
 have hd:=qfq hv ha;have hLp:=qqb c;have hnd:=qcc hLp;refine ⟨fun q=>?_,fun w hw=>?_⟩
 ·obtain ⟨k,hk,e⟩:=List.getElem_of_mem q;have hk2:k < t:=by simp at hk; omega
  rw [List.getElem_take] at e;have:=(List.getElem_inj hnd (h₀:=by omega) (h₁:=by omega)).1 (e.trans hi.symm);omega
 ·have h3:=hd.lt i w hw;obtain ⟨k,hk,e⟩:=List.getElem_of_mem ((qhp hv ha).2 (hd.b i w hw).1)
  have hkt:k < t:=by
   refine Nat.lt_of_not_le fun q=>?_;rcases Nat.lt_or_eq_of_le q with q | q
   ·have:=List.pairwise_iff_getElem.1 hLp t k (by omega) hk q;rw [hi,e] at this;rcases this with h | ⟨h,-⟩ <;> omega
   ·subst q; rw [hi] at e; rw [e] at h3; omega
  rw [<- e];exact List.mem_take_iff_getElem.2 ⟨k,by omega,rfl⟩
structure DfSt where
 j:Nat
 a:Option (Nat × List V)
theorem anyS (f:Nat->Bool) (l:List Nat) (y:Nat):(l ++ [y]).any f = (l.any f || f y):=by simp
set_option maxRecDepth 100000 in
set_option maxHeartbeats 8000000 in
theorem qyh (x0:Cx) (hx0:x0.ok) (q:Pt) (z0 z1:Nat) (hz0:z0 < 256) (hz1:z1 < 256):qac Tryz.prog gl0 5 [x0.v,q.v,.agg [u8V z0,u8V z1]] (.bool true):=by
 have hyok:x0.nm.ok:=⟨hx0.n,hx0.f,hx0.d0,hx0.d1,hx0.p0,hx0.p1,hx0.p2,hx0.p3,hx0.g,hx0.o⟩;have hof:=jbw x0.nm hyok;have hpx:=qxv x0.nm;have hf:=q5j x0.nm;have hN:=ci_n x0.nm;have hg:=q2m x0;generalize x0.nm.ci = c at hof hf hN hg;obtain ⟨hv,ha⟩:=qns hf.wf hf.ck;have hd:=qfq hv ha;obtain ⟨n,hn⟩:∃ n,z0 % c.n.length = n:=⟨_,rfl⟩;obtain ⟨to,hto⟩:∃ to,z1 % 4 = to:=⟨_,rfl⟩;have hnN:n < c.n.length:=by rw [<- hn]; exact Nat.mod_lt _ (by omega)
 have c0:=q8z q c (by omega);have hpf:=q25 c q;generalize pof c q = p at c0 hpf;have c1:=qm3 c hf.wf hf.ck hf.n;have c2:=jby c hf.wf hf.ck hf.n hf.l n hnN;have c3:=jhs c hf.wf hf.ck hf.n hf.l;have c4:=jhx c hg p hpf;have c5:=qzb c hf.l;have hwk:=hf.wf.k;have hdl:=qpq hv ha hnN;have hLl:=qjf hv ha;have hLm:∀ x,x ∈ qi0 c↔x < c.n.length:=fun x=>qhp hv ha;have hsrc:=fun t i (ht:t < (qi0 c).length) hi=>qy3 hv ha (t:=t) (i:=i) ht hi;have hA3:∀ i,qg4 c p i≤3:=qyy hpf;have hAc:∀ i,qc9 c i = true->qg4 c p i = qmx c i (qg4 c p):=fun i hi=>q6s hg p hi;have hB:=q48 hd (qg4 c p) n to;have hmust:=fun y (hy:Pp c y) hq m hm=>qyv hg p (to:=to) hnN hy hq (m:=m) hm;have hmP:∀ y,y ∈ fL c.n.length (ptB c)->y < c.n.length/\Pp c y:=fun y hy=>q0i.1 hy
 have hstN:qdd c n < c.n.length:=by
  have h1:=qzp hv ha n hnN;exact (h1.lt hnN)
 have hst:(stL c)[n]? = some (qdd c n):=by unfold stL; rw [qhw _ hnN]
 have hstl:(stL c).length = c.n.length:=by simp [stL,tab]
 have hDmN:∀ y ∈ qxw c n,y < c.n.length:=fun y hy=>((hdl.m y).1 hy).lt hd;have hlD:(qxw c n).length≤c.n.length:=by rw [qxx hv ha hnN]; exact qus _ _
 have hlP:(fL c.n.length (ptB c)).length≤c.n.length:=qus _ _;obtain ⟨O,hO⟩:∃ O,q2q c (qg4 c p) = O:=⟨_,rfl⟩;obtain ⟨S,hS⟩:∃ O,q2r c (qg4 c p) = O:=⟨_,rfl⟩;obtain ⟨A,hA⟩:∃ A,qg4 c p = A:=⟨_,rfl⟩;rw [hO,hS] at c4;rw [hA] at c4 hA3 hAc hB hmust;obtain ⟨B,hBB⟩:∃ B,bvN c A n to = B:=⟨_,rfl⟩;rw [hBB] at hB hmust;obtain ⟨L,hL⟩:∃ L,qi0 c = L:=⟨_,rfl⟩;obtain ⟨Dm,hDm⟩:∃ F,qxw c n = F:=⟨_,rfl⟩;obtain ⟨ST,hST⟩:∃ F,stL c = F:=⟨_,rfl⟩;obtain ⟨sn,hsn⟩:∃ F,qdd c n = F:=⟨_,rfl⟩;obtain ⟨N,hNn⟩:∃ N,c.n.length = N:=⟨_,rfl⟩;obtain ⟨PL,hPL⟩:∃ F,fL N (ptB c) = F:=⟨_,rfl⟩;simp only [okV,hL,hDm,hPL,hST,hsn,hNn,qwe,qab] at c1 c2 c3 c4 c5 hLl hLm hsrc hmust hmP hstN hst hstl hDmN hlD hlP hn hnN hN;have hu:=u8i hz0;have htl:∀ {α:Type} (f:Nat->α),(tab N f).length = N:=fun f=>by simp [tab]
 have hcc:c.v.cells.length = 4:=rfl;simp only [Cx.v,Cx.nm] at hof hpx;refine jj7 2 ok5 rfl ?_;simp [i5,x5,Cx.v,Pt.v,u8V];intro gf1 gf2 gf3;refine jj4 hof hpx ?_;simp;intro gf4;generalize gf4 7 = g7;refine jj4 c0 (by simp) ?_;have hmod:=qk2 hn;simp [u8V,hu,hNn,hmod,show ¬ N = 0 by omega];intro gf5;refine jj4 c1 (by simp) ?_;simp;refine jj4 c2 (by simp) ?_;simp;refine jj4 c3 (by simp) ?_;simp;refine jj4 c4 (by simp) ?_;simp [hLl,hNn,hstl,htl,show N≤549755813888 by omega];intro gf6 gf7;generalize gf7 107 = g107
 have hz:List.replicate N (V.agg [.int .u8 0,.int .u8 0]) = tab N fun x=>(bT A B [] x).v:=by
  refine List.ext_getElem (by simp [tab]) fun i h1 h2=>?_;rw [qa0,List.getElem_replicate]; simp [bT,Pr.v,u8V]
 rw [hz];generalize gf3 5 = g5
 refine jj6 (X:=Nat) (fun t=>[(20,qab t),(19,.ref 107 g107 0 N (some N)),(7,.ptr 7 g7 0 0),(9,qab n),(10,.sl (qaf L) (some N)),(12,.sl (qaf Dm) (some Dm.length)),(14,.sl (qaf ST) (some N)),(17,.sl (tab N fun i=>u8V (A i)) (some N)),(5,.ptr 5 g5 0 0)])
  (fun t=>[(107,.row g107 2 (tab N fun x=>(bT A B (L.take t) x).v)),(7,.row g7 4 [c.v]),(5,.row g5 2 [.agg [.int .u8 (z0:Int),.int .u8 (z1:Int)]])]) (fun t=>t≤N) (fun t=>N - t) 0 (by simp) (by simp [qab,u8V]) (by simp; rfl) ?_
 intro t h1;simp [qab,hLl];refine jj5 (fun hb=>?_) (fun hb=>?_)
 ·have ht:t < N:=jkb hb;have hw:=qbg t (by omega);obtain ⟨i,hi⟩:∃ i,L[t]'(by omega) = i:=⟨_,rfl⟩;have hiN:i < N:=(hLm i).1 (by rw [<- hi]; exact jkg _);obtain ⟨hni,hsr⟩:=hsrc t i (by omega) hi;obtain ⟨y,hy⟩:∃ y,c.n[i] = y:=⟨_,rfl⟩;have hnd2:c.nd i = y:=by rw [c.nd_get (by omega),hy]
  have htk:L.take (t + 1) = L.take t ++ [i]:=by rw [List.take_succ_eq_append_getElem (by omega),hi]
  have hyi:=hv.i i (by omega);have hyl:=hv.l i (by omega);have hyk:=hwk y (by rw [<- hy]; exact jkg _);rw [hnd2] at hyi hyl;obtain ⟨T,hT⟩:∃ T,bT A B (L.take t) = T:=⟨_,rfl⟩;have hTs:∀ w ∈ c.g i,T w = ⟨A w,B w⟩:=fun w hw=>by rw [<- hT]; unfold bT; rw [if_pos (hsr w hw)]
  have hnext:qc0 T i ⟨A i,B i⟩ = bT A B (L.take (t + 1)):=by rw [<- hT,htk]; exact q1f A B _ i
  obtain ⟨YP,hYP⟩:∃ Y,(y.i.map fun v=>T v.toNat) = Y:=⟨_,rfl⟩;obtain ⟨Y,hY⟩:∃ Y,YP.map Pr.v = Y:=⟨_,rfl⟩;have hYl:Y.length = y.i.length:=by rw [<- hY,<- hYP]; simp
  have hset:∀ (u:Pr),(tab N fun x=>(T x).v).set i u.v = tab N fun x=>(qc0 T i u x).v:=fun u=>by
   rw [qc8];refine qa3 fun k hk=>?_;show (if k = i then _ else _) = Pr.v (if k = i then _ else _);by_cases e:k = i <;> simp [e]
  have hset2:∀ (u w:Pr),(tab N fun x=>(qc0 T i u x).v).set i w.v = tab N fun x=>(qc0 T i w x).v:=fun u w=>by
   rw [qc8];refine qa3 fun k hk=>?_;show (if k = i then _ else Pr.v (if k = i then _ else _)) = Pr.v (if k = i then _ else _);by_cases e:k = i <;> simp [e]
  rw [hT];simp [ht,hLl,qap,hi,hiN,hNn,hy]
  refine jj6 (X:=DfSt) (fun z=>[(23,qab z.j),(22,qbe 143 z.a),(21,qab i),(20,qab t),(19,.ref 107 g107 0 N (some N)),(7,.ptr 7 g7 0 0),(9,qab n),(10,.sl (qaf L) (some N)),(12,.sl (qaf Dm) (some Dm.length)),(14,.sl (qaf ST) (some N)),(17,.sl (tab N fun i=>u8V (A i)) (some N)),(5,.ptr 5 g5 0 0)])
   (fun z=>[(107,.row g107 2 (tab N fun x=>(T x).v)),(7,.row g7 4 [c.v]),(5,.row g5 2 [.agg [.int .u8 (z0:Int),.int .u8 (z1:Int)]])] ++ qbj 143 2 z.a)
   (fun z=>z.j≤y.i.length/\(z.a = none∨qav z.a ≠ [])/\qav z.a = Y.take z.j) (fun z=>y.i.length - z.j) ⟨0,none⟩ ⟨by simp,by simp,by simp [qav]⟩ (by simp [qab,qbe,u8V]) (by simp [qbj]) ?_
  rintro ⟨j,acc⟩ ⟨q1,q2,q3⟩;dsimp only at q1 q2 q3 ⊢;simp [qab,hiN,hNn,hy,Nd.v];have hll:(qav acc).length = j:=by rw [q3]; simp; omega
  refine jj5 (fun hb2=>?_) (fun hb2=>?_)
  ·have hj:j < y.i.length:=jkb hb2;have hwj:=qbg j (by omega);obtain ⟨w,hwe⟩:∃ w:Nat,y.i[j] = (w:Int):=⟨y.i[j].toNat,by have:=hyi _ (jkg hj); omega⟩;have hwN:w < N:=by have:=hyi _ (jkg hj); rw [hwe] at this; omega
   have hsn:Y.take (j + 1) = Y.take j ++ [(T w).v]:=by
    rw [List.take_succ_eq_append_getElem (by omega)];simp only [<- hY,<- hYP,List.getElem_map,hwe];rfl
   have hle:(qav acc).length + 1≤274877906944:=by omega
   have hTw:(T w).v = .agg [.int .u8 ((T w).g:Int),.int .u8 ((T w).b:Int)]:=rfl;simp [Nd.v,hj,hiN,hNn,hy,qev,hwe,hwN,htl,qa0]
   cases acc with
   | none=>
    simp only [qav] at q3;simp [qbe,qbj,hwj,hTw];intro gf8 gf9;exact ⟨⟨j + 1,some (gf9 143,[(T w).v])⟩,⟨hj,by simp [qav],by dsimp only [qav]; rw [hsn,<- q3]; rfl⟩,by simp [qbe],by simp [qbj,hTw,u8V],by dsimp only; omega⟩
   | some gl=>
    obtain ⟨g,l⟩:=gl;simp only [qav] at q3 hle;simp [qbe,qbj,hwj,hle,hTw];intro gf8 gf9;exact ⟨⟨j + 1,some (gf9 143,l ++ [(T w).v])⟩,⟨hj,by simp [qav],by dsimp only [qav]; rw [hsn,<- q3]⟩,by simp [qbe],by simp [qbj,hTw,u8V],by dsimp only; omega⟩
  ·have hj:j = y.i.length:=by have:=jkc hb2; omega
   clear hll;subst j;rw [jkf (by omega)] at q3;obtain ⟨kk,hkk⟩:∃ kk:Nat,y.k = (kk:Int):=⟨y.k.toNat,by omega⟩;have hcmb:=qjh y.k;have hcomb:qc9 c i = qdz y.k:=by unfold qc9; rw [hnd2]
   have hgc:qdz y.k = true->c.g i = y.i.map Int.toNat:=fun h=>by unfold Ci.g; rw [hnd2,if_pos h]
   have hAi:=hAc i;have hBi:=hB i;rw [hcomb] at hAi hBi;have hAi3:=hA3 i;have hnv:∀ F:Nat->Nat,qmx c i F = qpg y.k.toNat ((c.g i).map F):=fun F=>by unfold qmx; rw [hnd2]
   rw [hkk] at hcmb hgc hyk hAi hBi hnv;simp [Nd.v,hkk,hiN,hNn,hy];refine jj4 hcmb (by simp) ?_;simp;have hm4:((z1:Int)).tmod 4 = (to:Int):=qk2 (b:=4) hto;have hu1:=u8i hz1
   have hgt:∀ (u:Pr) (h:i < (tab N fun x=>(qc0 T i u x).v).length),(tab N fun x=>(qc0 T i u x).v)[i] = .agg [.int .u8 (u.g:Int),.int .u8 (u.b:Int)]:=fun u h=>by
    rw [qa0]; show Pr.v (if i = i then _ else _) = _; rw [if_pos rfl]; rfl
   have hset':∀ a b:Nat,(tab N fun x=>(T x).v).set i (.agg [.int .u8 (a:Int),.int .u8 (b:Int)]) = tab N fun x=>(qc0 T i ⟨a,b⟩ x).v:=fun a b=>hset ⟨a,b⟩;have hset2':∀ (u:Pr) (a b:Nat),(tab N fun x=>(qc0 T i u x).v).set i (.agg [.int .u8 (a:Int),.int .u8 (b:Int)]) = tab N fun x=>(qc0 T i ⟨a,b⟩ x).v:=fun u a b=>hset2 u ⟨a,b⟩;have hTi:(T i).v = .agg [.int .u8 ((T i).g:Int),.int .u8 ((T i).b:Int)]:=rfl;refine jj5 (fun hcb=>?b1) (fun hcb=>?b2)
   case' b1=>
    have hvs:YP = (c.g i).map fun w=>(⟨A w,B w⟩:Pr):=by
     rw [<- hYP,hgc hcb,List.map_map];refine List.map_congr_left fun v hv=>?_;exact hTs v.toNat (by rw [hgc hcb]; exact List.mem_map_of_mem hv)
    have hYPl:YP.length < 1000000000:=by rw [<- hYP]; simp; omega
    have hE:=fun cap=>q13 kk (by omega) YP cap hYPl;have eA:qpg kk (YP.map Pr.g) = A i:=by rw [hAi hcb,hnv,hvs,List.map_map]; rfl
    have eB:qpg kk (YP.map Pr.b) = qmx c i B:=by rw [hnv,hvs,List.map_map]; rfl
    rw [eA,eB,hY] at hE;rw [if_pos hcb] at hBi;obtain ⟨B0,hB0⟩:∃ x,qmx c i B = x:=⟨_,rfl⟩;rw [hB0] at hE hBi;have hYpu:jid Y = true:=by rw [<- hY]; exact qm5 _
    simp only [u8V] at hE;cases acc
   case' b1.none=>
    simp only [qav] at q3;simp [qbe,qbj,Nd.v,hkk,hiN,hNn,hy];refine jj4 ((hE none).wide ⟨.refl _,(by rw [<- q3]; exact VLe.nil'),trivial⟩ (.refl _)) (by simp) ?_;simp [htl,hiN,qa0,u8V,hTi,hset']
   case' b1.some gl=>
    obtain ⟨g,l⟩:=gl;simp only [qav] at q3;subst q3;simp [qbe,qbj,Nd.v,hkk,hiN,hNn,hy];refine CallO.borrow 1 (hE none) (by simp [u8V,qbf hYpu]) rfl ?_;simp [htl,hiN,qa0,u8V,hTi,hset']
   case' b2=>
    rw [if_neg (show ¬ qdz (kk:Int) = true by rw [hcb]; simp)] at hBi;have hOf:=jhj (A i);rw [qxr hAi3] at hOf;simp only [Pr.v,u8V] at hOf;simp [htl,hiN,qa0,u8V];refine jj4 hOf (by simp) ?_;simp [htl,hiN,qa0,u8V,hTi,hset']
   all_goals
    have hnx:∀ b,b = B i->(tab N fun x=>(qc0 T i ⟨A i,b⟩ x).v) = tab N fun x=>(bT A B (L.take (t + 1)) x).v:=fun b hb=>by rw [hb,hnext]
    refine jj5 (fun hin=>?_) (fun hin=>?_)
    ·have hin':i = n:=jkb hin;rw [if_pos hin'] at hBi;subst hin';simp [hgt,htl,hiN,hu1,hm4,hset2',hw];exact ⟨t + 1,ht,by simp,hnx _ hBi.symm,by omega⟩
    ·have hin':¬ i = n:=jkc hin;rw [if_neg hin'] at hBi;simp [hw];exact ⟨t + 1,ht,by simp,hnx _ hBi.symm,by omega⟩
 ·have ht:t = N:=by have:=jkc hb; omega
  subst t;rw [jkf (by omega)];have hrow:(tab N fun x=>(bT A B L x).v) = tab N fun x=>Pr.v ⟨A x,B x⟩:=qa3 fun x hx=>by unfold bT; rw [if_pos ((hLm x).2 hx)]
  rw [hrow];clear hb h1 hrow;simp;refine jj4 c5 (by simp) ?_;simp;obtain ⟨SM,hSM⟩:∃ SM:Nat->Bool,(fun k=>(PL.take k).any fun y=>q30 ⟨A y,B y⟩) = SM:=⟨_,rfl⟩;have hSMk:∀ k,SM k = (PL.take k).any fun y=>q30 ⟨A y,B y⟩:=fun k=>by rw [<- hSM]
  have hE:∀ x,Pr.v ⟨A x,B x⟩ = .agg [.int .u8 (A x:Int),.int .u8 (B x:Int)]:=fun x=>rfl
  refine jj6 (X:=Nat) (fun k=>[(26,qab k),(25,.sl (qaf PL) (some PL.length)),(24,.bool (SM k)),(19,.ref 107 g107 0 N (some N)),(9,qab n),(12,.sl (qaf Dm) (some Dm.length)),(14,.sl (qaf ST) (some N)),(17,.sl (tab N fun i=>u8V (A i)) (some N))])
   (fun _=>[(107,.row g107 2 (tab N fun x=>Pr.v ⟨A x,B x⟩))]) (fun k=>k≤PL.length) (fun k=>PL.length - k) 0 (by simp) (by simp [qab,hSMk]) (by simp) ?_
  intro k h1;simp [qab];refine jj5 (fun hb=>?_) (fun hb=>?_)
  ·have hk:k < PL.length:=jkb hb;have hw:=qbg k (by omega);obtain ⟨y,hy⟩:∃ y,PL[k] = y:=⟨_,rfl⟩;have hyN:y < N:=(hmP y (by rw [<- hy]; exact jkg hk)).1;have hsn1:SM (k + 1) = (SM k || q30 ⟨A y,B y⟩):=by rw [hSMk,hSMk,List.take_succ_eq_append_getElem hk,hy,anyS]
   have hdf:=quf ⟨A y,B y⟩;rw [hE] at hdf;cases hS:SM k
   all_goals
    rw [hS] at hsn1;simp [hk,qap,hy,htl,hyN,show ¬ N≤y by omega,qa0,qab,hw,hE]
   ·refine jj4 hdf (by simp) ?_;simp [hw];exact ⟨k + 1,hk,⟨by simp,by rw [hsn1]; simp⟩,by omega⟩
   ·exact ⟨k + 1,hk,⟨by simp,by rw [hsn1]; simp⟩,by omega⟩
  ·have hk:k = PL.length:=by have:=jkc hb; omega
   subst k;have hS1:=hSMk PL.length;rw [List.take_length] at hS1;generalize SM PL.length = S0 at hS1;clear hb h1;simp
   have hdom:∀ m,m ∈ Dm∨m = sn->S0 = true->A m ≠ B m:=fun m hm hS=>by
    rw [hS1,List.any_eq_true] at hS;obtain ⟨z,h2,h3⟩:=hS;refine hmust z (hmP z h2).2 (fun e=>?_) m hm;unfold q30 at h3;rw [e] at h3;simp at h3;omega
   have hall:((qaf Dm).all fun x=>decide (x.cells.length = 1)) = true:=by simp [qaf,qab]
   have hSTl:=hstl;have hSTn:∀ h:n < ST.length,ST[n] = sn:=fun h=>by rw [jkh h] at hst; exact Option.some.inj hst
   obtain ⟨M,hM⟩:∃ M,Dm ++ [sn] = M:=⟨_,rfl⟩
   have hMm:∀ y ∈ M,y < N/\(S0 = true->A y ≠ B y):=fun y hy=>by
    rw [<- hM,List.mem_append,List.mem_singleton] at hy;refine ⟨?_,hdom y hy⟩;rcases hy with hy | rfl
    ·exact hDmN y hy
    ·exact hstN
   have hMl:M.length≤N + 1:=by rw [<- hM]; simp; omega
   have hMv:qaf M = qaf Dm ++ [.int .i64 (sn:Int)]:=by rw [<- hM]; simp [qaf,qab]
   have hDl:(qaf Dm).length≤274877906944:=by simp; omega
   have hDl1:(qaf Dm).length + 1≤274877906944:=by simp; omega
   generalize hDV:qaf Dm = DV at hall hMv hDl hDl1 ⊢;simp [hall,hDl];intro gm;have hml:M.length = DV.length + 1:=by rw [<- qcp,hMv]; simp
   cases DV
   case' nil=>
    simp [qap,hSTl,hnN,hSTn];refine ⟨rfl,?_⟩;refine jj6 (X:=Nat) (fun i=>[(28,qab i),(27,.ref 220 (gm 220) 0 M.length none),(24,.bool S0),(19,.ref 107 g107 0 N (some N)),(17,.sl (tab N fun i=>u8V (A i)) (some N))]) (fun _=>[(220,.row (gm 220) 1 (qaf M)),(107,.row g107 2 (tab N fun x=>Pr.v ⟨A x,B x⟩))]) (fun i=>i≤M.length) (fun i=>M.length - i) 0 (by simp) (by simp [qab,hml]) (by simp [hMv]) ?_
   case' cons a l=>
    simp [qap,hSTl,hnN,hSTn];simp only [List.length_cons] at hDl1;refine ⟨by omega,rfl,?_⟩;refine jj6 (X:=Nat) (fun i=>[(28,qab i),(27,.ref 214 (gm 214 + 1) 0 M.length none),(24,.bool S0),(19,.ref 107 g107 0 N (some N)),(17,.sl (tab N fun i=>u8V (A i)) (some N))]) (fun _=>[(214,.row (gm 214 + 1) 1 (qaf M)),(107,.row g107 2 (tab N fun x=>Pr.v ⟨A x,B x⟩))]) (fun i=>i≤M.length) (fun i=>M.length - i) 0 (by simp) (by simp [qab,hml]) (by simp [hMv]) ?_
   all_goals
    intro i h1;simp [qab];refine jj5 (fun hb=>?_) (fun hb=>?_)
    ·have hi:i < M.length:=jkb hb;have hw:=qbg i (by omega);obtain ⟨y,hy⟩:∃ y,M[i] = y:=⟨_,rfl⟩;obtain ⟨hyN,hyd⟩:=hMm y (by rw [<- hy]; exact jkg hi);simp [hi,qap,hy,htl,hyN,show ¬ N≤y by omega,qab];cases S0
     ·simp [hw];exact ⟨i + 1,hi,by simp,by omega⟩
     ·have hne:=hyd rfl;simp [hi,qap,hy,htl,hyN,qa0,qab,hE,hne,hw];exact ⟨i + 1,hi,by simp,by omega⟩
    ·simp;refine jj6 (X:=Nat) (fun i=>[(29,qab i),(19,.ref 107 g107 0 N (some N)),(17,.sl (tab N fun i=>u8V (A i)) (some N))]) (fun _=>[(107,.row g107 2 (tab N fun x=>Pr.v ⟨A x,B x⟩))]) (fun i=>i≤N) (fun i=>N - i) 0 (by simp) (by simp [qab]) (by simp) ?_;intro j h2;simp [qab,htl];refine jj5 (fun hb2=>?_) (fun hb2=>?_)
     ·have hj:j < N:=jkb hb2;have hw:=qbg j (by omega);simp [hj,htl,qa0,hE,u8V,hw];exact ⟨j + 1,hj,by simp,by omega⟩
     ·simp;refine jj4 jh0 (by simp) ?_;simp
end
end Go.Proofs.YtbbnmiaabmbheaaGreatDoor
