/- Lemmas. Conditions: none. -/
import Derived.Test.YtpaopccohkldlaaGreatDoorT7
import Derived.Test.YtpaopccohkldlaaGreatDoorI1
set_option linter.all false
namespace Go.Proofs.YtpaopccohkldlaaGreatDoor
section
open Go
def FnW (F:V) (W:Nat->Nat->Nat):Prop:=∃ f caps,F = .fn f [] caps/\jd6 caps = true/\∀ n v,n < 1000->v≤3->qac Tryz.prog gl0 f (qab n :: u8V v :: caps) (u8V (W n v))
def FnQ (F:V) (Q:Nat->Nat->Nat->Nat):Prop:=∃ f caps,F = .fn f [] caps/\jd6 caps = true/\∀ n k v,n < 1000->k < 1000->v≤3->qac Tryz.prog gl0 f (qab n :: qab k :: u8V v :: caps) (u8V (Q n k v))
def cyV (c:Ci) (nets NF PF:V):V:=.agg [.sl (c.n.map Nd.v) none,.sl (c.s.map .str) none,.sl (c.m.map Md.v) none,.sl (qde c.o) none,nets,NF,PF]
@[simp] theorem q7l (c:Ci) (a b d:V):(cyV c a b d).cells = [.sl (c.n.map Nd.v) none,.sl (c.s.map .str) none,.sl (c.m.map Md.v) none,.sl (qde c.o) none,a,b,d]:=rfl
@[simp] theorem cy_okN (c:Ci) (f g:FuncId) (x y z w:List V):(cyV c .nil (.fn f x y) (.fn g z w)).cellsOk = true:=rfl
@[simp] theorem cy_okS (c:Ci) (f g:FuncId) (xs x y z w:List V) (cap:Option Nat):(cyV c (.sl xs cap) (.fn f x y) (.fn g z w)).cellsOk = true:=rfl
@[simp] theorem cy_okR (c:Ci) (f g:FuncId) (b gg o l:Nat) (x y z w:List V) (cap:Option Nat):(cyV c (.ref b gg o l cap) (.fn f x y) (.fn g z w)).cellsOk = true:=rfl
def tU (N:Nat) (f:Nat->Nat):List V:=tab N fun j=>u8V (f j)
@[simp] theorem q62 (N:Nat) (f:Nat->Nat):(tU N f).length = N:=by simp [tU]
theorem qej (N:Nat) (f:Nat->Nat) (i:Nat) (h:i < (tU N f).length):(tU N f)[i] = u8V (f i):=by simp only [tU]; rw [qda]
@[simp] theorem qcf (N:Nat) (f:Nat->Nat):jd6 (tU N f) = true:=qek N f
theorem qn8 (N:Nat) (F:Nat->Nat) (n x:Nat):(tU N F).set n (.int .u8 (x:Int)) = tU N (qbs F n x):=qic N F n x
theorem ql0 (c:Ci) (Q:Nat->Nat->Nat->Nat) (n:Nat) (f:Nat->Nat):(qmi c Q n f).length = (c.nd n).i.length:=by simp [qmi]
theorem qye {c:Ci} {Q:Nat->Nat->Nat->Nat} {n:Nat} {f:Nat->Nat} {k:Nat} {y:Nd} {x:Nat} (hy:c.nd n = y) (hk:k < y.i.length) (hx:y.i[k] = (x:Int)) (h:k < (qmi c Q n f).length):(qmi c Q n f)[k] = Q n k (f x):=by
 subst hy;simp [qmi,hx]
set_option maxRecDepth 100000 in
theorem qvb (c:Ci) (hg:c.good) (Q:Nat->Nat->Nat->Nat) (NF PF:V) (hNF:NF.pure = true/\∃ f x y,NF = .fn f x y) (hQ:FnQ PF Q) (f:Nat->Nat) (hf:∀ i,i < c.n.length->f i≤3) (n:Nat) (hn:n < c.n.length) :
  qb5 Tryz.prog gl0 157 [.iptr (cyV c (.sl (tU c.n.length f) (some c.n.length)) NF PF) 0,qab n] (q2m 1 (.sl ((qmi c Q n f).map u8V) none)):=by
 obtain ⟨hNp,f0,x0,y0,rfl⟩:=hNF;obtain ⟨g0,caps,rfl,hcp,hQ⟩:=hQ;obtain ⟨y,hy⟩:∃ y,c.n[n] = y:=⟨_,rfl⟩;have hnd:c.nd n = y:=by rw [c.nd_get hn,hy]
 have hyi:=hg.val.i n hn;have hyl:=hg.val.l n hn;have hn1:=hg.n1;rw [hnd] at hyi hyl;have hRl:(qmi c Q n f).length = y.i.length:=by rw [ql0,hnd]
 have hRg:∀ k (hk:k < y.i.length) (x:Nat),y.i[k] = (x:Int)->∀ h,(qmi c Q n f)[k]'h = Q n k (f x):=fun k hk x hx h=>qye hnd hk hx h;generalize qmi c Q n f = R at hRl hRg ⊢;have hR3:jd6 (R.map u8V) = true:=qaj R
 have h0:qb5 Tryz.prog gl0 157 [.iptr (cyV c (.sl (tU c.n.length f) (some c.n.length)) (.fn f0 x0 y0) (.fn g0 [] caps)) 0,qab n] (fun v h=>(v = .nil/\R = []/\h = [])∨∃ g,v = .ref 0 g 0 R.length none/\h = [(0,.row g 1 (R.map u8V))]):=by
  refine jfw jbn rfl ?_;simp [i157,x157,qab,nop,hn,hy]
  refine je2 (X:=Nat × Option (Nat × List V)) (fun z=>[(18,qab z.1),(17,qab y.i.length),(16,.sl (qde y.i) none),(5,qbt 39 z.2),(0,.iptr (cyV c (.sl (tU c.n.length f) (some c.n.length)) (.fn f0 x0 y0) (.fn g0 [] caps)) 0),(1,qab n)]) (fun z=>qbm 39 1 z.2)
   (fun z=>z.1≤y.i.length/\(z.2 = none↔z.1 = 0)/\qbe z.2 = (R.map u8V).take z.1) (fun z=>y.i.length - z.1) (.done ⟨(0,none),⟨by simp,by simp,by simp [qbe]⟩,by simp [qab,qbt],by simp [qbm]⟩) ?_
  rintro ⟨k,acc⟩ ⟨q1,q2,q3⟩;dsimp only at q1 q2 q3 ⊢;simp [qab];refine jfr (fun hb=>?_) (fun hb=>?_)
  ·have hk:k < y.i.length:=jfy hb;have hw:=qbi k (by omega);have h2:=hyi _ (jf3 hk);obtain ⟨x,hx⟩:∃ x:Nat,y.i[k] = (x:Int):=⟨(y.i[k]).toNat,by omega⟩;have hxN:x < c.n.length:=by rw [hx] at h2; omega
   have hkR:k < R.length:=by omega
   have hgk:=hRg k hk x hx hkR
   have hnx:(R.map u8V).take (k + 1) = (R.map u8V).take k ++ [u8V (Q n k (f x))]:=by
    rw [List.take_succ_eq_append_getElem (by simpa using hkR)];simp [hgk]
   have hQk:=hQ n k (f x) (by omega) (by omega) (hf x hxN);obtain ⟨qv,hqv⟩:∃ qv,Q n k (f x) = qv:=⟨_,rfl⟩;obtain ⟨fv,hfv⟩:∃ fv,f x = fv:=⟨_,rfl⟩;rw [hqv] at hQk hnx;rw [hfv] at hQk;rw [<- q3] at hnx;simp only [u8V,qab] at hQk hnx;rcases acc with _ | ⟨ga,r⟩
   ·simp [qbt,qbm,hk,hx,qbq,hxN,qej,hfv,nop,u8V];intro gm
    first | refine ⟨_,_,_,.pure hQk (by simp [jd6,V.pure,hcp]),?_⟩ | refine ⟨_,⟨_,_,.pure hQk (by simp [jd6,V.pure,hcp])⟩,?_⟩ | refine ⟨_,_,⟨_,.pure hQk (by simp [jd6,V.pure,hcp])⟩,?_⟩
    simp;exact .done ⟨k + 1,some (gm 39,[.int .u8 (qv:Int)]),⟨hk,by simp,by simpa [qbe] using hnx.symm⟩,by simp [hw],by simp,by omega⟩
   ·simp [qbt,qbm,hk,hx,qbq,hxN,qej,hfv,nop,u8V];intro gm
    first | refine ⟨_,_,_,.pure hQk (by simp [jd6,V.pure,hcp]),?_⟩ | refine ⟨_,⟨_,_,.pure hQk (by simp [jd6,V.pure,hcp])⟩,?_⟩ | refine ⟨_,_,⟨_,.pure hQk (by simp [jd6,V.pure,hcp])⟩,?_⟩
    simp;exact ⟨by have:=congrArg List.length q3; simp [qbe] at this; omega,.done ⟨k + 1,some (ga + 1,r ++ [.int .u8 (qv:Int)]),⟨hk,by simp,by simpa [qbe] using hnx.symm⟩,by simp [hw],by simp,by omega⟩⟩
  ·have hk:k = y.i.length:=by have:=jfz hb; omega
   subst hk;have hRt:(R.map u8V).take y.i.length = R.map u8V:=jf2 (by simp; omega);rw [hRt] at q3;rcases acc with _ | ⟨ga,r⟩
   ·have hR0:R = []:=by simpa [qbe] using q3.symm
    simp [qbt,qbm];exact .done (by simp [hR0])
   ·simp only [qbe] at q3;subst q3;simp [qbt,qbm];refine .move 39 0 _ (by simp) (by simp; rfl) fun g=>.done ?_;simp [qaz hR3]
 refine h0.mono fun v h hk=>?_;rcases hk with ⟨rfl,rfl,rfl⟩ | ⟨g,rfl,rfl⟩
 ·exact ⟨rfl,fun b k hb=>by simp [lk] at hb,VLe.nil'⟩
 ·refine ⟨rfl,fun b k hb=>?_,?_⟩
  ·simp only [lk] at hb;split at hb
   ·cases hb; exact qv5 R
   ·cases hb
  ·rw [qd3 (es:=R.map u8V) (sz:=1) (by simp) (by simp),List.drop_zero,jf2 (by simp),qer _ _ hR3];exact .refl _
end
section
open Go
theorem quh (k:Nat) (l:List Nat):qwo k l≤3:=by
 unfold qwo;split
 ·omega
 unfold qe0;have h0:∀ i,rdN (l.getD i 0)≤3:=fun i=>by unfold rdN; omega
 have h1:∀ v,qrw v≤3:=fun v=>by unfold qrw; split <;> omega
 have h2:∀ lo hi out,lo≤2->out≤2->dec lo hi out l≤3:=fun lo hi out a b=>by have:=qte lo hi a l out b; omega
 have h3:qsm 0 l≤3:=by have:=qpy l 0 (by omega); omega
 have h4:∀ s a b,q1g s a b≤3:=fun s a b=>by unfold q1g rdN; split <;> (try split) <;> (try split) <;> omega
 have h5:∀ e d,q2d e d≤3:=fun e d=>by unfold q2d rdN; split <;> (try split) <;> omega
 have h6:q2p l≤3:=by
  unfold q2p;split
  ·omega
  ·split
   ·omega
   ·rename_i v hv h;simp only [not_or,not_exists,not_and] at h;by_cases hc:v≤3
    ·exact hc
    ·exfalso;exact h.2 v (List.mem_of_find?_eq_some hv) (by unfold qe3; rw [if_pos (by omega)])
 by_cases e1:k = 1
 ·rw [if_pos e1]; omega
 rw [if_neg e1];by_cases e2:k = 2
 ·rw [if_pos e2]; omega
 rw [if_neg e2];by_cases e3:k = 3
 ·rw [if_pos e3]; exact h0 _
 rw [if_neg e3];by_cases e4:k = 4
 ·rw [if_pos e4]; exact h1 _
 rw [if_neg e4];by_cases e5:k = 5
 ·rw [if_pos e5]; exact h2 _ _ _ (by omega) (by omega)
 rw [if_neg e5];by_cases e6:k = 6
 ·rw [if_pos e6]; exact h1 _
 rw [if_neg e6];by_cases e7:k = 7
 ·rw [if_pos e7]; exact h2 _ _ _ (by omega) (by omega)
 rw [if_neg e7];by_cases e8:k = 8
 ·rw [if_pos e8]; exact h1 _
 rw [if_neg e8];by_cases e9:k = 9
 ·rw [if_pos e9]; exact h3
 rw [if_neg e9];by_cases e10:k = 10
 ·rw [if_pos e10]; exact h1 _
 rw [if_neg e10];by_cases e11:k = 11
 ·rw [if_pos e11]; exact h4 _ _ _
 rw [if_neg e11];by_cases e12:k = 12
 ·rw [if_pos e12]; exact h5 _ _
 rw [if_neg e12];by_cases e13:k = 13
 ·rw [if_pos e13]; exact h6
 rw [if_neg e13];omega
theorem q0x (c:Ci) (hg:c.good) (Q:Nat->Nat->Nat->Nat) (NF PF:V) (hNF:NF.pure = true/\∃ f x y,NF = .fn f x y) (hQ:FnQ PF Q) (f:Nat->Nat) (hf:∀ i,i < c.n.length->f i≤3) (n:Nat) (hn:n < c.n.length) :
  qac Tryz.prog gl0 156 [.iptr (cyV c (.sl (tU c.n.length f) (some c.n.length)) NF PF) 0,qab n] (u8V (qwo (c.nd n).k.toNat (qmi c Q n f))):=by
 have hr:=jfc (qvb c hg Q NF PF hNF hQ f hf n hn);obtain ⟨hNp,f0,x0,y0,rfl⟩:=hNF;obtain ⟨g0,caps,rfl,hcp,hQ⟩:=hQ;obtain ⟨y,hy⟩:∃ y,c.n[n] = y:=⟨_,rfl⟩;have hnd:c.nd n = y:=by rw [c.nd_get hn,hy]
 have hyl:=hg.val.l n hn;have hyk:=hg.wf.k y (by rw [<- hy]; exact jf3 hn);have hRl:(qmi c Q n f).length = y.i.length:=by rw [ql0,hnd]
 rw [hnd] at hyl ⊢;generalize qmi c Q n f = R at hr hRl ⊢;have hlog:=qzm y.k.toNat (by omega) R none (by omega);have hku:u8V y.k.toNat = .int .u8 y.k:=by simp [u8V,Int.toNat_of_nonneg hyk.1]
 rw [hku] at hlog;generalize qwo y.k.toNat R = E at hlog ⊢;simp only [qab,u8V] at hr hlog ⊢
 have hp1:V.pure (cyV c (.sl (tU c.n.length f) (some c.n.length)) (.fn f0 x0 y0) (.fn g0 [] caps)) = true:=by
  simp only [V.pure] at hNp;simp [cyV,jd6,hcp,hNp]
 refine jfu 2 jbm rfl ?_;simp [i156,x156,nop,hn,hy];intro gm
 first | refine ⟨_,_,_,.pure hr (by simp [hp1]),?_⟩ | refine ⟨_,⟨_,_,.pure hr (by simp [hp1])⟩,?_⟩ | refine ⟨_,_,⟨_,.pure hr (by simp [hp1])⟩,?_⟩
 simp
 first | refine ⟨_,_,_,.pure hlog (by simp),?_⟩ | refine ⟨_,⟨_,_,.pure hlog (by simp)⟩,?_⟩ | refine ⟨_,_,⟨_,.pure hlog (by simp)⟩,?_⟩
 simp
 try rfl
end
section
open Go
def q3p (W:Nat->Nat->Nat):Prop:=∀ n v,v≤3->W n v≤3
theorem qu4:∀ (ns vs:List Nat) (f:Nat->Nat),(∀ v ∈ vs,v≤3)->(∀ i,f i≤3)->∀ i,put ns vs f i≤3
 | [],_,f,_,hf,i=>by simpa [put] using hf i
 | _ :: _,[],f,_,hf,i=>by simpa [put] using hf i
 | n :: ns,v :: vs,f,hv,hf,i=>by
  rw [put];refine qu4 ns vs _ (fun x hx=>hv x (List.mem_cons_of_mem _ hx)) (fun j=>?_) i;by_cases h:j = n
  ·subst h; rw [qbg]; exact hv v List.mem_cons_self
  ·rw [qaw _ _ h]; exact hf j
theorem q49 {c:Ci} {p:Pt} (hp:p.fit c) (i:Nat):ini c p i≤3:=qu4 _ _ _ hp.sv (qu4 _ _ _ hp.iv fun _=>by omega) i
theorem q40 {c:Ci} {W:Nat->Nat->Nat} {Q:Nat->Nat->Nat->Nat} (hW:q3p W) {f:Nat->Nat} (hf:∀ i,f i≤3) (n:Nat):evM c W Q n f≤3:=by
 unfold evM;refine hW _ _ ?_;split
 ·exact quh _ _
 ·exact hf n
theorem qtm {c:Ci} {W:Nat->Nat->Nat} {Q:Nat->Nat->Nat->Nat} (hW:q3p W):∀ (L:List Nat) (f:Nat->Nat),(∀ i,f i≤3)->∀ i,evl (evM c W Q) (fun _=>true) L f i≤3
 | [],f,hf,i=>hf i
 | n :: L,f,hf,i=>by
  rw [evl,if_pos rfl];refine qtm hW L _ (fun j=>?_) i;by_cases h:j = n
  ·subst h; rw [qbg]; exact q40 hW hf _
  ·rw [qaw _ _ h]; exact hf j
theorem qzg {h:Hp} {b g g29 N:Nat} {c:Ci} {F:Nat->Nat} {NF PF:V} (h1:lk h b = some (.row g 7 [cyV c (.ref 29 g29 0 N (some N)) NF PF])) (h2:lk h 29 = some (.row g29 1 (tU N F))) (hn:NF.pure = true) (hp:PF.pure = true) :
  frz h 3 (.ptr b g 0 0) = .iptr (cyV c (.sl (tU N F) (some N)) NF PF) 0:=by
 have e:frz h 3 (.ptr b g 0 0) = .iptr (frz h 2 (cyV c (.ref 29 g29 0 N (some N)) NF PF)) 0:=by simp [frz,V.mapR,h1]
 have e1:∀ v:V,v.pure = true->frz h 2 v = v:=fun v hv=>qgf h 2 hv;rw [e];congr 1;unfold cyV;rw [q02];simp only [List.map_cons,List.map_nil];rw [e1 _ (by simp),e1 _ (by simp),e1 _ (by simp),e1 _ (by simp),e1 _ hn,e1 _ hp,qd3 h2 (by simp),List.drop_zero,jf2 (by simp),qer _ _ (qcf N F)]
theorem q43 {b g g29 N:Nat} {es:List V} {c:Ci} {cap:Option Nat} {NF PF:V} (hb:b ≠ 29) (hn:NF.pure = true) (hp:PF.pure = true) :
  V.mapR (fzf b g es) (fzp b g es) (cyV c (.ref 29 g29 0 N cap) NF PF) = cyV c (.ref 29 g29 0 N cap) NF PF:=by
 have h1:(29 = b/\g29 = g) = False:=by simp [Ne.symm hb]
 simp only [cyV,V.mapR,jd8,qae _ (qfk _),qae _ (qfd _),qae _ (qgn _),qae _ (qeb _),qap _ hn,qap _ hp,fzf,h1,if_false]
set_option maxRecDepth 100000 in
set_option maxHeartbeats 16000000 in
theorem q4f (c:Ci) (hg:c.good) (p:Pt) (hp:p.fit c) (W:Nat->Nat->Nat) (Q:Nat->Nat->Nat->Nat) (NF PF:V) (hNW:FnW NF W) (hPQ:FnQ PF Q) (hW3:q3p W) (g:Nat) :
  qan Tryz.prog gl0 115 [.ptr 900 g 0 0,p.v] [(900,.row g 7 [cyV c .nil NF PF])]
   (fun v h=>v = qfq (qj4 c (qmg c W Q p)) (qj5 c Q (qmg c W Q p))/\∃ g2,h = [(900,.row g 7 [cyV c (.ref 29 g2 0 c.n.length (some c.n.length)) NF PF]),(29,.row g2 1 (tU c.n.length (qmg c W Q p)))]):=by
 have hn1:=hg.n1;have l0:=qcd 0 c.n;have l1:=qcd 14 c.n;have ci:=qgi c (by omega);have cs:=qeg c (by omega);have hI0:∀ x ∈ ids 0 c.n 0,x < c.n.length:=fun x hx=>(qks hx).1;have hS0:∀ x ∈ ids 14 c.n 0,x < c.n.length:=fun x hx=>(qks hx).1;have hdff:=fun n (hn:n ∈ ids 14 c.n 0)=>qqr hg hn;have hIl:(ids 0 c.n 0).length = cnt 0 c.n:=rfl;have hSl:(ids 14 c.n 0).length = cnt 14 c.n:=rfl;have hpi:=hp.i;have hps:=hp.s;have hno:c.o.length≤16384:=(qk2 hg.sh).2.2.2;have hord3:=hg.ord;have hMS:qj5 c Q (qmg c W Q p) = (ids 14 c.n 0).map (q8d c Q (qmg c W Q p)):=rfl;obtain ⟨I0,hI00⟩:∃ I0,ini c p = I0:=⟨_,rfl⟩;have hI00':=hI00;have hini:∀ i,I0 i≤3:=fun i=>hI00 ▸ q49 hp i;rw [hMS];unfold ini at hI00';generalize ids 0 c.n 0 = I at ci hIl hI0 hI00';generalize ids 14 c.n 0 = S at cs hSl hS0 hI00' hdff ⊢;rw [<- hIl] at ci l0 hpi;rw [<- hSl] at cs l1 hps;obtain ⟨N,hN⟩:∃ N,c.n.length = N:=⟨_,rfl⟩;have hrd:=fun f (hf:∀ i,i < c.n.length->f i≤3) n (hn:n < c.n.length)=>qvb c hg Q NF PF (by obtain ⟨f,x,rfl,h,-⟩:=hNW; exact ⟨by simp [V.pure,jd6,h],_,_,_,rfl⟩) hPQ f hf n hn;have hev:=fun f (hf:∀ i,i < c.n.length->f i≤3) n (hn:n < c.n.length)=>q0x c hg Q NF PF (by obtain ⟨f,x,rfl,h,-⟩:=hNW; exact ⟨by simp [V.pure,jd6,h],_,_,_,rfl⟩) hPQ f hf n hn;have hor:=qpe c hg.wf;obtain ⟨f0,caps0,rfl,hcp0,hNW⟩:=hNW;obtain ⟨f1,caps1,rfl,hcp1,hPQ⟩:=hPQ;rw [hN] at hn1 hI0 hS0 l0 l1 hrd hev ⊢;refine jfx ja0 rfl ?_;simp [i115,x115,nop,cyV];intro gf1 gf2 gf3;generalize gf1 3 = g3;generalize gf2 4 = g4;rw [hN];refine ⟨by omega,?_⟩;generalize gf3 29 = g29;refine jfq cs (by simp) ?_;simp [nop];refine jfq ci (by simp) ?_;simp
 refine jft (X:=Nat) (fun i=>[(43,qab i),(42,qab I.length),(41,.sl (qak I) (some I.length)),(3,.ptr 3 g3 0 0),(4,.ptr 4 g4 0 0),(0,.ptr 900 g 0 0),(5,.sl (qak S) (some S.length))])
  (fun i=>[(29,.row g29 1 (tU N (put (I.take i) (p.i.take i) (fun _=>0)))),(900,.row g 7 [cyV c (.ref 29 g29 0 N (some N)) (.fn f0 [] caps0) (.fn f1 [] caps1)]),(3,.row g3 2 [p.v]),(4,.row g4 2 [.agg [.nil,.nil]])])
  (fun i=>i≤I.length) (fun i=>I.length - i) 0 (Nat.zero_le _) (by simp [qab]) (by simp [put,tU,qel,u8V]; try rfl) ?_
 intro i hi;simp [qab];refine jfr (fun hb=>?_) (fun hb=>?_)
 ·have hi':i < I.length:=jfy hb;have hip:i < p.i.length:=by omega
  have hw:=qbi i (by omega);obtain ⟨n,hn⟩:∃ n,I[i] = n:=⟨_,rfl⟩;have hnN:n < N:=hI0 n (by rw [<- hn]; exact jf3 hi');obtain ⟨x,hx⟩:∃ x,p.i[i] = x:=⟨_,rfl⟩;have hpt:=qh7 (f:=(fun _=>0)) i hpi.symm hi';rw [hn,hx] at hpt;have hst:=qn8 N (put (I.take i) (p.i.take i) (fun _=>0)) n x;rw [<- hpt] at hst;simp [hi',qav,hn];intro gm;simp [hip,hx,u8V,hnN,nop,qej,hst,hw];exact ⟨i + 1,hi',by simp,rfl,by omega⟩
 have hi':i = I.length:=by have:=jfz hb; omega
 subst hi';rw [List.take_length,jf2 (l:=p.i) (by omega)];generalize put I p.i (fun _=>0) = F0 at hI00' ⊢;simp
 refine jft (X:=Nat) (fun i=>[(62,qab i),(61,qab S.length),(60,.sl (qak S) (some S.length)),(3,.ptr 3 g3 0 0),(4,.ptr 4 g4 0 0),(0,.ptr 900 g 0 0),(5,.sl (qak S) (some S.length))])
  (fun i=>[(29,.row g29 1 (tU N (put (S.take i) (p.s.take i) F0))),(900,.row g 7 [cyV c (.ref 29 g29 0 N (some N)) (.fn f0 [] caps0) (.fn f1 [] caps1)]),(3,.row g3 2 [p.v]),(4,.row g4 2 [.agg [.nil,.nil]])])
  (fun i=>i≤S.length) (fun i=>S.length - i) 0 (Nat.zero_le _) (by simp [qab]) (by simp [put,tU,u8V]; try rfl) ?_
 intro i hi;simp [qab];refine jfr (fun hb=>?_) (fun hb=>?_)
 ·have hi':i < S.length:=jfy hb;have hip:i < p.s.length:=by omega
  have hw:=qbi i (by omega);obtain ⟨n,hn⟩:∃ n,S[i] = n:=⟨_,rfl⟩;have hnN:n < N:=hS0 n (by rw [<- hn]; exact jf3 hi');obtain ⟨x,hx⟩:∃ x,p.s[i] = x:=⟨_,rfl⟩;have hpt:=qh7 (f:=F0) i hps.symm hi';rw [hn,hx] at hpt;have hst:=qn8 N (put (S.take i) (p.s.take i) F0) n x;rw [<- hpt] at hst;simp [hi',qav,hn];intro gm;simp [hip,hx,u8V,hnN,nop,qej,hst,hw];exact ⟨i + 1,hi',by simp,rfl,by omega⟩
 have hi':i = S.length:=by have:=jfz hb; omega
 subst hi';rw [List.take_length,jf2 (l:=p.s) (by omega),hI00'];simp [nop];refine CallO.own 1000 hor (by simp) (by simp) ?_;rintro v h (⟨h1,-⟩ | ⟨-,gq,L,rfl,rfl,hR,hpw⟩) gf4
 ·exact absurd hg.chk h1
 have hord:Ord c L:=⟨hR,hpw (by omega)⟩;have hLl:L.length = c.n.length:=hR.len;have hL3:∀ m i,evl (evM c W Q) (fun _=>true) (L.take m) I0 i≤3:=fun m i=>qtm hW3 (L.take m) I0 hini i;have hLW:qmg c W Q p = evl (evM c W Q) (fun _=>true) L I0:=by unfold qmg; rw [hord.eq,hI00]
 have hLN:∀ x ∈ L,x < N:=fun x hx=>by rw [<- hN]; exact hR.lt x hx
 simp [upH,upS,Blk.rn,qaz (qa8 L)];generalize gf4 1000 + gq = g9;rw [hN] at hLl ⊢
 refine jft (X:=Nat) (fun i=>[(91,qab i),(90,qab N),(89,.ref 1000 g9 0 N (some N)),(12,.fn 156 [.ptr 900 g 0 0] []),(4,.ptr 4 g4 0 0),(0,.ptr 900 g 0 0),(5,.sl (qak S) (some S.length))])
  (fun i=>[(29,.row g29 1 (tU N (evl (evM c W Q) (fun _=>true) (L.take i) I0))),(1000,.row g9 1 (qak L)),(900,.row g 7 [cyV c (.ref 29 g29 0 N (some N)) (.fn f0 [] caps0) (.fn f1 [] caps1)]),(4,.row g4 2 [.agg [.nil,.nil]])])
  (fun i=>i≤N) (fun i=>N - i) 0 (Nat.zero_le _) (by simp [qab]) (by simp [evl]; try rfl) ?_
 intro i hi;have hF3:=hL3 i;obtain ⟨F,hF⟩:∃ F,evl (evM c W Q) (fun _=>true) (L.take i) I0 = F:=⟨_,rfl⟩;rw [hF] at hF3 ⊢;simp [qab];refine jfr (fun hb=>?_) (fun hb=>?_)
 ·have hi':i < N:=jfy hb;have hw:=qbi i (by omega);have hiL:i < L.length:=by omega
  obtain ⟨n,hn⟩:∃ n,L[i] = n:=⟨_,rfl⟩;have hnN:n < N:=hLN n (by rw [<- hn]; exact jf3 hiL);have hnc:n < c.n.length:=by omega
  obtain ⟨y,hy⟩:∃ y,c.n[n] = y:=⟨_,rfl⟩;have hyk:=hg.wf.k y (by rw [<- hy]; exact jf3 hnc);have hy15:=hg.k y (by rw [<- hy]; exact jf3 hnc);have hyz:=(qi4 ((qhd hg.sh).2.2.1 y (by rw [<- hy]; exact jf3 hnc))).1
  have hst:evl (evM c W Q) (fun _=>true) (L.take (i + 1)) I0 = qbs F n (evM c W Q n F):=by
   rw [List.take_succ_eq_append_getElem hiL,hn,qh1,hF,if_pos rfl]
  have hcb:qdc c n = decide (1≤y.k/\y.k≤13):=by unfold qdc qgc; rw [c.nd_get hnc,hy]
  have hevn:=hev F (fun i _=>hF3 i) n hnN;rw [c.nd_get hnc,hy] at hevn;obtain ⟨E,hE⟩:∃ E,qwo y.k.toNat (qmi c Q n F) = E:=⟨_,rfl⟩;have hE3:E≤3:=by rw [<- hE]; exact quh _ _
  rw [hE] at hevn;have hem:evM c W Q n F = W n (if qdc c n = true then E else F n):=by unfold evM; rw [c.nd_get hnc,hy,hE]
  rw [hem] at hst;simp only [u8V,qab] at hevn;by_cases hcomb:1≤y.k/\y.k≤13
  case' pos=>
   rw [hcb,decide_eq_true hcomb,if_pos rfl] at hst;have hx0:=hNW n E (by omega) hE3;obtain ⟨x,hx⟩:∃ x,W n E = x:=⟨_,rfl⟩;rw [hx] at hx0 hst;have hs1:=qn8 N F n E;have hs2:=qn8 N (qbs F n E) n x
   have hs3:qbs (qbs F n E) n x = qbs F n x:=by
    funext j;by_cases hj:j = n
    ·subst hj; simp
    ·rw [qaw _ _ hj,qaw _ _ hj,qaw _ _ hj]
   rw [hs3,<- hst] at hs2;simp only [u8V,qab] at hx0;simp [hi',hLl,qav,hn,hnc,hy,nop,show ¬ y.k = 0 by omega,show ¬ y.k = 14 by omega];intro gm
   first | refine ⟨_,_,_,.borrow 3 hevn ?_ rfl,?_⟩ | refine ⟨_,⟨_,_,.borrow 3 hevn ?_ rfl⟩,?_⟩ | refine ⟨_,_,⟨_,.borrow 3 hevn ?_ rfl⟩,?_⟩
   ·simp only [List.map_cons,List.map_nil];rw [qzg (c:=c) (g29:=g29) (F:=F) (NF:=.fn f0 [] caps0) (PF:=.fn f1 [] caps1) (by simp; try rfl) (by simp ) (by simp [V.pure,jd6,hcp0]) (by simp [V.pure,jd6,hcp1]),qgf _ _ rfl]
   simp [hnN,qej,u8V,hs1,nop];refine ⟨by simp [qe8,qgr,qwn,qoj],?_⟩;intro gm2
   first | refine ⟨_,_,_,.pure hx0 (by simp [jd6,V.pure,hcp0]),?_⟩ | refine ⟨_,⟨_,_,.pure hx0 (by simp [jd6,V.pure,hcp0])⟩,?_⟩ | refine ⟨_,_,⟨_,.pure hx0 (by simp [jd6,V.pure,hcp0])⟩,?_⟩
   simp [hnN,qej,u8V,hs2,hw];exact ⟨by simp [qe8,qgr,qwn,qoj],i + 1,hi',by simp,rfl,by omega⟩
  case' neg=>
   rw [hcb,decide_eq_false hcomb,if_neg (by simp)] at hst;have hx0:=hNW n (F n) (by omega) (hF3 n);obtain ⟨fv,hfv⟩:∃ fv,F n = fv:=⟨_,rfl⟩;rw [hfv] at hx0 hst;obtain ⟨x,hx⟩:∃ x,W n fv = x:=⟨_,rfl⟩;rw [hx] at hx0 hst;have hs2:=qn8 N F n x;rw [<- hst] at hs2;simp only [u8V,qab] at hx0;have hk2:y.k = 0∨y.k = 14:=by have:=hyk.1; omega
   rcases hk2 with hk2 | hk2
   all_goals
    simp [hi',hLl,qav,hn,hnc,hy,nop,hk2,hnN,qej,hfv,u8V];intro gm2
    first | refine ⟨_,_,_,.pure hx0 (by simp [jd6,V.pure,hcp0]),?_⟩ | refine ⟨_,⟨_,_,.pure hx0 (by simp [jd6,V.pure,hcp0])⟩,?_⟩ | refine ⟨_,_,⟨_,.pure hx0 (by simp [jd6,V.pure,hcp0])⟩,?_⟩
    simp [hnN,qej,u8V,hs2,hw];exact ⟨by simp [qe8,qgr,qwn,qoj],i + 1,hi',by simp,rfl,by omega⟩
 have hi':i = N:=by have:=jfz hb; omega
 subst hi';rw [jf2 (by omega),<- hLW] at hF;rw [hF];obtain ⟨G,hG⟩:∃ G:Int->Nat,G = fun n=>F n.toNat:=⟨_,rfl⟩;have hO:qj4 c F = c.o.map G:=by rw [hG]; rfl
 obtain ⟨T,hT⟩:∃ T:Nat->Nat,T = q8d c Q F:=⟨_,rfl⟩;rw [hO,<- hT];simp [nop];intro gf16;generalize gf16 16 = g16;have hNPc:(V.fn f0 [] caps0).pure = true/\(V.fn f1 [] caps1).pure = true:=⟨by simp [V.pure,jd6,hcp0],by simp [V.pure,jd6,hcp1]⟩
 refine jft (X:=Nat × Option (Nat × List V)) (fun z=>[(145,qab z.1),(144,qab c.o.length),(143,.sl (qde c.o) none),(16,.ptr 16 g16 0 0),(4,.ptr 4 g4 0 0),(0,.ptr 900 g 0 0),(5,.sl (qak S) (some S.length))])
  (fun z=>[(16,.row g16 2 [.agg [qbt 159 z.2,.nil]]),(29,.row g29 1 (tU i F)),(900,.row g 7 [cyV c (.ref 29 g29 0 i (some i)) (.fn f0 [] caps0) (.fn f1 [] caps1)]),(4,.row g4 2 [.agg [.nil,.nil]])] ++ qbm 159 1 z.2)
  (fun z=>z.1≤c.o.length/\(z.2 = none↔z.1 = 0)/\qbe z.2 = ((c.o.take z.1).map G).map u8V) (fun z=>c.o.length - z.1) (0,none) ⟨by simp,by simp,by simp [qbe]⟩ (by simp [qab]) (by simp [qbt,qbm]) ?_
 rintro ⟨m,acc⟩ ⟨q1,q2,q3⟩;dsimp only at q1 q2 q3 ⊢;simp [qab];refine jfr (fun hb=>?_) (fun hb=>?_)
 ·have hm:m < c.o.length:=jfy hb;have hw:=qbi m (by omega);obtain ⟨y,hy⟩:∃ y,c.o[m] = y:=⟨_,rfl⟩;obtain ⟨y0,y1⟩:=hg.o (x:=y) (by rw [<- hy]; exact jf3 hm);obtain ⟨n,rfl⟩:=Int.eq_ofNat_of_zero_le y0;have hnN:n < i:=by omega
  have hGn:G (n:Int) = F n:=by rw [hG]; rfl
  obtain ⟨x,hx⟩:∃ x,F n = x:=⟨_,rfl⟩;have hnx:=congrArg (List.map u8V) (qcr G hm hy);rw [List.map_append,<- q3,hGn,hx] at hnx;simp only [List.map_cons,List.map_nil,u8V] at hnx;rcases acc with _ | ⟨ga,r⟩
  ·simp [qbt,qbm,hm,qbq,hy,nop];intro gm;simp [hnN,qej,hx,u8V,hw];exact ⟨rfl,m + 1,some (gm 159,[.int .u8 (x:Int)]),⟨hm,by simp,by simpa [qbe,u8V] using hnx.symm⟩,by simp,by simp,by omega⟩
  ·simp only [qbe] at q3 hnx;simp [qbt,qbm,hm,qbq,hy,nop];intro gm;simp [hnN,qej,hx,u8V,hw];refine ⟨by have:=congrArg List.length q3; simp at this; omega,rfl,m + 1,some (ga + 1,r ++ [.int .u8 (x:Int)]),⟨hm,by simp,by simpa [qbe,u8V] using hnx.symm⟩,by simp,by simp,by omega⟩
 have hm:m = c.o.length:=by have:=jfz hb; omega
 subst hm;rw [List.take_length] at q3;simp
 refine jem (X:=Nat × Option (Nat × List V)) (fun z=>[(164,qab z.1),(163,qab S.length),(162,.sl (qak S) (some S.length)),(16,.ptr 16 g16 0 0),(4,.ptr 4 g4 0 0),(0,.ptr 900 g 0 0)])
  (fun z=>[(16,.row g16 2 [.agg [qbt 159 acc,qbt 179 z.2]]),(29,.row g29 1 (tU i F)),(900,.row g 7 [cyV c (.ref 29 g29 0 i (some i)) (.fn f0 [] caps0) (.fn f1 [] caps1)]),(4,.row g4 2 [.agg [.nil,.nil]])] ++ (qbm 159 1 acc ++ qbm 179 1 z.2))
  (fun z=>z.1≤S.length/\(z.2 = none↔z.1 = 0)/\qbe z.2 = ((S.take z.1).map T).map u8V) (fun z=>S.length - z.1) (.done ⟨(0,none),⟨by simp,by simp,by simp [qbe]⟩,by simp [qab],?_⟩) ?_
 ·rcases acc with _ | ⟨ga,r⟩ <;> simp [qbt,qbm]
 rintro ⟨m,acc2⟩ ⟨p1,p2,p3⟩;dsimp only at p1 p2 p3 ⊢;simp [qab];refine jfr (fun hb2=>?_) (fun hb2=>?_)
 ·have hm:m < S.length:=jfy hb2;have hw:=qbi m (by omega);obtain ⟨n,hn⟩:∃ n,S[m] = n:=⟨_,rfl⟩;obtain ⟨hnc,x,hxi,x0,x1,-⟩:=hdff n (by rw [<- hn]; exact jf3 hm);have hnN:n < i:=by omega
  have hrdn:=hrd F (fun j _=>hF3 j) n hnN
  obtain ⟨q,hq⟩:∃ q,qmi c Q n F = [q]:=by
   have:=ql0 c Q n F;rw [c.nd_get hnc,hxi] at this
   match hR:qmi c Q n F,this with
   | [q],_=>exact ⟨q,rfl⟩
  rw [hq] at hrdn;have hTn:T n = if q = 3 then 2 else q:=by rw [hT]; simp only [q8d]; rw [hq]; rfl
  have hnx:=congrArg (List.map u8V) (qcr T hm hn);rw [List.map_append,<- p3,hTn] at hnx;simp only [List.map_cons,List.map_nil,u8V] at hnx hrdn
  have hfz:∀ h:Hp,lk h 900 = some (.row g 7 [cyV c (.ref 29 g29 0 i (some i)) (.fn f0 [] caps0) (.fn f1 [] caps1)])->lk h 29 = some (.row g29 1 (tU i F))->[V.ptr 900 g 0 0,qab n].map (frz h 3) = [.iptr (cyV c (.sl (tU i F) (some i)) (.fn f0 [] caps0) (.fn f1 [] caps1)) 0,qab n]:=fun h h1 h2=>by
   simp only [List.map_cons,List.map_nil];rw [qzg h1 h2 hNPc.1 hNPc.2,qgf _ _ rfl]
  simp only [qab] at hfz hrdn;rcases acc2 with _ | ⟨gb,rb⟩ <;> rcases acc with _ | ⟨ga,ra⟩
  all_goals
   simp [qbt,qbm,hm,qav,hn];refine je1 3 hrdn (hfz _ (by simp) (by simp)) ?_;simp;refine jfr (fun h3=>?_) (fun h3=>?_)
  ·have h4:q = 3:=by have:=jfy h3; omega
   rw [if_pos h4] at hnx;simp
   (intro ga1 gb1; exact .done ⟨m + 1,some (gb1 179,[.int .u8 2]),⟨hm,by simp,by simpa [qbe,u8V] using hnx.symm⟩,by simp [hw],by simp,by omega⟩)
  ·have h4:¬ q = 3:=by have:=jfz h3; omega
   rw [if_neg h4] at hnx;simp
   (intro ga1 gb1; exact .done ⟨m + 1,some (gb1 179,[.int .u8 (q:Int)]),⟨hm,by simp,by simpa [qbe,u8V] using hnx.symm⟩,by simp [hw],by simp,by omega⟩)
  ·have h4:q = 3:=by have:=jfy h3; omega
   rw [if_pos h4] at hnx;simp
   (intro ga1 gb1; exact .done ⟨m + 1,some (gb1 179,[.int .u8 2]),⟨hm,by simp,by simpa [qbe,u8V] using hnx.symm⟩,by simp [hw],by simp,by omega⟩)
  ·have h4:¬ q = 3:=by have:=jfz h3; omega
   rw [if_neg h4] at hnx;simp
   (intro ga1 gb1; exact .done ⟨m + 1,some (gb1 179,[.int .u8 (q:Int)]),⟨hm,by simp,by simpa [qbe,u8V] using hnx.symm⟩,by simp [hw],by simp,by omega⟩)
  ·have h4:q = 3:=by have:=jfy h3; omega
   rw [if_pos h4] at hnx;simp
   (intro ga1 gb1; exact ⟨by have:=congrArg List.length p3; simp [qbe] at this; omega,.done ⟨m + 1,some (gb1 179,rb ++ [.int .u8 2]),⟨hm,by simp,by simpa [qbe,u8V] using hnx.symm⟩,by simp [hw],by simp,by omega⟩⟩)
  ·have h4:¬ q = 3:=by have:=jfz h3; omega
   rw [if_neg h4] at hnx;simp
   (intro ga1 gb1; exact ⟨by have:=congrArg List.length p3; simp [qbe] at this; omega,.done ⟨m + 1,some (gb1 179,rb ++ [.int .u8 (q:Int)]),⟨hm,by simp,by simpa [qbe,u8V] using hnx.symm⟩,by simp [hw],by simp,by omega⟩⟩)
  ·have h4:q = 3:=by have:=jfy h3; omega
   rw [if_pos h4] at hnx;simp
   (intro ga1 gb1; exact ⟨by have:=congrArg List.length p3; simp [qbe] at this; omega,.done ⟨m + 1,some (gb1 179,rb ++ [.int .u8 2]),⟨hm,by simp,by simpa [qbe,u8V] using hnx.symm⟩,by simp [hw],by simp,by omega⟩⟩)
  ·have h4:¬ q = 3:=by have:=jfz h3; omega
   rw [if_neg h4] at hnx;simp
   (intro ga1 gb1; exact ⟨by have:=congrArg List.length p3; simp [qbe] at this; omega,.done ⟨m + 1,some (gb1 179,rb ++ [.int .u8 (q:Int)]),⟨hm,by simp,by simpa [qbe,u8V] using hnx.symm⟩,by simp [hw],by simp,by omega⟩⟩)
 have hm:m = S.length:=by have:=jfz hb2; omega
 subst hm;rw [List.take_length] at p3;have hcO:=qkg (c.o.map G) none (by simp; omega);have hcS:=qkg (S.map T) none (by simp; omega);have hOl:(c.o.map G).length = c.o.length:=by simp
 generalize c.o.map G = O at q3 hcO hOl ⊢;generalize S.map T = U at p3 hcS ⊢;have htO:List.take O.length (O.map u8V) = O.map u8V:=jf2 (by simp);have htU:List.take U.length (U.map u8V) = U.map u8V:=jf2 (by simp);have hfz1:=fun (es:List V) (g':Nat)=>q43 (b:=159) (g:=g') (g29:=g29) (N:=i) (es:=es) (c:=c) (cap:=some i) (by simp) hNPc.1 hNPc.2;have hfz2:=fun (es:List V) (g':Nat)=>q43 (b:=179) (g:=g') (g29:=g29) (N:=i) (es:=es) (c:=c) (cap:=some i) (by simp) hNPc.1 hNPc.2;rcases acc with _ | ⟨ga,ra⟩ <;> rcases acc2 with _ | ⟨gb,rb⟩
 ·have hO:O = []:=by simpa [qbe] using q3.symm
  subst hO;have hU:U = []:=by simpa [qbe] using p3.symm
  subst hU;simp [qbt,qbm];refine .mk [(16,.ptr 16 g16 0 0),(4,.ptr 4 g4 0 0)] [(16,.row g16 2 [.agg [.nil,.nil]]),(29,.row g29 1 (tU i F)),(900,.row g 7 [cyV c (.ref 29 g29 0 i (some i)) (.fn f0 [] caps0) (.fn f1 [] caps1)]),(4,.row g4 2 [.agg [.nil,.nil]])] (by simp) (by simp) (.done ?_);simp;intro gm
  first | refine ⟨_,_,_,.pure qbl (by simp),?_⟩ | refine ⟨_,⟨_,_,.pure qbl (by simp)⟩,?_⟩ | refine ⟨_,_,⟨_,.pure qbl (by simp)⟩,?_⟩
  simp
  first | refine ⟨_,_,_,.pure qbl (by simp),?_⟩ | refine ⟨_,⟨_,_,.pure qbl (by simp)⟩,?_⟩ | refine ⟨_,_,⟨_,.pure qbl (by simp)⟩,?_⟩
  simp [qfq];refine ⟨rfl,.done ?_⟩;simp
  first | exact ⟨[(900,.row g 7 [cyV c (.ref 29 g29 0 i (some i)) (.fn f0 [] caps0) (.fn f1 [] caps1)]),(29,.row g29 1 (tU i F))],⟨by simp; try rfl,g29,rfl⟩⟩ | exact ⟨[(900,.row g 7 [cyV c (.ref 29 g29 0 i (some i)) (.fn f0 [] caps0) (.fn f1 [] caps1)]),(29,.row g29 1 (tU i F))],by simp; try rfl,g29,rfl⟩
 ·have hO:O = []:=by simpa [qbe] using q3.symm
  subst hO;simp only [qbe] at p3;subst p3;simp [qbt,qbm];refine .mk [(16,.ptr 16 g16 0 0),(4,.ptr 4 g4 0 0)] [(16,.row g16 2 [.agg [.nil,.ref 179 gb 0 U.length none]]),(29,.row g29 1 (tU i F)),(900,.row g 7 [cyV c (.ref 29 g29 0 i (some i)) (.fn f0 [] caps0) (.fn f1 [] caps1)]),(4,.row g4 2 [.agg [.nil,.nil]]),(179,.row gb 1 (U.map u8V))] (by simp) (by simp) (.frz (g:=gb) (sz:=1) (es:=U.map u8V) 179 (by simp) (qaj U) (.done ?_));simp [fzF,fzH,fzV,fzf,fzp,Blk.fz,htU,hfz2,qdp (qcf i F)];intro gm
  first | refine ⟨_,_,_,.pure qbl (by simp),?_⟩ | refine ⟨_,⟨_,_,.pure qbl (by simp)⟩,?_⟩ | refine ⟨_,_,⟨_,.pure qbl (by simp)⟩,?_⟩
  simp
  first | refine ⟨_,_,_,.pure hcS (by simp),?_⟩ | refine ⟨_,⟨_,_,.pure hcS (by simp)⟩,?_⟩ | refine ⟨_,_,⟨_,.pure hcS (by simp)⟩,?_⟩
  simp [qfq];refine ⟨rfl,.done ?_⟩;simp
  first | exact ⟨[(900,.row g 7 [cyV c (.ref 29 g29 0 i (some i)) (.fn f0 [] caps0) (.fn f1 [] caps1)]),(29,.row g29 1 (tU i F))],⟨by simp; try rfl,g29,rfl⟩⟩ | exact ⟨[(900,.row g 7 [cyV c (.ref 29 g29 0 i (some i)) (.fn f0 [] caps0) (.fn f1 [] caps1)]),(29,.row g29 1 (tU i F))],by simp; try rfl,g29,rfl⟩
 ·simp only [qbe] at q3;subst q3;have hU:U = []:=by simpa [qbe] using p3.symm
  subst hU;simp [qbt,qbm];refine .mk [(16,.ptr 16 g16 0 0),(4,.ptr 4 g4 0 0)] [(16,.row g16 2 [.agg [.ref 159 ga 0 O.length none,.nil]]),(29,.row g29 1 (tU i F)),(900,.row g 7 [cyV c (.ref 29 g29 0 i (some i)) (.fn f0 [] caps0) (.fn f1 [] caps1)]),(4,.row g4 2 [.agg [.nil,.nil]]),(159,.row ga 1 (O.map u8V))] (by simp) (by simp) (.frz (g:=ga) (sz:=1) (es:=O.map u8V) 159 (by simp) (qaj O) (.done ?_));simp [fzF,fzH,fzV,fzf,fzp,Blk.fz,htO,hfz1,qdp (qcf i F)];intro gm
  first | refine ⟨_,_,_,.pure hcO (by simp),?_⟩ | refine ⟨_,⟨_,_,.pure hcO (by simp)⟩,?_⟩ | refine ⟨_,_,⟨_,.pure hcO (by simp)⟩,?_⟩
  simp
  first | refine ⟨_,_,_,.pure qbl (by simp),?_⟩ | refine ⟨_,⟨_,_,.pure qbl (by simp)⟩,?_⟩ | refine ⟨_,_,⟨_,.pure qbl (by simp)⟩,?_⟩
  simp [qfq];refine ⟨rfl,.done ?_⟩;simp
  first | exact ⟨[(900,.row g 7 [cyV c (.ref 29 g29 0 i (some i)) (.fn f0 [] caps0) (.fn f1 [] caps1)]),(29,.row g29 1 (tU i F))],⟨by simp; try rfl,g29,rfl⟩⟩ | exact ⟨[(900,.row g 7 [cyV c (.ref 29 g29 0 i (some i)) (.fn f0 [] caps0) (.fn f1 [] caps1)]),(29,.row g29 1 (tU i F))],by simp; try rfl,g29,rfl⟩
 ·simp only [qbe] at q3;subst q3;simp only [qbe] at p3;subst p3;simp [qbt,qbm];refine .mk [(16,.ptr 16 g16 0 0),(4,.ptr 4 g4 0 0)] [(16,.row g16 2 [.agg [.ref 159 ga 0 O.length none,.ref 179 gb 0 U.length none]]),(29,.row g29 1 (tU i F)),(900,.row g 7 [cyV c (.ref 29 g29 0 i (some i)) (.fn f0 [] caps0) (.fn f1 [] caps1)]),(4,.row g4 2 [.agg [.nil,.nil]]),(159,.row ga 1 (O.map u8V)),(179,.row gb 1 (U.map u8V))] (by simp) (by simp) (.frz (g:=ga) (sz:=1) (es:=O.map u8V) 159 (by simp) (qaj O) (.frz (g:=gb) (sz:=1) (es:=U.map u8V) 179 (by simp [fzH,Blk.fz,qdp (qaj U)]) (qaj U) (.done ?_)));simp [fzF,fzH,fzV,fzf,fzp,Blk.fz,htO,htU,qae,hfz1,hfz2,qdp (qcf i F)];intro gm
  first | refine ⟨_,_,_,.pure hcO (by simp),?_⟩ | refine ⟨_,⟨_,_,.pure hcO (by simp)⟩,?_⟩ | refine ⟨_,_,⟨_,.pure hcO (by simp)⟩,?_⟩
  simp
  first | refine ⟨_,_,_,.pure hcS (by simp),?_⟩ | refine ⟨_,⟨_,_,.pure hcS (by simp)⟩,?_⟩ | refine ⟨_,_,⟨_,.pure hcS (by simp)⟩,?_⟩
  simp [qfq];refine ⟨rfl,.done ?_⟩;simp
  first | exact ⟨[(900,.row g 7 [cyV c (.ref 29 g29 0 i (some i)) (.fn f0 [] caps0) (.fn f1 [] caps1)]),(29,.row g29 1 (tU i F))],⟨by simp; try rfl,g29,rfl⟩⟩ | exact ⟨[(900,.row g 7 [cyV c (.ref 29 g29 0 i (some i)) (.fn f0 [] caps0) (.fn f1 [] caps1)]),(29,.row g29 1 (tU i F))],by simp; try rfl,g29,rfl⟩
end
section
open Go
theorem q12:FnW (.fn 188 [] []) idW:=⟨188,[],rfl,rfl,fun n v _ _=>by
 refine jfu 2 jb3 rfl ?_;simp [i188,x188,u8V,idW]⟩
theorem q1x:FnQ (.fn 151 [] []) idQ:=⟨151,[],rfl,rfl,fun n k v _ _ _=>by
 refine jfu 2 jbk rfl ?_;simp [i151,x151,u8V,idQ]⟩
def FnV (F:V) (G:Nat->Nat):Prop:=∃ f caps,F = .fn f [] caps/\jd6 caps = true/\∀ v,v≤3->qac Tryz.prog gl0 f (u8V v :: caps) (u8V (G v))
def atW (f:Ft) (G:Nat->Nat):Nat->Nat->Nat:=fun n v=>if f.q = 0/\n = f.n then G v else v
def atQ (f:Ft) (G:Nat->Nat):Nat->Nat->Nat->Nat:=fun n k v=>if f.q ≠ 0/\n = f.n/\k + 1 = f.q then G v else v
theorem q9n (f:Ft) (h0:f.q = 0) (F:V) (G:Nat->Nat) (hF:FnV F G):FnW (.fn 189 [] [.iptr f.ln 0,.iptr F 0]) (atW f G):=by
 obtain ⟨g,caps,rfl,hcp,hG⟩:=hF;refine ⟨189,_,rfl,by simp [jd6,V.pure,hcp],fun n v hn hv=>?_⟩;have hGv:=hG v hv;simp only [u8V] at hGv;unfold atW;by_cases hc:n = f.n
 ·rw [if_pos ⟨h0,hc⟩];refine jfu 2 q51 rfl ?_;simp [jab,jd2,qab,u8V,hc];refine jfq hGv (by simp [jd6,V.pure,hcp]) ?_;simp
 ·rw [if_neg fun h=>hc h.2];refine jfu 2 q51 rfl ?_;simp [jab,jd2,qab,u8V,hc]
theorem q9o (f:Ft) (h0:f.q ≠ 0) (F:V) (G:Nat->Nat) (hF:FnV F G):FnQ (.fn 190 [] [.iptr f.ln 0,.iptr F 0]) (atQ f G):=by
 obtain ⟨g,caps,rfl,hcp,hG⟩:=hF;refine ⟨190,_,rfl,by simp [jd6,V.pure,hcp],fun n k v hn hk hv=>?_⟩;have hGv:=hG v hv;simp only [u8V] at hGv;have hpin:((k:Int) = f.pin)↔k + 1 = f.q:=by unfold Ft.pin; omega
 unfold atQ;by_cases hc:n = f.n
 ·by_cases hk2:k + 1 = f.q
  ·rw [if_pos ⟨h0,hc,hk2⟩];refine jfu 2 q1n rfl ?_;simp [q7y,q9f,qab,u8V,hc,hpin,hk2];refine jfq hGv (by simp [jd6,V.pure,hcp]) ?_;simp
  ·rw [if_neg fun h=>hk2 h.2.2];refine jfu 2 q1n rfl ?_;simp [q7y,q9f,qab,u8V,hc,hpin,hk2]
 ·rw [if_neg fun h=>hc h.2.1];refine jfu 2 q1n rfl ?_;simp [q7y,q9f,qab,u8V,hc]
def AtK (c:Ci) (f:Ft) (F:V) (v:V) (h:Hp):Prop:=∃ g,v = .ptr 0 g 0 0/\
 h = [(0,.row g 7 [cyV c .nil (if f.q = 0 then .fn 189 [] [.iptr f.ln 0,.iptr F 0] else .fn 188 [] []) (if f.q = 0 then .fn 151 [] [] else .fn 190 [] [.iptr f.ln 0,.iptr F 0])])]
theorem q9s (c:Ci) (f:Ft) (F:V) (G:Nat->Nat) (hF:FnV F G):qb5 Tryz.prog gl0 153 [c.v,f.ln,F] (AtK c f F):=by
 obtain ⟨g,caps,rfl,hcp,hG⟩:=hF;have hFp:(V.fn g [] caps).pure = true:=by simp [V.pure,jd6,hcp]
 have hmc:=qae (f:=fun _ _ _ _ _=>V.undef) (p:=fun _ _ _ _=>V.undef) caps hcp;by_cases h0:f.q = 0
 ·have h1:f.pin < 0:=by unfold Ft.pin; omega
  refine jfw q5y rfl ?_;simp [q98,jdz,h1,nop];intro gf1 gf2 gf3 gf4;refine .frz (g:=gf3 5) (sz:=1) (es:=[V.fn g [] caps]) 5 (by simp) (by simp only [jd6,hFp,Bool.and_self]) (.frz (g:=gf2 4) (sz:=2) (es:=[f.ln]) 4 (by simp [fzH,Blk.fz,qll (qha f)]) (by simp) ?_);simp [fzF,fzV,V.mapR,jd8,fzp,fzH,Blk.fz,qap _ (qb2 c),qap _ (qha f),qae,hcp];refine .move 10 0 _ (by simp) (by simp; rfl) fun g'=>.done ?_;simp [qcy _ (qha f),qa0 _ hcp,qa0 _ (qfk _),qa0 _ (qfd _),qa0 _ (qgn _),qa0 _ (qeb _)];exact ⟨[(0,.row g' 7 [cyV c .nil (.fn 189 [] [.iptr f.ln 0,.iptr (.fn g [] caps) 0]) (.fn 151 [] [])])],by simp; rfl,g',rfl,by rw [if_pos h0,if_pos h0]⟩
 ·have h1:¬ f.pin < 0:=by unfold Ft.pin; omega
  refine jfw q5y rfl ?_;simp [q98,jdz,h1,nop];intro gf1 gf2 gf3 gf4;refine .frz (g:=gf3 5) (sz:=1) (es:=[V.fn g [] caps]) 5 (by simp) (by simp only [jd6,hFp,Bool.and_self]) (.frz (g:=gf2 4) (sz:=2) (es:=[f.ln]) 4 (by simp [fzH,Blk.fz,qll (qha f)]) (by simp) ?_);simp [fzF,fzV,V.mapR,jd8,fzp,fzH,Blk.fz,qap _ (qb2 c),qap _ (qha f),qae,hcp];refine .move 10 0 _ (by simp) (by simp; rfl) fun g'=>.done ?_;simp [qcy _ (qha f),qa0 _ hcp,qa0 _ (qfk _),qa0 _ (qfd _),qa0 _ (qgn _),qa0 _ (qeb _)];exact ⟨[(0,.row g' 7 [cyV c .nil (.fn 188 [] []) (.fn 190 [] [.iptr f.ln 0,.iptr (.fn g [] caps) 0])])],by simp; rfl,g',rfl,by rw [if_neg h0,if_neg h0]⟩
theorem q9p (f:Ft) (F:V) (G:Nat->Nat) (hF:FnV F G):FnW (if f.q = 0 then .fn 189 [] [.iptr f.ln 0,.iptr F 0] else .fn 188 [] []) (atW f G):=by
 by_cases h0:f.q = 0
 ·rw [if_pos h0]; exact q9n f h0 F G hF
 ·rw [if_neg h0];have e:atW f G = idW:=by funext n v; unfold atW; rw [if_neg fun h=>h0 h.1]; rfl
  rw [e]; exact q12
theorem q9q (f:Ft) (F:V) (G:Nat->Nat) (hF:FnV F G):FnQ (if f.q = 0 then .fn 151 [] [] else .fn 190 [] [.iptr f.ln 0,.iptr F 0]) (atQ f G):=by
 by_cases h0:f.q = 0
 ·rw [if_pos h0];have e:atQ f G = idQ:=by funext n k v; unfold atQ; rw [if_neg fun h=>h.1 h0]; rfl
  rw [e]; exact q1x
 ·rw [if_neg h0]; exact q9o f h0 F G hF
end
end Go.Proofs.YtpaopccohkldlaaGreatDoor
