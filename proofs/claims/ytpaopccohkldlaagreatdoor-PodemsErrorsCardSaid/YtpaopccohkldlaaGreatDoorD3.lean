/- Lemmas. Conditions: none. -/
import Derived.Test.YtpaopccohkldlaaGreatDoorC3
import Derived.Test.YtpaopccohkldlaaGreatDoorNet17
import Derived.Test.YtpaopccohkldlaaGreatDoorI1
set_option linter.all false
namespace Go.Proofs.YtpaopccohkldlaaGreatDoor
section
open Go
theorem qot (l:List (Nat × Nat)):jm8 (l.map nC) = true:=pureL_map (fun _=>rfl) l
theorem q8k (l:List (Nat × Nat)):jne (l.map nC) = true:=jos (fun _=>rfl) l
def q2u (p:Nat × Nat):Int × Int:=(p.1,p.2)
theorem q7z (l:List (Nat × Nat)):(l.map q2u).map cV = l.map nC:=by rw [List.map_map]; rfl
theorem q7y {l:List (Nat × Nat)} (h:∀ p ∈ l,p.1≤nev/\p.2≤nev):(l.map q2u).map qrv = l:=by
 rw [List.map_map]
 conv=>rhs; rw [<- List.map_id l]
 refine List.map_congr_left fun p hp=>?_;have:=h p hp;simp only [Function.comp,q2u,qrv,id];refine Prod.ext ?_ ?_
 ·show q1m _ = _; unfold q1m; simp only [nev] at *; omega
 ·show q1m _ = _; unfold q1m; simp only [nev] at *; omega
def qsn (f:Nat->Nat × Nat) (y:Nd):List (Nat × Nat):=y.i.map fun j=>f j.toNat
def quf (f:Nat->Nat × Nat) (y:Nd) (i:Nat):List V:=tab y.i.length fun j=>if j < i then nC (f (y.i.getD j 0).toNat) else nC (0,0)
theorem qug (f:Nat->Nat × Nat) (y:Nd) (i:Nat):(quf f y i).length = y.i.length:=by simp [quf]
theorem q22 (f:Nat->Nat × Nat) (y:Nd) (i:Nat) (hi:i < y.i.length):(quf f y i).set i (nC (f y.i[i].toNat)) = quf f y (i + 1):=by
 unfold quf;rw [qeu];congr 1;funext j;by_cases h:j = i
 ·subst h;rw [qa1,if_pos (by omega),jo9,jpd hi]; rfl
 ·rw [qao _ _ h];by_cases h2:j < i
  ·rw [if_pos h2,if_pos (by omega)]
  ·rw [if_neg h2,if_neg (by omega)]
theorem q20 (f:Nat->Nat × Nat) (y:Nd):quf f y y.i.length = (qsn f y).map nC:=by
 unfold quf qsn;refine List.ext_getElem (by simp) fun j h1 h2=>?_;have hj:j < y.i.length:=by simpa using h1
 rw [qbx,if_pos hj];simp [jo9,hj]
theorem q71 (f:Nat->Nat × Nat) (y:Nd) (i:Nat) (h:i < (quf f y i).length):(quf f y i)[i] = nC (0,0):=by simp only [quf]; rw [qbx,if_neg (Nat.lt_irrefl i)]
theorem q21 (f:Nat->Nat × Nat) (y:Nd):List.replicate y.i.length (V.agg [.int .i64 0,.int .i64 0]) = quf f y 0:=by
 refine List.ext_getElem (by simp [quf]) fun j h1 h2=>?_;simp only [quf];rw [qbx,List.getElem_replicate];rfl
def qcv (N:Nat) (f:Nat->Nat × Nat):List V:=tab N fun i=>nC (f i)
theorem qck (N:Nat) (f:Nat->Nat × Nat):(qcv N f).length = N:=by simp [qcv]
theorem qd5 (N:Nat) (f:Nat->Nat × Nat):jm8 (qcv N f) = true:=qic fun _=>rfl
theorem qzk (N:Nat) (f:Nat->Nat × Nat):jne (qcv N f) = true:=by
 rw [jnm]; intro v hv; unfold qcv tab at hv;obtain ⟨a,_,rfl⟩:=List.mem_map.1 hv; rfl
theorem qov (N:Nat) (f:Nat->Nat × Nat) (i:Nat) (h:i < (qcv N f).length):(qcv N f)[i] = nC (f i):=by simp only [qcv]; rw [qbx]
theorem q0m (y:Nd) (N:Nat) (f:Nat->Nat × Nat) (cap:Option Nat) (hl:y.i.length < 1000000) (hv:∀ j ∈ y.i,0≤j/\j < N):qbl Tryz.prog gl0 192 [y.v,.sl (qcv N f) cap] (qwv 2 ((qsn f y).map nC) (some y.i.length)):=by
 have hyp:y.v.pure = true:=q8o y;refine jo5 jkh rfl ?_;simp [i192,x192,Nd.v];intro ga gb;refine ⟨by omega,?_⟩;generalize gb 11 = g11
 refine jo2 (X:=Nat) (fun i=>[(15,qaa i),(14,qaa y.i.length),(13,.sl (qc8 y.i) none),(5,.ref 11 g11 0 y.i.length (some y.i.length)),(1,.sl (qcv N f) cap)])
  (fun i=>[(11,.row g11 2 (quf f y i))]) (fun i=>i≤y.i.length) (fun i=>y.i.length - i) 0 (by simp) (by simp [qaa]) (by simp [q21 f]) ?_
 rintro i q1;simp [qaa];refine jo0 (fun hb=>?_) (fun hb=>?_)
 ·have hi:=jo7 hb;have hw:=qa5 i (by omega);obtain ⟨j,hj⟩:∃ j,y.i[i] = j:=⟨_,rfl⟩;have hjv:=hv j (hj ▸ jpc hi);obtain ⟨q,hq⟩:∃ q:Nat,j = q:=⟨j.toNat,by omega⟩;have h1:=q22 f y i hi;rw [hj,hq] at h1;have h2:=q71 f y i (by rw [qug]; exact hi);have hqN:q < N:=by omega
  have h3:=qov N f q (by rw [qck]; exact hqN);have h4:(qc8 y.i)[i]'(by simpa using hi) = .int .i64 (q:Int):=by simp [qc8,hj,hq]
  have e1:(f q).1 = (f (q:Int).toNat).1:=rfl;simp only [Int.toNat_natCast] at h1;simp [hi,h4,qug,qck,hqN,h3,h2,nC,qaa,hw];simp only [nC,qaa] at h1;exact ⟨i + 1,hi,by omega,by rw [h1],by omega⟩
 ·have hi:i = y.i.length:=by have:=jo8 hb; omega
  subst hi;have hall:=q20 f y;have hl2:y.i.length = ((qsn f y).map nC).length:=by simp [qsn]
  rw [hall];simp;have hp:=qot (qsn f y);generalize (qsn f y).map nC = R at hl2 hp;refine .move 11 0 _ (by simp) (by simp; rfl) fun g=>.done ?_;simp;exact ⟨[(0,.row g 2 R)],by simp [Blk.rn,qae hp],g,by simp [hl2],rfl⟩
end
section
open Go
theorem jex {k:Nat} {p:Nat × Nat} (h:p.1≤nev/\p.2≤nev):(swC k p).1≤nev/\(swC k p).2≤nev:=by
 unfold swC; split
 ·exact ⟨h.2,h.1⟩
 ·exact h
theorem q2p (k:Nat) (ts:List (Nat × Nat)):(qju k ts).1≤nev/\(qju k ts).2≤nev:=by
 have hn:nev = 1073741824:=rfl;unfold qju
 (repeat' split) <;> first | exact ⟨qln _ _,qln _ _⟩ | exact jex ⟨qln _ _,qln _ _⟩ | (constructor <;> simp only [] <;> omega)
def ctV (c:Ci) (f:Nat->Nat × Nat) (n:Nat):Nat × Nat:=if (c.nd n).k = 14 then (1,1) else qju (c.nd n).k.toNat (qsn f (c.nd n))
def ctE (c:Ci) (st:Nat->Option (Nat × Nat)) (n:Nat) (f:Nat->Nat × Nat):Nat × Nat:=(st n).getD (ctV c f n)
def ctL (c:Ci) (st:Nat->Option (Nat × Nat)) (L:List Nat):Nat->Nat × Nat:=evl (ctE c st) (fun _=>true) L fun _=>(0,0)
theorem q2f (c:Ci) (st:Nat->Option (Nat × Nat)) (L:List Nat) (n:Nat):ctL c st (L ++ [n]) = qcw (ctL c st L) n (ctE c st n (ctL c st L)):=by simp [ctL,qht]
theorem jbz (c:Ci) (st:Nat->Option (Nat × Nat)) (hst:∀ n p,st n = some p->p.1≤nev/\p.2≤nev) (n:Nat) (f:Nat->Nat × Nat):(ctE c st n f).1≤nev/\(ctE c st n f).2≤nev:=by
 unfold ctE
 cases hs:st n with
 | some p=>exact hst n p hs
 | none=>
  simp only [Option.getD_none,ctV];split
  ·simp only [nev]; omega
  ·exact q2p _ _
theorem qx2 (c:Ci) (st:Nat->Option (Nat × Nat)) (hst:∀ n p,st n = some p->p.1≤nev/\p.2≤nev) (L:List Nat) (i:Nat):(ctL c st L i).1≤nev/\(ctL c st L i).2≤nev:=by
 have key:∀ (L:List Nat) (f:Nat->Nat × Nat),(∀ i,(f i).1≤nev/\(f i).2≤nev)->∀ i,(evl (ctE c st) (fun _=>true) L f i).1≤nev/\(evl (ctE c st) (fun _=>true) L f i).2≤nev:=by
  intro L
  induction L with
  | nil=>exact fun f h=>h
  | cons n L ih=>
   intro f h;refine ih _ fun i=>?_;simp only [if_true];by_cases hi:i = n
   ·subst hi;rw [qa1];exact jbz c st hst i f
   ·rw [qao _ _ hi]; exact h i
 exact key L _ (fun _=>by simp) i
theorem qzm (N:Nat) (f:Nat->Nat × Nat) (i:Nat) (p:Nat × Nat):(qcv N f).set i (nC p) = qcv N (qcw f i p):=by
 unfold qcv;rw [qeu];congr 1;funext j;by_cases h:j = i
 ·subst h; rw [qa1,qa1]
 ·rw [qao _ _ h,qao _ _ h]
theorem qzl (N:Nat):List.replicate N (V.agg [.int .i64 0,.int .i64 0]) = qcv N fun _=>(0,0):=by
 refine List.ext_getElem (by simp [qcv]) fun j h1 h2=>?_;simp only [qcv];rw [qbx,List.getElem_replicate];rfl
structure CtS where
 d:Nat
set_option maxRecDepth 100000 in
theorem qx1 (c:Ci) (hval:c.val) (hwf:c.wf) (hN:c.n.length < 1000000) (L:List Nat) (cap:Option Nat) (hL:∀ n ∈ L,n < c.n.length) (hLl:L.length < 1000000) (hil:∀ y ∈ c.n,y.i.length < 1000000) (hin:∀ y ∈ c.n,∀ j ∈ y.i,0≤j/\j < c.n.length) (hk:∀ y ∈ c.n,0≤y.k/\y.k < 256) :
  qbl Tryz.prog gl0 167 [c.v,.sl (qad L) cap,.nilmap] (qwv 2 (qcv c.n.length (ctL c (fun _=>none) L)) (some c.n.length)):=by
 refine jo5 jj5 rfl ?_;simp [i167,x167];intro ga gb;refine ⟨by omega,?_⟩;generalize gb 17 = g17;generalize ga 3 = g3
 refine jo2 (X:=CtS) (fun z=>[(20,qaa z.d),(19,qaa L.length),(18,.sl (qad L) cap),(7,.ref 17 g17 0 c.n.length (some c.n.length)),(3,.ptr 3 g3 0 0),(2,.nilmap)])
  (fun z=>[(17,.row g17 2 (qcv c.n.length (ctL c (fun _=>none) (L.take z.d)))),(3,.row g3 4 [c.v])]) (fun z=>z.d≤L.length) (fun z=>L.length - z.d) ⟨0⟩ (by simp) (by simp [qaa]) (by simp [qzl,ctL,evl]) ?_
 rintro ⟨d⟩ q1;dsimp only at q1 ⊢;simp [qaa];refine jo0 (fun hb=>?_) (fun hb=>?_)
 ·have hi:=jo7 hb;have hw:=qa5 d (by omega);obtain ⟨n,hn⟩:∃ n,L[d] = n:=⟨_,rfl⟩;have hnN:=hL n (hn ▸ jpc hi);obtain ⟨y,hy⟩:∃ y,c.n[n] = y:=⟨_,rfl⟩;have hyc:c.nd n = y:=by rw [c.nd_get hnN,hy]
  have hym:y ∈ c.n:=hy ▸ jpc hnN;have hle:=qx2 c (fun _=>none) (fun _ _ h=>by cases h) (L.take d);have hst:ctL c (fun _=>none) (L.take (d + 1)) = qcw (ctL c (fun _=>none) (L.take d)) n (ctV c (ctL c (fun _=>none) (L.take d)) n):=by rw [qdf _ _ hi,hn,q2f]; rfl
  generalize ctL c (fun _=>none) (L.take d) = f at hle hst;have hinp:=q0m y c.n.length f (some c.n.length) (hil y hym) (hin y hym);obtain ⟨k,hkk⟩:∃ k:Nat,y.k = k:=⟨y.k.toNat,by have:=(hk y hym).1; omega⟩;have hk256:k < 256:=by have:=(hk y hym).2; omega
  have hctv:ctV c f n = if k = 14 then (1,1) else qju k (qsn f y):=by unfold ctV; rw [hyc,hkk]; simp
  have hnf:(qad L)[d]'(by simpa using hi) = .int .i64 (n:Int):=by rw [qaq]; rw [hn]
  have hfin:(qcv c.n.length f).set n (nC (ctV c f n)) = qcv c.n.length (qcw f n (ctV c f n)):=qzm _ _ _ _;have hinl:(qsn f y).length = y.i.length:=by simp [qsn]
  have hinle:∀ p ∈ qsn f y,p.1≤nev/\p.2≤nev:=fun p hp=>by
   obtain ⟨j,-,rfl⟩:=List.mem_map.1 hp;exact hle _
  simp [hi,hnf,hnN,hy,nop];intro ga1;refine ⟨rfl,fun ga2=>?_⟩;generalize ga1 10 = g10;generalize ga2 11 = g11
  refine CallO.dat 1 (jn4 hinp (qot _) (q8k _)) (by
   simp;rw [if_pos (by rw [qck]; exact jpe _),q9x (qd5 _ _) (qck _ _).symm]) ?_
  have hip:=qot (qsn f y);have hgt:=q0j k hk256 ((qsn f y).map q2u) (some y.i.length) (by rw [List.length_map,hinl]; exact hil y hym);rw [q7y hinle,q7z] at hgt;have hun:u8V k = V.int .u8 y.k:=by rw [hkk]; rfl
  rw [hun] at hgt;simp;refine jo0 (fun hb14=>?_) (fun hb14=>?_)
  ·have h14:k = 14:=by
    rw [hkk] at hb14;have:=jo7 hb14;omega
   rw [if_pos h14] at hctv;rw [hctv] at hfin;have hg14:=q0j k hk256 [(0,0)] (some 1) (by simp);rw [hun,h14,show qju 14 (List.map qrv [(0,0)]) = (1,1) by decide +kernel] at hg14;simp;intro ga3;refine CallO.borrow 1 hg14 (by simp [cV]) rfl ?_;simp [nC,qaa] at hfin ⊢;have h3:=qov c.n.length f n (by rw [qck]; exact hnN);simp only [nC,qaa] at h3;simp [hnN,qck,h3,hfin,hw];exact ⟨⟨d + 1⟩,hi,by simp,by rw [hst,hctv],by dsimp only; omega⟩
  ·have h14:¬ k = 14:=by
    rw [hkk] at hb14;have:=jo8 hb14;omega
   rw [if_neg h14] at hctv;rw [hctv] at hfin;simp;refine joz hgt (by simp [hip]) ?_;obtain ⟨⟨z1,z2⟩,hz⟩:∃ z,qju k (qsn f y) = z:=⟨_,rfl⟩;rw [hz] at hfin hctv ⊢;simp [nC,qaa] at hfin ⊢;have h3:=qov c.n.length f n (by rw [qck]; exact hnN);simp only [nC,qaa] at h3;simp [hnN,qck,h3,hfin,hw];exact ⟨⟨d + 1⟩,hi,by simp,by rw [hst,hctv],by dsimp only; omega⟩
 ·have hi:d = L.length:=by have:=jo8 hb; omega
  subst hi;rw [List.take_length];have hp:=qd5 c.n.length (ctL c (fun _=>none) L);have hl2:c.n.length = (qcv c.n.length (ctL c (fun _=>none) L)).length:=(qck _ _).symm;generalize qcv c.n.length (ctL c (fun _=>none) L) = R at hl2 hp ⊢;simp;refine .move 17 0 _ (by simp) (by simp; rfl) fun g=>.done ?_;simp;exact ⟨[(0,.row g 2 R)],by simp [Blk.rn,qae hp],g,by simp [hl2],rfl⟩
end
section
open Go
noncomputable def ctl (c:Ci):Nat->Nat × Nat:=ctL c (fun _=>none) (qi5 c)
def CtlK (c:Ci) (v:V) (h:Hp):Prop:=(qme c ≠ 0/\v = .tup [.nil,.int .i64 (qme c)]/\h = [])∨
 (qme c = 0/\∃ g f,v = .tup [.ref 0 g 0 c.n.length (some c.n.length),.int .i64 0]/\h = [(0,.row g 2 (qcv c.n.length f))]/\(∀ i,(f i).1≤nev/\(f i).2≤nev)/\(c.n.length≤20->f = ctl c))
theorem jbw {c:Ci} (h:qme c = 0):shE c = 0/\qvk c:=by
 unfold qme at h;split at h
 ·rename_i q; exact absurd h q
 ·rename_i q;split at h
  ·rename_i q2; exact ⟨Classical.not_not.1 q,q2⟩
  ·cases h
theorem q08 {c:Ci} (hv:c.val) {y:Nd} (hy:y ∈ c.n):y.i.length≤16/\∀ j ∈ y.i,0≤j/\j < c.n.length:=by
 obtain ⟨i,hi,rfl⟩:=List.getElem_of_mem hy;have h1:=hv.l i hi;have h2:=hv.i i hi;rw [c.nd_get hi] at h1 h2;exact ⟨h1,h2⟩
theorem qw4 (c:Ci) (hwf:c.wf):qbl Tryz.prog gl0 133 [c.v] (CtlK c):=by
 refine jo5 jjn rfl ?_;simp [i133,x133];intro ga;refine CallO.own 1000 (qoz c hwf) (by simp) (by simp) ?_;rintro v h (⟨h1,rfl,rfl⟩ | ⟨h0,g,L,rfl,rfl,hR,hpw⟩) gf4
 ·simp [h1];exact .done ⟨[],by simp,.inl ⟨h1,rfl,rfl⟩⟩
 ·obtain ⟨hsh,hac⟩:=jbw h0;have hval:=q0k hwf hsh;have hlen:=(qlx hsh).1;have hct:=qx1 c hval hwf (by omega) L (some c.n.length) hR.lt (by rw [hR.len]; omega) (fun y hy=>by have:=(q08 hval hy).1; omega) (fun y hy=>(q08 hval hy).2) hwf.k;have hle:=qx2 c (fun _=>none) (fun _ _ h=>by cases h) L
  have hfL:c.n.length≤20->ctL c (fun _=>none) L = ctl c:=fun h20=>by
   have ho:Ord c L:=⟨hR,hpw h20⟩;unfold ctl; rw [ho.eq]
  generalize ctL c (fun _=>none) L = f at hct hle hfL;simp [upH,upS,Blk.rn,qae (qa0 L)];generalize gf4 1000 + g = g9;have hfr:∀ h,lk h 1000 = some (.row g9 1 (qad L))->frz h 1 (.ref 1000 g9 0 c.n.length (some c.n.length)) = .sl (qad L) (some c.n.length):=fun h hh=>by rw [qbb hh (by simp [hR.len]),List.drop_zero,jpb (by simp [hR.len]),qbj _ _ (qa0 L)]
  refine jnv 1 2000 hct (by
   rw [List.map_cons,List.map_cons,List.map_cons,List.map_nil,hfr _ (by simp)]; simp) (by simp) ?_
  rintro v h' ⟨g2,rfl,rfl⟩;refine ⟨rfl,fun b k hb=>?_,fun gf=>?_⟩
  ·simp only [lk] at hb;split at hb
   ·cases hb; exact qzk _ _
   ·cases hb
  ·have hp:=qd5 c.n.length f;have hl2:=qck c.n.length f;simp [upH,upS,Blk.rn,qae hp,hl2];generalize gf 2000 + g2 = g3;refine .move 2000 0 _ (by simp) (by simp; rfl) fun g=>.done ?_;simp;exact ⟨[(0,.row g 2 (qcv c.n.length f))],by simp [Blk.rn,qae hp],.inr ⟨h0,g,f,rfl,rfl,hle,hfL⟩⟩
end
end Go.Proofs.YtpaopccohkldlaaGreatDoor
