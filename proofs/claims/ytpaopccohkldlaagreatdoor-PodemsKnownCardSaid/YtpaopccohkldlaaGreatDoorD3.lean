/- Lemmas. Conditions: none. -/
import Derived.Test.YtpaopccohkldlaaGreatDoorC3
import Derived.Test.YtpaopccohkldlaaGreatDoorNet17
import Derived.Test.YtpaopccohkldlaaGreatDoorI1
set_option linter.all false
namespace Go.Proofs.YtpaopccohkldlaaGreatDoor
section
open Go
theorem qn9 (l:List (Nat × Nat)):jne (l.map nC) = true:=pureL_map (fun _=>rfl) l
theorem q8b (l:List (Nat × Nat)):jnl (l.map nC) = true:=joz (fun _=>rfl) l
def q2n (p:Nat × Nat):Int × Int:=(p.1,p.2)
theorem q7p (l:List (Nat × Nat)):(l.map q2n).map cV = l.map nC:=by rw [List.map_map]; rfl
theorem q7o {l:List (Nat × Nat)} (h:∀ p ∈ l,p.1≤nev/\p.2≤nev):(l.map q2n).map qq9 = l:=by
 rw [List.map_map]
 conv=>rhs; rw [<- List.map_id l]
 refine List.map_congr_left fun p hp=>?_;have:=h p hp;simp only [Function.comp,q2n,qq9,id];refine Prod.ext ?_ ?_
 ·show q1h _ = _; unfold q1h; simp only [nev] at *; omega
 ·show q1h _ = _; unfold q1h; simp only [nev] at *; omega
def qr2 (f:Nat->Nat × Nat) (y:Nd):List (Nat × Nat):=y.i.map fun j=>f j.toNat
def qtx (f:Nat->Nat × Nat) (y:Nd) (i:Nat):List V:=tab y.i.length fun j=>if j < i then nC (f (y.i.getD j 0).toNat) else nC (0,0)
theorem qty (f:Nat->Nat × Nat) (y:Nd) (i:Nat):(qtx f y i).length = y.i.length:=by simp [qtx]
theorem q2v (f:Nat->Nat × Nat) (y:Nd) (i:Nat) (hi:i < y.i.length):(qtx f y i).set i (nC (f y.i[i].toNat)) = qtx f y (i + 1):=by
 unfold qtx;rw [qff];congr 1;funext j;by_cases h:j = i
 ·subst h;rw [qa4,if_pos (by omega),jph,jpl hi]; rfl
 ·rw [qav _ _ h];by_cases h2:j < i
  ·rw [if_pos h2,if_pos (by omega)]
  ·rw [if_neg h2,if_neg (by omega)]
theorem q2t (f:Nat->Nat × Nat) (y:Nd):qtx f y y.i.length = (qr2 f y).map nC:=by
 unfold qtx qr2;refine List.ext_getElem (by simp) fun j h1 h2=>?_;have hj:j < y.i.length:=by simpa using h1
 rw [qbr,if_pos hj];simp [jph,hj]
theorem q7r (f:Nat->Nat × Nat) (y:Nd) (i:Nat) (h:i < (qtx f y i).length):(qtx f y i)[i] = nC (0,0):=by simp only [qtx]; rw [qbr,if_neg (Nat.lt_irrefl i)]
theorem q2u (f:Nat->Nat × Nat) (y:Nd):List.replicate y.i.length (V.agg [.int .i64 0,.int .i64 0]) = qtx f y 0:=by
 refine List.ext_getElem (by simp [qtx]) fun j h1 h2=>?_;simp only [qtx];rw [qbr,List.getElem_replicate];rfl
def qcp (N:Nat) (f:Nat->Nat × Nat):List V:=tab N fun i=>nC (f i)
theorem qcf (N:Nat) (f:Nat->Nat × Nat):(qcp N f).length = N:=by simp [qcp]
theorem qd1 (N:Nat) (f:Nat->Nat × Nat):jne (qcp N f) = true:=qhu fun _=>rfl
theorem qzf (N:Nat) (f:Nat->Nat × Nat):jnl (qcp N f) = true:=by
 rw [jnt]; intro v hv; unfold qcp tab at hv;obtain ⟨a,_,rfl⟩:=List.mem_map.1 hv; rfl
theorem qob (N:Nat) (f:Nat->Nat × Nat) (i:Nat) (h:i < (qcp N f).length):(qcp N f)[i] = nC (f i):=by simp only [qcp]; rw [qbr]
theorem q0h (y:Nd) (N:Nat) (f:Nat->Nat × Nat) (cap:Option Nat) (hl:y.i.length < 1000000) (hv:∀ j ∈ y.i,0≤j/\j < N):qbi Tryz.prog gl0 192 [y.v,.sl (qcp N f) cap] (qwj 2 ((qr2 f y).map nC) (some y.i.length)):=by
 have hyp:y.v.pure = true:=q8e y;refine jpd jkk rfl ?_;simp [i192,x192,Nd.v];intro ga gb;refine ⟨by omega,?_⟩;generalize gb 11 = g11
 refine jpa (X:=Nat) (fun i=>[(15,qaa i),(14,qaa y.i.length),(13,.sl (qde y.i) none),(5,.ref 11 g11 0 y.i.length (some y.i.length)),(1,.sl (qcp N f) cap)])
  (fun i=>[(11,.row g11 2 (qtx f y i))]) (fun i=>i≤y.i.length) (fun i=>y.i.length - i) 0 (by simp) (by simp [qaa]) (by simp [q2u f]) ?_
 rintro i q1;simp [qaa];refine jo8 (fun hb=>?_) (fun hb=>?_)
 ·have hi:=jpf hb;have hw:=qa1 i (by omega);obtain ⟨j,hj⟩:∃ j,y.i[i] = j:=⟨_,rfl⟩;have hjv:=hv j (hj ▸ jpk hi);obtain ⟨q,hq⟩:∃ q:Nat,j = q:=⟨j.toNat,by omega⟩;have h1:=q2v f y i hi;rw [hj,hq] at h1;have h2:=q7r f y i (by rw [qty]; exact hi);have hqN:q < N:=by omega
  have h3:=qob N f q (by rw [qcf]; exact hqN);have h4:(qde y.i)[i]'(by simpa using hi) = .int .i64 (q:Int):=by simp [qde,hj,hq]
  have e1:(f q).1 = (f (q:Int).toNat).1:=rfl;simp only [Int.toNat_natCast] at h1;simp [hi,h4,qty,qcf,hqN,h3,h2,nC,qaa,hw];simp only [nC,qaa] at h1;exact ⟨i + 1,hi,by omega,by rw [h1],by omega⟩
 ·have hi:i = y.i.length:=by have:=jpg hb; omega
  subst hi;have hall:=q2t f y;have hl2:y.i.length = ((qr2 f y).map nC).length:=by simp [qr2]
  rw [hall];simp;have hp:=qn9 (qr2 f y);generalize (qr2 f y).map nC = R at hl2 hp;refine .move 11 0 _ (by simp) (by simp; rfl) fun g=>.done ?_;simp;exact ⟨[(0,.row g 2 R)],by simp [Blk.rn,qaf hp],g,by simp [hl2],rfl⟩
end
section
open Go
theorem je6 {k:Nat} {p:Nat × Nat} (h:p.1≤nev/\p.2≤nev):(swC k p).1≤nev/\(swC k p).2≤nev:=by
 unfold swC; split
 ·exact ⟨h.2,h.1⟩
 ·exact h
theorem q2k (k:Nat) (ts:List (Nat × Nat)):(qi8 k ts).1≤nev/\(qi8 k ts).2≤nev:=by
 have hn:nev = 1073741824:=rfl;unfold qi8
 (repeat' split) <;> first | exact ⟨qk4 _ _,qk4 _ _⟩ | exact je6 ⟨qk4 _ _,qk4 _ _⟩ | (constructor <;> simp only [] <;> omega)
def ctV (c:Ci) (f:Nat->Nat × Nat) (n:Nat):Nat × Nat:=if (c.nd n).k = 14 then (1,1) else qi8 (c.nd n).k.toNat (qr2 f (c.nd n))
def ctE (c:Ci) (st:Nat->Option (Nat × Nat)) (n:Nat) (f:Nat->Nat × Nat):Nat × Nat:=(st n).getD (ctV c f n)
def ctL (c:Ci) (st:Nat->Option (Nat × Nat)) (L:List Nat):Nat->Nat × Nat:=evl (ctE c st) (fun _=>true) L fun _=>(0,0)
theorem q18 (c:Ci) (st:Nat->Option (Nat × Nat)) (L:List Nat) (n:Nat):ctL c st (L ++ [n]) = qdb (ctL c st L) n (ctE c st n (ctL c st L)):=by simp [ctL,qg9]
theorem jb2 (c:Ci) (st:Nat->Option (Nat × Nat)) (hst:∀ n p,st n = some p->p.1≤nev/\p.2≤nev) (n:Nat) (f:Nat->Nat × Nat):(ctE c st n f).1≤nev/\(ctE c st n f).2≤nev:=by
 unfold ctE
 cases hs:st n with
 | some p=>exact hst n p hs
 | none=>
  simp only [Option.getD_none,ctV];split
  ·simp only [nev]; omega
  ·exact q2k _ _
theorem qxy (c:Ci) (st:Nat->Option (Nat × Nat)) (hst:∀ n p,st n = some p->p.1≤nev/\p.2≤nev) (L:List Nat) (i:Nat):(ctL c st L i).1≤nev/\(ctL c st L i).2≤nev:=by
 have key:∀ (L:List Nat) (f:Nat->Nat × Nat),(∀ i,(f i).1≤nev/\(f i).2≤nev)->∀ i,(evl (ctE c st) (fun _=>true) L f i).1≤nev/\(evl (ctE c st) (fun _=>true) L f i).2≤nev:=by
  intro L
  induction L with
  | nil=>exact fun f h=>h
  | cons n L ih=>
   intro f h;refine ih _ fun i=>?_;simp only [if_true];by_cases hi:i = n
   ·subst hi;rw [qa4];exact jb2 c st hst i f
   ·rw [qav _ _ hi]; exact h i
 exact key L _ (fun _=>by simp) i
theorem qzh (N:Nat) (f:Nat->Nat × Nat) (i:Nat) (p:Nat × Nat):(qcp N f).set i (nC p) = qcp N (qdb f i p):=by
 unfold qcp;rw [qff];congr 1;funext j;by_cases h:j = i
 ·subst h; rw [qa4,qa4]
 ·rw [qav _ _ h,qav _ _ h]
theorem qzg (N:Nat):List.replicate N (V.agg [.int .i64 0,.int .i64 0]) = qcp N fun _=>(0,0):=by
 refine List.ext_getElem (by simp [qcp]) fun j h1 h2=>?_;simp only [qcp];rw [qbr,List.getElem_replicate];rfl
structure CtS where
 d:Nat
set_option maxRecDepth 100000 in
theorem qxx (c:Ci) (hval:c.val) (hwf:c.wf) (hN:c.n.length < 1000000) (L:List Nat) (cap:Option Nat) (hL:∀ n ∈ L,n < c.n.length) (hLl:L.length < 1000000) (hil:∀ y ∈ c.n,y.i.length < 1000000) (hin:∀ y ∈ c.n,∀ j ∈ y.i,0≤j/\j < c.n.length) (hk:∀ y ∈ c.n,0≤y.k/\y.k < 256) :
  qbi Tryz.prog gl0 167 [c.v,.sl (qao L) cap,.nilmap] (qwj 2 (qcp c.n.length (ctL c (fun _=>none) L)) (some c.n.length)):=by
 refine jpd jj8 rfl ?_;simp [i167,x167];intro ga gb;refine ⟨by omega,?_⟩;generalize gb 17 = g17;generalize ga 3 = g3
 refine jpa (X:=CtS) (fun z=>[(20,qaa z.d),(19,qaa L.length),(18,.sl (qao L) cap),(7,.ref 17 g17 0 c.n.length (some c.n.length)),(3,.ptr 3 g3 0 0),(2,.nilmap)])
  (fun z=>[(17,.row g17 2 (qcp c.n.length (ctL c (fun _=>none) (L.take z.d)))),(3,.row g3 4 [c.v])]) (fun z=>z.d≤L.length) (fun z=>L.length - z.d) ⟨0⟩ (by simp) (by simp [qaa]) (by simp [qzg,ctL,evl]) ?_
 rintro ⟨d⟩ q1;dsimp only at q1 ⊢;simp [qaa];refine jo8 (fun hb=>?_) (fun hb=>?_)
 ·have hi:=jpf hb;have hw:=qa1 d (by omega);obtain ⟨n,hn⟩:∃ n,L[d] = n:=⟨_,rfl⟩;have hnN:=hL n (hn ▸ jpk hi);obtain ⟨y,hy⟩:∃ y,c.n[n] = y:=⟨_,rfl⟩;have hyc:c.nd n = y:=by rw [c.nd_get hnN,hy]
  have hym:y ∈ c.n:=hy ▸ jpk hnN;have hle:=qxy c (fun _=>none) (fun _ _ h=>by cases h) (L.take d);have hst:ctL c (fun _=>none) (L.take (d + 1)) = qdb (ctL c (fun _=>none) (L.take d)) n (ctV c (ctL c (fun _=>none) (L.take d)) n):=by rw [qda _ _ hi,hn,q18]; rfl
  generalize ctL c (fun _=>none) (L.take d) = f at hle hst;have hinp:=q0h y c.n.length f (some c.n.length) (hil y hym) (hin y hym);obtain ⟨k,hkk⟩:∃ k:Nat,y.k = k:=⟨y.k.toNat,by have:=(hk y hym).1; omega⟩;have hk256:k < 256:=by have:=(hk y hym).2; omega
  have hctv:ctV c f n = if k = 14 then (1,1) else qi8 k (qr2 f y):=by unfold ctV; rw [hyc,hkk]; simp
  have hnf:(qao L)[d]'(by simpa using hi) = .int .i64 (n:Int):=by rw [qap]; rw [hn]
  have hfin:(qcp c.n.length f).set n (nC (ctV c f n)) = qcp c.n.length (qdb f n (ctV c f n)):=qzh _ _ _ _;have hinl:(qr2 f y).length = y.i.length:=by simp [qr2]
  have hinle:∀ p ∈ qr2 f y,p.1≤nev/\p.2≤nev:=fun p hp=>by
   obtain ⟨j,-,rfl⟩:=List.mem_map.1 hp;exact hle _
  simp [hi,hnf,hnN,hy,nop];intro ga1;refine ⟨rfl,fun ga2=>?_⟩;generalize ga1 10 = g10;generalize ga2 11 = g11
  refine CallO.dat 1 (job hinp (qn9 _) (q8b _)) (by
   simp;rw [if_pos (by rw [qcf]; exact jpm _),q9s (qd1 _ _) (qcf _ _).symm]) ?_
  have hip:=qn9 (qr2 f y);have hgt:=q0e k hk256 ((qr2 f y).map q2n) (some y.i.length) (by rw [List.length_map,hinl]; exact hil y hym);rw [q7o hinle,q7p] at hgt;have hun:u8V k = V.int .u8 y.k:=by rw [hkk]; rfl
  rw [hun] at hgt;simp;refine jo8 (fun hb14=>?_) (fun hb14=>?_)
  ·have h14:k = 14:=by
    rw [hkk] at hb14;have:=jpf hb14;omega
   rw [if_pos h14] at hctv;rw [hctv] at hfin;have hg14:=q0e k hk256 [(0,0)] (some 1) (by simp);rw [hun,h14,show qi8 14 (List.map qq9 [(0,0)]) = (1,1) by decide +kernel] at hg14;simp;intro ga3;refine CallO.borrow 1 hg14 (by simp [cV]) rfl ?_;simp [nC,qaa] at hfin ⊢;have h3:=qob c.n.length f n (by rw [qcf]; exact hnN);simp only [nC,qaa] at h3;simp [hnN,qcf,h3,hfin,hw];exact ⟨⟨d + 1⟩,hi,by simp,by rw [hst,hctv],by dsimp only; omega⟩
  ·have h14:¬ k = 14:=by
    rw [hkk] at hb14;have:=jpg hb14;omega
   rw [if_neg h14] at hctv;rw [hctv] at hfin;simp;refine jo7 hgt (by simp [hip]) ?_;obtain ⟨⟨z1,z2⟩,hz⟩:∃ z,qi8 k (qr2 f y) = z:=⟨_,rfl⟩;rw [hz] at hfin hctv ⊢;simp [nC,qaa] at hfin ⊢;have h3:=qob c.n.length f n (by rw [qcf]; exact hnN);simp only [nC,qaa] at h3;simp [hnN,qcf,h3,hfin,hw];exact ⟨⟨d + 1⟩,hi,by simp,by rw [hst,hctv],by dsimp only; omega⟩
 ·have hi:d = L.length:=by have:=jpg hb; omega
  subst hi;rw [List.take_length];have hp:=qd1 c.n.length (ctL c (fun _=>none) L);have hl2:c.n.length = (qcp c.n.length (ctL c (fun _=>none) L)).length:=(qcf _ _).symm;generalize qcp c.n.length (ctL c (fun _=>none) L) = R at hl2 hp ⊢;simp;refine .move 17 0 _ (by simp) (by simp; rfl) fun g=>.done ?_;simp;exact ⟨[(0,.row g 2 R)],by simp [Blk.rn,qaf hp],g,by simp [hl2],rfl⟩
end
section
open Go
noncomputable def ctl (c:Ci):Nat->Nat × Nat:=ctL c (fun _=>none) (qij c)
def CtlK (c:Ci) (v:V) (h:Hp):Prop:=(qlv c ≠ 0/\v = .tup [.nil,.int .i64 (qlv c)]/\h = [])∨
 (qlv c = 0/\∃ g f,v = .tup [.ref 0 g 0 c.n.length (some c.n.length),.int .i64 0]/\h = [(0,.row g 2 (qcp c.n.length f))]/\(∀ i,(f i).1≤nev/\(f i).2≤nev)/\(c.n.length≤20->f = ctl c))
theorem jb1 {c:Ci} (h:qlv c = 0):shE c = 0/\qu2 c:=by
 unfold qlv at h;split at h
 ·rename_i q; exact absurd h q
 ·rename_i q;split at h
  ·rename_i q2; exact ⟨Classical.not_not.1 q,q2⟩
  ·cases h
theorem q03 {c:Ci} (hv:c.val) {y:Nd} (hy:y ∈ c.n):y.i.length≤16/\∀ j ∈ y.i,0≤j/\j < c.n.length:=by
 obtain ⟨i,hi,rfl⟩:=List.getElem_of_mem hy;have h1:=hv.l i hi;have h2:=hv.i i hi;rw [c.nd_get hi] at h1 h2;exact ⟨h1,h2⟩
theorem qww (c:Ci) (hwf:c.wf):qbi Tryz.prog gl0 133 [c.v] (CtlK c):=by
 refine jpd jjp rfl ?_;simp [i133,x133];intro ga;refine CallO.own 1000 (qof c hwf) (by simp) (by simp) ?_;rintro v h (⟨h1,rfl,rfl⟩ | ⟨h0,g,L,rfl,rfl,hR,hpw⟩) gf4
 ·simp [h1];exact .done ⟨[],by simp,.inl ⟨h1,rfl,rfl⟩⟩
 ·obtain ⟨hsh,hac⟩:=jb1 h0;have hval:=q0f hwf hsh;have hlen:=(qle hsh).1;have hct:=qxx c hval hwf (by omega) L (some c.n.length) hR.lt (by rw [hR.len]; omega) (fun y hy=>by have:=(q03 hval hy).1; omega) (fun y hy=>(q03 hval hy).2) hwf.k;have hle:=qxy c (fun _=>none) (fun _ _ h=>by cases h) L
  have hfL:c.n.length≤20->ctL c (fun _=>none) L = ctl c:=fun h20=>by
   have ho:Ord c L:=⟨hR,hpw h20⟩;unfold ctl; rw [ho.eq]
  generalize ctL c (fun _=>none) L = f at hct hle hfL;simp [upH,upS,Blk.rn,qaf (qbg L)];generalize gf4 1000 + g = g9;have hfr:∀ h,lk h 1000 = some (.row g9 1 (qao L))->frz h 1 (.ref 1000 g9 0 c.n.length (some c.n.length)) = .sl (qao L) (some c.n.length):=fun h hh=>by rw [qbx hh (by simp [hR.len]),List.drop_zero,jpj (by simp [hR.len]),qbw _ _ (qbg L)]
  refine jny 1 2000 hct (by
   rw [List.map_cons,List.map_cons,List.map_cons,List.map_nil,hfr _ (by simp)]; simp) (by simp) ?_
  rintro v h' ⟨g2,rfl,rfl⟩;refine ⟨rfl,fun b k hb=>?_,fun gf=>?_⟩
  ·simp only [lk] at hb;split at hb
   ·cases hb; exact qzf _ _
   ·cases hb
  ·have hp:=qd1 c.n.length f;have hl2:=qcf c.n.length f;simp [upH,upS,Blk.rn,qaf hp,hl2];generalize gf 2000 + g2 = g3;refine .move 2000 0 _ (by simp) (by simp; rfl) fun g=>.done ?_;simp;exact ⟨[(0,.row g 2 (qcp c.n.length f))],by simp [Blk.rn,qaf hp],.inr ⟨h0,g,f,rfl,rfl,hle,hfL⟩⟩
end
end Go.Proofs.YtpaopccohkldlaaGreatDoor
