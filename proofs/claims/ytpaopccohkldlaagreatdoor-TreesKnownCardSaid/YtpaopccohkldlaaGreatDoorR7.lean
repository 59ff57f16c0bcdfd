/- Trees: Trim's closure. Conditions: none. -/
import Derived.Test.YtpaopccohkldlaaGreatDoorA5
import Derived.Test.YtpaopccohkldlaaGreatDoorR1
set_option linter.all false
namespace Go.Proofs.YtpaopccohkldlaaGreatDoor
section
open Go
def tvV (c:Ci) (f:Ft) (T:List V) (g1 g8 g9:Nat):List V:=[.ptr 9001 g1 0 0,.iptr c.v 0,.iptr f.w 0,.ptr 9008 g8 0 0,.iptr (.sl T none) 0,.ptr 9009 g9 0 0]
def tvH (c:Ci) (f:Ft) (T:List V) (g1 g8 g9 ga gb gz:Nat) (L:List V) (p:Pt):Hp:=
 [(9001,.row g1 1 [.ref 17 gz 0 L.length none]),(17,.row gz 3 L),(9008,.row g8 2 [ptV 9100 ga 9101 gb p]),(9009,.row g9 1 [.fn 64 [] (tvV c f T g1 g8 g9)]),(9100,.row ga 1 (p.i.map u8V)),(9101,.row gb 1 (p.s.map u8V))]
theorem qv2 (c:Ci) (f:Ft) (T:List V) (hT:jd6 T = true) (g1 g8 g9:Nat):jd9 [9001,17,9008,9009,9100,9101] (tvV c f T g1 g8 g9) = true:=by
 simp [tvV,jd9,V.inB,jd7 _ _ hT,jeh _ _ (qb2 c),jeh _ _ (qlk f)]
theorem qoa (c:Ci) (f:Ft) (T:List V) (hT:jd6 T = true) (g1 g8 g9 ga gb gz:Nat) (L:List V) (hL:jd6 L = true) (p:Pt):qbc [9001,17,9008,9009,9100,9101] (tvH c f T g1 g8 g9 ga gb gz L p) = true:=by
 have:=qv2 c f T hT g1 g8 g9;simp [qbc,tvH,Blk.inB,jd9,V.inB,ptV,this,jd7 _ _ (qaj _),jd7 _ _ hL]
noncomputable def r64:XC:=xs2 (xs2 x64)
theorem qzx:x64 = .seq (xs1 x64) (.seq (xs1 (xs2 x64)) r64):=rfl
set_option maxRecDepth 100000 in
set_option maxHeartbeats 4000000 in
theorem q6t (c:Ci) (hg:c.good) (f:Ft) (hf:f.ok c) (hm:f.m = 0) (T:List V) (hT:jd6 T = true) (g1 g8 g9 ga gb gy a LL:Nat) (L:List V) (p:Pt) (hp:p.fit c) (hb:qht c f p = true)
  (fr:Fr) (f0:lk fr 0 = some (qab a)) (f1:lk fr 1 = some (.ptr 9001 g1 0 0)) (f2:lk fr 2 = some (.iptr c.v 0)) (f3:lk fr 3 = some (.iptr f.w 0)) (f4:lk fr 4 = some (.ptr 9008 g8 0 0)) (f5:lk fr 5 = some (.iptr (.sl T none) 0)) (f6:lk fr 6 = some (.ptr 9009 g9 0 0)) (f8:lk fr 8 = some (qab LL))
  (h:Hp) (hh:Sub (tvH c f T g1 g8 g9 ga gb gy (L ++ [lfN.v]) p) h) :
  r64.wpF Tryz.prog gl0 (qmj [] fun r h=>r = .tup []/\∃ gz',h = tvH c f T g1 g8 g9 ga gb gz' (L ++ [lfN.v]) p) fr h:=by
 have h1:=qih c hg f hf hm p hp (some p.i.length) (some p.s.length);have hti:∀ l:List Nat,List.take l.length (l.map u8V) = l.map u8V:=fun l=>jf2 (by simp);rw [hb] at h1;simp only [Ft.w,u8V,qab] at h1;simp only [qab,Ft.w,u8V] at f0 f3 f8;obtain ⟨q1,q2,q3,q4,q5,q6,-⟩:=hh;simp only [ptV,tvV,Ft.w,u8V,qab] at q3 q4;simp [r64,xs2,x64,f0,f1,f2,f3,f4,f5,f6,f8,q1,q2,q3,q4,q5,q6];refine CallO.borrow 2 h1 (by simp [q5,q6,qap _ (qb2 c),frz,V.mapR,jd8,qar (qaj _),hti,u8V]) rfl ?_;simp;refine .done ?_;refine ⟨_,?_,gy,rfl⟩;simp [tvH,ptV,tvV,Ft.w,u8V,qab,q1,q2,q3,q4,q5,q6]
set_option maxRecDepth 100000 in
set_option maxHeartbeats 4000000 in
theorem jdd (c:Ci) (hg:c.good) (f:Ft) (hf:f.ok c) (hm:f.m = 0) (T:List V) (hT:jd6 T = true) (g1 g8 g9 ga gb gy a i u v:Nat) (LL:Nat) (L:List V) (hLL:L.length = LL) (hL:jd6 L = true) (p:Pt) (hp:p.fit c) (hb:qht c f p = false)
  (zt ot:Nat->List V) (zl ol:Nat) (hzl:∀ n,(zt n).length = zl) (hol:∀ n,(ot n).length = ol) (hzp:∀ n,jd6 (zt n) = true) (hop:∀ n,jd6 (ot n) = true) (hl:L.length + zl + ol + 5 < 1000000000)
  (hi:i < p.many) (hpl:p.i.length < 1000/\p.s.length < 1000) (hend:(p.set i 1).set i 2 = p)
  (ha:a < T.length) (hta:T[a] = .agg [qab i,qab u,qab v])
  (hz:∀ (gz:Nat) (L:List V),jd6 L = true->L.length = LL + 1->qan Tryz.prog gl0 64 (qab u :: tvV c f T g1 g8 g9) (tvH c f T g1 g8 g9 ga gb gz L (p.set i 0)) fun r h=>r = .tup []/\∃ gz',h = tvH c f T g1 g8 g9 ga gb gz' (L ++ zt L.length) (p.set i 0))
  (ho:∀ (gz:Nat) (L:List V),jd6 L = true->L.length = LL + 1 + zl->qan Tryz.prog gl0 64 (qab v :: tvV c f T g1 g8 g9) (tvH c f T g1 g8 g9 ga gb gz L (p.set i 1)) fun r h=>r = .tup []/\∃ gz',h = tvH c f T g1 g8 g9 ga gb gz' (L ++ ot L.length) (p.set i 1))
  (fr:Fr) (f0:lk fr 0 = some (qab a)) (f1:lk fr 1 = some (.ptr 9001 g1 0 0)) (f2:lk fr 2 = some (.iptr c.v 0)) (f3:lk fr 3 = some (.iptr f.w 0)) (f4:lk fr 4 = some (.ptr 9008 g8 0 0)) (f5:lk fr 5 = some (.iptr (.sl T none) 0)) (f6:lk fr 6 = some (.ptr 9009 g9 0 0)) (f8:lk fr 8 = some (qab LL))
  (h:Hp) (hh:Sub (tvH c f T g1 g8 g9 ga gb gy (L ++ [lfN.v]) p) h) :
  r64.wpF Tryz.prog gl0 (qmj [] fun r h=>r = .tup []/\∃ gz',h = tvH c f T g1 g8 g9 ga gb gz' (L ++ .agg [qab i,qab (L.length + 1),qab (L.length + 1 + zl)] :: (zt (L.length + 1) ++ ot (L.length + 1 + zl))) p) fr h:=by
 subst hLL;have h1:=qih c hg f hf hm p hp (some p.i.length) (some p.s.length);have hti:∀ l:List Nat,List.take l.length (l.map u8V) = l.map u8V:=fun l=>jf2 (by simp);rw [hb] at h1;have hput:=fun (q:Pt) (hq:q.i.length = p.i.length) (hq2:q.s.length = p.s.length) w=>q6m q i w 9100 ga 9101 gb (by unfold Pt.many at *; omega) (by omega) (by omega) (by omega) (by omega);have hp0:=hput p rfl rfl 0;have hp1:=hput (p.set i 0) (by simp) (by simp) 1;have hp2:=hput (p.set i 1) (by simp) (by simp) 2;have hs01:(p.set i 0).set i 1 = p.set i 1:=Pt.set_set hi 0 1;rw [hs01] at hp1;rw [hend] at hp2;clear hput;have hIn:=fun gz L hL q=>qoa c f T hT g1 g8 g9 ga gb gz L hL q;have hIv:=qv2 c f T hT g1 g8 g9;obtain ⟨PL,hPL⟩:∃ n,p.i.length = n:=⟨_,rfl⟩;obtain ⟨PS,hPS⟩:∃ n,p.s.length = n:=⟨_,rfl⟩;have e0:(p.set i 0).i.length = PL:=by rw [<- hPL]; simp
 have e1:(p.set i 0).s.length = PS:=by rw [<- hPS]; simp
 have e2:(p.set i 1).i.length = PL:=by rw [<- hPL]; simp
 have e3:(p.set i 1).s.length = PS:=by rw [<- hPS]; simp
 generalize p.set i 0 = p0 at *;generalize p.set i 1 = p1 at *;have ht1:List.take PL (p.i.map u8V) = p.i.map u8V:=by rw [<- hPL]; exact hti p.i
 have ht2:List.take PS (p.s.map u8V) = p.s.map u8V:=by rw [<- hPS]; exact hti p.s
 simp only [Ft.w,u8V,qab,hPL,hPS] at h1;simp only [ptV,qab,u8V,hPL,hPS,e0,e1,e2,e3] at hp0 hp1 hp2;obtain ⟨M,hM⟩:∃ M,L ++ [V.agg [.int .i64 (-1),.int .i64 0,.int .i64 0]] = M:=⟨_,rfl⟩;have hMl:M.length = L.length + 1:=by rw [<- hM]; simp
 have hMp:jd6 M = true:=by rw [<- hM]; exact qbv hL rfl
 have hz1:=fun gz=>hz gz M hMp (by omega);obtain ⟨N,hN⟩:∃ N,M ++ zt M.length = N:=⟨_,rfl⟩;have hNl:N.length = M.length + zl:=by rw [<- hN]; simp [hzl]
 have hNp:jd6 N = true:=by rw [<- hN]; exact qbv hMp (hzp _)
 have ho1:=fun gz=>ho gz N hNp (by omega);obtain ⟨Q,hQ⟩:∃ Q,N ++ ot N.length = Q:=⟨_,rfl⟩;have hQl:Q.length = N.length + ol:=by rw [<- hQ]; simp [hol]
 have hQp:jd6 Q = true:=by rw [<- hQ]; exact qbv hNp (hop _)
 have hQe:Q = L ++ V.agg [.int .i64 (-1),.int .i64 0,.int .i64 0] :: (zt (L.length + 1) ++ ot (L.length + 1 + zl)):=by rw [<- hQ,hNl,hMl,<- hN,hMl,<- hM]; simp
 have hat:L.length < Q.length:=by omega
 have hQL:Q[L.length]'hat = V.agg [.int .i64 (-1),.int .i64 0,.int .i64 0]:=by simp only [hQe]; simp
 have hset:Q.set L.length (.agg [.int .i64 (i:Int),.int .i64 (M.length:Int),.int .i64 (N.length:Int)]) = L ++ .agg [.int .i64 (i:Int),.int .i64 ((L.length + 1:Nat):Int),.int .i64 ((L.length + 1 + zl:Nat):Int)] :: (zt (L.length + 1) ++ ot (L.length + 1 + zl)):=by
  rw [hNl,hMl,hQe,List.set_append_right _ _ (jf5 _)];simp
 rw [hN] at hz1;rw [hQ] at ho1;simp only [tvH,tvV,ptV,qab,Ft.w,u8V,hPL,hPS,e0,e1,e2,e3] at hz1 ho1 hIn;simp only [tvV,qab,Ft.w,u8V] at hIv;simp only [qab,Ft.w,u8V] at f0 f3 f8;obtain ⟨q1,q2,q3,q4,q5,q6,-⟩:=hh;rw [show L ++ [lfN.v] = M from hM] at q1 q2;simp only [ptV,tvV,Ft.w,u8V,qab,hPL,hPS] at q3 q4;simp [r64,xs2,x64,f0,f1,f2,f3,f4,f5,f6,f8,q1,q2,q3,q4,q5,q6,ha,hta,qab];refine CallO.borrow 2 h1 (by simp [q5,q6,qap _ (qb2 c),frz,V.mapR,jd8,qar (qaj _),hPL,hPS,ht1,ht2,u8V]) rfl ?_;simp [f0,f1,f2,f3,f4,f5,f6,f8,q1,q2,q3,q4,q5,q6,ha,hta,qab];intro gf3;generalize gf3 9 = gn
 refine CallO.lend [9100,9101] (ptH 9100 ga 9101 gb p) [(9,.row gn 3 [.agg [.int .i64 i,.int .i64 u,.int .i64 v]]),(9001,.row g1 1 [.ref 17 gy 0 M.length none]),(17,.row gy 3 M),(9008,.row g8 2 [ptV 9100 ga 9101 gb p]),(9009,.row g9 1 [.fn 64 [] (tvV c f T g1 g8 g9)])]
  hp0 (by simp [jd9,V.inB]) (by simp [ptH,q5,q6]) (by simp [ptH,qbc,Blk.inB,jd7 _ _ (qaj _)]) (by simp [ptV,hPL,hPS,tvV,Ft.w,u8V,qab,q1,q2,q3,q4]) (by simp) ?_
 rintro r h ⟨rfl,rfl⟩;refine ⟨rfl,by simp [ptH,qbc,Blk.inB,jd7 _ _ (qaj _)],?_⟩;simp [ptH,ptV,hPL,hPS,tvV,Ft.w,u8V,qab,f0,f1,f2,f3,f4,f5,f6,f8]
 refine CallO.lend [9001,17,9008,9009,9100,9101] (tvH c f T g1 g8 g9 ga gb gy M p0) [(9,.row gn 3 [.agg [.int .i64 i,.int .i64 u,.int .i64 v]])]
  (by simpa [tvH,tvV,ptV,e0,e1,Ft.w,u8V,qab] using hz1 gy) (by simpa [jd9,V.inB] using hIv) (by simp [tvH,tvV,ptV,e0,e1,Ft.w,u8V,qab]) (qoa c f T hT g1 g8 g9 ga gb gy M hMp p0) (by simp) (by simp) ?_
 rintro r h ⟨rfl,gy2,rfl⟩;refine ⟨rfl,by simpa [tvH,tvV,ptV,e0,e1,Ft.w,u8V,qab] using qoa c f T hT g1 g8 g9 ga gb gy2 N hNp p0,?_⟩;simp [f0,f1,f2,f3,f4,f5,f6,f8]
 refine CallO.lend [9100,9101] (ptH 9100 ga 9101 gb p0) [(9,.row gn 3 [.agg [.int .i64 i,.int .i64 u,.int .i64 v]]),(9001,.row g1 1 [.ref 17 gy2 0 N.length none]),(17,.row gy2 3 N),(9008,.row g8 2 [ptV 9100 ga 9101 gb p]),(9009,.row g9 1 [.fn 64 [] (tvV c f T g1 g8 g9)])]
  hp1 (by simp [jd9,V.inB]) (by simp [ptH]) (by simp [ptH,qbc,Blk.inB,jd7 _ _ (qaj _)]) (by simp [ptV,hPL,hPS,tvV,Ft.w,u8V,qab]) (by simp) ?_
 rintro r h ⟨rfl,rfl⟩;refine ⟨rfl,by simp [ptH,qbc,Blk.inB,jd7 _ _ (qaj _)],?_⟩;simp [ptH,ptV,hPL,hPS,tvV,Ft.w,u8V,qab,f0,f1,f2,f3,f4,f5,f6,f8]
 refine CallO.lend [9001,17,9008,9009,9100,9101] (tvH c f T g1 g8 g9 ga gb gy2 N p1) [(9,.row gn 3 [.agg [.int .i64 i,.int .i64 u,.int .i64 v]])]
  (by simpa [tvH,tvV,ptV,e2,e3,Ft.w,u8V,qab] using ho1 gy2) (by simpa [jd9,V.inB] using hIv) (by simp [tvH,tvV,ptV,e2,e3,Ft.w,u8V,qab]) (qoa c f T hT g1 g8 g9 ga gb gy2 N hNp p1) (by simp) (by simp) ?_
 rintro r h ⟨rfl,gy3,rfl⟩;refine ⟨rfl,by simpa [tvH,tvV,ptV,e2,e3,Ft.w,u8V,qab] using qoa c f T hT g1 g8 g9 ga gb gy3 Q hQp p1,?_⟩;simp [f0,f1,f2,f3,f4,f5,f6,f8]
 refine CallO.lend [9100,9101] (ptH 9100 ga 9101 gb p1) [(9,.row gn 3 [.agg [.int .i64 i,.int .i64 u,.int .i64 v]]),(9001,.row g1 1 [.ref 17 gy3 0 Q.length none]),(17,.row gy3 3 Q),(9008,.row g8 2 [ptV 9100 ga 9101 gb p]),(9009,.row g9 1 [.fn 64 [] (tvV c f T g1 g8 g9)])]
  hp2 (by simp [jd9,V.inB]) (by simp [ptH]) (by simp [ptH,qbc,Blk.inB,jd7 _ _ (qaj _)]) (by simp [ptV,hPL,hPS,tvV,Ft.w,u8V,qab]) (by simp) ?_
 rintro r h ⟨rfl,rfl⟩;refine ⟨rfl,by simp [ptH,qbc,Blk.inB,jd7 _ _ (qaj _)],?_⟩;simp [ptH,ptV,hPL,hPS,tvV,Ft.w,u8V,qab,hat,hQL,f0,f1,f2,f3,f4,f5,f6,f8];have hset':Q.set L.length (.agg [.int .i64 (i:Int),.int .i64 (M.length:Int),.int .i64 (N.length:Int)]) = L ++ .agg [.int .i64 (i:Int),.int .i64 ((L.length:Int) + 1),.int .i64 ((L.length:Int) + 1 + (zl:Int))] :: (zt (L.length + 1) ++ ot (L.length + 1 + zl)):=by simpa using hset
 have hQl':Q.length = L.length + (zl + ol + 1):=by rw [hQl,hNl,hMl]; omega
 refine .done ?_;refine ⟨_,?_,gy3,rfl⟩;simp [tvH,ptV,tvV,hPL,hPS,Ft.w,u8V,qab,hset',hQl',hzl,hol]
theorem q6u (c:Ci) (hg:c.good) (f:Ft) (hf:f.ok c) (hm:f.m = 0) (t:List Tn) (g1 g8 g9 ga gb:Nat) (d:DT) (us:List Nat) (a gy:Nat) (L:List V) (p:Pt) (hat:At t d a) (hal:a + d.sz≤t.length) (hok:d.ok p.many us) (hp:p.fit c)
  (h2:∀ k,k < p.many->k ∉ us->p.bit k = 2) (hpr:prB c f d p = true) (hL:jd6 L = true) (hl:L.length + d.sz < 900000000)
  (ih:∀ (d':DT) (us:List Nat) (a gz:Nat) (L:List V) (p:Pt),d'.sz < d.sz->At t d' a->a + d'.sz≤t.length->d'.ok p.many us->p.fit c->(∀ k,k < p.many->k ∉ us->p.bit k = 2)->prB c f d' p = true->jd6 L = true->L.length + d'.sz < 900000000->
   qan Tryz.prog gl0 64 (qab a :: tvV c f (t.map Tn.v) g1 g8 g9) (tvH c f (t.map Tn.v) g1 g8 g9 ga gb gz L p) fun r h=>r = .tup []/\∃ gz',h = tvH c f (t.map Tn.v) g1 g8 g9 ga gb gz' (L ++ ((qb1 c f d' p).fl L.length).map Tn.v) p)
  (fr:Fr) (f0:lk fr 0 = some (qab a)) (f1:lk fr 1 = some (.ptr 9001 g1 0 0)) (f2:lk fr 2 = some (.iptr c.v 0)) (f3:lk fr 3 = some (.iptr f.w 0)) (f4:lk fr 4 = some (.ptr 9008 g8 0 0)) (f5:lk fr 5 = some (.iptr (.sl (t.map Tn.v) none) 0)) (f6:lk fr 6 = some (.ptr 9009 g9 0 0)) (f8:lk fr 8 = some (qab L.length))
  (h:Hp) (hh:Sub (tvH c f (t.map Tn.v) g1 g8 g9 ga gb gy (L ++ [lfN.v]) p) h) :
  r64.wpF Tryz.prog gl0 (qmj [] fun r h=>r = .tup []/\∃ gz',h = tvH c f (t.map Tn.v) g1 g8 g9 ga gb gz' (L ++ ((qb1 c f d p).fl L.length).map Tn.v) p) fr h:=by
 cases d with
 | lf=>exact q6t c hg f hf hm _ (qa6 t) g1 g8 g9 ga gb gy a L.length L p hp hpr fr f0 f1 f2 f3 f4 f5 f6 f8 h hh
 | nd i z o=>
  obtain ⟨o1,o2,o3,o4⟩:=hok;simp only [DT.sz] at hl hal ih
  cases hb:qht c f p with
  | true=>
   rw [show qb1 c f (.nd i z o) p = .lf by rw [qb1,if_pos hb]];exact q6t c hg f hf hm _ (qa6 t) g1 g8 g9 ga gb gy a L.length L p hp hb fr f0 f1 f2 f3 f4 f5 f6 f8 h hh
  | false=>
   rw [show qb1 c f (.nd i z o) p = .nd i (qb1 c f z (p.set i 0)) (qb1 c f o (p.set i 1)) by rw [qb1,if_neg (by rw [hb]; simp)]];simp only [prB,Bool.and_eq_true] at hpr;have hzs:=qma (c:=c) (f:=f) z (p.set i 0);have hos:=qma (c:=c) (f:=f) o (p.set i 1);have hz0:=z.sz_pos;have ho0:=o.sz_pos
   have hpl:p.i.length < 1000/\p.s.length < 1000:=by
    have:=hg.n1; have:=qcd 0 c.n; have:=qcd 14 c.n;rw [hp.i,hp.s]; omega
   have hbits:∀ v k,k < p.many->k ∉ i :: us->(p.set i v).bit k = 2:=fun v k h3 h4=>by
    simp only [List.mem_cons,not_or] at h4;rw [jel o1,if_neg h4.1]; exact h2 k h3 h4.2
   have hmn:∀ v,(p.set i v).many = p.many:=fun v=>by simp [Pt.many]
   have hend:(p.set i 1).set i 2 = p:=qvr o1 (h2 i o1 o2)
   have hta:(t.map Tn.v)[a]'(by simp; omega) = .agg [qab i,qab (a + 1),qab (a + 1 + z.sz)]:=by
    have:=hat.nd;rw [jf4 (by omega)] at this;simp [Option.some.inj this,Tn.v,qab]
   have key:=jdd c hg f hf hm _ (qa6 t) g1 g8 g9 ga gb gy a i (a + 1) (a + 1 + z.sz) L.length L rfl hL p hp hb (fun n=>((qb1 c f z (p.set i 0)).fl n).map Tn.v) (fun n=>((qb1 c f o (p.set i 1)).fl n).map Tn.v)
    (qb1 c f z (p.set i 0)).sz (qb1 c f o (p.set i 1)).sz (fun n=>by simp) (fun n=>by simp) (fun n=>qa6 _) (fun n=>qa6 _) (by omega) o1 hpl hend (by simp; omega) hta
    (fun gz M hM hml=>ih z (i :: us) (a + 1) gz M (p.set i 0) (by omega) hat.z (by omega) (by rw [hmn]; exact o3) (jeu hp i 0 (by omega)) (by rw [hmn]; exact hbits 0) hpr.1 hM (by omega))
    (fun gz M hM hml=>ih o (i :: us) (a + 1 + z.sz) gz M (p.set i 1) (by omega) hat.o (by omega) (by rw [hmn]; exact o4) (jeu hp i 1 (by omega)) (by rw [hmn]; exact hbits 1) hpr.2 hM (by omega))
    fr f0 f1 f2 f3 f4 f5 f6 f8 h hh
   have e:((DT.nd i (qb1 c f z (p.set i 0)) (qb1 c f o (p.set i 1))).fl L.length).map Tn.v = .agg [qab i,qab (L.length + 1),qab (L.length + 1 + (qb1 c f z (p.set i 0)).sz)] :: (((qb1 c f z (p.set i 0)).fl (L.length + 1)).map Tn.v ++ ((qb1 c f o (p.set i 1)).fl (L.length + 1 + (qb1 c f z (p.set i 0)).sz)).map Tn.v):=by
    simp [DT.fl,Tn.v,qab]
   rw [e];exact key
set_option maxRecDepth 100000 in
theorem qyx (c:Ci) (hg:c.good) (f:Ft) (hf:f.ok c) (hm:f.m = 0) (t:List Tn) (g1 g8 g9 ga gb:Nat) :
  ∀ (k:Nat) (d:DT) (us:List Nat) (a gz:Nat) (L:List V) (p:Pt),d.sz < k->At t d a->a + d.sz≤t.length->d.ok p.many us->p.fit c->(∀ k,k < p.many->k ∉ us->p.bit k = 2)->prB c f d p = true->jd6 L = true->L.length + d.sz < 900000000->
   qan Tryz.prog gl0 64 (qab a :: tvV c f (t.map Tn.v) g1 g8 g9) (tvH c f (t.map Tn.v) g1 g8 g9 ga gb gz L p) fun r h=>r = .tup []/\∃ gz',h = tvH c f (t.map Tn.v) g1 g8 g9 ga gb gz' (L ++ ((qb1 c f d p).fl L.length).map Tn.v) p:=by
 intro k
 induction k with
 | zero=>intro d us a gz L p hk; omega
 | succ k ih=>
  intro d us a gz L p hk hat hal hok hp h2 hpr hL hl;have key:=fun gy=>q6u c hg f hf hm t g1 g8 g9 ga gb d us a gy L p hat hal hok hp h2 hpr hL hl (fun d' us a gz L p hd=>ih d' us a gz L p (by omega));have hd0:=d.sz_pos;generalize (fun (r:V) (h:Hp)=>r = .tup []/\∃ gz',h = tvH c f (t.map Tn.v) g1 g8 g9 ga gb gz' (L ++ ((qb1 c f d p).fl L.length).map Tn.v) p) = K at key ⊢;refine jfx ok64 rfl ?_;change x64.wpF _ _ _ _ _;rw [qzx];simp [i64,xs1,xs2,x64,tvV,tvH,qcw];intro gf1 gf2;exact ⟨by omega,key (gf2 17) _ (by simp) (by simp) (by simp) (by simp) (by simp) (by simp) (by simp) (by simp [qab]) _ (by simp [tvH,tvV,lfN,Tn.v])⟩
set_option maxRecDepth 100000 in
theorem qv3 (c:Ci) (hg:c.good) (f:Ft) (hf:f.ok c) (hm:f.m = 0) (t:List Tn) (g1 g8 g9 ga gb:Nat) (d:DT) (p:Pt) (hat:At t d 0) (hal:d.sz≤t.length) (hok:d.ok p.many []) (hp:p.fit c) (h2:∀ k,k < p.many->p.bit k = 2) (hpr:prB c f d p = true) (hl:d.sz < 900000000) :
  qan Tryz.prog gl0 64 (qab 0 :: tvV c f (t.map Tn.v) g1 g8 g9) [(9001,.row g1 1 [.nil]),(9008,.row g8 2 [ptV 9100 ga 9101 gb p]),(9009,.row g9 1 [.fn 64 [] (tvV c f (t.map Tn.v) g1 g8 g9)]),(9100,.row ga 1 (p.i.map u8V)),(9101,.row gb 1 (p.s.map u8V))]
   fun r h=>r = .tup []/\∃ gz',h = tvH c f (t.map Tn.v) g1 g8 g9 ga gb gz' (((qb1 c f d p).fl 0).map Tn.v) p:=by
 have key:=fun gy=>q6u c hg f hf hm t g1 g8 g9 ga gb d [] 0 gy [] p hat (by omega) hok hp (fun k hk _=>h2 k hk) hpr rfl (by simpa using hl) (fun d' us a gz L p hd=>qyx c hg f hf hm t g1 g8 g9 ga gb d.sz d' us a gz L p hd);simp only [List.nil_append,List.length_nil] at key;generalize (fun (r:V) (h:Hp)=>r = .tup []/\∃ gz',h = tvH c f (t.map Tn.v) g1 g8 g9 ga gb gz' (((qb1 c f d p).fl 0).map Tn.v) p) = K at key ⊢;refine jfx ok64 rfl ?_;change x64.wpF _ _ _ _ _;rw [qzx];simp [i64,xs1,xs2,x64,tvV,qcw];intro gf1 gf2;exact key (gf2 17) _ (by simp) (by simp) (by simp) (by simp) (by simp) (by simp) (by simp) (by simp [qab]) _ (by simp [tvH,tvV,lfN,Tn.v])
end
section
open Go
set_option maxRecDepth 100000 in
set_option maxHeartbeats 4000000 in
theorem q2e (c:Ci) (hg:c.good) (hk:c.plain) (f:Ft) (hf:f.ok c) (hm:f.m = 0) (t:List Tn) (ht:t.length < 800000000) (d:DT) (hat:At t d 0) (hal:d.sz≤t.length) (hok:d.ok (cnt 0 c.n + cnt 14 c.n) [])
  (hck:qac Tryz.prog gl0 18 [c.v,f.w,.sl (t.map Tn.v) none] (.int .i64 0)) (hpr:prB c f d (qc6 c) = true) :
  qb5 Tryz.prog gl0 19 [c.v,f.w,.sl (t.map Tn.v) none] (fun v h=>∃ g,v = .tup [.ref 17 g 0 (qb1 c f d (qc6 c)).sz (some (qb1 c f d (qc6 c)).sz),.int .i64 0]/\h = [(17,.row g 3 (((qb1 c f d (qc6 c)).fl 0).map Tn.v))]):=by
 have hbl:=qp3 c hg;have hv:=fun g1 g8 g9 ga gb=>qv3 c hg f hf hm t g1 g8 g9 ga gb d (qc6 c) hat hal (by rw [qms]; exact hok) (qs1 c) (fun k h=>qp4 h) hpr (by omega);have hn1:=hg.n1;have l0:=qcd 0 c.n;have l1:=qcd 14 c.n;have hbi:(qc6 c).i.map u8V = List.replicate (cnt 0 c.n) (.int .u8 2):=by simp [qc6,u8V]
 have hbs:(qc6 c).s.map u8V = List.replicate (cnt 14 c.n) (.int .u8 2):=by simp [qc6,u8V]
 have hil:(qc6 c).i.length = cnt 0 c.n:=by simp [qc6]
 have hsl:(qc6 c).s.length = cnt 14 c.n:=by simp [qc6]
 obtain ⟨T,hT⟩:∃ T,t.map Tn.v = T:=⟨_,rfl⟩;have hTp:jd6 T = true:=by rw [<- hT]; exact qa6 t
 rw [hT] at hck hv ⊢;unfold q7e at hbl;simp only [tvH,ptV,hil,hsl,hbi,hbs] at hv;obtain ⟨X,hX⟩:∃ X,((qb1 c f d (qc6 c)).fl 0).map Tn.v = X:=⟨_,rfl⟩;have hXl:X.length = (qb1 c f d (qc6 c)).sz:=by rw [<- hX]; simp
 rw [hX] at hv ⊢;rw [<- hXl];generalize cnt 0 c.n = A at *;generalize cnt 14 c.n = B at *;have hpA:jd6 (List.replicate A (V.int .u8 2)) = true:=qdr A;have hpB:jd6 (List.replicate B (V.int .u8 2)) = true:=qdr B;simp only [tvV,Ft.w,u8V,qab] at hck hv;refine qb5.of_WM 8 ok19 rfl ?_;simp [i19,x19,Ft.w,u8V,qab];intro gf1 gf2 gf3;generalize gf1 3 = g3;generalize gf2 4 = g4;generalize gf3 5 = g5;refine KM.mk (.done ?_);simp;refine jfq hck (by simp [hTp]) ?_;simp;refine KM.mk (.done ?_);simp;intro gf0;generalize gf0 9 = g1;refine KM.mk (.move 9 9001 _ (by simp) (by simp; rfl) fun g1'=>.done ?_);simp [qcy _ (qb2 c),qa0 _ hTp,Blk.rn];refine CallO.own 9100 hbl (by simp) (by simp) ?_;rintro v h ⟨q1,q2,rfl,rfl⟩ gf4;simp [upH,upS,Blk.rn];intro gf5;generalize gf5 10 = g8;generalize gf4 9100 + q1 = ga;generalize gf4 9101 + q2 = gb;refine KM.mk (.done ?_);simp;intro gf6;generalize gf6 11 = g9;have hTr:∀ (f:Nat->Nat->Nat->Nat->Option Nat->V) (q:Nat->Nat->Nat->Nat->V),jd8 f q T = T:=fun _ _=>qae _ hTp;have hAr:∀ (f:Nat->Nat->Nat->Nat->Option Nat->V) (q:Nat->Nat->Nat->Nat->V),jd8 f q (List.replicate A (V.int .u8 2)) = List.replicate A (V.int .u8 2):=fun _ _=>qae _ hpA;have hBr:∀ (f:Nat->Nat->Nat->Nat->Option Nat->V) (q:Nat->Nat->Nat->Nat->V),jd8 f q (List.replicate B (V.int .u8 2)) = List.replicate B (V.int .u8 2):=fun _ _=>qae _ hpB;have hcp:∀ (f:Nat->Nat->Nat->Nat->Option Nat->V) (q:Nat->Nat->Nat->Nat->V),V.mapR f q c.v = c.v:=fun _ _=>qap _ (qb2 c);have mA:∀ b g es,List.map (fzV b g es) (List.replicate A (V.int .u8 2)) = List.replicate A (V.int .u8 2):=fun _ _ _=>qdp hpA;have mB:∀ b g es,List.map (fzV b g es) (List.replicate B (V.int .u8 2)) = List.replicate B (V.int .u8 2):=fun _ _ _=>qdp hpB;refine KM.mk (.frz (g:=g3) (sz:=4) (es:=[c.v]) 3 (by simp) (by simp) (.frz (g:=g4) (sz:=5) (es:=[f.w]) 4 (by simp [fzH,Blk.fz,fzV,V.mapR,jd8,Ft.w,u8V,qab]) (by simp) (.frz (g:=g5) (sz:=1) (es:=[.sl T none]) 5 (by simp [fzH,Blk.fz,fzV,V.mapR,jd8,hTr]) (by simp [jd6,V.pure,hTp]) ?_)));simp [fzF,fzH,fzV,Blk.fz,V.mapR,jd8,fzp,fzf,hTr,hAr,hBr,hcp,mA,mB,qap _ (qlk f),Ft.w,u8V,qab];refine .move 10 9008 _ (by simp) (by simp; rfl) fun g8'=>.move 11 9009 _ (by simp) (by simp; rfl) fun g9'=>.done ?_;simp [qaz hpA,qaz hpB,qa0 _ hTp,qcy _ (qb2 c),Blk.rn];have hv':=hv g1' g8' g9' ga gb;refine KM.mk (.done ?_);simp;refine qan.sub ?_ (qan.mono hv' ?_)
 ·simp
 ·rintro r h ⟨rfl,gz,rfl⟩;simp;refine KM.mk (.done ?_);simp;refine KM.mk (.done ?_);simp;refine .done ?_;simp
theorem q66 (c:Ci) (hg:c.good) (hk:c.plain) (f:Ft) (hf:f.ok c) (hm:f.m = 0) (d:DT) (hs:d.sz < 800000000) (hok:d.ok (cnt 0 c.n + cnt 14 c.n) []) (hpr:prB c f d (qc6 c) = true) :
  qac Tryz.prog gl0 19 [c.v,f.w,.sl ((d.fl 0).map Tn.v) none] (.tup [.sl (((qb1 c f d (qc6 c)).fl 0).map Tn.v) (some (qb1 c f d (qc6 c)).sz),.int .i64 0]):=by
 have hck:=qp6 c hg hk f hf hm d hok (by omega);rw [if_pos hpr] at hck;refine jeq 2 (q2e c hg hk f hf hm _ (by simpa using hs) d (At.fl d) (by simp) hok hck hpr) ?_;rintro v h ⟨g,rfl,rfl⟩;have hp:jd6 (((qb1 c f d (qc6 c)).fl 0).map Tn.v) = true:=qa6 _;rw [qh5,qd3 (sz:=3) (es:=((qb1 c f d (qc6 c)).fl 0).map Tn.v) (by simp) (by simp),List.drop_zero,jf2 (by simp),qer _ _ hp];exact .refl _
end
end Go.Proofs.YtpaopccohkldlaaGreatDoor
