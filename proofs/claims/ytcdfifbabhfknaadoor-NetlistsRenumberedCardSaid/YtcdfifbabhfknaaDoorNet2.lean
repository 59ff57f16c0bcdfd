/- Netlists: contracts, the reference's Fanout. Conditions: none. Netlists: contracts, the look for a net outside. Conditions: none. Families of blocks that grow by append. Conditions: none. Netlists: contracts, Fanout. Conditions: none. -/
import Derived.Test.YtcdfifbabhfknaaDoorNet1
set_option linter.unusedSimpArgs false
set_option linter.unusedVariables false
namespace Go.Proofs.YtcdfifbabhfknaaDoor
open Go
def lineV (i k : Nat) : V:=.agg [.int .i64 (i : Int),.int .i64 (k : Int)]
def pinL (w : Int) (i : Nat) : List Int→Nat→List V
 | [],_=>[]
 | x :: r,k=>if x = w then lineV i k :: pinL w i r (k + 1) else pinL w i r (k + 1)
def rfanL (w : Int) : List Nd→Nat→List V
 | [],_=>[]
 | n :: r,i=>pinL w i n.i 0 ++ rfanL w r (i + 1)
end Go.Proofs.YtcdfifbabhfknaaDoor
namespace Go.Proofs.YtcdfifbabhfknaaDoor
open Go
theorem ci_pure (c : Ci) : c.v.pure = true:=by simp [Ci.v]
theorem outside_c (c : Ci) : PureC Tryd.prog gl0 47 [c.v] (.fn 78 [] [.iptr c.v 0]):=by
 refine PureC.of_W 2 ok47 rfl ?_
 simp [i47,x47,Ci.v,mapRL_pure]
theorem outsideF_c (c : Ci) (i : Int) : PureC Tryd.prog gl0 78 [.int .i64 i,.iptr c.v 0] (.bool (decide (i < 0) || decide ((c.n.length : Int) ≤ i))):=by
 refine PureC.of_W 2 ok78 rfl ?_
 simp [i78,x78,Ci.v]
 refine BrB.of (fun h1=>?_) (fun h1=>?_)
 ·simp [h1]
 ·simp [h1]
end Go.Proofs.YtcdfifbabhfknaaDoor
namespace Go.Proofs.YtcdfifbabhfknaaDoor
open Go
abbrev Fam:=List (Option (Nat × List V))
def famH (sz b : Nat) : Fam→Hp
 | []=>[]
 | x :: r=>accH b sz x ++ famH sz (b + 1) r
def famV (b : Nat) : Fam→List V
 | []=>[]
 | x :: r=>accV b x :: famV (b + 1) r
theorem famV_length (b : Nat) (L : Fam) : (famV b L).length = L.length:=by
 induction L generalizing b with
 | nil=>rfl
 | cons x r ih=>simp [famV,ih]
theorem famV_get (b : Nat) (L : Fam) (i : Nat) (h : i < L.length) : (famV b L)[i]'(by rw [famV_length]; exact h) = accV (b + i) L[i]:=by
 induction L generalizing b i with
 | nil=>simp at h
 | cons x r ih=>
  cases i with
  | zero=>simp [famV]
  | succ i=>
   simp only [famV,List.getElem_cons_succ]
   rw [ih (b + 1) i (by simpa using h),show b + 1 + i = b + (i + 1) by omega]
theorem lk_famH_low (sz b : Nat) (L : Fam) (t : Nat) (h : t < b) : lk (famH sz b L) t = none:=by
 induction L generalizing b with
 | nil=>rfl
 | cons x r ih=>
  have:=ih (b + 1) (by omega)
  cases x with
  | none=>simpa [famH,accH] using this
  | some p=>
   obtain ⟨g,l⟩:=p
   have hne : ¬ t = b:=by omega
   simp [famH,accH,lk,hne,this]
theorem lk_famH (sz b : Nat) (L : Fam) (i : Nat) (h : i < L.length) : lk (famH sz b L) (b + i) = match L[i] with | some (g,l)=>some (.row g sz l) | none=>none:=by
 induction L generalizing b i with
 | nil=>simp at h
 | cons x r ih=>
  cases i with
  | zero=>
   cases x with
   | none=>simpa [famH,accH] using lk_famH_low sz (b + 1) r b (by omega)
   | some p=>obtain ⟨g,l⟩:=p; simp [famH,accH,lk]
  | succ i=>
   have:=ih (b + 1) i (by simpa using h)
   rw [show b + 1 + i = b + (i + 1) by omega] at this
   have hne : ¬ b + (i + 1) = b:=by omega
   cases x with
   | none=>simpa [famH,accH] using this
   | some p=>obtain ⟨g,l⟩:=p; simpa [famH,accH,lk] using this
theorem famV_set (b : Nat) (L : Fam) (i : Nat) (x : Option (Nat × List V)) : (famV b L).set i (accV (b + i) x) = famV b (L.set i x):=by
 induction L generalizing b i with
 | nil=>rfl
 | cons y r ih=>
  cases i with
  | zero=>simp [famV]
  | succ i=>
   simp only [famV,List.set_cons_succ]
   rw [← ih (b + 1) i,show b + 1 + i = b + (i + 1) by omega]
end Go.Proofs.YtcdfifbabhfknaaDoor
namespace Go.Proofs.YtcdfifbabhfknaaDoor
open Go
theorem sub_app {a b c : Hp} : Sub (a ++ b) c↔Sub a c∧Sub b c:=by
 induction a with
 | nil=>simp [Sub]
 | cons p r ih=>obtain ⟨k,v⟩:=p; simp [Sub,ih,and_assoc]
theorem sub_famH (sz b : Nat) (L : Fam) (h : Hp) (hk : ∀ i (hi : i < L.length) g l,L[i] = some (g,l)→lk h (b + i) = some (.row g sz l)) : Sub (famH sz b L) h:=by
 induction L generalizing b with
 | nil=>trivial
 | cons x r ih=>
  simp only [famH,sub_app]
  refine ⟨?_,ih (b + 1) fun i hi g l he=>?_⟩
  ·cases x with
   | none=>trivial
   | some p=>obtain ⟨g,l⟩:=p; exact ⟨by simpa using hk 0 (by simp) g l rfl,trivial⟩
  ·have:=hk (i + 1) (by simpa using hi) g l (by simpa using he)
   rwa [show b + (i + 1) = b + 1 + i by omega] at this
end Go.Proofs.YtcdfifbabhfknaaDoor
namespace Go.Proofs.YtcdfifbabhfknaaDoor
open Go
theorem famV_rn (s : Nat→Nat→Nat × Nat) (b : Nat) (L : Fam) (h : ∀ i g,b ≤ i→s i g = (i,g)) : (famV b L).map (V.rn s) = famV b L:=by
 induction L generalizing b with
 | nil=>rfl
 | cons x r ih=>
  have h1:=ih (b + 1) fun i g hi=>h i g (by omega)
  simp only [famV,List.map_cons,h1]
  congr 1
  cases x with
  | none=>rfl
  | some p=>obtain ⟨g,l⟩:=p; simp [accV,V.rn,h b g (Nat.le_refl _)]
theorem mvS_ge (b g b' g' base : Nat) (h : b < base) : ∀ i y,base ≤ i→mvS b g b' g' i y = (i,y):=by
 intro i y hi
 have : ¬ i = b:=by omega
 simp [mvS,this]
end Go.Proofs.YtcdfifbabhfknaaDoor
namespace Go.Proofs.YtcdfifbabhfknaaDoor
open Go
def linesV (L : List V) : V:=.sl L (some L.length)
def clipV (b : Nat) : Option (Nat × List V)→V
 | none=>.sl [] (some 0)
 | some (g,l)=>.ref b g 0 l.length (some l.length)
def clipF (b : Nat) : Fam→List V
 | []=>[]
 | x :: r=>clipV b x :: clipF (b + 1) r
theorem clipF_length (b : Nat) (L : Fam) : (clipF b L).length = L.length:=by
 induction L generalizing b with
 | nil=>rfl
 | cons x r ih=>simp [clipF,ih]
theorem clipF_append (b : Nat) (L M : Fam) : clipF b (L ++ M) = clipF b L ++ clipF (b + L.length) M:=by
 induction L generalizing b with
 | nil=>rfl
 | cons x r ih=>simp [clipF,ih,show b + 1 + r.length = b + (r.length + 1) by omega]
def fanVs (c : Ci) : List V:=(List.range c.n.length).map fun (j : Nat)=>linesV (rfanL (j : Int) c.n 0)
theorem fam_get2 (b : Nat) (L : Fam) (i : Nat) {x : Option (Nat × List V)} (h : L[i]? = some x) (hi : i < (famV b L).length) : (famV b L)[i] = accV (b + i) x:=by
 obtain ⟨h1,h2⟩:=List.getElem?_eq_some_iff.1 h
 rw [famV_get b L i h1,h2]
theorem famV_none (b n : Nat) : famV b (List.replicate n none) = List.replicate n .nil:=by
 induction n generalizing b with
 | zero=>rfl
 | succ n ih=>simp [List.replicate_succ,famV,accV,ih]
theorem famH_none (sz b n : Nat) : famH sz b (List.replicate n none) = []:=by
 induction n generalizing b with
 | zero=>rfl
 | succ n ih=>simp [List.replicate_succ,famH,accH,ih]
def FanI (c : Ci) (i k : Nat) (L : Fam) : Prop:=L.length = c.n.length∧∀ (j : Nat) x,L[j]? = some x→(x = none∨accL x ≠ [])∧V.pureL (accL x) = true∧accL x ++ (pinL j i ((c.n.getD i default).i.drop k) k ++ rfanL j (c.n.drop (i + 1)) (i + 1)) = rfanL j c.n 0
theorem FanI.start (c : Ci) : FanI c 0 0 (List.replicate c.n.length none):=by
 refine ⟨by simp,fun j x hj=>?_⟩
 rw [List.getElem?_replicate] at hj
 split at hj
 ·rename_i h
  cases hj
  refine ⟨.inl rfl,rfl,?_⟩
  cases hn : c.n with
  | nil=>rw [hn] at h; simp at h
  | cons a r=>simp [accL,rfanL]
 ·cases hj
theorem FanI.next {c : Ci} {i k : Nat} {L : Fam} (h : FanI c i k L) (hk : (c.n.getD i default).i.length ≤ k) (hi : i < c.n.length) : FanI c (i + 1) 0 L:=by
 refine ⟨h.1,fun j x hj=>?_⟩
 obtain ⟨h1,h2,h3⟩:=h.2 j x hj
 refine ⟨h1,h2,?_⟩
 rw [List.drop_eq_nil_of_le hk] at h3
 rw [← h3]
 congr 1
 simp only [pinL,List.nil_append]
 by_cases hn : i + 1 < c.n.length
 ·rw [List.drop_eq_getElem_cons hn]
  simp [rfanL,hn]
 ·have e1 : c.n.getD (i + 1) default = default:=by simp [List.getD_eq_getElem?_getD,hn]
  have e2 : (default : Nd).i = []:=rfl
  rw [List.drop_eq_nil_of_le (show c.n.length ≤ i + 1 by omega),List.drop_eq_nil_of_le (show c.n.length ≤ i + 1 + 1 by omega),e1,e2]
  simp [rfanL,pinL]
theorem FanI.skip {c : Ci} {i k : Nat} {L : Fam} (h : FanI c i k L) (hk : k < (c.n.getD i default).i.length) (hx : ∀ j : Nat,j < c.n.length→(c.n.getD i default).i[k] ≠ (j : Int)) : FanI c i (k + 1) L:=by
 refine ⟨h.1,fun j x hj=>?_⟩
 obtain ⟨h1,h2,h3⟩:=h.2 j x hj
 refine ⟨h1,h2,?_⟩
 rw [List.drop_eq_getElem_cons hk] at h3
 have hjl : j < c.n.length:=by rw [← h.1]; exact (List.getElem?_eq_some_iff.1 hj).1
 simp only [pinL,if_neg (hx j hjl)] at h3
 exact h3
theorem FanI.add {c : Ci} {i k : Nat} {L : Fam} (h : FanI c i k L) (hk : k < (c.n.getD i default).i.length) {m : Nat} {x : Option (Nat × List V)} (hm : L[m]? = some x) (hx : (c.n.getD i default).i[k] = (m : Int)) (g : Nat) : FanI c i (k + 1) (L.set m (some (g,accL x ++ [lineV i k]))):=by
 refine ⟨by simpa using h.1,fun j y hj=>?_⟩
 rw [List.getElem?_set] at hj
 by_cases hjm : m = j
 ·subst hjm
  have hl : m < L.length:=(List.getElem?_eq_some_iff.1 hm).1
  simp [hl] at hj
  subst hj
  obtain ⟨h1,h2,h3⟩:=h.2 m x hm
  refine ⟨.inr (by simp [accL]),pureL_append h2 rfl,?_⟩
  rw [List.drop_eq_getElem_cons hk] at h3
  simp only [pinL,if_pos hx] at h3
  rw [← h3]
  simp only [accL.eq_2]
  simp
 ·rw [if_neg hjm] at hj
  obtain ⟨h1,h2,h3⟩:=h.2 j y hj
  refine ⟨h1,h2,?_⟩
  rw [List.drop_eq_getElem_cons hk] at h3
  have : ¬ (c.n.getD i default).i[k] = (j : Int):=by rw [hx]; omega
  simp only [pinL,if_neg this] at h3
  exact h3
theorem FanI.len {c : Ci} {i k : Nat} {L : Fam} (h : FanI c i k L) {m : Nat} {x : Option (Nat × List V)} (hm : L[m]? = some x) : (accL x).length ≤ (rfanL m c.n 0).length:=by
 obtain ⟨h1,h2,h3⟩:=h.2 m x hm
 rw [← h3]; simp
def famB (sz : Nat) : Option (Nat × List V)→Option Blk
 | some (g,l)=>some (.row g sz l)
 | none=>none
theorem lk_fam2 (sz b : Nat) (L : Fam) (i : Nat) {x : Option (Nat × List V)} (h : L[i]? = some x) : lk (famH sz b L) (b + i) = famB sz x:=by
 obtain ⟨h1,h2⟩:=List.getElem?_eq_some_iff.1 h
 rw [lk_famH sz b L i h1,h2]
 cases x <;> rfl
theorem sub_famH2 (sz b : Nat) (L : Fam) (h : Hp) (hk : ∀ (i g : Nat) l,L[i]? = some (some (g,l))→lk h (b + i) = some (.row g sz l)) : Sub (famH sz b L) h:=
 sub_famH sz b L h fun i hi g l he=>hk i g l (by rw [List.getElem?_eq_getElem hi,he])
theorem sub_fam_set {sz b : Nat} {L : Fam} {h : Hp} {m g : Nat} {l : List V} (hm : lk h (b + m) = some (.row g sz l)) (ho : ∀ (i g : Nat) l,i ≠ m→L[i]? = some (some (g,l))→lk h (b + i) = some (.row g sz l)) : Sub (famH sz b (L.set m (some (g,l)))) h:=by
 refine sub_famH2 _ _ _ _ fun i g2 l2 hi=>?_
 rw [List.getElem?_set] at hi
 by_cases e : m = i
 ·subst e
  by_cases hl : m < L.length
  ·simp [hl] at hi
   obtain ⟨rfl,rfl⟩:=hi
   exact hm
  ·simp [hl] at hi
 ·rw [if_neg e] at hi
  exact ho i g2 l2 (fun q=>e q.symm) hi
theorem lk_fam_mv {sz base : Nat} {L : Fam} {b b' g : Nat} {s : Nat→Nat→Nat × Nat} {i g2 : Nat} {l : List V} (hne : b ≠ b') (h1 : ¬ base + i = b') (h2 : ¬ base + i = b) (hi : L[i]? = some (some (g2,l))) (hp : V.pureL l = true) : lk (mvH s b b' g (famH sz base L)) (base + i) = some (.row g2 sz l):=by
 rw [lk_mvH hne,if_neg h1,if_neg h2,lk_fam2 sz base L i hi]
 simp [famB,map_rn_pure hp]
theorem sub_fam_keep {sz b : Nat} {L : Fam} {h : Hp} (hk : ∀ t,b ≤ t→lk h t = lk (famH sz b L) t) : Sub (famH sz b L) h:=
 sub_famH2 _ _ _ _ fun i g l hi=>by rw [hk _ (by omega),lk_fam2 sz b L i hi]; rfl
def mixF (b i : Nat) (L : Fam) : List V:=clipF b (L.take i) ++ famV (b + i) (L.drop i)
theorem mixF_zero (b : Nat) (L : Fam) : mixF b 0 L = famV b L:=by simp [mixF,clipF]
theorem mixF_all (b : Nat) (L : Fam) : mixF b L.length L = clipF b L:=by simp [mixF,famV]
theorem mixF_length (b i : Nat) (L : Fam) (h : i ≤ L.length) : (mixF b i L).length = L.length:=by simp [mixF,clipF_length,famV_length]; omega
theorem mixF_get (b i : Nat) (L : Fam) {x : Option (Nat × List V)} (h : L[i]? = some x) (hi : i < (mixF b i L).length) : (mixF b i L)[i] = accV (b + i) x:=by
 obtain ⟨h1,h2⟩:=List.getElem?_eq_some_iff.1 h
 have e : (clipF b (L.take i)).length = i:=by simp [clipF_length]; omega
 have:=fam_get2 (b + i) (L.drop i) 0 (x:=x) (by simpa using h) (by rw [famV_length]; simp; omega)
 have k : (mixF b i L)[i]? = some (accV (b + i) x):=by
  unfold mixF
  rw [List.getElem?_append_right (by omega),e,Nat.sub_self,List.getElem?_eq_getElem (by rw [famV_length]; simp; omega),this,Nat.add_zero]
 rw [List.getElem?_eq_getElem hi] at k
 exact Option.some.inj k
theorem mixF_set (b i : Nat) (L : Fam) {x : Option (Nat × List V)} (h : L[i]? = some x) : (mixF b i L).set i (clipV (b + i) x) = mixF b (i + 1) L:=by
 obtain ⟨h1,h2⟩:=List.getElem?_eq_some_iff.1 h
 have e : (clipF b (L.take i)).length = i:=by simp [clipF_length]; omega
 unfold mixF
 rw [List.set_append_right _ _ (by omega),e,Nat.sub_self,List.drop_eq_getElem_cons h1]
 simp only [famV,List.set_cons_zero]
 rw [List.take_succ_eq_append_getElem h1,clipF_append,h2]
 simp [clipF,Nat.add_assoc]
 rw [Nat.min_eq_left (by omega)]
theorem frz_clipF {sz : Nat} (b : Nat) (L : Fam) (h : Hp) (n : Nat) (hk : ∀ (i g : Nat) l,L[i]? = some (some (g,l))→lk h (b + i) = some (.row g sz l)∧V.pureL l = true) : (clipF b L).map (frz h (n + 1)) = L.map fun x=>linesV (accL x):=by
 induction L generalizing b with
 | nil=>rfl
 | cons x r ih=>
  simp only [clipF,List.map_cons]
  rw [ih (b + 1) fun i g l hi=>by have:=hk (i + 1) g l (by simpa using hi); rwa [show b + (i + 1) = b + 1 + i by omega] at this]
  congr 1
  cases x with
  | none=>simp [clipV,linesV,accL]
  | some p=>
   obtain ⟨g,l⟩:=p
   obtain ⟨q1,q2⟩:=hk 0 g l (by simp)
   rw [Nat.add_zero] at q1
   simp only [clipV]
   rw [frz_ref q1 (by omega),List.drop_zero,List.take_length,frz_all h n q2]
   rfl
theorem clip48_nil {K : V→Hp→Prop} {h : Hp} (h2 : Hp) (hs : Sub h2 h) (hk : K (.sl [] (some 0)) h2) : ICallO Tryd.prog gl0 48 [.nil] h K:=by
 refine CallO.of_W ok48 rfl ?_
 simp [i48,x48]
 exact .done (by simpa using ⟨h2,hs,hk⟩)
theorem clip48_ref {K : V→Hp→Prop} {h : Hp} {b g l : Nat} {cap : Option Nat} {es : List V} (hb : lk h b = some (.row g 2 es)) (h2 : Hp) (hs : Sub h2 h) (hk : K (.ref b g 0 l (some l)) h2) : ICallO Tryd.prog gl0 48 [.ref b g 0 l cap] h K:=by
 refine CallO.of_W ok48 rfl ?_
 simp [i48,x48,hb]
 exact .done (by simpa using ⟨h2,hs,hk⟩)
theorem fanout_c (c : Ci) (hl : c.n.length < 1000000) (hin : ∀ n ∈ c.n,n.i.length < 10000000) (hq : ∀ j,(rfanL j c.n 0).length ≤ 1000000000) : PureC Tryd.prog gl0 19 [c.v] (.sl (fanVs c) (some c.n.length)):=by
 refine PureC.of_W 2 ok19 rfl ?_
 simp [i19,x19,Ci.v]
 intro gf gf2
 have : c.n.length ≤ 549755813888:=by omega
 simp [this]
 refine CallO.pure (outside_c c) (by simp) ?_
 simp
 generalize gf 1 = g1
 generalize gf2 14 = g14
 clear gf gf2
 refine LoopP.of (X:=Nat × Fam) (fun x=>[(20,.int .i64 (x.1 : Int)),(19,.int .i64 (c.n.length : Int)),(18,.sl (c.n.map Nd.v) none),(4,.fn 78 [] [.iptr c.v 0]),(3,.ref 14 g14 0 c.n.length (some c.n.length)),(1,.ptr 1 g1 0 0)])
  (fun x=>(14,.row g14 1 (famV 1000 x.2)) :: (1,.row g1 4 [c.v]) :: famH 2 1000 x.2)
  (fun x=>x.1 ≤ c.n.length∧FanI c x.1 0 x.2) (fun x=>c.n.length - x.1) (0,List.replicate c.n.length none) ?_ ?_ ?_ ?_
 ·exact ⟨by simp,FanI.start c⟩
 ·simp
 ·simp [famV_none,famH_none,Ci.v]
 ·rintro ⟨i,L⟩ ⟨h1,h2⟩
  dsimp only at h1 h2
  simp
  refine BrB.of (fun hb=>?_) (fun hb=>?_)
  ·have hi : i < c.n.length:=of_decide_eq_true hb
   have hw : IntKind.i64.wrap ((i : Int) + 1) = ((i + 1 : Nat) : Int):=by rw [wrap_i64] <;> omega
   have hni:=hin c.n[i] (List.getElem_mem hi)
   have hnd : c.n.getD i default = c.n[i]:=by simp [hi]
   simp [hi,Nd.v]
   intro gf6
   generalize gf6 6 = g6
   refine LoopP.ofM (X:=Nat × Fam) (fun x=>[(28,.int .i64 (x.1 : Int)),(27,.int .i64 (c.n[i].i.length : Int)),(26,.sl (ints c.n[i].i) none),(5,.int .i64 (i : Int)),(20,.int .i64 (i : Int)),(19,.int .i64 (c.n.length : Int)),(18,.sl (c.n.map Nd.v) none),(4,.fn 78 [] [.iptr c.v 0]),(3,.ref 14 g14 0 c.n.length (some c.n.length)),(1,.ptr 1 g1 0 0)])
    (fun x=>(14,.row g14 1 (famV 1000 x.2)) :: (1,.row g1 4 [c.v]) :: famH 2 1000 x.2)
    (fun x=>x.1 ≤ c.n[i].i.length∧FanI c i x.1 x.2) (fun x=>c.n[i].i.length - x.1) ?_ ?_
   ·refine .done ⟨(0,L),⟨by simp,h2⟩,by simp,?_⟩
    simp
    exact sub_fam_keep fun t ht=>by simp [show ¬ t = 6 by omega,show ¬ t = 14 by omega,show ¬ t = 1 by omega]
   ·clear h2 L
    rintro ⟨k,L⟩ ⟨h3,h2⟩
    dsimp only at h2 h3
    simp
    refine BrB.of (fun hc=>?_) (fun hc=>?_)
    ·have hk : k < c.n[i].i.length:=of_decide_eq_true hc
     have hwk : IntKind.i64.wrap ((k : Int) + 1) = ((k + 1 : Nat) : Int):=by rw [wrap_i64] <;> omega
     simp [hk,ints_getE]
     refine CallO.pure (outsideF_c c _) (by simp [Ci.v]) ?_
     simp
     refine BrB.of (fun ho=>?_) (fun ho=>?_)
     ·simp at ho
      obtain ⟨m,hm⟩ : ∃ m : Nat,c.n[i].i[k] = (m : Int):=⟨c.n[i].i[k].toNat,by omega⟩
      have hml : m < c.n.length:=by omega
      have hmL : m < L.length:=by rw [h2.1]; exact hml
      obtain ⟨x,hx⟩ : ∃ x,L[m]? = some x:=⟨_,List.getElem?_eq_getElem hmL⟩
      have hk' : k < (c.n.getD i default).i.length:=by rw [hnd]; exact hk
      have hm' : (c.n.getD i default).i[k] = (m : Int):=by simp only [hnd]; exact hm
      have hlk:=lk_fam2 2 1000 L m hx
      have hadd:=fun g=>h2.add hk' hx hm' g
      have hlen:=h2.len hx
      have hqm:=hq m
      have hpu:=(h2.2 m _ hx).2.1
      have hfv : m < (famV 1000 L).length:=by rw [famV_length]; exact hmL
      have hget:=fam_get2 1000 L m hx hfv
      rw [hm]
      simp [hml,hget,famV_length,hmL]
      cases x with
      | none=>
       simp [accV,hwk,hml,hget,famV_length,hmL]
       refine fun gf1 gf2=>.move 47 (1000 + m) _ (by omega) (by simp; rfl) fun g2=>.done ⟨k + 1,L.set m (some (g2,[lineV i k])),?_⟩
       have n1 : ¬ 1000 + m = 47:=by omega
       have n2 : ¬ 1000 + m = 14:=by omega
       have n3 : ¬ 1000 + m = 1:=by omega
       have n4 : ¬ 14 = 1000 + m:=by omega
       have n5 : ¬ 1 = 1000 + m:=by omega
       have n6 : ¬ 46 = 1000 + m:=by omega
       have n7 : ¬ 47 = 1000 + m:=by omega
       refine ⟨⟨hk,hadd g2⟩,?_⟩
       have hfr:=famV_rn (mvS 47 (gf2 47) (1000 + m) g2) 1000 L (mvS_ge _ _ _ _ _ (by omega))
       simp [n4,n5,n6,n7,rnL_pure _ (nds_pure _),rnL_pure _ (ints_pure _),rn_pure _ (ci_pure c),List.map_set,hfr,← famV_set,accV,lineV]
       refine ⟨sub_fam_set (by simp [n2]) fun j g3 l3 hj hL=>?_,by omega⟩
       have q1 : ¬ 1000 + j = 1000 + m:=by omega
       have q2 : ¬ 1000 + j = 14:=by omega
       have q3 : ¬ 1000 + j = 46:=by omega
       have q4 : ¬ 1000 + j = 1:=by omega
       have q5 : ¬ 1000 + j = 47:=by omega
       have q6:=(h2.2 j _ hL).2.1
       simp [hj,q2,q3,q4,lk_fam_mv (s:=mvS 47 (gf2 47) (1000 + m) g2) (g:=g2) (b:=47) (by omega) q1 q5 hL q6]
      | some p=>
       obtain ⟨g,l⟩:=p
       simp only [accL] at hlen hpu
       have hle : l.length + 1 ≤ 274877906944:=by omega
       have n1 : ¬ 1000 + m = 46:=by omega
       have n2 : ¬ 1000 + m = 14:=by omega
       have n3 : ¬ 1000 + m = 1:=by omega
       have n4 : ¬ 14 = 1000 + m:=by omega
       simp [accV,hwk,hml,hget,famV_length,hmL,hlk,famB,hle,n1,n2,n3,n4]
       refine fun gf1 gf2=>.done ⟨k + 1,L.set m (some (gf2 (1000 + m),l ++ [lineV i k])),?_⟩
       refine ⟨⟨hk,hadd _⟩,?_⟩
       have n5 : ¬ 1 = 1000 + m:=by omega
       simp [n5,← famV_set,accV,lineV]
       refine ⟨sub_fam_set (by simp [n2]) fun j g3 l3 hj hL=>?_,by omega⟩
       have q1 : ¬ 1000 + j = 1000 + m:=by omega
       have q2 : ¬ 1000 + j = 14:=by omega
       have q3 : ¬ 1000 + j = 46:=by omega
       have q4 : ¬ 1000 + j = 1:=by omega
       simp [hj,q2,q3,q4,lk_fam2 2 1000 L j hL,famB]
     ·simp at ho
      simp [hwk]
      have hk' : k < (c.n.getD i default).i.length:=by rw [hnd]; exact hk
      refine .done ⟨k + 1,L,⟨hk,h2.skip hk' ?_⟩,by simp,?_,by omega⟩
      ·intro j hj e
       simp only [hnd] at e
       omega
      ·simp
       exact sub_fam_keep fun t ht=>by simp [show ¬ t = 14 by omega,show ¬ t = 1 by omega]
    ·have hk : ¬ k < c.n[i].i.length:=of_decide_eq_false hc
     simp [hw]
     refine ⟨i + 1,L,⟨by omega,h2.next (by rw [hnd]; omega) hi⟩,rfl,⟨rfl,?_⟩,by omega⟩
     exact sub_fam_keep fun t ht=>by simp [show ¬ t = 14 by omega,show ¬ t = 1 by omega]
  ·have hi : i = c.n.length:=by have:=of_decide_eq_false hb; omega
   subst hi
   simp
   refine LoopP.of (X:=Nat) (fun x=>[(53,.int .i64 (x : Int)),(52,.int .i64 (c.n.length : Int)),(51,.ref 14 g14 0 c.n.length (some c.n.length)),(3,.ref 14 g14 0 c.n.length (some c.n.length))])
    (fun x=>(14,.row g14 1 (mixF 1000 x L)) :: famH 2 1000 L)
    (fun x=>x ≤ c.n.length) (fun x=>c.n.length - x) 0 ?_ ?_ ?_ ?_
   ·simp
   ·simp
   ·simp [mixF_zero]
    exact sub_fam_keep fun t ht=>by simp [show ¬ t = 14 by omega,show ¬ t = 1 by omega]
   ·rintro i h3
    simp
    refine BrB.of (fun hb=>?_) (fun hb=>?_)
    ·have hi : i < c.n.length:=of_decide_eq_true hb
     have hiL : i < L.length:=by rw [h2.1]; exact hi
     have hw : IntKind.i64.wrap ((i : Int) + 1) = ((i + 1 : Nat) : Int):=by rw [wrap_i64] <;> omega
     obtain ⟨x,hx⟩ : ∃ x,L[i]? = some x:=⟨_,List.getElem?_eq_getElem hiL⟩
     have hml : (mixF 1000 i L).length = c.n.length:=by rw [mixF_length _ _ _ (by omega),h2.1]
     have hget:=mixF_get 1000 i L hx (by rw [hml]; exact hi)
     have hlk:=lk_fam2 2 1000 L i hx
     have hset:=mixF_set 1000 i L hx
     simp [hi,hml,hget]
     cases x with
     | none=>
      simp [accV]
      have hsub : Sub ((14,Blk.row g14 1 (mixF 1000 i L)) :: famH 2 1000 L) ((14,Blk.row g14 1 (mixF 1000 i L)) :: famH 2 1000 L):=⟨by simp,sub_fam_keep fun t ht=>by simp [show ¬ t = 14 by omega]⟩
      refine clip48_nil _ hsub ?_
      simp [hi,hml,hget,accV]
      refine ⟨i + 1,by omega,hw,⟨hset,?_⟩,by omega⟩
      exact sub_fam_keep fun t ht=>by simp [show ¬ t = 14 by omega]
     | some p=>
      obtain ⟨g,l⟩:=p
      have n2 : ¬ 1000 + i = 14:=by omega
      have hsub : Sub ((14,Blk.row g14 1 (mixF 1000 i L)) :: famH 2 1000 L) ((14,Blk.row g14 1 (mixF 1000 i L)) :: famH 2 1000 L):=⟨by simp,sub_fam_keep fun t ht=>by simp [show ¬ t = 14 by omega]⟩
      simp [accV]
      refine clip48_ref (es:=l) (by simp [n2,hlk,famB]) _ hsub ?_
      simp [hi,hml,hget,accV]
      refine ⟨i + 1,by omega,hw,⟨hset,?_⟩,by omega⟩
      exact sub_fam_keep fun t ht=>by simp [show ¬ t = 14 by omega]
    ·have hi : i = L.length:=by have:=of_decide_eq_false hb; have:=h2.1; omega
     subst hi
     simp [-frz]
     have hcl : (clipF 1000 L).length = c.n.length:=by rw [clipF_length,h2.1]
     rw [mixF_all,frz_ref (es:=clipF 1000 L) (sz:=1) (by simp) (by rw [hcl]; omega),List.drop_zero,List.take_of_length_le (by rw [hcl]; exact Nat.le_refl _),frz_clipF (sz:=2) 1000 L _ _ fun i g l hi=>⟨by simp [show ¬ 1000 + i = 14 by omega,lk_fam2 2 1000 L i hi,famB],(h2.2 i _ hi).2.1⟩]
     congr 1
     unfold fanVs
     refine List.ext_getElem? fun i=>?_
     simp only [List.getElem?_map]
     cases hx : L[i]? with
     | none=>
      have : ¬ i < c.n.length:=by rw [← h2.1]; simpa using hx
      simp [this]
     | some x=>
      have hi : i < c.n.length:=by rw [← h2.1]; exact (List.getElem?_eq_some_iff.1 hx).1
      have hx3:=(h2.2 i x hx).2.2
      have e1 : c.n.getD c.n.length default = default:=by simp [List.getD_eq_getElem?_getD]
      have e2 : (default : Nd).i = []:=rfl
      rw [e1,e2,List.drop_eq_nil_of_le (show c.n.length ≤ c.n.length + 1 by omega)] at hx3
      simp [pinL,rfanL] at hx3
      simp [hi,linesV,hx3]
end Go.Proofs.YtcdfifbabhfknaaDoor
