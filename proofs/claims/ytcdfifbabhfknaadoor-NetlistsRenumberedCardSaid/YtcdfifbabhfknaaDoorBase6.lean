/- Freezing; contracts of functions that only compute; a function's contract from its body. No program stands in it. Conditions: none. Ideal code: its weakest precondition, its compilation, its soundness. No program stands in it. Conditions: none. -/
import Derived.Test.YtcdfifbabhfknaaDoorBase5
namespace Go.Proofs.YtcdfifbabhfknaaDoor
open Go
abbrev M0 : MMap:=fun _=>none
mutual
def V.mapR (f : Nat→Nat→Nat→Nat→Option Nat→V) (p : Nat→Nat→Nat→Nat→V) : V→V
 | .agg cs=>.agg (V.mapRL f p cs)
 | .tup cs=>.tup (V.mapRL f p cs)
 | .sl xs c=>.sl (V.mapRL f p xs) c
 | .iptr x o=>.iptr (x.mapR f p) o
 | .fn g a b=>.fn g (V.mapRL f p a) (V.mapRL f p b)
 | .ref b g o l c=>f b g o l c
 | .ptr b g i o=>p b g i o
 | .own ..=>.undef
 | .undef=>.undef
 | .int k n=>.int k n
 | .bool b=>.bool b
 | .str s=>.str s
 | .nilfn=>.nilfn
 | .nilmap=>.nilmap
 | .nil=>.nil
def V.mapRL (f : Nat→Nat→Nat→Nat→Option Nat→V) (p : Nat→Nat→Nat→Nat→V) : List V→List V
 | []=>[]
 | v :: r=>v.mapR f p :: V.mapRL f p r
end
def frz (h : Hp) : Nat→V→V
 | 0,v=>v.mapR (fun _ _ _ _ _=>.undef) (fun _ _ _ _=>.undef)
 | n + 1,v=>v.mapR
   (fun b g off len cap=>match lk h b with
    | some (.row g' _ es)=>if g' = g∧off + len ≤ es.length then .sl (((es.drop off).take len).map (frz h n)) cap else .undef
    | _=>.undef)
   (fun b g i off=>match lk h b with
    | some (.row g' _ es)=>if g' = g∧i < es.length then .iptr (frz h n (es.getD i .undef)) off else .undef
    | _=>.undef)
section
variable {f : Nat→Nat→Nat→Nat→Option Nat→V} {p : Nat→Nat→Nat→Nat→V}
theorem mapRL_eq (l : List V) : V.mapRL f p l = l.map (V.mapR f p):=by
 induction l with
 | nil=>rfl
 | cons a r ih=>simp [V.mapRL,ih]
mutual
theorem mapR_pure : ∀ (v : V),v.pure = true→v.mapR f p = v
 | .agg cs,h=>by simp only [V.mapR]; rw [mapRL_pure cs (by simpa [V.pure] using h)]
 | .tup cs,h=>by simp only [V.mapR]; rw [mapRL_pure cs (by simpa [V.pure] using h)]
 | .sl xs c,h=>by simp only [V.mapR]; rw [mapRL_pure xs (by simpa [V.pure] using h)]
 | .iptr x o,h=>by simp only [V.mapR]; rw [mapR_pure x (by simpa [V.pure] using h)]
 | .fn g a b,h=>by
  simp only [V.pure,Bool.and_eq_true] at h
  simp only [V.mapR]; rw [mapRL_pure a h.1,mapRL_pure b h.2]
 | .ref ..,h=>by simp [V.pure] at h
 | .ptr ..,h=>by simp [V.pure] at h
 | .own ..,h=>by simp [V.pure] at h
 | .undef,_=>rfl
 | .int ..,_=>rfl
 | .bool _,_=>rfl
 | .str _,_=>rfl
 | .nilfn,_=>rfl
 | .nilmap,_=>rfl
 | .nil,_=>rfl
theorem mapRL_pure : ∀ (l : List V),V.pureL l = true→V.mapRL f p l = l
 | [],_=>rfl
 | v :: r,h=>by
  simp only [V.pureL,Bool.and_eq_true] at h
  simp only [V.mapRL]; rw [mapR_pure v h.1,mapRL_pure r h.2]
end
end
theorem frz_pure (h : Hp) (n : Nat) {v : V} (hv : v.pure = true) : frz h n v = v:=by
 cases n <;> exact mapR_pure v hv
theorem frz_cells (h : Hp) (n : Nat) (x : V) : (frz h n x).cells = x.cells.map (frz h n):=by
 have key : ∀ (f : Nat→Nat→Nat→Nat→Option Nat→V) (p : Nat→Nat→Nat→Nat→V),(∀ b g o l c,(f b g o l c).cells = [f b g o l c])→(∀ b g i o,(p b g i o).cells = [p b g i o])→(x.mapR f p).cells = x.cells.map (V.mapR f p):=by
  intro f p hf hp
  cases x <;> simp only [V.mapR,V.cells,List.map_cons,List.map_nil,mapRL_eq] <;> first
   | exact hf _ _ _ _ _
   | exact hp _ _ _ _
   | rfl
 cases n with
 | zero=>exact key _ _ (fun _ _ _ _ _=>rfl) (fun _ _ _ _=>rfl)
 | succ n=>
  refine key _ _ (fun b g o l c=>?_) (fun b g i o=>?_)
  ·split
   ·split <;> rfl
   ·rfl
  ·split
   ·split <;> rfl
   ·rfl
theorem getD_map_frz (h : Hp) (n : Nat) (l : List V) (i : Nat) (hi : i < l.length) : (l.map (frz h n)).getD i .undef = frz h n (l.getD i .undef):=by
 simp [List.getD_eq_getElem?_getD,hi]
theorem frz_rel {G Gf : GMap} {M : MMap} {h : Hp} {w : World} (hs : Sim G M h w) (hG : G.le Gf)
  (hown : ∀ b mb rb arr ty fz,M b = some mb→mb.real = some rb→w.heap[rb]? = some (.cells arr ty fz)→Gf rb = some arr) :
  ∀ (n : Nat) (v : V) (r : Value),RelV G M v r→RelV Gf M0 (frz h n v) r:=by
 have core : ∀ (f : Nat→Nat→Nat→Nat→Option Nat→V) (p : Nat→Nat→Nat→Nat→V),
   (∀ (x : V),(x.mapR f p).cells = x.cells.map (V.mapR f p))→
   (∀ b g o l c r,RelV G M (.ref b g o l c) r→RelV Gf M0 (f b g o l c) r)→(∀ b g i o r,RelV G M (.ptr b g i o) r→RelV Gf M0 (p b g i o) r)→
   ∀ (v : V) (r : Value),RelV G M v r→RelV Gf M0 (v.mapR f p) r:=by
  intro f p hcells hf hp v r hv
  have hget : ∀ (l : List V) (i : Nat),i < l.length→(l.map (V.mapR f p)).getD i .undef = (l.getD i .undef).mapR f p:=by
   intro l i hi; simp [List.getD_eq_getElem?_getD,hi]
  induction hv with
  | undef r=>exact .undef r
  | int k m=>exact .int k m
  | bool b=>exact .bool b
  | str s=>exact .str s
  | agg cs arr hsz _ ho ih=>
   simp only [V.mapR,mapRL_eq]
   exact .agg _ _ (by simpa using hsz) (fun i hi=>by rw [hget cs i (by simpa using hi)]; exact ih i (by simpa using hi)) (fun i hi=>ho i (by simpa using hi))
  | tup cs arr hsz _ ih=>
   simp only [V.mapR,mapRL_eq]
   exact .tup _ _ (by simpa using hsz) (fun i hi=>by rw [hget cs i (by simpa using hi)]; exact ih i (by simpa using hi))
  | slnil cap base rcap hc hb=>exact .slnil cap base rcap hc hb
  | sl xs cap rb ro rcap sz cells hne hg hsz hb hl hc _ ho ih=>
   simp only [V.mapR,mapRL_eq]
   have hlen : (xs.map (V.mapR f p)).length = xs.length:=by simp
   have hx : ∀ i,i < xs.length→((xs.map (V.mapR f p)).getD i .undef).cells = (xs.getD i .undef).cells.map (V.mapR f p):=fun i hi=>by rw [hget xs i hi,hcells]
   have:=RelV.sl (G:=Gf) (M:=M0) (xs.map (V.mapR f p)) cap rb ro rcap sz cells (by simpa using hne) (hG _ _ hg) (fun i hi=>by rw [hlen] at hi; rw [hx i hi]; simpa using hsz i hi) (by simpa using hb) (by simpa using hl) hc
    (fun i j hi hj=>by
     rw [hlen] at hi
     rw [hx i hi,hget _ j (by rw [hsz i hi]; exact hj)]
     exact ih i j hi hj)
    (fun i j hi hj=>ho i j (by simpa using hi) hj)
   rw [hlen] at this; exact this
  | ref b g o l c ra rcap mb hM hg hl hc hh=>exact hf _ _ _ _ _ _ (.ref b g o l c ra rcap mb hM hg hl hc hh)
  | ptr b g i o ad mb hM hg hh=>exact hp _ _ _ _ _ (.ptr b g i o ad mb hM hg hh)
  | iptr x o rb ro cells hg hb _ ho ih=>
   simp only [V.mapR]
   have hx : (x.mapR f p).cells = x.cells.map (V.mapR f p):=hcells x
   exact .iptr _ o rb ro cells (hG _ _ hg) (by rw [hx]; simpa using hb) (fun j hj=>by
    rw [hx] at hj ⊢
    rw [hget _ j (by simpa using hj)]
    exact ih j (by simpa using hj)) (fun j hj=>ho j (by rw [hx] at hj; simpa using hj))
  | fn g a b ra rb h1 h2 _ _ ih3 ih4=>
   simp only [V.mapR,mapRL_eq]
   exact .fn g _ _ ra rb (by simpa using h1) (by simpa using h2) (fun i hi=>by rw [hget a i (by simpa using hi)]; exact ih3 i (by simpa using hi)) (fun i hi=>by rw [hget b i (by simpa using hi)]; exact ih4 i (by simpa using hi))
  | nilfn=>exact .nilfn
  | nilmap=>exact .nilmap
  | nil=>exact .nil
  | own b g r=>exact .undef r
 intro n
 induction n with
 | zero=>exact core _ _ (fun x=>frz_cells h 0 x) (fun _ _ _ _ _ r _=>.undef r) (fun _ _ _ _ r _=>.undef r)
 | succ n ih=>
  refine core _ _ (fun x=>frz_cells h (n + 1) x) (fun b g o l c r hr=>?_) (fun b g i o r hr=>?_)
  ·split
   ·rename_i g' sz es hb
    split
    ·rename_i hcond
     obtain ⟨rfl,hle⟩:=hcond
     obtain ⟨ra,rcap,mb,rfl,hM,hg,hl,hc,hh⟩:=ref_inv hr
     obtain ⟨mb1,q1,q2,q3,q4⟩:=hs.hb b _ hb
     obtain rfl : mb = mb1:=by rw [q1] at hM; injection hM with e; exact e.symm
     have hre:=hh q2.symm
     have hlen : (((es.drop o).take l).map (frz h n)).length = l:=by simp; omega
     by_cases h0 : l = 0
     ·subst h0
      have e0 : ((es.drop o).take 0).map (frz h n) = []:=by simp
      rw [e0]
      refine .slnil _ _ _ hc ?_
      cases hreal : mb.real with
      | none=>simp only [RefReal,hreal] at hre; exact .inl hre.1
      | some rb=>
       simp only [RefReal,hreal] at hre
       rcases hre with ⟨e,-⟩ | ⟨-,e⟩
       ·exact .inr (by rw [e]; rfl)
       ·exact .inl e
     ·cases hreal : mb.real with
      | none=>simp only [RefReal,hreal] at hre; omega
      | some rb=>
       simp only [RefReal,hreal] at hre
       simp only [RowRel,hreal] at q4
       rcases hre with ⟨rfl,hroom⟩ | ⟨e,-⟩
       ·obtain ⟨arr,ty,w1,w2,w3,w4,w5⟩:=q4
        have hget : ∀ i,i < l→(((es.drop o).take l).map (frz h n)).getD i .undef = frz h n (es.getD (o + i) .undef):=by
         intro i hi
         rw [getD_map_frz _ _ _ _ (by simp; omega)]
         simp only [List.getD_eq_getElem?_getD,List.getElem?_take,if_pos hi,List.getElem?_drop]
        have hbnd : o * mb.sz + l * mb.sz ≤ mb.room * mb.sz:=by rw [← Nat.add_mul]; exact Nat.mul_le_mul_right _ (by omega)
        have:=RelV.sl (G:=Gf) (M:=M0) (((es.drop o).take l).map (frz h n)) c rb (mb.base + o * mb.sz) rcap mb.sz arr (fun e=>by rw [e] at hlen; simp at hlen; omega) (hown b mb rb arr ty _ q1 hreal w1)
         (fun i hi=>by rw [hlen] at hi; rw [hget i hi,frz_cells]; simpa using w4 (o + i) (by omega)) (by rw [hlen]; omega) (by rw [hlen]; exact hl) hc
         (fun i j hi hj=>by
          rw [hlen] at hi
          rw [hget i hi,frz_cells,getD_map_frz _ _ _ _ (by rw [w4 _ (by omega)]; exact hj)]
          have:=(w5 (o + i) j (by omega) hj).1
          rw [Nat.add_mul,← Nat.add_assoc] at this
          exact ih _ _ this)
         (fun i j hi hj=>by
          rw [hlen] at hi
          have:=(w5 (o + i) j (by omega) hj).2
          rw [Nat.add_mul,← Nat.add_assoc] at this
          exact this)
        rw [hlen] at this; exact this
       ·exact absurd e h0
    ·exact .undef r
   ·exact .undef r
  ·split
   ·rename_i g' sz es hb
    split
    ·rename_i hcond
     obtain ⟨rfl,hlt⟩:=hcond
     obtain ⟨mb,rb,arr,ty,h1,h2,h3,h4,h5,h6,h7,h8,h9,h10⟩:=own_ptr hs hr hb hlt
     subst h5
     have heb:=elem_bound (sz:=sz) hlt h8
     refine .iptr _ o rb (mb.base + i * sz) arr (hown b mb rb arr ty _ h1 h4 h6) ?_ ?_ ?_
     ·rw [frz_cells,List.length_map,h9 i hlt]; omega
     ·intro j hj
      rw [frz_cells,List.length_map,h9 i hlt] at hj
      rw [frz_cells,getD_map_frz _ _ _ _ (by rw [h9 i hlt]; exact hj)]
      exact ih _ _ (h10 i j hlt hj).1
     ·intro j hj
      rw [frz_cells,List.length_map,h9 i hlt] at hj
      exact (h10 i j hlt hj).2
    ·exact .undef r
   ·exact .undef r
def GIn (G : GMap) (w : World) : Prop:=∀ k cells,G k = some cells→∃ ty fz,w.heap[k]? = some (.cells cells ty fz)
def PureC (P : Program) (gl : Fr) (f : FuncId) (args : List V) (res : V) : Prop:=
 callable P f = true∧∀ G w (rargs : Array Value),GIn G w→GlRel G gl→rargs.size = args.length→(∀ i,i < args.length→RelV G M0 (args.getD i .undef) (rargs.getD i undef))→
  Calls P f rargs w fun e w'=>∃ rv G',e = .returned rv∧RelV G' M0 res rv∧GIn G' w'∧Ext G M0 w G' M0 w'
section
variable {P : Program} {gl : Fr} {bs n : Nat} {fr : Fr} {h : Hp} {G : GMap} {M : MMap} {a : Act} {w : World}
theorem owned_M0 (k : Nat) : ¬ owned M0 k:=by rintro ⟨b,mb,h,-⟩; cases h
theorem Sim.after (hs : Sim G M h w) {G' : GMap} {w' : World} (hg : GIn G' w') (hx : Ext G M0 w G' M0 w') : Sim G' M h w'∧Ext G M w G' M w':=by
 have hkeep : ∀ k,k < w.heap.size→w'.heap[k]? = w.heap[k]?:=fun k hk=>hx.keep k hk (owned_M0 k)
 refine ⟨⟨hg,fun b k hk=>(hs.hb b k hk).mono hx.g M.le_refl rfl (fun mb rb h1 h2=>hkeep rb (hs.mlt b mb rb h1 h2).1),hs.inj,fun b mb rb h1 h2=>?_⟩,⟨hx.g,?_,M.le_refl,fun k hk=>.inr hk,hx.os,hx.tape,hx.output,hx.size,fun k hk _=>hkeep k hk⟩⟩
 ·obtain ⟨q1,q2⟩:=hs.mlt b mb rb h1 h2
  refine ⟨Nat.lt_of_lt_of_le q1 hx.size,?_⟩
  cases hgr : G' rb with
  | none=>rfl
  | some c=>
   rcases hx.gnew rb c hgr with h3 | h3 | h3
   ·rw [q2] at h3; cases h3
   ·omega
   ·exact absurd h3 (owned_M0 _)
 ·intro k c hk
  rcases hx.gnew k c hk with h3 | h3 | h3
  ·exact .inl h3
  ·exact .inr (.inl h3)
  ·exact absurd h3 (owned_M0 _)
theorem ICall.mono {f : FuncId} {args : List V} {K K' : V→Hp→Prop} (hc : ICall P gl f args h K) (hk : ∀ v h,K v h→K' v h) : ICall P gl f args h K':=
 ⟨hc.1,fun G M w rargs h1 h2 h3 h4=>Calls.mono (hc.2 G M w rargs h1 h2 h3 h4) fun _ _ ⟨rv,v,h',G',M',q1,q2,q3⟩=>⟨rv,v,h',G',M',q1,hk _ _ q2,q3⟩⟩
theorem ICall.pure {f : FuncId} {args : List V} {res : V} {K : V→Hp→Prop} (hc : PureC P gl f args res) (hp : V.pureL args = true) (hk : K res h) : ICall P gl f args h K:=by
 refine ⟨hc.1,fun G M w rargs hs hgl hsz hr=>Calls.mono (hc.2 G w rargs hs.gw hgl hsz fun i hi=>(hr i hi).pure M0 (V.pure_getD hp i)) ?_⟩
 rintro e w' ⟨rv,G',rfl,hv,hg,hx⟩
 obtain ⟨s1,s2⟩:=hs.after hg hx
 exact ⟨rv,res,h,G',M,rfl,hk,hv.mono G'.le_refl (fun _ _ h=>by cases h),s1,s2,fun _ _=>rfl⟩
theorem ICall.borrow {f : FuncId} {args args' : List V} {res : V} {K : V→Hp→Prop} (m : Nat) (hc : PureC P gl f args' res) (ha : args.map (frz h m) = args') (hp : res.scalar = true) (hk : K res h) : ICall P gl f args h K:=by
 subst ha
 refine ⟨hc.1,fun G M w rargs hs hgl hsz hr=>?_⟩
 let Gf : GMap:=fun k=>match w.heap[k]? with
  | some (.cells c _ _)=>some c
  | _=>none
 have hGf : G.le Gf:=fun k c hk=>by
  obtain ⟨ty,fz,he⟩:=hs.gw k c hk
  simp [Gf,he]
 have hin : GIn Gf w:=fun k c hk=>by
  simp only [Gf] at hk
  split at hk
  ·rename_i c' ty fz he; cases hk; exact ⟨ty,fz,he⟩
  ·cases hk
 have hfr:=frz_rel hs hGf (fun b mb rb arr ty fz _ _ he=>by simp [Gf,he]) m
 refine Calls.mono (hc.2 Gf w rargs hin (hgl.mono hGf) (by simpa using hsz) fun i hi=>by
  have hi' : i < args.length:=by simpa using hi
  rw [getD_map_frz _ _ _ _ hi']; exact hfr _ _ (hr i hi')) ?_
 rintro e w' ⟨rv,G',rfl,hv,hg,hx⟩
 have hkeep : ∀ k,k < w.heap.size→w'.heap[k]? = w.heap[k]?:=fun k hk=>hx.keep k hk (owned_M0 k)
 have hgin : GIn G w':=fun k c hk=>by
  obtain ⟨ty,fz,he⟩:=hs.gw k c hk
  exact ⟨ty,fz,by rw [hkeep k (Array.getElem?_eq_some_iff.1 he).1]; exact he⟩
 have hext : Ext G M0 w G M0 w':=⟨G.le_refl,fun _ _ h=>.inl h,MMap.le_refl _,fun _ h=>.inr h,hx.os,hx.tape,hx.output,hx.size,hx.keep⟩
 obtain ⟨s1,s2⟩:=hs.after hgin hext
 exact ⟨rv,res,h,G,M,rfl,hk,hv.scalar G M hp,s1,s2,fun _ _=>rfl⟩
inductive IRes where
 | tmp (t : Nat)
 | cell (t : Nat) (ag : Bool) (n : Nat)
 deriving Inhabited
def resW (fr : Fr) (h : Hp) (K : List V→Prop) : List IRes→Prop
 | []=>K []
 | .tmp t :: r=>match lk fr t with
  | some v=>resW fr h (fun vs=>K (v :: vs)) r
  | none=>False
 | .cell t ag n :: r=>match lk fr t with
  | some (.ptr b g i off)=>match lk h b with
   | some (.row g' _ es)=>g' = g∧i < es.length∧V.partOk ag off n (es.getD i .undef)∧resW fr h (fun vs=>K (V.partV ag off n (es.getD i .undef) :: vs)) r
   | _=>False
  | _=>False
def oneW (K : V→Prop) : List V→Prop
 | [v]=>K v
 | vs=>K (.tup vs)
def compRes (P : Program) : ResultVar→Option IRes
 | .tmp t=>some (.tmp t)
 | .cell t ty=>(tyOf P ty).map fun x=>.cell t x.1 x.2.1
def compRess (P : Program) : List ResultVar→Option (List IRes)
 | []=>some []
 | x :: r=>match compRes P x,compRess P r with
  | some y,some l=>some (y :: l)
  | _,_=>none
theorem resW_sound (hr : R bs n gl G M fr h a w) : ∀ {rs : List ResultVar} {is : List IRes} {K : List V→Prop},compRess P rs = some is→resW fr h K is→
  ∃ vs rvs,K vs∧rvs.length = vs.length∧(∀ i,i < vs.length→RelV G M (vs.getD i .undef) (rvs.getD i undef))∧
   (rs.mapM (fun x=>match x with
    | .tmp t=>pure (a.tmps.getD t undef)
    | .cell ad t=>do loadVar t (← asAddr (a.tmps.getD ad undef)) : ResultVar→Sem Value)).run P w = .ok rvs w
 | [],is,K,h1,h2=>by
  simp [compRess] at h1; subst h1
  exact ⟨[],[],h2,rfl,fun i hi=>by simp at hi,by simp⟩
 | x :: r,is,K,h1,h2=>by
  simp only [compRess] at h1
  split at h1
  ·rename_i y l hy hl
   cases h1
   cases x with
   | tmp t=>
    simp only [compRes,Option.some.injEq] at hy; subst hy
    simp only [resW] at h2
    split at h2
    ·rename_i v hv
     obtain ⟨vs,rvs,k1,k2,k3,k4⟩:=resW_sound hr hl h2
     refine ⟨v :: vs,a.tmps.getD t undef :: rvs,k1,by simp [k2],fun i hi=>?_,by simp only [List.mapM_cons,Sem.run_bind,Sem.run_pure,Result.andThen_ok,k4]⟩
     cases i with
     | zero=>exact hr.frr t v hv
     | succ i=>simpa using k3 i (by simpa using hi)
    ·exact h2.elim
   | cell t ty=>
    simp only [compRes] at hy
    cases ht : tyOf P ty with
    | none=>rw [ht] at hy; cases hy
    | some q=>
     rw [ht] at hy; cases hy
     simp only [resW] at h2
     split at h2
     ·rename_i b g i off hv
      split at h2
      ·rename_i g' sz es hb
       obtain ⟨rfl,hlt,hok,h2⟩:=h2
       have hrv:=hr.frr t _ hv
       obtain ⟨rv,e1,e2⟩:=run_loadVar_part (P:=P) (w:=w) (t:=ty) (ag:=q.1) (n:=q.2.1) (by_:=q.2.2) (by rw [ht]) (pointee_ptr hr.sim hrv hb hlt) hok
       obtain ⟨vs,rvs,k1,k2,k3,k4⟩:=resW_sound hr hl h2
       refine ⟨_ :: vs,rv :: rvs,k1,by simp [k2],fun i hi=>?_,?_⟩
       ·cases i with
        | zero=>exact e2
        | succ i=>simpa using k3 i (by simpa using hi)
       ·simp only [List.mapM_cons,Sem.run_bind]
        generalize a.tmps.getD t undef = q0 at hrv e1
        cases hrv with
        | ptr _ _ _ _ ad mb hM hg hh=>
         simp only [Instr.loadAt,Instr.sureAddr,Sem.run_bind,Sem.run_pure,Result.andThen_ok] at e1
         have hasA : (asAddr (.pointer (some ad))).run P w = .ok ad w:=rfl
         simp only [hasA,Sem.run_pure,Result.andThen_ok,e1,k4]
      ·exact h2.elim
     ·exact h2.elim
  ·cases h1
def argF : Nat→List V→Fr
 | _,[]=>[]
 | i,v :: r=>(i,v) :: argF (i + 1) r
theorem lk_argF : ∀ (args : List V) (k t : Nat) (v : V),lk (argF k args) t = some v→k ≤ t∧t - k < args.length∧args.getD (t - k) .undef = v
 | [],k,t,v,h=>by simp [argF,lk] at h
 | x :: r,k,t,v,h=>by
  simp only [argF,lk] at h
  split at h
  ·rename_i he; subst he; cases h; simp
  ·rename_i hne
   obtain ⟨h1,h2,h3⟩:=lk_argF r (k + 1) t v h
   have e : t - k = (t - (k + 1)) + 1:=by omega
   refine ⟨by omega,by simp; omega,?_⟩
   rw [e]; simpa using h3
def retQ (rs : List IRes) (m : Nat) (res : V) : IQ
 | .normal,fr,h=>resW fr h (oneW fun v=>frz h m v = res) rs
 | .ret,fr,h=>resW fr h (oneW fun v=>frz h m v = res) rs
 | _,_,_=>False
theorem putObj_ne {w : World} {k j : Nat} {o : Obj} (hj : j ≠ k) : (w.putObj k o).heap[j]? = w.heap[j]?:=World.putObj_heap_other hj
theorem Sim.putFree {G : GMap} {M : MMap} {h : Hp} {w : World} (hs : Sim G M h w) {k : Nat} {o o' : Obj} (ho : w.heap[k]? = some o) (hc : ∀ c ty fz,o ≠ .cells c ty fz) (hn : ¬ owned M k) : Sim G M h (w.putObj k o'):=by
 refine ⟨fun j c hj=>?_,fun b blk hb=>?_,hs.inj,fun b mb rb h1 h2=>?_⟩
 ·obtain ⟨ty,fz,he⟩:=hs.gw j c hj
  refine ⟨ty,fz,?_⟩
  rw [putObj_ne fun e=>?_]
  ·exact he
  ·subst e; rw [ho] at he; exact hc _ _ _ (Option.some.inj he)
 ·refine (hs.hb b blk hb).mono G.le_refl M.le_refl rfl fun mb rb h1 h2=>putObj_ne fun e=>?_
  subst e; exact hn ⟨b,mb,h1,h2⟩
 ·rw [World.putObj_size]; exact hs.mlt b mb rb h1 h2
theorem Marks.leave {bs : Nat} {G : GMap} {M : MMap} {h : Hp} : ∀ {l : List Deferred} {w : World}, Sim G M h w → Marks bs M w l → ∃ w', Sim G M h w' ∧ (∀ k, k < bs → w'.heap[k]? = w.heap[k]?) ∧ w'.heap.size = w.heap.size ∧ w'.os = w.os ∧ w'.tape = w.tape ∧ w'.output = w.output ∧
      ∀ (P : Program) (F : Fence) (m : Nat) (fn : Func) (tmps : Array Value) (Rr : Ending→World→Prop),(∃ v,(results fn tmps).run P w' = .ok v w'∧Rr (.returned v) w')→LeavesInM F m P fn tmps Rr l .returning w
  | [],w,hs,_=>⟨w,hs,fun _ _=>rfl,rfl,rfl,rfl,rfl,fun _ _ _ _ _ _ h=>h⟩
  | d :: r,w,hs,⟨⟨k,h1,h2,h3,h4,h5⟩,h6⟩=>by
    have hk : k < w.heap.size:=(Array.getElem?_eq_some_iff.1 h3).1
    have hm : ∀ {l : List Deferred},{ target:=.collected k,args:=#[] } ∉ l→Marks bs M w l→Marks bs M (w.putObj k (.deferred none)) l:=by
      intro l
      induction l with
      | nil=>exact fun _ _=>trivial
      | cons e l ih=>
        rintro hn ⟨⟨j,q1,q2,q3,q4,q5⟩,q6⟩
        refine ⟨⟨j,q1,q2,?_,q4,q5⟩,ih (fun hc=>hn (List.mem_cons_of_mem _ hc)) q6⟩
        rw [putObj_ne fun e'=>hn (by subst e'; rw [q1]; exact List.mem_cons_self)]
        exact q3
    obtain ⟨w',s1,s2,s3,s4,s5,s6,s7⟩:=Marks.leave (hs.putFree (o':=.deferred none) h3 (fun _ _ _ e=>by cases e) h4) (hm h5 h6)
    refine ⟨w',s1,fun j hj=>?_,by rw [s3,World.putObj_size],s4,s5,s6,fun P F m fn tmps Rr hv=>⟨(by simp),.inl ⟨k,_,by rw [h1],run_takeDeferred h3,s7 P F m fn tmps Rr hv⟩⟩⟩
    rw [s2 j hj,putObj_ne (by omega)]
theorem R.leave {n : Nat} {gl : Fr} {G G0 : GMap} {M M0' : MMap} {fr : Fr} {h : Hp} {a : Act} {w w0 : World} (hr : R w0.heap.size n gl G M fr h a w) (hx : Ext G0 M0' w0 G M w) :
  ∃ w',R w0.heap.size n gl G M fr h { a with defers:=[] } w'∧Ext G0 M0' w0 G M w'∧
   ∀ (P : Program) (F : Fence) (m : Nat) (fn : Func) (Rr : Ending→World→Prop),(∃ v,(results fn a.tmps).run P w' = .ok v w'∧Rr (.returned v) w')→LeavesInM F m P fn a.tmps Rr a.defers .returning w:=by
 obtain ⟨w',s1,s2,s3,s4,s5,s6,s7⟩:=Marks.leave hr.sim hr.df
 exact ⟨w',⟨s1,hr.frr,hr.sz,trivial,hr.gl,by rw [s3]; exact hr.bs⟩,⟨hx.g,hx.gnew,hx.m,hx.mnew,s4.trans hx.os,s5.trans hx.tape,s6.trans hx.output,by rw [s3]; exact hx.size,fun k hk hn=>(s2 k hk).trans (hx.keep k hk hn)⟩,fun P F m fn Rr hv=>s7 P F m fn _ Rr hv⟩
theorem PureC.of_body {f : FuncId} {fn : Func} {c : Code} {args : List V} {res : V} {rs : List IRes} (m : Nat) (hf : P.funcs[f]? = some fn) (hb : fn.body = some c) (hname : fn.name ≠ "runtime.NumGoroutine")
  (hargs : args.length ≤ fn.ntmps) (hres : compRess P fn.results.toList = some rs) (hw : IW P fn.ntmps gl c (retQ rs m res) (argF 0 args) []) : PureC P gl f args res:=by
 refine ⟨by simp [callable,hf,hb,hname],fun G w rargs hg hgl hsz hrel=>?_⟩
 refine callsIn_FW.1 (callsIn_of_wp_marks (F:=FW none) (n:=0) hf hb trivial (wpIn_mono (hw none w.heap.size (fun h=>nomatch h) G M0 _ w ⟨⟨hg,fun b k hk=>(by simp [lk] at hk),fun b b' mb mb' rb h1=>(by cases h1),fun b mb rb h1=>(by cases h1)⟩,fun t v ht=>?_,by simp; omega,trivial,hgl,Nat.le_refl _⟩) ?_))
 ·obtain ⟨-,h2,h3⟩:=lk_argF args 0 t v ht
  rw [Nat.sub_zero] at h2 h3
  have : (rargs ++ Array.replicate (fn.ntmps - rargs.size) undef).getD t undef = rargs.getD t undef:=by
   simp only [Array.getD_eq_getD_getElem?,Array.getElem?_append]
   rw [if_pos (by omega)]
  rw [this,← h3]; exact hrel t h2
 ·rintro e ⟨tm,df⟩ w1 ⟨ie,G',M',fr',h',rfl,hq,hr1,hx1⟩
  obtain ⟨w',hr,hx,hlv⟩:=hr1.leave hx1
  let a' : Act:=⟨tm,[]⟩
  have fin : resW fr' h' (oneW fun v=>frz h' m v = res) rs→∃ v,(results fn a'.tmps).run P w' = .ok v w'∧∃ rv G',Ending.returned v = .returned rv∧RelV G' M0 res rv∧GIn G' w'∧Ext G M0 w G' M0 w':=by
   intro hres'
   obtain ⟨vs,rvs,k1,k2,k3,k4⟩:=resW_sound (P:=P) hr hres hres'
   let Gf : GMap:=fun k=>if k < w.heap.size then G k else match w'.heap[k]? with
    | some (.cells c _ _)=>some c
    | _=>none
   have hkeep : ∀ k,k < w.heap.size→w'.heap[k]? = w.heap[k]?:=fun k hk=>hx.keep k hk (owned_M0 k)
   have hGf : G'.le Gf:=by
    intro k c hk
    simp only [Gf]
    split
    ·rename_i hlt
     rcases hx.gnew k c hk with h3 | h3 | h3
     ·exact h3
     ·omega
     ·exact absurd h3 (owned_M0 _)
    ·obtain ⟨ty,fz,he⟩:=hr.sim.gw k c hk
     simp [he]
   have hin : GIn Gf w':=by
    intro k c hk
    simp only [Gf] at hk
    split at hk
    ·rename_i hlt
     obtain ⟨ty,fz,he⟩:=hg k c hk
     exact ⟨ty,fz,by rw [hkeep k hlt]; exact he⟩
    ·split at hk
     ·rename_i c' ty fz he; cases hk; exact ⟨ty,fz,he⟩
     ·cases hk
   have hext : Ext G M0 w Gf M0 w':=by
    refine ⟨GMap.le_trans hx.g hGf,fun k c hk=>?_,MMap.le_refl _,fun _ h=>.inr h,hx.os,hx.tape,hx.output,hx.size,hx.keep⟩
    simp only [Gf] at hk
    split at hk
    ·exact .inl hk
    ·rename_i hge; exact .inr (.inl (by omega))
   have hfr:=frz_rel hr.sim hGf (fun b mb rb arr ty fz h1 h2 he=>by
    have : ¬ rb < w.heap.size:=fun hlt=>by
     rcases hx.mnew rb ⟨b,mb,h1,h2⟩ with h3 | h3
     ·omega
     ·exact absurd h3 (owned_M0 _)
    simp [Gf,this,he]) m
   have hone : ∃ v r,frz h' m v = res∧RelV G' M' v r∧(results fn a'.tmps).run P w' = .ok r w':=by
    have k5 : (fn.results.toList.mapM (fun x=>match x with
      | .tmp t=>pure (a'.tmps.getD t undef)
      | .cell ad t=>do loadVar t (← asAddr (a'.tmps.getD ad undef)) : ResultVar→Sem Value)).run P w' = .ok rvs w':=k4
    have hmap : (fn.results.mapM (fun x=>match x with
      | .tmp t=>pure (a'.tmps.getD t undef)
      | .cell ad t=>do loadVar t (← asAddr (a'.tmps.getD ad undef)) : ResultVar→Sem Value)).run P w' = .ok rvs.toArray w':=by
     rw [← Array.toArray_toList (xs:=fn.results),List.mapM_toArray]
     simp only [Sem.run_map,k5,Result.andThen_ok]
    have hrun : (results fn a'.tmps).run P w' = .ok (if h : rvs.toArray.size = 1 then rvs.toArray[0] else .tuple rvs.toArray) w':=by
     unfold results
     rw [Sem.run_bind]
     exact congrArg (fun q : Result (Array Value)=>q.andThen fun vs w=>(pure (if h : vs.size = 1 then vs[0] else .tuple vs) : Sem Value).run P w) hmap
    match vs,rvs,k1,k2,k3,hrun with
    | [v],[r],k1,_,k3,hrun=>exact ⟨v,r,k1,k3 0 (by simp),by rw [hrun]; rfl⟩
    | [],[],k1,k2,k3,hrun=>exact ⟨.tup [],_,k1,.tup [] #[] rfl (fun i hi=>by simp at hi),by rw [hrun]; rfl⟩
    | v1 :: v2 :: vs,r1 :: r2 :: rs,k1,k2,k3,hrun=>
     refine ⟨.tup (v1 :: v2 :: vs),.tuple (r1 :: r2 :: rs).toArray,k1,.tup _ _ (by simpa using k2) (fun i hi=>?_),by rw [hrun,dif_neg (by simp)]⟩
     have:=k3 i hi
     rw [getD_toArray]; exact this
   obtain ⟨v,r,e1,e2,e3⟩:=hone
   have:=hfr _ _ e2
   rw [e1] at this
   exact ⟨r,e3,r,Gf,rfl,this,hin,hext⟩
  cases ie with
  | normal=>exact hlv P _ _ fn _ (fin hq)
  | ret=>exact hlv P _ _ fn _ (fin hq)
  | exit id=>exact hq.elim
  | goto l=>exact hq.elim
end
end Go.Proofs.YtcdfifbabhfknaaDoor
namespace Go.Proofs.YtcdfifbabhfknaaDoor
open Go
def Sub {α : Type} : List (Nat × α)→List (Nat × α)→Prop
 | [],_=>True
 | (k,v) :: r,b=>lk b k = some v∧Sub r b
theorem Sub.spec {α : Type} : ∀ {a b : List (Nat × α)},Sub a b→∀ t v,lk a t = some v→lk b t = some v
 | [],b,_,t,v,h=>by simp [lk] at h
 | (k,x) :: r,b,hs,t,v,h=>by
  simp only [lk] at h
  split at h
  ·rename_i he; cases h; subst he; exact hs.1
  ·exact Sub.spec hs.2 t v h
mutual
def V.rn (s : Nat→Nat→Nat × Nat) : V→V
 | .agg cs=>.agg (V.rnL s cs)
 | .tup cs=>.tup (V.rnL s cs)
 | .sl xs c=>.sl (V.rnL s xs) c
 | .iptr x o=>.iptr (x.rn s) o
 | .fn g a b=>.fn g (V.rnL s a) (V.rnL s b)
 | .ref b g o l c=>.ref (s b g).1 (s b g).2 o l c
 | .ptr b g i o=>.ptr (s b g).1 (s b g).2 i o
 | .own b g=>.own (s b g).1 (s b g).2
 | .undef=>.undef
 | .int k n=>.int k n
 | .bool b=>.bool b
 | .str s=>.str s
 | .nilfn=>.nilfn
 | .nilmap=>.nilmap
 | .nil=>.nil
def V.rnL (s : Nat→Nat→Nat × Nat) : List V→List V
 | []=>[]
 | v :: r=>v.rn s :: V.rnL s r
end
def MvOk (s : Nat→Nat→Nat × Nat) (M M' : MMap) : Prop:=∀ b g mb,M b = some mb→g ≤ mb.gen→
 ∃ mb',M' (s b g).1 = some mb'∧(s b g).2 ≤ mb'.gen∧((s b g).2 = mb'.gen→g = mb.gen∧mb' = { mb with gen:=mb'.gen })
def Blk.gen : Blk→Nat
 | .row g _ _=>g
 | .map g _=>g
 | .siter g _ _=>g
 | .loop g ..=>g
 | .dead g=>g
 | .miter g ..=>g
def Blk.rn (s : Nat→Nat→Nat × Nat) (g' : Nat) : Blk→Blk
 | .row _ sz es=>.row g' sz (es.map (V.rn s))
 | .map _ es=>.map g' (es.map fun p=>(p.1.rn s,p.2.rn s))
 | .siter _ t pos=>.siter g' t pos
 | .loop _ n fr ps asg body busy=>.loop g' n (fr.map fun p=>(p.1,p.2.rn s)) ps asg body busy
 | .dead _=>.dead g'
 | .miter _ x n seen=>.miter g' (x.rn s) n seen
def mvS (b g b' g' : Nat) (x y : Nat) : Nat × Nat:=if x = b∧y = g then (b',g') else (x,y)
def mvF (s : Nat→Nat→Nat × Nat) (fr : Fr) : Fr:=fr.map fun p=>(p.1,p.2.rn s)
def mvH (s : Nat→Nat→Nat × Nat) (b b' g' : Nat) : Hp→Hp
 | []=>[]
 | (k,x) :: r=>if k = b' then mvH s b b' g' r else if k = b then (b',x.rn s g') :: mvH s b b' g' r else (k,x.rn s x.gen) :: mvH s b b' g' r
section
variable {s : Nat→Nat→Nat × Nat} {G : GMap} {M M' : MMap} {P : Program} {bs n : Nat} {gl fr : Fr} {h : Hp} {a : Act} {w : World}
theorem rnL_eq (l : List V) : V.rnL s l = l.map (V.rn s):=by
 induction l with
 | nil=>rfl
 | cons a r ih=>simp [V.rnL,ih]
theorem rn_cells (v : V) : (v.rn s).cells = v.cells.map (V.rn s):=by
 cases v <;> simp [V.rn,V.cells,rnL_eq]
theorem rn_getD (l : List V) (i : Nat) : (l.map (V.rn s)).getD i .undef = (l.getD i .undef).rn s:=by
 simp only [List.getD_eq_getElem?_getD,List.getElem?_map]
 cases l[i]? <;> rfl
mutual
theorem rn_pure : ∀ (v : V),v.pure = true→v.rn s = v
 | .agg cs,h=>by simp only [V.rn]; rw [rnL_pure cs (by simpa [V.pure] using h)]
 | .tup cs,h=>by simp only [V.rn]; rw [rnL_pure cs (by simpa [V.pure] using h)]
 | .sl xs c,h=>by simp only [V.rn]; rw [rnL_pure xs (by simpa [V.pure] using h)]
 | .iptr x o,h=>by simp only [V.rn]; rw [rn_pure x (by simpa [V.pure] using h)]
 | .fn g a b,h=>by
  simp only [V.pure,Bool.and_eq_true] at h
  simp only [V.rn]; rw [rnL_pure a h.1,rnL_pure b h.2]
 | .ref ..,h=>by simp [V.pure] at h
 | .ptr ..,h=>by simp [V.pure] at h
 | .own ..,h=>by simp [V.pure] at h
 | .undef,_=>rfl
 | .int ..,_=>rfl
 | .bool _,_=>rfl
 | .str _,_=>rfl
 | .nilfn,_=>rfl
 | .nilmap,_=>rfl
 | .nil,_=>rfl
theorem rnL_pure : ∀ (l : List V),V.pureL l = true→V.rnL s l = l
 | [],_=>rfl
 | v :: r,h=>by
  simp only [V.pureL,Bool.and_eq_true] at h
  simp only [V.rnL]; rw [rn_pure v h.1,rnL_pure r h.2]
end
theorem map_rn_pure {l : List V} (h : V.pureL l = true) : l.map (V.rn s) = l:=by rw [← rnL_eq]; exact rnL_pure l h
theorem RelV.rn (hm : MvOk s M M') {v : V} {r : Value} (hv : RelV G M v r) : RelV G M' (v.rn s) r:=by
 induction hv with
 | undef r=>exact .undef r
 | int k m=>exact .int k m
 | bool b=>exact .bool b
 | str t=>exact .str t
 | agg cs arr hsz _ ho ih=>
  simp only [V.rn,rnL_eq]
  exact .agg _ _ (by simpa using hsz) (fun i hi=>by rw [rn_getD]; exact ih i (by simpa using hi)) (fun i hi=>ho i (by simpa using hi))
 | tup cs arr hsz _ ih=>
  simp only [V.rn,rnL_eq]
  exact .tup _ _ (by simpa using hsz) (fun i hi=>by rw [rn_getD]; exact ih i (by simpa using hi))
 | slnil cap base rcap hc hb=>exact .slnil cap base rcap hc hb
 | sl xs cap rb ro rcap sz cells hne hg hsz hb hl hc _ ho ih=>
  simp only [V.rn,rnL_eq]
  have hlen : (xs.map (V.rn s)).length = xs.length:=by simp
  have:=RelV.sl (G:=G) (M:=M') (xs.map (V.rn s)) cap rb ro rcap sz cells (by simpa using hne) hg (fun i hi=>by rw [hlen] at hi; rw [rn_getD,rn_cells]; simpa using hsz i hi) (by simpa using hb) (by simpa using hl) hc
   (fun i j hi hj=>by
    rw [hlen] at hi
    rw [rn_getD,rn_cells,rn_getD]
    exact ih i j hi hj)
   (fun i j hi hj=>ho i j (by simpa using hi) hj)
  rw [hlen] at this; exact this
 | ref b g o l c ra rcap mb hM hg hl hc hh=>
  obtain ⟨mb',q1,q2,q3⟩:=hm b g mb hM hg
  refine .ref _ _ o l c ra rcap mb' q1 q2 hl hc fun e=>?_
  obtain ⟨e1,e2⟩:=q3 e
  have:=hh e1
  rw [e2]; exact this
 | ptr b g i o ad mb hM hg hh=>
  obtain ⟨mb',q1,q2,q3⟩:=hm b g mb hM hg
  refine .ptr _ _ i o ad mb' q1 q2 fun e=>?_
  obtain ⟨e1,e2⟩:=q3 e
  have:=hh e1
  rw [e2]; exact this
 | iptr x o rb ro cells hg hb _ ho ih=>
  simp only [V.rn]
  exact .iptr _ o rb ro cells hg (by rw [rn_cells]; simpa using hb) (fun j hj=>by
   rw [rn_cells] at hj ⊢
   rw [rn_getD]
   exact ih j (by simpa using hj)) (fun j hj=>ho j (by rw [rn_cells] at hj; simpa using hj))
 | fn g a b ra rb h1 h2 _ _ ih3 ih4=>
  simp only [V.rn,rnL_eq]
  exact .fn g _ _ ra rb (by simpa using h1) (by simpa using h2) (fun i hi=>by rw [rn_getD]; exact ih3 i (by simpa using hi)) (fun i hi=>by rw [rn_getD]; exact ih4 i (by simpa using hi))
 | nilfn=>exact .nilfn
 | nilmap=>exact .nilmap
 | nil=>exact .nil
 | own b g r mb hM hg ho hh=>
  obtain ⟨mb',q1,q2,q3⟩:=hm b g mb hM hg
  refine .own _ _ r mb' q1 q2 ho fun e=>?_
  obtain ⟨e1,e2⟩:=q3 e
  have:=hh e1
  rw [e2]; exact this
theorem RowRel.rn (hm : MvOk s M M') {mb : MB} (g' : Nat) {es : List V} (hr : RowRel G M w mb es) : RowRel G M' w { mb with gen:=g' } (es.map (V.rn s)):=by
 unfold RowRel at hr ⊢
 split at hr
 ·rename_i hreal; rw [hr]; simp [hreal]
 ·rename_i rb hreal
  simp only [hreal]
  obtain ⟨arr,ty,w1,w2,w3,w4,w5⟩:=hr
  refine ⟨arr,ty,w1,w2,by simpa using w3,fun i hi=>?_,fun i j hi hj=>?_⟩
  ·rw [rn_getD,rn_cells]; simpa using w4 i (by simpa using hi)
  ·obtain ⟨k1,k2⟩:=w5 i j (by simpa using hi) hj
   rw [rn_getD,rn_cells,rn_getD]
   exact ⟨k1.rn hm,k2⟩
theorem MapRel.rn (hm : MvOk s M M') {rb : Nat} {es : List (V × V)} (hr : MapRel G M w rb es) : MapRel G M' w rb (es.map fun p=>(p.1.rn s,p.2.rn s)):=by
 obtain ⟨entries,clock,h1,h2,h3⟩:=hr
 refine ⟨entries,clock,h1,by simpa using h2,fun i hi=>?_⟩
 have hi' : i < es.length:=by simpa using hi
 obtain ⟨k1,k2⟩:=h3 i hi'
 have e : (es.map fun p=>(p.1.rn s,p.2.rn s)).getD i (.undef,.undef) = ((es.getD i (.undef,.undef)).1.rn s,(es.getD i (.undef,.undef)).2.rn s):=by
  simp [List.getD_eq_getElem?_getD,hi']
 rw [e]
 exact ⟨k1.rn hm,k2.rn hm⟩
theorem lk_mvF (fr : Fr) (t : Nat) : lk (mvF s fr) t = (lk fr t).map (V.rn s):=by
 induction fr with
 | nil=>rfl
 | cons p r ih=>
  obtain ⟨k,v⟩:=p
  simp only [mvF,List.map_cons,lk]
  by_cases ht : t = k
  ·simp [ht]
  ·simp only [ht,if_false]; exact ih
theorem BlkRel.rn (hm : MvOk s M M') {b b' g' : Nat} {k : Blk} (hk : BlkRel G M w b k) (hb : ∀ mb,M b = some mb→mb.gen = k.gen→M' b' = some { mb with gen:=g' }) : BlkRel G M' w b' (k.rn s g'):=by
 cases k with
 | row g sz es=>
  obtain ⟨mb,q1,q2,q3,q4⟩:=hk
  exact ⟨_,hb mb q1 q2,rfl,q3,q4.rn hm g'⟩
 | map g es=>
  obtain ⟨mb,rb,q1,q2,q3,q4,q5⟩:=hk
  exact ⟨_,rb,hb mb q1 q2,rfl,q3,q4,q5.rn hm⟩
 | siter g t pos=>
  obtain ⟨mb,rb,q1,q2,q3,q4,q5⟩:=hk
  exact ⟨_,rb,hb mb q1 q2,rfl,q3,q4,q5⟩
 | miter g x n seen=>
  obtain ⟨mb,rb,q1,q2,q3,q4,r,q5,q6⟩:=hk
  exact ⟨_,rb,hb mb q1 q2,rfl,q3,q4,r,q5.rn hm,q6⟩
 | loop g n fr ps asg body busy=>
  obtain ⟨mb,rb,q1,q2,q3,q4,r,h4,h5,h6,h7,h8,h9,h10,h11⟩:=hk
  refine ⟨_,rb,hb mb q1 q2,rfl,q3,q4,r,h4,h5,h6,h7,h8,h9,h10,fun t v ht=>?_⟩
  have ht : lk (mvF s fr) t = some v:=ht
  rw [lk_mvF] at ht
  cases hq : lk fr t with
  | none=>rw [hq] at ht; cases ht
  | some v0=>rw [hq] at ht; cases ht; exact (h11 t v0 hq).rn hm
 | dead g=>obtain ⟨mb,q1,q2⟩:=hk; exact ⟨_,hb mb q1 q2,rfl⟩
theorem lk_mvH {b b' g' : Nat} (hne : b ≠ b') (h : Hp) (t : Nat) : lk (mvH s b b' g' h) t = if t = b' then (lk h b).map (Blk.rn s g') else if t = b then none else (lk h t).map fun x=>x.rn s x.gen:=by
 induction h with
 | nil=>simp [mvH,lk]
 | cons p r ih=>
  obtain ⟨k,x⟩:=p
  simp only [mvH]
  by_cases h1 : k = b'
  ·rw [if_pos h1,ih]
   by_cases h2 : t = b'
   ·simp [h2,lk,h1,hne]
   ·have h3 : ¬ t = k:=fun e=>h2 (e.trans h1)
    simp [h2,lk,h3]
  ·rw [if_neg h1]
   by_cases h2 : k = b
   ·rw [if_pos h2]
    simp only [lk]
    by_cases h3 : t = b'
    ·simp [h3,h2]
    ·rw [if_neg h3,ih,if_neg h3,if_neg h3]
     by_cases h4 : t = b
     ·simp [h4]
     ·have h5 : ¬ t = k:=fun e=>h4 (e.trans h2)
      simp [h4,h5]
   ·rw [if_neg h2]
    simp only [lk]
    by_cases h3 : t = k
    ·subst h3; simp [h1,h2]
    ·rw [if_neg h3,ih]
     have h4 : ¬ b = k:=fun e=>h2 e.symm
     simp [h3,h4]
theorem R.move {b b' : Nat} (hne : b ≠ b') {k : Blk} (hb : lk h b = some k) (hr : R bs n gl G M fr h a w) :
  ∃ M',R bs n gl G M' (mvF (mvS b k.gen b' (freshGen M b')) fr) (mvH (mvS b k.gen b' (freshGen M b')) b b' (freshGen M b') h) a w∧Ext G M w G M' w:=by
 obtain ⟨mb,hmb,hgen⟩ : ∃ mb,M b = some mb∧mb.gen = k.gen:=by
  have:=hr.sim.hb b k hb
  cases k with
  | row g sz es=>obtain ⟨mb,q1,q2,-⟩:=this; exact ⟨mb,q1,q2⟩
  | map g es=>obtain ⟨mb,rb,q1,q2,-⟩:=this; exact ⟨mb,q1,q2⟩
  | siter g t pos=>obtain ⟨mb,rb,q1,q2,-⟩:=this; exact ⟨mb,q1,q2⟩
  | loop=>obtain ⟨mb,rb,q1,q2,-⟩:=this; exact ⟨mb,q1,q2⟩
  | miter=>obtain ⟨mb,rb,q1,q2,-⟩:=this; exact ⟨mb,q1,q2⟩
  | dead=>exact this
 generalize hg' : freshGen M b' = g'
 let M' : MMap:=fun x=>if x = b' then some { mb with gen:=g' } else if x = b then some { mb with gen:=mb.gen + 1,real:=none } else M x
 have e1 : M' b' = some { mb with gen:=g' }:=by simp [M']
 have e2 : M' b = some { mb with gen:=mb.gen + 1,real:=none }:=by simp [M',hne]
 have e3 : ∀ x,x ≠ b'→x ≠ b→M' x = M x:=fun x h1 h2=>by simp [M',h1,h2]
 have hold : ∀ m,M b' = some m→m.gen < g':=fun m hm=>by rw [← hg',freshGen,hm]; simp
 have hm : MvOk (mvS b k.gen b' g') M M':=by
  intro x g m hx hgx
  unfold mvS
  by_cases hc : x = b∧g = k.gen
  ·rw [if_pos hc]
   obtain ⟨rfl,rfl⟩:=hc
   rw [hmb] at hx; cases hx
   exact ⟨_,e1,Nat.le_refl _,fun _=>⟨hgen.symm,rfl⟩⟩
  ·rw [if_neg hc]
   by_cases h1 : x = b'
   ·subst h1
    have:=hold m hx
    exact ⟨_,e1,by simp only; omega,fun e=>by simp only at e; omega⟩
   ·by_cases h2 : x = b
    ·subst h2
     rw [hmb] at hx; cases hx
     have : g ≠ mb.gen:=fun e=>hc ⟨rfl,e.trans hgen⟩
     exact ⟨_,e2,by simp only; omega,fun e=>by simp only at e; omega⟩
    ·exact ⟨m,by rw [e3 x h1 h2]; exact hx,hgx,fun e=>⟨e,rfl⟩⟩
 have hext : Ext G M w G M' w:=by
  refine ⟨G.le_refl,fun _ _ q=>.inl q,fun x m hx=>?_,fun q ⟨x,mx,hx,r1⟩=>.inr ?_,rfl,rfl,rfl,Nat.le_refl _,fun _ _ _=>rfl⟩
  ·by_cases h1 : x = b'
   ·subst h1
    have:=hold m hx
    exact ⟨_,e1,by simp only; omega,fun e=>by simp only at e; omega⟩
   ·by_cases h2 : x = b
    ·subst h2
     rw [hmb] at hx; cases hx
     exact ⟨_,e2,by simp only; omega,fun e=>by simp only at e; omega⟩
    ·exact ⟨m,by rw [e3 x h1 h2]; exact hx,Nat.le_refl _,fun _=>rfl⟩
  ·by_cases h1 : x = b'
   ·subst h1; rw [e1] at hx; cases hx; exact ⟨b,mb,hmb,r1⟩
   ·by_cases h2 : x = b
    ·subst h2; rw [e2] at hx; cases hx; cases r1
    ·rw [e3 x h1 h2] at hx; exact ⟨x,mx,hx,r1⟩
 refine ⟨M',⟨⟨hr.sim.gw,fun t blk ht=>?_,fun x y mx my rb hx hy r1 r2=>?_,fun x mx rb hx r1=>?_⟩,fun t v ht=>?_,hr.sz,hr.df.ext hext,hr.gl,hr.bs⟩,hext⟩
 ·rw [lk_mvH hne] at ht
  by_cases h1 : t = b'
  ·rw [if_pos h1,hb] at ht
   cases ht
   subst h1
   exact (hr.sim.hb b k hb).rn hm fun m hm' _=>by rw [hmb] at hm'; cases hm'; exact e1
  ·rw [if_neg h1] at ht
   by_cases h2 : t = b
   ·rw [if_pos h2] at ht; cases ht
   ·rw [if_neg h2] at ht
    cases hq : lk h t with
    | none=>rw [hq] at ht; cases ht
    | some x=>
     rw [hq] at ht; cases ht
     refine (hr.sim.hb t x hq).rn hm fun m hm' hgm=>?_
     rw [e3 t h1 h2,hm',← hgm]
 ·have key : ∀ z mz,M' z = some mz→mz.real = some rb→∃ z' mz',M z' = some mz'∧mz'.real = some rb∧(z = b'∧z' = b∨z ≠ b'∧z ≠ b∧z' = z):=by
   intro z mz hz rz
   by_cases h1 : z = b'
   ·subst h1; rw [e1] at hz; cases hz; exact ⟨b,mb,hmb,rz,.inl ⟨rfl,rfl⟩⟩
   ·by_cases h2 : z = b
    ·subst h2; rw [e2] at hz; cases hz; cases rz
    ·rw [e3 z h1 h2] at hz; exact ⟨z,mz,hz,rz,.inr ⟨h1,h2,rfl⟩⟩
  obtain ⟨x',mx',p1,p2,p3⟩:=key x mx hx r1
  obtain ⟨y',my',p4,p5,p6⟩:=key y my hy r2
  have hxy:=hr.sim.inj x' y' mx' my' rb p1 p4 p2 p5
  rcases p3 with ⟨rfl,rfl⟩ | ⟨h1,h2,rfl⟩ <;> rcases p6 with ⟨rfl,rfl⟩ | ⟨h3,h4,rfl⟩
  ·rfl
  ·exact absurd hxy.symm h4
  ·exact absurd hxy h2
  ·exact hxy
 ·by_cases h1 : x = b'
  ·subst h1; rw [e1] at hx; cases hx; exact hr.sim.mlt b mb rb hmb r1
  ·by_cases h2 : x = b
   ·subst h2; rw [e2] at hx; cases hx; cases r1
   ·rw [e3 x h1 h2] at hx; exact hr.sim.mlt x mx rb hx r1
 ·rw [lk_mvF] at ht
  cases hq : lk fr t with
  | none=>rw [hq] at ht; cases ht
  | some v0=>rw [hq] at ht; cases ht; exact (hr.frr t v0 hq).rn hm
theorem RelV.mapR {G Gf : GMap} {M M' : MMap} (hG : G.le Gf) {f : Nat→Nat→Nat→Nat→Option Nat→V} {p : Nat→Nat→Nat→Nat→V}
  (hcells : ∀ (x : V),(x.mapR f p).cells = x.cells.map (V.mapR f p)) (hf : ∀ b g o l c r,RelV G M (.ref b g o l c) r→RelV Gf M' (f b g o l c) r) (hp : ∀ b g i o r,RelV G M (.ptr b g i o) r→RelV Gf M' (p b g i o) r) :
  ∀ (v : V) (r : Value),RelV G M v r→RelV Gf M' (v.mapR f p) r:=by
 intro v r hv
 have hget : ∀ (l : List V) (i : Nat),i < l.length→(l.map (V.mapR f p)).getD i .undef = (l.getD i .undef).mapR f p:=by
  intro l i hi; simp [List.getD_eq_getElem?_getD,hi]
 induction hv with
 | undef r=>exact .undef r
 | int k m=>exact .int k m
 | bool b=>exact .bool b
 | str s=>exact .str s
 | agg cs arr hsz _ ho ih=>
  simp only [V.mapR,mapRL_eq]
  exact .agg _ _ (by simpa using hsz) (fun i hi=>by rw [hget cs i (by simpa using hi)]; exact ih i (by simpa using hi)) (fun i hi=>ho i (by simpa using hi))
 | tup cs arr hsz _ ih=>
  simp only [V.mapR,mapRL_eq]
  exact .tup _ _ (by simpa using hsz) (fun i hi=>by rw [hget cs i (by simpa using hi)]; exact ih i (by simpa using hi))
 | slnil cap base rcap hc hb=>exact .slnil cap base rcap hc hb
 | sl xs cap rb ro rcap sz cells hne hg hsz hb hl hc _ ho ih=>
  simp only [V.mapR,mapRL_eq]
  have hlen : (xs.map (V.mapR f p)).length = xs.length:=by simp
  have hx : ∀ i,i < xs.length→((xs.map (V.mapR f p)).getD i .undef).cells = (xs.getD i .undef).cells.map (V.mapR f p):=fun i hi=>by rw [hget xs i hi,hcells]
  have:=RelV.sl (G:=Gf) (M:=M') (xs.map (V.mapR f p)) cap rb ro rcap sz cells (by simpa using hne) (hG _ _ hg) (fun i hi=>by rw [hlen] at hi; rw [hx i hi]; simpa using hsz i hi) (by simpa using hb) (by simpa using hl) hc
   (fun i j hi hj=>by
    rw [hlen] at hi
    rw [hx i hi,hget _ j (by rw [hsz i hi]; exact hj)]
    exact ih i j hi hj)
   (fun i j hi hj=>ho i j (by simpa using hi) hj)
  rw [hlen] at this; exact this
 | ref b g o l c ra rcap mb hM hg hl hc hh=>exact hf _ _ _ _ _ _ (.ref b g o l c ra rcap mb hM hg hl hc hh)
 | ptr b g i o ad mb hM hg hh=>exact hp _ _ _ _ _ (.ptr b g i o ad mb hM hg hh)
 | iptr x o rb ro cells hg hb _ ho ih=>
  simp only [V.mapR]
  have hx : (x.mapR f p).cells = x.cells.map (V.mapR f p):=hcells x
  exact .iptr _ o rb ro cells (hG _ _ hg) (by rw [hx]; simpa using hb) (fun j hj=>by
   rw [hx] at hj ⊢
   rw [hget _ j (by simpa using hj)]
   exact ih j (by simpa using hj)) (fun j hj=>ho j (by rw [hx] at hj; simpa using hj))
 | fn g a b ra rb h1 h2 _ _ ih3 ih4=>
  simp only [V.mapR,mapRL_eq]
  exact .fn g _ _ ra rb (by simpa using h1) (by simpa using h2) (fun i hi=>by rw [hget a i (by simpa using hi)]; exact ih3 i (by simpa using hi)) (fun i hi=>by rw [hget b i (by simpa using hi)]; exact ih4 i (by simpa using hi))
 | nilfn=>exact .nilfn
 | nilmap=>exact .nilmap
 | nil=>exact .nil
 | own b g r=>exact .undef r
def fzf (b g : Nat) (es : List V) (b' g' o l : Nat) (c : Option Nat) : V:=if b' = b∧g' = g then (if o + l ≤ es.length then .sl ((es.drop o).take l) c else .undef) else .ref b' g' o l c
def fzp (b g : Nat) (es : List V) (b' g' i o : Nat) : V:=if b' = b∧g' = g then (if i < es.length then .iptr (es.getD i .undef) o else .undef) else .ptr b' g' i o
def fzV (b g : Nat) (es : List V) (v : V) : V:=v.mapR (fzf b g es) (fzp b g es)
def fzF (b g : Nat) (es : List V) (fr : Fr) : Fr:=fr.map fun p=>(p.1,fzV b g es p.2)
def Blk.fz (b g : Nat) (es : List V) : Blk→Blk
 | .row g' sz xs=>.row g' sz (xs.map (fzV b g es))
 | .map g' xs=>.map g' (xs.map fun p=>(fzV b g es p.1,fzV b g es p.2))
 | .siter g' s pos=>.siter g' s pos
 | .loop g' n fr ps asg body busy=>.loop g' n (fr.map fun p=>(p.1,fzV b g es p.2)) ps asg body busy
 | .dead g'=>.dead g'
 | .miter g' x n seen=>.miter g' (fzV b g es x) n seen
def fzH (b g : Nat) (es : List V) : Hp→Hp
 | []=>[]
 | (k,x) :: r=>if k = b then fzH b g es r else (k,x.fz b g es) :: fzH b g es r
theorem lk_fzF (b g : Nat) (es : List V) (fr : Fr) (t : Nat) : lk (fzF b g es fr) t = (lk fr t).map (fzV b g es):=by
 induction fr with
 | nil=>rfl
 | cons p r ih=>
  obtain ⟨k,v⟩:=p
  simp only [fzF,List.map_cons,lk]
  by_cases ht : t = k
  ·simp [ht]
  ·simp only [ht,if_false]; exact ih
theorem lk_fzH (b g : Nat) (es : List V) (h : Hp) (t : Nat) : lk (fzH b g es h) t = if t = b then none else (lk h t).map (Blk.fz b g es):=by
 induction h with
 | nil=>simp [fzH,lk]
 | cons p r ih=>
  obtain ⟨k,x⟩:=p
  simp only [fzH]
  by_cases h1 : k = b
  ·rw [if_pos h1,ih]
   by_cases h2 : t = b
   ·simp [h2]
   ·have : ¬ t = k:=fun e=>h2 (e.trans h1)
    simp [h2,lk,this]
  ·rw [if_neg h1]
   simp only [lk]
   by_cases h2 : t = k
   ·subst h2; simp [h1]
   ·simp only [h2,if_false]; exact ih
theorem fzV_cells (b g : Nat) (es : List V) (x : V) : (fzV b g es x).cells = x.cells.map (fzV b g es):=by
 unfold fzV
 cases x <;> simp only [V.mapR,V.cells,List.map_cons,List.map_nil,mapRL_eq]
 ·rename_i b1 g1 o l c
  unfold fzf
  by_cases h1 : b1 = b∧g1 = g
  ·rw [if_pos h1]
   by_cases h2 : o + l ≤ es.length
   ·rw [if_pos h2]
   ·rw [if_neg h2]
  ·rw [if_neg h1]
 ·rename_i b1 g1 o l
  unfold fzp
  by_cases h1 : b1 = b∧g1 = g
  ·rw [if_pos h1]
   by_cases h2 : o < es.length
   ·rw [if_pos h2]
   ·rw [if_neg h2]
  ·rw [if_neg h1]
theorem Sim.frz {b g sz : Nat} {es : List V} (hb : lk h b = some (.row g sz es)) (hp : V.pureL es = true) (hr : Sim G M h w) :
  ∃ G' M',Sim G' M' (fzH b g es h) w∧Ext G M w G' M' w∧∀ v r,RelV G M v r→RelV G' M' (fzV b g es v) r:=by
 obtain ⟨mb,hmb,hgen,hsz,hrow⟩:=hr.hb b _ hb
 let M' : MMap:=fun x=>if x = b then some { mb with gen:=mb.gen + 1,real:=none } else M x
 let Gf : GMap:=fun k=>if mb.real = some k then (match w.heap[k]? with
  | some (.cells c _ _)=>some c
  | _=>none) else G k
 have e1 : M' b = some { mb with gen:=mb.gen + 1,real:=none }:=by simp [M']
 have e2 : ∀ x,x ≠ b→M' x = M x:=fun x h1=>by simp [M',h1]
 have hGf : G.le Gf:=fun k c hk=>by
  simp only [Gf]
  split
  ·rename_i hre
   have:=(hr.mlt b mb k hmb hre).2
   rw [this] at hk; cases hk
  ·exact hk
 have hle : M.le M':=fun x m hx=>by
  by_cases h1 : x = b
  ·subst h1; rw [hmb] at hx; cases hx; exact ⟨_,e1,by simp,fun e=>by simp at e⟩
  ·exact ⟨m,by rw [e2 x h1]; exact hx,Nat.le_refl _,fun _=>rfl⟩
 let M1 : MMap:=fun x=>if x = b then some mb else none
 have f1 : M1 b = some mb:=by simp [M1]
 have f2 : ∀ x m,M1 x = some m→x = b∧m = mb:=fun x m hx=>by
  simp only [M1] at hx
  split at hx
  ·rename_i e; cases hx; exact ⟨e,rfl⟩
  ·cases hx
 have hs1 : Sim G M1 [(b,.row g sz es)] w:=by
  refine ⟨hr.gw,fun t blk ht=>?_,fun x y mx my rb hx hy _ _=>?_,fun x mx rb hx r1=>?_⟩
  ·simp only [lk] at ht
   split at ht
   ·rename_i h0
    cases ht; subst h0
    refine ⟨mb,f1,hgen,hsz,?_⟩
    unfold RowRel at hrow ⊢
    cases hreal : mb.real with
    | none=>simp only [hreal] at hrow ⊢; exact hrow
    | some rb=>
     simp only [hreal] at hrow ⊢
     obtain ⟨arr,ty,w1,w2,w3,w4,w5⟩:=hrow
     exact ⟨arr,ty,w1,w2,w3,w4,fun i j hi hj=>⟨(w5 i j hi hj).1.pure M1 (V.pure_getD (V.pure_cells (V.pure_getD hp i)) j),(w5 i j hi hj).2⟩⟩
   ·cases ht
  ·rw [(f2 x mx hx).1,(f2 y my hy).1]
  ·obtain ⟨rfl,rfl⟩:=f2 x mx hx
   exact hr.mlt _ _ rb hmb r1
 have hfr:=frz_rel hs1 hGf (fun x mx rb arr ty fz h1 h2 he=>by
  obtain ⟨rfl,rfl⟩:=f2 x mx h1
  simp [Gf,h2,he]) 1
 have hval : ∀ v r,RelV G M v r→RelV Gf M' (fzV b g es v) r:=by
  refine RelV.mapR hGf (fun x=>fzV_cells b g es x) (fun b1 g1 o l c r q=>?_) (fun b1 g1 i o r q=>?_)
  ·unfold fzf
   by_cases hc : b1 = b∧g1 = g
   ·obtain ⟨rfl,rfl⟩:=hc
    rw [if_pos ⟨rfl,rfl⟩]
    split
    ·rename_i hol
     have q1 : RelV G M1 (.ref b1 g1 o l c) r:=by
      cases q with
      | ref _ _ _ _ _ ra rcap mb' hM hg hl hc hh=>rw [hmb] at hM; cases hM; exact .ref _ _ _ _ _ _ _ _ f1 hg hl hc hh
     have:=hfr _ _ q1
     simp only [_root_.Go.Proofs.YtcdfifbabhfknaaDoor.frz,V.mapR,lk,if_true,true_and,if_pos hol] at this
     have hpp : V.pureL ((es.drop o).take l) = true:=by
      rw [V.pureL_iff] at hp ⊢
      exact fun v hv=>hp v (List.mem_of_mem_drop (List.mem_of_mem_take hv))
     have e0 : ((es.drop o).take l).map (fun v=>V.mapR (fun _ _ _ _ _=>.undef) (fun _ _ _ _=>.undef) v) = (es.drop o).take l:=by
      have : ∀ x ∈ (es.drop o).take l,(fun v=>V.mapR (fun _ _ _ _ _=>.undef) (fun _ _ _ _=>.undef) v) x = x:=fun x hx=>mapR_pure x ((V.pureL_iff _).1 hpp x hx)
      rw [List.map_congr_left this,List.map_id']
     rw [e0] at this
     exact this.mono Gf.le_refl (fun _ _ h=>by cases h)
    ·exact .undef r
   ·rw [if_neg hc]
    cases q with
    | ref _ _ _ _ _ ra rcap mb' hM hg hl hc' hh=>
     by_cases hbb : b1 = b
     ·subst hbb
      rw [hmb] at hM; cases hM
      have : g1 ≠ mb.gen:=fun e=>hc ⟨rfl,e.trans hgen⟩
      exact .ref _ _ _ _ _ _ _ _ e1 (by simp only; omega) hl hc' (fun e=>by simp only at e; omega)
     ·exact .ref _ _ _ _ _ _ _ _ (by rw [e2 b1 hbb]; exact hM) hg hl hc' hh
  ·unfold fzp
   by_cases hc : b1 = b∧g1 = g
   ·obtain ⟨rfl,rfl⟩:=hc
    rw [if_pos ⟨rfl,rfl⟩]
    split
    ·rename_i hil
     have q1 : RelV G M1 (.ptr b1 g1 i o) r:=by
      cases q with
      | ptr _ _ _ _ ad mb' hM hg hh=>rw [hmb] at hM; cases hM; exact .ptr _ _ _ _ _ _ f1 hg hh
     have:=hfr _ _ q1
     simp only [_root_.Go.Proofs.YtcdfifbabhfknaaDoor.frz,V.mapR,lk,if_true,true_and,if_pos hil] at this
     rw [mapR_pure _ (V.pure_getD hp i)] at this
     exact this.mono Gf.le_refl (fun _ _ h=>by cases h)
    ·exact .undef r
   ·rw [if_neg hc]
    cases q with
    | ptr _ _ _ _ ad mb' hM hg hh=>
     by_cases hbb : b1 = b
     ·subst hbb
      rw [hmb] at hM; cases hM
      have : g1 ≠ mb.gen:=fun e=>hc ⟨rfl,e.trans hgen⟩
      exact .ptr _ _ _ _ _ _ e1 (by simp only; omega) (fun e=>by simp only at e; omega)
     ·exact .ptr _ _ _ _ _ _ (by rw [e2 b1 hbb]; exact hM) hg hh
 have hget : ∀ (l : List V) (i : Nat),i < l.length→(l.map (fzV b g es)).getD i .undef = fzV b g es (l.getD i .undef):=by
  intro l i hi; simp [List.getD_eq_getElem?_getD,hi]
 refine ⟨Gf,M',⟨fun k c hk=>?_,fun t blk ht=>?_,fun x y mx my rb hx hy r1 r2=>?_,fun x mx rb hx r1=>?_⟩,⟨hGf,fun k c hk=>?_,hle,fun q ⟨x,mx,hx,r1⟩=>.inr ?_,rfl,rfl,rfl,Nat.le_refl _,fun _ _ _=>rfl⟩,hval⟩
 ·simp only [Gf] at hk
  split at hk
  ·split at hk
   ·rename_i c' ty fz he; cases hk; exact ⟨ty,fz,he⟩
   ·cases hk
  ·exact hr.gw k c hk
 ·rw [lk_fzH] at ht
  by_cases h1 : t = b
  ·rw [if_pos h1] at ht; cases ht
  ·rw [if_neg h1] at ht
   cases hq : lk h t with
   | none=>rw [hq] at ht; cases ht
   | some x=>
    rw [hq] at ht; cases ht
    have hbk:=hr.hb t x hq
    cases x with
    | row g2 sz2 xs=>
     obtain ⟨m2,q1,q2,q3,q4⟩:=hbk
     refine ⟨m2,by rw [e2 t h1]; exact q1,q2,q3,?_⟩
     unfold RowRel at q4 ⊢
     cases hreal : m2.real with
     | none=>simp only [hreal] at q4 ⊢; rw [q4]; rfl
     | some rb=>
      simp only [hreal] at q4 ⊢
      obtain ⟨arr,ty,w1,w2,w3,w4,w5⟩:=q4
      refine ⟨arr,ty,w1,w2,by simpa using w3,fun i hi=>?_,fun i j hi hj=>?_⟩
      ·have hi' : i < xs.length:=by simpa using hi
       rw [hget _ _ hi',fzV_cells]; simpa using w4 i hi'
      ·have hi' : i < xs.length:=by simpa using hi
       obtain ⟨k1,k2⟩:=w5 i j hi' hj
       rw [hget _ _ hi',fzV_cells,hget _ _ (by rw [w4 i hi']; exact hj)]
       exact ⟨hval _ _ k1,k2⟩
    | map g2 xs=>
     obtain ⟨m2,rb,q1,q2,q3,q4,entries,clock,w1,w2,w3⟩:=hbk
     refine ⟨m2,rb,by rw [e2 t h1]; exact q1,q2,q3,q4,entries,clock,w1,by simpa using w2,fun i hi=>?_⟩
     have hi' : i < xs.length:=by simpa using hi
     obtain ⟨k1,k2⟩:=w3 i hi'
     have e : (xs.map fun p=>(fzV b g es p.1,fzV b g es p.2)).getD i (.undef,.undef) = (fzV b g es (xs.getD i (.undef,.undef)).1,fzV b g es (xs.getD i (.undef,.undef)).2):=by
      simp [List.getD_eq_getElem?_getD,hi']
     rw [e]
     exact ⟨hval _ _ k1,hval _ _ k2⟩
    | siter g2 s pos=>
     obtain ⟨m2,rb,q1,q2,q3,q4,q5⟩:=hbk
     exact ⟨m2,rb,by rw [e2 t h1]; exact q1,q2,q3,q4,q5⟩
    | loop g2 n2 fr2 ps asg body busy=>
     obtain ⟨m2,rb,q1,q2,q3,q4,r,w1,w2,w3,w4,w5,w6,w7,w8⟩:=hbk
     refine ⟨m2,rb,by rw [e2 t h1]; exact q1,q2,q3,q4,r,w1,w2,w3,w4,w5,w6,w7,fun t2 v2 ht2=>?_⟩
     have ht2 : lk (fzF b g es fr2) t2 = some v2:=ht2
     rw [lk_fzF] at ht2
     cases hq2 : lk fr2 t2 with
     | none=>rw [hq2] at ht2; cases ht2
     | some v0=>rw [hq2] at ht2; cases ht2; exact hval _ _ (w8 t2 v0 hq2)
    | dead g2=>obtain ⟨m2,q1,q2⟩:=hbk; exact ⟨m2,by rw [e2 t h1]; exact q1,q2⟩
    | miter g2 x n2 seen=>
     obtain ⟨m2,rb,q1,q2,q3,q4,r,q5,q6⟩:=hbk
     exact ⟨m2,rb,by rw [e2 t h1]; exact q1,q2,q3,q4,r,hval _ _ q5,q6⟩
 ·have key : ∀ z mz,M' z = some mz→mz.real = some rb→M z = some mz:=fun z mz hz rz=>by
   by_cases h1 : z = b
   ·subst h1; rw [e1] at hz; cases hz; cases rz
   ·rw [e2 z h1] at hz; exact hz
  exact hr.inj x y mx my rb (key x mx hx r1) (key y my hy r2) r1 r2
 ·by_cases h1 : x = b
  ·subst h1; rw [e1] at hx; cases hx; cases r1
  ·rw [e2 x h1] at hx
   obtain ⟨k1,k2⟩:=hr.mlt x mx rb hx r1
   refine ⟨k1,?_⟩
   simp only [Gf]
   rw [if_neg fun e=>h1 (hr.inj x b mx mb rb hx hmb r1 e)]
   exact k2
 ·simp only [Gf] at hk
  split at hk
  ·rename_i hre; exact .inr (.inr ⟨b,mb,hmb,hre⟩)
  ·exact .inl hk
 ·by_cases h1 : x = b
  ·subst h1; rw [e1] at hx; cases hx; cases r1
  ·rw [e2 x h1] at hx; exact ⟨x,mx,hx,r1⟩
theorem R.frz {b g sz : Nat} {es : List V} (hb : lk h b = some (.row g sz es)) (hp : V.pureL es = true) (hr : R bs n gl G M fr h a w) :
  ∃ G' M',R bs n gl G' M' (fzF b g es fr) (fzH b g es h) a w∧Ext G M w G' M' w:=by
 obtain ⟨G',M',h1,h2,h4⟩:=hr.sim.frz hb hp
 refine ⟨G',M',⟨h1,fun t v ht=>?_,hr.sz,hr.df.ext h2,hr.gl.mono h2.1,hr.bs⟩,h2⟩
 rw [lk_fzF] at ht
 cases hq : lk fr t with
 | none=>rw [hq] at ht; cases ht
 | some v0=>rw [hq] at ht; cases ht; exact h4 _ _ (hr.frr t v0 hq)
inductive MvP (K : Fr→Hp→Prop) : Fr→Hp→Prop
 | done {fr : Fr} {h : Hp} (hk : K fr h) : MvP K fr h
 | move {fr : Fr} {h : Hp} (b b' : Nat) (k : Blk) (hne : b ≠ b') (hb : lk h b = some k) (hk : ∀ g',MvP K (mvF (mvS b k.gen b' g') fr) (mvH (mvS b k.gen b' g') b b' g' h)) : MvP K fr h
 | frz {fr : Fr} {h : Hp} (b : Nat) {g sz : Nat} {es : List V} (hb : lk h b = some (.row g sz es)) (hp : V.pureL es = true) (hk : MvP K (fzF b g es fr) (fzH b g es h)) : MvP K fr h
 | rev {fr : Fr} {h : Hp} (t : Nat) {b g off len : Nat} (ht : lk fr t = some (.ref b g off len none)) (hk : ∀ c,len ≤ c→MvP K ((t,.ref b g off len (some c)) :: fr) h) : MvP K fr h
theorem MvP.sound {K : Fr→Hp→Prop} (hk : MvP K fr h) : ∀ {G M},R bs n gl G M fr h a w→∃ fr' h' G' M',K fr' h'∧R bs n gl G' M' fr' h' a w∧Ext G M w G' M' w:=by
 induction hk with
 | done hk=>intro G M hr; exact ⟨_,_,G,M,hk,hr,.refl _ _ _⟩
 | frz b hb hp _ ih=>
  intro G M hr
  obtain ⟨G1,M1,r1,x1⟩:=hr.frz hb hp
  obtain ⟨fr',h',G',M',q1,q2,q3⟩:=ih r1
  exact ⟨fr',h',G',M',q1,q2,x1.trans q3⟩
 | move b b' k hne hb _ ih=>
  intro G M hr
  obtain ⟨M1,r1,x1⟩:=hr.move hne hb
  obtain ⟨fr',h',G',M',q1,q2,q3⟩:=ih _ r1
  exact ⟨fr',h',G',M',q1,q2,x1.trans q3⟩
 | rev t ht _ ih=>
  rename_i fr0 h0 b g off len hk0
  intro G M hr
  obtain ⟨ra,rcap,mb,he,hM,hg,hl,-,hh⟩:=ref_inv (hr.frr t _ ht)
  refine ih rcap hl (G:=G) (M:=M) ⟨hr.sim,fun t2 v h2=>?_,hr.sz,hr.df,hr.gl,hr.bs⟩
  by_cases h3 : t2 = t
  ·rw [h3] at h2 ⊢
   have h4 : lk ((t,V.ref b g off len (some rcap)) :: fr0) t = some (.ref b g off len (some rcap)):=by simp [lk]
   obtain rfl:=Option.some.inj (h4.symm.trans h2)
   rw [he]
   exact .ref _ _ _ _ _ _ _ mb hM hg hl (fun c hc=>by cases hc; rfl) hh
  ·rw [lk_cons_ne h3] at h2
   exact hr.frr t2 v h2
theorem IW.moved {c : Code} {Q : IQ} (hk : MvP (IW P n gl c Q) fr h) : IW P n gl c Q fr h:=by
 intro rd bs hn G M a w hr
 obtain ⟨fr',h',G',M',q1,q2,q3⟩:=hk.sound hr
 exact wpIn_mono (q1 rd bs hn G' M' a w q2) fun _ _ _ hu=>hu.after q3
inductive ExP (K : Fr→Hp→Prop) (fr : Fr) (h : Hp) : Prop
 | mk (fr' : Fr) (h' : Hp) (hf : Sub fr' fr) (hh : Sub h' h) (hm : MvP K fr' h') : ExP K fr h
theorem IW.exitM {c : Code} {Q : IQ} (hk : IW P n gl c (fun e=>ExP (Q e)) fr h) : IW P n gl c Q fr h:=by
 intro rd bs hn G M a w hr
 refine wpIn_mono (hk rd bs hn G M a w hr) ?_
 rintro e a' w' ⟨ie,G',M',fr',h',rfl,⟨fr1,h1,s1,s2,hm⟩,hr',hx'⟩
 obtain ⟨fr2,h2,G2,M2,q1,q2,q3⟩:=hm.sound (hr'.weaken s1.spec s2.spec)
 exact ⟨ie,G2,M2,fr2,h2,rfl,q1,q2,hx'.trans q3⟩
theorem IW.loopM {c : Code} {Q : IQ} {X : Type} (F : X→Fr) (H : X→Hp) (Inv : X→Prop) (mu : X→Nat)
  (h0 : MvP (fun fr' h'=>∃ x0,Inv x0∧(∀ t v,lk (F x0) t = some v→lk fr' t = some v)∧∀ t v,lk (H x0) t = some v→lk h' t = some v) fr h)
  (round : ∀ x,Inv x→IW P n gl c (seqQ (fun fr' h'=>MvP (fun fr2 h2=>∃ x',Inv x'∧(∀ t v,lk (F x') t = some v→lk fr2 t = some v)∧(∀ t v,lk (H x') t = some v→lk h2 t = some v)∧mu x' < mu x) fr' h') Q) (F x) (H x)) : IW P n gl (.loop c) Q fr h:=by
 intro rd bs hn G M a w hr
 intro b k cs hro hb hrm
 have key : ∀ m x G1 M1 a1 w1,mu x = m→Inv x→R bs n gl G1 M1 (F x) (H x) a1 w1→Ext G M w G1 M1 w1→
   ∃ e a' w',Up bs n gl G M w Q e a' w'∧ArrivesIn (Machine.fenced P (FW rd)) P (lone (b.atR a1 (.code c :: .inLoop c :: k)) cs w1) b k cs e a' w':=by
  intro m
  induction m using Nat.strongRecOn with
  | _ m ih=>
   intro x G1 M1 a1 w1 hm hI hr1 hx1
   obtain ⟨e,a2,w2,⟨ie,G2,M2,fr2,h2,rfl,hq,hr2,hx2⟩,harr⟩:=round x hI rd bs hn G1 M1 a1 w1 hr1 b (.inLoop c :: k) cs hro hb hrm
   cases ie with
   | normal=>
    obtain ⟨fr3,h3,G3,M3,⟨x',hI',hf',hh',hlt⟩,hr3,hx3⟩:=MvP.sound hq hr2
    obtain ⟨e,a3,w3,hq3,harr3⟩:=ih (mu x') (hm ▸ hlt) x' G3 M3 a2 w2 rfl hI' (hr3.weaken hf' hh') ((hx1.trans hx2).trans hx3)
    exact ⟨e,a3,w3,hq3,.of_steps (StepsIn.trans harr (.one (fenced_calm hb hrm rfl) stepR_inLoop)) harr3⟩
   | exit id=>exact ⟨_,a2,w2,⟨.exit id,G2,M2,fr2,h2,rfl,hq,hr2,hx1.trans hx2⟩,.pass (x:=.inLoop c) rfl (fun _ _=>.inl (by simp [IExit.out])) harr⟩
   | goto l=>exact ⟨_,a2,w2,⟨.goto l,G2,M2,fr2,h2,rfl,hq,hr2,hx1.trans hx2⟩,.pass (x:=.inLoop c) rfl (fun _ _=>.inl (by simp [IExit.out])) harr⟩
   | ret=>exact ⟨_,a2,w2,⟨.ret,G2,M2,fr2,h2,rfl,hq,hr2,hx1.trans hx2⟩,.pass (x:=.inLoop c) rfl (fun _ _=>.inl (by simp [IExit.out])) harr⟩
 obtain ⟨fr0,h0',G0',M0',⟨x0,i0,hF,hH⟩,r0,x00⟩:=h0.sound hr
 obtain ⟨e,a',w',hq,harr⟩:=key _ x0 G0' M0' a w rfl i0 (r0.weaken hF hH) x00
 exact ⟨e,a',w',hq,.of_steps (.one (fenced_calm hb hrm rfl) stepR_loop) harr⟩
end
def LoopP (body : IQ→Fr→Hp→Prop) (Q : IQ) (fr : Fr) (h : Hp) : Prop:=
 (∃ (X : Type) (F : X→Fr) (H : X→Hp) (Inv : X→Prop) (mu : X→Nat) (x0 : X),Inv x0∧Sub (F x0) fr∧Sub (H x0) h∧
  ∀ x,Inv x→body (seqQ (fun fr' h'=>∃ x',Inv x'∧Sub (F x') fr'∧Sub (H x') h'∧mu x' < mu x) Q) (F x) (H x))∨
 (∃ (X : Type) (F : X→Fr) (H : X→Hp) (Inv : X→Prop) (mu : X→Nat),MvP (fun fr' h'=>∃ x0,Inv x0∧Sub (F x0) fr'∧Sub (H x0) h') fr h∧
  ∀ x,Inv x→body (seqQ (fun fr' h'=>MvP (fun fr2 h2=>∃ x',Inv x'∧Sub (F x') fr2∧Sub (H x') h2∧mu x' < mu x) fr' h') Q) (F x) (H x))∨
 ∃ (X : Type) (F : X→Fr) (H : X→Hp) (Inv : X→Prop) (mu : X→Nat),MvP (fun fr' h'=>∃ x0,Inv x0∧Sub (F x0) fr'∧Sub (H x0) h') fr h∧
  ∀ x,Inv x→body (seqQ (fun fr' h'=>MvP (fun fr2 h2=>∃ x',Inv x'∧Sub (F x') fr2∧Sub (H x') h2∧mu x' < mu x) fr' h') (fun e=>ExP (Q e))) (F x) (H x)
theorem MvP.mono {K K' : Fr→Hp→Prop} (hk : ∀ fr h,K fr h→K' fr h) {fr : Fr} {h : Hp} (hm : MvP K fr h) : MvP K' fr h:=by
 induction hm with
 | done h=>exact .done (hk _ _ h)
 | move b b' k hne hb _ ih=>exact .move b b' k hne hb ih
 | frz b hb hp _ ih=>exact .frz b hb hp ih
 | rev t ht _ ih=>exact .rev t ht ih
end Go.Proofs.YtcdfifbabhfknaaDoor
