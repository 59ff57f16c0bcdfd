/- Regions whose order is drawn, for proofs about all inputs: blocks have the numbers of slots. No program stands in it. Conditions: none. -/
import Derived.Test.YtcdfifbabhfknaaDoorCore26
namespace Go.Proofs.YtcdfifbabhfknaaDoor
open Go

/-- What an operation does wherever it finds what it looks at. 'al': the number of the block that it may make; where there is none yet of that number, the block gets the generation gm tells. -/
def YieldG (P : Program) (gl : Fr) (n : Nat) (ops : Array Oper) (gm : Nat → Nat) (i : Nat) (o : Oper) (F : FF) (H : HH) (rd : Nat → Prop) (al ex : Option Nat) (v : V) (W : Hp) : Prop :=
  ∀ {fr : Fr} {h : Hp} {G : GMap} {M : MMap} {a : Act} {w : World} {Q : Exit → Act → World → Prop} {K' : Act → World → Prop}, R n gl G M fr h a w → (∀ t ∈ o.looksAt ops, lk fr t = F t) → (∀ b, rd b → lk h b = H b) → (∀ b, al = some b → lk h b = none → freshGen M b = gm b) →
    (∀ rv G' M' w', R n gl G' M' (putF fr o.dst v) (W ++ h) (a.put o.dst rv) w' → Ext G M w G' M' w' → (∀ b, ex ≠ some b → lk h b = none → freshGen M' b = freshGen M b) → K' (a.put o.dst rv) w') → wpOp P ops Q i K' a w

section
variable {P : Program} {gl : Fr} {n : Nat} {ops : Array Oper} {gm : Nat → Nat} {vs : Nat → V} {Ws : Nat → Hp} {rd : Nat → Nat → Prop} {al ex : Nat → Option Nat} {F0 : FF} {H0 : HH}

theorem st_none {α : Type} {D : Nat → List (Nat × α)} {F0 : Nat → Option α} {b : Nat} : ∀ k, st D all1 F0 k b = none → ∀ j, j < k → lk (D j) b = none
  | 0, _, j, hj => by omega
  | k + 1, h, j, hj => by
    have h : ov (D k) (st D all1 F0 k) b = none := h
    unfold ov at h
    split at h
    · cases h
    · rename_i hn
      by_cases hjk : j = k
      · subst hjk; exact hn
      · exact st_none k h j (by omega)

theorem regionG (hback : ckBack ops = true)
    (hy : ∀ i o, ops[i]? = some o → YieldG P gl n ops gm i o (st (Dv ops vs) all1 F0 i) (st Ws all1 H0 i) (rd i) (al i) (ex i) (vs i) (Ws i))
    (hslot : ∀ i j oi oj, i < j → ops[i]? = some oi → ops[j]? = some oj → bd (ancs ops.toList []) i j = false → SlotInd ops oi oj)
    (hheap : ∀ i j, i < j → j < ops.size → bd (ancs ops.toList []) i j = false → HeapInd (Ws i) (Ws j) (rd i) (rd j))
    (hrd : ∀ i b, al i = some b → rd i b) (hbig : ∀ i b, al i = some b → b ≠ 999999) (hal2 : ∀ i j b, i ≠ j → i < ops.size → j < ops.size → al i = some b → b ≠ 999999 → ex j ≠ some b) {Q : Exit → Act → World → Prop} {G0 : GMap} {M0' : MMap} {w0 : World}
    (hfin : ∀ fr' h' G' M' a' w', lk fr' = st (Dv ops vs) all1 F0 ops.size → lk h' = st Ws all1 H0 ops.size → R n gl G' M' fr' h' a' w' → Ext G0 M0' w0 G' M' w' → Q .normal a' w') :
    ∀ (fuel : Nat) (listed : Array Bool) (fr : Fr) (h : Hp) (G : GMap) (M : MMap) (a : Act) (w : World), listed.size = ops.size → (∀ x y, listed.getD x false = true → bnds ops x y = true → listed.getD y false = true) →
      lk fr = st (Dv ops vs) (fun j => listed.getD j false) F0 ops.size → lk h = st Ws (fun j => listed.getD j false) H0 ops.size → R n gl G M fr h a w → Ext G0 M0' w0 G M w →
      (∀ i, i < ops.size → listed.getD i false = false → ∀ b, al i = some b → b ≠ 999999 → st Ws all1 H0 i b = none → freshGen M b = gm b ∧ lk h b = none) → unl ops.size listed ≤ fuel → wpAny P .any ops Q fuel listed a w := by
  have done : ∀ (listed : Array Bool) (fr : Fr) (h : Hp) (G : GMap) (M : MMap) (a : Act) (w : World), listed.size = ops.size → (∀ i, i < ops.size → listed.getD i true = true) →
      lk fr = st (Dv ops vs) (fun j => listed.getD j false) F0 ops.size → lk h = st Ws (fun j => listed.getD j false) H0 ops.size → R n gl G M fr h a w → Ext G0 M0' w0 G M w → Q .normal a w := by
    intro listed fr h G M a w hs hal hf hh hr hx
    have hl : ∀ j, j < ops.size → all1 j = (fun j => listed.getD j false) j := fun j hj => by
      have := hal j hj
      have hjs : j < listed.size := by omega
      simp [hjs] at this
      simp [all1, hjs, this]
    exact hfin fr h G M a w (by rw [hf, st_congr ops.size hl]) (by rw [hh, st_congr ops.size hl]) hr hx
  intro fuel
  induction fuel with
  | zero =>
    intro listed fr h G M a w hs hdc hf hh hr hx hfi hu
    have hall := unl_zero (by omega : unl ops.size listed = 0)
    refine ⟨?_, done listed fr h G M a w hs hall hf hh hr hx⟩
    cases hrd : Region.ready .any ops listed with
    | nil => rfl
    | cons i r =>
      have hm : i ∈ Region.ready .any ops listed := by rw [hrd]; exact List.mem_cons_self
      obtain ⟨h1, o, h2, -⟩ := mem_ready.1 hm
      rw [hall i (Array.getElem?_eq_some_iff.1 h2).1] at h1; cases h1
  | succ fuel ihf =>
    intro listed fr h G M a w hs hdc hf hh hr hx hfi hu
    refine ⟨fun hn => ?_, fun i hir => ?_⟩
    · refine done listed fr h G M a w hs (fun i hi' => ?_) hf hh hr hx
      cases hl : listed.getD i true with
      | true => rfl
      | false => exact absurd hn (ready_ex hback hs hi' hl)
    · obtain ⟨hun, o, ho, hall⟩ := mem_ready.1 hir
      have his : i < ops.size := (Array.getElem?_eq_some_iff.1 ho).1
      have hil : i < listed.size := by omega
      have hunf : listed.getD i false = false := by
        simp [hil] at hun
        simp [hil, hun]
      have hpre : ∀ y, bnds ops i y = true → listed.getD y false = true := fun y hy' => bnds_listed hir hy'
      have below : ∀ j, bd (ancs ops.toList []) j i = true → listed.getD j false = true := fun j hb => bd_spec hb (fun x => listed.getD x false = true) hdc hpre
      have above : ∀ j, listed.getD j false = true → bd (ancs ops.toList []) i j = false := by
        intro j hj
        cases hb : bd (ancs ops.toList []) i j with
        | false => rfl
        | true =>
          have := bd_spec hb (fun x => listed.getD x false = true) hdc (fun y hy' => hdc j y hj hy')
          rw [hunf] at this; cases this
      have hdv : ∀ j, Dv ops vs j = match ops[j]? with | some oj => dD oj.dst (vs j) | none => [] := fun j => rfl
      have hset : ∀ j, j ≠ i → (listed.setIfInBounds i true).getD j false = listed.getD j false := fun j hj => getD_set_ne false (Ne.symm hj)
      have hseti : (listed.setIfInBounds i true).getD i false = true := by simp [hil]
      have hreads : ∀ b, rd i b → lk h b = st Ws all1 H0 i b := by
        intro b hb
        rw [hh]
        rw [st_above (i := i) ops.size (by omega) fun j h1 h2 h3 => ?_]
        · refine st_below i fun j hj h3 => ?_
          cases hb' : bd (ancs ops.toList []) j i with
          | true => exact below j hb'
          | false => exact absurd ((hheap j i hj his hb').wr b hb) h3
        · cases hl : listed.getD j false with
          | false => rfl
          | true =>
            have hji : i ≠ j := fun e => by rw [← e, hunf] at hl; cases hl
            exact absurd ((hheap i j (by omega) h2 (above j hl)).rw b hb) h3
      refine hy i o ho hr (fun t ht => ?_) hreads (fun b hb hn => ?_) (fun rv G' M' w' hr' hx' hf' => ?_)
      · rw [hf]
        rw [st_above (i := i) ops.size (by omega) fun j h1 h2 h3 => ?_]
        · refine st_below i fun j hj h3 => ?_
          have hoj : ops[j]? = some ops[j] := Array.getElem?_eq_getElem (by omega)
          rw [hdv, hoj] at h3
          have hd := lk_dD_some h3
          cases hb : bd (ancs ops.toList []) j i with
          | true => exact below j hb
          | false => exact absurd hd ((hslot j i _ _ hj hoj ho hb).xy t ht)
        · have hoj : ops[j]? = some ops[j] := Array.getElem?_eq_getElem h2
          rw [hdv, hoj] at h3
          have hd := lk_dD_some h3
          cases hl : listed.getD j false with
          | false => rfl
          | true =>
            have hji : i ≠ j := fun e => by rw [← e, hunf] at hl; cases hl
            exact absurd hd ((hslot i j _ _ (by omega) ho hoj (above j hl)).yx t ht)
      · by_cases h9 : b = 999999
        · exact absurd h9 (hbig i b hb)
        · exact (hfi i his hunf b hb h9 (by rw [← hreads b (hrd i b hb)]; exact hn)).1
      · refine ihf (listed.setIfInBounds i true) _ _ G' M' _ w' (by simpa using hs) ?_ ?_ ?_ hr' (hx.trans hx') ?_ ?_
        · intro x y h1 h2
          by_cases hy' : y = i
          · subst hy'; exact hseti
          · rw [hset y hy']
            by_cases hxi : x = i
            · subst hxi; exact hpre y h2
            · rw [hset x hxi] at h1; exact hdc x y h1 h2
        · rw [putF_dD, lk_append, hf]
          have : dD o.dst (vs i) = Dv ops vs i := by rw [hdv, ho]
          rw [this]
          refine (st_put (L := fun j => listed.getD j false) hunf hseti hset ops.size his fun j h1 h2 h3 t => ?_).symm
          have hoj : ops[j]? = some ops[j] := Array.getElem?_eq_getElem h2
          have hI := hslot i j _ _ h1 ho hoj (above j h3)
          rw [hdv, hdv, ho, hoj]
          by_cases hd : o.dst = some t
          · exact .inr (lk_dD (hI.dd t hd))
          · exact .inl (lk_dD hd)
        · rw [lk_append, hh]
          exact (st_put (L := fun j => listed.getD j false) hunf hseti hset ops.size his fun j h1 h2 h3 t => (hheap i j h1 h2 (above j h3)).ww t).symm
        · intro j hjs hj b hb h9 hn
          have hji : j ≠ i := fun e => by rw [e, hseti] at hj; cases hj
          rw [hset j hji] at hj
          obtain ⟨f1, f2⟩ := hfi j hjs hj b hb h9 hn
          refine ⟨(hf' b (fun hc => hal2 j i b hji hjs his hb h9 hc) f2).trans f1, ?_⟩
          rw [lk_append, ov_none ?_]
          · exact f2
          · rcases Nat.lt_or_ge i j with hij | hij
            · exact st_none j hn i hij
            · have hnb : bd (ancs ops.toList []) j i = false := by
                cases hb' : bd (ancs ops.toList []) j i with
                | false => rfl
                | true => have := below j hb'; rw [hj] at this; cases this
              exact (hheap j i (by omega) his hnb).rw b (hrd j b hb)
        · have := unl_set hs his hun
          omega
end

/-! ### The rule, told by a walk through the text -/

abbrev Fps := List (List Nat × List Nat)
def optW (o : Option Y) (K : V → Hp → List Nat → Prop) : Prop := match o with
  | some y => K y.1 y.2.1 y.2.2
  | none => False

def gB (want : Bool) (A B : Unit → Prop) : Option V → Prop
  | some (.bool b) => if b = want then A () else B ()
  | _ => False
def gF (fr : Fr) (A B : Unit → Prop) : Option (Nat × Bool) → Prop
  | none => A ()
  | some (t, want) => gB want A B (lk fr t)

/-- A call that leaves no trace: of immutable arguments, or one that reads memory of one's own and has no memory in its result. -/
def PureW (P : Program) (gl : Fr) (f : FuncId) (args : List V) (h : Hp) (res : V) : Prop :=
  (V.pureL args = true ∧ PureC P gl f args res) ∨ ∃ m, PureC P gl f (args.map (frz h m)) res ∧ res.scalar = true

def dcallW (P : Program) (gl : Fr) (h : Hp) (K : V → Prop) : V → List V → Prop
  | .fn g fst cap, vs => ∃ res, PureW P gl g (fst ++ vs ++ cap) h res ∧ K res
  | _, _ => False
def w2l : Option V → Option (List V) → (V → List V → Prop) → Prop
  | some v, some u, K => K v u
  | _, _, _ => False

/-- The generation that a block gets that is made or grown now. -/
def gfG (gm : Nat → Nat) (H : HH) (b : Nat) : Nat := match H b with
  | some (.row g _ _) => g + 1
  | some (.map g _) => g + 1
  | some (.siter g _ _) => g + 1
  | none => gm b

def kRd (pu : Bool) (id : Option Nat) (K : V → Hp → List Nat → Prop) (v : V) (W : Hp) (rd : List Nat) : Prop := K v W (bif pu then rd else id.toList ++ rd)
def kCl (K : V → Hp → List Nat → Prop) (h : Hp) (v : V) : Prop := K v [] (h.map (·.1))

def dopW (P : Program) (gl : Fr) (gm : Nat → Nat) (id : Option Nat) (fr : Fr) (h : Hp) (K : V → Hp → List Nat → Prop) (op : IOp) : Prop :=
  match asCall op with
  | some (f, as) => w2l (ev gl fr f) (evs gl fr as) (dcallW P gl h (kCl K h))
  | none => optW (eop gl (gfG gm (lk h)) (id.getD 999999) (lk fr) (lk h) op) (kRd (isPure op) id K)

def snocF (acc : Fps) (ks : List Nat) (rd : List Nat) : Fps := acc ++ [(ks, rd)]
def kD (I : Fr → Hp → Fps → (Fr → Hp → Fps → Prop) → Prop) (dst : Option Nat) (fr : Fr) (h : Hp) (acc : Fps) (K : Fr → Hp → Fps → Prop) (v : V) (W : Hp) (rd : List Nat) : Prop := I (putF fr dst v) (W ++ h) (snocF acc (W.map (·.1)) rd) K
def kU (I : Fr → Hp → Fps → (Fr → Hp → Fps → Prop) → Prop) (o : IOper) (fr : Fr) (h : Hp) (acc : Fps) (K : Fr → Hp → Fps → Prop) (_ : Unit) : Prop := I (putF fr o.dst .undef) h (snocF acc [] (alOf o).toList) K
def dopT (P : Program) (gl : Fr) (gm : Nat → Nat) (id : Option Nat) (fr : Fr) (h : Hp) (K : V → Hp → List Nat → Prop) (op : IOp) (_ : Unit) : Prop := dopW P gl gm id fr h K op

def dregW (P : Program) (gl : Fr) (gm : Nat → Nat) : List IOper → Fr → Hp → Fps → (Fr → Hp → Fps → Prop) → Prop
  | [], fr, h, acc, K => K fr h acc
  | o :: r, fr, h, acc, K => gF fr (dopT P gl gm o.dst fr h (kD (dregW P gl gm r) o.dst fr h acc K) o.op) (kU (dregW P gl gm r) o fr h acc K) o.guard

section
variable {P : Program} {gl : Fr} {n : Nat} {ops : Array Oper} {gm : Nat → Nat}

theorem optW_some {o : Option Y} {K : V → Hp → List Nat → Prop} (h : optW o K) : ∃ y, o = some y ∧ K y.1 y.2.1 y.2.2 := by
  cases o with
  | none => exact h.elim
  | some y => exact ⟨y, rfl, h⟩

/-- A call that leaves no trace, wherever the heap is what it was where the call reads it. -/
theorem PureW.calls {f : FuncId} {args : List V} {h : Hp} {res : V} (hp : PureW P gl f args h res) {h' : Hp} (hh : ∀ b, b ∈ h.map (·.1) → lk h' b = lk h b) {G : GMap} {M : MMap} {w : World} (hs : Sim G M h' w) (hgl : GlRel G gl) {rargs : Array Value} (hsz : rargs.size = args.length)
    (hr : ∀ i, i < args.length → RelV G M (args.getD i .undef) (rargs.getD i undef)) : callable P f = true ∧ Calls P f rargs w fun e w' => ∃ rv, e = .returned rv ∧ ∃ G', RelV G' M res rv ∧ Sim G' M h' w' ∧ Ext G M w G' M w' := by
  rcases hp with ⟨hpu, hc⟩ | ⟨m, hc, hsc⟩
  · refine ⟨hc.1, Calls.mono (hc.2 G w rargs hs.gw hgl hsz fun i hi => (hr i hi).pure M0 (V.pure_getD hpu i)) ?_⟩
    rintro e w' ⟨rv, G', rfl, hv, hg, hx⟩
    obtain ⟨s1, s2⟩ := hs.after hg hx
    exact ⟨rv, rfl, G', hv.mono G'.le_refl (fun _ _ h => by cases h), s1, s2⟩
  · refine ⟨hc.1, ?_⟩
    have hs0 : Sim G M h w := ⟨hs.gw, fun b k hb => hs.hb b k (by rw [hh b (lk_mem hb)]; exact hb), hs.inj, hs.mlt⟩
    let Gf : GMap := fun k => match w.heap[k]? with
      | some (.cells c _ _) => some c
      | _ => none
    have hGf : G.le Gf := fun k c hk => by
      obtain ⟨ty, fz, he⟩ := hs.gw k c hk
      simp [Gf, he]
    have hin : GIn Gf w := fun k c hk => by
      simp only [Gf] at hk
      split at hk
      · rename_i c' ty fz he; cases hk; exact ⟨ty, fz, he⟩
      · cases hk
    have hfr := frz_rel hs0 hGf (fun b mb rb arr ty fz _ _ he => by simp [Gf, he]) m
    refine Calls.mono (hc.2 Gf w rargs hin (hgl.mono hGf) (by simpa using hsz) fun i hi => by
      have hi' : i < args.length := by simpa using hi
      rw [getD_map_frz _ _ _ _ hi']; exact hfr _ _ (hr i hi')) ?_
    rintro e w' ⟨rv, G', rfl, hv, hg, hx⟩
    have hkeep : ∀ k, k < w.heap.size → w'.heap[k]? = w.heap[k]? := fun k hk => hx.keep k hk (owned_M0 k)
    have hgin : GIn G w' := fun k c hk => by
      obtain ⟨ty, fz, he⟩ := hs.gw k c hk
      exact ⟨ty, fz, by rw [hkeep k (Array.getElem?_eq_some_iff.1 he).1]; exact he⟩
    have hext : Ext G M0 w G M0 w' := ⟨G.le_refl, fun _ _ h => .inl h, MMap.le_refl _, fun _ h => .inr h, hx.os, hx.tape, hx.output, hx.size, hx.keep⟩
    obtain ⟨s1, s2⟩ := hs.after hgin hext
    exact ⟨rv, rfl, G, hv.scalar G M hsc, s1, s2⟩
where
  lk_mem {h : Hp} {b : Nat} {k : Blk} (hb : lk h b = some k) : b ∈ h.map (·.1) := by
    induction h with
    | nil => simp [lk] at hb
    | cons p r ih =>
      obtain ⟨q, v⟩ := p
      simp only [lk] at hb
      split at hb
      · rename_i he; simp [he]
      · simp [ih hb]

theorem loud_frame {gl : Fr} {F F' : FF} {H H' : HH} {gf gf' : Nat → Nat} {id : Nat} {io : IOp} (hl : loudOnly io = true) (hF : ∀ t ∈ io.slots, F' t = F t) {y : Y} (he : eop gl gf id F H io = some y) (hH : ∀ b ∈ y.2.2, H' b = H b) (hgr : ∀ b ∈ y.2.2, ∀ k, H b = some k → gf' b = gf b) : eop gl gf' id F' H' io = some y := by
  have e1 := eop_frame hF he hH (gf' := fun b => if b = id then gf id else gf' b) (by simp) (fun b hb k hk => by
    by_cases hbi : b = id
    · subst hbi; simp
    · simp [hbi]; exact hgr b hb k hk)
  cases io <;> simp only [loudOnly, Bool.false_eq_true] at hl
  case store m x z => exact e1
  case n x =>
    cases x <;> simp only [loudOnlyN, Bool.false_eq_true] at hl
    · exact e1
    · exact e1

structure RegG (P : Program) (gl : Fr) (n : Nat) (ops : Array Oper) (gm : Nat → Nat) (lo : List Oper) (lx : List IOper) (fr : Fr) (h : Hp) (fr' : Fr) (h' : Hp) (fps : Fps) (vs : Nat → V) (Ws : Nat → Hp) (rd : Nat → List Nat) : Prop where
  efr : lk fr' = st (DvL lo vs) all1 (lk fr) lo.length
  eh : lk h' = st Ws all1 (lk h) lo.length
  len : fps.length = lo.length
  fp : ∀ i, i < lo.length → fps.getD i ([], []) = ((Ws i).map (·.1), rd i)
  pure : ∀ i x, lx[i]? = some x → (isPure x.op = true → Ws i = []) ∧ (touches x.op = false → Ws i = [] ∧ rd i = [])
  alrd : ∀ i x b, lx[i]? = some x → alOf x = some b → b ∈ rd i
  y : ∀ i o x, lo[i]? = some o → lx[i]? = some x → ∀ j, ops[j]? = some o → YieldG P gl n ops gm j o (st (DvL lo vs) all1 (lk fr) i) (st Ws all1 (lk h) i) (fun b => b ∈ rd i) (alOf x) (exOf x) (vs i) (Ws i)

theorem RegG.cons {o : Oper} {x : IOper} {lo : List Oper} {lx : List IOper} {fr fr' : Fr} {h h' : Hp} {fps : Fps} {vs : Nat → V} {Ws : Nat → Hp} {rd : Nat → List Nat} {v : V} {W : Hp} {r : List Nat}
    (d : RegG P gl n ops gm lo lx (putF fr o.dst v) (W ++ h) fr' h' fps vs Ws rd) (hp : (isPure x.op = true → W = []) ∧ (touches x.op = false → W = [] ∧ r = [])) (har : ∀ b, alOf x = some b → b ∈ r)
    (hy : ∀ j, ops[j]? = some o → YieldG P gl n ops gm j o (lk fr) (lk h) (fun b => b ∈ r) (alOf x) (exOf x) v W) :
    RegG P gl n ops gm (o :: lo) (x :: lx) fr h fr' h' ((W.map (·.1), r) :: fps) (shift v vs) (shift W Ws) (shift r rd) := by
  have eD : (fun i => DvL (o :: lo) (shift v vs) (i + 1)) = DvL lo vs := by funext i; simp [DvL, shift]
  have eW : (fun i => shift W Ws (i + 1)) = Ws := by funext i; rfl
  have e0 : DvL (o :: lo) (shift v vs) 0 = dD o.dst v := by simp [DvL, shift]
  have sF : ∀ k, st (DvL (o :: lo) (shift v vs)) all1 (lk fr) (k + 1) = st (DvL lo vs) all1 (lk (putF fr o.dst v)) k := fun k => by rw [st_shift, eD, e0, putF_dD, lk_append]
  have sH : ∀ k, st (shift W Ws) all1 (lk h) (k + 1) = st Ws all1 (lk (W ++ h)) k := fun k => by rw [st_shift, eW, lk_append]; rfl
  refine ⟨by rw [List.length_cons, sF]; exact d.efr, by rw [List.length_cons, sH]; exact d.eh, by simp [d.len], fun i hi => ?_, fun i x' hx' => ?_, fun i x' b hx' hb => ?_, fun i o' x' ho' hx' j hj => ?_⟩
  · cases i with
    | zero => rfl
    | succ i => simpa [shift] using d.fp i (by simpa using hi)
  · cases i with
    | zero => simp at hx'; subst hx'; exact hp
    | succ i => exact d.pure i x' (by simpa using hx')
  · cases i with
    | zero => simp at hx'; subst hx'; exact har b hb
    | succ i => exact d.alrd i x' b (by simpa using hx') hb
  · cases i with
    | zero =>
      simp at ho' hx'; subst ho'; subst hx'
      intro fr h G M a w Q K' h1 h2 h3 h4 h5
      exact hy j hj h1 h2 h3 h4 h5
    | succ i =>
      rw [sF, sH]
      intro fr h G M a w Q K' h1 h2 h3 h4 h5
      exact d.y i o' x' (by simpa using ho') (by simpa using hx') j hj h1 h2 h3 h4 h5

theorem gF_xgd {fr : Fr} {A B : Unit → Prop} {g : Option (Nat × Bool)} (h : gF fr A B g) : (xgd (lk fr) g = some true ∧ A ()) ∨ (xgd (lk fr) g = some false ∧ B ()) := by
  cases g with
  | none => exact .inl ⟨rfl, h⟩
  | some p =>
    obtain ⟨t, want⟩ := p
    simp only [gF] at h
    simp only [xgd]
    cases ht : lk fr t with
    | none => rw [ht] at h; exact h.elim
    | some v =>
      rw [ht] at h
      cases v <;> simp only [gB] at h
      rename_i b
      by_cases hb : b = want
      · rw [if_pos hb] at h; subst hb; exact .inl ⟨by simp, h⟩
      · rw [if_neg hb] at h; exact .inr ⟨by simp [hb], h⟩

theorem yieldG_skip (hops : ∀ d, (∃ o, o ∈ ops.toList ∧ o.dst = some d) → d < n) {i : Nat} {o : Oper} (ho : ops[i]? = some o) {x : IOper} (hx : compOp P n ops o = some x) {F : FF} {H : HH} (hg : xgd F x.guard = some false) {rd : Nat → Prop} {al ex : Option Nat} :
    YieldG P gl n ops gm i o F H rd al ex .undef [] := by
  intro fr h G M a w Q K' hr hF hH hid hk
  obtain ⟨c1, c2, c3, c4⟩ := compOp_spec hx
  unfold wpOp
  simp only [ho]
  rw [guard_wanted hops hr c2 hF hg, if_neg (by simp)]
  exact hk undef G M w (hr.put c4 (.undef _) hr.sim (.refl _ _ _)) (.refl _ _ _) (fun _ _ _ => rfl)

theorem gfG_fresh {fr : Fr} {h : Hp} {G : GMap} {M : MMap} {w : World} (hs : Sim G M h w) {H : HH} {b : Nat} {k : Blk} (hb : lk h b = some k) (hH : H b = some k) : freshGen M b = gfG gm H b := by
  have hk := hs.hb b k hb
  simp only [gfG, hH]
  cases k with
  | row g sz es => obtain ⟨mb, h1, h2, -⟩ := hk; simp [freshGen, h1, h2]
  | map g es => obtain ⟨mb, rb, h1, h2, -⟩ := hk; simp [freshGen, h1, h2]
  | siter g s pos => obtain ⟨mb, rb, h1, h2, -⟩ := hk; simp [freshGen, h1, h2]

theorem asCall_of {io : IOp} {fa : IOpd × List IOpd} (hc : asCall io = some fa) : io = .call fa.1 fa.2 := asCall_some (f := fa.1) (as := fa.2) hc

theorem yieldG_op (hops : ∀ d, (∃ o, o ∈ ops.toList ∧ o.dst = some d) → d < n) {i : Nat} {o : Oper} (ho : ops[i]? = some o) {x : IOper} (hx : compOp P n ops o = some x) (hsl : ∀ t ∈ x.op.slots, t ∈ o.looksAt ops) {fr0 : Fr} {h0 : Hp} (hg : xgd (lk fr0) x.guard = some true)
    {y : Y} (he : eop gl (gfG gm (lk h0)) (x.dst.getD 999999) (lk fr0) (lk h0) x.op = some y) (hdst : x.dst ≠ none ∨ isPure x.op = true ∨ loudOnly x.op = true) :
    YieldG P gl n ops gm i o (lk fr0) (lk h0) (fun b => b ∈ (bif isPure x.op then y.2.2 else x.dst.toList ++ y.2.2)) (alOf x) (exOf x) y.1 y.2.1 := by
  intro fr h G M a w Q K' hr hF hH hid hk
  obtain ⟨c1, c2, c3, c4⟩ := compOp_spec hx
  unfold wpOp
  simp only [ho]
  rw [guard_wanted hops hr c2 hF hg, if_pos rfl]
  refine .inl ?_
  have hac : asCall x.op = none := by
    cases hc : asCall x.op with
    | none => rfl
    | some fa => rw [asCall_of hc] at he; simp [eop] at he
  cases hp : isPure x.op with
  | true =>
    rw [hp] at hH
    have he2 : eop gl (gfG gm (lk h0)) (x.dst.getD 999999) (lk fr) (lk h) x.op = some y := eop_frame (fun t ht => hF t (hsl t ht)) he (fun b hb => hH b hb) rfl (fun _ _ _ _ => rfl)
    obtain ⟨e1, e2⟩ := pure_sound (Q := Q) hr c1 hp he2
    refine Oper.wp_mono ?_ e2
    rintro a' w' ⟨v, rv, q1, rfl, q3, rfl⟩
    subst q1
    refine hk rv G M w' ?_ (.refl _ _ _) (fun _ _ _ => rfl)
    rw [e1]
    exact hr.put c4 q3 hr.sim (.refl _ _ _)
  | false =>
    rw [hp] at hH
    simp only [cond_false, List.mem_append] at hH
    have hex : exOf x = some (x.dst.getD 999999) := by simp [exOf, hac, hp]
    have hgr : ∀ b ∈ y.2.2, ∀ k, lk h0 b = some k → freshGen M b = gfG gm (lk h0) b := fun b hb k hk' => gfG_fresh (fr := fr) hr.sim (by rw [hH b (.inr hb)]; exact hk') hk'
    have he2 : eop gl (freshGen M) (x.dst.getD 999999) (lk fr) (lk h) x.op = some y := by
      cases hd : x.dst with
      | some d =>
        have hal : alOf x = some d := by simp [alOf, hac, hp, hd]
        refine eop_frame (fun t ht => hF t (hsl t ht)) (by rw [hd] at he; exact he) (fun b hb => hH b (.inr hb)) ?_ hgr
        have hdd : lk h d = lk h0 d := hH d (.inl (by simp [hd]))
        cases hk0 : lk h0 d with
        | some k => exact gfG_fresh (fr := fr) hr.sim (by simp only [Option.getD_some]; rw [hdd]; exact hk0) (by simpa using hk0)
        | none =>
          have := hid d hal (by rw [hdd]; exact hk0)
          simp only [Option.getD_some, gfG, hk0]; exact this
      | none =>
        rw [hd] at he
        have hl : loudOnly x.op = true := by
          rcases hdst with h1 | h1 | h1
          · exact absurd hd h1
          · rw [hp] at h1; cases h1
          · exact h1
        exact loud_frame hl (fun t ht => hF t (hsl t ht)) he (fun b hb => hH b (.inr hb)) hgr
    refine Oper.wp_mono ?_ (eop_sound hr c1 he2)
    rintro a' w' ⟨v, h', rv, G', M', ⟨rfl, rfl⟩, rfl, q3, q4, q5, q6⟩
    exact hk rv G' M' w' (hr.put c4 q3 q4 q5) q5 (fun b hnb h0 => q6 b (fun e => hnb (by rw [hex, e])) h0)
end
end Go.Proofs.YtcdfifbabhfknaaDoor
