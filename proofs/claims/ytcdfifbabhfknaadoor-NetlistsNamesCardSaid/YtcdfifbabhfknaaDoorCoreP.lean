/- From a contract on ideal values to a law's statement: the frame that all laws share. No program stands in it. Conditions: none. -/
import Derived.Test.YtcdfifbabhfknaaDoorCoreL
import Derived.MakeChecks
namespace Go.Proofs.YtcdfifbabhfknaaDoor
open Go Go.RowKit Go.ChangeShapes

theorem hasAll_cons {p : TypeId → V → Prop} {t : TypeId} {ts : List TypeId} {vs : List V} (h : hasAll p (t :: ts) vs) : ∃ v vs', vs = v :: vs' ∧ p t v ∧ hasAll p ts vs' := by
  cases vs with
  | nil => exact h.elim
  | cons v vs => exact ⟨v, vs, rfl, h.1, h.2⟩
theorem hasAll_nil {p : TypeId → V → Prop} {vs : List V} (h : hasAll p [] vs) : vs = [] := by
  cases vs with
  | nil => rfl
  | cons v vs => exact h.elim
theorem strs {xs : List V} (h : ∀ x ∈ xs, ∃ s : List UInt8, x = .str s ∧ s.length ≤ maxLen) : ∃ l : List (List UInt8), xs = l.map .str := by
  induction xs with
  | nil => exact ⟨[], rfl⟩
  | cons x xs ih =>
    obtain ⟨s, rfl, -⟩ := h x List.mem_cons_self
    obtain ⟨l, rfl⟩ := ih fun y hy => h y (List.mem_cons_of_mem _ hy)
    exact ⟨s :: l, rfl⟩

section
variable {P : Program} {H : Type} {enc : TypeId × Value → H} {W : World} {sp : Nat → Bool} {held : Bool}

theorem args_rel : ∀ (ts : List TypeId) (vs : List Value) (ds : List (DataW H)) (ps : List MemPlace) (base : Nat), (ts.all fun t => plainTy P 20 t) = true → DataW.TrodAll enc P W 0 sp held ts vs ds ps →
    (∀ (j : Nat) t v, ts[j]? = some t → vs[j]? = some v → Value.okWide P W .any base t v) →
    vs.length = (ds.map encD).length ∧ ds.length = ts.length ∧ (∀ i, i < (ds.map encD).length → RelV (GAll W) M0 ((ds.map encD).getD i .undef) (vs.getD i undef)) ∧ hasAll (hasT P 20) ts (ds.map encD)
  | [], [], [], ps, base, _, _, _ => ⟨rfl, rfl, fun i hi => by simp at hi, trivial⟩
  | [], [], _ :: _, ps, base, _, h, _ => h.elim
  | [], _ :: _, [], ps, base, _, h, _ => h.elim
  | [], _ :: _, _ :: _, ps, base, _, h, _ => h.elim
  | _ :: _, [], _, ps, base, _, h, _ => h.elim
  | _ :: _, _ :: _, [], ps, base, _, h, _ => h.elim
  | t :: ts, v :: vs, d :: ds, ps, base, hp, h, hv => by
    simp only [List.all_cons, Bool.and_eq_true] at hp
    obtain ⟨p1, q1, ⟨fuel, h1⟩, h2, rfl⟩ := h
    obtain ⟨i1, i2, i3, i4⟩ := args_rel ts vs ds q1 base hp.2 h2 (fun j t' v' a b => hv (j + 1) t' v' (by simpa using a) (by simpa using b))
    have T := trod_rel 20 fuel t v.cells.toList (d, p1) hp.1 h1
    obtain ⟨o1, o2⟩ := okWide_agg hp.1 (hv 0 t v rfl rfl) T.has
    obtain ⟨r1, r2, -⟩ := arg_rel hp.1 ⟨fuel, h1⟩ o1 o2
    refine ⟨by simpa using i1, by simpa using i2, fun i hi => ?_, ⟨r2, i4⟩⟩
    cases i with
    | zero => exact r1
    | succ i => simpa using i3 i (by simpa using hi)

/-- A law's contract for every argument and every world that holds what the row lists. -/
theorem law_contract {f : FuncId} {fn : Func} {s : ChangeSpec} {args : Array Value} {ds gs : List (DataW H)} {before : List MemPlace} {tb : TypeId} {gl : Fr} {laid : List (String × DataW Unit)} {base : Nat}
    (hl : laidOutB P = true) (hpar : (fn.params.toList.all fun t => P.readableRec t && decide (t < P.types.size)) = true) (hres : fn.resultTypes = #[tb]) (htb : P.underlying tb = some .bool) (hvars : s.vars = [])
    (hpl : (fn.params.toList.all fun t => plainTy P 20 t) = true) (hno : (laid.all fun x => x.2.handleName?.isNone) = true) (hgl : glT P laid = gl)
    {np : Nat} (hnp : fn.params.toList.length = np) (hfn : ∀ ds : List (DataW H), ds.length = np → s.fn H ds = { results := [.lit (.bool true)], args := ds })
    (hc : ∀ vs, hasAll (hasT P 20) fn.params.toList vs → PureC P gl f vs (.bool true))
    (hval : ∀ (j : Nat) t v, fn.params[j]? = some t → args[j]? = some v → Value.okWide P W .any base t v)
    (hW : DataW.Whole enc P fn.params.toList s.vars false W args.toList ds gs before) (hL : laidMetH P laid W) :
    Calls P f args W fun e W' => ∃ v, e = .returned v ∧ s.post enc P fn false true false false W args v W' := by
  obtain ⟨p, q, hA, hV, hpq, hfz, hnd⟩ := id hW
  obtain ⟨i1, i2, i3, i4⟩ := args_rel _ _ _ _ base hpl hA (fun j t v a b => hval j t v (by simpa using a) (by simpa using b))
  rw [hvars] at hV
  obtain ⟨rfl, rfl⟩ := trodVars_none hV
  rw [MakeChecks.laidMetH_plain P laid W hno] at hL
  obtain ⟨ps, hL, -⟩ := hL
  have hg := laid_gl hL
  rw [hgl] at hg
  refine law_calls hl hpar hres htb hvars (by rw [List.append_nil]; exact hfn ds (i2.trans hnp)) hW hg (vs := ds.map encD) (by simpa using i1) (fun i hi => ?_) (hc _ i4)
  have := i3 i hi
  rw [List.getD_eq_getElem?_getD (l := args.toList), Array.getElem?_toList] at this
  rw [Array.getD_eq_getD_getElem?]; exact this
end
end Go.Proofs.YtcdfifbabhfknaaDoor
