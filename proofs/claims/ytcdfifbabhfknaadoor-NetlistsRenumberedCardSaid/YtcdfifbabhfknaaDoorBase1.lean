/- The ideal values, their relation to the model's values, and its monotonicity. No program stands in it. Conditions: none. The relation between an ideal state and the model's, the judgement on code, and the rules of control. No program stands in it. Conditions: none. Ideal operations: what they are made of, and what each does. No program stands in it. Conditions: none. -/
import Derived.Orders
import Derived.Laws.Cells
import Derived.Laws.World
import Derived.Laws.CopyRow
import Derived.OrdersIn
import Derived.RangeFuncRecord
import Derived.Scope
import Derived.ChangeKeysEq
namespace Go.Proofs.YtcdfifbabhfknaaDoor
open Go
inductive V where
 | undef
 | int (k : IntKind) (n : Int)
 | bool (b : Bool)
 | str (s : List UInt8)
 | agg (cs : List V)
 | tup (vs : List V)
 | sl (xs : List V) (cap : Option Nat)
 | ref (b g off len : Nat) (cap : Option Nat)
 | ptr (b g i off : Nat)
 | iptr (x : V) (off : Nat)
 | fn (f : FuncId) (fst cap : List V)
 | nilfn
 | nilmap
 | nil
 | own (b g : Nat)
 deriving Inhabited
def V.cells : V→List V
 | .agg cs=>cs
 | v=>[v]
def V.isCell : V→Bool
 | .undef | .agg _ | .tup _=>false
 | _=>true
mutual
def V.pure : V→Bool
 | .agg cs=>V.pureL cs
 | .tup cs=>V.pureL cs
 | .sl xs _=>V.pureL xs
 | .iptr x _=>x.pure
 | .fn _ a b=>V.pureL a && V.pureL b
 | .ref ..=>false
 | .ptr ..=>false
 | .own ..=>false
 | .undef=>true
 | .int ..=>true
 | .bool _=>true
 | .str _=>true
 | .nilfn=>true
 | .nilmap=>true
 | .nil=>true
def V.pureL : List V→Bool
 | []=>true
 | v :: r=>v.pure && V.pureL r
end
mutual
def V.scalar : V→Bool
 | .agg cs=>V.scalarL cs
 | .tup cs=>V.scalarL cs
 | .sl ..=>false
 | .iptr ..=>false
 | .fn ..=>false
 | .ref ..=>false
 | .ptr ..=>false
 | .own ..=>false
 | .undef=>true
 | .int ..=>true
 | .bool _=>true
 | .str _=>true
 | .nilfn=>true
 | .nilmap=>true
 | .nil=>true
def V.scalarL : List V→Bool
 | []=>true
 | v :: r=>v.scalar && V.scalarL r
end
theorem V.pureL_iff (l : List V) : V.pureL l = true↔∀ v ∈ l,v.pure = true:=by
 induction l with
 | nil=>simp [V.pureL]
 | cons a r ih=>simp [V.pureL,ih]
theorem V.scalarL_iff (l : List V) : V.scalarL l = true↔∀ v ∈ l,v.scalar = true:=by
 induction l with
 | nil=>simp [V.scalarL]
 | cons a r ih=>simp [V.scalarL,ih]
theorem V.pureL_map {α : Type} (f : α→V) (l : List α) (h : ∀ a,(f a).pure = true) : V.pureL (l.map f) = true:=by
 rw [V.pureL_iff]; intro v hv; obtain ⟨a,_,rfl⟩:=List.mem_map.1 hv; exact h a
theorem V.pure_getD {l : List V} (h : V.pureL l = true) (i : Nat) : (l.getD i .undef).pure = true:=by
 rw [V.pureL_iff] at h
 rw [List.getD_eq_getElem?_getD]
 cases hi : l[i]? with
 | none=>rfl
 | some v=>exact h v (List.mem_of_getElem? hi)
theorem V.scalar_getD {l : List V} (h : V.scalarL l = true) (i : Nat) : (l.getD i .undef).scalar = true:=by
 rw [V.scalarL_iff] at h
 rw [List.getD_eq_getElem?_getD]
 cases hi : l[i]? with
 | none=>rfl
 | some v=>exact h v (List.mem_of_getElem? hi)
theorem V.pure_cells {v : V} (h : v.pure = true) : V.pureL v.cells = true:=by
 cases v <;> simp_all [V.cells,V.pure,V.pureL]
structure MB where
 gen : Nat
 sz : Nat
 room : Nat
 base : Nat
 real : Option Nat
abbrev GMap:=Nat→Option (Array Value)
abbrev MMap:=Nat→Option MB
def RefReal (mb : MB) (off len : Nat) (ra : Option Addr) (rcap : Nat) : Prop:=
 match mb.real with
 | none=>rcap = 0∧off = 0
 | some rb=>(ra = some ⟨rb,mb.base + off * mb.sz,none⟩∧off + rcap ≤ min mb.room 9223372036854775807)∨(len = 0∧rcap = 0)
inductive RelV (G : GMap) (M : MMap) : V→Value→Prop
 | undef (v : Value) : RelV G M .undef v
 | int (k : IntKind) (n : Int) : RelV G M (.int k n) (.int k n)
 | bool (b : Bool) : RelV G M (.bool b) (.bool b)
 | str (s : List UInt8) : RelV G M (.str s) (.string ⟨s.toArray⟩)
 | agg (cs : List V) (arr : Array Value) (hs : arr.size = cs.length)
   (h : ∀ i,i < cs.length→RelV G M (cs.getD i .undef) (arr.getD i Go.undef)) (ho : ∀ i,i < cs.length→(arr.getD i Go.undef).oneCell' = true) :
   RelV G M (.agg cs) (.agg arr)
 | tup (cs : List V) (arr : Array Value) (hs : arr.size = cs.length)
   (h : ∀ i,i < cs.length→RelV G M (cs.getD i .undef) (arr.getD i Go.undef)) : RelV G M (.tup cs) (.tuple arr)
 | slnil (cap : Option Nat) (base : Option Addr) (rcap : Nat) (hc : ∀ c,cap = some c→rcap = c) (hb : rcap = 0∨base.isSome = true) : RelV G M (.sl [] cap) (.slice base 0 rcap)
 | sl (xs : List V) (cap : Option Nat) (rb ro rcap sz : Nat) (cells : Array Value) (hne : xs ≠ []) (hG : G rb = some cells)
   (hsz : ∀ i,i < xs.length→(xs.getD i .undef).cells.length = sz) (hb : ro + xs.length * sz ≤ cells.size) (hl : xs.length ≤ rcap)
   (hc : ∀ c,cap = some c→rcap = c)
   (h : ∀ i j,i < xs.length→j < sz→RelV G M ((xs.getD i .undef).cells.getD j .undef) (cells.getD (ro + i * sz + j) Go.undef))
   (ho : ∀ i j,i < xs.length→j < sz→(cells.getD (ro + i * sz + j) Go.undef).oneCell' = true) :
   RelV G M (.sl xs cap) (.slice (some ⟨rb,ro,none⟩) xs.length rcap)
 | ref (b g off len : Nat) (cap : Option Nat) (ra : Option Addr) (rcap : Nat) (mb : MB) (hM : M b = some mb) (hg : g ≤ mb.gen) (hl : len ≤ rcap) (hc : ∀ c,cap = some c→rcap = c)
   (h : g = mb.gen→RefReal mb off len ra rcap) : RelV G M (.ref b g off len cap) (.slice ra len rcap)
 | ptr (b g i off : Nat) (ad : Addr) (mb : MB) (hM : M b = some mb) (hg : g ≤ mb.gen)
   (h : g = mb.gen→∃ rb,mb.real = some rb∧ad = ⟨rb,mb.base + i * mb.sz + off,none⟩) : RelV G M (.ptr b g i off) (.pointer (some ad))
 | iptr (x : V) (off : Nat) (rb ro : Nat) (cells : Array Value) (hG : G rb = some cells) (hb : ro + x.cells.length ≤ cells.size)
   (h : ∀ j,j < x.cells.length→RelV G M (x.cells.getD j .undef) (cells.getD (ro + j) Go.undef))
   (ho : ∀ j,j < x.cells.length→(cells.getD (ro + j) Go.undef).oneCell' = true) :
   RelV G M (.iptr x off) (.pointer (some ⟨rb,ro + off,none⟩))
 | fn (f : FuncId) (fst cap : List V) (rfst rcap : Array Value) (h1 : rfst.size = fst.length) (h2 : rcap.size = cap.length)
   (h3 : ∀ i,i < fst.length→RelV G M (fst.getD i .undef) (rfst.getD i Go.undef)) (h4 : ∀ i,i < cap.length→RelV G M (cap.getD i .undef) (rcap.getD i Go.undef)) :
   RelV G M (.fn f fst cap) (.func (.func f) rfst rcap)
 | nilfn : RelV G M .nilfn .nilFunc
 | nilmap : RelV G M .nilmap (.map none)
 | nil : RelV G M .nil (.slice none 0 0)
 | own (b g : Nat) (r : Value) (mb : MB) (hM : M b = some mb) (hg : g ≤ mb.gen) (ho : r.oneCell' = true)
   (h : g = mb.gen→∃ rb,mb.real = some rb∧r = (if mb.sz = 0 then .map (some rb) else if mb.sz = 2 then .func (.yield rb) #[] #[] else .pointer (some ⟨rb,0,none⟩))) : RelV G M (.own b g) r
def GMap.le (G G' : GMap) : Prop:=∀ k c,G k = some c→G' k = some c
def MMap.le (M M' : MMap) : Prop:=∀ b mb,M b = some mb→∃ mb',M' b = some mb'∧mb.gen ≤ mb'.gen∧(mb'.gen = mb.gen→mb' = mb)
def freshGen (M : MMap) (b : Nat) : Nat:=match M b with
 | some mb=>mb.gen + 1
 | none=>0
theorem GMap.le_refl (G : GMap) : G.le G:=fun _ _ h=>h
theorem GMap.le_trans {a b c : GMap} (h : a.le b) (k : b.le c) : a.le c:=fun x y z=>k x y (h x y z)
theorem MMap.le_refl (M : MMap) : M.le M:=fun _ mb h=>⟨mb,h,Nat.le_refl _,fun _=>rfl⟩
theorem MMap.le_trans {a b c : MMap} (h : a.le b) (k : b.le c) : a.le c:=by
 intro x mb hx
 obtain ⟨m1,e1,l1,q1⟩:=h x mb hx
 obtain ⟨m2,e2,l2,q2⟩:=k x m1 e1
 refine ⟨m2,e2,Nat.le_trans l1 l2,fun e=>?_⟩
 have h1 : m1.gen = mb.gen:=by omega
 rw [q2 (by omega),q1 h1]
theorem RelV.mono {G G' : GMap} {M M' : MMap} (hG : G.le G') (hM : M.le M') {v : V} {r : Value} (h : RelV G M v r) : RelV G' M' v r:=by
 induction h with
 | undef v=>exact .undef v
 | int k n=>exact .int k n
 | bool b=>exact .bool b
 | str s=>exact .str s
 | agg cs arr hs _ ho ih=>exact .agg cs arr hs ih ho
 | tup cs arr hs _ ih=>exact .tup cs arr hs ih
 | slnil cap base rcap hc hb=>exact .slnil cap base rcap hc hb
 | sl xs cap rb ro rcap sz cells hne hg hsz hb hl hc _ ho ih=>exact .sl xs cap rb ro rcap sz cells hne (hG _ _ hg) hsz hb hl hc ih ho
 | ref b g off len cap ra rcap mb hm hg hl hc h=>
  obtain ⟨mb',e,l,q⟩:=hM _ _ hm
  refine .ref b g off len cap ra rcap mb' e (Nat.le_trans hg l) hl hc fun e'=>?_
  have:=q (by omega); subst this; exact h e'
 | ptr b g i off ad mb hm hg h=>
  obtain ⟨mb',e,l,q⟩:=hM _ _ hm
  refine .ptr b g i off ad mb' e (Nat.le_trans hg l) fun e'=>?_
  have:=q (by omega); subst this; exact h e'
 | iptr x off rb ro cells hg hb _ ho ih=>exact .iptr x off rb ro cells (hG _ _ hg) hb ih ho
 | fn f fst cap rfst rcap h1 h2 _ _ ih3 ih4=>exact .fn f fst cap rfst rcap h1 h2 ih3 ih4
 | nilfn=>exact .nilfn
 | nilmap=>exact .nilmap
 | nil=>exact .nil
 | own b g r mb hm hg ho h=>
  obtain ⟨mb',e,l,q⟩:=hM _ _ hm
  refine .own b g r mb' e (Nat.le_trans hg l) ho fun e'=>?_
  have:=q (by omega); subst this; exact h e'
theorem RelV.pure {G : GMap} {M : MMap} (M' : MMap) {v : V} {r : Value} (h : RelV G M v r) (hp : v.pure = true) : RelV G M' v r:=by
 induction h with
 | undef v=>exact .undef v
 | int k n=>exact .int k n
 | bool b=>exact .bool b
 | str s=>exact .str s
 | agg cs arr hs _ ho ih=>exact .agg cs arr hs (fun i hi=>ih i hi (V.pure_getD (by simpa [V.pure] using hp) i)) ho
 | tup cs arr hs _ ih=>exact .tup cs arr hs (fun i hi=>ih i hi (V.pure_getD (by simpa [V.pure] using hp) i))
 | slnil cap base rcap hc hb=>exact .slnil cap base rcap hc hb
 | sl xs cap rb ro rcap sz cells hne hg hsz hb hl hc _ ho ih=>
  exact .sl xs cap rb ro rcap sz cells hne hg hsz hb hl hc (fun i j hi hj=>ih i j hi hj (V.pure_getD (V.pure_cells (V.pure_getD (by simpa [V.pure] using hp) i)) j)) ho
 | ref=>simp [V.pure] at hp
 | ptr=>simp [V.pure] at hp
 | own=>simp [V.pure] at hp
 | iptr x off rb ro cells hg hb _ ho ih=>exact .iptr x off rb ro cells hg hb (fun j hj=>ih j hj (V.pure_getD (V.pure_cells (by simpa [V.pure] using hp)) j)) ho
 | fn f fst cap rfst rcap h1 h2 _ _ ih3 ih4=>
  simp only [V.pure,Bool.and_eq_true] at hp
  exact .fn f fst cap rfst rcap h1 h2 (fun i hi=>ih3 i hi (V.pure_getD hp.1 i)) (fun i hi=>ih4 i hi (V.pure_getD hp.2 i))
 | nilfn=>exact .nilfn
 | nilmap=>exact .nilmap
 | nil=>exact .nil
theorem RelV.scalar {G : GMap} {M : MMap} (G' : GMap) (M' : MMap) {v : V} {r : Value} (h : RelV G M v r) (hp : v.scalar = true) : RelV G' M' v r:=by
 induction h with
 | undef v=>exact .undef v
 | int k n=>exact .int k n
 | bool b=>exact .bool b
 | str s=>exact .str s
 | agg cs arr hs _ ho ih=>exact .agg cs arr hs (fun i hi=>ih i hi (V.scalar_getD (by simpa [V.scalar] using hp) i)) ho
 | tup cs arr hs _ ih=>exact .tup cs arr hs (fun i hi=>ih i hi (V.scalar_getD (by simpa [V.scalar] using hp) i))
 | nilfn=>exact .nilfn
 | nilmap=>exact .nilmap
 | nil=>exact .nil
 | slnil=>simp [V.scalar] at hp
 | sl=>simp [V.scalar] at hp
 | ref=>simp [V.scalar] at hp
 | ptr=>simp [V.scalar] at hp
 | own=>simp [V.scalar] at hp
 | iptr=>simp [V.scalar] at hp
 | fn=>simp [V.scalar] at hp
theorem RelV.oneCell {G : GMap} {M : MMap} {v : V} {r : Value} (h : RelV G M v r) (hp : v.isCell = true) : r.oneCell' = true:=by
 cases h <;> first
  | rfl
  | assumption
  | simp [V.isCell] at hp
def V.cellsOk : V→Bool
 | .agg _=>true
 | v=>v.isCell
theorem RelV.cells {G : GMap} {M : MMap} {v : V} {r : Value} (h : RelV G M v r) (hp : v.cellsOk = true) :
  r.cells.size = v.cells.length∧∀ j,j < v.cells.length→RelV G M (v.cells.getD j .undef) (r.cells.getD j Go.undef)∧(r.cells.getD j Go.undef).oneCell' = true:=by
 by_cases ha : ∃ cs,v = .agg cs
 ·obtain ⟨cs,rfl⟩:=ha
  cases h with
  | agg cs arr hs h ho=>exact ⟨hs,fun j hj=>⟨h j hj,ho j hj⟩⟩
 ·have hc : v.isCell = true:=by cases v <;> simp_all [V.cellsOk]
  have hr:=h.oneCell hc
  have h1 : v.cells = [v]:=by cases v <;> simp_all [V.cells]
  have h2 : r.cells = #[r]:=by cases r <;> simp_all [Value.oneCell',Value.cells]
  rw [h1,h2]
  refine ⟨rfl,fun j hj=>?_⟩
  obtain rfl : j = 0:=by simpa using hj
  exact ⟨h,hr⟩
def V.norm : V→V
 | .nil=>.sl [] (some 0)
 | v=>v
theorem RelV.norm {G : GMap} {M : MMap} {v : V} {r : Value} (h : RelV G M v r) : RelV G M v.norm r:=by
 cases h <;> first
  | exact .slnil _ _ _ (by simp) (.inl rfl)
  | (constructor <;> assumption)
  | assumption
end Go.Proofs.YtcdfifbabhfknaaDoor
namespace Go.Proofs.YtcdfifbabhfknaaDoor
open Go
inductive Blk where
 | row (g sz : Nat) (elems : List V)
 | map (g : Nat) (es : List (V × V))
 | siter (g : Nat) (s : List UInt8) (pos : Nat)
 | loop (g n : Nat) (fr : List (Nat × V)) (ps : List Nat) (asg body : Code) (busy : Bool)
 | dead (g : Nat)
 | miter (g : Nat) (x : V) (n : Nat) (seen : List Nat)
 deriving Inhabited
abbrev Fr:=List (Nat × V)
abbrev Hp:=List (Nat × Blk)
def lk {α : Type} : List (Nat × α)→Nat→Option α
 | [],_=>none
 | (k,v) :: r,t=>if t = k then some v else lk r t
def RowRel (G : GMap) (M : MMap) (w : World) (mb : MB) (elems : List V) : Prop:=
 match mb.real with
 | none=>elems = []
 | some rb=>∃ arr ty,w.heap[rb]? = some (.cells arr ty (0,0))∧mb.base + mb.room * mb.sz ≤ arr.size∧elems.length ≤ mb.room∧
   (∀ i,i < elems.length→(elems.getD i .undef).cells.length = mb.sz)∧
   ∀ i j,i < elems.length→j < mb.sz→RelV G M ((elems.getD i .undef).cells.getD j .undef) (arr.getD (mb.base + i * mb.sz + j) undef)∧(arr.getD (mb.base + i * mb.sz + j) undef).oneCell' = true
def MapRel (G : GMap) (M : MMap) (w : World) (rb : Nat) (es : List (V × V)) : Prop:=
 ∃ entries clock,w.heap[rb]? = some (.map entries clock)∧(entries.size = es.length∧clock = es.length∧∀ i,i < es.length→(entries.getD i default).born = i)∧
  ∀ i,i < es.length→RelV G M ((es.getD i (.undef,.undef)).1) ((entries.getD i default).key)∧RelV G M ((es.getD i (.undef,.undef)).2) ((entries.getD i default).val)
def LoopRel (G : GMap) (M : MMap) (w : World) (rb n : Nat) (fr : Fr) (ps : List Nat) (asg body : Code) (busy : Bool) : Prop:=
 ∃ r : Loop,w.heap[rb]? = some (.loop r)∧r.state = (bif busy then .busy else .ready)∧r.pending = none∧r.params.toList = ps∧r.assign = asg∧r.body = body∧r.tmps.size = n∧
  ∀ t v,lk fr t = some v→RelV G M v (r.tmps.getD t undef)
def BlkRel (G : GMap) (M : MMap) (w : World) (b : Nat) : Blk→Prop
 | .row g sz elems=>∃ mb,M b = some mb∧mb.gen = g∧mb.sz = sz∧RowRel G M w mb elems
 | .map g es=>∃ mb rb,M b = some mb∧mb.gen = g∧mb.real = some rb∧mb.sz = 0∧MapRel G M w rb es
 | .siter g s pos=>∃ mb rb,M b = some mb∧mb.gen = g∧mb.real = some rb∧mb.sz = 1∧w.heap[rb]? = some (.stringIter ⟨s.toArray⟩ pos)
 | .loop g n fr ps asg body busy=>∃ mb rb,M b = some mb∧mb.gen = g∧mb.real = some rb∧mb.sz = 2∧LoopRel G M w rb n fr ps asg body busy
 | .dead g=>∃ mb,M b = some mb∧mb.gen = g
 | .miter g x n seen=>∃ mb rb,M b = some mb∧mb.gen = g∧mb.real = some rb∧mb.sz = 1∧∃ r,RelV G M x (.map (some r))∧w.heap[rb]? = some (.mapIter (some r) n seen.toArray n)
structure Sim (G : GMap) (M : MMap) (h : Hp) (w : World) : Prop where
 gw : ∀ k cells,G k = some cells→∃ ty fz,w.heap[k]? = some (.cells cells ty fz)
 hb : ∀ b blk,lk h b = some blk→BlkRel G M w b blk
 inj : ∀ b b' mb mb' rb,M b = some mb→M b' = some mb'→mb.real = some rb→mb'.real = some rb→b = b'
 mlt : ∀ b mb rb,M b = some mb→mb.real = some rb→rb < w.heap.size∧G rb = none
def owned (M : MMap) (k : Nat) : Prop:=∃ b mb,M b = some mb∧mb.real = some k
structure Ext (G : GMap) (M : MMap) (w : World) (G' : GMap) (M' : MMap) (w' : World) : Prop where
 g : G.le G'
 gnew : ∀ k c,G' k = some c→G k = some c∨w.heap.size ≤ k∨owned M k
 m : M.le M'
 mnew : ∀ k,owned M' k→w.heap.size ≤ k∨owned M k
 os : w'.os = w.os
 tape : w'.tape = w.tape
 output : w'.output = w.output
 size : w.heap.size ≤ w'.heap.size
 keep : ∀ k,k < w.heap.size→¬ owned M k→w'.heap[k]? = w.heap[k]?
theorem Ext.refl (G : GMap) (M : MMap) (w : World) : Ext G M w G M w:=
 ⟨G.le_refl,fun _ _ h=>.inl h,M.le_refl,fun _ h=>.inr h,rfl,rfl,rfl,Nat.le_refl _,fun _ _ _=>rfl⟩
theorem Ext.trans {G G1 G2 : GMap} {M M1 M2 : MMap} {w w1 w2 : World} (h : Ext G M w G1 M1 w1) (k : Ext G1 M1 w1 G2 M2 w2) : Ext G M w G2 M2 w2:=by
 refine ⟨GMap.le_trans h.g k.g,fun x c hx=>?_,MMap.le_trans h.m k.m,fun x hx=>?_,k.os.trans h.os,k.tape.trans h.tape,k.output.trans h.output,Nat.le_trans h.size k.size,fun x hx ho=>?_⟩
 ·rcases k.gnew x c hx with h1 | h1 | h1
  ·exact h.gnew x c h1
  ·exact .inr (.inl (Nat.le_trans h.size h1))
  ·rcases h.mnew x h1 with h2 | h2
   ·exact .inr (.inl h2)
   ·exact .inr (.inr h2)
 ·rcases k.mnew x hx with h1 | h1
  ·exact .inl (Nat.le_trans h.size h1)
  ·exact h.mnew x h1
 ·have h1 : ¬ owned M1 x:=fun hc=>by
   rcases h.mnew x hc with h2 | h2
   ·omega
   ·exact ho h2
  rw [k.keep x (Nat.lt_of_lt_of_le hx h.size) h1,h.keep x hx ho]
def GlRel (G : GMap) (gl : Fr) : Prop:=∀ g v,lk gl g = some v→v.pure = true∧RelV G (fun _=>none) v (.pointer (some ⟨g,0,none⟩))
theorem GlRel.mono {G G' : GMap} {gl : Fr} (h : GlRel G gl) (hg : G.le G') : GlRel G' gl:=fun g v e=>⟨(h g v e).1,(h g v e).2.mono hg (MMap.le_refl _)⟩
def Marks (bs : Nat) (M : MMap) (w : World) : List Deferred→Prop
 | []=>True
 | d :: r=>(∃ k,d = { target:=.collected k,args:=#[] }∧bs ≤ k∧w.heap[k]? = some (.deferred (some []))∧¬ owned M k∧{ target:=.collected k,args:=#[] } ∉ r)∧Marks bs M w r
theorem Marks.ext {bs : Nat} {G G' : GMap} {M M' : MMap} {w w' : World} (hx : Ext G M w G' M' w') : ∀ {l : List Deferred},Marks bs M w l→Marks bs M' w' l
 | [],_=>trivial
 | d :: r,⟨⟨k,h1,h2,h3,h4,h5⟩,h6⟩=>by
  have hk : k < w.heap.size:=(Array.getElem?_eq_some_iff.1 h3).1
  refine ⟨⟨k,h1,h2,by rw [hx.keep k hk h4]; exact h3,fun hc=>?_,h5⟩,h6.ext hx⟩
  rcases hx.mnew k hc with h | h
  ·omega
  ·exact h4 h
structure R (bs n : Nat) (gl : Fr) (G : GMap) (M : MMap) (fr : Fr) (h : Hp) (a : Act) (w : World) : Prop where
 sim : Sim G M h w
 frr : ∀ t v,lk fr t = some v→RelV G M v (a.tmps.getD t undef)
 sz : a.tmps.size = n
 df : Marks bs M w a.defers
 gl : GlRel G gl
 bs : bs ≤ w.heap.size
inductive IExit where
 | normal
 | exit (id : Nat)
 | goto (l : Nat)
 | ret
def IExit.out : IExit→Exit
 | .normal=>.normal
 | .exit id=>.exit id
 | .goto l=>.goto l
 | .ret=>.ret
abbrev IQ:=IExit→Fr→Hp→Prop
def Up (bs n : Nat) (gl : Fr) (G : GMap) (M : MMap) (w : World) (Q : IQ) : Exit→Act→World→Prop:=fun e a' w'=>
 ∃ ie G' M' fr' h',e = ie.out∧Q ie fr' h'∧R bs n gl G' M' fr' h' a' w'∧Ext G M w G' M' w'
def FW (rd : Option Nat) : Fence:={ Fence.wide with round:=rd }
theorem FW_room (rd : Option Nat) (n : Nat) : (FW rd).room n:=room_wide n
def isDefer : Op→Bool
 | .defer _=>true
 | _=>false
def noR : Code→Bool
 | .region _ ops _=>ops.toList.all fun o=>!isDefer o.op
 | .rangeFunc ..=>false
 | .seq a b=>noR a && noR b
 | .cond _ a b=>noR a && noR b
 | .block _ a=>noR a
 | .loop a=>noR a
 | .scope a=>noR a
 | _=>true
def IW (P : Program) (n : Nat) (gl : Fr) (c : Code) (Q : IQ) (fr : Fr) (h : Hp) : Prop:=
 ∀ rd bs,(rd.isSome = true→noR c = true)→∀ G M a w,R bs n gl G M fr h a w→c.wpIn (FW rd) 0 P (Up bs n gl G M w Q) a w
theorem callsIn_FW {rd : Option Nat} {k : Nat} {P : Program} {f : FuncId} {args : Array Value} {w : World} {R : Ending→World→Prop} : CallsIn (FW rd) k P f args w R↔Calls P f args w R:=
 ⟨fun h=>callsIn_wide.1 (show CallsIn Fence.wide k P f args w R from h),fun h=>show CallsIn Fence.wide k P f args w R from callsIn_wide.2 h⟩
theorem Oper.wpIn_of {rd : Option Nat} {P : Program} {o : Oper} {a : Act} {w : World} {K : Act→World→Prop} {Q : Exit→Act→World→Prop} (hd : rd.isSome = true→isDefer o.op = false) (h : o.wp P a w K Q) : o.wpIn (FW rd) 0 P a w K Q:=by
 refine ⟨fun _ _=>trivial,?_⟩
 have hs : Oper.semAt (FW rd).round a.eval o = execOp a.eval o:=by
  cases rd with
  | none=>rfl
  | some l=>
   refine Oper.semAt_eq _ _ _ fun c hc=>?_
   have:=hd rfl
   rw [hc] at this; cases this
 rw [hs]
 unfold Oper.wp at h
 generalize (execOp a.eval o).run P w = r at h
 cases r with
 | ok x w'=>
  cases x <;> simp only [Oper.upon] at h <;> simp only [Oper.uponIn] <;> first
   | exact h
   | exact ⟨(fun h=>nomatch h),callsIn_FW.2 h⟩
   | exact ⟨(fun h=>nomatch h),fun c cs _=>let ⟨v,w',r,s⟩:=h c cs; ⟨v,w',r,show StepsIn (Machine.fenced P Fence.wide) P _ _ from stepsIn_wide.2 s⟩⟩
 | halt x w'=>cases x <;> simp only [Oper.upon] at h <;> simp only [Oper.uponIn] <;> first | exact h | exact h.elim
section
variable {P : Program} {ops : Array Oper} {Q : Exit→Act→World→Prop} {rd : Option Nat}
theorem wpOpIn_of {i : Nat} {a : Act} {w : World} {K K' : Act→World→Prop} (hd : ∀ o,ops[i]? = some o→rd.isSome = true→isDefer o.op = false) (hq : ¬ LetsOut Q) (h : wpOp P ops Q i K a w) (hk : ∀ a w,K a w→K' a w) : wpOpIn (FW rd) 0 P ops Q i K' a w:=by
 unfold wpOp at h
 unfold wpOpIn
 cases ho : ops[i]? with
 | none=>rw [ho] at h; exact hk _ _ h
 | some o=>
  rw [ho] at h
  simp only [] at h ⊢
  by_cases hw : Region.wanted o (yielded ops a.tmps) = true
  ·rw [if_pos hw] at h ⊢
   rcases h with h | h
   ·exact Oper.wpIn_mono hk (Oper.wpIn_of (hd o ho) h)
   ·exact absurd h.2 hq
  ·rw [if_neg hw] at h ⊢
   exact ⟨fun _ _=>trivial,hk _ _ h⟩
theorem wpOpsIn_of (hd : ∀ (i : Nat) (o : Oper),ops[i]? = some o→rd.isSome = true→isDefer o.op = false) (hq : ¬ LetsOut Q) : ∀ {l : List Nat} {a : Act} {w : World},wpOps P ops Q l a w→wpOpsIn (FW rd) 0 P ops Q l a w
 | [],_,_,h=>h
 | i :: r,a,w,h=>by
  rw [wpOps_cons] at h
  rw [wpOpsIn_cons]
  exact wpOpIn_of (hd i) hq h fun _ _ h=>wpOpsIn_of hd hq h
theorem wpAnyIn_of {md : Region.Mode} (hd : ∀ (i : Nat) (o : Oper),ops[i]? = some o→rd.isSome = true→isDefer o.op = false) (hq : ¬ LetsOut Q) : ∀ {k : Nat} {l : Array Bool} {a : Act} {w : World},wpAny P md ops Q k l a w→wpAnyIn (FW rd) 0 P md ops Q k l a w
 | 0,_,_,_,h=>h
 | _k + 1,_l,_a,_w,h=>⟨h.1,fun i hi=>wpOpIn_of (hd i) hq (h.2 i hi) fun _ _ h=>wpAnyIn_of hd hq h⟩
theorem noR_ops {id : Nat} {dr : Bool} (h : rd.isSome = true→noR (.region id ops dr) = true) : ∀ (i : Nat) (o : Oper),ops[i]? = some o→rd.isSome = true→isDefer o.op = false:=by
 intro i o ho hr
 have:=List.all_eq_true.1 (h hr) o (by simpa using Array.mem_of_getElem? ho)
 simpa using this
end
theorem Up.noOut {bs n : Nat} {gl : Fr} {G : GMap} {M : MMap} {w : World} {Q : IQ} : ¬ LetsOut (Up bs n gl G M w Q):=by
 rintro ⟨a,w',ie,_,_,_,_,h,_⟩
 cases ie <;> cases h
theorem wpIn_scope {F : Fence} {m : Nat} {P : Program} {Q : Exit→Act→World→Prop} {a : Act} {w : World} {c : Code} (h : c.wpIn F m P (Exit.noGoto Q) a w) : (Code.scope c).wpIn F m P Q a w:=by
 intro b k cs hro hb hr
 have s1 : StepsIn (Machine.fenced P F) P (lone (b.atR a (.code (.scope c) :: k)) cs w) (lone (b.atR a (.code c :: .inScope c :: k)) cs w):=
  .one (fenced_calm hb hr rfl) (step_lone_go (by simp [stepG,stepG.exec,Frame.atR]))
 have s2 : ∀ a w,StepsIn (Machine.fenced P F) P (lone (b.atR a (.inScope c :: k)) cs w) (lone (b.atR a k) cs w):=fun a w=>
  .one (fenced_calm hb hr rfl) (step_lone_go (by simp [stepG,stepG.exec,Frame.atR]))
 obtain ⟨e,a₁,w₁,hq,harr⟩:=h b (.inScope c :: k) cs hro hb hr
 cases e with
 | normal=>exact ⟨.normal,a₁,w₁,hq,s1.trans (StepsIn.trans harr (s2 _ _))⟩
 | exit id=>
  have hx : exitTo id (.inScope c :: k) = exitTo id k:=by simp [exitTo]
  exact ⟨.exit id,a₁,w₁,hq,fun k' hk=>s1.trans (harr.1 k' (by rw [hx]; exact hk)),fun hr' hk=>let ⟨k₁,h1,h2⟩:=harr.2 hr' (by rw [hx]; exact hk); ⟨k₁,h1,s1.trans h2⟩⟩
 | goto l=>exact hq.elim
 | ret=>exact ⟨_,a₁,w₁,hq,.of_steps s1 harr⟩
 | panic ch=>exact ⟨_,a₁,w₁,hq,.of_steps s1 harr⟩
 | outgrown=>exact ⟨_,a₁,w₁,hq,.of_steps s1 harr⟩
theorem Up.after {bs n : Nat} {gl : Fr} {G G1 : GMap} {M M1 : MMap} {w w1 : World} {Q : IQ} (hx : Ext G M w G1 M1 w1) {e : Exit} {a : Act} {w2 : World} (h : Up bs n gl G1 M1 w1 Q e a w2) : Up bs n gl G M w Q e a w2:=by
 obtain ⟨ie,G',M',fr',h',h1,h2,h3,h4⟩:=h
 exact ⟨ie,G',M',fr',h',h1,h2,h3,hx.trans h4⟩
section rules
variable {P : Program} {bs n : Nat} {gl : Fr} {Q : IQ} {fr : Fr} {h : Hp}
theorem IW.mono {c : Code} {Q' : IQ} (hc : IW P n gl c Q fr h) (hq : ∀ e fr h,Q e fr h→Q' e fr h) : IW P n gl c Q' fr h:=
 fun rd bs hn G M a w hr=>wpIn_mono (hc rd bs hn G M a w hr) fun _ _ _ ⟨ie,G',M',fr',h',h1,h2,h3,h4⟩=>⟨ie,G',M',fr',h',h1,hq _ _ _ h2,h3,h4⟩
theorem IW.skip (hq : Q .normal fr h) : IW P n gl .skip Q fr h:=
 fun _ _ _ G M _a _w hr=>wpIn_skip ⟨.normal,G,M,fr,h,rfl,hq,hr,.refl _ _ _⟩
theorem IW.label {l : Nat} (hq : Q .normal fr h) : IW P n gl (.label l) Q fr h:=
 fun _ _ _ G M _a _w hr=>wpIn_label ⟨.normal,G,M,fr,h,rfl,hq,hr,.refl _ _ _⟩
theorem IW.exit {id : Nat} (hq : Q (.exit id) fr h) : IW P n gl (.exit id) Q fr h:=
 fun _ _ _ G M _a _w hr=>wpIn_exit ⟨.exit id,G,M,fr,h,rfl,hq,hr,.refl _ _ _⟩
theorem IW.goto {l : Nat} (hq : Q (.goto l) fr h) : IW P n gl (.goto l) Q fr h:=
 fun _ _ _ G M _a _w hr=>wpIn_goto ⟨.goto l,G,M,fr,h,rfl,hq,hr,.refl _ _ _⟩
theorem IW.ret (hq : Q .ret fr h) : IW P n gl .ret Q fr h:=
 fun _ _ _ G M _a _w hr=>wpIn_ret ⟨.ret,G,M,fr,h,rfl,hq,hr,.refl _ _ _⟩
def seqQ (next : Fr→Hp→Prop) (Q : IQ) : IQ
 | .normal,fr,h=>next fr h
 | e,fr,h=>Q e fr h
theorem IW.seq {x y : Code} (hx : IW P n gl x (seqQ (IW P n gl y Q) Q) fr h) : IW P n gl (.seq x y) Q fr h:=by
 intro rd bs hn G M a w hr
 have hn':=fun h=>Bool.and_eq_true_iff.1 (hn h)
 refine wpIn_seq (wpIn_mono (hx rd bs (fun h=>(hn' h).1) G M a w hr) ?_)
 rintro e a1 w1 ⟨ie,G',M',fr',h',rfl,h2,h3,h4⟩
 cases ie with
 | normal=>exact wpIn_mono (h2 rd bs (fun h=>(hn' h).2) G' M' a1 w1 h3) fun e a2 w2 hu=>hu.after h4
 | exit id=>exact ⟨.exit id,G',M',fr',h',rfl,h2,h3,h4⟩
 | goto l=>exact ⟨.goto l,G',M',fr',h',rfl,h2,h3,h4⟩
 | ret=>exact ⟨.ret,G',M',fr',h',rfl,h2,h3,h4⟩
def blockQ (id : Nat) (Q : IQ) : IQ
 | .exit id',fr,h=>if id' = id then Q .normal fr h else Q (.exit id') fr h
 | e,fr,h=>Q e fr h
theorem IW.block {id : Nat} {c : Code} (hc : IW P n gl c (blockQ id Q) fr h) : IW P n gl (.block id c) Q fr h:=by
 intro rd bs hn G M a w hr
 refine wpIn_block (wpIn_mono (hc rd bs hn G M a w hr) ?_)
 rintro e a1 w1 ⟨ie,G',M',fr',h',rfl,h2,h3,h4⟩
 cases ie with
 | normal=>exact ⟨.normal,G',M',fr',h',rfl,h2,h3,h4⟩
 | exit id'=>
  simp only [IExit.out,Exit.inBlock]
  simp only [blockQ] at h2
  split
  ·rename_i he; rw [if_pos he] at h2; exact ⟨.normal,G',M',fr',h',rfl,h2,h3,h4⟩
  ·rename_i he; rw [if_neg he] at h2; exact ⟨.exit id',G',M',fr',h',rfl,h2,h3,h4⟩
 | goto l=>exact ⟨.goto l,G',M',fr',h',rfl,h2,h3,h4⟩
 | ret=>exact ⟨.ret,G',M',fr',h',rfl,h2,h3,h4⟩
theorem R.weaken {G : GMap} {M : MMap} {a : Act} {w : World} {fr' : Fr} {h' : Hp} (hf : ∀ t v,lk fr' t = some v→lk fr t = some v) (hh : ∀ b k,lk h' b = some k→lk h b = some k) (hr : R bs n gl G M fr h a w) : R bs n gl G M fr' h' a w:=
 ⟨⟨hr.sim.gw,fun b k hk=>hr.sim.hb b k (hh b k hk),hr.sim.inj,hr.sim.mlt⟩,fun t v ht=>hr.frr t v (hf t v ht),hr.sz,hr.df,hr.gl,hr.bs⟩
theorem IW.loop {c : Code} {X : Type} (F : X→Fr) (H : X→Hp) (Inv : X→Prop) (mu : X→Nat) (x0 : X) (h0 : Inv x0)
  (hF : ∀ t v,lk (F x0) t = some v→lk fr t = some v) (hH : ∀ t v,lk (H x0) t = some v→lk h t = some v)
  (round : ∀ x,Inv x→IW P n gl c (seqQ (fun fr' h'=>∃ x',Inv x'∧(∀ t v,lk (F x') t = some v→lk fr' t = some v)∧(∀ t v,lk (H x') t = some v→lk h' t = some v)∧mu x' < mu x) Q) (F x) (H x)) : IW P n gl (.loop c) Q fr h:=by
 intro rd bs hn G M a w hr
 intro b k cs hro hb hrm
 have key : ∀ m x G1 M1 a1 w1,mu x = m→Inv x→R bs n gl G1 M1 (F x) (H x) a1 w1→Ext G M w G1 M1 w1→
   ∃ e a' w',Up bs n gl G M w Q e a' w'∧ArrivesIn (Machine.fenced P (FW rd)) P (lone (b.atR a1 (.code c :: .inLoop c :: k)) cs w1) b k cs e a' w':=by
  intro m
  induction m using Nat.strongRecOn with
  | _ m ih=>
   intro x G1 M1 a1 w1 hm hI hr1 hx1
   obtain ⟨e,a2,w2,⟨ie,G2,M2,fr2,h2,rfl,hq,hr2,hx2⟩,harr⟩:=round x hI rd bs hn G1 M1 a1 w1 hr1 b (.inLoop c :: k) cs hro hb hrm
   cases ie with
   | normal=>
    obtain ⟨x',hI',hf',hh',hlt⟩:=hq
    obtain ⟨e,a3,w3,hq3,harr3⟩:=ih (mu x') (hm ▸ hlt) x' G2 M2 a2 w2 rfl hI' (hr2.weaken hf' hh') (hx1.trans hx2)
    exact ⟨e,a3,w3,hq3,.of_steps (StepsIn.trans harr (.one (fenced_calm hb hrm rfl) stepR_inLoop)) harr3⟩
   | exit id=>exact ⟨_,a2,w2,⟨.exit id,G2,M2,fr2,h2,rfl,hq,hr2,hx1.trans hx2⟩,.pass (x:=.inLoop c) rfl (fun _ _=>.inl (by simp [IExit.out])) harr⟩
   | goto l=>exact ⟨_,a2,w2,⟨.goto l,G2,M2,fr2,h2,rfl,hq,hr2,hx1.trans hx2⟩,.pass (x:=.inLoop c) rfl (fun _ _=>.inl (by simp [IExit.out])) harr⟩
   | ret=>exact ⟨_,a2,w2,⟨.ret,G2,M2,fr2,h2,rfl,hq,hr2,hx1.trans hx2⟩,.pass (x:=.inLoop c) rfl (fun _ _=>.inl (by simp [IExit.out])) harr⟩
 obtain ⟨e,a',w',hq,harr⟩:=key _ x0 G M a w rfl h0 (hr.weaken hF hH) (.refl _ _ _)
 exact ⟨e,a',w',hq,.of_steps (.one (fenced_calm hb hrm rfl) stepR_loop) harr⟩
end rules
end Go.Proofs.YtcdfifbabhfknaaDoor
namespace Go.Proofs.YtcdfifbabhfknaaDoor
open Go
inductive IOpd where
 | t (n : Nat)
 | g (n : Nat)
 | c (v : V)
 | f (f : FuncId)
 deriving Inhabited
inductive NOp where
 | bad
 | isnil (neg : Bool) (x : IOpd)
 | mkmap
 | lookup (kd : Option (Option IntKind)) (ok : Bool) (z : V) (m k : IOpd)
 | mapup (kd : Option (Option IntKind)) (m k v : IOpd)
 | srange (x : IOpd)
 | snext (x : IOpd)
 | idxByte (s c : IOpd)
 | add64 (x y c : IOpd)
 | nchk (x : IOpd)
 | mrange (x : IOpd)
 | mnext (x : IOpd)
 | mentry (x : IOpd)
 | cpy (sz : Nat) (x y : IOpd)
 | appc (sz bytes : Nat) (z : List V) (x y : IOpd)
 deriving Inhabited
inductive IOp where
 | mv (x : IOpd)
 | pick (c a b : IOpd)
 | box (x : IOpd)
 | alloc (z : V)
 | build (z : List V) (ps : List (Nat × Nat × IOpd))
 | buildSl (sz len : Nat) (z : List V) (ps : List (Nat × Nat × IOpd))
 | load (ag : Bool) (n : Nat) (a : IOpd)
 | store (n : Nat) (a x : IOpd)
 | bin (op : BinOp) (x y : IOpd)
 | eqs (neg : Bool) (n : Nat) (x y : IOpd)
 | beq (neg : Bool) (x y : IOpd)
 | un (op : UnOp) (x : IOpd)
 | conv (k : IntKind) (x : IOpd)
 | mkfn (f : FuncId) (fst cap : List IOpd)
 | mksl (z : List V) (sz bytes : Nat) (l c : IOpd)
 | slice (sz : Nat) (x : IOpd) (lo hi mx : Option IOpd)
 | sliceS (x : IOpd) (lo hi : Option IOpd)
 | fieldA (off : Nat) (x : IOpd)
 | field (ag : Bool) (off n : Nat) (x : IOpd)
 | idxA (sz : Nat) (x i : IOpd)
 | idxP (len sz : Nat) (x i : IOpd)
 | idxV (ag : Bool) (len sz : Nat) (x i : IOpd)
 | idxS (x i : IOpd)
 | len (x : IOpd)
 | lenS (x : IOpd)
 | lenK (n : Nat)
 | cap (x : IOpd)
 | app (sz bytes : Nat) (z : List V) (x y : IOpd)
 | copy (sz : Nat) (x y : IOpd)
 | mm (mx : Bool) (x y : IOpd)
 | call (f : IOpd) (args : List IOpd)
 | extract (x : IOpd) (i : Nat)
 | b2s (x : IOpd)
 | cvs (x : IOpd)
 | n (x : NOp)
 deriving Inhabited
structure IOper where
 dst : Option Nat
 guard : Option (Nat × Bool)
 op : IOp
 deriving Inhabited
def od (d : Nat) (x : IOp) : IOper:=⟨some d,none,x⟩
def og (d t : Nat) (b : Bool) (x : IOp) : IOper:=⟨some d,some (t,b),x⟩
@[simp] theorem od_dst (d : Nat) (x : IOp) : (od d x).dst = some d:=rfl
@[simp] theorem od_guard (d : Nat) (x : IOp) : (od d x).guard = none:=rfl
@[simp] theorem od_op (d : Nat) (x : IOp) : (od d x).op = x:=rfl
@[simp] theorem og_dst (d t : Nat) (b : Bool) (x : IOp) : (og d t b x).dst = some d:=rfl
@[simp] theorem og_guard (d t : Nat) (b : Bool) (x : IOp) : (og d t b x).guard = some (t,b):=rfl
@[simp] theorem og_op (d t : Nat) (b : Bool) (x : IOp) : (og d t b x).op = x:=rfl
inductive IC where
 | skip
 | ops (l : List IOper)
 | dops (ds : List Nat) (pre tail : List IOper)
 | seq (a b : IC)
 | cond (c : IOpd) (a b : IC)
 | block (id : Nat) (a : IC)
 | loop (a : IC)
 | exit (id : Nat)
 | goto (l : Nat)
 | label (l : Nat)
 | ret
 deriving Inhabited
def vOf : Value→V
 | .int k n=>.int k n
 | .bool b=>.bool b
 | .string s=>.str s.data.toList
 | .slice none 0 0=>.nil
 | .nilFunc=>.nilfn
 | .map none=>.nilmap
 | _=>.undef
mutual
def vOfZ : Value→V
 | .agg cs=>.agg (vOfZL cs.toList)
 | v=>vOf v
def vOfZL : List Value→List V
 | []=>[]
 | v :: r=>vOf v :: vOfZL r
end
theorem relV_vOf (G : GMap) (M : MMap) (c : Value) : RelV G M (vOf c) c:=by
 unfold vOf
 split
 ·exact .int _ _
 ·exact .bool _
 ·rename_i s
  have:=RelV.str (G:=G) (M:=M) s.data.toList
  simpa using this
 ·exact .nil
 ·exact .nilfn
 ·exact .nilmap
 ·exact .undef _
def ev (gl fr : Fr) : IOpd→Option V
 | .t n=>lk fr n
 | .g n=>lk gl n
 | .c v=>some v
 | .f f=>some (.fn f [] [])
def zeroB (gl fr : Fr) : Option IOpd→Prop
 | none=>True
 | some y=>∃ k,ev gl fr y = some (.int k 0)
def evN (gl fr : Fr) (x : IOpd) : Option V:=(ev gl fr x).map V.norm
def evs (gl fr : Fr) : List IOpd→Option (List V)
 | []=>some []
 | x :: r=>match ev gl fr x,evs gl fr r with
  | some v,some vs=>some (v :: vs)
  | _,_=>none
def V.partV (ag : Bool) (off n : Nat) (x : V) : V:=
 match ag with
 | true=>.agg ((x.cells.drop off).take n)
 | false=>x.cells.getD off .undef
def V.partOk (ag : Bool) (off n : Nat) (x : V) : Prop:=
 match ag with
 | true=>off + n ≤ x.cells.length
 | false=>off < x.cells.length
def V.putV (off n : Nat) (v x : V) : V:=
 match x with
 | .agg cs=>.agg (cs.take off ++ v.cells ++ cs.drop (off + n))
 | _=>v
def V.putOk (off n : Nat) (v x : V) : Prop:=
 v.cells.length = n∧v.cellsOk = true∧
  match x with
  | .agg cs=>off + n ≤ cs.length
  | x=>off = 0∧n = 1∧x.isCell = true∧v.isCell = true
def fillW (cells : List V) (K : List V→Prop) : List (Nat × Nat × V)→Prop
 | []=>K cells
 | (off,sz,v) :: r=>v.cells.length = sz∧v.cellsOk = true∧off + sz ≤ cells.length∧fillW (cells.take off ++ v.cells ++ cells.drop (off + sz)) K r
def evps (gl fr : Fr) : List (Nat × Nat × IOpd)→Option (List (Nat × Nat × V))
 | []=>some []
 | (o,s,x) :: r=>match ev gl fr x,evps gl fr r with
  | some v,some vs=>some ((o,s,v) :: vs)
  | _,_=>none
def groups (sz : Nat) : Nat→List V→List V
 | 0,_=>[]
 | n + 1,cs=>(match sz with | 1=>cs.getD 0 .undef | _=>.agg (cs.take sz)) :: groups sz n (cs.drop sz)
def bitsI (op : BinOp) (k : IntKind) (a b : Int) : Int:=
 match op with
 | .and=>k.wrap ((BitVec.ofInt k.bits a &&& BitVec.ofInt k.bits b).toNat : Int)
 | .or=>k.wrap ((BitVec.ofInt k.bits a ||| BitVec.ofInt k.bits b).toNat : Int)
 | .xor=>k.wrap ((BitVec.ofInt k.bits a ^^^ BitVec.ofInt k.bits b).toNat : Int)
 | _=>k.wrap ((BitVec.ofInt k.bits a &&& ~~~ BitVec.ofInt k.bits b).toNat : Int)
def binW (op : BinOp) (K : V→Prop) : V→V→Prop
 | .int k a,.int k' b=>
  match op with
  | .shl=>0 ≤ b∧K (.int k (k.wrap (a * 2 ^ (min b.toNat k.bits))))
  | .shr=>0 ≤ b∧K (.int k (a.fdiv (2 ^ (min b.toNat k.bits))))
  | .add=>k = k'∧K (.int k (k.wrap (a + b)))
  | .sub=>k = k'∧K (.int k (k.wrap (a - b)))
  | .mul=>k = k'∧K (.int k (k.wrap (a * b)))
  | .quo=>k = k'∧b ≠ 0∧K (.int k (k.wrap (a.tdiv b)))
  | .rem=>k = k'∧b ≠ 0∧K (.int k (a.tmod b))
  | .eql=>k = k'∧K (.bool (decide (a = b)))
  | .neq=>k = k'∧K (.bool (!decide (a = b)))
  | .lss=>k = k'∧K (.bool (decide (a < b)))
  | .leq=>k = k'∧K (.bool (decide (a ≤ b)))
  | .gtr=>k = k'∧K (.bool (decide (b < a)))
  | .geq=>k = k'∧K (.bool (decide (b ≤ a)))
  | .and=>k = k'∧K (.int k (bitsI .and k a b))
  | .or=>k = k'∧K (.int k (bitsI .or k a b))
  | .xor=>k = k'∧K (.int k (bitsI .xor k a b))
  | .andNot=>k = k'∧K (.int k (bitsI .andNot k a b))
 | .str a,.str b=>
  match op with
  | .add=>a.length + b.length ≤ 4294967296∧K (.str (a ++ b))
  | .eql=>K (.bool (decide (a = b)))
  | .neq=>K (.bool (!decide (a = b)))
  | .lss=>K (.bool (Op.bytesLess a b))
  | .gtr=>K (.bool (!(Op.bytesLess a b || decide (a = b))))
  | .leq=>K (.bool (Op.bytesLess a b || decide (a = b)))
  | .geq=>K (.bool (!Op.bytesLess a b))
  | _=>False
 | _,_=>False
def unW (op : UnOp) (K : V→Prop) : V→Prop
 | .bool b=>match op with
  | .not=>K (.bool !b)
  | _=>False
 | .int k a=>match op with
  | .neg=>K (.int k (k.wrap (0 - a)))
  | .xor=>K (.int k (bitsI .xor k (if k.signed then -1 else k.max) a))
  | _=>False
 | _=>False
def eqCells : List V→List V→Bool
 | .int _ a :: r,.int _ b :: s=>decide (a = b) && eqCells r s
 | _,_=>true
def eqOk : List V→List V→Prop
 | [],[]=>True
 | .int k _ :: r,.int k' _ :: s=>k = k'∧eqOk r s
 | _,_=>False
def elemsW (h : Hp) (sz : Nat) (K : List V→Prop) : V→Prop
 | .sl xs _=>(∀ x ∈ xs,x.cells.length = sz)∧K xs
 | .ref b g off len _=>match lk h b with
  | some (.row g' sz' es)=>g' = g∧sz' = sz∧off + len ≤ es.length∧K ((es.drop off).take len)
  | _=>False
 | _=>False
def bytesOf : List V→Option (List UInt8)
 | []=>some []
 | .int .u8 n :: r=>(bytesOf r).map fun s=>UInt8.ofNat n.toNat :: s
 | _=>none
def boundW (gl fr : Fr) (d : Nat) (K : Nat→Prop) : Option IOpd→Prop
 | none=>K d
 | some x=>match ev gl fr x with
  | some (.int _ n)=>0 ≤ n∧K n.toNat
  | _=>False
def boundM (gl fr : Fr) (K : Option Nat→Prop) : Option IOpd→Prop
 | none=>K none
 | some x=>match ev gl fr x with
  | some (.int _ n)=>0 ≤ n∧K (some n.toNat)
  | _=>False
def maxOk (u len : Nat) : Option Nat→Prop
 | none=>True
 | some m=>u ≤ m∧m ≤ len
def maxCap (l : Nat) (cap : Option Nat) : Option Nat→Option Nat
 | none=>cap.map fun c=>c - l
 | some m=>some (m - l)
def callable (P : Program) (f : FuncId) : Bool:=match P.funcs[f]? with
 | some fn=>fn.name != "runtime.NumGoroutine" && fn.body.isSome
 | none=>false
def ICall (P : Program) (gl : Fr) (f : FuncId) (args : List V) (h : Hp) (K : V→Hp→Prop) : Prop:=
 callable P f = true∧∀ G M w (rargs : Array Value),Sim G M h w→GlRel G gl→rargs.size = args.length→(∀ i,i < args.length→RelV G M (args.getD i .undef) (rargs.getD i undef))→
  Calls P f rargs w fun e w'=>∃ rv v h' G' M',e = .returned rv∧K v h'∧RelV G' M' v rv∧Sim G' M' h' w'∧Ext G M w G' M' w'∧∀ b,lk h b = none→freshGen M' b = freshGen M b
def istep (P : Program) (gl : Fr) (id : Nat) (fr : Fr) (h : Hp) (K : V→Hp→Prop) : IOp→Prop
  | .mv x=>match ev gl fr x with
    | some v=>K v h
    | none=>False
  | .pick c a b=>match ev gl fr c with
    | some (.bool t)=>(t = true→match ev gl fr a with | some v=>K v h | none=>False)∧(t = false→match ev gl fr b with | some v=>K v h | none=>False)
    | _=>False
  | .box x=>match ev gl fr x with
    | some v=>v.cellsOk = true∧∀ g,K (.ptr id g 0 0) ((id,.row g v.cells.length [v]) :: h)
    | none=>False
  | .alloc z=>z.cellsOk = true∧∀ g,K (.ptr id g 0 0) ((id,.row g z.cells.length [z]) :: h)
  | .build z ps=>match evps gl fr ps with
    | some l=>fillW z (fun cs=>K (.agg cs) h) l
    | none=>False
  | .buildSl sz len z ps=>match evps gl fr ps with
    | some l=>fillW z (fun cs=>∀ g,K (.ref id g 0 len (some len)) ((id,.row g sz (groups sz len cs)) :: h)) l
    | none=>False
  | .load ag n a=>match ev gl fr a with
    | some (.iptr x off)=>V.partOk ag off n x∧K (V.partV ag off n x) h
    | some (.ptr b g i off)=>match lk h b with
      | some (.row g' _ es)=>g' = g∧i < es.length∧V.partOk ag off n (es.getD i .undef)∧K (V.partV ag off n (es.getD i .undef)) h
      | _=>False
    | _=>False
  | .store n a x=>match ev gl fr a,ev gl fr x with
    | some (.ptr b g i off),some v=>match lk h b with
      | some (.row g' sz es)=>g' = g∧i < es.length∧V.putOk off n v (es.getD i .undef)∧K .undef ((b,.row g sz (es.set i (V.putV off n v (es.getD i .undef)))) :: h)
      | _=>False
    | _,_=>False
  | .bin op x y=>match ev gl fr x,ev gl fr y with
    | some a,some b=>binW op (fun v=>K v h) a b
    | _,_=>False
  | .eqs neg n x y=>match ev gl fr x,ev gl fr y with
    | some (.agg a),some (.agg b)=>a.length = n∧b.length = n∧eqOk a b∧K (.bool (match neg with | true=>!(eqCells a b) | false=>eqCells a b)) h
    | _,_=>False
  | .beq neg x y=>match ev gl fr x,ev gl fr y with
    | some (.bool a),some (.bool b)=>K (.bool (match neg with | true=>a != b | false=>a == b)) h
    | _,_=>False
  | .un op x=>match ev gl fr x with
    | some a=>unW op (fun v=>K v h) a
    | none=>False
  | .conv k x=>match ev gl fr x with
    | some (.int _ n)=>K (.int k (k.wrap n)) h
    | _=>False
  | .mkfn f a b=>match evs gl fr a,evs gl fr b with
    | some va,some vb=>K (.fn f va vb) h
    | _,_=>False
  | .mksl z sz bytes l c=>match ev gl fr l,ev gl fr c with
    | some (.int _ a),some (.int _ b)=>0 ≤ a∧a ≤ b∧b ≤ 549755813888∧bytes ≤ 256∧z.length = sz∧(∀ i,i < z.length→(z.getD i .undef).isCell = true)∧
        ∀ g,K (.ref id g 0 a.toNat (some b.toNat)) ((id,.row g sz (List.replicate a.toNat (match sz with | 1=>z.getD 0 .undef | _=>.agg z))) :: h)
    | _,_=>False
  | .slice sz x lo hi mx=>(ev gl fr x = some .nil∧zeroB gl fr lo∧zeroB gl fr hi∧zeroB gl fr mx∧K .nil h)∨match evN gl fr x with
    | some (.sl xs cap)=>boundW gl fr 0 (fun l=>boundW gl fr xs.length (fun u=>boundM gl fr (fun m=>
        l ≤ u∧u ≤ xs.length∧(l = 0∨u = l∨(xs.getD l .undef).cells.length = sz)∧maxOk u xs.length m∧K (.sl ((xs.drop l).take (u - l)) (maxCap l cap m)) h) mx) hi) lo
    | some (.ref b g off len cap)=>match lk h b with
      | some (.row g' sz' _)=>g' = g∧sz' = sz∧boundW gl fr 0 (fun l=>boundW gl fr len (fun u=>boundM gl fr (fun m=>
          l ≤ u∧u ≤ len∧maxOk u len m∧K (.ref b g (off + l) (u - l) (maxCap l cap m)) h) mx) hi) lo
      | _=>False
    | _=>False
  | .sliceS x lo hi=>match ev gl fr x with
    | some (.str s)=>boundW gl fr 0 (fun l=>boundW gl fr s.length (fun u=>l ≤ u∧u ≤ s.length∧K (.str ((s.drop l).take (u - l))) h) hi) lo
    | _=>False
  | .fieldA off x=>match ev gl fr x with
    | some (.iptr y o)=>K (.iptr y (o + off)) h
    | some (.ptr b g i o)=>K (.ptr b g i (o + off)) h
    | _=>False
  | .field ag off n x=>match ev gl fr x with
    | some (.agg cs)=>V.partOk ag off n (.agg cs)∧K (V.partV ag off n (.agg cs)) h
    | _=>False
  | .idxA sz x i=>match ev gl fr x,ev gl fr i with
    | some (.sl xs _),some (.int _ j)=>0 ≤ j∧j < xs.length∧(xs.getD j.toNat .undef).cells.length = sz∧K (.iptr (xs.getD j.toNat .undef) 0) h
    | some (.ref b g off len _),some (.int _ j)=>match lk h b with
      | some (.row g' sz' _)=>g' = g∧sz' = sz∧0 ≤ j∧j < len∧K (.ptr b g (off + j.toNat) 0) h
      | _=>False
    | _,_=>False
  | .idxP len sz x i=>match ev gl fr x,ev gl fr i with
    | some (.iptr y o),some (.int _ j)=>0 ≤ j∧j < len∧K (.iptr y (o + j.toNat * sz)) h
    | some (.ptr b g k o),some (.int _ j)=>0 ≤ j∧j < len∧K (.ptr b g k (o + j.toNat * sz)) h
    | _,_=>False
  | .idxV ag len sz x i=>match ev gl fr x,ev gl fr i with
    | some (.agg cs),some (.int _ j)=>0 ≤ j∧j < len∧V.partOk ag (j.toNat * sz) sz (.agg cs)∧K (V.partV ag (j.toNat * sz) sz (.agg cs)) h
    | _,_=>False
  | .idxS x i=>match ev gl fr x,ev gl fr i with
    | some (.str s),some (.int _ j)=>0 ≤ j∧j < s.length∧K (.int .u8 (s.getD j.toNat 0).toNat) h
    | _,_=>False
  | .len x=>match evN gl fr x with
    | some (.sl xs _)=>K (.int .i64 xs.length) h
    | some (.ref _ _ _ len _)=>K (.int .i64 len) h
    | _=>False
  | .lenS x=>match ev gl fr x with
    | some (.str s)=>K (.int .i64 s.length) h
    | _=>False
  | .lenK n=>K (.int .i64 n) h
  | .cap x=>match evN gl fr x with
    | some (.sl _ (some c))=>K (.int .i64 c) h
    | some (.ref _ _ _ _ (some c))=>K (.int .i64 c) h
    | _=>False
  | .app sz bytes z x y=>match evN gl fr x,evN gl fr y with
    | some (.sl xs cap), some vy => elemsW h sz (fun ys => (∀ x ∈ xs, x.cells.length = sz) ∧ cap = some xs.length ∧ bytes ≤ 256 ∧ z.length = sz ∧ xs.length + ys.length ≤ 274877906944 ∧
          (ys = []→K (.sl xs cap) h)∧(ys ≠ []→∀ g,K (.ref id g 0 (xs.length + ys.length) none) ((id,.row g sz (xs ++ ys)) :: h))) vy
    | some (.ref b g off len _),some vy=>match lk h b with
      | some (.row g' sz' es)=>elemsW h sz (fun ys=>g' = g∧sz' = sz∧off + len ≤ es.length∧bytes ≤ 256∧z.length = sz∧len + ys.length ≤ 274877906944∧
          ∀ g2,K (.ref b g2 0 (len + ys.length) none) ((b,.row g2 sz ((es.drop off).take len ++ ys)) :: h)) vy
      | _=>False
    | _,_=>False
  | .copy sz x y=>match evN gl fr x,evN gl fr y with
    | some (.ref b g off len _),some vy=>match lk h b with
      | some (.row g' sz' es)=>elemsW h sz (fun ys=>g' = g∧sz' = sz∧off + len ≤ es.length∧
          K (.int .i64 (min ys.length len)) ((b,.row g sz (es.take off ++ ys.take (min ys.length len) ++ es.drop (off + min ys.length len))) :: h)) vy
      | _=>False
    | _,_=>False
  | .mm mx x y=>match ev gl fr x,ev gl fr y with
    | some (.int k a),some (.int _ b)=>K (.int k (match mx with | true=>max a b | false=>min a b)) h
    | _,_=>False
  | .call f args=>match ev gl fr f,evs gl fr args with
    | some (.fn g fst cap),some vs=>ICall P gl g (fst ++ vs ++ cap) h K
    | _,_=>False
  | .extract x i=>match ev gl fr x with
    | some (.tup vs)=>match vs[i]? with
      | some v=>K v h
      | none=>False
    | _=>False
  | .cvs x=>match ev gl fr x with
    | some (.str s)=>K (.str s) h
    | _=>False
  | .b2s x=>match evN gl fr x with
    | some vx=>elemsW h 1 (fun es=>match bytesOf es with
        | some s=>K (.str s) h
        | none=>False) vx
    | none=>False
  | .n _=>False
end Go.Proofs.YtcdfifbabhfknaaDoor
