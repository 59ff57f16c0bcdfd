/- Lemmas. Conditions: none. -/
import Derived.Orders
import Derived.Laws.Cells
import Derived.Laws.World
import Derived.Laws.CopyRow
import Derived.OrdersIn
import Derived.RangeFuncRecord
import Derived.Scope
import Derived.ChangeKeysEq
import Derived.Laws.Strings
import Derived.Laws.Small
import Derived.Laws.Append
import Derived.IntWalk
set_option linter.all false
namespace Go.Proofs.YtbbnmiaabmbheaaGreatDoor
section
open Go
theorem jkb {p:Prop} [Decidable p] (h:decide p = true):p := of_decide_eq_true h
theorem jkc {p:Prop} [Decidable p] (h:decide p = false):¬p := of_decide_eq_false h
theorem jkd {α:Type _} {l:List α} {i:Nat} {a:α}:l.getD i a = l[i]?.getD a := List.getD_eq_getElem?_getD
theorem jke {α:Type _} {l:Array α} {i:Nat} {a:α}:l.getD i a = l[i]?.getD a := Array.getD_eq_getD_getElem?
theorem jkf {α:Type _} {l:List α} {i:Nat} (h:l.length≤i):l.take i = l := List.take_of_length_le h
theorem jkg {α:Type _} {l:List α} {i:Nat} (h:i < l.length):l[i] ∈ l := List.getElem_mem h
theorem jkh {α:Type _} {l:List α} {i:Nat} (h:i < l.length):l[i]? = some l[i] := List.getElem?_eq_getElem h
theorem jki (n:Nat):n≤n := Nat.le_refl n
inductive V where
 | undef
 | int (k:IntKind) (n:Int)
 | bool (b:Bool)
 | str (s:List UInt8)
 | agg (cs:List V)
 | tup (vs:List V)
 | sl (xs:List V) (cap:Option Nat)
 | ref (b g off len:Nat) (cap:Option Nat)
 | ptr (b g i off:Nat)
 | iptr (x:V) (off:Nat)
 | fn (f:FuncId) (fst cap:List V)
 | nilfn
 | nilmap
 | err (b:Bool)
 | nil
 | own (b g:Nat)
 deriving Inhabited
def V.cells:V->List V
 | .agg cs=>cs
 | v=>[v]
def V.isCell:V->Bool
 | .undef | .agg _ | .tup _=>false
 | _=>true
mutual
def V.pure:V->Bool
 | .agg cs=>jid cs
 | .tup cs=>jid cs
 | .sl xs _=>jid xs
 | .iptr x _=>x.pure
 | .fn _ a b=>jid a && jid b
 | .ref ..=>false
 | .ptr ..=>false
 | .own ..=>false
 | .undef=>true
 | .int ..=>true
 | .bool _=>true
 | .str _=>true
 | .nilfn=>true
 | .nilmap=>true
 | .err _=>true
 | .nil=>true
def jid:List V->Bool
 | []=>true
 | v :: r=>v.pure && jid r
end
mutual
def V.scalar:V->Bool
 | .agg cs=>jiz cs
 | .tup cs=>jiz cs
 | .sl ..=>false
 | .iptr ..=>false
 | .fn ..=>false
 | .ref ..=>false
 | .ptr ..=>false
 | .own ..=>false
 | .undef=>true
 | .int ..=>true
 | .bool _=>true
 | .str _=>true
 | .nilfn=>true
 | .nilmap=>true
 | .err _=>true
 | .nil=>true
def jiz:List V->Bool
 | []=>true
 | v :: r=>v.scalar && jiz r
end
theorem jig (l:List V):jid l = true↔∀ v ∈ l,v.pure = true:=by
 induction l with
 | nil=>simp [jid]
 | cons a r ih=>simp [jid,ih]
theorem jjp (l:List V):jiz l = true↔∀ v ∈ l,v.scalar = true:=by
 induction l with
 | nil=>simp [jiz]
 | cons a r ih=>simp [jiz,ih]
theorem V.pureL_map {α:Type} (f:α->V) (l:List α) (h:∀ a,(f a).pure = true):jid (l.map f) = true:=by
 rw [jig]; intro v hv; obtain ⟨a,_,rfl⟩:=List.mem_map.1 hv; exact h a
theorem jie {l:List V} (h:jid l = true) (i:Nat):(l.getD i .undef).pure = true:=by
 rw [jig] at h;rw [jkd]
 cases hi:l[i]? with
 | none=>rfl
 | some v=>exact h v (List.mem_of_getElem? hi)
theorem jjg {l:List V} (h:jiz l = true) (i:Nat):(l.getD i .undef).scalar = true:=by
 rw [jjp] at h;rw [jkd]
 cases hi:l[i]? with
 | none=>rfl
 | some v=>exact h v (List.mem_of_getElem? hi)
theorem jit {v:V} (h:v.pure = true):jid v.cells = true:=by
 cases v <;> simp_all [V.cells,V.pure,jid]
structure MB where
 gen:Nat
 sz:Nat
 room:Nat
 base:Nat
 real:Option Nat
abbrev qaz:=Nat->Option (Array Value)
abbrev qar:=Nat->Option MB
def qb4 (mb:MB) (off len:Nat) (ra:Option Addr) (rcap:Nat):Prop:=
 match mb.real with
 | none=>rcap = 0/\off = 0
 | some rb=>(ra = some ⟨rb,mb.base + off * mb.sz,none⟩/\off + rcap≤min mb.room 9223372036854775807)∨(len = 0/\rcap = 0)
inductive qak (G:qaz) (M:qar):V->Value->Prop
 | undef (v:Value):qak G M .undef v
 | int (k:IntKind) (n:Int):qak G M (.int k n) (.int k n)
 | bool (b:Bool):qak G M (.bool b) (.bool b)
 | str (s:List UInt8):qak G M (.str s) (.string ⟨s.toArray⟩)
 | agg (cs:List V) (arr:Array Value) (hs:arr.size = cs.length)
   (h:∀ i,i < cs.length->qak G M (cs.getD i .undef) (arr.getD i Go.undef)) (ho:∀ i,i < cs.length->(arr.getD i Go.undef).oneCell' = true) :
   qak G M (.agg cs) (.agg arr)
 | tup (cs:List V) (arr:Array Value) (hs:arr.size = cs.length)
   (h:∀ i,i < cs.length->qak G M (cs.getD i .undef) (arr.getD i Go.undef)):qak G M (.tup cs) (.tuple arr)
 | slnil (cap:Option Nat) (base:Option Addr) (rcap:Nat) (hc:∀ c,cap = some c->rcap = c) (hb:rcap = 0∨base.isSome = true):qak G M (.sl [] cap) (.slice base 0 rcap)
 | sl (xs:List V) (cap:Option Nat) (rb ro rcap sz:Nat) (cells:Array Value) (hne:xs ≠ []) (hG:G rb = some cells)
   (hsz:∀ i,i < xs.length->(xs.getD i .undef).cells.length = sz) (hb:ro + xs.length * sz≤cells.size) (hl:xs.length≤rcap)
   (hc:∀ c,cap = some c->rcap = c)
   (h:∀ i j,i < xs.length->j < sz->qak G M ((xs.getD i .undef).cells.getD j .undef) (cells.getD (ro + i * sz + j) Go.undef))
   (ho:∀ i j,i < xs.length->j < sz->(cells.getD (ro + i * sz + j) Go.undef).oneCell' = true) :
   qak G M (.sl xs cap) (.slice (some ⟨rb,ro,none⟩) xs.length rcap)
 | ref (b g off len:Nat) (cap:Option Nat) (ra:Option Addr) (rcap:Nat) (mb:MB) (hM:M b = some mb) (hg:g≤mb.gen) (hl:len≤rcap) (hc:∀ c,cap = some c->rcap = c)
   (h:g = mb.gen->qb4 mb off len ra rcap):qak G M (.ref b g off len cap) (.slice ra len rcap)
 | ptr (b g i off:Nat) (ad:Addr) (mb:MB) (hM:M b = some mb) (hg:g≤mb.gen)
   (h:g = mb.gen->∃ rb,mb.real = some rb/\ad = ⟨rb,mb.base + i * mb.sz + off,none⟩):qak G M (.ptr b g i off) (.pointer (some ad))
 | iptr (x:V) (off:Nat) (rb ro:Nat) (cells:Array Value) (hG:G rb = some cells) (hb:ro + x.cells.length≤cells.size)
   (h:∀ j,j < x.cells.length->qak G M (x.cells.getD j .undef) (cells.getD (ro + j) Go.undef))
   (ho:∀ j,j < x.cells.length->(cells.getD (ro + j) Go.undef).oneCell' = true) :
   qak G M (.iptr x off) (.pointer (some ⟨rb,ro + off,none⟩))
 | fn (f:FuncId) (fst cap:List V) (rfst rcap:Array Value) (h1:rfst.size = fst.length) (h2:rcap.size = cap.length)
   (h3:∀ i,i < fst.length->qak G M (fst.getD i .undef) (rfst.getD i Go.undef)) (h4:∀ i,i < cap.length->qak G M (cap.getD i .undef) (rcap.getD i Go.undef)) :
   qak G M (.fn f fst cap) (.func (.func f) rfst rcap)
 | nilfn:qak G M .nilfn .nilFunc
 | nilmap:qak G M .nilmap (.map none)
 | errnil:qak G M (.err true) .nilIface
 | errsome (t:TypeId) (x:Value):qak G M (.err false) (.iface t x)
 | nil:qak G M .nil (.slice none 0 0)
 | own (b g:Nat) (r:Value) (mb:MB) (hM:M b = some mb) (hg:g≤mb.gen) (ho:r.oneCell' = true)
   (h:g = mb.gen->∃ rb,mb.real = some rb/\r = (if mb.sz = 0 then .map (some rb) else if mb.sz = 2 then .func (.yield rb) #[] #[] else .pointer (some ⟨rb,0,none⟩))):qak G M (.own b g) r
def qaz.le (G G':qaz):Prop:=∀ k c,G k = some c->G' k = some c
def qar.le (M M':qar):Prop:=∀ b mb,M b = some mb->∃ mb',M' b = some mb'/\mb.gen≤mb'.gen/\(mb'.gen = mb.gen->mb' = mb)
def qaa (M:qar) (b:Nat):Nat:=match M b with
 | some mb=>mb.gen + 1
 | none=>0
theorem qaz.le_refl (G:qaz):G.le G:=fun _ _ h=>h
theorem qaz.le_trans {a b c:qaz} (h:a.le b) (k:b.le c):a.le c:=fun x y z=>k x y (h x y z)
theorem qar.le_refl (M:qar):M.le M:=fun _ mb h=>⟨mb,h,jki _,fun _=>rfl⟩
theorem qar.le_trans {a b c:qar} (h:a.le b) (k:b.le c):a.le c:=by
 intro x mb hx;obtain ⟨m1,e1,l1,q1⟩:=h x mb hx;obtain ⟨m2,e2,l2,q2⟩:=k x m1 e1;refine ⟨m2,e2,Nat.le_trans l1 l2,fun e=>?_⟩;have h1:m1.gen = mb.gen:=by omega
 rw [q2 (by omega),q1 h1]
theorem qak.mono {G G':qaz} {M M':qar} (hG:G.le G') (hM:M.le M') {v:V} {r:Value} (h:qak G M v r):qak G' M' v r:=by
 induction h with
 | undef v=>exact .undef v
 | int k n=>exact .int k n
 | bool b=>exact .bool b
 | str s=>exact .str s
 | agg cs arr hs _ ho ih=>exact .agg cs arr hs ih ho
 | tup cs arr hs _ ih=>exact .tup cs arr hs ih
 | slnil cap base rcap hc hb=>exact .slnil cap base rcap hc hb
 | sl xs cap rb ro rcap sz cells hne hg hsz hb hl hc _ ho ih=>exact .sl xs cap rb ro rcap sz cells hne (hG _ _ hg) hsz hb hl hc ih ho
 | ref b g off len cap ra rcap mb hm hg hl hc h=>
  obtain ⟨mb',e,l,q⟩:=hM _ _ hm;refine .ref b g off len cap ra rcap mb' e (Nat.le_trans hg l) hl hc fun e'=>?_;have:=q (by omega); subst this; exact h e'
 | ptr b g i off ad mb hm hg h=>
  obtain ⟨mb',e,l,q⟩:=hM _ _ hm;refine .ptr b g i off ad mb' e (Nat.le_trans hg l) fun e'=>?_;have:=q (by omega); subst this; exact h e'
 | iptr x off rb ro cells hg hb _ ho ih=>exact .iptr x off rb ro cells (hG _ _ hg) hb ih ho
 | fn f fst cap rfst rcap h1 h2 _ _ ih3 ih4=>exact .fn f fst cap rfst rcap h1 h2 ih3 ih4
 | nilfn=>exact .nilfn
 | nilmap=>exact .nilmap
 | errnil=>exact .errnil
 | errsome t x=>exact .errsome t x
 | nil=>exact .nil
 | own b g r mb hm hg ho h=>
  obtain ⟨mb',e,l,q⟩:=hM _ _ hm;refine .own b g r mb' e (Nat.le_trans hg l) ho fun e'=>?_;have:=q (by omega); subst this; exact h e'
theorem qak.pure {G:qaz} {M:qar} (M':qar) {v:V} {r:Value} (h:qak G M v r) (hp:v.pure = true):qak G M' v r:=by
 induction h with
 | undef v=>exact .undef v
 | int k n=>exact .int k n
 | bool b=>exact .bool b
 | str s=>exact .str s
 | agg cs arr hs _ ho ih=>exact .agg cs arr hs (fun i hi=>ih i hi (jie (by simpa [V.pure] using hp) i)) ho
 | tup cs arr hs _ ih=>exact .tup cs arr hs (fun i hi=>ih i hi (jie (by simpa [V.pure] using hp) i))
 | slnil cap base rcap hc hb=>exact .slnil cap base rcap hc hb
 | sl xs cap rb ro rcap sz cells hne hg hsz hb hl hc _ ho ih=>
  exact .sl xs cap rb ro rcap sz cells hne hg hsz hb hl hc (fun i j hi hj=>ih i j hi hj (jie (jit (jie (by simpa [V.pure] using hp) i)) j)) ho
 | ref=>simp [V.pure] at hp
 | ptr=>simp [V.pure] at hp
 | own=>simp [V.pure] at hp
 | iptr x off rb ro cells hg hb _ ho ih=>exact .iptr x off rb ro cells hg hb (fun j hj=>ih j hj (jie (jit (by simpa [V.pure] using hp)) j)) ho
 | fn f fst cap rfst rcap h1 h2 _ _ ih3 ih4=>
  simp only [V.pure,Bool.and_eq_true] at hp;exact .fn f fst cap rfst rcap h1 h2 (fun i hi=>ih3 i hi (jie hp.1 i)) (fun i hi=>ih4 i hi (jie hp.2 i))
 | nilfn=>exact .nilfn
 | nilmap=>exact .nilmap
 | errnil=>exact .errnil
 | errsome t x=>exact .errsome t x
 | nil=>exact .nil
theorem qak.scalar {G:qaz} {M:qar} (G':qaz) (M':qar) {v:V} {r:Value} (h:qak G M v r) (hp:v.scalar = true):qak G' M' v r:=by
 induction h with
 | undef v=>exact .undef v
 | int k n=>exact .int k n
 | bool b=>exact .bool b
 | str s=>exact .str s
 | agg cs arr hs _ ho ih=>exact .agg cs arr hs (fun i hi=>ih i hi (jjg (by simpa [V.scalar] using hp) i)) ho
 | tup cs arr hs _ ih=>exact .tup cs arr hs (fun i hi=>ih i hi (jjg (by simpa [V.scalar] using hp) i))
 | nilfn=>exact .nilfn
 | nilmap=>exact .nilmap
 | errnil=>exact .errnil
 | errsome t x=>exact .errsome t x
 | nil=>exact .nil
 | slnil=>simp [V.scalar] at hp
 | sl=>simp [V.scalar] at hp
 | ref=>simp [V.scalar] at hp
 | ptr=>simp [V.scalar] at hp
 | own=>simp [V.scalar] at hp
 | iptr=>simp [V.scalar] at hp
 | fn=>simp [V.scalar] at hp
theorem qak.oneCell {G:qaz} {M:qar} {v:V} {r:Value} (h:qak G M v r) (hp:v.isCell = true):r.oneCell' = true:=by
 cases h <;> first
  | rfl
  | assumption
  | simp [V.isCell] at hp
def V.cellsOk:V->Bool
 | .agg _=>true
 | v=>v.isCell
theorem qak.cells {G:qaz} {M:qar} {v:V} {r:Value} (h:qak G M v r) (hp:v.cellsOk = true) :
  r.cells.size = v.cells.length/\∀ j,j < v.cells.length->qak G M (v.cells.getD j .undef) (r.cells.getD j Go.undef)/\(r.cells.getD j Go.undef).oneCell' = true:=by
 by_cases ha:∃ cs,v = .agg cs
 ·obtain ⟨cs,rfl⟩:=ha
  cases h with
  | agg cs arr hs h ho=>exact ⟨hs,fun j hj=>⟨h j hj,ho j hj⟩⟩
 ·have hc:v.isCell = true:=by cases v <;> simp_all [V.cellsOk]
  have hr:=h.oneCell hc;have h1:v.cells = [v]:=by cases v <;> simp_all [V.cells]
  have h2:r.cells = #[r]:=by cases r <;> simp_all [Value.oneCell',Value.cells]
  rw [h1,h2];refine ⟨rfl,fun j hj=>?_⟩;obtain rfl:j = 0:=by simpa using hj
  exact ⟨h,hr⟩
def V.norm:V->V
 | .nil=>.sl [] (some 0)
 | v=>v
theorem qak.norm {G:qaz} {M:qar} {v:V} {r:Value} (h:qak G M v r):qak G M v.norm r:=by
 cases h <;> first
  | exact .slnil _ _ _ (by simp) (.inl rfl)
  | (constructor <;> assumption)
  | assumption
end
section
open Go
inductive Blk where
 | row (g sz:Nat) (elems:List V)
 | map (g:Nat) (es:List (V × V))
 | siter (g:Nat) (s:List UInt8) (pos:Nat)
 | loop (g n:Nat) (fr:List (Nat × V)) (ps:List Nat) (asg body:Code) (busy:Bool)
 | dead (g:Nat)
 | miter (g:Nat) (x:V) (n:Nat) (seen:List Nat)
 deriving Inhabited
abbrev Fr:=List (Nat × V)
abbrev Hp:=List (Nat × Blk)
def lk {α:Type}:List (Nat × α)->Nat->Option α
 | [],_=>none
 | (k,v) :: r,t=>if t = k then some v else lk r t
def qbo (G:qaz) (M:qar) (w:World) (mb:MB) (elems:List V):Prop:=
 match mb.real with
 | none=>elems = []
 | some rb=>∃ arr ty,w.heap[rb]? = some (.cells arr ty (0,0))/\mb.base + mb.room * mb.sz≤arr.size/\elems.length≤mb.room/\
   (∀ i,i < elems.length->(elems.getD i .undef).cells.length = mb.sz)/\
   ∀ i j,i < elems.length->j < mb.sz->qak G M ((elems.getD i .undef).cells.getD j .undef) (arr.getD (mb.base + i * mb.sz + j) undef)/\(arr.getD (mb.base + i * mb.sz + j) undef).oneCell' = true
def qni (G:qaz) (M:qar) (w:World) (rb:Nat) (es:List (V × V)):Prop:=
 ∃ entries clock,w.heap[rb]? = some (.map entries clock)/\(entries.size = es.length/\clock = es.length/\∀ i,i < es.length->(entries.getD i default).born = i)/\
  ∀ i,i < es.length->qak G M ((es.getD i (.undef,.undef)).1) ((entries.getD i default).key)/\qak G M ((es.getD i (.undef,.undef)).2) ((entries.getD i default).val)
def qt0 (G:qaz) (M:qar) (w:World) (rb n:Nat) (fr:Fr) (ps:List Nat) (asg body:Code) (busy:Bool):Prop:=
 ∃ r:Loop,w.heap[rb]? = some (.loop r)/\r.state = (bif busy then .busy else .ready)/\r.pending = none/\r.params.toList = ps/\r.assign = asg/\r.body = body/\r.tmps.size = n/\
  ∀ t v,lk fr t = some v->qak G M v (r.tmps.getD t undef)
def qb7 (G:qaz) (M:qar) (w:World) (b:Nat):Blk->Prop
 | .row g sz elems=>∃ mb,M b = some mb/\mb.gen = g/\mb.sz = sz/\qbo G M w mb elems
 | .map g es=>∃ mb rb,M b = some mb/\mb.gen = g/\mb.real = some rb/\mb.sz = 0/\qni G M w rb es
 | .siter g s pos=>∃ mb rb,M b = some mb/\mb.gen = g/\mb.real = some rb/\mb.sz = 1/\w.heap[rb]? = some (.stringIter ⟨s.toArray⟩ pos)
 | .loop g n fr ps asg body busy=>∃ mb rb,M b = some mb/\mb.gen = g/\mb.real = some rb/\mb.sz = 2/\qt0 G M w rb n fr ps asg body busy
 | .dead g=>∃ mb,M b = some mb/\mb.gen = g
 | .miter g x n seen=>∃ mb rb,M b = some mb/\mb.gen = g/\mb.real = some rb/\mb.sz = 1/\∃ r,qak G M x (.map (some r))/\w.heap[rb]? = some (.mapIter (some r) n seen.toArray n)
structure Sim (G:qaz) (M:qar) (h:Hp) (w:World):Prop where
 gw:∀ k cells,G k = some cells->∃ ty fz,w.heap[k]? = some (.cells cells ty fz)
 hb:∀ b blk,lk h b = some blk->qb7 G M w b blk
 inj:∀ b b' mb mb' rb,M b = some mb->M b' = some mb'->mb.real = some rb->mb'.real = some rb->b = b'
 mlt:∀ b mb rb,M b = some mb->mb.real = some rb->rb < w.heap.size/\G rb = none
def qf0 (M:qar) (k:Nat):Prop:=∃ b mb,M b = some mb/\mb.real = some k
structure Ext (G:qaz) (M:qar) (w:World) (G':qaz) (M':qar) (w':World):Prop where
 g:G.le G'
 gnew:∀ k c,G' k = some c->G k = some c∨w.heap.size≤k∨qf0 M k
 m:M.le M'
 mnew:∀ k,qf0 M' k->w.heap.size≤k∨qf0 M k
 os:w'.os = w.os
 tape:w'.tape = w.tape
 output:w'.output = w.output
 size:w.heap.size≤w'.heap.size
 keep:∀ k,k < w.heap.size->¬ qf0 M k->w'.heap[k]? = w.heap[k]?
theorem Ext.refl (G:qaz) (M:qar) (w:World):Ext G M w G M w:=
 ⟨G.le_refl,fun _ _ h=>.inl h,M.le_refl,fun _ h=>.inr h,rfl,rfl,rfl,jki _,fun _ _ _=>rfl⟩
theorem Ext.trans {G G1 G2:qaz} {M M1 M2:qar} {w w1 w2:World} (h:Ext G M w G1 M1 w1) (k:Ext G1 M1 w1 G2 M2 w2):Ext G M w G2 M2 w2:=by
 refine ⟨qaz.le_trans h.g k.g,fun x c hx=>?_,qar.le_trans h.m k.m,fun x hx=>?_,k.os.trans h.os,k.tape.trans h.tape,k.output.trans h.output,Nat.le_trans h.size k.size,fun x hx ho=>?_⟩
 ·rcases k.gnew x c hx with h1 | h1 | h1
  ·exact h.gnew x c h1
  ·exact .inr (.inl (Nat.le_trans h.size h1))
  ·rcases h.mnew x h1 with h2 | h2
   ·exact .inr (.inl h2)
   ·exact .inr (.inr h2)
 ·rcases k.mnew x hx with h1 | h1
  ·exact .inl (Nat.le_trans h.size h1)
  ·exact h.mnew x h1
 ·have h1:¬ qf0 M1 x:=fun hc=>by
   rcases h.mnew x hc with h2 | h2
   ·omega
   ·exact ho h2
  rw [k.keep x (Nat.lt_of_lt_of_le hx h.size) h1,h.keep x hx ho]
def qdy (G:qaz) (gl:Fr):Prop:=∀ g v,lk gl g = some v->v.pure = true/\qak G (fun _=>none) v (.pointer (some ⟨g,0,none⟩))/\∃ cs,G g = some cs/\∀ x o,v = .iptr x o->cs.size = x.cells.length
theorem qdy.mono {G G':qaz} {gl:Fr} (h:qdy G gl) (hg:G.le G'):qdy G' gl:=fun g v e=>by
 obtain ⟨h1,h2,cs,h3,h4⟩:=h g v e;exact ⟨h1,h2.mono hg (qar.le_refl _),cs,hg _ _ h3,h4⟩
def qiy (bs:Nat) (M:qar) (w:World):List Deferred->Prop
 | []=>True
 | d :: r=>(∃ k,d = { target:=.collected k,args:=#[] }/\bs≤k/\w.heap[k]? = some (.deferred (some []))/\¬ qf0 M k/\{ target:=.collected k,args:=#[] } ∉ r)/\qiy bs M w r
theorem qiy.ext {bs:Nat} {G G':qaz} {M M':qar} {w w':World} (hx:Ext G M w G' M' w'):∀ {l:List Deferred},qiy bs M w l->qiy bs M' w' l
 | [],_=>trivial
 | d :: r,⟨⟨k,h1,h2,h3,h4,h5⟩,h6⟩=>by
  have hk:k < w.heap.size:=(Array.getElem?_eq_some_iff.1 h3).1;refine ⟨⟨k,h1,h2,by rw [hx.keep k hk h4]; exact h3,fun hc=>?_,h5⟩,h6.ext hx⟩;rcases hx.mnew k hc with h | h
  ·omega
  ·exact h4 h
structure BS where
 n:Nat
 D:List Deferred
instance:Coe Nat BS:=⟨fun n=>⟨n,[]⟩⟩
def qk8 (bs:BS) (M:qar) (w:World) (l:List Deferred):Prop:=∃ l',l = l' ++ bs.D/\qiy bs.n M w l'/\∀ d ∈ bs.D,∃ fv cap,d.target = .fn fv cap
theorem qk8.nil (n:Nat) (M:qar) (w:World):qk8 (n:BS) M w []:=⟨[],rfl,trivial,fun _ h=>by cases h⟩
theorem qk8.ext {bs:BS} {G G':qaz} {M M':qar} {w w':World} (hx:Ext G M w G' M' w') {l:List Deferred} (h:qk8 bs M w l):qk8 bs M' w' l:=
 let ⟨l',h1,h2,h3⟩:=h
 ⟨l',h1,h2.ext hx,h3⟩
structure R (bs:BS) (n:Nat) (gl:Fr) (G:qaz) (M:qar) (fr:Fr) (h:Hp) (a:Act) (w:World):Prop where
 sim:Sim G M h w
 frr:∀ t v,lk fr t = some v->qak G M v (a.tmps.getD t undef)
 sz:a.tmps.size = n
 df:qk8 bs M w a.defers
 gl:qdy G gl
 bs:bs.n≤w.heap.size
inductive qb3 where
 | normal
 | exit (id:Nat)
 | goto (l:Nat)
 | ret
def qb3.out:qb3->Exit
 | .normal=>.normal
 | .exit id=>.exit id
 | .goto l=>.goto l
 | .ret=>.ret
abbrev IQ:=qb3->Fr->Hp->Prop
def Up (bs:BS) (n:Nat) (gl:Fr) (G:qaz) (M:qar) (w:World) (Q:IQ):Exit->Act->World->Prop:=fun e a' w'=>
 ∃ ie G' M' fr' h',e = ie.out/\Q ie fr' h'/\R bs n gl G' M' fr' h' a' w'/\Ext G M w G' M' w'
def FW (rd:Option Nat):Fence:={ Fence.wide with round:=rd }
theorem qty (rd:Option Nat) (n:Nat):(FW rd).room n:=room_wide n
def qe6:Op->Bool
 | .defer _=>true
 | _=>false
def noR:Code->Bool
 | .region _ ops _=>ops.toList.all fun o=>!qe6 o.op
 | .rangeFunc ..=>false
 | .seq a b=>noR a && noR b
 | .cond _ a b=>noR a && noR b
 | .block _ a=>noR a
 | .loop a=>noR a
 | .scope a=>noR a
 | _=>true
def IW (P:Program) (n:Nat) (gl:Fr) (c:Code) (Q:IQ) (fr:Fr) (h:Hp):Prop:=
 ∀ rd bs,(rd.isSome = true->noR c = true)->∀ G M a w,R bs n gl G M fr h a w->c.wpIn (FW rd) 0 P (Up bs n gl G M w Q) a w
theorem qeo {rd:Option Nat} {k:Nat} {P:Program} {f:FuncId} {args:Array Value} {w:World} {R:Ending->World->Prop}:CallsIn (FW rd) k P f args w R↔Calls P f args w R:=
 ⟨fun h=>callsIn_wide.1 (show CallsIn Fence.wide k P f args w R from h),fun h=>show CallsIn Fence.wide k P f args w R from callsIn_wide.2 h⟩
theorem jim {rd:Option Nat} {P:Program} {o:Oper} {a:Act} {w:World} {K:Act->World->Prop} {Q:Exit->Act->World->Prop} (hd:rd.isSome = true->qe6 o.op = false) (h:o.wp P a w K Q):o.wpIn (FW rd) 0 P a w K Q:=by
 refine ⟨fun _ _=>trivial,?_⟩
 have hs:Oper.semAt (FW rd).round a.eval o = execOp a.eval o:=by
  cases rd with
  | none=>rfl
  | some l=>
   refine Oper.semAt_eq _ _ _ fun c hc=>?_;have:=hd rfl;rw [hc] at this; cases this
 rw [hs];unfold Oper.wp at h;generalize (execOp a.eval o).run P w = r at h
 cases r with
 | ok x w'=>
  cases x <;> simp only [Oper.upon] at h <;> simp only [Oper.uponIn] <;> first
   | exact h
   | exact ⟨(fun h=>nomatch h),qeo.2 h⟩
   | exact ⟨(fun h=>nomatch h),fun c cs _=>let ⟨v,w',r,s⟩:=h c cs; ⟨v,w',r,show StepsIn (Machine.fenced P Fence.wide) P _ _ from stepsIn_wide.2 s⟩⟩
 | halt x w'=>cases x <;> simp only [Oper.upon] at h <;> simp only [Oper.uponIn] <;> first | exact h | exact h.elim
section
variable {P:Program} {ops:Array Oper} {Q:Exit->Act->World->Prop} {rd:Option Nat}
theorem qw6 {i:Nat} {a:Act} {w:World} {K K':Act->World->Prop} (hd:∀ o,ops[i]? = some o->rd.isSome = true->qe6 o.op = false) (hq:¬ LetsOut Q) (h:wpOp P ops Q i K a w) (hk:∀ a w,K a w->K' a w):wpOpIn (FW rd) 0 P ops Q i K' a w:=by
 unfold wpOp at h;unfold wpOpIn
 cases ho:ops[i]? with
 | none=>rw [ho] at h; exact hk _ _ h
 | some o=>
  rw [ho] at h;simp only [] at h ⊢;by_cases hw:Region.wanted o (yielded ops a.tmps) = true
  ·rw [if_pos hw] at h ⊢;rcases h with h | h
   ·exact Oper.wpIn_mono hk (jim (hd o ho) h)
   ·exact absurd h.2 hq
  ·rw [if_neg hw] at h ⊢;exact ⟨fun _ _=>trivial,hk _ _ h⟩
theorem qif {md:Region.Mode} (hd:∀ (i:Nat) (o:Oper),ops[i]? = some o->rd.isSome = true->qe6 o.op = false) (hq:¬ LetsOut Q):∀ {k:Nat} {l:Array Bool} {a:Act} {w:World},wpAny P md ops Q k l a w->wpAnyIn (FW rd) 0 P md ops Q k l a w
 | 0,_,_,_,h=>h
 | _k + 1,_l,_a,_w,h=>⟨h.1,fun i hi=>qw6 (hd i) hq (h.2 i hi) fun _ _ h=>qif hd hq h⟩
theorem qmy {id:Nat} {dr:Bool} (h:rd.isSome = true->noR (.region id ops dr) = true):∀ (i:Nat) (o:Oper),ops[i]? = some o->rd.isSome = true->qe6 o.op = false:=by
 intro i o ho hr;have:=List.all_eq_true.1 (h hr) o (by simpa using Array.mem_of_getElem? ho);simpa using this
end
theorem Up.noOut {bs:BS} {n:Nat} {gl:Fr} {G:qaz} {M:qar} {w:World} {Q:IQ}:¬ LetsOut (Up bs n gl G M w Q):=by
 rintro ⟨a,w',ie,_,_,_,_,h,_⟩;cases ie <;> cases h
theorem ql8 {F:Fence} {m:Nat} {P:Program} {Q:Exit->Act->World->Prop} {a:Act} {w:World} {c:Code} (h:c.wpIn F m P (Exit.noGoto Q) a w):(Code.scope c).wpIn F m P Q a w:=by
 intro b k cs hro hb hr
 have s1:StepsIn (Machine.fenced P F) P (lone (b.atR a (.code (.scope c) :: k)) cs w) (lone (b.atR a (.code c :: .inScope c :: k)) cs w):=
  .one (fenced_calm hb hr rfl) (step_lone_go (by simp [stepG,stepG.exec,Frame.atR]))
 have s2:∀ a w,StepsIn (Machine.fenced P F) P (lone (b.atR a (.inScope c :: k)) cs w) (lone (b.atR a k) cs w):=fun a w=>
  .one (fenced_calm hb hr rfl) (step_lone_go (by simp [stepG,stepG.exec,Frame.atR]))
 obtain ⟨e,a₁,w₁,hq,harr⟩:=h b (.inScope c :: k) cs hro hb hr
 cases e with
 | normal=>exact ⟨.normal,a₁,w₁,hq,s1.trans (StepsIn.trans harr (s2 _ _))⟩
 | exit id=>
  have hx:exitTo id (.inScope c :: k) = exitTo id k:=by simp [exitTo]
  exact ⟨.exit id,a₁,w₁,hq,fun k' hk=>s1.trans (harr.1 k' (by rw [hx]; exact hk)),fun hr' hk=>let ⟨k₁,h1,h2⟩:=harr.2 hr' (by rw [hx]; exact hk); ⟨k₁,h1,s1.trans h2⟩⟩
 | goto l=>exact hq.elim
 | ret=>exact ⟨_,a₁,w₁,hq,.of_steps s1 harr⟩
 | panic ch=>exact ⟨_,a₁,w₁,hq,.of_steps s1 harr⟩
 | outgrown=>exact ⟨_,a₁,w₁,hq,.of_steps s1 harr⟩
theorem Up.after {bs:BS} {n:Nat} {gl:Fr} {G G1:qaz} {M M1:qar} {w w1:World} {Q:IQ} (hx:Ext G M w G1 M1 w1) {e:Exit} {a:Act} {w2:World} (h:Up bs n gl G1 M1 w1 Q e a w2):Up bs n gl G M w Q e a w2:=by
 obtain ⟨ie,G',M',fr',h',h1,h2,h3,h4⟩:=h;exact ⟨ie,G',M',fr',h',h1,h2,h3,hx.trans h4⟩
section rules
variable {P:Program} {bs:BS} {n:Nat} {gl:Fr} {Q:IQ} {fr:Fr} {h:Hp}
theorem IW.mono {c:Code} {Q':IQ} (hc:IW P n gl c Q fr h) (hq:∀ e fr h,Q e fr h->Q' e fr h):IW P n gl c Q' fr h:=
 fun rd bs hn G M a w hr=>wpIn_mono (hc rd bs hn G M a w hr) fun _ _ _ ⟨ie,G',M',fr',h',h1,h2,h3,h4⟩=>⟨ie,G',M',fr',h',h1,hq _ _ _ h2,h3,h4⟩
theorem IW.skip (hq:Q .normal fr h):IW P n gl .skip Q fr h:=
 fun _ _ _ G M _a _w hr=>wpIn_skip ⟨.normal,G,M,fr,h,rfl,hq,hr,.refl _ _ _⟩
theorem IW.label {l:Nat} (hq:Q .normal fr h):IW P n gl (.label l) Q fr h:=
 fun _ _ _ G M _a _w hr=>wpIn_label ⟨.normal,G,M,fr,h,rfl,hq,hr,.refl _ _ _⟩
theorem IW.exit {id:Nat} (hq:Q (.exit id) fr h):IW P n gl (.exit id) Q fr h:=
 fun _ _ _ G M _a _w hr=>wpIn_exit ⟨.exit id,G,M,fr,h,rfl,hq,hr,.refl _ _ _⟩
theorem IW.goto {l:Nat} (hq:Q (.goto l) fr h):IW P n gl (.goto l) Q fr h:=
 fun _ _ _ G M _a _w hr=>wpIn_goto ⟨.goto l,G,M,fr,h,rfl,hq,hr,.refl _ _ _⟩
theorem IW.ret (hq:Q .ret fr h):IW P n gl .ret Q fr h:=
 fun _ _ _ G M _a _w hr=>wpIn_ret ⟨.ret,G,M,fr,h,rfl,hq,hr,.refl _ _ _⟩
def ql3 (next:Fr->Hp->Prop) (Q:IQ):IQ
 | .normal,fr,h=>next fr h
 | e,fr,h=>Q e fr h
theorem IW.seq {x y:Code} (hx:IW P n gl x (ql3 (IW P n gl y Q) Q) fr h):IW P n gl (.seq x y) Q fr h:=by
 intro rd bs hn G M a w hr;have hn':=fun h=>Bool.and_eq_true_iff.1 (hn h);refine wpIn_seq (wpIn_mono (hx rd bs (fun h=>(hn' h).1) G M a w hr) ?_);rintro e a1 w1 ⟨ie,G',M',fr',h',rfl,h2,h3,h4⟩
 cases ie with
 | normal=>exact wpIn_mono (h2 rd bs (fun h=>(hn' h).2) G' M' a1 w1 h3) fun e a2 w2 hu=>hu.after h4
 | exit id=>exact ⟨.exit id,G',M',fr',h',rfl,h2,h3,h4⟩
 | goto l=>exact ⟨.goto l,G',M',fr',h',rfl,h2,h3,h4⟩
 | ret=>exact ⟨.ret,G',M',fr',h',rfl,h2,h3,h4⟩
def qjo (id:Nat) (Q:IQ):IQ
 | .exit id',fr,h=>if id' = id then Q .normal fr h else Q (.exit id') fr h
 | e,fr,h=>Q e fr h
theorem IW.block {id:Nat} {c:Code} (hc:IW P n gl c (qjo id Q) fr h):IW P n gl (.block id c) Q fr h:=by
 intro rd bs hn G M a w hr;refine wpIn_block (wpIn_mono (hc rd bs hn G M a w hr) ?_);rintro e a1 w1 ⟨ie,G',M',fr',h',rfl,h2,h3,h4⟩
 cases ie with
 | normal=>exact ⟨.normal,G',M',fr',h',rfl,h2,h3,h4⟩
 | exit id'=>
  simp only [qb3.out,Exit.inBlock];simp only [qjo] at h2;split
  ·rename_i he; rw [if_pos he] at h2; exact ⟨.normal,G',M',fr',h',rfl,h2,h3,h4⟩
  ·rename_i he; rw [if_neg he] at h2; exact ⟨.exit id',G',M',fr',h',rfl,h2,h3,h4⟩
 | goto l=>exact ⟨.goto l,G',M',fr',h',rfl,h2,h3,h4⟩
 | ret=>exact ⟨.ret,G',M',fr',h',rfl,h2,h3,h4⟩
theorem R.weaken {G:qaz} {M:qar} {a:Act} {w:World} {fr':Fr} {h':Hp} (hf:∀ t v,lk fr' t = some v->lk fr t = some v) (hh:∀ b k,lk h' b = some k->lk h b = some k) (hr:R bs n gl G M fr h a w):R bs n gl G M fr' h' a w:=
 ⟨⟨hr.sim.gw,fun b k hk=>hr.sim.hb b k (hh b k hk),hr.sim.inj,hr.sim.mlt⟩,fun t v ht=>hr.frr t v (hf t v ht),hr.sz,hr.df,hr.gl,hr.bs⟩
theorem IW.loop {c:Code} {X:Type} (F:X->Fr) (H:X->Hp) (Inv:X->Prop) (mu:X->Nat) (x0:X) (h0:Inv x0)
  (hF:∀ t v,lk (F x0) t = some v->lk fr t = some v) (hH:∀ t v,lk (H x0) t = some v->lk h t = some v)
  (round:∀ x,Inv x->IW P n gl c (ql3 (fun fr' h'=>∃ x',Inv x'/\(∀ t v,lk (F x') t = some v->lk fr' t = some v)/\(∀ t v,lk (H x') t = some v->lk h' t = some v)/\mu x' < mu x) Q) (F x) (H x)):IW P n gl (.loop c) Q fr h:=by
 intro rd bs hn G M a w hr;intro b k cs hro hb hrm
 have key:∀ m x G1 M1 a1 w1,mu x = m->Inv x->R bs n gl G1 M1 (F x) (H x) a1 w1->Ext G M w G1 M1 w1->
   ∃ e a' w',Up bs n gl G M w Q e a' w'/\ArrivesIn (Machine.fenced P (FW rd)) P (lone (b.atR a1 (.code c :: .inLoop c :: k)) cs w1) b k cs e a' w':=by
  intro m
  induction m using Nat.strongRecOn with
  | _ m ih=>
   intro x G1 M1 a1 w1 hm hI hr1 hx1;obtain ⟨e,a2,w2,⟨ie,G2,M2,fr2,h2,rfl,hq,hr2,hx2⟩,harr⟩:=round x hI rd bs hn G1 M1 a1 w1 hr1 b (.inLoop c :: k) cs hro hb hrm
   cases ie with
   | normal=>
    obtain ⟨x',hI',hf',hh',hlt⟩:=hq;obtain ⟨e,a3,w3,hq3,harr3⟩:=ih (mu x') (hm ▸ hlt) x' G2 M2 a2 w2 rfl hI' (hr2.weaken hf' hh') (hx1.trans hx2);exact ⟨e,a3,w3,hq3,.of_steps (StepsIn.trans harr (.one (fenced_calm hb hrm rfl) stepR_inLoop)) harr3⟩
   | exit id=>exact ⟨_,a2,w2,⟨.exit id,G2,M2,fr2,h2,rfl,hq,hr2,hx1.trans hx2⟩,.pass (x:=.inLoop c) rfl (fun _ _=>.inl (by simp [qb3.out])) harr⟩
   | goto l=>exact ⟨_,a2,w2,⟨.goto l,G2,M2,fr2,h2,rfl,hq,hr2,hx1.trans hx2⟩,.pass (x:=.inLoop c) rfl (fun _ _=>.inl (by simp [qb3.out])) harr⟩
   | ret=>exact ⟨_,a2,w2,⟨.ret,G2,M2,fr2,h2,rfl,hq,hr2,hx1.trans hx2⟩,.pass (x:=.inLoop c) rfl (fun _ _=>.inl (by simp [qb3.out])) harr⟩
 obtain ⟨e,a',w',hq,harr⟩:=key _ x0 G M a w rfl h0 (hr.weaken hF hH) (.refl _ _ _);exact ⟨e,a',w',hq,.of_steps (.one (fenced_calm hb hrm rfl) stepR_loop) harr⟩
end rules
end
section
open Go
inductive qal where
 | t (n:Nat)
 | g (n:Nat)
 | c (v:V)
 | f (f:FuncId)
 deriving Inhabited
inductive NOp where
 | bad
 | isnil (neg:Bool) (x:qal)
 | mkmap
 | lookup (kd:Option (Option IntKind)) (ok:Bool) (z:V) (m k:qal)
 | mapup (kd:Option (Option IntKind)) (m k v:qal)
 | srange (x:qal)
 | snext (x:qal)
 | idxByte (s c:qal)
 | add64 (x y c:qal)
 | nchk (x:qal)
 | ifnil (neg:Bool) (x:qal)
 | mlen (x:qal)
 | gsl (n:Nat) (x:qal)
 | appz (sz bytes:Nat) (z:List V) (x n:qal)
 | i2s (x:qal)
 | mrange (x:qal)
 | mnext (x:qal)
 | mentry (x:qal)
 | cpy (sz:Nat) (x y:qal)
 | appc (sz bytes:Nat) (z:List V) (x y:qal)
 deriving Inhabited
inductive IOp where
 | mv (x:qal)
 | pick (c a b:qal)
 | box (x:qal)
 | alloc (z:V)
 | build (z:List V) (ps:List (Nat × Nat × qal))
 | buildSl (sz len:Nat) (z:List V) (ps:List (Nat × Nat × qal))
 | load (ag:Bool) (n:Nat) (a:qal)
 | store (n:Nat) (a x:qal)
 | bin (op:BinOp) (x y:qal)
 | eqs (neg:Bool) (n:Nat) (x y:qal)
 | beq (neg:Bool) (x y:qal)
 | un (op:UnOp) (x:qal)
 | conv (k:IntKind) (x:qal)
 | mkfn (f:FuncId) (fst cap:List qal)
 | mksl (z:List V) (sz bytes:Nat) (l c:qal)
 | slice (sz:Nat) (x:qal) (lo hi mx:Option qal)
 | sliceS (x:qal) (lo hi:Option qal)
 | fieldA (off:Nat) (x:qal)
 | field (ag:Bool) (off n:Nat) (x:qal)
 | idxA (sz:Nat) (x i:qal)
 | idxP (len sz:Nat) (x i:qal)
 | idxV (ag:Bool) (len sz:Nat) (x i:qal)
 | idxS (x i:qal)
 | len (x:qal)
 | lenS (x:qal)
 | lenK (n:Nat)
 | cap (x:qal)
 | app (sz bytes:Nat) (z:List V) (x y:qal)
 | copy (sz:Nat) (x y:qal)
 | mm (mx:Bool) (x y:qal)
 | call (f:qal) (args:List qal)
 | extract (x:qal) (i:Nat)
 | b2s (x:qal)
 | cvs (x:qal)
 | n (x:NOp)
 deriving Inhabited
structure qa4 where
 dst:Option Nat
 guard:Option (Nat × Bool)
 op:IOp
 deriving Inhabited
def od (d:Nat) (x:IOp):qa4:=⟨some d,none,x⟩
def og (d t:Nat) (b:Bool) (x:IOp):qa4:=⟨some d,some (t,b),x⟩
@[simp] theorem od_dst (d:Nat) (x:IOp):(od d x).dst = some d:=rfl
@[simp] theorem jak (d:Nat) (x:IOp):(od d x).guard = none:=rfl
@[simp] theorem od_op (d:Nat) (x:IOp):(od d x).op = x:=rfl
@[simp] theorem og_dst (d t:Nat) (b:Bool) (x:IOp):(og d t b x).dst = some d:=rfl
@[simp] theorem jal (d t:Nat) (b:Bool) (x:IOp):(og d t b x).guard = some (t,b):=rfl
@[simp] theorem og_op (d t:Nat) (b:Bool) (x:IOp):(og d t b x).op = x:=rfl
def vOf:Value->V
 | .int k n=>.int k n
 | .bool b=>.bool b
 | .string s=>.str s.data.toList
 | .slice none 0 0=>.nil
 | .nilFunc=>.nilfn
 | .map none=>.nilmap
 | _=>.undef
mutual
def qfh:Value->V
 | .agg cs=>.agg (qzx cs.toList)
 | v=>vOf v
def qzx:List Value->List V
 | []=>[]
 | v :: r=>vOf v :: qzx r
end
theorem qjj (G:qaz) (M:qar) (c:Value):qak G M (vOf c) c:=by
 unfold vOf;split
 ·exact .int _ _
 ·exact .bool _
 ·rename_i s;have:=qak.str (G:=G) (M:=M) s.data.toList;simpa using this
 ·exact .nil
 ·exact .nilfn
 ·exact .nilmap
 ·exact .undef _
def ev (gl fr:Fr):qal->Option V
 | .t n=>lk fr n
 | .g n=>lk gl n
 | .c v=>some v
 | .f f=>some (.fn f [] [])
def qw9 (gl fr:Fr):Option qal->Prop
 | none=>True
 | some y=>∃ k,ev gl fr y = some (.int k 0)
def evN (gl fr:Fr) (x:qal):Option V:=(ev gl fr x).map V.norm
def evs (gl fr:Fr):List qal->Option (List V)
 | []=>some []
 | x :: r=>match ev gl fr x,evs gl fr r with
  | some v,some vs=>some (v :: vs)
  | _,_=>none
def jif (ag:Bool) (off n:Nat) (x:V):V:=
 match ag with
 | true=>.agg ((x.cells.drop off).take n)
 | false=>x.cells.getD off .undef
def jiv (ag:Bool) (off n:Nat) (x:V):Prop:=
 match ag with
 | true=>off + n≤x.cells.length
 | false=>off < x.cells.length
def jii (off n:Nat) (v x:V):V:=
 match x with
 | .agg cs=>.agg (cs.take off ++ v.cells ++ cs.drop (off + n))
 | _=>v
def ji6 (off n:Nat) (v x:V):Prop:=
 v.cells.length = n/\v.cellsOk = true/\
  match x with
  | .agg cs=>off + n≤cs.length
  | x=>off = 0/\n = 1/\x.isCell = true/\v.isCell = true
def qsq (cells:List V) (K:List V->Prop):List (Nat × Nat × V)->Prop
 | []=>K cells
 | (off,sz,v) :: r=>v.cells.length = sz/\v.cellsOk = true/\off + sz≤cells.length/\qsq (cells.take off ++ v.cells ++ cells.drop (off + sz)) K r
def qx3 (gl fr:Fr):List (Nat × Nat × qal)->Option (List (Nat × Nat × V))
 | []=>some []
 | (o,s,x) :: r=>match ev gl fr x,qx3 gl fr r with
  | some v,some vs=>some ((o,s,v) :: vs)
  | _,_=>none
def qet (sz:Nat):Nat->List V->List V
 | 0,_=>[]
 | n + 1,cs=>(match sz with | 1=>cs.getD 0 .undef | _=>.agg (cs.take sz)) :: qet sz n (cs.drop sz)
def qiz (op:BinOp) (k:IntKind) (a b:Int):Int:=
 match op with
 | .and=>k.wrap ((BitVec.ofInt k.bits a &&& BitVec.ofInt k.bits b).toNat:Int)
 | .or=>k.wrap ((BitVec.ofInt k.bits a ||| BitVec.ofInt k.bits b).toNat:Int)
 | .xor=>k.wrap ((BitVec.ofInt k.bits a ^^^ BitVec.ofInt k.bits b).toNat:Int)
 | _=>k.wrap ((BitVec.ofInt k.bits a &&& ~~~ BitVec.ofInt k.bits b).toNat:Int)
def q9l (op:BinOp) (K:V->Prop):V->V->Prop
 | .int k a,.int k' b=>
  match op with
  | .shl=>0≤b/\K (.int k (k.wrap (a * 2 ^ (min b.toNat k.bits))))
  | .shr=>0≤b/\K (.int k (a.fdiv (2 ^ (min b.toNat k.bits))))
  | .add=>k = k'/\K (.int k (k.wrap (a + b)))
  | .sub=>k = k'/\K (.int k (k.wrap (a - b)))
  | .mul=>k = k'/\K (.int k (k.wrap (a * b)))
  | .quo=>k = k'/\b ≠ 0/\K (.int k (k.wrap (a.tdiv b)))
  | .rem=>k = k'/\b ≠ 0/\K (.int k (a.tmod b))
  | .eql=>k = k'/\K (.bool (decide (a = b)))
  | .neq=>k = k'/\K (.bool (!decide (a = b)))
  | .lss=>k = k'/\K (.bool (decide (a < b)))
  | .leq=>k = k'/\K (.bool (decide (a≤b)))
  | .gtr=>k = k'/\K (.bool (decide (b < a)))
  | .geq=>k = k'/\K (.bool (decide (b≤a)))
  | .and=>k = k'/\K (.int k (qiz .and k a b))
  | .or=>k = k'/\K (.int k (qiz .or k a b))
  | .xor=>k = k'/\K (.int k (qiz .xor k a b))
  | .andNot=>k = k'/\K (.int k (qiz .andNot k a b))
 | .str a,.str b=>
  match op with
  | .add=>a.length + b.length≤4294967296/\K (.str (a ++ b))
  | .eql=>K (.bool (decide (a = b)))
  | .neq=>K (.bool (!decide (a = b)))
  | .lss=>K (.bool (Op.bytesLess a b))
  | .gtr=>K (.bool (!(Op.bytesLess a b || decide (a = b))))
  | .leq=>K (.bool (Op.bytesLess a b || decide (a = b)))
  | .geq=>K (.bool (!Op.bytesLess a b))
  | _=>False
 | _,_=>False
def unW (op:UnOp) (K:V->Prop):V->Prop
 | .bool b=>match op with
  | .not=>K (.bool !b)
  | _=>False
 | .int k a=>match op with
  | .neg=>K (.int k (k.wrap (0 - a)))
  | .xor=>K (.int k (qiz .xor k (if k.signed then -1 else k.max) a))
  | _=>False
 | _=>False
def qbm:List V->List V->Bool
 | .int _ a :: r,.int _ b :: s=>decide (a = b) && qbm r s
 | _,_=>true
def qjz:List V->List V->Prop
 | [],[]=>True
 | .int k _ :: r,.int k' _ :: s=>k = k'/\qjz r s
 | _,_=>False
def qcy (h:Hp) (sz:Nat) (K:List V->Prop):V->Prop
 | .sl xs _=>(∀ x ∈ xs,x.cells.length = sz)/\K xs
 | .ref b g off len _=>match lk h b with
  | some (.row g' sz' es)=>g' = g/\sz' = sz/\off + len≤es.length/\K ((es.drop off).take len)
  | _=>False
 | _=>False
def bytesOf:List V->Option (List UInt8)
 | []=>some []
 | .int .u8 n :: r=>(bytesOf r).map fun s=>UInt8.ofNat n.toNat :: s
 | _=>none
def qgl (gl fr:Fr) (d:Nat) (K:Nat->Prop):Option qal->Prop
 | none=>K d
 | some x=>match ev gl fr x with
  | some (.int _ n)=>0≤n/\K n.toNat
  | _=>False
def qlc (gl fr:Fr) (K:Option Nat->Prop):Option qal->Prop
 | none=>K none
 | some x=>match ev gl fr x with
  | some (.int _ n)=>0≤n/\K (some n.toNat)
  | _=>False
def qvn (u len:Nat):Option Nat->Prop
 | none=>True
 | some m=>u≤m/\m≤len
def qgo (l:Nat) (cap:Option Nat):Option Nat->Option Nat
 | none=>cap.map fun c=>c - l
 | some m=>some (m - l)
def qbt (P:Program) (f:FuncId):Bool:=match P.funcs[f]? with
 | some fn=>fn.name != "runtime.NumGoroutine" && fn.body.isSome
 | none=>false
def qng (P:Program) (gl:Fr) (f:FuncId) (args:List V) (h:Hp) (K:V->Hp->Prop):Prop:=
 qbt P f = true/\∀ G M w (rargs:Array Value),Sim G M h w->qdy G gl->rargs.size = args.length->(∀ i,i < args.length->qak G M (args.getD i .undef) (rargs.getD i undef))->
  Calls P f rargs w fun e w'=>∃ rv v h' G' M',e = .returned rv/\K v h'/\qak G' M' v rv/\Sim G' M' h' w'/\Ext G M w G' M' w'/\∀ b,lk h b = none->qaa M' b = qaa M b
def qa8 (P:Program) (gl:Fr) (id:Nat) (fr:Fr) (h:Hp) (K:V->Hp->Prop):IOp->Prop
  | .mv x=>match ev gl fr x with
    | some v=>K v h
    | none=>False
  | .pick c a b=>match ev gl fr c with
    | some (.bool t)=>(t = true->match ev gl fr a with | some v=>K v h | none=>False)/\(t = false->match ev gl fr b with | some v=>K v h | none=>False)
    | _=>False
  | .box x=>match ev gl fr x with
    | some v=>v.cellsOk = true/\∀ g,K (.ptr id g 0 0) ((id,.row g v.cells.length [v]) :: h)
    | none=>False
  | .alloc z=>z.cellsOk = true/\∀ g,K (.ptr id g 0 0) ((id,.row g z.cells.length [z]) :: h)
  | .build z ps=>match qx3 gl fr ps with
    | some l=>qsq z (fun cs=>K (.agg cs) h) l
    | none=>False
  | .buildSl sz len z ps=>match qx3 gl fr ps with
    | some l=>qsq z (fun cs=>∀ g,K (.ref id g 0 len (some len)) ((id,.row g sz (qet sz len cs)) :: h)) l
    | none=>False
  | .load ag n a=>match ev gl fr a with
    | some (.iptr x off)=>jiv ag off n x/\K (jif ag off n x) h
    | some (.ptr b g i off)=>match lk h b with
      | some (.row g' _ es)=>g' = g/\i < es.length/\jiv ag off n (es.getD i .undef)/\K (jif ag off n (es.getD i .undef)) h
      | _=>False
    | _=>False
  | .store n a x=>match ev gl fr a,ev gl fr x with
    | some (.ptr b g i off),some v=>match lk h b with
      | some (.row g' sz es)=>g' = g/\i < es.length/\ji6 off n v (es.getD i .undef)/\K .undef ((b,.row g sz (es.set i (jii off n v (es.getD i .undef)))) :: h)
      | _=>False
    | _,_=>False
  | .bin op x y=>match ev gl fr x,ev gl fr y with
    | some a,some b=>q9l op (fun v=>K v h) a b
    | _,_=>False
  | .eqs neg n x y=>match ev gl fr x,ev gl fr y with
    | some (.agg a),some (.agg b)=>a.length = n/\b.length = n/\qjz a b/\K (.bool (match neg with | true=>!(qbm a b) | false=>qbm a b)) h
    | _,_=>False
  | .beq neg x y=>match ev gl fr x,ev gl fr y with
    | some (.bool a),some (.bool b)=>K (.bool (match neg with | true=>a != b | false=>a == b)) h
    | _,_=>False
  | .un op x=>match ev gl fr x with
    | some a=>unW op (fun v=>K v h) a
    | none=>False
  | .conv k x=>match ev gl fr x with
    | some (.int _ n)=>K (.int k (k.wrap n)) h
    | _=>False
  | .mkfn f a b=>match evs gl fr a,evs gl fr b with
    | some va,some vb=>K (.fn f va vb) h
    | _,_=>False
  | .mksl z sz bytes l c=>match ev gl fr l,ev gl fr c with
    | some (.int _ a),some (.int _ b)=>0≤a/\a≤b/\b≤549755813888/\bytes≤256/\z.length = sz/\(∀ i,i < z.length->(z.getD i .undef).isCell = true)/\
        ∀ g,K (.ref id g 0 a.toNat (some b.toNat)) ((id,.row g sz (List.replicate a.toNat (match sz with | 1=>z.getD 0 .undef | _=>.agg z))) :: h)
    | _,_=>False
  | .slice sz x lo hi mx=>(ev gl fr x = some .nil/\qw9 gl fr lo/\qw9 gl fr hi/\qw9 gl fr mx/\K .nil h)∨match evN gl fr x with
    | some (.sl xs cap)=>qgl gl fr 0 (fun l=>qgl gl fr xs.length (fun u=>qlc gl fr (fun m=>
        l≤u/\u≤xs.length/\(l = 0∨u = l∨(xs.getD l .undef).cells.length = sz)/\qvn u xs.length m/\K (.sl ((xs.drop l).take (u - l)) (qgo l cap m)) h) mx) hi) lo
    | some (.ref b g off len cap)=>match lk h b with
      | some (.row g' sz' _)=>g' = g/\sz' = sz/\qgl gl fr 0 (fun l=>qgl gl fr len (fun u=>qlc gl fr (fun m=>
          l≤u/\u≤len/\qvn u len m/\K (.ref b g (off + l) (u - l) (qgo l cap m)) h) mx) hi) lo
      | _=>False
    | _=>False
  | .sliceS x lo hi=>match ev gl fr x with
    | some (.str s)=>qgl gl fr 0 (fun l=>qgl gl fr s.length (fun u=>l≤u/\u≤s.length/\K (.str ((s.drop l).take (u - l))) h) hi) lo
    | _=>False
  | .fieldA off x=>match ev gl fr x with
    | some (.iptr y o)=>K (.iptr y (o + off)) h
    | some (.ptr b g i o)=>K (.ptr b g i (o + off)) h
    | _=>False
  | .field ag off n x=>match ev gl fr x with
    | some (.agg cs)=>jiv ag off n (.agg cs)/\K (jif ag off n (.agg cs)) h
    | _=>False
  | .idxA sz x i=>match ev gl fr x,ev gl fr i with
    | some (.sl xs _),some (.int _ j)=>0≤j/\j < xs.length/\(xs.getD j.toNat .undef).cells.length = sz/\K (.iptr (xs.getD j.toNat .undef) 0) h
    | some (.ref b g off len _),some (.int _ j)=>match lk h b with
      | some (.row g' sz' _)=>g' = g/\sz' = sz/\0≤j/\j < len/\K (.ptr b g (off + j.toNat) 0) h
      | _=>False
    | _,_=>False
  | .idxP len sz x i=>match ev gl fr x,ev gl fr i with
    | some (.iptr y o),some (.int _ j)=>0≤j/\j < len/\K (.iptr y (o + j.toNat * sz)) h
    | some (.ptr b g k o),some (.int _ j)=>0≤j/\j < len/\K (.ptr b g k (o + j.toNat * sz)) h
    | _,_=>False
  | .idxV ag len sz x i=>match ev gl fr x,ev gl fr i with
    | some (.agg cs),some (.int _ j)=>0≤j/\j < len/\jiv ag (j.toNat * sz) sz (.agg cs)/\K (jif ag (j.toNat * sz) sz (.agg cs)) h
    | _,_=>False
  | .idxS x i=>match ev gl fr x,ev gl fr i with
    | some (.str s),some (.int _ j)=>0≤j/\j < s.length/\K (.int .u8 (s.getD j.toNat 0).toNat) h
    | _,_=>False
  | .len x=>match evN gl fr x with
    | some (.sl xs _)=>K (.int .i64 xs.length) h
    | some (.ref _ _ _ len _)=>K (.int .i64 len) h
    | _=>False
  | .lenS x=>match ev gl fr x with
    | some (.str s)=>K (.int .i64 s.length) h
    | _=>False
  | .lenK n=>K (.int .i64 n) h
  | .cap x=>match evN gl fr x with
    | some (.sl _ (some c))=>K (.int .i64 c) h
    | some (.ref _ _ _ _ (some c))=>K (.int .i64 c) h
    | _=>False
  | .app sz bytes z x y=>match evN gl fr x,evN gl fr y with
    | some (.sl xs cap), some vy => qcy h sz (fun ys => (∀ x ∈ xs, x.cells.length = sz) /\ cap = some xs.length /\ bytes≤256 /\ z.length = sz /\ xs.length + ys.length≤274877906944 /\
          (ys = []->K (.sl xs cap) h)/\(ys ≠ []->∀ g,K (.ref id g 0 (xs.length + ys.length) none) ((id,.row g sz (xs ++ ys)) :: h))) vy
    | some (.ref b g off len _),some vy=>match lk h b with
      | some (.row g' sz' es)=>qcy h sz (fun ys=>g' = g/\sz' = sz/\off + len≤es.length/\bytes≤256/\z.length = sz/\len + ys.length≤274877906944/\
          ∀ g2,K (.ref b g2 0 (len + ys.length) none) ((b,.row g2 sz ((es.drop off).take len ++ ys)) :: h)) vy
      | _=>False
    | _,_=>False
  | .copy sz x y=>match evN gl fr x,evN gl fr y with
    | some (.ref b g off len _),some vy=>match lk h b with
      | some (.row g' sz' es)=>qcy h sz (fun ys=>g' = g/\sz' = sz/\off + len≤es.length/\
          K (.int .i64 (min ys.length len)) ((b,.row g sz (es.take off ++ ys.take (min ys.length len) ++ es.drop (off + min ys.length len))) :: h)) vy
      | _=>False
    | _,_=>False
  | .mm mx x y=>match ev gl fr x,ev gl fr y with
    | some (.int k a),some (.int _ b)=>K (.int k (match mx with | true=>max a b | false=>min a b)) h
    | _,_=>False
  | .call f args=>match ev gl fr f,evs gl fr args with
    | some (.fn g fst cap),some vs=>qng P gl g (fst ++ vs ++ cap) h K
    | _,_=>False
  | .extract x i=>match ev gl fr x with
    | some (.tup vs)=>match vs[i]? with
      | some v=>K v h
      | none=>False
    | _=>False
  | .cvs x=>match ev gl fr x with
    | some (.str s)=>K (.str s) h
    | _=>False
  | .b2s x=>match evN gl fr x with
    | some vx=>qcy h 1 (fun es=>match bytesOf es with
        | some s=>K (.str s) h
        | none=>False) vx
    | none=>False
  | .n _=>False
end
section
open Go
def co:Operand->qal
 | .tmp t=>.t t
 | .const v=>.c (vOf v)
 | .global g=>.g g
 | .func f=>.f f
def qob:TypeDesc->Bool
 | .struct _=>true
 | .array _ _=>true
 | _=>false
def qcg (P:Program) (t:TypeId):Option (Bool × Nat × Nat):=
 match P.underlying t,P.info? t with
 | some d,some i=>some (qob d,i.size,i.bytes)
 | _,_=>none
def qb6 (P:Program) (t:TypeId):Option Value:=
 match P.info? t with
 | some i=>match i.zero with
  | some z=>if z.cells.all (·.oneCell') && z.cells.size == i.size then some z else none
  | none=>none
 | none=>none
def qg0 (P:Program) (fields:Array Field) (i:Nat):Option (Nat × Nat):=
 match fields[i]? with
 | some f=>match qcg P f.type with
  | some (_,n,_)=>some (f.offset,n)
  | none=>none
 | none=>none
def qb8 (place:Nat->Option (Nat × Nat)):List (Nat × Operand)->Option (List (Nat × Nat × qal))
 | []=>some []
 | (i,x) :: r=>match place i,qb8 place r with
  | some (o,n),some l=>some ((o,n,co x) :: l)
  | _,_=>none
def qn2 (P:Program) (g:TypeId->Option Nat):List Field->Nat->Option Nat
 | [],off=>some off
 | f :: r,off=>if f.name ≠ "_" /\ f.offset = off then match g f.type with
  | some k=>qn2 P g r (off + k)
  | none=>none
  else none
def qft (P:Program):Nat->TypeId->Option Nat
 | 0,_=>none
 | d + 1,t=>match P.underlying t,qcg P t with
  | some (.int _),some _=>some 1
  | some (.struct fs),some ty=>match qn2 P (qft P d) fs.toList 0 with
   | some k=>if P.stoodInHeld t = false/\ty.2.1 = k then some k else none
   | none=>none
  | some (.array n e),some ty=>match qft P d e,P.info? e with
   | some k,some _=>if P.cellsOf e = k/\ty.2.1 = n * k then some (n * k) else none
   | _,_=>none
  | _,_=>none
def qbx (P:Program) (t:TypeId):Option Nat:=match P.underlying t with
 | some (.struct _)=>if P.eqGuardType P.depth t = false then qft P 100 t else none
 | some (.array _ _)=>if P.eqGuardType P.depth t = false then qft P 100 t else none
 | _=>none
def qky (P:Program) (o:Oper):Option IOp:=
 match o.op with
 | .move x=>some (.mv (co x))
 | .assign x=>some (.mv (co x))
 | .pick c a b=>some (.pick (co c) (co a) (co b))
 | .box _ x=>some (.box (co x))
 | .alloc t=>(qb6 P t).map fun z=>.alloc (qfh z)
 | .build t ps=>match qb6 P t,P.underlying t with
  | some z,some (.struct fields)=>
   if fields.toList.all fun f=>(qcg P f.type).isSome then (qb8 (qg0 P fields) ps.toList).map fun l=>.build (qfh z).cells l else none
  | some z,some (.array _ e)=>match qcg P e with
   | some (_,n,_)=>(qb8 (fun i=>some (i * n,n)) ps.toList).map fun l=>.build (qfh z).cells l
   | none=>none
  | _,_=>none
 | .buildSlice t len ps=>match P.underlying t with
  | some (.slice e)=>match qcg P e,qb6 P e with
   | some (_,n,_),some z=>if len * n≤4096/\n ≠ 0 then
     (qb8 (fun i=>some (i * n,n)) ps.toList).map fun l=>.buildSl n len ((List.range (len * n)).map fun i=>(qfh z).cells.getD (i % n) .undef) l
    else none
   | _,_=>none
  | _=>none
 | .load t a=>(qcg P t).map fun x=>.load x.1 x.2.1 (co a)
 | .store t a x=>(qcg P t).map fun y=>.store y.2.1 (co a) (co x)
 | .binOp op t x y _=>match op with
  | .eql=>match P.underlying t with
   | some (.int _)=>some (.bin op (co x) (co y))
   | some .string=>some (.bin op (co x) (co y))
   | some .bool=>some (.beq false (co x) (co y))
   | _=>(qbx P t).map fun n=>.eqs false n (co x) (co y)
  | .neq=>match P.underlying t with
   | some (.int _)=>some (.bin op (co x) (co y))
   | some .string=>some (.bin op (co x) (co y))
   | some .bool=>some (.beq true (co x) (co y))
   | _=>(qbx P t).map fun n=>.eqs true n (co x) (co y)
  | _=>some (.bin op (co x) (co y))
 | .unOp op _ x=>some (.un op (co x))
 | .convert s d x=>match P.underlying s,P.underlying d with
  | some (.int _),some (.int k)=>some (.conv k (co x))
  | some .string,some .string=>some (.cvs (co x))
  | some (.slice e),some .string=>match P.underlying e with
   | some (.int .u8)=>some (.b2s (co x))
   | _=>none
  | _,_=>none
 | .makeFunc (.func f) a b=>some (.mkfn f (a.toList.map co) (b.toList.map co))
 | .makeSlice t l c=>match P.underlying t with
  | some (.slice e)=>match qcg P e,qb6 P e with
   | some (_,n,by_),some z=>if n ≠ 0 then some (.mksl (qfh z).cells n by_ (co l) (co c)) else none
   | _,_=>none
  | _=>none
 | .slice t x lo hi mx=>match P.underlying t with
  | some (.slice e)=>match qcg P e with
   | some (_,n,_)=>if n ≠ 0/\(mx.isSome = true->hi.isSome = true) then some (.slice n (co x) (lo.map co) (hi.map co) (mx.map co)) else none
   | none=>none
  | some .string=>match mx with
   | none=>some (.sliceS (co x) (lo.map co) (hi.map co))
   | some _=>none
  | _=>none
 | .fieldAddr s x i=>match P.underlying s with
  | some (.struct fields)=>match fields[i]? with
   | some f=>match qcg P f.type with
    | some (_,n,_)=>if n = 0 then none else some (.fieldA f.offset (co x))
    | none=>none
   | none=>none
  | _=>none
 | .field s x i=>match P.underlying s with
  | some (.struct fields)=>match fields[i]? with
   | some f=>match qcg P f.type with
    | some (ag,n,_)=>some (.field ag f.offset n (co x))
    | none=>none
   | none=>none
  | _=>none
 | .indexAddr t x i=>match P.underlying t with
  | some (.slice e)=>match qcg P e with
   | some (_,n,_)=>if n ≠ 0 then some (.idxA n (co x) (co i)) else none
   | none=>none
  | some (.array len e)=>match qcg P e with
   | some (_,n,_)=>some (.idxP len n (co x) (co i))
   | none=>none
  | _=>none
 | .index t x i=>match P.underlying t with
  | some (.array len e)=>match qcg P e with
   | some (ag,n,_)=>some (.idxV ag len n (co x) (co i))
   | none=>none
  | some .string=>some (.idxS (co x) (co i))
  | _=>none
 | .extract x i=>some (.extract (co x) i)
 | .call c=>match c.callee with
  | .value f=>some (.call (co f) (c.args.toList.map co))
  | .builtin .len=>match c.argTypes.toList,c.args.toList with
   | [t],[x]=>match P.underlying t with
    | some (.slice _)=>some (.len (co x))
    | some .string=>some (.lenS (co x))
    | some (.array n _)=>some (.lenK n)
    | some (.pointer a)=>match P.underlying a with
     | some (.array n _)=>some (.lenK n)
     | _=>none
    | _=>none
   | _,_=>none
  | .builtin .cap=>match c.argTypes.toList,c.args.toList with
   | [t],[x]=>match P.underlying t with
    | some (.slice _)=>some (.cap (co x))
    | _=>none
   | _,_=>none
  | .builtin .append=>match c.argTypes.toList,c.args.toList with
   | [t,t2],[x,y]=>match P.underlying t,P.underlying t2 with
    | some (.slice e),some (.slice _)=>match qcg P e,qb6 P e with
     | some (_,n,by_),some z=>if n ≠ 0 then some (.app n by_ (qfh z).cells (co x) (co y)) else none
     | _,_=>none
    | _,_=>none
   | _,_=>none
  | .builtin .max=>match c.args.toList with
   | [x,y]=>some (.mm true (co x) (co y))
   | _=>none
  | .builtin .min=>match c.args.toList with
   | [x,y]=>some (.mm false (co x) (co y))
   | _=>none
  | _=>none
 | _=>none
def qhg:Operand->Bool
 | .const (.slice none _ _)=>true
 | _=>false
def qmp (P:Program) (t:TypeId):Bool:=match P.underlying t with
 | some (.int _)=>true
 | some .string=>true
 | _=>false
def qd9 (P:Program) (t:TypeId):Option (Option IntKind):=match P.underlying t with
 | some (.int k)=>some (some k)
 | some .string=>some none
 | _=>none
def qoc (P:Program) (f:FuncId):Bool:=match P.funcs[f]? with
 | some fn=>fn.name == "internal/bytealg.IndexByteString" && fn.body.isNone && (Extern.findNext fn).isNone
 | none=>false
def qu6 (P:Program) (f:FuncId):Bool:=match P.funcs[f]? with
 | some fn=>fn.name == "math/bits.Add64" && fn.body.isNone && (Extern.findNext fn).isNone
 | none=>false
def qfy:Operand->Bool
 | .const .nilIface=>true
 | _=>false
def qjr (P:Program) (o:Oper):Option NOp:=
 match o.op with
 | .slice t x none none none=>match P.underlying t with
  | some (.array n e)=>match qcg P e with
   | some ty=>if ty.2.1 = 1 then some (.gsl n (co x)) else none
   | none=>none
  | _=>none
 | .call c=>match c.callee,c.args.toList with
  | .builtin .append,[x,y]=>match c.argTypes.toList with
   | [t,t2]=>match P.underlying t,P.underlying t2 with
    | some (.slice e),some (.int _)=>match qcg P e,qb6 P e with
     | some ty,some z=>if ty.2.1 ≠ 0 then some (.appz ty.2.1 ty.2.2 (qfh z).cells (co x) (co y)) else none
     | _,_=>none
    | _,_=>none
   | _=>none
  | _,_=>none
 | _=>none
theorem qhz {P:Program} {o:Oper} {X:NOp} (h:qjr P o = some X):(∃ t e n ty x,o.op = .slice t x none none none/\P.underlying t = some (.array n e)/\qcg P e = some ty/\ty.2.1 = 1/\X = .gsl n (co x))∨
  (∃ c t t2 e k x y z ty,o.op = .call c/\c.callee = .builtin .append/\c.args.toList = [x,y]/\c.argTypes.toList = [t,t2]/\P.underlying t = some (.slice e)/\P.underlying t2 = some (.int k)/\qcg P e = some ty/\qb6 P e = some z/\ty.2.1 ≠ 0/\X = .appz ty.2.1 ty.2.2 (qfh z).cells (co x) (co y)):=by
 unfold qjr at h;split at h
 ·rename_i t x ho;split at h
  ·rename_i n e hu;split at h
   ·rename_i ty ht;split at h
    ·rename_i h1; cases h; exact .inl ⟨t,e,n,ty,x,ho,hu,ht,h1,rfl⟩
    ·cases h
   ·cases h
  ·cases h
 ·rename_i c ho;split at h
  ·rename_i x y hc ha;split at h
   ·rename_i t t2 hat;split at h
    ·rename_i e k hu hu2;split at h
     ·rename_i ty z ht hz;split at h
      ·rename_i h1; cases h; exact .inr ⟨c,t,t2,e,k,x,y,z,ty,ho,hc,ha,hat,hu,hu2,ht,hz,h1,rfl⟩
      ·cases h
     ·cases h
    ·cases h
   ·cases h
  ·cases h
 ·cases h
def qhy (P:Program) (o:Oper):Option NOp:=
 match o.op with
 | .binOp op t x y _=>match op,P.underlying t with
  | .eql,some (.slice _)=>if qhg y = true then some (.isnil false (co x)) else none
  | .neq,some (.slice _)=>if qhg y = true then some (.isnil true (co x)) else none
  | .eql,some (.interface _)=>if qfy y = true then some (.ifnil false (co x)) else none
  | .neq,some (.interface _)=>if qfy y = true then some (.ifnil true (co x)) else none
  | _,_=>none
 | .makeMap _ none=>some .mkmap
 | .lookup t m k ok=>match P.underlying t with
  | some (.map kt et)=>if qmp P kt = true then (qb6 P et).map fun z=>.lookup (qd9 P kt) ok (qfh z) (co m) (co k) else none
  | _=>none
 | .mapUpdate t m k v=>match P.underlying t with
  | some (.map kt _)=>if qmp P kt = true then some (.mapup (qd9 P kt) (co m) (co k) (co v)) else none
  | _=>none
 | .range t x=>match P.underlying t with
  | some .string=>some (.srange (co x))
  | some (.map _ _)=>some (.mrange (co x))
  | _=>none
 | .next it true=>some (.snext (co it))
 | .next it false=>some (.mnext (co it))
 | .entry it=>some (.mentry (co it))
 | .call c=>match c.callee,c.args.toList with
  | .value (.func f),[x,y]=>if qoc P f = true then some (.idxByte (co x) (co y)) else none
  | .value (.func f),[x,y,z]=>if qu6 P f = true then some (.add64 (co x) (co y) (co z)) else none
  | .builtin .copy,[x,y]=>match c.argTypes.toList with
   | [t,t2]=>match P.underlying t,P.underlying t2 with
    | some (.slice e),some (.slice _)=>match qcg P e with
     | some ty=>if ty.2.1 ≠ 0 then some (.cpy ty.2.1 (co x) (co y)) else none
     | none=>none
    | _,_=>none
   | _=>none
  | .builtin .len,[x]=>match c.argTypes.toList with
   | [t]=>match P.underlying t with
    | some (.map _ _)=>some (.mlen (co x))
    | _=>none
   | _=>none
  | _,_=>none
 | .nilCheck x=>some (.nchk (co x))
 | .convert s d x=>match P.underlying s,P.underlying d with
  | some (.int _),some .string=>some (.i2s (co x))
  | _,_=>none
 | _=>none
def qle (P:Program) (o:Oper):Option NOp:=
 match qjr P o with
 | some x=>some x
 | none=>qhy P o
theorem qf6 {P:Program} {o:Oper} {x:NOp} (h:qle P o = some x):qjr P o = some x∨qhy P o = some x:=by
 unfold qle at h;split at h
 ·rename_i h2; cases h; exact .inl h2
 ·exact .inr h
theorem qlf {P:Program} {o:Oper} {X:NOp} (h:qjr P o = some X):(∃ n x,X = .gsl n x)∨∃ sz b z x y,X = .appz sz b z x y:=by
 rcases qhz h with ⟨_,_,_,_,_,_,_,_,_,rfl⟩ | ⟨_,_,_,_,_,_,_,_,_,_,_,_,_,_,_,_,_,_,rfl⟩
 ·exact .inl ⟨_,_,rfl⟩
 ·exact .inr ⟨_,_,_,_,_,rfl⟩
def qg9 (P:Program) (o:Oper):Option IOp:=
 match qle P o with
 | some x=>some (.n x)
 | none=>match qky P o with
  | some io=>some io
  | none=>some (.n .bad)
def qds (ops:Array Oper) (o:Oper):Option (Option (Nat × Bool)):=
 match o.guard with
 | none=>some none
 | some (j,want)=>match (ops[j]?).bind (·.dst) with
  | some d=>some (some (d,want))
  | none=>none
def q52 (n:Nat):Option Nat->Bool
 | some d=>decide (d < n)
 | none=>true
def qgm (P:Program) (n:Nat) (ops:Array Oper) (o:Oper):Option qa4:=
 match qg9 P o,qds ops o with
 | some io,some g=>if q52 n o.dst = true then some ⟨o.dst,g,io⟩ else none
 | _,_=>none
def qb9 (P:Program) (n:Nat) (ops:Array Oper):List Oper->Option (List qa4)
 | []=>some []
 | o :: r=>match qgm P n ops o,qb9 P n ops r with
  | some x,some l=>some (x :: l)
  | _,_=>none
end
section
open Go
def upd {α:Type} (M:Nat->Option α) (b:Nat) (x:α):Nat->Option α:=fun k=>if k = b then some x else M k
theorem qaw {α:Type} (M:Nat->Option α) (b:Nat) (x:α):upd M b x b = some x:=by simp [upd]
theorem qgq {α:Type} (M:Nat->Option α) {b k:Nat} (x:α) (h:k ≠ b):upd M b x k = M k:=by simp [upd,h]
theorem jip {M:qar} {b:Nat} {mb':MB} (h:∀ mb,M b = some mb->mb.gen < mb'.gen∨mb' = mb):M.le (upd M b mb'):=by
 intro k mb hk;by_cases hkb:k = b
 ·subst hkb;refine ⟨mb',qaw _ _ _,?_,?_⟩
  ·rcases h mb hk with h1 | h1
   ·omega
   ·rw [h1]; exact jki _
  ·intro e;rcases h mb hk with h1 | h1
   ·omega
   ·exact h1
 ·exact ⟨mb,by rw [qgq _ _ hkb]; exact hk,jki _,fun _=>rfl⟩
theorem qbo.mono {G G':qaz} {M M':qar} {w w':World} {mb:MB} {es:List V} (hG:G.le G') (hM:M.le M') (hw:∀ rb,mb.real = some rb->w'.heap[rb]? = w.heap[rb]?) (h:qbo G M w mb es):qbo G' M' w' mb es:=by
 unfold qbo at *;split at h
 ·exact h
 ·rename_i rb hn;obtain ⟨arr,ty,h1,h2,h3,h4,h5⟩:=h;exact ⟨arr,ty,by rw [hw rb hn]; exact h1,h2,h3,h4,fun i j hi hj=>⟨(h5 i j hi hj).1.mono hG hM,(h5 i j hi hj).2⟩⟩
theorem qb7.mono {G G':qaz} {M M':qar} {w w':World} {b:Nat} {k:Blk} (hG:G.le G') (hM:M.le M') (hb:M' b = M b) (hw:∀ mb rb,M b = some mb->mb.real = some rb->w'.heap[rb]? = w.heap[rb]?)
  (h:qb7 G M w b k):qb7 G' M' w' b k:=by
 cases k with
 | row g sz es=>
  obtain ⟨mb,h1,h2,h3,h4⟩:=h;exact ⟨mb,hb ▸ h1,h2,h3,h4.mono hG hM (fun rb hr=>hw mb rb h1 hr)⟩
 | map g es=>
  obtain ⟨mb,rb,h1,h2,h3,h0,entries,clock,h4,h5,h6⟩:=h;exact ⟨mb,rb,hb ▸ h1,h2,h3,h0,entries,clock,by rw [hw mb rb h1 h3]; exact h4,h5,fun i hi=>⟨(h6 i hi).1.mono hG hM,(h6 i hi).2.mono hG hM⟩⟩
 | siter g s pos=>
  obtain ⟨mb,rb,h1,h2,h3,h0,h4⟩:=h;exact ⟨mb,rb,hb ▸ h1,h2,h3,h0,by rw [hw mb rb h1 h3]; exact h4⟩
 | loop g n fr ps asg body busy=>
  obtain ⟨mb,rb,h1,h2,h3,h0,r,h4,h5,h6,h7,h8,h9,h10,h11⟩:=h;exact ⟨mb,rb,hb ▸ h1,h2,h3,h0,r,by rw [hw mb rb h1 h3]; exact h4,h5,h6,h7,h8,h9,h10,fun t v ht=>(h11 t v ht).mono hG hM⟩
 | dead g=>obtain ⟨mb,h1,h2⟩:=h; exact ⟨mb,hb ▸ h1,h2⟩
 | miter g x n seen=>
  obtain ⟨mb,rb,h1,h2,h3,h0,r,h4,h5⟩:=h;exact ⟨mb,rb,hb ▸ h1,h2,h3,h0,r,h4.mono hG hM,by rw [hw mb rb h1 h3]; exact h5⟩
theorem Sim.change {G:qaz} {M:qar} {h:Hp} {w w':World} (hs:Sim G M h w) (b:Nat) (mb':MB) (k':Blk)
  (hgen:∀ mb,M b = some mb->mb.gen < mb'.gen∨mb' = mb)
  (hreal:∀ rb,mb'.real = some rb->(w.heap.size≤rb/\rb < w'.heap.size)∨∃ mb,M b = some mb/\mb.real = some rb)
  (hsize:w.heap.size≤w'.heap.size) (hkeep:∀ k,k < w.heap.size->mb'.real ≠ some k->w'.heap[k]? = w.heap[k]?)
  (hkeep':∀ mb rb,M b = some mb->mb.real = some rb->True)
  (hos:w'.os = w.os) (htape:w'.tape = w.tape) (hout:w'.output = w.output)
  (hk:qb7 G (upd M b mb') w' b k'):Sim G (upd M b mb') ((b,k') :: h) w'/\Ext G M w G (upd M b mb') w':=by
 have hle:M.le (upd M b mb'):=jip hgen
 have hG:∀ k c,G k = some c->w'.heap[k]? = w.heap[k]?:=by
  intro k c hk';obtain ⟨ty,fz,he⟩:=hs.gw k c hk';have hlt:k < w.heap.size:=(Array.getElem?_eq_some_iff.1 he).1;refine hkeep k hlt fun hc=>?_;rcases hreal k hc with h1 | ⟨mb,h1,h2⟩
  ·omega
  ·have:=(hs.mlt b mb k h1 h2).2; rw [hk'] at this; cases this
 have hother:∀ b2 mb rb,b2 ≠ b->M b2 = some mb->mb.real = some rb->w'.heap[rb]? = w.heap[rb]?:=by
  intro b2 mb rb hne h1 h2;refine hkeep rb (hs.mlt b2 mb rb h1 h2).1 fun hc=>?_;rcases hreal rb hc with h3 | ⟨mb3,h3,h4⟩
  ·have:=(hs.mlt b2 mb rb h1 h2).1; omega
  ·exact hne (hs.inj b2 b mb mb3 rb h1 h3 h2 h4)
 constructor
 ·refine ⟨fun k c hk=>?_,fun b2 k2 hk2=>?_,?_,?_⟩
  ·obtain ⟨ty,fz,he⟩:=hs.gw k c hk;exact ⟨ty,fz,by rw [hG k c hk]; exact he⟩
  ·by_cases hb:b2 = b
   ·subst hb; simp [lk] at hk2; subst hk2; exact hk
   ·simp only [lk,if_neg hb] at hk2;exact (hs.hb b2 k2 hk2).mono G.le_refl hle (qgq _ _ hb) (fun mb rb h1 h2=>hother b2 mb rb hb h1 h2)
  ·intro b1 b2 m1 m2 rb h1 h2 r1 r2;by_cases e1:b1 = b <;> by_cases e2:b2 = b
   ·rw [e1,e2]
   ·subst e1; rw [qaw] at h1; cases h1; rw [qgq _ _ e2] at h2;rcases hreal rb r1 with h3 | ⟨mb3,h3,h4⟩
    ·have:=(hs.mlt b2 m2 rb h2 r2).1; omega
    ·exact hs.inj _ _ _ _ _ h3 h2 h4 r2
   ·subst e2; rw [qaw] at h2; cases h2; rw [qgq _ _ e1] at h1;rcases hreal rb r2 with h3 | ⟨mb3,h3,h4⟩
    ·have:=(hs.mlt b1 m1 rb h1 r1).1; omega
    ·exact hs.inj _ _ _ _ _ h1 h3 r1 h4
   ·rw [qgq _ _ e1] at h1; rw [qgq _ _ e2] at h2; exact hs.inj _ _ _ _ _ h1 h2 r1 r2
  ·intro b1 m1 rb h1 r1;by_cases e1:b1 = b
   ·subst e1; rw [qaw] at h1; cases h1;rcases hreal rb r1 with h3 | ⟨mb3,h3,h4⟩
    ·refine ⟨h3.2,?_⟩
     cases hg:G rb with
     | none=>rfl
     | some c=>
      obtain ⟨ty,fz,he⟩:=hs.gw rb c hg;have:=(Array.getElem?_eq_some_iff.1 he).1; omega
    ·have:=hs.mlt _ mb3 rb h3 h4; exact ⟨by omega,this.2⟩
   ·rw [qgq _ _ e1] at h1; have:=hs.mlt _ m1 rb h1 r1; exact ⟨by omega,this.2⟩
 ·refine ⟨G.le_refl,fun _ _ h=>.inl h,hle,?_,hos,htape,hout,hsize,?_⟩
  ·rintro k ⟨b1,m1,h1,r1⟩;by_cases e1:b1 = b
   ·subst e1; rw [qaw] at h1; cases h1;rcases hreal k r1 with h3 | ⟨mb3,h3,h4⟩
    ·exact .inl h3.1
    ·exact .inr ⟨_,mb3,h3,h4⟩
   ·rw [qgq _ _ e1] at h1; exact .inr ⟨b1,m1,h1,r1⟩
  ·intro k hk ho;refine hkeep k hk fun hc=>?_;rcases hreal k hc with h3 | ⟨mb3,h3,h4⟩
   ·omega
   ·exact ho ⟨_,mb3,h3,h4⟩
theorem qeh (w:World) (g k:Nat) (cs:Array Value) (h:k ≠ g):(w.setRow g cs).heap[k]? = w.heap[k]?:=by
 simp only [World.setRow,Array.getElem?_modify];rw [if_neg (by omega)]
theorem qg2 (w:World) (g:Nat) (cs:Array Value):(w.setRow g cs).heap.size = w.heap.size:=by simp [World.setRow]
theorem Sim.alloc {G:qaz} {M:qar} {h:Hp} {w:World} (hs:Sim G M h w) (b:Nat) (arr:Array Value) (ty:TypeId) (sz room:Nat) (es:List V)
  (h1:room * sz≤arr.size) (h2:es.length≤room) (h3:∀ i,i < es.length->(es.getD i .undef).cells.length = sz)
  (h4:∀ i j,i < es.length->j < sz->qak G M ((es.getD i .undef).cells.getD j .undef) (arr.getD (i * sz + j) undef)/\(arr.getD (i * sz + j) undef).oneCell' = true) :
  Sim G (upd M b ⟨qaa M b,sz,room,0,some w.heap.size⟩) ((b,.row (qaa M b) sz es) :: h) (w.alloc (.cells arr ty))/\
  Ext G M w G (upd M b ⟨qaa M b,sz,room,0,some w.heap.size⟩) (w.alloc (.cells arr ty)):=by
 have hgen:∀ mb,M b = some mb->mb.gen < (⟨qaa M b,sz,room,0,some w.heap.size⟩:MB).gen∨(⟨qaa M b,sz,room,0,some w.heap.size⟩:MB) = mb:=by
  intro mb hb; left; simp [qaa,hb]
 refine hs.change b _ _ hgen ?_ (by simp) ?_ (fun _ _ _ _=>trivial) rfl rfl rfl ?_
 ·intro rb hrb; left; cases hrb; simp
 ·intro k hk _;show (w.heap.push _)[k]? = _;rw [Array.getElem?_push,if_neg (by omega)]
 ·refine ⟨_,qaw _ _ _,rfl,rfl,?_⟩;simp only [qbo];refine ⟨arr,ty,?_,by simpa using h1,h2,h3,fun i j hi hj=>?_⟩
  ·show (w.heap.push _)[_]? = _;simp
  ·have:=h4 i j hi hj;rw [Nat.zero_add];exact ⟨this.1.mono G.le_refl (jip hgen),this.2⟩
theorem qbq (l:List Value) (i:Nat):(l.toArray).getD i undef = l.getD i undef:=by
 simp [jke,jkd]
theorem qgt {w:World} {k:Nat} {c:Array Value} {ty:TypeId} {fz:Nat × Nat} (h:w.heap[k]? = some (.cells c ty fz)) (o:Nat) (ho:o < c.size):w.cell? ⟨k,o,none⟩ = some (c.getD o undef):=by
 simp [World.cell?,h,jke,ho]
def qpj (G:qaz) (M:qar) (w:World) (x:V) (off:Nat) (r:Value):Prop:=
 ∃ rb o,r = .pointer (some ⟨rb,o + off,none⟩)/\∀ j,j < x.cells.length->∃ u,w.cell? ⟨rb,o + j,none⟩ = some u/\qak G M (x.cells.getD j .undef) u/\u.oneCell' = true
theorem qou {G:qaz} {M:qar} {h:Hp} {w:World} (hs:Sim G M h w) {x:V} {off:Nat} {r:Value} (hr:qak G M (.iptr x off) r):qpj G M w x off r:=by
 cases hr with
 | iptr _ _ rb ro cells hG hb hh ho=>
  obtain ⟨ty,fz,he⟩:=hs.gw rb cells hG;exact ⟨rb,ro,rfl,fun j hj=>⟨_,qgt he (ro + j) (by omega),hh j hj,ho j hj⟩⟩
theorem qqd {G:qaz} {M:qar} {h:Hp} {w:World} (hs:Sim G M h w) {b g i off:Nat} {r:Value} {sz:Nat} {es:List V}
  (hr:qak G M (.ptr b g i off) r) (hb:lk h b = some (.row g sz es)) (_hi:i < es.length) :
  ∃ mb rb arr ty,M b = some mb/\mb.gen = g/\mb.sz = sz/\mb.real = some rb/\r = .pointer (some ⟨rb,mb.base + i * sz + off,none⟩)/\w.heap[rb]? = some (.cells arr ty (0,0))/\
   mb.base + mb.room * sz≤arr.size/\es.length≤mb.room/\(∀ i,i < es.length->(es.getD i .undef).cells.length = sz)/\
   ∀ i j,i < es.length->j < sz->qak G M ((es.getD i .undef).cells.getD j .undef) (arr.getD (mb.base + i * sz + j) undef)/\(arr.getD (mb.base + i * sz + j) undef).oneCell' = true:=by
 obtain ⟨mb,h1,h2,h3,h4⟩:=hs.hb b _ hb
 cases hr with
 | ptr _ _ _ _ ad mb' hM hg hh=>
  rw [h1] at hM; cases hM;obtain ⟨rb,hr1,rfl⟩:=hh h2.symm;simp only [qbo,hr1] at h4;obtain ⟨arr,ty,q1,q2,q3,q4,q5⟩:=h4;subst h3;exact ⟨mb,rb,arr,ty,h1,h2,rfl,hr1,rfl,q1,q2,q3,q4,q5⟩
theorem qbb {i sz len room:Nat} (hi:i < len) (hl:len≤room):i * sz + sz≤room * sz:=by
 have:(i + 1) * sz≤room * sz:=Nat.mul_le_mul_right _ (by omega);rw [Nat.add_mul] at this; omega
theorem qkb {G:qaz} {M:qar} {h:Hp} {w:World} (hs:Sim G M h w) {b g i off:Nat} {r:Value} {sz:Nat} {es:List V}
  (hr:qak G M (.ptr b g i off) r) (hb:lk h b = some (.row g sz es)) (hi:i < es.length):qpj G M w (es.getD i .undef) off r:=by
 obtain ⟨mb,rb,arr,ty,h1,h2,h3,h4,h5,h6,h7,h8,h9,h10⟩:=qqd hs hr hb hi;refine ⟨rb,mb.base + i * sz,h5,fun j hj=>?_⟩;rw [h9 i hi] at hj;have:=qbb (sz:=sz) hi h8;exact ⟨_,qgt h6 (mb.base + i * sz + j) (by omega),h10 i j hi hj⟩
theorem qwg {P:Program} {w:World} {t:TypeId} {d:TypeDesc} (h:P.underlying t = some d) :
  (isAgg t).run P w = .ok (qob d) w:=by
 simp only [isAgg,underlying,Sem.run_bind,run_program,Result.andThen_ok,h,Sem.run_pure];cases d <;> rfl
theorem qbd {P:Program} {t:TypeId} {ag:Bool} {n by_:Nat} (h:qcg P t = some (ag,n,by_)) :
  (∀ w,(isAgg t).run P w = .ok ag w)/\(∀ w,(sizeOf t).run P w = .ok n w)/\(∀ w,∃ i,(typeInfo t).run P w = .ok i w/\i.bytes = by_/\i.size = n/\P.info? t = some i):=by
 unfold qcg at h;split at h
 ·rename_i d i hd hi;simp only [Option.some.injEq,Prod.mk.injEq] at h;obtain ⟨rfl,rfl,rfl⟩:=h;refine ⟨fun w=>by rw [qwg hd],fun w=>by simp [sizeOf,typeInfo,hi],fun w=>⟨i,by simp [typeInfo,hi],rfl,rfl,hi⟩⟩
 ·cases h
theorem qdj {P:Program} {G:qaz} {M:qar} {w:World} {t:TypeId} {ag:Bool} {n by_:Nat} (ht:qcg P t = some (ag,n,by_)) {x:V} {off:Nat} {r:Value}
  (hp:qpj G M w x off r) (hv:jiv ag off n x):∃ rv,(Instr.loadAt t r).run P w = .ok rv w/\qak G M (jif ag off n x) rv:=by
 obtain ⟨hag,hsz,-⟩:=qbd ht;obtain ⟨rb,o,rfl,hc⟩:=hp
 cases ag with
 | true=>
  have hle:off + n≤x.cells.length:=hv
  have hcell:∀ j,j < n->w.cell? ((⟨rb,o + off,none⟩:Addr).add j) = some ((w.cell? ⟨rb,o + (off + j),none⟩).getD undef):=by
   intro j hj;obtain ⟨u,hu,-⟩:=hc (off + j) (by omega);rw [Addr.add_lit,show o + off + j = o + (off + j) from by omega,hu]; rfl
  have hrun:=run_loadCells (P:=P) w ⟨rb,o + off,none⟩ n (fun j=>(w.cell? ⟨rb,o + (off + j),none⟩).getD undef) hcell;refine ⟨_,by simp only [Instr.loadAt,Instr.sureAddr,loadVar,Sem.run_bind,Sem.run_pure,Result.andThen_ok,hag,hsz,if_true,hrun]; rfl,?_⟩;refine .agg _ _ (by simp; omega) (fun i hi=>?_) (fun i hi=>?_)
  all_goals
   have hi':i < n:=by simp at hi; omega
   obtain ⟨u,hu,hru,hou⟩:=hc (off + i) (by omega);simp only [qbq,jkd,List.getElem?_map,List.getElem?_range hi',Option.map_some,Option.getD_some,hu]
  ·simp only [List.getElem?_take,if_pos hi',List.getElem?_drop];rw [jkd] at hru; exact hru
  ·exact hou
 | false=>
  have hlt:off < x.cells.length:=hv;obtain ⟨u,hu,hru,hou⟩:=hc off hlt;exact ⟨u,by simp [Instr.loadAt,Instr.sureAddr,loadVar,hag,hu],hru⟩
end
section
open Go
def qcq (G:qaz) (M:qar) (l:List V) (arr:Array Value):Prop:=
 arr.size = l.length/\∀ i,i < l.length->qak G M (l.getD i .undef) (arr.getD i undef)/\(arr.getD i undef).oneCell' = true
def qfn (h:Hp) (id:Nat) (K:V->Hp->Prop) (G:qaz) (M:qar) (w:World) (o:Oper) (a:Act):Act->World->Prop:=fun a' w'=>
 ∃ v h' rv G' M',K v h'/\a' = a.put o.dst rv/\qak G' M' v rv/\Sim G' M' h' w'/\Ext G M w G' M' w'/\∀ b,b ≠ id->lk h b = none->qaa M' b = qaa M b
def qan (K:V->Hp->Prop) (G:qaz) (M:qar) (w:World) (o:Oper) (a:Act) (h:Hp):Act->World->Prop:=fun a' w'=>
 ∃ v rv,K v h/\a' = a.put o.dst rv/\qak G M v rv/\w' = w
section
variable {P:Program} {gl:Fr} {bs:BS} {n:Nat} {fr:Fr} {h:Hp} {G:qaz} {M:qar} {a:Act} {w:World}
theorem qat (hr:R bs n gl G M fr h a w) {x:Operand} {v:V} (hx:ev gl fr (co x) = some v):qak G M v (a.eval x):=by
 cases x with
 | tmp t=>exact hr.frr t v hx
 | const c=>simp only [co,ev,Option.some.injEq] at hx; subst hx; exact qjj G M c
 | global g=>exact ((hr.gl g v hx).2.1).mono G.le_refl (fun _ _ h=>by cases h)
 | func f=>
  simp only [co,ev,Option.some.injEq] at hx; subst hx;exact .fn f [] [] #[] #[] rfl rfl (fun i hi=>by cases hi) (fun i hi=>by cases hi)
theorem qd5 (hr:R bs n gl G M fr h a w) {x:Operand} {v:V} (hx:evN gl fr (co x) = some v):qak G M v (a.eval x):=by
 unfold evN at hx
 cases hv:ev gl fr (co x) with
 | none=>rw [hv] at hx; cases hx
 | some u=>rw [hv] at hx; cases hx; exact (qat hr hv).norm
theorem qb0 {id:Nat} {o:Oper} {Q:Exit->Act->World->Prop} {K:V->Hp->Prop} {rv:Value} {v:V} {w':World} {h':Hp} {G':qaz} {M':qar}
  (hrun:(execOp a.eval o).run P w = .ok (.value rv) w') (hK:K v h') (hv:qak G' M' v rv) (hs:Sim G' M' h' w') (hx:Ext G M w G' M' w') (hf:∀ b,b ≠ id->lk h b = none->qaa M' b = qaa M b):o.wp P a w (qfn h id K G M w o a) Q:=by
 unfold Oper.wp;rw [hrun];exact ⟨v,h',rv,G',M',hK,rfl,hv,hs,hx,hf⟩
theorem qai (_hr:R bs n gl G M fr h a w) {o:Oper} {Q:Exit->Act->World->Prop} {K:V->Hp->Prop} {rv:Value} {v:V}
  (hrun:(execOp a.eval o).run P w = .ok (.value rv) w) (hK:K v h) (hv:qak G M v rv):o.wp P a w (qan K G M w o a h) Q:=by
 unfold Oper.wp;rw [hrun];exact ⟨v,rv,hK,rfl,hv,rfl⟩
theorem q26 (hr:R bs n gl G M fr h a w) {id:Nat} {o:Oper} {Q:Exit->Act->World->Prop} {K:V->Hp->Prop} (hp:o.wp P a w (qan K G M w o a h) Q):o.wp P a w (qfn h id K G M w o a) Q:=
 Oper.wp_mono (fun _ _ ⟨v,rv,h1,h2,h3,h4⟩=>⟨v,h,rv,G,M,h1,h2,h3,h4 ▸ hr.sim,h4 ▸ .refl _ _ _,fun _ _ _=>rfl⟩) hp
theorem qmo {id:Nat} {o:Oper} {Q:Exit->Act->World->Prop} {K:V->Hp->Prop} {w':World} {h':Hp} {G':qaz} {M':qar}
  (hrun:(execOp a.eval o).run P w = .ok .skip w') (hK:K .undef h') (hs:Sim G' M' h' w') (hx:Ext G M w G' M' w') (hf:∀ b,b ≠ id->lk h b = none->qaa M' b = qaa M b):o.wp P a w (qfn h id K G M w o a) Q:=by
 unfold Oper.wp;rw [hrun];exact ⟨_,h',undef,G',M',hK,rfl,.undef _,hs,hx,hf⟩
theorem qaj {k:IntKind} {x:Int} {r:Value} (h:qak G M (.int k x) r):r = .int k x:=by cases h; rfl
theorem qbk {b:Bool} {r:Value} (h:qak G M (.bool b) r):r = .bool b:=by cases h; rfl
theorem qa7 {s:List UInt8} {r:Value} (h:qak G M (.str s) r):r = .string ⟨s.toArray⟩:=by cases h; rfl
theorem qec {cs:List V} {r:Value} (h:qak G M (.agg cs) r):∃ arr,r = .agg arr/\qcq G M cs arr:=by
 cases h with
 | agg _ arr hs hh ho=>exact ⟨arr,rfl,hs,fun i hi=>⟨hh i hi,ho i hi⟩⟩
theorem qji {cs:List V} {arr:Array Value} (h:qcq G M cs arr):qak G M (.agg cs) (.agg arr):=.agg _ _ h.1 (fun i hi=>(h.2 i hi).1) (fun i hi=>(h.2 i hi).2)
theorem qr1 {t:TypeId} {ag:Bool} {m by_:Nat} (ht:qcg P t = some (ag,m,by_)) {cs:List V} {arr:Array Value} (hc:qcq G M cs arr) {off:Nat}
  (hv:jiv ag off m (.agg cs)):∃ rv,(part t arr off).run P w = .ok rv w/\qak G M (jif ag off m (.agg cs)) rv:=by
 obtain ⟨hag,hsz,-⟩:=qbd ht
 cases ag with
 | true=>
  have hle:off + m≤cs.length:=hv;refine ⟨.agg (arr.extract off (off + m)),by simp [part,hag,hsz],qji ⟨by simp [hc.1,V.cells]; omega,fun i hi=>?_⟩⟩;have hi':i < m:=by simp at hi; omega
  have:=hc.2 (off + i) (by omega)
  have e1:(arr.extract off (off + m)).getD i undef = arr.getD (off + i) undef:=by
   simp only [jke,Array.getElem?_extract];rw [if_pos (by have:=hc.1; omega)]
  have e2:(((V.agg cs).cells.drop off).take m).getD i .undef = cs.getD (off + i) .undef:=by
   simp only [V.cells,jkd,List.getElem?_take,if_pos hi',List.getElem?_drop]
  rw [e1,e2]; exact this
 | false=>
  have hlt:off < cs.length:=hv;have:=hc.2 off hlt;have hlt':off < arr.size:=by have:=hc.1; omega
  refine ⟨arr.getD off undef,?_,this.1⟩;simp [part,hag,hlt',jke]
theorem qr4 (hr:R bs n gl G M fr h a w) {o:Oper} {x:Operand} {Q:Exit->Act->World->Prop} {K:V->Hp->Prop} (ho:o.op = .move x∨o.op = .assign x) {id:Nat}
  (hi:qa8 P gl id fr h K (.mv (co x))):o.wp P a w (qan K G M w o a h) Q:=by
 simp only [qa8] at hi;split at hi
 ·rename_i v hv;refine qai hr (rv:=a.eval x) ?_ hi (qat hr hv);rcases ho with ho | ho <;> simp [execOp,ho]
 ·exact hi.elim
theorem qtn (hr:R bs n gl G M fr h a w) {o:Oper} {c x y:Operand} {Q:Exit->Act->World->Prop} {K:V->Hp->Prop} (ho:o.op = .pick c x y) {id:Nat}
  (hi:qa8 P gl id fr h K (.pick (co c) (co x) (co y))):o.wp P a w (qan K G M w o a h) Q:=by
 simp only [qa8] at hi;split at hi
 ·rename_i t ht;have hc:=qbk (qat hr ht)
  cases t with
  | true=>
   have h1:=hi.1 rfl;split at h1
   ·rename_i v hv;exact qai hr (rv:=a.eval x) (by simp [execOp,ho,hc,asBool]) h1 (qat hr hv)
   ·exact h1.elim
  | false=>
   have h1:=hi.2 rfl;split at h1
   ·rename_i v hv;exact qai hr (rv:=a.eval y) (by simp [execOp,ho,hc,asBool]) h1 (qat hr hv)
   ·exact h1.elim
 ·exact hi.elim
def qpk (G:qaz) (M:qar) (w:World) (dst:Option Nat) (a:Act) (id:Nat) (v:V) (b:Option Blk):Act->World->Prop:=fun a' w'=>
 ∃ rv G' M',a' = a.put dst rv/\qak G' M' v rv/\(∀ h,Sim G M h w->Sim G' M' (match b with | some k=>(id,k) :: h | none=>h) w')/\Ext G M w G' M' w'/\∀ i,i ≠ id∨b = none->qaa M' i = qaa M i
theorem qax (M:qar) (b i:Nat) (mb:MB) (h:i ≠ b):qaa (upd M b mb) i = qaa M i:=by
 simp [qaa,qgq _ _ h]
theorem q17 {o:Oper} {Q:Exit->Act->World->Prop} {rv:Value} {v:V} {w':World} {G':qaz} {M':qar} {id:Nat} {b:Option Blk}
  (hrun:(execOp a.eval o).run P w = .ok (.value rv) w') (hv:qak G' M' v rv) (hs:∀ h,Sim G M h w->Sim G' M' (match b with | some k=>(id,k) :: h | none=>h) w') (hx:Ext G M w G' M' w')
  (hf:∀ i,i ≠ id∨b = none->qaa M' i = qaa M i):o.wp P a w (qpk G M w o.dst a id v b) Q:=by
 unfold Oper.wp;rw [hrun];exact ⟨rv,G',M',rfl,hv,hs,hx,hf⟩
theorem jbd (hr:R bs n gl G M fr h a w) {o:Oper} {Q:Exit->Act->World->Prop} {K:V->Hp->Prop} {id:Nat} {v:V} {k:Blk} (hp:o.wp P a w (qpk G M w o.dst a id v (some k)) Q) (hK:K v ((id,k) :: h)):o.wp P a w (qfn h id K G M w o a) Q:=
 Oper.wp_mono (fun _ _ ⟨rv,G',M',h1,h2,h3,h4,h5⟩=>⟨v,_,rv,G',M',hK,h1,h2,h3 h hr.sim,h4,fun b hb _=>h5 b (.inl hb)⟩) hp
theorem qk6 {x:V} {r:Value} (hx:qak G M x r) (hc:x.cellsOk = true):r.cells.size = x.cells.length/\
  ∀ i j,i < 1->j < x.cells.length->qak G M (([x].getD i .undef).cells.getD j .undef) (r.cells.getD (i * x.cells.length + j) undef)/\(r.cells.getD (i * x.cells.length + j) undef).oneCell' = true:=by
 obtain ⟨h1,h2⟩:=hx.cells hc;refine ⟨h1,fun i j hi hj=>?_⟩;obtain rfl:i = 0:=by omega
 rw [Nat.zero_mul,Nat.zero_add]; exact h2 j hj
theorem q84 {o:Oper} {t:TypeId} {x:V} {r:Value} (hs:Sim G M h w) (hx:qak G M x r) (hc:x.cellsOk = true) (id:Nat)
  (hrun:∀ ad w',(newVar t r).run P w = .ok ad w'->(execOp a.eval o).run P w = .ok (.value (.pointer (some ad))) w') {Q:Exit->Act->World->Prop} :
  o.wp P a w (qpk G M w o.dst a id (.ptr id (qaa M id) 0 0) (some (.row (qaa M id) x.cells.length [x]))) Q:=by
 obtain ⟨h1,h2⟩:=qk6 hx hc;have al:∀ h,Sim G M h w->_:=fun h (hs:Sim G M h w)=>hs.alloc id r.cells t x.cells.length 1 [x] (by omega) (by simp) (by simp) (by simpa using h2);refine q17 (hrun ⟨w.heap.size,0,none⟩ (w.alloc (.cells r.cells t)) (by simp [newVar,newRow])) ?_ (fun h hs=>(al h hs).1) (al h hs).2 (fun i hi=>qax _ _ _ _ (by rcases hi with hi | hi <;> first | exact hi | cases hi));exact .ptr _ _ _ _ _ _ (qaw _ _ _) (jki _) fun _=>⟨w.heap.size,rfl,by simp⟩
theorem jhr (hr:R bs n gl G M fr h a w) {o:Oper} {t:TypeId} {x:Operand} {Q:Exit->Act->World->Prop} (ho:o.op = .box t x) {id:Nat} {v:V} (hv:ev gl fr (co x) = some v) (hc:v.cellsOk = true) :
  o.wp P a w (qpk G M w o.dst a id (.ptr id (qaa M id) 0 0) (some (.row (qaa M id) v.cells.length [v]))) Q:=
 q84 (t:=t) hr.sim (qat hr hv) hc id (fun ad w' hn=>by simp [execOp,ho,Instr.box,hn])
theorem qr8 (l:List Value):qzx l = l.map vOf:=by
 induction l with
 | nil=>rfl
 | cons a r ih=>simp [qzx,ih]
theorem qw2 (z:Value):(vOf z).cells = [vOf z]:=by
 unfold vOf; split <;> rfl
theorem qiv {z:Value} (hz:∀ arr,z ≠ .agg arr):qfh z = vOf z:=by
 cases z <;> first
  | rfl
  | exact absurd rfl (hz _)
theorem qtq (z:Value):(qfh z).cells = z.cells.toList.map vOf:=by
 by_cases ha:∃ arr,z = .agg arr
 ·obtain ⟨arr,rfl⟩:=ha;simp [qfh,V.cells,Value.cells,qr8]
 ·rw [qiv (fun arr e=>ha ⟨arr,e⟩),qw2];have:z.cells = #[z]:=by cases z <;> first | rfl | exact absurd ⟨_,rfl⟩ ha
  rw [this]; rfl
theorem qkf (G:qaz) (M:qar) {z:Value} (hz:z.cells.all (·.oneCell') = true):qak G M (qfh z) z:=by
 by_cases ha:∃ arr,z = .agg arr
 ·obtain ⟨arr,rfl⟩:=ha;simp only [qfh,qr8];refine qji ⟨by simp,fun i hi=>?_⟩;have hi':i < arr.size:=by simpa using hi
  have e1:(arr.toList.map vOf).getD i .undef = vOf (arr.getD i undef):=by
   simp [jkd,jke,hi']
  rw [e1];refine ⟨qjj _ _ _,?_⟩;simp only [Value.cells,Array.all_eq_true] at hz;simpa [jke,hi'] using hz i hi'
 ·rw [qiv (fun arr e=>ha ⟨arr,e⟩)]; exact qjj _ _ _
theorem qbz {t:TypeId} {z:Value} (hz:qb6 P t = some z):(∀ w,(zeroValue t).run P w = .ok z w)/\z.cells.all (·.oneCell') = true/\(∃ i,P.info? t = some i/\z.cells.size = i.size):=by
 unfold qb6 at hz;split at hz
 ·rename_i i hi;split at hz
  ·rename_i z' hz';split at hz
   ·rename_i hc;cases hz;simp only [Bool.and_eq_true,beq_iff_eq] at hc;exact ⟨fun w=>by simp [zeroValue,typeInfo,hi,hz'],hc.1,i,hi,hc.2⟩
   ·cases hz
  ·cases hz
 ·cases hz
theorem q28 (hr:R bs n gl G M fr h a w) {o:Oper} {t:TypeId} {z:Value} {Q:Exit->Act->World->Prop} (ho:o.op = .alloc t) (hz:qb6 P t = some z) {id:Nat} (hc:(qfh z).cellsOk = true) :
  o.wp P a w (qpk G M w o.dst a id (.ptr id (qaa M id) 0 0) (some (.row (qaa M id) (qfh z).cells.length [qfh z]))) Q:=by
 obtain ⟨h1,h2,-⟩:=qbz hz;exact q84 (t:=t) hr.sim (qkf G M h2) hc id (fun ad w' hn=>by simp [execOp,ho,Instr.alloc,h1,hn])
theorem qtl (hr:R bs n gl G M fr h a w) {o:Oper} {t:TypeId} {x:Operand} {ty:Bool × Nat × Nat} {Q:Exit->Act->World->Prop} {K:V->Hp->Prop} (ho:o.op = .load t x) (ht:qcg P t = some ty) {id:Nat}
  (hi:qa8 P gl id fr h K (.load ty.1 ty.2.1 (co x))):o.wp P a w (qan K G M w o a h) Q:=by
 simp only [qa8] at hi;split at hi
 ·rename_i y off hy;obtain ⟨rv,h1,h2⟩:=qdj (by rw [ht]) (qou hr.sim (qat hr hy)) hi.1;exact qai hr (by simp [execOp,ho,h1]) hi.2 h2
 ·rename_i b g i off hy;split at hi
  ·rename_i g' sz es hb;obtain ⟨rfl,hlt,hv,hi⟩:=hi;obtain ⟨rv,h1,h2⟩:=qdj (by rw [ht]) (qkb hr.sim (qat hr hy) hb hlt) hv;exact qai hr (by simp [execOp,ho,h1]) hi h2
  ·exact hi.elim
 ·exact hi.elim
theorem qf3 (hr:R bs n gl G M fr h a w) {o:Oper} {op:BinOp} {t yt:TypeId} {x y:Operand} {Q:Exit->Act->World->Prop} {K:V->Hp->Prop} (ho:o.op = .binOp op t x y yt) {id:Nat}
    (hi:qa8 P gl id fr h K (.bin op (co x) (co y))):o.wp P a w (qan K G M w o a h) Q:=by
  simp only [qa8] at hi;split at hi
  · rename_i va vb hx hy;have rx:=qat hr hx;have ry:=qat hr hy;unfold q9l at hi;split at hi
    · rename_i k p k' q;have ex:=qaj rx;have ey:=qaj ry
      cases op <;> simp only [] at hi <;> first
        | exact hi.elim
        | (obtain ⟨rfl,hi⟩:=hi
           refine qai hr ?_ hi (.int _ _);simp [execOp,ho,ex,ey,binOp,Op.intArith,eqGuard]
           done)
        | (obtain ⟨rfl,hi⟩:=hi
           refine qai hr ?_ hi (.bool _);simp [execOp,ho,ex,ey,binOp,Op.intCmp,eqGuard]
           try (first | rfl | (rw [Bool.eq_iff_iff]; simp))
           done)
        | (obtain ⟨rfl,hi⟩:=hi
           refine qai hr ?_ hi (.int _ _);simp [execOp,ho,ex,ey,binOp,Op.intBits,eqGuard,qiz]
           done)
        | (obtain ⟨rfl,hne,hi⟩:=hi
           refine qai hr ?_ hi (.int _ _);simp [execOp,ho,ex,ey,binOp,Op.intDiv,eqGuard,hne]
           done)
        | (obtain ⟨hne,hi⟩:=hi
           refine qai hr ?_ hi (.int _ _);simp [execOp,ho,ex,ey,binOp,Op.shift,eqGuard];omega)
    · rename_i p q;have ex:=qa7 rx;have ey:=qa7 ry
      cases op <;> simp only [] at hi <;> first
        | exact hi.elim
        | skip
      · obtain ⟨hlen,hi⟩:=hi;refine qai hr (rv:=.string ⟨(p ++ q).toArray⟩) ?_ hi (.str _);simp only [execOp,ho,ex,ey,binOp,Op.stringOp,eqGuard]
        have hsz:¬ (((⟨p.toArray⟩:ByteArray).size + (⟨q.toArray⟩:ByteArray).size:Nat):Int) > IntKind.i64.max:=by
          simp only [ByteArray.size,List.size_toArray];have:IntKind.i64.max = 9223372036854775807:=by decide
          rw [this]; omega
        have hap:(⟨p.toArray⟩:ByteArray) ++ (⟨q.toArray⟩:ByteArray) = ⟨(p ++ q).toArray⟩:=by
          apply ByteArray.ext; simp
        rw [if_neg hsz,hap];simp
      all_goals
        refine qai hr ?_ hi (.bool _);simp [execOp,ho,ex,ey,binOp,Op.stringOp,eqGuard,ByteArray.toList_mk]
        try (rw [Bool.eq_iff_iff]; simp)
    · exact hi.elim
  · exact hi.elim
end
end
section
open Go
theorem qff (cur:List Value) (off:Nat) (vs:List Value) (i:Nat) (h:off + vs.length≤cur.length) :
  (cur.take off ++ vs ++ cur.drop (off + vs.length)).getD i undef = if off≤i/\i < off + vs.length then vs.getD (i - off) undef else cur.getD i undef:=by
 simp only [jkd,List.getElem?_append,List.length_append,List.length_take,List.getElem?_take,List.getElem?_drop];have hm:min off cur.length = off:=by omega
 rw [hm];by_cases h1:i < off
 ·have:¬ (off≤i/\i < off + vs.length):=by omega
  rw [if_pos (by omega),if_pos h1,if_pos h1,if_neg this]
 ·by_cases h2:i < off + vs.length
  ·rw [if_pos (by omega),if_neg h1,if_pos (by omega)]
  ·have:¬ (off≤i/\i < off + vs.length):=by omega
   rw [if_neg (by omega),if_neg this];congr 2;omega
theorem qit (cur:List V) (off:Nat) (vs:List V) (i:Nat) (h:off + vs.length≤cur.length) :
  (cur.take off ++ vs ++ cur.drop (off + vs.length)).getD i .undef = if off≤i/\i < off + vs.length then vs.getD (i - off) .undef else cur.getD i .undef:=by
 simp only [jkd,List.getElem?_append,List.length_append,List.length_take,List.getElem?_take,List.getElem?_drop];have hm:min off cur.length = off:=by omega
 rw [hm];by_cases h1:i < off
 ·have:¬ (off≤i/\i < off + vs.length):=by omega
  rw [if_pos (by omega),if_pos h1,if_pos h1,if_neg this]
 ·by_cases h2:i < off + vs.length
  ·rw [if_pos (by omega),if_neg h1,if_pos (by omega)]
  ·have:¬ (off≤i/\i < off + vs.length):=by omega
   rw [if_neg (by omega),if_neg this];congr 2;omega
section
variable {P:Program} {gl:Fr} {bs:BS} {n:Nat} {fr:Fr} {h:Hp} {G:qaz} {M:qar} {a:Act} {w:World}
theorem jjk {off m:Nat} {v x:V} (h:ji6 off m v x):(jii off m v x).cells = x.cells.take off ++ v.cells ++ x.cells.drop (off + m):=by
 obtain ⟨h1,h2,h3⟩:=h;unfold jii;split
 ·rfl
 ·rename_i hx;have hx':x.cells = [x]:=by cases x <;> first | rfl | exact absurd rfl (hx _)
  have h3':off = 0/\m = 1/\x.isCell = true/\v.isCell = true:=by
   revert h3; cases x <;> first | exact id | exact absurd rfl (hx _)
  obtain ⟨rfl,rfl,-,-⟩:=h3';simp [hx']
theorem jjw {off m:Nat} {v x:V} (h:ji6 off m v x):off + m≤x.cells.length:=by
 obtain ⟨h1,h2,h3⟩:=h
 cases x <;> first
  | exact h3
  | (obtain ⟨rfl,rfl,-,-⟩:=h3; simp [V.cells])
theorem qhj {es:List V} {i k:Nat} {e:V} (hi:i < es.length):(es.set i e).getD k .undef = if k = i then e else es.getD k .undef:=by
 simp only [jkd,List.getElem?_set];by_cases hk:i = k
 ·subst hk; simp [hi]
 ·rw [if_neg hk,if_neg (fun e=>hk e.symm)]
theorem q86 {i k sz j l:Nat} (hne:k ≠ i) (hj:j < sz) (hl:l < sz):k * sz + j ≠ i * sz + l:=by
 intro e;rcases Nat.lt_or_gt_of_ne hne with h | h
 ·have:=Nat.mul_le_mul_right sz (show k + 1≤i by omega); rw [Nat.add_mul] at this; omega
 ·have:=Nat.mul_le_mul_right sz (show i + 1≤k by omega); rw [Nat.add_mul] at this; omega
theorem qk4 {r:Value} {v:V} (hv:qak G M v r) (hc:v.cellsOk = true):∀ u ∈ r.cells.toList,u.oneCell' = true:=by
 obtain ⟨h1,h2⟩:=hv.cells hc;intro u hu;obtain ⟨i,hi,rfl⟩:=List.mem_iff_getElem.1 hu;have hi':i < r.cells.size:=by simpa using hi
 have:=(h2 i (by omega)).2;simpa [jke,hi'] using this
theorem qqr (hr:R bs n gl G M fr h a w) {o:Oper} {t:TypeId} {x y:Operand} {ty:Bool × Nat × Nat} {Q:Exit->Act->World->Prop} {K:V->Hp->Prop} (ho:o.op = .store t x y) (ht:qcg P t = some ty) {id:Nat}
  (hi:qa8 P gl id fr h K (.store ty.2.1 (co x) (co y))):o.wp P a w (qfn h id K G M w o a) Q:=by
 simp only [qa8] at hi;split at hi
 ·rename_i b g i off v hx hy;split at hi
  ·rename_i g' sz es hb;obtain ⟨rfl,hlt,hput,hi⟩:=hi;have ry:=qat hr hy;obtain ⟨mb,rb,arr,ty',h1,h2,h3,h4,h5,h6,h7,h8,h9,h10⟩:=qqd hr.sim (qat hr hx) hb hlt;obtain ⟨c1,c2⟩:=ry.cells hput.2.1;have hle:=jjw hput;rw [h9 i hlt] at hle;have hvl:v.cells.length = ty.2.1:=hput.1;have heb:=qbb (sz:=sz) hlt h8;obtain ⟨-,hsz,-⟩:=qbd (P:=P) (t:=t) (ag:=ty.1) (n:=ty.2.1) (by_:=ty.2.2) (by rw [ht]);have hlen:(a.eval y).cells.toList.length = ty.2.1:=by simp; omega
   have hst:=run_storeCells_at P rb (mb.base + i * sz + off) ty' (a.eval y).cells.toList 0 arr w h6 (by omega) (qk4 ry hput.2.1);simp only [Nat.add_zero] at hst
   have hrun:(execOp a.eval o).run P w = .ok .skip (w.setRow rb (arr.toList.take (mb.base + i * sz + off) ++ (a.eval y).cells.toList ++ arr.toList.drop (mb.base + i * sz + off + (a.eval y).cells.toList.length)).toArray):=by
    have hne:¬ (a.eval y).cells.size ≠ ty.2.1:=by omega
    simp only [execOp,ho,Instr.storeAt,h5,Instr.sureAddr,storeVar,Sem.run_bind,Sem.run_pure,Result.andThen_ok,hsz];rw [if_neg hne];simp [hst]
   have hkey:=hr.sim.change (w':=w.setRow rb (arr.toList.take (mb.base + i * sz + off) ++ (a.eval y).cells.toList ++ arr.toList.drop (mb.base + i * sz + off + (a.eval y).cells.toList.length)).toArray)
    b mb (.row g' sz (es.set i (jii off ty.2.1 v (es.getD i .undef)))) (fun m hm=>.inr (by rw [h1] at hm; cases hm; rfl)) (fun r hr'=>.inr ⟨mb,h1,hr'⟩)
    (by rw [qg2]; exact jki _) (fun k _ hk=>qeh _ _ _ _ (fun e=>hk (by rw [h4,e]))) (fun _ _ _ _=>trivial) rfl rfl rfl ?_
   ·exact qmo hrun hi hkey.1 hkey.2 (fun b' hb' h0=>by
     by_cases e:b' = b
     ·subst e; rw [hb] at h0; cases h0
     ·exact qax _ _ _ _ e)
   ·refine ⟨mb,qaw _ _ _,h2,h3,?_⟩;have hle2:M.le (upd M b mb):=jip fun m hm=>.inr (by rw [h1] at hm; cases hm; rfl);simp only [qbo,h4];refine ⟨_,ty',setRow_heap w rb arr _ ty' (0,0) h6,?_,by simpa using h8,?_,?_⟩
    ·rw [h3]; simp; omega
    ·intro k hk;rw [qhj hlt,h3];split
     ·rw [jjk hput];have:=h9 i hlt;simp only [List.length_append,List.length_take,List.length_drop];omega
     ·exact h9 k (by simpa using hk)
    ·intro k j hk hj;rw [h3] at hj ⊢;have hk':k < es.length:=by simpa using hk
     rw [qbq,qff _ _ _ _ (by rw [hlen]; simp; omega),qhj hlt,hlen];by_cases hki:k = i
     ·subst hki;rw [if_pos rfl,jjk hput,<- hvl,qit _ _ _ _ (by rw [h9 k hlt,hvl]; exact hle)];by_cases hin:off≤j/\j < off + v.cells.length
      ·rw [if_pos hin,if_pos (by omega)];have:=c2 (j - off) (by omega);have e:mb.base + k * sz + j - (mb.base + k * sz + off) = j - off:=by omega
       rw [e]
       have e2:(a.eval y).cells.toList.getD (j - off) undef = (a.eval y).cells.getD (j - off) undef:=by
        simp [jkd,jke]
       rw [e2];exact ⟨this.1.mono G.le_refl hle2,this.2⟩
      ·rw [if_neg hin,if_neg (by omega)];have:=h10 k j hk' hj
       have e2:arr.toList.getD (mb.base + k * sz + j) undef = arr.getD (mb.base + k * sz + j) undef:=by
        simp [jkd,jke]
       rw [e2];exact ⟨this.1.mono G.le_refl hle2,this.2⟩
     ·rw [if_neg hki]
      have hnin:¬ (mb.base + i * sz + off≤mb.base + k * sz + j/\mb.base + k * sz + j < mb.base + i * sz + off + ty.2.1):=by
       intro ⟨q1,q2⟩;exact q86 (l:=mb.base + k * sz + j - (mb.base + i * sz)) hki hj (by omega) (by omega)
      rw [if_neg hnin];have:=h10 k j hk' hj
      have e2:arr.toList.getD (mb.base + k * sz + j) undef = arr.getD (mb.base + k * sz + j) undef:=by
       simp [jkd,jke]
      rw [e2];exact ⟨this.1.mono G.le_refl hle2,this.2⟩
  ·exact hi.elim
 ·exact hi.elim
theorem qo2 (hr:R bs n gl G M fr h a w) {o:Oper} {op:BinOp} {t yt:TypeId} {x y:Operand} {neg:Bool} {Q:Exit->Act->World->Prop} {K:V->Hp->Prop} (ho:o.op = .binOp op t x y yt)
  (hop:op = if neg then .neq else .eql) (ht:P.underlying t = some .bool) {id:Nat} (hi:qa8 P gl id fr h K (.beq neg (co x) (co y))):o.wp P a w (qan K G M w o a h) Q:=by
 simp only [qa8] at hi;split at hi
 ·rename_i p q hx hy;have ex:=qbk (qat hr hx);have ey:=qbk (qat hr hy);refine qai hr ?_ hi (.bool _);subst hop;cases neg
  ·have:=run_eql_bool (P:=P) (w:=w) t p q ht;simp only [execOp,ho,ex,ey,eqGuard,Bool.false_eq_true,if_false];simp [this]
  ·have:=run_neq_bool (P:=P) (w:=w) t p q ht;simp only [execOp,ho,ex,ey,eqGuard,if_true];simp [this];cases p <;> cases q <;> rfl
 ·exact hi.elim
theorem qzn (hr:R bs n gl G M fr h a w) {o:Oper} {op:UnOp} {t:TypeId} {x:Operand} {Q:Exit->Act->World->Prop} {K:V->Hp->Prop} (ho:o.op = .unOp op t x) {id:Nat}
  (hi:qa8 P gl id fr h K (.un op (co x))):o.wp P a w (qan K G M w o a h) Q:=by
 simp only [qa8] at hi;split at hi
 ·rename_i v hv;have rx:=qat hr hv;unfold unW at hi;split at hi
  ·have ex:=qbk rx
   cases op <;> simp only [] at hi <;> first
    | exact hi.elim
    | exact qai hr (by simp [execOp,ho,ex,Op.unary]) hi (.bool _)
  ·have ex:=qaj rx
   cases op <;> simp only [] at hi <;> first
    | exact hi.elim
    | (refine qai hr ?_ hi (.int _ _); simp [execOp,ho,ex,Op.unary,Op.intArith]; done)
    | (refine qai hr ?_ hi (.int _ _); simp [execOp,ho,ex,Op.unary,Op.intBits,qiz]; done)
  ·exact hi.elim
 ·exact hi.elim
theorem qtf (hr:R bs n gl G M fr h a w) {o:Oper} {s d:TypeId} {ks k:IntKind} {x:Operand} {Q:Exit->Act->World->Prop} {K:V->Hp->Prop} (ho:o.op = .convert s d x)
  (h1:P.underlying s = some (.int ks)) (h2:P.underlying d = some (.int k)) {id:Nat} (hi:qa8 P gl id fr h K (.conv k (co x))):o.wp P a w (qan K G M w o a h) Q:=by
 simp only [qa8] at hi;split at hi
 ·rename_i k0 m hv;have ex:=qaj (qat hr hv);exact qai hr (by simp [execOp,ho,ex,convert,underlying,h1,h2,Conv.intToInt]) hi (.int _ _)
 ·exact hi.elim
theorem qqo (hr:R bs n gl G M fr h a w) {o:Oper} {s d:TypeId} {x:Operand} {Q:Exit->Act->World->Prop} {K:V->Hp->Prop} (ho:o.op = .convert s d x)
  (h1:P.underlying s = some .string) (h2:P.underlying d = some .string) {_id:Nat} (hi:∃ l,ev gl fr (co x) = some (.str l)/\K (.str l) h):o.wp P a w (qan K G M w o a h) Q:=by
 obtain ⟨l,hx,hk⟩:=hi;have ex:=qa7 (qat hr hx);exact qai hr (by simp [execOp,ho,ex,convert,underlying,h1,h2]) hk (.str _)
theorem qo6 (hr:R bs n gl G M fr h a w) {o:Oper} {s:TypeId} {x:Operand} {i:Nat} {fields:Array Field} {f:Field} {ty:Bool × Nat × Nat} {Q:Exit->Act->World->Prop} {K:V->Hp->Prop} (ho:o.op = .fieldAddr s x i)
  (h1:P.underlying s = some (.struct fields)) (h2:fields[i]? = some f) (h3:qcg P f.type = some ty) (h4:ty.2.1 ≠ 0) {id:Nat} (hi:qa8 P gl id fr h K (.fieldA f.offset (co x))):o.wp P a w (qan K G M w o a h) Q:=by
 obtain ⟨-,hsz,-⟩:=qbd (P:=P) (t:=f.type) (ag:=ty.1) (n:=ty.2.1) (by_:=ty.2.2) (by rw [h3])
 have hrun:∀ ad:Addr,a.eval x = .pointer (some ad)->(execOp a.eval o).run P w = .ok (.value (.pointer (some (ad.add f.offset)))) w:=by
  intro ad he;simp [execOp,ho,Instr.fieldAt,underlying,h1,h2,he,Instr.sureAddr,fieldPlace,hsz,h4]
 simp only [qa8] at hi;split at hi
 ·rename_i y off hv;have rx:=qat hr hv;generalize hev:a.eval x = r at rx
  cases rx with
  | iptr _ _ rb ro cells hG hb hh hoo=>
   refine qai hr (hrun _ hev) hi ?_;rw [Addr.add_lit,Nat.add_assoc];exact .iptr _ _ rb ro cells hG hb hh hoo
 ·rename_i b g k off hv;have rx:=qat hr hv;generalize hev:a.eval x = r at rx
  cases rx with
  | ptr _ _ _ _ ad mb hM hg hh=>
   refine qai hr (hrun _ hev) hi ?_;refine .ptr _ _ _ _ _ mb hM hg fun hgen=>?_;obtain ⟨rb,q1,rfl⟩:=hh hgen;exact ⟨rb,q1,by rw [Addr.add_lit,Nat.add_assoc]⟩
 ·exact hi.elim
end
end
section
open Go
section
variable {P:Program} {gl:Fr} {bs:BS} {n:Nat} {fr:Fr} {h:Hp} {G:qaz} {M:qar} {a:Act} {w:World}
theorem qwr (hr:R bs n gl G M fr h a w) {o:Oper} {s d:TypeId} {x:Operand} {Q:Exit->Act->World->Prop} {K:V->Hp->Prop} (ho:o.op = .convert s d x)
  (h1:P.underlying s = some .string) (h2:P.underlying d = some .string) {id:Nat} (hi:qa8 P gl id fr h K (.cvs (co x))):o.wp P a w (qan K G M w o a h) Q:=by
 simp only [qa8] at hi;split at hi
 ·rename_i l hx;exact qqo hr ho h1 h2 (_id:=id) ⟨l,hx,hi⟩
 ·exact hi.elim
theorem qtg (hr:R bs n gl G M fr h a w) {o:Oper} {t e:TypeId} {x y:Operand} {ty:Bool × Nat × Nat} {Q:Exit->Act->World->Prop} {K:V->Hp->Prop} (ho:o.op = .indexAddr t x y)
  (h1:P.underlying t = some (.slice e)) (h2:qcg P e = some ty) {id:Nat} (hi:qa8 P gl id fr h K (.idxA ty.2.1 (co x) (co y))):o.wp P a w (qan K G M w o a h) Q:=by
 obtain ⟨-,hsz,-⟩:=qbd (P:=P) (t:=e) (ag:=ty.1) (n:=ty.2.1) (by_:=ty.2.2) (by rw [h2])
 have hrun:∀ (ad:Addr) (len cap:Nat) (k:IntKind) (j:Int),a.eval x = .slice (some ad) len cap->a.eval y = .int k j->0≤j->j < len->
   (execOp a.eval o).run P w = .ok (.value (.pointer (some (ad.add (j.toNat * ty.2.1))))) w:=by
  intro ad len cap k j ex ey hj0 hj1;simp [execOp,ho,Instr.indexAt,ex,ey,asIntOf,underlying,h1,hsz,hj0,hj1]
 simp only [qa8] at hi;split at hi
 ·rename_i xs cap k j hx hy;obtain ⟨hj0,hj1,hc,hi⟩:=hi;have ey:=qaj (qat hr hy);have rx:=qat hr hx;have hjl:j.toNat < xs.length:=by omega
  generalize hev:a.eval x = r at rx
  cases rx with
  | slnil=>simp at hjl
  | sl _ _ rb ro rcap sz cells hne hG hsz' hb hl hcc hh hoo=>
   have e1:=hsz' j.toNat hjl;rw [hc] at e1; subst e1;refine qai hr (hrun _ _ _ _ _ hev ey hj0 hj1) hi ?_;rw [Addr.add_lit];have heb:=qbb (sz:=ty.2.1) hjl (jki xs.length);exact .iptr _ 0 rb (ro + j.toNat * ty.2.1) cells hG (by omega) (fun q hq=>hh _ q hjl (by omega)) (fun q hq=>hoo _ q hjl (by omega))
 ·rename_i b g off len cap k j hx hy;split at hi
  ·rename_i g' sz' es hb;obtain ⟨rfl,rfl,hj0,hj1,hi⟩:=hi;have ey:=qaj (qat hr hy);have rx:=qat hr hx;obtain ⟨mb0,m1,m2,m3,m4⟩:=hr.sim.hb b _ hb;generalize hev:a.eval x = r at rx
   cases rx with
   | ref _ _ _ _ _ ra rcap mb hM hg hl hcc hh=>
    rw [m1] at hM; cases hM;have hre:=hh m2.symm
    cases hreal:mb0.real with
    | none=>simp only [qb4,hreal] at hre; omega
    | some rb=>
     simp only [qb4,hreal] at hre;rcases hre with ⟨rfl,hroom⟩ | ⟨q,-⟩
     ·refine qai hr (hrun _ _ _ _ _ hev ey hj0 hj1) hi ?_;rw [Addr.add_lit];refine .ptr _ _ _ _ _ mb0 m1 (by omega) fun _=>⟨rb,hreal,?_⟩;rw [m3,Nat.add_mul]; simp [Nat.add_assoc]
     ·omega
  ·exact hi.elim
 ·exact hi.elim
theorem qth (hr:R bs n gl G M fr h a w) {o:Oper} {t e:TypeId} {len:Nat} {x y:Operand} {ty:Bool × Nat × Nat} {Q:Exit->Act->World->Prop} {K:V->Hp->Prop} (ho:o.op = .indexAddr t x y)
  (h1:P.underlying t = some (.array len e)) (h2:qcg P e = some ty) {id:Nat} (hi:qa8 P gl id fr h K (.idxP len ty.2.1 (co x) (co y))):o.wp P a w (qan K G M w o a h) Q:=by
 obtain ⟨-,hsz,-⟩:=qbd (P:=P) (t:=e) (ag:=ty.1) (n:=ty.2.1) (by_:=ty.2.2) (by rw [h2])
 have hrun:∀ (ad:Addr) (k:IntKind) (j:Int),a.eval x = .pointer (some ad)->a.eval y = .int k j->0≤j->j < len->
   (execOp a.eval o).run P w = .ok (.value (.pointer (some (ad.add (j.toNat * ty.2.1))))) w:=by
  intro ad k j ex ey hj0 hj1;simp [execOp,ho,Instr.indexAt,ex,ey,asIntOf,underlying,h1,hsz,hj0,hj1,Instr.sureAddr]
 simp only [qa8] at hi;split at hi
 ·rename_i y0 off k j hx hy;obtain ⟨hj0,hj1,hi⟩:=hi;have ey:=qaj (qat hr hy);have rx:=qat hr hx;generalize hev:a.eval x = r at rx
  cases rx with
  | iptr _ _ rb ro cells hG hb hh hoo=>
   refine qai hr (hrun _ _ _ hev ey hj0 hj1) hi ?_;rw [Addr.add_lit,Nat.add_assoc];exact .iptr _ _ rb ro cells hG hb hh hoo
 ·rename_i b g k0 off k j hx hy;obtain ⟨hj0,hj1,hi⟩:=hi;have ey:=qaj (qat hr hy);have rx:=qat hr hx;generalize hev:a.eval x = r at rx
  cases rx with
  | ptr _ _ _ _ ad mb hM hg hh=>
   refine qai hr (hrun _ _ _ hev ey hj0 hj1) hi ?_;refine .ptr _ _ _ _ _ mb hM hg fun hgen=>?_;obtain ⟨rb,q1,rfl⟩:=hh hgen;exact ⟨rb,q1,by rw [Addr.add_lit,Nat.add_assoc]⟩
 ·exact hi.elim
theorem qtj (hr:R bs n gl G M fr h a w) {o:Oper} {t e:TypeId} {len:Nat} {x y:Operand} {ty:Bool × Nat × Nat} {Q:Exit->Act->World->Prop} {K:V->Hp->Prop} (ho:o.op = .index t x y)
  (h1:P.underlying t = some (.array len e)) (h2:qcg P e = some ty) {id:Nat} (hi:qa8 P gl id fr h K (.idxV ty.1 len ty.2.1 (co x) (co y))):o.wp P a w (qan K G M w o a h) Q:=by
 obtain ⟨-,hsz,-⟩:=qbd (P:=P) (t:=e) (ag:=ty.1) (n:=ty.2.1) (by_:=ty.2.2) (by rw [h2]);simp only [qa8] at hi;split at hi
 ·rename_i cs k j hx hy;obtain ⟨hj0,hj1,hok,hi⟩:=hi;have ey:=qaj (qat hr hy);obtain ⟨arr,ex,hc⟩:=qec (qat hr hx);obtain ⟨rv,q1,q2⟩:=qr1 (P:=P) (w:=w) (t:=e) (ag:=ty.1) (m:=ty.2.1) (by_:=ty.2.2) (by rw [h2]) hc hok;exact qai hr (by simp [execOp,ho,Instr.index,ex,ey,asIntOf,underlying,h1,hsz,hj0,hj1,q1]) hi q2
 ·exact hi.elim
theorem qti (hr:R bs n gl G M fr h a w) {o:Oper} {t:TypeId} {x y:Operand} {Q:Exit->Act->World->Prop} {K:V->Hp->Prop} (ho:o.op = .index t x y)
  (h1:P.underlying t = some .string) {id:Nat} (hi:qa8 P gl id fr h K (.idxS (co x) (co y))):o.wp P a w (qan K G M w o a h) Q:=by
 simp only [qa8] at hi;split at hi
 ·rename_i s k j hx hy;obtain ⟨hj0,hj1,hi⟩:=hi;have ey:=qaj (qat hr hy);have ex:=qa7 (qat hr hx);have hlt:j.toNat < s.length:=by omega
  have hget:(⟨s.toArray⟩:ByteArray)[j.toNat]? = some (s.getD j.toNat 0):=by
   have hlt':j.toNat < (⟨s.toArray⟩:ByteArray).size:=by simpa [ByteArray.size] using hlt
   rw [getElem?_pos (⟨s.toArray⟩:ByteArray) j.toNat hlt'];simp [jkd,hlt];rfl
  exact qai hr (by simp only [execOp,ho,Instr.index,ex,ey,asIntOf,Sem.run_bind,Sem.run_pure,Result.andThen_ok,underlying,run_program,h1,if_pos hj0,hget]) hi (.int _ _)
 ·exact hi.elim
theorem qqp (hr:R bs n gl G M fr h a w) {o:Oper} {s:TypeId} {x:Operand} {i:Nat} {fields:Array Field} {f:Field} {ty:Bool × Nat × Nat} {Q:Exit->Act->World->Prop} {K:V->Hp->Prop} (ho:o.op = .field s x i)
  (h1:P.underlying s = some (.struct fields)) (h2:fields[i]? = some f) (h3:qcg P f.type = some ty) {id:Nat} (hi:qa8 P gl id fr h K (.field ty.1 f.offset ty.2.1 (co x))):o.wp P a w (qan K G M w o a h) Q:=by
 simp only [qa8] at hi;split at hi
 ·rename_i cs hx;obtain ⟨arr,ex,hc⟩:=qec (qat hr hx);obtain ⟨rv,q1,q2⟩:=qr1 (P:=P) (w:=w) (t:=f.type) (ag:=ty.1) (m:=ty.2.1) (by_:=ty.2.2) (by rw [h3]) hc hi.1;exact qai hr (by simp [execOp,ho,Instr.field,ex,asAgg,underlying,h1,h2,q1]) hi.2 q2
 ·exact hi.elim
theorem qwn {xs:List V} {cap:Option Nat} {r:Value} (h:qak G M (.sl xs cap) r):∃ ra rcap,r = .slice ra xs.length rcap/\xs.length≤rcap/\(∀ c,cap = some c->rcap = c):=by
 cases h with
 | slnil _ base rcap hc hb=>exact ⟨base,rcap,rfl,Nat.zero_le _,hc⟩
 | sl _ _ rb ro rcap sz cells hne hG hsz hb hl hc hh ho=>exact ⟨_,rcap,rfl,hl,hc⟩
theorem qee {α:Type} {c:Array α} {x:α} (h:c.toList = [x]):c = #[x]:=by rw [<- Array.toArray_toList (xs:=c),h]
theorem qfo {α:Type} {c:Array α} {x y:α} (h:c.toList = [x,y]):c = #[x,y]:=by rw [<- Array.toArray_toList (xs:=c),h]
theorem qws (hr:R bs n gl G M fr h a w) {o:Oper} {c:Call} {t e:TypeId} {x:Operand} {Q:Exit->Act->World->Prop} {K:V->Hp->Prop} (ho:o.op = .call c) (hc:c.callee = .builtin .len)
  (ha:c.args.toList = [x]) (hat:c.argTypes.toList = [t]) (h1:P.underlying t = some (.slice e)) {id:Nat} (hi:qa8 P gl id fr h K (.len (co x))):o.wp P a w (qan K G M w o a h) Q:=by
 have ha':=qee ha;have hat':=qee hat;simp only [qa8] at hi;split at hi
 ·rename_i xs cap hx;obtain ⟨ra,rcap,ex,-,-⟩:=qwn (qd5 hr hx);exact qai hr (by simp [execOp,ho,resolve,hc,invoke,builtin,Builtin.len_,ha',hat',ex,underlying,h1,goInt]) hi (.int _ _)
 ·rename_i b g off len cap hx;have rx:=qd5 hr hx;generalize hev:a.eval x = r at rx
  cases rx with
  | ref _ _ _ _ _ ra rcap mb hM hg hl hcc hh=>
   exact qai hr (by simp [execOp,ho,resolve,hc,invoke,builtin,Builtin.len_,ha',hat',hev,underlying,h1,goInt]) hi (.int _ _)
 ·exact hi.elim
theorem qtk (hr:R bs n gl G M fr h a w) {o:Oper} {c:Call} {t:TypeId} {x:Operand} {Q:Exit->Act->World->Prop} {K:V->Hp->Prop} (ho:o.op = .call c) (hc:c.callee = .builtin .len)
  (ha:c.args.toList = [x]) (hat:c.argTypes.toList = [t]) (h1:P.underlying t = some .string) {id:Nat} (hi:qa8 P gl id fr h K (.lenS (co x))):o.wp P a w (qan K G M w o a h) Q:=by
 have ha':=qee ha;have hat':=qee hat;simp only [qa8] at hi;split at hi
 ·rename_i s hx;have ex:=qa7 (qat hr hx);have hsz:(⟨s.toArray⟩:ByteArray).size = s.length:=rfl;exact qai hr (rv:=.int .i64 s.length) (by simp [execOp,ho,resolve,hc,invoke,builtin,Builtin.len_,ha',hat',ex,underlying,h1,goInt,hsz]) hi (.int _ _)
 ·exact hi.elim
theorem ql4 (hr:R bs n gl G M fr h a w) {o:Oper} {c:Call} {t:TypeId} {m:Nat} {x:Operand} {Q:Exit->Act->World->Prop} {K:V->Hp->Prop} (ho:o.op = .call c) (hc:c.callee = .builtin .len)
  (ha:c.args.toList = [x]) (hat:c.argTypes.toList = [t]) (h1:(∃ e,P.underlying t = some (.array m e))∨∃ u e,P.underlying t = some (.pointer u)/\P.underlying u = some (.array m e)) {id:Nat} (hi:qa8 P gl id fr h K (.lenK m)):o.wp P a w (qan K G M w o a h) Q:=by
 have ha':=qee ha;have hat':=qee hat;simp only [qa8] at hi;rcases h1 with ⟨e,h1⟩ | ⟨u,e,h1,h2⟩
 ·exact qai hr (by simp [execOp,ho,resolve,hc,invoke,builtin,Builtin.len_,ha',hat',underlying,h1,goInt]) hi (.int _ _)
 ·exact qai hr (by simp [execOp,ho,resolve,hc,invoke,builtin,Builtin.len_,ha',hat',underlying,h1,h2,goInt]) hi (.int _ _)
theorem qwp (hr:R bs n gl G M fr h a w) {o:Oper} {c:Call} {t e:TypeId} {x:Operand} {Q:Exit->Act->World->Prop} {K:V->Hp->Prop} (ho:o.op = .call c) (hc:c.callee = .builtin .cap)
  (ha:c.args.toList = [x]) (hat:c.argTypes.toList = [t]) (h1:P.underlying t = some (.slice e)) {id:Nat} (hi:qa8 P gl id fr h K (.cap (co x))):o.wp P a w (qan K G M w o a h) Q:=by
 have ha':=qee ha;have hat':=qee hat;simp only [qa8] at hi;split at hi
 ·rename_i xs cap hx;obtain ⟨ra,rcap,ex,-,hcap⟩:=qwn (qd5 hr hx);have:=hcap cap rfl; subst this;exact qai hr (by simp [execOp,ho,resolve,hc,invoke,builtin,Builtin.cap_,ha',hat',ex,underlying,h1,goInt]) hi (.int _ _)
 ·rename_i b g off len cap hx;have rx:=qd5 hr hx;generalize hev:a.eval x = r at rx
  cases rx with
  | ref _ _ _ _ _ ra rcap mb hM hg hl hcc hh=>
   have:=hcc cap rfl; subst this;exact qai hr (by simp [execOp,ho,resolve,hc,invoke,builtin,Builtin.cap_,ha',hat',hev,underlying,h1,goInt]) hi (.int _ _)
 ·exact hi.elim
theorem qr3 (hr:R bs n gl G M fr h a w) {o:Oper} {c:Call} {x y:Operand} {mx:Bool} {Q:Exit->Act->World->Prop} {K:V->Hp->Prop} (ho:o.op = .call c) (hc:c.callee = .builtin (if mx then .max else .min))
  (ha:c.args.toList = [x,y]) {id:Nat} (hi:qa8 P gl id fr h K (.mm mx (co x) (co y))):o.wp P a w (qan K G M w o a h) Q:=by
 have ha':=qfo ha;simp only [qa8] at hi;split at hi
 ·rename_i k p k' q hx hy;have ex:=qaj (qat hr hx);have ey:=qaj (qat hr hy);refine qai hr ?_ hi (.int _ _);cases mx
  ·simp only [execOp,ho,resolve,hc,invoke,builtin,Builtin.min_,ha'];simp [Builtin.min2,ex,ey];omega
  ·simp only [execOp,ho,resolve,hc,invoke,builtin,Builtin.max_,ha'];simp [Builtin.max2,ex,ey];omega
 ·exact hi.elim
theorem qm8 (hr:R bs n gl G M fr h a w) {o:Oper} {x:Operand} {i:Nat} {Q:Exit->Act->World->Prop} {K:V->Hp->Prop} (ho:o.op = .extract x i) {id:Nat}
  (hi:qa8 P gl id fr h K (.extract (co x) i)):o.wp P a w (qan K G M w o a h) Q:=by
 simp only [qa8] at hi;split at hi
 ·rename_i vs hx;split at hi
  ·rename_i v hv;have rx:=qat hr hx;generalize hev:a.eval x = r at rx
   cases rx with
   | tup _ arr hs hh=>
    have hlt:i < vs.length:=(List.getElem?_eq_some_iff.1 hv).1;have hlt':i < arr.size:=by omega
    have:=hh i hlt;rw [jkd,hv] at this;exact qai hr (rv:=arr.getD i undef) (by simp [execOp,ho,hev,Instr.extract,hlt',jke]) hi this
  ·exact hi.elim
 ·exact hi.elim
theorem qlh (hr:R bs n gl G M fr h a w):∀ {l:List Operand} {vs:List V},evs gl fr (l.map co) = some vs->vs.length = l.length/\∀ i,i < vs.length->qak G M (vs.getD i .undef) ((l.map a.eval).getD i undef)
 | [],vs,h=>by simp [evs] at h; subst h; exact ⟨rfl,fun i hi=>by cases hi⟩
 | x :: l,vs,h=>by
  simp only [List.map_cons,evs] at h;split at h
  ·rename_i v vs' hv hvs;cases h;obtain ⟨i1,i2⟩:=qlh hr hvs;refine ⟨by simp [i1],fun i hi=>?_⟩
   cases i with
   | zero=>simpa using qat hr hv
   | succ i=>simpa using i2 i (by simpa using hi)
  ·cases h
theorem qcb (c:Array Operand) (f:Operand->Value) (i:Nat):(c.map f).getD i undef = (c.toList.map f).getD i undef:=by
 simp [jke,jkd]
theorem qtm (hr:R bs n gl G M fr h a w) {o:Oper} {f:FuncId} {x y:Array Operand} {Q:Exit->Act->World->Prop} {K:V->Hp->Prop} (ho:o.op = .makeFunc (.func f) x y) {id:Nat}
  (hi:qa8 P gl id fr h K (.mkfn f (x.toList.map co) (y.toList.map co))):o.wp P a w (qan K G M w o a h) Q:=by
 simp only [qa8] at hi;split at hi
 ·rename_i va vb hx hy;obtain ⟨a1,a2⟩:=qlh hr hx;obtain ⟨b1,b2⟩:=qlh hr hy;refine qai hr (rv:=.func (.func f) (x.map a.eval) (y.map a.eval)) (by simp [execOp,ho,Instr.makeFunc]) hi (.fn _ _ _ _ _ (by simp [a1]) (by simp [b1]) (fun i hi=>?_) (fun i hi=>?_))
  ·have:=a2 i hi; rw [<- qcb] at this; simpa using this
  ·have:=b2 i hi; rw [<- qcb] at this; simpa using this
 ·exact hi.elim
end
end
section
open Go
section
variable {P:Program} {gl:Fr} {bs:BS} {n:Nat} {fr:Fr} {h:Hp} {G:qaz} {M:qar} {a:Act} {w:World}
def qg7 (G:qaz) (M:qar) (place:Nat->Option (Nat × Nat)):List (Nat × Nat × V)->List (Nat × Value)->Prop
 | [],[]=>True
 | (o,s,v) :: r,(i,u) :: q=>place i = some (o,s)/\qak G M v u/\qg7 G M place r q
 | _,_=>False
theorem qe4 (hr:R bs n gl G M fr h a w) {place:Nat->Option (Nat × Nat)}:∀ {ps:List (Nat × Operand)} {l:List (Nat × Nat × qal)} {vs:List (Nat × Nat × V)},
  qb8 place ps = some l->qx3 gl fr l = some vs->qg7 G M place vs (ps.map fun (i,x)=>(i,a.eval x))
 | [],l,vs,h1,h2=>by simp [qb8] at h1; subst h1; simp [qx3] at h2; subst h2; trivial
 | (i,x) :: r,l,vs,h1,h2=>by
  simp only [qb8] at h1;split at h1
  ·rename_i o m l' hp hc;cases h1;simp only [qx3] at h2;split at h2
   ·rename_i v vs' hv hvs;cases h2;exact ⟨hp,qat hr hv,qe4 hr hc hvs⟩
   ·cases h2
  ·cases h1
theorem qfk (off:Nat):∀ (l:List Value) (k:Nat) (cells:Array Value),off + k + l.length≤cells.size->
  (l.zipIdx k).foldl (fun cs (p:Value × Nat)=>cs.setIfInBounds (off + p.2) p.1) cells = (cells.toList.take (off + k) ++ l ++ cells.toList.drop (off + k + l.length)).toArray
 | [],k,cells,_=>by simp
 | x :: r,k,cells,hl=>by
  simp only [List.zipIdx_cons,List.foldl_cons];have hlt:off + k < cells.size:=by simp at hl; omega
  rw [qfk off r (k + 1) _ (by simp at hl ⊢; omega)];congr 1;simp only [Array.toList_setIfInBounds];have:=list_seg_step cells.toList (off + k) x r (by simp at hl ⊢; omega);have e1:off + (k + 1) = off + k + 1:=by omega
  have e2:(x :: r).length = r.length + 1:=rfl;rw [e1,e2];exact this
theorem qke {cs vs:List V} {arr us:Array Value} (hc:qcq G M cs arr) (hv:us.size = vs.length) (hv2:∀ j,j < vs.length->qak G M (vs.getD j .undef) (us.getD j undef)/\(us.getD j undef).oneCell' = true) (off:Nat) (hle:off + vs.length≤cs.length) :
  qcq G M (cs.take off ++ vs ++ cs.drop (off + vs.length)) (arr.toList.take off ++ us.toList ++ arr.toList.drop (off + us.toList.length)).toArray:=by
 have h1:=hc.1;refine ⟨by simp; omega,fun i hi=>?_⟩;rw [qbq,qff _ _ _ _ (by simp; omega),qit _ _ _ _ hle];have hul:us.toList.length = vs.length:=by simpa using hv
 rw [hul];have hil:i < cs.length:=by simp at hi; omega
 by_cases hin:off≤i/\i < off + vs.length
 ·rw [if_pos hin,if_pos hin];have:=hv2 (i - off) (by omega);simpa [jkd,jke] using this
 ·rw [if_neg hin,if_neg hin];have:=hc.2 i hil;simpa [jkd,jke] using this
theorem qja {place:Nat->Option (Nat × Nat)} {K:List V->Prop}:∀ {vs:List (Nat × Nat × V)} {us:List (Nat × Value)} {cs:List V} {arr:Array Value},qg7 G M place vs us->qcq G M cs arr->qsq cs K vs->
  ∃ cs' arr',Instr.fill place arr us = some arr'/\qcq G M cs' arr'/\K cs'
 | [],[],cs,arr,_,hc,hk=>⟨cs,arr,rfl,hc,hk⟩
 | [],_ :: _,_,_,hp,_,_=>hp.elim
 | _ :: _,[],_,_,hp,_,_=>hp.elim
 | (o,s,v) :: r,(i,u) :: q,cs,arr,hp,hc,hk=>by
  obtain ⟨h1,h2,h3⟩:=hp;obtain ⟨k1,k2,k3,k4⟩:=hk;obtain ⟨c1,c2⟩:=h2.cells k2;have hsz:=hc.1
  have hne:¬ (u.cells.size ≠ s || decide (o + u.cells.size > arr.size)) = true:=by
   simp; omega
  have hf:=qfk o u.cells.toList 0 arr (by simp; omega);have hrc:=qke hc c1 c2 o (by omega);obtain ⟨cs',arr',e1,e2,e3⟩:=qja (cs:=cs.take o ++ v.cells ++ cs.drop (o + s)) (arr:=(arr.toList.take o ++ u.cells.toList ++ arr.toList.drop (o + u.cells.toList.length)).toArray) h3 (by rw [k1] at hrc; exact hrc) k4;refine ⟨cs',arr',?_,e2,e3⟩
  have hfold:Array.foldl (fun cs (x:Value × Nat)=>cs.setIfInBounds (o + x.2) x.1) arr u.cells.zipIdx = (arr.toList.take o ++ u.cells.toList ++ arr.toList.drop (o + u.cells.toList.length)).toArray:=by
   rw [<- Array.foldl_toList,Array.toList_zipIdx];simpa using hf
  simp only [Instr.fill,h1];rw [if_neg hne,<- e1];congr 1
theorem qcv (G:qaz) (M:qar) {z:Value} (hz:z.cells.all (·.oneCell') = true):qcq G M (qfh z).cells z.cells:=by
 rw [qtq];refine ⟨by simp,fun i hi=>?_⟩;have hi':i < z.cells.size:=by simpa using hi
 have e1:(z.cells.toList.map vOf).getD i .undef = vOf (z.cells.getD i undef):=by
  simp [jkd,jke,hi']
 rw [e1];refine ⟨qjj _ _ _,?_⟩;simp only [Array.all_eq_true] at hz;simpa [jke,hi'] using hz i hi'
theorem qgv {ps:Array (Nat × Operand)}:(ps.map fun (x:Nat × Operand)=>(x.1,a.eval x.2)).toList = ps.toList.map fun (x:Nat × Operand)=>(x.1,a.eval x.2):=by simp
theorem qo3 (hr:R bs n gl G M fr h a w) {o:Oper} {t e:TypeId} {len:Nat} {ps:Array (Nat × Operand)} {l:List (Nat × Nat × qal)} {z:Value} {ty:Bool × Nat × Nat} {Q:Exit->Act->World->Prop} {K:V->Hp->Prop} (ho:o.op = .build t ps)
  (h1:P.underlying t = some (.array len e)) (h2:qcg P e = some ty) (hz:qb6 P t = some z) (hl:qb8 (fun i=>some (i * ty.2.1,ty.2.1)) ps.toList = some l) {id:Nat} (hi:qa8 P gl id fr h K (.build (qfh z).cells l)):o.wp P a w (qan K G M w o a h) Q:=by
 obtain ⟨-,hsz,-⟩:=qbd (P:=P) (t:=e) (ag:=ty.1) (n:=ty.2.1) (by_:=ty.2.2) (by rw [h2]);obtain ⟨z1,z2,-⟩:=qbz hz;simp only [qa8] at hi;split at hi
 ·rename_i vs hvs;obtain ⟨cs',arr',e1,e2,e3⟩:=qja (qe4 hr hl hvs) (qcv G M z2) hi;refine qai hr (rv:=.agg arr') ?_ e3 (qji e2);simp only [execOp,ho,Instr.build,Sem.run_bind,z1,Result.andThen_ok,underlying,run_program,h1,hsz,Sem.run_pure];rw [qgv,e1];simp
 ·exact hi.elim
theorem qp3 {fields:Array Field} (hf:fields.toList.all (fun f=>(qcg P f.type).isSome) = true) :
  (fields.mapM fun f=>do pure (f.offset,<- sizeOf f.type):Sem (Array (Nat × Nat))).run P w = .ok (fields.map fun f=>(f.offset,((qcg P f.type).getD (false,0,0)).2.1)) w:=by
 rw [<- Array.toArray_toList (xs:=fields)];generalize fields.toList = fl at hf;rw [List.mapM_toArray]
 have key:∀ fl:List Field,fl.all (fun f=>(qcg P f.type).isSome) = true->(fl.mapM fun f=>Prod.mk f.offset <$> sizeOf f.type:Sem (List (Nat × Nat))).run P w = .ok (fl.map fun f=>(f.offset,((qcg P f.type).getD (false,0,0)).2.1)) w:=by
  intro fl hf
  induction fl with
  | nil=>simp
  | cons f r ih=>
   simp only [List.all_cons,Bool.and_eq_true] at hf;obtain ⟨ty,hty⟩:=Option.isSome_iff_exists.1 hf.1;obtain ⟨-,hsz,-⟩:=qbd (P:=P) (t:=f.type) (ag:=ty.1) (n:=ty.2.1) (by_:=ty.2.2) (by rw [hty]);simp [hsz,ih hf.2,hty]
 simp [key fl hf]
theorem qo4 (hr:R bs n gl G M fr h a w) {o:Oper} {t:TypeId} {fields:Array Field} {ps:Array (Nat × Operand)} {l:List (Nat × Nat × qal)} {z:Value} {Q:Exit->Act->World->Prop} {K:V->Hp->Prop} (ho:o.op = .build t ps)
  (h1:P.underlying t = some (.struct fields)) (hf:fields.toList.all (fun f=>(qcg P f.type).isSome) = true) (hz:qb6 P t = some z) (hl:qb8 (qg0 P fields) ps.toList = some l) {id:Nat} (hi:qa8 P gl id fr h K (.build (qfh z).cells l)):o.wp P a w (qan K G M w o a h) Q:=by
 obtain ⟨z1,z2,-⟩:=qbz hz;simp only [qa8] at hi;split at hi
 ·rename_i vs hvs
  have hplace:∀ i p,qg0 P fields i = some p->(fields.map fun f=>(f.offset,((qcg P f.type).getD (false,0,0)).2.1))[i]? = some p:=by
   intro i p hp;unfold qg0 at hp;split at hp
   ·rename_i f hff;split at hp
    ·rename_i ag m by_ hty;cases hp;simp [hff,hty]
    ·cases hp
   ·cases hp
  have hrp:∀ (vs:List (Nat × Nat × V)) (us:List (Nat × Value)),qg7 G M (qg0 P fields) vs us->qg7 G M (fun i=>(fields.map fun f=>(f.offset,((qcg P f.type).getD (false,0,0)).2.1))[i]?) vs us:=by
   intro vs
   induction vs with
   | nil=>intro us hu; cases us <;> exact hu
   | cons p r ih=>
    intro us hu
    cases us with
    | nil=>exact hu
    | cons q s=>exact ⟨hplace _ _ hu.1,hu.2.1,ih s hu.2.2⟩
  obtain ⟨cs',arr',e1,e2,e3⟩:=qja (hrp _ _ (qe4 hr hl hvs)) (qcv G M z2) hi;refine qai hr (rv:=.agg arr') ?_ e3 (qji e2);simp only [execOp,ho,Instr.build,Sem.run_bind,z1,Result.andThen_ok,underlying,run_program,h1,Sem.run_pure,qp3 hf];rw [qgv,e1];simp
 ·exact hi.elim
theorem qj6 (sz:Nat) (hsz:sz ≠ 0):∀ (m:Nat) (cs:List V),cs.length = m * sz->(∀ i,i < cs.length->(cs.getD i .undef).cells = [cs.getD i .undef])->(qet sz m cs).length = m/\
  ∀ i,i < m->((qet sz m cs).getD i .undef).cells.length = sz/\∀ j,j < sz->((qet sz m cs).getD i .undef).cells.getD j .undef = cs.getD (i * sz + j) .undef
 | 0,cs,_,_=>⟨rfl,fun i hi=>by omega⟩
 | m + 1,cs,hl,hc=>by
  have hl':(cs.drop sz).length = m * sz:=by simp [hl,Nat.add_mul]
  obtain ⟨i1,i2⟩:=qj6 sz hsz m (cs.drop sz) hl' (fun i hi=>by
   have:=hc (sz + i) (by simp at hi; omega);simpa [jkd] using this)
  refine ⟨by simp [qet,i1],fun i hi=>?_⟩
  cases i with
  | zero=>
   have hle:sz≤cs.length:=by rw [hl,Nat.add_mul]; omega
   simp only [qet,List.getD_cons_zero,Nat.zero_mul,Nat.zero_add];split
   ·have h0:=hc 0 (by omega);rw [h0];refine ⟨rfl,fun j hj=>?_⟩;obtain rfl:j = 0:=by omega
    rfl
   ·refine ⟨by simp [V.cells]; omega,fun j hj=>?_⟩;simp [V.cells,jkd,hj]
  | succ i=>
   simp only [qet,List.getD_cons_succ];obtain ⟨q1,q2⟩:=i2 i (by omega);refine ⟨q1,fun j hj=>?_⟩;rw [q2 j hj];simp only [jkd,List.getElem?_drop];congr 2;rw [Nat.add_mul]; omega
end
end
section
open Go
section
variable {P:Program} {gl:Fr} {bs:BS} {n:Nat} {fr:Fr} {h:Hp} {G:qaz} {M:qar} {a:Act} {w:World}
theorem qjq {v:V} {r:Value} (hv:qak G M v r) (ho:r.oneCell' = true):v.cells = [v]:=by
 cases hv <;> first | rfl | simp [Value.oneCell'] at ho
def qb2 (G:qaz) (M:qar) (sz:Nat) (ys:List V) (cells:List Value):Prop:=
 cells.length = ys.length * sz/\∀ i,i < ys.length->(ys.getD i .undef).cells.length = sz/\
  ∀ j,j < sz->qak G M ((ys.getD i .undef).cells.getD j .undef) (cells.getD (i * sz + j) undef)/\(cells.getD (i * sz + j) undef).oneCell' = true
theorem qb2.nil (sz:Nat):qb2 G M sz [] []:=⟨by simp,fun i hi=>by cases hi⟩
theorem qb2.append {sz:Nat} {xs ys:List V} {c d:List Value} (h1:qb2 G M sz xs c) (h2:qb2 G M sz ys d):qb2 G M sz (xs ++ ys) (c ++ d):=by
 refine ⟨by simp [h1.1,h2.1,Nat.add_mul],fun i hi=>?_⟩;simp only [jkd,List.getElem?_append];by_cases hx:i < xs.length
 ·rw [if_pos hx];have:=h1.2 i hx;simp only [jkd] at this;refine ⟨this.1,fun j hj=>?_⟩;have heb:=qbb (sz:=sz) hx (jki xs.length);rw [if_pos (by rw [h1.1]; omega)];exact this.2 j hj
 ·rw [if_neg hx];have:=h2.2 (i - xs.length) (by simp at hi; omega);simp only [jkd] at this;refine ⟨this.1,fun j hj=>?_⟩;have e:i * sz = xs.length * sz + (i - xs.length) * sz:=by rw [<- Nat.add_mul]; congr 1; omega
  rw [if_neg (by rw [h1.1]; omega),h1.1];have e2:i * sz + j - xs.length * sz = (i - xs.length) * sz + j:=by omega
  rw [e2];exact this.2 j hj
theorem qb2.one {sz:Nat} {ys:List V} {c:List Value} (h:qb2 G M sz ys c) (hsz:sz ≠ 0):∀ u ∈ c,u.oneCell' = true:=by
 intro u hu;obtain ⟨k,hk,rfl⟩:=List.mem_iff_getElem.1 hu;have hk':k < ys.length * sz:=by rw [<- h.1]; exact hk
 have hlt:k / sz < ys.length:=Nat.div_lt_of_lt_mul (by rw [Nat.mul_comm]; exact hk');have:=((h.2 (k / sz) hlt).2 (k % sz) (Nat.mod_lt _ (by omega))).2;rw [Nat.mul_comm,Nat.div_add_mod] at this;simpa [jkd,hk] using this
theorem Sim.allocFlat (hs:Sim G M h w) (b:Nat) (ty:TypeId) (sz room:Nat) {es:List V} {c rest:List Value} (hf:qb2 G M sz es c) (h1:room * sz≤c.length + rest.length) (h2:es.length≤room) :
  Sim G (upd M b ⟨qaa M b,sz,room,0,some w.heap.size⟩) ((b,.row (qaa M b) sz es) :: h) (w.alloc (.cells (c ++ rest).toArray ty))/\
  Ext G M w G (upd M b ⟨qaa M b,sz,room,0,some w.heap.size⟩) (w.alloc (.cells (c ++ rest).toArray ty)):=by
 refine hs.alloc b _ ty sz room es (by simpa using h1) h2 (fun i hi=>(hf.2 i hi).1) (fun i j hi hj=>?_);have:=(hf.2 i hi).2 j hj;have heb:=qbb (sz:=sz) hi (jki es.length);have hlt:i * sz + j < c.length:=by rw [hf.1]; omega
 rw [qbq]
 have e:(c ++ rest).getD (i * sz + j) undef = c.getD (i * sz + j) undef:=by
  simp [jkd,List.getElem?_append,hlt]
 rw [e]; exact this
theorem qfd {b len sz room:Nat} {cap:Option Nat} {rcap:Nat} (hl:len≤rcap) (hr:rcap≤min room 9223372036854775807) (hc:∀ c,cap = some c->rcap = c) (k:Nat) :
  qak G (upd M b ⟨qaa M b,sz,room,0,some k⟩) (.ref b (qaa M b) 0 len cap) (.slice (some ⟨k,0,none⟩) len rcap):=
 .ref _ _ _ _ _ _ _ _ (qaw _ _ _) (jki _) hl hc fun _=>.inl ⟨by simp,by simp only [Nat.zero_add]; exact hr⟩
theorem qgn (off:Nat):∀ (q:List (Value × Nat)) (arr:Array Value),(q.foldl (fun cs (x:Value × Nat)=>cs.setIfInBounds (off + x.2) x.1) arr).size = arr.size
 | [],_=>rfl
 | a :: b,arr=>by simp only [List.foldl_cons]; rw [qgn off b]; simp
theorem qv6 (hr:R bs n gl G M fr h a w) {o:Oper} {t e:TypeId} {len:Nat} {ps:Array (Nat × Operand)} {l:List (Nat × Nat × qal)} {z:Value} {ty:Bool × Nat × Nat} {K:List V->Prop} {vs:List (Nat × Nat × V)} (ho:o.op = .buildSlice t len ps)
  (h1:P.underlying t = some (.slice e)) (h2:qcg P e = some ty) (hz:qb6 P e = some z) (hn:len * ty.2.1≤4096) (hn0:ty.2.1 ≠ 0)
  (hl:qb8 (fun i=>some (i * ty.2.1,ty.2.1)) ps.toList = some l) {id:Nat}
  (hvs:qx3 gl fr l = some vs) (hi:qsq ((List.range (len * ty.2.1)).map fun i=>(qfh z).cells.getD (i % ty.2.1) .undef) K vs) :
  ∃ cs,K cs/\∀ Q,o.wp P a w (qpk G M w o.dst a id (.ref id (qaa M id) 0 len (some len)) (some (.row (qaa M id) ty.2.1 (qet ty.2.1 len cs)))) Q:=by
 obtain ⟨-,hsz,hti⟩:=qbd (P:=P) (t:=e) (ag:=ty.1) (n:=ty.2.1) (by_:=ty.2.2) (by rw [h2]);obtain ⟨z1,z2,i0,z3,z4⟩:=qbz hz;obtain ⟨i1,-,-,hisz,hinfo⟩:=hti w;rw [z3] at hinfo; cases hinfo
 ·skip
  have hzc:qcq G M ((List.range (len * ty.2.1)).map fun i=>(qfh z).cells.getD (i % ty.2.1) .undef) ((Array.range (len * ty.2.1)).map fun i=>(if len * ty.2.1 = 0 then #[] else z.cells)[i % (if len * ty.2.1 = 0 then #[] else z.cells).size]!):=by
   refine ⟨by simp,fun i hi=>?_⟩;have hi':i < len * ty.2.1:=by simpa using hi
   have hne:¬ len * ty.2.1 = 0:=by omega
   have hmod:i % ty.2.1 < ty.2.1:=Nat.mod_lt _ (by omega);have hz0:=qcv G M z2;have:=hz0.2 (i % ty.2.1) (by rw [<- hz0.1,z4,hisz]; exact hmod)
   have e1:((List.range (len * ty.2.1)).map fun i=>(qfh z).cells.getD (i % ty.2.1) .undef).getD i .undef = (qfh z).cells.getD (i % ty.2.1) .undef:=by
    simp [jkd,hi']
   have hlt:i % ty.2.1 < z.cells.size:=by rw [z4,hisz]; exact hmod
   have e2:((Array.range (len * ty.2.1)).map fun i=>(if len * ty.2.1 = 0 then #[] else z.cells)[i % (if len * ty.2.1 = 0 then #[] else z.cells).size]!).getD i undef = z.cells.getD (i % ty.2.1) undef:=by
    simp only [if_neg hne,z4,hisz];simp [jke,hi',hlt,getElem!_pos]
   rw [e1,e2]; exact this
  obtain ⟨cs',arr',e1,e2,e3⟩:=qja (qe4 hr hl hvs) hzc hi
  have hlen:cs'.length = len * ty.2.1:=by
   have key:∀ (vs:List (Nat × Nat × V)) (us:List (Nat × Value)) (arr arr':Array Value),Instr.fill (fun i=>some (i * ty.2.1,ty.2.1)) arr us = some arr'->arr'.size = arr.size:=by
    intro _ us
    induction us with
    | nil=>intro arr arr' hh; simp [Instr.fill] at hh; rw [hh]
    | cons p r ih=>
     intro arr arr' hh;simp only [Instr.fill] at hh;split at hh
     ·cases hh
     ·rw [ih _ _ hh,<- Array.foldl_toList];exact qgn _ _ _
   have:=key vs _ _ _ e1;rw [<- e2.1,this]; simp
  obtain ⟨g1,g2⟩:=qj6 ty.2.1 hn0 len cs' hlen (fun i hi=>qjq (e2.2 i hi).1 (e2.2 i hi).2)
  have hflat:qb2 G M ty.2.1 (qet ty.2.1 len cs') arr'.toList:=by
   refine ⟨by rw [g1]; simp [e2.1,hlen],fun i hi=>?_⟩;rw [g1] at hi;refine ⟨(g2 i hi).1,fun j hj=>?_⟩;rw [(g2 i hi).2 j hj];have heb:=qbb (sz:=ty.2.1) hi (jki len);have:=e2.2 (i * ty.2.1 + j) (by omega);simpa [jkd,jke] using this
  have al:∀ h,Sim G M h w->Sim G (upd M id ⟨qaa M id,ty.2.1,len,0,some w.heap.size⟩) ((id,.row (qaa M id) ty.2.1 (qet ty.2.1 len cs')) :: h) (w.alloc (.cells arr' e))/\Ext G M w G (upd M id ⟨qaa M id,ty.2.1,len,0,some w.heap.size⟩) (w.alloc (.cells arr' e)):=by
   intro h hs;have:=hs.allocFlat id e ty.2.1 len (rest:=[]) hflat (by simp [e2.1,hlen]) (by rw [g1]; exact jki _);simpa only [List.append_nil,Array.toArray_toList] using this
  have hlen2:len≤len * ty.2.1:=Nat.le_mul_of_pos_right _ (by omega);refine ⟨cs',e3,fun Q=>q17 (rv:=.slice (some ⟨w.heap.size,0,none⟩) len len) ?_ (qfd (jki _) (by omega) (by simp) _) (fun h hs=>(al h hs).1) (al h hr.sim).2 (fun i hi=>qax _ _ _ _ (by rcases hi with hi | hi <;> first | exact hi | cases hi))⟩;have hbig:¬ len * ty.2.1 > 2 ^ 24:=by omega
  simp only [execOp,ho,Instr.buildSlice,Sem.run_bind,Result.andThen_ok,underlying,run_program,h1,hsz,Sem.run_pure,Sem.run_ite,if_neg hbig];rw [qgv];by_cases h0:len * ty.2.1 = 0
  ·simp only [if_pos h0] at e1 ⊢;simp only [e1];simp [newRow]
  ·simp only [if_neg h0,z1,Result.andThen_ok] at e1 ⊢;simp only [e1];simp [newRow]
theorem qas {x:Int} (h0:-9223372036854775808≤x) (h1:x≤9223372036854775807):IntKind.i64.wrap x = x:=IntWalk.i64_in x ⟨h0,h1⟩
end
end
section
open Go
section
variable {P:Program} {gl:Fr} {bs:BS} {n:Nat} {fr:Fr} {h:Hp} {G:qaz} {M:qar} {a:Act} {w:World}
theorem q83 (hr:R bs n gl G M fr h a w) {o:Oper} {t e:TypeId} {x y:Operand} {z:Value} {ty:Bool × Nat × Nat} {k k':IntKind} {p q:Int} (ho:o.op = .makeSlice t x y)
  (h1:P.underlying t = some (.slice e)) (h2:qcg P e = some ty) (hz:qb6 P e = some z) (hn0:ty.2.1 ≠ 0) {id:Nat}
  (hx:ev gl fr (co x) = some (.int k p)) (hy:ev gl fr (co y) = some (.int k' q)) (p0:0≤p) (pq:p≤q) (qb:q≤549755813888) (hby:ty.2.2≤256) (hzl:(qfh z).cells.length = ty.2.1) :
  ∀ Q,o.wp P a w (qpk G M w o.dst a id (.ref id (qaa M id) 0 p.toNat (some q.toNat)) (some (.row (qaa M id) ty.2.1 (List.replicate p.toNat (match ty.2.1 with | 1=>(qfh z).cells.getD 0 .undef | _=>.agg (qfh z).cells))))) Q:=by
 obtain ⟨-,hsz,hti⟩:=qbd (P:=P) (t:=e) (ag:=ty.1) (n:=ty.2.1) (by_:=ty.2.2) (by rw [h2]);obtain ⟨z1,z2,i0,z3,z4⟩:=qbz hz;obtain ⟨i1,hi1,hib,hisz,hinfo⟩:=hti w;rw [z3] at hinfo; cases hinfo
 ·have ex:=qaj (qat hr hx);have ey:=qaj (qat hr hy);have wp':IntKind.i64.wrap p = p:=qas (by omega) (by omega);have wq:IntKind.i64.wrap q = q:=qas (by omega) (by omega)
  have hbq:(ty.2.2:Int) * q≤2 ^ 48:=by
   have:(ty.2.2:Int) * q≤256 * 549755813888:=by
    have h1:(ty.2.2:Int) * q≤256 * q:=Int.mul_le_mul_of_nonneg_right (by omega) (by omega);omega
   omega
  have hzcl:(qfh z).cells.length = ty.2.1:=hzl;have hz0:=qcv G M z2;have hzsz:z.cells.size = ty.2.1:=by rw [z4,hisz]
  let el:V:=match ty.2.1 with | 1=>(qfh z).cells.getD 0 .undef | _=>.agg (qfh z).cells
  have hel:el.cells.length = ty.2.1/\∀ j,j < ty.2.1->el.cells.getD j .undef = (qfh z).cells.getD j .undef:=by
   show (match ty.2.1 with | 1=>(qfh z).cells.getD 0 V.undef | _=>V.agg (qfh z).cells).cells.length = _/\_;simp only [el];split
   ·rename_i he;have h0:=hz0.2 0 (by rw [hzl,he]; omega);rw [qjq h0.1 h0.2];refine ⟨he.symm,fun j hj=>?_⟩;obtain rfl:j = 0:=by omega
    rfl
   ·exact ⟨hzl,fun j hj=>rfl⟩
  have hflat:qb2 G M ty.2.1 (List.replicate p.toNat el) ((List.range (p.toNat * ty.2.1)).map fun i=>z.cells.getD (i % ty.2.1) undef):=by
   refine ⟨by simp,fun i hi=>?_⟩;have hi':i < p.toNat:=by simpa using hi
   have e1:(List.replicate p.toNat el).getD i .undef = el:=by simp [jkd,hi']
   rw [e1];refine ⟨hel.1,fun j hj=>?_⟩;rw [hel.2 j hj];have heb:=qbb (sz:=ty.2.1) hi' (jki _)
   have e2:((List.range (p.toNat * ty.2.1)).map fun i=>z.cells.getD (i % ty.2.1) undef).getD (i * ty.2.1 + j) undef = z.cells.getD j undef:=by
    have hlt:i * ty.2.1 + j < p.toNat * ty.2.1:=by omega
    have hmod:(i * ty.2.1 + j) % ty.2.1 = j:=by rw [Nat.mul_comm,Nat.mul_add_mod]; exact Nat.mod_eq_of_lt hj
    simp only [jkd,List.getElem?_map,List.getElem?_range hlt,Option.map_some,Option.getD_some,hmod]
   rw [e2];exact hz0.2 j (by omega)
  have hpq:p.toNat * ty.2.1≤q.toNat * ty.2.1:=Nat.mul_le_mul_right _ (by omega)
  have hfull:((Array.range (q.toNat * ty.2.1)).map fun i=>(if q.toNat * ty.2.1 = 0 then #[] else z.cells)[i % (if q.toNat * ty.2.1 = 0 then #[] else z.cells).size]!) =
    (((List.range (p.toNat * ty.2.1)).map fun i=>z.cells.getD (i % ty.2.1) undef) ++ ((List.range (q.toNat * ty.2.1 - p.toNat * ty.2.1)).map fun i=>z.cells.getD ((p.toNat * ty.2.1 + i) % ty.2.1) undef)).toArray:=by
   have hr1:((List.range (p.toNat * ty.2.1)).map fun i=>z.cells.getD (i % ty.2.1) undef) ++ ((List.range (q.toNat * ty.2.1 - p.toNat * ty.2.1)).map fun i=>z.cells.getD ((p.toNat * ty.2.1 + i) % ty.2.1) undef) =
     (List.range (q.toNat * ty.2.1)).map fun i=>z.cells.getD (i % ty.2.1) undef:=by
    have hrange:List.range (q.toNat * ty.2.1) = List.range (p.toNat * ty.2.1) ++ (List.range (q.toNat * ty.2.1 - p.toNat * ty.2.1)).map (p.toNat * ty.2.1 + ·):=by
     rw [<- List.range_add]; congr 1; omega
    rw [hrange,List.map_append,List.map_map];rfl
   rw [hr1];apply Array.ext
   ·simp
   ·intro i hi1 hi2;have hi':i < q.toNat * ty.2.1:=by simpa using hi1
    have hne:¬ q.toNat * ty.2.1 = 0:=by omega
    have hmod:i % ty.2.1 < z.cells.size:=by rw [hzsz]; exact Nat.mod_lt _ (by omega)
    have hg:z.cells[i % ty.2.1]! = z.cells.getD (i % ty.2.1) undef:=by
     rw [getElem!_pos z.cells _ hmod];simp [jke,hmod]
    simp only [if_neg hne,hzsz,Array.getElem_map,Array.getElem_range,List.getElem_toArray,List.getElem_map,List.getElem_range,hg]
  have al:=fun h (hs:Sim G M h w)=>hs.allocFlat id e ty.2.1 q.toNat (rest:=(List.range (q.toNat * ty.2.1 - p.toNat * ty.2.1)).map fun i=>z.cells.getD ((p.toNat * ty.2.1 + i) % ty.2.1) undef) hflat (by simp; omega) (by simp; omega);intro Q;refine q17 (rv:=.slice (some ⟨w.heap.size,0,none⟩) p.toNat q.toNat) ?_ (qfd (by omega) (by omega) (by simp) _) (fun h hs=>(al h hs).1) (al h hr.sim).2 (fun i hi=>qax _ _ _ _ (by rcases hi with hi | hi <;> first | exact hi | cases hi));rw [<- hfull];simp only [execOp,ho,Instr.makeSlice,Sem.run_bind,Result.andThen_ok,underlying,run_program,h1,Sem.run_pure,ex,ey,asInt,asIntOf,hi1,wp',wq,hib]
  have hc1:¬ ((decide (q < 0) || decide ((ty.2.2:Int) * q > 2 ^ 48) || decide (p < 0) || decide (p > q)) = true):=by
   simp; omega
  rw [if_neg hc1];simp only [Result.andThen_ok,Sem.run_bind,run_askRoom,hsz];by_cases h0:q.toNat * ty.2.1 = 0
  ·simp only [if_pos h0];simp [newRow]
  ·simp only [if_neg h0,z1,Result.andThen_ok,Sem.run_bind,Sem.run_pure];simp [newRow]
theorem qen (hr:R bs n gl G M fr h a w) {d:Nat} {K:Nat->Prop} {x:Option Operand} (hb:qgl gl fr d K (x.map co)):∃ l,K l/\((x = none/\l = d)∨∃ y k,x = some y/\a.eval y = .int k (l:Int)):=by
 cases x with
 | none=>exact ⟨d,hb,.inl ⟨rfl,rfl⟩⟩
 | some y=>
  simp only [Option.map_some,qgl] at hb;split at hb
  ·rename_i k m hy;have ey:=qaj (qat hr hy);exact ⟨m.toNat,hb.2,.inr ⟨y,k,rfl,by rw [ey]; congr 1; omega⟩⟩
  ·exact hb.elim
theorem qno (hr:R bs n gl G M fr h a w) {K:Option Nat->Prop} {x:Option Operand} (hb:qlc gl fr K (x.map co)):∃ m,K m/\((x = none/\m = none)∨∃ y k l,x = some y/\m = some l/\a.eval y = .int k (l:Int)):=by
 cases x with
 | none=>exact ⟨none,hb,.inl ⟨rfl,rfl⟩⟩
 | some y=>
  simp only [Option.map_some,qlc] at hb;split at hb
  ·rename_i k m hy;have ey:=qaj (qat hr hy);exact ⟨some m.toNat,hb.2,.inr ⟨y,k,m.toNat,rfl,rfl,by rw [ey]; congr 1; omega⟩⟩
  ·exact hb.elim
theorem qa9 (k:IntKind) (l y:Nat) (code:BoundsCode) (hl:l≤y):(Instr.sliceBound (.int k (l:Int)) y code).run P w = .ok l w:=by
 have:(0:Int)≤l/\(l:Int)≤y:=by omega
 simp [Instr.sliceBound,asIntOf,hl]
theorem qez {lo hi mx:Option Operand} {l u:Nat} {m:Option Nat} {isS:Bool} {len cap:Nat} (hlo:(lo = none/\l = 0)∨∃ y k,lo = some y/\a.eval y = .int k (l:Int))
  (hhi:(hi = none/\u = len)∨∃ y k,hi = some y/\a.eval y = .int k (u:Int)) (hmx:(mx = none/\m = none)∨∃ y k l,mx = some y/\m = some l/\a.eval y = .int k (l:Int))
  (hm:mx.isSome = true->hi.isSome = true) (h1:l≤u) (h2:u≤m.getD cap) (h3:m.getD cap≤cap) :
  (Instr.sliceBounds isS len cap (lo.map a.eval) (hi.map a.eval) (mx.map a.eval)).run P w = .ok (l,u,m.getD cap) w:=by
 unfold Instr.sliceBounds;rcases hmx with ⟨rfl,rfl⟩ | ⟨ym,km,lm,rfl,rfl,em⟩
 ·simp only [Option.getD_none] at h2 h3 ⊢;rcases hhi with ⟨rfl,rfl⟩ | ⟨yh,kh,rfl,eh⟩
  ·rcases hlo with ⟨rfl,rfl⟩ | ⟨yl,kl,rfl,el⟩
   ·simp
   ·simp [el,qa9 kl l u _ h1]
  ·rcases hlo with ⟨rfl,rfl⟩ | ⟨yl,kl,rfl,el⟩
   ·simp [eh,qa9 kh u cap _ h2]
   ·simp [eh,el,qa9 kh u cap _ h2,qa9 kl l u _ h1]
 ·simp only [Option.getD_some] at h2 h3 ⊢;rcases hhi with ⟨rfl,rfl⟩ | ⟨yh,kh,rfl,eh⟩
  ·simp at hm
  ·rcases hlo with ⟨rfl,rfl⟩ | ⟨yl,kl,rfl,el⟩
   ·simp [em,eh,qa9 km lm cap _ h3,qa9 kh u lm _ h2]
   ·simp [em,eh,el,qa9 km lm cap _ h3,qa9 kh u lm _ h2,qa9 kl l u _ h1]
theorem qmu {u len rcap:Nat} {m:Option Nat} (h:qvn u len m) (hul:u≤len) (hl:len≤rcap):u≤m.getD rcap/\m.getD rcap≤rcap:=by
 cases m with
 | none=>simp; omega
 | some x=>obtain ⟨h1,h2⟩:=h; simp; omega
theorem qfa {l rcap:Nat} {cap m:Option Nat} (hc:∀ c,cap = some c->rcap = c):∀ c,qgo l cap m = some c->m.getD rcap - l = c:=by
 intro c hcc
 cases m with
 | none=>
  cases cap with
  | none=>simp [qgo] at hcc
  | some x=>simp [qgo] at hcc; have:=hc x rfl; simp; omega
 | some x=>simp [qgo] at hcc; simpa using hcc
theorem qqq (hr:R bs n gl G M fr h a w) {o:Oper} {t e:TypeId} {x:Operand} {lo hi mx:Option Operand} {ty:Bool × Nat × Nat} {Q:Exit->Act->World->Prop} {K:V->Hp->Prop} (ho:o.op = .slice t x lo hi mx)
  (h1:P.underlying t = some (.slice e)) (h2:qcg P e = some ty) (hm:mx.isSome = true->hi.isSome = true) {id:Nat}
  (hi':qa8 P gl id fr h K (.slice ty.2.1 (co x) (lo.map co) (hi.map co) (mx.map co))):o.wp P a w (qan K G M w o a h) Q:=by
 obtain ⟨-,hsz,-⟩:=qbd (P:=P) (t:=e) (ag:=ty.1) (n:=ty.2.1) (by_:=ty.2.2) (by rw [h2])
 have hrun:∀ (ra:Option Addr) (len cap l u m:Nat),a.eval x = .slice ra len cap->(Instr.sliceBounds true len cap (lo.map a.eval) (hi.map a.eval) (mx.map a.eval)).run P w = .ok (l,u,m) w->
   (execOp a.eval o).run P w = .ok (.value (.slice (if m = l then ra else ra.map (·.add (l * ty.2.1))) (u - l) (m - l))) w:=by
  intro ra len cap l u m ex hb;simp [execOp,ho,Instr.sliceAt,Instr.slice,ex,underlying,h1,hb,hsz]
 simp only [qa8] at hi';rcases hi' with ⟨e1,e2,e3,e4,hk⟩ | hi'
 ·have rx:=qat hr e1;generalize hev:a.eval x = r at rx
  cases rx with
  | nil=>
   have hz:∀ b:Option Operand,qw9 gl fr (b.map co)->b = none∨∃ y k,b = some y/\a.eval y = .int k ((0:Nat):Int):=by
    intro b hb
    cases b with
    | none=>exact .inl rfl
    | some y=>
     obtain ⟨k,hk0⟩:=hb;exact .inr ⟨y,k,rfl,qaj (qat hr hk0)⟩
   have hlo:(lo = none/\(0:Nat) = 0)∨∃ y k,lo = some y/\a.eval y = .int k ((0:Nat):Int):=(hz lo e2).imp (fun q=>⟨q,rfl⟩) fun q=>q;have hhi:(hi = none/\(0:Nat) = 0)∨∃ y k,hi = some y/\a.eval y = .int k ((0:Nat):Int):=(hz hi e3).imp (fun q=>⟨q,rfl⟩) fun q=>q
   have hmx:∃ m:Option Nat,m.getD 0 = 0/\((mx = none/\m = none)∨∃ y k l,mx = some y/\m = some l/\a.eval y = .int k (l:Int)):=by
    rcases hz mx e4 with q | ⟨y,k,q1,q2⟩
    ·exact ⟨none,rfl,.inl ⟨q,rfl⟩⟩
    ·exact ⟨some 0,rfl,.inr ⟨y,k,0,q1,rfl,q2⟩⟩
   obtain ⟨m,hm0,hmx⟩:=hmx;have hb:=qez (P:=P) (w:=w) (isS:=true) (cap:=0) hlo hhi hmx hm (jki 0) (by omega) (by omega);rw [hm0] at hb;refine qai hr (hrun none 0 0 0 0 0 hev hb) hk ?_;simpa using qak.nil
 split at hi'
 ·rename_i xs cap hx;have rx:=qd5 hr hx;obtain ⟨l,hi',hlo⟩:=qen hr hi';obtain ⟨u,hi',hhi⟩:=qen hr hi';obtain ⟨m,hi',hmx⟩:=qno hr hi';obtain ⟨hlu,hul,hsel,hmok,hk⟩:=hi';generalize hev:a.eval x = r at rx
  cases rx with
  | slnil _ base rcap hc hb=>
   obtain ⟨m1,m2⟩:=qmu (rcap:=rcap) hmok hul (Nat.zero_le _);have hlu0:l = 0/\u = 0:=by simp at hul; omega
   obtain ⟨rfl,rfl⟩:=hlu0;refine qai hr (hrun _ _ _ _ _ _ hev (qez hlo hhi hmx hm hlu m1 m2)) hk ?_;simp only [List.drop_nil,List.take_nil];refine .slnil _ _ _ (qfa hc) ?_;rcases hb with hb | hb
   ·left; omega
   ·right;split
    ·exact hb
    ·simpa using hb
  | sl _ _ rb ro rcap sz cells hne hG hsz' hb hl hc hh hoo=>
   obtain ⟨m1,m2⟩:=qmu (rcap:=rcap) hmok hul hl;refine qai hr (hrun _ _ _ _ _ _ hev (qez hlo hhi hmx hm hlu m1 m2)) hk ?_;have hlen:((xs.drop l).take (u - l)).length = u - l:=by simp; omega
   by_cases hul':u = l
   ·subst hul';have e0:(xs.drop u).take (u - u) = []:=by simp
    rw [e0,Nat.sub_self];refine .slnil _ _ _ (qfa hc) (.inr ?_);split <;> rfl
   ·have hml:¬ m.getD rcap = l:=by omega
    rw [if_neg hml]
    have hszl:l = 0∨sz = ty.2.1:=by
     rcases hsel with h3 | h3 | h3
     ·exact .inl h3
     ·exact absurd h3 hul'
     ·right; rw [<- h3,hsz' l (by omega)]
    have hadd:(some (⟨rb,ro,none⟩:Addr)).map (·.add (l * ty.2.1)) = some ⟨rb,ro + l * sz,none⟩:=by
     simp only [Option.map_some,Addr.add_lit];rcases hszl with h3 | h3
     ·subst h3; simp
     ·rw [h3]
    rw [hadd]
    have hget:∀ i,i < u - l->((xs.drop l).take (u - l)).getD i .undef = xs.getD (l + i) .undef:=by
     intro i hi;simp only [jkd,List.getElem?_take,if_pos hi,List.getElem?_drop]
    have hfin:=qak.sl (G:=G) (M:=M) ((xs.drop l).take (u - l)) (qgo l cap m) rb (ro + l * sz) (m.getD rcap - l) sz cells (fun e=>by rw [e] at hlen; simp at hlen; omega) hG (fun i hi=>?_) ?_ (by omega) (qfa hc) (fun i j hi hj=>?_) (fun i j hi hj=>?_)
    ·rw [hlen] at hfin; exact hfin
    ·rw [hlen] at hi; rw [hget i hi]; exact hsz' _ (by omega)
    ·rw [hlen];have:l * sz + (u - l) * sz = u * sz:=by rw [<- Nat.add_mul]; congr 1; omega
     have:u * sz≤xs.length * sz:=Nat.mul_le_mul_right _ hul;omega
    ·rw [hlen] at hi; rw [hget i hi];have:=hh (l + i) j (by omega) hj;rw [Nat.add_mul,<- Nat.add_assoc] at this; exact this
    ·rw [hlen] at hi;have:=hoo (l + i) j (by omega) hj;rw [Nat.add_mul,<- Nat.add_assoc] at this; exact this
 ·rename_i b g off len cap hx;split at hi'
  ·rename_i g' sz' es hb;obtain ⟨rfl,rfl,hi'⟩:=hi';have rx:=qd5 hr hx;obtain ⟨l,hi',hlo⟩:=qen hr hi';obtain ⟨u,hi',hhi⟩:=qen hr hi';obtain ⟨m,hi',hmx⟩:=qno hr hi';obtain ⟨hlu,hul,hmok,hk⟩:=hi';obtain ⟨mb0,q1,q2,q3,q4⟩:=hr.sim.hb b _ hb;generalize hev:a.eval x = r at rx
   cases rx with
   | ref _ _ _ _ _ ra rcap mb hM hg hl hcc hh=>
    rw [q1] at hM; cases hM;obtain ⟨m1,m2⟩:=qmu (rcap:=rcap) hmok hul hl;refine qai hr (hrun _ _ _ _ _ _ hev (qez hlo hhi hmx hm hlu m1 m2)) hk ?_;refine .ref _ _ _ _ _ _ _ mb0 q1 (by omega) (by omega) (qfa hcc) fun _=>?_;have hre:=hh q2.symm
    cases hreal:mb0.real with
    | none=>
     simp only [qb4,hreal] at hre ⊢;obtain ⟨rfl,rfl⟩:=hre;exact ⟨by omega,by omega⟩
    | some rb=>
     simp only [qb4,hreal] at hre ⊢;by_cases hml:m.getD rcap = l
     ·exact .inr ⟨by omega,by omega⟩
     ·rcases hre with ⟨rfl,hroom⟩ | ⟨q,q'⟩
      ·left;rw [if_neg hml];simp only [Option.map_some,Addr.add_lit];refine ⟨by rw [q3,Nat.add_mul]; simp [Nat.add_assoc],by omega⟩
      ·exact .inr ⟨by omega,by omega⟩
  ·exact hi'.elim
 ·exact hi'.elim
theorem qo7 (hr:R bs n gl G M fr h a w) {o:Oper} {t:TypeId} {x:Operand} {lo hi:Option Operand} {Q:Exit->Act->World->Prop} {K:V->Hp->Prop} (ho:o.op = .slice t x lo hi none)
  (h1:P.underlying t = some .string) {id:Nat} (hi':qa8 P gl id fr h K (.sliceS (co x) (lo.map co) (hi.map co))):o.wp P a w (qan K G M w o a h) Q:=by
 simp only [qa8] at hi';split at hi'
 ·rename_i s hx;have ex:=qa7 (qat hr hx);obtain ⟨l,hi',hlo⟩:=qen hr hi';obtain ⟨u,hi',hhi⟩:=qen hr hi';obtain ⟨hlu,hul,hk⟩:=hi';have hsz:(⟨s.toArray⟩:ByteArray).size = s.length:=rfl;have hb:=qez (P:=P) (w:=w) (isS:=false) (len:=s.length) (cap:=s.length) (mx:=none) (m:=none) hlo hhi (.inl ⟨rfl,rfl⟩) (by simp) hlu (by simpa using hul) (by simp)
  have hex:(⟨s.toArray⟩:ByteArray).extract l u = ⟨((s.drop l).take (u - l)).toArray⟩:=by
   apply ByteArray.ext;simp [ByteArray.data_extract]
  refine qai hr ?_ hk (.str _);simp only [Option.map_none] at hb;simp [execOp,ho,Instr.sliceAt,Instr.slice,ex,underlying,h1,hsz,hb,hex]
 ·exact hi'.elim
end
end
end Go.Proofs.YtbbnmiaabmbheaaGreatDoor
