/- Cones: the contract of slices.Repeat of one element, and of the order of a small circuit. Conditions: none. -/
import Derived.Test.YtcmapbecfpcnfaaDoorK7
set_option linter.unusedSimpArgs false
set_option linter.unusedVariables false
namespace Go.Proofs.YtcmapbecfpcnfaaDoor
open Go
theorem mul_c (m : Nat) (h : m < 24) : PureC Tryd.prog gl0 109 [.int .u64 1,.int .u64 (m : Int)] (.tup [.int .u64 0,.int .u64 (m : Int)]):=by
  have hc : m = 0∨m = 1∨m = 2∨m = 3∨m = 4∨m = 5∨m = 6∨m = 7∨m = 8∨m = 9∨m = 10∨m = 11∨m = 12∨m = 13∨m = 14∨m = 15∨m = 16∨m = 17∨m = 18∨m = 19∨m = 20∨m = 21∨m = 22∨m = 23:=by omega
  rcases hc with rfl | rfl | rfl | rfl | rfl | rfl | rfl | rfl | rfl | rfl | rfl | rfl | rfl | rfl | rfl | rfl | rfl | rfl | rfl | rfl | rfl | rfl | rfl | rfl
  all_goals exact PureC.of_run FTt_ok (m:=100000) (d:=2) (by kernel_rfl)
def rpV (n m : Nat) : List V:=List.replicate n (.int .i64 (-1)) ++ List.replicate (m - n) (.int .i64 0)
@[simp] theorem rpV_length {n m : Nat} (h : n ≤ m) : (rpV n m).length = m:=by simp [rpV]; omega
theorem rpV_step {n m : Nat} (h : n ≤ m) : (rpV n m).take n ++ ((rpV n m).take n).take (min n (m - n)) ++ (rpV n m).drop (n + min n (m - n)) = rpV (n + min n (m - n)) m:=by
  have h1 : (rpV n m).take n = List.replicate n (.int .i64 (-1)):=by
    unfold rpV; rw [List.take_left' (by simp)]
  have h2 : (rpV n m).drop (n + min n (m - n)) = List.replicate (m - (n + min n (m - n))) (.int .i64 0):=by
    unfold rpV
    rw [← List.drop_drop,List.drop_left' (by simp),List.drop_replicate]
    congr 1; omega
  rw [h1,h2]
  unfold rpV
  rw [List.take_replicate,List.replicate_append_replicate]
  congr 2; omega
theorem repeat_c (m : Nat) (h0 : 0 < m) (h : m < 24) : OwnC Tryd.prog gl0 80 [.sl [.int .i64 (-1)] (some 1),.int .i64 (m : Int)] (OneB 1 (List.replicate m (.int .i64 (-1))) (some m)):=by
  refine OwnC.of_W ok80 rfl ?_
  have hm:=mul_c m h
  have hc : IntKind.u64.wrap (m : Int) = (m : Int):=by
    show ((m : Int) % 18446744073709551616) = _
    omega
  have hc1 : IntKind.u64.wrap 1 = 1:=rfl
  have hi : IntKind.i64.wrap (m : Int) = (m : Int):=by rw [wrap_i64] <;> omega
  simp [i80,x80,hc,hc1]
  refine CallO.pure hm (by simp) ?_
  have hle : ¬ (9223372036854775807 : Int) < (m : Int):=by omega
  simp [hle,hi,nop,show m ≤ 549755813888 by omega]
  have hm1 : min 1 m = 1:=by omega
  have hini : [V.int IntKind.i64 (-1)] ++ List.replicate (m - 1) (V.int IntKind.i64 0) = rpV 1 m:=rfl
  intro gf
  generalize gf 30 = g
  rw [hm1]
  refine LoopP.of (X:=Nat) (fun n=>[(8,natV n),(7,.ref 30 g 0 m (some m))]) (fun n=>[(30,.row g 1 (rpV n m))]) (fun n=>1 ≤ n∧n ≤ m) (fun n=>m - n) 1 ⟨by simp,h0⟩ (by simp [natV]) (by simp [← hini]) ?_
  rintro n ⟨h1,h2⟩
  simp [natV]
  refine BrB.of (fun hb=>?_) (fun hb=>?_)
  · have hn : n < m:=of_decide_eq_true hb
    simp [nop,h2,natV]
    exact ⟨n + min n (m - n),⟨by omega,by omega⟩,addN rfl (by omega),by rw [← List.append_assoc]; exact rpV_step h2,by omega⟩
  · have hn : n = m:=by have:=of_decide_eq_false hb; omega
    subst hn
    have he : rpV n n = List.replicate n (.int .i64 (-1)):=by simp [rpV]
    simp [he]
    refine .move 30 0 _ (by simp) (by simp; rfl) fun g=>.done ?_
    simp
    exact ⟨[(0,.row g 1 (List.replicate n (.int .i64 (-1))))],by simp [List.map_replicate],g,by simp,rfl⟩
noncomputable def ordL (c : Ci) : List Nat:=lvL c.n.length (lvOf c) c.n.length
theorem ordL_full {c : Ci} (hv : c.val) (ha : acyc c) : c.n.length ≤ (ordL c).length:=lvL_all fun x hx=>ha.lv.lt hv.g x hx
theorem ordL_mem {c : Ci} (hv : c.val) (ha : acyc c) {x : Nat} : x ∈ ordL c↔x < c.n.length:=by
  unfold ordL
  rw [lvL_mem]
  exact ⟨fun h=>h.1,fun h=>⟨h,ha.lv.lt hv.g x h⟩⟩
theorem ordL_len {c : Ci} (hv : c.val) (ha : acyc c) : (ordL c).length = c.n.length:=Nat.le_antisymm (lvL_len _) (ordL_full hv ha)
theorem ordL_pw (c : Ci) : (ordL c).Pairwise (lexlt (lvOf c)):=lvL_pw _
theorem orderP_c (c : Ci) (hwf : c.wf) (h0 : chkE c = 0) (h20 : c.n.length ≤ 20) : PureC Tryd.prog gl0 36 [c.v] (okV (ordL c)):=by
  obtain ⟨hv,ha⟩:=ck_val hwf h0
  refine PureC.of_own 2 (order_c c hwf) fun v h hk=>?_
  rcases hk with ⟨h1,-,-⟩ | ⟨-,g,L,rfl,rfl,hL,hp⟩
  · exact absurd h0 h1
  · have hLl:=hL.len
    have e : ordL c = L:=lvL_eq (ordL_full hv ha) hL (hp h20)
    rw [okV,e,hLl]
    simp [frz,V.mapR,V.mapRL,hLl,map_frz_pure (natsV_pure _)]
    exact List.take_of_length_le (by simp [hLl])
theorem order_err (c : Ci) (hwf : c.wf) {e : Int} (he : chkE c = e) (h0 : e ≠ 0) : PureC Tryd.prog gl0 36 [c.v] (.tup [.nil,.int .i64 e]):=by
  refine PureC.of_own 2 (order_c c hwf) fun v h hk=>?_
  rcases hk with ⟨-,rfl,rfl⟩ | ⟨h1,-⟩
  · simp [frz,V.mapR,V.mapRL,he]
  · exact absurd (he.symm.trans h1) h0
end Go.Proofs.YtcmapbecfpcnfaaDoor
namespace Go.Proofs.YtcmapbecfpcnfaaDoor
open Go
noncomputable def plc (c : Ci) (x : Nat) : Nat:=if x < c.n.length then (ordL c).idxOf x else c.n.length
theorem plc_get {c : Ci} (hv : c.val) (ha : acyc c) {x : Nat} (hx : x < c.n.length) : ∃ h : plc c x < (ordL c).length,(ordL c)[plc c x] = x:=by
  have hm:=(ordL_mem hv ha).2 hx
  have e : plc c x = (ordL c).idxOf x:=if_pos hx
  rw [e]
  exact ⟨List.idxOf_lt_length_of_mem hm,List.getElem_idxOf _⟩
theorem plc_of {c : Ci} (hv : c.val) (ha : acyc c) {i : Nat} (hi : i < (ordL c).length) : plc c (ordL c)[i] = i∧(ordL c)[i] < c.n.length:=by
  have hx : (ordL c)[i] < c.n.length:=(ordL_mem hv ha).1 (List.getElem_mem hi)
  obtain ⟨h1,h2⟩:=plc_get hv ha hx
  refine ⟨?_,hx⟩
  have hnd : (ordL c).Nodup:=lex_nodup (ordL_pw c)
  exact (List.getElem_inj hnd).1 h2
theorem plc_ok {c : Ci} (hv : c.val) (ha : acyc c) : PlOk c.g c.n.length (lvOf c) (plc c) where
  d:=ci_dag hv ha
  lt:=fun x hx=>by obtain ⟨h1,-⟩:=plc_get hv ha hx; rw [ordL_len hv ha] at h1; exact h1
  e:=if_neg (Nat.lt_irrefl _)
  lv:=fun x y hx hy h=>by
    obtain ⟨h1,h2⟩:=plc_get hv ha hx
    obtain ⟨h3,h4⟩:=plc_get hv ha hy
    refine Nat.lt_of_not_le fun hle=>?_
    rcases Nat.lt_or_eq_of_le hle with h5 | h5
    · have:=List.pairwise_iff_getElem.1 (ordL_pw c) _ _ h3 h1 h5
      rw [h2,h4] at this
      rcases this with h | ⟨h,-⟩ <;> omega
    · have e : x = y:=by rw [← h2,← h4]; simp only [h5]
      rw [e] at h; omega
  inj:=fun x y hx hy h=>by
    obtain ⟨h1,h2⟩:=plc_get hv ha hx
    obtain ⟨h3,h4⟩:=plc_get hv ha hy
    rw [← h2,← h4]; simp only [h]
noncomputable def nxOf (c : Ci) (x : Nat) : Option Nat:=
  if bP (x < c.n.length∧Sn c.g (Pp c) none x) = true then some (Classical.epsilon fun b=>End c.g (Pp c) c.n.length b∧∀ j,Dm c.g (Pp c) x j↔Cm c.g (Pp c) c.n.length b j) else none
theorem nx_uni {c : Ci} (hd : Dag c.g c.n.length (lvOf c)) {x b d : Nat} (hb : End c.g (Pp c) c.n.length b∧∀ j,Dm c.g (Pp c) x j↔Cm c.g (Pp c) c.n.length b j) (hd2 : End c.g (Pp c) c.n.length d∧∀ j,Dm c.g (Pp c) x j↔Cm c.g (Pp c) c.n.length d j) : b = d:=by
  have key : ∀ {b d : Nat},(∀ j,Dm c.g (Pp c) x j↔Cm c.g (Pp c) c.n.length b j)→(∀ j,Dm c.g (Pp c) x j↔Cm c.g (Pp c) c.n.length d j)→b < c.n.length→d < c.n.length∧(b = d∨lvOf c d < lvOf c b):=fun {b d} h1 h2 hb=>by
    obtain ⟨h3,h4⟩:=(h2 b).1 ((h1 b).2 ⟨hb,.inl rfl⟩)
    exact ⟨h3,h4.elim .inl fun q=>.inr (q.lv hd)⟩
  rcases hb.1 with e1 | ⟨e1,-⟩
  · rcases hd2.1 with e2 | ⟨e2,-⟩
    · rw [e1,e2]
    · have:=(key hd2.2 hb.2 e2).1; omega
  · obtain ⟨e2,h1⟩:=key hb.2 hd2.2 e1
    rcases h1 with h1 | h1
    · exact h1
    · rcases (key hd2.2 hb.2 e2).2 with h2 | h2
      · exact h2.symm
      · omega
theorem nxOf_eq {c : Ci} (hd : Dag c.g c.n.length (lvOf c)) {nx : Nat→Option Nat} {x : Nat} (hx : x < c.n.length) (h : NxOk c.g (Pp c) c.n.length nx x) : nx x = nxOf c x:=by
  unfold nxOf
  rcases h with ⟨h1,h2⟩ | ⟨b,h1,h2,h3,h4⟩
  · rw [if_neg (fun q=>h2 (bP_iff.1 q).2),h1]
  · rw [if_pos (bP_iff.2 ⟨hx,h2⟩),h1]
    congr 1
    exact nx_uni hd ⟨h4,h3⟩ (Classical.epsilon_spec (p:=fun b=>End c.g (Pp c) c.n.length b∧∀ j,Dm c.g (Pp c) x j↔Cm c.g (Pp c) c.n.length b j) ⟨b,h4,h3⟩)
theorem NxOk.congr {g : Nat→List Nat} {P : Nat→Prop} {N : Nat} {nx nx' : Nat→Option Nat} {n : Nat} (h : NxOk g P N nx n) (e : nx n = nx' n) : NxOk g P N nx' n:=by
  unfold NxOk at *; rw [← e]; exact h
noncomputable def nxT (c : Ci) (k x : Nat) : Option Nat:=if bP (x < c.n.length∧c.n.length ≤ plc c x + k) = true then nxOf c x else none
theorem nxT_0 {c : Ci} (hv : c.val) (ha : acyc c) (x : Nat) : nxT c 0 x = none:=if_neg fun q=>by
  obtain ⟨h1,h2⟩:=bP_iff.1 q
  have:=(plc_ok hv ha).lt x h1; omega
theorem nxT_in {c : Ci} {k x : Nat} (hx : x < c.n.length) (h : c.n.length ≤ plc c x + k) : nxT c k x = nxOf c x:=if_pos (bP_iff.2 ⟨hx,h⟩)
theorem nxT_out {c : Ci} {k x : Nat} (h : ¬ x < c.n.length) : nxT c k x = none:=if_neg fun q=>h (bP_iff.1 q).1
theorem nxT_succ {c : Ci} (hv : c.val) (ha : acyc c) {k n : Nat} (hn : n < c.n.length) (hp : plc c n + k + 1 = c.n.length) : nxT c (k + 1) = upd1 (nxT c k) n (nxOf c n):=by
  funext x
  show _ = if x = n then nxOf c n else nxT c k x
  by_cases e : x = n
  · subst e; rw [if_pos rfl,nxT_in hn (by omega)]
  · rw [if_neg e]
    unfold nxT
    congr 1
    refine propext ?_
    rw [bP_iff,bP_iff]
    refine and_congr_right fun hx=>⟨fun h=>?_,fun h=>by omega⟩
    have : plc c x ≠ plc c n:=fun q=>e ((plc_ok hv ha).inj x n hx hn q)
    omega
def optV : Option Nat→V
  | none=>.int .i64 (-1)
  | some b=>natV b
def nxV (n : Nat) (T : Nat→Option Nat) : List V:=tab (n + 1) fun x=>optV (T x)
@[simp] theorem nxV_length (n : Nat) (T : Nat→Option Nat) : (nxV n T).length = n + 1:=by simp [nxV,tab]
theorem nxV_get (n : Nat) (T : Nat→Option Nat) (i : Nat) (h : i < (nxV n T).length) : (nxV n T)[i] = optV (T i):=by simp only [nxV]; rw [tab_get]
theorem nxV_set (n : Nat) (T : Nat→Option Nat) (i b : Nat) : (nxV n T).set i (.int .i64 (b : Int)) = nxV n (upd1 T i (some b)):=by
  unfold nxV
  rw [tab_set]
  refine tab_congr fun j _=>?_
  show (if j = i then _ else _) = optV (if j = i then _ else _)
  split <;> rfl
theorem nxV_pure (n : Nat) (T : Nat→Option Nat) : V.pureL (nxV n T) = true:=by
  rw [V.pureL_iff]
  intro v hv
  unfold nxV tab at hv
  obtain ⟨j,-,rfl⟩:=List.mem_map.1 hv
  cases T j <;> rfl
theorem upd1_twice {α : Type} (f : Nat→α) (i : Nat) (a b : α) : upd1 (upd1 f i a) i b = upd1 f i b:=by
  funext j
  show (if j = i then b else if j = i then a else f j) = if j = i then b else f j
  split <;> rfl
theorem upd1_at {α : Type} (f : Nat→α) (i : Nat) (a : α) : upd1 f i a i = a:=if_pos rfl
theorem upd1_off {α : Type} (f : Nat→α) {i j : Nat} (a : α) (h : j ≠ i) : upd1 f i a j = f j:=if_neg h
end Go.Proofs.YtcmapbecfpcnfaaDoor
