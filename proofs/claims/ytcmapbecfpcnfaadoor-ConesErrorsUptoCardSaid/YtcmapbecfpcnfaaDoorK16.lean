/- Cones: the contracts of the reference: Seen, Dominators, Stem, Meets; the law's set. Conditions: none. -/
import Derived.Test.YtcmapbecfpcnfaaDoorK13
set_option linter.unusedSimpArgs false
set_option linter.unusedVariables false
namespace Go.Proofs.YtcmapbecfpcnfaaDoor
open Go
structure Ci.fit (c : Ci) : Prop where
  wf : c.wf
  ck : chkE c = 0
  n : c.n.length ≤ 20
  l : c.lens
  o : (obsL c).length ≤ 1000000000
theorem lset_c (n : Nat) (hn : n < 1000000) (D : Nat→Bool) (cap : Option Nat) : PureC Tryd.prog gl0 27 [.sl (boolsV n D) cap] (.sl (natsV (fL n D)) none):=by
  have key : PureC Tryd.prog gl0 27 [.sl (boolsV n D) cap] (listV (natsV (fL n D))):=by
    refine PureC.of_W 1 ok27 rfl ?_
    simp [i27,x27]
    refine LoopP.of (X:=AcSt) (fun z=>[(4,natV z.i),(0,.sl (boolsV n D) cap),(3,accV 18 z.a)]) (fun z=>accH 18 1 z.a)
      (fun z=>z.i ≤ n∧(z.a = none∨accL z.a ≠ [])∧accL z.a = natsV (fL z.i D)) (fun z=>n - z.i) ⟨0,none⟩ ⟨by simp,by simp,by simp [accL,fL,natsV]⟩ (by simp [natV,accV]) (by simp [accH]) ?_
    rintro ⟨i,acc⟩ ⟨h1,q2,q3⟩
    dsimp only at h1 q2 q3 ⊢
    simp [natV]
    have hll : (accL acc).length ≤ i:=by rw [q3,natsV_length]; exact fL_len i D
    refine BrB.of (fun hb=>?_) (fun hb=>?_)
    · have hi : i < n:=of_decide_eq_true hb
      have hw:=wrapN i (by omega)
      have hs:=fL_succ i D
      cases hD : D i with
      | false=>
        simp [hD] at hs
        skip
        simp [hi,boolsV_get,hD,hw]
        exact ⟨⟨i + 1,acc⟩,⟨hi,q2,by dsimp only; rw [hs]; exact q3⟩,by simp,by cases acc <;> simp [accH],by dsimp only; omega⟩
      | true=>
        simp [hD] at hs
        skip
        have hn2 : natsV (fL (i + 1) D) = natsV (fL i D) ++ [.int .i64 (i : Int)]:=by rw [hs]; simp [natsV,natV]
        cases acc with
        | none=>
          simp only [accL] at q3
          simp [accV,accH,hi,boolsV_get,hD,hw]
          refine fun gf5 gf6=>⟨⟨i + 1,some (gf6 18,[.int .i64 i])⟩,⟨hi,by simp [accL],by dsimp only; rw [hn2,← q3]; rfl⟩,by simp,by simp,by dsimp only; omega⟩
        | some gl=>
          obtain ⟨g,l⟩:=gl
          simp only [accL] at q3 hll
          have hle : l.length + 1 ≤ 274877906944:=by omega
          simp [accV,accH,hi,boolsV_get,hD,hw,hle]
          refine fun gf5 gf6=>⟨⟨i + 1,some (gf6 18,l ++ [.int .i64 i])⟩,⟨hi,by simp [accL],by dsimp only [accL]; rw [hn2,← q3]⟩,by simp,by simp,by dsimp only; omega⟩
    · have hi : i = n:=by have:=of_decide_eq_false hb; omega
      subst hi
      cases acc with
      | none=>
        simp only [accL] at q3
        rw [← q3]
        simp [accV,listV]
      | some gl=>
        obtain ⟨g,l⟩:=gl
        simp only [accL] at q3
        subst q3
        simp [accV,accH,map_frz_pure (natsV_pure _)]
        rw [List.take_of_length_le (by simp)]
        cases hf : fL i D with
        | nil=>rw [hf] at q2; simp [accL,natsV] at q2
        | cons x l=>rfl
  refine PureC.wide key (AllLe.refl _) ?_
  cases fL n D with
  | nil=>exact .nil'
  | cons x l=>exact .refl _
noncomputable def dmB (c : Ci) (n i : Nat) : Bool:=bP (Dm c.g (Pp c) n i)
end Go.Proofs.YtcmapbecfpcnfaaDoor
namespace Go.Proofs.YtcmapbecfpcnfaaDoor
open Go
structure RsSt where
  i : Nat
  r : Option Nat
end Go.Proofs.YtcmapbecfpcnfaaDoor
namespace Go.Proofs.YtcmapbecfpcnfaaDoor
open Go
@[simp] theorem cx_cells (x : Cx) : x.v.cells = [u8V x.n,u8V x.f,u8V x.d0,u8V x.d1,.bool x.bus,.bool x.mem,u8V x.p0,u8V x.p1,u8V x.p2,u8V x.p3,.sl (x.g.map Gx.v) none,.sl (x.o.map u8V) none]:=rfl
@[simp] theorem cx_cellsOk (x : Cx) : x.v.cellsOk = true:=rfl
end Go.Proofs.YtcmapbecfpcnfaaDoor
