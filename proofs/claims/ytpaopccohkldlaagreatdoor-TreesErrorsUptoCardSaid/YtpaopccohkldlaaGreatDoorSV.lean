/- Trees: the bulk of the arguments. Conditions: none. -/
import Derived.Test.YtpaopccohkldlaaGreatDoorSU
set_option linter.unusedSimpArgs false
set_option linter.unusedVariables false
namespace Go.Proofs.YtpaopccohkldlaaGreatDoor
open Go Go.RowKit Go.ChangeShapes
set_option maxRecDepth 100000
mutual
theorem size_encD {H : Type} : ∀ d : DataW H,(encD d).size ≤ Rows.uptoBulk d
 | .lit (.int k n)=>by simp [encD,V.size,Rows.uptoBulk]
 | .lit (.bool b)=>by simp [encD,V.size,Rows.uptoBulk]
 | .lit (.string s)=>by simp [encD,V.size,Rows.uptoBulk]
 | .lit (.float _ _)=>by simp [encD,V.size]
 | .lit .nil=>by simp [encD,V.size]
 | .nil=>by simp [encD,V.size,V.sizeL,Rows.uptoBulk]
 | .ptr d=>by simp [encD,V.size]
 | .slice es sp=>by
  have:=size_encDs es
  simp only [encD,V.size,Rows.uptoBulk]; omega
 | .agg ps=>by
  have:=size_encDc ps
  simp only [encD,V.size,Rows.uptoBulk]; omega
 | .iface t d=>by simp [encD,V.size]
 | .map es=>by simp [encD,V.size]
 | .held h=>by simp [encD,V.size]
theorem size_encDs {H : Type} : ∀ l : List (DataW H),V.sizeL (encDs l) ≤ Rows.uptoBulkAll l
 | []=>by simp [encDs,V.sizeL]
 | d :: r=>by
  have h1:=size_encD d
  have h2:=size_encDs r
  simp only [encDs,V.sizeL,Rows.uptoBulkAll]; omega
theorem size_encDc {H : Type} : ∀ l : List (DataW H),V.sizeL (encDc l) ≤ Rows.uptoBulkAll l
 | []=>by simp [encDc,V.sizeL]
 | d :: r=>by
  have h1:=size_encD d
  have h2:=size_encDc r
  simp only [encDc,V.sizeL_app,V.size_cells,Rows.uptoBulkAll]; omega
end
theorem size_small {H : Type} {ds gs : List (DataW H)} (h : Rows.uptoSmall H (ds ++ gs) = true) : V.sizeL (ds.map encD) ≤ 1048576:=by
 have h1 : Rows.uptoBulkAll (ds ++ gs) ≤ 1048576:=by simpa [Rows.uptoSmall] using h
 have h2:=size_encDs ds
 rw [encDs_map] at h2
 have h3 : ∀ a b : List (DataW H),Rows.uptoBulkAll (a ++ b) = Rows.uptoBulkAll a + Rows.uptoBulkAll b:=by
  intro a b
  induction a with
  | nil=>simp [Rows.uptoBulkAll]
  | cons x a ih=>simp only [List.cons_append,Rows.uptoBulkAll,ih]; omega
 rw [h3] at h1
 omega
theorem size_u8 (l : List Nat) : V.sizeL (l.map u8V) = l.length:=by
 induction l with
 | nil=>rfl
 | cons a r ih=>simp only [List.map_cons,V.sizeL,ih,List.length_cons,u8V,V.size]; omega
end Go.Proofs.YtpaopccohkldlaaGreatDoor
