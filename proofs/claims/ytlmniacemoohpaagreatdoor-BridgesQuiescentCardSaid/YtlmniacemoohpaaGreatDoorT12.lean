/- Transitions: slow lines against stuck ones, when the values are known. No program stands in it. Conditions: none. -/
import Derived.Test.YtlmniacemoohpaaGreatDoorJ7
set_option linter.unusedSimpArgs false
set_option linter.unusedVariables false
namespace Go.Proofs.YtlmniacemoohpaaGreatDoor
open Go
def Ci.plain (c : Ci) : Prop:=∀ n,n < c.n.length→combC c n = true→1 ≤ (c.nd n).k∧(c.nd n).k ≤ 11∧widB (c.nd n).k (c.nd n).i.length = true
theorem cons_self (a : List Nat) : cons a a = []:=by
  unfold cons conL
  rw [List.filter_eq_nil_iff]
  intro i _
  simp [conB]
theorem seen_self (O S : List Nat) : seenB O S O S = false:=by unfold seenB; rw [cons_self,cons_self]; rfl
theorem clean_id {v : Nat} (h : v ≤ 3) : clean v = v:=by unfold clean; rw [if_neg (by omega)]
theorem net3 {c : Ci} {p : Pt} (hp : p.fit c) (n : Nat) : netN c p n ≤ 3:=by
  rw [netN_M]
  exact evlM_le (fun _ _ h=>h) _ _ (ini_le hp) n
theorem obsMO_same {c : Ci} (hg : c.good) {M : Nat→Nat} {p : Pt} (hp : p.fit c) (hM : ∀ n,n < c.n.length→M n = netN c p n) : obsMO c M = obsO c (netN c p):=by
  unfold obsMO obsO
  refine List.map_congr_left fun x hx=>?_
  have h:=hg.o hx
  rw [hM _ (by omega),clean_id (net3 hp _)]
theorem obsMS_same {c : Ci} (hg : c.good) {M : Nat→Nat} {Q : Nat→Nat→Nat→Nat} {p : Pt} (hp : p.fit c) (hM : ∀ n,n < c.n.length→M n = netN c p n)
    (hQ : ∀ n,n < c.n.length→∀ k (hk : k < (c.nd n).i.length),Q n k (netN c p ((c.nd n).i[k]).toNat) = netN c p ((c.nd n).i[k]).toNat) : obsMS c Q M = obsS c (netN c p):=by
  unfold obsMS obsS
  refine List.map_congr_left fun n hn=>?_
  obtain ⟨h,x,hx,h0,h1,-⟩:=nd_dff hg hn
  have hnd : (c.nd n).i = [x]:=by rw [c.nd_get h]; exact hx
  have hq:=hQ n h 0 (by rw [hnd]; simp)
  have hx2:=hM x.toNat (by omega)
  have h3:=net3 hp x.toNat
  unfold nxtM nxtN
  have hr : rdsM c Q n M = [netN c p x.toNat]:=by
    unfold rdsM
    simp only [hnd] at hq ⊢
    simp only [List.getElem_cons_zero] at hq
    simp [hx2,hq]
  rw [hr,hnd]
  simp only [List.getD_cons_zero]
  rw [clean_id h3]
  unfold rdN
  split <;> omega
end Go.Proofs.YtlmniacemoohpaaGreatDoor
