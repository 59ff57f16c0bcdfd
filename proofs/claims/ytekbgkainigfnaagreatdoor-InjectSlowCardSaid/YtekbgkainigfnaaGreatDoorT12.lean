/- Transitions: slow lines against stuck ones, when the values are known. No program stands in it. Conditions: none. -/
import Derived.Test.YtekbgkainigfnaaGreatDoorJ7
namespace Go.Proofs.YtekbgkainigfnaaGreatDoor
open Go
theorem not1 {v : Nat} (h : v ≤ 1) : notN v ≤ 1:=by unfold notN; rw [if_pos h]; omega
def Ci.plain (c : Ci) : Prop:=∀ n,n < c.n.length→combC c n = true→1 ≤ (c.nd n).k∧(c.nd n).k ≤ 11∧widB (c.nd n).k (c.nd n).i.length = true
theorem cons_self (a : List Nat) : cons a a = []:=by
  unfold cons conL
  rw [List.filter_eq_nil_iff]
  intro i _
  simp [conB]
theorem seen_self (O S : List Nat) : seenB O S O S = false:=by unfold seenB; rw [cons_self,cons_self]; rfl
theorem clean_id {v : Nat} (h : v ≤ 3) : clean v = v:=by unfold clean; rw [if_neg (by omega)]
theorem net3 {c : Ci} {p : Pt} (hp : p.fit c) (n : Nat) : netN c p n ≤ 3:=by
  rw [netN_M]
  exact evlM_le (fun _ _ h=>h) _ _ (ini_le hp) n
theorem obsMO_same {c : Ci} (hg : c.good) {M : Nat→Nat} {p : Pt} (hp : p.fit c) (hM : ∀ n,n < c.n.length→M n = netN c p n) : obsMO c M = obsO c (netN c p):=by
  unfold obsMO obsO
  refine List.map_congr_left fun x hx=>?_
  have h:=hg.o hx
  rw [hM _ (by omega),clean_id (net3 hp _)]
theorem obsMS_same {c : Ci} (hg : c.good) {M : Nat→Nat} {Q : Nat→Nat→Nat→Nat} {p : Pt} (hp : p.fit c) (hM : ∀ n,n < c.n.length→M n = netN c p n)
    (hQ : ∀ n,n < c.n.length→∀ k (hk : k < (c.nd n).i.length),Q n k (netN c p ((c.nd n).i[k]).toNat) = netN c p ((c.nd n).i[k]).toNat) : obsMS c Q M = obsS c (netN c p):=by
  unfold obsMS obsS
  refine List.map_congr_left fun n hn=>?_
  obtain ⟨h,x,hx,h0,h1,-⟩:=nd_dff hg hn
  have hnd : (c.nd n).i = [x]:=by rw [c.nd_get h]; exact hx
  have hq:=hQ n h 0 (by rw [hnd]; simp)
  have hx2:=hM x.toNat (by omega)
  have h3:=net3 hp x.toNat
  unfold nxtM nxtN
  have hr : rdsM c Q n M = [netN c p x.toNat]:=by
    unfold rdsM
    simp only [hnd] at hq ⊢
    simp only [List.getElem_cons_zero] at hq
    simp [hx2,hq]
  rw [hr,hnd]
  simp only [List.getD_cons_zero]
  rw [clean_id h3]
  unfold rdN
  split <;> omega
theorem unseen {c : Ci} (hg : c.good) {f : Ft} (_hf : f.ok c) {G : Nat→Nat} {b : Pt} (hb : b.fit c) (hG : G (netN c b (f.net c)) = netN c b (f.net c)) :
    seenB (obsO c (netN c b)) (obsS c (netN c b)) (obsMO c (netM c (atW f G) (atQ f G) b)) (obsMS c (atQ f G) (netM c (atW f G) (atQ f G) b)) = false:=by
  have hW : ∀ n,n < c.n.length→atW f G n (netN c b n) = netN c b n:=fun n hn=>by
    unfold atW
    split
    · rename_i h
      have : f.net c = n:=by unfold Ft.net; rw [if_pos h.1,h.2]
      rw [this] at hG; exact hG
    · rfl
  have hQ : ∀ n,n < c.n.length→∀ k (hk : k < (c.nd n).i.length),atQ f G n k (netN c b ((c.nd n).i[k]).toNat) = netN c b ((c.nd n).i[k]).toNat:=fun n hn k hk=>by
    unfold atQ
    split
    · rename_i h
      obtain ⟨h1,rfl,h3⟩:=h
      have : f.net c = ((c.nd f.n).i[k]).toNat:=by
        unfold Ft.net
        rw [if_neg h1,← h3,Nat.add_sub_cancel,List.getD_eq_getElem?_getD,List.getElem?_eq_getElem hk]; rfl
      rw [this] at hG; exact hG
    · rfl
  have hM:=netM_same hg hg.ord hW hQ
  rw [obsMO_same hg hb hM,obsMS_same hg hb hM hQ]
  exact seen_self _ _
noncomputable def stkB (c : Ci) (f : Ft) (b : Pt) : Bool:=seenB (obsO c (netN c b)) (obsS c (netN c b)) (obsMO c (netM c (atW f fun _=>f.v) (atQ f fun _=>f.v) b)) (obsMS c (atQ f fun _=>f.v) (netM c (atW f fun _=>f.v) (atQ f fun _=>f.v) b))
def Ft.opp (f : Ft) : Ft:={ f with m:=0,v:=notN f.v }
theorem and0 (w : Nat) : logE 5 [0,w] = 0:=by simp [logE,kLo,kHi,tLo,tHi,gateN,dec]
theorem or1 (w : Nat) : logE 7 [1,w] = 1:=by simp [logE,kLo,kHi,tLo,tHi,gateN,dec]
theorem and1 {w : Nat} (h : w ≤ 1) : logE 5 [1,w] = w:=by
  have : w = 0∨w = 1:=by omega
  rcases this with rfl | rfl <;> simp [logE,kLo,kHi,tLo,tHi,gateN,dec]
theorem or0 {w : Nat} (h : w ≤ 1) : logE 7 [0,w] = w:=by
  have : w = 0∨w = 1:=by omega
  rcases this with rfl | rfl <;> simp [logE,kLo,kHi,tLo,tHi,gateN,dec]
theorem pairB_at {c : Ci} (hg : c.good) {f : Ft} (hf : f.ok c) {a b : Pt} (hb : b.fit c) (h1 : netN c a (f.net c) ≤ 1) (h2 : netN c b (f.net c) ≤ 1) :
    pairB c f a b = (decide (netN c a (f.net c) = notN f.v) && stkB c f.opp b):=by
  have hv:=hf.v
  have hvn : notN f.v = 1 - f.v:=by unfold notN; rw [if_pos hv]
  by_cases hA : netN c a (f.net c) = f.v
  · have hl : (decide (netN c a (f.net c) = notN f.v)) = false:=by
      rw [decide_eq_false_iff_not,hvn]; omega
    rw [hl,Bool.false_and]
    refine unseen hg hf hb ?_
    unfold slG
    rw [hA]
    have : f.v = 0∨f.v = 1:=by omega
    rcases this with e | e
    · rw [e]; exact or0 h2
    · rw [e]; exact and1 h2
  · have hA' : netN c a (f.net c) = 1 - f.v:=by omega
    have hG : slG c f a = fun _=>notN f.v:=by
      funext w
      unfold slG
      rw [hA',hvn]
      have : f.v = 0∨f.v = 1:=by omega
      rcases this with e | e
      · rw [e]; exact or1 w
      · rw [e]; exact and0 w
    have hP : pairB c f a b = stkB c f.opp b:=by unfold pairB slM; rw [hG]; rfl
    rw [hP,decide_eq_true (by rw [hvn]; exact hA'),Bool.true_and]
end Go.Proofs.YtekbgkainigfnaaGreatDoor
