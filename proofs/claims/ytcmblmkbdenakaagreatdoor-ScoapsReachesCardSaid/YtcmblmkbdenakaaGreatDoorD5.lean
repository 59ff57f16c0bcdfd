/- Observability: the contract of Reverse. Conditions: none. -/
import Derived.Test.YtcmblmkbdenakaaGreatDoorD3
set_option linter.unusedSimpArgs false
set_option linter.unusedVariables false
namespace Go.Proofs.YtcmblmkbdenakaaGreatDoor
open Go
def revI (L : List Nat) (i : Nat) : List Nat:=tab L.length fun t=>if t < i∨L.length - i ≤ t then L.getD (L.length - 1 - t) 0 else L.getD t 0
theorem revI_len (L : List Nat) (i : Nat) : (revI L i).length = L.length:=by simp [revI]
theorem revI_zero (L : List Nat) : revI L 0 = L:=by
 unfold revI
 refine List.ext_getElem (by simp) fun j h1 h2=>?_
 rw [tab_get,if_neg (by omega),List.getD_eq_getElem?_getD,List.getElem?_eq_getElem h2]; rfl
theorem revI_done (L : List Nat) (i : Nat) (h1 : L.length ≤ 2 * i + 1) (h2 : 2 * i ≤ L.length) : revI L i = L.reverse:=by
 unfold revI
 refine List.ext_getElem (by simp) fun j h3 h4=>?_
 have hj : j < L.length:=by simpa using h4
 rw [tab_get,List.getElem_reverse]
 split
 ·rw [List.getD_eq_getElem?_getD,List.getElem?_eq_getElem (by omega)]; rfl
 ·have : L.length - 1 - j = j:=by omega
  rw [List.getD_eq_getElem?_getD,List.getElem?_eq_getElem hj]
  simp only [Option.getD_some,this]
theorem revI_next (L : List Nat) (i : Nat) (h : 2 * i + 1 < L.length) (x y : Nat) (hx : L.getD i 0 = x) (hy : L.getD (L.length - 1 - i) 0 = y) : ((revI L i).set i y).set (L.length - 1 - i) x = revI L (i + 1):=by
 unfold revI
 rw [tab_set,tab_set]
 congr 1
 funext t
 by_cases h1 : t = L.length - 1 - i
 ·subst h1
  rw [upd1_same,if_pos (by omega),← hx]
  congr 1; omega
 rw [upd1_ne _ _ h1]
 by_cases h2 : t = i
 ·subst h2
  rw [upd1_same,if_pos (by omega),hy]
 rw [upd1_ne _ _ h2]
 by_cases h3 : t < i∨L.length - i ≤ t
 ·rw [if_pos h3,if_pos (by omega)]
 ·rw [if_neg h3,if_neg (by omega)]
theorem revI_at (L : List Nat) (i t : Nat) (h1 : ¬ (t < i∨L.length - i ≤ t)) (ht : t < (revI L i).length) : (revI L i)[t] = L.getD t 0:=by
 simp only [revI]; rw [tab_get,if_neg h1]
theorem rev_c (b g : Nat) (L : List Nat) (hl : L.length < 1000000) : ICallO Tryz.prog gl0 43 [.ref b g 0 L.length (some L.length)] [(b,.row g 1 (natsV L))]
  (fun v h=>v = .tup []∧h = [(b,.row g 1 (natsV L.reverse))]):=by
 refine CallO.of_W ok43 rfl ?_
 simp [i43,x43]
 refine LoopP.of (X:=Nat) (fun i=>[(3,.int .i64 ((L.length : Int) - 1 - i)),(2,natV i),(0,.ref b g 0 L.length (some L.length))])
  (fun i=>[(b,.row g 1 (natsV (revI L i)))])
  (fun i=>2 * i ≤ L.length) (fun i=>L.length - i) 0 (by omega) (by
   simp [natV]
   rw [wrap_i64] <;> omega) (by simp [revI_zero]) ?_
 intro i hi
 simp [natV]
 refine BrB.of (fun hb=>?_) (fun hb=>?_)
 ·have hi' : 2 * i + 1 < L.length:=by have:=of_decide_eq_true hb; omega
  have hw:=wrapN i (by omega)
  obtain ⟨j,hj⟩ : ∃ j,L.length - 1 - i = j:=⟨_,rfl⟩
  have hj2 : (L.length : Int) - 1 - i = (j : Int):=by omega
  obtain ⟨x,hx⟩ : ∃ x,L.getD i 0 = x:=⟨_,rfl⟩
  obtain ⟨y,hy⟩ : ∃ y,L.getD j 0 = y:=⟨_,rfl⟩
  have hn:=revI_next L i hi' x y hx (by rw [hj]; exact hy)
  have hix:=revI_at L i i (by omega) (by rw [revI_len]; omega)
  have hjx:=revI_at L i j (by omega) (by rw [revI_len]; omega)
  rw [hx] at hix
  rw [hy] at hjx
  rw [hj] at hn
  have hiL : i < L.length:=by omega
  have hjL : j < L.length:=by omega
  have hij : i ≠ j:=by omega
  have hs1 : ((revI L i).set i y)[j]'(by simp [revI_len,hjL]) = y:=by rw [List.getElem_set_ne hij]; exact hjx
  have hw2 : IntKind.i64.wrap ((j : Int) - 1) = (L.length : Int) - 1 - ((i + 1 : Nat) : Int):=by rw [wrap_i64] <;> omega
  simp [hj2,revI_len,hiL,hjL,natsV_get,natsV_set,hix,hjx,hw,hw2,hs1,hn]
  exact ⟨i + 1,by omega,by simp,rfl,by omega⟩
 ·have:=of_decide_eq_false hb
  have hd:=revI_done L i (by omega) hi
  rw [hd]
  simp
  exact .done (by simp)
end Go.Proofs.YtcmblmkbdenakaaGreatDoor
namespace Go.Proofs.YtcmblmkbdenakaaGreatDoor
open Go
def natsT (N : Nat) (o : Nat→Nat) : List V:=tab N fun i=>natV (o i)
theorem natsT_len (N : Nat) (o : Nat→Nat) : (natsT N o).length = N:=by simp [natsT]
theorem natsT_pure (N : Nat) (o : Nat→Nat) : V.pureL (natsT N o) = true:=tab_pure fun _=>rfl
theorem natsT_noG (N : Nat) (o : Nat→Nat) : V.noGL (natsT N o) = true:=by
 rw [V.noGL_iff]; intro v hv; unfold natsT tab at hv
 obtain ⟨a,_,rfl⟩:=List.mem_map.1 hv; rfl
theorem natsT_at (N : Nat) (o : Nat→Nat) (i : Nat) (h : i < (natsT N o).length) : (natsT N o)[i] = .int .i64 (o i):=by simp only [natsT]; rw [tab_get]; rfl
theorem natsT_set (N : Nat) (o : Nat→Nat) (i x : Nat) : (natsT N o).set i (.int .i64 (x : Int)) = natsT N (upd1 o i x):=by
 unfold natsT
 rw [tab_set]
 congr 1
 funext j
 by_cases h : j = i
 ·subst h; rw [upd1_same,upd1_same]; rfl
 ·rw [upd1_ne _ _ h,upd1_ne _ _ h]
theorem natsT_rep (N : Nat) : List.replicate N (V.int .i64 0) = natsT N fun _=>0:=by
 refine List.ext_getElem (by simp [natsT]) fun j h1 h2=>?_
 simp only [natsT]
 rw [tab_get,List.getElem_replicate]
 rfl
theorem natsT_congr {N : Nat} {f g : Nat→Nat} (h : ∀ i,i < N→f i = g i) : natsT N f = natsT N g:=tab_congr fun i hi=>by rw [h i hi]
def nevU (i : Nat) : Nat→Nat:=fun j=>if j < i then nev else 0
theorem nevU_next (i : Nat) : upd1 (nevU i) i nev = nevU (i + 1):=by
 funext j
 unfold nevU
 by_cases h : j = i
 ·subst h; rw [upd1_same,if_pos (by omega)]
 ·rw [upd1_ne _ _ h]
  by_cases h2 : j < i
  ·rw [if_pos h2,if_pos (by omega)]
  ·rw [if_neg h2,if_neg (by omega)]
def ObsK (c : Ci) (v : V) (h : Hp) : Prop:=(chkE c ≠ 0∧v = .tup [.nil,.int .i64 (chkE c)]∧h = [])∨
 (chkE c = 0∧∃ g o,v = .tup [.ref 0 g 0 c.n.length (some c.n.length),.int .i64 0]∧h = [(0,.row g 1 (natsT c.n.length o))]∧(∀ i,o i ≤ nev)∧(c.n.length ≤ 20→o = obsN c (ctl c) (ordL c)))
theorem out_in {c : Ci} (h : shE c = 0) {i : Nat} (hi : i < c.o.length) : ∃ q : Nat,c.o[i] = q∧q < c.n.length:=by
 have h1:=(sh_zero h).2.2.2.2.2
 rw [List.any_eq_false] at h1
 have h2:=h1 _ (List.getElem_mem hi)
 simp [outB] at h2
 exact ⟨c.o[i].toNat,by omega,by omega⟩
theorem dff_in {c : Ci} (hwf : c.wf) (hsh : shE c = 0) {s : Nat} (hs : s ∈ ids 14 c.n 0) : ∃ h : s < c.n.length,c.n[s].i = [(dnN c s : Int)]∧dnN c s < c.n.length:=by
 obtain ⟨h,hk⟩:=ids_lt hs
 refine ⟨h,?_⟩
 have hval:=sh_val hwf hsh
 have h14 : (c.nd s).k = 14:=by rw [c.nd_get h]; exact hk
 have hl : (c.nd s).i.length = 1:=by
  rcases nd_src hwf hsh h (by rw [h14]; rfl) with ⟨-,q⟩ | ⟨-,q⟩
  ·exact q
  ·exact absurd h14 q
 obtain ⟨x,hx⟩:=List.length_eq_one_iff.1 hl
 have hm:=hval.i s h x (by rw [hx]; simp)
 have hd : dnN c s = x.toNat:=by unfold dnN; rw [hx]; rfl
 rw [c.nd_get h] at hx
 rw [hd,hx]
 exact ⟨by rw [Int.toNat_of_nonneg hm.1],by omega⟩
theorem pnP_le (k : Nat) (p : Int) (ts : List (Nat × Nat)) : pnP k p ts ≤ nev:=by
 unfold pnP
 (repeat' split) <;> first | exact pls_le _ _ | exact Nat.le_refl _ | (simp only [nev]; omega)
structure ObS where
 d : Nat
structure ObI where
 k : Nat
set_option maxRecDepth 100000 in
theorem Observe_c (c : Ci) (hwf : c.wf) : OwnC Tryz.prog gl0 14 [c.v] (ObsK c):=by
 refine OwnC.of_W ok14 rfl ?_
 simp [i14,x14]
 intro ga
 generalize ga 1 = g1
 refine CallO.own 1000 (Control_c c hwf) (by simp) (by simp) ?_
 rintro v h (⟨h1,rfl,rfl⟩ | ⟨h0,g,f,rfl,rfl,hle,hf⟩) gf
 ·simp [h1]
  exact .done ⟨[],by simp,.inl ⟨h1,rfl,rfl⟩⟩
 obtain ⟨hsh,hac⟩:=chk_sh h0
 have hval:=sh_val hwf hsh
 obtain ⟨hlen,-,-,hol⟩:=sh_len hsh
 have hlP:=netsC_pure c.n.length f
 simp [upH,upS,Blk.rn,map_rn_pure hlP]
 generalize gf 1000 + g = g9
 refine CallO.own 2000 (order_c c hwf) (by simp) (by simp) ?_
 rintro v h (⟨h1,-⟩ | ⟨-,gL,L,rfl,rfl,hR,hpw⟩) gf2
 ·exact absurd h0 h1
 simp [upH,upS,Blk.rn,map_rn_pure (natsV_pure L)]
 generalize gf2 2000 + gL = g8
 have hLl : L.length = c.n.length:=hR.len
 intro gf3
 refine ⟨by omega,?_⟩
 generalize gf3 36 = g36
 refine LoopP.of (X:=Nat) (fun i=>[(39,natV i),(38,natV c.n.length),(8,.ref 36 g36 0 c.n.length (some c.n.length)),(6,.ref 2000 g8 0 c.n.length (some c.n.length)),(4,.ref 1000 g9 0 c.n.length (some c.n.length)),(1,.ptr 1 g1 0 0)])
  (fun i=>[(36,.row g36 1 (natsT c.n.length (nevU i))),(2000,.row g8 1 (natsV L)),(1000,.row g9 2 (netsC c.n.length f)),(1,.row g1 4 [c.v])])
  (fun i=>i ≤ c.n.length) (fun i=>c.n.length - i) 0 (by omega) (by simp [natV]) (by simp [natsT_rep]; rfl) ?_
 intro i hi
 simp [natV]
 refine BrB.of (fun hb=>?_) (fun hb=>?_)
 ·have hi':=of_decide_eq_true hb
  have hw:=wrapN i (by omega)
  have hset:=natsT_set c.n.length (nevU i) i nev
  rw [nevU_next] at hset
  simp [hi',natsT_len,natsT_at,hw]
  exact ⟨i + 1,hi',by simp,hset,by omega⟩
 have hi' : i = c.n.length:=by have:=of_decide_eq_false hb; omega
 subst hi'
 rw [natsT_congr (g:=zeroL ((outsN c).take 0) fun _=>nev) (fun i hi=>by simp [nevU,hi,zeroL])]
 simp
 have hON : (outsN c).length = c.o.length:=by simp [outsN]
 refine LoopP.of (X:=Nat) (fun i=>[(49,natV i),(48,natV c.o.length),(47,.sl (ints c.o) none),(8,.ref 36 g36 0 c.n.length (some c.n.length)),(6,.ref 2000 g8 0 c.n.length (some c.n.length)),(4,.ref 1000 g9 0 c.n.length (some c.n.length)),(1,.ptr 1 g1 0 0)])
  (fun i=>[(36,.row g36 1 (natsT c.n.length (zeroL ((outsN c).take i) fun _=>nev))),(2000,.row g8 1 (natsV L)),(1000,.row g9 2 (netsC c.n.length f)),(1,.row g1 4 [c.v])])
  (fun i=>i ≤ c.o.length) (fun i=>c.o.length - i) 0 (by omega) (by simp [natV]) (by simp) ?_
 intro i hi
 simp [natV]
 refine BrB.of (fun hb=>?_) (fun hb=>?_)
 ·have hi':=of_decide_eq_true hb
  have hw:=wrapN i (by omega)
  obtain ⟨q,hq,hqN⟩:=out_in hsh hi'
  have hset:=natsT_set c.n.length (zeroL ((outsN c).take i) fun _=>nev) q 0
  have hON2 : (outsN c)[i]'(by omega) = q:=by simp [outsN,hq]
  rw [← zeroL_snoc,← hON2,← take_snoc _ _ (by omega),hON2] at hset
  have h4 : (ints c.o)[i]'(by simpa using hi') = .int .i64 (q : Int):=by simp [ints,hq]
  simp only [Int.natCast_zero] at hset
  simp [hi',natsT_len,natsT_at,hw,h4,hqN]
  exact ⟨i + 1,hi',by simp,hset,by omega⟩
 have hi' : i = c.o.length:=by have:=of_decide_eq_false hb; omega
 subst hi'
 rw [← hON,List.take_length,show (zeroL (outsN c) fun _=>nev) = ob0 c from rfl]
 simp
 have hstt:=statesP_c c (by omega)
 rw [ofLs_ids] at hstt
 have hdff : ∀ s ∈ ids 14 c.n 0,∃ h : s < c.n.length,c.n[s].i = [(dnN c s : Int)]∧dnN c s < c.n.length:=fun s hs=>dff_in hwf hsh hs
 have hob1 : ob1 c = zeroL ((ids 14 c.n 0).map (dnN c)) (ob0 c):=rfl
 have hSl:=cnt_le 14 c.n
 have hSl2 : (ids 14 c.n 0).length = cnt 14 c.n:=rfl
 refine CallO.pure hstt (by simp) ?_
 generalize ids 14 c.n 0 = S at hdff hob1 hSl2 ⊢
 simp
 refine LoopP.of (X:=Nat) (fun i=>[(60,natV i),(59,natV S.length),(58,.sl (natsV S) (some S.length)),(8,.ref 36 g36 0 c.n.length (some c.n.length)),(6,.ref 2000 g8 0 c.n.length (some c.n.length)),(4,.ref 1000 g9 0 c.n.length (some c.n.length)),(1,.ptr 1 g1 0 0)])
  (fun i=>[(36,.row g36 1 (natsT c.n.length (zeroL ((S.map (dnN c)).take i) (ob0 c)))),(2000,.row g8 1 (natsV L)),(1000,.row g9 2 (netsC c.n.length f)),(1,.row g1 4 [c.v])])
  (fun i=>i ≤ S.length) (fun i=>S.length - i) 0 (by omega) (by simp [natV]) (by simp [zeroL]) ?_
 intro i hi
 simp [natV]
 refine BrB.of (fun hb=>?_) (fun hb=>?_)
 ·have hi':=of_decide_eq_true hb
  have hw:=wrapN i (by omega)
  obtain ⟨s,hs⟩ : ∃ s,S[i] = s:=⟨_,rfl⟩
  obtain ⟨hsN,hsi,hq⟩:=hdff s (hs ▸ List.getElem_mem hi')
  obtain ⟨y,hy⟩ : ∃ y,c.n[s] = y:=⟨_,rfl⟩
  rw [hy] at hsi
  obtain ⟨q,hqq⟩ : ∃ q,dnN c s = q:=⟨_,rfl⟩
  rw [hqq] at hsi hq
  have hset:=natsT_set c.n.length (zeroL ((S.map (dnN c)).take i) (ob0 c)) q 0
  have hON2 : (S.map (dnN c))[i]'(by simpa using hi') = q:=by simp [hs,hqq]
  rw [← zeroL_snoc,← hON2,← take_snoc _ _ (by simpa using hi'),hON2] at hset
  have h4 : (natsV S)[i]'(by simpa using hi') = .int .i64 (s : Int):=by rw [natsV_get]; rw [hs]
  simp only [Int.natCast_zero] at hset
  simp [hi',natsT_len,natsT_at,hw,h4,hsN,hy,Nd.v,hsi,ints,hq]
  exact ⟨i + 1,hi',by simp,by simpa using hset,by omega⟩
 have hi' : i = S.length:=by have:=of_decide_eq_false hb; omega
 subst hi'
 rw [← List.length_map (dnN c),List.take_length,← hob1]
 have hrev:=rev_c 2000 g8 L (by omega)
 rw [hLl] at hrev
 simp
 refine CallO.lend [2000] [(2000,.row g8 1 (natsV L))] [(36,.row g36 1 (natsT c.n.length (ob1 c))),(1000,.row g9 2 (netsC c.n.length f)),(1,.row g1 4 [c.v])]
  hrev (by simp [V.inBL,V.inB]) (by simp) (by simp [V.inBL_pure,natsV_pure]) (by simp) (by simp) ?_
 rintro v h ⟨rfl,rfl⟩
 refine ⟨rfl,by simp [V.inBL_pure,natsV_pure],?_⟩
 obtain ⟨R,hRd⟩ : ∃ R,L.reverse = R:=⟨_,rfl⟩
 have hRl : R.length = c.n.length:=by rw [← hRd,List.length_reverse,hLl]
 have hRN : ∀ n ∈ R,n < c.n.length:=fun n hn=>hR.lt n (by rw [← hRd] at hn; exact List.mem_reverse.1 hn)
 rw [hRd]
 simp
 refine LoopP.of (X:=ObS) (fun z=>[(79,natV z.d),(78,natV c.n.length),(77,.ref 2000 g8 0 c.n.length (some c.n.length)),(8,.ref 36 g36 0 c.n.length (some c.n.length)),(4,.ref 1000 g9 0 c.n.length (some c.n.length)),(1,.ptr 1 g1 0 0)])
  (fun z=>[(36,.row g36 1 (natsT c.n.length (obL c (pnC c f) (R.take z.d) (ob1 c)))),(2000,.row g8 1 (natsV R)),(1000,.row g9 2 (netsC c.n.length f)),(1,.row g1 4 [c.v])])
  (fun z=>z.d ≤ c.n.length) (fun z=>c.n.length - z.d) ⟨0⟩ (by simp) (by simp [natV]) (by simp [obL]) ?_
 rintro ⟨d⟩ hd
 dsimp only at hd ⊢
 have hoL:=obL_le c (pnC c f) (R.take d) (ob1 c) (ob1_le c)
 have hsnoc : d < c.n.length→∀ n,R.getD d 0 = n→obL c (pnC c f) (R.take (d + 1)) (ob1 c) = obJ n (pnC c f n) (c.nd n).i (obL c (pnC c f) (R.take d) (ob1 c)) (c.nd n).i.length:=fun h n hn=>by
  have hdR : d < R.length:=by omega
  have : R[d] = n:=by rw [← hn,List.getD_eq_getElem?_getD,List.getElem?_eq_getElem hdR]; rfl
  rw [take_snoc _ _ hdR,this,obL_snoc]
 have hend : d = c.n.length→obL c (pnC c f) (R.take d) (ob1 c) = obsN c f L:=fun h=>by
  unfold obsN; rw [hRd,h,← hRl,List.take_length]
 generalize obL c (pnC c f) (R.take d) (ob1 c) = o at hoL hsnoc hend ⊢
 simp [natV]
 refine BrB.of (fun hb=>?_) (fun hb=>?_)
 ·have hd':=of_decide_eq_true hb
  have hdR : d < R.length:=by omega
  have hw:=wrapN d (by omega)
  obtain ⟨n,hn⟩ : ∃ n,R[d] = n:=⟨_,rfl⟩
  have hnN:=hRN n (hn ▸ List.getElem_mem hdR)
  have hsn:=hsnoc hd' n (by rw [List.getD_eq_getElem?_getD,List.getElem?_eq_getElem hdR,hn]; rfl)
  obtain ⟨y,hy⟩ : ∃ y,c.n[n] = y:=⟨_,rfl⟩
  have hyc : c.nd n = y:=by rw [c.nd_get hnN,hy]
  have hym : y ∈ c.n:=hy ▸ List.getElem_mem hnN
  rw [hyc] at hsn
  have hyv:=val_mem hval hym
  have hinp:=inputs_c y c.n.length f (some c.n.length) (by omega) hyv.2
  obtain ⟨k,hkk⟩ : ∃ k : Nat,y.k = k:=⟨y.k.toNat,by have:=(hwf.k y hym).1; omega⟩
  have hk256 : k < 256:=by have:=(hwf.k y hym).2; omega
  have hinl : (insC f y).length = y.i.length:=by simp [insC]
  have hinle : ∀ p ∈ insC f y,p.1 ≤ nev∧p.2 ≤ nev:=fun p hp=>by
   obtain ⟨j,-,rfl⟩:=List.mem_map.1 hp
   exact hle _
  have hpc : ∀ i : Nat,PureC Tryz.prog gl0 8 [u8V k,natV i,.sl ((insC f y).map nC) (some y.i.length)] (natV (pnC c f n i)):=fun i=>by
   have h1:=spin_c k hk256 i ((insC f y).map icost) (some y.i.length) (by rw [List.length_map,hinl]; omega)
   rw [icost_c hinle,icost_v] at h1
   unfold pnC
   rw [hyc,hkk]
   exact h1
  have hip:=nCs_pure (insC f y)
  have h4 : (natsV R)[d]'(by simpa using hdR) = .int .i64 (n : Int):=by rw [natsV_get]; rw [hn]
  have hPle : ∀ i,pnC c f n i ≤ nev:=fun i=>pnP_le _ _ _
  generalize pnC c f n = P at hsn hpc hPle
  simp [hd',hRl,h4,hnN,hy]
  intro ga2
  generalize ga2 16 = g16
  refine CallO.dat 1 (OwnC.dat1 hinp (nCs_pure _) (nCs_noG _)) (by
   simp
   rw [if_pos (by rw [netsC_len]; exact Nat.le_refl _),takeR (netsC_pure _ _) (netsC_len _ _).symm]) ?_
  simp
  refine LoopP.of (X:=ObI) (fun z=>[(94,natV z.k),(93,natV y.i.length),(92,.sl (ints y.i) none),(17,.sl ((insC f y).map nC) (some y.i.length)),(16,.ptr 16 g16 0 0),(15,natV n),
    (79,natV d),(78,natV c.n.length),(77,.ref 2000 g8 0 c.n.length (some c.n.length)),(8,.ref 36 g36 0 c.n.length (some c.n.length)),(4,.ref 1000 g9 0 c.n.length (some c.n.length)),(1,.ptr 1 g1 0 0)])
   (fun z=>[(16,.row g16 4 [y.v]),(36,.row g36 1 (natsT c.n.length (obJ n P y.i o z.k))),(2000,.row g8 1 (natsV R)),(1000,.row g9 2 (netsC c.n.length f)),(1,.row g1 4 [c.v])])
   (fun z=>z.k ≤ y.i.length) (fun z=>y.i.length - z.k) ⟨0⟩ (by simp) (by simp [natV,Nd.v]) (by simp [obJ]) ?_
  rintro ⟨k2⟩ hk2
  dsimp only at hk2 ⊢
  have hJ:=obJ_le n P y.i o hoL k2
  have hJn : obJ n P y.i o (k2 + 1) = upd1 (obJ n P y.i o k2) (y.i.getD k2 0).toNat (min (obJ n P y.i o k2 (y.i.getD k2 0).toNat) (pls (obJ n P y.i o k2 n) (P k2))):=rfl
  have hJe : k2 = y.i.length→obJ n P y.i o k2 = obJ n P y.i o y.i.length:=fun h=>by rw [h]
  generalize obJ n P y.i o k2 = oj at hJ hJn hJe ⊢
  simp [natV]
  refine BrB.of (fun hb2=>?_) (fun hb2=>?_)
  ·have hk3:=of_decide_eq_true hb2
   have hw2:=wrapN k2 (by omega)
   obtain ⟨q,hq⟩ : ∃ q : Nat,y.i[k2] = q:=⟨y.i[k2].toNat,by have:=(hyv.2 _ (List.getElem_mem hk3)).1; omega⟩
   have hqN : q < c.n.length:=by have:=(hyv.2 _ (List.getElem_mem hk3)).2; omega
   have h5 : (ints y.i)[k2]'(by simpa using hk3) = .int .i64 (q : Int):=by simp [ints,hq]
   have hqd : (y.i.getD k2 0).toNat = q:=by rw [List.getD_eq_getElem?_getD,List.getElem?_eq_getElem hk3]; simp [hq]
   rw [hqd] at hJn
   simp [hk3,h5,hnN,hqN,natsT_len,natsT_at]
   intro ga3
   have p1:=hpc k2
   simp only [natV,u8V] at p1
   rw [← hkk] at p1
   have p2:=plus_c (oj n) (P k2) (by have:=hJ n; simp only [nev] at this; omega) (by have:=hPle k2; simp only [nev] at this; omega)
   simp only [natV] at p2
   first | refine ⟨_,_,_,.pure p1 (by simp [hip]),?_⟩ | refine ⟨_,⟨_,_,.pure p1 (by simp [hip])⟩,?_⟩ | refine ⟨_,_,⟨_,.pure p1 (by simp [hip])⟩,?_⟩
   simp
   first | refine ⟨_,_,_,.pure p2 (by simp),?_⟩ | refine ⟨_,⟨_,_,.pure p2 (by simp)⟩,?_⟩ | refine ⟨_,_,⟨_,.pure p2 (by simp)⟩,?_⟩
   have hset:=natsT_set c.n.length oj q (min (oj q) (pls (oj n) (P k2)))
   rw [← hJn] at hset
   simp [min_i,natsT_len,natsT_at,hqN,hset,hw2]
   exact ⟨by simp [indAll,snocF,indF,memN],⟨k2 + 1⟩,hk3,by simp,rfl,by dsimp only; omega⟩
  ·have hk3 : k2 = y.i.length:=by have:=of_decide_eq_false hb2; omega
   subst hk3
   simp [hw]
   exact ⟨⟨d + 1⟩,hd',by simp,by rw [hsn,hJe rfl],by dsimp only; omega⟩
 ·have hd' : d = c.n.length:=by have:=of_decide_eq_false hb; omega
  have hen:=hend hd'
  simp
  have hp:=natsT_pure c.n.length o
  have hl2:=natsT_len c.n.length o
  refine .move 36 0 _ (by simp) (by simp; rfl) fun g=>.done ?_
  simp
  exact ⟨[(0,.row g 1 (natsT c.n.length o))],by simp [Blk.rn,map_rn_pure hp],.inr ⟨h0,g,o,rfl,rfl,hoL,fun h20=>by
   have ho : Ord c L:=⟨hR,hpw h20⟩
   rw [hen,hf h20,ho.eq]⟩⟩
end Go.Proofs.YtcmblmkbdenakaaGreatDoor
