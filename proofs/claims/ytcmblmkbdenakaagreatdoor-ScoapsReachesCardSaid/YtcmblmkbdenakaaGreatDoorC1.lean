/- Costs of gates: the least price of an assignment, by recursion, and the closed forms. No program stands in it. Conditions: none. -/
import Derived.Test.YtcmblmkbdenakaaGreatDoorLG
import Derived.Test.YtcmblmkbdenakaaGreatDoorLC
import Derived.Test.YtcmblmkbdenakaaGreatDoorXG
set_option linter.unusedSimpArgs false
set_option linter.unusedVariables false
namespace Go.Proofs.YtcmblmkbdenakaaGreatDoor
open Go
abbrev nev : Nat:=1073741824
def pls (a b : Nat) : Nat:=min (a + b) nev
def bst : List (Nat × Nat)→(List Nat→Bool)→Nat
 | [],p=>if p [] = true then 0 else nev
 | t :: ts,p=>min (min (pls t.1 (bst ts fun a=>p (0 :: a))) (pls t.2 (bst ts fun a=>p (1 :: a)))) (bst ts fun a=>p (2 :: a))
def bsk (kp : Int) : Nat→List (Nat × Nat)→(List Nat→Bool)→Nat
 | _,[],p=>if p [] = true then 0 else nev
 | i,t :: ts,p=>if (i : Int) = kp then bsk kp (i + 1) ts fun a=>p (2 :: a) else
   min (min (pls t.1 (bsk kp (i + 1) ts fun a=>p (0 :: a))) (pls t.2 (bsk kp (i + 1) ts fun a=>p (1 :: a)))) (bsk kp (i + 1) ts fun a=>p (2 :: a))
theorem pls_le (a b : Nat) : pls a b ≤ nev:=by unfold pls; omega
theorem bst_le : ∀ (ts : List (Nat × Nat)) (p : List Nat→Bool),bst ts p ≤ nev
 | [],p=>by unfold bst; split <;> omega
 | t :: ts,p=>by
  have:=bst_le ts fun a=>p (2 :: a)
  unfold bst; omega
theorem bsk_le (kp : Int) : ∀ (ts : List (Nat × Nat)) (i : Nat) (p : List Nat→Bool),bsk kp i ts p ≤ nev
 | [],_,p=>by unfold bsk; split <;> omega
 | t :: ts,i,p=>by
  have:=bsk_le kp ts (i + 1) fun a=>p (2 :: a)
  unfold bsk; split <;> omega
theorem bsk_past {kp : Int} : ∀ (ts : List (Nat × Nat)) (i : Nat) (p : List Nat→Bool),kp < i→bsk kp i ts p = bst ts p
 | [],_,p,_=>rfl
 | t :: ts,i,p,h=>by
  unfold bsk bst
  rw [if_neg (by omega),bsk_past ts _ _ (by omega),bsk_past ts _ _ (by omega),bsk_past ts _ _ (by omega)]
theorem bst_congr : ∀ {ts : List (Nat × Nat)} {p q : List Nat→Bool},(∀ a,a.length = ts.length→(∀ v ∈ a,v < 3)→p a = q a)→bst ts p = bst ts q
 | [],p,q,h=>by unfold bst; rw [h [] rfl (by simp)]
 | t :: ts,p,q,h=>by
  unfold bst
  have hv : ∀ v,v < 3→(bst ts fun a=>p (v :: a)) = bst ts fun a=>q (v :: a):=fun v hv=>bst_congr fun a h1 h2=>h _ (by simp [h1]) (by simp; exact ⟨hv,h2⟩)
  rw [hv 0 (by omega),hv 1 (by omega),hv 2 (by omega)]
theorem bsk_congr {kp : Int} : ∀ {ts : List (Nat × Nat)} {i : Nat} {p q : List Nat→Bool},(∀ a,a.length = ts.length→(∀ v ∈ a,v < 3)→p a = q a)→bsk kp i ts p = bsk kp i ts q
 | [],_,p,q,h=>by unfold bsk; rw [h [] rfl (by simp)]
 | t :: ts,i,p,q,h=>by
  unfold bsk
  have hv : ∀ v,v < 3→(bsk kp (i + 1) ts fun a=>p (v :: a)) = bsk kp (i + 1) ts fun a=>q (v :: a):=fun v hv=>bsk_congr fun a h1 h2=>h _ (by simp [h1]) (by simp; exact ⟨hv,h2⟩)
  rw [hv 0 (by omega),hv 1 (by omega),hv 2 (by omega)]
theorem bst_true : ∀ ts : List (Nat × Nat),(bst ts fun _=>true) = 0
 | []=>rfl
 | t :: ts=>by unfold bst; rw [bst_true ts]; omega
theorem bst_false : ∀ ts : List (Nat × Nat),(bst ts fun _=>false) = nev
 | []=>rfl
 | t :: ts=>by unfold bst; rw [bst_false ts]; unfold pls; omega
theorem bsk_false (kp : Int) : ∀ (ts : List (Nat × Nat)) (i : Nat),(bsk kp i ts fun _=>false) = nev
 | [],_=>rfl
 | t :: ts,i=>by unfold bsk; rw [bsk_false kp ts]; unfold pls; split <;> omega
def tv (b : Bool) (t : Nat × Nat) : Nat:=bif b then t.2 else t.1
def mnV (b : Bool) : List (Nat × Nat)→Nat
 | []=>nev
 | t :: ts=>min (tv b t) (mnV b ts)
def smV (b : Bool) : List (Nat × Nat)→Nat
 | []=>0
 | t :: ts=>pls (tv b t) (smV b ts)
theorem mnV_le (b : Bool) : ∀ ts,mnV b ts ≤ nev
 | []=>Nat.le_refl _
 | t :: ts=>by have:=mnV_le b ts; unfold mnV; omega
theorem smV_le (b : Bool) : ∀ ts,smV b ts ≤ nev
 | []=>by unfold smV; omega
 | t :: ts=>pls_le _ _
theorem dec_0 (out : Nat) (l : List Nat) : dec 0 1 out (0 :: l) = 0:=by simp [dec]
theorem dec_1 (out : Nat) (l : List Nat) : dec 0 1 out (1 :: l) = dec 0 1 out l:=by simp [dec]
theorem dec_2 (out : Nat) (l : List Nat) : dec 0 1 out (2 :: l) = dec 0 1 2 l:=by simp [dec]
theorem dec'_1 (out : Nat) (l : List Nat) : dec 1 0 out (1 :: l) = 1:=by simp [dec]
theorem dec'_0 (out : Nat) (l : List Nat) : dec 1 0 out (0 :: l) = dec 1 0 out l:=by simp [dec]
theorem dec'_2 (out : Nat) (l : List Nat) : dec 1 0 out (2 :: l) = dec 1 0 2 l:=by simp [dec]
theorem and_0 : ∀ (ts : List (Nat × Nat)) (out : Nat),out ≠ 0→(bst ts fun a=>decide (dec 0 1 out a = 0)) = mnV false ts
 | [],out,h=>by simp [bst,dec,mnV,h]
 | t :: ts,out,h=>by
  have h1:=mnV_le false ts
  simp only [bst,dec_0,dec_1,dec_2,mnV,tv,cond_false]
  rw [and_0 ts out h,and_0 ts 2 (by omega)]
  simp only [decide_true]
  rw [bst_true]
  unfold pls; omega
theorem and_1n : ∀ (ts : List (Nat × Nat)),(bst ts fun a=>decide (dec 0 1 2 a = 1)) = nev
 | []=>by simp [bst,dec]
 | t :: ts=>by
  simp only [bst,dec_0,dec_1,dec_2]
  rw [and_1n ts]
  have : (fun a : List Nat=>decide ((0 : Nat) = 1)) = fun _=>false:=rfl
  rw [this,bst_false]
  unfold pls; omega
theorem and_1 : ∀ (ts : List (Nat × Nat)),(bst ts fun a=>decide (dec 0 1 1 a = 1)) = smV true ts
 | []=>by simp [bst,dec,smV]
 | t :: ts=>by
  have h1:=smV_le true ts
  simp only [bst,dec_0,dec_1,dec_2,smV,tv,cond_true]
  rw [and_1 ts,and_1n ts]
  have : (fun a : List Nat=>decide ((0 : Nat) = 1)) = fun _=>false:=rfl
  rw [this,bst_false]
  unfold pls; omega
theorem or_1 : ∀ (ts : List (Nat × Nat)) (out : Nat),out ≠ 1→(bst ts fun a=>decide (dec 1 0 out a = 1)) = mnV true ts
 | [],out,h=>by simp [bst,dec,mnV,h]
 | t :: ts,out,h=>by
  have h1:=mnV_le true ts
  simp only [bst,dec'_0,dec'_1,dec'_2,mnV,tv,cond_true]
  rw [or_1 ts out h,or_1 ts 2 (by omega)]
  simp only [decide_true]
  rw [bst_true]
  unfold pls; omega
theorem or_0n : ∀ (ts : List (Nat × Nat)),(bst ts fun a=>decide (dec 1 0 2 a = 0)) = nev
 | []=>by simp [bst,dec]
 | t :: ts=>by
  simp only [bst,dec'_0,dec'_1,dec'_2]
  rw [or_0n ts]
  have : (fun a : List Nat=>decide ((1 : Nat) = 0)) = fun _=>false:=rfl
  rw [this,bst_false]
  unfold pls; omega
theorem or_0 : ∀ (ts : List (Nat × Nat)),(bst ts fun a=>decide (dec 1 0 0 a = 0)) = smV false ts
 | []=>by simp [bst,dec,smV]
 | t :: ts=>by
  have h1:=smV_le false ts
  simp only [bst,dec'_0,dec'_1,dec'_2,smV,tv,cond_false]
  rw [or_0 ts,or_0n ts]
  have : (fun a : List Nat=>decide ((1 : Nat) = 0)) = fun _=>false:=rfl
  rw [this,bst_false]
  unfold pls; omega
def evO (e o : Nat) : List (Nat × Nat)→Nat × Nat
 | []=>(e,o)
 | t :: ts=>evO (min (pls e t.1) (pls o t.2)) (min (pls e t.2) (pls o t.1)) ts
theorem xor_at (s : Nat) (ts : List (Nat × Nat)) (t : Nat × Nat) (r : Nat) (hr : r ≤ 1) : (bst (t :: ts) fun a=>decide (xorN s a = r)) = min (pls t.1 (bst ts fun a=>decide (xorN s a = r))) (pls t.2 (bst ts fun a=>decide (xorN (1 - s) a = r))):=by
 have h0 : ∀ a,xorN s (0 :: a) = xorN s a:=fun a=>by simp [xorN]
 have h1 : ∀ a,xorN s (1 :: a) = xorN (1 - s) a:=fun a=>by simp [xorN]
 have h2 : ∀ a,xorN s (2 :: a) = 2:=fun a=>by simp [xorN]
 simp only [bst,h0,h1,h2]
 have : (fun a : List Nat=>decide ((2 : Nat) = r)) = fun _=>false:=by funext a; simp; omega
 rw [this,bst_false]
 unfold pls; omega
theorem pls_assoc (a b c : Nat) : pls (pls a b) c = pls a (pls b c):=by unfold pls; omega
theorem pls_comm (a b : Nat) : pls a b = pls b a:=by unfold pls; omega
theorem pls_min (a b c : Nat) : pls (min a b) c = min (pls a c) (pls b c):=by unfold pls; omega
theorem pls_min' (a b c : Nat) : pls c (min a b) = min (pls c a) (pls c b):=by unfold pls; omega
theorem pls_0 {a : Nat} (h : a ≤ nev) : pls 0 a = a:=by unfold pls; omega
theorem pls_n (a : Nat) : pls nev a = nev:=by unfold pls; omega
theorem min4 (p q r s : Nat) : min (min p q) (min r s) = min (min p r) (min s q):=by omega
theorem xor_pair : ∀ (ts : List (Nat × Nat)) (e o : Nat),e ≤ nev→o ≤ nev→
  evO e o ts = (min (pls e (bst ts fun a=>decide (xorN 0 a = 0))) (pls o (bst ts fun a=>decide (xorN 1 a = 0))),min (pls e (bst ts fun a=>decide (xorN 0 a = 1))) (pls o (bst ts fun a=>decide (xorN 1 a = 1))))
 | [],e,o,h1,h2=>by
  have a1 : pls e 0 = e:=by rw [pls_comm]; exact pls_0 h1
  have a2 : pls o 0 = o:=by rw [pls_comm]; exact pls_0 h2
  have a3 : pls e nev = nev:=by rw [pls_comm]; exact pls_n e
  have a4 : pls o nev = nev:=by rw [pls_comm]; exact pls_n o
  have b1 : (bst [] fun a=>decide (xorN 0 a = 0)) = 0:=rfl
  have b2 : (bst [] fun a=>decide (xorN 1 a = 0)) = nev:=rfl
  have b3 : (bst [] fun a=>decide (xorN 0 a = 1)) = nev:=rfl
  have b4 : (bst [] fun a=>decide (xorN 1 a = 1)) = 0:=rfl
  rw [b1,b2,b3,b4,a1,a2,a3,a4,evO,Nat.min_eq_left h1,Nat.min_eq_right h2]
 | t :: ts,e,o,h1,h2=>by
  rw [evO,xor_pair ts _ _ (by have:=pls_le e t.1; omega) (by have:=pls_le e t.2; omega),xor_at _ _ _ _ (by omega),xor_at _ _ _ _ (by omega),xor_at _ _ _ _ (by omega),xor_at _ _ _ _ (by omega)]
  have e1 : 1 - 0 = 1:=rfl
  have e2 : 1 - 1 = 0:=rfl
  rw [e1,e2]
  simp only [pls_min,pls_min',pls_assoc]
  refine Prod.ext ?_ ?_
  ·exact min4 _ _ _ _
  ·exact min4 _ _ _ _
theorem xor_b (ts : List (Nat × Nat)) : evO 0 nev ts = (bst ts fun a=>decide (xorN 0 a = 0),bst ts fun a=>decide (xorN 0 a = 1)):=by
 rw [xor_pair ts 0 nev (by omega) (by omega)]
 have h1:=bst_le ts fun a=>decide (xorN 0 a = 0)
 have h2:=bst_le ts fun a=>decide (xorN 0 a = 1)
 rw [pls_0 h1,pls_0 h2,pls_n,pls_n,Nat.min_eq_left h1,Nat.min_eq_left h2]
def tb (t : Nat × Nat) (v : Nat) : Nat:=if v = 0 then t.1 else if v = 1 then t.2 else 0
def vis {σ : Type} (kp : Int) (up : List Nat→Nat→σ→σ) : Nat→List (Nat × Nat)→List Nat→Nat→σ→σ
 | _,[],pre,cost,st=>up pre cost st
 | i,t :: ts,pre,cost,st=>if (i : Int) = kp then vis kp up (i + 1) ts (pre ++ [2]) cost st else
   let s1:=if pls cost t.1 < nev then vis kp up (i + 1) ts (pre ++ [0]) (pls cost t.1) st else st
   let s2:=if pls cost t.2 < nev then vis kp up (i + 1) ts (pre ++ [1]) (pls cost t.2) s1 else s1
   if pls cost 0 < nev then vis kp up (i + 1) ts (pre ++ [2]) (pls cost 0) s2 else s2
def upB (p q : List Nat→Bool) (a : List Nat) (cost : Nat) (s : Nat × Nat) : Nat × Nat:=(if p a = true then min s.1 cost else s.1,if q a = true then min s.2 cost else s.2)
theorem vis_bsk (kp : Int) (p q : List Nat→Bool) : ∀ (ts : List (Nat × Nat)) (i : Nat) (pre : List Nat) (cost : Nat) (s : Nat × Nat),cost < nev→s.1 ≤ nev→s.2 ≤ nev→
  vis kp (upB p q) i ts pre cost s = (min s.1 (pls cost (bsk kp i ts fun a=>p (pre ++ a))),min s.2 (pls cost (bsk kp i ts fun a=>q (pre ++ a))))
 | [],i,pre,cost,s,hc,h1,h2=>by
  have e1 : pls cost 0 = cost:=by unfold pls; omega
  have e2 : pls cost nev = nev:=by unfold pls; omega
  simp only [vis,upB,bsk,List.append_nil]
  refine Prod.ext ?_ ?_
  ·by_cases hp : p pre = true
   ·simp only [hp,if_true,e1]
   ·simp only [hp,e2]; simp; omega
  ·by_cases hp : q pre = true
   ·simp only [hp,if_true,e1]
   ·simp only [hp,e2]; simp; omega
 | t :: ts,i,pre,cost,s,hc,h1,h2=>by
  have ih:=vis_bsk kp p q ts (i + 1)
  simp only [vis,bsk]
  by_cases hk : (i : Int) = kp
  ·rw [if_pos hk,if_pos hk,if_pos hk,ih _ _ _ hc h1 h2]
   simp only [List.append_assoc,List.singleton_append]
  ·rw [if_neg hk,if_neg hk,if_neg hk]
   have key : ∀ (x v : Nat) (s : Nat × Nat),s.1 ≤ nev→s.2 ≤ nev→(if pls cost x < nev then vis kp (upB p q) (i + 1) ts (pre ++ [v]) (pls cost x) s else s) =
     (min s.1 (pls cost (pls x (bsk kp (i + 1) ts fun a=>p (pre ++ v :: a)))),min s.2 (pls cost (pls x (bsk kp (i + 1) ts fun a=>q (pre ++ v :: a))))):=by
    intro x v s k1 k2
    split
    ·rename_i hx
     rw [ih _ _ _ hx k1 k2,pls_assoc,pls_assoc]
     simp only [List.append_assoc,List.singleton_append]
    ·rename_i hx
     have e : ∀ y,pls cost (pls x y) = nev:=fun y=>by unfold pls at hx ⊢; omega
     rw [e,e]
     refine Prod.ext ?_ ?_ <;> simp only [] <;> omega
   have e0 : pls cost 0 = cost:=by unfold pls; omega
   have hb1:=bsk_le kp ts (i + 1) fun a=>p (pre ++ 2 :: a)
   have hb2:=bsk_le kp ts (i + 1) fun a=>q (pre ++ 2 :: a)
   rw [key t.1 0 s h1 h2]
   rw [key t.2 1 _ (by simp only []; omega) (by simp only []; omega)]
   rw [key 0 2 _ (by simp only []; omega) (by simp only []; omega),pls_0 hb1,pls_0 hb2]
   refine Prod.ext ?_ ?_ <;> simp only [pls_min'] <;> omega
end Go.Proofs.YtcmblmkbdenakaaGreatDoor
namespace Go.Proofs.YtcmblmkbdenakaaGreatDoor
open Go
def cV (p : Int × Int) : V:=.agg [.int .i64 p.1,.int .i64 p.2]
def nC (p : Nat × Nat) : V:=.agg [natV p.1,natV p.2]
def tbV (t : Nat × Nat) : V:=.agg [natV t.1,natV t.2,natV 0]
def capI (z : Int) : Nat:=(min (max z 0) 1073741824).toNat
def capC (p : Int × Int) : Nat × Nat:=(capI p.1,capI p.2)
theorem capI_le (z : Int) : capI z ≤ nev:=by unfold capI nev; omega
theorem pls_i (a b : Nat) : min ((a : Int) + b) 1073741824 = ((pls a b : Nat) : Int):=by unfold pls nev; omega
theorem capI_i (z : Int) : min (max z 0) 1073741824 = ((capI z : Nat) : Int):=by unfold capI; omega
theorem of_cost (p : Int × Int) : PureC Tryz.prog gl0 57 [cV p] (tbV (capC p)):=by
 refine PureC.of_W 3 ok57 rfl ?_
 simp [i57,x57,cV,tbV,capC,natV,capI_i]
theorem plus_c (a b : Nat) (ha : a < 1000000000000) (hb : b < 1000000000000) : PureC Tryz.prog gl0 29 [natV a,natV b] (natV (pls a b)):=by
 refine PureC.of_W 3 ok29 rfl ?_
 have hw : IntKind.i64.wrap ((a : Int) + b) = (a : Int) + b:=by rw [wrap_i64] <;> omega
 simp [i29,x29,natV,hw,pls_i]
theorem cVs_pure (l : List (Int × Int)) : V.pureL (l.map cV) = true:=pureL_map (fun _=>rfl) l
theorem tbs_pure (l : List (Nat × Nat)) : V.pureL (l.map tbV) = true:=pureL_map (fun _=>rfl) l
def tbsW (l : List (Int × Int)) (i : Nat) : List V:=tab l.length fun j=>if j < i then tbV (capC (l.getD j (0,0))) else .agg [.int .i64 0,.int .i64 0,.int .i64 0]
@[simp] theorem tbsW_len (l : List (Int × Int)) (i : Nat) : (tbsW l i).length = l.length:=by simp [tbsW]
theorem tbsW_set (l : List (Int × Int)) (i : Nat) (hi : i < l.length) : (tbsW l i).set i (tbV (capC l[i])) = tbsW l (i + 1):=by
 unfold tbsW
 rw [tab_set]
 congr 1
 funext j
 by_cases h : j = i
 ·subst h
  rw [upd1_same,if_pos (by omega),List.getD_eq_getElem?_getD,List.getElem?_eq_getElem hi]; rfl
 ·rw [upd1_ne _ _ h]
  by_cases h2 : j < i
  ·rw [if_pos h2,if_pos (by omega)]
  ·rw [if_neg h2,if_neg (by omega)]
theorem tbsW_all (l : List (Int × Int)) : tbsW l l.length = (l.map capC).map tbV:=by
 unfold tbsW
 refine List.ext_getElem (by simp) fun j h1 h2=>?_
 have hj : j < l.length:=by simpa using h1
 rw [tab_get,if_pos hj]
 simp [List.getD_eq_getElem?_getD,hj]
theorem tbsW_rep (l : List (Int × Int)) : List.replicate l.length (V.agg [.int .i64 0,.int .i64 0,.int .i64 0]) = tbsW l 0:=by
 refine List.ext_getElem (by simp) fun j h1 h2=>?_
 simp only [tbsW]
 rw [tab_get,List.getElem_replicate]
 simp
theorem tbsW_at (l : List (Int × Int)) (i : Nat) (h : i < (tbsW l i).length) : (tbsW l i)[i] = .agg [.int .i64 0,.int .i64 0,.int .i64 0]:=by simp only [tbsW]; rw [tab_get,if_neg (Nat.lt_irrefl i)]
theorem takeR {L : List V} (hp : V.pureL L = true) {n : Nat} (hn : n = L.length) (f : Nat→Nat→Nat→Nat→Option Nat→V) (p : Nat→Nat→Nat→Nat→V) : List.take n (List.map (fun x=>V.mapR f p x) L) = L:=by
 subst hn
 have : List.map (fun x=>V.mapR f p x) L = L:=by
  conv=>rhs; rw [← List.map_id L]
  exact List.map_congr_left fun x hx=>mapR_pure _ ((V.pureL_iff L).1 hp x hx)
 rw [this,List.take_length]
theorem tables_c (l : List (Int × Int)) (cap : Option Nat) (hl : l.length < 1000000) : PureC Tryz.prog gl0 26 [.sl (l.map cV) cap] (.sl ((l.map capC).map tbV) (some l.length)):=by
 have h1:=tbsW_all l
 have h2 : ((l.map capC).map tbV).length = l.length:=by simp
 have h3:=tbs_pure (l.map capC)
 generalize (l.map capC).map tbV = L at h1 h2 h3 ⊢
 refine PureC.of_W 3 ok26 rfl ?_
 simp [i26,x26]
 intro gf
 generalize gf 8 = g8
 refine ⟨by omega,?_⟩
 refine LoopP.of (X:=Nat) (fun i=>[(11,natV i),(10,natV l.length),(9,.sl (l.map cV) cap),(3,.ref 8 g8 0 l.length (some l.length))])
  (fun i=>[(8,.row g8 3 (tbsW l i))]) (fun i=>i ≤ l.length) (fun i=>l.length - i) 0 (by simp) (by simp [natV]) (by simp [tbsW_rep]) ?_
 rintro i q1
 simp [natV]
 refine BrB.of (fun hb=>?_) (fun hb=>?_)
 ·have hi:=of_decide_eq_true hb
  have hw:=wrapN i (by omega)
  simp [hi,cV]
  intro gf
  refine CallO.pure (of_cost l[i]) (by simp [cV]) ?_
  have h1:=tbsW_at l i (by simp; exact hi)
  have h2:=tbsW_set l i hi
  simp [hi,h1,hw]
  exact ⟨⟨rfl,rfl⟩,i + 1,hi,rfl,h2,by omega⟩
 ·have hi : i = l.length:=by have:=of_decide_eq_false hb; omega
  subst hi
  rw [h1]
  simp [h2]
  exact takeR h3 h2.symm _ _
theorem fits_c (k n : Nat) (hk : k < 256) (hn : n < 1000000) : PureC Tryz.prog gl0 25 [u8V k,natV n] (.bool (decide (k ≤ 15) && widB k n)):=by
 have hf:=fanin_c k (by omega) (by omega)
 refine PureC.of_W 3 ok25 rfl ?_
 simp [i25,x25,u8V,natV]
 refine CallO.pure hf (by simp) ?_
 simp
 refine BrB.of (fun h=>?_) (fun h=>?_)
 ·have h1:=of_decide_eq_true h
  simp [h1]
  refine BrB.of (fun h=>?_) (fun h=>?_)
  ·have h2:=of_decide_eq_true h
   simp [h1,h2,widB]
  ·have h2:=of_decide_eq_false h
   simp [h1,h2,widB]
 ·have h1:=of_decide_eq_false h
  simp [h1]
def ctlV (k : Nat) : Nat × Bool:=if k = 5∨k = 6 then (0,true) else if k = 7∨k = 8 then (1,true) else (2,false)
theorem lctrl_c (k : Nat) : PureC Tryz.prog gl0 32 [u8V k] (.tup [u8V (ctlV k).1,.bool (ctlV k).2]):=by
 refine PureC.of_W 3 ok32 rfl ?_
 simp [i32,x32,u8V]
 refine BrB.of (fun h=>?_) (fun h=>?_)
 ·have h1 : k = 5:=of_decide_eq_true h
  subst h1; simp [ctlV]
 ·have h1 : ¬ k = 5:=of_decide_eq_false h
  simp [h1]
  refine BrB.of (fun h=>?_) (fun h=>?_)
  ·have h1 : k = 6:=of_decide_eq_true h
   subst h1; simp [ctlV]
  ·have h2 : ¬ k = 6:=of_decide_eq_false h
   simp [h1,h2]
   refine BrB.of (fun h=>?_) (fun h=>?_)
   ·have h1 : k = 7:=of_decide_eq_true h
    subst h1; simp [ctlV]
   ·have h3 : ¬ k = 7:=of_decide_eq_false h
    simp [h1,h2,h3]
    refine BrB.of (fun h=>?_) (fun h=>?_)
    ·have h1 : k = 8:=of_decide_eq_true h
     subst h1; simp [ctlV]
    ·have h4 : ¬ k = 8:=of_decide_eq_false h
     simp [h1,h2,h3,h4,ctlV]
def invB (k : Nat) : Bool:=decide (k = 4∨k = 6∨k = 8∨k = 10)
theorem invs_c (k : Nat) : PureC Tryz.prog gl0 80 [u8V k] (.bool (invB k)):=by
 refine PureC.of_W 3 ok80 rfl ?_
 have hc:=contains_c (k : Int) [4,6,8,10] (some 4) (by simp)
 simp [i80,x80,u8V]
 intro gf
 refine CallO.borrow 1 hc (by simp) rfl ?_
 simp [invB]
def swC (k : Nat) (p : Nat × Nat) : Nat × Nat:=if invB k = true then (p.2,p.1) else p
theorem invert_c (k : Nat) (p : Nat × Nat) : PureC Tryz.prog gl0 58 [u8V k,nC p] (nC (swC k p)):=by
 have hi:=invs_c k
 refine PureC.of_W 3 ok58 rfl ?_
 simp [i58,x58,u8V,nC,natV]
 intro gf gf2
 refine CallO.pure hi (by simp [u8V]) ?_
 simp
 refine BrB.of (fun h=>?_) (fun h=>?_)
 ·simp [swC,h]
 ·simp [swC,h]
theorem min_i (a b : Nat) : min (a : Int) (b : Int) = ((min a b : Nat) : Int):=by omega
theorem mnV_snoc (b : Bool) : ∀ (l : List (Nat × Nat)) (t : Nat × Nat),tv b t ≤ nev→mnV b (l ++ [t]) = min (mnV b l) (tv b t)
 | [],t,h=>by simp [mnV]; omega
 | x :: l,t,h=>by simp only [List.cons_append,mnV]; rw [mnV_snoc b l t h]; omega
theorem smV_snoc (b : Bool) : ∀ (l : List (Nat × Nat)) (t : Nat × Nat),tv b t ≤ nev→smV b (l ++ [t]) = pls (smV b l) (tv b t)
 | [],t,h=>by simp only [List.nil_append,smV]; exact pls_comm _ _
 | x :: l,t,h=>by simp only [List.cons_append,smV]; rw [smV_snoc b l t h,pls_assoc]
theorem take_snoc {α : Type} (l : List α) (i : Nat) (h : i < l.length) : l.take (i + 1) = l.take i ++ [l[i]]:=List.take_succ_eq_append_getElem h
theorem ctl_two {k : Nat} (hc : (ctlV k).2 = true) : ctlV k = (0,true)∨ctlV k = (1,true):=by
 unfold ctlV at hc ⊢
 split
 ·exact .inl rfl
 ·split
  ·exact .inr rfl
  ·rename_i h1 h2; rw [if_neg h1,if_neg h2] at hc; simp at hc
theorem controlled_c (k : Nat) (ts : List (Nat × Nat)) (cap : Option Nat) (hc : (ctlV k).2 = true) (ht : ∀ t ∈ ts,t.1 ≤ nev∧t.2 ≤ nev) (hl : ts.length < 1000000) :
  PureC Tryz.prog gl0 27 [u8V k,.sl (ts.map tbV) cap] (nC (swC k (if (ctlV k).1 = 0 then (pls (mnV false ts) 1,pls (smV true ts) 1) else (pls (smV false ts) 1,pls (mnV true ts) 1)))):=by
 have hcc:=lctrl_c k
 have hn : nev = 1073741824:=rfl
 have hu0 : IntKind.u8.wrap 0 = 0:=by decide
 have hu1 : IntKind.u8.wrap 1 = 1:=by decide
 rcases ctl_two hc with hk | hk
 all_goals
  rw [hk] at hcc ⊢
  refine PureC.of_W 3 ok27 rfl ?_
  simp [i27,x27]
  intro gf
  generalize gf 4 = g4
  refine CallO.pure hcc (by simp [u8V]) ?_
  simp [u8V]
 ·refine LoopP.of (X:=Nat × Nat × Nat) (fun z=>[(18,natV z.1),(17,natV ts.length),(16,.sl (ts.map tbV) cap),(8,natV z.2.2),(7,natV z.2.1),(5,u8V 0),(4,.ptr 4 g4 0 0),(0,u8V k)])
   (fun _=>[(4,.row g4 2 [.agg [.int .i64 0,.int .i64 0]])]) (fun z=>z.1 ≤ ts.length∧z.2.1 = mnV false (ts.take z.1)∧z.2.2 = smV true (ts.take z.1)) (fun z=>ts.length - z.1) (0,nev,0) (by simp [mnV,smV]) (by simp [natV,u8V]) (by simp) ?_
  rintro ⟨i,one,all⟩ ⟨q1,q2,q3⟩
  dsimp only at q1 q2 q3 ⊢
  simp [natV,u8V]
  refine BrB.of (fun hb2=>?_) (fun hb2=>?_)
  ·have hi:=of_decide_eq_true hb2
   have hw:=wrapN i (by omega)
   obtain ⟨t,hti⟩ : ∃ t,ts[i] = t:=⟨_,rfl⟩
   have htt:=ht t (hti ▸ List.getElem_mem hi)
   have hone:=mnV_le false (ts.take i)
   have hall:=smV_le true (ts.take i)
   have hp:=plus_c all t.2 (by omega) (by omega)
   simp [hi,hti,tbV,natV,u8V,hu0,hu1]
   intro gf gm
   first | refine ⟨_,_,_,.pure hp (by simp [natV]),?_⟩ | refine ⟨_,⟨_,_,.pure hp (by simp [natV])⟩,?_⟩ | refine ⟨_,_,⟨_,.pure hp (by simp [natV])⟩,?_⟩
   simp [natV,hw,min_i]
   refine ⟨by simp [indAll,snocF,indF,memN],i + 1,_,_,⟨hi,?_,?_⟩,⟨by omega,rfl,rfl⟩,by omega⟩
   ·rw [take_snoc _ _ hi,hti,mnV_snoc _ _ _ (by simp [tv]; omega),q2]; rfl
   ·rw [take_snoc _ _ hi,hti,smV_snoc _ _ _ (by simp [tv]; omega),q3]; rfl
  ·have hi : i = ts.length:=by have:=of_decide_eq_false hb2; omega
   subst hi
   rw [List.take_length] at q2 q3
   have hone:=mnV_le false ts
   have hall:=smV_le true ts
   have hp1:=plus_c one 1 (by omega) (by omega)
   have hp2:=plus_c all 1 (by omega) (by omega)
   simp
   refine CallO.pure hp1 (by simp [natV]) ?_
   simp
   refine CallO.pure hp2 (by simp [natV]) ?_
   simp [natV]
   refine CallO.pure (invert_c k (pls one 1,pls all 1)) (by simp [u8V,nC,natV]) ?_
   simp [nC,natV,q2,q3]
 ·refine LoopP.of (X:=Nat × Nat × Nat) (fun z=>[(18,natV z.1),(17,natV ts.length),(16,.sl (ts.map tbV) cap),(8,natV z.2.2),(7,natV z.2.1),(5,u8V 1),(4,.ptr 4 g4 0 0),(0,u8V k)])
   (fun _=>[(4,.row g4 2 [.agg [.int .i64 0,.int .i64 0]])]) (fun z=>z.1 ≤ ts.length∧z.2.1 = mnV true (ts.take z.1)∧z.2.2 = smV false (ts.take z.1)) (fun z=>ts.length - z.1) (0,nev,0) (by simp [mnV,smV]) (by simp [natV,u8V]) (by simp) ?_
  rintro ⟨i,one,all⟩ ⟨q1,q2,q3⟩
  dsimp only at q1 q2 q3 ⊢
  simp [natV,u8V]
  refine BrB.of (fun hb2=>?_) (fun hb2=>?_)
  ·have hi:=of_decide_eq_true hb2
   have hw:=wrapN i (by omega)
   obtain ⟨t,hti⟩ : ∃ t,ts[i] = t:=⟨_,rfl⟩
   have htt:=ht t (hti ▸ List.getElem_mem hi)
   have hone:=mnV_le true (ts.take i)
   have hall:=smV_le false (ts.take i)
   have hp:=plus_c all t.1 (by omega) (by omega)
   simp [hi,hti,tbV,natV,u8V,hu0,hu1]
   intro gf gm
   first | refine ⟨_,_,_,.pure hp (by simp [natV]),?_⟩ | refine ⟨_,⟨_,_,.pure hp (by simp [natV])⟩,?_⟩ | refine ⟨_,_,⟨_,.pure hp (by simp [natV])⟩,?_⟩
   simp [natV,hw,min_i]
   refine ⟨by simp [indAll,snocF,indF,memN],i + 1,_,_,⟨hi,?_,?_⟩,⟨by omega,rfl,rfl⟩,by omega⟩
   ·rw [take_snoc _ _ hi,hti,mnV_snoc _ _ _ (by simp [tv]; omega),q2]; rfl
   ·rw [take_snoc _ _ hi,hti,smV_snoc _ _ _ (by simp [tv]; omega),q3]; rfl
  ·have hi : i = ts.length:=by have:=of_decide_eq_false hb2; omega
   subst hi
   rw [List.take_length] at q2 q3
   have hone:=mnV_le true ts
   have hall:=smV_le false ts
   have hp1:=plus_c one 1 (by omega) (by omega)
   have hp2:=plus_c all 1 (by omega) (by omega)
   simp
   refine CallO.pure hp2 (by simp [natV]) ?_
   simp
   refine CallO.pure hp1 (by simp [natV]) ?_
   simp [natV]
   refine CallO.pure (invert_c k (pls all 1,pls one 1)) (by simp [u8V,nC,natV]) ?_
   simp [nC,natV,q2,q3]
theorem PureC.normA {P : Program} {gl : Fr} {f : FuncId} {args : List V} {res : V} (hc : PureC P gl f (args.map V.norm) res) : PureC P gl f args res:=by
 refine ⟨hc.1,fun G w rargs h1 h2 h3 h4=>hc.2 G w rargs h1 h2 (by simpa using h3) fun i hi=>?_⟩
 have hi' : i < args.length:=by simpa using hi
 have:=(h4 i hi').norm
 simpa [List.getD_eq_getElem?_getD,hi'] using this
end Go.Proofs.YtcmblmkbdenakaaGreatDoor
