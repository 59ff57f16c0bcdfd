/- Paths: how one line of a path is tested: contracts of its parts. Conditions: none. -/
import Derived.Test.YtlmniacemoohpaaGreatDoorP1
set_option linter.unusedSimpArgs false
set_option linter.unusedVariables false
namespace Go.Proofs.YtlmniacemoohpaaGreatDoor
open Go
theorem clone_c (l : List Int) (cap : Option Nat) (h0 : l ≠ []) (hl : l.length < 1000000) : OwnC Tryz.prog gl0 147 [.sl (ints l) cap] (OneB 1 (ints l) none):=by
 refine OwnC.of_W ok147 rfl ?_
 obtain ⟨x,r,rfl⟩ : ∃ x r,l = x :: r:=by cases l with
  | nil=>exact absurd rfl h0
  | cons x r=>exact ⟨x,r,rfl⟩
 have hx : ints (x :: r) = .int .i64 x :: ints r:=rfl
 rw [hx]
 simp at hl
 simp [i147,x147]
 intro gf0
 simp [nop]
 intro gf1 gf2
 refine ⟨by omega,?_⟩
 refine .move 5 0 _ (by simp) (by simp; rfl) fun g=>.done ?_
 simp
 exact ⟨[(0,.row g 1 (.int .i64 x :: ints r))],by simp [Blk.rn,V.rn,map_rn_pure (ints_pure _)],g,by simp,rfl⟩
def sideL (l : List Int) (k : Nat) : List Int:=l.take k ++ l.drop (k + 1)
theorem side_c (c : Ci) (hg : c.good) (n k : Nat) (hn : n < c.n.length) (hk : k < (c.nd n).i.length) : PureC Tryz.prog gl0 115 [c.v,.agg [natV n,natV k]] (.sl (ints (sideL (c.nd n).i k)) none):=by
 have hval:=hg.val
 have hyl:=hval.l n hn
 obtain ⟨y,hy⟩ : ∃ y,c.n[n] = y:=⟨_,rfl⟩
 rw [c.nd_get hn,hy] at hk hyl ⊢
 have hcl:=clone_c y.i none (fun e=>by rw [e] at hk; simp at hk) (by omega)
 refine PureC.of_W 2 ok115 rfl ?_
 simp [i115,x115,natV]
 intro gf1 gf2 gm
 simp [hn,hy]
 have hdc : (OwnC Tryz.prog gl0 147 [.sl (ints y.i) none] (OneB 1 (ints y.i) none)):=hcl
 first | refine ⟨_,_,_,.own hcl (by simp) (by simp) rfl,?_⟩ | refine ⟨_,⟨_,_,.own hcl (by simp) (by simp) rfl⟩,?_⟩ | refine ⟨_,_,⟨_,.own hcl (by simp) (by simp) rfl⟩,?_⟩
 simp
 obtain ⟨q,hq⟩ : ∃ q,k + 1 = q:=⟨_,rfl⟩
 have hwk : IntKind.i64.wrap ((k : Int) + 1) = (q : Int):=by rw [← hq]; exact wrapN k (by omega)
 simp [hwk]
 have hdel : ICallO Tryz.prog gl0 146 [.ref 12 (gm 12) 0 y.i.length none,.int .i64 k,.int .i64 q] [(12,.row (gm 12) 1 (ints y.i))]
   (fun v h=>v = .ref 12 (gm 12) 0 (y.i.length - 1) none∧h = (12,.row (gm 12) 1 (ints (y.i.take k ++ y.i.drop (k + 1) ++ [0]))) :: [(12,.row (gm 12) 1 (ints y.i))]):=by
  rw [← hq]
  exact CallO.delete (ρ:=renD) lays23 (by kernel_rfl) (g:=gm 12) (l:=y.i) (cap:=none) hk (by simp [lk]; rfl) ⟨rfl,rfl⟩
 have hd12 : ∀ l : List Int,V.inBL [12] (ints l) = true:=fun l=>V.inBL_pure _ _ (ints_pure l)
 first | refine ⟨_,_,_,.lend [12] hdel (by simp) (by simp) (by simp [hd12]) (fun v h hh=>hh) (by simp) (by simp [hd12]) (by simp [genIn,lk]) (by simp),?_⟩ | refine ⟨_,⟨_,_,.lend [12] hdel (by simp) (by simp) (by simp [hd12]) (fun v h hh=>hh) (by simp) (by simp [hd12]) (by simp [genIn,lk]) (by simp)⟩,?_⟩
 have hL : (sideL y.i k).length = y.i.length - 1:=by simp [sideL]; omega
 refine ⟨by simp [indAll,snocF,indF,memN,Nat.beq],?_⟩
 have hle : y.i.length ≤ min k y.i.length + (y.i.length - (k + 1) + 1) + 1:=by omega
 have hcut : List.take (y.i.length - 1) (ints (List.take k y.i ++ (List.drop (k + 1) y.i ++ [0]))) = ints (sideL y.i k):=by
  have e : ints (List.take k y.i ++ (List.drop (k + 1) y.i ++ [0])) = ints (sideL y.i k) ++ ints [0]:=by simp [ints,sideL]
  rw [e]
  exact List.take_left' (by simp [ints,hL])
 simp [hle,map_frz_pure (ints_pure _),hcut]
end Go.Proofs.YtlmniacemoohpaaGreatDoor
namespace Go.Proofs.YtlmniacemoohpaaGreatDoor
open Go
def FnP (F : V) (N : Nat) (p : Nat→Bool) : Prop:=∃ f caps,F = .fn f [] caps∧V.pureL caps = true∧∀ m,m < N→PureC Tryz.prog gl0 f (natV m :: caps) (.bool (p m))
theorem firm1_c (N : Nat) (F : Nat→Bool) (cap : Option Nat) : FnP (.fn 119 [] [.iptr (.sl (boolsV N F) cap) 0]) N F:=by
 refine ⟨119,_,rfl,by simp [boolsV_pure],fun m hm=>?_⟩
 refine PureC.of_W 2 ok119 rfl ?_
 simp [i119,x119,natV,hm,boolsV_get]
theorem isV_c (N : Nat) (B : Nat→Nat) (cap : Option Nat) (v : Nat) : FnP (.fn 120 [] [.iptr (.sl (tab N fun j=>u8V (B j)) cap) 0,.iptr (u8V v) 0]) N (fun m=>decide (B m = notN v)):=by
 refine ⟨120,_,rfl,by have h:=tabU_pure N B; simp only [u8V] at h; simp [u8V,h],fun m hm=>?_⟩
 obtain ⟨b,hb⟩ : ∃ b,B m = b:=⟨_,rfl⟩
 have hl:=lnot_c v
 have pB:=tabU_pure N B
 simp only [u8V] at hl pB ⊢
 refine PureC.of_W 2 ok120 rfl ?_
 simp [i120,x120,natV,hm,tab_get,hb]
 intro gm
 first | refine ⟨_,_,_,.pure hl (by simp),?_⟩ | refine ⟨_,⟨_,_,.pure hl (by simp)⟩,?_⟩ | refine ⟨_,_,⟨_,.pure hl (by simp)⟩,?_⟩
 simp
 try rfl
theorem knV_c (N : Nat) (B : Nat→Nat) (cap : Option Nat) : FnP (.fn 121 [] [.iptr (.sl (tab N fun j=>u8V (B j)) cap) 0]) N (fun m=>decide (B m ≤ 1)):=by
 refine ⟨121,_,rfl,by have h:=tabU_pure N B; simp only [u8V] at h; simp [u8V,h],fun m hm=>?_⟩
 obtain ⟨b,hb⟩ : ∃ b,B m = b:=⟨_,rfl⟩
 have hl:=known_c b
 simp only [u8V] at hl ⊢
 refine PureC.of_W 2 ok121 rfl ?_
 simp [i121,x121,natV,hm,tab_get,hb]
 refine CallO.pure hl (by simp) ?_
 simp
theorem notP_c {F : V} {N : Nat} {p : Nat→Bool} (h : FnP F N p) : FnP (.fn 118 [] [.iptr F 0]) N (fun m=>!p m):=by
 obtain ⟨f,caps,rfl,hp,hc⟩:=h
 refine ⟨118,_,rfl,by simp [hp],fun m hm=>?_⟩
 have hcm:=hc m hm
 refine PureC.of_W 2 ok118 rfl ?_
 simp [i118,x118]
 refine CallO.pure hcm (by simp [natV,hp]) ?_
 simp
def fIx (p : Nat→Bool) : List Nat→Nat→Int
 | [],_=>-1
 | x :: r,i=>if p x = true then i else fIx p r (i + 1)
theorem fIx_any (p : Nat→Bool) : ∀ (l : List Nat) (i : Nat),decide (0 ≤ fIx p l i) = l.any p
 | [],i=>rfl
 | x :: r,i=>by
  rw [fIx,List.any_cons]
  by_cases h : p x = true
  ·rw [if_pos h,h]; simp
  ·rw [if_neg h,fIx_any p r (i + 1)]; simp [h]
theorem findP_c {F : V} {N : Nat} {p : Nat→Bool} (h : FnP F N p) (l : List Nat) (cap : Option Nat) (hl : l.length < 1000000) (hN : ∀ x ∈ l,x < N) : PureC Tryz.prog gl0 148 [.sl (natsV l) cap,F] (.int .i64 (fIx p l 0)):=by
 obtain ⟨f,caps,rfl,hp,hc⟩:=h
 obtain ⟨R,hR⟩ : ∃ R,fIx p l 0 = R:=⟨_,rfl⟩
 rw [hR]
 refine PureC.of_W 2 ok148 rfl ?_
 simp [i148,x148]
 refine LoopP.of (X:=Nat) (fun i=>[(8,natV i),(7,natV l.length),(0,.sl (natsV l) cap),(1,.fn f [] caps)]) (fun _=>[])
  (fun i=>i ≤ l.length∧fIx p (l.drop i) i = R) (fun i=>l.length - i) 0 ⟨Nat.zero_le _,by simpa using hR⟩ (by simp [natV]) (by simp) ?_
 rintro i ⟨hi,hr⟩
 simp [natV]
 refine BrB.of (fun hb=>?_) (fun hb=>?_)
 ·have hi' : i < l.length:=of_decide_eq_true hb
  have hw:=wrapN i (by omega)
  obtain ⟨y,hy⟩ : ∃ y,l[i] = y:=⟨_,rfl⟩
  have hcm:=hc y (hN y (by rw [← hy]; exact List.getElem_mem hi'))
  rw [List.drop_eq_getElem_cons hi',hy,fIx] at hr
  simp only [natV] at hcm
  simp [hi',natsV_get,hy]
  refine CallO.pure hcm (by simp [hp]) ?_
  cases hq : p y with
  | true=>rw [if_pos hq] at hr; simp [hr]
  | false=>
   rw [if_neg (by rw [hq]; simp)] at hr
   simp
   exact ⟨i + 1,⟨hi',hr⟩,by simp [hw],by omega⟩
 ·have hi : i = l.length:=by have:=of_decide_eq_false hb; omega
  subst hi
  rw [List.drop_length,fIx] at hr
  simp [hr]
theorem anyP_c {F : V} {N : Nat} {p : Nat→Bool} (h : FnP F N p) (l : List Nat) (cap : Option Nat) (hl : l.length < 1000000) (hN : ∀ x ∈ l,x < N) : PureC Tryz.prog gl0 117 [.sl (natsV l) cap,F] (.bool (l.any p)):=by
 have hf:=findP_c h l cap hl hN
 rw [← fIx_any p l 0]
 obtain ⟨f,caps,rfl,hp,hc⟩:=h
 refine PureC.of_W 2 ok117 rfl ?_
 simp [i117,x117]
 refine CallO.pure hf (by simp [natsV_pure,hp]) ?_
 simp
theorem each_c {F : V} {N : Nat} {p : Nat→Bool} (h : FnP F N p) (l : List Nat) (cap : Option Nat) (hl : l.length < 1000000) (hN : ∀ x ∈ l,x < N) : PureC Tryz.prog gl0 116 [F,.iptr (.sl (natsV l) cap) 0] (.bool (l.all p)):=by
 have hf:=anyP_c (notP_c h) l cap hl hN
 have he : l.all p = !(l.any fun m=>!p m):=by rw [List.not_any_eq_all_not]; simp
 rw [he]
 obtain ⟨f,caps,rfl,hp,hc⟩:=h
 refine PureC.of_W 2 ok116 rfl ?_
 simp [i116,x116]
 intro gf1
 refine CallO.borrow 2 hf ?_ rfl ?_
 ·simp [frz,V.mapR,V.mapRL,lk,mapRL_pure,natsV_pure,hp]
 simp
def sideN (l : List Nat) (k : Nat) : List Nat:=l.take k ++ l.drop (k + 1)
theorem sideN_ints (l : List Nat) (k : Nat) : ints (sideL (l.map fun (x : Nat)=>(x : Int)) k) = natsV (sideN l k):=by
 rw [natsV_ints]; simp [sideL,sideN,List.map_take,List.map_drop]
theorem sideN_mem {l : List Nat} {k x : Nat} (h : x ∈ sideN l k) : x ∈ l:=by
 rcases List.mem_append.1 h with h | h
 ·exact List.mem_of_mem_take h
 ·exact List.mem_of_mem_drop h
theorem sideN_len {l : List Nat} {k : Nat} (h : k < l.length) : (sideN l k).length = l.length - 1:=by simp [sideN]; omega
def okT (B : Nat→Nat) (k q : Nat) (o : List Nat) : Bool:=
 if k = 3∨k = 4 then true else if k = 5∨k = 6∨k = 7∨k = 8 then o.all fun m=>decide (B m = notN (ctlV k))
 else if k = 11 then (if 0 < q then decide (B (o.getD 0 0) = q - 1) else !decide (B (o.getD 0 0) = B (o.getD 1 0)) && o.all fun m=>decide (B m ≤ 1))
 else if k = 9∨k = 10 then o.all fun m=>decide (B m ≤ 1) else false
def quT (F : Nat→Bool) (k q : Nat) (o : List Nat) (v : Nat) : Bool:=
 if k = 3∨k = 4 then true else if k = 5∨k = 6∨k = 7∨k = 8 then o.all F || !decide (v = ctlV k)
 else if k = 11∧0 < q then F (o.getD 0 0) else o.all F
def lnT (B : Nat→Nat) (F : Nat→Bool) (k q : Nat) (o : List Nat) (v : Nat) : Nat:=if okT B k q o = true then (if quT F k q o v = true then 2 else 1) else 0
set_option maxRecDepth 100000 in
set_option maxHeartbeats 8000000 in
theorem lineT_c (c : Ci) (hg : c.good) (B : Nat→Nat) (F : Nat→Bool) (cb cf : Option Nat) (n q : Nat) (hn : n < c.n.length) (hc : combC c n = true) (hq : q < (c.g n).length) :
  PureC Tryz.prog gl0 80 [c.v,.agg [natV n,natV q],.sl (tab c.n.length fun j=>u8V (B j)) cb,.sl (boolsV c.n.length F) cf] (natV (lnT B F (c.nd n).k.toNat q (sideN (c.g n) q) (B ((c.g n).getD q 0)))):=by
 have hval:=hg.val
 have hn1:=hg.n1
 have hgi:=g_comb hc
 have hsd:=side_c c hg n q hn (by rw [hgi] at hq; simpa using hq)
 obtain ⟨y,hy⟩ : ∃ y,c.n[n] = y:=⟨_,rfl⟩
 obtain ⟨l,hl⟩ : ∃ l,c.g n = l:=⟨_,rfl⟩
 obtain ⟨k0,k14,hw⟩:=nd_kw hg hn
 have hyi:=hval.i n hn
 have hyl:=hval.l n hn
 rw [c.nd_get hn,hy] at hyi hyl k0 k14 hw hsd hgi ⊢
 rw [hl] at hq hgi ⊢
 have hyl2 : y.i = l.map fun (x : Nat)=>(x : Int):=by
  rw [hgi,List.map_map]
  have hid : ∀ x ∈ y.i,((fun (x : Nat)=>(x : Int)) ∘ Int.toNat) x = id x:=fun x hx=>Int.toNat_of_nonneg (hyi x hx).1
  rw [List.map_congr_left hid,List.map_id]
 have hlN : ∀ x ∈ l,x < c.n.length:=fun x hx=>by
  have:=(hyi (x : Int) (by rw [hyl2]; exact List.mem_map_of_mem hx)).2
  omega
 have hll : l.length ≤ 16:=by rw [hyl2] at hyl; simpa using hyl
 have hin : ints y.i = natsV l:=by rw [hyl2,← natsV_ints]
 have hlen : l.length = y.i.length:=by rw [hyl2]; simp
 obtain ⟨kk,hkk⟩ : ∃ k : Nat,y.k = (k : Int):=⟨y.k.toNat,(Int.toNat_of_nonneg k0).symm⟩
 rw [hyl2,sideN_ints] at hsd
 have hoN : ∀ x ∈ sideN l q,x < c.n.length:=fun x hx=>hlN x (sideN_mem hx)
 have hol:=sideN_len hq
 rw [hkk,Int.toNat_natCast]
 rw [hkk] at k14 hw
 have hxl : l.getD q 0 = l[q]:=by rw [List.getD_eq_getElem?_getD,List.getElem?_eq_getElem hq]; rfl
 rw [hxl]
 obtain ⟨x,hx⟩ : ∃ x,l[q] = x:=⟨_,rfl⟩
 have hxN:=hlN x (by rw [← hx]; exact List.getElem_mem hq)
 rw [hx]
 generalize sideN l q = o at hsd hoN hol ⊢
 obtain ⟨v,hv⟩ : ∃ v,B x = v:=⟨_,rfl⟩
 rw [hv]
 have e1:=each_c (firm1_c c.n.length F cf) o none (by omega) hoN
 have e2:=each_c (isV_c c.n.length B cb (ctlV kk)) o none (by omega) hoN
 have e3:=each_c (knV_c c.n.length B cb) o none (by omega) hoN
 have hct:=control_c kk (by omega)
 have pB:=tabU_pure c.n.length B
 simp only [u8V,natV] at e1 e2 e3 hct pB hsd ⊢
 have hyv : y.v = .agg [.int .u8 (kk : Int),.sl (natsV l) none,.int .i64 y.a,.int .i64 y.b]:=by unfold Nd.v; rw [hin,hkk]
 refine PureC.of_W 2 ok80 rfl ?_
 simp [i80,x80]
 intro gf1 gf2 gf3 gf4
 generalize gf1 4 = g4
 generalize gf2 5 = g5
 generalize gf3 6 = g6
 generalize gf4 7 = g7
 refine CallO.pure hsd (by simp) ?_
 simp
 intro gf5
 generalize gf5 9 = g9
 refine CallO.borrow 2 e1 ?_ rfl ?_
 ·simp [frz,V.mapR,V.mapRL,lk,mapRL_pure,natsV_pure,boolsV_pure]
 obtain ⟨qf,hqf⟩ : ∃ b,o.all F = b:=⟨_,rfl⟩
 rw [hqf]
 by_cases h34 : kk = 3∨kk = 4
 ·rcases h34 with rfl | rfl <;> simp [hn,hy,hyv,hin,hq,natsV_get,hx,hxN,tab_get,hv,lnT,okT,quT]
 by_cases h58 : kk = 5∨kk = 6∨kk = 7∨kk = 8
 ·have hO : okT B kk q o = o.all fun m=>decide (B m = notN (ctlV kk)):=by unfold okT; rw [if_neg h34,if_pos h58]
  have hQ : quT F kk q o v = (o.all F || !decide (v = ctlV kk)):=by unfold quT; rw [if_neg h34,if_pos h58]
  unfold lnT
  rw [hO,hQ,hqf]
  obtain ⟨ok,hok⟩ : ∃ b,(o.all fun m=>decide (B m = notN (ctlV kk))) = b:=⟨_,rfl⟩
  rw [hok] at e2 ⊢
  clear hO hQ
  generalize ctlV kk = cv at e2 hct ⊢
  generalize ctlH kk = ch at hct
  rcases h58 with rfl | rfl | rfl | rfl
  all_goals
   simp [hn,hy,hyv,hin,hq,natsV_get,hx,hxN,tab_get,hv]
   refine CallO.pure hct (by simp) ?_
   simp
   intro gf6
   generalize gf6 15 = g15
   refine CallO.borrow 2 e2 ?_ rfl ?_
   ·simp [frz,V.mapR,V.mapRL,lk,mapRL_pure,natsV_pure,pB]
   by_cases hvc : v = cv <;> cases ok <;> cases qf <;> simp [hvc]
 obtain ⟨kn,hkn⟩ : ∃ b,(o.all fun m=>decide (B m ≤ 1)) = b:=⟨_,rfl⟩
 rw [hkn] at e3
 have a3 : ¬ kk = 3:=fun h=>h34 (.inl h)
 have a4 : ¬ kk = 4:=fun h=>h34 (.inr h)
 have a5 : ¬ kk = 5:=fun h=>h58 (.inl h)
 have a6 : ¬ kk = 6:=fun h=>h58 (.inr (.inl h))
 have a7 : ¬ kk = 7:=fun h=>h58 (.inr (.inr (.inl h)))
 have a8 : ¬ kk = 8:=fun h=>h58 (.inr (.inr (.inr h)))
 by_cases h11 : kk = 11
 ·subst h11
  have hl3 : l.length = 3:=by
   have h1 : kLo 11 = 3:=rfl
   have h2 : kHi 11 = 3:=rfl
   simp [widB] at hw
   omega
  obtain ⟨m0,m1,rfl⟩ : ∃ m0 m1,o = [m0,m1]:=by
   match o,hol with
   | [a,b],_=>exact ⟨a,b,rfl⟩
   | [],h=>simp at h; omega
   | [_],h=>simp at h; omega
   | _ :: _ :: _ :: _,h=>simp at h; omega
  have hm0:=hoN m0 (by simp)
  have hm1:=hoN m1 (by simp)
  obtain ⟨v0,hv0⟩ : ∃ v,B m0 = v:=⟨_,rfl⟩
  obtain ⟨v1,hv1⟩ : ∃ v,B m1 = v:=⟨_,rfl⟩
  obtain ⟨f0,hf0⟩ : ∃ v,F m0 = v:=⟨_,rfl⟩
  have hn2 : natsV [m0,m1] = [natV m0,natV m1]:=rfl
  by_cases hq0 : 0 < q
  ·have hO : okT B 11 q [m0,m1] = decide (v0 = q - 1):=by simp [okT,hq0,hv0]
   have hQ : quT F 11 q [m0,m1] v = f0:=by simp [quT,hq0,hf0]
   unfold lnT
   rw [hO,hQ]
   obtain ⟨q1,hq1⟩ : ∃ q1,q - 1 = q1:=⟨_,rfl⟩
   have hw1 : IntKind.i64.wrap ((q : Int) - 1) = (q1 : Int):=by rw [← hq1]; simp [IntKind.wrap,IntKind.bits,IntKind.signed]; omega
   have hw2 : IntKind.u8.wrap (q1 : Int) = (q1 : Int):=by simp [IntKind.wrap,IntKind.bits,IntKind.signed]; omega
   rw [hq1]
   simp [hn,hy,hyv,hin,hq,natsV_get,hx,hxN,tab_get,hv,hq0,hw1,hw2,hn2,natV,hm0,hv0,boolsV_get,hf0]
   by_cases hvq : v0 = q1 <;> cases f0 <;> simp [hvq]
  ·have hO : okT B 11 q [m0,m1] = (!decide (v0 = v1) && kn):=by simp only [okT]; simp [hq0,hv0,hv1,← hkn]
   have hQ : quT F 11 q [m0,m1] v = qf:=by simp only [quT]; simp [hq0,← hqf]
   unfold lnT
   rw [hO,hQ]
   rw [hn2] at e3 ⊢
   simp only [natV] at e3
   simp [hn,hy,hyv,hin,hq,natsV_get,hx,hxN,tab_get,hv,hq0,natV,hm0,hv0,hm1,hv1]
   by_cases hvv : v0 = v1
   ·simp [hvv]
   ·simp [hvv]
    refine CallO.borrow 2 e3 ?_ rfl ?_
    ·simp [frz,V.mapR,V.mapRL,lk,mapRL_pure,natsV_pure,pB]
    cases kn <;> cases qf <;> simp
 ·have hQ : quT F kk q o v = qf:=by unfold quT; rw [if_neg h34,if_neg h58,if_neg fun h=>h11 h.1,hqf]
  by_cases h9 : kk = 9∨kk = 10
  ·have hO : okT B kk q o = kn:=by unfold okT; rw [if_neg h34,if_neg h58,if_neg h11,if_pos h9,hkn]
   unfold lnT
   rw [hO,hQ]
   rcases h9 with rfl | rfl
   all_goals
    simp [hn,hy,hyv,hin,hq,natsV_get,hx,hxN,tab_get,hv]
    refine CallO.borrow 2 e3 ?_ rfl ?_
    ·simp [frz,V.mapR,V.mapRL,lk,mapRL_pure,natsV_pure,pB]
    cases kn <;> cases qf <;> simp
  ·have hO : okT B kk q o = false:=by unfold okT; rw [if_neg h34,if_neg h58,if_neg h11,if_neg h9]
   have a9 : ¬ kk = 9:=fun h=>h9 (.inl h)
   have a10 : ¬ kk = 10:=fun h=>h9 (.inr h)
   unfold lnT
   rw [hO]
   simp [hn,hy,hyv,hin,hq,natsV_get,hx,hxN,tab_get,hv,a3,a4,a5,a6,a7,a8,a9,a10,h11]
end Go.Proofs.YtlmniacemoohpaaGreatDoor
