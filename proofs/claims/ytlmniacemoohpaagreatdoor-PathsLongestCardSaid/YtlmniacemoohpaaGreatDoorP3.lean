/- Lemmas. Conditions: none. -/
import Derived.Test.YtlmniacemoohpaaGreatDoorP1
set_option linter.all false
namespace Go.Proofs.YtlmniacemoohpaaGreatDoor
section
open Go
theorem q2z (l:List Int) (cap:Option Nat) (h0:l ≠ []) (hl:l.length < 1000000):qch Tryz.prog gl0 147 [.sl (qc1 l) cap] (qvs 1 (qc1 l) none):=by
 refine jiw q8z rfl ?_
 obtain ⟨x,r,rfl⟩:∃ x r,l = x :: r:=by cases l with
  | nil=>exact absurd rfl h0
  | cons x r=>exact ⟨x,r,rfl⟩
 have hx:qc1 (x :: r) = .int .i64 x :: qc1 r:=rfl;rw [hx];simp at hl;simp [jek,x147];intro gf0;simp [nop];intro gf1 gf2;refine ⟨by omega,?_⟩;refine .move 5 0 _ (by simp) (by simp; rfl) fun g=>.done ?_;simp;exact ⟨[(0,.row g 1 (.int .i64 x :: qc1 r))],by simp [Blk.rn,V.rn,qap (qc2 _)],g,by simp,rfl⟩
def qqe (l:List Int) (k:Nat):List Int:=l.take k ++ l.drop (k + 1)
theorem jag (c:Ci) (hg:c.good) (n k:Nat) (hn:n < c.n.length) (hk:k < (c.nd n).i.length):qac Tryz.prog gl0 115 [c.v,.agg [qab n,qab k]] (.sl (qc1 (qqe (c.nd n).i k)) none):=by
 have hval:=hg.val;have hyl:=hval.l n hn;obtain ⟨y,hy⟩:∃ y,c.n[n] = y:=⟨_,rfl⟩;rw [c.nd_get hn,hy] at hk hyl ⊢;have hcl:=q2z y.i none (fun e=>by rw [e] at hk; simp at hk) (by omega);refine jiu 2 q8j rfl ?_;simp [jd4,x115,qab];intro gf1 gf2 gm;simp [hn,hy];have hdc:(qch Tryz.prog gl0 147 [.sl (qc1 y.i) none] (qvs 1 (qc1 y.i) none)):=hcl
 first | refine ⟨_,_,_,.own hcl (by simp) (by simp) rfl,?_⟩ | refine ⟨_,⟨_,_,.own hcl (by simp) (by simp) rfl⟩,?_⟩ | refine ⟨_,_,⟨_,.own hcl (by simp) (by simp) rfl⟩,?_⟩
 simp;obtain ⟨q,hq⟩:∃ q,k + 1 = q:=⟨_,rfl⟩;have hwk:IntKind.i64.wrap ((k:Int) + 1) = (q:Int):=by rw [<- hq]; exact qbg k (by omega)
 simp [hwk]
 have hdel:qa6 Tryz.prog gl0 146 [.ref 12 (gm 12) 0 y.i.length none,.int .i64 k,.int .i64 q] [(12,.row (gm 12) 1 (qc1 y.i))]
   (fun v h=>v = .ref 12 (gm 12) 0 (y.i.length - 1) none/\h = (12,.row (gm 12) 1 (qc1 (y.i.take k ++ y.i.drop (k + 1) ++ [0]))) :: [(12,.row (gm 12) 1 (qc1 y.i))]):=by
  rw [<- hq];exact jie (ρ:=renD) q7q (by kernel_rfl) (g:=gm 12) (l:=y.i) (cap:=none) hk (by simp [lk]; rfl) ⟨rfl,rfl⟩
 have hd12:∀ l:List Int,jg4 [12] (qc1 l) = true:=fun l=>jgz _ _ (qc2 l)
 first | refine ⟨_,_,_,.lend [12] hdel (by simp) (by simp) (by simp [hd12]) (fun v h hh=>hh) (by simp) (by simp [hd12]) (by simp [qre,lk]) (by simp),?_⟩ | refine ⟨_,⟨_,_,.lend [12] hdel (by simp) (by simp) (by simp [hd12]) (fun v h hh=>hh) (by simp) (by simp [hd12]) (by simp [qre,lk]) (by simp)⟩,?_⟩
 have hL:(qqe y.i k).length = y.i.length - 1:=by simp [qqe]; omega
 refine ⟨by simp [qh6,qi2,jbq,qrt,Nat.beq],?_⟩;have hle:y.i.length≤min k y.i.length + (y.i.length - (k + 1) + 1) + 1:=by omega
 have hcut:List.take (y.i.length - 1) (qc1 (List.take k y.i ++ (List.drop (k + 1) y.i ++ [0]))) = qc1 (qqe y.i k):=by
  have e:qc1 (List.take k y.i ++ (List.drop (k + 1) y.i ++ [0])) = qc1 (qqe y.i k) ++ qc1 [0]:=by simp [qc1,qqe]
  rw [e];exact List.take_left' (by simp [qc1,hL])
 simp [hle,qa4 (qc2 _),hcut]
end
section
open Go
def FnP (F:V) (N:Nat) (p:Nat->Bool):Prop:=∃ f caps,F = .fn f [] caps/\jgy caps = true/\∀ m,m < N->qac Tryz.prog gl0 f (qab m :: caps) (.bool (p m))
theorem q3c (N:Nat) (F:Nat->Bool) (cap:Option Nat):FnP (.fn 119 [] [.iptr (.sl (qbk N F) cap) 0]) N F:=by
 refine ⟨119,_,rfl,by simp [qc6],fun m hm=>?_⟩;refine jiu 2 q8m rfl ?_;simp [jd7,x119,qab,hm,qbv]
theorem je8 (N:Nat) (B:Nat->Nat) (cap:Option Nat) (v:Nat):FnP (.fn 120 [] [.iptr (.sl (tab N fun j=>u8V (B j)) cap) 0,.iptr (u8V v) 0]) N (fun m=>decide (B m = qlz v)):=by
 refine ⟨120,_,rfl,by have h:=qb5 N B; simp only [u8V] at h; simp [u8V,h],fun m hm=>?_⟩;obtain ⟨b,hb⟩:∃ b,B m = b:=⟨_,rfl⟩;have hl:=qmp v;have pB:=qb5 N B;simp only [u8V] at hl pB ⊢;refine jiu 2 q8n rfl ?_;simp [jd8,x120,qab,hm,qa1,hb];intro gm
 first | refine ⟨_,_,_,.pure hl (by simp),?_⟩ | refine ⟨_,⟨_,_,.pure hl (by simp)⟩,?_⟩ | refine ⟨_,_,⟨_,.pure hl (by simp)⟩,?_⟩
 simp
 try rfl
theorem jfb (N:Nat) (B:Nat->Nat) (cap:Option Nat):FnP (.fn 121 [] [.iptr (.sl (tab N fun j=>u8V (B j)) cap) 0]) N (fun m=>decide (B m≤1)):=by
 refine ⟨121,_,rfl,by have h:=qb5 N B; simp only [u8V] at h; simp [u8V,h],fun m hm=>?_⟩;obtain ⟨b,hb⟩:∃ b,B m = b:=⟨_,rfl⟩;have hl:=qis b;simp only [u8V] at hl ⊢;refine jiu 2 q8o rfl ?_;simp [jd9,x121,qab,hm,qa1,hb];refine jir hl (by simp) ?_;simp
theorem q79 {F:V} {N:Nat} {p:Nat->Bool} (h:FnP F N p):FnP (.fn 118 [] [.iptr F 0]) N (fun m=>!p m):=by
 obtain ⟨f,caps,rfl,hp,hc⟩:=h;refine ⟨118,_,rfl,by simp [hp],fun m hm=>?_⟩;have hcm:=hc m hm;refine jiu 2 q8l rfl ?_;simp [jd6,x118];refine jir hcm (by simp [qab,hp]) ?_;simp
def fIx (p:Nat->Bool):List Nat->Nat->Int
 | [],_=>-1
 | x :: r,i=>if p x = true then i else fIx p r (i + 1)
theorem qwn (p:Nat->Bool):∀ (l:List Nat) (i:Nat),decide (0≤fIx p l i) = l.any p
 | [],i=>rfl
 | x :: r,i=>by
  rw [fIx,List.any_cons];by_cases h:p x = true
  ·rw [if_pos h,h]; simp
  ·rw [if_neg h,qwn p r (i + 1)]; simp [h]
theorem q3b {F:V} {N:Nat} {p:Nat->Bool} (h:FnP F N p) (l:List Nat) (cap:Option Nat) (hl:l.length < 1000000) (hN:∀ x ∈ l,x < N):qac Tryz.prog gl0 148 [.sl (qah l) cap,F] (.int .i64 (fIx p l 0)):=by
 obtain ⟨f,caps,rfl,hp,hc⟩:=h;obtain ⟨R,hR⟩:∃ R,fIx p l 0 = R:=⟨_,rfl⟩;rw [hR];refine jiu 2 q39 rfl ?_;simp [jbo,jgt]
 refine jit (X:=Nat) (fun i=>[(8,qab i),(7,qab l.length),(0,.sl (qah l) cap),(1,.fn f [] caps)]) (fun _=>[])
  (fun i=>i≤l.length/\fIx p (l.drop i) i = R) (fun i=>l.length - i) 0 ⟨Nat.zero_le _,by simpa using hR⟩ (by simp [qab]) (by simp) ?_
 rintro i ⟨hi,hr⟩;simp [qab];refine jis (fun hb=>?_) (fun hb=>?_)
 ·have hi':i < l.length:=jiy hb;have hw:=qbg i (by omega);obtain ⟨y,hy⟩:∃ y,l[i] = y:=⟨_,rfl⟩;have hcm:=hc y (hN y (by rw [<- hy]; exact ji3 hi'));rw [List.drop_eq_getElem_cons hi',hy,fIx] at hr;simp only [qab] at hcm;simp [hi',qar,hy];refine jir hcm (by simp [hp]) ?_
  cases hq:p y with
  | true=>rw [if_pos hq] at hr; simp [hr]
  | false=>
   rw [if_neg (by rw [hq]; simp)] at hr;simp;exact ⟨i + 1,⟨hi',hr⟩,by simp [hw],by omega⟩
 ·have hi:i = l.length:=by have:=jiz hb; omega
  subst hi;rw [List.drop_length,fIx] at hr;simp [hr]
theorem q6c {F:V} {N:Nat} {p:Nat->Bool} (h:FnP F N p) (l:List Nat) (cap:Option Nat) (hl:l.length < 1000000) (hN:∀ x ∈ l,x < N):qac Tryz.prog gl0 117 [.sl (qah l) cap,F] (.bool (l.any p)):=by
 have hf:=q3b h l cap hl hN;rw [<- qwn p l 0];obtain ⟨f,caps,rfl,hp,hc⟩:=h;refine jiu 2 q35 rfl ?_;simp [jbk,jgp];refine jir hf (by simp [qav,hp]) ?_;simp
theorem qwb {F:V} {N:Nat} {p:Nat->Bool} (h:FnP F N p) (l:List Nat) (cap:Option Nat) (hl:l.length < 1000000) (hN:∀ x ∈ l,x < N):qac Tryz.prog gl0 116 [F,.iptr (.sl (qah l) cap) 0] (.bool (l.all p)):=by
 have hf:=q6c (q79 h) l cap hl hN;have he:l.all p = !(l.any fun m=>!p m):=by rw [List.not_any_eq_all_not]; simp
 rw [he];obtain ⟨f,caps,rfl,hp,hc⟩:=h;refine jiu 2 q8k rfl ?_;simp [jd5,x116];intro gf1;refine CallO.borrow 2 hf ?_ rfl ?_
 ·simp [frz,V.mapR,jg1,lk,qak,qav,hp]
 simp
def qli (l:List Nat) (k:Nat):List Nat:=l.take k ++ l.drop (k + 1)
theorem qu1 (l:List Nat) (k:Nat):qc1 (qqe (l.map fun (x:Nat)=>(x:Int)) k) = qah (qli l k):=by
 rw [qd3]; simp [qqe,qli,List.map_take,List.map_drop]
theorem qye {l:List Nat} {k x:Nat} (h:x ∈ qli l k):x ∈ l:=by
 rcases List.mem_append.1 h with h | h
 ·exact List.mem_of_mem_take h
 ·exact List.mem_of_mem_drop h
theorem qyd {l:List Nat} {k:Nat} (h:k < l.length):(qli l k).length = l.length - 1:=by simp [qli]; omega
def okT (B:Nat->Nat) (k q:Nat) (o:List Nat):Bool:=
 if k = 3∨k = 4 then true else if k = 5∨k = 6∨k = 7∨k = 8 then o.all fun m=>decide (B m = qlz (qop k))
 else if k = 11 then (if 0 < q then decide (B (o.getD 0 0) = q - 1) else !decide (B (o.getD 0 0) = B (o.getD 1 0)) && o.all fun m=>decide (B m≤1))
 else if k = 9∨k = 10 then o.all fun m=>decide (B m≤1) else false
def quT (F:Nat->Bool) (k q:Nat) (o:List Nat) (v:Nat):Bool:=
 if k = 3∨k = 4 then true else if k = 5∨k = 6∨k = 7∨k = 8 then o.all F || !decide (v = qop k)
 else if k = 11/\0 < q then F (o.getD 0 0) else o.all F
def lnT (B:Nat->Nat) (F:Nat->Bool) (k q:Nat) (o:List Nat) (v:Nat):Nat:=if okT B k q o = true then (if quT F k q o v = true then 2 else 1) else 0
set_option maxRecDepth 100000 in
set_option maxHeartbeats 8000000 in
theorem q3o (c:Ci) (hg:c.good) (B:Nat->Nat) (F:Nat->Bool) (cb cf:Option Nat) (n q:Nat) (hn:n < c.n.length) (hc:qdf c n = true) (hq:q < (c.g n).length) :
  qac Tryz.prog gl0 80 [c.v,.agg [qab n,qab q],.sl (tab c.n.length fun j=>u8V (B j)) cb,.sl (qbk c.n.length F) cf] (qab (lnT B F (c.nd n).k.toNat q (qli (c.g n) q) (B ((c.g n).getD q 0)))):=by
 have hval:=hg.val;have hn1:=hg.n1;have hgi:=qmh hc;have hsd:=jag c hg n q hn (by rw [hgi] at hq; simpa using hq);obtain ⟨y,hy⟩:∃ y,c.n[n] = y:=⟨_,rfl⟩;obtain ⟨l,hl⟩:∃ l,c.g n = l:=⟨_,rfl⟩;obtain ⟨k0,k14,hw⟩:=qxq hg hn;have hyi:=hval.i n hn;have hyl:=hval.l n hn;rw [c.nd_get hn,hy] at hyi hyl k0 k14 hw hsd hgi ⊢;rw [hl] at hq hgi ⊢
 have hyl2:y.i = l.map fun (x:Nat)=>(x:Int):=by
  rw [hgi,List.map_map];have hid:∀ x ∈ y.i,((fun (x:Nat)=>(x:Int)) ∘ Int.toNat) x = id x:=fun x hx=>Int.toNat_of_nonneg (hyi x hx).1;rw [List.map_congr_left hid,List.map_id]
 have hlN:∀ x ∈ l,x < c.n.length:=fun x hx=>by
  have:=(hyi (x:Int) (by rw [hyl2]; exact List.mem_map_of_mem hx)).2;omega
 have hll:l.length≤16:=by rw [hyl2] at hyl; simpa using hyl
 have hin:qc1 y.i = qah l:=by rw [hyl2,<- qd3]
 have hlen:l.length = y.i.length:=by rw [hyl2]; simp
 obtain ⟨kk,hkk⟩:∃ k:Nat,y.k = (k:Int):=⟨y.k.toNat,(Int.toNat_of_nonneg k0).symm⟩;rw [hyl2,qu1] at hsd;have hoN:∀ x ∈ qli l q,x < c.n.length:=fun x hx=>hlN x (qye hx);have hol:=qyd hq;rw [hkk,Int.toNat_natCast];rw [hkk] at k14 hw;have hxl:l.getD q 0 = l[q]:=by rw [ji0,ji4 hq]; rfl
 rw [hxl];obtain ⟨x,hx⟩:∃ x,l[q] = x:=⟨_,rfl⟩;have hxN:=hlN x (by rw [<- hx]; exact ji3 hq);rw [hx];generalize qli l q = o at hsd hoN hol ⊢;obtain ⟨v,hv⟩:∃ v,B x = v:=⟨_,rfl⟩;rw [hv];have e1:=qwb (q3c c.n.length F cf) o none (by omega) hoN;have e2:=qwb (je8 c.n.length B cb (qop kk)) o none (by omega) hoN;have e3:=qwb (jfb c.n.length B cb) o none (by omega) hoN;have hct:=qo6 kk (by omega);have pB:=qb5 c.n.length B;simp only [u8V,qab] at e1 e2 e3 hct pB hsd ⊢;have hyv:y.v = .agg [.int .u8 (kk:Int),.sl (qah l) none,.int .i64 y.a,.int .i64 y.b]:=by unfold Nd.v; rw [hin,hkk]
 refine jiu 2 ok80 rfl ?_;simp [i80,x80];intro gf1 gf2 gf3 gf4;generalize gf1 4 = g4;generalize gf2 5 = g5;generalize gf3 6 = g6;generalize gf4 7 = g7;refine jir hsd (by simp) ?_;simp;intro gf5;generalize gf5 9 = g9;refine CallO.borrow 2 e1 ?_ rfl ?_
 ·simp [frz,V.mapR,jg1,lk,qak,qav,qc6]
 obtain ⟨qf,hqf⟩:∃ b,o.all F = b:=⟨_,rfl⟩;rw [hqf];by_cases h34:kk = 3∨kk = 4
 ·rcases h34 with rfl | rfl <;> simp [hn,hy,hyv,hin,hq,qar,hx,hxN,qa1,hv,lnT,okT,quT]
 by_cases h58:kk = 5∨kk = 6∨kk = 7∨kk = 8
 ·have hO:okT B kk q o = o.all fun m=>decide (B m = qlz (qop kk)):=by unfold okT; rw [if_neg h34,if_pos h58]
  have hQ:quT F kk q o v = (o.all F || !decide (v = qop kk)):=by unfold quT; rw [if_neg h34,if_pos h58]
  unfold lnT;rw [hO,hQ,hqf];obtain ⟨ok,hok⟩:∃ b,(o.all fun m=>decide (B m = qlz (qop kk))) = b:=⟨_,rfl⟩;rw [hok] at e2 ⊢;clear hO hQ;generalize qop kk = cv at e2 hct ⊢;generalize qv7 kk = ch at hct;rcases h58 with rfl | rfl | rfl | rfl
  all_goals
   simp [hn,hy,hyv,hin,hq,qar,hx,hxN,qa1,hv];refine jir hct (by simp) ?_;simp;intro gf6;generalize gf6 15 = g15;refine CallO.borrow 2 e2 ?_ rfl ?_
   ·simp [frz,V.mapR,jg1,lk,qak,qav,pB]
   by_cases hvc:v = cv <;> cases ok <;> cases qf <;> simp [hvc]
 obtain ⟨kn,hkn⟩:∃ b,(o.all fun m=>decide (B m≤1)) = b:=⟨_,rfl⟩;rw [hkn] at e3;have a3:¬ kk = 3:=fun h=>h34 (.inl h);have a4:¬ kk = 4:=fun h=>h34 (.inr h);have a5:¬ kk = 5:=fun h=>h58 (.inl h);have a6:¬ kk = 6:=fun h=>h58 (.inr (.inl h));have a7:¬ kk = 7:=fun h=>h58 (.inr (.inr (.inl h)));have a8:¬ kk = 8:=fun h=>h58 (.inr (.inr (.inr h)));by_cases h11:kk = 11
 ·subst h11
  have hl3:l.length = 3:=by
   have h1:kLo 11 = 3:=rfl;have h2:kHi 11 = 3:=rfl;simp [qlq] at hw;omega
  obtain ⟨m0,m1,rfl⟩:∃ m0 m1,o = [m0,m1]:=by
   match o,hol with
   | [a,b],_=>exact ⟨a,b,rfl⟩
   | [],h=>simp at h; omega
   | [_],h=>simp at h; omega
   | _ :: _ :: _ :: _,h=>simp at h; omega
  have hm0:=hoN m0 (by simp);have hm1:=hoN m1 (by simp);obtain ⟨v0,hv0⟩:∃ v,B m0 = v:=⟨_,rfl⟩;obtain ⟨v1,hv1⟩:∃ v,B m1 = v:=⟨_,rfl⟩;obtain ⟨f0,hf0⟩:∃ v,F m0 = v:=⟨_,rfl⟩;have hn2:qah [m0,m1] = [qab m0,qab m1]:=rfl;by_cases hq0:0 < q
  ·have hO:okT B 11 q [m0,m1] = decide (v0 = q - 1):=by simp [okT,hq0,hv0]
   have hQ:quT F 11 q [m0,m1] v = f0:=by simp [quT,hq0,hf0]
   unfold lnT;rw [hO,hQ];obtain ⟨q1,hq1⟩:∃ q1,q - 1 = q1:=⟨_,rfl⟩;have hw1:IntKind.i64.wrap ((q:Int) - 1) = (q1:Int):=by rw [<- hq1]; simp [IntKind.wrap,IntKind.bits,IntKind.signed]; omega
   have hw2:IntKind.u8.wrap (q1:Int) = (q1:Int):=by simp [IntKind.wrap,IntKind.bits,IntKind.signed]; omega
   rw [hq1];simp [hn,hy,hyv,hin,hq,qar,hx,hxN,qa1,hv,hq0,hw1,hw2,hn2,qab,hm0,hv0,qbv,hf0];by_cases hvq:v0 = q1 <;> cases f0 <;> simp [hvq]
  ·have hO:okT B 11 q [m0,m1] = (!decide (v0 = v1) && kn):=by simp only [okT]; simp [hq0,hv0,hv1,<- hkn]
   have hQ:quT F 11 q [m0,m1] v = qf:=by simp only [quT]; simp [hq0,<- hqf]
   unfold lnT;rw [hO,hQ];rw [hn2] at e3 ⊢;simp only [qab] at e3;simp [hn,hy,hyv,hin,hq,qar,hx,hxN,qa1,hv,hq0,qab,hm0,hv0,hm1,hv1];by_cases hvv:v0 = v1
   ·simp [hvv]
   ·simp [hvv];refine CallO.borrow 2 e3 ?_ rfl ?_
    ·simp [frz,V.mapR,jg1,lk,qak,qav,pB]
    cases kn <;> cases qf <;> simp
 ·have hQ:quT F kk q o v = qf:=by unfold quT; rw [if_neg h34,if_neg h58,if_neg fun h=>h11 h.1,hqf]
  by_cases h9:kk = 9∨kk = 10
  ·have hO:okT B kk q o = kn:=by unfold okT; rw [if_neg h34,if_neg h58,if_neg h11,if_pos h9,hkn]
   unfold lnT;rw [hO,hQ];rcases h9 with rfl | rfl
   all_goals
    simp [hn,hy,hyv,hin,hq,qar,hx,hxN,qa1,hv];refine CallO.borrow 2 e3 ?_ rfl ?_
    ·simp [frz,V.mapR,jg1,lk,qak,qav,pB]
    cases kn <;> cases qf <;> simp
  ·have hO:okT B kk q o = false:=by unfold okT; rw [if_neg h34,if_neg h58,if_neg h11,if_neg h9]
   have a9:¬ kk = 9:=fun h=>h9 (.inl h);have a10:¬ kk = 10:=fun h=>h9 (.inr h);unfold lnT;rw [hO];simp [hn,hy,hyv,hin,hq,qar,hx,hxN,qa1,hv,a3,a4,a5,a6,a7,a8,a9,a10,h11]
end
end Go.Proofs.YtlmniacemoohpaaGreatDoor
