/- Transitions: circuits without nodes of kind Tri and Bus, patterns of known values; the law Detects. Conditions: none. -/
import Derived.Test.YtpaopccohkldlaaGreatDoorT12
import Derived.Test.YtpaopccohkldlaaGreatDoorT7
import Derived.Test.YtpaopccohkldlaaGreatDoorXT
set_option linter.all false
namespace Go.Proofs.YtpaopccohkldlaaGreatDoor
open Go
def qt8 (l:List Nd):Prop:=∀ y ∈ l,y.k ≠ 12/\y.k ≠ 13
theorem jdd (g:Gx) (l:List Nd):(qd4 false g l).1 ≠ 12/\(qd4 false g l).1 ≠ 13:=by
 unfold qd4 qdn;dsimp only;have h:g.k % 9 < 9:=Nat.mod_lt _ (by omega);rw [if_neg Bool.false_ne_true];generalize g.k % 9 = k at h;split
 ·dsimp only; omega
 split
 ·simp
 split
 ·simp
 rw [if_neg (by omega),if_neg (by omega)];split
 ·dsimp only; omega
 ·simp
theorem q1s:∀ (gs:List Gx) (l:List Nd),qt8 l->qt8 (qdk false gs l)
 | [],_,h=>h
 | g :: gs,l,h=>by
  rw [qdk];refine q1s gs _ fun y hy=>?_;rcases List.mem_append.1 hy with hy | hy
  ·exact h y hy
  ·obtain rfl:=List.mem_singleton.1 hy;obtain ⟨h1,h2⟩:=jdd g l;exact ⟨by simp only [ndN]; omega,by simp only [ndN]; omega⟩
theorem st0K (x:Cx) (hm:x.mem = false):qt8 x.st0:=by
 intro y hy;unfold Cx.st0 Cx.st1 at hy;rw [if_neg (by rw [hm]; exact Bool.false_ne_true),List.append_nil] at hy;rcases List.mem_append.1 hy with h | h
 ·rw [List.eq_of_mem_replicate h]; exact ⟨by simp [in0],by simp [in0]⟩
 ·rw [List.eq_of_mem_replicate h]; exact ⟨by simp [q5j],by simp [q5j]⟩
theorem ns1K (x:Cx) (hb:x.bus = false) (hm:x.mem = false):∀ i,qt8 (x.ns1 i)
 | 0=>by
  show qt8 x.ns0;unfold Cx.ns0;rw [hb];exact q1s _ _ (st0K x hm)
 | i + 1=>by
  have ih:=ns1K x hb hm i;intro y hy;unfold Cx.ns1 at hy;rcases List.mem_or_eq_of_mem_set hy with h | rfl
  ·exact ih y h
  ·dsimp only;by_cases hl:x.n % 4 + 1 + i < (x.ns1 i).length
   ·rw [jja,jje hl];exact ih _ (jjd hl)
   ·rw [jja,List.getElem?_eq_none (by omega)];exact ⟨by simp [in0],by simp [in0]⟩
theorem qys (x:Cx) (hb:x.bus = false) (hm:x.mem = false):x.ci.plain:=by
 intro n hn hc;obtain ⟨h1,-⟩:=qjj x;have h2:=h1 n hn;have h3:=ns1K x hb hm (x.f % 3) (x.ci.n[n]) (jjd hn);unfold qbx at hc;rw [x.ci.nd_get hn] at hc ⊢;simp only [qeh,decide_eq_true_eq] at hc;rcases h2 with h | h | h | h
 ·omega
 ·omega
 ·rw [hm] at h; exact absurd h.1 Bool.false_ne_true
 ·exact ⟨h.1,by omega,h.2.2.1⟩
def Cx.pl (x:Cx):Cx:={ x with bus:=false }
theorem q4k (x:Cx) (hx:x.ok):qad Tryz.prog gl0 14 [x.v] x.pl.nm.ci.v:=by
 have hyok:x.pl.ok:=⟨hx.n,hx.f,hx.d0,hx.d1,hx.p0,hx.p1,hx.p2,hx.p3,hx.g,hx.o⟩;have hof:=q24 x.pl hyok;have hpu:=qyx x.pl;generalize x.pl.nm.ci = c at hof ⊢;have hcl:c.v.cells = [.sl (c.n.map Nd.v) none,.sl (c.s.map .str) none,.sl (c.m.map Md.v) none,.sl (qc5 c.o) none]:=rfl;simp only [Cx.pl] at hof hpu;refine ji4 2 ok14 rfl ?_;simp [i14,x14,Cx.v];intro gf1 gf2;refine ji0 hof hpu ?_;simp [qah,qaf,qag,qae]
 try rfl
def bvV (b:BitVec 64):V:=.int .u64 (b.toNat:Int)
theorem qnp (x:Int):IntKind.u64.wrap x = x % 18446744073709551616:=by
 simp [IntKind.wrap,IntKind.bits,IntKind.signed]
theorem q6o (a b:BitVec 64):qgv .and .u64 (a.toNat:Int) (b.toNat:Int) = ((a &&& b).toNat:Int):=by
 show IntKind.u64.wrap ((BitVec.ofInt 64 (a.toNat:Int) &&& BitVec.ofInt 64 (b.toNat:Int)).toNat:Int) = _;rw [BitVec.ofInt_natCast,BitVec.ofNat_toNat,BitVec.setWidth_eq,BitVec.ofInt_natCast,BitVec.ofNat_toNat,BitVec.setWidth_eq,qnp];have:=(a &&& b).isLt;omega
theorem q08 (a:BitVec 64) (i:Nat) (h:i≤64):((a.toNat:Int)).fdiv (2 ^ (min i 64)) = ((a >>> i).toNat:Int):=by
 rw [Nat.min_eq_left h,BitVec.toNat_ushiftRight,Nat.shiftRight_eq_div_pow];have e:(2:Int) ^ i = ((2 ^ i:Nat):Int):=by simp
 rw [e,<- Int.ofNat_fdiv]
theorem q2q (a:BitVec 64) (i:Nat):((a >>> i) &&& 1#64).toNat = if a.getLsbD i then 1 else 0:=by
 rw [BitVec.toNat_and,BitVec.toNat_ushiftRight];simp only [BitVec.getLsbD,Nat.testBit,BitVec.toNat_ofNat];rw [Nat.and_comm,show (1 % 2 ^ 64:Nat) = 1 by decide]
 have:1 &&& (a.toNat >>> i) = 0∨1 &&& (a.toNat >>> i) = 1:=by
  rw [Nat.and_comm,Nat.and_one_is_mod]; omega
 rcases this with h | h <;> simp [h]
def fb (b:BitVec 64) (k:Nat):Nat:=if b.getLsbD (k % 64) then 1 else 0
theorem q3i (b:BitVec 64) (k:Nat):fb b k≤1:=by unfold fb; split <;> omega
theorem q1m (b:BitVec 64) (k:Nat):qgv .and .u64 ((b >>> (k % 64)).toNat:Int) 1 = (fb b k:Int):=by
 have:=q6o (b >>> (k % 64)) 1#64;rw [q2q] at this;exact this
def fbL (b:BitVec 64) (s n:Nat):List Nat:=tab n fun j=>fb b (s + j)
theorem qrs (b:BitVec 64) (s n:Nat):fbL b s (n + 1) = fbL b s n ++ [fb b (s + n)]:=qnm _ _
theorem qgk (b:BitVec 64) (s n:Nat):(fbL b s n).length = n:=by simp [fbL]
theorem q1l (b:BitVec 64) (s n:Nat):∀ x ∈ fbL b s n,x≤1:=by
 intro x hx;unfold fbL tab at hx;obtain ⟨j,-,rfl⟩:=List.mem_map.1 hx;exact q3i _ _
def qhr (c:Ci) (b:BitVec 64):Pt:=⟨fbL b 0 (cnt 0 c.n),fbL b (cnt 0 c.n) (cnt 14 c.n)⟩
theorem qza (c:Ci) (b:BitVec 64):(qhr c b).fit c:=⟨qgk _ _ _,qgk _ _ _,fun x hx=>by have:=q1l _ _ _ x hx; omega,fun x hx=>by have:=q1l _ _ _ x hx; omega⟩
theorem q7w (c:Ci) (hl:c.n.length < 1000000) (b:BitVec 64):qad Tryz.prog gl0 36 [c.v,bvV b] (qhr c b).v:=by
 refine qad.wide (res:=.agg [qm0 ((qhr c b).i.map u8V),qm0 ((qhr c b).s.map u8V)]) ?_ (qge.refl _) ?_
 rotate_left
 ·exact VLe.agg ⟨qm1 _,qm1 _,trivial⟩
 have hcl:∀ k:Int,∀ i,cnt k (c.n.take i)≤i:=fun k i=>by
  have:=qbn k (c.n.take i);have h2:(c.n.take i).length≤i:=by simp; omega
  omega
 refine ji4 2 ok36 rfl ?_;simp [i36,x36,bvV];intro gf1 gf2 gf3;generalize gf1 2 = g2;generalize gf2 4 = g4;generalize gf3 5 = g5
 refine jh1 (X:=Nat × Option (Nat × List V)) (fun z=>[(7,qaa z.1),(6,.int .u64 ((cnt 0 (c.n.take z.1):Nat):Int)),(5,.ptr 5 g5 0 0),(4,.ptr 4 g4 0 0),(2,.ptr 2 g2 0 0),(1,.int .u64 (b.toNat:Int))])
  (fun z=>[(5,.row g5 2 [.agg [qbe 32 z.2,.nil]]),(4,.row g4 2 [.agg [.nil,.nil]]),(2,.row g2 4 [c.v])] ++ qbf 32 1 z.2)
  (fun z=>z.1≤c.n.length/\qa3 z.2 = (fbL b 0 (cnt 0 (c.n.take z.1))).map u8V/\(z.2 = none↔cnt 0 (c.n.take z.1) = 0)) (fun z=>c.n.length - z.1) (.done ⟨(0,none),⟨by simp,by simp [qa3,fbL,tab,cnt,ids],by simp [cnt,ids]⟩,by simp [qaa,cnt,ids],by simp [qbe,qbf]⟩) ?_
 rintro ⟨i,acc⟩ ⟨q1,q2,q3⟩;dsimp only at q1 q2 q3 ⊢;simp [qaa];refine ji1 (fun hb=>?_) (fun hb=>?_)
 ·have hi:i < c.n.length:=ji8 hb;have hw:=qa5 i (by omega);obtain ⟨y,hy⟩:∃ y,c.n[i] = y:=⟨_,rfl⟩;have hc:=qgw (k:=0) hi hy;have hle:=hcl 0 i;obtain ⟨K,hK⟩:∃ K,cnt 0 (c.n.take i) = K:=⟨_,rfl⟩;rw [hK] at hc q2 q3 hle ⊢;by_cases hk:y.k = 0
  ·rw [if_pos hk] at hc;obtain ⟨P,hP⟩:∃ P,K % 64 = P:=⟨_,rfl⟩;have hm:((K:Int)).tmod 64 = (P:Int):=by rw [<- hP]; rfl
   have hsh:((b.toNat:Int)).fdiv (2 ^ (min P IntKind.u64.bits)) = ((b >>> P).toNat:Int):=q08 b _ (by omega);have hand:=q1m b K;rw [hP] at hand;generalize (b >>> P).toNat = QQ at hsh hand;have hnx:=congrArg (List.map u8V) (qrs b 0 K);rw [List.map_append,<- q2,Nat.zero_add] at hnx;have hfb:=q3i b K;generalize fb b K = F at hand hnx hfb;have hu:IntKind.u8.wrap (F:Int) = (F:Int):=qnr (by omega) (by omega);have hk1:IntKind.u64.wrap ((K:Int) + 1) = ((K + 1:Nat):Int):=by rw [qnp]; omega
   simp only [u8V,List.map_cons,List.map_nil] at hnx q2;rcases acc with _ | ⟨ga,r⟩
   ·simp [hi,hy,hk,hm,hsh,hand,hu,hk1,qbe,qbf];intro g1 g2';exact .done ⟨i + 1,some (g2' 32,[.int .u8 (F:Int)]),⟨hi,by rw [hc]; exact hnx.symm,by rw [hc]; simp⟩,by simp [hw,hc],by simp,by omega⟩
   ·simp [hi,hy,hk,hm,hsh,hand,hu,hk1,qbe,qbf];intro g1 g2';have hrl:=congrArg List.length q2;simp only [qa3,List.length_map,qgk] at hrl;refine ⟨by omega,.done ⟨i + 1,some (g2' 32,r ++ [.int .u8 (F:Int)]),⟨hi,by rw [hc]; exact hnx.symm,by rw [hc]; simp⟩,by simp [hw,hc],by simp,by omega⟩⟩
  ·rw [if_neg hk,Nat.add_zero] at hc;simp [hi,hy,hk];exact .done ⟨i + 1,acc,⟨hi,by rw [hc]; exact q2,by rw [hc]; exact q3⟩,by simp [hw,hc],by rcases acc with _ | ⟨g,r⟩ <;> simp [qbe,qbf],by omega⟩
 ·have hi:i = c.n.length:=by have:=ji9 hb; omega
  subst hi;rw [List.take_length] at q2 q3 ⊢;obtain ⟨A,hA⟩:∃ A,cnt 0 c.n = A:=⟨_,rfl⟩;have hAl:=qbn 0 c.n;rw [hA] at q2 q3 hAl ⊢;have hi0:(qhr c b).i.map u8V = qa3 acc:=by rw [q2,qhr,hA]
  have hs0:(qhr c b).s = fbL b A (cnt 14 c.n):=by rw [qhr,hA]
  have hip:jhf ((qhr c b).i.map u8V) = true:=qab _;generalize (qhr c b).i.map u8V = I at hi0 hip ⊢;generalize (qhr c b).s = S at hs0 ⊢;obtain ⟨LI,hLI⟩:∃ LI,qm0 I = LI:=⟨_,rfl⟩;rcases acc with _ | ⟨ga,r⟩
  case' none=>
   simp only [qa3] at hi0;subst hi0;have hL2:LI = .nil:=hLI.symm;simp [qbe,qbf];refine .mk [(6,.int .u64 (A:Int)),(5,.ptr 5 g5 0 0),(4,.ptr 4 g4 0 0),(2,.ptr 2 g2 0 0),(1,.int .u64 (b.toNat:Int))] [(5,.row g5 2 [.agg [.nil,.nil]]),(4,.row g4 2 [.agg [.nil,.nil]]),(2,.row g2 4 [c.v])] (by simp) (by simp) (.done ?_);simp
  case' some=>
   simp only [qa3] at hi0 q2;subst hi0;have hA0:A ≠ 0:=fun e=>by have:=q3.2 e; cases this
   have hL2:LI = .sl I none:=by
    have hl:=congrArg List.length q2;simp only [List.length_map,qgk] at hl;rw [<- hLI]
    cases I with
    | nil=>simp at hl; omega
    | cons _ _=>rfl
   have hIt:List.take I.length I = I:=jjc (jjf _);simp [qbe,qbf];refine .mk [(6,.int .u64 (A:Int)),(5,.ptr 5 g5 0 0),(4,.ptr 4 g4 0 0),(2,.ptr 2 g2 0 0),(1,.int .u64 (b.toNat:Int))] [(5,.row g5 2 [.agg [.ref 32 ga 0 I.length none,.nil]]),(4,.row g4 2 [.agg [.nil,.nil]]),(2,.row g2 4 [c.v]),(32,.row ga 1 I)] (by simp) (by simp) (.frz (g:=ga) (sz:=1) (es:=I) 32 (by simp) hip (.done ?_));simp [fzF,fzH,fzV,fzf,fzp,Blk.fz,qar _ (qb1 c),hIt]
  all_goals
   have hLp:LI.pure = true:=by rw [hL2]; simp [V.pure,hip]
   refine jh1 (X:=Nat × Option (Nat × List V)) (fun z=>[(8,qaa z.1),(6,.int .u64 ((A + cnt 14 (c.n.take z.1):Nat):Int)),(5,.ptr 5 g5 0 0),(4,.ptr 4 g4 0 0),(2,.ptr 2 g2 0 0),(1,.int .u64 (b.toNat:Int))])
    (fun z=>[(5,.row g5 2 [.agg [LI,qbe 59 z.2]]),(4,.row g4 2 [.agg [.nil,.nil]]),(2,.row g2 4 [c.v])] ++ qbf 59 1 z.2)
    (fun z=>z.1≤c.n.length/\qa3 z.2 = (fbL b A (cnt 14 (c.n.take z.1))).map u8V/\(z.2 = none↔cnt 14 (c.n.take z.1) = 0)) (fun z=>c.n.length - z.1) (.done ⟨(0,none),⟨by simp,by simp [qa3,fbL,tab,cnt,ids],by simp [cnt,ids]⟩,by simp [qaa,cnt,ids],by simp [hL2,qbe,qbf]⟩) ?_
   clear hL2;rintro ⟨i,acc⟩ ⟨p1,p2,p3⟩;dsimp only at p1 p2 p3 ⊢;simp [qaa];refine ji1 (fun hb=>?_) (fun hb=>?_)
   ·have hi:i < c.n.length:=ji8 hb;have hw:=qa5 i (by omega);obtain ⟨y,hy⟩:∃ y,c.n[i] = y:=⟨_,rfl⟩;have hc:=qgw (k:=14) hi hy;have hle:=hcl 14 i;obtain ⟨K,hK⟩:∃ K,cnt 14 (c.n.take i) = K:=⟨_,rfl⟩;rw [hK] at hc p2 p3 hle ⊢;by_cases hk:y.k = 14
    ·rw [if_pos hk] at hc;obtain ⟨B,hB⟩:∃ B,A + K = B:=⟨_,rfl⟩;obtain ⟨P,hP⟩:∃ P,B % 64 = P:=⟨_,rfl⟩;have hBi:(A:Int) + (K:Int) = (B:Int):=by omega
     have hm:((B:Int)).tmod 64 = (P:Int):=by rw [<- hP]; rfl
     have hsh:((b.toNat:Int)).fdiv (2 ^ (min P IntKind.u64.bits)) = ((b >>> P).toNat:Int):=q08 b _ (by omega);have hand:=q1m b B;rw [hP] at hand;generalize (b >>> P).toNat = QQ at hsh hand;have hnx:=congrArg (List.map u8V) (qrs b A K);rw [List.map_append,<- p2,hB] at hnx;have hfb:=q3i b B;generalize fb b B = F at hand hnx hfb;have hu:IntKind.u8.wrap (F:Int) = (F:Int):=qnr (by omega) (by omega);have hk1:IntKind.u64.wrap ((B:Int) + 1) = ((B + 1:Nat):Int):=by rw [qnp]; omega
     have hB1:A + (K + 1) = B + 1:=by omega
     have hB1i:(A:Int) + ((K:Int) + 1) = (B:Int) + 1:=by omega
     simp only [u8V,List.map_cons,List.map_nil] at hnx p2;rcases acc with _ | ⟨gz,rz⟩
     ·simp [hi,hy,hk,hm,hsh,hand,hu,hk1,hBi,qbe,qbf];intro g1 g2';exact .done ⟨i + 1,some (g2' 59,[.int .u8 (F:Int)]),⟨hi,by rw [hc]; exact hnx.symm,by rw [hc]; simp⟩,by simp [hw,hc,hB1i],by simp,by omega⟩
     ·simp [hi,hy,hk,hm,hsh,hand,hu,hk1,hBi,qbe,qbf];intro g1 g2';have hrl:=congrArg List.length p2;simp only [qa3,List.length_map,qgk] at hrl;refine ⟨by omega,.done ⟨i + 1,some (g2' 59,rz ++ [.int .u8 (F:Int)]),⟨hi,by rw [hc]; exact hnx.symm,by rw [hc]; simp⟩,by simp [hw,hc,hB1i],by simp,by omega⟩⟩
    ·rw [if_neg hk,Nat.add_zero] at hc;simp [hi,hy,hk];exact .done ⟨i + 1,acc,⟨hi,by rw [hc]; exact p2,by rw [hc]; exact p3⟩,by simp [hw,hc],by rcases acc with _ | ⟨g,r⟩ <;> simp [qbe,qbf],by omega⟩
   ·have hi:i = c.n.length:=by have:=ji9 hb; omega
    subst hi;rw [List.take_length] at p2 p3;rw [<- hs0] at p2;rw [hLI];rcases acc with _ | ⟨gz,rz⟩
    case' none=>
     simp only [qa3] at p2;rw [<- p2];simp [qbe,qbf,qm0];refine .mk [(5,.ptr 5 g5 0 0),(4,.ptr 4 g4 0 0)] [(5,.row g5 2 [.agg [LI,.nil]]),(4,.row g4 2 [.agg [.nil,.nil]])] (by simp) (by simp) (.done ?_);simp [qar _ hLp]
    case' some=>
     have hA0:cnt 14 c.n ≠ 0:=fun e=>by have:=p3.2 e; cases this
     have hjp:jhf (S.map u8V) = true:=qab _;simp only [qa3] at p2;rw [<- p2] at hjp ⊢
     have hL2:qm0 rz = .sl rz none:=by
      have hl:=congrArg List.length p2;rw [hs0] at hl;simp only [List.length_map,qgk] at hl
      cases rz with
      | nil=>simp at hl; omega
      | cons _ _=>rfl
     have hIt2:List.take rz.length rz = rz:=jjc (jjf _);simp [qbe,qbf,hL2];refine .mk [(5,.ptr 5 g5 0 0),(4,.ptr 4 g4 0 0)] [(5,.row g5 2 [.agg [LI,.ref 59 gz 0 rz.length none]]),(4,.row g4 2 [.agg [.nil,.nil]]),(59,.row gz 1 rz)] (by simp) (by simp) (.frz (g:=gz) (sz:=1) (es:=rz) 59 (by simp) hjp (.done ?_));simp [fzF,fzH,fzV,fzf,fzp,Blk.fz,qar _ hLp,hIt2,qah,hjp]
end Go.Proofs.YtpaopccohkldlaaGreatDoor
