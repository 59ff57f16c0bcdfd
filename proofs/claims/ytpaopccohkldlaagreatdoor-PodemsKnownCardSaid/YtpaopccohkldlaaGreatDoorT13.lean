/- Transitions: circuits without nodes of kind Tri and Bus, patterns of known values; the law Detects. Conditions: none. -/
import Derived.Test.YtpaopccohkldlaaGreatDoorT12
import Derived.Test.YtpaopccohkldlaaGreatDoorT7
import Derived.Test.YtpaopccohkldlaaGreatDoorXP
set_option linter.all false
namespace Go.Proofs.YtpaopccohkldlaaGreatDoor
open Go
def bvV (b:BitVec 64):V:=.int .u64 (b.toNat:Int)
theorem qov (x:Int):IntKind.u64.wrap x = x % 18446744073709551616:=by
 simp [IntKind.wrap,IntKind.bits,IntKind.signed]
theorem jbo (a b:BitVec 64):qg4 .and .u64 (a.toNat:Int) (b.toNat:Int) = ((a &&& b).toNat:Int):=by
 show IntKind.u64.wrap ((BitVec.ofInt 64 (a.toNat:Int) &&& BitVec.ofInt 64 (b.toNat:Int)).toNat:Int) = _;rw [BitVec.ofInt_natCast,BitVec.ofNat_toNat,BitVec.setWidth_eq,BitVec.ofInt_natCast,BitVec.ofNat_toNat,BitVec.setWidth_eq,qov];have:=(a &&& b).isLt;omega
theorem q5a (a:BitVec 64) (i:Nat) (h:i≤64):((a.toNat:Int)).fdiv (2 ^ (min i 64)) = ((a >>> i).toNat:Int):=by
 rw [Nat.min_eq_left h,BitVec.toNat_ushiftRight,Nat.shiftRight_eq_div_pow];have e:(2:Int) ^ i = ((2 ^ i:Nat):Int):=by simp
 rw [e,<- Int.ofNat_fdiv]
theorem q6p (a:BitVec 64) (i:Nat):((a >>> i) &&& 1#64).toNat = if a.getLsbD i then 1 else 0:=by
 rw [BitVec.toNat_and,BitVec.toNat_ushiftRight];simp only [BitVec.getLsbD,Nat.testBit,BitVec.toNat_ofNat];rw [Nat.and_comm,show (1 % 2 ^ 64:Nat) = 1 by decide]
 have:1 &&& (a.toNat >>> i) = 0∨1 &&& (a.toNat >>> i) = 1:=by
  rw [Nat.and_comm,Nat.and_one_is_mod]; omega
 rcases this with h | h <;> simp [h]
def fb (b:BitVec 64) (k:Nat):Nat:=if b.getLsbD (k % 64) then 1 else 0
theorem q7i (b:BitVec 64) (k:Nat):fb b k≤1:=by unfold fb; split <;> omega
theorem q5l (b:BitVec 64) (k:Nat):qg4 .and .u64 ((b >>> (k % 64)).toNat:Int) 1 = (fb b k:Int):=by
 have:=jbo (b >>> (k % 64)) 1#64;rw [q6p] at this;exact this
def fbL (b:BitVec 64) (s n:Nat):List Nat:=tab n fun j=>fb b (s + j)
theorem qtr (b:BitVec 64) (s n:Nat):fbL b s (n + 1) = fbL b s n ++ [fb b (s + n)]:=q4n _ _
theorem qen (b:BitVec 64) (s n:Nat):(fbL b s n).length = n:=by simp [fbL]
theorem qtq (b:BitVec 64) (s n:Nat):∀ x ∈ fbL b s n,x≤1:=by
 intro x hx;unfold fbL tab at hx;obtain ⟨j,-,rfl⟩:=List.mem_map.1 hx;exact q7i _ _
def qhc (c:Ci) (b:BitVec 64):Pt:=⟨fbL b 0 (cnt 0 c.n),fbL b (cnt 0 c.n) (cnt 14 c.n)⟩
theorem q2j (c:Ci) (b:BitVec 64):(qhc c b).fit c:=⟨qen _ _ _,qen _ _ _,fun x hx=>by have:=qtq _ _ _ x hx; omega,fun x hx=>by have:=qtq _ _ _ x hx; omega⟩
theorem q7m (c:Ci) (b:BitVec 64):(qhc c b).kn:=⟨qtq _ _ _,qtq _ _ _⟩
theorem jco (c:Ci) (hl:c.n.length < 1000000) (b:BitVec 64):qab Tryz.prog gl0 36 [c.v,bvV b] (qhc c b).v:=by
 refine qab.wide (res:=.agg [qvm ((qhc c b).i.map u8V),qvm ((qhc c b).s.map u8V)]) ?_ (qf6.refl _) ?_
 rotate_left
 ·exact VLe.agg ⟨qtz _,qtz _,trivial⟩
 have hcl:∀ k:Int,∀ i,cnt k (c.n.take i)≤i:=fun k i=>by
  have:=qbt k (c.n.take i);have h2:(c.n.take i).length≤i:=by simp; omega
  omega
 refine jpb 2 ok36 rfl ?_;simp [i36,x36,bvV];intro gf1 gf2 gf3;generalize gf1 2 = g2;generalize gf2 4 = g4;generalize gf3 5 = g5
 refine jn0 (X:=Nat × Option (Nat × List V)) (fun z=>[(7,qaa z.1),(6,.int .u64 ((cnt 0 (c.n.take z.1):Nat):Int)),(5,.ptr 5 g5 0 0),(4,.ptr 4 g4 0 0),(2,.ptr 2 g2 0 0),(1,.int .u64 (b.toNat:Int))])
  (fun z=>[(5,.row g5 2 [.agg [qbo 32 z.2,.nil]]),(4,.row g4 2 [.agg [.nil,.nil]]),(2,.row g2 4 [c.v])] ++ qbn 32 1 z.2)
  (fun z=>z.1≤c.n.length/\qa7 z.2 = (fbL b 0 (cnt 0 (c.n.take z.1))).map u8V/\(z.2 = none↔cnt 0 (c.n.take z.1) = 0)) (fun z=>c.n.length - z.1) (.done ⟨(0,none),⟨by simp,by simp [qa7,fbL,tab,cnt,ids],by simp [cnt,ids]⟩,by simp [qaa,cnt,ids],by simp [qbo,qbn]⟩) ?_
 rintro ⟨i,acc⟩ ⟨q1,q2,q3⟩;dsimp only at q1 q2 q3 ⊢;simp [qaa];refine jo8 (fun hb=>?_) (fun hb=>?_)
 ·have hi:i < c.n.length:=jpf hb;have hw:=qa1 i (by omega);obtain ⟨y,hy⟩:∃ y,c.n[i] = y:=⟨_,rfl⟩;have hc:=qjh (k:=0) hi hy;have hle:=hcl 0 i;obtain ⟨K,hK⟩:∃ K,cnt 0 (c.n.take i) = K:=⟨_,rfl⟩;rw [hK] at hc q2 q3 hle ⊢;by_cases hk:y.k = 0
  ·rw [if_pos hk] at hc;obtain ⟨P,hP⟩:∃ P,K % 64 = P:=⟨_,rfl⟩;have hm:((K:Int)).tmod 64 = (P:Int):=by rw [<- hP]; rfl
   have hsh:((b.toNat:Int)).fdiv (2 ^ (min P IntKind.u64.bits)) = ((b >>> P).toNat:Int):=q5a b _ (by omega);have hand:=q5l b K;rw [hP] at hand;generalize (b >>> P).toNat = QQ at hsh hand;have hnx:=congrArg (List.map u8V) (qtr b 0 K);rw [List.map_append,<- q2,Nat.zero_add] at hnx;have hfb:=q7i b K;generalize fb b K = F at hand hnx hfb;have hu:IntKind.u8.wrap (F:Int) = (F:Int):=qiq (by omega) (by omega);have hk1:IntKind.u64.wrap ((K:Int) + 1) = ((K + 1:Nat):Int):=by rw [qov]; omega
   simp only [u8V,List.map_cons,List.map_nil] at hnx q2;rcases acc with _ | ⟨ga,r⟩
   ·simp [hi,hy,hk,hm,hsh,hand,hu,hk1,qbo,qbn];intro g1 g2';exact .done ⟨i + 1,some (g2' 32,[.int .u8 (F:Int)]),⟨hi,by rw [hc]; exact hnx.symm,by rw [hc]; simp⟩,by simp [hw,hc],by simp,by omega⟩
   ·simp [hi,hy,hk,hm,hsh,hand,hu,hk1,qbo,qbn];intro g1 g2';have hrl:=congrArg List.length q2;simp only [qa7,List.length_map,qen] at hrl;refine ⟨by omega,.done ⟨i + 1,some (g2' 32,r ++ [.int .u8 (F:Int)]),⟨hi,by rw [hc]; exact hnx.symm,by rw [hc]; simp⟩,by simp [hw,hc],by simp,by omega⟩⟩
  ·rw [if_neg hk,Nat.add_zero] at hc;simp [hi,hy,hk];exact .done ⟨i + 1,acc,⟨hi,by rw [hc]; exact q2,by rw [hc]; exact q3⟩,by simp [hw,hc],by rcases acc with _ | ⟨g,r⟩ <;> simp [qbo,qbn],by omega⟩
 ·have hi:i = c.n.length:=by have:=jpg hb; omega
  subst hi;rw [List.take_length] at q2 q3 ⊢;obtain ⟨A,hA⟩:∃ A,cnt 0 c.n = A:=⟨_,rfl⟩;have hAl:=qbt 0 c.n;rw [hA] at q2 q3 hAl ⊢;have hi0:(qhc c b).i.map u8V = qa7 acc:=by rw [q2,qhc,hA]
  have hs0:(qhc c b).s = fbL b A (cnt 14 c.n):=by rw [qhc,hA]
  have hip:jne ((qhc c b).i.map u8V) = true:=qar _;generalize (qhc c b).i.map u8V = I at hi0 hip ⊢;generalize (qhc c b).s = S at hs0 ⊢;obtain ⟨LI,hLI⟩:∃ LI,qvm I = LI:=⟨_,rfl⟩;rcases acc with _ | ⟨ga,r⟩
  case' none=>
   simp only [qa7] at hi0;subst hi0;have hL2:LI = .nil:=hLI.symm;simp [qbo,qbn];refine .mk [(6,.int .u64 (A:Int)),(5,.ptr 5 g5 0 0),(4,.ptr 4 g4 0 0),(2,.ptr 2 g2 0 0),(1,.int .u64 (b.toNat:Int))] [(5,.row g5 2 [.agg [.nil,.nil]]),(4,.row g4 2 [.agg [.nil,.nil]]),(2,.row g2 4 [c.v])] (by simp) (by simp) (.done ?_);simp
  case' some=>
   simp only [qa7] at hi0 q2;subst hi0;have hA0:A ≠ 0:=fun e=>by have:=q3.2 e; cases this
   have hL2:LI = .sl I none:=by
    have hl:=congrArg List.length q2;simp only [List.length_map,qen] at hl;rw [<- hLI]
    cases I with
    | nil=>simp at hl; omega
    | cons _ _=>rfl
   have hIt:List.take I.length I = I:=jpj (jpm _);simp [qbo,qbn];refine .mk [(6,.int .u64 (A:Int)),(5,.ptr 5 g5 0 0),(4,.ptr 4 g4 0 0),(2,.ptr 2 g2 0 0),(1,.int .u64 (b.toNat:Int))] [(5,.row g5 2 [.agg [.ref 32 ga 0 I.length none,.nil]]),(4,.row g4 2 [.agg [.nil,.nil]]),(2,.row g2 4 [c.v]),(32,.row ga 1 I)] (by simp) (by simp) (.frz (g:=ga) (sz:=1) (es:=I) 32 (by simp) hip (.done ?_));simp [fzF,fzH,fzV,fzf,fzp,Blk.fz,qa5 _ (qcr c),hIt]
  all_goals
   have hLp:LI.pure = true:=by rw [hL2]; simp [V.pure,hip]
   refine jn0 (X:=Nat × Option (Nat × List V)) (fun z=>[(8,qaa z.1),(6,.int .u64 ((A + cnt 14 (c.n.take z.1):Nat):Int)),(5,.ptr 5 g5 0 0),(4,.ptr 4 g4 0 0),(2,.ptr 2 g2 0 0),(1,.int .u64 (b.toNat:Int))])
    (fun z=>[(5,.row g5 2 [.agg [LI,qbo 59 z.2]]),(4,.row g4 2 [.agg [.nil,.nil]]),(2,.row g2 4 [c.v])] ++ qbn 59 1 z.2)
    (fun z=>z.1≤c.n.length/\qa7 z.2 = (fbL b A (cnt 14 (c.n.take z.1))).map u8V/\(z.2 = none↔cnt 14 (c.n.take z.1) = 0)) (fun z=>c.n.length - z.1) (.done ⟨(0,none),⟨by simp,by simp [qa7,fbL,tab,cnt,ids],by simp [cnt,ids]⟩,by simp [qaa,cnt,ids],by simp [hL2,qbo,qbn]⟩) ?_
   clear hL2;rintro ⟨i,acc⟩ ⟨p1,p2,p3⟩;dsimp only at p1 p2 p3 ⊢;simp [qaa];refine jo8 (fun hb=>?_) (fun hb=>?_)
   ·have hi:i < c.n.length:=jpf hb;have hw:=qa1 i (by omega);obtain ⟨y,hy⟩:∃ y,c.n[i] = y:=⟨_,rfl⟩;have hc:=qjh (k:=14) hi hy;have hle:=hcl 14 i;obtain ⟨K,hK⟩:∃ K,cnt 14 (c.n.take i) = K:=⟨_,rfl⟩;rw [hK] at hc p2 p3 hle ⊢;by_cases hk:y.k = 14
    ·rw [if_pos hk] at hc;obtain ⟨B,hB⟩:∃ B,A + K = B:=⟨_,rfl⟩;obtain ⟨P,hP⟩:∃ P,B % 64 = P:=⟨_,rfl⟩;have hBi:(A:Int) + (K:Int) = (B:Int):=by omega
     have hm:((B:Int)).tmod 64 = (P:Int):=by rw [<- hP]; rfl
     have hsh:((b.toNat:Int)).fdiv (2 ^ (min P IntKind.u64.bits)) = ((b >>> P).toNat:Int):=q5a b _ (by omega);have hand:=q5l b B;rw [hP] at hand;generalize (b >>> P).toNat = QQ at hsh hand;have hnx:=congrArg (List.map u8V) (qtr b A K);rw [List.map_append,<- p2,hB] at hnx;have hfb:=q7i b B;generalize fb b B = F at hand hnx hfb;have hu:IntKind.u8.wrap (F:Int) = (F:Int):=qiq (by omega) (by omega);have hk1:IntKind.u64.wrap ((B:Int) + 1) = ((B + 1:Nat):Int):=by rw [qov]; omega
     have hB1:A + (K + 1) = B + 1:=by omega
     have hB1i:(A:Int) + ((K:Int) + 1) = (B:Int) + 1:=by omega
     simp only [u8V,List.map_cons,List.map_nil] at hnx p2;rcases acc with _ | ⟨gz,rz⟩
     ·simp [hi,hy,hk,hm,hsh,hand,hu,hk1,hBi,qbo,qbn];intro g1 g2';exact .done ⟨i + 1,some (g2' 59,[.int .u8 (F:Int)]),⟨hi,by rw [hc]; exact hnx.symm,by rw [hc]; simp⟩,by simp [hw,hc,hB1i],by simp,by omega⟩
     ·simp [hi,hy,hk,hm,hsh,hand,hu,hk1,hBi,qbo,qbn];intro g1 g2';have hrl:=congrArg List.length p2;simp only [qa7,List.length_map,qen] at hrl;refine ⟨by omega,.done ⟨i + 1,some (g2' 59,rz ++ [.int .u8 (F:Int)]),⟨hi,by rw [hc]; exact hnx.symm,by rw [hc]; simp⟩,by simp [hw,hc,hB1i],by simp,by omega⟩⟩
    ·rw [if_neg hk,Nat.add_zero] at hc;simp [hi,hy,hk];exact .done ⟨i + 1,acc,⟨hi,by rw [hc]; exact p2,by rw [hc]; exact p3⟩,by simp [hw,hc],by rcases acc with _ | ⟨g,r⟩ <;> simp [qbo,qbn],by omega⟩
   ·have hi:i = c.n.length:=by have:=jpg hb; omega
    subst hi;rw [List.take_length] at p2 p3;rw [<- hs0] at p2;rw [hLI];rcases acc with _ | ⟨gz,rz⟩
    case' none=>
     simp only [qa7] at p2;rw [<- p2];simp [qbo,qbn,qvm];refine .mk [(5,.ptr 5 g5 0 0),(4,.ptr 4 g4 0 0)] [(5,.row g5 2 [.agg [LI,.nil]]),(4,.row g4 2 [.agg [.nil,.nil]])] (by simp) (by simp) (.done ?_);simp [qa5 _ hLp]
    case' some=>
     have hA0:cnt 14 c.n ≠ 0:=fun e=>by have:=p3.2 e; cases this
     have hjp:jne (S.map u8V) = true:=qar _;simp only [qa7] at p2;rw [<- p2] at hjp ⊢
     have hL2:qvm rz = .sl rz none:=by
      have hl:=congrArg List.length p2;rw [hs0] at hl;simp only [List.length_map,qen] at hl
      cases rz with
      | nil=>simp at hl; omega
      | cons _ _=>rfl
     have hIt2:List.take rz.length rz = rz:=jpj (jpm _);simp [qbo,qbn,hL2];refine .mk [(5,.ptr 5 g5 0 0),(4,.ptr 4 g4 0 0)] [(5,.row g5 2 [.agg [LI,.ref 59 gz 0 rz.length none]]),(4,.row g4 2 [.agg [.nil,.nil]]),(59,.row gz 1 rz)] (by simp) (by simp) (.frz (g:=gz) (sz:=1) (es:=rz) 59 (by simp) hjp (.done ?_));simp [fzF,fzH,fzV,fzf,fzp,Blk.fz,qa5 _ hLp,hIt2,qad,hjp]
end Go.Proofs.YtpaopccohkldlaaGreatDoor
