/- Lemmas. Conditions: none. -/
import Derived.Test.YtpaopccohkldlaaGreatDoorXT
set_option linter.all false
namespace Go.Proofs.YtpaopccohkldlaaGreatDoor
section
open Go
def tab7:V:=.agg ([0,1,28,2,29,14,24,3,30,22,20,15,25,17,4,8,31,27,13,23,21,19,16,7,26,12,18,6,11,5,10,9].map (V.int .u8))
def tab8:V:=.agg ([0,1,56,2,57,49,28,3,61,58,42,50,38,29,17,4,62,47,59,36,45,43,51,22,53,39,33,30,24,18,12,5,63,55,48,27,60,41,37,16,46,35,44,21,52,32,23,11,54,26,40,15,34,20,31,10,25,14,19,9,13,8,7,6].map (V.int .u8))
def jgu:V:=.agg ([1,10,100,1000,10000,100000,1000000,10000000,100000000,1000000000,10000000000,100000000000,1000000000000,10000000000000,100000000000000,1000000000000000,10000000000000000,100000000000000000,1000000000000000000,10000000000000000000].map (V.int .u64))
def gl0:Fr:=[(7,.iptr tab7 0),(8,.iptr tab8 0),(2,.iptr jgu 0),(6,.iptr (.err false) 0),(5,.iptr (.err false) 0),(1,.iptr (.agg ([0,0,0,0,0,0,1,1,1,1,2,16,2,16,2,16,2,16,2,16,2,16,3,3,2,2,1,16,1,1,0,0].map (V.int .i64))) 0),(0,.iptr (.agg [.int .i64 (-1),.int .i64 0,.int .i64 0]) 0)]
theorem qc4:lk gl0 0 = some (.iptr (.agg [.int .i64 (-1),.int .i64 0,.int .i64 0]) 0):=rfl
end
section
open Go
theorem q1e (k:Int):qad Tryz.prog gl0 82 [.int .u8 k] (.bool (decide (1≤k/\k≤13))):=by
 refine ji4 2 ok82 rfl ?_
 repeat' (first | refine ji1 (fun _=>?_) (fun _=>?_) | (intro _) | simp [*,i82,x82])
theorem q70 (s:List UInt8) (c:Int) (h:0≤c/\c < 256):qad Tryz.prog gl0 245 [.str s,.int .u8 c] (.int .i64 (qin c s 0)):=by
 refine ji4 2 jf1 rfl ?_;simp [i245,x245,nop,h]
theorem q3p (s:List UInt8) (c:Int) (h:0≤c/\c < 256):qad Tryz.prog gl0 240 [.str s,.int .u8 c] (.int .i64 (qin c s 0)):=by
 refine ji4 2 jfz rfl ?_;simp [i240,x240];refine ji0 (q70 s c h) rfl ?_;simp
theorem qnr {x:Int} (h0:0≤x) (h1:x < 256):IntKind.u8.wrap x = x:=by
 simp [IntKind.wrap,IntKind.bits,IntKind.signed]; omega
theorem q71 (s:List UInt8) (r:Int) (h:0≤r/\r < 128):qad Tryz.prog gl0 238 [.str s,.int .i32 r] (.int .i64 (qin r s 0)):=by
 have hw:IntKind.u8.wrap r = r:=qnr h.1 (by omega);refine ji4 2 jfx rfl ?_;simp [i238,x238,h,hw];refine ji0 (q3p s r ⟨h.1,by omega⟩) rfl ?_;simp
theorem q27 (s:List UInt8) (r:Int) (h:0≤r/\r < 128):qad Tryz.prog gl0 229 [.str s,.int .i32 r] (.bool (decide (0≤qin r s 0))):=by
 refine ji4 2 jfu rfl ?_;simp [i229,x229];refine ji0 (q71 s r h) rfl ?_;simp
def q6i (r:Int):Bool:=decide (r≤32) || decide (126 < r) || decide (0≤qin r [40,41,61,44,35] 0)
theorem jct (r:Int):qad Tryz.prog gl0 228 [.int .i32 r] (.bool (q6i r)):=by
 refine ji4 2 jft rfl ?_;by_cases h1:r≤32
 ·simp [ja0,jch,h1,q6i]
 ·by_cases h2:126 < r
  ·simp [ja0,jch,h1,h2,q6i]
  ·simp [ja0,jch,h1,h2,q6i];refine ji0 (q27 _ r ⟨by omega,by omega⟩) rfl ?_;simp
def qdh:Nat->List UInt8->Nat->Int
 | 0,_,_=>-1
 | n + 1,s,pos=>if pos < s.length then (if q6i (Utf8.decode ⟨s.toArray⟩ pos).1 = true then (pos:Int) else qdh n s (pos + (Utf8.decode ⟨s.toArray⟩ pos).2)) else -1
theorem q28 (s:List UInt8) (pos:Nat):1≤(Utf8.decode ⟨s.toArray⟩ pos).2:=by
 simp only [Utf8.decode]
 repeat' split
 all_goals simp
theorem qzh (s:List UInt8):qad Tryz.prog gl0 244 [.str s,.fn 228 [] [],.bool true] (.int .i64 (qdh (s.length + 1) s 0)):=by
 obtain ⟨r,hr⟩:∃ r,qdh (s.length + 1) s 0 = r:=⟨_,rfl⟩;rw [hr];refine ji4 2 jf0 rfl ?_;simp [i244,x244,nop];intro gf
 refine ji3 (X:=Nat × Nat) (fun x=>[(0,.str s),(1,.fn 228 [] []),(2,.bool true),(10,.own 10 (gf 10))]) (fun x=>[(10,.siter (gf 10) s x.1)])
  (fun x=>s.length < x.1 + x.2/\qdh x.2 s x.1 = r) (fun x=>x.2) (0,s.length + 1) ⟨by simp,hr⟩ (by simp) (by simp) ?_
 rintro ⟨pos,fuel⟩ ⟨h2,h3⟩;dsimp only at h2 h3
 cases fuel with
 | zero=>
  have hp:¬ pos < s.length:=by omega
  simp [nop,hp,<- h3,qdh]
 | succ fuel=>
  have hd:=q28 s pos;by_cases hp:pos < s.length
  ·simp [nop,hp];refine ji0 (jct _) rfl ?_;simp;refine ji1 (fun hb=>?_) (fun hb=>?_)
   ·simp [<- h3,qdh,hp,hb]
   ·simp;refine ⟨_,fuel,⟨?_,?_⟩,rfl,by omega⟩
    ·omega
    ·rw [<- h3]; simp [qdh,hp,hb]
  ·simp [nop,hp,<- h3,qdh]
theorem qze (s:List UInt8):qad Tryz.prog gl0 239 [.str s,.fn 228 [] []] (.int .i64 (qdh (s.length + 1) s 0)):=by
 refine ji4 2 jfy rfl ?_;simp [i239,x239];refine ji0 (qzh s) rfl ?_;simp
theorem qp4 (s:List UInt8):qad Tryz.prog gl0 230 [.str s,.fn 228 [] []] (.bool (decide (0≤qdh (s.length + 1) s 0))):=by
 refine ji4 2 jfv rfl ?_;simp [i230,x230];refine ji0 (qze s) rfl ?_;simp
def qwa (s:List UInt8):Bool:=decide (s ≠ []) && decide (s.length≤32) && !(decide (0≤qdh (s.length + 1) s 0))
theorem qzj (s:List UInt8):qad Tryz.prog gl0 209 [.str s] (.bool (qwa s)):=by
 have hc:=qp4 s;refine ji4 2 jfn rfl ?_;unfold qwa;generalize decide (0≤qdh (s.length + 1) s 0) = q at *;simp [i209,x209];refine ji1 (fun h1=>?_) (fun h1=>?_)
 ·simp [h1]
 ·simp [h1];refine ji1 (fun h2=>?_) (fun h2=>?_)
  ·simp [h2];refine ji0 hc rfl ?_;simp
  ·simp [h2]
theorem pureL_map {α:Type} {f:α->V} (hf:∀ x,(f x).pure = true):∀ l:List α,jhf (l.map f) = true
 | []=>rfl
 | x :: l=>by simp [jhf,hf x,pureL_map hf l]
@[simp] theorem q9o (l:List (List UInt8)):jhf (l.map .str) = true:=pureL_map (fun _=>rfl) l
end
section
open Go
def qky (sz:Nat) (xs:List V) (v:V) (h:Hp):Prop:=(xs = []/\v = .sl [] (some 0)/\h = [])∨∃ g,v = .ref 0 g 0 xs.length (some xs.length)/\h = [(0,.row g sz xs)]
end
section
open Go
def qc5 (l:List Int):List V:=l.map (.int .i64)
@[simp] theorem q3q (l:List Int):(qc5 l).length = l.length:=by simp [qc5]
@[simp] theorem qae (l:List Int):jhf (qc5 l) = true:=pureL_map (fun _=>rfl) l
@[simp] theorem q5s (l:List Int):((qc5 l).all fun x=>decide (x.cells.length = 1)) = true:=by simp [qc5]
structure Nd where
 k:Int
 i:List Int
 a:Int
 b:Int
 deriving Inhabited
def Nd.v (n:Nd):V:=.agg [.int .u8 n.k,.sl (qc5 n.i) none,.int .i64 n.a,.int .i64 n.b]
structure Md where
 a:List Int
 d:List Int
 w:Int
 deriving Inhabited
def Md.v (n:Md):V:=.agg [.sl (qc5 n.a) none,.sl (qc5 n.d) none,.int .i64 n.w]
structure Ci where
 n:List Nd
 s:List (List UInt8)
 m:List Md
 o:List Int
def Ci.v (c:Ci):V:=.agg [.sl (c.n.map Nd.v) none,.sl (c.s.map .str) none,.sl (c.m.map Md.v) none,.sl (qc5 c.o) none]
@[simp] theorem qaf (l:List Nd):jhf (l.map Nd.v) = true:=pureL_map (fun x=>by simp [Nd.v]) l
@[simp] theorem qag (l:List Md):jhf (l.map Md.v) = true:=pureL_map (fun x=>by simp [Md.v]) l
theorem qcs {a b:List V} (h:jhf a = true) (k:jhf b = true):jhf (a ++ b) = true:=by
 rw [jhn] at *;intro v hv;rcases List.mem_append.1 hv with q | q
 ·exact h v q
 ·exact k v q
theorem qbb {l:List V} (h:jhf l = true) {f:Nat->Nat->Nat->Nat->Option Nat->V} {p:Nat->Nat->Nat->Nat->V}:(l.map fun x=>V.mapR f p x) = l:=by
 have:=qah (f:=f) (p:=p) l h;rw [qcn] at this; exact this
def qbe (b:Nat):Option (Nat × List V)->V
 | none=>.nil
 | some (g,l)=>.ref b g 0 l.length none
def qbf (b sz:Nat):Option (Nat × List V)->Hp
 | none=>[]
 | some (g,l)=>[(b,.row g sz l)]
def qa3:Option (Nat × List V)->List V
 | none=>[]
 | some (_,l)=>l
def qm0 (l:List V):V:=match l with
 | []=>.nil
 | _ :: _=>.sl l none
theorem qbk (l:List Int) (i:Nat) (h:i < (qc5 l).length):(qc5 l)[i] = .int .i64 (l[i]'(by simpa using h)):=by simp [qc5]
end
section
open Go
end
section
open Go
def qk4 (x:Int):List Int->Nat->Int
 | [],_=>-1
 | y :: r,i=>if x = y then (i:Int) else qk4 x r (i + 1)
theorem qok (x:Int):∀ (l:List Int) (i:Nat),(0≤qk4 x l i)↔x ∈ l
 | [],i=>by simp [qk4]
 | y :: l,i=>by
  by_cases h:x = y
  ·simp [qk4,h]
  ·simp [qk4,h,qok x l (i + 1)]
theorem qzf (x:Int) (l:List Int) (cap:Option Nat) (hl:l.length < 1000000000000):qad Tryz.prog gl0 166 [.sl (l.map (.int .u8)) cap,.int .u8 x] (.int .i64 (qk4 x l 0)):=by
 obtain ⟨q,hq⟩:∃ r,qk4 x l 0 = r:=⟨_,rfl⟩;rw [hq];refine ji4 2 jfa rfl ?_;simp [i166,x166]
 refine ji3 (X:=Nat) (fun i=>[(8,.int .i64 (i:Int)),(7,.int .i64 (l.length:Int)),(0,.sl (l.map (.int .u8)) cap),(1,.int .u8 x)]) (fun _=>[])
  (fun i=>i≤l.length/\qk4 x (l.drop i) i = q) (fun i=>l.length - i) 0 ⟨by simp,by simpa using hq⟩ (by simp) (by simp) ?_
 rintro i ⟨h2,h3⟩;simp;refine ji1 (fun h1=>?_) (fun h1=>?_)
 ·have h1':i < l.length:=ji8 h1;have hw:IntKind.i64.wrap ((i:Int) + 1) = ((i + 1:Nat):Int):=by rw [qaw] <;> omega
  rw [List.drop_eq_getElem_cons h1'] at h3;simp only [qk4] at h3;simp [h1'];refine ji1 (fun h4=>?_) (fun h4=>?_)
  ·rw [if_pos (ji8 h4)] at h3;simp [h3]
  ·rw [if_neg (ji9 h4)] at h3;simp [hw];exact ⟨i + 1,⟨h1',h3⟩,rfl,by omega⟩
 ·have h1':i = l.length:=by have:=ji9 h1; omega
  subst h1';simp [qk4] at h3;simp [h3]
@[simp] theorem jbw (l:List Int):jhf (l.map (.int .u8)) = true:=pureL_map (fun _=>rfl) l
theorem qsy (x:Int) (l:List Int) (cap:Option Nat) (hl:l.length < 1000000000000):qad Tryz.prog gl0 130 [.sl (l.map (.int .u8)) cap,.int .u8 x] (.bool (decide (x ∈ l))):=by
 refine ji4 2 jet rfl ?_;simp [i130,x130];refine ji0 (qzf x l cap hl) (by simp) ?_;simp [qok]
def qnv (ks:List Int):List Nd->Nat->List V
 | [],_=>[]
 | n :: r,i=>if n.k ∈ ks then .int .i64 (i:Int) :: qnv ks r (i + 1) else qnv ks r (i + 1)
theorem jd2 (c:Ci) (ks:List Int) (cap:Option Nat) (hl:c.n.length < 1000000) (hk:ks.length < 1000000000000):qbw Tryz.prog gl0 88 [c.v,.sl (ks.map (.int .u8)) cap] (qky 1 (qnv ks c.n 0)):=by
 refine ji6 ok88 rfl ?_;obtain ⟨q,hq⟩:∃ r,qnv ks c.n 0 = r:=⟨_,rfl⟩;rw [hq];simp [i88,x88,Ci.v];intro gf
 refine ji3 (X:=Nat × Option (Nat × List V)) (fun x=>[(11,.int .i64 (x.1:Int)),(10,.int .i64 (c.n.length:Int)),(9,.sl (c.n.map Nd.v) none),(5,qbe 23 x.2),(1,.sl (ks.map (.int .u8)) cap)])
  (fun x=>qbf 23 1 x.2)
  (fun x=>x.1≤c.n.length/\(x.2 = none∨qa3 x.2 ≠ [])/\(qa3 x.2).length≤x.1/\jhf (qa3 x.2) = true/\qa3 x.2 ++ qnv ks (c.n.drop x.1) x.1 = q) (fun x=>c.n.length - x.1) (0,none) ⟨by simp,by simp,by simp [qa3],by simp [qa3],by simpa [qa3] using hq⟩ (by simp [qbe]) (by simp [qbf]) ?_
 rintro ⟨i,acc⟩ ⟨h1,h2,h3,h4,h5⟩;dsimp only at h1 h2 h3 h4 h5;simp;refine ji1 (fun hb=>?_) (fun hb=>?_)
 ·have hi:i < c.n.length:=ji8 hb;have hw:IntKind.i64.wrap ((i:Int) + 1) = ((i + 1:Nat):Int):=by rw [qaw] <;> omega
  rw [List.drop_eq_getElem_cons hi] at h5;simp only [qnv] at h5;simp [hi,Nd.v];intro gf2;refine ji0 (qsy _ ks cap hk) (by simp) ?_;simp;refine ji1 (fun hk=>?_) (fun hk=>?_)
  ·rw [if_pos (ji8 hk)] at h5
   cases acc with
   | none=>
    simp [qbe,qbf,hw];refine fun gf1 gf2=>⟨i + 1,some (gf2 23,[.int .i64 i]),?_⟩;simp [qa3] at h5 ⊢;exact ⟨⟨by omega,h5⟩,by omega⟩
   | some gl=>
    obtain ⟨g,l⟩:=gl;simp only [qa3] at h3 h4 h5 h2;have hle:l.length + 1≤274877906944:=by omega
    simp [qbe,qbf,hw,hle];refine fun gf1 gf2=>⟨i + 1,some (gf2 23,l ++ [.int .i64 i]),?_⟩;simp [qa3,h5,List.append_assoc];exact ⟨⟨by omega,by omega,qcs h4 rfl⟩,by omega⟩
  ·rw [if_neg (ji9 hk)] at h5;simp [hw];exact ⟨i + 1,acc,⟨by omega,h2,by omega,h4,h5⟩,⟨rfl,rfl⟩,by cases acc <;> simp [qbf],by omega⟩
 ·have hi:¬ i < c.n.length:=ji9 hb;rw [List.drop_eq_nil_of_le (by omega)] at h5;simp only [qnv,List.append_nil] at h5
  cases acc with
  | none=>
   simp [qa3] at h5;subst h5;simp [qbe,qbf];refine ji7 q4c rfl ?_;simp [jay,jcf];exact .done (by simpa using ⟨[],trivial,.done (by simp [qky])⟩)
  | some gl=>
   obtain ⟨g,l⟩:=gl;simp only [qa3] at h3 h4 h5 h2;subst h5;simp [qbe,qbf];refine ji7 q4c rfl ?_;simp [jay,jcf];refine .done ?_;simp only [lk,if_true];refine ⟨[(23,Blk.row g 1 l)],by simp,.move 23 0 _ (by simp) (by simp; rfl) fun g2=>.done ?_⟩;simp [qav h4,qky]
theorem qdp (ks:List Int):∀ (l:List Nd) (i:Nat),jhl (qnv ks l i) = true/\jhf (qnv ks l i) = true
 | [],i=>⟨rfl,rfl⟩
 | n :: r,i=>by
  obtain ⟨h1,h2⟩:=qdp ks r (i + 1);simp only [qnv];split
  ·exact ⟨by simp [jhl,V.noG,h1],by simp [jhf,V.pure,h2]⟩
  ·exact ⟨h1,h2⟩
theorem qzi (c:Ci) (hl:c.n.length < 1000000):qbw Tryz.prog gl0 44 [c.v] (qky 1 (qnv [0] c.n 0)):=by
 obtain ⟨n1,n2⟩:=qdp [0] c.n 0;refine ji6 ok44 rfl ?_;simp [i44,x44,Ci.v];intro gf gf2;refine jh2 1 1000 (jd2 c [0] (some 1) hl (by simp)) (by simp [Ci.v,qah]) (by simp) ?_;rintro v h' (⟨hq,rfl,rfl⟩ | ⟨g,rfl,rfl⟩)
 ·refine ⟨rfl,fun b k hb=>by simp [lk] at hb,fun gf=>?_⟩;simp;exact .done (by simpa using ⟨[],trivial,by simp [qky,hq]⟩)
 ·refine ⟨rfl,fun b k hb=>?_,fun gf=>?_⟩
  ·simp only [lk] at hb;split at hb
   ·cases hb; exact n1
   ·cases hb
  ·simp [qav n2];refine .move 1000 0 _ (by simp) (by simp; rfl) fun g2=>.done ?_;simp [qav n2,qky]
theorem q0p (c:Ci) (hl:c.n.length < 1000000):qbw Tryz.prog gl0 45 [c.v] (qky 1 (qnv [14] c.n 0)):=by
 obtain ⟨n1,n2⟩:=qdp [14] c.n 0;refine ji6 ok45 rfl ?_;simp [i45,x45,Ci.v];intro gf gf2;refine jh2 1 1000 (jd2 c [14] (some 1) hl (by simp)) (by simp [Ci.v,qah]) (by simp) ?_;rintro v h' (⟨hq,rfl,rfl⟩ | ⟨g,rfl,rfl⟩)
 ·refine ⟨rfl,fun b k hb=>by simp [lk] at hb,fun gf=>?_⟩;simp;exact .done (by simpa using ⟨[],trivial,by simp [qky,hq]⟩)
 ·refine ⟨rfl,fun b k hb=>?_,fun gf=>?_⟩
  ·simp only [lk] at hb;split at hb
   ·cases hb; exact n1
   ·cases hb
  ·simp [qav n2];refine .move 1000 0 _ (by simp) (by simp; rfl) fun g2=>.done ?_;simp [qav n2,qky]
end
section
open Go
def qov (i k:Nat):V:=.agg [.int .i64 (i:Int),.int .i64 (k:Int)]
def qqu (w:Int) (i:Nat):List Int->Nat->List V
 | [],_=>[]
 | x :: r,k=>if x = w then qov i k :: qqu w i r (k + 1) else qqu w i r (k + 1)
def qf4 (w:Int):List Nd->Nat->List V
 | [],_=>[]
 | n :: r,i=>qqu w i n.i 0 ++ qf4 w r (i + 1)
end
section
open Go
theorem quk (c:Ci):c.v.pure = true:=by simp [Ci.v]
theorem qhb (c:Ci):qad Tryz.prog gl0 184 [c.v] (.fn 212 [] [.iptr c.v 0]):=by
 refine ji4 2 jfg rfl ?_;simp [i184,x184,Ci.v,qah]
theorem qh1 (c:Ci) (i:Int):qad Tryz.prog gl0 212 [.int .i64 i,.iptr c.v 0] (.bool (decide (i < 0) || decide ((c.n.length:Int)≤i))):=by
 refine ji4 2 jfq rfl ?_;simp [jdp,x212,Ci.v];refine ji1 (fun h1=>?_) (fun h1=>?_)
 ·simp [h1]
 ·simp [h1]
end
section
open Go
abbrev Fam:=List (Option (Nat × List V))
def qic (sz b:Nat):Fam->Hp
 | []=>[]
 | x :: r=>qbf b sz x ++ qic sz (b + 1) r
def qix (b:Nat):Fam->List V
 | []=>[]
 | x :: r=>qbe b x :: qix (b + 1) r
theorem qce (b:Nat) (L:Fam):(qix b L).length = L.length:=by
 induction L generalizing b with
 | nil=>rfl
 | cons x r ih=>simp [qix,ih]
theorem qy7 (b:Nat) (L:Fam) (i:Nat) (h:i < L.length):(qix b L)[i]'(by rw [qce]; exact h) = qbe (b + i) L[i]:=by
 induction L generalizing b i with
 | nil=>simp at h
 | cons x r ih=>
  cases i with
  | zero=>simp [qix]
  | succ i=>
   simp only [qix,List.getElem_cons_succ];rw [ih (b + 1) i (by simpa using h),show b + 1 + i = b + (i + 1) by omega]
theorem qql (sz b:Nat) (L:Fam) (t:Nat) (h:t < b):lk (qic sz b L) t = none:=by
 induction L generalizing b with
 | nil=>rfl
 | cons x r ih=>
  have:=ih (b + 1) (by omega)
  cases x with
  | none=>simpa [qic,qbf] using this
  | some p=>
   obtain ⟨g,l⟩:=p;have hne:¬ t = b:=by omega
   simp [qic,qbf,lk,hne,this]
theorem q3z (sz b:Nat) (L:Fam) (i:Nat) (h:i < L.length):lk (qic sz b L) (b + i) = match L[i] with | some (g,l)=>some (.row g sz l) | none=>none:=by
 induction L generalizing b i with
 | nil=>simp at h
 | cons x r ih=>
  cases i with
  | zero=>
   cases x with
   | none=>simpa [qic,qbf] using qql sz (b + 1) r b (by omega)
   | some p=>obtain ⟨g,l⟩:=p; simp [qic,qbf,lk]
  | succ i=>
   have:=ih (b + 1) i (by simpa using h);rw [show b + 1 + i = b + (i + 1) by omega] at this;have hne:¬ b + (i + 1) = b:=by omega
   cases x with
   | none=>simpa [qic,qbf] using this
   | some p=>obtain ⟨g,l⟩:=p; simpa [qic,qbf,lk] using this
theorem qro (b:Nat) (L:Fam) (i:Nat) (x:Option (Nat × List V)):(qix b L).set i (qbe (b + i) x) = qix b (L.set i x):=by
 induction L generalizing b i with
 | nil=>rfl
 | cons y r ih=>
  cases i with
  | zero=>simp [qix]
  | succ i=>
   simp only [qix,List.set_cons_succ];rw [<- ih (b + 1) i,show b + 1 + i = b + (i + 1) by omega]
end
section
open Go
theorem qxn {a b c:Hp}:Sub (a ++ b) c↔Sub a c/\Sub b c:=by
 induction a with
 | nil=>simp [Sub]
 | cons p r ih=>obtain ⟨k,v⟩:=p; simp [Sub,ih,and_assoc]
theorem q0q (sz b:Nat) (L:Fam) (h:Hp) (hk:∀ i (hi:i < L.length) g l,L[i] = some (g,l)->lk h (b + i) = some (.row g sz l)):Sub (qic sz b L) h:=by
 induction L generalizing b with
 | nil=>trivial
 | cons x r ih=>
  simp only [qic,qxn];refine ⟨?_,ih (b + 1) fun i hi g l he=>?_⟩
  ·cases x with
   | none=>trivial
   | some p=>obtain ⟨g,l⟩:=p; exact ⟨by simpa using hk 0 (by simp) g l rfl,trivial⟩
  ·have:=hk (i + 1) (by simpa using hi) g l (by simpa using he)
   rwa [show b + (i + 1) = b + 1 + i by omega] at this
end
section
open Go
theorem q3h (s:Nat->Nat->Nat × Nat) (b:Nat) (L:Fam) (h:∀ i g,b≤i->s i g = (i,g)):(qix b L).map (V.rn s) = qix b L:=by
 induction L generalizing b with
 | nil=>rfl
 | cons x r ih=>
  have h1:=ih (b + 1) fun i g hi=>h i g (by omega);simp only [qix,List.map_cons,h1];congr 1
  cases x with
  | none=>rfl
  | some p=>obtain ⟨g,l⟩:=p; simp [qbe,V.rn,h b g (jjf _)]
theorem qo0 (b g b' g' base:Nat) (h:b < base):∀ i y,base≤i->mvS b g b' g' i y = (i,y):=by
 intro i y hi;have:¬ i = b:=by omega
 simp [mvS,this]
end
section
open Go
def qj3 (L:List V):V:=.sl L (some L.length)
def qyu (b:Nat):Option (Nat × List V)->V
 | none=>.sl [] (some 0)
 | some (g,l)=>.ref b g 0 l.length (some l.length)
def qfj (b:Nat):Fam->List V
 | []=>[]
 | x :: r=>qyu b x :: qfj (b + 1) r
theorem qd7 (b:Nat) (L:Fam):(qfj b L).length = L.length:=by
 induction L generalizing b with
 | nil=>rfl
 | cons x r ih=>simp [qfj,ih]
theorem qn9 (b:Nat) (L M:Fam):qfj b (L ++ M) = qfj b L ++ qfj (b + L.length) M:=by
 induction L generalizing b with
 | nil=>rfl
 | cons x r ih=>simp [qfj,ih,show b + 1 + r.length = b + (r.length + 1) by omega]
def qmp (c:Ci):List V:=(List.range c.n.length).map fun (j:Nat)=>qj3 (qf4 (j:Int) c.n 0)
theorem qrp (b:Nat) (L:Fam) (i:Nat) {x:Option (Nat × List V)} (h:L[i]? = some x) (hi:i < (qix b L).length):(qix b L)[i] = qbe (b + i) x:=by
 obtain ⟨h1,h2⟩:=List.getElem?_eq_some_iff.1 h;rw [qy7 b L i h1,h2]
theorem qve (b n:Nat):qix b (List.replicate n none) = List.replicate n .nil:=by
 induction n generalizing b with
 | zero=>rfl
 | succ n ih=>simp [List.replicate_succ,qix,qbe,ih]
theorem qvd (sz b n:Nat):qic sz b (List.replicate n none) = []:=by
 induction n generalizing b with
 | zero=>rfl
 | succ n ih=>simp [List.replicate_succ,qic,qbf,ih]
def qpo (c:Ci) (i k:Nat) (L:Fam):Prop:=L.length = c.n.length/\∀ (j:Nat) x,L[j]? = some x->(x = none∨qa3 x ≠ [])/\jhf (qa3 x) = true/\qa3 x ++ (qqu j i ((c.n.getD i default).i.drop k) k ++ qf4 j (c.n.drop (i + 1)) (i + 1)) = qf4 j c.n 0
theorem qpo.start (c:Ci):qpo c 0 0 (List.replicate c.n.length none):=by
 refine ⟨by simp,fun j x hj=>?_⟩;rw [List.getElem?_replicate] at hj;split at hj
 ·rename_i h;cases hj;refine ⟨.inl rfl,rfl,?_⟩
  cases hn:c.n with
  | nil=>rw [hn] at h; simp at h
  | cons a r=>simp [qa3,qf4]
 ·cases hj
theorem qpo.next {c:Ci} {i k:Nat} {L:Fam} (h:qpo c i k L) (hk:(c.n.getD i default).i.length≤k) (hi:i < c.n.length):qpo c (i + 1) 0 L:=by
 refine ⟨h.1,fun j x hj=>?_⟩;obtain ⟨h1,h2,h3⟩:=h.2 j x hj;refine ⟨h1,h2,?_⟩;rw [List.drop_eq_nil_of_le hk] at h3;rw [<- h3];congr 1;simp only [qqu,List.nil_append];by_cases hn:i + 1 < c.n.length
 ·rw [List.drop_eq_getElem_cons hn];simp [qf4,hn]
 ·have e1:c.n.getD (i + 1) default = default:=by simp [jja,hn]
  have e2:(default:Nd).i = []:=rfl;rw [List.drop_eq_nil_of_le (show c.n.length≤i + 1 by omega),List.drop_eq_nil_of_le (show c.n.length≤i + 1 + 1 by omega),e1,e2];simp [qf4,qqu]
theorem qpo.skip {c:Ci} {i k:Nat} {L:Fam} (h:qpo c i k L) (hk:k < (c.n.getD i default).i.length) (hx:∀ j:Nat,j < c.n.length->(c.n.getD i default).i[k] ≠ (j:Int)):qpo c i (k + 1) L:=by
 refine ⟨h.1,fun j x hj=>?_⟩;obtain ⟨h1,h2,h3⟩:=h.2 j x hj;refine ⟨h1,h2,?_⟩;rw [List.drop_eq_getElem_cons hk] at h3;have hjl:j < c.n.length:=by rw [<- h.1]; exact (List.getElem?_eq_some_iff.1 hj).1
 simp only [qqu,if_neg (hx j hjl)] at h3;exact h3
theorem qpo.add {c:Ci} {i k:Nat} {L:Fam} (h:qpo c i k L) (hk:k < (c.n.getD i default).i.length) {m:Nat} {x:Option (Nat × List V)} (hm:L[m]? = some x) (hx:(c.n.getD i default).i[k] = (m:Int)) (g:Nat):qpo c i (k + 1) (L.set m (some (g,qa3 x ++ [qov i k]))):=by
 refine ⟨by simpa using h.1,fun j y hj=>?_⟩;rw [List.getElem?_set] at hj;by_cases hjm:m = j
 ·subst hjm;have hl:m < L.length:=(List.getElem?_eq_some_iff.1 hm).1;simp [hl] at hj;subst hj;obtain ⟨h1,h2,h3⟩:=h.2 m x hm;refine ⟨.inr (by simp [qa3]),qcs h2 rfl,?_⟩;rw [List.drop_eq_getElem_cons hk] at h3;simp only [qqu,if_pos hx] at h3;rw [<- h3];simp only [qa3.eq_2];simp
 ·rw [if_neg hjm] at hj;obtain ⟨h1,h2,h3⟩:=h.2 j y hj;refine ⟨h1,h2,?_⟩;rw [List.drop_eq_getElem_cons hk] at h3;have:¬ (c.n.getD i default).i[k] = (j:Int):=by rw [hx]; omega
  simp only [qqu,if_neg this] at h3;exact h3
theorem qpo.len {c:Ci} {i k:Nat} {L:Fam} (h:qpo c i k L) {m:Nat} {x:Option (Nat × List V)} (hm:L[m]? = some x):(qa3 x).length≤(qf4 m c.n 0).length:=by
 obtain ⟨h1,h2,h3⟩:=h.2 m x hm;rw [<- h3]; simp
def q5q (sz:Nat):Option (Nat × List V)->Option Blk
 | some (g,l)=>some (.row g sz l)
 | none=>none
theorem qhv (sz b:Nat) (L:Fam) (i:Nat) {x:Option (Nat × List V)} (h:L[i]? = some x):lk (qic sz b L) (b + i) = q5q sz x:=by
 obtain ⟨h1,h2⟩:=List.getElem?_eq_some_iff.1 h;rw [q3z sz b L i h1,h2];cases x <;> rfl
theorem qph (sz b:Nat) (L:Fam) (h:Hp) (hk:∀ (i g:Nat) l,L[i]? = some (some (g,l))->lk h (b + i) = some (.row g sz l)):Sub (qic sz b L) h:=
 q0q sz b L h fun i hi g l he=>hk i g l (by rw [jje hi,he])
theorem qkk {sz b:Nat} {L:Fam} {h:Hp} {m g:Nat} {l:List V} (hm:lk h (b + m) = some (.row g sz l)) (ho:∀ (i g:Nat) l,i ≠ m->L[i]? = some (some (g,l))->lk h (b + i) = some (.row g sz l)):Sub (qic sz b (L.set m (some (g,l)))) h:=by
 refine qph _ _ _ _ fun i g2 l2 hi=>?_;rw [List.getElem?_set] at hi;by_cases e:m = i
 ·subst e;by_cases hl:m < L.length
  ·simp [hl] at hi;obtain ⟨rfl,rfl⟩:=hi;exact hm
  ·simp [hl] at hi
 ·rw [if_neg e] at hi;exact ho i g2 l2 (fun q=>e q.symm) hi
theorem qv2 {sz base:Nat} {L:Fam} {b b' g:Nat} {s:Nat->Nat->Nat × Nat} {i g2:Nat} {l:List V} (hne:b ≠ b') (h1:¬ base + i = b') (h2:¬ base + i = b) (hi:L[i]? = some (some (g2,l))) (hp:jhf l = true):lk (mvH s b b' g (qic sz base L)) (base + i) = some (.row g2 sz l):=by
 rw [qv3 hne,if_neg h1,if_neg h2,qhv sz base L i hi];simp [q5q,qav hp]
theorem qbz {sz b:Nat} {L:Fam} {h:Hp} (hk:∀ t,b≤t->lk h t = lk (qic sz b L) t):Sub (qic sz b L) h:=
 qph _ _ _ _ fun i g l hi=>by rw [hk _ (by omega),qhv sz b L i hi]; rfl
def qm6 (b i:Nat) (L:Fam):List V:=qfj b (L.take i) ++ qix (b + i) (L.drop i)
theorem qv9 (b:Nat) (L:Fam):qm6 b 0 L = qix b L:=by simp [qm6,qfj]
theorem qzt (b:Nat) (L:Fam):qm6 b L.length L = qfj b L:=by simp [qm6,qix]
theorem qqo (b i:Nat) (L:Fam) (h:i≤L.length):(qm6 b i L).length = L.length:=by simp [qm6,qd7,qce]; omega
theorem qzu (b i:Nat) (L:Fam) {x:Option (Nat × List V)} (h:L[i]? = some x) (hi:i < (qm6 b i L).length):(qm6 b i L)[i] = qbe (b + i) x:=by
 obtain ⟨h1,h2⟩:=List.getElem?_eq_some_iff.1 h;have e:(qfj b (L.take i)).length = i:=by simp [qd7]; omega
 have:=qrp (b + i) (L.drop i) 0 (x:=x) (by simpa using h) (by rw [qce]; simp; omega)
 have k:(qm6 b i L)[i]? = some (qbe (b + i) x):=by
  unfold qm6;rw [List.getElem?_append_right (by omega),e,Nat.sub_self,jje (by rw [qce]; simp; omega),this,Nat.add_zero]
 rw [jje hi] at k;exact Option.some.inj k
theorem qzv (b i:Nat) (L:Fam) {x:Option (Nat × List V)} (h:L[i]? = some x):(qm6 b i L).set i (qyu (b + i) x) = qm6 b (i + 1) L:=by
 obtain ⟨h1,h2⟩:=List.getElem?_eq_some_iff.1 h;have e:(qfj b (L.take i)).length = i:=by simp [qd7]; omega
 unfold qm6;rw [List.set_append_right _ _ (by omega),e,Nat.sub_self,List.drop_eq_getElem_cons h1];simp only [qix,List.set_cons_zero];rw [List.take_succ_eq_append_getElem h1,qn9,h2];simp [qfj,Nat.add_assoc];rw [Nat.min_eq_left (by omega)]
theorem qvi {sz:Nat} (b:Nat) (L:Fam) (h:Hp) (n:Nat) (hk:∀ (i g:Nat) l,L[i]? = some (some (g,l))->lk h (b + i) = some (.row g sz l)/\jhf l = true):(qfj b L).map (frz h (n + 1)) = L.map fun x=>qj3 (qa3 x):=by
 induction L generalizing b with
 | nil=>rfl
 | cons x r ih=>
  simp only [qfj,List.map_cons];rw [ih (b + 1) fun i g l hi=>by have:=hk (i + 1) g l (by simpa using hi); rwa [show b + (i + 1) = b + 1 + i by omega] at this];congr 1
  cases x with
  | none=>simp [qyu,qj3,qa3]
  | some p=>
   obtain ⟨g,l⟩:=p;obtain ⟨q1,q2⟩:=hk 0 g l (by simp);rw [Nat.add_zero] at q1;simp only [qyu];rw [qb2 q1 (by omega),List.drop_zero,List.take_length,qc3 h n q2];rfl
theorem qst {K:V->Hp->Prop} {h:Hp} (h2:Hp) (hs:Sub h2 h) (hk:K (.sl [] (some 0)) h2):qau Tryz.prog gl0 136 [.nil] h K:=by
 refine ji7 q8y rfl ?_;simp [jdh,jg8];exact .done (by simpa using ⟨h2,hs,hk⟩)
theorem qsu {K:V->Hp->Prop} {h:Hp} {b g l:Nat} {cap:Option Nat} {es:List V} (hb:lk h b = some (.row g 2 es)) (h2:Hp) (hs:Sub h2 h) (hk:K (.ref b g 0 l (some l)) h2):qau Tryz.prog gl0 136 [.ref b g 0 l cap] h K:=by
 refine ji7 q8y rfl ?_;simp [jdh,jg8,hb];exact .done (by simpa using ⟨h2,hs,hk⟩)
theorem qy8 (c:Ci) (hl:c.n.length < 1000000) (hin:∀ n ∈ c.n,n.i.length < 10000000) (hq:∀ j,(qf4 j c.n 0).length≤1000000000):qad Tryz.prog gl0 147 [c.v] (.sl (qmp c) (some c.n.length)):=by
 refine ji4 2 jex rfl ?_;simp [i147,x147,Ci.v];intro gf gf2;have:c.n.length≤549755813888:=by omega
 simp [this];refine ji0 (qhb c) (by simp) ?_;simp;generalize gf 1 = g1;generalize gf2 14 = g14;clear gf gf2
 refine ji3 (X:=Nat × Fam) (fun x=>[(20,.int .i64 (x.1:Int)),(19,.int .i64 (c.n.length:Int)),(18,.sl (c.n.map Nd.v) none),(4,.fn 212 [] [.iptr c.v 0]),(3,.ref 14 g14 0 c.n.length (some c.n.length)),(1,.ptr 1 g1 0 0)])
  (fun x=>(14,.row g14 1 (qix 1000 x.2)) :: (1,.row g1 4 [c.v]) :: qic 2 1000 x.2)
  (fun x=>x.1≤c.n.length/\qpo c x.1 0 x.2) (fun x=>c.n.length - x.1) (0,List.replicate c.n.length none) ?_ ?_ ?_ ?_
 ·exact ⟨by simp,qpo.start c⟩
 ·simp
 ·simp [qve,qvd,Ci.v]
 ·rintro ⟨i,L⟩ ⟨h1,h2⟩;dsimp only at h1 h2;simp;refine ji1 (fun hb=>?_) (fun hb=>?_)
  ·have hi:i < c.n.length:=ji8 hb;have hw:IntKind.i64.wrap ((i:Int) + 1) = ((i + 1:Nat):Int):=by rw [qaw] <;> omega
   have hni:=hin c.n[i] (jjd hi);have hnd:c.n.getD i default = c.n[i]:=by simp [hi]
   simp [hi,Nd.v];intro gf6;generalize gf6 6 = g6
   refine jhs (X:=Nat × Fam) (fun x=>[(28,.int .i64 (x.1:Int)),(27,.int .i64 (c.n[i].i.length:Int)),(26,.sl (qc5 c.n[i].i) none),(5,.int .i64 (i:Int)),(20,.int .i64 (i:Int)),(19,.int .i64 (c.n.length:Int)),(18,.sl (c.n.map Nd.v) none),(4,.fn 212 [] [.iptr c.v 0]),(3,.ref 14 g14 0 c.n.length (some c.n.length)),(1,.ptr 1 g1 0 0)])
    (fun x=>(14,.row g14 1 (qix 1000 x.2)) :: (1,.row g1 4 [c.v]) :: qic 2 1000 x.2)
    (fun x=>x.1≤c.n[i].i.length/\qpo c i x.1 x.2) (fun x=>c.n[i].i.length - x.1) ?_ ?_
   ·refine .done ⟨(0,L),⟨by simp,h2⟩,by simp,?_⟩;simp;exact qbz fun t ht=>by simp [show ¬ t = 6 by omega,show ¬ t = 14 by omega,show ¬ t = 1 by omega]
   ·clear h2 L;rintro ⟨k,L⟩ ⟨h3,h2⟩;dsimp only at h2 h3;simp;refine ji1 (fun hc=>?_) (fun hc=>?_)
    ·have hk:k < c.n[i].i.length:=ji8 hc;have hwk:IntKind.i64.wrap ((k:Int) + 1) = ((k + 1:Nat):Int):=by rw [qaw] <;> omega
     simp [hk,qbk];refine ji0 (qh1 c _) (by simp [Ci.v]) ?_;simp;refine ji1 (fun ho=>?_) (fun ho=>?_)
     ·simp at ho;obtain ⟨m,hm⟩:∃ m:Nat,c.n[i].i[k] = (m:Int):=⟨c.n[i].i[k].toNat,by omega⟩;have hml:m < c.n.length:=by omega
      have hmL:m < L.length:=by rw [h2.1]; exact hml
      obtain ⟨x,hx⟩:∃ x,L[m]? = some x:=⟨_,jje hmL⟩;have hk':k < (c.n.getD i default).i.length:=by rw [hnd]; exact hk
      have hm':(c.n.getD i default).i[k] = (m:Int):=by simp only [hnd]; exact hm
      have hlk:=qhv 2 1000 L m hx;have hadd:=fun g=>h2.add hk' hx hm' g;have hlen:=h2.len hx;have hqm:=hq m;have hpu:=(h2.2 m _ hx).2.1;have hfv:m < (qix 1000 L).length:=by rw [qce]; exact hmL
      have hget:=qrp 1000 L m hx hfv;rw [hm];simp [hml,hget,qce,hmL]
      cases x with
      | none=>
       simp [qbe,hwk,hml,hget,qce,hmL];refine fun gf1 gf2=>.move 47 (1000 + m) _ (by omega) (by simp; rfl) fun g2=>.done ⟨k + 1,L.set m (some (g2,[qov i k])),?_⟩;have n1:¬ 1000 + m = 47:=by omega
       have n2:¬ 1000 + m = 14:=by omega
       have n3:¬ 1000 + m = 1:=by omega
       have n4:¬ 14 = 1000 + m:=by omega
       have n5:¬ 1 = 1000 + m:=by omega
       have n6:¬ 46 = 1000 + m:=by omega
       have n7:¬ 47 = 1000 + m:=by omega
       refine ⟨⟨hk,hadd g2⟩,?_⟩;have hfr:=q3h (mvS 47 (gf2 47) (1000 + m) g2) 1000 L (qo0 _ _ _ _ _ (by omega));simp [n4,n5,n6,n7,qa1 _ (qaf _),qa1 _ (qae _),qd0 _ (quk c),List.map_set,hfr,<- qro,qbe,qov];refine ⟨qkk (by simp [n2]) fun j g3 l3 hj hL=>?_,by omega⟩;have q1:¬ 1000 + j = 1000 + m:=by omega
       have q2:¬ 1000 + j = 14:=by omega
       have q3:¬ 1000 + j = 46:=by omega
       have q4:¬ 1000 + j = 1:=by omega
       have q5:¬ 1000 + j = 47:=by omega
       have q6:=(h2.2 j _ hL).2.1;simp [hj,q2,q3,q4,qv2 (s:=mvS 47 (gf2 47) (1000 + m) g2) (g:=g2) (b:=47) (by omega) q1 q5 hL q6]
      | some p=>
       obtain ⟨g,l⟩:=p;simp only [qa3] at hlen hpu;have hle:l.length + 1≤274877906944:=by omega
       have n1:¬ 1000 + m = 46:=by omega
       have n2:¬ 1000 + m = 14:=by omega
       have n3:¬ 1000 + m = 1:=by omega
       have n4:¬ 14 = 1000 + m:=by omega
       simp [qbe,hwk,hml,hget,qce,hmL,hlk,q5q,hle,n1,n2,n3,n4];refine fun gf1 gf2=>.done ⟨k + 1,L.set m (some (gf2 (1000 + m),l ++ [qov i k])),?_⟩;refine ⟨⟨hk,hadd _⟩,?_⟩;have n5:¬ 1 = 1000 + m:=by omega
       simp [n5,<- qro,qbe,qov];refine ⟨qkk (by simp [n2]) fun j g3 l3 hj hL=>?_,by omega⟩;have q1:¬ 1000 + j = 1000 + m:=by omega
       have q2:¬ 1000 + j = 14:=by omega
       have q3:¬ 1000 + j = 46:=by omega
       have q4:¬ 1000 + j = 1:=by omega
       simp [hj,q2,q3,q4,qhv 2 1000 L j hL,q5q]
     ·simp at ho;simp [hwk];have hk':k < (c.n.getD i default).i.length:=by rw [hnd]; exact hk
      refine .done ⟨k + 1,L,⟨hk,h2.skip hk' ?_⟩,by simp,?_,by omega⟩
      ·intro j hj e;simp only [hnd] at e;omega
      ·simp;exact qbz fun t ht=>by simp [show ¬ t = 14 by omega,show ¬ t = 1 by omega]
    ·have hk:¬ k < c.n[i].i.length:=ji9 hc;simp [hw];refine ⟨i + 1,L,⟨by omega,h2.next (by rw [hnd]; omega) hi⟩,rfl,⟨rfl,?_⟩,by omega⟩;exact qbz fun t ht=>by simp [show ¬ t = 14 by omega,show ¬ t = 1 by omega]
  ·have hi:i = c.n.length:=by have:=ji9 hb; omega
   subst hi;simp
   refine ji3 (X:=Nat) (fun x=>[(53,.int .i64 (x:Int)),(52,.int .i64 (c.n.length:Int)),(51,.ref 14 g14 0 c.n.length (some c.n.length)),(3,.ref 14 g14 0 c.n.length (some c.n.length))])
    (fun x=>(14,.row g14 1 (qm6 1000 x L)) :: qic 2 1000 L)
    (fun x=>x≤c.n.length) (fun x=>c.n.length - x) 0 ?_ ?_ ?_ ?_
   ·simp
   ·simp
   ·simp [qv9];exact qbz fun t ht=>by simp [show ¬ t = 14 by omega,show ¬ t = 1 by omega]
   ·rintro i h3;simp;refine ji1 (fun hb=>?_) (fun hb=>?_)
    ·have hi:i < c.n.length:=ji8 hb;have hiL:i < L.length:=by rw [h2.1]; exact hi
     have hw:IntKind.i64.wrap ((i:Int) + 1) = ((i + 1:Nat):Int):=by rw [qaw] <;> omega
     obtain ⟨x,hx⟩:∃ x,L[i]? = some x:=⟨_,jje hiL⟩;have hml:(qm6 1000 i L).length = c.n.length:=by rw [qqo _ _ _ (by omega),h2.1]
     have hget:=qzu 1000 i L hx (by rw [hml]; exact hi);have hlk:=qhv 2 1000 L i hx;have hset:=qzv 1000 i L hx;simp [hi,hml,hget]
     cases x with
     | none=>
      simp [qbe];have hsub:Sub ((14,Blk.row g14 1 (qm6 1000 i L)) :: qic 2 1000 L) ((14,Blk.row g14 1 (qm6 1000 i L)) :: qic 2 1000 L):=⟨by simp,qbz fun t ht=>by simp [show ¬ t = 14 by omega]⟩;refine qst _ hsub ?_;simp [hi,hml,hget,qbe];refine ⟨i + 1,by omega,hw,⟨hset,?_⟩,by omega⟩;exact qbz fun t ht=>by simp [show ¬ t = 14 by omega]
     | some p=>
      obtain ⟨g,l⟩:=p;have n2:¬ 1000 + i = 14:=by omega
      have hsub:Sub ((14,Blk.row g14 1 (qm6 1000 i L)) :: qic 2 1000 L) ((14,Blk.row g14 1 (qm6 1000 i L)) :: qic 2 1000 L):=⟨by simp,qbz fun t ht=>by simp [show ¬ t = 14 by omega]⟩;simp [qbe];refine qsu (es:=l) (by simp [n2,hlk,q5q]) _ hsub ?_;simp [hi,hml,hget,qbe];refine ⟨i + 1,by omega,hw,⟨hset,?_⟩,by omega⟩;exact qbz fun t ht=>by simp [show ¬ t = 14 by omega]
    ·have hi:i = L.length:=by have:=ji9 hb; have:=h2.1; omega
     subst hi;simp [-frz];have hcl:(qfj 1000 L).length = c.n.length:=by rw [qd7,h2.1]
     rw [qzt,qb2 (es:=qfj 1000 L) (sz:=1) (by simp) (by rw [hcl]; omega),List.drop_zero,jjc (by rw [hcl]; exact jjf _),qvi (sz:=2) 1000 L _ _ fun i g l hi=>⟨by simp [show ¬ 1000 + i = 14 by omega,qhv 2 1000 L i hi,q5q],(h2.2 i _ hi).2.1⟩];congr 1;unfold qmp;refine List.ext_getElem? fun i=>?_;simp only [List.getElem?_map]
     cases hx:L[i]? with
     | none=>
      have:¬ i < c.n.length:=by rw [<- h2.1]; simpa using hx
      simp [this]
     | some x=>
      have hi:i < c.n.length:=by rw [<- h2.1]; exact (List.getElem?_eq_some_iff.1 hx).1
      have hx3:=(h2.2 i x hx).2.2;have e1:c.n.getD c.n.length default = default:=by simp [jja]
      have e2:(default:Nd).i = []:=rfl;rw [e1,e2,List.drop_eq_nil_of_le (show c.n.length≤c.n.length + 1 by omega)] at hx3;simp [qqu,qf4] at hx3;simp [hi,qj3,hx3]
end
end Go.Proofs.YtpaopccohkldlaaGreatDoor
