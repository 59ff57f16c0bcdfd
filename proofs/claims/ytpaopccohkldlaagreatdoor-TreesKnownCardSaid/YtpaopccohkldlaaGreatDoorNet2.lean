/- Lemmas. Conditions: none. -/
import Derived.Test.YtpaopccohkldlaaGreatDoorXT
set_option linter.all false
namespace Go.Proofs.YtpaopccohkldlaaGreatDoor
section
open Go
def tab7:V:=.agg ([0,1,28,2,29,14,24,3,30,22,20,15,25,17,4,8,31,27,13,23,21,19,16,7,26,12,18,6,11,5,10,9].map (V.int .u8))
def tab8:V:=.agg ([0,1,56,2,57,49,28,3,61,58,42,50,38,29,17,4,62,47,59,36,45,43,51,22,53,39,33,30,24,18,12,5,63,55,48,27,60,41,37,16,46,35,44,21,52,32,23,11,54,26,40,15,34,20,31,10,25,14,19,9,13,8,7,6].map (V.int .u8))
def jdj:V:=.agg ([1,10,100,1000,10000,100000,1000000,10000000,100000000,1000000000,10000000000,100000000000,1000000000000,10000000000000,100000000000000,1000000000000000,10000000000000000,100000000000000000,1000000000000000000,10000000000000000000].map (V.int .u64))
def gl0:Fr:=[(7,.iptr tab7 0),(8,.iptr tab8 0),(2,.iptr jdj 0),(6,.iptr (.err false) 0),(5,.iptr (.err false) 0),(1,.iptr (.agg ([0,0,0,0,0,0,1,1,1,1,2,16,2,16,2,16,2,16,2,16,2,16,3,3,2,2,1,16,1,1,0,0].map (V.int .i64))) 0),(0,.iptr (.agg [.int .i64 (-1),.int .i64 0,.int .i64 0]) 0)]
theorem qcw:lk gl0 0 = some (.iptr (.agg [.int .i64 (-1),.int .i64 0,.int .i64 0]) 0):=rfl
end
section
open Go
theorem qzb (k:Int):qac Tryz.prog gl0 82 [.int .u8 k] (.bool (decide (1≤k/\k≤13))):=by
 refine jfu 2 ok82 rfl ?_
 repeat' (first | refine jfr (fun _=>?_) (fun _=>?_) | (intro _) | simp [*,i82,x82])
theorem q46 (s:List UInt8) (c:Int) (h:0≤c/\c < 256):qac Tryz.prog gl0 245 [.str s,.int .u8 c] (.int .i64 (qhu c s 0)):=by
 refine jfu 2 jcm rfl ?_;simp [i245,x245,nop,h]
theorem q05 (s:List UInt8) (c:Int) (h:0≤c/\c < 256):qac Tryz.prog gl0 240 [.str s,.int .u8 c] (.int .i64 (qhu c s 0)):=by
 refine jfu 2 jck rfl ?_;simp [i240,x240];refine jfq (q46 s c h) rfl ?_;simp
theorem qwg {x:Int} (h0:0≤x) (h1:x < 256):IntKind.u8.wrap x = x:=by
 simp [IntKind.wrap,IntKind.bits,IntKind.signed]; omega
theorem q47 (s:List UInt8) (r:Int) (h:0≤r/\r < 128):qac Tryz.prog gl0 238 [.str s,.int .i32 r] (.int .i64 (qhu r s 0)):=by
 have hw:IntKind.u8.wrap r = r:=qwg h.1 (by omega);refine jfu 2 jci rfl ?_;simp [i238,x238,h,hw];refine jfq (q05 s r ⟨h.1,by omega⟩) rfl ?_;simp
theorem q0q (s:List UInt8) (r:Int) (h:0≤r/\r < 128):qac Tryz.prog gl0 229 [.str s,.int .i32 r] (.bool (decide (0≤qhu r s 0))):=by
 refine jfu 2 jcf rfl ?_;simp [i229,x229];refine jfq (q47 s r h) rfl ?_;simp
def q3v (r:Int):Bool:=decide (r≤32) || decide (126 < r) || decide (0≤qhu r [40,41,61,44,35] 0)
theorem q9u (r:Int):qac Tryz.prog gl0 228 [.int .i32 r] (.bool (q3v r)):=by
 refine jfu 2 jce rfl ?_;by_cases h1:r≤32
 ·simp [q7z,q9g,h1,q3v]
 ·by_cases h2:126 < r
  ·simp [q7z,q9g,h1,h2,q3v]
  ·simp [q7z,q9g,h1,h2,q3v];refine jfq (q0q _ r ⟨by omega,by omega⟩) rfl ?_;simp
def qc8:Nat->List UInt8->Nat->Int
 | 0,_,_=>-1
 | n + 1,s,pos=>if pos < s.length then (if q3v (Utf8.decode ⟨s.toArray⟩ pos).1 = true then (pos:Int) else qc8 n s (pos + (Utf8.decode ⟨s.toArray⟩ pos).2)) else -1
theorem q0s (s:List UInt8) (pos:Nat):1≤(Utf8.decode ⟨s.toArray⟩ pos).2:=by
 simp only [Utf8.decode]
 repeat' split
 all_goals simp
theorem qxi (s:List UInt8):qac Tryz.prog gl0 244 [.str s,.fn 228 [] [],.bool true] (.int .i64 (qc8 (s.length + 1) s 0)):=by
 obtain ⟨r,hr⟩:∃ r,qc8 (s.length + 1) s 0 = r:=⟨_,rfl⟩;rw [hr];refine jfu 2 jcl rfl ?_;simp [i244,x244,nop];intro gf
 refine jft (X:=Nat × Nat) (fun x=>[(0,.str s),(1,.fn 228 [] []),(2,.bool true),(10,.own 10 (gf 10))]) (fun x=>[(10,.siter (gf 10) s x.1)])
  (fun x=>s.length < x.1 + x.2/\qc8 x.2 s x.1 = r) (fun x=>x.2) (0,s.length + 1) ⟨by simp,hr⟩ (by simp) (by simp) ?_
 rintro ⟨pos,fuel⟩ ⟨h2,h3⟩;dsimp only at h2 h3
 cases fuel with
 | zero=>
  have hp:¬ pos < s.length:=by omega
  simp [nop,hp,<- h3,qc8]
 | succ fuel=>
  have hd:=q0s s pos;by_cases hp:pos < s.length
  ·simp [nop,hp];refine jfq (q9u _) rfl ?_;simp;refine jfr (fun hb=>?_) (fun hb=>?_)
   ·simp [<- h3,qc8,hp,hb]
   ·simp;refine ⟨_,fuel,⟨?_,?_⟩,rfl,by omega⟩
    ·omega
    ·rw [<- h3]; simp [qc8,hp,hb]
  ·simp [nop,hp,<- h3,qc8]
theorem qxf (s:List UInt8):qac Tryz.prog gl0 239 [.str s,.fn 228 [] []] (.int .i64 (qc8 (s.length + 1) s 0)):=by
 refine jfu 2 jcj rfl ?_;simp [i239,x239];refine jfq (qxi s) rfl ?_;simp
theorem qou (s:List UInt8):qac Tryz.prog gl0 230 [.str s,.fn 228 [] []] (.bool (decide (0≤qc8 (s.length + 1) s 0))):=by
 refine jfu 2 jcg rfl ?_;simp [i230,x230];refine jfq (qxf s) rfl ?_;simp
def qum (s:List UInt8):Bool:=decide (s ≠ []) && decide (s.length≤32) && !(decide (0≤qc8 (s.length + 1) s 0))
theorem qxk (s:List UInt8):qac Tryz.prog gl0 209 [.str s] (.bool (qum s)):=by
 have hc:=qou s;refine jfu 2 jb8 rfl ?_;unfold qum;generalize decide (0≤qc8 (s.length + 1) s 0) = q at *;simp [i209,x209];refine jfr (fun h1=>?_) (fun h1=>?_)
 ·simp [h1]
 ·simp [h1];refine jfr (fun h2=>?_) (fun h2=>?_)
  ·simp [h2];refine jfq hc rfl ?_;simp
  ·simp [h2]
theorem pureL_map {α:Type} {f:α->V} (hf:∀ x,(f x).pure = true):∀ l:List α,jd6 (l.map f) = true
 | []=>rfl
 | x :: l=>by simp [jd6,hf x,pureL_map hf l]
@[simp] theorem q6j (l:List (List UInt8)):jd6 (l.map .str) = true:=pureL_map (fun _=>rfl) l
end
section
open Go
def qjv (sz:Nat) (xs:List V) (v:V) (h:Hp):Prop:=(xs = []/\v = .sl [] (some 0)/\h = [])∨∃ g,v = .ref 0 g 0 xs.length (some xs.length)/\h = [(0,.row g sz xs)]
end
section
open Go
def qde (l:List Int):List V:=l.map (.int .i64)
@[simp] theorem q06 (l:List Int):(qde l).length = l.length:=by simp [qde]
@[simp] theorem qeb (l:List Int):jd6 (qde l) = true:=pureL_map (fun _=>rfl) l
@[simp] theorem q24 (l:List Int):((qde l).all fun x=>decide (x.cells.length = 1)) = true:=by simp [qde]
structure Nd where
 k:Int
 i:List Int
 a:Int
 b:Int
 deriving Inhabited
def Nd.v (n:Nd):V:=.agg [.int .u8 n.k,.sl (qde n.i) none,.int .i64 n.a,.int .i64 n.b]
structure Md where
 a:List Int
 d:List Int
 w:Int
 deriving Inhabited
def Md.v (n:Md):V:=.agg [.sl (qde n.a) none,.sl (qde n.d) none,.int .i64 n.w]
structure Ci where
 n:List Nd
 s:List (List UInt8)
 m:List Md
 o:List Int
def Ci.v (c:Ci):V:=.agg [.sl (c.n.map Nd.v) none,.sl (c.s.map .str) none,.sl (c.m.map Md.v) none,.sl (qde c.o) none]
@[simp] theorem qfk (l:List Nd):jd6 (l.map Nd.v) = true:=pureL_map (fun x=>by simp [Nd.v]) l
@[simp] theorem qgn (l:List Md):jd6 (l.map Md.v) = true:=pureL_map (fun x=>by simp [Md.v]) l
theorem qbv {a b:List V} (h:jd6 a = true) (k:jd6 b = true):jd6 (a ++ b) = true:=by
 rw [jee] at *;intro v hv;rcases List.mem_append.1 hv with q | q
 ·exact h v q
 ·exact k v q
theorem qar {l:List V} (h:jd6 l = true) {f:Nat->Nat->Nat->Nat->Option Nat->V} {p:Nat->Nat->Nat->Nat->V}:(l.map fun x=>V.mapR f p x) = l:=by
 have:=qae (f:=f) (p:=p) l h;rw [qci] at this; exact this
def qbt (b:Nat):Option (Nat × List V)->V
 | none=>.nil
 | some (g,l)=>.ref b g 0 l.length none
def qbm (b sz:Nat):Option (Nat × List V)->Hp
 | none=>[]
 | some (g,l)=>[(b,.row g sz l)]
def qbe:Option (Nat × List V)->List V
 | none=>[]
 | some (_,l)=>l
theorem qbq (l:List Int) (i:Nat) (h:i < (qde l).length):(qde l)[i] = .int .i64 (l[i]'(by simpa using h)):=by simp [qde]
end
section
open Go
end
section
open Go
def qj1 (x:Int):List Int->Nat->Int
 | [],_=>-1
 | y :: r,i=>if x = y then (i:Int) else qj1 x r (i + 1)
theorem qm8 (x:Int):∀ (l:List Int) (i:Nat),(0≤qj1 x l i)↔x ∈ l
 | [],i=>by simp [qj1]
 | y :: l,i=>by
  by_cases h:x = y
  ·simp [qj1,h]
  ·simp [qj1,h,qm8 x l (i + 1)]
theorem qxg (x:Int) (l:List Int) (cap:Option Nat) (hl:l.length < 1000000000000):qac Tryz.prog gl0 166 [.sl (l.map (.int .u8)) cap,.int .u8 x] (.int .i64 (qj1 x l 0)):=by
 obtain ⟨q,hq⟩:∃ r,qj1 x l 0 = r:=⟨_,rfl⟩;rw [hq];refine jfu 2 jbv rfl ?_;simp [i166,x166]
 refine jft (X:=Nat) (fun i=>[(8,.int .i64 (i:Int)),(7,.int .i64 (l.length:Int)),(0,.sl (l.map (.int .u8)) cap),(1,.int .u8 x)]) (fun _=>[])
  (fun i=>i≤l.length/\qj1 x (l.drop i) i = q) (fun i=>l.length - i) 0 ⟨by simp,by simpa using hq⟩ (by simp) (by simp) ?_
 rintro i ⟨h2,h3⟩;simp;refine jfr (fun h1=>?_) (fun h1=>?_)
 ·have h1':i < l.length:=jfy h1;have hw:IntKind.i64.wrap ((i:Int) + 1) = ((i + 1:Nat):Int):=by rw [qau] <;> omega
  rw [List.drop_eq_getElem_cons h1'] at h3;simp only [qj1] at h3;simp [h1'];refine jfr (fun h4=>?_) (fun h4=>?_)
  ·rw [if_pos (jfy h4)] at h3;simp [h3]
  ·rw [if_neg (jfz h4)] at h3;simp [hw];exact ⟨i + 1,⟨h1',h3⟩,rfl,by omega⟩
 ·have h1':i = l.length:=by have:=jfz h1; omega
  subst h1';simp [qj1] at h3;simp [h3]
@[simp] theorem q8w (l:List Int):jd6 (l.map (.int .u8)) = true:=pureL_map (fun _=>rfl) l
theorem qri (x:Int) (l:List Int) (cap:Option Nat) (hl:l.length < 1000000000000):qac Tryz.prog gl0 130 [.sl (l.map (.int .u8)) cap,.int .u8 x] (.bool (decide (x ∈ l))):=by
 refine jfu 2 jbe rfl ?_;simp [i130,x130];refine jfq (qxg x l cap hl) (by simp) ?_;simp [qm8]
def qmh (ks:List Int):List Nd->Nat->List V
 | [],_=>[]
 | n :: r,i=>if n.k ∈ ks then .int .i64 (i:Int) :: qmh ks r (i + 1) else qmh ks r (i + 1)
theorem jap (c:Ci) (ks:List Int) (cap:Option Nat) (hl:c.n.length < 1000000) (hk:ks.length < 1000000000000):qb5 Tryz.prog gl0 88 [c.v,.sl (ks.map (.int .u8)) cap] (qjv 1 (qmh ks c.n 0)):=by
 refine jfw ok88 rfl ?_;obtain ⟨q,hq⟩:∃ r,qmh ks c.n 0 = r:=⟨_,rfl⟩;rw [hq];simp [i88,x88,Ci.v];intro gf
 refine jft (X:=Nat × Option (Nat × List V)) (fun x=>[(11,.int .i64 (x.1:Int)),(10,.int .i64 (c.n.length:Int)),(9,.sl (c.n.map Nd.v) none),(5,qbt 23 x.2),(1,.sl (ks.map (.int .u8)) cap)])
  (fun x=>qbm 23 1 x.2)
  (fun x=>x.1≤c.n.length/\(x.2 = none∨qbe x.2 ≠ [])/\(qbe x.2).length≤x.1/\jd6 (qbe x.2) = true/\qbe x.2 ++ qmh ks (c.n.drop x.1) x.1 = q) (fun x=>c.n.length - x.1) (0,none) ⟨by simp,by simp,by simp [qbe],by simp [qbe],by simpa [qbe] using hq⟩ (by simp [qbt]) (by simp [qbm]) ?_
 rintro ⟨i,acc⟩ ⟨h1,h2,h3,h4,h5⟩;dsimp only at h1 h2 h3 h4 h5;simp;refine jfr (fun hb=>?_) (fun hb=>?_)
 ·have hi:i < c.n.length:=jfy hb;have hw:IntKind.i64.wrap ((i:Int) + 1) = ((i + 1:Nat):Int):=by rw [qau] <;> omega
  rw [List.drop_eq_getElem_cons hi] at h5;simp only [qmh] at h5;simp [hi,Nd.v];intro gf2;refine jfq (qri _ ks cap hk) (by simp) ?_;simp;refine jfr (fun hk=>?_) (fun hk=>?_)
  ·rw [if_pos (jfy hk)] at h5
   cases acc with
   | none=>
    simp [qbt,qbm,hw];refine fun gf1 gf2=>⟨i + 1,some (gf2 23,[.int .i64 i]),?_⟩;simp [qbe] at h5 ⊢;exact ⟨⟨by omega,h5⟩,by omega⟩
   | some gl=>
    obtain ⟨g,l⟩:=gl;simp only [qbe] at h3 h4 h5 h2;have hle:l.length + 1≤274877906944:=by omega
    simp [qbt,qbm,hw,hle];refine fun gf1 gf2=>⟨i + 1,some (gf2 23,l ++ [.int .i64 i]),?_⟩;simp [qbe,h5,List.append_assoc];exact ⟨⟨by omega,by omega,qbv h4 rfl⟩,by omega⟩
  ·rw [if_neg (jfz hk)] at h5;simp [hw];exact ⟨i + 1,acc,⟨by omega,h2,by omega,h4,h5⟩,⟨rfl,rfl⟩,by cases acc <;> simp [qbm],by omega⟩
 ·have hi:¬ i < c.n.length:=jfz hb;rw [List.drop_eq_nil_of_le (by omega)] at h5;simp only [qmh,List.append_nil] at h5
  cases acc with
  | none=>
   simp [qbe] at h5;subst h5;simp [qbt,qbm];refine jfx q1m rfl ?_;simp [q7x,q9e];exact .done (by simpa using ⟨[],trivial,.done (by simp [qjv])⟩)
  | some gl=>
   obtain ⟨g,l⟩:=gl;simp only [qbe] at h3 h4 h5 h2;subst h5;simp [qbt,qbm];refine jfx q1m rfl ?_;simp [q7x,q9e];refine .done ?_;simp only [lk,if_true];refine ⟨[(23,Blk.row g 1 l)],by simp,.move 23 0 _ (by simp) (by simp; rfl) fun g2=>.done ?_⟩;simp [qaz h4,qjv]
theorem qdf (ks:List Int):∀ (l:List Nd) (i:Nat),jec (qmh ks l i) = true/\jd6 (qmh ks l i) = true
 | [],i=>⟨rfl,rfl⟩
 | n :: r,i=>by
  obtain ⟨h1,h2⟩:=qdf ks r (i + 1);simp only [qmh];split
  ·exact ⟨by simp [jec,V.noG,h1],by simp [jd6,V.pure,h2]⟩
  ·exact ⟨h1,h2⟩
theorem qxj (c:Ci) (hl:c.n.length < 1000000):qb5 Tryz.prog gl0 44 [c.v] (qjv 1 (qmh [0] c.n 0)):=by
 obtain ⟨n1,n2⟩:=qdf [0] c.n 0;refine jfw ok44 rfl ?_;simp [i44,x44,Ci.v];intro gf gf2;refine jer 1 1000 (jap c [0] (some 1) hl (by simp)) (by simp [Ci.v,qae]) (by simp) ?_;rintro v h' (⟨hq,rfl,rfl⟩ | ⟨g,rfl,rfl⟩)
 ·refine ⟨rfl,fun b k hb=>by simp [lk] at hb,fun gf=>?_⟩;simp;exact .done (by simpa using ⟨[],trivial,by simp [qjv,hq]⟩)
 ·refine ⟨rfl,fun b k hb=>?_,fun gf=>?_⟩
  ·simp only [lk] at hb;split at hb
   ·cases hb; exact n1
   ·cases hb
  ·simp [qaz n2];refine .move 1000 0 _ (by simp) (by simp; rfl) fun g2=>.done ?_;simp [qaz n2,qjv]
theorem qyq (c:Ci) (hl:c.n.length < 1000000):qb5 Tryz.prog gl0 45 [c.v] (qjv 1 (qmh [14] c.n 0)):=by
 obtain ⟨n1,n2⟩:=qdf [14] c.n 0;refine jfw ok45 rfl ?_;simp [i45,x45,Ci.v];intro gf gf2;refine jer 1 1000 (jap c [14] (some 1) hl (by simp)) (by simp [Ci.v,qae]) (by simp) ?_;rintro v h' (⟨hq,rfl,rfl⟩ | ⟨g,rfl,rfl⟩)
 ·refine ⟨rfl,fun b k hb=>by simp [lk] at hb,fun gf=>?_⟩;simp;exact .done (by simpa using ⟨[],trivial,by simp [qjv,hq]⟩)
 ·refine ⟨rfl,fun b k hb=>?_,fun gf=>?_⟩
  ·simp only [lk] at hb;split at hb
   ·cases hb; exact n1
   ·cases hb
  ·simp [qaz n2];refine .move 1000 0 _ (by simp) (by simp; rfl) fun g2=>.done ?_;simp [qaz n2,qjv]
end
section
open Go
def qnl (i k:Nat):V:=.agg [.int .i64 (i:Int),.int .i64 (k:Int)]
def qph (w:Int) (i:Nat):List Int->Nat->List V
 | [],_=>[]
 | x :: r,k=>if x = w then qnl i k :: qph w i r (k + 1) else qph w i r (k + 1)
def qfp (w:Int):List Nd->Nat->List V
 | [],_=>[]
 | n :: r,i=>qph w i n.i 0 ++ qfp w r (i + 1)
end
section
open Go
theorem qs6 (c:Ci):c.v.pure = true:=by simp [Ci.v]
theorem qgq (c:Ci):qac Tryz.prog gl0 184 [c.v] (.fn 212 [] [.iptr c.v 0]):=by
 refine jfu 2 jb1 rfl ?_;simp [i184,x184,Ci.v,qae]
theorem qhc (c:Ci) (i:Int):qac Tryz.prog gl0 212 [.int .i64 i,.iptr c.v 0] (.bool (decide (i < 0) || decide ((c.n.length:Int)≤i))):=by
 refine jfu 2 jcb rfl ?_;simp [i212,x212,Ci.v];refine jfr (fun h1=>?_) (fun h1=>?_)
 ·simp [h1]
 ·simp [h1]
end
section
open Go
abbrev Fam:=List (Option (Nat × List V))
def qhk (sz b:Nat):Fam->Hp
 | []=>[]
 | x :: r=>qbm b sz x ++ qhk sz (b + 1) r
def qh3 (b:Nat):Fam->List V
 | []=>[]
 | x :: r=>qbt b x :: qh3 (b + 1) r
theorem qb8 (b:Nat) (L:Fam):(qh3 b L).length = L.length:=by
 induction L generalizing b with
 | nil=>rfl
 | cons x r ih=>simp [qh3,ih]
theorem qxc (b:Nat) (L:Fam) (i:Nat) (h:i < L.length):(qh3 b L)[i]'(by rw [qb8]; exact h) = qbt (b + i) L[i]:=by
 induction L generalizing b i with
 | nil=>simp at h
 | cons x r ih=>
  cases i with
  | zero=>simp [qh3]
  | succ i=>
   simp only [qh3,List.getElem_cons_succ];rw [ih (b + 1) i (by simpa using h),show b + 1 + i = b + (i + 1) by omega]
theorem qo8 (sz b:Nat) (L:Fam) (t:Nat) (h:t < b):lk (qhk sz b L) t = none:=by
 induction L generalizing b with
 | nil=>rfl
 | cons x r ih=>
  have:=ih (b + 1) (by omega)
  cases x with
  | none=>simpa [qhk,qbm] using this
  | some p=>
   obtain ⟨g,l⟩:=p;have hne:¬ t = b:=by omega
   simp [qhk,qbm,lk,hne,this]
theorem q1b (sz b:Nat) (L:Fam) (i:Nat) (h:i < L.length):lk (qhk sz b L) (b + i) = match L[i] with | some (g,l)=>some (.row g sz l) | none=>none:=by
 induction L generalizing b i with
 | nil=>simp at h
 | cons x r ih=>
  cases i with
  | zero=>
   cases x with
   | none=>simpa [qhk,qbm] using qo8 sz (b + 1) r b (by omega)
   | some p=>obtain ⟨g,l⟩:=p; simp [qhk,qbm,lk]
  | succ i=>
   have:=ih (b + 1) i (by simpa using h);rw [show b + 1 + i = b + (i + 1) by omega] at this;have hne:¬ b + (i + 1) = b:=by omega
   cases x with
   | none=>simpa [qhk,qbm] using this
   | some p=>obtain ⟨g,l⟩:=p; simpa [qhk,qbm,lk] using this
theorem qqd (b:Nat) (L:Fam) (i:Nat) (x:Option (Nat × List V)):(qh3 b L).set i (qbt (b + i) x) = qh3 b (L.set i x):=by
 induction L generalizing b i with
 | nil=>rfl
 | cons y r ih=>
  cases i with
  | zero=>simp [qh3]
  | succ i=>
   simp only [qh3,List.set_cons_succ];rw [<- ih (b + 1) i,show b + 1 + i = b + (i + 1) by omega]
end
section
open Go
theorem q17 {a b c:Hp}:Sub (a ++ b) c↔Sub a c/\Sub b c:=by
 induction a with
 | nil=>simp [Sub]
 | cons p r ih=>obtain ⟨k,v⟩:=p; simp [Sub,ih,and_assoc]
theorem qys (sz b:Nat) (L:Fam) (h:Hp) (hk:∀ i (hi:i < L.length) g l,L[i] = some (g,l)->lk h (b + i) = some (.row g sz l)):Sub (qhk sz b L) h:=by
 induction L generalizing b with
 | nil=>trivial
 | cons x r ih=>
  simp only [qhk,q17];refine ⟨?_,ih (b + 1) fun i hi g l he=>?_⟩
  ·cases x with
   | none=>trivial
   | some p=>obtain ⟨g,l⟩:=p; exact ⟨by simpa using hk 0 (by simp) g l rfl,trivial⟩
  ·have:=hk (i + 1) (by simpa using hi) g l (by simpa using he)
   rwa [show b + (i + 1) = b + 1 + i by omega] at this
end
section
open Go
theorem q00 (s:Nat->Nat->Nat × Nat) (b:Nat) (L:Fam) (h:∀ i g,b≤i->s i g = (i,g)):(qh3 b L).map (V.rn s) = qh3 b L:=by
 induction L generalizing b with
 | nil=>rfl
 | cons x r ih=>
  have h1:=ih (b + 1) fun i g hi=>h i g (by omega);simp only [qh3,List.map_cons,h1];congr 1
  cases x with
  | none=>rfl
  | some p=>obtain ⟨g,l⟩:=p; simp [qbt,V.rn,h b g (jf5 _)]
theorem q5r (b g b' g' base:Nat) (h:b < base):∀ i y,base≤i->mvS b g b' g' i y = (i,y):=by
 intro i y hi;have:¬ i = b:=by omega
 simp [mvS,this]
end
section
open Go
def qi2 (L:List V):V:=.sl L (some L.length)
def qw2 (b:Nat):Option (Nat × List V)->V
 | none=>.sl [] (some 0)
 | some (g,l)=>.ref b g 0 l.length (some l.length)
def qe4 (b:Nat):Fam->List V
 | []=>[]
 | x :: r=>qw2 b x :: qe4 (b + 1) r
theorem qdw (b:Nat) (L:Fam):(qe4 b L).length = L.length:=by
 induction L generalizing b with
 | nil=>rfl
 | cons x r ih=>simp [qe4,ih]
theorem qmz (b:Nat) (L M:Fam):qe4 b (L ++ M) = qe4 b L ++ qe4 (b + L.length) M:=by
 induction L generalizing b with
 | nil=>rfl
 | cons x r ih=>simp [qe4,ih,show b + 1 + r.length = b + (r.length + 1) by omega]
def qlh (c:Ci):List V:=(List.range c.n.length).map fun (j:Nat)=>qi2 (qfp (j:Int) c.n 0)
theorem qqe (b:Nat) (L:Fam) (i:Nat) {x:Option (Nat × List V)} (h:L[i]? = some x) (hi:i < (qh3 b L).length):(qh3 b L)[i] = qbt (b + i) x:=by
 obtain ⟨h1,h2⟩:=List.getElem?_eq_some_iff.1 h;rw [qxc b L i h1,h2]
theorem qtq (b n:Nat):qh3 b (List.replicate n none) = List.replicate n .nil:=by
 induction n generalizing b with
 | zero=>rfl
 | succ n ih=>simp [List.replicate_succ,qh3,qbt,ih]
theorem qtp (sz b n:Nat):qhk sz b (List.replicate n none) = []:=by
 induction n generalizing b with
 | zero=>rfl
 | succ n ih=>simp [List.replicate_succ,qhk,qbm,ih]
def qof (c:Ci) (i k:Nat) (L:Fam):Prop:=L.length = c.n.length/\∀ (j:Nat) x,L[j]? = some x->(x = none∨qbe x ≠ [])/\jd6 (qbe x) = true/\qbe x ++ (qph j i ((c.n.getD i default).i.drop k) k ++ qfp j (c.n.drop (i + 1)) (i + 1)) = qfp j c.n 0
theorem qof.start (c:Ci):qof c 0 0 (List.replicate c.n.length none):=by
 refine ⟨by simp,fun j x hj=>?_⟩;rw [List.getElem?_replicate] at hj;split at hj
 ·rename_i h;cases hj;refine ⟨.inl rfl,rfl,?_⟩
  cases hn:c.n with
  | nil=>rw [hn] at h; simp at h
  | cons a r=>simp [qbe,qfp]
 ·cases hj
theorem qof.next {c:Ci} {i k:Nat} {L:Fam} (h:qof c i k L) (hk:(c.n.getD i default).i.length≤k) (hi:i < c.n.length):qof c (i + 1) 0 L:=by
 refine ⟨h.1,fun j x hj=>?_⟩;obtain ⟨h1,h2,h3⟩:=h.2 j x hj;refine ⟨h1,h2,?_⟩;rw [List.drop_eq_nil_of_le hk] at h3;rw [<- h3];congr 1;simp only [qph,List.nil_append];by_cases hn:i + 1 < c.n.length
 ·rw [List.drop_eq_getElem_cons hn];simp [qfp,hn]
 ·have e1:c.n.getD (i + 1) default = default:=by simp [jf0,hn]
  have e2:(default:Nd).i = []:=rfl;rw [List.drop_eq_nil_of_le (show c.n.length≤i + 1 by omega),List.drop_eq_nil_of_le (show c.n.length≤i + 1 + 1 by omega),e1,e2];simp [qfp,qph]
theorem qof.skip {c:Ci} {i k:Nat} {L:Fam} (h:qof c i k L) (hk:k < (c.n.getD i default).i.length) (hx:∀ j:Nat,j < c.n.length->(c.n.getD i default).i[k] ≠ (j:Int)):qof c i (k + 1) L:=by
 refine ⟨h.1,fun j x hj=>?_⟩;obtain ⟨h1,h2,h3⟩:=h.2 j x hj;refine ⟨h1,h2,?_⟩;rw [List.drop_eq_getElem_cons hk] at h3;have hjl:j < c.n.length:=by rw [<- h.1]; exact (List.getElem?_eq_some_iff.1 hj).1
 simp only [qph,if_neg (hx j hjl)] at h3;exact h3
theorem qof.add {c:Ci} {i k:Nat} {L:Fam} (h:qof c i k L) (hk:k < (c.n.getD i default).i.length) {m:Nat} {x:Option (Nat × List V)} (hm:L[m]? = some x) (hx:(c.n.getD i default).i[k] = (m:Int)) (g:Nat):qof c i (k + 1) (L.set m (some (g,qbe x ++ [qnl i k]))):=by
 refine ⟨by simpa using h.1,fun j y hj=>?_⟩;rw [List.getElem?_set] at hj;by_cases hjm:m = j
 ·subst hjm;have hl:m < L.length:=(List.getElem?_eq_some_iff.1 hm).1;simp [hl] at hj;subst hj;obtain ⟨h1,h2,h3⟩:=h.2 m x hm;refine ⟨.inr (by simp [qbe]),qbv h2 rfl,?_⟩;rw [List.drop_eq_getElem_cons hk] at h3;simp only [qph,if_pos hx] at h3;rw [<- h3];simp only [qbe.eq_2];simp
 ·rw [if_neg hjm] at hj;obtain ⟨h1,h2,h3⟩:=h.2 j y hj;refine ⟨h1,h2,?_⟩;rw [List.drop_eq_getElem_cons hk] at h3;have:¬ (c.n.getD i default).i[k] = (j:Int):=by rw [hx]; omega
  simp only [qph,if_neg this] at h3;exact h3
theorem qof.len {c:Ci} {i k:Nat} {L:Fam} (h:qof c i k L) {m:Nat} {x:Option (Nat × List V)} (hm:L[m]? = some x):(qbe x).length≤(qfp m c.n 0).length:=by
 obtain ⟨h1,h2,h3⟩:=h.2 m x hm;rw [<- h3]; simp
def q22 (sz:Nat):Option (Nat × List V)->Option Blk
 | some (g,l)=>some (.row g sz l)
 | none=>none
theorem qg9 (sz b:Nat) (L:Fam) (i:Nat) {x:Option (Nat × List V)} (h:L[i]? = some x):lk (qhk sz b L) (b + i) = q22 sz x:=by
 obtain ⟨h1,h2⟩:=List.getElem?_eq_some_iff.1 h;rw [q1b sz b L i h1,h2];cases x <;> rfl
theorem qn5 (sz b:Nat) (L:Fam) (h:Hp) (hk:∀ (i g:Nat) l,L[i]? = some (some (g,l))->lk h (b + i) = some (.row g sz l)):Sub (qhk sz b L) h:=
 qys sz b L h fun i hi g l he=>hk i g l (by rw [jf4 hi,he])
theorem qjh {sz b:Nat} {L:Fam} {h:Hp} {m g:Nat} {l:List V} (hm:lk h (b + m) = some (.row g sz l)) (ho:∀ (i g:Nat) l,i ≠ m->L[i]? = some (some (g,l))->lk h (b + i) = some (.row g sz l)):Sub (qhk sz b (L.set m (some (g,l)))) h:=by
 refine qn5 _ _ _ _ fun i g2 l2 hi=>?_;rw [List.getElem?_set] at hi;by_cases e:m = i
 ·subst e;by_cases hl:m < L.length
  ·simp [hl] at hi;obtain ⟨rfl,rfl⟩:=hi;exact hm
  ·simp [hl] at hi
 ·rw [if_neg e] at hi;exact ho i g2 l2 (fun q=>e q.symm) hi
theorem quf {sz base:Nat} {L:Fam} {b b' g:Nat} {s:Nat->Nat->Nat × Nat} {i g2:Nat} {l:List V} (hne:b ≠ b') (h1:¬ base + i = b') (h2:¬ base + i = b) (hi:L[i]? = some (some (g2,l))) (hp:jd6 l = true):lk (mvH s b b' g (qhk sz base L)) (base + i) = some (.row g2 sz l):=by
 rw [qzl hne,if_neg h1,if_neg h2,qg9 sz base L i hi];simp [q22,qaz hp]
theorem qbw {sz b:Nat} {L:Fam} {h:Hp} (hk:∀ t,b≤t->lk h t = lk (qhk sz b L) t):Sub (qhk sz b L) h:=
 qn5 _ _ _ _ fun i g l hi=>by rw [hk _ (by omega),qg9 sz b L i hi]; rfl
def qlt (b i:Nat) (L:Fam):List V:=qe4 b (L.take i) ++ qh3 (b + i) (L.drop i)
theorem qul (b:Nat) (L:Fam):qlt b 0 L = qh3 b L:=by simp [qlt,qe4]
theorem qxs (b:Nat) (L:Fam):qlt b L.length L = qe4 b L:=by simp [qlt,qh3]
theorem qpb (b i:Nat) (L:Fam) (h:i≤L.length):(qlt b i L).length = L.length:=by simp [qlt,qdw,qb8]; omega
theorem qxt (b i:Nat) (L:Fam) {x:Option (Nat × List V)} (h:L[i]? = some x) (hi:i < (qlt b i L).length):(qlt b i L)[i] = qbt (b + i) x:=by
 obtain ⟨h1,h2⟩:=List.getElem?_eq_some_iff.1 h;have e:(qe4 b (L.take i)).length = i:=by simp [qdw]; omega
 have:=qqe (b + i) (L.drop i) 0 (x:=x) (by simpa using h) (by rw [qb8]; simp; omega)
 have k:(qlt b i L)[i]? = some (qbt (b + i) x):=by
  unfold qlt;rw [List.getElem?_append_right (by omega),e,Nat.sub_self,jf4 (by rw [qb8]; simp; omega),this,Nat.add_zero]
 rw [jf4 hi] at k;exact Option.some.inj k
theorem qxu (b i:Nat) (L:Fam) {x:Option (Nat × List V)} (h:L[i]? = some x):(qlt b i L).set i (qw2 (b + i) x) = qlt b (i + 1) L:=by
 obtain ⟨h1,h2⟩:=List.getElem?_eq_some_iff.1 h;have e:(qe4 b (L.take i)).length = i:=by simp [qdw]; omega
 unfold qlt;rw [List.set_append_right _ _ (by omega),e,Nat.sub_self,List.drop_eq_getElem_cons h1];simp only [qh3,List.set_cons_zero];rw [List.take_succ_eq_append_getElem h1,qmz,h2];simp [qe4,Nat.add_assoc];rw [Nat.min_eq_left (by omega)]
theorem qtx {sz:Nat} (b:Nat) (L:Fam) (h:Hp) (n:Nat) (hk:∀ (i g:Nat) l,L[i]? = some (some (g,l))->lk h (b + i) = some (.row g sz l)/\jd6 l = true):(qe4 b L).map (frz h (n + 1)) = L.map fun x=>qi2 (qbe x):=by
 induction L generalizing b with
 | nil=>rfl
 | cons x r ih=>
  simp only [qe4,List.map_cons];rw [ih (b + 1) fun i g l hi=>by have:=hk (i + 1) g l (by simpa using hi); rwa [show b + (i + 1) = b + 1 + i by omega] at this];congr 1
  cases x with
  | none=>simp [qw2,qi2,qbe]
  | some p=>
   obtain ⟨g,l⟩:=p;obtain ⟨q1,q2⟩:=hk 0 g l (by simp);rw [Nat.add_zero] at q1;simp only [qw2];rw [qd3 q1 (by omega),List.drop_zero,List.take_length,qer h n q2];rfl
theorem qrd {K:V->Hp->Prop} {h:Hp} (h2:Hp) (hs:Sub h2 h) (hk:K (.sl [] (some 0)) h2):qan Tryz.prog gl0 136 [.nil] h K:=by
 refine jfx q5w rfl ?_;simp [q96,jdx];exact .done (by simpa using ⟨h2,hs,hk⟩)
theorem qre {K:V->Hp->Prop} {h:Hp} {b g l:Nat} {cap:Option Nat} {es:List V} (hb:lk h b = some (.row g 2 es)) (h2:Hp) (hs:Sub h2 h) (hk:K (.ref b g 0 l (some l)) h2):qan Tryz.prog gl0 136 [.ref b g 0 l cap] h K:=by
 refine jfx q5w rfl ?_;simp [q96,jdx,hb];exact .done (by simpa using ⟨h2,hs,hk⟩)
theorem qxd (c:Ci) (hl:c.n.length < 1000000) (hin:∀ n ∈ c.n,n.i.length < 10000000) (hq:∀ j,(qfp j c.n 0).length≤1000000000):qac Tryz.prog gl0 147 [c.v] (.sl (qlh c) (some c.n.length)):=by
 refine jfu 2 jbi rfl ?_;simp [i147,x147,Ci.v];intro gf gf2;have:c.n.length≤549755813888:=by omega
 simp [this];refine jfq (qgq c) (by simp) ?_;simp;generalize gf 1 = g1;generalize gf2 14 = g14;clear gf gf2
 refine jft (X:=Nat × Fam) (fun x=>[(20,.int .i64 (x.1:Int)),(19,.int .i64 (c.n.length:Int)),(18,.sl (c.n.map Nd.v) none),(4,.fn 212 [] [.iptr c.v 0]),(3,.ref 14 g14 0 c.n.length (some c.n.length)),(1,.ptr 1 g1 0 0)])
  (fun x=>(14,.row g14 1 (qh3 1000 x.2)) :: (1,.row g1 4 [c.v]) :: qhk 2 1000 x.2)
  (fun x=>x.1≤c.n.length/\qof c x.1 0 x.2) (fun x=>c.n.length - x.1) (0,List.replicate c.n.length none) ?_ ?_ ?_ ?_
 ·exact ⟨by simp,qof.start c⟩
 ·simp
 ·simp [qtq,qtp,Ci.v]
 ·rintro ⟨i,L⟩ ⟨h1,h2⟩;dsimp only at h1 h2;simp;refine jfr (fun hb=>?_) (fun hb=>?_)
  ·have hi:i < c.n.length:=jfy hb;have hw:IntKind.i64.wrap ((i:Int) + 1) = ((i + 1:Nat):Int):=by rw [qau] <;> omega
   have hni:=hin c.n[i] (jf3 hi);have hnd:c.n.getD i default = c.n[i]:=by simp [hi]
   simp [hi,Nd.v];intro gf6;generalize gf6 6 = g6
   refine je2 (X:=Nat × Fam) (fun x=>[(28,.int .i64 (x.1:Int)),(27,.int .i64 (c.n[i].i.length:Int)),(26,.sl (qde c.n[i].i) none),(5,.int .i64 (i:Int)),(20,.int .i64 (i:Int)),(19,.int .i64 (c.n.length:Int)),(18,.sl (c.n.map Nd.v) none),(4,.fn 212 [] [.iptr c.v 0]),(3,.ref 14 g14 0 c.n.length (some c.n.length)),(1,.ptr 1 g1 0 0)])
    (fun x=>(14,.row g14 1 (qh3 1000 x.2)) :: (1,.row g1 4 [c.v]) :: qhk 2 1000 x.2)
    (fun x=>x.1≤c.n[i].i.length/\qof c i x.1 x.2) (fun x=>c.n[i].i.length - x.1) ?_ ?_
   ·refine .done ⟨(0,L),⟨by simp,h2⟩,by simp,?_⟩;simp;exact qbw fun t ht=>by simp [show ¬ t = 6 by omega,show ¬ t = 14 by omega,show ¬ t = 1 by omega]
   ·clear h2 L;rintro ⟨k,L⟩ ⟨h3,h2⟩;dsimp only at h2 h3;simp;refine jfr (fun hc=>?_) (fun hc=>?_)
    ·have hk:k < c.n[i].i.length:=jfy hc;have hwk:IntKind.i64.wrap ((k:Int) + 1) = ((k + 1:Nat):Int):=by rw [qau] <;> omega
     simp [hk,qbq];refine jfq (qhc c _) (by simp [Ci.v]) ?_;simp;refine jfr (fun ho=>?_) (fun ho=>?_)
     ·simp at ho;obtain ⟨m,hm⟩:∃ m:Nat,c.n[i].i[k] = (m:Int):=⟨c.n[i].i[k].toNat,by omega⟩;have hml:m < c.n.length:=by omega
      have hmL:m < L.length:=by rw [h2.1]; exact hml
      obtain ⟨x,hx⟩:∃ x,L[m]? = some x:=⟨_,jf4 hmL⟩;have hk':k < (c.n.getD i default).i.length:=by rw [hnd]; exact hk
      have hm':(c.n.getD i default).i[k] = (m:Int):=by simp only [hnd]; exact hm
      have hlk:=qg9 2 1000 L m hx;have hadd:=fun g=>h2.add hk' hx hm' g;have hlen:=h2.len hx;have hqm:=hq m;have hpu:=(h2.2 m _ hx).2.1;have hfv:m < (qh3 1000 L).length:=by rw [qb8]; exact hmL
      have hget:=qqe 1000 L m hx hfv;rw [hm];simp [hml,hget,qb8,hmL]
      cases x with
      | none=>
       simp [qbt,hwk,hml,hget,qb8,hmL];refine fun gf1 gf2=>.move 47 (1000 + m) _ (by omega) (by simp; rfl) fun g2=>.done ⟨k + 1,L.set m (some (g2,[qnl i k])),?_⟩;have n1:¬ 1000 + m = 47:=by omega
       have n2:¬ 1000 + m = 14:=by omega
       have n3:¬ 1000 + m = 1:=by omega
       have n4:¬ 14 = 1000 + m:=by omega
       have n5:¬ 1 = 1000 + m:=by omega
       have n6:¬ 46 = 1000 + m:=by omega
       have n7:¬ 47 = 1000 + m:=by omega
       refine ⟨⟨hk,hadd g2⟩,?_⟩;have hfr:=q00 (mvS 47 (gf2 47) (1000 + m) g2) 1000 L (q5r _ _ _ _ _ (by omega));simp [n4,n5,n6,n7,qa0 _ (qfk _),qa0 _ (qeb _),qcy _ (qs6 c),List.map_set,hfr,<- qqd,qbt,qnl];refine ⟨qjh (by simp [n2]) fun j g3 l3 hj hL=>?_,by omega⟩;have q1:¬ 1000 + j = 1000 + m:=by omega
       have q2:¬ 1000 + j = 14:=by omega
       have q3:¬ 1000 + j = 46:=by omega
       have q4:¬ 1000 + j = 1:=by omega
       have q5:¬ 1000 + j = 47:=by omega
       have q6:=(h2.2 j _ hL).2.1;simp [hj,q2,q3,q4,quf (s:=mvS 47 (gf2 47) (1000 + m) g2) (g:=g2) (b:=47) (by omega) q1 q5 hL q6]
      | some p=>
       obtain ⟨g,l⟩:=p;simp only [qbe] at hlen hpu;have hle:l.length + 1≤274877906944:=by omega
       have n1:¬ 1000 + m = 46:=by omega
       have n2:¬ 1000 + m = 14:=by omega
       have n3:¬ 1000 + m = 1:=by omega
       have n4:¬ 14 = 1000 + m:=by omega
       simp [qbt,hwk,hml,hget,qb8,hmL,hlk,q22,hle,n1,n2,n3,n4];refine fun gf1 gf2=>.done ⟨k + 1,L.set m (some (gf2 (1000 + m),l ++ [qnl i k])),?_⟩;refine ⟨⟨hk,hadd _⟩,?_⟩;have n5:¬ 1 = 1000 + m:=by omega
       simp [n5,<- qqd,qbt,qnl];refine ⟨qjh (by simp [n2]) fun j g3 l3 hj hL=>?_,by omega⟩;have q1:¬ 1000 + j = 1000 + m:=by omega
       have q2:¬ 1000 + j = 14:=by omega
       have q3:¬ 1000 + j = 46:=by omega
       have q4:¬ 1000 + j = 1:=by omega
       simp [hj,q2,q3,q4,qg9 2 1000 L j hL,q22]
     ·simp at ho;simp [hwk];have hk':k < (c.n.getD i default).i.length:=by rw [hnd]; exact hk
      refine .done ⟨k + 1,L,⟨hk,h2.skip hk' ?_⟩,by simp,?_,by omega⟩
      ·intro j hj e;simp only [hnd] at e;omega
      ·simp;exact qbw fun t ht=>by simp [show ¬ t = 14 by omega,show ¬ t = 1 by omega]
    ·have hk:¬ k < c.n[i].i.length:=jfz hc;simp [hw];refine ⟨i + 1,L,⟨by omega,h2.next (by rw [hnd]; omega) hi⟩,rfl,⟨rfl,?_⟩,by omega⟩;exact qbw fun t ht=>by simp [show ¬ t = 14 by omega,show ¬ t = 1 by omega]
  ·have hi:i = c.n.length:=by have:=jfz hb; omega
   subst hi;simp
   refine jft (X:=Nat) (fun x=>[(53,.int .i64 (x:Int)),(52,.int .i64 (c.n.length:Int)),(51,.ref 14 g14 0 c.n.length (some c.n.length)),(3,.ref 14 g14 0 c.n.length (some c.n.length))])
    (fun x=>(14,.row g14 1 (qlt 1000 x L)) :: qhk 2 1000 L)
    (fun x=>x≤c.n.length) (fun x=>c.n.length - x) 0 ?_ ?_ ?_ ?_
   ·simp
   ·simp
   ·simp [qul];exact qbw fun t ht=>by simp [show ¬ t = 14 by omega,show ¬ t = 1 by omega]
   ·rintro i h3;simp;refine jfr (fun hb=>?_) (fun hb=>?_)
    ·have hi:i < c.n.length:=jfy hb;have hiL:i < L.length:=by rw [h2.1]; exact hi
     have hw:IntKind.i64.wrap ((i:Int) + 1) = ((i + 1:Nat):Int):=by rw [qau] <;> omega
     obtain ⟨x,hx⟩:∃ x,L[i]? = some x:=⟨_,jf4 hiL⟩;have hml:(qlt 1000 i L).length = c.n.length:=by rw [qpb _ _ _ (by omega),h2.1]
     have hget:=qxt 1000 i L hx (by rw [hml]; exact hi);have hlk:=qg9 2 1000 L i hx;have hset:=qxu 1000 i L hx;simp [hi,hml,hget]
     cases x with
     | none=>
      simp [qbt];have hsub:Sub ((14,Blk.row g14 1 (qlt 1000 i L)) :: qhk 2 1000 L) ((14,Blk.row g14 1 (qlt 1000 i L)) :: qhk 2 1000 L):=⟨by simp,qbw fun t ht=>by simp [show ¬ t = 14 by omega]⟩;refine qrd _ hsub ?_;simp [hi,hml,hget,qbt];refine ⟨i + 1,by omega,hw,⟨hset,?_⟩,by omega⟩;exact qbw fun t ht=>by simp [show ¬ t = 14 by omega]
     | some p=>
      obtain ⟨g,l⟩:=p;have n2:¬ 1000 + i = 14:=by omega
      have hsub:Sub ((14,Blk.row g14 1 (qlt 1000 i L)) :: qhk 2 1000 L) ((14,Blk.row g14 1 (qlt 1000 i L)) :: qhk 2 1000 L):=⟨by simp,qbw fun t ht=>by simp [show ¬ t = 14 by omega]⟩;simp [qbt];refine qre (es:=l) (by simp [n2,hlk,q22]) _ hsub ?_;simp [hi,hml,hget,qbt];refine ⟨i + 1,by omega,hw,⟨hset,?_⟩,by omega⟩;exact qbw fun t ht=>by simp [show ¬ t = 14 by omega]
    ·have hi:i = L.length:=by have:=jfz hb; have:=h2.1; omega
     subst hi;simp [-frz];have hcl:(qe4 1000 L).length = c.n.length:=by rw [qdw,h2.1]
     rw [qxs,qd3 (es:=qe4 1000 L) (sz:=1) (by simp) (by rw [hcl]; omega),List.drop_zero,jf2 (by rw [hcl]; exact jf5 _),qtx (sz:=2) 1000 L _ _ fun i g l hi=>⟨by simp [show ¬ 1000 + i = 14 by omega,qg9 2 1000 L i hi,q22],(h2.2 i _ hi).2.1⟩];congr 1;unfold qlh;refine List.ext_getElem? fun i=>?_;simp only [List.getElem?_map]
     cases hx:L[i]? with
     | none=>
      have:¬ i < c.n.length:=by rw [<- h2.1]; simpa using hx
      simp [this]
     | some x=>
      have hi:i < c.n.length:=by rw [<- h2.1]; exact (List.getElem?_eq_some_iff.1 hx).1
      have hx3:=(h2.2 i x hx).2.2;have e1:c.n.getD c.n.length default = default:=by simp [jf0]
      have e2:(default:Nd).i = []:=rfl;rw [e1,e2,List.drop_eq_nil_of_le (show c.n.length≤c.n.length + 1 by omega)] at hx3;simp [qph,qfp] at hx3;simp [hi,qi2,hx3]
end
end Go.Proofs.YtpaopccohkldlaaGreatDoor
