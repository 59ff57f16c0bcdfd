/- Lemmas. Conditions: none. -/
import Derived.Test.YtpaopccohkldlaaGreatDoorXP
set_option linter.all false
namespace Go.Proofs.YtpaopccohkldlaaGreatDoor
section
open Go
def gl0:Fr:=[(1,.iptr (.agg ([0,0,0,0,0,0,1,1,1,1,2,16,2,16,2,16,2,16,2,16,2,16,3,3,2,2,1,16,1,1,0,0].map (V.int .i64))) 0),(4,.iptr (.agg [.int .i64 1,.int .i64 1]) 0),(3,.iptr (.agg [.int .i64 1073741824,.int .i64 1073741824]) 0),(0,.iptr (.agg [.int .i64 (-1),.int .i64 0,.int .i64 0]) 0)]
theorem qfk:lk gl0 0 = some (.iptr (.agg [.int .i64 (-1),.int .i64 0,.int .i64 0]) 0):=rfl
end
section
open Go
theorem q5k (k:Int):qac Tryz.prog gl0 82 [.int .u8 k] (.bool (decide (1≤k/\k≤13))):=by
 refine jo3 2 ok82 rfl ?_
 repeat' (first | refine jo0 (fun _=>?_) (fun _=>?_) | (intro _) | simp [*,i82,x82])
theorem jcr (s:List UInt8) (c:Int) (h:0≤c/\c < 256):qac Tryz.prog gl0 245 [.str s,.int .u8 c] (.int .i64 (qjv c s 0)):=by
 refine jo3 2 jla rfl ?_;simp [i245,x245,nop,h]
theorem q70 (s:List UInt8) (c:Int) (h:0≤c/\c < 256):qac Tryz.prog gl0 240 [.str s,.int .u8 c] (.int .i64 (qjv c s 0)):=by
 refine jo3 2 jk8 rfl ?_;simp [i240,x240];refine joz (jcr s c h) rfl ?_;simp
theorem qpk {x:Int} (h0:0≤x) (h1:x < 256):IntKind.u8.wrap x = x:=by
 simp [IntKind.wrap,IntKind.bits,IntKind.signed]; omega
theorem jcs (s:List UInt8) (r:Int) (h:0≤r/\r < 128):qac Tryz.prog gl0 238 [.str s,.int .i32 r] (.int .i64 (qjv r s 0)):=by
 have hw:IntKind.u8.wrap r = r:=qpk h.1 (by omega);refine jo3 2 jk6 rfl ?_;simp [i238,x238,h,hw];refine joz (q70 s r ⟨h.1,by omega⟩) rfl ?_;simp
theorem q7f (s:List UInt8) (r:Int) (h:0≤r/\r < 128):qac Tryz.prog gl0 229 [.str s,.int .i32 r] (.bool (decide (0≤qjv r s 0))):=by
 refine jo3 2 jk0 rfl ?_;simp [i229,x229];refine joz (jcs s r h) rfl ?_;simp
def jbk (r:Int):Bool:=decide (r≤32) || decide (126 < r) || decide (0≤qjv r [40,41,61,44,35] 0)
theorem jhu (r:Int):qac Tryz.prog gl0 228 [.int .i32 r] (.bool (jbk r)):=by
 refine jo3 2 jkz rfl ?_;by_cases h1:r≤32
 ·simp [jfx,jhb,h1,jbk]
 ·by_cases h2:126 < r
  ·simp [jfx,jhb,h1,h2,jbk]
  ·simp [jfx,jhb,h1,h2,jbk];refine joz (q7f _ r ⟨by omega,by omega⟩) rfl ?_;simp
def qdv:Nat->List UInt8->Nat->Int
 | 0,_,_=>-1
 | n + 1,s,pos=>if pos < s.length then (if jbk (Utf8.decode ⟨s.toArray⟩ pos).1 = true then (pos:Int) else qdv n s (pos + (Utf8.decode ⟨s.toArray⟩ pos).2)) else -1
theorem q7h (s:List UInt8) (pos:Nat):1≤(Utf8.decode ⟨s.toArray⟩ pos).2:=by
 simp only [Utf8.decode]
 repeat' split
 all_goals simp
theorem q2y (s:List UInt8):qac Tryz.prog gl0 244 [.str s,.fn 228 [] [],.bool true] (.int .i64 (qdv (s.length + 1) s 0)):=by
 obtain ⟨r,hr⟩:∃ r,qdv (s.length + 1) s 0 = r:=⟨_,rfl⟩;rw [hr];refine jo3 2 jk9 rfl ?_;simp [i244,x244,nop];intro gf
 refine jo2 (X:=Nat × Nat) (fun x=>[(0,.str s),(1,.fn 228 [] []),(2,.bool true),(10,.own 10 (gf 10))]) (fun x=>[(10,.siter (gf 10) s x.1)])
  (fun x=>s.length < x.1 + x.2/\qdv x.2 s x.1 = r) (fun x=>x.2) (0,s.length + 1) ⟨by simp,hr⟩ (by simp) (by simp) ?_
 rintro ⟨pos,fuel⟩ ⟨h2,h3⟩;dsimp only at h2 h3
 cases fuel with
 | zero=>
  have hp:¬ pos < s.length:=by omega
  simp [nop,hp,<- h3,qdv]
 | succ fuel=>
  have hd:=q7h s pos;by_cases hp:pos < s.length
  ·simp [nop,hp];refine joz (jhu _) rfl ?_;simp;refine jo0 (fun hb=>?_) (fun hb=>?_)
   ·simp [<- h3,qdv,hp,hb]
   ·simp;refine ⟨_,fuel,⟨?_,?_⟩,rfl,by omega⟩
    ·omega
    ·rw [<- h3]; simp [qdv,hp,hb]
  ·simp [nop,hp,<- h3,qdv]
theorem q2v (s:List UInt8):qac Tryz.prog gl0 239 [.str s,.fn 228 [] []] (.int .i64 (qdv (s.length + 1) s 0)):=by
 refine jo3 2 jk7 rfl ?_;simp [i239,x239];refine joz (q2y s) rfl ?_;simp
theorem qsf (s:List UInt8):qac Tryz.prog gl0 230 [.str s,.fn 228 [] []] (.bool (decide (0≤qdv (s.length + 1) s 0))):=by
 refine jo3 2 jk1 rfl ?_;simp [i230,x230];refine joz (q2v s) rfl ?_;simp
def qzi (s:List UInt8):Bool:=decide (s ≠ []) && decide (s.length≤32) && !(decide (0≤qdv (s.length + 1) s 0))
theorem q24 (s:List UInt8):qac Tryz.prog gl0 209 [.str s] (.bool (qzi s)):=by
 have hc:=qsf s;refine jo3 2 jkn rfl ?_;unfold qzi;generalize decide (0≤qdv (s.length + 1) s 0) = q at *;simp [i209,x209];refine jo0 (fun h1=>?_) (fun h1=>?_)
 ·simp [h1]
 ·simp [h1];refine jo0 (fun h2=>?_) (fun h2=>?_)
  ·simp [h2];refine joz hc rfl ?_;simp
  ·simp [h2]
theorem pureL_map {α:Type} {f:α->V} (hf:∀ x,(f x).pure = true):∀ l:List α,jm8 (l.map f) = true
 | []=>rfl
 | x :: l=>by simp [jm8,hf x,pureL_map hf l]
@[simp] theorem jd7 (l:List (List UInt8)):jm8 (l.map .str) = true:=pureL_map (fun _=>rfl) l
end
section
open Go
def qmb (sz:Nat) (xs:List V) (v:V) (h:Hp):Prop:=(xs = []/\v = .sl [] (some 0)/\h = [])∨∃ g,v = .ref 0 g 0 xs.length (some xs.length)/\h = [(0,.row g sz xs)]
end
section
open Go
def qc8 (l:List Int):List V:=l.map (.int .i64)
@[simp] theorem q72 (l:List Int):(qc8 l).length = l.length:=by simp [qc8]
@[simp] theorem qdr (l:List Int):jm8 (qc8 l) = true:=pureL_map (fun _=>rfl) l
structure Nd where
 k:Int
 i:List Int
 a:Int
 b:Int
 deriving Inhabited
def Nd.v (n:Nd):V:=.agg [.int .u8 n.k,.sl (qc8 n.i) none,.int .i64 n.a,.int .i64 n.b]
structure Md where
 a:List Int
 d:List Int
 w:Int
 deriving Inhabited
def Md.v (n:Md):V:=.agg [.sl (qc8 n.a) none,.sl (qc8 n.d) none,.int .i64 n.w]
structure Ci where
 n:List Nd
 s:List (List UInt8)
 m:List Md
 o:List Int
def Ci.v (c:Ci):V:=.agg [.sl (c.n.map Nd.v) none,.sl (c.s.map .str) none,.sl (c.m.map Md.v) none,.sl (qc8 c.o) none]
@[simp] theorem qeo (l:List Nd):jm8 (l.map Nd.v) = true:=pureL_map (fun x=>by simp [Nd.v]) l
@[simp] theorem qfp (l:List Md):jm8 (l.map Md.v) = true:=pureL_map (fun x=>by simp [Md.v]) l
theorem qgc {a b:List V} (h:jm8 a = true) (k:jm8 b = true):jm8 (a ++ b) = true:=by
 rw [jnf] at *;intro v hv;rcases List.mem_append.1 hv with q | q
 ·exact h v q
 ·exact k v q
theorem qcj {l:List V} (h:jm8 l = true) {f:Nat->Nat->Nat->Nat->Option Nat->V} {p:Nat->Nat->Nat->Nat->V}:(l.map fun x=>V.mapR f p x) = l:=by
 have:=qah (f:=f) (p:=p) l h;rw [qco] at this; exact this
def qbr (b:Nat):Option (Nat × List V)->V
 | none=>.nil
 | some (g,l)=>.ref b g 0 l.length none
def qbt (b sz:Nat):Option (Nat × List V)->Hp
 | none=>[]
 | some (g,l)=>[(b,.row g sz l)]
def qa8:Option (Nat × List V)->List V
 | none=>[]
 | some (_,l)=>l
theorem qaz (l:List Int) (i:Nat) (h:i < (qc8 l).length):(qc8 l)[i] = .int .i64 (l[i]'(by simpa using h)):=by simp [qc8]
end
section
open Go
end
section
open Go
def qmh (x:Int):List Int->Nat->Int
 | [],_=>-1
 | y :: r,i=>if x = y then (i:Int) else qmh x r (i + 1)
theorem qqf (x:Int):∀ (l:List Int) (i:Nat),(0≤qmh x l i)↔x ∈ l
 | [],i=>by simp [qmh]
 | y :: l,i=>by
  by_cases h:x = y
  ·simp [qmh,h]
  ·simp [qmh,h,qqf x l (i + 1)]
theorem q2w (x:Int) (l:List Int) (cap:Option Nat) (hl:l.length < 1000000000000):qac Tryz.prog gl0 166 [.sl (l.map (.int .u8)) cap,.int .u8 x] (.int .i64 (qmh x l 0)):=by
 obtain ⟨q,hq⟩:∃ r,qmh x l 0 = r:=⟨_,rfl⟩;rw [hq];refine jo3 2 jj4 rfl ?_;simp [i166,x166]
 refine jo2 (X:=Nat) (fun i=>[(8,.int .i64 (i:Int)),(7,.int .i64 (l.length:Int)),(0,.sl (l.map (.int .u8)) cap),(1,.int .u8 x)]) (fun _=>[])
  (fun i=>i≤l.length/\qmh x (l.drop i) i = q) (fun i=>l.length - i) 0 ⟨by simp,by simpa using hq⟩ (by simp) (by simp) ?_
 rintro i ⟨h2,h3⟩;simp;refine jo0 (fun h1=>?_) (fun h1=>?_)
 ·have h1':i < l.length:=jo7 h1;have hw:IntKind.i64.wrap ((i:Int) + 1) = ((i + 1:Nat):Int):=by rw [qat] <;> omega
  rw [List.drop_eq_getElem_cons h1'] at h3;simp only [qmh] at h3;simp [h1'];refine jo0 (fun h4=>?_) (fun h4=>?_)
  ·rw [if_pos (jo7 h4)] at h3;simp [h3]
  ·rw [if_neg (jo8 h4)] at h3;simp [hw];exact ⟨i + 1,⟨h1',h3⟩,rfl,by omega⟩
 ·have h1':i = l.length:=by have:=jo8 h1; omega
  subst h1';simp [qmh] at h3;simp [h3]
@[simp] theorem jgl (l:List Int):jm8 (l.map (.int .u8)) = true:=pureL_map (fun _=>rfl) l
theorem qio (x:Int) (l:List Int) (cap:Option Nat) (hl:l.length < 1000000000000):qac Tryz.prog gl0 130 [.sl (l.map (.int .u8)) cap,.int .u8 x] (.bool (decide (x ∈ l))):=by
 refine jo3 2 jjl rfl ?_;simp [i130,x130];refine joz (q2w x l cap hl) (by simp) ?_;simp [qqf]
def qj8 (ks:List Int):List Nd->Nat->List V
 | [],_=>[]
 | n :: r,i=>if n.k ∈ ks then .int .i64 (i:Int) :: qj8 ks r (i + 1) else qj8 ks r (i + 1)
theorem jiy (c:Ci) (ks:List Int) (cap:Option Nat) (hl:c.n.length < 1000000) (hk:ks.length < 1000000000000):qbl Tryz.prog gl0 88 [c.v,.sl (ks.map (.int .u8)) cap] (qmb 1 (qj8 ks c.n 0)):=by
 refine jo5 ok88 rfl ?_;obtain ⟨q,hq⟩:∃ r,qj8 ks c.n 0 = r:=⟨_,rfl⟩;rw [hq];simp [i88,x88,Ci.v];intro gf
 refine jo2 (X:=Nat × Option (Nat × List V)) (fun x=>[(11,.int .i64 (x.1:Int)),(10,.int .i64 (c.n.length:Int)),(9,.sl (c.n.map Nd.v) none),(5,qbr 23 x.2),(1,.sl (ks.map (.int .u8)) cap)])
  (fun x=>qbt 23 1 x.2)
  (fun x=>x.1≤c.n.length/\(x.2 = none∨qa8 x.2 ≠ [])/\(qa8 x.2).length≤x.1/\jm8 (qa8 x.2) = true/\qa8 x.2 ++ qj8 ks (c.n.drop x.1) x.1 = q) (fun x=>c.n.length - x.1) (0,none) ⟨by simp,by simp,by simp [qa8],by simp [qa8],by simpa [qa8] using hq⟩ (by simp [qbr]) (by simp [qbt]) ?_
 rintro ⟨i,acc⟩ ⟨h1,h2,h3,h4,h5⟩;dsimp only at h1 h2 h3 h4 h5;simp;refine jo0 (fun hb=>?_) (fun hb=>?_)
 ·have hi:i < c.n.length:=jo7 hb;have hw:IntKind.i64.wrap ((i:Int) + 1) = ((i + 1:Nat):Int):=by rw [qat] <;> omega
  rw [List.drop_eq_getElem_cons hi] at h5;simp only [qj8] at h5;simp [hi,Nd.v];intro gf2;refine joz (qio _ ks cap hk) (by simp) ?_;simp;refine jo0 (fun hk=>?_) (fun hk=>?_)
  ·rw [if_pos (jo7 hk)] at h5
   cases acc with
   | none=>
    simp [qbr,qbt,hw];refine fun gf1 gf2=>⟨i + 1,some (gf2 23,[.int .i64 i]),?_⟩;simp [qa8] at h5 ⊢;exact ⟨⟨by omega,h5⟩,by omega⟩
   | some gl=>
    obtain ⟨g,l⟩:=gl;simp only [qa8] at h3 h4 h5 h2;have hle:l.length + 1≤274877906944:=by omega
    simp [qbr,qbt,hw,hle];refine fun gf1 gf2=>⟨i + 1,some (gf2 23,l ++ [.int .i64 i]),?_⟩;simp [qa8,h5,List.append_assoc];exact ⟨⟨by omega,by omega,qgc h4 rfl⟩,by omega⟩
  ·rw [if_neg (jo8 hk)] at h5;simp [hw];exact ⟨i + 1,acc,⟨by omega,h2,by omega,h4,h5⟩,⟨rfl,rfl⟩,by cases acc <;> simp [qbt],by omega⟩
 ·have hi:¬ i < c.n.length:=jo8 hb;rw [List.drop_eq_nil_of_le (by omega)] at h5;simp only [qj8,List.append_nil] at h5
  cases acc with
  | none=>
   simp [qa8] at h5;subst h5;simp [qbr,qbt];refine jo6 q8x rfl ?_;simp [jfu,jg8];exact .done (by simpa using ⟨[],trivial,.done (by simp [qmb])⟩)
  | some gl=>
   obtain ⟨g,l⟩:=gl;simp only [qa8] at h3 h4 h5 h2;subst h5;simp [qbr,qbt];refine jo6 q8x rfl ?_;simp [jfu,jg8];refine .done ?_;simp only [lk,if_true];refine ⟨[(23,Blk.row g 1 l)],by simp,.move 23 0 _ (by simp) (by simp; rfl) fun g2=>.done ?_⟩;simp [qae h4,qmb]
theorem qdc (ks:List Int):∀ (l:List Nd) (i:Nat),jne (qj8 ks l i) = true/\jm8 (qj8 ks l i) = true
 | [],i=>⟨rfl,rfl⟩
 | n :: r,i=>by
  obtain ⟨h1,h2⟩:=qdc ks r (i + 1);simp only [qj8];split
  ·exact ⟨by simp [jne,V.noG,h1],by simp [jm8,V.pure,h2]⟩
  ·exact ⟨h1,h2⟩
theorem q2z (c:Ci) (hl:c.n.length < 1000000):qbl Tryz.prog gl0 44 [c.v] (qmb 1 (qj8 [0] c.n 0)):=by
 obtain ⟨n1,n2⟩:=qdc [0] c.n 0;refine jo5 ok44 rfl ?_;simp [i44,x44,Ci.v];intro gf gf2;refine jnv 1 1000 (jiy c [0] (some 1) hl (by simp)) (by simp [Ci.v,qah]) (by simp) ?_;rintro v h' (⟨hq,rfl,rfl⟩ | ⟨g,rfl,rfl⟩)
 ·refine ⟨rfl,fun b k hb=>by simp [lk] at hb,fun gf=>?_⟩;simp;exact .done (by simpa using ⟨[],trivial,by simp [qmb,hq]⟩)
 ·refine ⟨rfl,fun b k hb=>?_,fun gf=>?_⟩
  ·simp only [lk] at hb;split at hb
   ·cases hb; exact n1
   ·cases hb
  ·simp [qae n2];refine .move 1000 0 _ (by simp) (by simp; rfl) fun g2=>.done ?_;simp [qae n2,qmb]
theorem q4p (c:Ci) (hl:c.n.length < 1000000):qbl Tryz.prog gl0 45 [c.v] (qmb 1 (qj8 [14] c.n 0)):=by
 obtain ⟨n1,n2⟩:=qdc [14] c.n 0;refine jo5 ok45 rfl ?_;simp [i45,x45,Ci.v];intro gf gf2;refine jnv 1 1000 (jiy c [14] (some 1) hl (by simp)) (by simp [Ci.v,qah]) (by simp) ?_;rintro v h' (⟨hq,rfl,rfl⟩ | ⟨g,rfl,rfl⟩)
 ·refine ⟨rfl,fun b k hb=>by simp [lk] at hb,fun gf=>?_⟩;simp;exact .done (by simpa using ⟨[],trivial,by simp [qmb,hq]⟩)
 ·refine ⟨rfl,fun b k hb=>?_,fun gf=>?_⟩
  ·simp only [lk] at hb;split at hb
   ·cases hb; exact n1
   ·cases hb
  ·simp [qae n2];refine .move 1000 0 _ (by simp) (by simp; rfl) fun g2=>.done ?_;simp [qae n2,qmb]
end
section
open Go
def qqv (i k:Nat):V:=.agg [.int .i64 (i:Int),.int .i64 (k:Int)]
def qs4 (w:Int) (i:Nat):List Int->Nat->List V
 | [],_=>[]
 | x :: r,k=>if x = w then qqv i k :: qs4 w i r (k + 1) else qs4 w i r (k + 1)
def qgw (w:Int):List Nd->Nat->List V
 | [],_=>[]
 | n :: r,i=>qs4 w i n.i 0 ++ qgw w r (i + 1)
end
section
open Go
theorem qn0 (c:Ci):c.v.pure = true:=by simp [Ci.v]
theorem qh7 (c:Ci):qac Tryz.prog gl0 184 [c.v] (.fn 212 [] [.iptr c.v 0]):=by
 refine jo3 2 jkd rfl ?_;simp [i184,x184,Ci.v,qah]
theorem qi6 (c:Ci) (i:Int):qac Tryz.prog gl0 212 [.int .i64 i,.iptr c.v 0] (.bool (decide (i < 0) || decide ((c.n.length:Int)≤i))):=by
 refine jo3 2 jkq rfl ?_;simp [i212,x212,Ci.v];refine jo0 (fun h1=>?_) (fun h1=>?_)
 ·simp [h1]
 ·simp [h1]
end
section
open Go
abbrev Fam:=List (Option (Nat × List V))
def qjh (sz b:Nat):Fam->Hp
 | []=>[]
 | x :: r=>qbt b sz x ++ qjh sz (b + 1) r
def qj4 (b:Nat):Fam->List V
 | []=>[]
 | x :: r=>qbr b x :: qj4 (b + 1) r
theorem qcg (b:Nat) (L:Fam):(qj4 b L).length = L.length:=by
 induction L generalizing b with
 | nil=>rfl
 | cons x r ih=>simp [qj4,ih]
theorem q2n (b:Nat) (L:Fam) (i:Nat) (h:i < L.length):(qj4 b L)[i]'(by rw [qcg]; exact h) = qbr (b + i) L[i]:=by
 induction L generalizing b i with
 | nil=>simp at h
 | cons x r ih=>
  cases i with
  | zero=>simp [qj4]
  | succ i=>
   simp only [qj4,List.getElem_cons_succ];rw [ih (b + 1) i (by simpa using h),show b + 1 + i = b + (i + 1) by omega]
theorem qss (sz b:Nat) (L:Fam) (t:Nat) (h:t < b):lk (qjh sz b L) t = none:=by
 induction L generalizing b with
 | nil=>rfl
 | cons x r ih=>
  have:=ih (b + 1) (by omega)
  cases x with
  | none=>simpa [qjh,qbt] using this
  | some p=>
   obtain ⟨g,l⟩:=p;have hne:¬ t = b:=by omega
   simp [qjh,qbt,lk,hne,this]
theorem q8d (sz b:Nat) (L:Fam) (i:Nat) (h:i < L.length):lk (qjh sz b L) (b + i) = match L[i] with | some (g,l)=>some (.row g sz l) | none=>none:=by
 induction L generalizing b i with
 | nil=>simp at h
 | cons x r ih=>
  cases i with
  | zero=>
   cases x with
   | none=>simpa [qjh,qbt] using qss sz (b + 1) r b (by omega)
   | some p=>obtain ⟨g,l⟩:=p; simp [qjh,qbt,lk]
  | succ i=>
   have:=ih (b + 1) i (by simpa using h);rw [show b + 1 + i = b + (i + 1) by omega] at this;have hne:¬ b + (i + 1) = b:=by omega
   cases x with
   | none=>simpa [qjh,qbt] using this
   | some p=>obtain ⟨g,l⟩:=p; simpa [qjh,qbt,lk] using this
theorem qt5 (b:Nat) (L:Fam) (i:Nat) (x:Option (Nat × List V)):(qj4 b L).set i (qbr (b + i) x) = qj4 b (L.set i x):=by
 induction L generalizing b i with
 | nil=>rfl
 | cons y r ih=>
  cases i with
  | zero=>simp [qj4]
  | succ i=>
   simp only [qj4,List.set_cons_succ];rw [<- ih (b + 1) i,show b + 1 + i = b + (i + 1) by omega]
end
section
open Go
theorem q0x {a b c:Hp}:Sub (a ++ b) c↔Sub a c/\Sub b c:=by
 induction a with
 | nil=>simp [Sub]
 | cons p r ih=>obtain ⟨k,v⟩:=p; simp [Sub,ih,and_assoc]
theorem q4s (sz b:Nat) (L:Fam) (h:Hp) (hk:∀ i (hi:i < L.length) g l,L[i] = some (g,l)->lk h (b + i) = some (.row g sz l)):Sub (qjh sz b L) h:=by
 induction L generalizing b with
 | nil=>trivial
 | cons x r ih=>
  simp only [qjh,q0x];refine ⟨?_,ih (b + 1) fun i hi g l he=>?_⟩
  ·cases x with
   | none=>trivial
   | some p=>obtain ⟨g,l⟩:=p; exact ⟨by simpa using hk 0 (by simp) g l rfl,trivial⟩
  ·have:=hk (i + 1) (by simpa using hi) g l (by simpa using he)
   rwa [show b + (i + 1) = b + 1 + i by omega] at this
end
section
open Go
theorem q7p (s:Nat->Nat->Nat × Nat) (b:Nat) (L:Fam) (h:∀ i g,b≤i->s i g = (i,g)):(qj4 b L).map (V.rn s) = qj4 b L:=by
 induction L generalizing b with
 | nil=>rfl
 | cons x r ih=>
  have h1:=ih (b + 1) fun i g hi=>h i g (by omega);simp only [qj4,List.map_cons,h1];congr 1
  cases x with
  | none=>rfl
  | some p=>obtain ⟨g,l⟩:=p; simp [qbr,V.rn,h b g (jpe _)]
theorem qq2 (b g b' g' base:Nat) (h:b < base):∀ i y,base≤i->mvS b g b' g' i y = (i,y):=by
 intro i y hi;have:¬ i = b:=by omega
 simp [mvS,this]
end
section
open Go
def qlb (L:List V):V:=.sl L (some L.length)
def q2d (b:Nat):Option (Nat × List V)->V
 | none=>.sl [] (some 0)
 | some (g,l)=>.ref b g 0 l.length (some l.length)
def qf4 (b:Nat):Fam->List V
 | []=>[]
 | x :: r=>q2d b x :: qf4 (b + 1) r
theorem qei (b:Nat) (L:Fam):(qf4 b L).length = L.length:=by
 induction L generalizing b with
 | nil=>rfl
 | cons x r ih=>simp [qf4,ih]
theorem qp5 (b:Nat) (L M:Fam):qf4 b (L ++ M) = qf4 b L ++ qf4 (b + L.length) M:=by
 induction L generalizing b with
 | nil=>rfl
 | cons x r ih=>simp [qf4,ih,show b + 1 + r.length = b + (r.length + 1) by omega]
def qob (c:Ci):List V:=(List.range c.n.length).map fun (j:Nat)=>qlb (qgw (j:Int) c.n 0)
theorem qt6 (b:Nat) (L:Fam) (i:Nat) {x:Option (Nat × List V)} (h:L[i]? = some x) (hi:i < (qj4 b L).length):(qj4 b L)[i] = qbr (b + i) x:=by
 obtain ⟨h1,h2⟩:=List.getElem?_eq_some_iff.1 h;rw [q2n b L i h1,h2]
theorem qyg (b n:Nat):qj4 b (List.replicate n none) = List.replicate n .nil:=by
 induction n generalizing b with
 | zero=>rfl
 | succ n ih=>simp [List.replicate_succ,qj4,qbr,ih]
theorem qyf (sz b n:Nat):qjh sz b (List.replicate n none) = []:=by
 induction n generalizing b with
 | zero=>rfl
 | succ n ih=>simp [List.replicate_succ,qjh,qbt,ih]
def qrt (c:Ci) (i k:Nat) (L:Fam):Prop:=L.length = c.n.length/\∀ (j:Nat) x,L[j]? = some x->(x = none∨qa8 x ≠ [])/\jm8 (qa8 x) = true/\qa8 x ++ (qs4 j i ((c.n.getD i default).i.drop k) k ++ qgw j (c.n.drop (i + 1)) (i + 1)) = qgw j c.n 0
theorem qrt.start (c:Ci):qrt c 0 0 (List.replicate c.n.length none):=by
 refine ⟨by simp,fun j x hj=>?_⟩;rw [List.getElem?_replicate] at hj;split at hj
 ·rename_i h;cases hj;refine ⟨.inl rfl,rfl,?_⟩
  cases hn:c.n with
  | nil=>rw [hn] at h; simp at h
  | cons a r=>simp [qa8,qgw]
 ·cases hj
theorem qrt.next {c:Ci} {i k:Nat} {L:Fam} (h:qrt c i k L) (hk:(c.n.getD i default).i.length≤k) (hi:i < c.n.length):qrt c (i + 1) 0 L:=by
 refine ⟨h.1,fun j x hj=>?_⟩;obtain ⟨h1,h2,h3⟩:=h.2 j x hj;refine ⟨h1,h2,?_⟩;rw [List.drop_eq_nil_of_le hk] at h3;rw [<- h3];congr 1;simp only [qs4,List.nil_append];by_cases hn:i + 1 < c.n.length
 ·rw [List.drop_eq_getElem_cons hn];simp [qgw,hn]
 ·have e1:c.n.getD (i + 1) default = default:=by simp [jo9,hn]
  have e2:(default:Nd).i = []:=rfl;rw [List.drop_eq_nil_of_le (show c.n.length≤i + 1 by omega),List.drop_eq_nil_of_le (show c.n.length≤i + 1 + 1 by omega),e1,e2];simp [qgw,qs4]
theorem qrt.skip {c:Ci} {i k:Nat} {L:Fam} (h:qrt c i k L) (hk:k < (c.n.getD i default).i.length) (hx:∀ j:Nat,j < c.n.length->(c.n.getD i default).i[k] ≠ (j:Int)):qrt c i (k + 1) L:=by
 refine ⟨h.1,fun j x hj=>?_⟩;obtain ⟨h1,h2,h3⟩:=h.2 j x hj;refine ⟨h1,h2,?_⟩;rw [List.drop_eq_getElem_cons hk] at h3;have hjl:j < c.n.length:=by rw [<- h.1]; exact (List.getElem?_eq_some_iff.1 hj).1
 simp only [qs4,if_neg (hx j hjl)] at h3;exact h3
theorem qrt.add {c:Ci} {i k:Nat} {L:Fam} (h:qrt c i k L) (hk:k < (c.n.getD i default).i.length) {m:Nat} {x:Option (Nat × List V)} (hm:L[m]? = some x) (hx:(c.n.getD i default).i[k] = (m:Int)) (g:Nat):qrt c i (k + 1) (L.set m (some (g,qa8 x ++ [qqv i k]))):=by
 refine ⟨by simpa using h.1,fun j y hj=>?_⟩;rw [List.getElem?_set] at hj;by_cases hjm:m = j
 ·subst hjm;have hl:m < L.length:=(List.getElem?_eq_some_iff.1 hm).1;simp [hl] at hj;subst hj;obtain ⟨h1,h2,h3⟩:=h.2 m x hm;refine ⟨.inr (by simp [qa8]),qgc h2 rfl,?_⟩;rw [List.drop_eq_getElem_cons hk] at h3;simp only [qs4,if_pos hx] at h3;rw [<- h3];simp only [qa8.eq_2];simp
 ·rw [if_neg hjm] at hj;obtain ⟨h1,h2,h3⟩:=h.2 j y hj;refine ⟨h1,h2,?_⟩;rw [List.drop_eq_getElem_cons hk] at h3;have:¬ (c.n.getD i default).i[k] = (j:Int):=by rw [hx]; omega
  simp only [qs4,if_neg this] at h3;exact h3
theorem qrt.len {c:Ci} {i k:Nat} {L:Fam} (h:qrt c i k L) {m:Nat} {x:Option (Nat × List V)} (hm:L[m]? = some x):(qa8 x).length≤(qgw m c.n 0).length:=by
 obtain ⟨h1,h2,h3⟩:=h.2 m x hm;rw [<- h3]; simp
def jar (sz:Nat):Option (Nat × List V)->Option Blk
 | some (g,l)=>some (.row g sz l)
 | none=>none
theorem qiy (sz b:Nat) (L:Fam) (i:Nat) {x:Option (Nat × List V)} (h:L[i]? = some x):lk (qjh sz b L) (b + i) = jar sz x:=by
 obtain ⟨h1,h2⟩:=List.getElem?_eq_some_iff.1 h;rw [q8d sz b L i h1,h2];cases x <;> rfl
theorem qrl (sz b:Nat) (L:Fam) (h:Hp) (hk:∀ (i g:Nat) l,L[i]? = some (some (g,l))->lk h (b + i) = some (.row g sz l)):Sub (qjh sz b L) h:=
 q4s sz b L h fun i hi g l he=>hk i g l (by rw [jpd hi,he])
theorem qlz {sz b:Nat} {L:Fam} {h:Hp} {m g:Nat} {l:List V} (hm:lk h (b + m) = some (.row g sz l)) (ho:∀ (i g:Nat) l,i ≠ m->L[i]? = some (some (g,l))->lk h (b + i) = some (.row g sz l)):Sub (qjh sz b (L.set m (some (g,l)))) h:=by
 refine qrl _ _ _ _ fun i g2 l2 hi=>?_;rw [List.getElem?_set] at hi;by_cases e:m = i
 ·subst e;by_cases hl:m < L.length
  ·simp [hl] at hi;obtain ⟨rfl,rfl⟩:=hi;exact hm
  ·simp [hl] at hi
 ·rw [if_neg e] at hi;exact ho i g2 l2 (fun q=>e q.symm) hi
theorem qy8 {sz base:Nat} {L:Fam} {b b' g:Nat} {s:Nat->Nat->Nat × Nat} {i g2:Nat} {l:List V} (hne:b ≠ b') (h1:¬ base + i = b') (h2:¬ base + i = b) (hi:L[i]? = some (some (g2,l))) (hp:jm8 l = true):lk (mvH s b b' g (qjh sz base L)) (base + i) = some (.row g2 sz l):=by
 rw [qy9 hne,if_neg h1,if_neg h2,qiy sz base L i hi];simp [jar,qae hp]
theorem qb0 {sz b:Nat} {L:Fam} {h:Hp} (hk:∀ t,b≤t->lk h t = lk (qjh sz b L) t):Sub (qjh sz b L) h:=
 qrl _ _ _ _ fun i g l hi=>by rw [hk _ (by omega),qiy sz b L i hi]; rfl
def qoq (b i:Nat) (L:Fam):List V:=qf4 b (L.take i) ++ qj4 (b + i) (L.drop i)
theorem qzg (b:Nat) (L:Fam):qoq b 0 L = qj4 b L:=by simp [qoq,qf4]
theorem q3l (b:Nat) (L:Fam):qoq b L.length L = qf4 b L:=by simp [qoq,qj4]
theorem qsx (b i:Nat) (L:Fam) (h:i≤L.length):(qoq b i L).length = L.length:=by simp [qoq,qei,qcg]; omega
theorem q3m (b i:Nat) (L:Fam) {x:Option (Nat × List V)} (h:L[i]? = some x) (hi:i < (qoq b i L).length):(qoq b i L)[i] = qbr (b + i) x:=by
 obtain ⟨h1,h2⟩:=List.getElem?_eq_some_iff.1 h;have e:(qf4 b (L.take i)).length = i:=by simp [qei]; omega
 have:=qt6 (b + i) (L.drop i) 0 (x:=x) (by simpa using h) (by rw [qcg]; simp; omega)
 have k:(qoq b i L)[i]? = some (qbr (b + i) x):=by
  unfold qoq;rw [List.getElem?_append_right (by omega),e,Nat.sub_self,jpd (by rw [qcg]; simp; omega),this,Nat.add_zero]
 rw [jpd hi] at k;exact Option.some.inj k
theorem q3n (b i:Nat) (L:Fam) {x:Option (Nat × List V)} (h:L[i]? = some x):(qoq b i L).set i (q2d (b + i) x) = qoq b (i + 1) L:=by
 obtain ⟨h1,h2⟩:=List.getElem?_eq_some_iff.1 h;have e:(qf4 b (L.take i)).length = i:=by simp [qei]; omega
 unfold qoq;rw [List.set_append_right _ _ (by omega),e,Nat.sub_self,List.drop_eq_getElem_cons h1];simp only [qj4,List.set_cons_zero];rw [List.take_succ_eq_append_getElem h1,qp5,h2];simp [qf4,Nat.add_assoc];rw [Nat.min_eq_left (by omega)]
theorem qyk {sz:Nat} (b:Nat) (L:Fam) (h:Hp) (n:Nat) (hk:∀ (i g:Nat) l,L[i]? = some (some (g,l))->lk h (b + i) = some (.row g sz l)/\jm8 l = true):(qf4 b L).map (frz h (n + 1)) = L.map fun x=>qlb (qa8 x):=by
 induction L generalizing b with
 | nil=>rfl
 | cons x r ih=>
  simp only [qf4,List.map_cons];rw [ih (b + 1) fun i g l hi=>by have:=hk (i + 1) g l (by simpa using hi); rwa [show b + (i + 1) = b + 1 + i by omega] at this];congr 1
  cases x with
  | none=>simp [q2d,qlb,qa8]
  | some p=>
   obtain ⟨g,l⟩:=p;obtain ⟨q1,q2⟩:=hk 0 g l (by simp);rw [Nat.add_zero] at q1;simp only [q2d];rw [qbb q1 (by omega),List.drop_zero,List.take_length,qbj h n q2];rfl
theorem qvr {K:V->Hp->Prop} {h:Hp} (h2:Hp) (hs:Sub h2 h) (hk:K (.sl [] (some 0)) h2):qau Tryz.prog gl0 136 [.nil] h K:=by
 refine jo6 jdo rfl ?_;simp [jid,jmx];exact .done (by simpa using ⟨h2,hs,hk⟩)
theorem qvs {K:V->Hp->Prop} {h:Hp} {b g l:Nat} {cap:Option Nat} {es:List V} (hb:lk h b = some (.row g 2 es)) (h2:Hp) (hs:Sub h2 h) (hk:K (.ref b g 0 l (some l)) h2):qau Tryz.prog gl0 136 [.ref b g 0 l cap] h K:=by
 refine jo6 jdo rfl ?_;simp [jid,jmx,hb];exact .done (by simpa using ⟨h2,hs,hk⟩)
theorem q2o (c:Ci) (hl:c.n.length < 1000000) (hin:∀ n ∈ c.n,n.i.length < 10000000) (hq:∀ j,(qgw j c.n 0).length≤1000000000):qac Tryz.prog gl0 147 [c.v] (.sl (qob c) (some c.n.length)):=by
 refine jo3 2 jjr rfl ?_;simp [i147,x147,Ci.v];intro gf gf2;have:c.n.length≤549755813888:=by omega
 simp [this];refine joz (qh7 c) (by simp) ?_;simp;generalize gf 1 = g1;generalize gf2 14 = g14;clear gf gf2
 refine jo2 (X:=Nat × Fam) (fun x=>[(20,.int .i64 (x.1:Int)),(19,.int .i64 (c.n.length:Int)),(18,.sl (c.n.map Nd.v) none),(4,.fn 212 [] [.iptr c.v 0]),(3,.ref 14 g14 0 c.n.length (some c.n.length)),(1,.ptr 1 g1 0 0)])
  (fun x=>(14,.row g14 1 (qj4 1000 x.2)) :: (1,.row g1 4 [c.v]) :: qjh 2 1000 x.2)
  (fun x=>x.1≤c.n.length/\qrt c x.1 0 x.2) (fun x=>c.n.length - x.1) (0,List.replicate c.n.length none) ?_ ?_ ?_ ?_
 ·exact ⟨by simp,qrt.start c⟩
 ·simp
 ·simp [qyg,qyf,Ci.v]
 ·rintro ⟨i,L⟩ ⟨h1,h2⟩;dsimp only at h1 h2;simp;refine jo0 (fun hb=>?_) (fun hb=>?_)
  ·have hi:i < c.n.length:=jo7 hb;have hw:IntKind.i64.wrap ((i:Int) + 1) = ((i + 1:Nat):Int):=by rw [qat] <;> omega
   have hni:=hin c.n[i] (jpc hi);have hnd:c.n.getD i default = c.n[i]:=by simp [hi]
   simp [hi,Nd.v];intro gf6;generalize gf6 6 = g6
   refine jnp (X:=Nat × Fam) (fun x=>[(28,.int .i64 (x.1:Int)),(27,.int .i64 (c.n[i].i.length:Int)),(26,.sl (qc8 c.n[i].i) none),(5,.int .i64 (i:Int)),(20,.int .i64 (i:Int)),(19,.int .i64 (c.n.length:Int)),(18,.sl (c.n.map Nd.v) none),(4,.fn 212 [] [.iptr c.v 0]),(3,.ref 14 g14 0 c.n.length (some c.n.length)),(1,.ptr 1 g1 0 0)])
    (fun x=>(14,.row g14 1 (qj4 1000 x.2)) :: (1,.row g1 4 [c.v]) :: qjh 2 1000 x.2)
    (fun x=>x.1≤c.n[i].i.length/\qrt c i x.1 x.2) (fun x=>c.n[i].i.length - x.1) ?_ ?_
   ·refine .done ⟨(0,L),⟨by simp,h2⟩,by simp,?_⟩;simp;exact qb0 fun t ht=>by simp [show ¬ t = 6 by omega,show ¬ t = 14 by omega,show ¬ t = 1 by omega]
   ·clear h2 L;rintro ⟨k,L⟩ ⟨h3,h2⟩;dsimp only at h2 h3;simp;refine jo0 (fun hc=>?_) (fun hc=>?_)
    ·have hk:k < c.n[i].i.length:=jo7 hc;have hwk:IntKind.i64.wrap ((k:Int) + 1) = ((k + 1:Nat):Int):=by rw [qat] <;> omega
     simp [hk,qaz];refine joz (qi6 c _) (by simp [Ci.v]) ?_;simp;refine jo0 (fun ho=>?_) (fun ho=>?_)
     ·simp at ho;obtain ⟨m,hm⟩:∃ m:Nat,c.n[i].i[k] = (m:Int):=⟨c.n[i].i[k].toNat,by omega⟩;have hml:m < c.n.length:=by omega
      have hmL:m < L.length:=by rw [h2.1]; exact hml
      obtain ⟨x,hx⟩:∃ x,L[m]? = some x:=⟨_,jpd hmL⟩;have hk':k < (c.n.getD i default).i.length:=by rw [hnd]; exact hk
      have hm':(c.n.getD i default).i[k] = (m:Int):=by simp only [hnd]; exact hm
      have hlk:=qiy 2 1000 L m hx;have hadd:=fun g=>h2.add hk' hx hm' g;have hlen:=h2.len hx;have hqm:=hq m;have hpu:=(h2.2 m _ hx).2.1;have hfv:m < (qj4 1000 L).length:=by rw [qcg]; exact hmL
      have hget:=qt6 1000 L m hx hfv;rw [hm];simp [hml,hget,qcg,hmL]
      cases x with
      | none=>
       simp [qbr,hwk,hml,hget,qcg,hmL];refine fun gf1 gf2=>.move 47 (1000 + m) _ (by omega) (by simp; rfl) fun g2=>.done ⟨k + 1,L.set m (some (g2,[qqv i k])),?_⟩;have n1:¬ 1000 + m = 47:=by omega
       have n2:¬ 1000 + m = 14:=by omega
       have n3:¬ 1000 + m = 1:=by omega
       have n4:¬ 14 = 1000 + m:=by omega
       have n5:¬ 1 = 1000 + m:=by omega
       have n6:¬ 46 = 1000 + m:=by omega
       have n7:¬ 47 = 1000 + m:=by omega
       refine ⟨⟨hk,hadd g2⟩,?_⟩;have hfr:=q7p (mvS 47 (gf2 47) (1000 + m) g2) 1000 L (qq2 _ _ _ _ _ (by omega));simp [n4,n5,n6,n7,qap _ (qeo _),qap _ (qdr _),qet _ (qn0 c),List.map_set,hfr,<- qt5,qbr,qqv];refine ⟨qlz (by simp [n2]) fun j g3 l3 hj hL=>?_,by omega⟩;have q1:¬ 1000 + j = 1000 + m:=by omega
       have q2:¬ 1000 + j = 14:=by omega
       have q3:¬ 1000 + j = 46:=by omega
       have q4:¬ 1000 + j = 1:=by omega
       have q5:¬ 1000 + j = 47:=by omega
       have q6:=(h2.2 j _ hL).2.1;simp [hj,q2,q3,q4,qy8 (s:=mvS 47 (gf2 47) (1000 + m) g2) (g:=g2) (b:=47) (by omega) q1 q5 hL q6]
      | some p=>
       obtain ⟨g,l⟩:=p;simp only [qa8] at hlen hpu;have hle:l.length + 1≤274877906944:=by omega
       have n1:¬ 1000 + m = 46:=by omega
       have n2:¬ 1000 + m = 14:=by omega
       have n3:¬ 1000 + m = 1:=by omega
       have n4:¬ 14 = 1000 + m:=by omega
       simp [qbr,hwk,hml,hget,qcg,hmL,hlk,jar,hle,n1,n2,n3,n4];refine fun gf1 gf2=>.done ⟨k + 1,L.set m (some (gf2 (1000 + m),l ++ [qqv i k])),?_⟩;refine ⟨⟨hk,hadd _⟩,?_⟩;have n5:¬ 1 = 1000 + m:=by omega
       simp [n5,<- qt5,qbr,qqv];refine ⟨qlz (by simp [n2]) fun j g3 l3 hj hL=>?_,by omega⟩;have q1:¬ 1000 + j = 1000 + m:=by omega
       have q2:¬ 1000 + j = 14:=by omega
       have q3:¬ 1000 + j = 46:=by omega
       have q4:¬ 1000 + j = 1:=by omega
       simp [hj,q2,q3,q4,qiy 2 1000 L j hL,jar]
     ·simp at ho;simp [hwk];have hk':k < (c.n.getD i default).i.length:=by rw [hnd]; exact hk
      refine .done ⟨k + 1,L,⟨hk,h2.skip hk' ?_⟩,by simp,?_,by omega⟩
      ·intro j hj e;simp only [hnd] at e;omega
      ·simp;exact qb0 fun t ht=>by simp [show ¬ t = 14 by omega,show ¬ t = 1 by omega]
    ·have hk:¬ k < c.n[i].i.length:=jo8 hc;simp [hw];refine ⟨i + 1,L,⟨by omega,h2.next (by rw [hnd]; omega) hi⟩,rfl,⟨rfl,?_⟩,by omega⟩;exact qb0 fun t ht=>by simp [show ¬ t = 14 by omega,show ¬ t = 1 by omega]
  ·have hi:i = c.n.length:=by have:=jo8 hb; omega
   subst hi;simp
   refine jo2 (X:=Nat) (fun x=>[(53,.int .i64 (x:Int)),(52,.int .i64 (c.n.length:Int)),(51,.ref 14 g14 0 c.n.length (some c.n.length)),(3,.ref 14 g14 0 c.n.length (some c.n.length))])
    (fun x=>(14,.row g14 1 (qoq 1000 x L)) :: qjh 2 1000 L)
    (fun x=>x≤c.n.length) (fun x=>c.n.length - x) 0 ?_ ?_ ?_ ?_
   ·simp
   ·simp
   ·simp [qzg];exact qb0 fun t ht=>by simp [show ¬ t = 14 by omega,show ¬ t = 1 by omega]
   ·rintro i h3;simp;refine jo0 (fun hb=>?_) (fun hb=>?_)
    ·have hi:i < c.n.length:=jo7 hb;have hiL:i < L.length:=by rw [h2.1]; exact hi
     have hw:IntKind.i64.wrap ((i:Int) + 1) = ((i + 1:Nat):Int):=by rw [qat] <;> omega
     obtain ⟨x,hx⟩:∃ x,L[i]? = some x:=⟨_,jpd hiL⟩;have hml:(qoq 1000 i L).length = c.n.length:=by rw [qsx _ _ _ (by omega),h2.1]
     have hget:=q3m 1000 i L hx (by rw [hml]; exact hi);have hlk:=qiy 2 1000 L i hx;have hset:=q3n 1000 i L hx;simp [hi,hml,hget]
     cases x with
     | none=>
      simp [qbr];have hsub:Sub ((14,Blk.row g14 1 (qoq 1000 i L)) :: qjh 2 1000 L) ((14,Blk.row g14 1 (qoq 1000 i L)) :: qjh 2 1000 L):=⟨by simp,qb0 fun t ht=>by simp [show ¬ t = 14 by omega]⟩;refine qvr _ hsub ?_;simp [hi,hml,hget,qbr];refine ⟨i + 1,by omega,hw,⟨hset,?_⟩,by omega⟩;exact qb0 fun t ht=>by simp [show ¬ t = 14 by omega]
     | some p=>
      obtain ⟨g,l⟩:=p;have n2:¬ 1000 + i = 14:=by omega
      have hsub:Sub ((14,Blk.row g14 1 (qoq 1000 i L)) :: qjh 2 1000 L) ((14,Blk.row g14 1 (qoq 1000 i L)) :: qjh 2 1000 L):=⟨by simp,qb0 fun t ht=>by simp [show ¬ t = 14 by omega]⟩;simp [qbr];refine qvs (es:=l) (by simp [n2,hlk,jar]) _ hsub ?_;simp [hi,hml,hget,qbr];refine ⟨i + 1,by omega,hw,⟨hset,?_⟩,by omega⟩;exact qb0 fun t ht=>by simp [show ¬ t = 14 by omega]
    ·have hi:i = L.length:=by have:=jo8 hb; have:=h2.1; omega
     subst hi;simp [-frz];have hcl:(qf4 1000 L).length = c.n.length:=by rw [qei,h2.1]
     rw [q3l,qbb (es:=qf4 1000 L) (sz:=1) (by simp) (by rw [hcl]; omega),List.drop_zero,jpb (by rw [hcl]; exact jpe _),qyk (sz:=2) 1000 L _ _ fun i g l hi=>⟨by simp [show ¬ 1000 + i = 14 by omega,qiy 2 1000 L i hi,jar],(h2.2 i _ hi).2.1⟩];congr 1;unfold qob;refine List.ext_getElem? fun i=>?_;simp only [List.getElem?_map]
     cases hx:L[i]? with
     | none=>
      have:¬ i < c.n.length:=by rw [<- h2.1]; simpa using hx
      simp [this]
     | some x=>
      have hi:i < c.n.length:=by rw [<- h2.1]; exact (List.getElem?_eq_some_iff.1 hx).1
      have hx3:=(h2.2 i x hx).2.2;have e1:c.n.getD c.n.length default = default:=by simp [jo9]
      have e2:(default:Nd).i = []:=rfl;rw [e1,e2,List.drop_eq_nil_of_le (show c.n.length≤c.n.length + 1 by omega)] at hx3;simp [qs4,qgw] at hx3;simp [hi,qlb,hx3]
end
end Go.Proofs.YtpaopccohkldlaaGreatDoor
