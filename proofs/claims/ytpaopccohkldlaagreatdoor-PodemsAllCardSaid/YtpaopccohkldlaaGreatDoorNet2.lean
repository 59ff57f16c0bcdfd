/- Lemmas for the card. Conditions: none. -/
import Derived.Test.YtpaopccohkldlaaGreatDoorXP
set_option linter.unusedSimpArgs false
set_option linter.unusedVariables false
namespace Go.Proofs.YtpaopccohkldlaaGreatDoor
section
open Go
def gl0 : Fr:=[(1,.iptr (.agg ([0,0,0,0,0,0,1,1,1,1,2,16,2,16,2,16,2,16,2,16,2,16,3,3,2,2,1,16,1,1,0,0].map (V.int .i64))) 0),(4,.iptr (.agg [.int .i64 1,.int .i64 1]) 0),(3,.iptr (.agg [.int .i64 1073741824,.int .i64 1073741824]) 0),(0,.iptr (.agg [.int .i64 (-1),.int .i64 0,.int .i64 0]) 0)]
theorem qfe : lk gl0 0 = some (.iptr (.agg [.int .i64 (-1),.int .i64 0,.int .i64 0]) 0):=rfl
end
section
open Go
theorem q50 (k : Int) : qac Tryz.prog gl0 82 [.int .u8 k] (.bool (decide (1 ≤ k/\k ≤ 13))):=by
 refine jpk 2 ok82 rfl ?_
 repeat' (first | refine jph (fun _=>?_) (fun _=>?_) | (intro _) | simp [*,i82,x82])
theorem jc9 (s : List UInt8) (c : Int) (h : 0 ≤ c/\c < 256) : qac Tryz.prog gl0 245 [.str s,.int .u8 c] (.int .i64 (qjq c s 0)):=by
 refine jpk 2 jj6 rfl ?_;simp [i245,x245,nop,h]
theorem q7b (s : List UInt8) (c : Int) (h : 0 ≤ c/\c < 256) : qac Tryz.prog gl0 240 [.str s,.int .u8 c] (.int .i64 (qjq c s 0)):=by
 refine jpk 2 jjx rfl ?_;simp [i240,x240];refine jpg (jc9 s c h) rfl ?_;simp
theorem qko {x : Int} (h0 : 0 ≤ x) (h1 : x < 256) : IntKind.u8.wrap x = x:=by
 simp [IntKind.wrap,IntKind.bits,IntKind.signed]; omega
theorem jeh (s : List UInt8) (r : Int) (h : 0 ≤ r/\r < 128) : qac Tryz.prog gl0 238 [.str s,.int .i32 r] (.int .i64 (qjq r s 0)):=by
 have hw : IntKind.u8.wrap r = r:=qko h.1 (by omega);refine jpk 2 jm0 rfl ?_;simp [i238,x238,h,hw];refine jpg (q7b s r ⟨h.1,by omega⟩) rfl ?_;simp
theorem q73 (s : List UInt8) (r : Int) (h : 0 ≤ r/\r < 128) : qac Tryz.prog gl0 229 [.str s,.int .i32 r] (.bool (decide (0 ≤ qjq r s 0))):=by
 refine jpk 2 jna rfl ?_;simp [i229,x229];refine jpg (jeh s r h) rfl ?_;simp
def jeu (r : Int) : Bool:=decide (r ≤ 32) || decide (126 < r) || decide (0 ≤ qjq r [40,41,61,44,35] 0)
theorem jkl (r : Int) : qac Tryz.prog gl0 228 [.int .i32 r] (.bool (jeu r)):=by
 refine jpk 2 jib rfl ?_;by_cases h1 : r ≤ 32
 ·simp [jfw,jgn,h1,jeu]
 ·by_cases h2 : 126 < r
  ·simp [jfw,jgn,h1,h2,jeu]
  ·simp [jfw,jgn,h1,h2,jeu];refine jpg (q73 _ r ⟨by omega,by omega⟩) rfl ?_;simp
def qdx : Nat->List UInt8->Nat->Int
 | 0,_,_=>-1
 | n + 1,s,pos=>if pos < s.length then (if jeu (Utf8.decode ⟨s.toArray⟩ pos).1 = true then (pos : Int) else qdx n s (pos + (Utf8.decode ⟨s.toArray⟩ pos).2)) else -1
theorem q66 (s : List UInt8) (pos : Nat) : 1 ≤ (Utf8.decode ⟨s.toArray⟩ pos).2:=by
 simp only [Utf8.decode]
 repeat' split
 all_goals simp
theorem q2q (s : List UInt8) : qac Tryz.prog gl0 244 [.str s,.fn 228 [] [],.bool true] (.int .i64 (qdx (s.length + 1) s 0)):=by
 obtain ⟨r,hr⟩ : ∃ r,qdx (s.length + 1) s 0 = r:=⟨_,rfl⟩;rw [hr];refine jpk 2 jnk rfl ?_;simp [i244,x244,nop];intro gf
 refine jpj (X:=Nat × Nat) (fun x=>[(0,.str s),(1,.fn 228 [] []),(2,.bool true),(10,.own 10 (gf 10))]) (fun x=>[(10,.siter (gf 10) s x.1)])
  (fun x=>s.length < x.1 + x.2/\qdx x.2 s x.1 = r) (fun x=>x.2) (0,s.length + 1) ⟨by simp,hr⟩ (by simp) (by simp) ?_
 rintro ⟨pos,fuel⟩ ⟨h2,h3⟩;dsimp only at h2 h3
 cases fuel with
 | zero=>
  have hp : ¬ pos < s.length:=by omega
  simp [nop,hp,<- h3,qdx]
 | succ fuel=>
  have hd:=q66 s pos;by_cases hp : pos < s.length
  ·simp [nop,hp];refine jpg (jkl _) rfl ?_;simp;refine jph (fun hb=>?_) (fun hb=>?_)
   ·simp [<- h3,qdx,hp,hb]
   ·simp;refine ⟨_,fuel,⟨?_,?_⟩,rfl,by omega⟩
    ·omega
    ·rw [<- h3]; simp [qdx,hp,hb]
  ·simp [nop,hp,<- h3,qdx]
theorem q2a (s : List UInt8) : qac Tryz.prog gl0 239 [.str s,.fn 228 [] []] (.int .i64 (qdx (s.length + 1) s 0)):=by
 refine jpk 2 jm3 rfl ?_;simp [i239,x239];refine jpg (q2q s) rfl ?_;simp
theorem qru (s : List UInt8) : qac Tryz.prog gl0 230 [.str s,.fn 228 [] []] (.bool (decide (0 ≤ qdx (s.length + 1) s 0))):=by
 refine jpk 2 jmv rfl ?_;simp [i230,x230];refine jpg (q2a s) rfl ?_;simp
def qyp (s : List UInt8) : Bool:=decide (s ≠ []) && decide (s.length ≤ 32) && !(decide (0 ≤ qdx (s.length + 1) s 0))
theorem q3h (s : List UInt8) : qac Tryz.prog gl0 209 [.str s] (.bool (qyp s)):=by
 have hc:=qru s;refine jpk 2 jj5 rfl ?_;unfold qyp;generalize decide (0 ≤ qdx (s.length + 1) s 0) = q at *;simp [i209,x209];refine jph (fun h1=>?_) (fun h1=>?_)
 ·simp [h1]
 ·simp [h1];refine jph (fun h2=>?_) (fun h2=>?_)
  ·simp [h2];refine jpg hc rfl ?_;simp
  ·simp [h2]
theorem pureL_map {α : Type} {f : α->V} (hf : ∀ x,(f x).pure = true) : ∀ l : List α,jnp (l.map f) = true
 | []=>rfl
 | x :: l=>by simp [jnp,hf x,pureL_map hf l]
@[simp] theorem jfd (l : List (List UInt8)) : jnp (l.map .str) = true:=pureL_map (fun _=>rfl) l
end
section
open Go
def qmd (sz : Nat) (xs : List V) (v : V) (h : Hp) : Prop:=(xs = []/\v = .sl [] (some 0)/\h = [])∨∃ g,v = .ref 0 g 0 xs.length (some xs.length)/\h = [(0,.row g sz xs)]
end
section
open Go
def qdg (l : List Int) : List V:=l.map (.int .i64)
@[simp] theorem jai (l : List Int) : (qdg l).length = l.length:=by simp [qdg]
@[simp] theorem qcu (l : List Int) : jnp (qdg l) = true:=pureL_map (fun _=>rfl) l
structure Nd where
 k : Int
 i : List Int
 a : Int
 b : Int
 deriving Inhabited
def Nd.v (n : Nd) : V:=.agg [.int .u8 n.k,.sl (qdg n.i) none,.int .i64 n.a,.int .i64 n.b]
structure Md where
 a : List Int
 d : List Int
 w : Int
 deriving Inhabited
def Md.v (n : Md) : V:=.agg [.sl (qdg n.a) none,.sl (qdg n.d) none,.int .i64 n.w]
structure Ci where
 n : List Nd
 s : List (List UInt8)
 m : List Md
 o : List Int
def Ci.v (c : Ci) : V:=.agg [.sl (c.n.map Nd.v) none,.sl (c.s.map .str) none,.sl (c.m.map Md.v) none,.sl (qdg c.o) none]
@[simp] theorem qdn (l : List Nd) : jnp (l.map Nd.v) = true:=pureL_map (fun x=>by simp [Nd.v]) l
@[simp] theorem qd5 (l : List Md) : jnp (l.map Md.v) = true:=pureL_map (fun x=>by simp [Md.v]) l
theorem qem {a b : List V} (h : jnp a = true) (k : jnp b = true) : jnp (a ++ b) = true:=by
 rw [jnu] at *;intro v hv;rcases List.mem_append.1 hv with q | q
 ·exact h v q
 ·exact k v q
theorem qc1 {l : List V} (h : jnp l = true) {f : Nat->Nat->Nat->Nat->Option Nat->V} {p : Nat->Nat->Nat->Nat->V} : (l.map fun x=>V.mapR f p x) = l:=by
 have:=qae (f:=f) (p:=p) l h;rw [qcm] at this; exact this
def qbi (b : Nat) : Option (Nat × List V)->V
 | none=>.nil
 | some (g,l)=>.ref b g 0 l.length none
def qbj (b sz : Nat) : Option (Nat × List V)->Hp
 | none=>[]
 | some (g,l)=>[(b,.row g sz l)]
def qa0 : Option (Nat × List V)->List V
 | none=>[]
 | some (_,l)=>l
theorem qa3 (l : List Int) (i : Nat) (h : i < (qdg l).length) : (qdg l)[i] = .int .i64 (l[i]'(by simpa using h)):=by simp [qdg]
end
section
open Go
end
section
open Go
def qmf (x : Int) : List Int->Nat->Int
 | [],_=>-1
 | y :: r,i=>if x = y then (i : Int) else qmf x r (i + 1)
theorem qq9 (x : Int) : ∀ (l : List Int) (i : Nat),(0 ≤ qmf x l i)↔x ∈ l
 | [],i=>by simp [qmf]
 | y :: l,i=>by
  by_cases h : x = y
  ·simp [qmf,h]
  ·simp [qmf,h,qq9 x l (i + 1)]
theorem q4b (x : Int) (l : List Int) (cap : Option Nat) (hl : l.length < 1000000000000) : qac Tryz.prog gl0 166 [.sl (l.map (.int .u8)) cap,.int .u8 x] (.int .i64 (qmf x l 0)):=by
 obtain ⟨q,hq⟩ : ∃ r,qmf x l 0 = r:=⟨_,rfl⟩;rw [hq];refine jpk 2 jmn rfl ?_;simp [i166,x166]
 refine jpj (X:=Nat) (fun i=>[(8,.int .i64 (i : Int)),(7,.int .i64 (l.length : Int)),(0,.sl (l.map (.int .u8)) cap),(1,.int .u8 x)]) (fun _=>[])
  (fun i=>i ≤ l.length/\qmf x (l.drop i) i = q) (fun i=>l.length - i) 0 ⟨by simp,by simpa using hq⟩ (by simp) (by simp) ?_
 rintro i ⟨h2,h3⟩;simp;refine jph (fun h1=>?_) (fun h1=>?_)
 ·have h1' : i < l.length:=jpp h1;have hw : IntKind.i64.wrap ((i : Int) + 1) = ((i + 1 : Nat) : Int):=by rw [qaq] <;> omega
  rw [List.drop_eq_getElem_cons h1'] at h3;simp only [qmf] at h3;simp [h1'];refine jph (fun h4=>?_) (fun h4=>?_)
  ·rw [if_pos (jpp h4)] at h3;simp [h3]
  ·rw [if_neg (jpq h4)] at h3;simp [hw];exact ⟨i + 1,⟨h1',h3⟩,rfl,by omega⟩
 ·have h1' : i = l.length:=by have:=jpq h1; omega
  subst h1';simp [qmf] at h3;simp [h3]
@[simp] theorem jfz (l : List Int) : jnp (l.map (.int .u8)) = true:=pureL_map (fun _=>rfl) l
theorem qiq (x : Int) (l : List Int) (cap : Option Nat) (hl : l.length < 1000000000000) : qac Tryz.prog gl0 130 [.sl (l.map (.int .u8)) cap,.int .u8 x] (.bool (decide (x ∈ l))):=by
 refine jpk 2 jmx rfl ?_;simp [i130,x130];refine jpg (q4b x l cap hl) (by simp) ?_;simp [qq9]
def qpi (ks : List Int) : List Nd->Nat->List V
 | [],_=>[]
 | n :: r,i=>if n.k ∈ ks then .int .i64 (i : Int) :: qpi ks r (i + 1) else qpi ks r (i + 1)
theorem jji (c : Ci) (ks : List Int) (cap : Option Nat) (hl : c.n.length < 1000000) (hk : ks.length < 1000000000000) : qbo Tryz.prog gl0 88 [c.v,.sl (ks.map (.int .u8)) cap] (qmd 1 (qpi ks c.n 0)):=by
 refine jpm ok88 rfl ?_;obtain ⟨q,hq⟩ : ∃ r,qpi ks c.n 0 = r:=⟨_,rfl⟩;rw [hq];simp [i88,x88,Ci.v];intro gf
 refine jpj (X:=Nat × Option (Nat × List V)) (fun x=>[(11,.int .i64 (x.1 : Int)),(10,.int .i64 (c.n.length : Int)),(9,.sl (c.n.map Nd.v) none),(5,qbi 23 x.2),(1,.sl (ks.map (.int .u8)) cap)])
  (fun x=>qbj 23 1 x.2)
  (fun x=>x.1 ≤ c.n.length/\(x.2 = none∨qa0 x.2 ≠ [])/\(qa0 x.2).length ≤ x.1/\jnp (qa0 x.2) = true/\qa0 x.2 ++ qpi ks (c.n.drop x.1) x.1 = q) (fun x=>c.n.length - x.1) (0,none) ⟨by simp,by simp,by simp [qa0],by simp [qa0],by simpa [qa0] using hq⟩ (by simp [qbi]) (by simp [qbj]) ?_
 rintro ⟨i,acc⟩ ⟨h1,h2,h3,h4,h5⟩;dsimp only at h1 h2 h3 h4 h5;simp;refine jph (fun hb=>?_) (fun hb=>?_)
 ·have hi : i < c.n.length:=jpp hb;have hw : IntKind.i64.wrap ((i : Int) + 1) = ((i + 1 : Nat) : Int):=by rw [qaq] <;> omega
  rw [List.drop_eq_getElem_cons hi] at h5;simp only [qpi] at h5;simp [hi,Nd.v];intro gf2;refine jpg (qiq _ ks cap hk) (by simp) ?_;simp;refine jph (fun hk=>?_) (fun hk=>?_)
  ·rw [if_pos (jpp hk)] at h5
   cases acc with
   | none=>
    simp [qbi,qbj,hw];refine fun gf1 gf2=>⟨i + 1,some (gf2 23,[.int .i64 i]),?_⟩;simp [qa0] at h5 ⊢;exact ⟨⟨by omega,h5⟩,by omega⟩
   | some gl=>
    obtain ⟨g,l⟩:=gl;simp only [qa0] at h3 h4 h5 h2;have hle : l.length + 1 ≤ 274877906944:=by omega
    simp [qbi,qbj,hw,hle];refine fun gf1 gf2=>⟨i + 1,some (gf2 23,l ++ [.int .i64 i]),?_⟩;simp [qa0,h5,List.append_assoc];exact ⟨⟨by omega,by omega,qem h4 rfl⟩,by omega⟩
  ·rw [if_neg (jpq hk)] at h5;simp [hw];exact ⟨i + 1,acc,⟨by omega,h2,by omega,h4,h5⟩,⟨rfl,rfl⟩,by cases acc <;> simp [qbj],by omega⟩
 ·have hi : ¬ i < c.n.length:=jpq hb;rw [List.drop_eq_nil_of_le (by omega)] at h5;simp only [qpi,List.append_nil] at h5
  cases acc with
  | none=>
   simp [qa0] at h5;subst h5;simp [qbi,qbj];refine jpn jad rfl ?_;simp [jgs,jhk];exact .done (by simpa using ⟨[],trivial,.done (by simp [qmd])⟩)
  | some gl=>
   obtain ⟨g,l⟩:=gl;simp only [qa0] at h3 h4 h5 h2;subst h5;simp [qbi,qbj];refine jpn jad rfl ?_;simp [jgs,jhk];refine .done ?_;simp only [lk,if_true];refine ⟨[(23,Blk.row g 1 l)],by simp,.move 23 0 _ (by simp) (by simp; rfl) fun g2=>.done ?_⟩;simp [qaf h4,qmd]
theorem qd3 (ks : List Int) : ∀ (l : List Nd) (i : Nat),jnw (qpi ks l i) = true/\jnp (qpi ks l i) = true
 | [],i=>⟨rfl,rfl⟩
 | n :: r,i=>by
  obtain ⟨h1,h2⟩:=qd3 ks r (i + 1);simp only [qpi];split
  ·exact ⟨by simp [jnw,V.noG,h1],by simp [jnp,V.pure,h2]⟩
  ·exact ⟨h1,h2⟩
theorem q2o (c : Ci) (hl : c.n.length < 1000000) : qbo Tryz.prog gl0 44 [c.v] (qmd 1 (qpi [0] c.n 0)):=by
 obtain ⟨n1,n2⟩:=qd3 [0] c.n 0;refine jpm ok44 rfl ?_;simp [i44,x44,Ci.v];intro gf gf2;refine joc 1 1000 (jji c [0] (some 1) hl (by simp)) (by simp [Ci.v,qae]) (by simp) ?_;rintro v h' (⟨hq,rfl,rfl⟩ | ⟨g,rfl,rfl⟩)
 ·refine ⟨rfl,fun b k hb=>by simp [lk] at hb,fun gf=>?_⟩;simp;exact .done (by simpa using ⟨[],trivial,by simp [qmd,hq]⟩)
 ·refine ⟨rfl,fun b k hb=>?_,fun gf=>?_⟩
  ·simp only [lk] at hb;split at hb
   ·cases hb; exact n1
   ·cases hb
  ·simp [qaf n2];refine .move 1000 0 _ (by simp) (by simp; rfl) fun g2=>.done ?_;simp [qaf n2,qmd]
theorem q2x (c : Ci) (hl : c.n.length < 1000000) : qbo Tryz.prog gl0 45 [c.v] (qmd 1 (qpi [14] c.n 0)):=by
 obtain ⟨n1,n2⟩:=qd3 [14] c.n 0;refine jpm ok45 rfl ?_;simp [i45,x45,Ci.v];intro gf gf2;refine joc 1 1000 (jji c [14] (some 1) hl (by simp)) (by simp [Ci.v,qae]) (by simp) ?_;rintro v h' (⟨hq,rfl,rfl⟩ | ⟨g,rfl,rfl⟩)
 ·refine ⟨rfl,fun b k hb=>by simp [lk] at hb,fun gf=>?_⟩;simp;exact .done (by simpa using ⟨[],trivial,by simp [qmd,hq]⟩)
 ·refine ⟨rfl,fun b k hb=>?_,fun gf=>?_⟩
  ·simp only [lk] at hb;split at hb
   ·cases hb; exact n1
   ·cases hb
  ·simp [qaf n2];refine .move 1000 0 _ (by simp) (by simp; rfl) fun g2=>.done ?_;simp [qaf n2,qmd]
end
section
open Go
def qpx (i k : Nat) : V:=.agg [.int .i64 (i : Int),.int .i64 (k : Int)]
def qr1 (w : Int) (i : Nat) : List Int->Nat->List V
 | [],_=>[]
 | x :: r,k=>if x = w then qpx i k :: qr1 w i r (k + 1) else qr1 w i r (k + 1)
def qgn (w : Int) : List Nd->Nat->List V
 | [],_=>[]
 | n :: r,i=>qr1 w i n.i 0 ++ qgn w r (i + 1)
end
section
open Go
theorem qyo (c : Ci) : c.v.pure = true:=by simp [Ci.v]
theorem qh2 (c : Ci) : qac Tryz.prog gl0 184 [c.v] (.fn 212 [] [.iptr c.v 0]):=by
 refine jpk 2 jl9 rfl ?_;simp [i184,x184,Ci.v,qae]
theorem qi0 (c : Ci) (i : Int) : qac Tryz.prog gl0 212 [.int .i64 i,.iptr c.v 0] (.bool (decide (i < 0) || decide ((c.n.length : Int) ≤ i))):=by
 refine jpk 2 jlp rfl ?_;simp [i212,x212,Ci.v];refine jph (fun h1=>?_) (fun h1=>?_)
 ·simp [h1]
 ·simp [h1]
end
section
open Go
abbrev Fam:=List (Option (Nat × List V))
def qjf (sz b : Nat) : Fam->Hp
 | []=>[]
 | x :: r=>qbj b sz x ++ qjf sz (b + 1) r
def qj9 (b : Nat) : Fam->List V
 | []=>[]
 | x :: r=>qbi b x :: qj9 (b + 1) r
theorem qci (b : Nat) (L : Fam) : (qj9 b L).length = L.length:=by
 induction L generalizing b with
 | nil=>rfl
 | cons x r ih=>simp [qj9,ih]
theorem q3a (b : Nat) (L : Fam) (i : Nat) (h : i < L.length) : (qj9 b L)[i]'(by rw [qci]; exact h) = qbi (b + i) L[i]:=by
 induction L generalizing b i with
 | nil=>simp at h
 | cons x r ih=>
  cases i with
  | zero=>simp [qj9]
  | succ i=>
   simp only [qj9,List.getElem_cons_succ];rw [ih (b + 1) i (by simpa using h),show b + 1 + i = b + (i + 1) by omega]
theorem qsu (sz b : Nat) (L : Fam) (t : Nat) (h : t < b) : lk (qjf sz b L) t = none:=by
 induction L generalizing b with
 | nil=>rfl
 | cons x r ih=>
  have:=ih (b + 1) (by omega)
  cases x with
  | none=>simpa [qjf,qbj] using this
  | some p=>
   obtain ⟨g,l⟩:=p;have hne : ¬ t = b:=by omega
   simp [qjf,qbj,lk,hne,this]
theorem q9p (sz b : Nat) (L : Fam) (i : Nat) (h : i < L.length) : lk (qjf sz b L) (b + i) = match L[i] with | some (g,l)=>some (.row g sz l) | none=>none:=by
 induction L generalizing b i with
 | nil=>simp at h
 | cons x r ih=>
  cases i with
  | zero=>
   cases x with
   | none=>simpa [qjf,qbj] using qsu sz (b + 1) r b (by omega)
   | some p=>obtain ⟨g,l⟩:=p; simp [qjf,qbj,lk]
  | succ i=>
   have:=ih (b + 1) i (by simpa using h);rw [show b + 1 + i = b + (i + 1) by omega] at this;have hne : ¬ b + (i + 1) = b:=by omega
   cases x with
   | none=>simpa [qjf,qbj] using this
   | some p=>obtain ⟨g,l⟩:=p; simpa [qjf,qbj,lk] using this
theorem quj (b : Nat) (L : Fam) (i : Nat) (x : Option (Nat × List V)) : (qj9 b L).set i (qbi (b + i) x) = qj9 b (L.set i x):=by
 induction L generalizing b i with
 | nil=>rfl
 | cons y r ih=>
  cases i with
  | zero=>simp [qj9]
  | succ i=>
   simp only [qj9,List.set_cons_succ];rw [<- ih (b + 1) i,show b + 1 + i = b + (i + 1) by omega]
end
section
open Go
theorem q0z {a b c : Hp} : Sub (a ++ b) c↔Sub a c/\Sub b c:=by
 induction a with
 | nil=>simp [Sub]
 | cons p r ih=>obtain ⟨k,v⟩:=p; simp [Sub,ih,and_assoc]
theorem q16 (sz b : Nat) (L : Fam) (h : Hp) (hk : ∀ i (hi : i < L.length) g l,L[i] = some (g,l)->lk h (b + i) = some (.row g sz l)) : Sub (qjf sz b L) h:=by
 induction L generalizing b with
 | nil=>trivial
 | cons x r ih=>
  simp only [qjf,q0z];refine ⟨?_,ih (b + 1) fun i hi g l he=>?_⟩
  ·cases x with
   | none=>trivial
   | some p=>obtain ⟨g,l⟩:=p; exact ⟨by simpa using hk 0 (by simp) g l rfl,trivial⟩
  ·have:=hk (i + 1) (by simpa using hi) g l (by simpa using he)
   rwa [show b + (i + 1) = b + 1 + i by omega] at this
end
section
open Go
theorem jab (s : Nat->Nat->Nat × Nat) (b : Nat) (L : Fam) (h : ∀ i g,b ≤ i->s i g = (i,g)) : (qj9 b L).map (V.rn s) = qj9 b L:=by
 induction L generalizing b with
 | nil=>rfl
 | cons x r ih=>
  have h1:=ih (b + 1) fun i g hi=>h i g (by omega);simp only [qj9,List.map_cons,h1];congr 1
  cases x with
  | none=>rfl
  | some p=>obtain ⟨g,l⟩:=p; simp [qbi,V.rn,h b g (jpw _)]
theorem qqp (b g b' g' base : Nat) (h : b < base) : ∀ i y,base ≤ i->mvS b g b' g' i y = (i,y):=by
 intro i y hi;have : ¬ i = b:=by omega
 simp [mvS,this]
end
section
open Go
def qk2 (L : List V) : V:=.sl L (some L.length)
def q32 (b : Nat) : Option (Nat × List V)->V
 | none=>.sl [] (some 0)
 | some (g,l)=>.ref b g 0 l.length (some l.length)
def qga (b : Nat) : Fam->List V
 | []=>[]
 | x :: r=>q32 b x :: qga (b + 1) r
theorem qer (b : Nat) (L : Fam) : (qga b L).length = L.length:=by
 induction L generalizing b with
 | nil=>rfl
 | cons x r ih=>simp [qga,ih]
theorem qq3 (b : Nat) (L M : Fam) : qga b (L ++ M) = qga b L ++ qga (b + L.length) M:=by
 induction L generalizing b with
 | nil=>rfl
 | cons x r ih=>simp [qga,ih,show b + 1 + r.length = b + (r.length + 1) by omega]
def qoq (c : Ci) : List V:=(List.range c.n.length).map fun (j : Nat)=>qk2 (qgn (j : Int) c.n 0)
theorem quz (b : Nat) (L : Fam) (i : Nat) {x : Option (Nat × List V)} (h : L[i]? = some x) (hi : i < (qj9 b L).length) : (qj9 b L)[i] = qbi (b + i) x:=by
 obtain ⟨h1,h2⟩:=List.getElem?_eq_some_iff.1 h;rw [q3a b L i h1,h2]
theorem qzt (b n : Nat) : qj9 b (List.replicate n none) = List.replicate n .nil:=by
 induction n generalizing b with
 | zero=>rfl
 | succ n ih=>simp [List.replicate_succ,qj9,qbi,ih]
theorem qz4 (sz b n : Nat) : qjf sz b (List.replicate n none) = []:=by
 induction n generalizing b with
 | zero=>rfl
 | succ n ih=>simp [List.replicate_succ,qjf,qbj,ih]
def qrp (c : Ci) (i k : Nat) (L : Fam) : Prop:=L.length = c.n.length/\∀ (j : Nat) x,L[j]? = some x->(x = none∨qa0 x ≠ [])/\jnp (qa0 x) = true/\qa0 x ++ (qr1 j i ((c.n.getD i default).i.drop k) k ++ qgn j (c.n.drop (i + 1)) (i + 1)) = qgn j c.n 0
theorem qrp.start (c : Ci) : qrp c 0 0 (List.replicate c.n.length none):=by
 refine ⟨by simp,fun j x hj=>?_⟩;rw [List.getElem?_replicate] at hj;split at hj
 ·rename_i h;cases hj;refine ⟨.inl rfl,rfl,?_⟩
  cases hn : c.n with
  | nil=>rw [hn] at h; simp at h
  | cons a r=>simp [qa0,qgn]
 ·cases hj
theorem qrp.next {c : Ci} {i k : Nat} {L : Fam} (h : qrp c i k L) (hk : (c.n.getD i default).i.length ≤ k) (hi : i < c.n.length) : qrp c (i + 1) 0 L:=by
 refine ⟨h.1,fun j x hj=>?_⟩;obtain ⟨h1,h2,h3⟩:=h.2 j x hj;refine ⟨h1,h2,?_⟩;rw [List.drop_eq_nil_of_le hk] at h3;rw [<- h3];congr 1;simp only [qr1,List.nil_append];by_cases hn : i + 1 < c.n.length
 ·rw [List.drop_eq_getElem_cons hn];simp [qgn,hn]
 ·have e1 : c.n.getD (i + 1) default = default:=by simp [jpr,hn]
  have e2 : (default : Nd).i = []:=rfl;rw [List.drop_eq_nil_of_le (show c.n.length ≤ i + 1 by omega),List.drop_eq_nil_of_le (show c.n.length ≤ i + 1 + 1 by omega),e1,e2];simp [qgn,qr1]
theorem qrp.skip {c : Ci} {i k : Nat} {L : Fam} (h : qrp c i k L) (hk : k < (c.n.getD i default).i.length) (hx : ∀ j : Nat,j < c.n.length->(c.n.getD i default).i[k] ≠ (j : Int)) : qrp c i (k + 1) L:=by
 refine ⟨h.1,fun j x hj=>?_⟩;obtain ⟨h1,h2,h3⟩:=h.2 j x hj;refine ⟨h1,h2,?_⟩;rw [List.drop_eq_getElem_cons hk] at h3;have hjl : j < c.n.length:=by rw [<- h.1]; exact (List.getElem?_eq_some_iff.1 hj).1
 simp only [qr1,if_neg (hx j hjl)] at h3;exact h3
theorem qrp.add {c : Ci} {i k : Nat} {L : Fam} (h : qrp c i k L) (hk : k < (c.n.getD i default).i.length) {m : Nat} {x : Option (Nat × List V)} (hm : L[m]? = some x) (hx : (c.n.getD i default).i[k] = (m : Int)) (g : Nat) : qrp c i (k + 1) (L.set m (some (g,qa0 x ++ [qpx i k]))):=by
 refine ⟨by simpa using h.1,fun j y hj=>?_⟩;rw [List.getElem?_set] at hj;by_cases hjm : m = j
 ·subst hjm;have hl : m < L.length:=(List.getElem?_eq_some_iff.1 hm).1;simp [hl] at hj;subst hj;obtain ⟨h1,h2,h3⟩:=h.2 m x hm;refine ⟨.inr (by simp [qa0]),qem h2 rfl,?_⟩;rw [List.drop_eq_getElem_cons hk] at h3;simp only [qr1,if_pos hx] at h3;rw [<- h3];simp only [qa0.eq_2];simp
 ·rw [if_neg hjm] at hj;obtain ⟨h1,h2,h3⟩:=h.2 j y hj;refine ⟨h1,h2,?_⟩;rw [List.drop_eq_getElem_cons hk] at h3;have : ¬ (c.n.getD i default).i[k] = (j : Int):=by rw [hx]; omega
  simp only [qr1,if_neg this] at h3;exact h3
theorem qrp.len {c : Ci} {i k : Nat} {L : Fam} (h : qrp c i k L) {m : Nat} {x : Option (Nat × List V)} (hm : L[m]? = some x) : (qa0 x).length ≤ (qgn m c.n 0).length:=by
 obtain ⟨h1,h2,h3⟩:=h.2 m x hm;rw [<- h3]; simp
def ja3 (sz : Nat) : Option (Nat × List V)->Option Blk
 | some (g,l)=>some (.row g sz l)
 | none=>none
theorem qis (sz b : Nat) (L : Fam) (i : Nat) {x : Option (Nat × List V)} (h : L[i]? = some x) : lk (qjf sz b L) (b + i) = ja3 sz x:=by
 obtain ⟨h1,h2⟩:=List.getElem?_eq_some_iff.1 h;rw [q9p sz b L i h1,h2];cases x <;> rfl
theorem qre (sz b : Nat) (L : Fam) (h : Hp) (hk : ∀ (i g : Nat) l,L[i]? = some (some (g,l))->lk h (b + i) = some (.row g sz l)) : Sub (qjf sz b L) h:=
 q16 sz b L h fun i hi g l he=>hk i g l (by rw [jpv hi,he])
theorem ql4 {sz b : Nat} {L : Fam} {h : Hp} {m g : Nat} {l : List V} (hm : lk h (b + m) = some (.row g sz l)) (ho : ∀ (i g : Nat) l,i ≠ m->L[i]? = some (some (g,l))->lk h (b + i) = some (.row g sz l)) : Sub (qjf sz b (L.set m (some (g,l)))) h:=by
 refine qre _ _ _ _ fun i g2 l2 hi=>?_;rw [List.getElem?_set] at hi;by_cases e : m = i
 ·subst e;by_cases hl : m < L.length
  ·simp [hl] at hi;obtain ⟨rfl,rfl⟩:=hi;exact hm
  ·simp [hl] at hi
 ·rw [if_neg e] at hi;exact ho i g2 l2 (fun q=>e q.symm) hi
theorem qzq {sz base : Nat} {L : Fam} {b b' g : Nat} {s : Nat->Nat->Nat × Nat} {i g2 : Nat} {l : List V} (hne : b ≠ b') (h1 : ¬ base + i = b') (h2 : ¬ base + i = b) (hi : L[i]? = some (some (g2,l))) (hp : jnp l = true) : lk (mvH s b b' g (qjf sz base L)) (base + i) = some (.row g2 sz l):=by
 rw [qy3 hne,if_neg h1,if_neg h2,qis sz base L i hi];simp [ja3,qaf hp]
theorem qb1 {sz b : Nat} {L : Fam} {h : Hp} (hk : ∀ t,b ≤ t->lk h t = lk (qjf sz b L) t) : Sub (qjf sz b L) h:=
 qre _ _ _ _ fun i g l hi=>by rw [hk _ (by omega),qis sz b L i hi]; rfl
def qoj (b i : Nat) (L : Fam) : List V:=qga b (L.take i) ++ qj9 (b + i) (L.drop i)
theorem q0r (b : Nat) (L : Fam) : qoj b 0 L = qj9 b L:=by simp [qoj,qga]
theorem q29 (b : Nat) (L : Fam) : qoj b L.length L = qga b L:=by simp [qoj,qj9]
theorem qsy (b i : Nat) (L : Fam) (h : i ≤ L.length) : (qoj b i L).length = L.length:=by simp [qoj,qer,qci]; omega
theorem q36 (b i : Nat) (L : Fam) {x : Option (Nat × List V)} (h : L[i]? = some x) (hi : i < (qoj b i L).length) : (qoj b i L)[i] = qbi (b + i) x:=by
 obtain ⟨h1,h2⟩:=List.getElem?_eq_some_iff.1 h;have e : (qga b (L.take i)).length = i:=by simp [qer]; omega
 have:=quz (b + i) (L.drop i) 0 (x:=x) (by simpa using h) (by rw [qci]; simp; omega)
 have k : (qoj b i L)[i]? = some (qbi (b + i) x):=by
  unfold qoj;rw [List.getElem?_append_right (by omega),e,Nat.sub_self,jpv (by rw [qci]; simp; omega),this,Nat.add_zero]
 rw [jpv hi] at k;exact Option.some.inj k
theorem q41 (b i : Nat) (L : Fam) {x : Option (Nat × List V)} (h : L[i]? = some x) : (qoj b i L).set i (q32 (b + i) x) = qoj b (i + 1) L:=by
 obtain ⟨h1,h2⟩:=List.getElem?_eq_some_iff.1 h;have e : (qga b (L.take i)).length = i:=by simp [qer]; omega
 unfold qoj;rw [List.set_append_right _ _ (by omega),e,Nat.sub_self,List.drop_eq_getElem_cons h1];simp only [qj9,List.set_cons_zero];rw [List.take_succ_eq_append_getElem h1,qq3,h2];simp [qga,Nat.add_assoc];rw [Nat.min_eq_left (by omega)]
theorem qzf {sz : Nat} (b : Nat) (L : Fam) (h : Hp) (n : Nat) (hk : ∀ (i g : Nat) l,L[i]? = some (some (g,l))->lk h (b + i) = some (.row g sz l)/\jnp l = true) : (qga b L).map (frz h (n + 1)) = L.map fun x=>qk2 (qa0 x):=by
 induction L generalizing b with
 | nil=>rfl
 | cons x r ih=>
  simp only [qga,List.map_cons];rw [ih (b + 1) fun i g l hi=>by have:=hk (i + 1) g l (by simpa using hi); rwa [show b + (i + 1) = b + 1 + i by omega] at this];congr 1
  cases x with
  | none=>simp [q32,qk2,qa0]
  | some p=>
   obtain ⟨g,l⟩:=p;obtain ⟨q1,q2⟩:=hk 0 g l (by simp);rw [Nat.add_zero] at q1;simp only [q32];rw [qbc q1 (by omega),List.drop_zero,List.take_length,qbl h n q2];rfl
theorem qv1 {K : V->Hp->Prop} {h : Hp} (h2 : Hp) (hs : Sub h2 h) (hk : K (.sl [] (some 0)) h2) : qat Tryz.prog gl0 136 [.nil] h K:=by
 refine jpn q8j rfl ?_;simp [jg0,jgy];exact .done (by simpa using ⟨h2,hs,hk⟩)
theorem qvr {K : V->Hp->Prop} {h : Hp} {b g l : Nat} {cap : Option Nat} {es : List V} (hb : lk h b = some (.row g 2 es)) (h2 : Hp) (hs : Sub h2 h) (hk : K (.ref b g 0 l (some l)) h2) : qat Tryz.prog gl0 136 [.ref b g 0 l cap] h K:=by
 refine jpn q8j rfl ?_;simp [jg0,jgy,hb];exact .done (by simpa using ⟨h2,hs,hk⟩)
theorem q4f (c : Ci) (hl : c.n.length < 1000000) (hin : ∀ n ∈ c.n,n.i.length < 10000000) (hq : ∀ j,(qgn j c.n 0).length ≤ 1000000000) : qac Tryz.prog gl0 147 [c.v] (.sl (qoq c) (some c.n.length)):=by
 refine jpk 2 jng rfl ?_;simp [i147,x147,Ci.v];intro gf gf2;have : c.n.length ≤ 549755813888:=by omega
 simp [this];refine jpg (qh2 c) (by simp) ?_;simp;generalize gf 1 = g1;generalize gf2 14 = g14;clear gf gf2
 refine jpj (X:=Nat × Fam) (fun x=>[(20,.int .i64 (x.1 : Int)),(19,.int .i64 (c.n.length : Int)),(18,.sl (c.n.map Nd.v) none),(4,.fn 212 [] [.iptr c.v 0]),(3,.ref 14 g14 0 c.n.length (some c.n.length)),(1,.ptr 1 g1 0 0)])
  (fun x=>(14,.row g14 1 (qj9 1000 x.2)) :: (1,.row g1 4 [c.v]) :: qjf 2 1000 x.2)
  (fun x=>x.1 ≤ c.n.length/\qrp c x.1 0 x.2) (fun x=>c.n.length - x.1) (0,List.replicate c.n.length none) ?_ ?_ ?_ ?_
 ·exact ⟨by simp,qrp.start c⟩
 ·simp
 ·simp [qzt,qz4,Ci.v]
 ·rintro ⟨i,L⟩ ⟨h1,h2⟩;dsimp only at h1 h2;simp;refine jph (fun hb=>?_) (fun hb=>?_)
  ·have hi : i < c.n.length:=jpp hb;have hw : IntKind.i64.wrap ((i : Int) + 1) = ((i + 1 : Nat) : Int):=by rw [qaq] <;> omega
   have hni:=hin c.n[i] (jpu hi);have hnd : c.n.getD i default = c.n[i]:=by simp [hi]
   simp [hi,Nd.v];intro gf6;generalize gf6 6 = g6
   refine jn7 (X:=Nat × Fam) (fun x=>[(28,.int .i64 (x.1 : Int)),(27,.int .i64 (c.n[i].i.length : Int)),(26,.sl (qdg c.n[i].i) none),(5,.int .i64 (i : Int)),(20,.int .i64 (i : Int)),(19,.int .i64 (c.n.length : Int)),(18,.sl (c.n.map Nd.v) none),(4,.fn 212 [] [.iptr c.v 0]),(3,.ref 14 g14 0 c.n.length (some c.n.length)),(1,.ptr 1 g1 0 0)])
    (fun x=>(14,.row g14 1 (qj9 1000 x.2)) :: (1,.row g1 4 [c.v]) :: qjf 2 1000 x.2)
    (fun x=>x.1 ≤ c.n[i].i.length/\qrp c i x.1 x.2) (fun x=>c.n[i].i.length - x.1) ?_ ?_
   ·refine .done ⟨(0,L),⟨by simp,h2⟩,by simp,?_⟩;simp;exact qb1 fun t ht=>by simp [show ¬ t = 6 by omega,show ¬ t = 14 by omega,show ¬ t = 1 by omega]
   ·clear h2 L;rintro ⟨k,L⟩ ⟨h3,h2⟩;dsimp only at h2 h3;simp;refine jph (fun hc=>?_) (fun hc=>?_)
    ·have hk : k < c.n[i].i.length:=jpp hc;have hwk : IntKind.i64.wrap ((k : Int) + 1) = ((k + 1 : Nat) : Int):=by rw [qaq] <;> omega
     simp [hk,qa3];refine jpg (qi0 c _) (by simp [Ci.v]) ?_;simp;refine jph (fun ho=>?_) (fun ho=>?_)
     ·simp at ho;obtain ⟨m,hm⟩ : ∃ m : Nat,c.n[i].i[k] = (m : Int):=⟨c.n[i].i[k].toNat,by omega⟩;have hml : m < c.n.length:=by omega
      have hmL : m < L.length:=by rw [h2.1]; exact hml
      obtain ⟨x,hx⟩ : ∃ x,L[m]? = some x:=⟨_,jpv hmL⟩;have hk' : k < (c.n.getD i default).i.length:=by rw [hnd]; exact hk
      have hm' : (c.n.getD i default).i[k] = (m : Int):=by simp only [hnd]; exact hm
      have hlk:=qis 2 1000 L m hx;have hadd:=fun g=>h2.add hk' hx hm' g;have hlen:=h2.len hx;have hqm:=hq m;have hpu:=(h2.2 m _ hx).2.1;have hfv : m < (qj9 1000 L).length:=by rw [qci]; exact hmL
      have hget:=quz 1000 L m hx hfv;rw [hm];simp [hml,hget,qci,hmL]
      cases x with
      | none=>
       simp [qbi,hwk,hml,hget,qci,hmL];refine fun gf1 gf2=>.move 47 (1000 + m) _ (by omega) (by simp; rfl) fun g2=>.done ⟨k + 1,L.set m (some (g2,[qpx i k])),?_⟩;have n1 : ¬ 1000 + m = 47:=by omega
       have n2 : ¬ 1000 + m = 14:=by omega
       have n3 : ¬ 1000 + m = 1:=by omega
       have n4 : ¬ 14 = 1000 + m:=by omega
       have n5 : ¬ 1 = 1000 + m:=by omega
       have n6 : ¬ 46 = 1000 + m:=by omega
       have n7 : ¬ 47 = 1000 + m:=by omega
       refine ⟨⟨hk,hadd g2⟩,?_⟩;have hfr:=jab (mvS 47 (gf2 47) (1000 + m) g2) 1000 L (qqp _ _ _ _ _ (by omega));simp [n4,n5,n6,n7,qao _ (qdn _),qao _ (qcu _),qee _ (qyo c),List.map_set,hfr,<- quj,qbi,qpx];refine ⟨ql4 (by simp [n2]) fun j g3 l3 hj hL=>?_,by omega⟩;have q1 : ¬ 1000 + j = 1000 + m:=by omega
       have q2 : ¬ 1000 + j = 14:=by omega
       have q3 : ¬ 1000 + j = 46:=by omega
       have q4 : ¬ 1000 + j = 1:=by omega
       have q5 : ¬ 1000 + j = 47:=by omega
       have q6:=(h2.2 j _ hL).2.1;simp [hj,q2,q3,q4,qzq (s:=mvS 47 (gf2 47) (1000 + m) g2) (g:=g2) (b:=47) (by omega) q1 q5 hL q6]
      | some p=>
       obtain ⟨g,l⟩:=p;simp only [qa0] at hlen hpu;have hle : l.length + 1 ≤ 274877906944:=by omega
       have n1 : ¬ 1000 + m = 46:=by omega
       have n2 : ¬ 1000 + m = 14:=by omega
       have n3 : ¬ 1000 + m = 1:=by omega
       have n4 : ¬ 14 = 1000 + m:=by omega
       simp [qbi,hwk,hml,hget,qci,hmL,hlk,ja3,hle,n1,n2,n3,n4];refine fun gf1 gf2=>.done ⟨k + 1,L.set m (some (gf2 (1000 + m),l ++ [qpx i k])),?_⟩;refine ⟨⟨hk,hadd _⟩,?_⟩;have n5 : ¬ 1 = 1000 + m:=by omega
       simp [n5,<- quj,qbi,qpx];refine ⟨ql4 (by simp [n2]) fun j g3 l3 hj hL=>?_,by omega⟩;have q1 : ¬ 1000 + j = 1000 + m:=by omega
       have q2 : ¬ 1000 + j = 14:=by omega
       have q3 : ¬ 1000 + j = 46:=by omega
       have q4 : ¬ 1000 + j = 1:=by omega
       simp [hj,q2,q3,q4,qis 2 1000 L j hL,ja3]
     ·simp at ho;simp [hwk];have hk' : k < (c.n.getD i default).i.length:=by rw [hnd]; exact hk
      refine .done ⟨k + 1,L,⟨hk,h2.skip hk' ?_⟩,by simp,?_,by omega⟩
      ·intro j hj e;simp only [hnd] at e;omega
      ·simp;exact qb1 fun t ht=>by simp [show ¬ t = 14 by omega,show ¬ t = 1 by omega]
    ·have hk : ¬ k < c.n[i].i.length:=jpq hc;simp [hw];refine ⟨i + 1,L,⟨by omega,h2.next (by rw [hnd]; omega) hi⟩,rfl,⟨rfl,?_⟩,by omega⟩;exact qb1 fun t ht=>by simp [show ¬ t = 14 by omega,show ¬ t = 1 by omega]
  ·have hi : i = c.n.length:=by have:=jpq hb; omega
   subst hi;simp
   refine jpj (X:=Nat) (fun x=>[(53,.int .i64 (x : Int)),(52,.int .i64 (c.n.length : Int)),(51,.ref 14 g14 0 c.n.length (some c.n.length)),(3,.ref 14 g14 0 c.n.length (some c.n.length))])
    (fun x=>(14,.row g14 1 (qoj 1000 x L)) :: qjf 2 1000 L)
    (fun x=>x ≤ c.n.length) (fun x=>c.n.length - x) 0 ?_ ?_ ?_ ?_
   ·simp
   ·simp
   ·simp [q0r];exact qb1 fun t ht=>by simp [show ¬ t = 14 by omega,show ¬ t = 1 by omega]
   ·rintro i h3;simp;refine jph (fun hb=>?_) (fun hb=>?_)
    ·have hi : i < c.n.length:=jpp hb;have hiL : i < L.length:=by rw [h2.1]; exact hi
     have hw : IntKind.i64.wrap ((i : Int) + 1) = ((i + 1 : Nat) : Int):=by rw [qaq] <;> omega
     obtain ⟨x,hx⟩ : ∃ x,L[i]? = some x:=⟨_,jpv hiL⟩;have hml : (qoj 1000 i L).length = c.n.length:=by rw [qsy _ _ _ (by omega),h2.1]
     have hget:=q36 1000 i L hx (by rw [hml]; exact hi);have hlk:=qis 2 1000 L i hx;have hset:=q41 1000 i L hx;simp [hi,hml,hget]
     cases x with
     | none=>
      simp [qbi];have hsub : Sub ((14,Blk.row g14 1 (qoj 1000 i L)) :: qjf 2 1000 L) ((14,Blk.row g14 1 (qoj 1000 i L)) :: qjf 2 1000 L):=⟨by simp,qb1 fun t ht=>by simp [show ¬ t = 14 by omega]⟩;refine qv1 _ hsub ?_;simp [hi,hml,hget,qbi];refine ⟨i + 1,by omega,hw,⟨hset,?_⟩,by omega⟩;exact qb1 fun t ht=>by simp [show ¬ t = 14 by omega]
     | some p=>
      obtain ⟨g,l⟩:=p;have n2 : ¬ 1000 + i = 14:=by omega
      have hsub : Sub ((14,Blk.row g14 1 (qoj 1000 i L)) :: qjf 2 1000 L) ((14,Blk.row g14 1 (qoj 1000 i L)) :: qjf 2 1000 L):=⟨by simp,qb1 fun t ht=>by simp [show ¬ t = 14 by omega]⟩;simp [qbi];refine qvr (es:=l) (by simp [n2,hlk,ja3]) _ hsub ?_;simp [hi,hml,hget,qbi];refine ⟨i + 1,by omega,hw,⟨hset,?_⟩,by omega⟩;exact qb1 fun t ht=>by simp [show ¬ t = 14 by omega]
    ·have hi : i = L.length:=by have:=jpq hb; have:=h2.1; omega
     subst hi;simp [-frz];have hcl : (qga 1000 L).length = c.n.length:=by rw [qer,h2.1]
     rw [q29,qbc (es:=qga 1000 L) (sz:=1) (by simp) (by rw [hcl]; omega),List.drop_zero,jpt (by rw [hcl]; exact jpw _),qzf (sz:=2) 1000 L _ _ fun i g l hi=>⟨by simp [show ¬ 1000 + i = 14 by omega,qis 2 1000 L i hi,ja3],(h2.2 i _ hi).2.1⟩];congr 1;unfold qoq;refine List.ext_getElem? fun i=>?_;simp only [List.getElem?_map]
     cases hx : L[i]? with
     | none=>
      have : ¬ i < c.n.length:=by rw [<- h2.1]; simpa using hx
      simp [this]
     | some x=>
      have hi : i < c.n.length:=by rw [<- h2.1]; exact (List.getElem?_eq_some_iff.1 hx).1
      have hx3:=(h2.2 i x hx).2.2;have e1 : c.n.getD c.n.length default = default:=by simp [jpr]
      have e2 : (default : Nd).i = []:=rfl;rw [e1,e2,List.drop_eq_nil_of_le (show c.n.length ≤ c.n.length + 1 by omega)] at hx3;simp [qr1,qgn] at hx3;simp [hi,qk2,hx3]
end
end Go.Proofs.YtpaopccohkldlaaGreatDoor
