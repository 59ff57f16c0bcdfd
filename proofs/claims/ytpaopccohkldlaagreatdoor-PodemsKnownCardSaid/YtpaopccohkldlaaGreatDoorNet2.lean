/- Lemmas. Conditions: none. -/
import Derived.Test.YtpaopccohkldlaaGreatDoorXP
set_option linter.all false
namespace Go.Proofs.YtpaopccohkldlaaGreatDoor
section
open Go
def gl0:Fr:=[(1,.iptr (.agg ([0,0,0,0,0,0,1,1,1,1,2,16,2,16,2,16,2,16,2,16,2,16,3,3,2,2,1,16,1,1,0,0].map (V.int .i64))) 0),(4,.iptr (.agg [.int .i64 1,.int .i64 1]) 0),(3,.iptr (.agg [.int .i64 1073741824,.int .i64 1073741824]) 0),(0,.iptr (.agg [.int .i64 (-1),.int .i64 0,.int .i64 0]) 0)]
theorem qe9:lk gl0 0 = some (.iptr (.agg [.int .i64 (-1),.int .i64 0,.int .i64 0]) 0):=rfl
end
section
open Go
theorem q5d (k:Int):qab Tryz.prog gl0 82 [.int .u8 k] (.bool (decide (1≤k/\k≤13))):=by
 refine jpb 2 ok82 rfl ?_
 repeat' (first | refine jo8 (fun _=>?_) (fun _=>?_) | (intro _) | simp [*,i82,x82])
theorem jcw (s:List UInt8) (c:Int) (h:0≤c/\c < 256):qab Tryz.prog gl0 245 [.str s,.int .u8 c] (.int .i64 (qi9 c s 0)):=by
 refine jpb 2 jld rfl ?_;simp [i245,x245,nop,h]
theorem q7q (s:List UInt8) (c:Int) (h:0≤c/\c < 256):qab Tryz.prog gl0 240 [.str s,.int .u8 c] (.int .i64 (qi9 c s 0)):=by
 refine jpb 2 jlb rfl ?_;simp [i240,x240];refine jo7 (jcw s c h) rfl ?_;simp
theorem qiq {x:Int} (h0:0≤x) (h1:x < 256):IntKind.u8.wrap x = x:=by
 simp [IntKind.wrap,IntKind.bits,IntKind.signed]; omega
theorem jcx (s:List UInt8) (r:Int) (h:0≤r/\r < 128):qab Tryz.prog gl0 238 [.str s,.int .i32 r] (.int .i64 (qi9 r s 0)):=by
 have hw:IntKind.u8.wrap r = r:=qiq h.1 (by omega);refine jpb 2 jk9 rfl ?_;simp [i238,x238,h,hw];refine jo7 (q7q s r ⟨h.1,by omega⟩) rfl ?_;simp
theorem q67 (s:List UInt8) (r:Int) (h:0≤r/\r < 128):qab Tryz.prog gl0 229 [.str s,.int .i32 r] (.bool (decide (0≤qi9 r s 0))):=by
 refine jpb 2 jk3 rfl ?_;simp [i229,x229];refine jo7 (jcx s r h) rfl ?_;simp
def jbk (r:Int):Bool:=decide (r≤32) || decide (126 < r) || decide (0≤qi9 r [40,41,61,44,35] 0)
theorem jh3 (r:Int):qab Tryz.prog gl0 228 [.int .i32 r] (.bool (jbk r)):=by
 refine jpb 2 jk2 rfl ?_;by_cases h1:r≤32
 ·simp [jf7,jhk,h1,jbk]
 ·by_cases h2:126 < r
  ·simp [jf7,jhk,h1,h2,jbk]
  ·simp [jf7,jhk,h1,h2,jbk];refine jo7 (q67 _ r ⟨by omega,by omega⟩) rfl ?_;simp
def qds:Nat->List UInt8->Nat->Int
 | 0,_,_=>-1
 | n + 1,s,pos=>if pos < s.length then (if jbk (Utf8.decode ⟨s.toArray⟩ pos).1 = true then (pos:Int) else qds n s (pos + (Utf8.decode ⟨s.toArray⟩ pos).2)) else -1
theorem q69 (s:List UInt8) (pos:Nat):1≤(Utf8.decode ⟨s.toArray⟩ pos).2:=by
 simp only [Utf8.decode]
 repeat' split
 all_goals simp
theorem q2r (s:List UInt8):qab Tryz.prog gl0 244 [.str s,.fn 228 [] [],.bool true] (.int .i64 (qds (s.length + 1) s 0)):=by
 obtain ⟨r,hr⟩:∃ r,qds (s.length + 1) s 0 = r:=⟨_,rfl⟩;rw [hr];refine jpb 2 jlc rfl ?_;simp [i244,x244,nop];intro gf
 refine jpa (X:=Nat × Nat) (fun x=>[(0,.str s),(1,.fn 228 [] []),(2,.bool true),(10,.own 10 (gf 10))]) (fun x=>[(10,.siter (gf 10) s x.1)])
  (fun x=>s.length < x.1 + x.2/\qds x.2 s x.1 = r) (fun x=>x.2) (0,s.length + 1) ⟨by simp,hr⟩ (by simp) (by simp) ?_
 rintro ⟨pos,fuel⟩ ⟨h2,h3⟩;dsimp only at h2 h3
 cases fuel with
 | zero=>
  have hp:¬ pos < s.length:=by omega
  simp [nop,hp,<- h3,qds]
 | succ fuel=>
  have hd:=q69 s pos;by_cases hp:pos < s.length
  ·simp [nop,hp];refine jo7 (jh3 _) rfl ?_;simp;refine jo8 (fun hb=>?_) (fun hb=>?_)
   ·simp [<- h3,qds,hp,hb]
   ·simp;refine ⟨_,fuel,⟨?_,?_⟩,rfl,by omega⟩
    ·omega
    ·rw [<- h3]; simp [qds,hp,hb]
  ·simp [nop,hp,<- h3,qds]
theorem q2o (s:List UInt8):qab Tryz.prog gl0 239 [.str s,.fn 228 [] []] (.int .i64 (qds (s.length + 1) s 0)):=by
 refine jpb 2 jla rfl ?_;simp [i239,x239];refine jo7 (q2r s) rfl ?_;simp
theorem qrt (s:List UInt8):qab Tryz.prog gl0 230 [.str s,.fn 228 [] []] (.bool (decide (0≤qds (s.length + 1) s 0))):=by
 refine jpb 2 jk4 rfl ?_;simp [i230,x230];refine jo7 (q2o s) rfl ?_;simp
def qze (s:List UInt8):Bool:=decide (s ≠ []) && decide (s.length≤32) && !(decide (0≤qds (s.length + 1) s 0))
theorem q2w (s:List UInt8):qab Tryz.prog gl0 209 [.str s] (.bool (qze s)):=by
 have hc:=qrt s;refine jpb 2 jkq rfl ?_;unfold qze;generalize decide (0≤qds (s.length + 1) s 0) = q at *;simp [i209,x209];refine jo8 (fun h1=>?_) (fun h1=>?_)
 ·simp [h1]
 ·simp [h1];refine jo8 (fun h2=>?_) (fun h2=>?_)
  ·simp [h2];refine jo7 hc rfl ?_;simp
  ·simp [h2]
theorem pureL_map {α:Type} {f:α->V} (hf:∀ x,(f x).pure = true):∀ l:List α,jne (l.map f) = true
 | []=>rfl
 | x :: l=>by simp [jne,hf x,pureL_map hf l]
@[simp] theorem jef (l:List (List UInt8)):jne (l.map .str) = true:=pureL_map (fun _=>rfl) l
end
section
open Go
def qls (sz:Nat) (xs:List V) (v:V) (h:Hp):Prop:=(xs = []/\v = .sl [] (some 0)/\h = [])∨∃ g,v = .ref 0 g 0 xs.length (some xs.length)/\h = [(0,.row g sz xs)]
end
section
open Go
def qde (l:List Int):List V:=l.map (.int .i64)
@[simp] theorem q7s (l:List Int):(qde l).length = l.length:=by simp [qde]
@[simp] theorem qdp (l:List Int):jne (qde l) = true:=pureL_map (fun _=>rfl) l
structure Nd where
 k:Int
 i:List Int
 a:Int
 b:Int
 deriving Inhabited
def Nd.v (n:Nd):V:=.agg [.int .u8 n.k,.sl (qde n.i) none,.int .i64 n.a,.int .i64 n.b]
structure Md where
 a:List Int
 d:List Int
 w:Int
 deriving Inhabited
def Md.v (n:Md):V:=.agg [.sl (qde n.a) none,.sl (qde n.d) none,.int .i64 n.w]
structure Ci where
 n:List Nd
 s:List (List UInt8)
 m:List Md
 o:List Int
def Ci.v (c:Ci):V:=.agg [.sl (c.n.map Nd.v) none,.sl (c.s.map .str) none,.sl (c.m.map Md.v) none,.sl (qde c.o) none]
@[simp] theorem qek (l:List Nd):jne (l.map Nd.v) = true:=pureL_map (fun x=>by simp [Nd.v]) l
@[simp] theorem qfc (l:List Md):jne (l.map Md.v) = true:=pureL_map (fun x=>by simp [Md.v]) l
theorem qfw {a b:List V} (h:jne a = true) (k:jne b = true):jne (a ++ b) = true:=by
 rw [jnj] at *;intro v hv;rcases List.mem_append.1 hv with q | q
 ·exact h v q
 ·exact k v q
theorem qce {l:List V} (h:jne l = true) {f:Nat->Nat->Nat->Nat->Option Nat->V} {p:Nat->Nat->Nat->Nat->V}:(l.map fun x=>V.mapR f p x) = l:=by
 have:=qad (f:=f) (p:=p) l h;rw [qcj] at this; exact this
def qbo (b:Nat):Option (Nat × List V)->V
 | none=>.nil
 | some (g,l)=>.ref b g 0 l.length none
def qbn (b sz:Nat):Option (Nat × List V)->Hp
 | none=>[]
 | some (g,l)=>[(b,.row g sz l)]
def qa7:Option (Nat × List V)->List V
 | none=>[]
 | some (_,l)=>l
def qvm (l:List V):V:=match l with
 | []=>.nil
 | _ :: _=>.sl l none
theorem qa0 (l:List Int) (i:Nat) (h:i < (qde l).length):(qde l)[i] = .int .i64 (l[i]'(by simpa using h)):=by simp [qde]
end
section
open Go
end
section
open Go
def qlz (x:Int):List Int->Nat->Int
 | [],_=>-1
 | y :: r,i=>if x = y then (i:Int) else qlz x r (i + 1)
theorem qpq (x:Int):∀ (l:List Int) (i:Nat),(0≤qlz x l i)↔x ∈ l
 | [],i=>by simp [qlz]
 | y :: l,i=>by
  by_cases h:x = y
  ·simp [qlz,h]
  ·simp [qlz,h,qpq x l (i + 1)]
theorem q2p (x:Int) (l:List Int) (cap:Option Nat) (hl:l.length < 1000000000000):qab Tryz.prog gl0 166 [.sl (l.map (.int .u8)) cap,.int .u8 x] (.int .i64 (qlz x l 0)):=by
 obtain ⟨q,hq⟩:∃ r,qlz x l 0 = r:=⟨_,rfl⟩;rw [hq];refine jpb 2 jj7 rfl ?_;simp [i166,x166]
 refine jpa (X:=Nat) (fun i=>[(8,.int .i64 (i:Int)),(7,.int .i64 (l.length:Int)),(0,.sl (l.map (.int .u8)) cap),(1,.int .u8 x)]) (fun _=>[])
  (fun i=>i≤l.length/\qlz x (l.drop i) i = q) (fun i=>l.length - i) 0 ⟨by simp,by simpa using hq⟩ (by simp) (by simp) ?_
 rintro i ⟨h2,h3⟩;simp;refine jo8 (fun h1=>?_) (fun h1=>?_)
 ·have h1':i < l.length:=jpf h1;have hw:IntKind.i64.wrap ((i:Int) + 1) = ((i + 1:Nat):Int):=by rw [qas] <;> omega
  rw [List.drop_eq_getElem_cons h1'] at h3;simp only [qlz] at h3;simp [h1'];refine jo8 (fun h4=>?_) (fun h4=>?_)
  ·rw [if_pos (jpf h4)] at h3;simp [h3]
  ·rw [if_neg (jpg h4)] at h3;simp [hw];exact ⟨i + 1,⟨h1',h3⟩,rfl,by omega⟩
 ·have h1':i = l.length:=by have:=jpg h1; omega
  subst h1';simp [qlz] at h3;simp [h3]
@[simp] theorem jgv (l:List Int):jne (l.map (.int .u8)) = true:=pureL_map (fun _=>rfl) l
theorem qh5 (x:Int) (l:List Int) (cap:Option Nat) (hl:l.length < 1000000000000):qab Tryz.prog gl0 130 [.sl (l.map (.int .u8)) cap,.int .u8 x] (.bool (decide (x ∈ l))):=by
 refine jpb 2 jjo rfl ?_;simp [i130,x130];refine jo7 (q2p x l cap hl) (by simp) ?_;simp [qpq]
def qmv (ks:List Int):List Nd->Nat->List V
 | [],_=>[]
 | n :: r,i=>if n.k ∈ ks then .int .i64 (i:Int) :: qmv ks r (i + 1) else qmv ks r (i + 1)
theorem ji1 (c:Ci) (ks:List Int) (cap:Option Nat) (hl:c.n.length < 1000000) (hk:ks.length < 1000000000000):qbi Tryz.prog gl0 88 [c.v,.sl (ks.map (.int .u8)) cap] (qls 1 (qmv ks c.n 0)):=by
 refine jpd ok88 rfl ?_;obtain ⟨q,hq⟩:∃ r,qmv ks c.n 0 = r:=⟨_,rfl⟩;rw [hq];simp [i88,x88,Ci.v];intro gf
 refine jpa (X:=Nat × Option (Nat × List V)) (fun x=>[(11,.int .i64 (x.1:Int)),(10,.int .i64 (c.n.length:Int)),(9,.sl (c.n.map Nd.v) none),(5,qbo 23 x.2),(1,.sl (ks.map (.int .u8)) cap)])
  (fun x=>qbn 23 1 x.2)
  (fun x=>x.1≤c.n.length/\(x.2 = none∨qa7 x.2 ≠ [])/\(qa7 x.2).length≤x.1/\jne (qa7 x.2) = true/\qa7 x.2 ++ qmv ks (c.n.drop x.1) x.1 = q) (fun x=>c.n.length - x.1) (0,none) ⟨by simp,by simp,by simp [qa7],by simp [qa7],by simpa [qa7] using hq⟩ (by simp [qbo]) (by simp [qbn]) ?_
 rintro ⟨i,acc⟩ ⟨h1,h2,h3,h4,h5⟩;dsimp only at h1 h2 h3 h4 h5;simp;refine jo8 (fun hb=>?_) (fun hb=>?_)
 ·have hi:i < c.n.length:=jpf hb;have hw:IntKind.i64.wrap ((i:Int) + 1) = ((i + 1:Nat):Int):=by rw [qas] <;> omega
  rw [List.drop_eq_getElem_cons hi] at h5;simp only [qmv] at h5;simp [hi,Nd.v];intro gf2;refine jo7 (qh5 _ ks cap hk) (by simp) ?_;simp;refine jo8 (fun hk=>?_) (fun hk=>?_)
  ·rw [if_pos (jpf hk)] at h5
   cases acc with
   | none=>
    simp [qbo,qbn,hw];refine fun gf1 gf2=>⟨i + 1,some (gf2 23,[.int .i64 i]),?_⟩;simp [qa7] at h5 ⊢;exact ⟨⟨by omega,h5⟩,by omega⟩
   | some gl=>
    obtain ⟨g,l⟩:=gl;simp only [qa7] at h3 h4 h5 h2;have hle:l.length + 1≤274877906944:=by omega
    simp [qbo,qbn,hw,hle];refine fun gf1 gf2=>⟨i + 1,some (gf2 23,l ++ [.int .i64 i]),?_⟩;simp [qa7,h5,List.append_assoc];exact ⟨⟨by omega,by omega,qfw h4 rfl⟩,by omega⟩
  ·rw [if_neg (jpg hk)] at h5;simp [hw];exact ⟨i + 1,acc,⟨by omega,h2,by omega,h4,h5⟩,⟨rfl,rfl⟩,by cases acc <;> simp [qbn],by omega⟩
 ·have hi:¬ i < c.n.length:=jpg hb;rw [List.drop_eq_nil_of_le (by omega)] at h5;simp only [qmv,List.append_nil] at h5
  cases acc with
  | none=>
   simp [qa7] at h5;subst h5;simp [qbo,qbn];refine jpe q8l rfl ?_;simp [jf3,jhg];exact .done (by simpa using ⟨[],trivial,.done (by simp [qls])⟩)
  | some gl=>
   obtain ⟨g,l⟩:=gl;simp only [qa7] at h3 h4 h5 h2;subst h5;simp [qbo,qbn];refine jpe q8l rfl ?_;simp [jf3,jhg];refine .done ?_;simp only [lk,if_true];refine ⟨[(23,Blk.row g 1 l)],by simp,.move 23 0 _ (by simp) (by simp; rfl) fun g2=>.done ?_⟩;simp [qaf h4,qls]
theorem qc7 (ks:List Int):∀ (l:List Nd) (i:Nat),jnl (qmv ks l i) = true/\jne (qmv ks l i) = true
 | [],i=>⟨rfl,rfl⟩
 | n :: r,i=>by
  obtain ⟨h1,h2⟩:=qc7 ks r (i + 1);simp only [qmv];split
  ·exact ⟨by simp [jnl,V.noG,h1],by simp [jne,V.pure,h2]⟩
  ·exact ⟨h1,h2⟩
theorem q2s (c:Ci) (hl:c.n.length < 1000000):qbi Tryz.prog gl0 44 [c.v] (qls 1 (qmv [0] c.n 0)):=by
 obtain ⟨n1,n2⟩:=qc7 [0] c.n 0;refine jpd ok44 rfl ?_;simp [i44,x44,Ci.v];intro gf gf2;refine jny 1 1000 (ji1 c [0] (some 1) hl (by simp)) (by simp [Ci.v,qad]) (by simp) ?_;rintro v h' (⟨hq,rfl,rfl⟩ | ⟨g,rfl,rfl⟩)
 ·refine ⟨rfl,fun b k hb=>by simp [lk] at hb,fun gf=>?_⟩;simp;exact .done (by simpa using ⟨[],trivial,by simp [qls,hq]⟩)
 ·refine ⟨rfl,fun b k hb=>?_,fun gf=>?_⟩
  ·simp only [lk] at hb;split at hb
   ·cases hb; exact n1
   ·cases hb
  ·simp [qaf n2];refine .move 1000 0 _ (by simp) (by simp; rfl) fun g2=>.done ?_;simp [qaf n2,qls]
theorem q4i (c:Ci) (hl:c.n.length < 1000000):qbi Tryz.prog gl0 45 [c.v] (qls 1 (qmv [14] c.n 0)):=by
 obtain ⟨n1,n2⟩:=qc7 [14] c.n 0;refine jpd ok45 rfl ?_;simp [i45,x45,Ci.v];intro gf gf2;refine jny 1 1000 (ji1 c [14] (some 1) hl (by simp)) (by simp [Ci.v,qad]) (by simp) ?_;rintro v h' (⟨hq,rfl,rfl⟩ | ⟨g,rfl,rfl⟩)
 ·refine ⟨rfl,fun b k hb=>by simp [lk] at hb,fun gf=>?_⟩;simp;exact .done (by simpa using ⟨[],trivial,by simp [qls,hq]⟩)
 ·refine ⟨rfl,fun b k hb=>?_,fun gf=>?_⟩
  ·simp only [lk] at hb;split at hb
   ·cases hb; exact n1
   ·cases hb
  ·simp [qaf n2];refine .move 1000 0 _ (by simp) (by simp; rfl) fun g2=>.done ?_;simp [qaf n2,qls]
end
section
open Go
def qp8 (i k:Nat):V:=.agg [.int .i64 (i:Int),.int .i64 (k:Int)]
def qsk (w:Int) (i:Nat):List Int->Nat->List V
 | [],_=>[]
 | x :: r,k=>if x = w then qp8 i k :: qsk w i r (k + 1) else qsk w i r (k + 1)
def qgb (w:Int):List Nd->Nat->List V
 | [],_=>[]
 | n :: r,i=>qsk w i n.i 0 ++ qgb w r (i + 1)
end
section
open Go
theorem qxp (c:Ci):c.v.pure = true:=by simp [Ci.v]
theorem qhp (c:Ci):qab Tryz.prog gl0 184 [c.v] (.fn 212 [] [.iptr c.v 0]):=by
 refine jpb 2 jkg rfl ?_;simp [i184,x184,Ci.v,qad]
theorem qik (c:Ci) (i:Int):qab Tryz.prog gl0 212 [.int .i64 i,.iptr c.v 0] (.bool (decide (i < 0) || decide ((c.n.length:Int)≤i))):=by
 refine jpb 2 jkt rfl ?_;simp [i212,x212,Ci.v];refine jo8 (fun h1=>?_) (fun h1=>?_)
 ·simp [h1]
 ·simp [h1]
end
section
open Go
abbrev Fam:=List (Option (Nat × List V))
def qiv (sz b:Nat):Fam->Hp
 | []=>[]
 | x :: r=>qbn b sz x ++ qiv sz (b + 1) r
def qjk (b:Nat):Fam->List V
 | []=>[]
 | x :: r=>qbo b x :: qjk (b + 1) r
theorem qcb (b:Nat) (L:Fam):(qjk b L).length = L.length:=by
 induction L generalizing b with
 | nil=>rfl
 | cons x r ih=>simp [qjk,ih]
theorem q2f (b:Nat) (L:Fam) (i:Nat) (h:i < L.length):(qjk b L)[i]'(by rw [qcb]; exact h) = qbo (b + i) L[i]:=by
 induction L generalizing b i with
 | nil=>simp at h
 | cons x r ih=>
  cases i with
  | zero=>simp [qjk]
  | succ i=>
   simp only [qjk,List.getElem_cons_succ];rw [ih (b + 1) i (by simpa using h),show b + 1 + i = b + (i + 1) by omega]
theorem qr8 (sz b:Nat) (L:Fam) (t:Nat) (h:t < b):lk (qiv sz b L) t = none:=by
 induction L generalizing b with
 | nil=>rfl
 | cons x r ih=>
  have:=ih (b + 1) (by omega)
  cases x with
  | none=>simpa [qiv,qbn] using this
  | some p=>
   obtain ⟨g,l⟩:=p;have hne:¬ t = b:=by omega
   simp [qiv,qbn,lk,hne,this]
theorem q73 (sz b:Nat) (L:Fam) (i:Nat) (h:i < L.length):lk (qiv sz b L) (b + i) = match L[i] with | some (g,l)=>some (.row g sz l) | none=>none:=by
 induction L generalizing b i with
 | nil=>simp at h
 | cons x r ih=>
  cases i with
  | zero=>
   cases x with
   | none=>simpa [qiv,qbn] using qr8 sz (b + 1) r b (by omega)
   | some p=>obtain ⟨g,l⟩:=p; simp [qiv,qbn,lk]
  | succ i=>
   have:=ih (b + 1) i (by simpa using h);rw [show b + 1 + i = b + (i + 1) by omega] at this;have hne:¬ b + (i + 1) = b:=by omega
   cases x with
   | none=>simpa [qiv,qbn] using this
   | some p=>obtain ⟨g,l⟩:=p; simpa [qiv,qbn,lk] using this
theorem qtm (b:Nat) (L:Fam) (i:Nat) (x:Option (Nat × List V)):(qjk b L).set i (qbo (b + i) x) = qjk b (L.set i x):=by
 induction L generalizing b i with
 | nil=>rfl
 | cons y r ih=>
  cases i with
  | zero=>simp [qjk]
  | succ i=>
   simp only [qjk,List.set_cons_succ];rw [<- ih (b + 1) i,show b + 1 + i = b + (i + 1) by omega]
end
section
open Go
theorem q9q {a b c:Hp}:Sub (a ++ b) c↔Sub a c/\Sub b c:=by
 induction a with
 | nil=>simp [Sub]
 | cons p r ih=>obtain ⟨k,v⟩:=p; simp [Sub,ih,and_assoc]
theorem q4l (sz b:Nat) (L:Fam) (h:Hp) (hk:∀ i (hi:i < L.length) g l,L[i] = some (g,l)->lk h (b + i) = some (.row g sz l)):Sub (qiv sz b L) h:=by
 induction L generalizing b with
 | nil=>trivial
 | cons x r ih=>
  simp only [qiv,q9q];refine ⟨?_,ih (b + 1) fun i hi g l he=>?_⟩
  ·cases x with
   | none=>trivial
   | some p=>obtain ⟨g,l⟩:=p; exact ⟨by simpa using hk 0 (by simp) g l rfl,trivial⟩
  ·have:=hk (i + 1) (by simpa using hi) g l (by simpa using he)
   rwa [show b + (i + 1) = b + 1 + i by omega] at this
end
section
open Go
theorem q7h (s:Nat->Nat->Nat × Nat) (b:Nat) (L:Fam) (h:∀ i g,b≤i->s i g = (i,g)):(qjk b L).map (V.rn s) = qjk b L:=by
 induction L generalizing b with
 | nil=>rfl
 | cons x r ih=>
  have h1:=ih (b + 1) fun i g hi=>h i g (by omega);simp only [qjk,List.map_cons,h1];congr 1
  cases x with
  | none=>rfl
  | some p=>obtain ⟨g,l⟩:=p; simp [qbo,V.rn,h b g (jpm _)]
theorem jdr (b g b' g' base:Nat) (h:b < base):∀ i y,base≤i->mvS b g b' g' i y = (i,y):=by
 intro i y hi;have:¬ i = b:=by omega
 simp [mvS,this]
end
section
open Go
def qku (L:List V):V:=.sl L (some L.length)
def q17 (b:Nat):Option (Nat × List V)->V
 | none=>.sl [] (some 0)
 | some (g,l)=>.ref b g 0 l.length (some l.length)
def qfp (b:Nat):Fam->List V
 | []=>[]
 | x :: r=>q17 b x :: qfp (b + 1) r
theorem qeg (b:Nat) (L:Fam):(qfp b L).length = L.length:=by
 induction L generalizing b with
 | nil=>rfl
 | cons x r ih=>simp [qfp,ih]
theorem qpg (b:Nat) (L M:Fam):qfp b (L ++ M) = qfp b L ++ qfp (b + L.length) M:=by
 induction L generalizing b with
 | nil=>rfl
 | cons x r ih=>simp [qfp,ih,show b + 1 + r.length = b + (r.length + 1) by omega]
def qno (c:Ci):List V:=(List.range c.n.length).map fun (j:Nat)=>qku (qgb (j:Int) c.n 0)
theorem qtn (b:Nat) (L:Fam) (i:Nat) {x:Option (Nat × List V)} (h:L[i]? = some x) (hi:i < (qjk b L).length):(qjk b L)[i] = qbo (b + i) x:=by
 obtain ⟨h1,h2⟩:=List.getElem?_eq_some_iff.1 h;rw [q2f b L i h1,h2]
theorem qx9 (b n:Nat):qjk b (List.replicate n none) = List.replicate n .nil:=by
 induction n generalizing b with
 | zero=>rfl
 | succ n ih=>simp [List.replicate_succ,qjk,qbo,ih]
theorem qx8 (sz b n:Nat):qiv sz b (List.replicate n none) = []:=by
 induction n generalizing b with
 | zero=>rfl
 | succ n ih=>simp [List.replicate_succ,qiv,qbn,ih]
def qq7 (c:Ci) (i k:Nat) (L:Fam):Prop:=L.length = c.n.length/\∀ (j:Nat) x,L[j]? = some x->(x = none∨qa7 x ≠ [])/\jne (qa7 x) = true/\qa7 x ++ (qsk j i ((c.n.getD i default).i.drop k) k ++ qgb j (c.n.drop (i + 1)) (i + 1)) = qgb j c.n 0
theorem qq7.start (c:Ci):qq7 c 0 0 (List.replicate c.n.length none):=by
 refine ⟨by simp,fun j x hj=>?_⟩;rw [List.getElem?_replicate] at hj;split at hj
 ·rename_i h;cases hj;refine ⟨.inl rfl,rfl,?_⟩
  cases hn:c.n with
  | nil=>rw [hn] at h; simp at h
  | cons a r=>simp [qa7,qgb]
 ·cases hj
theorem qq7.next {c:Ci} {i k:Nat} {L:Fam} (h:qq7 c i k L) (hk:(c.n.getD i default).i.length≤k) (hi:i < c.n.length):qq7 c (i + 1) 0 L:=by
 refine ⟨h.1,fun j x hj=>?_⟩;obtain ⟨h1,h2,h3⟩:=h.2 j x hj;refine ⟨h1,h2,?_⟩;rw [List.drop_eq_nil_of_le hk] at h3;rw [<- h3];congr 1;simp only [qsk,List.nil_append];by_cases hn:i + 1 < c.n.length
 ·rw [List.drop_eq_getElem_cons hn];simp [qgb,hn]
 ·have e1:c.n.getD (i + 1) default = default:=by simp [jph,hn]
  have e2:(default:Nd).i = []:=rfl;rw [List.drop_eq_nil_of_le (show c.n.length≤i + 1 by omega),List.drop_eq_nil_of_le (show c.n.length≤i + 1 + 1 by omega),e1,e2];simp [qgb,qsk]
theorem qq7.skip {c:Ci} {i k:Nat} {L:Fam} (h:qq7 c i k L) (hk:k < (c.n.getD i default).i.length) (hx:∀ j:Nat,j < c.n.length->(c.n.getD i default).i[k] ≠ (j:Int)):qq7 c i (k + 1) L:=by
 refine ⟨h.1,fun j x hj=>?_⟩;obtain ⟨h1,h2,h3⟩:=h.2 j x hj;refine ⟨h1,h2,?_⟩;rw [List.drop_eq_getElem_cons hk] at h3;have hjl:j < c.n.length:=by rw [<- h.1]; exact (List.getElem?_eq_some_iff.1 hj).1
 simp only [qsk,if_neg (hx j hjl)] at h3;exact h3
theorem qq7.add {c:Ci} {i k:Nat} {L:Fam} (h:qq7 c i k L) (hk:k < (c.n.getD i default).i.length) {m:Nat} {x:Option (Nat × List V)} (hm:L[m]? = some x) (hx:(c.n.getD i default).i[k] = (m:Int)) (g:Nat):qq7 c i (k + 1) (L.set m (some (g,qa7 x ++ [qp8 i k]))):=by
 refine ⟨by simpa using h.1,fun j y hj=>?_⟩;rw [List.getElem?_set] at hj;by_cases hjm:m = j
 ·subst hjm;have hl:m < L.length:=(List.getElem?_eq_some_iff.1 hm).1;simp [hl] at hj;subst hj;obtain ⟨h1,h2,h3⟩:=h.2 m x hm;refine ⟨.inr (by simp [qa7]),qfw h2 rfl,?_⟩;rw [List.drop_eq_getElem_cons hk] at h3;simp only [qsk,if_pos hx] at h3;rw [<- h3];simp only [qa7.eq_2];simp
 ·rw [if_neg hjm] at hj;obtain ⟨h1,h2,h3⟩:=h.2 j y hj;refine ⟨h1,h2,?_⟩;rw [List.drop_eq_getElem_cons hk] at h3;have:¬ (c.n.getD i default).i[k] = (j:Int):=by rw [hx]; omega
  simp only [qsk,if_neg this] at h3;exact h3
theorem qq7.len {c:Ci} {i k:Nat} {L:Fam} (h:qq7 c i k L) {m:Nat} {x:Option (Nat × List V)} (hm:L[m]? = some x):(qa7 x).length≤(qgb m c.n 0).length:=by
 obtain ⟨h1,h2,h3⟩:=h.2 m x hm;rw [<- h3]; simp
def jan (sz:Nat):Option (Nat × List V)->Option Blk
 | some (g,l)=>some (.row g sz l)
 | none=>none
theorem qid (sz b:Nat) (L:Fam) (i:Nat) {x:Option (Nat × List V)} (h:L[i]? = some x):lk (qiv sz b L) (b + i) = jan sz x:=by
 obtain ⟨h1,h2⟩:=List.getElem?_eq_some_iff.1 h;rw [q73 sz b L i h1,h2];cases x <;> rfl
theorem qqz (sz b:Nat) (L:Fam) (h:Hp) (hk:∀ (i g:Nat) l,L[i]? = some (some (g,l))->lk h (b + i) = some (.row g sz l)):Sub (qiv sz b L) h:=
 q4l sz b L h fun i hi g l he=>hk i g l (by rw [jpl hi,he])
theorem qlg {sz b:Nat} {L:Fam} {h:Hp} {m g:Nat} {l:List V} (hm:lk h (b + m) = some (.row g sz l)) (ho:∀ (i g:Nat) l,i ≠ m->L[i]? = some (some (g,l))->lk h (b + i) = some (.row g sz l)):Sub (qiv sz b (L.set m (some (g,l)))) h:=by
 refine qqz _ _ _ _ fun i g2 l2 hi=>?_;rw [List.getElem?_set] at hi;by_cases e:m = i
 ·subst e;by_cases hl:m < L.length
  ·simp [hl] at hi;obtain ⟨rfl,rfl⟩:=hi;exact hm
  ·simp [hl] at hi
 ·rw [if_neg e] at hi;exact ho i g2 l2 (fun q=>e q.symm) hi
theorem qy3 {sz base:Nat} {L:Fam} {b b' g:Nat} {s:Nat->Nat->Nat × Nat} {i g2:Nat} {l:List V} (hne:b ≠ b') (h1:¬ base + i = b') (h2:¬ base + i = b) (hi:L[i]? = some (some (g2,l))) (hp:jne l = true):lk (mvH s b b' g (qiv sz base L)) (base + i) = some (.row g2 sz l):=by
 rw [q5v hne,if_neg h1,if_neg h2,qid sz base L i hi];simp [jan,qaf hp]
theorem qb0 {sz b:Nat} {L:Fam} {h:Hp} (hk:∀ t,b≤t->lk h t = lk (qiv sz b L) t):Sub (qiv sz b L) h:=
 qqz _ _ _ _ fun i g l hi=>by rw [hk _ (by omega),qid sz b L i hi]; rfl
def qn7 (b i:Nat) (L:Fam):List V:=qfp b (L.take i) ++ qjk (b + i) (L.drop i)
theorem qzc (b:Nat) (L:Fam):qn7 b 0 L = qjk b L:=by simp [qn7,qfp]
theorem q3f (b:Nat) (L:Fam):qn7 b L.length L = qfp b L:=by simp [qn7,qjk]
theorem qsd (b i:Nat) (L:Fam) (h:i≤L.length):(qn7 b i L).length = L.length:=by simp [qn7,qeg,qcb]; omega
theorem q3g (b i:Nat) (L:Fam) {x:Option (Nat × List V)} (h:L[i]? = some x) (hi:i < (qn7 b i L).length):(qn7 b i L)[i] = qbo (b + i) x:=by
 obtain ⟨h1,h2⟩:=List.getElem?_eq_some_iff.1 h;have e:(qfp b (L.take i)).length = i:=by simp [qeg]; omega
 have:=qtn (b + i) (L.drop i) 0 (x:=x) (by simpa using h) (by rw [qcb]; simp; omega)
 have k:(qn7 b i L)[i]? = some (qbo (b + i) x):=by
  unfold qn7;rw [List.getElem?_append_right (by omega),e,Nat.sub_self,jpl (by rw [qcb]; simp; omega),this,Nat.add_zero]
 rw [jpl hi] at k;exact Option.some.inj k
theorem q3h (b i:Nat) (L:Fam) {x:Option (Nat × List V)} (h:L[i]? = some x):(qn7 b i L).set i (q17 (b + i) x) = qn7 b (i + 1) L:=by
 obtain ⟨h1,h2⟩:=List.getElem?_eq_some_iff.1 h;have e:(qfp b (L.take i)).length = i:=by simp [qeg]; omega
 unfold qn7;rw [List.set_append_right _ _ (by omega),e,Nat.sub_self,List.drop_eq_getElem_cons h1];simp only [qjk,List.set_cons_zero];rw [List.take_succ_eq_append_getElem h1,qpg,h2];simp [qfp,Nat.add_assoc];rw [Nat.min_eq_left (by omega)]
theorem qyd {sz:Nat} (b:Nat) (L:Fam) (h:Hp) (n:Nat) (hk:∀ (i g:Nat) l,L[i]? = some (some (g,l))->lk h (b + i) = some (.row g sz l)/\jne l = true):(qfp b L).map (frz h (n + 1)) = L.map fun x=>qku (qa7 x):=by
 induction L generalizing b with
 | nil=>rfl
 | cons x r ih=>
  simp only [qfp,List.map_cons];rw [ih (b + 1) fun i g l hi=>by have:=hk (i + 1) g l (by simpa using hi); rwa [show b + (i + 1) = b + 1 + i by omega] at this];congr 1
  cases x with
  | none=>simp [q17,qku,qa7]
  | some p=>
   obtain ⟨g,l⟩:=p;obtain ⟨q1,q2⟩:=hk 0 g l (by simp);rw [Nat.add_zero] at q1;simp only [q17];rw [qbx q1 (by omega),List.drop_zero,List.take_length,qbw h n q2];rfl
theorem qu7 {K:V->Hp->Prop} {h:Hp} (h2:Hp) (hs:Sub h2 h) (hk:K (.sl [] (some 0)) h2):qat Tryz.prog gl0 136 [.nil] h K:=by
 refine jpe q8m rfl ?_;simp [jf4,jhh];exact .done (by simpa using ⟨h2,hs,hk⟩)
theorem qu8 {K:V->Hp->Prop} {h:Hp} {b g l:Nat} {cap:Option Nat} {es:List V} (hb:lk h b = some (.row g 2 es)) (h2:Hp) (hs:Sub h2 h) (hk:K (.ref b g 0 l (some l)) h2):qat Tryz.prog gl0 136 [.ref b g 0 l cap] h K:=by
 refine jpe q8m rfl ?_;simp [jf4,jhh,hb];exact .done (by simpa using ⟨h2,hs,hk⟩)
theorem q2g (c:Ci) (hl:c.n.length < 1000000) (hin:∀ n ∈ c.n,n.i.length < 10000000) (hq:∀ j,(qgb j c.n 0).length≤1000000000):qab Tryz.prog gl0 147 [c.v] (.sl (qno c) (some c.n.length)):=by
 refine jpb 2 jju rfl ?_;simp [i147,x147,Ci.v];intro gf gf2;have:c.n.length≤549755813888:=by omega
 simp [this];refine jo7 (qhp c) (by simp) ?_;simp;generalize gf 1 = g1;generalize gf2 14 = g14;clear gf gf2
 refine jpa (X:=Nat × Fam) (fun x=>[(20,.int .i64 (x.1:Int)),(19,.int .i64 (c.n.length:Int)),(18,.sl (c.n.map Nd.v) none),(4,.fn 212 [] [.iptr c.v 0]),(3,.ref 14 g14 0 c.n.length (some c.n.length)),(1,.ptr 1 g1 0 0)])
  (fun x=>(14,.row g14 1 (qjk 1000 x.2)) :: (1,.row g1 4 [c.v]) :: qiv 2 1000 x.2)
  (fun x=>x.1≤c.n.length/\qq7 c x.1 0 x.2) (fun x=>c.n.length - x.1) (0,List.replicate c.n.length none) ?_ ?_ ?_ ?_
 ·exact ⟨by simp,qq7.start c⟩
 ·simp
 ·simp [qx9,qx8,Ci.v]
 ·rintro ⟨i,L⟩ ⟨h1,h2⟩;dsimp only at h1 h2;simp;refine jo8 (fun hb=>?_) (fun hb=>?_)
  ·have hi:i < c.n.length:=jpf hb;have hw:IntKind.i64.wrap ((i:Int) + 1) = ((i + 1:Nat):Int):=by rw [qas] <;> omega
   have hni:=hin c.n[i] (jpk hi);have hnd:c.n.getD i default = c.n[i]:=by simp [hi]
   simp [hi,Nd.v];intro gf6;generalize gf6 6 = g6
   refine jn5 (X:=Nat × Fam) (fun x=>[(28,.int .i64 (x.1:Int)),(27,.int .i64 (c.n[i].i.length:Int)),(26,.sl (qde c.n[i].i) none),(5,.int .i64 (i:Int)),(20,.int .i64 (i:Int)),(19,.int .i64 (c.n.length:Int)),(18,.sl (c.n.map Nd.v) none),(4,.fn 212 [] [.iptr c.v 0]),(3,.ref 14 g14 0 c.n.length (some c.n.length)),(1,.ptr 1 g1 0 0)])
    (fun x=>(14,.row g14 1 (qjk 1000 x.2)) :: (1,.row g1 4 [c.v]) :: qiv 2 1000 x.2)
    (fun x=>x.1≤c.n[i].i.length/\qq7 c i x.1 x.2) (fun x=>c.n[i].i.length - x.1) ?_ ?_
   ·refine .done ⟨(0,L),⟨by simp,h2⟩,by simp,?_⟩;simp;exact qb0 fun t ht=>by simp [show ¬ t = 6 by omega,show ¬ t = 14 by omega,show ¬ t = 1 by omega]
   ·clear h2 L;rintro ⟨k,L⟩ ⟨h3,h2⟩;dsimp only at h2 h3;simp;refine jo8 (fun hc=>?_) (fun hc=>?_)
    ·have hk:k < c.n[i].i.length:=jpf hc;have hwk:IntKind.i64.wrap ((k:Int) + 1) = ((k + 1:Nat):Int):=by rw [qas] <;> omega
     simp [hk,qa0];refine jo7 (qik c _) (by simp [Ci.v]) ?_;simp;refine jo8 (fun ho=>?_) (fun ho=>?_)
     ·simp at ho;obtain ⟨m,hm⟩:∃ m:Nat,c.n[i].i[k] = (m:Int):=⟨c.n[i].i[k].toNat,by omega⟩;have hml:m < c.n.length:=by omega
      have hmL:m < L.length:=by rw [h2.1]; exact hml
      obtain ⟨x,hx⟩:∃ x,L[m]? = some x:=⟨_,jpl hmL⟩;have hk':k < (c.n.getD i default).i.length:=by rw [hnd]; exact hk
      have hm':(c.n.getD i default).i[k] = (m:Int):=by simp only [hnd]; exact hm
      have hlk:=qid 2 1000 L m hx;have hadd:=fun g=>h2.add hk' hx hm' g;have hlen:=h2.len hx;have hqm:=hq m;have hpu:=(h2.2 m _ hx).2.1;have hfv:m < (qjk 1000 L).length:=by rw [qcb]; exact hmL
      have hget:=qtn 1000 L m hx hfv;rw [hm];simp [hml,hget,qcb,hmL]
      cases x with
      | none=>
       simp [qbo,hwk,hml,hget,qcb,hmL];refine fun gf1 gf2=>.move 47 (1000 + m) _ (by omega) (by simp; rfl) fun g2=>.done ⟨k + 1,L.set m (some (g2,[qp8 i k])),?_⟩;have n1:¬ 1000 + m = 47:=by omega
       have n2:¬ 1000 + m = 14:=by omega
       have n3:¬ 1000 + m = 1:=by omega
       have n4:¬ 14 = 1000 + m:=by omega
       have n5:¬ 1 = 1000 + m:=by omega
       have n6:¬ 46 = 1000 + m:=by omega
       have n7:¬ 47 = 1000 + m:=by omega
       refine ⟨⟨hk,hadd g2⟩,?_⟩;have hfr:=q7h (mvS 47 (gf2 47) (1000 + m) g2) 1000 L (jdr _ _ _ _ _ (by omega));simp [n4,n5,n6,n7,qan _ (qek _),qan _ (qdp _),qea _ (qxp c),List.map_set,hfr,<- qtm,qbo,qp8];refine ⟨qlg (by simp [n2]) fun j g3 l3 hj hL=>?_,by omega⟩;have q1:¬ 1000 + j = 1000 + m:=by omega
       have q2:¬ 1000 + j = 14:=by omega
       have q3:¬ 1000 + j = 46:=by omega
       have q4:¬ 1000 + j = 1:=by omega
       have q5:¬ 1000 + j = 47:=by omega
       have q6:=(h2.2 j _ hL).2.1;simp [hj,q2,q3,q4,qy3 (s:=mvS 47 (gf2 47) (1000 + m) g2) (g:=g2) (b:=47) (by omega) q1 q5 hL q6]
      | some p=>
       obtain ⟨g,l⟩:=p;simp only [qa7] at hlen hpu;have hle:l.length + 1≤274877906944:=by omega
       have n1:¬ 1000 + m = 46:=by omega
       have n2:¬ 1000 + m = 14:=by omega
       have n3:¬ 1000 + m = 1:=by omega
       have n4:¬ 14 = 1000 + m:=by omega
       simp [qbo,hwk,hml,hget,qcb,hmL,hlk,jan,hle,n1,n2,n3,n4];refine fun gf1 gf2=>.done ⟨k + 1,L.set m (some (gf2 (1000 + m),l ++ [qp8 i k])),?_⟩;refine ⟨⟨hk,hadd _⟩,?_⟩;have n5:¬ 1 = 1000 + m:=by omega
       simp [n5,<- qtm,qbo,qp8];refine ⟨qlg (by simp [n2]) fun j g3 l3 hj hL=>?_,by omega⟩;have q1:¬ 1000 + j = 1000 + m:=by omega
       have q2:¬ 1000 + j = 14:=by omega
       have q3:¬ 1000 + j = 46:=by omega
       have q4:¬ 1000 + j = 1:=by omega
       simp [hj,q2,q3,q4,qid 2 1000 L j hL,jan]
     ·simp at ho;simp [hwk];have hk':k < (c.n.getD i default).i.length:=by rw [hnd]; exact hk
      refine .done ⟨k + 1,L,⟨hk,h2.skip hk' ?_⟩,by simp,?_,by omega⟩
      ·intro j hj e;simp only [hnd] at e;omega
      ·simp;exact qb0 fun t ht=>by simp [show ¬ t = 14 by omega,show ¬ t = 1 by omega]
    ·have hk:¬ k < c.n[i].i.length:=jpg hc;simp [hw];refine ⟨i + 1,L,⟨by omega,h2.next (by rw [hnd]; omega) hi⟩,rfl,⟨rfl,?_⟩,by omega⟩;exact qb0 fun t ht=>by simp [show ¬ t = 14 by omega,show ¬ t = 1 by omega]
  ·have hi:i = c.n.length:=by have:=jpg hb; omega
   subst hi;simp
   refine jpa (X:=Nat) (fun x=>[(53,.int .i64 (x:Int)),(52,.int .i64 (c.n.length:Int)),(51,.ref 14 g14 0 c.n.length (some c.n.length)),(3,.ref 14 g14 0 c.n.length (some c.n.length))])
    (fun x=>(14,.row g14 1 (qn7 1000 x L)) :: qiv 2 1000 L)
    (fun x=>x≤c.n.length) (fun x=>c.n.length - x) 0 ?_ ?_ ?_ ?_
   ·simp
   ·simp
   ·simp [qzc];exact qb0 fun t ht=>by simp [show ¬ t = 14 by omega,show ¬ t = 1 by omega]
   ·rintro i h3;simp;refine jo8 (fun hb=>?_) (fun hb=>?_)
    ·have hi:i < c.n.length:=jpf hb;have hiL:i < L.length:=by rw [h2.1]; exact hi
     have hw:IntKind.i64.wrap ((i:Int) + 1) = ((i + 1:Nat):Int):=by rw [qas] <;> omega
     obtain ⟨x,hx⟩:∃ x,L[i]? = some x:=⟨_,jpl hiL⟩;have hml:(qn7 1000 i L).length = c.n.length:=by rw [qsd _ _ _ (by omega),h2.1]
     have hget:=q3g 1000 i L hx (by rw [hml]; exact hi);have hlk:=qid 2 1000 L i hx;have hset:=q3h 1000 i L hx;simp [hi,hml,hget]
     cases x with
     | none=>
      simp [qbo];have hsub:Sub ((14,Blk.row g14 1 (qn7 1000 i L)) :: qiv 2 1000 L) ((14,Blk.row g14 1 (qn7 1000 i L)) :: qiv 2 1000 L):=⟨by simp,qb0 fun t ht=>by simp [show ¬ t = 14 by omega]⟩;refine qu7 _ hsub ?_;simp [hi,hml,hget,qbo];refine ⟨i + 1,by omega,hw,⟨hset,?_⟩,by omega⟩;exact qb0 fun t ht=>by simp [show ¬ t = 14 by omega]
     | some p=>
      obtain ⟨g,l⟩:=p;have n2:¬ 1000 + i = 14:=by omega
      have hsub:Sub ((14,Blk.row g14 1 (qn7 1000 i L)) :: qiv 2 1000 L) ((14,Blk.row g14 1 (qn7 1000 i L)) :: qiv 2 1000 L):=⟨by simp,qb0 fun t ht=>by simp [show ¬ t = 14 by omega]⟩;simp [qbo];refine qu8 (es:=l) (by simp [n2,hlk,jan]) _ hsub ?_;simp [hi,hml,hget,qbo];refine ⟨i + 1,by omega,hw,⟨hset,?_⟩,by omega⟩;exact qb0 fun t ht=>by simp [show ¬ t = 14 by omega]
    ·have hi:i = L.length:=by have:=jpg hb; have:=h2.1; omega
     subst hi;simp [-frz];have hcl:(qfp 1000 L).length = c.n.length:=by rw [qeg,h2.1]
     rw [q3f,qbx (es:=qfp 1000 L) (sz:=1) (by simp) (by rw [hcl]; omega),List.drop_zero,jpj (by rw [hcl]; exact jpm _),qyd (sz:=2) 1000 L _ _ fun i g l hi=>⟨by simp [show ¬ 1000 + i = 14 by omega,qid 2 1000 L i hi,jan],(h2.2 i _ hi).2.1⟩];congr 1;unfold qno;refine List.ext_getElem? fun i=>?_;simp only [List.getElem?_map]
     cases hx:L[i]? with
     | none=>
      have:¬ i < c.n.length:=by rw [<- h2.1]; simpa using hx
      simp [this]
     | some x=>
      have hi:i < c.n.length:=by rw [<- h2.1]; exact (List.getElem?_eq_some_iff.1 hx).1
      have hx3:=(h2.2 i x hx).2.2;have e1:c.n.getD c.n.length default = default:=by simp [jph]
      have e2:(default:Nd).i = []:=rfl;rw [e1,e2,List.drop_eq_nil_of_le (show c.n.length≤c.n.length + 1 by omega)] at hx3;simp [qsk,qgb] at hx3;simp [hi,qku,hx3]
end
end Go.Proofs.YtpaopccohkldlaaGreatDoor
