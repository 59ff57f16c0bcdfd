/- Lemmas. Conditions: none. -/
import Derived.Test.YtpaopccohkldlaaGreatDoorXP
set_option linter.all false
namespace Go.Proofs.YtpaopccohkldlaaGreatDoor
section
open Go
def gl0:Fr:=[(1,.iptr (.agg ([0,0,0,0,0,0,1,1,1,1,2,16,2,16,2,16,2,16,2,16,2,16,3,3,2,2,1,16,1,1,0,0].map (V.int .i64))) 0),(4,.iptr (.agg [.int .i64 1,.int .i64 1]) 0),(3,.iptr (.agg [.int .i64 1073741824,.int .i64 1073741824]) 0),(0,.iptr (.agg [.int .i64 (-1),.int .i64 0,.int .i64 0]) 0)]
theorem qfm:lk gl0 0 = some (.iptr (.agg [.int .i64 (-1),.int .i64 0,.int .i64 0]) 0):=rfl
end
section
open Go
theorem q6n (k:Int):qac Tryz.prog gl0 82 [.int .u8 k] (.bool (decide (1≤k/\k≤13))):=by
 refine jqo 2 ok82 rfl ?_
 repeat' (first | refine jql (fun _=>?_) (fun _=>?_) | (intro _) | simp [*,i82,x82])
theorem jd7 (s:List UInt8) (c:Int) (h:0≤c/\c < 256):qac Tryz.prog gl0 245 [.str s,.int .u8 c] (.int .i64 (qj6 c s 0)):=by
 refine jqo 2 jmu rfl ?_;simp [i245,x245,nop,h]
theorem q9a (s:List UInt8) (c:Int) (h:0≤c/\c < 256):qac Tryz.prog gl0 240 [.str s,.int .u8 c] (.int .i64 (qj6 c s 0)):=by
 refine jqo 2 jms rfl ?_;simp [i240,x240];refine jqk (jd7 s c h) rfl ?_;simp
theorem qhq {x:Int} (h0:0≤x) (h1:x < 256):IntKind.u8.wrap x = x:=by
 simp [IntKind.wrap,IntKind.bits,IntKind.signed]; omega
theorem jd8 (s:List UInt8) (r:Int) (h:0≤r/\r < 128):qac Tryz.prog gl0 238 [.str s,.int .i32 r] (.int .i64 (qj6 r s 0)):=by
 have hw:IntKind.u8.wrap r = r:=qhq h.1 (by omega);refine jqo 2 jmq rfl ?_;simp [i238,x238,h,hw];refine jqk (q9a s r ⟨h.1,by omega⟩) rfl ?_;simp
theorem q8n (s:List UInt8) (r:Int) (h:0≤r/\r < 128):qac Tryz.prog gl0 229 [.str s,.int .i32 r] (.bool (decide (0≤qj6 r s 0))):=by
 refine jqo 2 jmk rfl ?_;simp [i229,x229];refine jqk (jd8 s r h) rfl ?_;simp
def jcs (r:Int):Bool:=decide (r≤32) || decide (126 < r) || decide (0≤qj6 r [40,41,61,44,35] 0)
theorem jjf (r:Int):qac Tryz.prog gl0 228 [.int .i32 r] (.bool (jcs r)):=by
 refine jqo 2 jmj rfl ?_;by_cases h1:r≤32
 ·simp [jhj,jix,h1,jcs]
 ·by_cases h2:126 < r
  ·simp [jhj,jix,h1,h2,jcs]
  ·simp [jhj,jix,h1,h2,jcs];refine jqk (q8n _ r ⟨by omega,by omega⟩) rfl ?_;simp
def qdy:Nat->List UInt8->Nat->Int
 | 0,_,_=>-1
 | n + 1,s,pos=>if pos < s.length then (if jcs (Utf8.decode ⟨s.toArray⟩ pos).1 = true then (pos:Int) else qdy n s (pos + (Utf8.decode ⟨s.toArray⟩ pos).2)) else -1
theorem q8p (s:List UInt8) (pos:Nat):1≤(Utf8.decode ⟨s.toArray⟩ pos).2:=by
 simp only [Utf8.decode]
 repeat' split
 all_goals simp
theorem q33 (s:List UInt8):qac Tryz.prog gl0 244 [.str s,.fn 228 [] [],.bool true] (.int .i64 (qdy (s.length + 1) s 0)):=by
 obtain ⟨r,hr⟩:∃ r,qdy (s.length + 1) s 0 = r:=⟨_,rfl⟩;rw [hr];refine jqo 2 jmt rfl ?_;simp [i244,x244,nop];intro gf
 refine jqn (X:=Nat × Nat) (fun x=>[(0,.str s),(1,.fn 228 [] []),(2,.bool true),(10,.own 10 (gf 10))]) (fun x=>[(10,.siter (gf 10) s x.1)])
  (fun x=>s.length < x.1 + x.2/\qdy x.2 s x.1 = r) (fun x=>x.2) (0,s.length + 1) ⟨by simp,hr⟩ (by simp) (by simp) ?_
 rintro ⟨pos,fuel⟩ ⟨h2,h3⟩;dsimp only at h2 h3
 cases fuel with
 | zero=>
  have hp:¬ pos < s.length:=by omega
  simp [nop,hp,<- h3,qdy]
 | succ fuel=>
  have hd:=q8p s pos;by_cases hp:pos < s.length
  ·simp [nop,hp];refine jqk (jjf _) rfl ?_;simp;refine jql (fun hb=>?_) (fun hb=>?_)
   ·simp [<- h3,qdy,hp,hb]
   ·simp;refine ⟨_,fuel,⟨?_,?_⟩,rfl,by omega⟩
    ·omega
    ·rw [<- h3]; simp [qdy,hp,hb]
  ·simp [nop,hp,<- h3,qdy]
theorem q30 (s:List UInt8):qac Tryz.prog gl0 239 [.str s,.fn 228 [] []] (.int .i64 (qdy (s.length + 1) s 0)):=by
 refine jqo 2 jmr rfl ?_;simp [i239,x239];refine jqk (q33 s) rfl ?_;simp
theorem qsz (s:List UInt8):qac Tryz.prog gl0 230 [.str s,.fn 228 [] []] (.bool (decide (0≤qdy (s.length + 1) s 0))):=by
 refine jqo 2 jml rfl ?_;simp [i230,x230];refine jqk (q30 s) rfl ?_;simp
def q0g (s:List UInt8):Bool:=decide (s ≠ []) && decide (s.length≤32) && !(decide (0≤qdy (s.length + 1) s 0))
theorem q38 (s:List UInt8):qac Tryz.prog gl0 209 [.str s] (.bool (q0g s)):=by
 have hc:=qsz s;refine jqo 2 jl7 rfl ?_;unfold q0g;generalize decide (0≤qdy (s.length + 1) s 0) = q at *;simp [i209,x209];refine jql (fun h1=>?_) (fun h1=>?_)
 ·simp [h1]
 ·simp [h1];refine jql (fun h2=>?_) (fun h2=>?_)
  ·simp [h2];refine jqk hc rfl ?_;simp
  ·simp [h2]
theorem pureL_map {α:Type} {f:α->V} (hf:∀ x,(f x).pure = true):∀ l:List α,jos (l.map f) = true
 | []=>rfl
 | x :: l=>by simp [jos,hf x,pureL_map hf l]
@[simp] theorem jft (l:List (List UInt8)):jos (l.map .str) = true:=pureL_map (fun _=>rfl) l
end
section
open Go
def qmo (sz:Nat) (xs:List V) (v:V) (h:Hp):Prop:=(xs = []/\v = .sl [] (some 0)/\h = [])∨∃ g,v = .ref 0 g 0 xs.length (some xs.length)/\h = [(0,.row g sz xs)]
end
section
open Go
def qc8 (l:List Int):List V:=l.map (.int .i64)
@[simp] theorem q9c (l:List Int):(qc8 l).length = l.length:=by simp [qc8]
@[simp] theorem qcu (l:List Int):jos (qc8 l) = true:=pureL_map (fun _=>rfl) l
structure Nd where
 k:Int
 i:List Int
 a:Int
 b:Int
 deriving Inhabited
def Nd.v (n:Nd):V:=.agg [.int .u8 n.k,.sl (qc8 n.i) none,.int .i64 n.a,.int .i64 n.b]
structure Md where
 a:List Int
 d:List Int
 w:Int
 deriving Inhabited
def Md.v (n:Md):V:=.agg [.sl (qc8 n.a) none,.sl (qc8 n.d) none,.int .i64 n.w]
structure Ci where
 n:List Nd
 s:List (List UInt8)
 m:List Md
 o:List Int
def Ci.v (c:Ci):V:=.agg [.sl (c.n.map Nd.v) none,.sl (c.s.map .str) none,.sl (c.m.map Md.v) none,.sl (qc8 c.o) none]
@[simp] theorem qdq (l:List Nd):jos (l.map Nd.v) = true:=pureL_map (fun x=>by simp [Nd.v]) l
@[simp] theorem qd7 (l:List Md):jos (l.map Md.v) = true:=pureL_map (fun x=>by simp [Md.v]) l
theorem qgf {a b:List V} (h:jos a = true) (k:jos b = true):jos (a ++ b) = true:=by
 rw [joz] at *;intro v hv;rcases List.mem_append.1 hv with q | q
 ·exact h v q
 ·exact k v q
theorem qc2 {l:List V} (h:jos l = true) {f:Nat->Nat->Nat->Nat->Option Nat->V} {p:Nat->Nat->Nat->Nat->V}:(l.map fun x=>V.mapR f p x) = l:=by
 have:=qah (f:=f) (p:=p) l h;rw [qco] at this; exact this
def qbk (b:Nat):Option (Nat × List V)->V
 | none=>.nil
 | some (g,l)=>.ref b g 0 l.length none
def qbl (b sz:Nat):Option (Nat × List V)->Hp
 | none=>[]
 | some (g,l)=>[(b,.row g sz l)]
def qa6:Option (Nat × List V)->List V
 | none=>[]
 | some (_,l)=>l
def qwr (l:List V):V:=match l with
 | []=>.nil
 | _ :: _=>.sl l none
theorem qa3 (l:List Int) (i:Nat) (h:i < (qc8 l).length):(qc8 l)[i] = .int .i64 (l[i]'(by simpa using h)):=by simp [qc8]
end
section
open Go
end
section
open Go
def qmt (x:Int):List Int->Nat->Int
 | [],_=>-1
 | y :: r,i=>if x = y then (i:Int) else qmt x r (i + 1)
theorem qqw (x:Int):∀ (l:List Int) (i:Nat),(0≤qmt x l i)↔x ∈ l
 | [],i=>by simp [qmt]
 | y :: l,i=>by
  by_cases h:x = y
  ·simp [qmt,h]
  ·simp [qmt,h,qqw x l (i + 1)]
theorem q31 (x:Int) (l:List Int) (cap:Option Nat) (hl:l.length < 1000000000000):qac Tryz.prog gl0 166 [.sl (l.map (.int .u8)) cap,.int .u8 x] (.int .i64 (qmt x l 0)):=by
 obtain ⟨q,hq⟩:∃ r,qmt x l 0 = r:=⟨_,rfl⟩;rw [hq];refine jqo 2 jlo rfl ?_;simp [i166,x166]
 refine jqn (X:=Nat) (fun i=>[(8,.int .i64 (i:Int)),(7,.int .i64 (l.length:Int)),(0,.sl (l.map (.int .u8)) cap),(1,.int .u8 x)]) (fun _=>[])
  (fun i=>i≤l.length/\qmt x (l.drop i) i = q) (fun i=>l.length - i) 0 ⟨by simp,by simpa using hq⟩ (by simp) (by simp) ?_
 rintro i ⟨h2,h3⟩;simp;refine jql (fun h1=>?_) (fun h1=>?_)
 ·have h1':i < l.length:=jqs h1;have hw:IntKind.i64.wrap ((i:Int) + 1) = ((i + 1:Nat):Int):=by rw [qao] <;> omega
  rw [List.drop_eq_getElem_cons h1'] at h3;simp only [qmt] at h3;simp [h1'];refine jql (fun h4=>?_) (fun h4=>?_)
  ·rw [if_pos (jqs h4)] at h3;simp [h3]
  ·rw [if_neg (jqt h4)] at h3;simp [hw];exact ⟨i + 1,⟨h1',h3⟩,rfl,by omega⟩
 ·have h1':i = l.length:=by have:=jqt h1; omega
  subst h1';simp [qmt] at h3;simp [h3]
@[simp] theorem jh8 (l:List Int):jos (l.map (.int .u8)) = true:=pureL_map (fun _=>rfl) l
theorem qiu (x:Int) (l:List Int) (cap:Option Nat) (hl:l.length < 1000000000000):qac Tryz.prog gl0 130 [.sl (l.map (.int .u8)) cap,.int .u8 x] (.bool (decide (x ∈ l))):=by
 refine jqo 2 jk6 rfl ?_;simp [i130,x130];refine jqk (q31 x l cap hl) (by simp) ?_;simp [qqw]
def qp2 (ks:List Int):List Nd->Nat->List V
 | [],_=>[]
 | n :: r,i=>if n.k ∈ ks then .int .i64 (i:Int) :: qp2 ks r (i + 1) else qp2 ks r (i + 1)
theorem jki (c:Ci) (ks:List Int) (cap:Option Nat) (hl:c.n.length < 1000000) (hk:ks.length < 1000000000000):qbo Tryz.prog gl0 88 [c.v,.sl (ks.map (.int .u8)) cap] (qmo 1 (qp2 ks c.n 0)):=by
 refine jqq ok88 rfl ?_;obtain ⟨q,hq⟩:∃ r,qp2 ks c.n 0 = r:=⟨_,rfl⟩;rw [hq];simp [i88,x88,Ci.v];intro gf
 refine jqn (X:=Nat × Option (Nat × List V)) (fun x=>[(11,.int .i64 (x.1:Int)),(10,.int .i64 (c.n.length:Int)),(9,.sl (c.n.map Nd.v) none),(5,qbk 23 x.2),(1,.sl (ks.map (.int .u8)) cap)])
  (fun x=>qbl 23 1 x.2)
  (fun x=>x.1≤c.n.length/\(x.2 = none∨qa6 x.2 ≠ [])/\(qa6 x.2).length≤x.1/\jos (qa6 x.2) = true/\qa6 x.2 ++ qp2 ks (c.n.drop x.1) x.1 = q) (fun x=>c.n.length - x.1) (0,none) ⟨by simp,by simp,by simp [qa6],by simp [qa6],by simpa [qa6] using hq⟩ (by simp [qbk]) (by simp [qbl]) ?_
 rintro ⟨i,acc⟩ ⟨h1,h2,h3,h4,h5⟩;dsimp only at h1 h2 h3 h4 h5;simp;refine jql (fun hb=>?_) (fun hb=>?_)
 ·have hi:i < c.n.length:=jqs hb;have hw:IntKind.i64.wrap ((i:Int) + 1) = ((i + 1:Nat):Int):=by rw [qao] <;> omega
  rw [List.drop_eq_getElem_cons hi] at h5;simp only [qp2] at h5;simp [hi,Nd.v];intro gf2;refine jqk (qiu _ ks cap hk) (by simp) ?_;simp;refine jql (fun hk=>?_) (fun hk=>?_)
  ·rw [if_pos (jqs hk)] at h5
   cases acc with
   | none=>
    simp [qbk,qbl,hw];refine fun gf1 gf2=>⟨i + 1,some (gf2 23,[.int .i64 i]),?_⟩;simp [qa6] at h5 ⊢;exact ⟨⟨by omega,h5⟩,by omega⟩
   | some gl=>
    obtain ⟨g,l⟩:=gl;simp only [qa6] at h3 h4 h5 h2;have hle:l.length + 1≤274877906944:=by omega
    simp [qbk,qbl,hw,hle];refine fun gf1 gf2=>⟨i + 1,some (gf2 23,l ++ [.int .i64 i]),?_⟩;simp [qa6,h5,List.append_assoc];exact ⟨⟨by omega,by omega,qgf h4 rfl⟩,by omega⟩
  ·rw [if_neg (jqt hk)] at h5;simp [hw];exact ⟨i + 1,acc,⟨by omega,h2,by omega,h4,h5⟩,⟨rfl,rfl⟩,by cases acc <;> simp [qbl],by omega⟩
 ·have hi:¬ i < c.n.length:=jqt hb;rw [List.drop_eq_nil_of_le (by omega)] at h5;simp only [qp2,List.append_nil] at h5
  cases acc with
  | none=>
   simp [qa6] at h5;subst h5;simp [qbk,qbl];refine jqr q93 rfl ?_;simp [jhg,jiu];exact .done (by simpa using ⟨[],trivial,.done (by simp [qmo])⟩)
  | some gl=>
   obtain ⟨g,l⟩:=gl;simp only [qa6] at h3 h4 h5 h2;subst h5;simp [qbk,qbl];refine jqr q93 rfl ?_;simp [jhg,jiu];refine .done ?_;simp only [lk,if_true];refine ⟨[(23,Blk.row g 1 l)],by simp,.move 23 0 _ (by simp) (by simp; rfl) fun g2=>.done ?_⟩;simp [qaf h4,qmo]
theorem qd8 (ks:List Int):∀ (l:List Nd) (i:Nat),joy (qp2 ks l i) = true/\jos (qp2 ks l i) = true
 | [],i=>⟨rfl,rfl⟩
 | n :: r,i=>by
  obtain ⟨h1,h2⟩:=qd8 ks r (i + 1);simp only [qp2];split
  ·exact ⟨by simp [joy,V.noG,h1],by simp [jos,V.pure,h2]⟩
  ·exact ⟨h1,h2⟩
theorem q34 (c:Ci) (hl:c.n.length < 1000000):qbo Tryz.prog gl0 44 [c.v] (qmo 1 (qp2 [0] c.n 0)):=by
 obtain ⟨n1,n2⟩:=qd8 [0] c.n 0;refine jqq ok44 rfl ?_;simp [i44,x44,Ci.v];intro gf gf2;refine jpf 1 1000 (jki c [0] (some 1) hl (by simp)) (by simp [Ci.v,qah]) (by simp) ?_;rintro v h' (⟨hq,rfl,rfl⟩ | ⟨g,rfl,rfl⟩)
 ·refine ⟨rfl,fun b k hb=>by simp [lk] at hb,fun gf=>?_⟩;simp;exact .done (by simpa using ⟨[],trivial,by simp [qmo,hq]⟩)
 ·refine ⟨rfl,fun b k hb=>?_,fun gf=>?_⟩
  ·simp only [lk] at hb;split at hb
   ·cases hb; exact n1
   ·cases hb
  ·simp [qaf n2];refine .move 1000 0 _ (by simp) (by simp; rfl) fun g2=>.done ?_;simp [qaf n2,qmo]
theorem q5p (c:Ci) (hl:c.n.length < 1000000):qbo Tryz.prog gl0 45 [c.v] (qmo 1 (qp2 [14] c.n 0)):=by
 obtain ⟨n1,n2⟩:=qd8 [14] c.n 0;refine jqq ok45 rfl ?_;simp [i45,x45,Ci.v];intro gf gf2;refine jpf 1 1000 (jki c [14] (some 1) hl (by simp)) (by simp [Ci.v,qah]) (by simp) ?_;rintro v h' (⟨hq,rfl,rfl⟩ | ⟨g,rfl,rfl⟩)
 ·refine ⟨rfl,fun b k hb=>by simp [lk] at hb,fun gf=>?_⟩;simp;exact .done (by simpa using ⟨[],trivial,by simp [qmo,hq]⟩)
 ·refine ⟨rfl,fun b k hb=>?_,fun gf=>?_⟩
  ·simp only [lk] at hb;split at hb
   ·cases hb; exact n1
   ·cases hb
  ·simp [qaf n2];refine .move 1000 0 _ (by simp) (by simp; rfl) fun g2=>.done ?_;simp [qaf n2,qmo]
end
section
open Go
def qrc (i k:Nat):V:=.agg [.int .i64 (i:Int),.int .i64 (k:Int)]
def qtp (w:Int) (i:Nat):List Int->Nat->List V
 | [],_=>[]
 | x :: r,k=>if x = w then qrc i k :: qtp w i r (k + 1) else qtp w i r (k + 1)
def qgy (w:Int):List Nd->Nat->List V
 | [],_=>[]
 | n :: r,i=>qtp w i n.i 0 ++ qgy w r (i + 1)
end
section
open Go
theorem qyp (c:Ci):c.v.pure = true:=by simp [Ci.v]
theorem qig (c:Ci):qac Tryz.prog gl0 184 [c.v] (.fn 212 [] [.iptr c.v 0]):=by
 refine jqo 2 jlx rfl ?_;simp [i184,x184,Ci.v,qah]
theorem qjc (c:Ci) (i:Int):qac Tryz.prog gl0 212 [.int .i64 i,.iptr c.v 0] (.bool (decide (i < 0) || decide ((c.n.length:Int)≤i))):=by
 refine jqo 2 jma rfl ?_;simp [i212,x212,Ci.v];refine jql (fun h1=>?_) (fun h1=>?_)
 ·simp [h1]
 ·simp [h1]
end
section
open Go
abbrev Fam:=List (Option (Nat × List V))
def qjq (sz b:Nat):Fam->Hp
 | []=>[]
 | x :: r=>qbl b sz x ++ qjq sz (b + 1) r
def qkh (b:Nat):Fam->List V
 | []=>[]
 | x :: r=>qbk b x :: qkh (b + 1) r
theorem qch (b:Nat) (L:Fam):(qkh b L).length = L.length:=by
 induction L generalizing b with
 | nil=>rfl
 | cons x r ih=>simp [qkh,ih]
theorem q3q (b:Nat) (L:Fam) (i:Nat) (h:i < L.length):(qkh b L)[i]'(by rw [qch]; exact h) = qbk (b + i) L[i]:=by
 induction L generalizing b i with
 | nil=>simp at h
 | cons x r ih=>
  cases i with
  | zero=>simp [qkh]
  | succ i=>
   simp only [qkh,List.getElem_cons_succ];rw [ih (b + 1) i (by simpa using h),show b + 1 + i = b + (i + 1) by omega]
theorem qtd (sz b:Nat) (L:Fam) (t:Nat) (h:t < b):lk (qjq sz b L) t = none:=by
 induction L generalizing b with
 | nil=>rfl
 | cons x r ih=>
  have:=ih (b + 1) (by omega)
  cases x with
  | none=>simpa [qjq,qbl] using this
  | some p=>
   obtain ⟨g,l⟩:=p;have hne:¬ t = b:=by omega
   simp [qjq,qbl,lk,hne,this]
theorem q9l (sz b:Nat) (L:Fam) (i:Nat) (h:i < L.length):lk (qjq sz b L) (b + i) = match L[i] with | some (g,l)=>some (.row g sz l) | none=>none:=by
 induction L generalizing b i with
 | nil=>simp at h
 | cons x r ih=>
  cases i with
  | zero=>
   cases x with
   | none=>simpa [qjq,qbl] using qtd sz (b + 1) r b (by omega)
   | some p=>obtain ⟨g,l⟩:=p; simp [qjq,qbl,lk]
  | succ i=>
   have:=ih (b + 1) i (by simpa using h);rw [show b + 1 + i = b + (i + 1) by omega] at this;have hne:¬ b + (i + 1) = b:=by omega
   cases x with
   | none=>simpa [qjq,qbl] using this
   | some p=>obtain ⟨g,l⟩:=p; simpa [qjq,qbl,lk] using this
theorem quu (b:Nat) (L:Fam) (i:Nat) (x:Option (Nat × List V)):(qkh b L).set i (qbk (b + i) x) = qkh b (L.set i x):=by
 induction L generalizing b i with
 | nil=>rfl
 | cons y r ih=>
  cases i with
  | zero=>simp [qkh]
  | succ i=>
   simp only [qkh,List.set_cons_succ];rw [<- ih (b + 1) i,show b + 1 + i = b + (i + 1) by omega]
end
section
open Go
theorem q14 {a b c:Hp}:Sub (a ++ b) c↔Sub a c/\Sub b c:=by
 induction a with
 | nil=>simp [Sub]
 | cons p r ih=>obtain ⟨k,v⟩:=p; simp [Sub,ih,and_assoc]
theorem q5s (sz b:Nat) (L:Fam) (h:Hp) (hk:∀ i (hi:i < L.length) g l,L[i] = some (g,l)->lk h (b + i) = some (.row g sz l)):Sub (qjq sz b L) h:=by
 induction L generalizing b with
 | nil=>trivial
 | cons x r ih=>
  simp only [qjq,q14];refine ⟨?_,ih (b + 1) fun i hi g l he=>?_⟩
  ·cases x with
   | none=>trivial
   | some p=>obtain ⟨g,l⟩:=p; exact ⟨by simpa using hk 0 (by simp) g l rfl,trivial⟩
  ·have:=hk (i + 1) (by simpa using hi) g l (by simpa using he)
   rwa [show b + (i + 1) = b + 1 + i by omega] at this
end
section
open Go
theorem q8w (s:Nat->Nat->Nat × Nat) (b:Nat) (L:Fam) (h:∀ i g,b≤i->s i g = (i,g)):(qkh b L).map (V.rn s) = qkh b L:=by
 induction L generalizing b with
 | nil=>rfl
 | cons x r ih=>
  have h1:=ih (b + 1) fun i g hi=>h i g (by omega);simp only [qkh,List.map_cons,h1];congr 1
  cases x with
  | none=>rfl
  | some p=>obtain ⟨g,l⟩:=p; simp [qbk,V.rn,h b g (jqz _)]
theorem qrj (b g b' g' base:Nat) (h:b < base):∀ i y,base≤i->mvS b g b' g' i y = (i,y):=by
 intro i y hi;have:¬ i = b:=by omega
 simp [mvS,this]
end
section
open Go
def qlp (L:List V):V:=.sl L (some L.length)
def q3f (b:Nat):Option (Nat × List V)->V
 | none=>.sl [] (some 0)
 | some (g,l)=>.ref b g 0 l.length (some l.length)
def qf5 (b:Nat):Fam->List V
 | []=>[]
 | x :: r=>q3f b x :: qf5 (b + 1) r
theorem qep (b:Nat) (L:Fam):(qf5 b L).length = L.length:=by
 induction L generalizing b with
 | nil=>rfl
 | cons x r ih=>simp [qf5,ih]
theorem qql (b:Nat) (L M:Fam):qf5 b (L ++ M) = qf5 b L ++ qf5 (b + L.length) M:=by
 induction L generalizing b with
 | nil=>rfl
 | cons x r ih=>simp [qf5,ih,show b + 1 + r.length = b + (r.length + 1) by omega]
def qom (c:Ci):List V:=(List.range c.n.length).map fun (j:Nat)=>qlp (qgy (j:Int) c.n 0)
theorem quv (b:Nat) (L:Fam) (i:Nat) {x:Option (Nat × List V)} (h:L[i]? = some x) (hi:i < (qkh b L).length):(qkh b L)[i] = qbk (b + i) x:=by
 obtain ⟨h1,h2⟩:=List.getElem?_eq_some_iff.1 h;rw [q3q b L i h1,h2]
theorem qzd (b n:Nat):qkh b (List.replicate n none) = List.replicate n .nil:=by
 induction n generalizing b with
 | zero=>rfl
 | succ n ih=>simp [List.replicate_succ,qkh,qbk,ih]
theorem qzc (sz b n:Nat):qjq sz b (List.replicate n none) = []:=by
 induction n generalizing b with
 | zero=>rfl
 | succ n ih=>simp [List.replicate_succ,qjq,qbl,ih]
def qsb (c:Ci) (i k:Nat) (L:Fam):Prop:=L.length = c.n.length/\∀ (j:Nat) x,L[j]? = some x->(x = none∨qa6 x ≠ [])/\jos (qa6 x) = true/\qa6 x ++ (qtp j i ((c.n.getD i default).i.drop k) k ++ qgy j (c.n.drop (i + 1)) (i + 1)) = qgy j c.n 0
theorem qsb.start (c:Ci):qsb c 0 0 (List.replicate c.n.length none):=by
 refine ⟨by simp,fun j x hj=>?_⟩;rw [List.getElem?_replicate] at hj;split at hj
 ·rename_i h;cases hj;refine ⟨.inl rfl,rfl,?_⟩
  cases hn:c.n with
  | nil=>rw [hn] at h; simp at h
  | cons a r=>simp [qa6,qgy]
 ·cases hj
theorem qsb.next {c:Ci} {i k:Nat} {L:Fam} (h:qsb c i k L) (hk:(c.n.getD i default).i.length≤k) (hi:i < c.n.length):qsb c (i + 1) 0 L:=by
 refine ⟨h.1,fun j x hj=>?_⟩;obtain ⟨h1,h2,h3⟩:=h.2 j x hj;refine ⟨h1,h2,?_⟩;rw [List.drop_eq_nil_of_le hk] at h3;rw [<- h3];congr 1;simp only [qtp,List.nil_append];by_cases hn:i + 1 < c.n.length
 ·rw [List.drop_eq_getElem_cons hn];simp [qgy,hn]
 ·have e1:c.n.getD (i + 1) default = default:=by simp [jqu,hn]
  have e2:(default:Nd).i = []:=rfl;rw [List.drop_eq_nil_of_le (show c.n.length≤i + 1 by omega),List.drop_eq_nil_of_le (show c.n.length≤i + 1 + 1 by omega),e1,e2];simp [qgy,qtp]
theorem qsb.skip {c:Ci} {i k:Nat} {L:Fam} (h:qsb c i k L) (hk:k < (c.n.getD i default).i.length) (hx:∀ j:Nat,j < c.n.length->(c.n.getD i default).i[k] ≠ (j:Int)):qsb c i (k + 1) L:=by
 refine ⟨h.1,fun j x hj=>?_⟩;obtain ⟨h1,h2,h3⟩:=h.2 j x hj;refine ⟨h1,h2,?_⟩;rw [List.drop_eq_getElem_cons hk] at h3;have hjl:j < c.n.length:=by rw [<- h.1]; exact (List.getElem?_eq_some_iff.1 hj).1
 simp only [qtp,if_neg (hx j hjl)] at h3;exact h3
theorem qsb.add {c:Ci} {i k:Nat} {L:Fam} (h:qsb c i k L) (hk:k < (c.n.getD i default).i.length) {m:Nat} {x:Option (Nat × List V)} (hm:L[m]? = some x) (hx:(c.n.getD i default).i[k] = (m:Int)) (g:Nat):qsb c i (k + 1) (L.set m (some (g,qa6 x ++ [qrc i k]))):=by
 refine ⟨by simpa using h.1,fun j y hj=>?_⟩;rw [List.getElem?_set] at hj;by_cases hjm:m = j
 ·subst hjm;have hl:m < L.length:=(List.getElem?_eq_some_iff.1 hm).1;simp [hl] at hj;subst hj;obtain ⟨h1,h2,h3⟩:=h.2 m x hm;refine ⟨.inr (by simp [qa6]),qgf h2 rfl,?_⟩;rw [List.drop_eq_getElem_cons hk] at h3;simp only [qtp,if_pos hx] at h3;rw [<- h3];simp only [qa6.eq_2];simp
 ·rw [if_neg hjm] at hj;obtain ⟨h1,h2,h3⟩:=h.2 j y hj;refine ⟨h1,h2,?_⟩;rw [List.drop_eq_getElem_cons hk] at h3;have:¬ (c.n.getD i default).i[k] = (j:Int):=by rw [hx]; omega
  simp only [qtp,if_neg this] at h3;exact h3
theorem qsb.len {c:Ci} {i k:Nat} {L:Fam} (h:qsb c i k L) {m:Nat} {x:Option (Nat × List V)} (hm:L[m]? = some x):(qa6 x).length≤(qgy m c.n 0).length:=by
 obtain ⟨h1,h2,h3⟩:=h.2 m x hm;rw [<- h3]; simp
def jby (sz:Nat):Option (Nat × List V)->Option Blk
 | some (g,l)=>some (.row g sz l)
 | none=>none
theorem qi3 (sz b:Nat) (L:Fam) (i:Nat) {x:Option (Nat × List V)} (h:L[i]? = some x):lk (qjq sz b L) (b + i) = jby sz x:=by
 obtain ⟨h1,h2⟩:=List.getElem?_eq_some_iff.1 h;rw [q9l sz b L i h1,h2];cases x <;> rfl
theorem qr3 (sz b:Nat) (L:Fam) (h:Hp) (hk:∀ (i g:Nat) l,L[i]? = some (some (g,l))->lk h (b + i) = some (.row g sz l)):Sub (qjq sz b L) h:=
 q5s sz b L h fun i hi g l he=>hk i g l (by rw [jqy hi,he])
theorem qmc {sz b:Nat} {L:Fam} {h:Hp} {m g:Nat} {l:List V} (hm:lk h (b + m) = some (.row g sz l)) (ho:∀ (i g:Nat) l,i ≠ m->L[i]? = some (some (g,l))->lk h (b + i) = some (.row g sz l)):Sub (qjq sz b (L.set m (some (g,l)))) h:=by
 refine qr3 _ _ _ _ fun i g2 l2 hi=>?_;rw [List.getElem?_set] at hi;by_cases e:m = i
 ·subst e;by_cases hl:m < L.length
  ·simp [hl] at hi;obtain ⟨rfl,rfl⟩:=hi;exact hm
  ·simp [hl] at hi
 ·rw [if_neg e] at hi;exact ho i g2 l2 (fun q=>e q.symm) hi
theorem qz6 {sz base:Nat} {L:Fam} {b b' g:Nat} {s:Nat->Nat->Nat × Nat} {i g2:Nat} {l:List V} (hne:b ≠ b') (h1:¬ base + i = b') (h2:¬ base + i = b) (hi:L[i]? = some (some (g2,l))) (hp:jos l = true):lk (mvH s b b' g (qjq sz base L)) (base + i) = some (.row g2 sz l):=by
 rw [qz7 hne,if_neg h1,if_neg h2,qi3 sz base L i hi];simp [jby,qaf hp]
theorem qb1 {sz b:Nat} {L:Fam} {h:Hp} (hk:∀ t,b≤t->lk h t = lk (qjq sz b L) t):Sub (qjq sz b L) h:=
 qr3 _ _ _ _ fun i g l hi=>by rw [hk _ (by omega),qi3 sz b L i hi]; rfl
def qo5 (b i:Nat) (L:Fam):List V:=qf5 b (L.take i) ++ qkh (b + i) (L.drop i)
theorem q0e (b:Nat) (L:Fam):qo5 b 0 L = qkh b L:=by simp [qo5,qf5]
theorem q4p (b:Nat) (L:Fam):qo5 b L.length L = qf5 b L:=by simp [qo5,qkh]
theorem qti (b i:Nat) (L:Fam) (h:i≤L.length):(qo5 b i L).length = L.length:=by simp [qo5,qep,qch]; omega
theorem q4q (b i:Nat) (L:Fam) {x:Option (Nat × List V)} (h:L[i]? = some x) (hi:i < (qo5 b i L).length):(qo5 b i L)[i] = qbk (b + i) x:=by
 obtain ⟨h1,h2⟩:=List.getElem?_eq_some_iff.1 h;have e:(qf5 b (L.take i)).length = i:=by simp [qep]; omega
 have:=quv (b + i) (L.drop i) 0 (x:=x) (by simpa using h) (by rw [qch]; simp; omega)
 have k:(qo5 b i L)[i]? = some (qbk (b + i) x):=by
  unfold qo5;rw [List.getElem?_append_right (by omega),e,Nat.sub_self,jqy (by rw [qch]; simp; omega),this,Nat.add_zero]
 rw [jqy hi] at k;exact Option.some.inj k
theorem q4r (b i:Nat) (L:Fam) {x:Option (Nat × List V)} (h:L[i]? = some x):(qo5 b i L).set i (q3f (b + i) x) = qo5 b (i + 1) L:=by
 obtain ⟨h1,h2⟩:=List.getElem?_eq_some_iff.1 h;have e:(qf5 b (L.take i)).length = i:=by simp [qep]; omega
 unfold qo5;rw [List.set_append_right _ _ (by omega),e,Nat.sub_self,List.drop_eq_getElem_cons h1];simp only [qkh,List.set_cons_zero];rw [List.take_succ_eq_append_getElem h1,qql,h2];simp [qf5,Nat.add_assoc];rw [Nat.min_eq_left (by omega)]
theorem qzh {sz:Nat} (b:Nat) (L:Fam) (h:Hp) (n:Nat) (hk:∀ (i g:Nat) l,L[i]? = some (some (g,l))->lk h (b + i) = some (.row g sz l)/\jos l = true):(qf5 b L).map (frz h (n + 1)) = L.map fun x=>qlp (qa6 x):=by
 induction L generalizing b with
 | nil=>rfl
 | cons x r ih=>
  simp only [qf5,List.map_cons];rw [ih (b + 1) fun i g l hi=>by have:=hk (i + 1) g l (by simpa using hi); rwa [show b + (i + 1) = b + 1 + i by omega] at this];congr 1
  cases x with
  | none=>simp [q3f,qlp,qa6]
  | some p=>
   obtain ⟨g,l⟩:=p;obtain ⟨q1,q2⟩:=hk 0 g l (by simp);rw [Nat.add_zero] at q1;simp only [q3f];rw [qbf q1 (by omega),List.drop_zero,List.take_length,qbm h n q2];rfl
theorem qwe {K:V->Hp->Prop} {h:Hp} (h2:Hp) (hs:Sub h2 h) (hk:K (.sl [] (some 0)) h2):qau Tryz.prog gl0 136 [.nil] h K:=by
 refine jqr je9 rfl ?_;simp [jj0,joh];exact .done (by simpa using ⟨h2,hs,hk⟩)
theorem qwf {K:V->Hp->Prop} {h:Hp} {b g l:Nat} {cap:Option Nat} {es:List V} (hb:lk h b = some (.row g 2 es)) (h2:Hp) (hs:Sub h2 h) (hk:K (.ref b g 0 l (some l)) h2):qau Tryz.prog gl0 136 [.ref b g 0 l cap] h K:=by
 refine jqr je9 rfl ?_;simp [jj0,joh,hb];exact .done (by simpa using ⟨h2,hs,hk⟩)
theorem q3r (c:Ci) (hl:c.n.length < 1000000) (hin:∀ n ∈ c.n,n.i.length < 10000000) (hq:∀ j,(qgy j c.n 0).length≤1000000000):qac Tryz.prog gl0 147 [c.v] (.sl (qom c) (some c.n.length)):=by
 refine jqo 2 jlb rfl ?_;simp [i147,x147,Ci.v];intro gf gf2;have:c.n.length≤549755813888:=by omega
 simp [this];refine jqk (qig c) (by simp) ?_;simp;generalize gf 1 = g1;generalize gf2 14 = g14;clear gf gf2
 refine jqn (X:=Nat × Fam) (fun x=>[(20,.int .i64 (x.1:Int)),(19,.int .i64 (c.n.length:Int)),(18,.sl (c.n.map Nd.v) none),(4,.fn 212 [] [.iptr c.v 0]),(3,.ref 14 g14 0 c.n.length (some c.n.length)),(1,.ptr 1 g1 0 0)])
  (fun x=>(14,.row g14 1 (qkh 1000 x.2)) :: (1,.row g1 4 [c.v]) :: qjq 2 1000 x.2)
  (fun x=>x.1≤c.n.length/\qsb c x.1 0 x.2) (fun x=>c.n.length - x.1) (0,List.replicate c.n.length none) ?_ ?_ ?_ ?_
 ·exact ⟨by simp,qsb.start c⟩
 ·simp
 ·simp [qzd,qzc,Ci.v]
 ·rintro ⟨i,L⟩ ⟨h1,h2⟩;dsimp only at h1 h2;simp;refine jql (fun hb=>?_) (fun hb=>?_)
  ·have hi:i < c.n.length:=jqs hb;have hw:IntKind.i64.wrap ((i:Int) + 1) = ((i + 1:Nat):Int):=by rw [qao] <;> omega
   have hni:=hin c.n[i] (jqx hi);have hnd:c.n.getD i default = c.n[i]:=by simp [hi]
   simp [hi,Nd.v];intro gf6;generalize gf6 6 = g6
   refine jo8 (X:=Nat × Fam) (fun x=>[(28,.int .i64 (x.1:Int)),(27,.int .i64 (c.n[i].i.length:Int)),(26,.sl (qc8 c.n[i].i) none),(5,.int .i64 (i:Int)),(20,.int .i64 (i:Int)),(19,.int .i64 (c.n.length:Int)),(18,.sl (c.n.map Nd.v) none),(4,.fn 212 [] [.iptr c.v 0]),(3,.ref 14 g14 0 c.n.length (some c.n.length)),(1,.ptr 1 g1 0 0)])
    (fun x=>(14,.row g14 1 (qkh 1000 x.2)) :: (1,.row g1 4 [c.v]) :: qjq 2 1000 x.2)
    (fun x=>x.1≤c.n[i].i.length/\qsb c i x.1 x.2) (fun x=>c.n[i].i.length - x.1) ?_ ?_
   ·refine .done ⟨(0,L),⟨by simp,h2⟩,by simp,?_⟩;simp;exact qb1 fun t ht=>by simp [show ¬ t = 6 by omega,show ¬ t = 14 by omega,show ¬ t = 1 by omega]
   ·clear h2 L;rintro ⟨k,L⟩ ⟨h3,h2⟩;dsimp only at h2 h3;simp;refine jql (fun hc=>?_) (fun hc=>?_)
    ·have hk:k < c.n[i].i.length:=jqs hc;have hwk:IntKind.i64.wrap ((k:Int) + 1) = ((k + 1:Nat):Int):=by rw [qao] <;> omega
     simp [hk,qa3];refine jqk (qjc c _) (by simp [Ci.v]) ?_;simp;refine jql (fun ho=>?_) (fun ho=>?_)
     ·simp at ho;obtain ⟨m,hm⟩:∃ m:Nat,c.n[i].i[k] = (m:Int):=⟨c.n[i].i[k].toNat,by omega⟩;have hml:m < c.n.length:=by omega
      have hmL:m < L.length:=by rw [h2.1]; exact hml
      obtain ⟨x,hx⟩:∃ x,L[m]? = some x:=⟨_,jqy hmL⟩;have hk':k < (c.n.getD i default).i.length:=by rw [hnd]; exact hk
      have hm':(c.n.getD i default).i[k] = (m:Int):=by simp only [hnd]; exact hm
      have hlk:=qi3 2 1000 L m hx;have hadd:=fun g=>h2.add hk' hx hm' g;have hlen:=h2.len hx;have hqm:=hq m;have hpu:=(h2.2 m _ hx).2.1;have hfv:m < (qkh 1000 L).length:=by rw [qch]; exact hmL
      have hget:=quv 1000 L m hx hfv;rw [hm];simp [hml,hget,qch,hmL]
      cases x with
      | none=>
       simp [qbk,hwk,hml,hget,qch,hmL];refine fun gf1 gf2=>.move 47 (1000 + m) _ (by omega) (by simp; rfl) fun g2=>.done ⟨k + 1,L.set m (some (g2,[qrc i k])),?_⟩;have n1:¬ 1000 + m = 47:=by omega
       have n2:¬ 1000 + m = 14:=by omega
       have n3:¬ 1000 + m = 1:=by omega
       have n4:¬ 14 = 1000 + m:=by omega
       have n5:¬ 1 = 1000 + m:=by omega
       have n6:¬ 46 = 1000 + m:=by omega
       have n7:¬ 47 = 1000 + m:=by omega
       refine ⟨⟨hk,hadd g2⟩,?_⟩;have hfr:=q8w (mvS 47 (gf2 47) (1000 + m) g2) 1000 L (qrj _ _ _ _ _ (by omega));simp [n4,n5,n6,n7,qap _ (qdq _),qap _ (qcu _),qez _ (qyp c),List.map_set,hfr,<- quu,qbk,qrc];refine ⟨qmc (by simp [n2]) fun j g3 l3 hj hL=>?_,by omega⟩;have q1:¬ 1000 + j = 1000 + m:=by omega
       have q2:¬ 1000 + j = 14:=by omega
       have q3:¬ 1000 + j = 46:=by omega
       have q4:¬ 1000 + j = 1:=by omega
       have q5:¬ 1000 + j = 47:=by omega
       have q6:=(h2.2 j _ hL).2.1;simp [hj,q2,q3,q4,qz6 (s:=mvS 47 (gf2 47) (1000 + m) g2) (g:=g2) (b:=47) (by omega) q1 q5 hL q6]
      | some p=>
       obtain ⟨g,l⟩:=p;simp only [qa6] at hlen hpu;have hle:l.length + 1≤274877906944:=by omega
       have n1:¬ 1000 + m = 46:=by omega
       have n2:¬ 1000 + m = 14:=by omega
       have n3:¬ 1000 + m = 1:=by omega
       have n4:¬ 14 = 1000 + m:=by omega
       simp [qbk,hwk,hml,hget,qch,hmL,hlk,jby,hle,n1,n2,n3,n4];refine fun gf1 gf2=>.done ⟨k + 1,L.set m (some (gf2 (1000 + m),l ++ [qrc i k])),?_⟩;refine ⟨⟨hk,hadd _⟩,?_⟩;have n5:¬ 1 = 1000 + m:=by omega
       simp [n5,<- quu,qbk,qrc];refine ⟨qmc (by simp [n2]) fun j g3 l3 hj hL=>?_,by omega⟩;have q1:¬ 1000 + j = 1000 + m:=by omega
       have q2:¬ 1000 + j = 14:=by omega
       have q3:¬ 1000 + j = 46:=by omega
       have q4:¬ 1000 + j = 1:=by omega
       simp [hj,q2,q3,q4,qi3 2 1000 L j hL,jby]
     ·simp at ho;simp [hwk];have hk':k < (c.n.getD i default).i.length:=by rw [hnd]; exact hk
      refine .done ⟨k + 1,L,⟨hk,h2.skip hk' ?_⟩,by simp,?_,by omega⟩
      ·intro j hj e;simp only [hnd] at e;omega
      ·simp;exact qb1 fun t ht=>by simp [show ¬ t = 14 by omega,show ¬ t = 1 by omega]
    ·have hk:¬ k < c.n[i].i.length:=jqt hc;simp [hw];refine ⟨i + 1,L,⟨by omega,h2.next (by rw [hnd]; omega) hi⟩,rfl,⟨rfl,?_⟩,by omega⟩;exact qb1 fun t ht=>by simp [show ¬ t = 14 by omega,show ¬ t = 1 by omega]
  ·have hi:i = c.n.length:=by have:=jqt hb; omega
   subst hi;simp
   refine jqn (X:=Nat) (fun x=>[(53,.int .i64 (x:Int)),(52,.int .i64 (c.n.length:Int)),(51,.ref 14 g14 0 c.n.length (some c.n.length)),(3,.ref 14 g14 0 c.n.length (some c.n.length))])
    (fun x=>(14,.row g14 1 (qo5 1000 x L)) :: qjq 2 1000 L)
    (fun x=>x≤c.n.length) (fun x=>c.n.length - x) 0 ?_ ?_ ?_ ?_
   ·simp
   ·simp
   ·simp [q0e];exact qb1 fun t ht=>by simp [show ¬ t = 14 by omega,show ¬ t = 1 by omega]
   ·rintro i h3;simp;refine jql (fun hb=>?_) (fun hb=>?_)
    ·have hi:i < c.n.length:=jqs hb;have hiL:i < L.length:=by rw [h2.1]; exact hi
     have hw:IntKind.i64.wrap ((i:Int) + 1) = ((i + 1:Nat):Int):=by rw [qao] <;> omega
     obtain ⟨x,hx⟩:∃ x,L[i]? = some x:=⟨_,jqy hiL⟩;have hml:(qo5 1000 i L).length = c.n.length:=by rw [qti _ _ _ (by omega),h2.1]
     have hget:=q4q 1000 i L hx (by rw [hml]; exact hi);have hlk:=qi3 2 1000 L i hx;have hset:=q4r 1000 i L hx;simp [hi,hml,hget]
     cases x with
     | none=>
      simp [qbk];have hsub:Sub ((14,Blk.row g14 1 (qo5 1000 i L)) :: qjq 2 1000 L) ((14,Blk.row g14 1 (qo5 1000 i L)) :: qjq 2 1000 L):=⟨by simp,qb1 fun t ht=>by simp [show ¬ t = 14 by omega]⟩;refine qwe _ hsub ?_;simp [hi,hml,hget,qbk];refine ⟨i + 1,by omega,hw,⟨hset,?_⟩,by omega⟩;exact qb1 fun t ht=>by simp [show ¬ t = 14 by omega]
     | some p=>
      obtain ⟨g,l⟩:=p;have n2:¬ 1000 + i = 14:=by omega
      have hsub:Sub ((14,Blk.row g14 1 (qo5 1000 i L)) :: qjq 2 1000 L) ((14,Blk.row g14 1 (qo5 1000 i L)) :: qjq 2 1000 L):=⟨by simp,qb1 fun t ht=>by simp [show ¬ t = 14 by omega]⟩;simp [qbk];refine qwf (es:=l) (by simp [n2,hlk,jby]) _ hsub ?_;simp [hi,hml,hget,qbk];refine ⟨i + 1,by omega,hw,⟨hset,?_⟩,by omega⟩;exact qb1 fun t ht=>by simp [show ¬ t = 14 by omega]
    ·have hi:i = L.length:=by have:=jqt hb; have:=h2.1; omega
     subst hi;simp [-frz];have hcl:(qf5 1000 L).length = c.n.length:=by rw [qep,h2.1]
     rw [q4p,qbf (es:=qf5 1000 L) (sz:=1) (by simp) (by rw [hcl]; omega),List.drop_zero,jqw (by rw [hcl]; exact jqz _),qzh (sz:=2) 1000 L _ _ fun i g l hi=>⟨by simp [show ¬ 1000 + i = 14 by omega,qi3 2 1000 L i hi,jby],(h2.2 i _ hi).2.1⟩];congr 1;unfold qom;refine List.ext_getElem? fun i=>?_;simp only [List.getElem?_map]
     cases hx:L[i]? with
     | none=>
      have:¬ i < c.n.length:=by rw [<- h2.1]; simpa using hx
      simp [this]
     | some x=>
      have hi:i < c.n.length:=by rw [<- h2.1]; exact (List.getElem?_eq_some_iff.1 hx).1
      have hx3:=(h2.2 i x hx).2.2;have e1:c.n.getD c.n.length default = default:=by simp [jqu]
      have e2:(default:Nd).i = []:=rfl;rw [e1,e2,List.drop_eq_nil_of_le (show c.n.length≤c.n.length + 1 by omega)] at hx3;simp [qtp,qgy] at hx3;simp [hi,qlp,hx3]
end
end Go.Proofs.YtpaopccohkldlaaGreatDoor
