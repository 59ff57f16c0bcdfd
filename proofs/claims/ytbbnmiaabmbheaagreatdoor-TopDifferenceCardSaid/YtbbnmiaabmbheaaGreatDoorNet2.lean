/- Lemmas. Conditions: none. -/
import Derived.Test.YtbbnmiaabmbheaaGreatDoorXTR
set_option linter.all false
namespace Go.Proofs.YtbbnmiaabmbheaaGreatDoor
section
open Go
def tab7:V:=.agg ([0,1,28,2,29,14,24,3,30,22,20,15,25,17,4,8,31,27,13,23,21,19,16,7,26,12,18,6,11,5,10,9].map (V.int .u8))
def tab8:V:=.agg ([0,1,56,2,57,49,28,3,61,58,42,50,38,29,17,4,62,47,59,36,45,43,51,22,53,39,33,30,24,18,12,5,63,55,48,27,60,41,37,16,46,35,44,21,52,32,23,11,54,26,40,15,34,20,31,10,25,14,19,9,13,8,7,6].map (V.int .u8))
def tab2:V:=.agg ([1,10,100,1000,10000,100000,1000000,10000000,100000000,1000000000,10000000000,100000000000,1000000000000,10000000000000,100000000000000,1000000000000000,10000000000000000,100000000000000000,1000000000000000000,10000000000000000000].map (V.int .u64))
def tabK:V:=.agg ([[73,78,80,85,84],[90,69,82,79],[79,78,69],[66,85,70],[78,79,84],[65,78,68],[78,65,78,68],[79,82],[78,79,82],[88,79,82],[88,78,79,82],[77,85,88],[84,82,73],[66,85,83],[68,70,70],[77,69,77]].map V.str)
def gl0:Fr:=[(0,.iptr tab7 0),(1,.iptr tab8 0),(9,.iptr tab2 0),(8,.iptr (.err false) 0),(7,.iptr (.err false) 0),(2,.iptr (.agg ([0,0,0,0,0,0,1,1,1,1,2,16,2,16,2,16,2,16,2,16,2,16,3,3,2,2,1,16,1,1,0,0].map (V.int .i64))) 0),(3,.iptr tabK 0)]
end
section
open Go
theorem q0d (k:Int):qac Tryz.prog gl0 30 [.int .u8 k] (.bool (decide (1≤k/\k≤13))):=by
 refine jj7 2 ok30 rfl ?_
 repeat' (first | refine jj5 (fun _=>?_) (fun _=>?_) | (intro _) | simp [*,i30,x30])
theorem q59 (s:List UInt8) (c:Int) (h:0≤c/\c < 256):qac Tryz.prog gl0 286 [.str s,.int .u8 c] (.int .i64 (idxOf c s 0)):=by
 refine jj7 2 q77 rfl ?_;simp [jdf,x286,nop,h]
theorem q2d (s:List UInt8) (c:Int) (h:0≤c/\c < 256):qac Tryz.prog gl0 238 [.str s,.int .u8 c] (.int .i64 (idxOf c s 0)):=by
 refine jj7 2 q7y rfl ?_;simp [jc6,x238];refine jj4 (q59 s c h) rfl ?_;simp
theorem q3o {x:Int} (h0:0≤x) (h1:x < 256):IntKind.u8.wrap x = x:=by
 simp [IntKind.wrap,IntKind.bits,IntKind.signed]; omega
theorem q6a (s:List UInt8) (r:Int) (h:0≤r/\r < 128):qac Tryz.prog gl0 336 [.str s,.int .i32 r] (.int .i64 (idxOf r s 0)):=by
 have hw:IntKind.u8.wrap r = r:=q3o h.1 (by omega);refine jj7 2 q8d rfl ?_;simp [jdk,x336,h,hw];refine jj4 (q2d s r ⟨h.1,by omega⟩) rfl ?_;simp
theorem q1x (s:List UInt8) (r:Int) (h:0≤r/\r < 128):qac Tryz.prog gl0 322 [.str s,.int .i32 r] (.bool (decide (0≤idxOf r s 0))):=by
 refine jj7 2 q79 rfl ?_;simp [jdg,x322];refine jj4 (q6a s r h) rfl ?_;simp
def q43 (r:Int):Bool:=decide (r≤32) || decide (126 < r) || decide (0≤idxOf r [40,41,61,44,35] 0)
theorem jbs (r:Int):qac Tryz.prog gl0 321 [.int .i32 r] (.bool (q43 r)):=by
 refine jj7 2 q78 rfl ?_;by_cases h1:r≤32
 ·simp [q58,jbn,h1,q43]
 ·by_cases h2:126 < r
  ·simp [q58,jbn,h1,h2,q43]
  ·simp [q58,jbn,h1,h2,q43];refine jj4 (q1x _ r ⟨by omega,by omega⟩) rfl ?_;simp
def qdg:Nat->List UInt8->Nat->Int
 | 0,_,_=>-1
 | n + 1,s,pos=>if pos < s.length then (if q43 (Utf8.decode ⟨s.toArray⟩ pos).1 = true then (pos:Int) else qdg n s (pos + (Utf8.decode ⟨s.toArray⟩ pos).2)) else -1
theorem q1y (s:List UInt8) (pos:Nat):1≤(Utf8.decode ⟨s.toArray⟩ pos).2:=by
 simp only [Utf8.decode]
 repeat' split
 all_goals simp
theorem qyc (s:List UInt8):qac Tryz.prog gl0 351 [.str s,.fn 321 [] [],.bool true] (.int .i64 (qdg (s.length + 1) s 0)):=by
 obtain ⟨r,hr⟩:∃ r,qdg (s.length + 1) s 0 = r:=⟨_,rfl⟩;rw [hr];refine jj7 2 q8f rfl ?_;simp [jdm,x351,nop];intro gf
 refine jj6 (X:=Nat × Nat) (fun x=>[(0,.str s),(1,.fn 321 [] []),(2,.bool true),(10,.own 10 (gf 10))]) (fun x=>[(10,.siter (gf 10) s x.1)])
  (fun x=>s.length < x.1 + x.2/\qdg x.2 s x.1 = r) (fun x=>x.2) (0,s.length + 1) ⟨by simp,hr⟩ (by simp) (by simp) ?_
 rintro ⟨pos,fuel⟩ ⟨h2,h3⟩;dsimp only at h2 h3
 cases fuel with
 | zero=>
  have hp:¬ pos < s.length:=by omega
  simp [nop,hp,<- h3,qdg]
 | succ fuel=>
  have hd:=q1y s pos;by_cases hp:pos < s.length
  ·simp [nop,hp];refine jj4 (jbs _) rfl ?_;simp;refine jj5 (fun hb=>?_) (fun hb=>?_)
   ·simp [<- h3,qdg,hp,hb]
   ·simp;refine ⟨_,fuel,⟨?_,?_⟩,rfl,by omega⟩
    ·omega
    ·rw [<- h3]; simp [qdg,hp,hb]
  ·simp [nop,hp,<- h3,qdg]
theorem qx9 (s:List UInt8):qac Tryz.prog gl0 337 [.str s,.fn 321 [] []] (.int .i64 (qdg (s.length + 1) s 0)):=by
 refine jj7 2 q8e rfl ?_;simp [jdl,x337];refine jj4 (qyc s) rfl ?_;simp
theorem qpp (s:List UInt8):qac Tryz.prog gl0 323 [.str s,.fn 321 [] []] (.bool (decide (0≤qdg (s.length + 1) s 0))):=by
 refine jj7 2 q8a rfl ?_;simp [jdh,x323];refine jj4 (qx9 s) rfl ?_;simp
def qvp (s:List UInt8):Bool:=decide (s ≠ []) && decide (s.length≤32) && !(decide (0≤qdg (s.length + 1) s 0))
theorem qye (s:List UInt8):qac Tryz.prog gl0 281 [.str s] (.bool (qvp s)):=by
 have hc:=qpp s;refine jj7 2 q72 rfl ?_;unfold qvp;generalize decide (0≤qdg (s.length + 1) s 0) = q at *;simp [jda,x281];refine jj5 (fun h1=>?_) (fun h1=>?_)
 ·simp [h1]
 ·simp [h1];refine jj5 (fun h2=>?_) (fun h2=>?_)
  ·simp [h2];refine jj4 hc rfl ?_;simp
  ·simp [h2]
theorem pureL_map {α:Type} {f:α->V} (hf:∀ x,(f x).pure = true):∀ l:List α,jid (l.map f) = true
 | []=>rfl
 | x :: l=>by simp [jid,hf x,pureL_map hf l]
@[simp] theorem q80 (l:List (List UInt8)):jid (l.map .str) = true:=pureL_map (fun _=>rfl) l
end
section
open Go
def qku (sz:Nat) (xs:List V) (v:V) (h:Hp):Prop:=(xs = []/\v = .sl [] (some 0)/\h = [])∨∃ g,v = .ref 0 g 0 xs.length (some xs.length)/\h = [(0,.row g sz xs)]
end
section
open Go
def qdh (l:List Int):List V:=l.map (.int .i64)
@[simp] theorem q2e (l:List Int):(qdh l).length = l.length:=by simp [qdh]
@[simp] theorem qfx (l:List Int):jid (qdh l) = true:=pureL_map (fun _=>rfl) l
@[simp] theorem q4a (l:List Int):((qdh l).all fun x=>decide (x.cells.length = 1)) = true:=by simp [qdh]
structure Nd where
 k:Int
 i:List Int
 a:Int
 b:Int
 deriving Inhabited
def Nd.v (n:Nd):V:=.agg [.int .u8 n.k,.sl (qdh n.i) none,.int .i64 n.a,.int .i64 n.b]
structure Md where
 a:List Int
 d:List Int
 w:Int
 deriving Inhabited
def Md.v (n:Md):V:=.agg [.sl (qdh n.a) none,.sl (qdh n.d) none,.int .i64 n.w]
structure Ci where
 n:List Nd
 s:List (List UInt8)
 m:List Md
 o:List Int
def Ci.v (c:Ci):V:=.agg [.sl (c.n.map Nd.v) none,.sl (c.s.map .str) none,.sl (c.m.map Md.v) none,.sl (qdh c.o) none]
@[simp] theorem qrs (l:List Nd):jid (l.map Nd.v) = true:=pureL_map (fun x=>by simp [Nd.v]) l
@[simp] theorem qyq (l:List Md):jid (l.map Md.v) = true:=pureL_map (fun x=>by simp [Md.v]) l
theorem qf1 {a b:List V} (h:jid a = true) (k:jid b = true):jid (a ++ b) = true:=by
 rw [jig] at *;intro v hv;rcases List.mem_append.1 hv with q | q
 ·exact h v q
 ·exact k v q
theorem qbf {l:List V} (h:jid l = true) {f:Nat->Nat->Nat->Nat->Option Nat->V} {p:Nat->Nat->Nat->Nat->V}:(l.map fun x=>V.mapR f p x) = l:=by
 have:=qao (f:=f) (p:=p) l h;rw [qcj] at this; exact this
def qbe (b:Nat):Option (Nat × List V)->V
 | none=>.nil
 | some (g,l)=>.ref b g 0 l.length none
def qbj (b sz:Nat):Option (Nat × List V)->Hp
 | none=>[]
 | some (g,l)=>[(b,.row g sz l)]
def qav:Option (Nat × List V)->List V
 | none=>[]
 | some (_,l)=>l
def qym (l:List V):V:=match l with
 | []=>.nil
 | _ :: _=>.sl l none
theorem qev (l:List Int) (i:Nat) (h:i < (qdh l).length):(qdh l)[i] = .int .i64 (l[i]'(by simpa using h)):=by simp [qdh]
end
section
open Go
end
section
open Go
def qkz (x:Int):List Int->Nat->Int
 | [],_=>-1
 | y :: r,i=>if x = y then (i:Int) else qkz x r (i + 1)
theorem qn0 (x:Int):∀ (l:List Int) (i:Nat),(0≤qkz x l i)↔x ∈ l
 | [],i=>by simp [qkz]
 | y :: l,i=>by
  by_cases h:x = y
  ·simp [qkz,h]
  ·simp [qkz,h,qn0 x l (i + 1)]
theorem qya (x:Int) (l:List Int) (cap:Option Nat) (hl:l.length < 1000000000000):qac Tryz.prog gl0 266 [.sl (l.map (.int .u8)) cap,.int .u8 x] (.int .i64 (qkz x l 0)):=by
 obtain ⟨q,hq⟩:∃ r,qkz x l 0 = r:=⟨_,rfl⟩;rw [hq];refine jj7 2 q7z rfl ?_;simp [jc7,x266]
 refine jj6 (X:=Nat) (fun i=>[(8,.int .i64 (i:Int)),(7,.int .i64 (l.length:Int)),(0,.sl (l.map (.int .u8)) cap),(1,.int .u8 x)]) (fun _=>[])
  (fun i=>i≤l.length/\qkz x (l.drop i) i = q) (fun i=>l.length - i) 0 ⟨by simp,by simpa using hq⟩ (by simp) (by simp) ?_
 rintro i ⟨h2,h3⟩;simp;refine jj5 (fun h1=>?_) (fun h1=>?_)
 ·have h1':i < l.length:=jkb h1;have hw:IntKind.i64.wrap ((i:Int) + 1) = ((i + 1:Nat):Int):=by rw [qas] <;> omega
  rw [List.drop_eq_getElem_cons h1'] at h3;simp only [qkz] at h3;simp [h1'];refine jj5 (fun h4=>?_) (fun h4=>?_)
  ·rw [if_pos (jkb h4)] at h3;simp [h3]
  ·rw [if_neg (jkc h4)] at h3;simp [hw];exact ⟨i + 1,⟨h1',h3⟩,rfl,by omega⟩
 ·have h1':i = l.length:=by have:=jkc h1; omega
  subst h1';simp [qkz] at h3;simp [h3]
@[simp] theorem ja4 (l:List Int):jid (l.map (.int .u8)) = true:=pureL_map (fun _=>rfl) l
theorem qsm (x:Int) (l:List Int) (cap:Option Nat) (hl:l.length < 1000000000000):qac Tryz.prog gl0 193 [.sl (l.map (.int .u8)) cap,.int .u8 x] (.bool (decide (x ∈ l))):=by
 refine jj7 2 q7m rfl ?_;simp [jcu,x193];refine jj4 (qya x l cap hl) (by simp) ?_;simp [qn0]
def qlv (ks:List Int):List Nd->Nat->List V
 | [],_=>[]
 | n :: r,i=>if n.k ∈ ks then .int .i64 (i:Int) :: qlv ks r (i + 1) else qlv ks r (i + 1)
theorem jd2 (c:Ci) (ks:List Int) (cap:Option Nat) (hl:c.n.length < 1000000) (hk:ks.length < 1000000000000):qce Tryz.prog gl0 116 [c.v,.sl (ks.map (.int .u8)) cap] (qku 1 (qlv ks c.n 0)):=by
 refine jj9 q60 rfl ?_;obtain ⟨q,hq⟩:∃ r,qlv ks c.n 0 = r:=⟨_,rfl⟩;rw [hq];simp [jb8,x116,Ci.v];intro gf
 refine jj6 (X:=Nat × Option (Nat × List V)) (fun x=>[(11,.int .i64 (x.1:Int)),(10,.int .i64 (c.n.length:Int)),(9,.sl (c.n.map Nd.v) none),(5,qbe 23 x.2),(1,.sl (ks.map (.int .u8)) cap)])
  (fun x=>qbj 23 1 x.2)
  (fun x=>x.1≤c.n.length/\(x.2 = none∨qav x.2 ≠ [])/\(qav x.2).length≤x.1/\jid (qav x.2) = true/\qav x.2 ++ qlv ks (c.n.drop x.1) x.1 = q) (fun x=>c.n.length - x.1) (0,none) ⟨by simp,by simp,by simp [qav],by simp [qav],by simpa [qav] using hq⟩ (by simp [qbe]) (by simp [qbj]) ?_
 rintro ⟨i,acc⟩ ⟨h1,h2,h3,h4,h5⟩;dsimp only at h1 h2 h3 h4 h5;simp;refine jj5 (fun hb=>?_) (fun hb=>?_)
 ·have hi:i < c.n.length:=jkb hb;have hw:IntKind.i64.wrap ((i:Int) + 1) = ((i + 1:Nat):Int):=by rw [qas] <;> omega
  rw [List.drop_eq_getElem_cons hi] at h5;simp only [qlv] at h5;simp [hi,Nd.v];intro gf2;refine jj4 (qsm _ ks cap hk) (by simp) ?_;simp;refine jj5 (fun hk=>?_) (fun hk=>?_)
  ·rw [if_pos (jkb hk)] at h5
   cases acc with
   | none=>
    simp [qbe,qbj,hw];refine fun gf1 gf2=>⟨i + 1,some (gf2 23,[.int .i64 i]),?_⟩;simp [qav] at h5 ⊢;exact ⟨⟨by omega,h5⟩,by omega⟩
   | some gl=>
    obtain ⟨g,l⟩:=gl;simp only [qav] at h3 h4 h5 h2;have hle:l.length + 1≤274877906944:=by omega
    simp [qbe,qbj,hw,hle];refine fun gf1 gf2=>⟨i + 1,some (gf2 23,l ++ [.int .i64 i]),?_⟩;simp [qav,h5,List.append_assoc];exact ⟨⟨by omega,by omega,qf1 h4 rfl⟩,by omega⟩
  ·rw [if_neg (jkc hk)] at h5;simp [hw];exact ⟨i + 1,acc,⟨by omega,h2,by omega,h4,h5⟩,⟨rfl,rfl⟩,by cases acc <;> simp [qbj],by omega⟩
 ·have hi:¬ i < c.n.length:=jkc hb;rw [List.drop_eq_nil_of_le (by omega)] at h5;simp only [qlv,List.append_nil] at h5
  cases acc with
  | none=>
   simp [qav] at h5;subst h5;simp [qbe,qbj];refine jka q8g rfl ?_;simp [i53,x53];exact .done (by simpa using ⟨[],trivial,.done (by simp [qku])⟩)
  | some gl=>
   obtain ⟨g,l⟩:=gl;simp only [qav] at h3 h4 h5 h2;subst h5;simp [qbe,qbj];refine jka q8g rfl ?_;simp [i53,x53];refine .done ?_;simp only [lk,if_true];refine ⟨[(23,Blk.row g 1 l)],by simp,.move 23 0 _ (by simp) (by simp; rfl) fun g2=>.done ?_⟩;simp [qbi h4,qku]
theorem qeb (ks:List Int):∀ (l:List Nd) (i:Nat),jih (qlv ks l i) = true/\jid (qlv ks l i) = true
 | [],i=>⟨rfl,rfl⟩
 | n :: r,i=>by
  obtain ⟨h1,h2⟩:=qeb ks r (i + 1);simp only [qlv];split
  ·exact ⟨by simp [jih,V.noG,h1],by simp [jid,V.pure,h2]⟩
  ·exact ⟨h1,h2⟩
theorem qyd (c:Ci) (hl:c.n.length < 1000000):qce Tryz.prog gl0 40 [c.v] (qku 1 (qlv [0] c.n 0)):=by
 obtain ⟨n1,n2⟩:=qeb [0] c.n 0;refine jj9 ok40 rfl ?_;simp [i40,x40,Ci.v];intro gf gf2;refine ji3 1 1000 (jd2 c [0] (some 1) hl (by simp)) (by simp [Ci.v,qao]) (by simp) ?_;rintro v h' (⟨hq,rfl,rfl⟩ | ⟨g,rfl,rfl⟩)
 ·refine ⟨rfl,fun b k hb=>by simp [lk] at hb,fun gf=>?_⟩;simp;exact .done (by simpa using ⟨[],trivial,by simp [qku,hq]⟩)
 ·refine ⟨rfl,fun b k hb=>?_,fun gf=>?_⟩
  ·simp only [lk] at hb;split at hb
   ·cases hb; exact n1
   ·cases hb
  ·simp [qbi n2];refine .move 1000 0 _ (by simp) (by simp; rfl) fun g2=>.done ?_;simp [qbi n2,qku]
theorem qr5 (c:Ci) (hl:c.n.length < 1000000):qce Tryz.prog gl0 41 [c.v] (qku 1 (qlv [14] c.n 0)):=by
 obtain ⟨n1,n2⟩:=qeb [14] c.n 0;refine jj9 ok41 rfl ?_;simp [i41,x41,Ci.v];intro gf gf2;refine ji3 1 1000 (jd2 c [14] (some 1) hl (by simp)) (by simp [Ci.v,qao]) (by simp) ?_;rintro v h' (⟨hq,rfl,rfl⟩ | ⟨g,rfl,rfl⟩)
 ·refine ⟨rfl,fun b k hb=>by simp [lk] at hb,fun gf=>?_⟩;simp;exact .done (by simpa using ⟨[],trivial,by simp [qku,hq]⟩)
 ·refine ⟨rfl,fun b k hb=>?_,fun gf=>?_⟩
  ·simp only [lk] at hb;split at hb
   ·cases hb; exact n1
   ·cases hb
  ·simp [qbi n2];refine .move 1000 0 _ (by simp) (by simp; rfl) fun g2=>.done ?_;simp [qbi n2,qku]
end
section
open Go
def qmq (i k:Nat):V:=.agg [.int .i64 (i:Int),.int .i64 (k:Int)]
def qqf (w:Int) (i:Nat):List Int->Nat->List V
 | [],_=>[]
 | x :: r,k=>if x = w then qmq i k :: qqf w i r (k + 1) else qqf w i r (k + 1)
def qfm (w:Int):List Nd->Nat->List V
 | [],_=>[]
 | n :: r,i=>qqf w i n.i 0 ++ qfm w r (i + 1)
end
section
open Go
theorem qgu (c:Ci):c.v.pure = true:=by simp [Ci.v]
theorem qhq (c:Ci):qac Tryz.prog gl0 228 [c.v] (.fn 283 [] [.iptr c.v 0]):=by
 refine jj7 2 q7r rfl ?_;simp [jcz,x228,Ci.v,qao]
theorem qh9 (c:Ci) (i:Int):qac Tryz.prog gl0 283 [.int .i64 i,.iptr c.v 0] (.bool (decide (i < 0) || decide ((c.n.length:Int)≤i))):=by
 refine jj7 2 q74 rfl ?_;simp [jdc,x283,Ci.v];refine jj5 (fun h1=>?_) (fun h1=>?_)
 ·simp [h1]
 ·simp [h1]
end
section
open Go
abbrev Fam:=List (Option (Nat × List V))
def qio (sz b:Nat):Fam->Hp
 | []=>[]
 | x :: r=>qbj b sz x ++ qio sz (b + 1) r
def qi8 (b:Nat):Fam->List V
 | []=>[]
 | x :: r=>qbe b x :: qi8 (b + 1) r
theorem qca (b:Nat) (L:Fam):(qi8 b L).length = L.length:=by
 induction L generalizing b with
 | nil=>rfl
 | cons x r ih=>simp [qi8,ih]
theorem qx5 (b:Nat) (L:Fam) (i:Nat) (h:i < L.length):(qi8 b L)[i]'(by rw [qca]; exact h) = qbe (b + i) L[i]:=by
 induction L generalizing b i with
 | nil=>simp at h
 | cons x r ih=>
  cases i with
  | zero=>simp [qi8]
  | succ i=>
   simp only [qi8,List.getElem_cons_succ];rw [ih (b + 1) i (by simpa using h),show b + 1 + i = b + (i + 1) by omega]
theorem qp2 (sz b:Nat) (L:Fam) (t:Nat) (h:t < b):lk (qio sz b L) t = none:=by
 induction L generalizing b with
 | nil=>rfl
 | cons x r ih=>
  have:=ih (b + 1) (by omega)
  cases x with
  | none=>simpa [qio,qbj] using this
  | some p=>
   obtain ⟨g,l⟩:=p;have hne:¬ t = b:=by omega
   simp [qio,qbj,lk,hne,this]
theorem q2f (sz b:Nat) (L:Fam) (i:Nat) (h:i < L.length):lk (qio sz b L) (b + i) = match L[i] with | some (g,l)=>some (.row g sz l) | none=>none:=by
 induction L generalizing b i with
 | nil=>simp at h
 | cons x r ih=>
  cases i with
  | zero=>
   cases x with
   | none=>simpa [qio,qbj] using qp2 sz (b + 1) r b (by omega)
   | some p=>obtain ⟨g,l⟩:=p; simp [qio,qbj,lk]
  | succ i=>
   have:=ih (b + 1) i (by simpa using h);rw [show b + 1 + i = b + (i + 1) by omega] at this;have hne:¬ b + (i + 1) = b:=by omega
   cases x with
   | none=>simpa [qio,qbj] using this
   | some p=>obtain ⟨g,l⟩:=p; simpa [qio,qbj,lk] using this
theorem qre (b:Nat) (L:Fam) (i:Nat) (x:Option (Nat × List V)):(qi8 b L).set i (qbe (b + i) x) = qi8 b (L.set i x):=by
 induction L generalizing b i with
 | nil=>rfl
 | cons y r ih=>
  cases i with
  | zero=>simp [qi8]
  | succ i=>
   simp only [qi8,List.set_cons_succ];rw [<- ih (b + 1) i,show b + 1 + i = b + (i + 1) by omega]
end
section
open Go
theorem qww {a b c:Hp}:Sub (a ++ b) c↔Sub a c/\Sub b c:=by
 induction a with
 | nil=>simp [Sub]
 | cons p r ih=>obtain ⟨k,v⟩:=p; simp [Sub,ih,and_assoc]
theorem qzs (sz b:Nat) (L:Fam) (h:Hp) (hk:∀ i (hi:i < L.length) g l,L[i] = some (g,l)->lk h (b + i) = some (.row g sz l)):Sub (qio sz b L) h:=by
 induction L generalizing b with
 | nil=>trivial
 | cons x r ih=>
  simp only [qio,qww];refine ⟨?_,ih (b + 1) fun i hi g l he=>?_⟩
  ·cases x with
   | none=>trivial
   | some p=>obtain ⟨g,l⟩:=p; exact ⟨by simpa using hk 0 (by simp) g l rfl,trivial⟩
  ·have:=hk (i + 1) (by simpa using hi) g l (by simpa using he)
   rwa [show b + (i + 1) = b + 1 + i by omega] at this
end
section
open Go
theorem q16 (s:Nat->Nat->Nat × Nat) (b:Nat) (L:Fam) (h:∀ i g,b≤i->s i g = (i,g)):(qi8 b L).map (V.rn s) = qi8 b L:=by
 induction L generalizing b with
 | nil=>rfl
 | cons x r ih=>
  have h1:=ih (b + 1) fun i g hi=>h i g (by omega);simp only [qi8,List.map_cons,h1];congr 1
  cases x with
  | none=>rfl
  | some p=>obtain ⟨g,l⟩:=p; simp [qbe,V.rn,h b g (jki _)]
theorem qon (b g b' g' base:Nat) (h:b < base):∀ i y,base≤i->mvS b g b' g' i y = (i,y):=by
 intro i y hi;have:¬ i = b:=by omega
 simp [mvS,this]
end
section
open Go
def qhi (L:List V):V:=.sl L (some L.length)
def qxs (b:Nat):Option (Nat × List V)->V
 | none=>.sl [] (some 0)
 | some (g,l)=>.ref b g 0 l.length (some l.length)
def qfr (b:Nat):Fam->List V
 | []=>[]
 | x :: r=>qxs b x :: qfr (b + 1) r
theorem qd4 (b:Nat) (L:Fam):(qfr b L).length = L.length:=by
 induction L generalizing b with
 | nil=>rfl
 | cons x r ih=>simp [qfr,ih]
theorem qnt (b:Nat) (L M:Fam):qfr b (L ++ M) = qfr b L ++ qfr (b + L.length) M:=by
 induction L generalizing b with
 | nil=>rfl
 | cons x r ih=>simp [qfr,ih,show b + 1 + r.length = b + (r.length + 1) by omega]
def qgj (c:Ci):List V:=(List.range c.n.length).map fun (j:Nat)=>qhi (qfm (j:Int) c.n 0)
theorem qrf (b:Nat) (L:Fam) (i:Nat) {x:Option (Nat × List V)} (h:L[i]? = some x) (hi:i < (qi8 b L).length):(qi8 b L)[i] = qbe (b + i) x:=by
 obtain ⟨h1,h2⟩:=List.getElem?_eq_some_iff.1 h;rw [qx5 b L i h1,h2]
theorem quu (b n:Nat):qi8 b (List.replicate n none) = List.replicate n .nil:=by
 induction n generalizing b with
 | zero=>rfl
 | succ n ih=>simp [List.replicate_succ,qi8,qbe,ih]
theorem qut (sz b n:Nat):qio sz b (List.replicate n none) = []:=by
 induction n generalizing b with
 | zero=>rfl
 | succ n ih=>simp [List.replicate_succ,qio,qbj,ih]
def qpe (c:Ci) (i k:Nat) (L:Fam):Prop:=L.length = c.n.length/\∀ (j:Nat) x,L[j]? = some x->(x = none∨qav x ≠ [])/\jid (qav x) = true/\qav x ++ (qqf j i ((c.n.getD i default).i.drop k) k ++ qfm j (c.n.drop (i + 1)) (i + 1)) = qfm j c.n 0
theorem qpe.start (c:Ci):qpe c 0 0 (List.replicate c.n.length none):=by
 refine ⟨by simp,fun j x hj=>?_⟩;rw [List.getElem?_replicate] at hj;split at hj
 ·rename_i h;cases hj;refine ⟨.inl rfl,rfl,?_⟩
  cases hn:c.n with
  | nil=>rw [hn] at h; simp at h
  | cons a r=>simp [qav,qfm]
 ·cases hj
theorem qpe.next {c:Ci} {i k:Nat} {L:Fam} (h:qpe c i k L) (hk:(c.n.getD i default).i.length≤k) (hi:i < c.n.length):qpe c (i + 1) 0 L:=by
 refine ⟨h.1,fun j x hj=>?_⟩;obtain ⟨h1,h2,h3⟩:=h.2 j x hj;refine ⟨h1,h2,?_⟩;rw [List.drop_eq_nil_of_le hk] at h3;rw [<- h3];congr 1;simp only [qqf,List.nil_append];by_cases hn:i + 1 < c.n.length
 ·rw [List.drop_eq_getElem_cons hn];simp [qfm,hn]
 ·have e1:c.n.getD (i + 1) default = default:=by simp [jkd,hn]
  have e2:(default:Nd).i = []:=rfl;rw [List.drop_eq_nil_of_le (show c.n.length≤i + 1 by omega),List.drop_eq_nil_of_le (show c.n.length≤i + 1 + 1 by omega),e1,e2];simp [qfm,qqf]
theorem qpe.skip {c:Ci} {i k:Nat} {L:Fam} (h:qpe c i k L) (hk:k < (c.n.getD i default).i.length) (hx:∀ j:Nat,j < c.n.length->(c.n.getD i default).i[k] ≠ (j:Int)):qpe c i (k + 1) L:=by
 refine ⟨h.1,fun j x hj=>?_⟩;obtain ⟨h1,h2,h3⟩:=h.2 j x hj;refine ⟨h1,h2,?_⟩;rw [List.drop_eq_getElem_cons hk] at h3;have hjl:j < c.n.length:=by rw [<- h.1]; exact (List.getElem?_eq_some_iff.1 hj).1
 simp only [qqf,if_neg (hx j hjl)] at h3;exact h3
theorem qpe.add {c:Ci} {i k:Nat} {L:Fam} (h:qpe c i k L) (hk:k < (c.n.getD i default).i.length) {m:Nat} {x:Option (Nat × List V)} (hm:L[m]? = some x) (hx:(c.n.getD i default).i[k] = (m:Int)) (g:Nat):qpe c i (k + 1) (L.set m (some (g,qav x ++ [qmq i k]))):=by
 refine ⟨by simpa using h.1,fun j y hj=>?_⟩;rw [List.getElem?_set] at hj;by_cases hjm:m = j
 ·subst hjm;have hl:m < L.length:=(List.getElem?_eq_some_iff.1 hm).1;simp [hl] at hj;subst hj;obtain ⟨h1,h2,h3⟩:=h.2 m x hm;refine ⟨.inr (by simp [qav]),qf1 h2 rfl,?_⟩;rw [List.drop_eq_getElem_cons hk] at h3;simp only [qqf,if_pos hx] at h3;rw [<- h3];simp only [qav.eq_2];simp
 ·rw [if_neg hjm] at hj;obtain ⟨h1,h2,h3⟩:=h.2 j y hj;refine ⟨h1,h2,?_⟩;rw [List.drop_eq_getElem_cons hk] at h3;have:¬ (c.n.getD i default).i[k] = (j:Int):=by rw [hx]; omega
  simp only [qqf,if_neg this] at h3;exact h3
theorem qpe.len {c:Ci} {i k:Nat} {L:Fam} (h:qpe c i k L) {m:Nat} {x:Option (Nat × List V)} (hm:L[m]? = some x):(qav x).length≤(qfm m c.n 0).length:=by
 obtain ⟨h1,h2,h3⟩:=h.2 m x hm;rw [<- h3]; simp
def q38 (sz:Nat):Option (Nat × List V)->Option Blk
 | some (g,l)=>some (.row g sz l)
 | none=>none
theorem qh5 (sz b:Nat) (L:Fam) (i:Nat) {x:Option (Nat × List V)} (h:L[i]? = some x):lk (qio sz b L) (b + i) = q38 sz x:=by
 obtain ⟨h1,h2⟩:=List.getElem?_eq_some_iff.1 h;rw [q2f sz b L i h1,h2];cases x <;> rfl
theorem qpa (sz b:Nat) (L:Fam) (h:Hp) (hk:∀ (i g:Nat) l,L[i]? = some (some (g,l))->lk h (b + i) = some (.row g sz l)):Sub (qio sz b L) h:=
 qzs sz b L h fun i hi g l he=>hk i g l (by rw [jkh hi,he])
theorem qkk {sz b:Nat} {L:Fam} {h:Hp} {m g:Nat} {l:List V} (hm:lk h (b + m) = some (.row g sz l)) (ho:∀ (i g:Nat) l,i ≠ m->L[i]? = some (some (g,l))->lk h (b + i) = some (.row g sz l)):Sub (qio sz b (L.set m (some (g,l)))) h:=by
 refine qpa _ _ _ _ fun i g2 l2 hi=>?_;rw [List.getElem?_set] at hi;by_cases e:m = i
 ·subst e;by_cases hl:m < L.length
  ·simp [hl] at hi;obtain ⟨rfl,rfl⟩:=hi;exact hm
  ·simp [hl] at hi
 ·rw [if_neg e] at hi;exact ho i g2 l2 (fun q=>e q.symm) hi
theorem qvd {sz base:Nat} {L:Fam} {b b' g:Nat} {s:Nat->Nat->Nat × Nat} {i g2:Nat} {l:List V} (hne:b ≠ b') (h1:¬ base + i = b') (h2:¬ base + i = b) (hi:L[i]? = some (some (g2,l))) (hp:jid l = true):lk (mvH s b b' g (qio sz base L)) (base + i) = some (.row g2 sz l):=by
 rw [qvf hne,if_neg h1,if_neg h2,qh5 sz base L i hi];simp [q38,qbi hp]
theorem qbw {sz b:Nat} {L:Fam} {h:Hp} (hk:∀ t,b≤t->lk h t = lk (qio sz b L) t):Sub (qio sz b L) h:=
 qpa _ _ _ _ fun i g l hi=>by rw [hk _ (by omega),qh5 sz b L i hi]; rfl
def qmv (b i:Nat) (L:Fam):List V:=qfr b (L.take i) ++ qi8 (b + i) (L.drop i)
theorem qvo (b:Nat) (L:Fam):qmv b 0 L = qi8 b L:=by simp [qmv,qfr]
theorem qys (b:Nat) (L:Fam):qmv b L.length L = qfr b L:=by simp [qmv,qi8]
theorem qp5 (b i:Nat) (L:Fam) (h:i≤L.length):(qmv b i L).length = L.length:=by simp [qmv,qd4,qca]; omega
theorem qyt (b i:Nat) (L:Fam) {x:Option (Nat × List V)} (h:L[i]? = some x) (hi:i < (qmv b i L).length):(qmv b i L)[i] = qbe (b + i) x:=by
 obtain ⟨h1,h2⟩:=List.getElem?_eq_some_iff.1 h;have e:(qfr b (L.take i)).length = i:=by simp [qd4]; omega
 have:=qrf (b + i) (L.drop i) 0 (x:=x) (by simpa using h) (by rw [qca]; simp; omega)
 have k:(qmv b i L)[i]? = some (qbe (b + i) x):=by
  unfold qmv;rw [List.getElem?_append_right (by omega),e,Nat.sub_self,jkh (by rw [qca]; simp; omega),this,Nat.add_zero]
 rw [jkh hi] at k;exact Option.some.inj k
theorem qyu (b i:Nat) (L:Fam) {x:Option (Nat × List V)} (h:L[i]? = some x):(qmv b i L).set i (qxs (b + i) x) = qmv b (i + 1) L:=by
 obtain ⟨h1,h2⟩:=List.getElem?_eq_some_iff.1 h;have e:(qfr b (L.take i)).length = i:=by simp [qd4]; omega
 unfold qmv;rw [List.set_append_right _ _ (by omega),e,Nat.sub_self,List.drop_eq_getElem_cons h1];simp only [qi8,List.set_cons_zero];rw [List.take_succ_eq_append_getElem h1,qnt,h2];simp [qfr,Nat.add_assoc];rw [Nat.min_eq_left (by omega)]
theorem quz {sz:Nat} (b:Nat) (L:Fam) (h:Hp) (n:Nat) (hk:∀ (i g:Nat) l,L[i]? = some (some (g,l))->lk h (b + i) = some (.row g sz l)/\jid l = true):(qfr b L).map (frz h (n + 1)) = L.map fun x=>qhi (qav x):=by
 induction L generalizing b with
 | nil=>rfl
 | cons x r ih=>
  simp only [qfr,List.map_cons];rw [ih (b + 1) fun i g l hi=>by have:=hk (i + 1) g l (by simpa using hi); rwa [show b + (i + 1) = b + 1 + i by omega] at this];congr 1
  cases x with
  | none=>simp [qxs,qhi,qav]
  | some p=>
   obtain ⟨g,l⟩:=p;obtain ⟨q1,q2⟩:=hk 0 g l (by simp);rw [Nat.add_zero] at q1;simp only [qxs];rw [qcl q1 (by omega),List.drop_zero,List.take_length,qdr h n q2];rfl
theorem qsi {K:V->Hp->Prop} {h:Hp} (h2:Hp) (hs:Sub h2 h) (hk:K (.sl [] (some 0)) h2):qa2 Tryz.prog gl0 142 [.nil] h K:=by
 refine jka q2v rfl ?_;simp [q92,jh8];exact .done (by simpa using ⟨h2,hs,hk⟩)
theorem qsj {K:V->Hp->Prop} {h:Hp} {b g l:Nat} {cap:Option Nat} {es:List V} (hb:lk h b = some (.row g 2 es)) (h2:Hp) (hs:Sub h2 h) (hk:K (.ref b g 0 l (some l)) h2):qa2 Tryz.prog gl0 142 [.ref b g 0 l cap] h K:=by
 refine jka q2v rfl ?_;simp [q92,jh8,hb];exact .done (by simpa using ⟨h2,hs,hk⟩)
theorem qrg (c:Ci) (hl:c.n.length < 1000000) (hin:∀ n ∈ c.n,n.i.length < 10000000) (hq:∀ j,(qfm j c.n 0).length≤1000000000):qac Tryz.prog gl0 156 [c.v] (.sl (qgj c) (some c.n.length)):=by
 refine jj7 2 q64 rfl ?_;simp [jcc,x156,Ci.v];intro gf gf2;have:c.n.length≤549755813888:=by omega
 simp [this];refine jj4 (qhq c) (by simp) ?_;simp;generalize gf 1 = g1;generalize gf2 14 = g14;clear gf gf2
 refine jj6 (X:=Nat × Fam) (fun x=>[(20,.int .i64 (x.1:Int)),(19,.int .i64 (c.n.length:Int)),(18,.sl (c.n.map Nd.v) none),(4,.fn 283 [] [.iptr c.v 0]),(3,.ref 14 g14 0 c.n.length (some c.n.length)),(1,.ptr 1 g1 0 0)])
  (fun x=>(14,.row g14 1 (qi8 1000 x.2)) :: (1,.row g1 4 [c.v]) :: qio 2 1000 x.2)
  (fun x=>x.1≤c.n.length/\qpe c x.1 0 x.2) (fun x=>c.n.length - x.1) (0,List.replicate c.n.length none) ?_ ?_ ?_ ?_
 ·exact ⟨by simp,qpe.start c⟩
 ·simp
 ·simp [quu,qut,Ci.v]
 ·rintro ⟨i,L⟩ ⟨h1,h2⟩;dsimp only at h1 h2;simp;refine jj5 (fun hb=>?_) (fun hb=>?_)
  ·have hi:i < c.n.length:=jkb hb;have hw:IntKind.i64.wrap ((i:Int) + 1) = ((i + 1:Nat):Int):=by rw [qas] <;> omega
   have hni:=hin c.n[i] (jkg hi);have hnd:c.n.getD i default = c.n[i]:=by simp [hi]
   simp [hi,Nd.v];intro gf6;generalize gf6 6 = g6
   refine jix (X:=Nat × Fam) (fun x=>[(28,.int .i64 (x.1:Int)),(27,.int .i64 (c.n[i].i.length:Int)),(26,.sl (qdh c.n[i].i) none),(5,.int .i64 (i:Int)),(20,.int .i64 (i:Int)),(19,.int .i64 (c.n.length:Int)),(18,.sl (c.n.map Nd.v) none),(4,.fn 283 [] [.iptr c.v 0]),(3,.ref 14 g14 0 c.n.length (some c.n.length)),(1,.ptr 1 g1 0 0)])
    (fun x=>(14,.row g14 1 (qi8 1000 x.2)) :: (1,.row g1 4 [c.v]) :: qio 2 1000 x.2)
    (fun x=>x.1≤c.n[i].i.length/\qpe c i x.1 x.2) (fun x=>c.n[i].i.length - x.1) ?_ ?_
   ·refine .done ⟨(0,L),⟨by simp,h2⟩,by simp,?_⟩;simp;exact qbw fun t ht=>by simp [show ¬ t = 6 by omega,show ¬ t = 14 by omega,show ¬ t = 1 by omega]
   ·clear h2 L;rintro ⟨k,L⟩ ⟨h3,h2⟩;dsimp only at h2 h3;simp;refine jj5 (fun hc=>?_) (fun hc=>?_)
    ·have hk:k < c.n[i].i.length:=jkb hc;have hwk:IntKind.i64.wrap ((k:Int) + 1) = ((k + 1:Nat):Int):=by rw [qas] <;> omega
     simp [hk,qev];refine jj4 (qh9 c _) (by simp [Ci.v]) ?_;simp;refine jj5 (fun ho=>?_) (fun ho=>?_)
     ·simp at ho;obtain ⟨m,hm⟩:∃ m:Nat,c.n[i].i[k] = (m:Int):=⟨c.n[i].i[k].toNat,by omega⟩;have hml:m < c.n.length:=by omega
      have hmL:m < L.length:=by rw [h2.1]; exact hml
      obtain ⟨x,hx⟩:∃ x,L[m]? = some x:=⟨_,jkh hmL⟩;have hk':k < (c.n.getD i default).i.length:=by rw [hnd]; exact hk
      have hm':(c.n.getD i default).i[k] = (m:Int):=by simp only [hnd]; exact hm
      have hlk:=qh5 2 1000 L m hx;have hadd:=fun g=>h2.add hk' hx hm' g;have hlen:=h2.len hx;have hqm:=hq m;have hpu:=(h2.2 m _ hx).2.1;have hfv:m < (qi8 1000 L).length:=by rw [qca]; exact hmL
      have hget:=qrf 1000 L m hx hfv;rw [hm];simp [hml,hget,qca,hmL]
      cases x with
      | none=>
       simp [qbe,hwk,hml,hget,qca,hmL];refine fun gf1 gf2=>.move 47 (1000 + m) _ (by omega) (by simp; rfl) fun g2=>.done ⟨k + 1,L.set m (some (g2,[qmq i k])),?_⟩;have n1:¬ 1000 + m = 47:=by omega
       have n2:¬ 1000 + m = 14:=by omega
       have n3:¬ 1000 + m = 1:=by omega
       have n4:¬ 14 = 1000 + m:=by omega
       have n5:¬ 1 = 1000 + m:=by omega
       have n6:¬ 46 = 1000 + m:=by omega
       have n7:¬ 47 = 1000 + m:=by omega
       refine ⟨⟨hk,hadd g2⟩,?_⟩;have hfr:=q16 (mvS 47 (gf2 47) (1000 + m) g2) 1000 L (qon _ _ _ _ _ (by omega));simp [n4,n5,n6,n7,qby _ (qrs _),qby _ (qfx _),qqk _ (qgu c),List.map_set,hfr,<- qre,qbe,qmq];refine ⟨qkk (by simp [n2]) fun j g3 l3 hj hL=>?_,by omega⟩;have q1:¬ 1000 + j = 1000 + m:=by omega
       have q2:¬ 1000 + j = 14:=by omega
       have q3:¬ 1000 + j = 46:=by omega
       have q4:¬ 1000 + j = 1:=by omega
       have q5:¬ 1000 + j = 47:=by omega
       have q6:=(h2.2 j _ hL).2.1;simp [hj,q2,q3,q4,qvd (s:=mvS 47 (gf2 47) (1000 + m) g2) (g:=g2) (b:=47) (by omega) q1 q5 hL q6]
      | some p=>
       obtain ⟨g,l⟩:=p;simp only [qav] at hlen hpu;have hle:l.length + 1≤274877906944:=by omega
       have n1:¬ 1000 + m = 46:=by omega
       have n2:¬ 1000 + m = 14:=by omega
       have n3:¬ 1000 + m = 1:=by omega
       have n4:¬ 14 = 1000 + m:=by omega
       simp [qbe,hwk,hml,hget,qca,hmL,hlk,q38,hle,n1,n2,n3,n4];refine fun gf1 gf2=>.done ⟨k + 1,L.set m (some (gf2 (1000 + m),l ++ [qmq i k])),?_⟩;refine ⟨⟨hk,hadd _⟩,?_⟩;have n5:¬ 1 = 1000 + m:=by omega
       simp [n5,<- qre,qbe,qmq];refine ⟨qkk (by simp [n2]) fun j g3 l3 hj hL=>?_,by omega⟩;have q1:¬ 1000 + j = 1000 + m:=by omega
       have q2:¬ 1000 + j = 14:=by omega
       have q3:¬ 1000 + j = 46:=by omega
       have q4:¬ 1000 + j = 1:=by omega
       simp [hj,q2,q3,q4,qh5 2 1000 L j hL,q38]
     ·simp at ho;simp [hwk];have hk':k < (c.n.getD i default).i.length:=by rw [hnd]; exact hk
      refine .done ⟨k + 1,L,⟨hk,h2.skip hk' ?_⟩,by simp,?_,by omega⟩
      ·intro j hj e;simp only [hnd] at e;omega
      ·simp;exact qbw fun t ht=>by simp [show ¬ t = 14 by omega,show ¬ t = 1 by omega]
    ·have hk:¬ k < c.n[i].i.length:=jkc hc;simp [hw];refine ⟨i + 1,L,⟨by omega,h2.next (by rw [hnd]; omega) hi⟩,rfl,⟨rfl,?_⟩,by omega⟩;exact qbw fun t ht=>by simp [show ¬ t = 14 by omega,show ¬ t = 1 by omega]
  ·have hi:i = c.n.length:=by have:=jkc hb; omega
   subst hi;simp
   refine jj6 (X:=Nat) (fun x=>[(53,.int .i64 (x:Int)),(52,.int .i64 (c.n.length:Int)),(51,.ref 14 g14 0 c.n.length (some c.n.length)),(3,.ref 14 g14 0 c.n.length (some c.n.length))])
    (fun x=>(14,.row g14 1 (qmv 1000 x L)) :: qio 2 1000 L)
    (fun x=>x≤c.n.length) (fun x=>c.n.length - x) 0 ?_ ?_ ?_ ?_
   ·simp
   ·simp
   ·simp [qvo];exact qbw fun t ht=>by simp [show ¬ t = 14 by omega,show ¬ t = 1 by omega]
   ·rintro i h3;simp;refine jj5 (fun hb=>?_) (fun hb=>?_)
    ·have hi:i < c.n.length:=jkb hb;have hiL:i < L.length:=by rw [h2.1]; exact hi
     have hw:IntKind.i64.wrap ((i:Int) + 1) = ((i + 1:Nat):Int):=by rw [qas] <;> omega
     obtain ⟨x,hx⟩:∃ x,L[i]? = some x:=⟨_,jkh hiL⟩;have hml:(qmv 1000 i L).length = c.n.length:=by rw [qp5 _ _ _ (by omega),h2.1]
     have hget:=qyt 1000 i L hx (by rw [hml]; exact hi);have hlk:=qh5 2 1000 L i hx;have hset:=qyu 1000 i L hx;simp [hi,hml,hget]
     cases x with
     | none=>
      simp [qbe];have hsub:Sub ((14,Blk.row g14 1 (qmv 1000 i L)) :: qio 2 1000 L) ((14,Blk.row g14 1 (qmv 1000 i L)) :: qio 2 1000 L):=⟨by simp,qbw fun t ht=>by simp [show ¬ t = 14 by omega]⟩;refine qsi _ hsub ?_;simp [hi,hml,hget,qbe];refine ⟨i + 1,by omega,hw,⟨hset,?_⟩,by omega⟩;exact qbw fun t ht=>by simp [show ¬ t = 14 by omega]
     | some p=>
      obtain ⟨g,l⟩:=p;have n2:¬ 1000 + i = 14:=by omega
      have hsub:Sub ((14,Blk.row g14 1 (qmv 1000 i L)) :: qio 2 1000 L) ((14,Blk.row g14 1 (qmv 1000 i L)) :: qio 2 1000 L):=⟨by simp,qbw fun t ht=>by simp [show ¬ t = 14 by omega]⟩;simp [qbe];refine qsj (es:=l) (by simp [n2,hlk,q38]) _ hsub ?_;simp [hi,hml,hget,qbe];refine ⟨i + 1,by omega,hw,⟨hset,?_⟩,by omega⟩;exact qbw fun t ht=>by simp [show ¬ t = 14 by omega]
    ·have hi:i = L.length:=by have:=jkc hb; have:=h2.1; omega
     subst hi;simp [-frz];have hcl:(qfr 1000 L).length = c.n.length:=by rw [qd4,h2.1]
     rw [qys,qcl (es:=qfr 1000 L) (sz:=1) (by simp) (by rw [hcl]; omega),List.drop_zero,jkf (by rw [hcl]; exact jki _),quz (sz:=2) 1000 L _ _ fun i g l hi=>⟨by simp [show ¬ 1000 + i = 14 by omega,qh5 2 1000 L i hi,q38],(h2.2 i _ hi).2.1⟩];congr 1;unfold qgj;refine List.ext_getElem? fun i=>?_;simp only [List.getElem?_map]
     cases hx:L[i]? with
     | none=>
      have:¬ i < c.n.length:=by rw [<- h2.1]; simpa using hx
      simp [this]
     | some x=>
      have hi:i < c.n.length:=by rw [<- h2.1]; exact (List.getElem?_eq_some_iff.1 hx).1
      have hx3:=(h2.2 i x hx).2.2;have e1:c.n.getD c.n.length default = default:=by simp [jkd]
      have e2:(default:Nd).i = []:=rfl;rw [e1,e2,List.drop_eq_nil_of_le (show c.n.length≤c.n.length + 1 by omega)] at hx3;simp [qqf,qfm] at hx3;simp [hi,qhi,hx3]
end
end Go.Proofs.YtbbnmiaabmbheaaGreatDoor
