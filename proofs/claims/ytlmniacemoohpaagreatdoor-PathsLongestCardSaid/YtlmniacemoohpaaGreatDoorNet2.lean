/- Lemmas. Conditions: none. -/
import Derived.Test.YtlmniacemoohpaaGreatDoorXG
set_option linter.all false
namespace Go.Proofs.YtlmniacemoohpaaGreatDoor
section
open Go
theorem q1e (k:Int):qac Tryz.prog gl0 53 [.int .u8 k] (.bool (decide (1≤k/\k≤13))):=by
 refine jiu 2 ok53 rfl ?_
 repeat' (first | refine jis (fun _=>?_) (fun _=>?_) | (intro _) | simp [*,i53,x53])
theorem q7k (s:List UInt8) (c:Int) (h:0≤c/\c < 256):qac Tryz.prog gl0 179 [.str s,.int .u8 c] (.int .i64 (qju c s 0)):=by
 refine jiu 2 q9m rfl ?_;simp [je6,x179,nop,h]
theorem q3k (s:List UInt8) (c:Int) (h:0≤c/\c < 256):qac Tryz.prog gl0 174 [.str s,.int .u8 c] (.int .i64 (qju c s 0)):=by
 refine jiu 2 q9k rfl ?_;simp [je4,x174];refine jir (q7k s c h) rfl ?_;simp
theorem q4z {x:Int} (h0:0≤x) (h1:x < 256):IntKind.u8.wrap x = x:=by
 simp [IntKind.wrap,IntKind.bits,IntKind.signed]; omega
theorem q7l (s:List UInt8) (r:Int) (h:0≤r/\r < 128):qac Tryz.prog gl0 172 [.str s,.int .i32 r] (.int .i64 (qju r s 0)):=by
 have hw:IntKind.u8.wrap r = r:=q4z h.1 (by omega);refine jiu 2 q9i rfl ?_;simp [je2,x172,h,hw];refine jir (q3k s r ⟨h.1,by omega⟩) rfl ?_;simp
theorem q23 (s:List UInt8) (r:Int) (h:0≤r/\r < 128):qac Tryz.prog gl0 169 [.str s,.int .i32 r] (.bool (decide (0≤qju r s 0))):=by
 refine jiu 2 q9f rfl ?_;simp [jez,x169];refine jir (q7l s r h) rfl ?_;simp
def q6f (r:Int):Bool:=decide (r≤32) || decide (126 < r) || decide (0≤qju r [40,41,61,44,35] 0)
theorem jdd (r:Int):qac Tryz.prog gl0 168 [.int .i32 r] (.bool (q6f r)):=by
 refine jiu 2 q9e rfl ?_;by_cases h1:r≤32
 ·simp [q7i,jc6,h1,q6f]
 ·by_cases h2:126 < r
  ·simp [q7i,jc6,h1,h2,q6f]
  ·simp [q7i,jc6,h1,h2,q6f];refine jir (q23 _ r ⟨by omega,by omega⟩) rfl ?_;simp
def qdu:Nat->List UInt8->Nat->Int
 | 0,_,_=>-1
 | n + 1,s,pos=>if pos < s.length then (if q6f (Utf8.decode ⟨s.toArray⟩ pos).1 = true then (pos:Int) else qdu n s (pos + (Utf8.decode ⟨s.toArray⟩ pos).2)) else -1
theorem q25 (s:List UInt8) (pos:Nat):1≤(Utf8.decode ⟨s.toArray⟩ pos).2:=by
 simp only [Utf8.decode]
 repeat' split
 all_goals simp
theorem qzz (s:List UInt8):qac Tryz.prog gl0 178 [.str s,.fn 168 [] [],.bool true] (.int .i64 (qdu (s.length + 1) s 0)):=by
 obtain ⟨r,hr⟩:∃ r,qdu (s.length + 1) s 0 = r:=⟨_,rfl⟩;rw [hr];refine jiu 2 q9l rfl ?_;simp [je5,x178,nop];intro gf
 refine jit (X:=Nat × Nat) (fun x=>[(0,.str s),(1,.fn 168 [] []),(2,.bool true),(10,.own 10 (gf 10))]) (fun x=>[(10,.siter (gf 10) s x.1)])
  (fun x=>s.length < x.1 + x.2/\qdu x.2 s x.1 = r) (fun x=>x.2) (0,s.length + 1) ⟨by simp,hr⟩ (by simp) (by simp) ?_
 rintro ⟨pos,fuel⟩ ⟨h2,h3⟩;dsimp only at h2 h3
 cases fuel with
 | zero=>
  have hp:¬ pos < s.length:=by omega
  simp [nop,hp,<- h3,qdu]
 | succ fuel=>
  have hd:=q25 s pos;by_cases hp:pos < s.length
  ·simp [nop,hp];refine jir (jdd _) rfl ?_;simp;refine jis (fun hb=>?_) (fun hb=>?_)
   ·simp [<- h3,qdu,hp,hb]
   ·simp;refine ⟨_,fuel,⟨?_,?_⟩,rfl,by omega⟩
    ·omega
    ·rw [<- h3]; simp [qdu,hp,hb]
  ·simp [nop,hp,<- h3,qdu]
theorem qzw (s:List UInt8):qac Tryz.prog gl0 173 [.str s,.fn 168 [] []] (.int .i64 (qdu (s.length + 1) s 0)):=by
 refine jiu 2 q9j rfl ?_;simp [je3,x173];refine jir (qzz s) rfl ?_;simp
theorem qq8 (s:List UInt8):qac Tryz.prog gl0 170 [.str s,.fn 168 [] []] (.bool (decide (0≤qdu (s.length + 1) s 0))):=by
 refine jiu 2 q9g rfl ?_;simp [je0,x170];refine jir (qzw s) rfl ?_;simp
def qxo (s:List UInt8):Bool:=decide (s ≠ []) && decide (s.length≤32) && !(decide (0≤qdu (s.length + 1) s 0))
theorem qz1 (s:List UInt8):qac Tryz.prog gl0 163 [.str s] (.bool (qxo s)):=by
 have hc:=qq8 s;refine jiu 2 q89 rfl ?_;unfold qxo;generalize decide (0≤qdu (s.length + 1) s 0) = q at *;simp [jeu,x163];refine jis (fun h1=>?_) (fun h1=>?_)
 ·simp [h1]
 ·simp [h1];refine jis (fun h2=>?_) (fun h2=>?_)
  ·simp [h2];refine jir hc rfl ?_;simp
  ·simp [h2]
theorem pureL_map {α:Type} {f:α->V} (hf:∀ x,(f x).pure = true):∀ l:List α,jgy (l.map f) = true
 | []=>rfl
 | x :: l=>by simp [jgy,hf x,pureL_map hf l]
@[simp] theorem q95 (l:List (List UInt8)):jgy (l.map .str) = true:=pureL_map (fun _=>rfl) l
end
section
open Go
def qls (sz:Nat) (xs:List V) (v:V) (h:Hp):Prop:=(xs = []/\v = .sl [] (some 0)/\h = [])∨∃ g,v = .ref 0 g 0 xs.length (some xs.length)/\h = [(0,.row g sz xs)]
end
section
open Go
def qc1 (l:List Int):List V:=l.map (.int .i64)
@[simp] theorem q3l (l:List Int):(qc1 l).length = l.length:=by simp [qc1]
@[simp] theorem qc2 (l:List Int):jgy (qc1 l) = true:=pureL_map (fun _=>rfl) l
@[simp] theorem q5k (l:List Int):((qc1 l).all fun x=>decide (x.cells.length = 1)) = true:=by simp [qc1]
structure Nd where
 k:Int
 i:List Int
 a:Int
 b:Int
 deriving Inhabited
def Nd.v (n:Nd):V:=.agg [.int .u8 n.k,.sl (qc1 n.i) none,.int .i64 n.a,.int .i64 n.b]
structure Md where
 a:List Int
 d:List Int
 w:Int
 deriving Inhabited
def Md.v (n:Md):V:=.agg [.sl (qc1 n.a) none,.sl (qc1 n.d) none,.int .i64 n.w]
structure Ci where
 n:List Nd
 s:List (List UInt8)
 m:List Md
 o:List Int
def Ci.v (c:Ci):V:=.agg [.sl (c.n.map Nd.v) none,.sl (c.s.map .str) none,.sl (c.m.map Md.v) none,.sl (qc1 c.o) none]
@[simp] theorem qfv (l:List Nd):jgy (l.map Nd.v) = true:=pureL_map (fun x=>by simp [Nd.v]) l
@[simp] theorem qic (l:List Md):jgy (l.map Md.v) = true:=pureL_map (fun x=>by simp [Md.v]) l
theorem qa9 {a b:List V} (h:jgy a = true) (k:jgy b = true):jgy (a ++ b) = true:=by
 rw [jg0] at *;intro v hv;rcases List.mem_append.1 hv with q | q
 ·exact h v q
 ·exact k v q
theorem qa4 {l:List V} (h:jgy l = true) {f:Nat->Nat->Nat->Nat->Option Nat->V} {p:Nat->Nat->Nat->Nat->V}:(l.map fun x=>V.mapR f p x) = l:=by
 have:=qak (f:=f) (p:=p) l h;rw [qc4] at this; exact this
def qbj (b:Nat):Option (Nat × List V)->V
 | none=>.nil
 | some (g,l)=>.ref b g 0 l.length none
def qbo (b sz:Nat):Option (Nat × List V)->Hp
 | none=>[]
 | some (g,l)=>[(b,.row g sz l)]
def qau:Option (Nat × List V)->List V
 | none=>[]
 | some (_,l)=>l
def qgk (l:List V):V:=match l with
 | []=>.nil
 | _ :: _=>.sl l none
theorem qb9 (l:List Int) (i:Nat) (h:i < (qc1 l).length):(qc1 l)[i] = .int .i64 (l[i]'(by simpa using h)):=by simp [qc1]
end
section
open Go
end
section
open Go
def qlu (x:Int):List Int->Nat->Int
 | [],_=>-1
 | y :: r,i=>if x = y then (i:Int) else qlu x r (i + 1)
theorem qpd (x:Int):∀ (l:List Int) (i:Nat),(0≤qlu x l i)↔x ∈ l
 | [],i=>by simp [qlu]
 | y :: l,i=>by
  by_cases h:x = y
  ·simp [qlu,h]
  ·simp [qlu,h,qpd x l (i + 1)]
theorem qzx (x:Int) (l:List Int) (cap:Option Nat) (hl:l.length < 1000000000000):qac Tryz.prog gl0 159 [.sl (l.map (.int .u8)) cap,.int .u8 x] (.int .i64 (qlu x l 0)):=by
 obtain ⟨q,hq⟩:∃ r,qlu x l 0 = r:=⟨_,rfl⟩;rw [hq];refine jiu 2 q85 rfl ?_;simp [jeq,x159]
 refine jit (X:=Nat) (fun i=>[(8,.int .i64 (i:Int)),(7,.int .i64 (l.length:Int)),(0,.sl (l.map (.int .u8)) cap),(1,.int .u8 x)]) (fun _=>[])
  (fun i=>i≤l.length/\qlu x (l.drop i) i = q) (fun i=>l.length - i) 0 ⟨by simp,by simpa using hq⟩ (by simp) (by simp) ?_
 rintro i ⟨h2,h3⟩;simp;refine jis (fun h1=>?_) (fun h1=>?_)
 ·have h1':i < l.length:=jiy h1;have hw:IntKind.i64.wrap ((i:Int) + 1) = ((i + 1:Nat):Int):=by rw [qaq] <;> omega
  rw [List.drop_eq_getElem_cons h1'] at h3;simp only [qlu] at h3;simp [h1'];refine jis (fun h4=>?_) (fun h4=>?_)
  ·rw [if_pos (jiy h4)] at h3;simp [h3]
  ·rw [if_neg (jiz h4)] at h3;simp [hw];exact ⟨i + 1,⟨h1',h3⟩,rfl,by omega⟩
 ·have h1':i = l.length:=by have:=jiz h1; omega
  subst h1';simp [qlu] at h3;simp [h3]
@[simp] theorem jco (l:List Int):jgy (l.map (.int .u8)) = true:=pureL_map (fun _=>rfl) l
theorem quc (x:Int) (l:List Int) (cap:Option Nat) (hl:l.length < 1000000000000):qac Tryz.prog gl0 136 [.sl (l.map (.int .u8)) cap,.int .u8 x] (.bool (decide (x ∈ l))):=by
 refine jiu 2 q8s rfl ?_;simp [jed,x136];refine jir (qzx x l cap hl) (by simp) ?_;simp [qpd]
def qq0 (ks:List Int):List Nd->Nat->List V
 | [],_=>[]
 | n :: r,i=>if n.k ∈ ks then .int .i64 (i:Int) :: qq0 ks r (i + 1) else qq0 ks r (i + 1)
theorem jfm (c:Ci) (ks:List Int) (cap:Option Nat) (hl:c.n.length < 1000000) (hk:ks.length < 1000000000000):qch Tryz.prog gl0 91 [c.v,.sl (ks.map (.int .u8)) cap] (qls 1 (qq0 ks c.n 0)):=by
 refine jiw ok91 rfl ?_;obtain ⟨q,hq⟩:∃ r,qq0 ks c.n 0 = r:=⟨_,rfl⟩;rw [hq];simp [i91,x91,Ci.v];intro gf
 refine jit (X:=Nat × Option (Nat × List V)) (fun x=>[(11,.int .i64 (x.1:Int)),(10,.int .i64 (c.n.length:Int)),(9,.sl (c.n.map Nd.v) none),(5,qbj 23 x.2),(1,.sl (ks.map (.int .u8)) cap)])
  (fun x=>qbo 23 1 x.2)
  (fun x=>x.1≤c.n.length/\(x.2 = none∨qau x.2 ≠ [])/\(qau x.2).length≤x.1/\jgy (qau x.2) = true/\qau x.2 ++ qq0 ks (c.n.drop x.1) x.1 = q) (fun x=>c.n.length - x.1) (0,none) ⟨by simp,by simp,by simp [qau],by simp [qau],by simpa [qau] using hq⟩ (by simp [qbj]) (by simp [qbo]) ?_
 rintro ⟨i,acc⟩ ⟨h1,h2,h3,h4,h5⟩;dsimp only at h1 h2 h3 h4 h5;simp;refine jis (fun hb=>?_) (fun hb=>?_)
 ·have hi:i < c.n.length:=jiy hb;have hw:IntKind.i64.wrap ((i:Int) + 1) = ((i + 1:Nat):Int):=by rw [qaq] <;> omega
  rw [List.drop_eq_getElem_cons hi] at h5;simp only [qq0] at h5;simp [hi,Nd.v];intro gf2;refine jir (quc _ ks cap hk) (by simp) ?_;simp;refine jis (fun hk=>?_) (fun hk=>?_)
  ·rw [if_pos (jiy hk)] at h5
   cases acc with
   | none=>
    simp [qbj,qbo,hw];refine fun gf1 gf2=>⟨i + 1,some (gf2 23,[.int .i64 i]),?_⟩;simp [qau] at h5 ⊢;exact ⟨⟨by omega,h5⟩,by omega⟩
   | some gl=>
    obtain ⟨g,l⟩:=gl;simp only [qau] at h3 h4 h5 h2;have hle:l.length + 1≤274877906944:=by omega
    simp [qbj,qbo,hw,hle];refine fun gf1 gf2=>⟨i + 1,some (gf2 23,l ++ [.int .i64 i]),?_⟩;simp [qau,h5,List.append_assoc];exact ⟨⟨by omega,by omega,qa9 h4 rfl⟩,by omega⟩
  ·rw [if_neg (jiz hk)] at h5;simp [hw];exact ⟨i + 1,acc,⟨by omega,h2,by omega,h4,h5⟩,⟨rfl,rfl⟩,by cases acc <;> simp [qbo],by omega⟩
 ·have hi:¬ i < c.n.length:=jiz hb;rw [List.drop_eq_nil_of_le (by omega)] at h5;simp only [qq0,List.append_nil] at h5
  cases acc with
  | none=>
   simp [qau] at h5;subst h5;simp [qbj,qbo];refine jix q37 rfl ?_;simp [jbm,jgr];exact .done (by simpa using ⟨[],trivial,.done (by simp [qls])⟩)
  | some gl=>
   obtain ⟨g,l⟩:=gl;simp only [qau] at h3 h4 h5 h2;subst h5;simp [qbj,qbo];refine jix q37 rfl ?_;simp [jbm,jgr];refine .done ?_;simp only [lk,if_true];refine ⟨[(23,Blk.row g 1 l)],by simp,.move 23 0 _ (by simp) (by simp; rfl) fun g2=>.done ?_⟩;simp [qap h4,qls]
theorem qfw (ks:List Int):∀ (l:List Nd) (i:Nat),jg5 (qq0 ks l i) = true/\jgy (qq0 ks l i) = true
 | [],i=>⟨rfl,rfl⟩
 | n :: r,i=>by
  obtain ⟨h1,h2⟩:=qfw ks r (i + 1);simp only [qq0];split
  ·exact ⟨by simp [jg5,V.noG,h1],by simp [jgy,V.pure,h2]⟩
  ·exact ⟨h1,h2⟩
theorem qz0 (c:Ci) (hl:c.n.length < 1000000):qch Tryz.prog gl0 92 [c.v] (qls 1 (qq0 [0] c.n 0)):=by
 obtain ⟨n1,n2⟩:=qfw [0] c.n 0;refine jiw ok92 rfl ?_;simp [i92,x92,Ci.v];intro gf gf2;refine jhv 1 1000 (jfm c [0] (some 1) hl (by simp)) (by simp [Ci.v,qak]) (by simp) ?_;rintro v h' (⟨hq,rfl,rfl⟩ | ⟨g,rfl,rfl⟩)
 ·refine ⟨rfl,fun b k hb=>by simp [lk] at hb,fun gf=>?_⟩;simp;exact .done (by simpa using ⟨[],trivial,by simp [qls,hq]⟩)
 ·refine ⟨rfl,fun b k hb=>?_,fun gf=>?_⟩
  ·simp only [lk] at hb;split at hb
   ·cases hb; exact n1
   ·cases hb
  ·simp [qap n2];refine .move 1000 0 _ (by simp) (by simp; rfl) fun g2=>.done ?_;simp [qap n2,qls]
theorem q0x (c:Ci) (hl:c.n.length < 1000000):qch Tryz.prog gl0 93 [c.v] (qls 1 (qq0 [14] c.n 0)):=by
 obtain ⟨n1,n2⟩:=qfw [14] c.n 0;refine jiw ok93 rfl ?_;simp [i93,x93,Ci.v];intro gf gf2;refine jhv 1 1000 (jfm c [14] (some 1) hl (by simp)) (by simp [Ci.v,qak]) (by simp) ?_;rintro v h' (⟨hq,rfl,rfl⟩ | ⟨g,rfl,rfl⟩)
 ·refine ⟨rfl,fun b k hb=>by simp [lk] at hb,fun gf=>?_⟩;simp;exact .done (by simpa using ⟨[],trivial,by simp [qls,hq]⟩)
 ·refine ⟨rfl,fun b k hb=>?_,fun gf=>?_⟩
  ·simp only [lk] at hb;split at hb
   ·cases hb; exact n1
   ·cases hb
  ·simp [qap n2];refine .move 1000 0 _ (by simp) (by simp; rfl) fun g2=>.done ?_;simp [qap n2,qls]
end
section
open Go
def qia (i k:Nat):V:=.agg [.int .i64 (i:Int),.int .i64 (k:Int)]
def qrz (w:Int) (i:Nat):List Int->Nat->List V
 | [],_=>[]
 | x :: r,k=>if x = w then qia i k :: qrz w i r (k + 1) else qrz w i r (k + 1)
def qg5 (w:Int):List Nd->Nat->List V
 | [],_=>[]
 | n :: r,i=>qrz w i n.i 0 ++ qg5 w r (i + 1)
end
section
open Go
theorem qq5 (c:Ci):c.v.pure = true:=by simp [Ci.v]
theorem qig (c:Ci):qac Tryz.prog gl0 156 [c.v] (.fn 165 [] [.iptr c.v 0]):=by
 refine jiu 2 q83 rfl ?_;simp [jeo,x156,Ci.v,qak]
theorem qix (c:Ci) (i:Int):qac Tryz.prog gl0 165 [.int .i64 i,.iptr c.v 0] (.bool (decide (i < 0) || decide ((c.n.length:Int)≤i))):=by
 refine jiu 2 q9b rfl ?_;simp [jew,x165,Ci.v];refine jis (fun h1=>?_) (fun h1=>?_)
 ·simp [h1]
 ·simp [h1]
end
section
open Go
abbrev Fam:=List (Option (Nat × List V))
def qil (sz b:Nat):Fam->Hp
 | []=>[]
 | x :: r=>qbo b sz x ++ qil sz (b + 1) r
def qhk (b:Nat):Fam->List V
 | []=>[]
 | x :: r=>qbj b x :: qhk (b + 1) r
theorem qbl (b:Nat) (L:Fam):(qhk b L).length = L.length:=by
 induction L generalizing b with
 | nil=>rfl
 | cons x r ih=>simp [qhk,ih]
theorem qzp (b:Nat) (L:Fam) (i:Nat) (h:i < L.length):(qhk b L)[i]'(by rw [qbl]; exact h) = qbj (b + i) L[i]:=by
 induction L generalizing b i with
 | nil=>simp at h
 | cons x r ih=>
  cases i with
  | zero=>simp [qhk]
  | succ i=>
   simp only [qhk,List.getElem_cons_succ];rw [ih (b + 1) i (by simpa using h),show b + 1 + i = b + (i + 1) by omega]
theorem qrp (sz b:Nat) (L:Fam) (t:Nat) (h:t < b):lk (qil sz b L) t = none:=by
 induction L generalizing b with
 | nil=>rfl
 | cons x r ih=>
  have:=ih (b + 1) (by omega)
  cases x with
  | none=>simpa [qil,qbo] using this
  | some p=>
   obtain ⟨g,l⟩:=p;have hne:¬ t = b:=by omega
   simp [qil,qbo,lk,hne,this]
theorem q3p (sz b:Nat) (L:Fam) (i:Nat) (h:i < L.length):lk (qil sz b L) (b + i) = match L[i] with | some (g,l)=>some (.row g sz l) | none=>none:=by
 induction L generalizing b i with
 | nil=>simp at h
 | cons x r ih=>
  cases i with
  | zero=>
   cases x with
   | none=>simpa [qil,qbo] using qrp sz (b + 1) r b (by omega)
   | some p=>obtain ⟨g,l⟩:=p; simp [qil,qbo,lk]
  | succ i=>
   have:=ih (b + 1) i (by simpa using h);rw [show b + 1 + i = b + (i + 1) by omega] at this;have hne:¬ b + (i + 1) = b:=by omega
   cases x with
   | none=>simpa [qil,qbo] using this
   | some p=>obtain ⟨g,l⟩:=p; simpa [qil,qbo,lk] using this
theorem qj2 (b:Nat) (L:Fam) (i:Nat) (x:Option (Nat × List V)):(qhk b L).set i (qbj (b + i) x) = qhk b (L.set i x):=by
 induction L generalizing b i with
 | nil=>rfl
 | cons y r ih=>
  cases i with
  | zero=>simp [qhk]
  | succ i=>
   simp only [qhk,List.set_cons_succ];rw [<- ih (b + 1) i,show b + 1 + i = b + (i + 1) by omega]
end
section
open Go
theorem qyo {a b c:Hp}:Sub (a ++ b) c↔Sub a c/\Sub b c:=by
 induction a with
 | nil=>simp [Sub]
 | cons p r ih=>obtain ⟨k,v⟩:=p; simp [Sub,ih,and_assoc]
theorem q00 (sz b:Nat) (L:Fam) (h:Hp) (hk:∀ i (hi:i < L.length) g l,L[i] = some (g,l)->lk h (b + i) = some (.row g sz l)):Sub (qil sz b L) h:=by
 induction L generalizing b with
 | nil=>trivial
 | cons x r ih=>
  simp only [qil,qyo];refine ⟨?_,ih (b + 1) fun i hi g l he=>?_⟩
  ·cases x with
   | none=>trivial
   | some p=>obtain ⟨g,l⟩:=p; exact ⟨by simpa using hk 0 (by simp) g l rfl,trivial⟩
  ·have:=hk (i + 1) (by simpa using hi) g l (by simpa using he)
   rwa [show b + (i + 1) = b + 1 + i by omega] at this
end
section
open Go
theorem qwo (s:Nat->Nat->Nat × Nat) (b:Nat) (L:Fam) (h:∀ i g,b≤i->s i g = (i,g)):(qhk b L).map (V.rn s) = qhk b L:=by
 induction L generalizing b with
 | nil=>rfl
 | cons x r ih=>
  have h1:=ih (b + 1) fun i g hi=>h i g (by omega);simp only [qhk,List.map_cons,h1];congr 1
  cases x with
  | none=>rfl
  | some p=>obtain ⟨g,l⟩:=p; simp [qbj,V.rn,h b g (ji5 _)]
theorem qmr (b g b' g' base:Nat) (h:b < base):∀ i y,base≤i->mvS b g b' g' i y = (i,y):=by
 intro i y hi;have:¬ i = b:=by omega
 simp [mvS,this]
end
section
open Go
def qk2 (L:List V):V:=.sl L (some L.length)
def qze (b:Nat):Option (Nat × List V)->V
 | none=>.sl [] (some 0)
 | some (g,l)=>.ref b g 0 l.length (some l.length)
def qgc (b:Nat):Fam->List V
 | []=>[]
 | x :: r=>qze b x :: qgc (b + 1) r
theorem qen (b:Nat) (L:Fam):(qgc b L).length = L.length:=by
 induction L generalizing b with
 | nil=>rfl
 | cons x r ih=>simp [qgc,ih]
theorem qo5 (b:Nat) (L M:Fam):qgc b (L ++ M) = qgc b L ++ qgc (b + L.length) M:=by
 induction L generalizing b with
 | nil=>rfl
 | cons x r ih=>simp [qgc,ih,show b + 1 + r.length = b + (r.length + 1) by omega]
def qnp (c:Ci):List V:=(List.range c.n.length).map fun (j:Nat)=>qk2 (qg5 (j:Int) c.n 0)
theorem qno (b:Nat) (L:Fam) (i:Nat) {x:Option (Nat × List V)} (h:L[i]? = some x) (hi:i < (qhk b L).length):(qhk b L)[i] = qbj (b + i) x:=by
 obtain ⟨h1,h2⟩:=List.getElem?_eq_some_iff.1 h;rw [qzp b L i h1,h2]
theorem qpc (b n:Nat):qhk b (List.replicate n none) = List.replicate n .nil:=by
 induction n generalizing b with
 | zero=>rfl
 | succ n ih=>simp [List.replicate_succ,qhk,qbj,ih]
theorem qpb (sz b n:Nat):qil sz b (List.replicate n none) = []:=by
 induction n generalizing b with
 | zero=>rfl
 | succ n ih=>simp [List.replicate_succ,qil,qbo,ih]
def qqw (c:Ci) (i k:Nat) (L:Fam):Prop:=L.length = c.n.length/\∀ (j:Nat) x,L[j]? = some x->(x = none∨qau x ≠ [])/\jgy (qau x) = true/\qau x ++ (qrz j i ((c.n.getD i default).i.drop k) k ++ qg5 j (c.n.drop (i + 1)) (i + 1)) = qg5 j c.n 0
theorem qqw.start (c:Ci):qqw c 0 0 (List.replicate c.n.length none):=by
 refine ⟨by simp,fun j x hj=>?_⟩;rw [List.getElem?_replicate] at hj;split at hj
 ·rename_i h;cases hj;refine ⟨.inl rfl,rfl,?_⟩
  cases hn:c.n with
  | nil=>rw [hn] at h; simp at h
  | cons a r=>simp [qau,qg5]
 ·cases hj
theorem qqw.next {c:Ci} {i k:Nat} {L:Fam} (h:qqw c i k L) (hk:(c.n.getD i default).i.length≤k) (hi:i < c.n.length):qqw c (i + 1) 0 L:=by
 refine ⟨h.1,fun j x hj=>?_⟩;obtain ⟨h1,h2,h3⟩:=h.2 j x hj;refine ⟨h1,h2,?_⟩;rw [List.drop_eq_nil_of_le hk] at h3;rw [<- h3];congr 1;simp only [qrz,List.nil_append];by_cases hn:i + 1 < c.n.length
 ·rw [List.drop_eq_getElem_cons hn];simp [qg5,hn]
 ·have e1:c.n.getD (i + 1) default = default:=by simp [ji0,hn]
  have e2:(default:Nd).i = []:=rfl;rw [List.drop_eq_nil_of_le (show c.n.length≤i + 1 by omega),List.drop_eq_nil_of_le (show c.n.length≤i + 1 + 1 by omega),e1,e2];simp [qg5,qrz]
theorem qqw.skip {c:Ci} {i k:Nat} {L:Fam} (h:qqw c i k L) (hk:k < (c.n.getD i default).i.length) (hx:∀ j:Nat,j < c.n.length->(c.n.getD i default).i[k] ≠ (j:Int)):qqw c i (k + 1) L:=by
 refine ⟨h.1,fun j x hj=>?_⟩;obtain ⟨h1,h2,h3⟩:=h.2 j x hj;refine ⟨h1,h2,?_⟩;rw [List.drop_eq_getElem_cons hk] at h3;have hjl:j < c.n.length:=by rw [<- h.1]; exact (List.getElem?_eq_some_iff.1 hj).1
 simp only [qrz,if_neg (hx j hjl)] at h3;exact h3
theorem qqw.add {c:Ci} {i k:Nat} {L:Fam} (h:qqw c i k L) (hk:k < (c.n.getD i default).i.length) {m:Nat} {x:Option (Nat × List V)} (hm:L[m]? = some x) (hx:(c.n.getD i default).i[k] = (m:Int)) (g:Nat):qqw c i (k + 1) (L.set m (some (g,qau x ++ [qia i k]))):=by
 refine ⟨by simpa using h.1,fun j y hj=>?_⟩;rw [List.getElem?_set] at hj;by_cases hjm:m = j
 ·subst hjm;have hl:m < L.length:=(List.getElem?_eq_some_iff.1 hm).1;simp [hl] at hj;subst hj;obtain ⟨h1,h2,h3⟩:=h.2 m x hm;refine ⟨.inr (by simp [qau]),qa9 h2 rfl,?_⟩;rw [List.drop_eq_getElem_cons hk] at h3;simp only [qrz,if_pos hx] at h3;rw [<- h3];simp only [qau.eq_2];simp
 ·rw [if_neg hjm] at hj;obtain ⟨h1,h2,h3⟩:=h.2 j y hj;refine ⟨h1,h2,?_⟩;rw [List.drop_eq_getElem_cons hk] at h3;have:¬ (c.n.getD i default).i[k] = (j:Int):=by rw [hx]; omega
  simp only [qrz,if_neg this] at h3;exact h3
theorem qqw.len {c:Ci} {i k:Nat} {L:Fam} (h:qqw c i k L) {m:Nat} {x:Option (Nat × List V)} (hm:L[m]? = some x):(qau x).length≤(qg5 m c.n 0).length:=by
 obtain ⟨h1,h2,h3⟩:=h.2 m x hm;rw [<- h3]; simp
def qzo (sz:Nat):Option (Nat × List V)->Option Blk
 | some (g,l)=>some (.row g sz l)
 | none=>none
theorem qfr (sz b:Nat) (L:Fam) (i:Nat) {x:Option (Nat × List V)} (h:L[i]? = some x):lk (qil sz b L) (b + i) = qzo sz x:=by
 obtain ⟨h1,h2⟩:=List.getElem?_eq_some_iff.1 h;rw [q3p sz b L i h1,h2];cases x <;> rfl
theorem qqp (sz b:Nat) (L:Fam) (h:Hp) (hk:∀ (i g:Nat) l,L[i]? = some (some (g,l))->lk h (b + i) = some (.row g sz l)):Sub (qil sz b L) h:=
 q00 sz b L h fun i hi g l he=>hk i g l (by rw [ji4 hi,he])
theorem qf2 {sz b:Nat} {L:Fam} {h:Hp} {m g:Nat} {l:List V} (hm:lk h (b + m) = some (.row g sz l)) (ho:∀ (i g:Nat) l,i ≠ m->L[i]? = some (some (g,l))->lk h (b + i) = some (.row g sz l)):Sub (qil sz b (L.set m (some (g,l)))) h:=by
 refine qqp _ _ _ _ fun i g2 l2 hi=>?_;rw [List.getElem?_set] at hi;by_cases e:m = i
 ·subst e;by_cases hl:m < L.length
  ·simp [hl] at hi;obtain ⟨rfl,rfl⟩:=hi;exact hm
  ·simp [hl] at hi
 ·rw [if_neg e] at hi;exact ho i g2 l2 (fun q=>e q.symm) hi
theorem qpw {sz base:Nat} {L:Fam} {b b' g:Nat} {s:Nat->Nat->Nat × Nat} {i g2:Nat} {l:List V} (hne:b ≠ b') (h1:¬ base + i = b') (h2:¬ base + i = b) (hi:L[i]? = some (some (g2,l))) (hp:jgy l = true):lk (mvH s b b' g (qil sz base L)) (base + i) = some (.row g2 sz l):=by
 rw [qs8 hne,if_neg h1,if_neg h2,qfr sz base L i hi];simp [qzo,qap hp]
theorem qbm {sz b:Nat} {L:Fam} {h:Hp} (hk:∀ t,b≤t->lk h t = lk (qil sz b L) t):Sub (qil sz b L) h:=
 qqp _ _ _ _ fun i g l hi=>by rw [hk _ (by omega),qfr sz b L i hi]; rfl
def qn5 (b i:Nat) (L:Fam):List V:=qgc b (L.take i) ++ qhk (b + i) (L.drop i)
theorem qxn (b:Nat) (L:Fam):qn5 b 0 L = qhk b L:=by simp [qn5,qgc]
theorem q0a (b:Nat) (L:Fam):qn5 b L.length L = qgc b L:=by simp [qn5,qhk]
theorem qru (b i:Nat) (L:Fam) (h:i≤L.length):(qn5 b i L).length = L.length:=by simp [qn5,qen,qbl]; omega
theorem q0b (b i:Nat) (L:Fam) {x:Option (Nat × List V)} (h:L[i]? = some x) (hi:i < (qn5 b i L).length):(qn5 b i L)[i] = qbj (b + i) x:=by
 obtain ⟨h1,h2⟩:=List.getElem?_eq_some_iff.1 h;have e:(qgc b (L.take i)).length = i:=by simp [qen]; omega
 have:=qno (b + i) (L.drop i) 0 (x:=x) (by simpa using h) (by rw [qbl]; simp; omega)
 have k:(qn5 b i L)[i]? = some (qbj (b + i) x):=by
  unfold qn5;rw [List.getElem?_append_right (by omega),e,Nat.sub_self,ji4 (by rw [qbl]; simp; omega),this,Nat.add_zero]
 rw [ji4 hi] at k;exact Option.some.inj k
theorem q0c (b i:Nat) (L:Fam) {x:Option (Nat × List V)} (h:L[i]? = some x):(qn5 b i L).set i (qze (b + i) x) = qn5 b (i + 1) L:=by
 obtain ⟨h1,h2⟩:=List.getElem?_eq_some_iff.1 h;have e:(qgc b (L.take i)).length = i:=by simp [qen]; omega
 unfold qn5;rw [List.set_append_right _ _ (by omega),e,Nat.sub_self,List.drop_eq_getElem_cons h1];simp only [qhk,List.set_cons_zero];rw [List.take_succ_eq_append_getElem h1,qo5,h2];simp [qgc,Nat.add_assoc];rw [Nat.min_eq_left (by omega)]
theorem qwt {sz:Nat} (b:Nat) (L:Fam) (h:Hp) (n:Nat) (hk:∀ (i g:Nat) l,L[i]? = some (some (g,l))->lk h (b + i) = some (.row g sz l)/\jgy l = true):(qgc b L).map (frz h (n + 1)) = L.map fun x=>qk2 (qau x):=by
 induction L generalizing b with
 | nil=>rfl
 | cons x r ih=>
  simp only [qgc,List.map_cons];rw [ih (b + 1) fun i g l hi=>by have:=hk (i + 1) g l (by simpa using hi); rwa [show b + (i + 1) = b + 1 + i by omega] at this];congr 1
  cases x with
  | none=>simp [qze,qk2,qau]
  | some p=>
   obtain ⟨g,l⟩:=p;obtain ⟨q1,q2⟩:=hk 0 g l (by simp);rw [Nat.add_zero] at q1;simp only [qze];rw [qcq q1 (by omega),List.drop_zero,List.take_length,qex h n q2];rfl
theorem qt8 {K:V->Hp->Prop} {h:Hp} (h2:Hp) (hs:Sub h2 h) (hk:K (.sl [] (some 0)) h2):qa6 Tryz.prog gl0 74 [.nil] h K:=by
 refine jix q9n rfl ?_;simp [i74,x74];exact .done (by simpa using ⟨h2,hs,hk⟩)
theorem qt9 {K:V->Hp->Prop} {h:Hp} {b g l:Nat} {cap:Option Nat} {es:List V} (hb:lk h b = some (.row g 2 es)) (h2:Hp) (hs:Sub h2 h) (hk:K (.ref b g 0 l (some l)) h2):qa6 Tryz.prog gl0 74 [.ref b g 0 l cap] h K:=by
 refine jix q9n rfl ?_;simp [i74,x74,hb];exact .done (by simpa using ⟨h2,hs,hk⟩)
theorem qzq (c:Ci) (hl:c.n.length < 1000000) (hin:∀ n ∈ c.n,n.i.length < 10000000) (hq:∀ j,(qg5 j c.n 0).length≤1000000000):qac Tryz.prog gl0 133 [c.v] (.sl (qnp c) (some c.n.length)):=by
 refine jiu 2 q8q rfl ?_;simp [jeb,x133,Ci.v];intro gf gf2;have:c.n.length≤549755813888:=by omega
 simp [this];refine jir (qig c) (by simp) ?_;simp;generalize gf 1 = g1;generalize gf2 14 = g14;clear gf gf2
 refine jit (X:=Nat × Fam) (fun x=>[(20,.int .i64 (x.1:Int)),(19,.int .i64 (c.n.length:Int)),(18,.sl (c.n.map Nd.v) none),(4,.fn 165 [] [.iptr c.v 0]),(3,.ref 14 g14 0 c.n.length (some c.n.length)),(1,.ptr 1 g1 0 0)])
  (fun x=>(14,.row g14 1 (qhk 1000 x.2)) :: (1,.row g1 4 [c.v]) :: qil 2 1000 x.2)
  (fun x=>x.1≤c.n.length/\qqw c x.1 0 x.2) (fun x=>c.n.length - x.1) (0,List.replicate c.n.length none) ?_ ?_ ?_ ?_
 ·exact ⟨by simp,qqw.start c⟩
 ·simp
 ·simp [qpc,qpb,Ci.v]
 ·rintro ⟨i,L⟩ ⟨h1,h2⟩;dsimp only at h1 h2;simp;refine jis (fun hb=>?_) (fun hb=>?_)
  ·have hi:i < c.n.length:=jiy hb;have hw:IntKind.i64.wrap ((i:Int) + 1) = ((i + 1:Nat):Int):=by rw [qaq] <;> omega
   have hni:=hin c.n[i] (ji3 hi);have hnd:c.n.getD i default = c.n[i]:=by simp [hi]
   simp [hi,Nd.v];intro gf6;generalize gf6 6 = g6
   refine jhc (X:=Nat × Fam) (fun x=>[(28,.int .i64 (x.1:Int)),(27,.int .i64 (c.n[i].i.length:Int)),(26,.sl (qc1 c.n[i].i) none),(5,.int .i64 (i:Int)),(20,.int .i64 (i:Int)),(19,.int .i64 (c.n.length:Int)),(18,.sl (c.n.map Nd.v) none),(4,.fn 165 [] [.iptr c.v 0]),(3,.ref 14 g14 0 c.n.length (some c.n.length)),(1,.ptr 1 g1 0 0)])
    (fun x=>(14,.row g14 1 (qhk 1000 x.2)) :: (1,.row g1 4 [c.v]) :: qil 2 1000 x.2)
    (fun x=>x.1≤c.n[i].i.length/\qqw c i x.1 x.2) (fun x=>c.n[i].i.length - x.1) ?_ ?_
   ·refine .done ⟨(0,L),⟨by simp,h2⟩,by simp,?_⟩;simp;exact qbm fun t ht=>by simp [show ¬ t = 6 by omega,show ¬ t = 14 by omega,show ¬ t = 1 by omega]
   ·clear h2 L;rintro ⟨k,L⟩ ⟨h3,h2⟩;dsimp only at h2 h3;simp;refine jis (fun hc=>?_) (fun hc=>?_)
    ·have hk:k < c.n[i].i.length:=jiy hc;have hwk:IntKind.i64.wrap ((k:Int) + 1) = ((k + 1:Nat):Int):=by rw [qaq] <;> omega
     simp [hk,qb9];refine jir (qix c _) (by simp [Ci.v]) ?_;simp;refine jis (fun ho=>?_) (fun ho=>?_)
     ·simp at ho;obtain ⟨m,hm⟩:∃ m:Nat,c.n[i].i[k] = (m:Int):=⟨c.n[i].i[k].toNat,by omega⟩;have hml:m < c.n.length:=by omega
      have hmL:m < L.length:=by rw [h2.1]; exact hml
      obtain ⟨x,hx⟩:∃ x,L[m]? = some x:=⟨_,ji4 hmL⟩;have hk':k < (c.n.getD i default).i.length:=by rw [hnd]; exact hk
      have hm':(c.n.getD i default).i[k] = (m:Int):=by simp only [hnd]; exact hm
      have hlk:=qfr 2 1000 L m hx;have hadd:=fun g=>h2.add hk' hx hm' g;have hlen:=h2.len hx;have hqm:=hq m;have hpu:=(h2.2 m _ hx).2.1;have hfv:m < (qhk 1000 L).length:=by rw [qbl]; exact hmL
      have hget:=qno 1000 L m hx hfv;rw [hm];simp [hml,hget,qbl,hmL]
      cases x with
      | none=>
       simp [qbj,hwk,hml,hget,qbl,hmL];refine fun gf1 gf2=>.move 47 (1000 + m) _ (by omega) (by simp; rfl) fun g2=>.done ⟨k + 1,L.set m (some (g2,[qia i k])),?_⟩;have n1:¬ 1000 + m = 47:=by omega
       have n2:¬ 1000 + m = 14:=by omega
       have n3:¬ 1000 + m = 1:=by omega
       have n4:¬ 14 = 1000 + m:=by omega
       have n5:¬ 1 = 1000 + m:=by omega
       have n6:¬ 46 = 1000 + m:=by omega
       have n7:¬ 47 = 1000 + m:=by omega
       refine ⟨⟨hk,hadd g2⟩,?_⟩;have hfr:=qwo (mvS 47 (gf2 47) (1000 + m) g2) 1000 L (qmr _ _ _ _ _ (by omega));simp [n4,n5,n6,n7,qbd _ (qfv _),qbd _ (qc2 _),qi0 _ (qq5 c),List.map_set,hfr,<- qj2,qbj,qia];refine ⟨qf2 (by simp [n2]) fun j g3 l3 hj hL=>?_,by omega⟩;have q1:¬ 1000 + j = 1000 + m:=by omega
       have q2:¬ 1000 + j = 14:=by omega
       have q3:¬ 1000 + j = 46:=by omega
       have q4:¬ 1000 + j = 1:=by omega
       have q5:¬ 1000 + j = 47:=by omega
       have q6:=(h2.2 j _ hL).2.1;simp [hj,q2,q3,q4,qpw (s:=mvS 47 (gf2 47) (1000 + m) g2) (g:=g2) (b:=47) (by omega) q1 q5 hL q6]
      | some p=>
       obtain ⟨g,l⟩:=p;simp only [qau] at hlen hpu;have hle:l.length + 1≤274877906944:=by omega
       have n1:¬ 1000 + m = 46:=by omega
       have n2:¬ 1000 + m = 14:=by omega
       have n3:¬ 1000 + m = 1:=by omega
       have n4:¬ 14 = 1000 + m:=by omega
       simp [qbj,hwk,hml,hget,qbl,hmL,hlk,qzo,hle,n1,n2,n3,n4];refine fun gf1 gf2=>.done ⟨k + 1,L.set m (some (gf2 (1000 + m),l ++ [qia i k])),?_⟩;refine ⟨⟨hk,hadd _⟩,?_⟩;have n5:¬ 1 = 1000 + m:=by omega
       simp [n5,<- qj2,qbj,qia];refine ⟨qf2 (by simp [n2]) fun j g3 l3 hj hL=>?_,by omega⟩;have q1:¬ 1000 + j = 1000 + m:=by omega
       have q2:¬ 1000 + j = 14:=by omega
       have q3:¬ 1000 + j = 46:=by omega
       have q4:¬ 1000 + j = 1:=by omega
       simp [hj,q2,q3,q4,qfr 2 1000 L j hL,qzo]
     ·simp at ho;simp [hwk];have hk':k < (c.n.getD i default).i.length:=by rw [hnd]; exact hk
      refine .done ⟨k + 1,L,⟨hk,h2.skip hk' ?_⟩,by simp,?_,by omega⟩
      ·intro j hj e;simp only [hnd] at e;omega
      ·simp;exact qbm fun t ht=>by simp [show ¬ t = 14 by omega,show ¬ t = 1 by omega]
    ·have hk:¬ k < c.n[i].i.length:=jiz hc;simp [hw];refine ⟨i + 1,L,⟨by omega,h2.next (by rw [hnd]; omega) hi⟩,rfl,⟨rfl,?_⟩,by omega⟩;exact qbm fun t ht=>by simp [show ¬ t = 14 by omega,show ¬ t = 1 by omega]
  ·have hi:i = c.n.length:=by have:=jiz hb; omega
   subst hi;simp
   refine jit (X:=Nat) (fun x=>[(53,.int .i64 (x:Int)),(52,.int .i64 (c.n.length:Int)),(51,.ref 14 g14 0 c.n.length (some c.n.length)),(3,.ref 14 g14 0 c.n.length (some c.n.length))])
    (fun x=>(14,.row g14 1 (qn5 1000 x L)) :: qil 2 1000 L)
    (fun x=>x≤c.n.length) (fun x=>c.n.length - x) 0 ?_ ?_ ?_ ?_
   ·simp
   ·simp
   ·simp [qxn];exact qbm fun t ht=>by simp [show ¬ t = 14 by omega,show ¬ t = 1 by omega]
   ·rintro i h3;simp;refine jis (fun hb=>?_) (fun hb=>?_)
    ·have hi:i < c.n.length:=jiy hb;have hiL:i < L.length:=by rw [h2.1]; exact hi
     have hw:IntKind.i64.wrap ((i:Int) + 1) = ((i + 1:Nat):Int):=by rw [qaq] <;> omega
     obtain ⟨x,hx⟩:∃ x,L[i]? = some x:=⟨_,ji4 hiL⟩;have hml:(qn5 1000 i L).length = c.n.length:=by rw [qru _ _ _ (by omega),h2.1]
     have hget:=q0b 1000 i L hx (by rw [hml]; exact hi);have hlk:=qfr 2 1000 L i hx;have hset:=q0c 1000 i L hx;simp [hi,hml,hget]
     cases x with
     | none=>
      simp [qbj];have hsub:Sub ((14,Blk.row g14 1 (qn5 1000 i L)) :: qil 2 1000 L) ((14,Blk.row g14 1 (qn5 1000 i L)) :: qil 2 1000 L):=⟨by simp,qbm fun t ht=>by simp [show ¬ t = 14 by omega]⟩;refine qt8 _ hsub ?_;simp [hi,hml,hget,qbj];refine ⟨i + 1,by omega,hw,⟨hset,?_⟩,by omega⟩;exact qbm fun t ht=>by simp [show ¬ t = 14 by omega]
     | some p=>
      obtain ⟨g,l⟩:=p;have n2:¬ 1000 + i = 14:=by omega
      have hsub:Sub ((14,Blk.row g14 1 (qn5 1000 i L)) :: qil 2 1000 L) ((14,Blk.row g14 1 (qn5 1000 i L)) :: qil 2 1000 L):=⟨by simp,qbm fun t ht=>by simp [show ¬ t = 14 by omega]⟩;simp [qbj];refine qt9 (es:=l) (by simp [n2,hlk,qzo]) _ hsub ?_;simp [hi,hml,hget,qbj];refine ⟨i + 1,by omega,hw,⟨hset,?_⟩,by omega⟩;exact qbm fun t ht=>by simp [show ¬ t = 14 by omega]
    ·have hi:i = L.length:=by have:=jiz hb; have:=h2.1; omega
     subst hi;simp [-frz];have hcl:(qgc 1000 L).length = c.n.length:=by rw [qen,h2.1]
     rw [q0a,qcq (es:=qgc 1000 L) (sz:=1) (by simp) (by rw [hcl]; omega),List.drop_zero,ji2 (by rw [hcl]; exact ji5 _),qwt (sz:=2) 1000 L _ _ fun i g l hi=>⟨by simp [show ¬ 1000 + i = 14 by omega,qfr 2 1000 L i hi,qzo],(h2.2 i _ hi).2.1⟩];congr 1;unfold qnp;refine List.ext_getElem? fun i=>?_;simp only [List.getElem?_map]
     cases hx:L[i]? with
     | none=>
      have:¬ i < c.n.length:=by rw [<- h2.1]; simpa using hx
      simp [this]
     | some x=>
      have hi:i < c.n.length:=by rw [<- h2.1]; exact (List.getElem?_eq_some_iff.1 hx).1
      have hx3:=(h2.2 i x hx).2.2;have e1:c.n.getD c.n.length default = default:=by simp [ji0]
      have e2:(default:Nd).i = []:=rfl;rw [e1,e2,List.drop_eq_nil_of_le (show c.n.length≤c.n.length + 1 by omega)] at hx3;simp [qrz,qg5] at hx3;simp [hi,qk2,hx3]
end
end Go.Proofs.YtlmniacemoohpaaGreatDoor
