/- Netlists: contracts, a copy taken for what it holds; same. Conditions: none. Netlists: contracts, the law Check. Conditions: none. -/
import Derived.Test.YtpaopccohkldlaaGreatDoorNet9
set_option linter.all false
namespace Go.Proofs.YtpaopccohkldlaaGreatDoor
section
open Go
theorem VLe.agg {a b:List V} (h:qjt a b):VLe (.agg a) (.agg b):=fun G M r hr=>by
 obtain ⟨h1,h2⟩:=h.spec
 cases hr with
 | agg _ arr hs q ho=>exact .agg b arr (by rw [hs,h1]) (fun i hi=>h2 i G M _ (q i (by omega))) (fun i hi=>ho i (by omega))
def qzz (a b:V):Prop:=qjt a.cells b.cells
theorem jfo {a b:List V} {c:Option Nat} (hl:a.length = b.length) (h:∀ i,qzz (a.getD i .undef) (b.getD i .undef)):VLe (.sl a c) (.sl b c):=fun G M r hr=>by
 cases hr with
 | slnil cap base rcap hc hb=>
  have:b = []:=List.length_eq_zero_iff.1 (by rw [<- hl]; rfl);subst this;exact .slnil _ _ _ hc hb
 | sl _ _ rb ro rcap sz cells hne hG hsz hb hl2 hc hh ho=>
  rw [hl];refine .sl b c rb ro rcap sz cells (fun e=>hne (List.length_eq_zero_iff.1 (by rw [hl,e]; rfl))) hG (fun i hi=>?_) (by rw [<- hl]; exact hb) (by rw [<- hl]; exact hl2) hc (fun i j hi hj=>?_) (fun i j hi hj=>ho i j (by omega) hj)
  ·rw [<- (h i).spec.1]; exact hsz i (by omega)
  ·exact (h i).spec.2 j G M _ (hh i j (by omega) hj)
def Nd.c (x:Nd):V:=.agg [.int .u8 x.k,.sl (qde x.i) (some x.i.length),.int .i64 x.a,.int .i64 x.b]
def Md.c (x:Md):V:=.agg [.sl (qde x.a) (some x.a.length),.sl (qde x.d) (some x.d.length),.int .i64 x.w]
def Ci.c (c:Ci):V:=.agg [.sl (c.n.map Nd.c) (some c.n.length),.sl (c.s.map .str) (some c.s.length),.sl (c.m.map Md.c) (some c.m.length),.sl (qde c.o) (some c.o.length)]
theorem q02 (h:Hp) (n:Nat) (cs:List V):frz h n (.agg cs) = .agg (cs.map (frz h n)):=by
 cases n <;> simp [frz,qci]
structure Ci.lens (c:Ci):Prop where
 n:c.n.length < 1000000
 s:c.s.length < 1000000000
 m:c.m.length < 1000000
 o:c.o.length < 1000000000
 i:∀ x ∈ c.n,x.i.length < 1000000000
 a:∀ x ∈ c.m,x.a.length < 1000000000/\x.d.length < 1000000000
@[simp] theorem q5b (l:List Int):List.take l.length (qde l) = qde l:=jf2 (by simp)
end
section
open Go
end
section
open Go
structure Gx where
 k:Nat
 a:Nat
 b:Nat
 d:Nat
 deriving Inhabited
def u8V (n:Nat):V:=.int .u8 (n:Int)
def Gx.v (g:Gx):V:=.agg [u8V g.k,u8V g.a,u8V g.b,u8V g.d]
structure Gx.ok (g:Gx):Prop where
 k:g.k < 256
 a:g.a < 256
 b:g.b < 256
 d:g.d < 256
structure Cx where
 n:Nat
 f:Nat
 d0:Nat
 d1:Nat
 bus:Bool
 mem:Bool
 p0:Nat
 p1:Nat
 p2:Nat
 p3:Nat
 g:List Gx
 o:List Nat
def Cx.v (x:Cx):V:=.agg [u8V x.n,u8V x.f,u8V x.d0,u8V x.d1,.bool x.bus,.bool x.mem,u8V x.p0,u8V x.p1,u8V x.p2,u8V x.p3,.sl (x.g.map Gx.v) none,.sl (x.o.map u8V) none]
end
section
open Go
structure Ent where
 k:Nat
 l:List Nat
 b:Nat
 m:Option (Nat × Option Nat)
def Ent.iv (e:Ent) (n:Nat):V:=match e.m with
 | none=>.nil
 | some (g,cap)=>.ref n g 0 e.l.length cap
def Ent.v (e:Ent) (n:Nat):V:=.agg [u8V e.k,e.iv n,qab 0,qab e.b]
def Ent.h (e:Ent) (n:Nat):Hp:=match e.m with
 | none=>[]
 | some (g,_)=>[(n,.row g 1 (qak e.l))]
theorem qru (l:List Nat):qak l = qde (l.map fun (x:Nat)=>(x:Int)):=by simp [qak,qab,qde]
def Ent.f (e:Ent):V:=.agg [u8V e.k,(match e.m with | none=>.nil | some (_,cap)=>.sl (qak e.l) cap),qab 0,qab e.b]
end
section
open Go
structure Cx.ok (x:Cx):Prop where
 n:x.n < 256
 f:x.f < 256
 d0:x.d0 < 256
 d1:x.d1 < 256
 p0:x.p0 < 256
 p1:x.p1 < 256
 p2:x.p2 < 256
 p3:x.p3 < 256
 g:∀ g ∈ x.g,g.ok
 o:∀ o ∈ x.o,o < 256
end
end Go.Proofs.YtpaopccohkldlaaGreatDoor
