/- Podems: the law All. Conditions: none. -/
import Derived.Test.YtpaopccohkldlaaGreatDoorWF
import Derived.Test.YtpaopccohkldlaaGreatDoorT13
import Derived.Test.YtpaopccohkldlaaGreatDoorXL11
set_option linter.all false
namespace Go.Proofs.YtpaopccohkldlaaGreatDoor
open Go
def Fw.t (w:Fw):Ft:=⟨w.m.toNat,w.n.toNat,(w.p + 1).toNat,w.v.toNat,w.o.toNat⟩
theorem x_t (f:Ft):f.x.t = f:=by
 obtain ⟨m,n,q,v,o⟩:=f;simp [Ft.x,Fw.t,Ft.pin]
theorem jlo (fs:List Ft):(fs.map Ft.x).map Fw.w = fs.map Ft.w:=by
 rw [List.map_map]; rfl
noncomputable def qr8 (c:Ci) (l:Nat) (f:Ft):V:=q1p l (qob c f l)
theorem qhz (l:Nat) (R:VR):(q1p l R).pure = true:=by
 cases R <;> simp [q1p,V.pure,jnp,qaa,trV,qcn]
theorem qqb (l:Nat) (R:VR):∃ a b c d e,q1p l R = .agg [a,b,c,d,e]:=by
 cases R <;> exact ⟨_,_,_,_,_,rfl⟩
theorem jcg (c:Ci) (hg:c.good) (hk:c.plain) (fs:List Ft) (hfs:∀ f ∈ fs,f.ok c/\f.m = 0) (hlen:fs.length≤65536) (cap:Option Nat) (l:Nat) (hl:l≤1000000) :
  qac Tryz.prog gl0 51 [c.v,.sl (fs.map Ft.w) cap,qaa l] (.tup [.sl (fs.map (qr8 c l)) none,.int .i64 0]):=by
 have hlim:q5u (l:Int) = 0:=by unfold q5u; rw [if_neg (by omega),if_neg (by omega)]
 have hE:∀ w ∈ fs.map Ft.x,qac Tryz.prog gl0 92 [c.v,w.w,qaa l] (.int .i64 0):=fun w hw=>by
  obtain ⟨f,hf,rfl⟩:=List.mem_map.1 hw;have:=qtw c hg hk f (hfs f hf).1 l;rw [if_neg (by have:=(hfs f hf).2; omega),hlim] at this;exact this
 have hR:∀ w ∈ fs.map Ft.x,qac Tryz.prog gl0 46 [c.v,w.w,qaa l] (.tup [qr8 c l w.t,.int .i64 0]):=fun w hw=>by
  obtain ⟨f,hf,rfl⟩:=List.mem_map.1 hw;rw [x_t];exact qs9 c hg hk f (hfs f hf).1 (hfs f hf).2 l hl
 have h:=jiy c 0 (fun _=>0) (fun w=>qr8 c l w.t) (l:Int) (qkb c hg hk) (fs.map Ft.x) cap (fun _ w hw=>hE w hw) (fun _ w hw _=>hR w hw) (fun w _=>qhz l _) (fun w _=>qqb l _);rw [jlo] at h;refine jn4 2 h ?_
 have hz:q2y 0 (fun _=>0) (fs.map Ft.x) = 0:=by
  unfold q2y;rw [if_neg (by simp),if_neg (by rw [List.length_map]; omega),(qlz _ _).2 (fun _ _=>rfl)]
 have hm:(fs.map Ft.x).map (fun w=>qr8 c l w.t) = fs.map (qr8 c l):=by
  rw [List.map_map];exact List.map_congr_left fun f _=>by simp only [Function.comp,x_t]
 have hp:jnp (fs.map (qr8 c l)) = true:=by
  rw [jnu];intro v hv;obtain ⟨f,-,rfl⟩:=List.mem_map.1 hv;exact qhz l _
 rintro v h (⟨h1,-⟩ | ⟨-,g,cp,rfl,rfl⟩)
 ·exact absurd hz h1
 ·rw [hm,qh7,qbc (sz:=5) (es:=fs.map (qr8 c l)) (by simp) (by simp),List.drop_zero,jpt (by simp),qbl _ _ hp]
  cases cp with
  | none=>exact VLe.refl _
  | some k=>exact VLe.tup ⟨VLe.cap _ _,.refl _,trivial⟩
theorem q67 (z:Fx):z.v.pure = true:=by simp [Fx.v,V.pure,jnp,u8V]
noncomputable def r11:XC:=xs2 (xs2 (xs2 (xs2 (xs2 (xs2 x11)))))
theorem jbb (c:Ci) (fs:List Ft) (cap:Option Nat) (lim:Nat) (hlim:lim < 256) (hn:fs.length≤65536) (hlv:qac Tryz.prog gl0 49 [] (.bool true))
  (hA:qac Tryz.prog gl0 51 [c.v,.sl (fs.map Ft.w) cap,qaa lim] (.tup [.sl (fs.map (qr8 c lim)) none,.int .i64 0])) (hG:∀ f ∈ fs,qac Tryz.prog gl0 46 [c.v,f.w,qaa lim] (.tup [qr8 c lim f,.int .i64 0])) (hS:∀ f ∈ fs,qac Tryz.prog gl0 50 [qr8 c lim f,qr8 c lim f] (.bool true))
  (g7:Nat) (fr:Fr) (h7:lk fr 7 = some (.ptr 7 g7 0 0)) (h8:lk fr 8 = some (.sl (fs.map Ft.w) cap)) (h2:lk fr 2 = some (.int .u8 lim)) (hr:Hp) :
  r11.wpF Tryz.prog gl0 (jb9 [.tmp 6] 2 (.bool true)) fr ((7,.row g7 4 [c.v]) :: hr):=by
 have hp1:jnp (fs.map Ft.w) = true:=qjw fs
 have hp2:jnp (fs.map (qr8 c lim)) = true:=by
  rw [jnu];intro v hv;obtain ⟨f,-,rfl⟩:=List.mem_map.1 hv;exact qhz lim _
 have hw:IntKind.i64.wrap (lim:Int) = (lim:Int):=by rw [qaq] <;> omega
 simp only [qaa] at hA hG;simp [r11,xs2,x11,h7,h8,h2,hw];refine jpg hA (by simp [jnp,hp1]) ?_;simp [h8]
 refine jpj (X:=Nat) (fun j=>[(13,qaa j),(11,.sl (fs.map (qr8 c lim)) none),(7,.ptr 7 g7 0 0),(8,.sl (fs.map Ft.w) cap),(2,.int .u8 lim)]) (fun _=>[(7,.row g7 4 [c.v])])
  (fun j=>j≤fs.length) (fun j=>fs.length - j) 0 (Nat.zero_le _) (by simp [qaa,h7,h8,h2]) (by simp) ?_
 intro j hj;simp [qaa];refine jph (fun hb=>?_) (fun hb=>?_)
 ·have hj2:j < fs.length:=jpp hb;have hwj:=qa1 j (by omega);obtain ⟨f,hf⟩:∃ f,fs[j] = f:=⟨_,rfl⟩;have hmem:f ∈ fs:=by rw [<- hf]; exact jpu hj2
  have hGf:=hG f hmem;have hSf:=hS f hmem;obtain ⟨a1,a2,a3,a4,a5,hra⟩:=qqb lim (qob c f lim);have hrp:=qhz lim (qob c f lim);change qr8 c lim f = _ at hra;change (qr8 c lim f).pure = true at hrp;rw [hra] at hGf hSf hrp;simp only [V.pure,jnp,Bool.and_eq_true] at hrp;obtain ⟨p1,p2,p3,p4,p5,-⟩:=hrp;simp only [Ft.w,u8V,qaa] at hGf;simp [hj2,hf,hwj,hw,nop,Ft.w,u8V,qaa];intro gm
  first | refine ⟨_,_,_,.pure hGf (by simp [jnp,V.pure]),?_⟩ | refine ⟨_,⟨_,_,.pure hGf (by simp [jnp,V.pure])⟩,?_⟩ | refine ⟨_,_,⟨_,.pure hGf (by simp [jnp,V.pure])⟩,?_⟩
  simp;refine ⟨by decide,?_⟩;intro gm2;simp [hj2,hf,hra]
  first | refine ⟨_,_,_,.pure hSf (by simp [jnp,V.pure,p1,p2,p3,p4,p5]),?_⟩ | refine ⟨_,⟨_,_,.pure hSf (by simp [jnp,V.pure,p1,p2,p3,p4,p5])⟩,?_⟩ | refine ⟨_,_,⟨_,.pure hSf (by simp [jnp,V.pure,p1,p2,p3,p4,p5])⟩,?_⟩
  simp;exact ⟨j + 1,hj2,by simpa using hwj,by omega⟩
 ·simp;refine jpg hlv rfl ?_;simp
theorem q76 (x:Cx) (hx:x.ok) (l:List Fx) (hl:∀ z ∈ l,z.ok) (lim:Nat) (hlim:lim < 256):qac Tryz.prog gl0 11 [x.v,.sl (l.map Fx.v) none,.int .u8 lim] (.bool true):=by
 have hcs:=q80 x hx;have hcp:=qnw x;have hg:=jak x.pl;have hpl:=q4t x.pl.nm rfl rfl;generalize x.pl.nm.ci = c at hcs hg hpl;have hall:=jbw c hg;have hlv:=q12;have hst:∀ z ∈ l,qac Tryz.prog gl0 15 [c.v,z.v] (stF c z).w:=fun z hz=>q6m c hg z (hl z hz);have hA:=fun (fs:List Ft) h1 h2 cap=>jcg c hg hpl fs h1 h2 cap lim (by omega);have hwl:(l.map Fx.v).length = l.length:=by simp
 simp only [Cx.v] at hcs hcp;simp only [flV,u8V] at hall;refine joe 6 2 ok11 rfl ?_;simp [i11,x11,nop,Cx.v];intro gf3;refine KM.mk (.done ?_);simp;by_cases h20:20 < l.length
 ·simp [h20];refine jpg hlv rfl ?_;simp
 simp [h20];refine KM.mk (.done ?_);simp;refine jpg hcs (by simp only [jnp,Bool.and_true]; exact hcp) ?_;simp;intro gf7;refine KM.mk (.done ?_);simp;refine jpg hall (by simp) ?_;simp;refine KM.mk (.done ?_);simp;refine KM.mk (.done ?_);simp;generalize gf7 7 = g7;by_cases h0:l = []
 ·subst h0;have hfs:∀ f ∈ fsS (lnF c),f.ok c/\f.m = 0:=fun f hf=>jdo c f hf;have hfl:(fsS (lnF c)).length≤65536:=by have:=qxb c hg; rw [qzr]; omega
  simp;refine KM.mk (.done ?_);exact jbb c (fsS (lnF c)) (some (fsS (lnF c)).length) lim hlim hfl hlv (hA _ hfs hfl _) (fun f hf=>qs9 c hg hpl f (hfs f hf).1 (hfs f hf).2 lim (by omega)) (fun f hf=>q5n lim _ (qy9 c hg hpl f (hfs f hf).1 (hfs f hf).2 lim (by omega))) g7 _ (by simp) (by simp) (by simp) _
 ·have h0':0 < l.length:=List.length_pos_iff.2 h0;simp [h0,h0']
  refine jpj (X:=SitS) (fun s=>[(10,qaa s.j),(8,qbi 46 s.z),(1,.sl (l.map Fx.v) none),(2,.int .u8 lim),(7,.ptr 7 g7 0 0)]) (fun s=>(7,.row g7 4 [c.v]) :: qbj 46 5 s.z)
   (fun s=>s.j≤l.length/\qa0 s.z = (l.map fun y=>(stF c y).w).take s.j) (fun s=>l.length - s.j) ⟨0,none⟩ ⟨Nat.zero_le _,rfl⟩ (by simp [qaa,qbi]) (by simp [qbj]; rfl) ?_
  rintro ⟨j,z⟩ ⟨hj,hz⟩;dsimp only at hj hz;simp [qaa];refine jph (fun hb=>?_) (fun hb=>?_)
  ·have hj2:j < l.length:=jpp hb;have hwj:=qa1 j (by omega);obtain ⟨y,hy⟩:∃ y,l[j] = y:=⟨_,rfl⟩;have hmem:y ∈ l:=by rw [<- hy]; exact jpu hj2
   have hsy:=hst y hmem;have hlen:(qa0 z).length = j:=by rw [hz]; simp; omega
   have htk:(l.map fun y=>(stF c y).w).take (j + 1) = qa0 z ++ [(stF c y).w]:=by rw [hz,List.take_succ_eq_append_getElem (by simpa using hj2),List.getElem_map,hy]
   simp only [Fx.v,u8V] at hsy;obtain ⟨f,hf⟩:∃ f,stF c y = f:=⟨_,rfl⟩;rw [hf] at hsy htk;rcases z with _ | ⟨gz,lz⟩
   ·simp [hj2,hy,Fx.v,u8V,qbi,qbj,nop];intro gm
    first | refine ⟨_,_,_,.pure hsy (by simp [jnp,V.pure]),?_⟩ | refine ⟨_,⟨_,_,.pure hsy (by simp [jnp,V.pure])⟩,?_⟩ | refine ⟨_,_,⟨_,.pure hsy (by simp [jnp,V.pure])⟩,?_⟩
    simp [nop];refine ⟨⟨j + 1,some (gm 46,[f.w])⟩,⟨hj2,by rw [htk]; rfl⟩,⟨by simpa using hwj,by simp⟩,by simp [Ft.w],by simp only []; omega⟩
   ·simp [hj2,hy,Fx.v,u8V,qbi,qbj,nop];intro gm
    first | refine ⟨_,_,_,.pure hsy (by simp [jnp,V.pure]),?_⟩ | refine ⟨_,⟨_,_,.pure hsy (by simp [jnp,V.pure])⟩,?_⟩ | refine ⟨_,_,⟨_,.pure hsy (by simp [jnp,V.pure])⟩,?_⟩
    simp [nop];refine ⟨by simp only [qa0] at hlen; omega,⟨j + 1,some (gz + 1,lz ++ [f.w])⟩,⟨hj2,by rw [htk]; rfl⟩,⟨by simpa using hwj,by simp⟩,by simp [Ft.w],by simp only []; omega⟩
  ·have hj3:j = l.length:=by have:=jpq hb; omega
   subst hj3;rw [jpt (by simp)] at hz;rcases z with _ | ⟨gz,lz⟩
   ·simp [qa0] at hz;exact absurd hz.symm (by simpa using h0)
   ·simp only [qa0] at hz;simp [qbi,qbj]
    have hpz:jnp lz = true:=by
     rw [hz,jnu];intro v hv;obtain ⟨y,-,rfl⟩:=List.mem_map.1 hv;exact qtf _
    have hLr:∀ (f:Nat->Nat->Nat->Nat->Option Nat->V) (q:Nat->Nat->Nat->Nat->V),jnr f q (l.map Fx.v) = l.map Fx.v:=fun _ _=>qae _ (pureL_map q67 l);have hcp2:∀ (f:Nat->Nat->Nat->Nat->Option Nat->V) (q:Nat->Nat->Nat->Nat->V),V.mapR f q c.v = c.v:=fun _ _=>qba _ (qcw c)
    have hfs:∀ f ∈ l.map (stF c),f.ok c/\f.m = 0:=fun f hf=>by
     obtain ⟨y,-,rfl⟩:=List.mem_map.1 hf;exact jbe c hg y
    have hfl:(l.map (stF c)).length≤65536:=by rw [List.length_map]; omega
    have hzz:lz = (l.map (stF c)).map Ft.w:=by rw [hz,List.map_map]; rfl
    have hll:lz.length = (l.map (stF c)).length:=by rw [hzz,List.length_map]
    refine KM.mk (.frz (g:=gz) (sz:=5) (es:=lz) 46 (by simp) hpz ?_);simp [fzF,fzH,fzV,Blk.fz,V.mapR,jnr,fzp,fzf,hLr,hcp2];refine .done ?_;rw [hzz];exact jbb c (l.map (stF c)) none lim hlim hfl hlv (hA _ hfs hfl _) (fun f hf=>qs9 c hg hpl f (hfs f hf).1 (hfs f hf).2 lim (by omega)) (fun f hf=>q5n lim _ (qy9 c hg hpl f (hfs f hf).1 (hfs f hf).2 lim (by omega))) g7 _ (by simp) (by simp) (by simp) _
end Go.Proofs.YtpaopccohkldlaaGreatDoor
