/- Podems: the law Stops. Conditions: none. -/
import Derived.Test.YtpaopccohkldlaaGreatDoorWM
import Derived.Test.YtpaopccohkldlaaGreatDoorXL9
set_option linter.all false
namespace Go.Proofs.YtpaopccohkldlaaGreatDoor
open Go
def cn2 (l:List Nd):Nat:=cnt 0 l + cnt 14 l
theorem qyt (a b:List Nd):cn2 (a ++ b) = cn2 a + cn2 b:=by unfold cn2; rw [qoa,qoa]; omega
theorem qyu (k:Int):∀ (l:List Nd) (i:Nat) (y:Nd),(∀ h:i < l.length,y.k = l[i].k)->cnt k (l.set i y) = cnt k l
 | [],i,y,_=>by simp
 | n :: r,0,y,h=>by
  have:=h (by simp);simp only [List.getElem_cons_zero] at this;rw [List.set_cons_zero,qca,qca,this]
 | n :: r,i + 1,y,h=>by
  rw [List.set_cons_succ,qca,qca,qyu k r i y fun hi=>(h (Nat.succ_lt_succ hi)).trans (by rw [List.getElem_cons_succ])]
theorem jd0 (g:Gx) (l:List Nd):(qdh false g l).1 ≠ 0/\(qdh false g l).1 ≠ 14:=by
 unfold qdh qdp;dsimp only;have h:g.k % 9 < 9:=Nat.mod_lt _ (by omega);rw [if_neg Bool.false_ne_true];generalize g.k % 9 = k at h;split
 ·dsimp only; omega
 split
 ·simp
 split
 ·simp
 rw [if_neg (by omega),if_neg (by omega)];split
 ·dsimp only; omega
 ·simp
theorem qq0:∀ (gs:List Gx) (l:List Nd),cn2 (qdj false gs l) = cn2 l
 | [],_=>rfl
 | g :: gs,l=>by
  rw [qdj,qq0 gs,qyt];obtain ⟨h1,h2⟩:=jd0 g l
  have e:cn2 [ndN (qdh false g l)] = 0:=by
   unfold cn2;rw [qca,qca];have k1:¬ (ndN (qdh false g l)).k = 0:=by simp only [ndN]; omega
   have k2:¬ (ndN (qdh false g l)).k = 14:=by simp only [ndN]; omega
   rw [if_neg k1,if_neg k2]; rfl
  rw [e]; rfl
theorem qsu (k:Int) (y:Nd):∀ n,cnt k (List.replicate n y)≤n
 | 0=>by simp [cnt,ids]
 | n + 1=>by
  rw [List.replicate_succ,qca];have:=qsu k y n;split <;> omega
theorem qob (k:Int) (y:Nd) (h:y.k ≠ k):∀ n,cnt k (List.replicate n y) = 0
 | 0=>by simp [cnt,ids]
 | n + 1=>by rw [List.replicate_succ,qca,if_neg h,qob k y h n]
theorem q0p (x:Cx):∀ i,cn2 (x.ns1 i) = cn2 x.ns0
 | 0=>rfl
 | i + 1=>by
  have ih:=q0p x i
  have hs:∀ k,cnt k (x.ns1 (i + 1)) = cnt k (x.ns1 i):=fun k=>by
   show cnt k ((x.ns1 i).set _ _) = _;refine qyu k _ _ _ fun h=>?_;simp only [];rw [jqu,jqy h]; rfl
  unfold cn2 at ih ⊢;rw [hs,hs]; exact ih
theorem jfs (x:Cx):cnt 0 x.pl.nm.ci.n + cnt 14 x.pl.nm.ci.n≤6:=by
 have h1:cn2 x.pl.nm.ci.n = cn2 x.pl.nm.ns0:=q0p x.pl.nm _;have h2:cn2 x.pl.nm.ns0 = cn2 x.pl.nm.st0:=qq0 _ _
 have h3:cn2 x.pl.nm.st0≤6:=by
  unfold Cx.st0 Cx.st1;rw [if_neg (by exact Bool.false_ne_true),List.append_nil,qyt];have a1:=qsu 0 in0 (x.pl.nm.n % 4 + 1);have a2:=qob 14 in0 (by decide) (x.pl.nm.n % 4 + 1);have b1:=qob 0 (q3i 0) (by simp [q3i]) (x.pl.nm.f % 3);have b2:=qsu 14 (q3i 0) (x.pl.nm.f % 3);unfold cn2;rw [a2,b1];omega
 unfold cn2 at h1 h2 h3;omega
theorem q1b {R:VR} {w:Nat} (h:R.used = some w) (l:Nat):∃ s:Nat,∃ b d e:V,(∀ l',qpl l' R = .agg [.int .u8 s,b,d,e,qaa w])/\s ≠ 3:=by
 cases R with
 | found q w'=>cases h; exact ⟨1,_,_,_,fun _=>rfl,by decide⟩
 | proof t w'=>cases h; exact ⟨2,_,_,_,fun _=>rfl,by decide⟩
 | spent q=>cases h
theorem jbc {R:VR} (h:∀ q,R ≠ .spent q):∃ w,R.used = some w:=by
 cases R with
 | found q w=>exact ⟨w,rfl⟩
 | proof t w=>exact ⟨w,rfl⟩
 | spent q=>exact absurd rfl (h q)
set_option maxRecDepth 100000 in
theorem jeg (x:Cx) (hx:x.ok) (z:Fx) (hz:z.ok) (lim:Nat) (hlim:lim < 256):qac Tryz.prog gl0 9 [x.v,z.v,.int .u8 lim] (.bool true):=by
 have hcs:=q00 x hx;have hcp:=qk8 x;have hg:=q0l x.pl;have hpl:=qun x.pl.nm rfl rfl;have h16:=je5 x.pl;have h6:=jfs x;generalize x.pl.nm.ci = c at hcs hg hpl h16 h6;have hst:=q13 c hg z hz;obtain ⟨hf,hfm⟩:=q7r c hg z;generalize stF c z = f at hst hf hfm;have hlv:=qu8;obtain ⟨n,hn⟩:∃ n,lim % 20 = n:=⟨_,rfl⟩;have hn20:n < 20:=by omega
 have hp6:2 ^ (cnt 0 c.n + cnt 14 c.n)≤2 ^ 6:=Nat.pow_le_pow_right (by omega) h6;obtain ⟨w,hw⟩:=jbc (qor c hg hpl f hf hfm 1000 (by omega));obtain ⟨s,r1,r2,r3,hr,hs3⟩:=q1b hw 0;have hgn:=qq1 c hg hpl f hf hfm n (by omega);have hga:=qq1 c hg hpl f hf hfm 1000 (by omega);have hgm:=qq1 c hg hpl f hf hfm (n + 1) (by omega);have hsn:=qty c hg hpl f hf hfm n (by omega);have hsa:=qty c hg hpl f hf hfm 1000 (by omega);have hsm:=jgf 0 (qgn c f 1000) (q85 c hg hpl f hf hfm 1000 (by omega));have hrp:=q1a 0 (qgn c f 1000);have hsame:∀ m,w≤m->qgn c f m = qgn c f 1000:=fun m h=>qgs (sea c f) 1000 m _ (qd4 c) 0 w hw h;have hless:n < w->∃ q,qgn c f n = .spent q:=fun h=>qji (sea c f) 1000 n _ (qd4 c) 0 w hw (Nat.zero_le _) h;rw [hr 1000] at hga hsa;rw [hr 0] at hsm hrp;simp only [V.pure,jos,Bool.and_eq_true] at hrp;obtain ⟨-,p1,p2,p3,-⟩:=hrp
 have hrem:((lim:Int)).tmod 20 = (n:Int):=by
  rw [Int.tmod_eq_emod_of_nonneg (by omega)];omega
 have hconv:IntKind.i64.wrap ((lim:Int).tmod 20) = (n:Int):=by rw [hrem,qao] <;> omega
 have hwn:=qaz n (by omega);simp only [Cx.v] at hcs hcp;simp only [Fx.v,u8V] at hst;by_cases hnw:n < w
 ·obtain ⟨q,hq⟩:=hless hnw;rw [hq] at hgn hsn;simp only [qaa,Ft.w,u8V,qpl] at hgn hga hsn hsa hst;refine jqo 2 ok9 rfl ?_;simp [i9,x9,nop,Cx.v,Fx.v,u8V];intro gf3 gf4;refine jqk hcs (by simp only [jos,Bool.and_true]; exact hcp) ?_;simp;intro gf7;refine jqk hst (by simp) ?_;simp;intro gf8;simp [hconv];refine jqk hgn (by simp) ?_;simp;intro gf10;refine jqk hga (by simp) ?_;simp;intro gf12;refine jqk hsn (by simp) ?_;simp;refine jqk hsa (by simp [p1,p2,p3]) ?_;simp [hs3,hnw];refine jqk hlv rfl ?_;simp
 ·have e1:qgn c f n = qgn c f 1000:=hsame n (by omega);have e2:qgn c f (n + 1) = qgn c f 1000:=hsame (n + 1) (by omega);rw [e1,hr n] at hgn hsn;rw [e2,hr (n + 1)] at hgm;simp only [qaa,Ft.w,u8V] at hgn hga hgm hsn hsa hsm hst;refine jqo 2 ok9 rfl ?_;simp [i9,x9,nop,Cx.v,Fx.v,u8V];intro gf3 gf4;refine jqk hcs (by simp only [jos,Bool.and_true]; exact hcp) ?_;simp;intro gf7;refine jqk hst (by simp) ?_;simp;intro gf8;simp [hconv];refine jqk hgn (by simp) ?_;simp;intro gf10;refine jqk hga (by simp) ?_;simp;intro gf12;refine jqk hsn (by simp [p1,p2,p3]) ?_;simp;refine jqk hsa (by simp [p1,p2,p3]) ?_;simp [hs3,hnw,hwn];refine jqk hgm (by simp) ?_;simp;intro gf14;refine jqk hsm (by simp [p1,p2,p3]) ?_;simp;refine jqk hsm (by simp [p1,p2,p3]) ?_;simp;refine jqk hlv rfl ?_;simp
end Go.Proofs.YtpaopccohkldlaaGreatDoor
