/- Trees: Text. Conditions: none. -/
import Derived.Test.YtpaopccohkldlaaGreatDoorR2
import Derived.Laws.EntriesVeiled
import Derived.Test.YtpaopccohkldlaaGreatDoorR1
import Derived.Test.YtpaopccohkldlaaGreatDoorXT
set_option linter.all false
namespace Go.Proofs.YtpaopccohkldlaaGreatDoor
section
open Go Go.Shelf Go.RowKit
set_option maxRecDepth 100000
set_option maxHeartbeats 4000000
theorem GIn.below {G:qa9} {w w':World} (hg:GIn G w) (hb:Below w.heap.size w w'):GIn G w':=fun k cells hk=>by
 obtain ⟨ty,fz,hw⟩:=hg k cells hk;exact ⟨ty,fz,by rw [hb.block k (Array.getElem?_eq_some_iff.1 hw).1]; exact hw⟩
theorem qac.raw {P:Program} {gl:Fr} {f:FuncId} {args:List V} {res:V} (hc:qac P gl f args res) {G:qa9} {w:World} (hg:GIn G w) (hgl:qdi G gl) {rargs:Array Value} (hsz:rargs.size = args.length) (hrel:∀ i,i < args.length->qao G M0 (args.getD i .undef) (rargs.getD i undef)) :
  Calls P f rargs w fun e w'=>∃ rv G',e = .returned rv/\qao G' M0 res rv/\Below w.heap.size w w':=by
 refine Calls.mono (hc.2 G w rargs hg hgl hsz hrel) ?_;rintro e w' ⟨rv,G',rfl,hv,-,hx⟩;exact ⟨rv,G',rfl,hv,hx.os,hx.tape,hx.output,hx.size,fun k hk=>hx.keep k hk (qbj k)⟩
theorem qyv {G:qa9} {w:World} (hg:GIn G w) {t:List Tn} {rv:Value} (h:qao G M0 (.sl (t.map Tn.v) none) rv) :
  ∃ ra rcap,rv = .slice ra t.length rcap/\(t ≠ []->∃ rb ro,ra = some ⟨rb,ro,none⟩/\rb < w.heap.size/\∀ i,i < t.length->w.cell? ⟨rb,ro + i * 3,none⟩ = some (.int .i64 (tF t i 0))/\w.cell? ⟨rb,ro + i * 3 + 1,none⟩ = some (.int .i64 (tF t i 1))/\w.cell? ⟨rb,ro + i * 3 + 2,none⟩ = some (.int .i64 (tF t i 2))):=by
 generalize hT:t.map Tn.v = T at h;have hTl:T.length = t.length:=by rw [<- hT]; simp
 cases h with
 | slnil cap base rcap hc hb=>
  have:t = []:=by simpa using hT
  subst this;exact ⟨base,rcap,rfl,fun h=>absurd rfl h⟩
 | sl xs cap rb ro rcap sz cells hne hG hsz hb hl hc hh ho=>
  refine ⟨_,rcap,by rw [hTl],fun htn=>⟨rb,ro,rfl,?_⟩⟩;obtain ⟨ty,fz,hw⟩:=hg rb cells hG
  have hget:∀ i,i < t.length->T.getD i .undef = (t.getD i default).v:=fun i hi=>by
   rw [<- hT,jf0,jf0,List.getElem?_map,jf4 hi]; rfl
  have hpos:0 < t.length:=List.length_pos_iff.2 htn
  obtain rfl:sz = 3:=by
   have:=hsz 0 (by omega);rw [hget 0 hpos] at this;simpa [Tn.v,V.cells] using this.symm
  refine ⟨(Array.getElem?_eq_some_iff.1 hw).1,fun i hi=>?_⟩
  have key:∀ j (hj:j < 3) (x:Int),(t.getD i default).v.cells.getD j .undef = .int .i64 x->w.cell? ⟨rb,ro + i * 3 + j,none⟩ = some (.int .i64 x):=fun j hj x hx=>by
   have h1:=hh i j (by omega) hj;rw [hget i hi,hx] at h1;have h2:=qah h1;have h3:ro + i * 3 + j < cells.size:=by rw [hTl] at hb; omega
   rw [jf1,Array.getElem?_eq_getElem h3,Option.getD_some] at h2;rw [Lib.cell_of_heap hw,Array.getElem?_eq_getElem h3,h2]
  exact ⟨key 0 (by omega) _ rfl,key 1 (by omega) _ rfl,key 2 (by omega) _ rfl⟩
theorem qv4 (w1:World) (F:Value) :
  (((w1.alloc (.cells #[.pointer none,.slice none 0 0] 127)).alloc (.cells #[F] 122)).cell? ⟨w1.heap.size + 1,0,none⟩ = some F/\((w1.alloc (.cells #[.pointer none,.slice none 0 0] 127)).alloc (.cells #[F] 122)).frozen? ⟨w1.heap.size + 1,0,none⟩ = false)/\
  ((w1.alloc (.cells #[.pointer none,.slice none 0 0] 127)).alloc (.cells #[F] 122)).heap[w1.heap.size + 1]? = some (.cells #[F] 122 (0,0))/\
  ((w1.alloc (.cells #[.pointer none,.slice none 0 0] 127)).alloc (.cells #[F] 122)).heap[w1.heap.size]? = some (.cells #[.pointer none,.slice none 0 0] 127 (0,0))/\
  Below w1.heap.size w1 ((w1.alloc (.cells #[.pointer none,.slice none 0 0] 127)).alloc (.cells #[F] 122)):=by
 have e2:((w1.alloc (.cells #[.pointer none,.slice none 0 0] 127)).alloc (.cells #[F] 122)).heap[w1.heap.size + 1]? = some (.cells #[F] 122 (0,0)):=by
  show ((w1.heap.push _).push _)[w1.heap.size + 1]? = _;rw [Array.getElem?_push,if_pos (by simp)]
 have e3:((w1.alloc (.cells #[.pointer none,.slice none 0 0] 127)).alloc (.cells #[F] 122)).heap[w1.heap.size]? = some (.cells #[.pointer none,.slice none 0 0] 127 (0,0)):=by
  show ((w1.heap.push _).push _)[w1.heap.size]? = _;rw [Array.getElem?_push,if_neg (by simp),Array.getElem?_push_size]
 exact ⟨⟨by rw [Lib.cell_of_heap e2]; rfl,Lib.frozen_of_heap e2 0⟩,e2,e3,((Below.refl _ w1).alloc (jf5 _) _).alloc (by simp) _⟩
theorem qvy (t:List Tn) (ht:t.length < 1000000000) (d:DT) (hv:qbn t 16384 = true->Rp t d 0/\d.lim) (hl:d.tx.length≤70368744177664) :
  qac Tryz.prog gl0 23 [.sl (t.map Tn.v) none] (.str (if qbn t 16384 = true then d.tx else [])):=by
 have hval:=qd1 t 16384 none ht;refine jep (by kernel_rfl) fun G w rargs hg hgl hsz hrel=>?_;have r0:=hrel 0 (by simp);simp only [List.getD_cons_zero] at r0;obtain ⟨ra,rcap,hv0,hcell⟩:=qyv hg r0;rw [hv0] at r0;obtain rfl:=qlw hsz hv0;have htab:=qvx hg hgl;have hleaf:=qt0 (g:=0) (k:=.i64) (L:=[-1,0,0]) hg hgl rfl;obtain ⟨lty,lfz,hleaf⟩:=hleaf
 have h2k:2 < w.heap.size:=by
  obtain ⟨ty,fz,h⟩:=qt0 (g:=2) (k:=.u64) (L:=Lib.pow10Tab) hg hgl (by rw [<- qn9]; rfl);exact (Array.getElem?_eq_some_iff.1 h).1
 have hl0:0 < w.heap.size:=(Array.getElem?_eq_some_iff.1 hleaf).1;have a0:∀ c,Below w.heap.size w (w.alloc (.cells c 46)):=fun c=>(Below.refl _ w).alloc (jf5 _) _
 have hvc:∀ c,Calls Tryz.prog 26 #[.slice ra t.length rcap,.int .i64 16384] (w.alloc (.cells c 46)) fun e w'=>e = .returned (.bool (qbn t 16384))/\Below (w.alloc (.cells c 46)).heap.size (w.alloc (.cells c 46)) w':=fun c=>by
  refine (hval.raw (hg.below (a0 c)) hgl (rargs:=#[.slice ra t.length rcap,.int .i64 16384]) rfl fun i hi=>?_).mono ?_
  ·match i,hi with
   | 0,_=>exact r0
   | 1,_=>exact .int _ _
  ·rintro e w' ⟨rv,G',rfl,hr,hb⟩;rw [qbr hr];exact ⟨rfl,hb⟩
 cases hB:qbn t 16384 with
 | false=>
  rw [hB] at hvc;clear hv hleaf htab hval r0 hcell
  go_enter Tryz.func23,Tryz.ntmps23
  go_wp2_with (go_at_call 26; refine (hvc _).mono ?_)
  rintro e w1 ⟨rfl,b1⟩
  go_wp2
  go_ret
  exact ⟨_,rfl,.str _,(a0 _).trans (b1.mono (by simp))⟩
 | true=>
  rw [hB] at hvc;obtain ⟨hrp,hlim⟩:=hv hB
  have htn:t ≠ []:=fun h=>by
   subst h
   cases d with
   | lf=>simp [Rp] at hrp
   | nd i z o=>obtain ⟨p,q,h,-⟩:=hrp; simp at h
  obtain ⟨rb,ro,rfl,hrb,hcells⟩:=hcell htn;clear hcell hv hval r0
  go_enter Tryz.func23,Tryz.ntmps23
  go_wp2_with (go_at_call 26; refine (hvc _).mono ?_)
  rintro e w1 ⟨rfl,b1⟩
  have c1:w1.cell? ⟨w.heap.size,0,none⟩ = some (.slice (some ⟨rb,ro,none⟩) t.length rcap):=by
   rw [b1.cell (by simp)];simp
  obtain ⟨s0,s1⟩:=(qv4 w1 .nilFunc).1;obtain ⟨H1,H3,H4,H5⟩:=qv4 w1 (.func (.func 67) #[] #[.pointer (some ⟨w.heap.size,0,none⟩),.pointer (some ⟨w1.heap.size,0,none⟩),.pointer (some ⟨w1.heap.size + 1,0,none⟩)]);have B1:Below w.heap.size w w1:=(a0 _).trans (b1.mono (by simp));have hk1:w.heap.size < w1.heap.size:=by have:=b1.size; simp at this; omega
  have E1:w1.heap[w.heap.size]? = some (.cells #[.slice (some ⟨rb,ro,none⟩) t.length rcap] 46 (0,0)):=by
   rw [b1.block _ (by simp)];show (w.heap.push _)[w.heap.size]? = _;rw [Array.getElem?_push_size]
  have oc:∀ p:Addr,p.block < w.heap.size->(((w1.alloc (.cells #[.pointer none,.slice none 0 0] 127)).alloc (.cells #[.func (.func 67) #[] #[.pointer (some ⟨w.heap.size,0,none⟩),.pointer (some ⟨w1.heap.size,0,none⟩),.pointer (some ⟨w1.heap.size + 1,0,none⟩)]] 122))).cell? p = w.cell? p:=fun p hp=>(H5.cell (by omega)).trans (B1.cell hp)
  have T:TxW t.length rb ro rcap w.heap.size w1.heap.size (w1.heap.size + 1) (tF t) ((w1.alloc (.cells #[.pointer none,.slice none 0 0] 127)).alloc (.cells #[.func (.func 67) #[] #[.pointer (some ⟨w.heap.size,0,none⟩),.pointer (some ⟨w1.heap.size,0,none⟩),.pointer (some ⟨w1.heap.size + 1,0,none⟩)]] 122)):=by
   refine ⟨by rw [H5.block _ hk1]; exact E1,H3,?_,fun i hi=>?_,?_,hrb,?_,hk1,by omega,?_⟩
   ·rw [oc _ hl0,oc _ hl0,oc _ hl0];exact ⟨by rw [Lib.cell_of_heap hleaf]; rfl,by rw [Lib.cell_of_heap hleaf]; rfl,by rw [Lib.cell_of_heap hleaf]; rfl⟩
   ·rw [oc _ hrb,oc _ hrb,oc _ hrb];exact hcells i hi
   ·unfold Lib.TabIs World.var? at htab ⊢;rw [show Tryz.prog.globalNamed "internal/strconv.uint64pow10" = some 2 by kernel_rfl] at htab ⊢;simp only [Option.bind_some] at htab ⊢;rw [H5.block 2 (by omega),B1.block 2 h2k];exact htab
   ·exact h2k
   ·have:=(Array.getElem?_eq_some_iff.1 H3).1;exact this
  have hb0:Lib.IsBuilderF 127 5 w.heap.size w1.heap.size (Lib.byteCells []) ((w1.alloc (.cells #[.pointer none,.slice none 0 0] 127)).alloc (.cells #[.func (.func 67) #[] #[.pointer (some ⟨w.heap.size,0,none⟩),.pointer (some ⟨w1.heap.size,0,none⟩),.pointer (some ⟨w1.heap.size + 1,0,none⟩)]] 122)):=
   .inl ⟨by omega,.slice none 0 0,H4,⟨rfl,.inl ⟨rfl,rfl⟩⟩,by simp [Value.ownBlock]⟩
  have hcall:=jdt t d 0 hrp hlim [] _ T hb0 (by simpa using hl);rw [show ((0:Nat):Int) = 0 from rfl,List.nil_append] at hcall;have hs5:=H5.size;obtain ⟨s2,s3⟩:=H1;clear T hb0 oc E1 H3 H4 htab hleaf hvc a0 hcells
  go_wp2_with (go_at_call 67; refine hcall.mono ?_)
  rintro e w3 ⟨rfl,h3,b3,o3⟩;have hS:=Any.Builder_String_any_k q09 extB w.heap.size w1.heap.size d.tx w3 h3 (by have:=b3.size; omega)
  go_wp2_with (go_at_call 71; refine (show Calls Tryz.prog 71 #[.pointer (some ⟨w1.heap.size,0,none⟩)] w3 _ from hS).mono ?_)
  rintro e w4 ⟨rfl,-,b4,-⟩
  go_wp2
  go_ret
  exact ⟨_,rfl,.str _,(B1.trans (H5.mono (by omega))).trans (b3.trans b4)⟩
end
section
open Go
theorem q45 (s:List UInt8) (c:UInt8):qac Tryz.prog gl0 201 [.str s,.str [c]] (.bool (decide (s.head? = some c))):=by
 refine jfu 2 jb5 rfl ?_
 cases s with
 | nil=>simp [jac,jd3]
 | cons a r=>
  have e:(1:Int)≤(r.length:Int) + 1:=by omega
  simp [jac,jd3,e]
theorem q4g (s:List UInt8) (c:UInt8):qac Tryz.prog gl0 144 [.str s,.str [c]] (.tup [.str (if s.head? = some c then s.tail else s),.bool (decide (s.head? = some c))]):=by
 have h1:=q45 s c
 have h2:qac Tryz.prog gl0 177 [.str s,.str [c]] (.tup [.str (if s.head? = some c then s.tail else s),.bool (decide (s.head? = some c))]):=by
  refine jfu 2 jbw rfl ?_;simp [i177,x177];refine jfq h1 (by simp) ?_
  cases s with
  | nil=>simp
  | cons a r=>by_cases e:a = c <;> simp [e]
 refine jfu 2 jbg rfl ?_;simp [i144,x144];refine jfq h2 (by simp) ?_;simp
theorem qzi {α:Type} (b:Nat) (x y:α) (l:List (Nat × α)) (k:Nat):lk ((b,x) :: (b,y) :: l) k = lk ((b,x) :: l) k:=by
 simp only [lk];split
 ·rfl
 ·rfl
theorem qvu {α:Type} {a c:List (Nat × α)} (h:∀ k,lk c k = lk a k):∀ {r:List (Nat × α)},Sub r a->Sub r c
 | [],_=>trivial
 | (k,v) :: r,⟨h1,h2⟩=>⟨by rw [h]; exact h1,qvu h h2⟩
theorem q63 (b g:Nat) (s:List UInt8) (c:UInt8) (o:V) (r:Hp) (hr:∀ X,Sub r ((b,X) :: r)) (K:V->Hp->Prop)
  (hk:K (.bool (decide (s.head? = some c))) ((b,.row g 2 [.agg [.str (if s.head? = some c then s.tail else s),o]]) :: r)):qan Tryz.prog gl0 105 [.ptr b g 0 0,.str [c]] ((b,.row g 2 [.agg [.str s,o]]) :: r) K:=by
 have h1:=q4g s c;refine jfx jas rfl ?_;simp [i105,x105,nop];refine jfq h1 (by simp) ?_;simp [nop];refine .done ?_;simp;refine ⟨(b,_) :: r,⟨by simp,qvu (qzi b _ _ r) (hr _)⟩,hk⟩
theorem q4l {s:List UInt8} {j:Nat} (h:j < (dgt s).length):∃ hj:j < s.length,j < 6/\48≤s[j].toNat/\s[j].toNat≤57:=by
 have h6:=qin s;have hj:j < s.length:=by omega
 refine ⟨hj,by omega,?_⟩
 have h1:(dgt s)[j] = s[j]:=by
  have:=qlb s;have h2:(s.take (dgt s).length)[j]'(by rw [List.length_take]; omega) = (dgt s)[j]:=by simp only [this]
  rw [<- h2,List.getElem_take]
 have h2:=qtg s _ (jf3 h);rw [h1] at h2;unfold dgB at h2;simpa using h2
theorem qgu {α:Type} (p:α->Bool):∀ (l:List α) (h:(l.takeWhile p).length < l.length),p l[(l.takeWhile p).length] = false
 | [],h=>by simp at h
 | a :: l,h=>by
  cases ha:p a with
  | false=>simp [List.takeWhile_cons,ha]
  | true=>
   simp only [List.takeWhile_cons,ha,if_true,List.length_cons] at h ⊢;simpa using qgu p l (by omega)
theorem q0u {s:List UInt8} (h1:(dgt s).length < s.length) (h2:(dgt s).length < 6):¬ (48≤s[(dgt s).length].toNat/\s[(dgt s).length].toNat≤57):=by
 have hl:(dgt s).length < (s.take 6).length:=by rw [List.length_take]; omega
 have:=qgu dgB (s.take 6) hl;have e:(s.take 6)[((s.take 6).takeWhile dgB).length]'hl = s[(dgt s).length]:=List.getElem_take;rw [e] at this;unfold dgB at this;intro hc;simp [hc.1,hc.2] at this
theorem qkk:∀ (l:List UInt8) (acc n:Nat),Lib.decFrom acc l = some n->n < (acc + 1) * 10 ^ l.length
 | [],acc,n,h=>by simp [Lib.decFrom] at h; subst h; simp
 | b :: r,acc,n,h=>by
  simp only [Lib.decFrom] at h
  cases hd:Lib.digitVal b with
  | none=>rw [hd] at h; cases h
  | some d=>
   rw [hd] at h
   have h9:d≤9:=by
    unfold Lib.digitVal at hd;split at hd
    ·cases hd; omega
    ·cases hd
   have:=qkk r _ _ h;rw [List.length_cons,Nat.pow_succ];have h2:(acc * 10 + d + 1) * 10 ^ r.length≤((acc + 1) * 10) * 10 ^ r.length:=Nat.mul_le_mul_right _ (by omega);have h3:((acc + 1) * 10) * 10 ^ r.length = (acc + 1) * (10 ^ r.length * 10):=by rw [Nat.mul_assoc,Nat.mul_comm 10]
   omega
theorem qtd {s:List UInt8} {n:Nat} (h:Lib.decNat (dgt s) = some n):n < 1000000:=by
 unfold Lib.decNat at h;split at h
 ·cases h
 ·have h1:=qkk _ _ _ h;have h2:=(qin s).1;have h3:10 ^ (dgt s).length≤10 ^ 6:=Nat.pow_le_pow_right (by omega) h2;simp at h1 h3;omega
noncomputable def q86:XC:=xs2 (xs2 (xs2 qwq))
theorem q2k:qwq = .seq (xs1 qwq) (.seq (xs1 (xs2 qwq)) (.seq (xs1 (xs2 (xs2 qwq))) q86)):=rfl
set_option maxRecDepth 100000 in
theorem q6r (b g:Nat) (s:List UInt8) (hs:s.length < 1000000000) (o:V) (r:Hp) (hr:∀ X,Sub r ((b,X) :: r)) (K:V->Hp->Prop)
  (k1:∀ n:Nat,qi6 s = some n->K (.tup [qab n,.bool true]) ((b,.row g 2 [.agg [.str (s.drop (dgt s).length),o]]) :: r))
  (k0:qi6 s = none->∀ n:Int,K (.tup [.int .i64 n,.bool false]) ((b,.row g 2 [.agg [.str (s.drop (dgt s).length),o]]) :: r))
  (fr:Fr) (h0:lk fr 0 = some (.ptr b g 0 0)) (h4:lk fr 4 = some (qab (dgt s).length)):q86.wpF Tryz.prog gl0 (qmj [.tmp 2,.tmp 3] K) fr ((b,.row g 2 [.agg [.str s,o]]) :: r):=by
 have hd6:=qin s;have htk:=qlb s;simp only [qab] at h4;have hat:=qww s;have hdt:List.take (s.length - (dgt s).length) (List.drop (dgt s).length s) = List.drop (dgt s).length s:=jf2 (by simp);have hsub:∀ X,Sub ((b,X) :: r) ((b,X) :: (b,.row g 2 [.agg [.str s,o]]) :: r):=fun X=>⟨by simp,qvu (qzi b _ _ r) (hr _)⟩
 cases hn:Lib.decNat (dgt s) with
 | none=>
  rw [hn] at hat;have h1:=qz6 (dgt s) (by omega) hat;have hP:qi6 s = none:=by unfold qi6; rw [hn]
  simp [q86,xs2,qwq,h0,h4,nop,hd6.2,htk];refine jfq h1 (by simp) ?_;simp [h0,h4,nop];refine ⟨by decide,hd6.2,.done ?_⟩;simp [hdt];exact ⟨_,hsub _,k0 hP 0⟩
 | some n=>
  rw [hn] at hat;have h1:=qz7 (dgt s) n (by omega) hat;have hnb:=qtd hn;have h2:=q5c n hnb;simp only [qab] at h2;simp [q86,xs2,qwq,h0,h4,nop,hd6.2,htk];refine jfq h1 (by simp) ?_;simp [h0,h4,nop];intro gm
  first | refine ⟨_,_,_,.pure h2 (by simp),?_⟩ | refine ⟨_,⟨_,_,.pure h2 (by simp)⟩,?_⟩ | refine ⟨_,_,⟨_,.pure h2 (by simp)⟩,?_⟩
  by_cases e:Lib.decDigits n = dgt s
  ·by_cases e2:n < 16384
   ·have hP:qi6 s = some n:=by unfold qi6; rw [hn]; simp only []; rw [if_pos ⟨e,e2⟩]
    have e3:(n:Int) < 16384:=by omega
    simp [h0,h4,nop,hd6.2,htk,e,e3];refine ⟨by first | rfl | simp [qe8,qwn,qgr,qoj],.done ?_⟩;simp [hdt];exact ⟨_,hsub _,k1 n hP⟩
   ·have hP:qi6 s = none:=by unfold qi6; rw [hn]; simp only []; rw [if_neg (by simp [e2])]
    have e3:¬ (n:Int) < 16384:=by omega
    simp [h0,h4,nop,hd6.2,htk,e,e3];refine ⟨by first | rfl | simp [qe8,qwn,qgr,qoj],.done ?_⟩;simp [hdt];exact ⟨_,hsub _,k0 hP n⟩
  ·have hP:qi6 s = none:=by unfold qi6; rw [hn]; simp only []; rw [if_neg (by simp [e])]
   simp [h0,h4,nop,hd6.2,htk,e];refine ⟨by first | rfl | simp [qe8,qwn,qgr,qoj],.done ?_⟩;simp [hdt];exact ⟨_,hsub _,k0 hP n⟩
set_option maxRecDepth 100000 in
theorem qxz (b g:Nat) (s:List UInt8) (hs:s.length < 1000000000) (o:V) (r:Hp) (hr:∀ X,Sub r ((b,X) :: r)) (K:V->Hp->Prop)
  (k1:∀ n:Nat,qi6 s = some n->K (.tup [qab n,.bool true]) ((b,.row g 2 [.agg [.str (s.drop (dgt s).length),o]]) :: r))
  (k0:qi6 s = none->∀ n:Int,K (.tup [.int .i64 n,.bool false]) ((b,.row g 2 [.agg [.str (s.drop (dgt s).length),o]]) :: r)):qan Tryz.prog gl0 106 [.ptr b g 0 0] ((b,.row g 2 [.agg [.str s,o]]) :: r) K:=by
 have hd6:=qin s;have tail:=fun fr h0 h4=>q6r b g s hs o r hr K k1 k0 fr h0 h4;have hend:=fun h1 h2=>q0u (s:=s) h1 h2;have hat:=fun j h=>q4l (s:=s) (j:=j) h;generalize (dgt s).length = D at hd6 tail hend hat;refine jfx jat rfl ?_;change qwq.wpF _ _ _ _ _;rw [q2k];simp [i106,xs1,xs2,qwq,nop];refine jft (X:=Nat) (fun j=>[(4,qab j),(0,.ptr b g 0 0)]) (fun _=>(b,.row g 2 [.agg [.str s,o]]) :: r) (fun j=>j≤D) (fun j=>D - j) 0 (Nat.zero_le _) (by simp [qab]) ⟨by simp,hr _⟩ ?_;intro j hj;by_cases hjD:j < D
 ·obtain ⟨h1,h2,h3,h4⟩:=hat j hjD;have h2':(j:Int) < 6:=by omega
  have hw:=qbi j (by omega);simp [qab,nop,h1,h2,h2',h3,h4,hw];exact ⟨j + 1,hjD,by simp,hr _,by omega⟩
 ·obtain rfl:j = D:=by omega
  by_cases c1:j < s.length
  ·by_cases c2:(j:Int) < 6
   ·have he:=hend c1 (by omega);by_cases c3:48≤s[j].toNat
    ·have c4:¬ s[j].toNat≤57:=fun h=>he ⟨c3,h⟩;simp [qab,nop,c1,c2,c3,c4];exact tail _ (by simp) (by simp [qab])
    ·simp [qab,nop,c1,c2,c3];exact tail _ (by simp) (by simp [qab])
   ·simp [qab,nop,c1,c2];exact tail _ (by simp) (by simp [qab])
  ·simp [qab,nop,c1];exact tail _ (by simp) (by simp [qab])
end
end Go.Proofs.YtpaopccohkldlaaGreatDoor
