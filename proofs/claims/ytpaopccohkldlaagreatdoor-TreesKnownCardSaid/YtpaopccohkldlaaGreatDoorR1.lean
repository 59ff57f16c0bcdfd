/- Lemmas. Conditions: none. -/
import Derived.Test.YtpaopccohkldlaaGreatDoorY3
import Derived.Lib.ItoaNum
import Derived.Lib.Atoi
import Derived.Test.YtpaopccohkldlaaGreatDoorNet2
import Derived.Test.YtpaopccohkldlaaGreatDoorBase19
import Derived.Shelf.Strconv.AtoiAll
import Derived.Shelf.Strconv.AtoiErr
import Derived.Shelf.Strconv.Itoa4
set_option linter.all false
namespace Go.Proofs.YtpaopccohkldlaaGreatDoor
section
open Go
def xs1:XC->XC
 | .seq a _=>a
 | c=>c
def xs2:XC->XC
 | .seq _ b=>b
 | c=>c
def dgB (b:UInt8):Bool:=decide (48≤b.toNat) && decide (b.toNat≤57)
theorem qtf {b:UInt8} (h:dgB b = true):Lib.digitVal b = some (b.toNat - 48):=by
 unfold dgB at h;simp only [Bool.and_eq_true,decide_eq_true_eq] at h;unfold Lib.digitVal;rw [if_pos h]
theorem qov (l:List UInt8) (b:UInt8) (hb:dgB b = true):∀ (acc n:Nat),Lib.decFrom acc l = some n->Lib.decFrom acc (l ++ [b]) = some (n * 10 + (b.toNat - 48)):=by
 induction l with
 | nil=>intro acc n h; simp [Lib.decFrom] at h; subst h; simp [Lib.decFrom,qtf hb]
 | cons a r ih=>
  intro acc n h;simp only [List.cons_append,Lib.decFrom] at h ⊢
  cases hd:Lib.digitVal a with
  | none=>rw [hd] at h; cases h
  | some d=>rw [hd] at h; exact ih _ _ h
theorem qm2 (n:Nat):Lib.decDigits n ≠ []:=by
 rw [Lib.decDigits]; split <;> simp
theorem qrj {k:Nat} (h:k < 10):(UInt8.ofNat (48 + k)).toNat = 48 + k:=by
 rw [UInt8.toNat_ofNat_of_lt' (by show 48 + k < 256; omega)]
theorem qk9 (n:Nat):∀ b ∈ Lib.decDigits n,dgB b = true:=by
 induction n using Nat.strongRecOn with
 | _ n ih=>
  intro b hb;rw [Lib.decDigits] at hb;split at hb
  ·obtain rfl:=List.mem_singleton.1 hb;unfold dgB; rw [qrj (by omega)]; simp; omega
  ·rcases List.mem_append.1 hb with h | h
   ·exact ih (n / 10) (by omega) b h
   ·obtain rfl:=List.mem_singleton.1 h;unfold dgB; rw [qrj (by omega)]; simp; omega
theorem qj0 (n:Nat):Lib.decFrom 0 (Lib.decDigits n) = some n:=by
 induction n using Nat.strongRecOn with
 | _ n ih=>
  rw [Lib.decDigits];split
  ·rename_i h;have hb:dgB (UInt8.ofNat (48 + n)) = true:=by unfold dgB; rw [qrj h]; simp; omega
   simp only [Lib.decFrom,qtf hb];rw [qrj h];congr 1; omega
  ·rename_i h;have hb:dgB (UInt8.ofNat (48 + n % 10)) = true:=by unfold dgB; rw [qrj (by omega)]; simp; omega
   rw [qov _ _ hb 0 (n / 10) (ih (n / 10) (by omega)),qrj (by omega)];congr 1; omega
theorem qla (n:Nat):Lib.decNat (Lib.decDigits n) = some n:=by
 unfold Lib.decNat;rw [if_neg (by simpa using qm2 n)];exact qj0 n
theorem qep:∀ (k n:Nat),n < 10 ^ (k + 1)->(Lib.decDigits n).length≤k + 1
 | 0,n,h=>by rw [Lib.decDigits,dif_pos (by simpa using h)]; simp
 | k + 1,n,h=>by
  rw [Lib.decDigits];split
  ·simp
  ·have:=qep k (n / 10) (by rw [Nat.pow_succ] at h; omega);simp; omega
def dgt (s:List UInt8):List UInt8:=(s.take 6).takeWhile dgB
theorem qtg (s:List UInt8):∀ b ∈ dgt s,dgB b = true:=fun b hb=>by
 have:=List.all_takeWhile (l:=s.take 6) (p:=dgB);rw [List.all_eq_true] at this;exact this b hb
theorem qin (s:List UInt8):(dgt s).length≤6/\(dgt s).length≤s.length:=by
 have h1:(dgt s).length≤(s.take 6).length:=(List.takeWhile_prefix _).length_le;rw [List.length_take] at h1;omega
theorem qlb (s:List UInt8):s.take (dgt s).length = dgt s:=by
 have h1:dgt s <+: s.take 6:=List.takeWhile_prefix _;have h2:dgt s <+: s:=h1.trans (List.take_prefix _ _);exact (List.prefix_iff_eq_take.1 h2).symm
theorem qgt {α:Type} (p:α->Bool):∀ (l:List α) (x:α) (r:List α),(∀ y ∈ l,p y = true)->p x = false->(l ++ x :: r).takeWhile p = l
 | [],x,r,_,hx=>by simp [hx]
 | a :: l,x,r,h,hx=>by
  rw [List.cons_append,List.takeWhile_cons,h a List.mem_cons_self];simp only [if_true];rw [qgt p l x r (fun y hy=>h y (List.mem_cons_of_mem _ hy)) hx]
theorem q0t {l:List UInt8} {x:UInt8} {r:List UInt8} (hl:∀ y ∈ l,dgB y = true) (hx:dgB x = false) (h6:l.length < 6):dgt (l ++ x :: r) = l:=by
 unfold dgt;rw [List.take_append,jf2 (by omega)];obtain ⟨k,hk⟩:∃ k,6 - l.length = k + 1:=⟨5 - l.length,by omega⟩;rw [hk,List.take_succ_cons];exact qgt dgB l x _ hl hx
theorem qww (s:List UInt8):Lib.atoi (dgt s) = (Lib.decNat (dgt s)).map fun n:Nat=>(n:Int):=by
 have h:=qtg s
 cases hd:dgt s with
 | nil=>rfl
 | cons b r=>
  rw [hd] at h;have hb:=h b List.mem_cons_self;unfold dgB at hb;simp only [Bool.and_eq_true,decide_eq_true_eq] at hb
  have e1:(b == 45) = false:=by
   rw [beq_eq_false_iff_ne]; rintro rfl; simp at hb
  have e2:(b == 43) = false:=by
   rw [beq_eq_false_iff_ne]; rintro rfl; simp at hb
  simp only [Lib.atoi,e1,e2,Bool.false_eq_true,if_false]
def qi6 (s:List UInt8):Option Nat:=match Lib.decNat (dgt s) with
 | some n=>if Lib.decDigits n = dgt s/\n < 16384 then some n else none
 | none=>none
theorem qxy {n:Nat} (hn:n < 16384) (r:List UInt8):qi6 (Lib.decDigits n ++ 32 :: r) = some n/\dgt (Lib.decDigits n ++ 32 :: r) = Lib.decDigits n:=by
 have hl:=qep 4 n (by simp; omega);have hd:dgt (Lib.decDigits n ++ 32 :: r) = Lib.decDigits n:=q0t (qk9 n) (by decide) (by omega);refine ⟨?_,hd⟩;unfold qi6;rw [hd,qla];simp only [];rw [if_pos ⟨trivial,hn⟩]
theorem qus {s:List UInt8} {n:Nat} (h:qi6 s = some n):n < 16384/\s = Lib.decDigits n ++ s.drop (dgt s).length:=by
 unfold qi6 at h;split at h
 ·split at h
  ·rename_i m hm hc;cases h;refine ⟨hc.2,?_⟩;rw [hc.1]
   conv=>lhs; rw [<- List.take_append_drop (dgt s).length s]
   rw [qlb]
  ·cases h
 ·cases h
def DT.tx:DT->List UInt8
 | .lf=>[46]
 | .nd i z o=>40 :: (Lib.decDigits i ++ 32 :: (z.tx ++ 32 :: (o.tx ++ [41])))
def DT.lim:DT->Prop
 | .lf=>True
 | .nd i z o=>i < 16384/\z.lim/\o.lim
theorem DT.ok_lim:∀ (d:DT) {b:Nat} {us:List Nat},b≤16384->d.ok b us->d.lim
 | .lf,_,_,_,_=>trivial
 | .nd _ z o,_,_,hb,⟨h1,_,h3,h4⟩=>⟨by omega,z.ok_lim hb h3,o.ok_lim hb h4⟩
def prs:Nat->List UInt8->Option (DT × List UInt8)
 | 0,_=>none
 | k + 1,s=>match s with
  | []=>none
  | c :: r=>if c = 46 then some (.lf,r) else if c = 40 then
    match qi6 r with
    | none=>none
    | some n=>match r.drop (dgt r).length with
     | []=>none
     | c1 :: r1=>if c1 = 32 then
      match prs k r1 with
      | none=>none
      | some (z,r2)=>match r2 with
       | []=>none
       | c2 :: r3=>if c2 = 32 then
        match prs k r3 with
        | none=>none
        | some (o,r4)=>match r4 with
         | []=>none
         | c3 :: r5=>if c3 = 41 then some (.nd n z o,r5) else none
       else none
      else none
   else none
theorem qu2:∀ (d:DT) (k:Nat) (r:List UInt8),d.lim->d.sz≤k->prs k (d.tx ++ r) = some (d,r)
 | .lf,0,_,_,h=>by simp [DT.sz] at h
 | .lf,k + 1,r,_,_=>by simp [DT.tx,prs]
 | .nd i z o,0,_,_,h=>by simp [DT.sz] at h
 | .nd i z o,k + 1,r,⟨h1,h2,h3⟩,h=>by
  simp only [DT.sz] at h;have e:(DT.nd i z o).tx ++ r = 40 :: (Lib.decDigits i ++ 32 :: (z.tx ++ 32 :: (o.tx ++ 41 :: r))):=by simp [DT.tx]
  obtain ⟨n1,n2⟩:=qxy h1 (z.tx ++ 32 :: (o.tx ++ 41 :: r));have hz:=z.sz_pos;have ho:=o.sz_pos;rw [e];unfold prs;simp only [];rw [if_neg (by decide)];simp only [if_true,n1,n2,List.drop_left,qu2 z k _ h2 (by omega),qu2 o k _ h3 (by omega)]
theorem qfm:∀ (k:Nat) (s:List UInt8) (d:DT) (r:List UInt8),prs k s = some (d,r)->s = d.tx ++ r/\d.lim
 | 0,_,_,_,h=>by simp [prs] at h
 | k + 1,s,d,r,h=>by
  unfold prs at h;split at h
  ·cases h
  ·rename_i c r0;split at h
   ·rename_i hc; cases h; subst hc; exact ⟨rfl,trivial⟩
   split at h
   ·rename_i hc;subst hc;split at h
    ·cases h
    rename_i n hn;obtain ⟨n1,n2⟩:=qus hn;split at h
    ·cases h
    rename_i c1 r1 hd;split at h
    rotate_left
    ·cases h
    rename_i hc1;subst hc1;split at h
    ·cases h
    rename_i z r2 hz;obtain ⟨z1,z2⟩:=qfm k _ _ _ hz;split at h
    ·cases h
    rename_i c2 r3;split at h
    rotate_left
    ·cases h
    rename_i hc2;subst hc2;split at h
    ·cases h
    rename_i o r4 ho;obtain ⟨o1,o2⟩:=qfm k _ _ _ ho;split at h
    ·cases h
    rename_i c3 r5;split at h
    rotate_left
    ·cases h
    rename_i hc3;subst hc3;cases h;refine ⟨?_,n1,z2,o2⟩;rw [n2,hd,z1,o1];simp [DT.tx]
   ·cases h
theorem DT.sz_tx:∀ d:DT,d.sz≤d.tx.length
 | .lf=>by simp [DT.sz,DT.tx]
 | .nd i z o=>by
  have:=z.sz_tx;have:=o.sz_tx;simp [DT.sz,DT.tx]; omega
end
section
open Go Go.Shelf Go.RowKit
set_option maxRecDepth 100000
def q11:Ren:=⟨fun x=>match x with | 172=>145 | 244=>178 | 245=>179 | 247=>202 | 279=>203 | 280=>204 | 281=>205 | 282=>206 | 287=>225 | 316=>226 | 171=>70 | 205=>227 | 321=>236 | 322=>237 | 243=>104 | 246=>143 | 283=>173 | 284=>174 | 285=>175 | 286=>176 | 129=>197 | 317=>196 | 318=>198 | 319=>199 | 320=>200 | 337=>223 | 338=>224 | n=>n,fun x=>match x with | 9=>9 | 3=>3 | 75=>129 | 76=>131 | 4=>4 | 5=>5 | 167=>292 | 37=>25 | 0=>0 | 85=>293 | 2=>2 | 168=>295 | 53=>78 | 175=>315 | 46=>148 | 210=>319 | 127=>183 | 145=>332 | 143=>330 | 21=>21 | 171=>263 | 173=>266 | 212=>288 | 51=>232 | 20=>20 | 213=>289 | 232=>327 | 233=>328 | 80=>134 | n=>n,fun x=>match x with | 15=>5 | 16=>6 | 17=>2 | 18=>7 | 19=>8 | n=>n⟩
theorem qo3:LaysC.n172 Tryz.prog q11 where
 mixed:=by kernel_rfl
 f129:=by kernel_rfl
 f171:=by kernel_rfl
 f172:=by kernel_rfl
 f205:=by kernel_rfl
 f243:=by kernel_rfl
 f244:=by kernel_rfl
 f245:=by kernel_rfl
 f246:=by kernel_rfl
 f247:=by kernel_rfl
 f279:=by kernel_rfl
 f280:=by kernel_rfl
 f281:=by kernel_rfl
 f282:=by kernel_rfl
 f283:=by kernel_rfl
 f284:=by kernel_rfl
 f285:=by kernel_rfl
 f286:=by kernel_rfl
 f287:=by kernel_rfl
 f316:=by kernel_rfl
 f317:=by kernel_rfl
 f318:=by kernel_rfl
 f319:=by kernel_rfl
 f320:=by kernel_rfl
 f321:=by kernel_rfl
 f322:=by kernel_rfl
 f337:=by kernel_rfl
 f338:=by kernel_rfl
 t0:=by kernel_rfl
 a0:=fun w=>by kernel_rfl
 z0:=fun w=>by kernel_rfl
 v0:=fun w=>by kernel_rfl
 t2:=by kernel_rfl
 a2:=fun w=>by kernel_rfl
 z2:=fun w=>by kernel_rfl
 v2:=fun w=>by kernel_rfl
 t3:=by kernel_rfl
 a3:=fun w=>by kernel_rfl
 z3:=fun w=>by kernel_rfl
 v3:=fun w=>by kernel_rfl
 t4:=by kernel_rfl
 a4:=fun w=>by kernel_rfl
 z4:=fun w=>by kernel_rfl
 v4:=fun w=>by kernel_rfl
 t5:=by kernel_rfl
 a5:=fun w=>by kernel_rfl
 z5:=fun w=>by kernel_rfl
 v5:=fun w=>by kernel_rfl
 t9:=by kernel_rfl
 a9:=fun w=>by kernel_rfl
 z9:=fun w=>by kernel_rfl
 v9:=fun w=>by kernel_rfl
 t20:=by kernel_rfl
 a20:=fun w=>by kernel_rfl
 z20:=fun w=>by kernel_rfl
 v20:=fun w=>by kernel_rfl
 t21:=by kernel_rfl
 a21:=fun w=>by kernel_rfl
 z21:=fun w=>by kernel_rfl
 v21:=fun w=>by kernel_rfl
 t37:=by kernel_rfl
 a37:=fun w=>by kernel_rfl
 z37:=fun w=>by kernel_rfl
 v37:=fun w=>by kernel_rfl
 t46:=by kernel_rfl
 a46:=fun w=>by kernel_rfl
 z46:=fun w=>by kernel_rfl
 v46:=fun w=>by kernel_rfl
 t51:=by kernel_rfl
 a51:=fun w=>by kernel_rfl
 z51:=fun w=>by kernel_rfl
 v51:=fun w=>by kernel_rfl
 t53:=by kernel_rfl
 a53:=fun w=>by kernel_rfl
 z53:=fun w=>by kernel_rfl
 v53:=fun w=>by kernel_rfl
 t75:=by kernel_rfl
 a75:=fun w=>by kernel_rfl
 z75:=fun w=>by kernel_rfl
 v75:=fun w=>by kernel_rfl
 t76:=by kernel_rfl
 a76:=fun w=>by kernel_rfl
 z76:=fun w=>by kernel_rfl
 v76:=fun w=>by kernel_rfl
 t85:=by kernel_rfl
 a85:=fun w=>by kernel_rfl
 z85:=fun w=>by kernel_rfl
 v85:=fun w=>by kernel_rfl
 t127:=by kernel_rfl
 a127:=fun w=>by kernel_rfl
 z127:=fun w=>by kernel_rfl
 v127:=fun w=>by kernel_rfl
 t143:=by kernel_rfl
 a143:=fun w=>by kernel_rfl
 z143:=fun w=>by kernel_rfl
 v143:=fun w=>by kernel_rfl
 t145:=by kernel_rfl
 a145:=fun w=>by kernel_rfl
 z145:=fun w=>by kernel_rfl
 v145:=fun w=>by kernel_rfl
 t167:=by kernel_rfl
 a167:=fun w=>by kernel_rfl
 z167:=fun w=>by kernel_rfl
 v167:=fun w=>by kernel_rfl
 t168:=by kernel_rfl
 a168:=fun w=>by kernel_rfl
 z168:=fun w=>by kernel_rfl
 v168:=fun w=>by kernel_rfl
 t171:=by kernel_rfl
 a171:=fun w=>by kernel_rfl
 z171:=fun w=>by kernel_rfl
 v171:=fun w=>by kernel_rfl
 t173:=by kernel_rfl
 a173:=fun w=>by kernel_rfl
 z173:=fun w=>by kernel_rfl
 v173:=fun w=>by kernel_rfl
 t175:=by kernel_rfl
 a175:=fun w=>by kernel_rfl
 z175:=fun w=>by kernel_rfl
 v175:=fun w=>by kernel_rfl
 t210:=by kernel_rfl
 a210:=fun w=>by kernel_rfl
 z210:=fun w=>by kernel_rfl
 v210:=fun w=>by kernel_rfl
 t212:=by kernel_rfl
 a212:=fun w=>by kernel_rfl
 z212:=fun w=>by kernel_rfl
 v212:=fun w=>by kernel_rfl
 t213:=by kernel_rfl
 a213:=fun w=>by kernel_rfl
 z213:=fun w=>by kernel_rfl
 t232:=by kernel_rfl
 a232:=fun w=>by kernel_rfl
 z232:=fun w=>by kernel_rfl
 v232:=fun w=>by kernel_rfl
 t233:=by kernel_rfl
 a233:=fun w=>by kernel_rfl
 z233:=fun w=>by kernel_rfl
 v233:=fun w=>by kernel_rfl
 g15:=by kernel_rfl
 g16:=by kernel_rfl
 g17:=by kernel_rfl
 g18:=by kernel_rfl
 g19:=by kernel_rfl
 t80:=by kernel_rfl
 a80:=fun w=>by kernel_rfl
 z80:=fun w=>by kernel_rfl
 v80:=fun w=>by kernel_rfl
 i0:=by kernel_rfl
 i2:=by kernel_rfl
 i3:=by kernel_rfl
 i4:=by kernel_rfl
 i5:=by kernel_rfl
 i9:=by kernel_rfl
 i20:=by kernel_rfl
 i21:=by kernel_rfl
 i37:=by kernel_rfl
 i46:=by kernel_rfl
 i51:=by kernel_rfl
 i53:=by kernel_rfl
 i75:=by kernel_rfl
 i76:=by kernel_rfl
 i80:=by kernel_rfl
 i85:=by kernel_rfl
 i127:=by kernel_rfl
 i143:=by kernel_rfl
 i145:=by kernel_rfl
 i167:=by kernel_rfl
 i168:=by kernel_rfl
 i171:=by kernel_rfl
 i173:=by kernel_rfl
 i175:=by kernel_rfl
 i210:=by kernel_rfl
 i212:=by kernel_rfl
 i232:=by kernel_rfl
 i233:=by kernel_rfl
 m15:=by kernel_rfl
 m16:=by kernel_rfl
 m17:=by kernel_rfl
 m18:=by kernel_rfl
 m19:=by kernel_rfl
 c0:=by kernel_rfl
 c2:=by kernel_rfl
 c3:=by kernel_rfl
 c4:=by kernel_rfl
 c5:=by kernel_rfl
 c9:=by kernel_rfl
 c20:=by kernel_rfl
 c21:=by kernel_rfl
 c37:=by kernel_rfl
 c46:=by kernel_rfl
 c51:=by kernel_rfl
 c53:=by kernel_rfl
 c75:=by kernel_rfl
 c76:=by kernel_rfl
 c80:=by kernel_rfl
 c85:=by kernel_rfl
 c127:=by kernel_rfl
 c143:=by kernel_rfl
 c145:=by kernel_rfl
 c167:=by kernel_rfl
 c168:=by kernel_rfl
 c171:=by kernel_rfl
 c173:=by kernel_rfl
 c175:=by kernel_rfl
 c210:=by kernel_rfl
 c212:=by kernel_rfl
 c213:=by kernel_rfl
 c232:=by kernel_rfl
 c233:=by kernel_rfl
theorem jep {P:Program} {gl:Fr} {f:FuncId} {args:List V} {res:V} (hcal:qbx P f = true) (h:∀ G w (rargs:Array Value),GIn G w->qdi G gl->rargs.size = args.length->(∀ i,i < args.length->qao G M0 (args.getD i .undef) (rargs.getD i undef))->
  Calls P f rargs w fun e w'=>∃ rv,e = .returned rv/\qao G M0 res rv/\Below w.heap.size w w'):qac P gl f args res:=by
 refine ⟨hcal,fun G w rargs hg hgl hsz hrel=>Calls.mono (h G w rargs hg hgl hsz hrel) ?_⟩;rintro e w' ⟨rv,rfl,hr,hb⟩;refine ⟨rv,G,rfl,hr,fun k cells hk=>?_,⟨G.le_refl,fun _ _ h=>.inl h,qa2.le_refl _,fun _ h=>.inr h,hb.os,hb.tape,hb.output,hb.size,fun k hk _=>hb.block k hk⟩⟩;obtain ⟨ty,fz,hw⟩:=hg k cells hk;exact ⟨ty,fz,by rw [hb.block k (Array.getElem?_eq_some_iff.1 hw).1]; exact hw⟩
theorem qlw {rargs:Array Value} {v:Value} (h1:rargs.size = 1) (h2:rargs.getD 0 undef = v):rargs = #[v]:=by
 apply Array.ext
 ·simpa using h1
 ·intro k h3 h4;obtain rfl:k = 0:=by omega
  rw [<- h2]; simp [jf1,h3]
theorem qn9:jdj = .agg (Lib.pow10Tab.map (V.int .u64)):=by
 have e:[1,10,100,1000,10000,100000,1000000,10000000,100000000,1000000000,10000000000,100000000000,1000000000000,10000000000000,100000000000000,1000000000000000,10000000000000000,100000000000000000,1000000000000000000,10000000000000000000] = Lib.pow10Tab:=by decide
 unfold jdj;rw [e]
theorem qt0 {G:qa9} {w:World} {g:Nat} {k:IntKind} {L:List Int} (hg:GIn G w) (hgl:qdi G gl0) (hl:lk gl0 g = some (.iptr (.agg (L.map (V.int k))) 0)):∃ ty fz,w.heap[g]? = some (.cells (L.map fun z=>Value.int k z).toArray ty fz):=by
 obtain ⟨-,h2,cs,h3,h4⟩:=hgl g _ hl;have hsz:=h4 _ _ rfl;obtain ⟨ty,fz,hw⟩:=hg g cs h3;refine ⟨ty,fz,?_⟩;rw [hw];congr 2;generalize hp:Value.pointer (some (⟨g,0,none⟩:Addr)) = pv at h2
 cases h2 with
 | iptr x off rb ro cells hG hb h ho=>
  simp only [Value.pointer.injEq,Option.some.injEq,Addr.mk.injEq] at hp;obtain ⟨rfl,h0,-⟩:=hp;obtain rfl:ro = 0:=by omega
  rw [h3] at hG;cases hG;simp only [V.cells,List.length_map] at hsz h;apply Array.ext
  ·simpa using hsz
  ·intro j h5 h6;have h7:j < L.length:=by omega
   have:=h j h7;rw [Nat.zero_add,jf0,List.getElem?_map,jf4 h7] at this;have h8:=qah this;rw [jf1,Array.getElem?_eq_getElem h5] at h8;simpa using h8
theorem qvx {G:qa9} {w:World} (hg:GIn G w) (hgl:qdi G gl0):Lib.TabIs Tryz.prog w "internal/strconv.uint64pow10" .u64 Lib.pow10Tab:=by
 obtain ⟨ty,fz,hw⟩:=qt0 (g:=2) (k:=.u64) (L:=Lib.pow10Tab) hg hgl (by rw [<- qn9]; rfl);unfold Lib.TabIs World.var?;rw [show Tryz.prog.globalNamed "internal/strconv.uint64pow10" = some 2 by kernel_rfl];simp only [Option.bind_some,hw]
theorem itoR (n:Nat) (hn:n < 1000000) (w:World) (htab:Lib.TabIs Tryz.prog w "internal/strconv.uint64pow10" .u64 Lib.pow10Tab) :
  Calls Tryz.prog 70 #[.int .i64 n] w fun e w'=>e = .returned (.string ⟨(Lib.decDigits n).toArray⟩)/\Below w.heap.size w w':=by
 have h:Calls Tryz.prog 70 #[.int .i64 n] w fun e w'=>e = .returned (.string ⟨(Lib.itoa n).toArray⟩)/\∃ k os,w' = Sort.grow (w.drewN k) os:=Any.strconv_Itoa (ρ:=q11) { qo3 with } n (by omega) (by omega) w htab;refine h.mono ?_;rintro e w' ⟨rfl,k,os,rfl⟩;have e1:Lib.itoa (n:Int) = Lib.decDigits n:=by unfold Lib.itoa; rw [if_neg (by omega)]; rfl
 rw [e1];refine ⟨rfl,rfl,rfl,rfl,?_,fun k hk=>?_⟩
 ·show w.heap.size≤(w.heap ++ os).size; simp
 ·show (w.heap ++ os)[k]? = _;rw [Array.getElem?_append_left hk]
theorem q5c (n:Nat) (hn:n < 1000000):qac Tryz.prog gl0 70 [qab n] (.str (Lib.decDigits n)):=by
 refine jep (by kernel_rfl) fun G w rargs hg hgl hsz hrel=>?_;obtain rfl:=qlw hsz (qah (hrel 0 (by simp)));refine (itoR n hn w (qvx hg hgl)).mono ?_;rintro e w' ⟨rfl,hb⟩;exact ⟨_,rfl,.str _,hb⟩
theorem qz7 (s:List UInt8) (n:Int) (hl:s.length≤18) (h:Lib.atoi s = some n):qac Tryz.prog gl0 145 [.str s] (.tup [.int .i64 n,.err true]):=by
 refine jep (by kernel_rfl) fun G w rargs hg hgl hsz hrel=>?_;obtain rfl:=qlw hsz (qa4 (hrel 0 (by simp)));have hc:Calls Tryz.prog 145 #[.string ⟨s.toArray⟩] w fun e w'=>e = .returned (.tuple #[.int .i64 n,.nilIface])/\∃ t,w' = Lib.bytesWorld w (q11.t 5) t:=Any.strconv_Atoi (ρ:=q11) { qo3 with } ⟨s.toArray⟩ n (by simpa [ByteArray.size] using hl) (by simpa using h) w;refine hc.mono ?_;rintro e w' ⟨rfl,t,rfl⟩;refine ⟨_,rfl,.tup _ _ rfl (fun i hi=>?_),Lib.bytesWorld_below w _ t⟩
 match i,hi with
 | 0,_=>exact .int _ _
 | 1,_=>exact .errnil
theorem qz6 (s:List UInt8) (hl:s.length≤18) (h:Lib.atoi s = none):qac Tryz.prog gl0 145 [.str s] (.tup [.int .i64 0,.err false]):=by
 refine jep (by kernel_rfl) fun G w rargs hg hgl hsz hrel=>?_;obtain rfl:=qlw hsz (qa4 (hrel 0 (by simp)))
 obtain ⟨te,pe,hv⟩:∃ te pe,w.cell? ⟨5,0,none⟩ = some (.iface te pe):=by
  obtain ⟨-,h2,cs,h3,h4⟩:=hgl 5 (.iptr (.err false) 0) rfl;obtain ⟨ty,fz,hw⟩:=hg 5 cs h3;generalize hp:Value.pointer (some (⟨5,0,none⟩:Addr)) = pv at h2
  cases h2 with
  | iptr x off rb ro cells hG hb h ho=>
   simp only [Value.pointer.injEq,Option.some.injEq,Addr.mk.injEq] at hp;obtain ⟨rfl,h0,-⟩:=hp;obtain rfl:ro = 0:=by omega
   rw [h3] at hG;cases hG;simp only [V.cells,List.length_cons,List.length_nil] at hb h;have h7:=h 0 (by omega);rw [List.getD_cons_zero,jf1,Array.getElem?_eq_getElem (by omega),Option.getD_some] at h7;generalize hx:cs[0] = x0 at h7
   cases h7 with
   | errsome te pe=>
    refine ⟨te,pe,?_⟩;rw [Lib.cell_of_heap hw,Array.getElem?_eq_getElem (by omega),hx]
 have hc:Calls Tryz.prog 145 #[.string ⟨s.toArray⟩] w fun e w'=>∃ N,e = .returned (.tuple #[.int .i64 (0),.iface (q11.t 168) (.pointer (some ⟨N,0,none⟩))])/\w.heap.size≤N/\w'.heap[N]? = some (.cells #[.string ⟨#[65,116,111,105]⟩,.string ⟨s.toArray⟩,.iface te pe] (q11.t 210) (0,0))/\Below w.heap.size w w':=
  Any.strconv_Atoi_err (ρ:=q11) qo3 ⟨s.toArray⟩ (by simpa [ByteArray.size] using hl) (by simpa using h) _ w hv (.inr ⟨te,pe,rfl⟩)
 refine hc.mono ?_;rintro e w' ⟨N,rfl,-,-,hb⟩;refine ⟨_,rfl,.tup _ _ rfl (fun i hi=>?_),hb⟩
 match i,hi with
 | 0,_=>exact .int _ _
 | 1,_=>exact .errsome _ _
end
end Go.Proofs.YtpaopccohkldlaaGreatDoor
