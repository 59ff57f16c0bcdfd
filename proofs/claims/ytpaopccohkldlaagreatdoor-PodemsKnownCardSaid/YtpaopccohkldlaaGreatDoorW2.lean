/- Lemmas. Conditions: none. -/
import Derived.Test.YtpaopccohkldlaaGreatDoorW0
import Derived.RecoverIn
import Derived.Test.YtpaopccohkldlaaGreatDoorV9
set_option linter.all false
namespace Go.Proofs.YtpaopccohkldlaaGreatDoor
section
open Go
section
variable {P:Program} {m:Nat} {ops:Array Oper} {Q:Exit->Act->List Frame->World->Prop} {i:Nat} {rest:List Nat} {a:Act} {cs:List Frame} {w w':World} {o:Oper} {v:Value}
theorem qoe (ho:ops[i]? = some o) (hg:o.guard = none) (hrun:(execOp a.eval o).run P w = .ok (.value v) w') (h:wpOpsSIn (FW none) m P ops Q rest (a.put o.dst v) cs w'):wpOpsSIn (FW none) m P ops Q (i :: rest) a cs w:=by
 simp only [wpOpsSIn,ho];refine ⟨fun _ _=>trivial,?_⟩;rw [if_pos (by simp [Region.wanted,hg]),hrun];exact h
theorem q3o {cs':List Frame} (ho:ops[i]? = some o) (hg:o.guard = none) (hrun:(execOp a.eval o).run P w = .ok .recover w') (hc:(recoverD cs = some (v,cs'))∨(recoverD cs = none/\v = .nilIface/\cs' = cs)) (h:wpOpsSIn (FW none) m P ops Q rest (a.put o.dst v) cs' w'):wpOpsSIn (FW none) m P ops Q (i :: rest) a cs w:=by
 simp only [wpOpsSIn,ho];refine ⟨fun _ _=>trivial,?_⟩;rw [if_pos (by simp [Region.wanted,hg]),hrun];rcases hc with e | ⟨e,rfl,rfl⟩
 ·simp only [e]; exact h
 ·simp only [e]; exact h
end
def qm0:Op->Bool
 | .move _ | .assign _ | .alloc _ | .build _ _ | .load _ _ | .store _ _ _ | .unOp _ _ _ | .extract _ _ | .fieldAddr _ _ _ | .nilCheck _ | .typeAssert _ _ _ _ | .box _ _=>true
 | _=>false
theorem nd_v {s:Sem Value} {P:Program} {w:World} {d:Deferred} {w':World} (h:(s >>= fun x=>(pure (Next.value x):Sem Next)).run P w = .ok (.defer d) w'):False:=by
 rw [Sem.run_bind] at h
 cases e:s.run P w with
 | ok a b=>rw [e] at h; simp [Result.andThen,Sem.run_pure] at h
 | halt a b=>rw [e] at h; simp [Result.andThen] at h
theorem nd_u {s:Sem Unit} {P:Program} {w:World} {d:Deferred} {w':World} (h:(s >>= fun _=>(pure Next.skip:Sem Next)).run P w = .ok (.defer d) w'):False:=by
 rw [Sem.run_bind] at h
 cases e:s.run P w with
 | ok a b=>rw [e] at h; simp [Result.andThen,Sem.run_pure] at h
 | halt a b=>rw [e] at h; simp [Result.andThen] at h
theorem jgf {α:Type} {s:Sem α} {k:α->Sem Next} {P:Program} (hk:∀ x w d w',(k x).run P w = .ok (.defer d) w'->False) {w:World} {d:Deferred} {w':World} (h:(s >>= k).run P w = .ok (.defer d) w'):False:=by
 rw [Sem.run_bind] at h
 cases e:s.run P w with
 | ok a b=>rw [e] at h; exact hk _ _ _ _ h
 | halt a b=>rw [e] at h; simp [Result.andThen] at h
theorem qvx {o:Oper} (hq:qm0 o.op = true) {ev:Operand->Value} {P:Program} {w:World} {d:Deferred} {w':World} (h:(execOp ev o).run P w = .ok (.defer d) w'):False:=by
 unfold execOp at h;cases e:o.op <;> rw [e] at hq h <;> first | (cases hq; done) | skip
 all_goals first
  | exact nd_v h
  | exact nd_u h
  | (simp [Sem.run_pure] at h; done)
  | skip
 simp only [] at h;split at h
 ·simp [runtimePanic] at h
 ·simp [runtimePanic] at h
 ·simp [runtimePanic] at h
 ·split at h
  ·simp [runtimePanic] at h
  ·refine jgf (fun x w d w' h=>jgf (fun y w d w' h=>?_) h) h;split at h
   ·exact jgf (fun _ _ _ _ h=>by simp [Sem.run_pure] at h) h
   ·first
     | (simp [Sem.run_pure] at h; done)
     | exact jgf (fun _ _ _ _ h=>by simp [Sem.run_pure] at h) h
  ·simp [Sem.run_pure] at h
 ·simp [Sem.run_pure] at h
section
variable {P:Program} {n:Nat} {gl:Fr} {bs:BS} {ops:Array Oper}
theorem jlu (a:Act) (dst:Option Nat) (v:Value):(a.put dst v).defers = a.defers:=by cases dst <;> rfl
theorem qt8 {Q Q':Exit->Act->World->Prop} {ds:List Deferred} (hQ:∀ e a' w',Q e a' w'->a'.defers = ds->Q' e a' w') (hq:∀ (i:Nat) (o:Oper),ops[i]? = some o->qm0 o.op = true) (hn:¬ LetsOut Q):∀ {l:List Nat} {a:Act} {w:World},a.defers = ds->wpOpsIn (FW none) 0 P ops Q l a w->wpOpsIn (FW none) 0 P ops Q' l a w
 | [],_,_,hd,h=>hQ _ _ _ h hd
 | i :: r,a,w,hd,h=>by
  rw [wpOpsIn_cons] at h ⊢;unfold wpOpIn at h ⊢
  cases ho:ops[i]? with
  | none=>rw [ho] at h; exact qt8 hQ hq hn hd h
  | some o=>
   rw [ho] at h;simp only [] at h ⊢;have ih:∀ v w',wpOpsIn (FW none) 0 P ops Q r (a.put o.dst v) w'->wpOpsIn (FW none) 0 P ops Q' r (a.put o.dst v) w':=fun v w' h=>qt8 hQ hq hn ((jlu _ _ _).trans hd) h;split at h
   ·rename_i hw;rw [if_pos hw];refine ⟨h.1,?_⟩;have h2:=h.2;have hnd:∀ d w',(execOp a.eval o).run P w = .ok (.defer d) w'->False:=fun d w'=>qvx (hq i o ho);change Oper.uponIn _ _ _ _ _ _ _ ((execOp a.eval o).run P w) at h2;change Oper.uponIn _ _ _ _ _ _ _ ((execOp a.eval o).run P w);generalize (execOp a.eval o).run P w = x at h2 hnd
    cases x with
    | ok x w'=>
     cases x <;> simp only [Oper.uponIn] at h2 ⊢ <;> first
      | exact ih _ _ h2
      | exact (hnd _ _ rfl).elim
      | exact h2.elim
      | exact ⟨h2.1,fun c cs hr=>let ⟨v,w',r,s⟩:=h2.2 c cs hr; ⟨v,w',ih _ _ r,s⟩⟩
      | exact ⟨h2.1,h2.2.mono fun e w'' he=>by
        cases e with
        | returned v=>exact ih _ _ he
        | panicked c=>exact hQ _ _ _ he hd
        | outgrown=>exact absurd he hn⟩
    | halt x w'=>cases x <;> simp only [Oper.uponIn] at h2 ⊢ <;> first | exact hQ _ _ _ h2 hd | exact h2.elim
   ·rename_i hw;rw [if_neg hw];exact ⟨h.1,ih _ _ h.2⟩
def KD (bs:BS) (n:Nat) (gl:Fr) (G:qa6) (M:qaz) (w:World) (K:Fr->Hp->Prop):Exit->Act->World->Prop:=fun e a' w'=>e = .normal/\∃ fr' h' G' M',K fr' h'/\R bs n gl G' M' fr' h' a' w'/\Ext G M w G' M' w'
theorem KD.noOut {G:qa6} {M:qaz} {w:World} {K:Fr->Hp->Prop}:¬ LetsOut (KD bs n gl G M w K):=by rintro ⟨_,_,h,_⟩; cases h
theorem q0w {all l:List qay} (hx:qbv P n ops ops.toList = some all) (hq:∀ (i:Nat) (o:Oper),ops[i]? = some o->qm0 o.op = true) {K:Fr->Hp->Prop} {k:Nat} (hk:all.drop k = l) {fr:Fr} {h:Hp} {G:qa6} {M:qaz} {a:Act} {w:World} (hr:R bs n gl G M fr h a w) (hi:qir P gl l fr h K) :
  wpOpsIn (FW none) 0 P ops (fun e a' w'=>KD bs n gl G M w K e a' w'/\a'.defers = a.defers) (List.range' k (all.length - k)) a w:=
 qt8 (fun _ _ _ h e=>⟨h,e⟩) hq KD.noOut rfl (qg1 (rd:=none) (fun _ _ _ h=>by cases h) hx l k hk hr hi fun fr' h' G' M' a' w' q1 q2 q3=>⟨rfl,fr',h',G',M',q1,q2,q3⟩)
theorem qla {id:Nat} {all:List qay} (hx:qbv P n ops ops.toList = some all) (hq:∀ (i:Nat) (o:Oper),ops[i]? = some o->qm0 o.op = true) {K:Fr->Hp->Prop} {fr:Fr} {h:Hp} {G:qa6} {M:qaz} {a:Act} {w:World} (hr:R bs n gl G M fr h a w) (hi:qir P gl all fr h K) :
  (Code.region id ops false).wpIn (FW none) 0 P (fun e a' w'=>KD bs n gl G M w K e a' w'/\a'.defers = a.defers) a w:=by
 refine wpIn_region ?_;have:=q0w hx hq (k:=0) rfl hr hi;have e:all.length - 0 = ops.size:=by rw [Nat.sub_zero,(qbp hx).1]; simp
 rwa [e,<- List.range_eq_range'] at this
end
noncomputable def rc:Code:=bdy Tryz.f134
noncomputable def rcA:Code:=cd1 (sq2 (sq2 rc))
theorem quf:Tryz.f134.body = some (.seq (sq1 rc) (.seq (sq1 (sq2 rc)) (.cond (.tmp 7) (.seq (.seq (sq1 (sq1 rcA)) (.seq (sq1 (sq2 (sq1 rcA))) (.cond (.tmp 14) (cd1 (sq2 (sq2 (sq1 rcA)))) .skip))) (sq2 rcA)) .skip))):=by kernel_rfl
def q99:XC->XC
 | .cond _ a _=>a
 | c=>c
theorem jl9 (ev:Operand->Value) (w:World):(execOp ev (rgo (sq1 rc) 0)).run Tryz.prog w = .ok .recover w:=by kernel_rfl
theorem jma (ev:Operand->Value) (w:World):(execOp ev (rgo (sq1 rc) 1)).run Tryz.prog w = .ok (.value (ev (.tmp 5))) w:=by kernel_rfl
theorem jmb (ev:Operand->Value) (w:World):(execOp ev (rgo (sq1 (sq2 rc)) 0)).run Tryz.prog w = .ok (.value (ev (.tmp 2))) w:=by kernel_rfl
theorem jg2:(rgo (sq1 rc) 0).guard = none/\(rgo (sq1 rc) 1).guard = none/\(rgo (sq1 (sq2 rc)) 0).guard = none/\(rgo (sq1 (sq2 rc)) 1).guard = none:=⟨by kernel_rfl,by kernel_rfl,by kernel_rfl,by kernel_rfl⟩
theorem jg1:(rgo (sq1 rc) 0).dst = some 5/\(rgo (sq1 rc) 1).dst = some 2/\(rgo (sq1 (sq2 rc)) 0).dst = some 6/\(rgo (sq1 (sq2 rc)) 1).dst = some 7:=⟨by kernel_rfl,by kernel_rfl,by kernel_rfl,by kernel_rfl⟩
def rcU (p1 p2 a b c d:Value):Act:={ tmps:=#[p1,p2,a,undef,undef,b,c,d] ++ Array.replicate 16 undef,defers:=[] }
section
variable (p1 p2 a b c d x:Value)
theorem jl4:({ tmps:=#[p1,p2] ++ Array.replicate 22 undef,defers:=[] }:Act) = rcU p1 p2 undef undef undef undef:=by kernel_rfl
theorem jl5:(rcU p1 p2 a b c d).put (some 2) x = rcU p1 p2 x b c d:=by kernel_rfl
theorem jl6:(rcU p1 p2 a b c d).put (some 5) x = rcU p1 p2 a x c d:=by kernel_rfl
theorem jl7:(rcU p1 p2 a b c d).put (some 6) x = rcU p1 p2 a b x d:=by kernel_rfl
theorem jl8:(rcU p1 p2 a b c d).put (some 7) x = rcU p1 p2 a b c x:=by kernel_rfl
theorem q55:(rcU p1 p2 a b c d).eval (.tmp 2) = a:=by kernel_rfl
theorem jer:(rcU p1 p2 a b c d).eval (.tmp 5) = b:=by kernel_rfl
theorem q56:(rcU p1 p2 a b c d).eval (.tmp 7) = d:=by kernel_rfl
end
theorem rc01 {m:Nat} {Q:Exit->Act->List Frame->World->Prop} {p1 p2 v:Value} {t:Bool} {w:World} {cs cs':List Frame} {c:Code} (hc:(recoverD cs = some (v,cs'))∨(recoverD cs = none/\v = .nilIface/\cs' = cs))
  (ht:(execOp (rcU p1 p2 v v v undef).eval (rgo (sq1 (sq2 rc)) 1)).run Tryz.prog w = .ok (.value (.bool t)) w) (h:c.wpSIn (FW none) m Tryz.prog Q (rcU p1 p2 v v v (.bool t)) cs' w) :
  (Code.seq (sq1 rc) (.seq (sq1 (sq2 rc)) c)).wpSIn (FW none) m Tryz.prog Q { tmps:=#[p1,p2] ++ Array.replicate 22 undef,defers:=[] } cs w:=by
 rw [jl4];refine wpSIn_seq ?_;rw [show sq1 rc = .region (rgi (sq1 rc)) #[rgo (sq1 rc) 0,rgo (sq1 rc) 1] false by kernel_rfl];refine wpSIn_region ?_;refine q3o (o:=rgo (sq1 rc) 0) (i:=0) (rest:=[1]) rfl jg2.1 (jl9 _ _) hc ?_;rw [jg1.1,jl6];refine qoe (o:=rgo (sq1 rc) 1) (i:=1) (rest:=[]) rfl jg2.2.1 (jma _ _) ?_;rw [jg1.2.1,jer,jl5];refine wpSIn_seq ?_;rw [show sq1 (sq2 rc) = .region (rgi (sq1 (sq2 rc))) #[rgo (sq1 (sq2 rc)) 0,rgo (sq1 (sq2 rc)) 1] false by kernel_rfl];refine wpSIn_region ?_;refine qoe (o:=rgo (sq1 (sq2 rc)) 0) (i:=0) (rest:=[1]) rfl jg2.2.2.1 (jmb _ _) ?_;rw [jg1.2.2.1,q55,jl7];refine qoe (o:=rgo (sq1 (sq2 rc)) 1) (i:=1) (rest:=[]) rfl jg2.2.2.2 (v:=.bool t) (w':=w) ht ?_;rw [jg1.2.2.2,jl8];exact h
theorem jcv {m:Nat} (p1 p2:Value) (w:World):CallsDIn (FW none) m Tryz.prog 134 #[p1,p2] .returning w fun e u' w'=>e = .returned (.tuple #[])/\u' = .returning/\w' = w:=by
 refine callsDIn_of_wpSIn Tryz.func134 quf trivial fun c₀ cs hu=>?_;refine rc01 (v:=.nilIface) (t:=false) (cs':=c₀ :: cs) (.inr ⟨by simp [recoverD,hu],rfl,rfl⟩) (by kernel_rfl) ?_;refine wpSIn_cond (t:=false) (q56 _ _ _ _ _ _) ?_;rw [if_neg (by simp)];refine wpSIn_of_wpIn rfl (wpIn_skip ⟨rfl,.returning,?_,.tuple #[],by kernel_rfl,rfl,rfl,rfl⟩);rw [<- hu]
def qom:Code->Array Oper
 | .region _ o _=>o
 | _=>#[]
def xol:XC->List qay
 | .ops l=>l
 | _=>[]
noncomputable def rc2:Code:=sq1 (sq1 rcA)
theorem qzy:rc2 = .region (rgi rc2) (qom rc2) false:=by kernel_rfl
theorem jly:(qom rc2).size = 8:=by kernel_rfl
theorem jlz:qbv Tryz.prog 24 (qom rc2) (qom rc2).toList = some (xol (xs1 (xs1 (q99 (xs2 (xs2 q94)))))):=by kernel_rfl
theorem jek:(qom rc2)[0]? = some (rgo rc2 0)/\(qom rc2)[1]? = some (rgo rc2 1):=⟨by kernel_rfl,by kernel_rfl⟩
theorem jen:(rgo rc2 0).guard = none/\(rgo rc2 1).guard = none:=⟨by kernel_rfl,by kernel_rfl⟩
theorem jel:(rgo rc2 0).dst = some 9/\(rgo rc2 1).dst = some 10:=⟨by kernel_rfl,by kernel_rfl⟩
theorem jeo (ev:Operand->Value) (w:World):(execOp ev (rgo rc2 0)).run Tryz.prog w = .ok (.value (ev (.tmp 2))) w:=by kernel_rfl
theorem jem:qdt (rgo rc2 0).op = false/\qdt (rgo rc2 1).op = false:=⟨by kernel_rfl,by kernel_rfl⟩
theorem q82 (ev:Operand->Value):execOp ev (rgo rc2 1) = execOp (fun _=>ev (.tmp 9)) (rgo rc2 1):=by kernel_rfl
theorem q83 (w:World):(execOp (fun _=>.iface spT (.agg #[])) (rgo rc2 1)).run Tryz.prog w = .ok (.value (.tuple #[.agg #[],.bool true])) w:=by kernel_rfl
theorem jep (ev:Operand->Value) (w:World) (h:ev (.tmp 9) = .iface spT (.agg #[])):(execOp ev (rgo rc2 1)).run Tryz.prog w = .ok (.value (.tuple #[.agg #[],.bool true])) w:=by
 rw [q82,h];exact q83 w
theorem rc_t (p1 p2:Value) (w:World):(execOp (rcU p1 p2 (.iface spT (.agg #[])) (.iface spT (.agg #[])) (.iface spT (.agg #[])) undef).eval (rgo (sq1 (sq2 rc)) 1)).run Tryz.prog w = .ok (.value (.bool true)) w:=by kernel_rfl
noncomputable def rc3:Code:=sq1 (sq2 (sq1 rcA))
noncomputable def rc5:Code:=sq2 rcA
def jav (ops:Array Oper):Bool:=ops.toList.all fun o=>qm0 o.op
theorem qk8 {ops:Array Oper} (h:jav ops = true):∀ (i:Nat) (o:Oper),ops[i]? = some o->qm0 o.op = true:=fun i o e=>by
 simp only [jav,List.all_eq_true] at h;exact h o (by have:=Array.mem_of_getElem? e; simpa using this)
theorem qzz:rc3 = .region (rgi rc3) (qom rc3) false:=by kernel_rfl
theorem qz0:rc5 = .region (rgi rc5) (qom rc5) false:=by kernel_rfl
theorem jl1:qbv Tryz.prog 24 (qom rc3) (qom rc3).toList = some (xol (xs1 (xs2 (xs1 (q99 (xs2 (xs2 q94))))))):=by kernel_rfl
theorem jl3:qbv Tryz.prog 24 (qom rc5) (qom rc5).toList = some (xol (xs2 (q99 (xs2 (xs2 q94))))):=by kernel_rfl
theorem jl0:jav (qom rc3) = true:=by kernel_rfl
theorem jl2:jav (qom rc5) = true:=by kernel_rfl
theorem jeq:jav (qom rc2) = true:=by kernel_rfl
noncomputable def rcB:Code:=.seq (.seq rc2 (.seq rc3 (.cond (.tmp 14) (cd1 (sq2 (sq2 (sq1 rcA)))) .skip))) rc5
theorem rc_R {p1 p2 z:Value} {G:qa6} {M:qaz} {h:Hp} {w:World} (hs:Sim G M h w) (hgl:qem G gl0) {b1 g1 b2 g2:Nat} (hr1:qam G M (.ptr b1 g1 0 0) p1) (hr2:qam G M (.ptr b2 g2 0 0) p2) (c d e:Value):R (w.heap.size:BS) 24 gl0 G M [(0,.ptr b1 g1 0 0),(1,.ptr b2 g2 0 0)] h (rcU p1 p2 z c d e) w:=by
 have hx:∀ (t:Nat) v,lk [(0,V.ptr b1 g1 0 0),(1,.ptr b2 g2 0 0)] t = some v->(t = 0/\v = .ptr b1 g1 0 0)∨(t = 1/\v = .ptr b2 g2 0 0):=by
  intro t v ht;simp only [lk] at ht;split at ht
  ·rename_i e; cases ht; exact .inl ⟨by simpa [eq_comm] using e,rfl⟩
  ·split at ht
   ·rename_i e; cases ht; exact .inr ⟨by simpa [eq_comm] using e,rfl⟩
   ·cases ht
 refine ⟨hs,fun t v ht=>?_,by simp [rcU],.nil _ _ _,hgl,jpm _⟩;rcases hx t v ht with ⟨rfl,rfl⟩ | ⟨rfl,rfl⟩
 ·simpa [rcU] using hr1
 ·simpa [rcU] using hr2
def rcQ (bs:BS) (G:qa6) (M:qaz) (w:World) (ds:List Deferred) (b2 g2 u:Nat) (h:Hp):Exit->Act->World->Prop:=fun e a' w'=>e = .normal/\a'.defers = ds/\
 ∃ z G' M' fr',R bs 24 gl0 G' M' fr' ((b2,.row g2 5 [.agg [.int .u8 3,.nil,.nil,.nil,.int .i64 (u:Int)]]) :: (3,z) :: (3,z) :: h) a' w'/\Ext G M w G' M' w'
theorem qxm {bs:BS} {G:qa6} {M:qaz} {h:Hp} {a:Act} {w:World} {b1 g1 b2 g2 sb sg bb bg:Nat} {l u:Nat} {sc r0:List V} (h0:r0.length = 5)
  (hR:R bs 24 gl0 G M [(0,.ptr b1 g1 0 0),(1,.ptr b2 g2 0 0)] h a w) (ev2:a.eval (.tmp 2) = .iface spT (.agg #[]))
  (e1:lk h b1 = some (.row g1 1 [.ptr sb sg 0 0])) (e2:lk h sb = some (.row sg 15 [.agg (.ptr bb bg 0 0 :: sc)])) (e3:lk h bb = some (.row bg 2 [.agg [.int .i64 (l:Int),.int .i64 (u:Int)]]))
  (e4:lk h b2 = some (.row g2 5 [.agg r0])) (hn:b1 ≠ 3/\b2 ≠ 3/\sb ≠ 3/\bb ≠ 3) :
  rcB.wpIn (FW none) 0 Tryz.prog (rcQ bs G M w a.defers b2 g2 u h) a w:=by
 unfold rcB;refine wpIn_seq (wpIn_seq ?_);rw [qzy];refine wpIn_region ?_;rw [jly];show wpOpsIn (FW none) 0 _ _ _ (0 :: 1 :: List.range' 2 6) a w;rw [wpOpsIn_cons];refine qd2 (o:=rgo rc2 0) jek.1 jen.1 jem.1 ?_;unfold Oper.wp;rw [jeo,Oper.upon_value,jel.1,ev2];have hr0:=hR.putU (d:=9) (by decide) (.iface spT (.agg #[]));have ev9:(a.put (some 9) (.iface spT (.agg #[]))).eval (.tmp 9) = .iface spT (.agg #[]):=by simp [Act.eval,Act.put,hR.sz]
 have hd0:(a.put (some 9) (.iface spT (.agg #[]))).defers = a.defers:=rfl;generalize a.put (some 9) (.iface spT (.agg #[])) = a1 at hr0 ev9 hd0 ⊢;rw [wpOpsIn_cons];refine qd2 (o:=rgo rc2 1) jek.2 jen.2 jem.2 ?_;unfold Oper.wp;rw [jep _ _ ev9,Oper.upon_value,jel.2]
 have hr2:=hr0.put (dst:=some 10) (v:=.tup [.agg [],.bool true]) (rv:=.tuple #[.agg #[],.bool true]) (by decide) (.tup _ _ rfl fun i hi=>by
  match i,hi with
  | 0,_=>exact .agg _ _ rfl (fun _ h=>by cases h) (fun _ h=>by cases h)
  | 1,_=>exact .bool true) hr0.sim (.refl _ _ _)
 have hd1:(a1.put (some 10) (.tuple #[.agg #[],.bool true])).defers = a.defers:=hd0;generalize a1.put (some 10) (.tuple #[.agg #[],.bool true]) = a2 at hr2 hd1 ⊢
 refine qt8 (ds:=a2.defers) (fun e a' w' h _=>?_) (qk8 jeq) (by rintro ⟨_,_,h,_⟩; exact KD.noOut ⟨_,_,h⟩) rfl (q0w jlz (qk8 jeq) (k:=2) (l:=(xol (xs1 (xs1 (q99 (xs2 (xs2 q94)))))).drop 2) rfl (K:=fun fr' h'=>lk fr' 4 = some (.bool true)/\lk fr' 0 = some (.ptr b1 g1 0 0)/\lk fr' 1 = some (.ptr b2 g2 0 0)/\∃ z,h' = (3,z) :: (3,z) :: h) hr2 (by
  simp [xol,xs1,xs2,q99,q94]))
 obtain ⟨⟨rfl,fr',h',G',M',⟨q1,q2,q3,z,rfl⟩,hr',hx'⟩,hd'⟩:=h;refine wpIn_seq ?_;rw [qzz]
 refine wpIn_mono (qla jl1 (qk8 jl0) (K:=fun fr' h'=>lk fr' 14 = some (.bool false)/\lk fr' 0 = some (.ptr b1 g1 0 0)/\lk fr' 1 = some (.ptr b2 g2 0 0)/\h' = (3,z) :: (3,z) :: h) hr' (by
  simp [xol,xs1,xs2,q99,q94,q1,q2,q3])) ?_
 rintro e a3 w3 ⟨⟨rfl,fr3,h3,G3,M3,⟨p1,p2,p3,rfl⟩,hr3,hx3⟩,hd3⟩
 have hv:a3.eval (.tmp 14) = .bool false:=by
  have h:=hr3.frr 14 _ p1;change a3.tmps.getD 14 undef = _;generalize a3.tmps.getD 14 undef = v at h;cases h; rfl
 refine wpIn_cond (t:=false) hv ?_;rw [if_neg (by simp)];refine wpIn_skip ?_;show rc5.wpIn _ _ _ _ _ _;rw [qz0]
 refine wpIn_mono (qla jl3 (qk8 jl2) (K:=fun fr' h'=>h' = (b2,.row g2 5 [.agg [.int .u8 3,.nil,.nil,.nil,.int .i64 (u:Int)]]) :: (3,z) :: (3,z) :: h) hr3 (by
  simp [xol,xs1,xs2,q99,q94,nop,p1,p2,p3,hn.1,hn.2.1,hn.2.2.1,hn.2.2.2,e1,e2,e3,e4,h0,jnu])) ?_
 rintro e a4 w4 ⟨⟨rfl,fr4,h4,G4,M4,rfl,hr4,hx4⟩,hd4⟩;exact ⟨rfl,by rw [hd4,hd3,hd',hd1],z,G4,M4,fr4,hr4,(hx'.trans hx3).trans hx4⟩
theorem q11 {G:qa6} {M:qaz} {h:Hp} {w:World} (hs:Sim G M h w) (hgl:qem G gl0) {p1 p2:Value} {b1 g1 b2 g2 sb sg bb bg:Nat} {l u:Nat} {sc r0:List V} (h0:r0.length = 5)
  (hr1:qam G M (.ptr b1 g1 0 0) p1) (hr2:qam G M (.ptr b2 g2 0 0) p2) (e1:lk h b1 = some (.row g1 1 [.ptr sb sg 0 0])) (e2:lk h sb = some (.row sg 15 [.agg (.ptr bb bg 0 0 :: sc)])) (e3:lk h bb = some (.row bg 2 [.agg [.int .i64 (l:Int),.int .i64 (u:Int)]]))
  (e4:lk h b2 = some (.row g2 5 [.agg r0])) (hn:b1 ≠ 3/\b2 ≠ 3/\sb ≠ 3/\bb ≠ 3) :
  CallsDIn (FW none) 0 Tryz.prog 134 #[p1,p2] (.panicking [{ v:=.iface spT (.agg #[]),recovered:=false }]) w fun e u' w'=>e = .returned (.tuple #[])/\u' = .panicking [{ v:=.iface spT (.agg #[]),recovered:=true }]/\
   ∃ G' M' z,Sim G' M' ((b2,.row g2 5 [.agg [.int .u8 3,.nil,.nil,.nil,.int .i64 (u:Int)]]) :: (3,z) :: (3,z) :: h) w'/\Ext G M w G' M' w':=by
 refine callsDIn_of_wpSIn Tryz.func134 quf trivial fun c₀ cs hu=>?_;refine rc01 (v:=.iface spT (.agg #[])) (t:=true) (cs':={ c₀ with mode:=.panicking [{ v:=.iface spT (.agg #[]),recovered:=true }] } :: cs) (.inl (by simp [recoverD,hu])) (rc_t _ _ _) ?_;refine wpSIn_cond (t:=true) (q56 _ _ _ _ _ _) ?_;rw [if_pos rfl];refine wpSIn_of_wpIn rfl ?_;refine wpIn_mono (qxm h0 (rc_R hs hgl hr1 hr2 _ _ _) (q55 _ _ _ _ _ _) e1 e2 e3 e4 hn) ?_;rintro e a1 w1 ⟨rfl,hd,z,G2,M2,fr2,h3,h4⟩;exact ⟨hd,_,rfl,.tuple #[],by kernel_rfl,rfl,rfl,G2,M2,z,h3.sim,h4⟩
end
section
open Go
def KV (S:Sea) (g:SG) (l:Nat) (R:VR) (p:Pt) (v:V) (h:Hp):Prop:=match R with
 | .found q w=>v = .tup [.bool true,.nil]/\h = S.H g q l w
 | .proof t w=>(∃ cap,v = .tup [.bool false,.sl ((t.fl 0).map Tn.v) cap])/\h = S.H g p l w
 | .spent _=>False
def KPV (S:Sea) (g:SG) (l:Nat) (R:VR) (ch:List PanicEntry) (h:Hp):Prop:=match R with
 | .spent q=>qqx ch/\h = S.H g q l l
 | _=>False
def qje:XC:=xs2 (xs2 (xs2 (xs2 (xs2 (xs2 qox)))))
def qja:XC:=xlp (xbk (xs2 (xs1 qje)))
def qsb:XC:=xs2 (xbk (xs1 (xs2 (xs2 qja))))
def q9w:XC:=xs2 qsb
theorem q3d:qsb = .seq (xs1 qsb) q9w:=rfl
theorem q3a:qja = .seq (xs1 qja) (.seq (xs1 (xs2 qja)) (.seq (.block 1 (.seq (xs1 (xbk (xs1 (xs2 (xs2 qja))))) qsb)) (xs2 (xs2 (xs2 qja))))):=rfl
def HX (S:Sea) (g:SG) (q:Pt) (l u g10:Nat) (P:List V):Hp:=S.H g q l u ++ [(10,.row g10 2 [.agg P])]
set_option maxRecDepth 10000 in
theorem qz7 (S:Sea) (g:SG) (q:Pt) (l u n b g10:Nat) (P0 P1:V) (R:VR) (hn:n < q.many) (hqb:q.many < 1000000) (hb:b≤1)
  (hrec:qby Tryz.prog gl0 135 [.ptr 9002 g.s 0 0] (S.H g (q.set n b) l u) (KV S g l R (q.set n b)) (KPV S g l R)) (Q:PQ) (fr:Fr) (a64 j65:V)
  (h0:lk fr 0 = some (.ptr 9002 g.s 0 0)) (h8:lk fr 8 = some (qaa n)) (h12:lk fr 12 = some (u8V b)) (h10:lk fr 10 = some (.ptr 10 g10 0 0)) (h64:lk fr 64 = some a64) (h65:lk fr 65 = some j65)
  (hfound:∀ q w fr',R = .found q w->lk fr' 2 = some (.bool true)->lk fr' 3 = some .nil->Q (.n .ret) fr' (HX S g q l w g10 [P0,P1]))
  (hspent:∀ q fr' ch,R = .spent q->qqx ch->Q (.p ch) fr' (HX S g q l l g10 [P0,P1]))
  (hproof:∀ t w fr' cap,R = .proof t w->lk fr' 0 = some (.ptr 9002 g.s 0 0)->lk fr' 8 = some (qaa n)->lk fr' 10 = some (.ptr 10 g10 0 0)->lk fr' 64 = some a64->lk fr' 65 = some j65->
   Q (.n .normal) fr' ((10,.row g10 2 [.agg (if b = 0 then [.sl ((t.fl 0).map Tn.v) cap,P1] else [P0,.sl ((t.fl 0).map Tn.v) cap])]) :: HX S g (q.set n b) l w g10 [P0,P1])) :
  qsb.wpP Tryz.prog gl0 Q fr (HX S g q l u g10 [P0,P1]):=by
 have hbit:=qtc S g q l u n (by unfold Pt.many at hn; omega) (by unfold Pt.many at hqb; omega);rw [q3d];simp [qsb,qja,qje,xs1,xs2,xbk,xlp,qox,h0,h8,HX,qaa];refine CallP.lend (KP0:=fun _ _=>False) [9002,9003,9004,9001,9000] (S.H g q l u) [(10,.row g10 2 [.agg [P0,P1]])] (qby.of hbit) (by simp [jni,V.inB]) (by simp [Sea.H]) (qcg S g q l u) (by simp [Sea.H]) (by simp) ?_ (fun _ _ h=>h.elim);rintro v h ⟨rfl,rfl⟩;refine ⟨qrm g q n,qcg S g q l u,?_⟩
 have fin:∀ fr h,Sub (S.H g (q.set n b) l u) h->Sub [(10,.row g10 2 [.agg [P0,P1]])] h->lk fr 0 = some (.ptr 9002 g.s 0 0)->lk fr 8 = some (qaa n)->lk fr 12 = some (u8V b)->lk fr 10 = some (.ptr 10 g10 0 0)->lk fr 64 = some a64->lk fr 65 = some j65->
   XC.wpP Tryz.prog gl0 q9w Q fr h:=by
  intro fr h e1 e2 h0 h8 h12 h10 h64 h65;simp [q9w,qsb,qja,qje,xs1,xs2,xbk,xlp,qox,h0,h8];refine CallP.lend [9002,9003,9004,9001,9000] (S.H g (q.set n b) l u) [(10,.row g10 2 [.agg [P0,P1]])] hrec (by simp [jni,V.inB]) e1 (qcg S g _ l u) e2 (by simp) ?_ ?_
  ·intro v h' hv;unfold KV at hv
   cases R with
   | found q2 w=>
    obtain ⟨rfl,rfl⟩:=hv;refine ⟨rfl,qcg S g _ l w,?_⟩;simp;exact hfound q2 w _ rfl (by simp) (by simp)
   | proof t w=>
    obtain ⟨⟨cap,rfl⟩,rfl⟩:=hv;refine ⟨?_,qcg S g _ l w,?_⟩
    ·simp [V.inB,jni,jnf _ _ (qck _)]
    simp [h10,h12];rcases (show b = 0∨b = 1 by omega) with rfl | rfl
    ·simp [u8V,Sea.H];exact hproof t w _ cap rfl (by simp [h0]) (by simp [h8]) (by simp [h10]) (by simp [h64]) (by simp [h65])
    ·simp [u8V,Sea.H];exact hproof t w _ cap rfl (by simp [h0]) (by simp [h8]) (by simp [h10]) (by simp [h64]) (by simp [h65])
   | spent q2=>exact hv.elim
  ·intro ch h' hv;unfold KPV at hv
   cases R with
   | found q2 w=>exact hv.elim
   | proof t w=>exact hv.elim
   | spent q2=>
    obtain ⟨h1,rfl⟩:=hv;exact ⟨qcg S g _ l l,hspent q2 _ ch rfl h1⟩
 by_cases hl:n < q.i.length
 ·simp [qu6,hl,h12,u8V,nop,Sea.H];refine fin _ _ ?_ ?_ (by simp [h0]) (by simp [h8]) (by simp [h12]) (by simp [h10]) (by simp [h64]) (by simp [h65])
  ·simp [Sea.H,Pt.set,hl,u8V];simp [Sea.cells]
  ·simp
 ·have hl2:n - q.i.length < q.s.length:=by unfold Pt.many at hn; omega
  simp [qu6,hl,hl2,h12,u8V,nop,Sea.H];refine fin _ _ ?_ ?_ (by simp [h0]) (by simp [h8]) (by simp [h12]) (by simp [h10]) (by simp [h64]) (by simp [h65])
  ·simp [Sea.H,Pt.set,hl,u8V];simp [Sea.cells]
  ·simp
end
end Go.Proofs.YtpaopccohkldlaaGreatDoor
