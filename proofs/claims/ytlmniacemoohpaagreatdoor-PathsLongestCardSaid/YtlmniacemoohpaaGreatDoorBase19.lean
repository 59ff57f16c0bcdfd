/- Lemmas. Conditions: none. -/
import Derived.Test.YtlmniacemoohpaaGreatDoorBase18
import Derived.Shelf.Slices.Delete
set_option linter.all false
namespace Go.Proofs.YtlmniacemoohpaaGreatDoor
open Go Go.Shelf Go.Sort
section
variable {P:Program} {gl:Fr} {ρ:Ren}
def qlx (l:List Int):List V:=l.map (V.int .i64)
theorem jie (L:Lays2.n23 P ρ) (hcal:qb3 P (ρ.f 23) = true) {b g i:Nat} {l:List Int} {cap:Option Nat} {h:Hp} {K:V->Hp->Prop} (hi:i < l.length) (hb:lk h b = some (.row g 1 (qlx l)))
  (hk:K (.ref b g 0 (l.length - 1) none) ((b,.row g 1 (qlx (l.take i ++ l.drop (i + 1) ++ [0]))) :: h)):qa6 P gl (ρ.f 23) [.ref b g 0 l.length cap,.int .i64 i,.int .i64 ((i + 1:Nat):Int)] h K:=by
 refine ⟨hcal,fun G M w rargs hs hgl hsz hrel=>?_⟩;obtain ⟨mb,m1,m2,m3,m4⟩:=hs.hb b _ hb;have r0:=hrel 0 (by simp);have r1:=hrel 1 (by simp);have r2:=hrel 2 (by simp);simp only [List.getD_cons_zero,List.getD_cons_succ] at r0 r1 r2;obtain ⟨ra,rcap,mb',e0,hM,hg,hl,hcc,hh⟩:=qhq r0;rw [m1] at hM; cases hM;have e1:=qai r1;have e2:=qai r2;have hre:=hh m2.symm
 cases hreal:mb.real with
 | none=>simp only [qbr,hreal] at hre; omega
 | some rb=>
  simp only [qbr,hreal] at hre;simp only [qbw,hreal] at m4;obtain ⟨arr,ty,w1,w2,w3,w4,w5⟩:=m4;rcases hre with ⟨rfl,hroom⟩ | ⟨q,-⟩
  case inr=>omega
  have hll:(qlx l).length = l.length:=by simp [qlx]
  have hel:∀ (l:List Int) j (hj:j < l.length),((qlx l).getD j .undef) = .int .i64 l[j]:=fun l j hj=>by
   rw [ji0]; simp [qlx,hj]
  rw [m3] at w2 w4 w5
  have hcell:∀ j (hj:j < l.length),arr.getD (mb.base + j) undef = .int .i64 l[j]:=fun j hj=>by
   have:=(w5 j 0 (by rw [hll]; exact hj) (by omega)).1;rw [hel l j hj] at this;simp only [V.cells,List.getD_cons_zero,Nat.mul_one,Nat.add_zero] at this;exact qai this
  have hsize:mb.base + l.length≤arr.size:=by rw [hll] at w3; omega
  have hargs:rargs = #[.slice (some ⟨rb,mb.base,none⟩) l.length rcap,.int .i64 i,.int .i64 ((i + 1:Nat):Int)]:=by
   apply Array.ext
   ·simpa using hsz
   ·intro k h1 h2;have hk3:k < 3:=by simpa using h2
    have hgd:rargs.getD k undef = rargs[k]:=by simp [ji1,h1]
    match k,hk3 with
    | 0,_=>rw [<- hgd,e0]; simp
    | 1,_=>rw [<- hgd,e1]; simp
    | 2,_=>rw [<- hgd,e2]; simp
  have hH:Holds (Value.int .i64) w rb mb.base l.toArray:=fun j hj=>by
   have hj':j < l.length:=by simpa using hj
   refine ⟨?_,?_⟩
   ·rw [qfm w1 (mb.base + j) (by omega),hcell j hj'];rw [getElem!_pos l.toArray j hj]; simp
   ·simp [World.frozen?,w1]
  have hcall:=Any.slices_Delete_int L rb mb.base rcap i (i + 1) l w hH hl (by omega) (by omega) (by omega);rw [hargs];refine hcall.mono ?_;rintro e w' ⟨rfl,q,rfl⟩;obtain ⟨d,hd⟩:∃ d:List Int,d = l.take i ++ l.drop (i + 1) ++ [0]:=⟨_,rfl⟩;have hrep:List.replicate (i + 1 - i) (0:Int) = [0]:=by rw [Nat.add_sub_cancel_left]; rfl
  rw [hrep,<- hd];rw [<- hd] at hk;have hdl:d.length = l.length:=by rw [hd]; simp; omega
  have hheap:∀ k,(putRow (Value.int .i64) (Sort.ahead w q) rb mb.base d.toArray).heap[k]? = if rb = k then some (.cells (putCells (Value.int .i64) mb.base d.toArray arr) ty (0,0)) else w.heap[k]?:=fun k=>by
   simp only [putRow,mapBlock,Sort.ahead,Array.getElem?_modify];by_cases h:rb = k
   ·subst h; simp [w1,onCells]
   ·simp [h]
  have hblk:qck G (upd M b mb) (putRow (Value.int .i64) (Sort.ahead w q) rb mb.base d.toArray) b (.row g 1 (qlx d)):=by
   refine ⟨mb,qaw _ _ _,m2,m3,?_⟩;simp only [qbw,hreal];have hdl':(qlx d).length = l.length:=by simp [qlx,hdl]
   refine ⟨_,ty,by rw [hheap,if_pos rfl],by simpa [putCells,m3] using w2,by rw [hdl',<- hll]; exact w3,fun j hj=>?_,fun j t hj ht=>?_⟩
   ·rw [hdl'] at hj;rw [hel d j (by omega),m3]; rfl
   ·rw [hdl'] at hj;rw [m3] at ht ⊢;obtain rfl:t = 0:=by omega
    rw [hel d j (by omega)]
    have hget:(putCells (Value.int .i64) mb.base d.toArray arr).getD (mb.base + j * 1 + 0) undef = .int .i64 (d[j]'(by omega)):=by
     simp only [putCells,ji1,Array.getElem?_mapIdx,Nat.mul_one,Nat.add_zero];rw [Array.getElem?_eq_getElem (by omega)];simp only [Option.map_some,Option.getD_some];rw [if_pos ⟨by omega,by simp; omega⟩,Nat.add_sub_cancel_left,getElem!_pos d.toArray j (by simp; omega)];simp
    rw [hget];exact ⟨.int _ _,rfl⟩
  obtain ⟨s1,s2⟩:=hs.change (w':=putRow (Value.int .i64) (Sort.ahead w q) rb mb.base d.toArray) b mb (.row g 1 (qlx d)) (fun m hm=>.inr (by rw [m1] at hm; cases hm; rfl)) (fun r hr=>.inr ⟨mb,m1,hr⟩) (by simp)
   (fun k _ hk=>by rw [hheap,if_neg fun e=>hk (by rw [hreal,e])]) (fun _ _ _ _=>trivial) rfl rfl rfl hblk
  refine ⟨_,_,_,_,_,rfl,hk,?_,s1,s2⟩;have hn:l.length - (i + 1 - i) = l.length - 1:=by omega
  rw [hn];refine .ref _ _ _ _ _ _ _ mb (qaw _ _ _) (by omega) (by omega) (by simp) fun _=>?_;simp only [qbr,hreal];exact .inl ⟨by simp,hroom⟩
end
end Go.Proofs.YtlmniacemoohpaaGreatDoor
