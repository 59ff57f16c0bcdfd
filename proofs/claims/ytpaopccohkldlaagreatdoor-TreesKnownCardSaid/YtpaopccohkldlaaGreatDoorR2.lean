/- Lemmas. Conditions: none. -/
import Derived.Test.YtpaopccohkldlaaGreatDoorR1
import Derived.Test.YtpaopccohkldlaaGreatDoorA5
import Derived.Test.YtpaopccohkldlaaGreatDoorY3
import Derived.Shelf.Strings.BuilderK
import Derived.WalkKit
import Derived.BigCall
set_option linter.all false
namespace Go.Proofs.YtpaopccohkldlaaGreatDoor
open Go Go.Shelf Go.RowKit
set_option maxRecDepth 100000
set_option maxHeartbeats 4000000
theorem q19:(Tryz.prog.info? 127).map (·.size) = some 2:=by kernel_rfl
theorem qud:liesAt Tryz.prog Tryz.prog.depth 127 (2 / Tryz.prog.cellsOf 127) 0 127 1 = true:=by kernel_rfl
theorem q04:(Tryz.prog.info? 5).map (fun i=>(i.zero,i.size,i.bytes)) = some (some (.int .u8 0),1,1):=by kernel_rfl
theorem ccF (b:Nat) (w:World) (h0:w.cell? ⟨b,0,none⟩ = some (.pointer (some ⟨b,0,none⟩))) :
  Calls Tryz.prog 103 #[.pointer (some ⟨b,0,none⟩)] w fun e w'=>e = .returned (.tuple #[])/\w' = w:=by
 obtain ⟨j,hj,_⟩:=Option.map_eq_some_iff.1 q19
 go_enter Tryz.func103,Tryz.ntmps103
 go_wp2
 rw [Lib.run_neq_ptr_same w _ Tryz.underlying125 hj]
 go_wp2
 go_end0
 exact ⟨rfl,rfl⟩
theorem ccN (b:Nat) (w:World) (h0:w.cell? ⟨b,0,none⟩ = some (.pointer none)) (hsh:w.shape? b = some (127,2)) (hfz:w.frozen? ⟨b,0,none⟩ = false) :
  Calls Tryz.prog 103 #[.pointer (some ⟨b,0,none⟩)] w fun e w'=>e = .returned (.tuple #[])/\w' = w.setCell ⟨b,0,none⟩ (.pointer (some ⟨b,0,none⟩)):=by
 obtain ⟨j,hj,hjs⟩:=Option.map_eq_some_iff.1 q19
 go_enter Tryz.func103,Tryz.ntmps103
 go_wp2
 rw [Lib.run_to_unsafe w ⟨b,0,none⟩ Tryz.underlying125 (by kernel_rfl) hj (by rw [hjs]; decide) hsh (Nat.zero_lt_succ 1)];simp only [Result.andThen];rw [Oper.upon_value]
 go_wp2
 rw [run_callFunc_extern Tryz.func142 (by kernel_rfl) (by kernel_rfl) (by kernel_rfl) (e:=Extern.AbiNoEscape.same) (by kernel_rfl)];rw [Lib.run_noEscape];simp only [Result.andThen];rw [Oper.upon_value]
 go_wp2
 rw [Lib.run_from_unsafe w ⟨b,0,none⟩ (show Tryz.prog.underlying 237 = some .unsafePointer by kernel_rfl) Tryz.underlying125 hj hsh qud];simp only [Result.andThen];rw [Oper.upon_value]
 go_wp2
 go_end0
 exact ⟨rfl,rfl⟩
theorem cc (B b:Nat) (bs:List Value) (w:World) (h:Lib.IsBuilderF 127 5 B b bs w) :
  Calls Tryz.prog 103 #[.pointer (some ⟨b,0,none⟩)] w fun e w'=>e = .returned (.tuple #[])/\(Lib.BuilderAtF 127 5 B b (.pointer (some ⟨b,0,none⟩)) bs w'/\Below B w w'/\Lib.OthersKept 5 (some b) w w'):=by
 rcases h with h | h
 ·refine (ccN b w h.cell0 h.shape h.frozen0).mono ?_;rintro e w' ⟨rfl,rfl⟩;exact ⟨rfl,h.used _,(Below.refl B w).setCell (p:=⟨b,0,none⟩) h.1 _,(Lib.OthersKept.refl _ _ w).setCell ⟨b,0,none⟩ rfl _⟩
 ·refine (ccF b w h.cell0).mono ?_;rintro e w' ⟨rfl,rfl⟩;exact ⟨rfl,h,Below.refl B _,Lib.OthersKept.refl _ _ _⟩
theorem q5d {b:Nat} {v:Value} {w1 w2:World} (hbk:w1.heap[b]? = some (.cells #[.pointer (some ⟨b,0,none⟩),v] 127 (0,0))) (hne:v.ownBlock ≠ some b) (hg:w1.grownBy w2 v.ownBlock) :
  w2.heap[b]? = some (.cells #[.pointer (some ⟨b,0,none⟩),v] 127 (0,0)):=by
 rw [hg.block b (Array.getElem?_eq_some_iff.1 hbk).1 (fun e=>hne e.symm)];exact hbk
theorem q2j (B b:Nat) (bs:List Value) (c:Int) (w:World) (h:Lib.IsBuilderF 127 5 B b bs w) (hlen:bs.length + 1≤140737488355328) (hBw:B≤w.heap.size) :
  Calls Tryz.prog 68 #[.pointer (some ⟨b,0,none⟩),.int .u8 c] w fun e w'=>e = .returned .nilIface/\(Lib.BuilderAtF 127 5 B b (.pointer (some ⟨b,0,none⟩)) (bs ++ [.int .u8 c]) w'/\Below B w w'/\Lib.OthersKept 5 (some b) w w'):=by
 obtain ⟨i0,hi,hz0,hz1,hz2⟩:=info_parts q04
 go_enter Tryz.func68,Tryz.ntmps68
 go_wp2_with (go_at_call 103; refine (cc B b bs _ h).mono ?_)
 rintro e w1 ⟨rfl,⟨hB,v,hbk,hown,hne⟩,hb1,hk1⟩;have c0:w1.cell? ⟨b,0,none⟩ = some (.pointer (some ⟨b,0,none⟩)):=by rw [Lib.cell_of_heap hbk]; rfl
 have c1:w1.cell? ⟨b,1,none⟩ = some v:=by rw [Lib.cell_of_heap hbk]; rfl
 go_wp2_with (at_builtin; refine wpList_append_ownF _ rfl _ _ 25 rfl B 5 i0 (.int .u8 0) 1 1 Tryz.underlying25 hi hz0 hz1 hz2 rfl (by decide) _ _ _ rfl (hown.alloc _) ⟨w1.heap.size,0,none⟩ 1 1 [.int .u8 c] rfl rfl (fun j u hj=>by match j,hj with | 0,hj=>simp at hj; subst hj; simp [Addr.add]) (fun u hu=>by simp at hu; subst hu; rfl) (by unfold maxLen; omega) (by omega) (by have:=hb1.size; simp; omega) ?_)
 intro v' w2 hown' hgrow _;have hb2:=q5d (by rw [Lib.alloc_old w1 _ b (Array.getElem?_eq_some_iff.1 hbk).1]; exact hbk) hne hgrow;have d0:w2.cell? ⟨b,0,none⟩ = some (.pointer (some ⟨b,0,none⟩)):=by rw [Lib.cell_of_heap hb2]; rfl
 have d1:w2.cell? ⟨b,1,none⟩ = some v:=by rw [Lib.cell_of_heap hb2]; rfl
 have f1:w2.frozen? ⟨b,1,none⟩ = false:=Lib.frozen_of_heap hb2 1
 obtain ⟨g,cap,rfl⟩:∃ g cap,v' = .slice (some ⟨g,0,none⟩) (bs.length + 1) cap:=by
  rcases hown'.2 with ⟨_,h0⟩ | ⟨g,cap,cur,fz,hv,_⟩
  ·omega
  ·exact ⟨g,cap,hv⟩
 go_wp2
 go_ret
 refine ⟨rfl,Lib.BuilderAtF.put (T:=127) (e:=5) hB hb2 (bs':=bs ++ [.int .u8 c]) (by simpa using hown') (by decide),?_,((hk1.alloc _).grown hgrow (Lib.ownsRowF_kind (hown.alloc _))).setCell ⟨b,1,none⟩ rfl _⟩;exact ((hb1.alloc (by have:=hb1.size; omega) _).grown hgrow (by have:=hb1.size; simp; omega) (fun k hk=>(hown.lt k hk).1)).setCell (p:=⟨b,1,none⟩) hB _
theorem wStr (B b:Nat) (bs:List Value) (s:ByteArray) (w:World) (h:Lib.IsBuilderF 127 5 B b bs w) (hlen:bs.length + s.size≤140737488355328) (hBw:B≤w.heap.size) :
  Calls Tryz.prog 69 #[.pointer (some ⟨b,0,none⟩),.string s] w fun e w'=>e = .returned (.tuple #[.int .i64 s.size,.nilIface])/\(Lib.BuilderAtF 127 5 B b (.pointer (some ⟨b,0,none⟩)) (bs ++ Lib.strCells s) w'/\Below B w w'/\Lib.OthersKept 5 (some b) w w'):=by
 obtain ⟨i0,hi,hz0,hz1,hz2⟩:=info_parts q04
 go_enter Tryz.func69,Tryz.ntmps69
 go_wp2_with (go_at_call 103; refine (cc B b bs _ h).mono ?_)
 rintro e w1 ⟨rfl,⟨hB,v,hbk,hown,hne⟩,hb1,hk1⟩;have c0:w1.cell? ⟨b,0,none⟩ = some (.pointer (some ⟨b,0,none⟩)):=by rw [Lib.cell_of_heap hbk]; rfl
 have c1:w1.cell? ⟨b,1,none⟩ = some v:=by rw [Lib.cell_of_heap hbk]; rfl
 go_wp2_with (at_builtin; refine Lib.wpList_append_own_stringF _ rfl _ _ 25 9 rfl B 5 i0 Tryz.underlying25 Tryz.underlying9 hi hz0 hz1 hz2 _ _ _ rfl hown s rfl (by unfold maxLen; omega) (by omega) (by have:=hb1.size; omega) ?_)
 intro v' w2 hown' hgrow _;have hb2:=q5d hbk hne hgrow;have d0:w2.cell? ⟨b,0,none⟩ = some (.pointer (some ⟨b,0,none⟩)):=by rw [Lib.cell_of_heap hb2]; rfl
 have d1:w2.cell? ⟨b,1,none⟩ = some v:=by rw [Lib.cell_of_heap hb2]; rfl
 have f1:w2.frozen? ⟨b,1,none⟩ = false:=Lib.frozen_of_heap hb2 1
 obtain ⟨ao,n',cap,rfl⟩:∃ ao n' cap,v' = .slice ao n' cap:=by
  rcases hown'.2 with ⟨hv,_⟩ | ⟨g,cap,cur,fz,hv,_⟩
  ·exact ⟨_,_,_,hv⟩
  ·exact ⟨_,_,_,hv⟩
 go_wp2
 go_ret2
 refine ⟨rfl,Lib.BuilderAtF.put (T:=127) (e:=5) hB hb2 (bs':=bs ++ Lib.strCells s) (by simpa [Lib.strCells_length] using hown') (by decide),?_,(hk1.grown hgrow (Lib.ownsRowF_kind hown)).setCell ⟨b,1,none⟩ rfl _⟩;exact (hb1.grown hgrow (by have:=hb1.size; omega) (fun k hk=>(hown.lt k hk).1)).setCell (p:=⟨b,1,none⟩) hB _
def renB:Ren:=⟨fun x=>match x with | 169=>71 | n=>n,fun x=>match x with | 70=>125 | 9=>9 | 0=>0 | 72=>127 | 37=>25 | 127=>183 | 3=>3 | 5=>5 | n=>n,fun n=>n⟩
theorem q09:Lays.n169 Tryz.prog renB where
 mixed:=by kernel_rfl
 f169:=by kernel_rfl
 t0:=by kernel_rfl
 a0:=fun w=>by kernel_rfl
 z0:=fun w=>by kernel_rfl
 v0:=fun w=>by kernel_rfl
 t3:=by kernel_rfl
 a3:=fun w=>by kernel_rfl
 z3:=fun w=>by kernel_rfl
 v3:=fun w=>by kernel_rfl
 t9:=by kernel_rfl
 a9:=fun w=>by kernel_rfl
 z9:=fun w=>by kernel_rfl
 v9:=fun w=>by kernel_rfl
 t37:=by kernel_rfl
 a37:=fun w=>by kernel_rfl
 z37:=fun w=>by kernel_rfl
 v37:=fun w=>by kernel_rfl
 t70:=by kernel_rfl
 a70:=fun w=>by kernel_rfl
 z70:=fun w=>by kernel_rfl
 v70:=fun w=>by kernel_rfl
 t72:=by kernel_rfl
 a72:=fun w=>by kernel_rfl
 z72:=fun w=>by kernel_rfl
 v72:=fun w=>by kernel_rfl
 t127:=by kernel_rfl
 a127:=fun w=>by kernel_rfl
 z127:=fun w=>by kernel_rfl
 v127:=fun w=>by kernel_rfl
theorem extB:Builder.Extra Tryz.prog renB where
 sizeBuilder:=q19
 liesBuilder:=qud
 t5:=Tryz.underlying5
 a5:=fun w=>by kernel_rfl
 z5:=fun w=>by kernel_rfl
 v5:=fun w=>by kernel_rfl
 infoByte:=q04
 cellsByte:=by kernel_rfl
 sizeByte:=by kernel_rfl
 neB5:=by decide
theorem q3z {B b:Nat} {bs:List Value} {w w':World} (h:Lib.IsBuilderF 127 5 B b bs w) (hb:Below w.heap.size w w'):Lib.IsBuilderF 127 5 B b bs w':=by
 have key:∀ p,Lib.BuilderAtF 127 5 B b p bs w->Lib.BuilderAtF 127 5 B b p bs w':=by
  rintro p ⟨h1,v,h2,h3,h4⟩;refine ⟨h1,v,by rw [hb.block b (Array.getElem?_eq_some_iff.1 h2).1]; exact h2,⟨h3.1,?_⟩,h4⟩;rcases h3.2 with h5 | ⟨g,cap,cur,fz,h5,h6,h7,h8⟩
  ·exact .inl h5
  ·exact .inr ⟨g,cap,cur,fz,h5,h6,by rw [hb.block g (Array.getElem?_eq_some_iff.1 h7).1]; exact h7,h8⟩
 exact h.elim (fun x=>.inl (key _ x)) (fun x=>.inr (key _ x))
theorem q6g {e:TypeId} {b:Option Nat} {w w':World} (hb:Below w.heap.size w w'):Lib.OthersKept e b w w':=fun k o hk _ _=>by
 rw [hb.block k (Array.getElem?_eq_some_iff.1 hk).1]; exact hk
structure TxW (n rb ro rcap k1 k3 k4:Nat) (F:Nat->Nat->Int) (w:World):Prop where
 h1:w.heap[k1]? = some (.cells #[.slice (some ⟨rb,ro,none⟩) n rcap] 46 (0,0))
 h4:w.heap[k4]? = some (.cells #[.func (.func 67) #[] #[.pointer (some ⟨k1,0,none⟩),.pointer (some ⟨k3,0,none⟩),.pointer (some ⟨k4,0,none⟩)]] 122 (0,0))
 g:w.cell? ⟨0,0,none⟩ = some (.int .i64 (-1))/\w.cell? ⟨0,1,none⟩ = some (.int .i64 0)/\w.cell? ⟨0,2,none⟩ = some (.int .i64 0)
 t:∀ i,i < n->w.cell? ⟨rb,ro + i * 3,none⟩ = some (.int .i64 (F i 0))/\w.cell? ⟨rb,ro + i * 3 + 1,none⟩ = some (.int .i64 (F i 1))/\w.cell? ⟨rb,ro + i * 3 + 2,none⟩ = some (.int .i64 (F i 2))
 tab:Lib.TabIs Tryz.prog w "internal/strconv.uint64pow10" .u64 Lib.pow10Tab
 lt:rb < k1/\2 < k1/\k1 < k3/\k3 < k4/\k4 < w.heap.size
theorem TxW.keep {n rb ro rcap k1 k3 k4:Nat} {F:Nat->Nat->Int} {w w':World} (h:TxW n rb ro rcap k1 k3 k4 F w) (hb:Below k1 w w') (ho:Lib.OthersKept 5 (some k3) w w'):TxW n rb ro rcap k1 k3 k4 F w':=by
 obtain ⟨l1,l2,l3,l4,l5⟩:=h.lt;have hc:∀ p:Addr,p.block < k1->w'.cell? p = w.cell? p:=fun p hp=>hb.cell hp;refine ⟨ho k1 _ h.h1 (by simp; omega) (by simp),ho k4 _ h.h4 (by simp; omega) (by simp),?_,fun i hi=>?_,?_,l1,l2,l3,l4,Nat.lt_of_lt_of_le l5 hb.size⟩
 ·rw [hc _ (by show 0 < k1; omega),hc _ (by show 0 < k1; omega),hc _ (by show 0 < k1; omega)]; exact h.g
 ·rw [hc _ l1,hc _ l1,hc _ l1]; exact h.t i hi
 ·have:=h.tab;unfold Lib.TabIs World.var? at this ⊢;rw [show Tryz.prog.globalNamed "internal/strconv.uint64pow10" = some 2 by kernel_rfl] at this ⊢;simp only [Option.bind_some] at this ⊢;rw [hb.block 2 l2];exact this
def WrP (k1 k3:Nat) (l:List UInt8) (w:World) (e:Ending) (w':World):Prop:=e = .returned (.tuple #[])/\Lib.IsBuilderF 127 5 k1 k3 (Lib.byteCells l) w'/\Below k1 w w'/\Lib.OthersKept 5 (some k3) w w'
theorem qra {w:World} (c:Array Value) (T:TypeId) (p:Addr) (hp:p.block < w.heap.size):(w.alloc (.cells c T)).cell? p = w.cell? p:=((Below.refl w.heap.size w).alloc (jf5 _) _).cell hp
theorem str3 (d:List UInt8):Lib.strCells (⟨#[40]⟩ ++ ⟨d.toArray⟩ ++ ⟨#[32]⟩) = Lib.byteCells (40 :: (d ++ [32])):=by
 rw [Lib.strCells_eq];simp [ByteArray.data_append]
theorem jdu {n rb ro rcap k1 k3 k4:Nat} {F:Nat->Nat->Int} (i:Nat) (hi:i < n) (bs:List UInt8) (w:World) (T:TxW n rb ro rcap k1 k3 k4 F w) (hb:Lib.IsBuilderF 127 5 k1 k3 (Lib.byteCells bs) w) (hlen:bs.length + 1≤70368744177664)
  (f0:F i 0 = -1) (f1:F i 1 = 0) (f2:F i 2 = 0) :
  Calls Tryz.prog 67 #[.int .i64 i,.pointer (some ⟨k1,0,none⟩),.pointer (some ⟨k3,0,none⟩),.pointer (some ⟨k4,0,none⟩)] w (WrP k1 k3 (bs ++ [46]) w):=by
 obtain ⟨l1,l2,l3,l4,l5⟩:=T.lt;have c1:w.cell? ⟨k1,0,none⟩ = some (.slice (some ⟨rb,ro,none⟩) n rcap):=by rw [Lib.cell_of_heap T.h1]; rfl
 obtain ⟨n0,n1,n2⟩:=T.t i hi;rw [f0] at n0; rw [f1] at n1; rw [f2] at n2;clear f0 f1 f2;have g0:∀ c,(w.alloc (.cells c 55)).cell? ⟨0,0,none⟩ = some (.int .i64 (-1)):=fun c=>(qra _ _ _ (by show 0 < _; omega)).trans T.g.1;have g1:∀ c,(w.alloc (.cells c 55)).cell? ⟨0,1,none⟩ = some (.int .i64 0):=fun c=>(qra _ _ _ (by show 0 < _; omega)).trans T.g.2.1;have g2:∀ c,(w.alloc (.cells c 55)).cell? ⟨0,2,none⟩ = some (.int .i64 0):=fun c=>(qra _ _ _ (by show 0 < _; omega)).trans T.g.2.2
 go_enter Tryz.func67,Tryz.ntmps67
 go_wp2_with (go_at_call 68; refine (q2j k1 k3 _ 46 _ (hb.alloc _) (by rw [Lib.byteCells_length]; omega) (by simp; omega)).mono ?_)
 rintro e w1 ⟨rfl,h1,b1,kk⟩
 go_wp2
 ((try simp only [Exit.inBlock,Exit.then]); refine bodyPost_ret (results_none rfl _ _ _) rfl ?_)
 refine ⟨rfl,?_,?_,?_⟩
 ·rw [Lib.byteCells_append]; exact Or.inr h1
 ·exact ((Below.refl k1 w).alloc (by omega) _).trans b1
 ·exact ((Lib.OthersKept.refl _ _ w).alloc _).trans kk
theorem jdv {n rb ro rcap k1 k3 k4:Nat} {F:Nat->Nat->Int} (i x p q:Nat) (hi:i < n) (hx:x < 1000000) (zt ot:List UInt8) (bs:List UInt8) (w:World) (T:TxW n rb ro rcap k1 k3 k4 F w) (hb:Lib.IsBuilderF 127 5 k1 k3 (Lib.byteCells bs) w)
  (hlen:bs.length + (Lib.decDigits x).length + zt.length + ot.length + 4≤70368744177664) (f0:F i 0 = (x:Int)) (f1:F i 1 = (p:Int)) (f2:F i 2 = (q:Int))
  (hz:∀ (bs:List UInt8) (w:World),TxW n rb ro rcap k1 k3 k4 F w->Lib.IsBuilderF 127 5 k1 k3 (Lib.byteCells bs) w->bs.length + zt.length≤70368744177664->Calls Tryz.prog 67 #[.int .i64 p,.pointer (some ⟨k1,0,none⟩),.pointer (some ⟨k3,0,none⟩),.pointer (some ⟨k4,0,none⟩)] w (WrP k1 k3 (bs ++ zt) w))
  (ho:∀ (bs:List UInt8) (w:World),TxW n rb ro rcap k1 k3 k4 F w->Lib.IsBuilderF 127 5 k1 k3 (Lib.byteCells bs) w->bs.length + ot.length≤70368744177664->Calls Tryz.prog 67 #[.int .i64 q,.pointer (some ⟨k1,0,none⟩),.pointer (some ⟨k3,0,none⟩),.pointer (some ⟨k4,0,none⟩)] w (WrP k1 k3 (bs ++ ot) w)) :
  Calls Tryz.prog 67 #[.int .i64 i,.pointer (some ⟨k1,0,none⟩),.pointer (some ⟨k3,0,none⟩),.pointer (some ⟨k4,0,none⟩)] w (WrP k1 k3 (bs ++ (40 :: (Lib.decDigits x ++ 32 :: (zt ++ 32 :: (ot ++ [41]))))) w):=by
 obtain ⟨l1,l2,l3,l4,l5⟩:=T.lt;have c1:w.cell? ⟨k1,0,none⟩ = some (.slice (some ⟨rb,ro,none⟩) n rcap):=by rw [Lib.cell_of_heap T.h1]; rfl
 obtain ⟨n0,n1,n2⟩:=T.t i hi;rw [f0] at n0; rw [f1] at n1; rw [f2] at n2;clear f0 f1 f2;have g0:∀ c,(w.alloc (.cells c 55)).cell? ⟨0,0,none⟩ = some (.int .i64 (-1)):=fun c=>(qra _ _ _ (by show 0 < _; omega)).trans T.g.1;have g1:∀ c,(w.alloc (.cells c 55)).cell? ⟨0,1,none⟩ = some (.int .i64 0):=fun c=>(qra _ _ _ (by show 0 < _; omega)).trans T.g.2.1;have g2:∀ c,(w.alloc (.cells c 55)).cell? ⟨0,2,none⟩ = some (.int .i64 0):=fun c=>(qra _ _ _ (by show 0 < _; omega)).trans T.g.2.2;have hd:((x:Int) == -1) = false:=by rw [beq_eq_false_iff_ne]; omega
 have a1:∀ c,Below k1 w (w.alloc (.cells c 55)):=fun c=>(Below.refl k1 w).alloc (by omega) _;have a2:∀ c,Lib.OthersKept 5 (some k3) w (w.alloc (.cells c 55)):=fun c=>(Lib.OthersKept.refl _ _ w).alloc _
 go_enter Tryz.func67,Tryz.ntmps67
 go_wp2_with (go_at_call 70; refine (itoR x hx _ (T.keep (a1 _) (a2 _)).tab).mono ?_)
 rintro e w1 ⟨rfl,b1⟩;have B1:Below k1 w w1:=(a1 _).trans (b1.mono (by simp; omega));have O1:Lib.OthersKept 5 (some k3) w w1:=(a2 _).trans (q6g b1);have T1:=T.keep B1 O1;have hb1:=q3z (hb.alloc _) b1;have N1:w1.heap[w.heap.size]? = some (.cells #[.int .i64 x,.int .i64 p,.int .i64 q] 55 (0,0)):=by rw [b1.block _ (by simp)]; show (w.heap.push _)[w.heap.size]? = _; rw [Array.getElem?_push_size]
 have hs1:=B1.size;clear a1 a2 b1 g0 g1 g2 n0 n1 n2 c1 hd T hb
 go_wp2_with (go_at_call 69; refine (wStr k1 k3 _ _ _ hb1 ?cl (by omega)).mono ?_)
 case cl=>rw [Lib.byteCells_length]; simp [ByteArray.size]; omega
 rintro e w2 ⟨rfl,h2,b2,o2⟩;rw [str3,<- Lib.byteCells_append] at h2;have B2:Below k1 w w2:=B1.trans b2;have O2:=O1.trans o2;have T2:=T1.keep b2 o2;have hs2:=B2.size;have N2:=o2 _ _ N1 (by simp; omega) (by simp);have c4:w2.cell? ⟨k4,0,none⟩ = some (.func (.func 67) #[] #[.pointer (some ⟨k1,0,none⟩),.pointer (some ⟨k3,0,none⟩),.pointer (some ⟨k4,0,none⟩)]):=by rw [Lib.cell_of_heap T2.h4]; rfl
 have nz:w2.cell? ⟨w.heap.size,1,none⟩ = some (.int .i64 p):=by rw [Lib.cell_of_heap N2]; rfl
 clear N1 T1 hb1 b2 o2 B1 O1
 go_wp2_with (go_at_call 67; refine (hz _ _ T2 (Or.inr h2) ?cl2).mono ?_)
 case cl2=>simp; omega
 rintro e w3 ⟨rfl,h3,b3,o3⟩;have B3:Below k1 w w3:=B2.trans b3;have O3:=O2.trans o3;have T3:=T2.keep b3 o3;have hs3:=B3.size;have N3:=o3 _ _ N2 (by simp; omega) (by simp);clear N2 T2 h2 b3 o3 B2 O2 c4 nz
 go_wp2_with (go_at_call 68; refine (q2j k1 k3 _ 32 _ h3 ?cl3 (by omega)).mono ?_)
 case cl3=>rw [Lib.byteCells_length]; simp; omega
 rintro e w4 ⟨rfl,h4,b4,o4⟩
 have h4':Lib.IsBuilderF 127 5 k1 k3 (Lib.byteCells (bs ++ 40 :: (Lib.decDigits x ++ [32]) ++ zt ++ [32])) w4:=by
  rw [Lib.byteCells_append _ [32]]; exact Or.inr h4
 have B4:Below k1 w w4:=B3.trans b4;have O4:=O3.trans o4;have T4:=T3.keep b4 o4;have hs4:=B4.size;have N4:=o4 _ _ N3 (by simp; omega) (by simp);have c4:w4.cell? ⟨k4,0,none⟩ = some (.func (.func 67) #[] #[.pointer (some ⟨k1,0,none⟩),.pointer (some ⟨k3,0,none⟩),.pointer (some ⟨k4,0,none⟩)]):=by rw [Lib.cell_of_heap T4.h4]; rfl
 have no:w4.cell? ⟨w.heap.size,2,none⟩ = some (.int .i64 q):=by rw [Lib.cell_of_heap N4]; rfl
 clear N3 T3 h3 h4 b4 o4 B3 O3
 go_wp2_with (go_at_call 67; refine (ho _ _ T4 h4' ?cl4).mono ?_)
 case cl4=>simp; omega
 rintro e w5 ⟨rfl,h5,b5,o5⟩;have B5:Below k1 w w5:=B4.trans b5;have O5:=O4.trans o5;have hs5:=B5.size;clear N4 T4 h4' b5 o5 B4 O4 c4 no
 go_wp2_with (go_at_call 68; refine (q2j k1 k3 _ 41 _ h5 ?cl5 (by omega)).mono ?_)
 case cl5=>rw [Lib.byteCells_length]; simp; omega
 rintro e w6 ⟨rfl,h6,b6,o6⟩
 go_wp2
 go_end0
 refine ⟨rfl,?_,B5.trans b6,O5.trans o6⟩;have e6:bs ++ (40 :: (Lib.decDigits x ++ 32 :: (zt ++ 32 :: (ot ++ [41])))) = bs ++ 40 :: (Lib.decDigits x ++ [32]) ++ zt ++ [32] ++ ot ++ [41]:=by simp
 rw [e6,Lib.byteCells_append _ [41]];exact Or.inr h6
def Rp (t:List Tn):DT->Nat->Prop
 | .lf,a=>t[a]? = some lfN
 | .nd i z o,a=>∃ p q:Nat,t[a]? = some ⟨i,p,q⟩/\Rp t z p/\Rp t o q
def tF (t:List Tn) (i:Nat):Nat->Int
 | 0=>(t.getD i default).i
 | 1=>(t.getD i default).z
 | _=>(t.getD i default).o
theorem qzv {t:List Tn} {a:Nat} {n:Tn} (h:t[a]? = some n):a < t.length/\tF t a 0 = n.i/\tF t a 1 = n.z/\tF t a 2 = n.o:=by
 have hd:t.getD a default = n:=by rw [jf0,h]; rfl
 exact ⟨(List.getElem?_eq_some_iff.1 h).1,by rw [tF,hd],by rw [tF,hd],by simp only [tF,hd]⟩
theorem jdt (t:List Tn) {rb ro rcap k1 k3 k4:Nat}:∀ (d:DT) (a:Nat),Rp t d a->d.lim->∀ (bs:List UInt8) (w:World),TxW t.length rb ro rcap k1 k3 k4 (tF t) w->Lib.IsBuilderF 127 5 k1 k3 (Lib.byteCells bs) w->bs.length + d.tx.length≤70368744177664->
  Calls Tryz.prog 67 #[.int .i64 a,.pointer (some ⟨k1,0,none⟩),.pointer (some ⟨k3,0,none⟩),.pointer (some ⟨k4,0,none⟩)] w (WrP k1 k3 (bs ++ d.tx) w)
 | .lf,a,h,_,bs,w,T,hb,hl=>by
  obtain ⟨h1,h2,h3,h4⟩:=qzv h;exact jdu a h1 bs w T hb (by simpa [DT.tx] using hl) h2 h3 h4
 | .nd i z o,a,⟨p,q,h,hz,ho⟩,⟨l1,l2,l3⟩,bs,w,T,hb,hl=>by
  obtain ⟨h1,h2,h3,h4⟩:=qzv h;simp only [DT.tx,List.length_cons,List.length_append,List.length_nil] at hl;exact jdv a i p q h1 (by omega) z.tx o.tx bs w T hb (by omega) h2 h3 h4 (fun bs w T hb hl=>jdt t z p hz l2 bs w T hb hl) (fun bs w T hb hl=>jdt t o q ho l3 bs w T hb hl)
end Go.Proofs.YtpaopccohkldlaaGreatDoor
