/- Lemmas. Conditions: none. -/
import Derived.Test.YtpaopccohkldlaaGreatDoorXP
namespace Go.Proofs.YtpaopccohkldlaaGreatDoor
open Go
def x8:XC:=(sq [oX 2 0,oX 3 1,od 4 (.mv (.c (.bool false)))] (sq [oT 10 12 2,oK 11 14 [.t 10],od 5 (.alloc (.agg [.nil,.nil,.nil,.nil])),oS 4 5 11] (sq [oT 12 4 5,oT 13 5 3,oK 14 15 [.t 12,.t 13],od 6 (.alloc (.agg [.int .u8 0,.int .i64 0,.int .i64 0,.int .u8 0,.int .i64 0])),oS 5 6 14] (sq [oT 15 4 5,oK 16 17 [.t 15],od 17 (.bin .shl (.c (.int .i64 1)) (.t 16)),oD 18 .sub 17 1,oM 7 18] (sq [oT 20 4 5,oT 21 5 6,oM 22 7,oK 23 46 [.t 20,.t 21,.t 22],oM 19 23,oE 24 19 0,oE 25 19 1,od 8 (.alloc (.agg [.int .u8 0,.nil,.nil,.nil,.int .i64 0])),oS 5 8 24,oM 9 25] (.seq (sq [oM 26 9,oD 27 .neq 26 0,oM 28 27,uF 29 28 false 0 8,uL 30 28 false 29,og 31 28 false (.bin .eql (.t 30) (.c (.int .u8 3))),oP 32 28 31,oM 33 32,og 34 33 false (.load true 4 (.t 5)),og 35 33 false (.load true 5 (.t 6)),og 36 33 false (.load true 5 (.t 8)),uM 37 33 false 7,og 38 33 false (.call (.f 47) [.t 34,.t 35,.t 36,.t 37]),og 39 33 false (.un .not (.t 38)),oP 40 33 39] (.cond (.t 40) (sq [od 4 (.mv (.c (.bool false)))] .ret) .skip)) (.seq (.reg [oF 41 0 8,oL 42 41,od 43 (.bin .eql (.t 42) (.c (.int .u8 1))),oT 44 4 5,oT 45 5 6,oK 46 48 [.t 44,.t 45],od 47 (.beq false (.t 43) (.t 46)),oM 48 47,og 49 48 true (.call (.f 49) []),od 50 (.pick (.t 48) (.t 49) (.c (.bool false))),oM 4 50] [(1,5)]) .ret)))))))
def i8:FnI:=⟨51,[.tmp 4],x8⟩
theorem ok8:qai Tryz.prog 8 i8:=jqm Tryz.func8 rfl (by kernel_rfl)
end Go.Proofs.YtpaopccohkldlaaGreatDoor
