/- Bridges and paths: the functions' code as the run takes it (a law). Conditions: none. -/
import Derived.Test.YtlmniacemoohpaaGreatDoorXP
namespace Go.Proofs.YtlmniacemoohpaaGreatDoor
open Go
def x8 : XC:=(.seq (.ops [od 1 (.box (.t 0)),od 2 (.mv (.c (.bool false)))]) (.seq (.ops [od 7 (.load true 12 (.t 1)),od 8 (.call (.f 25) [.t 7]),od 3 (.alloc (.agg [.nil,.nil,.nil,.nil])),⟨none,none,.store 4 (.t 3) (.t 8)⟩]) (.seq (.ops [od 9 (.load true 4 (.t 3)),od 10 (.call (.f 30) [.t 9]),od 4 (.mv (.t 10))]) (.seq (.seq (.ops [od 11 (.mv (.t 4)),od 12 (.len (.t 11)),od 13 (.bin .geq (.t 12) (.c (.int .i64 5000)))]) (.cond (.t 13) (.seq (.ops [od 14 (.call (.f 31) []),od 2 (.mv (.t 14))]) .ret) .skip)) (.seq (.ops [od 16 (.load true 4 (.t 3)),od 17 (.call (.f 32) [.t 16]),od 15 (.mv (.t 17)),od 18 (.extract (.t 15) 0),od 19 (.extract (.t 15) 1),od 5 (.mv (.t 18)),od 6 (.mv (.t 19))]) (.seq (.ops [od 20 (.mv (.t 6)),od 21 (.bin .eql (.t 20) (.c (.int .i64 0))),od 22 (.mv (.t 21)),og 23 22 true (.mv (.t 5)),og 24 22 true (.mv (.t 4)),og 25 22 true (.len (.t 24)),og 26 22 true (.conv .u64 (.t 25)),og 27 22 true (.bin .eql (.t 23) (.t 26)),od 28 (.pick (.t 22) (.t 27) (.c (.bool false))),od 29 (.mv (.t 28)),og 30 29 true (.call (.f 31) []),od 31 (.pick (.t 29) (.t 30) (.c (.bool false))),od 2 (.mv (.t 31))]) .ret))))))
def i8 : FnI:=⟨32,[.tmp 2],x8⟩
theorem ok8 : FiOk Tryz.prog 8 i8:=⟨_,_,Tryz.func8,rfl,by decide,by kernel_rfl,by kernel_rfl,by kernel_rfl⟩
end Go.Proofs.YtlmniacemoohpaaGreatDoor
