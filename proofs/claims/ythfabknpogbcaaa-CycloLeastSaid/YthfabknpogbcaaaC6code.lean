/- The functions of the seat, as code of the abstract machine. -/
import Derived.Test.YthfabknpogbcaaaAy25
namespace Go.Proofs.Ythfabknpogbcaaa
open Go Go.Ay
set_option maxRecDepth 100000
/- 3 cayley/cayleylaw06.CycloMakes -/
abbrev n_law06_CycloMakes : Nat := 3
def c_law06_CycloMakes : Ay.Fn := ⟨3, [some 0, some 1, some 2, none, none, none, none, none, none, none, none, none, none, none, none, none, none, none, none, none, none, none], [.v 3],
.seq (
.reg [⟨.v 3, none, .op (.mov (.c (.bool false)))⟩]) (
.seq (
.seq (
.reg [⟨.l, none, .call 10 []⟩,
⟨.v 20, none, .op (.not (.l 0))⟩]) (
.ite (.v 20) (
.seq (
.reg [⟨.v 3, none, .op (.mov (.c (.bool false)))⟩]) (
.ret)) (
.skip))) (
.seq (
.seq (
.reg [⟨.l, none, .op (.mov (.v 2))⟩,
⟨.l, none, .op (.lens (.l 0))⟩,
⟨.v 21, none, .op (.bin .gtr .i64 (.l 0) (.c (.int .i64 200)))⟩]) (
.ite (.v 21) (
.seq (
.reg [⟨.v 3, none, .op (.mov (.c (.bool true)))⟩]) (
.ret)) (
.skip))) (
.seq (
.reg [⟨.l, none, .op (.mov (.v 0))⟩,
⟨.l, none, .call 11 [(.l 0)]⟩,
⟨.l, none, .op (.mov (.l 0))⟩,
⟨.l, none, .op (.ext (.l 0) 0)⟩,
⟨.l, none, .op (.ext (.l 1) 1)⟩,
⟨.v 4, none, .op (.mov (.l 1))⟩,
⟨.v 5, none, .op (.mov (.l 0))⟩]) (
.seq (
.reg [⟨.l, none, .op (.mov (.v 0))⟩,
⟨.l, none, .call 12 [(.l 0)]⟩,
⟨.l, none, .op (.mov (.l 0))⟩,
⟨.l, none, .op (.ext (.l 0) 0)⟩,
⟨.l, none, .op (.ext (.l 1) 1)⟩,
⟨.v 6, none, .op (.mov (.l 1))⟩,
⟨.v 7, none, .op (.mov (.l 0))⟩]) (
.seq (
.reg [⟨.l, none, .op (.mov (.v 0))⟩,
⟨.l, none, .op (.mov (.v 2))⟩,
⟨.l, none, .call 13 [(.l 1), (.l 0)]⟩,
⟨.l, none, .op (.mov (.l 0))⟩,
⟨.l, none, .op (.ext (.l 0) 0)⟩,
⟨.l, none, .op (.ext (.l 1) 1)⟩,
⟨.v 8, none, .op (.alc [(.int .i64 0), .nils])⟩,
⟨.n, none, .op (.st 2 (.v 8) (.l 1))⟩,
⟨.v 9, none, .op (.mov (.l 0))⟩]) (
.seq (
.reg [⟨.l, none, .op (.mov (.v 0))⟩,
⟨.l, none, .op (.mov (.v 2))⟩,
⟨.l, none, .call 14 [(.l 1), (.l 0)]⟩,
⟨.l, none, .op (.mov (.l 0))⟩,
⟨.l, none, .op (.ext (.l 0) 0)⟩,
⟨.l, none, .op (.ext (.l 1) 1)⟩,
⟨.v 10, none, .op (.alc [(.int .i64 0), .nils])⟩,
⟨.n, none, .op (.st 2 (.v 10) (.l 1))⟩,
⟨.v 11, none, .op (.mov (.l 0))⟩]) (
.seq (
.reg [⟨.l, none, .op (.mov (.v 0))⟩,
⟨.l, none, .op (.mov (.v 1))⟩,
⟨.l, none, .call 15 [(.l 1), (.l 0)]⟩,
⟨.l, none, .op (.mov (.l 0))⟩,
⟨.l, none, .op (.ext (.l 0) 0)⟩,
⟨.l, none, .op (.ext (.l 1) 1)⟩,
⟨.v 12, none, .op (.alc [(.int .i64 0), .nils])⟩,
⟨.n, none, .op (.st 2 (.v 12) (.l 1))⟩,
⟨.v 13, none, .op (.mov (.l 0))⟩]) (
.seq (
.reg [⟨.l, none, .op (.mov (.v 0))⟩,
⟨.l, none, .op (.mov (.v 1))⟩,
⟨.l, none, .call 16 [(.l 1), (.l 0)]⟩,
⟨.l, none, .op (.mov (.l 0))⟩,
⟨.l, none, .op (.ext (.l 0) 0)⟩,
⟨.l, none, .op (.ext (.l 1) 1)⟩,
⟨.v 14, none, .op (.alc [(.int .i64 0), .nils])⟩,
⟨.n, none, .op (.st 2 (.v 14) (.l 1))⟩,
⟨.v 15, none, .op (.mov (.l 0))⟩]) (
.seq (
.reg [⟨.l, none, .op (.mov (.v 1))⟩,
⟨.l, none, .call 17 [(.l 0)]⟩,
⟨.l, none, .op (.mov (.l 0))⟩,
⟨.l, none, .op (.ext (.l 0) 0)⟩,
⟨.l, none, .op (.ext (.l 1) 1)⟩,
⟨.v 16, none, .op (.alc [(.int .i64 0), .nils])⟩,
⟨.n, none, .op (.st 2 (.v 16) (.l 1))⟩,
⟨.v 17, none, .op (.mov (.l 0))⟩]) (
.seq (
.reg [⟨.l, none, .op (.mov (.v 1))⟩,
⟨.l, none, .call 18 [(.l 0)]⟩,
⟨.l, none, .op (.mov (.l 0))⟩,
⟨.l, none, .op (.ext (.l 0) 0)⟩,
⟨.l, none, .op (.ext (.l 1) 1)⟩,
⟨.v 18, none, .op (.alc [(.int .i64 0), .nils])⟩,
⟨.n, none, .op (.st 2 (.v 18) (.l 1))⟩,
⟨.v 19, none, .op (.mov (.l 0))⟩]) (
.seq (
.reg [⟨.l, none, .op (.mov (.v 4))⟩,
⟨.l, none, .op (.mov (.v 6))⟩,
⟨.l, none, .call 19 [(.l 1), (.l 0)]⟩,
⟨.l, none, .op (.mov (.l 0))⟩,
⟨.l, some ((.l 0), true), .op (.mov (.v 5))⟩,
⟨.l, some ((.l 1), true), .op (.mov (.v 7))⟩,
⟨.l, some ((.l 2), true), .op (.bin .eql .i64 (.l 1) (.l 0))⟩,
⟨.l, none, .op (.pick (.l 3) (.l 0) (.c (.bool false)))⟩,
⟨.l, none, .op (.mov (.l 0))⟩,
⟨.l, some ((.l 0), true), .op (.ld true 2 (.v 8))⟩,
⟨.l, some ((.l 1), true), .op (.ld true 2 (.v 10))⟩,
⟨.l, some ((.l 2), true), .call 20 [(.l 1), (.l 0)]⟩,
⟨.l, none, .op (.pick (.l 3) (.l 0) (.c (.bool false)))⟩,
⟨.l, none, .op (.mov (.l 0))⟩,
⟨.l, some ((.l 0), true), .op (.mov (.v 9))⟩,
⟨.l, some ((.l 1), true), .op (.mov (.v 11))⟩,
⟨.l, some ((.l 2), true), .op (.bin .eql .i64 (.l 1) (.l 0))⟩,
⟨.l, none, .op (.pick (.l 3) (.l 0) (.c (.bool false)))⟩,
⟨.l, none, .op (.mov (.l 0))⟩,
⟨.l, some ((.l 0), true), .op (.ld true 2 (.v 12))⟩,
⟨.l, some ((.l 1), true), .op (.ld true 2 (.v 14))⟩,
⟨.l, some ((.l 2), true), .call 20 [(.l 1), (.l 0)]⟩,
⟨.l, none, .op (.pick (.l 3) (.l 0) (.c (.bool false)))⟩,
⟨.l, none, .op (.mov (.l 0))⟩,
⟨.l, some ((.l 0), true), .op (.mov (.v 13))⟩,
⟨.l, some ((.l 1), true), .op (.mov (.v 15))⟩,
⟨.l, some ((.l 2), true), .op (.bin .eql .i64 (.l 1) (.l 0))⟩,
⟨.l, none, .op (.pick (.l 3) (.l 0) (.c (.bool false)))⟩,
⟨.l, none, .op (.mov (.l 0))⟩,
⟨.l, some ((.l 0), true), .op (.ld true 2 (.v 16))⟩,
⟨.l, some ((.l 1), true), .op (.ld true 2 (.v 18))⟩,
⟨.l, some ((.l 2), true), .call 20 [(.l 1), (.l 0)]⟩,
⟨.l, none, .op (.pick (.l 3) (.l 0) (.c (.bool false)))⟩,
⟨.l, none, .op (.mov (.l 0))⟩,
⟨.l, some ((.l 0), true), .op (.mov (.v 17))⟩,
⟨.l, some ((.l 1), true), .op (.mov (.v 19))⟩,
⟨.l, some ((.l 2), true), .op (.bin .eql .i64 (.l 1) (.l 0))⟩,
⟨.l, none, .op (.pick (.l 3) (.l 0) (.c (.bool false)))⟩,
⟨.v 3, none, .op (.mov (.l 0))⟩]) (
.ret))))))))))))⟩
/- 4 cayley/cayleylaw06.CycloLeast -/
abbrev n_law06_CycloLeast : Nat := 4
def c_law06_CycloLeast : Ay.Fn := ⟨3, [some 0, some 1, some 2, none, none, none, none, none, none, none, none, none, none, none, none, none, none, none, none, none, none, none, none, none, none, none, none], [.v 3],
.seq (
.reg [⟨.v 3, none, .op (.mov (.c (.bool false)))⟩]) (
.seq (
.seq (
.reg [⟨.l, none, .call 10 []⟩,
⟨.v 18, none, .op (.not (.l 0))⟩]) (
.ite (.v 18) (
.seq (
.reg [⟨.v 3, none, .op (.mov (.c (.bool false)))⟩]) (
.ret)) (
.skip))) (
.seq (
.seq (
.reg [⟨.l, none, .op (.mov (.v 0))⟩,
⟨.l, none, .op (.lens (.l 0))⟩,
⟨.v 19, none, .op (.bin .gtr .i64 (.l 0) (.c (.int .i64 40)))⟩]) (
.ite (.v 19) (
.seq (
.reg [⟨.v 3, none, .op (.mov (.c (.bool true)))⟩]) (
.ret)) (
.skip))) (
.seq (
.reg [⟨.l, none, .op (.mov (.v 1))⟩,
⟨.l, none, .call 21 [(.l 0)]⟩,
⟨.v 1, none, .op (.mov (.l 0))⟩]) (
.seq (
.reg [⟨.l, none, .op (.mov (.v 2))⟩,
⟨.l, none, .op (.mov (.v 1))⟩,
⟨.l, none, .op (.bin .quo .i64 (.c (.int .i64 120)) (.l 0))⟩,
⟨.l, none, .call 22 [(.l 2), (.l 0)]⟩,
⟨.l, none, .op (.bin .add .i64 (.c (.int .i64 1)) (.l 0))⟩,
⟨.v 2, none, .op (.mov (.l 0))⟩]) (
.seq (
.reg [⟨.l, none, .op (.mov (.v 0))⟩,
⟨.l, none, .op (.bld [.nils, (.int .i64 0)] [(0, 1, (.l 0))])⟩,
⟨.l, none, .op (.box (.l 0))⟩,
⟨.v 4, none, .op (.mov (.l 0))⟩]) (
.seq (
.reg [⟨.v 5, none, .op (.mov (.c .nils))⟩]) (
.seq (
.seq (
.reg [⟨.v 6, none, .op (.mov (.c (.int .i64 0)))⟩]) (
.block 0 (
.loop (
.seq (
.seq (
.reg [⟨.l, none, .op (.mov (.v 6))⟩,
⟨.l, none, .op (.mov (.v 1))⟩,
⟨.l, none, .op (.bin .lss .i64 (.l 1) (.l 0))⟩,
⟨.l, none, .op (.mov (.l 0))⟩,
⟨.l, some ((.l 0), true), .op (.mov (.v 6))⟩,
⟨.l, some ((.l 1), true), .op (.bin .lss .i64 (.l 0) (.c (.int .i64 8)))⟩,
⟨.v 20, none, .op (.pick (.l 2) (.l 0) (.c (.bool false)))⟩]) (
.ite (.v 20) (
.skip) (
.exit 0))) (
.seq (
.block 1 (
.reg [⟨.l, none, .op (.mov (.v 5))⟩,
⟨.l, none, .op (.mov (.v 4))⟩,
⟨.l, none, .call 23 [(.l 0), (.c (.int .i64 19))]⟩,
⟨.l, none, .op (.bin .sub .i64 (.l 0) (.c (.int .i64 9)))⟩,
⟨.l, none, .op (.bls 1 [(.int .i64 0)] 1 [(0, 1, (.l 0))])⟩,
⟨.l, none, .op (.app 1 8 (.l 4) (.l 0))⟩,
⟨.v 5, none, .op (.mov (.l 0))⟩])) (
.reg [⟨.l, none, .op (.mov (.v 6))⟩,
⟨.l, none, .op (.bin .add .i64 (.l 0) (.c (.int .i64 1)))⟩,
⟨.v 6, none, .op (.mov (.l 0))⟩])))))) (
.seq (
.reg [⟨.l, none, .op (.mov (.v 2))⟩,
⟨.l, none, .op (.mov (.v 5))⟩,
⟨.l, none, .op (.lens (.l 0))⟩,
⟨.l, none, .op (.bin .mul .i64 (.l 2) (.l 0))⟩,
⟨.l, none, .op (.bin .add .i64 (.l 0) (.c (.int .i64 1)))⟩,
⟨.l, none, .op (.mks 1 8 [(.int .i64 0)] (.l 0) (.l 0))⟩,
⟨.v 7, none, .op (.mov (.l 0))⟩]) (
.seq (
.seq (
.reg [⟨.v 8, none, .op (.mov (.c (.int .i64 0)))⟩]) (
.block 2 (
.loop (
.seq (
.seq (
.reg [⟨.l, none, .op (.mov (.v 8))⟩,
⟨.l, none, .op (.mov (.v 5))⟩,
⟨.l, none, .op (.lens (.l 0))⟩,
⟨.v 21, none, .op (.bin .lss .i64 (.l 2) (.l 0))⟩]) (
.ite (.v 21) (
.skip) (
.exit 2))) (
.seq (
.block 3 (
.reg [⟨.l, none, .op (.mov (.v 7))⟩,
⟨.l, none, .op (.mov (.v 8))⟩,
⟨.l, none, .op (.mov (.v 2))⟩,
⟨.l, none, .op (.bin .mul .i64 (.l 1) (.l 0))⟩,
⟨.l, none, .op (.mov (.v 5))⟩,
⟨.l, none, .op (.mov (.v 8))⟩,
⟨.l, none, .op (.ixa 1 (.l 1) (.l 0))⟩,
⟨.l, none, .op (.ld false 1 (.l 0))⟩,
⟨.l, none, .op (.ixa 1 (.l 7) (.l 4))⟩,
⟨.n, none, .op (.st 1 (.l 0) (.l 1))⟩])) (
.reg [⟨.l, none, .op (.mov (.v 8))⟩,
⟨.l, none, .op (.bin .add .i64 (.l 0) (.c (.int .i64 1)))⟩,
⟨.v 8, none, .op (.mov (.l 0))⟩])))))) (
.seq (
.reg [⟨.l, none, .op (.mov (.v 1))⟩,
⟨.l, none, .op (.mov (.v 5))⟩,
⟨.l, none, .call 13 [(.l 1), (.l 0)]⟩,
⟨.l, none, .op (.mov (.l 0))⟩,
⟨.l, none, .op (.ext (.l 0) 0)⟩,
⟨.l, none, .op (.ext (.l 1) 1)⟩,
⟨.v 9, none, .op (.alc [(.int .i64 0), .nils])⟩,
⟨.n, none, .op (.st 2 (.v 9) (.l 1))⟩,
⟨.v 10, none, .op (.mov (.l 0))⟩]) (
.seq (
.reg [⟨.l, none, .op (.mov (.v 1))⟩,
⟨.l, none, .op (.mov (.v 2))⟩,
⟨.l, none, .op (.bin .mul .i64 (.l 1) (.l 0))⟩,
⟨.l, none, .op (.mov (.v 7))⟩,
⟨.l, none, .call 13 [(.l 1), (.l 0)]⟩,
⟨.l, none, .op (.mov (.l 0))⟩,
⟨.l, none, .op (.ext (.l 0) 0)⟩,
⟨.l, none, .op (.ext (.l 1) 1)⟩,
⟨.v 11, none, .op (.alc [(.int .i64 0), .nils])⟩,
⟨.n, none, .op (.st 2 (.v 11) (.l 1))⟩,
⟨.v 12, none, .op (.mov (.l 0))⟩]) (
.seq (
.seq (
.reg [⟨.l, none, .op (.mov (.v 10))⟩,
⟨.l, none, .op (.bin .neq .i64 (.l 0) (.c (.int .i64 0)))⟩,
⟨.l, none, .op (.mov (.l 0))⟩,
⟨.l, some ((.l 0), false), .op (.mov (.v 12))⟩,
⟨.l, some ((.l 1), false), .op (.bin .neq .i64 (.l 0) (.c (.int .i64 0)))⟩,
⟨.l, none, .op (.pick (.l 2) (.c (.bool true)) (.l 0))⟩,
⟨.l, none, .op (.mov (.l 0))⟩,
⟨.l, some ((.l 0), false), .op (.ld true 2 (.v 9))⟩,
⟨.l, some ((.l 1), false), .op (.ld true 2 (.v 11))⟩,
⟨.l, some ((.l 2), false), .call 20 [(.l 1), (.l 0)]⟩,
⟨.l, some ((.l 3), false), .op (.not (.l 0))⟩,
⟨.l, none, .op (.pick (.l 4) (.c (.bool true)) (.l 0))⟩,
⟨.l, none, .op (.mov (.l 0))⟩,
⟨.l, some ((.l 0), false), .op (.fla 0 (.v 9))⟩,
⟨.l, some ((.l 1), false), .op (.ld false 1 (.l 0))⟩,
⟨.l, some ((.l 2), false), .op (.bin .lss .i64 (.l 0) (.c (.int .i64 1)))⟩,
⟨.l, none, .op (.pick (.l 3) (.c (.bool true)) (.l 0))⟩,
⟨.l, none, .op (.mov (.l 0))⟩,
⟨.l, some ((.l 0), false), .op (.mov (.v 1))⟩,
⟨.l, some ((.l 1), false), .op (.fla 0 (.v 9))⟩,
⟨.l, some ((.l 2), false), .op (.ld false 1 (.l 0))⟩,
⟨.l, some ((.l 3), false), .op (.bin .rem .i64 (.l 2) (.l 0))⟩,
⟨.l, some ((.l 4), false), .op (.bin .neq .i64 (.l 0) (.c (.int .i64 0)))⟩,
⟨.l, none, .op (.pick (.l 5) (.c (.bool true)) (.l 0))⟩,
⟨.l, none, .op (.mov (.l 0))⟩,
⟨.l, some ((.l 0), false), .op (.ld true 2 (.v 9))⟩,
⟨.l, some ((.l 1), false), .call 24 [(.l 0)]⟩,
⟨.l, some ((.l 2), false), .op (.bin .neq .i64 (.l 0) (.c (.int .i64 0)))⟩,
⟨.v 22, none, .op (.pick (.l 3) (.c (.bool true)) (.l 0))⟩]) (
.ite (.v 22) (
.seq (
.reg [⟨.v 3, none, .op (.mov (.c (.bool false)))⟩]) (
.ret)) (
.skip))) (
.seq (
.seq (
.reg [⟨.v 13, none, .op (.mov (.c (.int .i64 2)))⟩]) (
.block 4 (
.loop (
.seq (
.seq (
.reg [⟨.l, none, .op (.mov (.v 13))⟩,
⟨.l, none, .op (.fla 0 (.v 9))⟩,
⟨.l, none, .op (.ld false 1 (.l 0))⟩,
⟨.v 23, none, .op (.bin .leq .i64 (.l 2) (.l 0))⟩]) (
.ite (.v 23) (
.skip) (
.exit 4))) (
.seq (
.block 5 (
.seq (
.seq (
.reg [⟨.l, none, .op (.fla 0 (.v 9))⟩,
⟨.l, none, .op (.ld false 1 (.l 0))⟩,
⟨.l, none, .op (.mov (.v 13))⟩,
⟨.l, none, .op (.bin .rem .i64 (.l 1) (.l 0))⟩,
⟨.l, none, .op (.bin .neq .i64 (.l 0) (.c (.int .i64 0)))⟩,
⟨.l, none, .op (.mov (.l 0))⟩,
⟨.l, some ((.l 0), false), .op (.mov (.v 13))⟩,
⟨.l, some ((.l 1), false), .call 25 [(.l 0)]⟩,
⟨.l, some ((.l 2), false), .op (.not (.l 0))⟩,
⟨.v 24, none, .op (.pick (.l 3) (.c (.bool true)) (.l 0))⟩]) (
.ite (.v 24) (
.exit 5) (
.skip))) (
.seq (
.reg [⟨.v 14, none, .op (.mov (.c (.bool false)))⟩]) (
.seq (
.seq (
.reg [⟨.v 15, none, .op (.mov (.c (.int .i64 1)))⟩]) (
.block 6 (
.loop (
.seq (
.seq (
.reg [⟨.l, none, .op (.mov (.v 15))⟩,
⟨.l, none, .op (.fla 0 (.v 9))⟩,
⟨.l, none, .op (.ld false 1 (.l 0))⟩,
⟨.v 25, none, .op (.bin .lss .i64 (.l 2) (.l 0))⟩]) (
.ite (.v 25) (
.skip) (
.exit 6))) (
.seq (
.block 7 (
.seq (
.reg [⟨.l, none, .op (.ld true 2 (.v 9))⟩,
⟨.l, none, .op (.mov (.v 15))⟩,
⟨.l, none, .call 26 [(.l 1), (.l 0)]⟩,
⟨.l, none, .op (.mov (.l 0))⟩,
⟨.l, none, .op (.ext (.l 0) 0)⟩,
⟨.l, none, .op (.ext (.l 1) 1)⟩,
⟨.v 16, none, .op (.alc [(.int .i64 0), .nils])⟩,
⟨.n, none, .op (.st 2 (.v 16) (.l 1))⟩,
⟨.v 17, none, .op (.mov (.l 0))⟩]) (
.reg [⟨.l, none, .op (.mov (.v 14))⟩,
⟨.l, none, .op (.mov (.l 0))⟩,
⟨.l, some ((.l 0), false), .op (.mov (.v 17))⟩,
⟨.l, some ((.l 1), false), .op (.bin .eql .i64 (.l 0) (.c (.int .i64 0)))⟩,
⟨.l, some ((.l 2), false), .op (.mov (.l 0))⟩,
⟨.l, some ((.l 0), true), .op (.ld true 2 (.v 16))⟩,
⟨.l, some ((.l 1), true), .op (.ld true 2 (.v 9))⟩,
⟨.l, some ((.l 2), true), .call 20 [(.l 1), (.l 0)]⟩,
⟨.l, some ((.l 3), true), .op (.not (.l 0))⟩,
⟨.l, some ((.l 7), false), .op (.pick (.l 4) (.l 0) (.c (.bool false)))⟩,
⟨.l, none, .op (.pick (.l 8) (.c (.bool true)) (.l 0))⟩,
⟨.v 14, none, .op (.mov (.l 0))⟩]))) (
.reg [⟨.l, none, .op (.mov (.v 15))⟩,
⟨.l, none, .op (.fla 0 (.v 9))⟩,
⟨.l, none, .op (.ld false 1 (.l 0))⟩,
⟨.l, none, .op (.mov (.v 13))⟩,
⟨.l, none, .op (.bin .quo .i64 (.l 1) (.l 0))⟩,
⟨.l, none, .op (.bin .add .i64 (.l 4) (.l 0))⟩,
⟨.v 15, none, .op (.mov (.l 0))⟩])))))) (
.seq (
.reg [⟨.l, none, .op (.mov (.v 14))⟩,
⟨.v 26, none, .op (.not (.l 0))⟩]) (
.ite (.v 26) (
.seq (
.reg [⟨.v 3, none, .op (.mov (.c (.bool false)))⟩]) (
.ret)) (
.skip))))))) (
.reg [⟨.l, none, .op (.mov (.v 13))⟩,
⟨.l, none, .op (.bin .add .i64 (.l 0) (.c (.int .i64 1)))⟩,
⟨.v 13, none, .op (.mov (.l 0))⟩])))))) (
.seq (
.reg [⟨.v 3, none, .op (.mov (.c (.bool true)))⟩]) (
.ret)))))))))))))))⟩
/- 5 cayley/cayleylaw06.CycloGalois -/
abbrev n_law06_CycloGalois : Nat := 5
def c_law06_CycloGalois : Ay.Fn := ⟨4, [some 0, some 1, some 2, some 3, none, none, none, none, none, none, none, none, none, none, none, none, none, none, none, none, none, none, none, none, none, none, none, none, none, none, none, none, none, none, none, none, none, none, none, none], [.v 4],
.seq (
.reg [⟨.v 4, none, .op (.mov (.c (.bool false)))⟩]) (
.seq (
.seq (
.reg [⟨.l, none, .call 10 []⟩,
⟨.v 38, none, .op (.not (.l 0))⟩]) (
.ite (.v 38) (
.seq (
.reg [⟨.v 4, none, .op (.mov (.c (.bool false)))⟩]) (
.ret)) (
.skip))) (
.seq (
.seq (
.reg [⟨.l, none, .op (.mov (.v 0))⟩,
⟨.l, none, .op (.lens (.l 0))⟩,
⟨.v 39, none, .op (.bin .gtr .i64 (.l 0) (.c (.int .i64 60)))⟩]) (
.ite (.v 39) (
.seq (
.reg [⟨.v 4, none, .op (.mov (.c (.bool true)))⟩]) (
.ret)) (
.skip))) (
.seq (
.reg [⟨.l, none, .op (.mov (.v 1))⟩,
⟨.l, none, .call 21 [(.l 0)]⟩,
⟨.v 1, none, .op (.mov (.l 0))⟩]) (
.seq (
.reg [⟨.l, none, .op (.mov (.v 1))⟩,
⟨.l, none, .op (.mov (.v 2))⟩,
⟨.l, none, .call 27 [(.l 1), (.l 0)]⟩,
⟨.l, none, .op (.mov (.v 1))⟩,
⟨.l, none, .op (.mov (.v 3))⟩,
⟨.l, none, .call 27 [(.l 1), (.l 0)]⟩,
⟨.v 2, none, .op (.mov (.l 3))⟩,
⟨.v 3, none, .op (.mov (.l 0))⟩]) (
.seq (
.reg [⟨.l, none, .op (.mov (.v 0))⟩,
⟨.l, none, .op (.bld [.nils, (.int .i64 0)] [(0, 1, (.l 0))])⟩,
⟨.l, none, .op (.box (.l 0))⟩,
⟨.v 5, none, .op (.mov (.l 0))⟩]) (
.seq (
.reg [⟨.l, none, .op (.mov (.v 5))⟩,
⟨.l, none, .op (.mov (.v 1))⟩,
⟨.l, none, .call 28 [(.l 1), (.l 0)]⟩,
⟨.l, none, .op (.mov (.l 0))⟩,
⟨.l, none, .op (.ext (.l 0) 0)⟩,
⟨.l, none, .op (.ext (.l 1) 1)⟩,
⟨.v 6, none, .op (.alc [(.int .i64 0), .nils])⟩,
⟨.n, none, .op (.st 2 (.v 6) (.l 1))⟩,
⟨.v 7, none, .op (.mov (.l 0))⟩]) (
.seq (
.reg [⟨.l, none, .op (.mov (.v 5))⟩,
⟨.l, none, .op (.mov (.v 1))⟩,
⟨.l, none, .call 28 [(.l 1), (.l 0)]⟩,
⟨.l, none, .op (.mov (.l 0))⟩,
⟨.l, none, .op (.ext (.l 0) 0)⟩,
⟨.l, none, .op (.ext (.l 1) 1)⟩,
⟨.v 8, none, .op (.alc [(.int .i64 0), .nils])⟩,
⟨.n, none, .op (.st 2 (.v 8) (.l 1))⟩,
⟨.v 9, none, .op (.mov (.l 0))⟩]) (
.seq (
.reg [⟨.l, none, .op (.ld true 2 (.v 6))⟩,
⟨.l, none, .op (.mov (.v 2))⟩,
⟨.l, none, .call 26 [(.l 1), (.l 0)]⟩,
⟨.l, none, .op (.mov (.l 0))⟩,
⟨.l, none, .op (.ext (.l 0) 0)⟩,
⟨.l, none, .op (.ext (.l 1) 1)⟩,
⟨.v 10, none, .op (.alc [(.int .i64 0), .nils])⟩,
⟨.n, none, .op (.st 2 (.v 10) (.l 1))⟩,
⟨.v 11, none, .op (.mov (.l 0))⟩]) (
.seq (
.reg [⟨.l, none, .op (.ld true 2 (.v 8))⟩,
⟨.l, none, .op (.mov (.v 2))⟩,
⟨.l, none, .call 26 [(.l 1), (.l 0)]⟩,
⟨.l, none, .op (.mov (.l 0))⟩,
⟨.l, none, .op (.ext (.l 0) 0)⟩,
⟨.l, none, .op (.ext (.l 1) 1)⟩,
⟨.v 12, none, .op (.alc [(.int .i64 0), .nils])⟩,
⟨.n, none, .op (.st 2 (.v 12) (.l 1))⟩,
⟨.v 13, none, .op (.mov (.l 0))⟩]) (
.seq (
.reg [⟨.l, none, .op (.ld true 2 (.v 6))⟩,
⟨.l, none, .op (.ld true 2 (.v 8))⟩,
⟨.l, none, .call 29 [(.l 1), (.l 0)]⟩,
⟨.l, none, .op (.mov (.l 0))⟩,
⟨.l, none, .op (.ext (.l 0) 0)⟩,
⟨.l, none, .op (.ext (.l 1) 1)⟩,
⟨.v 14, none, .op (.alc [(.int .i64 0), .nils])⟩,
⟨.n, none, .op (.st 2 (.v 14) (.l 1))⟩,
⟨.v 15, none, .op (.mov (.l 0))⟩]) (
.seq (
.reg [⟨.l, none, .op (.ld true 2 (.v 6))⟩,
⟨.l, none, .op (.ld true 2 (.v 8))⟩,
⟨.l, none, .call 30 [(.l 1), (.l 0)]⟩,
⟨.l, none, .op (.mov (.l 0))⟩,
⟨.l, none, .op (.ext (.l 0) 0)⟩,
⟨.l, none, .op (.ext (.l 1) 1)⟩,
⟨.v 16, none, .op (.alc [(.int .i64 0), .nils])⟩,
⟨.n, none, .op (.st 2 (.v 16) (.l 1))⟩,
⟨.v 17, none, .op (.mov (.l 0))⟩]) (
.seq (
.reg [⟨.l, none, .op (.ld true 2 (.v 14))⟩,
⟨.l, none, .op (.mov (.v 2))⟩,
⟨.l, none, .call 26 [(.l 1), (.l 0)]⟩,
⟨.l, none, .op (.mov (.l 0))⟩,
⟨.l, none, .op (.ext (.l 0) 0)⟩,
⟨.l, none, .op (.ext (.l 1) 1)⟩,
⟨.v 18, none, .op (.alc [(.int .i64 0), .nils])⟩,
⟨.n, none, .op (.st 2 (.v 18) (.l 1))⟩,
⟨.v 19, none, .op (.mov (.l 0))⟩]) (
.seq (
.reg [⟨.l, none, .op (.ld true 2 (.v 16))⟩,
⟨.l, none, .op (.mov (.v 2))⟩,
⟨.l, none, .call 26 [(.l 1), (.l 0)]⟩,
⟨.l, none, .op (.mov (.l 0))⟩,
⟨.l, none, .op (.ext (.l 0) 0)⟩,
⟨.l, none, .op (.ext (.l 1) 1)⟩,
⟨.v 20, none, .op (.alc [(.int .i64 0), .nils])⟩,
⟨.n, none, .op (.st 2 (.v 20) (.l 1))⟩,
⟨.v 21, none, .op (.mov (.l 0))⟩]) (
.seq (
.reg [⟨.l, none, .op (.ld true 2 (.v 10))⟩,
⟨.l, none, .op (.ld true 2 (.v 12))⟩,
⟨.l, none, .call 29 [(.l 1), (.l 0)]⟩,
⟨.l, none, .op (.mov (.l 0))⟩,
⟨.l, none, .op (.ext (.l 0) 0)⟩,
⟨.l, none, .op (.ext (.l 1) 1)⟩,
⟨.v 22, none, .op (.alc [(.int .i64 0), .nils])⟩,
⟨.n, none, .op (.st 2 (.v 22) (.l 1))⟩,
⟨.v 23, none, .op (.mov (.l 0))⟩]) (
.seq (
.reg [⟨.l, none, .op (.ld true 2 (.v 10))⟩,
⟨.l, none, .op (.ld true 2 (.v 12))⟩,
⟨.l, none, .call 30 [(.l 1), (.l 0)]⟩,
⟨.l, none, .op (.mov (.l 0))⟩,
⟨.l, none, .op (.ext (.l 0) 0)⟩,
⟨.l, none, .op (.ext (.l 1) 1)⟩,
⟨.v 24, none, .op (.alc [(.int .i64 0), .nils])⟩,
⟨.n, none, .op (.st 2 (.v 24) (.l 1))⟩,
⟨.v 25, none, .op (.mov (.l 0))⟩]) (
.seq (
.reg [⟨.l, none, .op (.ld true 2 (.v 10))⟩,
⟨.l, none, .op (.mov (.v 3))⟩,
⟨.l, none, .call 26 [(.l 1), (.l 0)]⟩,
⟨.l, none, .op (.mov (.l 0))⟩,
⟨.l, none, .op (.ext (.l 0) 0)⟩,
⟨.l, none, .op (.ext (.l 1) 1)⟩,
⟨.v 26, none, .op (.alc [(.int .i64 0), .nils])⟩,
⟨.n, none, .op (.st 2 (.v 26) (.l 1))⟩,
⟨.v 27, none, .op (.mov (.l 0))⟩]) (
.seq (
.reg [⟨.l, none, .op (.ld true 2 (.v 6))⟩,
⟨.l, none, .op (.mov (.v 2))⟩,
⟨.l, none, .op (.mov (.v 3))⟩,
⟨.l, none, .op (.bin .mul .i64 (.l 1) (.l 0))⟩,
⟨.l, none, .call 26 [(.l 3), (.l 0)]⟩,
⟨.l, none, .op (.mov (.l 0))⟩,
⟨.l, none, .op (.ext (.l 0) 0)⟩,
⟨.l, none, .op (.ext (.l 1) 1)⟩,
⟨.v 28, none, .op (.alc [(.int .i64 0), .nils])⟩,
⟨.n, none, .op (.st 2 (.v 28) (.l 1))⟩,
⟨.v 29, none, .op (.mov (.l 0))⟩]) (
.seq (
.reg [⟨.l, none, .op (.ld true 2 (.v 6))⟩,
⟨.l, none, .call 31 [(.l 0)]⟩,
⟨.l, none, .op (.mov (.l 0))⟩,
⟨.l, none, .op (.ext (.l 0) 0)⟩,
⟨.l, none, .op (.ext (.l 1) 1)⟩,
⟨.v 30, none, .op (.alc [(.int .i64 0), .nils])⟩,
⟨.n, none, .op (.st 2 (.v 30) (.l 1))⟩,
⟨.v 31, none, .op (.mov (.l 0))⟩]) (
.seq (
.reg [⟨.l, none, .op (.ld true 2 (.v 30))⟩,
⟨.l, none, .call 31 [(.l 0)]⟩,
⟨.l, none, .op (.mov (.l 0))⟩,
⟨.l, none, .op (.ext (.l 0) 0)⟩,
⟨.l, none, .op (.ext (.l 1) 1)⟩,
⟨.v 32, none, .op (.alc [(.int .i64 0), .nils])⟩,
⟨.n, none, .op (.st 2 (.v 32) (.l 1))⟩,
⟨.v 33, none, .op (.mov (.l 0))⟩]) (
.seq (
.reg [⟨.l, none, .op (.ld true 2 (.v 6))⟩,
⟨.l, none, .op (.ld true 2 (.v 30))⟩,
⟨.l, none, .call 30 [(.l 1), (.l 0)]⟩,
⟨.l, none, .op (.mov (.l 0))⟩,
⟨.l, none, .op (.ext (.l 0) 0)⟩,
⟨.l, none, .op (.ext (.l 1) 1)⟩,
⟨.v 34, none, .op (.alc [(.int .i64 0), .nils])⟩,
⟨.n, none, .op (.st 2 (.v 34) (.l 1))⟩,
⟨.v 35, none, .op (.mov (.l 0))⟩]) (
.seq (
.reg [⟨.l, none, .op (.ld true 2 (.v 34))⟩,
⟨.l, none, .call 31 [(.l 0)]⟩,
⟨.l, none, .op (.mov (.l 0))⟩,
⟨.l, none, .op (.ext (.l 0) 0)⟩,
⟨.l, none, .op (.ext (.l 1) 1)⟩,
⟨.v 36, none, .op (.alc [(.int .i64 0), .nils])⟩,
⟨.n, none, .op (.st 2 (.v 36) (.l 1))⟩,
⟨.v 37, none, .op (.mov (.l 0))⟩]) (
.seq (
.reg [⟨.l, none, .op (.mov (.v 7))⟩,
⟨.l, none, .op (.bin .eql .i64 (.l 0) (.c (.int .i64 0)))⟩,
⟨.l, none, .op (.mov (.l 0))⟩,
⟨.l, some ((.l 0), true), .op (.mov (.v 9))⟩,
⟨.l, some ((.l 1), true), .op (.bin .eql .i64 (.l 0) (.c (.int .i64 0)))⟩,
⟨.l, none, .op (.pick (.l 2) (.l 0) (.c (.bool false)))⟩,
⟨.l, none, .op (.mov (.l 0))⟩,
⟨.l, some ((.l 0), true), .op (.mov (.v 11))⟩,
⟨.l, some ((.l 1), true), .op (.bin .eql .i64 (.l 0) (.c (.int .i64 0)))⟩,
⟨.l, none, .op (.pick (.l 2) (.l 0) (.c (.bool false)))⟩,
⟨.l, none, .op (.mov (.l 0))⟩,
⟨.l, some ((.l 0), true), .op (.mov (.v 13))⟩,
⟨.l, some ((.l 1), true), .op (.bin .eql .i64 (.l 0) (.c (.int .i64 0)))⟩,
⟨.l, none, .op (.pick (.l 2) (.l 0) (.c (.bool false)))⟩,
⟨.l, none, .op (.mov (.l 0))⟩,
⟨.l, some ((.l 0), true), .op (.mov (.v 15))⟩,
⟨.l, some ((.l 1), true), .op (.bin .eql .i64 (.l 0) (.c (.int .i64 0)))⟩,
⟨.l, none, .op (.pick (.l 2) (.l 0) (.c (.bool false)))⟩,
⟨.l, none, .op (.mov (.l 0))⟩,
⟨.l, some ((.l 0), true), .op (.mov (.v 17))⟩,
⟨.l, some ((.l 1), true), .op (.bin .eql .i64 (.l 0) (.c (.int .i64 0)))⟩,
⟨.l, none, .op (.pick (.l 2) (.l 0) (.c (.bool false)))⟩,
⟨.l, none, .op (.mov (.l 0))⟩,
⟨.l, some ((.l 0), true), .op (.mov (.v 19))⟩,
⟨.l, some ((.l 1), true), .op (.bin .eql .i64 (.l 0) (.c (.int .i64 0)))⟩,
⟨.l, none, .op (.pick (.l 2) (.l 0) (.c (.bool false)))⟩,
⟨.l, none, .op (.mov (.l 0))⟩,
⟨.l, some ((.l 0), true), .op (.mov (.v 21))⟩,
⟨.l, some ((.l 1), true), .op (.bin .eql .i64 (.l 0) (.c (.int .i64 0)))⟩,
⟨.l, none, .op (.pick (.l 2) (.l 0) (.c (.bool false)))⟩,
⟨.l, none, .op (.mov (.l 0))⟩,
⟨.l, some ((.l 0), true), .op (.mov (.v 23))⟩,
⟨.l, some ((.l 1), true), .op (.bin .eql .i64 (.l 0) (.c (.int .i64 0)))⟩,
⟨.l, none, .op (.pick (.l 2) (.l 0) (.c (.bool false)))⟩,
⟨.l, none, .op (.mov (.l 0))⟩,
⟨.l, some ((.l 0), true), .op (.mov (.v 25))⟩,
⟨.l, some ((.l 1), true), .op (.bin .eql .i64 (.l 0) (.c (.int .i64 0)))⟩,
⟨.l, none, .op (.pick (.l 2) (.l 0) (.c (.bool false)))⟩,
⟨.l, none, .op (.mov (.l 0))⟩,
⟨.l, some ((.l 0), true), .op (.mov (.v 27))⟩,
⟨.l, some ((.l 1), true), .op (.bin .eql .i64 (.l 0) (.c (.int .i64 0)))⟩,
⟨.l, none, .op (.pick (.l 2) (.l 0) (.c (.bool false)))⟩,
⟨.l, none, .op (.mov (.l 0))⟩,
⟨.l, some ((.l 0), true), .op (.mov (.v 29))⟩,
⟨.l, some ((.l 1), true), .op (.bin .eql .i64 (.l 0) (.c (.int .i64 0)))⟩,
⟨.l, none, .op (.pick (.l 2) (.l 0) (.c (.bool false)))⟩,
⟨.l, none, .op (.mov (.l 0))⟩,
⟨.l, some ((.l 0), true), .op (.mov (.v 31))⟩,
⟨.l, some ((.l 1), true), .op (.bin .eql .i64 (.l 0) (.c (.int .i64 0)))⟩,
⟨.l, none, .op (.pick (.l 2) (.l 0) (.c (.bool false)))⟩,
⟨.l, none, .op (.mov (.l 0))⟩,
⟨.l, some ((.l 0), true), .op (.mov (.v 33))⟩,
⟨.l, some ((.l 1), true), .op (.bin .eql .i64 (.l 0) (.c (.int .i64 0)))⟩,
⟨.l, none, .op (.pick (.l 2) (.l 0) (.c (.bool false)))⟩,
⟨.l, none, .op (.mov (.l 0))⟩,
⟨.l, some ((.l 0), true), .op (.mov (.v 35))⟩,
⟨.l, some ((.l 1), true), .op (.bin .eql .i64 (.l 0) (.c (.int .i64 0)))⟩,
⟨.l, none, .op (.pick (.l 2) (.l 0) (.c (.bool false)))⟩,
⟨.l, none, .op (.mov (.l 0))⟩,
⟨.l, some ((.l 0), true), .op (.mov (.v 37))⟩,
⟨.l, some ((.l 1), true), .op (.bin .eql .i64 (.l 0) (.c (.int .i64 0)))⟩,
⟨.l, none, .op (.pick (.l 2) (.l 0) (.c (.bool false)))⟩,
⟨.l, none, .op (.mov (.l 0))⟩,
⟨.l, some ((.l 0), true), .op (.ld true 2 (.v 18))⟩,
⟨.l, some ((.l 1), true), .op (.ld true 2 (.v 22))⟩,
⟨.l, some ((.l 2), true), .call 20 [(.l 1), (.l 0)]⟩,
⟨.l, none, .op (.pick (.l 3) (.l 0) (.c (.bool false)))⟩,
⟨.l, none, .op (.mov (.l 0))⟩,
⟨.l, some ((.l 0), true), .op (.ld true 2 (.v 20))⟩,
⟨.l, some ((.l 1), true), .op (.ld true 2 (.v 24))⟩,
⟨.l, some ((.l 2), true), .call 20 [(.l 1), (.l 0)]⟩,
⟨.l, none, .op (.pick (.l 3) (.l 0) (.c (.bool false)))⟩,
⟨.l, none, .op (.mov (.l 0))⟩,
⟨.l, some ((.l 0), true), .op (.ld true 2 (.v 26))⟩,
⟨.l, some ((.l 1), true), .op (.ld true 2 (.v 28))⟩,
⟨.l, some ((.l 2), true), .call 20 [(.l 1), (.l 0)]⟩,
⟨.l, none, .op (.pick (.l 3) (.l 0) (.c (.bool false)))⟩,
⟨.l, none, .op (.mov (.l 0))⟩,
⟨.l, some ((.l 0), true), .op (.ld true 2 (.v 32))⟩,
⟨.l, some ((.l 1), true), .op (.ld true 2 (.v 6))⟩,
⟨.l, some ((.l 2), true), .call 20 [(.l 1), (.l 0)]⟩,
⟨.l, none, .op (.pick (.l 3) (.l 0) (.c (.bool false)))⟩,
⟨.l, none, .op (.mov (.l 0))⟩,
⟨.l, some ((.l 0), true), .op (.ld true 2 (.v 36))⟩,
⟨.l, some ((.l 1), true), .op (.ld true 2 (.v 34))⟩,
⟨.l, some ((.l 2), true), .call 20 [(.l 1), (.l 0)]⟩,
⟨.l, none, .op (.pick (.l 3) (.l 0) (.c (.bool false)))⟩,
⟨.l, none, .op (.mov (.l 0))⟩,
⟨.l, some ((.l 0), true), .op (.fla 0 (.v 10))⟩,
⟨.l, some ((.l 1), true), .op (.ld false 1 (.l 0))⟩,
⟨.l, some ((.l 2), true), .op (.fla 0 (.v 6))⟩,
⟨.l, some ((.l 3), true), .op (.ld false 1 (.l 0))⟩,
⟨.l, some ((.l 4), true), .op (.bin .eql .i64 (.l 2) (.l 0))⟩,
⟨.l, none, .op (.pick (.l 5) (.l 0) (.c (.bool false)))⟩,
⟨.v 4, none, .op (.mov (.l 0))⟩]) (
.ret)))))))))))))))))))))))⟩
/- 6 cayley/cayleylaw06.CycloSums -/
abbrev n_law06_CycloSums : Nat := 6
def c_law06_CycloSums : Ay.Fn := ⟨4, [some 0, some 1, some 2, some 3, none, none, none, none, none, none, none, none, none, none, none, none, none, none, none, none, none, none, none, none, none, none, none, none, none, none, none, none, none, none, none, none, none, none, none, none], [.v 4],
.seq (
.reg [⟨.v 4, none, .op (.mov (.c (.bool false)))⟩]) (
.seq (
.seq (
.reg [⟨.l, none, .call 10 []⟩,
⟨.v 31, none, .op (.not (.l 0))⟩]) (
.ite (.v 31) (
.seq (
.reg [⟨.v 4, none, .op (.mov (.c (.bool false)))⟩]) (
.ret)) (
.skip))) (
.seq (
.seq (
.reg [⟨.l, none, .op (.mov (.v 0))⟩,
⟨.l, none, .op (.lens (.l 0))⟩,
⟨.v 32, none, .op (.bin .gtr .i64 (.l 0) (.c (.int .i64 20)))⟩]) (
.ite (.v 32) (
.seq (
.reg [⟨.v 4, none, .op (.mov (.c (.bool true)))⟩]) (
.ret)) (
.skip))) (
.seq (
.reg [⟨.l, none, .op (.mov (.v 1))⟩,
⟨.l, none, .call 21 [(.l 0)]⟩,
⟨.v 1, none, .op (.mov (.l 0))⟩]) (
.seq (
.reg [⟨.l, none, .op (.mov (.v 2))⟩,
⟨.l, none, .call 22 [(.l 0), (.c (.int .i64 500))]⟩,
⟨.l, none, .op (.bin .sub .i64 (.l 0) (.c (.int .i64 250)))⟩,
⟨.l, none, .op (.mov (.v 3))⟩,
⟨.l, none, .call 22 [(.l 0), (.c (.int .i64 500))]⟩,
⟨.l, none, .op (.bin .sub .i64 (.l 0) (.c (.int .i64 250)))⟩,
⟨.v 2, none, .op (.mov (.l 3))⟩,
⟨.v 3, none, .op (.mov (.l 0))⟩]) (
.seq (
.reg [⟨.l, none, .call 17 [(.c (.int .i64 0))]⟩,
⟨.l, none, .op (.mov (.l 0))⟩,
⟨.l, none, .op (.ext (.l 0) 0)⟩,
⟨.l, none, .op (.ext (.l 1) 1)⟩,
⟨.v 5, none, .op (.alc [(.int .i64 0), .nils])⟩,
⟨.n, none, .op (.st 2 (.v 5) (.l 1))⟩,
⟨.v 6, none, .op (.mov (.l 0))⟩]) (
.seq (
.seq (
.reg [⟨.v 7, none, .op (.mov (.c (.int .i64 0)))⟩]) (
.block 0 (
.loop (
.seq (
.seq (
.reg [⟨.l, none, .op (.mov (.v 7))⟩,
⟨.l, none, .op (.mov (.v 1))⟩,
⟨.v 33, none, .op (.bin .lss .i64 (.l 1) (.l 0))⟩]) (
.ite (.v 33) (
.skip) (
.exit 0))) (
.seq (
.block 1 (
.seq (
.reg [⟨.l, none, .op (.mov (.v 1))⟩,
⟨.l, none, .op (.mov (.v 7))⟩,
⟨.l, none, .call 15 [(.l 1), (.l 0)]⟩,
⟨.l, none, .op (.mov (.l 0))⟩,
⟨.l, none, .op (.ext (.l 0) 0)⟩,
⟨.l, none, .op (.ext (.l 1) 1)⟩,
⟨.v 8, none, .op (.alc [(.int .i64 0), .nils])⟩,
⟨.n, none, .op (.st 2 (.v 8) (.l 1))⟩,
⟨.v 9, none, .op (.mov (.l 0))⟩]) (
.seq (
.reg [⟨.l, none, .op (.ld true 2 (.v 5))⟩,
⟨.l, none, .op (.ld true 2 (.v 8))⟩,
⟨.l, none, .call 29 [(.l 1), (.l 0)]⟩,
⟨.l, none, .op (.mov (.l 0))⟩,
⟨.l, none, .op (.ext (.l 0) 0)⟩,
⟨.l, none, .op (.ext (.l 1) 1)⟩,
⟨.v 10, none, .op (.alc [(.int .i64 0), .nils])⟩,
⟨.n, none, .op (.st 2 (.v 10) (.l 1))⟩,
⟨.v 11, none, .op (.mov (.l 0))⟩]) (
.seq (
.seq (
.reg [⟨.l, none, .op (.mov (.v 6))⟩,
⟨.l, none, .op (.bin .neq .i64 (.l 0) (.c (.int .i64 0)))⟩,
⟨.l, none, .op (.mov (.l 0))⟩,
⟨.l, some ((.l 0), false), .op (.mov (.v 9))⟩,
⟨.l, some ((.l 1), false), .op (.bin .neq .i64 (.l 0) (.c (.int .i64 0)))⟩,
⟨.l, none, .op (.pick (.l 2) (.c (.bool true)) (.l 0))⟩,
⟨.l, none, .op (.mov (.l 0))⟩,
⟨.l, some ((.l 0), false), .op (.mov (.v 11))⟩,
⟨.l, some ((.l 1), false), .op (.bin .neq .i64 (.l 0) (.c (.int .i64 0)))⟩,
⟨.l, none, .op (.pick (.l 2) (.c (.bool true)) (.l 0))⟩,
⟨.l, none, .op (.mov (.l 0))⟩,
⟨.l, some ((.l 0), false), .op (.ld true 2 (.v 8))⟩,
⟨.l, some ((.l 1), false), .op (.bls 1 [(.int .i64 0)] 1 [(0, 1, (.c (.int .i64 1)))])⟩,
⟨.l, some ((.l 2), false), .op (.bld [(.int .i64 0), .nils] [(0, 1, (.c (.int .i64 1))), (1, 1, (.l 0))])⟩,
⟨.l, some ((.l 3), false), .call 20 [(.l 2), (.l 0)]⟩,
⟨.l, some ((.l 4), false), .op (.mov (.v 7))⟩,
⟨.l, some ((.l 5), false), .op (.bin .eql .i64 (.l 0) (.c (.int .i64 0)))⟩,
⟨.l, some ((.l 6), false), .op (.beq true (.l 2) (.l 0))⟩,
⟨.v 34, none, .op (.pick (.l 7) (.c (.bool true)) (.l 0))⟩]) (
.ite (.v 34) (
.seq (
.reg [⟨.v 4, none, .op (.mov (.c (.bool false)))⟩]) (
.ret)) (
.skip))) (
.reg [⟨.l, none, .op (.ld true 2 (.v 10))⟩,
⟨.n, none, .op (.st 2 (.v 5) (.l 0))⟩]))))) (
.reg [⟨.l, none, .op (.mov (.v 7))⟩,
⟨.l, none, .op (.bin .add .i64 (.l 0) (.c (.int .i64 1)))⟩,
⟨.v 7, none, .op (.mov (.l 0))⟩])))))) (
.seq (
.reg [⟨.v 12, none, .op (.mov (.c (.int .i64 0)))⟩]) (
.seq (
.seq (
.reg [⟨.l, none, .op (.mov (.v 1))⟩,
⟨.v 35, none, .op (.bin .eql .i64 (.l 0) (.c (.int .i64 1)))⟩]) (
.ite (.v 35) (
.reg [⟨.v 12, none, .op (.mov (.c (.int .i64 1)))⟩]) (
.skip))) (
.seq (
.reg [⟨.l, none, .op (.mov (.v 1))⟩,
⟨.l, none, .op (.mov (.v 2))⟩,
⟨.l, none, .call 15 [(.l 1), (.l 0)]⟩,
⟨.l, none, .op (.mov (.l 0))⟩,
⟨.l, none, .op (.ext (.l 0) 0)⟩,
⟨.l, none, .op (.ext (.l 1) 1)⟩,
⟨.v 13, none, .op (.alc [(.int .i64 0), .nils])⟩,
⟨.n, none, .op (.st 2 (.v 13) (.l 1))⟩,
⟨.v 14, none, .op (.mov (.l 0))⟩]) (
.seq (
.reg [⟨.l, none, .op (.mov (.v 1))⟩,
⟨.l, none, .op (.mov (.v 3))⟩,
⟨.l, none, .call 15 [(.l 1), (.l 0)]⟩,
⟨.l, none, .op (.mov (.l 0))⟩,
⟨.l, none, .op (.ext (.l 0) 0)⟩,
⟨.l, none, .op (.ext (.l 1) 1)⟩,
⟨.v 15, none, .op (.alc [(.int .i64 0), .nils])⟩,
⟨.n, none, .op (.st 2 (.v 15) (.l 1))⟩,
⟨.v 16, none, .op (.mov (.l 0))⟩]) (
.seq (
.reg [⟨.l, none, .op (.mov (.v 1))⟩,
⟨.l, none, .op (.mov (.v 2))⟩,
⟨.l, none, .op (.mov (.v 3))⟩,
⟨.l, none, .op (.bin .add .i64 (.l 1) (.l 0))⟩,
⟨.l, none, .call 15 [(.l 3), (.l 0)]⟩,
⟨.l, none, .op (.mov (.l 0))⟩,
⟨.l, none, .op (.ext (.l 0) 0)⟩,
⟨.l, none, .op (.ext (.l 1) 1)⟩,
⟨.v 17, none, .op (.alc [(.int .i64 0), .nils])⟩,
⟨.n, none, .op (.st 2 (.v 17) (.l 1))⟩,
⟨.v 18, none, .op (.mov (.l 0))⟩]) (
.seq (
.reg [⟨.l, none, .op (.ld true 2 (.v 13))⟩,
⟨.l, none, .op (.ld true 2 (.v 15))⟩,
⟨.l, none, .call 30 [(.l 1), (.l 0)]⟩,
⟨.l, none, .op (.mov (.l 0))⟩,
⟨.l, none, .op (.ext (.l 0) 0)⟩,
⟨.l, none, .op (.ext (.l 1) 1)⟩,
⟨.v 19, none, .op (.alc [(.int .i64 0), .nils])⟩,
⟨.n, none, .op (.st 2 (.v 19) (.l 1))⟩,
⟨.v 20, none, .op (.mov (.l 0))⟩]) (
.seq (
.reg [⟨.l, none, .op (.mov (.v 0))⟩,
⟨.l, none, .op (.bld [.nils, (.int .i64 0)] [(0, 1, (.l 0))])⟩,
⟨.l, none, .op (.box (.l 0))⟩,
⟨.l, none, .op (.mov (.v 1))⟩,
⟨.l, none, .call 28 [(.l 1), (.l 0)]⟩,
⟨.l, none, .op (.mov (.l 0))⟩,
⟨.l, none, .op (.ext (.l 0) 0)⟩,
⟨.l, none, .op (.ext (.l 1) 1)⟩,
⟨.v 21, none, .op (.alc [(.int .i64 0), .nils])⟩,
⟨.n, none, .op (.st 2 (.v 21) (.l 1))⟩,
⟨.v 22, none, .op (.mov (.l 0))⟩]) (
.seq (
.seq (
.reg [⟨.l, none, .op (.ld true 2 (.v 5))⟩,
⟨.l, none, .op (.mov (.v 12))⟩,
⟨.l, none, .op (.bls 1 [(.int .i64 0)] 1 [(0, 1, (.l 0))])⟩,
⟨.l, none, .call 32 [(.l 2), (.c (.int .i64 0)), (.c (.int .i64 1)), (.l 0)]⟩,
⟨.l, none, .op (.not (.l 0))⟩,
⟨.l, none, .op (.mov (.l 0))⟩,
⟨.l, some ((.l 0), false), .op (.mov (.v 14))⟩,
⟨.l, some ((.l 1), false), .op (.bin .neq .i64 (.l 0) (.c (.int .i64 0)))⟩,
⟨.l, none, .op (.pick (.l 2) (.c (.bool true)) (.l 0))⟩,
⟨.l, none, .op (.mov (.l 0))⟩,
⟨.l, some ((.l 0), false), .op (.mov (.v 16))⟩,
⟨.l, some ((.l 1), false), .op (.bin .neq .i64 (.l 0) (.c (.int .i64 0)))⟩,
⟨.l, none, .op (.pick (.l 2) (.c (.bool true)) (.l 0))⟩,
⟨.l, none, .op (.mov (.l 0))⟩,
⟨.l, some ((.l 0), false), .op (.mov (.v 18))⟩,
⟨.l, some ((.l 1), false), .op (.bin .neq .i64 (.l 0) (.c (.int .i64 0)))⟩,
⟨.l, none, .op (.pick (.l 2) (.c (.bool true)) (.l 0))⟩,
⟨.l, none, .op (.mov (.l 0))⟩,
⟨.l, some ((.l 0), false), .op (.mov (.v 20))⟩,
⟨.l, some ((.l 1), false), .op (.bin .neq .i64 (.l 0) (.c (.int .i64 0)))⟩,
⟨.l, none, .op (.pick (.l 2) (.c (.bool true)) (.l 0))⟩,
⟨.l, none, .op (.mov (.l 0))⟩,
⟨.l, some ((.l 0), false), .op (.mov (.v 22))⟩,
⟨.l, some ((.l 1), false), .op (.bin .neq .i64 (.l 0) (.c (.int .i64 0)))⟩,
⟨.l, none, .op (.pick (.l 2) (.c (.bool true)) (.l 0))⟩,
⟨.l, none, .op (.mov (.l 0))⟩,
⟨.l, some ((.l 0), false), .op (.ld true 2 (.v 17))⟩,
⟨.l, some ((.l 1), false), .op (.ld true 2 (.v 19))⟩,
⟨.l, some ((.l 2), false), .call 20 [(.l 1), (.l 0)]⟩,
⟨.l, some ((.l 3), false), .op (.not (.l 0))⟩,
⟨.l, none, .op (.pick (.l 4) (.c (.bool true)) (.l 0))⟩,
⟨.l, none, .op (.mov (.l 0))⟩,
⟨.l, some ((.l 0), false), .op (.fla 0 (.v 21))⟩,
⟨.l, some ((.l 1), false), .op (.ld false 1 (.l 0))⟩,
⟨.l, some ((.l 2), false), .op (.bin .lss .i64 (.l 0) (.c (.int .i64 1)))⟩,
⟨.l, none, .op (.pick (.l 3) (.c (.bool true)) (.l 0))⟩,
⟨.l, none, .op (.mov (.l 0))⟩,
⟨.l, some ((.l 0), false), .op (.fla 0 (.v 21))⟩,
⟨.l, some ((.l 1), false), .op (.ld false 1 (.l 0))⟩,
⟨.l, some ((.l 2), false), .op (.bin .gtr .i64 (.l 0) (.c (.int .i64 120)))⟩,
⟨.v 36, none, .op (.pick (.l 3) (.c (.bool true)) (.l 0))⟩]) (
.ite (.v 36) (
.seq (
.reg [⟨.v 4, none, .op (.mov (.c (.bool false)))⟩]) (
.ret)) (
.skip))) (
.seq (
.reg [⟨.l, none, .call 17 [(.c (.int .i64 0))]⟩,
⟨.l, none, .op (.mov (.l 0))⟩,
⟨.l, none, .op (.ext (.l 0) 0)⟩,
⟨.l, none, .op (.ext (.l 1) 1)⟩,
⟨.v 23, none, .op (.alc [(.int .i64 0), .nils])⟩,
⟨.n, none, .op (.st 2 (.v 23) (.l 1))⟩,
⟨.v 24, none, .op (.mov (.l 0))⟩]) (
.seq (
.seq (
.reg [⟨.v 25, none, .op (.mov (.c (.int .i64 0)))⟩]) (
.block 2 (
.loop (
.seq (
.seq (
.reg [⟨.l, none, .op (.mov (.v 25))⟩,
⟨.l, none, .op (.fla 0 (.v 21))⟩,
⟨.l, none, .op (.ld false 1 (.l 0))⟩,
⟨.v 37, none, .op (.bin .lss .i64 (.l 2) (.l 0))⟩]) (
.ite (.v 37) (
.skip) (
.exit 2))) (
.seq (
.block 3 (
.seq (
.reg [⟨.l, none, .op (.ld true 2 (.v 21))⟩,
⟨.l, none, .op (.mov (.v 25))⟩,
⟨.l, none, .call 26 [(.l 1), (.l 0)]⟩,
⟨.l, none, .op (.mov (.l 0))⟩,
⟨.l, none, .op (.ext (.l 0) 0)⟩,
⟨.l, none, .op (.ext (.l 1) 1)⟩,
⟨.v 26, none, .op (.alc [(.int .i64 0), .nils])⟩,
⟨.n, none, .op (.st 2 (.v 26) (.l 1))⟩,
⟨.v 27, none, .op (.mov (.l 0))⟩]) (
.seq (
.seq (
.reg [⟨.l, none, .op (.mov (.v 27))⟩,
⟨.v 38, none, .op (.bin .eql .i64 (.l 0) (.c (.int .i64 18)))⟩]) (
.ite (.v 38) (
.exit 3) (
.skip))) (
.seq (
.reg [⟨.l, none, .op (.ld true 2 (.v 23))⟩,
⟨.l, none, .op (.ld true 2 (.v 26))⟩,
⟨.l, none, .call 29 [(.l 1), (.l 0)]⟩,
⟨.l, none, .op (.mov (.l 0))⟩,
⟨.l, none, .op (.ext (.l 0) 0)⟩,
⟨.l, none, .op (.ext (.l 1) 1)⟩,
⟨.v 28, none, .op (.alc [(.int .i64 0), .nils])⟩,
⟨.n, none, .op (.st 2 (.v 28) (.l 1))⟩,
⟨.v 29, none, .op (.mov (.l 0))⟩]) (
.seq (
.seq (
.reg [⟨.l, none, .op (.mov (.v 24))⟩,
⟨.l, none, .op (.bin .neq .i64 (.l 0) (.c (.int .i64 0)))⟩,
⟨.l, none, .op (.mov (.l 0))⟩,
⟨.l, some ((.l 0), false), .op (.mov (.v 27))⟩,
⟨.l, some ((.l 1), false), .op (.bin .neq .i64 (.l 0) (.c (.int .i64 0)))⟩,
⟨.l, none, .op (.pick (.l 2) (.c (.bool true)) (.l 0))⟩,
⟨.l, none, .op (.mov (.l 0))⟩,
⟨.l, some ((.l 0), false), .op (.mov (.v 29))⟩,
⟨.l, some ((.l 1), false), .op (.bin .neq .i64 (.l 0) (.c (.int .i64 0)))⟩,
⟨.v 39, none, .op (.pick (.l 2) (.c (.bool true)) (.l 0))⟩]) (
.ite (.v 39) (
.seq (
.reg [⟨.v 4, none, .op (.mov (.c (.bool false)))⟩]) (
.ret)) (
.skip))) (
.reg [⟨.l, none, .op (.ld true 2 (.v 28))⟩,
⟨.n, none, .op (.st 2 (.v 23) (.l 0))⟩])))))) (
.reg [⟨.l, none, .op (.mov (.v 25))⟩,
⟨.l, none, .op (.bin .add .i64 (.l 0) (.c (.int .i64 1)))⟩,
⟨.v 25, none, .op (.mov (.l 0))⟩])))))) (
.seq (
.reg [⟨.l, none, .op (.ld true 2 (.v 23))⟩,
⟨.l, none, .call 33 [(.l 0)]⟩,
⟨.l, none, .op (.mov (.l 0))⟩,
⟨.l, none, .op (.ext (.l 0) 0)⟩,
⟨.l, none, .op (.ext (.l 1) 1)⟩,
⟨.l, none, .op (.mov (.l 1))⟩,
⟨.v 30, none, .op (.mov (.l 1))⟩]) (
.seq (
.reg [⟨.l, none, .op (.mov (.v 30))⟩,
⟨.v 4, none, .op (.mov (.l 0))⟩]) (
.ret)))))))))))))))))))⟩
/- 7 cayley/cayleylaw06.CycloRing -/
abbrev n_law06_CycloRing : Nat := 7
def c_law06_CycloRing : Ay.Fn := ⟨3, [some 0, some 1, some 2, none, none, none, none, none, none, none, none, none, none, none, none, none, none, none, none, none, none, none, none, none, none, none, none, none, none, none, none, none, none, none, none, none, none, none, none, none, none, none, none, none, none, none, none], [.v 3],
.seq (
.reg [⟨.v 3, none, .op (.mov (.c (.bool false)))⟩]) (
.seq (
.seq (
.reg [⟨.l, none, .call 10 []⟩,
⟨.v 43, none, .op (.not (.l 0))⟩]) (
.ite (.v 43) (
.seq (
.reg [⟨.v 3, none, .op (.mov (.c (.bool false)))⟩]) (
.ret)) (
.skip))) (
.seq (
.seq (
.reg [⟨.l, none, .op (.mov (.v 0))⟩,
⟨.l, none, .op (.lens (.l 0))⟩,
⟨.v 44, none, .op (.bin .gtr .i64 (.l 0) (.c (.int .i64 60)))⟩]) (
.ite (.v 44) (
.seq (
.reg [⟨.v 3, none, .op (.mov (.c (.bool true)))⟩]) (
.ret)) (
.skip))) (
.seq (
.reg [⟨.l, none, .op (.mov (.v 1))⟩,
⟨.l, none, .call 21 [(.l 0)]⟩,
⟨.v 1, none, .op (.mov (.l 0))⟩]) (
.seq (
.reg [⟨.l, none, .op (.mov (.v 0))⟩,
⟨.l, none, .op (.bld [.nils, (.int .i64 0)] [(0, 1, (.l 0))])⟩,
⟨.l, none, .op (.box (.l 0))⟩,
⟨.v 4, none, .op (.mov (.l 0))⟩]) (
.seq (
.reg [⟨.l, none, .op (.mov (.v 4))⟩,
⟨.l, none, .op (.mov (.v 1))⟩,
⟨.l, none, .call 28 [(.l 1), (.l 0)]⟩,
⟨.l, none, .op (.mov (.l 0))⟩,
⟨.l, none, .op (.ext (.l 0) 0)⟩,
⟨.l, none, .op (.ext (.l 1) 1)⟩,
⟨.v 5, none, .op (.alc [(.int .i64 0), .nils])⟩,
⟨.n, none, .op (.st 2 (.v 5) (.l 1))⟩,
⟨.v 6, none, .op (.mov (.l 0))⟩]) (
.seq (
.reg [⟨.l, none, .op (.mov (.v 4))⟩,
⟨.l, none, .op (.mov (.v 1))⟩,
⟨.l, none, .call 28 [(.l 1), (.l 0)]⟩,
⟨.l, none, .op (.mov (.l 0))⟩,
⟨.l, none, .op (.ext (.l 0) 0)⟩,
⟨.l, none, .op (.ext (.l 1) 1)⟩,
⟨.v 7, none, .op (.alc [(.int .i64 0), .nils])⟩,
⟨.n, none, .op (.st 2 (.v 7) (.l 1))⟩,
⟨.v 8, none, .op (.mov (.l 0))⟩]) (
.seq (
.reg [⟨.l, none, .op (.mov (.v 4))⟩,
⟨.l, none, .op (.mov (.v 1))⟩,
⟨.l, none, .call 28 [(.l 1), (.l 0)]⟩,
⟨.l, none, .op (.mov (.l 0))⟩,
⟨.l, none, .op (.ext (.l 0) 0)⟩,
⟨.l, none, .op (.ext (.l 1) 1)⟩,
⟨.v 9, none, .op (.alc [(.int .i64 0), .nils])⟩,
⟨.n, none, .op (.st 2 (.v 9) (.l 1))⟩,
⟨.v 10, none, .op (.mov (.l 0))⟩]) (
.seq (
.reg [⟨.l, none, .op (.ld true 2 (.v 5))⟩,
⟨.l, none, .op (.ld true 2 (.v 7))⟩,
⟨.l, none, .call 30 [(.l 1), (.l 0)]⟩,
⟨.l, none, .op (.mov (.l 0))⟩,
⟨.l, none, .op (.ext (.l 0) 0)⟩,
⟨.l, none, .op (.ext (.l 1) 1)⟩,
⟨.v 11, none, .op (.alc [(.int .i64 0), .nils])⟩,
⟨.n, none, .op (.st 2 (.v 11) (.l 1))⟩,
⟨.v 12, none, .op (.mov (.l 0))⟩]) (
.seq (
.reg [⟨.l, none, .op (.ld true 2 (.v 7))⟩,
⟨.l, none, .op (.ld true 2 (.v 5))⟩,
⟨.l, none, .call 30 [(.l 1), (.l 0)]⟩,
⟨.l, none, .op (.mov (.l 0))⟩,
⟨.l, none, .op (.ext (.l 0) 0)⟩,
⟨.l, none, .op (.ext (.l 1) 1)⟩,
⟨.v 13, none, .op (.alc [(.int .i64 0), .nils])⟩,
⟨.n, none, .op (.st 2 (.v 13) (.l 1))⟩,
⟨.v 14, none, .op (.mov (.l 0))⟩]) (
.seq (
.reg [⟨.l, none, .op (.ld true 2 (.v 7))⟩,
⟨.l, none, .op (.ld true 2 (.v 9))⟩,
⟨.l, none, .call 30 [(.l 1), (.l 0)]⟩,
⟨.l, none, .op (.mov (.l 0))⟩,
⟨.l, none, .op (.ext (.l 0) 0)⟩,
⟨.l, none, .op (.ext (.l 1) 1)⟩,
⟨.v 15, none, .op (.alc [(.int .i64 0), .nils])⟩,
⟨.n, none, .op (.st 2 (.v 15) (.l 1))⟩,
⟨.v 16, none, .op (.mov (.l 0))⟩]) (
.seq (
.reg [⟨.l, none, .op (.ld true 2 (.v 11))⟩,
⟨.l, none, .op (.ld true 2 (.v 9))⟩,
⟨.l, none, .call 30 [(.l 1), (.l 0)]⟩,
⟨.l, none, .op (.mov (.l 0))⟩,
⟨.l, none, .op (.ext (.l 0) 0)⟩,
⟨.l, none, .op (.ext (.l 1) 1)⟩,
⟨.v 17, none, .op (.alc [(.int .i64 0), .nils])⟩,
⟨.n, none, .op (.st 2 (.v 17) (.l 1))⟩,
⟨.v 18, none, .op (.mov (.l 0))⟩]) (
.seq (
.reg [⟨.l, none, .op (.ld true 2 (.v 5))⟩,
⟨.l, none, .op (.ld true 2 (.v 15))⟩,
⟨.l, none, .call 30 [(.l 1), (.l 0)]⟩,
⟨.l, none, .op (.mov (.l 0))⟩,
⟨.l, none, .op (.ext (.l 0) 0)⟩,
⟨.l, none, .op (.ext (.l 1) 1)⟩,
⟨.v 19, none, .op (.alc [(.int .i64 0), .nils])⟩,
⟨.n, none, .op (.st 2 (.v 19) (.l 1))⟩,
⟨.v 20, none, .op (.mov (.l 0))⟩]) (
.seq (
.reg [⟨.l, none, .op (.ld true 2 (.v 7))⟩,
⟨.l, none, .op (.ld true 2 (.v 9))⟩,
⟨.l, none, .call 29 [(.l 1), (.l 0)]⟩,
⟨.l, none, .op (.mov (.l 0))⟩,
⟨.l, none, .op (.ext (.l 0) 0)⟩,
⟨.l, none, .op (.ext (.l 1) 1)⟩,
⟨.v 21, none, .op (.alc [(.int .i64 0), .nils])⟩,
⟨.n, none, .op (.st 2 (.v 21) (.l 1))⟩,
⟨.v 22, none, .op (.mov (.l 0))⟩]) (
.seq (
.reg [⟨.l, none, .op (.ld true 2 (.v 9))⟩,
⟨.l, none, .op (.ld true 2 (.v 7))⟩,
⟨.l, none, .call 29 [(.l 1), (.l 0)]⟩,
⟨.l, none, .op (.mov (.l 0))⟩,
⟨.l, none, .op (.ext (.l 0) 0)⟩,
⟨.l, none, .op (.ext (.l 1) 1)⟩,
⟨.v 23, none, .op (.alc [(.int .i64 0), .nils])⟩,
⟨.n, none, .op (.st 2 (.v 23) (.l 1))⟩,
⟨.v 24, none, .op (.mov (.l 0))⟩]) (
.seq (
.reg [⟨.l, none, .op (.ld true 2 (.v 5))⟩,
⟨.l, none, .op (.ld true 2 (.v 21))⟩,
⟨.l, none, .call 30 [(.l 1), (.l 0)]⟩,
⟨.l, none, .op (.mov (.l 0))⟩,
⟨.l, none, .op (.ext (.l 0) 0)⟩,
⟨.l, none, .op (.ext (.l 1) 1)⟩,
⟨.v 25, none, .op (.alc [(.int .i64 0), .nils])⟩,
⟨.n, none, .op (.st 2 (.v 25) (.l 1))⟩,
⟨.v 26, none, .op (.mov (.l 0))⟩]) (
.seq (
.reg [⟨.l, none, .op (.ld true 2 (.v 5))⟩,
⟨.l, none, .op (.ld true 2 (.v 9))⟩,
⟨.l, none, .call 30 [(.l 1), (.l 0)]⟩,
⟨.l, none, .op (.mov (.l 0))⟩,
⟨.l, none, .op (.ext (.l 0) 0)⟩,
⟨.l, none, .op (.ext (.l 1) 1)⟩,
⟨.v 27, none, .op (.alc [(.int .i64 0), .nils])⟩,
⟨.n, none, .op (.st 2 (.v 27) (.l 1))⟩,
⟨.v 28, none, .op (.mov (.l 0))⟩]) (
.seq (
.reg [⟨.l, none, .op (.ld true 2 (.v 11))⟩,
⟨.l, none, .op (.ld true 2 (.v 27))⟩,
⟨.l, none, .call 29 [(.l 1), (.l 0)]⟩,
⟨.l, none, .op (.mov (.l 0))⟩,
⟨.l, none, .op (.ext (.l 0) 0)⟩,
⟨.l, none, .op (.ext (.l 1) 1)⟩,
⟨.v 29, none, .op (.alc [(.int .i64 0), .nils])⟩,
⟨.n, none, .op (.st 2 (.v 29) (.l 1))⟩,
⟨.v 30, none, .op (.mov (.l 0))⟩]) (
.seq (
.seq (
.reg [⟨.l, none, .op (.mov (.v 6))⟩,
⟨.l, none, .op (.bin .neq .i64 (.l 0) (.c (.int .i64 0)))⟩,
⟨.l, none, .op (.mov (.l 0))⟩,
⟨.l, some ((.l 0), false), .op (.mov (.v 8))⟩,
⟨.l, some ((.l 1), false), .op (.bin .neq .i64 (.l 0) (.c (.int .i64 0)))⟩,
⟨.l, none, .op (.pick (.l 2) (.c (.bool true)) (.l 0))⟩,
⟨.l, none, .op (.mov (.l 0))⟩,
⟨.l, some ((.l 0), false), .op (.mov (.v 10))⟩,
⟨.l, some ((.l 1), false), .op (.bin .neq .i64 (.l 0) (.c (.int .i64 0)))⟩,
⟨.l, none, .op (.pick (.l 2) (.c (.bool true)) (.l 0))⟩,
⟨.l, none, .op (.mov (.l 0))⟩,
⟨.l, some ((.l 0), false), .op (.mov (.v 12))⟩,
⟨.l, some ((.l 1), false), .op (.bin .neq .i64 (.l 0) (.c (.int .i64 0)))⟩,
⟨.l, none, .op (.pick (.l 2) (.c (.bool true)) (.l 0))⟩,
⟨.l, none, .op (.mov (.l 0))⟩,
⟨.l, some ((.l 0), false), .op (.mov (.v 14))⟩,
⟨.l, some ((.l 1), false), .op (.bin .neq .i64 (.l 0) (.c (.int .i64 0)))⟩,
⟨.l, none, .op (.pick (.l 2) (.c (.bool true)) (.l 0))⟩,
⟨.l, none, .op (.mov (.l 0))⟩,
⟨.l, some ((.l 0), false), .op (.mov (.v 16))⟩,
⟨.l, some ((.l 1), false), .op (.bin .neq .i64 (.l 0) (.c (.int .i64 0)))⟩,
⟨.l, none, .op (.pick (.l 2) (.c (.bool true)) (.l 0))⟩,
⟨.l, none, .op (.mov (.l 0))⟩,
⟨.l, some ((.l 0), false), .op (.mov (.v 18))⟩,
⟨.l, some ((.l 1), false), .op (.bin .neq .i64 (.l 0) (.c (.int .i64 0)))⟩,
⟨.l, none, .op (.pick (.l 2) (.c (.bool true)) (.l 0))⟩,
⟨.l, none, .op (.mov (.l 0))⟩,
⟨.l, some ((.l 0), false), .op (.mov (.v 20))⟩,
⟨.l, some ((.l 1), false), .op (.bin .neq .i64 (.l 0) (.c (.int .i64 0)))⟩,
⟨.l, none, .op (.pick (.l 2) (.c (.bool true)) (.l 0))⟩,
⟨.l, none, .op (.mov (.l 0))⟩,
⟨.l, some ((.l 0), false), .op (.mov (.v 22))⟩,
⟨.l, some ((.l 1), false), .op (.bin .neq .i64 (.l 0) (.c (.int .i64 0)))⟩,
⟨.l, none, .op (.pick (.l 2) (.c (.bool true)) (.l 0))⟩,
⟨.l, none, .op (.mov (.l 0))⟩,
⟨.l, some ((.l 0), false), .op (.mov (.v 24))⟩,
⟨.l, some ((.l 1), false), .op (.bin .neq .i64 (.l 0) (.c (.int .i64 0)))⟩,
⟨.l, none, .op (.pick (.l 2) (.c (.bool true)) (.l 0))⟩,
⟨.l, none, .op (.mov (.l 0))⟩,
⟨.l, some ((.l 0), false), .op (.mov (.v 26))⟩,
⟨.l, some ((.l 1), false), .op (.bin .neq .i64 (.l 0) (.c (.int .i64 0)))⟩,
⟨.l, none, .op (.pick (.l 2) (.c (.bool true)) (.l 0))⟩,
⟨.l, none, .op (.mov (.l 0))⟩,
⟨.l, some ((.l 0), false), .op (.mov (.v 28))⟩,
⟨.l, some ((.l 1), false), .op (.bin .neq .i64 (.l 0) (.c (.int .i64 0)))⟩,
⟨.l, none, .op (.pick (.l 2) (.c (.bool true)) (.l 0))⟩,
⟨.l, none, .op (.mov (.l 0))⟩,
⟨.l, some ((.l 0), false), .op (.mov (.v 30))⟩,
⟨.l, some ((.l 1), false), .op (.bin .neq .i64 (.l 0) (.c (.int .i64 0)))⟩,
⟨.l, none, .op (.pick (.l 2) (.c (.bool true)) (.l 0))⟩,
⟨.l, none, .op (.mov (.l 0))⟩,
⟨.l, some ((.l 0), false), .op (.ld true 2 (.v 11))⟩,
⟨.l, some ((.l 1), false), .op (.ld true 2 (.v 13))⟩,
⟨.l, some ((.l 2), false), .call 20 [(.l 1), (.l 0)]⟩,
⟨.l, some ((.l 3), false), .op (.not (.l 0))⟩,
⟨.l, none, .op (.pick (.l 4) (.c (.bool true)) (.l 0))⟩,
⟨.l, none, .op (.mov (.l 0))⟩,
⟨.l, some ((.l 0), false), .op (.ld true 2 (.v 17))⟩,
⟨.l, some ((.l 1), false), .op (.ld true 2 (.v 19))⟩,
⟨.l, some ((.l 2), false), .call 20 [(.l 1), (.l 0)]⟩,
⟨.l, some ((.l 3), false), .op (.not (.l 0))⟩,
⟨.l, none, .op (.pick (.l 4) (.c (.bool true)) (.l 0))⟩,
⟨.l, none, .op (.mov (.l 0))⟩,
⟨.l, some ((.l 0), false), .op (.ld true 2 (.v 21))⟩,
⟨.l, some ((.l 1), false), .op (.ld true 2 (.v 23))⟩,
⟨.l, some ((.l 2), false), .call 20 [(.l 1), (.l 0)]⟩,
⟨.l, some ((.l 3), false), .op (.not (.l 0))⟩,
⟨.l, none, .op (.pick (.l 4) (.c (.bool true)) (.l 0))⟩,
⟨.l, none, .op (.mov (.l 0))⟩,
⟨.l, some ((.l 0), false), .op (.ld true 2 (.v 25))⟩,
⟨.l, some ((.l 1), false), .op (.ld true 2 (.v 29))⟩,
⟨.l, some ((.l 2), false), .call 20 [(.l 1), (.l 0)]⟩,
⟨.l, some ((.l 3), false), .op (.not (.l 0))⟩,
⟨.v 45, none, .op (.pick (.l 4) (.c (.bool true)) (.l 0))⟩]) (
.ite (.v 45) (
.seq (
.reg [⟨.v 3, none, .op (.mov (.c (.bool false)))⟩]) (
.ret)) (
.skip))) (
.seq (
.reg [⟨.l, none, .op (.mov (.v 2))⟩,
⟨.l, none, .call 22 [(.l 0), (.c (.int .i64 199))]⟩,
⟨.l, none, .op (.bin .sub .i64 (.l 0) (.c (.int .i64 99)))⟩,
⟨.v 2, none, .op (.mov (.l 0))⟩]) (
.seq (
.reg [⟨.l, none, .op (.mov (.v 2))⟩,
⟨.l, none, .call 17 [(.l 0)]⟩,
⟨.l, none, .op (.mov (.l 0))⟩,
⟨.l, none, .op (.ext (.l 0) 0)⟩,
⟨.l, none, .op (.ext (.l 1) 1)⟩,
⟨.v 31, none, .op (.alc [(.int .i64 0), .nils])⟩,
⟨.n, none, .op (.st 2 (.v 31) (.l 1))⟩,
⟨.v 32, none, .op (.mov (.l 0))⟩]) (
.seq (
.reg [⟨.l, none, .op (.ld true 2 (.v 5))⟩,
⟨.l, none, .op (.ld true 2 (.v 31))⟩,
⟨.l, none, .call 30 [(.l 1), (.l 0)]⟩,
⟨.l, none, .op (.mov (.l 0))⟩,
⟨.l, none, .op (.ext (.l 0) 0)⟩,
⟨.l, none, .op (.ext (.l 1) 1)⟩,
⟨.v 33, none, .op (.alc [(.int .i64 0), .nils])⟩,
⟨.n, none, .op (.st 2 (.v 33) (.l 1))⟩,
⟨.v 34, none, .op (.mov (.l 0))⟩]) (
.seq (
.reg [⟨.l, none, .op (.ld true 2 (.v 5))⟩,
⟨.l, none, .op (.mov (.v 2))⟩,
⟨.l, none, .call 34 [(.l 1), (.l 0)]⟩,
⟨.l, none, .op (.mov (.l 0))⟩,
⟨.l, none, .op (.ext (.l 0) 0)⟩,
⟨.l, none, .op (.ext (.l 1) 1)⟩,
⟨.v 35, none, .op (.alc [(.int .i64 0), .nils])⟩,
⟨.n, none, .op (.st 2 (.v 35) (.l 1))⟩,
⟨.v 36, none, .op (.mov (.l 0))⟩]) (
.seq (
.reg [⟨.l, none, .op (.ld true 2 (.v 5))⟩,
⟨.l, none, .call 34 [(.l 0), (.c (.int .i64 (-1)))]⟩,
⟨.l, none, .op (.mov (.l 0))⟩,
⟨.l, none, .op (.ext (.l 0) 0)⟩,
⟨.l, none, .op (.ext (.l 1) 1)⟩,
⟨.v 37, none, .op (.alc [(.int .i64 0), .nils])⟩,
⟨.n, none, .op (.st 2 (.v 37) (.l 1))⟩,
⟨.v 38, none, .op (.mov (.l 0))⟩]) (
.seq (
.reg [⟨.l, none, .op (.ld true 2 (.v 5))⟩,
⟨.l, none, .op (.ld true 2 (.v 37))⟩,
⟨.l, none, .call 29 [(.l 1), (.l 0)]⟩,
⟨.l, none, .op (.mov (.l 0))⟩,
⟨.l, none, .op (.ext (.l 0) 0)⟩,
⟨.l, none, .op (.ext (.l 1) 1)⟩,
⟨.v 39, none, .op (.alc [(.int .i64 0), .nils])⟩,
⟨.n, none, .op (.st 2 (.v 39) (.l 1))⟩,
⟨.v 40, none, .op (.mov (.l 0))⟩]) (
.seq (
.reg [⟨.l, none, .op (.ld true 2 (.v 35))⟩,
⟨.l, none, .op (.mov (.v 2))⟩,
⟨.l, none, .call 35 [(.l 1), (.l 0)]⟩,
⟨.l, none, .op (.mov (.l 0))⟩,
⟨.l, none, .op (.ext (.l 0) 0)⟩,
⟨.l, none, .op (.ext (.l 1) 1)⟩,
⟨.v 41, none, .op (.alc [(.int .i64 0), .nils])⟩,
⟨.n, none, .op (.st 2 (.v 41) (.l 1))⟩,
⟨.v 42, none, .op (.mov (.l 0))⟩]) (
.seq (
.seq (
.reg [⟨.l, none, .op (.mov (.v 32))⟩,
⟨.l, none, .op (.bin .neq .i64 (.l 0) (.c (.int .i64 0)))⟩,
⟨.l, none, .op (.mov (.l 0))⟩,
⟨.l, some ((.l 0), false), .op (.mov (.v 34))⟩,
⟨.l, some ((.l 1), false), .op (.bin .neq .i64 (.l 0) (.c (.int .i64 0)))⟩,
⟨.l, none, .op (.pick (.l 2) (.c (.bool true)) (.l 0))⟩,
⟨.l, none, .op (.mov (.l 0))⟩,
⟨.l, some ((.l 0), false), .op (.mov (.v 36))⟩,
⟨.l, some ((.l 1), false), .op (.bin .neq .i64 (.l 0) (.c (.int .i64 0)))⟩,
⟨.l, none, .op (.pick (.l 2) (.c (.bool true)) (.l 0))⟩,
⟨.l, none, .op (.mov (.l 0))⟩,
⟨.l, some ((.l 0), false), .op (.mov (.v 38))⟩,
⟨.l, some ((.l 1), false), .op (.bin .neq .i64 (.l 0) (.c (.int .i64 0)))⟩,
⟨.l, none, .op (.pick (.l 2) (.c (.bool true)) (.l 0))⟩,
⟨.l, none, .op (.mov (.l 0))⟩,
⟨.l, some ((.l 0), false), .op (.ld true 2 (.v 33))⟩,
⟨.l, some ((.l 1), false), .op (.ld true 2 (.v 35))⟩,
⟨.l, some ((.l 2), false), .call 20 [(.l 1), (.l 0)]⟩,
⟨.l, some ((.l 3), false), .op (.not (.l 0))⟩,
⟨.l, none, .op (.pick (.l 4) (.c (.bool true)) (.l 0))⟩,
⟨.l, none, .op (.mov (.l 0))⟩,
⟨.l, some ((.l 0), false), .op (.ld true 2 (.v 39))⟩,
⟨.l, some ((.l 1), false), .op (.mov (.v 40))⟩,
⟨.l, some ((.l 2), false), .op (.bls 1 [(.int .i64 0)] 1 [(0, 1, (.c (.int .i64 0)))])⟩,
⟨.l, some ((.l 3), false), .call 32 [(.l 2), (.l 1), (.c (.int .i64 1)), (.l 0)]⟩,
⟨.l, some ((.l 4), false), .op (.not (.l 0))⟩,
⟨.v 46, none, .op (.pick (.l 5) (.c (.bool true)) (.l 0))⟩]) (
.ite (.v 46) (
.seq (
.reg [⟨.v 3, none, .op (.mov (.c (.bool false)))⟩]) (
.ret)) (
.skip))) (
.seq (
.reg [⟨.l, none, .op (.mov (.v 2))⟩,
⟨.l, none, .op (.bin .eql .i64 (.l 0) (.c (.int .i64 0)))⟩,
⟨.l, none, .op (.mov (.l 0))⟩,
⟨.l, some ((.l 0), true), .op (.mov (.v 42))⟩,
⟨.l, some ((.l 1), true), .op (.bin .eql .i64 (.l 0) (.c (.int .i64 6)))⟩,
⟨.l, none, .op (.pick (.l 2) (.l 0) (.c (.bool false)))⟩,
⟨.l, none, .op (.mov (.l 0))⟩,
⟨.l, some ((.l 0), false), .op (.mov (.v 2))⟩,
⟨.l, some ((.l 1), false), .op (.bin .neq .i64 (.l 0) (.c (.int .i64 0)))⟩,
⟨.l, some ((.l 2), false), .op (.mov (.l 0))⟩,
⟨.l, some ((.l 0), true), .op (.mov (.v 42))⟩,
⟨.l, some ((.l 1), true), .op (.bin .eql .i64 (.l 0) (.c (.int .i64 0)))⟩,
⟨.l, some ((.l 5), false), .op (.pick (.l 2) (.l 0) (.c (.bool false)))⟩,
⟨.l, some ((.l 6), false), .op (.mov (.l 0))⟩,
⟨.l, some ((.l 0), true), .op (.ld true 2 (.v 41))⟩,
⟨.l, some ((.l 1), true), .op (.ld true 2 (.v 5))⟩,
⟨.l, some ((.l 2), true), .call 20 [(.l 1), (.l 0)]⟩,
⟨.l, some ((.l 10), false), .op (.pick (.l 3) (.l 0) (.c (.bool false)))⟩,
⟨.l, none, .op (.pick (.l 11) (.c (.bool true)) (.l 0))⟩,
⟨.v 3, none, .op (.mov (.l 0))⟩]) (
.ret))))))))))))))))))))))))))))⟩
/- 8 cayley/cayleylaw06.CycloCalls -/
abbrev n_law06_CycloCalls : Nat := 8
def c_law06_CycloCalls : Ay.Fn := ⟨3, [some 0, some 1, some 2, none, none, none, none, none, none, none, none, none, none, none, none, none, none, none, none, none, none, none, none, none, none, none, none, none, none, none, none, none, none, none, none, none], [.v 5],
.seq (
.reg [⟨.v 3, none, .op (.box (.v 0))⟩,
⟨.v 4, none, .op (.box (.v 1))⟩,
⟨.v 5, none, .op (.mov (.c (.bool false)))⟩]) (
.seq (
.seq (
.reg [⟨.l, none, .call 10 []⟩,
⟨.v 34, none, .op (.not (.l 0))⟩]) (
.ite (.v 34) (
.seq (
.reg [⟨.v 5, none, .op (.mov (.c (.bool false)))⟩]) (
.ret)) (
.skip))) (
.seq (
.seq (
.reg [⟨.l, none, .op (.fla 1 (.v 3))⟩,
⟨.l, none, .op (.ld false 1 (.l 0))⟩,
⟨.l, none, .op (.lens (.l 0))⟩,
⟨.l, none, .op (.bin .gtr .i64 (.l 0) (.c (.int .i64 200)))⟩,
⟨.l, none, .op (.mov (.l 0))⟩,
⟨.l, some ((.l 0), false), .op (.fla 1 (.v 4))⟩,
⟨.l, some ((.l 1), false), .op (.ld false 1 (.l 0))⟩,
⟨.l, some ((.l 2), false), .op (.lens (.l 0))⟩,
⟨.l, some ((.l 3), false), .op (.bin .gtr .i64 (.l 0) (.c (.int .i64 200)))⟩,
⟨.v 35, none, .op (.pick (.l 4) (.c (.bool true)) (.l 0))⟩]) (
.ite (.v 35) (
.seq (
.reg [⟨.v 5, none, .op (.mov (.c (.bool true)))⟩]) (
.ret)) (
.skip))) (
.seq (
.reg [⟨.l, none, .op (.ld true 2 (.v 3))⟩,
⟨.l, none, .op (.ld true 2 (.v 4))⟩,
⟨.l, none, .call 29 [(.l 1), (.l 0)]⟩,
⟨.l, none, .op (.mov (.l 0))⟩,
⟨.l, none, .op (.ext (.l 0) 0)⟩,
⟨.l, none, .op (.ext (.l 1) 1)⟩,
⟨.v 6, none, .op (.alc [(.int .i64 0), .nils])⟩,
⟨.n, none, .op (.st 2 (.v 6) (.l 1))⟩,
⟨.v 7, none, .op (.mov (.l 0))⟩]) (
.seq (
.reg [⟨.l, none, .op (.ld true 2 (.v 3))⟩,
⟨.l, none, .op (.ld true 2 (.v 4))⟩,
⟨.l, none, .call 36 [(.l 1), (.l 0)]⟩,
⟨.l, none, .op (.mov (.l 0))⟩,
⟨.l, none, .op (.ext (.l 0) 0)⟩,
⟨.l, none, .op (.ext (.l 1) 1)⟩,
⟨.v 8, none, .op (.alc [(.int .i64 0), .nils])⟩,
⟨.n, none, .op (.st 2 (.v 8) (.l 1))⟩,
⟨.v 9, none, .op (.mov (.l 0))⟩]) (
.seq (
.reg [⟨.l, none, .op (.ld true 2 (.v 3))⟩,
⟨.l, none, .op (.ld true 2 (.v 4))⟩,
⟨.l, none, .call 30 [(.l 1), (.l 0)]⟩,
⟨.l, none, .op (.mov (.l 0))⟩,
⟨.l, none, .op (.ext (.l 0) 0)⟩,
⟨.l, none, .op (.ext (.l 1) 1)⟩,
⟨.v 10, none, .op (.alc [(.int .i64 0), .nils])⟩,
⟨.n, none, .op (.st 2 (.v 10) (.l 1))⟩,
⟨.v 11, none, .op (.mov (.l 0))⟩]) (
.seq (
.reg [⟨.l, none, .op (.ld true 2 (.v 3))⟩,
⟨.l, none, .op (.ld true 2 (.v 4))⟩,
⟨.l, none, .call 37 [(.l 1), (.l 0)]⟩,
⟨.l, none, .op (.mov (.l 0))⟩,
⟨.l, none, .op (.ext (.l 0) 0)⟩,
⟨.l, none, .op (.ext (.l 1) 1)⟩,
⟨.v 12, none, .op (.alc [(.int .i64 0), .nils])⟩,
⟨.n, none, .op (.st 2 (.v 12) (.l 1))⟩,
⟨.v 13, none, .op (.mov (.l 0))⟩]) (
.seq (
.reg [⟨.l, none, .op (.ld true 2 (.v 3))⟩,
⟨.l, none, .op (.mov (.v 2))⟩,
⟨.l, none, .call 34 [(.l 1), (.l 0)]⟩,
⟨.l, none, .op (.mov (.l 0))⟩,
⟨.l, none, .op (.ext (.l 0) 0)⟩,
⟨.l, none, .op (.ext (.l 1) 1)⟩,
⟨.v 14, none, .op (.alc [(.int .i64 0), .nils])⟩,
⟨.n, none, .op (.st 2 (.v 14) (.l 1))⟩,
⟨.v 15, none, .op (.mov (.l 0))⟩]) (
.seq (
.reg [⟨.l, none, .op (.ld true 2 (.v 3))⟩,
⟨.l, none, .op (.mov (.v 2))⟩,
⟨.l, none, .call 38 [(.l 1), (.l 0)]⟩,
⟨.l, none, .op (.mov (.l 0))⟩,
⟨.l, none, .op (.ext (.l 0) 0)⟩,
⟨.l, none, .op (.ext (.l 1) 1)⟩,
⟨.v 16, none, .op (.alc [(.int .i64 0), .nils])⟩,
⟨.n, none, .op (.st 2 (.v 16) (.l 1))⟩,
⟨.v 17, none, .op (.mov (.l 0))⟩]) (
.seq (
.reg [⟨.l, none, .op (.ld true 2 (.v 3))⟩,
⟨.l, none, .op (.mov (.v 2))⟩,
⟨.l, none, .call 35 [(.l 1), (.l 0)]⟩,
⟨.l, none, .op (.mov (.l 0))⟩,
⟨.l, none, .op (.ext (.l 0) 0)⟩,
⟨.l, none, .op (.ext (.l 1) 1)⟩,
⟨.v 18, none, .op (.alc [(.int .i64 0), .nils])⟩,
⟨.n, none, .op (.st 2 (.v 18) (.l 1))⟩,
⟨.v 19, none, .op (.mov (.l 0))⟩]) (
.seq (
.reg [⟨.l, none, .op (.ld true 2 (.v 3))⟩,
⟨.l, none, .op (.mov (.v 2))⟩,
⟨.l, none, .call 39 [(.l 1), (.l 0)]⟩,
⟨.l, none, .op (.mov (.l 0))⟩,
⟨.l, none, .op (.ext (.l 0) 0)⟩,
⟨.l, none, .op (.ext (.l 1) 1)⟩,
⟨.v 20, none, .op (.alc [(.int .i64 0), .nils])⟩,
⟨.n, none, .op (.st 2 (.v 20) (.l 1))⟩,
⟨.v 21, none, .op (.mov (.l 0))⟩]) (
.seq (
.reg [⟨.l, none, .op (.ld true 2 (.v 3))⟩,
⟨.l, none, .op (.mov (.v 2))⟩,
⟨.l, none, .call 26 [(.l 1), (.l 0)]⟩,
⟨.l, none, .op (.mov (.l 0))⟩,
⟨.l, none, .op (.ext (.l 0) 0)⟩,
⟨.l, none, .op (.ext (.l 1) 1)⟩,
⟨.v 22, none, .op (.alc [(.int .i64 0), .nils])⟩,
⟨.n, none, .op (.st 2 (.v 22) (.l 1))⟩,
⟨.v 23, none, .op (.mov (.l 0))⟩]) (
.seq (
.reg [⟨.l, none, .op (.ld true 2 (.v 3))⟩,
⟨.l, none, .op (.mov (.v 2))⟩,
⟨.l, none, .call 40 [(.l 1), (.l 0)]⟩,
⟨.l, none, .op (.mov (.l 0))⟩,
⟨.l, none, .op (.ext (.l 0) 0)⟩,
⟨.l, none, .op (.ext (.l 1) 1)⟩,
⟨.v 24, none, .op (.alc [(.int .i64 0), .nils])⟩,
⟨.n, none, .op (.st 2 (.v 24) (.l 1))⟩,
⟨.v 25, none, .op (.mov (.l 0))⟩]) (
.seq (
.reg [⟨.l, none, .op (.ld true 2 (.v 3))⟩,
⟨.l, none, .call 31 [(.l 0)]⟩,
⟨.l, none, .op (.mov (.l 0))⟩,
⟨.l, none, .op (.ext (.l 0) 0)⟩,
⟨.l, none, .op (.ext (.l 1) 1)⟩,
⟨.v 26, none, .op (.alc [(.int .i64 0), .nils])⟩,
⟨.n, none, .op (.st 2 (.v 26) (.l 1))⟩,
⟨.v 27, none, .op (.mov (.l 0))⟩]) (
.seq (
.reg [⟨.l, none, .op (.ld true 2 (.v 3))⟩,
⟨.l, none, .call 41 [(.l 0)]⟩,
⟨.l, none, .op (.mov (.l 0))⟩,
⟨.l, none, .op (.ext (.l 0) 0)⟩,
⟨.l, none, .op (.ext (.l 1) 1)⟩,
⟨.v 28, none, .op (.alc [(.int .i64 0), .nils])⟩,
⟨.n, none, .op (.st 2 (.v 28) (.l 1))⟩,
⟨.v 29, none, .op (.mov (.l 0))⟩]) (
.seq (
.reg [⟨.l, none, .op (.ld true 2 (.v 3))⟩,
⟨.l, none, .call 33 [(.l 0)]⟩,
⟨.l, none, .op (.mov (.l 0))⟩,
⟨.l, none, .op (.ext (.l 0) 0)⟩,
⟨.l, none, .op (.ext (.l 1) 1)⟩,
⟨.v 30, none, .op (.mov (.l 1))⟩,
⟨.v 31, none, .op (.mov (.l 0))⟩]) (
.seq (
.reg [⟨.l, none, .op (.ld true 2 (.v 3))⟩,
⟨.l, none, .call 42 [(.l 0)]⟩,
⟨.l, none, .op (.mov (.l 0))⟩,
⟨.l, none, .op (.ext (.l 0) 0)⟩,
⟨.l, none, .op (.ext (.l 1) 1)⟩,
⟨.v 32, none, .op (.mov (.l 1))⟩,
⟨.v 33, none, .op (.mov (.l 0))⟩]) (
.seq (
.any 85 84 [⟨0, ⟨.v 36, none, .op (.ld true 2 (.v 3))⟩, false, []⟩,
⟨2, ⟨.v 38, none, .op (.ld true 2 (.v 3))⟩, false, []⟩,
⟨1, ⟨.v 37, none, .call 24 [(.v 36)]⟩, false, [2]⟩,
⟨3, ⟨.v 39, none, .call 43 [(.v 38)]⟩, false, []⟩,
⟨4, ⟨.v 40, none, .op (.bin .eql .i64 (.v 37) (.v 39))⟩, false, []⟩,
⟨5, ⟨.v 41, none, .op (.mov (.v 40))⟩, false, []⟩,
⟨6, ⟨.v 42, some ((.v 41), true), .op (.ld true 2 (.v 6))⟩, false, []⟩,
⟨7, ⟨.v 43, some ((.v 41), true), .op (.ld true 2 (.v 8))⟩, false, []⟩,
⟨8, ⟨.v 44, some ((.v 41), true), .call 20 [(.v 42), (.v 43)]⟩, false, []⟩,
⟨9, ⟨.v 45, none, .op (.pick (.v 41) (.v 44) (.c (.bool false)))⟩, false, []⟩,
⟨10, ⟨.v 46, none, .op (.mov (.v 45))⟩, false, []⟩,
⟨11, ⟨.v 47, some ((.v 46), true), .op (.mov (.v 7))⟩, false, []⟩,
⟨12, ⟨.v 48, some ((.v 46), true), .op (.mov (.v 9))⟩, false, []⟩,
⟨13, ⟨.v 49, some ((.v 46), true), .op (.bin .eql .i64 (.v 47) (.v 48))⟩, false, []⟩,
⟨14, ⟨.v 50, none, .op (.pick (.v 46) (.v 49) (.c (.bool false)))⟩, false, []⟩,
⟨15, ⟨.v 51, none, .op (.mov (.v 50))⟩, false, []⟩,
⟨16, ⟨.v 52, some ((.v 51), true), .op (.ld true 2 (.v 10))⟩, false, []⟩,
⟨17, ⟨.v 53, some ((.v 51), true), .op (.ld true 2 (.v 12))⟩, false, []⟩,
⟨18, ⟨.v 54, some ((.v 51), true), .call 20 [(.v 52), (.v 53)]⟩, false, []⟩,
⟨19, ⟨.v 55, none, .op (.pick (.v 51) (.v 54) (.c (.bool false)))⟩, false, []⟩,
⟨20, ⟨.v 56, none, .op (.mov (.v 55))⟩, false, []⟩,
⟨21, ⟨.v 57, some ((.v 56), true), .op (.mov (.v 11))⟩, false, []⟩,
⟨22, ⟨.v 58, some ((.v 56), true), .op (.mov (.v 13))⟩, false, []⟩,
⟨23, ⟨.v 59, some ((.v 56), true), .op (.bin .eql .i64 (.v 57) (.v 58))⟩, false, []⟩,
⟨24, ⟨.v 60, none, .op (.pick (.v 56) (.v 59) (.c (.bool false)))⟩, false, []⟩,
⟨25, ⟨.v 61, none, .op (.mov (.v 60))⟩, false, []⟩,
⟨26, ⟨.v 62, some ((.v 61), true), .op (.ld true 2 (.v 14))⟩, false, []⟩,
⟨27, ⟨.v 63, some ((.v 61), true), .op (.ld true 2 (.v 16))⟩, false, []⟩,
⟨28, ⟨.v 64, some ((.v 61), true), .call 20 [(.v 62), (.v 63)]⟩, false, []⟩,
⟨29, ⟨.v 65, none, .op (.pick (.v 61) (.v 64) (.c (.bool false)))⟩, false, []⟩,
⟨30, ⟨.v 66, none, .op (.mov (.v 65))⟩, false, []⟩,
⟨31, ⟨.v 67, some ((.v 66), true), .op (.mov (.v 15))⟩, false, []⟩,
⟨32, ⟨.v 68, some ((.v 66), true), .op (.mov (.v 17))⟩, false, []⟩,
⟨33, ⟨.v 69, some ((.v 66), true), .op (.bin .eql .i64 (.v 67) (.v 68))⟩, false, []⟩,
⟨34, ⟨.v 70, none, .op (.pick (.v 66) (.v 69) (.c (.bool false)))⟩, false, []⟩,
⟨35, ⟨.v 71, none, .op (.mov (.v 70))⟩, false, []⟩,
⟨36, ⟨.v 72, some ((.v 71), true), .op (.ld true 2 (.v 18))⟩, false, []⟩,
⟨37, ⟨.v 73, some ((.v 71), true), .op (.ld true 2 (.v 20))⟩, false, []⟩,
⟨38, ⟨.v 74, some ((.v 71), true), .call 20 [(.v 72), (.v 73)]⟩, false, []⟩,
⟨39, ⟨.v 75, none, .op (.pick (.v 71) (.v 74) (.c (.bool false)))⟩, false, []⟩,
⟨40, ⟨.v 76, none, .op (.mov (.v 75))⟩, false, []⟩,
⟨41, ⟨.v 77, some ((.v 76), true), .op (.mov (.v 19))⟩, false, []⟩,
⟨42, ⟨.v 78, some ((.v 76), true), .op (.mov (.v 21))⟩, false, []⟩,
⟨43, ⟨.v 79, some ((.v 76), true), .op (.bin .eql .i64 (.v 77) (.v 78))⟩, false, []⟩,
⟨44, ⟨.v 80, none, .op (.pick (.v 76) (.v 79) (.c (.bool false)))⟩, false, []⟩,
⟨45, ⟨.v 81, none, .op (.mov (.v 80))⟩, false, []⟩,
⟨46, ⟨.v 82, some ((.v 81), true), .op (.ld true 2 (.v 22))⟩, false, []⟩,
⟨47, ⟨.v 83, some ((.v 81), true), .op (.ld true 2 (.v 24))⟩, false, []⟩,
⟨48, ⟨.v 84, some ((.v 81), true), .call 20 [(.v 82), (.v 83)]⟩, false, []⟩,
⟨49, ⟨.v 85, none, .op (.pick (.v 81) (.v 84) (.c (.bool false)))⟩, false, []⟩,
⟨50, ⟨.v 86, none, .op (.mov (.v 85))⟩, false, []⟩,
⟨51, ⟨.v 87, some ((.v 86), true), .op (.mov (.v 23))⟩, false, []⟩,
⟨52, ⟨.v 88, some ((.v 86), true), .op (.mov (.v 25))⟩, false, []⟩,
⟨53, ⟨.v 89, some ((.v 86), true), .op (.bin .eql .i64 (.v 87) (.v 88))⟩, false, []⟩,
⟨54, ⟨.v 90, none, .op (.pick (.v 86) (.v 89) (.c (.bool false)))⟩, false, []⟩,
⟨55, ⟨.v 91, none, .op (.mov (.v 90))⟩, false, []⟩,
⟨56, ⟨.v 92, some ((.v 91), true), .op (.ld true 2 (.v 26))⟩, false, []⟩,
⟨57, ⟨.v 93, some ((.v 91), true), .op (.ld true 2 (.v 28))⟩, false, []⟩,
⟨58, ⟨.v 94, some ((.v 91), true), .call 20 [(.v 92), (.v 93)]⟩, false, []⟩,
⟨59, ⟨.v 95, none, .op (.pick (.v 91) (.v 94) (.c (.bool false)))⟩, false, []⟩,
⟨60, ⟨.v 96, none, .op (.mov (.v 95))⟩, false, []⟩,
⟨61, ⟨.v 97, some ((.v 96), true), .op (.mov (.v 27))⟩, false, []⟩,
⟨62, ⟨.v 98, some ((.v 96), true), .op (.mov (.v 29))⟩, false, []⟩,
⟨63, ⟨.v 99, some ((.v 96), true), .op (.bin .eql .i64 (.v 97) (.v 98))⟩, false, []⟩,
⟨64, ⟨.v 100, none, .op (.pick (.v 96) (.v 99) (.c (.bool false)))⟩, false, []⟩,
⟨65, ⟨.v 101, none, .op (.mov (.v 100))⟩, false, []⟩,
⟨66, ⟨.v 102, some ((.v 101), true), .op (.mov (.v 30))⟩, false, []⟩,
⟨67, ⟨.v 103, some ((.v 101), true), .op (.mov (.v 32))⟩, false, []⟩,
⟨68, ⟨.v 104, some ((.v 101), true), .op (.bin .eql .i64 (.v 102) (.v 103))⟩, false, []⟩,
⟨69, ⟨.v 105, none, .op (.pick (.v 101) (.v 104) (.c (.bool false)))⟩, false, []⟩,
⟨70, ⟨.v 106, none, .op (.mov (.v 105))⟩, false, []⟩,
⟨71, ⟨.v 107, some ((.v 106), true), .op (.mov (.v 31))⟩, false, []⟩,
⟨72, ⟨.v 108, some ((.v 106), true), .op (.mov (.v 33))⟩, false, []⟩,
⟨73, ⟨.v 109, some ((.v 106), true), .op (.beq false (.v 107) (.v 108))⟩, false, []⟩,
⟨74, ⟨.v 110, none, .op (.pick (.v 106) (.v 109) (.c (.bool false)))⟩, false, []⟩,
⟨75, ⟨.v 111, none, .op (.mov (.v 110))⟩, false, []⟩,
⟨76, ⟨.v 112, some ((.v 111), true), .op (.ld true 2 (.v 3))⟩, false, []⟩,
⟨77, ⟨.v 113, some ((.v 111), true), .op (.ld true 2 (.v 4))⟩, false, []⟩,
⟨79, ⟨.v 115, some ((.v 111), true), .op (.ld true 2 (.v 3))⟩, false, []⟩,
⟨80, ⟨.v 116, some ((.v 111), true), .op (.ld true 2 (.v 4))⟩, false, []⟩,
⟨78, ⟨.v 114, some ((.v 111), true), .call 44 [(.v 112), (.v 113)]⟩, false, [80, 79]⟩,
⟨81, ⟨.v 117, some ((.v 111), true), .call 45 [(.v 115), (.v 116)]⟩, false, []⟩,
⟨82, ⟨.v 118, some ((.v 111), true), .op (.bin .eql .i64 (.v 114) (.v 117))⟩, false, []⟩,
⟨83, ⟨.v 119, none, .op (.pick (.v 111) (.v 118) (.c (.bool false)))⟩, false, []⟩,
⟨84, ⟨.v 5, none, .op (.mov (.v 119))⟩, false, []⟩]) (
.ret))))))))))))))))))⟩
/- 9 cayley/cayleylaw06.CycloNames -/
abbrev n_law06_CycloNames : Nat := 9
def c_law06_CycloNames : Ay.Fn := ⟨0, [none, none, none, none, none, none, none, none, none, none, none, none, none, none, none, none, none, none, none, none, none, none, none, none, none, none, none, none, none, none, none, none, none, none, none, none, none, none, none, none, none, none, none, none, none, none, none, none, none, none, none, none, none, none, none, none, none], [.v 0],
.seq (
.reg [⟨.v 0, none, .op (.mov (.c (.bool false)))⟩]) (
.seq (
.seq (
.reg [⟨.l, none, .call 10 []⟩,
⟨.v 56, none, .op (.not (.l 0))⟩]) (
.ite (.v 56) (
.seq (
.reg [⟨.v 0, none, .op (.mov (.c (.bool false)))⟩]) (
.ret)) (
.skip))) (
.seq (
.reg [⟨.l, none, .call 11 [(.c (.int .i64 1))]⟩,
⟨.l, none, .op (.mov (.l 0))⟩,
⟨.l, none, .op (.ext (.l 0) 0)⟩,
⟨.l, none, .op (.ext (.l 1) 1)⟩,
⟨.v 1, none, .op (.mov (.l 1))⟩,
⟨.v 2, none, .op (.mov (.l 0))⟩]) (
.seq (
.reg [⟨.l, none, .call 11 [(.c (.int .i64 12))]⟩,
⟨.l, none, .op (.mov (.l 0))⟩,
⟨.l, none, .op (.ext (.l 0) 0)⟩,
⟨.l, none, .op (.ext (.l 1) 1)⟩,
⟨.v 3, none, .op (.mov (.l 1))⟩,
⟨.v 4, none, .op (.mov (.l 0))⟩]) (
.seq (
.reg [⟨.l, none, .call 11 [(.c (.int .i64 105))]⟩,
⟨.l, none, .op (.mov (.l 0))⟩,
⟨.l, none, .op (.ext (.l 0) 0)⟩,
⟨.l, none, .op (.ext (.l 1) 1)⟩,
⟨.v 5, none, .op (.mov (.l 1))⟩,
⟨.v 6, none, .op (.mov (.l 0))⟩]) (
.seq (
.reg [⟨.l, none, .call 11 [(.c (.int .i64 121))]⟩,
⟨.l, none, .op (.mov (.l 0))⟩,
⟨.l, none, .op (.ext (.l 0) 0)⟩,
⟨.l, none, .op (.ext (.l 1) 1)⟩,
⟨.l, none, .op (.mov (.l 1))⟩,
⟨.v 7, none, .op (.mov (.l 1))⟩]) (
.seq (
.reg [⟨.l, none, .call 11 [(.c (.int .i64 120))]⟩,
⟨.l, none, .op (.mov (.l 0))⟩,
⟨.l, none, .op (.ext (.l 0) 0)⟩,
⟨.l, none, .op (.ext (.l 1) 1)⟩,
⟨.v 8, none, .op (.mov (.l 1))⟩,
⟨.v 9, none, .op (.mov (.l 0))⟩]) (
.seq (
.reg [⟨.l, none, .op (.mov (.v 2))⟩,
⟨.l, none, .op (.bin .eql .i64 (.l 0) (.c (.int .i64 0)))⟩,
⟨.l, none, .op (.mov (.l 0))⟩,
⟨.l, some ((.l 0), true), .op (.mov (.v 1))⟩,
⟨.l, some ((.l 1), true), .op (.bls 1 [(.int .i64 0)] 2 [(0, 1, (.c (.int .i64 (-1)))), (1, 1, (.c (.int .i64 1)))])⟩,
⟨.l, some ((.l 2), true), .call 19 [(.l 1), (.l 0)]⟩,
⟨.l, none, .op (.pick (.l 3) (.l 0) (.c (.bool false)))⟩,
⟨.l, none, .op (.mov (.l 0))⟩,
⟨.l, some ((.l 0), true), .op (.mov (.v 4))⟩,
⟨.l, some ((.l 1), true), .op (.bin .eql .i64 (.l 0) (.c (.int .i64 0)))⟩,
⟨.l, none, .op (.pick (.l 2) (.l 0) (.c (.bool false)))⟩,
⟨.l, none, .op (.mov (.l 0))⟩,
⟨.l, some ((.l 0), true), .op (.mov (.v 3))⟩,
⟨.l, some ((.l 1), true), .op (.bls 1 [(.int .i64 0)] 5 [(0, 1, (.c (.int .i64 1))), (1, 1, (.c (.int .i64 0))), (2, 1, (.c (.int .i64 (-1)))), (3, 1, (.c (.int .i64 0))), (4, 1, (.c (.int .i64 1)))])⟩,
⟨.l, some ((.l 2), true), .call 19 [(.l 1), (.l 0)]⟩,
⟨.l, none, .op (.pick (.l 3) (.l 0) (.c (.bool false)))⟩,
⟨.l, none, .op (.mov (.l 0))⟩,
⟨.l, some ((.l 0), true), .op (.mov (.v 6))⟩,
⟨.l, some ((.l 1), true), .op (.bin .eql .i64 (.l 0) (.c (.int .i64 0)))⟩,
⟨.l, none, .op (.pick (.l 2) (.l 0) (.c (.bool false)))⟩,
⟨.l, none, .op (.mov (.l 0))⟩,
⟨.l, some ((.l 0), true), .op (.mov (.v 5))⟩,
⟨.l, some ((.l 1), true), .op (.lens (.l 0))⟩,
⟨.l, some ((.l 2), true), .op (.bin .eql .i64 (.l 0) (.c (.int .i64 49)))⟩,
⟨.l, none, .op (.pick (.l 3) (.l 0) (.c (.bool false)))⟩,
⟨.l, none, .op (.mov (.l 0))⟩,
⟨.l, some ((.l 0), true), .op (.mov (.v 5))⟩,
⟨.l, some ((.l 1), true), .op (.ixa 1 (.l 0) (.c (.int .i64 7)))⟩,
⟨.l, some ((.l 2), true), .op (.ld false 1 (.l 0))⟩,
⟨.l, some ((.l 3), true), .op (.bin .eql .i64 (.l 0) (.c (.int .i64 (-2))))⟩,
⟨.l, none, .op (.pick (.l 4) (.l 0) (.c (.bool false)))⟩,
⟨.l, none, .op (.mov (.l 0))⟩,
⟨.l, some ((.l 0), true), .op (.mov (.v 7))⟩,
⟨.l, some ((.l 1), true), .op (.bin .eql .i64 (.l 0) (.c (.int .i64 2)))⟩,
⟨.l, none, .op (.pick (.l 2) (.l 0) (.c (.bool false)))⟩,
⟨.l, none, .op (.mov (.l 0))⟩,
⟨.l, some ((.l 0), true), .op (.mov (.v 9))⟩,
⟨.l, some ((.l 1), true), .op (.bin .eql .i64 (.l 0) (.c (.int .i64 0)))⟩,
⟨.l, none, .op (.pick (.l 2) (.l 0) (.c (.bool false)))⟩,
⟨.l, none, .op (.mov (.l 0))⟩,
⟨.l, some ((.l 0), true), .op (.mov (.v 8))⟩,
⟨.l, some ((.l 1), true), .op (.lens (.l 0))⟩,
⟨.l, some ((.l 2), true), .op (.bin .eql .i64 (.l 0) (.c (.int .i64 33)))⟩,
⟨.l, none, .op (.pick (.l 3) (.l 0) (.c (.bool false)))⟩,
⟨.v 10, none, .op (.mov (.l 0))⟩]) (
.seq (
.reg [⟨.l, none, .call 15 [(.c (.int .i64 4)), (.c (.int .i64 2))]⟩,
⟨.l, none, .op (.mov (.l 0))⟩,
⟨.l, none, .op (.ext (.l 0) 0)⟩,
⟨.l, none, .op (.ext (.l 1) 1)⟩,
⟨.v 11, none, .op (.alc [(.int .i64 0), .nils])⟩,
⟨.n, none, .op (.st 2 (.v 11) (.l 1))⟩,
⟨.v 12, none, .op (.mov (.l 0))⟩]) (
.seq (
.reg [⟨.l, none, .call 15 [(.c (.int .i64 5)), (.c (.int .i64 (-1)))]⟩,
⟨.l, none, .op (.mov (.l 0))⟩,
⟨.l, none, .op (.ext (.l 0) 0)⟩,
⟨.l, none, .op (.ext (.l 1) 1)⟩,
⟨.v 13, none, .op (.alc [(.int .i64 0), .nils])⟩,
⟨.n, none, .op (.st 2 (.v 13) (.l 1))⟩,
⟨.v 14, none, .op (.mov (.l 0))⟩]) (
.seq (
.reg [⟨.l, none, .call 15 [(.c (.int .i64 8)), (.c (.int .i64 9))]⟩,
⟨.l, none, .op (.mov (.l 0))⟩,
⟨.l, none, .op (.ext (.l 0) 0)⟩,
⟨.l, none, .op (.ext (.l 1) 1)⟩,
⟨.v 15, none, .op (.alc [(.int .i64 0), .nils])⟩,
⟨.n, none, .op (.st 2 (.v 15) (.l 1))⟩,
⟨.v 16, none, .op (.mov (.l 0))⟩]) (
.seq (
.reg [⟨.l, none, .call 46 [(.c (.int .i64 5)), (.c (.int .i64 1))]⟩,
⟨.l, none, .call 46 [(.c (.int .i64 5)), (.c (.int .i64 4))]⟩,
⟨.l, none, .call 29 [(.l 1), (.l 0)]⟩,
⟨.l, none, .op (.mov (.l 0))⟩,
⟨.l, none, .op (.ext (.l 0) 0)⟩,
⟨.l, none, .op (.ext (.l 1) 1)⟩,
⟨.v 17, none, .op (.alc [(.int .i64 0), .nils])⟩,
⟨.n, none, .op (.st 2 (.v 17) (.l 1))⟩,
⟨.v 18, none, .op (.mov (.l 0))⟩]) (
.seq (
.reg [⟨.l, none, .call 46 [(.c (.int .i64 3)), (.c (.int .i64 1))]⟩,
⟨.l, none, .call 46 [(.c (.int .i64 4)), (.c (.int .i64 1))]⟩,
⟨.l, none, .call 30 [(.l 1), (.l 0)]⟩,
⟨.l, none, .op (.mov (.l 0))⟩,
⟨.l, none, .op (.ext (.l 0) 0)⟩,
⟨.l, none, .op (.ext (.l 1) 1)⟩,
⟨.v 19, none, .op (.alc [(.int .i64 0), .nils])⟩,
⟨.n, none, .op (.st 2 (.v 19) (.l 1))⟩,
⟨.v 20, none, .op (.mov (.l 0))⟩]) (
.seq (
.reg [⟨.l, none, .call 46 [(.c (.int .i64 11)), (.c (.int .i64 1))]⟩,
⟨.l, none, .call 46 [(.c (.int .i64 12)), (.c (.int .i64 1))]⟩,
⟨.l, none, .call 29 [(.l 1), (.l 0)]⟩,
⟨.l, none, .op (.mov (.l 0))⟩,
⟨.l, none, .op (.ext (.l 0) 0)⟩,
⟨.l, none, .op (.ext (.l 1) 1)⟩,
⟨.v 21, none, .op (.alc [(.int .i64 0), .nils])⟩,
⟨.n, none, .op (.st 2 (.v 21) (.l 1))⟩,
⟨.v 22, none, .op (.mov (.l 0))⟩]) (
.seq (
.reg [⟨.l, none, .call 46 [(.c (.int .i64 3)), (.c (.int .i64 1))]⟩,
⟨.l, none, .call 31 [(.l 0)]⟩,
⟨.l, none, .op (.mov (.l 0))⟩,
⟨.l, none, .op (.ext (.l 0) 0)⟩,
⟨.l, none, .op (.ext (.l 1) 1)⟩,
⟨.v 23, none, .op (.alc [(.int .i64 0), .nils])⟩,
⟨.n, none, .op (.st 2 (.v 23) (.l 1))⟩,
⟨.v 24, none, .op (.mov (.l 0))⟩]) (
.seq (
.reg [⟨.l, none, .call 46 [(.c (.int .i64 5)), (.c (.int .i64 1))]⟩,
⟨.l, none, .call 26 [(.l 0), (.c (.int .i64 2))]⟩,
⟨.l, none, .op (.mov (.l 0))⟩,
⟨.l, none, .op (.ext (.l 0) 0)⟩,
⟨.l, none, .op (.ext (.l 1) 1)⟩,
⟨.v 25, none, .op (.alc [(.int .i64 0), .nils])⟩,
⟨.n, none, .op (.st 2 (.v 25) (.l 1))⟩,
⟨.v 26, none, .op (.mov (.l 0))⟩]) (
.seq (
.reg [⟨.l, none, .call 46 [(.c (.int .i64 5)), (.c (.int .i64 1))]⟩,
⟨.l, none, .call 26 [(.l 0), (.c (.int .i64 10))]⟩,
⟨.l, none, .op (.mov (.l 0))⟩,
⟨.l, none, .op (.ext (.l 0) 0)⟩,
⟨.l, none, .op (.ext (.l 1) 1)⟩,
⟨.v 27, none, .op (.alc [(.int .i64 0), .nils])⟩,
⟨.n, none, .op (.st 2 (.v 27) (.l 1))⟩,
⟨.v 28, none, .op (.mov (.l 0))⟩]) (
.seq (
.reg [⟨.l, none, .op (.ld true 2 (.v 11))⟩,
⟨.l, none, .op (.mov (.v 12))⟩,
⟨.l, none, .op (.bls 1 [(.int .i64 0)] 1 [(0, 1, (.c (.int .i64 (-1))))])⟩,
⟨.l, none, .call 32 [(.l 2), (.l 1), (.c (.int .i64 1)), (.l 0)]⟩,
⟨.l, none, .op (.mov (.l 0))⟩,
⟨.l, some ((.l 0), true), .op (.ld true 2 (.v 13))⟩,
⟨.l, some ((.l 1), true), .op (.mov (.v 14))⟩,
⟨.l, some ((.l 2), true), .op (.bls 1 [(.int .i64 0)] 4 [(0, 1, (.c (.int .i64 (-1)))), (1, 1, (.c (.int .i64 (-1)))), (2, 1, (.c (.int .i64 (-1)))), (3, 1, (.c (.int .i64 (-1))))])⟩,
⟨.l, some ((.l 3), true), .call 32 [(.l 2), (.l 1), (.c (.int .i64 5)), (.l 0)]⟩,
⟨.l, none, .op (.pick (.l 4) (.l 0) (.c (.bool false)))⟩,
⟨.l, none, .op (.mov (.l 0))⟩,
⟨.l, some ((.l 0), true), .op (.ld true 2 (.v 15))⟩,
⟨.l, some ((.l 1), true), .op (.mov (.v 16))⟩,
⟨.l, some ((.l 2), true), .op (.bls 1 [(.int .i64 0)] 4 [(0, 1, (.c (.int .i64 0))), (1, 1, (.c (.int .i64 1))), (2, 1, (.c (.int .i64 0))), (3, 1, (.c (.int .i64 0)))])⟩,
⟨.l, some ((.l 3), true), .call 32 [(.l 2), (.l 1), (.c (.int .i64 8)), (.l 0)]⟩,
⟨.l, none, .op (.pick (.l 4) (.l 0) (.c (.bool false)))⟩,
⟨.l, none, .op (.mov (.l 0))⟩,
⟨.l, some ((.l 0), true), .op (.ld true 2 (.v 17))⟩,
⟨.l, some ((.l 1), true), .op (.mov (.v 18))⟩,
⟨.l, some ((.l 2), true), .op (.bls 1 [(.int .i64 0)] 4 [(0, 1, (.c (.int .i64 (-1)))), (1, 1, (.c (.int .i64 0))), (2, 1, (.c (.int .i64 (-1)))), (3, 1, (.c (.int .i64 (-1))))])⟩,
⟨.l, some ((.l 3), true), .call 32 [(.l 2), (.l 1), (.c (.int .i64 5)), (.l 0)]⟩,
⟨.l, none, .op (.pick (.l 4) (.l 0) (.c (.bool false)))⟩,
⟨.l, none, .op (.mov (.l 0))⟩,
⟨.l, some ((.l 0), true), .op (.ld true 2 (.v 19))⟩,
⟨.l, some ((.l 1), true), .op (.mov (.v 20))⟩,
⟨.l, some ((.l 2), true), .op (.bls 1 [(.int .i64 0)] 4 [(0, 1, (.c (.int .i64 0))), (1, 1, (.c (.int .i64 (-1)))), (2, 1, (.c (.int .i64 0))), (3, 1, (.c (.int .i64 0)))])⟩,
⟨.l, some ((.l 3), true), .call 32 [(.l 2), (.l 1), (.c (.int .i64 12)), (.l 0)]⟩,
⟨.l, none, .op (.pick (.l 4) (.l 0) (.c (.bool false)))⟩,
⟨.l, none, .op (.mov (.l 0))⟩,
⟨.l, some ((.l 0), true), .op (.ld true 2 (.v 21))⟩,
⟨.l, some ((.l 1), true), .op (.mov (.v 22))⟩,
⟨.l, some ((.l 2), true), .call 47 [(.l 1), (.l 0), (.c (.int .i64 5))]⟩,
⟨.l, none, .op (.pick (.l 3) (.l 0) (.c (.bool false)))⟩,
⟨.l, none, .op (.mov (.l 0))⟩,
⟨.l, some ((.l 0), true), .op (.ld true 2 (.v 23))⟩,
⟨.l, some ((.l 1), true), .op (.mov (.v 24))⟩,
⟨.l, some ((.l 2), true), .op (.bls 1 [(.int .i64 0)] 2 [(0, 1, (.c (.int .i64 (-1)))), (1, 1, (.c (.int .i64 (-1))))])⟩,
⟨.l, some ((.l 3), true), .call 32 [(.l 2), (.l 1), (.c (.int .i64 3)), (.l 0)]⟩,
⟨.l, none, .op (.pick (.l 4) (.l 0) (.c (.bool false)))⟩,
⟨.l, none, .op (.mov (.l 0))⟩,
⟨.l, some ((.l 0), true), .op (.ld true 2 (.v 25))⟩,
⟨.l, some ((.l 1), true), .op (.mov (.v 26))⟩,
⟨.l, some ((.l 2), true), .op (.bls 1 [(.int .i64 0)] 4 [(0, 1, (.c (.int .i64 0))), (1, 1, (.c (.int .i64 0))), (2, 1, (.c (.int .i64 1))), (3, 1, (.c (.int .i64 0)))])⟩,
⟨.l, some ((.l 3), true), .call 32 [(.l 2), (.l 1), (.c (.int .i64 5)), (.l 0)]⟩,
⟨.l, none, .op (.pick (.l 4) (.l 0) (.c (.bool false)))⟩,
⟨.l, none, .op (.mov (.l 0))⟩,
⟨.l, some ((.l 0), true), .op (.ld true 2 (.v 27))⟩,
⟨.l, some ((.l 1), true), .op (.mov (.v 28))⟩,
⟨.l, some ((.l 2), true), .call 47 [(.l 1), (.l 0), (.c (.int .i64 18))]⟩,
⟨.l, none, .op (.pick (.l 3) (.l 0) (.c (.bool false)))⟩,
⟨.v 29, none, .op (.mov (.l 0))⟩]) (
.seq (
.reg [⟨.l, none, .op (.bls 1 [(.int .i64 0)] 1 [(0, 1, (.c (.int .i64 6)))])⟩,
⟨.l, none, .op (.bld [(.int .i64 0), .nils] [(0, 1, (.c (.int .i64 1))), (1, 1, (.l 0))])⟩,
⟨.v 30, none, .op (.alc [(.int .i64 0), .nils])⟩,
⟨.n, none, .op (.st 2 (.v 30) (.l 0))⟩]) (
.seq (
.reg [⟨.l, none, .op (.bls 1 [(.int .i64 0)] 6 [(0, 1, (.c (.int .i64 1))), (1, 1, (.c (.int .i64 1))), (2, 1, (.c (.int .i64 1))), (3, 1, (.c (.int .i64 1))), (4, 1, (.c (.int .i64 1))), (5, 1, (.c (.int .i64 1)))])⟩,
⟨.l, none, .call 13 [(.c (.int .i64 6)), (.l 0)]⟩,
⟨.l, none, .op (.mov (.l 0))⟩,
⟨.l, none, .op (.ext (.l 0) 0)⟩,
⟨.l, none, .op (.ext (.l 1) 1)⟩,
⟨.v 31, none, .op (.alc [(.int .i64 0), .nils])⟩,
⟨.n, none, .op (.st 2 (.v 31) (.l 1))⟩,
⟨.v 32, none, .op (.mov (.l 0))⟩]) (
.seq (
.reg [⟨.l, none, .op (.bls 1 [(.int .i64 0)] 5 [(0, 1, (.c (.int .i64 0))), (1, 1, (.c (.int .i64 0))), (2, 1, (.c (.int .i64 0))), (3, 1, (.c (.int .i64 0))), (4, 1, (.c (.int .i64 5)))])⟩,
⟨.l, none, .call 13 [(.c (.int .i64 4)), (.l 0)]⟩,
⟨.l, none, .op (.mov (.l 0))⟩,
⟨.l, none, .op (.ext (.l 0) 0)⟩,
⟨.l, none, .op (.ext (.l 1) 1)⟩,
⟨.v 33, none, .op (.alc [(.int .i64 0), .nils])⟩,
⟨.n, none, .op (.st 2 (.v 33) (.l 1))⟩,
⟨.v 34, none, .op (.mov (.l 0))⟩]) (
.seq (
.reg [⟨.l, none, .op (.ld true 2 (.v 30))⟩,
⟨.l, none, .call 35 [(.l 0), (.c (.int .i64 4))]⟩,
⟨.l, none, .op (.mov (.l 0))⟩,
⟨.l, none, .op (.ext (.l 0) 0)⟩,
⟨.l, none, .op (.ext (.l 1) 1)⟩,
⟨.v 35, none, .op (.alc [(.int .i64 0), .nils])⟩,
⟨.n, none, .op (.st 2 (.v 35) (.l 1))⟩,
⟨.v 36, none, .op (.mov (.l 0))⟩]) (
.seq (
.reg [⟨.l, none, .op (.ld true 2 (.v 30))⟩,
⟨.l, none, .call 35 [(.l 0), (.c (.int .i64 (-3)))]⟩,
⟨.l, none, .op (.mov (.l 0))⟩,
⟨.l, none, .op (.ext (.l 0) 0)⟩,
⟨.l, none, .op (.ext (.l 1) 1)⟩,
⟨.v 37, none, .op (.alc [(.int .i64 0), .nils])⟩,
⟨.n, none, .op (.st 2 (.v 37) (.l 1))⟩,
⟨.v 38, none, .op (.mov (.l 0))⟩]) (
.seq (
.reg [⟨.l, none, .call 17 [(.c (.int .i64 10000001))]⟩,
⟨.l, none, .op (.mov (.l 0))⟩,
⟨.l, none, .op (.ext (.l 0) 0)⟩,
⟨.l, none, .op (.ext (.l 1) 1)⟩,
⟨.v 39, none, .op (.alc [(.int .i64 0), .nils])⟩,
⟨.n, none, .op (.st 2 (.v 39) (.l 1))⟩,
⟨.v 40, none, .op (.mov (.l 0))⟩]) (
.seq (
.reg [⟨.l, none, .call 17 [(.c (.int .i64 (-10000000)))]⟩,
⟨.l, none, .op (.mov (.l 0))⟩,
⟨.l, none, .op (.ext (.l 0) 0)⟩,
⟨.l, none, .op (.ext (.l 1) 1)⟩,
⟨.v 41, none, .op (.alc [(.int .i64 0), .nils])⟩,
⟨.n, none, .op (.st 2 (.v 41) (.l 1))⟩,
⟨.v 42, none, .op (.mov (.l 0))⟩]) (
.seq (
.reg [⟨.l, none, .op (.ld true 2 (.v 30))⟩,
⟨.l, none, .call 35 [(.l 0), (.c (.int .i64 0))]⟩,
⟨.l, none, .op (.mov (.l 0))⟩,
⟨.l, none, .op (.ext (.l 0) 0)⟩,
⟨.l, none, .op (.ext (.l 1) 1)⟩,
⟨.v 43, none, .op (.alc [(.int .i64 0), .nils])⟩,
⟨.n, none, .op (.st 2 (.v 43) (.l 1))⟩,
⟨.v 44, none, .op (.mov (.l 0))⟩]) (
.seq (
.reg [⟨.l, none, .op (.ld true 2 (.v 30))⟩,
⟨.l, none, .call 34 [(.l 0), (.c (.int .i64 1666666))]⟩,
⟨.l, none, .op (.mov (.l 0))⟩,
⟨.l, none, .op (.ext (.l 0) 0)⟩,
⟨.l, none, .op (.ext (.l 1) 1)⟩,
⟨.v 45, none, .op (.alc [(.int .i64 0), .nils])⟩,
⟨.n, none, .op (.st 2 (.v 45) (.l 1))⟩,
⟨.v 46, none, .op (.mov (.l 0))⟩]) (
.seq (
.reg [⟨.l, none, .op (.ld true 2 (.v 30))⟩,
⟨.l, none, .call 34 [(.l 0), (.c (.int .i64 1666667))]⟩,
⟨.l, none, .op (.mov (.l 0))⟩,
⟨.l, none, .op (.ext (.l 0) 0)⟩,
⟨.l, none, .op (.ext (.l 1) 1)⟩,
⟨.v 47, none, .op (.alc [(.int .i64 0), .nils])⟩,
⟨.n, none, .op (.st 2 (.v 47) (.l 1))⟩,
⟨.v 48, none, .op (.mov (.l 0))⟩]) (
.seq (
.reg [⟨.l, none, .op (.mks 1 8 [(.int .i64 0)] (.c (.int .i64 1001)) (.c (.int .i64 1001)))⟩,
⟨.l, none, .call 13 [(.c (.int .i64 2)), (.l 0)]⟩,
⟨.l, none, .op (.mov (.l 0))⟩,
⟨.l, none, .op (.ext (.l 0) 0)⟩,
⟨.l, none, .op (.ext (.l 1) 1)⟩,
⟨.l, none, .op (.alc [(.int .i64 0), .nils])⟩,
⟨.n, none, .op (.st 2 (.l 0) (.l 2))⟩,
⟨.v 49, none, .op (.mov (.l 1))⟩]) (
.seq (
.reg [⟨.l, none, .op (.ld true 2 (.v 31))⟩,
⟨.l, none, .op (.mov (.v 32))⟩,
⟨.l, none, .op (.bls 1 [(.int .i64 0)] 1 [(0, 1, (.c (.int .i64 0)))])⟩,
⟨.l, none, .call 32 [(.l 2), (.l 1), (.c (.int .i64 1)), (.l 0)]⟩,
⟨.l, none, .op (.mov (.l 0))⟩,
⟨.l, some ((.l 0), true), .op (.ld true 2 (.v 33))⟩,
⟨.l, some ((.l 1), true), .op (.mov (.v 34))⟩,
⟨.l, some ((.l 2), true), .op (.bls 1 [(.int .i64 0)] 1 [(0, 1, (.c (.int .i64 5)))])⟩,
⟨.l, some ((.l 3), true), .call 32 [(.l 2), (.l 1), (.c (.int .i64 1)), (.l 0)]⟩,
⟨.l, none, .op (.pick (.l 4) (.l 0) (.c (.bool false)))⟩,
⟨.l, none, .op (.mov (.l 0))⟩,
⟨.l, some ((.l 0), true), .op (.ld true 2 (.v 35))⟩,
⟨.l, some ((.l 1), true), .op (.mov (.v 36))⟩,
⟨.l, some ((.l 2), true), .call 47 [(.l 1), (.l 0), (.c (.int .i64 18))]⟩,
⟨.l, none, .op (.pick (.l 3) (.l 0) (.c (.bool false)))⟩,
⟨.l, none, .op (.mov (.l 0))⟩,
⟨.l, some ((.l 0), true), .op (.ld true 2 (.v 37))⟩,
⟨.l, some ((.l 1), true), .op (.mov (.v 38))⟩,
⟨.l, some ((.l 2), true), .op (.bls 1 [(.int .i64 0)] 1 [(0, 1, (.c (.int .i64 (-2))))])⟩,
⟨.l, some ((.l 3), true), .call 32 [(.l 2), (.l 1), (.c (.int .i64 1)), (.l 0)]⟩,
⟨.l, none, .op (.pick (.l 4) (.l 0) (.c (.bool false)))⟩,
⟨.l, none, .op (.mov (.l 0))⟩,
⟨.l, some ((.l 0), true), .op (.ld true 2 (.v 39))⟩,
⟨.l, some ((.l 1), true), .op (.mov (.v 40))⟩,
⟨.l, some ((.l 2), true), .call 47 [(.l 1), (.l 0), (.c (.int .i64 5))]⟩,
⟨.l, none, .op (.pick (.l 3) (.l 0) (.c (.bool false)))⟩,
⟨.l, none, .op (.mov (.l 0))⟩,
⟨.l, some ((.l 0), true), .op (.ld true 2 (.v 41))⟩,
⟨.l, some ((.l 1), true), .op (.mov (.v 42))⟩,
⟨.l, some ((.l 2), true), .op (.bls 1 [(.int .i64 0)] 1 [(0, 1, (.c (.int .i64 (-10000000))))])⟩,
⟨.l, some ((.l 3), true), .call 32 [(.l 2), (.l 1), (.c (.int .i64 1)), (.l 0)]⟩,
⟨.l, none, .op (.pick (.l 4) (.l 0) (.c (.bool false)))⟩,
⟨.l, none, .op (.mov (.l 0))⟩,
⟨.l, some ((.l 0), true), .op (.ld true 2 (.v 43))⟩,
⟨.l, some ((.l 1), true), .op (.mov (.v 44))⟩,
⟨.l, some ((.l 2), true), .call 47 [(.l 1), (.l 0), (.c (.int .i64 6))]⟩,
⟨.l, none, .op (.pick (.l 3) (.l 0) (.c (.bool false)))⟩,
⟨.l, none, .op (.mov (.l 0))⟩,
⟨.l, some ((.l 0), true), .op (.ld true 2 (.v 45))⟩,
⟨.l, some ((.l 1), true), .op (.mov (.v 46))⟩,
⟨.l, some ((.l 2), true), .op (.bls 1 [(.int .i64 0)] 1 [(0, 1, (.c (.int .i64 9999996)))])⟩,
⟨.l, some ((.l 3), true), .call 32 [(.l 2), (.l 1), (.c (.int .i64 1)), (.l 0)]⟩,
⟨.l, none, .op (.pick (.l 4) (.l 0) (.c (.bool false)))⟩,
⟨.l, none, .op (.mov (.l 0))⟩,
⟨.l, some ((.l 0), true), .op (.ld true 2 (.v 47))⟩,
⟨.l, some ((.l 1), true), .op (.mov (.v 48))⟩,
⟨.l, some ((.l 2), true), .call 47 [(.l 1), (.l 0), (.c (.int .i64 5))]⟩,
⟨.l, none, .op (.pick (.l 3) (.l 0) (.c (.bool false)))⟩,
⟨.l, none, .op (.mov (.l 0))⟩,
⟨.l, some ((.l 0), true), .op (.mov (.v 49))⟩,
⟨.l, some ((.l 1), true), .op (.bin .eql .i64 (.l 0) (.c (.int .i64 4)))⟩,
⟨.l, none, .op (.pick (.l 2) (.l 0) (.c (.bool false)))⟩,
⟨.v 50, none, .op (.mov (.l 0))⟩]) (
.seq (
.reg [⟨.l, none, .op (.ld true 2 (.v 30))⟩,
⟨.l, none, .call 33 [(.l 0)]⟩,
⟨.l, none, .op (.mov (.l 0))⟩,
⟨.l, none, .op (.ext (.l 0) 0)⟩,
⟨.l, none, .op (.ext (.l 1) 1)⟩,
⟨.v 51, none, .op (.mov (.l 1))⟩,
⟨.v 52, none, .op (.mov (.l 0))⟩]) (
.seq (
.reg [⟨.l, none, .call 46 [(.c (.int .i64 3)), (.c (.int .i64 1))]⟩,
⟨.l, none, .call 33 [(.l 0)]⟩,
⟨.l, none, .op (.mov (.l 0))⟩,
⟨.l, none, .op (.ext (.l 0) 0)⟩,
⟨.l, none, .op (.ext (.l 1) 1)⟩,
⟨.l, none, .op (.mov (.l 1))⟩,
⟨.v 53, none, .op (.mov (.l 1))⟩]) (
.seq (
.reg [⟨.l, none, .op (.bls 1 [(.int .i64 0)] 2 [(0, 1, (.c (.int .i64 5))), (1, 1, (.c (.int .i64 0)))])⟩,
⟨.l, none, .op (.bld [(.int .i64 0), .nils] [(0, 1, (.c (.int .i64 3))), (1, 1, (.l 0))])⟩,
⟨.l, none, .call 33 [(.l 0)]⟩,
⟨.l, none, .op (.mov (.l 0))⟩,
⟨.l, none, .op (.ext (.l 0) 0)⟩,
⟨.l, none, .op (.ext (.l 1) 1)⟩,
⟨.l, none, .op (.mov (.l 1))⟩,
⟨.v 54, none, .op (.mov (.l 1))⟩]) (
.seq (
.reg [⟨.l, none, .op (.bls 1 [(.int .i64 0)] 2 [(0, 1, (.c (.int .i64 1))), (1, 1, (.c (.int .i64 1)))])⟩,
⟨.l, none, .op (.bld [(.int .i64 0), .nils] [(0, 1, (.c (.int .i64 6))), (1, 1, (.l 0))])⟩,
⟨.l, none, .call 24 [(.l 0)]⟩,
⟨.l, none, .op (.bin .eql .i64 (.l 0) (.c (.int .i64 3)))⟩,
⟨.l, none, .op (.mov (.l 0))⟩,
⟨.l, some ((.l 0), true), .op (.bls 1 [(.int .i64 0)] 1 [(0, 1, (.c (.int .i64 1)))])⟩,
⟨.l, some ((.l 1), true), .op (.bld [(.int .i64 0), .nils] [(0, 1, (.c (.int .i64 3))), (1, 1, (.l 0))])⟩,
⟨.l, some ((.l 2), true), .call 24 [(.l 0)]⟩,
⟨.l, some ((.l 3), true), .op (.bin .eql .i64 (.l 0) (.c (.int .i64 3)))⟩,
⟨.l, none, .op (.pick (.l 4) (.l 0) (.c (.bool false)))⟩,
⟨.l, none, .op (.mov (.l 0))⟩,
⟨.l, some ((.l 0), true), .op (.bls 1 [(.int .i64 0)] 2 [(0, 1, (.c (.int .i64 5))), (1, 1, (.c (.int .i64 0)))])⟩,
⟨.l, some ((.l 1), true), .op (.bld [(.int .i64 0), .nils] [(0, 1, (.c (.int .i64 3))), (1, 1, (.l 0))])⟩,
⟨.l, some ((.l 2), true), .call 24 [(.l 0)]⟩,
⟨.l, some ((.l 3), true), .op (.bin .eql .i64 (.l 0) (.c (.int .i64 3)))⟩,
⟨.l, none, .op (.pick (.l 4) (.l 0) (.c (.bool false)))⟩,
⟨.l, none, .op (.mov (.l 0))⟩,
⟨.l, some ((.l 0), true), .op (.bld [(.int .i64 0), .nils] [])⟩,
⟨.l, some ((.l 1), true), .call 24 [(.l 0)]⟩,
⟨.l, some ((.l 2), true), .op (.bin .eql .i64 (.l 0) (.c (.int .i64 2)))⟩,
⟨.l, none, .op (.pick (.l 3) (.l 0) (.c (.bool false)))⟩,
⟨.l, none, .op (.mov (.l 0))⟩,
⟨.l, some ((.l 0), true), .op (.bls 1 [(.int .i64 0)] 1 [(0, 1, (.c (.int .i64 10000001)))])⟩,
⟨.l, some ((.l 1), true), .op (.bld [(.int .i64 0), .nils] [(0, 1, (.c (.int .i64 1))), (1, 1, (.l 0))])⟩,
⟨.l, some ((.l 2), true), .call 24 [(.l 0)]⟩,
⟨.l, some ((.l 3), true), .op (.bin .eql .i64 (.l 0) (.c (.int .i64 5)))⟩,
⟨.l, none, .op (.pick (.l 4) (.l 0) (.c (.bool false)))⟩,
⟨.l, none, .op (.mov (.l 0))⟩,
⟨.l, some ((.l 0), true), .op (.mov (.v 51))⟩,
⟨.l, some ((.l 1), true), .op (.bin .eql .i64 (.l 0) (.c (.int .i64 6)))⟩,
⟨.l, none, .op (.pick (.l 2) (.l 0) (.c (.bool false)))⟩,
⟨.l, none, .op (.mov (.l 0))⟩,
⟨.l, some ((.l 0), true), .op (.mov (.v 52))⟩,
⟨.l, none, .op (.pick (.l 1) (.l 0) (.c (.bool false)))⟩,
⟨.l, none, .op (.mov (.l 0))⟩,
⟨.l, some ((.l 0), true), .op (.mov (.v 53))⟩,
⟨.l, some ((.l 1), true), .op (.not (.l 0))⟩,
⟨.l, none, .op (.pick (.l 2) (.l 0) (.c (.bool false)))⟩,
⟨.l, none, .op (.mov (.l 0))⟩,
⟨.l, some ((.l 0), true), .op (.mov (.v 54))⟩,
⟨.l, some ((.l 1), true), .op (.not (.l 0))⟩,
⟨.l, none, .op (.pick (.l 2) (.l 0) (.c (.bool false)))⟩,
⟨.v 55, none, .op (.mov (.l 0))⟩]) (
.seq (
.any 30 29 [⟨0, ⟨.v 57, none, .op (.mov (.v 10))⟩, false, []⟩,
⟨1, ⟨.v 58, none, .op (.mov (.v 57))⟩, false, []⟩,
⟨2, ⟨.v 59, some ((.v 58), true), .op (.mov (.v 29))⟩, false, []⟩,
⟨3, ⟨.v 60, none, .op (.pick (.v 58) (.v 59) (.c (.bool false)))⟩, false, []⟩,
⟨4, ⟨.v 61, none, .op (.mov (.v 60))⟩, false, []⟩,
⟨5, ⟨.v 62, some ((.v 61), true), .op (.mov (.v 50))⟩, false, []⟩,
⟨6, ⟨.v 63, none, .op (.pick (.v 61) (.v 62) (.c (.bool false)))⟩, false, []⟩,
⟨7, ⟨.v 64, none, .op (.mov (.v 63))⟩, false, []⟩,
⟨8, ⟨.v 65, some ((.v 64), true), .op (.mov (.v 55))⟩, false, []⟩,
⟨9, ⟨.v 66, none, .op (.pick (.v 64) (.v 65) (.c (.bool false)))⟩, false, []⟩,
⟨10, ⟨.v 67, none, .op (.mov (.v 66))⟩, false, []⟩,
⟨11, ⟨.v 68, some ((.v 67), true), .op (.ld true 2 (.v 30))⟩, false, []⟩,
⟨12, ⟨.v 69, some ((.v 67), true), .call 46 [(.c (.int .i64 3)), (.c (.int .i64 1))]⟩, false, [11]⟩,
⟨13, ⟨.v 70, some ((.v 67), true), .call 44 [(.v 68), (.v 69)]⟩, false, []⟩,
⟨14, ⟨.v 71, some ((.v 67), true), .op (.bin .eql .i64 (.v 70) (.c (.int .i64 (-1))))⟩, false, []⟩,
⟨15, ⟨.v 72, none, .op (.pick (.v 67) (.v 71) (.c (.bool false)))⟩, false, []⟩,
⟨16, ⟨.v 73, none, .op (.mov (.v 72))⟩, false, []⟩,
⟨17, ⟨.v 74, some ((.v 73), true), .op (.ld true 2 (.v 30))⟩, false, []⟩,
⟨18, ⟨.v 75, some ((.v 73), true), .op (.bls 1 [(.int .i64 0)] 1 [(0, 1, (.c (.int .i64 5)))])⟩, true, []⟩,
⟨19, ⟨.v 76, some ((.v 73), true), .op (.bld [(.int .i64 0), .nils] [(0, 1, (.c (.int .i64 1))), (1, 1, (.v 75))])⟩, false, []⟩,
⟨20, ⟨.v 77, some ((.v 73), true), .call 44 [(.v 74), (.v 76)]⟩, false, []⟩,
⟨21, ⟨.v 78, some ((.v 73), true), .op (.bin .eql .i64 (.v 77) (.c (.int .i64 1)))⟩, false, []⟩,
⟨22, ⟨.v 79, none, .op (.pick (.v 73) (.v 78) (.c (.bool false)))⟩, false, []⟩,
⟨23, ⟨.v 80, none, .op (.mov (.v 79))⟩, false, []⟩,
⟨24, ⟨.v 81, some ((.v 80), true), .op (.ld true 2 (.v 30))⟩, false, []⟩,
⟨25, ⟨.v 82, some ((.v 80), true), .op (.ld true 2 (.v 30))⟩, false, []⟩,
⟨26, ⟨.v 83, some ((.v 80), true), .call 44 [(.v 81), (.v 82)]⟩, false, []⟩,
⟨27, ⟨.v 84, some ((.v 80), true), .op (.bin .eql .i64 (.v 83) (.c (.int .i64 0)))⟩, false, []⟩,
⟨28, ⟨.v 85, none, .op (.pick (.v 80) (.v 84) (.c (.bool false)))⟩, false, []⟩,
⟨29, ⟨.v 0, none, .op (.mov (.v 85))⟩, false, []⟩]) (
.ret)))))))))))))))))))))))))))))))))))⟩
/- 10 cayley/cayleylaw06.lives -/
abbrev n_law06_lives : Nat := 10
def c_law06_lives : Ay.Fn := ⟨0, [none, none, none, none, none, none, none], [.v 0],
.seq (
.reg [⟨.v 0, none, .op (.mov (.c (.bool false)))⟩]) (
.seq (
.reg [⟨.l, none, .call 15 [(.c (.int .i64 6)), (.c (.int .i64 1))]⟩,
⟨.l, none, .op (.mov (.l 0))⟩,
⟨.l, none, .op (.ext (.l 0) 0)⟩,
⟨.l, none, .op (.ext (.l 1) 1)⟩,
⟨.v 1, none, .op (.alc [(.int .i64 0), .nils])⟩,
⟨.n, none, .op (.st 2 (.v 1) (.l 1))⟩,
⟨.v 2, none, .op (.mov (.l 0))⟩]) (
.seq (
.reg [⟨.l, none, .call 46 [(.c (.int .i64 8)), (.c (.int .i64 1))]⟩,
⟨.l, none, .call 46 [(.c (.int .i64 8)), (.c (.int .i64 7))]⟩,
⟨.l, none, .call 29 [(.l 1), (.l 0)]⟩,
⟨.l, none, .op (.mov (.l 0))⟩,
⟨.l, none, .op (.ext (.l 0) 0)⟩,
⟨.l, none, .op (.ext (.l 1) 1)⟩,
⟨.v 3, none, .op (.alc [(.int .i64 0), .nils])⟩,
⟨.n, none, .op (.st 2 (.v 3) (.l 1))⟩,
⟨.v 4, none, .op (.mov (.l 0))⟩]) (
.seq (
.reg [⟨.l, none, .op (.ld true 2 (.v 3))⟩,
⟨.l, none, .op (.ld true 2 (.v 3))⟩,
⟨.l, none, .call 30 [(.l 1), (.l 0)]⟩,
⟨.l, none, .op (.mov (.l 0))⟩,
⟨.l, none, .op (.ext (.l 0) 0)⟩,
⟨.l, none, .op (.ext (.l 1) 1)⟩,
⟨.v 5, none, .op (.alc [(.int .i64 0), .nils])⟩,
⟨.n, none, .op (.st 2 (.v 5) (.l 1))⟩,
⟨.v 6, none, .op (.mov (.l 0))⟩]) (
.seq (
.reg [⟨.l, none, .op (.ld true 2 (.v 1))⟩,
⟨.l, none, .op (.mov (.v 2))⟩,
⟨.l, none, .op (.bls 1 [(.int .i64 0)] 2 [(0, 1, (.c (.int .i64 1))), (1, 1, (.c (.int .i64 1)))])⟩,
⟨.l, none, .call 32 [(.l 2), (.l 1), (.c (.int .i64 3)), (.l 0)]⟩,
⟨.l, none, .op (.mov (.l 0))⟩,
⟨.l, some ((.l 0), true), .op (.ld true 2 (.v 3))⟩,
⟨.l, some ((.l 1), true), .op (.mov (.v 4))⟩,
⟨.l, some ((.l 2), true), .op (.bls 1 [(.int .i64 0)] 4 [(0, 1, (.c (.int .i64 0))), (1, 1, (.c (.int .i64 1))), (2, 1, (.c (.int .i64 0))), (3, 1, (.c (.int .i64 (-1))))])⟩,
⟨.l, some ((.l 3), true), .call 32 [(.l 2), (.l 1), (.c (.int .i64 8)), (.l 0)]⟩,
⟨.l, none, .op (.pick (.l 4) (.l 0) (.c (.bool false)))⟩,
⟨.l, none, .op (.mov (.l 0))⟩,
⟨.l, some ((.l 0), true), .op (.ld true 2 (.v 5))⟩,
⟨.l, some ((.l 1), true), .op (.mov (.v 6))⟩,
⟨.l, some ((.l 2), true), .op (.bls 1 [(.int .i64 0)] 1 [(0, 1, (.c (.int .i64 2)))])⟩,
⟨.l, some ((.l 3), true), .call 32 [(.l 2), (.l 1), (.c (.int .i64 1)), (.l 0)]⟩,
⟨.l, none, .op (.pick (.l 4) (.l 0) (.c (.bool false)))⟩,
⟨.v 0, none, .op (.mov (.l 0))⟩]) (
.ret)))))⟩
/- 11 cayley/cyclo.Phi -/
abbrev n_cyclo_Phi : Nat := 11
def c_cyclo_Phi : Ay.Fn := ⟨1, [some 0, none, none, none], [.v 1, .v 2],
.seq (
.reg [⟨.v 1, none, .op (.mov (.c .nils))⟩,
⟨.v 2, none, .op (.mov (.c (.int .i64 0)))⟩]) (
.seq (
.seq (
.reg [⟨.l, none, .op (.mov (.v 0))⟩,
⟨.l, none, .op (.bin .lss .i64 (.l 0) (.c (.int .i64 1)))⟩,
⟨.l, none, .op (.mov (.l 0))⟩,
⟨.l, some ((.l 0), false), .op (.mov (.v 0))⟩,
⟨.l, some ((.l 1), false), .op (.bin .gtr .i64 (.l 0) (.c (.int .i64 120)))⟩,
⟨.v 3, none, .op (.pick (.l 2) (.c (.bool true)) (.l 0))⟩]) (
.ite (.v 3) (
.seq (
.reg [⟨.v 1, none, .op (.mov (.c .nils))⟩,
⟨.v 2, none, .op (.mov (.c (.int .i64 2)))⟩]) (
.ret)) (
.skip))) (
.seq (
.reg [⟨.l, none, .call 48 []⟩,
⟨.l, none, .op (.mov (.v 0))⟩,
⟨.l, none, .call 49 [(.l 1), (.l 0)]⟩,
⟨.v 1, none, .op (.mov (.l 0))⟩,
⟨.v 2, none, .op (.mov (.c (.int .i64 0)))⟩]) (
.ret)))⟩
/- 12 cayley/cayleyref06.Phi -/
abbrev n_ref06_Phi : Nat := 12
def c_ref06_Phi : Ay.Fn := ⟨1, [some 0, none, none, none], [.v 1, .v 2],
.seq (
.reg [⟨.v 1, none, .op (.mov (.c .nils))⟩,
⟨.v 2, none, .op (.mov (.c (.int .i64 0)))⟩]) (
.seq (
.seq (
.reg [⟨.l, none, .op (.mov (.v 0))⟩,
⟨.l, none, .op (.bin .lss .i64 (.l 0) (.c (.int .i64 1)))⟩,
⟨.l, none, .op (.mov (.l 0))⟩,
⟨.l, some ((.l 0), false), .op (.mov (.v 0))⟩,
⟨.l, some ((.l 1), false), .op (.bin .gtr .i64 (.l 0) (.c (.int .i64 120)))⟩,
⟨.v 3, none, .op (.pick (.l 2) (.c (.bool true)) (.l 0))⟩]) (
.ite (.v 3) (
.seq (
.reg [⟨.v 1, none, .op (.mov (.c .nils))⟩,
⟨.v 2, none, .op (.mov (.c (.int .i64 2)))⟩]) (
.ret)) (
.skip))) (
.seq (
.reg [⟨.l, none, .op (.mov (.v 0))⟩,
⟨.l, none, .call 50 [(.l 0)]⟩,
⟨.v 1, none, .op (.mov (.l 0))⟩,
⟨.v 2, none, .op (.mov (.c (.int .i64 0)))⟩]) (
.ret)))⟩
/- 13 cayley/cyclo.Make -/
abbrev n_cyclo_Make : Nat := 13
def c_cyclo_Make : Ay.Fn := ⟨2, [some 0, some 1, none, none, none, none, none, none, none, none, none, none, none, none], [.cell 2 true 2, .v 3],
.seq (
.reg [⟨.v 2, none, .op (.alc [(.int .i64 0), .nils])⟩,
⟨.v 3, none, .op (.mov (.c (.int .i64 0)))⟩]) (
.seq (
.block 0 (
.seq (
.reg [⟨.l, none, .op (.mov (.v 0))⟩,
⟨.l, none, .op (.bin .lss .i64 (.l 0) (.c (.int .i64 1)))⟩,
⟨.l, none, .op (.mov (.l 0))⟩,
⟨.l, some ((.l 0), false), .op (.mov (.v 0))⟩,
⟨.l, some ((.l 1), false), .op (.bin .gtr .i64 (.l 0) (.c (.int .i64 120)))⟩,
⟨.l, none, .op (.pick (.l 2) (.c (.bool true)) (.l 0))⟩,
⟨.v 7, none, .op (.mov (.l 0))⟩]) (
.ite (.v 7) (
.seq (
.reg [⟨.l, none, .op (.bld [(.int .i64 0), .nils] [])⟩,
⟨.n, none, .op (.st 2 (.v 2) (.l 0))⟩,
⟨.v 3, none, .op (.mov (.c (.int .i64 2)))⟩]) (
.ret)) (
.seq (
.reg [⟨.l, none, .op (.mov (.v 1))⟩,
⟨.l, none, .op (.lens (.l 0))⟩,
⟨.l, none, .op (.bin .gtr .i64 (.l 0) (.c (.int .i64 1000)))⟩,
⟨.v 8, none, .op (.mov (.l 0))⟩]) (
.ite (.v 8) (
.seq (
.reg [⟨.l, none, .op (.bld [(.int .i64 0), .nils] [])⟩,
⟨.n, none, .op (.st 2 (.v 2) (.l 0))⟩,
⟨.v 3, none, .op (.mov (.c (.int .i64 4)))⟩]) (
.ret)) (
.seq (
.reg [⟨.l, none, .op (.mov (.v 1))⟩,
⟨.l, none, .call 51 [(.l 0), (.c (.fn 52 [] []))]⟩,
⟨.v 9, none, .op (.mov (.l 0))⟩]) (
.ite (.v 9) (
.seq (
.reg [⟨.l, none, .op (.bld [(.int .i64 0), .nils] [])⟩,
⟨.n, none, .op (.st 2 (.v 2) (.l 0))⟩,
⟨.v 3, none, .op (.mov (.c (.int .i64 5)))⟩]) (
.ret)) (
.skip)))))))) (
.seq (
.reg [⟨.l, none, .op (.mov (.v 0))⟩,
⟨.l, none, .op (.mks 1 8 [(.int .i64 0)] (.l 0) (.l 0))⟩,
⟨.v 4, none, .op (.mov (.l 0))⟩]) (
.seq (
.seq (
.reg [⟨.v 10, none, .op (.mov (.v 1))⟩,
⟨.v 11, none, .op (.lens (.v 10))⟩,
⟨.v 12, none, .op (.mov (.c (.int .i64 0)))⟩]) (
.block 1 (
.loop (
.seq (
.reg [⟨.v 13, none, .op (.bin .lss .i64 (.v 12) (.v 11))⟩]) (
.seq (
.ite (.v 13) (
.skip) (
.exit 1)) (
.seq (
.block 2 (
.seq (
.reg [⟨.l, none, .op (.mov (.v 12))⟩,
⟨.l, none, .op (.ixa 1 (.v 10) (.v 12))⟩,
⟨.l, none, .op (.ld false 1 (.l 0))⟩,
⟨.v 5, none, .op (.mov (.l 2))⟩,
⟨.v 6, none, .op (.mov (.l 0))⟩]) (
.reg [⟨.l, none, .op (.mov (.v 4))⟩,
⟨.l, none, .op (.mov (.v 5))⟩,
⟨.l, none, .op (.mov (.v 0))⟩,
⟨.l, none, .op (.bin .rem .i64 (.l 1) (.l 0))⟩,
⟨.l, none, .op (.ixa 1 (.l 3) (.l 0))⟩,
⟨.l, none, .op (.ld false 1 (.l 0))⟩,
⟨.l, none, .op (.mov (.v 6))⟩,
⟨.l, none, .op (.bin .add .i64 (.l 1) (.l 0))⟩,
⟨.l, none, .op (.ixa 1 (.l 7) (.l 4))⟩,
⟨.n, none, .op (.st 1 (.l 0) (.l 1))⟩]))) (
.reg [⟨.l, none, .op (.bin .add .i64 (.v 12) (.c (.int .i64 1)))⟩,
⟨.v 12, none, .op (.mov (.l 0))⟩]))))))) (
.seq (
.reg [⟨.l, none, .op (.mov (.v 0))⟩,
⟨.l, none, .op (.mov (.v 4))⟩,
⟨.l, none, .call 53 [(.l 1), (.l 0)]⟩,
⟨.l, none, .op (.ext (.l 0) 0)⟩,
⟨.l, none, .op (.ext (.l 1) 1)⟩,
⟨.n, none, .op (.st 2 (.v 2) (.l 1))⟩,
⟨.v 3, none, .op (.mov (.l 0))⟩]) (
.ret)))))⟩
/- 14 cayley/cayleyref06.Make -/
abbrev n_ref06_Make : Nat := 14
def c_ref06_Make : Ay.Fn := ⟨2, [some 0, some 1, none, none, none, none, none, none, none, none], [.cell 2 true 2, .v 3],
.seq (
.reg [⟨.v 2, none, .op (.alc [(.int .i64 0), .nils])⟩,
⟨.v 3, none, .op (.mov (.c (.int .i64 0)))⟩]) (
.seq (
.block 0 (
.seq (
.reg [⟨.l, none, .op (.mov (.v 0))⟩,
⟨.l, none, .op (.bin .lss .i64 (.l 0) (.c (.int .i64 1)))⟩,
⟨.l, none, .op (.mov (.l 0))⟩,
⟨.l, some ((.l 0), false), .op (.mov (.v 0))⟩,
⟨.l, some ((.l 1), false), .op (.bin .gtr .i64 (.l 0) (.c (.int .i64 120)))⟩,
⟨.l, none, .op (.pick (.l 2) (.c (.bool true)) (.l 0))⟩,
⟨.v 6, none, .op (.mov (.l 0))⟩]) (
.ite (.v 6) (
.seq (
.reg [⟨.l, none, .op (.bld [(.int .i64 0), .nils] [])⟩,
⟨.n, none, .op (.st 2 (.v 2) (.l 0))⟩,
⟨.v 3, none, .op (.mov (.c (.int .i64 2)))⟩]) (
.ret)) (
.seq (
.reg [⟨.l, none, .op (.mov (.v 1))⟩,
⟨.l, none, .op (.lens (.l 0))⟩,
⟨.l, none, .op (.bin .gtr .i64 (.l 0) (.c (.int .i64 1000)))⟩,
⟨.v 7, none, .op (.mov (.l 0))⟩]) (
.ite (.v 7) (
.seq (
.reg [⟨.l, none, .op (.bld [(.int .i64 0), .nils] [])⟩,
⟨.n, none, .op (.st 2 (.v 2) (.l 0))⟩,
⟨.v 3, none, .op (.mov (.c (.int .i64 4)))⟩]) (
.ret)) (
.seq (
.reg [⟨.l, none, .op (.mov (.v 1))⟩,
⟨.l, none, .call 54 [(.l 0)]⟩,
⟨.v 8, none, .op (.mov (.l 0))⟩]) (
.ite (.v 8) (
.seq (
.reg [⟨.l, none, .op (.bld [(.int .i64 0), .nils] [])⟩,
⟨.n, none, .op (.st 2 (.v 2) (.l 0))⟩,
⟨.v 3, none, .op (.mov (.c (.int .i64 5)))⟩]) (
.ret)) (
.skip)))))))) (
.seq (
.reg [⟨.l, none, .op (.mov (.v 0))⟩,
⟨.l, none, .op (.mks 1 8 [(.int .i64 0)] (.l 0) (.l 0))⟩,
⟨.v 4, none, .op (.mov (.l 0))⟩]) (
.seq (
.seq (
.reg [⟨.v 5, none, .op (.mov (.c (.int .i64 0)))⟩]) (
.block 1 (
.loop (
.seq (
.seq (
.reg [⟨.l, none, .op (.mov (.v 5))⟩,
⟨.l, none, .op (.mov (.v 1))⟩,
⟨.l, none, .op (.lens (.l 0))⟩,
⟨.v 9, none, .op (.bin .lss .i64 (.l 2) (.l 0))⟩]) (
.ite (.v 9) (
.skip) (
.exit 1))) (
.seq (
.block 2 (
.reg [⟨.l, none, .op (.mov (.v 4))⟩,
⟨.l, none, .op (.mov (.v 5))⟩,
⟨.l, none, .op (.mov (.v 1))⟩,
⟨.l, none, .op (.mov (.v 5))⟩,
⟨.l, none, .op (.ixa 1 (.l 1) (.l 0))⟩,
⟨.l, none, .op (.ld false 1 (.l 0))⟩,
⟨.l, none, .call 55 [(.l 5), (.l 4), (.l 0)]⟩])) (
.reg [⟨.l, none, .op (.mov (.v 5))⟩,
⟨.l, none, .op (.bin .add .i64 (.l 0) (.c (.int .i64 1)))⟩,
⟨.v 5, none, .op (.mov (.l 0))⟩])))))) (
.seq (
.reg [⟨.l, none, .op (.mov (.v 0))⟩,
⟨.l, none, .op (.mov (.v 4))⟩,
⟨.l, none, .call 56 [(.l 1), (.l 0)]⟩,
⟨.l, none, .op (.ext (.l 0) 0)⟩,
⟨.l, none, .op (.ext (.l 1) 1)⟩,
⟨.n, none, .op (.st 2 (.v 2) (.l 1))⟩,
⟨.v 3, none, .op (.mov (.l 0))⟩]) (
.ret)))))⟩
/- 15 cayley/cyclo.Root -/
abbrev n_cyclo_Root : Nat := 15
def c_cyclo_Root : Ay.Fn := ⟨2, [some 0, some 1, none, none, none, none], [.cell 2 true 2, .v 3],
.seq (
.reg [⟨.v 2, none, .op (.alc [(.int .i64 0), .nils])⟩,
⟨.v 3, none, .op (.mov (.c (.int .i64 0)))⟩]) (
.seq (
.seq (
.reg [⟨.l, none, .op (.mov (.v 0))⟩,
⟨.l, none, .op (.bin .lss .i64 (.l 0) (.c (.int .i64 1)))⟩,
⟨.l, none, .op (.mov (.l 0))⟩,
⟨.l, some ((.l 0), false), .op (.mov (.v 0))⟩,
⟨.l, some ((.l 1), false), .op (.bin .gtr .i64 (.l 0) (.c (.int .i64 120)))⟩,
⟨.v 5, none, .op (.pick (.l 2) (.c (.bool true)) (.l 0))⟩]) (
.ite (.v 5) (
.seq (
.reg [⟨.l, none, .op (.bld [(.int .i64 0), .nils] [])⟩,
⟨.n, none, .op (.st 2 (.v 2) (.l 0))⟩,
⟨.v 3, none, .op (.mov (.c (.int .i64 2)))⟩]) (
.ret)) (
.skip))) (
.seq (
.reg [⟨.l, none, .op (.mov (.v 0))⟩,
⟨.l, none, .op (.mks 1 8 [(.int .i64 0)] (.l 0) (.l 0))⟩,
⟨.v 4, none, .op (.mov (.l 0))⟩]) (
.seq (
.reg [⟨.l, none, .op (.mov (.v 4))⟩,
⟨.l, none, .op (.mov (.v 1))⟩,
⟨.l, none, .op (.mov (.v 0))⟩,
⟨.l, none, .call 57 [(.l 1), (.l 0)]⟩,
⟨.l, none, .op (.ixa 1 (.l 3) (.l 0))⟩,
⟨.n, none, .op (.st 1 (.l 0) (.c (.int .i64 1)))⟩]) (
.seq (
.reg [⟨.l, none, .op (.mov (.v 0))⟩,
⟨.l, none, .op (.mov (.v 4))⟩,
⟨.l, none, .call 53 [(.l 1), (.l 0)]⟩,
⟨.l, none, .op (.ext (.l 0) 0)⟩,
⟨.l, none, .op (.ext (.l 1) 1)⟩,
⟨.n, none, .op (.st 2 (.v 2) (.l 1))⟩,
⟨.v 3, none, .op (.mov (.l 0))⟩]) (
.ret)))))⟩
/- 16 cayley/cayleyref06.Root -/
abbrev n_ref06_Root : Nat := 16
def c_ref06_Root : Ay.Fn := ⟨2, [some 0, some 1, none, none, none, none], [.cell 2 true 2, .v 3],
.seq (
.reg [⟨.v 2, none, .op (.alc [(.int .i64 0), .nils])⟩,
⟨.v 3, none, .op (.mov (.c (.int .i64 0)))⟩]) (
.seq (
.seq (
.reg [⟨.l, none, .op (.mov (.v 0))⟩,
⟨.l, none, .op (.bin .lss .i64 (.l 0) (.c (.int .i64 1)))⟩,
⟨.l, none, .op (.mov (.l 0))⟩,
⟨.l, some ((.l 0), false), .op (.mov (.v 0))⟩,
⟨.l, some ((.l 1), false), .op (.bin .gtr .i64 (.l 0) (.c (.int .i64 120)))⟩,
⟨.v 5, none, .op (.pick (.l 2) (.c (.bool true)) (.l 0))⟩]) (
.ite (.v 5) (
.seq (
.reg [⟨.l, none, .op (.bld [(.int .i64 0), .nils] [])⟩,
⟨.n, none, .op (.st 2 (.v 2) (.l 0))⟩,
⟨.v 3, none, .op (.mov (.c (.int .i64 2)))⟩]) (
.ret)) (
.skip))) (
.seq (
.reg [⟨.l, none, .op (.mov (.v 0))⟩,
⟨.l, none, .op (.mks 1 8 [(.int .i64 0)] (.l 0) (.l 0))⟩,
⟨.v 4, none, .op (.mov (.l 0))⟩]) (
.seq (
.reg [⟨.l, none, .op (.mov (.v 4))⟩,
⟨.l, none, .op (.mov (.v 1))⟩,
⟨.l, none, .call 55 [(.l 1), (.l 0), (.c (.int .i64 1))]⟩]) (
.seq (
.reg [⟨.l, none, .op (.mov (.v 0))⟩,
⟨.l, none, .op (.mov (.v 4))⟩,
⟨.l, none, .call 56 [(.l 1), (.l 0)]⟩,
⟨.l, none, .op (.ext (.l 0) 0)⟩,
⟨.l, none, .op (.ext (.l 1) 1)⟩,
⟨.n, none, .op (.st 2 (.v 2) (.l 1))⟩,
⟨.v 3, none, .op (.mov (.l 0))⟩]) (
.ret)))))⟩
/- 17 cayley/cyclo.Int -/
abbrev n_cyclo_Int : Nat := 17
def c_cyclo_Int : Ay.Fn := ⟨1, [some 0, none, none], [.cell 1 true 2, .v 2],
.seq (
.reg [⟨.v 1, none, .op (.alc [(.int .i64 0), .nils])⟩,
⟨.v 2, none, .op (.mov (.c (.int .i64 0)))⟩]) (
.seq (
.reg [⟨.l, none, .op (.mov (.v 0))⟩,
⟨.l, none, .op (.bls 1 [(.int .i64 0)] 1 [(0, 1, (.l 0))])⟩,
⟨.l, none, .call 13 [(.c (.int .i64 1)), (.l 0)]⟩,
⟨.l, none, .op (.ext (.l 0) 0)⟩,
⟨.l, none, .op (.ext (.l 1) 1)⟩,
⟨.n, none, .op (.st 2 (.v 1) (.l 1))⟩,
⟨.v 2, none, .op (.mov (.l 0))⟩]) (
.ret))⟩
/- 18 cayley/cayleyref06.Int -/
abbrev n_ref06_Int : Nat := 18
def c_ref06_Int : Ay.Fn := ⟨1, [some 0, none, none], [.cell 1 true 2, .v 2],
.seq (
.reg [⟨.v 1, none, .op (.alc [(.int .i64 0), .nils])⟩,
⟨.v 2, none, .op (.mov (.c (.int .i64 0)))⟩]) (
.seq (
.reg [⟨.l, none, .op (.mov (.v 0))⟩,
⟨.l, none, .op (.bls 1 [(.int .i64 0)] 1 [(0, 1, (.l 0))])⟩,
⟨.l, none, .call 14 [(.c (.int .i64 1)), (.l 0)]⟩,
⟨.l, none, .op (.ext (.l 0) 0)⟩,
⟨.l, none, .op (.ext (.l 1) 1)⟩,
⟨.n, none, .op (.st 2 (.v 1) (.l 1))⟩,
⟨.v 2, none, .op (.mov (.l 0))⟩]) (
.ret))⟩
/- 19 cayley/cayleykit.Same[int] -/
abbrev n_kit_Same_int : Nat := 19
def c_kit_Same_int : Ay.Fn := ⟨2, [some 0, some 1, none, none, none, none, none], [.v 2],
.seq (
.reg [⟨.v 2, none, .op (.mov (.c (.bool false)))⟩]) (
.seq (
.seq (
.reg [⟨.l, none, .op (.mov (.v 0))⟩,
⟨.l, none, .op (.lens (.l 0))⟩,
⟨.l, none, .op (.mov (.v 1))⟩,
⟨.l, none, .op (.lens (.l 0))⟩,
⟨.v 4, none, .op (.bin .neq .i64 (.l 2) (.l 0))⟩]) (
.ite (.v 4) (
.seq (
.reg [⟨.v 2, none, .op (.mov (.c (.bool false)))⟩]) (
.ret)) (
.skip))) (
.seq (
.seq (
.reg [⟨.v 3, none, .op (.mov (.c (.int .i64 0)))⟩]) (
.block 0 (
.loop (
.seq (
.seq (
.reg [⟨.l, none, .op (.mov (.v 3))⟩,
⟨.l, none, .op (.mov (.v 0))⟩,
⟨.l, none, .op (.lens (.l 0))⟩,
⟨.v 5, none, .op (.bin .lss .i64 (.l 2) (.l 0))⟩]) (
.ite (.v 5) (
.skip) (
.exit 0))) (
.seq (
.block 1 (
.seq (
.any 9 8 [⟨0, ⟨.v 7, none, .op (.mov (.v 0))⟩, false, []⟩,
⟨1, ⟨.v 8, none, .op (.mov (.v 3))⟩, false, []⟩,
⟨2, ⟨.v 9, none, .op (.ixa 1 (.v 7) (.v 8))⟩, false, []⟩,
⟨3, ⟨.v 10, none, .op (.ld false 1 (.v 9))⟩, false, []⟩,
⟨4, ⟨.v 11, none, .op (.mov (.v 1))⟩, false, []⟩,
⟨5, ⟨.v 12, none, .op (.mov (.v 3))⟩, false, []⟩,
⟨6, ⟨.v 13, none, .op (.ixa 1 (.v 11) (.v 12))⟩, false, []⟩,
⟨7, ⟨.v 14, none, .op (.ld false 1 (.v 13))⟩, false, []⟩,
⟨8, ⟨.v 6, none, .op (.bin .neq .i64 (.v 10) (.v 14))⟩, false, []⟩]) (
.ite (.v 6) (
.seq (
.reg [⟨.v 2, none, .op (.mov (.c (.bool false)))⟩]) (
.ret)) (
.skip)))) (
.reg [⟨.l, none, .op (.mov (.v 3))⟩,
⟨.l, none, .op (.bin .add .i64 (.l 0) (.c (.int .i64 1)))⟩,
⟨.v 3, none, .op (.mov (.l 0))⟩])))))) (
.seq (
.reg [⟨.v 2, none, .op (.mov (.c (.bool true)))⟩]) (
.ret))))⟩
/- 20 cayley/cayleylaw06.same -/
abbrev n_law06_same : Nat := 20
def c_law06_same : Ay.Fn := ⟨2, [some 0, some 1, none, none, none], [.v 4],
.seq (
.reg [⟨.v 2, none, .op (.box (.v 0))⟩,
⟨.v 3, none, .op (.box (.v 1))⟩,
⟨.v 4, none, .op (.mov (.c (.bool false)))⟩]) (
.seq (
.reg [⟨.l, none, .op (.fla 0 (.v 2))⟩,
⟨.l, none, .op (.ld false 1 (.l 0))⟩,
⟨.l, none, .op (.fla 0 (.v 3))⟩,
⟨.l, none, .op (.ld false 1 (.l 0))⟩,
⟨.l, none, .op (.bin .eql .i64 (.l 2) (.l 0))⟩,
⟨.l, none, .op (.mov (.l 0))⟩,
⟨.l, some ((.l 0), true), .op (.fla 1 (.v 2))⟩,
⟨.l, some ((.l 1), true), .op (.ld false 1 (.l 0))⟩,
⟨.l, some ((.l 2), true), .op (.fla 1 (.v 3))⟩,
⟨.l, some ((.l 3), true), .op (.ld false 1 (.l 0))⟩,
⟨.l, some ((.l 4), true), .call 19 [(.l 2), (.l 0)]⟩,
⟨.l, none, .op (.pick (.l 5) (.l 0) (.c (.bool false)))⟩,
⟨.v 4, none, .op (.mov (.l 0))⟩]) (
.ret))⟩
/- 21 cayley/cayleylaw06.order -/
abbrev n_law06_order : Nat := 21
def c_law06_order : Ay.Fn := ⟨1, [some 0, none], [.v 1],
.seq (
.reg [⟨.v 1, none, .op (.mov (.c (.int .i64 0)))⟩]) (
.seq (
.reg [⟨.l, none, .op (.bls 1 [(.int .i64 0)] 26 [(0, 1, (.c (.int .i64 1))), (1, 1, (.c (.int .i64 2))), (2, 1, (.c (.int .i64 3))), (3, 1, (.c (.int .i64 4))), (4, 1, (.c (.int .i64 5))), (5, 1, (.c (.int .i64 6))), (6, 1, (.c (.int .i64 7))), (7, 1, (.c (.int .i64 8))), (8, 1, (.c (.int .i64 9))), (9, 1, (.c (.int .i64 10))), (10, 1, (.c (.int .i64 12))), (11, 1, (.c (.int .i64 15))), (12, 1, (.c (.int .i64 16))), (13, 1, (.c (.int .i64 18))), (14, 1, (.c (.int .i64 20))), (15, 1, (.c (.int .i64 21))), (16, 1, (.c (.int .i64 24))), (17, 1, (.c (.int .i64 30))), (18, 1, (.c (.int .i64 35))), (19, 1, (.c (.int .i64 36))), (20, 1, (.c (.int .i64 40))), (21, 1, (.c (.int .i64 45))), (22, 1, (.c (.int .i64 60))), (23, 1, (.c (.int .i64 84))), (24, 1, (.c (.int .i64 105))), (25, 1, (.c (.int .i64 120)))])⟩,
⟨.l, none, .op (.mov (.v 0))⟩,
⟨.l, none, .call 22 [(.l 0), (.c (.int .i64 26))]⟩,
⟨.l, none, .op (.ixa 1 (.l 2) (.l 0))⟩,
⟨.l, none, .op (.ld false 1 (.l 0))⟩,
⟨.v 1, none, .op (.mov (.l 0))⟩]) (
.ret))⟩
/- 22 cayley/cayleykit.Pick -/
abbrev n_kit_Pick : Nat := 22
def c_kit_Pick : Ay.Fn := ⟨2, [some 0, some 1, none, none], [.v 2],
.seq (
.reg [⟨.v 2, none, .op (.mov (.c (.int .i64 0)))⟩]) (
.seq (
.reg [⟨.l, none, .op (.mov (.v 0))⟩,
⟨.l, none, .op (.mov (.v 1))⟩,
⟨.l, none, .op (.bin .rem .i64 (.l 1) (.l 0))⟩,
⟨.v 0, none, .op (.mov (.l 0))⟩]) (
.seq (
.seq (
.reg [⟨.l, none, .op (.mov (.v 0))⟩,
⟨.v 3, none, .op (.bin .lss .i64 (.l 0) (.c (.int .i64 0)))⟩]) (
.ite (.v 3) (
.reg [⟨.l, none, .op (.mov (.v 0))⟩,
⟨.l, none, .op (.mov (.v 1))⟩,
⟨.l, none, .op (.bin .add .i64 (.l 1) (.l 0))⟩,
⟨.v 0, none, .op (.mov (.l 0))⟩]) (
.skip))) (
.seq (
.reg [⟨.l, none, .op (.mov (.v 0))⟩,
⟨.v 2, none, .op (.mov (.l 0))⟩]) (
.ret))))⟩
/- 23 (ptr cayley/cayleykit.Taker).Take -/
abbrev n_kit_Taker_Take : Nat := 23
def c_kit_Taker_Take : Ay.Fn := ⟨2, [some 0, some 1, none, none], [.v 2],
.seq (
.reg [⟨.v 2, none, .op (.mov (.c (.int .i64 0)))⟩]) (
.seq (
.seq (
.any 14 13 [⟨0, ⟨.v 4, none, .op (.mov (.v 0))⟩, false, []⟩,
⟨1, ⟨.v 5, none, .op (.nck (.v 4))⟩, false, []⟩,
⟨2, ⟨.v 6, none, .op (.fla 1 (.v 5))⟩, false, []⟩,
⟨3, ⟨.v 7, none, .op (.ld false 1 (.v 6))⟩, false, []⟩,
⟨4, ⟨.v 8, none, .op (.mov (.v 0))⟩, false, []⟩,
⟨5, ⟨.v 9, none, .op (.nck (.v 8))⟩, false, []⟩,
⟨6, ⟨.v 10, none, .op (.fla 0 (.v 9))⟩, false, []⟩,
⟨7, ⟨.v 11, none, .op (.ld false 1 (.v 10))⟩, false, []⟩,
⟨8, ⟨.v 12, none, .op (.lens (.v 11))⟩, false, []⟩,
⟨9, ⟨.v 13, none, .op (.bin .geq .i64 (.v 7) (.v 12))⟩, false, []⟩,
⟨10, ⟨.v 14, none, .op (.mov (.v 13))⟩, false, []⟩,
⟨11, ⟨.v 15, some ((.v 14), false), .op (.mov (.v 1))⟩, false, []⟩,
⟨12, ⟨.v 16, some ((.v 14), false), .op (.bin .lss .i64 (.v 15) (.c (.int .i64 1)))⟩, false, []⟩,
⟨13, ⟨.v 3, none, .op (.pick (.v 14) (.c (.bool true)) (.v 16))⟩, false, []⟩]) (
.ite (.v 3) (
.seq (
.reg [⟨.v 2, none, .op (.mov (.c (.int .i64 0)))⟩]) (
.ret)) (
.skip))) (
.seq (
.reg [⟨.l, none, .op (.mov (.v 0))⟩,
⟨.l, none, .op (.nck (.l 0))⟩,
⟨.l, none, .op (.fla 1 (.l 0))⟩,
⟨.l, none, .op (.ld false 1 (.l 0))⟩,
⟨.l, none, .op (.bin .add .i64 (.l 0) (.c (.int .i64 1)))⟩,
⟨.l, none, .op (.nck (.l 4))⟩,
⟨.l, none, .op (.fla 1 (.l 0))⟩,
⟨.n, none, .op (.st 1 (.l 0) (.l 2))⟩]) (
.seq (
.any 14 13 [⟨0, ⟨.v 4, none, .op (.mov (.v 0))⟩, false, []⟩,
⟨1, ⟨.v 5, none, .op (.nck (.v 4))⟩, false, []⟩,
⟨2, ⟨.v 6, none, .op (.fla 0 (.v 5))⟩, false, []⟩,
⟨3, ⟨.v 7, none, .op (.ld false 1 (.v 6))⟩, false, []⟩,
⟨4, ⟨.v 8, none, .op (.mov (.v 0))⟩, false, []⟩,
⟨5, ⟨.v 9, none, .op (.nck (.v 8))⟩, false, []⟩,
⟨6, ⟨.v 10, none, .op (.fla 1 (.v 9))⟩, false, []⟩,
⟨7, ⟨.v 11, none, .op (.ld false 1 (.v 10))⟩, false, []⟩,
⟨8, ⟨.v 12, none, .op (.bin .sub .i64 (.v 11) (.c (.int .i64 1)))⟩, false, []⟩,
⟨9, ⟨.v 13, none, .op (.ixa 1 (.v 7) (.v 12))⟩, false, []⟩,
⟨10, ⟨.v 14, none, .op (.ld false 1 (.v 13))⟩, false, []⟩,
⟨11, ⟨.v 15, none, .op (.mov (.v 1))⟩, false, []⟩,
⟨12, ⟨.v 16, none, .call 22 [(.v 14), (.v 15)]⟩, false, []⟩,
⟨13, ⟨.v 2, none, .op (.mov (.v 16))⟩, false, []⟩]) (
.ret))))⟩
/- 24 cayley/cyclo.Check -/
abbrev n_cyclo_Check : Nat := 24
def c_cyclo_Check : Ay.Fn := ⟨1, [some 0, none, none, none, none, none, none, none], [.v 2],
.seq (
.reg [⟨.v 1, none, .op (.box (.v 0))⟩,
⟨.v 2, none, .op (.mov (.c (.int .i64 0)))⟩]) (
.seq (
.seq (
.reg [⟨.l, none, .op (.fla 0 (.v 1))⟩,
⟨.l, none, .op (.ld false 1 (.l 0))⟩,
⟨.l, none, .op (.bin .lss .i64 (.l 0) (.c (.int .i64 1)))⟩,
⟨.l, none, .op (.mov (.l 0))⟩,
⟨.l, some ((.l 0), false), .op (.fla 0 (.v 1))⟩,
⟨.l, some ((.l 1), false), .op (.ld false 1 (.l 0))⟩,
⟨.l, some ((.l 2), false), .op (.bin .gtr .i64 (.l 0) (.c (.int .i64 120)))⟩,
⟨.v 4, none, .op (.pick (.l 3) (.c (.bool true)) (.l 0))⟩]) (
.ite (.v 4) (
.seq (
.reg [⟨.v 2, none, .op (.mov (.c (.int .i64 2)))⟩]) (
.ret)) (
.skip))) (
.seq (
.reg [⟨.l, none, .call 48 []⟩,
⟨.v 3, none, .op (.mov (.l 0))⟩]) (
.seq (
.block 0 (
.seq (
.any 11 10 [⟨0, ⟨.v 8, none, .op (.fla 1 (.v 1))⟩, false, []⟩,
⟨1, ⟨.v 9, none, .op (.ld false 1 (.v 8))⟩, false, []⟩,
⟨2, ⟨.v 10, none, .op (.lens (.v 9))⟩, false, []⟩,
⟨3, ⟨.v 11, none, .op (.mov (.v 3))⟩, false, []⟩,
⟨4, ⟨.v 12, none, .op (.fla 0 (.v 1))⟩, false, []⟩,
⟨5, ⟨.v 13, none, .op (.ld false 1 (.v 12))⟩, false, []⟩,
⟨6, ⟨.v 14, none, .call 49 [(.v 11), (.v 13)]⟩, false, [1]⟩,
⟨7, ⟨.v 15, none, .op (.lens (.v 14))⟩, false, []⟩,
⟨8, ⟨.v 16, none, .op (.bin .sub .i64 (.v 15) (.c (.int .i64 1)))⟩, false, []⟩,
⟨9, ⟨.v 17, none, .op (.bin .neq .i64 (.v 10) (.v 16))⟩, false, []⟩,
⟨10, ⟨.v 5, none, .op (.mov (.v 17))⟩, false, []⟩]) (
.ite (.v 5) (
.seq (
.reg [⟨.v 2, none, .op (.mov (.c (.int .i64 3)))⟩]) (
.ret)) (
.seq (
.reg [⟨.l, none, .op (.fla 1 (.v 1))⟩,
⟨.l, none, .op (.ld false 1 (.l 0))⟩,
⟨.l, none, .call 51 [(.l 0), (.c (.fn 52 [] []))]⟩,
⟨.v 6, none, .op (.mov (.l 0))⟩]) (
.ite (.v 6) (
.seq (
.reg [⟨.v 2, none, .op (.mov (.c (.int .i64 5)))⟩]) (
.ret)) (
.seq (
.any 11 10 [⟨0, ⟨.v 8, none, .op (.mov (.v 3))⟩, false, []⟩,
⟨1, ⟨.v 9, none, .op (.fla 0 (.v 1))⟩, false, []⟩,
⟨2, ⟨.v 10, none, .op (.ld false 1 (.v 9))⟩, false, []⟩,
⟨3, ⟨.v 11, none, .op (.fla 1 (.v 1))⟩, false, []⟩,
⟨4, ⟨.v 12, none, .op (.ld false 1 (.v 11))⟩, false, []⟩,
⟨7, ⟨.v 15, none, .op (.fla 0 (.v 1))⟩, false, []⟩,
⟨8, ⟨.v 16, none, .op (.ld false 1 (.v 15))⟩, false, []⟩,
⟨5, ⟨.v 13, none, .call 58 [(.v 8), (.v 10), (.v 12)]⟩, false, [8]⟩,
⟨6, ⟨.v 14, none, .op (.part false 0 1 (.v 13))⟩, false, []⟩,
⟨9, ⟨.v 17, none, .op (.bin .lss .i64 (.v 14) (.v 16))⟩, false, []⟩,
⟨10, ⟨.v 7, none, .op (.mov (.v 17))⟩, false, []⟩]) (
.ite (.v 7) (
.seq (
.reg [⟨.v 2, none, .op (.mov (.c (.int .i64 3)))⟩]) (
.ret)) (
.skip)))))))) (
.seq (
.reg [⟨.v 2, none, .op (.mov (.c (.int .i64 0)))⟩]) (
.ret)))))⟩
/- 25 cayley/cayleylaw06.odd -/
abbrev n_law06_odd : Nat := 25
def c_law06_odd : Ay.Fn := ⟨1, [some 0, none, none, none, none], [.v 1],
.seq (
.reg [⟨.v 1, none, .op (.mov (.c (.bool false)))⟩]) (
.seq (
.seq (
.reg [⟨.v 2, none, .op (.mov (.c (.int .i64 2)))⟩]) (
.block 0 (
.loop (
.seq (
.seq (
.reg [⟨.l, none, .op (.mov (.v 2))⟩,
⟨.l, none, .op (.mov (.v 2))⟩,
⟨.l, none, .op (.bin .mul .i64 (.l 1) (.l 0))⟩,
⟨.l, none, .op (.mov (.v 0))⟩,
⟨.v 3, none, .op (.bin .leq .i64 (.l 1) (.l 0))⟩]) (
.ite (.v 3) (
.skip) (
.exit 0))) (
.seq (
.block 1 (
.seq (
.reg [⟨.l, none, .op (.mov (.v 0))⟩,
⟨.l, none, .op (.mov (.v 2))⟩,
⟨.l, none, .op (.bin .rem .i64 (.l 1) (.l 0))⟩,
⟨.v 4, none, .op (.bin .eql .i64 (.l 0) (.c (.int .i64 0)))⟩]) (
.ite (.v 4) (
.seq (
.reg [⟨.v 1, none, .op (.mov (.c (.bool false)))⟩]) (
.ret)) (
.skip)))) (
.reg [⟨.l, none, .op (.mov (.v 2))⟩,
⟨.l, none, .op (.bin .add .i64 (.l 0) (.c (.int .i64 1)))⟩,
⟨.v 2, none, .op (.mov (.l 0))⟩])))))) (
.seq (
.reg [⟨.v 1, none, .op (.mov (.c (.bool true)))⟩]) (
.ret)))⟩
/- 26 cayley/cyclo.Galois -/
abbrev n_cyclo_Galois : Nat := 26
def c_cyclo_Galois : Ay.Fn := ⟨2, [some 0, some 1, none, none, none, none, none, none, none, none, none, none, none, none, none], [.cell 3 true 2, .v 4],
.seq (
.reg [⟨.v 2, none, .op (.box (.v 0))⟩,
⟨.v 3, none, .op (.alc [(.int .i64 0), .nils])⟩,
⟨.v 4, none, .op (.mov (.c (.int .i64 0)))⟩]) (
.seq (
.seq (
.reg [⟨.l, none, .op (.ld true 2 (.v 2))⟩,
⟨.l, none, .call 24 [(.l 0)]⟩,
⟨.v 5, none, .op (.mov (.l 0))⟩]) (
.seq (
.reg [⟨.l, none, .op (.mov (.v 5))⟩,
⟨.v 9, none, .op (.bin .neq .i64 (.l 0) (.c (.int .i64 0)))⟩]) (
.ite (.v 9) (
.seq (
.reg [⟨.l, none, .op (.bld [(.int .i64 0), .nils] [])⟩,
⟨.l, none, .op (.mov (.v 5))⟩,
⟨.n, none, .op (.st 2 (.v 3) (.l 1))⟩,
⟨.v 4, none, .op (.mov (.l 0))⟩]) (
.ret)) (
.skip)))) (
.seq (
.reg [⟨.l, none, .op (.mov (.v 1))⟩,
⟨.l, none, .op (.fla 0 (.v 2))⟩,
⟨.l, none, .op (.ld false 1 (.l 0))⟩,
⟨.l, none, .call 57 [(.l 2), (.l 0)]⟩,
⟨.v 1, none, .op (.mov (.l 0))⟩]) (
.seq (
.seq (
.reg [⟨.l, none, .op (.fla 0 (.v 2))⟩,
⟨.l, none, .op (.ld false 1 (.l 0))⟩,
⟨.l, none, .op (.mov (.v 1))⟩,
⟨.l, none, .call 59 [(.l 1), (.l 0)]⟩,
⟨.v 10, none, .op (.bin .gtr .i64 (.l 0) (.c (.int .i64 1)))⟩]) (
.ite (.v 10) (
.seq (
.reg [⟨.l, none, .op (.bld [(.int .i64 0), .nils] [])⟩,
⟨.n, none, .op (.st 2 (.v 3) (.l 0))⟩,
⟨.v 4, none, .op (.mov (.c (.int .i64 18)))⟩]) (
.ret)) (
.skip))) (
.seq (
.reg [⟨.l, none, .op (.fla 0 (.v 2))⟩,
⟨.l, none, .op (.ld false 1 (.l 0))⟩,
⟨.l, none, .op (.mks 1 8 [(.int .i64 0)] (.l 0) (.l 0))⟩,
⟨.v 6, none, .op (.mov (.l 0))⟩]) (
.seq (
.seq (
.reg [⟨.l, none, .op (.fla 1 (.v 2))⟩,
⟨.v 11, none, .op (.ld false 1 (.l 0))⟩,
⟨.v 12, none, .op (.lens (.v 11))⟩,
⟨.v 13, none, .op (.mov (.c (.int .i64 0)))⟩]) (
.block 0 (
.loop (
.seq (
.reg [⟨.v 14, none, .op (.bin .lss .i64 (.v 13) (.v 12))⟩]) (
.seq (
.ite (.v 14) (
.skip) (
.exit 0)) (
.seq (
.block 1 (
.seq (
.reg [⟨.l, none, .op (.mov (.v 13))⟩,
⟨.l, none, .op (.ixa 1 (.v 11) (.v 13))⟩,
⟨.l, none, .op (.ld false 1 (.l 0))⟩,
⟨.v 7, none, .op (.mov (.l 2))⟩,
⟨.v 8, none, .op (.mov (.l 0))⟩]) (
.reg [⟨.l, none, .op (.mov (.v 6))⟩,
⟨.l, none, .op (.mov (.v 7))⟩,
⟨.l, none, .op (.mov (.v 1))⟩,
⟨.l, none, .op (.bin .mul .i64 (.l 1) (.l 0))⟩,
⟨.l, none, .op (.fla 0 (.v 2))⟩,
⟨.l, none, .op (.ld false 1 (.l 0))⟩,
⟨.l, none, .op (.bin .rem .i64 (.l 2) (.l 0))⟩,
⟨.l, none, .op (.ixa 1 (.l 6) (.l 0))⟩,
⟨.l, none, .op (.ld false 1 (.l 0))⟩,
⟨.l, none, .op (.mov (.v 8))⟩,
⟨.l, none, .op (.bin .add .i64 (.l 1) (.l 0))⟩,
⟨.l, none, .op (.ixa 1 (.l 10) (.l 4))⟩,
⟨.n, none, .op (.st 1 (.l 0) (.l 1))⟩]))) (
.reg [⟨.l, none, .op (.bin .add .i64 (.v 13) (.c (.int .i64 1)))⟩,
⟨.v 13, none, .op (.mov (.l 0))⟩]))))))) (
.seq (
.reg [⟨.l, none, .op (.fla 0 (.v 2))⟩,
⟨.l, none, .op (.ld false 1 (.l 0))⟩,
⟨.l, none, .op (.mov (.v 6))⟩,
⟨.l, none, .call 53 [(.l 1), (.l 0)]⟩,
⟨.l, none, .op (.ext (.l 0) 0)⟩,
⟨.l, none, .op (.ext (.l 1) 1)⟩,
⟨.n, none, .op (.st 2 (.v 3) (.l 1))⟩,
⟨.v 4, none, .op (.mov (.l 0))⟩]) (
.ret)))))))⟩
/- 27 cayley/cayleylaw06.prime -/
abbrev n_law06_prime : Nat := 27
def c_law06_prime : Ay.Fn := ⟨2, [some 0, some 1, none, none, none, none, none], [.v 2],
.seq (
.reg [⟨.v 2, none, .op (.mov (.c (.int .i64 0)))⟩]) (
.seq (
.reg [⟨.l, none, .op (.mov (.v 1))⟩,
⟨.l, none, .call 22 [(.l 0), (.c (.int .i64 1000))]⟩,
⟨.v 1, none, .op (.mov (.l 0))⟩]) (
.block 0 (
.loop (
.block 1 (
.seq (
.reg [⟨.l, none, .op (.mov (.v 0))⟩,
⟨.l, none, .op (.mov (.v 1))⟩,
⟨.v 3, none, .op (.mov (.l 1))⟩,
⟨.v 4, none, .op (.mov (.l 0))⟩]) (
.seq (
.block 2 (
.loop (
.seq (
.seq (
.reg [⟨.l, none, .op (.mov (.v 4))⟩,
⟨.v 5, none, .op (.bin .neq .i64 (.l 0) (.c (.int .i64 0)))⟩]) (
.ite (.v 5) (
.skip) (
.exit 2))) (
.block 3 (
.any 6 4 [⟨0, ⟨.v 7, none, .op (.mov (.v 4))⟩, false, []⟩,
⟨1, ⟨.v 8, none, .op (.mov (.v 3))⟩, false, []⟩,
⟨2, ⟨.v 9, none, .op (.mov (.v 4))⟩, false, []⟩,
⟨3, ⟨.v 10, none, .op (.bin .rem .i64 (.v 8) (.v 9))⟩, false, []⟩,
⟨4, ⟨.v 3, none, .op (.mov (.v 7))⟩, false, []⟩,
⟨5, ⟨.v 4, none, .op (.mov (.v 10))⟩, false, []⟩]))))) (
.seq (
.seq (
.reg [⟨.l, none, .op (.mov (.v 3))⟩,
⟨.v 6, none, .op (.bin .eql .i64 (.l 0) (.c (.int .i64 1)))⟩]) (
.ite (.v 6) (
.seq (
.reg [⟨.l, none, .op (.mov (.v 1))⟩,
⟨.v 2, none, .op (.mov (.l 0))⟩]) (
.ret)) (
.skip))) (
.reg [⟨.l, none, .op (.mov (.v 1))⟩,
⟨.l, none, .op (.bin .add .i64 (.l 0) (.c (.int .i64 1)))⟩,
⟨.v 1, none, .op (.mov (.l 0))⟩]))))))))⟩
/- 28 cayley/cayleylaw06.small -/
abbrev n_law06_small : Nat := 28
def c_law06_small : Ay.Fn := ⟨2, [some 0, some 1, none, none, none, none, none], [.cell 2 true 2, .v 3],
.seq (
.reg [⟨.v 2, none, .op (.alc [(.int .i64 0), .nils])⟩,
⟨.v 3, none, .op (.mov (.c (.int .i64 0)))⟩]) (
.seq (
.reg [⟨.v 4, none, .op (.mov (.c .nils))⟩]) (
.seq (
.seq (
.reg [⟨.v 5, none, .op (.mov (.c (.int .i64 0)))⟩]) (
.block 0 (
.loop (
.seq (
.seq (
.reg [⟨.l, none, .op (.mov (.v 5))⟩,
⟨.l, none, .op (.mov (.v 1))⟩,
⟨.l, none, .op (.bin .lss .i64 (.l 1) (.l 0))⟩,
⟨.l, none, .op (.mov (.l 0))⟩,
⟨.l, some ((.l 0), true), .op (.mov (.v 5))⟩,
⟨.l, some ((.l 1), true), .op (.bin .lss .i64 (.l 0) (.c (.int .i64 8)))⟩,
⟨.v 6, none, .op (.pick (.l 2) (.l 0) (.c (.bool false)))⟩]) (
.ite (.v 6) (
.skip) (
.exit 0))) (
.seq (
.block 1 (
.reg [⟨.l, none, .op (.mov (.v 4))⟩,
⟨.l, none, .op (.mov (.v 0))⟩,
⟨.l, none, .call 23 [(.l 0), (.c (.int .i64 19))]⟩,
⟨.l, none, .op (.bin .sub .i64 (.l 0) (.c (.int .i64 9)))⟩,
⟨.l, none, .op (.bls 1 [(.int .i64 0)] 1 [(0, 1, (.l 0))])⟩,
⟨.l, none, .op (.app 1 8 (.l 4) (.l 0))⟩,
⟨.v 4, none, .op (.mov (.l 0))⟩])) (
.reg [⟨.l, none, .op (.mov (.v 5))⟩,
⟨.l, none, .op (.bin .add .i64 (.l 0) (.c (.int .i64 1)))⟩,
⟨.v 5, none, .op (.mov (.l 0))⟩])))))) (
.seq (
.reg [⟨.l, none, .op (.mov (.v 1))⟩,
⟨.l, none, .op (.mov (.v 4))⟩,
⟨.l, none, .call 13 [(.l 1), (.l 0)]⟩,
⟨.l, none, .op (.ext (.l 0) 0)⟩,
⟨.l, none, .op (.ext (.l 1) 1)⟩,
⟨.n, none, .op (.st 2 (.v 2) (.l 1))⟩,
⟨.v 3, none, .op (.mov (.l 0))⟩]) (
.ret))))⟩
/- 29 cayley/cyclo.Add -/
abbrev n_cyclo_Add : Nat := 29
def c_cyclo_Add : Ay.Fn := ⟨2, [some 0, some 1, none, none, none, none, none, none, none, none, none, none, none, none, none, none, none, none, none, none, none], [.cell 4 true 2, .v 5],
.seq (
.reg [⟨.v 2, none, .op (.box (.v 0))⟩,
⟨.v 3, none, .op (.box (.v 1))⟩,
⟨.v 4, none, .op (.alc [(.int .i64 0), .nils])⟩,
⟨.v 5, none, .op (.mov (.c (.int .i64 0)))⟩]) (
.seq (
.reg [⟨.l, none, .op (.ld true 2 (.v 2))⟩,
⟨.l, none, .op (.ld true 2 (.v 3))⟩,
⟨.l, none, .call 60 [(.l 1), (.l 0)]⟩,
⟨.l, none, .op (.mov (.l 0))⟩,
⟨.l, none, .op (.ext (.l 0) 0)⟩,
⟨.l, none, .op (.ext (.l 1) 1)⟩,
⟨.v 6, none, .op (.mov (.l 1))⟩,
⟨.v 7, none, .op (.mov (.l 0))⟩]) (
.seq (
.seq (
.reg [⟨.l, none, .op (.mov (.v 7))⟩,
⟨.v 12, none, .op (.bin .neq .i64 (.l 0) (.c (.int .i64 0)))⟩]) (
.ite (.v 12) (
.seq (
.reg [⟨.l, none, .op (.bld [(.int .i64 0), .nils] [])⟩,
⟨.l, none, .op (.mov (.v 7))⟩,
⟨.n, none, .op (.st 2 (.v 4) (.l 1))⟩,
⟨.v 5, none, .op (.mov (.l 0))⟩]) (
.ret)) (
.skip))) (
.seq (
.reg [⟨.l, none, .op (.mov (.v 6))⟩,
⟨.l, none, .op (.mks 1 8 [(.int .i64 0)] (.l 0) (.l 0))⟩,
⟨.v 8, none, .op (.mov (.l 0))⟩]) (
.seq (
.seq (
.reg [⟨.l, none, .op (.ld true 2 (.v 2))⟩,
⟨.l, none, .op (.ld true 2 (.v 3))⟩,
⟨.v 13, none, .op (.bls 2 [(.int .i64 0), .nils] 2 [(0, 2, (.l 1)), (2, 2, (.l 0))])⟩,
⟨.v 14, none, .op (.lens (.v 13))⟩,
⟨.v 15, none, .op (.mov (.c (.int .i64 0)))⟩]) (
.block 0 (
.loop (
.seq (
.reg [⟨.v 16, none, .op (.bin .lss .i64 (.v 15) (.v 14))⟩]) (
.seq (
.ite (.v 16) (
.skip) (
.exit 0)) (
.seq (
.block 1 (
.seq (
.reg [⟨.l, none, .op (.ixa 2 (.v 13) (.v 15))⟩,
⟨.l, none, .op (.ld true 2 (.l 0))⟩,
⟨.v 9, none, .op (.alc [(.int .i64 0), .nils])⟩,
⟨.n, none, .op (.st 2 (.v 9) (.l 0))⟩]) (
.seq (
.reg [⟨.l, none, .op (.fla 1 (.v 9))⟩,
⟨.v 17, none, .op (.ld false 1 (.l 0))⟩,
⟨.v 18, none, .op (.lens (.v 17))⟩,
⟨.v 19, none, .op (.mov (.c (.int .i64 0)))⟩]) (
.block 2 (
.loop (
.seq (
.reg [⟨.v 20, none, .op (.bin .lss .i64 (.v 19) (.v 18))⟩]) (
.seq (
.ite (.v 20) (
.skip) (
.exit 2)) (
.seq (
.block 3 (
.seq (
.reg [⟨.l, none, .op (.mov (.v 19))⟩,
⟨.l, none, .op (.ixa 1 (.v 17) (.v 19))⟩,
⟨.l, none, .op (.ld false 1 (.l 0))⟩,
⟨.v 10, none, .op (.mov (.l 2))⟩,
⟨.v 11, none, .op (.mov (.l 0))⟩]) (
.reg [⟨.l, none, .op (.mov (.v 8))⟩,
⟨.l, none, .op (.mov (.v 10))⟩,
⟨.l, none, .op (.mov (.v 6))⟩,
⟨.l, none, .op (.fla 0 (.v 9))⟩,
⟨.l, none, .op (.ld false 1 (.l 0))⟩,
⟨.l, none, .op (.bin .quo .i64 (.l 2) (.l 0))⟩,
⟨.l, none, .op (.bin .mul .i64 (.l 4) (.l 0))⟩,
⟨.l, none, .op (.ixa 1 (.l 6) (.l 0))⟩,
⟨.l, none, .op (.ld false 1 (.l 0))⟩,
⟨.l, none, .op (.mov (.v 11))⟩,
⟨.l, none, .op (.bin .add .i64 (.l 1) (.l 0))⟩,
⟨.l, none, .op (.ixa 1 (.l 10) (.l 4))⟩,
⟨.n, none, .op (.st 1 (.l 0) (.l 1))⟩]))) (
.reg [⟨.l, none, .op (.bin .add .i64 (.v 19) (.c (.int .i64 1)))⟩,
⟨.v 19, none, .op (.mov (.l 0))⟩]))))))))) (
.reg [⟨.l, none, .op (.bin .add .i64 (.v 15) (.c (.int .i64 1)))⟩,
⟨.v 15, none, .op (.mov (.l 0))⟩]))))))) (
.seq (
.reg [⟨.l, none, .op (.mov (.v 6))⟩,
⟨.l, none, .op (.mov (.v 8))⟩,
⟨.l, none, .call 53 [(.l 1), (.l 0)]⟩,
⟨.l, none, .op (.ext (.l 0) 0)⟩,
⟨.l, none, .op (.ext (.l 1) 1)⟩,
⟨.n, none, .op (.st 2 (.v 4) (.l 1))⟩,
⟨.v 5, none, .op (.mov (.l 0))⟩]) (
.ret))))))⟩
/- 30 cayley/cyclo.Mul -/
abbrev n_cyclo_Mul : Nat := 30
def c_cyclo_Mul : Ay.Fn := ⟨2, [some 0, some 1, none, none, none, none, none, none, none, none, none, none, none, none, none, none, none, none, none, none, none, none], [.cell 4 true 2, .v 5],
.seq (
.reg [⟨.v 2, none, .op (.box (.v 0))⟩,
⟨.v 3, none, .op (.box (.v 1))⟩,
⟨.v 4, none, .op (.alc [(.int .i64 0), .nils])⟩,
⟨.v 5, none, .op (.mov (.c (.int .i64 0)))⟩]) (
.seq (
.reg [⟨.l, none, .op (.ld true 2 (.v 2))⟩,
⟨.l, none, .op (.ld true 2 (.v 3))⟩,
⟨.l, none, .call 60 [(.l 1), (.l 0)]⟩,
⟨.l, none, .op (.mov (.l 0))⟩,
⟨.l, none, .op (.ext (.l 0) 0)⟩,
⟨.l, none, .op (.ext (.l 1) 1)⟩,
⟨.v 6, none, .op (.mov (.l 1))⟩,
⟨.v 7, none, .op (.mov (.l 0))⟩]) (
.seq (
.seq (
.reg [⟨.l, none, .op (.mov (.v 7))⟩,
⟨.v 13, none, .op (.bin .neq .i64 (.l 0) (.c (.int .i64 0)))⟩]) (
.ite (.v 13) (
.seq (
.reg [⟨.l, none, .op (.bld [(.int .i64 0), .nils] [])⟩,
⟨.l, none, .op (.mov (.v 7))⟩,
⟨.n, none, .op (.st 2 (.v 4) (.l 1))⟩,
⟨.v 5, none, .op (.mov (.l 0))⟩]) (
.ret)) (
.skip))) (
.seq (
.reg [⟨.l, none, .op (.mov (.v 6))⟩,
⟨.l, none, .op (.mks 1 8 [(.int .i64 0)] (.l 0) (.l 0))⟩,
⟨.v 8, none, .op (.mov (.l 0))⟩]) (
.seq (
.seq (
.reg [⟨.l, none, .op (.fla 1 (.v 2))⟩,
⟨.v 14, none, .op (.ld false 1 (.l 0))⟩,
⟨.v 15, none, .op (.lens (.v 14))⟩,
⟨.v 16, none, .op (.mov (.c (.int .i64 0)))⟩]) (
.block 0 (
.loop (
.seq (
.reg [⟨.v 17, none, .op (.bin .lss .i64 (.v 16) (.v 15))⟩]) (
.seq (
.ite (.v 17) (
.skip) (
.exit 0)) (
.seq (
.block 1 (
.seq (
.reg [⟨.l, none, .op (.mov (.v 16))⟩,
⟨.l, none, .op (.ixa 1 (.v 14) (.v 16))⟩,
⟨.l, none, .op (.ld false 1 (.l 0))⟩,
⟨.v 9, none, .op (.mov (.l 2))⟩,
⟨.v 10, none, .op (.mov (.l 0))⟩]) (
.seq (
.reg [⟨.l, none, .op (.fla 1 (.v 3))⟩,
⟨.v 18, none, .op (.ld false 1 (.l 0))⟩,
⟨.v 19, none, .op (.lens (.v 18))⟩,
⟨.v 20, none, .op (.mov (.c (.int .i64 0)))⟩]) (
.block 2 (
.loop (
.seq (
.reg [⟨.v 21, none, .op (.bin .lss .i64 (.v 20) (.v 19))⟩]) (
.seq (
.ite (.v 21) (
.skip) (
.exit 2)) (
.seq (
.block 3 (
.seq (
.reg [⟨.l, none, .op (.mov (.v 20))⟩,
⟨.l, none, .op (.ixa 1 (.v 18) (.v 20))⟩,
⟨.l, none, .op (.ld false 1 (.l 0))⟩,
⟨.v 11, none, .op (.mov (.l 2))⟩,
⟨.v 12, none, .op (.mov (.l 0))⟩]) (
.any 24 23 [⟨0, ⟨.v 22, none, .op (.mov (.v 8))⟩, false, []⟩,
⟨1, ⟨.v 23, none, .op (.mov (.v 9))⟩, false, []⟩,
⟨2, ⟨.v 24, none, .op (.mov (.v 6))⟩, false, []⟩,
⟨3, ⟨.v 25, none, .op (.fla 0 (.v 2))⟩, false, []⟩,
⟨4, ⟨.v 26, none, .op (.ld false 1 (.v 25))⟩, false, []⟩,
⟨5, ⟨.v 27, none, .op (.bin .quo .i64 (.v 24) (.v 26))⟩, false, []⟩,
⟨6, ⟨.v 28, none, .op (.bin .mul .i64 (.v 23) (.v 27))⟩, false, []⟩,
⟨7, ⟨.v 29, none, .op (.mov (.v 11))⟩, false, []⟩,
⟨8, ⟨.v 30, none, .op (.mov (.v 6))⟩, false, []⟩,
⟨9, ⟨.v 31, none, .op (.fla 0 (.v 3))⟩, false, []⟩,
⟨10, ⟨.v 32, none, .op (.ld false 1 (.v 31))⟩, false, []⟩,
⟨11, ⟨.v 33, none, .op (.bin .quo .i64 (.v 30) (.v 32))⟩, false, []⟩,
⟨12, ⟨.v 34, none, .op (.bin .mul .i64 (.v 29) (.v 33))⟩, false, []⟩,
⟨13, ⟨.v 35, none, .op (.bin .add .i64 (.v 28) (.v 34))⟩, false, []⟩,
⟨14, ⟨.v 36, none, .op (.mov (.v 6))⟩, false, []⟩,
⟨15, ⟨.v 37, none, .op (.bin .rem .i64 (.v 35) (.v 36))⟩, false, []⟩,
⟨16, ⟨.v 38, none, .op (.ixa 1 (.v 22) (.v 37))⟩, false, []⟩,
⟨17, ⟨.v 39, none, .op (.ld false 1 (.v 38))⟩, false, []⟩,
⟨18, ⟨.v 40, none, .op (.mov (.v 10))⟩, false, []⟩,
⟨19, ⟨.v 41, none, .op (.mov (.v 12))⟩, false, []⟩,
⟨20, ⟨.v 42, none, .op (.bin .mul .i64 (.v 40) (.v 41))⟩, false, []⟩,
⟨21, ⟨.v 43, none, .op (.bin .add .i64 (.v 39) (.v 42))⟩, false, []⟩,
⟨22, ⟨.v 44, none, .op (.ixa 1 (.v 22) (.v 37))⟩, false, []⟩,
⟨23, ⟨.n, none, .op (.st 1 (.v 44) (.v 43))⟩, false, []⟩]))) (
.reg [⟨.l, none, .op (.bin .add .i64 (.v 20) (.c (.int .i64 1)))⟩,
⟨.v 20, none, .op (.mov (.l 0))⟩]))))))))) (
.reg [⟨.l, none, .op (.bin .add .i64 (.v 16) (.c (.int .i64 1)))⟩,
⟨.v 16, none, .op (.mov (.l 0))⟩]))))))) (
.seq (
.reg [⟨.l, none, .op (.mov (.v 6))⟩,
⟨.l, none, .op (.mov (.v 8))⟩,
⟨.l, none, .call 53 [(.l 1), (.l 0)]⟩,
⟨.l, none, .op (.ext (.l 0) 0)⟩,
⟨.l, none, .op (.ext (.l 1) 1)⟩,
⟨.n, none, .op (.st 2 (.v 4) (.l 1))⟩,
⟨.v 5, none, .op (.mov (.l 0))⟩]) (
.ret))))))⟩
/- 31 cayley/cyclo.Conj -/
abbrev n_cyclo_Conj : Nat := 31
def c_cyclo_Conj : Ay.Fn := ⟨1, [some 0, none, none, none], [.cell 2 true 2, .v 3],
.seq (
.reg [⟨.v 1, none, .op (.box (.v 0))⟩,
⟨.v 2, none, .op (.alc [(.int .i64 0), .nils])⟩,
⟨.v 3, none, .op (.mov (.c (.int .i64 0)))⟩]) (
.seq (
.reg [⟨.l, none, .op (.ld true 2 (.v 1))⟩,
⟨.l, none, .call 26 [(.l 0), (.c (.int .i64 (-1)))]⟩,
⟨.l, none, .op (.ext (.l 0) 0)⟩,
⟨.l, none, .op (.ext (.l 1) 1)⟩,
⟨.n, none, .op (.st 2 (.v 2) (.l 1))⟩,
⟨.v 3, none, .op (.mov (.l 0))⟩]) (
.ret))⟩
/- 32 cayley/cayleylaw06.is -/
abbrev n_law06_is : Nat := 32
def c_law06_is : Ay.Fn := ⟨4, [some 0, some 1, some 2, some 3, none, none], [.v 5],
.seq (
.reg [⟨.v 4, none, .op (.box (.v 0))⟩,
⟨.v 5, none, .op (.mov (.c (.bool false)))⟩]) (
.seq (
.reg [⟨.l, none, .op (.mov (.v 1))⟩,
⟨.l, none, .op (.bin .eql .i64 (.l 0) (.c (.int .i64 0)))⟩,
⟨.l, none, .op (.mov (.l 0))⟩,
⟨.l, some ((.l 0), true), .op (.ld true 2 (.v 4))⟩,
⟨.l, some ((.l 1), true), .op (.mov (.v 2))⟩,
⟨.l, some ((.l 2), true), .op (.mov (.v 3))⟩,
⟨.l, some ((.l 3), true), .op (.bld [(.int .i64 0), .nils] [(0, 1, (.l 1)), (1, 1, (.l 0))])⟩,
⟨.l, some ((.l 4), true), .call 20 [(.l 3), (.l 0)]⟩,
⟨.l, none, .op (.pick (.l 5) (.l 0) (.c (.bool false)))⟩,
⟨.v 5, none, .op (.mov (.l 0))⟩]) (
.ret))⟩
/- 33 cayley/cyclo.Rational -/
abbrev n_cyclo_Rational : Nat := 33
def c_cyclo_Rational : Ay.Fn := ⟨1, [some 0, none, none, none, none], [.v 2, .v 3],
.seq (
.reg [⟨.v 1, none, .op (.box (.v 0))⟩,
⟨.v 2, none, .op (.mov (.c (.int .i64 0)))⟩,
⟨.v 3, none, .op (.mov (.c (.bool false)))⟩]) (
.seq (
.seq (
.reg [⟨.l, none, .op (.fla 0 (.v 1))⟩,
⟨.l, none, .op (.ld false 1 (.l 0))⟩,
⟨.l, none, .op (.bin .neq .i64 (.l 0) (.c (.int .i64 1)))⟩,
⟨.l, none, .op (.mov (.l 0))⟩,
⟨.l, some ((.l 0), false), .op (.ld true 2 (.v 1))⟩,
⟨.l, some ((.l 1), false), .call 24 [(.l 0)]⟩,
⟨.l, some ((.l 2), false), .op (.bin .neq .i64 (.l 0) (.c (.int .i64 0)))⟩,
⟨.v 4, none, .op (.pick (.l 3) (.c (.bool true)) (.l 0))⟩]) (
.ite (.v 4) (
.seq (
.reg [⟨.v 2, none, .op (.mov (.c (.int .i64 0)))⟩,
⟨.v 3, none, .op (.mov (.c (.bool false)))⟩]) (
.ret)) (
.skip))) (
.seq (
.reg [⟨.l, none, .op (.fla 1 (.v 1))⟩,
⟨.l, none, .op (.ld false 1 (.l 0))⟩,
⟨.l, none, .op (.ixa 1 (.l 0) (.c (.int .i64 0)))⟩,
⟨.l, none, .op (.ld false 1 (.l 0))⟩,
⟨.v 2, none, .op (.mov (.l 0))⟩,
⟨.v 3, none, .op (.mov (.c (.bool true)))⟩]) (
.ret)))⟩
/- 34 cayley/cyclo.Scale -/
abbrev n_cyclo_Scale : Nat := 34
def c_cyclo_Scale : Ay.Fn := ⟨2, [some 0, some 1, none, none, none, none, none, none, none, none, none, none, none], [.cell 3 true 2, .v 4],
.seq (
.reg [⟨.v 2, none, .op (.box (.v 0))⟩,
⟨.v 3, none, .op (.alc [(.int .i64 0), .nils])⟩,
⟨.v 4, none, .op (.mov (.c (.int .i64 0)))⟩]) (
.seq (
.seq (
.reg [⟨.l, none, .op (.ld true 2 (.v 2))⟩,
⟨.l, none, .call 24 [(.l 0)]⟩,
⟨.v 5, none, .op (.mov (.l 0))⟩]) (
.seq (
.reg [⟨.l, none, .op (.mov (.v 5))⟩,
⟨.v 8, none, .op (.bin .neq .i64 (.l 0) (.c (.int .i64 0)))⟩]) (
.ite (.v 8) (
.seq (
.reg [⟨.l, none, .op (.bld [(.int .i64 0), .nils] [])⟩,
⟨.l, none, .op (.mov (.v 5))⟩,
⟨.n, none, .op (.st 2 (.v 3) (.l 1))⟩,
⟨.v 4, none, .op (.mov (.l 0))⟩]) (
.ret)) (
.skip)))) (
.seq (
.seq (
.reg [⟨.l, none, .op (.mov (.v 1))⟩,
⟨.v 9, none, .call 52 [(.l 0)]⟩]) (
.ite (.v 9) (
.seq (
.reg [⟨.l, none, .op (.bld [(.int .i64 0), .nils] [])⟩,
⟨.n, none, .op (.st 2 (.v 3) (.l 0))⟩,
⟨.v 4, none, .op (.mov (.c (.int .i64 5)))⟩]) (
.ret)) (
.skip))) (
.seq (
.reg [⟨.l, none, .op (.fla 1 (.v 2))⟩,
⟨.l, none, .op (.ld false 1 (.l 0))⟩,
⟨.l, none, .call 61 [(.l 0)]⟩,
⟨.v 6, none, .op (.mov (.l 0))⟩]) (
.seq (
.seq (
.reg [⟨.l, none, .op (.mov (.v 6))⟩,
⟨.v 10, none, .op (.lens (.l 0))⟩,
⟨.v 11, none, .op (.mov (.c (.int .i64 0)))⟩]) (
.block 0 (
.loop (
.seq (
.reg [⟨.v 12, none, .op (.bin .lss .i64 (.v 11) (.v 10))⟩]) (
.seq (
.ite (.v 12) (
.skip) (
.exit 0)) (
.seq (
.block 1 (
.seq (
.reg [⟨.l, none, .op (.mov (.v 11))⟩,
⟨.v 7, none, .op (.mov (.l 0))⟩]) (
.reg [⟨.l, none, .op (.mov (.v 6))⟩,
⟨.l, none, .op (.mov (.v 7))⟩,
⟨.l, none, .op (.ixa 1 (.l 1) (.l 0))⟩,
⟨.l, none, .op (.ld false 1 (.l 0))⟩,
⟨.l, none, .op (.mov (.v 1))⟩,
⟨.l, none, .op (.bin .mul .i64 (.l 1) (.l 0))⟩,
⟨.l, none, .op (.ixa 1 (.l 5) (.l 4))⟩,
⟨.n, none, .op (.st 1 (.l 0) (.l 1))⟩]))) (
.reg [⟨.l, none, .op (.bin .add .i64 (.v 11) (.c (.int .i64 1)))⟩,
⟨.v 11, none, .op (.mov (.l 0))⟩]))))))) (
.seq (
.reg [⟨.l, none, .op (.fla 0 (.v 2))⟩,
⟨.l, none, .op (.ld false 1 (.l 0))⟩,
⟨.l, none, .op (.mov (.v 6))⟩,
⟨.l, none, .call 53 [(.l 1), (.l 0)]⟩,
⟨.l, none, .op (.ext (.l 0) 0)⟩,
⟨.l, none, .op (.ext (.l 1) 1)⟩,
⟨.n, none, .op (.st 2 (.v 3) (.l 1))⟩,
⟨.v 4, none, .op (.mov (.l 0))⟩]) (
.ret))))))⟩
/- 35 cayley/cyclo.Quot -/
abbrev n_cyclo_Quot : Nat := 35
def c_cyclo_Quot : Ay.Fn := ⟨2, [some 0, some 1, none, none, none, none, none, none, none, none, none, none, none, none, none, none], [.cell 3 true 2, .v 4],
.seq (
.reg [⟨.v 2, none, .op (.box (.v 0))⟩,
⟨.v 3, none, .op (.alc [(.int .i64 0), .nils])⟩,
⟨.v 4, none, .op (.mov (.c (.int .i64 0)))⟩]) (
.seq (
.seq (
.reg [⟨.l, none, .op (.ld true 2 (.v 2))⟩,
⟨.l, none, .call 24 [(.l 0)]⟩,
⟨.v 5, none, .op (.mov (.l 0))⟩]) (
.seq (
.reg [⟨.l, none, .op (.mov (.v 5))⟩,
⟨.v 9, none, .op (.bin .neq .i64 (.l 0) (.c (.int .i64 0)))⟩]) (
.ite (.v 9) (
.seq (
.reg [⟨.l, none, .op (.bld [(.int .i64 0), .nils] [])⟩,
⟨.l, none, .op (.mov (.v 5))⟩,
⟨.n, none, .op (.st 2 (.v 3) (.l 1))⟩,
⟨.v 4, none, .op (.mov (.l 0))⟩]) (
.ret)) (
.skip)))) (
.seq (
.seq (
.reg [⟨.l, none, .op (.mov (.v 1))⟩,
⟨.v 10, none, .op (.bin .eql .i64 (.l 0) (.c (.int .i64 0)))⟩]) (
.ite (.v 10) (
.seq (
.reg [⟨.l, none, .op (.bld [(.int .i64 0), .nils] [])⟩,
⟨.n, none, .op (.st 2 (.v 3) (.l 0))⟩,
⟨.v 4, none, .op (.mov (.c (.int .i64 6)))⟩]) (
.ret)) (
.skip))) (
.seq (
.any 8 6 [⟨0, ⟨.v 16, none, .op (.fla 0 (.v 2))⟩, false, []⟩,
⟨1, ⟨.v 17, none, .op (.ld false 1 (.v 16))⟩, false, []⟩,
⟨2, ⟨.v 18, none, .op (.fla 1 (.v 2))⟩, false, []⟩,
⟨3, ⟨.v 19, none, .op (.ld false 1 (.v 18))⟩, false, []⟩,
⟨4, ⟨.v 20, none, .call 61 [(.v 19)]⟩, false, [1]⟩,
⟨5, ⟨.v 21, none, .op (.bld [(.int .i64 0), .nils] [(0, 1, (.v 17)), (1, 1, (.v 20))])⟩, false, []⟩,
⟨6, ⟨.v 6, none, .op (.alc [(.int .i64 0), .nils])⟩, true, []⟩,
⟨7, ⟨.n, none, .op (.st 2 (.v 6) (.v 21))⟩, false, []⟩]) (
.seq (
.seq (
.reg [⟨.l, none, .op (.fla 1 (.v 2))⟩,
⟨.v 11, none, .op (.ld false 1 (.l 0))⟩,
⟨.v 12, none, .op (.lens (.v 11))⟩,
⟨.v 13, none, .op (.mov (.c (.int .i64 0)))⟩]) (
.block 0 (
.loop (
.seq (
.reg [⟨.v 14, none, .op (.bin .lss .i64 (.v 13) (.v 12))⟩]) (
.seq (
.ite (.v 14) (
.skip) (
.exit 0)) (
.seq (
.block 1 (
.seq (
.reg [⟨.l, none, .op (.mov (.v 13))⟩,
⟨.l, none, .op (.ixa 1 (.v 11) (.v 13))⟩,
⟨.l, none, .op (.ld false 1 (.l 0))⟩,
⟨.v 7, none, .op (.mov (.l 2))⟩,
⟨.v 8, none, .op (.mov (.l 0))⟩]) (
.seq (
.seq (
.reg [⟨.l, none, .op (.mov (.v 8))⟩,
⟨.l, none, .op (.mov (.v 1))⟩,
⟨.l, none, .op (.bin .rem .i64 (.l 1) (.l 0))⟩,
⟨.v 15, none, .op (.bin .neq .i64 (.l 0) (.c (.int .i64 0)))⟩]) (
.ite (.v 15) (
.seq (
.reg [⟨.l, none, .op (.bld [(.int .i64 0), .nils] [])⟩,
⟨.n, none, .op (.st 2 (.v 3) (.l 0))⟩,
⟨.v 4, none, .op (.mov (.c (.int .i64 18)))⟩]) (
.ret)) (
.skip))) (
.any 8 7 [⟨0, ⟨.v 16, none, .op (.fla 1 (.v 6))⟩, false, []⟩,
⟨1, ⟨.v 17, none, .op (.ld false 1 (.v 16))⟩, false, []⟩,
⟨2, ⟨.v 18, none, .op (.mov (.v 7))⟩, false, []⟩,
⟨3, ⟨.v 19, none, .op (.mov (.v 8))⟩, false, []⟩,
⟨4, ⟨.v 20, none, .op (.mov (.v 1))⟩, false, []⟩,
⟨5, ⟨.v 21, none, .op (.bin .quo .i64 (.v 19) (.v 20))⟩, false, []⟩,
⟨6, ⟨.v 22, none, .op (.ixa 1 (.v 17) (.v 18))⟩, false, []⟩,
⟨7, ⟨.n, none, .op (.st 1 (.v 22) (.v 21))⟩, false, []⟩])))) (
.reg [⟨.l, none, .op (.bin .add .i64 (.v 13) (.c (.int .i64 1)))⟩,
⟨.v 13, none, .op (.mov (.l 0))⟩]))))))) (
.seq (
.reg [⟨.l, none, .op (.ld true 2 (.v 6))⟩,
⟨.n, none, .op (.st 2 (.v 3) (.l 0))⟩,
⟨.v 4, none, .op (.mov (.c (.int .i64 0)))⟩]) (
.ret))))))⟩
/- 36 cayley/cayleyref06.Add -/
abbrev n_ref06_Add : Nat := 36
def c_ref06_Add : Ay.Fn := ⟨2, [some 0, some 1, none, none, none, none, none, none, none, none, none, none, none, none], [.cell 4 true 2, .v 5],
.seq (
.reg [⟨.v 2, none, .op (.box (.v 0))⟩,
⟨.v 3, none, .op (.box (.v 1))⟩,
⟨.v 4, none, .op (.alc [(.int .i64 0), .nils])⟩,
⟨.v 5, none, .op (.mov (.c (.int .i64 0)))⟩]) (
.seq (
.reg [⟨.l, none, .op (.ld true 2 (.v 2))⟩,
⟨.l, none, .op (.ld true 2 (.v 3))⟩,
⟨.l, none, .call 62 [(.l 1), (.l 0)]⟩,
⟨.l, none, .op (.mov (.l 0))⟩,
⟨.l, none, .op (.ext (.l 0) 0)⟩,
⟨.l, none, .op (.ext (.l 1) 1)⟩,
⟨.v 6, none, .op (.mov (.l 1))⟩,
⟨.v 7, none, .op (.mov (.l 0))⟩]) (
.seq (
.seq (
.reg [⟨.l, none, .op (.mov (.v 7))⟩,
⟨.v 11, none, .op (.bin .neq .i64 (.l 0) (.c (.int .i64 0)))⟩]) (
.ite (.v 11) (
.seq (
.reg [⟨.l, none, .op (.bld [(.int .i64 0), .nils] [])⟩,
⟨.l, none, .op (.mov (.v 7))⟩,
⟨.n, none, .op (.st 2 (.v 4) (.l 1))⟩,
⟨.v 5, none, .op (.mov (.l 0))⟩]) (
.ret)) (
.skip))) (
.seq (
.reg [⟨.l, none, .op (.mov (.v 6))⟩,
⟨.l, none, .op (.mks 1 8 [(.int .i64 0)] (.l 0) (.l 0))⟩,
⟨.v 8, none, .op (.mov (.l 0))⟩]) (
.seq (
.seq (
.reg [⟨.v 9, none, .op (.mov (.c (.int .i64 0)))⟩]) (
.block 0 (
.loop (
.seq (
.seq (
.reg [⟨.l, none, .op (.mov (.v 9))⟩,
⟨.l, none, .op (.fla 1 (.v 2))⟩,
⟨.l, none, .op (.ld false 1 (.l 0))⟩,
⟨.l, none, .op (.lens (.l 0))⟩,
⟨.v 12, none, .op (.bin .lss .i64 (.l 3) (.l 0))⟩]) (
.ite (.v 12) (
.skip) (
.exit 0))) (
.seq (
.block 1 (
.any 13 13 [⟨0, ⟨.v 14, none, .op (.mov (.v 8))⟩, false, []⟩,
⟨1, ⟨.v 15, none, .op (.mov (.v 9))⟩, false, []⟩,
⟨2, ⟨.v 16, none, .op (.mov (.v 6))⟩, false, []⟩,
⟨3, ⟨.v 17, none, .op (.fla 0 (.v 2))⟩, false, []⟩,
⟨4, ⟨.v 18, none, .op (.ld false 1 (.v 17))⟩, false, []⟩,
⟨5, ⟨.v 19, none, .op (.bin .quo .i64 (.v 16) (.v 18))⟩, false, []⟩,
⟨6, ⟨.v 20, none, .op (.bin .mul .i64 (.v 15) (.v 19))⟩, false, []⟩,
⟨7, ⟨.v 21, none, .op (.fla 1 (.v 2))⟩, false, []⟩,
⟨8, ⟨.v 22, none, .op (.ld false 1 (.v 21))⟩, false, []⟩,
⟨9, ⟨.v 23, none, .op (.mov (.v 9))⟩, false, []⟩,
⟨10, ⟨.v 24, none, .op (.ixa 1 (.v 22) (.v 23))⟩, false, []⟩,
⟨11, ⟨.v 25, none, .op (.ld false 1 (.v 24))⟩, false, []⟩,
⟨12, ⟨.v 26, none, .call 55 [(.v 14), (.v 20), (.v 25)]⟩, false, []⟩])) (
.reg [⟨.l, none, .op (.mov (.v 9))⟩,
⟨.l, none, .op (.bin .add .i64 (.l 0) (.c (.int .i64 1)))⟩,
⟨.v 9, none, .op (.mov (.l 0))⟩])))))) (
.seq (
.seq (
.reg [⟨.v 10, none, .op (.mov (.c (.int .i64 0)))⟩]) (
.block 2 (
.loop (
.seq (
.seq (
.reg [⟨.l, none, .op (.mov (.v 10))⟩,
⟨.l, none, .op (.fla 1 (.v 3))⟩,
⟨.l, none, .op (.ld false 1 (.l 0))⟩,
⟨.l, none, .op (.lens (.l 0))⟩,
⟨.v 13, none, .op (.bin .lss .i64 (.l 3) (.l 0))⟩]) (
.ite (.v 13) (
.skip) (
.exit 2))) (
.seq (
.block 3 (
.any 13 13 [⟨0, ⟨.v 14, none, .op (.mov (.v 8))⟩, false, []⟩,
⟨1, ⟨.v 15, none, .op (.mov (.v 10))⟩, false, []⟩,
⟨2, ⟨.v 16, none, .op (.mov (.v 6))⟩, false, []⟩,
⟨3, ⟨.v 17, none, .op (.fla 0 (.v 3))⟩, false, []⟩,
⟨4, ⟨.v 18, none, .op (.ld false 1 (.v 17))⟩, false, []⟩,
⟨5, ⟨.v 19, none, .op (.bin .quo .i64 (.v 16) (.v 18))⟩, false, []⟩,
⟨6, ⟨.v 20, none, .op (.bin .mul .i64 (.v 15) (.v 19))⟩, false, []⟩,
⟨7, ⟨.v 21, none, .op (.fla 1 (.v 3))⟩, false, []⟩,
⟨8, ⟨.v 22, none, .op (.ld false 1 (.v 21))⟩, false, []⟩,
⟨9, ⟨.v 23, none, .op (.mov (.v 10))⟩, false, []⟩,
⟨10, ⟨.v 24, none, .op (.ixa 1 (.v 22) (.v 23))⟩, false, []⟩,
⟨11, ⟨.v 25, none, .op (.ld false 1 (.v 24))⟩, false, []⟩,
⟨12, ⟨.v 26, none, .call 55 [(.v 14), (.v 20), (.v 25)]⟩, false, []⟩])) (
.reg [⟨.l, none, .op (.mov (.v 10))⟩,
⟨.l, none, .op (.bin .add .i64 (.l 0) (.c (.int .i64 1)))⟩,
⟨.v 10, none, .op (.mov (.l 0))⟩])))))) (
.seq (
.reg [⟨.l, none, .op (.mov (.v 6))⟩,
⟨.l, none, .op (.mov (.v 8))⟩,
⟨.l, none, .call 56 [(.l 1), (.l 0)]⟩,
⟨.l, none, .op (.ext (.l 0) 0)⟩,
⟨.l, none, .op (.ext (.l 1) 1)⟩,
⟨.n, none, .op (.st 2 (.v 4) (.l 1))⟩,
⟨.v 5, none, .op (.mov (.l 0))⟩]) (
.ret)))))))⟩
/- 37 cayley/cayleyref06.Mul -/
abbrev n_ref06_Mul : Nat := 37
def c_ref06_Mul : Ay.Fn := ⟨2, [some 0, some 1, none, none, none, none, none, none, none, none, none, none, none, none], [.cell 4 true 2, .v 5],
.seq (
.reg [⟨.v 2, none, .op (.box (.v 0))⟩,
⟨.v 3, none, .op (.box (.v 1))⟩,
⟨.v 4, none, .op (.alc [(.int .i64 0), .nils])⟩,
⟨.v 5, none, .op (.mov (.c (.int .i64 0)))⟩]) (
.seq (
.reg [⟨.l, none, .op (.ld true 2 (.v 2))⟩,
⟨.l, none, .op (.ld true 2 (.v 3))⟩,
⟨.l, none, .call 62 [(.l 1), (.l 0)]⟩,
⟨.l, none, .op (.mov (.l 0))⟩,
⟨.l, none, .op (.ext (.l 0) 0)⟩,
⟨.l, none, .op (.ext (.l 1) 1)⟩,
⟨.v 6, none, .op (.mov (.l 1))⟩,
⟨.v 7, none, .op (.mov (.l 0))⟩]) (
.seq (
.seq (
.reg [⟨.l, none, .op (.mov (.v 7))⟩,
⟨.v 11, none, .op (.bin .neq .i64 (.l 0) (.c (.int .i64 0)))⟩]) (
.ite (.v 11) (
.seq (
.reg [⟨.l, none, .op (.bld [(.int .i64 0), .nils] [])⟩,
⟨.l, none, .op (.mov (.v 7))⟩,
⟨.n, none, .op (.st 2 (.v 4) (.l 1))⟩,
⟨.v 5, none, .op (.mov (.l 0))⟩]) (
.ret)) (
.skip))) (
.seq (
.reg [⟨.l, none, .op (.mov (.v 6))⟩,
⟨.l, none, .op (.mks 1 8 [(.int .i64 0)] (.l 0) (.l 0))⟩,
⟨.v 8, none, .op (.mov (.l 0))⟩]) (
.seq (
.seq (
.reg [⟨.v 9, none, .op (.mov (.c (.int .i64 0)))⟩]) (
.block 0 (
.loop (
.seq (
.seq (
.reg [⟨.l, none, .op (.mov (.v 9))⟩,
⟨.l, none, .op (.fla 1 (.v 2))⟩,
⟨.l, none, .op (.ld false 1 (.l 0))⟩,
⟨.l, none, .op (.lens (.l 0))⟩,
⟨.v 12, none, .op (.bin .lss .i64 (.l 3) (.l 0))⟩]) (
.ite (.v 12) (
.skip) (
.exit 0))) (
.seq (
.block 1 (
.seq (
.reg [⟨.v 10, none, .op (.mov (.c (.int .i64 0)))⟩]) (
.block 2 (
.loop (
.seq (
.seq (
.reg [⟨.l, none, .op (.mov (.v 10))⟩,
⟨.l, none, .op (.fla 1 (.v 3))⟩,
⟨.l, none, .op (.ld false 1 (.l 0))⟩,
⟨.l, none, .op (.lens (.l 0))⟩,
⟨.v 13, none, .op (.bin .lss .i64 (.l 3) (.l 0))⟩]) (
.ite (.v 13) (
.skip) (
.exit 2))) (
.seq (
.block 3 (
.any 26 26 [⟨0, ⟨.v 14, none, .op (.mov (.v 8))⟩, false, []⟩,
⟨1, ⟨.v 15, none, .op (.mov (.v 9))⟩, false, []⟩,
⟨2, ⟨.v 16, none, .op (.mov (.v 6))⟩, false, []⟩,
⟨3, ⟨.v 17, none, .op (.fla 0 (.v 2))⟩, false, []⟩,
⟨4, ⟨.v 18, none, .op (.ld false 1 (.v 17))⟩, false, []⟩,
⟨5, ⟨.v 19, none, .op (.bin .quo .i64 (.v 16) (.v 18))⟩, false, []⟩,
⟨6, ⟨.v 20, none, .op (.bin .mul .i64 (.v 15) (.v 19))⟩, false, []⟩,
⟨7, ⟨.v 21, none, .op (.mov (.v 10))⟩, false, []⟩,
⟨8, ⟨.v 22, none, .op (.mov (.v 6))⟩, false, []⟩,
⟨9, ⟨.v 23, none, .op (.fla 0 (.v 3))⟩, false, []⟩,
⟨10, ⟨.v 24, none, .op (.ld false 1 (.v 23))⟩, false, []⟩,
⟨11, ⟨.v 25, none, .op (.bin .quo .i64 (.v 22) (.v 24))⟩, false, []⟩,
⟨12, ⟨.v 26, none, .op (.bin .mul .i64 (.v 21) (.v 25))⟩, false, []⟩,
⟨13, ⟨.v 27, none, .op (.bin .add .i64 (.v 20) (.v 26))⟩, false, []⟩,
⟨14, ⟨.v 28, none, .op (.fla 1 (.v 2))⟩, false, []⟩,
⟨15, ⟨.v 29, none, .op (.ld false 1 (.v 28))⟩, false, []⟩,
⟨16, ⟨.v 30, none, .op (.mov (.v 9))⟩, false, []⟩,
⟨17, ⟨.v 31, none, .op (.ixa 1 (.v 29) (.v 30))⟩, false, []⟩,
⟨18, ⟨.v 32, none, .op (.ld false 1 (.v 31))⟩, false, []⟩,
⟨19, ⟨.v 33, none, .op (.fla 1 (.v 3))⟩, false, []⟩,
⟨20, ⟨.v 34, none, .op (.ld false 1 (.v 33))⟩, false, []⟩,
⟨21, ⟨.v 35, none, .op (.mov (.v 10))⟩, false, []⟩,
⟨22, ⟨.v 36, none, .op (.ixa 1 (.v 34) (.v 35))⟩, false, []⟩,
⟨23, ⟨.v 37, none, .op (.ld false 1 (.v 36))⟩, false, []⟩,
⟨24, ⟨.v 38, none, .op (.bin .mul .i64 (.v 32) (.v 37))⟩, false, []⟩,
⟨25, ⟨.v 39, none, .call 55 [(.v 14), (.v 27), (.v 38)]⟩, false, []⟩])) (
.reg [⟨.l, none, .op (.mov (.v 10))⟩,
⟨.l, none, .op (.bin .add .i64 (.l 0) (.c (.int .i64 1)))⟩,
⟨.v 10, none, .op (.mov (.l 0))⟩]))))))) (
.reg [⟨.l, none, .op (.mov (.v 9))⟩,
⟨.l, none, .op (.bin .add .i64 (.l 0) (.c (.int .i64 1)))⟩,
⟨.v 9, none, .op (.mov (.l 0))⟩])))))) (
.seq (
.reg [⟨.l, none, .op (.mov (.v 6))⟩,
⟨.l, none, .op (.mov (.v 8))⟩,
⟨.l, none, .call 56 [(.l 1), (.l 0)]⟩,
⟨.l, none, .op (.ext (.l 0) 0)⟩,
⟨.l, none, .op (.ext (.l 1) 1)⟩,
⟨.n, none, .op (.st 2 (.v 4) (.l 1))⟩,
⟨.v 5, none, .op (.mov (.l 0))⟩]) (
.ret))))))⟩
/- 38 cayley/cayleyref06.Scale -/
abbrev n_ref06_Scale : Nat := 38
def c_ref06_Scale : Ay.Fn := ⟨2, [some 0, some 1, none, none, none, none, none, none, none, none, none], [.cell 3 true 2, .v 4],
.seq (
.reg [⟨.v 2, none, .op (.box (.v 0))⟩,
⟨.v 3, none, .op (.alc [(.int .i64 0), .nils])⟩,
⟨.v 4, none, .op (.mov (.c (.int .i64 0)))⟩]) (
.seq (
.seq (
.reg [⟨.l, none, .op (.ld true 2 (.v 2))⟩,
⟨.l, none, .call 43 [(.l 0)]⟩,
⟨.v 5, none, .op (.mov (.l 0))⟩]) (
.seq (
.reg [⟨.l, none, .op (.mov (.v 5))⟩,
⟨.v 8, none, .op (.bin .neq .i64 (.l 0) (.c (.int .i64 0)))⟩]) (
.ite (.v 8) (
.seq (
.reg [⟨.l, none, .op (.bld [(.int .i64 0), .nils] [])⟩,
⟨.l, none, .op (.mov (.v 5))⟩,
⟨.n, none, .op (.st 2 (.v 3) (.l 1))⟩,
⟨.v 4, none, .op (.mov (.l 0))⟩]) (
.ret)) (
.skip)))) (
.seq (
.seq (
.reg [⟨.l, none, .op (.mov (.v 1))⟩,
⟨.l, none, .op (.bls 1 [(.int .i64 0)] 1 [(0, 1, (.l 0))])⟩,
⟨.v 9, none, .call 54 [(.l 0)]⟩]) (
.ite (.v 9) (
.seq (
.reg [⟨.l, none, .op (.bld [(.int .i64 0), .nils] [])⟩,
⟨.n, none, .op (.st 2 (.v 3) (.l 0))⟩,
⟨.v 4, none, .op (.mov (.c (.int .i64 5)))⟩]) (
.ret)) (
.skip))) (
.seq (
.reg [⟨.l, none, .op (.fla 0 (.v 2))⟩,
⟨.l, none, .op (.ld false 1 (.l 0))⟩,
⟨.l, none, .op (.mks 1 8 [(.int .i64 0)] (.l 0) (.l 0))⟩,
⟨.v 6, none, .op (.mov (.l 0))⟩]) (
.seq (
.seq (
.reg [⟨.v 7, none, .op (.mov (.c (.int .i64 0)))⟩]) (
.block 0 (
.loop (
.seq (
.seq (
.reg [⟨.l, none, .op (.mov (.v 7))⟩,
⟨.l, none, .op (.fla 1 (.v 2))⟩,
⟨.l, none, .op (.ld false 1 (.l 0))⟩,
⟨.l, none, .op (.lens (.l 0))⟩,
⟨.v 10, none, .op (.bin .lss .i64 (.l 3) (.l 0))⟩]) (
.ite (.v 10) (
.skip) (
.exit 0))) (
.seq (
.block 1 (
.reg [⟨.l, none, .op (.mov (.v 6))⟩,
⟨.l, none, .op (.mov (.v 7))⟩,
⟨.l, none, .op (.fla 1 (.v 2))⟩,
⟨.l, none, .op (.ld false 1 (.l 0))⟩,
⟨.l, none, .op (.mov (.v 7))⟩,
⟨.l, none, .op (.ixa 1 (.l 1) (.l 0))⟩,
⟨.l, none, .op (.ld false 1 (.l 0))⟩,
⟨.l, none, .op (.mov (.v 1))⟩,
⟨.l, none, .op (.bin .mul .i64 (.l 1) (.l 0))⟩,
⟨.l, none, .op (.ixa 1 (.l 8) (.l 7))⟩,
⟨.n, none, .op (.st 1 (.l 0) (.l 1))⟩])) (
.reg [⟨.l, none, .op (.mov (.v 7))⟩,
⟨.l, none, .op (.bin .add .i64 (.l 0) (.c (.int .i64 1)))⟩,
⟨.v 7, none, .op (.mov (.l 0))⟩])))))) (
.seq (
.reg [⟨.l, none, .op (.fla 0 (.v 2))⟩,
⟨.l, none, .op (.ld false 1 (.l 0))⟩,
⟨.l, none, .op (.mov (.v 6))⟩,
⟨.l, none, .call 56 [(.l 1), (.l 0)]⟩,
⟨.l, none, .op (.ext (.l 0) 0)⟩,
⟨.l, none, .op (.ext (.l 1) 1)⟩,
⟨.n, none, .op (.st 2 (.v 3) (.l 1))⟩,
⟨.v 4, none, .op (.mov (.l 0))⟩]) (
.ret))))))⟩
/- 39 cayley/cayleyref06.Quot -/
abbrev n_ref06_Quot : Nat := 39
def c_ref06_Quot : Ay.Fn := ⟨2, [some 0, some 1, none, none, none, none, none, none, none, none, none, none], [.cell 3 true 2, .v 4],
.seq (
.reg [⟨.v 2, none, .op (.box (.v 0))⟩,
⟨.v 3, none, .op (.alc [(.int .i64 0), .nils])⟩,
⟨.v 4, none, .op (.mov (.c (.int .i64 0)))⟩]) (
.seq (
.seq (
.reg [⟨.l, none, .op (.ld true 2 (.v 2))⟩,
⟨.l, none, .call 43 [(.l 0)]⟩,
⟨.v 5, none, .op (.mov (.l 0))⟩]) (
.seq (
.reg [⟨.l, none, .op (.mov (.v 5))⟩,
⟨.v 8, none, .op (.bin .neq .i64 (.l 0) (.c (.int .i64 0)))⟩]) (
.ite (.v 8) (
.seq (
.reg [⟨.l, none, .op (.bld [(.int .i64 0), .nils] [])⟩,
⟨.l, none, .op (.mov (.v 5))⟩,
⟨.n, none, .op (.st 2 (.v 3) (.l 1))⟩,
⟨.v 4, none, .op (.mov (.l 0))⟩]) (
.ret)) (
.skip)))) (
.seq (
.seq (
.reg [⟨.l, none, .op (.mov (.v 1))⟩,
⟨.v 9, none, .op (.bin .eql .i64 (.l 0) (.c (.int .i64 0)))⟩]) (
.ite (.v 9) (
.seq (
.reg [⟨.l, none, .op (.bld [(.int .i64 0), .nils] [])⟩,
⟨.n, none, .op (.st 2 (.v 3) (.l 0))⟩,
⟨.v 4, none, .op (.mov (.c (.int .i64 6)))⟩]) (
.ret)) (
.skip))) (
.seq (
.reg [⟨.l, none, .op (.fla 0 (.v 2))⟩,
⟨.l, none, .op (.ld false 1 (.l 0))⟩,
⟨.l, none, .op (.bld [(.int .i64 0), .nils] [(0, 1, (.l 0))])⟩,
⟨.v 6, none, .op (.alc [(.int .i64 0), .nils])⟩,
⟨.n, none, .op (.st 2 (.v 6) (.l 0))⟩]) (
.seq (
.seq (
.reg [⟨.v 7, none, .op (.mov (.c (.int .i64 0)))⟩]) (
.block 0 (
.loop (
.seq (
.seq (
.reg [⟨.l, none, .op (.mov (.v 7))⟩,
⟨.l, none, .op (.fla 1 (.v 2))⟩,
⟨.l, none, .op (.ld false 1 (.l 0))⟩,
⟨.l, none, .op (.lens (.l 0))⟩,
⟨.v 10, none, .op (.bin .lss .i64 (.l 3) (.l 0))⟩]) (
.ite (.v 10) (
.skip) (
.exit 0))) (
.seq (
.block 1 (
.seq (
.seq (
.reg [⟨.l, none, .op (.fla 1 (.v 2))⟩,
⟨.l, none, .op (.ld false 1 (.l 0))⟩,
⟨.l, none, .op (.mov (.v 7))⟩,
⟨.l, none, .op (.ixa 1 (.l 1) (.l 0))⟩,
⟨.l, none, .op (.ld false 1 (.l 0))⟩,
⟨.l, none, .op (.mov (.v 1))⟩,
⟨.l, none, .op (.bin .rem .i64 (.l 1) (.l 0))⟩,
⟨.v 11, none, .op (.bin .neq .i64 (.l 0) (.c (.int .i64 0)))⟩]) (
.ite (.v 11) (
.seq (
.reg [⟨.l, none, .op (.bld [(.int .i64 0), .nils] [])⟩,
⟨.n, none, .op (.st 2 (.v 3) (.l 0))⟩,
⟨.v 4, none, .op (.mov (.c (.int .i64 18)))⟩]) (
.ret)) (
.skip))) (
.any 13 12 [⟨0, ⟨.v 12, none, .op (.fla 1 (.v 6))⟩, false, []⟩,
⟨1, ⟨.v 13, none, .op (.ld false 1 (.v 12))⟩, false, []⟩,
⟨2, ⟨.v 14, none, .op (.fla 1 (.v 2))⟩, false, []⟩,
⟨3, ⟨.v 15, none, .op (.ld false 1 (.v 14))⟩, false, []⟩,
⟨4, ⟨.v 16, none, .op (.mov (.v 7))⟩, false, []⟩,
⟨5, ⟨.v 17, none, .op (.ixa 1 (.v 15) (.v 16))⟩, false, []⟩,
⟨6, ⟨.v 18, none, .op (.ld false 1 (.v 17))⟩, false, []⟩,
⟨7, ⟨.v 19, none, .op (.mov (.v 1))⟩, false, []⟩,
⟨8, ⟨.v 20, none, .op (.bin .quo .i64 (.v 18) (.v 19))⟩, false, []⟩,
⟨9, ⟨.v 21, none, .op (.bls 1 [(.int .i64 0)] 1 [(0, 1, (.v 20))])⟩, true, []⟩,
⟨10, ⟨.v 22, none, .op (.app 1 8 (.v 13) (.v 21))⟩, false, []⟩,
⟨11, ⟨.v 23, none, .op (.fla 1 (.v 6))⟩, false, []⟩,
⟨12, ⟨.n, none, .op (.st 1 (.v 23) (.v 22))⟩, false, []⟩]))) (
.reg [⟨.l, none, .op (.mov (.v 7))⟩,
⟨.l, none, .op (.bin .add .i64 (.l 0) (.c (.int .i64 1)))⟩,
⟨.v 7, none, .op (.mov (.l 0))⟩])))))) (
.seq (
.reg [⟨.l, none, .op (.ld true 2 (.v 6))⟩,
⟨.n, none, .op (.st 2 (.v 3) (.l 0))⟩,
⟨.v 4, none, .op (.mov (.c (.int .i64 0)))⟩]) (
.ret))))))⟩
/- 40 cayley/cayleyref06.Galois -/
abbrev n_ref06_Galois : Nat := 40
def c_ref06_Galois : Ay.Fn := ⟨2, [some 0, some 1, none, none, none, none, none, none, none, none, none], [.cell 3 true 2, .v 4],
.seq (
.reg [⟨.v 2, none, .op (.box (.v 0))⟩,
⟨.v 3, none, .op (.alc [(.int .i64 0), .nils])⟩,
⟨.v 4, none, .op (.mov (.c (.int .i64 0)))⟩]) (
.seq (
.seq (
.reg [⟨.l, none, .op (.ld true 2 (.v 2))⟩,
⟨.l, none, .call 43 [(.l 0)]⟩,
⟨.v 5, none, .op (.mov (.l 0))⟩]) (
.seq (
.reg [⟨.l, none, .op (.mov (.v 5))⟩,
⟨.v 8, none, .op (.bin .neq .i64 (.l 0) (.c (.int .i64 0)))⟩]) (
.ite (.v 8) (
.seq (
.reg [⟨.l, none, .op (.bld [(.int .i64 0), .nils] [])⟩,
⟨.l, none, .op (.mov (.v 5))⟩,
⟨.n, none, .op (.st 2 (.v 3) (.l 1))⟩,
⟨.v 4, none, .op (.mov (.l 0))⟩]) (
.ret)) (
.skip)))) (
.seq (
.reg [⟨.l, none, .op (.mov (.v 1))⟩,
⟨.l, none, .op (.fla 0 (.v 2))⟩,
⟨.l, none, .op (.ld false 1 (.l 0))⟩,
⟨.l, none, .call 22 [(.l 2), (.l 0)]⟩,
⟨.v 1, none, .op (.mov (.l 0))⟩]) (
.seq (
.seq (
.reg [⟨.l, none, .op (.fla 0 (.v 2))⟩,
⟨.l, none, .op (.ld false 1 (.l 0))⟩,
⟨.l, none, .op (.mov (.v 1))⟩,
⟨.l, none, .call 63 [(.l 1), (.l 0)]⟩,
⟨.v 9, none, .op (.bin .neq .i64 (.l 0) (.c (.int .i64 1)))⟩]) (
.ite (.v 9) (
.seq (
.reg [⟨.l, none, .op (.bld [(.int .i64 0), .nils] [])⟩,
⟨.n, none, .op (.st 2 (.v 3) (.l 0))⟩,
⟨.v 4, none, .op (.mov (.c (.int .i64 18)))⟩]) (
.ret)) (
.skip))) (
.seq (
.reg [⟨.l, none, .op (.fla 0 (.v 2))⟩,
⟨.l, none, .op (.ld false 1 (.l 0))⟩,
⟨.l, none, .op (.mks 1 8 [(.int .i64 0)] (.l 0) (.l 0))⟩,
⟨.v 6, none, .op (.mov (.l 0))⟩]) (
.seq (
.seq (
.reg [⟨.v 7, none, .op (.mov (.c (.int .i64 0)))⟩]) (
.block 0 (
.loop (
.seq (
.seq (
.reg [⟨.l, none, .op (.mov (.v 7))⟩,
⟨.l, none, .op (.fla 1 (.v 2))⟩,
⟨.l, none, .op (.ld false 1 (.l 0))⟩,
⟨.l, none, .op (.lens (.l 0))⟩,
⟨.v 10, none, .op (.bin .lss .i64 (.l 3) (.l 0))⟩]) (
.ite (.v 10) (
.skip) (
.exit 0))) (
.seq (
.block 1 (
.reg [⟨.l, none, .op (.mov (.v 6))⟩,
⟨.l, none, .op (.mov (.v 7))⟩,
⟨.l, none, .op (.mov (.v 1))⟩,
⟨.l, none, .op (.bin .mul .i64 (.l 1) (.l 0))⟩,
⟨.l, none, .op (.fla 1 (.v 2))⟩,
⟨.l, none, .op (.ld false 1 (.l 0))⟩,
⟨.l, none, .op (.mov (.v 7))⟩,
⟨.l, none, .op (.ixa 1 (.l 1) (.l 0))⟩,
⟨.l, none, .op (.ld false 1 (.l 0))⟩,
⟨.l, none, .call 55 [(.l 8), (.l 5), (.l 0)]⟩])) (
.reg [⟨.l, none, .op (.mov (.v 7))⟩,
⟨.l, none, .op (.bin .add .i64 (.l 0) (.c (.int .i64 1)))⟩,
⟨.v 7, none, .op (.mov (.l 0))⟩])))))) (
.seq (
.reg [⟨.l, none, .op (.fla 0 (.v 2))⟩,
⟨.l, none, .op (.ld false 1 (.l 0))⟩,
⟨.l, none, .op (.mov (.v 6))⟩,
⟨.l, none, .call 56 [(.l 1), (.l 0)]⟩,
⟨.l, none, .op (.ext (.l 0) 0)⟩,
⟨.l, none, .op (.ext (.l 1) 1)⟩,
⟨.n, none, .op (.st 2 (.v 3) (.l 1))⟩,
⟨.v 4, none, .op (.mov (.l 0))⟩]) (
.ret)))))))⟩
/- 41 cayley/cayleyref06.Conj -/
abbrev n_ref06_Conj : Nat := 41
def c_ref06_Conj : Ay.Fn := ⟨1, [some 0, none, none, none], [.cell 2 true 2, .v 3],
.seq (
.reg [⟨.v 1, none, .op (.box (.v 0))⟩,
⟨.v 2, none, .op (.alc [(.int .i64 0), .nils])⟩,
⟨.v 3, none, .op (.mov (.c (.int .i64 0)))⟩]) (
.seq (
.reg [⟨.l, none, .op (.ld true 2 (.v 1))⟩,
⟨.l, none, .call 40 [(.l 0), (.c (.int .i64 (-1)))]⟩,
⟨.l, none, .op (.ext (.l 0) 0)⟩,
⟨.l, none, .op (.ext (.l 1) 1)⟩,
⟨.n, none, .op (.st 2 (.v 2) (.l 1))⟩,
⟨.v 3, none, .op (.mov (.l 0))⟩]) (
.ret))⟩
/- 42 cayley/cayleyref06.Rational -/
abbrev n_ref06_Rational : Nat := 42
def c_ref06_Rational : Ay.Fn := ⟨1, [some 0, none, none, none, none], [.v 2, .v 3],
.seq (
.reg [⟨.v 1, none, .op (.box (.v 0))⟩,
⟨.v 2, none, .op (.mov (.c (.int .i64 0)))⟩,
⟨.v 3, none, .op (.mov (.c (.bool false)))⟩]) (
.seq (
.seq (
.reg [⟨.l, none, .op (.ld true 2 (.v 1))⟩,
⟨.l, none, .call 43 [(.l 0)]⟩,
⟨.l, none, .op (.bin .neq .i64 (.l 0) (.c (.int .i64 0)))⟩,
⟨.l, none, .op (.mov (.l 0))⟩,
⟨.l, some ((.l 0), false), .op (.fla 0 (.v 1))⟩,
⟨.l, some ((.l 1), false), .op (.ld false 1 (.l 0))⟩,
⟨.l, some ((.l 2), false), .op (.bin .neq .i64 (.l 0) (.c (.int .i64 1)))⟩,
⟨.v 4, none, .op (.pick (.l 3) (.c (.bool true)) (.l 0))⟩]) (
.ite (.v 4) (
.seq (
.reg [⟨.v 2, none, .op (.mov (.c (.int .i64 0)))⟩,
⟨.v 3, none, .op (.mov (.c (.bool false)))⟩]) (
.ret)) (
.skip))) (
.seq (
.reg [⟨.l, none, .op (.fla 1 (.v 1))⟩,
⟨.l, none, .op (.ld false 1 (.l 0))⟩,
⟨.l, none, .op (.ixa 1 (.l 0) (.c (.int .i64 0)))⟩,
⟨.l, none, .op (.ld false 1 (.l 0))⟩,
⟨.v 2, none, .op (.mov (.l 0))⟩,
⟨.v 3, none, .op (.mov (.c (.bool true)))⟩]) (
.ret)))⟩
/- 43 cayley/cayleyref06.Check -/
abbrev n_ref06_Check : Nat := 43
def c_ref06_Check : Ay.Fn := ⟨1, [some 0, none, none, none, none, none, none], [.v 2],
.seq (
.reg [⟨.v 1, none, .op (.box (.v 0))⟩,
⟨.v 2, none, .op (.mov (.c (.int .i64 0)))⟩]) (
.seq (
.block 0 (
.seq (
.reg [⟨.l, none, .op (.fla 0 (.v 1))⟩,
⟨.l, none, .op (.ld false 1 (.l 0))⟩,
⟨.l, none, .op (.bin .lss .i64 (.l 0) (.c (.int .i64 1)))⟩,
⟨.l, none, .op (.mov (.l 0))⟩,
⟨.l, some ((.l 0), false), .op (.fla 0 (.v 1))⟩,
⟨.l, some ((.l 1), false), .op (.ld false 1 (.l 0))⟩,
⟨.l, some ((.l 2), false), .op (.bin .gtr .i64 (.l 0) (.c (.int .i64 120)))⟩,
⟨.l, none, .op (.pick (.l 3) (.c (.bool true)) (.l 0))⟩,
⟨.v 3, none, .op (.mov (.l 0))⟩]) (
.ite (.v 3) (
.seq (
.reg [⟨.v 2, none, .op (.mov (.c (.int .i64 2)))⟩]) (
.ret)) (
.seq (
.any 10 9 [⟨0, ⟨.v 7, none, .op (.fla 1 (.v 1))⟩, false, []⟩,
⟨1, ⟨.v 8, none, .op (.ld false 1 (.v 7))⟩, false, []⟩,
⟨2, ⟨.v 9, none, .op (.lens (.v 8))⟩, false, []⟩,
⟨3, ⟨.v 10, none, .op (.fla 0 (.v 1))⟩, false, []⟩,
⟨4, ⟨.v 11, none, .op (.ld false 1 (.v 10))⟩, false, []⟩,
⟨5, ⟨.v 12, none, .call 50 [(.v 11)]⟩, false, [1]⟩,
⟨6, ⟨.v 13, none, .op (.lens (.v 12))⟩, false, []⟩,
⟨7, ⟨.v 14, none, .op (.bin .sub .i64 (.v 13) (.c (.int .i64 1)))⟩, false, []⟩,
⟨8, ⟨.v 15, none, .op (.bin .neq .i64 (.v 9) (.v 14))⟩, false, []⟩,
⟨9, ⟨.v 4, none, .op (.mov (.v 15))⟩, false, []⟩]) (
.ite (.v 4) (
.seq (
.reg [⟨.v 2, none, .op (.mov (.c (.int .i64 3)))⟩]) (
.ret)) (
.seq (
.reg [⟨.l, none, .op (.fla 1 (.v 1))⟩,
⟨.l, none, .op (.ld false 1 (.l 0))⟩,
⟨.l, none, .call 54 [(.l 0)]⟩,
⟨.v 5, none, .op (.mov (.l 0))⟩]) (
.ite (.v 5) (
.seq (
.reg [⟨.v 2, none, .op (.mov (.c (.int .i64 5)))⟩]) (
.ret)) (
.seq (
.any 10 9 [⟨0, ⟨.v 7, none, .op (.fla 0 (.v 1))⟩, false, []⟩,
⟨1, ⟨.v 8, none, .op (.ld false 1 (.v 7))⟩, false, []⟩,
⟨2, ⟨.v 9, none, .op (.fla 1 (.v 1))⟩, false, []⟩,
⟨3, ⟨.v 10, none, .op (.ld false 1 (.v 9))⟩, false, []⟩,
⟨6, ⟨.v 13, none, .op (.fla 0 (.v 1))⟩, false, []⟩,
⟨7, ⟨.v 14, none, .op (.ld false 1 (.v 13))⟩, false, []⟩,
⟨4, ⟨.v 11, none, .call 64 [(.v 8), (.v 10)]⟩, false, [7]⟩,
⟨5, ⟨.v 12, none, .op (.part false 0 1 (.v 11))⟩, false, []⟩,
⟨8, ⟨.v 15, none, .op (.bin .neq .i64 (.v 12) (.v 14))⟩, false, []⟩,
⟨9, ⟨.v 6, none, .op (.mov (.v 15))⟩, false, []⟩]) (
.ite (.v 6) (
.seq (
.reg [⟨.v 2, none, .op (.mov (.c (.int .i64 3)))⟩]) (
.ret)) (
.skip)))))))))) (
.seq (
.reg [⟨.v 2, none, .op (.mov (.c (.int .i64 0)))⟩]) (
.ret)))⟩
/- 44 cayley/cyclo.Cmp -/
abbrev n_cyclo_Cmp : Nat := 44
def c_cyclo_Cmp : Ay.Fn := ⟨2, [some 0, some 1, none, none, none], [.v 4],
.seq (
.reg [⟨.v 2, none, .op (.box (.v 0))⟩,
⟨.v 3, none, .op (.box (.v 1))⟩,
⟨.v 4, none, .op (.mov (.c (.int .i64 0)))⟩]) (
.seq (
.any 13 12 [⟨0, ⟨.v 5, none, .op (.fla 0 (.v 2))⟩, false, []⟩,
⟨1, ⟨.v 6, none, .op (.ld false 1 (.v 5))⟩, false, []⟩,
⟨2, ⟨.v 7, none, .op (.fla 0 (.v 3))⟩, false, []⟩,
⟨3, ⟨.v 8, none, .op (.ld false 1 (.v 7))⟩, false, []⟩,
⟨5, ⟨.v 10, none, .op (.fla 1 (.v 2))⟩, false, []⟩,
⟨6, ⟨.v 11, none, .op (.ld false 1 (.v 10))⟩, false, []⟩,
⟨7, ⟨.v 12, none, .op (.fla 1 (.v 3))⟩, false, []⟩,
⟨8, ⟨.v 13, none, .op (.ld false 1 (.v 12))⟩, false, []⟩,
⟨4, ⟨.v 9, none, .call 66 [(.v 6), (.v 8)]⟩, false, [8, 6]⟩,
⟨9, ⟨.v 14, none, .call 67 [(.v 11), (.v 13)]⟩, false, []⟩,
⟨10, ⟨.v 15, none, .op (.bls 1 [(.int .i64 0)] 2 [(0, 1, (.v 9)), (1, 1, (.v 14))])⟩, true, []⟩,
⟨11, ⟨.v 16, none, .call 65 [(.v 15)]⟩, false, []⟩,
⟨12, ⟨.v 4, none, .op (.mov (.v 16))⟩, false, []⟩]) (
.ret))⟩
/- 45 cayley/cayleyref06.Cmp -/
abbrev n_ref06_Cmp : Nat := 45
def c_ref06_Cmp : Ay.Fn := ⟨2, [some 0, some 1, none, none, none, none, none, none, none, none], [.v 4],
.seq (
.reg [⟨.v 2, none, .op (.box (.v 0))⟩,
⟨.v 3, none, .op (.box (.v 1))⟩,
⟨.v 4, none, .op (.mov (.c (.int .i64 0)))⟩]) (
.seq (
.seq (
.reg [⟨.l, none, .op (.fla 0 (.v 2))⟩,
⟨.l, none, .op (.ld false 1 (.l 0))⟩,
⟨.l, none, .op (.fla 0 (.v 3))⟩,
⟨.l, none, .op (.ld false 1 (.l 0))⟩,
⟨.v 6, none, .op (.bin .neq .i64 (.l 2) (.l 0))⟩]) (
.ite (.v 6) (
.seq (
.reg [⟨.l, none, .op (.fla 0 (.v 2))⟩,
⟨.l, none, .op (.ld false 1 (.l 0))⟩,
⟨.l, none, .op (.fla 0 (.v 3))⟩,
⟨.l, none, .op (.ld false 1 (.l 0))⟩,
⟨.l, none, .op (.bin .lss .i64 (.l 2) (.l 0))⟩,
⟨.l, none, .call 68 [(.l 0)]⟩,
⟨.v 4, none, .op (.mov (.l 0))⟩]) (
.ret)) (
.skip))) (
.seq (
.seq (
.reg [⟨.v 5, none, .op (.mov (.c (.int .i64 0)))⟩]) (
.block 0 (
.loop (
.seq (
.seq (
.reg [⟨.l, none, .op (.mov (.v 5))⟩,
⟨.l, none, .op (.fla 1 (.v 2))⟩,
⟨.l, none, .op (.ld false 1 (.l 0))⟩,
⟨.l, none, .op (.lens (.l 0))⟩,
⟨.l, none, .op (.bin .lss .i64 (.l 3) (.l 0))⟩,
⟨.l, none, .op (.mov (.l 0))⟩,
⟨.l, some ((.l 0), true), .op (.mov (.v 5))⟩,
⟨.l, some ((.l 1), true), .op (.fla 1 (.v 3))⟩,
⟨.l, some ((.l 2), true), .op (.ld false 1 (.l 0))⟩,
⟨.l, some ((.l 3), true), .op (.lens (.l 0))⟩,
⟨.l, some ((.l 4), true), .op (.bin .lss .i64 (.l 3) (.l 0))⟩,
⟨.v 7, none, .op (.pick (.l 5) (.l 0) (.c (.bool false)))⟩]) (
.ite (.v 7) (
.skip) (
.exit 0))) (
.seq (
.block 1 (
.seq (
.any 11 10 [⟨0, ⟨.v 10, none, .op (.fla 1 (.v 2))⟩, false, []⟩,
⟨1, ⟨.v 11, none, .op (.ld false 1 (.v 10))⟩, false, []⟩,
⟨2, ⟨.v 12, none, .op (.mov (.v 5))⟩, false, []⟩,
⟨3, ⟨.v 13, none, .op (.ixa 1 (.v 11) (.v 12))⟩, false, []⟩,
⟨4, ⟨.v 14, none, .op (.ld false 1 (.v 13))⟩, false, []⟩,
⟨5, ⟨.v 15, none, .op (.fla 1 (.v 3))⟩, false, []⟩,
⟨6, ⟨.v 16, none, .op (.ld false 1 (.v 15))⟩, false, []⟩,
⟨7, ⟨.v 17, none, .op (.mov (.v 5))⟩, false, []⟩,
⟨8, ⟨.v 18, none, .op (.ixa 1 (.v 16) (.v 17))⟩, false, []⟩,
⟨9, ⟨.v 19, none, .op (.ld false 1 (.v 18))⟩, false, []⟩,
⟨10, ⟨.v 8, none, .op (.bin .neq .i64 (.v 14) (.v 19))⟩, false, []⟩]) (
.ite (.v 8) (
.seq (
.any 13 12 [⟨0, ⟨.v 10, none, .op (.fla 1 (.v 2))⟩, false, []⟩,
⟨1, ⟨.v 11, none, .op (.ld false 1 (.v 10))⟩, false, []⟩,
⟨2, ⟨.v 12, none, .op (.mov (.v 5))⟩, false, []⟩,
⟨3, ⟨.v 13, none, .op (.ixa 1 (.v 11) (.v 12))⟩, false, []⟩,
⟨4, ⟨.v 14, none, .op (.ld false 1 (.v 13))⟩, false, []⟩,
⟨5, ⟨.v 15, none, .op (.fla 1 (.v 3))⟩, false, []⟩,
⟨6, ⟨.v 16, none, .op (.ld false 1 (.v 15))⟩, false, []⟩,
⟨7, ⟨.v 17, none, .op (.mov (.v 5))⟩, false, []⟩,
⟨8, ⟨.v 18, none, .op (.ixa 1 (.v 16) (.v 17))⟩, false, []⟩,
⟨9, ⟨.v 19, none, .op (.ld false 1 (.v 18))⟩, false, []⟩,
⟨10, ⟨.v 20, none, .op (.bin .lss .i64 (.v 14) (.v 19))⟩, false, []⟩,
⟨11, ⟨.v 21, none, .call 68 [(.v 20)]⟩, false, []⟩,
⟨12, ⟨.v 4, none, .op (.mov (.v 21))⟩, false, []⟩]) (
.ret)) (
.skip)))) (
.reg [⟨.l, none, .op (.mov (.v 5))⟩,
⟨.l, none, .op (.bin .add .i64 (.l 0) (.c (.int .i64 1)))⟩,
⟨.v 5, none, .op (.mov (.l 0))⟩])))))) (
.seq (
.seq (
.reg [⟨.l, none, .op (.fla 1 (.v 2))⟩,
⟨.l, none, .op (.ld false 1 (.l 0))⟩,
⟨.l, none, .op (.lens (.l 0))⟩,
⟨.l, none, .op (.fla 1 (.v 3))⟩,
⟨.l, none, .op (.ld false 1 (.l 0))⟩,
⟨.l, none, .op (.lens (.l 0))⟩,
⟨.v 9, none, .op (.bin .neq .i64 (.l 3) (.l 0))⟩]) (
.ite (.v 9) (
.seq (
.reg [⟨.l, none, .op (.fla 1 (.v 2))⟩,
⟨.l, none, .op (.ld false 1 (.l 0))⟩,
⟨.l, none, .op (.lens (.l 0))⟩,
⟨.l, none, .op (.fla 1 (.v 3))⟩,
⟨.l, none, .op (.ld false 1 (.l 0))⟩,
⟨.l, none, .op (.lens (.l 0))⟩,
⟨.l, none, .op (.bin .lss .i64 (.l 3) (.l 0))⟩,
⟨.l, none, .call 68 [(.l 0)]⟩,
⟨.v 4, none, .op (.mov (.l 0))⟩]) (
.ret)) (
.skip))) (
.seq (
.reg [⟨.v 4, none, .op (.mov (.c (.int .i64 0)))⟩]) (
.ret)))))⟩
/- 46 cayley/cayleylaw06.root -/
abbrev n_law06_root : Nat := 46
def c_law06_root : Ay.Fn := ⟨2, [some 0, some 1, none, none], [.cell 2 true 2],
.seq (
.reg [⟨.v 2, none, .op (.alc [(.int .i64 0), .nils])⟩]) (
.seq (
.reg [⟨.l, none, .op (.mov (.v 0))⟩,
⟨.l, none, .op (.mov (.v 1))⟩,
⟨.l, none, .call 15 [(.l 1), (.l 0)]⟩,
⟨.l, none, .op (.mov (.l 0))⟩,
⟨.l, none, .op (.ext (.l 0) 0)⟩,
⟨.l, none, .op (.ext (.l 1) 1)⟩,
⟨.v 3, none, .op (.alc [(.int .i64 0), .nils])⟩,
⟨.n, none, .op (.st 2 (.v 3) (.l 1))⟩,
⟨.l, none, .op (.mov (.l 0))⟩]) (
.seq (
.reg [⟨.l, none, .op (.ld true 2 (.v 3))⟩,
⟨.n, none, .op (.st 2 (.v 2) (.l 0))⟩]) (
.ret)))⟩
/- 47 cayley/cayleylaw06.bad -/
abbrev n_law06_bad : Nat := 47
def c_law06_bad : Ay.Fn := ⟨3, [some 0, some 1, some 2, none, none], [.v 4],
.seq (
.reg [⟨.v 3, none, .op (.box (.v 0))⟩,
⟨.v 4, none, .op (.mov (.c (.bool false)))⟩]) (
.seq (
.reg [⟨.l, none, .op (.mov (.v 1))⟩,
⟨.l, none, .op (.mov (.v 2))⟩,
⟨.l, none, .op (.bin .eql .i64 (.l 1) (.l 0))⟩,
⟨.l, none, .op (.mov (.l 0))⟩,
⟨.l, some ((.l 0), true), .op (.fla 0 (.v 3))⟩,
⟨.l, some ((.l 1), true), .op (.ld false 1 (.l 0))⟩,
⟨.l, some ((.l 2), true), .op (.bin .eql .i64 (.l 0) (.c (.int .i64 0)))⟩,
⟨.l, none, .op (.pick (.l 3) (.l 0) (.c (.bool false)))⟩,
⟨.l, none, .op (.mov (.l 0))⟩,
⟨.l, some ((.l 0), true), .op (.fla 1 (.v 3))⟩,
⟨.l, some ((.l 1), true), .op (.ld false 1 (.l 0))⟩,
⟨.l, some ((.l 2), true), .op (.lens (.l 0))⟩,
⟨.l, some ((.l 3), true), .op (.bin .eql .i64 (.l 0) (.c (.int .i64 0)))⟩,
⟨.l, none, .op (.pick (.l 4) (.l 0) (.c (.bool false)))⟩,
⟨.v 4, none, .op (.mov (.l 0))⟩]) (
.ret))⟩
/- 48 cayley/cyclo.begin -/
abbrev n_cyclo_begin : Nat := 48
def c_cyclo_begin : Ay.Fn := ⟨0, [none], [.v 0],
.seq (
.reg [⟨.v 0, none, .op (.mov (.c .nilp))⟩]) (
.seq (
.reg [⟨.l, none, .op (.mkm)⟩,
⟨.l, none, .op (.bld [.nilm] [(0, 1, (.l 0))])⟩,
⟨.l, none, .op (.box (.l 0))⟩,
⟨.v 0, none, .op (.mov (.l 0))⟩]) (
.ret))⟩
/- 49 (ptr cayley/cyclo.table).phi -/
abbrev n_cyclo_table_phi : Nat := 49
def c_cyclo_table_phi : Ay.Fn := ⟨2, [some 0, some 1, none, none, none, none, none, none, none, none], [.v 2],
.seq (
.reg [⟨.v 2, none, .op (.mov (.c .nils))⟩]) (
.seq (
.seq (
.reg [⟨.l, none, .op (.mov (.v 0))⟩,
⟨.l, none, .op (.nck (.l 0))⟩,
⟨.l, none, .op (.fla 0 (.l 0))⟩,
⟨.l, none, .op (.ld false 1 (.l 0))⟩,
⟨.l, none, .op (.mov (.v 1))⟩,
⟨.l, none, .op (.lkp .nils true (.l 1) (.l 0))⟩,
⟨.l, none, .op (.mov (.l 0))⟩,
⟨.l, none, .op (.ext (.l 0) 0)⟩,
⟨.l, none, .op (.ext (.l 1) 1)⟩,
⟨.v 3, none, .op (.mov (.l 1))⟩,
⟨.v 4, none, .op (.mov (.l 0))⟩]) (
.seq (
.reg [⟨.v 7, none, .op (.mov (.v 4))⟩]) (
.ite (.v 7) (
.seq (
.reg [⟨.l, none, .op (.mov (.v 3))⟩,
⟨.v 2, none, .op (.mov (.l 0))⟩]) (
.ret)) (
.skip)))) (
.seq (
.reg [⟨.l, none, .op (.mov (.v 1))⟩,
⟨.l, none, .op (.bin .add .i64 (.l 0) (.c (.int .i64 1)))⟩,
⟨.l, none, .op (.mks 1 8 [(.int .i64 0)] (.l 0) (.l 0))⟩,
⟨.v 5, none, .op (.mov (.l 0))⟩]) (
.seq (
.reg [⟨.l, none, .op (.mov (.v 5))⟩,
⟨.l, none, .op (.mov (.v 5))⟩,
⟨.l, none, .op (.mov (.v 1))⟩,
⟨.l, none, .op (.ixa 1 (.l 2) (.c (.int .i64 0)))⟩,
⟨.n, none, .op (.st 1 (.l 0) (.c (.int .i64 (-1))))⟩,
⟨.l, none, .op (.ixa 1 (.l 2) (.l 1))⟩,
⟨.n, none, .op (.st 1 (.l 0) (.c (.int .i64 1)))⟩]) (
.seq (
.seq (
.reg [⟨.v 6, none, .op (.mov (.c (.int .i64 1)))⟩]) (
.block 0 (
.loop (
.seq (
.seq (
.reg [⟨.l, none, .op (.mov (.v 6))⟩,
⟨.l, none, .op (.mov (.v 1))⟩,
⟨.v 8, none, .op (.bin .lss .i64 (.l 1) (.l 0))⟩]) (
.ite (.v 8) (
.skip) (
.exit 0))) (
.seq (
.block 1 (
.seq (
.reg [⟨.l, none, .op (.mov (.v 1))⟩,
⟨.l, none, .op (.mov (.v 6))⟩,
⟨.l, none, .op (.bin .rem .i64 (.l 1) (.l 0))⟩,
⟨.v 9, none, .op (.bin .eql .i64 (.l 0) (.c (.int .i64 0)))⟩]) (
.ite (.v 9) (
.reg [⟨.l, none, .op (.mov (.v 5))⟩,
⟨.l, none, .op (.mov (.v 0))⟩,
⟨.l, none, .op (.mov (.v 6))⟩,
⟨.l, none, .call 49 [(.l 1), (.l 0)]⟩,
⟨.l, none, .call 69 [(.l 3), (.l 0)]⟩,
⟨.l, none, .op (.mov (.l 0))⟩,
⟨.l, none, .op (.ext (.l 0) 0)⟩,
⟨.l, none, .op (.ext (.l 1) 1)⟩,
⟨.v 5, none, .op (.mov (.l 1))⟩]) (
.skip)))) (
.reg [⟨.l, none, .op (.mov (.v 6))⟩,
⟨.l, none, .op (.bin .add .i64 (.l 0) (.c (.int .i64 1)))⟩,
⟨.v 6, none, .op (.mov (.l 0))⟩])))))) (
.seq (
.reg [⟨.l, none, .op (.mov (.v 0))⟩,
⟨.l, none, .op (.nck (.l 0))⟩,
⟨.l, none, .op (.fla 0 (.l 0))⟩,
⟨.l, none, .op (.ld false 1 (.l 0))⟩,
⟨.l, none, .op (.mov (.v 1))⟩,
⟨.l, none, .op (.mov (.v 5))⟩,
⟨.n, none, .op (.mset (.l 2) (.l 1) (.l 0))⟩]) (
.seq (
.reg [⟨.l, none, .op (.mov (.v 5))⟩,
⟨.v 2, none, .op (.mov (.l 0))⟩]) (
.ret)))))))⟩
/- 50 cayley/cayleyref06.phi -/
abbrev n_ref06_phi : Nat := 50
def c_ref06_phi : Ay.Fn := ⟨1, [some 0, none, none, none, none, none, none, none, none], [.v 1],
.seq (
.reg [⟨.v 1, none, .op (.mov (.c .nils))⟩]) (
.seq (
.reg [⟨.l, none, .op (.mov (.v 0))⟩,
⟨.l, none, .op (.bin .add .i64 (.l 0) (.c (.int .i64 1)))⟩,
⟨.l, none, .op (.mks 1 24 [.nils] (.l 0) (.l 0))⟩,
⟨.v 2, none, .op (.mov (.l 0))⟩]) (
.seq (
.seq (
.reg [⟨.v 3, none, .op (.mov (.c (.int .i64 1)))⟩]) (
.block 0 (
.loop (
.seq (
.seq (
.reg [⟨.l, none, .op (.mov (.v 3))⟩,
⟨.l, none, .op (.mov (.v 0))⟩,
⟨.v 6, none, .op (.bin .leq .i64 (.l 1) (.l 0))⟩]) (
.ite (.v 6) (
.skip) (
.exit 0))) (
.seq (
.block 1 (
.seq (
.reg [⟨.l, none, .op (.mov (.v 3))⟩,
⟨.l, none, .op (.bin .add .i64 (.l 0) (.c (.int .i64 1)))⟩,
⟨.l, none, .op (.mks 1 8 [(.int .i64 0)] (.l 0) (.l 0))⟩,
⟨.v 4, none, .op (.mov (.l 0))⟩]) (
.seq (
.reg [⟨.l, none, .op (.mov (.v 4))⟩,
⟨.l, none, .op (.mov (.v 4))⟩,
⟨.l, none, .op (.mov (.v 3))⟩,
⟨.l, none, .op (.ixa 1 (.l 2) (.c (.int .i64 0)))⟩,
⟨.n, none, .op (.st 1 (.l 0) (.c (.int .i64 (-1))))⟩,
⟨.l, none, .op (.ixa 1 (.l 2) (.l 1))⟩,
⟨.n, none, .op (.st 1 (.l 0) (.c (.int .i64 1)))⟩]) (
.seq (
.seq (
.reg [⟨.v 5, none, .op (.mov (.c (.int .i64 1)))⟩]) (
.block 2 (
.loop (
.seq (
.seq (
.reg [⟨.l, none, .op (.mov (.v 5))⟩,
⟨.l, none, .op (.mov (.v 3))⟩,
⟨.l, none, .op (.bin .lss .i64 (.l 1) (.l 0))⟩,
⟨.l, none, .op (.mov (.l 0))⟩,
⟨.l, some ((.l 0), true), .op (.mov (.v 0))⟩,
⟨.l, some ((.l 1), true), .op (.mov (.v 3))⟩,
⟨.l, some ((.l 2), true), .op (.bin .rem .i64 (.l 1) (.l 0))⟩,
⟨.l, some ((.l 3), true), .op (.bin .eql .i64 (.l 0) (.c (.int .i64 0)))⟩,
⟨.v 7, none, .op (.pick (.l 4) (.l 0) (.c (.bool false)))⟩]) (
.ite (.v 7) (
.skip) (
.exit 2))) (
.seq (
.block 3 (
.seq (
.reg [⟨.l, none, .op (.mov (.v 3))⟩,
⟨.l, none, .op (.mov (.v 5))⟩,
⟨.l, none, .op (.bin .rem .i64 (.l 1) (.l 0))⟩,
⟨.v 8, none, .op (.bin .eql .i64 (.l 0) (.c (.int .i64 0)))⟩]) (
.ite (.v 8) (
.reg [⟨.l, none, .op (.mov (.v 4))⟩,
⟨.l, none, .op (.mov (.v 2))⟩,
⟨.l, none, .op (.mov (.v 5))⟩,
⟨.l, none, .op (.ixa 1 (.l 1) (.l 0))⟩,
⟨.l, none, .op (.ld false 1 (.l 0))⟩,
⟨.l, none, .call 70 [(.l 4), (.l 0)]⟩,
⟨.l, none, .op (.mov (.l 0))⟩,
⟨.l, none, .op (.ext (.l 0) 0)⟩,
⟨.l, none, .op (.ext (.l 1) 1)⟩,
⟨.v 4, none, .op (.mov (.l 1))⟩]) (
.skip)))) (
.reg [⟨.l, none, .op (.mov (.v 5))⟩,
⟨.l, none, .op (.bin .add .i64 (.l 0) (.c (.int .i64 1)))⟩,
⟨.v 5, none, .op (.mov (.l 0))⟩])))))) (
.reg [⟨.l, none, .op (.mov (.v 2))⟩,
⟨.l, none, .op (.mov (.v 3))⟩,
⟨.l, none, .op (.mov (.v 4))⟩,
⟨.l, none, .op (.ixa 1 (.l 2) (.l 1))⟩,
⟨.n, none, .op (.st 1 (.l 0) (.l 1))⟩]))))) (
.reg [⟨.l, none, .op (.mov (.v 3))⟩,
⟨.l, none, .op (.bin .add .i64 (.l 0) (.c (.int .i64 1)))⟩,
⟨.v 3, none, .op (.mov (.l 0))⟩])))))) (
.seq (
.reg [⟨.l, none, .op (.mov (.v 2))⟩,
⟨.l, none, .op (.mov (.v 0))⟩,
⟨.l, none, .op (.ixa 1 (.l 1) (.l 0))⟩,
⟨.l, none, .op (.ld false 1 (.l 0))⟩,
⟨.v 1, none, .op (.mov (.l 0))⟩]) (
.ret))))⟩
/- 51 slices.ContainsFunc[[]int,int] -/
abbrev n_slices_ContainsFunc_int_int : Nat := 51
def c_slices_ContainsFunc_int_int : Ay.Fn := ⟨2, [some 0, some 1, none], [.v 2],
.seq (
.reg [⟨.v 2, none, .op (.mov (.c (.bool false)))⟩]) (
.seq (
.reg [⟨.l, none, .op (.mov (.v 0))⟩,
⟨.l, none, .op (.mov (.v 1))⟩,
⟨.l, none, .call 71 [(.l 1), (.l 0)]⟩,
⟨.l, none, .op (.bin .geq .i64 (.l 0) (.c (.int .i64 0)))⟩,
⟨.v 2, none, .op (.mov (.l 0))⟩]) (
.ret))⟩
/- 52 cayley/cyclo.over -/
abbrev n_cyclo_over : Nat := 52
def c_cyclo_over : Ay.Fn := ⟨1, [some 0, none], [.v 1],
.seq (
.reg [⟨.v 1, none, .op (.mov (.c (.bool false)))⟩]) (
.seq (
.reg [⟨.l, none, .op (.mov (.v 0))⟩,
⟨.l, none, .op (.bin .lss .i64 (.l 0) (.c (.int .i64 (-10000000))))⟩,
⟨.l, none, .op (.mov (.l 0))⟩,
⟨.l, some ((.l 0), false), .op (.mov (.v 0))⟩,
⟨.l, some ((.l 1), false), .op (.bin .gtr .i64 (.l 0) (.c (.int .i64 10000000)))⟩,
⟨.l, none, .op (.pick (.l 2) (.c (.bool true)) (.l 0))⟩,
⟨.v 1, none, .op (.mov (.l 0))⟩]) (
.ret))⟩
/- 53 cayley/cyclo.made -/
abbrev n_cyclo_made : Nat := 53
def c_cyclo_made : Ay.Fn := ⟨2, [some 0, some 1, none, none, none, none, none], [.cell 2 true 2, .v 3],
.seq (
.reg [⟨.v 2, none, .op (.alc [(.int .i64 0), .nils])⟩,
⟨.v 3, none, .op (.mov (.c (.int .i64 0)))⟩]) (
.seq (
.reg [⟨.l, none, .call 48 []⟩,
⟨.v 4, none, .op (.mov (.l 0))⟩]) (
.seq (
.reg [⟨.l, none, .op (.mov (.v 4))⟩,
⟨.l, none, .op (.mov (.v 0))⟩,
⟨.l, none, .op (.mov (.v 4))⟩,
⟨.l, none, .op (.mov (.v 0))⟩,
⟨.l, none, .op (.mov (.v 1))⟩,
⟨.l, none, .call 72 [(.l 2), (.l 1), (.l 0)]⟩,
⟨.l, none, .call 58 [(.l 5), (.l 4), (.l 0)]⟩,
⟨.v 5, none, .op (.alc [(.int .i64 0), .nils])⟩,
⟨.n, none, .op (.st 2 (.v 5) (.l 0))⟩]) (
.seq (
.seq (
.reg [⟨.l, none, .op (.fla 1 (.v 5))⟩,
⟨.l, none, .op (.ld false 1 (.l 0))⟩,
⟨.v 6, none, .call 51 [(.l 0), (.c (.fn 52 [] []))]⟩]) (
.ite (.v 6) (
.seq (
.reg [⟨.l, none, .op (.bld [(.int .i64 0), .nils] [])⟩,
⟨.n, none, .op (.st 2 (.v 2) (.l 0))⟩,
⟨.v 3, none, .op (.mov (.c (.int .i64 5)))⟩]) (
.ret)) (
.skip))) (
.seq (
.reg [⟨.l, none, .op (.ld true 2 (.v 5))⟩,
⟨.n, none, .op (.st 2 (.v 2) (.l 0))⟩,
⟨.v 3, none, .op (.mov (.c (.int .i64 0)))⟩]) (
.ret)))))⟩
/- 54 cayley/cayleyref06.over -/
abbrev n_ref06_over : Nat := 54
def c_ref06_over : Ay.Fn := ⟨1, [some 0, none, none, none, none], [.v 1],
.seq (
.reg [⟨.v 1, none, .op (.mov (.c (.bool false)))⟩]) (
.seq (
.seq (
.reg [⟨.v 2, none, .op (.mov (.c (.int .i64 0)))⟩]) (
.block 0 (
.loop (
.seq (
.seq (
.reg [⟨.l, none, .op (.mov (.v 2))⟩,
⟨.l, none, .op (.mov (.v 0))⟩,
⟨.l, none, .op (.lens (.l 0))⟩,
⟨.v 3, none, .op (.bin .lss .i64 (.l 2) (.l 0))⟩]) (
.ite (.v 3) (
.skip) (
.exit 0))) (
.seq (
.block 1 (
.seq (
.reg [⟨.l, none, .op (.mov (.v 0))⟩,
⟨.l, none, .op (.mov (.v 2))⟩,
⟨.l, none, .op (.ixa 1 (.l 1) (.l 0))⟩,
⟨.l, none, .op (.ld false 1 (.l 0))⟩,
⟨.l, none, .op (.bin .lss .i64 (.l 0) (.c (.int .i64 (-10000000))))⟩,
⟨.l, none, .op (.mov (.l 0))⟩,
⟨.l, some ((.l 0), false), .op (.mov (.v 0))⟩,
⟨.l, some ((.l 1), false), .op (.mov (.v 2))⟩,
⟨.l, some ((.l 2), false), .op (.ixa 1 (.l 1) (.l 0))⟩,
⟨.l, some ((.l 3), false), .op (.ld false 1 (.l 0))⟩,
⟨.l, some ((.l 4), false), .op (.bin .gtr .i64 (.l 0) (.c (.int .i64 10000000)))⟩,
⟨.v 4, none, .op (.pick (.l 5) (.c (.bool true)) (.l 0))⟩]) (
.ite (.v 4) (
.seq (
.reg [⟨.v 1, none, .op (.mov (.c (.bool true)))⟩]) (
.ret)) (
.skip)))) (
.reg [⟨.l, none, .op (.mov (.v 2))⟩,
⟨.l, none, .op (.bin .add .i64 (.l 0) (.c (.int .i64 1)))⟩,
⟨.v 2, none, .op (.mov (.l 0))⟩])))))) (
.seq (
.reg [⟨.v 1, none, .op (.mov (.c (.bool false)))⟩]) (
.ret)))⟩
/- 55 cayley/cayleyref06.add -/
abbrev n_ref06_add : Nat := 55
def c_ref06_add : Ay.Fn := ⟨3, [some 0, some 1, some 2], [],
.seq (
.reg [⟨.l, none, .op (.mov (.v 1))⟩,
⟨.l, none, .op (.mov (.v 0))⟩,
⟨.l, none, .op (.lens (.l 0))⟩,
⟨.l, none, .call 22 [(.l 2), (.l 0)]⟩,
⟨.v 1, none, .op (.mov (.l 0))⟩]) (
.reg [⟨.l, none, .op (.mov (.v 0))⟩,
⟨.l, none, .op (.mov (.v 1))⟩,
⟨.l, none, .op (.mov (.v 0))⟩,
⟨.l, none, .op (.mov (.v 1))⟩,
⟨.l, none, .op (.ixa 1 (.l 1) (.l 0))⟩,
⟨.l, none, .op (.ld false 1 (.l 0))⟩,
⟨.l, none, .op (.mov (.v 2))⟩,
⟨.l, none, .op (.bin .add .i64 (.l 1) (.l 0))⟩,
⟨.l, none, .op (.ixa 1 (.l 7) (.l 6))⟩,
⟨.n, none, .op (.st 1 (.l 0) (.l 1))⟩])⟩
/- 56 cayley/cayleyref06.made -/
abbrev n_ref06_made : Nat := 56
def c_ref06_made : Ay.Fn := ⟨2, [some 0, some 1, none, none, none, none], [.cell 2 true 2, .v 3],
.seq (
.reg [⟨.v 2, none, .op (.alc [(.int .i64 0), .nils])⟩,
⟨.v 3, none, .op (.mov (.c (.int .i64 0)))⟩]) (
.seq (
.reg [⟨.l, none, .op (.mov (.v 0))⟩,
⟨.l, none, .op (.mov (.v 0))⟩,
⟨.l, none, .op (.mov (.v 1))⟩,
⟨.l, none, .call 73 [(.l 1), (.l 0)]⟩,
⟨.l, none, .call 64 [(.l 3), (.l 0)]⟩,
⟨.v 4, none, .op (.alc [(.int .i64 0), .nils])⟩,
⟨.n, none, .op (.st 2 (.v 4) (.l 0))⟩]) (
.seq (
.seq (
.reg [⟨.l, none, .op (.fla 1 (.v 4))⟩,
⟨.l, none, .op (.ld false 1 (.l 0))⟩,
⟨.v 5, none, .call 54 [(.l 0)]⟩]) (
.ite (.v 5) (
.seq (
.reg [⟨.l, none, .op (.bld [(.int .i64 0), .nils] [])⟩,
⟨.n, none, .op (.st 2 (.v 2) (.l 0))⟩,
⟨.v 3, none, .op (.mov (.c (.int .i64 5)))⟩]) (
.ret)) (
.skip))) (
.seq (
.reg [⟨.l, none, .op (.ld true 2 (.v 4))⟩,
⟨.n, none, .op (.st 2 (.v 2) (.l 0))⟩,
⟨.v 3, none, .op (.mov (.c (.int .i64 0)))⟩]) (
.ret))))⟩
/- 57 cayley/cyclo.residue -/
abbrev n_cyclo_residue : Nat := 57
def c_cyclo_residue : Ay.Fn := ⟨2, [some 0, some 1, none], [.v 2],
.seq (
.reg [⟨.v 2, none, .op (.mov (.c (.int .i64 0)))⟩]) (
.seq (
.reg [⟨.l, none, .op (.mov (.v 0))⟩,
⟨.l, none, .op (.mov (.v 1))⟩,
⟨.l, none, .op (.bin .rem .i64 (.l 1) (.l 0))⟩,
⟨.l, none, .op (.mov (.v 1))⟩,
⟨.l, none, .op (.bin .add .i64 (.l 1) (.l 0))⟩,
⟨.l, none, .op (.mov (.v 1))⟩,
⟨.l, none, .op (.bin .rem .i64 (.l 1) (.l 0))⟩,
⟨.v 2, none, .op (.mov (.l 0))⟩]) (
.ret))⟩
/- 58 (ptr cayley/cyclo.table).least -/
abbrev n_cyclo_table_least : Nat := 58
def c_cyclo_table_least : Ay.Fn := ⟨3, [some 0, some 1, some 2, none, none, none, none, none, none, none, none, none, none], [.cell 6 true 2],
.seq (
.reg [⟨.v 3, none, .op (.box (.v 0))⟩,
⟨.v 4, none, .op (.box (.v 1))⟩,
⟨.v 5, none, .op (.box (.v 2))⟩,
⟨.v 6, none, .op (.alc [(.int .i64 0), .nils])⟩]) (
.scope (
.seq (
.skip) (
.block 0 (
.loop (
.block 1 (
.seq (
.seq (
.reg [⟨.l, none, .op (.ld false 1 (.v 4))⟩,
⟨.v 10, none, .call 74 [(.l 0)]⟩]) (
.block 2 (
.range (.v 10) [11] (
.reg [⟨.v 7, none, .op (.mov (.v 11))⟩]) (
.block 3 (
.seq (
.reg [⟨.l, none, .op (.ld false 1 (.v 3))⟩,
⟨.l, none, .op (.ld false 1 (.v 4))⟩,
⟨.l, none, .op (.mov (.v 7))⟩,
⟨.l, none, .op (.ld false 1 (.v 5))⟩,
⟨.l, none, .call 75 [(.l 3), (.l 2), (.l 1), (.l 0)]⟩,
⟨.l, none, .op (.mov (.l 0))⟩,
⟨.l, none, .op (.ext (.l 0) 0)⟩,
⟨.l, none, .op (.ext (.l 1) 1)⟩,
⟨.v 8, none, .op (.mov (.l 1))⟩,
⟨.v 9, none, .op (.mov (.l 0))⟩]) (
.seq (
.reg [⟨.v 12, none, .op (.mov (.v 9))⟩]) (
.ite (.v 12) (
.seq (
.reg [⟨.l, none, .op (.ld false 1 (.v 4))⟩,
⟨.l, none, .op (.mov (.v 7))⟩,
⟨.l, none, .op (.bin .quo .i64 (.l 1) (.l 0))⟩,
⟨.l, none, .op (.mov (.v 8))⟩,
⟨.n, none, .op (.st 1 (.v 4) (.l 1))⟩,
⟨.n, none, .op (.st 1 (.v 5) (.l 0))⟩]) (
.exit 1)) (
.skip)))))))) (
.seq (
.reg [⟨.l, none, .op (.ld false 1 (.v 4))⟩,
⟨.l, none, .op (.ld false 1 (.v 5))⟩,
⟨.l, none, .op (.bld [(.int .i64 0), .nils] [(0, 1, (.l 1)), (1, 1, (.l 0))])⟩,
⟨.n, none, .op (.st 2 (.v 6) (.l 0))⟩]) (
.ret))))))))⟩
/- 59 cayley/cyclo.gcd -/
abbrev n_cyclo_gcd : Nat := 59
def c_cyclo_gcd : Ay.Fn := ⟨2, [some 0, some 1, none, none], [.v 2],
.seq (
.reg [⟨.v 2, none, .op (.mov (.c (.int .i64 0)))⟩]) (
.seq (
.block 0 (
.loop (
.seq (
.seq (
.reg [⟨.l, none, .op (.mov (.v 1))⟩,
⟨.v 3, none, .op (.bin .gtr .i64 (.l 0) (.c (.int .i64 0)))⟩]) (
.ite (.v 3) (
.skip) (
.exit 0))) (
.block 1 (
.any 6 4 [⟨0, ⟨.v 4, none, .op (.mov (.v 1))⟩, false, []⟩,
⟨1, ⟨.v 5, none, .op (.mov (.v 0))⟩, false, []⟩,
⟨2, ⟨.v 6, none, .op (.mov (.v 1))⟩, false, []⟩,
⟨3, ⟨.v 7, none, .op (.bin .rem .i64 (.v 5) (.v 6))⟩, false, []⟩,
⟨4, ⟨.v 0, none, .op (.mov (.v 4))⟩, false, []⟩,
⟨5, ⟨.v 1, none, .op (.mov (.v 7))⟩, false, []⟩]))))) (
.seq (
.reg [⟨.l, none, .op (.mov (.v 0))⟩,
⟨.v 2, none, .op (.mov (.l 0))⟩]) (
.ret)))⟩
/- 60 cayley/cyclo.common -/
abbrev n_cyclo_common : Nat := 60
def c_cyclo_common : Ay.Fn := ⟨2, [some 0, some 1, none, none, none, none, none, none, none, none], [.v 4, .v 5],
.seq (
.reg [⟨.v 2, none, .op (.box (.v 0))⟩,
⟨.v 3, none, .op (.box (.v 1))⟩,
⟨.v 4, none, .op (.mov (.c (.int .i64 0)))⟩,
⟨.v 5, none, .op (.mov (.c (.int .i64 0)))⟩]) (
.seq (
.seq (
.any 7 6 [⟨0, ⟨.v 10, none, .op (.ld true 2 (.v 2))⟩, false, []⟩,
⟨2, ⟨.v 12, none, .op (.ld true 2 (.v 3))⟩, false, []⟩,
⟨1, ⟨.v 11, none, .call 24 [(.v 10)]⟩, false, [2]⟩,
⟨3, ⟨.v 13, none, .call 24 [(.v 12)]⟩, false, []⟩,
⟨4, ⟨.v 14, none, .op (.bls 1 [(.int .i64 0)] 2 [(0, 1, (.v 11)), (1, 1, (.v 13))])⟩, true, []⟩,
⟨5, ⟨.v 15, none, .call 76 [(.v 14)]⟩, false, []⟩,
⟨6, ⟨.v 6, none, .op (.mov (.v 15))⟩, false, []⟩]) (
.seq (
.reg [⟨.l, none, .op (.mov (.v 6))⟩,
⟨.v 8, none, .op (.bin .neq .i64 (.l 0) (.c (.int .i64 0)))⟩]) (
.ite (.v 8) (
.seq (
.reg [⟨.l, none, .op (.mov (.v 6))⟩,
⟨.v 4, none, .op (.mov (.c (.int .i64 0)))⟩,
⟨.v 5, none, .op (.mov (.l 0))⟩]) (
.ret)) (
.skip)))) (
.seq (
.any 12 11 [⟨0, ⟨.v 10, none, .op (.fla 0 (.v 2))⟩, false, []⟩,
⟨1, ⟨.v 11, none, .op (.ld false 1 (.v 10))⟩, false, []⟩,
⟨2, ⟨.v 12, none, .op (.fla 0 (.v 2))⟩, false, []⟩,
⟨3, ⟨.v 13, none, .op (.ld false 1 (.v 12))⟩, false, []⟩,
⟨4, ⟨.v 14, none, .op (.fla 0 (.v 3))⟩, false, []⟩,
⟨5, ⟨.v 15, none, .op (.ld false 1 (.v 14))⟩, false, []⟩,
⟨8, ⟨.v 18, none, .op (.fla 0 (.v 3))⟩, false, []⟩,
⟨9, ⟨.v 19, none, .op (.ld false 1 (.v 18))⟩, false, []⟩,
⟨6, ⟨.v 16, none, .call 59 [(.v 13), (.v 15)]⟩, false, [9, 1]⟩,
⟨7, ⟨.v 17, none, .op (.bin .quo .i64 (.v 11) (.v 16))⟩, false, []⟩,
⟨10, ⟨.v 20, none, .op (.bin .mul .i64 (.v 17) (.v 19))⟩, false, []⟩,
⟨11, ⟨.v 7, none, .op (.mov (.v 20))⟩, false, []⟩]) (
.seq (
.seq (
.reg [⟨.l, none, .op (.mov (.v 7))⟩,
⟨.v 9, none, .op (.bin .gtr .i64 (.l 0) (.c (.int .i64 120)))⟩]) (
.ite (.v 9) (
.seq (
.reg [⟨.v 4, none, .op (.mov (.c (.int .i64 0)))⟩,
⟨.v 5, none, .op (.mov (.c (.int .i64 5)))⟩]) (
.ret)) (
.skip))) (
.seq (
.reg [⟨.l, none, .op (.mov (.v 7))⟩,
⟨.v 4, none, .op (.mov (.l 0))⟩,
⟨.v 5, none, .op (.mov (.c (.int .i64 0)))⟩]) (
.ret)))))⟩
/- 61 slices.Clone[[]int,int] -/
abbrev n_slices_Clone_int_int : Nat := 61
def c_slices_Clone_int_int : Ay.Fn := ⟨1, [some 0, none, none], [.v 1],
.seq (
.reg [⟨.v 1, none, .op (.mov (.c .nils))⟩]) (
.seq (
.seq (
.reg [⟨.l, none, .op (.mov (.v 0))⟩,
⟨.v 2, none, .op (.snil false (.l 0))⟩]) (
.ite (.v 2) (
.seq (
.reg [⟨.v 1, none, .op (.mov (.c .nils))⟩]) (
.ret)) (
.skip))) (
.seq (
.reg [⟨.l, none, .op (.bls 1 [(.int .i64 0)] 0 [])⟩,
⟨.l, none, .op (.mov (.v 0))⟩,
⟨.l, none, .op (.app 1 8 (.l 1) (.l 0))⟩,
⟨.v 1, none, .op (.mov (.l 0))⟩]) (
.ret)))⟩
/- 62 cayley/cayleyref06.both -/
abbrev n_ref06_both : Nat := 62
def c_ref06_both : Ay.Fn := ⟨2, [some 0, some 1, none, none, none, none, none, none, none, none, none, none], [.v 4, .v 5],
.seq (
.reg [⟨.v 2, none, .op (.box (.v 0))⟩,
⟨.v 3, none, .op (.box (.v 1))⟩,
⟨.v 4, none, .op (.mov (.c (.int .i64 0)))⟩,
⟨.v 5, none, .op (.mov (.c (.int .i64 0)))⟩]) (
.seq (
.seq (
.reg [⟨.l, none, .op (.ld true 2 (.v 2))⟩,
⟨.l, none, .call 43 [(.l 0)]⟩,
⟨.v 6, none, .op (.mov (.l 0))⟩]) (
.seq (
.reg [⟨.l, none, .op (.mov (.v 6))⟩,
⟨.v 9, none, .op (.bin .neq .i64 (.l 0) (.c (.int .i64 0)))⟩]) (
.ite (.v 9) (
.seq (
.reg [⟨.l, none, .op (.mov (.v 6))⟩,
⟨.v 4, none, .op (.mov (.c (.int .i64 0)))⟩,
⟨.v 5, none, .op (.mov (.l 0))⟩]) (
.ret)) (
.skip)))) (
.seq (
.seq (
.reg [⟨.l, none, .op (.ld true 2 (.v 3))⟩,
⟨.l, none, .call 43 [(.l 0)]⟩,
⟨.v 7, none, .op (.mov (.l 0))⟩]) (
.seq (
.reg [⟨.l, none, .op (.mov (.v 7))⟩,
⟨.v 10, none, .op (.bin .neq .i64 (.l 0) (.c (.int .i64 0)))⟩]) (
.ite (.v 10) (
.seq (
.reg [⟨.l, none, .op (.mov (.v 7))⟩,
⟨.v 4, none, .op (.mov (.c (.int .i64 0)))⟩,
⟨.v 5, none, .op (.mov (.l 0))⟩]) (
.ret)) (
.skip)))) (
.seq (
.any 12 11 [⟨0, ⟨.v 12, none, .op (.fla 0 (.v 2))⟩, false, []⟩,
⟨1, ⟨.v 13, none, .op (.ld false 1 (.v 12))⟩, false, []⟩,
⟨2, ⟨.v 14, none, .op (.fla 0 (.v 2))⟩, false, []⟩,
⟨3, ⟨.v 15, none, .op (.ld false 1 (.v 14))⟩, false, []⟩,
⟨4, ⟨.v 16, none, .op (.fla 0 (.v 3))⟩, false, []⟩,
⟨5, ⟨.v 17, none, .op (.ld false 1 (.v 16))⟩, false, []⟩,
⟨8, ⟨.v 20, none, .op (.fla 0 (.v 3))⟩, false, []⟩,
⟨9, ⟨.v 21, none, .op (.ld false 1 (.v 20))⟩, false, []⟩,
⟨6, ⟨.v 18, none, .call 63 [(.v 15), (.v 17)]⟩, false, [9, 1]⟩,
⟨7, ⟨.v 19, none, .op (.bin .quo .i64 (.v 13) (.v 18))⟩, false, []⟩,
⟨10, ⟨.v 22, none, .op (.bin .mul .i64 (.v 19) (.v 21))⟩, false, []⟩,
⟨11, ⟨.v 8, none, .op (.mov (.v 22))⟩, false, []⟩]) (
.seq (
.seq (
.reg [⟨.l, none, .op (.mov (.v 8))⟩,
⟨.v 11, none, .op (.bin .gtr .i64 (.l 0) (.c (.int .i64 120)))⟩]) (
.ite (.v 11) (
.seq (
.reg [⟨.v 4, none, .op (.mov (.c (.int .i64 0)))⟩,
⟨.v 5, none, .op (.mov (.c (.int .i64 5)))⟩]) (
.ret)) (
.skip))) (
.seq (
.reg [⟨.l, none, .op (.mov (.v 8))⟩,
⟨.v 4, none, .op (.mov (.l 0))⟩,
⟨.v 5, none, .op (.mov (.c (.int .i64 0)))⟩]) (
.ret))))))⟩
/- 63 cayley/cayleyref06.gcd -/
abbrev n_ref06_gcd : Nat := 63
def c_ref06_gcd : Ay.Fn := ⟨2, [some 0, some 1, none, none], [.v 2],
.seq (
.reg [⟨.v 2, none, .op (.mov (.c (.int .i64 0)))⟩]) (
.seq (
.block 0 (
.loop (
.seq (
.seq (
.reg [⟨.l, none, .op (.mov (.v 1))⟩,
⟨.v 3, none, .op (.bin .neq .i64 (.l 0) (.c (.int .i64 0)))⟩]) (
.ite (.v 3) (
.skip) (
.exit 0))) (
.block 1 (
.any 6 4 [⟨0, ⟨.v 4, none, .op (.mov (.v 1))⟩, false, []⟩,
⟨1, ⟨.v 5, none, .op (.mov (.v 0))⟩, false, []⟩,
⟨2, ⟨.v 6, none, .op (.mov (.v 1))⟩, false, []⟩,
⟨3, ⟨.v 7, none, .op (.bin .rem .i64 (.v 5) (.v 6))⟩, false, []⟩,
⟨4, ⟨.v 0, none, .op (.mov (.v 4))⟩, false, []⟩,
⟨5, ⟨.v 1, none, .op (.mov (.v 7))⟩, false, []⟩]))))) (
.seq (
.reg [⟨.l, none, .op (.mov (.v 0))⟩,
⟨.v 2, none, .op (.mov (.l 0))⟩]) (
.ret)))⟩
/- 64 cayley/cayleyref06.least -/
abbrev n_ref06_least : Nat := 64
def c_ref06_least : Ay.Fn := ⟨2, [some 0, some 1, none, none, none, none, none, none, none, none, none, none, none], [.cell 2 true 2],
.seq (
.reg [⟨.v 2, none, .op (.alc [(.int .i64 0), .nils])⟩]) (
.seq (
.seq (
.reg [⟨.v 3, none, .op (.mov (.c (.int .i64 2)))⟩]) (
.block 0 (
.loop (
.seq (
.seq (
.reg [⟨.l, none, .op (.mov (.v 3))⟩,
⟨.l, none, .op (.mov (.v 0))⟩,
⟨.v 8, none, .op (.bin .leq .i64 (.l 1) (.l 0))⟩]) (
.ite (.v 8) (
.skip) (
.exit 0))) (
.seq (
.block 1 (
.seq (
.seq (
.reg [⟨.l, none, .op (.mov (.v 0))⟩,
⟨.l, none, .op (.mov (.v 3))⟩,
⟨.l, none, .op (.bin .rem .i64 (.l 1) (.l 0))⟩,
⟨.v 9, none, .op (.bin .neq .i64 (.l 0) (.c (.int .i64 0)))⟩]) (
.ite (.v 9) (
.exit 1) (
.skip))) (
.seq (
.reg [⟨.v 4, none, .op (.mov (.c (.bool true)))⟩]) (
.seq (
.seq (
.reg [⟨.v 5, none, .op (.mov (.c (.int .i64 2)))⟩]) (
.block 2 (
.loop (
.seq (
.seq (
.reg [⟨.l, none, .op (.mov (.v 5))⟩,
⟨.l, none, .op (.mov (.v 3))⟩,
⟨.v 10, none, .op (.bin .lss .i64 (.l 1) (.l 0))⟩]) (
.ite (.v 10) (
.skip) (
.exit 2))) (
.seq (
.block 3 (
.reg [⟨.l, none, .op (.mov (.v 4))⟩,
⟨.l, none, .op (.mov (.l 0))⟩,
⟨.l, some ((.l 0), true), .op (.mov (.v 3))⟩,
⟨.l, some ((.l 1), true), .op (.mov (.v 5))⟩,
⟨.l, some ((.l 2), true), .op (.bin .rem .i64 (.l 1) (.l 0))⟩,
⟨.l, some ((.l 3), true), .op (.bin .neq .i64 (.l 0) (.c (.int .i64 0)))⟩,
⟨.l, none, .op (.pick (.l 4) (.l 0) (.c (.bool false)))⟩,
⟨.v 4, none, .op (.mov (.l 0))⟩])) (
.reg [⟨.l, none, .op (.mov (.v 5))⟩,
⟨.l, none, .op (.bin .add .i64 (.l 0) (.c (.int .i64 1)))⟩,
⟨.v 5, none, .op (.mov (.l 0))⟩])))))) (
.seq (
.seq (
.reg [⟨.l, none, .op (.mov (.v 4))⟩,
⟨.v 11, none, .op (.not (.l 0))⟩]) (
.ite (.v 11) (
.exit 1) (
.skip))) (
.seq (
.reg [⟨.l, none, .op (.mov (.v 0))⟩,
⟨.l, none, .op (.mov (.v 3))⟩,
⟨.l, none, .op (.mov (.v 1))⟩,
⟨.l, none, .call 77 [(.l 2), (.l 1), (.l 0)]⟩,
⟨.l, none, .op (.mov (.l 0))⟩,
⟨.l, none, .op (.ext (.l 0) 0)⟩,
⟨.l, none, .op (.ext (.l 1) 1)⟩,
⟨.v 6, none, .op (.mov (.l 1))⟩,
⟨.v 7, none, .op (.mov (.l 0))⟩]) (
.seq (
.reg [⟨.v 12, none, .op (.mov (.v 7))⟩]) (
.ite (.v 12) (
.seq (
.reg [⟨.l, none, .op (.mov (.v 0))⟩,
⟨.l, none, .op (.mov (.v 3))⟩,
⟨.l, none, .op (.bin .quo .i64 (.l 1) (.l 0))⟩,
⟨.l, none, .op (.mov (.v 6))⟩,
⟨.l, none, .call 64 [(.l 1), (.l 0)]⟩,
⟨.n, none, .op (.st 2 (.v 2) (.l 0))⟩]) (
.ret)) (
.skip))))))))) (
.reg [⟨.l, none, .op (.mov (.v 3))⟩,
⟨.l, none, .op (.bin .add .i64 (.l 0) (.c (.int .i64 1)))⟩,
⟨.v 3, none, .op (.mov (.l 0))⟩])))))) (
.seq (
.reg [⟨.l, none, .op (.mov (.v 0))⟩,
⟨.l, none, .op (.mov (.v 1))⟩,
⟨.l, none, .op (.bld [(.int .i64 0), .nils] [(0, 1, (.l 1)), (1, 1, (.l 0))])⟩,
⟨.n, none, .op (.st 2 (.v 2) (.l 0))⟩]) (
.ret)))⟩
/- 65 cmp.Or[int] -/
abbrev n_cmp_Or_int : Nat := 65
def c_cmp_Or_int : Ay.Fn := ⟨1, [some 0, none, none, none, none, none, none, none, none], [.v 1],
.seq (
.reg [⟨.v 1, none, .op (.mov (.c (.int .i64 0)))⟩]) (
.seq (
.reg [⟨.v 2, none, .op (.mov (.c (.int .i64 0)))⟩]) (
.seq (
.seq (
.reg [⟨.v 4, none, .op (.mov (.v 0))⟩,
⟨.v 5, none, .op (.lens (.v 4))⟩,
⟨.v 6, none, .op (.mov (.c (.int .i64 0)))⟩]) (
.block 0 (
.loop (
.seq (
.reg [⟨.v 7, none, .op (.bin .lss .i64 (.v 6) (.v 5))⟩]) (
.seq (
.ite (.v 7) (
.skip) (
.exit 0)) (
.seq (
.block 1 (
.seq (
.reg [⟨.l, none, .op (.ixa 1 (.v 4) (.v 6))⟩,
⟨.l, none, .op (.ld false 1 (.l 0))⟩,
⟨.v 3, none, .op (.mov (.l 0))⟩]) (
.seq (
.reg [⟨.l, none, .op (.mov (.v 3))⟩,
⟨.l, none, .op (.mov (.v 2))⟩,
⟨.v 8, none, .op (.bin .neq .i64 (.l 1) (.l 0))⟩]) (
.ite (.v 8) (
.seq (
.reg [⟨.l, none, .op (.mov (.v 3))⟩,
⟨.v 1, none, .op (.mov (.l 0))⟩]) (
.ret)) (
.skip))))) (
.reg [⟨.l, none, .op (.bin .add .i64 (.v 6) (.c (.int .i64 1)))⟩,
⟨.v 6, none, .op (.mov (.l 0))⟩]))))))) (
.seq (
.reg [⟨.l, none, .op (.mov (.v 2))⟩,
⟨.v 1, none, .op (.mov (.l 0))⟩]) (
.ret))))⟩
/- 66 cmp.Compare[int] -/
abbrev n_cmp_Compare_int : Nat := 66
def c_cmp_Compare_int : Ay.Fn := ⟨2, [some 0, some 1, none, none, none, none, none, none, none, none], [.v 2],
.seq (
.reg [⟨.v 2, none, .op (.mov (.c (.int .i64 0)))⟩]) (
.seq (
.reg [⟨.l, none, .op (.mov (.v 0))⟩,
⟨.l, none, .call 78 [(.l 0)]⟩,
⟨.v 3, none, .op (.mov (.l 0))⟩]) (
.seq (
.reg [⟨.l, none, .op (.mov (.v 1))⟩,
⟨.l, none, .call 78 [(.l 0)]⟩,
⟨.v 4, none, .op (.mov (.l 0))⟩]) (
.seq (
.seq (
.reg [⟨.v 5, none, .op (.mov (.v 3))⟩]) (
.ite (.v 5) (
.seq (
.seq (
.reg [⟨.v 6, none, .op (.mov (.v 4))⟩]) (
.ite (.v 6) (
.seq (
.reg [⟨.v 2, none, .op (.mov (.c (.int .i64 0)))⟩]) (
.ret)) (
.skip))) (
.seq (
.reg [⟨.v 2, none, .op (.mov (.c (.int .i64 (-1))))⟩]) (
.ret))) (
.skip))) (
.seq (
.seq (
.reg [⟨.v 7, none, .op (.mov (.v 4))⟩]) (
.ite (.v 7) (
.seq (
.reg [⟨.v 2, none, .op (.mov (.c (.int .i64 1)))⟩]) (
.ret)) (
.skip))) (
.seq (
.seq (
.reg [⟨.l, none, .op (.mov (.v 0))⟩,
⟨.l, none, .op (.mov (.v 1))⟩,
⟨.v 8, none, .op (.bin .lss .i64 (.l 1) (.l 0))⟩]) (
.ite (.v 8) (
.seq (
.reg [⟨.v 2, none, .op (.mov (.c (.int .i64 (-1))))⟩]) (
.ret)) (
.skip))) (
.seq (
.seq (
.reg [⟨.l, none, .op (.mov (.v 0))⟩,
⟨.l, none, .op (.mov (.v 1))⟩,
⟨.v 9, none, .op (.bin .gtr .i64 (.l 1) (.l 0))⟩]) (
.ite (.v 9) (
.seq (
.reg [⟨.v 2, none, .op (.mov (.c (.int .i64 1)))⟩]) (
.ret)) (
.skip))) (
.seq (
.reg [⟨.v 2, none, .op (.mov (.c (.int .i64 0)))⟩]) (
.ret))))))))⟩
/- 67 slices.Compare[[]int,int] -/
abbrev n_slices_Compare_int_int : Nat := 67
def c_slices_Compare_int_int : Ay.Fn := ⟨2, [some 0, some 1, none, none, none, none, none, none, none, none, none, none, none, none], [.v 2],
.seq (
.reg [⟨.v 2, none, .op (.mov (.c (.int .i64 0)))⟩]) (
.seq (
.seq (
.reg [⟨.v 7, none, .op (.mov (.v 0))⟩,
⟨.v 8, none, .op (.lens (.v 7))⟩,
⟨.v 9, none, .op (.mov (.c (.int .i64 0)))⟩]) (
.block 0 (
.loop (
.seq (
.reg [⟨.v 10, none, .op (.bin .lss .i64 (.v 9) (.v 8))⟩]) (
.seq (
.ite (.v 10) (
.skip) (
.exit 0)) (
.seq (
.block 1 (
.seq (
.reg [⟨.l, none, .op (.mov (.v 9))⟩,
⟨.l, none, .op (.ixa 1 (.v 7) (.v 9))⟩,
⟨.l, none, .op (.ld false 1 (.l 0))⟩,
⟨.v 3, none, .op (.mov (.l 2))⟩,
⟨.v 4, none, .op (.mov (.l 0))⟩]) (
.seq (
.seq (
.reg [⟨.l, none, .op (.mov (.v 3))⟩,
⟨.l, none, .op (.mov (.v 1))⟩,
⟨.l, none, .op (.lens (.l 0))⟩,
⟨.v 11, none, .op (.bin .geq .i64 (.l 2) (.l 0))⟩]) (
.ite (.v 11) (
.seq (
.reg [⟨.v 2, none, .op (.mov (.c (.int .i64 1)))⟩]) (
.ret)) (
.skip))) (
.seq (
.reg [⟨.l, none, .op (.mov (.v 1))⟩,
⟨.l, none, .op (.mov (.v 3))⟩,
⟨.l, none, .op (.ixa 1 (.l 1) (.l 0))⟩,
⟨.l, none, .op (.ld false 1 (.l 0))⟩,
⟨.v 5, none, .op (.mov (.l 0))⟩]) (
.seq (
.reg [⟨.l, none, .op (.mov (.v 4))⟩,
⟨.l, none, .op (.mov (.v 5))⟩,
⟨.l, none, .call 66 [(.l 1), (.l 0)]⟩,
⟨.v 6, none, .op (.mov (.l 0))⟩]) (
.seq (
.reg [⟨.l, none, .op (.mov (.v 6))⟩,
⟨.v 12, none, .op (.bin .neq .i64 (.l 0) (.c (.int .i64 0)))⟩]) (
.ite (.v 12) (
.seq (
.reg [⟨.l, none, .op (.mov (.v 6))⟩,
⟨.v 2, none, .op (.mov (.l 0))⟩]) (
.ret)) (
.skip)))))))) (
.reg [⟨.l, none, .op (.bin .add .i64 (.v 9) (.c (.int .i64 1)))⟩,
⟨.v 9, none, .op (.mov (.l 0))⟩]))))))) (
.seq (
.seq (
.reg [⟨.l, none, .op (.mov (.v 0))⟩,
⟨.l, none, .op (.lens (.l 0))⟩,
⟨.l, none, .op (.mov (.v 1))⟩,
⟨.l, none, .op (.lens (.l 0))⟩,
⟨.v 13, none, .op (.bin .lss .i64 (.l 2) (.l 0))⟩]) (
.ite (.v 13) (
.seq (
.reg [⟨.v 2, none, .op (.mov (.c (.int .i64 (-1))))⟩]) (
.ret)) (
.skip))) (
.seq (
.reg [⟨.v 2, none, .op (.mov (.c (.int .i64 0)))⟩]) (
.ret))))⟩
/- 68 cayley/cayleyref06.sign -/
abbrev n_ref06_sign : Nat := 68
def c_ref06_sign : Ay.Fn := ⟨1, [some 0, none, none], [.v 1],
.seq (
.reg [⟨.v 1, none, .op (.mov (.c (.int .i64 0)))⟩]) (
.seq (
.seq (
.reg [⟨.v 2, none, .op (.mov (.v 0))⟩]) (
.ite (.v 2) (
.seq (
.reg [⟨.v 1, none, .op (.mov (.c (.int .i64 (-1))))⟩]) (
.ret)) (
.skip))) (
.seq (
.reg [⟨.v 1, none, .op (.mov (.c (.int .i64 1)))⟩]) (
.ret)))⟩
/- 69 cayley/cyclo.divide[int] -/
abbrev n_cyclo_divide_int : Nat := 69
def c_cyclo_divide_int : Ay.Fn := ⟨2, [some 0, some 1, none, none, none, none, none, none, none, none, none, none, none, none, none], [.v 2, .v 3],
.seq (
.reg [⟨.v 2, none, .op (.mov (.c .nils))⟩,
⟨.v 3, none, .op (.mov (.c .nils))⟩]) (
.seq (
.reg [⟨.l, none, .op (.mov (.v 1))⟩,
⟨.l, none, .op (.lens (.l 0))⟩,
⟨.l, none, .op (.bin .sub .i64 (.l 0) (.c (.int .i64 1)))⟩,
⟨.v 4, none, .op (.mov (.l 0))⟩]) (
.seq (
.reg [⟨.l, none, .op (.mov (.v 0))⟩,
⟨.l, none, .call 61 [(.l 0)]⟩,
⟨.v 3, none, .op (.mov (.l 0))⟩]) (
.seq (
.seq (
.reg [⟨.l, none, .op (.mov (.v 0))⟩,
⟨.l, none, .op (.lens (.l 0))⟩,
⟨.l, none, .op (.mov (.v 4))⟩,
⟨.v 9, none, .op (.bin .gtr .i64 (.l 1) (.l 0))⟩]) (
.ite (.v 9) (
.reg [⟨.l, none, .op (.mov (.v 0))⟩,
⟨.l, none, .op (.lens (.l 0))⟩,
⟨.l, none, .op (.mov (.v 4))⟩,
⟨.l, none, .op (.bin .sub .i64 (.l 1) (.l 0))⟩,
⟨.l, none, .op (.mks 1 8 [(.int .i64 0)] (.l 0) (.l 0))⟩,
⟨.v 2, none, .op (.mov (.l 0))⟩]) (
.skip))) (
.seq (
.seq (
.reg [⟨.l, none, .op (.mov (.v 0))⟩,
⟨.l, none, .op (.lens (.l 0))⟩,
⟨.l, none, .op (.bin .sub .i64 (.l 0) (.c (.int .i64 1)))⟩,
⟨.l, none, .op (.mov (.v 4))⟩,
⟨.l, none, .op (.bin .sub .i64 (.l 1) (.l 0))⟩,
⟨.v 5, none, .op (.mov (.l 0))⟩]) (
.block 0 (
.loop (
.seq (
.seq (
.reg [⟨.l, none, .op (.mov (.v 5))⟩,
⟨.v 10, none, .op (.bin .geq .i64 (.l 0) (.c (.int .i64 0)))⟩]) (
.ite (.v 10) (
.skip) (
.exit 0))) (
.seq (
.block 1 (
.seq (
.reg [⟨.l, none, .op (.mov (.v 3))⟩,
⟨.l, none, .op (.mov (.v 5))⟩,
⟨.l, none, .op (.mov (.v 4))⟩,
⟨.l, none, .op (.bin .add .i64 (.l 1) (.l 0))⟩,
⟨.l, none, .op (.ixa 1 (.l 3) (.l 0))⟩,
⟨.l, none, .op (.ld false 1 (.l 0))⟩,
⟨.v 6, none, .op (.mov (.l 0))⟩]) (
.seq (
.reg [⟨.l, none, .op (.mov (.v 2))⟩,
⟨.l, none, .op (.mov (.v 5))⟩,
⟨.l, none, .op (.mov (.v 6))⟩,
⟨.l, none, .op (.ixa 1 (.l 2) (.l 1))⟩,
⟨.n, none, .op (.st 1 (.l 0) (.l 1))⟩]) (
.seq (
.reg [⟨.v 11, none, .op (.mov (.v 1))⟩,
⟨.v 12, none, .op (.lens (.v 11))⟩,
⟨.v 13, none, .op (.mov (.c (.int .i64 0)))⟩]) (
.block 2 (
.loop (
.seq (
.reg [⟨.v 14, none, .op (.bin .lss .i64 (.v 13) (.v 12))⟩]) (
.seq (
.ite (.v 14) (
.skip) (
.exit 2)) (
.seq (
.block 3 (
.seq (
.reg [⟨.l, none, .op (.mov (.v 13))⟩,
⟨.l, none, .op (.ixa 1 (.v 11) (.v 13))⟩,
⟨.l, none, .op (.ld false 1 (.l 0))⟩,
⟨.v 7, none, .op (.mov (.l 2))⟩,
⟨.v 8, none, .op (.mov (.l 0))⟩]) (
.reg [⟨.l, none, .op (.mov (.v 3))⟩,
⟨.l, none, .op (.mov (.v 5))⟩,
⟨.l, none, .op (.mov (.v 7))⟩,
⟨.l, none, .op (.bin .add .i64 (.l 1) (.l 0))⟩,
⟨.l, none, .op (.ixa 1 (.l 3) (.l 0))⟩,
⟨.l, none, .op (.ld false 1 (.l 0))⟩,
⟨.l, none, .op (.mov (.v 6))⟩,
⟨.l, none, .op (.mov (.v 8))⟩,
⟨.l, none, .op (.bin .mul .i64 (.l 1) (.l 0))⟩,
⟨.l, none, .op (.bin .sub .i64 (.l 3) (.l 0))⟩,
⟨.l, none, .op (.ixa 1 (.l 9) (.l 6))⟩,
⟨.n, none, .op (.st 1 (.l 0) (.l 1))⟩]))) (
.reg [⟨.l, none, .op (.bin .add .i64 (.v 13) (.c (.int .i64 1)))⟩,
⟨.v 13, none, .op (.mov (.l 0))⟩])))))))))) (
.reg [⟨.l, none, .op (.mov (.v 5))⟩,
⟨.l, none, .op (.bin .sub .i64 (.l 0) (.c (.int .i64 1)))⟩,
⟨.v 5, none, .op (.mov (.l 0))⟩])))))) (
.seq (
.any 9 7 [⟨0, ⟨.v 15, none, .op (.mov (.v 2))⟩, false, []⟩,
⟨1, ⟨.v 16, none, .op (.mov (.v 3))⟩, false, []⟩,
⟨2, ⟨.v 17, none, .op (.mov (.v 4))⟩, false, []⟩,
⟨3, ⟨.v 18, none, .op (.mov (.v 3))⟩, false, []⟩,
⟨4, ⟨.v 19, none, .op (.lens (.v 18))⟩, false, []⟩,
⟨5, ⟨.v 20, none, .op (.mm false [(.v 17), (.v 19)])⟩, false, []⟩,
⟨6, ⟨.v 21, none, .op (.slc 1 (.v 16) none (some (.v 20)) none)⟩, false, []⟩,
⟨7, ⟨.v 2, none, .op (.mov (.v 15))⟩, false, []⟩,
⟨8, ⟨.v 3, none, .op (.mov (.v 21))⟩, false, []⟩]) (
.ret))))))⟩
/- 70 cayley/cayleyref06.divide -/
abbrev n_ref06_divide : Nat := 70
def c_ref06_divide : Ay.Fn := ⟨2, [some 0, some 1, none, none, none, none, none, none, none, none], [.v 2, .v 3],
.seq (
.reg [⟨.v 2, none, .op (.mov (.c .nils))⟩,
⟨.v 3, none, .op (.mov (.c .nils))⟩]) (
.seq (
.reg [⟨.l, none, .op (.mov (.v 0))⟩,
⟨.l, none, .call 79 [(.l 0)]⟩,
⟨.v 3, none, .op (.mov (.l 0))⟩]) (
.seq (
.reg [⟨.l, none, .op (.mov (.v 1))⟩,
⟨.l, none, .op (.lens (.l 0))⟩,
⟨.l, none, .op (.bin .sub .i64 (.l 0) (.c (.int .i64 1)))⟩,
⟨.v 4, none, .op (.mov (.l 0))⟩]) (
.seq (
.reg [⟨.l, none, .op (.mov (.v 0))⟩,
⟨.l, none, .op (.lens (.l 0))⟩,
⟨.l, none, .op (.mov (.v 4))⟩,
⟨.l, none, .op (.bin .sub .i64 (.l 1) (.l 0))⟩,
⟨.l, none, .op (.mm true [(.c (.int .i64 0)), (.l 0)])⟩,
⟨.l, none, .op (.mks 1 8 [(.int .i64 0)] (.l 0) (.l 0))⟩,
⟨.v 2, none, .op (.mov (.l 0))⟩]) (
.seq (
.seq (
.reg [⟨.l, none, .op (.mov (.v 0))⟩,
⟨.l, none, .op (.lens (.l 0))⟩,
⟨.l, none, .op (.bin .sub .i64 (.l 0) (.c (.int .i64 1)))⟩,
⟨.l, none, .op (.mov (.v 4))⟩,
⟨.l, none, .op (.bin .sub .i64 (.l 1) (.l 0))⟩,
⟨.v 5, none, .op (.mov (.l 0))⟩]) (
.block 0 (
.loop (
.seq (
.seq (
.reg [⟨.l, none, .op (.mov (.v 5))⟩,
⟨.v 8, none, .op (.bin .geq .i64 (.l 0) (.c (.int .i64 0)))⟩]) (
.ite (.v 8) (
.skip) (
.exit 0))) (
.seq (
.block 1 (
.seq (
.reg [⟨.l, none, .op (.mov (.v 3))⟩,
⟨.l, none, .op (.mov (.v 5))⟩,
⟨.l, none, .op (.mov (.v 4))⟩,
⟨.l, none, .op (.bin .add .i64 (.l 1) (.l 0))⟩,
⟨.l, none, .op (.ixa 1 (.l 3) (.l 0))⟩,
⟨.l, none, .op (.ld false 1 (.l 0))⟩,
⟨.v 6, none, .op (.mov (.l 0))⟩]) (
.seq (
.reg [⟨.l, none, .op (.mov (.v 2))⟩,
⟨.l, none, .op (.mov (.v 5))⟩,
⟨.l, none, .op (.mov (.v 6))⟩,
⟨.l, none, .op (.ixa 1 (.l 2) (.l 1))⟩,
⟨.n, none, .op (.st 1 (.l 0) (.l 1))⟩]) (
.seq (
.reg [⟨.v 7, none, .op (.mov (.c (.int .i64 0)))⟩]) (
.block 2 (
.loop (
.seq (
.seq (
.reg [⟨.l, none, .op (.mov (.v 7))⟩,
⟨.l, none, .op (.mov (.v 4))⟩,
⟨.v 9, none, .op (.bin .leq .i64 (.l 1) (.l 0))⟩]) (
.ite (.v 9) (
.skip) (
.exit 2))) (
.seq (
.block 3 (
.any 19 18 [⟨0, ⟨.v 10, none, .op (.mov (.v 3))⟩, false, []⟩,
⟨1, ⟨.v 11, none, .op (.mov (.v 5))⟩, false, []⟩,
⟨2, ⟨.v 12, none, .op (.mov (.v 7))⟩, false, []⟩,
⟨3, ⟨.v 13, none, .op (.bin .add .i64 (.v 11) (.v 12))⟩, false, []⟩,
⟨4, ⟨.v 14, none, .op (.mov (.v 3))⟩, false, []⟩,
⟨5, ⟨.v 15, none, .op (.mov (.v 5))⟩, false, []⟩,
⟨6, ⟨.v 16, none, .op (.mov (.v 7))⟩, false, []⟩,
⟨7, ⟨.v 17, none, .op (.bin .add .i64 (.v 15) (.v 16))⟩, false, []⟩,
⟨8, ⟨.v 18, none, .op (.ixa 1 (.v 14) (.v 17))⟩, false, []⟩,
⟨9, ⟨.v 19, none, .op (.ld false 1 (.v 18))⟩, false, []⟩,
⟨10, ⟨.v 20, none, .op (.mov (.v 6))⟩, false, []⟩,
⟨11, ⟨.v 21, none, .op (.mov (.v 1))⟩, false, []⟩,
⟨12, ⟨.v 22, none, .op (.mov (.v 7))⟩, false, []⟩,
⟨13, ⟨.v 23, none, .op (.ixa 1 (.v 21) (.v 22))⟩, false, []⟩,
⟨14, ⟨.v 24, none, .op (.ld false 1 (.v 23))⟩, false, []⟩,
⟨15, ⟨.v 25, none, .op (.bin .mul .i64 (.v 20) (.v 24))⟩, false, []⟩,
⟨16, ⟨.v 26, none, .op (.bin .sub .i64 (.v 19) (.v 25))⟩, false, []⟩,
⟨17, ⟨.v 27, none, .op (.ixa 1 (.v 10) (.v 13))⟩, false, []⟩,
⟨18, ⟨.n, none, .op (.st 1 (.v 27) (.v 26))⟩, false, []⟩])) (
.reg [⟨.l, none, .op (.mov (.v 7))⟩,
⟨.l, none, .op (.bin .add .i64 (.l 0) (.c (.int .i64 1)))⟩,
⟨.v 7, none, .op (.mov (.l 0))⟩]))))))))) (
.reg [⟨.l, none, .op (.mov (.v 5))⟩,
⟨.l, none, .op (.bin .sub .i64 (.l 0) (.c (.int .i64 1)))⟩,
⟨.v 5, none, .op (.mov (.l 0))⟩])))))) (
.seq (
.any 9 7 [⟨0, ⟨.v 10, none, .op (.mov (.v 2))⟩, false, []⟩,
⟨1, ⟨.v 11, none, .op (.mov (.v 3))⟩, false, []⟩,
⟨2, ⟨.v 12, none, .op (.mov (.v 3))⟩, false, []⟩,
⟨3, ⟨.v 13, none, .op (.lens (.v 12))⟩, false, []⟩,
⟨4, ⟨.v 14, none, .op (.mov (.v 4))⟩, false, []⟩,
⟨5, ⟨.v 15, none, .op (.mm false [(.v 13), (.v 14)])⟩, false, []⟩,
⟨6, ⟨.v 16, none, .op (.slc 1 (.v 11) none (some (.v 15)) none)⟩, false, []⟩,
⟨7, ⟨.v 2, none, .op (.mov (.v 10))⟩, false, []⟩,
⟨8, ⟨.v 3, none, .op (.mov (.v 16))⟩, false, []⟩]) (
.ret))))))⟩
/- 71 slices.IndexFunc[[]int,int] -/
abbrev n_slices_IndexFunc_int_int : Nat := 71
def c_slices_IndexFunc_int_int : Ay.Fn := ⟨2, [some 0, some 1, none, none, none, none, none, none], [.v 2],
.seq (
.reg [⟨.v 2, none, .op (.mov (.c (.int .i64 0)))⟩]) (
.seq (
.seq (
.reg [⟨.l, none, .op (.mov (.v 0))⟩,
⟨.v 4, none, .op (.lens (.l 0))⟩,
⟨.v 5, none, .op (.mov (.c (.int .i64 0)))⟩]) (
.block 0 (
.loop (
.seq (
.reg [⟨.v 6, none, .op (.bin .lss .i64 (.v 5) (.v 4))⟩]) (
.seq (
.ite (.v 6) (
.skip) (
.exit 0)) (
.seq (
.block 1 (
.seq (
.reg [⟨.l, none, .op (.mov (.v 5))⟩,
⟨.v 3, none, .op (.mov (.l 0))⟩]) (
.seq (
.reg [⟨.l, none, .op (.mov (.v 1))⟩,
⟨.l, none, .op (.mov (.v 0))⟩,
⟨.l, none, .op (.mov (.v 3))⟩,
⟨.l, none, .op (.ixa 1 (.l 1) (.l 0))⟩,
⟨.l, none, .op (.ld false 1 (.l 0))⟩,
⟨.v 7, none, .callv (.l 4) [(.l 0)]⟩]) (
.ite (.v 7) (
.seq (
.reg [⟨.l, none, .op (.mov (.v 3))⟩,
⟨.v 2, none, .op (.mov (.l 0))⟩]) (
.ret)) (
.skip))))) (
.reg [⟨.l, none, .op (.bin .add .i64 (.v 5) (.c (.int .i64 1)))⟩,
⟨.v 5, none, .op (.mov (.l 0))⟩]))))))) (
.seq (
.reg [⟨.v 2, none, .op (.mov (.c (.int .i64 (-1))))⟩]) (
.ret)))⟩
/- 72 (ptr cayley/cyclo.table).reduced -/
abbrev n_cyclo_table_reduced : Nat := 72
def c_cyclo_table_reduced : Ay.Fn := ⟨3, [some 0, some 1, some 2, none, none, none], [.v 3],
.seq (
.reg [⟨.v 3, none, .op (.mov (.c .nils))⟩]) (
.seq (
.reg [⟨.l, none, .op (.mov (.v 0))⟩,
⟨.l, none, .op (.mov (.v 1))⟩,
⟨.l, none, .call 49 [(.l 1), (.l 0)]⟩,
⟨.v 4, none, .op (.mov (.l 0))⟩]) (
.seq (
.reg [⟨.l, none, .op (.mov (.v 2))⟩,
⟨.l, none, .op (.mov (.v 4))⟩,
⟨.l, none, .call 69 [(.l 1), (.l 0)]⟩,
⟨.l, none, .op (.mov (.l 0))⟩,
⟨.l, none, .op (.ext (.l 0) 0)⟩,
⟨.l, none, .op (.ext (.l 1) 1)⟩,
⟨.l, none, .op (.mov (.l 1))⟩,
⟨.v 5, none, .op (.mov (.l 1))⟩]) (
.seq (
.reg [⟨.l, none, .op (.mov (.v 5))⟩,
⟨.l, none, .op (.mov (.v 4))⟩,
⟨.l, none, .op (.lens (.l 0))⟩,
⟨.l, none, .op (.bin .sub .i64 (.l 0) (.c (.int .i64 1)))⟩,
⟨.l, none, .op (.mov (.v 5))⟩,
⟨.l, none, .op (.lens (.l 0))⟩,
⟨.l, none, .op (.bin .sub .i64 (.l 2) (.l 0))⟩,
⟨.l, none, .op (.apz 1 8 [(.int .i64 0)] (.l 6) (.l 0))⟩,
⟨.v 3, none, .op (.mov (.l 0))⟩]) (
.ret))))⟩
/- 73 cayley/cayleyref06.reduced -/
abbrev n_ref06_reduced : Nat := 73
def c_ref06_reduced : Ay.Fn := ⟨2, [some 0, some 1, none, none, none, none], [.v 2],
.seq (
.reg [⟨.v 2, none, .op (.mov (.c .nils))⟩]) (
.seq (
.reg [⟨.l, none, .op (.mov (.v 0))⟩,
⟨.l, none, .call 50 [(.l 0)]⟩,
⟨.v 3, none, .op (.mov (.l 0))⟩]) (
.seq (
.reg [⟨.l, none, .op (.mov (.v 1))⟩,
⟨.l, none, .op (.mov (.v 3))⟩,
⟨.l, none, .call 70 [(.l 1), (.l 0)]⟩,
⟨.l, none, .op (.mov (.l 0))⟩,
⟨.l, none, .op (.ext (.l 0) 0)⟩,
⟨.l, none, .op (.ext (.l 1) 1)⟩,
⟨.l, none, .op (.mov (.l 1))⟩,
⟨.v 4, none, .op (.mov (.l 1))⟩]) (
.seq (
.block 0 (
.loop (
.seq (
.seq (
.reg [⟨.l, none, .op (.mov (.v 4))⟩,
⟨.l, none, .op (.lens (.l 0))⟩,
⟨.l, none, .op (.mov (.v 3))⟩,
⟨.l, none, .op (.lens (.l 0))⟩,
⟨.l, none, .op (.bin .sub .i64 (.l 0) (.c (.int .i64 1)))⟩,
⟨.v 5, none, .op (.bin .lss .i64 (.l 3) (.l 0))⟩]) (
.ite (.v 5) (
.skip) (
.exit 0))) (
.block 1 (
.reg [⟨.l, none, .op (.mov (.v 4))⟩,
⟨.l, none, .op (.bls 1 [(.int .i64 0)] 1 [(0, 1, (.c (.int .i64 0)))])⟩,
⟨.l, none, .op (.app 1 8 (.l 1) (.l 0))⟩,
⟨.v 4, none, .op (.mov (.l 0))⟩]))))) (
.seq (
.reg [⟨.l, none, .op (.mov (.v 4))⟩,
⟨.v 2, none, .op (.mov (.l 0))⟩]) (
.ret)))))⟩
/- 74 cayley/cyclo.primes -/
abbrev n_cyclo_primes : Nat := 74
def c_cyclo_primes : Ay.Fn := ⟨1, [some 0, none, none], [.v 2],
.seq (
.reg [⟨.v 1, none, .op (.box (.v 0))⟩,
⟨.v 2, none, .op (.mov (.c .nilf))⟩]) (
.seq (
.reg [⟨.l, none, .op (.mkf 80 [] [(.v 1)])⟩,
⟨.v 2, none, .op (.mov (.l 0))⟩]) (
.ret))⟩
/- 75 (ptr cayley/cyclo.table).lower -/
abbrev n_cyclo_table_lower : Nat := 75
def c_cyclo_table_lower : Ay.Fn := ⟨4, [some 0, some 1, some 2, some 3, none, none, none, none, none, none, none, none, none, none, none, none, none, none, none, none, none, none, none, none, none, none, none, none, none, none, none, none, none, none, none, none, none, none, none, none, none, none, none, none, none, none, none, none, none], [.v 4, .v 5],
.seq (
.reg [⟨.v 4, none, .op (.mov (.c .nils))⟩,
⟨.v 5, none, .op (.mov (.c (.bool false)))⟩]) (
.seq (
.reg [⟨.l, none, .op (.mov (.v 1))⟩,
⟨.l, none, .op (.mov (.v 2))⟩,
⟨.l, none, .op (.bin .quo .i64 (.l 1) (.l 0))⟩,
⟨.v 6, none, .op (.mov (.l 0))⟩]) (
.seq (
.reg [⟨.l, none, .op (.mov (.v 2))⟩,
⟨.l, none, .op (.mks 1 24 [.nils] (.l 0) (.l 0))⟩,
⟨.v 7, none, .op (.mov (.l 0))⟩]) (
.seq (
.seq (
.reg [⟨.l, none, .op (.mov (.v 7))⟩,
⟨.v 20, none, .op (.lens (.l 0))⟩,
⟨.v 21, none, .op (.mov (.c (.int .i64 0)))⟩]) (
.block 0 (
.loop (
.seq (
.reg [⟨.v 22, none, .op (.bin .lss .i64 (.v 21) (.v 20))⟩]) (
.seq (
.ite (.v 22) (
.skip) (
.exit 0)) (
.seq (
.block 1 (
.seq (
.reg [⟨.l, none, .op (.mov (.v 21))⟩,
⟨.v 8, none, .op (.mov (.l 0))⟩]) (
.reg [⟨.l, none, .op (.mov (.v 7))⟩,
⟨.l, none, .op (.mov (.v 8))⟩,
⟨.l, none, .op (.mov (.v 6))⟩,
⟨.l, none, .op (.mks 1 8 [(.int .i64 0)] (.l 0) (.l 0))⟩,
⟨.l, none, .op (.ixa 1 (.l 3) (.l 2))⟩,
⟨.n, none, .op (.st 1 (.l 0) (.l 1))⟩]))) (
.reg [⟨.l, none, .op (.bin .add .i64 (.v 21) (.c (.int .i64 1)))⟩,
⟨.v 21, none, .op (.mov (.l 0))⟩]))))))) (
.seq (
.seq (
.reg [⟨.l, none, .op (.mov (.v 6))⟩,
⟨.l, none, .op (.mov (.v 2))⟩,
⟨.l, none, .op (.bin .rem .i64 (.l 1) (.l 0))⟩,
⟨.v 23, none, .op (.bin .eql .i64 (.l 0) (.c (.int .i64 0)))⟩]) (
.ite (.v 23) (
.seq (
.seq (
.reg [⟨.v 24, none, .op (.mov (.v 3))⟩,
⟨.v 25, none, .op (.lens (.v 24))⟩,
⟨.v 26, none, .op (.mov (.c (.int .i64 0)))⟩]) (
.block 2 (
.loop (
.seq (
.reg [⟨.v 27, none, .op (.bin .lss .i64 (.v 26) (.v 25))⟩]) (
.seq (
.ite (.v 27) (
.skip) (
.exit 2)) (
.seq (
.block 3 (
.seq (
.reg [⟨.l, none, .op (.mov (.v 26))⟩,
⟨.l, none, .op (.ixa 1 (.v 24) (.v 26))⟩,
⟨.l, none, .op (.ld false 1 (.l 0))⟩,
⟨.v 9, none, .op (.mov (.l 2))⟩,
⟨.v 10, none, .op (.mov (.l 0))⟩]) (
.any 12 11 [⟨0, ⟨.v 49, none, .op (.mov (.v 7))⟩, false, []⟩,
⟨1, ⟨.v 50, none, .op (.mov (.v 9))⟩, false, []⟩,
⟨2, ⟨.v 51, none, .op (.mov (.v 2))⟩, false, []⟩,
⟨3, ⟨.v 52, none, .op (.bin .rem .i64 (.v 50) (.v 51))⟩, false, []⟩,
⟨4, ⟨.v 53, none, .op (.ixa 1 (.v 49) (.v 52))⟩, false, []⟩,
⟨5, ⟨.v 54, none, .op (.ld false 1 (.v 53))⟩, false, []⟩,
⟨6, ⟨.v 55, none, .op (.mov (.v 9))⟩, false, []⟩,
⟨7, ⟨.v 56, none, .op (.mov (.v 2))⟩, false, []⟩,
⟨8, ⟨.v 57, none, .op (.bin .quo .i64 (.v 55) (.v 56))⟩, false, []⟩,
⟨9, ⟨.v 58, none, .op (.mov (.v 10))⟩, false, []⟩,
⟨10, ⟨.v 59, none, .op (.ixa 1 (.v 54) (.v 57))⟩, false, []⟩,
⟨11, ⟨.n, none, .op (.st 1 (.v 59) (.v 58))⟩, false, []⟩]))) (
.reg [⟨.l, none, .op (.bin .add .i64 (.v 26) (.c (.int .i64 1)))⟩,
⟨.v 26, none, .op (.mov (.l 0))⟩]))))))) (
.seq (
.seq (
.reg [⟨.l, none, .op (.mov (.v 7))⟩,
⟨.v 28, none, .op (.slc 1 (.l 0) (some (.c (.int .i64 1))) none none)⟩,
⟨.v 29, none, .op (.lens (.v 28))⟩,
⟨.v 30, none, .op (.mov (.c (.int .i64 0)))⟩]) (
.block 4 (
.loop (
.seq (
.reg [⟨.v 31, none, .op (.bin .lss .i64 (.v 30) (.v 29))⟩]) (
.seq (
.ite (.v 31) (
.skip) (
.exit 4)) (
.seq (
.block 5 (
.seq (
.reg [⟨.l, none, .op (.ixa 1 (.v 28) (.v 30))⟩,
⟨.l, none, .op (.ld false 1 (.l 0))⟩,
⟨.v 11, none, .op (.mov (.l 0))⟩]) (
.seq (
.reg [⟨.l, none, .op (.mov (.v 11))⟩,
⟨.v 32, none, .call 51 [(.l 0), (.c (.fn 81 [] []))]⟩]) (
.ite (.v 32) (
.seq (
.reg [⟨.v 4, none, .op (.mov (.c .nils))⟩,
⟨.v 5, none, .op (.mov (.c (.bool false)))⟩]) (
.ret)) (
.skip))))) (
.reg [⟨.l, none, .op (.bin .add .i64 (.v 30) (.c (.int .i64 1)))⟩,
⟨.v 30, none, .op (.mov (.l 0))⟩]))))))) (
.seq (
.reg [⟨.l, none, .op (.mov (.v 0))⟩,
⟨.l, none, .op (.mov (.v 6))⟩,
⟨.l, none, .op (.mov (.v 7))⟩,
⟨.l, none, .op (.ixa 1 (.l 0) (.c (.int .i64 0)))⟩,
⟨.l, none, .op (.ld false 1 (.l 0))⟩,
⟨.l, none, .call 72 [(.l 4), (.l 3), (.l 0)]⟩,
⟨.v 4, none, .op (.mov (.l 0))⟩,
⟨.v 5, none, .op (.mov (.c (.bool true)))⟩]) (
.ret)))) (
.skip))) (
.seq (
.reg [⟨.l, none, .op (.mov (.v 2))⟩,
⟨.l, none, .op (.mov (.v 6))⟩,
⟨.l, none, .call 82 [(.l 1), (.l 0)]⟩,
⟨.l, none, .op (.mov (.v 6))⟩,
⟨.l, none, .op (.mov (.v 2))⟩,
⟨.l, none, .call 82 [(.l 1), (.l 0)]⟩,
⟨.v 12, none, .op (.mov (.l 3))⟩,
⟨.v 13, none, .op (.mov (.l 0))⟩]) (
.seq (
.seq (
.reg [⟨.v 33, none, .op (.mov (.v 3))⟩,
⟨.v 34, none, .op (.lens (.v 33))⟩,
⟨.v 35, none, .op (.mov (.c (.int .i64 0)))⟩]) (
.block 6 (
.loop (
.seq (
.reg [⟨.v 36, none, .op (.bin .lss .i64 (.v 35) (.v 34))⟩]) (
.seq (
.ite (.v 36) (
.skip) (
.exit 6)) (
.seq (
.block 7 (
.seq (
.reg [⟨.l, none, .op (.mov (.v 35))⟩,
⟨.l, none, .op (.ixa 1 (.v 33) (.v 35))⟩,
⟨.l, none, .op (.ld false 1 (.l 0))⟩,
⟨.v 14, none, .op (.mov (.l 2))⟩,
⟨.v 15, none, .op (.mov (.l 0))⟩]) (
.any 19 18 [⟨0, ⟨.v 49, none, .op (.mov (.v 7))⟩, false, []⟩,
⟨1, ⟨.v 50, none, .op (.mov (.v 13))⟩, false, []⟩,
⟨2, ⟨.v 51, none, .op (.mov (.v 14))⟩, false, []⟩,
⟨3, ⟨.v 52, none, .op (.bin .mul .i64 (.v 50) (.v 51))⟩, false, []⟩,
⟨4, ⟨.v 53, none, .op (.mov (.v 2))⟩, false, []⟩,
⟨5, ⟨.v 54, none, .op (.bin .rem .i64 (.v 52) (.v 53))⟩, false, []⟩,
⟨6, ⟨.v 55, none, .op (.ixa 1 (.v 49) (.v 54))⟩, false, []⟩,
⟨7, ⟨.v 56, none, .op (.ld false 1 (.v 55))⟩, false, []⟩,
⟨8, ⟨.v 57, none, .op (.mov (.v 12))⟩, false, []⟩,
⟨9, ⟨.v 58, none, .op (.mov (.v 14))⟩, false, []⟩,
⟨10, ⟨.v 59, none, .op (.bin .mul .i64 (.v 57) (.v 58))⟩, false, []⟩,
⟨11, ⟨.v 60, none, .op (.mov (.v 6))⟩, false, []⟩,
⟨12, ⟨.v 61, none, .op (.bin .rem .i64 (.v 59) (.v 60))⟩, false, []⟩,
⟨13, ⟨.v 62, none, .op (.ixa 1 (.v 56) (.v 61))⟩, false, []⟩,
⟨14, ⟨.v 63, none, .op (.ld false 1 (.v 62))⟩, false, []⟩,
⟨15, ⟨.v 64, none, .op (.mov (.v 15))⟩, false, []⟩,
⟨16, ⟨.v 65, none, .op (.bin .add .i64 (.v 63) (.v 64))⟩, false, []⟩,
⟨17, ⟨.v 66, none, .op (.ixa 1 (.v 56) (.v 61))⟩, false, []⟩,
⟨18, ⟨.n, none, .op (.st 1 (.v 66) (.v 65))⟩, false, []⟩]))) (
.reg [⟨.l, none, .op (.bin .add .i64 (.v 35) (.c (.int .i64 1)))⟩,
⟨.v 35, none, .op (.mov (.l 0))⟩]))))))) (
.seq (
.seq (
.reg [⟨.l, none, .op (.mov (.v 7))⟩,
⟨.v 37, none, .op (.lens (.l 0))⟩,
⟨.v 38, none, .op (.mov (.c (.int .i64 0)))⟩]) (
.block 8 (
.loop (
.seq (
.reg [⟨.v 39, none, .op (.bin .lss .i64 (.v 38) (.v 37))⟩]) (
.seq (
.ite (.v 39) (
.skip) (
.exit 8)) (
.seq (
.block 9 (
.seq (
.reg [⟨.l, none, .op (.mov (.v 38))⟩,
⟨.v 16, none, .op (.mov (.l 0))⟩]) (
.reg [⟨.l, none, .op (.mov (.v 7))⟩,
⟨.l, none, .op (.mov (.v 16))⟩,
⟨.l, none, .op (.mov (.v 0))⟩,
⟨.l, none, .op (.mov (.v 6))⟩,
⟨.l, none, .op (.mov (.v 7))⟩,
⟨.l, none, .op (.mov (.v 16))⟩,
⟨.l, none, .op (.ixa 1 (.l 1) (.l 0))⟩,
⟨.l, none, .op (.ld false 1 (.l 0))⟩,
⟨.l, none, .call 72 [(.l 5), (.l 4), (.l 0)]⟩,
⟨.l, none, .op (.ixa 1 (.l 8) (.l 7))⟩,
⟨.n, none, .op (.st 1 (.l 0) (.l 1))⟩]))) (
.reg [⟨.l, none, .op (.bin .add .i64 (.v 38) (.c (.int .i64 1)))⟩,
⟨.v 38, none, .op (.mov (.l 0))⟩]))))))) (
.seq (
.seq (
.reg [⟨.l, none, .op (.mov (.v 7))⟩,
⟨.v 40, none, .op (.slc 1 (.l 0) (some (.c (.int .i64 1))) none none)⟩,
⟨.v 41, none, .op (.lens (.v 40))⟩,
⟨.v 42, none, .op (.mov (.c (.int .i64 0)))⟩]) (
.block 10 (
.loop (
.seq (
.reg [⟨.v 43, none, .op (.bin .lss .i64 (.v 42) (.v 41))⟩]) (
.seq (
.ite (.v 43) (
.skip) (
.exit 10)) (
.seq (
.block 11 (
.seq (
.reg [⟨.l, none, .op (.ixa 1 (.v 40) (.v 42))⟩,
⟨.l, none, .op (.ld false 1 (.l 0))⟩,
⟨.v 17, none, .op (.mov (.l 0))⟩]) (
.seq (
.reg [⟨.l, none, .op (.mov (.v 17))⟩,
⟨.l, none, .op (.mov (.v 7))⟩,
⟨.l, none, .op (.ixa 1 (.l 0) (.c (.int .i64 1)))⟩,
⟨.l, none, .op (.ld false 1 (.l 0))⟩,
⟨.l, none, .call 83 [(.l 3), (.l 0)]⟩,
⟨.v 44, none, .op (.not (.l 0))⟩]) (
.ite (.v 44) (
.seq (
.reg [⟨.v 4, none, .op (.mov (.c .nils))⟩,
⟨.v 5, none, .op (.mov (.c (.bool false)))⟩]) (
.ret)) (
.skip))))) (
.reg [⟨.l, none, .op (.bin .add .i64 (.v 42) (.c (.int .i64 1)))⟩,
⟨.v 42, none, .op (.mov (.l 0))⟩]))))))) (
.seq (
.seq (
.reg [⟨.l, none, .op (.mov (.v 7))⟩,
⟨.l, none, .op (.ixa 1 (.l 0) (.c (.int .i64 1)))⟩,
⟨.v 45, none, .op (.ld false 1 (.l 0))⟩,
⟨.v 46, none, .op (.lens (.v 45))⟩,
⟨.v 47, none, .op (.mov (.c (.int .i64 0)))⟩]) (
.block 12 (
.loop (
.seq (
.reg [⟨.v 48, none, .op (.bin .lss .i64 (.v 47) (.v 46))⟩]) (
.seq (
.ite (.v 48) (
.skip) (
.exit 12)) (
.seq (
.block 13 (
.seq (
.reg [⟨.l, none, .op (.mov (.v 47))⟩,
⟨.l, none, .op (.ixa 1 (.v 45) (.v 47))⟩,
⟨.l, none, .op (.ld false 1 (.l 0))⟩,
⟨.v 18, none, .op (.mov (.l 2))⟩,
⟨.v 19, none, .op (.mov (.l 0))⟩]) (
.reg [⟨.l, none, .op (.mov (.v 7))⟩,
⟨.l, none, .op (.ixa 1 (.l 0) (.c (.int .i64 0)))⟩,
⟨.l, none, .op (.ld false 1 (.l 0))⟩,
⟨.l, none, .op (.mov (.v 18))⟩,
⟨.l, none, .op (.ixa 1 (.l 1) (.l 0))⟩,
⟨.l, none, .op (.ld false 1 (.l 0))⟩,
⟨.l, none, .op (.mov (.v 19))⟩,
⟨.l, none, .op (.bin .sub .i64 (.l 1) (.l 0))⟩,
⟨.l, none, .op (.ixa 1 (.l 5) (.l 4))⟩,
⟨.n, none, .op (.st 1 (.l 0) (.l 1))⟩]))) (
.reg [⟨.l, none, .op (.bin .add .i64 (.v 47) (.c (.int .i64 1)))⟩,
⟨.v 47, none, .op (.mov (.l 0))⟩]))))))) (
.seq (
.reg [⟨.l, none, .op (.mov (.v 7))⟩,
⟨.l, none, .op (.ixa 1 (.l 0) (.c (.int .i64 0)))⟩,
⟨.l, none, .op (.ld false 1 (.l 0))⟩,
⟨.v 4, none, .op (.mov (.l 0))⟩,
⟨.v 5, none, .op (.mov (.c (.bool true)))⟩]) (
.ret)))))))))))⟩
/- 76 cmp.Or[cayley/api.Errno] -/
abbrev n_cmp_Or_api_Errno : Nat := 76
def c_cmp_Or_api_Errno : Ay.Fn := ⟨1, [some 0, none, none, none, none, none, none, none, none], [.v 1],
.seq (
.reg [⟨.v 1, none, .op (.mov (.c (.int .i64 0)))⟩]) (
.seq (
.reg [⟨.v 2, none, .op (.mov (.c (.int .i64 0)))⟩]) (
.seq (
.seq (
.reg [⟨.v 4, none, .op (.mov (.v 0))⟩,
⟨.v 5, none, .op (.lens (.v 4))⟩,
⟨.v 6, none, .op (.mov (.c (.int .i64 0)))⟩]) (
.block 0 (
.loop (
.seq (
.reg [⟨.v 7, none, .op (.bin .lss .i64 (.v 6) (.v 5))⟩]) (
.seq (
.ite (.v 7) (
.skip) (
.exit 0)) (
.seq (
.block 1 (
.seq (
.reg [⟨.l, none, .op (.ixa 1 (.v 4) (.v 6))⟩,
⟨.l, none, .op (.ld false 1 (.l 0))⟩,
⟨.v 3, none, .op (.mov (.l 0))⟩]) (
.seq (
.reg [⟨.l, none, .op (.mov (.v 3))⟩,
⟨.l, none, .op (.mov (.v 2))⟩,
⟨.v 8, none, .op (.bin .neq .i64 (.l 1) (.l 0))⟩]) (
.ite (.v 8) (
.seq (
.reg [⟨.l, none, .op (.mov (.v 3))⟩,
⟨.v 1, none, .op (.mov (.l 0))⟩]) (
.ret)) (
.skip))))) (
.reg [⟨.l, none, .op (.bin .add .i64 (.v 6) (.c (.int .i64 1)))⟩,
⟨.v 6, none, .op (.mov (.l 0))⟩]))))))) (
.seq (
.reg [⟨.l, none, .op (.mov (.v 2))⟩,
⟨.v 1, none, .op (.mov (.l 0))⟩]) (
.ret))))⟩
/- 77 cayley/cayleyref06.lower -/
abbrev n_ref06_lower : Nat := 77
def c_ref06_lower : Ay.Fn := ⟨3, [some 0, some 1, some 2, none, none, none, none, none, none, none, none, none, none, none, none, none, none, none, none, none, none, none, none, none, none, none, none, none, none], [.v 3, .v 4],
.seq (
.reg [⟨.v 3, none, .op (.mov (.c .nils))⟩,
⟨.v 4, none, .op (.mov (.c (.bool false)))⟩]) (
.seq (
.reg [⟨.l, none, .op (.mov (.v 0))⟩,
⟨.l, none, .op (.mov (.v 1))⟩,
⟨.l, none, .op (.bin .quo .i64 (.l 1) (.l 0))⟩,
⟨.v 5, none, .op (.mov (.l 0))⟩]) (
.seq (
.seq (
.reg [⟨.l, none, .op (.mov (.v 5))⟩,
⟨.l, none, .op (.mov (.v 1))⟩,
⟨.l, none, .op (.bin .rem .i64 (.l 1) (.l 0))⟩,
⟨.v 17, none, .op (.bin .eql .i64 (.l 0) (.c (.int .i64 0)))⟩]) (
.ite (.v 17) (
.seq (
.reg [⟨.v 6, none, .op (.mov (.c .nils))⟩]) (
.seq (
.seq (
.reg [⟨.v 7, none, .op (.mov (.c (.int .i64 0)))⟩]) (
.block 0 (
.loop (
.seq (
.seq (
.reg [⟨.l, none, .op (.mov (.v 7))⟩,
⟨.l, none, .op (.mov (.v 2))⟩,
⟨.l, none, .op (.lens (.l 0))⟩,
⟨.v 18, none, .op (.bin .lss .i64 (.l 2) (.l 0))⟩]) (
.ite (.v 18) (
.skip) (
.exit 0))) (
.seq (
.block 1 (
.seq (
.reg [⟨.l, none, .op (.mov (.v 7))⟩,
⟨.l, none, .op (.mov (.v 1))⟩,
⟨.l, none, .op (.bin .rem .i64 (.l 1) (.l 0))⟩,
⟨.v 19, none, .op (.bin .eql .i64 (.l 0) (.c (.int .i64 0)))⟩]) (
.ite (.v 19) (
.reg [⟨.l, none, .op (.mov (.v 6))⟩,
⟨.l, none, .op (.mov (.v 2))⟩,
⟨.l, none, .op (.mov (.v 7))⟩,
⟨.l, none, .op (.ixa 1 (.l 1) (.l 0))⟩,
⟨.l, none, .op (.ld false 1 (.l 0))⟩,
⟨.l, none, .op (.bls 1 [(.int .i64 0)] 1 [(0, 1, (.l 0))])⟩,
⟨.l, none, .op (.app 1 8 (.l 5) (.l 0))⟩,
⟨.v 6, none, .op (.mov (.l 0))⟩]) (
.seq (
.reg [⟨.l, none, .op (.mov (.v 2))⟩,
⟨.l, none, .op (.mov (.v 7))⟩,
⟨.l, none, .op (.ixa 1 (.l 1) (.l 0))⟩,
⟨.l, none, .op (.ld false 1 (.l 0))⟩,
⟨.v 20, none, .op (.bin .neq .i64 (.l 0) (.c (.int .i64 0)))⟩]) (
.ite (.v 20) (
.seq (
.reg [⟨.v 3, none, .op (.mov (.c .nils))⟩,
⟨.v 4, none, .op (.mov (.c (.bool false)))⟩]) (
.ret)) (
.skip)))))) (
.reg [⟨.l, none, .op (.mov (.v 7))⟩,
⟨.l, none, .op (.bin .add .i64 (.l 0) (.c (.int .i64 1)))⟩,
⟨.v 7, none, .op (.mov (.l 0))⟩])))))) (
.seq (
.reg [⟨.l, none, .op (.mov (.v 6))⟩,
⟨.v 3, none, .op (.mov (.l 0))⟩,
⟨.v 4, none, .op (.mov (.c (.bool true)))⟩]) (
.ret)))) (
.skip))) (
.seq (
.reg [⟨.v 8, none, .op (.mov (.c (.int .i64 0)))⟩,
⟨.v 9, none, .op (.mov (.c (.int .i64 0)))⟩]) (
.seq (
.block 2 (
.loop (
.seq (
.seq (
.any 8 7 [⟨0, ⟨.v 29, none, .op (.mov (.v 8))⟩, false, []⟩,
⟨1, ⟨.v 30, none, .op (.mov (.v 1))⟩, false, []⟩,
⟨2, ⟨.v 31, none, .op (.bin .mul .i64 (.v 29) (.v 30))⟩, false, []⟩,
⟨3, ⟨.v 32, none, .op (.mov (.v 5))⟩, false, []⟩,
⟨4, ⟨.v 33, none, .op (.bin .rem .i64 (.v 31) (.v 32))⟩, false, []⟩,
⟨5, ⟨.v 34, none, .op (.mov (.v 5))⟩, false, []⟩,
⟨6, ⟨.v 35, none, .op (.bin .rem .i64 (.c (.int .i64 1)) (.v 34))⟩, false, []⟩,
⟨7, ⟨.v 21, none, .op (.bin .neq .i64 (.v 33) (.v 35))⟩, false, []⟩]) (
.ite (.v 21) (
.skip) (
.exit 2))) (
.block 3 (
.reg [⟨.l, none, .op (.mov (.v 8))⟩,
⟨.l, none, .op (.bin .add .i64 (.l 0) (.c (.int .i64 1)))⟩,
⟨.v 8, none, .op (.mov (.l 0))⟩]))))) (
.seq (
.block 4 (
.loop (
.seq (
.seq (
.reg [⟨.l, none, .op (.mov (.v 9))⟩,
⟨.l, none, .op (.mov (.v 5))⟩,
⟨.l, none, .op (.bin .mul .i64 (.l 1) (.l 0))⟩,
⟨.l, none, .op (.mov (.v 1))⟩,
⟨.l, none, .op (.bin .rem .i64 (.l 1) (.l 0))⟩,
⟨.v 22, none, .op (.bin .neq .i64 (.l 0) (.c (.int .i64 1)))⟩]) (
.ite (.v 22) (
.skip) (
.exit 4))) (
.block 5 (
.reg [⟨.l, none, .op (.mov (.v 9))⟩,
⟨.l, none, .op (.bin .add .i64 (.l 0) (.c (.int .i64 1)))⟩,
⟨.v 9, none, .op (.mov (.l 0))⟩]))))) (
.seq (
.reg [⟨.l, none, .op (.mov (.v 1))⟩,
⟨.l, none, .op (.mks 1 24 [.nils] (.l 0) (.l 0))⟩,
⟨.v 10, none, .op (.mov (.l 0))⟩]) (
.seq (
.seq (
.reg [⟨.v 11, none, .op (.mov (.c (.int .i64 0)))⟩]) (
.block 6 (
.loop (
.seq (
.seq (
.reg [⟨.l, none, .op (.mov (.v 11))⟩,
⟨.l, none, .op (.mov (.v 1))⟩,
⟨.v 23, none, .op (.bin .lss .i64 (.l 1) (.l 0))⟩]) (
.ite (.v 23) (
.skip) (
.exit 6))) (
.seq (
.block 7 (
.reg [⟨.l, none, .op (.mov (.v 10))⟩,
⟨.l, none, .op (.mov (.v 11))⟩,
⟨.l, none, .op (.mov (.v 5))⟩,
⟨.l, none, .op (.mks 1 8 [(.int .i64 0)] (.l 0) (.l 0))⟩,
⟨.l, none, .op (.ixa 1 (.l 3) (.l 2))⟩,
⟨.n, none, .op (.st 1 (.l 0) (.l 1))⟩])) (
.reg [⟨.l, none, .op (.mov (.v 11))⟩,
⟨.l, none, .op (.bin .add .i64 (.l 0) (.c (.int .i64 1)))⟩,
⟨.v 11, none, .op (.mov (.l 0))⟩])))))) (
.seq (
.seq (
.reg [⟨.v 12, none, .op (.mov (.c (.int .i64 0)))⟩]) (
.block 8 (
.loop (
.seq (
.seq (
.reg [⟨.l, none, .op (.mov (.v 12))⟩,
⟨.l, none, .op (.mov (.v 2))⟩,
⟨.l, none, .op (.lens (.l 0))⟩,
⟨.v 24, none, .op (.bin .lss .i64 (.l 2) (.l 0))⟩]) (
.ite (.v 24) (
.skip) (
.exit 8))) (
.seq (
.block 9 (
.any 16 16 [⟨0, ⟨.v 29, none, .op (.mov (.v 10))⟩, false, []⟩,
⟨1, ⟨.v 30, none, .op (.mov (.v 9))⟩, false, []⟩,
⟨2, ⟨.v 31, none, .op (.mov (.v 12))⟩, false, []⟩,
⟨3, ⟨.v 32, none, .op (.bin .mul .i64 (.v 30) (.v 31))⟩, false, []⟩,
⟨4, ⟨.v 33, none, .op (.mov (.v 1))⟩, false, []⟩,
⟨5, ⟨.v 34, none, .op (.bin .rem .i64 (.v 32) (.v 33))⟩, false, []⟩,
⟨6, ⟨.v 35, none, .op (.ixa 1 (.v 29) (.v 34))⟩, false, []⟩,
⟨7, ⟨.v 36, none, .op (.ld false 1 (.v 35))⟩, false, []⟩,
⟨8, ⟨.v 37, none, .op (.mov (.v 8))⟩, false, []⟩,
⟨9, ⟨.v 38, none, .op (.mov (.v 12))⟩, false, []⟩,
⟨10, ⟨.v 39, none, .op (.bin .mul .i64 (.v 37) (.v 38))⟩, false, []⟩,
⟨11, ⟨.v 40, none, .op (.mov (.v 2))⟩, false, []⟩,
⟨12, ⟨.v 41, none, .op (.mov (.v 12))⟩, false, []⟩,
⟨13, ⟨.v 42, none, .op (.ixa 1 (.v 40) (.v 41))⟩, false, []⟩,
⟨14, ⟨.v 43, none, .op (.ld false 1 (.v 42))⟩, false, []⟩,
⟨15, ⟨.v 44, none, .call 55 [(.v 36), (.v 39), (.v 43)]⟩, false, []⟩])) (
.reg [⟨.l, none, .op (.mov (.v 12))⟩,
⟨.l, none, .op (.bin .add .i64 (.l 0) (.c (.int .i64 1)))⟩,
⟨.v 12, none, .op (.mov (.l 0))⟩])))))) (
.seq (
.seq (
.reg [⟨.v 13, none, .op (.mov (.c (.int .i64 0)))⟩]) (
.block 10 (
.loop (
.seq (
.seq (
.reg [⟨.l, none, .op (.mov (.v 13))⟩,
⟨.l, none, .op (.mov (.v 1))⟩,
⟨.v 25, none, .op (.bin .lss .i64 (.l 1) (.l 0))⟩]) (
.ite (.v 25) (
.skip) (
.exit 10))) (
.seq (
.block 11 (
.reg [⟨.l, none, .op (.mov (.v 10))⟩,
⟨.l, none, .op (.mov (.v 13))⟩,
⟨.l, none, .op (.mov (.v 5))⟩,
⟨.l, none, .op (.mov (.v 10))⟩,
⟨.l, none, .op (.mov (.v 13))⟩,
⟨.l, none, .op (.ixa 1 (.l 1) (.l 0))⟩,
⟨.l, none, .op (.ld false 1 (.l 0))⟩,
⟨.l, none, .call 73 [(.l 4), (.l 0)]⟩,
⟨.l, none, .op (.ixa 1 (.l 7) (.l 6))⟩,
⟨.n, none, .op (.st 1 (.l 0) (.l 1))⟩])) (
.reg [⟨.l, none, .op (.mov (.v 13))⟩,
⟨.l, none, .op (.bin .add .i64 (.l 0) (.c (.int .i64 1)))⟩,
⟨.v 13, none, .op (.mov (.l 0))⟩])))))) (
.seq (
.seq (
.reg [⟨.v 14, none, .op (.mov (.c (.int .i64 2)))⟩]) (
.block 12 (
.loop (
.seq (
.seq (
.reg [⟨.l, none, .op (.mov (.v 14))⟩,
⟨.l, none, .op (.mov (.v 1))⟩,
⟨.v 26, none, .op (.bin .lss .i64 (.l 1) (.l 0))⟩]) (
.ite (.v 26) (
.skip) (
.exit 12))) (
.seq (
.block 13 (
.seq (
.any 9 8 [⟨0, ⟨.v 29, none, .op (.mov (.v 10))⟩, false, []⟩,
⟨1, ⟨.v 30, none, .op (.mov (.v 14))⟩, false, []⟩,
⟨2, ⟨.v 31, none, .op (.ixa 1 (.v 29) (.v 30))⟩, false, []⟩,
⟨3, ⟨.v 32, none, .op (.ld false 1 (.v 31))⟩, false, []⟩,
⟨4, ⟨.v 33, none, .op (.mov (.v 10))⟩, false, []⟩,
⟨5, ⟨.v 34, none, .op (.ixa 1 (.v 33) (.c (.int .i64 1)))⟩, false, []⟩,
⟨6, ⟨.v 35, none, .op (.ld false 1 (.v 34))⟩, false, []⟩,
⟨7, ⟨.v 36, none, .call 19 [(.v 32), (.v 35)]⟩, false, []⟩,
⟨8, ⟨.v 27, none, .op (.not (.v 36))⟩, false, []⟩]) (
.ite (.v 27) (
.seq (
.reg [⟨.v 3, none, .op (.mov (.c .nils))⟩,
⟨.v 4, none, .op (.mov (.c (.bool false)))⟩]) (
.ret)) (
.skip)))) (
.reg [⟨.l, none, .op (.mov (.v 14))⟩,
⟨.l, none, .op (.bin .add .i64 (.l 0) (.c (.int .i64 1)))⟩,
⟨.v 14, none, .op (.mov (.l 0))⟩])))))) (
.seq (
.reg [⟨.l, none, .op (.mov (.v 10))⟩,
⟨.l, none, .op (.ixa 1 (.l 0) (.c (.int .i64 0)))⟩,
⟨.l, none, .op (.ld false 1 (.l 0))⟩,
⟨.v 15, none, .op (.mov (.l 0))⟩]) (
.seq (
.seq (
.reg [⟨.v 16, none, .op (.mov (.c (.int .i64 0)))⟩]) (
.block 14 (
.loop (
.seq (
.seq (
.reg [⟨.l, none, .op (.mov (.v 16))⟩,
⟨.l, none, .op (.mov (.v 15))⟩,
⟨.l, none, .op (.lens (.l 0))⟩,
⟨.v 28, none, .op (.bin .lss .i64 (.l 2) (.l 0))⟩]) (
.ite (.v 28) (
.skip) (
.exit 14))) (
.seq (
.block 15 (
.any 15 14 [⟨0, ⟨.v 29, none, .op (.mov (.v 15))⟩, false, []⟩,
⟨1, ⟨.v 30, none, .op (.mov (.v 16))⟩, false, []⟩,
⟨2, ⟨.v 31, none, .op (.mov (.v 15))⟩, false, []⟩,
⟨3, ⟨.v 32, none, .op (.mov (.v 16))⟩, false, []⟩,
⟨4, ⟨.v 33, none, .op (.ixa 1 (.v 31) (.v 32))⟩, false, []⟩,
⟨5, ⟨.v 34, none, .op (.ld false 1 (.v 33))⟩, false, []⟩,
⟨6, ⟨.v 35, none, .op (.mov (.v 10))⟩, false, []⟩,
⟨7, ⟨.v 36, none, .op (.ixa 1 (.v 35) (.c (.int .i64 1)))⟩, false, []⟩,
⟨8, ⟨.v 37, none, .op (.ld false 1 (.v 36))⟩, false, []⟩,
⟨9, ⟨.v 38, none, .op (.mov (.v 16))⟩, false, []⟩,
⟨10, ⟨.v 39, none, .op (.ixa 1 (.v 37) (.v 38))⟩, false, []⟩,
⟨11, ⟨.v 40, none, .op (.ld false 1 (.v 39))⟩, false, []⟩,
⟨12, ⟨.v 41, none, .op (.bin .sub .i64 (.v 34) (.v 40))⟩, false, []⟩,
⟨13, ⟨.v 42, none, .op (.ixa 1 (.v 29) (.v 30))⟩, false, []⟩,
⟨14, ⟨.n, none, .op (.st 1 (.v 42) (.v 41))⟩, false, []⟩])) (
.reg [⟨.l, none, .op (.mov (.v 16))⟩,
⟨.l, none, .op (.bin .add .i64 (.l 0) (.c (.int .i64 1)))⟩,
⟨.v 16, none, .op (.mov (.l 0))⟩])))))) (
.seq (
.reg [⟨.l, none, .op (.mov (.v 15))⟩,
⟨.v 3, none, .op (.mov (.l 0))⟩,
⟨.v 4, none, .op (.mov (.c (.bool true)))⟩]) (
.ret))))))))))))))⟩
/- 78 cmp.isNaN[int] -/
abbrev n_cmp_isNaN_int : Nat := 78
def c_cmp_isNaN_int : Ay.Fn := ⟨1, [some 0, none], [.v 1],
.seq (
.reg [⟨.v 1, none, .op (.mov (.c (.bool false)))⟩]) (
.seq (
.reg [⟨.l, none, .op (.mov (.v 0))⟩,
⟨.l, none, .op (.mov (.v 0))⟩,
⟨.l, none, .op (.bin .neq .i64 (.l 1) (.l 0))⟩,
⟨.v 1, none, .op (.mov (.l 0))⟩]) (
.ret))⟩
/- 79 cayley/cayleykit.Own[int] -/
abbrev n_kit_Own_int : Nat := 79
def c_kit_Own_int : Ay.Fn := ⟨1, [some 0, none], [.v 1],
.seq (
.reg [⟨.v 1, none, .op (.mov (.c .nils))⟩]) (
.seq (
.reg [⟨.l, none, .op (.bls 1 [(.int .i64 0)] 0 [])⟩,
⟨.l, none, .op (.mov (.v 0))⟩,
⟨.l, none, .op (.app 1 8 (.l 1) (.l 0))⟩,
⟨.v 1, none, .op (.mov (.l 0))⟩]) (
.ret))⟩
/- 80 cayley/cyclo.primes part 1 -/
abbrev n_cyclo_primes_1 : Nat := 80
def c_cyclo_primes_1 : Ay.Fn := ⟨2, [some 0, some 1, none, none, none, none, none], [],
.seq (
.reg [⟨.v 2, none, .op (.mov (.c (.int .i64 2)))⟩]) (
.block 0 (
.loop (
.seq (
.seq (
.reg [⟨.l, none, .op (.ld false 1 (.v 1))⟩,
⟨.v 3, none, .op (.bin .gtr .i64 (.l 0) (.c (.int .i64 1)))⟩]) (
.ite (.v 3) (
.skip) (
.exit 0))) (
.seq (
.block 1 (
.seq (
.seq (
.reg [⟨.l, none, .op (.ld false 1 (.v 1))⟩,
⟨.l, none, .op (.mov (.v 2))⟩,
⟨.l, none, .op (.bin .rem .i64 (.l 1) (.l 0))⟩,
⟨.v 4, none, .op (.bin .gtr .i64 (.l 0) (.c (.int .i64 0)))⟩]) (
.ite (.v 4) (
.exit 1) (
.skip))) (
.seq (
.block 2 (
.loop (
.seq (
.seq (
.reg [⟨.l, none, .op (.ld false 1 (.v 1))⟩,
⟨.l, none, .op (.mov (.v 2))⟩,
⟨.l, none, .op (.bin .rem .i64 (.l 1) (.l 0))⟩,
⟨.v 5, none, .op (.bin .eql .i64 (.l 0) (.c (.int .i64 0)))⟩]) (
.ite (.v 5) (
.skip) (
.exit 2))) (
.block 3 (
.reg [⟨.l, none, .op (.ld false 1 (.v 1))⟩,
⟨.l, none, .op (.mov (.v 2))⟩,
⟨.l, none, .op (.bin .quo .i64 (.l 1) (.l 0))⟩,
⟨.n, none, .op (.st 1 (.v 1) (.l 0))⟩]))))) (
.seq (
.reg [⟨.l, none, .op (.mov (.v 0))⟩,
⟨.l, none, .op (.mov (.v 2))⟩,
⟨.l, none, .callv (.l 1) [(.l 0)]⟩,
⟨.v 6, none, .op (.not (.l 0))⟩]) (
.ite (.v 6) (
.ret) (
.skip)))))) (
.reg [⟨.l, none, .op (.mov (.v 2))⟩,
⟨.l, none, .op (.bin .add .i64 (.l 0) (.c (.int .i64 1)))⟩,
⟨.v 2, none, .op (.mov (.l 0))⟩])))))⟩
/- 81 (ptr cayley/cyclo.table).lower part 1 -/
abbrev n_cyclo_table_lower_1 : Nat := 81
def c_cyclo_table_lower_1 : Ay.Fn := ⟨1, [some 0, none], [.v 1],
.seq (
.reg [⟨.v 1, none, .op (.mov (.c (.bool false)))⟩]) (
.seq (
.reg [⟨.l, none, .op (.mov (.v 0))⟩,
⟨.l, none, .op (.bin .neq .i64 (.l 0) (.c (.int .i64 0)))⟩,
⟨.v 1, none, .op (.mov (.l 0))⟩]) (
.ret))⟩
/- 82 cayley/cyclo.inverse -/
abbrev n_cyclo_inverse : Nat := 82
def c_cyclo_inverse : Ay.Fn := ⟨2, [some 0, some 1, none, none, none], [.v 2],
.seq (
.reg [⟨.v 2, none, .op (.mov (.c (.int .i64 0)))⟩]) (
.seq (
.reg [⟨.v 3, none, .op (.mov (.c (.int .i64 0)))⟩]) (
.seq (
.block 0 (
.loop (
.seq (
.seq (
.any 8 7 [⟨0, ⟨.v 5, none, .op (.mov (.v 0))⟩, false, []⟩,
⟨1, ⟨.v 6, none, .op (.mov (.v 3))⟩, false, []⟩,
⟨2, ⟨.v 7, none, .op (.bin .mul .i64 (.v 5) (.v 6))⟩, false, []⟩,
⟨3, ⟨.v 8, none, .op (.mov (.v 1))⟩, false, []⟩,
⟨4, ⟨.v 9, none, .op (.bin .rem .i64 (.v 7) (.v 8))⟩, false, []⟩,
⟨5, ⟨.v 10, none, .op (.mov (.v 1))⟩, false, []⟩,
⟨6, ⟨.v 11, none, .op (.bin .rem .i64 (.c (.int .i64 1)) (.v 10))⟩, false, []⟩,
⟨7, ⟨.v 4, none, .op (.bin .neq .i64 (.v 9) (.v 11))⟩, false, []⟩]) (
.ite (.v 4) (
.skip) (
.exit 0))) (
.block 1 (
.reg [⟨.l, none, .op (.mov (.v 3))⟩,
⟨.l, none, .op (.bin .add .i64 (.l 0) (.c (.int .i64 1)))⟩,
⟨.v 3, none, .op (.mov (.l 0))⟩]))))) (
.seq (
.reg [⟨.l, none, .op (.mov (.v 3))⟩,
⟨.v 2, none, .op (.mov (.l 0))⟩]) (
.ret))))⟩
/- 83 slices.Equal[[]int,int] -/
abbrev n_slices_Equal_int_int : Nat := 83
def c_slices_Equal_int_int : Ay.Fn := ⟨2, [some 0, some 1, none, none, none, none, none, none, none], [.v 2],
.seq (
.reg [⟨.v 2, none, .op (.mov (.c (.bool false)))⟩]) (
.seq (
.seq (
.reg [⟨.l, none, .op (.mov (.v 0))⟩,
⟨.l, none, .op (.lens (.l 0))⟩,
⟨.l, none, .op (.mov (.v 1))⟩,
⟨.l, none, .op (.lens (.l 0))⟩,
⟨.v 4, none, .op (.bin .neq .i64 (.l 2) (.l 0))⟩]) (
.ite (.v 4) (
.seq (
.reg [⟨.v 2, none, .op (.mov (.c (.bool false)))⟩]) (
.ret)) (
.skip))) (
.seq (
.seq (
.reg [⟨.l, none, .op (.mov (.v 0))⟩,
⟨.v 5, none, .op (.lens (.l 0))⟩,
⟨.v 6, none, .op (.mov (.c (.int .i64 0)))⟩]) (
.block 0 (
.loop (
.seq (
.reg [⟨.v 7, none, .op (.bin .lss .i64 (.v 6) (.v 5))⟩]) (
.seq (
.ite (.v 7) (
.skip) (
.exit 0)) (
.seq (
.block 1 (
.seq (
.reg [⟨.l, none, .op (.mov (.v 6))⟩,
⟨.v 3, none, .op (.mov (.l 0))⟩]) (
.seq (
.any 9 8 [⟨0, ⟨.v 9, none, .op (.mov (.v 0))⟩, false, []⟩,
⟨1, ⟨.v 10, none, .op (.mov (.v 3))⟩, false, []⟩,
⟨2, ⟨.v 11, none, .op (.ixa 1 (.v 9) (.v 10))⟩, false, []⟩,
⟨3, ⟨.v 12, none, .op (.ld false 1 (.v 11))⟩, false, []⟩,
⟨4, ⟨.v 13, none, .op (.mov (.v 1))⟩, false, []⟩,
⟨5, ⟨.v 14, none, .op (.mov (.v 3))⟩, false, []⟩,
⟨6, ⟨.v 15, none, .op (.ixa 1 (.v 13) (.v 14))⟩, false, []⟩,
⟨7, ⟨.v 16, none, .op (.ld false 1 (.v 15))⟩, false, []⟩,
⟨8, ⟨.v 8, none, .op (.bin .neq .i64 (.v 12) (.v 16))⟩, false, []⟩]) (
.ite (.v 8) (
.seq (
.reg [⟨.v 2, none, .op (.mov (.c (.bool false)))⟩]) (
.ret)) (
.skip))))) (
.reg [⟨.l, none, .op (.bin .add .i64 (.v 6) (.c (.int .i64 1)))⟩,
⟨.v 6, none, .op (.mov (.l 0))⟩]))))))) (
.seq (
.reg [⟨.v 2, none, .op (.mov (.c (.bool true)))⟩]) (
.ret))))⟩
def tab : List (Nat × Ay.Fn) := [(3, c_law06_CycloMakes), (4, c_law06_CycloLeast), (5, c_law06_CycloGalois), (6, c_law06_CycloSums), (7, c_law06_CycloRing), (8, c_law06_CycloCalls), (9, c_law06_CycloNames), (10, c_law06_lives), (11, c_cyclo_Phi), (12, c_ref06_Phi), (13, c_cyclo_Make), (14, c_ref06_Make), (15, c_cyclo_Root), (16, c_ref06_Root), (17, c_cyclo_Int), (18, c_ref06_Int), (19, c_kit_Same_int), (20, c_law06_same), (21, c_law06_order), (22, c_kit_Pick), (23, c_kit_Taker_Take), (24, c_cyclo_Check), (25, c_law06_odd), (26, c_cyclo_Galois), (27, c_law06_prime), (28, c_law06_small), (29, c_cyclo_Add), (30, c_cyclo_Mul), (31, c_cyclo_Conj), (32, c_law06_is), (33, c_cyclo_Rational), (34, c_cyclo_Scale), (35, c_cyclo_Quot), (36, c_ref06_Add), (37, c_ref06_Mul), (38, c_ref06_Scale), (39, c_ref06_Quot), (40, c_ref06_Galois), (41, c_ref06_Conj), (42, c_ref06_Rational), (43, c_ref06_Check), (44, c_cyclo_Cmp), (45, c_ref06_Cmp), (46, c_law06_root), (47, c_law06_bad), (48, c_cyclo_begin), (49, c_cyclo_table_phi), (50, c_ref06_phi), (51, c_slices_ContainsFunc_int_int), (52, c_cyclo_over), (53, c_cyclo_made), (54, c_ref06_over), (55, c_ref06_add), (56, c_ref06_made), (57, c_cyclo_residue), (58, c_cyclo_table_least), (59, c_cyclo_gcd), (60, c_cyclo_common), (61, c_slices_Clone_int_int), (62, c_ref06_both), (63, c_ref06_gcd), (64, c_ref06_least), (65, c_cmp_Or_int), (66, c_cmp_Compare_int), (67, c_slices_Compare_int_int), (68, c_ref06_sign), (69, c_cyclo_divide_int), (70, c_ref06_divide), (71, c_slices_IndexFunc_int_int), (72, c_cyclo_table_reduced), (73, c_ref06_reduced), (74, c_cyclo_primes), (75, c_cyclo_table_lower), (76, c_cmp_Or_api_Errno), (77, c_ref06_lower), (78, c_cmp_isNaN_int), (79, c_kit_Own_int), (80, c_cyclo_primes_1), (81, c_cyclo_table_lower_1), (82, c_cyclo_inverse), (83, c_slices_Equal_int_int)]
def T : Nat → Option Ay.Fn := Ay.find tab
theorem t_law06_CycloMakes : T 3 = some c_law06_CycloMakes := rfl
theorem t_law06_CycloLeast : T 4 = some c_law06_CycloLeast := rfl
theorem t_law06_CycloGalois : T 5 = some c_law06_CycloGalois := rfl
theorem t_law06_CycloSums : T 6 = some c_law06_CycloSums := rfl
theorem t_law06_CycloRing : T 7 = some c_law06_CycloRing := rfl
theorem t_law06_CycloCalls : T 8 = some c_law06_CycloCalls := rfl
theorem t_law06_CycloNames : T 9 = some c_law06_CycloNames := rfl
theorem t_law06_lives : T 10 = some c_law06_lives := rfl
theorem t_cyclo_Phi : T 11 = some c_cyclo_Phi := rfl
theorem t_ref06_Phi : T 12 = some c_ref06_Phi := rfl
theorem t_cyclo_Make : T 13 = some c_cyclo_Make := rfl
theorem t_ref06_Make : T 14 = some c_ref06_Make := rfl
theorem t_cyclo_Root : T 15 = some c_cyclo_Root := rfl
theorem t_ref06_Root : T 16 = some c_ref06_Root := rfl
theorem t_cyclo_Int : T 17 = some c_cyclo_Int := rfl
theorem t_ref06_Int : T 18 = some c_ref06_Int := rfl
theorem t_kit_Same_int : T 19 = some c_kit_Same_int := rfl
theorem t_law06_same : T 20 = some c_law06_same := rfl
theorem t_law06_order : T 21 = some c_law06_order := rfl
theorem t_kit_Pick : T 22 = some c_kit_Pick := rfl
theorem t_kit_Taker_Take : T 23 = some c_kit_Taker_Take := rfl
theorem t_cyclo_Check : T 24 = some c_cyclo_Check := rfl
theorem t_law06_odd : T 25 = some c_law06_odd := rfl
theorem t_cyclo_Galois : T 26 = some c_cyclo_Galois := rfl
theorem t_law06_prime : T 27 = some c_law06_prime := rfl
theorem t_law06_small : T 28 = some c_law06_small := rfl
theorem t_cyclo_Add : T 29 = some c_cyclo_Add := rfl
theorem t_cyclo_Mul : T 30 = some c_cyclo_Mul := rfl
theorem t_cyclo_Conj : T 31 = some c_cyclo_Conj := rfl
theorem t_law06_is : T 32 = some c_law06_is := rfl
theorem t_cyclo_Rational : T 33 = some c_cyclo_Rational := rfl
theorem t_cyclo_Scale : T 34 = some c_cyclo_Scale := rfl
theorem t_cyclo_Quot : T 35 = some c_cyclo_Quot := rfl
theorem t_ref06_Add : T 36 = some c_ref06_Add := rfl
theorem t_ref06_Mul : T 37 = some c_ref06_Mul := rfl
theorem t_ref06_Scale : T 38 = some c_ref06_Scale := rfl
theorem t_ref06_Quot : T 39 = some c_ref06_Quot := rfl
theorem t_ref06_Galois : T 40 = some c_ref06_Galois := rfl
theorem t_ref06_Conj : T 41 = some c_ref06_Conj := rfl
theorem t_ref06_Rational : T 42 = some c_ref06_Rational := rfl
theorem t_ref06_Check : T 43 = some c_ref06_Check := rfl
theorem t_cyclo_Cmp : T 44 = some c_cyclo_Cmp := rfl
theorem t_ref06_Cmp : T 45 = some c_ref06_Cmp := rfl
theorem t_law06_root : T 46 = some c_law06_root := rfl
theorem t_law06_bad : T 47 = some c_law06_bad := rfl
theorem t_cyclo_begin : T 48 = some c_cyclo_begin := rfl
theorem t_cyclo_table_phi : T 49 = some c_cyclo_table_phi := rfl
theorem t_ref06_phi : T 50 = some c_ref06_phi := rfl
theorem t_slices_ContainsFunc_int_int : T 51 = some c_slices_ContainsFunc_int_int := rfl
theorem t_cyclo_over : T 52 = some c_cyclo_over := rfl
theorem t_cyclo_made : T 53 = some c_cyclo_made := rfl
theorem t_ref06_over : T 54 = some c_ref06_over := rfl
theorem t_ref06_add : T 55 = some c_ref06_add := rfl
theorem t_ref06_made : T 56 = some c_ref06_made := rfl
theorem t_cyclo_residue : T 57 = some c_cyclo_residue := rfl
theorem t_cyclo_table_least : T 58 = some c_cyclo_table_least := rfl
theorem t_cyclo_gcd : T 59 = some c_cyclo_gcd := rfl
theorem t_cyclo_common : T 60 = some c_cyclo_common := rfl
theorem t_slices_Clone_int_int : T 61 = some c_slices_Clone_int_int := rfl
theorem t_ref06_both : T 62 = some c_ref06_both := rfl
theorem t_ref06_gcd : T 63 = some c_ref06_gcd := rfl
theorem t_ref06_least : T 64 = some c_ref06_least := rfl
theorem t_cmp_Or_int : T 65 = some c_cmp_Or_int := rfl
theorem t_cmp_Compare_int : T 66 = some c_cmp_Compare_int := rfl
theorem t_slices_Compare_int_int : T 67 = some c_slices_Compare_int_int := rfl
theorem t_ref06_sign : T 68 = some c_ref06_sign := rfl
theorem t_cyclo_divide_int : T 69 = some c_cyclo_divide_int := rfl
theorem t_ref06_divide : T 70 = some c_ref06_divide := rfl
theorem t_slices_IndexFunc_int_int : T 71 = some c_slices_IndexFunc_int_int := rfl
theorem t_cyclo_table_reduced : T 72 = some c_cyclo_table_reduced := rfl
theorem t_ref06_reduced : T 73 = some c_ref06_reduced := rfl
theorem t_cyclo_primes : T 74 = some c_cyclo_primes := rfl
theorem t_cyclo_table_lower : T 75 = some c_cyclo_table_lower := rfl
theorem t_cmp_Or_api_Errno : T 76 = some c_cmp_Or_api_Errno := rfl
theorem t_ref06_lower : T 77 = some c_ref06_lower := rfl
theorem t_cmp_isNaN_int : T 78 = some c_cmp_isNaN_int := rfl
theorem t_kit_Own_int : T 79 = some c_kit_Own_int := rfl
theorem t_cyclo_primes_1 : T 80 = some c_cyclo_primes_1 := rfl
theorem t_cyclo_table_lower_1 : T 81 = some c_cyclo_table_lower_1 := rfl
theorem t_cyclo_inverse : T 82 = some c_cyclo_inverse := rfl
theorem t_slices_Equal_int_int : T 83 = some c_slices_Equal_int_int := rfl
end Go.Proofs.Ythfabknpogbcaaa
