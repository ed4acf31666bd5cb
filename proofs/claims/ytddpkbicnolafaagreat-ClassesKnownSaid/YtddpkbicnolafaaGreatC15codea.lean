/- The functions of the seat, as code of the abstract machine. -/
import Derived.Test.YtddpkbicnolafaaGreatAy25
namespace Go.Proofs.YtddpkbicnolafaaGreat
open Go Go.Ay
set_option maxRecDepth 100000
/- 6 cayley/cayleylaw15.ClassesKnown -/
def c_law15_ClassesKnown : Ay.Fn := ⟨0, [none, none, none, none, none, none, none, none, none, none, none, none, none, none, none, none, none, none, none, none, none, none, none, none, none, none, none, none, none, none, none], [.v 0],
.seq (
.reg [⟨.v 0, none, .op (.mov (.c (.bool false)))⟩]) (
.seq (
.reg [⟨.l, none, .call 33 []⟩,
⟨.l, none, .op (.mov (.l 0))⟩,
⟨.l, none, .op (.ext (.l 0) 0)⟩,
⟨.l, none, .op (.ext (.l 1) 1)⟩,
⟨.l, none, .op (.ext (.l 2) 2)⟩,
⟨.v 1, none, .op (.alc [(.int .i64 0), .nils, .nils])⟩,
⟨.v 2, none, .op (.alc [(.int .i64 0), .nils, .nils])⟩,
⟨.v 3, none, .op (.alc [(.int .i64 0), .nils, .nils])⟩,
⟨.n, none, .op (.st 3 (.v 1) (.l 2))⟩,
⟨.n, none, .op (.st 3 (.v 2) (.l 1))⟩,
⟨.n, none, .op (.st 3 (.v 3) (.l 0))⟩]) (
.seq (
.reg [⟨.l, none, .op (.ld true 3 (.v 1))⟩,
⟨.l, none, .call 22 [(.l 0)]⟩,
⟨.l, none, .op (.mov (.l 0))⟩,
⟨.l, none, .op (.ext (.l 0) 0)⟩,
⟨.l, none, .op (.ext (.l 1) 1)⟩,
⟨.v 4, none, .op (.mov (.l 1))⟩,
⟨.v 5, none, .op (.mov (.l 0))⟩]) (
.seq (
.reg [⟨.l, none, .op (.ld true 3 (.v 1))⟩,
⟨.l, none, .op (.bls 1 [(.int .i64 0)] 3 [(0, 1, (.c (.int .i64 2))), (1, 1, (.c (.int .i64 0))), (2, 1, (.c (.int .i64 1)))])⟩,
⟨.l, none, .call 24 [(.l 1), (.l 0)]⟩,
⟨.l, none, .op (.mov (.l 0))⟩,
⟨.l, none, .op (.ext (.l 0) 0)⟩,
⟨.l, none, .op (.ext (.l 1) 1)⟩,
⟨.v 6, none, .op (.mov (.l 1))⟩,
⟨.v 7, none, .op (.mov (.l 0))⟩]) (
.seq (
.reg [⟨.l, none, .op (.ld true 3 (.v 1))⟩,
⟨.l, none, .call 12 [(.l 0), (.c (.int .i64 2))]⟩,
⟨.l, none, .op (.mov (.l 0))⟩,
⟨.l, none, .op (.ext (.l 0) 0)⟩,
⟨.l, none, .op (.ext (.l 1) 1)⟩,
⟨.v 8, none, .op (.mov (.l 1))⟩,
⟨.v 9, none, .op (.mov (.l 0))⟩]) (
.seq (
.reg [⟨.l, none, .op (.ld true 3 (.v 1))⟩,
⟨.l, none, .call 12 [(.l 0), (.c (.int .i64 (-1)))]⟩,
⟨.l, none, .op (.mov (.l 0))⟩,
⟨.l, none, .op (.ext (.l 0) 0)⟩,
⟨.l, none, .op (.ext (.l 1) 1)⟩,
⟨.v 10, none, .op (.mov (.l 1))⟩,
⟨.v 11, none, .op (.mov (.l 0))⟩]) (
.seq (
.reg [⟨.l, none, .op (.mov (.v 5))⟩,
⟨.l, none, .op (.bin .eql .i64 (.l 0) (.c (.int .i64 0)))⟩,
⟨.l, none, .op (.mov (.l 0))⟩,
⟨.l, some ((.l 0), true), .op (.mov (.v 4))⟩,
⟨.l, some ((.l 1), true), .op (.bls 1 [(.int .i64 0)] 6 [(0, 1, (.c (.int .i64 0))), (1, 1, (.c (.int .i64 1))), (2, 1, (.c (.int .i64 1))), (3, 1, (.c (.int .i64 2))), (4, 1, (.c (.int .i64 2))), (5, 1, (.c (.int .i64 1)))])⟩,
⟨.l, some ((.l 2), true), .call 18 [(.l 1), (.l 0)]⟩,
⟨.l, none, .op (.pick (.l 3) (.l 0) (.c (.bool false)))⟩,
⟨.l, none, .op (.mov (.l 0))⟩,
⟨.l, some ((.l 0), true), .op (.mov (.v 6))⟩,
⟨.l, some ((.l 1), true), .op (.bin .eql .i64 (.l 0) (.c (.int .i64 2)))⟩,
⟨.l, none, .op (.pick (.l 2) (.l 0) (.c (.bool false)))⟩,
⟨.l, none, .op (.mov (.l 0))⟩,
⟨.l, some ((.l 0), true), .op (.mov (.v 7))⟩,
⟨.l, some ((.l 1), true), .op (.bin .eql .i64 (.l 0) (.c (.int .i64 0)))⟩,
⟨.l, none, .op (.pick (.l 2) (.l 0) (.c (.bool false)))⟩,
⟨.l, none, .op (.mov (.l 0))⟩,
⟨.l, some ((.l 0), true), .op (.mov (.v 9))⟩,
⟨.l, some ((.l 1), true), .op (.bin .eql .i64 (.l 0) (.c (.int .i64 0)))⟩,
⟨.l, none, .op (.pick (.l 2) (.l 0) (.c (.bool false)))⟩,
⟨.l, none, .op (.mov (.l 0))⟩,
⟨.l, some ((.l 0), true), .op (.mov (.v 8))⟩,
⟨.l, some ((.l 1), true), .op (.bls 1 [(.int .i64 0)] 3 [(0, 1, (.c (.int .i64 0))), (1, 1, (.c (.int .i64 0))), (2, 1, (.c (.int .i64 2)))])⟩,
⟨.l, some ((.l 2), true), .call 18 [(.l 1), (.l 0)]⟩,
⟨.l, none, .op (.pick (.l 3) (.l 0) (.c (.bool false)))⟩,
⟨.l, none, .op (.mov (.l 0))⟩,
⟨.l, some ((.l 0), true), .op (.mov (.v 11))⟩,
⟨.l, some ((.l 1), true), .op (.bin .eql .i64 (.l 0) (.c (.int .i64 0)))⟩,
⟨.l, none, .op (.pick (.l 2) (.l 0) (.c (.bool false)))⟩,
⟨.l, none, .op (.mov (.l 0))⟩,
⟨.l, some ((.l 0), true), .op (.mov (.v 10))⟩,
⟨.l, some ((.l 1), true), .op (.bls 1 [(.int .i64 0)] 3 [(0, 1, (.c (.int .i64 0))), (1, 1, (.c (.int .i64 1))), (2, 1, (.c (.int .i64 2)))])⟩,
⟨.l, some ((.l 2), true), .call 18 [(.l 1), (.l 0)]⟩,
⟨.l, none, .op (.pick (.l 3) (.l 0) (.c (.bool false)))⟩,
⟨.v 12, none, .op (.mov (.l 0))⟩]) (
.seq (
.reg [⟨.l, none, .op (.ld true 3 (.v 2))⟩,
⟨.l, none, .call 20 [(.l 0)]⟩,
⟨.l, none, .op (.mov (.l 0))⟩,
⟨.l, none, .op (.ext (.l 0) 0)⟩,
⟨.l, none, .op (.ext (.l 1) 1)⟩,
⟨.v 13, none, .op (.mov (.l 1))⟩,
⟨.v 14, none, .op (.mov (.l 0))⟩]) (
.seq (
.reg [⟨.l, none, .op (.ld true 3 (.v 2))⟩,
⟨.l, none, .call 16 [(.l 0)]⟩,
⟨.l, none, .op (.mov (.l 0))⟩,
⟨.l, none, .op (.ext (.l 0) 0)⟩,
⟨.l, none, .op (.ext (.l 1) 1)⟩,
⟨.v 15, none, .op (.mov (.l 1))⟩,
⟨.v 16, none, .op (.mov (.l 0))⟩]) (
.seq (
.reg [⟨.l, none, .op (.ld true 3 (.v 2))⟩,
⟨.l, none, .call 14 [(.l 0)]⟩,
⟨.l, none, .op (.mov (.l 0))⟩,
⟨.l, none, .op (.ext (.l 0) 0)⟩,
⟨.l, none, .op (.ext (.l 1) 1)⟩,
⟨.v 17, none, .op (.mov (.l 1))⟩,
⟨.v 18, none, .op (.mov (.l 0))⟩]) (
.seq (
.reg [⟨.l, none, .op (.mov (.v 14))⟩,
⟨.l, none, .op (.bin .eql .i64 (.l 0) (.c (.int .i64 0)))⟩,
⟨.l, none, .op (.mov (.l 0))⟩,
⟨.l, some ((.l 0), true), .op (.mov (.v 13))⟩,
⟨.l, some ((.l 1), true), .op (.bls 1 [(.int .i64 0)] 4 [(0, 1, (.c (.int .i64 0))), (1, 1, (.c (.int .i64 1))), (2, 1, (.c (.int .i64 2))), (3, 1, (.c (.int .i64 3)))])⟩,
⟨.l, some ((.l 2), true), .op (.bld [.nils, (.int .i64 0), (.int .i64 0)] [(0, 1, (.l 0)), (1, 1, (.c (.int .i64 1))), (2, 1, (.c (.int .i64 1)))])⟩,
⟨.l, some ((.l 3), true), .op (.bls 1 [(.int .i64 0)] 4 [(0, 1, (.c (.int .i64 2))), (1, 1, (.c (.int .i64 3))), (2, 1, (.c (.int .i64 0))), (3, 1, (.c (.int .i64 1)))])⟩,
⟨.l, some ((.l 4), true), .op (.bld [.nils, (.int .i64 0), (.int .i64 0)] [(0, 1, (.l 0)), (1, 1, (.c (.int .i64 2))), (2, 1, (.c (.int .i64 1)))])⟩,
⟨.l, some ((.l 5), true), .op (.bls 1 [(.int .i64 0)] 4 [(0, 1, (.c (.int .i64 1))), (1, 1, (.c (.int .i64 2))), (2, 1, (.c (.int .i64 3))), (3, 1, (.c (.int .i64 0)))])⟩,
⟨.l, some ((.l 6), true), .op (.bld [.nils, (.int .i64 0), (.int .i64 0)] [(0, 1, (.l 0)), (1, 1, (.c (.int .i64 4))), (2, 1, (.c (.int .i64 1)))])⟩,
⟨.l, some ((.l 7), true), .op (.bls 1 [(.int .i64 0)] 4 [(0, 1, (.c (.int .i64 3))), (1, 1, (.c (.int .i64 0))), (2, 1, (.c (.int .i64 1))), (3, 1, (.c (.int .i64 2)))])⟩,
⟨.l, some ((.l 8), true), .op (.bld [.nils, (.int .i64 0), (.int .i64 0)] [(0, 1, (.l 0)), (1, 1, (.c (.int .i64 4))), (2, 1, (.c (.int .i64 1)))])⟩,
⟨.l, some ((.l 9), true), .op (.bls 3 [.nils, (.int .i64 0), (.int .i64 0)] 4 [(0, 3, (.l 6)), (3, 3, (.l 4)), (6, 3, (.l 2)), (9, 3, (.l 0))])⟩,
⟨.l, some ((.l 10), true), .call 26 [(.l 9), (.l 0)]⟩,
⟨.l, none, .op (.pick (.l 11) (.l 0) (.c (.bool false)))⟩,
⟨.l, none, .op (.mov (.l 0))⟩,
⟨.l, some ((.l 0), true), .op (.mov (.v 16))⟩,
⟨.l, some ((.l 1), true), .op (.bin .eql .i64 (.l 0) (.c (.int .i64 0)))⟩,
⟨.l, none, .op (.pick (.l 2) (.l 0) (.c (.bool false)))⟩,
⟨.l, none, .op (.mov (.l 0))⟩,
⟨.l, some ((.l 0), true), .op (.mov (.v 15))⟩,
⟨.l, some ((.l 1), true), .op (.bls 1 [(.bool false)] 4 [(0, 1, (.c (.bool true))), (1, 1, (.c (.bool true))), (2, 1, (.c (.bool false))), (3, 1, (.c (.bool false)))])⟩,
⟨.l, some ((.l 2), true), .call 19 [(.l 1), (.l 0)]⟩,
⟨.l, none, .op (.pick (.l 3) (.l 0) (.c (.bool false)))⟩,
⟨.l, none, .op (.mov (.l 0))⟩,
⟨.l, some ((.l 0), true), .op (.mov (.v 17))⟩,
⟨.l, some ((.l 1), true), .op (.bin .eql .i64 (.l 0) (.c (.int .i64 4)))⟩,
⟨.l, none, .op (.pick (.l 2) (.l 0) (.c (.bool false)))⟩,
⟨.l, none, .op (.mov (.l 0))⟩,
⟨.l, some ((.l 0), true), .op (.mov (.v 18))⟩,
⟨.l, some ((.l 1), true), .op (.bin .eql .i64 (.l 0) (.c (.int .i64 0)))⟩,
⟨.l, none, .op (.pick (.l 2) (.l 0) (.c (.bool false)))⟩,
⟨.v 19, none, .op (.mov (.l 0))⟩]) (
.seq (
.reg [⟨.l, none, .op (.ld true 3 (.v 3))⟩,
⟨.l, none, .call 20 [(.l 0)]⟩,
⟨.l, none, .op (.mov (.l 0))⟩,
⟨.l, none, .op (.ext (.l 0) 0)⟩,
⟨.l, none, .op (.ext (.l 1) 1)⟩,
⟨.v 20, none, .op (.mov (.l 1))⟩,
⟨.v 21, none, .op (.mov (.l 0))⟩]) (
.seq (
.reg [⟨.l, none, .op (.ld true 3 (.v 3))⟩,
⟨.l, none, .call 16 [(.l 0)]⟩,
⟨.l, none, .op (.mov (.l 0))⟩,
⟨.l, none, .op (.ext (.l 0) 0)⟩,
⟨.l, none, .op (.ext (.l 1) 1)⟩,
⟨.v 22, none, .op (.mov (.l 1))⟩,
⟨.v 23, none, .op (.mov (.l 0))⟩]) (
.seq (
.reg [⟨.l, none, .op (.mov (.v 21))⟩,
⟨.l, none, .op (.bin .eql .i64 (.l 0) (.c (.int .i64 0)))⟩,
⟨.l, none, .op (.mov (.l 0))⟩,
⟨.l, some ((.l 0), true), .op (.mov (.v 20))⟩,
⟨.l, some ((.l 1), true), .op (.lens (.l 0))⟩,
⟨.l, some ((.l 2), true), .op (.bin .eql .i64 (.l 0) (.c (.int .i64 4)))⟩,
⟨.l, none, .op (.pick (.l 3) (.l 0) (.c (.bool false)))⟩,
⟨.l, none, .op (.mov (.l 0))⟩,
⟨.l, some ((.l 0), true), .op (.mov (.v 20))⟩,
⟨.l, some ((.l 1), true), .op (.ixa 3 (.l 0) (.c (.int .i64 1)))⟩,
⟨.l, some ((.l 2), true), .op (.fla 2 (.l 0))⟩,
⟨.l, some ((.l 3), true), .op (.ld false 1 (.l 0))⟩,
⟨.l, some ((.l 4), true), .op (.bin .eql .i64 (.l 0) (.c (.int .i64 3)))⟩,
⟨.l, none, .op (.pick (.l 5) (.l 0) (.c (.bool false)))⟩,
⟨.l, none, .op (.mov (.l 0))⟩,
⟨.l, some ((.l 0), true), .op (.mov (.v 20))⟩,
⟨.l, some ((.l 1), true), .op (.ixa 3 (.l 0) (.c (.int .i64 1)))⟩,
⟨.l, some ((.l 2), true), .op (.fla 1 (.l 0))⟩,
⟨.l, some ((.l 3), true), .op (.ld false 1 (.l 0))⟩,
⟨.l, some ((.l 4), true), .op (.bin .eql .i64 (.l 0) (.c (.int .i64 2)))⟩,
⟨.l, none, .op (.pick (.l 5) (.l 0) (.c (.bool false)))⟩,
⟨.l, none, .op (.mov (.l 0))⟩,
⟨.l, some ((.l 0), true), .op (.mov (.v 20))⟩,
⟨.l, some ((.l 1), true), .op (.ixa 3 (.l 0) (.c (.int .i64 2)))⟩,
⟨.l, some ((.l 2), true), .op (.fla 2 (.l 0))⟩,
⟨.l, some ((.l 3), true), .op (.ld false 1 (.l 0))⟩,
⟨.l, some ((.l 4), true), .op (.bin .eql .i64 (.l 0) (.c (.int .i64 4)))⟩,
⟨.l, none, .op (.pick (.l 5) (.l 0) (.c (.bool false)))⟩,
⟨.l, none, .op (.mov (.l 0))⟩,
⟨.l, some ((.l 0), true), .op (.mov (.v 20))⟩,
⟨.l, some ((.l 1), true), .op (.ixa 3 (.l 0) (.c (.int .i64 2)))⟩,
⟨.l, some ((.l 2), true), .op (.fla 1 (.l 0))⟩,
⟨.l, some ((.l 3), true), .op (.ld false 1 (.l 0))⟩,
⟨.l, some ((.l 4), true), .op (.bin .eql .i64 (.l 0) (.c (.int .i64 3)))⟩,
⟨.l, none, .op (.pick (.l 5) (.l 0) (.c (.bool false)))⟩,
⟨.l, none, .op (.mov (.l 0))⟩,
⟨.l, some ((.l 0), true), .op (.mov (.v 20))⟩,
⟨.l, some ((.l 1), true), .op (.ixa 3 (.l 0) (.c (.int .i64 3)))⟩,
⟨.l, some ((.l 2), true), .op (.fla 2 (.l 0))⟩,
⟨.l, some ((.l 3), true), .op (.ld false 1 (.l 0))⟩,
⟨.l, some ((.l 4), true), .op (.bin .eql .i64 (.l 0) (.c (.int .i64 4)))⟩,
⟨.l, none, .op (.pick (.l 5) (.l 0) (.c (.bool false)))⟩,
⟨.l, none, .op (.mov (.l 0))⟩,
⟨.l, some ((.l 0), true), .op (.mov (.v 23))⟩,
⟨.l, some ((.l 1), true), .op (.bin .eql .i64 (.l 0) (.c (.int .i64 0)))⟩,
⟨.l, none, .op (.pick (.l 2) (.l 0) (.c (.bool false)))⟩,
⟨.l, none, .op (.mov (.l 0))⟩,
⟨.l, some ((.l 0), true), .op (.mov (.v 22))⟩,
⟨.l, some ((.l 1), true), .op (.bls 1 [(.bool false)] 4 [(0, 1, (.c (.bool true))), (1, 1, (.c (.bool true))), (2, 1, (.c (.bool false))), (3, 1, (.c (.bool false)))])⟩,
⟨.l, some ((.l 2), true), .call 19 [(.l 1), (.l 0)]⟩,
⟨.l, none, .op (.pick (.l 3) (.l 0) (.c (.bool false)))⟩,
⟨.v 24, none, .op (.mov (.l 0))⟩]) (
.seq (
.reg [⟨.l, none, .op (.ld true 3 (.v 1))⟩,
⟨.l, none, .call 27 [(.l 0), (.c (.int .i64 2))]⟩,
⟨.l, none, .op (.mov (.l 0))⟩,
⟨.l, none, .op (.ext (.l 0) 0)⟩,
⟨.l, none, .op (.ext (.l 1) 1)⟩,
⟨.v 25, none, .op (.alc [(.int .i64 0), .nils, .nils])⟩,
⟨.n, none, .op (.st 3 (.v 25) (.l 1))⟩,
⟨.v 26, none, .op (.mov (.l 0))⟩]) (
.seq (
.reg [⟨.l, none, .op (.ld true 3 (.v 1))⟩,
⟨.l, none, .call 29 [(.l 0), (.c (.int .i64 1))]⟩,
⟨.l, none, .op (.mov (.l 0))⟩,
⟨.l, none, .op (.ext (.l 0) 0)⟩,
⟨.l, none, .op (.ext (.l 1) 1)⟩,
⟨.v 27, none, .op (.mov (.l 1))⟩,
⟨.v 28, none, .op (.mov (.l 0))⟩]) (
.seq (
.reg [⟨.l, none, .op (.ld true 3 (.v 3))⟩,
⟨.l, none, .op (.bls 1 [(.int .i64 0)] 4 [(0, 1, (.c (.int .i64 1))), (1, 1, (.c (.int .i64 0))), (2, 1, (.c (.int .i64 2))), (3, 1, (.c (.int .i64 3)))])⟩,
⟨.l, none, .call 24 [(.l 1), (.l 0)]⟩,
⟨.l, none, .op (.mov (.l 0))⟩,
⟨.l, none, .op (.ext (.l 0) 0)⟩,
⟨.l, none, .op (.ext (.l 1) 1)⟩,
⟨.l, none, .op (.mov (.l 1))⟩,
⟨.v 29, none, .op (.mov (.l 1))⟩]) (
.seq (
.reg [⟨.l, none, .op (.mov (.v 26))⟩,
⟨.l, none, .op (.bin .eql .i64 (.l 0) (.c (.int .i64 0)))⟩,
⟨.l, none, .op (.mov (.l 0))⟩,
⟨.l, some ((.l 0), true), .op (.fla 1 (.v 25))⟩,
⟨.l, some ((.l 1), true), .op (.ld false 1 (.l 0))⟩,
⟨.l, some ((.l 2), true), .op (.bls 1 [(.int .i64 0)] 3 [(0, 1, (.c (.int .i64 0))), (1, 1, (.c (.int .i64 1))), (2, 1, (.c (.int .i64 2)))])⟩,
⟨.l, some ((.l 3), true), .op (.bls 1 [(.int .i64 0)] 1 [(0, 1, (.c (.int .i64 1)))])⟩,
⟨.l, some ((.l 4), true), .op (.bls 1 [(.int .i64 0)] 1 [(0, 1, (.c (.int .i64 2)))])⟩,
⟨.l, some ((.l 5), true), .op (.bls 1 [.nils] 3 [(0, 1, (.l 2)), (1, 1, (.l 1)), (2, 1, (.l 0))])⟩,
⟨.l, some ((.l 6), true), .call 34 [(.l 4), (.l 0)]⟩,
⟨.l, none, .op (.pick (.l 7) (.l 0) (.c (.bool false)))⟩,
⟨.l, none, .op (.mov (.l 0))⟩,
⟨.l, some ((.l 0), true), .op (.mov (.v 28))⟩,
⟨.l, some ((.l 1), true), .op (.bin .eql .i64 (.l 0) (.c (.int .i64 0)))⟩,
⟨.l, none, .op (.pick (.l 2) (.l 0) (.c (.bool false)))⟩,
⟨.l, none, .op (.mov (.l 0))⟩,
⟨.l, some ((.l 0), true), .op (.mov (.v 27))⟩,
⟨.l, some ((.l 1), true), .op (.bls 1 [(.int .i64 0)] 3 [(0, 1, (.c (.int .i64 0))), (1, 1, (.c (.int .i64 2))), (2, 1, (.c (.int .i64 1)))])⟩,
⟨.l, some ((.l 2), true), .op (.bls 1 [(.int .i64 0)] 3 [(0, 1, (.c (.int .i64 1))), (1, 1, (.c (.int .i64 0))), (2, 1, (.c (.int .i64 2)))])⟩,
⟨.l, some ((.l 3), true), .op (.bls 1 [(.int .i64 0)] 3 [(0, 1, (.c (.int .i64 2))), (1, 1, (.c (.int .i64 1))), (2, 1, (.c (.int .i64 0)))])⟩,
⟨.l, some ((.l 4), true), .op (.bls 1 [.nils] 3 [(0, 1, (.l 2)), (1, 1, (.l 1)), (2, 1, (.l 0))])⟩,
⟨.l, some ((.l 5), true), .call 32 [(.l 4), (.l 0)]⟩,
⟨.l, none, .op (.pick (.l 6) (.l 0) (.c (.bool false)))⟩,
⟨.l, none, .op (.mov (.l 0))⟩,
⟨.l, some ((.l 0), true), .op (.mov (.v 29))⟩,
⟨.l, some ((.l 1), true), .op (.bin .eql .i64 (.l 0) (.c (.int .i64 18)))⟩,
⟨.l, none, .op (.pick (.l 2) (.l 0) (.c (.bool false)))⟩,
⟨.v 30, none, .op (.mov (.l 0))⟩]) (
.seq (
.reg [⟨.l, none, .call 11 []⟩,
⟨.l, none, .op (.mov (.l 0))⟩,
⟨.l, some ((.l 0), true), .op (.mov (.v 12))⟩,
⟨.l, none, .op (.pick (.l 1) (.l 0) (.c (.bool false)))⟩,
⟨.l, none, .op (.mov (.l 0))⟩,
⟨.l, some ((.l 0), true), .op (.mov (.v 19))⟩,
⟨.l, none, .op (.pick (.l 1) (.l 0) (.c (.bool false)))⟩,
⟨.l, none, .op (.mov (.l 0))⟩,
⟨.l, some ((.l 0), true), .op (.mov (.v 24))⟩,
⟨.l, none, .op (.pick (.l 1) (.l 0) (.c (.bool false)))⟩,
⟨.l, none, .op (.mov (.l 0))⟩,
⟨.l, some ((.l 0), true), .op (.mov (.v 30))⟩,
⟨.l, none, .op (.pick (.l 1) (.l 0) (.c (.bool false)))⟩,
⟨.v 0, none, .op (.mov (.l 0))⟩]) (
.ret)))))))))))))))))))⟩
/- 11 cayley/cayleylaw15.awake -/
def c_law15_awake : Ay.Fn := ⟨0, [none, none, none, none, none, none, none, none, none], [.v 0],
.seq (
.reg [⟨.v 0, none, .op (.mov (.c (.bool false)))⟩]) (
.seq (
.reg [⟨.l, none, .call 33 []⟩,
⟨.l, none, .op (.mov (.l 0))⟩,
⟨.l, none, .op (.ext (.l 0) 0)⟩,
⟨.l, none, .op (.ext (.l 1) 1)⟩,
⟨.l, none, .op (.ext (.l 2) 2)⟩,
⟨.v 1, none, .op (.alc [(.int .i64 0), .nils, .nils])⟩,
⟨.v 2, none, .op (.alc [(.int .i64 0), .nils, .nils])⟩,
⟨.l, none, .op (.alc [(.int .i64 0), .nils, .nils])⟩,
⟨.n, none, .op (.st 3 (.v 1) (.l 3))⟩,
⟨.n, none, .op (.st 3 (.v 2) (.l 2))⟩,
⟨.n, none, .op (.st 3 (.l 0) (.l 1))⟩]) (
.seq (
.reg [⟨.l, none, .op (.ld true 3 (.v 1))⟩,
⟨.l, none, .call 20 [(.l 0)]⟩,
⟨.l, none, .op (.mov (.l 0))⟩,
⟨.l, none, .op (.ext (.l 0) 0)⟩,
⟨.l, none, .op (.ext (.l 1) 1)⟩,
⟨.v 3, none, .op (.mov (.l 1))⟩,
⟨.v 4, none, .op (.mov (.l 0))⟩]) (
.seq (
.reg [⟨.l, none, .op (.ld true 3 (.v 2))⟩,
⟨.l, none, .call 12 [(.l 0), (.c (.int .i64 3))]⟩,
⟨.l, none, .op (.mov (.l 0))⟩,
⟨.l, none, .op (.ext (.l 0) 0)⟩,
⟨.l, none, .op (.ext (.l 1) 1)⟩,
⟨.v 5, none, .op (.mov (.l 1))⟩,
⟨.v 6, none, .op (.mov (.l 0))⟩]) (
.seq (
.reg [⟨.l, none, .op (.ld true 3 (.v 1))⟩,
⟨.l, none, .call 14 [(.l 0)]⟩,
⟨.l, none, .op (.mov (.l 0))⟩,
⟨.l, none, .op (.ext (.l 0) 0)⟩,
⟨.l, none, .op (.ext (.l 1) 1)⟩,
⟨.v 7, none, .op (.mov (.l 1))⟩,
⟨.v 8, none, .op (.mov (.l 0))⟩]) (
.seq (
.reg [⟨.l, none, .op (.mov (.v 4))⟩,
⟨.l, none, .op (.bin .eql .i64 (.l 0) (.c (.int .i64 0)))⟩,
⟨.l, none, .op (.mov (.l 0))⟩,
⟨.l, some ((.l 0), true), .op (.mov (.v 3))⟩,
⟨.l, some ((.l 1), true), .op (.bls 1 [(.int .i64 0)] 3 [(0, 1, (.c (.int .i64 0))), (1, 1, (.c (.int .i64 1))), (2, 1, (.c (.int .i64 2)))])⟩,
⟨.l, some ((.l 2), true), .op (.bld [.nils, (.int .i64 0), (.int .i64 0)] [(0, 1, (.l 0)), (1, 1, (.c (.int .i64 1))), (2, 1, (.c (.int .i64 1)))])⟩,
⟨.l, some ((.l 3), true), .op (.bls 1 [(.int .i64 0)] 3 [(0, 1, (.c (.int .i64 0))), (1, 1, (.c (.int .i64 2))), (2, 1, (.c (.int .i64 1)))])⟩,
⟨.l, some ((.l 4), true), .op (.bld [.nils, (.int .i64 0), (.int .i64 0)] [(0, 1, (.l 0)), (1, 1, (.c (.int .i64 2))), (2, 1, (.c (.int .i64 3)))])⟩,
⟨.l, some ((.l 5), true), .op (.bls 1 [(.int .i64 0)] 3 [(0, 1, (.c (.int .i64 1))), (1, 1, (.c (.int .i64 2))), (2, 1, (.c (.int .i64 0)))])⟩,
⟨.l, some ((.l 6), true), .op (.bld [.nils, (.int .i64 0), (.int .i64 0)] [(0, 1, (.l 0)), (1, 1, (.c (.int .i64 3))), (2, 1, (.c (.int .i64 2)))])⟩,
⟨.l, some ((.l 7), true), .op (.bls 3 [.nils, (.int .i64 0), (.int .i64 0)] 3 [(0, 3, (.l 4)), (3, 3, (.l 2)), (6, 3, (.l 0))])⟩,
⟨.l, some ((.l 8), true), .call 26 [(.l 7), (.l 0)]⟩,
⟨.l, none, .op (.pick (.l 9) (.l 0) (.c (.bool false)))⟩,
⟨.l, none, .op (.mov (.l 0))⟩,
⟨.l, some ((.l 0), true), .op (.mov (.v 6))⟩,
⟨.l, some ((.l 1), true), .op (.bin .eql .i64 (.l 0) (.c (.int .i64 0)))⟩,
⟨.l, none, .op (.pick (.l 2) (.l 0) (.c (.bool false)))⟩,
⟨.l, none, .op (.mov (.l 0))⟩,
⟨.l, some ((.l 0), true), .op (.mov (.v 5))⟩,
⟨.l, some ((.l 1), true), .op (.bls 1 [(.int .i64 0)] 4 [(0, 1, (.c (.int .i64 0))), (1, 1, (.c (.int .i64 1))), (2, 1, (.c (.int .i64 3))), (3, 1, (.c (.int .i64 2)))])⟩,
⟨.l, some ((.l 2), true), .call 18 [(.l 1), (.l 0)]⟩,
⟨.l, none, .op (.pick (.l 3) (.l 0) (.c (.bool false)))⟩,
⟨.l, none, .op (.mov (.l 0))⟩,
⟨.l, some ((.l 0), true), .op (.mov (.v 7))⟩,
⟨.l, some ((.l 1), true), .op (.bin .eql .i64 (.l 0) (.c (.int .i64 6)))⟩,
⟨.l, none, .op (.pick (.l 2) (.l 0) (.c (.bool false)))⟩,
⟨.l, none, .op (.mov (.l 0))⟩,
⟨.l, some ((.l 0), true), .op (.mov (.v 8))⟩,
⟨.l, some ((.l 1), true), .op (.bin .eql .i64 (.l 0) (.c (.int .i64 0)))⟩,
⟨.l, none, .op (.pick (.l 2) (.l 0) (.c (.bool false)))⟩,
⟨.v 0, none, .op (.mov (.l 0))⟩]) (
.ret))))))⟩
/- 12 cayley/classes.Powers -/
def c_classes_Powers : Ay.Fn := ⟨2, [some 0, some 1, none, none, none, none, none, none, none, none, none, none, none, none, none, none], [.v 3, .v 4],
.seq (
.reg [⟨.v 2, none, .op (.box (.v 0))⟩,
⟨.v 3, none, .op (.mov (.c .nils))⟩,
⟨.v 4, none, .op (.mov (.c (.int .i64 0)))⟩]) (
.seq (
.reg [⟨.l, none, .op (.ld true 3 (.v 2))⟩,
⟨.l, none, .call 45 [(.l 0)]⟩,
⟨.l, none, .op (.mov (.l 0))⟩,
⟨.l, none, .op (.ext (.l 0) 0)⟩,
⟨.l, none, .op (.ext (.l 1) 1)⟩,
⟨.v 5, none, .op (.mov (.l 1))⟩,
⟨.v 6, none, .op (.mov (.l 0))⟩]) (
.seq (
.seq (
.reg [⟨.l, none, .op (.mov (.v 6))⟩,
⟨.v 11, none, .op (.bin .neq .i64 (.l 0) (.c (.int .i64 0)))⟩]) (
.ite (.v 11) (
.seq (
.reg [⟨.l, none, .op (.mov (.v 6))⟩,
⟨.v 3, none, .op (.mov (.c .nils))⟩,
⟨.v 4, none, .op (.mov (.l 0))⟩]) (
.ret)) (
.skip))) (
.seq (
.reg [⟨.l, none, .op (.mov (.v 5))⟩,
⟨.l, none, .op (.nck (.l 0))⟩,
⟨.l, none, .op (.fla 2 (.l 0))⟩,
⟨.l, none, .op (.ld false 1 (.l 0))⟩,
⟨.l, none, .op (.lens (.l 0))⟩,
⟨.l, none, .op (.mks 1 8 [(.int .i64 0)] (.l 0) (.l 0))⟩,
⟨.v 7, none, .op (.mov (.l 0))⟩]) (
.seq (
.seq (
.reg [⟨.l, none, .op (.mov (.v 5))⟩,
⟨.l, none, .op (.nck (.l 0))⟩,
⟨.l, none, .op (.fla 2 (.l 0))⟩,
⟨.v 12, none, .op (.ld false 1 (.l 0))⟩,
⟨.v 13, none, .op (.lens (.v 12))⟩,
⟨.v 14, none, .op (.mov (.c (.int .i64 0)))⟩]) (
.block 0 (
.loop (
.seq (
.reg [⟨.v 15, none, .op (.bin .lss .i64 (.v 14) (.v 13))⟩]) (
.seq (
.ite (.v 15) (
.skip) (
.exit 0)) (
.seq (
.block 1 (
.seq (
.reg [⟨.l, none, .op (.mov (.v 14))⟩,
⟨.l, none, .op (.ixa 4 (.v 12) (.v 14))⟩,
⟨.l, none, .op (.ld true 4 (.l 0))⟩,
⟨.v 9, none, .op (.alc [.nils, (.int .i64 0), (.int .i64 0), .nils])⟩,
⟨.v 8, none, .op (.mov (.l 2))⟩,
⟨.n, none, .op (.st 4 (.v 9) (.l 0))⟩]) (
.seq (
.any 14 13 [⟨0, ⟨.v 16, none, .op (.mov (.v 1))⟩, false, []⟩,
⟨1, ⟨.v 17, none, .op (.fla 0 (.v 9))⟩, false, []⟩,
⟨2, ⟨.v 18, none, .op (.fla 1 (.v 17))⟩, false, []⟩,
⟨3, ⟨.v 19, none, .op (.ld false 1 (.v 18))⟩, false, []⟩,
⟨4, ⟨.v 20, none, .op (.bin .rem .i64 (.v 16) (.v 19))⟩, false, []⟩,
⟨5, ⟨.v 21, none, .op (.fla 0 (.v 9))⟩, false, []⟩,
⟨6, ⟨.v 22, none, .op (.fla 1 (.v 21))⟩, false, []⟩,
⟨7, ⟨.v 23, none, .op (.ld false 1 (.v 22))⟩, false, []⟩,
⟨8, ⟨.v 24, none, .op (.bin .add .i64 (.v 20) (.v 23))⟩, false, []⟩,
⟨9, ⟨.v 25, none, .op (.fla 0 (.v 9))⟩, false, []⟩,
⟨10, ⟨.v 26, none, .op (.fla 1 (.v 25))⟩, false, []⟩,
⟨11, ⟨.v 27, none, .op (.ld false 1 (.v 26))⟩, false, []⟩,
⟨12, ⟨.v 28, none, .op (.bin .rem .i64 (.v 24) (.v 27))⟩, false, []⟩,
⟨13, ⟨.v 10, none, .op (.mov (.v 28))⟩, false, []⟩]) (
.any 17 16 [⟨0, ⟨.v 16, none, .op (.mov (.v 7))⟩, false, []⟩,
⟨1, ⟨.v 17, none, .op (.mov (.v 8))⟩, false, []⟩,
⟨2, ⟨.v 18, none, .op (.mov (.v 5))⟩, false, []⟩,
⟨3, ⟨.v 19, none, .op (.fla 0 (.v 9))⟩, false, []⟩,
⟨4, ⟨.v 20, none, .op (.fla 0 (.v 19))⟩, false, []⟩,
⟨5, ⟨.v 21, none, .op (.ld false 1 (.v 20))⟩, false, []⟩,
⟨6, ⟨.v 22, none, .op (.mov (.v 5))⟩, false, []⟩,
⟨7, ⟨.v 23, none, .op (.nck (.v 22))⟩, false, []⟩,
⟨8, ⟨.v 24, none, .op (.fla 0 (.v 23))⟩, false, []⟩,
⟨9, ⟨.v 25, none, .op (.ld false 1 (.v 24))⟩, false, []⟩,
⟨10, ⟨.v 26, none, .op (.ixa 1 (.v 25) (.c (.int .i64 0)))⟩, false, []⟩,
⟨11, ⟨.v 27, none, .op (.ld false 1 (.v 26))⟩, false, []⟩,
⟨12, ⟨.v 28, none, .op (.mov (.v 10))⟩, false, []⟩,
⟨13, ⟨.v 29, none, .call 47 [(.v 21), (.v 27), (.v 28)]⟩, false, []⟩,
⟨14, ⟨.v 30, none, .call 46 [(.v 18), (.v 29)]⟩, false, []⟩,
⟨15, ⟨.v 31, none, .op (.ixa 1 (.v 16) (.v 17))⟩, false, []⟩,
⟨16, ⟨.n, none, .op (.st 1 (.v 31) (.v 30))⟩, false, []⟩])))) (
.reg [⟨.l, none, .op (.bin .add .i64 (.v 14) (.c (.int .i64 1)))⟩,
⟨.v 14, none, .op (.mov (.l 0))⟩]))))))) (
.seq (
.reg [⟨.l, none, .op (.mov (.v 7))⟩,
⟨.v 3, none, .op (.mov (.l 0))⟩,
⟨.v 4, none, .op (.mov (.c (.int .i64 0)))⟩]) (
.ret))))))⟩
/- 14 cayley/classes.Exponent -/
def c_classes_Exponent : Ay.Fn := ⟨1, [some 0, none, none, none, none, none, none, none, none, none, none, none, none, none, none, none], [.v 2, .v 3],
.seq (
.reg [⟨.v 1, none, .op (.box (.v 0))⟩,
⟨.v 2, none, .op (.mov (.c (.int .i64 0)))⟩,
⟨.v 3, none, .op (.mov (.c (.int .i64 0)))⟩]) (
.seq (
.reg [⟨.l, none, .op (.ld true 3 (.v 1))⟩,
⟨.l, none, .call 45 [(.l 0)]⟩,
⟨.l, none, .op (.mov (.l 0))⟩,
⟨.l, none, .op (.ext (.l 0) 0)⟩,
⟨.l, none, .op (.ext (.l 1) 1)⟩,
⟨.v 4, none, .op (.mov (.l 1))⟩,
⟨.v 5, none, .op (.mov (.l 0))⟩]) (
.seq (
.seq (
.reg [⟨.l, none, .op (.mov (.v 5))⟩,
⟨.v 10, none, .op (.bin .neq .i64 (.l 0) (.c (.int .i64 0)))⟩]) (
.ite (.v 10) (
.seq (
.reg [⟨.l, none, .op (.mov (.v 5))⟩,
⟨.v 2, none, .op (.mov (.c (.int .i64 0)))⟩,
⟨.v 3, none, .op (.mov (.l 0))⟩]) (
.ret)) (
.skip))) (
.seq (
.reg [⟨.v 6, none, .op (.mov (.c (.int .i64 1)))⟩]) (
.seq (
.seq (
.reg [⟨.l, none, .op (.mov (.v 4))⟩,
⟨.l, none, .op (.nck (.l 0))⟩,
⟨.l, none, .op (.fla 2 (.l 0))⟩,
⟨.v 11, none, .op (.ld false 1 (.l 0))⟩,
⟨.v 12, none, .op (.lens (.v 11))⟩,
⟨.v 13, none, .op (.mov (.c (.int .i64 0)))⟩]) (
.block 0 (
.loop (
.seq (
.reg [⟨.v 14, none, .op (.bin .lss .i64 (.v 13) (.v 12))⟩]) (
.seq (
.ite (.v 14) (
.skip) (
.exit 0)) (
.seq (
.block 1 (
.seq (
.reg [⟨.l, none, .op (.ixa 4 (.v 11) (.v 13))⟩,
⟨.l, none, .op (.ld true 4 (.l 0))⟩,
⟨.v 7, none, .op (.alc [.nils, (.int .i64 0), (.int .i64 0), .nils])⟩,
⟨.n, none, .op (.st 4 (.v 7) (.l 0))⟩]) (
.seq (
.any 6 4 [⟨0, ⟨.v 16, none, .op (.mov (.v 6))⟩, false, []⟩,
⟨1, ⟨.v 17, none, .op (.fla 0 (.v 7))⟩, false, []⟩,
⟨2, ⟨.v 18, none, .op (.fla 1 (.v 17))⟩, false, []⟩,
⟨3, ⟨.v 19, none, .op (.ld false 1 (.v 18))⟩, false, []⟩,
⟨4, ⟨.v 8, none, .op (.mov (.v 16))⟩, false, []⟩,
⟨5, ⟨.v 9, none, .op (.mov (.v 19))⟩, false, []⟩]) (
.seq (
.block 2 (
.loop (
.seq (
.seq (
.reg [⟨.l, none, .op (.mov (.v 9))⟩,
⟨.v 15, none, .op (.bin .gtr .i64 (.l 0) (.c (.int .i64 0)))⟩]) (
.ite (.v 15) (
.skip) (
.exit 2))) (
.block 3 (
.any 6 4 [⟨0, ⟨.v 16, none, .op (.mov (.v 9))⟩, false, []⟩,
⟨1, ⟨.v 17, none, .op (.mov (.v 8))⟩, false, []⟩,
⟨2, ⟨.v 18, none, .op (.mov (.v 9))⟩, false, []⟩,
⟨3, ⟨.v 19, none, .op (.bin .rem .i64 (.v 17) (.v 18))⟩, false, []⟩,
⟨4, ⟨.v 8, none, .op (.mov (.v 16))⟩, false, []⟩,
⟨5, ⟨.v 9, none, .op (.mov (.v 19))⟩, false, []⟩]))))) (
.any 8 7 [⟨0, ⟨.v 16, none, .op (.mov (.v 6))⟩, false, []⟩,
⟨1, ⟨.v 17, none, .op (.mov (.v 8))⟩, false, []⟩,
⟨2, ⟨.v 18, none, .op (.bin .quo .i64 (.v 16) (.v 17))⟩, false, []⟩,
⟨3, ⟨.v 19, none, .op (.fla 0 (.v 7))⟩, false, []⟩,
⟨4, ⟨.v 20, none, .op (.fla 1 (.v 19))⟩, false, []⟩,
⟨5, ⟨.v 21, none, .op (.ld false 1 (.v 20))⟩, false, []⟩,
⟨6, ⟨.v 22, none, .op (.bin .mul .i64 (.v 18) (.v 21))⟩, false, []⟩,
⟨7, ⟨.v 6, none, .op (.mov (.v 22))⟩, false, []⟩]))))) (
.reg [⟨.l, none, .op (.bin .add .i64 (.v 13) (.c (.int .i64 1)))⟩,
⟨.v 13, none, .op (.mov (.l 0))⟩]))))))) (
.seq (
.reg [⟨.l, none, .op (.mov (.v 6))⟩,
⟨.v 2, none, .op (.mov (.l 0))⟩,
⟨.v 3, none, .op (.mov (.c (.int .i64 0)))⟩]) (
.ret))))))⟩
/- 16 cayley/classes.Real -/
def c_classes_Real : Ay.Fn := ⟨1, [some 0, none, none, none, none, none, none, none, none, none, none, none, none, none], [.v 2, .v 3],
.seq (
.reg [⟨.v 1, none, .op (.box (.v 0))⟩,
⟨.v 2, none, .op (.mov (.c .nils))⟩,
⟨.v 3, none, .op (.mov (.c (.int .i64 0)))⟩]) (
.seq (
.reg [⟨.l, none, .op (.ld true 3 (.v 1))⟩,
⟨.l, none, .call 45 [(.l 0)]⟩,
⟨.l, none, .op (.mov (.l 0))⟩,
⟨.l, none, .op (.ext (.l 0) 0)⟩,
⟨.l, none, .op (.ext (.l 1) 1)⟩,
⟨.v 4, none, .op (.mov (.l 1))⟩,
⟨.v 5, none, .op (.mov (.l 0))⟩]) (
.seq (
.seq (
.reg [⟨.l, none, .op (.mov (.v 5))⟩,
⟨.v 9, none, .op (.bin .neq .i64 (.l 0) (.c (.int .i64 0)))⟩]) (
.ite (.v 9) (
.seq (
.reg [⟨.l, none, .op (.mov (.v 5))⟩,
⟨.v 2, none, .op (.mov (.c .nils))⟩,
⟨.v 3, none, .op (.mov (.l 0))⟩]) (
.ret)) (
.skip))) (
.seq (
.reg [⟨.l, none, .op (.mov (.v 4))⟩,
⟨.l, none, .op (.nck (.l 0))⟩,
⟨.l, none, .op (.fla 2 (.l 0))⟩,
⟨.l, none, .op (.ld false 1 (.l 0))⟩,
⟨.l, none, .op (.lens (.l 0))⟩,
⟨.l, none, .op (.mks 1 1 [(.bool false)] (.l 0) (.l 0))⟩,
⟨.v 6, none, .op (.mov (.l 0))⟩]) (
.seq (
.seq (
.reg [⟨.l, none, .op (.mov (.v 4))⟩,
⟨.l, none, .op (.nck (.l 0))⟩,
⟨.l, none, .op (.fla 2 (.l 0))⟩,
⟨.v 10, none, .op (.ld false 1 (.l 0))⟩,
⟨.v 11, none, .op (.lens (.v 10))⟩,
⟨.v 12, none, .op (.mov (.c (.int .i64 0)))⟩]) (
.block 0 (
.loop (
.seq (
.reg [⟨.v 13, none, .op (.bin .lss .i64 (.v 12) (.v 11))⟩]) (
.seq (
.ite (.v 13) (
.skip) (
.exit 0)) (
.seq (
.block 1 (
.seq (
.reg [⟨.l, none, .op (.mov (.v 12))⟩,
⟨.l, none, .op (.ixa 4 (.v 10) (.v 12))⟩,
⟨.l, none, .op (.ld true 4 (.l 0))⟩,
⟨.v 8, none, .op (.alc [.nils, (.int .i64 0), (.int .i64 0), .nils])⟩,
⟨.v 7, none, .op (.mov (.l 2))⟩,
⟨.n, none, .op (.st 4 (.v 8) (.l 0))⟩]) (
.reg [⟨.l, none, .op (.mov (.v 6))⟩,
⟨.l, none, .op (.mov (.v 7))⟩,
⟨.l, none, .op (.mov (.v 4))⟩,
⟨.l, none, .op (.fla 0 (.v 8))⟩,
⟨.l, none, .op (.fla 0 (.l 0))⟩,
⟨.l, none, .op (.ld false 1 (.l 0))⟩,
⟨.l, none, .call 50 [(.l 0)]⟩,
⟨.l, none, .call 46 [(.l 4), (.l 0)]⟩,
⟨.l, none, .op (.mov (.v 7))⟩,
⟨.l, none, .op (.bin .eql .i64 (.l 1) (.l 0))⟩,
⟨.l, none, .op (.ixa 1 (.l 9) (.l 8))⟩,
⟨.n, none, .op (.st 1 (.l 0) (.l 1))⟩]))) (
.reg [⟨.l, none, .op (.bin .add .i64 (.v 12) (.c (.int .i64 1)))⟩,
⟨.v 12, none, .op (.mov (.l 0))⟩]))))))) (
.seq (
.reg [⟨.l, none, .op (.mov (.v 6))⟩,
⟨.v 2, none, .op (.mov (.l 0))⟩,
⟨.v 3, none, .op (.mov (.c (.int .i64 0)))⟩]) (
.ret))))))⟩
/- 18 cayley/cayleykit.Same[int] -/
def c_kit_Same_int : Ay.Fn := ⟨2, [some 0, some 1, none, none, none, none, none], [.v 2],
.seq (
.reg [⟨.v 2, none, .op (.mov (.c (.bool false)))⟩]) (
.seq (
.seq (
.reg [⟨.l, none, .op (.mov (.v 0))⟩,
⟨.l, none, .op (.lens (.l 0))⟩,
⟨.l, none, .op (.mov (.v 1))⟩,
⟨.l, none, .op (.lens (.l 0))⟩,
⟨.v 4, none, .op (.bin .neq .i64 (.l 2) (.l 0))⟩]) (
.ite (.v 4) (
.seq (
.reg [⟨.v 2, none, .op (.mov (.c (.bool false)))⟩]) (
.ret)) (
.skip))) (
.seq (
.seq (
.reg [⟨.v 3, none, .op (.mov (.c (.int .i64 0)))⟩]) (
.block 0 (
.loop (
.seq (
.seq (
.reg [⟨.l, none, .op (.mov (.v 3))⟩,
⟨.l, none, .op (.mov (.v 0))⟩,
⟨.l, none, .op (.lens (.l 0))⟩,
⟨.v 5, none, .op (.bin .lss .i64 (.l 2) (.l 0))⟩]) (
.ite (.v 5) (
.skip) (
.exit 0))) (
.seq (
.block 1 (
.seq (
.any 9 8 [⟨0, ⟨.v 7, none, .op (.mov (.v 0))⟩, false, []⟩,
⟨1, ⟨.v 8, none, .op (.mov (.v 3))⟩, false, []⟩,
⟨2, ⟨.v 9, none, .op (.ixa 1 (.v 7) (.v 8))⟩, false, []⟩,
⟨3, ⟨.v 10, none, .op (.ld false 1 (.v 9))⟩, false, []⟩,
⟨4, ⟨.v 11, none, .op (.mov (.v 1))⟩, false, []⟩,
⟨5, ⟨.v 12, none, .op (.mov (.v 3))⟩, false, []⟩,
⟨6, ⟨.v 13, none, .op (.ixa 1 (.v 11) (.v 12))⟩, false, []⟩,
⟨7, ⟨.v 14, none, .op (.ld false 1 (.v 13))⟩, false, []⟩,
⟨8, ⟨.v 6, none, .op (.bin .neq .i64 (.v 10) (.v 14))⟩, false, []⟩]) (
.ite (.v 6) (
.seq (
.reg [⟨.v 2, none, .op (.mov (.c (.bool false)))⟩]) (
.ret)) (
.skip)))) (
.reg [⟨.l, none, .op (.mov (.v 3))⟩,
⟨.l, none, .op (.bin .add .i64 (.l 0) (.c (.int .i64 1)))⟩,
⟨.v 3, none, .op (.mov (.l 0))⟩])))))) (
.seq (
.reg [⟨.v 2, none, .op (.mov (.c (.bool true)))⟩]) (
.ret))))⟩
/- 19 cayley/cayleykit.Same[bool] -/
def c_kit_Same_bool : Ay.Fn := ⟨2, [some 0, some 1, none, none, none, none, none], [.v 2],
.seq (
.reg [⟨.v 2, none, .op (.mov (.c (.bool false)))⟩]) (
.seq (
.seq (
.reg [⟨.l, none, .op (.mov (.v 0))⟩,
⟨.l, none, .op (.lens (.l 0))⟩,
⟨.l, none, .op (.mov (.v 1))⟩,
⟨.l, none, .op (.lens (.l 0))⟩,
⟨.v 4, none, .op (.bin .neq .i64 (.l 2) (.l 0))⟩]) (
.ite (.v 4) (
.seq (
.reg [⟨.v 2, none, .op (.mov (.c (.bool false)))⟩]) (
.ret)) (
.skip))) (
.seq (
.seq (
.reg [⟨.v 3, none, .op (.mov (.c (.int .i64 0)))⟩]) (
.block 0 (
.loop (
.seq (
.seq (
.reg [⟨.l, none, .op (.mov (.v 3))⟩,
⟨.l, none, .op (.mov (.v 0))⟩,
⟨.l, none, .op (.lens (.l 0))⟩,
⟨.v 5, none, .op (.bin .lss .i64 (.l 2) (.l 0))⟩]) (
.ite (.v 5) (
.skip) (
.exit 0))) (
.seq (
.block 1 (
.seq (
.any 9 8 [⟨0, ⟨.v 7, none, .op (.mov (.v 0))⟩, false, []⟩,
⟨1, ⟨.v 8, none, .op (.mov (.v 3))⟩, false, []⟩,
⟨2, ⟨.v 9, none, .op (.ixa 1 (.v 7) (.v 8))⟩, false, []⟩,
⟨3, ⟨.v 10, none, .op (.ld false 1 (.v 9))⟩, false, []⟩,
⟨4, ⟨.v 11, none, .op (.mov (.v 1))⟩, false, []⟩,
⟨5, ⟨.v 12, none, .op (.mov (.v 3))⟩, false, []⟩,
⟨6, ⟨.v 13, none, .op (.ixa 1 (.v 11) (.v 12))⟩, false, []⟩,
⟨7, ⟨.v 14, none, .op (.ld false 1 (.v 13))⟩, false, []⟩,
⟨8, ⟨.v 6, none, .op (.beq true (.v 10) (.v 14))⟩, false, []⟩]) (
.ite (.v 6) (
.seq (
.reg [⟨.v 2, none, .op (.mov (.c (.bool false)))⟩]) (
.ret)) (
.skip)))) (
.reg [⟨.l, none, .op (.mov (.v 3))⟩,
⟨.l, none, .op (.bin .add .i64 (.l 0) (.c (.int .i64 1)))⟩,
⟨.v 3, none, .op (.mov (.l 0))⟩])))))) (
.seq (
.reg [⟨.v 2, none, .op (.mov (.c (.bool true)))⟩]) (
.ret))))⟩
/- 20 cayley/classes.List -/
def c_classes_List : Ay.Fn := ⟨1, [some 0, none, none, none, none, none, none, none, none, none, none, none, none], [.v 2, .v 3],
.seq (
.reg [⟨.v 1, none, .op (.box (.v 0))⟩,
⟨.v 2, none, .op (.mov (.c .nils))⟩,
⟨.v 3, none, .op (.mov (.c (.int .i64 0)))⟩]) (
.seq (
.reg [⟨.l, none, .op (.ld true 3 (.v 1))⟩,
⟨.l, none, .call 45 [(.l 0)]⟩,
⟨.l, none, .op (.mov (.l 0))⟩,
⟨.l, none, .op (.ext (.l 0) 0)⟩,
⟨.l, none, .op (.ext (.l 1) 1)⟩,
⟨.v 4, none, .op (.mov (.l 1))⟩,
⟨.v 5, none, .op (.mov (.l 0))⟩]) (
.seq (
.seq (
.reg [⟨.l, none, .op (.mov (.v 5))⟩,
⟨.v 8, none, .op (.bin .neq .i64 (.l 0) (.c (.int .i64 0)))⟩]) (
.ite (.v 8) (
.seq (
.reg [⟨.l, none, .op (.mov (.v 5))⟩,
⟨.v 2, none, .op (.mov (.c .nils))⟩,
⟨.v 3, none, .op (.mov (.l 0))⟩]) (
.ret)) (
.skip))) (
.seq (
.reg [⟨.v 6, none, .op (.mov (.c .nils))⟩]) (
.seq (
.seq (
.reg [⟨.l, none, .op (.mov (.v 4))⟩,
⟨.l, none, .op (.nck (.l 0))⟩,
⟨.l, none, .op (.fla 2 (.l 0))⟩,
⟨.v 9, none, .op (.ld false 1 (.l 0))⟩,
⟨.v 10, none, .op (.lens (.v 9))⟩,
⟨.v 11, none, .op (.mov (.c (.int .i64 0)))⟩]) (
.block 0 (
.loop (
.seq (
.reg [⟨.v 12, none, .op (.bin .lss .i64 (.v 11) (.v 10))⟩]) (
.seq (
.ite (.v 12) (
.skip) (
.exit 0)) (
.seq (
.block 1 (
.seq (
.reg [⟨.l, none, .op (.ixa 4 (.v 9) (.v 11))⟩,
⟨.l, none, .op (.ld true 4 (.l 0))⟩,
⟨.v 7, none, .op (.alc [.nils, (.int .i64 0), (.int .i64 0), .nils])⟩,
⟨.n, none, .op (.st 4 (.v 7) (.l 0))⟩]) (
.reg [⟨.l, none, .op (.mov (.v 6))⟩,
⟨.l, none, .op (.fla 0 (.v 7))⟩,
⟨.l, none, .op (.ld true 3 (.l 0))⟩,
⟨.l, none, .op (.bls 3 [.nils, (.int .i64 0), (.int .i64 0)] 1 [(0, 3, (.l 0))])⟩,
⟨.l, none, .op (.app 3 40 (.l 3) (.l 0))⟩,
⟨.v 6, none, .op (.mov (.l 0))⟩]))) (
.reg [⟨.l, none, .op (.bin .add .i64 (.v 11) (.c (.int .i64 1)))⟩,
⟨.v 11, none, .op (.mov (.l 0))⟩]))))))) (
.seq (
.reg [⟨.l, none, .op (.mov (.v 6))⟩,
⟨.v 2, none, .op (.mov (.l 0))⟩,
⟨.v 3, none, .op (.mov (.c (.int .i64 0)))⟩]) (
.ret))))))⟩
/- 22 cayley/classes.Map -/
def c_classes_Map : Ay.Fn := ⟨1, [some 0, none, none, none, none, none, none], [.v 2, .v 3],
.seq (
.reg [⟨.v 1, none, .op (.box (.v 0))⟩,
⟨.v 2, none, .op (.mov (.c .nils))⟩,
⟨.v 3, none, .op (.mov (.c (.int .i64 0)))⟩]) (
.seq (
.reg [⟨.l, none, .op (.ld true 3 (.v 1))⟩,
⟨.l, none, .call 45 [(.l 0)]⟩,
⟨.l, none, .op (.mov (.l 0))⟩,
⟨.l, none, .op (.ext (.l 0) 0)⟩,
⟨.l, none, .op (.ext (.l 1) 1)⟩,
⟨.v 4, none, .op (.mov (.l 1))⟩,
⟨.v 5, none, .op (.mov (.l 0))⟩]) (
.seq (
.seq (
.reg [⟨.l, none, .op (.mov (.v 5))⟩,
⟨.v 6, none, .op (.bin .neq .i64 (.l 0) (.c (.int .i64 0)))⟩]) (
.ite (.v 6) (
.seq (
.reg [⟨.l, none, .op (.mov (.v 5))⟩,
⟨.v 2, none, .op (.mov (.c .nils))⟩,
⟨.v 3, none, .op (.mov (.l 0))⟩]) (
.ret)) (
.skip))) (
.seq (
.reg [⟨.l, none, .op (.mov (.v 4))⟩,
⟨.l, none, .op (.nck (.l 0))⟩,
⟨.l, none, .op (.fla 3 (.l 0))⟩,
⟨.l, none, .op (.ld false 1 (.l 0))⟩,
⟨.v 2, none, .op (.mov (.l 0))⟩,
⟨.v 3, none, .op (.mov (.c (.int .i64 0)))⟩]) (
.ret))))⟩
/- 24 cayley/classes.Find -/
def c_classes_Find : Ay.Fn := ⟨2, [some 0, some 1, none, none, none, none, none, none, none, none, none, none, none, none], [.v 3, .v 4],
.seq (
.reg [⟨.v 2, none, .op (.box (.v 0))⟩,
⟨.v 3, none, .op (.mov (.c (.int .i64 0)))⟩,
⟨.v 4, none, .op (.mov (.c (.int .i64 0)))⟩]) (
.seq (
.reg [⟨.l, none, .op (.ld true 3 (.v 2))⟩,
⟨.l, none, .call 45 [(.l 0)]⟩,
⟨.l, none, .op (.mov (.l 0))⟩,
⟨.l, none, .op (.ext (.l 0) 0)⟩,
⟨.l, none, .op (.ext (.l 1) 1)⟩,
⟨.v 5, none, .op (.mov (.l 1))⟩,
⟨.v 6, none, .op (.mov (.l 0))⟩]) (
.seq (
.seq (
.reg [⟨.l, none, .op (.mov (.v 6))⟩,
⟨.v 10, none, .op (.bin .neq .i64 (.l 0) (.c (.int .i64 0)))⟩]) (
.ite (.v 10) (
.seq (
.reg [⟨.l, none, .op (.mov (.v 6))⟩,
⟨.v 3, none, .op (.mov (.c (.int .i64 0)))⟩,
⟨.v 4, none, .op (.mov (.l 0))⟩]) (
.ret)) (
.skip))) (
.seq (
.seq (
.reg [⟨.l, none, .op (.mov (.v 1))⟩,
⟨.l, none, .call 52 [(.l 0)]⟩,
⟨.v 7, none, .op (.mov (.l 0))⟩]) (
.seq (
.reg [⟨.l, none, .op (.mov (.v 7))⟩,
⟨.v 11, none, .op (.bin .neq .i64 (.l 0) (.c (.int .i64 0)))⟩]) (
.ite (.v 11) (
.seq (
.reg [⟨.l, none, .op (.mov (.v 7))⟩,
⟨.v 3, none, .op (.mov (.c (.int .i64 0)))⟩,
⟨.v 4, none, .op (.mov (.l 0))⟩]) (
.ret)) (
.skip)))) (
.seq (
.seq (
.reg [⟨.l, none, .op (.mov (.v 1))⟩,
⟨.l, none, .op (.lens (.l 0))⟩,
⟨.l, none, .op (.fla 0 (.v 2))⟩,
⟨.l, none, .op (.ld false 1 (.l 0))⟩,
⟨.v 12, none, .op (.bin .neq .i64 (.l 2) (.l 0))⟩]) (
.ite (.v 12) (
.seq (
.reg [⟨.v 3, none, .op (.mov (.c (.int .i64 0)))⟩,
⟨.v 4, none, .op (.mov (.c (.int .i64 10)))⟩]) (
.ret)) (
.skip))) (
.seq (
.any 12 10 [⟨0, ⟨.v 14, none, .op (.mov (.v 5))⟩, false, []⟩,
⟨1, ⟨.v 15, none, .op (.nck (.v 14))⟩, false, []⟩,
⟨2, ⟨.v 16, none, .op (.fla 1 (.v 15))⟩, false, []⟩,
⟨3, ⟨.v 17, none, .op (.ld false 1 (.v 16))⟩, false, []⟩,
⟨4, ⟨.v 18, none, .op (.mov (.v 1))⟩, false, []⟩,
⟨5, ⟨.v 19, none, .call 53 [(.v 18)]⟩, false, [3]⟩,
⟨6, ⟨.v 20, none, .op (.lkw .str (.int .i64 0) true (.v 17) (.v 19))⟩, false, []⟩,
⟨7, ⟨.v 21, none, .op (.mov (.v 20))⟩, false, []⟩,
⟨8, ⟨.v 22, none, .op (.ext (.v 21) 0)⟩, false, []⟩,
⟨9, ⟨.v 23, none, .op (.ext (.v 21) 1)⟩, false, []⟩,
⟨10, ⟨.v 8, none, .op (.mov (.v 22))⟩, false, []⟩,
⟨11, ⟨.v 9, none, .op (.mov (.v 23))⟩, false, []⟩]) (
.seq (
.seq (
.reg [⟨.l, none, .op (.mov (.v 9))⟩,
⟨.v 13, none, .op (.not (.l 0))⟩]) (
.ite (.v 13) (
.seq (
.reg [⟨.v 3, none, .op (.mov (.c (.int .i64 0)))⟩,
⟨.v 4, none, .op (.mov (.c (.int .i64 18)))⟩]) (
.ret)) (
.skip))) (
.seq (
.reg [⟨.l, none, .op (.mov (.v 5))⟩,
⟨.l, none, .op (.nck (.l 0))⟩,
⟨.l, none, .op (.fla 3 (.l 0))⟩,
⟨.l, none, .op (.ld false 1 (.l 0))⟩,
⟨.l, none, .op (.mov (.v 8))⟩,
⟨.l, none, .op (.ixa 1 (.l 1) (.l 0))⟩,
⟨.l, none, .op (.ld false 1 (.l 0))⟩,
⟨.v 3, none, .op (.mov (.l 0))⟩,
⟨.v 4, none, .op (.mov (.c (.int .i64 0)))⟩]) (
.ret))))))))⟩
/- 26 cayley/cayleylaw15.sameClasses -/
def c_law15_sameClasses : Ay.Fn := ⟨2, [some 0, some 1, none, none, none, none, none], [.v 2],
.seq (
.reg [⟨.v 2, none, .op (.mov (.c (.bool false)))⟩]) (
.seq (
.seq (
.reg [⟨.l, none, .op (.mov (.v 0))⟩,
⟨.l, none, .op (.lens (.l 0))⟩,
⟨.l, none, .op (.mov (.v 1))⟩,
⟨.l, none, .op (.lens (.l 0))⟩,
⟨.v 4, none, .op (.bin .neq .i64 (.l 2) (.l 0))⟩]) (
.ite (.v 4) (
.seq (
.reg [⟨.v 2, none, .op (.mov (.c (.bool false)))⟩]) (
.ret)) (
.skip))) (
.seq (
.seq (
.reg [⟨.v 3, none, .op (.mov (.c (.int .i64 0)))⟩]) (
.block 0 (
.loop (
.seq (
.seq (
.reg [⟨.l, none, .op (.mov (.v 3))⟩,
⟨.l, none, .op (.mov (.v 0))⟩,
⟨.l, none, .op (.lens (.l 0))⟩,
⟨.v 5, none, .op (.bin .lss .i64 (.l 2) (.l 0))⟩]) (
.ite (.v 5) (
.skip) (
.exit 0))) (
.seq (
.block 1 (
.seq (
.any 38 37 [⟨0, ⟨.v 7, none, .op (.mov (.v 0))⟩, false, []⟩,
⟨1, ⟨.v 8, none, .op (.mov (.v 3))⟩, false, []⟩,
⟨2, ⟨.v 9, none, .op (.ixa 3 (.v 7) (.v 8))⟩, false, []⟩,
⟨3, ⟨.v 10, none, .op (.fla 1 (.v 9))⟩, false, []⟩,
⟨4, ⟨.v 11, none, .op (.ld false 1 (.v 10))⟩, false, []⟩,
⟨5, ⟨.v 12, none, .op (.mov (.v 1))⟩, false, []⟩,
⟨6, ⟨.v 13, none, .op (.mov (.v 3))⟩, false, []⟩,
⟨7, ⟨.v 14, none, .op (.ixa 3 (.v 12) (.v 13))⟩, false, []⟩,
⟨8, ⟨.v 15, none, .op (.fla 1 (.v 14))⟩, false, []⟩,
⟨9, ⟨.v 16, none, .op (.ld false 1 (.v 15))⟩, false, []⟩,
⟨10, ⟨.v 17, none, .op (.bin .neq .i64 (.v 11) (.v 16))⟩, false, []⟩,
⟨11, ⟨.v 18, none, .op (.mov (.v 17))⟩, false, []⟩,
⟨12, ⟨.v 19, some ((.v 18), false), .op (.mov (.v 0))⟩, false, []⟩,
⟨13, ⟨.v 20, some ((.v 18), false), .op (.mov (.v 3))⟩, false, []⟩,
⟨14, ⟨.v 21, some ((.v 18), false), .op (.ixa 3 (.v 19) (.v 20))⟩, false, []⟩,
⟨15, ⟨.v 22, some ((.v 18), false), .op (.fla 2 (.v 21))⟩, false, []⟩,
⟨16, ⟨.v 23, some ((.v 18), false), .op (.ld false 1 (.v 22))⟩, false, []⟩,
⟨17, ⟨.v 24, some ((.v 18), false), .op (.mov (.v 1))⟩, false, []⟩,
⟨18, ⟨.v 25, some ((.v 18), false), .op (.mov (.v 3))⟩, false, []⟩,
⟨19, ⟨.v 26, some ((.v 18), false), .op (.ixa 3 (.v 24) (.v 25))⟩, false, []⟩,
⟨20, ⟨.v 27, some ((.v 18), false), .op (.fla 2 (.v 26))⟩, false, []⟩,
⟨21, ⟨.v 28, some ((.v 18), false), .op (.ld false 1 (.v 27))⟩, false, []⟩,
⟨22, ⟨.v 29, some ((.v 18), false), .op (.bin .neq .i64 (.v 23) (.v 28))⟩, false, []⟩,
⟨23, ⟨.v 30, none, .op (.pick (.v 18) (.c (.bool true)) (.v 29))⟩, false, []⟩,
⟨24, ⟨.v 31, none, .op (.mov (.v 30))⟩, false, []⟩,
⟨25, ⟨.v 32, some ((.v 31), false), .op (.mov (.v 0))⟩, false, []⟩,
⟨26, ⟨.v 33, some ((.v 31), false), .op (.mov (.v 3))⟩, false, []⟩,
⟨27, ⟨.v 34, some ((.v 31), false), .op (.ixa 3 (.v 32) (.v 33))⟩, false, []⟩,
⟨28, ⟨.v 35, some ((.v 31), false), .op (.fla 0 (.v 34))⟩, false, []⟩,
⟨29, ⟨.v 36, some ((.v 31), false), .op (.ld false 1 (.v 35))⟩, false, []⟩,
⟨30, ⟨.v 37, some ((.v 31), false), .op (.mov (.v 1))⟩, false, []⟩,
⟨31, ⟨.v 38, some ((.v 31), false), .op (.mov (.v 3))⟩, false, []⟩,
⟨32, ⟨.v 39, some ((.v 31), false), .op (.ixa 3 (.v 37) (.v 38))⟩, false, []⟩,
⟨33, ⟨.v 40, some ((.v 31), false), .op (.fla 0 (.v 39))⟩, false, []⟩,
⟨34, ⟨.v 41, some ((.v 31), false), .op (.ld false 1 (.v 40))⟩, false, []⟩,
⟨35, ⟨.v 42, some ((.v 31), false), .call 18 [(.v 36), (.v 41)]⟩, false, []⟩,
⟨36, ⟨.v 43, some ((.v 31), false), .op (.not (.v 42))⟩, false, []⟩,
⟨37, ⟨.v 6, none, .op (.pick (.v 31) (.c (.bool true)) (.v 43))⟩, false, []⟩]) (
.ite (.v 6) (
.seq (
.reg [⟨.v 2, none, .op (.mov (.c (.bool false)))⟩]) (
.ret)) (
.skip)))) (
.reg [⟨.l, none, .op (.mov (.v 3))⟩,
⟨.l, none, .op (.bin .add .i64 (.l 0) (.c (.int .i64 1)))⟩,
⟨.v 3, none, .op (.mov (.l 0))⟩])))))) (
.seq (
.reg [⟨.v 2, none, .op (.mov (.c (.bool true)))⟩]) (
.ret))))⟩
/- 27 cayley/classes.Centraliser -/
def c_classes_Centraliser : Ay.Fn := ⟨2, [some 0, some 1, none, none, none, none, none, none, none, none, none, none, none, none, none, none, none, none, none, none, none, none, none], [.cell 3 true 3, .v 4],
.seq (
.reg [⟨.v 2, none, .op (.box (.v 0))⟩,
⟨.v 3, none, .op (.alc [(.int .i64 0), .nils, .nils])⟩,
⟨.v 4, none, .op (.mov (.c (.int .i64 0)))⟩]) (
.seq (
.reg [⟨.l, none, .op (.ld true 3 (.v 2))⟩,
⟨.l, none, .call 45 [(.l 0)]⟩,
⟨.l, none, .op (.mov (.l 0))⟩,
⟨.l, none, .op (.ext (.l 0) 0)⟩,
⟨.l, none, .op (.ext (.l 1) 1)⟩,
⟨.v 5, none, .op (.mov (.l 1))⟩,
⟨.v 6, none, .op (.mov (.l 0))⟩]) (
.seq (
.seq (
.reg [⟨.l, none, .op (.mov (.v 6))⟩,
⟨.v 14, none, .op (.bin .neq .i64 (.l 0) (.c (.int .i64 0)))⟩]) (
.ite (.v 14) (
.seq (
.reg [⟨.l, none, .op (.bld [(.int .i64 0), .nils, .nils] [])⟩,
⟨.l, none, .op (.mov (.v 6))⟩,
⟨.n, none, .op (.st 3 (.v 3) (.l 1))⟩,
⟨.v 4, none, .op (.mov (.l 0))⟩]) (
.ret)) (
.skip))) (
.seq (
.seq (
.reg [⟨.l, none, .op (.mov (.v 1))⟩,
⟨.l, none, .op (.bin .lss .i64 (.l 0) (.c (.int .i64 0)))⟩,
⟨.l, none, .op (.mov (.l 0))⟩,
⟨.l, some ((.l 0), false), .op (.mov (.v 1))⟩,
⟨.l, some ((.l 1), false), .op (.mov (.v 5))⟩,
⟨.l, some ((.l 2), false), .op (.nck (.l 0))⟩,
⟨.l, some ((.l 3), false), .op (.fla 2 (.l 0))⟩,
⟨.l, some ((.l 4), false), .op (.ld false 1 (.l 0))⟩,
⟨.l, some ((.l 5), false), .op (.lens (.l 0))⟩,
⟨.l, some ((.l 6), false), .op (.bin .geq .i64 (.l 5) (.l 0))⟩,
⟨.v 15, none, .op (.pick (.l 7) (.c (.bool true)) (.l 0))⟩]) (
.ite (.v 15) (
.seq (
.reg [⟨.l, none, .op (.bld [(.int .i64 0), .nils, .nils] [])⟩,
⟨.n, none, .op (.st 3 (.v 3) (.l 0))⟩,
⟨.v 4, none, .op (.mov (.c (.int .i64 2)))⟩]) (
.ret)) (
.skip))) (
.seq (
.reg [⟨.l, none, .op (.mov (.v 5))⟩,
⟨.l, none, .op (.nck (.l 0))⟩,
⟨.l, none, .op (.fla 2 (.l 0))⟩,
⟨.l, none, .op (.ld false 1 (.l 0))⟩,
⟨.l, none, .op (.mov (.v 1))⟩,
⟨.l, none, .op (.ixa 4 (.l 1) (.l 0))⟩,
⟨.l, none, .op (.fla 0 (.l 0))⟩,
⟨.l, none, .op (.fla 0 (.l 0))⟩,
⟨.l, none, .op (.ld false 1 (.l 0))⟩,
⟨.v 7, none, .op (.mov (.l 0))⟩]) (
.seq (
.any 16 15 [⟨0, ⟨.v 23, none, .op (.mov (.v 5))⟩, false, []⟩,
⟨1, ⟨.v 24, none, .op (.nck (.v 23))⟩, false, []⟩,
⟨2, ⟨.v 25, none, .op (.fla 0 (.v 24))⟩, false, []⟩,
⟨3, ⟨.v 26, none, .op (.ld false 1 (.v 25))⟩, false, []⟩,
⟨4, ⟨.v 27, none, .op (.lens (.v 26))⟩, false, []⟩,
⟨5, ⟨.v 28, none, .op (.mov (.v 5))⟩, false, []⟩,
⟨6, ⟨.v 29, none, .op (.nck (.v 28))⟩, false, []⟩,
⟨7, ⟨.v 30, none, .op (.fla 2 (.v 29))⟩, false, []⟩,
⟨8, ⟨.v 31, none, .op (.ld false 1 (.v 30))⟩, false, []⟩,
⟨9, ⟨.v 32, none, .op (.mov (.v 1))⟩, false, []⟩,
⟨10, ⟨.v 33, none, .op (.ixa 4 (.v 31) (.v 32))⟩, false, []⟩,
⟨11, ⟨.v 34, none, .op (.fla 0 (.v 33))⟩, false, []⟩,
⟨12, ⟨.v 35, none, .op (.fla 2 (.v 34))⟩, false, []⟩,
⟨13, ⟨.v 36, none, .op (.ld false 1 (.v 35))⟩, false, []⟩,
⟨14, ⟨.v 37, none, .op (.bin .quo .i64 (.v 27) (.v 36))⟩, false, []⟩,
⟨15, ⟨.v 8, none, .op (.mov (.v 37))⟩, false, []⟩]) (
.seq (
.reg [⟨.l, none, .op (.fla 0 (.v 2))⟩,
⟨.l, none, .op (.ld false 1 (.l 0))⟩,
⟨.l, none, .call 55 [(.l 0), (.c .nils)]⟩,
⟨.l, none, .op (.mov (.l 0))⟩,
⟨.l, none, .op (.ext (.l 0) 0)⟩,
⟨.l, none, .op (.ext (.l 1) 1)⟩,
⟨.v 9, none, .op (.alc [(.int .i64 0), .nils, .nils])⟩,
⟨.n, none, .op (.st 3 (.v 9) (.l 1))⟩,
⟨.l, none, .op (.mov (.l 0))⟩]) (
.seq (
.seq (
.reg [⟨.l, none, .op (.mov (.v 5))⟩,
⟨.l, none, .op (.nck (.l 0))⟩,
⟨.l, none, .op (.fla 0 (.l 0))⟩,
⟨.v 16, none, .op (.ld false 1 (.l 0))⟩,
⟨.v 17, none, .op (.lens (.v 16))⟩,
⟨.v 18, none, .op (.mov (.c (.int .i64 0)))⟩]) (
.block 0 (
.loop (
.seq (
.reg [⟨.v 19, none, .op (.bin .lss .i64 (.v 18) (.v 17))⟩]) (
.seq (
.ite (.v 19) (
.skip) (
.exit 0)) (
.seq (
.block 1 (
.seq (
.reg [⟨.l, none, .op (.ixa 1 (.v 16) (.v 18))⟩,
⟨.l, none, .op (.ld false 1 (.l 0))⟩,
⟨.v 10, none, .op (.mov (.l 0))⟩]) (
.seq (
.seq (
.reg [⟨.l, none, .op (.ld true 3 (.v 9))⟩,
⟨.l, none, .call 56 [(.l 0)]⟩,
⟨.l, none, .op (.mov (.l 0))⟩,
⟨.l, none, .op (.ext (.l 0) 0)⟩,
⟨.l, none, .op (.ext (.l 1) 1)⟩,
⟨.v 11, none, .op (.mov (.l 1))⟩,
⟨.l, none, .op (.mov (.l 0))⟩]) (
.seq (
.reg [⟨.l, none, .op (.mov (.v 11))⟩,
⟨.l, none, .op (.mov (.v 8))⟩,
⟨.v 20, none, .op (.bin .eql .i64 (.l 1) (.l 0))⟩]) (
.ite (.v 20) (
.exit 0) (
.skip)))) (
.seq (
.seq (
.reg [⟨.l, none, .op (.mov (.v 7))⟩,
⟨.l, none, .op (.mov (.v 10))⟩,
⟨.l, none, .call 58 [(.l 1), (.l 0)]⟩,
⟨.l, none, .op (.mov (.v 10))⟩,
⟨.l, none, .op (.mov (.v 7))⟩,
⟨.l, none, .call 58 [(.l 1), (.l 0)]⟩,
⟨.l, none, .call 57 [(.l 3), (.l 0)]⟩,
⟨.v 21, none, .op (.not (.l 0))⟩]) (
.ite (.v 21) (
.exit 1) (
.skip))) (
.seq (
.reg [⟨.l, none, .op (.ld true 3 (.v 9))⟩,
⟨.l, none, .op (.mov (.v 10))⟩,
⟨.l, none, .call 59 [(.l 1), (.l 0)]⟩,
⟨.l, none, .op (.mov (.l 0))⟩,
⟨.l, none, .op (.ext (.l 0) 0)⟩,
⟨.l, none, .op (.ext (.l 1) 1)⟩,
⟨.v 12, none, .op (.mov (.l 1))⟩,
⟨.l, none, .op (.mov (.l 0))⟩]) (
.seq (
.reg [⟨.l, none, .op (.mov (.v 12))⟩,
⟨.v 22, none, .op (.not (.l 0))⟩]) (
.ite (.v 22) (
.seq (
.reg [⟨.l, none, .op (.ld true 3 (.v 9))⟩,
⟨.l, none, .call 60 [(.l 0)]⟩,
⟨.l, none, .op (.mov (.l 0))⟩,
⟨.l, none, .op (.ext (.l 0) 0)⟩,
⟨.l, none, .op (.ext (.l 1) 1)⟩,
⟨.v 13, none, .op (.mov (.l 1))⟩,
⟨.l, none, .op (.mov (.l 0))⟩]) (
.any 11 10 [⟨0, ⟨.v 23, none, .op (.fla 0 (.v 2))⟩, false, []⟩,
⟨1, ⟨.v 24, none, .op (.ld false 1 (.v 23))⟩, false, []⟩,
⟨2, ⟨.v 25, none, .op (.mov (.v 13))⟩, false, []⟩,
⟨3, ⟨.v 26, none, .op (.mov (.v 10))⟩, false, []⟩,
⟨4, ⟨.v 27, none, .op (.bls 1 [.nils] 1 [(0, 1, (.v 26))])⟩, true, []⟩,
⟨5, ⟨.v 28, none, .op (.app 1 24 (.v 25) (.v 27))⟩, false, [1]⟩,
⟨6, ⟨.v 29, none, .call 55 [(.v 24), (.v 28)]⟩, false, []⟩,
⟨7, ⟨.v 30, none, .op (.mov (.v 29))⟩, false, []⟩,
⟨8, ⟨.v 31, none, .op (.ext (.v 30) 0)⟩, false, []⟩,
⟨9, ⟨.v 32, none, .op (.ext (.v 30) 1)⟩, false, []⟩,
⟨10, ⟨.n, none, .op (.st 3 (.v 9) (.v 31))⟩, false, []⟩])) (
.skip)))))))) (
.reg [⟨.l, none, .op (.bin .add .i64 (.v 18) (.c (.int .i64 1)))⟩,
⟨.v 18, none, .op (.mov (.l 0))⟩]))))))) (
.seq (
.reg [⟨.l, none, .op (.ld true 3 (.v 9))⟩,
⟨.n, none, .op (.st 3 (.v 3) (.l 0))⟩,
⟨.v 4, none, .op (.mov (.c (.int .i64 0)))⟩]) (
.ret)))))))))⟩
/- 29 cayley/classes.Elements -/
def c_classes_Elements : Ay.Fn := ⟨2, [some 0, some 1, none, none, none, none, none, none, none, none, none, none, none, none, none], [.v 3, .v 4],
.seq (
.reg [⟨.v 2, none, .op (.box (.v 0))⟩,
⟨.v 3, none, .op (.mov (.c .nils))⟩,
⟨.v 4, none, .op (.mov (.c (.int .i64 0)))⟩]) (
.seq (
.reg [⟨.l, none, .op (.ld true 3 (.v 2))⟩,
⟨.l, none, .call 45 [(.l 0)]⟩,
⟨.l, none, .op (.mov (.l 0))⟩,
⟨.l, none, .op (.ext (.l 0) 0)⟩,
⟨.l, none, .op (.ext (.l 1) 1)⟩,
⟨.v 5, none, .op (.mov (.l 1))⟩,
⟨.v 6, none, .op (.mov (.l 0))⟩]) (
.seq (
.seq (
.reg [⟨.l, none, .op (.mov (.v 6))⟩,
⟨.v 9, none, .op (.bin .neq .i64 (.l 0) (.c (.int .i64 0)))⟩]) (
.ite (.v 9) (
.seq (
.reg [⟨.l, none, .op (.mov (.v 6))⟩,
⟨.v 3, none, .op (.mov (.c .nils))⟩,
⟨.v 4, none, .op (.mov (.l 0))⟩]) (
.ret)) (
.skip))) (
.seq (
.seq (
.reg [⟨.l, none, .op (.mov (.v 1))⟩,
⟨.l, none, .op (.bin .lss .i64 (.l 0) (.c (.int .i64 0)))⟩,
⟨.l, none, .op (.mov (.l 0))⟩,
⟨.l, some ((.l 0), false), .op (.mov (.v 1))⟩,
⟨.l, some ((.l 1), false), .op (.mov (.v 5))⟩,
⟨.l, some ((.l 2), false), .op (.nck (.l 0))⟩,
⟨.l, some ((.l 3), false), .op (.fla 2 (.l 0))⟩,
⟨.l, some ((.l 4), false), .op (.ld false 1 (.l 0))⟩,
⟨.l, some ((.l 5), false), .op (.lens (.l 0))⟩,
⟨.l, some ((.l 6), false), .op (.bin .geq .i64 (.l 5) (.l 0))⟩,
⟨.v 10, none, .op (.pick (.l 7) (.c (.bool true)) (.l 0))⟩]) (
.ite (.v 10) (
.seq (
.reg [⟨.v 3, none, .op (.mov (.c .nils))⟩,
⟨.v 4, none, .op (.mov (.c (.int .i64 2)))⟩]) (
.ret)) (
.skip))) (
.seq (
.reg [⟨.v 7, none, .op (.mov (.c .nils))⟩]) (
.seq (
.seq (
.reg [⟨.l, none, .op (.mov (.v 5))⟩,
⟨.l, none, .op (.nck (.l 0))⟩,
⟨.l, none, .op (.fla 2 (.l 0))⟩,
⟨.l, none, .op (.ld false 1 (.l 0))⟩,
⟨.l, none, .op (.mov (.v 1))⟩,
⟨.l, none, .op (.ixa 4 (.l 1) (.l 0))⟩,
⟨.l, none, .op (.fla 3 (.l 0))⟩,
⟨.v 11, none, .op (.ld false 1 (.l 0))⟩,
⟨.v 12, none, .op (.lens (.v 11))⟩,
⟨.v 13, none, .op (.mov (.c (.int .i64 0)))⟩]) (
.block 0 (
.loop (
.seq (
.reg [⟨.v 14, none, .op (.bin .lss .i64 (.v 13) (.v 12))⟩]) (
.seq (
.ite (.v 14) (
.skip) (
.exit 0)) (
.seq (
.block 1 (
.seq (
.reg [⟨.l, none, .op (.ixa 1 (.v 11) (.v 13))⟩,
⟨.l, none, .op (.ld false 1 (.l 0))⟩,
⟨.v 8, none, .op (.mov (.l 0))⟩]) (
.reg [⟨.l, none, .op (.mov (.v 7))⟩,
⟨.l, none, .op (.mov (.v 5))⟩,
⟨.l, none, .op (.nck (.l 0))⟩,
⟨.l, none, .op (.fla 0 (.l 0))⟩,
⟨.l, none, .op (.ld false 1 (.l 0))⟩,
⟨.l, none, .op (.mov (.v 8))⟩,
⟨.l, none, .op (.ixa 1 (.l 1) (.l 0))⟩,
⟨.l, none, .op (.ld false 1 (.l 0))⟩,
⟨.l, none, .op (.bls 1 [.nils] 1 [(0, 1, (.l 0))])⟩,
⟨.l, none, .op (.app 1 24 (.l 8) (.l 0))⟩,
⟨.v 7, none, .op (.mov (.l 0))⟩]))) (
.reg [⟨.l, none, .op (.bin .add .i64 (.v 13) (.c (.int .i64 1)))⟩,
⟨.v 13, none, .op (.mov (.l 0))⟩]))))))) (
.seq (
.reg [⟨.l, none, .op (.mov (.v 7))⟩,
⟨.v 3, none, .op (.mov (.l 0))⟩,
⟨.v 4, none, .op (.mov (.c (.int .i64 0)))⟩]) (
.ret)))))))⟩
/- 32 cayley/cayleykit.SamePerms -/
def c_kit_SamePerms : Ay.Fn := ⟨2, [some 0, some 1, none, none, none, none, none], [.v 2],
.seq (
.reg [⟨.v 2, none, .op (.mov (.c (.bool false)))⟩]) (
.seq (
.seq (
.reg [⟨.l, none, .op (.mov (.v 0))⟩,
⟨.l, none, .op (.lens (.l 0))⟩,
⟨.l, none, .op (.mov (.v 1))⟩,
⟨.l, none, .op (.lens (.l 0))⟩,
⟨.v 4, none, .op (.bin .neq .i64 (.l 2) (.l 0))⟩]) (
.ite (.v 4) (
.seq (
.reg [⟨.v 2, none, .op (.mov (.c (.bool false)))⟩]) (
.ret)) (
.skip))) (
.seq (
.seq (
.reg [⟨.v 3, none, .op (.mov (.c (.int .i64 0)))⟩]) (
.block 0 (
.loop (
.seq (
.seq (
.reg [⟨.l, none, .op (.mov (.v 3))⟩,
⟨.l, none, .op (.mov (.v 0))⟩,
⟨.l, none, .op (.lens (.l 0))⟩,
⟨.v 5, none, .op (.bin .lss .i64 (.l 2) (.l 0))⟩]) (
.ite (.v 5) (
.skip) (
.exit 0))) (
.seq (
.block 1 (
.seq (
.any 10 9 [⟨0, ⟨.v 7, none, .op (.mov (.v 0))⟩, false, []⟩,
⟨1, ⟨.v 8, none, .op (.mov (.v 3))⟩, false, []⟩,
⟨2, ⟨.v 9, none, .op (.ixa 1 (.v 7) (.v 8))⟩, false, []⟩,
⟨3, ⟨.v 10, none, .op (.ld false 1 (.v 9))⟩, false, []⟩,
⟨4, ⟨.v 11, none, .op (.mov (.v 1))⟩, false, []⟩,
⟨5, ⟨.v 12, none, .op (.mov (.v 3))⟩, false, []⟩,
⟨6, ⟨.v 13, none, .op (.ixa 1 (.v 11) (.v 12))⟩, false, []⟩,
⟨7, ⟨.v 14, none, .op (.ld false 1 (.v 13))⟩, false, []⟩,
⟨8, ⟨.v 15, none, .call 18 [(.v 10), (.v 14)]⟩, false, []⟩,
⟨9, ⟨.v 6, none, .op (.not (.v 15))⟩, false, []⟩]) (
.ite (.v 6) (
.seq (
.reg [⟨.v 2, none, .op (.mov (.c (.bool false)))⟩]) (
.ret)) (
.skip)))) (
.reg [⟨.l, none, .op (.mov (.v 3))⟩,
⟨.l, none, .op (.bin .add .i64 (.l 0) (.c (.int .i64 1)))⟩,
⟨.v 3, none, .op (.mov (.l 0))⟩])))))) (
.seq (
.reg [⟨.v 2, none, .op (.mov (.c (.bool true)))⟩]) (
.ret))))⟩
/- 33 cayley/cayleylaw15.groups -/
def c_law15_groups : Ay.Fn := ⟨0, [none, none, none], [.cell 0 true 3, .cell 1 true 3, .cell 2 true 3],
.seq (
.reg [⟨.v 0, none, .op (.alc [(.int .i64 0), .nils, .nils])⟩,
⟨.v 1, none, .op (.alc [(.int .i64 0), .nils, .nils])⟩,
⟨.v 2, none, .op (.alc [(.int .i64 0), .nils, .nils])⟩]) (
.seq (
.reg [⟨.l, none, .op (.bls 1 [(.int .i64 0)] 3 [(0, 1, (.c (.int .i64 1))), (1, 1, (.c (.int .i64 0))), (2, 1, (.c (.int .i64 2)))])⟩,
⟨.l, none, .op (.bls 1 [(.int .i64 0)] 3 [(0, 1, (.c (.int .i64 0))), (1, 1, (.c (.int .i64 2))), (2, 1, (.c (.int .i64 1)))])⟩,
⟨.l, none, .op (.bls 1 [.nils] 2 [(0, 1, (.l 1)), (1, 1, (.l 0))])⟩,
⟨.l, none, .call 44 [(.c (.int .i64 3)), (.l 0)]⟩,
⟨.l, none, .op (.mov (.l 0))⟩,
⟨.l, none, .op (.ext (.l 0) 0)⟩,
⟨.l, none, .op (.ext (.l 1) 1)⟩,
⟨.n, none, .op (.st 3 (.v 0) (.l 1))⟩]) (
.seq (
.reg [⟨.l, none, .op (.bls 1 [(.int .i64 0)] 4 [(0, 1, (.c (.int .i64 1))), (1, 1, (.c (.int .i64 2))), (2, 1, (.c (.int .i64 3))), (3, 1, (.c (.int .i64 0)))])⟩,
⟨.l, none, .op (.bls 1 [.nils] 1 [(0, 1, (.l 0))])⟩,
⟨.l, none, .call 44 [(.c (.int .i64 4)), (.l 0)]⟩,
⟨.l, none, .op (.mov (.l 0))⟩,
⟨.l, none, .op (.ext (.l 0) 0)⟩,
⟨.l, none, .op (.ext (.l 1) 1)⟩,
⟨.n, none, .op (.st 3 (.v 1) (.l 1))⟩]) (
.seq (
.reg [⟨.l, none, .op (.bls 1 [(.int .i64 0)] 4 [(0, 1, (.c (.int .i64 1))), (1, 1, (.c (.int .i64 2))), (2, 1, (.c (.int .i64 0))), (3, 1, (.c (.int .i64 3)))])⟩,
⟨.l, none, .op (.bls 1 [(.int .i64 0)] 4 [(0, 1, (.c (.int .i64 0))), (1, 1, (.c (.int .i64 2))), (2, 1, (.c (.int .i64 3))), (3, 1, (.c (.int .i64 1)))])⟩,
⟨.l, none, .op (.bls 1 [.nils] 2 [(0, 1, (.l 1)), (1, 1, (.l 0))])⟩,
⟨.l, none, .call 44 [(.c (.int .i64 4)), (.l 0)]⟩,
⟨.l, none, .op (.mov (.l 0))⟩,
⟨.l, none, .op (.ext (.l 0) 0)⟩,
⟨.l, none, .op (.ext (.l 1) 1)⟩,
⟨.n, none, .op (.st 3 (.v 2) (.l 1))⟩]) (
.seq (
.any 6 3 [⟨0, ⟨.v 3, none, .op (.ld true 3 (.v 0))⟩, false, []⟩,
⟨1, ⟨.v 4, none, .op (.ld true 3 (.v 1))⟩, false, []⟩,
⟨2, ⟨.v 5, none, .op (.ld true 3 (.v 2))⟩, false, []⟩,
⟨3, ⟨.n, none, .op (.st 3 (.v 0) (.v 3))⟩, false, [2, 1]⟩,
⟨4, ⟨.n, none, .op (.st 3 (.v 1) (.v 4))⟩, false, [2]⟩,
⟨5, ⟨.n, none, .op (.st 3 (.v 2) (.v 5))⟩, false, []⟩]) (
.ret)))))⟩
/- 34 cayley/cayleykit.SameLists[int] -/
def c_kit_SameLists_int : Ay.Fn := ⟨2, [some 0, some 1, none, none, none, none, none], [.v 2],
.seq (
.reg [⟨.v 2, none, .op (.mov (.c (.bool false)))⟩]) (
.seq (
.seq (
.reg [⟨.l, none, .op (.mov (.v 0))⟩,
⟨.l, none, .op (.lens (.l 0))⟩,
⟨.l, none, .op (.mov (.v 1))⟩,
⟨.l, none, .op (.lens (.l 0))⟩,
⟨.v 4, none, .op (.bin .neq .i64 (.l 2) (.l 0))⟩]) (
.ite (.v 4) (
.seq (
.reg [⟨.v 2, none, .op (.mov (.c (.bool false)))⟩]) (
.ret)) (
.skip))) (
.seq (
.seq (
.reg [⟨.v 3, none, .op (.mov (.c (.int .i64 0)))⟩]) (
.block 0 (
.loop (
.seq (
.seq (
.reg [⟨.l, none, .op (.mov (.v 3))⟩,
⟨.l, none, .op (.mov (.v 0))⟩,
⟨.l, none, .op (.lens (.l 0))⟩,
⟨.v 5, none, .op (.bin .lss .i64 (.l 2) (.l 0))⟩]) (
.ite (.v 5) (
.skip) (
.exit 0))) (
.seq (
.block 1 (
.seq (
.any 10 9 [⟨0, ⟨.v 7, none, .op (.mov (.v 0))⟩, false, []⟩,
⟨1, ⟨.v 8, none, .op (.mov (.v 3))⟩, false, []⟩,
⟨2, ⟨.v 9, none, .op (.ixa 1 (.v 7) (.v 8))⟩, false, []⟩,
⟨3, ⟨.v 10, none, .op (.ld false 1 (.v 9))⟩, false, []⟩,
⟨4, ⟨.v 11, none, .op (.mov (.v 1))⟩, false, []⟩,
⟨5, ⟨.v 12, none, .op (.mov (.v 3))⟩, false, []⟩,
⟨6, ⟨.v 13, none, .op (.ixa 1 (.v 11) (.v 12))⟩, false, []⟩,
⟨7, ⟨.v 14, none, .op (.ld false 1 (.v 13))⟩, false, []⟩,
⟨8, ⟨.v 15, none, .call 18 [(.v 10), (.v 14)]⟩, false, []⟩,
⟨9, ⟨.v 6, none, .op (.not (.v 15))⟩, false, []⟩]) (
.ite (.v 6) (
.seq (
.reg [⟨.v 2, none, .op (.mov (.c (.bool false)))⟩]) (
.ret)) (
.skip)))) (
.reg [⟨.l, none, .op (.mov (.v 3))⟩,
⟨.l, none, .op (.bin .add .i64 (.l 0) (.c (.int .i64 1)))⟩,
⟨.v 3, none, .op (.mov (.l 0))⟩])))))) (
.seq (
.reg [⟨.v 2, none, .op (.mov (.c (.bool true)))⟩]) (
.ret))))⟩
/- 40 cayley/cayleykit.Mul -/
def c_kit_Mul : Ay.Fn := ⟨2, [some 0, some 1, none, none, none, none], [.v 2],
.seq (
.reg [⟨.v 2, none, .op (.mov (.c .nils))⟩]) (
.seq (
.reg [⟨.v 3, none, .op (.mov (.c .nils))⟩]) (
.seq (
.seq (
.reg [⟨.v 4, none, .op (.mov (.c (.int .i64 0)))⟩]) (
.block 0 (
.loop (
.seq (
.seq (
.reg [⟨.l, none, .op (.mov (.v 4))⟩,
⟨.l, none, .op (.mov (.v 0))⟩,
⟨.l, none, .op (.lens (.l 0))⟩,
⟨.v 5, none, .op (.bin .lss .i64 (.l 2) (.l 0))⟩]) (
.ite (.v 5) (
.skip) (
.exit 0))) (
.seq (
.block 1 (
.reg [⟨.l, none, .op (.mov (.v 3))⟩,
⟨.l, none, .op (.mov (.v 1))⟩,
⟨.l, none, .op (.mov (.v 0))⟩,
⟨.l, none, .op (.mov (.v 4))⟩,
⟨.l, none, .op (.ixa 1 (.l 1) (.l 0))⟩,
⟨.l, none, .op (.ld false 1 (.l 0))⟩,
⟨.l, none, .op (.ixa 1 (.l 4) (.l 0))⟩,
⟨.l, none, .op (.ld false 1 (.l 0))⟩,
⟨.l, none, .op (.bls 1 [(.int .i64 0)] 1 [(0, 1, (.l 0))])⟩,
⟨.l, none, .op (.app 1 8 (.l 8) (.l 0))⟩,
⟨.v 3, none, .op (.mov (.l 0))⟩])) (
.reg [⟨.l, none, .op (.mov (.v 4))⟩,
⟨.l, none, .op (.bin .add .i64 (.l 0) (.c (.int .i64 1)))⟩,
⟨.v 4, none, .op (.mov (.l 0))⟩])))))) (
.seq (
.reg [⟨.l, none, .op (.mov (.v 3))⟩,
⟨.v 2, none, .op (.mov (.l 0))⟩]) (
.ret))))⟩
/- 41 cayley/cayleykit.Inv -/
def c_kit_Inv : Ay.Fn := ⟨1, [some 0, none, none, none, none], [.v 1],
.seq (
.reg [⟨.v 1, none, .op (.mov (.c .nils))⟩]) (
.seq (
.reg [⟨.l, none, .op (.mov (.v 0))⟩,
⟨.l, none, .op (.lens (.l 0))⟩,
⟨.l, none, .op (.mks 1 8 [(.int .i64 0)] (.l 0) (.l 0))⟩,
⟨.v 2, none, .op (.mov (.l 0))⟩]) (
.seq (
.seq (
.reg [⟨.v 3, none, .op (.mov (.c (.int .i64 0)))⟩]) (
.block 0 (
.loop (
.seq (
.seq (
.reg [⟨.l, none, .op (.mov (.v 3))⟩,
⟨.l, none, .op (.mov (.v 0))⟩,
⟨.l, none, .op (.lens (.l 0))⟩,
⟨.v 4, none, .op (.bin .lss .i64 (.l 2) (.l 0))⟩]) (
.ite (.v 4) (
.skip) (
.exit 0))) (
.seq (
.block 1 (
.reg [⟨.l, none, .op (.mov (.v 2))⟩,
⟨.l, none, .op (.mov (.v 0))⟩,
⟨.l, none, .op (.mov (.v 3))⟩,
⟨.l, none, .op (.ixa 1 (.l 1) (.l 0))⟩,
⟨.l, none, .op (.ld false 1 (.l 0))⟩,
⟨.l, none, .op (.mov (.v 3))⟩,
⟨.l, none, .op (.ixa 1 (.l 5) (.l 1))⟩,
⟨.n, none, .op (.st 1 (.l 0) (.l 1))⟩])) (
.reg [⟨.l, none, .op (.mov (.v 3))⟩,
⟨.l, none, .op (.bin .add .i64 (.l 0) (.c (.int .i64 1)))⟩,
⟨.v 3, none, .op (.mov (.l 0))⟩])))))) (
.seq (
.reg [⟨.l, none, .op (.mov (.v 2))⟩,
⟨.v 1, none, .op (.mov (.l 0))⟩]) (
.ret))))⟩
/- 44 cayley/cayleyref08.Make -/
def c_ref08_Make : Ay.Fn := ⟨2, [some 0, some 1, none, none, none, none, none, none, none, none, none, none, none, none], [.cell 2 true 3, .v 3],
.seq (
.reg [⟨.v 2, none, .op (.alc [(.int .i64 0), .nils, .nils])⟩,
⟨.v 3, none, .op (.mov (.c (.int .i64 0)))⟩]) (
.seq (
.seq (
.reg [⟨.l, none, .op (.mov (.v 0))⟩,
⟨.l, none, .op (.bin .lss .i64 (.l 0) (.c (.int .i64 1)))⟩,
⟨.l, none, .op (.mov (.l 0))⟩,
⟨.l, some ((.l 0), false), .op (.mov (.v 0))⟩,
⟨.l, some ((.l 1), false), .op (.bin .gtr .i64 (.l 0) (.c (.int .i64 64)))⟩,
⟨.v 8, none, .op (.pick (.l 2) (.c (.bool true)) (.l 0))⟩]) (
.ite (.v 8) (
.seq (
.reg [⟨.l, none, .op (.bld [(.int .i64 0), .nils, .nils] [])⟩,
⟨.n, none, .op (.st 3 (.v 2) (.l 0))⟩,
⟨.v 3, none, .op (.mov (.c (.int .i64 2)))⟩]) (
.ret)) (
.skip))) (
.seq (
.seq (
.reg [⟨.l, none, .op (.mov (.v 1))⟩,
⟨.l, none, .op (.lens (.l 0))⟩,
⟨.v 9, none, .op (.bin .gtr .i64 (.l 0) (.c (.int .i64 4096)))⟩]) (
.ite (.v 9) (
.seq (
.reg [⟨.l, none, .op (.bld [(.int .i64 0), .nils, .nils] [])⟩,
⟨.n, none, .op (.st 3 (.v 2) (.l 0))⟩,
⟨.v 3, none, .op (.mov (.c (.int .i64 4)))⟩]) (
.ret)) (
.skip))) (
.seq (
.seq (
.reg [⟨.v 4, none, .op (.mov (.c (.int .i64 0)))⟩]) (
.block 0 (
.loop (
.seq (
.seq (
.reg [⟨.l, none, .op (.mov (.v 4))⟩,
⟨.l, none, .op (.mov (.v 1))⟩,
⟨.l, none, .op (.lens (.l 0))⟩,
⟨.v 10, none, .op (.bin .lss .i64 (.l 2) (.l 0))⟩]) (
.ite (.v 10) (
.skip) (
.exit 0))) (
.seq (
.block 1 (
.seq (
.seq (
.reg [⟨.l, none, .op (.mov (.v 1))⟩,
⟨.l, none, .op (.mov (.v 4))⟩,
⟨.l, none, .op (.ixa 1 (.l 1) (.l 0))⟩,
⟨.l, none, .op (.ld false 1 (.l 0))⟩,
⟨.l, none, .call 54 [(.l 0)]⟩,
⟨.v 5, none, .op (.mov (.l 0))⟩]) (
.seq (
.reg [⟨.l, none, .op (.mov (.v 5))⟩,
⟨.v 11, none, .op (.bin .neq .i64 (.l 0) (.c (.int .i64 0)))⟩]) (
.ite (.v 11) (
.seq (
.reg [⟨.l, none, .op (.bld [(.int .i64 0), .nils, .nils] [])⟩,
⟨.l, none, .op (.mov (.v 5))⟩,
⟨.n, none, .op (.st 3 (.v 2) (.l 1))⟩,
⟨.v 3, none, .op (.mov (.l 0))⟩]) (
.ret)) (
.skip)))) (
.seq (
.reg [⟨.l, none, .op (.mov (.v 1))⟩,
⟨.l, none, .op (.mov (.v 4))⟩,
⟨.l, none, .op (.ixa 1 (.l 1) (.l 0))⟩,
⟨.l, none, .op (.ld false 1 (.l 0))⟩,
⟨.l, none, .op (.lens (.l 0))⟩,
⟨.l, none, .op (.mov (.v 0))⟩,
⟨.v 12, none, .op (.bin .neq .i64 (.l 1) (.l 0))⟩]) (
.ite (.v 12) (
.seq (
.reg [⟨.l, none, .op (.bld [(.int .i64 0), .nils, .nils] [])⟩,
⟨.n, none, .op (.st 3 (.v 2) (.l 0))⟩,
⟨.v 3, none, .op (.mov (.c (.int .i64 10)))⟩]) (
.ret)) (
.skip))))) (
.reg [⟨.l, none, .op (.mov (.v 4))⟩,
⟨.l, none, .op (.bin .add .i64 (.l 0) (.c (.int .i64 1)))⟩,
⟨.v 4, none, .op (.mov (.l 0))⟩])))))) (
.seq (
.reg [⟨.l, none, .op (.mov (.v 0))⟩,
⟨.l, none, .call 67 [(.l 0)]⟩,
⟨.v 6, none, .op (.mov (.l 0))⟩]) (
.seq (
.seq (
.reg [⟨.v 7, none, .op (.mov (.c (.int .i64 0)))⟩]) (
.block 2 (
.loop (
.seq (
.seq (
.reg [⟨.l, none, .op (.mov (.v 7))⟩,
⟨.l, none, .op (.mov (.v 1))⟩,
⟨.l, none, .op (.lens (.l 0))⟩,
⟨.v 13, none, .op (.bin .lss .i64 (.l 2) (.l 0))⟩]) (
.ite (.v 13) (
.skip) (
.exit 2))) (
.seq (
.block 3 (
.reg [⟨.l, none, .op (.mov (.v 6))⟩,
⟨.l, none, .op (.mov (.v 1))⟩,
⟨.l, none, .op (.mov (.v 7))⟩,
⟨.l, none, .op (.ixa 1 (.l 1) (.l 0))⟩,
⟨.l, none, .op (.ld false 1 (.l 0))⟩,
⟨.l, none, .call 68 [(.l 4), (.l 0)]⟩])) (
.reg [⟨.l, none, .op (.mov (.v 7))⟩,
⟨.l, none, .op (.bin .add .i64 (.l 0) (.c (.int .i64 1)))⟩,
⟨.v 7, none, .op (.mov (.l 0))⟩])))))) (
.seq (
.reg [⟨.l, none, .op (.mov (.v 6))⟩,
⟨.l, none, .call 69 [(.l 0)]⟩]) (
.seq (
.reg [⟨.l, none, .op (.mov (.v 6))⟩,
⟨.l, none, .call 70 [(.l 0)]⟩,
⟨.n, none, .op (.st 3 (.v 2) (.l 0))⟩,
⟨.v 3, none, .op (.mov (.c (.int .i64 0)))⟩]) (
.ret))))))))⟩
/- 45 cayley/classes.of -/
def c_classes_of : Ay.Fn := ⟨1, [some 0, none, none, none, none, none, none, none, none, none, none, none, none, none, none, none, none, none, none, none, none, none, none, none, none, none, none, none, none, none, none, none, none, none, none, none, none, none, none, none, none, none, none, none, none, none], [.v 2, .v 3],
.seq (
.reg [⟨.v 1, none, .op (.box (.v 0))⟩,
⟨.v 2, none, .op (.mov (.c .nilp))⟩,
⟨.v 3, none, .op (.mov (.c (.int .i64 0)))⟩]) (
.seq (
.reg [⟨.l, none, .op (.ld true 3 (.v 1))⟩,
⟨.l, none, .call 71 [(.l 0)]⟩,
⟨.l, none, .op (.mov (.l 0))⟩,
⟨.l, none, .op (.ext (.l 0) 0)⟩,
⟨.l, none, .op (.ext (.l 1) 1)⟩,
⟨.v 4, none, .op (.mov (.l 1))⟩,
⟨.v 5, none, .op (.mov (.l 0))⟩]) (
.seq (
.seq (
.reg [⟨.l, none, .op (.mov (.v 5))⟩,
⟨.v 22, none, .op (.bin .neq .i64 (.l 0) (.c (.int .i64 0)))⟩]) (
.ite (.v 22) (
.seq (
.reg [⟨.l, none, .op (.mov (.v 5))⟩,
⟨.v 2, none, .op (.mov (.c .nilp))⟩,
⟨.v 3, none, .op (.mov (.l 0))⟩]) (
.ret)) (
.skip))) (
.seq (
.any 10 9 [⟨0, ⟨.v 46, none, .op (.mov (.v 4))⟩, false, []⟩,
⟨1, ⟨.v 47, none, .op (.mov (.v 4))⟩, false, []⟩,
⟨2, ⟨.v 48, none, .op (.lens (.v 47))⟩, false, []⟩,
⟨4, ⟨.v 50, none, .op (.mov (.v 4))⟩, false, []⟩,
⟨5, ⟨.v 51, none, .op (.lens (.v 50))⟩, false, []⟩,
⟨3, ⟨.v 49, none, .op (.mkw .str (some (.v 48)))⟩, true, []⟩,
⟨6, ⟨.v 52, none, .op (.mks 1 8 [(.int .i64 0)] (.v 51) (.v 51))⟩, true, []⟩,
⟨7, ⟨.v 53, none, .op (.bld [.nils, .nilm, .nils, .nils] [(0, 1, (.v 46)), (1, 1, (.v 49)), (3, 1, (.v 52))])⟩, false, []⟩,
⟨8, ⟨.v 54, none, .op (.box (.v 53))⟩, true, []⟩,
⟨9, ⟨.v 6, none, .op (.mov (.v 54))⟩, false, []⟩]) (
.seq (
.seq (
.reg [⟨.v 23, none, .op (.mov (.v 4))⟩,
⟨.v 24, none, .op (.lens (.v 23))⟩,
⟨.v 25, none, .op (.mov (.c (.int .i64 0)))⟩]) (
.block 0 (
.loop (
.seq (
.reg [⟨.v 26, none, .op (.bin .lss .i64 (.v 25) (.v 24))⟩]) (
.seq (
.ite (.v 26) (
.skip) (
.exit 0)) (
.seq (
.block 1 (
.seq (
.reg [⟨.l, none, .op (.mov (.v 25))⟩,
⟨.l, none, .op (.ixa 1 (.v 23) (.v 25))⟩,
⟨.l, none, .op (.ld false 1 (.l 0))⟩,
⟨.v 7, none, .op (.mov (.l 2))⟩,
⟨.v 8, none, .op (.mov (.l 0))⟩]) (
.any 8 7 [⟨0, ⟨.v 46, none, .op (.mov (.v 6))⟩, false, []⟩,
⟨1, ⟨.v 47, none, .op (.nck (.v 46))⟩, false, []⟩,
⟨2, ⟨.v 48, none, .op (.fla 1 (.v 47))⟩, false, []⟩,
⟨3, ⟨.v 49, none, .op (.ld false 1 (.v 48))⟩, false, []⟩,
⟨4, ⟨.v 50, none, .op (.mov (.v 8))⟩, false, []⟩,
⟨6, ⟨.v 52, none, .op (.mov (.v 7))⟩, false, []⟩,
⟨5, ⟨.v 51, none, .call 53 [(.v 50)]⟩, false, [3]⟩,
⟨7, ⟨.n, none, .op (.msw .str (.v 49) (.v 51) (.v 52))⟩, false, []⟩]))) (
.reg [⟨.l, none, .op (.bin .add .i64 (.v 25) (.c (.int .i64 1)))⟩,
⟨.v 25, none, .op (.mov (.l 0))⟩]))))))) (
.seq (
.reg [⟨.l, none, .op (.ld true 3 (.v 1))⟩,
⟨.l, none, .call 60 [(.l 0)]⟩,
⟨.l, none, .op (.mov (.l 0))⟩,
⟨.l, none, .op (.ext (.l 0) 0)⟩,
⟨.l, none, .op (.ext (.l 1) 1)⟩,
⟨.v 9, none, .op (.mov (.l 1))⟩,
⟨.l, none, .op (.mov (.l 0))⟩]) (
.seq (
.reg [⟨.l, none, .op (.mov (.v 4))⟩,
⟨.l, none, .op (.lens (.l 0))⟩,
⟨.l, none, .op (.mks 1 1 [(.bool false)] (.l 0) (.l 0))⟩,
⟨.v 10, none, .op (.mov (.l 0))⟩]) (
.seq (
.seq (
.reg [⟨.v 27, none, .op (.mov (.v 4))⟩,
⟨.v 28, none, .op (.lens (.v 27))⟩,
⟨.v 29, none, .op (.mov (.c (.int .i64 0)))⟩]) (
.block 2 (
.loop (
.seq (
.reg [⟨.v 30, none, .op (.bin .lss .i64 (.v 29) (.v 28))⟩]) (
.seq (
.ite (.v 30) (
.skip) (
.exit 2)) (
.seq (
.block 3 (
.seq (
.reg [⟨.l, none, .op (.mov (.v 29))⟩,
⟨.l, none, .op (.ixa 1 (.v 27) (.v 29))⟩,
⟨.l, none, .op (.ld false 1 (.l 0))⟩,
⟨.v 11, none, .op (.mov (.l 2))⟩,
⟨.v 12, none, .op (.mov (.l 0))⟩]) (
.seq (
.seq (
.reg [⟨.l, none, .op (.mov (.v 10))⟩,
⟨.l, none, .op (.mov (.v 11))⟩,
⟨.l, none, .op (.ixa 1 (.l 1) (.l 0))⟩,
⟨.v 31, none, .op (.ld false 1 (.l 0))⟩]) (
.ite (.v 31) (
.exit 3) (
.skip))) (
.seq (
.reg [⟨.l, none, .op (.mov (.v 10))⟩,
⟨.l, none, .op (.mov (.v 11))⟩,
⟨.l, none, .op (.ixa 1 (.l 1) (.l 0))⟩,
⟨.n, none, .op (.st 1 (.l 0) (.c (.bool true)))⟩]) (
.seq (
.reg [⟨.l, none, .op (.mov (.v 11))⟩,
⟨.l, none, .op (.bls 1 [(.int .i64 0)] 1 [(0, 1, (.l 0))])⟩,
⟨.v 13, none, .op (.mov (.l 0))⟩]) (
.seq (
.seq (
.reg [⟨.v 14, none, .op (.mov (.c (.int .i64 0)))⟩]) (
.block 4 (
.loop (
.seq (
.seq (
.reg [⟨.l, none, .op (.mov (.v 14))⟩,
⟨.l, none, .op (.mov (.v 13))⟩,
⟨.l, none, .op (.lens (.l 0))⟩,
⟨.v 32, none, .op (.bin .lss .i64 (.l 2) (.l 0))⟩]) (
.ite (.v 32) (
.skip) (
.exit 4))) (
.seq (
.block 5 (
.seq (
.reg [⟨.v 33, none, .op (.mov (.v 9))⟩,
⟨.v 34, none, .op (.lens (.v 33))⟩,
⟨.v 35, none, .op (.mov (.c (.int .i64 0)))⟩]) (
.block 6 (
.loop (
.seq (
.reg [⟨.v 36, none, .op (.bin .lss .i64 (.v 35) (.v 34))⟩]) (
.seq (
.ite (.v 36) (
.skip) (
.exit 6)) (
.seq (
.block 7 (
.seq (
.reg [⟨.l, none, .op (.ixa 1 (.v 33) (.v 35))⟩,
⟨.l, none, .op (.ld false 1 (.l 0))⟩,
⟨.v 15, none, .op (.mov (.l 0))⟩]) (
.seq (
.any 13 12 [⟨0, ⟨.v 46, none, .op (.mov (.v 15))⟩, false, []⟩,
⟨2, ⟨.v 48, none, .op (.mov (.v 4))⟩, false, []⟩,
⟨3, ⟨.v 49, none, .op (.mov (.v 13))⟩, false, []⟩,
⟨4, ⟨.v 50, none, .op (.mov (.v 14))⟩, false, []⟩,
⟨5, ⟨.v 51, none, .op (.ixa 1 (.v 49) (.v 50))⟩, false, []⟩,
⟨6, ⟨.v 52, none, .op (.ld false 1 (.v 51))⟩, false, []⟩,
⟨7, ⟨.v 53, none, .op (.ixa 1 (.v 48) (.v 52))⟩, false, []⟩,
⟨8, ⟨.v 54, none, .op (.ld false 1 (.v 53))⟩, false, []⟩,
⟨10, ⟨.v 56, none, .op (.mov (.v 15))⟩, false, []⟩,
⟨1, ⟨.v 47, none, .call 50 [(.v 46)]⟩, false, [8, 6]⟩,
⟨9, ⟨.v 55, none, .call 58 [(.v 47), (.v 54)]⟩, false, []⟩,
⟨11, ⟨.v 57, none, .call 58 [(.v 55), (.v 56)]⟩, false, []⟩,
⟨12, ⟨.v 16, none, .op (.mov (.v 57))⟩, false, []⟩]) (
.seq (
.any 8 7 [⟨0, ⟨.v 46, none, .op (.mov (.v 6))⟩, false, []⟩,
⟨1, ⟨.v 47, none, .op (.nck (.v 46))⟩, false, []⟩,
⟨2, ⟨.v 48, none, .op (.fla 1 (.v 47))⟩, false, []⟩,
⟨3, ⟨.v 49, none, .op (.ld false 1 (.v 48))⟩, false, []⟩,
⟨4, ⟨.v 50, none, .op (.mov (.v 16))⟩, false, []⟩,
⟨5, ⟨.v 51, none, .call 53 [(.v 50)]⟩, false, [3]⟩,
⟨6, ⟨.v 52, none, .op (.lkw .str (.int .i64 0) false (.v 49) (.v 51))⟩, false, []⟩,
⟨7, ⟨.v 17, none, .op (.mov (.v 52))⟩, false, []⟩]) (
.seq (
.reg [⟨.l, none, .op (.mov (.v 10))⟩,
⟨.l, none, .op (.mov (.v 17))⟩,
⟨.l, none, .op (.ixa 1 (.l 1) (.l 0))⟩,
⟨.l, none, .op (.ld false 1 (.l 0))⟩,
⟨.v 37, none, .op (.not (.l 0))⟩]) (
.ite (.v 37) (
.seq (
.reg [⟨.l, none, .op (.mov (.v 10))⟩,
⟨.l, none, .op (.mov (.v 17))⟩,
⟨.l, none, .op (.ixa 1 (.l 1) (.l 0))⟩,
⟨.n, none, .op (.st 1 (.l 0) (.c (.bool true)))⟩]) (
.reg [⟨.l, none, .op (.mov (.v 13))⟩,
⟨.l, none, .op (.mov (.v 17))⟩,
⟨.l, none, .op (.bls 1 [(.int .i64 0)] 1 [(0, 1, (.l 0))])⟩,
⟨.l, none, .op (.app 1 8 (.l 2) (.l 0))⟩,
⟨.v 13, none, .op (.mov (.l 0))⟩])) (
.skip))))))) (
.reg [⟨.l, none, .op (.bin .add .i64 (.v 35) (.c (.int .i64 1)))⟩,
⟨.v 35, none, .op (.mov (.l 0))⟩])))))))) (
.reg [⟨.l, none, .op (.mov (.v 14))⟩,
⟨.l, none, .op (.bin .add .i64 (.l 0) (.c (.int .i64 1)))⟩,
⟨.v 14, none, .op (.mov (.l 0))⟩])))))) (
.seq (
.reg [⟨.l, none, .op (.mov (.v 13))⟩,
⟨.l, none, .call 72 [(.l 0)]⟩]) (
.seq (
.reg [⟨.l, none, .op (.mov (.v 12))⟩,
⟨.l, none, .call 73 [(.l 0)]⟩,
⟨.l, none, .op (.mov (.l 0))⟩,
⟨.l, none, .op (.ext (.l 0) 0)⟩,
⟨.l, none, .op (.ext (.l 1) 1)⟩,
⟨.v 18, none, .op (.mov (.l 1))⟩,
⟨.l, none, .op (.mov (.l 0))⟩]) (
.reg [⟨.l, none, .op (.mov (.v 6))⟩,
⟨.l, none, .op (.mov (.v 6))⟩,
⟨.l, none, .op (.nck (.l 0))⟩,
⟨.l, none, .op (.fla 2 (.l 0))⟩,
⟨.l, none, .op (.ld false 1 (.l 0))⟩,
⟨.l, none, .op (.mov (.v 12))⟩,
⟨.l, none, .op (.mov (.v 18))⟩,
⟨.l, none, .op (.mov (.v 13))⟩,
⟨.l, none, .op (.lens (.l 0))⟩,
⟨.l, none, .op (.bld [.nils, (.int .i64 0), (.int .i64 0)] [(0, 1, (.l 3)), (1, 1, (.l 2)), (2, 1, (.l 0))])⟩,
⟨.l, none, .op (.mov (.v 13))⟩,
⟨.l, none, .op (.bld [.nils, (.int .i64 0), (.int .i64 0), .nils] [(0, 3, (.l 1)), (3, 1, (.l 0))])⟩,
⟨.l, none, .op (.bls 4 [.nils, (.int .i64 0), (.int .i64 0), .nils] 1 [(0, 4, (.l 0))])⟩,
⟨.l, none, .op (.app 4 64 (.l 8) (.l 0))⟩,
⟨.l, none, .op (.nck (.l 13))⟩,
⟨.l, none, .op (.fla 2 (.l 0))⟩,
⟨.n, none, .op (.st 1 (.l 0) (.l 2))⟩]))))))))) (
.reg [⟨.l, none, .op (.bin .add .i64 (.v 29) (.c (.int .i64 1)))⟩,
⟨.v 29, none, .op (.mov (.l 0))⟩]))))))) (
.seq (
.reg [⟨.l, none, .op (.mov (.v 6))⟩,
⟨.l, none, .op (.nck (.l 0))⟩,
⟨.l, none, .op (.fla 2 (.l 0))⟩,
⟨.l, none, .op (.ld false 1 (.l 0))⟩,
⟨.l, none, .call 74 [(.l 0), (.c (.fn 75 [] []))]⟩]) (
.seq (
.seq (
.reg [⟨.l, none, .op (.mov (.v 6))⟩,
⟨.l, none, .op (.nck (.l 0))⟩,
⟨.l, none, .op (.fla 2 (.l 0))⟩,
⟨.v 38, none, .op (.ld false 1 (.l 0))⟩,
⟨.v 39, none, .op (.lens (.v 38))⟩,
⟨.v 40, none, .op (.mov (.c (.int .i64 0)))⟩]) (
.block 8 (
.loop (
.seq (
.reg [⟨.v 41, none, .op (.bin .lss .i64 (.v 40) (.v 39))⟩]) (
.seq (
.ite (.v 41) (
.skip) (
.exit 8)) (
.seq (
.block 9 (
.seq (
.reg [⟨.l, none, .op (.mov (.v 40))⟩,
⟨.l, none, .op (.ixa 4 (.v 38) (.v 40))⟩,
⟨.l, none, .op (.ld true 4 (.l 0))⟩,
⟨.v 20, none, .op (.alc [.nils, (.int .i64 0), (.int .i64 0), .nils])⟩,
⟨.v 19, none, .op (.mov (.l 2))⟩,
⟨.n, none, .op (.st 4 (.v 20) (.l 0))⟩]) (
.seq (
.reg [⟨.l, none, .op (.fla 3 (.v 20))⟩,
⟨.v 42, none, .op (.ld false 1 (.l 0))⟩,
⟨.v 43, none, .op (.lens (.v 42))⟩,
⟨.v 44, none, .op (.mov (.c (.int .i64 0)))⟩]) (
.block 10 (
.loop (
.seq (
.reg [⟨.v 45, none, .op (.bin .lss .i64 (.v 44) (.v 43))⟩]) (
.seq (
.ite (.v 45) (
.skip) (
.exit 10)) (
.seq (
.block 11 (
.seq (
.reg [⟨.l, none, .op (.ixa 1 (.v 42) (.v 44))⟩,
⟨.l, none, .op (.ld false 1 (.l 0))⟩,
⟨.v 21, none, .op (.mov (.l 0))⟩]) (
.reg [⟨.l, none, .op (.mov (.v 6))⟩,
⟨.l, none, .op (.nck (.l 0))⟩,
⟨.l, none, .op (.fla 3 (.l 0))⟩,
⟨.l, none, .op (.ld false 1 (.l 0))⟩,
⟨.l, none, .op (.mov (.v 21))⟩,
⟨.l, none, .op (.mov (.v 19))⟩,
⟨.l, none, .op (.ixa 1 (.l 2) (.l 1))⟩,
⟨.n, none, .op (.st 1 (.l 0) (.l 1))⟩]))) (
.reg [⟨.l, none, .op (.bin .add .i64 (.v 44) (.c (.int .i64 1)))⟩,
⟨.v 44, none, .op (.mov (.l 0))⟩]))))))))) (
.reg [⟨.l, none, .op (.bin .add .i64 (.v 40) (.c (.int .i64 1)))⟩,
⟨.v 40, none, .op (.mov (.l 0))⟩]))))))) (
.seq (
.reg [⟨.l, none, .op (.mov (.v 6))⟩,
⟨.v 2, none, .op (.mov (.l 0))⟩,
⟨.v 3, none, .op (.mov (.c (.int .i64 0)))⟩]) (
.ret)))))))))))⟩
/- 46 (ptr cayley/classes.group).find -/
def c_classes_group_find : Ay.Fn := ⟨2, [some 0, some 1, none], [.v 2],
.seq (
.reg [⟨.v 2, none, .op (.mov (.c (.int .i64 0)))⟩]) (
.seq (
.any 14 13 [⟨0, ⟨.v 3, none, .op (.mov (.v 0))⟩, false, []⟩,
⟨1, ⟨.v 4, none, .op (.nck (.v 3))⟩, false, []⟩,
⟨2, ⟨.v 5, none, .op (.fla 3 (.v 4))⟩, false, []⟩,
⟨3, ⟨.v 6, none, .op (.ld false 1 (.v 5))⟩, false, []⟩,
⟨4, ⟨.v 7, none, .op (.mov (.v 0))⟩, false, []⟩,
⟨5, ⟨.v 8, none, .op (.nck (.v 7))⟩, false, []⟩,
⟨6, ⟨.v 9, none, .op (.fla 1 (.v 8))⟩, false, []⟩,
⟨7, ⟨.v 10, none, .op (.ld false 1 (.v 9))⟩, false, []⟩,
⟨8, ⟨.v 11, none, .op (.mov (.v 1))⟩, false, []⟩,
⟨9, ⟨.v 12, none, .call 53 [(.v 11)]⟩, false, [7, 3]⟩,
⟨10, ⟨.v 13, none, .op (.lkw .str (.int .i64 0) false (.v 10) (.v 12))⟩, false, []⟩,
⟨11, ⟨.v 14, none, .op (.ixa 1 (.v 6) (.v 13))⟩, false, []⟩,
⟨12, ⟨.v 15, none, .op (.ld false 1 (.v 14))⟩, false, []⟩,
⟨13, ⟨.v 2, none, .op (.mov (.v 15))⟩, false, []⟩]) (
.ret))⟩
/- 47 cayley/classes.power[cayley/classes.element] -/
def c_classes_power_classes_element : Ay.Fn := ⟨3, [some 0, some 1, some 2, none, none, none], [.v 3],
.seq (
.reg [⟨.v 3, none, .op (.mov (.c .nils))⟩]) (
.seq (
.block 0 (
.loop (
.seq (
.seq (
.reg [⟨.l, none, .op (.mov (.v 2))⟩,
⟨.v 4, none, .op (.bin .gtr .i64 (.l 0) (.c (.int .i64 0)))⟩]) (
.ite (.v 4) (
.skip) (
.exit 0))) (
.seq (
.block 1 (
.seq (
.seq (
.reg [⟨.l, none, .op (.mov (.v 2))⟩,
⟨.l, none, .op (.bin .and .i64 (.l 0) (.c (.int .i64 1)))⟩,
⟨.v 5, none, .op (.bin .eql .i64 (.l 0) (.c (.int .i64 1)))⟩]) (
.ite (.v 5) (
.reg [⟨.l, none, .op (.mov (.v 1))⟩,
⟨.l, none, .op (.mif 87 (.l 0))⟩,
⟨.l, none, .op (.mov (.v 0))⟩,
⟨.l, none, .calli 58 87 (.l 1) [(.l 0)]⟩,
⟨.v 1, none, .op (.mov (.l 0))⟩]) (
.skip))) (
.reg [⟨.l, none, .op (.mov (.v 0))⟩,
⟨.l, none, .op (.mif 87 (.l 0))⟩,
⟨.l, none, .op (.mov (.v 0))⟩,
⟨.l, none, .calli 58 87 (.l 1) [(.l 0)]⟩,
⟨.v 0, none, .op (.mov (.l 0))⟩]))) (
.reg [⟨.l, none, .op (.mov (.v 2))⟩,
⟨.l, none, .op (.shf .shr .i64 (.l 0) (.c (.int .u64 1)))⟩,
⟨.v 2, none, .op (.mov (.l 0))⟩]))))) (
.seq (
.reg [⟨.l, none, .op (.mov (.v 1))⟩,
⟨.v 3, none, .op (.mov (.l 0))⟩]) (
.ret)))⟩
/- 50 (cayley/classes.element).inverse -/
def c_classes_element_inverse : Ay.Fn := ⟨1, [some 0, none, none, none, none, none, none, none, none], [.v 1],
.seq (
.reg [⟨.v 1, none, .op (.mov (.c .nils))⟩]) (
.seq (
.reg [⟨.l, none, .op (.mov (.v 0))⟩,
⟨.l, none, .op (.lens (.l 0))⟩,
⟨.l, none, .op (.mks 1 8 [(.int .i64 0)] (.l 0) (.l 0))⟩,
⟨.v 2, none, .op (.mov (.l 0))⟩]) (
.seq (
.seq (
.reg [⟨.v 5, none, .op (.mov (.v 0))⟩,
⟨.v 6, none, .op (.lens (.v 5))⟩,
⟨.v 7, none, .op (.mov (.c (.int .i64 0)))⟩]) (
.block 0 (
.loop (
.seq (
.reg [⟨.v 8, none, .op (.bin .lss .i64 (.v 7) (.v 6))⟩]) (
.seq (
.ite (.v 8) (
.skip) (
.exit 0)) (
.seq (
.block 1 (
.seq (
.reg [⟨.l, none, .op (.mov (.v 7))⟩,
⟨.l, none, .op (.ixa 1 (.v 5) (.v 7))⟩,
⟨.l, none, .op (.ld false 1 (.l 0))⟩,
⟨.v 3, none, .op (.mov (.l 2))⟩,
⟨.v 4, none, .op (.mov (.l 0))⟩]) (
.reg [⟨.l, none, .op (.mov (.v 2))⟩,
⟨.l, none, .op (.mov (.v 4))⟩,
⟨.l, none, .op (.mov (.v 3))⟩,
⟨.l, none, .op (.ixa 1 (.l 2) (.l 1))⟩,
⟨.n, none, .op (.st 1 (.l 0) (.l 1))⟩]))) (
.reg [⟨.l, none, .op (.bin .add .i64 (.v 7) (.c (.int .i64 1)))⟩,
⟨.v 7, none, .op (.mov (.l 0))⟩]))))))) (
.seq (
.reg [⟨.l, none, .op (.mov (.v 2))⟩,
⟨.v 1, none, .op (.mov (.l 0))⟩]) (
.ret))))⟩
/- 51 cayley/cayleykit.Own[int] -/
def c_kit_Own_int : Ay.Fn := ⟨1, [some 0, none], [.v 1],
.seq (
.reg [⟨.v 1, none, .op (.mov (.c .nils))⟩]) (
.seq (
.reg [⟨.l, none, .op (.bls 1 [(.int .i64 0)] 0 [])⟩,
⟨.l, none, .op (.mov (.v 0))⟩,
⟨.l, none, .op (.app 1 8 (.l 1) (.l 0))⟩,
⟨.v 1, none, .op (.mov (.l 0))⟩]) (
.ret))⟩
/- 52 cayley/perm.Check -/
def c_perm_Check : Ay.Fn := ⟨1, [some 0, none, none, none, none, none, none, none, none, none], [.v 1],
.seq (
.reg [⟨.v 1, none, .op (.mov (.c (.int .i64 0)))⟩]) (
.seq (
.seq (
.reg [⟨.l, none, .op (.mov (.v 0))⟩,
⟨.l, none, .op (.lens (.l 0))⟩,
⟨.l, none, .op (.bin .lss .i64 (.l 0) (.c (.int .i64 1)))⟩,
⟨.l, none, .op (.mov (.l 0))⟩,
⟨.l, some ((.l 0), false), .op (.mov (.v 0))⟩,
⟨.l, some ((.l 1), false), .op (.lens (.l 0))⟩,
⟨.l, some ((.l 2), false), .op (.bin .gtr .i64 (.l 0) (.c (.int .i64 64)))⟩,
⟨.v 4, none, .op (.pick (.l 3) (.c (.bool true)) (.l 0))⟩]) (
.ite (.v 4) (
.seq (
.reg [⟨.v 1, none, .op (.mov (.c (.int .i64 2)))⟩]) (
.ret)) (
.skip))) (
.seq (
.reg [⟨.v 2, none, .op (.alc [(.bool false), (.bool false), (.bool false), (.bool false), (.bool false), (.bool false), (.bool false), (.bool false), (.bool false), (.bool false), (.bool false), (.bool false), (.bool false), (.bool false), (.bool false), (.bool false), (.bool false), (.bool false), (.bool false), (.bool false), (.bool false), (.bool false), (.bool false), (.bool false), (.bool false), (.bool false), (.bool false), (.bool false), (.bool false), (.bool false), (.bool false), (.bool false), (.bool false), (.bool false), (.bool false), (.bool false), (.bool false), (.bool false), (.bool false), (.bool false), (.bool false), (.bool false), (.bool false), (.bool false), (.bool false), (.bool false), (.bool false), (.bool false), (.bool false), (.bool false), (.bool false), (.bool false), (.bool false), (.bool false), (.bool false), (.bool false), (.bool false), (.bool false), (.bool false), (.bool false), (.bool false), (.bool false), (.bool false), (.bool false)])⟩]) (
.seq (
.seq (
.reg [⟨.v 5, none, .op (.mov (.v 0))⟩,
⟨.v 6, none, .op (.lens (.v 5))⟩,
⟨.v 7, none, .op (.mov (.c (.int .i64 0)))⟩]) (
.block 0 (
.loop (
.seq (
.reg [⟨.v 8, none, .op (.bin .lss .i64 (.v 7) (.v 6))⟩]) (
.seq (
.ite (.v 8) (
.skip) (
.exit 0)) (
.seq (
.block 1 (
.seq (
.reg [⟨.l, none, .op (.ixa 1 (.v 5) (.v 7))⟩,
⟨.l, none, .op (.ld false 1 (.l 0))⟩,
⟨.v 3, none, .op (.mov (.l 0))⟩]) (
.seq (
.seq (
.reg [⟨.l, none, .op (.mov (.v 3))⟩,
⟨.l, none, .op (.bin .lss .i64 (.l 0) (.c (.int .i64 0)))⟩,
⟨.l, none, .op (.mov (.l 0))⟩,
⟨.l, some ((.l 0), false), .op (.mov (.v 3))⟩,
⟨.l, some ((.l 1), false), .op (.mov (.v 0))⟩,
⟨.l, some ((.l 2), false), .op (.lens (.l 0))⟩,
⟨.l, some ((.l 3), false), .op (.bin .geq .i64 (.l 2) (.l 0))⟩,
⟨.l, none, .op (.pick (.l 4) (.c (.bool true)) (.l 0))⟩,
⟨.l, none, .op (.mov (.l 0))⟩,
⟨.l, some ((.l 0), false), .op (.mov (.v 3))⟩,
⟨.l, some ((.l 1), false), .op (.ixd 64 1 (.v 2) (.l 0))⟩,
⟨.l, some ((.l 2), false), .op (.ld false 1 (.l 0))⟩,
⟨.v 9, none, .op (.pick (.l 3) (.c (.bool true)) (.l 0))⟩]) (
.ite (.v 9) (
.seq (
.reg [⟨.v 1, none, .op (.mov (.c (.int .i64 3)))⟩]) (
.ret)) (
.skip))) (
.reg [⟨.l, none, .op (.mov (.v 3))⟩,
⟨.l, none, .op (.ixd 64 1 (.v 2) (.l 0))⟩,
⟨.n, none, .op (.st 1 (.l 0) (.c (.bool true)))⟩])))) (
.reg [⟨.l, none, .op (.bin .add .i64 (.v 7) (.c (.int .i64 1)))⟩,
⟨.v 7, none, .op (.mov (.l 0))⟩]))))))) (
.seq (
.reg [⟨.v 1, none, .op (.mov (.c (.int .i64 0)))⟩]) (
.ret)))))⟩
/- 53 (cayley/classes.element).word -/
def c_classes_element_word : Ay.Fn := ⟨1, [some 0, none, none, none, none, none, none, none, none], [.v 1],
.seq (
.reg [⟨.v 1, none, .op (.mov (.c (.str [])))⟩]) (
.seq (
.reg [⟨.l, none, .op (.mov (.v 0))⟩,
⟨.l, none, .op (.lens (.l 0))⟩,
⟨.l, none, .op (.mks 1 1 [(.int .u8 0)] (.l 0) (.l 0))⟩,
⟨.v 2, none, .op (.mov (.l 0))⟩]) (
.seq (
.seq (
.reg [⟨.v 5, none, .op (.mov (.v 0))⟩,
⟨.v 6, none, .op (.lens (.v 5))⟩,
⟨.v 7, none, .op (.mov (.c (.int .i64 0)))⟩]) (
.block 0 (
.loop (
.seq (
.reg [⟨.v 8, none, .op (.bin .lss .i64 (.v 7) (.v 6))⟩]) (
.seq (
.ite (.v 8) (
.skip) (
.exit 0)) (
.seq (
.block 1 (
.seq (
.reg [⟨.l, none, .op (.mov (.v 7))⟩,
⟨.l, none, .op (.ixa 1 (.v 5) (.v 7))⟩,
⟨.l, none, .op (.ld false 1 (.l 0))⟩,
⟨.v 3, none, .op (.mov (.l 2))⟩,
⟨.v 4, none, .op (.mov (.l 0))⟩]) (
.reg [⟨.l, none, .op (.mov (.v 2))⟩,
⟨.l, none, .op (.mov (.v 3))⟩,
⟨.l, none, .op (.mov (.v 4))⟩,
⟨.l, none, .op (.conv .u8 (.l 0))⟩,
⟨.l, none, .op (.ixa 1 (.l 3) (.l 2))⟩,
⟨.n, none, .op (.st 1 (.l 0) (.l 1))⟩]))) (
.reg [⟨.l, none, .op (.bin .add .i64 (.v 7) (.c (.int .i64 1)))⟩,
⟨.v 7, none, .op (.mov (.l 0))⟩]))))))) (
.seq (
.reg [⟨.l, none, .op (.mov (.v 2))⟩,
⟨.l, none, .op (.cvs (.l 0))⟩,
⟨.v 1, none, .op (.mov (.l 0))⟩]) (
.ret))))⟩
/- 54 cayley/cayleyref01.Check -/
def c_ref01_Check : Ay.Fn := ⟨1, [some 0, none, none, none], [.v 1],
.seq (
.reg [⟨.v 1, none, .op (.mov (.c (.int .i64 0)))⟩]) (
.seq (
.seq (
.reg [⟨.l, none, .op (.mov (.v 0))⟩,
⟨.l, none, .op (.lens (.l 0))⟩,
⟨.l, none, .op (.bin .lss .i64 (.l 0) (.c (.int .i64 1)))⟩,
⟨.l, none, .op (.mov (.l 0))⟩,
⟨.l, some ((.l 0), false), .op (.mov (.v 0))⟩,
⟨.l, some ((.l 1), false), .op (.lens (.l 0))⟩,
⟨.l, some ((.l 2), false), .op (.bin .gtr .i64 (.l 0) (.c (.int .i64 64)))⟩,
⟨.v 2, none, .op (.pick (.l 3) (.c (.bool true)) (.l 0))⟩]) (
.ite (.v 2) (
.seq (
.reg [⟨.v 1, none, .op (.mov (.c (.int .i64 2)))⟩]) (
.ret)) (
.skip))) (
.seq (
.seq (
.reg [⟨.l, none, .op (.mov (.v 0))⟩,
⟨.l, none, .op (.mov (.v 0))⟩,
⟨.l, none, .op (.lens (.l 0))⟩,
⟨.l, none, .call 85 [(.l 2), (.l 0)]⟩,
⟨.v 3, none, .op (.not (.l 0))⟩]) (
.ite (.v 3) (
.seq (
.reg [⟨.v 1, none, .op (.mov (.c (.int .i64 3)))⟩]) (
.ret)) (
.skip))) (
.seq (
.reg [⟨.v 1, none, .op (.mov (.c (.int .i64 0)))⟩]) (
.ret))))⟩
/- 55 cayley/chain.Make -/
def c_chain_Make : Ay.Fn := ⟨2, [some 0, some 1, none, none, none, none, none, none, none, none, none, none, none, none], [.cell 2 true 3, .v 3],
.seq (
.reg [⟨.v 2, none, .op (.alc [(.int .i64 0), .nils, .nils])⟩,
⟨.v 3, none, .op (.mov (.c (.int .i64 0)))⟩]) (
.seq (
.seq (
.reg [⟨.l, none, .op (.mov (.v 0))⟩,
⟨.l, none, .op (.bin .lss .i64 (.l 0) (.c (.int .i64 1)))⟩,
⟨.l, none, .op (.mov (.l 0))⟩,
⟨.l, some ((.l 0), false), .op (.mov (.v 0))⟩,
⟨.l, some ((.l 1), false), .op (.bin .gtr .i64 (.l 0) (.c (.int .i64 64)))⟩,
⟨.v 6, none, .op (.pick (.l 2) (.c (.bool true)) (.l 0))⟩]) (
.ite (.v 6) (
.seq (
.reg [⟨.l, none, .op (.bld [(.int .i64 0), .nils, .nils] [])⟩,
⟨.n, none, .op (.st 3 (.v 2) (.l 0))⟩,
⟨.v 3, none, .op (.mov (.c (.int .i64 2)))⟩]) (
.ret)) (
.skip))) (
.seq (
.seq (
.reg [⟨.l, none, .op (.mov (.v 1))⟩,
⟨.l, none, .op (.lens (.l 0))⟩,
⟨.v 7, none, .op (.bin .gtr .i64 (.l 0) (.c (.int .i64 4096)))⟩]) (
.ite (.v 7) (
.seq (
.reg [⟨.l, none, .op (.bld [(.int .i64 0), .nils, .nils] [])⟩,
⟨.n, none, .op (.st 3 (.v 2) (.l 0))⟩,
⟨.v 3, none, .op (.mov (.c (.int .i64 4)))⟩]) (
.ret)) (
.skip))) (
.seq (
.seq (
.reg [⟨.v 8, none, .op (.mov (.v 1))⟩,
⟨.v 9, none, .op (.lens (.v 8))⟩,
⟨.v 10, none, .op (.mov (.c (.int .i64 0)))⟩]) (
.block 0 (
.loop (
.seq (
.reg [⟨.v 11, none, .op (.bin .lss .i64 (.v 10) (.v 9))⟩]) (
.seq (
.ite (.v 11) (
.skip) (
.exit 0)) (
.seq (
.block 1 (
.seq (
.reg [⟨.l, none, .op (.ixa 1 (.v 8) (.v 10))⟩,
⟨.l, none, .op (.ld false 1 (.l 0))⟩,
⟨.v 4, none, .op (.mov (.l 0))⟩]) (
.seq (
.seq (
.reg [⟨.l, none, .op (.mov (.v 4))⟩,
⟨.l, none, .call 52 [(.l 0)]⟩,
⟨.v 5, none, .op (.mov (.l 0))⟩]) (
.seq (
.reg [⟨.l, none, .op (.mov (.v 5))⟩,
⟨.v 12, none, .op (.bin .neq .i64 (.l 0) (.c (.int .i64 0)))⟩]) (
.ite (.v 12) (
.seq (
.reg [⟨.l, none, .op (.bld [(.int .i64 0), .nils, .nils] [])⟩,
⟨.l, none, .op (.mov (.v 5))⟩,
⟨.n, none, .op (.st 3 (.v 2) (.l 1))⟩,
⟨.v 3, none, .op (.mov (.l 0))⟩]) (
.ret)) (
.skip)))) (
.seq (
.reg [⟨.l, none, .op (.mov (.v 4))⟩,
⟨.l, none, .op (.lens (.l 0))⟩,
⟨.l, none, .op (.mov (.v 0))⟩,
⟨.v 13, none, .op (.bin .neq .i64 (.l 1) (.l 0))⟩]) (
.ite (.v 13) (
.seq (
.reg [⟨.l, none, .op (.bld [(.int .i64 0), .nils, .nils] [])⟩,
⟨.n, none, .op (.st 3 (.v 2) (.l 0))⟩,
⟨.v 3, none, .op (.mov (.c (.int .i64 10)))⟩]) (
.ret)) (
.skip)))))) (
.reg [⟨.l, none, .op (.bin .add .i64 (.v 10) (.c (.int .i64 1)))⟩,
⟨.v 10, none, .op (.mov (.l 0))⟩]))))))) (
.seq (
.reg [⟨.l, none, .op (.mov (.v 0))⟩,
⟨.l, none, .op (.mov (.v 1))⟩,
⟨.l, none, .call 86 [(.l 1), (.l 0)]⟩,
⟨.l, none, .call 87 [(.l 0)]⟩,
⟨.n, none, .op (.st 3 (.v 2) (.l 0))⟩,
⟨.v 3, none, .op (.mov (.c (.int .i64 0)))⟩]) (
.ret)))))⟩
/- 56 cayley/rank.Size -/
def c_rank_Size : Ay.Fn := ⟨1, [some 0, none, none, none, none, none, none, none, none], [.v 2, .v 3],
.seq (
.reg [⟨.v 1, none, .op (.box (.v 0))⟩,
⟨.v 2, none, .op (.mov (.c (.int .i64 0)))⟩,
⟨.v 3, none, .op (.mov (.c (.int .i64 0)))⟩]) (
.seq (
.seq (
.reg [⟨.l, none, .op (.ld true 3 (.v 1))⟩,
⟨.l, none, .call 88 [(.l 0)]⟩,
⟨.v 4, none, .op (.mov (.l 0))⟩]) (
.seq (
.reg [⟨.l, none, .op (.mov (.v 4))⟩,
⟨.v 7, none, .op (.bin .neq .i64 (.l 0) (.c (.int .i64 0)))⟩]) (
.ite (.v 7) (
.seq (
.reg [⟨.l, none, .op (.mov (.v 4))⟩,
⟨.v 2, none, .op (.mov (.c (.int .i64 0)))⟩,
⟨.v 3, none, .op (.mov (.l 0))⟩]) (
.ret)) (
.skip)))) (
.seq (
.reg [⟨.l, none, .op (.ld true 3 (.v 1))⟩,
⟨.l, none, .call 89 [(.l 0)]⟩,
⟨.l, none, .op (.mov (.l 0))⟩,
⟨.l, none, .op (.ext (.l 0) 0)⟩,
⟨.l, none, .op (.ext (.l 1) 1)⟩,
⟨.v 5, none, .op (.mov (.l 1))⟩,
⟨.v 6, none, .op (.mov (.l 0))⟩]) (
.seq (
.seq (
.reg [⟨.l, none, .op (.mov (.v 6))⟩,
⟨.v 8, none, .op (.not (.l 0))⟩]) (
.ite (.v 8) (
.seq (
.reg [⟨.v 2, none, .op (.mov (.c (.int .i64 0)))⟩,
⟨.v 3, none, .op (.mov (.c (.int .i64 5)))⟩]) (
.ret)) (
.skip))) (
.seq (
.reg [⟨.l, none, .op (.mov (.v 5))⟩,
⟨.l, none, .op (.ixa 1 (.l 0) (.c (.int .i64 0)))⟩,
⟨.l, none, .op (.ld false 1 (.l 0))⟩,
⟨.v 2, none, .op (.mov (.l 0))⟩,
⟨.v 3, none, .op (.mov (.c (.int .i64 0)))⟩]) (
.ret)))))⟩
/- 57 slices.Equal[cayley/classes.element,int] -/
def c_slices_Equal_classes_element_int : Ay.Fn := ⟨2, [some 0, some 1, none, none, none, none, none, none, none], [.v 2],
.seq (
.reg [⟨.v 2, none, .op (.mov (.c (.bool false)))⟩]) (
.seq (
.seq (
.reg [⟨.l, none, .op (.mov (.v 0))⟩,
⟨.l, none, .op (.lens (.l 0))⟩,
⟨.l, none, .op (.mov (.v 1))⟩,
⟨.l, none, .op (.lens (.l 0))⟩,
⟨.v 4, none, .op (.bin .neq .i64 (.l 2) (.l 0))⟩]) (
.ite (.v 4) (
.seq (
.reg [⟨.v 2, none, .op (.mov (.c (.bool false)))⟩]) (
.ret)) (
.skip))) (
.seq (
.seq (
.reg [⟨.l, none, .op (.mov (.v 0))⟩,
⟨.v 5, none, .op (.lens (.l 0))⟩,
⟨.v 6, none, .op (.mov (.c (.int .i64 0)))⟩]) (
.block 0 (
.loop (
.seq (
.reg [⟨.v 7, none, .op (.bin .lss .i64 (.v 6) (.v 5))⟩]) (
.seq (
.ite (.v 7) (
.skip) (
.exit 0)) (
.seq (
.block 1 (
.seq (
.reg [⟨.l, none, .op (.mov (.v 6))⟩,
⟨.v 3, none, .op (.mov (.l 0))⟩]) (
.seq (
.any 9 8 [⟨0, ⟨.v 9, none, .op (.mov (.v 0))⟩, false, []⟩,
⟨1, ⟨.v 10, none, .op (.mov (.v 3))⟩, false, []⟩,
⟨2, ⟨.v 11, none, .op (.ixa 1 (.v 9) (.v 10))⟩, false, []⟩,
⟨3, ⟨.v 12, none, .op (.ld false 1 (.v 11))⟩, false, []⟩,
⟨4, ⟨.v 13, none, .op (.mov (.v 1))⟩, false, []⟩,
⟨5, ⟨.v 14, none, .op (.mov (.v 3))⟩, false, []⟩,
⟨6, ⟨.v 15, none, .op (.ixa 1 (.v 13) (.v 14))⟩, false, []⟩,
⟨7, ⟨.v 16, none, .op (.ld false 1 (.v 15))⟩, false, []⟩,
⟨8, ⟨.v 8, none, .op (.bin .neq .i64 (.v 12) (.v 16))⟩, false, []⟩]) (
.ite (.v 8) (
.seq (
.reg [⟨.v 2, none, .op (.mov (.c (.bool false)))⟩]) (
.ret)) (
.skip))))) (
.reg [⟨.l, none, .op (.bin .add .i64 (.v 6) (.c (.int .i64 1)))⟩,
⟨.v 6, none, .op (.mov (.l 0))⟩]))))))) (
.seq (
.reg [⟨.v 2, none, .op (.mov (.c (.bool true)))⟩]) (
.ret))))⟩
/- 58 (cayley/classes.element).times -/
def c_classes_element_times : Ay.Fn := ⟨2, [some 0, some 1, none, none, none, none, none, none, none, none], [.v 2],
.seq (
.reg [⟨.v 2, none, .op (.mov (.c .nils))⟩]) (
.seq (
.reg [⟨.l, none, .op (.mov (.v 0))⟩,
⟨.l, none, .op (.lens (.l 0))⟩,
⟨.l, none, .op (.mks 1 8 [(.int .i64 0)] (.l 0) (.l 0))⟩,
⟨.v 3, none, .op (.mov (.l 0))⟩]) (
.seq (
.seq (
.reg [⟨.v 6, none, .op (.mov (.v 0))⟩,
⟨.v 7, none, .op (.lens (.v 6))⟩,
⟨.v 8, none, .op (.mov (.c (.int .i64 0)))⟩]) (
.block 0 (
.loop (
.seq (
.reg [⟨.v 9, none, .op (.bin .lss .i64 (.v 8) (.v 7))⟩]) (
.seq (
.ite (.v 9) (
.skip) (
.exit 0)) (
.seq (
.block 1 (
.seq (
.reg [⟨.l, none, .op (.mov (.v 8))⟩,
⟨.l, none, .op (.ixa 1 (.v 6) (.v 8))⟩,
⟨.l, none, .op (.ld false 1 (.l 0))⟩,
⟨.v 4, none, .op (.mov (.l 2))⟩,
⟨.v 5, none, .op (.mov (.l 0))⟩]) (
.reg [⟨.l, none, .op (.mov (.v 3))⟩,
⟨.l, none, .op (.mov (.v 4))⟩,
⟨.l, none, .op (.mov (.v 1))⟩,
⟨.l, none, .op (.mov (.v 5))⟩,
⟨.l, none, .op (.ixa 1 (.l 1) (.l 0))⟩,
⟨.l, none, .op (.ld false 1 (.l 0))⟩,
⟨.l, none, .op (.ixa 1 (.l 5) (.l 4))⟩,
⟨.n, none, .op (.st 1 (.l 0) (.l 1))⟩]))) (
.reg [⟨.l, none, .op (.bin .add .i64 (.v 8) (.c (.int .i64 1)))⟩,
⟨.v 8, none, .op (.mov (.l 0))⟩]))))))) (
.seq (
.reg [⟨.l, none, .op (.mov (.v 3))⟩,
⟨.v 2, none, .op (.mov (.l 0))⟩]) (
.ret))))⟩
/- 59 cayley/chain.In -/
def c_chain_In : Ay.Fn := ⟨2, [some 0, some 1, none, none, none, none, none, none], [.v 3, .v 4],
.seq (
.reg [⟨.v 2, none, .op (.box (.v 0))⟩,
⟨.v 3, none, .op (.mov (.c (.bool false)))⟩,
⟨.v 4, none, .op (.mov (.c (.int .i64 0)))⟩]) (
.seq (
.seq (
.reg [⟨.l, none, .op (.ld true 3 (.v 2))⟩,
⟨.l, none, .op (.mov (.v 1))⟩,
⟨.l, none, .call 90 [(.l 1), (.l 0)]⟩,
⟨.v 5, none, .op (.mov (.l 0))⟩]) (
.seq (
.reg [⟨.l, none, .op (.mov (.v 5))⟩,
⟨.v 7, none, .op (.bin .neq .i64 (.l 0) (.c (.int .i64 0)))⟩]) (
.ite (.v 7) (
.seq (
.reg [⟨.l, none, .op (.mov (.v 5))⟩,
⟨.v 3, none, .op (.mov (.c (.bool false)))⟩,
⟨.v 4, none, .op (.mov (.l 0))⟩]) (
.ret)) (
.skip)))) (
.seq (
.reg [⟨.l, none, .op (.ld true 3 (.v 2))⟩,
⟨.l, none, .op (.mov (.v 1))⟩,
⟨.l, none, .call 91 [(.l 1), (.l 0)]⟩,
⟨.l, none, .op (.mov (.l 0))⟩,
⟨.l, none, .op (.ext (.l 0) 0)⟩,
⟨.l, none, .op (.ext (.l 1) 1)⟩,
⟨.l, none, .op (.mov (.l 1))⟩,
⟨.v 6, none, .op (.mov (.l 1))⟩]) (
.seq (
.reg [⟨.l, none, .op (.mov (.v 6))⟩,
⟨.l, none, .op (.fla 0 (.v 2))⟩,
⟨.l, none, .op (.ld false 1 (.l 0))⟩,
⟨.l, none, .op (.bin .eql .i64 (.l 2) (.l 0))⟩,
⟨.v 3, none, .op (.mov (.l 0))⟩,
⟨.v 4, none, .op (.mov (.c (.int .i64 0)))⟩]) (
.ret))))⟩
/- 60 cayley/chain.Strong -/
def c_chain_Strong : Ay.Fn := ⟨1, [some 0, none, none, none, none, none, none, none, none, none, none, none, none, none, none, none], [.v 2, .v 3],
.seq (
.reg [⟨.v 1, none, .op (.box (.v 0))⟩,
⟨.v 2, none, .op (.mov (.c .nils))⟩,
⟨.v 3, none, .op (.mov (.c (.int .i64 0)))⟩]) (
.seq (
.seq (
.reg [⟨.l, none, .op (.ld true 3 (.v 1))⟩,
⟨.l, none, .call 88 [(.l 0)]⟩,
⟨.v 4, none, .op (.mov (.l 0))⟩]) (
.seq (
.reg [⟨.l, none, .op (.mov (.v 4))⟩,
⟨.v 8, none, .op (.bin .neq .i64 (.l 0) (.c (.int .i64 0)))⟩]) (
.ite (.v 8) (
.seq (
.reg [⟨.l, none, .op (.mov (.v 4))⟩,
⟨.v 2, none, .op (.mov (.c .nils))⟩,
⟨.v 3, none, .op (.mov (.l 0))⟩]) (
.ret)) (
.skip)))) (
.seq (
.reg [⟨.v 5, none, .op (.alc [.nils])⟩]) (
.seq (
.seq (
.reg [⟨.l, none, .op (.ld true 3 (.v 1))⟩,
⟨.v 9, none, .call 92 [(.l 0)]⟩]) (
.block 0 (
.range (.v 9) [10, 11] (
.reg [⟨.v 6, none, .op (.mov (.v 11))⟩]) (
.block 1 (
.seq (
.reg [⟨.l, none, .op (.mov (.v 6))⟩,
⟨.v 12, none, .op (.slc 1 (.l 0) (some (.c (.int .i64 1))) none none)⟩,
⟨.v 13, none, .op (.lens (.v 12))⟩,
⟨.v 14, none, .op (.mov (.c (.int .i64 0)))⟩]) (
.block 2 (
.loop (
.seq (
.reg [⟨.v 15, none, .op (.bin .lss .i64 (.v 14) (.v 13))⟩]) (
.seq (
.ite (.v 15) (
.skip) (
.exit 2)) (
.seq (
.block 3 (
.seq (
.reg [⟨.l, none, .op (.ixa 1 (.v 12) (.v 14))⟩,
⟨.l, none, .op (.ld false 1 (.l 0))⟩,
⟨.v 7, none, .op (.mov (.l 0))⟩]) (
.any 6 5 [⟨0, ⟨.v 16, none, .op (.ld false 1 (.v 5))⟩, false, []⟩,
⟨1, ⟨.v 17, none, .op (.mov (.v 7))⟩, false, []⟩,
⟨2, ⟨.v 18, none, .call 93 [(.v 17)]⟩, false, [0]⟩,
⟨3, ⟨.v 19, none, .op (.bls 1 [.nils] 1 [(0, 1, (.v 18))])⟩, true, []⟩,
⟨4, ⟨.v 20, none, .op (.app 1 24 (.v 16) (.v 19))⟩, false, []⟩,
⟨5, ⟨.n, none, .op (.st 1 (.v 5) (.v 20))⟩, false, []⟩]))) (
.reg [⟨.l, none, .op (.bin .add .i64 (.v 14) (.c (.int .i64 1)))⟩,
⟨.v 14, none, .op (.mov (.l 0))⟩]))))))))))) (
.seq (
.reg [⟨.l, none, .op (.ld false 1 (.v 5))⟩,
⟨.v 2, none, .op (.mov (.l 0))⟩,
⟨.v 3, none, .op (.mov (.c (.int .i64 0)))⟩]) (
.ret)))))⟩
/- 63 cayley/cayleykit.One -/
def c_kit_One : Ay.Fn := ⟨1, [some 0, none, none, none, none], [.v 1],
.seq (
.reg [⟨.v 1, none, .op (.mov (.c .nils))⟩]) (
.seq (
.reg [⟨.v 2, none, .op (.mov (.c .nils))⟩]) (
.seq (
.seq (
.reg [⟨.v 3, none, .op (.mov (.c (.int .i64 0)))⟩]) (
.block 0 (
.loop (
.seq (
.seq (
.reg [⟨.l, none, .op (.mov (.v 3))⟩,
⟨.l, none, .op (.mov (.v 0))⟩,
⟨.v 4, none, .op (.bin .lss .i64 (.l 1) (.l 0))⟩]) (
.ite (.v 4) (
.skip) (
.exit 0))) (
.seq (
.block 1 (
.reg [⟨.l, none, .op (.mov (.v 2))⟩,
⟨.l, none, .op (.mov (.v 3))⟩,
⟨.l, none, .op (.bls 1 [(.int .i64 0)] 1 [(0, 1, (.l 0))])⟩,
⟨.l, none, .op (.app 1 8 (.l 2) (.l 0))⟩,
⟨.v 2, none, .op (.mov (.l 0))⟩])) (
.reg [⟨.l, none, .op (.mov (.v 3))⟩,
⟨.l, none, .op (.bin .add .i64 (.l 0) (.c (.int .i64 1)))⟩,
⟨.v 3, none, .op (.mov (.l 0))⟩])))))) (
.seq (
.reg [⟨.l, none, .op (.mov (.v 2))⟩,
⟨.v 1, none, .op (.mov (.l 0))⟩]) (
.ret))))⟩
/- 67 cayley/cayleyref08.empty -/
def c_ref08_empty : Ay.Fn := ⟨1, [some 0, none, none, none, none], [.v 1],
.seq (
.reg [⟨.v 1, none, .op (.mov (.c .nils))⟩]) (
.seq (
.reg [⟨.v 2, none, .op (.mov (.c .nils))⟩]) (
.seq (
.seq (
.reg [⟨.v 3, none, .op (.mov (.c (.int .i64 0)))⟩]) (
.block 0 (
.loop (
.seq (
.seq (
.reg [⟨.l, none, .op (.mov (.v 3))⟩,
⟨.l, none, .op (.mov (.v 0))⟩,
⟨.v 4, none, .op (.bin .lss .i64 (.l 1) (.l 0))⟩]) (
.ite (.v 4) (
.skip) (
.exit 0))) (
.seq (
.block 1 (
.reg [⟨.l, none, .op (.mov (.v 2))⟩,
⟨.l, none, .op (.mov (.v 0))⟩,
⟨.l, none, .op (.mks 1 24 [.nils] (.l 0) (.l 0))⟩,
⟨.l, none, .op (.bls 1 [.nils] 1 [(0, 1, (.l 0))])⟩,
⟨.l, none, .op (.app 1 24 (.l 3) (.l 0))⟩,
⟨.v 2, none, .op (.mov (.l 0))⟩])) (
.reg [⟨.l, none, .op (.mov (.v 3))⟩,
⟨.l, none, .op (.bin .add .i64 (.l 0) (.c (.int .i64 1)))⟩,
⟨.v 3, none, .op (.mov (.l 0))⟩])))))) (
.seq (
.reg [⟨.l, none, .op (.mov (.v 2))⟩,
⟨.v 1, none, .op (.mov (.l 0))⟩]) (
.ret))))⟩
/- 68 (cayley/cayleyref08.Table).insert -/
def c_ref08_Table_insert : Ay.Fn := ⟨2, [some 0, some 1, none, none, none, none, none, none], [.v 2],
.seq (
.reg [⟨.v 2, none, .op (.mov (.c (.bool false)))⟩]) (
.seq (
.seq (
.reg [⟨.v 3, none, .op (.mov (.c (.int .i64 0)))⟩]) (
.block 0 (
.loop (
.seq (
.seq (
.reg [⟨.l, none, .op (.mov (.v 3))⟩,
⟨.l, none, .op (.mov (.v 0))⟩,
⟨.l, none, .op (.lens (.l 0))⟩,
⟨.v 5, none, .op (.bin .lss .i64 (.l 2) (.l 0))⟩]) (
.ite (.v 5) (
.skip) (
.exit 0))) (
.seq (
.block 1 (
.seq (
.reg [⟨.l, none, .op (.mov (.v 1))⟩,
⟨.l, none, .op (.mov (.v 3))⟩,
⟨.l, none, .op (.ixa 1 (.l 1) (.l 0))⟩,
⟨.l, none, .op (.ld false 1 (.l 0))⟩,
⟨.v 4, none, .op (.mov (.l 0))⟩]) (
.block 2 (
.seq (
.reg [⟨.l, none, .op (.mov (.v 4))⟩,
⟨.l, none, .op (.mov (.v 3))⟩,
⟨.l, none, .op (.bin .eql .i64 (.l 1) (.l 0))⟩,
⟨.v 6, none, .op (.mov (.l 0))⟩]) (
.ite (.v 6) (
.skip) (
.seq (
.reg [⟨.l, none, .op (.mov (.v 0))⟩,
⟨.l, none, .op (.mov (.v 3))⟩,
⟨.l, none, .op (.ixa 1 (.l 1) (.l 0))⟩,
⟨.l, none, .op (.ld false 1 (.l 0))⟩,
⟨.l, none, .op (.mov (.v 4))⟩,
⟨.l, none, .op (.ixa 1 (.l 1) (.l 0))⟩,
⟨.l, none, .op (.ld false 1 (.l 0))⟩,
⟨.l, none, .op (.snil false (.l 0))⟩,
⟨.v 7, none, .op (.mov (.l 0))⟩]) (
.ite (.v 7) (
.seq (
.reg [⟨.l, none, .op (.mov (.v 0))⟩,
⟨.l, none, .op (.mov (.v 3))⟩,
⟨.l, none, .op (.ixa 1 (.l 1) (.l 0))⟩,
⟨.l, none, .op (.ld false 1 (.l 0))⟩,
⟨.l, none, .op (.mov (.v 4))⟩,
⟨.l, none, .op (.mov (.v 1))⟩,
⟨.l, none, .op (.ixa 1 (.l 2) (.l 1))⟩,
⟨.n, none, .op (.st 1 (.l 0) (.l 1))⟩]) (
.seq (
.reg [⟨.v 2, none, .op (.mov (.c (.bool true)))⟩]) (
.ret))) (
.reg [⟨.l, none, .op (.mov (.v 1))⟩,
⟨.l, none, .op (.mov (.v 0))⟩,
⟨.l, none, .op (.mov (.v 3))⟩,
⟨.l, none, .op (.ixa 1 (.l 1) (.l 0))⟩,
⟨.l, none, .op (.ld false 1 (.l 0))⟩,
⟨.l, none, .op (.mov (.v 4))⟩,
⟨.l, none, .op (.ixa 1 (.l 1) (.l 0))⟩,
⟨.l, none, .op (.ld false 1 (.l 0))⟩,
⟨.l, none, .call 41 [(.l 0)]⟩,
⟨.l, none, .call 40 [(.l 8), (.l 0)]⟩,
⟨.v 1, none, .op (.mov (.l 0))⟩])))))))) (
.reg [⟨.l, none, .op (.mov (.v 3))⟩,
⟨.l, none, .op (.bin .add .i64 (.l 0) (.c (.int .i64 1)))⟩,
⟨.v 3, none, .op (.mov (.l 0))⟩])))))) (
.seq (
.reg [⟨.v 2, none, .op (.mov (.c (.bool false)))⟩]) (
.ret)))⟩
/- 69 (cayley/cayleyref08.Table).close -/
def c_ref08_Table_close : Ay.Fn := ⟨1, [some 0, none, none, none, none, none, none, none, none, none, none, none], [],
.seq (
.reg [⟨.l, none, .op (.mov (.v 0))⟩,
⟨.l, none, .call 96 [(.l 0)]⟩,
⟨.v 1, none, .op (.mov (.l 0))⟩]) (
.seq (
.reg [⟨.v 2, none, .op (.mov (.c (.int .i64 0)))⟩]) (
.block 0 (
.loop (
.seq (
.seq (
.reg [⟨.l, none, .op (.mov (.v 2))⟩,
⟨.l, none, .op (.mov (.v 1))⟩,
⟨.l, none, .op (.lens (.l 0))⟩,
⟨.v 7, none, .op (.bin .lss .i64 (.l 2) (.l 0))⟩]) (
.ite (.v 7) (
.skip) (
.exit 0))) (
.seq (
.block 1 (
.seq (
.reg [⟨.v 3, none, .op (.mov (.c (.int .i64 0)))⟩]) (
.block 2 (
.loop (
.seq (
.seq (
.reg [⟨.l, none, .op (.mov (.v 3))⟩,
⟨.l, none, .op (.mov (.v 2))⟩,
⟨.v 8, none, .op (.bin .leq .i64 (.l 1) (.l 0))⟩]) (
.ite (.v 8) (
.skip) (
.exit 2))) (
.seq (
.block 3 (
.seq (
.reg [⟨.v 4, none, .op (.mov (.c (.int .i64 0)))⟩]) (
.block 4 (
.loop (
.seq (
.seq (
.reg [⟨.l, none, .op (.mov (.v 4))⟩,
⟨.v 9, none, .op (.bin .lss .i64 (.l 0) (.c (.int .i64 2)))⟩]) (
.ite (.v 9) (
.skip) (
.exit 4))) (
.seq (
.block 5 (
.seq (
.any 10 9 [⟨0, ⟨.v 12, none, .op (.mov (.v 1))⟩, false, []⟩,
⟨1, ⟨.v 13, none, .op (.mov (.v 2))⟩, false, []⟩,
⟨2, ⟨.v 14, none, .op (.ixa 1 (.v 12) (.v 13))⟩, false, []⟩,
⟨3, ⟨.v 15, none, .op (.ld false 1 (.v 14))⟩, false, []⟩,
⟨4, ⟨.v 16, none, .op (.mov (.v 1))⟩, false, []⟩,
⟨5, ⟨.v 17, none, .op (.mov (.v 3))⟩, false, []⟩,
⟨6, ⟨.v 18, none, .op (.ixa 1 (.v 16) (.v 17))⟩, false, []⟩,
⟨7, ⟨.v 19, none, .op (.ld false 1 (.v 18))⟩, false, []⟩,
⟨8, ⟨.v 20, none, .call 40 [(.v 15), (.v 19)]⟩, false, []⟩,
⟨9, ⟨.v 5, none, .op (.mov (.v 20))⟩, false, []⟩]) (
.seq (
.seq (
.reg [⟨.l, none, .op (.mov (.v 4))⟩,
⟨.v 10, none, .op (.bin .eql .i64 (.l 0) (.c (.int .i64 1)))⟩]) (
.ite (.v 10) (
.any 10 9 [⟨0, ⟨.v 12, none, .op (.mov (.v 1))⟩, false, []⟩,
⟨1, ⟨.v 13, none, .op (.mov (.v 3))⟩, false, []⟩,
⟨2, ⟨.v 14, none, .op (.ixa 1 (.v 12) (.v 13))⟩, false, []⟩,
⟨3, ⟨.v 15, none, .op (.ld false 1 (.v 14))⟩, false, []⟩,
⟨4, ⟨.v 16, none, .op (.mov (.v 1))⟩, false, []⟩,
⟨5, ⟨.v 17, none, .op (.mov (.v 2))⟩, false, []⟩,
⟨6, ⟨.v 18, none, .op (.ixa 1 (.v 16) (.v 17))⟩, false, []⟩,
⟨7, ⟨.v 19, none, .op (.ld false 1 (.v 18))⟩, false, []⟩,
⟨8, ⟨.v 20, none, .call 40 [(.v 15), (.v 19)]⟩, false, []⟩,
⟨9, ⟨.v 5, none, .op (.mov (.v 20))⟩, false, []⟩]) (
.skip))) (
.seq (
.reg [⟨.l, none, .op (.mov (.v 0))⟩,
⟨.l, none, .call 96 [(.l 0)]⟩,
⟨.l, none, .op (.lens (.l 0))⟩,
⟨.v 6, none, .op (.mov (.l 0))⟩]) (
.seq (
.reg [⟨.l, none, .op (.mov (.v 0))⟩,
⟨.l, none, .op (.mov (.v 5))⟩,
⟨.l, none, .call 68 [(.l 1), (.l 0)]⟩]) (
.seq (
.reg [⟨.l, none, .op (.mov (.v 0))⟩,
⟨.l, none, .call 96 [(.l 0)]⟩,
⟨.l, none, .op (.lens (.l 0))⟩,
⟨.l, none, .op (.mov (.v 6))⟩,
⟨.v 11, none, .op (.bin .gtr .i64 (.l 1) (.l 0))⟩]) (
.ite (.v 11) (
.reg [⟨.l, none, .op (.mov (.v 1))⟩,
⟨.l, none, .op (.mov (.v 0))⟩,
⟨.l, none, .op (.mov (.v 1))⟩,
⟨.l, none, .call 97 [(.l 1), (.l 0)]⟩,
⟨.l, none, .op (.app 1 24 (.l 3) (.l 0))⟩,
⟨.v 1, none, .op (.mov (.l 0))⟩]) (
.skip)))))))) (
.reg [⟨.l, none, .op (.mov (.v 4))⟩,
⟨.l, none, .op (.bin .add .i64 (.l 0) (.c (.int .i64 1)))⟩,
⟨.v 4, none, .op (.mov (.l 0))⟩]))))))) (
.reg [⟨.l, none, .op (.mov (.v 3))⟩,
⟨.l, none, .op (.bin .add .i64 (.l 0) (.c (.int .i64 1)))⟩,
⟨.v 3, none, .op (.mov (.l 0))⟩]))))))) (
.reg [⟨.l, none, .op (.mov (.v 2))⟩,
⟨.l, none, .op (.bin .add .i64 (.l 0) (.c (.int .i64 1)))⟩,
⟨.v 2, none, .op (.mov (.l 0))⟩]))))))⟩
/- 70 (cayley/cayleyref08.Table).chain -/
def c_ref08_Table_chain : Ay.Fn := ⟨1, [some 0, none, none, none, none, none, none, none, none], [.cell 1 true 3],
.seq (
.reg [⟨.v 1, none, .op (.alc [(.int .i64 0), .nils, .nils])⟩]) (
.seq (
.reg [⟨.l, none, .op (.mov (.v 0))⟩,
⟨.l, none, .op (.lens (.l 0))⟩,
⟨.l, none, .op (.bld [(.int .i64 0), .nils, .nils] [(0, 1, (.l 0))])⟩,
⟨.v 2, none, .op (.alc [(.int .i64 0), .nils, .nils])⟩,
⟨.n, none, .op (.st 3 (.v 2) (.l 0))⟩]) (
.seq (
.seq (
.reg [⟨.v 3, none, .op (.mov (.c (.int .i64 0)))⟩]) (
.block 0 (
.loop (
.seq (
.seq (
.reg [⟨.l, none, .op (.mov (.v 3))⟩,
⟨.l, none, .op (.mov (.v 0))⟩,
⟨.l, none, .op (.lens (.l 0))⟩,
⟨.v 7, none, .op (.bin .lss .i64 (.l 2) (.l 0))⟩]) (
.ite (.v 7) (
.skip) (
.exit 0))) (
.seq (
.block 1 (
.seq (
.reg [⟨.l, none, .op (.mov (.v 0))⟩,
⟨.l, none, .op (.mov (.v 3))⟩,
⟨.l, none, .call 98 [(.l 1), (.l 0)]⟩,
⟨.v 4, none, .op (.mov (.l 0))⟩]) (
.seq (
.reg [⟨.v 5, none, .op (.mov (.c .nils))⟩]) (
.seq (
.seq (
.reg [⟨.v 6, none, .op (.mov (.c (.int .i64 0)))⟩]) (
.block 2 (
.loop (
.seq (
.seq (
.reg [⟨.l, none, .op (.mov (.v 6))⟩,
⟨.l, none, .op (.mov (.v 4))⟩,
⟨.l, none, .op (.lens (.l 0))⟩,
⟨.v 8, none, .op (.bin .lss .i64 (.l 2) (.l 0))⟩]) (
.ite (.v 8) (
.skip) (
.exit 2))) (
.seq (
.block 3 (
.reg [⟨.l, none, .op (.mov (.v 5))⟩,
⟨.l, none, .op (.mov (.v 0))⟩,
⟨.l, none, .op (.mov (.v 3))⟩,
⟨.l, none, .op (.mov (.v 4))⟩,
⟨.l, none, .op (.mov (.v 6))⟩,
⟨.l, none, .op (.ixa 1 (.l 1) (.l 0))⟩,
⟨.l, none, .op (.ld false 1 (.l 0))⟩,
⟨.l, none, .call 99 [(.l 5), (.l 4), (.l 0)]⟩,
⟨.l, none, .op (.bls 1 [.nils] 1 [(0, 1, (.l 0))])⟩,
⟨.l, none, .op (.app 1 24 (.l 8) (.l 0))⟩,
⟨.v 5, none, .op (.mov (.l 0))⟩])) (
.reg [⟨.l, none, .op (.mov (.v 6))⟩,
⟨.l, none, .op (.bin .add .i64 (.l 0) (.c (.int .i64 1)))⟩,
⟨.v 6, none, .op (.mov (.l 0))⟩])))))) (
.any 14 12 [⟨0, ⟨.v 9, none, .op (.fla 1 (.v 2))⟩, false, []⟩,
⟨1, ⟨.v 10, none, .op (.ld false 1 (.v 9))⟩, false, []⟩,
⟨2, ⟨.v 11, none, .op (.mov (.v 4))⟩, false, []⟩,
⟨5, ⟨.v 14, none, .op (.fla 2 (.v 2))⟩, false, []⟩,
⟨6, ⟨.v 15, none, .op (.ld false 1 (.v 14))⟩, false, []⟩,
⟨7, ⟨.v 16, none, .op (.mov (.v 5))⟩, false, []⟩,
⟨3, ⟨.v 12, none, .op (.bls 1 [.nils] 1 [(0, 1, (.v 11))])⟩, true, []⟩,
⟨4, ⟨.v 13, none, .op (.app 1 24 (.v 10) (.v 12))⟩, false, [6]⟩,
⟨10, ⟨.v 19, none, .op (.fla 1 (.v 2))⟩, false, []⟩,
⟨8, ⟨.v 17, none, .op (.bls 1 [.nils] 1 [(0, 1, (.v 16))])⟩, true, []⟩,
⟨9, ⟨.v 18, none, .op (.app 1 24 (.v 15) (.v 17))⟩, false, []⟩,
⟨11, ⟨.n, none, .op (.st 1 (.v 19) (.v 13))⟩, false, []⟩,
⟨12, ⟨.v 20, none, .op (.fla 2 (.v 2))⟩, false, []⟩,
⟨13, ⟨.n, none, .op (.st 1 (.v 20) (.v 18))⟩, false, []⟩]))))) (
.reg [⟨.l, none, .op (.mov (.v 3))⟩,
⟨.l, none, .op (.bin .add .i64 (.l 0) (.c (.int .i64 1)))⟩,
⟨.v 3, none, .op (.mov (.l 0))⟩])))))) (
.seq (
.reg [⟨.l, none, .op (.ld true 3 (.v 2))⟩,
⟨.n, none, .op (.st 3 (.v 1) (.l 0))⟩]) (
.ret))))⟩
/- 71 cayley/rank.List -/
def c_rank_List : Ay.Fn := ⟨1, [some 0, none, none, none, none, none, none, none, none, none, none], [.cell 2 false 1, .cell 3 false 1],
.seq (
.reg [⟨.v 1, none, .op (.box (.v 0))⟩,
⟨.v 2, none, .op (.alc [.nils])⟩,
⟨.v 3, none, .op (.alc [(.int .i64 0)])⟩]) (
.seq (
.seq (
.reg [⟨.l, none, .op (.ld true 3 (.v 1))⟩,
⟨.l, none, .call 88 [(.l 0)]⟩,
⟨.v 4, none, .op (.mov (.l 0))⟩]) (
.seq (
.reg [⟨.l, none, .op (.mov (.v 4))⟩,
⟨.v 7, none, .op (.bin .neq .i64 (.l 0) (.c (.int .i64 0)))⟩]) (
.ite (.v 7) (
.seq (
.reg [⟨.l, none, .op (.mov (.v 4))⟩,
⟨.n, none, .op (.st 1 (.v 2) (.c .nils))⟩,
⟨.n, none, .op (.st 1 (.v 3) (.l 0))⟩]) (
.ret)) (
.skip)))) (
.seq (
.reg [⟨.v 5, none, .op (.alc [.nils])⟩]) (
.seq (
.seq (
.any 5 4 [⟨0, ⟨.v 11, none, .op (.ld true 3 (.v 1))⟩, false, []⟩,
⟨1, ⟨.v 12, none, .op (.fla 0 (.v 1))⟩, false, []⟩,
⟨2, ⟨.v 13, none, .op (.ld false 1 (.v 12))⟩, false, []⟩,
⟨3, ⟨.v 14, none, .call 101 [(.v 13)]⟩, false, [0]⟩,
⟨4, ⟨.v 8, none, .call 100 [(.v 11), (.v 14), (.c (.int .i64 0))]⟩, false, []⟩]) (
.block 0 (
.range (.v 8) [9] (
.reg [⟨.v 6, none, .op (.mov (.v 9))⟩]) (
.block 1 (
.seq (
.seq (
.reg [⟨.l, none, .op (.ld false 1 (.v 5))⟩,
⟨.l, none, .op (.lens (.l 0))⟩,
⟨.v 10, none, .op (.bin .eql .i64 (.l 0) (.c (.int .i64 5040)))⟩]) (
.ite (.v 10) (
.seq (
.reg [⟨.n, none, .op (.st 1 (.v 2) (.c .nils))⟩,
⟨.n, none, .op (.st 1 (.v 3) (.c (.int .i64 5)))⟩]) (
.ret)) (
.skip))) (
.any 6 5 [⟨0, ⟨.v 11, none, .op (.ld false 1 (.v 5))⟩, false, []⟩,
⟨1, ⟨.v 12, none, .op (.mov (.v 6))⟩, false, []⟩,
⟨2, ⟨.v 13, none, .call 93 [(.v 12)]⟩, false, [0]⟩,
⟨3, ⟨.v 14, none, .op (.bls 1 [.nils] 1 [(0, 1, (.v 13))])⟩, true, []⟩,
⟨4, ⟨.v 15, none, .op (.app 1 24 (.v 11) (.v 14))⟩, false, []⟩,
⟨5, ⟨.n, none, .op (.st 1 (.v 5) (.v 15))⟩, false, []⟩])))))) (
.seq (
.reg [⟨.l, none, .op (.ld false 1 (.v 5))⟩,
⟨.n, none, .op (.st 1 (.v 2) (.l 0))⟩,
⟨.n, none, .op (.st 1 (.v 3) (.c (.int .i64 0)))⟩]) (
.ret)))))⟩
/- 72 slices.Sort[[]int,int] -/
def c_slices_Sort_int_int : Ay.Fn := ⟨1, [some 0, none], [],
.seq (
.reg [⟨.l, none, .op (.mov (.v 0))⟩,
⟨.l, none, .op (.lens (.l 0))⟩,
⟨.v 1, none, .op (.mov (.l 0))⟩]) (
.reg [⟨.l, none, .op (.mov (.v 0))⟩,
⟨.l, none, .op (.mov (.v 1))⟩,
⟨.l, none, .op (.mov (.v 1))⟩,
⟨.l, none, .op (.conv .u64 (.l 0))⟩,
⟨.l, none, .call 103 [(.l 0)]⟩,
⟨.l, none, .call 102 [(.l 4), (.c (.int .i64 0)), (.l 3), (.l 0)]⟩])⟩
/- 73 cayley/perm.Order -/
def c_perm_Order : Ay.Fn := ⟨1, [some 0, none, none, none, none, none, none, none, none], [.v 1, .v 2],
.seq (
.reg [⟨.v 1, none, .op (.mov (.c (.int .i64 0)))⟩,
⟨.v 2, none, .op (.mov (.c (.int .i64 0)))⟩]) (
.seq (
.seq (
.reg [⟨.l, none, .op (.mov (.v 0))⟩,
⟨.l, none, .op (.bls 1 [.nils] 1 [(0, 1, (.l 0))])⟩,
⟨.l, none, .call 104 [(.l 0)]⟩,
⟨.v 3, none, .op (.mov (.l 0))⟩]) (
.seq (
.reg [⟨.l, none, .op (.mov (.v 3))⟩,
⟨.v 6, none, .op (.bin .neq .i64 (.l 0) (.c (.int .i64 0)))⟩]) (
.ite (.v 6) (
.seq (
.reg [⟨.l, none, .op (.mov (.v 3))⟩,
⟨.v 1, none, .op (.mov (.c (.int .i64 0)))⟩,
⟨.v 2, none, .op (.mov (.l 0))⟩]) (
.ret)) (
.skip)))) (
.seq (
.reg [⟨.v 4, none, .op (.alc [(.int .i64 0)])⟩,
⟨.n, none, .op (.st 1 (.v 4) (.c (.int .i64 1)))⟩]) (
.seq (
.seq (
.reg [⟨.l, none, .op (.mov (.v 0))⟩,
⟨.v 7, none, .call 105 [(.l 0)]⟩]) (
.block 0 (
.range (.v 7) [8] (
.reg [⟨.v 5, none, .op (.mov (.v 8))⟩]) (
.block 1 (
.any 10 9 [⟨0, ⟨.v 9, none, .op (.ld false 1 (.v 4))⟩, false, []⟩,
⟨1, ⟨.v 10, none, .op (.ld false 1 (.v 4))⟩, false, []⟩,
⟨2, ⟨.v 11, none, .op (.mov (.v 5))⟩, false, []⟩,
⟨3, ⟨.v 12, none, .op (.lens (.v 11))⟩, false, []⟩,
⟨6, ⟨.v 15, none, .op (.mov (.v 5))⟩, false, []⟩,
⟨7, ⟨.v 16, none, .op (.lens (.v 15))⟩, false, []⟩,
⟨4, ⟨.v 13, none, .call 106 [(.v 10), (.v 12)]⟩, false, [0]⟩,
⟨5, ⟨.v 14, none, .op (.bin .quo .i64 (.v 9) (.v 13))⟩, false, []⟩,
⟨8, ⟨.v 17, none, .op (.bin .mul .i64 (.v 14) (.v 16))⟩, false, []⟩,
⟨9, ⟨.n, none, .op (.st 1 (.v 4) (.v 17))⟩, false, []⟩]))))) (
.seq (
.reg [⟨.l, none, .op (.ld false 1 (.v 4))⟩,
⟨.v 1, none, .op (.mov (.l 0))⟩,
⟨.v 2, none, .op (.mov (.c (.int .i64 0)))⟩]) (
.ret)))))⟩
/- 74 slices.SortFunc[[]cayley/classes.class,cayley/classes.class] -/
def c_slices_SortFunc_classes_class_classes_class : Ay.Fn := ⟨2, [some 0, some 1, none], [],
.seq (
.reg [⟨.l, none, .op (.mov (.v 0))⟩,
⟨.l, none, .op (.lens (.l 0))⟩,
⟨.v 2, none, .op (.mov (.l 0))⟩]) (
.reg [⟨.l, none, .op (.mov (.v 0))⟩,
⟨.l, none, .op (.mov (.v 2))⟩,
⟨.l, none, .op (.mov (.v 2))⟩,
⟨.l, none, .op (.conv .u64 (.l 0))⟩,
⟨.l, none, .call 103 [(.l 0)]⟩,
⟨.l, none, .op (.mov (.v 1))⟩,
⟨.l, none, .call 107 [(.l 5), (.c (.int .i64 0)), (.l 4), (.l 1), (.l 0)]⟩])⟩
/- 75 cayley/classes.of part 1 -/
def c_classes_of_1 : Ay.Fn := ⟨2, [some 0, some 1, none, none, none, none, none, none], [.v 4],
.seq (
.reg [⟨.v 2, none, .op (.box (.v 0))⟩,
⟨.v 3, none, .op (.box (.v 1))⟩,
⟨.v 4, none, .op (.mov (.c (.int .i64 0)))⟩]) (
.seq (
.any 9 6 [⟨0, ⟨.v 8, none, .op (.ld true 4 (.v 2))⟩, false, []⟩,
⟨1, ⟨.v 9, none, .op (.mkf 76 [(.v 8)] [])⟩, false, []⟩,
⟨2, ⟨.v 10, none, .op (.ld true 4 (.v 2))⟩, false, []⟩,
⟨3, ⟨.v 11, none, .op (.mkf 77 [(.v 10)] [])⟩, false, []⟩,
⟨4, ⟨.v 12, none, .op (.ld true 4 (.v 2))⟩, false, []⟩,
⟨5, ⟨.v 13, none, .op (.mkf 78 [(.v 12)] [])⟩, false, []⟩,
⟨6, ⟨.v 5, none, .op (.mov (.v 9))⟩, false, []⟩,
⟨7, ⟨.v 6, none, .op (.mov (.v 11))⟩, false, []⟩,
⟨8, ⟨.v 7, none, .op (.mov (.v 13))⟩, false, []⟩]) (
.seq (
.any 12 11 [⟨0, ⟨.v 8, none, .op (.mov (.v 5))⟩, false, []⟩,
⟨1, ⟨.v 9, none, .op (.ld true 4 (.v 3))⟩, false, []⟩,
⟨3, ⟨.v 11, none, .op (.mov (.v 6))⟩, false, []⟩,
⟨4, ⟨.v 12, none, .op (.ld true 4 (.v 3))⟩, false, []⟩,
⟨6, ⟨.v 14, none, .op (.mov (.v 7))⟩, false, []⟩,
⟨7, ⟨.v 15, none, .op (.ld true 4 (.v 3))⟩, false, []⟩,
⟨2, ⟨.v 10, none, .callv (.v 8) [(.v 9)]⟩, false, [7, 4]⟩,
⟨5, ⟨.v 13, none, .callv (.v 11) [(.v 12)]⟩, false, [7]⟩,
⟨8, ⟨.v 16, none, .callv (.v 14) [(.v 15)]⟩, false, []⟩,
⟨9, ⟨.v 17, none, .op (.bls 1 [(.int .i64 0)] 3 [(0, 1, (.v 10)), (1, 1, (.v 13)), (2, 1, (.v 16))])⟩, true, []⟩,
⟨10, ⟨.v 18, none, .call 79 [(.v 17)]⟩, false, []⟩,
⟨11, ⟨.v 4, none, .op (.mov (.v 18))⟩, false, []⟩]) (
.ret)))⟩
/- 76 (cayley/classes.class).order -/
def c_classes_class_order : Ay.Fn := ⟨2, [some 0, some 1, none, none, none], [.v 4],
.seq (
.reg [⟨.v 2, none, .op (.box (.v 0))⟩,
⟨.v 3, none, .op (.box (.v 1))⟩,
⟨.v 4, none, .op (.mov (.c (.int .i64 0)))⟩]) (
.seq (
.reg [⟨.l, none, .op (.fla 0 (.v 2))⟩,
⟨.l, none, .op (.fla 1 (.l 0))⟩,
⟨.l, none, .op (.ld false 1 (.l 0))⟩,
⟨.l, none, .op (.fla 0 (.v 3))⟩,
⟨.l, none, .op (.fla 1 (.l 0))⟩,
⟨.l, none, .op (.ld false 1 (.l 0))⟩,
⟨.l, none, .call 108 [(.l 3), (.l 0)]⟩,
⟨.v 4, none, .op (.mov (.l 0))⟩]) (
.ret))⟩
/- 77 (cayley/classes.class).size -/
def c_classes_class_size : Ay.Fn := ⟨2, [some 0, some 1, none, none, none], [.v 4],
.seq (
.reg [⟨.v 2, none, .op (.box (.v 0))⟩,
⟨.v 3, none, .op (.box (.v 1))⟩,
⟨.v 4, none, .op (.mov (.c (.int .i64 0)))⟩]) (
.seq (
.reg [⟨.l, none, .op (.fla 0 (.v 2))⟩,
⟨.l, none, .op (.fla 2 (.l 0))⟩,
⟨.l, none, .op (.ld false 1 (.l 0))⟩,
⟨.l, none, .op (.fla 0 (.v 3))⟩,
⟨.l, none, .op (.fla 2 (.l 0))⟩,
⟨.l, none, .op (.ld false 1 (.l 0))⟩,
⟨.l, none, .call 108 [(.l 3), (.l 0)]⟩,
⟨.v 4, none, .op (.mov (.l 0))⟩]) (
.ret))⟩
/- 78 (cayley/classes.class).first -/
def c_classes_class_first : Ay.Fn := ⟨2, [some 0, some 1, none, none, none], [.v 4],
.seq (
.reg [⟨.v 2, none, .op (.box (.v 0))⟩,
⟨.v 3, none, .op (.box (.v 1))⟩,
⟨.v 4, none, .op (.mov (.c (.int .i64 0)))⟩]) (
.seq (
.any 10 9 [⟨0, ⟨.v 5, none, .op (.fla 3 (.v 2))⟩, false, []⟩,
⟨1, ⟨.v 6, none, .op (.ld false 1 (.v 5))⟩, false, []⟩,
⟨2, ⟨.v 7, none, .op (.ixa 1 (.v 6) (.c (.int .i64 0)))⟩, false, []⟩,
⟨3, ⟨.v 8, none, .op (.ld false 1 (.v 7))⟩, false, []⟩,
⟨4, ⟨.v 9, none, .op (.fla 3 (.v 3))⟩, false, []⟩,
⟨5, ⟨.v 10, none, .op (.ld false 1 (.v 9))⟩, false, []⟩,
⟨6, ⟨.v 11, none, .op (.ixa 1 (.v 10) (.c (.int .i64 0)))⟩, false, []⟩,
⟨7, ⟨.v 12, none, .op (.ld false 1 (.v 11))⟩, false, []⟩,
⟨8, ⟨.v 13, none, .call 108 [(.v 8), (.v 12)]⟩, false, []⟩,
⟨9, ⟨.v 4, none, .op (.mov (.v 13))⟩, false, []⟩]) (
.ret))⟩
/- 79 cmp.Or[int] -/
def c_cmp_Or_int : Ay.Fn := ⟨1, [some 0, none, none, none, none, none, none, none, none], [.v 1],
.seq (
.reg [⟨.v 1, none, .op (.mov (.c (.int .i64 0)))⟩]) (
.seq (
.reg [⟨.v 2, none, .op (.mov (.c (.int .i64 0)))⟩]) (
.seq (
.seq (
.reg [⟨.v 4, none, .op (.mov (.v 0))⟩,
⟨.v 5, none, .op (.lens (.v 4))⟩,
⟨.v 6, none, .op (.mov (.c (.int .i64 0)))⟩]) (
.block 0 (
.loop (
.seq (
.reg [⟨.v 7, none, .op (.bin .lss .i64 (.v 6) (.v 5))⟩]) (
.seq (
.ite (.v 7) (
.skip) (
.exit 0)) (
.seq (
.block 1 (
.seq (
.reg [⟨.l, none, .op (.ixa 1 (.v 4) (.v 6))⟩,
⟨.l, none, .op (.ld false 1 (.l 0))⟩,
⟨.v 3, none, .op (.mov (.l 0))⟩]) (
.seq (
.reg [⟨.l, none, .op (.mov (.v 3))⟩,
⟨.l, none, .op (.mov (.v 2))⟩,
⟨.v 8, none, .op (.bin .neq .i64 (.l 1) (.l 0))⟩]) (
.ite (.v 8) (
.seq (
.reg [⟨.l, none, .op (.mov (.v 3))⟩,
⟨.v 1, none, .op (.mov (.l 0))⟩]) (
.ret)) (
.skip))))) (
.reg [⟨.l, none, .op (.bin .add .i64 (.v 6) (.c (.int .i64 1)))⟩,
⟨.v 6, none, .op (.mov (.l 0))⟩]))))))) (
.seq (
.reg [⟨.l, none, .op (.mov (.v 2))⟩,
⟨.v 1, none, .op (.mov (.l 0))⟩]) (
.ret))))⟩
/- 85 cayley/cayleykit.Fine -/
def c_kit_Fine : Ay.Fn := ⟨2, [some 0, some 1, none, none, none, none, none, none], [.v 2],
.seq (
.reg [⟨.v 2, none, .op (.mov (.c (.bool false)))⟩]) (
.seq (
.seq (
.reg [⟨.l, none, .op (.mov (.v 0))⟩,
⟨.l, none, .op (.lens (.l 0))⟩,
⟨.l, none, .op (.mov (.v 1))⟩,
⟨.v 5, none, .op (.bin .neq .i64 (.l 1) (.l 0))⟩]) (
.ite (.v 5) (
.seq (
.reg [⟨.v 2, none, .op (.mov (.c (.bool false)))⟩]) (
.ret)) (
.skip))) (
.seq (
.reg [⟨.l, none, .op (.mov (.v 1))⟩,
⟨.l, none, .op (.mks 1 1 [(.bool false)] (.l 0) (.l 0))⟩,
⟨.v 3, none, .op (.mov (.l 0))⟩]) (
.seq (
.seq (
.reg [⟨.v 4, none, .op (.mov (.c (.int .i64 0)))⟩]) (
.block 0 (
.loop (
.seq (
.seq (
.reg [⟨.l, none, .op (.mov (.v 4))⟩,
⟨.l, none, .op (.mov (.v 1))⟩,
⟨.v 6, none, .op (.bin .lss .i64 (.l 1) (.l 0))⟩]) (
.ite (.v 6) (
.skip) (
.exit 0))) (
.seq (
.block 1 (
.seq (
.seq (
.reg [⟨.l, none, .op (.mov (.v 0))⟩,
⟨.l, none, .op (.mov (.v 4))⟩,
⟨.l, none, .op (.ixa 1 (.l 1) (.l 0))⟩,
⟨.l, none, .op (.ld false 1 (.l 0))⟩,
⟨.l, none, .op (.bin .lss .i64 (.l 0) (.c (.int .i64 0)))⟩,
⟨.l, none, .op (.mov (.l 0))⟩,
⟨.l, some ((.l 0), false), .op (.mov (.v 0))⟩,
⟨.l, some ((.l 1), false), .op (.mov (.v 4))⟩,
⟨.l, some ((.l 2), false), .op (.ixa 1 (.l 1) (.l 0))⟩,
⟨.l, some ((.l 3), false), .op (.ld false 1 (.l 0))⟩,
⟨.l, some ((.l 4), false), .op (.mov (.v 1))⟩,
⟨.l, some ((.l 5), false), .op (.bin .geq .i64 (.l 1) (.l 0))⟩,
⟨.l, none, .op (.pick (.l 6) (.c (.bool true)) (.l 0))⟩,
⟨.l, none, .op (.mov (.l 0))⟩,
⟨.l, some ((.l 0), false), .op (.mov (.v 3))⟩,
⟨.l, some ((.l 1), false), .op (.mov (.v 0))⟩,
⟨.l, some ((.l 2), false), .op (.mov (.v 4))⟩,
⟨.l, some ((.l 3), false), .op (.ixa 1 (.l 1) (.l 0))⟩,
⟨.l, some ((.l 4), false), .op (.ld false 1 (.l 0))⟩,
⟨.l, some ((.l 5), false), .op (.ixa 1 (.l 4) (.l 0))⟩,
⟨.l, some ((.l 6), false), .op (.ld false 1 (.l 0))⟩,
⟨.v 7, none, .op (.pick (.l 7) (.c (.bool true)) (.l 0))⟩]) (
.ite (.v 7) (
.seq (
.reg [⟨.v 2, none, .op (.mov (.c (.bool false)))⟩]) (
.ret)) (
.skip))) (
.reg [⟨.l, none, .op (.mov (.v 3))⟩,
⟨.l, none, .op (.mov (.v 0))⟩,
⟨.l, none, .op (.mov (.v 4))⟩,
⟨.l, none, .op (.ixa 1 (.l 1) (.l 0))⟩,
⟨.l, none, .op (.ld false 1 (.l 0))⟩,
⟨.l, none, .op (.ixa 1 (.l 4) (.l 0))⟩,
⟨.n, none, .op (.st 1 (.l 0) (.c (.bool true)))⟩]))) (
.reg [⟨.l, none, .op (.mov (.v 4))⟩,
⟨.l, none, .op (.bin .add .i64 (.l 0) (.c (.int .i64 1)))⟩,
⟨.v 4, none, .op (.mov (.l 0))⟩])))))) (
.seq (
.reg [⟨.v 2, none, .op (.mov (.c (.bool true)))⟩]) (
.ret)))))⟩
/- 86 cayley/chain.build -/
def c_chain_build : Ay.Fn := ⟨2, [some 0, some 1, none, none, none, none, none, none, none], [.v 2],
.seq (
.reg [⟨.v 2, none, .op (.mov (.c .nilp))⟩]) (
.seq (
.reg [⟨.l, none, .op (.mov (.v 0))⟩,
⟨.l, none, .call 114 [(.l 0)]⟩,
⟨.v 3, none, .op (.mov (.l 0))⟩]) (
.seq (
.seq (
.reg [⟨.v 5, none, .op (.mov (.v 1))⟩,
⟨.v 6, none, .op (.lens (.v 5))⟩,
⟨.v 7, none, .op (.mov (.c (.int .i64 0)))⟩]) (
.block 0 (
.loop (
.seq (
.reg [⟨.v 8, none, .op (.bin .lss .i64 (.v 7) (.v 6))⟩]) (
.seq (
.ite (.v 8) (
.skip) (
.exit 0)) (
.seq (
.block 1 (
.seq (
.reg [⟨.l, none, .op (.ixa 1 (.v 5) (.v 7))⟩,
⟨.l, none, .op (.ld false 1 (.l 0))⟩,
⟨.v 4, none, .op (.mov (.l 0))⟩]) (
.reg [⟨.l, none, .op (.mov (.v 3))⟩,
⟨.l, none, .op (.mov (.v 4))⟩,
⟨.l, none, .call 115 [(.l 1), (.l 0), (.c (.int .i64 0))]⟩]))) (
.reg [⟨.l, none, .op (.bin .add .i64 (.v 7) (.c (.int .i64 1)))⟩,
⟨.v 7, none, .op (.mov (.l 0))⟩]))))))) (
.seq (
.reg [⟨.l, none, .op (.mov (.v 3))⟩,
⟨.v 2, none, .op (.mov (.l 0))⟩]) (
.ret))))⟩
/- 87 (ptr cayley/chain.tower).chain -/
def c_chain_tower_chain : Ay.Fn := ⟨1, [some 0, none, none, none, none, none, none, none, none, none, none, none, none, none], [.cell 1 true 3],
.seq (
.reg [⟨.v 1, none, .op (.alc [(.int .i64 0), .nils, .nils])⟩]) (
.seq (
.reg [⟨.l, none, .op (.mov (.v 0))⟩,
⟨.l, none, .op (.nck (.l 0))⟩,
⟨.l, none, .op (.fla 0 (.l 0))⟩,
⟨.l, none, .op (.ld false 1 (.l 0))⟩,
⟨.l, none, .op (.bld [(.int .i64 0), .nils, .nils] [(0, 1, (.l 0))])⟩,
⟨.v 2, none, .op (.alc [(.int .i64 0), .nils, .nils])⟩,
⟨.n, none, .op (.st 3 (.v 2) (.l 0))⟩]) (
.seq (
.seq (
.reg [⟨.l, none, .op (.mov (.v 0))⟩,
⟨.l, none, .op (.nck (.l 0))⟩,
⟨.l, none, .op (.fla 1 (.l 0))⟩,
⟨.l, none, .op (.ld false 1 (.l 0))⟩,
⟨.v 7, none, .op (.lens (.l 0))⟩,
⟨.v 8, none, .op (.mov (.c (.int .i64 0)))⟩]) (
.block 0 (
.loop (
.seq (
.reg [⟨.v 9, none, .op (.bin .lss .i64 (.v 8) (.v 7))⟩]) (
.seq (
.ite (.v 9) (
.skip) (
.exit 0)) (
.seq (
.block 1 (
.seq (
.reg [⟨.l, none, .op (.mov (.v 8))⟩,
⟨.v 3, none, .op (.mov (.l 0))⟩]) (
.seq (
.reg [⟨.l, none, .op (.mov (.v 0))⟩,
⟨.l, none, .op (.nck (.l 0))⟩,
⟨.l, none, .op (.fla 1 (.l 0))⟩,
⟨.l, none, .op (.ld false 1 (.l 0))⟩,
⟨.l, none, .op (.mov (.v 3))⟩,
⟨.l, none, .op (.ixa 194 (.l 1) (.l 0))⟩,
⟨.l, none, .op (.fla 1 (.l 0))⟩,
⟨.l, none, .op (.ld false 1 (.l 0))⟩,
⟨.l, none, .call 117 [(.l 0)]⟩,
⟨.l, none, .call 116 [(.l 0)]⟩,
⟨.v 4, none, .op (.mov (.l 0))⟩]) (
.seq (
.reg [⟨.v 5, none, .op (.mov (.c .nils))⟩]) (
.seq (
.seq (
.reg [⟨.v 10, none, .op (.mov (.v 4))⟩,
⟨.v 11, none, .op (.lens (.v 10))⟩,
⟨.v 12, none, .op (.mov (.c (.int .i64 0)))⟩]) (
.block 2 (
.loop (
.seq (
.reg [⟨.v 13, none, .op (.bin .lss .i64 (.v 12) (.v 11))⟩]) (
.seq (
.ite (.v 13) (
.skip) (
.exit 2)) (
.seq (
.block 3 (
.seq (
.reg [⟨.l, none, .op (.ixa 1 (.v 10) (.v 12))⟩,
⟨.l, none, .op (.ld false 1 (.l 0))⟩,
⟨.v 6, none, .op (.mov (.l 0))⟩]) (
.reg [⟨.l, none, .op (.mov (.v 5))⟩,
⟨.l, none, .op (.mov (.v 0))⟩,
⟨.l, none, .op (.mov (.v 0))⟩,
⟨.l, none, .op (.nck (.l 0))⟩,
⟨.l, none, .op (.fla 1 (.l 0))⟩,
⟨.l, none, .op (.ld false 1 (.l 0))⟩,
⟨.l, none, .op (.mov (.v 3))⟩,
⟨.l, none, .op (.mov (.v 6))⟩,
⟨.l, none, .op (.ixa 194 (.l 2) (.l 1))⟩,
⟨.l, none, .op (.fla 2 (.l 0))⟩,
⟨.l, none, .op (.ixd 64 1 (.l 0) (.l 2))⟩,
⟨.l, none, .op (.ld false 1 (.l 0))⟩,
⟨.l, none, .op (.mov (.v 3))⟩,
⟨.l, none, .call 118 [(.l 11), (.l 1), (.l 0)]⟩,
⟨.l, none, .call 93 [(.l 0)]⟩,
⟨.l, none, .op (.bls 1 [.nils] 1 [(0, 1, (.l 0))])⟩,
⟨.l, none, .op (.app 1 24 (.l 15) (.l 0))⟩,
⟨.v 5, none, .op (.mov (.l 0))⟩]))) (
.reg [⟨.l, none, .op (.bin .add .i64 (.v 12) (.c (.int .i64 1)))⟩,
⟨.v 12, none, .op (.mov (.l 0))⟩]))))))) (
.any 14 12 [⟨0, ⟨.v 14, none, .op (.fla 1 (.v 2))⟩, false, []⟩,
⟨1, ⟨.v 15, none, .op (.ld false 1 (.v 14))⟩, false, []⟩,
⟨2, ⟨.v 16, none, .op (.mov (.v 4))⟩, false, []⟩,
⟨5, ⟨.v 19, none, .op (.fla 2 (.v 2))⟩, false, []⟩,
⟨6, ⟨.v 20, none, .op (.ld false 1 (.v 19))⟩, false, []⟩,
⟨7, ⟨.v 21, none, .op (.mov (.v 5))⟩, false, []⟩,
⟨3, ⟨.v 17, none, .op (.bls 1 [.nils] 1 [(0, 1, (.v 16))])⟩, true, []⟩,
⟨4, ⟨.v 18, none, .op (.app 1 24 (.v 15) (.v 17))⟩, false, [6]⟩,
⟨10, ⟨.v 24, none, .op (.fla 1 (.v 2))⟩, false, []⟩,
⟨8, ⟨.v 22, none, .op (.bls 1 [.nils] 1 [(0, 1, (.v 21))])⟩, true, []⟩,
⟨9, ⟨.v 23, none, .op (.app 1 24 (.v 20) (.v 22))⟩, false, []⟩,
⟨11, ⟨.n, none, .op (.st 1 (.v 24) (.v 18))⟩, false, []⟩,
⟨12, ⟨.v 25, none, .op (.fla 2 (.v 2))⟩, false, []⟩,
⟨13, ⟨.n, none, .op (.st 1 (.v 25) (.v 23))⟩, false, []⟩])))))) (
.reg [⟨.l, none, .op (.bin .add .i64 (.v 8) (.c (.int .i64 1)))⟩,
⟨.v 8, none, .op (.mov (.l 0))⟩]))))))) (
.seq (
.reg [⟨.l, none, .op (.ld true 3 (.v 2))⟩,
⟨.n, none, .op (.st 3 (.v 1) (.l 0))⟩]) (
.ret))))⟩
/- 88 cayley/chain.Check -/
def c_chain_Check : Ay.Fn := ⟨1, [some 0, none, none, none, none, none, none, none, none, none, none, none, none, none, none, none, none, none, none, none], [.cell 2 false 1],
.seq (
.reg [⟨.v 1, none, .op (.box (.v 0))⟩,
⟨.v 2, none, .op (.alc [(.int .i64 0)])⟩]) (
.seq (
.reg [⟨.l, none, .op (.fla 0 (.v 1))⟩,
⟨.l, none, .op (.ld false 1 (.l 0))⟩,
⟨.v 3, none, .op (.alc [(.int .i64 0)])⟩,
⟨.n, none, .op (.st 1 (.v 3) (.l 0))⟩]) (
.seq (
.seq (
.reg [⟨.l, none, .op (.ld false 1 (.v 3))⟩,
⟨.l, none, .op (.bin .lss .i64 (.l 0) (.c (.int .i64 1)))⟩,
⟨.l, none, .op (.mov (.l 0))⟩,
⟨.l, some ((.l 0), false), .op (.ld false 1 (.v 3))⟩,
⟨.l, some ((.l 1), false), .op (.bin .gtr .i64 (.l 0) (.c (.int .i64 64)))⟩,
⟨.v 8, none, .op (.pick (.l 2) (.c (.bool true)) (.l 0))⟩]) (
.ite (.v 8) (
.seq (
.reg [⟨.n, none, .op (.st 1 (.v 2) (.c (.int .i64 2)))⟩]) (
.ret)) (
.skip))) (
.seq (
.seq (
.reg [⟨.l, none, .op (.fla 1 (.v 1))⟩,
⟨.l, none, .op (.ld false 1 (.l 0))⟩,
⟨.l, none, .op (.lens (.l 0))⟩,
⟨.l, none, .op (.ld false 1 (.v 3))⟩,
⟨.l, none, .op (.bin .neq .i64 (.l 1) (.l 0))⟩,
⟨.l, none, .op (.mov (.l 0))⟩,
⟨.l, some ((.l 0), false), .op (.fla 2 (.v 1))⟩,
⟨.l, some ((.l 1), false), .op (.ld false 1 (.l 0))⟩,
⟨.l, some ((.l 2), false), .op (.lens (.l 0))⟩,
⟨.l, some ((.l 3), false), .op (.ld false 1 (.v 3))⟩,
⟨.l, some ((.l 4), false), .op (.bin .neq .i64 (.l 1) (.l 0))⟩,
⟨.v 9, none, .op (.pick (.l 5) (.c (.bool true)) (.l 0))⟩]) (
.ite (.v 9) (
.seq (
.reg [⟨.n, none, .op (.st 1 (.v 2) (.c (.int .i64 3)))⟩]) (
.ret)) (
.skip))) (
.seq (
.reg [⟨.v 4, none, .op (.alc [.nils])⟩]) (
.seq (
.seq (
.reg [⟨.l, none, .op (.ld true 3 (.v 1))⟩,
⟨.v 10, none, .call 92 [(.l 0)]⟩]) (
.block 0 (
.range (.v 10) [11, 12] (
.seq (
.reg [⟨.v 5, none, .op (.mov (.v 11))⟩]) (
.reg [⟨.v 6, none, .op (.mov (.v 12))⟩])) (
.block 1 (
.seq (
.seq (
.reg [⟨.l, none, .op (.mov (.v 6))⟩,
⟨.l, none, .op (.lens (.l 0))⟩,
⟨.l, none, .op (.fla 1 (.v 1))⟩,
⟨.l, none, .op (.ld false 1 (.l 0))⟩,
⟨.l, none, .op (.mov (.v 5))⟩,
⟨.l, none, .op (.ixa 1 (.l 1) (.l 0))⟩,
⟨.l, none, .op (.ld false 1 (.l 0))⟩,
⟨.l, none, .op (.lens (.l 0))⟩,
⟨.l, none, .op (.bin .neq .i64 (.l 6) (.l 0))⟩,
⟨.l, none, .op (.mov (.l 0))⟩,
⟨.l, some ((.l 0), false), .op (.mov (.v 6))⟩,
⟨.l, some ((.l 1), false), .op (.lens (.l 0))⟩,
⟨.l, some ((.l 2), false), .op (.ld false 1 (.v 3))⟩,
⟨.l, some ((.l 3), false), .op (.mov (.v 5))⟩,
⟨.l, some ((.l 4), false), .op (.bin .sub .i64 (.l 1) (.l 0))⟩,
⟨.l, some ((.l 5), false), .op (.bin .gtr .i64 (.l 3) (.l 0))⟩,
⟨.v 13, none, .op (.pick (.l 6) (.c (.bool true)) (.l 0))⟩]) (
.ite (.v 13) (
.seq (
.reg [⟨.n, none, .op (.st 1 (.v 2) (.c (.int .i64 3)))⟩]) (
.ret)) (
.skip))) (
.seq (
.reg [⟨.v 14, none, .op (.mov (.v 6))⟩,
⟨.v 15, none, .op (.lens (.v 14))⟩,
⟨.v 16, none, .op (.mov (.c (.int .i64 0)))⟩]) (
.block 2 (
.loop (
.seq (
.reg [⟨.v 17, none, .op (.bin .lss .i64 (.v 16) (.v 15))⟩]) (
.seq (
.ite (.v 17) (
.skip) (
.exit 2)) (
.seq (
.block 3 (
.seq (
.reg [⟨.l, none, .op (.ixa 1 (.v 14) (.v 16))⟩,
⟨.l, none, .op (.ld false 1 (.l 0))⟩,
⟨.v 7, none, .op (.mov (.l 0))⟩]) (
.seq (
.seq (
.reg [⟨.l, none, .op (.mov (.v 7))⟩,
⟨.l, none, .op (.lens (.l 0))⟩,
⟨.l, none, .op (.ld false 1 (.v 3))⟩,
⟨.l, none, .op (.bin .neq .i64 (.l 1) (.l 0))⟩,
⟨.l, none, .op (.mov (.l 0))⟩,
⟨.l, some ((.l 0), false), .op (.mov (.v 7))⟩,
⟨.l, some ((.l 1), false), .call 52 [(.l 0)]⟩,
⟨.l, some ((.l 2), false), .op (.bin .neq .i64 (.l 0) (.c (.int .i64 0)))⟩,
⟨.v 18, none, .op (.pick (.l 3) (.c (.bool true)) (.l 0))⟩]) (
.ite (.v 18) (
.seq (
.reg [⟨.n, none, .op (.st 1 (.v 2) (.c (.int .i64 3)))⟩]) (
.ret)) (
.skip))) (
.reg [⟨.l, none, .op (.ld false 1 (.v 4))⟩,
⟨.l, none, .op (.mov (.v 7))⟩,
⟨.l, none, .op (.bls 1 [.nils] 1 [(0, 1, (.l 0))])⟩,
⟨.l, none, .op (.app 1 24 (.l 2) (.l 0))⟩,
⟨.n, none, .op (.st 1 (.v 4) (.l 0))⟩])))) (
.reg [⟨.l, none, .op (.bin .add .i64 (.v 16) (.c (.int .i64 1)))⟩,
⟨.v 16, none, .op (.mov (.l 0))⟩])))))))))))) (
.seq (
.seq (
.any 7 6 [⟨0, ⟨.v 20, none, .op (.ld true 3 (.v 1))⟩, false, []⟩,
⟨1, ⟨.v 21, none, .op (.ld false 1 (.v 3))⟩, false, []⟩,
⟨2, ⟨.v 22, none, .op (.ld false 1 (.v 4))⟩, false, []⟩,
⟨3, ⟨.v 23, none, .call 86 [(.v 21), (.v 22)]⟩, false, [0]⟩,
⟨4, ⟨.v 24, none, .call 87 [(.v 23)]⟩, false, [0]⟩,
⟨5, ⟨.v 25, none, .call 119 [(.v 20), (.v 24)]⟩, false, []⟩,
⟨6, ⟨.v 19, none, .op (.not (.v 25))⟩, false, []⟩]) (
.ite (.v 19) (
.seq (
.reg [⟨.n, none, .op (.st 1 (.v 2) (.c (.int .i64 3)))⟩]) (
.ret)) (
.skip))) (
.seq (
.reg [⟨.n, none, .op (.st 1 (.v 2) (.c (.int .i64 0)))⟩]) (
.ret))))))))⟩
/- 89 cayley/rank.sizes -/
def c_rank_sizes : Ay.Fn := ⟨1, [some 0, none, none, none, none, none, none, none, none], [.v 2, .v 3],
.seq (
.reg [⟨.v 1, none, .op (.box (.v 0))⟩,
⟨.v 2, none, .op (.mov (.c .nils))⟩,
⟨.v 3, none, .op (.mov (.c (.bool false)))⟩]) (
.seq (
.reg [⟨.l, none, .op (.fla 0 (.v 1))⟩,
⟨.l, none, .op (.ld false 1 (.l 0))⟩,
⟨.l, none, .op (.bin .add .i64 (.l 0) (.c (.int .i64 1)))⟩,
⟨.l, none, .op (.mks 1 8 [(.int .i64 0)] (.l 0) (.l 0))⟩,
⟨.v 4, none, .op (.mov (.l 0))⟩]) (
.seq (
.reg [⟨.l, none, .op (.mov (.v 4))⟩,
⟨.l, none, .op (.fla 0 (.v 1))⟩,
⟨.l, none, .op (.ld false 1 (.l 0))⟩,
⟨.l, none, .op (.ixa 1 (.l 2) (.l 0))⟩,
⟨.n, none, .op (.st 1 (.l 0) (.c (.int .i64 1)))⟩]) (
.seq (
.seq (
.reg [⟨.l, none, .op (.fla 0 (.v 1))⟩,
⟨.l, none, .op (.ld false 1 (.l 0))⟩,
⟨.l, none, .op (.bin .sub .i64 (.l 0) (.c (.int .i64 1)))⟩,
⟨.v 5, none, .op (.mov (.l 0))⟩]) (
.block 0 (
.loop (
.seq (
.seq (
.reg [⟨.l, none, .op (.mov (.v 5))⟩,
⟨.v 7, none, .op (.bin .geq .i64 (.l 0) (.c (.int .i64 0)))⟩]) (
.ite (.v 7) (
.skip) (
.exit 0))) (
.seq (
.block 1 (
.seq (
.reg [⟨.l, none, .op (.fla 1 (.v 1))⟩,
⟨.l, none, .op (.ld false 1 (.l 0))⟩,
⟨.l, none, .op (.mov (.v 5))⟩,
⟨.l, none, .op (.ixa 1 (.l 1) (.l 0))⟩,
⟨.l, none, .op (.ld false 1 (.l 0))⟩,
⟨.l, none, .op (.lens (.l 0))⟩,
⟨.v 6, none, .op (.mov (.l 0))⟩]) (
.seq (
.seq (
.any 8 7 [⟨0, ⟨.v 9, none, .op (.mov (.v 4))⟩, false, []⟩,
⟨1, ⟨.v 10, none, .op (.mov (.v 5))⟩, false, []⟩,
⟨2, ⟨.v 11, none, .op (.bin .add .i64 (.v 10) (.c (.int .i64 1)))⟩, false, []⟩,
⟨3, ⟨.v 12, none, .op (.ixa 1 (.v 9) (.v 11))⟩, false, []⟩,
⟨4, ⟨.v 13, none, .op (.ld false 1 (.v 12))⟩, false, []⟩,
⟨5, ⟨.v 14, none, .op (.mov (.v 6))⟩, false, []⟩,
⟨6, ⟨.v 15, none, .op (.bin .quo .i64 (.c (.int .i64 1000000000000000000)) (.v 14))⟩, false, []⟩,
⟨7, ⟨.v 8, none, .op (.bin .gtr .i64 (.v 13) (.v 15))⟩, false, []⟩]) (
.ite (.v 8) (
.seq (
.reg [⟨.v 2, none, .op (.mov (.c .nils))⟩,
⟨.v 3, none, .op (.mov (.c (.bool false)))⟩]) (
.ret)) (
.skip))) (
.reg [⟨.l, none, .op (.mov (.v 4))⟩,
⟨.l, none, .op (.mov (.v 5))⟩,
⟨.l, none, .op (.mov (.v 6))⟩,
⟨.l, none, .op (.mov (.v 4))⟩,
⟨.l, none, .op (.mov (.v 5))⟩,
⟨.l, none, .op (.bin .add .i64 (.l 0) (.c (.int .i64 1)))⟩,
⟨.l, none, .op (.ixa 1 (.l 2) (.l 0))⟩,
⟨.l, none, .op (.ld false 1 (.l 0))⟩,
⟨.l, none, .op (.bin .mul .i64 (.l 5) (.l 0))⟩,
⟨.l, none, .op (.ixa 1 (.l 8) (.l 7))⟩,
⟨.n, none, .op (.st 1 (.l 0) (.l 1))⟩])))) (
.reg [⟨.l, none, .op (.mov (.v 5))⟩,
⟨.l, none, .op (.bin .sub .i64 (.l 0) (.c (.int .i64 1)))⟩,
⟨.v 5, none, .op (.mov (.l 0))⟩])))))) (
.seq (
.reg [⟨.l, none, .op (.mov (.v 4))⟩,
⟨.v 2, none, .op (.mov (.l 0))⟩,
⟨.v 3, none, .op (.mov (.c (.bool true)))⟩]) (
.ret)))))⟩
/- 90 cayley/chain.both -/
def c_chain_both : Ay.Fn := ⟨2, [some 0, some 1, none, none, none, none, none, none, none], [.v 3],
.seq (
.reg [⟨.v 2, none, .op (.box (.v 0))⟩,
⟨.v 3, none, .op (.mov (.c (.int .i64 0)))⟩]) (
.seq (
.seq (
.reg [⟨.l, none, .op (.ld true 3 (.v 2))⟩,
⟨.l, none, .call 88 [(.l 0)]⟩,
⟨.v 4, none, .op (.mov (.l 0))⟩]) (
.seq (
.reg [⟨.l, none, .op (.mov (.v 4))⟩,
⟨.v 6, none, .op (.bin .neq .i64 (.l 0) (.c (.int .i64 0)))⟩]) (
.ite (.v 6) (
.seq (
.reg [⟨.l, none, .op (.mov (.v 4))⟩,
⟨.v 3, none, .op (.mov (.l 0))⟩]) (
.ret)) (
.skip)))) (
.seq (
.seq (
.reg [⟨.l, none, .op (.mov (.v 1))⟩,
⟨.l, none, .call 52 [(.l 0)]⟩,
⟨.v 5, none, .op (.mov (.l 0))⟩]) (
.seq (
.reg [⟨.l, none, .op (.mov (.v 5))⟩,
⟨.v 7, none, .op (.bin .neq .i64 (.l 0) (.c (.int .i64 0)))⟩]) (
.ite (.v 7) (
.seq (
.reg [⟨.l, none, .op (.mov (.v 5))⟩,
⟨.v 3, none, .op (.mov (.l 0))⟩]) (
.ret)) (
.skip)))) (
.seq (
.seq (
.reg [⟨.l, none, .op (.mov (.v 1))⟩,
⟨.l, none, .op (.lens (.l 0))⟩,
⟨.l, none, .op (.fla 0 (.v 2))⟩,
⟨.l, none, .op (.ld false 1 (.l 0))⟩,
⟨.v 8, none, .op (.bin .neq .i64 (.l 2) (.l 0))⟩]) (
.ite (.v 8) (
.seq (
.reg [⟨.v 3, none, .op (.mov (.c (.int .i64 10)))⟩]) (
.ret)) (
.skip))) (
.seq (
.reg [⟨.v 3, none, .op (.mov (.c (.int .i64 0)))⟩]) (
.ret)))))⟩
/- 91 cayley/chain.sift -/
def c_chain_sift : Ay.Fn := ⟨2, [some 0, some 1, none, none, none, none, none, none, none, none, none, none, none, none], [.cell 4 false 1, .cell 5 false 1],
.seq (
.reg [⟨.v 2, none, .op (.box (.v 0))⟩,
⟨.v 3, none, .op (.box (.v 1))⟩,
⟨.v 4, none, .op (.alc [.nils])⟩,
⟨.v 5, none, .op (.alc [(.int .i64 0)])⟩]) (
.seq (
.reg [⟨.l, none, .op (.ld false 1 (.v 3))⟩,
⟨.l, none, .call 93 [(.l 0)]⟩,
⟨.n, none, .op (.st 1 (.v 3) (.l 0))⟩]) (
.seq (
.seq (
.reg [⟨.l, none, .op (.ld true 3 (.v 2))⟩,
⟨.v 10, none, .call 92 [(.l 0)]⟩]) (
.block 0 (
.range (.v 10) [11, 12] (
.seq (
.reg [⟨.v 6, none, .op (.mov (.v 11))⟩]) (
.reg [⟨.v 7, none, .op (.mov (.v 12))⟩])) (
.block 1 (
.seq (
.any 15 13 [⟨0, ⟨.v 14, none, .op (.fla 1 (.v 2))⟩, false, []⟩,
⟨1, ⟨.v 15, none, .op (.ld false 1 (.v 14))⟩, false, []⟩,
⟨2, ⟨.v 16, none, .op (.mov (.v 6))⟩, false, []⟩,
⟨3, ⟨.v 17, none, .op (.ixa 1 (.v 15) (.v 16))⟩, false, []⟩,
⟨4, ⟨.v 18, none, .op (.ld false 1 (.v 17))⟩, false, []⟩,
⟨5, ⟨.v 19, none, .op (.ld false 1 (.v 3))⟩, false, []⟩,
⟨6, ⟨.v 20, none, .op (.mov (.v 6))⟩, false, []⟩,
⟨7, ⟨.v 21, none, .op (.ixa 1 (.v 19) (.v 20))⟩, false, []⟩,
⟨8, ⟨.v 22, none, .op (.ld false 1 (.v 21))⟩, false, []⟩,
⟨9, ⟨.v 23, none, .call 120 [(.v 18), (.v 22)]⟩, false, []⟩,
⟨10, ⟨.v 24, none, .op (.mov (.v 23))⟩, false, []⟩,
⟨11, ⟨.v 25, none, .op (.ext (.v 24) 0)⟩, false, []⟩,
⟨12, ⟨.v 26, none, .op (.ext (.v 24) 1)⟩, false, []⟩,
⟨13, ⟨.v 8, none, .op (.mov (.v 25))⟩, false, []⟩,
⟨14, ⟨.v 9, none, .op (.mov (.v 26))⟩, false, []⟩]) (
.seq (
.seq (
.reg [⟨.l, none, .op (.mov (.v 9))⟩,
⟨.v 13, none, .op (.not (.l 0))⟩]) (
.ite (.v 13) (
.seq (
.reg [⟨.l, none, .op (.ld false 1 (.v 3))⟩,
⟨.l, none, .op (.mov (.v 6))⟩,
⟨.n, none, .op (.st 1 (.v 4) (.l 1))⟩,
⟨.n, none, .op (.st 1 (.v 5) (.l 0))⟩]) (
.ret)) (
.skip))) (
.any 8 7 [⟨0, ⟨.v 14, none, .op (.ld false 1 (.v 3))⟩, false, []⟩,
⟨1, ⟨.v 15, none, .op (.mov (.v 7))⟩, false, []⟩,
⟨2, ⟨.v 16, none, .op (.mov (.v 8))⟩, false, []⟩,
⟨3, ⟨.v 17, none, .op (.ixa 1 (.v 15) (.v 16))⟩, false, []⟩,
⟨4, ⟨.v 18, none, .op (.ld false 1 (.v 17))⟩, false, []⟩,
⟨5, ⟨.v 19, none, .call 122 [(.v 18)]⟩, false, [0]⟩,
⟨6, ⟨.v 20, none, .call 121 [(.v 14), (.v 19)]⟩, false, []⟩,
⟨7, ⟨.n, none, .op (.st 1 (.v 3) (.v 20))⟩, false, []⟩]))))))) (
.seq (
.any 5 3 [⟨0, ⟨.v 14, none, .op (.ld false 1 (.v 3))⟩, false, []⟩,
⟨1, ⟨.v 15, none, .op (.fla 0 (.v 2))⟩, false, []⟩,
⟨2, ⟨.v 16, none, .op (.ld false 1 (.v 15))⟩, false, []⟩,
⟨3, ⟨.n, none, .op (.st 1 (.v 4) (.v 14))⟩, false, [2]⟩,
⟨4, ⟨.n, none, .op (.st 1 (.v 5) (.v 16))⟩, false, []⟩]) (
.ret))))⟩
/- 92 cayley/chain.reps -/
def c_chain_reps : Ay.Fn := ⟨1, [some 0, none, none], [.v 2],
.seq (
.reg [⟨.v 1, none, .op (.box (.v 0))⟩,
⟨.v 2, none, .op (.mov (.c .nilf))⟩]) (
.seq (
.reg [⟨.l, none, .op (.mkf 123 [] [(.v 1)])⟩,
⟨.v 2, none, .op (.mov (.l 0))⟩]) (
.ret))⟩
/- 93 slices.Clone[cayley/api.Perm,int] -/
def c_slices_Clone_api_Perm_int : Ay.Fn := ⟨1, [some 0, none, none], [.v 1],
.seq (
.reg [⟨.v 1, none, .op (.mov (.c .nils))⟩]) (
.seq (
.seq (
.reg [⟨.l, none, .op (.mov (.v 0))⟩,
⟨.v 2, none, .op (.snil false (.l 0))⟩]) (
.ite (.v 2) (
.seq (
.reg [⟨.v 1, none, .op (.mov (.c .nils))⟩]) (
.ret)) (
.skip))) (
.seq (
.reg [⟨.l, none, .op (.bls 1 [(.int .i64 0)] 0 [])⟩,
⟨.l, none, .op (.mov (.v 0))⟩,
⟨.l, none, .op (.app 1 8 (.l 1) (.l 0))⟩,
⟨.v 1, none, .op (.mov (.l 0))⟩]) (
.ret)))⟩
/- 96 (cayley/cayleyref08.Table).entries -/
def c_ref08_Table_entries : Ay.Fn := ⟨1, [some 0, none, none, none, none, none, none, none], [.v 1],
.seq (
.reg [⟨.v 1, none, .op (.mov (.c .nils))⟩]) (
.seq (
.reg [⟨.v 2, none, .op (.mov (.c .nils))⟩]) (
.seq (
.seq (
.reg [⟨.v 3, none, .op (.mov (.c (.int .i64 0)))⟩]) (
.block 0 (
.loop (
.seq (
.seq (
.reg [⟨.l, none, .op (.mov (.v 3))⟩,
⟨.l, none, .op (.mov (.v 0))⟩,
⟨.l, none, .op (.lens (.l 0))⟩,
⟨.v 5, none, .op (.bin .lss .i64 (.l 2) (.l 0))⟩]) (
.ite (.v 5) (
.skip) (
.exit 0))) (
.seq (
.block 1 (
.seq (
.reg [⟨.v 4, none, .op (.mov (.c (.int .i64 0)))⟩]) (
.block 2 (
.loop (
.seq (
.seq (
.reg [⟨.l, none, .op (.mov (.v 4))⟩,
⟨.l, none, .op (.mov (.v 0))⟩,
⟨.l, none, .op (.lens (.l 0))⟩,
⟨.v 6, none, .op (.bin .lss .i64 (.l 2) (.l 0))⟩]) (
.ite (.v 6) (
.skip) (
.exit 2))) (
.seq (
.block 3 (
.seq (
.reg [⟨.l, none, .op (.mov (.v 0))⟩,
⟨.l, none, .op (.mov (.v 3))⟩,
⟨.l, none, .op (.ixa 1 (.l 1) (.l 0))⟩,
⟨.l, none, .op (.ld false 1 (.l 0))⟩,
⟨.l, none, .op (.mov (.v 4))⟩,
⟨.l, none, .op (.ixa 1 (.l 1) (.l 0))⟩,
⟨.l, none, .op (.ld false 1 (.l 0))⟩,
⟨.v 7, none, .op (.snil true (.l 0))⟩]) (
.ite (.v 7) (
.reg [⟨.l, none, .op (.mov (.v 2))⟩,
⟨.l, none, .op (.mov (.v 0))⟩,
⟨.l, none, .op (.mov (.v 3))⟩,
⟨.l, none, .op (.ixa 1 (.l 1) (.l 0))⟩,
⟨.l, none, .op (.ld false 1 (.l 0))⟩,
⟨.l, none, .op (.mov (.v 4))⟩,
⟨.l, none, .op (.ixa 1 (.l 1) (.l 0))⟩,
⟨.l, none, .op (.ld false 1 (.l 0))⟩,
⟨.l, none, .op (.bls 1 [.nils] 1 [(0, 1, (.l 0))])⟩,
⟨.l, none, .op (.app 1 24 (.l 8) (.l 0))⟩,
⟨.v 2, none, .op (.mov (.l 0))⟩]) (
.skip)))) (
.reg [⟨.l, none, .op (.mov (.v 4))⟩,
⟨.l, none, .op (.bin .add .i64 (.l 0) (.c (.int .i64 1)))⟩,
⟨.v 4, none, .op (.mov (.l 0))⟩]))))))) (
.reg [⟨.l, none, .op (.mov (.v 3))⟩,
⟨.l, none, .op (.bin .add .i64 (.l 0) (.c (.int .i64 1)))⟩,
⟨.v 3, none, .op (.mov (.l 0))⟩])))))) (
.seq (
.reg [⟨.l, none, .op (.mov (.v 2))⟩,
⟨.v 1, none, .op (.mov (.l 0))⟩]) (
.ret))))⟩
/- 97 (cayley/cayleyref08.Table).fresh -/
def c_ref08_Table_fresh : Ay.Fn := ⟨2, [some 0, some 1, none, none, none, none, none, none, none, none, none], [.v 2],
.seq (
.reg [⟨.v 2, none, .op (.mov (.c .nils))⟩]) (
.seq (
.reg [⟨.v 3, none, .op (.mov (.c .nils))⟩]) (
.seq (
.reg [⟨.l, none, .op (.mov (.v 0))⟩,
⟨.l, none, .call 96 [(.l 0)]⟩,
⟨.v 4, none, .op (.mov (.l 0))⟩]) (
.seq (
.seq (
.reg [⟨.v 5, none, .op (.mov (.c (.int .i64 0)))⟩]) (
.block 0 (
.loop (
.seq (
.seq (
.reg [⟨.l, none, .op (.mov (.v 5))⟩,
⟨.l, none, .op (.mov (.v 4))⟩,
⟨.l, none, .op (.lens (.l 0))⟩,
⟨.v 8, none, .op (.bin .lss .i64 (.l 2) (.l 0))⟩]) (
.ite (.v 8) (
.skip) (
.exit 0))) (
.seq (
.block 1 (
.seq (
.reg [⟨.v 6, none, .op (.mov (.c (.bool false)))⟩]) (
.seq (
.seq (
.reg [⟨.v 7, none, .op (.mov (.c (.int .i64 0)))⟩]) (
.block 2 (
.loop (
.seq (
.seq (
.reg [⟨.l, none, .op (.mov (.v 6))⟩,
⟨.l, none, .op (.not (.l 0))⟩,
⟨.l, none, .op (.mov (.l 0))⟩,
⟨.l, some ((.l 0), true), .op (.mov (.v 7))⟩,
⟨.l, some ((.l 1), true), .op (.mov (.v 1))⟩,
⟨.l, some ((.l 2), true), .op (.lens (.l 0))⟩,
⟨.l, some ((.l 3), true), .op (.bin .lss .i64 (.l 2) (.l 0))⟩,
⟨.v 9, none, .op (.pick (.l 4) (.l 0) (.c (.bool false)))⟩]) (
.ite (.v 9) (
.skip) (
.exit 2))) (
.seq (
.block 3 (
.any 10 9 [⟨0, ⟨.v 11, none, .op (.mov (.v 4))⟩, false, []⟩,
⟨1, ⟨.v 12, none, .op (.mov (.v 5))⟩, false, []⟩,
⟨2, ⟨.v 13, none, .op (.ixa 1 (.v 11) (.v 12))⟩, false, []⟩,
⟨3, ⟨.v 14, none, .op (.ld false 1 (.v 13))⟩, false, []⟩,
⟨4, ⟨.v 15, none, .op (.mov (.v 1))⟩, false, []⟩,
⟨5, ⟨.v 16, none, .op (.mov (.v 7))⟩, false, []⟩,
⟨6, ⟨.v 17, none, .op (.ixa 1 (.v 15) (.v 16))⟩, false, []⟩,
⟨7, ⟨.v 18, none, .op (.ld false 1 (.v 17))⟩, false, []⟩,
⟨8, ⟨.v 19, none, .call 18 [(.v 14), (.v 18)]⟩, false, []⟩,
⟨9, ⟨.v 6, none, .op (.mov (.v 19))⟩, false, []⟩])) (
.reg [⟨.l, none, .op (.mov (.v 7))⟩,
⟨.l, none, .op (.bin .add .i64 (.l 0) (.c (.int .i64 1)))⟩,
⟨.v 7, none, .op (.mov (.l 0))⟩])))))) (
.seq (
.reg [⟨.l, none, .op (.mov (.v 6))⟩,
⟨.v 10, none, .op (.not (.l 0))⟩]) (
.ite (.v 10) (
.reg [⟨.l, none, .op (.mov (.v 3))⟩,
⟨.l, none, .op (.mov (.v 4))⟩,
⟨.l, none, .op (.mov (.v 5))⟩,
⟨.l, none, .op (.ixa 1 (.l 1) (.l 0))⟩,
⟨.l, none, .op (.ld false 1 (.l 0))⟩,
⟨.l, none, .op (.bls 1 [.nils] 1 [(0, 1, (.l 0))])⟩,
⟨.l, none, .op (.app 1 24 (.l 5) (.l 0))⟩,
⟨.v 3, none, .op (.mov (.l 0))⟩]) (
.skip)))))) (
.reg [⟨.l, none, .op (.mov (.v 5))⟩,
⟨.l, none, .op (.bin .add .i64 (.l 0) (.c (.int .i64 1)))⟩,
⟨.v 5, none, .op (.mov (.l 0))⟩])))))) (
.seq (
.reg [⟨.l, none, .op (.mov (.v 3))⟩,
⟨.v 2, none, .op (.mov (.l 0))⟩]) (
.ret)))))⟩
/- 98 (cayley/cayleyref08.Table).orbit -/
def c_ref08_Table_orbit : Ay.Fn := ⟨2, [some 0, some 1, none, none, none, none, none], [.v 2],
.seq (
.reg [⟨.v 2, none, .op (.mov (.c .nils))⟩]) (
.seq (
.reg [⟨.v 3, none, .op (.mov (.c .nils))⟩]) (
.seq (
.seq (
.reg [⟨.l, none, .op (.mov (.v 1))⟩,
⟨.v 4, none, .op (.mov (.l 0))⟩]) (
.block 0 (
.loop (
.seq (
.seq (
.reg [⟨.l, none, .op (.mov (.v 4))⟩,
⟨.l, none, .op (.mov (.v 0))⟩,
⟨.l, none, .op (.lens (.l 0))⟩,
⟨.v 5, none, .op (.bin .lss .i64 (.l 2) (.l 0))⟩]) (
.ite (.v 5) (
.skip) (
.exit 0))) (
.seq (
.block 1 (
.seq (
.reg [⟨.l, none, .op (.mov (.v 4))⟩,
⟨.l, none, .op (.mov (.v 1))⟩,
⟨.l, none, .op (.bin .eql .i64 (.l 1) (.l 0))⟩,
⟨.l, none, .op (.mov (.l 0))⟩,
⟨.l, some ((.l 0), false), .op (.mov (.v 0))⟩,
⟨.l, some ((.l 1), false), .op (.mov (.v 1))⟩,
⟨.l, some ((.l 2), false), .op (.ixa 1 (.l 1) (.l 0))⟩,
⟨.l, some ((.l 3), false), .op (.ld false 1 (.l 0))⟩,
⟨.l, some ((.l 4), false), .op (.mov (.v 4))⟩,
⟨.l, some ((.l 5), false), .op (.ixa 1 (.l 1) (.l 0))⟩,
⟨.l, some ((.l 6), false), .op (.ld false 1 (.l 0))⟩,
⟨.l, some ((.l 7), false), .op (.snil true (.l 0))⟩,
⟨.v 6, none, .op (.pick (.l 8) (.c (.bool true)) (.l 0))⟩]) (
.ite (.v 6) (
.reg [⟨.l, none, .op (.mov (.v 3))⟩,
⟨.l, none, .op (.mov (.v 4))⟩,
⟨.l, none, .op (.bls 1 [(.int .i64 0)] 1 [(0, 1, (.l 0))])⟩,
⟨.l, none, .op (.app 1 8 (.l 2) (.l 0))⟩,
⟨.v 3, none, .op (.mov (.l 0))⟩]) (
.skip)))) (
.reg [⟨.l, none, .op (.mov (.v 4))⟩,
⟨.l, none, .op (.bin .add .i64 (.l 0) (.c (.int .i64 1)))⟩,
⟨.v 4, none, .op (.mov (.l 0))⟩])))))) (
.seq (
.reg [⟨.l, none, .op (.mov (.v 3))⟩,
⟨.v 2, none, .op (.mov (.l 0))⟩]) (
.ret))))⟩
/- 99 (cayley/cayleyref08.Table).least -/
def c_ref08_Table_least : Ay.Fn := ⟨3, [some 0, some 1, some 2, none, none, none, none, none, none, none, none, none, none, none], [.v 3],
.seq (
.reg [⟨.v 3, none, .op (.mov (.c .nils))⟩]) (
.seq (
.reg [⟨.l, none, .op (.mov (.v 0))⟩,
⟨.l, none, .op (.lens (.l 0))⟩,
⟨.l, none, .call 63 [(.l 0)]⟩,
⟨.v 4, none, .op (.mov (.l 0))⟩]) (
.seq (
.seq (
.reg [⟨.l, none, .op (.mov (.v 2))⟩,
⟨.l, none, .op (.mov (.v 1))⟩,
⟨.v 9, none, .op (.bin .neq .i64 (.l 1) (.l 0))⟩]) (
.ite (.v 9) (
.reg [⟨.l, none, .op (.mov (.v 0))⟩,
⟨.l, none, .op (.mov (.v 1))⟩,
⟨.l, none, .op (.ixa 1 (.l 1) (.l 0))⟩,
⟨.l, none, .op (.ld false 1 (.l 0))⟩,
⟨.l, none, .op (.mov (.v 2))⟩,
⟨.l, none, .op (.ixa 1 (.l 1) (.l 0))⟩,
⟨.l, none, .op (.ld false 1 (.l 0))⟩,
⟨.v 4, none, .op (.mov (.l 0))⟩]) (
.skip))) (
.seq (
.seq (
.reg [⟨.l, none, .op (.mov (.v 1))⟩,
⟨.l, none, .op (.bin .add .i64 (.l 0) (.c (.int .i64 1)))⟩,
⟨.v 5, none, .op (.mov (.l 0))⟩]) (
.block 0 (
.loop (
.seq (
.seq (
.reg [⟨.l, none, .op (.mov (.v 5))⟩,
⟨.l, none, .op (.mov (.v 0))⟩,
⟨.l, none, .op (.lens (.l 0))⟩,
⟨.v 10, none, .op (.bin .lss .i64 (.l 2) (.l 0))⟩]) (
.ite (.v 10) (
.skip) (
.exit 0))) (
.seq (
.block 1 (
.seq (
.reg [⟨.l, none, .op (.mov (.v 0))⟩,
⟨.l, none, .op (.mov (.v 5))⟩,
⟨.l, none, .call 98 [(.l 1), (.l 0)]⟩,
⟨.v 6, none, .op (.mov (.l 0))⟩]) (
.seq (
.reg [⟨.l, none, .op (.mov (.v 5))⟩,
⟨.v 7, none, .op (.mov (.l 0))⟩]) (
.seq (
.seq (
.reg [⟨.v 8, none, .op (.mov (.c (.int .i64 0)))⟩]) (
.block 2 (
.loop (
.seq (
.seq (
.reg [⟨.l, none, .op (.mov (.v 8))⟩,
⟨.l, none, .op (.mov (.v 6))⟩,
⟨.l, none, .op (.lens (.l 0))⟩,
⟨.v 11, none, .op (.bin .lss .i64 (.l 2) (.l 0))⟩]) (
.ite (.v 11) (
.skip) (
.exit 2))) (
.seq (
.block 3 (
.seq (
.any 12 11 [⟨0, ⟨.v 14, none, .op (.mov (.v 4))⟩, false, []⟩,
⟨1, ⟨.v 15, none, .op (.mov (.v 6))⟩, false, []⟩,
⟨2, ⟨.v 16, none, .op (.mov (.v 8))⟩, false, []⟩,
⟨3, ⟨.v 17, none, .op (.ixa 1 (.v 15) (.v 16))⟩, false, []⟩,
⟨4, ⟨.v 18, none, .op (.ld false 1 (.v 17))⟩, false, []⟩,
⟨5, ⟨.v 19, none, .op (.ixa 1 (.v 14) (.v 18))⟩, false, []⟩,
⟨6, ⟨.v 20, none, .op (.ld false 1 (.v 19))⟩, false, []⟩,
⟨7, ⟨.v 21, none, .op (.mov (.v 4))⟩, false, []⟩,
⟨8, ⟨.v 22, none, .op (.mov (.v 7))⟩, false, []⟩,
⟨9, ⟨.v 23, none, .op (.ixa 1 (.v 21) (.v 22))⟩, false, []⟩,
⟨10, ⟨.v 24, none, .op (.ld false 1 (.v 23))⟩, false, []⟩,
⟨11, ⟨.v 12, none, .op (.bin .lss .i64 (.v 20) (.v 24))⟩, false, []⟩]) (
.ite (.v 12) (
.reg [⟨.l, none, .op (.mov (.v 6))⟩,
⟨.l, none, .op (.mov (.v 8))⟩,
⟨.l, none, .op (.ixa 1 (.l 1) (.l 0))⟩,
⟨.l, none, .op (.ld false 1 (.l 0))⟩,
⟨.v 7, none, .op (.mov (.l 0))⟩]) (
.skip)))) (
.reg [⟨.l, none, .op (.mov (.v 8))⟩,
⟨.l, none, .op (.bin .add .i64 (.l 0) (.c (.int .i64 1)))⟩,
⟨.v 8, none, .op (.mov (.l 0))⟩])))))) (
.seq (
.reg [⟨.l, none, .op (.mov (.v 7))⟩,
⟨.l, none, .op (.mov (.v 5))⟩,
⟨.v 13, none, .op (.bin .neq .i64 (.l 1) (.l 0))⟩]) (
.ite (.v 13) (
.reg [⟨.l, none, .op (.mov (.v 0))⟩,
⟨.l, none, .op (.mov (.v 5))⟩,
⟨.l, none, .op (.ixa 1 (.l 1) (.l 0))⟩,
⟨.l, none, .op (.ld false 1 (.l 0))⟩,
⟨.l, none, .op (.mov (.v 7))⟩,
⟨.l, none, .op (.ixa 1 (.l 1) (.l 0))⟩,
⟨.l, none, .op (.ld false 1 (.l 0))⟩,
⟨.l, none, .op (.mov (.v 4))⟩,
⟨.l, none, .call 40 [(.l 1), (.l 0)]⟩,
⟨.v 4, none, .op (.mov (.l 0))⟩]) (
.skip))))))) (
.reg [⟨.l, none, .op (.mov (.v 5))⟩,
⟨.l, none, .op (.bin .add .i64 (.l 0) (.c (.int .i64 1)))⟩,
⟨.v 5, none, .op (.mov (.l 0))⟩])))))) (
.seq (
.reg [⟨.l, none, .op (.mov (.v 4))⟩,
⟨.l, none, .call 51 [(.l 0)]⟩,
⟨.v 3, none, .op (.mov (.l 0))⟩]) (
.ret)))))⟩
/- 100 cayley/rank.elements -/
def c_rank_elements : Ay.Fn := ⟨3, [some 0, some 1, some 2, none, none, none, none], [.v 6],
.seq (
.reg [⟨.v 3, none, .op (.box (.v 0))⟩,
⟨.v 4, none, .op (.box (.v 1))⟩,
⟨.v 5, none, .op (.box (.v 2))⟩,
⟨.v 6, none, .op (.mov (.c .nilf))⟩]) (
.seq (
.reg [⟨.l, none, .op (.mkf 124 [] [(.v 5), (.v 3), (.v 4)])⟩,
⟨.v 6, none, .op (.mov (.l 0))⟩]) (
.ret))⟩
/- 101 cayley/rank.one -/
def c_rank_one : Ay.Fn := ⟨1, [some 0, none, none, none, none, none, none], [.v 1],
.seq (
.reg [⟨.v 1, none, .op (.mov (.c .nils))⟩]) (
.seq (
.reg [⟨.l, none, .op (.mov (.v 0))⟩,
⟨.l, none, .op (.mks 1 8 [(.int .i64 0)] (.l 0) (.l 0))⟩,
⟨.v 2, none, .op (.mov (.l 0))⟩]) (
.seq (
.seq (
.reg [⟨.l, none, .op (.mov (.v 2))⟩,
⟨.v 4, none, .op (.lens (.l 0))⟩,
⟨.v 5, none, .op (.mov (.c (.int .i64 0)))⟩]) (
.block 0 (
.loop (
.seq (
.reg [⟨.v 6, none, .op (.bin .lss .i64 (.v 5) (.v 4))⟩]) (
.seq (
.ite (.v 6) (
.skip) (
.exit 0)) (
.seq (
.block 1 (
.seq (
.reg [⟨.l, none, .op (.mov (.v 5))⟩,
⟨.v 3, none, .op (.mov (.l 0))⟩]) (
.reg [⟨.l, none, .op (.mov (.v 2))⟩,
⟨.l, none, .op (.mov (.v 3))⟩,
⟨.l, none, .op (.mov (.v 3))⟩,
⟨.l, none, .op (.ixa 1 (.l 2) (.l 1))⟩,
⟨.n, none, .op (.st 1 (.l 0) (.l 1))⟩]))) (
.reg [⟨.l, none, .op (.bin .add .i64 (.v 5) (.c (.int .i64 1)))⟩,
⟨.v 5, none, .op (.mov (.l 0))⟩]))))))) (
.seq (
.reg [⟨.l, none, .op (.mov (.v 2))⟩,
⟨.v 1, none, .op (.mov (.l 0))⟩]) (
.ret))))⟩
/- 102 slices.pdqsortOrdered[int] -/
def c_slices_pdqsortOrdered_int : Ay.Fn := ⟨4, [some 0, some 1, some 2, some 3, none, none, none, none, none, none, none, none, none, none, none, none, none, none, none, none, none, none, none], [],
.seq (
.reg [⟨.v 4, none, .op (.mov (.c (.bool true)))⟩]) (
.seq (
.reg [⟨.v 5, none, .op (.mov (.c (.bool true)))⟩]) (
.block 0 (
.loop (
.block 1 (
.seq (
.reg [⟨.l, none, .op (.mov (.v 2))⟩,
⟨.l, none, .op (.mov (.v 1))⟩,
⟨.l, none, .op (.bin .sub .i64 (.l 1) (.l 0))⟩,
⟨.v 6, none, .op (.mov (.l 0))⟩]) (
.seq (
.seq (
.reg [⟨.l, none, .op (.mov (.v 6))⟩,
⟨.v 15, none, .op (.bin .leq .i64 (.l 0) (.c (.int .i64 12)))⟩]) (
.ite (.v 15) (
.seq (
.reg [⟨.l, none, .op (.mov (.v 0))⟩,
⟨.l, none, .op (.mov (.v 1))⟩,
⟨.l, none, .op (.mov (.v 2))⟩,
⟨.l, none, .call 127 [(.l 2), (.l 1), (.l 0)]⟩]) (
.ret)) (
.skip))) (
.seq (
.seq (
.reg [⟨.l, none, .op (.mov (.v 3))⟩,
⟨.v 16, none, .op (.bin .eql .i64 (.l 0) (.c (.int .i64 0)))⟩]) (
.ite (.v 16) (
.seq (
.reg [⟨.l, none, .op (.mov (.v 0))⟩,
⟨.l, none, .op (.mov (.v 1))⟩,
⟨.l, none, .op (.mov (.v 2))⟩,
⟨.l, none, .call 128 [(.l 2), (.l 1), (.l 0)]⟩]) (
.ret)) (
.skip))) (
.seq (
.seq (
.reg [⟨.l, none, .op (.mov (.v 4))⟩,
⟨.v 17, none, .op (.not (.l 0))⟩]) (
.ite (.v 17) (
.seq (
.reg [⟨.l, none, .op (.mov (.v 0))⟩,
⟨.l, none, .op (.mov (.v 1))⟩,
⟨.l, none, .op (.mov (.v 2))⟩,
⟨.l, none, .call 129 [(.l 2), (.l 1), (.l 0)]⟩]) (
.reg [⟨.l, none, .op (.mov (.v 3))⟩,
⟨.l, none, .op (.bin .sub .i64 (.l 0) (.c (.int .i64 1)))⟩,
⟨.v 3, none, .op (.mov (.l 0))⟩])) (
.skip))) (
.seq (
.reg [⟨.l, none, .op (.mov (.v 0))⟩,
⟨.l, none, .op (.mov (.v 1))⟩,
⟨.l, none, .op (.mov (.v 2))⟩,
⟨.l, none, .call 130 [(.l 2), (.l 1), (.l 0)]⟩,
⟨.l, none, .op (.mov (.l 0))⟩,
⟨.l, none, .op (.ext (.l 0) 0)⟩,
⟨.l, none, .op (.ext (.l 1) 1)⟩,
⟨.v 7, none, .op (.mov (.l 1))⟩,
⟨.v 8, none, .op (.mov (.l 0))⟩]) (
.seq (
.seq (
.reg [⟨.l, none, .op (.mov (.v 8))⟩,
⟨.v 18, none, .op (.bin .eql .i64 (.l 0) (.c (.int .i64 2)))⟩]) (
.ite (.v 18) (
.seq (
.reg [⟨.l, none, .op (.mov (.v 0))⟩,
⟨.l, none, .op (.mov (.v 1))⟩,
⟨.l, none, .op (.mov (.v 2))⟩,
⟨.l, none, .call 131 [(.l 2), (.l 1), (.l 0)]⟩]) (
.seq (
.reg [⟨.l, none, .op (.mov (.v 2))⟩,
⟨.l, none, .op (.bin .sub .i64 (.l 0) (.c (.int .i64 1)))⟩,
⟨.l, none, .op (.mov (.v 7))⟩,
⟨.l, none, .op (.mov (.v 1))⟩,
⟨.l, none, .op (.bin .sub .i64 (.l 1) (.l 0))⟩,
⟨.l, none, .op (.bin .sub .i64 (.l 3) (.l 0))⟩,
⟨.v 7, none, .op (.mov (.l 0))⟩]) (
.reg [⟨.v 8, none, .op (.mov (.c (.int .i64 1)))⟩]))) (
.skip))) (
.seq (
.seq (
.reg [⟨.l, none, .op (.mov (.v 4))⟩,
⟨.l, none, .op (.mov (.l 0))⟩,
⟨.l, some ((.l 0), true), .op (.mov (.v 5))⟩,
⟨.l, none, .op (.pick (.l 1) (.l 0) (.c (.bool false)))⟩,
⟨.l, none, .op (.mov (.l 0))⟩,
⟨.l, some ((.l 0), true), .op (.mov (.v 8))⟩,
⟨.l, some ((.l 1), true), .op (.bin .eql .i64 (.l 0) (.c (.int .i64 1)))⟩,
⟨.v 19, none, .op (.pick (.l 2) (.l 0) (.c (.bool false)))⟩]) (
.ite (.v 19) (
.seq (
.reg [⟨.l, none, .op (.mov (.v 0))⟩,
⟨.l, none, .op (.mov (.v 1))⟩,
⟨.l, none, .op (.mov (.v 2))⟩,
⟨.v 20, none, .call 132 [(.l 2), (.l 1), (.l 0)]⟩]) (
.ite (.v 20) (
.ret) (
.skip))) (
.skip))) (
.seq (
.seq (
.any 15 14 [⟨0, ⟨.v 23, none, .op (.mov (.v 1))⟩, false, []⟩,
⟨1, ⟨.v 24, none, .op (.bin .gtr .i64 (.v 23) (.c (.int .i64 0)))⟩, false, []⟩,
⟨2, ⟨.v 25, none, .op (.mov (.v 24))⟩, false, []⟩,
⟨3, ⟨.v 26, some ((.v 25), true), .op (.mov (.v 0))⟩, false, []⟩,
⟨4, ⟨.v 27, some ((.v 25), true), .op (.mov (.v 1))⟩, false, []⟩,
⟨5, ⟨.v 28, some ((.v 25), true), .op (.bin .sub .i64 (.v 27) (.c (.int .i64 1)))⟩, false, []⟩,
⟨6, ⟨.v 29, some ((.v 25), true), .op (.ixa 1 (.v 26) (.v 28))⟩, false, []⟩,
⟨7, ⟨.v 30, some ((.v 25), true), .op (.ld false 1 (.v 29))⟩, false, []⟩,
⟨8, ⟨.v 31, some ((.v 25), true), .op (.mov (.v 0))⟩, false, []⟩,
⟨9, ⟨.v 32, some ((.v 25), true), .op (.mov (.v 7))⟩, false, []⟩,
⟨10, ⟨.v 33, some ((.v 25), true), .op (.ixa 1 (.v 31) (.v 32))⟩, false, []⟩,
⟨11, ⟨.v 34, some ((.v 25), true), .op (.ld false 1 (.v 33))⟩, false, []⟩,
⟨12, ⟨.v 35, some ((.v 25), true), .call 133 [(.v 30), (.v 34)]⟩, false, []⟩,
⟨13, ⟨.v 36, some ((.v 25), true), .op (.not (.v 35))⟩, false, []⟩,
⟨14, ⟨.v 21, none, .op (.pick (.v 25) (.v 36) (.c (.bool false)))⟩, false, []⟩]) (
.ite (.v 21) (
.seq (
.reg [⟨.l, none, .op (.mov (.v 0))⟩,
⟨.l, none, .op (.mov (.v 1))⟩,
⟨.l, none, .op (.mov (.v 2))⟩,
⟨.l, none, .op (.mov (.v 7))⟩,
⟨.l, none, .call 134 [(.l 3), (.l 2), (.l 1), (.l 0)]⟩,
⟨.v 9, none, .op (.mov (.l 0))⟩]) (
.seq (
.reg [⟨.l, none, .op (.mov (.v 9))⟩,
⟨.v 1, none, .op (.mov (.l 0))⟩]) (
.exit 1))) (
.skip))) (
.seq (
.reg [⟨.l, none, .op (.mov (.v 0))⟩,
⟨.l, none, .op (.mov (.v 1))⟩,
⟨.l, none, .op (.mov (.v 2))⟩,
⟨.l, none, .op (.mov (.v 7))⟩,
⟨.l, none, .call 135 [(.l 3), (.l 2), (.l 1), (.l 0)]⟩,
⟨.l, none, .op (.mov (.l 0))⟩,
⟨.l, none, .op (.ext (.l 0) 0)⟩,
⟨.l, none, .op (.ext (.l 1) 1)⟩,
⟨.v 10, none, .op (.mov (.l 1))⟩,
⟨.v 11, none, .op (.mov (.l 0))⟩]) (
.seq (
.reg [⟨.l, none, .op (.mov (.v 11))⟩,
⟨.v 5, none, .op (.mov (.l 0))⟩]) (
.seq (
.reg [⟨.l, none, .op (.mov (.v 10))⟩,
⟨.l, none, .op (.mov (.v 1))⟩,
⟨.l, none, .op (.bin .sub .i64 (.l 1) (.l 0))⟩,
⟨.l, none, .op (.mov (.v 2))⟩,
⟨.l, none, .op (.mov (.v 10))⟩,
⟨.l, none, .op (.bin .sub .i64 (.l 1) (.l 0))⟩,
⟨.v 12, none, .op (.mov (.l 3))⟩,
⟨.v 13, none, .op (.mov (.l 0))⟩]) (
.seq (
.reg [⟨.l, none, .op (.mov (.v 6))⟩,
⟨.l, none, .op (.bin .quo .i64 (.l 0) (.c (.int .i64 8)))⟩,
⟨.v 14, none, .op (.mov (.l 0))⟩]) (
.seq (
.reg [⟨.l, none, .op (.mov (.v 12))⟩,
⟨.l, none, .op (.mov (.v 13))⟩,
⟨.v 22, none, .op (.bin .lss .i64 (.l 1) (.l 0))⟩]) (
.ite (.v 22) (
.seq (
.reg [⟨.l, none, .op (.mov (.v 12))⟩,
⟨.l, none, .op (.mov (.v 14))⟩,
⟨.l, none, .op (.bin .geq .i64 (.l 1) (.l 0))⟩,
⟨.v 4, none, .op (.mov (.l 0))⟩]) (
.seq (
.reg [⟨.l, none, .op (.mov (.v 0))⟩,
⟨.l, none, .op (.mov (.v 1))⟩,
⟨.l, none, .op (.mov (.v 10))⟩,
⟨.l, none, .op (.mov (.v 3))⟩,
⟨.l, none, .call 102 [(.l 3), (.l 2), (.l 1), (.l 0)]⟩]) (
.reg [⟨.l, none, .op (.mov (.v 10))⟩,
⟨.l, none, .op (.bin .add .i64 (.l 0) (.c (.int .i64 1)))⟩,
⟨.v 1, none, .op (.mov (.l 0))⟩]))) (
.seq (
.reg [⟨.l, none, .op (.mov (.v 13))⟩,
⟨.l, none, .op (.mov (.v 14))⟩,
⟨.l, none, .op (.bin .geq .i64 (.l 1) (.l 0))⟩,
⟨.v 4, none, .op (.mov (.l 0))⟩]) (
.seq (
.reg [⟨.l, none, .op (.mov (.v 0))⟩,
⟨.l, none, .op (.mov (.v 10))⟩,
⟨.l, none, .op (.bin .add .i64 (.l 0) (.c (.int .i64 1)))⟩,
⟨.l, none, .op (.mov (.v 2))⟩,
⟨.l, none, .op (.mov (.v 3))⟩,
⟨.l, none, .call 102 [(.l 4), (.l 2), (.l 1), (.l 0)]⟩]) (
.reg [⟨.l, none, .op (.mov (.v 10))⟩,
⟨.v 2, none, .op (.mov (.l 0))⟩])))))))))))))))))))))⟩
/- 103 math/bits.Len -/
def c_math_bits_Len : Ay.Fn := ⟨1, [some 0, none], [.v 1],
.seq (
.reg [⟨.v 1, none, .op (.mov (.c (.int .i64 0)))⟩]) (
.seq (
.ite (.c (.bool false)) (
.seq (
.reg [⟨.l, none, .op (.mov (.v 0))⟩,
⟨.l, none, .op (.conv .u32 (.l 0))⟩,
⟨.l, none, .call 136 [(.l 0)]⟩,
⟨.v 1, none, .op (.mov (.l 0))⟩]) (
.ret)) (
.skip)) (
.seq (
.reg [⟨.l, none, .op (.mov (.v 0))⟩,
⟨.l, none, .call 137 [(.l 0)]⟩,
⟨.v 1, none, .op (.mov (.l 0))⟩]) (
.ret)))⟩
/- 104 cayley/perm.first -/
def c_perm_first : Ay.Fn := ⟨1, [some 0, none, none, none, none, none, none, none, none, none, none, none, none, none, none], [.v 1],
.seq (
.reg [⟨.v 1, none, .op (.mov (.c (.int .i64 0)))⟩]) (
.seq (
.seq (
.reg [⟨.v 5, none, .op (.mov (.v 0))⟩,
⟨.v 6, none, .op (.lens (.v 5))⟩,
⟨.v 7, none, .op (.mov (.c (.int .i64 0)))⟩]) (
.block 0 (
.loop (
.seq (
.reg [⟨.v 8, none, .op (.bin .lss .i64 (.v 7) (.v 6))⟩]) (
.seq (
.ite (.v 8) (
.skip) (
.exit 0)) (
.seq (
.block 1 (
.seq (
.reg [⟨.l, none, .op (.ixa 1 (.v 5) (.v 7))⟩,
⟨.l, none, .op (.ld false 1 (.l 0))⟩,
⟨.v 2, none, .op (.mov (.l 0))⟩]) (
.seq (
.reg [⟨.l, none, .op (.mov (.v 2))⟩,
⟨.l, none, .call 52 [(.l 0)]⟩,
⟨.v 3, none, .op (.mov (.l 0))⟩]) (
.seq (
.reg [⟨.l, none, .op (.mov (.v 3))⟩,
⟨.v 9, none, .op (.bin .neq .i64 (.l 0) (.c (.int .i64 0)))⟩]) (
.ite (.v 9) (
.seq (
.reg [⟨.l, none, .op (.mov (.v 3))⟩,
⟨.v 1, none, .op (.mov (.l 0))⟩]) (
.ret)) (
.skip)))))) (
.reg [⟨.l, none, .op (.bin .add .i64 (.v 7) (.c (.int .i64 1)))⟩,
⟨.v 7, none, .op (.mov (.l 0))⟩]))))))) (
.seq (
.seq (
.reg [⟨.v 10, none, .op (.mov (.v 0))⟩,
⟨.v 11, none, .op (.lens (.v 10))⟩,
⟨.v 12, none, .op (.mov (.c (.int .i64 0)))⟩]) (
.block 2 (
.loop (
.seq (
.reg [⟨.v 13, none, .op (.bin .lss .i64 (.v 12) (.v 11))⟩]) (
.seq (
.ite (.v 13) (
.skip) (
.exit 2)) (
.seq (
.block 3 (
.seq (
.reg [⟨.l, none, .op (.ixa 1 (.v 10) (.v 12))⟩,
⟨.l, none, .op (.ld false 1 (.l 0))⟩,
⟨.v 4, none, .op (.mov (.l 0))⟩]) (
.seq (
.reg [⟨.l, none, .op (.mov (.v 4))⟩,
⟨.l, none, .op (.lens (.l 0))⟩,
⟨.l, none, .op (.mov (.v 0))⟩,
⟨.l, none, .op (.ixa 1 (.l 0) (.c (.int .i64 0)))⟩,
⟨.l, none, .op (.ld false 1 (.l 0))⟩,
⟨.l, none, .op (.lens (.l 0))⟩,
⟨.v 14, none, .op (.bin .neq .i64 (.l 4) (.l 0))⟩]) (
.ite (.v 14) (
.seq (
.reg [⟨.v 1, none, .op (.mov (.c (.int .i64 10)))⟩]) (
.ret)) (
.skip))))) (
.reg [⟨.l, none, .op (.bin .add .i64 (.v 12) (.c (.int .i64 1)))⟩,
⟨.v 12, none, .op (.mov (.l 0))⟩]))))))) (
.seq (
.reg [⟨.v 1, none, .op (.mov (.c (.int .i64 0)))⟩]) (
.ret))))⟩
/- 105 cayley/perm.cycles -/
def c_perm_cycles : Ay.Fn := ⟨1, [some 0, none, none], [.v 2],
.seq (
.reg [⟨.v 1, none, .op (.box (.v 0))⟩,
⟨.v 2, none, .op (.mov (.c .nilf))⟩]) (
.seq (
.reg [⟨.l, none, .op (.mkf 138 [] [(.v 1)])⟩,
⟨.v 2, none, .op (.mov (.l 0))⟩]) (
.ret))⟩
/- 106 cayley/perm.gcd -/
def c_perm_gcd : Ay.Fn := ⟨2, [some 0, some 1, none, none], [.v 2],
.seq (
.reg [⟨.v 2, none, .op (.mov (.c (.int .i64 0)))⟩]) (
.seq (
.block 0 (
.loop (
.seq (
.seq (
.reg [⟨.l, none, .op (.mov (.v 1))⟩,
⟨.v 3, none, .op (.bin .gtr .i64 (.l 0) (.c (.int .i64 0)))⟩]) (
.ite (.v 3) (
.skip) (
.exit 0))) (
.block 1 (
.any 6 4 [⟨0, ⟨.v 4, none, .op (.mov (.v 1))⟩, false, []⟩,
⟨1, ⟨.v 5, none, .op (.mov (.v 0))⟩, false, []⟩,
⟨2, ⟨.v 6, none, .op (.mov (.v 1))⟩, false, []⟩,
⟨3, ⟨.v 7, none, .op (.bin .rem .i64 (.v 5) (.v 6))⟩, false, []⟩,
⟨4, ⟨.v 0, none, .op (.mov (.v 4))⟩, false, []⟩,
⟨5, ⟨.v 1, none, .op (.mov (.v 7))⟩, false, []⟩]))))) (
.seq (
.reg [⟨.l, none, .op (.mov (.v 0))⟩,
⟨.v 2, none, .op (.mov (.l 0))⟩]) (
.ret)))⟩
/- 107 slices.pdqsortCmpFunc[cayley/classes.class] -/
def c_slices_pdqsortCmpFunc_classes_class : Ay.Fn := ⟨5, [some 0, some 1, some 2, some 3, some 4, none, none, none, none, none, none, none, none, none, none, none, none, none, none, none, none, none, none, none], [],
.seq (
.reg [⟨.v 5, none, .op (.mov (.c (.bool true)))⟩]) (
.seq (
.reg [⟨.v 6, none, .op (.mov (.c (.bool true)))⟩]) (
.block 0 (
.loop (
.block 1 (
.seq (
.reg [⟨.l, none, .op (.mov (.v 2))⟩,
⟨.l, none, .op (.mov (.v 1))⟩,
⟨.l, none, .op (.bin .sub .i64 (.l 1) (.l 0))⟩,
⟨.v 7, none, .op (.mov (.l 0))⟩]) (
.seq (
.seq (
.reg [⟨.l, none, .op (.mov (.v 7))⟩,
⟨.v 16, none, .op (.bin .leq .i64 (.l 0) (.c (.int .i64 12)))⟩]) (
.ite (.v 16) (
.seq (
.reg [⟨.l, none, .op (.mov (.v 0))⟩,
⟨.l, none, .op (.mov (.v 1))⟩,
⟨.l, none, .op (.mov (.v 2))⟩,
⟨.l, none, .op (.mov (.v 4))⟩,
⟨.l, none, .call 139 [(.l 3), (.l 2), (.l 1), (.l 0)]⟩]) (
.ret)) (
.skip))) (
.seq (
.seq (
.reg [⟨.l, none, .op (.mov (.v 3))⟩,
⟨.v 17, none, .op (.bin .eql .i64 (.l 0) (.c (.int .i64 0)))⟩]) (
.ite (.v 17) (
.seq (
.reg [⟨.l, none, .op (.mov (.v 0))⟩,
⟨.l, none, .op (.mov (.v 1))⟩,
⟨.l, none, .op (.mov (.v 2))⟩,
⟨.l, none, .op (.mov (.v 4))⟩,
⟨.l, none, .call 140 [(.l 3), (.l 2), (.l 1), (.l 0)]⟩]) (
.ret)) (
.skip))) (
.seq (
.seq (
.reg [⟨.l, none, .op (.mov (.v 5))⟩,
⟨.v 18, none, .op (.not (.l 0))⟩]) (
.ite (.v 18) (
.seq (
.reg [⟨.l, none, .op (.mov (.v 0))⟩,
⟨.l, none, .op (.mov (.v 1))⟩,
⟨.l, none, .op (.mov (.v 2))⟩,
⟨.l, none, .op (.mov (.v 4))⟩,
⟨.l, none, .call 141 [(.l 3), (.l 2), (.l 1), (.l 0)]⟩]) (
.reg [⟨.l, none, .op (.mov (.v 3))⟩,
⟨.l, none, .op (.bin .sub .i64 (.l 0) (.c (.int .i64 1)))⟩,
⟨.v 3, none, .op (.mov (.l 0))⟩])) (
.skip))) (
.seq (
.reg [⟨.l, none, .op (.mov (.v 0))⟩,
⟨.l, none, .op (.mov (.v 1))⟩,
⟨.l, none, .op (.mov (.v 2))⟩,
⟨.l, none, .op (.mov (.v 4))⟩,
⟨.l, none, .call 142 [(.l 3), (.l 2), (.l 1), (.l 0)]⟩,
⟨.l, none, .op (.mov (.l 0))⟩,
⟨.l, none, .op (.ext (.l 0) 0)⟩,
⟨.l, none, .op (.ext (.l 1) 1)⟩,
⟨.v 8, none, .op (.mov (.l 1))⟩,
⟨.v 9, none, .op (.mov (.l 0))⟩]) (
.seq (
.seq (
.reg [⟨.l, none, .op (.mov (.v 9))⟩,
⟨.v 19, none, .op (.bin .eql .i64 (.l 0) (.c (.int .i64 2)))⟩]) (
.ite (.v 19) (
.seq (
.reg [⟨.l, none, .op (.mov (.v 0))⟩,
⟨.l, none, .op (.mov (.v 1))⟩,
⟨.l, none, .op (.mov (.v 2))⟩,
⟨.l, none, .op (.mov (.v 4))⟩,
⟨.l, none, .call 143 [(.l 3), (.l 2), (.l 1), (.l 0)]⟩]) (
.seq (
.reg [⟨.l, none, .op (.mov (.v 2))⟩,
⟨.l, none, .op (.bin .sub .i64 (.l 0) (.c (.int .i64 1)))⟩,
⟨.l, none, .op (.mov (.v 8))⟩,
⟨.l, none, .op (.mov (.v 1))⟩,
⟨.l, none, .op (.bin .sub .i64 (.l 1) (.l 0))⟩,
⟨.l, none, .op (.bin .sub .i64 (.l 3) (.l 0))⟩,
⟨.v 8, none, .op (.mov (.l 0))⟩]) (
.reg [⟨.v 9, none, .op (.mov (.c (.int .i64 1)))⟩]))) (
.skip))) (
.seq (
.seq (
.reg [⟨.l, none, .op (.mov (.v 5))⟩,
⟨.l, none, .op (.mov (.l 0))⟩,
⟨.l, some ((.l 0), true), .op (.mov (.v 6))⟩,
⟨.l, none, .op (.pick (.l 1) (.l 0) (.c (.bool false)))⟩,
⟨.l, none, .op (.mov (.l 0))⟩,
⟨.l, some ((.l 0), true), .op (.mov (.v 9))⟩,
⟨.l, some ((.l 1), true), .op (.bin .eql .i64 (.l 0) (.c (.int .i64 1)))⟩,
⟨.v 20, none, .op (.pick (.l 2) (.l 0) (.c (.bool false)))⟩]) (
.ite (.v 20) (
.seq (
.reg [⟨.l, none, .op (.mov (.v 0))⟩,
⟨.l, none, .op (.mov (.v 1))⟩,
⟨.l, none, .op (.mov (.v 2))⟩,
⟨.l, none, .op (.mov (.v 4))⟩,
⟨.v 21, none, .call 144 [(.l 3), (.l 2), (.l 1), (.l 0)]⟩]) (
.ite (.v 21) (
.ret) (
.skip))) (
.skip))) (
.seq (
.seq (
.any 17 16 [⟨0, ⟨.v 24, none, .op (.mov (.v 1))⟩, false, []⟩,
⟨1, ⟨.v 25, none, .op (.bin .gtr .i64 (.v 24) (.c (.int .i64 0)))⟩, false, []⟩,
⟨2, ⟨.v 26, none, .op (.mov (.v 25))⟩, false, []⟩,
⟨3, ⟨.v 27, some ((.v 26), true), .op (.mov (.v 4))⟩, false, []⟩,
⟨4, ⟨.v 28, some ((.v 26), true), .op (.mov (.v 0))⟩, false, []⟩,
⟨5, ⟨.v 29, some ((.v 26), true), .op (.mov (.v 1))⟩, false, []⟩,
⟨6, ⟨.v 30, some ((.v 26), true), .op (.bin .sub .i64 (.v 29) (.c (.int .i64 1)))⟩, false, []⟩,
⟨7, ⟨.v 31, some ((.v 26), true), .op (.ixa 4 (.v 28) (.v 30))⟩, false, []⟩,
⟨8, ⟨.v 32, some ((.v 26), true), .op (.ld true 4 (.v 31))⟩, false, []⟩,
⟨9, ⟨.v 33, some ((.v 26), true), .op (.mov (.v 0))⟩, false, []⟩,
⟨10, ⟨.v 34, some ((.v 26), true), .op (.mov (.v 8))⟩, false, []⟩,
⟨11, ⟨.v 35, some ((.v 26), true), .op (.ixa 4 (.v 33) (.v 34))⟩, false, []⟩,
⟨12, ⟨.v 36, some ((.v 26), true), .op (.ld true 4 (.v 35))⟩, false, []⟩,
⟨13, ⟨.v 37, some ((.v 26), true), .callv (.v 27) [(.v 32), (.v 36)]⟩, false, []⟩,
⟨14, ⟨.v 38, some ((.v 26), true), .op (.bin .lss .i64 (.v 37) (.c (.int .i64 0)))⟩, false, []⟩,
⟨15, ⟨.v 39, some ((.v 26), true), .op (.not (.v 38))⟩, false, []⟩,
⟨16, ⟨.v 22, none, .op (.pick (.v 26) (.v 39) (.c (.bool false)))⟩, false, []⟩]) (
.ite (.v 22) (
.seq (
.reg [⟨.l, none, .op (.mov (.v 0))⟩,
⟨.l, none, .op (.mov (.v 1))⟩,
⟨.l, none, .op (.mov (.v 2))⟩,
⟨.l, none, .op (.mov (.v 8))⟩,
⟨.l, none, .op (.mov (.v 4))⟩,
⟨.l, none, .call 145 [(.l 4), (.l 3), (.l 2), (.l 1), (.l 0)]⟩,
⟨.v 10, none, .op (.mov (.l 0))⟩]) (
.seq (
.reg [⟨.l, none, .op (.mov (.v 10))⟩,
⟨.v 1, none, .op (.mov (.l 0))⟩]) (
.exit 1))) (
.skip))) (
.seq (
.reg [⟨.l, none, .op (.mov (.v 0))⟩,
⟨.l, none, .op (.mov (.v 1))⟩,
⟨.l, none, .op (.mov (.v 2))⟩,
⟨.l, none, .op (.mov (.v 8))⟩,
⟨.l, none, .op (.mov (.v 4))⟩,
⟨.l, none, .call 146 [(.l 4), (.l 3), (.l 2), (.l 1), (.l 0)]⟩,
⟨.l, none, .op (.mov (.l 0))⟩,
⟨.l, none, .op (.ext (.l 0) 0)⟩,
⟨.l, none, .op (.ext (.l 1) 1)⟩,
⟨.v 11, none, .op (.mov (.l 1))⟩,
⟨.v 12, none, .op (.mov (.l 0))⟩]) (
.seq (
.reg [⟨.l, none, .op (.mov (.v 12))⟩,
⟨.v 6, none, .op (.mov (.l 0))⟩]) (
.seq (
.reg [⟨.l, none, .op (.mov (.v 11))⟩,
⟨.l, none, .op (.mov (.v 1))⟩,
⟨.l, none, .op (.bin .sub .i64 (.l 1) (.l 0))⟩,
⟨.l, none, .op (.mov (.v 2))⟩,
⟨.l, none, .op (.mov (.v 11))⟩,
⟨.l, none, .op (.bin .sub .i64 (.l 1) (.l 0))⟩,
⟨.v 13, none, .op (.mov (.l 3))⟩,
⟨.v 14, none, .op (.mov (.l 0))⟩]) (
.seq (
.reg [⟨.l, none, .op (.mov (.v 7))⟩,
⟨.l, none, .op (.bin .quo .i64 (.l 0) (.c (.int .i64 8)))⟩,
⟨.v 15, none, .op (.mov (.l 0))⟩]) (
.seq (
.reg [⟨.l, none, .op (.mov (.v 13))⟩,
⟨.l, none, .op (.mov (.v 14))⟩,
⟨.v 23, none, .op (.bin .lss .i64 (.l 1) (.l 0))⟩]) (
.ite (.v 23) (
.seq (
.reg [⟨.l, none, .op (.mov (.v 13))⟩,
⟨.l, none, .op (.mov (.v 15))⟩,
⟨.l, none, .op (.bin .geq .i64 (.l 1) (.l 0))⟩,
⟨.v 5, none, .op (.mov (.l 0))⟩]) (
.seq (
.reg [⟨.l, none, .op (.mov (.v 0))⟩,
⟨.l, none, .op (.mov (.v 1))⟩,
⟨.l, none, .op (.mov (.v 11))⟩,
⟨.l, none, .op (.mov (.v 3))⟩,
⟨.l, none, .op (.mov (.v 4))⟩,
⟨.l, none, .call 107 [(.l 4), (.l 3), (.l 2), (.l 1), (.l 0)]⟩]) (
.reg [⟨.l, none, .op (.mov (.v 11))⟩,
⟨.l, none, .op (.bin .add .i64 (.l 0) (.c (.int .i64 1)))⟩,
⟨.v 1, none, .op (.mov (.l 0))⟩]))) (
.seq (
.reg [⟨.l, none, .op (.mov (.v 14))⟩,
⟨.l, none, .op (.mov (.v 15))⟩,
⟨.l, none, .op (.bin .geq .i64 (.l 1) (.l 0))⟩,
⟨.v 5, none, .op (.mov (.l 0))⟩]) (
.seq (
.reg [⟨.l, none, .op (.mov (.v 0))⟩,
⟨.l, none, .op (.mov (.v 11))⟩,
⟨.l, none, .op (.bin .add .i64 (.l 0) (.c (.int .i64 1)))⟩,
⟨.l, none, .op (.mov (.v 2))⟩,
⟨.l, none, .op (.mov (.v 3))⟩,
⟨.l, none, .op (.mov (.v 4))⟩,
⟨.l, none, .call 107 [(.l 5), (.l 3), (.l 2), (.l 1), (.l 0)]⟩]) (
.reg [⟨.l, none, .op (.mov (.v 11))⟩,
⟨.v 2, none, .op (.mov (.l 0))⟩])))))))))))))))))))))⟩
/- 108 cmp.Compare[int] -/
def c_cmp_Compare_int : Ay.Fn := ⟨2, [some 0, some 1, none, none, none, none, none, none, none, none], [.v 2],
.seq (
.reg [⟨.v 2, none, .op (.mov (.c (.int .i64 0)))⟩]) (
.seq (
.reg [⟨.l, none, .op (.mov (.v 0))⟩,
⟨.l, none, .call 147 [(.l 0)]⟩,
⟨.v 3, none, .op (.mov (.l 0))⟩]) (
.seq (
.reg [⟨.l, none, .op (.mov (.v 1))⟩,
⟨.l, none, .call 147 [(.l 0)]⟩,
⟨.v 4, none, .op (.mov (.l 0))⟩]) (
.seq (
.seq (
.reg [⟨.v 5, none, .op (.mov (.v 3))⟩]) (
.ite (.v 5) (
.seq (
.seq (
.reg [⟨.v 6, none, .op (.mov (.v 4))⟩]) (
.ite (.v 6) (
.seq (
.reg [⟨.v 2, none, .op (.mov (.c (.int .i64 0)))⟩]) (
.ret)) (
.skip))) (
.seq (
.reg [⟨.v 2, none, .op (.mov (.c (.int .i64 (-1))))⟩]) (
.ret))) (
.skip))) (
.seq (
.seq (
.reg [⟨.v 7, none, .op (.mov (.v 4))⟩]) (
.ite (.v 7) (
.seq (
.reg [⟨.v 2, none, .op (.mov (.c (.int .i64 1)))⟩]) (
.ret)) (
.skip))) (
.seq (
.seq (
.reg [⟨.l, none, .op (.mov (.v 0))⟩,
⟨.l, none, .op (.mov (.v 1))⟩,
⟨.v 8, none, .op (.bin .lss .i64 (.l 1) (.l 0))⟩]) (
.ite (.v 8) (
.seq (
.reg [⟨.v 2, none, .op (.mov (.c (.int .i64 (-1))))⟩]) (
.ret)) (
.skip))) (
.seq (
.seq (
.reg [⟨.l, none, .op (.mov (.v 0))⟩,
⟨.l, none, .op (.mov (.v 1))⟩,
⟨.v 9, none, .op (.bin .gtr .i64 (.l 1) (.l 0))⟩]) (
.ite (.v 9) (
.seq (
.reg [⟨.v 2, none, .op (.mov (.c (.int .i64 1)))⟩]) (
.ret)) (
.skip))) (
.seq (
.reg [⟨.v 2, none, .op (.mov (.c (.int .i64 0)))⟩]) (
.ret))))))))⟩
/- 114 cayley/chain.newTower -/
def c_chain_newTower : Ay.Fn := ⟨1, [some 0, none, none, none, none, none, none, none], [.v 1],
.seq (
.reg [⟨.v 1, none, .op (.mov (.c .nilp))⟩]) (
.seq (
.reg [⟨.l, none, .op (.mov (.v 0))⟩,
⟨.l, none, .op (.mov (.v 0))⟩,
⟨.l, none, .op (.mks 194 3632 [.nils, .nils, .nils, .nils, .nils, .nils, .nils, .nils, .nils, .nils, .nils, .nils, .nils, .nils, .nils, .nils, .nils, .nils, .nils, .nils, .nils, .nils, .nils, .nils, .nils, .nils, .nils, .nils, .nils, .nils, .nils, .nils, .nils, .nils, .nils, .nils, .nils, .nils, .nils, .nils, .nils, .nils, .nils, .nils, .nils, .nils, .nils, .nils, .nils, .nils, .nils, .nils, .nils, .nils, .nils, .nils, .nils, .nils, .nils, .nils, .nils, .nils, .nils, .nils, .nils, .nils, .nils, .nils, .nils, .nils, .nils, .nils, .nils, .nils, .nils, .nils, .nils, .nils, .nils, .nils, .nils, .nils, .nils, .nils, .nils, .nils, .nils, .nils, .nils, .nils, .nils, .nils, .nils, .nils, .nils, .nils, .nils, .nils, .nils, .nils, .nils, .nils, .nils, .nils, .nils, .nils, .nils, .nils, .nils, .nils, .nils, .nils, .nils, .nils, .nils, .nils, .nils, .nils, .nils, .nils, .nils, .nils, .nils, .nils, .nils, .nils, .nils, .nils, .nils, .nils, (.int .i64 0), (.int .i64 0), (.int .i64 0), (.int .i64 0), (.int .i64 0), (.int .i64 0), (.int .i64 0), (.int .i64 0), (.int .i64 0), (.int .i64 0), (.int .i64 0), (.int .i64 0), (.int .i64 0), (.int .i64 0), (.int .i64 0), (.int .i64 0), (.int .i64 0), (.int .i64 0), (.int .i64 0), (.int .i64 0), (.int .i64 0), (.int .i64 0), (.int .i64 0), (.int .i64 0), (.int .i64 0), (.int .i64 0), (.int .i64 0), (.int .i64 0), (.int .i64 0), (.int .i64 0), (.int .i64 0), (.int .i64 0), (.int .i64 0), (.int .i64 0), (.int .i64 0), (.int .i64 0), (.int .i64 0), (.int .i64 0), (.int .i64 0), (.int .i64 0), (.int .i64 0), (.int .i64 0), (.int .i64 0), (.int .i64 0), (.int .i64 0), (.int .i64 0), (.int .i64 0), (.int .i64 0), (.int .i64 0), (.int .i64 0), (.int .i64 0), (.int .i64 0), (.int .i64 0), (.int .i64 0), (.int .i64 0), (.int .i64 0), (.int .i64 0), (.int .i64 0), (.int .i64 0), (.int .i64 0), (.int .i64 0), (.int .i64 0), (.int .i64 0), (.int .i64 0)] (.l 0) (.l 0))⟩,
⟨.l, none, .op (.bld [(.int .i64 0), .nils] [(0, 1, (.l 2)), (1, 1, (.l 0))])⟩,
⟨.l, none, .op (.box (.l 0))⟩,
⟨.v 2, none, .op (.mov (.l 0))⟩]) (
.seq (
.seq (
.reg [⟨.l, none, .op (.mov (.v 2))⟩,
⟨.l, none, .op (.nck (.l 0))⟩,
⟨.l, none, .op (.fla 1 (.l 0))⟩,
⟨.l, none, .op (.ld false 1 (.l 0))⟩,
⟨.v 5, none, .op (.lens (.l 0))⟩,
⟨.v 6, none, .op (.mov (.c (.int .i64 0)))⟩]) (
.block 0 (
.loop (
.seq (
.reg [⟨.v 7, none, .op (.bin .lss .i64 (.v 6) (.v 5))⟩]) (
.seq (
.ite (.v 7) (
.skip) (
.exit 0)) (
.seq (
.block 1 (
.seq (
.reg [⟨.l, none, .op (.mov (.v 6))⟩,
⟨.v 3, none, .op (.mov (.l 0))⟩]) (
.seq (
.reg [⟨.l, none, .op (.mov (.v 2))⟩,
⟨.l, none, .op (.nck (.l 0))⟩,
⟨.l, none, .op (.fla 1 (.l 0))⟩,
⟨.l, none, .op (.ld false 1 (.l 0))⟩,
⟨.l, none, .op (.mov (.v 3))⟩,
⟨.l, none, .op (.ixa 194 (.l 1) (.l 0))⟩,
⟨.v 4, none, .op (.mov (.l 0))⟩]) (
.seq (
.reg [⟨.l, none, .op (.mov (.v 4))⟩,
⟨.l, none, .op (.mov (.v 3))⟩,
⟨.l, none, .op (.bls 1 [(.int .i64 0)] 1 [(0, 1, (.l 0))])⟩,
⟨.l, none, .op (.nck (.l 2))⟩,
⟨.l, none, .op (.fla 1 (.l 0))⟩,
⟨.n, none, .op (.st 1 (.l 0) (.l 2))⟩]) (
.any 16 14 [⟨0, ⟨.v 8, none, .op (.mov (.v 4))⟩, false, []⟩,
⟨1, ⟨.v 9, none, .op (.mov (.v 3))⟩, false, []⟩,
⟨2, ⟨.v 10, none, .op (.mov (.v 4))⟩, false, []⟩,
⟨3, ⟨.v 11, none, .op (.mov (.v 3))⟩, false, []⟩,
⟨4, ⟨.v 12, none, .op (.mov (.v 0))⟩, false, []⟩,
⟨6, ⟨.v 14, none, .op (.mov (.v 0))⟩, false, []⟩,
⟨8, ⟨.v 16, none, .op (.nck (.v 8))⟩, false, []⟩,
⟨9, ⟨.v 17, none, .op (.fla 2 (.v 16))⟩, false, []⟩,
⟨12, ⟨.v 19, none, .op (.nck (.v 10))⟩, false, []⟩,
⟨13, ⟨.v 20, none, .op (.fla 66 (.v 19))⟩, false, []⟩,
⟨5, ⟨.v 13, none, .call 148 [(.v 12)]⟩, false, []⟩,
⟨7, ⟨.v 15, none, .call 148 [(.v 14)]⟩, false, []⟩,
⟨10, ⟨.v 18, none, .op (.ixd 64 1 (.v 17) (.v 9))⟩, false, []⟩,
⟨11, ⟨.n, none, .op (.st 1 (.v 18) (.v 13))⟩, false, []⟩,
⟨14, ⟨.v 21, none, .op (.ixd 64 1 (.v 20) (.v 11))⟩, false, []⟩,
⟨15, ⟨.n, none, .op (.st 1 (.v 21) (.v 15))⟩, false, []⟩]))))) (
.reg [⟨.l, none, .op (.bin .add .i64 (.v 6) (.c (.int .i64 1)))⟩,
⟨.v 6, none, .op (.mov (.l 0))⟩]))))))) (
.seq (
.reg [⟨.l, none, .op (.mov (.v 2))⟩,
⟨.v 1, none, .op (.mov (.l 0))⟩]) (
.ret))))⟩
/- 115 (ptr cayley/chain.tower).add -/
def c_chain_tower_add : Ay.Fn := ⟨3, [some 0, some 1, some 2, none, none, none, none, none, none, none], [],
.seq (
.reg [⟨.l, none, .op (.mov (.v 0))⟩,
⟨.l, none, .op (.mov (.v 1))⟩,
⟨.l, none, .op (.mov (.v 2))⟩,
⟨.l, none, .call 149 [(.l 2), (.l 1), (.l 0)]⟩,
⟨.l, none, .op (.mov (.l 0))⟩,
⟨.l, none, .op (.ext (.l 0) 0)⟩,
⟨.l, none, .op (.ext (.l 1) 1)⟩,
⟨.v 3, none, .op (.mov (.l 1))⟩,
⟨.v 4, none, .op (.mov (.l 0))⟩]) (
.seq (
.seq (
.reg [⟨.l, none, .op (.mov (.v 3))⟩,
⟨.l, none, .op (.mov (.v 0))⟩,
⟨.l, none, .op (.nck (.l 0))⟩,
⟨.l, none, .op (.fla 0 (.l 0))⟩,
⟨.l, none, .op (.ld false 1 (.l 0))⟩,
⟨.v 7, none, .op (.bin .eql .i64 (.l 4) (.l 0))⟩]) (
.ite (.v 7) (
.ret) (
.skip))) (
.seq (
.seq (
.reg [⟨.l, none, .op (.mov (.v 2))⟩,
⟨.v 5, none, .op (.mov (.l 0))⟩]) (
.block 0 (
.loop (
.seq (
.seq (
.reg [⟨.l, none, .op (.mov (.v 5))⟩,
⟨.l, none, .op (.mov (.v 3))⟩,
⟨.v 8, none, .op (.bin .leq .i64 (.l 1) (.l 0))⟩]) (
.ite (.v 8) (
.skip) (
.exit 0))) (
.seq (
.block 1 (
.any 19 18 [⟨0, ⟨.v 10, none, .op (.mov (.v 0))⟩, false, []⟩,
⟨1, ⟨.v 11, none, .op (.nck (.v 10))⟩, false, []⟩,
⟨2, ⟨.v 12, none, .op (.fla 1 (.v 11))⟩, false, []⟩,
⟨3, ⟨.v 13, none, .op (.ld false 1 (.v 12))⟩, false, []⟩,
⟨4, ⟨.v 14, none, .op (.mov (.v 5))⟩, false, []⟩,
⟨5, ⟨.v 15, none, .op (.mov (.v 0))⟩, false, []⟩,
⟨6, ⟨.v 16, none, .op (.nck (.v 15))⟩, false, []⟩,
⟨7, ⟨.v 17, none, .op (.fla 1 (.v 16))⟩, false, []⟩,
⟨8, ⟨.v 18, none, .op (.ld false 1 (.v 17))⟩, false, []⟩,
⟨9, ⟨.v 19, none, .op (.mov (.v 5))⟩, false, []⟩,
⟨10, ⟨.v 20, none, .op (.ixa 194 (.v 18) (.v 19))⟩, false, []⟩,
⟨11, ⟨.v 21, none, .op (.fla 0 (.v 20))⟩, false, []⟩,
⟨12, ⟨.v 22, none, .op (.ld false 1 (.v 21))⟩, false, []⟩,
⟨13, ⟨.v 23, none, .op (.mov (.v 4))⟩, false, []⟩,
⟨14, ⟨.v 24, none, .op (.bls 1 [.nils] 1 [(0, 1, (.v 23))])⟩, true, []⟩,
⟨15, ⟨.v 25, none, .op (.app 1 24 (.v 22) (.v 24))⟩, false, [3]⟩,
⟨16, ⟨.v 26, none, .op (.ixa 194 (.v 13) (.v 14))⟩, false, []⟩,
⟨17, ⟨.v 27, none, .op (.fla 0 (.v 26))⟩, false, []⟩,
⟨18, ⟨.n, none, .op (.st 1 (.v 27) (.v 25))⟩, false, []⟩])) (
.reg [⟨.l, none, .op (.mov (.v 5))⟩,
⟨.l, none, .op (.bin .add .i64 (.l 0) (.c (.int .i64 1)))⟩,
⟨.v 5, none, .op (.mov (.l 0))⟩])))))) (
.seq (
.reg [⟨.l, none, .op (.mov (.v 3))⟩,
⟨.v 6, none, .op (.mov (.l 0))⟩]) (
.block 2 (
.loop (
.seq (
.seq (
.reg [⟨.l, none, .op (.mov (.v 6))⟩,
⟨.l, none, .op (.mov (.v 2))⟩,
⟨.v 9, none, .op (.bin .geq .i64 (.l 1) (.l 0))⟩]) (
.ite (.v 9) (
.skip) (
.exit 2))) (
.seq (
.block 3 (
.reg [⟨.l, none, .op (.mov (.v 0))⟩,
⟨.l, none, .op (.mov (.v 6))⟩,
⟨.l, none, .call 150 [(.l 1), (.l 0)]⟩])) (
.reg [⟨.l, none, .op (.mov (.v 6))⟩,
⟨.l, none, .op (.bin .sub .i64 (.l 0) (.c (.int .i64 1)))⟩,
⟨.v 6, none, .op (.mov (.l 0))⟩]))))))))⟩
/- 116 slices.Sorted[int] -/
def c_slices_Sorted_int : Ay.Fn := ⟨1, [some 0, none, none], [.v 1],
.seq (
.reg [⟨.v 1, none, .op (.mov (.c .nils))⟩]) (
.seq (
.reg [⟨.l, none, .op (.mov (.v 0))⟩,
⟨.l, none, .call 151 [(.l 0)]⟩,
⟨.v 2, none, .op (.mov (.l 0))⟩]) (
.seq (
.reg [⟨.l, none, .op (.mov (.v 2))⟩,
⟨.l, none, .call 72 [(.l 0)]⟩]) (
.seq (
.reg [⟨.l, none, .op (.mov (.v 2))⟩,
⟨.v 1, none, .op (.mov (.l 0))⟩]) (
.ret))))⟩
/- 117 slices.Values[[]int,int] -/
def c_slices_Values_int_int : Ay.Fn := ⟨1, [some 0, none, none], [.v 2],
.seq (
.reg [⟨.v 1, none, .op (.box (.v 0))⟩,
⟨.v 2, none, .op (.mov (.c .nilf))⟩]) (
.seq (
.reg [⟨.l, none, .op (.mkf 152 [] [(.v 1)])⟩,
⟨.v 2, none, .op (.mov (.l 0))⟩]) (
.ret))⟩
/- 118 (ptr cayley/chain.tower).least -/
def c_chain_tower_least : Ay.Fn := ⟨3, [some 0, some 1, some 2, none, none, none, none, none, none, none, none, none, none, none], [.v 3],
.seq (
.reg [⟨.v 3, none, .op (.mov (.c .nils))⟩]) (
.seq (
.seq (
.reg [⟨.l, none, .op (.mov (.v 2))⟩,
⟨.l, none, .op (.bin .add .i64 (.l 0) (.c (.int .i64 1)))⟩,
⟨.v 4, none, .op (.mov (.l 0))⟩]) (
.block 0 (
.loop (
.seq (
.seq (
.reg [⟨.l, none, .op (.mov (.v 4))⟩,
⟨.l, none, .op (.mov (.v 0))⟩,
⟨.l, none, .op (.nck (.l 0))⟩,
⟨.l, none, .op (.fla 0 (.l 0))⟩,
⟨.l, none, .op (.ld false 1 (.l 0))⟩,
⟨.v 7, none, .op (.bin .lss .i64 (.l 4) (.l 0))⟩]) (
.ite (.v 7) (
.skip) (
.exit 0))) (
.seq (
.block 1 (
.seq (
.reg [⟨.l, none, .op (.mov (.v 4))⟩,
⟨.v 5, none, .op (.mov (.l 0))⟩]) (
.seq (
.seq (
.reg [⟨.l, none, .op (.mov (.v 0))⟩,
⟨.l, none, .op (.nck (.l 0))⟩,
⟨.l, none, .op (.fla 1 (.l 0))⟩,
⟨.l, none, .op (.ld false 1 (.l 0))⟩,
⟨.l, none, .op (.mov (.v 4))⟩,
⟨.l, none, .op (.ixa 194 (.l 1) (.l 0))⟩,
⟨.l, none, .op (.fla 1 (.l 0))⟩,
⟨.v 8, none, .op (.ld false 1 (.l 0))⟩,
⟨.v 9, none, .op (.lens (.v 8))⟩,
⟨.v 10, none, .op (.mov (.c (.int .i64 0)))⟩]) (
.block 2 (
.loop (
.seq (
.reg [⟨.v 11, none, .op (.bin .lss .i64 (.v 10) (.v 9))⟩]) (
.seq (
.ite (.v 11) (
.skip) (
.exit 2)) (
.seq (
.block 3 (
.seq (
.reg [⟨.l, none, .op (.ixa 1 (.v 8) (.v 10))⟩,
⟨.l, none, .op (.ld false 1 (.l 0))⟩,
⟨.v 6, none, .op (.mov (.l 0))⟩]) (
.seq (
.any 9 8 [⟨0, ⟨.v 14, none, .op (.mov (.v 1))⟩, false, []⟩,
⟨1, ⟨.v 15, none, .op (.mov (.v 6))⟩, false, []⟩,
⟨2, ⟨.v 16, none, .op (.ixa 1 (.v 14) (.v 15))⟩, false, []⟩,
⟨3, ⟨.v 17, none, .op (.ld false 1 (.v 16))⟩, false, []⟩,
⟨4, ⟨.v 18, none, .op (.mov (.v 1))⟩, false, []⟩,
⟨5, ⟨.v 19, none, .op (.mov (.v 5))⟩, false, []⟩,
⟨6, ⟨.v 20, none, .op (.ixa 1 (.v 18) (.v 19))⟩, false, []⟩,
⟨7, ⟨.v 21, none, .op (.ld false 1 (.v 20))⟩, false, []⟩,
⟨8, ⟨.v 12, none, .op (.bin .lss .i64 (.v 17) (.v 21))⟩, false, []⟩]) (
.ite (.v 12) (
.reg [⟨.l, none, .op (.mov (.v 6))⟩,
⟨.v 5, none, .op (.mov (.l 0))⟩]) (
.skip))))) (
.reg [⟨.l, none, .op (.bin .add .i64 (.v 10) (.c (.int .i64 1)))⟩,
⟨.v 10, none, .op (.mov (.l 0))⟩]))))))) (
.seq (
.reg [⟨.l, none, .op (.mov (.v 5))⟩,
⟨.l, none, .op (.mov (.v 4))⟩,
⟨.v 13, none, .op (.bin .neq .i64 (.l 1) (.l 0))⟩]) (
.ite (.v 13) (
.reg [⟨.l, none, .op (.mov (.v 0))⟩,
⟨.l, none, .op (.nck (.l 0))⟩,
⟨.l, none, .op (.fla 1 (.l 0))⟩,
⟨.l, none, .op (.ld false 1 (.l 0))⟩,
⟨.l, none, .op (.mov (.v 4))⟩,
⟨.l, none, .op (.mov (.v 5))⟩,
⟨.l, none, .op (.ixa 194 (.l 2) (.l 1))⟩,
⟨.l, none, .op (.fla 2 (.l 0))⟩,
⟨.l, none, .op (.ixd 64 1 (.l 0) (.l 2))⟩,
⟨.l, none, .op (.ld false 1 (.l 0))⟩,
⟨.l, none, .op (.mov (.v 1))⟩,
⟨.l, none, .call 121 [(.l 1), (.l 0)]⟩,
⟨.v 1, none, .op (.mov (.l 0))⟩]) (
.skip)))))) (
.reg [⟨.l, none, .op (.mov (.v 4))⟩,
⟨.l, none, .op (.bin .add .i64 (.l 0) (.c (.int .i64 1)))⟩,
⟨.v 4, none, .op (.mov (.l 0))⟩])))))) (
.seq (
.reg [⟨.l, none, .op (.mov (.v 1))⟩,
⟨.v 3, none, .op (.mov (.l 0))⟩]) (
.ret)))⟩
/- 119 cayley/chain.same -/
def c_chain_same : Ay.Fn := ⟨2, [some 0, some 1, none, none, none], [.v 4],
.seq (
.reg [⟨.v 2, none, .op (.box (.v 0))⟩,
⟨.v 3, none, .op (.box (.v 1))⟩,
⟨.v 4, none, .op (.mov (.c (.bool false)))⟩]) (
.seq (
.reg [⟨.l, none, .op (.fla 0 (.v 2))⟩,
⟨.l, none, .op (.ld false 1 (.l 0))⟩,
⟨.l, none, .op (.fla 0 (.v 3))⟩,
⟨.l, none, .op (.ld false 1 (.l 0))⟩,
⟨.l, none, .op (.bin .eql .i64 (.l 2) (.l 0))⟩,
⟨.l, none, .op (.mov (.l 0))⟩,
⟨.l, some ((.l 0), true), .op (.fla 1 (.v 2))⟩,
⟨.l, some ((.l 1), true), .op (.ld false 1 (.l 0))⟩,
⟨.l, some ((.l 2), true), .op (.fla 1 (.v 3))⟩,
⟨.l, some ((.l 3), true), .op (.ld false 1 (.l 0))⟩,
⟨.l, some ((.l 4), true), .call 153 [(.l 2), (.l 0), (.c (.fn 154 [] []))]⟩,
⟨.l, none, .op (.pick (.l 5) (.l 0) (.c (.bool false)))⟩,
⟨.l, none, .op (.mov (.l 0))⟩,
⟨.l, some ((.l 0), true), .op (.fla 2 (.v 2))⟩,
⟨.l, some ((.l 1), true), .op (.ld false 1 (.l 0))⟩,
⟨.l, some ((.l 2), true), .op (.fla 2 (.v 3))⟩,
⟨.l, some ((.l 3), true), .op (.ld false 1 (.l 0))⟩,
⟨.l, some ((.l 4), true), .call 155 [(.l 2), (.l 0), (.c (.fn 156 [] []))]⟩,
⟨.l, none, .op (.pick (.l 5) (.l 0) (.c (.bool false)))⟩,
⟨.v 4, none, .op (.mov (.l 0))⟩]) (
.ret))⟩
/- 120 slices.BinarySearch[[]int,int] -/
def c_slices_BinarySearch_int_int : Ay.Fn := ⟨2, [some 0, some 1, none, none, none, none, none, none, none, none], [.v 2, .v 3],
.seq (
.reg [⟨.v 2, none, .op (.mov (.c (.int .i64 0)))⟩,
⟨.v 3, none, .op (.mov (.c (.bool false)))⟩]) (
.seq (
.reg [⟨.l, none, .op (.mov (.v 0))⟩,
⟨.l, none, .op (.lens (.l 0))⟩,
⟨.v 4, none, .op (.mov (.l 0))⟩]) (
.seq (
.reg [⟨.l, none, .op (.mov (.v 4))⟩,
⟨.v 5, none, .op (.mov (.c (.int .i64 0)))⟩,
⟨.v 6, none, .op (.mov (.l 0))⟩]) (
.seq (
.block 0 (
.loop (
.seq (
.seq (
.reg [⟨.l, none, .op (.mov (.v 5))⟩,
⟨.l, none, .op (.mov (.v 6))⟩,
⟨.v 8, none, .op (.bin .lss .i64 (.l 1) (.l 0))⟩]) (
.ite (.v 8) (
.skip) (
.exit 0))) (
.block 1 (
.seq (
.reg [⟨.l, none, .op (.mov (.v 5))⟩,
⟨.l, none, .op (.mov (.v 6))⟩,
⟨.l, none, .op (.bin .add .i64 (.l 1) (.l 0))⟩,
⟨.l, none, .op (.conv .u64 (.l 0))⟩,
⟨.l, none, .op (.shf .shr .u64 (.l 0) (.c (.int .u64 1)))⟩,
⟨.l, none, .op (.conv .i64 (.l 0))⟩,
⟨.v 7, none, .op (.mov (.l 0))⟩]) (
.seq (
.reg [⟨.l, none, .op (.mov (.v 0))⟩,
⟨.l, none, .op (.mov (.v 7))⟩,
⟨.l, none, .op (.ixa 1 (.l 1) (.l 0))⟩,
⟨.l, none, .op (.ld false 1 (.l 0))⟩,
⟨.l, none, .op (.mov (.v 1))⟩,
⟨.v 9, none, .call 133 [(.l 1), (.l 0)]⟩]) (
.ite (.v 9) (
.reg [⟨.l, none, .op (.mov (.v 7))⟩,
⟨.l, none, .op (.bin .add .i64 (.l 0) (.c (.int .i64 1)))⟩,
⟨.v 5, none, .op (.mov (.l 0))⟩]) (
.reg [⟨.l, none, .op (.mov (.v 7))⟩,
⟨.v 6, none, .op (.mov (.l 0))⟩])))))))) (
.seq (
.reg [⟨.l, none, .op (.mov (.v 5))⟩,
⟨.l, none, .op (.mov (.v 5))⟩,
⟨.l, none, .op (.mov (.v 4))⟩,
⟨.l, none, .op (.bin .lss .i64 (.l 1) (.l 0))⟩,
⟨.l, none, .op (.mov (.l 0))⟩,
⟨.l, some ((.l 0), true), .op (.mov (.v 0))⟩,
⟨.l, some ((.l 1), true), .op (.mov (.v 5))⟩,
⟨.l, some ((.l 2), true), .op (.ixa 1 (.l 1) (.l 0))⟩,
⟨.l, some ((.l 3), true), .op (.ld false 1 (.l 0))⟩,
⟨.l, some ((.l 4), true), .op (.mov (.v 1))⟩,
⟨.l, some ((.l 5), true), .op (.bin .eql .i64 (.l 1) (.l 0))⟩,
⟨.l, some ((.l 6), true), .op (.mov (.l 0))⟩,
⟨.l, some ((.l 0), false), .op (.mov (.v 0))⟩,
⟨.l, some ((.l 1), false), .op (.mov (.v 5))⟩,
⟨.l, some ((.l 2), false), .op (.ixa 1 (.l 1) (.l 0))⟩,
⟨.l, some ((.l 3), false), .op (.ld false 1 (.l 0))⟩,
⟨.l, some ((.l 4), false), .call 160 [(.l 0)]⟩,
⟨.l, some ((.l 5), false), .op (.mov (.l 0))⟩,
⟨.l, some ((.l 0), true), .op (.mov (.v 1))⟩,
⟨.l, some ((.l 1), true), .call 160 [(.l 0)]⟩,
⟨.l, some ((.l 8), false), .op (.pick (.l 2) (.l 0) (.c (.bool false)))⟩,
⟨.l, some ((.l 16), true), .op (.pick (.l 9) (.c (.bool true)) (.l 0))⟩,
⟨.l, none, .op (.pick (.l 17) (.l 0) (.c (.bool false)))⟩,
⟨.v 2, none, .op (.mov (.l 22))⟩,
⟨.v 3, none, .op (.mov (.l 0))⟩]) (
.ret)))))⟩
/- 121 cayley/chain.mul -/
def c_chain_mul : Ay.Fn := ⟨2, [some 0, some 1, none, none, none, none, none, none, none, none], [.v 2],
.seq (
.reg [⟨.v 2, none, .op (.mov (.c .nils))⟩]) (
.seq (
.reg [⟨.l, none, .op (.mov (.v 0))⟩,
⟨.l, none, .op (.lens (.l 0))⟩,
⟨.l, none, .op (.mks 1 8 [(.int .i64 0)] (.l 0) (.l 0))⟩,
⟨.v 3, none, .op (.mov (.l 0))⟩]) (
.seq (
.seq (
.reg [⟨.v 6, none, .op (.mov (.v 0))⟩,
⟨.v 7, none, .op (.lens (.v 6))⟩,
⟨.v 8, none, .op (.mov (.c (.int .i64 0)))⟩]) (
.block 0 (
.loop (
.seq (
.reg [⟨.v 9, none, .op (.bin .lss .i64 (.v 8) (.v 7))⟩]) (
.seq (
.ite (.v 9) (
.skip) (
.exit 0)) (
.seq (
.block 1 (
.seq (
.reg [⟨.l, none, .op (.mov (.v 8))⟩,
⟨.l, none, .op (.ixa 1 (.v 6) (.v 8))⟩,
⟨.l, none, .op (.ld false 1 (.l 0))⟩,
⟨.v 4, none, .op (.mov (.l 2))⟩,
⟨.v 5, none, .op (.mov (.l 0))⟩]) (
.reg [⟨.l, none, .op (.mov (.v 3))⟩,
⟨.l, none, .op (.mov (.v 4))⟩,
⟨.l, none, .op (.mov (.v 1))⟩,
⟨.l, none, .op (.mov (.v 5))⟩,
⟨.l, none, .op (.ixa 1 (.l 1) (.l 0))⟩,
⟨.l, none, .op (.ld false 1 (.l 0))⟩,
⟨.l, none, .op (.ixa 1 (.l 5) (.l 4))⟩,
⟨.n, none, .op (.st 1 (.l 0) (.l 1))⟩]))) (
.reg [⟨.l, none, .op (.bin .add .i64 (.v 8) (.c (.int .i64 1)))⟩,
⟨.v 8, none, .op (.mov (.l 0))⟩]))))))) (
.seq (
.reg [⟨.l, none, .op (.mov (.v 3))⟩,
⟨.v 2, none, .op (.mov (.l 0))⟩]) (
.ret))))⟩
/- 122 cayley/chain.inv -/
def c_chain_inv : Ay.Fn := ⟨1, [some 0, none, none, none, none, none, none, none, none], [.v 1],
.seq (
.reg [⟨.v 1, none, .op (.mov (.c .nils))⟩]) (
.seq (
.reg [⟨.l, none, .op (.mov (.v 0))⟩,
⟨.l, none, .op (.lens (.l 0))⟩,
⟨.l, none, .op (.mks 1 8 [(.int .i64 0)] (.l 0) (.l 0))⟩,
⟨.v 2, none, .op (.mov (.l 0))⟩]) (
.seq (
.seq (
.reg [⟨.v 5, none, .op (.mov (.v 0))⟩,
⟨.v 6, none, .op (.lens (.v 5))⟩,
⟨.v 7, none, .op (.mov (.c (.int .i64 0)))⟩]) (
.block 0 (
.loop (
.seq (
.reg [⟨.v 8, none, .op (.bin .lss .i64 (.v 7) (.v 6))⟩]) (
.seq (
.ite (.v 8) (
.skip) (
.exit 0)) (
.seq (
.block 1 (
.seq (
.reg [⟨.l, none, .op (.mov (.v 7))⟩,
⟨.l, none, .op (.ixa 1 (.v 5) (.v 7))⟩,
⟨.l, none, .op (.ld false 1 (.l 0))⟩,
⟨.v 3, none, .op (.mov (.l 2))⟩,
⟨.v 4, none, .op (.mov (.l 0))⟩]) (
.reg [⟨.l, none, .op (.mov (.v 2))⟩,
⟨.l, none, .op (.mov (.v 4))⟩,
⟨.l, none, .op (.mov (.v 3))⟩,
⟨.l, none, .op (.ixa 1 (.l 2) (.l 1))⟩,
⟨.n, none, .op (.st 1 (.l 0) (.l 1))⟩]))) (
.reg [⟨.l, none, .op (.bin .add .i64 (.v 7) (.c (.int .i64 1)))⟩,
⟨.v 7, none, .op (.mov (.l 0))⟩]))))))) (
.seq (
.reg [⟨.l, none, .op (.mov (.v 2))⟩,
⟨.v 1, none, .op (.mov (.l 0))⟩]) (
.ret))))⟩
/- 123 cayley/chain.reps part 1 -/
def c_chain_reps_1 : Ay.Fn := ⟨2, [some 0, some 1, none, none, none, none, none, none, none], [],
.seq (
.reg [⟨.l, none, .op (.fla 2 (.v 1))⟩,
⟨.v 4, none, .op (.ld false 1 (.l 0))⟩,
⟨.v 5, none, .op (.lens (.v 4))⟩,
⟨.v 6, none, .op (.mov (.c (.int .i64 0)))⟩]) (
.block 0 (
.loop (
.seq (
.reg [⟨.v 7, none, .op (.bin .lss .i64 (.v 6) (.v 5))⟩]) (
.seq (
.ite (.v 7) (
.skip) (
.exit 0)) (
.seq (
.block 1 (
.seq (
.reg [⟨.l, none, .op (.mov (.v 6))⟩,
⟨.l, none, .op (.ixa 1 (.v 4) (.v 6))⟩,
⟨.l, none, .op (.ld false 1 (.l 0))⟩,
⟨.v 2, none, .op (.mov (.l 2))⟩,
⟨.v 3, none, .op (.mov (.l 0))⟩]) (
.seq (
.reg [⟨.l, none, .op (.mov (.v 0))⟩,
⟨.l, none, .op (.mov (.v 2))⟩,
⟨.l, none, .op (.mov (.v 3))⟩,
⟨.l, none, .callv (.l 2) [(.l 1), (.l 0)]⟩,
⟨.v 8, none, .op (.not (.l 0))⟩]) (
.ite (.v 8) (
.ret) (
.skip))))) (
.reg [⟨.l, none, .op (.bin .add .i64 (.v 6) (.c (.int .i64 1)))⟩,
⟨.v 6, none, .op (.mov (.l 0))⟩]))))))⟩
/- 124 cayley/rank.elements part 1 -/
def c_rank_elements_1 : Ay.Fn := ⟨4, [some 0, some 1, some 2, some 3, none, none, none, none, none, none, none, none, none, none, none], [],
.seq (
.reg [⟨.v 4, none, .op (.box (.v 0))⟩]) (
.seq (
.seq (
.reg [⟨.l, none, .op (.ld false 1 (.v 1))⟩,
⟨.l, none, .op (.fla 0 (.v 2))⟩,
⟨.l, none, .op (.ld false 1 (.l 0))⟩,
⟨.v 7, none, .op (.bin .eql .i64 (.l 2) (.l 0))⟩]) (
.ite (.v 7) (
.seq (
.reg [⟨.l, none, .op (.ld false 1 (.v 4))⟩,
⟨.l, none, .op (.ld false 1 (.v 3))⟩,
⟨.l, none, .callv (.l 1) [(.l 0)]⟩]) (
.ret)) (
.skip))) (
.seq (
.reg [⟨.l, none, .op (.ld true 3 (.v 2))⟩,
⟨.l, none, .op (.ld false 1 (.v 3))⟩,
⟨.l, none, .op (.ld false 1 (.v 1))⟩,
⟨.v 8, none, .call 125 [(.l 2), (.l 1), (.l 0)]⟩,
⟨.v 9, none, .op (.lens (.v 8))⟩,
⟨.v 10, none, .op (.mov (.c (.int .i64 0)))⟩]) (
.block 0 (
.loop (
.seq (
.reg [⟨.v 11, none, .op (.bin .lss .i64 (.v 10) (.v 9))⟩]) (
.seq (
.ite (.v 11) (
.skip) (
.exit 0)) (
.seq (
.block 1 (
.seq (
.reg [⟨.l, none, .op (.ixa 1 (.v 8) (.v 10))⟩,
⟨.l, none, .op (.ld false 1 (.l 0))⟩,
⟨.v 5, none, .op (.mov (.l 0))⟩]) (
.seq (
.any 9 8 [⟨0, ⟨.v 15, none, .op (.ld true 3 (.v 2))⟩, false, []⟩,
⟨1, ⟨.v 16, none, .op (.ld true 3 (.v 2))⟩, false, []⟩,
⟨2, ⟨.v 17, none, .op (.ld false 1 (.v 3))⟩, false, []⟩,
⟨3, ⟨.v 18, none, .op (.ld false 1 (.v 1))⟩, false, []⟩,
⟨4, ⟨.v 19, none, .op (.mov (.v 5))⟩, false, []⟩,
⟨6, ⟨.v 21, none, .op (.ld false 1 (.v 1))⟩, false, []⟩,
⟨7, ⟨.v 22, none, .op (.bin .add .i64 (.v 21) (.c (.int .i64 1)))⟩, false, []⟩,
⟨5, ⟨.v 20, none, .call 126 [(.v 16), (.v 17), (.v 18), (.v 19)]⟩, false, [6, 0]⟩,
⟨8, ⟨.v 12, none, .call 100 [(.v 15), (.v 20), (.v 22)]⟩, false, []⟩]) (
.block 2 (
.range (.v 12) [13] (
.reg [⟨.v 6, none, .op (.mov (.v 13))⟩]) (
.block 3 (
.seq (
.reg [⟨.l, none, .op (.ld false 1 (.v 4))⟩,
⟨.l, none, .op (.mov (.v 6))⟩,
⟨.l, none, .callv (.l 1) [(.l 0)]⟩,
⟨.v 14, none, .op (.not (.l 0))⟩]) (
.ite (.v 14) (
.ret) (
.skip))))))))) (
.reg [⟨.l, none, .op (.bin .add .i64 (.v 10) (.c (.int .i64 1)))⟩,
⟨.v 10, none, .op (.mov (.l 0))⟩]))))))))⟩
/- 125 cayley/rank.choices -/
def c_rank_choices : Ay.Fn := ⟨3, [some 0, some 1, some 2, none, none, none, none, none, none, none, none], [.v 4],
.seq (
.reg [⟨.v 3, none, .op (.box (.v 0))⟩,
⟨.v 4, none, .op (.mov (.c .nils))⟩]) (
.seq (
.reg [⟨.l, none, .op (.fla 1 (.v 3))⟩,
⟨.l, none, .op (.ld false 1 (.l 0))⟩,
⟨.l, none, .op (.mov (.v 2))⟩,
⟨.l, none, .op (.ixa 1 (.l 1) (.l 0))⟩,
⟨.l, none, .op (.ld false 1 (.l 0))⟩,
⟨.l, none, .op (.lens (.l 0))⟩,
⟨.l, none, .op (.mks 1 8 [(.int .i64 0)] (.c (.int .i64 0)) (.l 0))⟩,
⟨.v 5, none, .op (.mov (.l 0))⟩]) (
.seq (
.seq (
.reg [⟨.l, none, .op (.fla 1 (.v 3))⟩,
⟨.l, none, .op (.ld false 1 (.l 0))⟩,
⟨.l, none, .op (.mov (.v 2))⟩,
⟨.l, none, .op (.ixa 1 (.l 1) (.l 0))⟩,
⟨.v 7, none, .op (.ld false 1 (.l 0))⟩,
⟨.v 8, none, .op (.lens (.v 7))⟩,
⟨.v 9, none, .op (.mov (.c (.int .i64 0)))⟩]) (
.block 0 (
.loop (
.seq (
.reg [⟨.v 10, none, .op (.bin .lss .i64 (.v 9) (.v 8))⟩]) (
.seq (
.ite (.v 10) (
.skip) (
.exit 0)) (
.seq (
.block 1 (
.seq (
.reg [⟨.l, none, .op (.ixa 1 (.v 7) (.v 9))⟩,
⟨.l, none, .op (.ld false 1 (.l 0))⟩,
⟨.v 6, none, .op (.mov (.l 0))⟩]) (
.reg [⟨.l, none, .op (.mov (.v 5))⟩,
⟨.l, none, .op (.mov (.v 1))⟩,
⟨.l, none, .op (.mov (.v 6))⟩,
⟨.l, none, .op (.ixa 1 (.l 1) (.l 0))⟩,
⟨.l, none, .op (.ld false 1 (.l 0))⟩,
⟨.l, none, .op (.bls 1 [(.int .i64 0)] 1 [(0, 1, (.l 0))])⟩,
⟨.l, none, .op (.app 1 8 (.l 5) (.l 0))⟩,
⟨.v 5, none, .op (.mov (.l 0))⟩]))) (
.reg [⟨.l, none, .op (.bin .add .i64 (.v 9) (.c (.int .i64 1)))⟩,
⟨.v 9, none, .op (.mov (.l 0))⟩]))))))) (
.seq (
.reg [⟨.l, none, .op (.mov (.v 5))⟩,
⟨.l, none, .call 72 [(.l 0)]⟩]) (
.seq (
.reg [⟨.l, none, .op (.mov (.v 5))⟩,
⟨.v 4, none, .op (.mov (.l 0))⟩]) (
.ret)))))⟩
/- 126 cayley/rank.step -/
def c_rank_step : Ay.Fn := ⟨4, [some 0, some 1, some 2, some 3, none, none, none, none, none], [.v 7],
.seq (
.reg [⟨.v 4, none, .op (.box (.v 0))⟩,
⟨.v 5, none, .op (.box (.v 1))⟩,
⟨.v 6, none, .op (.box (.v 3))⟩,
⟨.v 7, none, .op (.mov (.c .nils))⟩]) (
.seq (
.reg [⟨.l, none, .op (.fla 1 (.v 4))⟩,
⟨.l, none, .op (.ld false 1 (.l 0))⟩,
⟨.l, none, .op (.mov (.v 2))⟩,
⟨.l, none, .op (.ixa 1 (.l 1) (.l 0))⟩,
⟨.l, none, .op (.ld false 1 (.l 0))⟩,
⟨.l, none, .op (.mkf 162 [] [(.v 5), (.v 6)])⟩,
⟨.l, none, .call 161 [(.l 1), (.l 0)]⟩,
⟨.v 8, none, .op (.mov (.l 0))⟩]) (
.seq (
.any 11 10 [⟨0, ⟨.v 9, none, .op (.fla 2 (.v 4))⟩, false, []⟩,
⟨1, ⟨.v 10, none, .op (.ld false 1 (.v 9))⟩, false, []⟩,
⟨2, ⟨.v 11, none, .op (.mov (.v 2))⟩, false, []⟩,
⟨3, ⟨.v 12, none, .op (.ixa 1 (.v 10) (.v 11))⟩, false, []⟩,
⟨4, ⟨.v 13, none, .op (.ld false 1 (.v 12))⟩, false, []⟩,
⟨5, ⟨.v 14, none, .op (.mov (.v 8))⟩, false, []⟩,
⟨6, ⟨.v 15, none, .op (.ixa 1 (.v 13) (.v 14))⟩, false, []⟩,
⟨7, ⟨.v 16, none, .op (.ld false 1 (.v 15))⟩, false, []⟩,
⟨8, ⟨.v 17, none, .op (.ld false 1 (.v 5))⟩, false, []⟩,
⟨9, ⟨.v 18, none, .call 163 [(.v 16), (.v 17)]⟩, false, []⟩,
⟨10, ⟨.v 7, none, .op (.mov (.v 18))⟩, false, []⟩]) (
.ret)))⟩
/- 127 slices.insertionSortOrdered[int] -/
def c_slices_insertionSortOrdered_int : Ay.Fn := ⟨3, [some 0, some 1, some 2, none, none, none, none], [],
.seq (
.reg [⟨.l, none, .op (.mov (.v 1))⟩,
⟨.l, none, .op (.bin .add .i64 (.l 0) (.c (.int .i64 1)))⟩,
⟨.v 3, none, .op (.mov (.l 0))⟩]) (
.block 0 (
.loop (
.seq (
.seq (
.reg [⟨.l, none, .op (.mov (.v 3))⟩,
⟨.l, none, .op (.mov (.v 2))⟩,
⟨.v 5, none, .op (.bin .lss .i64 (.l 1) (.l 0))⟩]) (
.ite (.v 5) (
.skip) (
.exit 0))) (
.seq (
.block 1 (
.seq (
.reg [⟨.l, none, .op (.mov (.v 3))⟩,
⟨.v 4, none, .op (.mov (.l 0))⟩]) (
.block 2 (
.loop (
.seq (
.seq (
.any 15 14 [⟨0, ⟨.v 7, none, .op (.mov (.v 4))⟩, false, []⟩,
⟨1, ⟨.v 8, none, .op (.mov (.v 1))⟩, false, []⟩,
⟨2, ⟨.v 9, none, .op (.bin .gtr .i64 (.v 7) (.v 8))⟩, false, []⟩,
⟨3, ⟨.v 10, none, .op (.mov (.v 9))⟩, false, []⟩,
⟨4, ⟨.v 11, some ((.v 10), true), .op (.mov (.v 0))⟩, false, []⟩,
⟨5, ⟨.v 12, some ((.v 10), true), .op (.mov (.v 4))⟩, false, []⟩,
⟨6, ⟨.v 13, some ((.v 10), true), .op (.ixa 1 (.v 11) (.v 12))⟩, false, []⟩,
⟨7, ⟨.v 14, some ((.v 10), true), .op (.ld false 1 (.v 13))⟩, false, []⟩,
⟨8, ⟨.v 15, some ((.v 10), true), .op (.mov (.v 0))⟩, false, []⟩,
⟨9, ⟨.v 16, some ((.v 10), true), .op (.mov (.v 4))⟩, false, []⟩,
⟨10, ⟨.v 17, some ((.v 10), true), .op (.bin .sub .i64 (.v 16) (.c (.int .i64 1)))⟩, false, []⟩,
⟨11, ⟨.v 18, some ((.v 10), true), .op (.ixa 1 (.v 15) (.v 17))⟩, false, []⟩,
⟨12, ⟨.v 19, some ((.v 10), true), .op (.ld false 1 (.v 18))⟩, false, []⟩,
⟨13, ⟨.v 20, some ((.v 10), true), .call 133 [(.v 14), (.v 19)]⟩, false, []⟩,
⟨14, ⟨.v 6, none, .op (.pick (.v 10) (.v 20) (.c (.bool false)))⟩, false, []⟩]) (
.ite (.v 6) (
.skip) (
.exit 2))) (
.seq (
.block 3 (
.any 18 16 [⟨0, ⟨.v 7, none, .op (.mov (.v 0))⟩, false, []⟩,
⟨1, ⟨.v 8, none, .op (.mov (.v 4))⟩, false, []⟩,
⟨2, ⟨.v 9, none, .op (.mov (.v 0))⟩, false, []⟩,
⟨3, ⟨.v 10, none, .op (.mov (.v 4))⟩, false, []⟩,
⟨4, ⟨.v 11, none, .op (.bin .sub .i64 (.v 10) (.c (.int .i64 1)))⟩, false, []⟩,
⟨5, ⟨.v 12, none, .op (.mov (.v 0))⟩, false, []⟩,
⟨6, ⟨.v 13, none, .op (.mov (.v 4))⟩, false, []⟩,
⟨7, ⟨.v 14, none, .op (.bin .sub .i64 (.v 13) (.c (.int .i64 1)))⟩, false, []⟩,
⟨8, ⟨.v 15, none, .op (.ixa 1 (.v 12) (.v 14))⟩, false, []⟩,
⟨9, ⟨.v 16, none, .op (.ld false 1 (.v 15))⟩, false, []⟩,
⟨10, ⟨.v 17, none, .op (.mov (.v 0))⟩, false, []⟩,
⟨11, ⟨.v 18, none, .op (.mov (.v 4))⟩, false, []⟩,
⟨12, ⟨.v 19, none, .op (.ixa 1 (.v 17) (.v 18))⟩, false, []⟩,
⟨13, ⟨.v 20, none, .op (.ld false 1 (.v 19))⟩, false, []⟩,
⟨14, ⟨.v 21, none, .op (.ixa 1 (.v 7) (.v 8))⟩, false, []⟩,
⟨15, ⟨.n, none, .op (.st 1 (.v 21) (.v 16))⟩, false, []⟩,
⟨16, ⟨.v 22, none, .op (.ixa 1 (.v 9) (.v 11))⟩, false, []⟩,
⟨17, ⟨.n, none, .op (.st 1 (.v 22) (.v 20))⟩, false, []⟩])) (
.reg [⟨.l, none, .op (.mov (.v 4))⟩,
⟨.l, none, .op (.bin .sub .i64 (.l 0) (.c (.int .i64 1)))⟩,
⟨.v 4, none, .op (.mov (.l 0))⟩]))))))) (
.reg [⟨.l, none, .op (.mov (.v 3))⟩,
⟨.l, none, .op (.bin .add .i64 (.l 0) (.c (.int .i64 1)))⟩,
⟨.v 3, none, .op (.mov (.l 0))⟩])))))⟩
/- 128 slices.heapSortOrdered[int] -/
def c_slices_heapSortOrdered_int : Ay.Fn := ⟨3, [some 0, some 1, some 2, none, none, none, none, none, none, none], [],
.seq (
.reg [⟨.l, none, .op (.mov (.v 1))⟩,
⟨.v 3, none, .op (.mov (.l 0))⟩]) (
.seq (
.reg [⟨.v 4, none, .op (.mov (.c (.int .i64 0)))⟩]) (
.seq (
.reg [⟨.l, none, .op (.mov (.v 2))⟩,
⟨.l, none, .op (.mov (.v 1))⟩,
⟨.l, none, .op (.bin .sub .i64 (.l 1) (.l 0))⟩,
⟨.v 5, none, .op (.mov (.l 0))⟩]) (
.seq (
.seq (
.reg [⟨.l, none, .op (.mov (.v 5))⟩,
⟨.l, none, .op (.bin .sub .i64 (.l 0) (.c (.int .i64 1)))⟩,
⟨.l, none, .op (.bin .quo .i64 (.l 0) (.c (.int .i64 2)))⟩,
⟨.v 6, none, .op (.mov (.l 0))⟩]) (
.block 0 (
.loop (
.seq (
.seq (
.reg [⟨.l, none, .op (.mov (.v 6))⟩,
⟨.v 8, none, .op (.bin .geq .i64 (.l 0) (.c (.int .i64 0)))⟩]) (
.ite (.v 8) (
.skip) (
.exit 0))) (
.seq (
.block 1 (
.reg [⟨.l, none, .op (.mov (.v 0))⟩,
⟨.l, none, .op (.mov (.v 6))⟩,
⟨.l, none, .op (.mov (.v 5))⟩,
⟨.l, none, .op (.mov (.v 3))⟩,
⟨.l, none, .call 164 [(.l 3), (.l 2), (.l 1), (.l 0)]⟩])) (
.reg [⟨.l, none, .op (.mov (.v 6))⟩,
⟨.l, none, .op (.bin .sub .i64 (.l 0) (.c (.int .i64 1)))⟩,
⟨.v 6, none, .op (.mov (.l 0))⟩])))))) (
.seq (
.reg [⟨.l, none, .op (.mov (.v 5))⟩,
⟨.l, none, .op (.bin .sub .i64 (.l 0) (.c (.int .i64 1)))⟩,
⟨.v 7, none, .op (.mov (.l 0))⟩]) (
.block 2 (
.loop (
.seq (
.seq (
.reg [⟨.l, none, .op (.mov (.v 7))⟩,
⟨.v 9, none, .op (.bin .geq .i64 (.l 0) (.c (.int .i64 0)))⟩]) (
.ite (.v 9) (
.skip) (
.exit 2))) (
.seq (
.block 3 (
.seq (
.any 20 18 [⟨0, ⟨.v 10, none, .op (.mov (.v 0))⟩, false, []⟩,
⟨1, ⟨.v 11, none, .op (.mov (.v 3))⟩, false, []⟩,
⟨2, ⟨.v 12, none, .op (.mov (.v 0))⟩, false, []⟩,
⟨3, ⟨.v 13, none, .op (.mov (.v 3))⟩, false, []⟩,
⟨4, ⟨.v 14, none, .op (.mov (.v 7))⟩, false, []⟩,
⟨5, ⟨.v 15, none, .op (.bin .add .i64 (.v 13) (.v 14))⟩, false, []⟩,
⟨6, ⟨.v 16, none, .op (.mov (.v 0))⟩, false, []⟩,
⟨7, ⟨.v 17, none, .op (.mov (.v 3))⟩, false, []⟩,
⟨8, ⟨.v 18, none, .op (.mov (.v 7))⟩, false, []⟩,
⟨9, ⟨.v 19, none, .op (.bin .add .i64 (.v 17) (.v 18))⟩, false, []⟩,
⟨10, ⟨.v 20, none, .op (.ixa 1 (.v 16) (.v 19))⟩, false, []⟩,
⟨11, ⟨.v 21, none, .op (.ld false 1 (.v 20))⟩, false, []⟩,
⟨12, ⟨.v 22, none, .op (.mov (.v 0))⟩, false, []⟩,
⟨13, ⟨.v 23, none, .op (.mov (.v 3))⟩, false, []⟩,
⟨14, ⟨.v 24, none, .op (.ixa 1 (.v 22) (.v 23))⟩, false, []⟩,
⟨15, ⟨.v 25, none, .op (.ld false 1 (.v 24))⟩, false, []⟩,
⟨16, ⟨.v 26, none, .op (.ixa 1 (.v 10) (.v 11))⟩, false, []⟩,
⟨17, ⟨.n, none, .op (.st 1 (.v 26) (.v 21))⟩, false, []⟩,
⟨18, ⟨.v 27, none, .op (.ixa 1 (.v 12) (.v 15))⟩, false, []⟩,
⟨19, ⟨.n, none, .op (.st 1 (.v 27) (.v 25))⟩, false, []⟩]) (
.reg [⟨.l, none, .op (.mov (.v 0))⟩,
⟨.l, none, .op (.mov (.v 4))⟩,
⟨.l, none, .op (.mov (.v 7))⟩,
⟨.l, none, .op (.mov (.v 3))⟩,
⟨.l, none, .call 164 [(.l 3), (.l 2), (.l 1), (.l 0)]⟩]))) (
.reg [⟨.l, none, .op (.mov (.v 7))⟩,
⟨.l, none, .op (.bin .sub .i64 (.l 0) (.c (.int .i64 1)))⟩,
⟨.v 7, none, .op (.mov (.l 0))⟩])))))))))⟩
/- 129 slices.breakPatternsOrdered[int] -/
def c_slices_breakPatternsOrdered_int : Ay.Fn := ⟨3, [some 0, some 1, some 2, none, none, none, none, none, none, none, none], [],
.seq (
.reg [⟨.l, none, .op (.mov (.v 2))⟩,
⟨.l, none, .op (.mov (.v 1))⟩,
⟨.l, none, .op (.bin .sub .i64 (.l 1) (.l 0))⟩,
⟨.v 3, none, .op (.mov (.l 0))⟩]) (
.seq (
.reg [⟨.l, none, .op (.mov (.v 3))⟩,
⟨.v 8, none, .op (.bin .geq .i64 (.l 0) (.c (.int .i64 8)))⟩]) (
.ite (.v 8) (
.seq (
.reg [⟨.l, none, .op (.mov (.v 3))⟩,
⟨.l, none, .op (.conv .u64 (.l 0))⟩,
⟨.v 4, none, .op (.alc [(.int .u64 0)])⟩,
⟨.n, none, .op (.st 1 (.v 4) (.l 0))⟩]) (
.seq (
.reg [⟨.l, none, .op (.mov (.v 3))⟩,
⟨.l, none, .call 165 [(.l 0)]⟩,
⟨.v 5, none, .op (.mov (.l 0))⟩]) (
.seq (
.reg [⟨.l, none, .op (.mov (.v 1))⟩,
⟨.l, none, .op (.mov (.v 3))⟩,
⟨.l, none, .op (.bin .quo .i64 (.l 0) (.c (.int .i64 4)))⟩,
⟨.l, none, .op (.bin .mul .i64 (.l 0) (.c (.int .i64 2)))⟩,
⟨.l, none, .op (.bin .add .i64 (.l 3) (.l 0))⟩,
⟨.l, none, .op (.bin .sub .i64 (.l 0) (.c (.int .i64 1)))⟩,
⟨.v 6, none, .op (.mov (.l 0))⟩]) (
.block 0 (
.loop (
.seq (
.seq (
.reg [⟨.l, none, .op (.mov (.v 6))⟩,
⟨.l, none, .op (.mov (.v 1))⟩,
⟨.l, none, .op (.mov (.v 3))⟩,
⟨.l, none, .op (.bin .quo .i64 (.l 0) (.c (.int .i64 4)))⟩,
⟨.l, none, .op (.bin .mul .i64 (.l 0) (.c (.int .i64 2)))⟩,
⟨.l, none, .op (.bin .add .i64 (.l 3) (.l 0))⟩,
⟨.l, none, .op (.bin .add .i64 (.l 0) (.c (.int .i64 1)))⟩,
⟨.v 9, none, .op (.bin .leq .i64 (.l 6) (.l 0))⟩]) (
.ite (.v 9) (
.skip) (
.exit 0))) (
.seq (
.block 1 (
.seq (
.reg [⟨.l, none, .call 166 [(.v 4)]⟩,
⟨.l, none, .op (.mov (.v 5))⟩,
⟨.l, none, .op (.bin .sub .u64 (.l 0) (.c (.int .u64 1)))⟩,
⟨.l, none, .op (.bin .and .u64 (.l 2) (.l 0))⟩,
⟨.l, none, .op (.conv .i64 (.l 0))⟩,
⟨.v 7, none, .op (.mov (.l 0))⟩]) (
.seq (
.seq (
.reg [⟨.l, none, .op (.mov (.v 7))⟩,
⟨.l, none, .op (.mov (.v 3))⟩,
⟨.v 10, none, .op (.bin .geq .i64 (.l 1) (.l 0))⟩]) (
.ite (.v 10) (
.reg [⟨.l, none, .op (.mov (.v 7))⟩,
⟨.l, none, .op (.mov (.v 3))⟩,
⟨.l, none, .op (.bin .sub .i64 (.l 1) (.l 0))⟩,
⟨.v 7, none, .op (.mov (.l 0))⟩]) (
.skip))) (
.any 20 18 [⟨0, ⟨.v 11, none, .op (.mov (.v 0))⟩, false, []⟩,
⟨1, ⟨.v 12, none, .op (.mov (.v 6))⟩, false, []⟩,
⟨2, ⟨.v 13, none, .op (.mov (.v 0))⟩, false, []⟩,
⟨3, ⟨.v 14, none, .op (.mov (.v 1))⟩, false, []⟩,
⟨4, ⟨.v 15, none, .op (.mov (.v 7))⟩, false, []⟩,
⟨5, ⟨.v 16, none, .op (.bin .add .i64 (.v 14) (.v 15))⟩, false, []⟩,
⟨6, ⟨.v 17, none, .op (.mov (.v 0))⟩, false, []⟩,
⟨7, ⟨.v 18, none, .op (.mov (.v 1))⟩, false, []⟩,
⟨8, ⟨.v 19, none, .op (.mov (.v 7))⟩, false, []⟩,
⟨9, ⟨.v 20, none, .op (.bin .add .i64 (.v 18) (.v 19))⟩, false, []⟩,
⟨10, ⟨.v 21, none, .op (.ixa 1 (.v 17) (.v 20))⟩, false, []⟩,
⟨11, ⟨.v 22, none, .op (.ld false 1 (.v 21))⟩, false, []⟩,
⟨12, ⟨.v 23, none, .op (.mov (.v 0))⟩, false, []⟩,
⟨13, ⟨.v 24, none, .op (.mov (.v 6))⟩, false, []⟩,
⟨14, ⟨.v 25, none, .op (.ixa 1 (.v 23) (.v 24))⟩, false, []⟩,
⟨15, ⟨.v 26, none, .op (.ld false 1 (.v 25))⟩, false, []⟩,
⟨16, ⟨.v 27, none, .op (.ixa 1 (.v 11) (.v 12))⟩, false, []⟩,
⟨17, ⟨.n, none, .op (.st 1 (.v 27) (.v 22))⟩, false, []⟩,
⟨18, ⟨.v 28, none, .op (.ixa 1 (.v 13) (.v 16))⟩, false, []⟩,
⟨19, ⟨.n, none, .op (.st 1 (.v 28) (.v 26))⟩, false, []⟩])))) (
.reg [⟨.l, none, .op (.mov (.v 6))⟩,
⟨.l, none, .op (.bin .add .i64 (.l 0) (.c (.int .i64 1)))⟩,
⟨.v 6, none, .op (.mov (.l 0))⟩])))))))) (
.skip)))⟩
/- 130 slices.choosePivotOrdered[int] -/
def c_slices_choosePivotOrdered_int : Ay.Fn := ⟨3, [some 0, some 1, some 2, none, none, none, none, none, none, none, none, none, none, none, none], [.v 3, .v 4],
.seq (
.reg [⟨.v 3, none, .op (.mov (.c (.int .i64 0)))⟩,
⟨.v 4, none, .op (.mov (.c (.int .i64 0)))⟩]) (
.seq (
.reg [⟨.l, none, .op (.mov (.v 2))⟩,
⟨.l, none, .op (.mov (.v 1))⟩,
⟨.l, none, .op (.bin .sub .i64 (.l 1) (.l 0))⟩,
⟨.v 5, none, .op (.mov (.l 0))⟩]) (
.seq (
.reg [⟨.v 6, none, .op (.alc [(.int .i64 0)])⟩]) (
.seq (
.reg [⟨.l, none, .op (.mov (.v 1))⟩,
⟨.l, none, .op (.mov (.v 5))⟩,
⟨.l, none, .op (.bin .quo .i64 (.l 0) (.c (.int .i64 4)))⟩,
⟨.l, none, .op (.bin .mul .i64 (.l 0) (.c (.int .i64 1)))⟩,
⟨.l, none, .op (.bin .add .i64 (.l 3) (.l 0))⟩,
⟨.v 7, none, .op (.mov (.l 0))⟩]) (
.seq (
.reg [⟨.l, none, .op (.mov (.v 1))⟩,
⟨.l, none, .op (.mov (.v 5))⟩,
⟨.l, none, .op (.bin .quo .i64 (.l 0) (.c (.int .i64 4)))⟩,
⟨.l, none, .op (.bin .mul .i64 (.l 0) (.c (.int .i64 2)))⟩,
⟨.l, none, .op (.bin .add .i64 (.l 3) (.l 0))⟩,
⟨.v 8, none, .op (.mov (.l 0))⟩]) (
.seq (
.reg [⟨.l, none, .op (.mov (.v 1))⟩,
⟨.l, none, .op (.mov (.v 5))⟩,
⟨.l, none, .op (.bin .quo .i64 (.l 0) (.c (.int .i64 4)))⟩,
⟨.l, none, .op (.bin .mul .i64 (.l 0) (.c (.int .i64 3)))⟩,
⟨.l, none, .op (.bin .add .i64 (.l 3) (.l 0))⟩,
⟨.v 9, none, .op (.mov (.l 0))⟩]) (
.seq (
.seq (
.reg [⟨.l, none, .op (.mov (.v 5))⟩,
⟨.v 10, none, .op (.bin .geq .i64 (.l 0) (.c (.int .i64 8)))⟩]) (
.ite (.v 10) (
.seq (
.seq (
.reg [⟨.l, none, .op (.mov (.v 5))⟩,
⟨.v 11, none, .op (.bin .geq .i64 (.l 0) (.c (.int .i64 50)))⟩]) (
.ite (.v 11) (
.seq (
.reg [⟨.l, none, .op (.mov (.v 0))⟩,
⟨.l, none, .op (.mov (.v 7))⟩,
⟨.l, none, .call 167 [(.l 1), (.l 0), (.v 6)]⟩,
⟨.v 7, none, .op (.mov (.l 0))⟩]) (
.seq (
.reg [⟨.l, none, .op (.mov (.v 0))⟩,
⟨.l, none, .op (.mov (.v 8))⟩,
⟨.l, none, .call 167 [(.l 1), (.l 0), (.v 6)]⟩,
⟨.v 8, none, .op (.mov (.l 0))⟩]) (
.reg [⟨.l, none, .op (.mov (.v 0))⟩,
⟨.l, none, .op (.mov (.v 9))⟩,
⟨.l, none, .call 167 [(.l 1), (.l 0), (.v 6)]⟩,
⟨.v 9, none, .op (.mov (.l 0))⟩]))) (
.skip))) (
.reg [⟨.l, none, .op (.mov (.v 0))⟩,
⟨.l, none, .op (.mov (.v 7))⟩,
⟨.l, none, .op (.mov (.v 8))⟩,
⟨.l, none, .op (.mov (.v 9))⟩,
⟨.l, none, .call 168 [(.l 3), (.l 2), (.l 1), (.l 0), (.v 6)]⟩,
⟨.v 8, none, .op (.mov (.l 0))⟩])) (
.skip))) (
.seq (
.reg [⟨.v 12, none, .op (.ld false 1 (.v 6))⟩]) (
.block 0 (
.seq (
.reg [⟨.l, none, .op (.bin .eql .i64 (.v 12) (.c (.int .i64 0)))⟩,
⟨.v 13, none, .op (.mov (.l 0))⟩]) (
.ite (.v 13) (
.seq (
.reg [⟨.l, none, .op (.mov (.v 8))⟩,
⟨.v 3, none, .op (.mov (.l 0))⟩,
⟨.v 4, none, .op (.mov (.c (.int .i64 1)))⟩]) (
.ret)) (
.seq (
.reg [⟨.l, none, .op (.bin .eql .i64 (.v 12) (.c (.int .i64 12)))⟩,
⟨.v 14, none, .op (.mov (.l 0))⟩]) (
.ite (.v 14) (
.seq (
.reg [⟨.l, none, .op (.mov (.v 8))⟩,
⟨.v 3, none, .op (.mov (.l 0))⟩,
⟨.v 4, none, .op (.mov (.c (.int .i64 2)))⟩]) (
.ret)) (
.seq (
.reg [⟨.l, none, .op (.mov (.v 8))⟩,
⟨.v 3, none, .op (.mov (.l 0))⟩,
⟨.v 4, none, .op (.mov (.c (.int .i64 0)))⟩]) (
.ret))))))))))))))⟩
/- 131 slices.reverseRangeOrdered[int] -/
def c_slices_reverseRangeOrdered_int : Ay.Fn := ⟨3, [some 0, some 1, some 2, none, none, none], [],
.seq (
.reg [⟨.l, none, .op (.mov (.v 1))⟩,
⟨.v 3, none, .op (.mov (.l 0))⟩]) (
.seq (
.reg [⟨.l, none, .op (.mov (.v 2))⟩,
⟨.l, none, .op (.bin .sub .i64 (.l 0) (.c (.int .i64 1)))⟩,
⟨.v 4, none, .op (.mov (.l 0))⟩]) (
.block 0 (
.loop (
.seq (
.seq (
.reg [⟨.l, none, .op (.mov (.v 3))⟩,
⟨.l, none, .op (.mov (.v 4))⟩,
⟨.v 5, none, .op (.bin .lss .i64 (.l 1) (.l 0))⟩]) (
.ite (.v 5) (
.skip) (
.exit 0))) (
.block 1 (
.seq (
.any 16 14 [⟨0, ⟨.v 6, none, .op (.mov (.v 0))⟩, false, []⟩,
⟨1, ⟨.v 7, none, .op (.mov (.v 3))⟩, false, []⟩,
⟨2, ⟨.v 8, none, .op (.mov (.v 0))⟩, false, []⟩,
⟨3, ⟨.v 9, none, .op (.mov (.v 4))⟩, false, []⟩,
⟨4, ⟨.v 10, none, .op (.mov (.v 0))⟩, false, []⟩,
⟨5, ⟨.v 11, none, .op (.mov (.v 4))⟩, false, []⟩,
⟨6, ⟨.v 12, none, .op (.ixa 1 (.v 10) (.v 11))⟩, false, []⟩,
⟨7, ⟨.v 13, none, .op (.ld false 1 (.v 12))⟩, false, []⟩,
⟨8, ⟨.v 14, none, .op (.mov (.v 0))⟩, false, []⟩,
⟨9, ⟨.v 15, none, .op (.mov (.v 3))⟩, false, []⟩,
⟨10, ⟨.v 16, none, .op (.ixa 1 (.v 14) (.v 15))⟩, false, []⟩,
⟨11, ⟨.v 17, none, .op (.ld false 1 (.v 16))⟩, false, []⟩,
⟨12, ⟨.v 18, none, .op (.ixa 1 (.v 6) (.v 7))⟩, false, []⟩,
⟨13, ⟨.n, none, .op (.st 1 (.v 18) (.v 13))⟩, false, []⟩,
⟨14, ⟨.v 19, none, .op (.ixa 1 (.v 8) (.v 9))⟩, false, []⟩,
⟨15, ⟨.n, none, .op (.st 1 (.v 19) (.v 17))⟩, false, []⟩]) (
.seq (
.reg [⟨.l, none, .op (.mov (.v 3))⟩,
⟨.l, none, .op (.bin .add .i64 (.l 0) (.c (.int .i64 1)))⟩,
⟨.v 3, none, .op (.mov (.l 0))⟩]) (
.reg [⟨.l, none, .op (.mov (.v 4))⟩,
⟨.l, none, .op (.bin .sub .i64 (.l 0) (.c (.int .i64 1)))⟩,
⟨.v 4, none, .op (.mov (.l 0))⟩]))))))))⟩
/- 132 slices.partialInsertionSortOrdered[int] -/
def c_slices_partialInsertionSortOrdered_int : Ay.Fn := ⟨3, [some 0, some 1, some 2, none, none, none, none, none, none, none, none, none, none, none, none, none, none, none], [.v 3],
.seq (
.reg [⟨.v 3, none, .op (.mov (.c (.bool false)))⟩]) (
.seq (
.reg [⟨.l, none, .op (.mov (.v 1))⟩,
⟨.l, none, .op (.bin .add .i64 (.l 0) (.c (.int .i64 1)))⟩,
⟨.v 4, none, .op (.mov (.l 0))⟩]) (
.seq (
.seq (
.reg [⟨.v 5, none, .op (.mov (.c (.int .i64 0)))⟩]) (
.block 0 (
.loop (
.seq (
.seq (
.reg [⟨.l, none, .op (.mov (.v 5))⟩,
⟨.v 8, none, .op (.bin .lss .i64 (.l 0) (.c (.int .i64 5)))⟩]) (
.ite (.v 8) (
.skip) (
.exit 0))) (
.seq (
.block 1 (
.seq (
.block 2 (
.loop (
.seq (
.seq (
.any 16 15 [⟨0, ⟨.v 18, none, .op (.mov (.v 4))⟩, false, []⟩,
⟨1, ⟨.v 19, none, .op (.mov (.v 2))⟩, false, []⟩,
⟨2, ⟨.v 20, none, .op (.bin .lss .i64 (.v 18) (.v 19))⟩, false, []⟩,
⟨3, ⟨.v 21, none, .op (.mov (.v 20))⟩, false, []⟩,
⟨4, ⟨.v 22, some ((.v 21), true), .op (.mov (.v 0))⟩, false, []⟩,
⟨5, ⟨.v 23, some ((.v 21), true), .op (.mov (.v 4))⟩, false, []⟩,
⟨6, ⟨.v 24, some ((.v 21), true), .op (.ixa 1 (.v 22) (.v 23))⟩, false, []⟩,
⟨7, ⟨.v 25, some ((.v 21), true), .op (.ld false 1 (.v 24))⟩, false, []⟩,
⟨8, ⟨.v 26, some ((.v 21), true), .op (.mov (.v 0))⟩, false, []⟩,
⟨9, ⟨.v 27, some ((.v 21), true), .op (.mov (.v 4))⟩, false, []⟩,
⟨10, ⟨.v 28, some ((.v 21), true), .op (.bin .sub .i64 (.v 27) (.c (.int .i64 1)))⟩, false, []⟩,
⟨11, ⟨.v 29, some ((.v 21), true), .op (.ixa 1 (.v 26) (.v 28))⟩, false, []⟩,
⟨12, ⟨.v 30, some ((.v 21), true), .op (.ld false 1 (.v 29))⟩, false, []⟩,
⟨13, ⟨.v 31, some ((.v 21), true), .call 133 [(.v 25), (.v 30)]⟩, false, []⟩,
⟨14, ⟨.v 32, some ((.v 21), true), .op (.not (.v 31))⟩, false, []⟩,
⟨15, ⟨.v 9, none, .op (.pick (.v 21) (.v 32) (.c (.bool false)))⟩, false, []⟩]) (
.ite (.v 9) (
.skip) (
.exit 2))) (
.block 3 (
.reg [⟨.l, none, .op (.mov (.v 4))⟩,
⟨.l, none, .op (.bin .add .i64 (.l 0) (.c (.int .i64 1)))⟩,
⟨.v 4, none, .op (.mov (.l 0))⟩]))))) (
.seq (
.seq (
.reg [⟨.l, none, .op (.mov (.v 4))⟩,
⟨.l, none, .op (.mov (.v 2))⟩,
⟨.v 10, none, .op (.bin .eql .i64 (.l 1) (.l 0))⟩]) (
.ite (.v 10) (
.seq (
.reg [⟨.v 3, none, .op (.mov (.c (.bool true)))⟩]) (
.ret)) (
.skip))) (
.seq (
.seq (
.reg [⟨.l, none, .op (.mov (.v 2))⟩,
⟨.l, none, .op (.mov (.v 1))⟩,
⟨.l, none, .op (.bin .sub .i64 (.l 1) (.l 0))⟩,
⟨.v 11, none, .op (.bin .lss .i64 (.l 0) (.c (.int .i64 50)))⟩]) (
.ite (.v 11) (
.seq (
.reg [⟨.v 3, none, .op (.mov (.c (.bool false)))⟩]) (
.ret)) (
.skip))) (
.seq (
.any 18 16 [⟨0, ⟨.v 18, none, .op (.mov (.v 0))⟩, false, []⟩,
⟨1, ⟨.v 19, none, .op (.mov (.v 4))⟩, false, []⟩,
⟨2, ⟨.v 20, none, .op (.mov (.v 0))⟩, false, []⟩,
⟨3, ⟨.v 21, none, .op (.mov (.v 4))⟩, false, []⟩,
⟨4, ⟨.v 22, none, .op (.bin .sub .i64 (.v 21) (.c (.int .i64 1)))⟩, false, []⟩,
⟨5, ⟨.v 23, none, .op (.mov (.v 0))⟩, false, []⟩,
⟨6, ⟨.v 24, none, .op (.mov (.v 4))⟩, false, []⟩,
⟨7, ⟨.v 25, none, .op (.bin .sub .i64 (.v 24) (.c (.int .i64 1)))⟩, false, []⟩,
⟨8, ⟨.v 26, none, .op (.ixa 1 (.v 23) (.v 25))⟩, false, []⟩,
⟨9, ⟨.v 27, none, .op (.ld false 1 (.v 26))⟩, false, []⟩,
⟨10, ⟨.v 28, none, .op (.mov (.v 0))⟩, false, []⟩,
⟨11, ⟨.v 29, none, .op (.mov (.v 4))⟩, false, []⟩,
⟨12, ⟨.v 30, none, .op (.ixa 1 (.v 28) (.v 29))⟩, false, []⟩,
⟨13, ⟨.v 31, none, .op (.ld false 1 (.v 30))⟩, false, []⟩,
⟨14, ⟨.v 32, none, .op (.ixa 1 (.v 18) (.v 19))⟩, false, []⟩,
⟨15, ⟨.n, none, .op (.st 1 (.v 32) (.v 27))⟩, false, []⟩,
⟨16, ⟨.v 33, none, .op (.ixa 1 (.v 20) (.v 22))⟩, false, []⟩,
⟨17, ⟨.n, none, .op (.st 1 (.v 33) (.v 31))⟩, false, []⟩]) (
.seq (
.seq (
.reg [⟨.l, none, .op (.mov (.v 4))⟩,
⟨.l, none, .op (.mov (.v 1))⟩,
⟨.l, none, .op (.bin .sub .i64 (.l 1) (.l 0))⟩,
⟨.v 12, none, .op (.bin .geq .i64 (.l 0) (.c (.int .i64 2)))⟩]) (
.ite (.v 12) (
.seq (
.reg [⟨.l, none, .op (.mov (.v 4))⟩,
⟨.l, none, .op (.bin .sub .i64 (.l 0) (.c (.int .i64 1)))⟩,
⟨.v 6, none, .op (.mov (.l 0))⟩]) (
.block 4 (
.loop (
.seq (
.seq (
.reg [⟨.l, none, .op (.mov (.v 6))⟩,
⟨.v 13, none, .op (.bin .geq .i64 (.l 0) (.c (.int .i64 1)))⟩]) (
.ite (.v 13) (
.skip) (
.exit 4))) (
.seq (
.block 5 (
.seq (
.seq (
.any 11 10 [⟨0, ⟨.v 18, none, .op (.mov (.v 0))⟩, false, []⟩,
⟨1, ⟨.v 19, none, .op (.mov (.v 6))⟩, false, []⟩,
⟨2, ⟨.v 20, none, .op (.ixa 1 (.v 18) (.v 19))⟩, false, []⟩,
⟨3, ⟨.v 21, none, .op (.ld false 1 (.v 20))⟩, false, []⟩,
⟨4, ⟨.v 22, none, .op (.mov (.v 0))⟩, false, []⟩,
⟨5, ⟨.v 23, none, .op (.mov (.v 6))⟩, false, []⟩,
⟨6, ⟨.v 24, none, .op (.bin .sub .i64 (.v 23) (.c (.int .i64 1)))⟩, false, []⟩,
⟨7, ⟨.v 25, none, .op (.ixa 1 (.v 22) (.v 24))⟩, false, []⟩,
⟨8, ⟨.v 26, none, .op (.ld false 1 (.v 25))⟩, false, []⟩,
⟨9, ⟨.v 27, none, .call 133 [(.v 21), (.v 26)]⟩, false, []⟩,
⟨10, ⟨.v 14, none, .op (.not (.v 27))⟩, false, []⟩]) (
.ite (.v 14) (
.exit 4) (
.skip))) (
.any 18 16 [⟨0, ⟨.v 18, none, .op (.mov (.v 0))⟩, false, []⟩,
⟨1, ⟨.v 19, none, .op (.mov (.v 6))⟩, false, []⟩,
⟨2, ⟨.v 20, none, .op (.mov (.v 0))⟩, false, []⟩,
⟨3, ⟨.v 21, none, .op (.mov (.v 6))⟩, false, []⟩,
⟨4, ⟨.v 22, none, .op (.bin .sub .i64 (.v 21) (.c (.int .i64 1)))⟩, false, []⟩,
⟨5, ⟨.v 23, none, .op (.mov (.v 0))⟩, false, []⟩,
⟨6, ⟨.v 24, none, .op (.mov (.v 6))⟩, false, []⟩,
⟨7, ⟨.v 25, none, .op (.bin .sub .i64 (.v 24) (.c (.int .i64 1)))⟩, false, []⟩,
⟨8, ⟨.v 26, none, .op (.ixa 1 (.v 23) (.v 25))⟩, false, []⟩,
⟨9, ⟨.v 27, none, .op (.ld false 1 (.v 26))⟩, false, []⟩,
⟨10, ⟨.v 28, none, .op (.mov (.v 0))⟩, false, []⟩,
⟨11, ⟨.v 29, none, .op (.mov (.v 6))⟩, false, []⟩,
⟨12, ⟨.v 30, none, .op (.ixa 1 (.v 28) (.v 29))⟩, false, []⟩,
⟨13, ⟨.v 31, none, .op (.ld false 1 (.v 30))⟩, false, []⟩,
⟨14, ⟨.v 32, none, .op (.ixa 1 (.v 18) (.v 19))⟩, false, []⟩,
⟨15, ⟨.n, none, .op (.st 1 (.v 32) (.v 27))⟩, false, []⟩,
⟨16, ⟨.v 33, none, .op (.ixa 1 (.v 20) (.v 22))⟩, false, []⟩,
⟨17, ⟨.n, none, .op (.st 1 (.v 33) (.v 31))⟩, false, []⟩]))) (
.reg [⟨.l, none, .op (.mov (.v 6))⟩,
⟨.l, none, .op (.bin .sub .i64 (.l 0) (.c (.int .i64 1)))⟩,
⟨.v 6, none, .op (.mov (.l 0))⟩])))))) (
.skip))) (
.seq (
.reg [⟨.l, none, .op (.mov (.v 2))⟩,
⟨.l, none, .op (.mov (.v 4))⟩,
⟨.l, none, .op (.bin .sub .i64 (.l 1) (.l 0))⟩,
⟨.v 15, none, .op (.bin .geq .i64 (.l 0) (.c (.int .i64 2)))⟩]) (
.ite (.v 15) (
.seq (
.reg [⟨.l, none, .op (.mov (.v 4))⟩,
⟨.l, none, .op (.bin .add .i64 (.l 0) (.c (.int .i64 1)))⟩,
⟨.v 7, none, .op (.mov (.l 0))⟩]) (
.block 6 (
.loop (
.seq (
.seq (
.reg [⟨.l, none, .op (.mov (.v 7))⟩,
⟨.l, none, .op (.mov (.v 2))⟩,
⟨.v 16, none, .op (.bin .lss .i64 (.l 1) (.l 0))⟩]) (
.ite (.v 16) (
.skip) (
.exit 6))) (
.seq (
.block 7 (
.seq (
.seq (
.any 11 10 [⟨0, ⟨.v 18, none, .op (.mov (.v 0))⟩, false, []⟩,
⟨1, ⟨.v 19, none, .op (.mov (.v 7))⟩, false, []⟩,
⟨2, ⟨.v 20, none, .op (.ixa 1 (.v 18) (.v 19))⟩, false, []⟩,
⟨3, ⟨.v 21, none, .op (.ld false 1 (.v 20))⟩, false, []⟩,
⟨4, ⟨.v 22, none, .op (.mov (.v 0))⟩, false, []⟩,
⟨5, ⟨.v 23, none, .op (.mov (.v 7))⟩, false, []⟩,
⟨6, ⟨.v 24, none, .op (.bin .sub .i64 (.v 23) (.c (.int .i64 1)))⟩, false, []⟩,
⟨7, ⟨.v 25, none, .op (.ixa 1 (.v 22) (.v 24))⟩, false, []⟩,
⟨8, ⟨.v 26, none, .op (.ld false 1 (.v 25))⟩, false, []⟩,
⟨9, ⟨.v 27, none, .call 133 [(.v 21), (.v 26)]⟩, false, []⟩,
⟨10, ⟨.v 17, none, .op (.not (.v 27))⟩, false, []⟩]) (
.ite (.v 17) (
.exit 6) (
.skip))) (
.any 18 16 [⟨0, ⟨.v 18, none, .op (.mov (.v 0))⟩, false, []⟩,
⟨1, ⟨.v 19, none, .op (.mov (.v 7))⟩, false, []⟩,
⟨2, ⟨.v 20, none, .op (.mov (.v 0))⟩, false, []⟩,
⟨3, ⟨.v 21, none, .op (.mov (.v 7))⟩, false, []⟩,
⟨4, ⟨.v 22, none, .op (.bin .sub .i64 (.v 21) (.c (.int .i64 1)))⟩, false, []⟩,
⟨5, ⟨.v 23, none, .op (.mov (.v 0))⟩, false, []⟩,
⟨6, ⟨.v 24, none, .op (.mov (.v 7))⟩, false, []⟩,
⟨7, ⟨.v 25, none, .op (.bin .sub .i64 (.v 24) (.c (.int .i64 1)))⟩, false, []⟩,
⟨8, ⟨.v 26, none, .op (.ixa 1 (.v 23) (.v 25))⟩, false, []⟩,
⟨9, ⟨.v 27, none, .op (.ld false 1 (.v 26))⟩, false, []⟩,
⟨10, ⟨.v 28, none, .op (.mov (.v 0))⟩, false, []⟩,
⟨11, ⟨.v 29, none, .op (.mov (.v 7))⟩, false, []⟩,
⟨12, ⟨.v 30, none, .op (.ixa 1 (.v 28) (.v 29))⟩, false, []⟩,
⟨13, ⟨.v 31, none, .op (.ld false 1 (.v 30))⟩, false, []⟩,
⟨14, ⟨.v 32, none, .op (.ixa 1 (.v 18) (.v 19))⟩, false, []⟩,
⟨15, ⟨.n, none, .op (.st 1 (.v 32) (.v 27))⟩, false, []⟩,
⟨16, ⟨.v 33, none, .op (.ixa 1 (.v 20) (.v 22))⟩, false, []⟩,
⟨17, ⟨.n, none, .op (.st 1 (.v 33) (.v 31))⟩, false, []⟩]))) (
.reg [⟨.l, none, .op (.mov (.v 7))⟩,
⟨.l, none, .op (.bin .add .i64 (.l 0) (.c (.int .i64 1)))⟩,
⟨.v 7, none, .op (.mov (.l 0))⟩])))))) (
.skip))))))))) (
.reg [⟨.l, none, .op (.mov (.v 5))⟩,
⟨.l, none, .op (.bin .add .i64 (.l 0) (.c (.int .i64 1)))⟩,
⟨.v 5, none, .op (.mov (.l 0))⟩])))))) (
.seq (
.reg [⟨.v 3, none, .op (.mov (.c (.bool false)))⟩]) (
.ret))))⟩
/- 133 cmp.Less[int] -/
def c_cmp_Less_int : Ay.Fn := ⟨2, [some 0, some 1, none], [.v 2],
.seq (
.reg [⟨.v 2, none, .op (.mov (.c (.bool false)))⟩]) (
.seq (
.reg [⟨.l, none, .op (.mov (.v 0))⟩,
⟨.l, none, .call 147 [(.l 0)]⟩,
⟨.l, none, .op (.mov (.l 0))⟩,
⟨.l, some ((.l 0), true), .op (.mov (.v 1))⟩,
⟨.l, some ((.l 1), true), .call 147 [(.l 0)]⟩,
⟨.l, some ((.l 2), true), .op (.not (.l 0))⟩,
⟨.l, none, .op (.pick (.l 3) (.l 0) (.c (.bool false)))⟩,
⟨.l, none, .op (.mov (.l 0))⟩,
⟨.l, some ((.l 0), false), .op (.mov (.v 0))⟩,
⟨.l, some ((.l 1), false), .op (.mov (.v 1))⟩,
⟨.l, some ((.l 2), false), .op (.bin .lss .i64 (.l 1) (.l 0))⟩,
⟨.l, none, .op (.pick (.l 3) (.c (.bool true)) (.l 0))⟩,
⟨.v 2, none, .op (.mov (.l 0))⟩]) (
.ret))⟩
/- 134 slices.partitionEqualOrdered[int] -/
def c_slices_partitionEqualOrdered_int : Ay.Fn := ⟨4, [some 0, some 1, some 2, some 3, none, none, none, none, none, none], [.v 4],
.seq (
.reg [⟨.v 4, none, .op (.mov (.c (.int .i64 0)))⟩]) (
.seq (
.any 16 14 [⟨0, ⟨.v 10, none, .op (.mov (.v 0))⟩, false, []⟩,
⟨1, ⟨.v 11, none, .op (.mov (.v 1))⟩, false, []⟩,
⟨2, ⟨.v 12, none, .op (.mov (.v 0))⟩, false, []⟩,
⟨3, ⟨.v 13, none, .op (.mov (.v 3))⟩, false, []⟩,
⟨4, ⟨.v 14, none, .op (.mov (.v 0))⟩, false, []⟩,
⟨5, ⟨.v 15, none, .op (.mov (.v 3))⟩, false, []⟩,
⟨6, ⟨.v 16, none, .op (.ixa 1 (.v 14) (.v 15))⟩, false, []⟩,
⟨7, ⟨.v 17, none, .op (.ld false 1 (.v 16))⟩, false, []⟩,
⟨8, ⟨.v 18, none, .op (.mov (.v 0))⟩, false, []⟩,
⟨9, ⟨.v 19, none, .op (.mov (.v 1))⟩, false, []⟩,
⟨10, ⟨.v 20, none, .op (.ixa 1 (.v 18) (.v 19))⟩, false, []⟩,
⟨11, ⟨.v 21, none, .op (.ld false 1 (.v 20))⟩, false, []⟩,
⟨12, ⟨.v 22, none, .op (.ixa 1 (.v 10) (.v 11))⟩, false, []⟩,
⟨13, ⟨.n, none, .op (.st 1 (.v 22) (.v 17))⟩, false, []⟩,
⟨14, ⟨.v 23, none, .op (.ixa 1 (.v 12) (.v 13))⟩, false, []⟩,
⟨15, ⟨.n, none, .op (.st 1 (.v 23) (.v 21))⟩, false, []⟩]) (
.seq (
.reg [⟨.l, none, .op (.mov (.v 1))⟩,
⟨.l, none, .op (.bin .add .i64 (.l 0) (.c (.int .i64 1)))⟩,
⟨.l, none, .op (.mov (.v 2))⟩,
⟨.l, none, .op (.bin .sub .i64 (.l 0) (.c (.int .i64 1)))⟩,
⟨.v 5, none, .op (.mov (.l 2))⟩,
⟨.v 6, none, .op (.mov (.l 0))⟩]) (
.seq (
.block 0 (
.loop (
.block 1 (
.seq (
.block 2 (
.loop (
.seq (
.seq (
.any 15 14 [⟨0, ⟨.v 10, none, .op (.mov (.v 5))⟩, false, []⟩,
⟨1, ⟨.v 11, none, .op (.mov (.v 6))⟩, false, []⟩,
⟨2, ⟨.v 12, none, .op (.bin .leq .i64 (.v 10) (.v 11))⟩, false, []⟩,
⟨3, ⟨.v 13, none, .op (.mov (.v 12))⟩, false, []⟩,
⟨4, ⟨.v 14, some ((.v 13), true), .op (.mov (.v 0))⟩, false, []⟩,
⟨5, ⟨.v 15, some ((.v 13), true), .op (.mov (.v 1))⟩, false, []⟩,
⟨6, ⟨.v 16, some ((.v 13), true), .op (.ixa 1 (.v 14) (.v 15))⟩, false, []⟩,
⟨7, ⟨.v 17, some ((.v 13), true), .op (.ld false 1 (.v 16))⟩, false, []⟩,
⟨8, ⟨.v 18, some ((.v 13), true), .op (.mov (.v 0))⟩, false, []⟩,
⟨9, ⟨.v 19, some ((.v 13), true), .op (.mov (.v 5))⟩, false, []⟩,
⟨10, ⟨.v 20, some ((.v 13), true), .op (.ixa 1 (.v 18) (.v 19))⟩, false, []⟩,
⟨11, ⟨.v 21, some ((.v 13), true), .op (.ld false 1 (.v 20))⟩, false, []⟩,
⟨12, ⟨.v 22, some ((.v 13), true), .call 133 [(.v 17), (.v 21)]⟩, false, []⟩,
⟨13, ⟨.v 23, some ((.v 13), true), .op (.not (.v 22))⟩, false, []⟩,
⟨14, ⟨.v 7, none, .op (.pick (.v 13) (.v 23) (.c (.bool false)))⟩, false, []⟩]) (
.ite (.v 7) (
.skip) (
.exit 2))) (
.block 3 (
.reg [⟨.l, none, .op (.mov (.v 5))⟩,
⟨.l, none, .op (.bin .add .i64 (.l 0) (.c (.int .i64 1)))⟩,
⟨.v 5, none, .op (.mov (.l 0))⟩]))))) (
.seq (
.block 4 (
.loop (
.seq (
.seq (
.any 14 13 [⟨0, ⟨.v 10, none, .op (.mov (.v 5))⟩, false, []⟩,
⟨1, ⟨.v 11, none, .op (.mov (.v 6))⟩, false, []⟩,
⟨2, ⟨.v 12, none, .op (.bin .leq .i64 (.v 10) (.v 11))⟩, false, []⟩,
⟨3, ⟨.v 13, none, .op (.mov (.v 12))⟩, false, []⟩,
⟨4, ⟨.v 14, some ((.v 13), true), .op (.mov (.v 0))⟩, false, []⟩,
⟨5, ⟨.v 15, some ((.v 13), true), .op (.mov (.v 1))⟩, false, []⟩,
⟨6, ⟨.v 16, some ((.v 13), true), .op (.ixa 1 (.v 14) (.v 15))⟩, false, []⟩,
⟨7, ⟨.v 17, some ((.v 13), true), .op (.ld false 1 (.v 16))⟩, false, []⟩,
⟨8, ⟨.v 18, some ((.v 13), true), .op (.mov (.v 0))⟩, false, []⟩,
⟨9, ⟨.v 19, some ((.v 13), true), .op (.mov (.v 6))⟩, false, []⟩,
⟨10, ⟨.v 20, some ((.v 13), true), .op (.ixa 1 (.v 18) (.v 19))⟩, false, []⟩,
⟨11, ⟨.v 21, some ((.v 13), true), .op (.ld false 1 (.v 20))⟩, false, []⟩,
⟨12, ⟨.v 22, some ((.v 13), true), .call 133 [(.v 17), (.v 21)]⟩, false, []⟩,
⟨13, ⟨.v 8, none, .op (.pick (.v 13) (.v 22) (.c (.bool false)))⟩, false, []⟩]) (
.ite (.v 8) (
.skip) (
.exit 4))) (
.block 5 (
.reg [⟨.l, none, .op (.mov (.v 6))⟩,
⟨.l, none, .op (.bin .sub .i64 (.l 0) (.c (.int .i64 1)))⟩,
⟨.v 6, none, .op (.mov (.l 0))⟩]))))) (
.seq (
.seq (
.reg [⟨.l, none, .op (.mov (.v 5))⟩,
⟨.l, none, .op (.mov (.v 6))⟩,
⟨.v 9, none, .op (.bin .gtr .i64 (.l 1) (.l 0))⟩]) (
.ite (.v 9) (
.exit 0) (
.skip))) (
.seq (
.any 16 14 [⟨0, ⟨.v 10, none, .op (.mov (.v 0))⟩, false, []⟩,
⟨1, ⟨.v 11, none, .op (.mov (.v 5))⟩, false, []⟩,
⟨2, ⟨.v 12, none, .op (.mov (.v 0))⟩, false, []⟩,
⟨3, ⟨.v 13, none, .op (.mov (.v 6))⟩, false, []⟩,
⟨4, ⟨.v 14, none, .op (.mov (.v 0))⟩, false, []⟩,
⟨5, ⟨.v 15, none, .op (.mov (.v 6))⟩, false, []⟩,
⟨6, ⟨.v 16, none, .op (.ixa 1 (.v 14) (.v 15))⟩, false, []⟩,
⟨7, ⟨.v 17, none, .op (.ld false 1 (.v 16))⟩, false, []⟩,
⟨8, ⟨.v 18, none, .op (.mov (.v 0))⟩, false, []⟩,
⟨9, ⟨.v 19, none, .op (.mov (.v 5))⟩, false, []⟩,
⟨10, ⟨.v 20, none, .op (.ixa 1 (.v 18) (.v 19))⟩, false, []⟩,
⟨11, ⟨.v 21, none, .op (.ld false 1 (.v 20))⟩, false, []⟩,
⟨12, ⟨.v 22, none, .op (.ixa 1 (.v 10) (.v 11))⟩, false, []⟩,
⟨13, ⟨.n, none, .op (.st 1 (.v 22) (.v 17))⟩, false, []⟩,
⟨14, ⟨.v 23, none, .op (.ixa 1 (.v 12) (.v 13))⟩, false, []⟩,
⟨15, ⟨.n, none, .op (.st 1 (.v 23) (.v 21))⟩, false, []⟩]) (
.seq (
.reg [⟨.l, none, .op (.mov (.v 5))⟩,
⟨.l, none, .op (.bin .add .i64 (.l 0) (.c (.int .i64 1)))⟩,
⟨.v 5, none, .op (.mov (.l 0))⟩]) (
.reg [⟨.l, none, .op (.mov (.v 6))⟩,
⟨.l, none, .op (.bin .sub .i64 (.l 0) (.c (.int .i64 1)))⟩,
⟨.v 6, none, .op (.mov (.l 0))⟩]))))))))) (
.seq (
.reg [⟨.l, none, .op (.mov (.v 5))⟩,
⟨.v 4, none, .op (.mov (.l 0))⟩]) (
.ret)))))⟩
/- 135 slices.partitionOrdered[int] -/
def c_slices_partitionOrdered_int : Ay.Fn := ⟨4, [some 0, some 1, some 2, some 3, none, none, none, none, none, none, none, none, none, none], [.v 4, .v 5],
.seq (
.reg [⟨.v 4, none, .op (.mov (.c (.int .i64 0)))⟩,
⟨.v 5, none, .op (.mov (.c (.bool false)))⟩]) (
.seq (
.any 16 14 [⟨0, ⟨.v 14, none, .op (.mov (.v 0))⟩, false, []⟩,
⟨1, ⟨.v 15, none, .op (.mov (.v 1))⟩, false, []⟩,
⟨2, ⟨.v 16, none, .op (.mov (.v 0))⟩, false, []⟩,
⟨3, ⟨.v 17, none, .op (.mov (.v 3))⟩, false, []⟩,
⟨4, ⟨.v 18, none, .op (.mov (.v 0))⟩, false, []⟩,
⟨5, ⟨.v 19, none, .op (.mov (.v 3))⟩, false, []⟩,
⟨6, ⟨.v 20, none, .op (.ixa 1 (.v 18) (.v 19))⟩, false, []⟩,
⟨7, ⟨.v 21, none, .op (.ld false 1 (.v 20))⟩, false, []⟩,
⟨8, ⟨.v 22, none, .op (.mov (.v 0))⟩, false, []⟩,
⟨9, ⟨.v 23, none, .op (.mov (.v 1))⟩, false, []⟩,
⟨10, ⟨.v 24, none, .op (.ixa 1 (.v 22) (.v 23))⟩, false, []⟩,
⟨11, ⟨.v 25, none, .op (.ld false 1 (.v 24))⟩, false, []⟩,
⟨12, ⟨.v 26, none, .op (.ixa 1 (.v 14) (.v 15))⟩, false, []⟩,
⟨13, ⟨.n, none, .op (.st 1 (.v 26) (.v 21))⟩, false, []⟩,
⟨14, ⟨.v 27, none, .op (.ixa 1 (.v 16) (.v 17))⟩, false, []⟩,
⟨15, ⟨.n, none, .op (.st 1 (.v 27) (.v 25))⟩, false, []⟩]) (
.seq (
.reg [⟨.l, none, .op (.mov (.v 1))⟩,
⟨.l, none, .op (.bin .add .i64 (.l 0) (.c (.int .i64 1)))⟩,
⟨.l, none, .op (.mov (.v 2))⟩,
⟨.l, none, .op (.bin .sub .i64 (.l 0) (.c (.int .i64 1)))⟩,
⟨.v 6, none, .op (.mov (.l 2))⟩,
⟨.v 7, none, .op (.mov (.l 0))⟩]) (
.seq (
.block 0 (
.loop (
.seq (
.seq (
.any 14 13 [⟨0, ⟨.v 14, none, .op (.mov (.v 6))⟩, false, []⟩,
⟨1, ⟨.v 15, none, .op (.mov (.v 7))⟩, false, []⟩,
⟨2, ⟨.v 16, none, .op (.bin .leq .i64 (.v 14) (.v 15))⟩, false, []⟩,
⟨3, ⟨.v 17, none, .op (.mov (.v 16))⟩, false, []⟩,
⟨4, ⟨.v 18, some ((.v 17), true), .op (.mov (.v 0))⟩, false, []⟩,
⟨5, ⟨.v 19, some ((.v 17), true), .op (.mov (.v 6))⟩, false, []⟩,
⟨6, ⟨.v 20, some ((.v 17), true), .op (.ixa 1 (.v 18) (.v 19))⟩, false, []⟩,
⟨7, ⟨.v 21, some ((.v 17), true), .op (.ld false 1 (.v 20))⟩, false, []⟩,
⟨8, ⟨.v 22, some ((.v 17), true), .op (.mov (.v 0))⟩, false, []⟩,
⟨9, ⟨.v 23, some ((.v 17), true), .op (.mov (.v 1))⟩, false, []⟩,
⟨10, ⟨.v 24, some ((.v 17), true), .op (.ixa 1 (.v 22) (.v 23))⟩, false, []⟩,
⟨11, ⟨.v 25, some ((.v 17), true), .op (.ld false 1 (.v 24))⟩, false, []⟩,
⟨12, ⟨.v 26, some ((.v 17), true), .call 133 [(.v 21), (.v 25)]⟩, false, []⟩,
⟨13, ⟨.v 8, none, .op (.pick (.v 17) (.v 26) (.c (.bool false)))⟩, false, []⟩]) (
.ite (.v 8) (
.skip) (
.exit 0))) (
.block 1 (
.reg [⟨.l, none, .op (.mov (.v 6))⟩,
⟨.l, none, .op (.bin .add .i64 (.l 0) (.c (.int .i64 1)))⟩,
⟨.v 6, none, .op (.mov (.l 0))⟩]))))) (
.seq (
.block 2 (
.loop (
.seq (
.seq (
.any 15 14 [⟨0, ⟨.v 14, none, .op (.mov (.v 6))⟩, false, []⟩,
⟨1, ⟨.v 15, none, .op (.mov (.v 7))⟩, false, []⟩,
⟨2, ⟨.v 16, none, .op (.bin .leq .i64 (.v 14) (.v 15))⟩, false, []⟩,
⟨3, ⟨.v 17, none, .op (.mov (.v 16))⟩, false, []⟩,
⟨4, ⟨.v 18, some ((.v 17), true), .op (.mov (.v 0))⟩, false, []⟩,
⟨5, ⟨.v 19, some ((.v 17), true), .op (.mov (.v 7))⟩, false, []⟩,
⟨6, ⟨.v 20, some ((.v 17), true), .op (.ixa 1 (.v 18) (.v 19))⟩, false, []⟩,
⟨7, ⟨.v 21, some ((.v 17), true), .op (.ld false 1 (.v 20))⟩, false, []⟩,
⟨8, ⟨.v 22, some ((.v 17), true), .op (.mov (.v 0))⟩, false, []⟩,
⟨9, ⟨.v 23, some ((.v 17), true), .op (.mov (.v 1))⟩, false, []⟩,
⟨10, ⟨.v 24, some ((.v 17), true), .op (.ixa 1 (.v 22) (.v 23))⟩, false, []⟩,
⟨11, ⟨.v 25, some ((.v 17), true), .op (.ld false 1 (.v 24))⟩, false, []⟩,
⟨12, ⟨.v 26, some ((.v 17), true), .call 133 [(.v 21), (.v 25)]⟩, false, []⟩,
⟨13, ⟨.v 27, some ((.v 17), true), .op (.not (.v 26))⟩, false, []⟩,
⟨14, ⟨.v 9, none, .op (.pick (.v 17) (.v 27) (.c (.bool false)))⟩, false, []⟩]) (
.ite (.v 9) (
.skip) (
.exit 2))) (
.block 3 (
.reg [⟨.l, none, .op (.mov (.v 7))⟩,
⟨.l, none, .op (.bin .sub .i64 (.l 0) (.c (.int .i64 1)))⟩,
⟨.v 7, none, .op (.mov (.l 0))⟩]))))) (
.seq (
.seq (
.reg [⟨.l, none, .op (.mov (.v 6))⟩,
⟨.l, none, .op (.mov (.v 7))⟩,
⟨.v 10, none, .op (.bin .gtr .i64 (.l 1) (.l 0))⟩]) (
.ite (.v 10) (
.seq (
.any 16 14 [⟨0, ⟨.v 14, none, .op (.mov (.v 0))⟩, false, []⟩,
⟨1, ⟨.v 15, none, .op (.mov (.v 7))⟩, false, []⟩,
⟨2, ⟨.v 16, none, .op (.mov (.v 0))⟩, false, []⟩,
⟨3, ⟨.v 17, none, .op (.mov (.v 1))⟩, false, []⟩,
⟨4, ⟨.v 18, none, .op (.mov (.v 0))⟩, false, []⟩,
⟨5, ⟨.v 19, none, .op (.mov (.v 1))⟩, false, []⟩,
⟨6, ⟨.v 20, none, .op (.ixa 1 (.v 18) (.v 19))⟩, false, []⟩,
⟨7, ⟨.v 21, none, .op (.ld false 1 (.v 20))⟩, false, []⟩,
⟨8, ⟨.v 22, none, .op (.mov (.v 0))⟩, false, []⟩,
⟨9, ⟨.v 23, none, .op (.mov (.v 7))⟩, false, []⟩,
⟨10, ⟨.v 24, none, .op (.ixa 1 (.v 22) (.v 23))⟩, false, []⟩,
⟨11, ⟨.v 25, none, .op (.ld false 1 (.v 24))⟩, false, []⟩,
⟨12, ⟨.v 26, none, .op (.ixa 1 (.v 14) (.v 15))⟩, false, []⟩,
⟨13, ⟨.n, none, .op (.st 1 (.v 26) (.v 21))⟩, false, []⟩,
⟨14, ⟨.v 27, none, .op (.ixa 1 (.v 16) (.v 17))⟩, false, []⟩,
⟨15, ⟨.n, none, .op (.st 1 (.v 27) (.v 25))⟩, false, []⟩]) (
.seq (
.reg [⟨.l, none, .op (.mov (.v 7))⟩,
⟨.v 4, none, .op (.mov (.l 0))⟩,
⟨.v 5, none, .op (.mov (.c (.bool true)))⟩]) (
.ret))) (
.skip))) (
.seq (
.any 16 14 [⟨0, ⟨.v 14, none, .op (.mov (.v 0))⟩, false, []⟩,
⟨1, ⟨.v 15, none, .op (.mov (.v 6))⟩, false, []⟩,
⟨2, ⟨.v 16, none, .op (.mov (.v 0))⟩, false, []⟩,
⟨3, ⟨.v 17, none, .op (.mov (.v 7))⟩, false, []⟩,
⟨4, ⟨.v 18, none, .op (.mov (.v 0))⟩, false, []⟩,
⟨5, ⟨.v 19, none, .op (.mov (.v 7))⟩, false, []⟩,
⟨6, ⟨.v 20, none, .op (.ixa 1 (.v 18) (.v 19))⟩, false, []⟩,
⟨7, ⟨.v 21, none, .op (.ld false 1 (.v 20))⟩, false, []⟩,
⟨8, ⟨.v 22, none, .op (.mov (.v 0))⟩, false, []⟩,
⟨9, ⟨.v 23, none, .op (.mov (.v 6))⟩, false, []⟩,
⟨10, ⟨.v 24, none, .op (.ixa 1 (.v 22) (.v 23))⟩, false, []⟩,
⟨11, ⟨.v 25, none, .op (.ld false 1 (.v 24))⟩, false, []⟩,
⟨12, ⟨.v 26, none, .op (.ixa 1 (.v 14) (.v 15))⟩, false, []⟩,
⟨13, ⟨.n, none, .op (.st 1 (.v 26) (.v 21))⟩, false, []⟩,
⟨14, ⟨.v 27, none, .op (.ixa 1 (.v 16) (.v 17))⟩, false, []⟩,
⟨15, ⟨.n, none, .op (.st 1 (.v 27) (.v 25))⟩, false, []⟩]) (
.seq (
.reg [⟨.l, none, .op (.mov (.v 6))⟩,
⟨.l, none, .op (.bin .add .i64 (.l 0) (.c (.int .i64 1)))⟩,
⟨.v 6, none, .op (.mov (.l 0))⟩]) (
.seq (
.reg [⟨.l, none, .op (.mov (.v 7))⟩,
⟨.l, none, .op (.bin .sub .i64 (.l 0) (.c (.int .i64 1)))⟩,
⟨.v 7, none, .op (.mov (.l 0))⟩]) (
.seq (
.block 4 (
.loop (
.block 5 (
.seq (
.block 6 (
.loop (
.seq (
.seq (
.any 14 13 [⟨0, ⟨.v 14, none, .op (.mov (.v 6))⟩, false, []⟩,
⟨1, ⟨.v 15, none, .op (.mov (.v 7))⟩, false, []⟩,
⟨2, ⟨.v 16, none, .op (.bin .leq .i64 (.v 14) (.v 15))⟩, false, []⟩,
⟨3, ⟨.v 17, none, .op (.mov (.v 16))⟩, false, []⟩,
⟨4, ⟨.v 18, some ((.v 17), true), .op (.mov (.v 0))⟩, false, []⟩,
⟨5, ⟨.v 19, some ((.v 17), true), .op (.mov (.v 6))⟩, false, []⟩,
⟨6, ⟨.v 20, some ((.v 17), true), .op (.ixa 1 (.v 18) (.v 19))⟩, false, []⟩,
⟨7, ⟨.v 21, some ((.v 17), true), .op (.ld false 1 (.v 20))⟩, false, []⟩,
⟨8, ⟨.v 22, some ((.v 17), true), .op (.mov (.v 0))⟩, false, []⟩,
⟨9, ⟨.v 23, some ((.v 17), true), .op (.mov (.v 1))⟩, false, []⟩,
⟨10, ⟨.v 24, some ((.v 17), true), .op (.ixa 1 (.v 22) (.v 23))⟩, false, []⟩,
⟨11, ⟨.v 25, some ((.v 17), true), .op (.ld false 1 (.v 24))⟩, false, []⟩,
⟨12, ⟨.v 26, some ((.v 17), true), .call 133 [(.v 21), (.v 25)]⟩, false, []⟩,
⟨13, ⟨.v 11, none, .op (.pick (.v 17) (.v 26) (.c (.bool false)))⟩, false, []⟩]) (
.ite (.v 11) (
.skip) (
.exit 6))) (
.block 7 (
.reg [⟨.l, none, .op (.mov (.v 6))⟩,
⟨.l, none, .op (.bin .add .i64 (.l 0) (.c (.int .i64 1)))⟩,
⟨.v 6, none, .op (.mov (.l 0))⟩]))))) (
.seq (
.block 8 (
.loop (
.seq (
.seq (
.any 15 14 [⟨0, ⟨.v 14, none, .op (.mov (.v 6))⟩, false, []⟩,
⟨1, ⟨.v 15, none, .op (.mov (.v 7))⟩, false, []⟩,
⟨2, ⟨.v 16, none, .op (.bin .leq .i64 (.v 14) (.v 15))⟩, false, []⟩,
⟨3, ⟨.v 17, none, .op (.mov (.v 16))⟩, false, []⟩,
⟨4, ⟨.v 18, some ((.v 17), true), .op (.mov (.v 0))⟩, false, []⟩,
⟨5, ⟨.v 19, some ((.v 17), true), .op (.mov (.v 7))⟩, false, []⟩,
⟨6, ⟨.v 20, some ((.v 17), true), .op (.ixa 1 (.v 18) (.v 19))⟩, false, []⟩,
⟨7, ⟨.v 21, some ((.v 17), true), .op (.ld false 1 (.v 20))⟩, false, []⟩,
⟨8, ⟨.v 22, some ((.v 17), true), .op (.mov (.v 0))⟩, false, []⟩,
⟨9, ⟨.v 23, some ((.v 17), true), .op (.mov (.v 1))⟩, false, []⟩,
⟨10, ⟨.v 24, some ((.v 17), true), .op (.ixa 1 (.v 22) (.v 23))⟩, false, []⟩,
⟨11, ⟨.v 25, some ((.v 17), true), .op (.ld false 1 (.v 24))⟩, false, []⟩,
⟨12, ⟨.v 26, some ((.v 17), true), .call 133 [(.v 21), (.v 25)]⟩, false, []⟩,
⟨13, ⟨.v 27, some ((.v 17), true), .op (.not (.v 26))⟩, false, []⟩,
⟨14, ⟨.v 12, none, .op (.pick (.v 17) (.v 27) (.c (.bool false)))⟩, false, []⟩]) (
.ite (.v 12) (
.skip) (
.exit 8))) (
.block 9 (
.reg [⟨.l, none, .op (.mov (.v 7))⟩,
⟨.l, none, .op (.bin .sub .i64 (.l 0) (.c (.int .i64 1)))⟩,
⟨.v 7, none, .op (.mov (.l 0))⟩]))))) (
.seq (
.seq (
.reg [⟨.l, none, .op (.mov (.v 6))⟩,
⟨.l, none, .op (.mov (.v 7))⟩,
⟨.v 13, none, .op (.bin .gtr .i64 (.l 1) (.l 0))⟩]) (
.ite (.v 13) (
.exit 4) (
.skip))) (
.seq (
.any 16 14 [⟨0, ⟨.v 14, none, .op (.mov (.v 0))⟩, false, []⟩,
⟨1, ⟨.v 15, none, .op (.mov (.v 6))⟩, false, []⟩,
⟨2, ⟨.v 16, none, .op (.mov (.v 0))⟩, false, []⟩,
⟨3, ⟨.v 17, none, .op (.mov (.v 7))⟩, false, []⟩,
⟨4, ⟨.v 18, none, .op (.mov (.v 0))⟩, false, []⟩,
⟨5, ⟨.v 19, none, .op (.mov (.v 7))⟩, false, []⟩,
⟨6, ⟨.v 20, none, .op (.ixa 1 (.v 18) (.v 19))⟩, false, []⟩,
⟨7, ⟨.v 21, none, .op (.ld false 1 (.v 20))⟩, false, []⟩,
⟨8, ⟨.v 22, none, .op (.mov (.v 0))⟩, false, []⟩,
⟨9, ⟨.v 23, none, .op (.mov (.v 6))⟩, false, []⟩,
⟨10, ⟨.v 24, none, .op (.ixa 1 (.v 22) (.v 23))⟩, false, []⟩,
⟨11, ⟨.v 25, none, .op (.ld false 1 (.v 24))⟩, false, []⟩,
⟨12, ⟨.v 26, none, .op (.ixa 1 (.v 14) (.v 15))⟩, false, []⟩,
⟨13, ⟨.n, none, .op (.st 1 (.v 26) (.v 21))⟩, false, []⟩,
⟨14, ⟨.v 27, none, .op (.ixa 1 (.v 16) (.v 17))⟩, false, []⟩,
⟨15, ⟨.n, none, .op (.st 1 (.v 27) (.v 25))⟩, false, []⟩]) (
.seq (
.reg [⟨.l, none, .op (.mov (.v 6))⟩,
⟨.l, none, .op (.bin .add .i64 (.l 0) (.c (.int .i64 1)))⟩,
⟨.v 6, none, .op (.mov (.l 0))⟩]) (
.reg [⟨.l, none, .op (.mov (.v 7))⟩,
⟨.l, none, .op (.bin .sub .i64 (.l 0) (.c (.int .i64 1)))⟩,
⟨.v 7, none, .op (.mov (.l 0))⟩]))))))))) (
.seq (
.any 16 14 [⟨0, ⟨.v 14, none, .op (.mov (.v 0))⟩, false, []⟩,
⟨1, ⟨.v 15, none, .op (.mov (.v 7))⟩, false, []⟩,
⟨2, ⟨.v 16, none, .op (.mov (.v 0))⟩, false, []⟩,
⟨3, ⟨.v 17, none, .op (.mov (.v 1))⟩, false, []⟩,
⟨4, ⟨.v 18, none, .op (.mov (.v 0))⟩, false, []⟩,
⟨5, ⟨.v 19, none, .op (.mov (.v 1))⟩, false, []⟩,
⟨6, ⟨.v 20, none, .op (.ixa 1 (.v 18) (.v 19))⟩, false, []⟩,
⟨7, ⟨.v 21, none, .op (.ld false 1 (.v 20))⟩, false, []⟩,
⟨8, ⟨.v 22, none, .op (.mov (.v 0))⟩, false, []⟩,
⟨9, ⟨.v 23, none, .op (.mov (.v 7))⟩, false, []⟩,
⟨10, ⟨.v 24, none, .op (.ixa 1 (.v 22) (.v 23))⟩, false, []⟩,
⟨11, ⟨.v 25, none, .op (.ld false 1 (.v 24))⟩, false, []⟩,
⟨12, ⟨.v 26, none, .op (.ixa 1 (.v 14) (.v 15))⟩, false, []⟩,
⟨13, ⟨.n, none, .op (.st 1 (.v 26) (.v 21))⟩, false, []⟩,
⟨14, ⟨.v 27, none, .op (.ixa 1 (.v 16) (.v 17))⟩, false, []⟩,
⟨15, ⟨.n, none, .op (.st 1 (.v 27) (.v 25))⟩, false, []⟩]) (
.seq (
.reg [⟨.l, none, .op (.mov (.v 7))⟩,
⟨.v 4, none, .op (.mov (.l 0))⟩,
⟨.v 5, none, .op (.mov (.c (.bool false)))⟩]) (
.ret))))))))))))⟩
/- 136 math/bits.Len32 -/
def c_math_bits_Len32 : Ay.Fn := ⟨1, [some 0, none, none, none], [.v 1],
.seq (
.reg [⟨.v 1, none, .op (.mov (.c (.int .i64 0)))⟩]) (
.seq (
.seq (
.reg [⟨.l, none, .op (.mov (.v 0))⟩,
⟨.v 2, none, .op (.bin .geq .u32 (.l 0) (.c (.int .u32 65536)))⟩]) (
.ite (.v 2) (
.seq (
.reg [⟨.l, none, .op (.mov (.v 0))⟩,
⟨.l, none, .op (.shf .shr .u32 (.l 0) (.c (.int .u64 16)))⟩,
⟨.v 0, none, .op (.mov (.l 0))⟩]) (
.reg [⟨.v 1, none, .op (.mov (.c (.int .i64 16)))⟩])) (
.skip))) (
.seq (
.seq (
.reg [⟨.l, none, .op (.mov (.v 0))⟩,
⟨.v 3, none, .op (.bin .geq .u32 (.l 0) (.c (.int .u32 256)))⟩]) (
.ite (.v 3) (
.seq (
.reg [⟨.l, none, .op (.mov (.v 0))⟩,
⟨.l, none, .op (.shf .shr .u32 (.l 0) (.c (.int .u64 8)))⟩,
⟨.v 0, none, .op (.mov (.l 0))⟩]) (
.reg [⟨.l, none, .op (.mov (.v 1))⟩,
⟨.l, none, .op (.bin .add .i64 (.l 0) (.c (.int .i64 8)))⟩,
⟨.v 1, none, .op (.mov (.l 0))⟩])) (
.skip))) (
.seq (
.reg [⟨.l, none, .op (.mov (.v 1))⟩,
⟨.l, none, .op (.mov (.v 0))⟩,
⟨.l, none, .op (.conv .u8 (.l 0))⟩,
⟨.l, none, .op (.six (.c (.str [0, 1, 2, 2, 3, 3, 3, 3, 4, 4, 4, 4, 4, 4, 4, 4, 5, 5, 5, 5, 5, 5, 5, 5, 5, 5, 5, 5, 5, 5, 5, 5, 6, 6, 6, 6, 6, 6, 6, 6, 6, 6, 6, 6, 6, 6, 6, 6, 6, 6, 6, 6, 6, 6, 6, 6, 6, 6, 6, 6, 6, 6, 6, 6, 7, 7, 7, 7, 7, 7, 7, 7, 7, 7, 7, 7, 7, 7, 7, 7, 7, 7, 7, 7, 7, 7, 7, 7, 7, 7, 7, 7, 7, 7, 7, 7, 7, 7, 7, 7, 7, 7, 7, 7, 7, 7, 7, 7, 7, 7, 7, 7, 7, 7, 7, 7, 7, 7, 7, 7, 7, 7, 7, 7, 7, 7, 7, 7, 8, 8, 8, 8, 8, 8, 8, 8, 8, 8, 8, 8, 8, 8, 8, 8, 8, 8, 8, 8, 8, 8, 8, 8, 8, 8, 8, 8, 8, 8, 8, 8, 8, 8, 8, 8, 8, 8, 8, 8, 8, 8, 8, 8, 8, 8, 8, 8, 8, 8, 8, 8, 8, 8, 8, 8, 8, 8, 8, 8, 8, 8, 8, 8, 8, 8, 8, 8, 8, 8, 8, 8, 8, 8, 8, 8, 8, 8, 8, 8, 8, 8, 8, 8, 8, 8, 8, 8, 8, 8, 8, 8, 8, 8, 8, 8, 8, 8, 8, 8, 8, 8, 8, 8, 8, 8, 8, 8, 8, 8, 8, 8, 8, 8, 8, 8, 8, 8, 8, 8, 8, 8, 8, 8, 8, 8, 8, 8])) (.l 0))⟩,
⟨.l, none, .op (.conv .i64 (.l 0))⟩,
⟨.l, none, .op (.bin .add .i64 (.l 4) (.l 0))⟩,
⟨.v 1, none, .op (.mov (.l 0))⟩]) (
.ret))))⟩
/- 137 math/bits.Len64 -/
def c_math_bits_Len64 : Ay.Fn := ⟨1, [some 0, none, none, none, none], [.v 1],
.seq (
.reg [⟨.v 1, none, .op (.mov (.c (.int .i64 0)))⟩]) (
.seq (
.seq (
.reg [⟨.l, none, .op (.mov (.v 0))⟩,
⟨.v 2, none, .op (.bin .geq .u64 (.l 0) (.c (.int .u64 4294967296)))⟩]) (
.ite (.v 2) (
.seq (
.reg [⟨.l, none, .op (.mov (.v 0))⟩,
⟨.l, none, .op (.shf .shr .u64 (.l 0) (.c (.int .u64 32)))⟩,
⟨.v 0, none, .op (.mov (.l 0))⟩]) (
.reg [⟨.v 1, none, .op (.mov (.c (.int .i64 32)))⟩])) (
.skip))) (
.seq (
.seq (
.reg [⟨.l, none, .op (.mov (.v 0))⟩,
⟨.v 3, none, .op (.bin .geq .u64 (.l 0) (.c (.int .u64 65536)))⟩]) (
.ite (.v 3) (
.seq (
.reg [⟨.l, none, .op (.mov (.v 0))⟩,
⟨.l, none, .op (.shf .shr .u64 (.l 0) (.c (.int .u64 16)))⟩,
⟨.v 0, none, .op (.mov (.l 0))⟩]) (
.reg [⟨.l, none, .op (.mov (.v 1))⟩,
⟨.l, none, .op (.bin .add .i64 (.l 0) (.c (.int .i64 16)))⟩,
⟨.v 1, none, .op (.mov (.l 0))⟩])) (
.skip))) (
.seq (
.seq (
.reg [⟨.l, none, .op (.mov (.v 0))⟩,
⟨.v 4, none, .op (.bin .geq .u64 (.l 0) (.c (.int .u64 256)))⟩]) (
.ite (.v 4) (
.seq (
.reg [⟨.l, none, .op (.mov (.v 0))⟩,
⟨.l, none, .op (.shf .shr .u64 (.l 0) (.c (.int .u64 8)))⟩,
⟨.v 0, none, .op (.mov (.l 0))⟩]) (
.reg [⟨.l, none, .op (.mov (.v 1))⟩,
⟨.l, none, .op (.bin .add .i64 (.l 0) (.c (.int .i64 8)))⟩,
⟨.v 1, none, .op (.mov (.l 0))⟩])) (
.skip))) (
.seq (
.reg [⟨.l, none, .op (.mov (.v 1))⟩,
⟨.l, none, .op (.mov (.v 0))⟩,
⟨.l, none, .op (.conv .u8 (.l 0))⟩,
⟨.l, none, .op (.six (.c (.str [0, 1, 2, 2, 3, 3, 3, 3, 4, 4, 4, 4, 4, 4, 4, 4, 5, 5, 5, 5, 5, 5, 5, 5, 5, 5, 5, 5, 5, 5, 5, 5, 6, 6, 6, 6, 6, 6, 6, 6, 6, 6, 6, 6, 6, 6, 6, 6, 6, 6, 6, 6, 6, 6, 6, 6, 6, 6, 6, 6, 6, 6, 6, 6, 7, 7, 7, 7, 7, 7, 7, 7, 7, 7, 7, 7, 7, 7, 7, 7, 7, 7, 7, 7, 7, 7, 7, 7, 7, 7, 7, 7, 7, 7, 7, 7, 7, 7, 7, 7, 7, 7, 7, 7, 7, 7, 7, 7, 7, 7, 7, 7, 7, 7, 7, 7, 7, 7, 7, 7, 7, 7, 7, 7, 7, 7, 7, 7, 8, 8, 8, 8, 8, 8, 8, 8, 8, 8, 8, 8, 8, 8, 8, 8, 8, 8, 8, 8, 8, 8, 8, 8, 8, 8, 8, 8, 8, 8, 8, 8, 8, 8, 8, 8, 8, 8, 8, 8, 8, 8, 8, 8, 8, 8, 8, 8, 8, 8, 8, 8, 8, 8, 8, 8, 8, 8, 8, 8, 8, 8, 8, 8, 8, 8, 8, 8, 8, 8, 8, 8, 8, 8, 8, 8, 8, 8, 8, 8, 8, 8, 8, 8, 8, 8, 8, 8, 8, 8, 8, 8, 8, 8, 8, 8, 8, 8, 8, 8, 8, 8, 8, 8, 8, 8, 8, 8, 8, 8, 8, 8, 8, 8, 8, 8, 8, 8, 8, 8, 8, 8, 8, 8, 8, 8, 8, 8])) (.l 0))⟩,
⟨.l, none, .op (.conv .i64 (.l 0))⟩,
⟨.l, none, .op (.bin .add .i64 (.l 4) (.l 0))⟩,
⟨.v 1, none, .op (.mov (.l 0))⟩]) (
.ret)))))⟩
/- 138 cayley/perm.cycles part 1 -/
def c_perm_cycles_1 : Ay.Fn := ⟨2, [some 0, some 1, none, none, none, none, none, none, none, none, none], [],
.seq (
.reg [⟨.v 2, none, .op (.alc [(.bool false), (.bool false), (.bool false), (.bool false), (.bool false), (.bool false), (.bool false), (.bool false), (.bool false), (.bool false), (.bool false), (.bool false), (.bool false), (.bool false), (.bool false), (.bool false), (.bool false), (.bool false), (.bool false), (.bool false), (.bool false), (.bool false), (.bool false), (.bool false), (.bool false), (.bool false), (.bool false), (.bool false), (.bool false), (.bool false), (.bool false), (.bool false), (.bool false), (.bool false), (.bool false), (.bool false), (.bool false), (.bool false), (.bool false), (.bool false), (.bool false), (.bool false), (.bool false), (.bool false), (.bool false), (.bool false), (.bool false), (.bool false), (.bool false), (.bool false), (.bool false), (.bool false), (.bool false), (.bool false), (.bool false), (.bool false), (.bool false), (.bool false), (.bool false), (.bool false), (.bool false), (.bool false), (.bool false), (.bool false)])⟩]) (
.seq (
.reg [⟨.l, none, .op (.ld false 1 (.v 1))⟩,
⟨.v 6, none, .op (.lens (.l 0))⟩,
⟨.v 7, none, .op (.mov (.c (.int .i64 0)))⟩]) (
.block 0 (
.loop (
.seq (
.reg [⟨.v 8, none, .op (.bin .lss .i64 (.v 7) (.v 6))⟩]) (
.seq (
.ite (.v 8) (
.skip) (
.exit 0)) (
.seq (
.block 1 (
.seq (
.reg [⟨.l, none, .op (.mov (.v 7))⟩,
⟨.v 3, none, .op (.mov (.l 0))⟩]) (
.seq (
.reg [⟨.v 4, none, .op (.mov (.c .nils))⟩]) (
.seq (
.seq (
.reg [⟨.l, none, .op (.mov (.v 3))⟩,
⟨.v 5, none, .op (.mov (.l 0))⟩]) (
.block 2 (
.loop (
.seq (
.seq (
.reg [⟨.l, none, .op (.mov (.v 5))⟩,
⟨.l, none, .op (.ixd 64 1 (.v 2) (.l 0))⟩,
⟨.l, none, .op (.ld false 1 (.l 0))⟩,
⟨.v 9, none, .op (.not (.l 0))⟩]) (
.ite (.v 9) (
.skip) (
.exit 2))) (
.seq (
.block 3 (
.seq (
.reg [⟨.l, none, .op (.mov (.v 5))⟩,
⟨.l, none, .op (.ixd 64 1 (.v 2) (.l 0))⟩,
⟨.n, none, .op (.st 1 (.l 0) (.c (.bool true)))⟩]) (
.reg [⟨.l, none, .op (.mov (.v 4))⟩,
⟨.l, none, .op (.mov (.v 5))⟩,
⟨.l, none, .op (.bls 1 [(.int .i64 0)] 1 [(0, 1, (.l 0))])⟩,
⟨.l, none, .op (.app 1 8 (.l 2) (.l 0))⟩,
⟨.v 4, none, .op (.mov (.l 0))⟩]))) (
.reg [⟨.l, none, .op (.ld false 1 (.v 1))⟩,
⟨.l, none, .op (.mov (.v 5))⟩,
⟨.l, none, .op (.ixa 1 (.l 1) (.l 0))⟩,
⟨.l, none, .op (.ld false 1 (.l 0))⟩,
⟨.v 5, none, .op (.mov (.l 0))⟩])))))) (
.seq (
.reg [⟨.l, none, .op (.mov (.v 4))⟩,
⟨.l, none, .op (.lens (.l 0))⟩,
⟨.l, none, .op (.bin .gtr .i64 (.l 0) (.c (.int .i64 0)))⟩,
⟨.l, none, .op (.mov (.l 0))⟩,
⟨.l, some ((.l 0), true), .op (.mov (.v 0))⟩,
⟨.l, some ((.l 1), true), .op (.mov (.v 4))⟩,
⟨.l, some ((.l 2), true), .callv (.l 1) [(.l 0)]⟩,
⟨.l, some ((.l 3), true), .op (.not (.l 0))⟩,
⟨.v 10, none, .op (.pick (.l 4) (.l 0) (.c (.bool false)))⟩]) (
.ite (.v 10) (
.ret) (
.skip))))))) (
.reg [⟨.l, none, .op (.bin .add .i64 (.v 7) (.c (.int .i64 1)))⟩,
⟨.v 7, none, .op (.mov (.l 0))⟩])))))))⟩
/- 139 slices.insertionSortCmpFunc[cayley/classes.class] -/
def c_slices_insertionSortCmpFunc_classes_class : Ay.Fn := ⟨4, [some 0, some 1, some 2, some 3, none, none, none, none], [],
.seq (
.reg [⟨.l, none, .op (.mov (.v 1))⟩,
⟨.l, none, .op (.bin .add .i64 (.l 0) (.c (.int .i64 1)))⟩,
⟨.v 4, none, .op (.mov (.l 0))⟩]) (
.block 0 (
.loop (
.seq (
.seq (
.reg [⟨.l, none, .op (.mov (.v 4))⟩,
⟨.l, none, .op (.mov (.v 2))⟩,
⟨.v 6, none, .op (.bin .lss .i64 (.l 1) (.l 0))⟩]) (
.ite (.v 6) (
.skip) (
.exit 0))) (
.seq (
.block 1 (
.seq (
.reg [⟨.l, none, .op (.mov (.v 4))⟩,
⟨.v 5, none, .op (.mov (.l 0))⟩]) (
.block 2 (
.loop (
.seq (
.seq (
.any 17 16 [⟨0, ⟨.v 8, none, .op (.mov (.v 5))⟩, false, []⟩,
⟨1, ⟨.v 9, none, .op (.mov (.v 1))⟩, false, []⟩,
⟨2, ⟨.v 10, none, .op (.bin .gtr .i64 (.v 8) (.v 9))⟩, false, []⟩,
⟨3, ⟨.v 11, none, .op (.mov (.v 10))⟩, false, []⟩,
⟨4, ⟨.v 12, some ((.v 11), true), .op (.mov (.v 3))⟩, false, []⟩,
⟨5, ⟨.v 13, some ((.v 11), true), .op (.mov (.v 0))⟩, false, []⟩,
⟨6, ⟨.v 14, some ((.v 11), true), .op (.mov (.v 5))⟩, false, []⟩,
⟨7, ⟨.v 15, some ((.v 11), true), .op (.ixa 4 (.v 13) (.v 14))⟩, false, []⟩,
⟨8, ⟨.v 16, some ((.v 11), true), .op (.ld true 4 (.v 15))⟩, false, []⟩,
⟨9, ⟨.v 17, some ((.v 11), true), .op (.mov (.v 0))⟩, false, []⟩,
⟨10, ⟨.v 18, some ((.v 11), true), .op (.mov (.v 5))⟩, false, []⟩,
⟨11, ⟨.v 19, some ((.v 11), true), .op (.bin .sub .i64 (.v 18) (.c (.int .i64 1)))⟩, false, []⟩,
⟨12, ⟨.v 20, some ((.v 11), true), .op (.ixa 4 (.v 17) (.v 19))⟩, false, []⟩,
⟨13, ⟨.v 21, some ((.v 11), true), .op (.ld true 4 (.v 20))⟩, false, []⟩,
⟨14, ⟨.v 22, some ((.v 11), true), .callv (.v 12) [(.v 16), (.v 21)]⟩, false, []⟩,
⟨15, ⟨.v 23, some ((.v 11), true), .op (.bin .lss .i64 (.v 22) (.c (.int .i64 0)))⟩, false, []⟩,
⟨16, ⟨.v 7, none, .op (.pick (.v 11) (.v 23) (.c (.bool false)))⟩, false, []⟩]) (
.ite (.v 7) (
.skip) (
.exit 2))) (
.seq (
.block 3 (
.any 18 16 [⟨0, ⟨.v 8, none, .op (.mov (.v 0))⟩, false, []⟩,
⟨1, ⟨.v 9, none, .op (.mov (.v 5))⟩, false, []⟩,
⟨2, ⟨.v 10, none, .op (.mov (.v 0))⟩, false, []⟩,
⟨3, ⟨.v 11, none, .op (.mov (.v 5))⟩, false, []⟩,
⟨4, ⟨.v 12, none, .op (.bin .sub .i64 (.v 11) (.c (.int .i64 1)))⟩, false, []⟩,
⟨5, ⟨.v 13, none, .op (.mov (.v 0))⟩, false, []⟩,
⟨6, ⟨.v 14, none, .op (.mov (.v 5))⟩, false, []⟩,
⟨7, ⟨.v 15, none, .op (.bin .sub .i64 (.v 14) (.c (.int .i64 1)))⟩, false, []⟩,
⟨8, ⟨.v 16, none, .op (.ixa 4 (.v 13) (.v 15))⟩, false, []⟩,
⟨9, ⟨.v 17, none, .op (.ld true 4 (.v 16))⟩, false, []⟩,
⟨10, ⟨.v 18, none, .op (.mov (.v 0))⟩, false, []⟩,
⟨11, ⟨.v 19, none, .op (.mov (.v 5))⟩, false, []⟩,
⟨12, ⟨.v 20, none, .op (.ixa 4 (.v 18) (.v 19))⟩, false, []⟩,
⟨13, ⟨.v 21, none, .op (.ld true 4 (.v 20))⟩, false, []⟩,
⟨14, ⟨.v 22, none, .op (.ixa 4 (.v 8) (.v 9))⟩, false, []⟩,
⟨15, ⟨.n, none, .op (.st 4 (.v 22) (.v 17))⟩, false, []⟩,
⟨16, ⟨.v 23, none, .op (.ixa 4 (.v 10) (.v 12))⟩, false, []⟩,
⟨17, ⟨.n, none, .op (.st 4 (.v 23) (.v 21))⟩, false, []⟩])) (
.reg [⟨.l, none, .op (.mov (.v 5))⟩,
⟨.l, none, .op (.bin .sub .i64 (.l 0) (.c (.int .i64 1)))⟩,
⟨.v 5, none, .op (.mov (.l 0))⟩]))))))) (
.reg [⟨.l, none, .op (.mov (.v 4))⟩,
⟨.l, none, .op (.bin .add .i64 (.l 0) (.c (.int .i64 1)))⟩,
⟨.v 4, none, .op (.mov (.l 0))⟩])))))⟩
/- 140 slices.heapSortCmpFunc[cayley/classes.class] -/
def c_slices_heapSortCmpFunc_classes_class : Ay.Fn := ⟨4, [some 0, some 1, some 2, some 3, none, none, none, none, none, none, none], [],
.seq (
.reg [⟨.l, none, .op (.mov (.v 1))⟩,
⟨.v 4, none, .op (.mov (.l 0))⟩]) (
.seq (
.reg [⟨.v 5, none, .op (.mov (.c (.int .i64 0)))⟩]) (
.seq (
.reg [⟨.l, none, .op (.mov (.v 2))⟩,
⟨.l, none, .op (.mov (.v 1))⟩,
⟨.l, none, .op (.bin .sub .i64 (.l 1) (.l 0))⟩,
⟨.v 6, none, .op (.mov (.l 0))⟩]) (
.seq (
.seq (
.reg [⟨.l, none, .op (.mov (.v 6))⟩,
⟨.l, none, .op (.bin .sub .i64 (.l 0) (.c (.int .i64 1)))⟩,
⟨.l, none, .op (.bin .quo .i64 (.l 0) (.c (.int .i64 2)))⟩,
⟨.v 7, none, .op (.mov (.l 0))⟩]) (
.block 0 (
.loop (
.seq (
.seq (
.reg [⟨.l, none, .op (.mov (.v 7))⟩,
⟨.v 9, none, .op (.bin .geq .i64 (.l 0) (.c (.int .i64 0)))⟩]) (
.ite (.v 9) (
.skip) (
.exit 0))) (
.seq (
.block 1 (
.reg [⟨.l, none, .op (.mov (.v 0))⟩,
⟨.l, none, .op (.mov (.v 7))⟩,
⟨.l, none, .op (.mov (.v 6))⟩,
⟨.l, none, .op (.mov (.v 4))⟩,
⟨.l, none, .op (.mov (.v 3))⟩,
⟨.l, none, .call 169 [(.l 4), (.l 3), (.l 2), (.l 1), (.l 0)]⟩])) (
.reg [⟨.l, none, .op (.mov (.v 7))⟩,
⟨.l, none, .op (.bin .sub .i64 (.l 0) (.c (.int .i64 1)))⟩,
⟨.v 7, none, .op (.mov (.l 0))⟩])))))) (
.seq (
.reg [⟨.l, none, .op (.mov (.v 6))⟩,
⟨.l, none, .op (.bin .sub .i64 (.l 0) (.c (.int .i64 1)))⟩,
⟨.v 8, none, .op (.mov (.l 0))⟩]) (
.block 2 (
.loop (
.seq (
.seq (
.reg [⟨.l, none, .op (.mov (.v 8))⟩,
⟨.v 10, none, .op (.bin .geq .i64 (.l 0) (.c (.int .i64 0)))⟩]) (
.ite (.v 10) (
.skip) (
.exit 2))) (
.seq (
.block 3 (
.seq (
.any 20 18 [⟨0, ⟨.v 11, none, .op (.mov (.v 0))⟩, false, []⟩,
⟨1, ⟨.v 12, none, .op (.mov (.v 4))⟩, false, []⟩,
⟨2, ⟨.v 13, none, .op (.mov (.v 0))⟩, false, []⟩,
⟨3, ⟨.v 14, none, .op (.mov (.v 4))⟩, false, []⟩,
⟨4, ⟨.v 15, none, .op (.mov (.v 8))⟩, false, []⟩,
⟨5, ⟨.v 16, none, .op (.bin .add .i64 (.v 14) (.v 15))⟩, false, []⟩,
⟨6, ⟨.v 17, none, .op (.mov (.v 0))⟩, false, []⟩,
⟨7, ⟨.v 18, none, .op (.mov (.v 4))⟩, false, []⟩,
⟨8, ⟨.v 19, none, .op (.mov (.v 8))⟩, false, []⟩,
⟨9, ⟨.v 20, none, .op (.bin .add .i64 (.v 18) (.v 19))⟩, false, []⟩,
⟨10, ⟨.v 21, none, .op (.ixa 4 (.v 17) (.v 20))⟩, false, []⟩,
⟨11, ⟨.v 22, none, .op (.ld true 4 (.v 21))⟩, false, []⟩,
⟨12, ⟨.v 23, none, .op (.mov (.v 0))⟩, false, []⟩,
⟨13, ⟨.v 24, none, .op (.mov (.v 4))⟩, false, []⟩,
⟨14, ⟨.v 25, none, .op (.ixa 4 (.v 23) (.v 24))⟩, false, []⟩,
⟨15, ⟨.v 26, none, .op (.ld true 4 (.v 25))⟩, false, []⟩,
⟨16, ⟨.v 27, none, .op (.ixa 4 (.v 11) (.v 12))⟩, false, []⟩,
⟨17, ⟨.n, none, .op (.st 4 (.v 27) (.v 22))⟩, false, []⟩,
⟨18, ⟨.v 28, none, .op (.ixa 4 (.v 13) (.v 16))⟩, false, []⟩,
⟨19, ⟨.n, none, .op (.st 4 (.v 28) (.v 26))⟩, false, []⟩]) (
.reg [⟨.l, none, .op (.mov (.v 0))⟩,
⟨.l, none, .op (.mov (.v 5))⟩,
⟨.l, none, .op (.mov (.v 8))⟩,
⟨.l, none, .op (.mov (.v 4))⟩,
⟨.l, none, .op (.mov (.v 3))⟩,
⟨.l, none, .call 169 [(.l 4), (.l 3), (.l 2), (.l 1), (.l 0)]⟩]))) (
.reg [⟨.l, none, .op (.mov (.v 8))⟩,
⟨.l, none, .op (.bin .sub .i64 (.l 0) (.c (.int .i64 1)))⟩,
⟨.v 8, none, .op (.mov (.l 0))⟩])))))))))⟩
/- 141 slices.breakPatternsCmpFunc[cayley/classes.class] -/
def c_slices_breakPatternsCmpFunc_classes_class : Ay.Fn := ⟨4, [some 0, some 1, some 2, none, none, none, none, none, none, none, none], [],
.seq (
.reg [⟨.l, none, .op (.mov (.v 2))⟩,
⟨.l, none, .op (.mov (.v 1))⟩,
⟨.l, none, .op (.bin .sub .i64 (.l 1) (.l 0))⟩,
⟨.v 3, none, .op (.mov (.l 0))⟩]) (
.seq (
.reg [⟨.l, none, .op (.mov (.v 3))⟩,
⟨.v 8, none, .op (.bin .geq .i64 (.l 0) (.c (.int .i64 8)))⟩]) (
.ite (.v 8) (
.seq (
.reg [⟨.l, none, .op (.mov (.v 3))⟩,
⟨.l, none, .op (.conv .u64 (.l 0))⟩,
⟨.v 4, none, .op (.alc [(.int .u64 0)])⟩,
⟨.n, none, .op (.st 1 (.v 4) (.l 0))⟩]) (
.seq (
.reg [⟨.l, none, .op (.mov (.v 3))⟩,
⟨.l, none, .call 165 [(.l 0)]⟩,
⟨.v 5, none, .op (.mov (.l 0))⟩]) (
.seq (
.reg [⟨.l, none, .op (.mov (.v 1))⟩,
⟨.l, none, .op (.mov (.v 3))⟩,
⟨.l, none, .op (.bin .quo .i64 (.l 0) (.c (.int .i64 4)))⟩,
⟨.l, none, .op (.bin .mul .i64 (.l 0) (.c (.int .i64 2)))⟩,
⟨.l, none, .op (.bin .add .i64 (.l 3) (.l 0))⟩,
⟨.l, none, .op (.bin .sub .i64 (.l 0) (.c (.int .i64 1)))⟩,
⟨.v 6, none, .op (.mov (.l 0))⟩]) (
.block 0 (
.loop (
.seq (
.seq (
.reg [⟨.l, none, .op (.mov (.v 6))⟩,
⟨.l, none, .op (.mov (.v 1))⟩,
⟨.l, none, .op (.mov (.v 3))⟩,
⟨.l, none, .op (.bin .quo .i64 (.l 0) (.c (.int .i64 4)))⟩,
⟨.l, none, .op (.bin .mul .i64 (.l 0) (.c (.int .i64 2)))⟩,
⟨.l, none, .op (.bin .add .i64 (.l 3) (.l 0))⟩,
⟨.l, none, .op (.bin .add .i64 (.l 0) (.c (.int .i64 1)))⟩,
⟨.v 9, none, .op (.bin .leq .i64 (.l 6) (.l 0))⟩]) (
.ite (.v 9) (
.skip) (
.exit 0))) (
.seq (
.block 1 (
.seq (
.reg [⟨.l, none, .call 166 [(.v 4)]⟩,
⟨.l, none, .op (.mov (.v 5))⟩,
⟨.l, none, .op (.bin .sub .u64 (.l 0) (.c (.int .u64 1)))⟩,
⟨.l, none, .op (.bin .and .u64 (.l 2) (.l 0))⟩,
⟨.l, none, .op (.conv .i64 (.l 0))⟩,
⟨.v 7, none, .op (.mov (.l 0))⟩]) (
.seq (
.seq (
.reg [⟨.l, none, .op (.mov (.v 7))⟩,
⟨.l, none, .op (.mov (.v 3))⟩,
⟨.v 10, none, .op (.bin .geq .i64 (.l 1) (.l 0))⟩]) (
.ite (.v 10) (
.reg [⟨.l, none, .op (.mov (.v 7))⟩,
⟨.l, none, .op (.mov (.v 3))⟩,
⟨.l, none, .op (.bin .sub .i64 (.l 1) (.l 0))⟩,
⟨.v 7, none, .op (.mov (.l 0))⟩]) (
.skip))) (
.any 20 18 [⟨0, ⟨.v 11, none, .op (.mov (.v 0))⟩, false, []⟩,
⟨1, ⟨.v 12, none, .op (.mov (.v 6))⟩, false, []⟩,
⟨2, ⟨.v 13, none, .op (.mov (.v 0))⟩, false, []⟩,
⟨3, ⟨.v 14, none, .op (.mov (.v 1))⟩, false, []⟩,
⟨4, ⟨.v 15, none, .op (.mov (.v 7))⟩, false, []⟩,
⟨5, ⟨.v 16, none, .op (.bin .add .i64 (.v 14) (.v 15))⟩, false, []⟩,
⟨6, ⟨.v 17, none, .op (.mov (.v 0))⟩, false, []⟩,
⟨7, ⟨.v 18, none, .op (.mov (.v 1))⟩, false, []⟩,
⟨8, ⟨.v 19, none, .op (.mov (.v 7))⟩, false, []⟩,
⟨9, ⟨.v 20, none, .op (.bin .add .i64 (.v 18) (.v 19))⟩, false, []⟩,
⟨10, ⟨.v 21, none, .op (.ixa 4 (.v 17) (.v 20))⟩, false, []⟩,
⟨11, ⟨.v 22, none, .op (.ld true 4 (.v 21))⟩, false, []⟩,
⟨12, ⟨.v 23, none, .op (.mov (.v 0))⟩, false, []⟩,
⟨13, ⟨.v 24, none, .op (.mov (.v 6))⟩, false, []⟩,
⟨14, ⟨.v 25, none, .op (.ixa 4 (.v 23) (.v 24))⟩, false, []⟩,
⟨15, ⟨.v 26, none, .op (.ld true 4 (.v 25))⟩, false, []⟩,
⟨16, ⟨.v 27, none, .op (.ixa 4 (.v 11) (.v 12))⟩, false, []⟩,
⟨17, ⟨.n, none, .op (.st 4 (.v 27) (.v 22))⟩, false, []⟩,
⟨18, ⟨.v 28, none, .op (.ixa 4 (.v 13) (.v 16))⟩, false, []⟩,
⟨19, ⟨.n, none, .op (.st 4 (.v 28) (.v 26))⟩, false, []⟩])))) (
.reg [⟨.l, none, .op (.mov (.v 6))⟩,
⟨.l, none, .op (.bin .add .i64 (.l 0) (.c (.int .i64 1)))⟩,
⟨.v 6, none, .op (.mov (.l 0))⟩])))))))) (
.skip)))⟩
/- 142 slices.choosePivotCmpFunc[cayley/classes.class] -/
def c_slices_choosePivotCmpFunc_classes_class : Ay.Fn := ⟨4, [some 0, some 1, some 2, some 3, none, none, none, none, none, none, none, none, none, none, none, none], [.v 4, .v 5],
.seq (
.reg [⟨.v 4, none, .op (.mov (.c (.int .i64 0)))⟩,
⟨.v 5, none, .op (.mov (.c (.int .i64 0)))⟩]) (
.seq (
.reg [⟨.l, none, .op (.mov (.v 2))⟩,
⟨.l, none, .op (.mov (.v 1))⟩,
⟨.l, none, .op (.bin .sub .i64 (.l 1) (.l 0))⟩,
⟨.v 6, none, .op (.mov (.l 0))⟩]) (
.seq (
.reg [⟨.v 7, none, .op (.alc [(.int .i64 0)])⟩]) (
.seq (
.reg [⟨.l, none, .op (.mov (.v 1))⟩,
⟨.l, none, .op (.mov (.v 6))⟩,
⟨.l, none, .op (.bin .quo .i64 (.l 0) (.c (.int .i64 4)))⟩,
⟨.l, none, .op (.bin .mul .i64 (.l 0) (.c (.int .i64 1)))⟩,
⟨.l, none, .op (.bin .add .i64 (.l 3) (.l 0))⟩,
⟨.v 8, none, .op (.mov (.l 0))⟩]) (
.seq (
.reg [⟨.l, none, .op (.mov (.v 1))⟩,
⟨.l, none, .op (.mov (.v 6))⟩,
⟨.l, none, .op (.bin .quo .i64 (.l 0) (.c (.int .i64 4)))⟩,
⟨.l, none, .op (.bin .mul .i64 (.l 0) (.c (.int .i64 2)))⟩,
⟨.l, none, .op (.bin .add .i64 (.l 3) (.l 0))⟩,
⟨.v 9, none, .op (.mov (.l 0))⟩]) (
.seq (
.reg [⟨.l, none, .op (.mov (.v 1))⟩,
⟨.l, none, .op (.mov (.v 6))⟩,
⟨.l, none, .op (.bin .quo .i64 (.l 0) (.c (.int .i64 4)))⟩,
⟨.l, none, .op (.bin .mul .i64 (.l 0) (.c (.int .i64 3)))⟩,
⟨.l, none, .op (.bin .add .i64 (.l 3) (.l 0))⟩,
⟨.v 10, none, .op (.mov (.l 0))⟩]) (
.seq (
.seq (
.reg [⟨.l, none, .op (.mov (.v 6))⟩,
⟨.v 11, none, .op (.bin .geq .i64 (.l 0) (.c (.int .i64 8)))⟩]) (
.ite (.v 11) (
.seq (
.seq (
.reg [⟨.l, none, .op (.mov (.v 6))⟩,
⟨.v 12, none, .op (.bin .geq .i64 (.l 0) (.c (.int .i64 50)))⟩]) (
.ite (.v 12) (
.seq (
.reg [⟨.l, none, .op (.mov (.v 0))⟩,
⟨.l, none, .op (.mov (.v 8))⟩,
⟨.l, none, .op (.mov (.v 3))⟩,
⟨.l, none, .call 170 [(.l 2), (.l 1), (.v 7), (.l 0)]⟩,
⟨.v 8, none, .op (.mov (.l 0))⟩]) (
.seq (
.reg [⟨.l, none, .op (.mov (.v 0))⟩,
⟨.l, none, .op (.mov (.v 9))⟩,
⟨.l, none, .op (.mov (.v 3))⟩,
⟨.l, none, .call 170 [(.l 2), (.l 1), (.v 7), (.l 0)]⟩,
⟨.v 9, none, .op (.mov (.l 0))⟩]) (
.reg [⟨.l, none, .op (.mov (.v 0))⟩,
⟨.l, none, .op (.mov (.v 10))⟩,
⟨.l, none, .op (.mov (.v 3))⟩,
⟨.l, none, .call 170 [(.l 2), (.l 1), (.v 7), (.l 0)]⟩,
⟨.v 10, none, .op (.mov (.l 0))⟩]))) (
.skip))) (
.reg [⟨.l, none, .op (.mov (.v 0))⟩,
⟨.l, none, .op (.mov (.v 8))⟩,
⟨.l, none, .op (.mov (.v 9))⟩,
⟨.l, none, .op (.mov (.v 10))⟩,
⟨.l, none, .op (.mov (.v 3))⟩,
⟨.l, none, .call 171 [(.l 4), (.l 3), (.l 2), (.l 1), (.v 7), (.l 0)]⟩,
⟨.v 9, none, .op (.mov (.l 0))⟩])) (
.skip))) (
.seq (
.reg [⟨.v 13, none, .op (.ld false 1 (.v 7))⟩]) (
.block 0 (
.seq (
.reg [⟨.l, none, .op (.bin .eql .i64 (.v 13) (.c (.int .i64 0)))⟩,
⟨.v 14, none, .op (.mov (.l 0))⟩]) (
.ite (.v 14) (
.seq (
.reg [⟨.l, none, .op (.mov (.v 9))⟩,
⟨.v 4, none, .op (.mov (.l 0))⟩,
⟨.v 5, none, .op (.mov (.c (.int .i64 1)))⟩]) (
.ret)) (
.seq (
.reg [⟨.l, none, .op (.bin .eql .i64 (.v 13) (.c (.int .i64 12)))⟩,
⟨.v 15, none, .op (.mov (.l 0))⟩]) (
.ite (.v 15) (
.seq (
.reg [⟨.l, none, .op (.mov (.v 9))⟩,
⟨.v 4, none, .op (.mov (.l 0))⟩,
⟨.v 5, none, .op (.mov (.c (.int .i64 2)))⟩]) (
.ret)) (
.seq (
.reg [⟨.l, none, .op (.mov (.v 9))⟩,
⟨.v 4, none, .op (.mov (.l 0))⟩,
⟨.v 5, none, .op (.mov (.c (.int .i64 0)))⟩]) (
.ret))))))))))))))⟩
/- 143 slices.reverseRangeCmpFunc[cayley/classes.class] -/
def c_slices_reverseRangeCmpFunc_classes_class : Ay.Fn := ⟨4, [some 0, some 1, some 2, none, none, none], [],
.seq (
.reg [⟨.l, none, .op (.mov (.v 1))⟩,
⟨.v 3, none, .op (.mov (.l 0))⟩]) (
.seq (
.reg [⟨.l, none, .op (.mov (.v 2))⟩,
⟨.l, none, .op (.bin .sub .i64 (.l 0) (.c (.int .i64 1)))⟩,
⟨.v 4, none, .op (.mov (.l 0))⟩]) (
.block 0 (
.loop (
.seq (
.seq (
.reg [⟨.l, none, .op (.mov (.v 3))⟩,
⟨.l, none, .op (.mov (.v 4))⟩,
⟨.v 5, none, .op (.bin .lss .i64 (.l 1) (.l 0))⟩]) (
.ite (.v 5) (
.skip) (
.exit 0))) (
.block 1 (
.seq (
.any 16 14 [⟨0, ⟨.v 6, none, .op (.mov (.v 0))⟩, false, []⟩,
⟨1, ⟨.v 7, none, .op (.mov (.v 3))⟩, false, []⟩,
⟨2, ⟨.v 8, none, .op (.mov (.v 0))⟩, false, []⟩,
⟨3, ⟨.v 9, none, .op (.mov (.v 4))⟩, false, []⟩,
⟨4, ⟨.v 10, none, .op (.mov (.v 0))⟩, false, []⟩,
⟨5, ⟨.v 11, none, .op (.mov (.v 4))⟩, false, []⟩,
⟨6, ⟨.v 12, none, .op (.ixa 4 (.v 10) (.v 11))⟩, false, []⟩,
⟨7, ⟨.v 13, none, .op (.ld true 4 (.v 12))⟩, false, []⟩,
⟨8, ⟨.v 14, none, .op (.mov (.v 0))⟩, false, []⟩,
⟨9, ⟨.v 15, none, .op (.mov (.v 3))⟩, false, []⟩,
⟨10, ⟨.v 16, none, .op (.ixa 4 (.v 14) (.v 15))⟩, false, []⟩,
⟨11, ⟨.v 17, none, .op (.ld true 4 (.v 16))⟩, false, []⟩,
⟨12, ⟨.v 18, none, .op (.ixa 4 (.v 6) (.v 7))⟩, false, []⟩,
⟨13, ⟨.n, none, .op (.st 4 (.v 18) (.v 13))⟩, false, []⟩,
⟨14, ⟨.v 19, none, .op (.ixa 4 (.v 8) (.v 9))⟩, false, []⟩,
⟨15, ⟨.n, none, .op (.st 4 (.v 19) (.v 17))⟩, false, []⟩]) (
.seq (
.reg [⟨.l, none, .op (.mov (.v 3))⟩,
⟨.l, none, .op (.bin .add .i64 (.l 0) (.c (.int .i64 1)))⟩,
⟨.v 3, none, .op (.mov (.l 0))⟩]) (
.reg [⟨.l, none, .op (.mov (.v 4))⟩,
⟨.l, none, .op (.bin .sub .i64 (.l 0) (.c (.int .i64 1)))⟩,
⟨.v 4, none, .op (.mov (.l 0))⟩]))))))))⟩
end Go.Proofs.YtddpkbicnolafaaGreat
