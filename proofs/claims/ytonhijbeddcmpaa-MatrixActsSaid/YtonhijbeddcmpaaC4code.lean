/- The functions of the seat, as code of the abstract machine. -/
import Derived.Test.YtonhijbeddcmpaaAy25
namespace Go.Proofs.Ytonhijbeddcmpaa
open Go Go.Ay
set_option maxRecDepth 100000
/- 4 cayley/cayleylaw04.MatrixActs -/
abbrev n_law04_MatrixActs : Nat := 4
def c_law04_MatrixActs : Ay.Fn := ⟨2, [some 0, some 1, none, none, none, none, none, none, none, none, none, none, none, none, none, none, none, none, none, none, none, none, none, none, none, none, none, none, none, none, none], [.v 2],
.seq (
.reg [⟨.v 2, none, .op (.mov (.c (.bool false)))⟩]) (
.seq (
.seq (
.reg [⟨.l, none, .call 11 []⟩,
⟨.v 23, none, .op (.not (.l 0))⟩]) (
.ite (.v 23) (
.seq (
.reg [⟨.v 2, none, .op (.mov (.c (.bool false)))⟩]) (
.ret)) (
.skip))) (
.seq (
.seq (
.reg [⟨.l, none, .op (.mov (.v 0))⟩,
⟨.l, none, .op (.lens (.l 0))⟩,
⟨.v 24, none, .op (.bin .gtr .i64 (.l 0) (.c (.int .i64 60)))⟩]) (
.ite (.v 24) (
.seq (
.reg [⟨.v 2, none, .op (.mov (.c (.bool true)))⟩]) (
.ret)) (
.skip))) (
.seq (
.reg [⟨.l, none, .op (.bld [(.int .i64 0), (.int .i64 0)] [(0, 1, (.c (.int .i64 2))), (1, 1, (.c (.int .i64 1)))])⟩,
⟨.l, none, .op (.bld [(.int .i64 0), (.int .i64 0)] [(0, 1, (.c (.int .i64 2))), (1, 1, (.c (.int .i64 2)))])⟩,
⟨.l, none, .op (.bld [(.int .i64 0), (.int .i64 0)] [(0, 1, (.c (.int .i64 2))), (1, 1, (.c (.int .i64 3)))])⟩,
⟨.l, none, .op (.bld [(.int .i64 0), (.int .i64 0)] [(0, 1, (.c (.int .i64 2))), (1, 1, (.c (.int .i64 4)))])⟩,
⟨.l, none, .op (.bld [(.int .i64 0), (.int .i64 0)] [(0, 1, (.c (.int .i64 2))), (1, 1, (.c (.int .i64 5)))])⟩,
⟨.l, none, .op (.bld [(.int .i64 0), (.int .i64 0)] [(0, 1, (.c (.int .i64 2))), (1, 1, (.c (.int .i64 6)))])⟩,
⟨.l, none, .op (.bld [(.int .i64 0), (.int .i64 0)] [(0, 1, (.c (.int .i64 3))), (1, 1, (.c (.int .i64 1)))])⟩,
⟨.l, none, .op (.bld [(.int .i64 0), (.int .i64 0)] [(0, 1, (.c (.int .i64 3))), (1, 1, (.c (.int .i64 2)))])⟩,
⟨.l, none, .op (.bld [(.int .i64 0), (.int .i64 0)] [(0, 1, (.c (.int .i64 3))), (1, 1, (.c (.int .i64 3)))])⟩,
⟨.l, none, .op (.bld [(.int .i64 0), (.int .i64 0)] [(0, 1, (.c (.int .i64 5))), (1, 1, (.c (.int .i64 2)))])⟩,
⟨.l, none, .op (.bld [(.int .i64 0), (.int .i64 0)] [(0, 1, (.c (.int .i64 7))), (1, 1, (.c (.int .i64 2)))])⟩,
⟨.l, none, .op (.bld [(.int .i64 0), (.int .i64 0)] [(0, 1, (.c (.int .i64 61))), (1, 1, (.c (.int .i64 1)))])⟩,
⟨.l, none, .op (.bls 2 [(.int .i64 0), (.int .i64 0)] 12 [(0, 2, (.l 11)), (2, 2, (.l 10)), (4, 2, (.l 9)), (6, 2, (.l 8)), (8, 2, (.l 7)), (10, 2, (.l 6)), (12, 2, (.l 5)), (14, 2, (.l 4)), (16, 2, (.l 3)), (18, 2, (.l 2)), (20, 2, (.l 1)), (22, 2, (.l 0))])⟩,
⟨.l, none, .op (.mov (.v 1))⟩,
⟨.l, none, .call 18 [(.l 0), (.c (.int .i64 12))]⟩,
⟨.l, none, .op (.ixa 2 (.l 2) (.l 0))⟩,
⟨.l, none, .op (.ld true 2 (.l 0))⟩,
⟨.v 3, none, .op (.alc [(.int .i64 0), (.int .i64 0)])⟩,
⟨.n, none, .op (.st 2 (.v 3) (.l 0))⟩]) (
.seq (
.reg [⟨.l, none, .op (.mov (.v 0))⟩,
⟨.l, none, .op (.bld [.nils, (.int .i64 0)] [(0, 1, (.l 0))])⟩,
⟨.l, none, .op (.box (.l 0))⟩,
⟨.v 4, none, .op (.mov (.l 0))⟩]) (
.seq (
.any 16 12 [⟨0, ⟨.v 31, none, .op (.mov (.v 4))⟩, false, []⟩,
⟨1, ⟨.v 32, none, .op (.fla 1 (.v 3))⟩, false, []⟩,
⟨2, ⟨.v 33, none, .op (.ld false 1 (.v 32))⟩, false, []⟩,
⟨3, ⟨.v 34, none, .op (.fla 0 (.v 3))⟩, false, []⟩,
⟨4, ⟨.v 35, none, .op (.ld false 1 (.v 34))⟩, false, []⟩,
⟨6, ⟨.v 37, none, .op (.mov (.v 4))⟩, false, []⟩,
⟨7, ⟨.v 38, none, .op (.fla 1 (.v 3))⟩, false, []⟩,
⟨8, ⟨.v 39, none, .op (.ld false 1 (.v 38))⟩, false, []⟩,
⟨9, ⟨.v 40, none, .op (.fla 0 (.v 3))⟩, false, []⟩,
⟨10, ⟨.v 41, none, .op (.ld false 1 (.v 40))⟩, false, []⟩,
⟨5, ⟨.v 36, none, .call 19 [(.v 31), (.v 33), (.v 35)]⟩, false, [10, 8]⟩,
⟨11, ⟨.v 42, none, .call 19 [(.v 37), (.v 39), (.v 41)]⟩, false, []⟩,
⟨12, ⟨.v 5, none, .op (.alc [(.int .i64 0), .nils])⟩, true, []⟩,
⟨13, ⟨.v 6, none, .op (.alc [(.int .i64 0), .nils])⟩, true, []⟩,
⟨14, ⟨.n, none, .op (.st 2 (.v 5) (.v 36))⟩, false, []⟩,
⟨15, ⟨.n, none, .op (.st 2 (.v 6) (.v 42))⟩, false, []⟩]) (
.seq (
.reg [⟨.l, none, .op (.ld true 2 (.v 5))⟩,
⟨.l, none, .op (.ld true 2 (.v 6))⟩,
⟨.l, none, .call 20 [(.l 1), (.l 0)]⟩,
⟨.l, none, .op (.mov (.l 0))⟩,
⟨.l, none, .op (.ext (.l 0) 0)⟩,
⟨.l, none, .op (.ext (.l 1) 1)⟩,
⟨.v 7, none, .op (.alc [(.int .i64 0), .nils])⟩,
⟨.n, none, .op (.st 2 (.v 7) (.l 1))⟩,
⟨.v 8, none, .op (.mov (.l 0))⟩]) (
.seq (
.reg [⟨.l, none, .op (.ld true 2 (.v 5))⟩,
⟨.l, none, .call 15 [(.l 0)]⟩,
⟨.l, none, .op (.mov (.l 0))⟩,
⟨.l, none, .op (.ext (.l 0) 0)⟩,
⟨.l, none, .op (.ext (.l 1) 1)⟩,
⟨.v 9, none, .op (.mov (.l 1))⟩,
⟨.v 10, none, .op (.mov (.l 0))⟩]) (
.seq (
.reg [⟨.l, none, .op (.ld true 2 (.v 6))⟩,
⟨.l, none, .call 15 [(.l 0)]⟩,
⟨.l, none, .op (.mov (.l 0))⟩,
⟨.l, none, .op (.ext (.l 0) 0)⟩,
⟨.l, none, .op (.ext (.l 1) 1)⟩,
⟨.v 11, none, .op (.mov (.l 1))⟩,
⟨.v 12, none, .op (.mov (.l 0))⟩]) (
.seq (
.reg [⟨.l, none, .op (.ld true 2 (.v 7))⟩,
⟨.l, none, .call 15 [(.l 0)]⟩,
⟨.l, none, .op (.mov (.l 0))⟩,
⟨.l, none, .op (.ext (.l 0) 0)⟩,
⟨.l, none, .op (.ext (.l 1) 1)⟩,
⟨.v 13, none, .op (.mov (.l 1))⟩,
⟨.v 14, none, .op (.mov (.l 0))⟩]) (
.seq (
.reg [⟨.l, none, .op (.ld true 2 (.v 5))⟩,
⟨.l, none, .call 21 [(.l 0)]⟩,
⟨.l, none, .op (.mov (.l 0))⟩,
⟨.l, none, .op (.ext (.l 0) 0)⟩,
⟨.l, none, .op (.ext (.l 1) 1)⟩,
⟨.v 15, none, .op (.mov (.l 1))⟩,
⟨.v 16, none, .op (.mov (.l 0))⟩]) (
.seq (
.seq (
.reg [⟨.l, none, .op (.mov (.v 8))⟩,
⟨.l, none, .op (.bin .neq .i64 (.l 0) (.c (.int .i64 0)))⟩,
⟨.l, none, .op (.mov (.l 0))⟩,
⟨.l, some ((.l 0), false), .op (.mov (.v 16))⟩,
⟨.l, some ((.l 1), false), .op (.bin .neq .i64 (.l 0) (.c (.int .i64 0)))⟩,
⟨.l, none, .op (.pick (.l 2) (.c (.bool true)) (.l 0))⟩,
⟨.l, none, .op (.mov (.l 0))⟩,
⟨.l, some ((.l 0), false), .op (.mov (.v 15))⟩,
⟨.l, some ((.l 1), false), .op (.bin .eql .i64 (.l 0) (.c (.int .i64 0)))⟩,
⟨.l, some ((.l 2), false), .op (.mov (.v 10))⟩,
⟨.l, some ((.l 3), false), .op (.bin .eql .i64 (.l 0) (.c (.int .i64 15)))⟩,
⟨.l, some ((.l 4), false), .op (.beq true (.l 2) (.l 0))⟩,
⟨.l, none, .op (.pick (.l 5) (.c (.bool true)) (.l 0))⟩,
⟨.l, none, .op (.mov (.l 0))⟩,
⟨.l, some ((.l 0), false), .op (.mov (.v 14))⟩,
⟨.l, some ((.l 1), false), .op (.bin .eql .i64 (.l 0) (.c (.int .i64 0)))⟩,
⟨.l, some ((.l 2), false), .op (.mov (.v 10))⟩,
⟨.l, some ((.l 3), false), .op (.bin .eql .i64 (.l 0) (.c (.int .i64 0)))⟩,
⟨.l, some ((.l 4), false), .op (.mov (.l 0))⟩,
⟨.l, some ((.l 0), true), .op (.mov (.v 12))⟩,
⟨.l, some ((.l 1), true), .op (.bin .eql .i64 (.l 0) (.c (.int .i64 0)))⟩,
⟨.l, some ((.l 7), false), .op (.pick (.l 2) (.l 0) (.c (.bool false)))⟩,
⟨.l, some ((.l 8), false), .op (.beq true (.l 6) (.l 0))⟩,
⟨.v 25, none, .op (.pick (.l 9) (.c (.bool true)) (.l 0))⟩]) (
.ite (.v 25) (
.seq (
.reg [⟨.v 2, none, .op (.mov (.c (.bool false)))⟩]) (
.ret)) (
.skip))) (
.seq (
.seq (
.reg [⟨.l, none, .op (.mov (.v 14))⟩,
⟨.v 26, none, .op (.bin .neq .i64 (.l 0) (.c (.int .i64 0)))⟩]) (
.ite (.v 26) (
.seq (
.reg [⟨.v 2, none, .op (.mov (.c (.bool true)))⟩]) (
.ret)) (
.skip))) (
.seq (
.reg [⟨.v 17, none, .op (.mov (.c (.int .i64 1)))⟩]) (
.seq (
.seq (
.reg [⟨.v 18, none, .op (.mov (.c (.int .i64 0)))⟩]) (
.block 0 (
.loop (
.seq (
.seq (
.reg [⟨.l, none, .op (.mov (.v 18))⟩,
⟨.l, none, .op (.fla 1 (.v 3))⟩,
⟨.l, none, .op (.ld false 1 (.l 0))⟩,
⟨.v 27, none, .op (.bin .lss .i64 (.l 2) (.l 0))⟩]) (
.ite (.v 27) (
.skip) (
.exit 0))) (
.seq (
.block 1 (
.reg [⟨.l, none, .op (.mov (.v 17))⟩,
⟨.l, none, .op (.fla 0 (.v 3))⟩,
⟨.l, none, .op (.ld false 1 (.l 0))⟩,
⟨.l, none, .op (.bin .mul .i64 (.l 2) (.l 0))⟩,
⟨.v 17, none, .op (.mov (.l 0))⟩])) (
.reg [⟨.l, none, .op (.mov (.v 18))⟩,
⟨.l, none, .op (.bin .add .i64 (.l 0) (.c (.int .i64 1)))⟩,
⟨.v 18, none, .op (.mov (.l 0))⟩])))))) (
.seq (
.seq (
.reg [⟨.l, none, .op (.mov (.v 9))⟩,
⟨.l, none, .op (.mov (.v 17))⟩,
⟨.l, none, .call 22 [(.l 1), (.l 0)]⟩,
⟨.l, none, .op (.not (.l 0))⟩,
⟨.l, none, .op (.mov (.l 0))⟩,
⟨.l, some ((.l 0), false), .op (.mov (.v 11))⟩,
⟨.l, some ((.l 1), false), .op (.mov (.v 17))⟩,
⟨.l, some ((.l 2), false), .call 22 [(.l 1), (.l 0)]⟩,
⟨.l, some ((.l 3), false), .op (.not (.l 0))⟩,
⟨.l, none, .op (.pick (.l 4) (.c (.bool true)) (.l 0))⟩,
⟨.l, none, .op (.mov (.l 0))⟩,
⟨.l, some ((.l 0), false), .op (.mov (.v 9))⟩,
⟨.l, some ((.l 1), false), .op (.mov (.v 11))⟩,
⟨.l, some ((.l 2), false), .call 23 [(.l 1), (.l 0)]⟩,
⟨.l, some ((.l 3), false), .op (.mov (.v 13))⟩,
⟨.l, some ((.l 4), false), .call 17 [(.l 1), (.l 0)]⟩,
⟨.l, some ((.l 5), false), .op (.not (.l 0))⟩,
⟨.l, none, .op (.pick (.l 6) (.c (.bool true)) (.l 0))⟩,
⟨.l, none, .op (.mov (.l 0))⟩,
⟨.l, some ((.l 0), false), .op (.mov (.v 9))⟩,
⟨.l, some ((.l 1), false), .op (.ixa 1 (.l 0) (.c (.int .i64 0)))⟩,
⟨.l, some ((.l 2), false), .op (.ld false 1 (.l 0))⟩,
⟨.l, some ((.l 3), false), .op (.bin .neq .i64 (.l 0) (.c (.int .i64 0)))⟩,
⟨.v 28, none, .op (.pick (.l 4) (.c (.bool true)) (.l 0))⟩]) (
.ite (.v 28) (
.seq (
.reg [⟨.v 2, none, .op (.mov (.c (.bool false)))⟩]) (
.ret)) (
.skip))) (
.seq (
.reg [⟨.l, none, .op (.ld true 2 (.v 5))⟩,
⟨.l, none, .call 13 [(.l 0)]⟩,
⟨.l, none, .op (.mov (.l 0))⟩,
⟨.l, none, .op (.ext (.l 0) 0)⟩,
⟨.l, none, .op (.ext (.l 1) 1)⟩,
⟨.v 19, none, .op (.mov (.l 1))⟩,
⟨.v 20, none, .op (.mov (.l 0))⟩]) (
.seq (
.reg [⟨.l, none, .op (.mov (.v 17))⟩,
⟨.l, none, .call 24 [(.l 0)]⟩,
⟨.v 21, none, .op (.mov (.l 0))⟩]) (
.seq (
.seq (
.reg [⟨.v 22, none, .op (.mov (.c (.int .i64 1)))⟩]) (
.block 2 (
.loop (
.seq (
.seq (
.reg [⟨.l, none, .op (.mov (.v 20))⟩,
⟨.l, none, .op (.bin .eql .i64 (.l 0) (.c (.int .i64 0)))⟩,
⟨.l, none, .op (.mov (.l 0))⟩,
⟨.l, some ((.l 0), true), .op (.mov (.v 22))⟩,
⟨.l, some ((.l 1), true), .op (.mov (.v 19))⟩,
⟨.l, some ((.l 2), true), .op (.bin .leq .i64 (.l 1) (.l 0))⟩,
⟨.v 29, none, .op (.pick (.l 3) (.l 0) (.c (.bool false)))⟩]) (
.ite (.v 29) (
.skip) (
.exit 2))) (
.seq (
.block 3 (
.seq (
.reg [⟨.l, none, .op (.mov (.v 21))⟩,
⟨.l, none, .op (.mov (.v 9))⟩,
⟨.l, none, .call 23 [(.l 1), (.l 0)]⟩,
⟨.v 21, none, .op (.mov (.l 0))⟩]) (
.seq (
.reg [⟨.l, none, .op (.mov (.v 21))⟩,
⟨.l, none, .op (.mov (.v 17))⟩,
⟨.l, none, .call 24 [(.l 0)]⟩,
⟨.l, none, .call 17 [(.l 2), (.l 0)]⟩,
⟨.l, none, .op (.mov (.v 22))⟩,
⟨.l, none, .op (.mov (.v 19))⟩,
⟨.l, none, .op (.bin .eql .i64 (.l 1) (.l 0))⟩,
⟨.v 30, none, .op (.beq true (.l 3) (.l 0))⟩]) (
.ite (.v 30) (
.seq (
.reg [⟨.v 2, none, .op (.mov (.c (.bool false)))⟩]) (
.ret)) (
.skip))))) (
.reg [⟨.l, none, .op (.mov (.v 22))⟩,
⟨.l, none, .op (.bin .add .i64 (.l 0) (.c (.int .i64 1)))⟩,
⟨.v 22, none, .op (.mov (.l 0))⟩])))))) (
.seq (
.reg [⟨.l, none, .op (.mov (.v 20))⟩,
⟨.l, none, .op (.bin .eql .i64 (.l 0) (.c (.int .i64 0)))⟩,
⟨.v 2, none, .op (.mov (.l 0))⟩]) (
.ret))))))))))))))))))))⟩
/- 11 cayley/cayleylaw04.lives -/
abbrev n_law04_lives : Nat := 11
def c_law04_lives : Ay.Fn := ⟨0, [none, none, none, none, none, none, none, none, none, none, none], [.v 0],
.seq (
.reg [⟨.v 0, none, .op (.mov (.c (.bool false)))⟩]) (
.seq (
.reg [⟨.l, none, .op (.bls 1 [(.int .i64 0)] 2 [(0, 1, (.c (.int .i64 1))), (1, 1, (.c (.int .i64 2)))])⟩,
⟨.l, none, .op (.bls 1 [(.int .i64 0)] 2 [(0, 1, (.c (.int .i64 3))), (1, 1, (.c (.int .i64 4)))])⟩,
⟨.l, none, .op (.bls 1 [.nils] 2 [(0, 1, (.l 1)), (1, 1, (.l 0))])⟩,
⟨.l, none, .call 50 [(.l 0)]⟩,
⟨.l, none, .op (.bls 1 [(.int .i64 0)] 2 [(0, 1, (.c (.int .i64 0))), (1, 1, (.c (.int .i64 1)))])⟩,
⟨.l, none, .op (.bls 1 [(.int .i64 0)] 2 [(0, 1, (.c (.int .i64 1))), (1, 1, (.c (.int .i64 0)))])⟩,
⟨.l, none, .op (.bls 1 [.nils] 2 [(0, 1, (.l 1)), (1, 1, (.l 0))])⟩,
⟨.l, none, .call 50 [(.l 0)]⟩,
⟨.v 1, none, .op (.alc [(.int .i64 0), .nils])⟩,
⟨.v 2, none, .op (.alc [(.int .i64 0), .nils])⟩,
⟨.n, none, .op (.st 2 (.v 1) (.l 4))⟩,
⟨.n, none, .op (.st 2 (.v 2) (.l 0))⟩]) (
.seq (
.reg [⟨.l, none, .op (.ld true 2 (.v 1))⟩,
⟨.l, none, .op (.ld true 2 (.v 2))⟩,
⟨.l, none, .call 20 [(.l 1), (.l 0)]⟩,
⟨.l, none, .op (.mov (.l 0))⟩,
⟨.l, none, .op (.ext (.l 0) 0)⟩,
⟨.l, none, .op (.ext (.l 1) 1)⟩,
⟨.v 3, none, .op (.alc [(.int .i64 0), .nils])⟩,
⟨.n, none, .op (.st 2 (.v 3) (.l 1))⟩,
⟨.v 4, none, .op (.mov (.l 0))⟩]) (
.seq (
.reg [⟨.l, none, .op (.ld true 2 (.v 1))⟩,
⟨.l, none, .call 21 [(.l 0)]⟩,
⟨.l, none, .op (.mov (.l 0))⟩,
⟨.l, none, .op (.ext (.l 0) 0)⟩,
⟨.l, none, .op (.ext (.l 1) 1)⟩,
⟨.v 5, none, .op (.mov (.l 1))⟩,
⟨.v 6, none, .op (.mov (.l 0))⟩]) (
.seq (
.reg [⟨.l, none, .op (.ld true 2 (.v 1))⟩,
⟨.l, none, .call 27 [(.l 0)]⟩,
⟨.l, none, .op (.mov (.l 0))⟩,
⟨.l, none, .op (.ext (.l 0) 0)⟩,
⟨.l, none, .op (.ext (.l 1) 1)⟩,
⟨.v 7, none, .op (.alc [(.int .i64 0), .nils])⟩,
⟨.n, none, .op (.st 2 (.v 7) (.l 1))⟩,
⟨.v 8, none, .op (.mov (.l 0))⟩]) (
.seq (
.reg [⟨.l, none, .op (.ld true 2 (.v 1))⟩,
⟨.l, none, .call 13 [(.l 0)]⟩,
⟨.l, none, .op (.mov (.l 0))⟩,
⟨.l, none, .op (.ext (.l 0) 0)⟩,
⟨.l, none, .op (.ext (.l 1) 1)⟩,
⟨.v 9, none, .op (.mov (.l 1))⟩,
⟨.v 10, none, .op (.mov (.l 0))⟩]) (
.seq (
.any 33 32 [⟨0, ⟨.v 11, none, .op (.ld true 2 (.v 3))⟩, false, []⟩,
⟨1, ⟨.v 12, none, .op (.mov (.v 4))⟩, false, []⟩,
⟨2, ⟨.v 13, none, .op (.bls 1 [(.int .i64 0)] 2 [(0, 1, (.c (.int .i64 2))), (1, 1, (.c (.int .i64 1)))])⟩, true, []⟩,
⟨3, ⟨.v 14, none, .op (.bls 1 [(.int .i64 0)] 2 [(0, 1, (.c (.int .i64 4))), (1, 1, (.c (.int .i64 3)))])⟩, true, []⟩,
⟨4, ⟨.v 15, none, .op (.bls 1 [.nils] 2 [(0, 1, (.v 13)), (1, 1, (.v 14))])⟩, true, []⟩,
⟨5, ⟨.v 16, none, .call 50 [(.v 15)]⟩, false, [0]⟩,
⟨6, ⟨.v 17, none, .call 51 [(.v 11), (.v 12), (.v 16)]⟩, false, []⟩,
⟨7, ⟨.v 18, none, .op (.mov (.v 17))⟩, false, []⟩,
⟨8, ⟨.v 19, some ((.v 18), true), .op (.mov (.v 5))⟩, false, []⟩,
⟨9, ⟨.v 20, some ((.v 18), true), .op (.bin .eql .i64 (.v 19) (.c (.int .i64 3)))⟩, false, []⟩,
⟨10, ⟨.v 21, none, .op (.pick (.v 18) (.v 20) (.c (.bool false)))⟩, false, []⟩,
⟨11, ⟨.v 22, none, .op (.mov (.v 21))⟩, false, []⟩,
⟨12, ⟨.v 23, some ((.v 22), true), .op (.mov (.v 6))⟩, false, []⟩,
⟨13, ⟨.v 24, some ((.v 22), true), .op (.bin .eql .i64 (.v 23) (.c (.int .i64 0)))⟩, false, []⟩,
⟨14, ⟨.v 25, none, .op (.pick (.v 22) (.v 24) (.c (.bool false)))⟩, false, []⟩,
⟨15, ⟨.v 26, none, .op (.mov (.v 25))⟩, false, []⟩,
⟨16, ⟨.v 27, some ((.v 26), true), .op (.ld true 2 (.v 7))⟩, false, []⟩,
⟨17, ⟨.v 28, some ((.v 26), true), .op (.mov (.v 8))⟩, false, []⟩,
⟨18, ⟨.v 29, some ((.v 26), true), .op (.bls 1 [(.int .i64 0)] 2 [(0, 1, (.c (.int .i64 3))), (1, 1, (.c (.int .i64 1)))])⟩, true, []⟩,
⟨19, ⟨.v 30, some ((.v 26), true), .op (.bls 1 [(.int .i64 0)] 2 [(0, 1, (.c (.int .i64 4))), (1, 1, (.c (.int .i64 2)))])⟩, true, []⟩,
⟨20, ⟨.v 31, some ((.v 26), true), .op (.bls 1 [.nils] 2 [(0, 1, (.v 29)), (1, 1, (.v 30))])⟩, true, []⟩,
⟨21, ⟨.v 32, some ((.v 26), true), .call 50 [(.v 31)]⟩, false, [16]⟩,
⟨22, ⟨.v 33, some ((.v 26), true), .call 51 [(.v 27), (.v 28), (.v 32)]⟩, false, []⟩,
⟨23, ⟨.v 34, none, .op (.pick (.v 26) (.v 33) (.c (.bool false)))⟩, false, []⟩,
⟨24, ⟨.v 35, none, .op (.mov (.v 34))⟩, false, []⟩,
⟨25, ⟨.v 36, some ((.v 35), true), .op (.mov (.v 9))⟩, false, []⟩,
⟨26, ⟨.v 37, some ((.v 35), true), .op (.bin .eql .i64 (.v 36) (.c (.int .i64 8)))⟩, false, []⟩,
⟨27, ⟨.v 38, none, .op (.pick (.v 35) (.v 37) (.c (.bool false)))⟩, false, []⟩,
⟨28, ⟨.v 39, none, .op (.mov (.v 38))⟩, false, []⟩,
⟨29, ⟨.v 40, some ((.v 39), true), .op (.mov (.v 10))⟩, false, []⟩,
⟨30, ⟨.v 41, some ((.v 39), true), .op (.bin .eql .i64 (.v 40) (.c (.int .i64 0)))⟩, false, []⟩,
⟨31, ⟨.v 42, none, .op (.pick (.v 39) (.v 41) (.c (.bool false)))⟩, false, []⟩,
⟨32, ⟨.v 0, none, .op (.mov (.v 42))⟩, false, []⟩]) (
.ret)))))))⟩
/- 13 cayley/matrix.Order -/
abbrev n_matrix_Order : Nat := 13
def c_matrix_Order : Ay.Fn := ⟨1, [some 0, none, none, none, none, none, none, none, none, none, none, none], [.v 2, .v 3],
.seq (
.reg [⟨.v 1, none, .op (.box (.v 0))⟩,
⟨.v 2, none, .op (.mov (.c (.int .i64 0)))⟩,
⟨.v 3, none, .op (.mov (.c (.int .i64 0)))⟩]) (
.seq (
.seq (
.reg [⟨.l, none, .op (.ld true 2 (.v 1))⟩,
⟨.l, none, .call 27 [(.l 0)]⟩,
⟨.l, none, .op (.mov (.l 0))⟩,
⟨.l, none, .op (.ext (.l 0) 0)⟩,
⟨.l, none, .op (.ext (.l 1) 1)⟩,
⟨.l, none, .op (.alc [(.int .i64 0), .nils])⟩,
⟨.n, none, .op (.st 2 (.l 0) (.l 2))⟩,
⟨.v 4, none, .op (.mov (.l 1))⟩]) (
.seq (
.reg [⟨.l, none, .op (.mov (.v 4))⟩,
⟨.v 8, none, .op (.bin .neq .i64 (.l 0) (.c (.int .i64 0)))⟩]) (
.ite (.v 8) (
.seq (
.reg [⟨.l, none, .op (.mov (.v 4))⟩,
⟨.v 2, none, .op (.mov (.c (.int .i64 0)))⟩,
⟨.v 3, none, .op (.mov (.l 0))⟩]) (
.ret)) (
.skip)))) (
.seq (
.reg [⟨.l, none, .op (.fla 1 (.v 1))⟩,
⟨.l, none, .op (.ld false 1 (.l 0))⟩,
⟨.l, none, .op (.lens (.l 0))⟩,
⟨.l, none, .op (.fla 0 (.v 1))⟩,
⟨.l, none, .op (.ld false 1 (.l 0))⟩,
⟨.l, none, .call 52 [(.l 2), (.l 0)]⟩,
⟨.v 5, none, .op (.alc [(.int .i64 0), .nils])⟩,
⟨.n, none, .op (.st 2 (.v 5) (.l 0))⟩]) (
.seq (
.seq (
.reg [⟨.l, none, .op (.ld true 2 (.v 1))⟩,
⟨.v 6, none, .op (.alc [(.int .i64 0), .nils])⟩,
⟨.n, none, .op (.st 2 (.v 6) (.l 0))⟩,
⟨.v 7, none, .op (.mov (.c (.int .i64 1)))⟩]) (
.block 0 (
.loop (
.seq (
.seq (
.reg [⟨.l, none, .op (.mov (.v 7))⟩,
⟨.v 9, none, .op (.bin .leq .i64 (.l 0) (.c (.int .i64 10000)))⟩]) (
.ite (.v 9) (
.skip) (
.exit 0))) (
.seq (
.block 1 (
.seq (
.reg [⟨.l, none, .op (.fla 1 (.v 6))⟩,
⟨.l, none, .op (.ld false 1 (.l 0))⟩,
⟨.l, none, .op (.fla 1 (.v 5))⟩,
⟨.l, none, .op (.ld false 1 (.l 0))⟩,
⟨.v 10, none, .call 54 [(.l 2), (.l 0), (.c (.fn 55 [] []))]⟩]) (
.ite (.v 10) (
.seq (
.reg [⟨.l, none, .op (.mov (.v 7))⟩,
⟨.v 2, none, .op (.mov (.l 0))⟩,
⟨.v 3, none, .op (.mov (.c (.int .i64 0)))⟩]) (
.ret)) (
.skip)))) (
.seq (
.seq (
.reg [⟨.v 11, none, .op (.ld true 2 (.v 6))⟩]) (
.reg [⟨.v 6, none, .op (.alc [(.int .i64 0), .nils])⟩,
⟨.n, none, .op (.st 2 (.v 6) (.v 11))⟩])) (
.reg [⟨.l, none, .op (.ld true 2 (.v 6))⟩,
⟨.l, none, .op (.ld true 2 (.v 1))⟩,
⟨.l, none, .call 53 [(.l 1), (.l 0)]⟩,
⟨.l, none, .op (.mov (.v 7))⟩,
⟨.l, none, .op (.bin .add .i64 (.l 0) (.c (.int .i64 1)))⟩,
⟨.n, none, .op (.st 2 (.v 6) (.l 2))⟩,
⟨.v 7, none, .op (.mov (.l 0))⟩]))))))) (
.seq (
.reg [⟨.v 2, none, .op (.mov (.c (.int .i64 0)))⟩,
⟨.v 3, none, .op (.mov (.c (.int .i64 5)))⟩]) (
.ret)))))⟩
/- 15 cayley/matrix.Perm -/
abbrev n_matrix_Perm : Nat := 15
def c_matrix_Perm : Ay.Fn := ⟨1, [some 0, none, none, none, none, none, none, none, none, none, none, none, none, none, none, none, none, none, none, none, none, none, none, none, none, none, none], [.v 2, .v 3],
.seq (
.reg [⟨.v 1, none, .op (.box (.v 0))⟩,
⟨.v 2, none, .op (.mov (.c .nils))⟩,
⟨.v 3, none, .op (.mov (.c (.int .i64 0)))⟩]) (
.seq (
.seq (
.reg [⟨.l, none, .op (.ld true 2 (.v 1))⟩,
⟨.l, none, .call 58 [(.l 0)]⟩,
⟨.v 4, none, .op (.mov (.l 0))⟩]) (
.seq (
.reg [⟨.l, none, .op (.mov (.v 4))⟩,
⟨.v 13, none, .op (.bin .neq .i64 (.l 0) (.c (.int .i64 0)))⟩]) (
.ite (.v 13) (
.seq (
.reg [⟨.l, none, .op (.mov (.v 4))⟩,
⟨.v 2, none, .op (.mov (.c .nils))⟩,
⟨.v 3, none, .op (.mov (.l 0))⟩]) (
.ret)) (
.skip)))) (
.seq (
.reg [⟨.v 5, none, .op (.mov (.c (.int .i64 1)))⟩]) (
.seq (
.seq (
.reg [⟨.l, none, .op (.fla 1 (.v 1))⟩,
⟨.l, none, .op (.ld false 1 (.l 0))⟩,
⟨.v 14, none, .op (.lens (.l 0))⟩,
⟨.v 15, none, .op (.mov (.c (.int .i64 0)))⟩]) (
.block 0 (
.loop (
.seq (
.reg [⟨.v 16, none, .op (.bin .lss .i64 (.v 15) (.v 14))⟩]) (
.seq (
.ite (.v 16) (
.skip) (
.exit 0)) (
.seq (
.block 1 (
.seq (
.reg [⟨.l, none, .op (.mov (.v 5))⟩,
⟨.l, none, .op (.fla 0 (.v 1))⟩,
⟨.l, none, .op (.ld false 1 (.l 0))⟩,
⟨.l, none, .op (.bin .mul .i64 (.l 2) (.l 0))⟩,
⟨.v 5, none, .op (.mov (.l 0))⟩]) (
.seq (
.reg [⟨.l, none, .op (.mov (.v 5))⟩,
⟨.v 17, none, .op (.bin .gtr .i64 (.l 0) (.c (.int .i64 64)))⟩]) (
.ite (.v 17) (
.seq (
.reg [⟨.v 2, none, .op (.mov (.c .nils))⟩,
⟨.v 3, none, .op (.mov (.c (.int .i64 5)))⟩]) (
.ret)) (
.skip))))) (
.reg [⟨.l, none, .op (.bin .add .i64 (.v 15) (.c (.int .i64 1)))⟩,
⟨.v 15, none, .op (.mov (.l 0))⟩]))))))) (
.seq (
.seq (
.reg [⟨.l, none, .op (.ld true 2 (.v 1))⟩,
⟨.l, none, .call 59 [(.l 0)]⟩,
⟨.l, none, .op (.mov (.l 0))⟩,
⟨.l, none, .op (.ext (.l 0) 0)⟩,
⟨.l, none, .op (.ext (.l 1) 1)⟩,
⟨.l, none, .op (.alc [(.int .i64 0), .nils])⟩,
⟨.n, none, .op (.st 2 (.l 0) (.l 2))⟩,
⟨.v 6, none, .op (.mov (.l 1))⟩]) (
.seq (
.reg [⟨.l, none, .op (.mov (.v 6))⟩,
⟨.v 18, none, .op (.bin .eql .i64 (.l 0) (.c (.int .i64 0)))⟩]) (
.ite (.v 18) (
.seq (
.reg [⟨.v 2, none, .op (.mov (.c .nils))⟩,
⟨.v 3, none, .op (.mov (.c (.int .i64 15)))⟩]) (
.ret)) (
.skip)))) (
.seq (
.reg [⟨.l, none, .op (.mov (.v 5))⟩,
⟨.l, none, .op (.mks 1 8 [(.int .i64 0)] (.l 0) (.l 0))⟩,
⟨.v 7, none, .op (.mov (.l 0))⟩]) (
.seq (
.reg [⟨.l, none, .op (.fla 1 (.v 1))⟩,
⟨.l, none, .op (.ld false 1 (.l 0))⟩,
⟨.l, none, .op (.lens (.l 0))⟩,
⟨.l, none, .op (.mks 1 8 [(.int .i64 0)] (.l 0) (.l 0))⟩,
⟨.v 8, none, .op (.mov (.l 0))⟩]) (
.seq (
.seq (
.reg [⟨.v 19, none, .op (.mov (.v 5))⟩,
⟨.v 20, none, .op (.mov (.c (.int .i64 0)))⟩]) (
.block 2 (
.loop (
.seq (
.reg [⟨.v 21, none, .op (.bin .lss .i64 (.v 20) (.v 19))⟩]) (
.seq (
.ite (.v 21) (
.skip) (
.exit 2)) (
.seq (
.block 3 (
.seq (
.reg [⟨.l, none, .op (.mov (.v 20))⟩,
⟨.v 9, none, .op (.mov (.l 0))⟩]) (
.seq (
.seq (
.reg [⟨.l, none, .op (.mov (.v 8))⟩,
⟨.l, none, .op (.lens (.l 0))⟩,
⟨.l, none, .op (.bin .sub .i64 (.l 0) (.c (.int .i64 1)))⟩,
⟨.l, none, .op (.mov (.v 9))⟩,
⟨.v 10, none, .op (.mov (.l 1))⟩,
⟨.v 11, none, .op (.mov (.l 0))⟩]) (
.block 4 (
.loop (
.seq (
.seq (
.reg [⟨.l, none, .op (.mov (.v 10))⟩,
⟨.v 22, none, .op (.bin .geq .i64 (.l 0) (.c (.int .i64 0)))⟩]) (
.ite (.v 22) (
.skip) (
.exit 4))) (
.seq (
.block 5 (
.seq (
.reg [⟨.l, none, .op (.mov (.v 8))⟩,
⟨.l, none, .op (.mov (.v 10))⟩,
⟨.l, none, .op (.mov (.v 11))⟩,
⟨.l, none, .op (.fla 0 (.v 1))⟩,
⟨.l, none, .op (.ld false 1 (.l 0))⟩,
⟨.l, none, .op (.bin .rem .i64 (.l 2) (.l 0))⟩,
⟨.l, none, .op (.ixa 1 (.l 5) (.l 4))⟩,
⟨.n, none, .op (.st 1 (.l 0) (.l 1))⟩]) (
.reg [⟨.l, none, .op (.mov (.v 11))⟩,
⟨.l, none, .op (.fla 0 (.v 1))⟩,
⟨.l, none, .op (.ld false 1 (.l 0))⟩,
⟨.l, none, .op (.bin .quo .i64 (.l 2) (.l 0))⟩,
⟨.v 11, none, .op (.mov (.l 0))⟩]))) (
.reg [⟨.l, none, .op (.mov (.v 10))⟩,
⟨.l, none, .op (.bin .sub .i64 (.l 0) (.c (.int .i64 1)))⟩,
⟨.v 10, none, .op (.mov (.l 0))⟩])))))) (
.seq (
.reg [⟨.l, none, .op (.mov (.v 8))⟩,
⟨.l, none, .op (.ld true 2 (.v 1))⟩,
⟨.v 23, none, .call 60 [(.l 1), (.l 0)]⟩,
⟨.v 24, none, .op (.lens (.v 23))⟩,
⟨.v 25, none, .op (.mov (.c (.int .i64 0)))⟩]) (
.block 6 (
.loop (
.seq (
.reg [⟨.v 26, none, .op (.bin .lss .i64 (.v 25) (.v 24))⟩]) (
.seq (
.ite (.v 26) (
.skip) (
.exit 6)) (
.seq (
.block 7 (
.seq (
.reg [⟨.l, none, .op (.ixa 1 (.v 23) (.v 25))⟩,
⟨.l, none, .op (.ld false 1 (.l 0))⟩,
⟨.v 12, none, .op (.mov (.l 0))⟩]) (
.any 13 12 [⟨0, ⟨.v 27, none, .op (.mov (.v 7))⟩, false, []⟩,
⟨1, ⟨.v 28, none, .op (.mov (.v 9))⟩, false, []⟩,
⟨2, ⟨.v 29, none, .op (.mov (.v 7))⟩, false, []⟩,
⟨3, ⟨.v 30, none, .op (.mov (.v 9))⟩, false, []⟩,
⟨4, ⟨.v 31, none, .op (.ixa 1 (.v 29) (.v 30))⟩, false, []⟩,
⟨5, ⟨.v 32, none, .op (.ld false 1 (.v 31))⟩, false, []⟩,
⟨6, ⟨.v 33, none, .op (.fla 0 (.v 1))⟩, false, []⟩,
⟨7, ⟨.v 34, none, .op (.ld false 1 (.v 33))⟩, false, []⟩,
⟨8, ⟨.v 35, none, .op (.bin .mul .i64 (.v 32) (.v 34))⟩, false, []⟩,
⟨9, ⟨.v 36, none, .op (.mov (.v 12))⟩, false, []⟩,
⟨10, ⟨.v 37, none, .op (.bin .add .i64 (.v 35) (.v 36))⟩, false, []⟩,
⟨11, ⟨.v 38, none, .op (.ixa 1 (.v 27) (.v 28))⟩, false, []⟩,
⟨12, ⟨.n, none, .op (.st 1 (.v 38) (.v 37))⟩, false, []⟩]))) (
.reg [⟨.l, none, .op (.bin .add .i64 (.v 25) (.c (.int .i64 1)))⟩,
⟨.v 25, none, .op (.mov (.l 0))⟩])))))))))) (
.reg [⟨.l, none, .op (.bin .add .i64 (.v 20) (.c (.int .i64 1)))⟩,
⟨.v 20, none, .op (.mov (.l 0))⟩]))))))) (
.seq (
.reg [⟨.l, none, .op (.mov (.v 7))⟩,
⟨.v 2, none, .op (.mov (.l 0))⟩,
⟨.v 3, none, .op (.mov (.c (.int .i64 0)))⟩]) (
.ret)))))))))⟩
/- 17 cayley/cayleykit.Same[int] -/
abbrev n_kit_Same_int : Nat := 17
def c_kit_Same_int : Ay.Fn := ⟨2, [some 0, some 1, none, none, none, none, none], [.v 2],
.seq (
.reg [⟨.v 2, none, .op (.mov (.c (.bool false)))⟩]) (
.seq (
.seq (
.reg [⟨.l, none, .op (.mov (.v 0))⟩,
⟨.l, none, .op (.lens (.l 0))⟩,
⟨.l, none, .op (.mov (.v 1))⟩,
⟨.l, none, .op (.lens (.l 0))⟩,
⟨.v 4, none, .op (.bin .neq .i64 (.l 2) (.l 0))⟩]) (
.ite (.v 4) (
.seq (
.reg [⟨.v 2, none, .op (.mov (.c (.bool false)))⟩]) (
.ret)) (
.skip))) (
.seq (
.seq (
.reg [⟨.v 3, none, .op (.mov (.c (.int .i64 0)))⟩]) (
.block 0 (
.loop (
.seq (
.seq (
.reg [⟨.l, none, .op (.mov (.v 3))⟩,
⟨.l, none, .op (.mov (.v 0))⟩,
⟨.l, none, .op (.lens (.l 0))⟩,
⟨.v 5, none, .op (.bin .lss .i64 (.l 2) (.l 0))⟩]) (
.ite (.v 5) (
.skip) (
.exit 0))) (
.seq (
.block 1 (
.seq (
.any 9 8 [⟨0, ⟨.v 7, none, .op (.mov (.v 0))⟩, false, []⟩,
⟨1, ⟨.v 8, none, .op (.mov (.v 3))⟩, false, []⟩,
⟨2, ⟨.v 9, none, .op (.ixa 1 (.v 7) (.v 8))⟩, false, []⟩,
⟨3, ⟨.v 10, none, .op (.ld false 1 (.v 9))⟩, false, []⟩,
⟨4, ⟨.v 11, none, .op (.mov (.v 1))⟩, false, []⟩,
⟨5, ⟨.v 12, none, .op (.mov (.v 3))⟩, false, []⟩,
⟨6, ⟨.v 13, none, .op (.ixa 1 (.v 11) (.v 12))⟩, false, []⟩,
⟨7, ⟨.v 14, none, .op (.ld false 1 (.v 13))⟩, false, []⟩,
⟨8, ⟨.v 6, none, .op (.bin .neq .i64 (.v 10) (.v 14))⟩, false, []⟩]) (
.ite (.v 6) (
.seq (
.reg [⟨.v 2, none, .op (.mov (.c (.bool false)))⟩]) (
.ret)) (
.skip)))) (
.reg [⟨.l, none, .op (.mov (.v 3))⟩,
⟨.l, none, .op (.bin .add .i64 (.l 0) (.c (.int .i64 1)))⟩,
⟨.v 3, none, .op (.mov (.l 0))⟩])))))) (
.seq (
.reg [⟨.v 2, none, .op (.mov (.c (.bool true)))⟩]) (
.ret))))⟩
/- 18 cayley/cayleykit.Pick -/
abbrev n_kit_Pick : Nat := 18
def c_kit_Pick : Ay.Fn := ⟨2, [some 0, some 1, none, none], [.v 2],
.seq (
.reg [⟨.v 2, none, .op (.mov (.c (.int .i64 0)))⟩]) (
.seq (
.reg [⟨.l, none, .op (.mov (.v 0))⟩,
⟨.l, none, .op (.mov (.v 1))⟩,
⟨.l, none, .op (.bin .rem .i64 (.l 1) (.l 0))⟩,
⟨.v 0, none, .op (.mov (.l 0))⟩]) (
.seq (
.seq (
.reg [⟨.l, none, .op (.mov (.v 0))⟩,
⟨.v 3, none, .op (.bin .lss .i64 (.l 0) (.c (.int .i64 0)))⟩]) (
.ite (.v 3) (
.reg [⟨.l, none, .op (.mov (.v 0))⟩,
⟨.l, none, .op (.mov (.v 1))⟩,
⟨.l, none, .op (.bin .add .i64 (.l 1) (.l 0))⟩,
⟨.v 0, none, .op (.mov (.l 0))⟩]) (
.skip))) (
.seq (
.reg [⟨.l, none, .op (.mov (.v 0))⟩,
⟨.v 2, none, .op (.mov (.l 0))⟩]) (
.ret))))⟩
/- 19 cayley/cayleylaw04.drawn -/
abbrev n_law04_drawn : Nat := 19
def c_law04_drawn : Ay.Fn := ⟨3, [some 0, some 1, some 2, none, none, none, none, none, none, none], [.cell 3 true 2],
.seq (
.reg [⟨.v 3, none, .op (.alc [(.int .i64 0), .nils])⟩]) (
.seq (
.reg [⟨.l, none, .op (.mov (.v 2))⟩,
⟨.l, none, .op (.bld [(.int .i64 0), .nils] [(0, 1, (.l 0))])⟩,
⟨.v 4, none, .op (.alc [(.int .i64 0), .nils])⟩,
⟨.n, none, .op (.st 2 (.v 4) (.l 0))⟩]) (
.seq (
.seq (
.reg [⟨.v 5, none, .op (.mov (.c (.int .i64 0)))⟩]) (
.block 0 (
.loop (
.seq (
.seq (
.reg [⟨.l, none, .op (.mov (.v 5))⟩,
⟨.l, none, .op (.mov (.v 1))⟩,
⟨.v 8, none, .op (.bin .lss .i64 (.l 1) (.l 0))⟩]) (
.ite (.v 8) (
.skip) (
.exit 0))) (
.seq (
.block 1 (
.seq (
.reg [⟨.v 6, none, .op (.mov (.c .nils))⟩]) (
.seq (
.seq (
.reg [⟨.v 7, none, .op (.mov (.c (.int .i64 0)))⟩]) (
.block 2 (
.loop (
.seq (
.seq (
.reg [⟨.l, none, .op (.mov (.v 7))⟩,
⟨.l, none, .op (.mov (.v 1))⟩,
⟨.v 9, none, .op (.bin .lss .i64 (.l 1) (.l 0))⟩]) (
.ite (.v 9) (
.skip) (
.exit 2))) (
.seq (
.block 3 (
.reg [⟨.l, none, .op (.mov (.v 6))⟩,
⟨.l, none, .op (.mov (.v 0))⟩,
⟨.l, none, .op (.mov (.v 2))⟩,
⟨.l, none, .call 62 [(.l 1), (.l 0)]⟩,
⟨.l, none, .op (.bls 1 [(.int .i64 0)] 1 [(0, 1, (.l 0))])⟩,
⟨.l, none, .op (.app 1 8 (.l 4) (.l 0))⟩,
⟨.v 6, none, .op (.mov (.l 0))⟩])) (
.reg [⟨.l, none, .op (.mov (.v 7))⟩,
⟨.l, none, .op (.bin .add .i64 (.l 0) (.c (.int .i64 1)))⟩,
⟨.v 7, none, .op (.mov (.l 0))⟩])))))) (
.reg [⟨.l, none, .op (.fla 1 (.v 4))⟩,
⟨.l, none, .op (.ld false 1 (.l 0))⟩,
⟨.l, none, .op (.mov (.v 6))⟩,
⟨.l, none, .op (.bls 1 [.nils] 1 [(0, 1, (.l 0))])⟩,
⟨.l, none, .op (.app 1 24 (.l 2) (.l 0))⟩,
⟨.l, none, .op (.fla 1 (.v 4))⟩,
⟨.n, none, .op (.st 1 (.l 0) (.l 1))⟩])))) (
.reg [⟨.l, none, .op (.mov (.v 5))⟩,
⟨.l, none, .op (.bin .add .i64 (.l 0) (.c (.int .i64 1)))⟩,
⟨.v 5, none, .op (.mov (.l 0))⟩])))))) (
.seq (
.reg [⟨.l, none, .op (.ld true 2 (.v 4))⟩,
⟨.n, none, .op (.st 2 (.v 3) (.l 0))⟩]) (
.ret))))⟩
/- 20 cayley/matrix.Mul -/
abbrev n_matrix_Mul : Nat := 20
def c_matrix_Mul : Ay.Fn := ⟨2, [some 0, some 1, none, none, none, none, none, none, none], [.cell 4 true 2, .v 5],
.seq (
.reg [⟨.v 2, none, .op (.box (.v 0))⟩,
⟨.v 3, none, .op (.box (.v 1))⟩,
⟨.v 4, none, .op (.alc [(.int .i64 0), .nils])⟩,
⟨.v 5, none, .op (.mov (.c (.int .i64 0)))⟩]) (
.seq (
.seq (
.reg [⟨.l, none, .op (.ld true 2 (.v 2))⟩,
⟨.l, none, .op (.ld true 2 (.v 3))⟩,
⟨.l, none, .op (.bls 2 [(.int .i64 0), .nils] 2 [(0, 2, (.l 1)), (2, 2, (.l 0))])⟩,
⟨.l, none, .call 63 [(.l 0)]⟩,
⟨.v 6, none, .op (.mov (.l 0))⟩]) (
.seq (
.reg [⟨.l, none, .op (.mov (.v 6))⟩,
⟨.v 7, none, .op (.bin .neq .i64 (.l 0) (.c (.int .i64 0)))⟩]) (
.ite (.v 7) (
.seq (
.reg [⟨.l, none, .op (.bld [(.int .i64 0), .nils] [])⟩,
⟨.l, none, .op (.mov (.v 6))⟩,
⟨.n, none, .op (.st 2 (.v 4) (.l 1))⟩,
⟨.v 5, none, .op (.mov (.l 0))⟩]) (
.ret)) (
.skip)))) (
.seq (
.seq (
.any 9 8 [⟨0, ⟨.v 9, none, .op (.fla 1 (.v 2))⟩, false, []⟩,
⟨1, ⟨.v 10, none, .op (.ld false 1 (.v 9))⟩, false, []⟩,
⟨2, ⟨.v 11, none, .op (.ixa 1 (.v 10) (.c (.int .i64 0)))⟩, false, []⟩,
⟨3, ⟨.v 12, none, .op (.ld false 1 (.v 11))⟩, false, []⟩,
⟨4, ⟨.v 13, none, .op (.lens (.v 12))⟩, false, []⟩,
⟨5, ⟨.v 14, none, .op (.fla 1 (.v 3))⟩, false, []⟩,
⟨6, ⟨.v 15, none, .op (.ld false 1 (.v 14))⟩, false, []⟩,
⟨7, ⟨.v 16, none, .op (.lens (.v 15))⟩, false, []⟩,
⟨8, ⟨.v 8, none, .op (.bin .neq .i64 (.v 13) (.v 16))⟩, false, []⟩]) (
.ite (.v 8) (
.seq (
.reg [⟨.l, none, .op (.bld [(.int .i64 0), .nils] [])⟩,
⟨.n, none, .op (.st 2 (.v 4) (.l 0))⟩,
⟨.v 5, none, .op (.mov (.c (.int .i64 10)))⟩]) (
.ret)) (
.skip))) (
.seq (
.reg [⟨.l, none, .op (.ld true 2 (.v 2))⟩,
⟨.l, none, .op (.ld true 2 (.v 3))⟩,
⟨.l, none, .call 53 [(.l 1), (.l 0)]⟩,
⟨.n, none, .op (.st 2 (.v 4) (.l 0))⟩,
⟨.v 5, none, .op (.mov (.c (.int .i64 0)))⟩]) (
.ret))))⟩
/- 21 cayley/matrix.Det -/
abbrev n_matrix_Det : Nat := 21
def c_matrix_Det : Ay.Fn := ⟨1, [some 0, none, none, none, none, none, none], [.v 2, .v 3],
.seq (
.reg [⟨.v 1, none, .op (.box (.v 0))⟩,
⟨.v 2, none, .op (.mov (.c (.int .i64 0)))⟩,
⟨.v 3, none, .op (.mov (.c (.int .i64 0)))⟩]) (
.seq (
.seq (
.reg [⟨.l, none, .op (.ld true 2 (.v 1))⟩,
⟨.l, none, .call 58 [(.l 0)]⟩,
⟨.v 4, none, .op (.mov (.l 0))⟩]) (
.seq (
.reg [⟨.l, none, .op (.mov (.v 4))⟩,
⟨.v 6, none, .op (.bin .neq .i64 (.l 0) (.c (.int .i64 0)))⟩]) (
.ite (.v 6) (
.seq (
.reg [⟨.l, none, .op (.mov (.v 4))⟩,
⟨.v 2, none, .op (.mov (.c (.int .i64 0)))⟩,
⟨.v 3, none, .op (.mov (.l 0))⟩]) (
.ret)) (
.skip)))) (
.seq (
.reg [⟨.l, none, .op (.ld true 2 (.v 1))⟩,
⟨.l, none, .call 59 [(.l 0)]⟩,
⟨.l, none, .op (.mov (.l 0))⟩,
⟨.l, none, .op (.ext (.l 0) 0)⟩,
⟨.l, none, .op (.ext (.l 1) 1)⟩,
⟨.l, none, .op (.alc [(.int .i64 0), .nils])⟩,
⟨.n, none, .op (.st 2 (.l 0) (.l 2))⟩,
⟨.v 5, none, .op (.mov (.l 1))⟩]) (
.seq (
.reg [⟨.l, none, .op (.mov (.v 5))⟩,
⟨.v 2, none, .op (.mov (.l 0))⟩,
⟨.v 3, none, .op (.mov (.c (.int .i64 0)))⟩]) (
.ret))))⟩
/- 22 cayley/cayleykit.Fine -/
abbrev n_kit_Fine : Nat := 22
def c_kit_Fine : Ay.Fn := ⟨2, [some 0, some 1, none, none, none, none, none, none], [.v 2],
.seq (
.reg [⟨.v 2, none, .op (.mov (.c (.bool false)))⟩]) (
.seq (
.seq (
.reg [⟨.l, none, .op (.mov (.v 0))⟩,
⟨.l, none, .op (.lens (.l 0))⟩,
⟨.l, none, .op (.mov (.v 1))⟩,
⟨.v 5, none, .op (.bin .neq .i64 (.l 1) (.l 0))⟩]) (
.ite (.v 5) (
.seq (
.reg [⟨.v 2, none, .op (.mov (.c (.bool false)))⟩]) (
.ret)) (
.skip))) (
.seq (
.reg [⟨.l, none, .op (.mov (.v 1))⟩,
⟨.l, none, .op (.mks 1 1 [(.bool false)] (.l 0) (.l 0))⟩,
⟨.v 3, none, .op (.mov (.l 0))⟩]) (
.seq (
.seq (
.reg [⟨.v 4, none, .op (.mov (.c (.int .i64 0)))⟩]) (
.block 0 (
.loop (
.seq (
.seq (
.reg [⟨.l, none, .op (.mov (.v 4))⟩,
⟨.l, none, .op (.mov (.v 1))⟩,
⟨.v 6, none, .op (.bin .lss .i64 (.l 1) (.l 0))⟩]) (
.ite (.v 6) (
.skip) (
.exit 0))) (
.seq (
.block 1 (
.seq (
.seq (
.reg [⟨.l, none, .op (.mov (.v 0))⟩,
⟨.l, none, .op (.mov (.v 4))⟩,
⟨.l, none, .op (.ixa 1 (.l 1) (.l 0))⟩,
⟨.l, none, .op (.ld false 1 (.l 0))⟩,
⟨.l, none, .op (.bin .lss .i64 (.l 0) (.c (.int .i64 0)))⟩,
⟨.l, none, .op (.mov (.l 0))⟩,
⟨.l, some ((.l 0), false), .op (.mov (.v 0))⟩,
⟨.l, some ((.l 1), false), .op (.mov (.v 4))⟩,
⟨.l, some ((.l 2), false), .op (.ixa 1 (.l 1) (.l 0))⟩,
⟨.l, some ((.l 3), false), .op (.ld false 1 (.l 0))⟩,
⟨.l, some ((.l 4), false), .op (.mov (.v 1))⟩,
⟨.l, some ((.l 5), false), .op (.bin .geq .i64 (.l 1) (.l 0))⟩,
⟨.l, none, .op (.pick (.l 6) (.c (.bool true)) (.l 0))⟩,
⟨.l, none, .op (.mov (.l 0))⟩,
⟨.l, some ((.l 0), false), .op (.mov (.v 3))⟩,
⟨.l, some ((.l 1), false), .op (.mov (.v 0))⟩,
⟨.l, some ((.l 2), false), .op (.mov (.v 4))⟩,
⟨.l, some ((.l 3), false), .op (.ixa 1 (.l 1) (.l 0))⟩,
⟨.l, some ((.l 4), false), .op (.ld false 1 (.l 0))⟩,
⟨.l, some ((.l 5), false), .op (.ixa 1 (.l 4) (.l 0))⟩,
⟨.l, some ((.l 6), false), .op (.ld false 1 (.l 0))⟩,
⟨.v 7, none, .op (.pick (.l 7) (.c (.bool true)) (.l 0))⟩]) (
.ite (.v 7) (
.seq (
.reg [⟨.v 2, none, .op (.mov (.c (.bool false)))⟩]) (
.ret)) (
.skip))) (
.reg [⟨.l, none, .op (.mov (.v 3))⟩,
⟨.l, none, .op (.mov (.v 0))⟩,
⟨.l, none, .op (.mov (.v 4))⟩,
⟨.l, none, .op (.ixa 1 (.l 1) (.l 0))⟩,
⟨.l, none, .op (.ld false 1 (.l 0))⟩,
⟨.l, none, .op (.ixa 1 (.l 4) (.l 0))⟩,
⟨.n, none, .op (.st 1 (.l 0) (.c (.bool true)))⟩]))) (
.reg [⟨.l, none, .op (.mov (.v 4))⟩,
⟨.l, none, .op (.bin .add .i64 (.l 0) (.c (.int .i64 1)))⟩,
⟨.v 4, none, .op (.mov (.l 0))⟩])))))) (
.seq (
.reg [⟨.v 2, none, .op (.mov (.c (.bool true)))⟩]) (
.ret)))))⟩
/- 23 cayley/cayleykit.Mul -/
abbrev n_kit_Mul : Nat := 23
def c_kit_Mul : Ay.Fn := ⟨2, [some 0, some 1, none, none, none, none], [.v 2],
.seq (
.reg [⟨.v 2, none, .op (.mov (.c .nils))⟩]) (
.seq (
.reg [⟨.v 3, none, .op (.mov (.c .nils))⟩]) (
.seq (
.seq (
.reg [⟨.v 4, none, .op (.mov (.c (.int .i64 0)))⟩]) (
.block 0 (
.loop (
.seq (
.seq (
.reg [⟨.l, none, .op (.mov (.v 4))⟩,
⟨.l, none, .op (.mov (.v 0))⟩,
⟨.l, none, .op (.lens (.l 0))⟩,
⟨.v 5, none, .op (.bin .lss .i64 (.l 2) (.l 0))⟩]) (
.ite (.v 5) (
.skip) (
.exit 0))) (
.seq (
.block 1 (
.reg [⟨.l, none, .op (.mov (.v 3))⟩,
⟨.l, none, .op (.mov (.v 1))⟩,
⟨.l, none, .op (.mov (.v 0))⟩,
⟨.l, none, .op (.mov (.v 4))⟩,
⟨.l, none, .op (.ixa 1 (.l 1) (.l 0))⟩,
⟨.l, none, .op (.ld false 1 (.l 0))⟩,
⟨.l, none, .op (.ixa 1 (.l 4) (.l 0))⟩,
⟨.l, none, .op (.ld false 1 (.l 0))⟩,
⟨.l, none, .op (.bls 1 [(.int .i64 0)] 1 [(0, 1, (.l 0))])⟩,
⟨.l, none, .op (.app 1 8 (.l 8) (.l 0))⟩,
⟨.v 3, none, .op (.mov (.l 0))⟩])) (
.reg [⟨.l, none, .op (.mov (.v 4))⟩,
⟨.l, none, .op (.bin .add .i64 (.l 0) (.c (.int .i64 1)))⟩,
⟨.v 4, none, .op (.mov (.l 0))⟩])))))) (
.seq (
.reg [⟨.l, none, .op (.mov (.v 3))⟩,
⟨.v 2, none, .op (.mov (.l 0))⟩]) (
.ret))))⟩
/- 24 cayley/cayleykit.One -/
abbrev n_kit_One : Nat := 24
def c_kit_One : Ay.Fn := ⟨1, [some 0, none, none, none, none], [.v 1],
.seq (
.reg [⟨.v 1, none, .op (.mov (.c .nils))⟩]) (
.seq (
.reg [⟨.v 2, none, .op (.mov (.c .nils))⟩]) (
.seq (
.seq (
.reg [⟨.v 3, none, .op (.mov (.c (.int .i64 0)))⟩]) (
.block 0 (
.loop (
.seq (
.seq (
.reg [⟨.l, none, .op (.mov (.v 3))⟩,
⟨.l, none, .op (.mov (.v 0))⟩,
⟨.v 4, none, .op (.bin .lss .i64 (.l 1) (.l 0))⟩]) (
.ite (.v 4) (
.skip) (
.exit 0))) (
.seq (
.block 1 (
.reg [⟨.l, none, .op (.mov (.v 2))⟩,
⟨.l, none, .op (.mov (.v 3))⟩,
⟨.l, none, .op (.bls 1 [(.int .i64 0)] 1 [(0, 1, (.l 0))])⟩,
⟨.l, none, .op (.app 1 8 (.l 2) (.l 0))⟩,
⟨.v 2, none, .op (.mov (.l 0))⟩])) (
.reg [⟨.l, none, .op (.mov (.v 3))⟩,
⟨.l, none, .op (.bin .add .i64 (.l 0) (.c (.int .i64 1)))⟩,
⟨.v 3, none, .op (.mov (.l 0))⟩])))))) (
.seq (
.reg [⟨.l, none, .op (.mov (.v 2))⟩,
⟨.v 1, none, .op (.mov (.l 0))⟩]) (
.ret))))⟩
/- 27 cayley/matrix.Inv -/
abbrev n_matrix_Inv : Nat := 27
def c_matrix_Inv : Ay.Fn := ⟨1, [some 0, none, none, none, none, none, none, none, none], [.cell 2 true 2, .v 3],
.seq (
.reg [⟨.v 1, none, .op (.box (.v 0))⟩,
⟨.v 2, none, .op (.alc [(.int .i64 0), .nils])⟩,
⟨.v 3, none, .op (.mov (.c (.int .i64 0)))⟩]) (
.seq (
.seq (
.reg [⟨.l, none, .op (.ld true 2 (.v 1))⟩,
⟨.l, none, .call 58 [(.l 0)]⟩,
⟨.v 4, none, .op (.mov (.l 0))⟩]) (
.seq (
.reg [⟨.l, none, .op (.mov (.v 4))⟩,
⟨.v 7, none, .op (.bin .neq .i64 (.l 0) (.c (.int .i64 0)))⟩]) (
.ite (.v 7) (
.seq (
.reg [⟨.l, none, .op (.bld [(.int .i64 0), .nils] [])⟩,
⟨.l, none, .op (.mov (.v 4))⟩,
⟨.n, none, .op (.st 2 (.v 2) (.l 1))⟩,
⟨.v 3, none, .op (.mov (.l 0))⟩]) (
.ret)) (
.skip)))) (
.seq (
.reg [⟨.l, none, .op (.ld true 2 (.v 1))⟩,
⟨.l, none, .call 59 [(.l 0)]⟩,
⟨.l, none, .op (.mov (.l 0))⟩,
⟨.l, none, .op (.ext (.l 0) 0)⟩,
⟨.l, none, .op (.ext (.l 1) 1)⟩,
⟨.v 5, none, .op (.alc [(.int .i64 0), .nils])⟩,
⟨.n, none, .op (.st 2 (.v 5) (.l 1))⟩,
⟨.v 6, none, .op (.mov (.l 0))⟩]) (
.seq (
.seq (
.reg [⟨.l, none, .op (.mov (.v 6))⟩,
⟨.v 8, none, .op (.bin .eql .i64 (.l 0) (.c (.int .i64 0)))⟩]) (
.ite (.v 8) (
.seq (
.reg [⟨.l, none, .op (.bld [(.int .i64 0), .nils] [])⟩,
⟨.n, none, .op (.st 2 (.v 2) (.l 0))⟩,
⟨.v 3, none, .op (.mov (.c (.int .i64 15)))⟩]) (
.ret)) (
.skip))) (
.seq (
.reg [⟨.l, none, .op (.ld true 2 (.v 5))⟩,
⟨.n, none, .op (.st 2 (.v 2) (.l 0))⟩,
⟨.v 3, none, .op (.mov (.c (.int .i64 0)))⟩]) (
.ret)))))⟩
/- 30 cayley/cayleyref04.Same -/
abbrev n_ref04_Same : Nat := 30
def c_ref04_Same : Ay.Fn := ⟨2, [some 0, some 1, none, none, none], [.v 4],
.seq (
.reg [⟨.v 2, none, .op (.box (.v 0))⟩,
⟨.v 3, none, .op (.box (.v 1))⟩,
⟨.v 4, none, .op (.mov (.c (.bool false)))⟩]) (
.seq (
.reg [⟨.l, none, .op (.fla 0 (.v 2))⟩,
⟨.l, none, .op (.ld false 1 (.l 0))⟩,
⟨.l, none, .op (.fla 0 (.v 3))⟩,
⟨.l, none, .op (.ld false 1 (.l 0))⟩,
⟨.l, none, .op (.bin .eql .i64 (.l 2) (.l 0))⟩,
⟨.l, none, .op (.mov (.l 0))⟩,
⟨.l, some ((.l 0), true), .op (.fla 1 (.v 2))⟩,
⟨.l, some ((.l 1), true), .op (.ld false 1 (.l 0))⟩,
⟨.l, some ((.l 2), true), .op (.fla 1 (.v 3))⟩,
⟨.l, some ((.l 3), true), .op (.ld false 1 (.l 0))⟩,
⟨.l, some ((.l 4), true), .call 66 [(.l 2), (.l 0)]⟩,
⟨.l, none, .op (.pick (.l 5) (.l 0) (.c (.bool false)))⟩,
⟨.v 4, none, .op (.mov (.l 0))⟩]) (
.ret))⟩
/- 41 cayley/matrix.Check -/
abbrev n_matrix_Check : Nat := 41
def c_matrix_Check : Ay.Fn := ⟨1, [some 0, none, none, none, none, none, none, none, none, none, none], [.v 2],
.seq (
.reg [⟨.v 1, none, .op (.box (.v 0))⟩,
⟨.v 2, none, .op (.mov (.c (.int .i64 0)))⟩]) (
.seq (
.block 0 (
.seq (
.reg [⟨.l, none, .op (.fla 0 (.v 1))⟩,
⟨.l, none, .op (.ld false 1 (.l 0))⟩,
⟨.l, none, .call 64 [(.l 0)]⟩,
⟨.l, none, .op (.not (.l 0))⟩,
⟨.v 4, none, .op (.mov (.l 0))⟩]) (
.ite (.v 4) (
.seq (
.reg [⟨.v 2, none, .op (.mov (.c (.int .i64 3)))⟩]) (
.ret)) (
.seq (
.seq (
.reg [⟨.l, none, .op (.fla 1 (.v 1))⟩,
⟨.l, none, .op (.ld false 1 (.l 0))⟩,
⟨.l, none, .op (.lens (.l 0))⟩,
⟨.l, none, .op (.bin .lss .i64 (.l 0) (.c (.int .i64 1)))⟩,
⟨.v 5, none, .op (.mov (.l 0))⟩]) (
.ite (.v 5) (
.skip) (
.seq (
.reg [⟨.l, none, .op (.fla 1 (.v 1))⟩,
⟨.l, none, .op (.ld false 1 (.l 0))⟩,
⟨.l, none, .op (.lens (.l 0))⟩,
⟨.l, none, .op (.bin .gtr .i64 (.l 0) (.c (.int .i64 64)))⟩,
⟨.v 5, none, .op (.mov (.l 0))⟩]) (
.ite (.v 5) (
.skip) (
.seq (
.reg [⟨.l, none, .op (.fla 1 (.v 1))⟩,
⟨.l, none, .op (.ld false 1 (.l 0))⟩,
⟨.l, none, .op (.ixa 1 (.l 0) (.c (.int .i64 0)))⟩,
⟨.l, none, .op (.ld false 1 (.l 0))⟩,
⟨.l, none, .op (.lens (.l 0))⟩,
⟨.l, none, .op (.bin .lss .i64 (.l 0) (.c (.int .i64 1)))⟩,
⟨.v 5, none, .op (.mov (.l 0))⟩]) (
.ite (.v 5) (
.skip) (
.reg [⟨.l, none, .op (.fla 1 (.v 1))⟩,
⟨.l, none, .op (.ld false 1 (.l 0))⟩,
⟨.l, none, .op (.ixa 1 (.l 0) (.c (.int .i64 0)))⟩,
⟨.l, none, .op (.ld false 1 (.l 0))⟩,
⟨.l, none, .op (.lens (.l 0))⟩,
⟨.l, none, .op (.bin .gtr .i64 (.l 0) (.c (.int .i64 64)))⟩,
⟨.v 5, none, .op (.mov (.l 0))⟩]))))))) (
.ite (.v 5) (
.seq (
.reg [⟨.v 2, none, .op (.mov (.c (.int .i64 2)))⟩]) (
.ret)) (
.skip)))))) (
.seq (
.seq (
.reg [⟨.l, none, .op (.fla 1 (.v 1))⟩,
⟨.v 6, none, .op (.ld false 1 (.l 0))⟩,
⟨.v 7, none, .op (.lens (.v 6))⟩,
⟨.v 8, none, .op (.mov (.c (.int .i64 0)))⟩]) (
.block 1 (
.loop (
.seq (
.reg [⟨.v 9, none, .op (.bin .lss .i64 (.v 8) (.v 7))⟩]) (
.seq (
.ite (.v 9) (
.skip) (
.exit 1)) (
.seq (
.block 2 (
.seq (
.reg [⟨.l, none, .op (.ixa 1 (.v 6) (.v 8))⟩,
⟨.l, none, .op (.ld false 1 (.l 0))⟩,
⟨.v 3, none, .op (.mov (.l 0))⟩]) (
.seq (
.any 20 19 [⟨0, ⟨.v 11, none, .op (.mov (.v 3))⟩, false, []⟩,
⟨1, ⟨.v 12, none, .op (.lens (.v 11))⟩, false, []⟩,
⟨2, ⟨.v 13, none, .op (.fla 1 (.v 1))⟩, false, []⟩,
⟨3, ⟨.v 14, none, .op (.ld false 1 (.v 13))⟩, false, []⟩,
⟨4, ⟨.v 15, none, .op (.ixa 1 (.v 14) (.c (.int .i64 0)))⟩, false, []⟩,
⟨5, ⟨.v 16, none, .op (.ld false 1 (.v 15))⟩, false, []⟩,
⟨6, ⟨.v 17, none, .op (.lens (.v 16))⟩, false, []⟩,
⟨7, ⟨.v 18, none, .op (.bin .neq .i64 (.v 12) (.v 17))⟩, false, []⟩,
⟨8, ⟨.v 19, none, .op (.mov (.v 18))⟩, false, []⟩,
⟨9, ⟨.v 20, some ((.v 19), false), .op (.mov (.v 3))⟩, false, []⟩,
⟨10, ⟨.v 21, some ((.v 19), false), .call 75 [(.v 20)]⟩, false, []⟩,
⟨11, ⟨.v 22, some ((.v 19), false), .op (.bin .lss .i64 (.v 21) (.c (.int .i64 0)))⟩, false, []⟩,
⟨12, ⟨.v 23, none, .op (.pick (.v 19) (.c (.bool true)) (.v 22))⟩, false, []⟩,
⟨13, ⟨.v 24, none, .op (.mov (.v 23))⟩, false, []⟩,
⟨14, ⟨.v 25, some ((.v 24), false), .op (.mov (.v 3))⟩, false, []⟩,
⟨16, ⟨.v 27, some ((.v 24), false), .op (.fla 0 (.v 1))⟩, false, []⟩,
⟨17, ⟨.v 28, some ((.v 24), false), .op (.ld false 1 (.v 27))⟩, false, []⟩,
⟨15, ⟨.v 26, some ((.v 24), false), .call 76 [(.v 25)]⟩, false, [17]⟩,
⟨18, ⟨.v 29, some ((.v 24), false), .op (.bin .geq .i64 (.v 26) (.v 28))⟩, false, []⟩,
⟨19, ⟨.v 10, none, .op (.pick (.v 24) (.c (.bool true)) (.v 29))⟩, false, []⟩]) (
.ite (.v 10) (
.seq (
.reg [⟨.v 2, none, .op (.mov (.c (.int .i64 3)))⟩]) (
.ret)) (
.skip))))) (
.reg [⟨.l, none, .op (.bin .add .i64 (.v 8) (.c (.int .i64 1)))⟩,
⟨.v 8, none, .op (.mov (.l 0))⟩]))))))) (
.seq (
.reg [⟨.v 2, none, .op (.mov (.c (.int .i64 0)))⟩]) (
.ret))))⟩
/- 50 cayley/cayleylaw04.of -/
abbrev n_law04_of : Nat := 50
def c_law04_of : Ay.Fn := ⟨1, [some 0, none], [.cell 1 true 2],
.seq (
.reg [⟨.v 1, none, .op (.alc [(.int .i64 0), .nils])⟩]) (
.seq (
.reg [⟨.l, none, .op (.mov (.v 0))⟩,
⟨.l, none, .op (.bld [(.int .i64 0), .nils] [(0, 1, (.c (.int .i64 5))), (1, 1, (.l 0))])⟩,
⟨.n, none, .op (.st 2 (.v 1) (.l 0))⟩]) (
.ret))⟩
/- 51 cayley/cayleylaw04.is -/
abbrev n_law04_is : Nat := 51
def c_law04_is : Ay.Fn := ⟨3, [some 0, some 1, some 2, none, none, none], [.v 5],
.seq (
.reg [⟨.v 3, none, .op (.box (.v 0))⟩,
⟨.v 4, none, .op (.box (.v 2))⟩,
⟨.v 5, none, .op (.mov (.c (.bool false)))⟩]) (
.seq (
.reg [⟨.l, none, .op (.mov (.v 1))⟩,
⟨.l, none, .op (.bin .eql .i64 (.l 0) (.c (.int .i64 0)))⟩,
⟨.l, none, .op (.mov (.l 0))⟩,
⟨.l, some ((.l 0), true), .op (.ld true 2 (.v 3))⟩,
⟨.l, some ((.l 1), true), .op (.ld true 2 (.v 4))⟩,
⟨.l, some ((.l 2), true), .call 30 [(.l 1), (.l 0)]⟩,
⟨.l, none, .op (.pick (.l 3) (.l 0) (.c (.bool false)))⟩,
⟨.v 5, none, .op (.mov (.l 0))⟩]) (
.ret))⟩
/- 52 cayley/matrix.one -/
abbrev n_matrix_one : Nat := 52
def c_matrix_one : Ay.Fn := ⟨2, [some 0, some 1, none, none, none, none, none, none], [.cell 2 true 2],
.seq (
.reg [⟨.v 2, none, .op (.alc [(.int .i64 0), .nils])⟩]) (
.seq (
.reg [⟨.l, none, .op (.mov (.v 1))⟩,
⟨.l, none, .op (.mov (.v 0))⟩,
⟨.l, none, .op (.mks 1 24 [.nils] (.l 0) (.l 0))⟩,
⟨.l, none, .op (.bld [(.int .i64 0), .nils] [(0, 1, (.l 2)), (1, 1, (.l 0))])⟩,
⟨.v 3, none, .op (.alc [(.int .i64 0), .nils])⟩,
⟨.n, none, .op (.st 2 (.v 3) (.l 0))⟩]) (
.seq (
.seq (
.reg [⟨.v 5, none, .op (.mov (.v 0))⟩,
⟨.v 6, none, .op (.mov (.c (.int .i64 0)))⟩]) (
.block 0 (
.loop (
.seq (
.reg [⟨.v 7, none, .op (.bin .lss .i64 (.v 6) (.v 5))⟩]) (
.seq (
.ite (.v 7) (
.skip) (
.exit 0)) (
.seq (
.block 1 (
.seq (
.reg [⟨.l, none, .op (.mov (.v 6))⟩,
⟨.v 4, none, .op (.mov (.l 0))⟩]) (
.seq (
.any 7 6 [⟨0, ⟨.v 8, none, .op (.fla 1 (.v 3))⟩, false, []⟩,
⟨1, ⟨.v 9, none, .op (.ld false 1 (.v 8))⟩, false, []⟩,
⟨2, ⟨.v 10, none, .op (.mov (.v 4))⟩, false, []⟩,
⟨3, ⟨.v 11, none, .op (.mov (.v 0))⟩, false, []⟩,
⟨4, ⟨.v 12, none, .op (.mks 1 8 [(.int .i64 0)] (.v 11) (.v 11))⟩, true, []⟩,
⟨5, ⟨.v 13, none, .op (.ixa 1 (.v 9) (.v 10))⟩, false, []⟩,
⟨6, ⟨.n, none, .op (.st 1 (.v 13) (.v 12))⟩, false, []⟩]) (
.reg [⟨.l, none, .op (.fla 1 (.v 3))⟩,
⟨.l, none, .op (.ld false 1 (.l 0))⟩,
⟨.l, none, .op (.mov (.v 4))⟩,
⟨.l, none, .op (.ixa 1 (.l 1) (.l 0))⟩,
⟨.l, none, .op (.ld false 1 (.l 0))⟩,
⟨.l, none, .op (.mov (.v 4))⟩,
⟨.l, none, .op (.ixa 1 (.l 1) (.l 0))⟩,
⟨.n, none, .op (.st 1 (.l 0) (.c (.int .i64 1)))⟩])))) (
.reg [⟨.l, none, .op (.bin .add .i64 (.v 6) (.c (.int .i64 1)))⟩,
⟨.v 6, none, .op (.mov (.l 0))⟩]))))))) (
.seq (
.reg [⟨.l, none, .op (.ld true 2 (.v 3))⟩,
⟨.n, none, .op (.st 2 (.v 2) (.l 0))⟩]) (
.ret))))⟩
/- 53 cayley/matrix.mul -/
abbrev n_matrix_mul : Nat := 53
def c_matrix_mul : Ay.Fn := ⟨2, [some 0, some 1, none, none, none, none, none, none, none, none, none], [.cell 4 true 2],
.seq (
.reg [⟨.v 2, none, .op (.box (.v 0))⟩,
⟨.v 3, none, .op (.box (.v 1))⟩,
⟨.v 4, none, .op (.alc [(.int .i64 0), .nils])⟩]) (
.seq (
.reg [⟨.l, none, .op (.fla 0 (.v 2))⟩,
⟨.l, none, .op (.ld false 1 (.l 0))⟩,
⟨.l, none, .op (.bld [(.int .i64 0), .nils] [(0, 1, (.l 0))])⟩,
⟨.v 5, none, .op (.alc [(.int .i64 0), .nils])⟩,
⟨.n, none, .op (.st 2 (.v 5) (.l 0))⟩]) (
.seq (
.seq (
.reg [⟨.l, none, .op (.fla 1 (.v 2))⟩,
⟨.v 7, none, .op (.ld false 1 (.l 0))⟩,
⟨.v 8, none, .op (.lens (.v 7))⟩,
⟨.v 9, none, .op (.mov (.c (.int .i64 0)))⟩]) (
.block 0 (
.loop (
.seq (
.reg [⟨.v 10, none, .op (.bin .lss .i64 (.v 9) (.v 8))⟩]) (
.seq (
.ite (.v 10) (
.skip) (
.exit 0)) (
.seq (
.block 1 (
.seq (
.reg [⟨.l, none, .op (.ixa 1 (.v 7) (.v 9))⟩,
⟨.l, none, .op (.ld false 1 (.l 0))⟩,
⟨.v 6, none, .op (.mov (.l 0))⟩]) (
.any 9 8 [⟨0, ⟨.v 11, none, .op (.fla 1 (.v 5))⟩, false, []⟩,
⟨1, ⟨.v 12, none, .op (.ld false 1 (.v 11))⟩, false, []⟩,
⟨2, ⟨.v 13, none, .op (.mov (.v 6))⟩, false, []⟩,
⟨3, ⟨.v 14, none, .op (.ld true 2 (.v 3))⟩, false, []⟩,
⟨4, ⟨.v 15, none, .call 60 [(.v 13), (.v 14)]⟩, false, [1]⟩,
⟨5, ⟨.v 16, none, .op (.bls 1 [.nils] 1 [(0, 1, (.v 15))])⟩, true, []⟩,
⟨6, ⟨.v 17, none, .op (.app 1 24 (.v 12) (.v 16))⟩, false, []⟩,
⟨7, ⟨.v 18, none, .op (.fla 1 (.v 5))⟩, false, []⟩,
⟨8, ⟨.n, none, .op (.st 1 (.v 18) (.v 17))⟩, false, []⟩]))) (
.reg [⟨.l, none, .op (.bin .add .i64 (.v 9) (.c (.int .i64 1)))⟩,
⟨.v 9, none, .op (.mov (.l 0))⟩]))))))) (
.seq (
.reg [⟨.l, none, .op (.ld true 2 (.v 5))⟩,
⟨.n, none, .op (.st 2 (.v 4) (.l 0))⟩]) (
.ret))))⟩
/- 54 slices.EqualFunc[[][]int,[][]int,[]int,[]int] -/
abbrev n_slices_EqualFunc_int_int_int_int : Nat := 54
def c_slices_EqualFunc_int_int_int_int : Ay.Fn := ⟨3, [some 0, some 1, some 2, none, none, none, none, none, none, none, none, none, none], [.v 3],
.seq (
.reg [⟨.v 3, none, .op (.mov (.c (.bool false)))⟩]) (
.seq (
.seq (
.reg [⟨.l, none, .op (.mov (.v 0))⟩,
⟨.l, none, .op (.lens (.l 0))⟩,
⟨.l, none, .op (.mov (.v 1))⟩,
⟨.l, none, .op (.lens (.l 0))⟩,
⟨.v 7, none, .op (.bin .neq .i64 (.l 2) (.l 0))⟩]) (
.ite (.v 7) (
.seq (
.reg [⟨.v 3, none, .op (.mov (.c (.bool false)))⟩]) (
.ret)) (
.skip))) (
.seq (
.seq (
.reg [⟨.v 8, none, .op (.mov (.v 0))⟩,
⟨.v 9, none, .op (.lens (.v 8))⟩,
⟨.v 10, none, .op (.mov (.c (.int .i64 0)))⟩]) (
.block 0 (
.loop (
.seq (
.reg [⟨.v 11, none, .op (.bin .lss .i64 (.v 10) (.v 9))⟩]) (
.seq (
.ite (.v 11) (
.skip) (
.exit 0)) (
.seq (
.block 1 (
.seq (
.reg [⟨.l, none, .op (.mov (.v 10))⟩,
⟨.l, none, .op (.ixa 1 (.v 8) (.v 10))⟩,
⟨.l, none, .op (.ld false 1 (.l 0))⟩,
⟨.v 4, none, .op (.mov (.l 2))⟩,
⟨.v 5, none, .op (.mov (.l 0))⟩]) (
.seq (
.reg [⟨.l, none, .op (.mov (.v 1))⟩,
⟨.l, none, .op (.mov (.v 4))⟩,
⟨.l, none, .op (.ixa 1 (.l 1) (.l 0))⟩,
⟨.l, none, .op (.ld false 1 (.l 0))⟩,
⟨.v 6, none, .op (.mov (.l 0))⟩]) (
.seq (
.reg [⟨.l, none, .op (.mov (.v 2))⟩,
⟨.l, none, .op (.mov (.v 5))⟩,
⟨.l, none, .op (.mov (.v 6))⟩,
⟨.l, none, .callv (.l 2) [(.l 1), (.l 0)]⟩,
⟨.v 12, none, .op (.not (.l 0))⟩]) (
.ite (.v 12) (
.seq (
.reg [⟨.v 3, none, .op (.mov (.c (.bool false)))⟩]) (
.ret)) (
.skip)))))) (
.reg [⟨.l, none, .op (.bin .add .i64 (.v 10) (.c (.int .i64 1)))⟩,
⟨.v 10, none, .op (.mov (.l 0))⟩]))))))) (
.seq (
.reg [⟨.v 3, none, .op (.mov (.c (.bool true)))⟩]) (
.ret))))⟩
/- 55 slices.Equal[[]int,int] -/
abbrev n_slices_Equal_int_int : Nat := 55
def c_slices_Equal_int_int : Ay.Fn := ⟨2, [some 0, some 1, none, none, none, none, none, none, none], [.v 2],
.seq (
.reg [⟨.v 2, none, .op (.mov (.c (.bool false)))⟩]) (
.seq (
.seq (
.reg [⟨.l, none, .op (.mov (.v 0))⟩,
⟨.l, none, .op (.lens (.l 0))⟩,
⟨.l, none, .op (.mov (.v 1))⟩,
⟨.l, none, .op (.lens (.l 0))⟩,
⟨.v 4, none, .op (.bin .neq .i64 (.l 2) (.l 0))⟩]) (
.ite (.v 4) (
.seq (
.reg [⟨.v 2, none, .op (.mov (.c (.bool false)))⟩]) (
.ret)) (
.skip))) (
.seq (
.seq (
.reg [⟨.l, none, .op (.mov (.v 0))⟩,
⟨.v 5, none, .op (.lens (.l 0))⟩,
⟨.v 6, none, .op (.mov (.c (.int .i64 0)))⟩]) (
.block 0 (
.loop (
.seq (
.reg [⟨.v 7, none, .op (.bin .lss .i64 (.v 6) (.v 5))⟩]) (
.seq (
.ite (.v 7) (
.skip) (
.exit 0)) (
.seq (
.block 1 (
.seq (
.reg [⟨.l, none, .op (.mov (.v 6))⟩,
⟨.v 3, none, .op (.mov (.l 0))⟩]) (
.seq (
.any 9 8 [⟨0, ⟨.v 9, none, .op (.mov (.v 0))⟩, false, []⟩,
⟨1, ⟨.v 10, none, .op (.mov (.v 3))⟩, false, []⟩,
⟨2, ⟨.v 11, none, .op (.ixa 1 (.v 9) (.v 10))⟩, false, []⟩,
⟨3, ⟨.v 12, none, .op (.ld false 1 (.v 11))⟩, false, []⟩,
⟨4, ⟨.v 13, none, .op (.mov (.v 1))⟩, false, []⟩,
⟨5, ⟨.v 14, none, .op (.mov (.v 3))⟩, false, []⟩,
⟨6, ⟨.v 15, none, .op (.ixa 1 (.v 13) (.v 14))⟩, false, []⟩,
⟨7, ⟨.v 16, none, .op (.ld false 1 (.v 15))⟩, false, []⟩,
⟨8, ⟨.v 8, none, .op (.bin .neq .i64 (.v 12) (.v 16))⟩, false, []⟩]) (
.ite (.v 8) (
.seq (
.reg [⟨.v 2, none, .op (.mov (.c (.bool false)))⟩]) (
.ret)) (
.skip))))) (
.reg [⟨.l, none, .op (.bin .add .i64 (.v 6) (.c (.int .i64 1)))⟩,
⟨.v 6, none, .op (.mov (.l 0))⟩]))))))) (
.seq (
.reg [⟨.v 2, none, .op (.mov (.c (.bool true)))⟩]) (
.ret))))⟩
/- 58 cayley/matrix.square -/
abbrev n_matrix_square : Nat := 58
def c_matrix_square : Ay.Fn := ⟨1, [some 0, none, none, none, none], [.v 2],
.seq (
.reg [⟨.v 1, none, .op (.box (.v 0))⟩,
⟨.v 2, none, .op (.mov (.c (.int .i64 0)))⟩]) (
.seq (
.reg [⟨.l, none, .op (.ld true 2 (.v 1))⟩,
⟨.l, none, .call 41 [(.l 0)]⟩,
⟨.v 3, none, .op (.mov (.l 0))⟩]) (
.seq (
.seq (
.any 13 12 [⟨0, ⟨.v 5, none, .op (.mov (.v 3))⟩, false, []⟩,
⟨1, ⟨.v 6, none, .op (.bin .eql .i64 (.v 5) (.c (.int .i64 0)))⟩, false, []⟩,
⟨2, ⟨.v 7, none, .op (.mov (.v 6))⟩, false, []⟩,
⟨3, ⟨.v 8, some ((.v 7), true), .op (.fla 1 (.v 1))⟩, false, []⟩,
⟨4, ⟨.v 9, some ((.v 7), true), .op (.ld false 1 (.v 8))⟩, false, []⟩,
⟨5, ⟨.v 10, some ((.v 7), true), .op (.lens (.v 9))⟩, false, []⟩,
⟨6, ⟨.v 11, some ((.v 7), true), .op (.fla 1 (.v 1))⟩, false, []⟩,
⟨7, ⟨.v 12, some ((.v 7), true), .op (.ld false 1 (.v 11))⟩, false, []⟩,
⟨8, ⟨.v 13, some ((.v 7), true), .op (.ixa 1 (.v 12) (.c (.int .i64 0)))⟩, false, []⟩,
⟨9, ⟨.v 14, some ((.v 7), true), .op (.ld false 1 (.v 13))⟩, false, []⟩,
⟨10, ⟨.v 15, some ((.v 7), true), .op (.lens (.v 14))⟩, false, []⟩,
⟨11, ⟨.v 16, some ((.v 7), true), .op (.bin .neq .i64 (.v 10) (.v 15))⟩, false, []⟩,
⟨12, ⟨.v 4, none, .op (.pick (.v 7) (.v 16) (.c (.bool false)))⟩, false, []⟩]) (
.ite (.v 4) (
.seq (
.reg [⟨.v 2, none, .op (.mov (.c (.int .i64 10)))⟩]) (
.ret)) (
.skip))) (
.seq (
.reg [⟨.l, none, .op (.mov (.v 3))⟩,
⟨.v 2, none, .op (.mov (.l 0))⟩]) (
.ret))))⟩
/- 59 cayley/matrix.invert -/
abbrev n_matrix_invert : Nat := 59
def c_matrix_invert : Ay.Fn := ⟨1, [some 0, none, none, none, none, none, none, none, none, none, none, none, none, none, none, none, none, none, none, none, none, none, none], [.cell 2 true 2, .cell 3 false 1],
.seq (
.reg [⟨.v 1, none, .op (.box (.v 0))⟩,
⟨.v 2, none, .op (.alc [(.int .i64 0), .nils])⟩,
⟨.v 3, none, .op (.alc [(.int .i64 0)])⟩]) (
.seq (
.reg [⟨.l, none, .op (.fla 1 (.v 1))⟩,
⟨.l, none, .op (.ld false 1 (.l 0))⟩,
⟨.l, none, .op (.lens (.l 0))⟩,
⟨.v 4, none, .op (.mov (.l 0))⟩]) (
.seq (
.reg [⟨.l, none, .op (.fla 0 (.v 1))⟩,
⟨.l, none, .op (.ld false 1 (.l 0))⟩,
⟨.l, none, .op (.bld [(.int .i64 0), (.int .i64 0), .nils] [(0, 1, (.l 0)), (1, 1, (.c (.int .i64 1)))])⟩,
⟨.l, none, .op (.box (.l 0))⟩,
⟨.v 5, none, .op (.alc [.nilp])⟩,
⟨.n, none, .op (.st 1 (.v 5) (.l 0))⟩]) (
.seq (
.regd [⟨.v 10, none, .op (.mkf 81 [] [(.v 5), (.v 3)])⟩] (.v 10) []) (
.seq (
.seq (
.reg [⟨.l, none, .op (.mov (.v 4))⟩,
⟨.l, none, .op (.fla 0 (.v 1))⟩,
⟨.l, none, .op (.ld false 1 (.l 0))⟩,
⟨.l, none, .call 52 [(.l 2), (.l 0)]⟩,
⟨.v 11, none, .op (.part false 1 1 (.l 0))⟩,
⟨.v 12, none, .op (.lens (.v 11))⟩,
⟨.v 13, none, .op (.mov (.c (.int .i64 0)))⟩]) (
.block 0 (
.loop (
.seq (
.reg [⟨.v 14, none, .op (.bin .lss .i64 (.v 13) (.v 12))⟩]) (
.seq (
.ite (.v 14) (
.skip) (
.exit 0)) (
.seq (
.block 1 (
.seq (
.reg [⟨.l, none, .op (.mov (.v 13))⟩,
⟨.l, none, .op (.ixa 1 (.v 11) (.v 13))⟩,
⟨.l, none, .op (.ld false 1 (.l 0))⟩,
⟨.v 6, none, .op (.mov (.l 2))⟩,
⟨.v 7, none, .op (.mov (.l 0))⟩]) (
.any 18 17 [⟨0, ⟨.v 23, none, .op (.ld false 1 (.v 5))⟩, false, []⟩,
⟨1, ⟨.v 24, none, .op (.ld false 1 (.v 5))⟩, false, []⟩,
⟨2, ⟨.v 25, none, .op (.nck (.v 24))⟩, false, []⟩,
⟨3, ⟨.v 26, none, .op (.fla 2 (.v 25))⟩, false, []⟩,
⟨4, ⟨.v 27, none, .op (.ld false 1 (.v 26))⟩, false, []⟩,
⟨5, ⟨.v 28, none, .op (.fla 1 (.v 1))⟩, false, []⟩,
⟨6, ⟨.v 29, none, .op (.ld false 1 (.v 28))⟩, false, []⟩,
⟨7, ⟨.v 30, none, .op (.mov (.v 6))⟩, false, []⟩,
⟨8, ⟨.v 31, none, .op (.ixa 1 (.v 29) (.v 30))⟩, false, []⟩,
⟨9, ⟨.v 32, none, .op (.ld false 1 (.v 31))⟩, false, []⟩,
⟨10, ⟨.v 33, none, .op (.mov (.v 7))⟩, false, []⟩,
⟨11, ⟨.v 34, none, .op (.bls 1 [.nils] 2 [(0, 1, (.v 32)), (1, 1, (.v 33))])⟩, true, []⟩,
⟨12, ⟨.v 35, none, .call 82 [(.v 34)]⟩, false, [4, 1, 0]⟩,
⟨13, ⟨.v 36, none, .op (.bls 1 [.nils] 1 [(0, 1, (.v 35))])⟩, true, []⟩,
⟨14, ⟨.v 37, none, .op (.app 1 24 (.v 27) (.v 36))⟩, false, [0]⟩,
⟨15, ⟨.v 38, none, .op (.nck (.v 23))⟩, false, []⟩,
⟨16, ⟨.v 39, none, .op (.fla 2 (.v 38))⟩, false, []⟩,
⟨17, ⟨.n, none, .op (.st 1 (.v 39) (.v 37))⟩, false, []⟩]))) (
.reg [⟨.l, none, .op (.bin .add .i64 (.v 13) (.c (.int .i64 1)))⟩,
⟨.v 13, none, .op (.mov (.l 0))⟩]))))))) (
.seq (
.seq (
.reg [⟨.v 15, none, .op (.mov (.v 4))⟩,
⟨.v 16, none, .op (.mov (.c (.int .i64 0)))⟩]) (
.block 2 (
.loop (
.seq (
.reg [⟨.v 17, none, .op (.bin .lss .i64 (.v 16) (.v 15))⟩]) (
.seq (
.ite (.v 17) (
.skip) (
.exit 2)) (
.seq (
.block 3 (
.seq (
.reg [⟨.l, none, .op (.mov (.v 16))⟩,
⟨.v 8, none, .op (.mov (.l 0))⟩]) (
.seq (
.seq (
.reg [⟨.l, none, .op (.ld false 1 (.v 5))⟩,
⟨.l, none, .op (.mov (.v 8))⟩,
⟨.l, none, .call 83 [(.l 1), (.l 0)]⟩,
⟨.v 18, none, .op (.not (.l 0))⟩]) (
.ite (.v 18) (
.seq (
.reg [⟨.l, none, .op (.bld [(.int .i64 0), .nils] [])⟩,
⟨.n, none, .op (.st 2 (.v 2) (.l 0))⟩,
⟨.n, none, .op (.st 1 (.v 3) (.c (.int .i64 0)))⟩]) (
.ret)) (
.skip))) (
.reg [⟨.l, none, .op (.ld false 1 (.v 5))⟩,
⟨.l, none, .op (.mov (.v 8))⟩,
⟨.l, none, .call 84 [(.l 1), (.l 0)]⟩])))) (
.reg [⟨.l, none, .op (.bin .add .i64 (.v 16) (.c (.int .i64 1)))⟩,
⟨.v 16, none, .op (.mov (.l 0))⟩]))))))) (
.seq (
.reg [⟨.l, none, .op (.fla 0 (.v 1))⟩,
⟨.l, none, .op (.ld false 1 (.l 0))⟩,
⟨.l, none, .op (.fla 0 (.v 2))⟩,
⟨.n, none, .op (.st 1 (.l 0) (.l 1))⟩]) (
.seq (
.seq (
.reg [⟨.l, none, .op (.ld false 1 (.v 5))⟩,
⟨.l, none, .op (.nck (.l 0))⟩,
⟨.l, none, .op (.fla 2 (.l 0))⟩,
⟨.v 19, none, .op (.ld false 1 (.l 0))⟩,
⟨.v 20, none, .op (.lens (.v 19))⟩,
⟨.v 21, none, .op (.mov (.c (.int .i64 0)))⟩]) (
.block 4 (
.loop (
.seq (
.reg [⟨.v 22, none, .op (.bin .lss .i64 (.v 21) (.v 20))⟩]) (
.seq (
.ite (.v 22) (
.skip) (
.exit 4)) (
.seq (
.block 5 (
.seq (
.reg [⟨.l, none, .op (.ixa 1 (.v 19) (.v 21))⟩,
⟨.l, none, .op (.ld false 1 (.l 0))⟩,
⟨.v 9, none, .op (.mov (.l 0))⟩]) (
.any 10 9 [⟨0, ⟨.v 23, none, .op (.fla 1 (.v 2))⟩, false, []⟩,
⟨1, ⟨.v 24, none, .op (.ld false 1 (.v 23))⟩, false, []⟩,
⟨2, ⟨.v 25, none, .op (.mov (.v 9))⟩, false, []⟩,
⟨3, ⟨.v 26, none, .op (.mov (.v 4))⟩, false, []⟩,
⟨4, ⟨.v 27, none, .op (.slc 1 (.v 25) (some (.v 26)) none none)⟩, false, []⟩,
⟨5, ⟨.v 28, none, .call 85 [(.v 27)]⟩, false, [1]⟩,
⟨6, ⟨.v 29, none, .op (.bls 1 [.nils] 1 [(0, 1, (.v 28))])⟩, true, []⟩,
⟨7, ⟨.v 30, none, .op (.app 1 24 (.v 24) (.v 29))⟩, false, []⟩,
⟨8, ⟨.v 31, none, .op (.fla 1 (.v 2))⟩, false, []⟩,
⟨9, ⟨.n, none, .op (.st 1 (.v 31) (.v 30))⟩, false, []⟩]))) (
.reg [⟨.l, none, .op (.bin .add .i64 (.v 21) (.c (.int .i64 1)))⟩,
⟨.v 21, none, .op (.mov (.l 0))⟩]))))))) (
.seq (
.reg [⟨.l, none, .op (.ld true 2 (.v 2))⟩,
⟨.n, none, .op (.st 2 (.v 2) (.l 0))⟩,
⟨.n, none, .op (.st 1 (.v 3) (.c (.int .i64 0)))⟩]) (
.ret)))))))))⟩
/- 60 cayley/matrix.apply -/
abbrev n_matrix_apply : Nat := 60
def c_matrix_apply : Ay.Fn := ⟨2, [some 0, some 1, none, none, none, none, none, none, none, none, none], [.v 3],
.seq (
.reg [⟨.v 2, none, .op (.box (.v 1))⟩,
⟨.v 3, none, .op (.mov (.c .nils))⟩]) (
.seq (
.reg [⟨.l, none, .op (.fla 1 (.v 2))⟩,
⟨.l, none, .op (.ld false 1 (.l 0))⟩,
⟨.l, none, .op (.ixa 1 (.l 0) (.c (.int .i64 0)))⟩,
⟨.l, none, .op (.ld false 1 (.l 0))⟩,
⟨.l, none, .op (.lens (.l 0))⟩,
⟨.l, none, .op (.mks 1 8 [(.int .i64 0)] (.l 0) (.l 0))⟩,
⟨.v 4, none, .op (.mov (.l 0))⟩]) (
.seq (
.seq (
.reg [⟨.v 7, none, .op (.mov (.v 0))⟩,
⟨.v 8, none, .op (.lens (.v 7))⟩,
⟨.v 9, none, .op (.mov (.c (.int .i64 0)))⟩]) (
.block 0 (
.loop (
.seq (
.reg [⟨.v 10, none, .op (.bin .lss .i64 (.v 9) (.v 8))⟩]) (
.seq (
.ite (.v 10) (
.skip) (
.exit 0)) (
.seq (
.block 1 (
.seq (
.reg [⟨.l, none, .op (.mov (.v 9))⟩,
⟨.l, none, .op (.ixa 1 (.v 7) (.v 9))⟩,
⟨.l, none, .op (.ld false 1 (.l 0))⟩,
⟨.v 5, none, .op (.mov (.l 2))⟩,
⟨.v 6, none, .op (.mov (.l 0))⟩]) (
.any 12 11 [⟨0, ⟨.v 11, none, .op (.mov (.v 4))⟩, false, []⟩,
⟨1, ⟨.v 12, none, .op (.fla 1 (.v 2))⟩, false, []⟩,
⟨2, ⟨.v 13, none, .op (.ld false 1 (.v 12))⟩, false, []⟩,
⟨3, ⟨.v 14, none, .op (.mov (.v 5))⟩, false, []⟩,
⟨4, ⟨.v 15, none, .op (.ixa 1 (.v 13) (.v 14))⟩, false, []⟩,
⟨5, ⟨.v 16, none, .op (.ld false 1 (.v 15))⟩, false, []⟩,
⟨6, ⟨.v 17, none, .op (.fla 0 (.v 2))⟩, false, []⟩,
⟨7, ⟨.v 18, none, .op (.ld false 1 (.v 17))⟩, false, []⟩,
⟨8, ⟨.v 19, none, .op (.mov (.v 6))⟩, false, []⟩,
⟨9, ⟨.v 20, none, .call 70 [(.v 18), (.v 19)]⟩, false, [5, 2]⟩,
⟨10, ⟨.v 21, none, .call 69 [(.v 11), (.v 16), (.v 20)]⟩, false, []⟩,
⟨11, ⟨.v 4, none, .op (.mov (.v 21))⟩, false, []⟩]))) (
.reg [⟨.l, none, .op (.bin .add .i64 (.v 9) (.c (.int .i64 1)))⟩,
⟨.v 9, none, .op (.mov (.l 0))⟩]))))))) (
.seq (
.reg [⟨.l, none, .op (.mov (.v 4))⟩,
⟨.v 3, none, .op (.mov (.l 0))⟩]) (
.ret))))⟩
/- 62 (ptr cayley/cayleykit.Taker).Take -/
abbrev n_kit_Taker_Take : Nat := 62
def c_kit_Taker_Take : Ay.Fn := ⟨2, [some 0, some 1, none, none], [.v 2],
.seq (
.reg [⟨.v 2, none, .op (.mov (.c (.int .i64 0)))⟩]) (
.seq (
.seq (
.any 14 13 [⟨0, ⟨.v 4, none, .op (.mov (.v 0))⟩, false, []⟩,
⟨1, ⟨.v 5, none, .op (.nck (.v 4))⟩, false, []⟩,
⟨2, ⟨.v 6, none, .op (.fla 1 (.v 5))⟩, false, []⟩,
⟨3, ⟨.v 7, none, .op (.ld false 1 (.v 6))⟩, false, []⟩,
⟨4, ⟨.v 8, none, .op (.mov (.v 0))⟩, false, []⟩,
⟨5, ⟨.v 9, none, .op (.nck (.v 8))⟩, false, []⟩,
⟨6, ⟨.v 10, none, .op (.fla 0 (.v 9))⟩, false, []⟩,
⟨7, ⟨.v 11, none, .op (.ld false 1 (.v 10))⟩, false, []⟩,
⟨8, ⟨.v 12, none, .op (.lens (.v 11))⟩, false, []⟩,
⟨9, ⟨.v 13, none, .op (.bin .geq .i64 (.v 7) (.v 12))⟩, false, []⟩,
⟨10, ⟨.v 14, none, .op (.mov (.v 13))⟩, false, []⟩,
⟨11, ⟨.v 15, some ((.v 14), false), .op (.mov (.v 1))⟩, false, []⟩,
⟨12, ⟨.v 16, some ((.v 14), false), .op (.bin .lss .i64 (.v 15) (.c (.int .i64 1)))⟩, false, []⟩,
⟨13, ⟨.v 3, none, .op (.pick (.v 14) (.c (.bool true)) (.v 16))⟩, false, []⟩]) (
.ite (.v 3) (
.seq (
.reg [⟨.v 2, none, .op (.mov (.c (.int .i64 0)))⟩]) (
.ret)) (
.skip))) (
.seq (
.reg [⟨.l, none, .op (.mov (.v 0))⟩,
⟨.l, none, .op (.nck (.l 0))⟩,
⟨.l, none, .op (.fla 1 (.l 0))⟩,
⟨.l, none, .op (.ld false 1 (.l 0))⟩,
⟨.l, none, .op (.bin .add .i64 (.l 0) (.c (.int .i64 1)))⟩,
⟨.l, none, .op (.nck (.l 4))⟩,
⟨.l, none, .op (.fla 1 (.l 0))⟩,
⟨.n, none, .op (.st 1 (.l 0) (.l 2))⟩]) (
.seq (
.any 14 13 [⟨0, ⟨.v 4, none, .op (.mov (.v 0))⟩, false, []⟩,
⟨1, ⟨.v 5, none, .op (.nck (.v 4))⟩, false, []⟩,
⟨2, ⟨.v 6, none, .op (.fla 0 (.v 5))⟩, false, []⟩,
⟨3, ⟨.v 7, none, .op (.ld false 1 (.v 6))⟩, false, []⟩,
⟨4, ⟨.v 8, none, .op (.mov (.v 0))⟩, false, []⟩,
⟨5, ⟨.v 9, none, .op (.nck (.v 8))⟩, false, []⟩,
⟨6, ⟨.v 10, none, .op (.fla 1 (.v 9))⟩, false, []⟩,
⟨7, ⟨.v 11, none, .op (.ld false 1 (.v 10))⟩, false, []⟩,
⟨8, ⟨.v 12, none, .op (.bin .sub .i64 (.v 11) (.c (.int .i64 1)))⟩, false, []⟩,
⟨9, ⟨.v 13, none, .op (.ixa 1 (.v 7) (.v 12))⟩, false, []⟩,
⟨10, ⟨.v 14, none, .op (.ld false 1 (.v 13))⟩, false, []⟩,
⟨11, ⟨.v 15, none, .op (.mov (.v 1))⟩, false, []⟩,
⟨12, ⟨.v 16, none, .call 18 [(.v 14), (.v 15)]⟩, false, []⟩,
⟨13, ⟨.v 2, none, .op (.mov (.v 16))⟩, false, []⟩]) (
.ret))))⟩
/- 63 cayley/matrix.fit -/
abbrev n_matrix_fit : Nat := 63
def c_matrix_fit : Ay.Fn := ⟨1, [some 0, none, none, none, none, none, none, none, none, none, none, none, none, none, none], [.v 1],
.seq (
.reg [⟨.v 1, none, .op (.mov (.c (.int .i64 0)))⟩]) (
.seq (
.seq (
.reg [⟨.v 5, none, .op (.mov (.v 0))⟩,
⟨.v 6, none, .op (.lens (.v 5))⟩,
⟨.v 7, none, .op (.mov (.c (.int .i64 0)))⟩]) (
.block 0 (
.loop (
.seq (
.reg [⟨.v 8, none, .op (.bin .lss .i64 (.v 7) (.v 6))⟩]) (
.seq (
.ite (.v 8) (
.skip) (
.exit 0)) (
.seq (
.block 1 (
.seq (
.reg [⟨.l, none, .op (.ixa 2 (.v 5) (.v 7))⟩,
⟨.l, none, .op (.ld true 2 (.l 0))⟩,
⟨.v 2, none, .op (.alc [(.int .i64 0), .nils])⟩,
⟨.n, none, .op (.st 2 (.v 2) (.l 0))⟩]) (
.seq (
.reg [⟨.l, none, .op (.ld true 2 (.v 2))⟩,
⟨.l, none, .call 41 [(.l 0)]⟩,
⟨.v 3, none, .op (.mov (.l 0))⟩]) (
.seq (
.reg [⟨.l, none, .op (.mov (.v 3))⟩,
⟨.v 9, none, .op (.bin .neq .i64 (.l 0) (.c (.int .i64 0)))⟩]) (
.ite (.v 9) (
.seq (
.reg [⟨.l, none, .op (.mov (.v 3))⟩,
⟨.v 1, none, .op (.mov (.l 0))⟩]) (
.ret)) (
.skip)))))) (
.reg [⟨.l, none, .op (.bin .add .i64 (.v 7) (.c (.int .i64 1)))⟩,
⟨.v 7, none, .op (.mov (.l 0))⟩]))))))) (
.seq (
.seq (
.reg [⟨.v 10, none, .op (.mov (.v 0))⟩,
⟨.v 11, none, .op (.lens (.v 10))⟩,
⟨.v 12, none, .op (.mov (.c (.int .i64 0)))⟩]) (
.block 2 (
.loop (
.seq (
.reg [⟨.v 13, none, .op (.bin .lss .i64 (.v 12) (.v 11))⟩]) (
.seq (
.ite (.v 13) (
.skip) (
.exit 2)) (
.seq (
.block 3 (
.seq (
.reg [⟨.l, none, .op (.ixa 2 (.v 10) (.v 12))⟩,
⟨.l, none, .op (.ld true 2 (.l 0))⟩,
⟨.v 4, none, .op (.alc [(.int .i64 0), .nils])⟩,
⟨.n, none, .op (.st 2 (.v 4) (.l 0))⟩]) (
.seq (
.any 7 6 [⟨0, ⟨.v 15, none, .op (.fla 0 (.v 4))⟩, false, []⟩,
⟨1, ⟨.v 16, none, .op (.ld false 1 (.v 15))⟩, false, []⟩,
⟨2, ⟨.v 17, none, .op (.mov (.v 0))⟩, false, []⟩,
⟨3, ⟨.v 18, none, .op (.ixa 2 (.v 17) (.c (.int .i64 0)))⟩, false, []⟩,
⟨4, ⟨.v 19, none, .op (.fla 0 (.v 18))⟩, false, []⟩,
⟨5, ⟨.v 20, none, .op (.ld false 1 (.v 19))⟩, false, []⟩,
⟨6, ⟨.v 14, none, .op (.bin .neq .i64 (.v 16) (.v 20))⟩, false, []⟩]) (
.ite (.v 14) (
.seq (
.reg [⟨.v 1, none, .op (.mov (.c (.int .i64 10)))⟩]) (
.ret)) (
.skip))))) (
.reg [⟨.l, none, .op (.bin .add .i64 (.v 12) (.c (.int .i64 1)))⟩,
⟨.v 12, none, .op (.mov (.l 0))⟩]))))))) (
.seq (
.reg [⟨.v 1, none, .op (.mov (.c (.int .i64 0)))⟩]) (
.ret))))⟩
/- 64 cayley/matrix.field -/
abbrev n_matrix_field : Nat := 64
def c_matrix_field : Ay.Fn := ⟨1, [some 0, none], [.v 1],
.seq (
.reg [⟨.v 1, none, .op (.mov (.c (.bool false)))⟩]) (
.seq (
.reg [⟨.l, none, .op (.mov (.v 0))⟩,
⟨.l, none, .op (.bin .lss .i64 (.l 0) (.c (.int .i64 10000)))⟩,
⟨.l, none, .op (.mov (.l 0))⟩,
⟨.l, some ((.l 0), true), .op (.mov (.v 0))⟩,
⟨.l, some ((.l 1), true), .call 86 [(.l 0)]⟩,
⟨.l, none, .op (.pick (.l 2) (.l 0) (.c (.bool false)))⟩,
⟨.v 1, none, .op (.mov (.l 0))⟩]) (
.ret))⟩
/- 66 cayley/cayleykit.SameLists[int] -/
abbrev n_kit_SameLists_int : Nat := 66
def c_kit_SameLists_int : Ay.Fn := ⟨2, [some 0, some 1, none, none, none, none, none], [.v 2],
.seq (
.reg [⟨.v 2, none, .op (.mov (.c (.bool false)))⟩]) (
.seq (
.seq (
.reg [⟨.l, none, .op (.mov (.v 0))⟩,
⟨.l, none, .op (.lens (.l 0))⟩,
⟨.l, none, .op (.mov (.v 1))⟩,
⟨.l, none, .op (.lens (.l 0))⟩,
⟨.v 4, none, .op (.bin .neq .i64 (.l 2) (.l 0))⟩]) (
.ite (.v 4) (
.seq (
.reg [⟨.v 2, none, .op (.mov (.c (.bool false)))⟩]) (
.ret)) (
.skip))) (
.seq (
.seq (
.reg [⟨.v 3, none, .op (.mov (.c (.int .i64 0)))⟩]) (
.block 0 (
.loop (
.seq (
.seq (
.reg [⟨.l, none, .op (.mov (.v 3))⟩,
⟨.l, none, .op (.mov (.v 0))⟩,
⟨.l, none, .op (.lens (.l 0))⟩,
⟨.v 5, none, .op (.bin .lss .i64 (.l 2) (.l 0))⟩]) (
.ite (.v 5) (
.skip) (
.exit 0))) (
.seq (
.block 1 (
.seq (
.any 10 9 [⟨0, ⟨.v 7, none, .op (.mov (.v 0))⟩, false, []⟩,
⟨1, ⟨.v 8, none, .op (.mov (.v 3))⟩, false, []⟩,
⟨2, ⟨.v 9, none, .op (.ixa 1 (.v 7) (.v 8))⟩, false, []⟩,
⟨3, ⟨.v 10, none, .op (.ld false 1 (.v 9))⟩, false, []⟩,
⟨4, ⟨.v 11, none, .op (.mov (.v 1))⟩, false, []⟩,
⟨5, ⟨.v 12, none, .op (.mov (.v 3))⟩, false, []⟩,
⟨6, ⟨.v 13, none, .op (.ixa 1 (.v 11) (.v 12))⟩, false, []⟩,
⟨7, ⟨.v 14, none, .op (.ld false 1 (.v 13))⟩, false, []⟩,
⟨8, ⟨.v 15, none, .call 17 [(.v 10), (.v 14)]⟩, false, []⟩,
⟨9, ⟨.v 6, none, .op (.not (.v 15))⟩, false, []⟩]) (
.ite (.v 6) (
.seq (
.reg [⟨.v 2, none, .op (.mov (.c (.bool false)))⟩]) (
.ret)) (
.skip)))) (
.reg [⟨.l, none, .op (.mov (.v 3))⟩,
⟨.l, none, .op (.bin .add .i64 (.l 0) (.c (.int .i64 1)))⟩,
⟨.v 3, none, .op (.mov (.l 0))⟩])))))) (
.seq (
.reg [⟨.v 2, none, .op (.mov (.c (.bool true)))⟩]) (
.ret))))⟩
/- 69 cayley/matrix.zip[int,int,int] -/
abbrev n_matrix_zip_int_int_int_x69 : Nat := 69
def c_matrix_zip_int_int_int_x69 : Ay.Fn := ⟨3, [some 0, some 1, some 2, none, none, none, none, none, none, none, none], [.v 3],
.seq (
.reg [⟨.v 3, none, .op (.mov (.c .nils))⟩]) (
.seq (
.reg [⟨.l, none, .op (.mov (.v 0))⟩,
⟨.l, none, .op (.lens (.l 0))⟩,
⟨.l, none, .op (.mks 1 8 [(.int .i64 0)] (.l 0) (.l 0))⟩,
⟨.v 4, none, .op (.mov (.l 0))⟩]) (
.seq (
.seq (
.reg [⟨.v 7, none, .op (.mov (.v 0))⟩,
⟨.v 8, none, .op (.lens (.v 7))⟩,
⟨.v 9, none, .op (.mov (.c (.int .i64 0)))⟩]) (
.block 0 (
.loop (
.seq (
.reg [⟨.v 10, none, .op (.bin .lss .i64 (.v 9) (.v 8))⟩]) (
.seq (
.ite (.v 10) (
.skip) (
.exit 0)) (
.seq (
.block 1 (
.seq (
.reg [⟨.l, none, .op (.mov (.v 9))⟩,
⟨.l, none, .op (.ixa 1 (.v 7) (.v 9))⟩,
⟨.l, none, .op (.ld false 1 (.l 0))⟩,
⟨.v 5, none, .op (.mov (.l 2))⟩,
⟨.v 6, none, .op (.mov (.l 0))⟩]) (
.reg [⟨.l, none, .op (.mov (.v 4))⟩,
⟨.l, none, .op (.mov (.v 5))⟩,
⟨.l, none, .op (.mov (.v 2))⟩,
⟨.l, none, .op (.mov (.v 6))⟩,
⟨.l, none, .op (.mov (.v 1))⟩,
⟨.l, none, .op (.mov (.v 5))⟩,
⟨.l, none, .op (.ixa 1 (.l 1) (.l 0))⟩,
⟨.l, none, .op (.ld false 1 (.l 0))⟩,
⟨.l, none, .callv (.l 5) [(.l 4), (.l 0)]⟩,
⟨.l, none, .op (.ixa 1 (.l 8) (.l 7))⟩,
⟨.n, none, .op (.st 1 (.l 0) (.l 1))⟩]))) (
.reg [⟨.l, none, .op (.bin .add .i64 (.v 9) (.c (.int .i64 1)))⟩,
⟨.v 9, none, .op (.mov (.l 0))⟩]))))))) (
.seq (
.reg [⟨.l, none, .op (.mov (.v 4))⟩,
⟨.v 3, none, .op (.mov (.l 0))⟩]) (
.ret))))⟩
/- 70 cayley/matrix.plus -/
abbrev n_matrix_plus : Nat := 70
def c_matrix_plus : Ay.Fn := ⟨2, [some 0, some 1, none, none, none], [.v 4],
.seq (
.reg [⟨.v 2, none, .op (.box (.v 0))⟩,
⟨.v 3, none, .op (.box (.v 1))⟩,
⟨.v 4, none, .op (.mov (.c .nilf))⟩]) (
.seq (
.reg [⟨.l, none, .op (.mkf 88 [] [(.v 3), (.v 2)])⟩,
⟨.v 4, none, .op (.mov (.l 0))⟩]) (
.ret))⟩
/- 71 cayley/matrix.residue -/
abbrev n_matrix_residue : Nat := 71
def c_matrix_residue : Ay.Fn := ⟨2, [some 0, some 1, none], [.v 2],
.seq (
.reg [⟨.v 2, none, .op (.mov (.c (.int .i64 0)))⟩]) (
.seq (
.reg [⟨.l, none, .op (.mov (.v 0))⟩,
⟨.l, none, .op (.mov (.v 1))⟩,
⟨.l, none, .op (.bin .rem .i64 (.l 1) (.l 0))⟩,
⟨.l, none, .op (.mov (.v 1))⟩,
⟨.l, none, .op (.bin .add .i64 (.l 1) (.l 0))⟩,
⟨.l, none, .op (.mov (.v 1))⟩,
⟨.l, none, .op (.bin .rem .i64 (.l 1) (.l 0))⟩,
⟨.v 2, none, .op (.mov (.l 0))⟩]) (
.ret))⟩
/- 75 slices.Min[[]int,int] -/
abbrev n_slices_Min_int_int : Nat := 75
def c_slices_Min_int_int : Ay.Fn := ⟨1, [some 0, none, none, none, none, none], [.v 1],
.seq (
.reg [⟨.v 1, none, .op (.mov (.c (.int .i64 0)))⟩]) (
.seq (
.seq (
.reg [⟨.l, none, .op (.mov (.v 0))⟩,
⟨.l, none, .op (.lens (.l 0))⟩,
⟨.v 4, none, .op (.bin .lss .i64 (.l 0) (.c (.int .i64 1)))⟩]) (
.ite (.v 4) (
.reg [⟨.l, none, .op (.fail)⟩,
⟨.n, none, .op (.fail)⟩]) (
.skip))) (
.seq (
.reg [⟨.l, none, .op (.mov (.v 0))⟩,
⟨.l, none, .op (.ixa 1 (.l 0) (.c (.int .i64 0)))⟩,
⟨.l, none, .op (.ld false 1 (.l 0))⟩,
⟨.v 2, none, .op (.mov (.l 0))⟩]) (
.seq (
.seq (
.reg [⟨.v 3, none, .op (.mov (.c (.int .i64 1)))⟩]) (
.block 0 (
.loop (
.seq (
.seq (
.reg [⟨.l, none, .op (.mov (.v 3))⟩,
⟨.l, none, .op (.mov (.v 0))⟩,
⟨.l, none, .op (.lens (.l 0))⟩,
⟨.v 5, none, .op (.bin .lss .i64 (.l 2) (.l 0))⟩]) (
.ite (.v 5) (
.skip) (
.exit 0))) (
.seq (
.block 1 (
.reg [⟨.l, none, .op (.mov (.v 2))⟩,
⟨.l, none, .op (.mov (.v 0))⟩,
⟨.l, none, .op (.mov (.v 3))⟩,
⟨.l, none, .op (.ixa 1 (.l 1) (.l 0))⟩,
⟨.l, none, .op (.ld false 1 (.l 0))⟩,
⟨.l, none, .op (.mm false [(.l 4), (.l 0)])⟩,
⟨.v 2, none, .op (.mov (.l 0))⟩])) (
.reg [⟨.l, none, .op (.mov (.v 3))⟩,
⟨.l, none, .op (.bin .add .i64 (.l 0) (.c (.int .i64 1)))⟩,
⟨.v 3, none, .op (.mov (.l 0))⟩])))))) (
.seq (
.reg [⟨.l, none, .op (.mov (.v 2))⟩,
⟨.v 1, none, .op (.mov (.l 0))⟩]) (
.ret)))))⟩
/- 76 slices.Max[[]int,int] -/
abbrev n_slices_Max_int_int : Nat := 76
def c_slices_Max_int_int : Ay.Fn := ⟨1, [some 0, none, none, none, none, none], [.v 1],
.seq (
.reg [⟨.v 1, none, .op (.mov (.c (.int .i64 0)))⟩]) (
.seq (
.seq (
.reg [⟨.l, none, .op (.mov (.v 0))⟩,
⟨.l, none, .op (.lens (.l 0))⟩,
⟨.v 4, none, .op (.bin .lss .i64 (.l 0) (.c (.int .i64 1)))⟩]) (
.ite (.v 4) (
.reg [⟨.l, none, .op (.fail)⟩,
⟨.n, none, .op (.fail)⟩]) (
.skip))) (
.seq (
.reg [⟨.l, none, .op (.mov (.v 0))⟩,
⟨.l, none, .op (.ixa 1 (.l 0) (.c (.int .i64 0)))⟩,
⟨.l, none, .op (.ld false 1 (.l 0))⟩,
⟨.v 2, none, .op (.mov (.l 0))⟩]) (
.seq (
.seq (
.reg [⟨.v 3, none, .op (.mov (.c (.int .i64 1)))⟩]) (
.block 0 (
.loop (
.seq (
.seq (
.reg [⟨.l, none, .op (.mov (.v 3))⟩,
⟨.l, none, .op (.mov (.v 0))⟩,
⟨.l, none, .op (.lens (.l 0))⟩,
⟨.v 5, none, .op (.bin .lss .i64 (.l 2) (.l 0))⟩]) (
.ite (.v 5) (
.skip) (
.exit 0))) (
.seq (
.block 1 (
.reg [⟨.l, none, .op (.mov (.v 2))⟩,
⟨.l, none, .op (.mov (.v 0))⟩,
⟨.l, none, .op (.mov (.v 3))⟩,
⟨.l, none, .op (.ixa 1 (.l 1) (.l 0))⟩,
⟨.l, none, .op (.ld false 1 (.l 0))⟩,
⟨.l, none, .op (.mm true [(.l 4), (.l 0)])⟩,
⟨.v 2, none, .op (.mov (.l 0))⟩])) (
.reg [⟨.l, none, .op (.mov (.v 3))⟩,
⟨.l, none, .op (.bin .add .i64 (.l 0) (.c (.int .i64 1)))⟩,
⟨.v 3, none, .op (.mov (.l 0))⟩])))))) (
.seq (
.reg [⟨.l, none, .op (.mov (.v 2))⟩,
⟨.v 1, none, .op (.mov (.l 0))⟩]) (
.ret)))))⟩
/- 81 cayley/matrix.invert part 1 -/
abbrev n_matrix_invert_1 : Nat := 81
def c_matrix_invert_1 : Ay.Fn := ⟨2, [some 0, some 1], [],
.reg [⟨.l, none, .op (.ld false 1 (.v 0))⟩,
⟨.l, none, .op (.nck (.l 0))⟩,
⟨.l, none, .op (.fla 1 (.l 0))⟩,
⟨.l, none, .op (.ld false 1 (.l 0))⟩,
⟨.n, none, .op (.st 1 (.v 1) (.l 0))⟩]⟩
/- 82 slices.Concat[[]int,int] -/
abbrev n_slices_Concat_int_int : Nat := 82
def c_slices_Concat_int_int : Ay.Fn := ⟨1, [some 0, none, none, none, none, none, none, none, none, none, none, none, none, none, none], [.v 1],
.seq (
.reg [⟨.v 1, none, .op (.mov (.c .nils))⟩]) (
.seq (
.reg [⟨.v 2, none, .op (.mov (.c (.int .i64 0)))⟩]) (
.seq (
.seq (
.reg [⟨.v 6, none, .op (.mov (.v 0))⟩,
⟨.v 7, none, .op (.lens (.v 6))⟩,
⟨.v 8, none, .op (.mov (.c (.int .i64 0)))⟩]) (
.block 0 (
.loop (
.seq (
.reg [⟨.v 9, none, .op (.bin .lss .i64 (.v 8) (.v 7))⟩]) (
.seq (
.ite (.v 9) (
.skip) (
.exit 0)) (
.seq (
.block 1 (
.seq (
.reg [⟨.l, none, .op (.ixa 1 (.v 6) (.v 8))⟩,
⟨.l, none, .op (.ld false 1 (.l 0))⟩,
⟨.v 3, none, .op (.mov (.l 0))⟩]) (
.seq (
.reg [⟨.l, none, .op (.mov (.v 2))⟩,
⟨.l, none, .op (.mov (.v 3))⟩,
⟨.l, none, .op (.lens (.l 0))⟩,
⟨.l, none, .op (.bin .add .i64 (.l 2) (.l 0))⟩,
⟨.v 2, none, .op (.mov (.l 0))⟩]) (
.seq (
.reg [⟨.l, none, .op (.mov (.v 2))⟩,
⟨.v 10, none, .op (.bin .lss .i64 (.l 0) (.c (.int .i64 0)))⟩]) (
.ite (.v 10) (
.reg [⟨.l, none, .op (.fail)⟩,
⟨.n, none, .op (.fail)⟩]) (
.skip)))))) (
.reg [⟨.l, none, .op (.bin .add .i64 (.v 8) (.c (.int .i64 1)))⟩,
⟨.v 8, none, .op (.mov (.l 0))⟩]))))))) (
.seq (
.reg [⟨.l, none, .op (.mov (.v 2))⟩,
⟨.l, none, .call 93 [(.c .nils), (.l 0)]⟩,
⟨.v 4, none, .op (.mov (.l 0))⟩]) (
.seq (
.seq (
.reg [⟨.v 11, none, .op (.mov (.v 0))⟩,
⟨.v 12, none, .op (.lens (.v 11))⟩,
⟨.v 13, none, .op (.mov (.c (.int .i64 0)))⟩]) (
.block 2 (
.loop (
.seq (
.reg [⟨.v 14, none, .op (.bin .lss .i64 (.v 13) (.v 12))⟩]) (
.seq (
.ite (.v 14) (
.skip) (
.exit 2)) (
.seq (
.block 3 (
.seq (
.reg [⟨.l, none, .op (.ixa 1 (.v 11) (.v 13))⟩,
⟨.l, none, .op (.ld false 1 (.l 0))⟩,
⟨.v 5, none, .op (.mov (.l 0))⟩]) (
.reg [⟨.l, none, .op (.mov (.v 4))⟩,
⟨.l, none, .op (.mov (.v 5))⟩,
⟨.l, none, .op (.app 1 8 (.l 1) (.l 0))⟩,
⟨.v 4, none, .op (.mov (.l 0))⟩]))) (
.reg [⟨.l, none, .op (.bin .add .i64 (.v 13) (.c (.int .i64 1)))⟩,
⟨.v 13, none, .op (.mov (.l 0))⟩]))))))) (
.seq (
.reg [⟨.l, none, .op (.mov (.v 4))⟩,
⟨.v 1, none, .op (.mov (.l 0))⟩]) (
.ret))))))⟩
/- 83 (ptr cayley/matrix.work).pivot -/
abbrev n_matrix_work_pivot : Nat := 83
def c_matrix_work_pivot : Ay.Fn := ⟨2, [some 0, some 1, none, none, none, none, none], [.v 2],
.seq (
.reg [⟨.v 2, none, .op (.mov (.c (.bool false)))⟩]) (
.seq (
.seq (
.reg [⟨.l, none, .op (.mov (.v 1))⟩,
⟨.v 3, none, .op (.mov (.l 0))⟩]) (
.block 0 (
.loop (
.seq (
.seq (
.reg [⟨.l, none, .op (.mov (.v 3))⟩,
⟨.l, none, .op (.mov (.v 0))⟩,
⟨.l, none, .op (.nck (.l 0))⟩,
⟨.l, none, .op (.fla 2 (.l 0))⟩,
⟨.l, none, .op (.ld false 1 (.l 0))⟩,
⟨.l, none, .op (.lens (.l 0))⟩,
⟨.v 4, none, .op (.bin .lss .i64 (.l 5) (.l 0))⟩]) (
.ite (.v 4) (
.skip) (
.exit 0))) (
.seq (
.block 1 (
.seq (
.seq (
.reg [⟨.l, none, .op (.mov (.v 0))⟩,
⟨.l, none, .op (.nck (.l 0))⟩,
⟨.l, none, .op (.fla 2 (.l 0))⟩,
⟨.l, none, .op (.ld false 1 (.l 0))⟩,
⟨.l, none, .op (.mov (.v 3))⟩,
⟨.l, none, .op (.ixa 1 (.l 1) (.l 0))⟩,
⟨.l, none, .op (.ld false 1 (.l 0))⟩,
⟨.l, none, .op (.mov (.v 1))⟩,
⟨.l, none, .op (.ixa 1 (.l 1) (.l 0))⟩,
⟨.l, none, .op (.ld false 1 (.l 0))⟩,
⟨.v 5, none, .op (.bin .eql .i64 (.l 0) (.c (.int .i64 0)))⟩]) (
.ite (.v 5) (
.exit 1) (
.skip))) (
.seq (
.seq (
.reg [⟨.l, none, .op (.mov (.v 3))⟩,
⟨.l, none, .op (.mov (.v 1))⟩,
⟨.v 6, none, .op (.bin .gtr .i64 (.l 1) (.l 0))⟩]) (
.ite (.v 6) (
.seq (
.any 28 26 [⟨0, ⟨.v 7, none, .op (.mov (.v 0))⟩, false, []⟩,
⟨1, ⟨.v 8, none, .op (.nck (.v 7))⟩, false, []⟩,
⟨2, ⟨.v 9, none, .op (.fla 2 (.v 8))⟩, false, []⟩,
⟨3, ⟨.v 10, none, .op (.ld false 1 (.v 9))⟩, false, []⟩,
⟨4, ⟨.v 11, none, .op (.mov (.v 1))⟩, false, []⟩,
⟨5, ⟨.v 12, none, .op (.mov (.v 0))⟩, false, []⟩,
⟨6, ⟨.v 13, none, .op (.nck (.v 12))⟩, false, []⟩,
⟨7, ⟨.v 14, none, .op (.fla 2 (.v 13))⟩, false, []⟩,
⟨8, ⟨.v 15, none, .op (.ld false 1 (.v 14))⟩, false, []⟩,
⟨9, ⟨.v 16, none, .op (.mov (.v 3))⟩, false, []⟩,
⟨10, ⟨.v 17, none, .op (.mov (.v 0))⟩, false, []⟩,
⟨11, ⟨.v 18, none, .op (.nck (.v 17))⟩, false, []⟩,
⟨12, ⟨.v 19, none, .op (.fla 2 (.v 18))⟩, false, []⟩,
⟨13, ⟨.v 20, none, .op (.ld false 1 (.v 19))⟩, false, []⟩,
⟨14, ⟨.v 21, none, .op (.mov (.v 3))⟩, false, []⟩,
⟨15, ⟨.v 22, none, .op (.ixa 1 (.v 20) (.v 21))⟩, false, []⟩,
⟨16, ⟨.v 23, none, .op (.ld false 1 (.v 22))⟩, false, []⟩,
⟨17, ⟨.v 24, none, .op (.mov (.v 0))⟩, false, []⟩,
⟨18, ⟨.v 25, none, .op (.nck (.v 24))⟩, false, []⟩,
⟨19, ⟨.v 26, none, .op (.fla 2 (.v 25))⟩, false, []⟩,
⟨20, ⟨.v 27, none, .op (.ld false 1 (.v 26))⟩, false, []⟩,
⟨21, ⟨.v 28, none, .op (.mov (.v 1))⟩, false, []⟩,
⟨22, ⟨.v 29, none, .op (.ixa 1 (.v 27) (.v 28))⟩, false, []⟩,
⟨23, ⟨.v 30, none, .op (.ld false 1 (.v 29))⟩, false, []⟩,
⟨24, ⟨.v 31, none, .op (.ixa 1 (.v 10) (.v 11))⟩, false, []⟩,
⟨25, ⟨.n, none, .op (.st 1 (.v 31) (.v 23))⟩, false, []⟩,
⟨26, ⟨.v 32, none, .op (.ixa 1 (.v 15) (.v 16))⟩, false, []⟩,
⟨27, ⟨.n, none, .op (.st 1 (.v 32) (.v 30))⟩, false, []⟩]) (
.any 14 13 [⟨0, ⟨.v 7, none, .op (.mov (.v 0))⟩, false, []⟩,
⟨1, ⟨.v 8, none, .op (.mov (.v 0))⟩, false, []⟩,
⟨2, ⟨.v 9, none, .op (.nck (.v 8))⟩, false, []⟩,
⟨3, ⟨.v 10, none, .op (.fla 1 (.v 9))⟩, false, []⟩,
⟨4, ⟨.v 11, none, .op (.ld false 1 (.v 10))⟩, false, []⟩,
⟨5, ⟨.v 12, none, .op (.neg .i64 (.v 11))⟩, false, []⟩,
⟨6, ⟨.v 13, none, .op (.mov (.v 0))⟩, false, []⟩,
⟨7, ⟨.v 14, none, .op (.nck (.v 13))⟩, false, []⟩,
⟨8, ⟨.v 15, none, .op (.fla 0 (.v 14))⟩, false, []⟩,
⟨9, ⟨.v 16, none, .op (.ld false 1 (.v 15))⟩, false, []⟩,
⟨10, ⟨.v 17, none, .call 71 [(.v 12), (.v 16)]⟩, false, []⟩,
⟨11, ⟨.v 18, none, .op (.nck (.v 7))⟩, false, []⟩,
⟨12, ⟨.v 19, none, .op (.fla 1 (.v 18))⟩, false, []⟩,
⟨13, ⟨.n, none, .op (.st 1 (.v 19) (.v 17))⟩, false, []⟩])) (
.skip))) (
.seq (
.reg [⟨.v 2, none, .op (.mov (.c (.bool true)))⟩]) (
.ret))))) (
.reg [⟨.l, none, .op (.mov (.v 3))⟩,
⟨.l, none, .op (.bin .add .i64 (.l 0) (.c (.int .i64 1)))⟩,
⟨.v 3, none, .op (.mov (.l 0))⟩])))))) (
.seq (
.reg [⟨.l, none, .op (.mov (.v 0))⟩,
⟨.l, none, .op (.nck (.l 0))⟩,
⟨.l, none, .op (.fla 1 (.l 0))⟩,
⟨.n, none, .op (.st 1 (.l 0) (.c (.int .i64 0)))⟩]) (
.seq (
.reg [⟨.v 2, none, .op (.mov (.c (.bool false)))⟩]) (
.ret))))⟩
/- 84 (ptr cayley/matrix.work).clear -/
abbrev n_matrix_work_clear : Nat := 84
def c_matrix_work_clear : Ay.Fn := ⟨2, [some 0, some 1, none, none, none, none, none, none, none, none], [],
.seq (
.any 24 23 [⟨0, ⟨.v 10, none, .op (.mov (.v 0))⟩, false, []⟩,
⟨1, ⟨.v 11, none, .op (.mov (.v 0))⟩, false, []⟩,
⟨2, ⟨.v 12, none, .op (.nck (.v 11))⟩, false, []⟩,
⟨3, ⟨.v 13, none, .op (.fla 1 (.v 12))⟩, false, []⟩,
⟨4, ⟨.v 14, none, .op (.ld false 1 (.v 13))⟩, false, []⟩,
⟨5, ⟨.v 15, none, .op (.mov (.v 0))⟩, false, []⟩,
⟨6, ⟨.v 16, none, .op (.nck (.v 15))⟩, false, []⟩,
⟨7, ⟨.v 17, none, .op (.fla 2 (.v 16))⟩, false, []⟩,
⟨8, ⟨.v 18, none, .op (.ld false 1 (.v 17))⟩, false, []⟩,
⟨9, ⟨.v 19, none, .op (.mov (.v 1))⟩, false, []⟩,
⟨10, ⟨.v 20, none, .op (.ixa 1 (.v 18) (.v 19))⟩, false, []⟩,
⟨11, ⟨.v 21, none, .op (.ld false 1 (.v 20))⟩, false, []⟩,
⟨12, ⟨.v 22, none, .op (.mov (.v 1))⟩, false, []⟩,
⟨13, ⟨.v 23, none, .op (.ixa 1 (.v 21) (.v 22))⟩, false, []⟩,
⟨14, ⟨.v 24, none, .op (.ld false 1 (.v 23))⟩, false, []⟩,
⟨15, ⟨.v 25, none, .op (.bin .mul .i64 (.v 14) (.v 24))⟩, false, []⟩,
⟨16, ⟨.v 26, none, .op (.mov (.v 0))⟩, false, []⟩,
⟨17, ⟨.v 27, none, .op (.nck (.v 26))⟩, false, []⟩,
⟨18, ⟨.v 28, none, .op (.fla 0 (.v 27))⟩, false, []⟩,
⟨19, ⟨.v 29, none, .op (.ld false 1 (.v 28))⟩, false, []⟩,
⟨20, ⟨.v 30, none, .op (.bin .rem .i64 (.v 25) (.v 29))⟩, false, []⟩,
⟨21, ⟨.v 31, none, .op (.nck (.v 10))⟩, false, []⟩,
⟨22, ⟨.v 32, none, .op (.fla 1 (.v 31))⟩, false, []⟩,
⟨23, ⟨.n, none, .op (.st 1 (.v 32) (.v 30))⟩, false, []⟩]) (
.seq (
.any 20 19 [⟨0, ⟨.v 10, none, .op (.mov (.v 0))⟩, false, []⟩,
⟨1, ⟨.v 11, none, .op (.nck (.v 10))⟩, false, []⟩,
⟨2, ⟨.v 12, none, .op (.fla 2 (.v 11))⟩, false, []⟩,
⟨3, ⟨.v 13, none, .op (.ld false 1 (.v 12))⟩, false, []⟩,
⟨4, ⟨.v 14, none, .op (.mov (.v 1))⟩, false, []⟩,
⟨5, ⟨.v 15, none, .op (.ixa 1 (.v 13) (.v 14))⟩, false, []⟩,
⟨6, ⟨.v 16, none, .op (.ld false 1 (.v 15))⟩, false, []⟩,
⟨7, ⟨.v 17, none, .op (.mov (.v 1))⟩, false, []⟩,
⟨8, ⟨.v 18, none, .op (.ixa 1 (.v 16) (.v 17))⟩, false, []⟩,
⟨9, ⟨.v 19, none, .op (.ld false 1 (.v 18))⟩, false, []⟩,
⟨10, ⟨.v 20, none, .op (.mov (.v 0))⟩, false, []⟩,
⟨11, ⟨.v 21, none, .op (.nck (.v 20))⟩, false, []⟩,
⟨12, ⟨.v 22, none, .op (.fla 0 (.v 21))⟩, false, []⟩,
⟨13, ⟨.v 23, none, .op (.ld false 1 (.v 22))⟩, false, []⟩,
⟨14, ⟨.v 24, none, .call 90 [(.v 19), (.v 23)]⟩, false, []⟩,
⟨15, ⟨.v 25, none, .op (.mov (.v 24))⟩, false, []⟩,
⟨16, ⟨.v 26, none, .op (.ext (.v 25) 0)⟩, false, []⟩,
⟨17, ⟨.v 27, none, .op (.ext (.v 25) 1)⟩, false, []⟩,
⟨18, ⟨.v 2, none, .op (.mov (.v 26))⟩, false, []⟩,
⟨19, ⟨.v 28, none, .op (.mov (.v 27))⟩, false, []⟩]) (
.seq (
.any 34 33 [⟨0, ⟨.v 10, none, .op (.mov (.v 0))⟩, false, []⟩,
⟨1, ⟨.v 11, none, .op (.nck (.v 10))⟩, false, []⟩,
⟨2, ⟨.v 12, none, .op (.fla 2 (.v 11))⟩, false, []⟩,
⟨3, ⟨.v 13, none, .op (.ld false 1 (.v 12))⟩, false, []⟩,
⟨4, ⟨.v 14, none, .op (.mov (.v 1))⟩, false, []⟩,
⟨5, ⟨.v 15, none, .op (.mov (.v 0))⟩, false, []⟩,
⟨6, ⟨.v 16, none, .op (.nck (.v 15))⟩, false, []⟩,
⟨7, ⟨.v 17, none, .op (.fla 2 (.v 16))⟩, false, []⟩,
⟨8, ⟨.v 18, none, .op (.ld false 1 (.v 17))⟩, false, []⟩,
⟨9, ⟨.v 19, none, .op (.mov (.v 1))⟩, false, []⟩,
⟨10, ⟨.v 20, none, .op (.ixa 1 (.v 18) (.v 19))⟩, false, []⟩,
⟨11, ⟨.v 21, none, .op (.ld false 1 (.v 20))⟩, false, []⟩,
⟨12, ⟨.v 22, none, .op (.mov (.v 0))⟩, false, []⟩,
⟨13, ⟨.v 23, none, .op (.nck (.v 22))⟩, false, []⟩,
⟨14, ⟨.v 24, none, .op (.fla 2 (.v 23))⟩, false, []⟩,
⟨15, ⟨.v 25, none, .op (.ld false 1 (.v 24))⟩, false, []⟩,
⟨16, ⟨.v 26, none, .op (.mov (.v 1))⟩, false, []⟩,
⟨17, ⟨.v 27, none, .op (.ixa 1 (.v 25) (.v 26))⟩, false, []⟩,
⟨18, ⟨.v 28, none, .op (.ld false 1 (.v 27))⟩, false, []⟩,
⟨19, ⟨.v 29, none, .op (.mov (.v 0))⟩, false, []⟩,
⟨20, ⟨.v 30, none, .op (.nck (.v 29))⟩, false, []⟩,
⟨21, ⟨.v 31, none, .op (.fla 0 (.v 30))⟩, false, []⟩,
⟨22, ⟨.v 32, none, .op (.ld false 1 (.v 31))⟩, false, []⟩,
⟨23, ⟨.v 33, none, .op (.mov (.v 2))⟩, false, []⟩,
⟨24, ⟨.v 34, none, .op (.mov (.v 0))⟩, false, []⟩,
⟨25, ⟨.v 35, none, .op (.nck (.v 34))⟩, false, []⟩,
⟨26, ⟨.v 36, none, .op (.fla 0 (.v 35))⟩, false, []⟩,
⟨27, ⟨.v 37, none, .op (.ld false 1 (.v 36))⟩, false, []⟩,
⟨28, ⟨.v 38, none, .op (.bin .add .i64 (.v 33) (.v 37))⟩, false, []⟩,
⟨29, ⟨.v 39, none, .op (.bin .sub .i64 (.v 38) (.c (.int .i64 1)))⟩, false, []⟩,
⟨30, ⟨.v 40, none, .call 70 [(.v 32), (.v 39)]⟩, false, [18, 15, 11, 8, 3]⟩,
⟨31, ⟨.v 41, none, .call 69 [(.v 21), (.v 28), (.v 40)]⟩, false, [3]⟩,
⟨32, ⟨.v 42, none, .op (.ixa 1 (.v 13) (.v 14))⟩, false, []⟩,
⟨33, ⟨.n, none, .op (.st 1 (.v 42) (.v 41))⟩, false, []⟩]) (
.seq (
.reg [⟨.l, none, .op (.mov (.v 0))⟩,
⟨.l, none, .op (.nck (.l 0))⟩,
⟨.l, none, .op (.fla 2 (.l 0))⟩,
⟨.v 5, none, .op (.ld false 1 (.l 0))⟩,
⟨.v 6, none, .op (.lens (.v 5))⟩,
⟨.v 7, none, .op (.mov (.c (.int .i64 0)))⟩]) (
.block 0 (
.loop (
.seq (
.reg [⟨.v 8, none, .op (.bin .lss .i64 (.v 7) (.v 6))⟩]) (
.seq (
.ite (.v 8) (
.skip) (
.exit 0)) (
.seq (
.block 1 (
.seq (
.reg [⟨.l, none, .op (.mov (.v 7))⟩,
⟨.l, none, .op (.ixa 1 (.v 5) (.v 7))⟩,
⟨.l, none, .op (.ld false 1 (.l 0))⟩,
⟨.v 3, none, .op (.mov (.l 2))⟩,
⟨.v 4, none, .op (.mov (.l 0))⟩]) (
.seq (
.reg [⟨.l, none, .op (.mov (.v 3))⟩,
⟨.l, none, .op (.mov (.v 1))⟩,
⟨.l, none, .op (.bin .neq .i64 (.l 1) (.l 0))⟩,
⟨.l, none, .op (.mov (.l 0))⟩,
⟨.l, some ((.l 0), true), .op (.mov (.v 4))⟩,
⟨.l, some ((.l 1), true), .op (.mov (.v 1))⟩,
⟨.l, some ((.l 2), true), .op (.ixa 1 (.l 1) (.l 0))⟩,
⟨.l, some ((.l 3), true), .op (.ld false 1 (.l 0))⟩,
⟨.l, some ((.l 4), true), .op (.bin .gtr .i64 (.l 0) (.c (.int .i64 0)))⟩,
⟨.v 9, none, .op (.pick (.l 5) (.l 0) (.c (.bool false)))⟩]) (
.ite (.v 9) (
.any 30 29 [⟨0, ⟨.v 10, none, .op (.mov (.v 0))⟩, false, []⟩,
⟨1, ⟨.v 11, none, .op (.nck (.v 10))⟩, false, []⟩,
⟨2, ⟨.v 12, none, .op (.fla 2 (.v 11))⟩, false, []⟩,
⟨3, ⟨.v 13, none, .op (.ld false 1 (.v 12))⟩, false, []⟩,
⟨4, ⟨.v 14, none, .op (.mov (.v 3))⟩, false, []⟩,
⟨5, ⟨.v 15, none, .op (.mov (.v 4))⟩, false, []⟩,
⟨6, ⟨.v 16, none, .op (.mov (.v 0))⟩, false, []⟩,
⟨7, ⟨.v 17, none, .op (.nck (.v 16))⟩, false, []⟩,
⟨8, ⟨.v 18, none, .op (.fla 2 (.v 17))⟩, false, []⟩,
⟨9, ⟨.v 19, none, .op (.ld false 1 (.v 18))⟩, false, []⟩,
⟨10, ⟨.v 20, none, .op (.mov (.v 1))⟩, false, []⟩,
⟨11, ⟨.v 21, none, .op (.ixa 1 (.v 19) (.v 20))⟩, false, []⟩,
⟨12, ⟨.v 22, none, .op (.ld false 1 (.v 21))⟩, false, []⟩,
⟨13, ⟨.v 23, none, .op (.mov (.v 0))⟩, false, []⟩,
⟨14, ⟨.v 24, none, .op (.nck (.v 23))⟩, false, []⟩,
⟨15, ⟨.v 25, none, .op (.fla 0 (.v 24))⟩, false, []⟩,
⟨16, ⟨.v 26, none, .op (.ld false 1 (.v 25))⟩, false, []⟩,
⟨17, ⟨.v 27, none, .op (.mov (.v 0))⟩, false, []⟩,
⟨18, ⟨.v 28, none, .op (.nck (.v 27))⟩, false, []⟩,
⟨19, ⟨.v 29, none, .op (.fla 0 (.v 28))⟩, false, []⟩,
⟨20, ⟨.v 30, none, .op (.ld false 1 (.v 29))⟩, false, []⟩,
⟨21, ⟨.v 31, none, .op (.mov (.v 4))⟩, false, []⟩,
⟨22, ⟨.v 32, none, .op (.mov (.v 1))⟩, false, []⟩,
⟨23, ⟨.v 33, none, .op (.ixa 1 (.v 31) (.v 32))⟩, false, []⟩,
⟨24, ⟨.v 34, none, .op (.ld false 1 (.v 33))⟩, false, []⟩,
⟨25, ⟨.v 35, none, .op (.bin .sub .i64 (.v 30) (.v 34))⟩, false, []⟩,
⟨26, ⟨.v 36, none, .call 70 [(.v 26), (.v 35)]⟩, false, [12, 9, 3]⟩,
⟨27, ⟨.v 37, none, .call 69 [(.v 15), (.v 22), (.v 36)]⟩, false, [3]⟩,
⟨28, ⟨.v 38, none, .op (.ixa 1 (.v 13) (.v 14))⟩, false, []⟩,
⟨29, ⟨.n, none, .op (.st 1 (.v 38) (.v 37))⟩, false, []⟩]) (
.skip))))) (
.reg [⟨.l, none, .op (.bin .add .i64 (.v 7) (.c (.int .i64 1)))⟩,
⟨.v 7, none, .op (.mov (.l 0))⟩])))))))))⟩
/- 85 slices.Clone[[]int,int] -/
abbrev n_slices_Clone_int_int : Nat := 85
def c_slices_Clone_int_int : Ay.Fn := ⟨1, [some 0, none, none], [.v 1],
.seq (
.reg [⟨.v 1, none, .op (.mov (.c .nils))⟩]) (
.seq (
.seq (
.reg [⟨.l, none, .op (.mov (.v 0))⟩,
⟨.v 2, none, .op (.snil false (.l 0))⟩]) (
.ite (.v 2) (
.seq (
.reg [⟨.v 1, none, .op (.mov (.c .nils))⟩]) (
.ret)) (
.skip))) (
.seq (
.reg [⟨.l, none, .op (.bls 1 [(.int .i64 0)] 0 [])⟩,
⟨.l, none, .op (.mov (.v 0))⟩,
⟨.l, none, .op (.app 1 8 (.l 1) (.l 0))⟩,
⟨.v 1, none, .op (.mov (.l 0))⟩]) (
.ret)))⟩
/- 86 cayley/prime.Is -/
abbrev n_prime_Is : Nat := 86
def c_prime_Is : Ay.Fn := ⟨1, [some 0, none], [.v 1],
.seq (
.reg [⟨.v 1, none, .op (.mov (.c (.bool false)))⟩]) (
.seq (
.reg [⟨.l, none, .op (.mov (.v 0))⟩,
⟨.l, none, .op (.bin .gtr .i64 (.l 0) (.c (.int .i64 1)))⟩,
⟨.l, none, .op (.mov (.l 0))⟩,
⟨.l, some ((.l 0), true), .op (.mov (.v 0))⟩,
⟨.l, some ((.l 1), true), .op (.bin .lss .i64 (.l 0) (.c (.int .i64 1000000)))⟩,
⟨.l, none, .op (.pick (.l 2) (.l 0) (.c (.bool false)))⟩,
⟨.l, none, .op (.mov (.l 0))⟩,
⟨.l, some ((.l 0), true), .op (.mov (.v 0))⟩,
⟨.l, some ((.l 1), true), .call 94 [(.l 0)]⟩,
⟨.l, some ((.l 2), true), .op (.mov (.v 0))⟩,
⟨.l, some ((.l 3), true), .op (.bin .eql .i64 (.l 1) (.l 0))⟩,
⟨.l, none, .op (.pick (.l 4) (.l 0) (.c (.bool false)))⟩,
⟨.v 1, none, .op (.mov (.l 0))⟩]) (
.ret))⟩
/- 88 cayley/matrix.plus part 1 -/
abbrev n_matrix_plus_1 : Nat := 88
def c_matrix_plus_1 : Ay.Fn := ⟨4, [some 0, some 1, some 2, some 3, none], [.v 4],
.seq (
.reg [⟨.v 4, none, .op (.mov (.c (.int .i64 0)))⟩]) (
.seq (
.reg [⟨.l, none, .op (.mov (.v 0))⟩,
⟨.l, none, .op (.ld false 1 (.v 2))⟩,
⟨.l, none, .op (.mov (.v 1))⟩,
⟨.l, none, .op (.bin .mul .i64 (.l 1) (.l 0))⟩,
⟨.l, none, .op (.bin .add .i64 (.l 3) (.l 0))⟩,
⟨.l, none, .op (.ld false 1 (.v 3))⟩,
⟨.l, none, .op (.bin .rem .i64 (.l 1) (.l 0))⟩,
⟨.v 4, none, .op (.mov (.l 0))⟩]) (
.ret))⟩
/- 90 cayley/prime.Inv -/
abbrev n_prime_Inv : Nat := 90
def c_prime_Inv : Ay.Fn := ⟨2, [some 0, some 1, none, none, none, none], [.v 2, .v 3],
.seq (
.reg [⟨.v 2, none, .op (.mov (.c (.int .i64 0)))⟩,
⟨.v 3, none, .op (.mov (.c (.int .i64 0)))⟩]) (
.seq (
.reg [⟨.l, none, .op (.mov (.v 0))⟩,
⟨.l, none, .op (.mov (.v 1))⟩,
⟨.l, none, .call 95 [(.l 1), (.l 0)]⟩,
⟨.l, none, .op (.mov (.l 0))⟩,
⟨.l, none, .op (.ext (.l 0) 0)⟩,
⟨.l, none, .op (.ext (.l 1) 1)⟩,
⟨.v 0, none, .op (.mov (.l 1))⟩,
⟨.v 4, none, .op (.mov (.l 0))⟩]) (
.seq (
.seq (
.reg [⟨.l, none, .op (.mov (.v 4))⟩,
⟨.v 5, none, .op (.bin .neq .i64 (.l 0) (.c (.int .i64 0)))⟩]) (
.ite (.v 5) (
.seq (
.reg [⟨.l, none, .op (.mov (.v 4))⟩,
⟨.v 2, none, .op (.mov (.c (.int .i64 0)))⟩,
⟨.v 3, none, .op (.mov (.l 0))⟩]) (
.ret)) (
.skip))) (
.seq (
.reg [⟨.l, none, .op (.mov (.v 0))⟩,
⟨.l, none, .op (.mov (.v 1))⟩,
⟨.l, none, .op (.bin .sub .i64 (.l 0) (.c (.int .i64 2)))⟩,
⟨.l, none, .op (.mov (.v 1))⟩,
⟨.l, none, .call 96 [(.l 3), (.l 1), (.l 0)]⟩,
⟨.v 2, none, .op (.mov (.l 0))⟩,
⟨.v 3, none, .op (.mov (.c (.int .i64 0)))⟩]) (
.ret))))⟩
/- 93 slices.Grow[[]int,int] -/
abbrev n_slices_Grow_int_int : Nat := 93
def c_slices_Grow_int_int : Ay.Fn := ⟨2, [some 0, some 1, none, none, none], [.v 2],
.seq (
.reg [⟨.v 2, none, .op (.mov (.c .nils))⟩]) (
.seq (
.seq (
.reg [⟨.l, none, .op (.mov (.v 1))⟩,
⟨.v 3, none, .op (.bin .lss .i64 (.l 0) (.c (.int .i64 0)))⟩]) (
.ite (.v 3) (
.reg [⟨.l, none, .op (.fail)⟩,
⟨.n, none, .op (.fail)⟩]) (
.skip))) (
.seq (
.seq (
.reg [⟨.l, none, .op (.mov (.v 1))⟩,
⟨.l, none, .op (.mov (.v 0))⟩,
⟨.l, none, .op (.caps (.l 0))⟩,
⟨.l, none, .op (.mov (.v 0))⟩,
⟨.l, none, .op (.lens (.l 0))⟩,
⟨.l, none, .op (.bin .sub .i64 (.l 2) (.l 0))⟩,
⟨.l, none, .op (.bin .sub .i64 (.l 5) (.l 0))⟩,
⟨.v 1, none, .op (.mov (.l 0))⟩]) (
.seq (
.reg [⟨.l, none, .op (.mov (.v 1))⟩,
⟨.v 4, none, .op (.bin .gtr .i64 (.l 0) (.c (.int .i64 0)))⟩]) (
.ite (.v 4) (
.reg [⟨.l, none, .op (.mov (.v 0))⟩,
⟨.l, none, .op (.mov (.v 0))⟩,
⟨.l, none, .op (.caps (.l 0))⟩,
⟨.l, none, .op (.slc 1 (.l 2) none (some (.l 0)) none)⟩,
⟨.l, none, .op (.mov (.v 1))⟩,
⟨.l, none, .op (.apz 1 8 [(.int .i64 0)] (.l 1) (.l 0))⟩,
⟨.l, none, .op (.mov (.v 0))⟩,
⟨.l, none, .op (.lens (.l 0))⟩,
⟨.l, none, .op (.slc 1 (.l 2) none (some (.l 0)) none)⟩,
⟨.v 0, none, .op (.mov (.l 0))⟩]) (
.skip)))) (
.seq (
.reg [⟨.l, none, .op (.mov (.v 0))⟩,
⟨.v 2, none, .op (.mov (.l 0))⟩]) (
.ret))))⟩
/- 94 cayley/prime.divides -/
abbrev n_prime_divides : Nat := 94
def c_prime_divides : Ay.Fn := ⟨1, [some 0, none, none, none, none], [.v 1],
.seq (
.reg [⟨.v 1, none, .op (.mov (.c (.int .i64 0)))⟩]) (
.seq (
.seq (
.reg [⟨.v 2, none, .op (.mov (.c (.int .i64 2)))⟩]) (
.block 0 (
.loop (
.seq (
.seq (
.reg [⟨.l, none, .op (.mov (.v 2))⟩,
⟨.l, none, .op (.mov (.v 2))⟩,
⟨.l, none, .op (.bin .mul .i64 (.l 1) (.l 0))⟩,
⟨.l, none, .op (.mov (.v 0))⟩,
⟨.v 3, none, .op (.bin .leq .i64 (.l 1) (.l 0))⟩]) (
.ite (.v 3) (
.skip) (
.exit 0))) (
.seq (
.block 1 (
.seq (
.reg [⟨.l, none, .op (.mov (.v 0))⟩,
⟨.l, none, .op (.mov (.v 2))⟩,
⟨.l, none, .op (.bin .rem .i64 (.l 1) (.l 0))⟩,
⟨.v 4, none, .op (.bin .eql .i64 (.l 0) (.c (.int .i64 0)))⟩]) (
.ite (.v 4) (
.seq (
.reg [⟨.l, none, .op (.mov (.v 2))⟩,
⟨.v 1, none, .op (.mov (.l 0))⟩]) (
.ret)) (
.skip)))) (
.reg [⟨.l, none, .op (.mov (.v 2))⟩,
⟨.l, none, .op (.bin .add .i64 (.l 0) (.c (.int .i64 1)))⟩,
⟨.v 2, none, .op (.mov (.l 0))⟩])))))) (
.seq (
.reg [⟨.l, none, .op (.mov (.v 0))⟩,
⟨.v 1, none, .op (.mov (.l 0))⟩]) (
.ret)))⟩
/- 95 cayley/prime.unit -/
abbrev n_prime_unit : Nat := 95
def c_prime_unit : Ay.Fn := ⟨2, [some 0, some 1, none, none, none, none], [.v 2, .v 3],
.seq (
.reg [⟨.v 2, none, .op (.mov (.c (.int .i64 0)))⟩,
⟨.v 3, none, .op (.mov (.c (.int .i64 0)))⟩]) (
.seq (
.seq (
.reg [⟨.l, none, .op (.mov (.v 1))⟩,
⟨.l, none, .call 86 [(.l 0)]⟩,
⟨.v 4, none, .op (.not (.l 0))⟩]) (
.ite (.v 4) (
.seq (
.reg [⟨.v 2, none, .op (.mov (.c (.int .i64 0)))⟩,
⟨.v 3, none, .op (.mov (.c (.int .i64 3)))⟩]) (
.ret)) (
.skip))) (
.seq (
.reg [⟨.l, none, .op (.mov (.v 0))⟩,
⟨.l, none, .op (.mov (.v 1))⟩,
⟨.l, none, .call 98 [(.l 1), (.l 0)]⟩,
⟨.v 0, none, .op (.mov (.l 0))⟩]) (
.seq (
.seq (
.reg [⟨.l, none, .op (.mov (.v 0))⟩,
⟨.v 5, none, .op (.bin .eql .i64 (.l 0) (.c (.int .i64 0)))⟩]) (
.ite (.v 5) (
.seq (
.reg [⟨.v 2, none, .op (.mov (.c (.int .i64 0)))⟩,
⟨.v 3, none, .op (.mov (.c (.int .i64 6)))⟩]) (
.ret)) (
.skip))) (
.seq (
.reg [⟨.l, none, .op (.mov (.v 0))⟩,
⟨.v 2, none, .op (.mov (.l 0))⟩,
⟨.v 3, none, .op (.mov (.c (.int .i64 0)))⟩]) (
.ret)))))⟩
/- 96 cayley/prime.to -/
abbrev n_prime_to : Nat := 96
def c_prime_to : Ay.Fn := ⟨3, [some 0, some 1, some 2, none], [.v 3],
.seq (
.reg [⟨.v 3, none, .op (.mov (.c (.int .i64 0)))⟩]) (
.seq (
.any 8 7 [⟨0, ⟨.v 4, none, .op (.mov (.v 0))⟩, false, []⟩,
⟨1, ⟨.v 5, none, .op (.mov (.v 2))⟩, false, []⟩,
⟨2, ⟨.v 6, none, .op (.bin .rem .i64 (.c (.int .i64 1)) (.v 5))⟩, false, []⟩,
⟨3, ⟨.v 7, none, .op (.mov (.v 1))⟩, false, []⟩,
⟨4, ⟨.v 8, none, .op (.mov (.v 2))⟩, false, []⟩,
⟨5, ⟨.v 9, none, .call 100 [(.v 8)]⟩, false, []⟩,
⟨6, ⟨.v 10, none, .call 99 [(.v 4), (.v 6), (.v 7), (.v 9)]⟩, false, []⟩,
⟨7, ⟨.v 3, none, .op (.mov (.v 10))⟩, false, []⟩]) (
.ret))⟩
/- 98 cayley/prime.residue -/
abbrev n_prime_residue : Nat := 98
def c_prime_residue : Ay.Fn := ⟨2, [some 0, some 1, none, none], [.v 2],
.seq (
.reg [⟨.v 2, none, .op (.mov (.c (.int .i64 0)))⟩]) (
.seq (
.reg [⟨.l, none, .op (.mov (.v 0))⟩,
⟨.l, none, .op (.mov (.v 1))⟩,
⟨.l, none, .op (.bin .rem .i64 (.l 1) (.l 0))⟩,
⟨.v 0, none, .op (.mov (.l 0))⟩]) (
.seq (
.seq (
.reg [⟨.l, none, .op (.mov (.v 0))⟩,
⟨.v 3, none, .op (.bin .lss .i64 (.l 0) (.c (.int .i64 0)))⟩]) (
.ite (.v 3) (
.reg [⟨.l, none, .op (.mov (.v 0))⟩,
⟨.l, none, .op (.mov (.v 1))⟩,
⟨.l, none, .op (.bin .add .i64 (.l 1) (.l 0))⟩,
⟨.v 0, none, .op (.mov (.l 0))⟩]) (
.skip))) (
.seq (
.reg [⟨.l, none, .op (.mov (.v 0))⟩,
⟨.v 2, none, .op (.mov (.l 0))⟩]) (
.ret))))⟩
/- 99 cayley/prime.power[int] -/
abbrev n_prime_power_int : Nat := 99
def c_prime_power_int : Ay.Fn := ⟨4, [some 0, some 1, some 2, some 3, none, none, none], [.v 4],
.seq (
.reg [⟨.v 4, none, .op (.mov (.c (.int .i64 0)))⟩]) (
.seq (
.block 0 (
.loop (
.seq (
.seq (
.reg [⟨.l, none, .op (.mov (.v 2))⟩,
⟨.v 5, none, .op (.bin .gtr .i64 (.l 0) (.c (.int .i64 0)))⟩]) (
.ite (.v 5) (
.skip) (
.exit 0))) (
.seq (
.block 1 (
.seq (
.seq (
.reg [⟨.l, none, .op (.mov (.v 2))⟩,
⟨.l, none, .op (.bin .rem .i64 (.l 0) (.c (.int .i64 2)))⟩,
⟨.v 6, none, .op (.bin .eql .i64 (.l 0) (.c (.int .i64 1)))⟩]) (
.ite (.v 6) (
.reg [⟨.l, none, .op (.mov (.v 3))⟩,
⟨.l, none, .op (.mov (.v 1))⟩,
⟨.l, none, .op (.mov (.v 0))⟩,
⟨.l, none, .callv (.l 2) [(.l 1), (.l 0)]⟩,
⟨.v 1, none, .op (.mov (.l 0))⟩]) (
.skip))) (
.reg [⟨.l, none, .op (.mov (.v 3))⟩,
⟨.l, none, .op (.mov (.v 0))⟩,
⟨.l, none, .op (.mov (.v 0))⟩,
⟨.l, none, .callv (.l 2) [(.l 1), (.l 0)]⟩,
⟨.v 0, none, .op (.mov (.l 0))⟩]))) (
.reg [⟨.l, none, .op (.mov (.v 2))⟩,
⟨.l, none, .op (.bin .quo .i64 (.l 0) (.c (.int .i64 2)))⟩,
⟨.v 2, none, .op (.mov (.l 0))⟩]))))) (
.seq (
.reg [⟨.l, none, .op (.mov (.v 1))⟩,
⟨.v 4, none, .op (.mov (.l 0))⟩]) (
.ret)))⟩
/- 100 cayley/prime.modulo -/
abbrev n_prime_modulo : Nat := 100
def c_prime_modulo : Ay.Fn := ⟨1, [some 0, none, none], [.v 2],
.seq (
.reg [⟨.v 1, none, .op (.box (.v 0))⟩,
⟨.v 2, none, .op (.mov (.c .nilf))⟩]) (
.seq (
.reg [⟨.l, none, .op (.mkf 101 [] [(.v 1)])⟩,
⟨.v 2, none, .op (.mov (.l 0))⟩]) (
.ret))⟩
/- 101 cayley/prime.modulo part 1 -/
abbrev n_prime_modulo_1 : Nat := 101
def c_prime_modulo_1 : Ay.Fn := ⟨3, [some 0, some 1, some 2, none], [.v 3],
.seq (
.reg [⟨.v 3, none, .op (.mov (.c (.int .i64 0)))⟩]) (
.seq (
.reg [⟨.l, none, .op (.mov (.v 0))⟩,
⟨.l, none, .op (.mov (.v 1))⟩,
⟨.l, none, .op (.bin .mul .i64 (.l 1) (.l 0))⟩,
⟨.l, none, .op (.ld false 1 (.v 2))⟩,
⟨.l, none, .op (.bin .rem .i64 (.l 1) (.l 0))⟩,
⟨.v 3, none, .op (.mov (.l 0))⟩]) (
.ret))⟩
def tab : List (Nat × Ay.Fn) := [(4, c_law04_MatrixActs), (11, c_law04_lives), (13, c_matrix_Order), (15, c_matrix_Perm), (17, c_kit_Same_int), (18, c_kit_Pick), (19, c_law04_drawn), (20, c_matrix_Mul), (21, c_matrix_Det), (22, c_kit_Fine), (23, c_kit_Mul), (24, c_kit_One), (27, c_matrix_Inv), (30, c_ref04_Same), (41, c_matrix_Check), (50, c_law04_of), (51, c_law04_is), (52, c_matrix_one), (53, c_matrix_mul), (54, c_slices_EqualFunc_int_int_int_int), (55, c_slices_Equal_int_int), (58, c_matrix_square), (59, c_matrix_invert), (60, c_matrix_apply), (62, c_kit_Taker_Take), (63, c_matrix_fit), (64, c_matrix_field), (66, c_kit_SameLists_int), (69, c_matrix_zip_int_int_int_x69), (70, c_matrix_plus), (71, c_matrix_residue), (75, c_slices_Min_int_int), (76, c_slices_Max_int_int), (81, c_matrix_invert_1), (82, c_slices_Concat_int_int), (83, c_matrix_work_pivot), (84, c_matrix_work_clear), (85, c_slices_Clone_int_int), (86, c_prime_Is), (88, c_matrix_plus_1), (90, c_prime_Inv), (93, c_slices_Grow_int_int), (94, c_prime_divides), (95, c_prime_unit), (96, c_prime_to), (98, c_prime_residue), (99, c_prime_power_int), (100, c_prime_modulo), (101, c_prime_modulo_1)]
def T : Nat → Option Ay.Fn := Ay.find tab
theorem t_law04_MatrixActs : T 4 = some c_law04_MatrixActs := rfl
theorem t_law04_lives : T 11 = some c_law04_lives := rfl
theorem t_matrix_Order : T 13 = some c_matrix_Order := rfl
theorem t_matrix_Perm : T 15 = some c_matrix_Perm := rfl
theorem t_kit_Same_int : T 17 = some c_kit_Same_int := rfl
theorem t_kit_Pick : T 18 = some c_kit_Pick := rfl
theorem t_law04_drawn : T 19 = some c_law04_drawn := rfl
theorem t_matrix_Mul : T 20 = some c_matrix_Mul := rfl
theorem t_matrix_Det : T 21 = some c_matrix_Det := rfl
theorem t_kit_Fine : T 22 = some c_kit_Fine := rfl
theorem t_kit_Mul : T 23 = some c_kit_Mul := rfl
theorem t_kit_One : T 24 = some c_kit_One := rfl
theorem t_matrix_Inv : T 27 = some c_matrix_Inv := rfl
theorem t_ref04_Same : T 30 = some c_ref04_Same := rfl
theorem t_matrix_Check : T 41 = some c_matrix_Check := rfl
theorem t_law04_of : T 50 = some c_law04_of := rfl
theorem t_law04_is : T 51 = some c_law04_is := rfl
theorem t_matrix_one : T 52 = some c_matrix_one := rfl
theorem t_matrix_mul : T 53 = some c_matrix_mul := rfl
theorem t_slices_EqualFunc_int_int_int_int : T 54 = some c_slices_EqualFunc_int_int_int_int := rfl
theorem t_slices_Equal_int_int : T 55 = some c_slices_Equal_int_int := rfl
theorem t_matrix_square : T 58 = some c_matrix_square := rfl
theorem t_matrix_invert : T 59 = some c_matrix_invert := rfl
theorem t_matrix_apply : T 60 = some c_matrix_apply := rfl
theorem t_kit_Taker_Take : T 62 = some c_kit_Taker_Take := rfl
theorem t_matrix_fit : T 63 = some c_matrix_fit := rfl
theorem t_matrix_field : T 64 = some c_matrix_field := rfl
theorem t_kit_SameLists_int : T 66 = some c_kit_SameLists_int := rfl
theorem t_matrix_zip_int_int_int_x69 : T 69 = some c_matrix_zip_int_int_int_x69 := rfl
theorem t_matrix_plus : T 70 = some c_matrix_plus := rfl
theorem t_matrix_residue : T 71 = some c_matrix_residue := rfl
theorem t_slices_Min_int_int : T 75 = some c_slices_Min_int_int := rfl
theorem t_slices_Max_int_int : T 76 = some c_slices_Max_int_int := rfl
theorem t_matrix_invert_1 : T 81 = some c_matrix_invert_1 := rfl
theorem t_slices_Concat_int_int : T 82 = some c_slices_Concat_int_int := rfl
theorem t_matrix_work_pivot : T 83 = some c_matrix_work_pivot := rfl
theorem t_matrix_work_clear : T 84 = some c_matrix_work_clear := rfl
theorem t_slices_Clone_int_int : T 85 = some c_slices_Clone_int_int := rfl
theorem t_prime_Is : T 86 = some c_prime_Is := rfl
theorem t_matrix_plus_1 : T 88 = some c_matrix_plus_1 := rfl
theorem t_prime_Inv : T 90 = some c_prime_Inv := rfl
theorem t_slices_Grow_int_int : T 93 = some c_slices_Grow_int_int := rfl
theorem t_prime_divides : T 94 = some c_prime_divides := rfl
theorem t_prime_unit : T 95 = some c_prime_unit := rfl
theorem t_prime_to : T 96 = some c_prime_to := rfl
theorem t_prime_residue : T 98 = some c_prime_residue := rfl
theorem t_prime_power_int : T 99 = some c_prime_power_int := rfl
theorem t_prime_modulo : T 100 = some c_prime_modulo := rfl
theorem t_prime_modulo_1 : T 101 = some c_prime_modulo_1 := rfl
end Go.Proofs.Ytonhijbeddcmpaa

