/- The functions of the seat, as code of the abstract machine. -/
import Derived.Test.YtlhebmcnjgagjaaAy25
namespace Go.Proofs.Ytlhebmcnjgagjaa
open Go Go.Ay
set_option maxRecDepth 100000
/- 7 cayley/cayleylaw05.LinearEigen -/
abbrev n_law05_LinearEigen : Nat := 7
def c_law05_LinearEigen : Ay.Fn := ⟨3, [some 0, some 1, some 2, none, none, none, none, none, none, none, none, none, none, none, none, none, none, none, none, none, none, none, none, none, none, none, none, none, none], [.v 3],
.seq (
.reg [⟨.v 3, none, .op (.mov (.c (.bool false)))⟩]) (
.seq (
.seq (
.reg [⟨.l, none, .call 10 []⟩,
⟨.v 19, none, .op (.not (.l 0))⟩]) (
.ite (.v 19) (
.seq (
.reg [⟨.v 3, none, .op (.mov (.c (.bool false)))⟩]) (
.ret)) (
.skip))) (
.seq (
.seq (
.reg [⟨.l, none, .op (.mov (.v 0))⟩,
⟨.l, none, .op (.lens (.l 0))⟩,
⟨.v 20, none, .op (.bin .gtr .i64 (.l 0) (.c (.int .i64 40)))⟩]) (
.ite (.v 20) (
.seq (
.reg [⟨.v 3, none, .op (.mov (.c (.bool true)))⟩]) (
.ret)) (
.skip))) (
.seq (
.any 10 8 [⟨1, ⟨.v 30, none, .op (.mov (.v 1))⟩, false, []⟩,
⟨2, ⟨.v 31, none, .callp 12 [(.v 30), (.c (.int .i64 5))]⟩, false, []⟩,
⟨5, ⟨.v 34, none, .op (.mov (.v 2))⟩, false, []⟩,
⟨6, ⟨.v 35, none, .callp 12 [(.v 34), (.c (.int .i64 5))]⟩, false, []⟩,
⟨7, ⟨.v 36, none, .op (.bin .add .i64 (.c (.int .i64 1)) (.v 35))⟩, false, []⟩,
⟨0, ⟨.v 29, none, .op (.bls 1 [(.int .i64 0)] 5 [(0, 1, (.c (.int .i64 2))), (1, 1, (.c (.int .i64 3))), (2, 1, (.c (.int .i64 5))), (3, 1, (.c (.int .i64 7))), (4, 1, (.c (.int .i64 11)))])⟩, true, []⟩,
⟨3, ⟨.v 32, none, .op (.ixa 1 (.v 29) (.v 31))⟩, false, []⟩,
⟨4, ⟨.v 33, none, .op (.ld false 1 (.v 32))⟩, false, []⟩,
⟨8, ⟨.v 1, none, .op (.mov (.v 33))⟩, false, []⟩,
⟨9, ⟨.v 2, none, .op (.mov (.v 36))⟩, false, []⟩]) (
.seq (
.reg [⟨.l, none, .op (.mov (.v 1))⟩,
⟨.l, none, .op (.mov (.v 0))⟩,
⟨.l, none, .op (.bld [.nils, (.int .i64 0)] [(0, 1, (.l 0))])⟩,
⟨.l, none, .op (.box (.l 0))⟩,
⟨.l, none, .op (.mov (.v 1))⟩,
⟨.l, none, .op (.mov (.v 2))⟩,
⟨.l, none, .op (.mov (.v 2))⟩,
⟨.l, none, .call 13 [(.l 3), (.l 2), (.l 1), (.l 0)]⟩,
⟨.l, none, .op (.bld [(.int .i64 0), .nils] [(0, 1, (.l 7)), (1, 1, (.l 0))])⟩,
⟨.v 4, none, .op (.alc [(.int .i64 0), .nils])⟩,
⟨.n, none, .op (.st 2 (.v 4) (.l 0))⟩]) (
.seq (
.reg [⟨.l, none, .op (.ld true 2 (.v 4))⟩,
⟨.l, none, .call 34 [(.l 0)]⟩,
⟨.l, none, .op (.mov (.l 0))⟩,
⟨.l, none, .op (.ext (.l 0) 0)⟩,
⟨.l, none, .op (.ext (.l 1) 1)⟩,
⟨.v 5, none, .op (.mov (.l 1))⟩,
⟨.v 6, none, .op (.mov (.l 0))⟩]) (
.seq (
.reg [⟨.v 7, none, .op (.mov (.c (.int .i64 0)))⟩]) (
.seq (
.seq (
.reg [⟨.v 8, none, .op (.mov (.c (.int .i64 0)))⟩]) (
.block 0 (
.loop (
.seq (
.seq (
.reg [⟨.l, none, .op (.mov (.v 8))⟩,
⟨.l, none, .op (.mov (.v 1))⟩,
⟨.v 21, none, .op (.bin .lss .i64 (.l 1) (.l 0))⟩]) (
.ite (.v 21) (
.skip) (
.exit 0))) (
.seq (
.block 1 (
.seq (
.reg [⟨.l, none, .op (.ld true 2 (.v 4))⟩,
⟨.l, none, .op (.mov (.v 8))⟩,
⟨.l, none, .call 35 [(.l 1), (.l 0)]⟩,
⟨.l, none, .op (.mov (.l 0))⟩,
⟨.l, none, .op (.ext (.l 0) 0)⟩,
⟨.l, none, .op (.ext (.l 1) 1)⟩,
⟨.v 9, none, .op (.mov (.l 1))⟩,
⟨.v 10, none, .op (.mov (.l 0))⟩]) (
.seq (
.seq (
.reg [⟨.l, none, .op (.mov (.v 10))⟩,
⟨.l, none, .op (.bin .neq .i64 (.l 0) (.c (.int .i64 0)))⟩,
⟨.l, none, .op (.mov (.l 0))⟩,
⟨.l, some ((.l 0), false), .op (.mov (.v 9))⟩,
⟨.l, some ((.l 1), false), .op (.lens (.l 0))⟩,
⟨.l, some ((.l 2), false), .op (.bin .gtr .i64 (.l 0) (.c (.int .i64 0)))⟩,
⟨.l, some ((.l 3), false), .op (.mov (.v 5))⟩,
⟨.l, some ((.l 4), false), .op (.mov (.v 8))⟩,
⟨.l, some ((.l 5), false), .call 36 [(.l 1), (.l 0)]⟩,
⟨.l, some ((.l 6), false), .op (.beq true (.l 3) (.l 0))⟩,
⟨.v 22, none, .op (.pick (.l 7) (.c (.bool true)) (.l 0))⟩]) (
.ite (.v 22) (
.seq (
.reg [⟨.v 3, none, .op (.mov (.c (.bool false)))⟩]) (
.ret)) (
.skip))) (
.seq (
.seq (
.reg [⟨.v 11, none, .op (.mov (.c (.int .i64 0)))⟩]) (
.block 2 (
.loop (
.seq (
.seq (
.reg [⟨.l, none, .op (.mov (.v 11))⟩,
⟨.l, none, .op (.mov (.v 9))⟩,
⟨.l, none, .op (.lens (.l 0))⟩,
⟨.v 23, none, .op (.bin .lss .i64 (.l 2) (.l 0))⟩]) (
.ite (.v 23) (
.skip) (
.exit 2))) (
.seq (
.block 3 (
.seq (
.any 10 8 [⟨0, ⟨.v 29, none, .op (.mov (.v 9))⟩, false, []⟩,
⟨1, ⟨.v 30, none, .op (.mov (.v 11))⟩, false, []⟩,
⟨2, ⟨.v 31, none, .op (.ixa 1 (.v 29) (.v 30))⟩, false, []⟩,
⟨3, ⟨.v 32, none, .op (.ld false 1 (.v 31))⟩, false, []⟩,
⟨4, ⟨.v 33, none, .op (.ld true 2 (.v 4))⟩, false, []⟩,
⟨6, ⟨.v 35, none, .op (.mov (.v 2))⟩, false, []⟩,
⟨5, ⟨.v 34, none, .call 24 [(.v 32), (.v 33)]⟩, false, []⟩,
⟨8, ⟨.v 12, none, .op (.mov (.v 34))⟩, false, []⟩,
⟨7, ⟨.v 36, none, .op (.mks 1 8 [(.int .i64 0)] (.v 35) (.v 35))⟩, true, []⟩,
⟨9, ⟨.v 13, none, .op (.mov (.v 36))⟩, false, []⟩]) (
.seq (
.seq (
.reg [⟨.l, none, .op (.mov (.v 9))⟩,
⟨.l, none, .op (.mov (.v 11))⟩,
⟨.l, none, .op (.ixa 1 (.l 1) (.l 0))⟩,
⟨.l, none, .op (.ld false 1 (.l 0))⟩,
⟨.l, none, .op (.lens (.l 0))⟩,
⟨.l, none, .op (.mov (.v 2))⟩,
⟨.l, none, .op (.bin .neq .i64 (.l 1) (.l 0))⟩,
⟨.l, none, .op (.mov (.l 0))⟩,
⟨.l, some ((.l 0), false), .op (.mov (.v 12))⟩,
⟨.l, some ((.l 1), false), .op (.lens (.l 0))⟩,
⟨.l, some ((.l 2), false), .op (.mov (.v 2))⟩,
⟨.l, some ((.l 3), false), .op (.bin .neq .i64 (.l 1) (.l 0))⟩,
⟨.v 24, none, .op (.pick (.l 4) (.c (.bool true)) (.l 0))⟩]) (
.ite (.v 24) (
.seq (
.reg [⟨.v 3, none, .op (.mov (.c (.bool false)))⟩]) (
.ret)) (
.skip))) (
.seq (
.seq (
.reg [⟨.v 14, none, .op (.mov (.c (.int .i64 0)))⟩]) (
.block 4 (
.loop (
.seq (
.seq (
.reg [⟨.l, none, .op (.mov (.v 14))⟩,
⟨.l, none, .op (.mov (.v 2))⟩,
⟨.v 25, none, .op (.bin .lss .i64 (.l 1) (.l 0))⟩]) (
.ite (.v 25) (
.skip) (
.exit 4))) (
.seq (
.block 5 (
.reg [⟨.l, none, .op (.mov (.v 13))⟩,
⟨.l, none, .op (.mov (.v 14))⟩,
⟨.l, none, .op (.mov (.v 9))⟩,
⟨.l, none, .op (.mov (.v 11))⟩,
⟨.l, none, .op (.ixa 1 (.l 1) (.l 0))⟩,
⟨.l, none, .op (.ld false 1 (.l 0))⟩,
⟨.l, none, .op (.mov (.v 14))⟩,
⟨.l, none, .op (.ixa 1 (.l 1) (.l 0))⟩,
⟨.l, none, .op (.ld false 1 (.l 0))⟩,
⟨.l, none, .op (.mov (.v 8))⟩,
⟨.l, none, .op (.bin .mul .i64 (.l 1) (.l 0))⟩,
⟨.l, none, .op (.mov (.v 1))⟩,
⟨.l, none, .op (.bin .rem .i64 (.l 1) (.l 0))⟩,
⟨.l, none, .op (.ixa 1 (.l 12) (.l 11))⟩,
⟨.n, none, .op (.st 1 (.l 0) (.l 1))⟩])) (
.reg [⟨.l, none, .op (.mov (.v 14))⟩,
⟨.l, none, .op (.bin .add .i64 (.l 0) (.c (.int .i64 1)))⟩,
⟨.v 14, none, .op (.mov (.l 0))⟩])))))) (
.seq (
.reg [⟨.l, none, .op (.mov (.v 12))⟩,
⟨.l, none, .op (.mov (.v 13))⟩,
⟨.l, none, .call 23 [(.l 1), (.l 0)]⟩,
⟨.v 26, none, .op (.not (.l 0))⟩]) (
.ite (.v 26) (
.seq (
.reg [⟨.v 3, none, .op (.mov (.c (.bool false)))⟩]) (
.ret)) (
.skip))))))) (
.reg [⟨.l, none, .op (.mov (.v 11))⟩,
⟨.l, none, .op (.bin .add .i64 (.l 0) (.c (.int .i64 1)))⟩,
⟨.v 11, none, .op (.mov (.l 0))⟩])))))) (
.reg [⟨.l, none, .op (.mov (.v 7))⟩,
⟨.l, none, .op (.mov (.v 9))⟩,
⟨.l, none, .op (.lens (.l 0))⟩,
⟨.l, none, .op (.bin .add .i64 (.l 2) (.l 0))⟩,
⟨.v 7, none, .op (.mov (.l 0))⟩]))))) (
.reg [⟨.l, none, .op (.mov (.v 8))⟩,
⟨.l, none, .op (.bin .add .i64 (.l 0) (.c (.int .i64 1)))⟩,
⟨.v 8, none, .op (.mov (.l 0))⟩])))))) (
.seq (
.seq (
.reg [⟨.v 15, none, .op (.mov (.c (.int .i64 0)))⟩]) (
.block 6 (
.loop (
.seq (
.seq (
.reg [⟨.l, none, .op (.mov (.v 15))⟩,
⟨.l, none, .op (.bin .add .i64 (.l 0) (.c (.int .i64 1)))⟩,
⟨.l, none, .op (.mov (.v 5))⟩,
⟨.l, none, .op (.lens (.l 0))⟩,
⟨.v 27, none, .op (.bin .lss .i64 (.l 2) (.l 0))⟩]) (
.ite (.v 27) (
.skip) (
.exit 6))) (
.seq (
.block 7 (
.seq (
.any 10 9 [⟨0, ⟨.v 29, none, .op (.mov (.v 5))⟩, false, []⟩,
⟨1, ⟨.v 30, none, .op (.mov (.v 15))⟩, false, []⟩,
⟨2, ⟨.v 31, none, .op (.ixa 1 (.v 29) (.v 30))⟩, false, []⟩,
⟨3, ⟨.v 32, none, .op (.ld false 1 (.v 31))⟩, false, []⟩,
⟨4, ⟨.v 33, none, .op (.mov (.v 5))⟩, false, []⟩,
⟨5, ⟨.v 34, none, .op (.mov (.v 15))⟩, false, []⟩,
⟨6, ⟨.v 35, none, .op (.bin .add .i64 (.v 34) (.c (.int .i64 1)))⟩, false, []⟩,
⟨7, ⟨.v 36, none, .op (.ixa 1 (.v 33) (.v 35))⟩, false, []⟩,
⟨8, ⟨.v 37, none, .op (.ld false 1 (.v 36))⟩, false, []⟩,
⟨9, ⟨.v 28, none, .op (.bin .geq .i64 (.v 32) (.v 37))⟩, false, []⟩]) (
.ite (.v 28) (
.seq (
.reg [⟨.v 3, none, .op (.mov (.c (.bool false)))⟩]) (
.ret)) (
.skip)))) (
.reg [⟨.l, none, .op (.mov (.v 15))⟩,
⟨.l, none, .op (.bin .add .i64 (.l 0) (.c (.int .i64 1)))⟩,
⟨.v 15, none, .op (.mov (.l 0))⟩])))))) (
.seq (
.reg [⟨.l, none, .op (.ld true 2 (.v 4))⟩,
⟨.l, none, .call 37 [(.l 0)]⟩,
⟨.l, none, .op (.mov (.l 0))⟩,
⟨.l, none, .op (.ext (.l 0) 0)⟩,
⟨.l, none, .op (.ext (.l 1) 1)⟩,
⟨.v 16, none, .op (.alc [(.int .i64 0), .nils])⟩,
⟨.n, none, .op (.st 2 (.v 16) (.l 1))⟩,
⟨.l, none, .op (.mov (.l 0))⟩]) (
.seq (
.reg [⟨.l, none, .op (.ld true 2 (.v 16))⟩,
⟨.l, none, .call 34 [(.l 0)]⟩,
⟨.l, none, .op (.mov (.l 0))⟩,
⟨.l, none, .op (.ext (.l 0) 0)⟩,
⟨.l, none, .op (.ext (.l 1) 1)⟩,
⟨.v 17, none, .op (.mov (.l 1))⟩,
⟨.v 18, none, .op (.mov (.l 0))⟩]) (
.seq (
.reg [⟨.l, none, .op (.mov (.v 6))⟩,
⟨.l, none, .op (.bin .eql .i64 (.l 0) (.c (.int .i64 0)))⟩,
⟨.l, none, .op (.mov (.l 0))⟩,
⟨.l, some ((.l 0), true), .op (.mov (.v 18))⟩,
⟨.l, some ((.l 1), true), .op (.bin .eql .i64 (.l 0) (.c (.int .i64 0)))⟩,
⟨.l, none, .op (.pick (.l 2) (.l 0) (.c (.bool false)))⟩,
⟨.l, none, .op (.mov (.l 0))⟩,
⟨.l, some ((.l 0), true), .op (.mov (.v 7))⟩,
⟨.l, some ((.l 1), true), .op (.mov (.v 2))⟩,
⟨.l, some ((.l 2), true), .op (.bin .leq .i64 (.l 1) (.l 0))⟩,
⟨.l, none, .op (.pick (.l 3) (.l 0) (.c (.bool false)))⟩,
⟨.l, none, .op (.mov (.l 0))⟩,
⟨.l, some ((.l 0), true), .op (.mov (.v 5))⟩,
⟨.l, some ((.l 1), true), .op (.mov (.v 17))⟩,
⟨.l, some ((.l 2), true), .call 23 [(.l 1), (.l 0)]⟩,
⟨.l, none, .op (.pick (.l 3) (.l 0) (.c (.bool false)))⟩,
⟨.v 3, none, .op (.mov (.l 0))⟩]) (
.ret))))))))))))⟩
/- 10 cayley/cayleylaw05.lives -/
abbrev n_law05_lives : Nat := 10
def c_law05_lives : Ay.Fn := ⟨0, [none, none, none, none, none, none, none], [.v 0],
.seq (
.reg [⟨.v 0, none, .op (.mov (.c (.bool false)))⟩]) (
.seq (
.reg [⟨.l, none, .call 42 []⟩,
⟨.l, none, .call 14 [(.c (.int .i64 5)), (.c (.int .i64 3)), (.l 0)]⟩,
⟨.l, none, .op (.mov (.l 0))⟩,
⟨.l, none, .op (.ext (.l 0) 0)⟩,
⟨.l, none, .op (.ext (.l 1) 1)⟩,
⟨.v 1, none, .op (.mov (.l 1))⟩,
⟨.v 2, none, .op (.mov (.l 0))⟩]) (
.seq (
.reg [⟨.l, none, .call 42 []⟩,
⟨.l, none, .op (.bls 1 [(.int .i64 0)] 3 [(0, 1, (.c (.int .i64 3))), (1, 1, (.c (.int .i64 1))), (2, 1, (.c (.int .i64 4)))])⟩,
⟨.l, none, .call 18 [(.c (.int .i64 5)), (.c (.int .i64 3)), (.l 1), (.l 0)]⟩,
⟨.l, none, .op (.mov (.l 0))⟩,
⟨.l, none, .op (.ext (.l 0) 0)⟩,
⟨.l, none, .op (.ext (.l 1) 1)⟩,
⟨.v 3, none, .op (.mov (.l 1))⟩,
⟨.v 4, none, .op (.mov (.l 0))⟩]) (
.seq (
.reg [⟨.l, none, .op (.bls 1 [(.int .i64 0)] 2 [(0, 1, (.c (.int .i64 1))), (1, 1, (.c (.int .i64 2)))])⟩,
⟨.l, none, .op (.bls 1 [(.int .i64 0)] 2 [(0, 1, (.c (.int .i64 2))), (1, 1, (.c (.int .i64 4)))])⟩,
⟨.l, none, .op (.bls 1 [(.int .i64 0)] 2 [(0, 1, (.c (.int .i64 0))), (1, 1, (.c (.int .i64 1)))])⟩,
⟨.l, none, .op (.bls 1 [.nils] 3 [(0, 1, (.l 2)), (1, 1, (.l 1)), (2, 1, (.l 0))])⟩,
⟨.l, none, .call 44 [(.l 0)]⟩,
⟨.l, none, .call 22 [(.l 0)]⟩,
⟨.l, none, .op (.mov (.l 0))⟩,
⟨.l, none, .op (.ext (.l 0) 0)⟩,
⟨.l, none, .op (.ext (.l 1) 1)⟩,
⟨.v 5, none, .op (.mov (.l 1))⟩,
⟨.v 6, none, .op (.mov (.l 0))⟩]) (
.seq (
.reg [⟨.l, none, .op (.mov (.v 1))⟩,
⟨.l, none, .op (.mov (.v 2))⟩,
⟨.l, none, .op (.bls 1 [(.int .i64 0)] 3 [(0, 1, (.c (.int .i64 1))), (1, 1, (.c (.int .i64 2))), (2, 1, (.c (.int .i64 0)))])⟩,
⟨.l, none, .op (.bls 1 [(.int .i64 0)] 3 [(0, 1, (.c (.int .i64 0))), (1, 1, (.c (.int .i64 0))), (2, 1, (.c (.int .i64 1)))])⟩,
⟨.l, none, .op (.bls 1 [.nils] 2 [(0, 1, (.l 1)), (1, 1, (.l 0))])⟩,
⟨.l, none, .call 43 [(.l 4), (.l 3), (.l 0)]⟩,
⟨.l, none, .op (.mov (.l 0))⟩,
⟨.l, some ((.l 0), true), .op (.mov (.v 3))⟩,
⟨.l, none, .op (.pick (.l 1) (.l 0) (.c (.bool false)))⟩,
⟨.l, none, .op (.mov (.l 0))⟩,
⟨.l, some ((.l 0), true), .op (.mov (.v 4))⟩,
⟨.l, some ((.l 1), true), .op (.bin .eql .i64 (.l 0) (.c (.int .i64 0)))⟩,
⟨.l, none, .op (.pick (.l 2) (.l 0) (.c (.bool false)))⟩,
⟨.l, none, .op (.mov (.l 0))⟩,
⟨.l, some ((.l 0), true), .op (.mov (.v 5))⟩,
⟨.l, some ((.l 1), true), .op (.mov (.v 6))⟩,
⟨.l, some ((.l 2), true), .op (.bls 1 [(.int .i64 0)] 3 [(0, 1, (.c (.int .i64 1))), (1, 1, (.c (.int .i64 2))), (2, 1, (.c (.int .i64 0)))])⟩,
⟨.l, some ((.l 3), true), .op (.bls 1 [.nils] 1 [(0, 1, (.l 0))])⟩,
⟨.l, some ((.l 4), true), .call 43 [(.l 3), (.l 2), (.l 0)]⟩,
⟨.l, none, .op (.pick (.l 5) (.l 0) (.c (.bool false)))⟩,
⟨.v 0, none, .op (.mov (.l 0))⟩]) (
.ret)))))⟩
/- 12 cayley/cayleykit.Pick -/
abbrev n_kit_Pick : Nat := 12
def c_kit_Pick : Ay.Fn := ⟨2, [some 0, some 1, none, none], [.v 2],
.seq (
.reg [⟨.v 2, none, .op (.mov (.c (.int .i64 0)))⟩]) (
.seq (
.reg [⟨.l, none, .op (.mov (.v 0))⟩,
⟨.l, none, .op (.mov (.v 1))⟩,
⟨.l, none, .op (.bin .rem .i64 (.l 1) (.l 0))⟩,
⟨.v 0, none, .op (.mov (.l 0))⟩]) (
.seq (
.seq (
.reg [⟨.l, none, .op (.mov (.v 0))⟩,
⟨.v 3, none, .op (.bin .lss .i64 (.l 0) (.c (.int .i64 0)))⟩]) (
.ite (.v 3) (
.reg [⟨.l, none, .op (.mov (.v 0))⟩,
⟨.l, none, .op (.mov (.v 1))⟩,
⟨.l, none, .op (.bin .add .i64 (.l 1) (.l 0))⟩,
⟨.v 0, none, .op (.mov (.l 0))⟩]) (
.skip))) (
.seq (
.reg [⟨.l, none, .op (.mov (.v 0))⟩,
⟨.v 2, none, .op (.mov (.l 0))⟩]) (
.ret))))⟩
/- 13 cayley/cayleylaw05.drawn -/
abbrev n_law05_drawn : Nat := 13
def c_law05_drawn : Ay.Fn := ⟨4, [some 0, some 1, some 2, some 3, none, none, none, none, none, none, none], [.v 4],
.seq (
.reg [⟨.v 4, none, .op (.mov (.c .nils))⟩]) (
.seq (
.reg [⟨.v 5, none, .op (.mov (.c .nils))⟩]) (
.seq (
.seq (
.reg [⟨.v 6, none, .op (.mov (.c (.int .i64 0)))⟩]) (
.block 0 (
.loop (
.seq (
.seq (
.reg [⟨.l, none, .op (.mov (.v 6))⟩,
⟨.l, none, .op (.mov (.v 2))⟩,
⟨.v 9, none, .op (.bin .lss .i64 (.l 1) (.l 0))⟩]) (
.ite (.v 9) (
.skip) (
.exit 0))) (
.seq (
.block 1 (
.seq (
.reg [⟨.v 7, none, .op (.mov (.c .nils))⟩]) (
.seq (
.seq (
.reg [⟨.v 8, none, .op (.mov (.c (.int .i64 0)))⟩]) (
.block 2 (
.loop (
.seq (
.seq (
.reg [⟨.l, none, .op (.mov (.v 8))⟩,
⟨.l, none, .op (.mov (.v 3))⟩,
⟨.v 10, none, .op (.bin .lss .i64 (.l 1) (.l 0))⟩]) (
.ite (.v 10) (
.skip) (
.exit 2))) (
.seq (
.block 3 (
.reg [⟨.l, none, .op (.mov (.v 7))⟩,
⟨.l, none, .op (.mov (.v 0))⟩,
⟨.l, none, .op (.mov (.v 1))⟩,
⟨.l, none, .call 21 [(.l 1), (.l 0)]⟩,
⟨.l, none, .op (.bls 1 [(.int .i64 0)] 1 [(0, 1, (.l 0))])⟩,
⟨.l, none, .op (.app 1 8 (.l 4) (.l 0))⟩,
⟨.v 7, none, .op (.mov (.l 0))⟩])) (
.reg [⟨.l, none, .op (.mov (.v 8))⟩,
⟨.l, none, .op (.bin .add .i64 (.l 0) (.c (.int .i64 1)))⟩,
⟨.v 8, none, .op (.mov (.l 0))⟩])))))) (
.reg [⟨.l, none, .op (.mov (.v 5))⟩,
⟨.l, none, .op (.mov (.v 7))⟩,
⟨.l, none, .op (.bls 1 [.nils] 1 [(0, 1, (.l 0))])⟩,
⟨.l, none, .op (.app 1 24 (.l 2) (.l 0))⟩,
⟨.v 5, none, .op (.mov (.l 0))⟩])))) (
.reg [⟨.l, none, .op (.mov (.v 6))⟩,
⟨.l, none, .op (.bin .add .i64 (.l 0) (.c (.int .i64 1)))⟩,
⟨.v 6, none, .op (.mov (.l 0))⟩])))))) (
.seq (
.reg [⟨.l, none, .op (.mov (.v 5))⟩,
⟨.v 4, none, .op (.mov (.l 0))⟩]) (
.ret))))⟩
/- 14 cayley/linear.Basis -/
abbrev n_linear_Basis : Nat := 14
def c_linear_Basis : Ay.Fn := ⟨3, [some 0, some 1, some 2, none, none, none, none], [.v 3, .v 4],
.seq (
.reg [⟨.v 3, none, .op (.mov (.c .nils))⟩,
⟨.v 4, none, .op (.mov (.c (.int .i64 0)))⟩]) (
.seq (
.seq (
.reg [⟨.l, none, .op (.mov (.v 0))⟩,
⟨.l, none, .op (.mov (.v 1))⟩,
⟨.l, none, .op (.mov (.v 2))⟩,
⟨.l, none, .op (.bls 1 [.nils] 1 [(0, 1, (.l 0))])⟩,
⟨.l, none, .call 45 [(.l 3), (.l 2), (.l 0)]⟩,
⟨.v 5, none, .op (.mov (.l 0))⟩]) (
.seq (
.reg [⟨.l, none, .op (.mov (.v 5))⟩,
⟨.v 6, none, .op (.bin .neq .i64 (.l 0) (.c (.int .i64 0)))⟩]) (
.ite (.v 6) (
.seq (
.reg [⟨.l, none, .op (.mov (.v 5))⟩,
⟨.v 3, none, .op (.mov (.c .nils))⟩,
⟨.v 4, none, .op (.mov (.l 0))⟩]) (
.ret)) (
.skip)))) (
.seq (
.reg [⟨.l, none, .op (.mov (.v 0))⟩,
⟨.l, none, .op (.mov (.v 1))⟩,
⟨.l, none, .op (.mov (.v 2))⟩,
⟨.l, none, .call 46 [(.l 2), (.l 1), (.l 0)]⟩,
⟨.l, none, .call 47 [(.l 0)]⟩,
⟨.v 3, none, .op (.mov (.l 0))⟩,
⟨.v 4, none, .op (.mov (.c (.int .i64 0)))⟩]) (
.ret)))⟩
/- 18 cayley/linear.In -/
abbrev n_linear_In : Nat := 18
def c_linear_In : Ay.Fn := ⟨4, [some 0, some 1, some 2, some 3, none, none, none, none], [.v 4, .v 5],
.seq (
.reg [⟨.v 4, none, .op (.mov (.c (.bool false)))⟩,
⟨.v 5, none, .op (.mov (.c (.int .i64 0)))⟩]) (
.seq (
.seq (
.reg [⟨.l, none, .op (.mov (.v 0))⟩,
⟨.l, none, .op (.mov (.v 1))⟩,
⟨.l, none, .op (.mov (.v 2))⟩,
⟨.l, none, .op (.mov (.v 3))⟩,
⟨.l, none, .op (.bls 1 [.nils] 1 [(0, 1, (.l 0))])⟩,
⟨.l, none, .op (.bls 1 [.nils] 2 [(0, 1, (.l 2)), (1, 1, (.l 0))])⟩,
⟨.l, none, .call 45 [(.l 5), (.l 4), (.l 0)]⟩,
⟨.v 6, none, .op (.mov (.l 0))⟩]) (
.seq (
.reg [⟨.l, none, .op (.mov (.v 6))⟩,
⟨.v 7, none, .op (.bin .neq .i64 (.l 0) (.c (.int .i64 0)))⟩]) (
.ite (.v 7) (
.seq (
.reg [⟨.l, none, .op (.mov (.v 6))⟩,
⟨.v 4, none, .op (.mov (.c (.bool false)))⟩,
⟨.v 5, none, .op (.mov (.l 0))⟩]) (
.ret)) (
.skip)))) (
.seq (
.reg [⟨.l, none, .op (.mov (.v 0))⟩,
⟨.l, none, .op (.mov (.v 1))⟩,
⟨.l, none, .op (.mov (.v 2))⟩,
⟨.l, none, .call 46 [(.l 2), (.l 1), (.l 0)]⟩,
⟨.l, none, .op (.mov (.v 3))⟩,
⟨.l, none, .call 50 [(.l 1), (.l 0)]⟩,
⟨.l, none, .op (.not (.l 0))⟩,
⟨.v 4, none, .op (.mov (.l 0))⟩,
⟨.v 5, none, .op (.mov (.c (.int .i64 0)))⟩]) (
.ret)))⟩
/- 19 cayley/cayleykit.SameLists[int] -/
abbrev n_kit_SameLists_int : Nat := 19
def c_kit_SameLists_int : Ay.Fn := ⟨2, [some 0, some 1, none, none, none, none, none], [.v 2],
.seq (
.reg [⟨.v 2, none, .op (.mov (.c (.bool false)))⟩]) (
.seq (
.seq (
.reg [⟨.l, none, .op (.mov (.v 0))⟩,
⟨.l, none, .op (.lens (.l 0))⟩,
⟨.l, none, .op (.mov (.v 1))⟩,
⟨.l, none, .op (.lens (.l 0))⟩,
⟨.v 4, none, .op (.bin .neq .i64 (.l 2) (.l 0))⟩]) (
.ite (.v 4) (
.seq (
.reg [⟨.v 2, none, .op (.mov (.c (.bool false)))⟩]) (
.ret)) (
.skip))) (
.seq (
.seq (
.reg [⟨.v 3, none, .op (.mov (.c (.int .i64 0)))⟩]) (
.block 0 (
.loop (
.seq (
.seq (
.reg [⟨.l, none, .op (.mov (.v 3))⟩,
⟨.l, none, .op (.mov (.v 0))⟩,
⟨.l, none, .op (.lens (.l 0))⟩,
⟨.v 5, none, .op (.bin .lss .i64 (.l 2) (.l 0))⟩]) (
.ite (.v 5) (
.skip) (
.exit 0))) (
.seq (
.block 1 (
.seq (
.any 10 9 [⟨0, ⟨.v 7, none, .op (.mov (.v 0))⟩, false, []⟩,
⟨1, ⟨.v 8, none, .op (.mov (.v 3))⟩, false, []⟩,
⟨2, ⟨.v 9, none, .op (.ixa 1 (.v 7) (.v 8))⟩, false, []⟩,
⟨3, ⟨.v 10, none, .op (.ld false 1 (.v 9))⟩, false, []⟩,
⟨4, ⟨.v 11, none, .op (.mov (.v 1))⟩, false, []⟩,
⟨5, ⟨.v 12, none, .op (.mov (.v 3))⟩, false, []⟩,
⟨6, ⟨.v 13, none, .op (.ixa 1 (.v 11) (.v 12))⟩, false, []⟩,
⟨7, ⟨.v 14, none, .op (.ld false 1 (.v 13))⟩, false, []⟩,
⟨8, ⟨.v 15, none, .call 23 [(.v 10), (.v 14)]⟩, false, []⟩,
⟨9, ⟨.v 6, none, .op (.not (.v 15))⟩, false, []⟩]) (
.ite (.v 6) (
.seq (
.reg [⟨.v 2, none, .op (.mov (.c (.bool false)))⟩]) (
.ret)) (
.skip)))) (
.reg [⟨.l, none, .op (.mov (.v 3))⟩,
⟨.l, none, .op (.bin .add .i64 (.l 0) (.c (.int .i64 1)))⟩,
⟨.v 3, none, .op (.mov (.l 0))⟩])))))) (
.seq (
.reg [⟨.v 2, none, .op (.mov (.c (.bool true)))⟩]) (
.ret))))⟩
/- 21 (ptr cayley/cayleykit.Taker).Take -/
abbrev n_kit_Taker_Take : Nat := 21
def c_kit_Taker_Take : Ay.Fn := ⟨2, [some 0, some 1, none, none], [.v 2],
.seq (
.reg [⟨.v 2, none, .op (.mov (.c (.int .i64 0)))⟩]) (
.seq (
.seq (
.any 14 13 [⟨0, ⟨.v 4, none, .op (.mov (.v 0))⟩, false, []⟩,
⟨1, ⟨.v 5, none, .op (.nck (.v 4))⟩, false, []⟩,
⟨2, ⟨.v 6, none, .op (.fla 1 (.v 5))⟩, false, []⟩,
⟨3, ⟨.v 7, none, .op (.ld false 1 (.v 6))⟩, false, []⟩,
⟨4, ⟨.v 8, none, .op (.mov (.v 0))⟩, false, []⟩,
⟨5, ⟨.v 9, none, .op (.nck (.v 8))⟩, false, []⟩,
⟨6, ⟨.v 10, none, .op (.fla 0 (.v 9))⟩, false, []⟩,
⟨7, ⟨.v 11, none, .op (.ld false 1 (.v 10))⟩, false, []⟩,
⟨8, ⟨.v 12, none, .op (.lens (.v 11))⟩, false, []⟩,
⟨9, ⟨.v 13, none, .op (.bin .geq .i64 (.v 7) (.v 12))⟩, false, []⟩,
⟨10, ⟨.v 14, none, .op (.mov (.v 13))⟩, false, []⟩,
⟨11, ⟨.v 15, some ((.v 14), false), .op (.mov (.v 1))⟩, false, []⟩,
⟨12, ⟨.v 16, some ((.v 14), false), .op (.bin .lss .i64 (.v 15) (.c (.int .i64 1)))⟩, false, []⟩,
⟨13, ⟨.v 3, none, .op (.pick (.v 14) (.c (.bool true)) (.v 16))⟩, false, []⟩]) (
.ite (.v 3) (
.seq (
.reg [⟨.v 2, none, .op (.mov (.c (.int .i64 0)))⟩]) (
.ret)) (
.skip))) (
.seq (
.reg [⟨.l, none, .op (.mov (.v 0))⟩,
⟨.l, none, .op (.nck (.l 0))⟩,
⟨.l, none, .op (.fla 1 (.l 0))⟩,
⟨.l, none, .op (.ld false 1 (.l 0))⟩,
⟨.l, none, .op (.bin .add .i64 (.l 0) (.c (.int .i64 1)))⟩,
⟨.l, none, .op (.nck (.l 4))⟩,
⟨.l, none, .op (.fla 1 (.l 0))⟩,
⟨.n, none, .op (.st 1 (.l 0) (.l 2))⟩]) (
.seq (
.any 14 13 [⟨0, ⟨.v 4, none, .op (.mov (.v 0))⟩, false, []⟩,
⟨1, ⟨.v 5, none, .op (.nck (.v 4))⟩, false, []⟩,
⟨2, ⟨.v 6, none, .op (.fla 0 (.v 5))⟩, false, []⟩,
⟨3, ⟨.v 7, none, .op (.ld false 1 (.v 6))⟩, false, []⟩,
⟨4, ⟨.v 8, none, .op (.mov (.v 0))⟩, false, []⟩,
⟨5, ⟨.v 9, none, .op (.nck (.v 8))⟩, false, []⟩,
⟨6, ⟨.v 10, none, .op (.fla 1 (.v 9))⟩, false, []⟩,
⟨7, ⟨.v 11, none, .op (.ld false 1 (.v 10))⟩, false, []⟩,
⟨8, ⟨.v 12, none, .op (.bin .sub .i64 (.v 11) (.c (.int .i64 1)))⟩, false, []⟩,
⟨9, ⟨.v 13, none, .op (.ixa 1 (.v 7) (.v 12))⟩, false, []⟩,
⟨10, ⟨.v 14, none, .op (.ld false 1 (.v 13))⟩, false, []⟩,
⟨11, ⟨.v 15, none, .op (.mov (.v 1))⟩, false, []⟩,
⟨12, ⟨.v 16, none, .call 12 [(.v 14), (.v 15)]⟩, false, []⟩,
⟨13, ⟨.v 2, none, .op (.mov (.v 16))⟩, false, []⟩]) (
.ret))))⟩
/- 22 cayley/linear.Kernel -/
abbrev n_linear_Kernel : Nat := 22
def c_linear_Kernel : Ay.Fn := ⟨1, [some 0, none, none, none, none, none], [.v 2, .v 3],
.seq (
.reg [⟨.v 1, none, .op (.box (.v 0))⟩,
⟨.v 2, none, .op (.mov (.c .nils))⟩,
⟨.v 3, none, .op (.mov (.c (.int .i64 0)))⟩]) (
.seq (
.seq (
.reg [⟨.l, none, .op (.ld true 2 (.v 1))⟩,
⟨.l, none, .call 51 [(.l 0)]⟩,
⟨.v 4, none, .op (.mov (.l 0))⟩]) (
.seq (
.reg [⟨.l, none, .op (.mov (.v 4))⟩,
⟨.v 5, none, .op (.bin .neq .i64 (.l 0) (.c (.int .i64 0)))⟩]) (
.ite (.v 5) (
.seq (
.reg [⟨.l, none, .op (.mov (.v 4))⟩,
⟨.v 2, none, .op (.mov (.c .nils))⟩,
⟨.v 3, none, .op (.mov (.l 0))⟩]) (
.ret)) (
.skip)))) (
.seq (
.any 12 10 [⟨0, ⟨.v 6, none, .op (.fla 0 (.v 1))⟩, false, []⟩,
⟨1, ⟨.v 7, none, .op (.ld false 1 (.v 6))⟩, false, []⟩,
⟨2, ⟨.v 8, none, .op (.fla 1 (.v 1))⟩, false, []⟩,
⟨3, ⟨.v 9, none, .op (.ld false 1 (.v 8))⟩, false, []⟩,
⟨4, ⟨.v 10, none, .op (.ixa 1 (.v 9) (.c (.int .i64 0)))⟩, false, []⟩,
⟨5, ⟨.v 11, none, .op (.ld false 1 (.v 10))⟩, false, []⟩,
⟨6, ⟨.v 12, none, .op (.lens (.v 11))⟩, false, []⟩,
⟨7, ⟨.v 13, none, .op (.fla 1 (.v 1))⟩, false, []⟩,
⟨8, ⟨.v 14, none, .op (.ld false 1 (.v 13))⟩, false, []⟩,
⟨9, ⟨.v 15, none, .call 52 [(.v 7), (.v 12), (.v 14)]⟩, false, []⟩,
⟨10, ⟨.v 2, none, .op (.mov (.v 15))⟩, false, []⟩,
⟨11, ⟨.v 3, none, .op (.mov (.c (.int .i64 0)))⟩, false, []⟩]) (
.ret)))⟩
/- 23 cayley/cayleykit.Same[int] -/
abbrev n_kit_Same_int : Nat := 23
def c_kit_Same_int : Ay.Fn := ⟨2, [some 0, some 1, none, none, none, none, none], [.v 2],
.seq (
.reg [⟨.v 2, none, .op (.mov (.c (.bool false)))⟩]) (
.seq (
.seq (
.reg [⟨.l, none, .op (.mov (.v 0))⟩,
⟨.l, none, .op (.lens (.l 0))⟩,
⟨.l, none, .op (.mov (.v 1))⟩,
⟨.l, none, .op (.lens (.l 0))⟩,
⟨.v 4, none, .op (.bin .neq .i64 (.l 2) (.l 0))⟩]) (
.ite (.v 4) (
.seq (
.reg [⟨.v 2, none, .op (.mov (.c (.bool false)))⟩]) (
.ret)) (
.skip))) (
.seq (
.seq (
.reg [⟨.v 3, none, .op (.mov (.c (.int .i64 0)))⟩]) (
.block 0 (
.loop (
.seq (
.seq (
.reg [⟨.l, none, .op (.mov (.v 3))⟩,
⟨.l, none, .op (.mov (.v 0))⟩,
⟨.l, none, .op (.lens (.l 0))⟩,
⟨.v 5, none, .op (.bin .lss .i64 (.l 2) (.l 0))⟩]) (
.ite (.v 5) (
.skip) (
.exit 0))) (
.seq (
.block 1 (
.seq (
.any 9 8 [⟨0, ⟨.v 7, none, .op (.mov (.v 0))⟩, false, []⟩,
⟨1, ⟨.v 8, none, .op (.mov (.v 3))⟩, false, []⟩,
⟨2, ⟨.v 9, none, .op (.ixa 1 (.v 7) (.v 8))⟩, false, []⟩,
⟨3, ⟨.v 10, none, .op (.ld false 1 (.v 9))⟩, false, []⟩,
⟨4, ⟨.v 11, none, .op (.mov (.v 1))⟩, false, []⟩,
⟨5, ⟨.v 12, none, .op (.mov (.v 3))⟩, false, []⟩,
⟨6, ⟨.v 13, none, .op (.ixa 1 (.v 11) (.v 12))⟩, false, []⟩,
⟨7, ⟨.v 14, none, .op (.ld false 1 (.v 13))⟩, false, []⟩,
⟨8, ⟨.v 6, none, .op (.bin .neq .i64 (.v 10) (.v 14))⟩, false, []⟩]) (
.ite (.v 6) (
.seq (
.reg [⟨.v 2, none, .op (.mov (.c (.bool false)))⟩]) (
.ret)) (
.skip)))) (
.reg [⟨.l, none, .op (.mov (.v 3))⟩,
⟨.l, none, .op (.bin .add .i64 (.l 0) (.c (.int .i64 1)))⟩,
⟨.v 3, none, .op (.mov (.l 0))⟩])))))) (
.seq (
.reg [⟨.v 2, none, .op (.mov (.c (.bool true)))⟩]) (
.ret))))⟩
/- 24 cayley/cayleylaw05.apply -/
abbrev n_law05_apply : Nat := 24
def c_law05_apply : Ay.Fn := ⟨2, [some 0, some 1, none, none, none], [.v 3],
.seq (
.reg [⟨.v 2, none, .op (.box (.v 1))⟩,
⟨.v 3, none, .op (.mov (.c .nils))⟩]) (
.seq (
.reg [⟨.l, none, .op (.mov (.v 0))⟩,
⟨.l, none, .op (.ld true 2 (.v 2))⟩,
⟨.l, none, .call 53 [(.l 1), (.l 0)]⟩,
⟨.l, none, .op (.mov (.l 0))⟩,
⟨.l, none, .op (.ext (.l 0) 0)⟩,
⟨.l, none, .op (.ext (.l 1) 1)⟩,
⟨.v 4, none, .op (.mov (.l 1))⟩,
⟨.l, none, .op (.mov (.l 0))⟩]) (
.seq (
.reg [⟨.l, none, .op (.mov (.v 4))⟩,
⟨.v 3, none, .op (.mov (.l 0))⟩]) (
.ret)))⟩
/- 34 cayley/linear.Values -/
abbrev n_linear_Values : Nat := 34
def c_linear_Values : Ay.Fn := ⟨1, [some 0, none, none, none, none, none, none, none, none, none, none, none, none, none, none, none, none, none], [.v 2, .v 3],
.seq (
.reg [⟨.v 1, none, .op (.box (.v 0))⟩,
⟨.v 2, none, .op (.mov (.c .nils))⟩,
⟨.v 3, none, .op (.mov (.c (.int .i64 0)))⟩]) (
.seq (
.reg [⟨.l, none, .op (.ld true 2 (.v 1))⟩,
⟨.l, none, .call 64 [(.l 0)]⟩,
⟨.l, none, .op (.mov (.l 0))⟩,
⟨.l, none, .op (.ext (.l 0) 0)⟩,
⟨.l, none, .op (.ext (.l 1) 1)⟩,
⟨.v 4, none, .op (.mov (.l 1))⟩,
⟨.v 5, none, .op (.mov (.l 0))⟩]) (
.seq (
.seq (
.reg [⟨.l, none, .op (.mov (.v 5))⟩,
⟨.v 10, none, .op (.bin .neq .i64 (.l 0) (.c (.int .i64 0)))⟩]) (
.ite (.v 10) (
.seq (
.reg [⟨.l, none, .op (.mov (.v 5))⟩,
⟨.v 2, none, .op (.mov (.c .nils))⟩,
⟨.v 3, none, .op (.mov (.l 0))⟩]) (
.ret)) (
.skip))) (
.seq (
.reg [⟨.v 6, none, .op (.mov (.c .nils))⟩]) (
.seq (
.seq (
.reg [⟨.l, none, .op (.fla 0 (.v 1))⟩,
⟨.v 11, none, .op (.ld false 1 (.l 0))⟩,
⟨.v 12, none, .op (.mov (.c (.int .i64 0)))⟩]) (
.block 0 (
.loop (
.seq (
.reg [⟨.v 13, none, .op (.bin .lss .i64 (.v 12) (.v 11))⟩]) (
.seq (
.ite (.v 13) (
.skip) (
.exit 0)) (
.seq (
.block 1 (
.seq (
.reg [⟨.l, none, .op (.mov (.v 12))⟩,
⟨.v 7, none, .op (.alc [(.int .i64 0)])⟩,
⟨.n, none, .op (.st 1 (.v 7) (.l 0))⟩]) (
.seq (
.reg [⟨.v 8, none, .op (.alc [(.int .i64 0)])⟩,
⟨.n, none, .op (.st 1 (.v 8) (.c (.int .i64 0)))⟩]) (
.seq (
.seq (
.reg [⟨.l, none, .op (.mov (.v 4))⟩,
⟨.v 14, none, .call 65 [(.l 0)]⟩]) (
.block 2 (
.range (.v 14) [15, 16] (
.reg [⟨.v 9, none, .op (.mov (.v 16))⟩]) (
.block 3 (
.reg [⟨.l, none, .op (.ld false 1 (.v 8))⟩,
⟨.l, none, .op (.ld false 1 (.v 7))⟩,
⟨.l, none, .op (.bin .mul .i64 (.l 1) (.l 0))⟩,
⟨.l, none, .op (.mov (.v 9))⟩,
⟨.l, none, .op (.bin .add .i64 (.l 1) (.l 0))⟩,
⟨.l, none, .op (.fla 0 (.v 1))⟩,
⟨.l, none, .op (.ld false 1 (.l 0))⟩,
⟨.l, none, .op (.bin .rem .i64 (.l 2) (.l 0))⟩,
⟨.n, none, .op (.st 1 (.v 8) (.l 0))⟩]))))) (
.seq (
.reg [⟨.l, none, .op (.ld false 1 (.v 8))⟩,
⟨.v 17, none, .op (.bin .eql .i64 (.l 0) (.c (.int .i64 0)))⟩]) (
.ite (.v 17) (
.reg [⟨.l, none, .op (.mov (.v 6))⟩,
⟨.l, none, .op (.ld false 1 (.v 7))⟩,
⟨.l, none, .op (.bls 1 [(.int .i64 0)] 1 [(0, 1, (.l 0))])⟩,
⟨.l, none, .op (.app 1 8 (.l 2) (.l 0))⟩,
⟨.v 6, none, .op (.mov (.l 0))⟩]) (
.skip))))))) (
.reg [⟨.l, none, .op (.bin .add .i64 (.v 12) (.c (.int .i64 1)))⟩,
⟨.v 12, none, .op (.mov (.l 0))⟩]))))))) (
.seq (
.reg [⟨.l, none, .op (.mov (.v 6))⟩,
⟨.v 2, none, .op (.mov (.l 0))⟩,
⟨.v 3, none, .op (.mov (.c (.int .i64 0)))⟩]) (
.ret))))))⟩
/- 35 cayley/linear.Eigen -/
abbrev n_linear_Eigen : Nat := 35
def c_linear_Eigen : Ay.Fn := ⟨2, [some 0, some 1, none, none, none, none, none, none, none, none, none, none, none, none, none], [.v 3, .v 4],
.seq (
.reg [⟨.v 2, none, .op (.box (.v 0))⟩,
⟨.v 3, none, .op (.mov (.c .nils))⟩,
⟨.v 4, none, .op (.mov (.c (.int .i64 0)))⟩]) (
.seq (
.reg [⟨.l, none, .op (.ld true 2 (.v 2))⟩,
⟨.l, none, .call 51 [(.l 0)]⟩,
⟨.v 5, none, .op (.mov (.l 0))⟩]) (
.seq (
.block 0 (
.seq (
.reg [⟨.l, none, .op (.mov (.v 5))⟩,
⟨.l, none, .op (.bin .neq .i64 (.l 0) (.c (.int .i64 0)))⟩,
⟨.v 9, none, .op (.mov (.l 0))⟩]) (
.ite (.v 9) (
.seq (
.reg [⟨.l, none, .op (.mov (.v 5))⟩,
⟨.v 3, none, .op (.mov (.c .nils))⟩,
⟨.v 4, none, .op (.mov (.l 0))⟩]) (
.ret)) (
.seq (
.any 10 9 [⟨0, ⟨.v 15, none, .op (.fla 1 (.v 2))⟩, false, []⟩,
⟨1, ⟨.v 16, none, .op (.ld false 1 (.v 15))⟩, false, []⟩,
⟨2, ⟨.v 17, none, .op (.lens (.v 16))⟩, false, []⟩,
⟨3, ⟨.v 18, none, .op (.fla 1 (.v 2))⟩, false, []⟩,
⟨4, ⟨.v 19, none, .op (.ld false 1 (.v 18))⟩, false, []⟩,
⟨5, ⟨.v 20, none, .op (.ixa 1 (.v 19) (.c (.int .i64 0)))⟩, false, []⟩,
⟨6, ⟨.v 21, none, .op (.ld false 1 (.v 20))⟩, false, []⟩,
⟨7, ⟨.v 22, none, .op (.lens (.v 21))⟩, false, []⟩,
⟨8, ⟨.v 23, none, .op (.bin .neq .i64 (.v 17) (.v 22))⟩, false, []⟩,
⟨9, ⟨.v 10, none, .op (.mov (.v 23))⟩, false, []⟩]) (
.ite (.v 10) (
.seq (
.reg [⟨.v 3, none, .op (.mov (.c .nils))⟩,
⟨.v 4, none, .op (.mov (.c (.int .i64 10)))⟩]) (
.ret)) (
.skip)))))) (
.seq (
.reg [⟨.l, none, .op (.fla 1 (.v 2))⟩,
⟨.l, none, .op (.ld false 1 (.l 0))⟩,
⟨.l, none, .op (.lens (.l 0))⟩,
⟨.l, none, .op (.mks 1 24 [.nils] (.l 0) (.l 0))⟩,
⟨.v 6, none, .op (.mov (.l 0))⟩]) (
.seq (
.seq (
.reg [⟨.l, none, .op (.fla 1 (.v 2))⟩,
⟨.v 11, none, .op (.ld false 1 (.l 0))⟩,
⟨.v 12, none, .op (.lens (.v 11))⟩,
⟨.v 13, none, .op (.mov (.c (.int .i64 0)))⟩]) (
.block 1 (
.loop (
.seq (
.reg [⟨.v 14, none, .op (.bin .lss .i64 (.v 13) (.v 12))⟩]) (
.seq (
.ite (.v 14) (
.skip) (
.exit 1)) (
.seq (
.block 2 (
.seq (
.reg [⟨.l, none, .op (.mov (.v 13))⟩,
⟨.l, none, .op (.ixa 1 (.v 11) (.v 13))⟩,
⟨.l, none, .op (.ld false 1 (.l 0))⟩,
⟨.v 7, none, .op (.mov (.l 2))⟩,
⟨.v 8, none, .op (.mov (.l 0))⟩]) (
.seq (
.reg [⟨.l, none, .op (.mov (.v 6))⟩,
⟨.l, none, .op (.mov (.v 7))⟩,
⟨.l, none, .op (.mov (.v 8))⟩,
⟨.l, none, .call 66 [(.l 0)]⟩,
⟨.l, none, .op (.ixa 1 (.l 3) (.l 2))⟩,
⟨.n, none, .op (.st 1 (.l 0) (.l 1))⟩]) (
.any 14 13 [⟨0, ⟨.v 15, none, .op (.mov (.v 6))⟩, false, []⟩,
⟨1, ⟨.v 16, none, .op (.mov (.v 7))⟩, false, []⟩,
⟨2, ⟨.v 17, none, .op (.ixa 1 (.v 15) (.v 16))⟩, false, []⟩,
⟨3, ⟨.v 18, none, .op (.ld false 1 (.v 17))⟩, false, []⟩,
⟨4, ⟨.v 19, none, .op (.mov (.v 7))⟩, false, []⟩,
⟨5, ⟨.v 20, none, .op (.ixa 1 (.v 18) (.v 19))⟩, false, []⟩,
⟨6, ⟨.v 21, none, .op (.ld false 1 (.v 20))⟩, false, []⟩,
⟨7, ⟨.v 22, none, .op (.mov (.v 1))⟩, false, []⟩,
⟨8, ⟨.v 23, none, .op (.fla 0 (.v 2))⟩, false, []⟩,
⟨9, ⟨.v 24, none, .op (.ld false 1 (.v 23))⟩, false, []⟩,
⟨10, ⟨.v 25, none, .op (.bin .rem .i64 (.v 22) (.v 24))⟩, false, []⟩,
⟨11, ⟨.v 26, none, .op (.bin .sub .i64 (.v 21) (.v 25))⟩, false, []⟩,
⟨12, ⟨.v 27, none, .op (.ixa 1 (.v 18) (.v 19))⟩, false, []⟩,
⟨13, ⟨.n, none, .op (.st 1 (.v 27) (.v 26))⟩, false, []⟩])))) (
.reg [⟨.l, none, .op (.bin .add .i64 (.v 13) (.c (.int .i64 1)))⟩,
⟨.v 13, none, .op (.mov (.l 0))⟩]))))))) (
.seq (
.reg [⟨.l, none, .op (.fla 0 (.v 2))⟩,
⟨.l, none, .op (.ld false 1 (.l 0))⟩,
⟨.l, none, .op (.mov (.v 6))⟩,
⟨.l, none, .op (.lens (.l 0))⟩,
⟨.l, none, .op (.mov (.v 6))⟩,
⟨.l, none, .call 52 [(.l 3), (.l 1), (.l 0)]⟩,
⟨.v 3, none, .op (.mov (.l 0))⟩,
⟨.v 4, none, .op (.mov (.c (.int .i64 0)))⟩]) (
.ret))))))⟩
/- 36 cayley/cayleykit.Has[int] -/
abbrev n_kit_Has_int : Nat := 36
def c_kit_Has_int : Ay.Fn := ⟨2, [some 0, some 1, none, none, none, none], [.v 2],
.seq (
.reg [⟨.v 2, none, .op (.mov (.c (.bool false)))⟩]) (
.seq (
.seq (
.reg [⟨.v 3, none, .op (.mov (.c (.int .i64 0)))⟩]) (
.block 0 (
.loop (
.seq (
.seq (
.reg [⟨.l, none, .op (.mov (.v 3))⟩,
⟨.l, none, .op (.mov (.v 0))⟩,
⟨.l, none, .op (.lens (.l 0))⟩,
⟨.v 4, none, .op (.bin .lss .i64 (.l 2) (.l 0))⟩]) (
.ite (.v 4) (
.skip) (
.exit 0))) (
.seq (
.block 1 (
.seq (
.reg [⟨.l, none, .op (.mov (.v 0))⟩,
⟨.l, none, .op (.mov (.v 3))⟩,
⟨.l, none, .op (.ixa 1 (.l 1) (.l 0))⟩,
⟨.l, none, .op (.ld false 1 (.l 0))⟩,
⟨.l, none, .op (.mov (.v 1))⟩,
⟨.v 5, none, .op (.bin .eql .i64 (.l 1) (.l 0))⟩]) (
.ite (.v 5) (
.seq (
.reg [⟨.v 2, none, .op (.mov (.c (.bool true)))⟩]) (
.ret)) (
.skip)))) (
.reg [⟨.l, none, .op (.mov (.v 3))⟩,
⟨.l, none, .op (.bin .add .i64 (.l 0) (.c (.int .i64 1)))⟩,
⟨.v 3, none, .op (.mov (.l 0))⟩])))))) (
.seq (
.reg [⟨.v 2, none, .op (.mov (.c (.bool false)))⟩]) (
.ret)))⟩
/- 37 cayley/cayleyref04.Turn -/
abbrev n_ref04_Turn : Nat := 37
def c_ref04_Turn : Ay.Fn := ⟨1, [some 0, none, none, none, none, none, none, none, none, none, none], [.cell 2 true 2, .v 3],
.seq (
.reg [⟨.v 1, none, .op (.box (.v 0))⟩,
⟨.v 2, none, .op (.alc [(.int .i64 0), .nils])⟩,
⟨.v 3, none, .op (.mov (.c (.int .i64 0)))⟩]) (
.seq (
.seq (
.reg [⟨.l, none, .op (.ld true 2 (.v 1))⟩,
⟨.l, none, .call 67 [(.l 0)]⟩,
⟨.v 4, none, .op (.mov (.l 0))⟩]) (
.seq (
.reg [⟨.l, none, .op (.mov (.v 4))⟩,
⟨.v 8, none, .op (.bin .neq .i64 (.l 0) (.c (.int .i64 0)))⟩]) (
.ite (.v 8) (
.seq (
.reg [⟨.l, none, .op (.bld [(.int .i64 0), .nils] [])⟩,
⟨.l, none, .op (.mov (.v 4))⟩,
⟨.n, none, .op (.st 2 (.v 2) (.l 1))⟩,
⟨.v 3, none, .op (.mov (.l 0))⟩]) (
.ret)) (
.skip)))) (
.seq (
.any 13 11 [⟨0, ⟨.v 11, none, .op (.fla 0 (.v 1))⟩, false, []⟩,
⟨1, ⟨.v 12, none, .op (.ld false 1 (.v 11))⟩, false, []⟩,
⟨2, ⟨.v 13, none, .op (.fla 1 (.v 1))⟩, false, []⟩,
⟨3, ⟨.v 14, none, .op (.ld false 1 (.v 13))⟩, false, []⟩,
⟨4, ⟨.v 15, none, .op (.ixa 1 (.v 14) (.c (.int .i64 0)))⟩, false, []⟩,
⟨5, ⟨.v 16, none, .op (.ld false 1 (.v 15))⟩, false, []⟩,
⟨6, ⟨.v 17, none, .op (.lens (.v 16))⟩, false, []⟩,
⟨7, ⟨.v 18, none, .op (.fla 1 (.v 1))⟩, false, []⟩,
⟨8, ⟨.v 19, none, .op (.ld false 1 (.v 18))⟩, false, []⟩,
⟨9, ⟨.v 20, none, .op (.lens (.v 19))⟩, false, []⟩,
⟨10, ⟨.v 21, none, .call 68 [(.v 12), (.v 17), (.v 20)]⟩, false, []⟩,
⟨11, ⟨.v 5, none, .op (.alc [(.int .i64 0), .nils])⟩, true, []⟩,
⟨12, ⟨.n, none, .op (.st 2 (.v 5) (.v 21))⟩, false, []⟩]) (
.seq (
.seq (
.reg [⟨.v 6, none, .op (.mov (.c (.int .i64 0)))⟩]) (
.block 0 (
.loop (
.seq (
.seq (
.reg [⟨.l, none, .op (.mov (.v 6))⟩,
⟨.l, none, .op (.fla 1 (.v 1))⟩,
⟨.l, none, .op (.ld false 1 (.l 0))⟩,
⟨.l, none, .op (.lens (.l 0))⟩,
⟨.v 9, none, .op (.bin .lss .i64 (.l 3) (.l 0))⟩]) (
.ite (.v 9) (
.skip) (
.exit 0))) (
.seq (
.block 1 (
.seq (
.reg [⟨.v 7, none, .op (.mov (.c (.int .i64 0)))⟩]) (
.block 2 (
.loop (
.seq (
.seq (
.reg [⟨.l, none, .op (.mov (.v 7))⟩,
⟨.l, none, .op (.fla 1 (.v 1))⟩,
⟨.l, none, .op (.ld false 1 (.l 0))⟩,
⟨.l, none, .op (.ixa 1 (.l 0) (.c (.int .i64 0)))⟩,
⟨.l, none, .op (.ld false 1 (.l 0))⟩,
⟨.l, none, .op (.lens (.l 0))⟩,
⟨.v 10, none, .op (.bin .lss .i64 (.l 5) (.l 0))⟩]) (
.ite (.v 10) (
.skip) (
.exit 2))) (
.seq (
.block 3 (
.any 16 15 [⟨0, ⟨.v 11, none, .op (.fla 1 (.v 5))⟩, false, []⟩,
⟨1, ⟨.v 12, none, .op (.ld false 1 (.v 11))⟩, false, []⟩,
⟨2, ⟨.v 13, none, .op (.mov (.v 7))⟩, false, []⟩,
⟨3, ⟨.v 14, none, .op (.ixa 1 (.v 12) (.v 13))⟩, false, []⟩,
⟨4, ⟨.v 15, none, .op (.ld false 1 (.v 14))⟩, false, []⟩,
⟨5, ⟨.v 16, none, .op (.mov (.v 6))⟩, false, []⟩,
⟨6, ⟨.v 17, none, .op (.fla 1 (.v 1))⟩, false, []⟩,
⟨7, ⟨.v 18, none, .op (.ld false 1 (.v 17))⟩, false, []⟩,
⟨8, ⟨.v 19, none, .op (.mov (.v 6))⟩, false, []⟩,
⟨9, ⟨.v 20, none, .op (.ixa 1 (.v 18) (.v 19))⟩, false, []⟩,
⟨10, ⟨.v 21, none, .op (.ld false 1 (.v 20))⟩, false, []⟩,
⟨11, ⟨.v 22, none, .op (.mov (.v 7))⟩, false, []⟩,
⟨12, ⟨.v 23, none, .op (.ixa 1 (.v 21) (.v 22))⟩, false, []⟩,
⟨13, ⟨.v 24, none, .op (.ld false 1 (.v 23))⟩, false, []⟩,
⟨14, ⟨.v 25, none, .op (.ixa 1 (.v 15) (.v 16))⟩, false, []⟩,
⟨15, ⟨.n, none, .op (.st 1 (.v 25) (.v 24))⟩, false, []⟩])) (
.reg [⟨.l, none, .op (.mov (.v 7))⟩,
⟨.l, none, .op (.bin .add .i64 (.l 0) (.c (.int .i64 1)))⟩,
⟨.v 7, none, .op (.mov (.l 0))⟩]))))))) (
.reg [⟨.l, none, .op (.mov (.v 6))⟩,
⟨.l, none, .op (.bin .add .i64 (.l 0) (.c (.int .i64 1)))⟩,
⟨.v 6, none, .op (.mov (.l 0))⟩])))))) (
.seq (
.reg [⟨.l, none, .op (.ld true 2 (.v 5))⟩,
⟨.n, none, .op (.st 2 (.v 2) (.l 0))⟩,
⟨.v 3, none, .op (.mov (.c (.int .i64 0)))⟩]) (
.ret)))))⟩
/- 42 cayley/cayleylaw05.rows -/
abbrev n_law05_rows : Nat := 42
def c_law05_rows : Ay.Fn := ⟨0, [none], [.v 0],
.seq (
.reg [⟨.v 0, none, .op (.mov (.c .nils))⟩]) (
.seq (
.reg [⟨.l, none, .op (.bls 1 [(.int .i64 0)] 3 [(0, 1, (.c (.int .i64 2))), (1, 1, (.c (.int .i64 4))), (2, 1, (.c (.int .i64 1)))])⟩,
⟨.l, none, .op (.bls 1 [(.int .i64 0)] 3 [(0, 1, (.c (.int .i64 1))), (1, 1, (.c (.int .i64 2))), (2, 1, (.c (.int .i64 0)))])⟩,
⟨.l, none, .op (.bls 1 [(.int .i64 0)] 3 [(0, 1, (.c (.int .i64 0))), (1, 1, (.c (.int .i64 0))), (2, 1, (.c (.int .i64 3)))])⟩,
⟨.l, none, .op (.bls 1 [.nils] 3 [(0, 1, (.l 2)), (1, 1, (.l 1)), (2, 1, (.l 0))])⟩,
⟨.v 0, none, .op (.mov (.l 0))⟩]) (
.ret))⟩
/- 43 cayley/cayleylaw05.is -/
abbrev n_law05_is : Nat := 43
def c_law05_is : Ay.Fn := ⟨3, [some 0, some 1, some 2, none], [.v 3],
.seq (
.reg [⟨.v 3, none, .op (.mov (.c (.bool false)))⟩]) (
.seq (
.reg [⟨.l, none, .op (.mov (.v 1))⟩,
⟨.l, none, .op (.bin .eql .i64 (.l 0) (.c (.int .i64 0)))⟩,
⟨.l, none, .op (.mov (.l 0))⟩,
⟨.l, some ((.l 0), true), .op (.mov (.v 0))⟩,
⟨.l, some ((.l 1), true), .op (.mov (.v 2))⟩,
⟨.l, some ((.l 2), true), .call 19 [(.l 1), (.l 0)]⟩,
⟨.l, none, .op (.pick (.l 3) (.l 0) (.c (.bool false)))⟩,
⟨.v 3, none, .op (.mov (.l 0))⟩]) (
.ret))⟩
/- 44 cayley/cayleylaw05.five -/
abbrev n_law05_five : Nat := 44
def c_law05_five : Ay.Fn := ⟨1, [some 0, none], [.cell 1 true 2],
.seq (
.reg [⟨.v 1, none, .op (.alc [(.int .i64 0), .nils])⟩]) (
.seq (
.reg [⟨.l, none, .op (.mov (.v 0))⟩,
⟨.l, none, .op (.bld [(.int .i64 0), .nils] [(0, 1, (.c (.int .i64 5))), (1, 1, (.l 0))])⟩,
⟨.n, none, .op (.st 2 (.v 1) (.l 0))⟩]) (
.ret))⟩
/- 45 cayley/linear.check -/
abbrev n_linear_check : Nat := 45
def c_linear_check : Ay.Fn := ⟨3, [some 0, some 1, some 2, none, none, none, none, none, none, none, none, none, none, none], [.v 4],
.seq (
.reg [⟨.v 3, none, .op (.box (.v 1))⟩,
⟨.v 4, none, .op (.mov (.c (.int .i64 0)))⟩]) (
.seq (
.block 0 (
.seq (
.reg [⟨.l, none, .op (.mov (.v 0))⟩,
⟨.l, none, .op (.bin .geq .i64 (.l 0) (.c (.int .i64 10000)))⟩,
⟨.l, none, .op (.mov (.l 0))⟩,
⟨.l, some ((.l 0), false), .op (.mov (.v 0))⟩,
⟨.l, some ((.l 1), false), .call 72 [(.l 0)]⟩,
⟨.l, some ((.l 2), false), .op (.not (.l 0))⟩,
⟨.l, none, .op (.pick (.l 3) (.c (.bool true)) (.l 0))⟩,
⟨.v 6, none, .op (.mov (.l 0))⟩]) (
.ite (.v 6) (
.seq (
.reg [⟨.v 4, none, .op (.mov (.c (.int .i64 3)))⟩]) (
.ret)) (
.seq (
.reg [⟨.l, none, .op (.ld false 1 (.v 3))⟩,
⟨.l, none, .op (.bin .lss .i64 (.l 0) (.c (.int .i64 1)))⟩,
⟨.l, none, .op (.mov (.l 0))⟩,
⟨.l, some ((.l 0), false), .op (.ld false 1 (.v 3))⟩,
⟨.l, some ((.l 1), false), .op (.bin .gtr .i64 (.l 0) (.c (.int .i64 64)))⟩,
⟨.l, none, .op (.pick (.l 2) (.c (.bool true)) (.l 0))⟩,
⟨.v 7, none, .op (.mov (.l 0))⟩]) (
.ite (.v 7) (
.seq (
.reg [⟨.v 4, none, .op (.mov (.c (.int .i64 2)))⟩]) (
.ret)) (
.skip)))))) (
.seq (
.seq (
.reg [⟨.v 8, none, .op (.mov (.v 2))⟩,
⟨.v 9, none, .op (.lens (.v 8))⟩,
⟨.v 10, none, .op (.mov (.c (.int .i64 0)))⟩]) (
.block 1 (
.loop (
.seq (
.reg [⟨.v 11, none, .op (.bin .lss .i64 (.v 10) (.v 9))⟩]) (
.seq (
.ite (.v 11) (
.skip) (
.exit 1)) (
.seq (
.block 2 (
.seq (
.reg [⟨.l, none, .op (.ixa 1 (.v 8) (.v 10))⟩,
⟨.l, none, .op (.ld false 1 (.l 0))⟩,
⟨.v 5, none, .op (.mov (.l 0))⟩]) (
.seq (
.seq (
.reg [⟨.l, none, .op (.mov (.v 5))⟩,
⟨.l, none, .op (.lens (.l 0))⟩,
⟨.v 12, none, .op (.bin .gtr .i64 (.l 0) (.c (.int .i64 200)))⟩]) (
.ite (.v 12) (
.seq (
.reg [⟨.v 4, none, .op (.mov (.c (.int .i64 4)))⟩]) (
.ret)) (
.skip))) (
.seq (
.reg [⟨.l, none, .op (.mov (.v 5))⟩,
⟨.l, none, .op (.mkf 74 [] [(.v 3)])⟩,
⟨.v 13, none, .call 73 [(.l 1), (.l 0)]⟩]) (
.ite (.v 13) (
.seq (
.reg [⟨.v 4, none, .op (.mov (.c (.int .i64 10)))⟩]) (
.ret)) (
.skip)))))) (
.reg [⟨.l, none, .op (.bin .add .i64 (.v 10) (.c (.int .i64 1)))⟩,
⟨.v 10, none, .op (.mov (.l 0))⟩]))))))) (
.seq (
.reg [⟨.v 4, none, .op (.mov (.c (.int .i64 0)))⟩]) (
.ret))))⟩
/- 46 cayley/linear.span -/
abbrev n_linear_span : Nat := 46
def c_linear_span : Ay.Fn := ⟨3, [some 0, some 1, some 2, none, none], [.v 3],
.seq (
.reg [⟨.v 3, none, .op (.mov (.c .nilp))⟩]) (
.seq (
.reg [⟨.l, none, .op (.mov (.v 0))⟩,
⟨.l, none, .op (.mov (.v 1))⟩,
⟨.l, none, .call 49 [(.l 1), (.l 0)]⟩,
⟨.v 4, none, .op (.mov (.l 0))⟩]) (
.seq (
.reg [⟨.l, none, .op (.mov (.v 2))⟩,
⟨.l, none, .op (.mov (.v 4))⟩,
⟨.l, none, .op (.mkf 50 [(.l 0)] [])⟩,
⟨.l, none, .call 48 [(.l 2), (.l 0)]⟩]) (
.seq (
.reg [⟨.l, none, .op (.mov (.v 4))⟩,
⟨.v 3, none, .op (.mov (.l 0))⟩]) (
.ret))))⟩
/- 47 (ptr cayley/linear.echelon).list -/
abbrev n_linear_echelon_list : Nat := 47
def c_linear_echelon_list : Ay.Fn := ⟨1, [some 0, none, none, none, none, none, none], [.v 1],
.seq (
.reg [⟨.v 1, none, .op (.mov (.c .nils))⟩]) (
.seq (
.reg [⟨.v 2, none, .op (.alc [.nils])⟩]) (
.seq (
.seq (
.reg [⟨.l, none, .op (.mov (.v 0))⟩,
⟨.v 4, none, .call 75 [(.l 0)]⟩]) (
.block 0 (
.range (.v 4) [5, 6] (
.reg [⟨.v 3, none, .op (.mov (.v 6))⟩]) (
.block 1 (
.reg [⟨.l, none, .op (.ld false 1 (.v 2))⟩,
⟨.l, none, .op (.mov (.v 3))⟩,
⟨.l, none, .op (.bls 1 [.nils] 1 [(0, 1, (.l 0))])⟩,
⟨.l, none, .op (.app 1 24 (.l 2) (.l 0))⟩,
⟨.n, none, .op (.st 1 (.v 2) (.l 0))⟩]))))) (
.seq (
.reg [⟨.l, none, .op (.ld false 1 (.v 2))⟩,
⟨.v 1, none, .op (.mov (.l 0))⟩]) (
.ret))))⟩
/- 48 cayley/linear.each[[]int] -/
abbrev n_linear_each_int : Nat := 48
def c_linear_each_int : Ay.Fn := ⟨2, [some 0, some 1, none, none, none, none, none, none, none, none], [.v 2],
.seq (
.reg [⟨.v 2, none, .op (.mov (.c (.int .i64 0)))⟩]) (
.seq (
.reg [⟨.v 3, none, .op (.mov (.c (.int .i64 0)))⟩]) (
.seq (
.seq (
.reg [⟨.v 5, none, .op (.mov (.v 0))⟩,
⟨.v 6, none, .op (.lens (.v 5))⟩,
⟨.v 7, none, .op (.mov (.c (.int .i64 0)))⟩]) (
.block 0 (
.loop (
.seq (
.reg [⟨.v 8, none, .op (.bin .lss .i64 (.v 7) (.v 6))⟩]) (
.seq (
.ite (.v 8) (
.skip) (
.exit 0)) (
.seq (
.block 1 (
.seq (
.reg [⟨.l, none, .op (.ixa 1 (.v 5) (.v 7))⟩,
⟨.l, none, .op (.ld false 1 (.l 0))⟩,
⟨.v 4, none, .op (.mov (.l 0))⟩]) (
.seq (
.reg [⟨.l, none, .op (.mov (.v 1))⟩,
⟨.l, none, .op (.mov (.v 4))⟩,
⟨.v 9, none, .callv (.l 1) [(.l 0)]⟩]) (
.ite (.v 9) (
.reg [⟨.l, none, .op (.mov (.v 3))⟩,
⟨.l, none, .op (.bin .add .i64 (.l 0) (.c (.int .i64 1)))⟩,
⟨.v 3, none, .op (.mov (.l 0))⟩]) (
.skip))))) (
.reg [⟨.l, none, .op (.bin .add .i64 (.v 7) (.c (.int .i64 1)))⟩,
⟨.v 7, none, .op (.mov (.l 0))⟩]))))))) (
.seq (
.reg [⟨.l, none, .op (.mov (.v 3))⟩,
⟨.v 2, none, .op (.mov (.l 0))⟩]) (
.ret))))⟩
/- 49 cayley/linear.begin -/
abbrev n_linear_begin : Nat := 49
def c_linear_begin : Ay.Fn := ⟨2, [some 0, some 1, none], [.v 2],
.seq (
.reg [⟨.v 2, none, .op (.mov (.c .nilp))⟩]) (
.seq (
.reg [⟨.l, none, .op (.mov (.v 0))⟩,
⟨.l, none, .op (.bld [(.int .i64 0)] [(0, 1, (.l 0))])⟩,
⟨.l, none, .op (.mov (.v 1))⟩,
⟨.l, none, .op (.mkm)⟩,
⟨.l, none, .op (.bld [(.int .i64 0), (.int .i64 0), .nilm] [(0, 1, (.l 2)), (1, 1, (.l 1)), (2, 1, (.l 0))])⟩,
⟨.l, none, .op (.box (.l 0))⟩,
⟨.v 2, none, .op (.mov (.l 0))⟩]) (
.ret))⟩
/- 50 (ptr cayley/linear.echelon).insert -/
abbrev n_linear_echelon_insert : Nat := 50
def c_linear_echelon_insert : Ay.Fn := ⟨2, [some 0, some 1, none, none, none, none, none, none, none, none, none, none], [.v 4],
.seq (
.reg [⟨.v 2, none, .op (.box (.v 0))⟩,
⟨.v 3, none, .op (.box (.v 1))⟩,
⟨.v 4, none, .op (.mov (.c (.bool false)))⟩]) (
.seq (
.reg [⟨.l, none, .op (.ld false 1 (.v 2))⟩,
⟨.l, none, .op (.ld false 1 (.v 3))⟩,
⟨.l, none, .call 55 [(.l 1), (.l 0)]⟩,
⟨.n, none, .op (.st 1 (.v 3) (.l 0))⟩]) (
.seq (
.any 9 7 [⟨0, ⟨.v 12, none, .op (.ld false 1 (.v 3))⟩, false, []⟩,
⟨1, ⟨.v 13, none, .op (.ld false 1 (.v 2))⟩, false, []⟩,
⟨2, ⟨.v 14, none, .op (.nck (.v 13))⟩, false, []⟩,
⟨3, ⟨.v 15, none, .op (.fla 1 (.v 14))⟩, false, []⟩,
⟨4, ⟨.v 16, none, .op (.ld false 1 (.v 15))⟩, false, []⟩,
⟨5, ⟨.v 17, none, .op (.slc 1 (.v 12) none (some (.v 16)) none)⟩, false, []⟩,
⟨6, ⟨.v 18, none, .call 76 [(.v 17), (.c (.fn 77 [] []))]⟩, false, []⟩,
⟨7, ⟨.v 5, none, .op (.alc [(.int .i64 0)])⟩, true, []⟩,
⟨8, ⟨.n, none, .op (.st 1 (.v 5) (.v 18))⟩, false, []⟩]) (
.seq (
.seq (
.reg [⟨.l, none, .op (.ld false 1 (.v 5))⟩,
⟨.v 8, none, .op (.bin .lss .i64 (.l 0) (.c (.int .i64 0)))⟩]) (
.ite (.v 8) (
.seq (
.reg [⟨.v 4, none, .op (.mov (.c (.bool false)))⟩]) (
.ret)) (
.skip))) (
.seq (
.any 15 14 [⟨0, ⟨.v 12, none, .op (.ld false 1 (.v 3))⟩, false, []⟩,
⟨1, ⟨.v 13, none, .op (.ld false 1 (.v 5))⟩, false, []⟩,
⟨2, ⟨.v 14, none, .op (.ixa 1 (.v 12) (.v 13))⟩, false, []⟩,
⟨3, ⟨.v 15, none, .op (.ld false 1 (.v 14))⟩, false, []⟩,
⟨4, ⟨.v 16, none, .op (.ld false 1 (.v 2))⟩, false, []⟩,
⟨5, ⟨.v 17, none, .op (.nck (.v 16))⟩, false, []⟩,
⟨6, ⟨.v 18, none, .op (.fla 0 (.v 17))⟩, false, []⟩,
⟨7, ⟨.v 19, none, .op (.fla 0 (.v 18))⟩, false, []⟩,
⟨8, ⟨.v 20, none, .op (.ld false 1 (.v 19))⟩, false, []⟩,
⟨9, ⟨.v 21, none, .call 78 [(.v 15), (.v 20)]⟩, false, []⟩,
⟨10, ⟨.v 22, none, .op (.mov (.v 21))⟩, false, []⟩,
⟨11, ⟨.v 23, none, .op (.ext (.v 22) 0)⟩, false, []⟩,
⟨12, ⟨.v 24, none, .op (.ext (.v 22) 1)⟩, false, []⟩,
⟨13, ⟨.v 6, none, .op (.mov (.v 23))⟩, false, []⟩,
⟨14, ⟨.v 25, none, .op (.mov (.v 24))⟩, false, []⟩]) (
.seq (
.any 15 15 [⟨0, ⟨.v 12, none, .op (.ld false 1 (.v 2))⟩, false, []⟩,
⟨1, ⟨.v 13, none, .op (.nck (.v 12))⟩, false, []⟩,
⟨2, ⟨.v 14, none, .op (.fla 0 (.v 13))⟩, false, []⟩,
⟨3, ⟨.v 15, none, .op (.ld true 1 (.v 14))⟩, false, []⟩,
⟨4, ⟨.v 16, none, .op (.ld false 1 (.v 3))⟩, false, []⟩,
⟨5, ⟨.v 17, none, .op (.ld false 1 (.v 3))⟩, false, []⟩,
⟨6, ⟨.v 18, none, .op (.mov (.v 6))⟩, false, []⟩,
⟨7, ⟨.v 19, none, .op (.ld false 1 (.v 2))⟩, false, []⟩,
⟨8, ⟨.v 20, none, .op (.nck (.v 19))⟩, false, []⟩,
⟨9, ⟨.v 21, none, .op (.fla 0 (.v 20))⟩, false, []⟩,
⟨10, ⟨.v 22, none, .op (.fla 0 (.v 21))⟩, false, []⟩,
⟨11, ⟨.v 23, none, .op (.ld false 1 (.v 22))⟩, false, []⟩,
⟨12, ⟨.v 24, none, .op (.bin .add .i64 (.v 18) (.v 23))⟩, false, []⟩,
⟨13, ⟨.v 25, none, .op (.bin .sub .i64 (.v 24) (.c (.int .i64 1)))⟩, false, []⟩,
⟨14, ⟨.v 26, none, .call 58 [(.v 15), (.v 16), (.v 17), (.v 25)]⟩, false, []⟩]) (
.seq (
.seq (
.reg [⟨.l, none, .op (.ld false 1 (.v 2))⟩,
⟨.v 9, none, .call 75 [(.l 0)]⟩]) (
.block 0 (
.range (.v 9) [10, 11] (
.reg [⟨.v 7, none, .op (.mov (.v 11))⟩]) (
.block 1 (
.any 17 17 [⟨0, ⟨.v 12, none, .op (.ld false 1 (.v 2))⟩, false, []⟩,
⟨1, ⟨.v 13, none, .op (.nck (.v 12))⟩, false, []⟩,
⟨2, ⟨.v 14, none, .op (.fla 0 (.v 13))⟩, false, []⟩,
⟨3, ⟨.v 15, none, .op (.ld true 1 (.v 14))⟩, false, []⟩,
⟨4, ⟨.v 16, none, .op (.mov (.v 7))⟩, false, []⟩,
⟨5, ⟨.v 17, none, .op (.ld false 1 (.v 3))⟩, false, []⟩,
⟨6, ⟨.v 18, none, .op (.ld false 1 (.v 2))⟩, false, []⟩,
⟨7, ⟨.v 19, none, .op (.nck (.v 18))⟩, false, []⟩,
⟨8, ⟨.v 20, none, .op (.fla 0 (.v 19))⟩, false, []⟩,
⟨9, ⟨.v 21, none, .op (.fla 0 (.v 20))⟩, false, []⟩,
⟨10, ⟨.v 22, none, .op (.ld false 1 (.v 21))⟩, false, []⟩,
⟨11, ⟨.v 23, none, .op (.mov (.v 7))⟩, false, []⟩,
⟨12, ⟨.v 24, none, .op (.ld false 1 (.v 5))⟩, false, []⟩,
⟨13, ⟨.v 25, none, .op (.ixa 1 (.v 23) (.v 24))⟩, false, []⟩,
⟨14, ⟨.v 26, none, .op (.ld false 1 (.v 25))⟩, false, []⟩,
⟨15, ⟨.v 27, none, .op (.bin .sub .i64 (.v 22) (.v 26))⟩, false, []⟩,
⟨16, ⟨.v 28, none, .call 58 [(.v 15), (.v 16), (.v 17), (.v 27)]⟩, false, []⟩]))))) (
.seq (
.any 7 6 [⟨0, ⟨.v 12, none, .op (.ld false 1 (.v 2))⟩, false, []⟩,
⟨1, ⟨.v 13, none, .op (.nck (.v 12))⟩, false, []⟩,
⟨2, ⟨.v 14, none, .op (.fla 2 (.v 13))⟩, false, []⟩,
⟨3, ⟨.v 15, none, .op (.ld false 1 (.v 14))⟩, false, []⟩,
⟨4, ⟨.v 16, none, .op (.ld false 1 (.v 5))⟩, false, []⟩,
⟨5, ⟨.v 17, none, .op (.ld false 1 (.v 3))⟩, false, []⟩,
⟨6, ⟨.n, none, .op (.mset (.v 15) (.v 16) (.v 17))⟩, false, []⟩]) (
.seq (
.reg [⟨.v 4, none, .op (.mov (.c (.bool true)))⟩]) (
.ret)))))))))⟩
/- 51 cayley/matrix.Check -/
abbrev n_matrix_Check : Nat := 51
def c_matrix_Check : Ay.Fn := ⟨1, [some 0, none, none, none, none, none, none, none, none, none, none], [.v 2],
.seq (
.reg [⟨.v 1, none, .op (.box (.v 0))⟩,
⟨.v 2, none, .op (.mov (.c (.int .i64 0)))⟩]) (
.seq (
.block 0 (
.seq (
.reg [⟨.l, none, .op (.fla 0 (.v 1))⟩,
⟨.l, none, .op (.ld false 1 (.l 0))⟩,
⟨.l, none, .call 79 [(.l 0)]⟩,
⟨.l, none, .op (.not (.l 0))⟩,
⟨.v 4, none, .op (.mov (.l 0))⟩]) (
.ite (.v 4) (
.seq (
.reg [⟨.v 2, none, .op (.mov (.c (.int .i64 3)))⟩]) (
.ret)) (
.seq (
.seq (
.reg [⟨.l, none, .op (.fla 1 (.v 1))⟩,
⟨.l, none, .op (.ld false 1 (.l 0))⟩,
⟨.l, none, .op (.lens (.l 0))⟩,
⟨.l, none, .op (.bin .lss .i64 (.l 0) (.c (.int .i64 1)))⟩,
⟨.v 5, none, .op (.mov (.l 0))⟩]) (
.ite (.v 5) (
.skip) (
.seq (
.reg [⟨.l, none, .op (.fla 1 (.v 1))⟩,
⟨.l, none, .op (.ld false 1 (.l 0))⟩,
⟨.l, none, .op (.lens (.l 0))⟩,
⟨.l, none, .op (.bin .gtr .i64 (.l 0) (.c (.int .i64 64)))⟩,
⟨.v 5, none, .op (.mov (.l 0))⟩]) (
.ite (.v 5) (
.skip) (
.seq (
.reg [⟨.l, none, .op (.fla 1 (.v 1))⟩,
⟨.l, none, .op (.ld false 1 (.l 0))⟩,
⟨.l, none, .op (.ixa 1 (.l 0) (.c (.int .i64 0)))⟩,
⟨.l, none, .op (.ld false 1 (.l 0))⟩,
⟨.l, none, .op (.lens (.l 0))⟩,
⟨.l, none, .op (.bin .lss .i64 (.l 0) (.c (.int .i64 1)))⟩,
⟨.v 5, none, .op (.mov (.l 0))⟩]) (
.ite (.v 5) (
.skip) (
.reg [⟨.l, none, .op (.fla 1 (.v 1))⟩,
⟨.l, none, .op (.ld false 1 (.l 0))⟩,
⟨.l, none, .op (.ixa 1 (.l 0) (.c (.int .i64 0)))⟩,
⟨.l, none, .op (.ld false 1 (.l 0))⟩,
⟨.l, none, .op (.lens (.l 0))⟩,
⟨.l, none, .op (.bin .gtr .i64 (.l 0) (.c (.int .i64 64)))⟩,
⟨.v 5, none, .op (.mov (.l 0))⟩]))))))) (
.ite (.v 5) (
.seq (
.reg [⟨.v 2, none, .op (.mov (.c (.int .i64 2)))⟩]) (
.ret)) (
.skip)))))) (
.seq (
.seq (
.reg [⟨.l, none, .op (.fla 1 (.v 1))⟩,
⟨.v 6, none, .op (.ld false 1 (.l 0))⟩,
⟨.v 7, none, .op (.lens (.v 6))⟩,
⟨.v 8, none, .op (.mov (.c (.int .i64 0)))⟩]) (
.block 1 (
.loop (
.seq (
.reg [⟨.v 9, none, .op (.bin .lss .i64 (.v 8) (.v 7))⟩]) (
.seq (
.ite (.v 9) (
.skip) (
.exit 1)) (
.seq (
.block 2 (
.seq (
.reg [⟨.l, none, .op (.ixa 1 (.v 6) (.v 8))⟩,
⟨.l, none, .op (.ld false 1 (.l 0))⟩,
⟨.v 3, none, .op (.mov (.l 0))⟩]) (
.seq (
.any 20 19 [⟨0, ⟨.v 11, none, .op (.mov (.v 3))⟩, false, []⟩,
⟨1, ⟨.v 12, none, .op (.lens (.v 11))⟩, false, []⟩,
⟨2, ⟨.v 13, none, .op (.fla 1 (.v 1))⟩, false, []⟩,
⟨3, ⟨.v 14, none, .op (.ld false 1 (.v 13))⟩, false, []⟩,
⟨4, ⟨.v 15, none, .op (.ixa 1 (.v 14) (.c (.int .i64 0)))⟩, false, []⟩,
⟨5, ⟨.v 16, none, .op (.ld false 1 (.v 15))⟩, false, []⟩,
⟨6, ⟨.v 17, none, .op (.lens (.v 16))⟩, false, []⟩,
⟨7, ⟨.v 18, none, .op (.bin .neq .i64 (.v 12) (.v 17))⟩, false, []⟩,
⟨8, ⟨.v 19, none, .op (.mov (.v 18))⟩, false, []⟩,
⟨9, ⟨.v 20, some ((.v 19), false), .op (.mov (.v 3))⟩, false, []⟩,
⟨10, ⟨.v 21, some ((.v 19), false), .call 80 [(.v 20)]⟩, false, []⟩,
⟨11, ⟨.v 22, some ((.v 19), false), .op (.bin .lss .i64 (.v 21) (.c (.int .i64 0)))⟩, false, []⟩,
⟨12, ⟨.v 23, none, .op (.pick (.v 19) (.c (.bool true)) (.v 22))⟩, false, []⟩,
⟨13, ⟨.v 24, none, .op (.mov (.v 23))⟩, false, []⟩,
⟨14, ⟨.v 25, some ((.v 24), false), .op (.mov (.v 3))⟩, false, []⟩,
⟨16, ⟨.v 27, some ((.v 24), false), .op (.fla 0 (.v 1))⟩, false, []⟩,
⟨17, ⟨.v 28, some ((.v 24), false), .op (.ld false 1 (.v 27))⟩, false, []⟩,
⟨15, ⟨.v 26, some ((.v 24), false), .call 57 [(.v 25)]⟩, false, [17]⟩,
⟨18, ⟨.v 29, some ((.v 24), false), .op (.bin .geq .i64 (.v 26) (.v 28))⟩, false, []⟩,
⟨19, ⟨.v 10, none, .op (.pick (.v 24) (.c (.bool true)) (.v 29))⟩, false, []⟩]) (
.ite (.v 10) (
.seq (
.reg [⟨.v 2, none, .op (.mov (.c (.int .i64 3)))⟩]) (
.ret)) (
.skip))))) (
.reg [⟨.l, none, .op (.bin .add .i64 (.v 8) (.c (.int .i64 1)))⟩,
⟨.v 8, none, .op (.mov (.l 0))⟩]))))))) (
.seq (
.reg [⟨.v 2, none, .op (.mov (.c (.int .i64 0)))⟩]) (
.ret))))⟩
/- 52 cayley/linear.kernel -/
abbrev n_linear_kernel : Nat := 52
def c_linear_kernel : Ay.Fn := ⟨3, [some 0, some 1, some 2, none, none, none, none, none, none, none, none, none], [.v 4],
.seq (
.reg [⟨.v 3, none, .op (.box (.v 1))⟩,
⟨.v 4, none, .op (.mov (.c .nils))⟩]) (
.seq (
.reg [⟨.v 5, none, .op (.alc [.nils])⟩]) (
.seq (
.seq (
.any 10 9 [⟨0, ⟨.v 12, none, .op (.mov (.v 0))⟩, false, []⟩,
⟨1, ⟨.v 13, none, .op (.ld false 1 (.v 3))⟩, false, []⟩,
⟨2, ⟨.v 14, none, .op (.mov (.v 2))⟩, false, []⟩,
⟨3, ⟨.v 15, none, .op (.lens (.v 14))⟩, false, []⟩,
⟨4, ⟨.v 16, none, .op (.bin .add .i64 (.v 13) (.v 15))⟩, false, []⟩,
⟨5, ⟨.v 17, none, .op (.ld false 1 (.v 3))⟩, false, []⟩,
⟨6, ⟨.v 18, none, .op (.mov (.v 2))⟩, false, []⟩,
⟨7, ⟨.v 19, none, .call 54 [(.v 17), (.v 18)]⟩, false, [1]⟩,
⟨8, ⟨.v 20, none, .call 46 [(.v 12), (.v 16), (.v 19)]⟩, false, []⟩,
⟨9, ⟨.v 8, none, .call 75 [(.v 20)]⟩, false, []⟩]) (
.block 0 (
.range (.v 8) [9, 10] (
.seq (
.reg [⟨.v 6, none, .op (.mov (.v 9))⟩]) (
.reg [⟨.v 7, none, .op (.mov (.v 10))⟩])) (
.block 1 (
.seq (
.reg [⟨.l, none, .op (.mov (.v 6))⟩,
⟨.l, none, .op (.ld false 1 (.v 3))⟩,
⟨.v 11, none, .op (.bin .geq .i64 (.l 1) (.l 0))⟩]) (
.ite (.v 11) (
.any 8 7 [⟨0, ⟨.v 12, none, .op (.ld false 1 (.v 5))⟩, false, []⟩,
⟨1, ⟨.v 13, none, .op (.mov (.v 7))⟩, false, []⟩,
⟨2, ⟨.v 14, none, .op (.ld false 1 (.v 3))⟩, false, []⟩,
⟨3, ⟨.v 15, none, .op (.slc 1 (.v 13) (some (.v 14)) none none)⟩, false, []⟩,
⟨4, ⟨.v 16, none, .call 66 [(.v 15)]⟩, false, [0]⟩,
⟨5, ⟨.v 17, none, .op (.bls 1 [.nils] 1 [(0, 1, (.v 16))])⟩, true, []⟩,
⟨6, ⟨.v 18, none, .op (.app 1 24 (.v 12) (.v 17))⟩, false, []⟩,
⟨7, ⟨.n, none, .op (.st 1 (.v 5) (.v 18))⟩, false, []⟩]) (
.skip))))))) (
.seq (
.reg [⟨.l, none, .op (.ld false 1 (.v 5))⟩,
⟨.v 4, none, .op (.mov (.l 0))⟩]) (
.ret))))⟩
/- 53 cayley/cayleyref04.Apply -/
abbrev n_ref04_Apply : Nat := 53
def c_ref04_Apply : Ay.Fn := ⟨2, [some 0, some 1, none, none, none, none, none, none, none, none, none, none, none], [.v 3, .v 4],
.seq (
.reg [⟨.v 2, none, .op (.box (.v 1))⟩,
⟨.v 3, none, .op (.mov (.c .nils))⟩,
⟨.v 4, none, .op (.mov (.c (.int .i64 0)))⟩]) (
.seq (
.seq (
.reg [⟨.l, none, .op (.ld true 2 (.v 2))⟩,
⟨.l, none, .call 67 [(.l 0)]⟩,
⟨.v 5, none, .op (.mov (.l 0))⟩]) (
.seq (
.reg [⟨.l, none, .op (.mov (.v 5))⟩,
⟨.v 9, none, .op (.bin .neq .i64 (.l 0) (.c (.int .i64 0)))⟩]) (
.ite (.v 9) (
.seq (
.reg [⟨.l, none, .op (.mov (.v 5))⟩,
⟨.v 3, none, .op (.mov (.c .nils))⟩,
⟨.v 4, none, .op (.mov (.l 0))⟩]) (
.ret)) (
.skip)))) (
.seq (
.seq (
.reg [⟨.l, none, .op (.mov (.v 0))⟩,
⟨.l, none, .op (.lens (.l 0))⟩,
⟨.l, none, .op (.fla 1 (.v 2))⟩,
⟨.l, none, .op (.ld false 1 (.l 0))⟩,
⟨.l, none, .op (.lens (.l 0))⟩,
⟨.v 10, none, .op (.bin .neq .i64 (.l 3) (.l 0))⟩]) (
.ite (.v 10) (
.seq (
.reg [⟨.v 3, none, .op (.mov (.c .nils))⟩,
⟨.v 4, none, .op (.mov (.c (.int .i64 10)))⟩]) (
.ret)) (
.skip))) (
.seq (
.reg [⟨.l, none, .op (.fla 1 (.v 2))⟩,
⟨.l, none, .op (.ld false 1 (.l 0))⟩,
⟨.l, none, .op (.ixa 1 (.l 0) (.c (.int .i64 0)))⟩,
⟨.l, none, .op (.ld false 1 (.l 0))⟩,
⟨.l, none, .op (.lens (.l 0))⟩,
⟨.l, none, .op (.mks 1 8 [(.int .i64 0)] (.l 0) (.l 0))⟩,
⟨.v 6, none, .op (.mov (.l 0))⟩]) (
.seq (
.seq (
.reg [⟨.v 7, none, .op (.mov (.c (.int .i64 0)))⟩]) (
.block 0 (
.loop (
.seq (
.seq (
.reg [⟨.l, none, .op (.mov (.v 7))⟩,
⟨.l, none, .op (.mov (.v 6))⟩,
⟨.l, none, .op (.lens (.l 0))⟩,
⟨.v 11, none, .op (.bin .lss .i64 (.l 2) (.l 0))⟩]) (
.ite (.v 11) (
.skip) (
.exit 0))) (
.seq (
.block 1 (
.seq (
.reg [⟨.v 8, none, .op (.mov (.c (.int .i64 0)))⟩]) (
.block 2 (
.loop (
.seq (
.seq (
.reg [⟨.l, none, .op (.mov (.v 8))⟩,
⟨.l, none, .op (.mov (.v 0))⟩,
⟨.l, none, .op (.lens (.l 0))⟩,
⟨.v 12, none, .op (.bin .lss .i64 (.l 2) (.l 0))⟩]) (
.ite (.v 12) (
.skip) (
.exit 2))) (
.seq (
.block 3 (
.any 28 27 [⟨0, ⟨.v 13, none, .op (.mov (.v 6))⟩, false, []⟩,
⟨1, ⟨.v 14, none, .op (.mov (.v 7))⟩, false, []⟩,
⟨2, ⟨.v 15, none, .op (.mov (.v 6))⟩, false, []⟩,
⟨3, ⟨.v 16, none, .op (.mov (.v 7))⟩, false, []⟩,
⟨4, ⟨.v 17, none, .op (.ixa 1 (.v 15) (.v 16))⟩, false, []⟩,
⟨5, ⟨.v 18, none, .op (.ld false 1 (.v 17))⟩, false, []⟩,
⟨6, ⟨.v 19, none, .op (.mov (.v 0))⟩, false, []⟩,
⟨7, ⟨.v 20, none, .op (.mov (.v 8))⟩, false, []⟩,
⟨8, ⟨.v 21, none, .op (.ixa 1 (.v 19) (.v 20))⟩, false, []⟩,
⟨9, ⟨.v 22, none, .op (.ld false 1 (.v 21))⟩, false, []⟩,
⟨10, ⟨.v 23, none, .op (.fla 0 (.v 2))⟩, false, []⟩,
⟨11, ⟨.v 24, none, .op (.ld false 1 (.v 23))⟩, false, []⟩,
⟨13, ⟨.v 26, none, .op (.fla 1 (.v 2))⟩, false, []⟩,
⟨14, ⟨.v 27, none, .op (.ld false 1 (.v 26))⟩, false, []⟩,
⟨15, ⟨.v 28, none, .op (.mov (.v 8))⟩, false, []⟩,
⟨16, ⟨.v 29, none, .op (.ixa 1 (.v 27) (.v 28))⟩, false, []⟩,
⟨17, ⟨.v 30, none, .op (.ld false 1 (.v 29))⟩, false, []⟩,
⟨18, ⟨.v 31, none, .op (.mov (.v 7))⟩, false, []⟩,
⟨19, ⟨.v 32, none, .op (.ixa 1 (.v 30) (.v 31))⟩, false, []⟩,
⟨20, ⟨.v 33, none, .op (.ld false 1 (.v 32))⟩, false, []⟩,
⟨23, ⟨.v 36, none, .op (.fla 0 (.v 2))⟩, false, []⟩,
⟨24, ⟨.v 37, none, .op (.ld false 1 (.v 36))⟩, false, []⟩,
⟨12, ⟨.v 25, none, .call 12 [(.v 22), (.v 24)]⟩, false, [24, 20, 17, 14, 5]⟩,
⟨21, ⟨.v 34, none, .op (.bin .mul .i64 (.v 25) (.v 33))⟩, false, []⟩,
⟨22, ⟨.v 35, none, .op (.bin .add .i64 (.v 18) (.v 34))⟩, false, []⟩,
⟨25, ⟨.v 38, none, .op (.bin .rem .i64 (.v 35) (.v 37))⟩, false, []⟩,
⟨26, ⟨.v 39, none, .op (.ixa 1 (.v 13) (.v 14))⟩, false, []⟩,
⟨27, ⟨.n, none, .op (.st 1 (.v 39) (.v 38))⟩, false, []⟩])) (
.reg [⟨.l, none, .op (.mov (.v 8))⟩,
⟨.l, none, .op (.bin .add .i64 (.l 0) (.c (.int .i64 1)))⟩,
⟨.v 8, none, .op (.mov (.l 0))⟩]))))))) (
.reg [⟨.l, none, .op (.mov (.v 7))⟩,
⟨.l, none, .op (.bin .add .i64 (.l 0) (.c (.int .i64 1)))⟩,
⟨.v 7, none, .op (.mov (.l 0))⟩])))))) (
.seq (
.reg [⟨.l, none, .op (.mov (.v 6))⟩,
⟨.v 3, none, .op (.mov (.l 0))⟩,
⟨.v 4, none, .op (.mov (.c (.int .i64 0)))⟩]) (
.ret))))))⟩
/- 54 cayley/linear.marked -/
abbrev n_linear_marked : Nat := 54
def c_linear_marked : Ay.Fn := ⟨2, [some 0, some 1, none, none, none, none, none, none, none, none], [.v 2],
.seq (
.reg [⟨.v 2, none, .op (.mov (.c .nils))⟩]) (
.seq (
.reg [⟨.l, none, .op (.mov (.v 1))⟩,
⟨.l, none, .op (.lens (.l 0))⟩,
⟨.l, none, .op (.mks 1 24 [.nils] (.l 0) (.l 0))⟩,
⟨.v 3, none, .op (.mov (.l 0))⟩]) (
.seq (
.seq (
.reg [⟨.v 6, none, .op (.mov (.v 1))⟩,
⟨.v 7, none, .op (.lens (.v 6))⟩,
⟨.v 8, none, .op (.mov (.c (.int .i64 0)))⟩]) (
.block 0 (
.loop (
.seq (
.reg [⟨.v 9, none, .op (.bin .lss .i64 (.v 8) (.v 7))⟩]) (
.seq (
.ite (.v 9) (
.skip) (
.exit 0)) (
.seq (
.block 1 (
.seq (
.reg [⟨.l, none, .op (.mov (.v 8))⟩,
⟨.l, none, .op (.ixa 1 (.v 6) (.v 8))⟩,
⟨.l, none, .op (.ld false 1 (.l 0))⟩,
⟨.v 4, none, .op (.mov (.l 2))⟩,
⟨.v 5, none, .op (.mov (.l 0))⟩]) (
.seq (
.reg [⟨.l, none, .op (.mov (.v 3))⟩,
⟨.l, none, .op (.mov (.v 4))⟩,
⟨.l, none, .op (.mov (.v 0))⟩,
⟨.l, none, .op (.mov (.v 1))⟩,
⟨.l, none, .op (.lens (.l 0))⟩,
⟨.l, none, .op (.bin .add .i64 (.l 2) (.l 0))⟩,
⟨.l, none, .op (.mks 1 8 [(.int .i64 0)] (.l 0) (.l 0))⟩,
⟨.l, none, .op (.ixa 1 (.l 6) (.l 5))⟩,
⟨.n, none, .op (.st 1 (.l 0) (.l 1))⟩]) (
.seq (
.reg [⟨.l, none, .op (.mov (.v 3))⟩,
⟨.l, none, .op (.mov (.v 4))⟩,
⟨.l, none, .op (.ixa 1 (.l 1) (.l 0))⟩,
⟨.l, none, .op (.ld false 1 (.l 0))⟩,
⟨.l, none, .op (.mov (.v 5))⟩,
⟨.l, none, .op (.cpy 1 (.l 1) (.l 0))⟩]) (
.reg [⟨.l, none, .op (.mov (.v 3))⟩,
⟨.l, none, .op (.mov (.v 4))⟩,
⟨.l, none, .op (.ixa 1 (.l 1) (.l 0))⟩,
⟨.l, none, .op (.ld false 1 (.l 0))⟩,
⟨.l, none, .op (.mov (.v 0))⟩,
⟨.l, none, .op (.mov (.v 4))⟩,
⟨.l, none, .op (.bin .add .i64 (.l 1) (.l 0))⟩,
⟨.l, none, .op (.ixa 1 (.l 3) (.l 0))⟩,
⟨.n, none, .op (.st 1 (.l 0) (.c (.int .i64 1)))⟩]))))) (
.reg [⟨.l, none, .op (.bin .add .i64 (.v 8) (.c (.int .i64 1)))⟩,
⟨.v 8, none, .op (.mov (.l 0))⟩]))))))) (
.seq (
.reg [⟨.l, none, .op (.mov (.v 3))⟩,
⟨.v 2, none, .op (.mov (.l 0))⟩]) (
.ret))))⟩
/- 55 (ptr cayley/linear.echelon).reduced -/
abbrev n_linear_echelon_reduced : Nat := 55
def c_linear_echelon_reduced : Ay.Fn := ⟨2, [some 0, some 1, none, none, none, none, none, none, none, none], [.v 4],
.seq (
.reg [⟨.v 2, none, .op (.box (.v 0))⟩,
⟨.v 3, none, .op (.box (.v 1))⟩,
⟨.v 4, none, .op (.mov (.c .nils))⟩]) (
.seq (
.any 7 6 [⟨0, ⟨.v 10, none, .op (.ld false 1 (.v 2))⟩, false, []⟩,
⟨1, ⟨.v 11, none, .op (.nck (.v 10))⟩, false, []⟩,
⟨2, ⟨.v 12, none, .op (.fla 0 (.v 11))⟩, false, []⟩,
⟨3, ⟨.v 13, none, .op (.ld true 1 (.v 12))⟩, false, []⟩,
⟨4, ⟨.v 14, none, .op (.ld false 1 (.v 3))⟩, false, []⟩,
⟨5, ⟨.v 15, none, .call 81 [(.v 13), (.v 14)]⟩, false, []⟩,
⟨6, ⟨.n, none, .op (.st 1 (.v 3) (.v 15))⟩, false, []⟩]) (
.seq (
.seq (
.reg [⟨.l, none, .op (.ld false 1 (.v 2))⟩,
⟨.v 7, none, .call 75 [(.l 0)]⟩]) (
.block 0 (
.range (.v 7) [8, 9] (
.seq (
.reg [⟨.v 5, none, .op (.mov (.v 8))⟩]) (
.reg [⟨.v 6, none, .op (.mov (.v 9))⟩])) (
.block 1 (
.any 17 17 [⟨0, ⟨.v 10, none, .op (.ld false 1 (.v 2))⟩, false, []⟩,
⟨1, ⟨.v 11, none, .op (.nck (.v 10))⟩, false, []⟩,
⟨2, ⟨.v 12, none, .op (.fla 0 (.v 11))⟩, false, []⟩,
⟨3, ⟨.v 13, none, .op (.ld true 1 (.v 12))⟩, false, []⟩,
⟨4, ⟨.v 14, none, .op (.ld false 1 (.v 3))⟩, false, []⟩,
⟨5, ⟨.v 15, none, .op (.mov (.v 6))⟩, false, []⟩,
⟨6, ⟨.v 16, none, .op (.ld false 1 (.v 2))⟩, false, []⟩,
⟨7, ⟨.v 17, none, .op (.nck (.v 16))⟩, false, []⟩,
⟨8, ⟨.v 18, none, .op (.fla 0 (.v 17))⟩, false, []⟩,
⟨9, ⟨.v 19, none, .op (.fla 0 (.v 18))⟩, false, []⟩,
⟨10, ⟨.v 20, none, .op (.ld false 1 (.v 19))⟩, false, []⟩,
⟨11, ⟨.v 21, none, .op (.ld false 1 (.v 3))⟩, false, []⟩,
⟨12, ⟨.v 22, none, .op (.mov (.v 5))⟩, false, []⟩,
⟨13, ⟨.v 23, none, .op (.ixa 1 (.v 21) (.v 22))⟩, false, []⟩,
⟨14, ⟨.v 24, none, .op (.ld false 1 (.v 23))⟩, false, []⟩,
⟨15, ⟨.v 25, none, .op (.bin .sub .i64 (.v 20) (.v 24))⟩, false, []⟩,
⟨16, ⟨.v 26, none, .call 58 [(.v 13), (.v 14), (.v 15), (.v 25)]⟩, false, []⟩]))))) (
.seq (
.reg [⟨.l, none, .op (.ld false 1 (.v 3))⟩,
⟨.v 4, none, .op (.mov (.l 0))⟩]) (
.ret))))⟩
/- 57 slices.Max[[]int,int] -/
abbrev n_slices_Max_int_int : Nat := 57
def c_slices_Max_int_int : Ay.Fn := ⟨1, [some 0, none, none, none, none, none], [.v 1],
.seq (
.reg [⟨.v 1, none, .op (.mov (.c (.int .i64 0)))⟩]) (
.seq (
.seq (
.reg [⟨.l, none, .op (.mov (.v 0))⟩,
⟨.l, none, .op (.lens (.l 0))⟩,
⟨.v 4, none, .op (.bin .lss .i64 (.l 0) (.c (.int .i64 1)))⟩]) (
.ite (.v 4) (
.reg [⟨.l, none, .op (.fail)⟩,
⟨.n, none, .op (.fail)⟩]) (
.skip))) (
.seq (
.reg [⟨.l, none, .op (.mov (.v 0))⟩,
⟨.l, none, .op (.ixa 1 (.l 0) (.c (.int .i64 0)))⟩,
⟨.l, none, .op (.ld false 1 (.l 0))⟩,
⟨.v 2, none, .op (.mov (.l 0))⟩]) (
.seq (
.seq (
.reg [⟨.v 3, none, .op (.mov (.c (.int .i64 1)))⟩]) (
.block 0 (
.loop (
.seq (
.seq (
.reg [⟨.l, none, .op (.mov (.v 3))⟩,
⟨.l, none, .op (.mov (.v 0))⟩,
⟨.l, none, .op (.lens (.l 0))⟩,
⟨.v 5, none, .op (.bin .lss .i64 (.l 2) (.l 0))⟩]) (
.ite (.v 5) (
.skip) (
.exit 0))) (
.seq (
.block 1 (
.reg [⟨.l, none, .op (.mov (.v 2))⟩,
⟨.l, none, .op (.mov (.v 0))⟩,
⟨.l, none, .op (.mov (.v 3))⟩,
⟨.l, none, .op (.ixa 1 (.l 1) (.l 0))⟩,
⟨.l, none, .op (.ld false 1 (.l 0))⟩,
⟨.l, none, .op (.mm true [(.l 4), (.l 0)])⟩,
⟨.v 2, none, .op (.mov (.l 0))⟩])) (
.reg [⟨.l, none, .op (.mov (.v 3))⟩,
⟨.l, none, .op (.bin .add .i64 (.l 0) (.c (.int .i64 1)))⟩,
⟨.v 3, none, .op (.mov (.l 0))⟩])))))) (
.seq (
.reg [⟨.l, none, .op (.mov (.v 2))⟩,
⟨.v 1, none, .op (.mov (.l 0))⟩]) (
.ret)))))⟩
/- 58 (cayley/linear.field).add -/
abbrev n_linear_field_add : Nat := 58
def c_linear_field_add : Ay.Fn := ⟨4, [some 0, some 1, some 2, some 3, none, none, none, none, none, none, none], [],
.seq (
.reg [⟨.v 4, none, .op (.box (.v 0))⟩]) (
.seq (
.reg [⟨.v 7, none, .op (.mov (.v 2))⟩,
⟨.v 8, none, .op (.lens (.v 7))⟩,
⟨.v 9, none, .op (.mov (.c (.int .i64 0)))⟩]) (
.block 0 (
.loop (
.seq (
.reg [⟨.v 10, none, .op (.bin .lss .i64 (.v 9) (.v 8))⟩]) (
.seq (
.ite (.v 10) (
.skip) (
.exit 0)) (
.seq (
.block 1 (
.seq (
.reg [⟨.l, none, .op (.mov (.v 9))⟩,
⟨.l, none, .op (.ixa 1 (.v 7) (.v 9))⟩,
⟨.l, none, .op (.ld false 1 (.l 0))⟩,
⟨.v 5, none, .op (.mov (.l 2))⟩,
⟨.v 6, none, .op (.mov (.l 0))⟩]) (
.any 15 14 [⟨0, ⟨.v 11, none, .op (.mov (.v 1))⟩, false, []⟩,
⟨1, ⟨.v 12, none, .op (.mov (.v 5))⟩, false, []⟩,
⟨2, ⟨.v 13, none, .op (.mov (.v 1))⟩, false, []⟩,
⟨3, ⟨.v 14, none, .op (.mov (.v 5))⟩, false, []⟩,
⟨4, ⟨.v 15, none, .op (.ixa 1 (.v 13) (.v 14))⟩, false, []⟩,
⟨5, ⟨.v 16, none, .op (.ld false 1 (.v 15))⟩, false, []⟩,
⟨6, ⟨.v 17, none, .op (.mov (.v 3))⟩, false, []⟩,
⟨7, ⟨.v 18, none, .op (.mov (.v 6))⟩, false, []⟩,
⟨8, ⟨.v 19, none, .op (.bin .mul .i64 (.v 17) (.v 18))⟩, false, []⟩,
⟨9, ⟨.v 20, none, .op (.bin .add .i64 (.v 16) (.v 19))⟩, false, []⟩,
⟨10, ⟨.v 21, none, .op (.fla 0 (.v 4))⟩, false, []⟩,
⟨11, ⟨.v 22, none, .op (.ld false 1 (.v 21))⟩, false, []⟩,
⟨12, ⟨.v 23, none, .op (.bin .rem .i64 (.v 20) (.v 22))⟩, false, []⟩,
⟨13, ⟨.v 24, none, .op (.ixa 1 (.v 11) (.v 12))⟩, false, []⟩,
⟨14, ⟨.n, none, .op (.st 1 (.v 24) (.v 23))⟩, false, []⟩]))) (
.reg [⟨.l, none, .op (.bin .add .i64 (.v 9) (.c (.int .i64 1)))⟩,
⟨.v 9, none, .op (.mov (.l 0))⟩])))))))⟩
/- 64 cayley/matrix.Poly -/
abbrev n_matrix_Poly : Nat := 64
def c_matrix_Poly : Ay.Fn := ⟨1, [some 0, none, none, none, none, none, none, none, none, none, none, none, none, none, none, none, none, none, none, none, none, none, none, none, none, none, none, none, none, none, none], [.v 2, .v 3],
.seq (
.reg [⟨.v 1, none, .op (.box (.v 0))⟩,
⟨.v 2, none, .op (.mov (.c .nils))⟩,
⟨.v 3, none, .op (.mov (.c (.int .i64 0)))⟩]) (
.seq (
.seq (
.reg [⟨.l, none, .op (.ld true 2 (.v 1))⟩,
⟨.l, none, .call 86 [(.l 0)]⟩,
⟨.v 4, none, .op (.mov (.l 0))⟩]) (
.seq (
.reg [⟨.l, none, .op (.mov (.v 4))⟩,
⟨.v 18, none, .op (.bin .neq .i64 (.l 0) (.c (.int .i64 0)))⟩]) (
.ite (.v 18) (
.seq (
.reg [⟨.l, none, .op (.mov (.v 4))⟩,
⟨.v 2, none, .op (.mov (.c .nils))⟩,
⟨.v 3, none, .op (.mov (.l 0))⟩]) (
.ret)) (
.skip)))) (
.seq (
.any 6 4 [⟨0, ⟨.v 31, none, .op (.fla 0 (.v 1))⟩, false, []⟩,
⟨1, ⟨.v 32, none, .op (.ld false 1 (.v 31))⟩, false, []⟩,
⟨2, ⟨.v 33, none, .op (.ld true 2 (.v 1))⟩, false, []⟩,
⟨3, ⟨.v 34, none, .call 87 [(.v 33)]⟩, false, [1]⟩,
⟨4, ⟨.v 5, none, .op (.mov (.v 32))⟩, false, []⟩,
⟨5, ⟨.v 6, none, .op (.mov (.v 34))⟩, false, []⟩]) (
.seq (
.reg [⟨.l, none, .op (.bls 1 [(.int .i64 0)] 1 [(0, 1, (.c (.int .i64 1)))])⟩,
⟨.l, none, .op (.bls 1 [.nils] 1 [(0, 1, (.l 0))])⟩,
⟨.v 7, none, .op (.mov (.l 0))⟩]) (
.seq (
.seq (
.reg [⟨.l, none, .op (.mov (.v 6))⟩,
⟨.v 19, none, .op (.lens (.l 0))⟩,
⟨.v 20, none, .op (.mov (.c (.int .i64 0)))⟩]) (
.block 0 (
.loop (
.seq (
.reg [⟨.v 21, none, .op (.bin .lss .i64 (.v 20) (.v 19))⟩]) (
.seq (
.ite (.v 21) (
.skip) (
.exit 0)) (
.seq (
.block 1 (
.seq (
.reg [⟨.l, none, .op (.mov (.v 20))⟩,
⟨.v 8, none, .op (.mov (.l 0))⟩]) (
.seq (
.reg [⟨.l, none, .op (.mov (.v 8))⟩,
⟨.l, none, .op (.bin .add .i64 (.l 0) (.c (.int .i64 2)))⟩,
⟨.l, none, .op (.mks 1 8 [(.int .i64 0)] (.l 0) (.l 0))⟩,
⟨.v 9, none, .op (.mov (.l 0))⟩]) (
.seq (
.reg [⟨.l, none, .op (.mov (.v 7))⟩,
⟨.l, none, .op (.mov (.v 8))⟩,
⟨.l, none, .op (.ixa 1 (.l 1) (.l 0))⟩,
⟨.l, none, .op (.ld false 1 (.l 0))⟩,
⟨.v 10, none, .op (.mov (.l 0))⟩]) (
.seq (
.reg [⟨.l, none, .op (.mov (.v 9))⟩,
⟨.l, none, .op (.slc 1 (.l 0) (some (.c (.int .i64 1))) none none)⟩,
⟨.l, none, .op (.mov (.v 10))⟩,
⟨.l, none, .op (.cpy 1 (.l 1) (.l 0))⟩]) (
.seq (
.seq (
.reg [⟨.v 22, none, .op (.mov (.v 10))⟩,
⟨.v 23, none, .op (.lens (.v 22))⟩,
⟨.v 24, none, .op (.mov (.c (.int .i64 0)))⟩]) (
.block 2 (
.loop (
.seq (
.reg [⟨.v 25, none, .op (.bin .lss .i64 (.v 24) (.v 23))⟩]) (
.seq (
.ite (.v 25) (
.skip) (
.exit 2)) (
.seq (
.block 3 (
.seq (
.reg [⟨.l, none, .op (.mov (.v 24))⟩,
⟨.l, none, .op (.ixa 1 (.v 22) (.v 24))⟩,
⟨.l, none, .op (.ld false 1 (.l 0))⟩,
⟨.v 11, none, .op (.mov (.l 2))⟩,
⟨.v 12, none, .op (.mov (.l 0))⟩]) (
.any 22 21 [⟨0, ⟨.v 31, none, .op (.mov (.v 9))⟩, false, []⟩,
⟨1, ⟨.v 32, none, .op (.mov (.v 11))⟩, false, []⟩,
⟨2, ⟨.v 33, none, .op (.mov (.v 9))⟩, false, []⟩,
⟨3, ⟨.v 34, none, .op (.mov (.v 11))⟩, false, []⟩,
⟨4, ⟨.v 35, none, .op (.ixa 1 (.v 33) (.v 34))⟩, false, []⟩,
⟨5, ⟨.v 36, none, .op (.ld false 1 (.v 35))⟩, false, []⟩,
⟨6, ⟨.v 37, none, .op (.mov (.v 5))⟩, false, []⟩,
⟨7, ⟨.v 38, none, .op (.mov (.v 6))⟩, false, []⟩,
⟨8, ⟨.v 39, none, .op (.mov (.v 8))⟩, false, []⟩,
⟨9, ⟨.v 40, none, .op (.ixa 1 (.v 38) (.v 39))⟩, false, []⟩,
⟨10, ⟨.v 41, none, .op (.ld false 1 (.v 40))⟩, false, []⟩,
⟨11, ⟨.v 42, none, .op (.mov (.v 8))⟩, false, []⟩,
⟨12, ⟨.v 43, none, .op (.ixa 1 (.v 41) (.v 42))⟩, false, []⟩,
⟨13, ⟨.v 44, none, .op (.ld false 1 (.v 43))⟩, false, []⟩,
⟨14, ⟨.v 45, none, .op (.bin .sub .i64 (.v 37) (.v 44))⟩, false, []⟩,
⟨15, ⟨.v 46, none, .op (.mov (.v 12))⟩, false, []⟩,
⟨16, ⟨.v 47, none, .op (.bin .mul .i64 (.v 45) (.v 46))⟩, false, []⟩,
⟨17, ⟨.v 48, none, .op (.bin .add .i64 (.v 36) (.v 47))⟩, false, []⟩,
⟨18, ⟨.v 49, none, .op (.mov (.v 5))⟩, false, []⟩,
⟨19, ⟨.v 50, none, .op (.bin .rem .i64 (.v 48) (.v 49))⟩, false, []⟩,
⟨20, ⟨.v 51, none, .op (.ixa 1 (.v 31) (.v 32))⟩, false, []⟩,
⟨21, ⟨.n, none, .op (.st 1 (.v 51) (.v 50))⟩, false, []⟩]))) (
.reg [⟨.l, none, .op (.bin .add .i64 (.v 24) (.c (.int .i64 1)))⟩,
⟨.v 24, none, .op (.mov (.l 0))⟩]))))))) (
.seq (
.reg [⟨.v 13, none, .op (.mov (.c (.int .i64 1)))⟩]) (
.seq (
.seq (
.reg [⟨.l, none, .op (.mov (.v 8))⟩,
⟨.l, none, .op (.bin .sub .i64 (.l 0) (.c (.int .i64 1)))⟩,
⟨.v 14, none, .op (.mov (.l 0))⟩]) (
.block 4 (
.loop (
.seq (
.seq (
.reg [⟨.l, none, .op (.mov (.v 14))⟩,
⟨.v 26, none, .op (.bin .geq .i64 (.l 0) (.c (.int .i64 0)))⟩]) (
.ite (.v 26) (
.skip) (
.exit 4))) (
.seq (
.block 5 (
.seq (
.reg [⟨.l, none, .op (.mov (.v 13))⟩,
⟨.l, none, .op (.mov (.v 6))⟩,
⟨.l, none, .op (.mov (.v 14))⟩,
⟨.l, none, .op (.bin .add .i64 (.l 0) (.c (.int .i64 1)))⟩,
⟨.l, none, .op (.ixa 1 (.l 2) (.l 0))⟩,
⟨.l, none, .op (.ld false 1 (.l 0))⟩,
⟨.l, none, .op (.mov (.v 14))⟩,
⟨.l, none, .op (.ixa 1 (.l 1) (.l 0))⟩,
⟨.l, none, .op (.ld false 1 (.l 0))⟩,
⟨.l, none, .op (.bin .mul .i64 (.l 8) (.l 0))⟩,
⟨.l, none, .op (.mov (.v 5))⟩,
⟨.l, none, .op (.bin .rem .i64 (.l 1) (.l 0))⟩,
⟨.v 13, none, .op (.mov (.l 0))⟩]) (
.seq (
.reg [⟨.l, none, .op (.mov (.v 6))⟩,
⟨.l, none, .op (.mov (.v 14))⟩,
⟨.l, none, .op (.ixa 1 (.l 1) (.l 0))⟩,
⟨.l, none, .op (.ld false 1 (.l 0))⟩,
⟨.l, none, .op (.mov (.v 8))⟩,
⟨.l, none, .op (.ixa 1 (.l 1) (.l 0))⟩,
⟨.l, none, .op (.ld false 1 (.l 0))⟩,
⟨.l, none, .op (.mov (.v 13))⟩,
⟨.l, none, .op (.bin .mul .i64 (.l 1) (.l 0))⟩,
⟨.l, none, .op (.mov (.v 5))⟩,
⟨.l, none, .op (.bin .rem .i64 (.l 1) (.l 0))⟩,
⟨.v 15, none, .op (.mov (.l 0))⟩]) (
.seq (
.reg [⟨.l, none, .op (.mov (.v 7))⟩,
⟨.l, none, .op (.mov (.v 14))⟩,
⟨.l, none, .op (.ixa 1 (.l 1) (.l 0))⟩,
⟨.v 27, none, .op (.ld false 1 (.l 0))⟩,
⟨.v 28, none, .op (.lens (.v 27))⟩,
⟨.v 29, none, .op (.mov (.c (.int .i64 0)))⟩]) (
.block 6 (
.loop (
.seq (
.reg [⟨.v 30, none, .op (.bin .lss .i64 (.v 29) (.v 28))⟩]) (
.seq (
.ite (.v 30) (
.skip) (
.exit 6)) (
.seq (
.block 7 (
.seq (
.reg [⟨.l, none, .op (.mov (.v 29))⟩,
⟨.l, none, .op (.ixa 1 (.v 27) (.v 29))⟩,
⟨.l, none, .op (.ld false 1 (.l 0))⟩,
⟨.v 16, none, .op (.mov (.l 2))⟩,
⟨.v 17, none, .op (.mov (.l 0))⟩]) (
.reg [⟨.l, none, .op (.mov (.v 9))⟩,
⟨.l, none, .op (.mov (.v 16))⟩,
⟨.l, none, .op (.mov (.v 9))⟩,
⟨.l, none, .op (.mov (.v 16))⟩,
⟨.l, none, .op (.ixa 1 (.l 1) (.l 0))⟩,
⟨.l, none, .op (.ld false 1 (.l 0))⟩,
⟨.l, none, .op (.mov (.v 5))⟩,
⟨.l, none, .op (.mov (.v 15))⟩,
⟨.l, none, .op (.bin .sub .i64 (.l 1) (.l 0))⟩,
⟨.l, none, .op (.mov (.v 17))⟩,
⟨.l, none, .op (.bin .mul .i64 (.l 1) (.l 0))⟩,
⟨.l, none, .op (.bin .add .i64 (.l 5) (.l 0))⟩,
⟨.l, none, .op (.mov (.v 5))⟩,
⟨.l, none, .op (.bin .rem .i64 (.l 1) (.l 0))⟩,
⟨.l, none, .op (.ixa 1 (.l 13) (.l 12))⟩,
⟨.n, none, .op (.st 1 (.l 0) (.l 1))⟩]))) (
.reg [⟨.l, none, .op (.bin .add .i64 (.v 29) (.c (.int .i64 1)))⟩,
⟨.v 29, none, .op (.mov (.l 0))⟩])))))))))) (
.reg [⟨.l, none, .op (.mov (.v 14))⟩,
⟨.l, none, .op (.bin .sub .i64 (.l 0) (.c (.int .i64 1)))⟩,
⟨.v 14, none, .op (.mov (.l 0))⟩])))))) (
.reg [⟨.l, none, .op (.mov (.v 7))⟩,
⟨.l, none, .op (.mov (.v 9))⟩,
⟨.l, none, .op (.bls 1 [.nils] 1 [(0, 1, (.l 0))])⟩,
⟨.l, none, .op (.app 1 24 (.l 2) (.l 0))⟩,
⟨.v 7, none, .op (.mov (.l 0))⟩]))))))))) (
.reg [⟨.l, none, .op (.bin .add .i64 (.v 20) (.c (.int .i64 1)))⟩,
⟨.v 20, none, .op (.mov (.l 0))⟩]))))))) (
.seq (
.reg [⟨.l, none, .op (.mov (.v 7))⟩,
⟨.l, none, .op (.mov (.v 6))⟩,
⟨.l, none, .op (.lens (.l 0))⟩,
⟨.l, none, .op (.ixa 1 (.l 2) (.l 0))⟩,
⟨.l, none, .op (.ld false 1 (.l 0))⟩,
⟨.v 2, none, .op (.mov (.l 0))⟩,
⟨.v 3, none, .op (.mov (.c (.int .i64 0)))⟩]) (
.ret))))))⟩
/- 65 slices.Backward[[]int,int] -/
abbrev n_slices_Backward_int_int : Nat := 65
def c_slices_Backward_int_int : Ay.Fn := ⟨1, [some 0, none, none], [.v 2],
.seq (
.reg [⟨.v 1, none, .op (.box (.v 0))⟩,
⟨.v 2, none, .op (.mov (.c .nilf))⟩]) (
.seq (
.reg [⟨.l, none, .op (.mkf 88 [] [(.v 1)])⟩,
⟨.v 2, none, .op (.mov (.l 0))⟩]) (
.ret))⟩
/- 66 slices.Clone[[]int,int] -/
abbrev n_slices_Clone_int_int : Nat := 66
def c_slices_Clone_int_int : Ay.Fn := ⟨1, [some 0, none, none], [.v 1],
.seq (
.reg [⟨.v 1, none, .op (.mov (.c .nils))⟩]) (
.seq (
.seq (
.reg [⟨.l, none, .op (.mov (.v 0))⟩,
⟨.v 2, none, .op (.snil false (.l 0))⟩]) (
.ite (.v 2) (
.seq (
.reg [⟨.v 1, none, .op (.mov (.c .nils))⟩]) (
.ret)) (
.skip))) (
.seq (
.reg [⟨.l, none, .op (.bls 1 [(.int .i64 0)] 0 [])⟩,
⟨.l, none, .op (.mov (.v 0))⟩,
⟨.l, none, .op (.app 1 8 (.l 1) (.l 0))⟩,
⟨.v 1, none, .op (.mov (.l 0))⟩]) (
.ret)))⟩
/- 67 cayley/cayleyref04.Check -/
abbrev n_ref04_Check : Nat := 67
def c_ref04_Check : Ay.Fn := ⟨1, [some 0, none, none, none, none, none, none, none, none, none, none], [.v 2],
.seq (
.reg [⟨.v 1, none, .op (.box (.v 0))⟩,
⟨.v 2, none, .op (.mov (.c (.int .i64 0)))⟩]) (
.seq (
.seq (
.reg [⟨.l, none, .op (.fla 0 (.v 1))⟩,
⟨.l, none, .op (.ld false 1 (.l 0))⟩,
⟨.l, none, .call 83 [(.l 0)]⟩,
⟨.v 5, none, .op (.not (.l 0))⟩]) (
.ite (.v 5) (
.seq (
.reg [⟨.v 2, none, .op (.mov (.c (.int .i64 3)))⟩]) (
.ret)) (
.skip))) (
.seq (
.seq (
.reg [⟨.l, none, .op (.fla 1 (.v 1))⟩,
⟨.l, none, .op (.ld false 1 (.l 0))⟩,
⟨.l, none, .op (.lens (.l 0))⟩,
⟨.l, none, .op (.bin .lss .i64 (.l 0) (.c (.int .i64 1)))⟩,
⟨.l, none, .op (.mov (.l 0))⟩,
⟨.l, some ((.l 0), false), .op (.fla 1 (.v 1))⟩,
⟨.l, some ((.l 1), false), .op (.ld false 1 (.l 0))⟩,
⟨.l, some ((.l 2), false), .op (.lens (.l 0))⟩,
⟨.l, some ((.l 3), false), .op (.bin .gtr .i64 (.l 0) (.c (.int .i64 64)))⟩,
⟨.l, none, .op (.pick (.l 4) (.c (.bool true)) (.l 0))⟩,
⟨.l, none, .op (.mov (.l 0))⟩,
⟨.l, some ((.l 0), false), .op (.fla 1 (.v 1))⟩,
⟨.l, some ((.l 1), false), .op (.ld false 1 (.l 0))⟩,
⟨.l, some ((.l 2), false), .op (.ixa 1 (.l 0) (.c (.int .i64 0)))⟩,
⟨.l, some ((.l 3), false), .op (.ld false 1 (.l 0))⟩,
⟨.l, some ((.l 4), false), .op (.lens (.l 0))⟩,
⟨.l, some ((.l 5), false), .op (.bin .lss .i64 (.l 0) (.c (.int .i64 1)))⟩,
⟨.l, none, .op (.pick (.l 6) (.c (.bool true)) (.l 0))⟩,
⟨.l, none, .op (.mov (.l 0))⟩,
⟨.l, some ((.l 0), false), .op (.fla 1 (.v 1))⟩,
⟨.l, some ((.l 1), false), .op (.ld false 1 (.l 0))⟩,
⟨.l, some ((.l 2), false), .op (.ixa 1 (.l 0) (.c (.int .i64 0)))⟩,
⟨.l, some ((.l 3), false), .op (.ld false 1 (.l 0))⟩,
⟨.l, some ((.l 4), false), .op (.lens (.l 0))⟩,
⟨.l, some ((.l 5), false), .op (.bin .gtr .i64 (.l 0) (.c (.int .i64 64)))⟩,
⟨.v 6, none, .op (.pick (.l 6) (.c (.bool true)) (.l 0))⟩]) (
.ite (.v 6) (
.seq (
.reg [⟨.v 2, none, .op (.mov (.c (.int .i64 2)))⟩]) (
.ret)) (
.skip))) (
.seq (
.seq (
.reg [⟨.v 3, none, .op (.mov (.c (.int .i64 0)))⟩]) (
.block 0 (
.loop (
.seq (
.seq (
.reg [⟨.l, none, .op (.mov (.v 3))⟩,
⟨.l, none, .op (.fla 1 (.v 1))⟩,
⟨.l, none, .op (.ld false 1 (.l 0))⟩,
⟨.l, none, .op (.lens (.l 0))⟩,
⟨.v 7, none, .op (.bin .lss .i64 (.l 3) (.l 0))⟩]) (
.ite (.v 7) (
.skip) (
.exit 0))) (
.seq (
.block 1 (
.seq (
.seq (
.any 12 11 [⟨0, ⟨.v 11, none, .op (.fla 1 (.v 1))⟩, false, []⟩,
⟨1, ⟨.v 12, none, .op (.ld false 1 (.v 11))⟩, false, []⟩,
⟨2, ⟨.v 13, none, .op (.mov (.v 3))⟩, false, []⟩,
⟨3, ⟨.v 14, none, .op (.ixa 1 (.v 12) (.v 13))⟩, false, []⟩,
⟨4, ⟨.v 15, none, .op (.ld false 1 (.v 14))⟩, false, []⟩,
⟨5, ⟨.v 16, none, .op (.lens (.v 15))⟩, false, []⟩,
⟨6, ⟨.v 17, none, .op (.fla 1 (.v 1))⟩, false, []⟩,
⟨7, ⟨.v 18, none, .op (.ld false 1 (.v 17))⟩, false, []⟩,
⟨8, ⟨.v 19, none, .op (.ixa 1 (.v 18) (.c (.int .i64 0)))⟩, false, []⟩,
⟨9, ⟨.v 20, none, .op (.ld false 1 (.v 19))⟩, false, []⟩,
⟨10, ⟨.v 21, none, .op (.lens (.v 20))⟩, false, []⟩,
⟨11, ⟨.v 8, none, .op (.bin .neq .i64 (.v 16) (.v 21))⟩, false, []⟩]) (
.ite (.v 8) (
.seq (
.reg [⟨.v 2, none, .op (.mov (.c (.int .i64 3)))⟩]) (
.ret)) (
.skip))) (
.seq (
.reg [⟨.v 4, none, .op (.mov (.c (.int .i64 0)))⟩]) (
.block 2 (
.loop (
.seq (
.seq (
.reg [⟨.l, none, .op (.mov (.v 4))⟩,
⟨.l, none, .op (.fla 1 (.v 1))⟩,
⟨.l, none, .op (.ld false 1 (.l 0))⟩,
⟨.l, none, .op (.mov (.v 3))⟩,
⟨.l, none, .op (.ixa 1 (.l 1) (.l 0))⟩,
⟨.l, none, .op (.ld false 1 (.l 0))⟩,
⟨.l, none, .op (.lens (.l 0))⟩,
⟨.v 9, none, .op (.bin .lss .i64 (.l 6) (.l 0))⟩]) (
.ite (.v 9) (
.skip) (
.exit 2))) (
.seq (
.block 3 (
.seq (
.any 22 21 [⟨0, ⟨.v 11, none, .op (.fla 1 (.v 1))⟩, false, []⟩,
⟨1, ⟨.v 12, none, .op (.ld false 1 (.v 11))⟩, false, []⟩,
⟨2, ⟨.v 13, none, .op (.mov (.v 3))⟩, false, []⟩,
⟨3, ⟨.v 14, none, .op (.ixa 1 (.v 12) (.v 13))⟩, false, []⟩,
⟨4, ⟨.v 15, none, .op (.ld false 1 (.v 14))⟩, false, []⟩,
⟨5, ⟨.v 16, none, .op (.mov (.v 4))⟩, false, []⟩,
⟨6, ⟨.v 17, none, .op (.ixa 1 (.v 15) (.v 16))⟩, false, []⟩,
⟨7, ⟨.v 18, none, .op (.ld false 1 (.v 17))⟩, false, []⟩,
⟨8, ⟨.v 19, none, .op (.bin .lss .i64 (.v 18) (.c (.int .i64 0)))⟩, false, []⟩,
⟨9, ⟨.v 20, none, .op (.mov (.v 19))⟩, false, []⟩,
⟨10, ⟨.v 21, some ((.v 20), false), .op (.fla 1 (.v 1))⟩, false, []⟩,
⟨11, ⟨.v 22, some ((.v 20), false), .op (.ld false 1 (.v 21))⟩, false, []⟩,
⟨12, ⟨.v 23, some ((.v 20), false), .op (.mov (.v 3))⟩, false, []⟩,
⟨13, ⟨.v 24, some ((.v 20), false), .op (.ixa 1 (.v 22) (.v 23))⟩, false, []⟩,
⟨14, ⟨.v 25, some ((.v 20), false), .op (.ld false 1 (.v 24))⟩, false, []⟩,
⟨15, ⟨.v 26, some ((.v 20), false), .op (.mov (.v 4))⟩, false, []⟩,
⟨16, ⟨.v 27, some ((.v 20), false), .op (.ixa 1 (.v 25) (.v 26))⟩, false, []⟩,
⟨17, ⟨.v 28, some ((.v 20), false), .op (.ld false 1 (.v 27))⟩, false, []⟩,
⟨18, ⟨.v 29, some ((.v 20), false), .op (.fla 0 (.v 1))⟩, false, []⟩,
⟨19, ⟨.v 30, some ((.v 20), false), .op (.ld false 1 (.v 29))⟩, false, []⟩,
⟨20, ⟨.v 31, some ((.v 20), false), .op (.bin .geq .i64 (.v 28) (.v 30))⟩, false, []⟩,
⟨21, ⟨.v 10, none, .op (.pick (.v 20) (.c (.bool true)) (.v 31))⟩, false, []⟩]) (
.ite (.v 10) (
.seq (
.reg [⟨.v 2, none, .op (.mov (.c (.int .i64 3)))⟩]) (
.ret)) (
.skip)))) (
.reg [⟨.l, none, .op (.mov (.v 4))⟩,
⟨.l, none, .op (.bin .add .i64 (.l 0) (.c (.int .i64 1)))⟩,
⟨.v 4, none, .op (.mov (.l 0))⟩])))))))) (
.reg [⟨.l, none, .op (.mov (.v 3))⟩,
⟨.l, none, .op (.bin .add .i64 (.l 0) (.c (.int .i64 1)))⟩,
⟨.v 3, none, .op (.mov (.l 0))⟩])))))) (
.seq (
.reg [⟨.v 2, none, .op (.mov (.c (.int .i64 0)))⟩]) (
.ret)))))⟩
/- 68 cayley/cayleyref04.blank -/
abbrev n_ref04_blank : Nat := 68
def c_ref04_blank : Ay.Fn := ⟨3, [some 0, some 1, some 2, none, none, none, none], [.cell 3 true 2],
.seq (
.reg [⟨.v 3, none, .op (.alc [(.int .i64 0), .nils])⟩]) (
.seq (
.reg [⟨.l, none, .op (.mov (.v 0))⟩,
⟨.l, none, .op (.bld [(.int .i64 0), .nils] [(0, 1, (.l 0))])⟩,
⟨.v 4, none, .op (.alc [(.int .i64 0), .nils])⟩,
⟨.n, none, .op (.st 2 (.v 4) (.l 0))⟩]) (
.seq (
.seq (
.reg [⟨.v 5, none, .op (.mov (.c (.int .i64 0)))⟩]) (
.block 0 (
.loop (
.seq (
.seq (
.reg [⟨.l, none, .op (.mov (.v 5))⟩,
⟨.l, none, .op (.mov (.v 1))⟩,
⟨.v 6, none, .op (.bin .lss .i64 (.l 1) (.l 0))⟩]) (
.ite (.v 6) (
.skip) (
.exit 0))) (
.seq (
.block 1 (
.any 8 7 [⟨0, ⟨.v 7, none, .op (.fla 1 (.v 4))⟩, false, []⟩,
⟨1, ⟨.v 8, none, .op (.ld false 1 (.v 7))⟩, false, []⟩,
⟨2, ⟨.v 9, none, .op (.mov (.v 2))⟩, false, []⟩,
⟨3, ⟨.v 10, none, .op (.mks 1 8 [(.int .i64 0)] (.v 9) (.v 9))⟩, true, []⟩,
⟨4, ⟨.v 11, none, .op (.bls 1 [.nils] 1 [(0, 1, (.v 10))])⟩, true, []⟩,
⟨5, ⟨.v 12, none, .op (.app 1 24 (.v 8) (.v 11))⟩, false, []⟩,
⟨6, ⟨.v 13, none, .op (.fla 1 (.v 4))⟩, false, []⟩,
⟨7, ⟨.n, none, .op (.st 1 (.v 13) (.v 12))⟩, false, []⟩])) (
.reg [⟨.l, none, .op (.mov (.v 5))⟩,
⟨.l, none, .op (.bin .add .i64 (.l 0) (.c (.int .i64 1)))⟩,
⟨.v 5, none, .op (.mov (.l 0))⟩])))))) (
.seq (
.reg [⟨.l, none, .op (.ld true 2 (.v 4))⟩,
⟨.n, none, .op (.st 2 (.v 3) (.l 0))⟩]) (
.ret))))⟩
/- 72 cayley/prime.Is -/
abbrev n_prime_Is : Nat := 72
def c_prime_Is : Ay.Fn := ⟨1, [some 0, none], [.v 1],
.seq (
.reg [⟨.v 1, none, .op (.mov (.c (.bool false)))⟩]) (
.seq (
.reg [⟨.l, none, .op (.mov (.v 0))⟩,
⟨.l, none, .op (.bin .gtr .i64 (.l 0) (.c (.int .i64 1)))⟩,
⟨.l, none, .op (.mov (.l 0))⟩,
⟨.l, some ((.l 0), true), .op (.mov (.v 0))⟩,
⟨.l, some ((.l 1), true), .op (.bin .lss .i64 (.l 0) (.c (.int .i64 1000000)))⟩,
⟨.l, none, .op (.pick (.l 2) (.l 0) (.c (.bool false)))⟩,
⟨.l, none, .op (.mov (.l 0))⟩,
⟨.l, some ((.l 0), true), .op (.mov (.v 0))⟩,
⟨.l, some ((.l 1), true), .call 92 [(.l 0)]⟩,
⟨.l, some ((.l 2), true), .op (.mov (.v 0))⟩,
⟨.l, some ((.l 3), true), .op (.bin .eql .i64 (.l 1) (.l 0))⟩,
⟨.l, none, .op (.pick (.l 4) (.l 0) (.c (.bool false)))⟩,
⟨.v 1, none, .op (.mov (.l 0))⟩]) (
.ret))⟩
/- 73 slices.ContainsFunc[[][]int,[]int] -/
abbrev n_slices_ContainsFunc_int_int : Nat := 73
def c_slices_ContainsFunc_int_int : Ay.Fn := ⟨2, [some 0, some 1, none], [.v 2],
.seq (
.reg [⟨.v 2, none, .op (.mov (.c (.bool false)))⟩]) (
.seq (
.reg [⟨.l, none, .op (.mov (.v 0))⟩,
⟨.l, none, .op (.mov (.v 1))⟩,
⟨.l, none, .call 93 [(.l 1), (.l 0)]⟩,
⟨.l, none, .op (.bin .geq .i64 (.l 0) (.c (.int .i64 0)))⟩,
⟨.v 2, none, .op (.mov (.l 0))⟩]) (
.ret))⟩
/- 74 cayley/linear.check part 1 -/
def c_linear_check_1 : Ay.Fn := ⟨2, [some 0, some 1, none], [.v 2],
.seq (
.reg [⟨.v 2, none, .op (.mov (.c (.bool false)))⟩]) (
.seq (
.reg [⟨.l, none, .op (.mov (.v 0))⟩,
⟨.l, none, .op (.lens (.l 0))⟩,
⟨.l, none, .op (.ld false 1 (.v 1))⟩,
⟨.l, none, .op (.bin .neq .i64 (.l 1) (.l 0))⟩,
⟨.v 2, none, .op (.mov (.l 0))⟩]) (
.ret))⟩
/- 75 (ptr cayley/linear.echelon).pivots -/
abbrev n_linear_echelon_pivots : Nat := 75
def c_linear_echelon_pivots : Ay.Fn := ⟨1, [some 0, none, none], [.v 2],
.seq (
.reg [⟨.v 1, none, .op (.box (.v 0))⟩,
⟨.v 2, none, .op (.mov (.c .nilf))⟩]) (
.seq (
.reg [⟨.l, none, .op (.mkf 94 [] [(.v 1)])⟩,
⟨.v 2, none, .op (.mov (.l 0))⟩]) (
.ret))⟩
/- 76 slices.IndexFunc[[]int,int] -/
abbrev n_slices_IndexFunc_int_int : Nat := 76
def c_slices_IndexFunc_int_int : Ay.Fn := ⟨2, [some 0, some 1, none, none, none, none, none, none], [.v 2],
.seq (
.reg [⟨.v 2, none, .op (.mov (.c (.int .i64 0)))⟩]) (
.seq (
.seq (
.reg [⟨.l, none, .op (.mov (.v 0))⟩,
⟨.v 4, none, .op (.lens (.l 0))⟩,
⟨.v 5, none, .op (.mov (.c (.int .i64 0)))⟩]) (
.block 0 (
.loop (
.seq (
.reg [⟨.v 6, none, .op (.bin .lss .i64 (.v 5) (.v 4))⟩]) (
.seq (
.ite (.v 6) (
.skip) (
.exit 0)) (
.seq (
.block 1 (
.seq (
.reg [⟨.l, none, .op (.mov (.v 5))⟩,
⟨.v 3, none, .op (.mov (.l 0))⟩]) (
.seq (
.reg [⟨.l, none, .op (.mov (.v 1))⟩,
⟨.l, none, .op (.mov (.v 0))⟩,
⟨.l, none, .op (.mov (.v 3))⟩,
⟨.l, none, .op (.ixa 1 (.l 1) (.l 0))⟩,
⟨.l, none, .op (.ld false 1 (.l 0))⟩,
⟨.v 7, none, .callv (.l 4) [(.l 0)]⟩]) (
.ite (.v 7) (
.seq (
.reg [⟨.l, none, .op (.mov (.v 3))⟩,
⟨.v 2, none, .op (.mov (.l 0))⟩]) (
.ret)) (
.skip))))) (
.reg [⟨.l, none, .op (.bin .add .i64 (.v 5) (.c (.int .i64 1)))⟩,
⟨.v 5, none, .op (.mov (.l 0))⟩]))))))) (
.seq (
.reg [⟨.v 2, none, .op (.mov (.c (.int .i64 (-1))))⟩]) (
.ret)))⟩
/- 77 (ptr cayley/linear.echelon).insert part 1 -/
def c_linear_echelon_insert_1 : Ay.Fn := ⟨1, [some 0, none], [.v 1],
.seq (
.reg [⟨.v 1, none, .op (.mov (.c (.bool false)))⟩]) (
.seq (
.reg [⟨.l, none, .op (.mov (.v 0))⟩,
⟨.l, none, .op (.bin .gtr .i64 (.l 0) (.c (.int .i64 0)))⟩,
⟨.v 1, none, .op (.mov (.l 0))⟩]) (
.ret))⟩
/- 78 cayley/prime.Inv -/
abbrev n_prime_Inv : Nat := 78
def c_prime_Inv : Ay.Fn := ⟨2, [some 0, some 1, none, none, none, none], [.v 2, .v 3],
.seq (
.reg [⟨.v 2, none, .op (.mov (.c (.int .i64 0)))⟩,
⟨.v 3, none, .op (.mov (.c (.int .i64 0)))⟩]) (
.seq (
.reg [⟨.l, none, .op (.mov (.v 0))⟩,
⟨.l, none, .op (.mov (.v 1))⟩,
⟨.l, none, .call 95 [(.l 1), (.l 0)]⟩,
⟨.l, none, .op (.mov (.l 0))⟩,
⟨.l, none, .op (.ext (.l 0) 0)⟩,
⟨.l, none, .op (.ext (.l 1) 1)⟩,
⟨.v 0, none, .op (.mov (.l 1))⟩,
⟨.v 4, none, .op (.mov (.l 0))⟩]) (
.seq (
.seq (
.reg [⟨.l, none, .op (.mov (.v 4))⟩,
⟨.v 5, none, .op (.bin .neq .i64 (.l 0) (.c (.int .i64 0)))⟩]) (
.ite (.v 5) (
.seq (
.reg [⟨.l, none, .op (.mov (.v 4))⟩,
⟨.v 2, none, .op (.mov (.c (.int .i64 0)))⟩,
⟨.v 3, none, .op (.mov (.l 0))⟩]) (
.ret)) (
.skip))) (
.seq (
.reg [⟨.l, none, .op (.mov (.v 0))⟩,
⟨.l, none, .op (.mov (.v 1))⟩,
⟨.l, none, .op (.bin .sub .i64 (.l 0) (.c (.int .i64 2)))⟩,
⟨.l, none, .op (.mov (.v 1))⟩,
⟨.l, none, .call 96 [(.l 3), (.l 1), (.l 0)]⟩,
⟨.v 2, none, .op (.mov (.l 0))⟩,
⟨.v 3, none, .op (.mov (.c (.int .i64 0)))⟩]) (
.ret))))⟩
/- 79 cayley/matrix.field -/
abbrev n_matrix_field : Nat := 79
def c_matrix_field : Ay.Fn := ⟨1, [some 0, none], [.v 1],
.seq (
.reg [⟨.v 1, none, .op (.mov (.c (.bool false)))⟩]) (
.seq (
.reg [⟨.l, none, .op (.mov (.v 0))⟩,
⟨.l, none, .op (.bin .lss .i64 (.l 0) (.c (.int .i64 10000)))⟩,
⟨.l, none, .op (.mov (.l 0))⟩,
⟨.l, some ((.l 0), true), .op (.mov (.v 0))⟩,
⟨.l, some ((.l 1), true), .call 72 [(.l 0)]⟩,
⟨.l, none, .op (.pick (.l 2) (.l 0) (.c (.bool false)))⟩,
⟨.v 1, none, .op (.mov (.l 0))⟩]) (
.ret))⟩
/- 80 slices.Min[[]int,int] -/
abbrev n_slices_Min_int_int : Nat := 80
def c_slices_Min_int_int : Ay.Fn := ⟨1, [some 0, none, none, none, none, none], [.v 1],
.seq (
.reg [⟨.v 1, none, .op (.mov (.c (.int .i64 0)))⟩]) (
.seq (
.seq (
.reg [⟨.l, none, .op (.mov (.v 0))⟩,
⟨.l, none, .op (.lens (.l 0))⟩,
⟨.v 4, none, .op (.bin .lss .i64 (.l 0) (.c (.int .i64 1)))⟩]) (
.ite (.v 4) (
.reg [⟨.l, none, .op (.fail)⟩,
⟨.n, none, .op (.fail)⟩]) (
.skip))) (
.seq (
.reg [⟨.l, none, .op (.mov (.v 0))⟩,
⟨.l, none, .op (.ixa 1 (.l 0) (.c (.int .i64 0)))⟩,
⟨.l, none, .op (.ld false 1 (.l 0))⟩,
⟨.v 2, none, .op (.mov (.l 0))⟩]) (
.seq (
.seq (
.reg [⟨.v 3, none, .op (.mov (.c (.int .i64 1)))⟩]) (
.block 0 (
.loop (
.seq (
.seq (
.reg [⟨.l, none, .op (.mov (.v 3))⟩,
⟨.l, none, .op (.mov (.v 0))⟩,
⟨.l, none, .op (.lens (.l 0))⟩,
⟨.v 5, none, .op (.bin .lss .i64 (.l 2) (.l 0))⟩]) (
.ite (.v 5) (
.skip) (
.exit 0))) (
.seq (
.block 1 (
.reg [⟨.l, none, .op (.mov (.v 2))⟩,
⟨.l, none, .op (.mov (.v 0))⟩,
⟨.l, none, .op (.mov (.v 3))⟩,
⟨.l, none, .op (.ixa 1 (.l 1) (.l 0))⟩,
⟨.l, none, .op (.ld false 1 (.l 0))⟩,
⟨.l, none, .op (.mm false [(.l 4), (.l 0)])⟩,
⟨.v 2, none, .op (.mov (.l 0))⟩])) (
.reg [⟨.l, none, .op (.mov (.v 3))⟩,
⟨.l, none, .op (.bin .add .i64 (.l 0) (.c (.int .i64 1)))⟩,
⟨.v 3, none, .op (.mov (.l 0))⟩])))))) (
.seq (
.reg [⟨.l, none, .op (.mov (.v 2))⟩,
⟨.v 1, none, .op (.mov (.l 0))⟩]) (
.ret)))))⟩
/- 81 (cayley/linear.field).residues -/
abbrev n_linear_field_residues : Nat := 81
def c_linear_field_residues : Ay.Fn := ⟨2, [some 0, some 1, none, none, none, none, none, none, none, none, none], [.v 3],
.seq (
.reg [⟨.v 2, none, .op (.box (.v 0))⟩,
⟨.v 3, none, .op (.mov (.c .nils))⟩]) (
.seq (
.reg [⟨.l, none, .op (.mov (.v 1))⟩,
⟨.l, none, .op (.lens (.l 0))⟩,
⟨.l, none, .op (.mks 1 8 [(.int .i64 0)] (.l 0) (.l 0))⟩,
⟨.v 4, none, .op (.mov (.l 0))⟩]) (
.seq (
.seq (
.reg [⟨.v 7, none, .op (.mov (.v 1))⟩,
⟨.v 8, none, .op (.lens (.v 7))⟩,
⟨.v 9, none, .op (.mov (.c (.int .i64 0)))⟩]) (
.block 0 (
.loop (
.seq (
.reg [⟨.v 10, none, .op (.bin .lss .i64 (.v 9) (.v 8))⟩]) (
.seq (
.ite (.v 10) (
.skip) (
.exit 0)) (
.seq (
.block 1 (
.seq (
.reg [⟨.l, none, .op (.mov (.v 9))⟩,
⟨.l, none, .op (.ixa 1 (.v 7) (.v 9))⟩,
⟨.l, none, .op (.ld false 1 (.l 0))⟩,
⟨.v 5, none, .op (.mov (.l 2))⟩,
⟨.v 6, none, .op (.mov (.l 0))⟩]) (
.any 14 13 [⟨0, ⟨.v 11, none, .op (.mov (.v 4))⟩, false, []⟩,
⟨1, ⟨.v 12, none, .op (.mov (.v 5))⟩, false, []⟩,
⟨2, ⟨.v 13, none, .op (.mov (.v 6))⟩, false, []⟩,
⟨3, ⟨.v 14, none, .op (.fla 0 (.v 2))⟩, false, []⟩,
⟨4, ⟨.v 15, none, .op (.ld false 1 (.v 14))⟩, false, []⟩,
⟨5, ⟨.v 16, none, .op (.bin .rem .i64 (.v 13) (.v 15))⟩, false, []⟩,
⟨6, ⟨.v 17, none, .op (.fla 0 (.v 2))⟩, false, []⟩,
⟨7, ⟨.v 18, none, .op (.ld false 1 (.v 17))⟩, false, []⟩,
⟨8, ⟨.v 19, none, .op (.bin .add .i64 (.v 16) (.v 18))⟩, false, []⟩,
⟨9, ⟨.v 20, none, .op (.fla 0 (.v 2))⟩, false, []⟩,
⟨10, ⟨.v 21, none, .op (.ld false 1 (.v 20))⟩, false, []⟩,
⟨11, ⟨.v 22, none, .op (.bin .rem .i64 (.v 19) (.v 21))⟩, false, []⟩,
⟨12, ⟨.v 23, none, .op (.ixa 1 (.v 11) (.v 12))⟩, false, []⟩,
⟨13, ⟨.n, none, .op (.st 1 (.v 23) (.v 22))⟩, false, []⟩]))) (
.reg [⟨.l, none, .op (.bin .add .i64 (.v 9) (.c (.int .i64 1)))⟩,
⟨.v 9, none, .op (.mov (.l 0))⟩]))))))) (
.seq (
.reg [⟨.l, none, .op (.mov (.v 4))⟩,
⟨.v 3, none, .op (.mov (.l 0))⟩]) (
.ret))))⟩
/- 83 cayley/cayleyref04.Field -/
abbrev n_ref04_Field : Nat := 83
def c_ref04_Field : Ay.Fn := ⟨1, [some 0, none], [.v 1],
.seq (
.reg [⟨.v 1, none, .op (.mov (.c (.bool false)))⟩]) (
.seq (
.reg [⟨.l, none, .op (.mov (.v 0))⟩,
⟨.l, none, .op (.bin .lss .i64 (.l 0) (.c (.int .i64 10000)))⟩,
⟨.l, none, .op (.mov (.l 0))⟩,
⟨.l, some ((.l 0), true), .op (.mov (.v 0))⟩,
⟨.l, some ((.l 1), true), .call 97 [(.l 0)]⟩,
⟨.l, none, .op (.pick (.l 2) (.l 0) (.c (.bool false)))⟩,
⟨.v 1, none, .op (.mov (.l 0))⟩]) (
.ret))⟩
/- 86 cayley/matrix.square -/
abbrev n_matrix_square : Nat := 86
def c_matrix_square : Ay.Fn := ⟨1, [some 0, none, none, none, none], [.v 2],
.seq (
.reg [⟨.v 1, none, .op (.box (.v 0))⟩,
⟨.v 2, none, .op (.mov (.c (.int .i64 0)))⟩]) (
.seq (
.reg [⟨.l, none, .op (.ld true 2 (.v 1))⟩,
⟨.l, none, .call 51 [(.l 0)]⟩,
⟨.v 3, none, .op (.mov (.l 0))⟩]) (
.seq (
.seq (
.any 13 12 [⟨0, ⟨.v 5, none, .op (.mov (.v 3))⟩, false, []⟩,
⟨1, ⟨.v 6, none, .op (.bin .eql .i64 (.v 5) (.c (.int .i64 0)))⟩, false, []⟩,
⟨2, ⟨.v 7, none, .op (.mov (.v 6))⟩, false, []⟩,
⟨3, ⟨.v 8, some ((.v 7), true), .op (.fla 1 (.v 1))⟩, false, []⟩,
⟨4, ⟨.v 9, some ((.v 7), true), .op (.ld false 1 (.v 8))⟩, false, []⟩,
⟨5, ⟨.v 10, some ((.v 7), true), .op (.lens (.v 9))⟩, false, []⟩,
⟨6, ⟨.v 11, some ((.v 7), true), .op (.fla 1 (.v 1))⟩, false, []⟩,
⟨7, ⟨.v 12, some ((.v 7), true), .op (.ld false 1 (.v 11))⟩, false, []⟩,
⟨8, ⟨.v 13, some ((.v 7), true), .op (.ixa 1 (.v 12) (.c (.int .i64 0)))⟩, false, []⟩,
⟨9, ⟨.v 14, some ((.v 7), true), .op (.ld false 1 (.v 13))⟩, false, []⟩,
⟨10, ⟨.v 15, some ((.v 7), true), .op (.lens (.v 14))⟩, false, []⟩,
⟨11, ⟨.v 16, some ((.v 7), true), .op (.bin .neq .i64 (.v 10) (.v 15))⟩, false, []⟩,
⟨12, ⟨.v 4, none, .op (.pick (.v 7) (.v 16) (.c (.bool false)))⟩, false, []⟩]) (
.ite (.v 4) (
.seq (
.reg [⟨.v 2, none, .op (.mov (.c (.int .i64 10)))⟩]) (
.ret)) (
.skip))) (
.seq (
.reg [⟨.l, none, .op (.mov (.v 3))⟩,
⟨.v 2, none, .op (.mov (.l 0))⟩]) (
.ret))))⟩
/- 87 cayley/matrix.bent -/
abbrev n_matrix_bent : Nat := 87
def c_matrix_bent : Ay.Fn := ⟨1, [some 0, none, none, none, none, none, none, none, none, none, none, none, none, none, none, none, none, none, none, none, none, none, none, none, none, none, none, none, none, none, none, none, none], [.v 2],
.seq (
.reg [⟨.v 1, none, .op (.box (.v 0))⟩,
⟨.v 2, none, .op (.mov (.c .nils))⟩]) (
.seq (
.any 7 5 [⟨0, ⟨.v 33, none, .op (.fla 0 (.v 1))⟩, false, []⟩,
⟨1, ⟨.v 34, none, .op (.ld false 1 (.v 33))⟩, false, []⟩,
⟨2, ⟨.v 35, none, .op (.fla 1 (.v 1))⟩, false, []⟩,
⟨3, ⟨.v 36, none, .op (.ld false 1 (.v 35))⟩, false, []⟩,
⟨4, ⟨.v 37, none, .op (.lens (.v 36))⟩, false, []⟩,
⟨5, ⟨.v 3, none, .op (.mov (.v 34))⟩, false, []⟩,
⟨6, ⟨.v 4, none, .op (.mov (.v 37))⟩, false, []⟩]) (
.seq (
.reg [⟨.l, none, .op (.mov (.v 4))⟩,
⟨.l, none, .op (.mks 1 24 [.nils] (.l 0) (.l 0))⟩,
⟨.v 5, none, .op (.mov (.l 0))⟩]) (
.seq (
.seq (
.reg [⟨.l, none, .op (.fla 1 (.v 1))⟩,
⟨.v 15, none, .op (.ld false 1 (.l 0))⟩,
⟨.v 16, none, .op (.lens (.v 15))⟩,
⟨.v 17, none, .op (.mov (.c (.int .i64 0)))⟩]) (
.block 0 (
.loop (
.seq (
.reg [⟨.v 18, none, .op (.bin .lss .i64 (.v 17) (.v 16))⟩]) (
.seq (
.ite (.v 18) (
.skip) (
.exit 0)) (
.seq (
.block 1 (
.seq (
.reg [⟨.l, none, .op (.mov (.v 17))⟩,
⟨.l, none, .op (.ixa 1 (.v 15) (.v 17))⟩,
⟨.l, none, .op (.ld false 1 (.l 0))⟩,
⟨.v 6, none, .op (.mov (.l 2))⟩,
⟨.v 7, none, .op (.mov (.l 0))⟩]) (
.reg [⟨.l, none, .op (.mov (.v 5))⟩,
⟨.l, none, .op (.mov (.v 6))⟩,
⟨.l, none, .op (.mov (.v 7))⟩,
⟨.l, none, .call 66 [(.l 0)]⟩,
⟨.l, none, .op (.ixa 1 (.l 3) (.l 2))⟩,
⟨.n, none, .op (.st 1 (.l 0) (.l 1))⟩]))) (
.reg [⟨.l, none, .op (.bin .add .i64 (.v 17) (.c (.int .i64 1)))⟩,
⟨.v 17, none, .op (.mov (.l 0))⟩]))))))) (
.seq (
.seq (
.reg [⟨.v 19, none, .op (.mov (.v 4))⟩,
⟨.v 20, none, .op (.mov (.c (.int .i64 0)))⟩]) (
.block 2 (
.loop (
.seq (
.reg [⟨.v 21, none, .op (.bin .lss .i64 (.v 20) (.v 19))⟩]) (
.seq (
.ite (.v 21) (
.skip) (
.exit 2)) (
.seq (
.block 3 (
.seq (
.reg [⟨.l, none, .op (.mov (.v 20))⟩,
⟨.v 8, none, .op (.mov (.l 0))⟩]) (
.seq (
.reg [⟨.l, none, .op (.mov (.v 8))⟩,
⟨.l, none, .op (.bin .add .i64 (.l 0) (.c (.int .i64 1)))⟩,
⟨.v 9, none, .op (.mov (.l 0))⟩]) (
.seq (
.block 4 (
.loop (
.seq (
.seq (
.reg [⟨.l, none, .op (.mov (.v 9))⟩,
⟨.l, none, .op (.mov (.v 4))⟩,
⟨.l, none, .op (.bin .lss .i64 (.l 1) (.l 0))⟩,
⟨.l, none, .op (.mov (.l 0))⟩,
⟨.l, some ((.l 0), true), .op (.mov (.v 5))⟩,
⟨.l, some ((.l 1), true), .op (.mov (.v 9))⟩,
⟨.l, some ((.l 2), true), .op (.ixa 1 (.l 1) (.l 0))⟩,
⟨.l, some ((.l 3), true), .op (.ld false 1 (.l 0))⟩,
⟨.l, some ((.l 4), true), .op (.mov (.v 8))⟩,
⟨.l, some ((.l 5), true), .op (.ixa 1 (.l 1) (.l 0))⟩,
⟨.l, some ((.l 6), true), .op (.ld false 1 (.l 0))⟩,
⟨.l, some ((.l 7), true), .op (.bin .eql .i64 (.l 0) (.c (.int .i64 0)))⟩,
⟨.v 22, none, .op (.pick (.l 8) (.l 0) (.c (.bool false)))⟩]) (
.ite (.v 22) (
.skip) (
.exit 4))) (
.block 5 (
.reg [⟨.l, none, .op (.mov (.v 9))⟩,
⟨.l, none, .op (.bin .add .i64 (.l 0) (.c (.int .i64 1)))⟩,
⟨.v 9, none, .op (.mov (.l 0))⟩]))))) (
.seq (
.seq (
.reg [⟨.l, none, .op (.mov (.v 9))⟩,
⟨.l, none, .op (.mov (.v 4))⟩,
⟨.v 23, none, .op (.bin .geq .i64 (.l 1) (.l 0))⟩]) (
.ite (.v 23) (
.exit 3) (
.skip))) (
.seq (
.any 18 16 [⟨0, ⟨.v 33, none, .op (.mov (.v 5))⟩, false, []⟩,
⟨1, ⟨.v 34, none, .op (.mov (.v 9))⟩, false, []⟩,
⟨2, ⟨.v 35, none, .op (.mov (.v 5))⟩, false, []⟩,
⟨3, ⟨.v 36, none, .op (.mov (.v 8))⟩, false, []⟩,
⟨4, ⟨.v 37, none, .op (.bin .add .i64 (.v 36) (.c (.int .i64 1)))⟩, false, []⟩,
⟨5, ⟨.v 38, none, .op (.mov (.v 5))⟩, false, []⟩,
⟨6, ⟨.v 39, none, .op (.mov (.v 8))⟩, false, []⟩,
⟨7, ⟨.v 40, none, .op (.bin .add .i64 (.v 39) (.c (.int .i64 1)))⟩, false, []⟩,
⟨8, ⟨.v 41, none, .op (.ixa 1 (.v 38) (.v 40))⟩, false, []⟩,
⟨9, ⟨.v 42, none, .op (.ld false 1 (.v 41))⟩, false, []⟩,
⟨10, ⟨.v 43, none, .op (.mov (.v 5))⟩, false, []⟩,
⟨11, ⟨.v 44, none, .op (.mov (.v 9))⟩, false, []⟩,
⟨12, ⟨.v 45, none, .op (.ixa 1 (.v 43) (.v 44))⟩, false, []⟩,
⟨13, ⟨.v 46, none, .op (.ld false 1 (.v 45))⟩, false, []⟩,
⟨14, ⟨.v 47, none, .op (.ixa 1 (.v 33) (.v 34))⟩, false, []⟩,
⟨15, ⟨.n, none, .op (.st 1 (.v 47) (.v 42))⟩, false, []⟩,
⟨16, ⟨.v 48, none, .op (.ixa 1 (.v 35) (.v 37))⟩, false, []⟩,
⟨17, ⟨.n, none, .op (.st 1 (.v 48) (.v 46))⟩, false, []⟩]) (
.seq (
.seq (
.reg [⟨.v 24, none, .op (.mov (.v 5))⟩,
⟨.v 25, none, .op (.lens (.v 24))⟩,
⟨.v 26, none, .op (.mov (.c (.int .i64 0)))⟩]) (
.block 6 (
.loop (
.seq (
.reg [⟨.v 27, none, .op (.bin .lss .i64 (.v 26) (.v 25))⟩]) (
.seq (
.ite (.v 27) (
.skip) (
.exit 6)) (
.seq (
.block 7 (
.seq (
.reg [⟨.l, none, .op (.ixa 1 (.v 24) (.v 26))⟩,
⟨.l, none, .op (.ld false 1 (.l 0))⟩,
⟨.v 10, none, .op (.mov (.l 0))⟩]) (
.any 18 16 [⟨0, ⟨.v 33, none, .op (.mov (.v 10))⟩, false, []⟩,
⟨1, ⟨.v 34, none, .op (.mov (.v 9))⟩, false, []⟩,
⟨2, ⟨.v 35, none, .op (.mov (.v 10))⟩, false, []⟩,
⟨3, ⟨.v 36, none, .op (.mov (.v 8))⟩, false, []⟩,
⟨4, ⟨.v 37, none, .op (.bin .add .i64 (.v 36) (.c (.int .i64 1)))⟩, false, []⟩,
⟨5, ⟨.v 38, none, .op (.mov (.v 10))⟩, false, []⟩,
⟨6, ⟨.v 39, none, .op (.mov (.v 8))⟩, false, []⟩,
⟨7, ⟨.v 40, none, .op (.bin .add .i64 (.v 39) (.c (.int .i64 1)))⟩, false, []⟩,
⟨8, ⟨.v 41, none, .op (.ixa 1 (.v 38) (.v 40))⟩, false, []⟩,
⟨9, ⟨.v 42, none, .op (.ld false 1 (.v 41))⟩, false, []⟩,
⟨10, ⟨.v 43, none, .op (.mov (.v 10))⟩, false, []⟩,
⟨11, ⟨.v 44, none, .op (.mov (.v 9))⟩, false, []⟩,
⟨12, ⟨.v 45, none, .op (.ixa 1 (.v 43) (.v 44))⟩, false, []⟩,
⟨13, ⟨.v 46, none, .op (.ld false 1 (.v 45))⟩, false, []⟩,
⟨14, ⟨.v 47, none, .op (.ixa 1 (.v 33) (.v 34))⟩, false, []⟩,
⟨15, ⟨.n, none, .op (.st 1 (.v 47) (.v 42))⟩, false, []⟩,
⟨16, ⟨.v 48, none, .op (.ixa 1 (.v 35) (.v 37))⟩, false, []⟩,
⟨17, ⟨.n, none, .op (.st 1 (.v 48) (.v 46))⟩, false, []⟩]))) (
.reg [⟨.l, none, .op (.bin .add .i64 (.v 26) (.c (.int .i64 1)))⟩,
⟨.v 26, none, .op (.mov (.l 0))⟩]))))))) (
.seq (
.reg [⟨.l, none, .op (.mov (.v 5))⟩,
⟨.l, none, .op (.mov (.v 8))⟩,
⟨.l, none, .op (.bin .add .i64 (.l 0) (.c (.int .i64 1)))⟩,
⟨.l, none, .op (.ixa 1 (.l 2) (.l 0))⟩,
⟨.l, none, .op (.ld false 1 (.l 0))⟩,
⟨.l, none, .op (.mov (.v 8))⟩,
⟨.l, none, .op (.ixa 1 (.l 1) (.l 0))⟩,
⟨.l, none, .op (.ld false 1 (.l 0))⟩,
⟨.l, none, .op (.mov (.v 3))⟩,
⟨.l, none, .call 78 [(.l 1), (.l 0)]⟩,
⟨.l, none, .op (.mov (.l 0))⟩,
⟨.l, none, .op (.ext (.l 0) 0)⟩,
⟨.l, none, .op (.ext (.l 1) 1)⟩,
⟨.v 11, none, .op (.mov (.l 1))⟩,
⟨.l, none, .op (.mov (.l 0))⟩]) (
.seq (
.reg [⟨.l, none, .op (.mov (.v 8))⟩,
⟨.l, none, .op (.bin .add .i64 (.l 0) (.c (.int .i64 2)))⟩,
⟨.v 12, none, .op (.mov (.l 0))⟩]) (
.block 8 (
.loop (
.seq (
.seq (
.reg [⟨.l, none, .op (.mov (.v 12))⟩,
⟨.l, none, .op (.mov (.v 4))⟩,
⟨.v 28, none, .op (.bin .lss .i64 (.l 1) (.l 0))⟩]) (
.ite (.v 28) (
.skip) (
.exit 8))) (
.seq (
.block 9 (
.seq (
.reg [⟨.l, none, .op (.mov (.v 5))⟩,
⟨.l, none, .op (.mov (.v 12))⟩,
⟨.l, none, .op (.ixa 1 (.l 1) (.l 0))⟩,
⟨.l, none, .op (.ld false 1 (.l 0))⟩,
⟨.l, none, .op (.mov (.v 8))⟩,
⟨.l, none, .op (.ixa 1 (.l 1) (.l 0))⟩,
⟨.l, none, .op (.ld false 1 (.l 0))⟩,
⟨.l, none, .op (.mov (.v 11))⟩,
⟨.l, none, .op (.bin .mul .i64 (.l 1) (.l 0))⟩,
⟨.l, none, .op (.mov (.v 3))⟩,
⟨.l, none, .op (.bin .rem .i64 (.l 1) (.l 0))⟩,
⟨.v 13, none, .op (.mov (.l 0))⟩]) (
.seq (
.any 19 18 [⟨0, ⟨.v 33, none, .op (.mov (.v 5))⟩, false, []⟩,
⟨1, ⟨.v 34, none, .op (.mov (.v 12))⟩, false, []⟩,
⟨2, ⟨.v 35, none, .op (.mov (.v 5))⟩, false, []⟩,
⟨3, ⟨.v 36, none, .op (.mov (.v 12))⟩, false, []⟩,
⟨4, ⟨.v 37, none, .op (.ixa 1 (.v 35) (.v 36))⟩, false, []⟩,
⟨5, ⟨.v 38, none, .op (.ld false 1 (.v 37))⟩, false, []⟩,
⟨6, ⟨.v 39, none, .op (.mov (.v 5))⟩, false, []⟩,
⟨7, ⟨.v 40, none, .op (.mov (.v 8))⟩, false, []⟩,
⟨8, ⟨.v 41, none, .op (.bin .add .i64 (.v 40) (.c (.int .i64 1)))⟩, false, []⟩,
⟨9, ⟨.v 42, none, .op (.ixa 1 (.v 39) (.v 41))⟩, false, []⟩,
⟨10, ⟨.v 43, none, .op (.ld false 1 (.v 42))⟩, false, []⟩,
⟨11, ⟨.v 44, none, .op (.mov (.v 3))⟩, false, []⟩,
⟨12, ⟨.v 45, none, .op (.mov (.v 3))⟩, false, []⟩,
⟨13, ⟨.v 46, none, .op (.mov (.v 13))⟩, false, []⟩,
⟨14, ⟨.v 47, none, .op (.bin .sub .i64 (.v 45) (.v 46))⟩, false, []⟩,
⟨15, ⟨.v 48, none, .call 99 [(.v 44), (.v 47)]⟩, false, [10, 5]⟩,
⟨16, ⟨.v 49, none, .call 98 [(.v 38), (.v 43), (.v 48)]⟩, false, []⟩,
⟨17, ⟨.v 50, none, .op (.ixa 1 (.v 33) (.v 34))⟩, false, []⟩,
⟨18, ⟨.n, none, .op (.st 1 (.v 50) (.v 49))⟩, false, []⟩]) (
.seq (
.reg [⟨.v 29, none, .op (.mov (.v 5))⟩,
⟨.v 30, none, .op (.lens (.v 29))⟩,
⟨.v 31, none, .op (.mov (.c (.int .i64 0)))⟩]) (
.block 10 (
.loop (
.seq (
.reg [⟨.v 32, none, .op (.bin .lss .i64 (.v 31) (.v 30))⟩]) (
.seq (
.ite (.v 32) (
.skip) (
.exit 10)) (
.seq (
.block 11 (
.seq (
.reg [⟨.l, none, .op (.ixa 1 (.v 29) (.v 31))⟩,
⟨.l, none, .op (.ld false 1 (.l 0))⟩,
⟨.v 14, none, .op (.mov (.l 0))⟩]) (
.any 19 18 [⟨0, ⟨.v 33, none, .op (.mov (.v 14))⟩, false, []⟩,
⟨1, ⟨.v 34, none, .op (.mov (.v 8))⟩, false, []⟩,
⟨2, ⟨.v 35, none, .op (.bin .add .i64 (.v 34) (.c (.int .i64 1)))⟩, false, []⟩,
⟨3, ⟨.v 36, none, .op (.mov (.v 14))⟩, false, []⟩,
⟨4, ⟨.v 37, none, .op (.mov (.v 8))⟩, false, []⟩,
⟨5, ⟨.v 38, none, .op (.bin .add .i64 (.v 37) (.c (.int .i64 1)))⟩, false, []⟩,
⟨6, ⟨.v 39, none, .op (.ixa 1 (.v 36) (.v 38))⟩, false, []⟩,
⟨7, ⟨.v 40, none, .op (.ld false 1 (.v 39))⟩, false, []⟩,
⟨8, ⟨.v 41, none, .op (.mov (.v 13))⟩, false, []⟩,
⟨9, ⟨.v 42, none, .op (.mov (.v 14))⟩, false, []⟩,
⟨10, ⟨.v 43, none, .op (.mov (.v 12))⟩, false, []⟩,
⟨11, ⟨.v 44, none, .op (.ixa 1 (.v 42) (.v 43))⟩, false, []⟩,
⟨12, ⟨.v 45, none, .op (.ld false 1 (.v 44))⟩, false, []⟩,
⟨13, ⟨.v 46, none, .op (.bin .mul .i64 (.v 41) (.v 45))⟩, false, []⟩,
⟨14, ⟨.v 47, none, .op (.bin .add .i64 (.v 40) (.v 46))⟩, false, []⟩,
⟨15, ⟨.v 48, none, .op (.mov (.v 3))⟩, false, []⟩,
⟨16, ⟨.v 49, none, .op (.bin .rem .i64 (.v 47) (.v 48))⟩, false, []⟩,
⟨17, ⟨.v 50, none, .op (.ixa 1 (.v 33) (.v 35))⟩, false, []⟩,
⟨18, ⟨.n, none, .op (.st 1 (.v 50) (.v 49))⟩, false, []⟩]))) (
.reg [⟨.l, none, .op (.bin .add .i64 (.v 31) (.c (.int .i64 1)))⟩,
⟨.v 31, none, .op (.mov (.l 0))⟩])))))))))) (
.reg [⟨.l, none, .op (.mov (.v 12))⟩,
⟨.l, none, .op (.bin .add .i64 (.l 0) (.c (.int .i64 1)))⟩,
⟨.v 12, none, .op (.mov (.l 0))⟩])))))))))))))) (
.reg [⟨.l, none, .op (.bin .add .i64 (.v 20) (.c (.int .i64 1)))⟩,
⟨.v 20, none, .op (.mov (.l 0))⟩]))))))) (
.seq (
.reg [⟨.l, none, .op (.mov (.v 5))⟩,
⟨.v 2, none, .op (.mov (.l 0))⟩]) (
.ret))))))⟩
/- 88 slices.Backward[[]int,int] part 1 -/
abbrev n_slices_Backward_int_int_1 : Nat := 88
def c_slices_Backward_int_int_1 : Ay.Fn := ⟨2, [some 0, some 1, none, none, none], [],
.seq (
.reg [⟨.l, none, .op (.ld false 1 (.v 1))⟩,
⟨.l, none, .op (.lens (.l 0))⟩,
⟨.l, none, .op (.bin .sub .i64 (.l 0) (.c (.int .i64 1)))⟩,
⟨.v 2, none, .op (.mov (.l 0))⟩]) (
.block 0 (
.loop (
.seq (
.seq (
.reg [⟨.l, none, .op (.mov (.v 2))⟩,
⟨.v 3, none, .op (.bin .geq .i64 (.l 0) (.c (.int .i64 0)))⟩]) (
.ite (.v 3) (
.skip) (
.exit 0))) (
.seq (
.block 1 (
.seq (
.reg [⟨.l, none, .op (.mov (.v 0))⟩,
⟨.l, none, .op (.mov (.v 2))⟩,
⟨.l, none, .op (.ld false 1 (.v 1))⟩,
⟨.l, none, .op (.mov (.v 2))⟩,
⟨.l, none, .op (.ixa 1 (.l 1) (.l 0))⟩,
⟨.l, none, .op (.ld false 1 (.l 0))⟩,
⟨.l, none, .callv (.l 5) [(.l 4), (.l 0)]⟩,
⟨.v 4, none, .op (.not (.l 0))⟩]) (
.ite (.v 4) (
.ret) (
.skip)))) (
.reg [⟨.l, none, .op (.mov (.v 2))⟩,
⟨.l, none, .op (.bin .sub .i64 (.l 0) (.c (.int .i64 1)))⟩,
⟨.v 2, none, .op (.mov (.l 0))⟩])))))⟩
/- 92 cayley/prime.divides -/
abbrev n_prime_divides : Nat := 92
def c_prime_divides : Ay.Fn := ⟨1, [some 0, none, none, none, none], [.v 1],
.seq (
.reg [⟨.v 1, none, .op (.mov (.c (.int .i64 0)))⟩]) (
.seq (
.seq (
.reg [⟨.v 2, none, .op (.mov (.c (.int .i64 2)))⟩]) (
.block 0 (
.loop (
.seq (
.seq (
.reg [⟨.l, none, .op (.mov (.v 2))⟩,
⟨.l, none, .op (.mov (.v 2))⟩,
⟨.l, none, .op (.bin .mul .i64 (.l 1) (.l 0))⟩,
⟨.l, none, .op (.mov (.v 0))⟩,
⟨.v 3, none, .op (.bin .leq .i64 (.l 1) (.l 0))⟩]) (
.ite (.v 3) (
.skip) (
.exit 0))) (
.seq (
.block 1 (
.seq (
.reg [⟨.l, none, .op (.mov (.v 0))⟩,
⟨.l, none, .op (.mov (.v 2))⟩,
⟨.l, none, .op (.bin .rem .i64 (.l 1) (.l 0))⟩,
⟨.v 4, none, .op (.bin .eql .i64 (.l 0) (.c (.int .i64 0)))⟩]) (
.ite (.v 4) (
.seq (
.reg [⟨.l, none, .op (.mov (.v 2))⟩,
⟨.v 1, none, .op (.mov (.l 0))⟩]) (
.ret)) (
.skip)))) (
.reg [⟨.l, none, .op (.mov (.v 2))⟩,
⟨.l, none, .op (.bin .add .i64 (.l 0) (.c (.int .i64 1)))⟩,
⟨.v 2, none, .op (.mov (.l 0))⟩])))))) (
.seq (
.reg [⟨.l, none, .op (.mov (.v 0))⟩,
⟨.v 1, none, .op (.mov (.l 0))⟩]) (
.ret)))⟩
/- 93 slices.IndexFunc[[][]int,[]int] -/
abbrev n_slices_IndexFunc_int_int_x93 : Nat := 93
def c_slices_IndexFunc_int_int_x93 : Ay.Fn := ⟨2, [some 0, some 1, none, none, none, none, none, none], [.v 2],
.seq (
.reg [⟨.v 2, none, .op (.mov (.c (.int .i64 0)))⟩]) (
.seq (
.seq (
.reg [⟨.l, none, .op (.mov (.v 0))⟩,
⟨.v 4, none, .op (.lens (.l 0))⟩,
⟨.v 5, none, .op (.mov (.c (.int .i64 0)))⟩]) (
.block 0 (
.loop (
.seq (
.reg [⟨.v 6, none, .op (.bin .lss .i64 (.v 5) (.v 4))⟩]) (
.seq (
.ite (.v 6) (
.skip) (
.exit 0)) (
.seq (
.block 1 (
.seq (
.reg [⟨.l, none, .op (.mov (.v 5))⟩,
⟨.v 3, none, .op (.mov (.l 0))⟩]) (
.seq (
.reg [⟨.l, none, .op (.mov (.v 1))⟩,
⟨.l, none, .op (.mov (.v 0))⟩,
⟨.l, none, .op (.mov (.v 3))⟩,
⟨.l, none, .op (.ixa 1 (.l 1) (.l 0))⟩,
⟨.l, none, .op (.ld false 1 (.l 0))⟩,
⟨.v 7, none, .callv (.l 4) [(.l 0)]⟩]) (
.ite (.v 7) (
.seq (
.reg [⟨.l, none, .op (.mov (.v 3))⟩,
⟨.v 2, none, .op (.mov (.l 0))⟩]) (
.ret)) (
.skip))))) (
.reg [⟨.l, none, .op (.bin .add .i64 (.v 5) (.c (.int .i64 1)))⟩,
⟨.v 5, none, .op (.mov (.l 0))⟩]))))))) (
.seq (
.reg [⟨.v 2, none, .op (.mov (.c (.int .i64 (-1))))⟩]) (
.ret)))⟩
/- 94 (ptr cayley/linear.echelon).pivots part 1 -/
abbrev n_linear_echelon_pivots_1 : Nat := 94
def c_linear_echelon_pivots_1 : Ay.Fn := ⟨2, [some 0, some 1, none, none, none, none, none, none, none], [],
.seq (
.reg [⟨.l, none, .op (.ld false 1 (.v 1))⟩,
⟨.l, none, .op (.nck (.l 0))⟩,
⟨.l, none, .op (.fla 1 (.l 0))⟩,
⟨.v 5, none, .op (.ld false 1 (.l 0))⟩,
⟨.v 6, none, .op (.mov (.c (.int .i64 0)))⟩]) (
.block 0 (
.loop (
.seq (
.reg [⟨.v 7, none, .op (.bin .lss .i64 (.v 6) (.v 5))⟩]) (
.seq (
.ite (.v 7) (
.skip) (
.exit 0)) (
.seq (
.block 1 (
.seq (
.reg [⟨.l, none, .op (.mov (.v 6))⟩,
⟨.v 2, none, .op (.mov (.l 0))⟩]) (
.seq (
.reg [⟨.l, none, .op (.ld false 1 (.v 1))⟩,
⟨.l, none, .op (.nck (.l 0))⟩,
⟨.l, none, .op (.fla 2 (.l 0))⟩,
⟨.l, none, .op (.ld false 1 (.l 0))⟩,
⟨.l, none, .op (.mov (.v 2))⟩,
⟨.l, none, .op (.lkp .nils true (.l 1) (.l 0))⟩,
⟨.l, none, .op (.mov (.l 0))⟩,
⟨.l, none, .op (.ext (.l 0) 0)⟩,
⟨.l, none, .op (.ext (.l 1) 1)⟩,
⟨.v 3, none, .op (.mov (.l 1))⟩,
⟨.v 4, none, .op (.mov (.l 0))⟩]) (
.seq (
.reg [⟨.l, none, .op (.mov (.v 4))⟩,
⟨.l, none, .op (.mov (.l 0))⟩,
⟨.l, some ((.l 0), true), .op (.mov (.v 0))⟩,
⟨.l, some ((.l 1), true), .op (.mov (.v 2))⟩,
⟨.l, some ((.l 2), true), .op (.mov (.v 3))⟩,
⟨.l, some ((.l 3), true), .callv (.l 2) [(.l 1), (.l 0)]⟩,
⟨.l, some ((.l 4), true), .op (.not (.l 0))⟩,
⟨.v 8, none, .op (.pick (.l 5) (.l 0) (.c (.bool false)))⟩]) (
.ite (.v 8) (
.ret) (
.skip)))))) (
.reg [⟨.l, none, .op (.bin .add .i64 (.v 6) (.c (.int .i64 1)))⟩,
⟨.v 6, none, .op (.mov (.l 0))⟩]))))))⟩
/- 95 cayley/prime.unit -/
abbrev n_prime_unit : Nat := 95
def c_prime_unit : Ay.Fn := ⟨2, [some 0, some 1, none, none, none, none], [.v 2, .v 3],
.seq (
.reg [⟨.v 2, none, .op (.mov (.c (.int .i64 0)))⟩,
⟨.v 3, none, .op (.mov (.c (.int .i64 0)))⟩]) (
.seq (
.seq (
.reg [⟨.l, none, .op (.mov (.v 1))⟩,
⟨.l, none, .call 72 [(.l 0)]⟩,
⟨.v 4, none, .op (.not (.l 0))⟩]) (
.ite (.v 4) (
.seq (
.reg [⟨.v 2, none, .op (.mov (.c (.int .i64 0)))⟩,
⟨.v 3, none, .op (.mov (.c (.int .i64 3)))⟩]) (
.ret)) (
.skip))) (
.seq (
.reg [⟨.l, none, .op (.mov (.v 0))⟩,
⟨.l, none, .op (.mov (.v 1))⟩,
⟨.l, none, .call 101 [(.l 1), (.l 0)]⟩,
⟨.v 0, none, .op (.mov (.l 0))⟩]) (
.seq (
.seq (
.reg [⟨.l, none, .op (.mov (.v 0))⟩,
⟨.v 5, none, .op (.bin .eql .i64 (.l 0) (.c (.int .i64 0)))⟩]) (
.ite (.v 5) (
.seq (
.reg [⟨.v 2, none, .op (.mov (.c (.int .i64 0)))⟩,
⟨.v 3, none, .op (.mov (.c (.int .i64 6)))⟩]) (
.ret)) (
.skip))) (
.seq (
.reg [⟨.l, none, .op (.mov (.v 0))⟩,
⟨.v 2, none, .op (.mov (.l 0))⟩,
⟨.v 3, none, .op (.mov (.c (.int .i64 0)))⟩]) (
.ret)))))⟩
/- 96 cayley/prime.to -/
abbrev n_prime_to : Nat := 96
def c_prime_to : Ay.Fn := ⟨3, [some 0, some 1, some 2, none], [.v 3],
.seq (
.reg [⟨.v 3, none, .op (.mov (.c (.int .i64 0)))⟩]) (
.seq (
.any 8 7 [⟨0, ⟨.v 4, none, .op (.mov (.v 0))⟩, false, []⟩,
⟨1, ⟨.v 5, none, .op (.mov (.v 2))⟩, false, []⟩,
⟨2, ⟨.v 6, none, .op (.bin .rem .i64 (.c (.int .i64 1)) (.v 5))⟩, false, []⟩,
⟨3, ⟨.v 7, none, .op (.mov (.v 1))⟩, false, []⟩,
⟨4, ⟨.v 8, none, .op (.mov (.v 2))⟩, false, []⟩,
⟨5, ⟨.v 9, none, .call 103 [(.v 8)]⟩, false, []⟩,
⟨6, ⟨.v 10, none, .call 102 [(.v 4), (.v 6), (.v 7), (.v 9)]⟩, false, []⟩,
⟨7, ⟨.v 3, none, .op (.mov (.v 10))⟩, false, []⟩]) (
.ret))⟩
/- 97 cayley/cayleyref03.Is -/
abbrev n_ref03_Is : Nat := 97
def c_ref03_Is : Ay.Fn := ⟨1, [some 0, none, none, none, none, none], [.v 1],
.seq (
.reg [⟨.v 1, none, .op (.mov (.c (.bool false)))⟩]) (
.seq (
.seq (
.reg [⟨.l, none, .op (.mov (.v 0))⟩,
⟨.l, none, .op (.bin .lss .i64 (.l 0) (.c (.int .i64 2)))⟩,
⟨.l, none, .op (.mov (.l 0))⟩,
⟨.l, some ((.l 0), false), .op (.mov (.v 0))⟩,
⟨.l, some ((.l 1), false), .op (.bin .geq .i64 (.l 0) (.c (.int .i64 1000000)))⟩,
⟨.v 3, none, .op (.pick (.l 2) (.c (.bool true)) (.l 0))⟩]) (
.ite (.v 3) (
.seq (
.reg [⟨.v 1, none, .op (.mov (.c (.bool false)))⟩]) (
.ret)) (
.skip))) (
.seq (
.seq (
.reg [⟨.v 2, none, .op (.mov (.c (.int .i64 2)))⟩]) (
.block 0 (
.loop (
.seq (
.seq (
.reg [⟨.l, none, .op (.mov (.v 2))⟩,
⟨.l, none, .op (.mov (.v 2))⟩,
⟨.l, none, .op (.bin .mul .i64 (.l 1) (.l 0))⟩,
⟨.l, none, .op (.mov (.v 0))⟩,
⟨.v 4, none, .op (.bin .leq .i64 (.l 1) (.l 0))⟩]) (
.ite (.v 4) (
.skip) (
.exit 0))) (
.seq (
.block 1 (
.seq (
.reg [⟨.l, none, .op (.mov (.v 0))⟩,
⟨.l, none, .op (.mov (.v 2))⟩,
⟨.l, none, .op (.bin .rem .i64 (.l 1) (.l 0))⟩,
⟨.v 5, none, .op (.bin .eql .i64 (.l 0) (.c (.int .i64 0)))⟩]) (
.ite (.v 5) (
.seq (
.reg [⟨.v 1, none, .op (.mov (.c (.bool false)))⟩]) (
.ret)) (
.skip)))) (
.reg [⟨.l, none, .op (.mov (.v 2))⟩,
⟨.l, none, .op (.bin .add .i64 (.l 0) (.c (.int .i64 1)))⟩,
⟨.v 2, none, .op (.mov (.l 0))⟩])))))) (
.seq (
.reg [⟨.v 1, none, .op (.mov (.c (.bool true)))⟩]) (
.ret))))⟩
/- 98 cayley/matrix.zip[int,int,int] -/
abbrev n_matrix_zip_int_int_int : Nat := 98
def c_matrix_zip_int_int_int : Ay.Fn := ⟨3, [some 0, some 1, some 2, none, none, none, none, none, none, none, none], [.v 3],
.seq (
.reg [⟨.v 3, none, .op (.mov (.c .nils))⟩]) (
.seq (
.reg [⟨.l, none, .op (.mov (.v 0))⟩,
⟨.l, none, .op (.lens (.l 0))⟩,
⟨.l, none, .op (.mks 1 8 [(.int .i64 0)] (.l 0) (.l 0))⟩,
⟨.v 4, none, .op (.mov (.l 0))⟩]) (
.seq (
.seq (
.reg [⟨.v 7, none, .op (.mov (.v 0))⟩,
⟨.v 8, none, .op (.lens (.v 7))⟩,
⟨.v 9, none, .op (.mov (.c (.int .i64 0)))⟩]) (
.block 0 (
.loop (
.seq (
.reg [⟨.v 10, none, .op (.bin .lss .i64 (.v 9) (.v 8))⟩]) (
.seq (
.ite (.v 10) (
.skip) (
.exit 0)) (
.seq (
.block 1 (
.seq (
.reg [⟨.l, none, .op (.mov (.v 9))⟩,
⟨.l, none, .op (.ixa 1 (.v 7) (.v 9))⟩,
⟨.l, none, .op (.ld false 1 (.l 0))⟩,
⟨.v 5, none, .op (.mov (.l 2))⟩,
⟨.v 6, none, .op (.mov (.l 0))⟩]) (
.reg [⟨.l, none, .op (.mov (.v 4))⟩,
⟨.l, none, .op (.mov (.v 5))⟩,
⟨.l, none, .op (.mov (.v 2))⟩,
⟨.l, none, .op (.mov (.v 6))⟩,
⟨.l, none, .op (.mov (.v 1))⟩,
⟨.l, none, .op (.mov (.v 5))⟩,
⟨.l, none, .op (.ixa 1 (.l 1) (.l 0))⟩,
⟨.l, none, .op (.ld false 1 (.l 0))⟩,
⟨.l, none, .callv (.l 5) [(.l 4), (.l 0)]⟩,
⟨.l, none, .op (.ixa 1 (.l 8) (.l 7))⟩,
⟨.n, none, .op (.st 1 (.l 0) (.l 1))⟩]))) (
.reg [⟨.l, none, .op (.bin .add .i64 (.v 9) (.c (.int .i64 1)))⟩,
⟨.v 9, none, .op (.mov (.l 0))⟩]))))))) (
.seq (
.reg [⟨.l, none, .op (.mov (.v 4))⟩,
⟨.v 3, none, .op (.mov (.l 0))⟩]) (
.ret))))⟩
/- 99 cayley/matrix.plus -/
abbrev n_matrix_plus : Nat := 99
def c_matrix_plus : Ay.Fn := ⟨2, [some 0, some 1, none, none, none], [.v 4],
.seq (
.reg [⟨.v 2, none, .op (.box (.v 0))⟩,
⟨.v 3, none, .op (.box (.v 1))⟩,
⟨.v 4, none, .op (.mov (.c .nilf))⟩]) (
.seq (
.reg [⟨.l, none, .op (.mkf 104 [] [(.v 3), (.v 2)])⟩,
⟨.v 4, none, .op (.mov (.l 0))⟩]) (
.ret))⟩
/- 101 cayley/prime.residue -/
abbrev n_prime_residue : Nat := 101
def c_prime_residue : Ay.Fn := ⟨2, [some 0, some 1, none, none], [.v 2],
.seq (
.reg [⟨.v 2, none, .op (.mov (.c (.int .i64 0)))⟩]) (
.seq (
.reg [⟨.l, none, .op (.mov (.v 0))⟩,
⟨.l, none, .op (.mov (.v 1))⟩,
⟨.l, none, .op (.bin .rem .i64 (.l 1) (.l 0))⟩,
⟨.v 0, none, .op (.mov (.l 0))⟩]) (
.seq (
.seq (
.reg [⟨.l, none, .op (.mov (.v 0))⟩,
⟨.v 3, none, .op (.bin .lss .i64 (.l 0) (.c (.int .i64 0)))⟩]) (
.ite (.v 3) (
.reg [⟨.l, none, .op (.mov (.v 0))⟩,
⟨.l, none, .op (.mov (.v 1))⟩,
⟨.l, none, .op (.bin .add .i64 (.l 1) (.l 0))⟩,
⟨.v 0, none, .op (.mov (.l 0))⟩]) (
.skip))) (
.seq (
.reg [⟨.l, none, .op (.mov (.v 0))⟩,
⟨.v 2, none, .op (.mov (.l 0))⟩]) (
.ret))))⟩
/- 102 cayley/prime.power[int] -/
abbrev n_prime_power_int : Nat := 102
def c_prime_power_int : Ay.Fn := ⟨4, [some 0, some 1, some 2, some 3, none, none, none], [.v 4],
.seq (
.reg [⟨.v 4, none, .op (.mov (.c (.int .i64 0)))⟩]) (
.seq (
.block 0 (
.loop (
.seq (
.seq (
.reg [⟨.l, none, .op (.mov (.v 2))⟩,
⟨.v 5, none, .op (.bin .gtr .i64 (.l 0) (.c (.int .i64 0)))⟩]) (
.ite (.v 5) (
.skip) (
.exit 0))) (
.seq (
.block 1 (
.seq (
.seq (
.reg [⟨.l, none, .op (.mov (.v 2))⟩,
⟨.l, none, .op (.bin .rem .i64 (.l 0) (.c (.int .i64 2)))⟩,
⟨.v 6, none, .op (.bin .eql .i64 (.l 0) (.c (.int .i64 1)))⟩]) (
.ite (.v 6) (
.reg [⟨.l, none, .op (.mov (.v 3))⟩,
⟨.l, none, .op (.mov (.v 1))⟩,
⟨.l, none, .op (.mov (.v 0))⟩,
⟨.l, none, .callv (.l 2) [(.l 1), (.l 0)]⟩,
⟨.v 1, none, .op (.mov (.l 0))⟩]) (
.skip))) (
.reg [⟨.l, none, .op (.mov (.v 3))⟩,
⟨.l, none, .op (.mov (.v 0))⟩,
⟨.l, none, .op (.mov (.v 0))⟩,
⟨.l, none, .callv (.l 2) [(.l 1), (.l 0)]⟩,
⟨.v 0, none, .op (.mov (.l 0))⟩]))) (
.reg [⟨.l, none, .op (.mov (.v 2))⟩,
⟨.l, none, .op (.bin .quo .i64 (.l 0) (.c (.int .i64 2)))⟩,
⟨.v 2, none, .op (.mov (.l 0))⟩]))))) (
.seq (
.reg [⟨.l, none, .op (.mov (.v 1))⟩,
⟨.v 4, none, .op (.mov (.l 0))⟩]) (
.ret)))⟩
/- 103 cayley/prime.modulo -/
abbrev n_prime_modulo : Nat := 103
def c_prime_modulo : Ay.Fn := ⟨1, [some 0, none, none], [.v 2],
.seq (
.reg [⟨.v 1, none, .op (.box (.v 0))⟩,
⟨.v 2, none, .op (.mov (.c .nilf))⟩]) (
.seq (
.reg [⟨.l, none, .op (.mkf 105 [] [(.v 1)])⟩,
⟨.v 2, none, .op (.mov (.l 0))⟩]) (
.ret))⟩
/- 104 cayley/matrix.plus part 1 -/
abbrev n_matrix_plus_1 : Nat := 104
def c_matrix_plus_1 : Ay.Fn := ⟨4, [some 0, some 1, some 2, some 3, none], [.v 4],
.seq (
.reg [⟨.v 4, none, .op (.mov (.c (.int .i64 0)))⟩]) (
.seq (
.reg [⟨.l, none, .op (.mov (.v 0))⟩,
⟨.l, none, .op (.ld false 1 (.v 2))⟩,
⟨.l, none, .op (.mov (.v 1))⟩,
⟨.l, none, .op (.bin .mul .i64 (.l 1) (.l 0))⟩,
⟨.l, none, .op (.bin .add .i64 (.l 3) (.l 0))⟩,
⟨.l, none, .op (.ld false 1 (.v 3))⟩,
⟨.l, none, .op (.bin .rem .i64 (.l 1) (.l 0))⟩,
⟨.v 4, none, .op (.mov (.l 0))⟩]) (
.ret))⟩
/- 105 cayley/prime.modulo part 1 -/
abbrev n_prime_modulo_1 : Nat := 105
def c_prime_modulo_1 : Ay.Fn := ⟨3, [some 0, some 1, some 2, none], [.v 3],
.seq (
.reg [⟨.v 3, none, .op (.mov (.c (.int .i64 0)))⟩]) (
.seq (
.reg [⟨.l, none, .op (.mov (.v 0))⟩,
⟨.l, none, .op (.mov (.v 1))⟩,
⟨.l, none, .op (.bin .mul .i64 (.l 1) (.l 0))⟩,
⟨.l, none, .op (.ld false 1 (.v 2))⟩,
⟨.l, none, .op (.bin .rem .i64 (.l 1) (.l 0))⟩,
⟨.v 3, none, .op (.mov (.l 0))⟩]) (
.ret))⟩
def tab : List (Nat × Ay.Fn) := [(7, c_law05_LinearEigen), (10, c_law05_lives), (12, c_kit_Pick), (13, c_law05_drawn), (14, c_linear_Basis), (18, c_linear_In), (19, c_kit_SameLists_int), (21, c_kit_Taker_Take), (22, c_linear_Kernel), (23, c_kit_Same_int), (24, c_law05_apply), (34, c_linear_Values), (35, c_linear_Eigen), (36, c_kit_Has_int), (37, c_ref04_Turn), (42, c_law05_rows), (43, c_law05_is), (44, c_law05_five), (45, c_linear_check), (46, c_linear_span), (47, c_linear_echelon_list), (48, c_linear_each_int), (49, c_linear_begin), (50, c_linear_echelon_insert), (51, c_matrix_Check), (52, c_linear_kernel), (53, c_ref04_Apply), (54, c_linear_marked), (55, c_linear_echelon_reduced), (57, c_slices_Max_int_int), (58, c_linear_field_add), (64, c_matrix_Poly), (65, c_slices_Backward_int_int), (66, c_slices_Clone_int_int), (67, c_ref04_Check), (68, c_ref04_blank), (72, c_prime_Is), (73, c_slices_ContainsFunc_int_int), (74, c_linear_check_1), (75, c_linear_echelon_pivots), (76, c_slices_IndexFunc_int_int), (77, c_linear_echelon_insert_1), (78, c_prime_Inv), (79, c_matrix_field), (80, c_slices_Min_int_int), (81, c_linear_field_residues), (83, c_ref04_Field), (86, c_matrix_square), (87, c_matrix_bent), (88, c_slices_Backward_int_int_1), (92, c_prime_divides), (93, c_slices_IndexFunc_int_int_x93), (94, c_linear_echelon_pivots_1), (95, c_prime_unit), (96, c_prime_to), (97, c_ref03_Is), (98, c_matrix_zip_int_int_int), (99, c_matrix_plus), (101, c_prime_residue), (102, c_prime_power_int), (103, c_prime_modulo), (104, c_matrix_plus_1), (105, c_prime_modulo_1)]
def T : Nat → Option Ay.Fn := Ay.find tab
theorem t_law05_LinearEigen : T 7 = some c_law05_LinearEigen := rfl
theorem t_law05_lives : T 10 = some c_law05_lives := rfl
theorem t_kit_Pick : T 12 = some c_kit_Pick := rfl
theorem t_law05_drawn : T 13 = some c_law05_drawn := rfl
theorem t_linear_Basis : T 14 = some c_linear_Basis := rfl
theorem t_linear_In : T 18 = some c_linear_In := rfl
theorem t_kit_SameLists_int : T 19 = some c_kit_SameLists_int := rfl
theorem t_kit_Taker_Take : T 21 = some c_kit_Taker_Take := rfl
theorem t_linear_Kernel : T 22 = some c_linear_Kernel := rfl
theorem t_kit_Same_int : T 23 = some c_kit_Same_int := rfl
theorem t_law05_apply : T 24 = some c_law05_apply := rfl
theorem t_linear_Values : T 34 = some c_linear_Values := rfl
theorem t_linear_Eigen : T 35 = some c_linear_Eigen := rfl
theorem t_kit_Has_int : T 36 = some c_kit_Has_int := rfl
theorem t_ref04_Turn : T 37 = some c_ref04_Turn := rfl
theorem t_law05_rows : T 42 = some c_law05_rows := rfl
theorem t_law05_is : T 43 = some c_law05_is := rfl
theorem t_law05_five : T 44 = some c_law05_five := rfl
theorem t_linear_check : T 45 = some c_linear_check := rfl
theorem t_linear_span : T 46 = some c_linear_span := rfl
theorem t_linear_echelon_list : T 47 = some c_linear_echelon_list := rfl
theorem t_linear_each_int : T 48 = some c_linear_each_int := rfl
theorem t_linear_begin : T 49 = some c_linear_begin := rfl
theorem t_linear_echelon_insert : T 50 = some c_linear_echelon_insert := rfl
theorem t_matrix_Check : T 51 = some c_matrix_Check := rfl
theorem t_linear_kernel : T 52 = some c_linear_kernel := rfl
theorem t_ref04_Apply : T 53 = some c_ref04_Apply := rfl
theorem t_linear_marked : T 54 = some c_linear_marked := rfl
theorem t_linear_echelon_reduced : T 55 = some c_linear_echelon_reduced := rfl
theorem t_slices_Max_int_int : T 57 = some c_slices_Max_int_int := rfl
theorem t_linear_field_add : T 58 = some c_linear_field_add := rfl
theorem t_matrix_Poly : T 64 = some c_matrix_Poly := rfl
theorem t_slices_Backward_int_int : T 65 = some c_slices_Backward_int_int := rfl
theorem t_slices_Clone_int_int : T 66 = some c_slices_Clone_int_int := rfl
theorem t_ref04_Check : T 67 = some c_ref04_Check := rfl
theorem t_ref04_blank : T 68 = some c_ref04_blank := rfl
theorem t_prime_Is : T 72 = some c_prime_Is := rfl
theorem t_slices_ContainsFunc_int_int : T 73 = some c_slices_ContainsFunc_int_int := rfl
theorem t_linear_check_1 : T 74 = some c_linear_check_1 := rfl
theorem t_linear_echelon_pivots : T 75 = some c_linear_echelon_pivots := rfl
theorem t_slices_IndexFunc_int_int : T 76 = some c_slices_IndexFunc_int_int := rfl
theorem t_linear_echelon_insert_1 : T 77 = some c_linear_echelon_insert_1 := rfl
theorem t_prime_Inv : T 78 = some c_prime_Inv := rfl
theorem t_matrix_field : T 79 = some c_matrix_field := rfl
theorem t_slices_Min_int_int : T 80 = some c_slices_Min_int_int := rfl
theorem t_linear_field_residues : T 81 = some c_linear_field_residues := rfl
theorem t_ref04_Field : T 83 = some c_ref04_Field := rfl
theorem t_matrix_square : T 86 = some c_matrix_square := rfl
theorem t_matrix_bent : T 87 = some c_matrix_bent := rfl
theorem t_slices_Backward_int_int_1 : T 88 = some c_slices_Backward_int_int_1 := rfl
theorem t_prime_divides : T 92 = some c_prime_divides := rfl
theorem t_slices_IndexFunc_int_int_x93 : T 93 = some c_slices_IndexFunc_int_int_x93 := rfl
theorem t_linear_echelon_pivots_1 : T 94 = some c_linear_echelon_pivots_1 := rfl
theorem t_prime_unit : T 95 = some c_prime_unit := rfl
theorem t_prime_to : T 96 = some c_prime_to := rfl
theorem t_ref03_Is : T 97 = some c_ref03_Is := rfl
theorem t_matrix_zip_int_int_int : T 98 = some c_matrix_zip_int_int_int := rfl
theorem t_matrix_plus : T 99 = some c_matrix_plus := rfl
theorem t_prime_residue : T 101 = some c_prime_residue := rfl
theorem t_prime_power_int : T 102 = some c_prime_power_int := rfl
theorem t_prime_modulo : T 103 = some c_prime_modulo := rfl
theorem t_matrix_plus_1 : T 104 = some c_matrix_plus_1 := rfl
theorem t_prime_modulo_1 : T 105 = some c_prime_modulo_1 := rfl
end Go.Proofs.Ytlhebmcnjgagjaa

