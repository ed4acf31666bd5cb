/- The functions of the seat, as code of the abstract machine. -/
import Derived.Test.YtddpkbicnolafaaGreatC15codea
namespace Go.Proofs.YtddpkbicnolafaaGreat
open Go Go.Ay
set_option maxRecDepth 100000
/- 144 slices.partialInsertionSortCmpFunc[cayley/classes.class] -/
def c_slices_partialInsertionSortCmpFunc_classes_class : Ay.Fn := ⟨4, [some 0, some 1, some 2, some 3, none, none, none, none, none, none, none, none, none, none, none, none, none, none, none], [.v 4],
.seq (
.reg [⟨.v 4, none, .op (.mov (.c (.bool false)))⟩]) (
.seq (
.reg [⟨.l, none, .op (.mov (.v 1))⟩,
⟨.l, none, .op (.bin .add .i64 (.l 0) (.c (.int .i64 1)))⟩,
⟨.v 5, none, .op (.mov (.l 0))⟩]) (
.seq (
.seq (
.reg [⟨.v 6, none, .op (.mov (.c (.int .i64 0)))⟩]) (
.block 0 (
.loop (
.seq (
.seq (
.reg [⟨.l, none, .op (.mov (.v 6))⟩,
⟨.v 9, none, .op (.bin .lss .i64 (.l 0) (.c (.int .i64 5)))⟩]) (
.ite (.v 9) (
.skip) (
.exit 0))) (
.seq (
.block 1 (
.seq (
.block 2 (
.loop (
.seq (
.seq (
.any 18 17 [⟨0, ⟨.v 19, none, .op (.mov (.v 5))⟩, false, []⟩,
⟨1, ⟨.v 20, none, .op (.mov (.v 2))⟩, false, []⟩,
⟨2, ⟨.v 21, none, .op (.bin .lss .i64 (.v 19) (.v 20))⟩, false, []⟩,
⟨3, ⟨.v 22, none, .op (.mov (.v 21))⟩, false, []⟩,
⟨4, ⟨.v 23, some ((.v 22), true), .op (.mov (.v 3))⟩, false, []⟩,
⟨5, ⟨.v 24, some ((.v 22), true), .op (.mov (.v 0))⟩, false, []⟩,
⟨6, ⟨.v 25, some ((.v 22), true), .op (.mov (.v 5))⟩, false, []⟩,
⟨7, ⟨.v 26, some ((.v 22), true), .op (.ixa 4 (.v 24) (.v 25))⟩, false, []⟩,
⟨8, ⟨.v 27, some ((.v 22), true), .op (.ld true 4 (.v 26))⟩, false, []⟩,
⟨9, ⟨.v 28, some ((.v 22), true), .op (.mov (.v 0))⟩, false, []⟩,
⟨10, ⟨.v 29, some ((.v 22), true), .op (.mov (.v 5))⟩, false, []⟩,
⟨11, ⟨.v 30, some ((.v 22), true), .op (.bin .sub .i64 (.v 29) (.c (.int .i64 1)))⟩, false, []⟩,
⟨12, ⟨.v 31, some ((.v 22), true), .op (.ixa 4 (.v 28) (.v 30))⟩, false, []⟩,
⟨13, ⟨.v 32, some ((.v 22), true), .op (.ld true 4 (.v 31))⟩, false, []⟩,
⟨14, ⟨.v 33, some ((.v 22), true), .callv (.v 23) [(.v 27), (.v 32)]⟩, false, []⟩,
⟨15, ⟨.v 34, some ((.v 22), true), .op (.bin .lss .i64 (.v 33) (.c (.int .i64 0)))⟩, false, []⟩,
⟨16, ⟨.v 35, some ((.v 22), true), .op (.not (.v 34))⟩, false, []⟩,
⟨17, ⟨.v 10, none, .op (.pick (.v 22) (.v 35) (.c (.bool false)))⟩, false, []⟩]) (
.ite (.v 10) (
.skip) (
.exit 2))) (
.block 3 (
.reg [⟨.l, none, .op (.mov (.v 5))⟩,
⟨.l, none, .op (.bin .add .i64 (.l 0) (.c (.int .i64 1)))⟩,
⟨.v 5, none, .op (.mov (.l 0))⟩]))))) (
.seq (
.seq (
.reg [⟨.l, none, .op (.mov (.v 5))⟩,
⟨.l, none, .op (.mov (.v 2))⟩,
⟨.v 11, none, .op (.bin .eql .i64 (.l 1) (.l 0))⟩]) (
.ite (.v 11) (
.seq (
.reg [⟨.v 4, none, .op (.mov (.c (.bool true)))⟩]) (
.ret)) (
.skip))) (
.seq (
.seq (
.reg [⟨.l, none, .op (.mov (.v 2))⟩,
⟨.l, none, .op (.mov (.v 1))⟩,
⟨.l, none, .op (.bin .sub .i64 (.l 1) (.l 0))⟩,
⟨.v 12, none, .op (.bin .lss .i64 (.l 0) (.c (.int .i64 50)))⟩]) (
.ite (.v 12) (
.seq (
.reg [⟨.v 4, none, .op (.mov (.c (.bool false)))⟩]) (
.ret)) (
.skip))) (
.seq (
.any 18 16 [⟨0, ⟨.v 19, none, .op (.mov (.v 0))⟩, false, []⟩,
⟨1, ⟨.v 20, none, .op (.mov (.v 5))⟩, false, []⟩,
⟨2, ⟨.v 21, none, .op (.mov (.v 0))⟩, false, []⟩,
⟨3, ⟨.v 22, none, .op (.mov (.v 5))⟩, false, []⟩,
⟨4, ⟨.v 23, none, .op (.bin .sub .i64 (.v 22) (.c (.int .i64 1)))⟩, false, []⟩,
⟨5, ⟨.v 24, none, .op (.mov (.v 0))⟩, false, []⟩,
⟨6, ⟨.v 25, none, .op (.mov (.v 5))⟩, false, []⟩,
⟨7, ⟨.v 26, none, .op (.bin .sub .i64 (.v 25) (.c (.int .i64 1)))⟩, false, []⟩,
⟨8, ⟨.v 27, none, .op (.ixa 4 (.v 24) (.v 26))⟩, false, []⟩,
⟨9, ⟨.v 28, none, .op (.ld true 4 (.v 27))⟩, false, []⟩,
⟨10, ⟨.v 29, none, .op (.mov (.v 0))⟩, false, []⟩,
⟨11, ⟨.v 30, none, .op (.mov (.v 5))⟩, false, []⟩,
⟨12, ⟨.v 31, none, .op (.ixa 4 (.v 29) (.v 30))⟩, false, []⟩,
⟨13, ⟨.v 32, none, .op (.ld true 4 (.v 31))⟩, false, []⟩,
⟨14, ⟨.v 33, none, .op (.ixa 4 (.v 19) (.v 20))⟩, false, []⟩,
⟨15, ⟨.n, none, .op (.st 4 (.v 33) (.v 28))⟩, false, []⟩,
⟨16, ⟨.v 34, none, .op (.ixa 4 (.v 21) (.v 23))⟩, false, []⟩,
⟨17, ⟨.n, none, .op (.st 4 (.v 34) (.v 32))⟩, false, []⟩]) (
.seq (
.seq (
.reg [⟨.l, none, .op (.mov (.v 5))⟩,
⟨.l, none, .op (.mov (.v 1))⟩,
⟨.l, none, .op (.bin .sub .i64 (.l 1) (.l 0))⟩,
⟨.v 13, none, .op (.bin .geq .i64 (.l 0) (.c (.int .i64 2)))⟩]) (
.ite (.v 13) (
.seq (
.reg [⟨.l, none, .op (.mov (.v 5))⟩,
⟨.l, none, .op (.bin .sub .i64 (.l 0) (.c (.int .i64 1)))⟩,
⟨.v 7, none, .op (.mov (.l 0))⟩]) (
.block 4 (
.loop (
.seq (
.seq (
.reg [⟨.l, none, .op (.mov (.v 7))⟩,
⟨.v 14, none, .op (.bin .geq .i64 (.l 0) (.c (.int .i64 1)))⟩]) (
.ite (.v 14) (
.skip) (
.exit 4))) (
.seq (
.block 5 (
.seq (
.seq (
.any 13 12 [⟨0, ⟨.v 19, none, .op (.mov (.v 3))⟩, false, []⟩,
⟨1, ⟨.v 20, none, .op (.mov (.v 0))⟩, false, []⟩,
⟨2, ⟨.v 21, none, .op (.mov (.v 7))⟩, false, []⟩,
⟨3, ⟨.v 22, none, .op (.ixa 4 (.v 20) (.v 21))⟩, false, []⟩,
⟨4, ⟨.v 23, none, .op (.ld true 4 (.v 22))⟩, false, []⟩,
⟨5, ⟨.v 24, none, .op (.mov (.v 0))⟩, false, []⟩,
⟨6, ⟨.v 25, none, .op (.mov (.v 7))⟩, false, []⟩,
⟨7, ⟨.v 26, none, .op (.bin .sub .i64 (.v 25) (.c (.int .i64 1)))⟩, false, []⟩,
⟨8, ⟨.v 27, none, .op (.ixa 4 (.v 24) (.v 26))⟩, false, []⟩,
⟨9, ⟨.v 28, none, .op (.ld true 4 (.v 27))⟩, false, []⟩,
⟨10, ⟨.v 29, none, .callv (.v 19) [(.v 23), (.v 28)]⟩, false, []⟩,
⟨11, ⟨.v 30, none, .op (.bin .lss .i64 (.v 29) (.c (.int .i64 0)))⟩, false, []⟩,
⟨12, ⟨.v 15, none, .op (.not (.v 30))⟩, false, []⟩]) (
.ite (.v 15) (
.exit 4) (
.skip))) (
.any 18 16 [⟨0, ⟨.v 19, none, .op (.mov (.v 0))⟩, false, []⟩,
⟨1, ⟨.v 20, none, .op (.mov (.v 7))⟩, false, []⟩,
⟨2, ⟨.v 21, none, .op (.mov (.v 0))⟩, false, []⟩,
⟨3, ⟨.v 22, none, .op (.mov (.v 7))⟩, false, []⟩,
⟨4, ⟨.v 23, none, .op (.bin .sub .i64 (.v 22) (.c (.int .i64 1)))⟩, false, []⟩,
⟨5, ⟨.v 24, none, .op (.mov (.v 0))⟩, false, []⟩,
⟨6, ⟨.v 25, none, .op (.mov (.v 7))⟩, false, []⟩,
⟨7, ⟨.v 26, none, .op (.bin .sub .i64 (.v 25) (.c (.int .i64 1)))⟩, false, []⟩,
⟨8, ⟨.v 27, none, .op (.ixa 4 (.v 24) (.v 26))⟩, false, []⟩,
⟨9, ⟨.v 28, none, .op (.ld true 4 (.v 27))⟩, false, []⟩,
⟨10, ⟨.v 29, none, .op (.mov (.v 0))⟩, false, []⟩,
⟨11, ⟨.v 30, none, .op (.mov (.v 7))⟩, false, []⟩,
⟨12, ⟨.v 31, none, .op (.ixa 4 (.v 29) (.v 30))⟩, false, []⟩,
⟨13, ⟨.v 32, none, .op (.ld true 4 (.v 31))⟩, false, []⟩,
⟨14, ⟨.v 33, none, .op (.ixa 4 (.v 19) (.v 20))⟩, false, []⟩,
⟨15, ⟨.n, none, .op (.st 4 (.v 33) (.v 28))⟩, false, []⟩,
⟨16, ⟨.v 34, none, .op (.ixa 4 (.v 21) (.v 23))⟩, false, []⟩,
⟨17, ⟨.n, none, .op (.st 4 (.v 34) (.v 32))⟩, false, []⟩]))) (
.reg [⟨.l, none, .op (.mov (.v 7))⟩,
⟨.l, none, .op (.bin .sub .i64 (.l 0) (.c (.int .i64 1)))⟩,
⟨.v 7, none, .op (.mov (.l 0))⟩])))))) (
.skip))) (
.seq (
.reg [⟨.l, none, .op (.mov (.v 2))⟩,
⟨.l, none, .op (.mov (.v 5))⟩,
⟨.l, none, .op (.bin .sub .i64 (.l 1) (.l 0))⟩,
⟨.v 16, none, .op (.bin .geq .i64 (.l 0) (.c (.int .i64 2)))⟩]) (
.ite (.v 16) (
.seq (
.reg [⟨.l, none, .op (.mov (.v 5))⟩,
⟨.l, none, .op (.bin .add .i64 (.l 0) (.c (.int .i64 1)))⟩,
⟨.v 8, none, .op (.mov (.l 0))⟩]) (
.block 6 (
.loop (
.seq (
.seq (
.reg [⟨.l, none, .op (.mov (.v 8))⟩,
⟨.l, none, .op (.mov (.v 2))⟩,
⟨.v 17, none, .op (.bin .lss .i64 (.l 1) (.l 0))⟩]) (
.ite (.v 17) (
.skip) (
.exit 6))) (
.seq (
.block 7 (
.seq (
.seq (
.any 13 12 [⟨0, ⟨.v 19, none, .op (.mov (.v 3))⟩, false, []⟩,
⟨1, ⟨.v 20, none, .op (.mov (.v 0))⟩, false, []⟩,
⟨2, ⟨.v 21, none, .op (.mov (.v 8))⟩, false, []⟩,
⟨3, ⟨.v 22, none, .op (.ixa 4 (.v 20) (.v 21))⟩, false, []⟩,
⟨4, ⟨.v 23, none, .op (.ld true 4 (.v 22))⟩, false, []⟩,
⟨5, ⟨.v 24, none, .op (.mov (.v 0))⟩, false, []⟩,
⟨6, ⟨.v 25, none, .op (.mov (.v 8))⟩, false, []⟩,
⟨7, ⟨.v 26, none, .op (.bin .sub .i64 (.v 25) (.c (.int .i64 1)))⟩, false, []⟩,
⟨8, ⟨.v 27, none, .op (.ixa 4 (.v 24) (.v 26))⟩, false, []⟩,
⟨9, ⟨.v 28, none, .op (.ld true 4 (.v 27))⟩, false, []⟩,
⟨10, ⟨.v 29, none, .callv (.v 19) [(.v 23), (.v 28)]⟩, false, []⟩,
⟨11, ⟨.v 30, none, .op (.bin .lss .i64 (.v 29) (.c (.int .i64 0)))⟩, false, []⟩,
⟨12, ⟨.v 18, none, .op (.not (.v 30))⟩, false, []⟩]) (
.ite (.v 18) (
.exit 6) (
.skip))) (
.any 18 16 [⟨0, ⟨.v 19, none, .op (.mov (.v 0))⟩, false, []⟩,
⟨1, ⟨.v 20, none, .op (.mov (.v 8))⟩, false, []⟩,
⟨2, ⟨.v 21, none, .op (.mov (.v 0))⟩, false, []⟩,
⟨3, ⟨.v 22, none, .op (.mov (.v 8))⟩, false, []⟩,
⟨4, ⟨.v 23, none, .op (.bin .sub .i64 (.v 22) (.c (.int .i64 1)))⟩, false, []⟩,
⟨5, ⟨.v 24, none, .op (.mov (.v 0))⟩, false, []⟩,
⟨6, ⟨.v 25, none, .op (.mov (.v 8))⟩, false, []⟩,
⟨7, ⟨.v 26, none, .op (.bin .sub .i64 (.v 25) (.c (.int .i64 1)))⟩, false, []⟩,
⟨8, ⟨.v 27, none, .op (.ixa 4 (.v 24) (.v 26))⟩, false, []⟩,
⟨9, ⟨.v 28, none, .op (.ld true 4 (.v 27))⟩, false, []⟩,
⟨10, ⟨.v 29, none, .op (.mov (.v 0))⟩, false, []⟩,
⟨11, ⟨.v 30, none, .op (.mov (.v 8))⟩, false, []⟩,
⟨12, ⟨.v 31, none, .op (.ixa 4 (.v 29) (.v 30))⟩, false, []⟩,
⟨13, ⟨.v 32, none, .op (.ld true 4 (.v 31))⟩, false, []⟩,
⟨14, ⟨.v 33, none, .op (.ixa 4 (.v 19) (.v 20))⟩, false, []⟩,
⟨15, ⟨.n, none, .op (.st 4 (.v 33) (.v 28))⟩, false, []⟩,
⟨16, ⟨.v 34, none, .op (.ixa 4 (.v 21) (.v 23))⟩, false, []⟩,
⟨17, ⟨.n, none, .op (.st 4 (.v 34) (.v 32))⟩, false, []⟩]))) (
.reg [⟨.l, none, .op (.mov (.v 8))⟩,
⟨.l, none, .op (.bin .add .i64 (.l 0) (.c (.int .i64 1)))⟩,
⟨.v 8, none, .op (.mov (.l 0))⟩])))))) (
.skip))))))))) (
.reg [⟨.l, none, .op (.mov (.v 6))⟩,
⟨.l, none, .op (.bin .add .i64 (.l 0) (.c (.int .i64 1)))⟩,
⟨.v 6, none, .op (.mov (.l 0))⟩])))))) (
.seq (
.reg [⟨.v 4, none, .op (.mov (.c (.bool false)))⟩]) (
.ret))))⟩
/- 145 slices.partitionEqualCmpFunc[cayley/classes.class] -/
def c_slices_partitionEqualCmpFunc_classes_class : Ay.Fn := ⟨5, [some 0, some 1, some 2, some 3, some 4, none, none, none, none, none, none], [.v 5],
.seq (
.reg [⟨.v 5, none, .op (.mov (.c (.int .i64 0)))⟩]) (
.seq (
.any 16 14 [⟨0, ⟨.v 11, none, .op (.mov (.v 0))⟩, false, []⟩,
⟨1, ⟨.v 12, none, .op (.mov (.v 1))⟩, false, []⟩,
⟨2, ⟨.v 13, none, .op (.mov (.v 0))⟩, false, []⟩,
⟨3, ⟨.v 14, none, .op (.mov (.v 3))⟩, false, []⟩,
⟨4, ⟨.v 15, none, .op (.mov (.v 0))⟩, false, []⟩,
⟨5, ⟨.v 16, none, .op (.mov (.v 3))⟩, false, []⟩,
⟨6, ⟨.v 17, none, .op (.ixa 4 (.v 15) (.v 16))⟩, false, []⟩,
⟨7, ⟨.v 18, none, .op (.ld true 4 (.v 17))⟩, false, []⟩,
⟨8, ⟨.v 19, none, .op (.mov (.v 0))⟩, false, []⟩,
⟨9, ⟨.v 20, none, .op (.mov (.v 1))⟩, false, []⟩,
⟨10, ⟨.v 21, none, .op (.ixa 4 (.v 19) (.v 20))⟩, false, []⟩,
⟨11, ⟨.v 22, none, .op (.ld true 4 (.v 21))⟩, false, []⟩,
⟨12, ⟨.v 23, none, .op (.ixa 4 (.v 11) (.v 12))⟩, false, []⟩,
⟨13, ⟨.n, none, .op (.st 4 (.v 23) (.v 18))⟩, false, []⟩,
⟨14, ⟨.v 24, none, .op (.ixa 4 (.v 13) (.v 14))⟩, false, []⟩,
⟨15, ⟨.n, none, .op (.st 4 (.v 24) (.v 22))⟩, false, []⟩]) (
.seq (
.reg [⟨.l, none, .op (.mov (.v 1))⟩,
⟨.l, none, .op (.bin .add .i64 (.l 0) (.c (.int .i64 1)))⟩,
⟨.l, none, .op (.mov (.v 2))⟩,
⟨.l, none, .op (.bin .sub .i64 (.l 0) (.c (.int .i64 1)))⟩,
⟨.v 6, none, .op (.mov (.l 2))⟩,
⟨.v 7, none, .op (.mov (.l 0))⟩]) (
.seq (
.block 0 (
.loop (
.block 1 (
.seq (
.block 2 (
.loop (
.seq (
.seq (
.any 17 16 [⟨0, ⟨.v 11, none, .op (.mov (.v 6))⟩, false, []⟩,
⟨1, ⟨.v 12, none, .op (.mov (.v 7))⟩, false, []⟩,
⟨2, ⟨.v 13, none, .op (.bin .leq .i64 (.v 11) (.v 12))⟩, false, []⟩,
⟨3, ⟨.v 14, none, .op (.mov (.v 13))⟩, false, []⟩,
⟨4, ⟨.v 15, some ((.v 14), true), .op (.mov (.v 4))⟩, false, []⟩,
⟨5, ⟨.v 16, some ((.v 14), true), .op (.mov (.v 0))⟩, false, []⟩,
⟨6, ⟨.v 17, some ((.v 14), true), .op (.mov (.v 1))⟩, false, []⟩,
⟨7, ⟨.v 18, some ((.v 14), true), .op (.ixa 4 (.v 16) (.v 17))⟩, false, []⟩,
⟨8, ⟨.v 19, some ((.v 14), true), .op (.ld true 4 (.v 18))⟩, false, []⟩,
⟨9, ⟨.v 20, some ((.v 14), true), .op (.mov (.v 0))⟩, false, []⟩,
⟨10, ⟨.v 21, some ((.v 14), true), .op (.mov (.v 6))⟩, false, []⟩,
⟨11, ⟨.v 22, some ((.v 14), true), .op (.ixa 4 (.v 20) (.v 21))⟩, false, []⟩,
⟨12, ⟨.v 23, some ((.v 14), true), .op (.ld true 4 (.v 22))⟩, false, []⟩,
⟨13, ⟨.v 24, some ((.v 14), true), .callv (.v 15) [(.v 19), (.v 23)]⟩, false, []⟩,
⟨14, ⟨.v 25, some ((.v 14), true), .op (.bin .lss .i64 (.v 24) (.c (.int .i64 0)))⟩, false, []⟩,
⟨15, ⟨.v 26, some ((.v 14), true), .op (.not (.v 25))⟩, false, []⟩,
⟨16, ⟨.v 8, none, .op (.pick (.v 14) (.v 26) (.c (.bool false)))⟩, false, []⟩]) (
.ite (.v 8) (
.skip) (
.exit 2))) (
.block 3 (
.reg [⟨.l, none, .op (.mov (.v 6))⟩,
⟨.l, none, .op (.bin .add .i64 (.l 0) (.c (.int .i64 1)))⟩,
⟨.v 6, none, .op (.mov (.l 0))⟩]))))) (
.seq (
.block 4 (
.loop (
.seq (
.seq (
.any 16 15 [⟨0, ⟨.v 11, none, .op (.mov (.v 6))⟩, false, []⟩,
⟨1, ⟨.v 12, none, .op (.mov (.v 7))⟩, false, []⟩,
⟨2, ⟨.v 13, none, .op (.bin .leq .i64 (.v 11) (.v 12))⟩, false, []⟩,
⟨3, ⟨.v 14, none, .op (.mov (.v 13))⟩, false, []⟩,
⟨4, ⟨.v 15, some ((.v 14), true), .op (.mov (.v 4))⟩, false, []⟩,
⟨5, ⟨.v 16, some ((.v 14), true), .op (.mov (.v 0))⟩, false, []⟩,
⟨6, ⟨.v 17, some ((.v 14), true), .op (.mov (.v 1))⟩, false, []⟩,
⟨7, ⟨.v 18, some ((.v 14), true), .op (.ixa 4 (.v 16) (.v 17))⟩, false, []⟩,
⟨8, ⟨.v 19, some ((.v 14), true), .op (.ld true 4 (.v 18))⟩, false, []⟩,
⟨9, ⟨.v 20, some ((.v 14), true), .op (.mov (.v 0))⟩, false, []⟩,
⟨10, ⟨.v 21, some ((.v 14), true), .op (.mov (.v 7))⟩, false, []⟩,
⟨11, ⟨.v 22, some ((.v 14), true), .op (.ixa 4 (.v 20) (.v 21))⟩, false, []⟩,
⟨12, ⟨.v 23, some ((.v 14), true), .op (.ld true 4 (.v 22))⟩, false, []⟩,
⟨13, ⟨.v 24, some ((.v 14), true), .callv (.v 15) [(.v 19), (.v 23)]⟩, false, []⟩,
⟨14, ⟨.v 25, some ((.v 14), true), .op (.bin .lss .i64 (.v 24) (.c (.int .i64 0)))⟩, false, []⟩,
⟨15, ⟨.v 9, none, .op (.pick (.v 14) (.v 25) (.c (.bool false)))⟩, false, []⟩]) (
.ite (.v 9) (
.skip) (
.exit 4))) (
.block 5 (
.reg [⟨.l, none, .op (.mov (.v 7))⟩,
⟨.l, none, .op (.bin .sub .i64 (.l 0) (.c (.int .i64 1)))⟩,
⟨.v 7, none, .op (.mov (.l 0))⟩]))))) (
.seq (
.seq (
.reg [⟨.l, none, .op (.mov (.v 6))⟩,
⟨.l, none, .op (.mov (.v 7))⟩,
⟨.v 10, none, .op (.bin .gtr .i64 (.l 1) (.l 0))⟩]) (
.ite (.v 10) (
.exit 0) (
.skip))) (
.seq (
.any 16 14 [⟨0, ⟨.v 11, none, .op (.mov (.v 0))⟩, false, []⟩,
⟨1, ⟨.v 12, none, .op (.mov (.v 6))⟩, false, []⟩,
⟨2, ⟨.v 13, none, .op (.mov (.v 0))⟩, false, []⟩,
⟨3, ⟨.v 14, none, .op (.mov (.v 7))⟩, false, []⟩,
⟨4, ⟨.v 15, none, .op (.mov (.v 0))⟩, false, []⟩,
⟨5, ⟨.v 16, none, .op (.mov (.v 7))⟩, false, []⟩,
⟨6, ⟨.v 17, none, .op (.ixa 4 (.v 15) (.v 16))⟩, false, []⟩,
⟨7, ⟨.v 18, none, .op (.ld true 4 (.v 17))⟩, false, []⟩,
⟨8, ⟨.v 19, none, .op (.mov (.v 0))⟩, false, []⟩,
⟨9, ⟨.v 20, none, .op (.mov (.v 6))⟩, false, []⟩,
⟨10, ⟨.v 21, none, .op (.ixa 4 (.v 19) (.v 20))⟩, false, []⟩,
⟨11, ⟨.v 22, none, .op (.ld true 4 (.v 21))⟩, false, []⟩,
⟨12, ⟨.v 23, none, .op (.ixa 4 (.v 11) (.v 12))⟩, false, []⟩,
⟨13, ⟨.n, none, .op (.st 4 (.v 23) (.v 18))⟩, false, []⟩,
⟨14, ⟨.v 24, none, .op (.ixa 4 (.v 13) (.v 14))⟩, false, []⟩,
⟨15, ⟨.n, none, .op (.st 4 (.v 24) (.v 22))⟩, false, []⟩]) (
.seq (
.reg [⟨.l, none, .op (.mov (.v 6))⟩,
⟨.l, none, .op (.bin .add .i64 (.l 0) (.c (.int .i64 1)))⟩,
⟨.v 6, none, .op (.mov (.l 0))⟩]) (
.reg [⟨.l, none, .op (.mov (.v 7))⟩,
⟨.l, none, .op (.bin .sub .i64 (.l 0) (.c (.int .i64 1)))⟩,
⟨.v 7, none, .op (.mov (.l 0))⟩]))))))))) (
.seq (
.reg [⟨.l, none, .op (.mov (.v 6))⟩,
⟨.v 5, none, .op (.mov (.l 0))⟩]) (
.ret)))))⟩
/- 146 slices.partitionCmpFunc[cayley/classes.class] -/
def c_slices_partitionCmpFunc_classes_class : Ay.Fn := ⟨5, [some 0, some 1, some 2, some 3, some 4, none, none, none, none, none, none, none, none, none, none], [.v 5, .v 6],
.seq (
.reg [⟨.v 5, none, .op (.mov (.c (.int .i64 0)))⟩,
⟨.v 6, none, .op (.mov (.c (.bool false)))⟩]) (
.seq (
.any 16 14 [⟨0, ⟨.v 15, none, .op (.mov (.v 0))⟩, false, []⟩,
⟨1, ⟨.v 16, none, .op (.mov (.v 1))⟩, false, []⟩,
⟨2, ⟨.v 17, none, .op (.mov (.v 0))⟩, false, []⟩,
⟨3, ⟨.v 18, none, .op (.mov (.v 3))⟩, false, []⟩,
⟨4, ⟨.v 19, none, .op (.mov (.v 0))⟩, false, []⟩,
⟨5, ⟨.v 20, none, .op (.mov (.v 3))⟩, false, []⟩,
⟨6, ⟨.v 21, none, .op (.ixa 4 (.v 19) (.v 20))⟩, false, []⟩,
⟨7, ⟨.v 22, none, .op (.ld true 4 (.v 21))⟩, false, []⟩,
⟨8, ⟨.v 23, none, .op (.mov (.v 0))⟩, false, []⟩,
⟨9, ⟨.v 24, none, .op (.mov (.v 1))⟩, false, []⟩,
⟨10, ⟨.v 25, none, .op (.ixa 4 (.v 23) (.v 24))⟩, false, []⟩,
⟨11, ⟨.v 26, none, .op (.ld true 4 (.v 25))⟩, false, []⟩,
⟨12, ⟨.v 27, none, .op (.ixa 4 (.v 15) (.v 16))⟩, false, []⟩,
⟨13, ⟨.n, none, .op (.st 4 (.v 27) (.v 22))⟩, false, []⟩,
⟨14, ⟨.v 28, none, .op (.ixa 4 (.v 17) (.v 18))⟩, false, []⟩,
⟨15, ⟨.n, none, .op (.st 4 (.v 28) (.v 26))⟩, false, []⟩]) (
.seq (
.reg [⟨.l, none, .op (.mov (.v 1))⟩,
⟨.l, none, .op (.bin .add .i64 (.l 0) (.c (.int .i64 1)))⟩,
⟨.l, none, .op (.mov (.v 2))⟩,
⟨.l, none, .op (.bin .sub .i64 (.l 0) (.c (.int .i64 1)))⟩,
⟨.v 7, none, .op (.mov (.l 2))⟩,
⟨.v 8, none, .op (.mov (.l 0))⟩]) (
.seq (
.block 0 (
.loop (
.seq (
.seq (
.any 16 15 [⟨0, ⟨.v 15, none, .op (.mov (.v 7))⟩, false, []⟩,
⟨1, ⟨.v 16, none, .op (.mov (.v 8))⟩, false, []⟩,
⟨2, ⟨.v 17, none, .op (.bin .leq .i64 (.v 15) (.v 16))⟩, false, []⟩,
⟨3, ⟨.v 18, none, .op (.mov (.v 17))⟩, false, []⟩,
⟨4, ⟨.v 19, some ((.v 18), true), .op (.mov (.v 4))⟩, false, []⟩,
⟨5, ⟨.v 20, some ((.v 18), true), .op (.mov (.v 0))⟩, false, []⟩,
⟨6, ⟨.v 21, some ((.v 18), true), .op (.mov (.v 7))⟩, false, []⟩,
⟨7, ⟨.v 22, some ((.v 18), true), .op (.ixa 4 (.v 20) (.v 21))⟩, false, []⟩,
⟨8, ⟨.v 23, some ((.v 18), true), .op (.ld true 4 (.v 22))⟩, false, []⟩,
⟨9, ⟨.v 24, some ((.v 18), true), .op (.mov (.v 0))⟩, false, []⟩,
⟨10, ⟨.v 25, some ((.v 18), true), .op (.mov (.v 1))⟩, false, []⟩,
⟨11, ⟨.v 26, some ((.v 18), true), .op (.ixa 4 (.v 24) (.v 25))⟩, false, []⟩,
⟨12, ⟨.v 27, some ((.v 18), true), .op (.ld true 4 (.v 26))⟩, false, []⟩,
⟨13, ⟨.v 28, some ((.v 18), true), .callv (.v 19) [(.v 23), (.v 27)]⟩, false, []⟩,
⟨14, ⟨.v 29, some ((.v 18), true), .op (.bin .lss .i64 (.v 28) (.c (.int .i64 0)))⟩, false, []⟩,
⟨15, ⟨.v 9, none, .op (.pick (.v 18) (.v 29) (.c (.bool false)))⟩, false, []⟩]) (
.ite (.v 9) (
.skip) (
.exit 0))) (
.block 1 (
.reg [⟨.l, none, .op (.mov (.v 7))⟩,
⟨.l, none, .op (.bin .add .i64 (.l 0) (.c (.int .i64 1)))⟩,
⟨.v 7, none, .op (.mov (.l 0))⟩]))))) (
.seq (
.block 2 (
.loop (
.seq (
.seq (
.any 17 16 [⟨0, ⟨.v 15, none, .op (.mov (.v 7))⟩, false, []⟩,
⟨1, ⟨.v 16, none, .op (.mov (.v 8))⟩, false, []⟩,
⟨2, ⟨.v 17, none, .op (.bin .leq .i64 (.v 15) (.v 16))⟩, false, []⟩,
⟨3, ⟨.v 18, none, .op (.mov (.v 17))⟩, false, []⟩,
⟨4, ⟨.v 19, some ((.v 18), true), .op (.mov (.v 4))⟩, false, []⟩,
⟨5, ⟨.v 20, some ((.v 18), true), .op (.mov (.v 0))⟩, false, []⟩,
⟨6, ⟨.v 21, some ((.v 18), true), .op (.mov (.v 8))⟩, false, []⟩,
⟨7, ⟨.v 22, some ((.v 18), true), .op (.ixa 4 (.v 20) (.v 21))⟩, false, []⟩,
⟨8, ⟨.v 23, some ((.v 18), true), .op (.ld true 4 (.v 22))⟩, false, []⟩,
⟨9, ⟨.v 24, some ((.v 18), true), .op (.mov (.v 0))⟩, false, []⟩,
⟨10, ⟨.v 25, some ((.v 18), true), .op (.mov (.v 1))⟩, false, []⟩,
⟨11, ⟨.v 26, some ((.v 18), true), .op (.ixa 4 (.v 24) (.v 25))⟩, false, []⟩,
⟨12, ⟨.v 27, some ((.v 18), true), .op (.ld true 4 (.v 26))⟩, false, []⟩,
⟨13, ⟨.v 28, some ((.v 18), true), .callv (.v 19) [(.v 23), (.v 27)]⟩, false, []⟩,
⟨14, ⟨.v 29, some ((.v 18), true), .op (.bin .lss .i64 (.v 28) (.c (.int .i64 0)))⟩, false, []⟩,
⟨15, ⟨.v 30, some ((.v 18), true), .op (.not (.v 29))⟩, false, []⟩,
⟨16, ⟨.v 10, none, .op (.pick (.v 18) (.v 30) (.c (.bool false)))⟩, false, []⟩]) (
.ite (.v 10) (
.skip) (
.exit 2))) (
.block 3 (
.reg [⟨.l, none, .op (.mov (.v 8))⟩,
⟨.l, none, .op (.bin .sub .i64 (.l 0) (.c (.int .i64 1)))⟩,
⟨.v 8, none, .op (.mov (.l 0))⟩]))))) (
.seq (
.seq (
.reg [⟨.l, none, .op (.mov (.v 7))⟩,
⟨.l, none, .op (.mov (.v 8))⟩,
⟨.v 11, none, .op (.bin .gtr .i64 (.l 1) (.l 0))⟩]) (
.ite (.v 11) (
.seq (
.any 16 14 [⟨0, ⟨.v 15, none, .op (.mov (.v 0))⟩, false, []⟩,
⟨1, ⟨.v 16, none, .op (.mov (.v 8))⟩, false, []⟩,
⟨2, ⟨.v 17, none, .op (.mov (.v 0))⟩, false, []⟩,
⟨3, ⟨.v 18, none, .op (.mov (.v 1))⟩, false, []⟩,
⟨4, ⟨.v 19, none, .op (.mov (.v 0))⟩, false, []⟩,
⟨5, ⟨.v 20, none, .op (.mov (.v 1))⟩, false, []⟩,
⟨6, ⟨.v 21, none, .op (.ixa 4 (.v 19) (.v 20))⟩, false, []⟩,
⟨7, ⟨.v 22, none, .op (.ld true 4 (.v 21))⟩, false, []⟩,
⟨8, ⟨.v 23, none, .op (.mov (.v 0))⟩, false, []⟩,
⟨9, ⟨.v 24, none, .op (.mov (.v 8))⟩, false, []⟩,
⟨10, ⟨.v 25, none, .op (.ixa 4 (.v 23) (.v 24))⟩, false, []⟩,
⟨11, ⟨.v 26, none, .op (.ld true 4 (.v 25))⟩, false, []⟩,
⟨12, ⟨.v 27, none, .op (.ixa 4 (.v 15) (.v 16))⟩, false, []⟩,
⟨13, ⟨.n, none, .op (.st 4 (.v 27) (.v 22))⟩, false, []⟩,
⟨14, ⟨.v 28, none, .op (.ixa 4 (.v 17) (.v 18))⟩, false, []⟩,
⟨15, ⟨.n, none, .op (.st 4 (.v 28) (.v 26))⟩, false, []⟩]) (
.seq (
.reg [⟨.l, none, .op (.mov (.v 8))⟩,
⟨.v 5, none, .op (.mov (.l 0))⟩,
⟨.v 6, none, .op (.mov (.c (.bool true)))⟩]) (
.ret))) (
.skip))) (
.seq (
.any 16 14 [⟨0, ⟨.v 15, none, .op (.mov (.v 0))⟩, false, []⟩,
⟨1, ⟨.v 16, none, .op (.mov (.v 7))⟩, false, []⟩,
⟨2, ⟨.v 17, none, .op (.mov (.v 0))⟩, false, []⟩,
⟨3, ⟨.v 18, none, .op (.mov (.v 8))⟩, false, []⟩,
⟨4, ⟨.v 19, none, .op (.mov (.v 0))⟩, false, []⟩,
⟨5, ⟨.v 20, none, .op (.mov (.v 8))⟩, false, []⟩,
⟨6, ⟨.v 21, none, .op (.ixa 4 (.v 19) (.v 20))⟩, false, []⟩,
⟨7, ⟨.v 22, none, .op (.ld true 4 (.v 21))⟩, false, []⟩,
⟨8, ⟨.v 23, none, .op (.mov (.v 0))⟩, false, []⟩,
⟨9, ⟨.v 24, none, .op (.mov (.v 7))⟩, false, []⟩,
⟨10, ⟨.v 25, none, .op (.ixa 4 (.v 23) (.v 24))⟩, false, []⟩,
⟨11, ⟨.v 26, none, .op (.ld true 4 (.v 25))⟩, false, []⟩,
⟨12, ⟨.v 27, none, .op (.ixa 4 (.v 15) (.v 16))⟩, false, []⟩,
⟨13, ⟨.n, none, .op (.st 4 (.v 27) (.v 22))⟩, false, []⟩,
⟨14, ⟨.v 28, none, .op (.ixa 4 (.v 17) (.v 18))⟩, false, []⟩,
⟨15, ⟨.n, none, .op (.st 4 (.v 28) (.v 26))⟩, false, []⟩]) (
.seq (
.reg [⟨.l, none, .op (.mov (.v 7))⟩,
⟨.l, none, .op (.bin .add .i64 (.l 0) (.c (.int .i64 1)))⟩,
⟨.v 7, none, .op (.mov (.l 0))⟩]) (
.seq (
.reg [⟨.l, none, .op (.mov (.v 8))⟩,
⟨.l, none, .op (.bin .sub .i64 (.l 0) (.c (.int .i64 1)))⟩,
⟨.v 8, none, .op (.mov (.l 0))⟩]) (
.seq (
.block 4 (
.loop (
.block 5 (
.seq (
.block 6 (
.loop (
.seq (
.seq (
.any 16 15 [⟨0, ⟨.v 15, none, .op (.mov (.v 7))⟩, false, []⟩,
⟨1, ⟨.v 16, none, .op (.mov (.v 8))⟩, false, []⟩,
⟨2, ⟨.v 17, none, .op (.bin .leq .i64 (.v 15) (.v 16))⟩, false, []⟩,
⟨3, ⟨.v 18, none, .op (.mov (.v 17))⟩, false, []⟩,
⟨4, ⟨.v 19, some ((.v 18), true), .op (.mov (.v 4))⟩, false, []⟩,
⟨5, ⟨.v 20, some ((.v 18), true), .op (.mov (.v 0))⟩, false, []⟩,
⟨6, ⟨.v 21, some ((.v 18), true), .op (.mov (.v 7))⟩, false, []⟩,
⟨7, ⟨.v 22, some ((.v 18), true), .op (.ixa 4 (.v 20) (.v 21))⟩, false, []⟩,
⟨8, ⟨.v 23, some ((.v 18), true), .op (.ld true 4 (.v 22))⟩, false, []⟩,
⟨9, ⟨.v 24, some ((.v 18), true), .op (.mov (.v 0))⟩, false, []⟩,
⟨10, ⟨.v 25, some ((.v 18), true), .op (.mov (.v 1))⟩, false, []⟩,
⟨11, ⟨.v 26, some ((.v 18), true), .op (.ixa 4 (.v 24) (.v 25))⟩, false, []⟩,
⟨12, ⟨.v 27, some ((.v 18), true), .op (.ld true 4 (.v 26))⟩, false, []⟩,
⟨13, ⟨.v 28, some ((.v 18), true), .callv (.v 19) [(.v 23), (.v 27)]⟩, false, []⟩,
⟨14, ⟨.v 29, some ((.v 18), true), .op (.bin .lss .i64 (.v 28) (.c (.int .i64 0)))⟩, false, []⟩,
⟨15, ⟨.v 12, none, .op (.pick (.v 18) (.v 29) (.c (.bool false)))⟩, false, []⟩]) (
.ite (.v 12) (
.skip) (
.exit 6))) (
.block 7 (
.reg [⟨.l, none, .op (.mov (.v 7))⟩,
⟨.l, none, .op (.bin .add .i64 (.l 0) (.c (.int .i64 1)))⟩,
⟨.v 7, none, .op (.mov (.l 0))⟩]))))) (
.seq (
.block 8 (
.loop (
.seq (
.seq (
.any 17 16 [⟨0, ⟨.v 15, none, .op (.mov (.v 7))⟩, false, []⟩,
⟨1, ⟨.v 16, none, .op (.mov (.v 8))⟩, false, []⟩,
⟨2, ⟨.v 17, none, .op (.bin .leq .i64 (.v 15) (.v 16))⟩, false, []⟩,
⟨3, ⟨.v 18, none, .op (.mov (.v 17))⟩, false, []⟩,
⟨4, ⟨.v 19, some ((.v 18), true), .op (.mov (.v 4))⟩, false, []⟩,
⟨5, ⟨.v 20, some ((.v 18), true), .op (.mov (.v 0))⟩, false, []⟩,
⟨6, ⟨.v 21, some ((.v 18), true), .op (.mov (.v 8))⟩, false, []⟩,
⟨7, ⟨.v 22, some ((.v 18), true), .op (.ixa 4 (.v 20) (.v 21))⟩, false, []⟩,
⟨8, ⟨.v 23, some ((.v 18), true), .op (.ld true 4 (.v 22))⟩, false, []⟩,
⟨9, ⟨.v 24, some ((.v 18), true), .op (.mov (.v 0))⟩, false, []⟩,
⟨10, ⟨.v 25, some ((.v 18), true), .op (.mov (.v 1))⟩, false, []⟩,
⟨11, ⟨.v 26, some ((.v 18), true), .op (.ixa 4 (.v 24) (.v 25))⟩, false, []⟩,
⟨12, ⟨.v 27, some ((.v 18), true), .op (.ld true 4 (.v 26))⟩, false, []⟩,
⟨13, ⟨.v 28, some ((.v 18), true), .callv (.v 19) [(.v 23), (.v 27)]⟩, false, []⟩,
⟨14, ⟨.v 29, some ((.v 18), true), .op (.bin .lss .i64 (.v 28) (.c (.int .i64 0)))⟩, false, []⟩,
⟨15, ⟨.v 30, some ((.v 18), true), .op (.not (.v 29))⟩, false, []⟩,
⟨16, ⟨.v 13, none, .op (.pick (.v 18) (.v 30) (.c (.bool false)))⟩, false, []⟩]) (
.ite (.v 13) (
.skip) (
.exit 8))) (
.block 9 (
.reg [⟨.l, none, .op (.mov (.v 8))⟩,
⟨.l, none, .op (.bin .sub .i64 (.l 0) (.c (.int .i64 1)))⟩,
⟨.v 8, none, .op (.mov (.l 0))⟩]))))) (
.seq (
.seq (
.reg [⟨.l, none, .op (.mov (.v 7))⟩,
⟨.l, none, .op (.mov (.v 8))⟩,
⟨.v 14, none, .op (.bin .gtr .i64 (.l 1) (.l 0))⟩]) (
.ite (.v 14) (
.exit 4) (
.skip))) (
.seq (
.any 16 14 [⟨0, ⟨.v 15, none, .op (.mov (.v 0))⟩, false, []⟩,
⟨1, ⟨.v 16, none, .op (.mov (.v 7))⟩, false, []⟩,
⟨2, ⟨.v 17, none, .op (.mov (.v 0))⟩, false, []⟩,
⟨3, ⟨.v 18, none, .op (.mov (.v 8))⟩, false, []⟩,
⟨4, ⟨.v 19, none, .op (.mov (.v 0))⟩, false, []⟩,
⟨5, ⟨.v 20, none, .op (.mov (.v 8))⟩, false, []⟩,
⟨6, ⟨.v 21, none, .op (.ixa 4 (.v 19) (.v 20))⟩, false, []⟩,
⟨7, ⟨.v 22, none, .op (.ld true 4 (.v 21))⟩, false, []⟩,
⟨8, ⟨.v 23, none, .op (.mov (.v 0))⟩, false, []⟩,
⟨9, ⟨.v 24, none, .op (.mov (.v 7))⟩, false, []⟩,
⟨10, ⟨.v 25, none, .op (.ixa 4 (.v 23) (.v 24))⟩, false, []⟩,
⟨11, ⟨.v 26, none, .op (.ld true 4 (.v 25))⟩, false, []⟩,
⟨12, ⟨.v 27, none, .op (.ixa 4 (.v 15) (.v 16))⟩, false, []⟩,
⟨13, ⟨.n, none, .op (.st 4 (.v 27) (.v 22))⟩, false, []⟩,
⟨14, ⟨.v 28, none, .op (.ixa 4 (.v 17) (.v 18))⟩, false, []⟩,
⟨15, ⟨.n, none, .op (.st 4 (.v 28) (.v 26))⟩, false, []⟩]) (
.seq (
.reg [⟨.l, none, .op (.mov (.v 7))⟩,
⟨.l, none, .op (.bin .add .i64 (.l 0) (.c (.int .i64 1)))⟩,
⟨.v 7, none, .op (.mov (.l 0))⟩]) (
.reg [⟨.l, none, .op (.mov (.v 8))⟩,
⟨.l, none, .op (.bin .sub .i64 (.l 0) (.c (.int .i64 1)))⟩,
⟨.v 8, none, .op (.mov (.l 0))⟩]))))))))) (
.seq (
.any 16 14 [⟨0, ⟨.v 15, none, .op (.mov (.v 0))⟩, false, []⟩,
⟨1, ⟨.v 16, none, .op (.mov (.v 8))⟩, false, []⟩,
⟨2, ⟨.v 17, none, .op (.mov (.v 0))⟩, false, []⟩,
⟨3, ⟨.v 18, none, .op (.mov (.v 1))⟩, false, []⟩,
⟨4, ⟨.v 19, none, .op (.mov (.v 0))⟩, false, []⟩,
⟨5, ⟨.v 20, none, .op (.mov (.v 1))⟩, false, []⟩,
⟨6, ⟨.v 21, none, .op (.ixa 4 (.v 19) (.v 20))⟩, false, []⟩,
⟨7, ⟨.v 22, none, .op (.ld true 4 (.v 21))⟩, false, []⟩,
⟨8, ⟨.v 23, none, .op (.mov (.v 0))⟩, false, []⟩,
⟨9, ⟨.v 24, none, .op (.mov (.v 8))⟩, false, []⟩,
⟨10, ⟨.v 25, none, .op (.ixa 4 (.v 23) (.v 24))⟩, false, []⟩,
⟨11, ⟨.v 26, none, .op (.ld true 4 (.v 25))⟩, false, []⟩,
⟨12, ⟨.v 27, none, .op (.ixa 4 (.v 15) (.v 16))⟩, false, []⟩,
⟨13, ⟨.n, none, .op (.st 4 (.v 27) (.v 22))⟩, false, []⟩,
⟨14, ⟨.v 28, none, .op (.ixa 4 (.v 17) (.v 18))⟩, false, []⟩,
⟨15, ⟨.n, none, .op (.st 4 (.v 28) (.v 26))⟩, false, []⟩]) (
.seq (
.reg [⟨.l, none, .op (.mov (.v 8))⟩,
⟨.v 5, none, .op (.mov (.l 0))⟩,
⟨.v 6, none, .op (.mov (.c (.bool false)))⟩]) (
.ret))))))))))))⟩
/- 147 cmp.isNaN[int] -/
def c_cmp_isNaN_int : Ay.Fn := ⟨1, [some 0, none], [.v 1],
.seq (
.reg [⟨.v 1, none, .op (.mov (.c (.bool false)))⟩]) (
.seq (
.reg [⟨.l, none, .op (.mov (.v 0))⟩,
⟨.l, none, .op (.mov (.v 0))⟩,
⟨.l, none, .op (.bin .neq .i64 (.l 1) (.l 0))⟩,
⟨.v 1, none, .op (.mov (.l 0))⟩]) (
.ret))⟩
/- 148 cayley/chain.one -/
def c_chain_one : Ay.Fn := ⟨1, [some 0, none, none, none, none, none, none], [.v 1],
.seq (
.reg [⟨.v 1, none, .op (.mov (.c .nils))⟩]) (
.seq (
.reg [⟨.l, none, .op (.mov (.v 0))⟩,
⟨.l, none, .op (.mks 1 8 [(.int .i64 0)] (.l 0) (.l 0))⟩,
⟨.v 2, none, .op (.mov (.l 0))⟩]) (
.seq (
.seq (
.reg [⟨.l, none, .op (.mov (.v 2))⟩,
⟨.v 4, none, .op (.lens (.l 0))⟩,
⟨.v 5, none, .op (.mov (.c (.int .i64 0)))⟩]) (
.block 0 (
.loop (
.seq (
.reg [⟨.v 6, none, .op (.bin .lss .i64 (.v 5) (.v 4))⟩]) (
.seq (
.ite (.v 6) (
.skip) (
.exit 0)) (
.seq (
.block 1 (
.seq (
.reg [⟨.l, none, .op (.mov (.v 5))⟩,
⟨.v 3, none, .op (.mov (.l 0))⟩]) (
.reg [⟨.l, none, .op (.mov (.v 2))⟩,
⟨.l, none, .op (.mov (.v 3))⟩,
⟨.l, none, .op (.mov (.v 3))⟩,
⟨.l, none, .op (.ixa 1 (.l 2) (.l 1))⟩,
⟨.n, none, .op (.st 1 (.l 0) (.l 1))⟩]))) (
.reg [⟨.l, none, .op (.bin .add .i64 (.v 5) (.c (.int .i64 1)))⟩,
⟨.v 5, none, .op (.mov (.l 0))⟩]))))))) (
.seq (
.reg [⟨.l, none, .op (.mov (.v 2))⟩,
⟨.v 1, none, .op (.mov (.l 0))⟩]) (
.ret))))⟩
/- 149 (ptr cayley/chain.tower).sift -/
def c_chain_tower_sift : Ay.Fn := ⟨3, [some 0, some 1, some 2, none, none, none, none, none, none, none], [.v 3, .v 4],
.seq (
.reg [⟨.v 3, none, .op (.mov (.c (.int .i64 0)))⟩,
⟨.v 4, none, .op (.mov (.c .nils))⟩]) (
.seq (
.seq (
.reg [⟨.l, none, .op (.mov (.v 2))⟩,
⟨.v 5, none, .op (.mov (.l 0))⟩]) (
.block 0 (
.loop (
.seq (
.seq (
.reg [⟨.l, none, .op (.mov (.v 5))⟩,
⟨.l, none, .op (.mov (.v 0))⟩,
⟨.l, none, .op (.nck (.l 0))⟩,
⟨.l, none, .op (.fla 0 (.l 0))⟩,
⟨.l, none, .op (.ld false 1 (.l 0))⟩,
⟨.v 7, none, .op (.bin .lss .i64 (.l 4) (.l 0))⟩]) (
.ite (.v 7) (
.skip) (
.exit 0))) (
.seq (
.block 1 (
.seq (
.any 14 13 [⟨0, ⟨.v 10, none, .op (.mov (.v 0))⟩, false, []⟩,
⟨1, ⟨.v 11, none, .op (.nck (.v 10))⟩, false, []⟩,
⟨2, ⟨.v 12, none, .op (.fla 1 (.v 11))⟩, false, []⟩,
⟨3, ⟨.v 13, none, .op (.ld false 1 (.v 12))⟩, false, []⟩,
⟨4, ⟨.v 14, none, .op (.mov (.v 5))⟩, false, []⟩,
⟨5, ⟨.v 15, none, .op (.mov (.v 1))⟩, false, []⟩,
⟨6, ⟨.v 16, none, .op (.mov (.v 5))⟩, false, []⟩,
⟨7, ⟨.v 17, none, .op (.ixa 1 (.v 15) (.v 16))⟩, false, []⟩,
⟨8, ⟨.v 18, none, .op (.ld false 1 (.v 17))⟩, false, []⟩,
⟨9, ⟨.v 19, none, .op (.ixa 194 (.v 13) (.v 14))⟩, false, []⟩,
⟨10, ⟨.v 20, none, .op (.fla 66 (.v 19))⟩, false, []⟩,
⟨11, ⟨.v 21, none, .op (.ixd 64 1 (.v 20) (.v 18))⟩, false, []⟩,
⟨12, ⟨.v 22, none, .op (.ld false 1 (.v 21))⟩, false, []⟩,
⟨13, ⟨.v 6, none, .op (.mov (.v 22))⟩, false, []⟩]) (
.seq (
.seq (
.reg [⟨.l, none, .op (.mov (.v 6))⟩,
⟨.v 8, none, .op (.snil false (.l 0))⟩]) (
.ite (.v 8) (
.seq (
.reg [⟨.l, none, .op (.mov (.v 5))⟩,
⟨.l, none, .op (.mov (.v 1))⟩,
⟨.v 3, none, .op (.mov (.l 1))⟩,
⟨.v 4, none, .op (.mov (.l 0))⟩]) (
.ret)) (
.skip))) (
.seq (
.reg [⟨.l, none, .op (.mov (.v 1))⟩,
⟨.l, none, .op (.mov (.v 5))⟩,
⟨.l, none, .op (.ixa 1 (.l 1) (.l 0))⟩,
⟨.l, none, .op (.ld false 1 (.l 0))⟩,
⟨.l, none, .op (.mov (.v 5))⟩,
⟨.v 9, none, .op (.bin .neq .i64 (.l 1) (.l 0))⟩]) (
.ite (.v 9) (
.reg [⟨.l, none, .op (.mov (.v 1))⟩,
⟨.l, none, .op (.mov (.v 6))⟩,
⟨.l, none, .call 121 [(.l 1), (.l 0)]⟩,
⟨.v 1, none, .op (.mov (.l 0))⟩]) (
.skip)))))) (
.reg [⟨.l, none, .op (.mov (.v 5))⟩,
⟨.l, none, .op (.bin .add .i64 (.l 0) (.c (.int .i64 1)))⟩,
⟨.v 5, none, .op (.mov (.l 0))⟩])))))) (
.seq (
.reg [⟨.l, none, .op (.mov (.v 0))⟩,
⟨.l, none, .op (.nck (.l 0))⟩,
⟨.l, none, .op (.fla 0 (.l 0))⟩,
⟨.l, none, .op (.ld false 1 (.l 0))⟩,
⟨.l, none, .op (.mov (.v 1))⟩,
⟨.v 3, none, .op (.mov (.l 1))⟩,
⟨.v 4, none, .op (.mov (.l 0))⟩]) (
.ret)))⟩
/- 150 (ptr cayley/chain.tower).close -/
def c_chain_tower_close : Ay.Fn := ⟨2, [some 0, some 1, none, none, none, none, none, none, none, none, none, none], [],
.seq (
.reg [⟨.l, none, .op (.mov (.v 0))⟩,
⟨.l, none, .op (.nck (.l 0))⟩,
⟨.l, none, .op (.fla 1 (.l 0))⟩,
⟨.l, none, .op (.ld false 1 (.l 0))⟩,
⟨.l, none, .op (.mov (.v 1))⟩,
⟨.l, none, .op (.ixa 194 (.l 1) (.l 0))⟩,
⟨.v 2, none, .op (.mov (.l 0))⟩]) (
.seq (
.reg [⟨.v 3, none, .op (.mov (.c (.int .i64 0)))⟩]) (
.block 0 (
.loop (
.seq (
.seq (
.reg [⟨.l, none, .op (.mov (.v 3))⟩,
⟨.l, none, .op (.mov (.v 2))⟩,
⟨.l, none, .op (.nck (.l 0))⟩,
⟨.l, none, .op (.fla 1 (.l 0))⟩,
⟨.l, none, .op (.ld false 1 (.l 0))⟩,
⟨.l, none, .op (.lens (.l 0))⟩,
⟨.v 8, none, .op (.bin .lss .i64 (.l 5) (.l 0))⟩]) (
.ite (.v 8) (
.skip) (
.exit 0))) (
.seq (
.block 1 (
.seq (
.reg [⟨.l, none, .op (.mov (.v 2))⟩,
⟨.l, none, .op (.nck (.l 0))⟩,
⟨.l, none, .op (.fla 1 (.l 0))⟩,
⟨.l, none, .op (.ld false 1 (.l 0))⟩,
⟨.l, none, .op (.mov (.v 3))⟩,
⟨.l, none, .op (.ixa 1 (.l 1) (.l 0))⟩,
⟨.l, none, .op (.ld false 1 (.l 0))⟩,
⟨.v 4, none, .op (.mov (.l 0))⟩]) (
.block 2 (
.loop (
.seq (
.seq (
.any 12 11 [⟨0, ⟨.v 12, none, .op (.mov (.v 2))⟩, false, []⟩,
⟨1, ⟨.v 13, none, .op (.mov (.v 4))⟩, false, []⟩,
⟨2, ⟨.v 14, none, .op (.nck (.v 12))⟩, false, []⟩,
⟨3, ⟨.v 15, none, .op (.fla 130 (.v 14))⟩, false, []⟩,
⟨4, ⟨.v 16, none, .op (.ixd 64 1 (.v 15) (.v 13))⟩, false, []⟩,
⟨5, ⟨.v 17, none, .op (.ld false 1 (.v 16))⟩, false, []⟩,
⟨6, ⟨.v 18, none, .op (.mov (.v 2))⟩, false, []⟩,
⟨7, ⟨.v 19, none, .op (.nck (.v 18))⟩, false, []⟩,
⟨8, ⟨.v 20, none, .op (.fla 0 (.v 19))⟩, false, []⟩,
⟨9, ⟨.v 21, none, .op (.ld false 1 (.v 20))⟩, false, []⟩,
⟨10, ⟨.v 22, none, .op (.lens (.v 21))⟩, false, []⟩,
⟨11, ⟨.v 9, none, .op (.bin .lss .i64 (.v 17) (.v 22))⟩, false, []⟩]) (
.ite (.v 9) (
.skip) (
.exit 2))) (
.block 3 (
.seq (
.any 13 12 [⟨0, ⟨.v 12, none, .op (.mov (.v 2))⟩, false, []⟩,
⟨1, ⟨.v 13, none, .op (.nck (.v 12))⟩, false, []⟩,
⟨2, ⟨.v 14, none, .op (.fla 0 (.v 13))⟩, false, []⟩,
⟨3, ⟨.v 15, none, .op (.ld false 1 (.v 14))⟩, false, []⟩,
⟨4, ⟨.v 16, none, .op (.mov (.v 2))⟩, false, []⟩,
⟨5, ⟨.v 17, none, .op (.mov (.v 4))⟩, false, []⟩,
⟨6, ⟨.v 18, none, .op (.nck (.v 16))⟩, false, []⟩,
⟨7, ⟨.v 19, none, .op (.fla 130 (.v 18))⟩, false, []⟩,
⟨8, ⟨.v 20, none, .op (.ixd 64 1 (.v 19) (.v 17))⟩, false, []⟩,
⟨9, ⟨.v 21, none, .op (.ld false 1 (.v 20))⟩, false, []⟩,
⟨10, ⟨.v 22, none, .op (.ixa 1 (.v 15) (.v 21))⟩, false, []⟩,
⟨11, ⟨.v 23, none, .op (.ld false 1 (.v 22))⟩, false, []⟩,
⟨12, ⟨.v 5, none, .op (.mov (.v 23))⟩, false, []⟩]) (
.seq (
.any 11 10 [⟨0, ⟨.v 12, none, .op (.mov (.v 2))⟩, false, []⟩,
⟨1, ⟨.v 13, none, .op (.mov (.v 4))⟩, false, []⟩,
⟨2, ⟨.v 14, none, .op (.nck (.v 12))⟩, false, []⟩,
⟨3, ⟨.v 15, none, .op (.fla 130 (.v 14))⟩, false, []⟩,
⟨4, ⟨.v 16, none, .op (.ixd 64 1 (.v 15) (.v 13))⟩, false, []⟩,
⟨5, ⟨.v 17, none, .op (.ld false 1 (.v 16))⟩, false, []⟩,
⟨6, ⟨.v 18, none, .op (.bin .add .i64 (.v 17) (.c (.int .i64 1)))⟩, false, []⟩,
⟨7, ⟨.v 19, none, .op (.nck (.v 12))⟩, false, []⟩,
⟨8, ⟨.v 20, none, .op (.fla 130 (.v 19))⟩, false, []⟩,
⟨9, ⟨.v 21, none, .op (.ixd 64 1 (.v 20) (.v 13))⟩, false, []⟩,
⟨10, ⟨.n, none, .op (.st 1 (.v 21) (.v 18))⟩, false, []⟩]) (
.seq (
.reg [⟨.l, none, .op (.mov (.v 2))⟩,
⟨.l, none, .op (.mov (.v 4))⟩,
⟨.l, none, .op (.nck (.l 1))⟩,
⟨.l, none, .op (.fla 2 (.l 0))⟩,
⟨.l, none, .op (.ixd 64 1 (.l 0) (.l 2))⟩,
⟨.l, none, .op (.ld false 1 (.l 0))⟩,
⟨.l, none, .op (.mov (.v 5))⟩,
⟨.l, none, .call 121 [(.l 1), (.l 0)]⟩,
⟨.v 6, none, .op (.mov (.l 0))⟩]) (
.seq (
.reg [⟨.l, none, .op (.mov (.v 6))⟩,
⟨.l, none, .op (.mov (.v 1))⟩,
⟨.l, none, .op (.ixa 1 (.l 1) (.l 0))⟩,
⟨.l, none, .op (.ld false 1 (.l 0))⟩,
⟨.v 7, none, .op (.mov (.l 0))⟩]) (
.seq (
.seq (
.reg [⟨.l, none, .op (.mov (.v 2))⟩,
⟨.l, none, .op (.mov (.v 7))⟩,
⟨.l, none, .op (.nck (.l 1))⟩,
⟨.l, none, .op (.fla 2 (.l 0))⟩,
⟨.l, none, .op (.ixd 64 1 (.l 0) (.l 2))⟩,
⟨.l, none, .op (.ld false 1 (.l 0))⟩,
⟨.v 10, none, .op (.snil false (.l 0))⟩]) (
.ite (.v 10) (
.seq (
.any 15 13 [⟨0, ⟨.v 12, none, .op (.mov (.v 2))⟩, false, []⟩,
⟨1, ⟨.v 13, none, .op (.mov (.v 7))⟩, false, []⟩,
⟨2, ⟨.v 14, none, .op (.mov (.v 2))⟩, false, []⟩,
⟨3, ⟨.v 15, none, .op (.mov (.v 7))⟩, false, []⟩,
⟨4, ⟨.v 16, none, .op (.mov (.v 6))⟩, false, []⟩,
⟨5, ⟨.v 17, none, .op (.mov (.v 6))⟩, false, []⟩,
⟨7, ⟨.v 19, none, .op (.nck (.v 12))⟩, false, []⟩,
⟨8, ⟨.v 20, none, .op (.fla 2 (.v 19))⟩, false, []⟩,
⟨11, ⟨.v 22, none, .op (.nck (.v 14))⟩, false, []⟩,
⟨12, ⟨.v 23, none, .op (.fla 66 (.v 22))⟩, false, []⟩,
⟨6, ⟨.v 18, none, .call 122 [(.v 17)]⟩, false, []⟩,
⟨9, ⟨.v 21, none, .op (.ixd 64 1 (.v 20) (.v 13))⟩, false, []⟩,
⟨10, ⟨.n, none, .op (.st 1 (.v 21) (.v 16))⟩, false, []⟩,
⟨13, ⟨.v 24, none, .op (.ixd 64 1 (.v 23) (.v 15))⟩, false, []⟩,
⟨14, ⟨.n, none, .op (.st 1 (.v 24) (.v 18))⟩, false, []⟩]) (
.seq (
.reg [⟨.l, none, .op (.mov (.v 2))⟩,
⟨.l, none, .op (.mov (.v 2))⟩,
⟨.l, none, .op (.nck (.l 0))⟩,
⟨.l, none, .op (.fla 1 (.l 0))⟩,
⟨.l, none, .op (.ld false 1 (.l 0))⟩,
⟨.l, none, .op (.mov (.v 7))⟩,
⟨.l, none, .op (.bls 1 [(.int .i64 0)] 1 [(0, 1, (.l 0))])⟩,
⟨.l, none, .op (.app 1 8 (.l 2) (.l 0))⟩,
⟨.l, none, .op (.nck (.l 7))⟩,
⟨.l, none, .op (.fla 1 (.l 0))⟩,
⟨.n, none, .op (.st 1 (.l 0) (.l 2))⟩]) (
.exit 3))) (
.skip))) (
.seq (
.reg [⟨.l, none, .op (.mov (.v 1))⟩,
⟨.l, none, .op (.bin .add .i64 (.l 0) (.c (.int .i64 1)))⟩,
⟨.l, none, .op (.mov (.v 0))⟩,
⟨.l, none, .op (.nck (.l 0))⟩,
⟨.l, none, .op (.fla 0 (.l 0))⟩,
⟨.l, none, .op (.ld false 1 (.l 0))⟩,
⟨.v 11, none, .op (.bin .lss .i64 (.l 4) (.l 0))⟩]) (
.ite (.v 11) (
.reg [⟨.l, none, .op (.mov (.v 0))⟩,
⟨.l, none, .op (.mov (.v 6))⟩,
⟨.l, none, .op (.mov (.v 2))⟩,
⟨.l, none, .op (.mov (.v 7))⟩,
⟨.l, none, .op (.nck (.l 1))⟩,
⟨.l, none, .op (.fla 66 (.l 0))⟩,
⟨.l, none, .op (.ixd 64 1 (.l 0) (.l 2))⟩,
⟨.l, none, .op (.ld false 1 (.l 0))⟩,
⟨.l, none, .call 121 [(.l 6), (.l 0)]⟩,
⟨.l, none, .op (.mov (.v 1))⟩,
⟨.l, none, .op (.bin .add .i64 (.l 0) (.c (.int .i64 1)))⟩,
⟨.l, none, .call 115 [(.l 10), (.l 2), (.l 0)]⟩]) (
.skip)))))))))))))) (
.reg [⟨.l, none, .op (.mov (.v 3))⟩,
⟨.l, none, .op (.bin .add .i64 (.l 0) (.c (.int .i64 1)))⟩,
⟨.v 3, none, .op (.mov (.l 0))⟩]))))))⟩
/- 151 slices.Collect[int] -/
def c_slices_Collect_int : Ay.Fn := ⟨1, [some 0, none], [.v 1],
.seq (
.reg [⟨.v 1, none, .op (.mov (.c .nils))⟩]) (
.seq (
.reg [⟨.l, none, .op (.mov (.v 0))⟩,
⟨.l, none, .call 172 [(.c .nils), (.l 0)]⟩,
⟨.v 1, none, .op (.mov (.l 0))⟩]) (
.ret))⟩
/- 152 slices.Values[[]int,int] part 1 -/
def c_slices_Values_int_int_1 : Ay.Fn := ⟨2, [some 0, some 1, none, none, none, none, none, none], [],
.seq (
.reg [⟨.v 3, none, .op (.ld false 1 (.v 1))⟩,
⟨.v 4, none, .op (.lens (.v 3))⟩,
⟨.v 5, none, .op (.mov (.c (.int .i64 0)))⟩]) (
.block 0 (
.loop (
.seq (
.reg [⟨.v 6, none, .op (.bin .lss .i64 (.v 5) (.v 4))⟩]) (
.seq (
.ite (.v 6) (
.skip) (
.exit 0)) (
.seq (
.block 1 (
.seq (
.reg [⟨.l, none, .op (.ixa 1 (.v 3) (.v 5))⟩,
⟨.l, none, .op (.ld false 1 (.l 0))⟩,
⟨.v 2, none, .op (.mov (.l 0))⟩]) (
.seq (
.reg [⟨.l, none, .op (.mov (.v 0))⟩,
⟨.l, none, .op (.mov (.v 2))⟩,
⟨.l, none, .callv (.l 1) [(.l 0)]⟩,
⟨.v 7, none, .op (.not (.l 0))⟩]) (
.ite (.v 7) (
.ret) (
.skip))))) (
.reg [⟨.l, none, .op (.bin .add .i64 (.v 5) (.c (.int .i64 1)))⟩,
⟨.v 5, none, .op (.mov (.l 0))⟩]))))))⟩
/- 153 slices.EqualFunc[[][]int,[][]int,[]int,[]int] -/
def c_slices_EqualFunc_int_int_int_int : Ay.Fn := ⟨3, [some 0, some 1, some 2, none, none, none, none, none, none, none, none, none, none], [.v 3],
.seq (
.reg [⟨.v 3, none, .op (.mov (.c (.bool false)))⟩]) (
.seq (
.seq (
.reg [⟨.l, none, .op (.mov (.v 0))⟩,
⟨.l, none, .op (.lens (.l 0))⟩,
⟨.l, none, .op (.mov (.v 1))⟩,
⟨.l, none, .op (.lens (.l 0))⟩,
⟨.v 7, none, .op (.bin .neq .i64 (.l 2) (.l 0))⟩]) (
.ite (.v 7) (
.seq (
.reg [⟨.v 3, none, .op (.mov (.c (.bool false)))⟩]) (
.ret)) (
.skip))) (
.seq (
.seq (
.reg [⟨.v 8, none, .op (.mov (.v 0))⟩,
⟨.v 9, none, .op (.lens (.v 8))⟩,
⟨.v 10, none, .op (.mov (.c (.int .i64 0)))⟩]) (
.block 0 (
.loop (
.seq (
.reg [⟨.v 11, none, .op (.bin .lss .i64 (.v 10) (.v 9))⟩]) (
.seq (
.ite (.v 11) (
.skip) (
.exit 0)) (
.seq (
.block 1 (
.seq (
.reg [⟨.l, none, .op (.mov (.v 10))⟩,
⟨.l, none, .op (.ixa 1 (.v 8) (.v 10))⟩,
⟨.l, none, .op (.ld false 1 (.l 0))⟩,
⟨.v 4, none, .op (.mov (.l 2))⟩,
⟨.v 5, none, .op (.mov (.l 0))⟩]) (
.seq (
.reg [⟨.l, none, .op (.mov (.v 1))⟩,
⟨.l, none, .op (.mov (.v 4))⟩,
⟨.l, none, .op (.ixa 1 (.l 1) (.l 0))⟩,
⟨.l, none, .op (.ld false 1 (.l 0))⟩,
⟨.v 6, none, .op (.mov (.l 0))⟩]) (
.seq (
.reg [⟨.l, none, .op (.mov (.v 2))⟩,
⟨.l, none, .op (.mov (.v 5))⟩,
⟨.l, none, .op (.mov (.v 6))⟩,
⟨.l, none, .callv (.l 2) [(.l 1), (.l 0)]⟩,
⟨.v 12, none, .op (.not (.l 0))⟩]) (
.ite (.v 12) (
.seq (
.reg [⟨.v 3, none, .op (.mov (.c (.bool false)))⟩]) (
.ret)) (
.skip)))))) (
.reg [⟨.l, none, .op (.bin .add .i64 (.v 10) (.c (.int .i64 1)))⟩,
⟨.v 10, none, .op (.mov (.l 0))⟩]))))))) (
.seq (
.reg [⟨.v 3, none, .op (.mov (.c (.bool true)))⟩]) (
.ret))))⟩
/- 154 slices.Equal[[]int,int] -/
def c_slices_Equal_int_int : Ay.Fn := ⟨2, [some 0, some 1, none, none, none, none, none, none, none], [.v 2],
.seq (
.reg [⟨.v 2, none, .op (.mov (.c (.bool false)))⟩]) (
.seq (
.seq (
.reg [⟨.l, none, .op (.mov (.v 0))⟩,
⟨.l, none, .op (.lens (.l 0))⟩,
⟨.l, none, .op (.mov (.v 1))⟩,
⟨.l, none, .op (.lens (.l 0))⟩,
⟨.v 4, none, .op (.bin .neq .i64 (.l 2) (.l 0))⟩]) (
.ite (.v 4) (
.seq (
.reg [⟨.v 2, none, .op (.mov (.c (.bool false)))⟩]) (
.ret)) (
.skip))) (
.seq (
.seq (
.reg [⟨.l, none, .op (.mov (.v 0))⟩,
⟨.v 5, none, .op (.lens (.l 0))⟩,
⟨.v 6, none, .op (.mov (.c (.int .i64 0)))⟩]) (
.block 0 (
.loop (
.seq (
.reg [⟨.v 7, none, .op (.bin .lss .i64 (.v 6) (.v 5))⟩]) (
.seq (
.ite (.v 7) (
.skip) (
.exit 0)) (
.seq (
.block 1 (
.seq (
.reg [⟨.l, none, .op (.mov (.v 6))⟩,
⟨.v 3, none, .op (.mov (.l 0))⟩]) (
.seq (
.any 9 8 [⟨0, ⟨.v 9, none, .op (.mov (.v 0))⟩, false, []⟩,
⟨1, ⟨.v 10, none, .op (.mov (.v 3))⟩, false, []⟩,
⟨2, ⟨.v 11, none, .op (.ixa 1 (.v 9) (.v 10))⟩, false, []⟩,
⟨3, ⟨.v 12, none, .op (.ld false 1 (.v 11))⟩, false, []⟩,
⟨4, ⟨.v 13, none, .op (.mov (.v 1))⟩, false, []⟩,
⟨5, ⟨.v 14, none, .op (.mov (.v 3))⟩, false, []⟩,
⟨6, ⟨.v 15, none, .op (.ixa 1 (.v 13) (.v 14))⟩, false, []⟩,
⟨7, ⟨.v 16, none, .op (.ld false 1 (.v 15))⟩, false, []⟩,
⟨8, ⟨.v 8, none, .op (.bin .neq .i64 (.v 12) (.v 16))⟩, false, []⟩]) (
.ite (.v 8) (
.seq (
.reg [⟨.v 2, none, .op (.mov (.c (.bool false)))⟩]) (
.ret)) (
.skip))))) (
.reg [⟨.l, none, .op (.bin .add .i64 (.v 6) (.c (.int .i64 1)))⟩,
⟨.v 6, none, .op (.mov (.l 0))⟩]))))))) (
.seq (
.reg [⟨.v 2, none, .op (.mov (.c (.bool true)))⟩]) (
.ret))))⟩
/- 155 slices.EqualFunc[[][]cayley/api.Perm,[][]cayley/api.Perm,[]cayley/api.Perm,[]cayley/api.Perm] -/
def c_slices_EqualFunc_api_Perm_api_Perm_api_Perm_api_Perm : Ay.Fn := ⟨3, [some 0, some 1, some 2, none, none, none, none, none, none, none, none, none, none], [.v 3],
.seq (
.reg [⟨.v 3, none, .op (.mov (.c (.bool false)))⟩]) (
.seq (
.seq (
.reg [⟨.l, none, .op (.mov (.v 0))⟩,
⟨.l, none, .op (.lens (.l 0))⟩,
⟨.l, none, .op (.mov (.v 1))⟩,
⟨.l, none, .op (.lens (.l 0))⟩,
⟨.v 7, none, .op (.bin .neq .i64 (.l 2) (.l 0))⟩]) (
.ite (.v 7) (
.seq (
.reg [⟨.v 3, none, .op (.mov (.c (.bool false)))⟩]) (
.ret)) (
.skip))) (
.seq (
.seq (
.reg [⟨.v 8, none, .op (.mov (.v 0))⟩,
⟨.v 9, none, .op (.lens (.v 8))⟩,
⟨.v 10, none, .op (.mov (.c (.int .i64 0)))⟩]) (
.block 0 (
.loop (
.seq (
.reg [⟨.v 11, none, .op (.bin .lss .i64 (.v 10) (.v 9))⟩]) (
.seq (
.ite (.v 11) (
.skip) (
.exit 0)) (
.seq (
.block 1 (
.seq (
.reg [⟨.l, none, .op (.mov (.v 10))⟩,
⟨.l, none, .op (.ixa 1 (.v 8) (.v 10))⟩,
⟨.l, none, .op (.ld false 1 (.l 0))⟩,
⟨.v 4, none, .op (.mov (.l 2))⟩,
⟨.v 5, none, .op (.mov (.l 0))⟩]) (
.seq (
.reg [⟨.l, none, .op (.mov (.v 1))⟩,
⟨.l, none, .op (.mov (.v 4))⟩,
⟨.l, none, .op (.ixa 1 (.l 1) (.l 0))⟩,
⟨.l, none, .op (.ld false 1 (.l 0))⟩,
⟨.v 6, none, .op (.mov (.l 0))⟩]) (
.seq (
.reg [⟨.l, none, .op (.mov (.v 2))⟩,
⟨.l, none, .op (.mov (.v 5))⟩,
⟨.l, none, .op (.mov (.v 6))⟩,
⟨.l, none, .callv (.l 2) [(.l 1), (.l 0)]⟩,
⟨.v 12, none, .op (.not (.l 0))⟩]) (
.ite (.v 12) (
.seq (
.reg [⟨.v 3, none, .op (.mov (.c (.bool false)))⟩]) (
.ret)) (
.skip)))))) (
.reg [⟨.l, none, .op (.bin .add .i64 (.v 10) (.c (.int .i64 1)))⟩,
⟨.v 10, none, .op (.mov (.l 0))⟩]))))))) (
.seq (
.reg [⟨.v 3, none, .op (.mov (.c (.bool true)))⟩]) (
.ret))))⟩
/- 156 cayley/chain.same part 1 -/
def c_chain_same_1 : Ay.Fn := ⟨2, [some 0, some 1, none], [.v 2],
.seq (
.reg [⟨.v 2, none, .op (.mov (.c (.bool false)))⟩]) (
.seq (
.reg [⟨.l, none, .op (.mov (.v 0))⟩,
⟨.l, none, .op (.mov (.v 1))⟩,
⟨.l, none, .call 157 [(.l 1), (.l 0), (.c (.fn 158 [] []))]⟩,
⟨.v 2, none, .op (.mov (.l 0))⟩]) (
.ret))⟩
/- 157 slices.EqualFunc[[]cayley/api.Perm,[]cayley/api.Perm,cayley/api.Perm,cayley/api.Perm] -/
def c_slices_EqualFunc_api_Perm_api_Perm_api_Perm_api_Perm_x157 : Ay.Fn := ⟨3, [some 0, some 1, some 2, none, none, none, none, none, none, none, none, none, none], [.v 3],
.seq (
.reg [⟨.v 3, none, .op (.mov (.c (.bool false)))⟩]) (
.seq (
.seq (
.reg [⟨.l, none, .op (.mov (.v 0))⟩,
⟨.l, none, .op (.lens (.l 0))⟩,
⟨.l, none, .op (.mov (.v 1))⟩,
⟨.l, none, .op (.lens (.l 0))⟩,
⟨.v 7, none, .op (.bin .neq .i64 (.l 2) (.l 0))⟩]) (
.ite (.v 7) (
.seq (
.reg [⟨.v 3, none, .op (.mov (.c (.bool false)))⟩]) (
.ret)) (
.skip))) (
.seq (
.seq (
.reg [⟨.v 8, none, .op (.mov (.v 0))⟩,
⟨.v 9, none, .op (.lens (.v 8))⟩,
⟨.v 10, none, .op (.mov (.c (.int .i64 0)))⟩]) (
.block 0 (
.loop (
.seq (
.reg [⟨.v 11, none, .op (.bin .lss .i64 (.v 10) (.v 9))⟩]) (
.seq (
.ite (.v 11) (
.skip) (
.exit 0)) (
.seq (
.block 1 (
.seq (
.reg [⟨.l, none, .op (.mov (.v 10))⟩,
⟨.l, none, .op (.ixa 1 (.v 8) (.v 10))⟩,
⟨.l, none, .op (.ld false 1 (.l 0))⟩,
⟨.v 4, none, .op (.mov (.l 2))⟩,
⟨.v 5, none, .op (.mov (.l 0))⟩]) (
.seq (
.reg [⟨.l, none, .op (.mov (.v 1))⟩,
⟨.l, none, .op (.mov (.v 4))⟩,
⟨.l, none, .op (.ixa 1 (.l 1) (.l 0))⟩,
⟨.l, none, .op (.ld false 1 (.l 0))⟩,
⟨.v 6, none, .op (.mov (.l 0))⟩]) (
.seq (
.reg [⟨.l, none, .op (.mov (.v 2))⟩,
⟨.l, none, .op (.mov (.v 5))⟩,
⟨.l, none, .op (.mov (.v 6))⟩,
⟨.l, none, .callv (.l 2) [(.l 1), (.l 0)]⟩,
⟨.v 12, none, .op (.not (.l 0))⟩]) (
.ite (.v 12) (
.seq (
.reg [⟨.v 3, none, .op (.mov (.c (.bool false)))⟩]) (
.ret)) (
.skip)))))) (
.reg [⟨.l, none, .op (.bin .add .i64 (.v 10) (.c (.int .i64 1)))⟩,
⟨.v 10, none, .op (.mov (.l 0))⟩]))))))) (
.seq (
.reg [⟨.v 3, none, .op (.mov (.c (.bool true)))⟩]) (
.ret))))⟩
/- 158 cayley/chain.same part 1 part 1 -/
def c_chain_same_1_1 : Ay.Fn := ⟨2, [some 0, some 1, none], [.v 2],
.seq (
.reg [⟨.v 2, none, .op (.mov (.c (.bool false)))⟩]) (
.seq (
.reg [⟨.l, none, .op (.mov (.v 0))⟩,
⟨.l, none, .op (.mov (.v 1))⟩,
⟨.l, none, .call 159 [(.l 1), (.l 0)]⟩,
⟨.v 2, none, .op (.mov (.l 0))⟩]) (
.ret))⟩
/- 159 slices.Equal[cayley/api.Perm,int] -/
def c_slices_Equal_api_Perm_int : Ay.Fn := ⟨2, [some 0, some 1, none, none, none, none, none, none, none], [.v 2],
.seq (
.reg [⟨.v 2, none, .op (.mov (.c (.bool false)))⟩]) (
.seq (
.seq (
.reg [⟨.l, none, .op (.mov (.v 0))⟩,
⟨.l, none, .op (.lens (.l 0))⟩,
⟨.l, none, .op (.mov (.v 1))⟩,
⟨.l, none, .op (.lens (.l 0))⟩,
⟨.v 4, none, .op (.bin .neq .i64 (.l 2) (.l 0))⟩]) (
.ite (.v 4) (
.seq (
.reg [⟨.v 2, none, .op (.mov (.c (.bool false)))⟩]) (
.ret)) (
.skip))) (
.seq (
.seq (
.reg [⟨.l, none, .op (.mov (.v 0))⟩,
⟨.v 5, none, .op (.lens (.l 0))⟩,
⟨.v 6, none, .op (.mov (.c (.int .i64 0)))⟩]) (
.block 0 (
.loop (
.seq (
.reg [⟨.v 7, none, .op (.bin .lss .i64 (.v 6) (.v 5))⟩]) (
.seq (
.ite (.v 7) (
.skip) (
.exit 0)) (
.seq (
.block 1 (
.seq (
.reg [⟨.l, none, .op (.mov (.v 6))⟩,
⟨.v 3, none, .op (.mov (.l 0))⟩]) (
.seq (
.any 9 8 [⟨0, ⟨.v 9, none, .op (.mov (.v 0))⟩, false, []⟩,
⟨1, ⟨.v 10, none, .op (.mov (.v 3))⟩, false, []⟩,
⟨2, ⟨.v 11, none, .op (.ixa 1 (.v 9) (.v 10))⟩, false, []⟩,
⟨3, ⟨.v 12, none, .op (.ld false 1 (.v 11))⟩, false, []⟩,
⟨4, ⟨.v 13, none, .op (.mov (.v 1))⟩, false, []⟩,
⟨5, ⟨.v 14, none, .op (.mov (.v 3))⟩, false, []⟩,
⟨6, ⟨.v 15, none, .op (.ixa 1 (.v 13) (.v 14))⟩, false, []⟩,
⟨7, ⟨.v 16, none, .op (.ld false 1 (.v 15))⟩, false, []⟩,
⟨8, ⟨.v 8, none, .op (.bin .neq .i64 (.v 12) (.v 16))⟩, false, []⟩]) (
.ite (.v 8) (
.seq (
.reg [⟨.v 2, none, .op (.mov (.c (.bool false)))⟩]) (
.ret)) (
.skip))))) (
.reg [⟨.l, none, .op (.bin .add .i64 (.v 6) (.c (.int .i64 1)))⟩,
⟨.v 6, none, .op (.mov (.l 0))⟩]))))))) (
.seq (
.reg [⟨.v 2, none, .op (.mov (.c (.bool true)))⟩]) (
.ret))))⟩
/- 160 slices.isNaN[int] -/
def c_slices_isNaN_int : Ay.Fn := ⟨1, [some 0, none], [.v 1],
.seq (
.reg [⟨.v 1, none, .op (.mov (.c (.bool false)))⟩]) (
.seq (
.reg [⟨.l, none, .op (.mov (.v 0))⟩,
⟨.l, none, .op (.mov (.v 0))⟩,
⟨.l, none, .op (.bin .neq .i64 (.l 1) (.l 0))⟩,
⟨.v 1, none, .op (.mov (.l 0))⟩]) (
.ret))⟩
/- 161 slices.IndexFunc[[]int,int] -/
def c_slices_IndexFunc_int_int : Ay.Fn := ⟨2, [some 0, some 1, none, none, none, none, none, none], [.v 2],
.seq (
.reg [⟨.v 2, none, .op (.mov (.c (.int .i64 0)))⟩]) (
.seq (
.seq (
.reg [⟨.l, none, .op (.mov (.v 0))⟩,
⟨.v 4, none, .op (.lens (.l 0))⟩,
⟨.v 5, none, .op (.mov (.c (.int .i64 0)))⟩]) (
.block 0 (
.loop (
.seq (
.reg [⟨.v 6, none, .op (.bin .lss .i64 (.v 5) (.v 4))⟩]) (
.seq (
.ite (.v 6) (
.skip) (
.exit 0)) (
.seq (
.block 1 (
.seq (
.reg [⟨.l, none, .op (.mov (.v 5))⟩,
⟨.v 3, none, .op (.mov (.l 0))⟩]) (
.seq (
.reg [⟨.l, none, .op (.mov (.v 1))⟩,
⟨.l, none, .op (.mov (.v 0))⟩,
⟨.l, none, .op (.mov (.v 3))⟩,
⟨.l, none, .op (.ixa 1 (.l 1) (.l 0))⟩,
⟨.l, none, .op (.ld false 1 (.l 0))⟩,
⟨.v 7, none, .callv (.l 4) [(.l 0)]⟩]) (
.ite (.v 7) (
.seq (
.reg [⟨.l, none, .op (.mov (.v 3))⟩,
⟨.v 2, none, .op (.mov (.l 0))⟩]) (
.ret)) (
.skip))))) (
.reg [⟨.l, none, .op (.bin .add .i64 (.v 5) (.c (.int .i64 1)))⟩,
⟨.v 5, none, .op (.mov (.l 0))⟩]))))))) (
.seq (
.reg [⟨.v 2, none, .op (.mov (.c (.int .i64 (-1))))⟩]) (
.ret)))⟩
/- 162 cayley/rank.step part 1 -/
def c_rank_step_1 : Ay.Fn := ⟨3, [some 0, some 1, some 2, none], [.v 3],
.seq (
.reg [⟨.v 3, none, .op (.mov (.c (.bool false)))⟩]) (
.seq (
.any 7 6 [⟨0, ⟨.v 4, none, .op (.ld false 1 (.v 1))⟩, false, []⟩,
⟨1, ⟨.v 5, none, .op (.mov (.v 0))⟩, false, []⟩,
⟨2, ⟨.v 6, none, .op (.ixa 1 (.v 4) (.v 5))⟩, false, []⟩,
⟨3, ⟨.v 7, none, .op (.ld false 1 (.v 6))⟩, false, []⟩,
⟨4, ⟨.v 8, none, .op (.ld false 1 (.v 2))⟩, false, []⟩,
⟨5, ⟨.v 9, none, .op (.bin .eql .i64 (.v 7) (.v 8))⟩, false, []⟩,
⟨6, ⟨.v 3, none, .op (.mov (.v 9))⟩, false, []⟩]) (
.ret))⟩
/- 163 cayley/rank.mul -/
def c_rank_mul : Ay.Fn := ⟨2, [some 0, some 1, none, none, none, none, none, none, none, none], [.v 2],
.seq (
.reg [⟨.v 2, none, .op (.mov (.c .nils))⟩]) (
.seq (
.reg [⟨.l, none, .op (.mov (.v 0))⟩,
⟨.l, none, .op (.lens (.l 0))⟩,
⟨.l, none, .op (.mks 1 8 [(.int .i64 0)] (.l 0) (.l 0))⟩,
⟨.v 3, none, .op (.mov (.l 0))⟩]) (
.seq (
.seq (
.reg [⟨.v 6, none, .op (.mov (.v 0))⟩,
⟨.v 7, none, .op (.lens (.v 6))⟩,
⟨.v 8, none, .op (.mov (.c (.int .i64 0)))⟩]) (
.block 0 (
.loop (
.seq (
.reg [⟨.v 9, none, .op (.bin .lss .i64 (.v 8) (.v 7))⟩]) (
.seq (
.ite (.v 9) (
.skip) (
.exit 0)) (
.seq (
.block 1 (
.seq (
.reg [⟨.l, none, .op (.mov (.v 8))⟩,
⟨.l, none, .op (.ixa 1 (.v 6) (.v 8))⟩,
⟨.l, none, .op (.ld false 1 (.l 0))⟩,
⟨.v 4, none, .op (.mov (.l 2))⟩,
⟨.v 5, none, .op (.mov (.l 0))⟩]) (
.reg [⟨.l, none, .op (.mov (.v 3))⟩,
⟨.l, none, .op (.mov (.v 4))⟩,
⟨.l, none, .op (.mov (.v 1))⟩,
⟨.l, none, .op (.mov (.v 5))⟩,
⟨.l, none, .op (.ixa 1 (.l 1) (.l 0))⟩,
⟨.l, none, .op (.ld false 1 (.l 0))⟩,
⟨.l, none, .op (.ixa 1 (.l 5) (.l 4))⟩,
⟨.n, none, .op (.st 1 (.l 0) (.l 1))⟩]))) (
.reg [⟨.l, none, .op (.bin .add .i64 (.v 8) (.c (.int .i64 1)))⟩,
⟨.v 8, none, .op (.mov (.l 0))⟩]))))))) (
.seq (
.reg [⟨.l, none, .op (.mov (.v 3))⟩,
⟨.v 2, none, .op (.mov (.l 0))⟩]) (
.ret))))⟩
/- 164 slices.siftDownOrdered[int] -/
def c_slices_siftDownOrdered_int : Ay.Fn := ⟨4, [some 0, some 1, some 2, some 3, none, none, none, none, none], [],
.seq (
.reg [⟨.l, none, .op (.mov (.v 1))⟩,
⟨.v 4, none, .op (.mov (.l 0))⟩]) (
.block 0 (
.loop (
.block 1 (
.seq (
.reg [⟨.l, none, .op (.mov (.v 4))⟩,
⟨.l, none, .op (.bin .mul .i64 (.c (.int .i64 2)) (.l 0))⟩,
⟨.l, none, .op (.bin .add .i64 (.l 0) (.c (.int .i64 1)))⟩,
⟨.v 5, none, .op (.mov (.l 0))⟩]) (
.seq (
.seq (
.reg [⟨.l, none, .op (.mov (.v 5))⟩,
⟨.l, none, .op (.mov (.v 2))⟩,
⟨.v 6, none, .op (.bin .geq .i64 (.l 1) (.l 0))⟩]) (
.ite (.v 6) (
.exit 0) (
.skip))) (
.seq (
.seq (
.any 20 19 [⟨0, ⟨.v 9, none, .op (.mov (.v 5))⟩, false, []⟩,
⟨1, ⟨.v 10, none, .op (.bin .add .i64 (.v 9) (.c (.int .i64 1)))⟩, false, []⟩,
⟨2, ⟨.v 11, none, .op (.mov (.v 2))⟩, false, []⟩,
⟨3, ⟨.v 12, none, .op (.bin .lss .i64 (.v 10) (.v 11))⟩, false, []⟩,
⟨4, ⟨.v 13, none, .op (.mov (.v 12))⟩, false, []⟩,
⟨5, ⟨.v 14, some ((.v 13), true), .op (.mov (.v 0))⟩, false, []⟩,
⟨6, ⟨.v 15, some ((.v 13), true), .op (.mov (.v 3))⟩, false, []⟩,
⟨7, ⟨.v 16, some ((.v 13), true), .op (.mov (.v 5))⟩, false, []⟩,
⟨8, ⟨.v 17, some ((.v 13), true), .op (.bin .add .i64 (.v 15) (.v 16))⟩, false, []⟩,
⟨9, ⟨.v 18, some ((.v 13), true), .op (.ixa 1 (.v 14) (.v 17))⟩, false, []⟩,
⟨10, ⟨.v 19, some ((.v 13), true), .op (.ld false 1 (.v 18))⟩, false, []⟩,
⟨11, ⟨.v 20, some ((.v 13), true), .op (.mov (.v 0))⟩, false, []⟩,
⟨12, ⟨.v 21, some ((.v 13), true), .op (.mov (.v 3))⟩, false, []⟩,
⟨13, ⟨.v 22, some ((.v 13), true), .op (.mov (.v 5))⟩, false, []⟩,
⟨14, ⟨.v 23, some ((.v 13), true), .op (.bin .add .i64 (.v 21) (.v 22))⟩, false, []⟩,
⟨15, ⟨.v 24, some ((.v 13), true), .op (.bin .add .i64 (.v 23) (.c (.int .i64 1)))⟩, false, []⟩,
⟨16, ⟨.v 25, some ((.v 13), true), .op (.ixa 1 (.v 20) (.v 24))⟩, false, []⟩,
⟨17, ⟨.v 26, some ((.v 13), true), .op (.ld false 1 (.v 25))⟩, false, []⟩,
⟨18, ⟨.v 27, some ((.v 13), true), .call 133 [(.v 19), (.v 26)]⟩, false, []⟩,
⟨19, ⟨.v 7, none, .op (.pick (.v 13) (.v 27) (.c (.bool false)))⟩, false, []⟩]) (
.ite (.v 7) (
.reg [⟨.l, none, .op (.mov (.v 5))⟩,
⟨.l, none, .op (.bin .add .i64 (.l 0) (.c (.int .i64 1)))⟩,
⟨.v 5, none, .op (.mov (.l 0))⟩]) (
.skip))) (
.seq (
.seq (
.any 14 13 [⟨0, ⟨.v 9, none, .op (.mov (.v 0))⟩, false, []⟩,
⟨1, ⟨.v 10, none, .op (.mov (.v 3))⟩, false, []⟩,
⟨2, ⟨.v 11, none, .op (.mov (.v 4))⟩, false, []⟩,
⟨3, ⟨.v 12, none, .op (.bin .add .i64 (.v 10) (.v 11))⟩, false, []⟩,
⟨4, ⟨.v 13, none, .op (.ixa 1 (.v 9) (.v 12))⟩, false, []⟩,
⟨5, ⟨.v 14, none, .op (.ld false 1 (.v 13))⟩, false, []⟩,
⟨6, ⟨.v 15, none, .op (.mov (.v 0))⟩, false, []⟩,
⟨7, ⟨.v 16, none, .op (.mov (.v 3))⟩, false, []⟩,
⟨8, ⟨.v 17, none, .op (.mov (.v 5))⟩, false, []⟩,
⟨9, ⟨.v 18, none, .op (.bin .add .i64 (.v 16) (.v 17))⟩, false, []⟩,
⟨10, ⟨.v 19, none, .op (.ixa 1 (.v 15) (.v 18))⟩, false, []⟩,
⟨11, ⟨.v 20, none, .op (.ld false 1 (.v 19))⟩, false, []⟩,
⟨12, ⟨.v 21, none, .call 133 [(.v 14), (.v 20)]⟩, false, []⟩,
⟨13, ⟨.v 8, none, .op (.not (.v 21))⟩, false, []⟩]) (
.ite (.v 8) (
.ret) (
.skip))) (
.seq (
.any 24 22 [⟨0, ⟨.v 9, none, .op (.mov (.v 0))⟩, false, []⟩,
⟨1, ⟨.v 10, none, .op (.mov (.v 3))⟩, false, []⟩,
⟨2, ⟨.v 11, none, .op (.mov (.v 4))⟩, false, []⟩,
⟨3, ⟨.v 12, none, .op (.bin .add .i64 (.v 10) (.v 11))⟩, false, []⟩,
⟨4, ⟨.v 13, none, .op (.mov (.v 0))⟩, false, []⟩,
⟨5, ⟨.v 14, none, .op (.mov (.v 3))⟩, false, []⟩,
⟨6, ⟨.v 15, none, .op (.mov (.v 5))⟩, false, []⟩,
⟨7, ⟨.v 16, none, .op (.bin .add .i64 (.v 14) (.v 15))⟩, false, []⟩,
⟨8, ⟨.v 17, none, .op (.mov (.v 0))⟩, false, []⟩,
⟨9, ⟨.v 18, none, .op (.mov (.v 3))⟩, false, []⟩,
⟨10, ⟨.v 19, none, .op (.mov (.v 5))⟩, false, []⟩,
⟨11, ⟨.v 20, none, .op (.bin .add .i64 (.v 18) (.v 19))⟩, false, []⟩,
⟨12, ⟨.v 21, none, .op (.ixa 1 (.v 17) (.v 20))⟩, false, []⟩,
⟨13, ⟨.v 22, none, .op (.ld false 1 (.v 21))⟩, false, []⟩,
⟨14, ⟨.v 23, none, .op (.mov (.v 0))⟩, false, []⟩,
⟨15, ⟨.v 24, none, .op (.mov (.v 3))⟩, false, []⟩,
⟨16, ⟨.v 25, none, .op (.mov (.v 4))⟩, false, []⟩,
⟨17, ⟨.v 26, none, .op (.bin .add .i64 (.v 24) (.v 25))⟩, false, []⟩,
⟨18, ⟨.v 27, none, .op (.ixa 1 (.v 23) (.v 26))⟩, false, []⟩,
⟨19, ⟨.v 28, none, .op (.ld false 1 (.v 27))⟩, false, []⟩,
⟨20, ⟨.v 29, none, .op (.ixa 1 (.v 9) (.v 12))⟩, false, []⟩,
⟨21, ⟨.n, none, .op (.st 1 (.v 29) (.v 22))⟩, false, []⟩,
⟨22, ⟨.v 30, none, .op (.ixa 1 (.v 13) (.v 16))⟩, false, []⟩,
⟨23, ⟨.n, none, .op (.st 1 (.v 30) (.v 28))⟩, false, []⟩]) (
.reg [⟨.l, none, .op (.mov (.v 5))⟩,
⟨.v 4, none, .op (.mov (.l 0))⟩])))))))))⟩
/- 165 slices.nextPowerOfTwo -/
def c_slices_nextPowerOfTwo : Ay.Fn := ⟨1, [some 0, none], [.v 1],
.seq (
.reg [⟨.v 1, none, .op (.mov (.c (.int .u64 0)))⟩]) (
.seq (
.reg [⟨.l, none, .op (.mov (.v 0))⟩,
⟨.l, none, .op (.conv .u64 (.l 0))⟩,
⟨.l, none, .call 103 [(.l 0)]⟩,
⟨.l, none, .op (.shf .shl .u64 (.c (.int .u64 1)) (.l 0))⟩,
⟨.v 1, none, .op (.mov (.l 0))⟩]) (
.ret))⟩
/- 166 (ptr slices.xorshift).Next -/
def c_slices_xorshift_Next : Ay.Fn := ⟨1, [some 0, none], [.v 1],
.seq (
.reg [⟨.v 1, none, .op (.mov (.c (.int .u64 0)))⟩]) (
.seq (
.any 10 9 [⟨0, ⟨.v 2, none, .op (.mov (.v 0))⟩, false, []⟩,
⟨1, ⟨.v 3, none, .op (.nck (.v 2))⟩, false, []⟩,
⟨2, ⟨.v 4, none, .op (.ld false 1 (.v 3))⟩, false, []⟩,
⟨3, ⟨.v 5, none, .op (.mov (.v 0))⟩, false, []⟩,
⟨4, ⟨.v 6, none, .op (.nck (.v 5))⟩, false, []⟩,
⟨5, ⟨.v 7, none, .op (.ld false 1 (.v 6))⟩, false, []⟩,
⟨6, ⟨.v 8, none, .op (.shf .shl .u64 (.v 7) (.c (.int .u64 13)))⟩, false, []⟩,
⟨7, ⟨.v 9, none, .op (.bin .xor .u64 (.v 4) (.v 8))⟩, false, []⟩,
⟨8, ⟨.v 10, none, .op (.nck (.v 2))⟩, false, []⟩,
⟨9, ⟨.n, none, .op (.st 1 (.v 10) (.v 9))⟩, false, []⟩]) (
.seq (
.any 10 9 [⟨0, ⟨.v 2, none, .op (.mov (.v 0))⟩, false, []⟩,
⟨1, ⟨.v 3, none, .op (.nck (.v 2))⟩, false, []⟩,
⟨2, ⟨.v 4, none, .op (.ld false 1 (.v 3))⟩, false, []⟩,
⟨3, ⟨.v 5, none, .op (.mov (.v 0))⟩, false, []⟩,
⟨4, ⟨.v 6, none, .op (.nck (.v 5))⟩, false, []⟩,
⟨5, ⟨.v 7, none, .op (.ld false 1 (.v 6))⟩, false, []⟩,
⟨6, ⟨.v 8, none, .op (.shf .shr .u64 (.v 7) (.c (.int .u64 7)))⟩, false, []⟩,
⟨7, ⟨.v 9, none, .op (.bin .xor .u64 (.v 4) (.v 8))⟩, false, []⟩,
⟨8, ⟨.v 10, none, .op (.nck (.v 2))⟩, false, []⟩,
⟨9, ⟨.n, none, .op (.st 1 (.v 10) (.v 9))⟩, false, []⟩]) (
.seq (
.any 10 9 [⟨0, ⟨.v 2, none, .op (.mov (.v 0))⟩, false, []⟩,
⟨1, ⟨.v 3, none, .op (.nck (.v 2))⟩, false, []⟩,
⟨2, ⟨.v 4, none, .op (.ld false 1 (.v 3))⟩, false, []⟩,
⟨3, ⟨.v 5, none, .op (.mov (.v 0))⟩, false, []⟩,
⟨4, ⟨.v 6, none, .op (.nck (.v 5))⟩, false, []⟩,
⟨5, ⟨.v 7, none, .op (.ld false 1 (.v 6))⟩, false, []⟩,
⟨6, ⟨.v 8, none, .op (.shf .shl .u64 (.v 7) (.c (.int .u64 17)))⟩, false, []⟩,
⟨7, ⟨.v 9, none, .op (.bin .xor .u64 (.v 4) (.v 8))⟩, false, []⟩,
⟨8, ⟨.v 10, none, .op (.nck (.v 2))⟩, false, []⟩,
⟨9, ⟨.n, none, .op (.st 1 (.v 10) (.v 9))⟩, false, []⟩]) (
.seq (
.reg [⟨.l, none, .op (.mov (.v 0))⟩,
⟨.l, none, .op (.nck (.l 0))⟩,
⟨.l, none, .op (.ld false 1 (.l 0))⟩,
⟨.v 1, none, .op (.mov (.l 0))⟩]) (
.ret)))))⟩
/- 167 slices.medianAdjacentOrdered[int] -/
def c_slices_medianAdjacentOrdered_int : Ay.Fn := ⟨3, [some 0, some 1, some 2, none], [.v 3],
.seq (
.reg [⟨.v 3, none, .op (.mov (.c (.int .i64 0)))⟩]) (
.seq (
.reg [⟨.l, none, .op (.mov (.v 0))⟩,
⟨.l, none, .op (.mov (.v 1))⟩,
⟨.l, none, .op (.bin .sub .i64 (.l 0) (.c (.int .i64 1)))⟩,
⟨.l, none, .op (.mov (.v 1))⟩,
⟨.l, none, .op (.mov (.v 1))⟩,
⟨.l, none, .op (.bin .add .i64 (.l 0) (.c (.int .i64 1)))⟩,
⟨.l, none, .op (.mov (.v 2))⟩,
⟨.l, none, .call 168 [(.l 6), (.l 4), (.l 3), (.l 1), (.l 0)]⟩,
⟨.v 3, none, .op (.mov (.l 0))⟩]) (
.ret))⟩
/- 168 slices.medianOrdered[int] -/
def c_slices_medianOrdered_int : Ay.Fn := ⟨5, [some 0, some 1, some 2, some 3, some 4, none], [.v 5],
.seq (
.reg [⟨.v 5, none, .op (.mov (.c (.int .i64 0)))⟩]) (
.seq (
.reg [⟨.l, none, .op (.mov (.v 0))⟩,
⟨.l, none, .op (.mov (.v 1))⟩,
⟨.l, none, .op (.mov (.v 2))⟩,
⟨.l, none, .op (.mov (.v 4))⟩,
⟨.l, none, .call 173 [(.l 3), (.l 2), (.l 1), (.l 0)]⟩,
⟨.l, none, .op (.mov (.l 0))⟩,
⟨.l, none, .op (.ext (.l 0) 0)⟩,
⟨.l, none, .op (.ext (.l 1) 1)⟩,
⟨.v 1, none, .op (.mov (.l 1))⟩,
⟨.v 2, none, .op (.mov (.l 0))⟩]) (
.seq (
.reg [⟨.l, none, .op (.mov (.v 0))⟩,
⟨.l, none, .op (.mov (.v 2))⟩,
⟨.l, none, .op (.mov (.v 3))⟩,
⟨.l, none, .op (.mov (.v 4))⟩,
⟨.l, none, .call 173 [(.l 3), (.l 2), (.l 1), (.l 0)]⟩,
⟨.l, none, .op (.mov (.l 0))⟩,
⟨.l, none, .op (.ext (.l 0) 0)⟩,
⟨.l, none, .op (.ext (.l 1) 1)⟩,
⟨.v 2, none, .op (.mov (.l 1))⟩,
⟨.v 3, none, .op (.mov (.l 0))⟩]) (
.seq (
.reg [⟨.l, none, .op (.mov (.v 0))⟩,
⟨.l, none, .op (.mov (.v 1))⟩,
⟨.l, none, .op (.mov (.v 2))⟩,
⟨.l, none, .op (.mov (.v 4))⟩,
⟨.l, none, .call 173 [(.l 3), (.l 2), (.l 1), (.l 0)]⟩,
⟨.l, none, .op (.mov (.l 0))⟩,
⟨.l, none, .op (.ext (.l 0) 0)⟩,
⟨.l, none, .op (.ext (.l 1) 1)⟩,
⟨.v 1, none, .op (.mov (.l 1))⟩,
⟨.v 2, none, .op (.mov (.l 0))⟩]) (
.seq (
.reg [⟨.l, none, .op (.mov (.v 2))⟩,
⟨.v 5, none, .op (.mov (.l 0))⟩]) (
.ret)))))⟩
/- 169 slices.siftDownCmpFunc[cayley/classes.class] -/
def c_slices_siftDownCmpFunc_classes_class : Ay.Fn := ⟨5, [some 0, some 1, some 2, some 3, some 4, none, none, none, none, none], [],
.seq (
.reg [⟨.l, none, .op (.mov (.v 1))⟩,
⟨.v 5, none, .op (.mov (.l 0))⟩]) (
.block 0 (
.loop (
.block 1 (
.seq (
.reg [⟨.l, none, .op (.mov (.v 5))⟩,
⟨.l, none, .op (.bin .mul .i64 (.c (.int .i64 2)) (.l 0))⟩,
⟨.l, none, .op (.bin .add .i64 (.l 0) (.c (.int .i64 1)))⟩,
⟨.v 6, none, .op (.mov (.l 0))⟩]) (
.seq (
.seq (
.reg [⟨.l, none, .op (.mov (.v 6))⟩,
⟨.l, none, .op (.mov (.v 2))⟩,
⟨.v 7, none, .op (.bin .geq .i64 (.l 1) (.l 0))⟩]) (
.ite (.v 7) (
.exit 0) (
.skip))) (
.seq (
.seq (
.any 22 21 [⟨0, ⟨.v 10, none, .op (.mov (.v 6))⟩, false, []⟩,
⟨1, ⟨.v 11, none, .op (.bin .add .i64 (.v 10) (.c (.int .i64 1)))⟩, false, []⟩,
⟨2, ⟨.v 12, none, .op (.mov (.v 2))⟩, false, []⟩,
⟨3, ⟨.v 13, none, .op (.bin .lss .i64 (.v 11) (.v 12))⟩, false, []⟩,
⟨4, ⟨.v 14, none, .op (.mov (.v 13))⟩, false, []⟩,
⟨5, ⟨.v 15, some ((.v 14), true), .op (.mov (.v 4))⟩, false, []⟩,
⟨6, ⟨.v 16, some ((.v 14), true), .op (.mov (.v 0))⟩, false, []⟩,
⟨7, ⟨.v 17, some ((.v 14), true), .op (.mov (.v 3))⟩, false, []⟩,
⟨8, ⟨.v 18, some ((.v 14), true), .op (.mov (.v 6))⟩, false, []⟩,
⟨9, ⟨.v 19, some ((.v 14), true), .op (.bin .add .i64 (.v 17) (.v 18))⟩, false, []⟩,
⟨10, ⟨.v 20, some ((.v 14), true), .op (.ixa 4 (.v 16) (.v 19))⟩, false, []⟩,
⟨11, ⟨.v 21, some ((.v 14), true), .op (.ld true 4 (.v 20))⟩, false, []⟩,
⟨12, ⟨.v 22, some ((.v 14), true), .op (.mov (.v 0))⟩, false, []⟩,
⟨13, ⟨.v 23, some ((.v 14), true), .op (.mov (.v 3))⟩, false, []⟩,
⟨14, ⟨.v 24, some ((.v 14), true), .op (.mov (.v 6))⟩, false, []⟩,
⟨15, ⟨.v 25, some ((.v 14), true), .op (.bin .add .i64 (.v 23) (.v 24))⟩, false, []⟩,
⟨16, ⟨.v 26, some ((.v 14), true), .op (.bin .add .i64 (.v 25) (.c (.int .i64 1)))⟩, false, []⟩,
⟨17, ⟨.v 27, some ((.v 14), true), .op (.ixa 4 (.v 22) (.v 26))⟩, false, []⟩,
⟨18, ⟨.v 28, some ((.v 14), true), .op (.ld true 4 (.v 27))⟩, false, []⟩,
⟨19, ⟨.v 29, some ((.v 14), true), .callv (.v 15) [(.v 21), (.v 28)]⟩, false, []⟩,
⟨20, ⟨.v 30, some ((.v 14), true), .op (.bin .lss .i64 (.v 29) (.c (.int .i64 0)))⟩, false, []⟩,
⟨21, ⟨.v 8, none, .op (.pick (.v 14) (.v 30) (.c (.bool false)))⟩, false, []⟩]) (
.ite (.v 8) (
.reg [⟨.l, none, .op (.mov (.v 6))⟩,
⟨.l, none, .op (.bin .add .i64 (.l 0) (.c (.int .i64 1)))⟩,
⟨.v 6, none, .op (.mov (.l 0))⟩]) (
.skip))) (
.seq (
.seq (
.any 16 15 [⟨0, ⟨.v 10, none, .op (.mov (.v 4))⟩, false, []⟩,
⟨1, ⟨.v 11, none, .op (.mov (.v 0))⟩, false, []⟩,
⟨2, ⟨.v 12, none, .op (.mov (.v 3))⟩, false, []⟩,
⟨3, ⟨.v 13, none, .op (.mov (.v 5))⟩, false, []⟩,
⟨4, ⟨.v 14, none, .op (.bin .add .i64 (.v 12) (.v 13))⟩, false, []⟩,
⟨5, ⟨.v 15, none, .op (.ixa 4 (.v 11) (.v 14))⟩, false, []⟩,
⟨6, ⟨.v 16, none, .op (.ld true 4 (.v 15))⟩, false, []⟩,
⟨7, ⟨.v 17, none, .op (.mov (.v 0))⟩, false, []⟩,
⟨8, ⟨.v 18, none, .op (.mov (.v 3))⟩, false, []⟩,
⟨9, ⟨.v 19, none, .op (.mov (.v 6))⟩, false, []⟩,
⟨10, ⟨.v 20, none, .op (.bin .add .i64 (.v 18) (.v 19))⟩, false, []⟩,
⟨11, ⟨.v 21, none, .op (.ixa 4 (.v 17) (.v 20))⟩, false, []⟩,
⟨12, ⟨.v 22, none, .op (.ld true 4 (.v 21))⟩, false, []⟩,
⟨13, ⟨.v 23, none, .callv (.v 10) [(.v 16), (.v 22)]⟩, false, []⟩,
⟨14, ⟨.v 24, none, .op (.bin .lss .i64 (.v 23) (.c (.int .i64 0)))⟩, false, []⟩,
⟨15, ⟨.v 9, none, .op (.not (.v 24))⟩, false, []⟩]) (
.ite (.v 9) (
.ret) (
.skip))) (
.seq (
.any 24 22 [⟨0, ⟨.v 10, none, .op (.mov (.v 0))⟩, false, []⟩,
⟨1, ⟨.v 11, none, .op (.mov (.v 3))⟩, false, []⟩,
⟨2, ⟨.v 12, none, .op (.mov (.v 5))⟩, false, []⟩,
⟨3, ⟨.v 13, none, .op (.bin .add .i64 (.v 11) (.v 12))⟩, false, []⟩,
⟨4, ⟨.v 14, none, .op (.mov (.v 0))⟩, false, []⟩,
⟨5, ⟨.v 15, none, .op (.mov (.v 3))⟩, false, []⟩,
⟨6, ⟨.v 16, none, .op (.mov (.v 6))⟩, false, []⟩,
⟨7, ⟨.v 17, none, .op (.bin .add .i64 (.v 15) (.v 16))⟩, false, []⟩,
⟨8, ⟨.v 18, none, .op (.mov (.v 0))⟩, false, []⟩,
⟨9, ⟨.v 19, none, .op (.mov (.v 3))⟩, false, []⟩,
⟨10, ⟨.v 20, none, .op (.mov (.v 6))⟩, false, []⟩,
⟨11, ⟨.v 21, none, .op (.bin .add .i64 (.v 19) (.v 20))⟩, false, []⟩,
⟨12, ⟨.v 22, none, .op (.ixa 4 (.v 18) (.v 21))⟩, false, []⟩,
⟨13, ⟨.v 23, none, .op (.ld true 4 (.v 22))⟩, false, []⟩,
⟨14, ⟨.v 24, none, .op (.mov (.v 0))⟩, false, []⟩,
⟨15, ⟨.v 25, none, .op (.mov (.v 3))⟩, false, []⟩,
⟨16, ⟨.v 26, none, .op (.mov (.v 5))⟩, false, []⟩,
⟨17, ⟨.v 27, none, .op (.bin .add .i64 (.v 25) (.v 26))⟩, false, []⟩,
⟨18, ⟨.v 28, none, .op (.ixa 4 (.v 24) (.v 27))⟩, false, []⟩,
⟨19, ⟨.v 29, none, .op (.ld true 4 (.v 28))⟩, false, []⟩,
⟨20, ⟨.v 30, none, .op (.ixa 4 (.v 10) (.v 13))⟩, false, []⟩,
⟨21, ⟨.n, none, .op (.st 4 (.v 30) (.v 23))⟩, false, []⟩,
⟨22, ⟨.v 31, none, .op (.ixa 4 (.v 14) (.v 17))⟩, false, []⟩,
⟨23, ⟨.n, none, .op (.st 4 (.v 31) (.v 29))⟩, false, []⟩]) (
.reg [⟨.l, none, .op (.mov (.v 6))⟩,
⟨.v 5, none, .op (.mov (.l 0))⟩])))))))))⟩
/- 170 slices.medianAdjacentCmpFunc[cayley/classes.class] -/
def c_slices_medianAdjacentCmpFunc_classes_class : Ay.Fn := ⟨4, [some 0, some 1, some 2, some 3, none], [.v 4],
.seq (
.reg [⟨.v 4, none, .op (.mov (.c (.int .i64 0)))⟩]) (
.seq (
.reg [⟨.l, none, .op (.mov (.v 0))⟩,
⟨.l, none, .op (.mov (.v 1))⟩,
⟨.l, none, .op (.bin .sub .i64 (.l 0) (.c (.int .i64 1)))⟩,
⟨.l, none, .op (.mov (.v 1))⟩,
⟨.l, none, .op (.mov (.v 1))⟩,
⟨.l, none, .op (.bin .add .i64 (.l 0) (.c (.int .i64 1)))⟩,
⟨.l, none, .op (.mov (.v 2))⟩,
⟨.l, none, .op (.mov (.v 3))⟩,
⟨.l, none, .call 171 [(.l 7), (.l 5), (.l 4), (.l 2), (.l 1), (.l 0)]⟩,
⟨.v 4, none, .op (.mov (.l 0))⟩]) (
.ret))⟩
/- 171 slices.medianCmpFunc[cayley/classes.class] -/
def c_slices_medianCmpFunc_classes_class : Ay.Fn := ⟨6, [some 0, some 1, some 2, some 3, some 4, some 5, none], [.v 6],
.seq (
.reg [⟨.v 6, none, .op (.mov (.c (.int .i64 0)))⟩]) (
.seq (
.reg [⟨.l, none, .op (.mov (.v 0))⟩,
⟨.l, none, .op (.mov (.v 1))⟩,
⟨.l, none, .op (.mov (.v 2))⟩,
⟨.l, none, .op (.mov (.v 4))⟩,
⟨.l, none, .op (.mov (.v 5))⟩,
⟨.l, none, .call 174 [(.l 4), (.l 3), (.l 2), (.l 1), (.l 0)]⟩,
⟨.l, none, .op (.mov (.l 0))⟩,
⟨.l, none, .op (.ext (.l 0) 0)⟩,
⟨.l, none, .op (.ext (.l 1) 1)⟩,
⟨.v 1, none, .op (.mov (.l 1))⟩,
⟨.v 2, none, .op (.mov (.l 0))⟩]) (
.seq (
.reg [⟨.l, none, .op (.mov (.v 0))⟩,
⟨.l, none, .op (.mov (.v 2))⟩,
⟨.l, none, .op (.mov (.v 3))⟩,
⟨.l, none, .op (.mov (.v 4))⟩,
⟨.l, none, .op (.mov (.v 5))⟩,
⟨.l, none, .call 174 [(.l 4), (.l 3), (.l 2), (.l 1), (.l 0)]⟩,
⟨.l, none, .op (.mov (.l 0))⟩,
⟨.l, none, .op (.ext (.l 0) 0)⟩,
⟨.l, none, .op (.ext (.l 1) 1)⟩,
⟨.v 2, none, .op (.mov (.l 1))⟩,
⟨.v 3, none, .op (.mov (.l 0))⟩]) (
.seq (
.reg [⟨.l, none, .op (.mov (.v 0))⟩,
⟨.l, none, .op (.mov (.v 1))⟩,
⟨.l, none, .op (.mov (.v 2))⟩,
⟨.l, none, .op (.mov (.v 4))⟩,
⟨.l, none, .op (.mov (.v 5))⟩,
⟨.l, none, .call 174 [(.l 4), (.l 3), (.l 2), (.l 1), (.l 0)]⟩,
⟨.l, none, .op (.mov (.l 0))⟩,
⟨.l, none, .op (.ext (.l 0) 0)⟩,
⟨.l, none, .op (.ext (.l 1) 1)⟩,
⟨.v 1, none, .op (.mov (.l 1))⟩,
⟨.v 2, none, .op (.mov (.l 0))⟩]) (
.seq (
.reg [⟨.l, none, .op (.mov (.v 2))⟩,
⟨.v 6, none, .op (.mov (.l 0))⟩]) (
.ret)))))⟩
/- 172 slices.AppendSeq[[]int,int] -/
def c_slices_AppendSeq_int_int : Ay.Fn := ⟨2, [some 0, some 1, none, none, none, none, none], [.v 3],
.seq (
.reg [⟨.v 2, none, .op (.box (.v 0))⟩,
⟨.v 3, none, .op (.mov (.c .nils))⟩]) (
.seq (
.seq (
.reg [⟨.v 5, none, .op (.mov (.v 1))⟩]) (
.block 0 (
.range (.v 5) [6] (
.reg [⟨.v 4, none, .op (.mov (.v 6))⟩]) (
.block 1 (
.reg [⟨.l, none, .op (.ld false 1 (.v 2))⟩,
⟨.l, none, .op (.mov (.v 4))⟩,
⟨.l, none, .op (.bls 1 [(.int .i64 0)] 1 [(0, 1, (.l 0))])⟩,
⟨.l, none, .op (.app 1 8 (.l 2) (.l 0))⟩,
⟨.n, none, .op (.st 1 (.v 2) (.l 0))⟩]))))) (
.seq (
.reg [⟨.l, none, .op (.ld false 1 (.v 2))⟩,
⟨.v 3, none, .op (.mov (.l 0))⟩]) (
.ret)))⟩
/- 173 slices.order2Ordered[int] -/
def c_slices_order2Ordered_int : Ay.Fn := ⟨4, [some 0, some 1, some 2, some 3, none, none, none], [.v 4, .v 5],
.seq (
.reg [⟨.v 4, none, .op (.mov (.c (.int .i64 0)))⟩,
⟨.v 5, none, .op (.mov (.c (.int .i64 0)))⟩]) (
.seq (
.seq (
.any 9 8 [⟨0, ⟨.v 7, none, .op (.mov (.v 0))⟩, false, []⟩,
⟨1, ⟨.v 8, none, .op (.mov (.v 2))⟩, false, []⟩,
⟨2, ⟨.v 9, none, .op (.ixa 1 (.v 7) (.v 8))⟩, false, []⟩,
⟨3, ⟨.v 10, none, .op (.ld false 1 (.v 9))⟩, false, []⟩,
⟨4, ⟨.v 11, none, .op (.mov (.v 0))⟩, false, []⟩,
⟨5, ⟨.v 12, none, .op (.mov (.v 1))⟩, false, []⟩,
⟨6, ⟨.v 13, none, .op (.ixa 1 (.v 11) (.v 12))⟩, false, []⟩,
⟨7, ⟨.v 14, none, .op (.ld false 1 (.v 13))⟩, false, []⟩,
⟨8, ⟨.v 6, none, .call 133 [(.v 10), (.v 14)]⟩, false, []⟩]) (
.ite (.v 6) (
.seq (
.reg [⟨.l, none, .op (.mov (.v 3))⟩,
⟨.l, none, .op (.nck (.l 0))⟩,
⟨.l, none, .op (.ld false 1 (.l 0))⟩,
⟨.l, none, .op (.bin .add .i64 (.l 0) (.c (.int .i64 1)))⟩,
⟨.l, none, .op (.nck (.l 3))⟩,
⟨.n, none, .op (.st 1 (.l 0) (.l 1))⟩]) (
.seq (
.reg [⟨.l, none, .op (.mov (.v 2))⟩,
⟨.l, none, .op (.mov (.v 1))⟩,
⟨.v 4, none, .op (.mov (.l 1))⟩,
⟨.v 5, none, .op (.mov (.l 0))⟩]) (
.ret))) (
.skip))) (
.seq (
.reg [⟨.l, none, .op (.mov (.v 1))⟩,
⟨.l, none, .op (.mov (.v 2))⟩,
⟨.v 4, none, .op (.mov (.l 1))⟩,
⟨.v 5, none, .op (.mov (.l 0))⟩]) (
.ret)))⟩
/- 174 slices.order2CmpFunc[cayley/classes.class] -/
def c_slices_order2CmpFunc_classes_class : Ay.Fn := ⟨5, [some 0, some 1, some 2, some 3, some 4, none, none, none], [.v 5, .v 6],
.seq (
.reg [⟨.v 5, none, .op (.mov (.c (.int .i64 0)))⟩,
⟨.v 6, none, .op (.mov (.c (.int .i64 0)))⟩]) (
.seq (
.seq (
.any 11 10 [⟨0, ⟨.v 8, none, .op (.mov (.v 4))⟩, false, []⟩,
⟨1, ⟨.v 9, none, .op (.mov (.v 0))⟩, false, []⟩,
⟨2, ⟨.v 10, none, .op (.mov (.v 2))⟩, false, []⟩,
⟨3, ⟨.v 11, none, .op (.ixa 4 (.v 9) (.v 10))⟩, false, []⟩,
⟨4, ⟨.v 12, none, .op (.ld true 4 (.v 11))⟩, false, []⟩,
⟨5, ⟨.v 13, none, .op (.mov (.v 0))⟩, false, []⟩,
⟨6, ⟨.v 14, none, .op (.mov (.v 1))⟩, false, []⟩,
⟨7, ⟨.v 15, none, .op (.ixa 4 (.v 13) (.v 14))⟩, false, []⟩,
⟨8, ⟨.v 16, none, .op (.ld true 4 (.v 15))⟩, false, []⟩,
⟨9, ⟨.v 17, none, .callv (.v 8) [(.v 12), (.v 16)]⟩, false, []⟩,
⟨10, ⟨.v 7, none, .op (.bin .lss .i64 (.v 17) (.c (.int .i64 0)))⟩, false, []⟩]) (
.ite (.v 7) (
.seq (
.reg [⟨.l, none, .op (.mov (.v 3))⟩,
⟨.l, none, .op (.nck (.l 0))⟩,
⟨.l, none, .op (.ld false 1 (.l 0))⟩,
⟨.l, none, .op (.bin .add .i64 (.l 0) (.c (.int .i64 1)))⟩,
⟨.l, none, .op (.nck (.l 3))⟩,
⟨.n, none, .op (.st 1 (.l 0) (.l 1))⟩]) (
.seq (
.reg [⟨.l, none, .op (.mov (.v 2))⟩,
⟨.l, none, .op (.mov (.v 1))⟩,
⟨.v 5, none, .op (.mov (.l 1))⟩,
⟨.v 6, none, .op (.mov (.l 0))⟩]) (
.ret))) (
.skip))) (
.seq (
.reg [⟨.l, none, .op (.mov (.v 1))⟩,
⟨.l, none, .op (.mov (.v 2))⟩,
⟨.v 5, none, .op (.mov (.l 1))⟩,
⟨.v 6, none, .op (.mov (.l 0))⟩]) (
.ret)))⟩
def tab : List (Nat × Ay.Fn) := [(6, c_law15_ClassesKnown), (11, c_law15_awake), (12, c_classes_Powers), (14, c_classes_Exponent), (16, c_classes_Real), (18, c_kit_Same_int), (19, c_kit_Same_bool), (20, c_classes_List), (22, c_classes_Map), (24, c_classes_Find), (26, c_law15_sameClasses), (27, c_classes_Centraliser), (29, c_classes_Elements), (32, c_kit_SamePerms), (33, c_law15_groups), (34, c_kit_SameLists_int), (40, c_kit_Mul), (41, c_kit_Inv), (44, c_ref08_Make), (45, c_classes_of), (46, c_classes_group_find), (47, c_classes_power_classes_element), (50, c_classes_element_inverse), (51, c_kit_Own_int), (52, c_perm_Check), (53, c_classes_element_word), (54, c_ref01_Check), (55, c_chain_Make), (56, c_rank_Size), (57, c_slices_Equal_classes_element_int), (58, c_classes_element_times), (59, c_chain_In), (60, c_chain_Strong), (63, c_kit_One), (67, c_ref08_empty), (68, c_ref08_Table_insert), (69, c_ref08_Table_close), (70, c_ref08_Table_chain), (71, c_rank_List), (72, c_slices_Sort_int_int), (73, c_perm_Order), (74, c_slices_SortFunc_classes_class_classes_class), (75, c_classes_of_1), (76, c_classes_class_order), (77, c_classes_class_size), (78, c_classes_class_first), (79, c_cmp_Or_int), (85, c_kit_Fine), (86, c_chain_build), (87, c_chain_tower_chain), (88, c_chain_Check), (89, c_rank_sizes), (90, c_chain_both), (91, c_chain_sift), (92, c_chain_reps), (93, c_slices_Clone_api_Perm_int), (96, c_ref08_Table_entries), (97, c_ref08_Table_fresh), (98, c_ref08_Table_orbit), (99, c_ref08_Table_least), (100, c_rank_elements), (101, c_rank_one), (102, c_slices_pdqsortOrdered_int), (103, c_math_bits_Len), (104, c_perm_first), (105, c_perm_cycles), (106, c_perm_gcd), (107, c_slices_pdqsortCmpFunc_classes_class), (108, c_cmp_Compare_int), (114, c_chain_newTower), (115, c_chain_tower_add), (116, c_slices_Sorted_int), (117, c_slices_Values_int_int), (118, c_chain_tower_least), (119, c_chain_same), (120, c_slices_BinarySearch_int_int), (121, c_chain_mul), (122, c_chain_inv), (123, c_chain_reps_1), (124, c_rank_elements_1), (125, c_rank_choices), (126, c_rank_step), (127, c_slices_insertionSortOrdered_int), (128, c_slices_heapSortOrdered_int), (129, c_slices_breakPatternsOrdered_int), (130, c_slices_choosePivotOrdered_int), (131, c_slices_reverseRangeOrdered_int), (132, c_slices_partialInsertionSortOrdered_int), (133, c_cmp_Less_int), (134, c_slices_partitionEqualOrdered_int), (135, c_slices_partitionOrdered_int), (136, c_math_bits_Len32), (137, c_math_bits_Len64), (138, c_perm_cycles_1), (139, c_slices_insertionSortCmpFunc_classes_class), (140, c_slices_heapSortCmpFunc_classes_class), (141, c_slices_breakPatternsCmpFunc_classes_class), (142, c_slices_choosePivotCmpFunc_classes_class), (143, c_slices_reverseRangeCmpFunc_classes_class), (144, c_slices_partialInsertionSortCmpFunc_classes_class), (145, c_slices_partitionEqualCmpFunc_classes_class), (146, c_slices_partitionCmpFunc_classes_class), (147, c_cmp_isNaN_int), (148, c_chain_one), (149, c_chain_tower_sift), (150, c_chain_tower_close), (151, c_slices_Collect_int), (152, c_slices_Values_int_int_1), (153, c_slices_EqualFunc_int_int_int_int), (154, c_slices_Equal_int_int), (155, c_slices_EqualFunc_api_Perm_api_Perm_api_Perm_api_Perm), (156, c_chain_same_1), (157, c_slices_EqualFunc_api_Perm_api_Perm_api_Perm_api_Perm_x157), (158, c_chain_same_1_1), (159, c_slices_Equal_api_Perm_int), (160, c_slices_isNaN_int), (161, c_slices_IndexFunc_int_int), (162, c_rank_step_1), (163, c_rank_mul), (164, c_slices_siftDownOrdered_int), (165, c_slices_nextPowerOfTwo), (166, c_slices_xorshift_Next), (167, c_slices_medianAdjacentOrdered_int), (168, c_slices_medianOrdered_int), (169, c_slices_siftDownCmpFunc_classes_class), (170, c_slices_medianAdjacentCmpFunc_classes_class), (171, c_slices_medianCmpFunc_classes_class), (172, c_slices_AppendSeq_int_int), (173, c_slices_order2Ordered_int), (174, c_slices_order2CmpFunc_classes_class)]
def T : Nat → Option Ay.Fn := Ay.find tab
theorem t_law15_ClassesKnown : T 6 = some c_law15_ClassesKnown := rfl
theorem t_law15_awake : T 11 = some c_law15_awake := rfl
end Go.Proofs.YtddpkbicnolafaaGreat

