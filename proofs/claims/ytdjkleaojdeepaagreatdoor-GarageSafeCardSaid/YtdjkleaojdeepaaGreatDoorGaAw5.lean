/- Examples of awake, traces, jobs, comparisons: calls at fixed arguments, by the kernel. -/
import Derived.Test.YtdjkleaojdeepaaGreatDoorGaK
import Derived.KernelRfl
namespace Fw
open Go
set_option maxRecDepth 100000
theorem aw13 : RUN 59 30 [.p (.sl [.str [112, 101, 111, 112, 108, 101]] 1), .p (.sl [.str [112, 101, 111, 112, 108, 101]] 1)] = .ret (.p (.bool true)) := by kernel_rfl
theorem aw14 : RUN 59 30 [.p (.sl [.str [119, 97, 105, 116]] 1), .p (.sl [.str [119, 97, 105, 116]] 1)] = .ret (.p (.bool true)) := by kernel_rfl
theorem aw15 : RUN 59 30 [.p (.sl [.str [116, 105, 99, 107], .str [119, 97, 105, 116]] 2), .p (.sl [.str [116, 105, 99, 107], .str [119, 97, 105, 116]] 2)] = .ret (.p (.bool true)) := by kernel_rfl
theorem aw16 : RUN 59 30 [.p (.sl [.str [107, 101, 121], .str [119, 97, 105, 116]] 2), .p (.sl [.str [107, 101, 121], .str [119, 97, 105, 116]] 2)] = .ret (.p (.bool true)) := by kernel_rfl
theorem aw17 : RUN 59 30 [.p (.sl [.str [114, 101, 109, 111, 118, 101], .str [109, 101, 97, 115, 117, 114, 101]] 2), .p (.sl [.str [114, 101, 109, 111, 118, 101], .str [109, 101, 97, 115, 117, 114, 101]] 2)] = .ret (.p (.bool true)) := by kernel_rfl
theorem aw18 : RUN 59 38 [.p (.sl [.int .i64 8] 1), .p (.sl [.int .i64 8] 1)] = .ret (.p (.bool true)) := by kernel_rfl
theorem aw21 : RUN 59 42 [.p (.sl [.int .i64 0, .int .i64 0, .int .i64 1, .int .i64 1, .int .i64 2] 5), .p (.sl [] 0)] = .ret (.tup [.own [.int .i64 2, .int .i64 4] 2 1, .p (.int .i64 0)]) := by kernel_rfl
theorem aw22 : RUN 59 42 [.p (.sl [.int .i64 0, .int .i64 0, .int .i64 1, .int .i64 1, .int .i64 2] 5), .p (.sl [.int .i64 2, .int .i64 4] 1)] = .ret (.tup [.own [.int .i64 4] 1 1, .p (.int .i64 0)]) := by kernel_rfl
theorem aw23 : RUN 59 85 [] = .ret (.p (.sl [.str [112], .int .i64 0, .int .i64 0, .int .i64 0, .int .i64 5, .int .i64 3, .str [113], .int .i64 0, .int .i64 1, .int .i64 1, .int .i64 4, .int .i64 0, .str [114], .int .i64 1, .int .i64 0, .int .i64 1, .int .i64 2, .int .i64 9] 3)) := by kernel_rfl
theorem aw24 : RUN 59 48 [.p (.sl [.str [112], .int .i64 0, .int .i64 0, .int .i64 0, .int .i64 5, .int .i64 3, .str [113], .int .i64 0, .int .i64 1, .int .i64 1, .int .i64 4, .int .i64 0, .str [114], .int .i64 1, .int .i64 0, .int .i64 1, .int .i64 2, .int .i64 9] 3), .p (.sl [.int .i64 0, .int .i64 1, .int .i64 2] 3)] = .ret (.tup [.p (.sl [.int .i64 0, .int .i64 8, .int .i64 12] 3), .p (.int .i64 0)]) := by kernel_rfl
theorem aw25 : RUN 59 48 [.p (.sl [.str [112], .int .i64 0, .int .i64 0, .int .i64 0, .int .i64 5, .int .i64 3, .str [113], .int .i64 0, .int .i64 1, .int .i64 1, .int .i64 4, .int .i64 0, .str [114], .int .i64 1, .int .i64 0, .int .i64 1, .int .i64 2, .int .i64 9] 3), .p (.sl [.int .i64 1, .int .i64 0, .int .i64 2] 3)] = .ret (.tup [.p (.sl [.int .i64 4, .int .i64 0, .int .i64 9] 3), .p (.int .i64 0)]) := by kernel_rfl
theorem aw26 : RUN 59 48 [.p (.sl [.str [112], .int .i64 0, .int .i64 0, .int .i64 0, .int .i64 5, .int .i64 3, .str [113], .int .i64 0, .int .i64 1, .int .i64 1, .int .i64 4, .int .i64 0, .str [114], .int .i64 1, .int .i64 0, .int .i64 1, .int .i64 2, .int .i64 9] 3), .p (.sl [.int .i64 0, .int .i64 2, .int .i64 1] 3)] = .ret (.tup [.p (.sl [.int .i64 0, .int .i64 8, .int .i64 5] 3), .p (.int .i64 0)]) := by kernel_rfl
theorem aw27 : RUN 59 59 [.p (.sl [.str [112], .int .i64 0, .int .i64 0, .int .i64 0, .int .i64 5, .int .i64 3, .str [113], .int .i64 0, .int .i64 1, .int .i64 1, .int .i64 4, .int .i64 0, .str [114], .int .i64 1, .int .i64 0, .int .i64 1, .int .i64 2, .int .i64 9] 3)] = .ret (.tup [.own [.int .i64 1, .int .i64 0, .int .i64 2] 3 1, .p (.int .i64 11), .p (.int .i64 0)]) := by kernel_rfl
theorem aw28 : RUN 59 60 [.p (.sl [.str [112], .int .i64 0, .int .i64 0, .int .i64 0, .int .i64 5, .int .i64 3, .str [113], .int .i64 0, .int .i64 1, .int .i64 1, .int .i64 4, .int .i64 0, .str [114], .int .i64 1, .int .i64 0, .int .i64 1, .int .i64 2, .int .i64 9] 3)] = .ret (.tup [.p (.int .i64 9), .p (.int .i64 0)]) := by kernel_rfl
theorem aw29 : RUN 59 50 [.p (.sl [.str [112], .int .i64 0, .int .i64 0, .int .i64 0, .int .i64 5, .int .i64 3, .str [113], .int .i64 0, .int .i64 1, .int .i64 1, .int .i64 4, .int .i64 0, .str [114], .int .i64 1, .int .i64 0, .int .i64 1, .int .i64 2, .int .i64 9] 3), .p (.sl [.int .i64 0, .int .i64 8, .int .i64 12] 3)] = .ret (.tup [.p (.int .i64 14), .p (.int .i64 0)]) := by kernel_rfl
theorem aw32 : RUN 59 39 [.p (.sl [.int .i64 2, .int .i64 4] 1), .p (.sl [.int .i64 2, .int .i64 4] 1)] = .ret (.p (.bool true)) := by kernel_rfl
theorem aw33 : RUN 59 39 [.p (.sl [.int .i64 6, .int .i64 8] 1), .p (.sl [.int .i64 6, .int .i64 8] 1)] = .ret (.p (.bool true)) := by kernel_rfl
theorem aw34 : RUN 59 38 [.p (.sl [.int .i64 2, .int .i64 4] 2), .p (.sl [.int .i64 2, .int .i64 4] 2)] = .ret (.p (.bool true)) := by kernel_rfl
theorem aw35 : RUN 59 38 [.p (.sl [.int .i64 4] 1), .p (.sl [.int .i64 4] 1)] = .ret (.p (.bool true)) := by kernel_rfl
theorem aw36 : RUN 59 38 [.p (.sl [.int .i64 0, .int .i64 8, .int .i64 12] 3), .p (.sl [.int .i64 0, .int .i64 8, .int .i64 12] 3)] = .ret (.p (.bool true)) := by kernel_rfl
theorem aw37 : RUN 59 38 [.p (.sl [.int .i64 4, .int .i64 0, .int .i64 9] 3), .p (.sl [.int .i64 4, .int .i64 0, .int .i64 9] 3)] = .ret (.p (.bool true)) := by kernel_rfl
theorem aw38 : RUN 59 38 [.p (.sl [.int .i64 0, .int .i64 8, .int .i64 5] 3), .p (.sl [.int .i64 0, .int .i64 8, .int .i64 5] 3)] = .ret (.p (.bool true)) := by kernel_rfl
theorem aw39 : RUN 59 38 [.p (.sl [.int .i64 1, .int .i64 0, .int .i64 2] 3), .p (.sl [.int .i64 1, .int .i64 0, .int .i64 2] 3)] = .ret (.p (.bool true)) := by kernel_rfl
theorem aw40 : RUN 59 58 [.p (.sl [.str [112], .int .i64 0, .int .i64 0, .int .i64 0, .int .i64 5, .int .i64 3, .str [113], .int .i64 0, .int .i64 1, .int .i64 1, .int .i64 4, .int .i64 0, .str [114], .int .i64 1, .int .i64 0, .int .i64 1, .int .i64 2, .int .i64 9] 3), .p (.sl [.int .i64 0, .int .i64 7, .int .i64 12] 3)] = .ret (.p (.int .i64 24)) := by kernel_rfl
end Fw
