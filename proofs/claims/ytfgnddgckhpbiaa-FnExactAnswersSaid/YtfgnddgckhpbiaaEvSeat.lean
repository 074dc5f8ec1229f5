import Derived.Test.YtfgnddgckhpbiaaEvRow
import Derived.Test.YtfgnddgckhpbiaaEvTys
import Derived.Test.YtfgnddgckhpbiaaProg
import Derived.KernelRfl
set_option linter.unusedVariables false
namespace Go.Ev.Seat
open Go.RowKit
set_option maxRecDepth 100000

def tys : Tr :=
 .node 57 { ds := .st, row := .cons (.sl (.cons (.int .i64) (.cons (.int .i64) (.one (.sl (.one (.int .u8))))))) (.one (.sl (.cons (.int .i64) (.cons (.int .i64) (.one (.sl (.one (.int .u8)))))))), n := 2, agg := true, zero := [.nl, .nl], fs := [(0, 1, false), (1, 1, false)] }
 (.node 14 { ds := .st, row := .cons (.str) (.one (.int .u64)), n := 2, agg := true, zero := [.s (.string ByteArray.empty), .s (.int .u64 0)], fs := [(0, 1, false), (1, 1, false)] }
 (.node 8 { ds := .st, row := .cons (.int .i64) (.cons (.int .i64) (.cons (.bool) (.one (.int .u8)))), n := 4, agg := true, zero := [.s (.int .i64 0), .s (.int .i64 0), .s (.bool false), .s (.int .u8 0)], fs := [(0, 1, false), (1, 1, false), (2, 1, false), (3, 1, false)] }
 (.node 5 { ds := .int .u8, zero := [.s (.int .u8 0)] }
 (.node 3 { ds := .int .i64, zero := [.s (.int .i64 0)] }
 (.node 2 { ds := .int .i64, zero := [.s (.int .i64 0)] }
 (.leaf)
 (.leaf))
 (.node 4 { ds := .bool, zero := [.s (.bool false)] }
 (.leaf)
 (.leaf)))
 (.node 7 { ds := .st, row := .cons (.int .i64) (.cons (.int .i64) (.cons (.bool) (.one (.int .u8)))), n := 4, agg := true, zero := [.s (.int .i64 0), .s (.int .i64 0), .s (.bool false), .s (.int .u8 0)], fs := [(0, 1, false), (1, 1, false), (2, 1, false), (3, 1, false)] }
 (.node 6 { ds := .int .u8, zero := [.s (.int .u8 0)] }
 (.leaf)
 (.leaf))
 (.leaf)))
 (.node 11 { ds := .str, zero := [.s (.string ByteArray.empty)] }
 (.node 10 { ds := .str, zero := [.s (.string ByteArray.empty)] }
 (.node 9 { ds := .str, zero := [.s (.string ByteArray.empty)] }
 (.leaf)
 (.leaf))
 (.leaf))
 (.node 13 { ds := .st, row := .cons (.str) (.one (.int .u64)), n := 2, agg := true, zero := [.s (.string ByteArray.empty), .s (.int .u64 0)], fs := [(0, 1, false), (1, 1, false)] }
 (.node 12 { ds := .int .u64, zero := [.s (.int .u64 0)] }
 (.leaf)
 (.leaf))
 (.leaf))))
 (.node 32 { ds := .st, row := .cons (.int .i64) (.cons (.int .i64) (.one (.sl (.one (.int .u8))))), n := 3, agg := true, zero := [.s (.int .i64 0), .s (.int .i64 0), .nl], fs := [(0, 1, false), (1, 1, false), (2, 1, false)] }
 (.node 23 { ds := .st, row := .cons (.int .i64) (.cons (.int .i64) (.cons (.int .i64) (.one (.sl (.one (.int .u8)))))), n := 4, agg := true, zero := [.s (.int .i64 0), .s (.int .i64 0), .s (.int .i64 0), .nl], fs := [(0, 1, false), (1, 1, false), (2, 1, false), (3, 1, false)] }
 (.node 22 { ds := .sl, row := .one (.int .u8), bytes := 1, zero := [.nl] }
 (.node 21 { ds := .int .i32, zero := [.s (.int .i32 0)] }
 (.leaf)
 (.leaf))
 (.leaf))
 (.node 27 { ds := .st, row := .cons (.int .i64) (.cons (.int .i64) (.cons (.int .i64) (.one (.sl (.one (.int .u8)))))), n := 4, agg := true, zero := [.s (.int .i64 0), .s (.int .i64 0), .s (.int .i64 0), .nl], fs := [(0, 1, false), (1, 1, false), (2, 1, false), (3, 1, false)] }
 (.node 24 { ds := .st, row := .cons (.int .i64) (.cons (.int .i64) (.cons (.int .i64) (.one (.sl (.one (.int .u8)))))), n := 4, agg := true, zero := [.s (.int .i64 0), .s (.int .i64 0), .s (.int .i64 0), .nl], fs := [(0, 1, false), (1, 1, false), (2, 1, false), (3, 1, false)] }
 (.leaf)
 (.leaf))
 (.leaf)))
 (.node 46 { ds := .sl, row := .cons (.int .i64) (.cons (.int .i64) (.one (.sl (.one (.int .u8))))), bytes := 40, zero := [.nl] }
 (.node 38 { ds := .st, row := .cons (.int .i64) (.cons (.int .i64) (.one (.sl (.one (.int .u8))))), n := 3, agg := true, zero := [.s (.int .i64 0), .s (.int .i64 0), .nl], fs := [(0, 1, false), (1, 1, false), (2, 1, false)] }
 (.node 33 { ds := .st, row := .cons (.int .i64) (.cons (.int .i64) (.one (.sl (.one (.int .u8))))), n := 3, agg := true, zero := [.s (.int .i64 0), .s (.int .i64 0), .nl], fs := [(0, 1, false), (1, 1, false), (2, 1, false)] }
 (.leaf)
 (.leaf))
 (.leaf))
 (.node 56 { ds := .st, row := .cons (.sl (.cons (.int .i64) (.cons (.int .i64) (.one (.sl (.one (.int .u8))))))) (.one (.sl (.cons (.int .i64) (.cons (.int .i64) (.one (.sl (.one (.int .u8)))))))), n := 2, agg := true, zero := [.nl, .nl], fs := [(0, 1, false), (1, 1, false)] }
 (.node 50 { ds := .sl, row := .cons (.int .i64) (.cons (.int .i64) (.one (.sl (.one (.int .u8))))), bytes := 40, zero := [.nl] }
 (.leaf)
 (.leaf))
 (.leaf)))))
 (.node 115 { ds := .st, row := .cons (.int .i64) (.cons (.int .i64) (.cons (.int .i64) (.one (.sl (.one (.int .u8)))))), n := 4, agg := true, zero := [.s (.int .i64 0), .s (.int .i64 0), .s (.int .i64 0), .nl], fs := [(0, 1, false), (1, 1, false), (2, 1, false), (3, 1, false)] }
 (.node 77 { ds := .sl, row := .cons (.int .i64) (.cons (.int .i64) (.cons (.int .i64) (.cons (.int .i64) (.cons (.int .i64) (.cons (.int .i64) (.cons (.int .i64) (.cons (.sl (.one (.int .u8))) (.cons (.int .i64) (.cons (.int .i64) (.cons (.int .i64) (.cons (.int .i64) (.one (.sl (.one (.int .u8))))))))))))))), bytes := 136, zero := [.nl] }
 (.node 69 { ds := .sl, row := .one (.sl (.one (.int .u8))), bytes := 24, zero := [.nl] }
 (.node 61 { ds := .st, row := .cons (.sl (.cons (.int .i64) (.cons (.int .i64) (.one (.sl (.one (.int .u8))))))) (.one (.sl (.cons (.int .i64) (.cons (.int .i64) (.one (.sl (.one (.int .u8)))))))), n := 2, agg := true, zero := [.nl, .nl], fs := [(0, 1, false), (1, 1, false)] }
 (.node 60 { ds := .st, row := .cons (.sl (.cons (.int .i64) (.cons (.int .i64) (.one (.sl (.one (.int .u8))))))) (.one (.sl (.cons (.int .i64) (.cons (.int .i64) (.one (.sl (.one (.int .u8)))))))), n := 2, agg := true, zero := [.nl, .nl], fs := [(0, 1, false), (1, 1, false)] }
 (.leaf)
 (.leaf))
 (.leaf))
 (.node 76 { ds := .st, row := .one (.sl (.one (.int .u8))), n := 1, agg := true, zero := [.nl], fs := [(0, 1, false)] }
 (.node 75 { ds := .st, row := .one (.sl (.one (.int .u8))), n := 1, agg := true, zero := [.nl], fs := [(0, 1, false)] }
 (.leaf)
 (.leaf))
 (.leaf)))
 (.node 95 { ds := .sl, row := .one (.int .i64), bytes := 8, zero := [.nl] }
 (.node 81 { ds := .sl, row := .cons (.int .i64) (.cons (.int .i64) (.cons (.int .i64) (.cons (.int .i64) (.cons (.int .i64) (.cons (.int .i64) (.cons (.int .i64) (.cons (.sl (.one (.int .u8))) (.cons (.int .i64) (.cons (.int .i64) (.cons (.int .i64) (.cons (.int .i64) (.one (.sl (.one (.int .u8))))))))))))))), bytes := 136, zero := [.nl] }
 (.node 79 { ds := .sl, row := .cons (.int .i64) (.cons (.int .i64) (.cons (.int .i64) (.one (.sl (.one (.int .u8)))))), bytes := 48, zero := [.nl] }
 (.leaf)
 (.leaf))
 (.leaf))
 (.node 114 { ds := .st, row := .cons (.int .i64) (.cons (.int .i64) (.cons (.int .i64) (.cons (.int .i64) (.cons (.int .i64) (.one (.sl (.one (.int .u8)))))))), n := 6, agg := true, zero := [.s (.int .i64 0), .s (.int .i64 0), .s (.int .i64 0), .s (.int .i64 0), .s (.int .i64 0), .nl], fs := [(0, 1, false), (1, 1, false), (2, 1, false), (3, 1, false), (4, 1, false), (5, 1, false)] }
 (.node 113 { ds := .st, row := .cons (.int .i64) (.cons (.int .i64) (.cons (.int .i64) (.cons (.int .i64) (.cons (.int .i64) (.one (.sl (.one (.int .u8)))))))), n := 6, agg := true, zero := [.s (.int .i64 0), .s (.int .i64 0), .s (.int .i64 0), .s (.int .i64 0), .s (.int .i64 0), .nl], fs := [(0, 1, false), (1, 1, false), (2, 1, false), (3, 1, false), (4, 1, false), (5, 1, false)] }
 (.leaf)
 (.leaf))
 (.leaf))))
 (.node 121 { ds := .st, row := .cons (.int .i64) (.cons (.int .i64) (.cons (.int .i64) (.cons (.int .i64) (.cons (.int .i64) (.cons (.int .i64) (.cons (.int .i64) (.cons (.sl (.one (.int .u8))) (.cons (.int .i64) (.cons (.int .i64) (.cons (.int .i64) (.cons (.int .i64) (.one (.sl (.one (.int .u8))))))))))))))), n := 13, agg := true, zero := [.s (.int .i64 0), .s (.int .i64 0), .s (.int .i64 0), .s (.int .i64 0), .s (.int .i64 0), .s (.int .i64 0), .s (.int .i64 0), .nl, .s (.int .i64 0), .s (.int .i64 0), .s (.int .i64 0), .s (.int .i64 0), .nl], fs := [(0, 1, false), (1, 1, false), (2, 6, true), (8, 1, false), (9, 4, true)] }
 (.node 118 { ds := .st, row := .cons (.int .i64) (.cons (.int .i64) (.cons (.int .i64) (.cons (.int .i64) (.cons (.int .i64) (.cons (.int .i64) (.cons (.int .i64) (.cons (.sl (.one (.int .u8))) (.cons (.int .i64) (.cons (.int .i64) (.cons (.int .i64) (.cons (.int .i64) (.one (.sl (.one (.int .u8))))))))))))))), n := 13, agg := true, zero := [.s (.int .i64 0), .s (.int .i64 0), .s (.int .i64 0), .s (.int .i64 0), .s (.int .i64 0), .s (.int .i64 0), .s (.int .i64 0), .nl, .s (.int .i64 0), .s (.int .i64 0), .s (.int .i64 0), .s (.int .i64 0), .nl], fs := [(0, 1, false), (1, 1, false), (2, 6, true), (8, 1, false), (9, 4, true)] }
 (.node 117 { ds := .st, row := .cons (.int .i64) (.cons (.int .i64) (.cons (.int .i64) (.cons (.int .i64) (.cons (.int .i64) (.cons (.int .i64) (.cons (.int .i64) (.cons (.sl (.one (.int .u8))) (.cons (.int .i64) (.cons (.int .i64) (.cons (.int .i64) (.cons (.int .i64) (.one (.sl (.one (.int .u8))))))))))))))), n := 13, agg := true, zero := [.s (.int .i64 0), .s (.int .i64 0), .s (.int .i64 0), .s (.int .i64 0), .s (.int .i64 0), .s (.int .i64 0), .s (.int .i64 0), .nl, .s (.int .i64 0), .s (.int .i64 0), .s (.int .i64 0), .s (.int .i64 0), .nl], fs := [(0, 1, false), (1, 1, false), (2, 6, true), (8, 1, false), (9, 4, true)] }
 (.node 116 { ds := .st, row := .cons (.int .i64) (.cons (.int .i64) (.cons (.int .i64) (.one (.sl (.one (.int .u8)))))), n := 4, agg := true, zero := [.s (.int .i64 0), .s (.int .i64 0), .s (.int .i64 0), .nl], fs := [(0, 1, false), (1, 1, false), (2, 1, false), (3, 1, false)] }
 (.leaf)
 (.leaf))
 (.leaf))
 (.node 120 { ds := .st, row := .cons (.int .i64) (.cons (.int .i64) (.cons (.int .i64) (.one (.sl (.one (.int .u8)))))), n := 4, agg := true, zero := [.s (.int .i64 0), .s (.int .i64 0), .s (.int .i64 0), .nl], fs := [(0, 1, false), (1, 1, false), (2, 1, false), (3, 1, false)] }
 (.node 119 { ds := .st, row := .cons (.int .i64) (.cons (.int .i64) (.cons (.int .i64) (.cons (.int .i64) (.cons (.int .i64) (.one (.sl (.one (.int .u8)))))))), n := 6, agg := true, zero := [.s (.int .i64 0), .s (.int .i64 0), .s (.int .i64 0), .s (.int .i64 0), .s (.int .i64 0), .nl], fs := [(0, 1, false), (1, 1, false), (2, 1, false), (3, 1, false), (4, 1, false), (5, 1, false)] }
 (.leaf)
 (.leaf))
 (.leaf)))
 (.node 127 { ds := .st, row := .cons (.sl (.one (.int .u8))) (.cons (.int .i64) (.one (.int .i64))), n := 3, agg := true, zero := [.nl, .s (.int .i64 0), .s (.int .i64 0)], fs := [(0, 1, false), (1, 1, false), (2, 1, false)] }
 (.node 126 { ds := .st, row := .cons (.sl (.one (.int .u8))) (.cons (.int .i64) (.one (.int .i64))), n := 3, agg := true, zero := [.nl, .s (.int .i64 0), .s (.int .i64 0)], fs := [(0, 1, false), (1, 1, false), (2, 1, false)] }
 (.node 122 { ds := .st, row := .cons (.int .i64) (.cons (.int .i64) (.cons (.int .i64) (.cons (.int .i64) (.cons (.int .i64) (.cons (.int .i64) (.cons (.int .i64) (.cons (.sl (.one (.int .u8))) (.cons (.int .i64) (.cons (.int .i64) (.cons (.int .i64) (.cons (.int .i64) (.one (.sl (.one (.int .u8))))))))))))))), n := 13, agg := true, zero := [.s (.int .i64 0), .s (.int .i64 0), .s (.int .i64 0), .s (.int .i64 0), .s (.int .i64 0), .s (.int .i64 0), .s (.int .i64 0), .nl, .s (.int .i64 0), .s (.int .i64 0), .s (.int .i64 0), .s (.int .i64 0), .nl], fs := [(0, 1, false), (1, 1, false), (2, 6, true), (8, 1, false), (9, 4, true)] }
 (.leaf)
 (.leaf))
 (.leaf))
 (.node 136 { ds := .int .u64, zero := [.s (.int .u64 0)] }
 (.node 134 { ds := .sl, row := .one (.sl (.one (.int .u8))), bytes := 24, zero := [.nl] }
 (.leaf)
 (.leaf))
 (.leaf)))))

theorem tysOk : TysOk Go.Proofs.Try.prog tys.get := tys_ok (by kernel_rfl)
theorem mixed : Go.Proofs.Try.prog.follows .mixedOrders = true := by kernel_rfl
end Go.Ev.Seat
