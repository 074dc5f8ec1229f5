/- MachOk: parts EvSeat EvNames EvShape EvLib EvGen EvSum EvBytes EvFam EvRows EvEditH EvSelH EvLeaseH EvStackH EvReqH EvCommitH EvMemberH EvDocH EvOpH EvMachH EvSig EvWeak EvSigN PUtf PEdit PReq PLoop, packed by squash.py. -/
import Derived.Test.YthddmiaggpnokaaGreatDoorProg
import Derived.KernelRfl
import Derived.Lib.Strings
import Derived.Test.YthddmiaggpnokaaGreatDoorZMachOk0
import Derived.Test.YthddmiaggpnokaaGreatDoorZMachOk1
import Derived.Test.YthddmiaggpnokaaGreatDoorZMachOk2
set_option linter.unusedVariables false
set_option linter.unusedSimpArgs false
section
namespace Go.Ev.Seat
open Go.RowKit
set_option maxRecDepth 100000
def tys : Tr :=
 .node 54 { ds := .st, row := .cons (.int .i64) (.cons (.int .i64) (.cons (.int .i64) (.cons (.int .i64) (.cons (.int .i64) (.cons (.sl (.one (.int .u8))) (.cons (.int .i64) (.cons (.int .i64) (.cons (.int .i64) (.cons (.int .i64) (.cons (.int .i64) (.cons (.int .i64) (.one (.sl (.one (.int .u8))))))))))))))), n := 13, agg := true, zero := [.s (.int .i64 0), .s (.int .i64 0), .s (.int .i64 0), .s (.int .i64 0), .s (.int .i64 0), .nl, .s (.int .i64 0), .s (.int .i64 0), .s (.int .i64 0), .s (.int .i64 0), .s (.int .i64 0), .s (.int .i64 0), .nl], fs := [(0, 6, true), (6, 1, false), (7, 1, false), (8, 1, false), (9, 1, false), (10, 3, true)] }
 (.node 26 { ds := .st, row := .cons (.sl (.one (.int .u8))) (.cons (.sl (.one (.int .u8))) (.cons (.sl (.cons (.int .i64) (.cons (.int .i64) (.cons (.int .i64) (.one (.sl (.one (.int .u8)))))))) (.cons (.int .i64) (.cons (.sl (.cons (.int .i64) (.cons (.int .i64) (.cons (.int .i64) (.cons (.sl (.cons (.int .i64) (.cons (.int .i64) (.one (.sl (.one (.int .u8))))))) (.one (.sl (.cons (.int .i64) (.cons (.int .i64) (.one (.sl (.one (.int .u8))))))))))))) (.one (.sl (.cons (.int .i64) (.cons (.int .i64) (.cons (.int .i64) (.one (.int .i64))))))))))), n := 6, agg := true, zero := [.nl, .nl, .nl, .s (.int .i64 0), .nl, .nl], fs := [(0, 1, false), (1, 1, false), (2, 1, false), (3, 1, false), (4, 1, false), (5, 1, false)] }
 (.node 11 { ds := .str, zero := [.s (.string ByteArray.empty)] }
 (.node 6 { ds := .int .u8, zero := [.s (.int .u8 0)] }
 (.node 4 { ds := .bool, zero := [.s (.bool false)] }
 (.node 3 { ds := .int .i64, zero := [.s (.int .i64 0)] }
 (.node 2 { ds := .int .i64, zero := [.s (.int .i64 0)] }
 (.leaf)
 (.leaf))
 (.leaf))
 (.node 5 { ds := .int .u8, zero := [.s (.int .u8 0)] }
 (.leaf)
 (.leaf)))
 (.node 9 { ds := .str, zero := [.s (.string ByteArray.empty)] }
 (.node 8 { ds := .st, row := .cons (.int .i64) (.cons (.int .i64) (.cons (.bool) (.one (.int .u8)))), n := 4, agg := true, zero := [.s (.int .i64 0), .s (.int .i64 0), .s (.bool false), .s (.int .u8 0)], fs := [(0, 1, false), (1, 1, false), (2, 1, false), (3, 1, false)] }
 (.node 7 { ds := .st, row := .cons (.int .i64) (.cons (.int .i64) (.cons (.bool) (.one (.int .u8)))), n := 4, agg := true, zero := [.s (.int .i64 0), .s (.int .i64 0), .s (.bool false), .s (.int .u8 0)], fs := [(0, 1, false), (1, 1, false), (2, 1, false), (3, 1, false)] }
 (.leaf)
 (.leaf))
 (.leaf))
 (.node 10 { ds := .str, zero := [.s (.string ByteArray.empty)] }
 (.leaf)
 (.leaf))))
 (.node 22 { ds := .sl, row := .one (.int .u8), bytes := 1, zero := [.nl] }
 (.node 14 { ds := .st, row := .cons (.str) (.one (.int .u64)), n := 2, agg := true, zero := [.s (.string ByteArray.empty), .s (.int .u64 0)], fs := [(0, 1, false), (1, 1, false)] }
 (.node 13 { ds := .st, row := .cons (.str) (.one (.int .u64)), n := 2, agg := true, zero := [.s (.string ByteArray.empty), .s (.int .u64 0)], fs := [(0, 1, false), (1, 1, false)] }
 (.node 12 { ds := .int .u64, zero := [.s (.int .u64 0)] }
 (.leaf)
 (.leaf))
 (.leaf))
 (.node 21 { ds := .int .i32, zero := [.s (.int .i32 0)] }
 (.leaf)
 (.leaf)))
 (.node 24 { ds := .sl, row := .cons (.int .i64) (.cons (.int .i64) (.cons (.int .i64) (.cons (.sl (.cons (.int .i64) (.cons (.int .i64) (.one (.sl (.one (.int .u8))))))) (.one (.sl (.cons (.int .i64) (.cons (.int .i64) (.one (.sl (.one (.int .u8))))))))))), bytes := 72, zero := [.nl] }
 (.node 23 { ds := .sl, row := .cons (.int .i64) (.cons (.int .i64) (.cons (.int .i64) (.one (.sl (.one (.int .u8)))))), bytes := 48, zero := [.nl] }
 (.leaf)
 (.leaf))
 (.node 25 { ds := .sl, row := .cons (.int .i64) (.cons (.int .i64) (.cons (.int .i64) (.one (.int .i64)))), bytes := 32, zero := [.nl] }
 (.leaf)
 (.leaf)))))
 (.node 38 { ds := .sl, row := .cons (.int .i64) (.cons (.int .i64) (.cons (.int .i64) (.cons (.int .i64) (.cons (.int .i64) (.cons (.sl (.one (.int .u8))) (.cons (.int .i64) (.cons (.int .i64) (.cons (.int .i64) (.cons (.int .i64) (.cons (.int .i64) (.cons (.int .i64) (.one (.sl (.one (.int .u8))))))))))))))), bytes := 136, zero := [.nl] }
 (.node 33 { ds := .sl, row := .cons (.int .i64) (.cons (.int .i64) (.cons (.int .i64) (.one (.sl (.one (.int .u8)))))), bytes := 48, zero := [.nl] }
 (.node 29 { ds := .st, row := .cons (.sl (.one (.int .u8))) (.cons (.sl (.one (.int .u8))) (.cons (.sl (.cons (.int .i64) (.cons (.int .i64) (.cons (.int .i64) (.one (.sl (.one (.int .u8)))))))) (.cons (.int .i64) (.cons (.sl (.cons (.int .i64) (.cons (.int .i64) (.cons (.int .i64) (.cons (.sl (.cons (.int .i64) (.cons (.int .i64) (.one (.sl (.one (.int .u8))))))) (.one (.sl (.cons (.int .i64) (.cons (.int .i64) (.one (.sl (.one (.int .u8))))))))))))) (.cons (.sl (.cons (.int .i64) (.cons (.int .i64) (.cons (.int .i64) (.one (.int .i64)))))) (.one (.sl (.cons (.int .i64) (.cons (.int .i64) (.cons (.int .i64) (.cons (.int .i64) (.cons (.int .i64) (.cons (.sl (.one (.int .u8))) (.cons (.int .i64) (.cons (.int .i64) (.cons (.int .i64) (.cons (.int .i64) (.cons (.int .i64) (.cons (.int .i64) (.one (.sl (.one (.int .u8))))))))))))))))))))))), n := 7, agg := true, zero := [.nl, .nl, .nl, .s (.int .i64 0), .nl, .nl, .nl], fs := [(0, 6, true), (6, 1, false)] }
 (.node 28 { ds := .sl, row := .cons (.int .i64) (.cons (.int .i64) (.cons (.int .i64) (.cons (.int .i64) (.cons (.int .i64) (.cons (.sl (.one (.int .u8))) (.cons (.int .i64) (.cons (.int .i64) (.cons (.int .i64) (.cons (.int .i64) (.cons (.int .i64) (.cons (.int .i64) (.one (.sl (.one (.int .u8))))))))))))))), bytes := 136, zero := [.nl] }
 (.node 27 { ds := .st, row := .cons (.sl (.one (.int .u8))) (.cons (.sl (.one (.int .u8))) (.cons (.sl (.cons (.int .i64) (.cons (.int .i64) (.cons (.int .i64) (.one (.sl (.one (.int .u8)))))))) (.cons (.int .i64) (.cons (.sl (.cons (.int .i64) (.cons (.int .i64) (.cons (.int .i64) (.cons (.sl (.cons (.int .i64) (.cons (.int .i64) (.one (.sl (.one (.int .u8))))))) (.one (.sl (.cons (.int .i64) (.cons (.int .i64) (.one (.sl (.one (.int .u8))))))))))))) (.one (.sl (.cons (.int .i64) (.cons (.int .i64) (.cons (.int .i64) (.one (.int .i64))))))))))), n := 6, agg := true, zero := [.nl, .nl, .nl, .s (.int .i64 0), .nl, .nl], fs := [(0, 1, false), (1, 1, false), (2, 1, false), (3, 1, false), (4, 1, false), (5, 1, false)] }
 (.leaf)
 (.leaf))
 (.leaf))
 (.node 30 { ds := .st, row := .cons (.sl (.one (.int .u8))) (.cons (.sl (.one (.int .u8))) (.cons (.sl (.cons (.int .i64) (.cons (.int .i64) (.cons (.int .i64) (.one (.sl (.one (.int .u8)))))))) (.cons (.int .i64) (.cons (.sl (.cons (.int .i64) (.cons (.int .i64) (.cons (.int .i64) (.cons (.sl (.cons (.int .i64) (.cons (.int .i64) (.one (.sl (.one (.int .u8))))))) (.one (.sl (.cons (.int .i64) (.cons (.int .i64) (.one (.sl (.one (.int .u8))))))))))))) (.cons (.sl (.cons (.int .i64) (.cons (.int .i64) (.cons (.int .i64) (.one (.int .i64)))))) (.one (.sl (.cons (.int .i64) (.cons (.int .i64) (.cons (.int .i64) (.cons (.int .i64) (.cons (.int .i64) (.cons (.sl (.one (.int .u8))) (.cons (.int .i64) (.cons (.int .i64) (.cons (.int .i64) (.cons (.int .i64) (.cons (.int .i64) (.cons (.int .i64) (.one (.sl (.one (.int .u8))))))))))))))))))))))), n := 7, agg := true, zero := [.nl, .nl, .nl, .s (.int .i64 0), .nl, .nl, .nl], fs := [(0, 6, true), (6, 1, false)] }
 (.leaf)
 (.leaf)))
 (.node 36 { ds := .st, row := .cons (.sl (.one (.int .u8))) (.cons (.sl (.one (.int .u8))) (.cons (.sl (.cons (.int .i64) (.cons (.int .i64) (.cons (.int .i64) (.one (.sl (.one (.int .u8)))))))) (.cons (.int .i64) (.cons (.sl (.cons (.int .i64) (.cons (.int .i64) (.cons (.int .i64) (.cons (.sl (.cons (.int .i64) (.cons (.int .i64) (.one (.sl (.one (.int .u8))))))) (.one (.sl (.cons (.int .i64) (.cons (.int .i64) (.one (.sl (.one (.int .u8))))))))))))) (.one (.sl (.cons (.int .i64) (.cons (.int .i64) (.cons (.int .i64) (.one (.int .i64))))))))))), n := 6, agg := true, zero := [.nl, .nl, .nl, .s (.int .i64 0), .nl, .nl], fs := [(0, 1, false), (1, 1, false), (2, 1, false), (3, 1, false), (4, 1, false), (5, 1, false)] }
 (.node 35 { ds := .sl, row := .cons (.int .i64) (.cons (.int .i64) (.cons (.int .i64) (.one (.int .i64)))), bytes := 32, zero := [.nl] }
 (.node 34 { ds := .sl, row := .cons (.int .i64) (.cons (.int .i64) (.cons (.int .i64) (.cons (.sl (.cons (.int .i64) (.cons (.int .i64) (.one (.sl (.one (.int .u8))))))) (.one (.sl (.cons (.int .i64) (.cons (.int .i64) (.one (.sl (.one (.int .u8))))))))))), bytes := 72, zero := [.nl] }
 (.leaf)
 (.leaf))
 (.leaf))
 (.node 37 { ds := .st, row := .cons (.sl (.one (.int .u8))) (.cons (.sl (.one (.int .u8))) (.cons (.sl (.cons (.int .i64) (.cons (.int .i64) (.cons (.int .i64) (.one (.sl (.one (.int .u8)))))))) (.cons (.int .i64) (.cons (.sl (.cons (.int .i64) (.cons (.int .i64) (.cons (.int .i64) (.cons (.sl (.cons (.int .i64) (.cons (.int .i64) (.one (.sl (.one (.int .u8))))))) (.one (.sl (.cons (.int .i64) (.cons (.int .i64) (.one (.sl (.one (.int .u8))))))))))))) (.one (.sl (.cons (.int .i64) (.cons (.int .i64) (.cons (.int .i64) (.one (.int .i64))))))))))), n := 6, agg := true, zero := [.nl, .nl, .nl, .s (.int .i64 0), .nl, .nl], fs := [(0, 1, false), (1, 1, false), (2, 1, false), (3, 1, false), (4, 1, false), (5, 1, false)] }
 (.leaf)
 (.leaf))))
 (.node 50 { ds := .st, row := .cons (.int .i64) (.cons (.int .i64) (.cons (.int .i64) (.cons (.int .i64) (.cons (.int .i64) (.one (.sl (.one (.int .u8)))))))), n := 6, agg := true, zero := [.s (.int .i64 0), .s (.int .i64 0), .s (.int .i64 0), .s (.int .i64 0), .s (.int .i64 0), .nl], fs := [(0, 1, false), (1, 1, false), (2, 1, false), (3, 1, false), (4, 1, false), (5, 1, false)] }
 (.node 44 { ds := .sl, row := .one (.int .i64), bytes := 8, zero := [.nl] }
 (.node 40 { ds := .st, row := .cons (.sl (.one (.int .u8))) (.cons (.sl (.one (.int .u8))) (.cons (.sl (.cons (.int .i64) (.cons (.int .i64) (.cons (.int .i64) (.one (.sl (.one (.int .u8)))))))) (.cons (.int .i64) (.cons (.sl (.cons (.int .i64) (.cons (.int .i64) (.cons (.int .i64) (.cons (.sl (.cons (.int .i64) (.cons (.int .i64) (.one (.sl (.one (.int .u8))))))) (.one (.sl (.cons (.int .i64) (.cons (.int .i64) (.one (.sl (.one (.int .u8))))))))))))) (.cons (.sl (.cons (.int .i64) (.cons (.int .i64) (.cons (.int .i64) (.one (.int .i64)))))) (.one (.sl (.cons (.int .i64) (.cons (.int .i64) (.cons (.int .i64) (.cons (.int .i64) (.cons (.int .i64) (.cons (.sl (.one (.int .u8))) (.cons (.int .i64) (.cons (.int .i64) (.cons (.int .i64) (.cons (.int .i64) (.cons (.int .i64) (.cons (.int .i64) (.one (.sl (.one (.int .u8))))))))))))))))))))))), n := 7, agg := true, zero := [.nl, .nl, .nl, .s (.int .i64 0), .nl, .nl, .nl], fs := [(0, 6, true), (6, 1, false)] }
 (.node 39 { ds := .st, row := .cons (.sl (.one (.int .u8))) (.cons (.sl (.one (.int .u8))) (.cons (.sl (.cons (.int .i64) (.cons (.int .i64) (.cons (.int .i64) (.one (.sl (.one (.int .u8)))))))) (.cons (.int .i64) (.cons (.sl (.cons (.int .i64) (.cons (.int .i64) (.cons (.int .i64) (.cons (.sl (.cons (.int .i64) (.cons (.int .i64) (.one (.sl (.one (.int .u8))))))) (.one (.sl (.cons (.int .i64) (.cons (.int .i64) (.one (.sl (.one (.int .u8))))))))))))) (.cons (.sl (.cons (.int .i64) (.cons (.int .i64) (.cons (.int .i64) (.one (.int .i64)))))) (.one (.sl (.cons (.int .i64) (.cons (.int .i64) (.cons (.int .i64) (.cons (.int .i64) (.cons (.int .i64) (.cons (.sl (.one (.int .u8))) (.cons (.int .i64) (.cons (.int .i64) (.cons (.int .i64) (.cons (.int .i64) (.cons (.int .i64) (.cons (.int .i64) (.one (.sl (.one (.int .u8))))))))))))))))))))))), n := 7, agg := true, zero := [.nl, .nl, .nl, .s (.int .i64 0), .nl, .nl, .nl], fs := [(0, 6, true), (6, 1, false)] }
 (.leaf)
 (.leaf))
 (.leaf))
 (.node 49 { ds := .st, row := .cons (.int .i64) (.cons (.int .i64) (.cons (.int .i64) (.cons (.int .i64) (.cons (.int .i64) (.one (.sl (.one (.int .u8)))))))), n := 6, agg := true, zero := [.s (.int .i64 0), .s (.int .i64 0), .s (.int .i64 0), .s (.int .i64 0), .s (.int .i64 0), .nl], fs := [(0, 1, false), (1, 1, false), (2, 1, false), (3, 1, false), (4, 1, false), (5, 1, false)] }
 (.leaf)
 (.leaf)))
 (.node 52 { ds := .st, row := .cons (.int .i64) (.cons (.int .i64) (.one (.sl (.one (.int .u8))))), n := 3, agg := true, zero := [.s (.int .i64 0), .s (.int .i64 0), .nl], fs := [(0, 1, false), (1, 1, false), (2, 1, false)] }
 (.node 51 { ds := .st, row := .cons (.int .i64) (.cons (.int .i64) (.one (.sl (.one (.int .u8))))), n := 3, agg := true, zero := [.s (.int .i64 0), .s (.int .i64 0), .nl], fs := [(0, 1, false), (1, 1, false), (2, 1, false)] }
 (.leaf)
 (.leaf))
 (.node 53 { ds := .st, row := .cons (.int .i64) (.cons (.int .i64) (.cons (.int .i64) (.cons (.int .i64) (.cons (.int .i64) (.cons (.sl (.one (.int .u8))) (.cons (.int .i64) (.cons (.int .i64) (.cons (.int .i64) (.cons (.int .i64) (.cons (.int .i64) (.cons (.int .i64) (.one (.sl (.one (.int .u8))))))))))))))), n := 13, agg := true, zero := [.s (.int .i64 0), .s (.int .i64 0), .s (.int .i64 0), .s (.int .i64 0), .s (.int .i64 0), .nl, .s (.int .i64 0), .s (.int .i64 0), .s (.int .i64 0), .s (.int .i64 0), .s (.int .i64 0), .s (.int .i64 0), .nl], fs := [(0, 6, true), (6, 1, false), (7, 1, false), (8, 1, false), (9, 1, false), (10, 3, true)] }
 (.leaf)
 (.leaf))))))
 (.node 147 { ds := .sl, row := .cons (.int .i64) (.cons (.int .i64) (.one (.sl (.one (.int .u8))))), bytes := 40, zero := [.nl] }
 (.node 96 { ds := .st, row := .cons (.int .i64) (.cons (.int .i64) (.cons (.int .i64) (.cons (.int .i64) (.cons (.int .i64) (.cons (.sl (.one (.int .u8))) (.cons (.int .i64) (.cons (.int .i64) (.cons (.int .i64) (.cons (.int .i64) (.cons (.int .i64) (.cons (.int .i64) (.one (.sl (.one (.int .u8))))))))))))))), n := 13, agg := true, zero := [.s (.int .i64 0), .s (.int .i64 0), .s (.int .i64 0), .s (.int .i64 0), .s (.int .i64 0), .nl, .s (.int .i64 0), .s (.int .i64 0), .s (.int .i64 0), .s (.int .i64 0), .s (.int .i64 0), .s (.int .i64 0), .nl], fs := [(0, 6, true), (6, 1, false), (7, 1, false), (8, 1, false), (9, 1, false), (10, 3, true)] }
 (.node 77 { ds := .st, row := .cons (.sl (.cons (.int .i64) (.cons (.int .i64) (.one (.sl (.one (.int .u8))))))) (.one (.sl (.cons (.int .i64) (.cons (.int .i64) (.one (.sl (.one (.int .u8)))))))), n := 2, agg := true, zero := [.nl, .nl], fs := [(0, 1, false), (1, 1, false)] }
 (.node 75 { ds := .sl, row := .cons (.int .i64) (.cons (.int .i64) (.one (.sl (.one (.int .u8))))), bytes := 40, zero := [.nl] }
 (.node 74 { ds := .st, row := .cons (.int .i64) (.one (.int .i64)), n := 2, agg := true, zero := [.s (.int .i64 0), .s (.int .i64 0)], fs := [(0, 1, false), (1, 1, false)], eqv := true }
 (.node 73 { ds := .st, row := .cons (.int .i64) (.one (.int .i64)), n := 2, agg := true, zero := [.s (.int .i64 0), .s (.int .i64 0)], fs := [(0, 1, false), (1, 1, false)], eqv := true }
 (.leaf)
 (.leaf))
 (.leaf))
 (.node 76 { ds := .st, row := .cons (.sl (.cons (.int .i64) (.cons (.int .i64) (.one (.sl (.one (.int .u8))))))) (.one (.sl (.cons (.int .i64) (.cons (.int .i64) (.one (.sl (.one (.int .u8)))))))), n := 2, agg := true, zero := [.nl, .nl], fs := [(0, 1, false), (1, 1, false)] }
 (.leaf)
 (.leaf)))
 (.node 94 { ds := .st, row := .cons (.int .i64) (.cons (.int .i64) (.cons (.int .i64) (.cons (.int .i64) (.cons (.int .i64) (.one (.sl (.one (.int .u8)))))))), n := 6, agg := true, zero := [.s (.int .i64 0), .s (.int .i64 0), .s (.int .i64 0), .s (.int .i64 0), .s (.int .i64 0), .nl], fs := [(0, 1, false), (1, 1, false), (2, 1, false), (3, 1, false), (4, 1, false), (5, 1, false)] }
 (.node 79 { ds := .st, row := .cons (.int .i64) (.cons (.int .i64) (.cons (.int .i64) (.cons (.sl (.cons (.int .i64) (.cons (.int .i64) (.one (.sl (.one (.int .u8))))))) (.one (.sl (.cons (.int .i64) (.cons (.int .i64) (.one (.sl (.one (.int .u8))))))))))), n := 5, agg := true, zero := [.s (.int .i64 0), .s (.int .i64 0), .s (.int .i64 0), .nl, .nl], fs := [(0, 1, false), (1, 2, true), (3, 2, true)] }
 (.node 78 { ds := .st, row := .cons (.int .i64) (.cons (.int .i64) (.cons (.int .i64) (.cons (.sl (.cons (.int .i64) (.cons (.int .i64) (.one (.sl (.one (.int .u8))))))) (.one (.sl (.cons (.int .i64) (.cons (.int .i64) (.one (.sl (.one (.int .u8))))))))))), n := 5, agg := true, zero := [.s (.int .i64 0), .s (.int .i64 0), .s (.int .i64 0), .nl, .nl], fs := [(0, 1, false), (1, 2, true), (3, 2, true)] }
 (.leaf)
 (.leaf))
 (.leaf))
 (.node 95 { ds := .st, row := .cons (.int .i64) (.cons (.int .i64) (.one (.sl (.one (.int .u8))))), n := 3, agg := true, zero := [.s (.int .i64 0), .s (.int .i64 0), .nl], fs := [(0, 1, false), (1, 1, false), (2, 1, false)] }
 (.leaf)
 (.leaf))))
 (.node 109 { ds := .st, row := .cons (.int .i64) (.cons (.int .i64) (.cons (.int .i64) (.one (.int .i64)))), n := 4, agg := true, zero := [.s (.int .i64 0), .s (.int .i64 0), .s (.int .i64 0), .s (.int .i64 0)], fs := [(0, 1, false), (1, 1, false), (2, 1, false), (3, 1, false)], eqv := true }
 (.node 104 { ds := .st, row := .cons (.int .i64) (.cons (.int .i64) (.cons (.int .i64) (.one (.sl (.one (.int .u8)))))), n := 4, agg := true, zero := [.s (.int .i64 0), .s (.int .i64 0), .s (.int .i64 0), .nl], fs := [(0, 1, false), (1, 3, true)] }
 (.node 103 { ds := .st, row := .cons (.int .i64) (.cons (.int .i64) (.cons (.int .i64) (.one (.sl (.one (.int .u8)))))), n := 4, agg := true, zero := [.s (.int .i64 0), .s (.int .i64 0), .s (.int .i64 0), .nl], fs := [(0, 1, false), (1, 3, true)] }
 (.node 97 { ds := .st, row := .cons (.int .i64) (.cons (.int .i64) (.cons (.int .i64) (.cons (.int .i64) (.cons (.int .i64) (.cons (.sl (.one (.int .u8))) (.cons (.int .i64) (.cons (.int .i64) (.cons (.int .i64) (.cons (.int .i64) (.cons (.int .i64) (.cons (.int .i64) (.one (.sl (.one (.int .u8))))))))))))))), n := 13, agg := true, zero := [.s (.int .i64 0), .s (.int .i64 0), .s (.int .i64 0), .s (.int .i64 0), .s (.int .i64 0), .nl, .s (.int .i64 0), .s (.int .i64 0), .s (.int .i64 0), .s (.int .i64 0), .s (.int .i64 0), .s (.int .i64 0), .nl], fs := [(0, 6, true), (6, 1, false), (7, 1, false), (8, 1, false), (9, 1, false), (10, 3, true)] }
 (.leaf)
 (.leaf))
 (.leaf))
 (.node 108 { ds := .st, row := .cons (.int .i64) (.cons (.int .i64) (.cons (.int .i64) (.one (.int .i64)))), n := 4, agg := true, zero := [.s (.int .i64 0), .s (.int .i64 0), .s (.int .i64 0), .s (.int .i64 0)], fs := [(0, 1, false), (1, 1, false), (2, 1, false), (3, 1, false)], eqv := true }
 (.leaf)
 (.leaf)))
 (.node 144 { ds := .st, row := .cons (.int .i64) (.cons (.int .i64) (.cons (.int .i64) (.one (.sl (.one (.int .u8)))))), n := 4, agg := true, zero := [.s (.int .i64 0), .s (.int .i64 0), .s (.int .i64 0), .nl], fs := [(0, 1, false), (1, 3, true)] }
 (.node 143 { ds := .st, row := .cons (.int .i64) (.cons (.int .i64) (.cons (.int .i64) (.one (.sl (.one (.int .u8)))))), n := 4, agg := true, zero := [.s (.int .i64 0), .s (.int .i64 0), .s (.int .i64 0), .nl], fs := [(0, 1, false), (1, 3, true)] }
 (.leaf)
 (.leaf))
 (.node 146 { ds := .st, row := .cons (.int .i64) (.one (.int .i64)), n := 2, agg := true, zero := [.s (.int .i64 0), .s (.int .i64 0)], fs := [(0, 1, false), (1, 1, false)], eqv := true }
 (.leaf)
 (.leaf)))))
 (.node 199 { ds := .arr 16 2, n := 32, agg := true, zero := List.replicate 32 .x }
 (.node 165 { ds := .st, row := .cons (.int .i64) (.cons (.int .i64) (.cons (.int .i64) (.one (.int .i64)))), n := 4, agg := true, zero := [.s (.int .i64 0), .s (.int .i64 0), .s (.int .i64 0), .s (.int .i64 0)], fs := [(0, 1, false), (1, 1, false), (2, 1, false), (3, 1, false)], eqv := true }
 (.node 150 { ds := .st, row := .cons (.int .i64) (.cons (.int .i64) (.cons (.int .i64) (.cons (.sl (.cons (.int .i64) (.cons (.int .i64) (.one (.sl (.one (.int .u8))))))) (.one (.sl (.cons (.int .i64) (.cons (.int .i64) (.one (.sl (.one (.int .u8))))))))))), n := 5, agg := true, zero := [.s (.int .i64 0), .s (.int .i64 0), .s (.int .i64 0), .nl, .nl], fs := [(0, 1, false), (1, 2, true), (3, 2, true)] }
 (.node 149 { ds := .st, row := .cons (.sl (.cons (.int .i64) (.cons (.int .i64) (.one (.sl (.one (.int .u8))))))) (.one (.sl (.cons (.int .i64) (.cons (.int .i64) (.one (.sl (.one (.int .u8)))))))), n := 2, agg := true, zero := [.nl, .nl], fs := [(0, 1, false), (1, 1, false)] }
 (.node 148 { ds := .st, row := .cons (.sl (.cons (.int .i64) (.cons (.int .i64) (.one (.sl (.one (.int .u8))))))) (.one (.sl (.cons (.int .i64) (.cons (.int .i64) (.one (.sl (.one (.int .u8)))))))), n := 2, agg := true, zero := [.nl, .nl], fs := [(0, 1, false), (1, 1, false)] }
 (.leaf)
 (.leaf))
 (.leaf))
 (.node 151 { ds := .st, row := .cons (.int .i64) (.cons (.int .i64) (.cons (.int .i64) (.cons (.sl (.cons (.int .i64) (.cons (.int .i64) (.one (.sl (.one (.int .u8))))))) (.one (.sl (.cons (.int .i64) (.cons (.int .i64) (.one (.sl (.one (.int .u8))))))))))), n := 5, agg := true, zero := [.s (.int .i64 0), .s (.int .i64 0), .s (.int .i64 0), .nl, .nl], fs := [(0, 1, false), (1, 2, true), (3, 2, true)] }
 (.leaf)
 (.leaf)))
 (.node 197 { ds := .st, row := .cons (.int .u8) (.one (.int .u8)), n := 2, agg := true, zero := [.s (.int .u8 0), .s (.int .u8 0)], fs := [(0, 1, false), (1, 1, false)] }
 (.node 196 { ds := .arr 256 1, n := 256, agg := true, zero := List.replicate 256 .x }
 (.node 175 { ds := .int .u64, zero := [.s (.int .u64 0)] }
 (.leaf)
 (.leaf))
 (.leaf))
 (.node 198 { ds := .st, row := .cons (.int .u8) (.one (.int .u8)), n := 2, agg := true, zero := [.s (.int .u8 0), .s (.int .u8 0)], fs := [(0, 1, false), (1, 1, false)] }
 (.leaf)
 (.leaf))))
 (.node 224 { ds := .int .u8, zero := [.s (.int .u8 0)] }
 (.node 214 { ds := .sl, row := .one (.sl (.one (.int .u8))), bytes := 24, zero := [.nl] }
 (.node 210 { ds := .int .u64, zero := [.s (.int .u64 0)] }
 (.node 203 { ds := .sl, row := .one (.sl (.cons (.int .i64) (.cons (.int .i64) (.one (.sl (.one (.int .u8))))))), bytes := 24, zero := [.nl] }
 (.leaf)
 (.leaf))
 (.leaf))
 (.node 223 { ds := .int .u32, zero := [.s (.int .u32 0)] }
 (.leaf)
 (.leaf)))
 (.node 228 { ds := .int .i32, zero := [.s (.int .i32 0)] }
 (.node 225 { ds := .int .u8, zero := [.s (.int .u8 0)] }
 (.leaf)
 (.leaf))
 (.node 229 { ds := .int .i32, zero := [.s (.int .i32 0)] }
 (.leaf)
 (.leaf))))))
theorem at7 : iG Go.Proofs.Tryz.prog tys.get := asT (by kernel_rfl)
def globs : Nat → Option ((r : Rw) × List r.T) := abO
def I : Nat → World → Prop := ap2 globs
theorem asU {Γ : Env} (h : Γ.glob = globs) : agA I Γ := fun B0 w0 hI g r xs hg => hI g r xs (by rw [← h]; exact hg)
theorem mixed : Go.Proofs.Tryz.prog.follows .mixedOrders = true := by kernel_rfl
end Go.Ev.Seat
end
section
namespace Go.Ev.Seat
noncomputable abbrev F.EN := Go.Proofs.Tryz.f3
abbrev N.EN : Nat := 3
noncomputable abbrev F.Ov := Go.Proofs.Tryz.f6
abbrev N.Ov : Nat := 6
noncomputable abbrev F.Ei := Go.Proofs.Tryz.f7
abbrev N.Ei : Nat := 7
noncomputable abbrev F.Ox := Go.Proofs.Tryz.f8
abbrev N.Ox : Nat := 8
noncomputable abbrev F.Oy := Go.Proofs.Tryz.f9
abbrev N.Oy : Nat := 9
noncomputable abbrev F.Oz := Go.Proofs.Tryz.f10
abbrev N.Oz : Nat := 10
noncomputable abbrev F.acw := Go.Proofs.Tryz.f19
abbrev N.acw : Nat := 19
noncomputable abbrev F.Vl := Go.Proofs.Tryz.f22
abbrev N.Vl : Nat := 22
noncomputable abbrev F.QW := Go.Proofs.Tryz.f23
abbrev N.QW : Nat := 23
noncomputable abbrev F.lU := Go.Proofs.Tryz.f24
abbrev N.lU : Nat := 24
noncomputable abbrev F.dw := Go.Proofs.Tryz.f25
abbrev N.dw : Nat := 25
noncomputable abbrev F.Gz := Go.Proofs.Tryz.f26
abbrev N.Gz : Nat := 26
noncomputable abbrev F.Dc := Go.Proofs.Tryz.f27
abbrev N.Dc : Nat := 27
noncomputable abbrev F.KG := Go.Proofs.Tryz.f28
abbrev N.KG : Nat := 28
noncomputable abbrev F.OA := Go.Proofs.Tryz.f29
abbrev N.OA : Nat := 29
noncomputable abbrev F.Gm := Go.Proofs.Tryz.f30
abbrev N.Gm : Nat := 30
noncomputable abbrev F.Vm := Go.Proofs.Tryz.f31
abbrev N.Vm : Nat := 31
noncomputable abbrev F.QX := Go.Proofs.Tryz.f32
abbrev N.QX : Nat := 32
noncomputable abbrev F.Ej := Go.Proofs.Tryz.f33
abbrev N.Ej : Nat := 33
noncomputable abbrev F.Vo := Go.Proofs.Tryz.f34
abbrev N.Vo : Nat := 34
noncomputable abbrev F.QY := Go.Proofs.Tryz.f35
abbrev N.QY : Nat := 35
noncomputable abbrev F.Vp := Go.Proofs.Tryz.f42
abbrev N.Vp : Nat := 42
noncomputable abbrev F.GH := Go.Proofs.Tryz.f43
abbrev N.GH : Nat := 43
noncomputable abbrev F.Df := Go.Proofs.Tryz.f48
abbrev N.Df : Nat := 48
noncomputable abbrev F.zC := Go.Proofs.Tryz.f49
abbrev N.zC : Nat := 49
noncomputable abbrev F.zD := Go.Proofs.Tryz.f50
abbrev N.zD : Nat := 50
noncomputable abbrev F.GI := Go.Proofs.Tryz.f51
abbrev N.GI : Nat := 51
noncomputable abbrev F.acy := Go.Proofs.Tryz.f52
abbrev N.acy : Nat := 52
noncomputable abbrev F.GK := Go.Proofs.Tryz.f53
abbrev N.GK : Nat := 53
noncomputable abbrev F.uj := Go.Proofs.Tryz.f54
abbrev N.uj : Nat := 54
noncomputable abbrev F.nV := Go.Proofs.Tryz.f55
abbrev N.nV : Nat := 55
noncomputable abbrev F.qo := Go.Proofs.Tryz.f56
abbrev N.qo : Nat := 56
noncomputable abbrev F.Ac := Go.Proofs.Tryz.f57
abbrev N.Ac : Nat := 57
noncomputable abbrev F.Vq := Go.Proofs.Tryz.f58
abbrev N.Vq : Nat := 58
noncomputable abbrev F.KH := Go.Proofs.Tryz.f59
abbrev N.KH : Nat := 59
noncomputable abbrev F.o9 := Go.Proofs.Tryz.f60
abbrev N.o9 : Nat := 60
noncomputable abbrev F.Jj := Go.Proofs.Tryz.f61
abbrev N.Jj : Nat := 61
noncomputable abbrev F.KI := Go.Proofs.Tryz.f62
abbrev N.KI : Nat := 62
noncomputable abbrev F.Gn := Go.Proofs.Tryz.f63
abbrev N.Gn : Nat := 63
noncomputable abbrev F.Ad := Go.Proofs.Tryz.f64
abbrev N.Ad : Nat := 64
noncomputable abbrev F.DK := Go.Proofs.Tryz.f65
abbrev N.DK : Nat := 65
noncomputable abbrev F.pO := Go.Proofs.Tryz.f66
abbrev N.pO : Nat := 66
noncomputable abbrev F.pq := Go.Proofs.Tryz.f67
abbrev N.pq : Nat := 67
noncomputable abbrev F.Vr := Go.Proofs.Tryz.f68
abbrev N.Vr : Nat := 68
noncomputable abbrev F.GL := Go.Proofs.Tryz.f69
abbrev N.GL : Nat := 69
noncomputable abbrev F.Gp := Go.Proofs.Tryz.f70
abbrev N.Gp : Nat := 70
noncomputable abbrev F.pz := Go.Proofs.Tryz.f71
abbrev N.pz : Nat := 71
noncomputable abbrev F.mF := Go.Proofs.Tryz.f72
abbrev N.mF : Nat := 72
noncomputable abbrev F.rJ := Go.Proofs.Tryz.f73
abbrev N.rJ : Nat := 73
noncomputable abbrev F.zF := Go.Proofs.Tryz.f74
abbrev N.zF : Nat := 74
noncomputable abbrev F.zG := Go.Proofs.Tryz.f75
abbrev N.zG : Nat := 75
noncomputable abbrev F.Dh := Go.Proofs.Tryz.f76
abbrev N.Dh : Nat := 76
noncomputable abbrev F.acz := Go.Proofs.Tryz.f77
abbrev N.acz : Nat := 77
noncomputable abbrev F.Vs := Go.Proofs.Tryz.f78
abbrev N.Vs : Nat := 78
noncomputable abbrev F.acA := Go.Proofs.Tryz.f79
abbrev N.acA : Nat := 79
noncomputable abbrev F.rM := Go.Proofs.Tryz.f80
abbrev N.rM : Nat := 80
noncomputable abbrev F.zH := Go.Proofs.Tryz.f81
abbrev N.zH : Nat := 81
noncomputable abbrev F.zI := Go.Proofs.Tryz.f82
abbrev N.zI : Nat := 82
noncomputable abbrev F.Di := Go.Proofs.Tryz.f83
abbrev N.Di : Nat := 83
noncomputable abbrev F.cmp_Compare_int := Go.Proofs.Tryz.f86
abbrev N.cmp_Compare_int : Nat := 86
noncomputable abbrev F.Gq := Go.Proofs.Tryz.f92
abbrev N.Gq : Nat := 92
noncomputable abbrev F.xw := Go.Proofs.Tryz.f94
abbrev N.xw : Nat := 94
noncomputable abbrev F.GN := Go.Proofs.Tryz.f96
abbrev N.GN : Nat := 96
noncomputable abbrev F.GR := Go.Proofs.Tryz.f97
abbrev N.GR : Nat := 97
noncomputable abbrev F.Vt := Go.Proofs.Tryz.f98
abbrev N.Vt : Nat := 98
noncomputable abbrev F.GU := Go.Proofs.Tryz.f99
abbrev N.GU : Nat := 99
noncomputable abbrev F.GV := Go.Proofs.Tryz.f100
abbrev N.GV : Nat := 100
noncomputable abbrev F.KJ := Go.Proofs.Tryz.f101
abbrev N.KJ : Nat := 101
noncomputable abbrev F.OB := Go.Proofs.Tryz.f102
abbrev N.OB : Nat := 102
noncomputable abbrev F.Em := Go.Proofs.Tryz.f103
abbrev N.Em : Nat := 103
noncomputable abbrev F.zJ := Go.Proofs.Tryz.f104
abbrev N.zJ : Nat := 104
noncomputable abbrev F.vK := Go.Proofs.Tryz.f105
abbrev N.vK : Nat := 105
noncomputable abbrev F.vM := Go.Proofs.Tryz.f106
abbrev N.vM : Nat := 106
noncomputable abbrev F.um := Go.Proofs.Tryz.f107
abbrev N.um : Nat := 107
noncomputable abbrev F.GX := Go.Proofs.Tryz.f108
abbrev N.GX : Nat := 108
noncomputable abbrev F.GY := Go.Proofs.Tryz.f109
abbrev N.GY : Nat := 109
noncomputable abbrev F.GZ := Go.Proofs.Tryz.f110
abbrev N.GZ : Nat := 110
noncomputable abbrev F.G7 := Go.Proofs.Tryz.f111
abbrev N.G7 : Nat := 111
noncomputable abbrev F.KL := Go.Proofs.Tryz.f112
abbrev N.KL : Nat := 112
noncomputable abbrev F.Vu := Go.Proofs.Tryz.f113
abbrev N.Vu : Nat := 113
noncomputable abbrev F.G8 := Go.Proofs.Tryz.f114
abbrev N.G8 : Nat := 114
noncomputable abbrev F.Ae := Go.Proofs.Tryz.f115
abbrev N.Ae : Nat := 115
noncomputable abbrev F.Af := Go.Proofs.Tryz.f116
abbrev N.Af : Nat := 116
noncomputable abbrev F.KN := Go.Proofs.Tryz.f117
abbrev N.KN : Nat := 117
noncomputable abbrev F.mV := Go.Proofs.Tryz.f118
abbrev N.mV : Nat := 118
noncomputable abbrev F.nX := Go.Proofs.Tryz.f119
abbrev N.nX : Nat := 119
noncomputable abbrev F.Jk := Go.Proofs.Tryz.f120
abbrev N.Jk : Nat := 120
noncomputable abbrev F.Ag := Go.Proofs.Tryz.f121
abbrev N.Ag : Nat := 121
noncomputable abbrev F.G9 := Go.Proofs.Tryz.f122
abbrev N.G9 : Nat := 122
noncomputable abbrev F.i_in := Go.Proofs.Tryz.f123
abbrev N.i_in : Nat := 123
noncomputable abbrev F.qp := Go.Proofs.Tryz.f124
abbrev N.qp : Nat := 124
noncomputable abbrev F.uq := Go.Proofs.Tryz.f125
abbrev N.uq : Nat := 125
noncomputable abbrev F.zK := Go.Proofs.Tryz.f126
abbrev N.zK : Nat := 126
noncomputable abbrev F.He := Go.Proofs.Tryz.f127
abbrev N.He : Nat := 127
noncomputable abbrev F.Hf := Go.Proofs.Tryz.f128
abbrev N.Hf : Nat := 128
noncomputable abbrev F.KO := Go.Proofs.Tryz.f129
abbrev N.KO : Nat := 129
noncomputable abbrev F.cmp_isNaN_int := Go.Proofs.Tryz.f130
abbrev N.cmp_isNaN_int : Nat := 130
noncomputable abbrev F.eX := Go.Proofs.Tryz.f132
abbrev N.eX : Nat := 132
noncomputable abbrev F.KP := Go.Proofs.Tryz.f133
abbrev N.KP : Nat := 133
noncomputable abbrev F.OC := Go.Proofs.Tryz.f134
abbrev N.OC : Nat := 134
noncomputable abbrev F.Hg := Go.Proofs.Tryz.f135
abbrev N.Hg : Nat := 135
noncomputable abbrev F.Hl := Go.Proofs.Tryz.f136
abbrev N.Hl : Nat := 136
noncomputable abbrev F.Ho := Go.Proofs.Tryz.f137
abbrev N.Ho : Nat := 137
noncomputable abbrev F.Vw := Go.Proofs.Tryz.f138
abbrev N.Vw : Nat := 138
noncomputable abbrev F.KQ := Go.Proofs.Tryz.f139
abbrev N.KQ : Nat := 139
noncomputable abbrev F.lI := Go.Proofs.Tryz.f140
abbrev N.lI : Nat := 140
noncomputable abbrev F.gI := Go.Proofs.Tryz.f141
abbrev N.gI : Nat := 141
noncomputable abbrev F.je := Go.Proofs.Tryz.f142
abbrev N.je : Nat := 142
noncomputable abbrev F.pF := Go.Proofs.Tryz.f143
abbrev N.pF : Nat := 143
noncomputable abbrev F.vN := Go.Proofs.Tryz.f144
abbrev N.vN : Nat := 144
noncomputable abbrev F.vO := Go.Proofs.Tryz.f145
abbrev N.vO : Nat := 145
noncomputable abbrev F.bytes_Equal := Go.Proofs.Tryz.f146
abbrev N.bytes_Equal : Nat := 146
noncomputable abbrev F.Jl := Go.Proofs.Tryz.f147
abbrev N.Jl : Nat := 147
noncomputable abbrev F.KR := Go.Proofs.Tryz.f148
abbrev N.KR : Nat := 148
noncomputable abbrev F.dD := Go.Proofs.Tryz.f149
abbrev N.dD : Nat := 149
noncomputable abbrev F.dM := Go.Proofs.Tryz.f150
abbrev N.dM : Nat := 150
noncomputable abbrev F.jf := Go.Proofs.Tryz.f151
abbrev N.jf : Nat := 151
noncomputable abbrev F.zL := Go.Proofs.Tryz.f152
abbrev N.zL : Nat := 152
noncomputable abbrev F.pG := Go.Proofs.Tryz.f153
abbrev N.pG : Nat := 153
noncomputable abbrev F.nY := Go.Proofs.Tryz.f154
abbrev N.nY : Nat := 154
noncomputable abbrev F.Vx := Go.Proofs.Tryz.f155
abbrev N.Vx : Nat := 155
noncomputable abbrev F.OD := Go.Proofs.Tryz.f156
abbrev N.OD : Nat := 156
noncomputable abbrev F.xA := Go.Proofs.Tryz.f157
abbrev N.xA : Nat := 157
noncomputable abbrev F.Ah := Go.Proofs.Tryz.f158
abbrev N.Ah : Nat := 158
noncomputable abbrev F.Eo := Go.Proofs.Tryz.f159
abbrev N.Eo : Nat := 159
noncomputable abbrev F.OE := Go.Proofs.Tryz.f160
abbrev N.OE : Nat := 160
noncomputable abbrev F.Ai := Go.Proofs.Tryz.f161
abbrev N.Ai : Nat := 161
noncomputable abbrev F.Vy := Go.Proofs.Tryz.f162
abbrev N.Vy : Nat := 162
noncomputable abbrev F.KT := Go.Proofs.Tryz.f163
abbrev N.KT : Nat := 163
noncomputable abbrev F.Gs := Go.Proofs.Tryz.f164
abbrev N.Gs : Nat := 164
noncomputable abbrev F.zM := Go.Proofs.Tryz.f165
abbrev N.zM : Nat := 165
noncomputable abbrev F.KU := Go.Proofs.Tryz.f166
abbrev N.KU : Nat := 166
noncomputable abbrev F.Gt := Go.Proofs.Tryz.f167
abbrev N.Gt : Nat := 167
noncomputable abbrev F.qw := Go.Proofs.Tryz.f168
abbrev N.qw : Nat := 168
noncomputable abbrev F.dQ := Go.Proofs.Tryz.f169
abbrev N.dQ : Nat := 169
noncomputable abbrev F.OG := Go.Proofs.Tryz.f170
abbrev N.OG : Nat := 170
noncomputable abbrev F.KW := Go.Proofs.Tryz.f171
abbrev N.KW : Nat := 171
noncomputable abbrev F.utf8_RuneStart := Go.Proofs.Tryz.f172
abbrev N.utf8_RuneStart : Nat := 172
noncomputable abbrev F.Aj := Go.Proofs.Tryz.f173
abbrev N.Aj : Nat := 173
noncomputable abbrev F.bG := Go.Proofs.Tryz.f174
abbrev N.bG : Nat := 174
noncomputable abbrev F.nZ := Go.Proofs.Tryz.f175
abbrev N.nZ : Nat := 175
noncomputable abbrev F.KX := Go.Proofs.Tryz.f176
abbrev N.KX : Nat := 176
noncomputable abbrev F.qx := Go.Proofs.Tryz.f177
abbrev N.qx : Nat := 177
noncomputable abbrev F.bI := Go.Proofs.Tryz.f178
abbrev N.bI : Nat := 178
noncomputable abbrev F.lJ := Go.Proofs.Tryz.f179
abbrev N.lJ : Nat := 179
noncomputable abbrev F.Ep := Go.Proofs.Tryz.f180
abbrev N.Ep : Nat := 180
noncomputable abbrev F.Gu := Go.Proofs.Tryz.f181
abbrev N.Gu : Nat := 181
noncomputable abbrev F.Es := Go.Proofs.Tryz.f182
abbrev N.Es : Nat := 182
noncomputable abbrev F.Hq := Go.Proofs.Tryz.f183
abbrev N.Hq : Nat := 183
noncomputable abbrev F.bQ := Go.Proofs.Tryz.f184
abbrev N.bQ : Nat := 184
noncomputable abbrev F.jg := Go.Proofs.Tryz.f185
abbrev N.jg : Nat := 185
noncomputable abbrev F.uw := Go.Proofs.Tryz.f186
abbrev N.uw : Nat := 186
noncomputable abbrev F.uy := Go.Proofs.Tryz.f187
abbrev N.uy : Nat := 187
noncomputable abbrev F.Hr := Go.Proofs.Tryz.f188
abbrev N.Hr : Nat := 188
noncomputable abbrev F.jh := Go.Proofs.Tryz.f189
abbrev N.jh : Nat := 189
end Go.Ev.Seat
end
section
set_option linter.unusedVariables false
namespace Go.Ev
mutual
inductive Sh where
 | x | nl | int (k : IntKind) | bool | str | l (o : Ow) (r : Rw) | w (k : Nat) | pb (k c : Nat) | a (ss : Vz) | io (ss : Vz) | f (g : Nat) (ss : Vz) | qb (ss : Vz) (c : Nat) | lit (v : Value) | q (r : Rw) (c : Nat) | r (k : Nat) | pa (k c : Nat)
inductive Vz where
 | nil
 | cons (s : Sh) (ss : Vz)
end
mutual
@[reducible] def Sh.T : Sh → Type
 | .int _ => Int
 | .bool => Bool
 | .str => ByteArray
 | .l _ r => List r.T
 | .a ss => ss.T
 | .io ss => ss.T
 | .f _ ss => ss.T
 | .qb ss _ => ss.T
 | .q r _ => r.T
 | .r _ => Nat × Nat
 | .pa _ _ => Nat
 | _ => Unit
@[reducible] def Vz.T : Vz → Type
 | .nil => Unit
 | .cons s ss => s.T × ss.T
end
mutual
def Sh.mk : (s : Sh) → s.T → V
 | .x, _ => .x
 | .nl, _ => .nl
 | .int k, n => .s (.int k n)
 | .bool, b => .s (.bool b)
 | .str, b => .s (.string b)
 | .l o r, xs => .l o r xs
 | .w k, _ => .w k
 | .pb k c, _ => .pb k c
 | .a ss, d => .a (ss.mk d)
 | .io ss, d => .io (ss.mk d)
 | .f g ss, d => .f g (ss.mk d)
 | .qb ss c, d => .qb (ss.mk d) c
 | .lit v, _ => .s v
 | .q r c, d => .q r d c
 | .r k, d => .r k d.1 d.2
 | .pa k c, i => .pa k i c
def Vz.mk : (ss : Vz) → ss.T → List V
 | .nil, _ => []
 | .cons s ss, d => s.mk d.1 :: ss.mk d.2
end
mutual
def Sh.un : (s : Sh) → V → Option s.T
 | .x, .x => some ()
 | .nl, .nl => some ()
 | .int k, .s (.int k' n) => if k' = k then some n else none
 | .bool, .s (.bool b) => some b
 | .str, .s (.string b) => some b
 | .l o r, .l o' r' xs => if h : r' = r then (if o' = o then some (h ▸ xs) else none) else none
 | .w k, .w j => bif Nat.beq j k then some () else none
 | .pb k c, .pb j e => bif Nat.beq j k && Nat.beq e c then some () else none
 | .a ss, .a cs => ss.un cs
 | .io ss, .io cs => ss.un cs
 | .f g ss, .f g' cs => bif Nat.beq g' g then ss.un cs else none
 | .qb ss c, .qb cs c' => bif Nat.beq c' c then ss.un cs else none
 | .q r c, .q r' d c' => if h : r' = r then (bif Nat.beq c' c then some (h ▸ d) else none) else none
 | .r k, .r j off len => bif Nat.beq j k then some (off, len) else none
 | .pa k c, .pa j i e => bif Nat.beq j k && Nat.beq e c then some i else none
 | _, _ => none
def Vz.un : (ss : Vz) → List V → Option ss.T
 | .nil, [] => some ()
 | .cons s ss, v :: vs => match s.un v with
  | some d => match ss.un vs with
   | some e => some (d, e)
   | none => none
  | none => none
 | _, _ => none
end
mutual
theorem Sh.dY : (s : Sh) → {v : V} → {d : s.T} → s.un v = some d → v = s.mk d
 | .x, v, d, h => by cases v <;> simp [Sh.un] at h; rfl
 | .nl, v, d, h => by cases v <;> simp [Sh.un] at h; rfl
 | .int k, v, d, h => by
  cases v with
  | s u =>
   cases u with
   | int k' n =>
    simp only [Sh.un] at h
    split at h
    ·rename_i hk; subst hk; cases h; rfl
    ·cases h
   | _ => simp [Sh.un] at h
  | _ => simp [Sh.un] at h
 | .bool, v, d, h => by
  cases v with
  | s u =>
   cases u with
   | bool b => simp only [Sh.un] at h; cases h; rfl
   | _ => simp [Sh.un] at h
  | _ => simp [Sh.un] at h
 | .str, v, d, h => by
  cases v with
  | s u =>
   cases u with
   | string b => simp only [Sh.un] at h; cases h; rfl
   | _ => simp [Sh.un] at h
  | _ => simp [Sh.un] at h
 | .l o r, v, d, h => by
  cases v with
  | l o' r' xs =>
   simp only [Sh.un] at h
   split at h
   ·rename_i hr
    subst hr
    split at h
    ·rename_i ho; subst ho; cases h; rfl
    ·cases h
   ·cases h
  | _ => simp [Sh.un] at h
 | .lit u, v, d, h => by simp [Sh.un] at h
 | .io ss, v, d, h => by
  cases v with
  | io cs => simp only [Sh.un] at h; simp only [Sh.mk]; rw [Vz.dY ss h]
  | _ => simp [Sh.un] at h
 | .f g ss, v, d, h => by
  cases v with
  | f g' cs =>
   simp only [Sh.un] at h
   cases e : Nat.beq g' g with
   | true => rw [e] at h; simp only [Sh.mk]; rw [Vz.dY ss h, Nat.eq_of_beq_eq_true e]
   | false => rw [e] at h; cases h
  | _ => simp [Sh.un] at h
 | .qb ss c, v, d, h => by
  cases v with
  | qb cs c' =>
   simp only [Sh.un] at h
   cases e : Nat.beq c' c with
   | true => rw [e] at h; simp only [Sh.mk]; rw [Vz.dY ss h, Nat.eq_of_beq_eq_true e]
   | false => rw [e] at h; cases h
  | _ => simp [Sh.un] at h
 | .q r c, v, d, h => by
  cases v with
  | q r' e c' =>
   simp only [Sh.un] at h
   split at h
   ·rename_i hr
    subst hr
    cases e1 : Nat.beq c' c with
    | true => rw [e1] at h; cases h; rw [Nat.eq_of_beq_eq_true e1]; rfl
    | false => rw [e1] at h; cases h
   ·cases h
  | _ => simp [Sh.un] at h
 | .r k, v, d, h => by
  cases v with
  | r j off len =>
   simp only [Sh.un] at h
   cases e : Nat.beq j k with
   | true => rw [e] at h; cases h; rw [Nat.eq_of_beq_eq_true e]; rfl
   | false => rw [e] at h; cases h
  | _ => simp [Sh.un] at h
 | .pa k c, v, d, h => by
  cases v with
  | pa j i e =>
   simp only [Sh.un] at h
   cases e1 : (Nat.beq j k && Nat.beq e c) with
   | true =>
    rw [e1] at h
    simp only [Bool.and_eq_true] at e1
    cases h
    rw [Nat.eq_of_beq_eq_true e1.1, Nat.eq_of_beq_eq_true e1.2]; rfl
   | false => rw [e1] at h; cases h
  | _ => simp [Sh.un] at h
 | .w k, v, d, h => by
  cases v with
  | w j =>
   simp only [Sh.un] at h
   cases e : Nat.beq j k with
   | true => rw [Nat.eq_of_beq_eq_true e]; rfl
   | false => rw [e] at h; cases h
  | _ => simp [Sh.un] at h
 | .pb k c, v, d, h => by
  cases v with
  | pb j e =>
   simp only [Sh.un] at h
   cases e1 : (Nat.beq j k && Nat.beq e c) with
   | true =>
    simp only [Bool.and_eq_true] at e1
    rw [Nat.eq_of_beq_eq_true e1.1, Nat.eq_of_beq_eq_true e1.2]; rfl
   | false => rw [e1] at h; cases h
  | _ => simp [Sh.un] at h
 | .a ss, v, d, h => by
  cases v with
  | a cs => simp only [Sh.un] at h; simp only [Sh.mk]; rw [Vz.dY ss h]
  | _ => simp [Sh.un] at h
theorem Vz.dY : (ss : Vz) → {vs : List V} → {d : ss.T} → ss.un vs = some d → vs = ss.mk d
 | .nil, [], d, h => rfl
 | .nil, _ :: _, d, h => by simp [Vz.un] at h
 | .cons s ss, [], d, h => by simp [Vz.un] at h
 | .cons s ss, v :: vs, d, h => by
  simp only [Vz.un] at h
  split at h
  ·rename_i e he
   split at h
   ·rename_i f hf
    cases h
    simp only [Vz.mk]
    rw [← Sh.dY s he, ← Vz.dY ss hf]
   ·cases h
  ·cases h
end
inductive Oh where
 | nil
 | arr (mu deep : Bool) (r : Rw) (o : Oh)
 | own (st : Bool) (r : Rw) (o : Oh)
 | box (ss : Vz) (o : Oh)
@[reducible] def Oh.T : Oh → Type
 | .nil => Unit
 | .arr _ _ r o => List r.T × o.T
 | .own _ r o => List r.T × o.T
 | .box ss o => ss.T × o.T
def Oh.mk : (o : Oh) → Nat → o.T → dO
 | .nil, _, _ => []
 | .arr mu deep r o, n, d => (n, .arr mu deep r d.1) :: o.mk (n + 1) d.2
 | .own st r o, n, d => (n, .own st r d.1) :: o.mk (n + 1) d.2
 | .box ss o, n, d => (n, .box (ss.mk d.1)) :: o.mk (n + 1) d.2
def Oh.un : (o : Oh) → Nat → dO → Option o.T
 | .nil, _, [] => some ()
 | .arr mu deep r o, n, (j, .arr mu' deep' r' xs) :: ob => if h : r' = r then (bif Nat.beq j n && (mu' == mu) && (deep' == deep) then (match o.un (n + 1) ob with
  | some e => some (h ▸ xs, e)
  | none => none) else none) else none
 | .own st r o, n, (j, .own st' r' xs) :: ob => if h : r' = r then (bif Nat.beq j n && (st' == st) then (match o.un (n + 1) ob with
  | some e => some (h ▸ xs, e)
  | none => none) else none) else none
 | .box ss o, n, (j, .box cs) :: ob => bif Nat.beq j n then (match ss.un cs with
  | some d => match o.un (n + 1) ob with
   | some e => some (d, e)
   | none => none
  | none => none) else none
 | _, _, _ => none
theorem Oh.dY : (o : Oh) → {n : Nat} → {ob : dO} → {d : o.T} → o.un n ob = some d → ob = o.mk n d
 | .nil, n, [], d, h => rfl
 | .nil, n, _ :: _, d, h => by simp [Oh.un] at h
 | .arr mu deep r o, n, [], d, h => by simp [Oh.un] at h
 | .arr mu deep r o, n, (j, e) :: ob, d, h => by
  cases e with
  | arr mu' deep' r' xs =>
   simp only [Oh.un] at h
   split at h
   ·rename_i hr
    subst hr
    cases e1 : (Nat.beq j n && (mu' == mu) && (deep' == deep)) with
    | true =>
     rw [e1] at h
     simp only [Bool.and_eq_true, beq_iff_eq] at e1
     obtain ⟨⟨h1, rfl⟩, rfl⟩ := e1
     have := Nat.eq_of_beq_eq_true h1
     subst this
     simp only [cond_true] at h
     split at h
     ·rename_i f hf
      cases h
      simp only [Oh.mk]
      rw [← Oh.dY o hf]
     ·cases h
    | false => rw [e1] at h; cases h
   ·cases h
  | _ => simp [Oh.un] at h
 | .own st r o, n, [], d, h => by simp [Oh.un] at h
 | .own st r o, n, (j, e) :: ob, d, h => by
  cases e with
  | own st' r' xs =>
   simp only [Oh.un] at h
   split at h
   ·rename_i hr
    subst hr
    cases e1 : (Nat.beq j n && (st' == st)) with
    | true =>
     rw [e1] at h
     simp only [Bool.and_eq_true, beq_iff_eq] at e1
     obtain ⟨h1, rfl⟩ := e1
     have := Nat.eq_of_beq_eq_true h1
     subst this
     simp only [cond_true] at h
     split at h
     ·rename_i f hf
      cases h
      simp only [Oh.mk]
      rw [← Oh.dY o hf]
     ·cases h
    | false => rw [e1] at h; cases h
   ·cases h
  | _ => simp [Oh.un] at h
 | .box ss o, n, [], d, h => by simp [Oh.un] at h
 | .box ss o, n, (j, e) :: ob, d, h => by
  cases e with
  | box cs =>
   simp only [Oh.un] at h
   cases e1 : Nat.beq j n with
   | true =>
    rw [e1] at h
    have := Nat.eq_of_beq_eq_true e1
    subst this
    simp only [cond_true] at h
    split at h
    ·rename_i f hf
     split at h
     ·rename_i g hg
      cases h
      simp only [Oh.mk]
      rw [← Vz.dY ss hf, ← Oh.dY o hg]
     ·cases h
    ·cases h
   | false => rw [e1] at h; cases h
  | _ => simp [Oh.un] at h
structure Ss where
 tm : Vz
 ob : Oh
 nx : Nat
 io : Vz
abbrev Ss.T (s : Ss) : Type := s.tm.T × s.ob.T × s.io.T
def Ss.mk' (s : Ss) (d : s.T) : St := { tm := s.tm.mk d.1, ob := s.ob.mk 0 d.2.1, nx := s.nx, io := s.io.mk d.2.2 }
def Ss.un (s : Ss) (σ : St) : Option s.T :=
 match s.tm.un σ.tm with
 | none => none
 | some d => match s.ob.un 0 σ.ob with
  | none => none
  | some e => match s.io.un σ.io with
   | none => none
   | some f => bif Nat.beq σ.nx s.nx then some (d, e, f) else none
theorem Ss.dY {s : Ss} {σ : St} {d : s.T} (h : s.un σ = some d) : σ = s.mk' d := by
 unfold Ss.un at h
 split at h
 ·cases h
 ·rename_i d1 h1
  split at h
  ·cases h
  ·rename_i d2 h2
   split at h
   ·cases h
   ·rename_i d3 h3
    cases e : Nat.beq σ.nx s.nx with
    | false => rw [e] at h; cases h
    | true =>
     rw [e] at h
     cases h
     obtain ⟨tm, ob, nx, io⟩ := σ
     have := Nat.eq_of_beq_eq_true e
     simp only at h1 h2 h3 this
     subst this
     simp only [Ss.mk']
     rw [← Vz.dY _ h1, ← Oh.dY _ h2, ← Vz.dY _ h3]
def nP : Code → List Code
 | .seq a b => nP a ++ nP b
 | .cond _ a b => nP a ++ nP b
 | .block _ c => nP c
 | .loop c => c :: nP c
 | _ => []
def dJ (Γ : Env) (c : Code) : Prop := ∀ n F, fK c = some n → Γ.sum n = some F → ∀ σ K r, F σ K = some r → ∃ m, rounds (run Γ c) (Γ.hint n).1 (Γ.hint n).2 m σ K = some r
theorem zu {Γ : Env} : (c : Code) → (∀ b ∈ nP c, dJ Γ b) → FB Γ c
 | .seq a b, h => ⟨zu a (fun c hc => h c (by simp [nP, hc])), zu b (fun c hc => h c (by simp [nP, hc]))⟩
 | .cond _ a b, h => ⟨zu a (fun c hc => h c (by simp [nP, hc])), zu b (fun c hc => h c (by simp [nP, hc]))⟩
 | .block _ c, h => zu c (fun b hb => h b (by simpa [nP] using hb))
 | .loop c, h => ⟨h c (by simp [nP]), zu c (fun b hb => h b (by simp [nP, hb]))⟩
 | .skip, _ => trivial
 | .region _ _ _, _ => trivial
 | .exit _, _ => trivial
 | .goto _, _ => trivial
 | .label _, _ => trivial
 | .scope _, _ => trivial
 | .ret, _ => trivial
 | .rangeFunc _ _ _ _, _ => trivial
 | .refuse _, _ => trivial
end Go.Ev
end
section
namespace Go.Ev
set_option linter.unusedVariables false
def uz (sh : Ss) (R : sh.T → (Ex → St → Option aj) → Option aj) (σ : St) (K : Ex → St → Option aj) : Option aj :=
 match sh.un σ with
 | none => none
 | some d => R d K
theorem Ht {Γ : Env} {c : Code} {n : Nat} {sh : Ss} {R : sh.T → (Ex → St → Option aj) → Option aj} (hn : fK c = some n) (hs : Γ.sum n = some (uz sh R)) {li lo : List Nat} (hh : Γ.hint n = (li, lo)) (h : ∀ d K r, R d K = some r → ∃ m, rounds (run Γ c) li lo m (sh.mk' d) K = some r) : dJ Γ c := by
 intro n' F hn' hF σ K r hr
 rw [hn] at hn'
 cases hn'
 rw [hs] at hF
 cases hF
 unfold uz at hr
 split at hr
 ·cases hr
 ·rename_i d hd
  rw [Ss.dY hd, hh]
  exact h d K r hr
abbrev dV := St → (Ex → St → Option aj) → Option aj
theorem dh {Γ : Env} {c : Code} {n : Nat} {F : dV} (hn : fK c = some n) (hs : Γ.sum n = some F) {li lo : List Nat} (hh : Γ.hint n = (li, lo)) (h : ∀ σ K r, F σ K = some r → ∃ m, rounds (run Γ c) li lo m σ K = some r) : dJ Γ c := by
 intro n' F' hn' hF σ K r hr
 rw [hn] at hn'
 cases hn'
 rw [hs] at hF
 cases hF
 rw [hh]
 exact h σ K r hr
def sumOf : List (Nat × List Nat × List Nat × dV) → Nat → Option dV
 | [], _ => none
 | (k, _, _, F) :: l, n => bif Nat.beq n k then some F else sumOf l n
def hintOf : List (Nat × List Nat × List Nat × dV) → Nat → List Nat × List Nat
 | [], _ => ([], [])
 | (k, a, b, _) :: l, n => bif Nat.beq n k then (a, b) else hintOf l n
def agP : List (Nat × Plan × List Nat) → Nat → Option (Plan × List Nat)
 | [], _ => none
 | (k, p, t) :: l, n => bif Nat.beq n k then some (p, t) else agP l n
def aua (l : List Nat) (n : Nat) : Bool := l.any (Nat.beq n)
def Fj : Nat → Vz
 | 0 => .nil
 | n + 1 => .cons .x (Fj n)
def xd : (n : Nat) → (Fj n).T
 | 0 => ()
 | n + 1 => ((), xd n)
def aS (f : Func) (n : Nat) : Code :=
 ((nP (f.body.getD .skip)).find? (fun c => match fK c with
  | some m => Nat.beq m n
  | none => false)).getD .skip
theorem abP {n : Int} (h0 : 0 ≤ n) (h1 : n ≤ 4611686018427387905) : IntKind.i64.wrap n = n := by
 have : IntKind.i64.wrap n = Go.RowKit.wrap64 n := by
  simp only [IntKind.wrap, IntKind.bits, IntKind.signed, Go.RowKit.wrap64, Bool.true_and]
  split <;> simp_all <;> omega
 rw [this]; unfold Go.RowKit.wrap64; omega
theorem wrap_in {n : Int} (h0 : -9223372036854775808 ≤ n) (h1 : n ≤ 9223372036854775807) : IntKind.i64.wrap n = n := by
 have : IntKind.i64.wrap n = Go.RowKit.wrap64 n := by
  simp only [IntKind.wrap, IntKind.bits, IntKind.signed, Go.RowKit.wrap64, Bool.true_and]
  split <;> simp_all <;> omega
 rw [this]; unfold Go.RowKit.wrap64; omega
def takes : List Nat → Plan
 | [] => .done
 | i :: l => .take i (takes l)
def takeB : List Nat → Plan → Plan
 | [], p => p
 | i :: l, p => .take i (takeB l p)
section
variable {P : Program} {I : Nat → World → Prop}
theorem bn : ∀ q ∈ ([] : List (Nat × Bool × Sm)), aV P I q.1 q.2.1 q.2.2 := fun _ h => nomatch h
theorem aY {g : Nat} {b : Bool} {G : Sm} {l : List (Nat × Bool × Sm)} (h : aV P I g b G) (hl : ∀ q ∈ l, aV P I q.1 q.2.1 q.2.2) : ∀ q ∈ (g, b, G) :: l, aV P I q.1 q.2.1 q.2.2 := fun q hq => by
 rcases List.mem_cons.1 hq with rfl | hq
 ·exact h
 ·exact hl q hq
def VA (Γ : Env) (cs : List Code) : Prop := ∀ b ∈ cs, dJ Γ b
theorem aK {Γ : Env} : VA Γ [] := fun _ h => nomatch h
theorem dA {Γ : Env} {c : Code} {cs : List Code} (h : dJ Γ c) (hl : VA Γ cs) : VA Γ (c :: cs) := fun q hq => by
 rcases List.mem_cons.1 hq with rfl | hq
 ·exact h
 ·exact hl q hq
end
def band (k : IntKind) (a b : Int) : Int := k.wrap ((BitVec.ofInt k.bits a &&& BitVec.ofInt k.bits b).toNat : Int)
def XT (k : IntKind) (a b : Int) : Int := k.wrap ((BitVec.ofInt k.bits a ||| BitVec.ofInt k.bits b).toNat : Int)
def Rl (k : IntKind) (a b : Int) : Int := k.wrap (a * 2 ^ (min b.toNat k.bits))
def MF (k : IntKind) (a b : Int) : Int := a.fdiv (2 ^ (min b.toNat k.bits))
def ap3 : List (Nat × List (Nat × Nat × Rw)) → Nat → List (Nat × Nat × Rw)
 | [], _ => []
 | (k, q) :: l, n => bif Nat.beq n k then q else ap3 l n
def mkE (ty : Nat → Option Ty) (l : List (Nat × Bool × Sm)) (p : List (Nat × Plan × List Nat) := []) (ls : List (Nat × List Nat × List Nat × dV) := []) (lend : List Nat := []) (focus : Bool := false) (fuel : Nat := 0) (give : List Nat := []) (glob : Nat → Option ((r : Rw) × List r.T) := fun _ => none) (Rj : List (Nat × List (Nat × Nat × Rw)) := []) : Env :=
 {ty := ty, fn := tab l, hint := hintOf ls, plan := agP p, sum := sumOf ls, lend := ⟨aua lend, aua give⟩, focus := focus, fuel := fuel, glob := glob, Rj := ap3 Rj }
end Go.Ev
namespace Go.Ev.Seat
open Go.RowKit
set_option maxRecDepth 100000
set_option linter.unusedVariables false
noncomputable abbrev prog := Go.Proofs.Tryz.prog
noncomputable abbrev En (l : List (Nat × Bool × Sm)) (p : List (Nat × Plan × List Nat) := []) (ls : List (Nat × List Nat × List Nat × dV) := []) (lend : List Nat := []) (focus : Bool := false) (fuel : Nat := 0) (give : List Nat := []) (Rj : List (Nat × List (Nat × Nat × Rw)) := []) : Env := mkE tys.get l p ls lend focus fuel give globs Rj
theorem aW {l : List (Nat × Bool × Sm)} {p : List (Nat × Plan × List Nat)} {ls : List (Nat × List Nat × List Nat × dV)} {lend : List Nat} {focus : Bool} {fuel : Nat} {give : List Nat} {Rj : List (Nat × List (Nat × Nat × Rw))} (hl : ∀ q ∈ l, aV prog I q.1 q.2.1 q.2.2) {g : FuncId} {fn : Func} (hg : prog.funcs[g]? = some fn) (hname : (fn.name == "runtime.NumGoroutine") = false) (hb : fn.body = some (fn.body.getD .skip)) (hpl : rX (agP p) (fn.body.getD .skip) = true) {cs : List Code} (hcs : nP (fn.body.getD .skip) = cs) (hlo : VA (En l p ls lend focus fuel give Rj) cs) {fresh : Bool} : aV prog I g fresh (dL (En l p ls lend focus fuel give Rj) fresh fn) :=
 asK (Γ := En l p ls lend focus fuel give Rj) mixed at7 ⟨fun g fresh G h => apX hl g fresh G h, asU rfl⟩ hg hname hb hpl (zu _ (by rw [hcs]; exact hlo))
abbrev ah : Rw := .one (.int .u8)
abbrev Hu : Rw := .one (.int .i64)
end Go.Ev.Seat
end
section
set_option linter.unusedVariables false
namespace Go.Ev
def kQ {α : Type} (f : α → Int → α × Int) : List α → Int → List α × Int
 | [], k => ([], k)
 | x :: xs, k => ((f x k).1 :: (kQ f xs (f x k).2).1, (kQ f xs (f x k).2).2)
structure CU where
 t : Int → ByteArray
def arI : IntKind → Int → Int
 | .i64, n => n
 | k, n => k.wrap n
mutual
def Cc.mark (T : CU) : (c : Cc) → c.T → Int → c.T × Int
 | .int k, _, n => (arI k n, IntKind.i64.wrap (n + 1))
 | .bool, b, n => (b, n)
 | .str, _, n => (T.t n, IntKind.i64.wrap (n + 1))
 | .sl r, xs, n => kQ (r.mark T) xs n
def Rw.mark (T : CU) : (r : Rw) → r.T → Int → r.T × Int
 | .one c, d, n => c.mark T d n
 | .cons c r, d, n => ((( c.mark T d.1 n).1, (r.mark T d.2 (c.mark T d.1 n).2).1), (r.mark T d.2 (c.mark T d.1 n).2).2)
end
theorem VB {α : Type} (f : α → Int → α × Int) : ∀ (xs : List α) (k : Int), (kQ f xs k).1.length = xs.length
 | [], _ => rfl
 | x :: xs, k => by simp [kQ, VB f xs]
theorem RH {α : Type} {f : α → Int → α × Int} (h : ∀ x k, f (f x k).1 k = f x k) : ∀ (xs : List α) (k : Int), kQ f (kQ f xs k).1 k = kQ f xs k
 | [], _ => rfl
 | x :: xs, k => by simp only [kQ, h, RH h xs]
mutual
theorem Cc.KY (T : CU) : (c : Cc) → (d : c.T) → (k : Int) → c.mark T (c.mark T d k).1 k = c.mark T d k
 | .int _, _, _ => rfl
 | .bool, _, _ => rfl
 | .str, _, _ => rfl
 | .sl r, xs, k => by simp only [Cc.mark]; exact RH (fun x k => Rw.KY T r x k) xs k
theorem Rw.KY (T : CU) : (r : Rw) → (d : r.T) → (k : Int) → r.mark T (r.mark T d k).1 k = r.mark T d k
 | .one c, d, k => Cc.KY T c d k
 | .cons c r, d, k => by simp only [Rw.mark, Cc.KY T c, Rw.KY T r]
end
def sumW {α : Type} (f : α → Nat) : List α → Nat
 | [] => 0
 | x :: xs => f x + sumW f xs
mutual
def Cc.w : (c : Cc) → c.T → Nat
 | .int _, _ => 0
 | .bool, _ => 0
 | .str, s => s.size
 | .sl r, xs => xs.length + sumW r.w xs
def Rw.w : (r : Rw) → r.T → Nat
 | .one c, d => c.w d
 | .cons c r, d => c.w d.1 + r.w d.2
end
mutual
def Cc.marks : (c : Cc) → c.T → Nat
 | .int _, _ => 1
 | .bool, _ => 0
 | .str, _ => 1
 | .sl r, xs => sumW r.marks xs
def Rw.marks : (r : Rw) → r.T → Nat
 | .one c, d => c.marks d
 | .cons c r, d => c.marks d.1 + r.marks d.2
end
def Cc.Hw : (c : Cc) → c.T → Nat
 | .sl r, xs => sumW r.marks xs
 | _, _ => 0
def Rw.Hw : (r : Rw) → r.T → Nat
 | .one c, d => c.Hw d
 | .cons c r, d => c.Hw d.1 + r.Hw d.2
theorem VD {α : Type} {f : α → Int → α × Int} {m : α → Nat} (h : ∀ x (k : Int), 0 ≤ k → k + m x ≤ 4611686018427387904 → (f x k).2 = k + m x) : ∀ (xs : List α) (k : Int), 0 ≤ k → k + sumW m xs ≤ 4611686018427387904 → (kQ f xs k).2 = k + sumW m xs
 | [], k, _, _ => by simp [kQ, sumW]
 | x :: xs, k, h0, h1 => by
  simp only [kQ, sumW] at h1 ⊢
  have e := h x k h0 (by omega)
  rw [VD h xs _ (by rw [e]; omega) (by rw [e]; omega), e]
  omega
mutual
theorem Cc.OI (T : CU) : (c : Cc) → (d : c.T) → (k : Int) → 0 ≤ k → k + c.marks d ≤ 4611686018427387904 → (c.mark T d k).2 = k + c.marks d
 | .int _, d, k, h0, h1 => by simp only [Cc.mark, Cc.marks] at h1 ⊢; rw [abP (by omega) (by omega)]; rfl
 | .bool, d, k, h0, h1 => by simp [Cc.mark, Cc.marks]
 | .str, d, k, h0, h1 => by simp only [Cc.mark, Cc.marks] at h1 ⊢; rw [abP (by omega) (by omega)]; rfl
 | .sl r, xs, k, h0, h1 => by simp only [Cc.mark, Cc.marks] at h1 ⊢; exact VD (fun x k => Rw.OI T r x k) xs k h0 h1
theorem Rw.OI (T : CU) : (r : Rw) → (d : r.T) → (k : Int) → 0 ≤ k → k + r.marks d ≤ 4611686018427387904 → (r.mark T d k).2 = k + r.marks d
 | .one c, d, k, h0, h1 => Cc.OI T c d k h0 h1
 | .cons c r, d, k, h0, h1 => by
  simp only [Rw.mark, Rw.marks] at h1 ⊢
  have e := Cc.OI T c d.1 k h0 (by omega)
  rw [Rw.OI T r d.2 _ (by rw [e]; omega) (by rw [e]; omega), e]
  omega
end
mutual
def Cc.lim : (c : Cc) → c.T → Bool
 | .int _, _ => true
 | .bool, _ => true
 | .str, _ => true
 | .sl r, xs => Nat.ble xs.length 1048576 && xs.all r.lim
def Rw.lim : (r : Rw) → r.T → Bool
 | .one c, d => c.lim d
 | .cons c r, d => c.lim d.1 && r.lim d.2
end
theorem acB {α : Type} {f : α → Nat} : ∀ {xs : List α} {x : α}, x ∈ xs → f x ≤ sumW f xs
 | y :: xs, x, h => by
  simp only [sumW]
  rcases List.mem_cons.1 h with rfl | h
  ·omega
  ·have := acB (f := f) h; omega
mutual
theorem Cc.X9 : (c : Cc) → (d : c.T) → c.w d ≤ 1048576 → c.lim d = true
 | .int _, _, _ => rfl
 | .bool, _, _ => rfl
 | .str, _, _ => rfl
 | .sl r, xs, h => by
  simp only [Cc.w] at h
  simp only [Cc.lim, Bool.and_eq_true, List.all_eq_true]
  refine ⟨Nat.ble_eq_true_of_le (by omega), fun x hx => ?_⟩
  have := acB (f := r.w) hx
  exact Rw.X9 r x (by omega)
theorem Rw.X9 : (r : Rw) → (d : r.T) → r.w d ≤ 1048576 → r.lim d = true
 | .one c, d, h => Cc.X9 c d h
 | .cons c r, d, h => by
  simp only [Rw.w] at h
  simp only [Rw.lim, Bool.and_eq_true]
  exact ⟨Cc.X9 c d.1 (by omega), Rw.X9 r d.2 (by omega)⟩
end
noncomputable def DL {α : Type} (x y : α) : Bool := by classical exact decide (x = y)
theorem xB {α : Type} (x : α) : DL x x = true := by simp [DL]
theorem arJ {α : Type} {x y : α} : DL x y = true ↔ x = y := by simp [DL]
theorem lq {α : Type} {x y : α} (h : x ≠ y) : DL x y = false := by simp [DL, h]
section
variable {α β : Type} {ρ : Type}
theorem anh {R : Nat → Int → List α → ρ} {Kf : List α → ρ} {xs : List α} {z : α}
  (hs : ∀ n (i : Nat) ys, i < xs.length → ys.length = xs.length → R (n + 1) i ys = R n ((i + 1 : Nat) : Int) (ys.set i (xs.getD i z)))
  (he : ∀ n ys, ys.length = xs.length → R (n + 1) (xs.length : Nat) ys = Kf ys) (ys : List α) (hy : ys.length = xs.length) : R (xs.length + 1) 0 ys = Kf xs := by
 have key : ∀ (k i : Nat) (ys : List α), ys.length = xs.length → i + k = xs.length → R (k + 1) i ys = Kf (ys.take i ++ xs.drop i) := by
  intro k
  induction k with
  | zero =>
   intro i ys hy hi
   have : i = xs.length := by omega
   subst this
   rw [he 0 ys hy, List.drop_length, List.append_nil, ← hy, List.take_length]
  | succ k ih =>
   intro i ys hy hi
   rw [hs _ i ys (by omega) hy, ih (i + 1) _ (by simpa using hy) (by omega)]
   congr 1
   have hlt : i < xs.length := by omega
   have hly : i < ys.length := by omega
   rw [List.drop_eq_getElem_cons hlt, List.take_add_one, List.take_set, List.getElem?_set, if_pos rfl, if_pos hly, List.set_eq_of_length_le (by simp; exact Nat.min_le_left _ _)]
   rw [List.getD_eq_getElem?_getD, List.getElem?_eq_getElem hlt]
   simp
 have := key xs.length 0 ys hy (by omega)
 simpa using this
theorem ani {R : Nat → Int → ρ} {kt kf : ρ} {xs ys : List α} {z : α} {e : α → α → Bool} (hE : ∀ a b, e a b = true ↔ a = b) (hl : ys.length = xs.length)
  (hs : ∀ n (i : Nat), i < xs.length → R (n + 1) i = bif e (xs.getD i z) (ys.getD i z) then R n ((i + 1 : Nat) : Int) else kf)
  (he : ∀ n, R (n + 1) (xs.length : Nat) = kt) : R (xs.length + 1) 0 = bif DL xs ys then kt else kf := by
 have key : ∀ (k i : Nat), i + k = xs.length → R (k + 1) i = bif DL (xs.drop i) (ys.drop i) then kt else kf := by
  intro k
  induction k with
  | zero =>
   intro i hi
   have : i = xs.length := by omega
   subst this
   rw [he 0, List.drop_length, ← hl, List.drop_length, xB]; rfl
  | succ k ih =>
   intro i hi
   have hlt : i < xs.length := by omega
   have hly : i < ys.length := by omega
   rw [hs _ i hlt, ih (i + 1) (by omega), List.drop_eq_getElem_cons hlt, List.drop_eq_getElem_cons hly]
   have hx : xs.getD i z = xs[i] := by rw [List.getD_eq_getElem?_getD, List.getElem?_eq_getElem hlt]; rfl
   have hy : ys.getD i z = ys[i] := by rw [List.getD_eq_getElem?_getD, List.getElem?_eq_getElem hly]; rfl
   rw [hx, hy]
   by_cases h : xs[i] = ys[i]
   ·rw [(hE _ _).2 h, h]
    simp only [cond_true]
    by_cases h2 : xs.drop (i + 1) = ys.drop (i + 1)
    ·rw [h2, xB, xB]
    ·rw [lq h2, lq (fun h3 => h2 (List.cons.inj h3).2)]
   ·have : e xs[i] ys[i] = false := by
     rw [Bool.eq_false_iff]; exact fun h' => h ((hE _ _).1 h')
    rw [this, lq (fun h3 => h (List.cons.inj h3).1)]
    rfl
 have := key xs.length 0 (by omega)
 simpa using this
theorem arK {R : Nat → Int → Int → ρ} {Kt : Int → ρ} {Kf : ρ} {xs : List α} {z : α} {g : α → Nat}
  (hs : ∀ m (i : Nat) (l : Int), i < xs.length → 0 ≤ l → l ≤ 4611686018427387904 → R (m + 1) i l = bif decide (l - g (xs.getD i z) < 0) then Kf else R m ((i + 1 : Nat) : Int) (l - g (xs.getD i z)))
  (he : ∀ m (l : Int), 0 ≤ l → R (m + 1) (xs.length : Nat) l = Kt l) (l : Int) (h0 : 0 ≤ l) (h1 : l ≤ 4611686018427387904) : R (xs.length + 1) 0 l = bif decide (l - sumW g xs < 0) then Kf else Kt (l - sumW g xs) := by
 have key : ∀ (j i : Nat) (l : Int), i + j = xs.length → 0 ≤ l → l ≤ 4611686018427387904 → R (j + 1) i l = bif decide (l - sumW g (xs.drop i) < 0) then Kf else Kt (l - sumW g (xs.drop i)) := by
  intro j
  induction j with
  | zero =>
   intro i l hi h0 h1
   have : i = xs.length := by omega
   subst this
   rw [he 0 l h0, List.drop_length]
   rw [show sumW g [] = 0 from rfl]
   have : decide (l - ((0 : Nat) : Int) < 0) = false := decide_eq_false (by omega)
   rw [this]; simp
  | succ j ih =>
   intro i l hi h0 h1
   have hlt : i < xs.length := by omega
   have hx : xs.getD i z = xs[i] := by rw [List.getD_eq_getElem?_getD, List.getElem?_eq_getElem hlt]; rfl
   rw [hs _ i l hlt h0 h1, List.drop_eq_getElem_cons hlt, hx, show sumW g (xs[i] :: xs.drop (i + 1)) = g xs[i] + sumW g (xs.drop (i + 1)) from rfl]
   by_cases h : l - (g xs[i] : Int) < 0
   ·rw [decide_eq_true h, decide_eq_true (show l - ((g xs[i] + sumW g (xs.drop (i + 1)) : Nat) : Int) < 0 by omega)]; rfl
   ·rw [decide_eq_false h, ih (i + 1) _ (by omega) (by omega) (by omega)]
    simp only [cond_false]
    have : l - (g xs[i] : Int) - (sumW g (xs.drop (i + 1)) : Int) = l - ((g xs[i] + sumW g (xs.drop (i + 1)) : Nat) : Int) := by omega
    rw [this]
 have := key xs.length 0 l (by omega) h0 h1
 simpa using this
theorem ai4 {ρ σ : Type} {R : Nat → Int → σ → ρ} {k : ρ} {f : Nat → σ} (n : Nat) (hs : ∀ m (i : Nat), i < n → R (m + 1) i (f i) = R m ((i + 1 : Nat) : Int) (f (i + 1))) (he : ∀ m, R (m + 1) (n : Nat) (f n) = k) : R (n + 1) 0 (f 0) = k := by
  have key : ∀ (j i : Nat), i + j = n → R (j + 1) i (f i) = k := by
    intro j
    induction j with
    | zero => intro i hi; have : i = n := by omega
              subst this; exact he 0
    | succ j ih => intro i hi; rw [hs _ i (by omega), ih (i + 1) (by omega)]
  exact key n 0 (by omega)
theorem KZ {α : Type} {g : α → Nat} {xs : List α} {i : Nat} {z : α} (h : i < xs.length) : sumW g (xs.take (i + 1)) = sumW g (xs.take i) + g (xs.getD i z) := by
 have app : ∀ (ys zs : List α), sumW g (ys ++ zs) = sumW g ys + sumW g zs := fun ys zs => by
  induction ys with
  | nil => simp [sumW]
  | cons y ys ih => simp only [List.cons_append, sumW, ih]; omega
 rw [List.take_add_one, app, List.getD_eq_getElem?_getD, List.getElem?_eq_getElem h]
 simp [sumW]
theorem Am {α : Type} {g : α → Nat} {xs : List α} {i : Nat} : sumW g (xs.take i) ≤ sumW g xs := by
 have app : ∀ (ys zs : List α), sumW g (ys ++ zs) = sumW g ys + sumW g zs := fun ys zs => by
  induction ys with
  | nil => simp [sumW]
  | cons y ys ih => simp only [List.cons_append, sumW, ih]; omega
 have := app (xs.take i) (xs.drop i)
 rw [List.take_append_drop] at this
 omega
theorem MG {α : Type} {xs : List (List α)} {i : Nat} {z : List α} (h : i < xs.length) : (xs.take (i + 1)).flatten = (xs.take i).flatten ++ xs.getD i z := by
 rw [List.take_add_one, List.flatten_append, List.getD_eq_getElem?_getD, List.getElem?_eq_getElem h]
 simp
theorem VE {α : Type} (xs : List (List α)) : xs.flatten.length = sumW List.length xs := by
 induction xs with
 | nil => rfl
 | cons x xs ih => simp [sumW, ih]
end
end Go.Ev
end
section
set_option linter.unusedVariables false
namespace Go.Ev
def Cc.dec : (c : Cc) → V → Option c.T
 | .int k, .s (.int k' n) => if k' = k then some n else none
 | .bool, .s (.bool b) => some b
 | .str, .s (.string b) => some b
 | .sl r, .l .no r' xs => if h : r' = r then some (h ▸ xs) else none
 | _, _ => none
def Rw.dec : (r : Rw) → List V → Option r.T
 | .one c, [v] => c.dec v
 | .cons c r, v :: vs => match c.dec v with
  | some d => match r.dec vs with
   | some e => some (d, e)
   | none => none
  | none => none
 | _, _ => none
theorem Cc.iV : (c : Cc) → {v : V} → {d : c.T} → c.dec v = some d → v = c.cell .no d
 | .int k, v, d, h => by
  cases v with
  | s u =>
   cases u with
   | int k' n =>
    simp only [Cc.dec] at h
    split at h
    ·rename_i hk; subst hk; cases h; rfl
    ·cases h
   | _ => simp [Cc.dec] at h
  | _ => simp [Cc.dec] at h
 | .bool, v, d, h => by
  cases v with
  | s u => cases u <;> simp only [Cc.dec, reduceCtorEq, Option.some.injEq] at h; subst h; rfl
  | _ => simp [Cc.dec] at h
 | .str, v, d, h => by
  cases v with
  | s u => cases u <;> simp only [Cc.dec, reduceCtorEq, Option.some.injEq] at h; subst h; rfl
  | _ => simp [Cc.dec] at h
 | .sl r, v, d, h => by
  cases v with
  | l o r' xs =>
   cases o <;> simp only [Cc.dec, reduceCtorEq] at h
   split at h
   ·rename_i hr; subst hr; cases h; rfl
   ·cases h
  | _ => simp [Cc.dec] at h
theorem Rw.iV : (r : Rw) → {vs : List V} → {d : r.T} → r.dec vs = some d → vs = r.cells .no d
 | .one c, [], d, h => by simp [Rw.dec] at h
 | .one c, [v], d, h => by
  simp only [Rw.dec] at h
  rw [Cc.iV c h]; rfl
 | .one c, _ :: _ :: _, d, h => by simp [Rw.dec] at h
 | .cons c r, [], d, h => by simp [Rw.dec] at h
 | .cons c r, v :: vs, d, h => by
  simp only [Rw.dec] at h
  split at h
  ·rename_i d1 e1
   split at h
   ·rename_i d2 e2
    cases h
    rw [Cc.iV c e1, Rw.iV r e2]; rfl
   ·cases h
  ·cases h
def sc (n : Int) : V := .s (.int .i64 n)
def bl (b : Bool) : V := .s (.bool b)
def kZ (w : Nat) (l : Int) : Int := if l - w < 0 then -1 else l - w
def lX (l : Int) : Bool := decide (0 ≤ l) && decide (l ≤ 4611686018427387904)
def Et (r : Rw) : Sm := fun vs K => match vs with
 | [v] => match (Cc.sl r).dec v with
  | some xs => bif (Cc.sl r).lim xs then K (.l .deep r xs, []) else none
  | none => none
 | _ => none
def su (r : Rw) : Sm := fun vs K => match vs with
 | [.a cs] => match r.dec cs with
  | some d => bif r.lim d then K (.a (r.cells .deep d), []) else none
  | none => none
 | _ => none
mutual
def Cc.cnt : (c : Cc) → c.T → Bool
 | .sl r, xs => Nat.ble xs.length 4611686018427387904 && xs.all r.cnt
 | _, _ => true
def Rw.cnt : (r : Rw) → r.T → Bool
 | .one c, d => c.cnt d
 | .cons c r, d => c.cnt d.1 && r.cnt d.2
end
mutual
def Cc.vG : (c : Cc) → c.T → Bool
 | .sl r, xs => Nat.ble xs.length 9223372036854775807 && xs.all r.vG
 | _, _ => true
def Rw.vG : (r : Rw) → r.T → Bool
 | .one c, d => c.vG d
 | .cons c r, d => c.vG d.1 && r.vG d.2
end
mutual
theorem Cc.Dj : (c : Cc) → (d : c.T) → c.lim d = true → c.cnt d = true
 | .int _, _, _ => rfl
 | .bool, _, _ => rfl
 | .str, _, _ => rfl
 | .sl r, xs, h => by
  simp only [Cc.lim, Cc.cnt, Bool.and_eq_true, List.all_eq_true] at h ⊢
  exact ⟨Nat.ble_eq_true_of_le (by have := Nat.le_of_ble_eq_true h.1; omega), fun x hx => Rw.Dj r x (h.2 x hx)⟩
theorem Rw.Dj : (r : Rw) → (d : r.T) → r.lim d = true → r.cnt d = true
 | .one c, d, h => Cc.Dj c d h
 | .cons c r, d, h => by
  simp only [Rw.lim, Rw.cnt, Bool.and_eq_true] at h ⊢
  exact ⟨Cc.Dj c d.1 h.1, Rw.Dj r d.2 h.2⟩
end
noncomputable def OJ (r : Rw) : Sm := fun vs K => match vs with
 | [v, u] => match (Cc.sl r).dec v, (Cc.sl r).dec u with
  | some xs, some ys => bif (Cc.sl r).cnt xs then K (bl (DL xs ys), []) else none
  | _, _ => none
 | _ => none
noncomputable def sD (r : Rw) : Sm := fun vs K => match vs with
 | [.a cs, .a ds] => match r.dec cs, r.dec ds with
  | some d, some e => bif r.cnt d then K (bl (DL d e), []) else none
  | _, _ => none
 | _ => none
def Eu (r : Rw) : Sm := fun vs K => match vs with
 | [v, .s (.int .i64 l)] => match (Cc.sl r).dec v with
  | some xs => bif lX l && (Cc.sl r).vG xs then K (sc (kZ ((Cc.sl r).w xs) l), []) else none
  | none => none
 | _ => none
def zN (r : Rw) : Sm := fun vs K => match vs with
 | [.a cs, .s (.int .i64 l)] => match r.dec cs with
  | some d => bif lX l && r.vG d then K (sc (kZ (r.w d) l), []) else none
  | none => none
 | _ => none
mutual
def Cc.arL : (c : Cc) → V → Option c.T
 | .int k, .s (.int k' n) => if k' = k then some n else none
 | .bool, .s (.bool b) => some b
 | .str, .s (.string b) => some b
 | .sl r, .l .own r' xs => if h : r' = r then some (h ▸ xs) else none
 | _, _ => none
def Rw.arL : (r : Rw) → List V → Option r.T
 | .one c, [v] => c.arL v
 | .cons c r, v :: vs => match c.arL v with
  | some d => match r.arL vs with
   | some e => some (d, e)
   | none => none
  | none => none
 | _, _ => none
end
theorem bW {i : Nat} (h : i ≤ 4611686018427387904) : IntKind.i64.wrap (((i : Nat) : Int) + 1) = (((i + 1 : Nat)) : Int) := by
 rw [abP (by omega) (by omega)]; rfl
theorem ai5 {w v : Nat} {l : Int} (h : 0 ≤ l) : kZ (w + v) l = if kZ w l < 0 then -1 else kZ v (kZ w l) := by
 simp only [kZ]
 split <;> split <;> (try split) <;> (try split) <;> omega
section
variable {P : Program} {I : Nat → World → Prop}
theorem okW {g : FuncId} {f : Bool} {S G : Sm} (hG : aV P I g f G) (h : ∀ ws K q, S ws K = some q → G ws K = some q) : aV P I g f S := aV.weak (fun ws K r hr => ⟨_, hG, h ws K r hr⟩) hG.1
variable {r : Rw} {G : Sm} {T : CU}
theorem ai6 (h : ∀ xs K, (Cc.sl r).lim xs = true → G [.l .no r xs] K = K (.l .deep r xs, [])) : ∀ ws K q, Et r ws K = some q → G ws K = some q := by
 intro ws K q hr
 unfold Et at hr
 split at hr
 ·split at hr
  ·rename_i xs hx
   rw [Cc.iV _ hx]
   cases hl : (Cc.sl r).lim xs with
   | false => rw [hl] at hr; cases hr
   | true => rw [hl] at hr; exact (h xs K hl).trans hr
  ·cases hr
 ·cases hr
theorem xC (h : ∀ d K, r.lim d = true → G [.a (r.cells .no d)] K = K (.a (r.cells .deep d), [])) : ∀ ws K q, su r ws K = some q → G ws K = some q := by
 intro ws K q hr
 unfold su at hr
 split at hr
 ·split at hr
  ·rename_i d hx
   rw [Rw.iV _ hx]
   cases hl : r.lim d with
   | false => rw [hl] at hr; cases hr
   | true => rw [hl] at hr; exact (h d K hl).trans hr
  ·cases hr
 ·cases hr
theorem anj (h : ∀ xs ys K, (Cc.sl r).cnt xs = true → G [.l .no r xs, .l .no r ys] K = K (bl (DL xs ys), [])) : ∀ ws K q, OJ r ws K = some q → G ws K = some q := by
 intro ws K q hr
 unfold OJ at hr
 split at hr
 ·split at hr
  ·rename_i xs ys hx hy
   rw [Cc.iV _ hx, Cc.iV _ hy]
   cases hl : (Cc.sl r).cnt xs with
   | false => rw [hl] at hr; cases hr
   | true => rw [hl] at hr; exact (h xs ys K hl).trans hr
  ·cases hr
 ·cases hr
theorem xE (h : ∀ xs ys K, r.cnt xs = true → G [.a (r.cells .no xs), .a (r.cells .no ys)] K = K (bl (DL xs ys), [])) : ∀ ws K q, sD r ws K = some q → G ws K = some q := by
 intro ws K q hr
 unfold sD at hr
 split at hr
 ·split at hr
  ·rename_i xs ys hx hy
   rw [Rw.iV _ hx, Rw.iV _ hy]
   cases hl : r.cnt xs with
   | false => rw [hl] at hr; cases hr
   | true => rw [hl] at hr; exact (h xs ys K hl).trans hr
  ·cases hr
 ·cases hr
theorem acC (h : ∀ xs l K, lX l = true → (Cc.sl r).vG xs = true → G [.l .no r xs, .s (.int .i64 l)] K = K (sc (kZ ((Cc.sl r).w xs) l), [])) : ∀ ws K q, Eu r ws K = some q → G ws K = some q := by
 intro ws K q hr
 unfold Eu at hr
 split at hr
 ·split at hr
  ·rename_i l _ xs hx
   rw [Cc.iV _ hx]
   cases hl : (lX l && (Cc.sl r).vG xs) with
   | false => rw [hl] at hr; cases hr
   | true => rw [hl] at hr; rw [Bool.and_eq_true] at hl; exact (h xs l K hl.1 hl.2).trans hr
  ·cases hr
 ·cases hr
theorem Ew (h : ∀ d l K, lX l = true → r.vG d = true → G [.a (r.cells .no d), .s (.int .i64 l)] K = K (sc (kZ (r.w d) l), [])) : ∀ ws K q, zN r ws K = some q → G ws K = some q := by
 intro ws K q hr
 unfold zN at hr
 split at hr
 ·split at hr
  ·rename_i l _ xs hx
   rw [Rw.iV _ hx]
   cases hl : (lX l && r.vG xs) with
   | false => rw [hl] at hr; cases hr
   | true => rw [hl] at hr; rw [Bool.and_eq_true] at hl; exact (h xs l K hl.1 hl.2).trans hr
  ·cases hr
 ·cases hr
end
section
variable {ρ : Type}
theorem jQ {b : Bool} {A B : Option ρ} (h : b = true) (hA : A = B) : (bif b then A else none) = B := by rw [h]; exact hA
theorem CV {α β : Type} [BEq α] [LawfulBEq α] {x y : α} {xs ys : β} {K : aj → Option aj} {A : Option aj} (h : A = K (bl (DL xs ys), [])) : (bif x != y then K (bl false, []) else A) = K (bl (DL (x, xs) (y, ys)), []) := by
 by_cases e : x = y
 ·rw [show (x != y) = false by simp [e]]
  show A = _
  rw [h]
  by_cases e2 : xs = ys
  ·rw [e, e2, xB, xB]
  ·rw [lq e2, lq (fun h => e2 (Prod.mk.inj h).2)]
 ·rw [show (x != y) = true by simp [e], lq (fun h => e (Prod.mk.inj h).1)]; rfl
theorem ap4 {α : Type} [BEq α] [LawfulBEq α] {x y : α} {K : aj → Option aj} : (bif x != y then K (bl false, []) else K (bl true, [])) = K (bl (DL x y), []) := by
 by_cases e : x = y
 ·rw [show (x != y) = false by simp [e], e, xB]; rfl
 ·rw [show (x != y) = true by simp [e], lq e]; rfl
theorem agQ {α β γ : Type} {x y : α} {xs ys : β} {u v : γ} {b : Bool} {K : aj → Option aj} {A : Option aj} (hb : b = true) (he : u = v ↔ x = y ∧ xs = ys) (h : A = K (bl (DL xs ys), [])) : (bif b then (bif !(DL x y) then K (bl false, []) else A) else none) = K (bl (DL u v), []) := by
 rw [hb]
 by_cases e : x = y
 ·rw [e, xB]
  show A = _
  rw [h]
  by_cases e2 : xs = ys
  ·rw [he.2 ⟨e, e2⟩, e2, xB, xB]
  ·rw [lq e2, lq (fun h => e2 (he.1 h).2)]
 ·rw [lq e, lq (fun h => e (he.1 h).1)]; rfl
theorem ai7 {α β : Type} {x y : α} {xs ys : β} {b : Bool} {K : aj → Option aj} {A : Option aj} (hb : b = true) (h : A = K (bl (DL xs ys), [])) : (bif b then (bif !(DL x y) then K (bl false, []) else A) else none) = K (bl (DL (x, xs) (y, ys)), []) := agQ hb (by simp) h
theorem Jm {α : Type} {x y : α} {b : Bool} {K : aj → Option aj} (hb : b = true) : (bif b then (bif !(DL x y) then K (bl false, []) else K (bl true, [])) else none) = K (bl (DL x y), []) := by
 rw [hb]; cases DL x y <;> rfl
theorem pR {b : Bool} {w w2 wt : Nat} {l : Int} {K : Int → Option ρ} {A : Option ρ} (hl : lX l = true) (hb : b = true) (hw : wt = w + w2) (h : lX (kZ w l) = true → A = K (kZ w2 (kZ w l))) : (bif lX l && b then (bif decide (kZ w l < 0) then K (-1) else A) else none) = K (kZ wt l) := by
 rw [hl, hb, hw]
 simp only [lX, Bool.and_eq_true, decide_eq_true_eq] at hl
 rw [ai5 hl.1]
 by_cases e : kZ w l < 0
 ·rw [decide_eq_true e, if_pos e]; rfl
 ·rw [decide_eq_false e, if_neg e]
  refine h ?_
  have e2 : kZ w l = l - w := by
   unfold kZ at e ⊢
   split
   ·rename_i h2; rw [if_pos h2] at e; omega
   ·rfl
  rw [e2] at e ⊢
  unfold lX
  rw [decide_eq_true (show 0 ≤ l - (w : Int) by omega), decide_eq_true (show l - (w : Int) ≤ 4611686018427387904 by omega)]; rfl
theorem OL {l : Int} {K : Int → Option ρ} (hl : lX l = true) : K l = K (kZ 0 l) := by
 simp only [lX, Bool.and_eq_true, decide_eq_true_eq] at hl
 unfold kZ
 rw [if_neg (by omega)]; simp
end
end Go.Ev
end
section
namespace Go.Ev.Seat
open Go.RowKit
set_option maxRecDepth 100000
set_option linter.unusedVariables false
def Hy : Ss := { tm := (.cons (.l .no ah) (.cons (.x) (.cons (.x) (.cons (.w 0) (.cons (.int .i64) (Fj 17)))))), ob := (.arr true true ah .nil), nx := 1, io := .nil }
def aoc (x0 : List (Int)) (x4 : Int) (o0 : List (Int)) : Hy.T := ((x0, ((), ((), ((), (x4, xd 17))))), (o0, ()), ())
def QZ (x0 : List Int) : St := { tm := ([.x, .x, .x, (.w 0)] ++ List.replicate 18 .x), ob := [(0, (.arr true true ah x0))], nx := 1, io := [] }
def Ya (d : Hy.T) (K : Ex → St → Option aj) : Option aj := match d with
 | ((x0, (_, (_, (_, (x4, _))))), (o0, _), _) => bif (x4 == 0) && Nat.beq o0.length x0.length && (Cc.sl ah).lim x0 then K (.ext 0) (QZ x0) else none
noncomputable def Yb : Env := En [] [] [(3, [0,3,4], [3], uz Hy Ya)]
noncomputable abbrev Gv (n : Nat) (x0 : List Int) (x4 : Int) (o0 : List Int) (K : Ex → St → Option aj) : Option aj := rounds (run Yb (aS F.rJ 3)) [0,3,4] [3] n (Hy.mk' (aoc x0 x4 o0)) K
theorem VF (n : Nat) (x0 : List (Int)) (x4 : Int) (o0 : List (Int)) (K : Ex → St → Option aj) : Gv (n + 1) x0 x4 o0 K =
 (bif decide (x4 < (((List.length x0) : Nat) : Int)) then
 (bif (decide ((0 : Int) ≤ x4) && decide (x4 < (((List.length x0) : Nat) : Int))) then
  (bif (decide ((0 : Int) ≤ x4) && decide (x4 < (((List.length o0) : Nat) : Int))) then
   Gv n x0 (IntKind.wrap .i64 (x4 + (1 : Int))) (List.set o0 (Int.toNat x4) (List.getD x0 (Int.toNat x4) ((0 : Nat) : Int))) K
   else none)
  else none)
 else K (.ext 0) (QZ o0)) := by kernel_rfl
theorem alH (x0 o0 : List Int) (K : Ex → St → Option aj) (h2 : o0.length = x0.length) (h3 : x0.length ≤ 1048576) : Gv (x0.length + 1) x0 0 o0 K = K (.ext 0) (QZ x0) :=
 anh (R := fun n i ys => Gv n x0 i ys K) (Kf := fun ys => K (.ext 0) (QZ ys)) (z := (0 : Int)) (fun n i ys hi hy => by
  show Gv (n + 1) x0 i ys K = _
  rw [VF, decide_eq_true (show ((i : Nat) : Int) < ((x0.length : Nat) : Int) by omega), decide_eq_true (show (0 : Int) ≤ ((i : Nat) : Int) by omega), decide_eq_true (show ((i : Nat) : Int) < ((ys.length : Nat) : Int) by omega), bW (show i ≤ 4611686018427387904 by omega)]
  rfl) (fun n ys hy => by
  show Gv (n + 1) x0 _ ys K = _
  rw [VF, decide_eq_false (show ¬ ((x0.length : Nat) : Int) < ((x0.length : Nat) : Int) by omega)]; rfl) o0 h2
theorem agR : dJ Yb (aS F.rJ 3) := by
 refine Ht (n := 3) (sh := Hy) (R := Ya) (by kernel_rfl) rfl rfl (fun d K r hr => ?_)
 obtain ⟨⟨x0, u1, u2, u3, x4, u4⟩, ⟨o0, u5⟩, u6⟩ := d
 unfold Ya at hr
 simp only at hr
 cases hc : ((x4 == 0) && Nat.beq o0.length x0.length && (Cc.sl ah).lim x0) with
 | false => rw [hc] at hr; cases hr
 | true =>
  rw [hc] at hr
  simp only [Bool.and_eq_true, beq_iff_eq, Cc.lim] at hc
  obtain ⟨⟨rfl, h2⟩, h3, _⟩ := hc
  exact ⟨x0.length + 1, (alH x0 o0 K (Nat.eq_of_beq_eq_true h2) (Nat.le_of_ble_eq_true h3)).trans hr⟩
noncomputable def Yc := dL Yb true F.rJ
theorem alI : aV prog I N.rJ true Yc := aW bn (by kernel_rfl) (by kernel_rfl) (by kernel_rfl) (by kernel_rfl) (cs := [aS F.rJ 3]) (by kernel_rfl) (dA agR aK)
theorem alJ (a : List Int) (K : aj → Option aj) (h : (Cc.sl ah).lim a = true) : Yc [.l .no ah a] K = K (.l .deep ah a, []) := by
  have e : Yc [.l .no ah a] K =
   (bif ((((((((List.length a) : Nat) : Int) == (((List.length a) : Nat) : Int)) && decide ((0 : Int) ≤ (((List.length a) : Nat) : Int))) && decide (((Int.toNat (((List.length a) : Nat) : Int)) * 1) ≤ 140737488355328)) && decide ((((List.length a) : Nat) : Int) ≤ (4611686018427387904 : Int)))) then
    (bif ((0 : Int) == 0) && Nat.beq (List.replicate (Int.toNat (((List.length a) : Nat) : Int)) (0 : Int)).length a.length && (Cc.sl ah).lim a then K (.l .deep ah a, []) else none) else none) := by kernel_rfl
  rw [e, h]
  simp only [Cc.lim, Bool.and_eq_true] at h
  have h3 : a.length ≤ 1048576 := Nat.le_of_ble_eq_true h.1
  rw [decide_eq_true (show ((a.length : Nat) : Int) ≤ 4611686018427387904 by omega), decide_eq_true (show (0 : Int) ≤ ((a.length : Nat) : Int) by omega), Int.toNat_natCast, decide_eq_true (show a.length * 1 ≤ 140737488355328 by omega), List.length_replicate, beq_self_eq_true, beq_self_eq_true, Nat.beq_refl]
  rfl
theorem OM : aV prog I N.rJ true (Et ah) := okW alI (ai6 fun xs K h => alJ xs K h)
def Hz : Ss := { tm := (.cons (.l .no ah) (.cons (.l .no ah) (.cons (.x) (.cons (.x) (.cons (.x) (.cons (.int .i64) (Fj 20))))))), ob := .nil, nx := 0, io := .nil }
def aod (x0 : List (Int)) (x1 : List (Int)) (x5 : Int) : Hz.T := ((x0, (x1, ((), ((), ((), (x5, xd 20)))))), (), ())
def Yd : St := { tm := ([] ++ List.replicate 26 .x), ob := [], nx := 0, io := [] }
def Ye : St := { tm := ([.x, .x, .x, .x, (.s (.bool false))] ++ List.replicate 21 .x), ob := [], nx := 0, io := [] }
noncomputable def Yf (d : Hz.T) (K : Ex → St → Option aj) : Option aj := match d with
 | ((x0, (x1, (_, (_, (_, (x5, _)))))), _, _) => bif (x5 == 0) && Nat.beq x1.length x0.length && Nat.ble x0.length 4611686018427387904 then (bif DL x0 x1 then K (.ext 0) Yd else K .ret Ye) else none
noncomputable def Yg : Env := En [] [(6, takes [0, 1, 2, 3, 4, 5, 6, 7, 8], [])] [(4, [0,1,5], [4], uz Hz Yf)]
noncomputable abbrev Gw (n : Nat) (x0 x1 : List Int) (x5 : Int) (K : Ex → St → Option aj) : Option aj := rounds (run Yg (aS F.rM 4)) [0,1,5] [4] n (Hz.mk' (aod x0 x1 x5)) K
theorem VG (n : Nat) (x0 : List (Int)) (x1 : List (Int)) (x5 : Int) (K : Ex → St → Option aj) : Gw (n + 1) x0 x1 x5 K =
 (bif decide (x5 < (((List.length x0) : Nat) : Int)) then
 (bif (decide ((0 : Int) ≤ x5) && decide (x5 < (((List.length x0) : Nat) : Int))) then
  (bif (decide ((0 : Int) ≤ x5) && decide (x5 < (((List.length x1) : Nat) : Int))) then
   (bif ((List.getD x0 (Int.toNat x5) ((0 : Nat) : Int)) != (List.getD x1 (Int.toNat x5) ((0 : Nat) : Int))) then
    K .ret Ye
    else Gw n x0 x1 (IntKind.wrap .i64 (x5 + (1 : Int))) K)
   else none)
  else none)
 else K (.ext 0) Yd) := by kernel_rfl
theorem alK (x0 x1 : List Int) (K : Ex → St → Option aj) (h2 : x1.length = x0.length) (h3 : x0.length ≤ 4611686018427387904) : Gw (x0.length + 1) x0 x1 0 K = bif DL x0 x1 then K (.ext 0) Yd else K .ret Ye :=
 ani (R := fun n i => Gw n x0 x1 i K) (z := (0 : Int)) (e := fun a b => a == b) (fun a b => by simp) h2 (fun n i hi => by
  show Gw (n + 1) x0 x1 i K = _
  rw [VG, decide_eq_true (show ((i : Nat) : Int) < ((x0.length : Nat) : Int) by omega), decide_eq_true (show (0 : Int) ≤ ((i : Nat) : Int) by omega), decide_eq_true (show ((i : Nat) : Int) < ((x1.length : Nat) : Int) by omega), bW (show i ≤ 4611686018427387904 by omega), Int.toNat_natCast, bne]
  show (bif !(x0.getD i 0 == x1.getD i 0) then _ else _) = bif (x0.getD i 0 == x1.getD i 0) then _ else _
  cases (x0.getD i 0 == x1.getD i 0) <;> rfl) (fun n => by
  show Gw (n + 1) x0 x1 _ K = _
  rw [VG, decide_eq_false (show ¬ ((x0.length : Nat) : Int) < ((x0.length : Nat) : Int) by omega)]; rfl)
theorem agS : dJ Yg (aS F.rM 4) := by
 refine Ht (n := 4) (sh := Hz) (R := Yf) (by kernel_rfl) rfl rfl (fun d K r hr => ?_)
 obtain ⟨⟨x0, x1, u1, u2, u3, x5, u4⟩, u5, u6⟩ := d
 unfold Yf at hr
 simp only at hr
 cases hc : ((x5 == 0) && Nat.beq x1.length x0.length && Nat.ble x0.length 4611686018427387904) with
 | false => rw [hc] at hr; cases hr
 | true =>
  rw [hc] at hr
  simp only [Bool.and_eq_true, beq_iff_eq] at hc
  obtain ⟨⟨rfl, h2⟩, h3⟩ := hc
  exact ⟨x0.length + 1, (alK x0 x1 K (Nat.eq_of_beq_eq_true h2) (Nat.le_of_ble_eq_true h3)).trans hr⟩
noncomputable def Yh := dL Yg true F.rM
theorem alL : aV prog I N.rM true Yh := aW bn (by kernel_rfl) (by kernel_rfl) (by kernel_rfl) (by kernel_rfl) (cs := [aS F.rM 4]) (by kernel_rfl) (dA agS aK)
theorem alM (a b : List Int) (K : aj → Option aj) (h : Nat.ble a.length 4611686018427387904 = true) : Yh [.l .no ah a, .l .no ah b] K = K (bl (DL a b), []) := by
  have e : Yh [.l .no ah a, .l .no ah b] K =
   (bif ((((List.length a) : Nat) : Int) != (((List.length b) : Nat) : Int)) then K (bl false, [])
    else bif ((0 : Int) == 0) && Nat.beq b.length a.length && Nat.ble a.length 4611686018427387904 then (bif DL a b then K (bl true, []) else K (bl false, [])) else none) := by kernel_rfl
  rw [e]
  by_cases hl : b.length = a.length
  · rw [hl, h, Nat.beq_refl]
    cases DL a b <;> simp
  · have h1 : ((((List.length a) : Nat) : Int) != (((List.length b) : Nat) : Int)) = true := by simp; omega
    rw [h1, lq (fun h' => hl (by rw [h']))]; rfl
theorem OO : aV prog I N.rM true (OJ ah) := okW alL (anj fun xs ys K h => by
 simp only [Cc.cnt, Bool.and_eq_true] at h
 exact alM xs ys K h.1)
noncomputable def Yi := dL (En []) true F.Df
theorem alN : aV prog I N.Df true Yi := aW bn (by kernel_rfl) (by kernel_rfl) (by kernel_rfl) (by kernel_rfl) (cs := []) (by kernel_rfl) aK
theorem alO (a : List Int) (k : Int) (K : aj → Option aj) (h0 : 0 ≤ k) (h1 : k ≤ 4611686018427387904) (h : a.length ≤ 9223372036854775807) : Yi [.l .no ah a, .s (.int .i64 k)] K = K (sc (kZ a.length k), []) := by
  have e : Yi [.l .no ah a, .s (.int .i64 k)] K =
   (bif decide ((IntKind.wrap .i64 (k - (((List.length a) : Nat) : Int))) < (0 : Int)) then K (sc (-1), [])
    else K (sc (IntKind.wrap .i64 (k - (((List.length a) : Nat) : Int))), [])) := by kernel_rfl
  rw [e, wrap_in (by omega) (by omega)]
  unfold kZ
  by_cases hc : k - ((a.length : Nat) : Int) < 0
  · rw [decide_eq_true hc, if_pos hc]; rfl
  · rw [decide_eq_false hc, if_neg hc]; rfl
theorem asV (xs : List Int) : (Cc.sl ah).w xs = xs.length := by
 have : ∀ ys : List Int, sumW ah.w ys = 0 := fun ys => by
  induction ys with
  | nil => rfl
  | cons y ys ih => simp only [sumW]; rw [ih]; rfl
 exact (congrArg (fun n => List.length xs + n) (this xs)).trans rfl
theorem OQ : aV prog I N.Df true (Eu ah) := okW alN (acC fun xs l K h1 h2 => by
 simp only [lX, Cc.vG, Bool.and_eq_true, decide_eq_true_eq] at h1 h2
 exact (alO xs l K h1.1 h1.2 (Nat.le_of_ble_eq_true h2.1)).trans (congrArg (fun n => K (sc (kZ n l), [])) (asV xs).symm))
end Go.Ev.Seat
end
section
set_option linter.unusedVariables false
namespace Go.Ev
noncomputable abbrev CtL (Γ : Env) (c : Code) (li lo : List Nat) (n : Nat) (σ : St) (K : Ex → St → Option aj) : Option aj := rounds (run Γ c) li lo n σ K
section
variable {Γ : Env} {c : Code} {r : Rw} {n : Nat} {T : CU}
theorem getD_mem {α : Type} {xs : List α} {i : Nat} {z : α} (h : i < xs.length) : xs.getD i z ∈ xs := by
 rw [List.getD_eq_getElem?_getD, List.getElem?_eq_getElem h]; exact List.getElem_mem h
theorem acD {α : Type} {xs : List α} {p : α → Bool} {i : Nat} {z : α} (h : xs.all p = true) (hi : i < xs.length) : p (xs.getD i z) = true := (List.all_eq_true.1 h) _ (getD_mem hi)
def aaI (r : Rw) (n : Nat) : Ss := { tm := (.cons (.l .no r) (.cons .x (.cons .x (.cons (.w 0) (.cons (.int .i64) (Fj n)))))), ob := (.arr true true r .nil), nx := 1, io := .nil }
def dTo (r : Rw) (n : Nat) (x0 : List r.T) (x4 : Int) (o0 : List r.T) : (aaI r n).T := ((x0, ((), ((), ((), (x4, xd n))))), (o0, ()), ())
def zTo (r : Rw) (n : Nat) (o0 : List r.T) : St := { tm := ([.x, .x, .x, (.w 0)] ++ List.replicate (n + 1) .x), ob := [(0, (.arr true true r o0))], nx := 1, io := [] }
def RTo (r : Rw) (n : Nat) (d : (aaI r n).T) (K : Ex → St → Option aj) : Option aj := match d with
 | ((x0, (_, (_, (_, (x4, _))))), (o0, _), _) => bif (x4 == 0) && Nat.beq o0.length x0.length && (Cc.sl r).lim x0 then K (.ext 0) (zTo r n x0) else none
def ap5 (Γ : Env) (c : Code) (r : Rw) (n : Nat) : Prop := ∀ (m : Nat) (x0 : List r.T) (x4 : Int) (o0 : List r.T) (K : Ex → St → Option aj), CtL Γ c [0,3,4] [3] (m + 1) ((aaI r n).mk' (dTo r n x0 x4 o0)) K =
  (bif decide (x4 < (((List.length x0) : Nat) : Int)) then
   (bif (decide ((0 : Int) ≤ x4) && decide (x4 < (((List.length x0) : Nat) : Int))) then
    (bif (r.lim (List.getD x0 (Int.toNat x4) r.dflt)) then
     (bif (decide ((0 : Int) ≤ x4) && decide (x4 < (((List.length o0) : Nat) : Int))) then
      CtL Γ c [0,3,4] [3] m ((aaI r n).mk' (dTo r n x0 (IntKind.wrap .i64 (x4 + (1 : Int))) (List.set o0 (Int.toNat x4) (List.getD x0 (Int.toNat x4) r.dflt)))) K
      else none)
     else none)
    else none)
   else K (.ext 0) (zTo r n o0))
theorem avo (hs : ap5 Γ c r n) (x0 o0 : List r.T) (K : Ex → St → Option aj) (h2 : o0.length = x0.length) (h3 : x0.length ≤ 1048576) (h4 : x0.all r.lim = true) : CtL Γ c [0,3,4] [3] (x0.length + 1) ((aaI r n).mk' (dTo r n x0 0 o0)) K = K (.ext 0) (zTo r n x0) :=
 anh (R := fun m i ys => CtL Γ c [0,3,4] [3] m ((aaI r n).mk' (dTo r n x0 i ys)) K) (Kf := fun ys => K (.ext 0) (zTo r n ys)) (z := r.dflt) (fun m i ys hi hy => by
  have := hs m x0 i ys K
  refine this.trans ?_
  rw [decide_eq_true (show ((i : Nat) : Int) < ((x0.length : Nat) : Int) by omega), decide_eq_true (show (0 : Int) ≤ ((i : Nat) : Int) by omega), decide_eq_true (show ((i : Nat) : Int) < ((ys.length : Nat) : Int) by omega), bW (show i ≤ 4611686018427387904 by omega), Int.toNat_natCast, acD h4 hi]
  rfl) (fun m ys hy => by
  refine (hs m x0 _ ys K).trans ?_
  rw [decide_eq_false (show ¬ ((x0.length : Nat) : Int) < ((x0.length : Nat) : Int) by omega)]; rfl) o0 h2
theorem TS (hn : fK c = some 3) (hF : Γ.sum 3 = some (uz (aaI r n) (RTo r n))) (hh : Γ.hint 3 = ([0,3,4], [3])) (hs : ap5 Γ c r n) : dJ Γ c := by
 refine Ht (n := 3) hn hF hh (fun d K q hr => ?_)
 obtain ⟨⟨x0, u1, u2, u3, x4, u4⟩, ⟨o0, u5⟩, u6⟩ := d
 unfold RTo at hr
 simp only at hr
 cases hc : ((x4 == 0) && Nat.beq o0.length x0.length && (Cc.sl r).lim x0) with
 | false => rw [hc] at hr; cases hr
 | true =>
  rw [hc] at hr
  simp only [Bool.and_eq_true, beq_iff_eq, Cc.lim] at hc
  obtain ⟨⟨rfl, h2⟩, h3, h4⟩ := hc
  refine ⟨x0.length + 1, Eq.trans ?_ hr⟩
  have he : u4 = xd n := ank u4
  subst he
  exact avo hs x0 o0 K (Nat.eq_of_beq_eq_true h2) (Nat.le_of_ble_eq_true h3) h4
where ank : {n : Nat} → (u : (Fj n).T) → u = xd n
 | 0, _ => rfl
 | n + 1, (_, u) => congrArg (Prod.mk ()) (ank u)
def asX (r : Rw) (n sz : Nat) (G : Sm) : Prop := ∀ (a : List r.T) (K : aj → Option aj), G [.l .no r a] K =
   (bif ((((((((List.length a) : Nat) : Int) == (((List.length a) : Nat) : Int)) && decide ((0 : Int) ≤ (((List.length a) : Nat) : Int))) && decide (((Int.toNat (((List.length a) : Nat) : Int)) * sz) ≤ 140737488355328)) && decide ((((List.length a) : Nat) : Int) ≤ (4611686018427387904 : Int)))) then
    (bif ((0 : Int) == 0) && Nat.beq (List.replicate (Int.toNat (((List.length a) : Nat) : Int)) r.dflt).length a.length && (Cc.sl r).lim a then K (.l .deep r a, []) else none) else none)
theorem ap6 {G : Sm} {sz : Nat} (h : asX r n sz G) (hz : Nat.ble sz 1024 = true) : ∀ ws K q, Et r ws K = some q → G ws K = some q := ai6 (fun a K hl => by
 rw [h, hl]
 simp only [Cc.lim, Bool.and_eq_true] at hl
 have h3 : a.length ≤ 1048576 := Nat.le_of_ble_eq_true hl.1
 have h5 : sz ≤ 1024 := Nat.le_of_ble_eq_true hz
 have h6 : a.length * sz ≤ 1048576 * 1024 := Nat.mul_le_mul h3 h5
 rw [decide_eq_true (show ((a.length : Nat) : Int) ≤ 4611686018427387904 by omega), decide_eq_true (show (0 : Int) ≤ ((a.length : Nat) : Int) by omega), Int.toNat_natCast, decide_eq_true (show a.length * sz ≤ 140737488355328 by omega), List.length_replicate, beq_self_eq_true, beq_self_eq_true, Nat.beq_refl]
 rfl)
def aaJ (r : Rw) (n : Nat) : Ss := { tm := (.cons (.l .no r) (.cons (.l .no r) (.cons (.x) (.cons (.x) (.cons (.x) (.cons (.int .i64) (Fj n))))))), ob := .nil, nx := 0, io := .nil }
def dEq (r : Rw) (n : Nat) (x0 x1 : List r.T) (x5 : Int) : (aaJ r n).T := ((x0, (x1, ((), ((), ((), (x5, xd n)))))), (), ())
def zEq (n : Nat) : St := { tm := ([] ++ List.replicate (n + 6) .x), ob := [], nx := 0, io := [] }
def yEq (n : Nat) : St := { tm := ([.x, .x, .x, .x, (.s (.bool false))] ++ List.replicate (n + 1) .x), ob := [], nx := 0, io := [] }
noncomputable def REq (r : Rw) (n : Nat) (d : (aaJ r n).T) (K : Ex → St → Option aj) : Option aj := match d with
 | ((x0, (x1, (_, (_, (_, (x5, _)))))), _, _) => bif (x5 == 0) && Nat.beq x1.length x0.length && (Cc.sl r).cnt x0 then (bif DL x0 x1 then K (.ext 0) (zEq n) else K .ret (yEq n)) else none
def ap7 (Γ : Env) (c : Code) (r : Rw) (n : Nat) : Prop := ∀ (m : Nat) (x0 x1 : List r.T) (x5 : Int) (K : Ex → St → Option aj), CtL Γ c [0,1,5] [4] (m + 1) ((aaJ r n).mk' (dEq r n x0 x1 x5)) K =
 (bif decide (x5 < (((List.length x0) : Nat) : Int)) then
 (bif (decide ((0 : Int) ≤ x5) && decide (x5 < (((List.length x0) : Nat) : Int))) then
  (bif (decide ((0 : Int) ≤ x5) && decide (x5 < (((List.length x1) : Nat) : Int))) then
   (bif (r.cnt (List.getD x0 (Int.toNat x5) r.dflt)) then
    (bif (!(DL (List.getD x0 (Int.toNat x5) r.dflt) (List.getD x1 (Int.toNat x5) r.dflt))) then
     K .ret (yEq n)
     else CtL Γ c [0,1,5] [4] m ((aaJ r n).mk' (dEq r n x0 x1 (IntKind.wrap .i64 (x5 + (1 : Int))))) K)
    else none)
   else none)
  else none)
 else K (.ext 0) (zEq n))
theorem goEq (hs : ap7 Γ c r n) (x0 x1 : List r.T) (K : Ex → St → Option aj) (h2 : x1.length = x0.length) (h3 : x0.length ≤ 4611686018427387904) (h4 : x0.all r.cnt = true) : CtL Γ c [0,1,5] [4] (x0.length + 1) ((aaJ r n).mk' (dEq r n x0 x1 0)) K = bif DL x0 x1 then K (.ext 0) (zEq n) else K .ret (yEq n) :=
 ani (R := fun m i => CtL Γ c [0,1,5] [4] m ((aaJ r n).mk' (dEq r n x0 x1 i)) K) (z := r.dflt) (e := DL) (fun a b => arJ) h2 (fun m i hi => by
  refine (hs m x0 x1 i K).trans ?_
  rw [decide_eq_true (show ((i : Nat) : Int) < ((x0.length : Nat) : Int) by omega), decide_eq_true (show (0 : Int) ≤ ((i : Nat) : Int) by omega), decide_eq_true (show ((i : Nat) : Int) < ((x1.length : Nat) : Int) by omega), bW (show i ≤ 4611686018427387904 by omega), Int.toNat_natCast, acD h4 hi]
  cases DL (x0.getD i r.dflt) (x1.getD i r.dflt) <;> rfl) (fun m => by
  refine (hs m x0 x1 _ K).trans ?_
  rw [decide_eq_false (show ¬ ((x0.length : Nat) : Int) < ((x0.length : Nat) : Int) by omega)]; rfl)
theorem acE (hn : fK c = some 4) (hF : Γ.sum 4 = some (uz (aaJ r n) (REq r n))) (hh : Γ.hint 4 = ([0,1,5], [4])) (hs : ap7 Γ c r n) : dJ Γ c := by
 refine Ht (n := 4) hn hF hh (fun d K q hr => ?_)
 obtain ⟨⟨x0, x1, u1, u2, u3, x5, u4⟩, u5, u6⟩ := d
 unfold REq at hr
 simp only at hr
 cases hc : ((x5 == 0) && Nat.beq x1.length x0.length && (Cc.sl r).cnt x0) with
 | false => rw [hc] at hr; cases hr
 | true =>
  rw [hc] at hr
  simp only [Bool.and_eq_true, beq_iff_eq, Cc.cnt] at hc
  obtain ⟨⟨rfl, h2⟩, h3, h4⟩ := hc
  refine ⟨x0.length + 1, Eq.trans ?_ hr⟩
  have he : u4 = xd n := TS.ank u4
  subst he
  exact goEq hs x0 x1 K (Nat.eq_of_beq_eq_true h2) (Nat.le_of_ble_eq_true h3) h4
def asZ (r : Rw) (G : Sm) : Prop := ∀ (a b : List r.T) (K : aj → Option aj), G [.l .no r a, .l .no r b] K =
   (bif ((((List.length a) : Nat) : Int) != (((List.length b) : Nat) : Int)) then K (bl false, [])
    else bif ((0 : Int) == 0) && Nat.beq b.length a.length && (Cc.sl r).cnt a then (bif DL a b then K (bl true, []) else K (bl false, [])) else none)
theorem ap8 {G : Sm} (h : asZ r G) : ∀ ws K q, OJ r ws K = some q → G ws K = some q := anj (fun a b K hl => by
 rw [h, hl]
 by_cases hl : b.length = a.length
 ·rw [hl, Nat.beq_refl]
  cases DL a b <;> simp
 ·have h1 : ((((List.length a) : Nat) : Int) != (((List.length b) : Nat) : Int)) = true := by simp; omega
  rw [h1, lq (fun h' => hl (by rw [h']))]; rfl)
def acF (r : Rw) (n : Nat) : Ss := { tm := (.cons (.l .no r) (.cons (.int .i64) (.cons (.x) (.cons (.x) (.cons (.x) (.cons (.int .i64) (Fj n))))))), ob := .nil, nx := 0, io := .nil }
def dSz (r : Rw) (n : Nat) (x0 : List r.T) (x1 : Int) (x5 : Int) : (acF r n).T := ((x0, (x1, ((), ((), ((), (x5, xd n)))))), (), ())
def zSz (n : Nat) (x1 : Int) : St := { tm := ([.x, (.s (.int .i64 x1))] ++ List.replicate (n + 4) .x), ob := [], nx := 0, io := [] }
def ySz (n : Nat) (x1 : Int) : St := { tm := ([.x, (.s (.int .i64 x1)), .x, .x, (.s (.int .i64 (-(1 : Int))))] ++ List.replicate (n + 1) .x), ob := [], nx := 0, io := [] }
def RSz (r : Rw) (n : Nat) (d : (acF r n).T) (K : Ex → St → Option aj) : Option aj := match d with
 | ((x0, (x1, (_, (_, (_, (x5, _)))))), _, _) => bif (x5 == 0) && lX x1 && (Nat.ble x0.length 4611686018427387904 && x0.all r.vG) then (bif decide (x1 - sumW r.w x0 < 0) then K .ret (ySz n (-1)) else K (.ext 0) (zSz n (x1 - sumW r.w x0))) else none
def ap9 (Γ : Env) (c : Code) (r : Rw) (n : Nat) : Prop := ∀ (m : Nat) (x0 : List r.T) (x1 : Int) (x5 : Int) (K : Ex → St → Option aj), CtL Γ c [0,1,5] [1,4] (m + 1) ((acF r n).mk' (dSz r n x0 x1 x5)) K =
 (bif decide (x5 < (((List.length x0) : Nat) : Int)) then
 (bif (decide ((0 : Int) ≤ x5) && decide (x5 < (((List.length x0) : Nat) : Int))) then
  (bif ((lX x1) && (r.vG (List.getD x0 (Int.toNat x5) r.dflt))) then
   (bif decide ((kZ (r.w (List.getD x0 (Int.toNat x5) r.dflt)) x1) < (0 : Int)) then
    K .ret (ySz n (kZ (r.w (List.getD x0 (Int.toNat x5) r.dflt)) x1))
    else CtL Γ c [0,1,5] [1,4] m ((acF r n).mk' (dSz r n x0 (kZ (r.w (List.getD x0 (Int.toNat x5) r.dflt)) x1) (IntKind.wrap .i64 (x5 + (1 : Int))))) K)
   else none)
  else none)
 else K (.ext 0) (zSz n x1))
theorem agT {w : Nat} {l : Int} (h : l - w < 0) : kZ w l = -1 := if_pos h
theorem agU {w : Nat} {l : Int} (h : ¬ l - w < 0) : kZ w l = l - w := if_neg h
theorem anl {l : Int} (h0 : 0 ≤ l) (h1 : l ≤ 4611686018427387904) : lX l = true := by
 unfold lX; rw [decide_eq_true h0, decide_eq_true h1]; rfl
theorem avr (hs : ap9 Γ c r n) (x0 : List r.T) (x1 : Int) (K : Ex → St → Option aj) (h0 : 0 ≤ x1) (h1 : x1 ≤ 4611686018427387904) (h3 : x0.length ≤ 4611686018427387904) (h4 : x0.all r.vG = true) : CtL Γ c [0,1,5] [1,4] (x0.length + 1) ((acF r n).mk' (dSz r n x0 x1 0)) K = bif decide (x1 - sumW r.w x0 < 0) then K .ret (ySz n (-1)) else K (.ext 0) (zSz n (x1 - sumW r.w x0)) :=
 arK (R := fun m i l => CtL Γ c [0,1,5] [1,4] m ((acF r n).mk' (dSz r n x0 l i)) K) (Kt := fun l => K (.ext 0) (zSz n l)) (Kf := K .ret (ySz n (-1))) (g := r.w) (z := r.dflt) (fun m i l hi h0 h1 => by
  refine (hs m x0 l i K).trans ?_
  rw [decide_eq_true (show ((i : Nat) : Int) < ((x0.length : Nat) : Int) by omega), decide_eq_true (show (0 : Int) ≤ ((i : Nat) : Int) by omega), bW (show i ≤ 4611686018427387904 by omega), Int.toNat_natCast, acD h4 hi, anl h0 h1]
  by_cases e : l - (r.w (x0.getD i r.dflt) : Int) < 0
  ·rw [agT e, decide_eq_true e]; rfl
  ·rw [agU e, decide_eq_false e]; rfl) (fun m l h0 => by
  refine (hs m x0 l _ K).trans ?_
  rw [decide_eq_false (show ¬ ((x0.length : Nat) : Int) < ((x0.length : Nat) : Int) by omega)]; rfl) x1 h0 h1
theorem agV (hn : fK c = some 5) (hF : Γ.sum 5 = some (uz (acF r n) (RSz r n))) (hh : Γ.hint 5 = ([0,1,5], [1,4])) (hs : ap9 Γ c r n) : dJ Γ c := by
 refine Ht (n := 5) hn hF hh (fun d K q hr => ?_)
 obtain ⟨⟨x0, x1, u1, u2, u3, x5, u4⟩, u5, u6⟩ := d
 unfold RSz at hr
 simp only at hr
 cases hc : ((x5 == 0) && lX x1 && (Nat.ble x0.length 4611686018427387904 && x0.all r.vG)) with
 | false => rw [hc] at hr; cases hr
 | true =>
  rw [hc] at hr
  simp only [Bool.and_eq_true, beq_iff_eq, lX, decide_eq_true_eq] at hc
  obtain ⟨⟨rfl, h1, h2⟩, h3, h4⟩ := hc
  refine ⟨x0.length + 1, Eq.trans ?_ hr⟩
  have he : u4 = xd n := TS.ank u4
  subst he
  exact avr hs x0 x1 K h1 h2 (Nat.le_of_ble_eq_true h3) h4
def as1 (r : Rw) (G : Sm) : Prop := ∀ (a : List r.T) (k : Int) (K : aj → Option aj), G [.l .no r a, .s (.int .i64 k)] K =
   (bif decide ((IntKind.wrap .i64 (k - (((List.length a) : Nat) : Int))) < (0 : Int)) then K (sc (-1), [])
    else (bif ((0 : Int) == 0) && lX (IntKind.wrap .i64 (k - (((List.length a) : Nat) : Int))) && (Nat.ble a.length 4611686018427387904 && a.all r.vG) then (bif decide (IntKind.wrap .i64 (k - (((List.length a) : Nat) : Int)) - sumW r.w a < 0) then K (sc (-1), []) else K (sc (IntKind.wrap .i64 (k - (((List.length a) : Nat) : Int)) - sumW r.w a), [])) else none))
theorem arM {G : Sm} (h : as1 r G) : ∀ ws K q, Eu r ws K = some q → G ws K = some q := acC (fun a k K hk hl => by
 simp only [lX, Bool.and_eq_true, decide_eq_true_eq] at hk
 have hl' := hl
 simp only [Cc.vG, Bool.and_eq_true] at hl'
 have h3 : a.length ≤ 9223372036854775807 := Nat.le_of_ble_eq_true hl'.1
 rw [h, hl'.2, wrap_in (by omega) (by omega), show (Cc.sl r).w a = a.length + sumW r.w a from rfl, ai5 hk.1]
 by_cases e : k - ((a.length : Nat) : Int) < 0
 ·rw [decide_eq_true e, agT e]; rfl
 ·rw [decide_eq_false e, agU e, anl (by omega) (by omega), Nat.ble_eq_true_of_le (show a.length ≤ 4611686018427387904 by omega), if_neg (by omega)]
  by_cases e2 : k - ((a.length : Nat) : Int) - sumW r.w a < 0
  ·rw [decide_eq_true e2, agT e2]; rfl
  ·rw [decide_eq_false e2, agU e2]; rfl)
end
end Go.Ev
end
section
namespace Go.Ev.Seat
open Go.RowKit
abbrev rQ : Rw := .one (.sl ah)
abbrev aB : Rw := .cons (.int .i64) (.cons (.int .i64) (.one (.sl ah)))
abbrev Yj : Rw := .cons (.int .i64) (.one (.int .i64))
abbrev aH : Rw := .cons (.int .i64) (.cons (.int .i64) (.cons (.int .i64) (.one (.int .i64))))
abbrev gU : Rw := .cons (.sl aB) (.one (.sl aB))
abbrev gV : Rw := .cons (.int .i64) (.cons (.int .i64) (.cons (.int .i64) (.cons (.int .i64) (.cons (.int .i64) (.one (.sl ah))))))
abbrev aF : Rw := .cons (.int .i64) (.cons (.int .i64) (.cons (.int .i64) (.one (.sl ah))))
abbrev aC : Rw := .cons (.int .i64) (.cons (.int .i64) (.cons (.int .i64) (.cons (.sl aB) (.one (.sl aB)))))
abbrev bH : Rw := .cons (.sl ah) (.cons (.sl ah) (.cons (.sl aF) (.cons (.int .i64) (.cons (.sl aC) (.one (.sl aH))))))
abbrev bf : Rw := .cons (.int .i64) (.cons (.int .i64) (.cons (.int .i64) (.cons (.int .i64) (.cons (.int .i64) (.cons (.sl ah) (.cons (.int .i64) (.cons (.int .i64) (.cons (.int .i64) (.cons (.int .i64) (.cons (.int .i64) (.cons (.int .i64) (.one (.sl ah)))))))))))))
abbrev eY : Rw := .cons (.sl ah) (.cons (.sl ah) (.cons (.sl aF) (.cons (.int .i64) (.cons (.sl aC) (.cons (.sl aH) (.one (.sl bf)))))))
abbrev ay : Type := Int × Int × List Int
abbrev aqa : Type := Int × Int
abbrev ak : Type := Int × Int × Int × Int
abbrev FK : Type := List ay × List ay
abbrev uD : Type := Int × Int × Int × Int × Int × List Int
abbrev aA : Type := Int × Int × Int × List Int
abbrev au : Type := Int × Int × Int × List ay × List ay
abbrev bT : Type := List Int × List Int × List aA × Int × List au × List ak
abbrev iP : Type := Int × Int × Int × Int × Int × List Int × Int × Int × Int × Int × Int × Int × List Int
abbrev uF : Type := List Int × List Int × List aA × Int × List au × List ak × List iP
end Go.Ev.Seat
end
section
namespace Go.Ev.Seat
open Go.RowKit
set_option maxRecDepth 100000
set_option linter.unusedVariables false
set_option linter.unusedSimpArgs false
noncomputable def ai8 := dL (En [(N.rJ, true, Et ah)] []) true F.G8
theorem aoe : aV prog I N.G8 true (ai8) := aW (aY OM bn) (by kernel_rfl) (by kernel_rfl) (by kernel_rfl) (by kernel_rfl) (cs := []) (by kernel_rfl) aK
theorem TT : aV prog I N.G8 true (su aB) := okW aoe (xC fun d K h => by
 obtain ⟨x0, x1, x2⟩ := d
 have h0 : (true && (true && (Cc.sl ah).lim x2)) = true := h
 try simp only [Bool.true_and, Bool.and_true, Bool.and_eq_true] at h0
 have c2 := h0
 have e : ai8 [.a (aB.cells .no (x0, x1, x2))] K = (bif (Cc.sl ah).lim x2 then K (.a (aB.cells .deep (x0, x1, x2)), []) else none) := by kernel_rfl
 exact e.trans (jQ c2 rfl))
noncomputable def ai9 := dL (En [(N.rM, true, OJ ah)] []) true F.GH
theorem aof : aV prog I N.GH true (ai9) := aW (aY OO bn) (by kernel_rfl) (by kernel_rfl) (by kernel_rfl) (by kernel_rfl) (cs := []) (by kernel_rfl) aK
theorem TU : aV prog I N.GH true (sD aB) := okW aof (xE fun d e K h => by
 obtain ⟨x0, x1, x2⟩ := d
 obtain ⟨y0, y1, y2⟩ := e
 have h0 : (true && (true && (Cc.sl ah).cnt x2)) = true := h
 try simp only [Bool.true_and, Bool.and_true, Bool.and_eq_true] at h0
 have c2 := h0
 have e : ai9 [.a (aB.cells .no (x0, x1, x2)), .a (aB.cells .no (y0, y1, y2))] K = (bif (x0 != y0) then K (bl false, []) else (bif (x1 != y1) then K (bl false, []) else (bif (Cc.sl ah).cnt x2 then (bif !(DL x2 y2) then K (bl false, []) else K (bl true, [])) else none))) := by kernel_rfl
 exact e.trans (CV (CV (Jm c2))))
noncomputable def aja := dL (En [(N.Df, true, Eu ah)] []) true F.GU
theorem aog : aV prog I N.GU true (aja) := aW (aY OQ bn) (by kernel_rfl) (by kernel_rfl) (by kernel_rfl) (by kernel_rfl) (cs := []) (by kernel_rfl) aK
theorem TV : aV prog I N.GU true (zN aB) := okW aog (Ew fun d l K hl0 h => by
 obtain ⟨x0, x1, x2⟩ := d
 have h0 : (true && (true && (Cc.sl ah).vG x2)) = true := h
 try simp only [Bool.true_and, Bool.and_true, Bool.and_eq_true] at h0
 have c2 := h0
 have e : aja [.a (aB.cells .no (x0, x1, x2)), .s (.int .i64 l)] K = (bif lX l && (Cc.sl ah).vG x2 then (bif decide (kZ ((Cc.sl ah).w x2) l < 0) then K (sc (-1), []) else K (sc (kZ ((Cc.sl ah).w x2) l), [])) else none) := by kernel_rfl
 have hw : ((Cc.sl ah).w x2 + 0) = aB.w (x0, x1, x2) := by
  show ((Cc.sl ah).w x2 + 0) = (0 + (0 + (Cc.sl ah).w x2))
  omega
 refine (e.trans (pR (K := fun n => K (sc n, [])) (w2 := 0) (wt := ((Cc.sl ah).w x2 + 0)) hl0 c2 rfl (fun hl1 => OL (K := fun n => K (sc n, [])) hl1))).trans ?_
 exact congrArg (fun n => K (sc (kZ n l), [])) hw)
noncomputable def aoh := dL (En [(N.G8, true, su aB)] [] [(3, [0,3,4], [3], uz (aaI aB 18) (RTo aB 18))]) true F.Gt
theorem alP : aV prog I N.Gt true aoh := aW (aY TT bn) (by kernel_rfl) (by kernel_rfl) (by kernel_rfl) (by kernel_rfl) (cs := [aS F.Gt 3]) (by kernel_rfl) (dA (TS (r := aB) (n := 18) (by kernel_rfl) rfl rfl (fun m x0 x4 o0 K => by kernel_rfl)) aK)
theorem ajb : aV prog I N.Gt true (Et aB) := okW alP (ap6 (n := 18) (sz := 40) (fun a K => by kernel_rfl) rfl)
noncomputable def aoi := dL (En [(N.GH, true, sD aB)] [(6, takeB [0, 1, 2, 3, 4, 5, 6, 7] (.fork (.one 8 (takes [9]))), [])] [(4, [0,1,5], [4], uz (aaJ aB 21) (REq aB 21))]) true F.Gu
theorem alQ : aV prog I N.Gu true aoi := aW (aY TU bn) (by kernel_rfl) (by kernel_rfl) (by kernel_rfl) (by kernel_rfl) (cs := [aS F.Gu 4]) (by kernel_rfl) (dA (acE (r := aB) (n := 21) (by kernel_rfl) rfl rfl (fun m x0 x1 x5 K => by kernel_rfl)) aK)
theorem ajc : aV prog I N.Gu true (OJ aB) := okW alQ (ap8 (fun a b K => by kernel_rfl))
noncomputable def aoj := dL (En [(N.GU, true, zN aB)] [] [(5, [0,1,5], [1,4], uz (acF aB 21) (RSz aB 21))]) true F.Gs
theorem alR : aV prog I N.Gs true aoj := aW (aY TV bn) (by kernel_rfl) (by kernel_rfl) (by kernel_rfl) (by kernel_rfl) (cs := [aS F.Gs 5]) (by kernel_rfl) (dA (agV (r := aB) (n := 21) (by kernel_rfl) rfl rfl (fun m x0 x1 x5 K => by kernel_rfl)) aK)
theorem ajd : aV prog I N.Gs true (Eu aB) := okW alR (arM (fun a k K => by kernel_rfl))
end Go.Ev.Seat
end
section
namespace Go.Ev.Seat
open Go.RowKit
set_option maxRecDepth 100000
set_option linter.unusedVariables false
set_option linter.unusedSimpArgs false
noncomputable def anm := dL (En [] []) true F.Vw
theorem aqb : aV prog I N.Vw true (anm) := aW bn (by kernel_rfl) (by kernel_rfl) (by kernel_rfl) (by kernel_rfl) (cs := []) (by kernel_rfl) aK
theorem aok : aV prog I N.Vw true (su Yj) := okW aqb (xC fun d K h => by
 obtain ⟨x0, x1⟩ := d
 have h0 : (true && true) = true := h
 have e : anm [.a (Yj.cells .no (x0, x1))] K = K (.a (Yj.cells .deep (x0, x1)), []) := by kernel_rfl
 exact e.trans rfl)
noncomputable def ano := dL (En [] []) true F.Vy
theorem aqc : aV prog I N.Vy true (ano) := aW bn (by kernel_rfl) (by kernel_rfl) (by kernel_rfl) (by kernel_rfl) (cs := []) (by kernel_rfl) aK
theorem aol : aV prog I N.Vy true (sD Yj) := okW aqc (xE fun d e K h => by
 obtain ⟨x0, x1⟩ := d
 obtain ⟨y0, y1⟩ := e
 have h0 : (true && true) = true := h
 have e : ano [.a (Yj.cells .no (x0, x1)), .a (Yj.cells .no (y0, y1))] K = (bif (x0 != y0) then K (bl false, []) else (bif (x1 != y1) then K (bl false, []) else K (bl true, []))) := by kernel_rfl
 exact e.trans (CV ap4))
end Go.Ev.Seat
end
section
namespace Go.Ev.Seat
open Go.RowKit
set_option maxRecDepth 100000
set_option linter.unusedVariables false
set_option linter.unusedSimpArgs false
noncomputable def afY := dL (En [] []) true F.KL
theorem alS : aV prog I N.KL true (afY) := aW bn (by kernel_rfl) (by kernel_rfl) (by kernel_rfl) (by kernel_rfl) (cs := []) (by kernel_rfl) aK
theorem aje : aV prog I N.KL true (su aH) := okW alS (xC fun d K h => by
 obtain ⟨x0, x1, x2, x3⟩ := d
 have h0 : (true && (true && (true && true))) = true := h
 have e : afY [.a (aH.cells .no (x0, x1, x2, x3))] K = K (.a (aH.cells .deep (x0, x1, x2, x3)), []) := by kernel_rfl
 exact e.trans rfl)
noncomputable def afZ := dL (En [] []) true F.KO
theorem alT : aV prog I N.KO true (afZ) := aW bn (by kernel_rfl) (by kernel_rfl) (by kernel_rfl) (by kernel_rfl) (cs := []) (by kernel_rfl) aK
theorem ajf : aV prog I N.KO true (sD aH) := okW alT (xE fun d e K h => by
 obtain ⟨x0, x1, x2, x3⟩ := d
 obtain ⟨y0, y1, y2, y3⟩ := e
 have h0 : (true && (true && (true && true))) = true := h
 have e : afZ [.a (aH.cells .no (x0, x1, x2, x3)), .a (aH.cells .no (y0, y1, y2, y3))] K = (bif (x0 != y0) then K (bl false, []) else (bif (x1 != y1) then K (bl false, []) else (bif (x2 != y2) then K (bl false, []) else (bif (x3 != y3) then K (bl false, []) else K (bl true, []))))) := by kernel_rfl
 exact e.trans (CV (CV (CV ap4))))
noncomputable def alU := dL (En [(N.KL, true, su aH)] [] [(3, [0,3,4], [3], uz (aaI aH 18) (RTo aH 18))]) true F.Dh
theorem ajg : aV prog I N.Dh true alU := aW (aY aje bn) (by kernel_rfl) (by kernel_rfl) (by kernel_rfl) (by kernel_rfl) (cs := [aS F.Dh 3]) (by kernel_rfl) (dA (TS (r := aH) (n := 18) (by kernel_rfl) rfl rfl (fun m x0 x4 o0 K => by kernel_rfl)) aK)
theorem agW : aV prog I N.Dh true (Et aH) := okW ajg (ap6 (n := 18) (sz := 32) (fun a K => by kernel_rfl) rfl)
noncomputable def alV := dL (En [(N.KO, true, sD aH)] [(6, takeB [0, 1, 2, 3, 4, 5, 6, 7] (.fork (.one 8 (takes [9]))), [])] [(4, [0,1,5], [4], uz (aaJ aH 21) (REq aH 21))]) true F.Di
theorem ajh : aV prog I N.Di true alV := aW (aY ajf bn) (by kernel_rfl) (by kernel_rfl) (by kernel_rfl) (by kernel_rfl) (cs := [aS F.Di 4]) (by kernel_rfl) (dA (acE (r := aH) (n := 21) (by kernel_rfl) rfl rfl (fun m x0 x1 x5 K => by kernel_rfl)) aK)
theorem agX : aV prog I N.Di true (OJ aH) := okW ajh (ap8 (fun a b K => by kernel_rfl))
noncomputable def acG := dL (En []) true F.GI
theorem aji : aV prog I N.GI true acG := aW bn (by kernel_rfl) (by kernel_rfl) (by kernel_rfl) (by kernel_rfl) (cs := []) (by kernel_rfl) aK
theorem arN (xs : List aH.T) : (Cc.sl aH).w xs = xs.length := by
 have : ∀ ys : List aH.T, sumW aH.w ys = 0 := fun ys => by
  induction ys with
  | nil => rfl
  | cons y ys ih => simp only [sumW]; rw [ih]; rfl
 exact (congrArg (fun n => List.length xs + n) (this xs)).trans rfl
theorem agY : aV prog I N.GI true (Eu aH) := okW aji (acC fun a k K h1 h2 => by
  simp only [lX, Cc.vG, Bool.and_eq_true, decide_eq_true_eq] at h1 h2
  have h3 := Nat.le_of_ble_eq_true h2.1
  have e : acG [.l .no aH a, .s (.int .i64 k)] K =
   (bif decide ((IntKind.wrap .i64 (k - (((List.length a) : Nat) : Int))) < (0 : Int)) then K (sc (-1), [])
    else K (sc (IntKind.wrap .i64 (k - (((List.length a) : Nat) : Int))), [])) := by kernel_rfl
  rw [e, wrap_in (by omega) (by omega), arN a]
  unfold kZ
  by_cases hc : k - ((a.length : Nat) : Int) < 0
  · rw [decide_eq_true hc, if_pos hc]; rfl
  · rw [decide_eq_false hc, if_neg hc]; rfl)
end Go.Ev.Seat
end
section
namespace Go.Ev.Seat
open Go.RowKit
set_option maxRecDepth 100000
set_option linter.unusedVariables false
set_option linter.unusedSimpArgs false
noncomputable def af0 := dL (En [(N.Gt, true, Et aB)] []) true F.KQ
theorem alW : aV prog I N.KQ true (af0) := aW (aY ajb bn) (by kernel_rfl) (by kernel_rfl) (by kernel_rfl) (by kernel_rfl) (cs := []) (by kernel_rfl) aK
theorem ajj : aV prog I N.KQ true (su gU) := okW alW (xC fun d K h => by
 obtain ⟨x0, x1⟩ := d
 have h0 : ((Cc.sl aB).lim x0 && (Cc.sl aB).lim x1) = true := h
 try simp only [Bool.true_and, Bool.and_true, Bool.and_eq_true] at h0
 have c0 := h0.1
 have c1 := h0.2
 have e : af0 [.a (gU.cells .no (x0, x1))] K = (bif (Cc.sl aB).lim x0 then (bif (Cc.sl aB).lim x1 then K (.a (gU.cells .deep (x0, x1)), []) else none) else none) := by kernel_rfl
 exact e.trans (jQ c0 (jQ c1 rfl)))
noncomputable def af2 := dL (En [(N.Gu, true, OJ aB)] []) true F.KT
theorem alX : aV prog I N.KT true (af2) := aW (aY ajc bn) (by kernel_rfl) (by kernel_rfl) (by kernel_rfl) (by kernel_rfl) (cs := []) (by kernel_rfl) aK
theorem ajk : aV prog I N.KT true (sD gU) := okW alX (xE fun d e K h => by
 obtain ⟨x0, x1⟩ := d
 obtain ⟨y0, y1⟩ := e
 have h0 : ((Cc.sl aB).cnt x0 && (Cc.sl aB).cnt x1) = true := h
 try simp only [Bool.true_and, Bool.and_true, Bool.and_eq_true] at h0
 have c0 := h0.1
 have c1 := h0.2
 have e : af2 [.a (gU.cells .no (x0, x1)), .a (gU.cells .no (y0, y1))] K = (bif (Cc.sl aB).cnt x0 then (bif !(DL x0 y0) then K (bl false, []) else (bif (Cc.sl aB).cnt x1 then (bif !(DL x1 y1) then K (bl false, []) else K (bl true, [])) else none)) else none) := by kernel_rfl
 exact e.trans (ai7 c0 (Jm c1)))
noncomputable def af4 := dL (En [(N.Gs, true, Eu aB)] []) true F.KP
theorem alY : aV prog I N.KP true (af4) := aW (aY ajd bn) (by kernel_rfl) (by kernel_rfl) (by kernel_rfl) (by kernel_rfl) (cs := []) (by kernel_rfl) aK
theorem ajl : aV prog I N.KP true (zN gU) := okW alY (Ew fun d l K hl0 h => by
 obtain ⟨x0, x1⟩ := d
 have h0 : ((Cc.sl aB).vG x0 && (Cc.sl aB).vG x1) = true := h
 try simp only [Bool.true_and, Bool.and_true, Bool.and_eq_true] at h0
 have c0 := h0.1
 have c1 := h0.2
 have e : af4 [.a (gU.cells .no (x0, x1)), .s (.int .i64 l)] K = (bif lX l && (Cc.sl aB).vG x0 then (bif decide (kZ ((Cc.sl aB).w x0) l < 0) then K (sc (-1), []) else (bif lX (kZ ((Cc.sl aB).w x0) l) && (Cc.sl aB).vG x1 then (bif decide (kZ ((Cc.sl aB).w x1) (kZ ((Cc.sl aB).w x0) l) < 0) then K (sc (-1), []) else K (sc (kZ ((Cc.sl aB).w x1) (kZ ((Cc.sl aB).w x0) l)), [])) else none)) else none) := by kernel_rfl
 have hw : ((Cc.sl aB).w x0 + ((Cc.sl aB).w x1 + 0)) = gU.w (x0, x1) := by
  show ((Cc.sl aB).w x0 + ((Cc.sl aB).w x1 + 0)) = ((Cc.sl aB).w x0 + (Cc.sl aB).w x1)
  omega
 refine (e.trans (pR (K := fun n => K (sc n, [])) (w2 := ((Cc.sl aB).w x1 + 0)) (wt := ((Cc.sl aB).w x0 + ((Cc.sl aB).w x1 + 0))) hl0 c0 rfl (fun hl1 => pR (K := fun n => K (sc n, [])) (w2 := 0) (wt := ((Cc.sl aB).w x1 + 0)) hl1 c1 rfl (fun hl2 => OL (K := fun n => K (sc n, [])) hl2)))).trans ?_
 exact congrArg (fun n => K (sc (kZ n l), [])) hw)
end Go.Ev.Seat
end
section
namespace Go.Ev.Seat
open Go.RowKit
set_option maxRecDepth 100000
set_option linter.unusedVariables false
set_option linter.unusedSimpArgs false
noncomputable def anp := dL (En [(N.rJ, true, Et ah)] []) true F.Vu
theorem aqd : aV prog I N.Vu true (anp) := aW (aY OM bn) (by kernel_rfl) (by kernel_rfl) (by kernel_rfl) (by kernel_rfl) (cs := []) (by kernel_rfl) aK
theorem aom : aV prog I N.Vu true (su gV) := okW aqd (xC fun d K h => by
 obtain ⟨x0, x1, x2, x3, x4, x5⟩ := d
 have h0 : (true && (true && (true && (true && (true && (Cc.sl ah).lim x5))))) = true := h
 try simp only [Bool.true_and, Bool.and_true, Bool.and_eq_true] at h0
 have c5 := h0
 have e : anp [.a (gV.cells .no (x0, x1, x2, x3, x4, x5))] K = (bif (Cc.sl ah).lim x5 then K (.a (gV.cells .deep (x0, x1, x2, x3, x4, x5)), []) else none) := by kernel_rfl
 exact e.trans (jQ c5 rfl))
noncomputable def anq := dL (En [(N.rM, true, OJ ah)] []) true F.Vp
theorem aqe : aV prog I N.Vp true (anq) := aW (aY OO bn) (by kernel_rfl) (by kernel_rfl) (by kernel_rfl) (by kernel_rfl) (cs := []) (by kernel_rfl) aK
theorem aon : aV prog I N.Vp true (sD gV) := okW aqe (xE fun d e K h => by
 obtain ⟨x0, x1, x2, x3, x4, x5⟩ := d
 obtain ⟨y0, y1, y2, y3, y4, y5⟩ := e
 have h0 : (true && (true && (true && (true && (true && (Cc.sl ah).cnt x5))))) = true := h
 try simp only [Bool.true_and, Bool.and_true, Bool.and_eq_true] at h0
 have c5 := h0
 have e : anq [.a (gV.cells .no (x0, x1, x2, x3, x4, x5)), .a (gV.cells .no (y0, y1, y2, y3, y4, y5))] K = (bif (x0 != y0) then K (bl false, []) else (bif (x1 != y1) then K (bl false, []) else (bif (x2 != y2) then K (bl false, []) else (bif (x3 != y3) then K (bl false, []) else (bif (x4 != y4) then K (bl false, []) else (bif (Cc.sl ah).cnt x5 then (bif !(DL x5 y5) then K (bl false, []) else K (bl true, [])) else none)))))) := by kernel_rfl
 exact e.trans (CV (CV (CV (CV (CV (Jm c5)))))))
noncomputable def anr := dL (En [(N.Df, true, Eu ah)] []) true F.Vt
theorem aqf : aV prog I N.Vt true (anr) := aW (aY OQ bn) (by kernel_rfl) (by kernel_rfl) (by kernel_rfl) (by kernel_rfl) (cs := []) (by kernel_rfl) aK
theorem aoo : aV prog I N.Vt true (zN gV) := okW aqf (Ew fun d l K hl0 h => by
 obtain ⟨x0, x1, x2, x3, x4, x5⟩ := d
 have h0 : (true && (true && (true && (true && (true && (Cc.sl ah).vG x5))))) = true := h
 try simp only [Bool.true_and, Bool.and_true, Bool.and_eq_true] at h0
 have c5 := h0
 have e : anr [.a (gV.cells .no (x0, x1, x2, x3, x4, x5)), .s (.int .i64 l)] K = (bif lX l && (Cc.sl ah).vG x5 then (bif decide (kZ ((Cc.sl ah).w x5) l < 0) then K (sc (-1), []) else K (sc (kZ ((Cc.sl ah).w x5) l), [])) else none) := by kernel_rfl
 have hw : ((Cc.sl ah).w x5 + 0) = gV.w (x0, x1, x2, x3, x4, x5) := by
  show ((Cc.sl ah).w x5 + 0) = (0 + (0 + (0 + (0 + (0 + (Cc.sl ah).w x5)))))
  omega
 refine (e.trans (pR (K := fun n => K (sc n, [])) (w2 := 0) (wt := ((Cc.sl ah).w x5 + 0)) hl0 c5 rfl (fun hl1 => OL (K := fun n => K (sc n, [])) hl1))).trans ?_
 exact congrArg (fun n => K (sc (kZ n l), [])) hw)
end Go.Ev.Seat
end
section
namespace Go.Ev.Seat
open Go.RowKit
set_option maxRecDepth 100000
set_option linter.unusedVariables false
set_option linter.unusedSimpArgs false
noncomputable def acH := dL (En [(N.G8, true, su aB)] []) true F.GZ
theorem ajm : aV prog I N.GZ true (acH) := aW (aY TT bn) (by kernel_rfl) (by kernel_rfl) (by kernel_rfl) (by kernel_rfl) (cs := []) (by kernel_rfl) aK
theorem agZ : aV prog I N.GZ true (su aF) := okW ajm (xC fun d K h => by
 obtain ⟨x0, x1, x2, x3⟩ := d
 have h0 : (true && (true && (true && (Cc.sl ah).lim x3))) = true := h
 try simp only [Bool.true_and, Bool.and_true, Bool.and_eq_true] at h0
 have c3 := h0
 have e : acH [.a (aF.cells .no (x0, x1, x2, x3))] K = (bif aB.lim (x1, x2, x3) then K (.a (aF.cells .deep (x0, x1, x2, x3)), []) else none) := by kernel_rfl
 exact e.trans (jQ (show (true && (true && (Cc.sl ah).lim x3)) = true by simp only [c3, Bool.and_self]) rfl))
noncomputable def acI := dL (En [(N.GH, true, sD aB)] []) true F.He
theorem ajn : aV prog I N.He true (acI) := aW (aY TU bn) (by kernel_rfl) (by kernel_rfl) (by kernel_rfl) (by kernel_rfl) (cs := []) (by kernel_rfl) aK
theorem ag0 : aV prog I N.He true (sD aF) := okW ajn (xE fun d e K h => by
 obtain ⟨x0, x1, x2, x3⟩ := d
 obtain ⟨y0, y1, y2, y3⟩ := e
 have h0 : (true && (true && (true && (Cc.sl ah).cnt x3))) = true := h
 try simp only [Bool.true_and, Bool.and_true, Bool.and_eq_true] at h0
 have c3 := h0
 have e : acI [.a (aF.cells .no (x0, x1, x2, x3)), .a (aF.cells .no (y0, y1, y2, y3))] K = (bif (x0 != y0) then K (bl false, []) else (bif aB.cnt (x1, x2, x3) then (bif !(DL ((x1, x2, x3) : aB.T) (y1, y2, y3)) then K (bl false, []) else K (bl true, [])) else none)) := by kernel_rfl
 exact e.trans (CV (Jm (show (true && (true && (Cc.sl ah).cnt x3)) = true by simp only [c3, Bool.and_self]))))
noncomputable def acJ := dL (En [(N.GU, true, zN aB)] []) true F.GN
theorem ajo : aV prog I N.GN true (acJ) := aW (aY TV bn) (by kernel_rfl) (by kernel_rfl) (by kernel_rfl) (by kernel_rfl) (cs := []) (by kernel_rfl) aK
theorem ag1 : aV prog I N.GN true (zN aF) := okW ajo (Ew fun d l K hl0 h => by
 obtain ⟨x0, x1, x2, x3⟩ := d
 have h0 : (true && (true && (true && (Cc.sl ah).vG x3))) = true := h
 try simp only [Bool.true_and, Bool.and_true, Bool.and_eq_true] at h0
 have c3 := h0
 have w1 : aB.w (x1, x2, x3) = (0 + (0 + (Cc.sl ah).w x3)) := rfl
 have e : acJ [.a (aF.cells .no (x0, x1, x2, x3)), .s (.int .i64 l)] K = (bif lX l && aB.vG (x1, x2, x3) then (bif decide (kZ (aB.w (x1, x2, x3)) l < 0) then K (sc (-1), []) else K (sc (kZ (aB.w (x1, x2, x3)) l), [])) else none) := by kernel_rfl
 have hw : (aB.w (x1, x2, x3) + 0) = aF.w (x0, x1, x2, x3) := by
  show (aB.w (x1, x2, x3) + 0) = (0 + (0 + (0 + (Cc.sl ah).w x3)))
  omega
 refine (e.trans (pR (K := fun n => K (sc n, [])) (w2 := 0) (wt := (aB.w (x1, x2, x3) + 0)) hl0 (show (true && (true && (Cc.sl ah).vG x3)) = true by simp only [c3, Bool.and_self]) rfl (fun hl1 => OL (K := fun n => K (sc n, [])) hl1))).trans ?_
 exact congrArg (fun n => K (sc (kZ n l), [])) hw)
noncomputable def ajp := dL (En [(N.GZ, true, su aF)] [] [(3, [0,3,4], [3], uz (aaI aF 18) (RTo aF 18))]) true F.zF
theorem ag2 : aV prog I N.zF true ajp := aW (aY agZ bn) (by kernel_rfl) (by kernel_rfl) (by kernel_rfl) (by kernel_rfl) (cs := [aS F.zF 3]) (by kernel_rfl) (dA (TS (r := aF) (n := 18) (by kernel_rfl) rfl rfl (fun m x0 x4 o0 K => by kernel_rfl)) aK)
theorem aeK : aV prog I N.zF true (Et aF) := okW ag2 (ap6 (n := 18) (sz := 48) (fun a K => by kernel_rfl) rfl)
noncomputable def ajq := dL (En [(N.He, true, sD aF)] [(6, takeB [0, 1, 2, 3, 4, 5, 6, 7] (.fork (.one 8 (takes [9]))), [])] [(4, [0,1,5], [4], uz (aaJ aF 21) (REq aF 21))]) true F.zH
theorem ag3 : aV prog I N.zH true ajq := aW (aY ag0 bn) (by kernel_rfl) (by kernel_rfl) (by kernel_rfl) (by kernel_rfl) (cs := [aS F.zH 4]) (by kernel_rfl) (dA (acE (r := aF) (n := 21) (by kernel_rfl) rfl rfl (fun m x0 x1 x5 K => by kernel_rfl)) aK)
theorem aeL : aV prog I N.zH true (OJ aF) := okW ag3 (ap8 (fun a b K => by kernel_rfl))
noncomputable def ajr := dL (En [(N.GN, true, zN aF)] [] [(5, [0,1,5], [1,4], uz (acF aF 21) (RSz aF 21))]) true F.zC
theorem ag4 : aV prog I N.zC true ajr := aW (aY ag1 bn) (by kernel_rfl) (by kernel_rfl) (by kernel_rfl) (by kernel_rfl) (cs := [aS F.zC 5]) (by kernel_rfl) (dA (agV (r := aF) (n := 21) (by kernel_rfl) rfl rfl (fun m x0 x1 x5 K => by kernel_rfl)) aK)
theorem aeM : aV prog I N.zC true (Eu aF) := okW ag4 (arM (fun a k K => by kernel_rfl))
end Go.Ev.Seat
end
section
namespace Go.Ev.Seat
open Go.RowKit
set_option maxRecDepth 100000
set_option linter.unusedVariables false
set_option linter.unusedSimpArgs false
noncomputable def acK := dL (En [(N.Vw, true, su Yj), (N.KQ, true, su gU)] []) true F.G7
theorem ajs : aV prog I N.G7 true (acK) := aW (aY aok (aY ajj bn)) (by kernel_rfl) (by kernel_rfl) (by kernel_rfl) (by kernel_rfl) (cs := []) (by kernel_rfl) aK
theorem ag5 : aV prog I N.G7 true (su aC) := okW ajs (xC fun d K h => by
 obtain ⟨x0, x1, x2, x3, x4⟩ := d
 have h0 : (true && (true && (true && ((Cc.sl aB).lim x3 && (Cc.sl aB).lim x4)))) = true := h
 try simp only [Bool.true_and, Bool.and_true, Bool.and_eq_true] at h0
 have c3 := h0.1
 have c4 := h0.2
 have e : acK [.a (aC.cells .no (x0, x1, x2, x3, x4))] K = (bif Yj.lim (x1, x2) then (bif gU.lim (x3, x4) then K (.a (aC.cells .deep (x0, x1, x2, x3, x4)), []) else none) else none) := by kernel_rfl
 exact e.trans (jQ (show (true && true) = true by simp only [Bool.and_self]) (jQ (show ((Cc.sl aB).lim x3 && (Cc.sl aB).lim x4) = true by simp only [c3, c4, Bool.and_self]) rfl)))
noncomputable def acL := dL (En [(N.Vy, true, sD Yj), (N.KT, true, sD gU)] []) true F.Hf
theorem ajt : aV prog I N.Hf true (acL) := aW (aY aol (aY ajk bn)) (by kernel_rfl) (by kernel_rfl) (by kernel_rfl) (by kernel_rfl) (cs := []) (by kernel_rfl) aK
theorem ag6 : aV prog I N.Hf true (sD aC) := okW ajt (xE fun d e K h => by
 obtain ⟨x0, x1, x2, x3, x4⟩ := d
 obtain ⟨y0, y1, y2, y3, y4⟩ := e
 have h0 : (true && (true && (true && ((Cc.sl aB).cnt x3 && (Cc.sl aB).cnt x4)))) = true := h
 try simp only [Bool.true_and, Bool.and_true, Bool.and_eq_true] at h0
 have c3 := h0.1
 have c4 := h0.2
 have e : acL [.a (aC.cells .no (x0, x1, x2, x3, x4)), .a (aC.cells .no (y0, y1, y2, y3, y4))] K = (bif (x0 != y0) then K (bl false, []) else (bif Yj.cnt (x1, x2) then (bif !(DL ((x1, x2) : Yj.T) (y1, y2)) then K (bl false, []) else (bif gU.cnt (x3, x4) then (bif !(DL ((x3, x4) : gU.T) (y3, y4)) then K (bl false, []) else K (bl true, [])) else none)) else none)) := by kernel_rfl
 exact e.trans (CV (agQ (show (true && true) = true by simp only [Bool.and_self]) ⟨fun h => by cases h; exact ⟨rfl, rfl⟩, fun h => by obtain ⟨h1, h2⟩ := h; cases h1; cases h2; rfl⟩ (Jm (show ((Cc.sl aB).cnt x3 && (Cc.sl aB).cnt x4) = true by simp only [c3, c4, Bool.and_self])))))
noncomputable def acM := dL (En [(N.KP, true, zN gU)] []) true F.GR
theorem aju : aV prog I N.GR true (acM) := aW (aY ajl bn) (by kernel_rfl) (by kernel_rfl) (by kernel_rfl) (by kernel_rfl) (cs := []) (by kernel_rfl) aK
theorem ag7 : aV prog I N.GR true (zN aC) := okW aju (Ew fun d l K hl0 h => by
 obtain ⟨x0, x1, x2, x3, x4⟩ := d
 have h0 : (true && (true && (true && ((Cc.sl aB).vG x3 && (Cc.sl aB).vG x4)))) = true := h
 try simp only [Bool.true_and, Bool.and_true, Bool.and_eq_true] at h0
 have c3 := h0.1
 have c4 := h0.2
 have w3 : gU.w (x3, x4) = ((Cc.sl aB).w x3 + (Cc.sl aB).w x4) := rfl
 have e : acM [.a (aC.cells .no (x0, x1, x2, x3, x4)), .s (.int .i64 l)] K = (bif lX l && gU.vG (x3, x4) then (bif decide (kZ (gU.w (x3, x4)) l < 0) then K (sc (-1), []) else K (sc (kZ (gU.w (x3, x4)) l), [])) else none) := by kernel_rfl
 have hw : (gU.w (x3, x4) + 0) = aC.w (x0, x1, x2, x3, x4) := by
  show (gU.w (x3, x4) + 0) = (0 + (0 + (0 + ((Cc.sl aB).w x3 + (Cc.sl aB).w x4))))
  omega
 refine (e.trans (pR (K := fun n => K (sc n, [])) (w2 := 0) (wt := (gU.w (x3, x4) + 0)) hl0 (show ((Cc.sl aB).vG x3 && (Cc.sl aB).vG x4) = true by simp only [c3, c4, Bool.and_self]) rfl (fun hl1 => OL (K := fun n => K (sc n, [])) hl1))).trans ?_
 exact congrArg (fun n => K (sc (kZ n l), [])) hw)
noncomputable def ajv := dL (En [(N.G7, true, su aC)] [] [(3, [0,3,4], [3], uz (aaI aC 18) (RTo aC 18))]) true F.zG
theorem ag8 : aV prog I N.zG true ajv := aW (aY ag5 bn) (by kernel_rfl) (by kernel_rfl) (by kernel_rfl) (by kernel_rfl) (cs := [aS F.zG 3]) (by kernel_rfl) (dA (TS (r := aC) (n := 18) (by kernel_rfl) rfl rfl (fun m x0 x4 o0 K => by kernel_rfl)) aK)
theorem aeN : aV prog I N.zG true (Et aC) := okW ag8 (ap6 (n := 18) (sz := 72) (fun a K => by kernel_rfl) rfl)
noncomputable def ajw := dL (En [(N.Hf, true, sD aC)] [(6, takeB [0, 1, 2, 3, 4, 5, 6, 7] (.fork (.one 8 (takes [9]))), [])] [(4, [0,1,5], [4], uz (aaJ aC 21) (REq aC 21))]) true F.zI
theorem ag9 : aV prog I N.zI true ajw := aW (aY ag6 bn) (by kernel_rfl) (by kernel_rfl) (by kernel_rfl) (by kernel_rfl) (cs := [aS F.zI 4]) (by kernel_rfl) (dA (acE (r := aC) (n := 21) (by kernel_rfl) rfl rfl (fun m x0 x1 x5 K => by kernel_rfl)) aK)
theorem aeO : aV prog I N.zI true (OJ aC) := okW ag9 (ap8 (fun a b K => by kernel_rfl))
noncomputable def ajx := dL (En [(N.GR, true, zN aC)] [] [(5, [0,1,5], [1,4], uz (acF aC 21) (RSz aC 21))]) true F.zD
theorem aha : aV prog I N.zD true ajx := aW (aY ag7 bn) (by kernel_rfl) (by kernel_rfl) (by kernel_rfl) (by kernel_rfl) (cs := [aS F.zD 5]) (by kernel_rfl) (dA (agV (r := aC) (n := 21) (by kernel_rfl) rfl rfl (fun m x0 x1 x5 K => by kernel_rfl)) aK)
theorem aeP : aV prog I N.zD true (Eu aC) := okW aha (arM (fun a k K => by kernel_rfl))
end Go.Ev.Seat
end
section
namespace Go.Ev.Seat
open Go.RowKit
set_option maxRecDepth 100000
set_option linter.unusedVariables false
set_option linter.unusedSimpArgs false
noncomputable def ant := dL (En [(N.rJ, true, Et ah), (N.zF, true, Et aF), (N.zG, true, Et aC), (N.Dh, true, Et aH)] []) true F.Vm
theorem aqg : aV prog I N.Vm true (ant) := aW (aY OM (aY aeK (aY aeN (aY agW bn)))) (by kernel_rfl) (by kernel_rfl) (by kernel_rfl) (by kernel_rfl) (cs := []) (by kernel_rfl) aK
theorem aop : aV prog I N.Vm true (su bH) := okW aqg (xC fun d K h => by
 obtain ⟨x0, x1, x2, x3, x4, x5⟩ := d
 have h0 : ((Cc.sl ah).lim x0 && ((Cc.sl ah).lim x1 && ((Cc.sl aF).lim x2 && (true && ((Cc.sl aC).lim x4 && (Cc.sl aH).lim x5))))) = true := h
 try simp only [Bool.true_and, Bool.and_true, Bool.and_eq_true] at h0
 have c0 := h0.1
 have c1 := h0.2.1
 have c2 := h0.2.2.1
 have c4 := h0.2.2.2.1
 have c5 := h0.2.2.2.2
 have e : ant [.a (bH.cells .no (x0, x1, x2, x3, x4, x5))] K = (bif (Cc.sl ah).lim x0 then (bif (Cc.sl ah).lim x1 then (bif (Cc.sl aF).lim x2 then (bif (Cc.sl aC).lim x4 then (bif (Cc.sl aH).lim x5 then K (.a (bH.cells .deep (x0, x1, x2, x3, x4, x5)), []) else none) else none) else none) else none) else none) := by kernel_rfl
 exact e.trans (jQ c0 (jQ c1 (jQ c2 (jQ c4 (jQ c5 rfl))))))
noncomputable def anu := dL (En [(N.rM, true, OJ ah), (N.zH, true, OJ aF), (N.zI, true, OJ aC), (N.Di, true, OJ aH)] []) true F.Vo
theorem aqh : aV prog I N.Vo true (anu) := aW (aY OO (aY aeL (aY aeO (aY agX bn)))) (by kernel_rfl) (by kernel_rfl) (by kernel_rfl) (by kernel_rfl) (cs := []) (by kernel_rfl) aK
theorem aoq : aV prog I N.Vo true (sD bH) := okW aqh (xE fun d e K h => by
 obtain ⟨x0, x1, x2, x3, x4, x5⟩ := d
 obtain ⟨y0, y1, y2, y3, y4, y5⟩ := e
 have h0 : ((Cc.sl ah).cnt x0 && ((Cc.sl ah).cnt x1 && ((Cc.sl aF).cnt x2 && (true && ((Cc.sl aC).cnt x4 && (Cc.sl aH).cnt x5))))) = true := h
 try simp only [Bool.true_and, Bool.and_true, Bool.and_eq_true] at h0
 have c0 := h0.1
 have c1 := h0.2.1
 have c2 := h0.2.2.1
 have c4 := h0.2.2.2.1
 have c5 := h0.2.2.2.2
 have e : anu [.a (bH.cells .no (x0, x1, x2, x3, x4, x5)), .a (bH.cells .no (y0, y1, y2, y3, y4, y5))] K = (bif (Cc.sl ah).cnt x0 then (bif !(DL x0 y0) then K (bl false, []) else (bif (Cc.sl ah).cnt x1 then (bif !(DL x1 y1) then K (bl false, []) else (bif (Cc.sl aF).cnt x2 then (bif !(DL x2 y2) then K (bl false, []) else (bif (x3 != y3) then K (bl false, []) else (bif (Cc.sl aC).cnt x4 then (bif !(DL x4 y4) then K (bl false, []) else (bif (Cc.sl aH).cnt x5 then (bif !(DL x5 y5) then K (bl false, []) else K (bl true, [])) else none)) else none))) else none)) else none)) else none) := by kernel_rfl
 exact e.trans (ai7 c0 (ai7 c1 (ai7 c2 (CV (ai7 c4 (Jm c5)))))))
noncomputable def anv := dL (En [(N.Df, true, Eu ah), (N.zC, true, Eu aF), (N.zD, true, Eu aC), (N.GI, true, Eu aH)] []) true F.Vl
theorem aqi : aV prog I N.Vl true (anv) := aW (aY OQ (aY aeM (aY aeP (aY agY bn)))) (by kernel_rfl) (by kernel_rfl) (by kernel_rfl) (by kernel_rfl) (cs := []) (by kernel_rfl) aK
theorem aor : aV prog I N.Vl true (zN bH) := okW aqi (Ew fun d l K hl0 h => by
 obtain ⟨x0, x1, x2, x3, x4, x5⟩ := d
 have h0 : ((Cc.sl ah).vG x0 && ((Cc.sl ah).vG x1 && ((Cc.sl aF).vG x2 && (true && ((Cc.sl aC).vG x4 && (Cc.sl aH).vG x5))))) = true := h
 try simp only [Bool.true_and, Bool.and_true, Bool.and_eq_true] at h0
 have c0 := h0.1
 have c1 := h0.2.1
 have c2 := h0.2.2.1
 have c4 := h0.2.2.2.1
 have c5 := h0.2.2.2.2
 have e : anv [.a (bH.cells .no (x0, x1, x2, x3, x4, x5)), .s (.int .i64 l)] K = (bif lX l && (Cc.sl ah).vG x0 then (bif decide (kZ ((Cc.sl ah).w x0) l < 0) then K (sc (-1), []) else (bif lX (kZ ((Cc.sl ah).w x0) l) && (Cc.sl ah).vG x1 then (bif decide (kZ ((Cc.sl ah).w x1) (kZ ((Cc.sl ah).w x0) l) < 0) then K (sc (-1), []) else (bif lX (kZ ((Cc.sl ah).w x1) (kZ ((Cc.sl ah).w x0) l)) && (Cc.sl aF).vG x2 then (bif decide (kZ ((Cc.sl aF).w x2) (kZ ((Cc.sl ah).w x1) (kZ ((Cc.sl ah).w x0) l)) < 0) then K (sc (-1), []) else (bif lX (kZ ((Cc.sl aF).w x2) (kZ ((Cc.sl ah).w x1) (kZ ((Cc.sl ah).w x0) l))) && (Cc.sl aC).vG x4 then (bif decide (kZ ((Cc.sl aC).w x4) (kZ ((Cc.sl aF).w x2) (kZ ((Cc.sl ah).w x1) (kZ ((Cc.sl ah).w x0) l))) < 0) then K (sc (-1), []) else (bif lX (kZ ((Cc.sl aC).w x4) (kZ ((Cc.sl aF).w x2) (kZ ((Cc.sl ah).w x1) (kZ ((Cc.sl ah).w x0) l)))) && (Cc.sl aH).vG x5 then (bif decide (kZ ((Cc.sl aH).w x5) (kZ ((Cc.sl aC).w x4) (kZ ((Cc.sl aF).w x2) (kZ ((Cc.sl ah).w x1) (kZ ((Cc.sl ah).w x0) l)))) < 0) then K (sc (-1), []) else K (sc (kZ ((Cc.sl aH).w x5) (kZ ((Cc.sl aC).w x4) (kZ ((Cc.sl aF).w x2) (kZ ((Cc.sl ah).w x1) (kZ ((Cc.sl ah).w x0) l))))), [])) else none)) else none)) else none)) else none)) else none) := by kernel_rfl
 have hw : ((Cc.sl ah).w x0 + ((Cc.sl ah).w x1 + ((Cc.sl aF).w x2 + ((Cc.sl aC).w x4 + ((Cc.sl aH).w x5 + 0))))) = bH.w (x0, x1, x2, x3, x4, x5) := by
  show ((Cc.sl ah).w x0 + ((Cc.sl ah).w x1 + ((Cc.sl aF).w x2 + ((Cc.sl aC).w x4 + ((Cc.sl aH).w x5 + 0))))) = ((Cc.sl ah).w x0 + ((Cc.sl ah).w x1 + ((Cc.sl aF).w x2 + (0 + ((Cc.sl aC).w x4 + (Cc.sl aH).w x5)))))
  omega
 refine (e.trans (pR (K := fun n => K (sc n, [])) (w2 := ((Cc.sl ah).w x1 + ((Cc.sl aF).w x2 + ((Cc.sl aC).w x4 + ((Cc.sl aH).w x5 + 0))))) (wt := ((Cc.sl ah).w x0 + ((Cc.sl ah).w x1 + ((Cc.sl aF).w x2 + ((Cc.sl aC).w x4 + ((Cc.sl aH).w x5 + 0)))))) hl0 c0 rfl (fun hl1 => pR (K := fun n => K (sc n, [])) (w2 := ((Cc.sl aF).w x2 + ((Cc.sl aC).w x4 + ((Cc.sl aH).w x5 + 0)))) (wt := ((Cc.sl ah).w x1 + ((Cc.sl aF).w x2 + ((Cc.sl aC).w x4 + ((Cc.sl aH).w x5 + 0))))) hl1 c1 rfl (fun hl2 => pR (K := fun n => K (sc n, [])) (w2 := ((Cc.sl aC).w x4 + ((Cc.sl aH).w x5 + 0))) (wt := ((Cc.sl aF).w x2 + ((Cc.sl aC).w x4 + ((Cc.sl aH).w x5 + 0)))) hl2 c2 rfl (fun hl3 => pR (K := fun n => K (sc n, [])) (w2 := ((Cc.sl aH).w x5 + 0)) (wt := ((Cc.sl aC).w x4 + ((Cc.sl aH).w x5 + 0))) hl3 c4 rfl (fun hl4 => pR (K := fun n => K (sc n, [])) (w2 := 0) (wt := ((Cc.sl aH).w x5 + 0)) hl4 c5 rfl (fun hl5 => OL (K := fun n => K (sc n, [])) hl5))))))).trans ?_
 exact congrArg (fun n => K (sc (kZ n l), [])) hw)
end Go.Ev.Seat
end
section
namespace Go.Ev.Seat
open Go.RowKit
set_option maxRecDepth 100000
set_option linter.unusedVariables false
set_option linter.unusedSimpArgs false
noncomputable def aqj := dL (En [(N.Vu, true, su gV), (N.G8, true, su aB)] []) true F.acz
theorem arO : aV prog I N.acz true (aqj) := aW (aY aom (aY TT bn)) (by kernel_rfl) (by kernel_rfl) (by kernel_rfl) (by kernel_rfl) (cs := []) (by kernel_rfl) aK
theorem aqk : aV prog I N.acz true (su bf) := okW arO (xC fun d K h => by
 obtain ⟨x0, x1, x2, x3, x4, x5, x6, x7, x8, x9, x10, x11, x12⟩ := d
 have h0 : (true && (true && (true && (true && (true && ((Cc.sl ah).lim x5 && (true && (true && (true && (true && (true && (true && (Cc.sl ah).lim x12)))))))))))) = true := h
 try simp only [Bool.true_and, Bool.and_true, Bool.and_eq_true] at h0
 have c5 := h0.1
 have c12 := h0.2
 have e : aqj [.a (bf.cells .no (x0, x1, x2, x3, x4, x5, x6, x7, x8, x9, x10, x11, x12))] K = (bif gV.lim (x0, x1, x2, x3, x4, x5) then (bif aB.lim (x10, x11, x12) then K (.a (bf.cells .deep (x0, x1, x2, x3, x4, x5, x6, x7, x8, x9, x10, x11, x12)), []) else none) else none) := by kernel_rfl
 exact e.trans (jQ (show (true && (true && (true && (true && (true && (Cc.sl ah).lim x5))))) = true by simp only [c5, Bool.and_self]) (jQ (show (true && (true && (Cc.sl ah).lim x12)) = true by simp only [c12, Bool.and_self]) rfl)))
noncomputable def aql := dL (En [(N.Vp, true, sD gV), (N.GH, true, sD aB)] []) true F.acw
theorem arP : aV prog I N.acw true (aql) := aW (aY aon (aY TU bn)) (by kernel_rfl) (by kernel_rfl) (by kernel_rfl) (by kernel_rfl) (cs := []) (by kernel_rfl) aK
theorem aqm : aV prog I N.acw true (sD bf) := okW arP (xE fun d e K h => by
 obtain ⟨x0, x1, x2, x3, x4, x5, x6, x7, x8, x9, x10, x11, x12⟩ := d
 obtain ⟨y0, y1, y2, y3, y4, y5, y6, y7, y8, y9, y10, y11, y12⟩ := e
 have h0 : (true && (true && (true && (true && (true && ((Cc.sl ah).cnt x5 && (true && (true && (true && (true && (true && (true && (Cc.sl ah).cnt x12)))))))))))) = true := h
 try simp only [Bool.true_and, Bool.and_true, Bool.and_eq_true] at h0
 have c5 := h0.1
 have c12 := h0.2
 have e : aql [.a (bf.cells .no (x0, x1, x2, x3, x4, x5, x6, x7, x8, x9, x10, x11, x12)), .a (bf.cells .no (y0, y1, y2, y3, y4, y5, y6, y7, y8, y9, y10, y11, y12))] K = (bif gV.cnt (x0, x1, x2, x3, x4, x5) then (bif !(DL ((x0, x1, x2, x3, x4, x5) : gV.T) (y0, y1, y2, y3, y4, y5)) then K (bl false, []) else (bif (x6 != y6) then K (bl false, []) else (bif (x7 != y7) then K (bl false, []) else (bif (x8 != y8) then K (bl false, []) else (bif (x9 != y9) then K (bl false, []) else (bif aB.cnt (x10, x11, x12) then (bif !(DL ((x10, x11, x12) : aB.T) (y10, y11, y12)) then K (bl false, []) else K (bl true, [])) else none)))))) else none) := by kernel_rfl
 exact e.trans (agQ (show (true && (true && (true && (true && (true && (Cc.sl ah).cnt x5))))) = true by simp only [c5, Bool.and_self]) ⟨fun h => by cases h; exact ⟨rfl, rfl⟩, fun h => by obtain ⟨h1, h2⟩ := h; cases h1; cases h2; rfl⟩ (CV (CV (CV (CV (Jm (show (true && (true && (Cc.sl ah).cnt x12)) = true by simp only [c12, Bool.and_self]))))))))
noncomputable def aqn := dL (En [(N.Vt, true, zN gV), (N.GU, true, zN aB)] []) true F.acy
theorem arQ : aV prog I N.acy true (aqn) := aW (aY aoo (aY TV bn)) (by kernel_rfl) (by kernel_rfl) (by kernel_rfl) (by kernel_rfl) (cs := []) (by kernel_rfl) aK
theorem aqo : aV prog I N.acy true (zN bf) := okW arQ (Ew fun d l K hl0 h => by
 obtain ⟨x0, x1, x2, x3, x4, x5, x6, x7, x8, x9, x10, x11, x12⟩ := d
 have h0 : (true && (true && (true && (true && (true && ((Cc.sl ah).vG x5 && (true && (true && (true && (true && (true && (true && (Cc.sl ah).vG x12)))))))))))) = true := h
 try simp only [Bool.true_and, Bool.and_true, Bool.and_eq_true] at h0
 have c5 := h0.1
 have c12 := h0.2
 have w0 : gV.w (x0, x1, x2, x3, x4, x5) = (0 + (0 + (0 + (0 + (0 + (Cc.sl ah).w x5))))) := rfl
 have w10 : aB.w (x10, x11, x12) = (0 + (0 + (Cc.sl ah).w x12)) := rfl
 have e : aqn [.a (bf.cells .no (x0, x1, x2, x3, x4, x5, x6, x7, x8, x9, x10, x11, x12)), .s (.int .i64 l)] K = (bif lX l && gV.vG (x0, x1, x2, x3, x4, x5) then (bif decide (kZ (gV.w (x0, x1, x2, x3, x4, x5)) l < 0) then K (sc (-1), []) else (bif lX (kZ (gV.w (x0, x1, x2, x3, x4, x5)) l) && aB.vG (x10, x11, x12) then (bif decide (kZ (aB.w (x10, x11, x12)) (kZ (gV.w (x0, x1, x2, x3, x4, x5)) l) < 0) then K (sc (-1), []) else K (sc (kZ (aB.w (x10, x11, x12)) (kZ (gV.w (x0, x1, x2, x3, x4, x5)) l)), [])) else none)) else none) := by kernel_rfl
 have hw : (gV.w (x0, x1, x2, x3, x4, x5) + (aB.w (x10, x11, x12) + 0)) = bf.w (x0, x1, x2, x3, x4, x5, x6, x7, x8, x9, x10, x11, x12) := by
  show (gV.w (x0, x1, x2, x3, x4, x5) + (aB.w (x10, x11, x12) + 0)) = (0 + (0 + (0 + (0 + (0 + ((Cc.sl ah).w x5 + (0 + (0 + (0 + (0 + (0 + (0 + (Cc.sl ah).w x12))))))))))))
  omega
 refine (e.trans (pR (K := fun n => K (sc n, [])) (w2 := (aB.w (x10, x11, x12) + 0)) (wt := (gV.w (x0, x1, x2, x3, x4, x5) + (aB.w (x10, x11, x12) + 0))) hl0 (show (true && (true && (true && (true && (true && (Cc.sl ah).vG x5))))) = true by simp only [c5, Bool.and_self]) rfl (fun hl1 => pR (K := fun n => K (sc n, [])) (w2 := 0) (wt := (aB.w (x10, x11, x12) + 0)) hl1 (show (true && (true && (Cc.sl ah).vG x12)) = true by simp only [c12, Bool.and_self]) rfl (fun hl2 => OL (K := fun n => K (sc n, [])) hl2)))).trans ?_
 exact congrArg (fun n => K (sc (kZ n l), [])) hw)
noncomputable def arR := dL (En [(N.acz, true, su bf)] [] [(3, [0,3,4], [3], uz (aaI bf 18) (RTo bf 18))]) true F.QX
theorem aqp : aV prog I N.QX true arR := aW (aY aqk bn) (by kernel_rfl) (by kernel_rfl) (by kernel_rfl) (by kernel_rfl) (cs := [aS F.QX 3]) (by kernel_rfl) (dA (TS (r := bf) (n := 18) (by kernel_rfl) rfl rfl (fun m x0 x4 o0 K => by kernel_rfl)) aK)
theorem aos : aV prog I N.QX true (Et bf) := okW aqp (ap6 (n := 18) (sz := 136) (fun a K => by kernel_rfl) rfl)
noncomputable def arS := dL (En [(N.acw, true, sD bf)] [(6, takeB [0, 1, 2, 3, 4, 5, 6, 7] (.fork (.one 8 (takes [9]))), [])] [(4, [0,1,5], [4], uz (aaJ bf 21) (REq bf 21))]) true F.QY
theorem aqr : aV prog I N.QY true arS := aW (aY aqm bn) (by kernel_rfl) (by kernel_rfl) (by kernel_rfl) (by kernel_rfl) (cs := [aS F.QY 4]) (by kernel_rfl) (dA (acE (r := bf) (n := 21) (by kernel_rfl) rfl rfl (fun m x0 x1 x5 K => by kernel_rfl)) aK)
theorem aot : aV prog I N.QY true (OJ bf) := okW aqr (ap8 (fun a b K => by kernel_rfl))
noncomputable def arT := dL (En [(N.acy, true, zN bf)] [] [(5, [0,1,5], [1,4], uz (acF bf 21) (RSz bf 21))]) true F.QW
theorem aqs : aV prog I N.QW true arT := aW (aY aqo bn) (by kernel_rfl) (by kernel_rfl) (by kernel_rfl) (by kernel_rfl) (cs := [aS F.QW 5]) (by kernel_rfl) (dA (agV (r := bf) (n := 21) (by kernel_rfl) rfl rfl (fun m x0 x1 x5 K => by kernel_rfl)) aK)
theorem aou : aV prog I N.QW true (Eu bf) := okW aqs (arM (fun a k K => by kernel_rfl))
end Go.Ev.Seat
end
section
namespace Go.Ev.Seat
open Go.RowKit
set_option maxRecDepth 100000
set_option linter.unusedVariables false
set_option linter.unusedSimpArgs false
noncomputable def ajy := dL (En [(N.Vm, true, su bH), (N.QX, true, Et bf)] []) true F.Ox
theorem aov : aV prog I N.Ox true (ajy) := aW (aY aop (aY aos bn)) (by kernel_rfl) (by kernel_rfl) (by kernel_rfl) (by kernel_rfl) (cs := []) (by kernel_rfl) aK
theorem alZ : aV prog I N.Ox true (su eY) := okW aov (xC fun d K h => by
 obtain ⟨x0, x1, x2, x3, x4, x5, x6⟩ := d
 have h0 : ((Cc.sl ah).lim x0 && ((Cc.sl ah).lim x1 && ((Cc.sl aF).lim x2 && (true && ((Cc.sl aC).lim x4 && ((Cc.sl aH).lim x5 && (Cc.sl bf).lim x6)))))) = true := h
 try simp only [Bool.true_and, Bool.and_true, Bool.and_eq_true] at h0
 have c0 := h0.1
 have c1 := h0.2.1
 have c2 := h0.2.2.1
 have c4 := h0.2.2.2.1
 have c5 := h0.2.2.2.2.1
 have c6 := h0.2.2.2.2.2
 have e : ajy [.a (eY.cells .no (x0, x1, x2, x3, x4, x5, x6))] K = (bif bH.lim (x0, x1, x2, x3, x4, x5) then (bif (Cc.sl bf).lim x6 then K (.a (eY.cells .deep (x0, x1, x2, x3, x4, x5, x6)), []) else none) else none) := by kernel_rfl
 exact e.trans (jQ (show ((Cc.sl ah).lim x0 && ((Cc.sl ah).lim x1 && ((Cc.sl aF).lim x2 && (true && ((Cc.sl aC).lim x4 && (Cc.sl aH).lim x5))))) = true by simp only [c0, c1, c2, c4, c5, Bool.and_self]) (jQ c6 rfl)))
noncomputable def ajz := dL (En [(N.Vo, true, sD bH), (N.QY, true, OJ bf)] []) true F.Oz
theorem aow : aV prog I N.Oz true (ajz) := aW (aY aoq (aY aot bn)) (by kernel_rfl) (by kernel_rfl) (by kernel_rfl) (by kernel_rfl) (cs := []) (by kernel_rfl) aK
theorem al0 : aV prog I N.Oz true (sD eY) := okW aow (xE fun d e K h => by
 obtain ⟨x0, x1, x2, x3, x4, x5, x6⟩ := d
 obtain ⟨y0, y1, y2, y3, y4, y5, y6⟩ := e
 have h0 : ((Cc.sl ah).cnt x0 && ((Cc.sl ah).cnt x1 && ((Cc.sl aF).cnt x2 && (true && ((Cc.sl aC).cnt x4 && ((Cc.sl aH).cnt x5 && (Cc.sl bf).cnt x6)))))) = true := h
 try simp only [Bool.true_and, Bool.and_true, Bool.and_eq_true] at h0
 have c0 := h0.1
 have c1 := h0.2.1
 have c2 := h0.2.2.1
 have c4 := h0.2.2.2.1
 have c5 := h0.2.2.2.2.1
 have c6 := h0.2.2.2.2.2
 have e : ajz [.a (eY.cells .no (x0, x1, x2, x3, x4, x5, x6)), .a (eY.cells .no (y0, y1, y2, y3, y4, y5, y6))] K = (bif bH.cnt (x0, x1, x2, x3, x4, x5) then (bif !(DL ((x0, x1, x2, x3, x4, x5) : bH.T) (y0, y1, y2, y3, y4, y5)) then K (bl false, []) else (bif (Cc.sl bf).cnt x6 then (bif !(DL x6 y6) then K (bl false, []) else K (bl true, [])) else none)) else none) := by kernel_rfl
 exact e.trans (agQ (show ((Cc.sl ah).cnt x0 && ((Cc.sl ah).cnt x1 && ((Cc.sl aF).cnt x2 && (true && ((Cc.sl aC).cnt x4 && (Cc.sl aH).cnt x5))))) = true by simp only [c0, c1, c2, c4, c5, Bool.and_self]) ⟨fun h => by cases h; exact ⟨rfl, rfl⟩, fun h => by obtain ⟨h1, h2⟩ := h; cases h1; cases h2; rfl⟩ (Jm c6)))
noncomputable def ajA := dL (En [(N.Vl, true, zN bH), (N.QW, true, Eu bf)] []) true F.Ov
theorem aox : aV prog I N.Ov true (ajA) := aW (aY aor (aY aou bn)) (by kernel_rfl) (by kernel_rfl) (by kernel_rfl) (by kernel_rfl) (cs := []) (by kernel_rfl) aK
theorem al1 : aV prog I N.Ov true (zN eY) := okW aox (Ew fun d l K hl0 h => by
 obtain ⟨x0, x1, x2, x3, x4, x5, x6⟩ := d
 have h0 : ((Cc.sl ah).vG x0 && ((Cc.sl ah).vG x1 && ((Cc.sl aF).vG x2 && (true && ((Cc.sl aC).vG x4 && ((Cc.sl aH).vG x5 && (Cc.sl bf).vG x6)))))) = true := h
 try simp only [Bool.true_and, Bool.and_true, Bool.and_eq_true] at h0
 have c0 := h0.1
 have c1 := h0.2.1
 have c2 := h0.2.2.1
 have c4 := h0.2.2.2.1
 have c5 := h0.2.2.2.2.1
 have c6 := h0.2.2.2.2.2
 have w0 : bH.w (x0, x1, x2, x3, x4, x5) = ((Cc.sl ah).w x0 + ((Cc.sl ah).w x1 + ((Cc.sl aF).w x2 + (0 + ((Cc.sl aC).w x4 + (Cc.sl aH).w x5))))) := rfl
 have e : ajA [.a (eY.cells .no (x0, x1, x2, x3, x4, x5, x6)), .s (.int .i64 l)] K = (bif lX l && bH.vG (x0, x1, x2, x3, x4, x5) then (bif decide (kZ (bH.w (x0, x1, x2, x3, x4, x5)) l < 0) then K (sc (-1), []) else (bif lX (kZ (bH.w (x0, x1, x2, x3, x4, x5)) l) && (Cc.sl bf).vG x6 then (bif decide (kZ ((Cc.sl bf).w x6) (kZ (bH.w (x0, x1, x2, x3, x4, x5)) l) < 0) then K (sc (-1), []) else K (sc (kZ ((Cc.sl bf).w x6) (kZ (bH.w (x0, x1, x2, x3, x4, x5)) l)), [])) else none)) else none) := by kernel_rfl
 have hw : (bH.w (x0, x1, x2, x3, x4, x5) + ((Cc.sl bf).w x6 + 0)) = eY.w (x0, x1, x2, x3, x4, x5, x6) := by
  show (bH.w (x0, x1, x2, x3, x4, x5) + ((Cc.sl bf).w x6 + 0)) = ((Cc.sl ah).w x0 + ((Cc.sl ah).w x1 + ((Cc.sl aF).w x2 + (0 + ((Cc.sl aC).w x4 + ((Cc.sl aH).w x5 + (Cc.sl bf).w x6))))))
  omega
 refine (e.trans (pR (K := fun n => K (sc n, [])) (w2 := ((Cc.sl bf).w x6 + 0)) (wt := (bH.w (x0, x1, x2, x3, x4, x5) + ((Cc.sl bf).w x6 + 0))) hl0 (show ((Cc.sl ah).vG x0 && ((Cc.sl ah).vG x1 && ((Cc.sl aF).vG x2 && (true && ((Cc.sl aC).vG x4 && (Cc.sl aH).vG x5))))) = true by simp only [c0, c1, c2, c4, c5, Bool.and_self]) rfl (fun hl1 => pR (K := fun n => K (sc n, [])) (w2 := 0) (wt := ((Cc.sl bf).w x6 + 0)) hl1 c6 rfl (fun hl2 => OL (K := fun n => K (sc n, [])) hl2)))).trans ?_
 exact congrArg (fun n => K (sc (kZ n l), [])) hw)
end Go.Ev.Seat
end
section
set_option linter.unusedVariables false
namespace Go.Ev
inductive Ak where
 | sc1 (k : Cc)
 | a (r : Rw)
 | l (r : Rw)
 | i
 | b
 | sh (s : Sh)
abbrev Ak.T : Ak → Type
 | .a r => r.T
 | .l r => List r.T
 | .i => Int
 | .b => Bool
 | .sc1 k => k.T
 | .sh s => s.T
def Ak.v : (k : Ak) → k.T → V
 | .a r, d => .a (r.cells .no d)
 | .l r, d => .l .no r d
 | .i, n => .s (.int .i64 n)
 | .b, c => .s (.bool c)
 | .sc1 k, d => k.cell .no d
 | .sh s, d => s.mk d
def Ak.dec : (k : Ak) → V → Option k.T
 | .a r, .a cs => r.dec cs
 | .l r, v => (Cc.sl r).dec v
 | .i, .s (.int .i64 n) => some n
 | .b, .s (.bool c) => some c
 | .sc1 k, v => k.dec v
 | .sh s, v => s.un v
 | _, _ => none
theorem Ak.iV : (k : Ak) → {v : V} → {d : k.T} → k.dec v = some d → v = k.v d
 | .a r, v, d, h => by
  cases v with
  | a cs => simp only [Ak.dec] at h; rw [Rw.iV r h]; rfl
  | _ => simp [Ak.dec] at h
 | .l r, v, d, h => by
  have h' : (Cc.sl r).dec v = some d := by
   cases v <;> simpa [Ak.dec] using h
  rw [Cc.iV (.sl r) h']; rfl
 | .i, v, d, h => by
  cases v with
  | s u =>
   cases u with
   | int k n => cases k <;> simp [Ak.dec] at h <;> subst h <;> rfl
   | _ => simp [Ak.dec] at h
  | _ => simp [Ak.dec] at h
 | .sc1 k, v, d, h => by
  have h' : k.dec v = some d := by
   cases v <;> simpa [Ak.dec] using h
  exact Cc.iV k h'
 | .sh s, v, d, h => by
  have h' : s.un v = some d := by
   cases v <;> simpa [Ak.dec] using h
  exact Sh.dY s h'
 | .b, v, d, h => by
  cases v with
  | s u =>
   cases u with
   | bool c => simp [Ak.dec] at h; subst h; rfl
   | _ => simp [Ak.dec] at h
  | _ => simp [Ak.dec] at h
abbrev SgT : List Ak → Type
 | [] => Unit
 | k :: ks => k.T × SgT ks
def sgV : (ks : List Ak) → SgT ks → List V
 | [], _ => []
 | k :: ks, d => k.v d.1 :: sgV ks d.2
def sgD : (ks : List Ak) → List V → Option (SgT ks)
 | [], [] => some ()
 | k :: ks, v :: vs => match k.dec v with
  | some d => match sgD ks vs with
   | some e => some (d, e)
   | none => none
  | none => none
 | _, _ => none
theorem al2 : (ks : List Ak) → {vs : List V} → {d : SgT ks} → sgD ks vs = some d → vs = sgV ks d
 | [], [], d, h => rfl
 | [], _ :: _, d, h => by simp [sgD] at h
 | k :: ks, [], d, h => by simp [sgD] at h
 | k :: ks, v :: vs, d, h => by
  simp only [sgD] at h
  split at h
  ·rename_i d1 e1
   split at h
   ·rename_i d2 e2
    cases h
    rw [Ak.iV k e1, al2 ks e2]; rfl
   ·cases h
  ·cases h
def arU (ks : List Ak) (pre : SgT ks → Bool) (f : SgT ks → V) : Sm := fun vs K => match sgD ks vs with
 | some d => bif pre d then K (f d, []) else none
 | none => none
mutual
theorem Cc.Gx : (c : Cc) → (d : c.T) → c.wf d → c.vG d = true
 | .int _, _, _ => rfl
 | .bool, _, _ => rfl
 | .str, _, _ => rfl
 | .sl r, xs, h => by
  simp only [Cc.vG, Bool.and_eq_true, List.all_eq_true]
  exact ⟨Nat.ble_eq_true_of_le h.1, fun x hx => Rw.Gx r x (h.2 x hx)⟩
theorem Rw.Gx : (r : Rw) → (d : r.T) → r.wf d → r.vG d = true
 | .one c, d, h => Cc.Gx c d h
 | .cons c r, d, h => by
  simp only [Rw.vG, Bool.and_eq_true]
  exact ⟨Cc.Gx c d.1 h.1, Rw.Gx r d.2 h.2⟩
end
mutual
def Cc.mx : Cc → Bool
 | .sl r => Nat.ble r.sc 32 && r.mx
 | _ => true
def Rw.mx : Rw → Bool
 | .one c => c.mx
 | .cons c r => c.mx && r.mx
def Cc.sc : Cc → Nat
 | .sl _ => 0
 | _ => 1
def Rw.sc : Rw → Nat
 | .one c => c.sc
 | .cons c r => c.sc + r.sc
end
mutual
theorem Cc.La : (c : Cc) → c.mx = true → (d : c.T) → c.marks d ≤ c.sc + 32 * c.w d
 | .int _, _, _ => by simp [Cc.marks, Cc.sc, Cc.w]
 | .bool, _, _ => by simp [Cc.marks, Cc.sc, Cc.w]
 | .str, _, d => by simp only [Cc.marks, Cc.sc, Cc.w]; omega
 | .sl r, h, xs => by
  simp only [Cc.mx, Bool.and_eq_true] at h
  have h1 : r.sc ≤ 32 := Nat.le_of_ble_eq_true h.1
  have key : ∀ ys : List r.T, sumW r.marks ys ≤ 32 * (ys.length + sumW r.w ys) := by
   intro ys
   induction ys with
   | nil => simp [sumW]
   | cons y ys ih =>
    have := Rw.La r h.2 y
    simp only [sumW, List.length_cons]
    omega
  simp only [Cc.marks, Cc.sc, Cc.w]
  have := key xs
  omega
theorem Rw.La : (r : Rw) → r.mx = true → (d : r.T) → r.marks d ≤ r.sc + 32 * r.w d
 | .one c, h, d => Cc.La c h d
 | .cons c r, h, d => by
  simp only [Rw.mx, Bool.and_eq_true] at h
  have h1 := Cc.La c h.1 d.1
  have h2 := Rw.La r h.2 d.2
  simp only [Rw.marks, Rw.sc, Rw.w]
  omega
end
theorem Cc.Lc : (c : Cc) → c.mx = true → (d : c.T) → c.Hw d ≤ 32 * c.w d
 | .int _, _, _ => by simp [Cc.Hw]
 | .bool, _, _ => by simp [Cc.Hw]
 | .str, _, d => by simp [Cc.Hw]
 | .sl r, h, xs => by
  have := Cc.La (.sl r) h xs
  simp only [Cc.sc, Nat.zero_add] at this
  exact this
theorem Rw.Lc : (r : Rw) → r.mx = true → (d : r.T) → r.Hw d ≤ 32 * r.w d
 | .one c, h, d => Cc.Lc c h d
 | .cons c r, h, d => by
  simp only [Rw.mx, Bool.and_eq_true] at h
  have h1 := Cc.Lc c h.1 d.1
  have h2 := Rw.Lc r h.2 d.2
  simp only [Rw.Hw, Rw.w]
  omega
mutual
theorem Cc.OT : (c : Cc) → (d : c.T) → c.w d ≤ 4611686018427387904 → c.cnt d = true
 | .int _, _, _ => rfl
 | .bool, _, _ => rfl
 | .str, _, _ => rfl
 | .sl r, xs, h => by
  simp only [Cc.w] at h
  simp only [Cc.cnt, Bool.and_eq_true, List.all_eq_true]
  refine ⟨Nat.ble_eq_true_of_le (by omega), fun x hx => ?_⟩
  have := acB (f := r.w) hx
  exact Rw.OT r x (by omega)
theorem Rw.OT : (r : Rw) → (d : r.T) → r.w d ≤ 4611686018427387904 → r.cnt d = true
 | .one c, d, h => Cc.OT c d h
 | .cons c r, d, h => by
  simp only [Rw.w] at h
  simp only [Rw.cnt, Bool.and_eq_true]
  exact ⟨Cc.OT c d.1 (by omega), Rw.OT r d.2 (by omega)⟩
end
mutual
theorem Cc.acN (T : CU) : (c : Cc) → (d : c.T) → (k : Int) → c.cnt (c.mark T d k).1 = c.cnt d
 | .int _, _, _ => rfl
 | .bool, _, _ => rfl
 | .str, _, _ => rfl
 | .sl r, xs, k => by
  simp only [Cc.cnt, Cc.mark, VB]
  have key : ∀ (xs : List r.T) (k : Int), (kQ (r.mark T) xs k).1.all r.cnt = xs.all r.cnt := by
   intro xs
   induction xs with
   | nil => intro k; rfl
   | cons x xs ih =>
    intro k
    simp only [kQ, List.all_cons]
    rw [ih, Rw.acN T r x k]
  rw [key]
theorem Rw.acN (T : CU) : (r : Rw) → (d : r.T) → (k : Int) → r.cnt (r.mark T d k).1 = r.cnt d
 | .one c, d, k => Cc.acN T c d k
 | .cons c r, d, k => by simp only [Rw.cnt, Rw.mark]; rw [Cc.acN T c, Rw.acN T r]
end
mutual
theorem Cc.HY (T : CU) : (c : Cc) → (d : c.T) → (k : Int) → c.marks (c.mark T d k).1 = c.marks d
 | .int _, _, _ => rfl
 | .bool, _, _ => rfl
 | .str, _, _ => rfl
 | .sl r, xs, k => by
  have key : ∀ (xs : List r.T) (k : Int), sumW r.marks (kQ (r.mark T) xs k).1 = sumW r.marks xs := by
   intro xs
   induction xs with
   | nil => intro k; rfl
   | cons x xs ih =>
    intro k
    simp only [kQ, sumW]
    rw [ih, Rw.HY T r x k]
  exact key xs k
theorem Rw.HY (T : CU) : (r : Rw) → (d : r.T) → (k : Int) → r.marks (r.mark T d k).1 = r.marks d
 | .one c, d, k => Cc.HY T c d k
 | .cons c r, d, k => by simp only [Rw.marks, Rw.mark]; rw [Cc.HY T c, Rw.HY T r]
end
section
variable {ρ : Type}
theorem auc {b : Bool} {w : Nat} {l : Int} {Z A : Option ρ} (hl : lX l = true) (hb : b = true) (h : ¬ l - w < 0 → kZ w l = l - w → lX (kZ w l) = true → A = Z) : (bif lX l && b then (bif decide (kZ w l < 0) then Z else A) else none) = Z := by
 rw [hl, hb]
 simp only [lX, Bool.and_eq_true, decide_eq_true_eq] at hl
 by_cases e : l - w < 0
 ·rw [kZ, if_pos e]; rfl
 ·have e2 : kZ w l = l - w := if_neg e
  rw [e2] at h ⊢
  rw [decide_eq_false e]
  refine h e rfl ?_
  unfold lX
  rw [decide_eq_true (show 0 ≤ l - (w : Int) by omega), decide_eq_true (show l - (w : Int) ≤ 4611686018427387904 by omega)]; rfl
theorem aud {α : Type} {x : α} {c : Bool} {F A Z : Option ρ} (hc : c = true) (h : A = Z) : (bif c then (bif !(DL x x) then F else A) else none) = Z := by
 rw [hc, xB]; exact h
theorem anw {x : Bool} {F A Z : Option ρ} (h : A = Z) : (bif !(x == x) then F else A) = Z := by
 rw [beq_self_eq_true]; exact h
end
end Go.Ev
end
section
set_option linter.unusedVariables false
namespace Go.Ev
def noC : V → V
 | .l _ r xs => .l .no r xs
 | v => v
def noV : V → V
 | .a cs => .a (cs.map noC)
 | v => noC v
def noR : V → V
 | .t us => .t (us.map noV)
 | u => noV u
section
variable {w : World}
theorem aqu {r : Rw} {xs : List r.T} {c : Value} {F M : List Nat} {e e' : Bool} (h : rY (gK w e r) w e' r.n xs c F) (hM : ∀ b ∈ F, b ∈ M) : VR (Cx.ext (· ∈ M)) w (.l .no r xs) c :=
 ⟨F, h.loose, hM⟩
theorem jd.no {v : V} {c : Value} {O M H : List Nat} (h : jd w v c O M H) : ∃ M', jd w (noC v) c [] M' [] ∧ ∀ x ∈ M', x ∈ M ∨ x ∈ O := by
 unfold jd at h
 split at h
 ·rename_i r xs
  obtain ⟨h1, _, _⟩ := h
  exact ⟨O, jd.plain (aqu h1 (fun _ h => h)) (by simp [noC]) (by simp [noC]) (by simp [noC]), fun x hx => .inr hx⟩
 ·rename_i r xs
  obtain ⟨F, h1, rfl, rfl, _⟩ := h
  refine ⟨F, jd.plain (aqu h1 (fun _ h => h)) (by simp [noC]) (by simp [noC]) (by simp [noC]), fun x hx => ?_⟩
  cases F with
  | nil => cases hx
  | cons b F =>
   rcases List.mem_cons.1 hx with rfl | hx
   ·exact .inr (by simp)
   ·exact .inl (by simpa using hx)
 ·rename_i r xs
  obtain ⟨h1, _, _⟩ := h
  exact ⟨O, jd.plain (aqu h1 (fun _ h => h)) (by simp [noC]) (by simp [noC]) (by simp [noC]), fun x hx => .inr hx⟩
 ·rename_i n1 n2 n3
  obtain ⟨h1, _, _⟩ := h
  cases v with
  | l o r xs =>
   cases o with
   | no => exact ⟨M, jd.plain h1 (by simp [noC]) (by simp [noC]) (by simp [noC]), fun x hx => .inl hx⟩
   | deep => exact absurd rfl (n1 _ _)
   | top => exact absurd rfl (n2 _ _)
   | own => exact absurd rfl (n3 _ _)
  | _ => exact ⟨M, jd.plain h1 (by simp [noC]) (by simp [noC]) (by simp [noC]), fun x hx => .inl hx⟩
theorem iq.no : ∀ {cs : List V} {vs : List Value} {O M H : List Nat}, iq w cs vs O M H → ∃ M', iq w (cs.map noC) vs [] M' [] ∧ ∀ x ∈ M', x ∈ M ∨ x ∈ O
 | [], _, _, _, _, ⟨h1, h2, h3, h4⟩ => ⟨[], ⟨h1, rfl, rfl, rfl⟩, fun _ h => (nomatch h)⟩
 | c :: cs, _, _, _, _, ⟨v, vs', O1, O2, M1, M2, H1, H2, h1, h2, h3, h4, h5, h6⟩ => by
  obtain ⟨A, a1, a2⟩ := h5.no
  obtain ⟨B, b1, b2⟩ := iq.no h6
  refine ⟨A ++ B, ⟨v, vs', [], [], A, B, [], [], h1, rfl, rfl, rfl, a1, b1⟩, fun x hx => ?_⟩
  rw [h2, h3]
  rcases List.mem_append.1 hx with hx | hx
  ·rcases a2 x hx with h | h
   ·exact .inl (List.mem_append.2 (.inl h))
   ·exact .inr (List.mem_append.2 (.inl h))
  ·rcases b2 x hx with h | h
   ·exact .inl (List.mem_append.2 (.inr h))
   ·exact .inr (List.mem_append.2 (.inr h))
def V.aqv : V → Bool
 | .io _ => true
 | _ => false
theorem tZ.no {v : V} {c : Value} {O M H : List Nat} (h : tZ w v c O M H) (hv : v.aqv = false) : ∃ M', tZ w (noV v) c [] M' [] ∧ ∀ x ∈ M', x ∈ M ∨ x ∈ O := by
 unfold tZ at h
 split at h
 ·cases hv
 ·rename_i cs
  obtain ⟨vs, rfl, h2⟩ := h
  obtain ⟨M', a1, a2⟩ := h2.no
  exact ⟨M', ⟨vs, rfl, a1⟩, a2⟩
 ·rename_i n1 n2
  obtain ⟨M', a1, a2⟩ := h.no
  refine ⟨M', ?_, a2⟩
  cases v with
  | a cs => exact absurd rfl (n2 _)
  | io cs => exact absurd rfl (n1 _)
  | _ => exact a1
theorem jr.no : ∀ {us : List V} {vs : List Value} {O M H : List Nat}, jr w us vs O M H → us.all (fun u => !u.aqv) = true → ∃ M', jr w (us.map noV) vs [] M' [] ∧ ∀ x ∈ M', x ∈ M ∨ x ∈ O
 | [], _, _, _, _, ⟨h1, h2, h3, h4⟩, _ => ⟨[], ⟨h1, rfl, rfl, rfl⟩, fun _ h => (nomatch h)⟩
 | c :: cs, _, _, _, _, ⟨v, vs', O1, O2, M1, M2, H1, H2, h1, h2, h3, h4, h5, h6⟩, hi => by
  simp only [List.all_cons, Bool.and_eq_true, Bool.not_eq_true'] at hi
  obtain ⟨A, a1, a2⟩ := h5.no hi.1
  obtain ⟨B, b1, b2⟩ := jr.no h6 hi.2
  refine ⟨A ++ B, ⟨v, vs', [], [], A, B, [], [], h1, rfl, rfl, rfl, a1, b1⟩, fun x hx => ?_⟩
  rw [h2, h3]
  rcases List.mem_append.1 hx with hx | hx
  ·rcases a2 x hx with h | h
   ·exact .inl (List.mem_append.2 (.inl h))
   ·exact .inr (List.mem_append.2 (.inl h))
  ·rcases b2 x hx with h | h
   ·exact .inl (List.mem_append.2 (.inr h))
   ·exact .inr (List.mem_append.2 (.inr h))
def V.aqw : V → Bool
 | .t us => us.all (fun u => !u.aqv)
 | u => !u.aqv
theorem JQ.no {u : V} {c : Value} {O M H : List Nat} (h : JQ w u c O M H) (hu : u.aqw = true) : ∃ M', JQ w (noR u) c [] M' [] ∧ ∀ x ∈ M', x ∈ M ∨ x ∈ O := by
 unfold JQ at h
 split at h
 ·obtain ⟨vs, rfl, h2⟩ := h
  obtain ⟨M', a1, a2⟩ := h2.no hu
  exact ⟨M', ⟨vs, rfl, a1⟩, a2⟩
 ·rename_i n1
  cases u with
  | t us => exact absurd rfl (n1 _)
  | io cs => simp [V.aqw, V.aqv] at hu
  | a cs =>
   obtain ⟨M', a1, a2⟩ := tZ.no h rfl
   exact ⟨M', a1, a2⟩
  | l o r xs =>
   obtain ⟨M', a1, a2⟩ := tZ.no h rfl
   exact ⟨M', a1, a2⟩
  | _ =>
   obtain ⟨M', a1, a2⟩ := tZ.no h rfl
   exact ⟨M', a1, a2⟩
end
theorem jr.aue {w : World} {us : List V} {vs : List Value} {O M H : List Nat} (h : jr w us vs O M H) : ∀ x ∈ H, x ∈ O := h.hsub
def avt (G : Sm) : Sm := fun ws K => G ws fun q => bif q.1.aqw then K (noR q.1, q.2) else none
theorem aV.no {P : Program} {I : Nat → World → Prop} {g : FuncId} {f : Bool} {G : Sm} (h : aV P I g f G) : aV P I g false (avt G) := by
 refine ⟨h.1, fun ws K r hr B0 w0 w N vs O M H hI hb hB hA hnd hO hM hH hN => ?_⟩
 refine Calls.mono (h.2 ws _ r hr B0 w0 w N vs O M H hI hb hB hA hnd hO hM hH hN) (fun e w' he => ?_)
 cases e with
 | returned c =>
  obtain ⟨q, hq, hk⟩ := he
  cases ho : q.1.aqw with
  | false => simp only [ho, cond_false] at hq; cases hq
  | true =>
   simp only [ho, cond_true] at hq
   refine ⟨_, hq, ?_⟩
   obtain ⟨⟨O1, M1, H1, O2, M2, H2, e1, e2, e3, e4, e5, e6⟩, k2, k3, k4⟩ := hk
   obtain ⟨M', a1, a2⟩ := e1.no ho
   refine ⟨⟨[], M', [], O2, M2, H2, a1, e2, ?_, fun x hx => e4 x (List.mem_append.2 (.inr (by simpa using hx))), fun x hx => ?_, fun x hx => ?_⟩, k2, k3, k4⟩
   ·exact (List.nodup_append.1 e3).2.1
   ·rcases List.mem_append.1 hx with hx | hx
    ·rcases a2 x hx with hx | hx
     ·obtain ⟨g1, g2, _⟩ := e5 x (List.mem_append.2 (.inl hx))
      exact ⟨g1, g2, fun h => by cases h⟩
     ·obtain ⟨g1, g2⟩ := e4 x (List.mem_append.2 (.inl hx))
      exact ⟨.inr g1, g2, fun h => by cases h⟩
    ·obtain ⟨g1, g2, _⟩ := e5 x (List.mem_append.2 (.inr hx))
     exact ⟨g1, g2, fun h => by cases h⟩
   ·have hx' : x ∈ H2 := by simpa using hx
    obtain ⟨g1, g2⟩ := e6 x (List.mem_append.2 (.inr hx'))
    refine ⟨fun hm => ?_, g2⟩
    rcases List.mem_append.1 hm with hm | hm
    ·rcases a2 x hm with hm | hm
     ·exact g1 (List.mem_append.2 (.inl hm))
     ·exact (List.nodup_append.1 e3).2.2 x hm x (e2.aue x hx') rfl
    ·exact g1 (List.mem_append.2 (.inr hm))
 | _ => exact he
end Go.Ev
end
section
set_option linter.unusedVariables false
namespace Go.Ev
def Cc.nJ : (c : Cc) → V → Option c.T
 | .sl _, .nl => some []
 | c, v => c.dec v
def Rw.nJ : (r : Rw) → List V → Option r.T
 | .one c, [v] => c.nJ v
 | .cons c r, v :: vs => match c.nJ v with
  | some d => match r.nJ vs with
   | some e => some (d, e)
   | none => none
  | none => none
 | _, _ => none
def Ak.nJ : (k : Ak) → V → Option k.T
 | .a r, .a cs => r.nJ cs
 | .l r, v => (Cc.sl r).nJ v
 | k, v => k.dec v
def sgN : (ks : List Ak) → List V → Option (SgT ks)
 | [], [] => some ()
 | k :: ks, v :: vs => match k.nJ v with
  | some d => match sgN ks vs with
   | some e => some (d, e)
   | none => none
  | none => none
 | _, _ => none
section
variable {w : World}
theorem jd.nlN {r : Rw} {c : Value} {O M H : List Nat} (h : jd w .nl c O M H) : jd w (.l .no r []) c O M H := by
 obtain ⟨h1, h2, h3⟩ := h
 have h1' : c = .slice none 0 0 := h1
 exact ⟨⟨[], .inl ⟨rfl, rfl, none, 0, h1', fun _ => ⟨rfl, rfl⟩⟩, fun _ h => nomatch h⟩, h2, h3⟩
theorem Cc.ahc : (c : Cc) → {v : V} → {d : c.T} → c.nJ v = some d → (v = .nl ∧ ∃ r, c.cell .no d = .l .no r []) ∨ v = c.cell .no d
 | .sl r, v, d, h => by
  cases v with
  | nl =>
   have h' : (some [] : Option (List r.T)) = some d := h
   cases h'
   exact .inl ⟨rfl, r, rfl⟩
  | _ => exact .inr (Cc.iV (.sl r) h)
 | .int k, v, d, h => .inr (Cc.iV (.int k) (by cases v <;> simpa [Cc.nJ] using h))
 | .bool, v, d, h => .inr (Cc.iV .bool (by cases v <;> simpa [Cc.nJ] using h))
 | .str, v, d, h => .inr (Cc.iV .str (by cases v <;> simpa [Cc.nJ] using h))
theorem Cc.OU {c : Cc} {v : V} {d : c.T} (h : c.nJ v = some d) {x : Value} {O M H : List Nat} (hc : jd w v x O M H) : jd w (c.cell .no d) x O M H := by
 rcases Cc.ahc c h with ⟨rfl, r, e⟩ | e
 ·rw [e]; exact hc.nlN
 ·rw [← e]; exact hc
theorem Rw.OU : (r : Rw) → {cs : List V} → {d : r.T} → r.nJ cs = some d → ∀ {vs : List Value} {O M H : List Nat}, iq w cs vs O M H → iq w (r.cells .no d) vs O M H
 | .one c, cs, d, h, vs, O, M, H, hc => by
  match cs, h, hc with
  | [v], h, ⟨v1, vs', O1, O2, M1, M2, H1, H2, a1, a2, a3, a4, a5, a6⟩ =>
   exact ⟨v1, vs', O1, O2, M1, M2, H1, H2, a1, a2, a3, a4, Cc.OU (c := c) h a5, a6⟩
  | [], h, _ => simp [Rw.nJ] at h
  | _ :: _ :: _, h, _ => simp [Rw.nJ] at h
 | .cons c r, cs, d, h, vs, O, M, H, hc => by
  match cs, h, hc with
  | v :: us, h, ⟨v1, vs', O1, O2, M1, M2, H1, H2, a1, a2, a3, a4, a5, a6⟩ =>
   simp only [Rw.nJ] at h
   split at h
   ·rename_i d1 e1
    split at h
    ·rename_i d2 e2
     cases h
     exact ⟨v1, vs', O1, O2, M1, M2, H1, H2, a1, a2, a3, a4, Cc.OU (c := c) e1 a5, Rw.OU r e2 a6⟩
    ·cases h
   ·cases h
  | [], h, _ => simp [Rw.nJ] at h
theorem af6 {v : V} (h : ∀ cs, v ≠ .a cs) (h2 : ∀ cs, v ≠ .io cs) {x : Value} {O M H : List Nat} : tZ w v x O M H ↔ jd w v x O M H := by
 cases v with
 | a cs => exact absurd rfl (h cs)
 | io cs => exact absurd rfl (h2 cs)
 | _ => exact Iff.rfl
theorem Ak.OU : (k : Ak) → {v : V} → {d : k.T} → k.nJ v = some d → ∀ {x : Value} {O M H : List Nat}, tZ w v x O M H → tZ w (k.v d) x O M H
 | .a r, v, d, h, x, O, M, H, ha => by
  cases v with
  | a cs =>
   obtain ⟨vs, h1, h2⟩ := ha
   exact ⟨vs, h1, Rw.OU r h h2⟩
  | _ => simp [Ak.nJ, Ak.dec] at h
 | .l r, v, d, h, x, O, M, H, ha => by
  have h' : (Cc.sl r).nJ v = some d := by cases v <;> simpa [Ak.nJ] using h
  have hv : (∀ cs, v ≠ .a cs) ∧ (∀ cs, v ≠ .io cs) := by
   cases v with
   | a cs => simp [Cc.nJ, Cc.dec] at h'
   | io cs => simp [Cc.nJ, Cc.dec] at h'
   | _ => exact ⟨fun _ h => (nomatch h), fun _ h => (nomatch h)⟩
  exact (af6 (v := V.l .no r d) (fun _ h => nomatch h) (fun _ h => nomatch h)).2 (Cc.OU (c := .sl r) h' ((af6 hv.1 hv.2).1 ha))
 | .i, v, d, h, x, O, M, H, ha => by
  have h' : Ak.dec .i v = some d := by cases v <;> simpa [Ak.nJ] using h
  rw [Ak.iV .i h'] at ha; exact ha
 | .b, v, d, h, x, O, M, H, ha => by
  have h' : Ak.dec .b v = some d := by cases v <;> simpa [Ak.nJ] using h
  rw [Ak.iV .b h'] at ha; exact ha
 | .sc1 k, v, d, h, x, O, M, H, ha => by
  have h' : Ak.dec (.sc1 k) v = some d := by cases v <;> simpa [Ak.nJ] using h
  rw [Ak.iV (.sc1 k) h'] at ha; exact ha
 | .sh s, v, d, h, x, O, M, H, ha => by
  have h' : Ak.dec (.sh s) v = some d := by cases v <;> simpa [Ak.nJ] using h
  rw [Ak.iV (.sh s) h'] at ha; exact ha
theorem TW (c : Cc) (d : c.T) : (c.cell .no d).U9 = false := by cases c <;> rfl
theorem ZQ : (r : Rw) → (d : r.T) → (r.cells .no d).any V.U9 = false
 | .one c, d => by simp [Rw.cells, TW]
 | .cons c r, d => by simp only [Rw.cells, List.any_cons, TW, ZQ r, Bool.or_self]
theorem Cc.OV {c : Cc} {v : V} {d : c.T} (h : c.nJ v = some d) : v.U9 = false := by
 rcases Cc.ahc c h with ⟨rfl, _⟩ | e
 ·rfl
 ·rw [e]; exact TW c d
theorem Rw.OV : (r : Rw) → {cs : List V} → {d : r.T} → r.nJ cs = some d → cs.any V.U9 = false
 | .one c, cs, d, h => by
  match cs, h with
  | [v], h => simp only [List.any_cons, List.any_nil, Bool.or_false]; exact Cc.OV (c := c) h
  | [], h => simp [Rw.nJ] at h
  | _ :: _ :: _, h => simp [Rw.nJ] at h
 | .cons c r, cs, d, h => by
  match cs, h with
  | v :: us, h =>
   simp only [Rw.nJ] at h
   split at h
   ·rename_i d1 e1
    split at h
    ·rename_i d2 e2
     simp only [List.any_cons, Cc.OV (c := c) e1, Rw.OV r e2, Bool.or_self]
    ·cases h
   ·cases h
  | [], h => simp [Rw.nJ] at h
theorem Ak.aoy (k : Ak) {v : V} {d : k.T} (h : k.nJ v = some d) : v.back = (k.v d).back := by
 cases k with
 | a r =>
  cases v with
  | a cs =>
   have h' : r.nJ cs = some d := h
   show cs.any V.U9 = (r.cells .no d).any V.U9
   rw [Rw.OV r h', ZQ]
  | _ => simp [Ak.nJ, Ak.dec] at h
 | l r =>
  have h' : (Cc.sl r).nJ v = some d := by cases v <;> simpa [Ak.nJ] using h
  rcases Cc.ahc (.sl r) h' with ⟨rfl, _⟩ | e
  ·rfl
  ·rw [e]; rfl
 | i =>
  have h' : Ak.dec .i v = some d := by cases v <;> simpa [Ak.nJ] using h
  rw [Ak.iV .i h']
 | b =>
  have h' : Ak.dec .b v = some d := by cases v <;> simpa [Ak.nJ] using h
  rw [Ak.iV .b h']
 | sc1 k =>
  have h' : Ak.dec (.sc1 k) v = some d := by cases v <;> simpa [Ak.nJ] using h
  rw [Ak.iV (.sc1 k) h']
 | sh s =>
  have h' : Ak.dec (.sh s) v = some d := by cases v <;> simpa [Ak.nJ] using h
  rw [Ak.iV (.sh s) h']
end
def af7 (ws ws' : List V) : Prop := (∀ (w : World) (vs : List Value) (O M H : List Nat), jr w ws vs O M H → jr w ws' vs O M H) ∧ ∀ (vs : List Value), ptrs ws vs = ptrs ws' vs
theorem af7.rfl' (ws : List V) : af7 ws ws := ⟨fun _ _ _ _ _ h => h, fun _ => rfl⟩
theorem aqx : (ks : List Ak) → {ws : List V} → {d : SgT ks} → sgN ks ws = some d → af7 ws (sgV ks d)
 | [], [], d, h => af7.rfl' _
 | [], _ :: _, d, h => by simp [sgN] at h
 | k :: ks, [], d, h => by simp [sgN] at h
 | k :: ks, v :: ws, d, h => by
  simp only [sgN] at h
  split at h
  ·rename_i d1 e1
   split at h
   ·rename_i d2 e2
    cases h
    have ih := aqx ks e2
    refine ⟨fun w vs O M H ⟨x, xs, O1, O2, M1, M2, H1, H2, a1, a2, a3, a4, a5, a6⟩ => ⟨x, xs, O1, O2, M1, M2, H1, H2, a1, a2, a3, a4, Ak.OU k e1 a5, ih.1 w xs O2 M2 H2 a6⟩, fun vs => ?_⟩
    show ptrs (v :: ws) vs = ptrs (k.v d1 :: sgV ks d2) vs
    cases vs with
    | nil => rfl
    | cons x xs => simp only [ptrs, Ak.aoy k e1, ih.2 xs]
   ·cases h
  ·cases h
theorem kD {P : Program} {I : Nat → World → Prop} {g : FuncId} {f : Bool} {S G : Sm} (hG : aV P I g f G) (h : ∀ ws K q, S ws K = some q → ∃ ws', af7 ws ws' ∧ G ws' K = some q) : aV P I g f S :=
 ⟨hG.1, fun ws K r hr B0 w0 w N vs O M H hI hb hB hA => by
  obtain ⟨ws', hn, h3⟩ := h ws K r hr
  have := hG.2 ws' K r h3 B0 w0 w N vs O M H hI hb hB (hn.1 w vs O M H hA)
  rw [hn.2 vs]
  exact this⟩
def noK (K : aj → Option aj) : aj → Option aj := fun q => bif q.1.aqw then K (noR q.1, q.2) else none
def bg (ks : List Ak) (pre : SgT ks → Bool) (f : SgT ks → aj) : Sm := fun vs K => match sgN ks vs with
 | some d => bif pre d then K (f d) else none
 | none => none
theorem aI {ks : List Ak} {pre : SgT ks → Bool} {f : SgT ks → aj} {G : Sm} (h : ∀ d K, pre d = true → G (sgV ks d) K = K (f d)) : ∀ ws K q, bg ks pre f ws K = some q → ∃ ws', af7 ws ws' ∧ G ws' K = some q := by
 intro ws K q hr
 unfold bg at hr
 split at hr
 ·rename_i d hd
  cases hp : pre d with
  | false => rw [hp] at hr; cases hr
  | true => rw [hp] at hr; exact ⟨_, aqx ks hd, (h d K hp).trans hr⟩
 ·cases hr
end Go.Ev
end
section
set_option linter.unusedVariables false
namespace Go.Ev
open Go.RowKit
def isB (x : Int) : Bool := decide (0 ≤ x) && decide (x ≤ 255)
def aO (xs : List Int) : Bool := Nat.ble xs.length 1048576 && xs.all isB
theorem jW {xs : List Int} (h : aO xs = true) : xs.length ≤ 1048576 := by
 unfold aO at h; rw [Bool.and_eq_true] at h; exact Nat.le_of_ble_eq_true h.1
theorem mW {xs : List Int} (h : aO xs = true) {x : Int} (hx : x ∈ xs) : 0 ≤ x ∧ x ≤ 255 := by
 unfold aO at h; rw [Bool.and_eq_true, List.all_eq_true] at h
 have := h.2 x hx
 simpa [isB] using this
theorem Ap {xs : List Int} (h : aO xs = true) (i : Nat) : 0 ≤ xs.getD i 0 ∧ xs.getD i 0 ≤ 255 := by
 rw [List.getD_eq_getElem?_getD]
 rcases Nat.lt_or_ge i xs.length with hi | hi
 ·rw [List.getElem?_eq_getElem hi]; exact mW h (List.getElem_mem hi)
 ·rw [List.getElem?_eq_none hi]; simp
theorem anx {xs : List Int} (h1 : xs.length ≤ 1048576) (h2 : ∀ x ∈ xs, 0 ≤ x ∧ x ≤ 255) : aO xs = true := by
 unfold aO; rw [Bool.and_eq_true, List.all_eq_true]
 exact ⟨Nat.ble_eq_true_of_le h1, fun x hx => by simpa [isB] using h2 x hx⟩
theorem aqy {xs ys : List Int} (h : aO xs = true) (hl : ys.length ≤ xs.length) (hs : ∀ y ∈ ys, y ∈ xs) : aO ys = true :=
 anx (Nat.le_trans hl (jW h)) (fun y hy => mW h (hs y hy))
theorem og {xs : List Int} (h : aO xs = true) (n : Nat) : aO (xs.drop n) = true := aqy h (by simp) (fun y hy => List.mem_of_mem_drop hy)
theorem wrap64 {n : Nat} (h : n < 18446744073709551616) : IntKind.u64.wrap (n : Int) = n := by
 have e : IntKind.u64.wrap (n : Int) = (n : Int) % 18446744073709551616 := by
  simp only [IntKind.wrap, IntKind.bits, IntKind.signed]; simp
 rw [e]; omega
theorem Q7 (k n : Nat) : BitVec.ofInt k (n : Int) = BitVec.ofNat k n := by
 apply BitVec.eq_of_toNat_eq
 simp [BitVec.toNat_ofInt, BitVec.toNat_ofNat]
theorem OW {a b : Nat} (ha : a < 18446744073709551616) (hb : b < 18446744073709551616) : XT .u64 a b = ((a ||| b : Nat) : Int) := by
 unfold XT
 have e : (BitVec.ofInt IntKind.u64.bits (a : Int) ||| BitVec.ofInt IntKind.u64.bits (b : Int)).toNat = a ||| b := by
  show (BitVec.ofInt 64 (a : Int) ||| BitVec.ofInt 64 (b : Int)).toNat = _
  rw [Q7, Q7, BitVec.toNat_or, BitVec.toNat_ofNat, BitVec.toNat_ofNat, Nat.mod_eq_of_lt (by omega), Nat.mod_eq_of_lt (by omega)]
 rw [e]; exact wrap64 (Nat.or_lt_two_pow (n := 64) ha hb)
theorem al3 {a b : Nat} (ha : a < 18446744073709551616) (hb : b < 18446744073709551616) : band .u64 a b = ((a &&& b : Nat) : Int) := by
 unfold band
 have e : (BitVec.ofInt IntKind.u64.bits (a : Int) &&& BitVec.ofInt IntKind.u64.bits (b : Int)).toNat = a &&& b := by
  show (BitVec.ofInt 64 (a : Int) &&& BitVec.ofInt 64 (b : Int)).toNat = _
  rw [Q7, Q7, BitVec.toNat_and, BitVec.toNat_ofNat, BitVec.toNat_ofNat, Nat.mod_eq_of_lt (by omega), Nat.mod_eq_of_lt (by omega)]
 rw [e]; exact wrap64 (Nat.and_lt_two_pow (n := 64) a hb)
def M8 : Nat := 9259542123273814144
def asg : Bool := (List.range 256).all fun b => (List.range 8).all fun i => ((b * 2 ^ (8 * i)) &&& M8 == 0) == decide (b < 128)
theorem aqz : asg = true := by kernel_rfl
theorem ZR {b i : Nat} (hb : b < 256) (hi : i < 8) : (b * 2 ^ (8 * i)) &&& M8 = 0 ↔ b < 128 := by
 have h := aqz
 unfold asg at h
 rw [List.all_eq_true] at h
 have h1 := h b (List.mem_range.2 hb)
 rw [List.all_eq_true] at h1
 have h2 := h1 i (List.mem_range.2 hi)
 simp only [beq_iff_eq] at h2
 rw [Bool.eq_iff_iff] at h2
 simpa using h2
theorem or_mask (a b m : Nat) : (a ||| b) &&& m = 0 ↔ a &&& m = 0 ∧ b &&& m = 0 := by
 rw [Nat.and_or_distrib_right, Nat.or_eq_zero_iff]
theorem acO {b : Nat} {i : Nat} (hb : b < 256) (hi : i < 8) : Rl .u64 (IntKind.wrap .u64 (b : Int)) ((8 * i : Nat) : Int) = ((b * 2 ^ (8 * i) : Nat) : Int) := by
 unfold Rl
 rw [wrap64 (by omega)]
 have e : ((b : Int) * 2 ^ (min ((8 * i : Nat) : Int).toNat IntKind.u64.bits)) = ((b * 2 ^ (8 * i) : Nat) : Int) := by
  have : min ((8 * i : Nat) : Int).toNat IntKind.u64.bits = 8 * i := by
   show min _ 64 = _
   rw [Int.toNat_natCast]; omega
  rw [this]; push_cast; rfl
 rw [e]
 refine wrap64 ?_
 have : 2 ^ (8 * i) ≤ 2 ^ 56 := Nat.pow_le_pow_right (by omega) (by omega)
 have h2 : b * 2 ^ (8 * i) ≤ 255 * 2 ^ 56 := Nat.mul_le_mul (by omega) this
 have : (255 * 2 ^ 56 : Nat) < 18446744073709551616 := by decide
 omega
theorem TY {b i : Nat} (hb : b < 256) (hi : i < 8) : b * 2 ^ (8 * i) < 18446744073709551616 := by
 have : 2 ^ (8 * i) ≤ 2 ^ 56 := Nat.pow_le_pow_right (by omega) (by omega)
 have h2 : b * 2 ^ (8 * i) ≤ 255 * 2 ^ 56 := Nat.mul_le_mul (by omega) this
 have : (255 * 2 ^ 56 : Nat) < 18446744073709551616 := by decide
 omega
def lo3 (b : Int) : Int := if b = 224 then 160 else 128
def hi3 (b : Int) : Int := if b = 237 then 159 else 191
def lo4 (b : Int) : Int := if b = 240 then 144 else 128
def hi4 (b : Int) : Int := if b = 244 then 143 else 191
def aP (xs : List Int) : Nat :=
 if xs.length = 0 then 0
 else if xs.getD 0 0 < 128 then 1
 else if xs.getD 0 0 < 194 then 0
 else if xs.getD 0 0 < 224 then (if 2 ≤ xs.length ∧ 128 ≤ xs.getD 1 0 ∧ xs.getD 1 0 ≤ 191 then 2 else 0)
 else if xs.getD 0 0 < 240 then (if 3 ≤ xs.length ∧ lo3 (xs.getD 0 0) ≤ xs.getD 1 0 ∧ xs.getD 1 0 ≤ hi3 (xs.getD 0 0) ∧ 128 ≤ xs.getD 2 0 ∧ xs.getD 2 0 ≤ 191 then 3 else 0)
 else if xs.getD 0 0 < 245 then (if 4 ≤ xs.length ∧ lo4 (xs.getD 0 0) ≤ xs.getD 1 0 ∧ xs.getD 1 0 ≤ hi4 (xs.getD 0 0) ∧ 128 ≤ xs.getD 2 0 ∧ xs.getD 2 0 ≤ 191 ∧ 128 ≤ xs.getD 3 0 ∧ xs.getD 3 0 ≤ 191 then 4 else 0)
 else 0
theorem mG (xs : List Int) : aP xs ≤ xs.length := by
 unfold aP; repeat' split
 all_goals omega
theorem al4 (xs : List Int) : aP xs ≤ 4 := by
 unfold aP; repeat' split
 all_goals omega
def valid (xs : List Int) : Bool := if h : aP xs = 0 then xs.isEmpty else valid (xs.drop (aP xs))
termination_by xs.length
decreasing_by
 have := mG xs
 simp; omega
theorem Q8 : valid [] = true := by unfold valid; rfl
theorem MH {xs : List Int} (h : aP xs = 0) (hl : 0 < xs.length) : valid xs = false := by
 unfold valid; rw [dif_pos h]; cases xs with
 | nil => simp at hl
 | cons _ _ => rfl
theorem zx {xs : List Int} (h : aP xs ≠ 0) : valid xs = valid (xs.drop (aP xs)) := by
 conv => lhs; unfold valid
 rw [dif_neg h]
theorem ahd {xs : List Int} (hl : 0 < xs.length) (h : xs.getD 0 0 < 128) : aP xs = 1 := by
 unfold aP; rw [if_neg (by omega), if_pos h]
theorem getD_drop (xs : List Int) (n i : Nat) : (xs.drop n).getD i 0 = xs.getD (n + i) 0 := by
 simp [List.getD_eq_getElem?_getD, List.getElem?_drop]
theorem MI {xs : List Int} : ∀ (n : Nat), n ≤ xs.length → (∀ i, i < n → xs.getD i 0 < 128) → valid (xs.drop n) = valid xs
 | 0, _, _ => rfl
 | n + 1, hl, h => by
  have ih := MI n (by omega) (fun i hi => h i (by omega))
  rw [← ih]
  have e : aP (xs.drop n) = 1 := ahd (by simp; omega) (by rw [getD_drop]; exact h _ (by omega))
  rw [zx (xs := xs.drop n) (by rw [e]; omega), e, List.drop_drop]
def fsz (b : Int) : Int := IntKind.wrap .i64 (band .u8 (List.getD gG (Int.toNat b) 0) 7)
def fsh (b : Int) : Int := MF .u8 (List.getD gG (Int.toNat b) 0) 4
def fac (b : Int) : Int × Int := List.getD jI (Int.toNat (fsh b)) (0, 0)
def H6 (b : Int) : Bool := decide (0 ≤ fsh b) && decide (fsh b < 16) &&
 (if b < 128 then true else if b < 194 ∨ 245 ≤ b then fsz b == 1 else if b < 224 then fsz b == 2 && fac b == (128, 191) else if b < 240 then fsz b == 3 && fac b == (lo3 b, hi3 b) else fsz b == 4 && fac b == (lo4 b, hi4 b))
theorem ajB : ((List.range 256).all fun n => H6 n) = true := by kernel_rfl
theorem OX {b : Int} (h0 : 0 ≤ b) (h1 : b ≤ 255) : H6 b = true := by
 obtain ⟨n, rfl⟩ : ∃ n : Nat, b = n := ⟨b.toNat, by omega⟩
 have h := ajB
 rw [List.all_eq_true] at h
 exact h n (List.mem_range.2 (by omega))
theorem aqA {b : Int} (h0 : 0 ≤ b) (h1 : b ≤ 255) : 0 ≤ fsh b ∧ fsh b < 16 := by
 have h := OX h0 h1
 unfold H6 at h
 simp only [Bool.and_eq_true, decide_eq_true_eq] at h
 exact h.1
theorem arW {b : Int} (h0 : 128 ≤ b) (h1 : b ≤ 255) (h2 : b < 194 ∨ 245 ≤ b) : fsz b = 1 := by
 have h := OX (by omega) h1
 unfold H6 at h
 rw [if_neg (by omega), if_pos h2] at h
 simp only [Bool.and_eq_true, beq_iff_eq] at h
 exact h.2
theorem arX {b : Int} (h0 : 194 ≤ b) (h1 : b < 224) : fsz b = 2 ∧ fac b = (128, 191) := by
 have h := OX (b := b) (by omega) (by omega)
 unfold H6 at h
 rw [if_neg (by omega), if_neg (by omega), if_pos h1] at h
 simp only [Bool.and_eq_true, beq_iff_eq] at h
 exact h.2
theorem arY {b : Int} (h0 : 224 ≤ b) (h1 : b < 240) : fsz b = 3 ∧ fac b = (lo3 b, hi3 b) := by
 have h := OX (b := b) (by omega) (by omega)
 unfold H6 at h
 rw [if_neg (by omega), if_neg (by omega), if_neg (by omega), if_pos h1] at h
 simp only [Bool.and_eq_true, beq_iff_eq] at h
 exact h.2
theorem arZ {b : Int} (h0 : 240 ≤ b) (h1 : b < 245) : fsz b = 4 ∧ fac b = (lo4 b, hi4 b) := by
 have h := OX (b := b) (by omega) (by omega)
 unfold H6 at h
 rw [if_neg (by omega), if_neg (by omega), if_neg (by omega), if_neg (by omega)] at h
 simp only [Bool.and_eq_true, beq_iff_eq] at h
 exact h.2
theorem aoA : gG.length = 256 := by kernel_rfl
theorem al5 : jI.length = 16 := by kernel_rfl
def aT (xs : List Int) : Bool := Nat.ble xs.length 400 && valid xs
theorem anz {n : Int} (h0 : 0 ≤ n) (h1 : n ≤ 255) : IntKind.u8.wrap n = n := by
 have e : IntKind.u8.wrap n = n % 256 := by
  simp only [IntKind.wrap, IntKind.bits, IntKind.signed]; simp
 rw [e]; omega
def wY (r : Int) : List Int :=
 if r < 0 ∨ 1114111 < r ∨ (55296 ≤ r ∧ r ≤ 57343) then []
 else if r < 128 then [r]
 else if r < 2048 then [192 + r / 64, 128 + r % 64]
 else if r < 65536 then [224 + r / 4096, 128 + r / 64 % 64, 128 + r % 64]
 else [240 + r / 262144, 128 + r / 4096 % 64, 128 + r / 64 % 64, 128 + r % 64]
def acP (b : Int) : Bool := decide (128 ≤ b) && decide (b ≤ 191)
def anA (b : Int) : Bool := (band .u8 b 192 != 128) == !acP b
theorem al6 : ((List.range 256).all fun n => anA n) = true := by kernel_rfl
theorem ar0 {b : Int} (h0 : 0 ≤ b) (h1 : b ≤ 255) : (band .u8 b 192 != 128) = !acP b := by
 obtain ⟨n, rfl⟩ : ∃ n : Nat, b = n := ⟨b.toNat, by omega⟩
 have h := al6
 rw [List.all_eq_true] at h
 have := h n (List.mem_range.2 (by omega))
 simpa [anA] using this
def bY (t : List Int) (k : Int) : Bool := k == ((t.length : Nat) : Int) || (decide (0 ≤ k) && decide (k < ((t.length : Nat) : Int)) && !acP (t.getD k.toNat 0))
def bounds (xs : List Int) (k : Int) : List Int := if h : aP xs = 0 then [k] else k :: bounds (xs.drop (aP xs)) (k + (aP xs : Nat))
termination_by xs.length
decreasing_by
 have := mG xs
 simp; omega
theorem OY {xs : List Int} (h : aP xs = 0) (k : Int) : bounds xs k = [k] := by unfold bounds; rw [dif_pos h]
theorem OZ {xs : List Int} (h : aP xs ≠ 0) (k : Int) : bounds xs k = k :: bounds (xs.drop (aP xs)) (k + (aP xs : Nat)) := by
 conv => lhs; unfold bounds
 rw [dif_neg h]
theorem af8 {xs : List Int} (h : aP xs ≠ 0) : acP (xs.getD 0 0) = false ∧ ∀ j, 0 < j → j < aP xs → acP (xs.getD j 0) = true := by
 have key : (xs.getD 0 0 < 128 ∨ 191 < xs.getD 0 0) ∧ (1 < aP xs → 128 ≤ xs.getD 1 0 ∧ xs.getD 1 0 ≤ 191) ∧ (2 < aP xs → 128 ≤ xs.getD 2 0 ∧ xs.getD 2 0 ≤ 191) ∧ (3 < aP xs → 128 ≤ xs.getD 3 0 ∧ xs.getD 3 0 ≤ 191) := by
  revert h
  unfold aP lo3 hi3 lo4 hi4
  repeat' split
  all_goals (intro h; first | omega | (refine ⟨?_, ?_, ?_, ?_⟩ <;> omega))
 obtain ⟨h0, h1, h2, h3⟩ := key
 refine ⟨?_, fun j hj0 hj => ?_⟩
 ·unfold acP
  rcases h0 with h0 | h0
  ·rw [decide_eq_false (show ¬ 128 ≤ xs.getD 0 0 by omega)]; rfl
  ·rw [decide_eq_false (show ¬ xs.getD 0 0 ≤ 191 by omega), Bool.and_false]
 ·have h4 := al4 xs
  have hc : j = 1 ∨ j = 2 ∨ j = 3 := by omega
  unfold acP
  rcases hc with rfl | rfl | rfl
  ·obtain ⟨a, b⟩ := h1 hj; rw [decide_eq_true a, decide_eq_true b]; rfl
  ·obtain ⟨a, b⟩ := h2 hj; rw [decide_eq_true a, decide_eq_true b]; rfl
  ·obtain ⟨a, b⟩ := h3 hj; rw [decide_eq_true a, decide_eq_true b]; rfl
theorem Ua (k : Int) : ∀ (n : Nat) (xs : List Int) (k0 : Int), xs.length ≤ n → valid xs = true → ((bounds xs k0).any (fun c => c == k)) = bY xs (k - k0)
 | n, xs, k0, hn, hv => by
  by_cases h : aP xs = 0
  ·have hx : xs = [] := by
    cases xs with
    | nil => rfl
    | cons a l => rw [MH h (by simp)] at hv; cases hv
   subst hx
   rw [OY h]
   unfold bY
   simp only [List.any_cons, List.any_nil, Bool.or_false, List.length_nil, Int.natCast_zero]
   by_cases e : k0 = k
   ·subst e; simp
   ·have e2 : ¬ k - k0 = 0 := by omega
    have e3 : ¬ (0 ≤ k - k0 ∧ k - k0 < 0) := by omega
    rw [beq_eq_false_iff_ne.2 e, beq_eq_false_iff_ne.2 e2]
    by_cases e4 : 0 ≤ k - k0
    ·rw [decide_eq_false (show ¬ k - k0 < 0 by omega)]; simp
    ·rw [decide_eq_false e4]; simp
  ·have hle := mG xs
   obtain ⟨c0, cj⟩ := af8 h
   rw [zx h] at hv
   cases n with
   | zero => omega
   | succ n =>
   rw [OZ h, List.any_cons, Ua k n (xs.drop (aP xs)) (k0 + (aP xs : Nat)) (by simp; omega) hv]
   unfold bY
   rw [List.length_drop, getD_drop]
   by_cases e : k0 = k
   ·subst e
    rw [Int.sub_self, decide_eq_true (show (0 : Int) ≤ 0 by omega), decide_eq_true (show (0 : Int) < ((xs.length : Nat) : Int) by omega), show (0 : Int).toNat = 0 from rfl, c0]
    simp
   ·rw [beq_eq_false_iff_ne.2 e, Bool.false_or]
    by_cases e1 : k - k0 < 0
    ·rw [decide_eq_false (show ¬ 0 ≤ k - k0 by omega), decide_eq_false (show ¬ 0 ≤ k - (k0 + (aP xs : Nat)) by omega), beq_eq_false_iff_ne.2 (show ¬ k - k0 = ((xs.length : Nat) : Int) by omega), beq_eq_false_iff_ne.2 (show ¬ k - (k0 + (aP xs : Nat)) = ((xs.length - aP xs : Nat) : Int) by omega)]; rfl
    by_cases e2 : k - k0 < (aP xs : Nat)
    ·have hc := cj (k - k0).toNat (by omega) (by omega)
     rw [decide_eq_false (show ¬ 0 ≤ k - (k0 + (aP xs : Nat)) by omega), hc, beq_eq_false_iff_ne.2 (show ¬ k - k0 = ((xs.length : Nat) : Int) by omega), beq_eq_false_iff_ne.2 (show ¬ k - (k0 + (aP xs : Nat)) = ((xs.length - aP xs : Nat) : Int) by omega)]
     simp
    ·have ei : aP xs + (k - (k0 + (aP xs : Nat))).toNat = (k - k0).toNat := by omega
     rw [ei, decide_eq_true (show 0 ≤ k - (k0 + (aP xs : Nat)) by omega), decide_eq_true (show 0 ≤ k - k0 by omega)]
     have e5 : (k - (k0 + (aP xs : Nat)) == ((xs.length - aP xs : Nat) : Int)) = (k - k0 == ((xs.length : Nat) : Int)) := by
      rw [Bool.eq_iff_iff, beq_iff_eq, beq_iff_eq]; omega
     have e6 : decide (k - (k0 + (aP xs : Nat)) < ((xs.length - aP xs : Nat) : Int)) = decide (k - k0 < ((xs.length : Nat) : Int)) := by
      rw [Bool.eq_iff_iff, decide_eq_true_iff, decide_eq_true_iff]; omega
     rw [e5, e6]
 termination_by n => n
def uG (xs : List Int) : List Int := bif aT xs then bounds xs 0 else []
def qy (xs : List Int) (k : Int) : Bool := aT xs && bY xs k
theorem aoB (xs : List Int) (k : Int) : (uG xs).any (fun c => c == k) = qy xs k := by
 unfold uG qy
 cases h : aT xs with
 | false => rfl
 | true =>
  unfold aT at h
  rw [Bool.and_eq_true] at h
  have := Ua k _ xs 0 (Nat.le_refl _) h.2
  rw [Int.sub_zero] at this
  exact this
theorem aoC (xs : List Int) (k : Int) : 0 < (bounds xs k).length := by
 by_cases h : aP xs = 0
 ·rw [OY h]; simp
 ·rw [OZ h]; simp
def pU (xs : List Int) : Int :=
 if aP xs = 0 then -1
 else if aP xs = 1 then xs.getD 0 0
 else if aP xs = 2 then 64 * (xs.getD 0 0 - 192) + xs.getD 1 0 - 128
 else if aP xs = 3 then 64 * (64 * (xs.getD 0 0 - 224) + xs.getD 1 0 - 128) + xs.getD 2 0 - 128
 else 64 * (64 * (64 * (xs.getD 0 0 - 240) + xs.getD 1 0 - 128) + xs.getD 2 0 - 128) + xs.getD 3 0 - 128
theorem ZT (xs : List Int) : (lW xs).toList = xs.map (fun n => UInt8.ofNat n.toNat) := by
 rw [Lib.toList_data]; rfl
theorem as3 {a b : Int} (ha : 0 ≤ a ∧ a ≤ 255) (hb : 0 ≤ b ∧ b ≤ 255) (h : UInt8.ofNat a.toNat = UInt8.ofNat b.toNat) : a = b := by
 have h1 := congrArg UInt8.toNat h
 rw [UInt8.toNat_ofNat', UInt8.toNat_ofNat'] at h1
 omega
theorem acQ : ∀ {xs ys : List Int}, (∀ x ∈ xs, 0 ≤ x ∧ x ≤ 255) → (∀ y ∈ ys, 0 ≤ y ∧ y ≤ 255) → xs.map (fun n => UInt8.ofNat n.toNat) = ys.map (fun n => UInt8.ofNat n.toNat) → xs = ys
 | [], [], _, _, _ => rfl
 | [], _ :: _, _, _, h => by simp at h
 | _ :: _, [], _, _, h => by simp at h
 | x :: xs, y :: ys, hx, hy, h => by
  simp only [List.map_cons, List.cons.injEq] at h
  rw [as3 (hx x (by simp)) (hy y (by simp)) h.1, acQ (fun a ha => hx a (by simp [ha])) (fun a ha => hy a (by simp [ha])) h.2]
theorem VH {xs ys : List Int} (hx : ∀ x ∈ xs, 0 ≤ x ∧ x ≤ 255) (hy : ∀ y ∈ ys, 0 ≤ y ∧ y ≤ 255) : ((lW xs).toList == (lW ys).toList) = decide (xs = ys) := by
 rw [Bool.eq_iff_iff, beq_iff_eq, decide_eq_true_iff, ZT, ZT]
 exact ⟨acQ hx hy, fun h => by rw [h]⟩
theorem aoD (r : Int) : ∀ x ∈ wY r, 0 ≤ x ∧ x ≤ 255 := by
 intro x hx
 unfold wY at hx
 split at hx
 ·cases hx
 split at hx
 ·simp at hx; omega
 split at hx
 ·simp at hx; rcases hx with rfl | rfl <;> omega
 split at hx
 ·simp at hx; rcases hx with rfl | rfl | rfl <;> omega
 ·simp at hx; rcases hx with rfl | rfl | rfl | rfl <;> omega
theorem MJ {xs : List Int} (h : aP xs = 0) : ((pU xs, ((aP xs : Nat) : Int)) : Int × Int) = (-1, 0) := by
 unfold pU; rw [h]; rfl
theorem aqB {xs : List Int} (h : aP xs = 1) : pU xs = xs.getD 0 0 := by
 unfold pU; rw [h, if_neg (by omega), if_pos rfl]
theorem aqC {xs : List Int} (h : aP xs = 2) : pU xs = 64 * (xs.getD 0 0 - 192) + xs.getD 1 0 - 128 := by
 unfold pU; rw [h, if_neg (by omega), if_neg (by omega), if_pos rfl]
theorem aqD {xs : List Int} (h : aP xs = 3) : pU xs = 64 * (64 * (xs.getD 0 0 - 224) + xs.getD 1 0 - 128) + xs.getD 2 0 - 128 := by
 unfold pU; rw [h, if_neg (by omega), if_neg (by omega), if_neg (by omega), if_pos rfl]
theorem aqE {xs : List Int} (h : aP xs = 4) : pU xs = 64 * (64 * (64 * (xs.getD 0 0 - 240) + xs.getD 1 0 - 128) + xs.getD 2 0 - 128) + xs.getD 3 0 - 128 := by
 unfold pU; rw [h, if_neg (by omega), if_neg (by omega), if_neg (by omega), if_neg (by omega)]
theorem avu {b : Int} {t : List Int} (h0 : 0 ≤ b) (h : b < 192) : (if wY b = [b] then (b, (1 : Int)) else (-1, 0)) = (pU (b :: t), ((aP (b :: t) : Nat) : Int)) := by
 have e : aP (b :: t) = if b < 128 then 1 else 0 := by
  unfold aP
  rw [if_neg (by simp)]
  show (if b < 128 then 1 else if b < 194 then 0 else _) = _
  by_cases c : b < 128
  ·rw [if_pos c, if_pos c]
  ·rw [if_neg c, if_neg c, if_pos (by omega)]
 by_cases c : b < 128
 ·rw [if_pos c] at e
  rw [aqB e, e, if_pos (by unfold wY; rw [if_neg (by omega), if_pos c])]; rfl
 ·rw [if_neg c] at e
  rw [MJ e, if_neg]
  unfold wY
  rw [if_neg (by omega), if_neg c, if_pos (by omega)]
  simp
theorem avv {a b : Int} {t : List Int} (h0 : 192 ≤ a) (h : a < 224) (hb : 0 ≤ b ∧ b ≤ 255) : (if wY (64 * (a - 192) + b - 128) = [a, b] then (64 * (a - 192) + b - 128, (2 : Int)) else (-1, 0)) = (pU (a :: b :: t), ((aP (a :: b :: t) : Nat) : Int)) := by
 have e : aP (a :: b :: t) = if 194 ≤ a ∧ 128 ≤ b ∧ b ≤ 191 then 2 else 0 := by
  unfold aP
  rw [if_neg (by simp)]
  show (if a < 128 then 1 else if a < 194 then 0 else if a < 224 then (if 2 ≤ (a :: b :: t).length ∧ 128 ≤ b ∧ b ≤ 191 then 2 else 0) else _) = _
  rw [if_neg (by omega)]
  by_cases c : a < 194
  ·rw [if_pos c, if_neg (by omega)]
  ·rw [if_neg c, if_pos h]
   by_cases c2 : 128 ≤ b ∧ b ≤ 191
   ·rw [if_pos ⟨by simp, c2⟩, if_pos ⟨by omega, c2⟩]
   ·rw [if_neg (fun h => c2 h.2), if_neg (fun h => c2 h.2)]
 by_cases c : 194 ≤ a ∧ 128 ≤ b ∧ b ≤ 191
 ·rw [if_pos c] at e
  rw [aqC e, e, if_pos]; rfl
  unfold wY
  rw [if_neg (by omega), if_neg (by omega), if_pos (by omega)]
  congr 1
  ·omega
  ·congr 1; omega
 ·rw [if_neg c] at e
  rw [MJ e, if_neg]
  intro he
  unfold wY at he
  split at he
  ·cases he
  split at he
  ·simp at he
  split at he
  ·simp only [List.cons.injEq, and_true] at he; omega
  split at he
  ·simp at he
  ·simp at he
theorem avw {a b d : Int} {t : List Int} (h0 : 224 ≤ a) (h : a < 240) (hb : 0 ≤ b ∧ b ≤ 255) (hd : 0 ≤ d ∧ d ≤ 255) : (if wY (64 * (64 * (a - 224) + b - 128) + d - 128) = [a, b, d] then (64 * (64 * (a - 224) + b - 128) + d - 128, (3 : Int)) else (-1, 0)) = (pU (a :: b :: d :: t), ((aP (a :: b :: d :: t) : Nat) : Int)) := by
 have e : aP (a :: b :: d :: t) = if lo3 a ≤ b ∧ b ≤ hi3 a ∧ 128 ≤ d ∧ d ≤ 191 then 3 else 0 := by
  unfold aP
  rw [if_neg (by simp)]
  show (if a < 128 then 1 else if a < 194 then 0 else if a < 224 then _ else if a < 240 then (if 3 ≤ (a :: b :: d :: t).length ∧ lo3 a ≤ b ∧ b ≤ hi3 a ∧ 128 ≤ d ∧ d ≤ 191 then 3 else 0) else _) = _
  rw [if_neg (by omega), if_neg (by omega), if_neg (by omega), if_pos h]
  by_cases c2 : lo3 a ≤ b ∧ b ≤ hi3 a ∧ 128 ≤ d ∧ d ≤ 191
  ·rw [if_pos ⟨by simp, c2⟩, if_pos c2]
  ·rw [if_neg (fun h => c2 h.2), if_neg c2]
 by_cases c : lo3 a ≤ b ∧ b ≤ hi3 a ∧ 128 ≤ d ∧ d ≤ 191
 ·rw [if_pos c] at e
  have hlh : 128 ≤ b ∧ b ≤ 191 ∧ (a = 224 → 160 ≤ b) ∧ (a = 237 → b ≤ 159) := by
   unfold lo3 hi3 at c
   split at c <;> split at c <;> omega
  rw [aqD e, e, if_pos]; rfl
  unfold wY
  rw [if_neg (by omega), if_neg (by omega), if_neg (by omega), if_pos (by omega)]
  congr 1
  ·omega
  ·congr 1
   ·omega
   ·congr 1; omega
 ·rw [if_neg c] at e
  rw [MJ e, if_neg]
  intro he
  unfold wY at he
  split at he
  ·cases he
  split at he
  ·simp at he
  split at he
  ·simp at he
  split at he
  ·simp only [List.cons.injEq, and_true] at he
   apply c
   unfold lo3 hi3
   split <;> split <;> omega
  ·simp at he
theorem avx {a b d f : Int} {t : List Int} (h0 : 240 ≤ a) (h : a ≤ 255) (hb : 0 ≤ b ∧ b ≤ 255) (hd : 0 ≤ d ∧ d ≤ 255) (hf : 0 ≤ f ∧ f ≤ 255) : (if wY (64 * (64 * (64 * (a - 240) + b - 128) + d - 128) + f - 128) = [a, b, d, f] then (64 * (64 * (64 * (a - 240) + b - 128) + d - 128) + f - 128, (4 : Int)) else (-1, 0)) = (pU (a :: b :: d :: f :: t), ((aP (a :: b :: d :: f :: t) : Nat) : Int)) := by
 have e : aP (a :: b :: d :: f :: t) = if a < 245 ∧ lo4 a ≤ b ∧ b ≤ hi4 a ∧ 128 ≤ d ∧ d ≤ 191 ∧ 128 ≤ f ∧ f ≤ 191 then 4 else 0 := by
  unfold aP
  rw [if_neg (by simp)]
  show (if a < 128 then 1 else if a < 194 then 0 else if a < 224 then _ else if a < 240 then _ else if a < 245 then (if 4 ≤ (a :: b :: d :: f :: t).length ∧ lo4 a ≤ b ∧ b ≤ hi4 a ∧ 128 ≤ d ∧ d ≤ 191 ∧ 128 ≤ f ∧ f ≤ 191 then 4 else 0) else 0) = _
  rw [if_neg (by omega), if_neg (by omega), if_neg (by omega), if_neg (by omega)]
  by_cases c1 : a < 245
  ·rw [if_pos c1]
   by_cases c2 : lo4 a ≤ b ∧ b ≤ hi4 a ∧ 128 ≤ d ∧ d ≤ 191 ∧ 128 ≤ f ∧ f ≤ 191
   ·rw [if_pos ⟨by simp, c2⟩, if_pos ⟨c1, c2⟩]
   ·rw [if_neg (fun h => c2 h.2), if_neg (fun h => c2 h.2)]
  ·rw [if_neg c1, if_neg (fun h => c1 h.1)]
 by_cases c : a < 245 ∧ lo4 a ≤ b ∧ b ≤ hi4 a ∧ 128 ≤ d ∧ d ≤ 191 ∧ 128 ≤ f ∧ f ≤ 191
 ·rw [if_pos c] at e
  have hlh : 128 ≤ b ∧ b ≤ 191 ∧ (a = 240 → 144 ≤ b) ∧ (a = 244 → b ≤ 143) := by
   unfold lo4 hi4 at c
   split at c <;> split at c <;> omega
  rw [aqE e, e, if_pos]; rfl
  unfold wY
  rw [if_neg (by omega), if_neg (by omega), if_neg (by omega), if_neg (by omega)]
  congr 1
  ·omega
  ·congr 1
   ·omega
   ·congr 1
    ·omega
    ·congr 1; omega
 ·rw [if_neg c] at e
  rw [MJ e, if_neg]
  intro he
  unfold wY at he
  split at he
  ·cases he
  split at he
  ·simp at he
  split at he
  ·simp at he
  split at he
  ·simp at he
  ·simp only [List.cons.injEq, and_true] at he
   apply c
   unfold lo4 hi4
   split <;> split <;> omega
theorem as4 {xs : List Int} (h : 240 ≤ xs.getD 0 0) (hl : xs.length < 4) : aP xs = 0 := by
 unfold aP; repeat' split
 all_goals omega
theorem as5 {xs : List Int} (h : 224 ≤ xs.getD 0 0) (h2 : xs.getD 0 0 < 240) (hl : xs.length < 3) : aP xs = 0 := by
 unfold aP; repeat' split
 all_goals omega
theorem as6 {xs : List Int} (h : 192 ≤ xs.getD 0 0) (h2 : xs.getD 0 0 < 224) (hl : xs.length < 2) : aP xs = 0 := by
 unfold aP; repeat' split
 all_goals omega
def inD (d : List Int) (k : Int) : Bool := decide (0 ≤ k) && decide (k < ((d.length : Nat) : Int))
def aeQ (d : List Int) (k : Int) : Int := bif inD d k then ((aP (d.drop k.toNat) : Nat) : Int) else 0
def aqF (d : List Int) (k : Int) : Int := bif inD d k then pU (d.drop k.toNat) else -1
theorem ar1 {d : List Int} {k : Int} (h0 : 0 ≤ k) (h1 : k < ((d.length : Nat) : Int)) : aeQ d k = ((aP (d.drop k.toNat) : Nat) : Int) := by
 unfold aeQ inD; rw [decide_eq_true h0, decide_eq_true h1]; rfl
def starts (xs : List Int) (k : Int) : List Int := if h : aP xs = 0 then [] else k :: starts (xs.drop (aP xs)) (k + (aP xs : Nat))
termination_by xs.length
decreasing_by
 have := mG xs
 simp; omega
theorem O5 {xs : List Int} (h : aP xs = 0) (k : Int) : starts xs k = [] := by unfold starts; rw [dif_pos h]
theorem O6 {xs : List Int} (h : aP xs ≠ 0) (k : Int) : starts xs k = k :: starts (xs.drop (aP xs)) (k + (aP xs : Nat)) := by
 conv => lhs; unfold starts
 rw [dif_neg h]
theorem O7 {xs : List Int} (h : valid xs = true) : xs = [] ∨ aP xs ≠ 0 ∧ valid (xs.drop (aP xs)) = true := by
 by_cases e : aP xs = 0
 ·left
  cases xs with
  | nil => rfl
  | cons a l => rw [MH e (by simp)] at h; cases h
 ·right; exact ⟨e, by rw [← zx e]; exact h⟩
theorem JR : ∀ (n : Nat) (xs : List Int) (k : Int), xs.length ≤ n → valid xs = true → bounds xs k = starts xs k ++ [k + (xs.length : Nat)]
 | n, xs, k, hn, hv => by
  rcases O7 hv with rfl | ⟨h, hv'⟩
  ·rw [OY (by rfl), O5 (by rfl)]; simp
  ·have hle := mG xs
   cases n with
   | zero => omega
   | succ n =>
    rw [OZ h, O6 h, JR n _ _ (by simp; omega) hv', List.cons_append, List.length_drop]
    congr 3; omega
 termination_by n => n
theorem Ub : ∀ (n : Nat) (xs : List Int) (k : Int), xs.length ≤ n → (starts xs k).length ≤ xs.length
 | n, xs, k, hn => by
  by_cases h : aP xs = 0
  ·rw [O5 h]; simp
  ·have hle := mG xs
   cases n with
   | zero => omega
   | succ n =>
    rw [O6 h]
    have := Ub n (xs.drop (aP xs)) (k + (aP xs : Nat)) (by simp; omega)
    simp at this ⊢; omega
 termination_by n => n
theorem pV {xs : List Int} : aT xs = true ↔ xs.length ≤ 400 ∧ valid xs = true := by
 unfold aT; rw [Bool.and_eq_true]
 exact ⟨fun h => ⟨Nat.le_of_ble_eq_true h.1, h.2⟩, fun h => ⟨Nat.ble_eq_true_of_le h.1, h.2⟩⟩
end Go.Ev
end
section
set_option linter.unusedVariables false
namespace Go.Ev
open Go.RowKit
abbrev E3 : Type := Int × Int × List Int
theorem eU {t : List Int} {k : Int} (h : bY t k = true) : 0 ≤ k ∧ k ≤ ((t.length : Nat) : Int) := by
 unfold bY at h
 rw [Bool.or_eq_true, beq_iff_eq, Bool.and_eq_true, Bool.and_eq_true, decide_eq_true_iff, decide_eq_true_iff] at h
 omega
def iC (t : List Int) (e : E3) : Bool :=
 aT t && bY t e.1 && decide (0 ≤ e.2.1) && decide (e.2.1 ≤ ((t.length : Nat) : Int) - e.1) && bY t (e.1 + e.2.1) && aT e.2.2 && decide (((t.length : Nat) : Int) - e.2.1 + ((e.2.2.length : Nat) : Int) ≤ 400)
def ZU (e : E3) (t : List Int) : List Int := t.take e.1.toNat ++ e.2.2 ++ t.drop (e.1 + e.2.1).toNat
theorem ji {t : List Int} (h : aT t = true) : t.length ≤ 400 := (pV.1 h).1
structure acR (t : List Int) (e : E3) : Prop where
 tx : aT t = true
 a : bY t e.1 = true
 c0 : 0 ≤ e.2.1
 c1 : e.2.1 ≤ ((t.length : Nat) : Int) - e.1
 b : bY t (e.1 + e.2.1) = true
 p : aT e.2.2 = true
 l : ((t.length : Nat) : Int) - e.2.1 + ((e.2.2.length : Nat) : Int) ≤ 400
theorem zO {t : List Int} {e : E3} : iC t e = true ↔ acR t e := by
 unfold iC
 simp only [Bool.and_eq_true, decide_eq_true_eq]
 exact ⟨fun ⟨⟨⟨⟨⟨⟨h1, h2⟩, h3⟩, h4⟩, h5⟩, h6⟩, h7⟩ => ⟨h1, h2, h3, h4, h5, h6, h7⟩, fun h => ⟨⟨⟨⟨⟨⟨h.tx, h.a⟩, h.c0⟩, h.c1⟩, h.b⟩, h.p⟩, h.l⟩⟩
theorem ahe {t : List Int} {e : E3} (h0 : 0 ≤ e.1) (h1 : 0 ≤ e.2.1) (h2 : e.1 + e.2.1 ≤ ((t.length : Nat) : Int)) : (((ZU e t).length : Nat) : Int) = ((t.length : Nat) : Int) - e.2.1 + ((e.2.2.length : Nat) : Int) := by
 unfold ZU
 simp only [List.length_append, List.length_take, List.length_drop]
 omega
def mX (t : List Int) (e : E3) : List Int := bif iC t e then ZU e t else []
theorem O8 (t : List Int) (e : E3) : (mX t e).length ≤ 400 := by
 unfold mX
 cases h : iC t e with
 | false => simp
 | true =>
  have q := zO.1 h
  have r := eU q.a
  have r2 := eU q.b
  have := ahe r.1 q.c0 r2.2
  have := q.l
  simp only [cond_true]; omega
theorem aqG {t : List Int} {e : E3} (h1 : aO t = true) (h2 : aO e.2.2 = true) (hl : (ZU e t).length ≤ 1048576) : aO (ZU e t) = true :=
 anx hl (fun x hx => by
  unfold ZU at hx
  rcases List.mem_append.1 hx with hx | hx
  ·rcases List.mem_append.1 hx with hx | hx
   ·exact mW h1 (List.mem_of_mem_take hx)
   ·exact mW h2 hx
  ·exact mW h1 (List.mem_of_mem_drop hx))
theorem MK {t : List Int} {e : E3} (h1 : aO t = true) (h2 : aO e.2.2 = true) : aO (mX t e) = true := by
 have hl := O8 t e
 unfold mX at hl ⊢
 cases h : iC t e with
 | false => rfl
 | true => rw [h] at hl; exact aqG h1 h2 (by simpa using Nat.le_trans hl (by omega))
def fO : List E3 → List Int → Nat → List Int × Nat
 | [], t, n => (t, n)
 | e :: es, t, n => bif iC t e then fO es (ZU e t) (n + 1) else (t, n)
def aU (t : List Int) (l : List E3) : List Int × Int := bif aT t then ((fO l t 0).1, (((fO l t 0).2 : Nat) : Int)) else ([], -1)
theorem VI : ∀ (l : List E3) (t : List Int) (n : Nat), t.length ≤ 400 → (fO l t n).1.length ≤ 400
 | [], t, n, h => h
 | e :: l, t, n, h => by
  simp only [fO]
  cases he : iC t e with
  | false => exact h
  | true =>
   have := O8 t e
   unfold mX at this
   rw [he] at this
   exact VI l (ZU e t) (n + 1) this
theorem ahf (t : List Int) (l : List E3) : (aU t l).1.length ≤ 400 := by
 unfold aU
 cases ht : aT t with
 | false => exact Nat.zero_le _
 | true => exact VI l t 0 (ji ht)
end Go.Ev
end
section
set_option linter.unusedVariables false
namespace Go.Ev
open Go.RowKit
def aG (n : Int) : Bool := decide (0 ≤ n) && decide (n ≤ 65535)
theorem avy {K : aj → Option aj} (p u v : Bool) : (bif p then K ((.s (.bool u)), []) else K ((.s (.bool v)), [])) = K ((.s (.bool (bif p then u else v))), []) := by cases p <;> rfl
theorem kinds {k : Int} (h1 : 1 ≤ k) (h2 : k ≤ 16) : k = 1 ∨ k = 2 ∨ k = 3 ∨ k = 4 ∨ k = 5 ∨ k = 6 ∨ k = 7 ∨ k = 8 ∨ k = 9 ∨ k = 10 ∨ k = 11 ∨ k = 12 ∨ k = 13 ∨ k = 14 ∨ k = 15 ∨ k = 16 := by omega
abbrev P4 : Type := Int × Int × Int × List Int
def Jo (k : Int) : Int := bif k == 3 || k == 7 || k == 8 || k == 9 then 1 else bif k == 4 || k == 5 || k == 6 || k == 10 || k == 11 || k == 14 then 2 else bif k == 12 || k == 13 then 3 else 0
abbrev P6 : Type := Int × Int × Int × Int × Int × List Int
def jG (k n : Int) : Bool := bif k == 3 || k == 5 then true else bif k == 7 || k == 8 then decide (n > 0) else !decide (n > 0)
def dB (r : P6) : Bool := decide (1 ≤ r.1) && decide (r.1 ≤ 16) && (decide (1 ≤ r.2.1) && decide (r.2.1 ≤ 8)) && (decide (((r.2.2.2.2.2.length : Nat) : Int) ≤ 100) && aT r.2.2.2.2.2) &&
 aG r.2.2.1 && aG r.2.2.2.1 && aG r.2.2.2.2.1 && ((decide (0 < Jo r.1) || r.2.2.1 == 0) && (decide (1 < Jo r.1) || r.2.2.2.1 == 0) && (decide (2 < Jo r.1) || r.2.2.2.2.1 == 0) && jG r.1 ((r.2.2.2.2.2.length : Nat) : Int))
end Go.Ev
end
section
set_option linter.unusedVariables false
namespace Go.Ev
section
variable {α β ρ : Type}
theorem getD_lt {xs : List α} {i : Nat} (z : α) (h : i < xs.length) : xs.getD i z = xs[i] := by
 rw [List.getD_eq_getElem?_getD, List.getElem?_eq_getElem h]; rfl
theorem Lh {R : Nat → Int → ρ} {p : α → Bool} {kt : ρ} {kf : Int → ρ} {xs : List α} {z : α}
  (hs : ∀ m (i : Nat), i < xs.length → R (m + 1) i = bif p (xs.getD i z) then kf i else R m ((i + 1 : Nat) : Int))
  (he : ∀ m, R (m + 1) (xs.length : Nat) = kt) : ∀ (m i : Nat), i ≤ xs.length → xs.length - i < m → R m i = (match (xs.drop i).findIdx? p with
   | some j => kf ((i + j : Nat) : Int)
   | none => kt)
 | 0, i, _, h => absurd h (by omega)
 | m + 1, i, hi, hm => by
  by_cases h : i < xs.length
  ·rw [hs m i h, getD_lt z h, List.drop_eq_getElem_cons h, List.findIdx?_cons]
   cases hp : p xs[i] with
   | true => simp
   | false =>
    rw [cond_false, Lh hs he m (i + 1) (by omega) (by omega)]
    simp only [Bool.false_eq_true, if_false]
    cases (xs.drop (i + 1)).findIdx? p with
    | none => rfl
    | some k => show kf ((i + 1 + k : Nat) : Int) = kf ((i + (k + 1) : Nat) : Int); congr 2; omega
  ·have : i = xs.length := by omega
   subst this
   rw [he m, List.drop_length]; rfl
theorem VJ {R : Nat → Int → ρ} {p : α → Bool} {kt kf : ρ} {xs : List α} {z : α}
  (hs : ∀ m (i : Nat), i < xs.length → R (m + 1) i = bif p (xs.getD i z) then R m ((i + 1 : Nat) : Int) else kf)
  (he : ∀ m, R (m + 1) (xs.length : Nat) = kt) : ∀ (m i : Nat), i ≤ xs.length → xs.length - i < m → R m i = bif (xs.drop i).all p then kt else kf
 | 0, i, _, h => absurd h (by omega)
 | m + 1, i, hi, hm => by
  by_cases h : i < xs.length
  ·rw [hs m i h, getD_lt z h, List.drop_eq_getElem_cons h, List.all_cons]
   cases hp : p xs[i] with
   | true => rw [cond_true, VJ hs he m (i + 1) (by omega) (by omega)]; rfl
   | false => rfl
  ·have : i = xs.length := by omega
   subst this
   rw [he m, List.drop_length]; rfl
theorem take_one {l : List α} {i : Nat} (z : α) (h : i < l.length) : l.take i ++ [l.getD i z] = l.take (i + 1) := by
 rw [List.take_add_one, List.getElem?_eq_getElem h, getD_lt z h]; rfl
theorem acS {R : Nat → Int → List α → ρ} {kt : ρ} {l : List α} (z : α)
  (hs : ∀ m (i : Nat), i < l.length → R (m + 1) i (l.take i) = R m ((i + 1 : Nat) : Int) (l.take i ++ [l.getD i z]))
  (he : ∀ m, R (m + 1) (l.length : Nat) l = kt) : ∀ (m i : Nat), i ≤ l.length → l.length - i < m → R m i (l.take i) = kt
 | 0, i, _, h => absurd h (by omega)
 | m + 1, i, hi, hm => by
  by_cases h : i < l.length
  ·rw [hs m i h, take_one z h]
   exact acS z hs he m (i + 1) (by omega) (by omega)
  ·obtain rfl : i = l.length := by omega
   rw [List.take_length]; exact he m
def Yk (l : List Int) (k : Int) : Int := match l.findIdx? (fun c => c == k) with
 | some i => (i : Nat)
 | none => -1
theorem al7 (l : List Int) (k : Int) : decide (Yk l k ≥ 0) = l.any (fun c => c == k) := by
 unfold Yk
 cases h : l.findIdx? (fun c => c == k) with
 | none =>
  rw [List.findIdx?_eq_none_iff] at h
  rw [show l.any (fun c => c == k) = false from List.any_eq_false.2 (fun x hx => by rw [h x hx]; simp)]; rfl
 | some i =>
  rw [List.findIdx?_eq_some_iff_getElem] at h
  obtain ⟨h1, h2, _⟩ := h
  rw [show l.any (fun c => c == k) = true from List.any_eq_true.2 ⟨l[i], List.getElem_mem h1, h2⟩]
  exact decide_eq_true (show ((i : Nat) : Int) ≥ 0 by omega)
def zW {α : Type} (p : α → Bool) (l : List α) : Int := match l.findIdx? p with
 | some i => (i : Nat)
 | none => -1
theorem acT {α : Type} (p : α → Bool) (l : List α) : decide (zW p l ≥ 0) = l.any p := by
 unfold zW
 cases h : l.findIdx? p with
 | none =>
  rw [List.findIdx?_eq_none_iff] at h
  rw [show l.any p = false from List.any_eq_false.2 (fun x hx => by rw [h x hx]; simp)]; rfl
 | some i =>
  rw [List.findIdx?_eq_some_iff_getElem] at h
  obtain ⟨h1, h2, _⟩ := h
  rw [show l.any p = true from List.any_eq_true.2 ⟨l[i], List.getElem_mem h1, h2⟩]
  exact decide_eq_true (show ((i : Nat) : Int) ≥ 0 by omega)
end
end Go.Ev
end
