/- The rows of the structs. Printed by fam.py. -/
import Derived.Test.YtfgnddgckhpbiaaEvLib
namespace Go.Ev.Seat
open Go.RowKit
def measR : Rw := .cons (.int .i64) (.cons (.int .i64) (.one (.int .i64)))
def chunkR : Rw := .one (.sl bytesR)
def pieceR : Rw := .one (.sl bytesR)
def editR : Rw := .cons (.int .i64) (.cons (.int .i64) (.one (.sl bytesR)))
def selR : Rw := .cons (.int .i64) (.one (.int .i64))
def leaseR : Rw := .cons (.int .i64) (.cons (.int .i64) (.cons (.int .i64) (.one (.int .i64))))
def stackR : Rw := .cons (.sl editR) (.one (.sl editR))
def reqR : Rw := .cons (.int .i64) (.cons (.int .i64) (.cons (.int .i64) (.cons (.int .i64) (.cons (.int .i64) (.one (.sl bytesR))))))
def replyR : Rw := .cons (.int .i64) (.cons (.int .i64) (.cons (.int .i64) (.one (.sl bytesR))))
def commitR : Rw := .cons (.int .i64) (.cons (.int .i64) (.cons (.int .i64) (.one (.sl bytesR))))
def memberR : Rw := .cons (.int .i64) (.cons (.int .i64) (.cons (.int .i64) (.cons (.sl editR) (.one (.sl editR)))))
def docR : Rw := .cons (.sl bytesR) (.cons (.sl bytesR) (.cons (.sl commitR) (.cons (.int .i64) (.cons (.sl memberR) (.one (.sl leaseR))))))
def eventR : Rw := .cons (.int .i64) (.cons (.int .i64) (.cons (.int .i64) (.one (.sl bytesR))))
def opR : Rw := .cons (.int .i64) (.cons (.int .i64) (.cons (.int .i64) (.cons (.int .i64) (.cons (.int .i64) (.cons (.sl bytesR) (.cons (.int .i64) (.cons (.int .i64) (.cons (.int .i64) (.cons (.int .i64) (.cons (.int .i64) (.cons (.int .i64) (.one (.sl bytesR)))))))))))))
def machR : Rw := .cons (.sl bytesR) (.cons (.sl bytesR) (.cons (.sl commitR) (.cons (.int .i64) (.cons (.sl memberR) (.cons (.sl leaseR) (.one (.sl opR)))))))
def actR : Rw := .cons (.int .i64) (.cons (.int .i64) (.cons (.int .i64) (.cons (.int .i64) (.cons (.int .i64) (.cons (.int .i64) (.cons (.int .i64) (.cons (.int .i64) (.one (.sl bytesR)))))))))
def outR : Rw := .cons (.int .i64) (.cons (.int .i64) (.cons (.int .i64) (.cons (.int .i64) (.cons (.int .i64) (.cons (.int .i64) (.cons (.int .i64) (.cons (.sl bytesR) (.cons (.int .i64) (.cons (.int .i64) (.cons (.int .i64) (.cons (.int .i64) (.one (.sl bytesR)))))))))))))
def runR : Rw := .cons (.int .i64) (.one (.int .i64))
def ropeR : Rw := .one (.sl chunkR)
abbrev T_Meas : Type := Int × Int × Int
abbrev T_Chunk : Type := List Int
abbrev T_Piece : Type := List Int
abbrev T_Edit : Type := Int × Int × List Int
abbrev T_Sel : Type := Int × Int
abbrev T_Lease : Type := Int × Int × Int × Int
abbrev T_Stack : Type := List T_Edit × List T_Edit
abbrev T_Req : Type := Int × Int × Int × Int × Int × List Int
abbrev T_Reply : Type := Int × Int × Int × List Int
abbrev T_Commit : Type := Int × Int × Int × List Int
abbrev T_Member : Type := Int × Int × Int × List T_Edit × List T_Edit
abbrev T_Doc : Type := List Int × List Int × List T_Commit × Int × List T_Member × List T_Lease
abbrev T_Event : Type := Int × Int × Int × List Int
abbrev T_Op : Type := Int × Int × Int × Int × Int × List Int × Int × Int × Int × Int × Int × Int × List Int
abbrev T_Mach : Type := List Int × List Int × List T_Commit × Int × List T_Member × List T_Lease × List T_Op
abbrev T_Act : Type := Int × Int × Int × Int × Int × Int × Int × Int × List Int
abbrev T_Out : Type := Int × Int × Int × Int × Int × Int × Int × List Int × Int × Int × Int × Int × List Int
abbrev T_Run : Type := Int × Int
abbrev T_Rope : Type := List T_Chunk
end Go.Ev.Seat
