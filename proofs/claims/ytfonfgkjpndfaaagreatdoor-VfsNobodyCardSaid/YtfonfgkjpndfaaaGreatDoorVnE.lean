/-
  This file proves: VfsNobody comes to true, by the evaluator.
-/
import Derived.Test.YtfonfgkjpndfaaaGreatDoorFrG
import Derived.Test.YtfonfgkjpndfaaaGreatDoorVnT
import Derived.Test.YtfonfgkjpndfaaaGreatDoorVnL
namespace Go.Proofs.YtfonfgkjpndfaaaGreatDoor.Vn
open Go Go.Fr
set_option maxRecDepth 1000000

def heldT : T :=
.drew <|
.rd (.load 108 (.v 2 0)) <|
.rd (.nil (.v 0 0)) <|
.rd (.fieldAt 268 (.v 0 0) 2) <|
.rd (.load 266 (.v 0 0)) <|
.rd (.lookup 266 (.v 0 0) (.v 4 0) false) <|
.rd (.nil (.v 0 0)) <|
.rd (.fieldAt 374 (.v 0 0) 2) <|
.rd (.load 3 (.v 0 0)) <|
.rd (.load 108 (.v 10 0)) <|
.rd (.nil (.v 0 0)) <|
.rd (.fieldAt 268 (.v 0 0) 2) <|
.rd (.load 266 (.v 0 0)) <|
.rd (.lookup 266 (.v 0 0) (.v 13 0) false) <|
.rd (.nil (.v 0 0)) <|
.rd (.fieldAt 374 (.v 0 0) 2) <|
.rd (.load 3 (.v 0 0)) <|
.rd (.bin .sub 3 (.tmp 14) (.tmp 23) (.v 8 0) (.v 0 0)) <|
.fin [.tmp 5] [(.v 0 0)]

noncomputable def nat : Ev.Rec := Ev.orRec (Ev.natLock muL) (Ev.orRec (Ev.natSortedN 25 42) (Ev.orRec (Ev.natSorted 25 451 3) (Ev.natSortedF Tryz.prog 489 500 491 3 heldT)))
noncomputable def dfr : Ev.Rec := Ev.orRec (Ev.dfrLock muL) (Ev.dfrIdle 314)

theorem comes (x0 x1 x2 x3 x4 x5 x6 : Value) : allTrue (Ev.callN Tryz.prog tbl nat dfr 3000 100 3 [.agg [.raw x0, .raw x1, .raw x2, .raw x3, .raw x4, .raw x5, .raw x6]] VH.none) = true := by kernel_rfl
end Go.Proofs.YtfonfgkjpndfaaaGreatDoor.Vn
