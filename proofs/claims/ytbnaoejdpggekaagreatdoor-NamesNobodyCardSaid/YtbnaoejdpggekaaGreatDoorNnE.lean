/-
  This file proves: NamesNobody comes to true, by the evaluator.
-/
import Derived.Test.YtbnaoejdpggekaaGreatDoorFrG
import Derived.Test.YtbnaoejdpggekaaGreatDoorNnT
import Derived.Test.YtbnaoejdpggekaaGreatDoorNnL
import Derived.Test.YtbnaoejdpggekaaGreatDoorNnG
namespace Go.Proofs.YtbnaoejdpggekaaGreatDoor.Nn
open Go Go.Fr
set_option maxRecDepth 1000000

def heldT : T :=
.drew <|
.rd (.load 33 (.v 2 0)) <|
.rd (.nil (.v 0 0)) <|
.rd (.fieldAt 290 (.v 0 0) 2) <|
.rd (.load 288 (.v 0 0)) <|
.rd (.lookup 288 (.v 0 0) (.v 4 0) false) <|
.rd (.nil (.v 0 0)) <|
.rd (.fieldAt 270 (.v 0 0) 2) <|
.rd (.load 3 (.v 0 0)) <|
.rd (.load 33 (.v 10 0)) <|
.rd (.nil (.v 0 0)) <|
.rd (.fieldAt 290 (.v 0 0) 2) <|
.rd (.load 288 (.v 0 0)) <|
.rd (.lookup 288 (.v 0 0) (.v 13 0) false) <|
.rd (.nil (.v 0 0)) <|
.rd (.fieldAt 270 (.v 0 0) 2) <|
.rd (.load 3 (.v 0 0)) <|
.rd (.bin .sub 3 (.tmp 14) (.tmp 23) (.v 8 0) (.v 0 0)) <|
.fin [.tmp 5] [(.v 0 0)]

noncomputable def nat : Ev.Rec := Ev.orRec G.nat (Ev.orRec (Ev.natLock muL) (Ev.natSortedF Tryz.prog 245 254 247 3 heldT))
noncomputable def dfr : Ev.Rec := Ev.dfrLock muL

theorem comes  : allTrue (Ev.callN Tryz.prog tbl nat dfr 3000 100 3 [.agg [.sym 0, .sym 1, .sym 2], .sym 3, .sym 4] VH.none) = true := by kernel_rfl
end Go.Proofs.YtbnaoejdpggekaaGreatDoor.Nn
