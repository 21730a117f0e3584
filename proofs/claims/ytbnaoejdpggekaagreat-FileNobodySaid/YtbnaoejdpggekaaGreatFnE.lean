/-
  This file proves: FileNobody comes to true, by the evaluator.
-/
import Derived.Test.YtbnaoejdpggekaaGreatFrRun
import Derived.Test.YtbnaoejdpggekaaGreatFnT
import Derived.Test.YtbnaoejdpggekaaGreatFnL
namespace Go.Proofs.YtbnaoejdpggekaaGreat.Fn
open Go Go.Fr
set_option maxRecDepth 1000000

def t274x : T :=
.drew <|
.rd (.load 33 (.v 2 0)) <|
.rd (.nil (.v 0 0)) <|
.rd (.fieldAt 300 (.v 0 0) 2) <|
.rd (.load 298 (.v 0 0)) <|
.rd (.lookup 298 (.v 0 0) (.v 4 0) false) <|
.rd (.nil (.v 0 0)) <|
.rd (.fieldAt 285 (.v 0 0) 2) <|
.rd (.load 3 (.v 0 0)) <|
.rd (.load 33 (.v 10 0)) <|
.rd (.nil (.v 0 0)) <|
.rd (.fieldAt 300 (.v 0 0) 2) <|
.rd (.load 298 (.v 0 0)) <|
.rd (.lookup 298 (.v 0 0) (.v 13 0) false) <|
.rd (.nil (.v 0 0)) <|
.rd (.fieldAt 285 (.v 0 0) 2) <|
.rd (.load 3 (.v 0 0)) <|
.rd (.bin .sub 3 (.tmp 14) (.tmp 23) (.v 8 0) (.v 0 0)) <|
.fin [.tmp 5] [(.v 0 0)]
def held : T := t274x
noncomputable def nat : Ev.Rec := Ev.orRec (Ev.natLock muL) (Ev.orRec (Ev.natSorted 213 261 3) (Ev.natSortedF Tryz.prog 272 283 274 3 held))

theorem comes (a b c i n : Int) : (Ev.callN Tryz.prog tbl nat (Ev.dfrLock muL) 1000 100 4 [.agg [.raw (.int .i64 a), .raw (.int .i64 b), .raw (.int .i64 c)], .raw (.int .i64 i), .raw (.int .i64 n)] VH.none).map (List.map (·.1)) = some [.raw (.bool true)] := by kernel_rfl
end Go.Proofs.YtbnaoejdpggekaaGreat.Fn
