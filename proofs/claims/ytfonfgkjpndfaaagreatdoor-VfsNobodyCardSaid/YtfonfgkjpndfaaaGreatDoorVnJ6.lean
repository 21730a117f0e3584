/-
  This file proves: closed facts on the program and the row of VfsNobody.
-/
import Derived.Test.YtfonfgkjpndfaaaGreatDoorRows
import Derived.JoinedOf
namespace Go.Proofs.YtfonfgkjpndfaaaGreatDoor.vfsNobody
open Go
set_option maxRecDepth 1000000
theorem j0 : (Rows.vfsNobodyRow.wf (OpenSpec.ofChange Rows.vfsNobodySpec)) = true := by kernel_rfl
theorem j3 : (Tryz.f3.params.all (Tryz.prog.readableRec ·)) = true := by kernel_rfl
theorem j4 : (namedTie Tryz.prog Rows.vfsNobodyRow.named Rows.vfsNobodySpec.vars) = true := by kernel_rfl
theorem j5 : ((Rows.vfsNobodyRow.stops == [])) = true := by kernel_rfl
theorem j6 : ((Tryz.prog.stops == [])) = true := by kernel_rfl
theorem j7 : ((Rows.vfsNobodyRow.knobs == [])) = true := by kernel_rfl
theorem j8 : ((Tryz.prog.stopKnobs == [])) = true := by kernel_rfl
theorem j13 : ((Rows.vfsNobodyRow.maps == (Tryz.f3.params.toList ++ Rows.vfsNobodySpec.plain.varTypes Tryz.prog).any (Tryz.prog.mapsRec ·))) = true := by kernel_rfl
theorem j14 : ((Rows.vfsNobodyRow.ifaces == (Tryz.f3.params.toList ++ Rows.vfsNobodySpec.plain.varTypes Tryz.prog).any (Tryz.prog.ifacesRec ·))) = true := by kernel_rfl
theorem j15 : ((Rows.vfsNobodyRow.mapsOut == Tryz.prog.mapsAmong Tryz.f3.resultTypes.toList)) = true := by kernel_rfl
theorem j16 : ((Rows.vfsNobodyRow.loops == (Tryz.f3.params.toList ++ Rows.vfsNobodySpec.plain.varTypes Tryz.prog).any (Tryz.prog.loopsFrom ·))) = true := by kernel_rfl
theorem j17 : ((Rows.vfsNobodyRow.wideKeys == (Tryz.f3.params.toList ++ Rows.vfsNobodySpec.plain.varTypes Tryz.prog ++ Tryz.f3.resultTypes.toList).any (Tryz.prog.wideKeysFrom ·))) = true := by kernel_rfl
theorem j18 : (Rows.vfsNobodySpec.vars.all (Tryz.prog.varReadable ·)) = true := by kernel_rfl
theorem j19 : (Tryz.f3.resultTypes.all (fun t => Tryz.prog.readableRec t && decide (t < Tryz.prog.types.size))) = true := by kernel_rfl
theorem j20 : ((Rows.vfsNobodyRow.ifacesOut == Tryz.f3.resultTypes.toList.any (Tryz.prog.ifacesRec ·))) = true := by kernel_rfl
theorem j21 : ((Rows.vfsNobodyRow.loopsOut == Tryz.f3.resultTypes.toList.any (Tryz.prog.loopsFrom ·))) = true := by kernel_rfl
theorem j23 : (Rows.vfsNobodyRow.shortTexts.isNone) = true := by kernel_rfl
theorem j26 : ((Rows.vfsNobodyRow.lifted == Tryz.prog.liftsFinal)) = true := by kernel_rfl
theorem j27 : ((Tryz.prog.make == some Rows.vfsNobodyRow.make)) = true := by kernel_rfl
theorem j28 : ((Rows.vfsNobodyRow.kinds == (if Rows.vfsNobodyRow.domain.isEmpty then [] else Tryz.f3.params.toList.map fun t => match Tryz.prog.underlying t with | some (.int k) => some k | _ => none))) = true := by kernel_rfl
theorem j29 : ((Rows.vfsNobodyRow.pinned == Rows.vfsNobodyRow.pinnedBy)) = true := by kernel_rfl
theorem j30 : ((Rows.vfsNobodyRow.veiled == (Tryz.f3.params.toList ++ Rows.vfsNobodySpec.plain.varTypes Tryz.prog ++ Tryz.f3.resultTypes.toList).any (Tryz.prog.veiledRec ·))) = true := by kernel_rfl
theorem j31 : (Rows.vfsNobodyRow.veiledFits Tryz.prog Tryz.f3.params.toList (Tryz.f3.params.toList ++ Rows.vfsNobodySpec.plain.varTypes Tryz.prog ++ Tryz.f3.resultTypes.toList)) = true := by kernel_rfl
end Go.Proofs.YtfonfgkjpndfaaaGreatDoor.vfsNobody
