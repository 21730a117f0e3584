/-
  This file proves: closed facts on the program and the row of SchedNobody.
-/
import Derived.Test.YtfonfgkjpndfaaaGreatDoorRows
import Derived.JoinedOf
namespace Go.Proofs.YtfonfgkjpndfaaaGreatDoor.schedNobody
open Go
set_option maxRecDepth 1000000
theorem j0 : (Rows.schedNobodyRow.wf (OpenSpec.ofChange Rows.schedNobodySpec)) = true := by kernel_rfl
theorem j3 : (Tryz.f4.params.all (Tryz.prog.readableRec ·)) = true := by kernel_rfl
theorem j4 : (namedTie Tryz.prog Rows.schedNobodyRow.named Rows.schedNobodySpec.vars) = true := by kernel_rfl
theorem j5 : ((Rows.schedNobodyRow.stops == [])) = true := by kernel_rfl
theorem j6 : ((Tryz.prog.stops == [])) = true := by kernel_rfl
theorem j7 : ((Rows.schedNobodyRow.knobs == [])) = true := by kernel_rfl
theorem j8 : ((Tryz.prog.stopKnobs == [])) = true := by kernel_rfl
theorem j13 : ((Rows.schedNobodyRow.maps == (Tryz.f4.params.toList ++ Rows.schedNobodySpec.plain.varTypes Tryz.prog).any (Tryz.prog.mapsRec ·))) = true := by kernel_rfl
theorem j14 : ((Rows.schedNobodyRow.ifaces == (Tryz.f4.params.toList ++ Rows.schedNobodySpec.plain.varTypes Tryz.prog).any (Tryz.prog.ifacesRec ·))) = true := by kernel_rfl
theorem j15 : ((Rows.schedNobodyRow.mapsOut == Tryz.prog.mapsAmong Tryz.f4.resultTypes.toList)) = true := by kernel_rfl
theorem j16 : ((Rows.schedNobodyRow.loops == (Tryz.f4.params.toList ++ Rows.schedNobodySpec.plain.varTypes Tryz.prog).any (Tryz.prog.loopsFrom ·))) = true := by kernel_rfl
theorem j17 : ((Rows.schedNobodyRow.wideKeys == (Tryz.f4.params.toList ++ Rows.schedNobodySpec.plain.varTypes Tryz.prog ++ Tryz.f4.resultTypes.toList).any (Tryz.prog.wideKeysFrom ·))) = true := by kernel_rfl
theorem j18 : (Rows.schedNobodySpec.vars.all (Tryz.prog.varReadable ·)) = true := by kernel_rfl
theorem j19 : (Tryz.f4.resultTypes.all (fun t => Tryz.prog.readableRec t && decide (t < Tryz.prog.types.size))) = true := by kernel_rfl
theorem j20 : ((Rows.schedNobodyRow.ifacesOut == Tryz.f4.resultTypes.toList.any (Tryz.prog.ifacesRec ·))) = true := by kernel_rfl
theorem j21 : ((Rows.schedNobodyRow.loopsOut == Tryz.f4.resultTypes.toList.any (Tryz.prog.loopsFrom ·))) = true := by kernel_rfl
theorem j23 : (Rows.schedNobodyRow.shortTexts.isNone) = true := by kernel_rfl
theorem j26 : ((Rows.schedNobodyRow.lifted == Tryz.prog.liftsFinal)) = true := by kernel_rfl
theorem j27 : ((Tryz.prog.make == some Rows.schedNobodyRow.make)) = true := by kernel_rfl
theorem j28 : ((Rows.schedNobodyRow.kinds == (if Rows.schedNobodyRow.domain.isEmpty then [] else Tryz.f4.params.toList.map fun t => match Tryz.prog.underlying t with | some (.int k) => some k | _ => none))) = true := by kernel_rfl
theorem j29 : ((Rows.schedNobodyRow.pinned == Rows.schedNobodyRow.pinnedBy)) = true := by kernel_rfl
theorem j30 : ((Rows.schedNobodyRow.veiled == (Tryz.f4.params.toList ++ Rows.schedNobodySpec.plain.varTypes Tryz.prog ++ Tryz.f4.resultTypes.toList).any (Tryz.prog.veiledRec ·))) = true := by kernel_rfl
theorem j31 : (Rows.schedNobodyRow.veiledFits Tryz.prog Tryz.f4.params.toList (Tryz.f4.params.toList ++ Rows.schedNobodySpec.plain.varTypes Tryz.prog ++ Tryz.f4.resultTypes.toList)) = true := by kernel_rfl
end Go.Proofs.YtfonfgkjpndfaaaGreatDoor.schedNobody
