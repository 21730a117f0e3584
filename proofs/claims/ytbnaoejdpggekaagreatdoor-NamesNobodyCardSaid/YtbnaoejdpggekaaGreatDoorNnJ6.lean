/-
  This file proves: closed facts on the program and the row of NamesNobody.
-/
import Derived.Test.YtbnaoejdpggekaaGreatDoorRows
import Derived.JoinedOf
namespace Go.Proofs.YtbnaoejdpggekaaGreatDoor.namesNobody
open Go
set_option maxRecDepth 1000000
theorem j0 : (Rows.namesNobodyRow.wf (OpenSpec.ofChange Rows.namesNobodySpec)) = true := by kernel_rfl
theorem j3 : (Tryz.f3.params.all (Tryz.prog.readableRec ·)) = true := by kernel_rfl
theorem j4 : (namedTie Tryz.prog Rows.namesNobodyRow.named Rows.namesNobodySpec.vars) = true := by kernel_rfl
theorem j5 : ((Rows.namesNobodyRow.stops == [])) = true := by kernel_rfl
theorem j6 : ((Tryz.prog.stops == [])) = true := by kernel_rfl
theorem j7 : ((Rows.namesNobodyRow.knobs == [])) = true := by kernel_rfl
theorem j8 : ((Tryz.prog.stopKnobs == [])) = true := by kernel_rfl
theorem j13 : ((Rows.namesNobodyRow.maps == (Tryz.f3.params.toList ++ Rows.namesNobodySpec.plain.varTypes Tryz.prog).any (Tryz.prog.mapsRec ·))) = true := by kernel_rfl
theorem j14 : ((Rows.namesNobodyRow.ifaces == (Tryz.f3.params.toList ++ Rows.namesNobodySpec.plain.varTypes Tryz.prog).any (Tryz.prog.ifacesRec ·))) = true := by kernel_rfl
theorem j15 : ((Rows.namesNobodyRow.mapsOut == Tryz.prog.mapsAmong Tryz.f3.resultTypes.toList)) = true := by kernel_rfl
theorem j16 : ((Rows.namesNobodyRow.loops == (Tryz.f3.params.toList ++ Rows.namesNobodySpec.plain.varTypes Tryz.prog).any (Tryz.prog.loopsFrom ·))) = true := by kernel_rfl
theorem j17 : ((Rows.namesNobodyRow.wideKeys == (Tryz.f3.params.toList ++ Rows.namesNobodySpec.plain.varTypes Tryz.prog ++ Tryz.f3.resultTypes.toList).any (Tryz.prog.wideKeysFrom ·))) = true := by kernel_rfl
theorem j18 : (Rows.namesNobodySpec.vars.all (Tryz.prog.varReadable ·)) = true := by kernel_rfl
theorem j19 : (Tryz.f3.resultTypes.all (fun t => Tryz.prog.readableRec t && decide (t < Tryz.prog.types.size))) = true := by kernel_rfl
theorem j20 : ((Rows.namesNobodyRow.ifacesOut == Tryz.f3.resultTypes.toList.any (Tryz.prog.ifacesRec ·))) = true := by kernel_rfl
theorem j21 : ((Rows.namesNobodyRow.loopsOut == Tryz.f3.resultTypes.toList.any (Tryz.prog.loopsFrom ·))) = true := by kernel_rfl
theorem j23 : (Rows.namesNobodyRow.shortTexts.isNone) = true := by kernel_rfl
theorem j26 : ((Rows.namesNobodyRow.lifted == Tryz.prog.liftsFinal)) = true := by kernel_rfl
theorem j27 : ((Tryz.prog.make == some Rows.namesNobodyRow.make)) = true := by kernel_rfl
theorem j28 : ((Rows.namesNobodyRow.kinds == (if Rows.namesNobodyRow.domain.isEmpty then [] else Tryz.f3.params.toList.map fun t => match Tryz.prog.underlying t with | some (.int k) => some k | _ => none))) = true := by kernel_rfl
theorem j29 : ((Rows.namesNobodyRow.pinned == Rows.namesNobodyRow.pinnedBy)) = true := by kernel_rfl
theorem j30 : ((Rows.namesNobodyRow.veiled == (Tryz.f3.params.toList ++ Rows.namesNobodySpec.plain.varTypes Tryz.prog ++ Tryz.f3.resultTypes.toList).any (Tryz.prog.veiledRec ·))) = true := by kernel_rfl
theorem j31 : (Rows.namesNobodyRow.veiledFits Tryz.prog Tryz.f3.params.toList (Tryz.f3.params.toList ++ Rows.namesNobodySpec.plain.varTypes Tryz.prog ++ Tryz.f3.resultTypes.toList)) = true := by kernel_rfl
end Go.Proofs.YtbnaoejdpggekaaGreatDoor.namesNobody
