/-
  This file proves: closed facts on the program and the row of VfsNobody.
-/
import Derived.Test.YtfonfgkjpndfaaaGreatDoorRows
import Derived.JoinedOf
namespace Go.Proofs.YtfonfgkjpndfaaaGreatDoor.vfsNobody
open Go
set_option maxRecDepth 1000000
theorem j2 : (mapsRowed Tryz.prog) = true := by kernel_rfl
theorem j22 : ((Rows.vfsNobodyRow.plainKeys == Tryz.prog.plainKeys)) = true := by kernel_rfl
theorem j24 : (Tryz.prog.stopsHeard) = true := by kernel_rfl
theorem j25 : (Tryz.prog.mayEnter) = true := by kernel_rfl
end Go.Proofs.YtfonfgkjpndfaaaGreatDoor.vfsNobody
