/-
  This file proves: closed facts on the program and the row of VfsNobody.
-/
import Derived.Test.YtfonfgkjpndfaaaGreatDoorRows
import Derived.JoinedOf
namespace Go.Proofs.YtfonfgkjpndfaaaGreatDoor.vfsNobody
open Go
set_option maxRecDepth 1000000
theorem j11 : ((Rows.vfsNobodyRow.recurses == Tryz.prog.recurses 3)) = true := by kernel_rfl
end Go.Proofs.YtfonfgkjpndfaaaGreatDoor.vfsNobody
