/-
  This file proves: closed facts on the program and the card of VfsNobody.
-/
import Derived.Test.YtfonfgkjpndfaaaGreatDoorRows
import Derived.Test.YtfonfgkjpndfaaaGreatDoorCards
import Derived.JoinedOf
import Derived.SevenTiedAt
import Derived.Test.YtfonfgkjpndfaaaGreatDoorFrGoes
namespace Go.Proofs.YtfonfgkjpndfaaaGreatDoor.vfsNobody
open Go
set_option maxRecDepth 1000000
theorem k0 : Rows.vfsNobodyRow.wfByText (OpenSpec.ofChange Rows.vfsNobodySpec) = true := by kernel_rfl
theorem k1 : Tryz.prog.mainIs = some (((true, "150f7e3145f0be06d620320e5e0a9a4abebe2850689786b96c0745748ede5c95") : Bool × String).1, ((true, "150f7e3145f0be06d620320e5e0a9a4abebe2850689786b96c0745748ede5c95") : Bool × String).2.toList) := by kernel_rfl
end Go.Proofs.YtfonfgkjpndfaaaGreatDoor.vfsNobody
