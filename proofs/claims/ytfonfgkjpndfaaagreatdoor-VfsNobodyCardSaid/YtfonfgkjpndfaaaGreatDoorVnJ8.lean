/-
  This file proves: closed facts on the program and the card of VfsNobody.
-/
import Derived.Test.YtfonfgkjpndfaaaGreatDoorRows
import Derived.Test.YtfonfgkjpndfaaaGreatDoorCards
import Derived.JoinedOf
import Derived.SevenTiedAt
import Derived.Test.YtfonfgkjpndfaaaGreatDoorFrGoes
namespace Go.Proofs.YtfonfgkjpndfaaaGreatDoor.vfsNobody
open Go
set_option maxRecDepth 1000000
theorem k2 : true = Tryz.prog.looks [] := by kernel_rfl
end Go.Proofs.YtfonfgkjpndfaaaGreatDoor.vfsNobody
