/-
  This file proves: closed facts on the program and the card of VfsNobody.
-/
import Derived.Test.YtfonfgkjpndfaaaGreatDoorRows
import Derived.Test.YtfonfgkjpndfaaaGreatDoorCards
import Derived.JoinedOf
import Derived.SevenTiedAt
import Derived.Test.YtfonfgkjpndfaaaGreatDoorFrGoes
namespace Go.Proofs.YtfonfgkjpndfaaaGreatDoor.vfsNobody
open Go
set_option maxRecDepth 1000000
theorem all_stay : Tryz.prog.funcs.any Func.goes = false := by kernel_rfl
theorem k3 : false = Rows.vfsNobodyRow.goesBy Tryz.prog := Go.Fr.goesBy_none rfl all_stay
end Go.Proofs.YtfonfgkjpndfaaaGreatDoor.vfsNobody
