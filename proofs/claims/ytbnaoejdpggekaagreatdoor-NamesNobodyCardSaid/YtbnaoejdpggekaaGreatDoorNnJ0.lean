/-
  This file proves: closed facts on the program and the row of NamesNobody.
-/
import Derived.Test.YtbnaoejdpggekaaGreatDoorRows
import Derived.JoinedOf
namespace Go.Proofs.YtbnaoejdpggekaaGreatDoor.namesNobody
open Go
set_option maxRecDepth 1000000
theorem j1 : (laidOutB Tryz.prog) = true := by kernel_rfl
end Go.Proofs.YtbnaoejdpggekaaGreatDoor.namesNobody
