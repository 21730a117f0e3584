/-
  This file proves: closed facts on the program and the card of NamesNobody.
-/
import Derived.Test.YtbnaoejdpggekaaGreatDoorRows
import Derived.Test.YtbnaoejdpggekaaGreatDoorCards
import Derived.JoinedOf
import Derived.SevenTiedAt
namespace Go.Proofs.YtbnaoejdpggekaaGreatDoor.namesNobody
open Go
set_option maxRecDepth 1000000
theorem k2 : true = Tryz.prog.looks [] := by kernel_rfl
end Go.Proofs.YtbnaoejdpggekaaGreatDoor.namesNobody
