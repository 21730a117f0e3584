/-
  This file proves: closed facts on the program and the card of NamesNobody.
-/
import Derived.Test.YtbnaoejdpggekaaGreatDoorRows
import Derived.Test.YtbnaoejdpggekaaGreatDoorCards
import Derived.JoinedOf
import Derived.SevenTiedAt
namespace Go.Proofs.YtbnaoejdpggekaaGreatDoor.namesNobody
open Go
set_option maxRecDepth 1000000
theorem k0 : Rows.namesNobodyRow.wfByText (OpenSpec.ofChange Rows.namesNobodySpec) = true := by kernel_rfl
theorem k1 : Tryz.prog.mainIs = some (((true, "6e4f5ac8557be063740f33031abc442b5e15acfbc0ad481dacf97a24f81d33b4") : Bool × String).1, ((true, "6e4f5ac8557be063740f33031abc442b5e15acfbc0ad481dacf97a24f81d33b4") : Bool × String).2.toList) := by kernel_rfl
end Go.Proofs.YtbnaoejdpggekaaGreatDoor.namesNobody
