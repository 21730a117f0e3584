/-
  This file proves: the program holds the library's locks.
-/
import Derived.Test.YtbnaoejdpggekaaGreatDoorFrF
import Derived.Test.YtbnaoejdpggekaaGreatDoorProg
import Derived.KernelRfl
namespace Go.Proofs.YtbnaoejdpggekaaGreatDoor.Nn
open Go Go.Fr Go.Conc.Locks
abbrev muL : MuLink := { lock := 92, unlock := 53, ilock := 147, iunlock := 93, lockSlow := 186, unlockSlow := 151, disable := 149, enable := 152, acquire := 185, relMerge := 148, cas32 := 184, add32 := 150, tMutex := 31, tIMutex := 29, tPMutex := 182, tPIMutex := 255, tPI32 := 259, tUP := 257, tNoCopy := 26, tU32 := 27 }
theorem muLib : MuLib Tryz.prog muL :=
  ⟨Tryz.func92, Tryz.func53, Tryz.func147, Tryz.func93, Tryz.func149, Tryz.func152, Tryz.func185, Tryz.func148, Tryz.func184, Tryz.func150, Tryz.underlying29, Tryz.runUnderlying29, Tryz.sizeOf29, Tryz.isAgg29, Tryz.zeroValue29, Tryz.underlying31, Tryz.runUnderlying31, Tryz.sizeOf31, Tryz.isAgg31, Tryz.zeroValue31, Tryz.underlying182, Tryz.runUnderlying182, Tryz.sizeOf182, Tryz.isAgg182, Tryz.zeroValue182, Tryz.underlying255, Tryz.runUnderlying255, Tryz.sizeOf255, Tryz.isAgg255, Tryz.zeroValue255, Tryz.underlying259, Tryz.runUnderlying259, Tryz.sizeOf259, Tryz.isAgg259, Tryz.zeroValue259, Tryz.underlying257, Tryz.runUnderlying257, Tryz.sizeOf257, Tryz.isAgg257, Tryz.zeroValue257, Tryz.underlying26, Tryz.runUnderlying26, Tryz.sizeOf26, Tryz.isAgg26, Tryz.zeroValue26, Tryz.underlying21, Tryz.runUnderlying21, Tryz.sizeOf21, Tryz.isAgg21, Tryz.zeroValue21, (by kernel_rfl)⟩
end Go.Proofs.YtbnaoejdpggekaaGreatDoor.Nn
