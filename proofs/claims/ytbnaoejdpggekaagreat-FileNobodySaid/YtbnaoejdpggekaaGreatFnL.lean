/-
  This file proves: the program holds the library's locks.
-/
import Derived.Test.YtbnaoejdpggekaaGreatFrLock
import Derived.Test.YtbnaoejdpggekaaGreatProg
import Derived.KernelRfl
namespace Go.Proofs.YtbnaoejdpggekaaGreat.Fn
open Go Go.Fr Go.Conc.Locks
abbrev muL : MuLink := { lock := 110, unlock := 50, ilock := 183, iunlock := 111, lockSlow := 221, unlockSlow := 187, disable := 185, enable := 188, acquire := 220, relMerge := 184, cas32 := 219, add32 := 186, tMutex := 31, tIMutex := 29, tPMutex := 192, tPIMutex := 275, tPI32 := 279, tUP := 277, tNoCopy := 26, tU32 := 27 }
theorem muLib : MuLib Tryz.prog muL :=
  ⟨Tryz.func110, Tryz.func50, Tryz.func183, Tryz.func111, Tryz.func185, Tryz.func188, Tryz.func220, Tryz.func184, Tryz.func219, Tryz.func186, Tryz.underlying29, Tryz.runUnderlying29, Tryz.sizeOf29, Tryz.isAgg29, Tryz.zeroValue29, Tryz.underlying31, Tryz.runUnderlying31, Tryz.sizeOf31, Tryz.isAgg31, Tryz.zeroValue31, Tryz.underlying192, Tryz.runUnderlying192, Tryz.sizeOf192, Tryz.isAgg192, Tryz.zeroValue192, Tryz.underlying275, Tryz.runUnderlying275, Tryz.sizeOf275, Tryz.isAgg275, Tryz.zeroValue275, Tryz.underlying279, Tryz.runUnderlying279, Tryz.sizeOf279, Tryz.isAgg279, Tryz.zeroValue279, Tryz.underlying277, Tryz.runUnderlying277, Tryz.sizeOf277, Tryz.isAgg277, Tryz.zeroValue277, Tryz.underlying26, Tryz.runUnderlying26, Tryz.sizeOf26, Tryz.isAgg26, Tryz.zeroValue26, Tryz.underlying21, Tryz.runUnderlying21, Tryz.sizeOf21, Tryz.isAgg21, Tryz.zeroValue21, (by kernel_rfl)⟩
end Go.Proofs.YtbnaoejdpggekaaGreat.Fn
