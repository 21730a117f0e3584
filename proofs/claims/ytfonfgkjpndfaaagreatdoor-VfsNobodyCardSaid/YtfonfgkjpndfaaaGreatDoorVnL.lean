/-
  This file proves: the program holds the library's locks.
-/
import Derived.Test.YtfonfgkjpndfaaaGreatDoorFrF
import Derived.Test.YtfonfgkjpndfaaaGreatDoorProg
import Derived.KernelRfl
namespace Go.Proofs.YtfonfgkjpndfaaaGreatDoor.Vn
open Go Go.Fr Go.Conc.Locks
abbrev muL : MuLink := { lock := 93, unlock := 37, ilock := 187, iunlock := 94, lockSlow := 302, unlockSlow := 191, disable := 189, enable := 192, acquire := 301, relMerge := 188, cas32 := 300, add32 := 190, tMutex := 107, tIMutex := 105, tPMutex := 160, tPIMutex := 250, tPI32 := 254, tUP := 252, tNoCopy := 102, tU32 := 103 }
theorem muLib : MuLib Tryz.prog muL :=
  ⟨Tryz.func93, Tryz.func37, Tryz.func187, Tryz.func94, Tryz.func189, Tryz.func192, Tryz.func301, Tryz.func188, Tryz.func300, Tryz.func190, Tryz.underlying105, Tryz.runUnderlying105, Tryz.sizeOf105, Tryz.isAgg105, Tryz.zeroValue105, Tryz.underlying107, Tryz.runUnderlying107, Tryz.sizeOf107, Tryz.isAgg107, Tryz.zeroValue107, Tryz.underlying160, Tryz.runUnderlying160, Tryz.sizeOf160, Tryz.isAgg160, Tryz.zeroValue160, Tryz.underlying250, Tryz.runUnderlying250, Tryz.sizeOf250, Tryz.isAgg250, Tryz.zeroValue250, Tryz.underlying254, Tryz.runUnderlying254, Tryz.sizeOf254, Tryz.isAgg254, Tryz.zeroValue254, Tryz.underlying252, Tryz.runUnderlying252, Tryz.sizeOf252, Tryz.isAgg252, Tryz.zeroValue252, Tryz.underlying102, Tryz.runUnderlying102, Tryz.sizeOf102, Tryz.isAgg102, Tryz.zeroValue102, Tryz.underlying21, Tryz.runUnderlying21, Tryz.sizeOf21, Tryz.isAgg21, Tryz.zeroValue21, (by kernel_rfl)⟩
end Go.Proofs.YtfonfgkjpndfaaaGreatDoor.Vn
