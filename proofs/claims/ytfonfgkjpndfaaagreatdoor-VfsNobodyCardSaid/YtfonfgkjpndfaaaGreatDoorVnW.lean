/-
  This file proves: a call of VfsNobody returns true and leaves all that was there.
-/
import Derived.Test.YtfonfgkjpndfaaaGreatDoorVnE
import Derived.Test.YtfonfgkjpndfaaaGreatDoorVnS
import Derived.Test.YtfonfgkjpndfaaaGreatDoorVnD
namespace Go.Proofs.YtfonfgkjpndfaaaGreatDoor.Vn
open Go Go.Fr Go.RowKit
set_option maxRecDepth 1000000

theorem mixed : Tryz.prog.follows .mixedOrders = true := by kernel_rfl

theorem den491 : ∀ args : List Value, args.length = 3 → denF Tryz.f491 [] args = heldT.sp 0 (rows args) [] := by
  intro args hl
  obtain ⟨x0, x1, x2, rfl⟩ := args3 hl
  kernel_rfl

theorem nat_ok (base : Nat) (w : World) : RecOk Tryz.prog base w nat := orRec_ok (natLock_ok muLib) (orRec_ok (natSortedN_ok valuesC) (orRec_ok (natSorted_ok sorted451) (natSortedF_ok mixed heldC Tryz.func491 (by kernel_rfl) (by kernel_rfl) den491 (by kernel_rfl))))
theorem dfr_ok (base : Nat) (w : World) : DfrOk Tryz.prog base w dfr := orDfr_ok (dfrLock_ok muLib) (dfrIdle_ok idle)

theorem walk (x0 x1 x2 x3 x4 x5 x6 : Value) (w : World) (as' : List Value) (hv : VRs [] [.agg [.raw x0, .raw x1, .raw x2, .raw x3, .raw x4, .raw x5, .raw x6]] as') :
    Calls Tryz.prog 3 as'.toArray w fun e w' => e = .returned (.bool true) ∧ Below w.heap.size w w' :=
  calls_of_evs Tryz.func3 (by kernel_rfl) (by kernel_rfl) w (callN_ok mixed tblOk (nat_ok _ w) (dfr_ok _ w) 100) hv (comes x0 x1 x2 x3 x4 x5 x6)
end Go.Proofs.YtfonfgkjpndfaaaGreatDoor.Vn
