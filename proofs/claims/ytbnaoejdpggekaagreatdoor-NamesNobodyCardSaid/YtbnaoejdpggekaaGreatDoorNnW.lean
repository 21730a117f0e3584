/-
  This file proves: a call of NamesNobody returns true and leaves all that was there.
-/
import Derived.Test.YtbnaoejdpggekaaGreatDoorNnE
import Derived.Test.YtbnaoejdpggekaaGreatDoorNnS

namespace Go.Proofs.YtbnaoejdpggekaaGreatDoor.Nn
open Go Go.Fr Go.RowKit
set_option maxRecDepth 1000000

theorem mixed : Tryz.prog.follows .mixedOrders = true := by kernel_rfl

theorem den247 : ∀ args : List Value, args.length = 3 → denF Tryz.f247 [] args = heldT.sp 0 (rows args) [] := by
  intro args hl
  obtain ⟨x0, x1, x2, rfl⟩ := args3 hl
  kernel_rfl

theorem nat_ok (a b c i : Int) (s : ByteArray) (base : Nat) (w : World) : @RecOk (G.sig a b c i s) Tryz.prog base w nat :=
  letI : Sig := G.sig a b c i s
  orRec_ok (G.nat_ok a b c i s) (orRec_ok (natLock_ok muLib) (natSortedF_ok mixed heldC Tryz.func247 (by kernel_rfl) (by kernel_rfl) den247 (by kernel_rfl)))

theorem rel (a b c i : Int) (s : ByteArray) :
    @VRs (G.sig a b c i s) [] [.agg [.sym 0, .sym 1, .sym 2], .sym 3, .sym 4] [.agg #[.int .i64 a, .int .i64 b, .int .i64 c], .int .i64 i, .string s] :=
  letI : Sig := G.sig a b c i s
  .cons (.agg (us := [_, _, _]) rfl (Al.cons (VR.sym (n := 0)) (Al.cons (VR.sym (n := 1)) (Al.cons (VR.sym (n := 2)) Al.nil))).2) (.cons (VR.sym (n := 3)) (.cons (VR.sym (n := 4)) .nil))

theorem walk (a b c i : Int) (s : ByteArray) (w : World) (as' : List Value) (hv : @VRs (G.sig a b c i s) [] [.agg [.sym 0, .sym 1, .sym 2], .sym 3, .sym 4] as') :
    Calls Tryz.prog 3 as'.toArray w fun e w' => e = .returned (.bool true) ∧ Below w.heap.size w w' :=
  letI : Sig := G.sig a b c i s
  calls_of_evs Tryz.func3 (by kernel_rfl) (by kernel_rfl) w (callN_ok mixed tblOk (nat_ok a b c i s _ w) (dfrLock_ok muLib) 100) hv comes
end Go.Proofs.YtbnaoejdpggekaaGreatDoor.Nn
