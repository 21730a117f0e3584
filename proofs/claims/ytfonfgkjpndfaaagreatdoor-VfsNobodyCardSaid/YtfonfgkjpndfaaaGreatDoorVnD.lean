/-
  This file proves: where nothing has panicked the reader's deferred function does nothing.
-/
import Derived.Test.YtfonfgkjpndfaaaGreatDoorFrG
import Derived.Test.YtfonfgkjpndfaaaGreatDoorProg
import Derived.WalkKit
import Derived.Tactics
import Derived.Tactics2
import Derived.Defers
import Derived.Recover
import Derived.Laws.Pointers
import Derived.KernelRfl
namespace Go.Proofs.YtfonfgkjpndfaaaGreatDoor.Vn
open Go Go.Fr

theorem run_assert_nil (W : World) : (Instr.typeAssert .nilIface 20 38 true).run Tryz.prog W = .ok (.tuple #[.int .i64 0, .bool false]) W := by
  have hz : (zeroValue 38).run Tryz.prog W = .ok (.int .i64 0) W := Tryz.zeroValue38 W
  have hu : (underlying 38).run Tryz.prog W = .ok (.int .i64) W := Tryz.runUnderlying38 W
  simp [Instr.typeAssert, hz, hu]

theorem run_neq_nil (W : World) : (binOp .neq 20 .nilIface .nilIface).run Tryz.prog W = .ok (.bool false) W := by
  have he : (Op.equal 20 .nilIface .nilIface).run Tryz.prog W = .ok true W := run_equalIn_nil 9999 Tryz.underlying20 W
  simp only [binOp, Sem.run_bind, he, Result.andThen_ok, Sem.run_pure]
  rfl

theorem idle : IdleAt Tryz.prog 314 where
  enters := fun args w => run_callFunc_in Tryz.func314 (by kernel_rfl) (by kernel_rfl) args w
  idle := by
    intro x w
    have hta := run_assert_nil
    have hne := run_neq_nil
    refine callsD_of_wpS Tryz.func314 rfl fun c₀ cs hu => ?_
    apply wpS_seq
    apply wpS_region
    simp [wpOpsS, go_sem, recoverD, hu, Tryz.ntmps314, Exit.thenS]
    refine wpS_of_wp ?_
    simp only [Array.replicate_succ, Array.replicate_zero, List.push_toArray, List.nil_append, List.cons_append]
    go_wp2
    refine ⟨rfl, .returning, by cases c₀; simp_all, .tuple #[], ?_, rfl, rfl, rfl⟩
    simp [results, Tryz.results314]
end Go.Proofs.YtfonfgkjpndfaaaGreatDoor.Vn
