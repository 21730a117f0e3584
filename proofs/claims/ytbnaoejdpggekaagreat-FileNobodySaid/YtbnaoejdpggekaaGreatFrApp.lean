/-
  This file proves: what the evaluator says of append is so.
-/
import Derived.Test.YtbnaoejdpggekaaGreatFrOpA
namespace Go.Fr
open Go

/-- What is appended. -/
def apNew (elem : TypeId) (size n : Nat) (zeros : Bool) (x : Value) : Sem (Array Value) :=
  if !zeros then Builtin.firstCells size n x
  else if n * size = 0 then pure #[]
  else do pure (Builtin.zeroCells (← zeroValue elem).cells n)

section
variable {P : Program} {w : World} {base : Nat} {w0 : World} {ρ : Lay} {h : VH}

/-- What is said of what is appended is so. -/
theorem Ev.added_int {e t : TypeId} {ti : TI} {kk : IntKind} {x : V} {x' : Value} {new : List V} {n : Nat} (hel : elemTI P t = some (e, ti))
    (hx : VR ρ x x') (he : Ev.added h ti (.int kk) x = some (new, n)) : ∃ us, VRs ρ new us ∧ us.length = n * ti.size ∧ (∀ d, (apNew e ti.size n true x').run P { w with drawn := d } = .ok us.toArray { w with drawn := d }) ∧
    n * (ti.bytes + 1) ≤ 1000000 ∧ ∃ k, x' = .int k n := by
  obtain ⟨hu, hm⟩ := elemTI_some hel
  have hzl := zs_len hm
  simp only [Ev.added] at he
  split at he
  · rename_i k j
    cases hx
    split at he
    · rename_i hq
      obtain ⟨q1, q2⟩ := hq
      cases he
      obtain ⟨n, rfl⟩ := Int.eq_ofNat_of_zero_le q1
      have hb : n * (ti.bytes + 1) ≤ 1000000 := Int.ofNat_le.1 (by rw [Int.natCast_mul, Int.natCast_add]; exact q2)
      refine ⟨rep ti.zs n, rep_rel _ _, by rw [rep_len, hzl]; rfl, fun d => ?_, hb, k, rfl⟩
      simp only [Int.toNat_natCast, apNew, Bool.not_true, Bool.false_eq_true, if_false]
      by_cases h0 : n * ti.size = 0
      · have e3 : rep ti.zs n = [] := by
          have := rep_len ti.zs n
          rw [hzl, h0] at this
          exact List.length_eq_zero_iff.1 this
        simp [h0, e3]
      · have hzc : ti.z.cells = ti.zs.toArray := by simp [TI.zs]
        simp only [h0, if_false, Sem.run_bind, run_zero_ti hm, Result.andThen_ok, Sem.run_pure, hzc, Builtin.zeroCells]
        have := zero_rows ti.zs n
        rw [← rep_eq] at this
        exact congrArg (fun a => Result.ok a _) this
    · cases he
  · cases he

theorem Ev.sliceCells_len {size n : Nat} {x : V} {cs : List V} (hl : Ev.lenOf x = some n) (he : Ev.sliceCells h size x = some cs) : cs.length = n * size := by
  unfold Ev.sliceCells at he
  split at he
  · cases he; simp only [Ev.lenOf, Option.some.injEq] at hl; simp [← hl]
  · split at he
    · rename_i h1; subst h1; cases he
      simp only [Ev.lenOf, Option.some.injEq] at hl
      simp [← hl]
    · cases he
  · split at he
    · rename_i hes; subst hes
      split at he
      · split at he
        · cases he
          simp only [Ev.lenOf, Option.some.injEq] at hl
          subst hl
          simp only [List.length_take, List.length_drop]
          omega
        · cases he
      · cases he
    · cases he
  · cases he

theorem Ev.added_row {e : TypeId} {ti : TI} {d2 : TypeDesc} {x : V} {x' : Value} {new : List V} {n : Nat} (r : WR base w0 ρ h w) (hni : ∀ k, d2 ≠ .int k)
    (hx : VR ρ x x') (he : Ev.added h ti d2 x = some (new, n)) : (∀ d, ∃ us, VRs ρ new us ∧ us.length = n * ti.size ∧ (apNew e ti.size n false x').run P { w with drawn := d } = .ok us.toArray { w with drawn := d }) ∧
    (∀ d, (Builtin.lenOf x').run P { w with drawn := d } = .ok n { w with drawn := d }) := by
  have he' : (match Ev.sliceCells h ti.size x, Ev.lenOf x with | some new, some n => some (new, n) | _, _ => none) = some (new, n) := by
    unfold Ev.added at he
    split at he
    · exact absurd rfl (hni _)
    · exact he
  split at he'
  · rename_i new' n' hc hl
    cases he'
    have hlen := Ev.sliceCells_len hl hc
    refine ⟨fun d => ?_, fun d => run_lenOf hx hl⟩
    obtain ⟨us, h1, h2⟩ := run_first (P := P) (m := n) (r.drew d) hx hl hc (Nat.le_refl _)
    rw [List.take_of_length_le (by omega)] at h2
    exact ⟨us, h2, by rw [← h2.1]; exact hlen, by simp [apNew, h1]⟩
  · cases he'
end
end Go.Fr
