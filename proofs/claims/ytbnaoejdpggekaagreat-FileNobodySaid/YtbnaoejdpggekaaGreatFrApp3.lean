/-
  This file proves: what append does where there is no room.
-/
import Derived.Test.YtbnaoejdpggekaaGreatFrApp2
namespace Go.Fr
open Go
section
variable {P : Program} {w : World}

theorem run_append_none {t t2 e ty : TypeId} {ts : List TypeId} {ti : TI} {d2 : TypeDesc} {n m c : Nat} {x : Value} {us olds : List Value} {base : Option Addr} (hel : elemTI P t = some (e, ti)) (hd2 : P.underlying t2 = some d2)
    (ha : Adds P w (w.drawn + 1) e ti d2 n x us) (hr : ¬ m + n ≤ c) (hbig : (m + n) * (ti.bytes + 1) ≤ 1000000)
    (ho : (Builtin.firstCells ti.size m (.slice base m c)).run P w.drew = .ok olds.toArray w.drew) :
    ∃ k, (Builtin.append_ (t :: t2 :: ts).toArray ty #[.slice base m c, x]).run P w =
      .ok (.slice (some ⟨w.heap.size, 0, none⟩) (m + n) (m + n + k)) { w with heap := w.heap.push (.cells (olds ++ us ++ rep ti.zs k).toArray e), drawn := w.drawn + 1 } := by
  obtain ⟨hu, hm⟩ := elemTI_some hel
  obtain ⟨_, i, hi, hsz, hb, hz, _⟩ := mkTI_some hm
  have hm1 : m + n ≤ 1000000 := Nat.le_trans (Nat.le_mul_of_pos_right (m + n) (by omega)) hbig
  have hm2 : (m + n) * ti.bytes ≤ 1000000 := Nat.le_trans (Nat.mul_le_mul_left (m + n) (by omega)) hbig
  have hcap : Builtin.nextslicecap (m + n) c * ti.bytes ≤ 2000000 := by
    have h1 := nextslicecap_le (need := m + n) (old := c) (by omega)
    have h2 : Builtin.nextslicecap (m + n) c * ti.bytes ≤ 2 * (m + n) * ti.bytes := Nat.mul_le_mul_right _ h1
    have h3 : 2 * (m + n) * ti.bytes = 2 * ((m + n) * ti.bytes) := Nat.mul_assoc _ _ _
    omega
  have h63 : ¬ (((m + n : Nat) : Int) > IntKind.i64.max) := by
    have : IntKind.i64.max = 9223372036854775807 := rfl
    rw [this]; omega
  have h48 : ¬ (Builtin.nextslicecap (m + n) c * ti.bytes > 2 ^ 48) := by omega
  obtain ⟨k, hk⟩ : ∃ k, k = w.tape w.drawn (.appendCap (m + n) c e) % (2 ^ 63 - (m + n)) := ⟨_, rfl⟩
  have hc : (choose (.appendCap (m + n) c e)).run P w = .ok (m + n + k) w.drew := by
    simp only [choose, Sem.run, Question.forced, Bool.false_eq_true, if_false, Question.cut, ← hk]
    rfl
  have ho' : (Builtin.firstCells ti.size m (.slice base m c)).run P w.drew = .ok olds.toArray w.drew := ho
  have hzc : ti.z.cells = ti.zs.toArray := by simp [TI.zs]
  have hrest : Builtin.zeroCells ti.zs.toArray k = (rep ti.zs k).toArray := by
    have := zero_rows ti.zs k
    rw [← rep_eq] at this
    exact this
  refine ⟨k, ?_⟩
  have hkk : m + n + k - (m + n) = k := by omega
  by_cases hint : ∃ kk, d2 = .int kk
  · obtain ⟨kk, rfl⟩ := hint
    obtain ⟨hbnd, ⟨kx, rfl⟩, hnew⟩ := ha.int ⟨kk, rfl⟩
    have hn1 : n ≤ 1000000 := Nat.le_trans (Nat.le_mul_of_pos_right n (by omega)) hbnd
    have e1 : IntKind.i64.wrap (n : Int) = n := wrap_fits (by omega) (by omega)
    have g0 : ¬ ((n : Int) < 0) := by omega
    have g1 : ¬ ((n : Int) * (ti.bytes : Int) > 2 ^ 48) := by
      have h2 : n * ti.bytes ≤ 1000000 := Nat.le_trans (Nat.mul_le_mul_left n (by omega)) hbnd
      have : (n : Int) * (ti.bytes : Int) = ((n * ti.bytes : Nat) : Int) := by rw [Int.natCast_mul]
      rw [this]; omega
    have hnew' : (if n * ti.size = 0 then pure #[] else do pure (Builtin.zeroCells (← zeroValue e).cells n) : Sem (Array Value)).run P w.drew = .ok us.toArray w.drew := by
      have := hnew
      simp only [apNew, Bool.not_true, Bool.false_eq_true, if_false] at this
      exact this
    simp only [Builtin.append_, List.getElem?_toArray, List.getElem?_cons_zero, List.getElem?_cons_succ, Sem.run_bind, run_underlying_of hu, run_underlying_of hd2, Result.andThen_ok, run_size_of hi, hsz, Sem.run_pure, if_true, asInt, asIntOf, e1, g0, if_false, run_info_of hi, hb, g1,
      Int.toNat_natCast, hr, Bool.not_true, Bool.false_eq_true, h63, false_and, h48, hc, run_askRoom, ho', hnew', run_zero_ti hm, hzc, hkk, hrest]
    simp [newRow]
    exact ⟨rfl, rfl, rfl⟩
  · obtain ⟨hnew, hlen⟩ := ha.row fun kk hk => hint ⟨kk, hk⟩
    have hnew' : (Builtin.firstCells ti.size n x).run P w.drew = .ok us.toArray w.drew := hnew
    have hlen' : (Builtin.lenOf x).run P w = .ok n w := hlen w.drawn
    have hni : ∀ kk, d2 ≠ .int kk := fun kk hk => hint ⟨kk, hk⟩
    cases d2 <;> first | exact absurd rfl (hni _) | skip
    all_goals simp only [Builtin.append_, List.getElem?_toArray, List.getElem?_cons_zero, List.getElem?_cons_succ, Sem.run_bind, run_underlying_of hu, run_underlying_of hd2, Result.andThen_ok, run_size_of hi, hsz, Sem.run_pure, hlen', run_info_of hi, hb,
      hr, Bool.not_false, Bool.false_eq_true, if_true, if_false, h63, false_and, h48, hc, run_askRoom, ho', hnew', run_zero_ti hm, hzc, hkk, hrest]
    all_goals (simp [newRow]; exact ⟨rfl, rfl, rfl⟩)
end
end Go.Fr
