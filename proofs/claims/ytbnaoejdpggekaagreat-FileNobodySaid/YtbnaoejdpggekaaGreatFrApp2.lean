/-
  This file proves: what append does, where there is room and where there is none.
-/
import Derived.Test.YtbnaoejdpggekaaGreatFrApp
namespace Go.Fr
open Go
section
variable {P : Program} {w : World}

/-- How many are appended, and what. -/
structure Adds (P : Program) (w : World) (d : Nat) (e : TypeId) (ti : TI) (d2 : TypeDesc) (n : Nat) (x : Value) (us : List Value) : Prop where
  int : (∃ kk, d2 = .int kk) → n * (ti.bytes + 1) ≤ 1000000 ∧ (∃ k, x = .int k n) ∧ (apNew e ti.size n true x).run P { w with drawn := d } = .ok us.toArray { w with drawn := d }
  row : (∀ kk, d2 ≠ .int kk) → (apNew e ti.size n false x).run P { w with drawn := d } = .ok us.toArray { w with drawn := d } ∧ ∀ d, (Builtin.lenOf x).run P { w with drawn := d } = .ok n { w with drawn := d }

theorem run_append_room {t t2 e ty : TypeId} {ts : List TypeId} {ti : TI} {d2 : TypeDesc} {n m c : Nat} {x : Value} {us : List Value} {base : Option Addr} {w' : World} (hel : elemTI P t = some (e, ti)) (hd2 : P.underlying t2 = some d2)
    (ha : Adds P w w.drawn e ti d2 n x us) (hr : m + n ≤ c)
    (hs : match base with | some a => (storeCells (a.add (m * ti.size)) us).run P w = .ok () w' | none => w' = w) :
    (Builtin.append_ (t :: t2 :: ts).toArray ty #[.slice base m c, x]).run P w = .ok (.slice base (m + n) c) w' := by
  obtain ⟨hu, hm⟩ := elemTI_some hel
  obtain ⟨_, i, hi, hsz, hb, hz, _⟩ := mkTI_some hm
  by_cases hint : ∃ kk, d2 = .int kk
  · obtain ⟨kk, rfl⟩ := hint
    obtain ⟨hbnd, ⟨k, rfl⟩, hnew⟩ := ha.int ⟨kk, rfl⟩
    have hn1 : n ≤ 1000000 := Nat.le_trans (Nat.le_mul_of_pos_right n (by omega)) hbnd
    have e1 : IntKind.i64.wrap (n : Int) = n := wrap_fits (by omega) (by omega)
    have g0 : ¬ ((n : Int) < 0) := by omega
    have g1 : ¬ ((n : Int) * (ti.bytes : Int) > 2 ^ 48) := by
      have h2 : n * ti.bytes ≤ 1000000 := Nat.le_trans (Nat.mul_le_mul_left n (by omega)) hbnd
      have : (n : Int) * (ti.bytes : Int) = ((n * ti.bytes : Nat) : Int) := by rw [Int.natCast_mul]
      rw [this]; omega
    simp only [apNew, Bool.not_true, Bool.false_eq_true, if_false] at hnew
    simp only [Builtin.append_, List.getElem?_toArray, List.getElem?_cons_zero, List.getElem?_cons_succ, Sem.run_bind, run_underlying_of hu, run_underlying_of hd2, Result.andThen_ok, run_size_of hi, hsz, Sem.run_pure, if_true, asInt, asIntOf, e1, g0, if_false, run_info_of hi, hb, g1,
      Int.toNat_natCast, hr, Bool.not_true, Bool.false_eq_true]
    have hnew' : (if n * ti.size = 0 then pure #[] else do pure (Builtin.zeroCells (← zeroValue e).cells n) : Sem (Array Value)).run P w = .ok us.toArray w := hnew
    rw [hnew']
    cases base with
    | none => simp only at hs; subst hs; simp
    | some a => simp only at hs; simp [hs]
  · have hni : ∀ kk, d2 ≠ .int kk := fun kk hk => hint ⟨kk, hk⟩
    obtain ⟨hnew, hlen⟩ := ha.row hni
    have hnew' : (Builtin.firstCells ti.size n x).run P w = .ok us.toArray w := hnew
    have hlen' : (Builtin.lenOf x).run P w = .ok n w := hlen w.drawn
    simp only [Builtin.append_, List.getElem?_toArray, List.getElem?_cons_zero, List.getElem?_cons_succ, Sem.run_bind, run_underlying_of hu, run_underlying_of hd2, Result.andThen_ok, run_size_of hi, hsz, Sem.run_pure, hlen',
      hr, Bool.not_false, Bool.false_eq_true, if_true, if_false, hnew']
    cases base with
    | none => simp only at hs; subst hs; simp
    | some a => simp only at hs; simp [hs]
end
end Go.Fr
