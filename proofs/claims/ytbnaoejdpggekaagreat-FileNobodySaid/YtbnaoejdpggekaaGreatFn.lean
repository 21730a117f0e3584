/-
  This file proves: FileNobody returns true for every input and turns nothing that was there: a volume that is nil, or that no call made, is refused by Read, Write and Truncate, and a free inode of a new volume can't be read. There is no condition.
-/
import Derived.Test.YtbnaoejdpggekaaGreatRows
import Derived.Test.YtbnaoejdpggekaaGreatFnE
import Derived.Test.YtbnaoejdpggekaaGreatFnF
import Derived.WalkKit
import Derived.ProofKit
import Derived.OpenShut
import Derived.ChangeOld
import Derived.Below
import Derived.SizedLaws
import Derived.Carry
namespace Go.Proofs.YtbnaoejdpggekaaGreat.fileNobody
open Go Go.ChangeShapes Go.WideShapes Go.ChangeAt Go.RowKit Go.Fr
set_option linter.unusedVariables false
set_option maxRecDepth 1000000

theorem own : ownKnob Tryz.prog.godebug = none := by kernel_rfl
theorem laidOut : laidOutB Tryz.prog = true := by kernel_rfl
theorem mixed : Tryz.prog.follows .mixedOrders = true := by kernel_rfl

theorem den274 : ∀ args : List Value, args.length = 3 → denF Tryz.f274 [] args = Fn.held.sp 0 (rows args) [] := by
  intro args hl
  obtain ⟨x0, x1, x2, rfl⟩ := Fn.args3 hl
  kernel_rfl

theorem nat_ok (base : Nat) (w : World) : RecOk Tryz.prog base w Fn.nat :=
  orRec_ok (natLock_ok Fn.muLib) (orRec_ok (natSorted_ok Fn.sortedP) (natSortedF_ok mixed Fn.heldC Tryz.func274 (by kernel_rfl) (by kernel_rfl) den274 (by kernel_rfl)))

theorem walk (a b c i n : Int) (w : World) :
    Calls Tryz.prog 4 #[.agg #[.int .i64 a, .int .i64 b, .int .i64 c], .int .i64 i, .int .i64 n] w fun e w' => e = .returned (.bool true) ∧ Below w.heap.size w w' :=
  calls_of_ev (as' := [.agg #[.int .i64 a, .int .i64 b, .int .i64 c], .int .i64 i, .int .i64 n]) Tryz.func4 (by kernel_rfl) (by kernel_rfl) w
    (callN_ok mixed Fn.tblOk (nat_ok _ w) (dfrLock_ok Fn.muLib) 100)
    (.cons (.agg (us := [.int .i64 a, .int .i64 b, .int .i64 c]) rfl (Al.cons (.raw _) (Al.cons (.raw _) (Al.cons (.raw _) Al.nil))).2) (.cons (.raw _) (.cons (.raw _) .nil)))
    (Fn.comes a b c i n)

/-- A struct of three ints. -/
theorem open_geom {w : World} {base : Nat} {v : Value} (h : Value.okWide Tryz.prog w .any base 23 v) : ∃ a b c, v = .agg #[.int .i64 a, .int .i64 b, .int .i64 c] := by
  have hu : Tryz.prog.underlying 23 = _ := Tryz.underlying23
  unfold Value.okWide at h
  rw [hu] at h
  obtain ⟨cs, rfl, hs, ts, hts, _, hc⟩ := h
  have h3 : Tryz.prog.cellsOf 23 = 3 := by kernel_rfl
  have ht : Tryz.prog.cellTypes Tryz.prog.depth 23 = some [3, 3, 3] := by kernel_rfl
  rw [h3] at hs
  rw [ht] at hts
  cases hts
  have cell : ∀ i, i < 3 → ∃ n, cs[i]? = some (.int .i64 n) := by
    intro i hi
    obtain ⟨u, hu1, hu2⟩ := hc i cs[i] (Array.getElem?_eq_getElem (by omega))
    have : u = 3 := by
      match i, hi, hu1 with
      | 0, _, hu1 => exact (Option.some.inj hu1).symm
      | 1, _, hu1 => exact (Option.some.inj hu1).symm
      | 2, _, hu1 => exact (Option.some.inj hu1).symm
    subst this
    have hk : Value.okWide Tryz.prog w .any base 3 cs[i] := by
      unfold Value.okWide
      rw [Tryz.underlying3]
      exact hu2
    obtain ⟨n, hn⟩ := okWide_int Tryz.underlying3 hk
    exact ⟨n, by rw [Array.getElem?_eq_getElem (by omega), hn]⟩
  obtain ⟨a, ha⟩ := cell 0 (by omega)
  obtain ⟨b, hb⟩ := cell 1 (by omega)
  obtain ⟨c, hc⟩ := cell 2 (by omega)
  refine ⟨a, b, c, ?_⟩
  congr 1
  apply Array.ext_getElem?
  intro i
  match i with
  | 0 => simpa using ha
  | 1 => simpa using hb
  | 2 => simpa using hc
  | i + 3 => rw [Array.getElem?_eq_none (by omega)]; simp

set_option maxRecDepth 100000 in
theorem lifted (os : Os) (started : os.Started) (H : Type) (enc : TypeId × Value → H) :
    ReturnsInHanded {} Tryz.checked os 4 .any (Rows.fileNobodySpec.pre6 enc Tryz.prog Tryz.f4 Rows.fileNobodyRow.domain false) (Rows.fileNobodySpec.post enc Tryz.prog Tryz.f4 false true false false) := by
  refine returnsInHanded_of_change_sized (C := Tryz.checked) own started (by kernel_rfl) Tryz.func4
    (ChangeSpec.witness6 (enc := enc) (C := Tryz.checked) false ⟨#[], #[.agg #[.int .i64 0, .int .i64 0, .int .i64 0], .int .i64 0, .int .i64 0], []⟩ 8 (by kernel_rfl) (by kernel_rfl) (by kernel_rfl) (by kernel_rfl)) ?_
  intro W base args ds gs before hval0 hW hcnd hsz0 _
  have hval : ∀ (j : Nat) t v, Tryz.f4.params[j]? = some t → args[j]? = some v → Value.okWide Tryz.prog W .any base t v := hval0
  have hW' := hW
  obtain ⟨p, q, hA0, hV, rfl, hfz, hnd⟩ := hW
  have hA : DataW.TrodAll enc Tryz.prog W 0 (fun _ => true) true Tryz.f4.params.toList args.toList ds p := hA0
  rw [Tryz.params4] at hA hval
  obtain ⟨v0, vs0, d0, ds0, p0, q0, hargs, rfl, rfl, h0, r0⟩ := trodAll_cons hA
  obtain ⟨v1, vs1, d1, ds1, p1, q1, rfl, rfl, rfl, h1, r1⟩ := trodAll_cons r0
  obtain ⟨v2, vs2, d2, ds2, p2, q2, rfl, rfl, rfl, h2, r2⟩ := trodAll_cons r1
  obtain ⟨rfl, rfl, rfl⟩ := trodAll_nil r2
  obtain rfl : args = #[v0, v1, v2] := by cases args; simp_all
  obtain ⟨rfl, rfl⟩ := trodVars_none hV
  obtain ⟨a, b, c, rfl⟩ := open_geom (hval 0 23 v0 rfl rfl)
  have k0 := h0
  have lt0 : ∀ x ∈ p0, x.block < W.heap.size := by obtain ⟨m, hm⟩ := k0; exact DataW.trod_lt m _ _ _ hm
  obtain ⟨a1, rfl, rfl, rfl, w1⟩ := open_int Tryz.underlying3 (hval 1 3 v1 rfl rfl) h1
  obtain ⟨a2, rfl, rfl, rfl, w2⟩ := open_int Tryz.underlying3 (hval 2 3 v2 rfl rfl) h2
  clear hA0 hval0 hsz0
  refine (walk a b c a1 a2 W).mono fun e W' ⟨he, bel⟩ => ?_
  subst he
  exact ⟨_, rfl, _, _, _, [], _, [], hW', trodAll_mk1 (shut_bool Tryz.underlying4 _), (trodAll_cons_mk (Below.trod laidOut (by kernel_rfl) (of_decide_eq_true (by kernel_rfl)) k0 bel lt0) (trodAll_cons_mk (shut_int Tryz.underlying3 w1) (trodAll_cons_mk (shut_int Tryz.underlying3 w2) trodAll_mk0))), rfl, bel.frame _, fun h => by cases h⟩

theorem over : Rows.fileNobodyRow.holds Tryz.pinned (OpenSpec.ofChange Rows.fileNobodySpec) :=
  OpenClaim.holds_of_wide 4 Tryz.f4 rfl rfl rfl rfl rfl rfl rfl ⟨rfl, rfl, rfl, rfl, rfl⟩ rfl rfl rfl rfl rfl (by kernel_rfl) Tryz.func4 (by kernel_rfl)
    (of_decide_eq_true (by kernel_rfl)) (by unfold Func.isWrapper; first | (rw [if_pos (by decide +kernel)]; kernel_rfl) | (rw [if_neg (by decide +kernel)]; exact ⟨rfl, rfl⟩))
    (fun os started H enc _ => lifted os started H enc)
end Go.Proofs.YtbnaoejdpggekaaGreat.fileNobody
namespace Go.Proofs.YtbnaoejdpggekaaGreat
theorem fileNobody_holds : Rows.FileNobodySaid := fileNobody.over
end Go.Proofs.YtbnaoejdpggekaaGreat
#print axioms Go.Proofs.YtbnaoejdpggekaaGreat.fileNobody_holds
