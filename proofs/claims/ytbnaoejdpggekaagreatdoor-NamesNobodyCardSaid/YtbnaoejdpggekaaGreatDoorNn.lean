/-
  This file proves: NamesNobody returns true for every geometry, directory and name, and turns nothing that was there: a volume that is nil, or that no call made, refuses each call, and of a new volume the root is found. There is no condition but that the two listed tables of Go's library stand as its text lays them, which the card ties to that text.
-/
import Derived.Test.YtbnaoejdpggekaaGreatDoorRows
import Derived.Test.YtbnaoejdpggekaaGreatDoorTie
import Derived.Test.YtbnaoejdpggekaaGreatDoorCards
import Derived.Test.YtbnaoejdpggekaaGreatDoorNnW
import Derived.Test.YtbnaoejdpggekaaGreatDoorNnJ0
import Derived.Test.YtbnaoejdpggekaaGreatDoorNnJ1
import Derived.Test.YtbnaoejdpggekaaGreatDoorNnJ2
import Derived.Test.YtbnaoejdpggekaaGreatDoorNnJ3
import Derived.Test.YtbnaoejdpggekaaGreatDoorNnJ4
import Derived.Test.YtbnaoejdpggekaaGreatDoorNnJ5
import Derived.Test.YtbnaoejdpggekaaGreatDoorNnJ6
import Derived.Test.YtbnaoejdpggekaaGreatDoorNnJ7
import Derived.Test.YtbnaoejdpggekaaGreatDoorNnJ8
import Derived.Test.YtbnaoejdpggekaaGreatDoorNnJ9
import Derived.WalkKit
import Derived.ProofKit
import Derived.OpenShut
import Derived.ShutString
import Derived.ChangeOld
import Derived.Below
import Derived.SizedLaws
import Derived.Carry
import Derived.LaidMore
import Derived.Lay
import Derived.SevenTiedAt
import Derived.Stop.Joined
namespace Go.Proofs.YtbnaoejdpggekaaGreatDoor.namesNobody
open Go Go.ChangeShapes Go.WideShapes Go.ChangeAt Go.RowKit Go.Fr
open Go.ChangeMaps (open_string shut_string)
set_option linter.unusedVariables false
set_option maxRecDepth 1000000

theorem own : ownKnob Tryz.prog.godebug = none := by kernel_rfl
theorem laidOut : laidOutB Tryz.prog = true := j1
theorem and2 {a b : Bool} (ha : a = true) (hb : b = true) : (a && b) = true := by rw [ha, hb]; rfl
theorem closed : joinedFacts Tryz.prog 3 Tryz.f3 Rows.namesNobodySpec Rows.namesNobodyRow = true := by
  unfold joinedFacts
  exact (and2 (and2 (and2 (and2 (and2 (and2 (and2 (and2 (and2 (and2 (and2 (and2 (and2 (and2 (and2 (and2 (and2 (and2 (and2 (and2 (and2 (and2 (and2 (and2 (and2 (and2 (and2 (and2 (and2 (and2 (and2 j0 j1) j2) j3) j4) j5) j6) j7) j8) j9) j10) j11) j12) j13) j14) j15) j16) j17) j18) j19) j20) j21) j22) j23) j24) j25) j26) j27) j28) j29) j30) j31)

theorem cell_int {w : World} {base : Nat} {v : Value} (h : Cell.okWide Tryz.prog w .any base 3 v) : ∃ n, v = .int .i64 n := by
  have hu : Tryz.prog.underlying 3 = _ := Tryz.underlying3
  simp only [Cell.okWide, hu] at h
  cases v <;> simp_all [Cell.ok]

theorem opens23 {w : World} {base : Nat} {v : Value} (h : Value.okWide Tryz.prog w .any base 23 v) : ∃ x0 x1 x2, v = .agg #[.int .i64 x0, .int .i64 x1, .int .i64 x2] := by
  have hu : Tryz.prog.underlying 23 = _ := Tryz.underlying23
  unfold Value.okWide at h
  rw [hu] at h
  obtain ⟨cs, rfl, hs, ts, hts, _, hc⟩ := h
  have ht : Tryz.prog.cellTypes Tryz.prog.depth 23 = some [3, 3, 3] := by kernel_rfl
  obtain rfl := Option.some.inj (ht.symm.trans hts)
  have hn : Tryz.prog.cellsOf 23 = 3 := by kernel_rfl
  rw [hn] at hs
  match cs, hs with
  | ⟨[x0, x1, x2]⟩, _ =>
    obtain ⟨u0, e0, c0⟩ := hc 0 x0 rfl
    obtain rfl := Option.some.inj (show some 3 = some u0 from e0)
    obtain ⟨y0, rfl⟩ := cell_int c0
    obtain ⟨u1, e1, c1⟩ := hc 1 x1 rfl
    obtain rfl := Option.some.inj (show some 3 = some u1 from e1)
    obtain ⟨y1, rfl⟩ := cell_int c1
    obtain ⟨u2, e2, c2⟩ := hc 2 x2 rfl
    obtain rfl := Option.some.inj (show some 3 = some u2 from e2)
    obtain ⟨y2, rfl⟩ := cell_int c2
    exact ⟨y0, y1, y2, rfl⟩

theorem lifted (os : Os) (started : os.Started) (H : Type) (enc : TypeId × Value → H) :
    ReturnsInHanded {} Tryz.checked os 3 .any (fun w args => (Rows.namesNobodySpec.pre enc Tryz.prog Tryz.f3 Rows.namesNobodyRow.domain false w args ∧ laidMetH Tryz.prog Rows.namesNobodyRow.laid w) ∧ sizedMet enc Tryz.prog Tryz.f3 (OpenSpec.ofChange Rows.namesNobodySpec) false w args)
      (Rows.namesNobodySpec.post enc Tryz.prog Tryz.f3 false true false false) := by
  refine returnsInHanded_of_change_and (C := Tryz.checked) (X := (fun w _ => laidMetH Tryz.prog Rows.namesNobodyRow.laid w)) (fun _ _ _ hh h => h.of_heap hh) own started (by kernel_rfl) Tryz.func3
    (ChangeSpec.witness_shaped (enc := enc) (C := Tryz.checked) (os := os) (X := (fun w _ => laidMetH Tryz.prog Rows.namesNobodyRow.laid w)) false (World.laidAll Tryz.prog os Rows.namesNobodyRow.laid) #[(Go.Value.agg #[Go.Value.int Go.IntKind.i64 0, Go.Value.int Go.IntKind.i64 0, Go.Value.int Go.IntKind.i64 0]), .int .i64 0, .string ByteArray.empty] 8 (World.laidAll_os _ _ _)
      (World.shaped_of_ZipB (by kernel_rfl) (by kernel_rfl)) (by kernel_rfl) (by kernel_rfl) (by kernel_rfl)
      (by rw [MakeChecks.laidMetH_plain _ _ _ (by kernel_rfl)]; exact laidMet_laidAll _ (by kernel_rfl) (by kernel_rfl))) ?_
  intro W base args ds gs before hval0 hW hcnd hsz0 hL _
  have hval : ∀ (j : Nat) t v, Tryz.f3.params[j]? = some t → args[j]? = some v → Value.okWide Tryz.prog W .any base t v := hval0
  have hW' := hW
  obtain ⟨p, q, hA0, hV, rfl, hfz, hnd⟩ := hW
  have hA : DataW.TrodAll enc Tryz.prog W 0 (fun _ => true) true Tryz.f3.params.toList args.toList ds p := hA0
  rw [Tryz.params3] at hA hval
  obtain ⟨v0, vs0, d0, ds0, p0, q0, hargs, rfl, rfl, h0, r0⟩ := trodAll_cons hA
  obtain ⟨v1, vs1, d1, ds1, p1, q1, rfl, rfl, rfl, h1, r1⟩ := trodAll_cons r0
  obtain ⟨v2, vs2, d2, ds2, p2, q2, rfl, rfl, rfl, h2, r2⟩ := trodAll_cons r1
  obtain ⟨rfl, rfl, rfl⟩ := trodAll_nil r2
  obtain rfl : args = #[v0, v1, v2] := by cases args; simp_all
  obtain ⟨rfl, rfl⟩ := trodVars_none hV
  obtain ⟨a0_0, a0_1, a0_2, rfl⟩ := opens23 (hval 0 23 v0 rfl rfl)
  have k0 := h0
  have lt0 : ∀ x ∈ p0, x.block < W.heap.size := by obtain ⟨m, hm⟩ := k0; exact DataW.trod_lt m _ _ _ hm
  obtain ⟨a1, rfl, rfl, rfl, w1⟩ := open_int Tryz.underlying3 (hval 1 3 v1 rfl rfl) h1
  obtain ⟨a2, rfl, rfl, rfl, w2⟩ := open_string Tryz.underlying9 (hval 2 9 v2 rfl rfl) h2
  clear hA0 hval0 hsz0
  refine (Nn.walk a0_0 a0_1 a0_2 a1 a2 W [.agg #[.int .i64 a0_0, .int .i64 a0_1, .int .i64 a0_2], .int .i64 a1, .string a2] (Nn.rel a0_0 a0_1 a0_2 a1 a2)).mono fun e W' ⟨he, bel⟩ => ?_
  subst he
  exact ⟨_, rfl, _, _, _, [], _, [], hW', trodAll_mk1 (shut_bool Tryz.underlying4 _), (trodAll_cons_mk (Below.trod laidOut (by kernel_rfl) (of_decide_eq_true (by kernel_rfl)) k0 bel lt0) (trodAll_cons_mk (shut_int Tryz.underlying3 w1) (trodAll_cons_mk (shut_string Tryz.underlying9 w2) trodAll_mk0))), rfl, bel.frame _, fun h => by cases h⟩

theorem over : Rows.namesNobodyRow.holds Tryz.pinned (OpenSpec.ofChange Rows.namesNobodySpec) :=
  OpenClaim.holds_of_wide 3 Tryz.f3 rfl rfl rfl rfl rfl rfl rfl ⟨rfl, rfl, rfl, rfl, rfl⟩ rfl rfl rfl rfl rfl (by kernel_rfl) Tryz.func3 closed
    (of_decide_eq_true (by kernel_rfl)) (by unfold Func.isWrapper; first | (rw [if_pos (by decide +kernel)]; kernel_rfl) | (rw [if_neg (by decide +kernel)]; exact ⟨rfl, rfl⟩))
    (fun os started H enc _ => lifted os started H enc)

theorem card : Rows.NamesNobodyCardSaid :=
  Claim7.holds_tied_plain_at .later [] [.data, .pinned] true (true, "6e4f5ac8557be063740f33031abc442b5e15acfbc0ad481dacf97a24f81d33b4") true over (fun _ h => by cases h) k0 (fun _ h => by cases h) namesNobody_row_tie rfl ⟨rfl, rfl⟩ k1 rfl
    (fun f fn hf hfn => by
      obtain rfl : f = 3 := Option.some.inj ((show Tryz.prog.funcNamed "bollard/bollardlaw16.NamesNobody" = some 3 by kernel_rfl).symm.trans hf) |>.symm
      obtain rfl : fn = Tryz.f3 := (Option.some.inj (Tryz.func3.symm.trans hfn)).symm
      exact ⟨k2, fun j t ht => by
        rw [Tryz.params3] at ht
        have hm : t ∈ [23, 3, 9] := by simpa using Array.mem_of_getElem? ht
        have hall : ([23, 3, 9].all fun u => !Tryz.prog.wantsStandIn u) = true := by kernel_rfl
        exact (show Tryz.prog.wantsStandIn t = false by simpa using List.all_eq_true.1 hall t hm)⟩)
    k3
end Go.Proofs.YtbnaoejdpggekaaGreatDoor.namesNobody
namespace Go.Proofs.YtbnaoejdpggekaaGreatDoor
theorem namesNobody_holds : Rows.NamesNobodyCardSaid := namesNobody.card
end Go.Proofs.YtbnaoejdpggekaaGreatDoor
#print axioms Go.Proofs.YtbnaoejdpggekaaGreatDoor.namesNobody_holds
