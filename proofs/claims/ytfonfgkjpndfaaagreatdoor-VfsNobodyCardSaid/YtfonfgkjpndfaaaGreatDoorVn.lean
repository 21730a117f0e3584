/-
  This file proves: VfsNobody returns true for every call and turns nothing that was there: a file system that is nil, or that no call made, tells nothing and refuses each call, a disk that is nil, or that no call made, is not mounted, and a new volume is. There is no condition but that the two listed tables of Go's library stand as its text lays them, which the card ties to that text.
-/
import Derived.Test.YtfonfgkjpndfaaaGreatDoorRows
import Derived.Test.YtfonfgkjpndfaaaGreatDoorTie
import Derived.Test.YtfonfgkjpndfaaaGreatDoorCards
import Derived.Test.YtfonfgkjpndfaaaGreatDoorVnW
import Derived.Test.YtfonfgkjpndfaaaGreatDoorVnJ0
import Derived.Test.YtfonfgkjpndfaaaGreatDoorVnJ1
import Derived.Test.YtfonfgkjpndfaaaGreatDoorVnJ2
import Derived.Test.YtfonfgkjpndfaaaGreatDoorVnJ3
import Derived.Test.YtfonfgkjpndfaaaGreatDoorVnJ4
import Derived.Test.YtfonfgkjpndfaaaGreatDoorVnJ5
import Derived.Test.YtfonfgkjpndfaaaGreatDoorVnJ6
import Derived.Test.YtfonfgkjpndfaaaGreatDoorVnJ7
import Derived.Test.YtfonfgkjpndfaaaGreatDoorVnJ8
import Derived.Test.YtfonfgkjpndfaaaGreatDoorVnJ9
import Derived.WalkKit
import Derived.ProofKit
import Derived.OpenShut
import Derived.ShutString
import Derived.ChangeOld
import Derived.Below
import Derived.SizedLaws
import Derived.Carry
import Derived.LaidMore
import Derived.Lay
import Derived.SevenTiedAt
import Derived.Stop.Joined
namespace Go.Proofs.YtfonfgkjpndfaaaGreatDoor.vfsNobody
open Go Go.ChangeShapes Go.WideShapes Go.ChangeAt Go.RowKit Go.Fr
open Go.ChangeMaps (open_string shut_string)
set_option linter.unusedVariables false
set_option maxRecDepth 1000000

theorem own : ownKnob Tryz.prog.godebug = none := by kernel_rfl
theorem laidOut : laidOutB Tryz.prog = true := j1
theorem and2 {a b : Bool} (ha : a = true) (hb : b = true) : (a && b) = true := by rw [ha, hb]; rfl
theorem closed : joinedFacts Tryz.prog 3 Tryz.f3 Rows.vfsNobodySpec Rows.vfsNobodyRow = true := by
  unfold joinedFacts
  exact (and2 (and2 (and2 (and2 (and2 (and2 (and2 (and2 (and2 (and2 (and2 (and2 (and2 (and2 (and2 (and2 (and2 (and2 (and2 (and2 (and2 (and2 (and2 (and2 (and2 (and2 (and2 (and2 (and2 (and2 (and2 j0 j1) j2) j3) j4) j5) j6) j7) j8) j9) j10) j11) j12) j13) j14) j15) j16) j17) j18) j19) j20) j21) j22) j23) j24) j25) j26) j27) j28) j29) j30) j31)

theorem opens24 {w : World} {base : Nat} {v : Value} (h : Value.okWide Tryz.prog w .any base 24 v) : ∃ x0 x1 x2 x3 x4 x5 x6, v = .agg #[x0, x1, x2, x3, x4, x5, x6] := by
  have hu : Tryz.prog.underlying 24 = _ := Tryz.underlying24
  unfold Value.okWide at h
  rw [hu] at h
  obtain ⟨cs, rfl, hs, _⟩ := h
  have hn : Tryz.prog.cellsOf 24 = 7 := by kernel_rfl
  rw [hn] at hs
  match cs, hs with
  | ⟨[x0, x1, x2, x3, x4, x5, x6]⟩, _ => exact ⟨x0, x1, x2, x3, x4, x5, x6, rfl⟩

theorem lifted (os : Os) (started : os.Started) (H : Type) (enc : TypeId × Value → H) :
    ReturnsInHanded {} Tryz.checked os 3 .any (fun w args => (Rows.vfsNobodySpec.pre enc Tryz.prog Tryz.f3 Rows.vfsNobodyRow.domain false w args ∧ laidMetH Tryz.prog Rows.vfsNobodyRow.laid w) ∧ sizedMet enc Tryz.prog Tryz.f3 (OpenSpec.ofChange Rows.vfsNobodySpec) false w args)
      (Rows.vfsNobodySpec.post enc Tryz.prog Tryz.f3 false true false false) := by
  refine returnsInHanded_of_change_and (C := Tryz.checked) (X := (fun w _ => laidMetH Tryz.prog Rows.vfsNobodyRow.laid w)) (fun _ _ _ hh h => h.of_heap hh) own started (by kernel_rfl) Tryz.func3
    (ChangeSpec.witness_shaped (enc := enc) (C := Tryz.checked) (os := os) (X := (fun w _ => laidMetH Tryz.prog Rows.vfsNobodyRow.laid w)) false (World.laidAll Tryz.prog os Rows.vfsNobodyRow.laid) #[(Go.Value.agg #[Go.Value.int Go.IntKind.i64 0, Go.Value.int Go.IntKind.i64 0, Go.Value.int Go.IntKind.i64 0, Go.Value.int Go.IntKind.i64 0, Go.Value.string { data := #[] }, Go.Value.string { data := #[] }, Go.Value.slice none 0 0])] 8 (World.laidAll_os _ _ _)
      (World.shaped_of_ZipB (by kernel_rfl) (by kernel_rfl)) (by kernel_rfl) (by kernel_rfl) (by kernel_rfl)
      (by rw [MakeChecks.laidMetH_plain _ _ _ (by kernel_rfl)]; exact laidMet_laidAll _ (by kernel_rfl) (by kernel_rfl))) ?_
  intro W base args ds gs before hval0 hW hcnd hsz0 hL _
  have hval : ∀ (j : Nat) t v, Tryz.f3.params[j]? = some t → args[j]? = some v → Value.okWide Tryz.prog W .any base t v := hval0
  have hW' := hW
  obtain ⟨p, q, hA0, hV, rfl, hfz, hnd⟩ := hW
  have hA : DataW.TrodAll enc Tryz.prog W 0 (fun _ => true) true Tryz.f3.params.toList args.toList ds p := hA0
  rw [Tryz.params3] at hA hval
  obtain ⟨v0, vs0, d0, ds0, p0, q0, hargs, rfl, rfl, h0, r0⟩ := trodAll_cons hA
  obtain ⟨rfl, rfl, rfl⟩ := trodAll_nil r0
  obtain rfl : args = #[v0] := by cases args; simp_all
  obtain ⟨rfl, rfl⟩ := trodVars_none hV
  obtain ⟨a0_0, a0_1, a0_2, a0_3, a0_4, a0_5, a0_6, rfl⟩ := opens24 (hval 0 24 v0 rfl rfl)
  have k0 := h0
  have lt0 : ∀ x ∈ p0, x.block < W.heap.size := by obtain ⟨m, hm⟩ := k0; exact DataW.trod_lt m _ _ _ hm
  clear hA0 hval0 hsz0
  refine (Vn.walk a0_0 a0_1 a0_2 a0_3 a0_4 a0_5 a0_6 W [.agg #[a0_0, a0_1, a0_2, a0_3, a0_4, a0_5, a0_6]] (.cons (.agg (us := [a0_0, a0_1, a0_2, a0_3, a0_4, a0_5, a0_6]) rfl (Al.cons (.raw _) (Al.cons (.raw _) (Al.cons (.raw _) (Al.cons (.raw _) (Al.cons (.raw _) (Al.cons (.raw _) (Al.cons (.raw _) Al.nil))))))).2) .nil)).mono fun e W' ⟨he, bel⟩ => ?_
  subst he
  exact ⟨_, rfl, _, _, _, [], _, [], hW', trodAll_mk1 (shut_bool Tryz.underlying4 _), (trodAll_cons_mk (Below.trod laidOut (by kernel_rfl) (of_decide_eq_true (by kernel_rfl)) k0 bel lt0) trodAll_mk0), rfl, bel.frame _, fun h => by cases h⟩

theorem over : Rows.vfsNobodyRow.holds Tryz.pinned (OpenSpec.ofChange Rows.vfsNobodySpec) :=
  OpenClaim.holds_of_wide 3 Tryz.f3 rfl rfl rfl rfl rfl rfl rfl ⟨rfl, rfl, rfl, rfl, rfl⟩ rfl rfl rfl rfl rfl (by kernel_rfl) Tryz.func3 closed
    (of_decide_eq_true (by kernel_rfl)) (by unfold Func.isWrapper; first | (rw [if_pos (by decide +kernel)]; kernel_rfl) | (rw [if_neg (by decide +kernel)]; exact ⟨rfl, rfl⟩))
    (fun os started H enc _ => lifted os started H enc)

theorem card : Rows.VfsNobodyCardSaid :=
  Claim7.holds_tied_plain_at .later [] [.data, .pinned] true (true, "150f7e3145f0be06d620320e5e0a9a4abebe2850689786b96c0745748ede5c95") true over (fun _ h => by cases h) k0 (fun _ h => by cases h) vfsNobody_row_tie rfl ⟨rfl, rfl⟩ k1 rfl
    (fun f fn hf hfn => by
      obtain rfl : f = 3 := Option.some.inj ((show Tryz.prog.funcNamed "bollard/bollardlaw21.VfsNobody" = some 3 by kernel_rfl).symm.trans hf) |>.symm
      obtain rfl : fn = Tryz.f3 := (Option.some.inj (Tryz.func3.symm.trans hfn)).symm
      exact ⟨k2, fun j t ht => by
        rw [Tryz.params3] at ht
        have hm : t ∈ [24] := by simpa using Array.mem_of_getElem? ht
        have hall : ([24].all fun u => !Tryz.prog.wantsStandIn u) = true := by kernel_rfl
        exact (show Tryz.prog.wantsStandIn t = false by simpa using List.all_eq_true.1 hall t hm)⟩)
    k3
end Go.Proofs.YtfonfgkjpndfaaaGreatDoor.vfsNobody
namespace Go.Proofs.YtfonfgkjpndfaaaGreatDoor
theorem vfsNobody_holds : Rows.VfsNobodyCardSaid := vfsNobody.card
end Go.Proofs.YtfonfgkjpndfaaaGreatDoor
#print axioms Go.Proofs.YtfonfgkjpndfaaaGreatDoor.vfsNobody_holds
