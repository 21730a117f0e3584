/-
  This file proves: the program's sort of a map's keys by a function does what the library's contracts say.
-/
import Derived.Test.YtbnaoejdpggekaaGreatFrSortedL
import Derived.Test.YtbnaoejdpggekaaGreatFnS
namespace Go.Proofs.YtbnaoejdpggekaaGreat.Fn
open Go Go.Fr Go.RowKit Go.Maps Go.Sort Go.Shelf Go.Proofs


theorem collectC : CollectAt Tryz.prog 231 283 3 where
  enters := enters_of Tryz.func231 (by kernel_rfl) rfl
  full := by
    intro Bm b nn D0 w hlt hm hown hs
    refine (callsIn_wide (n := 5)).1 ?_
    have hseq : SeqGives Fence.wide 3 Tryz.prog 283 #[.pointer (some ⟨Bm, 0, none⟩)] encZ (fun ss => ss.Perm (intKeys D0)) (Maps.size D0) w :=
      AnyZI.keys_gives (ρ := Tryz.keysC_ren) { Tryz.keysC with } Fence.wide _ trivial rfl (by omega) Bm b nn D0 w hlt hm hown
    have hmax := max_ok
    exact AnyZI.collect_in (ρ := Tryz.sortedP_ren) { Tryz.sortedP with } Fence.wide 5 trivial trivial rfl (by omega) 283 #[.pointer (some ⟨Bm, 0, none⟩)] trivial (enters_of Tryz.func283 (by kernel_rfl) rfl) _ _ (by omega) (by omega) w hseq
  empt := by
    intro Bm w hlt hm
    refine (callsIn_wide (n := 5)).1 ?_
    have hseq := AnyZI.keys_gives_nil (ρ := Tryz.keysC_ren) { Tryz.keysC with } Fence.wide 3 trivial rfl Bm w hlt hm
    have hmax := max_ok
    refine (AnyZI.collect_in (ρ := Tryz.sortedP_ren) { Tryz.sortedP with } Fence.wide 5 trivial trivial rfl (by omega) 283 #[.pointer (some ⟨Bm, 0, none⟩)] trivial (enters_of Tryz.func283 (by kernel_rfl) rfl) _ _ (by omega) (by omega) w hseq).mono ?_
    rintro x w' ⟨v, ss, rfl, h1, _, h3, h4⟩
    exact ⟨by rw [h3.2 h1], h4⟩

theorem sortFn : SortFAt Tryz.prog 282 where
  enters := enters_of Tryz.func282 (by kernel_rfl) rfl
  sorts := fun n enc cf g cb blk off cap d w h1 hO eg hcmp hH hblk hsz hT => Any.slices_SortFunc_total Tryz.sortFn enc h1 cf hO g cb blk off cap d w eg hcmp hH hblk hsz hT
  empt := fun p cap fv w => AnyF.slices_SortFunc_none (ρ := Tryz.sortFn_ren) { Tryz.sortFn with } p cap fv w

theorem heldC : SortedFAt Tryz.prog 272 283 3 :=
  sortedF_of (r := 4) (fn := Tryz.f272) (A := []) (fCol := 231) (fSrt := 282) (by kernel_rfl) Tryz.func272 (enters_of Tryz.func272 (by kernel_rfl) rfl) (fun a0 a1 => by kernel_rfl) Tryz.underlying3 collectC sortFn
end Go.Proofs.YtbnaoejdpggekaaGreat.Fn
