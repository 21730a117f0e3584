/-
  This file proves: the program's sort of a map's keys does what the library's contract says.
-/
import Derived.Test.YtbnaoejdpggekaaGreatFnP
import Derived.Shelf.SlIterI.Nil
import Derived.Shelf.SortM.Plain
import Derived.Shelf.SortM.SortNone
import Derived.Test.YtbnaoejdpggekaaGreatProg
import Derived.KernelRfl
namespace Go.Proofs.YtbnaoejdpggekaaGreat.Fn
open Go Go.Fr Go.RowKit Go.Maps Go.Sort Go.Shelf Go.Proofs


/-- slices.Sort's two contracts at this program, at the fence that asks nothing. -/
theorem sortsP (m : Nat) : AnyZI.SortsIn Tryz.prog Tryz.sortedP_ren Fence.wide m :=
  ⟨fun blk off cap ss W hH hblk hsz => callsIn_wide.2 (AnyM.slices_Sort_int Tryz.sortP blk off cap ss W hH hblk hsz),
   fun p cap W => callsIn_wide.2 (AnyM.slices_Sort_int_none Tryz.sortP p cap W)⟩

theorem max_ok : 100000 ≤ maxLen := by simp [maxLen]

theorem sortedP : SortedAt Tryz.prog 213 261 3 where
  enters := enters_of Tryz.func213 (by kernel_rfl) rfl
  int := Tryz.underlying3
  sorts := by
    intro Bm b nn D0 w hlt hm hown hs
    refine (callsIn_wide (n := 5)).1 ?_
    have hseq : SeqGives Fence.wide 2 Tryz.prog 261 #[.pointer (some ⟨Bm, 0, none⟩)] encZ (fun ss => ss.Perm (intKeys D0)) (Maps.size D0) w :=
      AnyZI.keys_gives (ρ := Tryz.keysP_ren) { Tryz.keysP with } Fence.wide _ trivial rfl (by omega) Bm b nn D0 w hlt hm hown
    have hmax := max_ok
    exact AnyZI.sorted_in Tryz.sortedP Fence.wide 5 trivial trivial trivial trivial rfl (by omega) (sortsP _) (enters_of Tryz.func194 (by kernel_rfl) rfl) 261 #[.pointer (some ⟨Bm, 0, none⟩)] trivial (enters_of Tryz.func261 (by kernel_rfl) rfl) _ _ (by omega) (by omega) w hseq
  none := by
    intro Bm w hlt hm
    refine (callsIn_wide (n := 5)).1 ?_
    have hseq := AnyZI.keys_gives_nil (ρ := Tryz.keysP_ren) { Tryz.keysP with } Fence.wide 2 trivial rfl Bm w hlt hm
    have hmax := max_ok
    refine (AnyZI.sorted_in Tryz.sortedP Fence.wide 5 trivial trivial trivial trivial rfl (by omega) (sortsP _) (enters_of Tryz.func194 (by kernel_rfl) rfl) 261 #[.pointer (some ⟨Bm, 0, none⟩)] trivial (enters_of Tryz.func261 (by kernel_rfl) rfl) _ _ (by omega) (by omega) w hseq).mono ?_
    rintro x w' ⟨v, ss, rfl, h1, _, h3, h4⟩
    exact ⟨by rw [h3.2 h1], h4⟩
end Go.Proofs.YtbnaoejdpggekaaGreat.Fn
