/-
  This file proves: the program's sorts of a map's keys do what the library's contracts say.
-/
import Derived.Test.YtfonfgkjpndfaaaGreatDoorVnP
import Derived.Test.YtfonfgkjpndfaaaGreatDoorFrG
import Derived.WalkKit
import Derived.OwnWalkIn
import Derived.TacticsInMore
import Derived.LoopNIn
import Derived.LoopIn
namespace Go.Proofs.YtfonfgkjpndfaaaGreatDoor.Vn
open Go Go.Fr Go.RowKit Go.Maps Go.Sort Go.Shelf Go.Proofs

theorem sortsP (m : Nat) : AnyZI.SortsIn Tryz.prog Tryz.sortedP_ren Fence.wide m :=
  ⟨fun blk off cap ss W hH hblk hsz => callsIn_wide.2 (AnyM.slices_Sort_int Tryz.sortP blk off cap ss W hH hblk hsz),
   fun p cap W => callsIn_wide.2 (AnyM.slices_Sort_int_none Tryz.sortP p cap W)⟩

theorem max_ok : 100000 ≤ maxLen := by simp [maxLen]

theorem sorted451 : SortedAt Tryz.prog 25 451 3 where
  enters := enters_of Tryz.func25 (by kernel_rfl) rfl
  int := Tryz.underlying3
  sorts := by
    intro Bm b nn D0 w hlt hm hown hs
    refine (callsIn_wide (n := 5)).1 ?_
    have hseq : SeqGives Fence.wide 2 Tryz.prog 451 #[.pointer (some ⟨Bm, 0, none⟩)] encZ (fun ss => ss.Perm (intKeys D0)) (Maps.size D0) w :=
      AnyZI.keys_gives (ρ := Tryz.keys388_ren) { Tryz.keys388 with } Fence.wide _ trivial rfl (by omega) Bm b nn D0 w hlt hm hown
    have hmax := max_ok
    exact AnyZI.sorted_in Tryz.sortedP Fence.wide 5 trivial trivial trivial trivial rfl (by omega) (sortsP _) (enters_of Tryz.func41 (by kernel_rfl) rfl) 451 #[.pointer (some ⟨Bm, 0, none⟩)] trivial (enters_of Tryz.func451 (by kernel_rfl) rfl) _ _ (by omega) (by omega) w hseq
  none := by
    intro Bm w hlt hm
    refine (callsIn_wide (n := 5)).1 ?_
    have hseq := AnyZI.keys_gives_nil (ρ := Tryz.keys388_ren) { Tryz.keys388 with } Fence.wide 2 trivial rfl Bm w hlt hm
    have hmax := max_ok
    refine (AnyZI.sorted_in Tryz.sortedP Fence.wide 5 trivial trivial trivial trivial rfl (by omega) (sortsP _) (enters_of Tryz.func41 (by kernel_rfl) rfl) 451 #[.pointer (some ⟨Bm, 0, none⟩)] trivial (enters_of Tryz.func451 (by kernel_rfl) rfl) _ _ (by omega) (by omega) w hseq).mono ?_
    rintro x w' ⟨v, ss, rfl, h1, _, h3, h4⟩
    exact ⟨by rw [h3.2 h1], h4⟩

theorem values_nil (n l Bm : Nat) (J : List Int → World → Prop) (W : World) (hJ : AbidesFrom W.heap.size J) (hm : W.cell? ⟨Bm, 0, none⟩ = some (.map none)) (h0 : J [] W) :
    CallsIn Fence.wide n Tryz.prog 42 #[.func (.yield l) #[] #[], .pointer (some ⟨Bm, 0, none⟩)] W fun e W' => (∃ v, e = .returned v) ∧ ∃ xs : List Int, xs = [] ∧ J xs W' := by
  refine callsIn_of_wp Tryz.func42 rfl trivial ?_ rfl
  simp only [Tryz.ntmps42, List.size_toArray, List.length_cons, List.length_nil, Nat.reduceAdd, Nat.reduceSub, Array.replicate_succ, Array.replicate_zero, List.push_toArray, List.append_toArray, List.nil_append, List.cons_append]
  have hrg := run_range_nilMap (P := Tryz.prog) W 30 3 3 Tryz.underlying30
  have hnx : ∀ ty, (Instr.next (.pointer (some ⟨W.heap.size, 0, none⟩)) false ty).run Tryz.prog (W.alloc (.mapIter none 0 #[] 0)) = _ := fun ty => run_next_nilMap _ ty 0 0 #[]
  gi_wp2
  refine wpIn_loop_rounds 1 ?_
  rw [roundsIn_succ]
  gi_wp2
  go_end0
  exact ⟨⟨_, rfl⟩, [], rfl, hJ [] W _ none h0 (World.grownBy_alloc W _ none) (fun r e => by cases e)⟩

theorem valuesC : SortedNil Tryz.prog 25 42 where
  enters := enters_of Tryz.func25 (by kernel_rfl) rfl
  none := by
    intro Bm w hlt hm
    refine (callsIn_wide (n := 5)).1 ?_
    have hseq : SeqGives Fence.wide 2 Tryz.prog 42 #[.pointer (some ⟨Bm, 0, none⟩)] encZ (fun ss : List Int => ss = []) 0 w := fun l J W hW hJ _ h0 =>
      values_nil 2 l Bm J W hJ ((hW.cell (p := ⟨Bm, 0, none⟩) hlt).trans hm) h0
    have hmax := max_ok
    refine (AnyZI.sorted_in Tryz.sortedP Fence.wide 5 trivial trivial trivial trivial rfl (by omega) (sortsP _) (enters_of Tryz.func41 (by kernel_rfl) rfl) 42 #[.pointer (some ⟨Bm, 0, none⟩)] trivial (enters_of Tryz.func42 (by kernel_rfl) rfl) _ _ (by omega) (by omega) w hseq).mono ?_
    rintro x w' ⟨v, ss, rfl, h1, _, h3, h4⟩
    exact ⟨by rw [h3.2 h1], h4⟩

theorem collectC : CollectAt Tryz.prog 40 500 3 where
  enters := enters_of Tryz.func40 (by kernel_rfl) rfl
  full := by
    intro Bm b nn D0 w hlt hm hown hs
    refine (callsIn_wide (n := 5)).1 ?_
    have hseq : SeqGives Fence.wide 3 Tryz.prog 500 #[.pointer (some ⟨Bm, 0, none⟩)] encZ (fun ss => ss.Perm (intKeys D0)) (Maps.size D0) w :=
      AnyZI.keys_gives (ρ := Tryz.keysC_ren) { Tryz.keysC with } Fence.wide _ trivial rfl (by omega) Bm b nn D0 w hlt hm hown
    have hmax := max_ok
    exact AnyZI.collect_in (ρ := Tryz.sortedP_ren) { Tryz.sortedP with } Fence.wide 5 trivial trivial rfl (by omega) 500 #[.pointer (some ⟨Bm, 0, none⟩)] trivial (enters_of Tryz.func500 (by kernel_rfl) rfl) _ _ (by omega) (by omega) w hseq
  empt := by
    intro Bm w hlt hm
    refine (callsIn_wide (n := 5)).1 ?_
    have hseq := AnyZI.keys_gives_nil (ρ := Tryz.keysC_ren) { Tryz.keysC with } Fence.wide 3 trivial rfl Bm w hlt hm
    have hmax := max_ok
    refine (AnyZI.collect_in (ρ := Tryz.sortedP_ren) { Tryz.sortedP with } Fence.wide 5 trivial trivial rfl (by omega) 500 #[.pointer (some ⟨Bm, 0, none⟩)] trivial (enters_of Tryz.func500 (by kernel_rfl) rfl) _ _ (by omega) (by omega) w hseq).mono ?_
    rintro x w' ⟨v, ss, rfl, h1, _, h3, h4⟩
    exact ⟨by rw [h3.2 h1], h4⟩

theorem sortFnAt : SortFAt Tryz.prog 499 where
  enters := enters_of Tryz.func499 (by kernel_rfl) rfl
  sorts := fun n enc cf g cb blk off cap d w h1 hO eg hcmp hH hblk hsz hT => Any.slices_SortFunc_total Tryz.sortFn enc h1 cf hO g cb blk off cap d w eg hcmp hH hblk hsz hT
  empt := fun p cap fv w => AnyF.slices_SortFunc_none (ρ := Tryz.sortFn_ren) { Tryz.sortFn with } p cap fv w

theorem heldC : SortedFAt Tryz.prog 489 500 3 :=
  sortedF_of (r := 4) (fn := Tryz.f489) (A := []) (fCol := 40) (fSrt := 499) (by kernel_rfl) Tryz.func489 (enters_of Tryz.func489 (by kernel_rfl) rfl) (fun a0 a1 => by kernel_rfl) Tryz.underlying3 collectC sortFnAt
end Go.Proofs.YtfonfgkjpndfaaaGreatDoor.Vn
