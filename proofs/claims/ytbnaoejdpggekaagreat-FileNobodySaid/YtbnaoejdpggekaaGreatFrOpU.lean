/-
  This file proves: what the evaluator says of cut slices, looked up entries, wholes and kinds is so.
-/
import Derived.Test.YtbnaoejdpggekaaGreatFrOpS
namespace Go.Fr
open Go
section
variable {P : Program} {w : World} {base : Nat} {w0 : World} {ρ : Lay} {h : VH}

theorem add_zero_at (b o : Nat) : (⟨b, o, none⟩ : Addr).add 0 = ⟨b, o, none⟩ := rfl

theorem Ev.slice_ok {t : TypeId} {x u : V} {x' : Value} {lo hi mx : Option V} {lv hv mv : Option Value} (r : WR base w0 ρ h w) (hx : VR ρ x x')
    (hl : ∀ n, Ev.num lo = some n → Bd n lv) (hh : ∀ n, Ev.num hi = some n → Bd n hv) (hm : ∀ n, Ev.num mx = some n → Bd n mv)
    (he : Ev.slice P h t x lo hi mx = some u) : ∃ u', (oSlice t x' lv hv mv).run P w = .ok (.value u') w ∧ VR ρ u u' := by
  unfold Ev.slice at he
  split at he
  · rename_i lo hi mx e el eh em hu
    have hl := hl _ el
    have hh := hh _ eh
    have hm := hm _ em
    split at he
    · rename_i ti k o len ex lb es ht
      cases hx with
      | @sl _ _ _ _ _ b n c _ hk hlb hex hn hf hle =>
      split at he
      · cases he
      · rename_i hes
        have hes : es = ti.size := Decidable.not_not.1 hes
        simp only at he
        split at he
        · rename_i hc
          obtain ⟨c1, c2, c3, c4, c5⟩ := hc
          have hm' : mx.getD lb ≤ mx.getD c ∧ mx.getD c ≤ c ∧ (mx.isSome = true → mx.getD c = mx.getD lb) ∧ (mx.isSome = false → mx.getD c = c ∧ mx.getD lb = lb) := by
            cases mx with
            | none => simp; exact hlb
            | some m => simp at c3 ⊢; omega
          obtain ⟨m1, m2, m3, m4⟩ := hm'
          have hb := run_bounds (P := P) (w := w) (isSlice := true) (len := len) (cap := c) hl hh hm c1 (fun _ => by omega) m2 c4
          have run : ∀ z, (if mx.getD c = lo.getD 0 then (some ⟨b, o, none⟩ : Option Addr) else some ⟨b, o + lo.getD 0 * es, none⟩) = z →
              (oSlice t (.slice (some ⟨b, o, none⟩) len c) lv hv mv).run P w = .ok (.value (.slice z (hi.getD len - lo.getD 0) (mx.getD c - lo.getD 0))) w := by
            intro z hz
            rw [← hz]
            simp only [oSlice, Instr.sliceAt, Sem.run_bind, run_underlying_of hu, Result.andThen_ok, Instr.slice, hb, run_size_ti ht, Sem.run_pure, Option.map_some, add_at, ← hes]
          have exm : (mx.isSome || ex) = true → mx.getD c = mx.getD lb := by
            intro hq
            rcases Bool.or_eq_true_iff.1 hq with hq | hq
            · exact m3 hq
            · cases hms : mx.isSome with
              | true => exact m3 hms
              | false => obtain ⟨q1, q2⟩ := m4 hms; rw [q1, q2, hex hq]
          have exf : (mx.isSome || ex) = false → mx.getD c = c ∧ es ≠ 0 ∧ o + c * es = n := by
            intro hq
            obtain ⟨q1, q2⟩ := Bool.or_eq_false_iff.1 hq
            exact ⟨(m4 q1).1, hf q2⟩
          have mul : ∀ l m : Nat, l ≤ m → l * es + (m - l) * es = m * es := fun l m hlm => by rw [← Nat.add_mul]; congr 1; omega
          have cmul : mx.getD c * es ≤ c * es := Nat.mul_le_mul_right _ m2
          split at he
          · rename_i hlt
            cases he
            refine ⟨_, run _ (if_neg (by omega)), .sl hk (by omega) (fun hq => by rw [exm hq]) ?_ ?_ (by omega)⟩
            · have := mul (lo.getD 0) (mx.getD c) (by omega)
              omega
            · intro hq
              obtain ⟨q1, q2, q3⟩ := exf hq
              have := mul (lo.getD 0) (mx.getD c) (by omega)
              rw [q1] at this ⊢
              exact ⟨q2, by omega⟩
          · rename_i hlt
            split at he
            · rename_i hq
              cases he
              have := exm hq
              refine ⟨_, run _ (if_pos (by omega)), .sl hk (by omega) (fun _ => by omega) ?_ (fun hq' => by rw [hq] at hq'; cases hq') (by omega)⟩
              have e0 : mx.getD c - lo.getD 0 = 0 := by omega
              rw [e0]; omega
            · rename_i hq
              have hq : (mx.isSome || ex) = false := by simpa using hq
              split at he
              · rename_i hl0
                cases he
                obtain ⟨q1, q2, q3⟩ := exf hq
                refine ⟨_, run (some ⟨b, o, none⟩) (by rw [hl0]; simp), .sl hk (by omega) (fun hq' => by rw [hq] at hq'; cases hq') ?_ ?_ (by omega)⟩
                · rw [hl0, Nat.sub_zero]; omega
                · intro _; rw [hl0, Nat.sub_zero, q1]; exact ⟨q2, q3⟩
              · cases he
        · cases he
    · rename_i ti ht
      cases hx
      split at he
      · rename_i hc
        obtain ⟨c1, c2, rfl⟩ := hc
        cases he
        have hb := run_bounds (P := P) (w := w) (isSlice := true) (len := 0) (cap := 0) hl hh hm (by omega) (fun _ => by omega) (by simp) (by simp)
        refine ⟨.slice none 0 0, ?_, .raw _⟩
        simp only [oSlice, Instr.sliceAt, Sem.run_bind, run_underlying_of hu, Result.andThen_ok, Instr.slice, hb, run_size_ti ht, Sem.run_pure, c1, c2, Option.getD_none, if_true, Nat.sub_zero]
      · cases he
    · cases he
  · rename_i lo hi n e el eh em hu
    have hl := hl _ el
    have hh := hh _ eh
    have hm := hm _ em
    split at he
    · rename_i ti k o ht
      cases hx with
      | @ptr _ _ b m hk =>
      split at he
      · rename_i t0 cs hc
        simp only at he
        split at he
        · rename_i hq
          obtain ⟨c1, c2, c3⟩ := hq
          cases he
          obtain ⟨b', n', us, ext, fr, h1, h2, h3, h4, h5, h6⟩ := r.cells hc
          rw [hk] at h1; cases h1
          have hlen := h4.1
          simp only [List.length_append] at h5
          have hb := run_bounds (P := P) (w := w) (isSlice := false) (len := n) (cap := n) hl hh hm c1 (fun _ => by simpa using c2) (by simp) (by simp)
          have mul : lo.getD 0 * ti.size + (n - lo.getD 0) * ti.size = n * ti.size := by rw [← Nat.add_mul]; congr 1; omega
          refine ⟨.slice (some (if n = lo.getD 0 then ⟨b, o, none⟩ else ⟨b, o + lo.getD 0 * ti.size, none⟩)) (hi.getD n - lo.getD 0) (n - lo.getD 0), ?_, ?_⟩
          · simp only [oSlice, Instr.sliceAt, Sem.run_bind, run_underlying_of hu, Result.andThen_ok, Instr.sureAddr, hb, run_size_ti ht, Sem.run_pure, Option.getD_none, add_at]
          · split
            · rename_i hnl
              refine .sl hk (Nat.le_refl _) (fun _ => rfl) ?_ (fun hq => by cases hq) (by omega)
              have : n - lo.getD 0 = 0 := by omega
              rw [this]; omega
            · refine .sl hk (Nat.le_refl _) (fun _ => rfl) (by omega) (fun hq => by cases hq) (by omega)
        · cases he
      · cases he
    · cases he
  · rename_i lo hi el eh em hu
    have hl := hl _ el
    have hh := hh _ eh
    have hm := hm _ em
    split at he
    · rename_i s
      cases hx
      simp only at he
      split at he
      · rename_i hc
        obtain ⟨c1, c2⟩ := hc
        cases he
        have hb := run_bounds (P := P) (w := w) (isSlice := false) (len := s.size) (cap := s.size) hl hh (Or.inl ⟨rfl, rfl⟩ : Bd none none) c1 (fun _ => by simpa using c2) (by simp) (by simp)
        rcases hm with ⟨_, rfl⟩ | ⟨_, _, _, _, hbad⟩
        · refine ⟨_, ?_, .raw _⟩
          have e : s.extract (lo.getD 0) (hi.getD s.size) = ⟨((s.data.toList.drop (lo.getD 0)).take (hi.getD s.size - lo.getD 0)).toArray⟩ := by
            apply ByteArray.ext
            apply Array.ext'
            simp [ByteArray.data_extract, List.take_drop, Nat.add_sub_cancel' c1]
          simp only [oSlice, Instr.sliceAt, Sem.run_bind, run_underlying_of hu, Result.andThen_ok, Instr.slice, Option.isSome_none, Bool.false_eq_true, if_false, hb, Sem.run_pure, e]
        · cases hbad
      · cases he
    · cases he
  · cases he
end
end Go.Fr
