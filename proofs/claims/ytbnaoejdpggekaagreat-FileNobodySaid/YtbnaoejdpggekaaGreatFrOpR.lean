/-
  This file proves: what the evaluator says of places, parts and conversions is so.
-/
import Derived.Test.YtbnaoejdpggekaaGreatFrOpQ
namespace Go.Fr
open Go
section
variable {P : Program} {w : World} {base : Nat} {w0 : World} {ρ : Lay} {h : VH}

theorem Ev.fieldOf_some {t : TypeId} {i off : Nat} {ti : TI} (he : Ev.fieldOf P t i = some (off, ti)) :
    ∃ fs f, P.underlying t = some (.struct fs) ∧ fs[i]? = some f ∧ f.offset = off ∧ mkTI P f.type = some ti := by
  unfold Ev.fieldOf at he
  split at he
  · rename_i fs hu
    split at he
    · rename_i f hf
      cases hm : mkTI P f.type with
      | none => simp [hm] at he
      | some x => simp [hm] at he; exact ⟨fs, f, hu, hf, he.1, by rw [hm, he.2]⟩
    · cases he
  · cases he

theorem Ev.fieldAt_ok {t : TypeId} {i : Nat} {v u : V} {v' : Value} (hv : VR ρ v v') (he : Ev.fieldAt P t i v = some u) : ∃ u', (oFieldAt t v' i).run P w = .ok (.value u') w ∧ VR ρ u u' := by
  unfold Ev.fieldAt at he
  split at he
  · rename_i k o
    cases hv with
    | @ptr _ _ b n hk =>
    split at he
    · rename_i off ti hff
      split at he
      · cases he
      · rename_i hz
        cases he
        obtain ⟨fs, f, hu, hf, ho, hm⟩ := Ev.fieldOf_some hff
        refine ⟨.pointer (some ⟨b, o + off, none⟩), ?_, .ptr hk⟩
        simp [oFieldAt, Instr.fieldAt, run_underlying_of hu, hf, Instr.sureAddr, fieldPlace, run_size_ti hm, hz, add_at, ho]
    · cases he
  · cases he

theorem Ev.partOf_ok {t : TypeId} {ti : TI} {cs : List V} {us : List Value} {off : Nat} {u : V} (ht : mkTI P t = some ti) (hc : VRs ρ cs us) (he : Ev.partOf ti cs off = some u) :
    ∃ u', (part t us.toArray off).run P w = .ok u' w ∧ VR ρ u u' := by
  unfold Ev.partOf at he
  split at he
  · rename_i ha
    split at he
    · rename_i hl
      cases he
      refine ⟨.agg ((us.drop off).take ti.size).toArray, ?_, ?_⟩
      · simp only [part, Sem.run_bind, run_isAgg_ti ht, ha, Result.andThen_ok, if_true, run_size_ti ht, Sem.run_pure]
        congr 2
        apply Array.ext'
        simp [List.take_drop]
      · have := (hc.drop off).take ti.size
        exact .agg this.1 this.2
    · cases he
  · rename_i ha
    rw [nth_eq] at he
    obtain ⟨u', hu, hr⟩ := hc.get he
    exact ⟨u', run_part_sc ht (by simpa using ha) hu, hr⟩

theorem Ev.field_ok {t : TypeId} {i : Nat} {v u : V} {v' : Value} (hv : VR ρ v v') (he : Ev.field P t i v = some u) : ∃ u', (oField t v' i).run P w = .ok (.value u') w ∧ VR ρ u u' := by
  unfold Ev.field at he
  split at he
  · rename_i ha
    split at he
    · rename_i off ti hff
      obtain ⟨us, rfl, hc⟩ := isAgV_ok hv ha
      obtain ⟨fs, f, hu, hf, ho, hm⟩ := Ev.fieldOf_some hff
      obtain ⟨u', hr, hv'⟩ := Ev.partOf_ok (P := P) (w := w) hm hc he
      subst ho
      exact ⟨u', by simp [oField, Instr.field, run_underlying_of hu, hf, asAgg, hr], hv'⟩
    · cases he
  · cases he

theorem Ev.indexAt_ok {t : TypeId} {x i u : V} {x' i' : Value} (hx : VR ρ x x') (hi : VR ρ i i') (he : Ev.indexAt P t x i = some u) :
    ∃ u', (oIndexAt t x' i').run P w = .ok (.value u') w ∧ VR ρ u u' := by
  unfold Ev.indexAt at he
  split at he
  · rename_i e k o len ex lb es kk i hu
    cases hi
    cases hx with
    | @sl _ _ _ _ _ b n c _ hk hl hex hn hf hle =>
    split at he
    · rename_i ti ht
      split at he
      · rename_i hc
        obtain ⟨c1, c2, c3⟩ := hc
        cases he
        refine ⟨.pointer (some ⟨b, o + i.toNat * es, none⟩), ?_, .ptr hk⟩
        simp [oIndexAt, Instr.indexAt, asIntOf, run_underlying_of hu, c2, c3, run_size_ti ht, add_at, ← c1]
      · cases he
    · cases he
  · rename_i n e k o kk i hu
    cases hi
    cases hx with
    | @ptr _ _ b m hk =>
    split at he
    · rename_i ti ht
      split at he
      · rename_i hc
        obtain ⟨c2, c3⟩ := hc
        cases he
        refine ⟨.pointer (some ⟨b, o + i.toNat * ti.size, none⟩), ?_, .ptr hk⟩
        simp [oIndexAt, Instr.indexAt, asIntOf, run_underlying_of hu, Instr.sureAddr, c2, c3, run_size_ti ht, add_at]
      · cases he
    · cases he
  · cases he

theorem Ev.index_ok {t : TypeId} {x i u : V} {x' i' : Value} (hx : VR ρ x x') (hi : VR ρ i i') (he : Ev.index P t x i = some u) :
    ∃ u', (oIndex t x' i').run P w = .ok (.value u') w ∧ VR ρ u u' := by
  unfold Ev.index at he
  split at he
  · rename_i s kk i hu
    cases hi; cases hx
    split at he
    · rename_i h0
      split at he
      · rename_i b hb
        cases he
        rw [nth_eq] at hb
        have hs : s[i.toNat]? = some b := by
          have hlt := (List.getElem?_eq_some_iff.1 hb).1
          have hlt' : i.toNat < s.size := by simpa using hlt
          rw [getElem?_pos s i.toNat hlt']
          have := (List.getElem?_eq_some_iff.1 hb).2
          rw [← this]
          rfl
        refine ⟨_, ?_, .raw _⟩
        simp [oIndex, Instr.index, asIntOf, run_underlying_of hu, h0, hs]
      · cases he
    · cases he
  · rename_i n e x kk i hu
    cases hi
    split at he
    · rename_i ti ht
      split at he
      · rename_i hc
        obtain ⟨c1, c2, c3⟩ := hc
        obtain ⟨us, rfl, hc⟩ := isAgV_ok hx c1
        obtain ⟨u', hr, hv'⟩ := Ev.partOf_ok (P := P) (w := w) ht hc he
        exact ⟨u', by simp [oIndex, Instr.index, asIntOf, run_underlying_of hu, c2, c3, run_size_ti ht, hr], hv'⟩
      · cases he
    · cases he
  · cases he

theorem Ev.extract_ok {x u : V} {x' : Value} {i : Nat} (hx : VR ρ x x') (he : Ev.extract x i = some u) : ∃ u', (oExtract x' i).run P w = .ok (.value u') w ∧ VR ρ u u' := by
  unfold Ev.extract at he
  split at he
  · cases hx with
    | tup hl hs =>
    rw [nth_eq] at he
    obtain ⟨u', hu, hr⟩ := Al.get ⟨hl, hs⟩ he
    exact ⟨u', by simp [oExtract, Instr.extract, hu], hr⟩
  · cases hx
    rename_i vs
    cases hn : nth vs.toList i with
    | none => simp [hn] at he
    | some z =>
      simp [hn] at he; subst he
      rw [nth_eq] at hn
      have : vs[i]? = some z := by simpa using hn
      exact ⟨z, by simp [oExtract, Instr.extract, this], .raw _⟩
  · cases he

theorem Ev.sliceCells_ok {size : Nat} {x : V} {x' : Value} {cs : List V} (r : WR base w0 ρ h w) (hx : VR ρ x x') (he : Ev.sliceCells h size x = some cs) :
    (∃ n c, x' = .slice none n c ∧ cs = []) ∨ (∃ s : ByteArray, x' = .string s ∧ size = 1 ∧ cs = s.data.toList.map fun b => .raw (.int .u8 b.toNat)) ∨
    ∃ b o n c us, x' = .slice (some ⟨b, o, none⟩) n c ∧ (∃ (vs ext : List Value) (t : TypeId) (fr : Nat × Nat), w.heap[b]? = some (.cells (vs ++ ext).toArray t fr) ∧ o + n * size ≤ vs.length ∧ (vs.drop o).take (n * size) = us) ∧ VRs ρ cs us := by
  unfold Ev.sliceCells at he
  split at he
  · cases hx; cases he; exact .inl ⟨_, _, rfl, rfl⟩
  · cases hx
    split at he
    · rename_i h1; cases he; exact .inr (.inl ⟨_, rfl, h1, rfl⟩)
    · cases he
  · rename_i k o len ex lb es
    cases hx with
    | @sl _ _ _ _ _ b n c _ hk hl hex hn hf hle =>
    split at he
    · rename_i hes
      split at he
      · rename_i t cs0 hc
        split at he
        · rename_i hle
          cases he
          obtain ⟨b', n', us, ext, fr, h1, h2, h3, h4, h5, h6⟩ := r.cells hc
          rw [hk] at h1; cases h1
          refine .inr (.inr ⟨b, o, len, c, _, rfl, ⟨us, ext, t, fr, h3, ?_, rfl⟩, ?_⟩)
          · rw [← hes]; have := h4.1; omega
          · rw [← hes]; exact (h4.drop o).take _
        · cases he
      · cases he
    · cases he
  · cases he

theorem Ev.lenOf_ok {x : V} {x' : Value} {n : Nat} (hx : VR ρ x x') (he : Ev.lenOf x = some n) : (∃ a c, x' = .slice a n c) ∨ ∃ s : ByteArray, x' = .string s ∧ s.size = n := by
  unfold Ev.lenOf at he
  split at he
  · cases hx; cases he; exact .inl ⟨_, _, rfl⟩
  · cases hx; cases he; exact .inr ⟨_, rfl, rfl⟩
  · cases hx; cases he; exact .inl ⟨_, _, rfl⟩
  · cases he

end
end Go.Fr
