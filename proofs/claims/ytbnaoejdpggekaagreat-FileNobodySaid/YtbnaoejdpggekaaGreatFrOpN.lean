/-
  This file proves: what the evaluator says of operations that do something is so.
-/
import Derived.Test.YtbnaoejdpggekaaGreatFrOpX
namespace Go.Fr
open Go

/-- What an operation comes to. -/
def Comes (P : Program) (base : Nat) (w0 : World) (ρ : Lay) (w : World) (s : Sem Next) (v : V) (h' : VH) : Prop :=
  ∃ u w' ρ', (s.run P w = .ok (.value u) w' ∨ (s.run P w = .ok .skip w' ∧ u = undef)) ∧ Ext ρ ρ' ∧ VR ρ' v u ∧ WR base w0 ρ' h' w'

section
variable {P : Program} {w : World} {base : Nat} {w0 : World} {ρ : Lay} {h : VH}

theorem good_quiet {s : Sem Next} {v : V} (r : WR base w0 ρ h w) (he : ∃ u, s.run P w = .ok (.value u) w ∧ VR ρ v u) : Comes P base w0 ρ w s v h := by
  obtain ⟨u, h1, h2⟩ := he
  exact ⟨u, w, ρ, .inl h1, Ext.refl ρ, h2, r⟩

/-- A new row, and a value that goes to it. -/
theorem good_new {s : Sem Next} {v : V} {t : TypeId} {cs : List V} {us ext : List Value} {fr : Nat × Nat} {n0 : Nat} (r : WR base w0 ρ h w) (hc : VRs ρ cs us)
    (hf : fr = (0, 0) ∨ (us ++ ext).length ≤ fr.1) (f : Nat → Value)
    (hs : s.run P w = .ok (.value (f w.heap.size)) { w with heap := w.heap.push (.cells (us ++ ext).toArray t fr), drawn := n0 })
    (hv : ∀ ρ', Ext ρ ρ' → ∀ b, ρ'[h.next]? = some (b, (us ++ ext).length) → VR ρ' v (f b)) : Comes P base w0 ρ w s v (h.new (.cells t cs)) := by
  obtain ⟨ρ', h1, h2, h3⟩ := Ev.new_ok (t := t) (ext := ext) (fr := fr) r hc hf
  exact ⟨_, _, ρ', .inl hs, h1, hv ρ' h1 _ h2, h3.drew n0⟩

theorem zs_rel {ti : TI} : VRs ρ (ti.zs.map .raw) ti.zs := raws_rel _

theorem Ev.alloc_ok {t : TypeId} {ti : TI} (r : WR base w0 ρ h w) (ht : mkTI P t = some ti) : Comes P base w0 ρ w (oAlloc t) (.ptr h.next 0) (h.new (.cells t (ti.zs.map .raw))) := by
  refine good_new (us := ti.zs) (ext := []) (fr := (0, 0)) (n0 := w.drawn) r zs_rel (.inl rfl) (fun b => .pointer (some ⟨b, 0, none⟩)) ?_ fun ρ' _ b hb => .ptr hb
  have : ti.zs.toArray = ti.z.cells := by simp [TI.zs]
  simp [oAlloc, Instr.alloc, run_zero_ti ht, newVar, newRow, this]

theorem Ev.box_ok {t : TypeId} {v : V} {v' : Value} (r : WR base w0 ρ h w) (hv : VR ρ v v') : Comes P base w0 ρ w (oBox t v') (.ptr h.next 0) (h.new (.cells t v.cells)) := by
  refine good_new (us := v'.cells.toList) (ext := []) (fr := (0, 0)) (n0 := w.drawn) r hv.cells (.inl rfl) (fun b => .pointer (some ⟨b, 0, none⟩)) ?_ fun ρ' _ b hb => .ptr hb
  simp [oBox, Instr.box, newVar, newRow]

theorem rep_len {α : Type} (zs : List α) (n : Nat) : (rep zs n).length = n * zs.length := by
  induction n with
  | zero => simp [rep]
  | succ n ih => simp [rep, ih, Nat.add_mul, Nat.add_comm]

theorem rep_eq {α : Type} (zs : List α) (n : Nat) : rep zs n = (List.replicate n zs).flatten := by
  induction n with
  | zero => simp [rep]
  | succ n ih => simp [rep, ih, List.replicate_succ]

theorem rep_rel (zs : List Value) (n : Nat) : VRs ρ (rep (zs.map .raw) n) (rep zs n) := by
  induction n with
  | zero => exact .nil
  | succ n ih => exact (raws_rel zs).app ih

theorem elemTI_some {t e : TypeId} {ti : TI} (he : elemTI P t = some (e, ti)) : P.underlying t = some (.slice e) ∧ mkTI P e = some ti := by
  unfold elemTI at he
  split at he
  · rename_i e' hu
    cases hm : mkTI P e' with
    | none => simp [hm] at he
    | some x => simp [hm] at he; obtain ⟨rfl, rfl⟩ := he; exact ⟨hu, hm⟩
  · cases he

theorem sl_of {t e : TypeId} {ti : TI} (he : elemTI P t = some (e, ti)) : Sl P t e ti.zs ti.bytes := by
  obtain ⟨hu, hm⟩ := elemTI_some he
  obtain ⟨_, i, hi, hs, hb, hz, hsz⟩ := mkTI_some hm
  refine ⟨?_⟩
  unfold slOf infOf
  simp [hu, hi, hz, TI.zs, hs, hb, hsz]

theorem Ev.buildSlice_ok {t : TypeId} {n : Nat} {ps : List (Nat × V)} {ps' : List (Nat × Value)} {u : V} {h' : VH} (r : WR base w0 ρ h w)
    (hp : Al (fun (a : Nat × V) (b : Nat × Value) => a.1 = b.1 ∧ VR ρ a.2 b.2) ps ps') (he : Ev.buildSlice P h t n ps = some (u, h')) : Comes P base w0 ρ w (oBuildSlice t n ps') u h' := by
  unfold Ev.buildSlice at he
  split at he
  · rename_i e ti hel
    have hsl := sl_of hel
    obtain ⟨hu, hm⟩ := elemTI_some hel
    have hzl := zs_len hm
    split at he
    · cases he
    · rename_i hn
      split at he
      · rename_i cs hf
        cases he
        obtain ⟨vs, h1, h2, h3⟩ := Ev.fill_ok (place' := fun i => some (i * ti.zs.length, ti.zs.length)) hp (fun i x hi => by rw [hzl]; exact hi) (rep_rel ti.zs n) (by rw [rep_len]; simp [hzl]) hf
        rw [rep_eq] at h1
        have hr := run_buildSlice (P := P) (T := t) (n := n) (ps := ps') (cs := vs) (by rw [hzl]; omega) h1 w
        refine good_new (us := vs) (ext := []) (fr := (0, 0)) (n0 := w.drawn) r h2 (.inl rfl) (fun b => .slice (some ⟨b, 0, none⟩) n n) (by simpa using hr) fun ρ' _ b hb => ?_
        refine .sl hb (Nat.le_refl _) (fun _ => rfl) ?_ (fun hq => by cases hq) (Nat.le_refl _)
        have := h2.1
        simp; omega
      · cases he
  · cases he

theorem Ev.make_ok {t : TypeId} {l c u : V} {l' c' : Value} {h' : VH} (r : WR base w0 ρ h w) (hl : VR ρ l l') (hc : VR ρ c c') (he : Ev.make P h t l c = some (u, h')) : Comes P base w0 ρ w (oMake t l' c') u h' := by
  unfold Ev.make at he
  split at he
  · rename_i e ti k1 l k2 c hel
    cases hl; cases hc
    split at he
    · rename_i hq
      obtain ⟨q1, q2, q3⟩ := hq
      cases he
      have hsl := sl_of hel
      obtain ⟨hu, hm⟩ := elemTI_some hel
      obtain ⟨_, i, hi, hs, hb, hz, hsz⟩ := mkTI_some hm
      have hzl := zs_len hm
      have hc0 : 0 ≤ c := by omega
      obtain ⟨n, rfl⟩ := Int.eq_ofNat_of_zero_le q1
      obtain ⟨m, rfl⟩ := Int.eq_ofNat_of_zero_le hc0
      have hmb : m * (ti.bytes + ti.size + 1) ≤ 1000000 := Int.ofNat_le.1 (by rw [Int.natCast_mul, Int.natCast_add, Int.natCast_add]; exact q3)
      have hm1 : m ≤ 1000000 := Nat.le_trans (Nat.le_mul_of_pos_right m (by omega)) hmb
      have hmb2 : m * ti.bytes ≤ 1000000 := Nat.le_trans (Nat.mul_le_mul_left m (by omega)) hmb
      have hnm : n ≤ m := by omega
      refine good_new (us := rep ti.zs m) (ext := []) (fr := (0, 0)) (n0 := w.drawn) r (rep_rel ti.zs m) (.inl rfl) (fun b => .slice (some ⟨b, 0, none⟩) n m) ?_ fun ρ' _ b hb => ?_
      · have e1 : IntKind.i64.wrap (n : Int) = n := wrap_fits (by omega) (by omega)
        have e2 : IntKind.i64.wrap (m : Int) = m := wrap_fits (by omega) (by omega)
        have g1 : ¬ ((ti.bytes : Int) * m > 2 ^ 48) := by
          have : (ti.bytes : Int) * m = ((m * ti.bytes : Nat) : Int) := by rw [Int.natCast_mul, Int.mul_comm]
          rw [this]; omega
        have g2 : ¬ ((m : Int) < 0) := by omega
        have g3 : ¬ ((n : Int) < 0) := by omega
        have g4 : ¬ ((n : Int) > m) := by omega
        have ask : (askRoom (m * ti.bytes)).run P w = .ok () w := run_askRoom _ _ _
        have zr := zero_rows ti.zs m
        have hzc : ti.z.cells = ti.zs.toArray := by simp [TI.zs]
        have zl : ti.size = ti.zs.length := hzl.symm
        by_cases h0 : m * ti.size = 0
        · have e3 : rep ti.zs m = [] := by
            have := rep_len ti.zs m
            rw [hzl, h0] at this
            exact List.length_eq_zero_iff.1 this
          simp only [oMake, Instr.makeSlice, Sem.run_bind, run_underlying_of hu, Result.andThen_ok, asInt, asIntOf, Sem.run_pure, run_info_of hi, hb, e1, e2, g1, g2, g3, g4, decide_false, Bool.or_false,
            Bool.false_eq_true, if_false, Int.toNat_natCast, ask, run_size_of hi, hs, h0, if_true, map_range_zero, e3]
          simp [newRow]
        · simp only [oMake, Instr.makeSlice, Sem.run_bind, run_underlying_of hu, Result.andThen_ok, asInt, asIntOf, Sem.run_pure, run_info_of hi, hb, e1, e2, g1, g2, g3, g4, decide_false, Bool.or_false,
            Bool.false_eq_true, if_false, Int.toNat_natCast, ask, run_size_of hi, hs, h0, run_zero_ti hm, hzc]
          rw [zl, zr, ← rep_eq]
          simp [newRow]
      · refine .sl hb (Nat.le_refl _) (fun _ => rfl) ?_ (fun hq => by cases hq) (by simpa using hnm)
        simp [rep_len, hzl]
    · cases he
  · cases he
end
end Go.Fr
