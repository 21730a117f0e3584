/-
  This file is a part of the proof that trees of operations tell what code does, and that an evaluator tells what trees do: this file proves: what the evaluator says of operations that do something is so; this file proves: what the evaluator says of stores, maps, copies and conversions that make bytes is so; this file proves: what the evaluator says of copies and conversions that make bytes is so; this file proves: what the evaluator says of append is so; this file proves: what append does, where there is room and where there is none; this file proves: what append does where there is no room.
-/
import Derived.Test.YtfonfgkjpndfaaaGreatDoorFrD

-- FrOpN
namespace Go.Fr
open Go
set_option linter.unusedSectionVars false
variable [Sig]

/-- What an operation comes to. -/
def Comes (P : Program) (base : Nat) (w0 : World) (ρ : Lay) (w : World) (s : Sem Next) (v : V) (h' : VH) : Prop :=
  ∃ u w' ρ', (s.run P w = .ok (.value u) w' ∨ (s.run P w = .ok .skip w' ∧ u = undef)) ∧ Ext ρ ρ' ∧ VR ρ' v u ∧ WR base w0 ρ' h' w'

section
variable {P : Program} {w : World} {base : Nat} {w0 : World} {ρ : Lay} {h : VH}

theorem good_quiet {s : Sem Next} {v : V} (r : WR base w0 ρ h w) (he : ∃ u, s.run P w = .ok (.value u) w ∧ VR ρ v u) : Comes P base w0 ρ w s v h := by
  obtain ⟨u, h1, h2⟩ := he
  exact ⟨u, w, ρ, .inl h1, Ext.refl ρ, h2, r⟩

/-- A new row, and a value that goes to it. -/
theorem good_new {s : Sem Next} {v : V} {t : TypeId} {cs : List V} {us ext : List Value} {fr : Nat × Nat} {n0 : Nat} (r : WR base w0 ρ h w) (hc : VRs ρ cs us)
    (hf : fr = (0, 0) ∨ (us ++ ext).length ≤ fr.1) (f : Nat → Value)
    (hs : s.run P w = .ok (.value (f w.heap.size)) { w with heap := w.heap.push (.cells (us ++ ext).toArray t fr), drawn := n0 })
    (hv : ∀ ρ', Ext ρ ρ' → ∀ b, ρ'[h.next]? = some (b, (us ++ ext).length) → VR ρ' v (f b)) : Comes P base w0 ρ w s v (h.new (.cells t cs)) := by
  obtain ⟨ρ', h1, h2, h3⟩ := Ev.new_ok (t := t) (ext := ext) (fr := fr) r hc hf
  exact ⟨_, _, ρ', .inl hs, h1, hv ρ' h1 _ h2, h3.drew n0⟩

theorem zs_rel {ti : TI} : VRs ρ (ti.zs.map .raw) ti.zs := raws_rel _

theorem Ev.alloc_ok {t : TypeId} {ti : TI} (r : WR base w0 ρ h w) (ht : mkTI P t = some ti) : Comes P base w0 ρ w (oAlloc t) (.ptr h.next 0) (h.new (.cells t (ti.zs.map .raw))) := by
  refine good_new (us := ti.zs) (ext := []) (fr := (0, 0)) (n0 := w.drawn) r zs_rel (.inl rfl) (fun b => .pointer (some ⟨b, 0, none⟩)) ?_ fun ρ' _ b hb => .ptr hb
  have : ti.zs.toArray = ti.z.cells := by simp [TI.zs]
  simp [oAlloc, Instr.alloc, run_zero_ti ht, newVar, newRow, this]

theorem Ev.box_ok {t : TypeId} {v : V} {v' : Value} (r : WR base w0 ρ h w) (hv : VR ρ v v') : Comes P base w0 ρ w (oBox t v') (.ptr h.next 0) (h.new (.cells t v.cells)) := by
  refine good_new (us := v'.cells.toList) (ext := []) (fr := (0, 0)) (n0 := w.drawn) r hv.cells (.inl rfl) (fun b => .pointer (some ⟨b, 0, none⟩)) ?_ fun ρ' _ b hb => .ptr hb
  simp [oBox, Instr.box, newVar, newRow]

theorem rep_len {α : Type} (zs : List α) (n : Nat) : (rep zs n).length = n * zs.length := by
  induction n with
  | zero => simp [rep]
  | succ n ih => simp [rep, ih, Nat.add_mul, Nat.add_comm]

theorem rep_eq {α : Type} (zs : List α) (n : Nat) : rep zs n = (List.replicate n zs).flatten := by
  induction n with
  | zero => simp [rep]
  | succ n ih => simp [rep, ih, List.replicate_succ]

theorem rep_rel (zs : List Value) (n : Nat) : VRs ρ (rep (zs.map .raw) n) (rep zs n) := by
  induction n with
  | zero => exact .nil
  | succ n ih => exact (raws_rel zs).app ih

theorem elemTI_some {t e : TypeId} {ti : TI} (he : elemTI P t = some (e, ti)) : P.underlying t = some (.slice e) ∧ mkTI P e = some ti := by
  unfold elemTI at he
  split at he
  · rename_i e' hu
    cases hm : mkTI P e' with
    | none => simp [hm] at he
    | some x => simp [hm] at he; obtain ⟨rfl, rfl⟩ := he; exact ⟨hu, hm⟩
  · cases he

theorem sl_of {t e : TypeId} {ti : TI} (he : elemTI P t = some (e, ti)) : Sl P t e ti.zs ti.bytes := by
  obtain ⟨hu, hm⟩ := elemTI_some he
  obtain ⟨_, i, hi, hs, hb, hz, hsz⟩ := mkTI_some hm
  refine ⟨?_⟩
  unfold slOf infOf
  simp [hu, hi, hz, TI.zs, hs, hb, hsz]

theorem Ev.buildSlice_ok {t : TypeId} {n : Nat} {ps : List (Nat × V)} {ps' : List (Nat × Value)} {u : V} {h' : VH} (r : WR base w0 ρ h w)
    (hp : Al (fun (a : Nat × V) (b : Nat × Value) => a.1 = b.1 ∧ VR ρ a.2 b.2) ps ps') (he : Ev.buildSlice P h t n ps = some (u, h')) : Comes P base w0 ρ w (oBuildSlice t n ps') u h' := by
  unfold Ev.buildSlice at he
  split at he
  · rename_i e ti hel
    have hsl := sl_of hel
    obtain ⟨hu, hm⟩ := elemTI_some hel
    have hzl := zs_len hm
    split at he
    · cases he
    · rename_i hn
      split at he
      · rename_i cs hf
        cases he
        obtain ⟨vs, h1, h2, h3⟩ := Ev.fill_ok (place' := fun i => some (i * ti.zs.length, ti.zs.length)) hp (fun i x hi => by rw [hzl]; exact hi) (rep_rel ti.zs n) (by rw [rep_len]; simp [hzl]) hf
        rw [rep_eq] at h1
        have hr := run_buildSlice (P := P) (T := t) (n := n) (ps := ps') (cs := vs) (by rw [hzl]; omega) h1 w
        refine good_new (us := vs) (ext := []) (fr := (0, 0)) (n0 := w.drawn) r h2 (.inl rfl) (fun b => .slice (some ⟨b, 0, none⟩) n n) (by simpa using hr) fun ρ' _ b hb => ?_
        refine .sl hb (Nat.le_refl _) (fun _ => rfl) ?_ (fun hq => by cases hq) (Nat.le_refl _)
        have := h2.1
        simp; omega
      · cases he
  · cases he

theorem Ev.make_ok {t : TypeId} {l c u : V} {l' c' : Value} {h' : VH} (r : WR base w0 ρ h w) (hl : VR ρ l l') (hc : VR ρ c c') (he : Ev.make P h t l c = some (u, h')) : Comes P base w0 ρ w (oMake t l' c') u h' := by
  unfold Ev.make at he
  split at he
  · rename_i e ti k1 l k2 c hel
    cases hl; cases hc
    split at he
    · rename_i hq
      obtain ⟨q1, q2, q3⟩ := hq
      cases he
      have hsl := sl_of hel
      obtain ⟨hu, hm⟩ := elemTI_some hel
      obtain ⟨_, i, hi, hs, hb, hz, hsz⟩ := mkTI_some hm
      have hzl := zs_len hm
      have hc0 : 0 ≤ c := by omega
      obtain ⟨n, rfl⟩ := Int.eq_ofNat_of_zero_le q1
      obtain ⟨m, rfl⟩ := Int.eq_ofNat_of_zero_le hc0
      have hmb : m * (ti.bytes + ti.size + 1) ≤ 1000000 := Int.ofNat_le.1 (by rw [Int.natCast_mul, Int.natCast_add, Int.natCast_add]; exact q3)
      have hm1 : m ≤ 1000000 := Nat.le_trans (Nat.le_mul_of_pos_right m (by omega)) hmb
      have hmb2 : m * ti.bytes ≤ 1000000 := Nat.le_trans (Nat.mul_le_mul_left m (by omega)) hmb
      have hnm : n ≤ m := by omega
      refine good_new (us := rep ti.zs m) (ext := []) (fr := (0, 0)) (n0 := w.drawn) r (rep_rel ti.zs m) (.inl rfl) (fun b => .slice (some ⟨b, 0, none⟩) n m) ?_ fun ρ' _ b hb => ?_
      · have e1 : IntKind.i64.wrap (n : Int) = n := wrap_fits (by omega) (by omega)
        have e2 : IntKind.i64.wrap (m : Int) = m := wrap_fits (by omega) (by omega)
        have g1 : ¬ ((ti.bytes : Int) * m > 2 ^ 48) := by
          have : (ti.bytes : Int) * m = ((m * ti.bytes : Nat) : Int) := by rw [Int.natCast_mul, Int.mul_comm]
          rw [this]; omega
        have g2 : ¬ ((m : Int) < 0) := by omega
        have g3 : ¬ ((n : Int) < 0) := by omega
        have g4 : ¬ ((n : Int) > m) := by omega
        have ask : (askRoom (m * ti.bytes)).run P w = .ok () w := run_askRoom _ _ _
        have zr := zero_rows ti.zs m
        have hzc : ti.z.cells = ti.zs.toArray := by simp [TI.zs]
        have zl : ti.size = ti.zs.length := hzl.symm
        by_cases h0 : m * ti.size = 0
        · have e3 : rep ti.zs m = [] := by
            have := rep_len ti.zs m
            rw [hzl, h0] at this
            exact List.length_eq_zero_iff.1 this
          simp only [oMake, Instr.makeSlice, Sem.run_bind, run_underlying_of hu, Result.andThen_ok, asInt, asIntOf, Sem.run_pure, run_info_of hi, hb, e1, e2, g1, g2, g3, g4, decide_false, Bool.or_false,
            Bool.false_eq_true, if_false, Int.toNat_natCast, ask, run_size_of hi, hs, h0, if_true, map_range_zero, e3]
          simp [newRow]
        · simp only [oMake, Instr.makeSlice, Sem.run_bind, run_underlying_of hu, Result.andThen_ok, asInt, asIntOf, Sem.run_pure, run_info_of hi, hb, e1, e2, g1, g2, g3, g4, decide_false, Bool.or_false,
            Bool.false_eq_true, if_false, Int.toNat_natCast, ask, run_size_of hi, hs, h0, run_zero_ti hm, hzc]
          rw [zl, zr, ← rep_eq]
          simp [newRow]
      · refine .sl hb (Nat.le_refl _) (fun _ => rfl) ?_ (fun hq => by cases hq) (by simpa using hnm)
        simp [rep_len, hzl]
    · cases he
  · cases he
end
end Go.Fr

-- FrOpM
namespace Go.Fr
open Go
set_option linter.unusedSectionVars false
variable [Sig]
section
variable {P : Program} {w : World} {base : Nat} {w0 : World} {ρ : Lay} {h : VH}

theorem Ev.ostore_ok {t : TypeId} {a v : V} {a' v' : Value} {h' : VH} (r : WR base w0 ρ h w) (ha : VR ρ a a') (hv : VR ρ v v') (he : Ev.store P h t a v = some h') :
    Comes P base w0 ρ w (oStore t a' v') (.raw undef) h' := by
  obtain ⟨w', h1, h2⟩ := Ev.store_ok (P := P) r ha hv he
  exact ⟨undef, w', ρ, .inr ⟨by simp [oStore, h1], rfl⟩, Ext.refl ρ, .raw _, h2⟩

theorem Ev.newMap_ok {t : TypeId} (r : WR base w0 ρ h w) : Comes P base w0 ρ w (oMap t none) (.map h.next) (h.new (.map [] 0)) := by
  obtain ⟨h1, h2, h3⟩ := r.new (n := 0) (OR.map (ρ := ρ) (n := 0) (es := []) (us := []) (clock := 0) .nil) rfl
  exact ⟨_, _, _, .inl (by simp [oMap, Instr.makeMap, newObj, Sem.run]), h2, .map h3, h1⟩

theorem Ev.range_ok {t : TypeId} {x u : V} {x' : Value} {h' : VH} (r : WR base w0 ρ h w) (hx : VR ρ x x') (he : Ev.range P h t x = some (u, h')) : Comes P base w0 ρ w (oRange t x') u h' := by
  unfold Ev.range at he
  split at he
  · rename_i hu
    cases hx; cases he
    obtain ⟨h1, h2, h3⟩ := r.new (n := 0) (OR.iterNil (ρ := ρ) (n := 0) (since := 0) (stepped := 0) (seen := [])) rfl
    exact ⟨_, _, _, .inl (by simp [oRange, Instr.range, run_underlying_of hu, newObj, Sem.run]), h2, .ptr h3, h1⟩
  · rename_i k hu
    cases hx with
    | @map _ b n hk =>
    split at he
    · rename_i es clock hg
      cases he
      obtain ⟨b', n', x, g1, g2, g3, g4⟩ := r.obj k _ hg
      rw [hk] at g1; cases g1
      cases g4 with
      | map hal =>
        obtain ⟨h1, h2, h3⟩ := r.new (n := 0) (OR.iter (n := 0) (since := clock) (stepped := clock) (seen := []) hk) rfl
        exact ⟨_, _, _, .inl (by simp [oRange, Instr.range, run_underlying_of hu, run_getObj_map g3, newObj, Sem.run]), h2, .ptr h3, h1⟩
    · cases he
  · cases he

theorem run_setObj_of {b c : Nat} {us : Array MapEntry} {x : Obj} (hb : w.heap[b]? = some (.map us c)) : (setObj b x).run P w = .ok () { w with heap := w.heap.setIfInBounds b x } := by
  simp [setObj, Sem.run, hb]

theorem Al.modify {α β : Type} {R : α → β → Prop} {l : List α} {l' : List β} {f : α → α} {g : β → β} {i : Nat} (hl : Al R l l') (hf : ∀ a b, R a b → l'[i]? = some b → R (f a) (g b)) : Al R (l.modify i f) (l'.modify i g) := by
  refine ⟨by simp [hl.1], fun j a b ha hb => ?_⟩
  rw [List.getElem?_modify] at ha hb
  cases hj : l[j]? with
  | none => simp [hj] at ha
  | some a0 =>
    obtain ⟨b0, hb0, hr⟩ := hl.get hj
    rw [hj] at ha
    rw [hb0] at hb
    by_cases hij : i = j
    · subst hij
      simp at ha hb; subst ha hb
      exact hf _ _ hr hb0
    · simp [hij] at ha hb; subst ha hb; exact hr

theorem Al.eraseIdx {α β : Type} {R : α → β → Prop} {l : List α} {l' : List β} (i : Nat) (hl : Al R l l') : Al R (l.eraseIdx i) (l'.eraseIdx i) := by
  refine ⟨by simp [List.length_eraseIdx, hl.1], fun j a b ha hb => ?_⟩
  rw [List.getElem?_eraseIdx] at ha hb
  split at ha
  · rename_i h1; rw [if_pos h1] at hb; exact hl.2 _ _ _ ha hb
  · rename_i h1; rw [if_neg h1] at hb; exact hl.2 _ _ _ ha hb

theorem same_bits {k : Value} {v : V} {kd : TypeDesc} (hk : (∃ kk j n, kd = .int kk ∧ v = .raw (.int j n) ∧ k = .int j n) ∨ ∃ s, kd = .string ∧ v = .raw (.string s) ∧ k = .string s) : Instr.sameBits 10000 k k = true := by
  rcases hk with ⟨kk, j, n, _, _, rfl⟩ | ⟨s, _, _, rfl⟩
  · simp [Instr.sameBits]
  · simp [Instr.sameBits, beq_bytes]

theorem Ev.mapSet_ok {t : TypeId} {m k x : V} {m' k' x' : Value} {h' : VH} (r : WR base w0 ρ h w) (hm : VR ρ m m') (hk : VR ρ k k') (hx : VR ρ x x') (he : Ev.mapSet P h t m k x = some h') :
    Comes P base w0 ρ w (oMapSet t m' k' x') (.raw undef) h' := by
  unfold Ev.mapSet at he
  split at he
  · rename_i key elem rr hu
    cases hm with
    | @map _ b n hb =>
    split at he
    · rename_i es clock hg
      obtain ⟨b', n', y, g1, g2, g3, g4⟩ := r.obj _ _ hg
      rw [hb] at g1; cases g1
      cases g4 with
      | @map _ us _ hal =>
      split at he
      · rename_i hko
        obtain ⟨kd, hkd, hck, hkk⟩ := Ev.keyOk_ok hk hko
        split at he
        · rename_i i v hf
          cases he
          rcases Ev.find_ok (ρ := ρ) hkk hal hf with ⟨hbad, _⟩ | ⟨j', v1, v2, u2, hj, hfn, hv, hle, hu2, hkey⟩
          · cases hbad
          · cases hj
            simp only [Nat.sub_zero] at hu2
            have run : (oMapSet t (.map (some b)) k' x').run P w = .ok .skip { w with heap := w.heap.setIfInBounds b (.map (us.toArray.modify i fun e => { e with key := k', val := x' }) clock) } := by
              have hsb := same_bits hkk
              simp only [oMapSet, Instr.mapUpdate, Sem.run_bind, run_underlying_of hu, Result.andThen_ok, run_getObj_map g3, hck, Instr.findKey, run_underlying_of hkd, hfn, Sem.run_pure]
              simp [hu2, hkey, Instr.keyThatStays, hsb, run_setObj_of g3]
            refine ⟨undef, _, ρ, .inr ⟨run, rfl⟩, Ext.refl ρ, .raw _, r.put hg hb ?_ rfl⟩
            have e : us.toArray.modify i (fun e => { e with key := k', val := x' }) = (us.modify i fun e => { e with key := k', val := x' }).toArray := by simp
            rw [e]
            refine .map (hal.modify fun a b0 hr hb0 => ⟨hk, hx, hr.born⟩)
        · rename_i hf
          cases he
          rcases Ev.find_ok (ρ := ρ) hkk hal hf with ⟨_, hfn⟩ | ⟨j', v1, v2, u2, hj, _⟩
          · have run : (oMapSet t (.map (some b)) k' x').run P w = .ok .skip { w with heap := w.heap.setIfInBounds b (.map (us.toArray.push { key := k', val := x', born := clock }) (clock + 1)) } := by
              simp only [oMapSet, Instr.mapUpdate, Sem.run_bind, run_underlying_of hu, Result.andThen_ok, run_getObj_map g3, hck, Instr.findKey, run_underlying_of hkd, hfn, Sem.run_pure]
              simp [run_setObj_of g3]
            refine ⟨undef, _, ρ, .inr ⟨run, rfl⟩, Ext.refl ρ, .raw _, r.put hg hb ?_ rfl⟩
            have e : us.toArray.push ({ key := k', val := x', born := clock } : MapEntry) = (us ++ [({ key := k', val := x', born := clock } : MapEntry)]).toArray := by simp
            rw [e]
            exact .map (hal.app (.cons ⟨hk, hx, rfl⟩ .nil))
          · cases hj
        · cases he
      · cases he
    · cases he
  · cases he

theorem Ev.del_ok {t ty : TypeId} {ts : List TypeId} {bs : List Bool} {m k : V} {m' k' : Value} {h' : VH} (r : WR base w0 ρ h w) (hm : VR ρ m m') (hk : VR ρ k k') (he : Ev.del P h t m k = some h') :
    Comes P base w0 ρ w (oBuiltin .delete (t :: ts) ty bs [m', k']) (.raw (.tuple #[])) h' := by
  unfold Ev.del at he
  split at he
  · rename_i key elem rr hu
    cases hm with
    | @map _ b n hb =>
    split at he
    · rename_i es clock hg
      obtain ⟨b', n', y, g1, g2, g3, g4⟩ := r.obj _ _ hg
      rw [hb] at g1; cases g1
      cases g4 with
      | @map _ us _ hal =>
      split at he
      · rename_i hko
        obtain ⟨kd, hkd, hck, hkk⟩ := Ev.keyOk_ok hk hko
        split at he
        · rename_i i v hf
          cases he
          rcases Ev.find_ok (ρ := ρ) hkk hal hf with ⟨hbad, _⟩ | ⟨j', v1, v2, u2, hj, hfn, hv, hle, hu2, hkey⟩
          · cases hbad
          · cases hj
            have run : (oBuiltin .delete (t :: ts) ty bs [.map (some b), k']).run P w = .ok (.value (.tuple #[])) { w with heap := w.heap.setIfInBounds b (.map (us.toArray.eraseIdxIfInBounds i) clock) } := by
              simp [oBuiltin, Go.builtin, Builtin.delete_, run_underlying_of hu, run_getObj_map g3, hck, Instr.findKey, run_underlying_of hkd, hfn, run_setObj_of g3]
            refine ⟨_, _, ρ, .inl run, Ext.refl ρ, .raw _, r.put hg hb ?_ rfl⟩
            have e : us.toArray.eraseIdxIfInBounds i = (us.eraseIdx i).toArray := by simp
            rw [e]
            exact .map (hal.eraseIdx i)
        · rename_i hf
          cases he
          rcases Ev.find_ok (ρ := ρ) hkk hal hf with ⟨_, hfn⟩ | ⟨j', v1, v2, u2, hj, _⟩
          · have run : (oBuiltin .delete (t :: ts) ty bs [.map (some b), k']).run P w = .ok (.value (.tuple #[])) { w with heap := w.heap.setIfInBounds b (.map us.toArray clock) } := by
              simp [oBuiltin, Go.builtin, Builtin.delete_, run_underlying_of hu, run_getObj_map g3, hck, Instr.findKey, run_underlying_of hkd, hfn, run_setObj_of g3]
            exact ⟨_, _, ρ, .inl run, Ext.refl ρ, .raw _, r.put hg hb (.map hal) rfl⟩
          · cases hj
        · cases he
      · cases he
    · cases he
  · cases he
end
end Go.Fr

-- FrOpA
namespace Go.Fr
open Go
set_option linter.unusedSectionVars false
variable [Sig]
section
variable {P : Program} {w : World} {base : Nat} {w0 : World} {ρ : Lay} {h : VH}

theorem run_lenOf {x : V} {x' : Value} {n : Nat} (hx : VR ρ x x') (he : Ev.lenOf x = some n) : (Builtin.lenOf x').run P w = .ok n w := by
  rcases Ev.lenOf_ok hx he with ⟨a, c, rfl⟩ | ⟨s, rfl, rfl⟩ <;> simp [Builtin.lenOf]

/-- The first cells of what is copied or appended. -/
theorem run_first {size n m : Nat} {x : V} {x' : Value} {cs : List V} (r : WR base w0 ρ h w) (hx : VR ρ x x') (hl : Ev.lenOf x = some n) (he : Ev.sliceCells h size x = some cs) (hm : m ≤ n) :
    ∃ us, (Builtin.firstCells size m x').run P w = .ok us.toArray w ∧ VRs ρ (cs.take (m * size)) us := by
  rcases Ev.sliceCells_ok r hx he with ⟨k, c, rfl, rfl⟩ | ⟨s, rfl, hsz, rfl⟩ | ⟨b, o, k, c, us, rfl, ⟨vs, ext, t, fr, hh, hle, hus⟩, hrel⟩
  · exact ⟨[], by simp [Builtin.firstCells], by simpa using Al.nil⟩
  · subst hsz
    refine ⟨(s.data.toList.take m).map fun b => .int .u8 b.toNat, ?_, ?_⟩
    · simp only [Builtin.firstCells, Sem.run_pure]
      congr 1
      apply Array.ext'
      simp [ByteArray.data_extract]
    · rw [Nat.mul_one, ← List.map_take]
      exact ⟨by simp, fun i a b ha hb => by
        rw [List.getElem?_map] at ha hb
        cases hq : (s.data.toList.take m)[i]? with
        | none => simp [hq] at ha
        | some y => simp [hq] at ha hb; subst ha hb; exact .raw _⟩
  · have hk : k = n := by
      rcases Ev.lenOf_ok hx hl with ⟨_, _, hq⟩ | ⟨_, hq, _⟩
      · cases hq; rfl
      · cases hq
    subst hk
    have hmn : m * size ≤ k * size := Nat.mul_le_mul_right _ hm
    refine ⟨us.take (m * size), ?_, hrel.take _⟩
    simp only [Builtin.firstCells]
    rw [run_loadCells_fr hh (by simp; omega), ← hus]
    congr 2
    rw [List.drop_append_of_le_length (by omega), List.take_append_of_le_length (by simp; omega), List.take_take, Nat.min_eq_left hmn]

theorem Ev.copy_ok {ts : List TypeId} {ty : TypeId} {bs : List Bool} {d s u : V} {d' s' : Value} {h' : VH} (r : WR base w0 ρ h w) (hd : VR ρ d d') (hs : VR ρ s s') (he : Ev.copy P h ts d s = some (u, h')) :
    Comes P base w0 ρ w (oBuiltin .copy ts ty bs [d', s']) u h' := by
  unfold Ev.copy at he
  split at he
  · rename_i t ts
    split at he
    · rename_i e ti dn sn hel hdn hsn
      obtain ⟨hu, hm⟩ := elemTI_some hel
      simp only at he
      split at he
      · rename_i cs hc
        obtain ⟨us, h1, h2⟩ := run_first (P := P) (m := Nat.min sn dn) r hs hsn hc (Nat.min_le_left _ _)
        split at he
        · cases hd; cases he
          simp only [Ev.lenOf, Option.some.injEq] at hdn
          subst hdn
          refine good_quiet r ⟨_, ?_, .raw _⟩
          have hmin : sn.min 0 = 0 := Nat.min_eq_right (Nat.zero_le _)
          rw [hmin] at h1 ⊢
          simp only [oBuiltin, Go.builtin, Builtin.copy_, Sem.run_bind, List.getElem?_toArray, List.getElem?_cons_zero, List.getElem?_cons_succ, run_underlying_of hu, Result.andThen_ok, run_lenOf hs hsn, hmin, run_size_ti hm, h1, Sem.run_pure, goInt]
        · rename_i k o len ex lb es
          split at he
          · cases he
          · rename_i hes
            have hes : es = ti.size := Decidable.not_not.1 hes
            split at he
            · rename_i h1' hp
              cases he
              cases hd with
              | @sl _ _ _ _ _ b n c _ hk hl hex hn hf hle =>
              simp only [Ev.lenOf, Option.some.injEq] at hdn
              subst hdn
              rw [hes] at hp
              obtain ⟨w', h3, h4⟩ := Ev.put_ok (P := P) r hk h2 hp
              refine ⟨_, w', ρ, .inl ?_, Ext.refl ρ, .raw _, h4⟩
              simp only [oBuiltin, Go.builtin, Builtin.copy_, Sem.run_bind, List.getElem?_toArray, List.getElem?_cons_zero, List.getElem?_cons_succ, run_underlying_of hu, Result.andThen_ok, run_lenOf hs hsn, run_size_ti hm, h1, h3, Sem.run_pure, goInt]
            · cases he
        · cases he
      · cases he
    · cases he
  · cases he

theorem modify_push {a : Array Obj} {x : Obj} {f : Obj → Obj} : (a.push x).modify a.size f = a.push (f x) := by
  apply Array.ext_getElem?
  intro i
  simp only [Array.getElem?_modify, Array.getElem?_push]
  by_cases hi : a.size = i
  · subst hi; simp
  · simp only [hi, if_false]
    split <;> simp_all

theorem run_markStringish {b : Nat} {t : TypeId} {cs : List Value} {fr : Nat × Nat} (hb : w.heap[b]? = some (.cells cs.toArray t fr)) (o : Nat) :
    (markStringish ⟨b, o, none⟩).run P w = .ok () { w with heap := w.heap.setIfInBounds b (.cells cs.toArray t (if fr.1 == fr.2 then (cs.length, cs.length + 1) else (min fr.1 cs.length, max fr.2 (cs.length + 1)))) } := by
  have hs : w.shape? b = some (t, cs.length) := by simp [World.shape?, hb]
  have hf : w.freeze { block := b, off := cs.length } 1 = { w with heap := w.heap.setIfInBounds b (.cells cs.toArray t (if fr.1 == fr.2 then (cs.length, cs.length + 1) else (min fr.1 cs.length, max fr.2 (cs.length + 1)))) } := by
    unfold World.freeze
    simp only [Nat.one_ne_zero, if_false]
    congr 1
    apply Array.ext_getElem?
    intro i
    simp only [Array.getElem?_modify, Array.getElem?_setIfInBounds]
    by_cases hi : b = i
    · subst hi
      obtain ⟨hlt, hg⟩ := Array.getElem?_eq_some_iff.1 hb
      simp [hlt, hg]
    · simp [hi]
  simp [markStringish, shape, freeze, Sem.run, hs, hf]

theorem WR.congr {h2 : VH} (r : WR base w0 ρ h w) (hg : ∀ j, h.get j = h2.get j) (hn : h2.next = h.next) : WR base w0 ρ h2 w :=
  ⟨r.below, r.size, by rw [hn, r.len], fun k o hk => r.obj k o (by rw [hg]; exact hk), fun k k' o o' b n n' h1 h3 => r.inj k k' o o' b n n' (by rw [hg]; exact h1) (by rw [hg]; exact h3)⟩

theorem Ev.convn_ok {s d : TypeId} {x u : V} {x' : Value} {h' : VH} (r : WR base w0 ρ h w) (hx : VR ρ x x') (he : Ev.convn P h s d x = some (u, h')) : Comes P base w0 ρ w (oConv s d x') u h' := by
  unfold Ev.convn at he
  split at he
  · rename_i e hs hd
    split at he
    · rename_i b
      cases hx
      split at he
      · rename_i hu
        cases he
        have hb : VRs ρ (b.data.toList.map fun (b : UInt8) => V.raw (Value.int .u8 b.toNat)) (b.data.toList.map fun (b : UInt8) => Value.int .u8 b.toNat) :=
          ⟨by simp, fun i a c ha hc => by
            rw [List.getElem?_map] at ha hc
            cases hq : b.data.toList[i]? with
            | none => simp [hq] at ha
            | some y => simp [hq] at ha hc; subst ha hc; exact .raw _⟩
        obtain ⟨k, hk⟩ : ∃ k, k = w.tape w.drawn (.appendCap b.size 0 e) % (2 ^ 63 - b.size) := ⟨_, rfl⟩
        have hn : ((b.data.toList.map fun (b : UInt8) => Value.int .u8 b.toNat) ++ List.replicate k (Value.int .u8 0)).length = b.size + k := by simp
        refine good_new (us := b.data.toList.map fun (b : UInt8) => Value.int .u8 b.toNat) (ext := List.replicate k (Value.int .u8 0)) (fr := (b.size + k, b.size + k + 1)) (n0 := w.drawn + 1) r hb (.inr (by rw [hn]; exact Nat.le_refl _))
          (fun bl => .slice (some ⟨bl, 0, none⟩) b.size (b.size + k)) ?_ fun ρ' _ bl hbl => ?_
        · have hc : (choose (.appendCap b.size 0 e)).run P w = .ok (b.size + k) w.drew := by
            simp only [choose, Sem.run, Question.forced, Bool.false_eq_true, if_false, Question.cut, ← hk]
            rfl
          have e1 : b.data.map (fun (b : UInt8) => Value.int .u8 b.toNat) ++ Array.replicate (b.size + k - b.size) (Value.int .u8 0) = ((b.data.toList.map fun (b : UInt8) => Value.int .u8 b.toNat) ++ List.replicate k (Value.int .u8 0)).toArray := by
            apply Array.ext'
            simp
          have hm := run_markStringish (P := P) (w := { w.drew with heap := w.heap.push (.cells ((b.data.toList.map fun (b : UInt8) => Value.int .u8 b.toNat) ++ List.replicate k (Value.int .u8 0)).toArray e) }) (b := w.heap.size) (t := e) (fr := (0, 0))
            (cs := (b.data.toList.map fun (b : UInt8) => Value.int .u8 b.toNat) ++ List.replicate k (Value.int .u8 0)) (by simp) 0
          rw [hn] at hm
          have e2 : (w.heap.push (.cells ((b.data.toList.map fun (b : UInt8) => Value.int .u8 b.toNat) ++ List.replicate k (Value.int .u8 0)).toArray e (0, 0))).setIfInBounds w.heap.size (.cells ((b.data.toList.map fun (b : UInt8) => Value.int .u8 b.toNat) ++ List.replicate k (Value.int .u8 0)).toArray e (b.size + k, b.size + k + 1)) =
              w.heap.push (.cells ((b.data.toList.map fun (b : UInt8) => Value.int .u8 b.toNat) ++ List.replicate k (Value.int .u8 0)).toArray e (b.size + k, b.size + k + 1)) := by
            apply Array.ext_getElem?
            intro i
            simp only [Array.getElem?_setIfInBounds, Array.getElem?_push, Array.size_push]
            by_cases hi : w.heap.size = i
            · subst hi; simp
            · simp only [hi, if_false]
              split <;> simp_all
          have hst : (Conv.stringToBytes e b).run P w = .ok (.slice (some ⟨w.heap.size, 0, none⟩) b.size (b.size + k)) { w with heap := w.heap.push (.cells ((b.data.toList.map fun (b : UInt8) => Value.int .u8 b.toNat) ++ List.replicate k (Value.int .u8 0)).toArray e (b.size + k, b.size + k + 1)), drawn := w.drawn + 1 } := by
            have hnew : ∀ a, (newRow e a).run P w.drew = .ok ⟨w.heap.size, 0, none⟩ { w.drew with heap := w.heap.push (.cells a e) } := fun a => by simp [newRow]; rfl
            simp only [Conv.stringToBytes, Sem.run_bind, hc, Result.andThen_ok, e1, hnew, hm, Sem.run_pure]
            simp only [beq_self_eq_true, if_true, e2]
            rfl
          simp only [oConv, convert, Sem.run_bind, run_underlying_of hs, run_underlying_of hd, Result.andThen_ok, run_underlying_of hu, hst, Sem.run_pure]
        · refine .sl hbl (by omega) (fun hq => by cases hq) (by rw [hn]; omega) (fun _ => ⟨by omega, by rw [hn]; omega⟩) (Nat.le_refl _)
      · cases he
    · cases he
  · rename_i e1 e hs hd
    split at he
    · rename_i k o n ex lb es
      split at he
      · rename_i y hu hc
        split at he
        · rename_i hsd
          cases he
          obtain ⟨t, cs⟩ := y
          obtain ⟨b', n', us, ext, fr, h1, h2, h3, h4, h5, h6⟩ := r.cells hc
          have hx0 := hx
          cases hx with
          | @sl _ _ _ _ _ b nn c _ hk hl hex hn hf hle =>
          rw [hk] at h1; cases h1
          obtain ⟨fr', hm, hfr⟩ : ∃ fr' : Nat × Nat, (markStringish ⟨b', o, none⟩).run P w = .ok () { w with heap := w.heap.setIfInBounds b' (.cells (us ++ ext).toArray t fr') } ∧ (us ++ ext).length ≤ fr'.1 := by
            refine ⟨_, run_markStringish (P := P) h3 o, ?_⟩
            split
            · exact Nat.le_refl _
            · rcases h6 with h6 | h6
              · rename_i hq; rw [h6] at hq; simp at hq
              · exact Nat.le_min.2 ⟨h6, Nat.le_refl _⟩
          refine ⟨_, _, ρ, .inl ?_, Ext.refl ρ, hx0, (r.put (cellsAt_some hc) hk (.cells (t := t) (fr := fr') h4 h5 (.inr (by rw [← h5]; exact hfr))) rfl).congr ?_ rfl⟩
          · simp only [oConv, convert, Sem.run_bind, run_underlying_of hd, Result.andThen_ok, run_underlying_of hu, hsd, beq_self_eq_true, hm, Sem.run_pure]
          · intro j
            unfold VH.get VH.set
            simp only [PT.get_set]
            split
            · rename_i hj; subst hj; exact (cellsAt_some hc).symm
            · rfl
        · cases he
      · cases he
    · cases he
  · cases he
end
end Go.Fr

-- FrApp
namespace Go.Fr
open Go
set_option linter.unusedSectionVars false
variable [Sig]

/-- What is appended. -/
def apNew (elem : TypeId) (size n : Nat) (zeros : Bool) (x : Value) : Sem (Array Value) :=
  if !zeros then Builtin.firstCells size n x
  else if n * size = 0 then pure #[]
  else do pure (Builtin.zeroCells (← zeroValue elem).cells n)

section
variable {P : Program} {w : World} {base : Nat} {w0 : World} {ρ : Lay} {h : VH}

/-- What is said of what is appended is so. -/
theorem Ev.added_int {e t : TypeId} {ti : TI} {kk : IntKind} {x : V} {x' : Value} {new : List V} {n : Nat} (hel : elemTI P t = some (e, ti))
    (hx : VR ρ x x') (he : Ev.added h ti (.int kk) x = some (new, n)) : ∃ us, VRs ρ new us ∧ us.length = n * ti.size ∧ (∀ d, (apNew e ti.size n true x').run P { w with drawn := d } = .ok us.toArray { w with drawn := d }) ∧
    n * (ti.bytes + 1) ≤ 1000000 ∧ ∃ k, x' = .int k n := by
  obtain ⟨hu, hm⟩ := elemTI_some hel
  have hzl := zs_len hm
  simp only [Ev.added] at he
  split at he
  · rename_i k j
    cases hx
    split at he
    · rename_i hq
      obtain ⟨q1, q2⟩ := hq
      cases he
      obtain ⟨n, rfl⟩ := Int.eq_ofNat_of_zero_le q1
      have hb : n * (ti.bytes + 1) ≤ 1000000 := Int.ofNat_le.1 (by rw [Int.natCast_mul, Int.natCast_add]; exact q2)
      refine ⟨rep ti.zs n, rep_rel _ _, by rw [rep_len, hzl]; rfl, fun d => ?_, hb, k, rfl⟩
      simp only [Int.toNat_natCast, apNew, Bool.not_true, Bool.false_eq_true, if_false]
      by_cases h0 : n * ti.size = 0
      · have e3 : rep ti.zs n = [] := by
          have := rep_len ti.zs n
          rw [hzl, h0] at this
          exact List.length_eq_zero_iff.1 this
        simp [h0, e3]
      · have hzc : ti.z.cells = ti.zs.toArray := by simp [TI.zs]
        simp only [h0, if_false, Sem.run_bind, run_zero_ti hm, Result.andThen_ok, Sem.run_pure, hzc, Builtin.zeroCells]
        have := zero_rows ti.zs n
        rw [← rep_eq] at this
        exact congrArg (fun a => Result.ok a _) this
    · cases he
  · cases he

theorem Ev.sliceCells_len {size n : Nat} {x : V} {cs : List V} (hl : Ev.lenOf x = some n) (he : Ev.sliceCells h size x = some cs) : cs.length = n * size := by
  unfold Ev.sliceCells at he
  split at he
  · cases he; simp only [Ev.lenOf, Option.some.injEq] at hl; simp [← hl]
  · split at he
    · rename_i h1; subst h1; cases he
      simp only [Ev.lenOf, Option.some.injEq] at hl
      simp [← hl]
    · cases he
  · split at he
    · rename_i hes; subst hes
      split at he
      · split at he
        · cases he
          simp only [Ev.lenOf, Option.some.injEq] at hl
          subst hl
          simp only [List.length_take, List.length_drop]
          omega
        · cases he
      · cases he
    · cases he
  · cases he

theorem Ev.added_row {e : TypeId} {ti : TI} {d2 : TypeDesc} {x : V} {x' : Value} {new : List V} {n : Nat} (r : WR base w0 ρ h w) (hni : ∀ k, d2 ≠ .int k)
    (hx : VR ρ x x') (he : Ev.added h ti d2 x = some (new, n)) : (∀ d, ∃ us, VRs ρ new us ∧ us.length = n * ti.size ∧ (apNew e ti.size n false x').run P { w with drawn := d } = .ok us.toArray { w with drawn := d }) ∧
    (∀ d, (Builtin.lenOf x').run P { w with drawn := d } = .ok n { w with drawn := d }) := by
  have he' : (match Ev.sliceCells h ti.size x, Ev.lenOf x with | some new, some n => some (new, n) | _, _ => none) = some (new, n) := by
    unfold Ev.added at he
    split at he
    · exact absurd rfl (hni _)
    · exact he
  split at he'
  · rename_i new' n' hc hl
    cases he'
    have hlen := Ev.sliceCells_len hl hc
    refine ⟨fun d => ?_, fun d => run_lenOf hx hl⟩
    obtain ⟨us, h1, h2⟩ := run_first (P := P) (m := n) (r.drew d) hx hl hc (Nat.le_refl _)
    rw [List.take_of_length_le (by omega)] at h2
    exact ⟨us, h2, by rw [← h2.1]; exact hlen, by simp [apNew, h1]⟩
  · cases he'
end
end Go.Fr

-- FrApp2
namespace Go.Fr
open Go
set_option linter.unusedSectionVars false
variable [Sig]
section
variable {P : Program} {w : World}

/-- How many are appended, and what. -/
structure Adds (P : Program) (w : World) (d : Nat) (e : TypeId) (ti : TI) (d2 : TypeDesc) (n : Nat) (x : Value) (us : List Value) : Prop where
  int : (∃ kk, d2 = .int kk) → n * (ti.bytes + 1) ≤ 1000000 ∧ (∃ k, x = .int k n) ∧ (apNew e ti.size n true x).run P { w with drawn := d } = .ok us.toArray { w with drawn := d }
  row : (∀ kk, d2 ≠ .int kk) → (apNew e ti.size n false x).run P { w with drawn := d } = .ok us.toArray { w with drawn := d } ∧ ∀ d, (Builtin.lenOf x).run P { w with drawn := d } = .ok n { w with drawn := d }

theorem run_append_room {t t2 e ty : TypeId} {ts : List TypeId} {ti : TI} {d2 : TypeDesc} {n m c : Nat} {x : Value} {us : List Value} {base : Option Addr} {w' : World} (hel : elemTI P t = some (e, ti)) (hd2 : P.underlying t2 = some d2)
    (ha : Adds P w w.drawn e ti d2 n x us) (hr : m + n ≤ c)
    (hs : match base with | some a => (storeCells (a.add (m * ti.size)) us).run P w = .ok () w' | none => w' = w) :
    (Builtin.append_ (t :: t2 :: ts).toArray ty #[.slice base m c, x]).run P w = .ok (.slice base (m + n) c) w' := by
  obtain ⟨hu, hm⟩ := elemTI_some hel
  obtain ⟨_, i, hi, hsz, hb, hz, _⟩ := mkTI_some hm
  by_cases hint : ∃ kk, d2 = .int kk
  · obtain ⟨kk, rfl⟩ := hint
    obtain ⟨hbnd, ⟨k, rfl⟩, hnew⟩ := ha.int ⟨kk, rfl⟩
    have hn1 : n ≤ 1000000 := Nat.le_trans (Nat.le_mul_of_pos_right n (by omega)) hbnd
    have e1 : IntKind.i64.wrap (n : Int) = n := wrap_fits (by omega) (by omega)
    have g0 : ¬ ((n : Int) < 0) := by omega
    have g1 : ¬ ((n : Int) * (ti.bytes : Int) > 2 ^ 48) := by
      have h2 : n * ti.bytes ≤ 1000000 := Nat.le_trans (Nat.mul_le_mul_left n (by omega)) hbnd
      have : (n : Int) * (ti.bytes : Int) = ((n * ti.bytes : Nat) : Int) := by rw [Int.natCast_mul]
      rw [this]; omega
    simp only [apNew, Bool.not_true, Bool.false_eq_true, if_false] at hnew
    simp only [Builtin.append_, List.getElem?_toArray, List.getElem?_cons_zero, List.getElem?_cons_succ, Sem.run_bind, run_underlying_of hu, run_underlying_of hd2, Result.andThen_ok, run_size_of hi, hsz, Sem.run_pure, if_true, asInt, asIntOf, e1, g0, if_false, run_info_of hi, hb, g1,
      Int.toNat_natCast, hr, Bool.not_true, Bool.false_eq_true]
    have hnew' : (if n * ti.size = 0 then pure #[] else do pure (Builtin.zeroCells (← zeroValue e).cells n) : Sem (Array Value)).run P w = .ok us.toArray w := hnew
    rw [hnew']
    cases base with
    | none => simp only at hs; subst hs; simp
    | some a => simp only at hs; simp [hs]
  · have hni : ∀ kk, d2 ≠ .int kk := fun kk hk => hint ⟨kk, hk⟩
    obtain ⟨hnew, hlen⟩ := ha.row hni
    have hnew' : (Builtin.firstCells ti.size n x).run P w = .ok us.toArray w := hnew
    have hlen' : (Builtin.lenOf x).run P w = .ok n w := hlen w.drawn
    simp only [Builtin.append_, List.getElem?_toArray, List.getElem?_cons_zero, List.getElem?_cons_succ, Sem.run_bind, run_underlying_of hu, run_underlying_of hd2, Result.andThen_ok, run_size_of hi, hsz, Sem.run_pure, hlen',
      hr, Bool.not_false, Bool.false_eq_true, if_true, if_false, hnew']
    cases base with
    | none => simp only at hs; subst hs; simp
    | some a => simp only at hs; simp [hs]
end
end Go.Fr

-- FrApp3
namespace Go.Fr
open Go
set_option linter.unusedSectionVars false
variable [Sig]
section
variable {P : Program} {w : World}

theorem run_append_none {t t2 e ty : TypeId} {ts : List TypeId} {ti : TI} {d2 : TypeDesc} {n m c : Nat} {x : Value} {us olds : List Value} {base : Option Addr} (hel : elemTI P t = some (e, ti)) (hd2 : P.underlying t2 = some d2)
    (ha : Adds P w (w.drawn + 1) e ti d2 n x us) (hr : ¬ m + n ≤ c) (hbig : (m + n) * (ti.bytes + 1) ≤ 1000000)
    (ho : (Builtin.firstCells ti.size m (.slice base m c)).run P w.drew = .ok olds.toArray w.drew) :
    ∃ k, (Builtin.append_ (t :: t2 :: ts).toArray ty #[.slice base m c, x]).run P w =
      .ok (.slice (some ⟨w.heap.size, 0, none⟩) (m + n) (m + n + k)) { w with heap := w.heap.push (.cells (olds ++ us ++ rep ti.zs k).toArray e), drawn := w.drawn + 1 } := by
  obtain ⟨hu, hm⟩ := elemTI_some hel
  obtain ⟨_, i, hi, hsz, hb, hz, _⟩ := mkTI_some hm
  have hm1 : m + n ≤ 1000000 := Nat.le_trans (Nat.le_mul_of_pos_right (m + n) (by omega)) hbig
  have hm2 : (m + n) * ti.bytes ≤ 1000000 := Nat.le_trans (Nat.mul_le_mul_left (m + n) (by omega)) hbig
  have hcap : Builtin.nextslicecap (m + n) c * ti.bytes ≤ 2000000 := by
    have h1 := nextslicecap_le (need := m + n) (old := c) (by omega)
    have h2 : Builtin.nextslicecap (m + n) c * ti.bytes ≤ 2 * (m + n) * ti.bytes := Nat.mul_le_mul_right _ h1
    have h3 : 2 * (m + n) * ti.bytes = 2 * ((m + n) * ti.bytes) := Nat.mul_assoc _ _ _
    omega
  have h63 : ¬ (((m + n : Nat) : Int) > IntKind.i64.max) := by
    have : IntKind.i64.max = 9223372036854775807 := rfl
    rw [this]; omega
  have h48 : ¬ (Builtin.nextslicecap (m + n) c * ti.bytes > 2 ^ 48) := by omega
  obtain ⟨k, hk⟩ : ∃ k, k = w.tape w.drawn (.appendCap (m + n) c e) % (2 ^ 63 - (m + n)) := ⟨_, rfl⟩
  have hc : (choose (.appendCap (m + n) c e)).run P w = .ok (m + n + k) w.drew := by
    simp only [choose, Sem.run, Question.forced, Bool.false_eq_true, if_false, Question.cut, ← hk]
    rfl
  have ho' : (Builtin.firstCells ti.size m (.slice base m c)).run P w.drew = .ok olds.toArray w.drew := ho
  have hzc : ti.z.cells = ti.zs.toArray := by simp [TI.zs]
  have hrest : Builtin.zeroCells ti.zs.toArray k = (rep ti.zs k).toArray := by
    have := zero_rows ti.zs k
    rw [← rep_eq] at this
    exact this
  refine ⟨k, ?_⟩
  have hkk : m + n + k - (m + n) = k := by omega
  by_cases hint : ∃ kk, d2 = .int kk
  · obtain ⟨kk, rfl⟩ := hint
    obtain ⟨hbnd, ⟨kx, rfl⟩, hnew⟩ := ha.int ⟨kk, rfl⟩
    have hn1 : n ≤ 1000000 := Nat.le_trans (Nat.le_mul_of_pos_right n (by omega)) hbnd
    have e1 : IntKind.i64.wrap (n : Int) = n := wrap_fits (by omega) (by omega)
    have g0 : ¬ ((n : Int) < 0) := by omega
    have g1 : ¬ ((n : Int) * (ti.bytes : Int) > 2 ^ 48) := by
      have h2 : n * ti.bytes ≤ 1000000 := Nat.le_trans (Nat.mul_le_mul_left n (by omega)) hbnd
      have : (n : Int) * (ti.bytes : Int) = ((n * ti.bytes : Nat) : Int) := by rw [Int.natCast_mul]
      rw [this]; omega
    have hnew' : (if n * ti.size = 0 then pure #[] else do pure (Builtin.zeroCells (← zeroValue e).cells n) : Sem (Array Value)).run P w.drew = .ok us.toArray w.drew := by
      have := hnew
      simp only [apNew, Bool.not_true, Bool.false_eq_true, if_false] at this
      exact this
    simp only [Builtin.append_, List.getElem?_toArray, List.getElem?_cons_zero, List.getElem?_cons_succ, Sem.run_bind, run_underlying_of hu, run_underlying_of hd2, Result.andThen_ok, run_size_of hi, hsz, Sem.run_pure, if_true, asInt, asIntOf, e1, g0, if_false, run_info_of hi, hb, g1,
      Int.toNat_natCast, hr, Bool.not_true, Bool.false_eq_true, h63, false_and, h48, hc, run_askRoom, ho', hnew', run_zero_ti hm, hzc, hkk, hrest]
    simp [newRow]
    exact ⟨rfl, rfl, rfl⟩
  · obtain ⟨hnew, hlen⟩ := ha.row fun kk hk => hint ⟨kk, hk⟩
    have hnew' : (Builtin.firstCells ti.size n x).run P w.drew = .ok us.toArray w.drew := hnew
    have hlen' : (Builtin.lenOf x).run P w = .ok n w := hlen w.drawn
    have hni : ∀ kk, d2 ≠ .int kk := fun kk hk => hint ⟨kk, hk⟩
    cases d2 <;> first | exact absurd rfl (hni _) | skip
    all_goals simp only [Builtin.append_, List.getElem?_toArray, List.getElem?_cons_zero, List.getElem?_cons_succ, Sem.run_bind, run_underlying_of hu, run_underlying_of hd2, Result.andThen_ok, run_size_of hi, hsz, Sem.run_pure, hlen', run_info_of hi, hb,
      hr, Bool.not_false, Bool.false_eq_true, if_true, if_false, h63, false_and, h48, hc, run_askRoom, ho', hnew', run_zero_ti hm, hzc, hkk, hrest]
    all_goals (simp [newRow]; exact ⟨rfl, rfl, rfl⟩)
end
end Go.Fr
