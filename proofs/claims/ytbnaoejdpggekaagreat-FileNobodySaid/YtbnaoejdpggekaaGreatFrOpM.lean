/-
  This file proves: what the evaluator says of stores, maps, copies and conversions that make bytes is so.
-/
import Derived.Test.YtbnaoejdpggekaaGreatFrOpN
namespace Go.Fr
open Go
section
variable {P : Program} {w : World} {base : Nat} {w0 : World} {ρ : Lay} {h : VH}

theorem Ev.ostore_ok {t : TypeId} {a v : V} {a' v' : Value} {h' : VH} (r : WR base w0 ρ h w) (ha : VR ρ a a') (hv : VR ρ v v') (he : Ev.store P h t a v = some h') :
    Comes P base w0 ρ w (oStore t a' v') (.raw undef) h' := by
  obtain ⟨w', h1, h2⟩ := Ev.store_ok (P := P) r ha hv he
  exact ⟨undef, w', ρ, .inr ⟨by simp [oStore, h1], rfl⟩, Ext.refl ρ, .raw _, h2⟩

theorem Ev.newMap_ok {t : TypeId} (r : WR base w0 ρ h w) : Comes P base w0 ρ w (oMap t none) (.map h.next) (h.new (.map [] 0)) := by
  obtain ⟨h1, h2, h3⟩ := r.new (n := 0) (OR.map (ρ := ρ) (n := 0) (es := []) (us := []) (clock := 0) .nil) rfl
  exact ⟨_, _, _, .inl (by simp [oMap, Instr.makeMap, newObj, Sem.run]), h2, .map h3, h1⟩

theorem Ev.range_ok {t : TypeId} {x u : V} {x' : Value} {h' : VH} (r : WR base w0 ρ h w) (hx : VR ρ x x') (he : Ev.range P h t x = some (u, h')) : Comes P base w0 ρ w (oRange t x') u h' := by
  unfold Ev.range at he
  split at he
  · rename_i hu
    cases hx; cases he
    obtain ⟨h1, h2, h3⟩ := r.new (n := 0) (OR.iterNil (ρ := ρ) (n := 0) (since := 0) (stepped := 0) (seen := [])) rfl
    exact ⟨_, _, _, .inl (by simp [oRange, Instr.range, run_underlying_of hu, newObj, Sem.run]), h2, .ptr h3, h1⟩
  · rename_i k hu
    cases hx with
    | @map _ b n hk =>
    split at he
    · rename_i es clock hg
      cases he
      obtain ⟨b', n', x, g1, g2, g3, g4⟩ := r.obj k _ hg
      rw [hk] at g1; cases g1
      cases g4 with
      | map hal =>
        obtain ⟨h1, h2, h3⟩ := r.new (n := 0) (OR.iter (n := 0) (since := clock) (stepped := clock) (seen := []) hk) rfl
        exact ⟨_, _, _, .inl (by simp [oRange, Instr.range, run_underlying_of hu, run_getObj_map g3, newObj, Sem.run]), h2, .ptr h3, h1⟩
    · cases he
  · cases he

theorem run_setObj_of {b c : Nat} {us : Array MapEntry} {x : Obj} (hb : w.heap[b]? = some (.map us c)) : (setObj b x).run P w = .ok () { w with heap := w.heap.setIfInBounds b x } := by
  simp [setObj, Sem.run, hb]

theorem Al.modify {α β : Type} {R : α → β → Prop} {l : List α} {l' : List β} {f : α → α} {g : β → β} {i : Nat} (hl : Al R l l') (hf : ∀ a b, R a b → l'[i]? = some b → R (f a) (g b)) : Al R (l.modify i f) (l'.modify i g) := by
  refine ⟨by simp [hl.1], fun j a b ha hb => ?_⟩
  rw [List.getElem?_modify] at ha hb
  cases hj : l[j]? with
  | none => simp [hj] at ha
  | some a0 =>
    obtain ⟨b0, hb0, hr⟩ := hl.get hj
    rw [hj] at ha
    rw [hb0] at hb
    by_cases hij : i = j
    · subst hij
      simp at ha hb; subst ha hb
      exact hf _ _ hr hb0
    · simp [hij] at ha hb; subst ha hb; exact hr

theorem Al.eraseIdx {α β : Type} {R : α → β → Prop} {l : List α} {l' : List β} (i : Nat) (hl : Al R l l') : Al R (l.eraseIdx i) (l'.eraseIdx i) := by
  refine ⟨by simp [List.length_eraseIdx, hl.1], fun j a b ha hb => ?_⟩
  rw [List.getElem?_eraseIdx] at ha hb
  split at ha
  · rename_i h1; rw [if_pos h1] at hb; exact hl.2 _ _ _ ha hb
  · rename_i h1; rw [if_neg h1] at hb; exact hl.2 _ _ _ ha hb

theorem same_bits {k : Value} {v : V} {kd : TypeDesc} (hk : (∃ kk j n, kd = .int kk ∧ v = .raw (.int j n) ∧ k = .int j n) ∨ ∃ s, kd = .string ∧ v = .raw (.string s) ∧ k = .string s) : Instr.sameBits 10000 k k = true := by
  rcases hk with ⟨kk, j, n, _, _, rfl⟩ | ⟨s, _, _, rfl⟩
  · simp [Instr.sameBits]
  · simp [Instr.sameBits, beq_bytes]

theorem Ev.mapSet_ok {t : TypeId} {m k x : V} {m' k' x' : Value} {h' : VH} (r : WR base w0 ρ h w) (hm : VR ρ m m') (hk : VR ρ k k') (hx : VR ρ x x') (he : Ev.mapSet P h t m k x = some h') :
    Comes P base w0 ρ w (oMapSet t m' k' x') (.raw undef) h' := by
  unfold Ev.mapSet at he
  split at he
  · rename_i key elem rr hu
    cases hm with
    | @map _ b n hb =>
    split at he
    · rename_i es clock hg
      obtain ⟨b', n', y, g1, g2, g3, g4⟩ := r.obj _ _ hg
      rw [hb] at g1; cases g1
      cases g4 with
      | @map _ us _ hal =>
      split at he
      · rename_i hko
        obtain ⟨kd, hkd, hck, hkk⟩ := Ev.keyOk_ok hk hko
        split at he
        · rename_i i v hf
          cases he
          rcases Ev.find_ok (ρ := ρ) hkk hal hf with ⟨hbad, _⟩ | ⟨j', v1, v2, u2, hj, hfn, hv, hle, hu2, hkey⟩
          · cases hbad
          · cases hj
            simp only [Nat.sub_zero] at hu2
            have run : (oMapSet t (.map (some b)) k' x').run P w = .ok .skip { w with heap := w.heap.setIfInBounds b (.map (us.toArray.modify i fun e => { e with key := k', val := x' }) clock) } := by
              have hsb := same_bits hkk
              simp only [oMapSet, Instr.mapUpdate, Sem.run_bind, run_underlying_of hu, Result.andThen_ok, run_getObj_map g3, hck, Instr.findKey, run_underlying_of hkd, hfn, Sem.run_pure]
              simp [hu2, hkey, Instr.keyThatStays, hsb, run_setObj_of g3]
            refine ⟨undef, _, ρ, .inr ⟨run, rfl⟩, Ext.refl ρ, .raw _, r.put hg hb ?_ rfl⟩
            have e : us.toArray.modify i (fun e => { e with key := k', val := x' }) = (us.modify i fun e => { e with key := k', val := x' }).toArray := by simp
            rw [e]
            refine .map (hal.modify fun a b0 hr hb0 => ⟨hk, hx, hr.born⟩)
        · rename_i hf
          cases he
          rcases Ev.find_ok (ρ := ρ) hkk hal hf with ⟨_, hfn⟩ | ⟨j', v1, v2, u2, hj, _⟩
          · have run : (oMapSet t (.map (some b)) k' x').run P w = .ok .skip { w with heap := w.heap.setIfInBounds b (.map (us.toArray.push { key := k', val := x', born := clock }) (clock + 1)) } := by
              simp only [oMapSet, Instr.mapUpdate, Sem.run_bind, run_underlying_of hu, Result.andThen_ok, run_getObj_map g3, hck, Instr.findKey, run_underlying_of hkd, hfn, Sem.run_pure]
              simp [run_setObj_of g3]
            refine ⟨undef, _, ρ, .inr ⟨run, rfl⟩, Ext.refl ρ, .raw _, r.put hg hb ?_ rfl⟩
            have e : us.toArray.push ({ key := k', val := x', born := clock } : MapEntry) = (us ++ [({ key := k', val := x', born := clock } : MapEntry)]).toArray := by simp
            rw [e]
            exact .map (hal.app (.cons ⟨hk, hx, rfl⟩ .nil))
          · cases hj
        · cases he
      · cases he
    · cases he
  · cases he

theorem Ev.del_ok {t ty : TypeId} {ts : List TypeId} {bs : List Bool} {m k : V} {m' k' : Value} {h' : VH} (r : WR base w0 ρ h w) (hm : VR ρ m m') (hk : VR ρ k k') (he : Ev.del P h t m k = some h') :
    Comes P base w0 ρ w (oBuiltin .delete (t :: ts) ty bs [m', k']) (.raw (.tuple #[])) h' := by
  unfold Ev.del at he
  split at he
  · rename_i key elem rr hu
    cases hm with
    | @map _ b n hb =>
    split at he
    · rename_i es clock hg
      obtain ⟨b', n', y, g1, g2, g3, g4⟩ := r.obj _ _ hg
      rw [hb] at g1; cases g1
      cases g4 with
      | @map _ us _ hal =>
      split at he
      · rename_i hko
        obtain ⟨kd, hkd, hck, hkk⟩ := Ev.keyOk_ok hk hko
        split at he
        · rename_i i v hf
          cases he
          rcases Ev.find_ok (ρ := ρ) hkk hal hf with ⟨hbad, _⟩ | ⟨j', v1, v2, u2, hj, hfn, hv, hle, hu2, hkey⟩
          · cases hbad
          · cases hj
            have run : (oBuiltin .delete (t :: ts) ty bs [.map (some b), k']).run P w = .ok (.value (.tuple #[])) { w with heap := w.heap.setIfInBounds b (.map (us.toArray.eraseIdxIfInBounds i) clock) } := by
              simp [oBuiltin, Go.builtin, Builtin.delete_, run_underlying_of hu, run_getObj_map g3, hck, Instr.findKey, run_underlying_of hkd, hfn, run_setObj_of g3]
            refine ⟨_, _, ρ, .inl run, Ext.refl ρ, .raw _, r.put hg hb ?_ rfl⟩
            have e : us.toArray.eraseIdxIfInBounds i = (us.eraseIdx i).toArray := by simp
            rw [e]
            exact .map (hal.eraseIdx i)
        · rename_i hf
          cases he
          rcases Ev.find_ok (ρ := ρ) hkk hal hf with ⟨_, hfn⟩ | ⟨j', v1, v2, u2, hj, _⟩
          · have run : (oBuiltin .delete (t :: ts) ty bs [.map (some b), k']).run P w = .ok (.value (.tuple #[])) { w with heap := w.heap.setIfInBounds b (.map us.toArray clock) } := by
              simp [oBuiltin, Go.builtin, Builtin.delete_, run_underlying_of hu, run_getObj_map g3, hck, Instr.findKey, run_underlying_of hkd, hfn, run_setObj_of g3]
            exact ⟨_, _, ρ, .inl run, Ext.refl ρ, .raw _, r.put hg hb (.map hal) rfl⟩
          · cases hj
        · cases he
      · cases he
    · cases he
  · cases he
end
end Go.Fr
