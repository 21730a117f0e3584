/-
  This file proves: what the evaluator says of copies and conversions that make bytes is so.
-/
import Derived.Test.YtbnaoejdpggekaaGreatFrOpM
namespace Go.Fr
open Go
section
variable {P : Program} {w : World} {base : Nat} {w0 : World} {ρ : Lay} {h : VH}

theorem run_lenOf {x : V} {x' : Value} {n : Nat} (hx : VR ρ x x') (he : Ev.lenOf x = some n) : (Builtin.lenOf x').run P w = .ok n w := by
  rcases Ev.lenOf_ok hx he with ⟨a, c, rfl⟩ | ⟨s, rfl, rfl⟩ <;> simp [Builtin.lenOf]

/-- The first cells of what is copied or appended. -/
theorem run_first {size n m : Nat} {x : V} {x' : Value} {cs : List V} (r : WR base w0 ρ h w) (hx : VR ρ x x') (hl : Ev.lenOf x = some n) (he : Ev.sliceCells h size x = some cs) (hm : m ≤ n) :
    ∃ us, (Builtin.firstCells size m x').run P w = .ok us.toArray w ∧ VRs ρ (cs.take (m * size)) us := by
  rcases Ev.sliceCells_ok r hx he with ⟨k, c, rfl, rfl⟩ | ⟨s, rfl, hsz, rfl⟩ | ⟨b, o, k, c, us, rfl, ⟨vs, ext, t, fr, hh, hle, hus⟩, hrel⟩
  · exact ⟨[], by simp [Builtin.firstCells], by simpa using Al.nil⟩
  · subst hsz
    refine ⟨(s.data.toList.take m).map fun b => .int .u8 b.toNat, ?_, ?_⟩
    · simp only [Builtin.firstCells, Sem.run_pure]
      congr 1
      apply Array.ext'
      simp [ByteArray.data_extract]
    · rw [Nat.mul_one, ← List.map_take]
      exact ⟨by simp, fun i a b ha hb => by
        rw [List.getElem?_map] at ha hb
        cases hq : (s.data.toList.take m)[i]? with
        | none => simp [hq] at ha
        | some y => simp [hq] at ha hb; subst ha hb; exact .raw _⟩
  · have hk : k = n := by
      rcases Ev.lenOf_ok hx hl with ⟨_, _, hq⟩ | ⟨_, hq, _⟩
      · cases hq; rfl
      · cases hq
    subst hk
    have hmn : m * size ≤ k * size := Nat.mul_le_mul_right _ hm
    refine ⟨us.take (m * size), ?_, hrel.take _⟩
    simp only [Builtin.firstCells]
    rw [run_loadCells_fr hh (by simp; omega), ← hus]
    congr 2
    rw [List.drop_append_of_le_length (by omega), List.take_append_of_le_length (by simp; omega), List.take_take, Nat.min_eq_left hmn]

theorem Ev.copy_ok {ts : List TypeId} {ty : TypeId} {bs : List Bool} {d s u : V} {d' s' : Value} {h' : VH} (r : WR base w0 ρ h w) (hd : VR ρ d d') (hs : VR ρ s s') (he : Ev.copy P h ts d s = some (u, h')) :
    Comes P base w0 ρ w (oBuiltin .copy ts ty bs [d', s']) u h' := by
  unfold Ev.copy at he
  split at he
  · rename_i t ts
    split at he
    · rename_i e ti dn sn hel hdn hsn
      obtain ⟨hu, hm⟩ := elemTI_some hel
      simp only at he
      split at he
      · rename_i cs hc
        obtain ⟨us, h1, h2⟩ := run_first (P := P) (m := Nat.min sn dn) r hs hsn hc (Nat.min_le_left _ _)
        split at he
        · cases hd; cases he
          simp only [Ev.lenOf, Option.some.injEq] at hdn
          subst hdn
          refine good_quiet r ⟨_, ?_, .raw _⟩
          have hmin : sn.min 0 = 0 := Nat.min_eq_right (Nat.zero_le _)
          rw [hmin] at h1 ⊢
          simp only [oBuiltin, Go.builtin, Builtin.copy_, Sem.run_bind, List.getElem?_toArray, List.getElem?_cons_zero, List.getElem?_cons_succ, run_underlying_of hu, Result.andThen_ok, run_lenOf hs hsn, hmin, run_size_ti hm, h1, Sem.run_pure, goInt]
        · rename_i k o len ex lb es
          split at he
          · cases he
          · rename_i hes
            have hes : es = ti.size := Decidable.not_not.1 hes
            split at he
            · rename_i h1' hp
              cases he
              cases hd with
              | @sl _ _ _ _ _ b n c _ hk hl hex hn hf hle =>
              simp only [Ev.lenOf, Option.some.injEq] at hdn
              subst hdn
              rw [hes] at hp
              obtain ⟨w', h3, h4⟩ := Ev.put_ok (P := P) r hk h2 hp
              refine ⟨_, w', ρ, .inl ?_, Ext.refl ρ, .raw _, h4⟩
              simp only [oBuiltin, Go.builtin, Builtin.copy_, Sem.run_bind, List.getElem?_toArray, List.getElem?_cons_zero, List.getElem?_cons_succ, run_underlying_of hu, Result.andThen_ok, run_lenOf hs hsn, run_size_ti hm, h1, h3, Sem.run_pure, goInt]
            · cases he
        · cases he
      · cases he
    · cases he
  · cases he

theorem modify_push {a : Array Obj} {x : Obj} {f : Obj → Obj} : (a.push x).modify a.size f = a.push (f x) := by
  apply Array.ext_getElem?
  intro i
  simp only [Array.getElem?_modify, Array.getElem?_push]
  by_cases hi : a.size = i
  · subst hi; simp
  · simp only [hi, if_false]
    split <;> simp_all

theorem run_markStringish {b : Nat} {t : TypeId} {cs : List Value} {fr : Nat × Nat} (hb : w.heap[b]? = some (.cells cs.toArray t fr)) (o : Nat) :
    (markStringish ⟨b, o, none⟩).run P w = .ok () { w with heap := w.heap.setIfInBounds b (.cells cs.toArray t (if fr.1 == fr.2 then (cs.length, cs.length + 1) else (min fr.1 cs.length, max fr.2 (cs.length + 1)))) } := by
  have hs : w.shape? b = some (t, cs.length) := by simp [World.shape?, hb]
  have hf : w.freeze { block := b, off := cs.length } 1 = { w with heap := w.heap.setIfInBounds b (.cells cs.toArray t (if fr.1 == fr.2 then (cs.length, cs.length + 1) else (min fr.1 cs.length, max fr.2 (cs.length + 1)))) } := by
    unfold World.freeze
    simp only [Nat.one_ne_zero, if_false]
    congr 1
    apply Array.ext_getElem?
    intro i
    simp only [Array.getElem?_modify, Array.getElem?_setIfInBounds]
    by_cases hi : b = i
    · subst hi
      obtain ⟨hlt, hg⟩ := Array.getElem?_eq_some_iff.1 hb
      simp [hlt, hg]
    · simp [hi]
  simp [markStringish, shape, freeze, Sem.run, hs, hf]

theorem WR.congr {h2 : VH} (r : WR base w0 ρ h w) (hg : ∀ j, h.get j = h2.get j) (hn : h2.next = h.next) : WR base w0 ρ h2 w :=
  ⟨r.below, r.size, by rw [hn, r.len], fun k o hk => r.obj k o (by rw [hg]; exact hk), fun k k' o o' b n n' h1 h3 => r.inj k k' o o' b n n' (by rw [hg]; exact h1) (by rw [hg]; exact h3)⟩

theorem Ev.convn_ok {s d : TypeId} {x u : V} {x' : Value} {h' : VH} (r : WR base w0 ρ h w) (hx : VR ρ x x') (he : Ev.convn P h s d x = some (u, h')) : Comes P base w0 ρ w (oConv s d x') u h' := by
  unfold Ev.convn at he
  split at he
  · rename_i e hs hd
    split at he
    · rename_i b
      cases hx
      split at he
      · rename_i hu
        cases he
        have hb : VRs ρ (b.data.toList.map fun (b : UInt8) => V.raw (Value.int .u8 b.toNat)) (b.data.toList.map fun (b : UInt8) => Value.int .u8 b.toNat) :=
          ⟨by simp, fun i a c ha hc => by
            rw [List.getElem?_map] at ha hc
            cases hq : b.data.toList[i]? with
            | none => simp [hq] at ha
            | some y => simp [hq] at ha hc; subst ha hc; exact .raw _⟩
        obtain ⟨k, hk⟩ : ∃ k, k = w.tape w.drawn (.appendCap b.size 0 e) % (2 ^ 63 - b.size) := ⟨_, rfl⟩
        have hn : ((b.data.toList.map fun (b : UInt8) => Value.int .u8 b.toNat) ++ List.replicate k (Value.int .u8 0)).length = b.size + k := by simp
        refine good_new (us := b.data.toList.map fun (b : UInt8) => Value.int .u8 b.toNat) (ext := List.replicate k (Value.int .u8 0)) (fr := (b.size + k, b.size + k + 1)) (n0 := w.drawn + 1) r hb (.inr (by rw [hn]; exact Nat.le_refl _))
          (fun bl => .slice (some ⟨bl, 0, none⟩) b.size (b.size + k)) ?_ fun ρ' _ bl hbl => ?_
        · have hc : (choose (.appendCap b.size 0 e)).run P w = .ok (b.size + k) w.drew := by
            simp only [choose, Sem.run, Question.forced, Bool.false_eq_true, if_false, Question.cut, ← hk]
            rfl
          have e1 : b.data.map (fun (b : UInt8) => Value.int .u8 b.toNat) ++ Array.replicate (b.size + k - b.size) (Value.int .u8 0) = ((b.data.toList.map fun (b : UInt8) => Value.int .u8 b.toNat) ++ List.replicate k (Value.int .u8 0)).toArray := by
            apply Array.ext'
            simp
          have hm := run_markStringish (P := P) (w := { w.drew with heap := w.heap.push (.cells ((b.data.toList.map fun (b : UInt8) => Value.int .u8 b.toNat) ++ List.replicate k (Value.int .u8 0)).toArray e) }) (b := w.heap.size) (t := e) (fr := (0, 0))
            (cs := (b.data.toList.map fun (b : UInt8) => Value.int .u8 b.toNat) ++ List.replicate k (Value.int .u8 0)) (by simp) 0
          rw [hn] at hm
          have e2 : (w.heap.push (.cells ((b.data.toList.map fun (b : UInt8) => Value.int .u8 b.toNat) ++ List.replicate k (Value.int .u8 0)).toArray e (0, 0))).setIfInBounds w.heap.size (.cells ((b.data.toList.map fun (b : UInt8) => Value.int .u8 b.toNat) ++ List.replicate k (Value.int .u8 0)).toArray e (b.size + k, b.size + k + 1)) =
              w.heap.push (.cells ((b.data.toList.map fun (b : UInt8) => Value.int .u8 b.toNat) ++ List.replicate k (Value.int .u8 0)).toArray e (b.size + k, b.size + k + 1)) := by
            apply Array.ext_getElem?
            intro i
            simp only [Array.getElem?_setIfInBounds, Array.getElem?_push, Array.size_push]
            by_cases hi : w.heap.size = i
            · subst hi; simp
            · simp only [hi, if_false]
              split <;> simp_all
          have hst : (Conv.stringToBytes e b).run P w = .ok (.slice (some ⟨w.heap.size, 0, none⟩) b.size (b.size + k)) { w with heap := w.heap.push (.cells ((b.data.toList.map fun (b : UInt8) => Value.int .u8 b.toNat) ++ List.replicate k (Value.int .u8 0)).toArray e (b.size + k, b.size + k + 1)), drawn := w.drawn + 1 } := by
            have hnew : ∀ a, (newRow e a).run P w.drew = .ok ⟨w.heap.size, 0, none⟩ { w.drew with heap := w.heap.push (.cells a e) } := fun a => by simp [newRow]; rfl
            simp only [Conv.stringToBytes, Sem.run_bind, hc, Result.andThen_ok, e1, hnew, hm, Sem.run_pure]
            simp only [beq_self_eq_true, if_true, e2]
            rfl
          simp only [oConv, convert, Sem.run_bind, run_underlying_of hs, run_underlying_of hd, Result.andThen_ok, run_underlying_of hu, hst, Sem.run_pure]
        · refine .sl hbl (by omega) (fun hq => by cases hq) (by rw [hn]; omega) (fun _ => ⟨by omega, by rw [hn]; omega⟩) (Nat.le_refl _)
      · cases he
    · cases he
  · rename_i e1 e hs hd
    split at he
    · rename_i k o n ex lb es
      split at he
      · rename_i y hu hc
        split at he
        · rename_i hsd
          cases he
          obtain ⟨t, cs⟩ := y
          obtain ⟨b', n', us, ext, fr, h1, h2, h3, h4, h5, h6⟩ := r.cells hc
          have hx0 := hx
          cases hx with
          | @sl _ _ _ _ _ b nn c _ hk hl hex hn hf hle =>
          rw [hk] at h1; cases h1
          obtain ⟨fr', hm, hfr⟩ : ∃ fr' : Nat × Nat, (markStringish ⟨b', o, none⟩).run P w = .ok () { w with heap := w.heap.setIfInBounds b' (.cells (us ++ ext).toArray t fr') } ∧ (us ++ ext).length ≤ fr'.1 := by
            refine ⟨_, run_markStringish (P := P) h3 o, ?_⟩
            split
            · exact Nat.le_refl _
            · rcases h6 with h6 | h6
              · rename_i hq; rw [h6] at hq; simp at hq
              · exact Nat.le_min.2 ⟨h6, Nat.le_refl _⟩
          refine ⟨_, _, ρ, .inl ?_, Ext.refl ρ, hx0, (r.put (cellsAt_some hc) hk (.cells (t := t) (fr := fr') h4 h5 (.inr (by rw [← h5]; exact hfr))) rfl).congr ?_ rfl⟩
          · simp only [oConv, convert, Sem.run_bind, run_underlying_of hd, Result.andThen_ok, run_underlying_of hu, hsd, beq_self_eq_true, hm, Sem.run_pure]
          · intro j
            unfold VH.get VH.set
            simp only [PT.get_set]
            split
            · rename_i hj; subst hj; exact (cellsAt_some hc).symm
            · rfl
        · cases he
      · cases he
    · cases he
  · cases he
end
end Go.Fr
