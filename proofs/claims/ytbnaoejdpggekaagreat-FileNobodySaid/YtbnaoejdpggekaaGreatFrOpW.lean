/-
  This file proves: what the evaluator says of maps, kinds and wholes is so; and so of each operation that only looks.
-/
import Derived.Test.YtbnaoejdpggekaaGreatFrOpU
namespace Go.Fr
open Go
section
variable {P : Program} {w : World} {base : Nat} {w0 : World} {ρ : Lay} {h : VH}

theorem run_checkKey {t : TypeId} {kd : TypeDesc} {v : Value} {b : Bool} (hu : P.underlying t = some kd) (hk : (match kd with | .int _ => true | .string => true | _ => false) = true) (n : Nat) :
    (Instr.checkKey b (n + 1) t v).run P w = .ok () w := by
  cases kd <;> simp at hk <;> simp [Instr.checkKey, run_underlying_of hu]

theorem Ev.keyOk_ok {t : TypeId} {v : V} {v' : Value} (hv : VR ρ v v') (he : Ev.keyOk P t v = true) : ∃ kd, P.underlying t = some kd ∧ (∀ b w, (Instr.checkKey b 10000 t v').run P w = .ok () w) ∧
    ((∃ kk k n, kd = .int kk ∧ v = .raw (.int k n) ∧ v' = .int k n) ∨ ∃ s, kd = .string ∧ v = .raw (.string s) ∧ v' = .string s) := by
  unfold Ev.keyOk at he
  split at he
  · cases hv
    split at he
    · rename_i kk hu
      refine ⟨_, hu, fun b w => ?_, .inl ⟨_, _, _, rfl, rfl, rfl⟩⟩
      exact run_checkKey hu rfl 9999
    · cases he
  · cases hv
    split at he
    · rename_i hu
      refine ⟨_, hu, fun b w => ?_, .inr ⟨_, rfl, rfl, rfl⟩⟩
      exact run_checkKey hu rfl 9999
    · cases he
  · cases he

theorem VR.raw_eq {v u : Value} (h : VR ρ (.raw v) u) : u = v := by cases h; rfl

theorem beq_bytes (a b : ByteArray) : (a == b) = (a.data.toList == b.data.toList) := by rw [beq_toListBytes, bytes_list, bytes_list]

theorem Ev.find_ok {k : V} {k' : Value} {kd : TypeDesc} (hk : (∃ kk j n, kd = .int kk ∧ k = .raw (.int j n) ∧ k' = .int j n) ∨ ∃ s, kd = .string ∧ k = .raw (.string s) ∧ k' = .string s) :
    ∀ {es : List (V × V × Nat)} {us : List MapEntry} {i : Nat} {r : Option (Nat × V)}, Al (ER ρ) es us → Ev.find k es i = some r →
      (r = none ∧ Instr.findNow kd k' us i = some none) ∨ ∃ j v v' u, r = some (j, v) ∧ Instr.findNow kd k' us i = some (some (j, v')) ∧ VR ρ v v' ∧ i ≤ j ∧ us[j - i]? = some u ∧ u.key = k' := by
  intro es
  induction es with
  | nil =>
    intro us i r hr he
    cases he
    rw [hr.unnil]
    exact .inl ⟨rfl, rfl⟩
  | cons x es ih =>
    intro us i r hr he
    obtain ⟨u, us, rfl, hx, hrest⟩ := hr.uncons
    obtain ⟨a, v, bn⟩ := x
    have hkey := hx.key
    unfold Ev.find at he
    have same : ∀ {b}, Ev.keyEq k a = some b → Instr.sameNow kd k' u.key = some b ∧ (b = true → u.key = k') := by
      intro b hb
      rcases hk with ⟨kk, j, n, rfl, rfl, rfl⟩ | ⟨s, rfl, rfl, rfl⟩
      · cases a with
        | raw va =>
          have hq : u.key = va := hkey.raw_eq
          rw [hq]
          cases va <;> simp only [Ev.keyEq] at hb <;> try (cases hb; done)
          rename_i k2 y
          split at hb
          · rename_i hkk; subst hkk; cases hb
            by_cases hxy : n = y
            · simp [Instr.sameNow, hxy]
            · simp [Instr.sameNow, hxy]
          · cases hb
        | _ => simp [Ev.keyEq] at hb
      · cases a with
        | raw va =>
          have hq : u.key = va := hkey.raw_eq
          rw [hq]
          cases va <;> simp only [Ev.keyEq] at hb <;> try (cases hb; done)
          rename_i y
          cases hb
          refine ⟨by simp [Instr.sameNow, beq_bytes], fun hq => ?_⟩
          have : s = y := by
            apply ByteArray.ext
            apply Array.ext'
            simpa using hq
          rw [this]
        | _ => simp [Ev.keyEq] at hb
    split at he
    · rename_i hs
      cases he
      obtain ⟨h1, h2⟩ := same hs
      exact .inr ⟨i, v, u.val, u, rfl, by simp [Instr.findNow, h1], hx.val, Nat.le_refl _, by simp, h2 rfl⟩
    · rename_i hs
      obtain ⟨h1, _⟩ := same hs
      rcases ih hrest he with ⟨rfl, h2⟩ | ⟨j, v1, v2, u2, rfl, h2, h3, h4, h5, h6⟩
      · exact .inl ⟨rfl, by simp [Instr.findNow, h1, h2]⟩
      · refine .inr ⟨j, v1, v2, u2, rfl, by simp [Instr.findNow, h1, h2], h3, by omega, ?_, h6⟩
        rw [show j - i = (j - (i + 1)) + 1 by omega]
        simpa using h5
    · cases he

theorem WR.mapAt (r : WR base w0 ρ h w) {x : V} {x' : Value} {es : List (V × V × Nat)} (hx : VR ρ x x') (he : Ev.mapAt h x = some es) :
    (x' = .map none ∧ es = []) ∨ ∃ b us clock, x' = .map (some b) ∧ w.heap[b]? = some (.map us.toArray clock) ∧ Al (ER ρ) es us := by
  unfold Ev.mapAt at he
  split at he
  · cases hx; cases he; exact .inl ⟨rfl, rfl⟩
  · rename_i k
    cases hx with
    | @map _ b n hk =>
    split at he
    · rename_i es' clock hg
      cases he
      obtain ⟨b', n', x, h1, h2, h3, h4⟩ := r.obj k _ hg
      rw [hk] at h1; cases h1
      cases h4 with
      | map hal => exact .inr ⟨b, _, _, rfl, h3, hal⟩
    · cases he
  · cases he

theorem run_getObj_map {b c : Nat} {us : Array MapEntry} (hb : w.heap[b]? = some (.map us c)) : (getObj b).run P w = .ok (.map us c) w := by simp [getObj, Sem.run, hb]

theorem Ev.lookup_ok {t : TypeId} {x i u : V} {x' i' : Value} {ok : Bool} (r : WR base w0 ρ h w) (hx : VR ρ x x') (hi : VR ρ i i') (he : Ev.lookup P h t x i ok = some u) :
    ∃ u', (oLookup t x' i' ok).run P w = .ok (.value u') w ∧ VR ρ u u' := by
  unfold Ev.lookup at he
  split at he
  · rename_i key elem hu
    split at he
    · rename_i es ti hm ht
      split at he
      · rename_i hko
        obtain ⟨kd, hkd, hck, hkk⟩ := Ev.keyOk_ok hi hko
        have tail : ∀ v v', VR ρ v v' → ∀ b, VR ρ (if ok = true then V.tup [v, .raw (.bool b)] else v) (if ok = true then Value.tuple #[v', .bool b] else v') := by
          intro v v' hv b
          cases ok with
          | false => exact hv
          | true =>
            have : Al (VR ρ) [v, .raw (.bool b)] [v', .bool b] := .cons hv (.cons (.raw _) .nil)
            exact .tup this.1 this.2
        rcases r.mapAt hx hm with ⟨rfl, rfl⟩ | ⟨b, us, clock, rfl, hb, hal⟩
        · simp only [Ev.find, Option.some.injEq] at he
          subst he
          exact ⟨_, by simp [oLookup, Instr.lookup, run_underlying_of hu, hck, Instr.findKey, run_underlying_of hkd, Instr.findNow, run_zero_ti ht], tail _ _ (.raw ti.z) false⟩
        · split at he
          · rename_i j v hf
            cases he
            rcases Ev.find_ok (ρ := ρ) hkk hal hf with ⟨hbad, _⟩ | ⟨j', v1, v2, u2, hj, hfn, hv, _⟩
            · cases hbad
            · cases hj
              exact ⟨_, by simp [oLookup, Instr.lookup, run_underlying_of hu, run_getObj_map hb, hck, Instr.findKey, run_underlying_of hkd, hfn], tail v v2 hv true⟩
          · rename_i hf
            cases he
            rcases Ev.find_ok (ρ := ρ) hkk hal hf with ⟨_, hfn⟩ | ⟨j', v1, v2, u2, hj, _⟩
            · exact ⟨_, by simp [oLookup, Instr.lookup, run_underlying_of hu, run_getObj_map hb, hck, Instr.findKey, run_underlying_of hkd, hfn, run_zero_ti ht], tail _ _ (.raw ti.z) false⟩
            · cases hj
          · cases he
      · cases he
    · cases he
  · cases he
end
end Go.Fr
