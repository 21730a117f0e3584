/-
  This file proves: what the evaluator says of a range's first step is so.
-/
import Derived.Test.YtbnaoejdpggekaaGreatFrEvOk
namespace Go.Fr
open Go
section
variable {P : Program} {base : Nat} {w0 : World}

theorem run_getObj_iter {w : World} {b : Nat} {m : Option Nat} {s t : Nat} {seen : Array Nat} (hb : w.heap[b]? = some (.mapIter m s seen t)) : (getObj b).run P w = .ok (.mapIter m s seen t) w := by
  simp [getObj, Sem.run, hb]

theorem run_setObj_iter {w : World} {b : Nat} {m : Option Nat} {s t : Nat} {seen : Array Nat} {x : Obj} (hb : w.heap[b]? = some (.mapIter m s seen t)) :
    (setObj b x).run P w = .ok () { w with heap := w.heap.setIfInBounds b x } := by
  simp [setObj, Sem.run, hb]

theorem next_ok : NextOk P base w0 := by
  intro h it l he ρ it' w t hit r
  unfold Ev.next at he
  split at he
  · rename_i k
    cases hit with
    | @ptr _ _ b n hk =>
    split at he
    · rename_i s1 s2 s3 hg
      cases he
      obtain ⟨b', n', x, g1, g2, g3, g4⟩ := r.obj _ _ hg
      rw [hk] at g1; cases g1
      cases g4
      refine ⟨_, List.mem_cons_self, .tuple #[.bool false], w, ρ, .inl ?_, Ext.refl ρ, ?_, r⟩
      · simp [oNext, Instr.next, run_getObj_iter g3]
      · exact .tup (us := [.bool false]) rfl fun i x y hx hy => by
          cases i with
          | zero => simp at hx hy; subst hx hy; exact .raw _
          | succ i => simp at hx
    · rename_i m since seen stepped hg
      obtain ⟨b', n', x, g1, g2, g3, g4⟩ := r.obj _ _ hg
      rw [hk] at g1; cases g1
      cases g4 with
      | @iter _ bm j _ _ _ hm =>
      split at he
      · rename_i es clock hgm
        obtain ⟨bm', n2, y, m1, m2, m3, m4⟩ := r.obj _ _ hgm
        rw [hm] at m1; cases m1
        cases m4 with
        | @map _ us _ hal =>
        split at he
        · rename_i hseen
          have hs : seen = [] := by simpa using hseen
          subst hs
          split at he
          · rename_i hemp
            have : es = [] := by simpa using hemp
            subst this
            have hus : us = [] := hal.unnil
            subst hus
            cases he
            refine ⟨_, List.mem_cons_self, .tuple #[.bool false], w, ρ, .inl ?_, Ext.refl ρ, ?_, r⟩
            · have hc : (choose (.mapNext 1)).run P w = .ok 0 w := by simp [choose, Sem.run, Question.forced]
              simp [oNext, Instr.next, run_getObj_iter g3, run_getObj_map m3, hc]
            · exact .tup (us := [.bool false]) rfl fun i x y hx hy => by
                cases i with
                | zero => simp at hx hy; subst hx hy; exact .raw _
                | succ i => simp at hx
          · rename_i hne
            split at he
            · rename_i hall
              cases he
              have hpos : 0 < us.length := by
                have := hal.1
                cases es with
                | nil => simp at hne
                | cons => simp at this; omega
              have hold : ∀ u ∈ us, u.born < since := by
                intro u hu
                obtain ⟨i, hi, rfl⟩ := List.getElem_of_mem hu
                have hi' : i < es.length := by have := hal.1; omega
                have h1 := hal.2 i es[i] us[i] (List.getElem?_eq_getElem hi') (List.getElem?_eq_getElem hi)
                have h2 := (List.all_eq_true.1 hall) es[i] (List.getElem_mem hi')
                rw [h1.born]; simpa using h2
              have f1 : us.filter (fun e => decide (e.born < since)) = us := List.filter_eq_self.2 fun u hu => by simpa using hold u hu
              have f2 : us.filter (fun e => decide (since ≤ e.born)) = [] := List.filter_eq_nil_iff.2 fun u hu => by have := hold u hu; simp; omega
              have hne' : us ≠ [] := by intro h0; rw [h0] at hpos; simp at hpos
              have hne3 : ¬ ∀ a ∈ us, since ≤ a.born := by
                intro h0
                have := h0 us[0] (List.getElem_mem hpos)
                have := hold us[0] (List.getElem_mem hpos)
                omega
              have fin : ∀ j, (hj : j < us.length) → ∀ d, (oNext (.pointer (some ⟨b, 0, none⟩)) false t).run P w =
                  .ok (.value (.tuple #[.bool true, us[j].key, us[j].val])) { w with heap := w.heap.setIfInBounds b (.mapIter (some bm) since #[us[j].born] clock), drawn := d } →
                  ∃ r ∈ es.map (fun e => (V.tup [.raw (.bool true), e.1, e.2.1], h.set k (.iter (some m) since [e.2.2] clock))), Comes P base w0 ρ w (oNext (.pointer (some ⟨b, 0, none⟩)) false t) r.1 r.2 := by
                intro j hj d hrun
                have hj' : j < es.length := by have := hal.1; omega
                have hrel := hal.2 j es[j] us[j] (List.getElem?_eq_getElem hj') (List.getElem?_eq_getElem hj)
                refine ⟨_, List.mem_map_of_mem (List.getElem_mem hj'), _, _, ρ, .inl hrun, Ext.refl ρ, ?_, ?_⟩
                · have : Al (VR ρ) [.raw (.bool true), es[j].1, es[j].2.1] [.bool true, us[j].key, us[j].val] := .cons (.raw _) (.cons hrel.key (.cons hrel.val .nil))
                  exact .tup this.1 this.2
                · have e1 : (#[us[j].born] : Array Nat) = [es[j].2.2].toArray := by rw [hrel.born]
                  rw [e1]
                  exact (r.drew d).put hg hk (.iter hm) rfl
              have hset : ∀ x, (setObj b x).run P w.drew = .ok () { w with heap := w.heap.setIfInBounds b x, drawn := w.drawn + 1 } := fun x => run_setObj_iter (w := w.drew) g3
              by_cases hfor : (Question.mapNext us.length).forced = true
              · refine fin 0 hpos w.drawn ?_
                have hset0 : ∀ x, (setObj b x).run P w = .ok () { w with heap := w.heap.setIfInBounds b x } := fun x => run_setObj_iter g3
                simp [oNext, Instr.next, run_getObj_iter g3, run_getObj_map m3, f1, f2, hne3, hfor, hpos, hset0]
              · have hlt : w.tape w.drawn (.mapNext us.length) % us.length < us.length := Nat.mod_lt _ hpos
                refine fin _ hlt (w.drawn + 1) ?_
                simp [oNext, Instr.next, run_getObj_iter g3, run_getObj_map m3, f1, f2, hne3, hfor, Question.cut, hlt, hset]
            · cases he
        · cases he
      · cases he
    · cases he
  · cases he
end
end Go.Fr
