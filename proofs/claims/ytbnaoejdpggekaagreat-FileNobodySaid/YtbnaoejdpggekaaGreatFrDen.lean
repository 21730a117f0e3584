/-
  This file proves: 'den' makes a tree out of code, and what the tree does the code does.
-/
import Derived.Test.YtbnaoejdpggekaaGreatFrSP
namespace Go.Fr
open Go

-- ------------------------------------------------------------ what waits for what, as bits

theorem before_spec (ops : Array Oper) : ∀ j i, ((Region.before ops).getD j 0).testBit i = true →
    ∃ o, ops[j]? = some o ∧ ∃ e ∈ o.after, Region.binds .any e = true ∧ (e.on = i ∨ (e.on < j ∧ ((Region.before ops).getD e.on 0).testBit i = true)) := by
  have inner : ∀ (acc : Array Nat) (l : List Edge) (s : Nat) (i : Nat),
      (l.foldl (fun s e => if Region.binds .any e then s ||| 2 ^ e.on ||| acc.getD e.on 0 else s) s).testBit i = true →
      s.testBit i = true ∨ ∃ e ∈ l, Region.binds .any e = true ∧ (e.on = i ∨ (acc.getD e.on 0).testBit i = true) := by
    intro acc l
    induction l with
    | nil => intro s i h; exact .inl h
    | cons e l ih =>
      intro s i h
      simp only [List.foldl_cons] at h
      rcases ih _ i h with h1 | ⟨e', he', hb, h1⟩
      · by_cases hb : Region.binds .any e = true
        · simp only [hb, if_true, Nat.testBit_or, Bool.or_eq_true] at h1
          rcases h1 with (h1 | h1) | h1
          · exact .inl h1
          · refine .inr ⟨e, List.mem_cons_self, hb, .inl ?_⟩
            rw [Nat.testBit_two_pow] at h1
            simpa using h1
          · exact .inr ⟨e, List.mem_cons_self, hb, .inr h1⟩
        · simp only [hb] at h1; exact .inl h1
      · exact .inr ⟨e', List.mem_cons_of_mem _ he', hb, h1⟩
  have outer : ∀ (l pre : List Oper) (acc : Array Nat), acc.size = pre.length →
      (∀ j i, (acc.getD j 0).testBit i = true → ∃ o, pre[j]? = some o ∧ ∃ e ∈ o.after, Region.binds .any e = true ∧ (e.on = i ∨ (e.on < j ∧ (acc.getD e.on 0).testBit i = true))) →
      ∀ j i, ((l.foldl (fun acc o => acc.push (o.after.foldl (fun s e => if Region.binds .any e then s ||| 2 ^ e.on ||| acc.getD e.on 0 else s) 0)) acc).getD j 0).testBit i = true →
        ∃ o, (pre ++ l)[j]? = some o ∧ ∃ e ∈ o.after, Region.binds .any e = true ∧ (e.on = i ∨ (e.on < j ∧ ((l.foldl (fun acc o => acc.push (o.after.foldl (fun s e => if Region.binds .any e then s ||| 2 ^ e.on ||| acc.getD e.on 0 else s) 0)) acc).getD e.on 0).testBit i = true)) := by
    intro l
    induction l with
    | nil => intro pre acc _ h j i hj; simpa using h j i hj
    | cons o l ih =>
      intro pre acc hs h j i hj
      simp only [List.foldl_cons] at hj ⊢
      have := ih (pre ++ [o]) (acc.push (o.after.foldl (fun s e => if Region.binds .any e then s ||| 2 ^ e.on ||| acc.getD e.on 0 else s) 0)) (by simp [hs]) ?_ j i hj
      · simpa using this
      · intro j i hj
        by_cases hlt : j < acc.size
        · have e1 : (acc.push (o.after.foldl (fun s e => if Region.binds .any e then s ||| 2 ^ e.on ||| acc.getD e.on 0 else s) 0)).getD j 0 = acc.getD j 0 := by
            simp [Array.getD_eq_getD_getElem?, Array.getElem?_push, Nat.ne_of_lt hlt]
          rw [e1] at hj
          obtain ⟨o', ho', e, he, hb, h1⟩ := h j i hj
          refine ⟨o', by rw [List.getElem?_append_left (by omega)]; exact ho', e, he, hb, h1.imp id fun ⟨h2, h3⟩ => ⟨h2, ?_⟩⟩
          simp only [Array.getD_eq_getD_getElem?, Array.getElem?_push] at h3 ⊢
          rw [if_neg (by omega)]; exact h3
        · by_cases hje : j = acc.size
          · subst hje
            simp only [Array.getD_eq_getD_getElem?, Array.getElem?_push, if_true, Option.getD_some] at hj
            rw [← Array.foldl_toList] at hj
            rcases inner acc o.after.toList 0 i (by simpa only [Array.getD_eq_getD_getElem?] using hj) with h0 | ⟨e, he, hb, h1⟩
            · simp at h0
            · refine ⟨o, by simp [hs], e, by simpa using he, hb, h1.imp id fun h2 => ?_⟩
              have hlt2 : e.on < acc.size := by
                rcases Nat.lt_or_ge e.on acc.size with h' | h'
                · exact h'
                · simp [Array.getD_eq_getD_getElem?, Array.getElem?_eq_none h'] at h2
              refine ⟨hlt2, ?_⟩
              simp only [Array.getD_eq_getD_getElem?, Array.getElem?_push] at h2 ⊢
              rw [if_neg (by omega)]; exact h2
          · have : (acc.push (o.after.foldl (fun s e => if Region.binds .any e then s ||| 2 ^ e.on ||| acc.getD e.on 0 else s) 0)).getD j 0 = 0 := by
              simp only [Array.getD_eq_getD_getElem?]
              rw [Array.getElem?_eq_none (by simp; omega)]; rfl
            rw [this] at hj
            simp at hj
  intro j i hj
  have := outer ops.toList [] #[] rfl (by intro j i h; simp at h) j i (by
    unfold Region.before at hj
    rw [← Array.foldl_toList] at hj
    exact hj)
  obtain ⟨o, ho, e, he, hb, h1⟩ := this
  refine ⟨o, by simpa using ho, e, he, hb, ?_⟩
  unfold Region.before
  rw [← Array.foldl_toList]
  exact h1

theorem dep_of_before (ops : Array Oper) (i : Nat) : ∀ n j, j < n → ((Region.before ops).getD j 0).testBit i = true → dep .any ops n j i = true := by
  intro n
  induction n with
  | zero => intro j h; omega
  | succ n ih =>
    intro j hj h
    obtain ⟨o, ho, e, he, hb, h1⟩ := before_spec ops j i h
    unfold dep
    simp only [ho]
    rw [Array.any_eq_true']
    refine ⟨e, he, ?_⟩
    rw [hb]
    rcases h1 with h1 | ⟨h1, h2⟩
    · simp [h1]
    · simp [ih e.on (by omega) h2]

theorem dep_before {ops : Array Oper} {i j : Nat} (h : ((Region.before ops).getD j 0).testBit i = true) : dep .any ops ops.size j i = true := by
  obtain ⟨o, ho, _⟩ := before_spec ops j i h
  exact dep_of_before ops i _ j (Array.getElem?_eq_some_iff.1 ho).1 h
end Go.Fr
