/-
  This file proves: what the evaluator says of a map's keys in order is so, where the contract of the library's sort is given.
-/
import Derived.Test.YtbnaoejdpggekaaGreatFrGrow
import Derived.Maps.Own
import Derived.Lib.SlKeysI
namespace Go.Fr
open Go Go.RowKit

/-- How a map's values read here: not at all. -/
def RNil : Value → Option (DataW Unit × List MemPlace) := fun _ => some (.nil, [])

/-- What a sort of a map's keys does. -/
structure SortedAt (P : Program) (fS fK : FuncId) (e : TypeId) : Prop where
  enters : ∀ args w, (callFunc fS args).run P w = .ok (.enter fS args) w
  int : P.underlying e = some (.int .i64)
  sorts : ∀ (Bm b nn : Nat) (D0 : DataW Unit) (w : World), Bm < w.heap.size → w.cell? ⟨Bm, 0, none⟩ = some (.map (some b)) → w.ownsMap P e RNil b nn D0 → Maps.size D0 ≤ 100000 →
    Calls P fS #[.func (.func fK) #[] #[.pointer (some ⟨Bm, 0, none⟩)]] w fun x w' => ∃ (v : Value) (ss : List Int), x = .returned v ∧ ss.Perm (intKeys D0) ∧
      w'.ownsRow w.heap.size e 1 v ss.length ((ss.mergeSort (fun x y => decide (x ≤ y))).map encZ) ∧ (v = .slice none 0 0 ↔ ss = []) ∧ Below w.heap.size w w'
  none : ∀ (Bm : Nat) (w : World), Bm < w.heap.size → w.cell? ⟨Bm, 0, none⟩ = some (.map none) →
    Calls P fS #[.func (.func fK) #[] #[.pointer (some ⟨Bm, 0, none⟩)]] w fun x w' => x = .returned (.slice none 0 0) ∧ Below w.heap.size w w'

def insI (x : Int) : List Int → List Int
  | [] => [x]
  | y :: l => if x ≤ y then x :: y :: l else y :: insI x l

def sortI : List Int → List Int
  | [] => []
  | x :: l => insI x (sortI l)

theorem insI_perm (x : Int) : ∀ l : List Int, (insI x l).Perm (x :: l) := by
  intro l
  induction l with
  | nil => exact .refl _
  | cons y l ih =>
    unfold insI
    split
    · exact .refl _
    · exact (List.Perm.cons y ih).trans (List.Perm.swap x y l)

theorem sortI_perm : ∀ l : List Int, (sortI l).Perm l := by
  intro l
  induction l with
  | nil => exact .refl _
  | cons x l ih => exact (insI_perm x _).trans (List.Perm.cons x ih)

theorem insI_sorted (x : Int) : ∀ l : List Int, l.Pairwise (fun a b => decide (a ≤ b) = true) → (insI x l).Pairwise (fun a b => decide (a ≤ b) = true) := by
  intro l
  induction l with
  | nil => intro _; simp [insI]
  | cons y l ih =>
    intro h
    rw [List.pairwise_cons] at h
    unfold insI
    split
    · rename_i hxy
      refine List.pairwise_cons.2 ⟨fun z hz => ?_, List.pairwise_cons.2 h⟩
      rcases List.mem_cons.1 hz with rfl | hz
      · simpa using hxy
      · have := h.1 z hz
        simp only [decide_eq_true_eq] at this ⊢
        omega
    · rename_i hxy
      refine List.pairwise_cons.2 ⟨fun z hz => ?_, ih h.2⟩
      rcases List.mem_cons.1 ((insI_perm x l).mem_iff.1 hz) with rfl | hz
      · simp only [decide_eq_true_eq]; omega
      · exact h.1 z hz

theorem sortI_sorted : ∀ l : List Int, (sortI l).Pairwise (fun a b => decide (a ≤ b) = true) := by
  intro l
  induction l with
  | nil => exact .nil
  | cons x l ih => exact insI_sorted x _ ih

/-- One sorted list. -/
theorem sortI_eq {ss l : List Int} (h : ss.Perm l) : ss.mergeSort (fun x y => decide (x ≤ y)) = sortI l := by
  have tr : ∀ a b c : Int, decide (a ≤ b) = true → decide (b ≤ c) = true → decide (a ≤ c) = true := fun a b c h1 h2 => by simp only [decide_eq_true_eq] at *; omega
  have to : ∀ a b : Int, (decide (a ≤ b) || decide (b ≤ a)) = true := fun a b => by simp only [Bool.or_eq_true, decide_eq_true_eq]; omega
  refine List.Perm.eq_of_pairwise (le := fun a b => decide (a ≤ b) = true) (fun a b _ _ h1 h2 => ?_) (List.pairwise_mergeSort tr to ss) (sortI_sorted l) (((List.mergeSort_perm ss _).trans h).trans (sortI_perm l).symm)
  simp only [decide_eq_true_eq] at h1 h2
  omega

namespace Ev
/-- The keys of a map, if they are such as a map's are. -/
def keysI : List (V × V × Nat) → Nat → Option (List Int)
  | [], _ => some []
  | (.raw (.int .i64 n), _, b) :: l, c =>
    match keysI l c with
    | some ks => if b < c ∧ (l.all fun x => decide (x.2.2 ≠ b)) = true ∧ (ks.all fun k => decide (k ≠ n)) = true ∧ (Lit.int .i64 n).wf = true then some (n :: ks) else none
    | none => none
  | _, _ => none

/-- The keys of a map in order. -/
def natSorted (fS fK : FuncId) (e : TypeId) : Rec := fun f xs h =>
  if f = fS then
    match xs with
    | [.fn (.func g) [] [.ptr k 0]] =>
      if g = fK then
        match cellsAt h k with
        | some (_, [m]) =>
          match m with
          | .raw (.map none) => some [(.raw (.slice none 0 0), h)]
          | .map r => match h.get r with
            | some (.map es clock) => match keysI es clock with
              | some [] => some [(.raw (.slice none 0 0), h)]
              | some (k :: ks) => if ks.length < 100000 then some [(.sl h.next 0 (ks.length + 1) false (ks.length + 1) 1, h.new (.cells e ((sortI (k :: ks)).map fun n => .raw (.int .i64 n))))] else none
              | none => none
            | _ => none
          | _ => none
        | _ => none
      else none
    | _ => none
  else none
end Ev

section
variable {P : Program} {base : Nat} {w0 w : World} {ρ : Lay} {h : VH}

theorem keysI_ok {e : TypeId} (hi : P.underlying e = some (.int .i64)) {c : Nat} : ∀ {es : List (V × V × Nat)} {us : List MapEntry} {ks : List Int}, Al (ER ρ) es us → Ev.keysI es c = some ks →
    us.map (·.key) = ks.map encZ ∧ (∀ x ∈ us, x.born < c) ∧ (us.map (·.born)).Nodup ∧ ks.Nodup ∧ (∀ x ∈ us, ∃ n, x.key = encZ n ∧ keyOf P e x.key = some (.int .i64 n)) := by
  intro es
  induction es with
  | nil =>
    intro us ks hal he
    rw [hal.unnil]
    simp only [Ev.keysI, Option.some.injEq] at he
    subst he
    exact ⟨rfl, by simp, .nil, .nil, by simp⟩
  | cons x es ih =>
    intro us ks hal he
    obtain ⟨u, us, rfl, hx, hr⟩ := hal.uncons
    obtain ⟨a, v, b⟩ := x
    unfold Ev.keysI at he
    split at he
    · rename_i heq; cases heq
    · rename_i n v' b' l heq
      cases heq
      split at he
      · rename_i ks' hks
        split at he
        · rename_i hc
          obtain ⟨c1, c2, c3, c4⟩ := hc
          cases he
          obtain ⟨h1, h2, h3, h4, h5⟩ := ih hr hks
          have hkey : u.key = .int .i64 n := hx.key.raw_eq
          have hb : u.born = b := hx.born
          refine ⟨by simp [hkey, h1], ?_, ?_, ?_, ?_⟩
          · intro y hy
            rcases List.mem_cons.1 hy with rfl | hy
            · omega
            · exact h2 y hy
          · rw [List.map_cons, List.nodup_cons]
            refine ⟨?_, h3⟩
            rw [List.mem_map]
            rintro ⟨y, hy, hyb⟩
            obtain ⟨i, hi', rfl⟩ := List.getElem_of_mem hy
            have hi2 : i < es.length := by have := hr.1; omega
            have hrel := hr.2 i es[i] us[i] (List.getElem?_eq_getElem hi2) (List.getElem?_eq_getElem hi')
            have := List.all_eq_true.1 c2 es[i] (List.getElem_mem hi2)
            simp only [decide_eq_true_eq] at this
            have := hrel.born
            omega
          · rw [List.nodup_cons]
            refine ⟨fun hm => ?_, h4⟩
            have := List.all_eq_true.1 c3 n hm
            simp at this
          · intro y hy
            rcases List.mem_cons.1 hy with rfl | hy
            · refine ⟨n, hkey, ?_⟩
              rw [hkey]
              simp [keyOf, hi, mapKey, c4]
            · exact h5 y hy
        · cases he
      · cases he
    · cases he

theorem insert_perm {H : Type} (x : Lit × DataW H) : ∀ l : List (Lit × DataW H), (DataW.insert x l).Perm (x :: l) := by
  intro l
  induction l with
  | nil => exact .refl _
  | cons y l ih =>
    unfold DataW.insert
    split
    · exact .refl _
    · exact (List.Perm.cons y ih).trans (List.Perm.swap x y l)

theorem inserts_perm {H : Type} : ∀ l : List (Lit × DataW H), (l.foldr DataW.insert []).Perm l := by
  intro l
  induction l with
  | nil => exact .refl _
  | cons x l ih => exact (insert_perm x _).trans (List.Perm.cons x ih)

/-- A map as the library's contracts see it. -/
theorem owns_of {e : TypeId} (hi : P.underlying e = some (.int .i64)) {b c : Nat} {es : List (V × V × Nat)} {us : List MapEntry} {ks : List Int} (hb : w.heap[b]? = some (.map us.toArray c)) (hal : Al (ER ρ) es us) (he : Ev.keysI es c = some ks)
    (hlen : ks.length ≤ 100000) : ∃ D0 : DataW Unit, w.ownsMap P e RNil b ks.length D0 ∧ (intKeys D0).Perm ks ∧ Maps.size D0 = ks.length := by
  obtain ⟨h1, h2, h3, h4, h5⟩ := keysI_ok hi hal he
  have hl : us.length = ks.length := by have := congrArg List.length h1; simpa using this
  refine ⟨.map ((us.map (WideElems.rg P e RNil)).foldr DataW.insert []), ⟨us.toArray, c, hb, ⟨?_, ?_, ?_⟩, by simp [hl], rfl⟩, ?_, ?_⟩
  · simp only [List.size_toArray, hl, maxLen]; omega
  · refine ⟨by simpa using h2, by simpa using h3, ?_⟩
    simp only [h1]
    exact List.pairwise_map.2 (h4.imp fun {a b} hne heq => hne (encZ_inj heq))
  · intro x hx
    obtain ⟨n, _, hk⟩ := h5 x (by simpa using hx)
    exact ⟨_, WideElems.rd_mk hk rfl⟩
  · show (((us.map (WideElems.rg P e RNil)).foldr DataW.insert []).map fun p => intOf p.1).Perm ks
    refine ((inserts_perm _).map _).trans ?_
    rw [List.map_map]
    have : us.map ((fun p : Lit × DataW Unit => intOf p.1) ∘ WideElems.rg P e RNil) = ks := by
      have e2 : us.map ((fun p : Lit × DataW Unit => intOf p.1) ∘ WideElems.rg P e RNil) = (us.map (·.key)).map fun v => match v with | .int _ n => n | _ => 0 := by
        rw [List.map_map]
        refine List.map_congr_left fun x hx => ?_
        obtain ⟨n, hk, hko⟩ := h5 x hx
        have := WideElems.rg_of (WideElems.rd_mk (P := P) (k := e) (R := RNil) (val := x.val) (born := x.born) hko rfl)
        simp only [Function.comp]
        rw [this, hk]
        rfl
      rw [e2, h1, List.map_map]
      conv => rhs; rw [← List.map_id ks]
      exact List.map_congr_left fun n _ => rfl
    rw [this]
  · show ((us.map (WideElems.rg P e RNil)).foldr DataW.insert []).length = _
    rw [(inserts_perm _).length_eq]
    simp [hl]

theorem natSorted_ok {fS fK : FuncId} {e : TypeId} (S : SortedAt P fS fK e) : RecOk P base w0 (Ev.natSorted fS fK e) := by
  intro f as h l he ρ as' w hv r K hK
  unfold Ev.natSorted at he
  split at he
  · rename_i hf; subst hf
    split at he
    · rename_i g k
      split at he
      · rename_i hg; subst hg
        obtain ⟨x', _, rfl, hx, ht⟩ := hv.uncons
        rw [ht.unnil]
        cases hx with
        | @fn _ _ _ a' b' hl1 _ hl2 hb =>
        obtain rfl : a' = [] := by simpa using hl1.symm
        obtain ⟨p', _, rfl, hp, ht'⟩ := Al.uncons (R := VR ρ) ⟨hl2, hb⟩
        rw [ht'.unnil]
        cases hp with
        | @ptr _ _ bl n hk =>
        split at he
        · rename_i t m hc
          obtain ⟨b1, n1, cv, ext, fr, g1, g2, g3, g4, g5, g6⟩ := r.cells hc
          rw [hk] at g1; cases g1
          obtain ⟨m', _, rfl, hm, ht2⟩ := g4.uncons
          have hcell : w.cell? ⟨bl, 0, none⟩ = some m' := by
            rw [cell_fr g3]; rfl
          have hlt : bl < w.heap.size := (Array.getElem?_eq_some_iff.1 g3).1
          have nil : m' = .map none → l = [(.raw (.slice none 0 0), h)] → UponS P K (fun _ _ => False) ((callFunc f #[.func (.func g) #[] #[.pointer (some ⟨bl, 0, none⟩)]]).run P w) := by
            rintro rfl rfl
            rw [S.enters]
            refine (S.none bl w hlt hcell).mono ?_
            rintro x w' ⟨rfl, hb⟩
            exact hK _ List.mem_cons_self ρ _ _ (Ext.refl ρ) (.raw _) (r.grow hb)
          split at he
          · cases he
            exact nil hm.raw_eq rfl
          · rename_i rr
            cases hm with
            | @map _ b n2 hr =>
            split at he
            · rename_i es clock hget
              obtain ⟨b', n', y, q1, q2, q3, q4⟩ := r.obj _ _ hget
              rw [hr] at q1; cases q1
              cases q4 with
              | @map _ us _ hal =>
              have key : ∀ ks, Ev.keysI es clock = some ks → ks.length ≤ 100000 →
                  (∀ v ss w', ss.Perm ks → w'.ownsRow w.heap.size e 1 v ss.length ((ss.mergeSort (fun x y => decide (x ≤ y))).map encZ) → (v = .slice none 0 0 ↔ ss = []) → Below w.heap.size w w' → K v w') →
                  UponS P K (fun _ _ => False) ((callFunc f #[.func (.func g) #[] #[.pointer (some ⟨bl, 0, none⟩)]]).run P w) := by
                intro ks hks hlen hk2
                obtain ⟨D0, d1, d2, d3⟩ := owns_of S.int q3 hal hks hlen
                rw [S.enters]
                refine (S.sorts bl _ _ D0 w hlt hcell d1 (by omega)).mono ?_
                rintro x w' ⟨v, ss, rfl, s1, s2, s3, s4⟩
                exact hk2 v ss w' (s1.trans d2) s2 s3 s4
              split at he
              · rename_i hks
                cases he
                refine key [] hks (by simp) fun v ss w' s1 s2 s3 s4 => ?_
                have : v = .slice none 0 0 := s3.2 (List.Perm.eq_nil s1)
                subst this
                exact hK _ List.mem_cons_self ρ _ _ (Ext.refl ρ) (.raw _) (r.grow s4)
              · rename_i k1 ks hks
                split at he
                · rename_i hlen
                  cases he
                  refine key (k1 :: ks) hks (by simp; omega) fun v ss w' s1 s2 s3 s4 => ?_
                  have hl : ss.length = ks.length + 1 := by have := s1.length_eq; simpa using this
                  rw [sortI_eq s1, hl] at s2
                  have hrel : VRs ρ ((sortI (k1 :: ks)).map fun n => .raw (.int .i64 n)) ((sortI (k1 :: ks)).map encZ) := by
                    have := raws_rel (ρ := ρ) ((sortI (k1 :: ks)).map encZ)
                    rw [List.map_map] at this
                    exact this
                  obtain ⟨ρ', o1, o2, o3⟩ := r.own s4 (by decide) (by omega) s2 hrel
                  exact hK _ List.mem_cons_self ρ' _ _ o1 o2 o3
                · cases he
              · cases he
            · cases he
          · cases he
        · cases he
      · cases he
    · cases he
  · cases he
end
end Go.Fr
