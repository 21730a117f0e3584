/-
  This file proves: what the evaluator says of a map's keys in the order that a function tells is so, where the contract of the library's sort is given.
-/
import Derived.Test.YtbnaoejdpggekaaGreatFrQuiet
namespace Go.Fr
open Go Go.RowKit

/-- What a sort of a map's keys by a function does: l, the keys in their order; c, what the function tells of two. -/
structure SortedFAt (P : Program) (fS fK : FuncId) (e : TypeId) : Prop where
  enters : ∀ args w, (callFunc fS args).run P w = .ok (.enter fS args) w
  int : P.underlying e = some (.int .i64)
  sorts : ∀ (fC : FuncId) (cb : List Value) (Bm b nn : Nat) (D0 : DataW Unit) (l : List Int) (c : Int → Int → Int) (w : World), l ≠ [] → Bm < w.heap.size → w.cell? ⟨Bm, 0, none⟩ = some (.map (some b)) → w.ownsMap P e RNil b nn D0 →
    Maps.size D0 ≤ 100000 → (intKeys D0).Perm l → (∀ args w, (callFunc fC args).run P w = .ok (.enter fC args) w) →
    (∀ (i j : Nat) (x y : Int), l[i]? = some x → l[j]? = some y → (c x y < 0 ↔ i < j)) →
    (∀ (x y : Int) (w' : World), x ∈ l → y ∈ l → Below w.heap.size w w' → Calls P fC (Value.int .i64 x :: Value.int .i64 y :: cb).toArray w' fun e w'' => e = .returned (.int .i64 (c x y)) ∧ ∃ q, w'' = w'.drewN q) →
    Calls P fS #[.func (.func fK) #[] #[.pointer (some ⟨Bm, 0, none⟩)], .func (.func fC) #[] cb.toArray] w fun x w' => ∃ v : Value, x = .returned v ∧
      w'.ownsRow w.heap.size e 1 v l.length (l.map encZ) ∧ Below w.heap.size w w'
  none : ∀ (Bm b nn : Nat) (D0 : DataW Unit) (w : World) (v : Value), Bm < w.heap.size → (w.cell? ⟨Bm, 0, none⟩ = some (.map none) ∨ w.cell? ⟨Bm, 0, none⟩ = some (.map (some b)) ∧ w.ownsMap P e RNil b nn D0 ∧ intKeys D0 = [] ∧ Maps.size D0 ≤ 100000) →
    Calls P fS #[.func (.func fK) #[] #[.pointer (some ⟨Bm, 0, none⟩)], v] w fun x w' => x = .returned (.slice none 0 0) ∧ Below w.heap.size w w'

namespace Ev
/-- What a function tells of two numbers: a function that only looks. -/
def cmpOf (P : Program) (t : T) (cb : List V) (h : VH) (x y : Int) : Option Int :=
  match ev P (fun _ _ _ => none) (fun _ _ _ => none) 0 t 0 ((.raw (.int .i64 x) :: .raw (.int .i64 y) :: cb).map fun a => [a]) [] h with
  | some [⟨0, [.raw (.int .i64 c)], _⟩] => some c
  | _ => none

def insF (lt : Int → Int → Option Bool) (x : Int) : List Int → Option (List Int)
  | [] => some [x]
  | y :: l => match lt x y with
    | some true => some (x :: y :: l)
    | some false => (insF lt x l).map (y :: ·)
    | none => none

def sortF (lt : Int → Int → Option Bool) : List Int → Option (List Int)
  | [] => some []
  | x :: l => match sortF lt l with
    | some l' => insF lt x l'
    | none => none

/-- Each is less than all behind it, and not the other way round; none is less than itself. -/
def isOrder (lt : Int → Int → Option Bool) : List Int → Bool
  | [] => true
  | x :: l => (lt x x == some false) && l.all (fun y => lt x y == some true && lt y x == some false) && isOrder lt l

/-- The keys of a map in the order that a function tells. -/
def natSortedF (P : Program) (fS fK fC : FuncId) (e : TypeId) (t : T) : Rec := fun f xs h =>
  if f = fS then
    match xs with
    | [.fn (.func g) [] [.ptr k 0], .fn (.func g2) [] cb] =>
      if g = fK ∧ g2 = fC ∧ cb.length = 1 then
        match cellsAt h k with
        | some (_, [m]) =>
          match m with
          | .raw (.map none) => some [(.raw (.slice none 0 0), h)]
          | .map r => match h.get r with
            | some (.map es clock) => match keysI es clock with
              | some [] => some [(.raw (.slice none 0 0), h)]
              | some (k :: ks) => if ks.length < 100000 then
                  let lt := fun x y => (cmpOf P t cb h x y).map fun c => decide (c < 0)
                  match sortF lt (k :: ks) with
                  | some l => if isOrder lt l then some [(.sl h.next 0 (ks.length + 1) false (ks.length + 1) 1, h.new (.cells e (l.map fun n => .raw (.int .i64 n))))] else none
                  | none => none
                else none
              | none => none
            | _ => none
          | _ => none
        | _ => none
      else none
    | _ => none
  else none
end Ev

section
variable {P : Program} {base : Nat} {w0 w : World} {ρ : Lay} {h : VH}

theorem insF_perm {lt : Int → Int → Option Bool} (x : Int) : ∀ {l r : List Int}, Ev.insF lt x l = some r → r.Perm (x :: l) := by
  intro l
  induction l with
  | nil => intro r he; cases he; exact .refl _
  | cons y l ih =>
    intro r he
    unfold Ev.insF at he
    split at he
    · cases he; exact .refl _
    · rw [Option.map_eq_some_iff] at he
      obtain ⟨r', h1, rfl⟩ := he
      exact (List.Perm.cons y (ih h1)).trans (List.Perm.swap x y l)
    · cases he

theorem sortF_perm {lt : Int → Int → Option Bool} : ∀ {l r : List Int}, Ev.sortF lt l = some r → r.Perm l := by
  intro l
  induction l with
  | nil => intro r he; cases he; exact .refl _
  | cons x l ih =>
    intro r he
    unfold Ev.sortF at he
    split at he
    · rename_i l' hl
      exact (insF_perm x he).trans (List.Perm.cons x (ih hl))
    · cases he

theorem isOrder_ok {lt : Int → Int → Option Bool} : ∀ {l : List Int}, Ev.isOrder lt l = true → ∀ (i j : Nat) (x y : Int), l[i]? = some x → l[j]? = some y → lt x y = some (decide (i < j)) := by
  intro l
  induction l with
  | nil => intro _ i j x y hx; simp at hx
  | cons a l ih =>
    intro ho i j x y hx hy
    simp only [Ev.isOrder, Bool.and_eq_true, beq_iff_eq, List.all_eq_true] at ho
    obtain ⟨⟨h1, h2⟩, h3⟩ := ho
    cases i with
    | zero =>
      simp only [List.getElem?_cons_zero, Option.some.injEq] at hx; subst hx
      cases j with
      | zero => simp only [List.getElem?_cons_zero, Option.some.injEq] at hy; subst hy; simpa using h1
      | succ j =>
        simp only [List.getElem?_cons_succ] at hy
        have := h2 y (List.mem_of_getElem? hy)
        rw [this.1]; simp
    | succ i =>
      simp only [List.getElem?_cons_succ] at hx
      cases j with
      | zero =>
        simp only [List.getElem?_cons_zero, Option.some.injEq] at hy; subst hy
        have := h2 x (List.mem_of_getElem? hx)
        rw [this.2]; simp
      | succ j =>
        simp only [List.getElem?_cons_succ] at hy
        rw [ih h3 i j x y hx hy]; simp

theorem cmpOf_ok (hm : P.follows .mixedOrders = true) {fC : FuncId} {fn : Func} {A : Ann} {t : T} (hf : P.funcs[fC]? = some fn) (hden : ∀ args : List Value, args.length = 3 → denF fn A args = t.sp 0 (rows args) []) (hq : t.quiet = true)
    {cb : List V} {cb' : List Value} {x y c : Int} (hl : cb.length = 1) (he : Ev.cmpOf P t cb h x y = some c) (hv : VRs ρ cb cb') (r : WR base w0 ρ h w) :
    Calls P fC (Value.int .i64 x :: Value.int .i64 y :: cb').toArray w fun e w' => e = .returned (.int .i64 c) ∧ ∃ q, w' = w.drewN q := by
  unfold Ev.cmpOf at he
  split at he
  · rename_i c' h' hev
    cases he
    exact calls_quiet (fuel := 0) hm hf hden hq (by simp [hl]) hev (.cons (.raw _) (.cons (.raw _) hv)) r
  · cases he

theorem natSortedF_ok (hm : P.follows .mixedOrders = true) {fS fK fC : FuncId} {e : TypeId} {t : T} {fn : Func} {A : Ann} (S : SortedFAt P fS fK e) (hf : P.funcs[fC]? = some fn) (hname : (fn.name == "runtime.NumGoroutine") = false) (hb : fn.body.isSome = true)
    (hden : ∀ args : List Value, args.length = 3 → denF fn A args = t.sp 0 (rows args) []) (hq : t.quiet = true) : RecOk P base w0 (Ev.natSortedF P fS fK fC e t) := by
  intro f as h l he ρ as' w hv r K hK
  unfold Ev.natSortedF at he
  split at he
  · rename_i hfS; subst hfS
    split at he
    · rename_i g k g2 cb
      split at he
      · rename_i hg
        obtain ⟨hg1, hg2, hcl⟩ := hg
        subst hg1 hg2
        obtain ⟨x', _, rfl, hx, ht⟩ := hv.uncons
        obtain ⟨y', _, rfl, hy, ht⟩ := ht.uncons
        rw [ht.unnil]
        cases hx with
        | @fn _ _ _ a' b' hl1 _ hl2 hb1 =>
        cases hy with
        | @fn _ _ _ a2 cb' hl3 _ hl4 hb2 =>
        obtain rfl : a' = [] := by simpa using hl1.symm
        obtain rfl : a2 = [] := by simpa using hl3.symm
        have hcb : VRs ρ cb cb' := ⟨hl4, hb2⟩
        obtain ⟨p', _, rfl, hp, ht'⟩ := Al.uncons (R := VR ρ) ⟨hl2, hb1⟩
        rw [ht'.unnil]
        cases hp with
        | @ptr _ _ bl n hk =>
        split at he
        · rename_i tt m hc
          obtain ⟨b1, n1, cv, ext, fr, g1, g2', g3, g4, g5, g6⟩ := r.cells hc
          rw [hk] at g1; cases g1
          obtain ⟨m', _, rfl, hm', ht2⟩ := g4.uncons
          have hcell : w.cell? ⟨bl, 0, none⟩ = some m' := by
            rw [cell_fr g3]; rfl
          have hlt : bl < w.heap.size := (Array.getElem?_eq_some_iff.1 g3).1
          have nil : ∀ (b nn : Nat) (D0 : DataW Unit), (m' = .map none ∨ m' = .map (some b) ∧ w.ownsMap P e RNil b nn D0 ∧ intKeys D0 = [] ∧ Maps.size D0 ≤ 100000) → l = [(.raw (.slice none 0 0), h)] →
              UponS P K (fun _ _ => False) ((callFunc f #[.func (.func g) #[] #[.pointer (some ⟨bl, 0, none⟩)], .func (.func g2) #[] cb'.toArray]).run P w) := by
            rintro b nn D0 hm0 rfl
            rw [S.enters]
            refine (S.none bl b nn D0 w _ hlt (by rw [hcell]; simpa using hm0)).mono ?_
            rintro x w' ⟨rfl, hb⟩
            exact hK _ List.mem_cons_self ρ _ _ (Ext.refl ρ) (.raw _) (r.grow hb)
          split at he
          · cases he
            exact nil 0 0 (.nil) (.inl hm'.raw_eq) rfl
          · rename_i rr
            cases hm' with
            | @map _ b n2 hr =>
            split at he
            · rename_i es clock hget
              obtain ⟨b', n', y, q1, q2, q3, q4⟩ := r.obj _ _ hget
              rw [hr] at q1; cases q1
              cases q4 with
              | @map _ us _ hal =>
              split at he
              · rename_i hks
                cases he
                obtain ⟨D0, d1, d2, d3⟩ := owns_of S.int q3 hal hks (by simp)
                exact nil _ _ D0 (.inr ⟨rfl, d1, List.Perm.eq_nil d2, by simp at d3; omega⟩) rfl
              · rename_i k1 ks hks
                split at he
                · rename_i hlen
                  simp only at he
                  split at he
                  · rename_i ls hls
                    split at he
                    · rename_i hord
                      cases he
                      have hpm := sortF_perm hls
                      have hll : ls.length = ks.length + 1 := by simpa using hpm.length_eq
                      obtain ⟨D0, d1, d2, d3⟩ := owns_of S.int q3 hal hks (by simp; omega)
                      have hsome : ∀ x y, x ∈ ls → y ∈ ls → ∃ c, Ev.cmpOf P t cb h x y = some c := fun x y hx hy => by
                        obtain ⟨i, hi, rfl⟩ := List.getElem_of_mem hx
                        obtain ⟨j, hj, rfl⟩ := List.getElem_of_mem hy
                        have := isOrder_ok hord i j _ _ (List.getElem?_eq_getElem hi) (List.getElem?_eq_getElem hj)
                        rw [Option.map_eq_some_iff] at this
                        obtain ⟨c, hc, _⟩ := this
                        exact ⟨c, hc⟩
                      rw [S.enters]
                      refine (S.sorts g2 cb' bl _ _ D0 ls (fun x y => (Ev.cmpOf P t cb h x y).getD 0) w (by intro hq; rw [hq] at hll; simp at hll) hlt hcell d1 (by simp at d3; omega) (d2.trans hpm.symm) (fun args w => run_callFunc_in hf hname hb args w) ?_ ?_).mono ?_
                      · intro i j x y hx hy
                        have h1 := isOrder_ok hord i j x y hx hy
                        rw [Option.map_eq_some_iff] at h1
                        obtain ⟨c, hc, hd⟩ := h1
                        simp only [hc, Option.getD_some]
                        simpa using hd
                      · intro x y w' hx hy hbw
                        obtain ⟨c, hc⟩ := hsome x y hx hy
                        have := cmpOf_ok (w := w') hm hf hden hq hcl hc hcb (r.grow hbw)
                        simpa [hc] using this
                      · rintro x w' ⟨v, rfl, o1, o2⟩
                        rw [hll] at o1
                        have hrel : VRs ρ (ls.map fun n => .raw (.int .i64 n)) (ls.map encZ) := by
                          have := raws_rel (ρ := ρ) (ls.map encZ)
                          rw [List.map_map] at this
                          exact this
                        obtain ⟨ρ', p1, p2, p3⟩ := r.own o2 (by decide) (by omega) o1 hrel
                        exact hK _ List.mem_cons_self ρ' _ _ p1 p2 p3
                    · cases he
                  · cases he
                · cases he
              · cases he
            · cases he
          · cases he
        · cases he
      · cases he
    · cases he
  · cases he
end
end Go.Fr
