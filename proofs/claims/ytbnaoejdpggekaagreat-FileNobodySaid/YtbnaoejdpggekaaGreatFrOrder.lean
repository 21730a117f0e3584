/-
  This file proves: a region whose order is open may be walked in one order: a quiet operation first, its value held against the world behind each operation that could come ahead of it.
-/
import Derived.OrdersHeld
namespace Go.Fr
section
variable {P : Program} {ops : Array Oper} {Q : Exit → Act → World → Prop} {md : Region.Mode}

/-- Operation j waits for operation i, in some steps. -/
def dep (md : Region.Mode) (ops : Array Oper) : Nat → Nat → Nat → Bool
  | 0, _, _ => false
  | n + 1, j, i => match ops[j]? with
    | none => false
    | some o => o.after.any fun e => Region.binds md e && (e.on == i || dep md ops n e.on i)

/-- Whatever is listed, what it waits for is listed. -/
def Closed (md : Region.Mode) (ops : Array Oper) (listed : Array Bool) : Prop :=
  ∀ j o, ops[j]? = some o → listed.getD j false = true → ∀ e ∈ o.after, Region.binds md e = true → listed.getD e.on false = true

theorem Closed.dep {listed : Array Bool} (h : Closed md ops listed) {i : Nat} (hi : listed.getD i false = false) :
    ∀ n j, listed.getD j false = true → dep md ops n j i = false := by
  intro n
  induction n with
  | zero => intro j _; rfl
  | succ n ih =>
    intro j hj
    unfold Go.Fr.dep
    cases ho : ops[j]? with
    | none => rfl
    | some o =>
      simp only
      rw [Array.any_eq_false']
      intro e he
      cases hb : Region.binds md e with
      | false => simp
      | true =>
        have hl := h j o ho hj e he hb
        have h1 : (e.on == i) = false := by
          rw [beq_eq_false_iff_ne]; intro heq; rw [heq, hi] at hl; cases hl
        simp [h1, ih e.on hl]

theorem Closed.ready {listed : Array Bool} (h : Closed md ops listed) {i j : Nat} (hi : listed.getD i false = false)
    (hj : j ∈ Region.ready md ops listed) (n : Nat) : Go.Fr.dep md ops n j i = false := by
  obtain ⟨_, o, ho, hall⟩ := mem_ready.1 hj
  cases n with
  | zero => rfl
  | succ n =>
    unfold Go.Fr.dep
    simp only [ho]
    rw [Array.any_eq_false']
    intro e he
    cases hb : Region.binds md e with
    | false => simp
    | true =>
      have hl := hall e he hb
      have h1 : (e.on == i) = false := by
        rw [beq_eq_false_iff_ne]; intro heq; rw [heq, hi] at hl; cases hl
      simp [h1, h.dep hi n e.on hl]

theorem Closed.set {listed : Array Bool} (h : Closed md ops listed) {j : Nat} (hj : j ∈ Region.ready md ops listed) :
    Closed md ops (listed.setIfInBounds j true) := by
  obtain ⟨_, o, ho, hall⟩ := mem_ready.1 hj
  intro k ok hk hl e he hb
  by_cases hjk : j = k
  · subst hjk
    rw [ho] at hk; cases hk
    exact getD_set_true (hall e he hb)
  · rw [getD_set_ne false hjk] at hl
    exact getD_set_true (h k ok hk hl e he hb)

/-- What must stay true of the world behind each operation that does not wait for number 'on'. -/
structure Watch where
  on : Nat
  holds : World → Prop

/-- What is still watched behind number i: what i does not wait for. -/
def Watch.behind (md : Region.Mode) (ops : Array Oper) (i : Nat) (W : List Watch) : List Watch := W.filter fun x => !dep md ops ops.size i x.on

/-- Whatever order is picked from here on, and the watched conditions hold behind every operation that does not wait for theirs. -/
def wpD (P : Program) (md : Region.Mode) (ops : Array Oper) (Q : Exit → Act → World → Prop) : Nat → List Watch → Array Bool → Act → World → Prop
  | 0, _, listed, a, w => Region.ready md ops listed = [] ∧ Q .normal a w
  | fuel + 1, W, listed, a, w =>
    (Region.ready md ops listed = [] → Q .normal a w) ∧
    ∀ i ∈ Region.ready md ops listed, wpOp P ops Q i (fun a' w' => (∀ x ∈ Watch.behind md ops i W, x.holds w') ∧
      wpD P md ops Q fuel (Watch.behind md ops i W) (listed.setIfInBounds i true) a' w') a w

theorem wpAny_of_wpD : ∀ (fuel : Nat) (W : List Watch) (listed : Array Bool) (a : Act) (w : World), wpD P md ops Q fuel W listed a w → wpAny P md ops Q fuel listed a w := by
  intro fuel
  induction fuel with
  | zero => intro W listed a w h; exact h
  | succ fuel ih => intro W listed a w h; exact ⟨h.1, fun i hi => wpOp_mono (fun a' w' h' => ih _ _ a' w' h'.2) (h.2 i hi)⟩

theorem wpD_fewer : ∀ (fuel : Nat) (W W' : List Watch) (listed : Array Bool) (a : Act) (w : World), (∀ x ∈ W', x ∈ W) → wpD P md ops Q fuel W listed a w → wpD P md ops Q fuel W' listed a w := by
  intro fuel
  induction fuel with
  | zero => intro W W' listed a w _ h; exact h
  | succ fuel ih =>
    intro W W' listed a w hs h
    have hs' : ∀ i, ∀ x ∈ Watch.behind md ops i W', x ∈ Watch.behind md ops i W := fun i x hx => by
      unfold Watch.behind at *
      rw [List.mem_filter] at *
      exact ⟨hs x hx.1, hx.2⟩
    exact ⟨h.1, fun i hi => wpOp_mono (fun a' w' h' => ⟨fun x hx => h'.1 x (hs' i x hx), ih _ _ _ a' w' (hs' i) h'.2⟩) (h.2 i hi)⟩

theorem wpD_first {i : Nat} {oi : Oper} {v : Value} {C : World → Prop} (hi : ops[i]? = some oi) (hsel : ∀ (j : Nat) (o : Oper) cs b, ops[j]? = some o → o.op ≠ .select cs b)
    (hQ : ∀ c a w, Q (.panic c) (a.put oi.dst v) w → Q (.panic c) a w) :
    ∀ (fuel : Nat) (W : List Watch) (listed : Array Bool) (a : Act) (w : World), Closed md ops listed →
      (∀ j oj, ops[j]? = some oj → j ≠ i → listed.getD j true = false → dep md ops ops.size j i = false → oi.apart ops oj = true) →
      i ∈ Region.ready md ops listed → YieldsIf P ops C oi v a → C w → (∀ x ∈ W, x.holds w) →
      wpD P md ops Q fuel (⟨i, C⟩ :: W) (listed.setIfInBounds i true) (a.put oi.dst v) w → wpD P md ops Q (fuel + 1) W listed a w := by
  have behind_mem : ∀ (j : Nat) (W : List Watch) (x : Watch), x ∈ Watch.behind md ops j W → x ∈ W := fun j W x hx => (List.mem_filter.1 hx).1
  intro fuel
  induction fuel with
  | zero =>
    intro W listed a w _ _ hr hy hC hW H
    refine ⟨fun h => (by rw [h] at hr; cases hr), fun j hj => ?_⟩
    by_cases hji : j = i
    · subst hji; exact hy.wpOp hi hC ⟨fun x hx => hW x (behind_mem _ _ _ hx), wpD_fewer _ _ _ _ _ _ (fun x hx => List.mem_cons_of_mem _ (behind_mem _ _ _ hx)) H⟩
    · have := ready_mono hj hji
      rw [H.1] at this
      cases this
  | succ fuel ih =>
    intro W listed a w hclosed hfree hr hy hC hW H
    refine ⟨fun h => (by rw [h] at hr; cases hr), fun j hj => ?_⟩
    by_cases hji : j = i
    · subst hji; exact hy.wpOp hi hC ⟨fun x hx => hW x (behind_mem _ _ _ hx), wpD_fewer _ _ _ _ _ _ (fun x hx => List.mem_cons_of_mem _ (behind_mem _ _ _ hx)) H⟩
    · have h1 := H.2 j (ready_mono hj hji)
      obtain ⟨hjun, oj, hoj, hall⟩ := mem_ready.1 hj
      have hiun : listed.getD i false = false := by
        have h0 := (mem_ready.1 hr).1
        rcases Nat.lt_or_ge i listed.size with h' | h'
        · simp [h'] at h0 ⊢; exact h0
        · simp [Array.getElem?_eq_none h'] at h0
      have hnot : dep md ops ops.size j i = false := hclosed.ready hiun hj _
      have h2 := wpOp_putIf hoj (hfree j oj hoj hji hjun hnot) (fun cs b => hsel i oi cs b hi) (fun cs b => hsel j oj cs b hoj) hQ hy h1
      have hfree' : ∀ k ok, ops[k]? = some ok → k ≠ i → (listed.setIfInBounds j true).getD k true = false →
          dep md ops ops.size k i = false → oi.apart ops ok = true := fun k ok hk hki hun hno => by
        refine hfree k ok hk hki ?_ hno
        by_cases hjk : j = k
        · subst hjk; exact hjun
        · rw [getD_set_ne true hjk] at hun; exact hun
      refine wpOp_mono (fun a' w' h3 => ?_) h2
      obtain ⟨hyv, hall', hrest⟩ := h3
      have hcons : Watch.behind md ops j (⟨i, C⟩ :: W) = ⟨i, C⟩ :: Watch.behind md ops j W := by
        unfold Watch.behind
        simp [hnot]
      rw [hcons] at hall' hrest
      have hC' : C w' := hall' ⟨i, C⟩ List.mem_cons_self
      refine ⟨fun x hx => hall' x (List.mem_cons_of_mem _ hx), ?_⟩
      refine ih (Watch.behind md ops j W) (listed.setIfInBounds j true) a' w' (hclosed.set hj) hfree' (ready_mono hr (Ne.symm hji)) hyv hC' (fun x hx => hall' x (List.mem_cons_of_mem _ hx)) ?_
      rw [Array.setIfInBounds_comm _ _ hji]
      exact hrest

theorem Closed.none : Closed md ops (Array.replicate ops.size false) := by
  intro j o _ hl
  rw [Array.getD_eq_getD_getElem?] at hl
  rcases Nat.lt_or_ge j ops.size with h | h
  · simp [h] at hl
  · simp [h] at hl

theorem wp_region_first {id : Nat} {a : Act} {w : World} (hm : P.follows .mixedOrders = true)
    (h : wpD P .any ops Q ops.size [] (Array.replicate ops.size false) a { w with drawn := w.drawn + 1 }) : (Code.region id ops true).wp P Q a w :=
  wp_region_any hm (wpAny_of_wpD _ _ _ _ _ h)
end
end Go.Fr
