/-
  This file is a part of the proof that trees of operations tell what code does.
-/
import Derived.Test.YtbnaoejdpggekaaGreatFrDenB
namespace Go.Fr
open Go

def noDefOps (ops : Array Oper) : Bool := ops.toList.all fun o => !isDefer o.op

theorem noDef_of {ops : Array Oper} {i : Nat} {o : Oper} (h : noDefOps ops = true) (ho : ops[i]? = some o) : isDefer o.op = false := by
  unfold noDefOps at h
  rw [List.all_eq_true] at h
  have := h o (by simpa using Array.mem_of_getElem? ho)
  simpa using this

theorem dst_mem {ops : Array Oper} {i : Nat} {o : Oper} (ho : ops[i]? = some o) : ∀ d, o.dst = some d → d ∈ dstsOf ops :=
  fun d hd => mem_dsts (j := i) (by simp [ho, hd])

theorem ds_putE (e : Env) (d : Option Tmp) (x : Ent) : (e.putE d x).ds = e.ds := by cases d <;> rfl

theorem execN_run {P : Program} {E : List PanicEntry → World → Prop} {ops : Array Oper} {Q : Exit → Act → World → Prop} {i : Nat} {o : Oper} {e : Env} {a : Act} {w : World}
    {R : Nat → List Value → World → Prop} {k : Env → SP} {K : Act → World → Prop} (he : EnvRel e a) (ho : ops[i]? = some o)
    (h : Run P E (execN o e k) w R)
    (hk : ∀ e' a' w', EnvRel e' a' → Agree (dstsOf ops) e e' → (isDefer o.op = false → e'.ds = e.ds) → Run P E (k e') w' R → K a' w')
    (hE : ∀ c w', E c w' → Q (.panic c) a w') : o.wp P a w K Q := by
  have hput : ∀ x, Agree (dstsOf ops) e (e.putE o.dst x) := fun x => .putE e x (dst_mem ho)
  unfold execN at h
  cases hc : copyOf o e with
  | some x =>
    simp only [hc] at h
    by_cases hx : x.known = true
    · simp only [hx, if_true] at h
      obtain ⟨v, hv⟩ := Ent.get_of hx
      unfold Oper.wp
      rw [copyOf_run he hc hv w]
      exact hk _ _ _ (he.putE _ hv) (hput x) (fun _ => ds_putE _ _ _) h
    · simp only [hx] at h; exact h.elim
  | none =>
    simp only [hc] at h
    by_cases hg : (!allKnown e o || isSelect o.op) = true
    · simp only [hg, if_true] at h; exact h.elim
    · simp only [hg] at h
      simp only [Bool.or_eq_true, Bool.not_eq_true', not_or, Bool.not_eq_true, Bool.not_eq_false] at hg
      obtain ⟨hkn, hsel⟩ := hg
      have hx := execOp_env he hkn hsel
      unfold Oper.wp
      rw [hx]
      have gen : Run P E (.op (xop e.ev o) fun v => k (e.put o.dst v)) w R → o.upon P a K Q ((xop e.ev o).run P w) := fun h =>
        upon_of h (fun v w' h' => hk _ _ _ (he.put _ _) (hput (.val v)) (fun _ => ds_putE _ _ _) h') hE
      cases hop : o.op
      case defer c =>
        simp only [hop] at h
        obtain ⟨d, hd, h'⟩ := h
        rw [hd]
        show K _ _
        refine hk _ _ _ ?_ ((hput .un).put_ds (d :: e.ds)) (fun hf => by rw [hop] at hf; cases hf) h'
        have h1 := he.putE o.dst (x := .un) (v := undef) rfl
        exact ⟨by have := h1.size; cases ho' : o.dst <;> simpa [Env.putE, Act.put, ho'] using this,
          fun j u hj => by
            have := h1.at_ j u hj
            cases ho' : o.dst <;> simpa [Act.put, ho'] using this,
          by cases ho' : o.dst <;> simp [Act.put, he.ds]⟩
      all_goals (simp only [hop] at h; exact gen h)

theorem denOps_sound {P : Program} {E : List PanicEntry → World → Prop} {ops : Array Oper} {Q : Exit → Act → World → Prop} {e0 : Env} {kn : Env → SP}
    {R : Nat → List Value → World → Prop}
    (hn : ∀ e' a' w', EnvRel e' a' → Agree (dstsOf ops) e0 e' → (noDefOps ops = true → e'.ds = e0.ds) → Run P E (kn e') w' R → Q .normal a' w')
    (hp : ∀ ch a' w', (noDefOps ops = true → a'.defers = e0.ds) → E ch w' → Q (.panic ch) a' w') :
    ∀ (l : List Nat) (e : Env) (a : Act) (w : World), EnvRel e a → Agree (dstsOf ops) e0 e → (noDefOps ops = true → e.ds = e0.ds) →
      Run P E (denOps ops kn l e) w R → wpOps P ops Q l a w := by
  intro l
  induction l with
  | nil => intro e a w he hag hds h; exact hn e a w he hag hds h
  | cons i r ih =>
    intro e a w he hag hds h
    rw [wpOps_cons]
    unfold denOps at h
    unfold wpOp
    cases ho : ops[i]? with
    | none => simp only [ho] at h; exact ih e a w he hag hds h
    | some o =>
      simp only [ho] at h
      obtain ⟨e1, he1, hds1, hag1, h1⟩ := guarded_run he h
      rcases h1 with ⟨hw, h1⟩ | ⟨hw, h1⟩
      · simp only [hw, if_true]
        refine .inl (execN_run he1 ho h1 (fun e' a' w' he' hag' hds' h' => ih e' a' w' he' (hag.trans (hag1.trans hag')) (fun hnd => ?_) h') fun c w' hc => hp _ _ _ (fun hnd => ?_) hc)
        · rw [hds' (noDef_of hnd ho), hds1, hds hnd]
        · rw [he1.ds, hds1, hds hnd]
      · simp only [hw, Bool.false_eq_true, if_false]
        refine ih _ _ w (he1.putE _ rfl) (hag.trans (hag1.trans (.putE e1 _ (dst_mem ho)))) (fun hnd => ?_) h1
        rw [ds_putE, hds1, hds hnd]

-- ------------------------------------------------------------ a region whose order is open

def eyeHolds (P : Program) (x : Eye) (w : World) : Prop := x.2.1.run P w = .ok (.value x.2.2) w

theorem chks_run {P : Program} {E : List PanicEntry → World → Prop} {R : Nat → List Value → World → Prop} {w : World} : ∀ (W : List Eye) (p : SP), Run P E (chks W p) w R →
    (∀ x ∈ W, eyeHolds P x w) ∧ Run P E p w R := by
  intro W
  induction W with
  | nil => intro p h; exact ⟨by simp, h⟩
  | cons x r ih =>
    intro p h
    obtain ⟨h1, h2⟩ := h
    obtain ⟨h3, h4⟩ := ih p h2
    refine ⟨fun y hy => ?_, h4⟩
    rcases List.mem_cons.1 hy with rfl | hy
    · exact h1
    · exact h3 y hy

theorem allOf_run {P : Program} {E : List PanicEntry → World → Prop} {R : Nat → List Value → World → Prop} {w : World} {f : Nat → SP} : ∀ (l : List Nat), Run P E (allOf l f) w R →
    ∀ i ∈ l, Run P E (f i) w R := by
  intro l
  induction l with
  | nil => intro h; exact h.elim
  | cons j r ih =>
    intro h i hi
    cases r with
    | nil => simp only [List.mem_singleton] at hi; subst hi; exact h
    | cons j' r' =>
      obtain ⟨h1, h2⟩ := h
      rcases List.mem_cons.1 hi with rfl | hi
      · exact h1
      · exact ih h2 i hi

/-- What is watched by the one is watched by the other, or holds in every world. -/
def Covers (P : Program) (W : List Eye) (L : List Watch) : Prop :=
  ∀ x ∈ L, (∀ w, x.holds w) ∨ ∃ y ∈ W, x.on = y.1 ∧ ∀ w, eyeHolds P y w → x.holds w

theorem Covers.behind {P : Program} {ops : Array Oper} {W : List Eye} {L : List Watch} (h : Covers P W L) (i : Nat) :
    Covers P (behindE (Region.before ops) i W) (Watch.behind .any ops i L) := by
  intro x hx
  unfold Watch.behind at hx
  obtain ⟨hx, hd⟩ := List.mem_filter.1 hx
  rcases h x hx with h' | ⟨y, hy, he, h'⟩
  · exact .inl h'
  · refine .inr ⟨y, ?_, he, h'⟩
    unfold behindE
    refine List.mem_filter.2 ⟨hy, ?_⟩
    cases hb : ((Region.before ops).getD i 0).testBit y.1 with
    | false => rfl
    | true =>
      rw [← he] at hb
      rw [dep_before hb] at hd
      cases hd

theorem Covers.holds {P : Program} {W : List Eye} {L : List Watch} (h : Covers P W L) {w : World} (hw : ∀ x ∈ W, eyeHolds P x w) : ∀ x ∈ L, x.holds w := by
  intro x hx
  rcases h x hx with h' | ⟨y, hy, _, h'⟩
  · exact h' w
  · exact h' w (hw y hy)

theorem apartOk_spec {ops : Array Oper} {listed : Array Bool} {i : Nat} {o : Oper} (h : apartOk ops (Region.before ops) listed i o = true) :
    ∀ j oj, ops[j]? = some oj → j ≠ i → listed.getD j true = false → dep .any ops ops.size j i = false → o.apart ops oj = true := by
  intro j oj hj hne hun hd
  unfold apartOk at h
  rw [List.all_eq_true] at h
  have := h j (List.mem_range.2 (Array.getElem?_eq_some_iff.1 hj).1)
  have hb : ((Region.before ops).getD j 0).testBit i = false := by
    cases hb : ((Region.before ops).getD j 0).testBit i with
    | false => rfl
    | true => rw [dep_before hb] at hd; cases hd
  simp only [hj, hun, hb, Bool.or_false, Bool.or_eq_true, beq_iff_eq, hne, false_or] at this
  exact this

theorem denD_sound {P : Program} {E : List PanicEntry → World → Prop} {ops : Array Oper} {Q : Exit → Act → World → Prop} {e0 : Env} {kn : Env → SP}
    {R : Nat → List Value → World → Prop} (hsel : Region.noSelect ops = true)
    (hn : ∀ e' a' w', EnvRel e' a' → Agree (dstsOf ops) e0 e' → e'.ds = e0.ds → Run P E (kn e') w' R → Q .normal a' w')
    (hp : ∀ ch a' w', Q (.panic ch) a' w' ↔ (a'.defers = e0.ds ∧ E ch w')) :
    ∀ (m : Nat) (listed : Array Bool) (W : List Eye) (L : List Watch) (e : Env) (a : Act) (w : World), EnvRel e a → Agree (dstsOf ops) e0 e → e.ds = e0.ds →
      Closed .any ops listed → Covers P W L → (∀ x ∈ W, eyeHolds P x w) →
      Run P E (denD ops (Region.before ops) kn m listed W e) w R → wpD P .any ops Q m L listed a w := by
  have hQ : ∀ (d : Option Tmp) (v : Value) c (a : Act) w, Q (.panic c) (a.put d v) w → Q (.panic c) a w := by
    intro d v c a w h
    rw [hp] at h ⊢
    exact ⟨by cases d <;> exact h.1, h.2⟩
  intro m
  induction m with
  | zero =>
    intro listed W L e a w he hag hds _ _ _ h
    unfold denD at h
    by_cases hr : (Region.ready .any ops listed).isEmpty = true
    · simp only [hr, if_true] at h
      exact ⟨List.isEmpty_iff.1 hr, hn e a w he hag hds h⟩
    · simp only [hr] at h; exact h.elim
  | succ m ih =>
    intro listed W L e a w he hag hds hcl hcov hW h
    unfold denD at h
    simp only at h
    cases hf : (Region.ready .any ops listed).find? (fun i => (ops[i]?).any fun o => quietOp o.op) with
    | some i =>
      simp only [hf] at h
      have hi : i ∈ Region.ready .any ops listed := List.mem_of_find?_eq_some hf
      cases ho : ops[i]? with
      | none => simp only [ho] at h; exact h.elim
      | some o =>
        simp only [ho] at h
        by_cases hap : apartOk ops (Region.before ops) listed i o = true
        · simp only [hap, if_true] at h
          have hfree := apartOk_spec hap
          obtain ⟨e1, he1, hds1, hag1, h1⟩ := guarded_run he h
          have hL : ∀ x ∈ L, x.holds w := hcov.holds hW
          rcases h1 with ⟨hw, h1⟩ | ⟨hw, h1⟩
          · unfold execQ at h1
            cases hc : copyOf o e1 with
            | some x =>
              simp only [hc] at h1
              by_cases hkx : x.known = true
              · simp only [hkx, if_true] at h1
                obtain ⟨v, hv⟩ := Ent.get_of hkx
                refine wpD_first (C := fun _ => True) (v := v) ho (Region.noSelect_spec hsel) (hQ _ _) m L listed a w hcl hfree hi (.inl ⟨hw, fun w' _ => copyOf_run he1 hc hv w'⟩) trivial hL ?_
                refine ih _ _ _ _ _ _ (he1.putE _ hv) (hag.trans (hag1.trans (.putE e1 _ (dst_mem ho)))) (by rw [ds_putE, hds1, hds]) (hcl.set hi) ?_ hW h1
                intro x hx
                rcases List.mem_cons.1 hx with rfl | hx
                · exact .inl fun _ => trivial
                · exact hcov x hx
              · simp only [hkx] at h1; exact h1.elim
            | none =>
              simp only [hc] at h1
              by_cases hg : (!allKnown e1 o || isSelect o.op) = true
              · simp only [hg, if_true] at h1; exact h1.elim
              · simp only [hg] at h1
                simp only [Bool.or_eq_true, Bool.not_eq_true', not_or, Bool.not_eq_true, Bool.not_eq_false] at hg
                obtain ⟨v, hv, h2⟩ := h1
                have hx := execOp_env he1 hg.1 hg.2
                refine wpD_first (C := fun w' => eyeHolds P (i, xop e1.ev o, v) w') (v := v) ho (Region.noSelect_spec hsel) (hQ _ _) m L listed a w hcl hfree hi (.inl ⟨hw, fun w' hw' => by rw [hx]; exact hw'⟩) hv hL ?_
                refine ih _ _ _ _ _ _ (he1.putE _ rfl) (hag.trans (hag1.trans (.putE e1 _ (dst_mem ho)))) (by rw [ds_putE, hds1, hds]) (hcl.set hi) ?_ ?_ h2
                · intro x hx
                  rcases List.mem_cons.1 hx with rfl | hx
                  · exact .inr ⟨_, List.mem_cons_self, rfl, fun _ h => h⟩
                  · rcases hcov x hx with h' | ⟨y, hy, h'⟩
                    · exact .inl h'
                    · exact .inr ⟨y, List.mem_cons_of_mem _ hy, h'⟩
                · intro x hx
                  rcases List.mem_cons.1 hx with rfl | hx
                  · exact hv
                  · exact hW x hx
          · refine wpD_first (C := fun _ => True) (v := undef) ho (Region.noSelect_spec hsel) (hQ _ _) m L listed a w hcl hfree hi (.inr ⟨hw, rfl⟩) trivial hL ?_
            refine ih _ _ _ _ _ _ (he1.putE _ rfl) (hag.trans (hag1.trans (.putE e1 _ (dst_mem ho)))) (by rw [ds_putE, hds1, hds]) (hcl.set hi) ?_ hW h1
            intro x hx
            rcases List.mem_cons.1 hx with rfl | hx
            · exact .inl fun _ => trivial
            · exact hcov x hx
        · simp only [hap] at h; exact h.elim
    | none =>
      simp only [hf] at h
      by_cases hr : (Region.ready .any ops listed).isEmpty = true
      · simp only [hr, if_true] at h
        have hnil := List.isEmpty_iff.1 hr
        exact ⟨fun _ => hn e a w he hag hds h, fun i hi => by rw [hnil] at hi; cases hi⟩
      · simp only [hr] at h
        refine ⟨fun hnil => by rw [hnil] at hr; exact absurd rfl hr, fun i hi => ?_⟩
        have h1 := allOf_run _ h i hi
        unfold wpOp
        cases ho : ops[i]? with
        | none => simp only [ho] at h1; exact h1.elim
        | some o =>
          simp only [ho] at h1 ⊢
          obtain ⟨e1, he1, hds1, hag1, h2⟩ := guarded_run he h1
          rcases h2 with ⟨hw, h2⟩ | ⟨hw, h2⟩
          · simp only [hw, if_true]
            by_cases hg : (!allKnown e1 o || isSelect o.op || isDefer o.op) = true
            · simp only [hg, if_true] at h2; exact h2.elim
            · simp only [hg] at h2
              simp only [Bool.or_eq_true, Bool.not_eq_true', not_or, Bool.not_eq_true, Bool.not_eq_false] at hg
              have hx := execOp_env he1 hg.1.1 hg.1.2
              refine .inl ?_
              unfold Oper.wp
              rw [hx]
              refine upon_of h2 (fun v w' h3 => ?_) fun c w' hc => (hp _ _ _).2 ⟨by rw [he1.ds, hds1, hds], hc⟩
              obtain ⟨h4, h5⟩ := chks_run _ _ h3
              exact ⟨(hcov.behind i).holds h4, ih _ _ _ _ _ _ (he1.putE _ rfl) (hag.trans (hag1.trans (.putE e1 _ (dst_mem ho)))) (by rw [ds_putE, hds1, hds]) (hcl.set hi) (hcov.behind i) h4 h5⟩
          · simp only [hw, Bool.false_eq_true, if_false]
            have h4 : ∀ x ∈ behindE (Region.before ops) i W, eyeHolds P x w := fun x hx => hW x (List.mem_filter.1 hx).1
            exact ⟨(hcov.behind i).holds h4, ih _ _ _ _ _ _ (he1.putE _ rfl) (hag.trans (hag1.trans (.putE e1 _ (dst_mem ho)))) (by rw [ds_putE, hds1, hds]) (hcl.set hi) (hcov.behind i) h4 h2⟩

theorem denReg_sound {P : Program} (hm : P.follows .mixedOrders = true) {E : List PanicEntry → World → Prop} {id : Nat} {ops : Array Oper} {draw : Bool} {Q : Exit → Act → World → Prop} {e : Env} {a : Act} {w : World}
    {kn : Env → SP} {R : Nat → List Value → World → Prop} (he : EnvRel e a)
    (hn : ∀ e' a' w', EnvRel e' a' → Agree (dstsOf ops) e e' → (noDefOps ops = true → e'.ds = e.ds) → Run P E (kn e') w' R → Q .normal a' w')
    (hp : ∀ ch a' w', (noDefOps ops = true → a'.defers = e.ds) → E ch w' → Q (.panic ch) a' w')
    (h : Run P E (denReg ops draw e kn) w R) : (Code.region id ops draw).wp P Q a w := by
  unfold denReg at h
  cases draw with
  | false =>
    simp only [Bool.false_eq_true, if_false] at h
    exact wp_region (denOps_sound hn hp _ e a w he (.refl _ _) (fun _ => rfl) h)
  | true =>
    simp only [if_true] at h
    by_cases hsel : Region.noSelect ops = true
    · simp only [hsel, if_true] at h
      let Q' : Exit → Act → World → Prop := fun x a' w' =>
        match x with
        | .normal => ∃ e', EnvRel e' a' ∧ Agree (dstsOf ops) e e' ∧ e'.ds = e.ds ∧ Run P E (kn e') w' R
        | .panic ch => a'.defers = e.ds ∧ E ch w'
        | _ => False
      have hw : (Code.region id ops true).wp P Q' a w :=
        wp_region_first hm (denD_sound (Q := Q') hsel (fun e' a' w' h1 h2 h3 h4 => ⟨e', h1, h2, h3, h4⟩) (fun ch a' w' => Iff.rfl) ops.size _ [] [] e a _ he (.refl _ _) rfl
          Closed.none (by intro x hx; cases hx) (by intro x hx; cases hx) h)
      refine wp_mono hw fun x a' w' hx => ?_
      cases x with
      | normal => obtain ⟨e', h1, h2, h3, h4⟩ := hx; exact hn e' a' w' h1 h2 (fun _ => h3) h4
      | panic ch => exact hp ch a' w' (fun _ => hx.1) hx.2
      | _ => exact hx.elim
    · simp only [hsel] at h; exact h.elim
end Go.Fr
