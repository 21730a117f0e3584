/-
  This file is a part of the proof that trees of operations tell what code does, and that an evaluator tells what trees do: this file proves: a region whose order is open may be walked in one order: a quiet operation first, its value held against the world behind each operation that could come ahead of it; this file proves: what a function's code does follows from a tree of its operations with their values, in which no temporary stands ('den' makes the tree); this file proves: 'den' makes a tree out of code, and what the tree does the code does; this file proves: a call of a function does what the tree of its body does; this file names the operations of a tree.
-/
import Derived.OrdersHeld
import Derived.Defers
import Derived.Scope
import Derived.Laws.Sem

-- FrOrder
namespace Go.Fr
section
variable {P : Program} {ops : Array Oper} {Q : Exit → Act → World → Prop} {md : Region.Mode}

/-- Operation j waits for operation i, in some steps. -/
def dep (md : Region.Mode) (ops : Array Oper) : Nat → Nat → Nat → Bool
  | 0, _, _ => false
  | n + 1, j, i => match ops[j]? with
    | none => false
    | some o => o.after.any fun e => Region.binds md e && (e.on == i || dep md ops n e.on i)

/-- Whatever is listed, what it waits for is listed. -/
def Closed (md : Region.Mode) (ops : Array Oper) (listed : Array Bool) : Prop :=
  ∀ j o, ops[j]? = some o → listed.getD j false = true → ∀ e ∈ o.after, Region.binds md e = true → listed.getD e.on false = true

theorem Closed.dep {listed : Array Bool} (h : Closed md ops listed) {i : Nat} (hi : listed.getD i false = false) :
    ∀ n j, listed.getD j false = true → dep md ops n j i = false := by
  intro n
  induction n with
  | zero => intro j _; rfl
  | succ n ih =>
    intro j hj
    unfold Go.Fr.dep
    cases ho : ops[j]? with
    | none => rfl
    | some o =>
      simp only
      rw [Array.any_eq_false']
      intro e he
      cases hb : Region.binds md e with
      | false => simp
      | true =>
        have hl := h j o ho hj e he hb
        have h1 : (e.on == i) = false := by
          rw [beq_eq_false_iff_ne]; intro heq; rw [heq, hi] at hl; cases hl
        simp [h1, ih e.on hl]

theorem Closed.ready {listed : Array Bool} (h : Closed md ops listed) {i j : Nat} (hi : listed.getD i false = false)
    (hj : j ∈ Region.ready md ops listed) (n : Nat) : Go.Fr.dep md ops n j i = false := by
  obtain ⟨_, o, ho, hall⟩ := mem_ready.1 hj
  cases n with
  | zero => rfl
  | succ n =>
    unfold Go.Fr.dep
    simp only [ho]
    rw [Array.any_eq_false']
    intro e he
    cases hb : Region.binds md e with
    | false => simp
    | true =>
      have hl := hall e he hb
      have h1 : (e.on == i) = false := by
        rw [beq_eq_false_iff_ne]; intro heq; rw [heq, hi] at hl; cases hl
      simp [h1, h.dep hi n e.on hl]

theorem Closed.set {listed : Array Bool} (h : Closed md ops listed) {j : Nat} (hj : j ∈ Region.ready md ops listed) :
    Closed md ops (listed.setIfInBounds j true) := by
  obtain ⟨_, o, ho, hall⟩ := mem_ready.1 hj
  intro k ok hk hl e he hb
  by_cases hjk : j = k
  · subst hjk
    rw [ho] at hk; cases hk
    exact getD_set_true (hall e he hb)
  · rw [getD_set_ne false hjk] at hl
    exact getD_set_true (h k ok hk hl e he hb)

/-- What must stay true of the world behind each operation that does not wait for number 'on'. -/
structure Watch where
  on : Nat
  holds : World → Prop

/-- What is still watched behind number i: what i does not wait for. -/
def Watch.behind (md : Region.Mode) (ops : Array Oper) (i : Nat) (W : List Watch) : List Watch := W.filter fun x => !dep md ops ops.size i x.on

/-- Whatever order is picked from here on, and the watched conditions hold behind every operation that does not wait for theirs. -/
def wpD (P : Program) (md : Region.Mode) (ops : Array Oper) (Q : Exit → Act → World → Prop) : Nat → List Watch → Array Bool → Act → World → Prop
  | 0, _, listed, a, w => Region.ready md ops listed = [] ∧ Q .normal a w
  | fuel + 1, W, listed, a, w =>
    (Region.ready md ops listed = [] → Q .normal a w) ∧
    ∀ i ∈ Region.ready md ops listed, wpOp P ops Q i (fun a' w' => (∀ x ∈ Watch.behind md ops i W, x.holds w') ∧
      wpD P md ops Q fuel (Watch.behind md ops i W) (listed.setIfInBounds i true) a' w') a w

theorem wpAny_of_wpD : ∀ (fuel : Nat) (W : List Watch) (listed : Array Bool) (a : Act) (w : World), wpD P md ops Q fuel W listed a w → wpAny P md ops Q fuel listed a w := by
  intro fuel
  induction fuel with
  | zero => intro W listed a w h; exact h
  | succ fuel ih => intro W listed a w h; exact ⟨h.1, fun i hi => wpOp_mono (fun a' w' h' => ih _ _ a' w' h'.2) (h.2 i hi)⟩

theorem wpD_fewer : ∀ (fuel : Nat) (W W' : List Watch) (listed : Array Bool) (a : Act) (w : World), (∀ x ∈ W', x ∈ W) → wpD P md ops Q fuel W listed a w → wpD P md ops Q fuel W' listed a w := by
  intro fuel
  induction fuel with
  | zero => intro W W' listed a w _ h; exact h
  | succ fuel ih =>
    intro W W' listed a w hs h
    have hs' : ∀ i, ∀ x ∈ Watch.behind md ops i W', x ∈ Watch.behind md ops i W := fun i x hx => by
      unfold Watch.behind at *
      rw [List.mem_filter] at *
      exact ⟨hs x hx.1, hx.2⟩
    exact ⟨h.1, fun i hi => wpOp_mono (fun a' w' h' => ⟨fun x hx => h'.1 x (hs' i x hx), ih _ _ _ a' w' (hs' i) h'.2⟩) (h.2 i hi)⟩

theorem wpD_first {i : Nat} {oi : Oper} {v : Value} {C : World → Prop} (hi : ops[i]? = some oi) (hsel : ∀ (j : Nat) (o : Oper) cs b, ops[j]? = some o → o.op ≠ .select cs b)
    (hQ : ∀ c a w, Q (.panic c) (a.put oi.dst v) w → Q (.panic c) a w) :
    ∀ (fuel : Nat) (W : List Watch) (listed : Array Bool) (a : Act) (w : World), Closed md ops listed →
      (∀ j oj, ops[j]? = some oj → j ≠ i → listed.getD j true = false → dep md ops ops.size j i = false → oi.apart ops oj = true) →
      i ∈ Region.ready md ops listed → YieldsIf P ops C oi v a → C w → (∀ x ∈ W, x.holds w) →
      wpD P md ops Q fuel (⟨i, C⟩ :: W) (listed.setIfInBounds i true) (a.put oi.dst v) w → wpD P md ops Q (fuel + 1) W listed a w := by
  have behind_mem : ∀ (j : Nat) (W : List Watch) (x : Watch), x ∈ Watch.behind md ops j W → x ∈ W := fun j W x hx => (List.mem_filter.1 hx).1
  intro fuel
  induction fuel with
  | zero =>
    intro W listed a w _ _ hr hy hC hW H
    refine ⟨fun h => (by rw [h] at hr; cases hr), fun j hj => ?_⟩
    by_cases hji : j = i
    · subst hji; exact hy.wpOp hi hC ⟨fun x hx => hW x (behind_mem _ _ _ hx), wpD_fewer _ _ _ _ _ _ (fun x hx => List.mem_cons_of_mem _ (behind_mem _ _ _ hx)) H⟩
    · have := ready_mono hj hji
      rw [H.1] at this
      cases this
  | succ fuel ih =>
    intro W listed a w hclosed hfree hr hy hC hW H
    refine ⟨fun h => (by rw [h] at hr; cases hr), fun j hj => ?_⟩
    by_cases hji : j = i
    · subst hji; exact hy.wpOp hi hC ⟨fun x hx => hW x (behind_mem _ _ _ hx), wpD_fewer _ _ _ _ _ _ (fun x hx => List.mem_cons_of_mem _ (behind_mem _ _ _ hx)) H⟩
    · have h1 := H.2 j (ready_mono hj hji)
      obtain ⟨hjun, oj, hoj, hall⟩ := mem_ready.1 hj
      have hiun : listed.getD i false = false := by
        have h0 := (mem_ready.1 hr).1
        rcases Nat.lt_or_ge i listed.size with h' | h'
        · simp [h'] at h0 ⊢; exact h0
        · simp [Array.getElem?_eq_none h'] at h0
      have hnot : dep md ops ops.size j i = false := hclosed.ready hiun hj _
      have h2 := wpOp_putIf hoj (hfree j oj hoj hji hjun hnot) (fun cs b => hsel i oi cs b hi) (fun cs b => hsel j oj cs b hoj) hQ hy h1
      have hfree' : ∀ k ok, ops[k]? = some ok → k ≠ i → (listed.setIfInBounds j true).getD k true = false →
          dep md ops ops.size k i = false → oi.apart ops ok = true := fun k ok hk hki hun hno => by
        refine hfree k ok hk hki ?_ hno
        by_cases hjk : j = k
        · subst hjk; exact hjun
        · rw [getD_set_ne true hjk] at hun; exact hun
      refine wpOp_mono (fun a' w' h3 => ?_) h2
      obtain ⟨hyv, hall', hrest⟩ := h3
      have hcons : Watch.behind md ops j (⟨i, C⟩ :: W) = ⟨i, C⟩ :: Watch.behind md ops j W := by
        unfold Watch.behind
        simp [hnot]
      rw [hcons] at hall' hrest
      have hC' : C w' := hall' ⟨i, C⟩ List.mem_cons_self
      refine ⟨fun x hx => hall' x (List.mem_cons_of_mem _ hx), ?_⟩
      refine ih (Watch.behind md ops j W) (listed.setIfInBounds j true) a' w' (hclosed.set hj) hfree' (ready_mono hr (Ne.symm hji)) hyv hC' (fun x hx => hall' x (List.mem_cons_of_mem _ hx)) ?_
      rw [Array.setIfInBounds_comm _ _ hji]
      exact hrest

theorem Closed.none : Closed md ops (Array.replicate ops.size false) := by
  intro j o _ hl
  rw [Array.getD_eq_getD_getElem?] at hl
  rcases Nat.lt_or_ge j ops.size with h | h
  · simp [h] at hl
  · simp [h] at hl

theorem wp_region_first {id : Nat} {a : Act} {w : World} (hm : P.follows .mixedOrders = true)
    (h : wpD P .any ops Q ops.size [] (Array.replicate ops.size false) a { w with drawn := w.drawn + 1 }) : (Code.region id ops true).wp P Q a w :=
  wp_region_any hm (wpAny_of_wpD _ _ _ _ _ h)
end
end Go.Fr

-- FrSP
namespace Go.Fr

/-- A tree of operations. -/
inductive SP where
  | done (t : Nat) (vs : List Value)
  | bind (p : SP) (k : Nat → List Value → SP)
  | op (s : Sem Next) (k : Value → SP)
  | rd (s : Sem Next) (k : Value → SP)
  | chk (s : Sem Next) (v : Value) (k : SP)
  | dfr (s : Sem Next) (k : Deferred → SP)
  | dcl (d : Deferred) (k : SP)
  | ite (v : Value) (a b : SP)
  | both (a b : SP)
  | drew (p : SP)
  | loop (init : List Value) (body : List Value → SP) (k : Nat → List Value → SP)
  | fail

/-- What an operation's result must be good for. -/
def UponS (P : Program) (K : Value → World → Prop) (E : List PanicEntry → World → Prop) : Result Next → Prop
  | .ok (.value v) w => K v w
  | .ok .skip w => K undef w
  | .ok (.enter f args) w => Calls P f args w fun
      | .returned v, w' => K v w'
      | .panicked c, w' => E c w'
      | .outgrown, _ => False
  | .ok (.row row args) w => Rows P row args w K
  | .halt (.panic v) w => E [{ v, recovered := false }] w
  | _ => False

theorem UponS.mono {P : Program} {K K' : Value → World → Prop} {E E' : List PanicEntry → World → Prop} {r : Result Next}
    (hk : ∀ v w, K v w → K' v w) (he : ∀ c w, E c w → E' c w) (h : UponS P K E r) : UponS P K' E' r := by
  cases r with
  | ok n w =>
    cases n <;> simp only [UponS] at h ⊢
    case value v => exact hk _ _ h
    case skip => exact hk _ _ h
    case enter f args => exact Calls.mono h fun e w' h' => by cases e <;> first | exact hk _ _ h' | exact he _ _ h' | exact h'
    case row row args => exact Rows.mono h fun v w' h' => hk _ _ h'
  | halt x w => cases x <;> simp only [UponS] at h ⊢; exact he _ _ h

/-- What a tree does from a world on: R of what it is done with, E of a panic. -/
def Run (P : Program) (E : List PanicEntry → World → Prop) : SP → World → (Nat → List Value → World → Prop) → Prop
  | .done t vs, w, R => R t vs w
  | .bind p k, w, R => Run P E p w fun t vs w' => Run P E (k t vs) w' R
  | .op s k, w, R => UponS P (fun v w' => Run P E (k v) w' R) E (s.run P w)
  | .rd s k, w, R => ∃ v, s.run P w = .ok (.value v) w ∧ Run P E (k v) w R
  | .chk s v k, w, R => s.run P w = .ok (.value v) w ∧ Run P E k w R
  | .dfr s k, w, R => ∃ d, s.run P w = .ok (.defer d) w ∧ Run P E (k d) w R
  | .dcl d k, w, R => ∃ fv cap f args, d.target = .fn fv cap ∧ (invoke d.target d.args).run P w = .ok (.enter f args) w ∧
      CallsD P f args .returning w fun e u' w' =>
        match e with
        | .returned _ => u' = .returning ∧ Run P E k w' R
        | _ => False
  | .ite v a b, w, R => ∃ t, v = .bool t ∧ (t = true → Run P E a w R) ∧ (t = false → Run P E b w R)
  | .both a b, w, R => Run P E a w R ∧ Run P E b w R
  | .drew p, w, R => Run P E p { w with drawn := w.drawn + 1 } R
  | .loop init body k, w, R => ∃ I : Nat → List Value → World → Prop, (∃ n, I n init w) ∧
      ∀ n vs w, I n vs w → Run P E (body vs) w fun t vs' w' => if t = 0 then ∃ m, m < n ∧ I m vs' w' else Run P E (k t vs') w' R
  | .fail, _, _ => False

theorem Run.mono {P : Program} {E E' : List PanicEntry → World → Prop} (hE : ∀ c w, E c w → E' c w) (p : SP) :
    ∀ {w : World} {R R' : Nat → List Value → World → Prop}, (∀ t vs w, R t vs w → R' t vs w) → Run P E p w R → Run P E' p w R' := by
  induction p with
  | done t vs => intro w R R' hR h; exact hR _ _ _ h
  | bind p k ih ihk => intro w R R' hR h; exact ih (fun t vs w' h' => ihk t vs hR h') h
  | op s k ih => intro w R R' hR h; exact UponS.mono (fun v w' h' => ih v hR h') hE h
  | rd s k ih => intro w R R' hR ⟨v, hv, h⟩; exact ⟨v, hv, ih v hR h⟩
  | chk s v k ih => intro w R R' hR ⟨hv, h⟩; exact ⟨hv, ih hR h⟩
  | dfr s k ih => intro w R R' hR ⟨d, hd, h⟩; exact ⟨d, hd, ih d hR h⟩
  | dcl d k ih =>
    intro w R R' hR ⟨fv, cap, f, args, h1, h2, h3⟩
    refine ⟨fv, cap, f, args, h1, h2, fun c cs hc => ?_⟩
    obtain ⟨e, u', w', fr, h4, h5⟩ := h3 c cs hc
    refine ⟨e, u', w', fr, ?_, h5⟩
    cases e with
    | returned v => exact ⟨h4.1, ih hR h4.2⟩
    | panicked ch => exact h4.elim
    | outgrown => exact h4.elim
  | ite v a b iha ihb => intro w R R' hR ⟨t, ht, h1, h2⟩; exact ⟨t, ht, fun e => iha hR (h1 e), fun e => ihb hR (h2 e)⟩
  | both a b iha ihb => intro w R R' hR ⟨h1, h2⟩; exact ⟨iha hR h1, ihb hR h2⟩
  | drew p ih => intro w R R' hR h; exact ih hR h
  | loop init body k ihb ihk =>
    intro w R R' hR ⟨I, h0, h⟩
    refine ⟨I, h0, fun n vs w hI => ihb vs ?_ (h n vs w hI)⟩
    intro t vs' w' h'
    split
    · rename_i ht; simp only [ht, if_true] at h'; exact h'
    · rename_i ht; simp only [ht, if_false] at h'; exact ihk t vs' hR h'
  | fail => intro w R R' _ h; exact h

/-- A loop with a measure that stands in the relation. -/
theorem wp_loop_n {P : Program} {Q : Exit → Act → World → Prop} {a : Act} {w : World} {c : Code} (I : Nat → Act → World → Prop) (h₀ : ∃ n, I n a w)
    (round : ∀ n a w, I n a w → c.wp P (Exit.then (fun a' w' => ∃ m, m < n ∧ I m a' w') Q) a w) : (Code.loop c).wp P Q a w := by
  intro b k cs
  have key : ∀ n a w, I n a w →
      ∃ e a' w', Q e a' w' ∧ Arrives P (lone (b.at a (.code c :: .inLoop c :: k)) cs w) b k cs e a' w' := by
    intro n
    induction n using Nat.strongRecOn with
    | _ n ih =>
      intro a w hI
      obtain ⟨e, a₁, w₁, hq, harr⟩ := round n a w hI b (.inLoop c :: k) cs
      cases e with
      | normal =>
        obtain ⟨m, hm, hI₁⟩ := hq
        obtain ⟨e₂, a₂, w₂, hq₂, harr₂⟩ := ih m hm a₁ w₁ hI₁
        exact ⟨e₂, a₂, w₂, hq₂, .of_steps (Steps.trans harr (.one step_inLoop)) harr₂⟩
      | exit id => exact ⟨_, a₁, w₁, hq, .pass (x := .inLoop c) rfl (fun _ _ => .inl (by simp)) harr⟩
      | goto l => exact ⟨_, a₁, w₁, hq, .pass (x := .inLoop c) rfl (fun _ _ => .inl (by simp)) harr⟩
      | ret => exact ⟨_, a₁, w₁, hq, .pass (x := .inLoop c) rfl (fun _ _ => .inl (by simp)) harr⟩
      | panic ch => exact ⟨_, a₁, w₁, hq, .pass (x := .inLoop c) rfl (fun _ _ => .inl (by simp)) harr⟩
      | outgrown => exact ⟨_, a₁, w₁, hq, .pass (x := .inLoop c) rfl (fun _ _ => .inl (by simp)) harr⟩
  obtain ⟨n, hn⟩ := h₀
  obtain ⟨e, a', w', hq, harr⟩ := key n a w hn
  exact ⟨e, a', w', hq, .of_steps (.one step_loop) harr⟩

/-- What is known of a frame's temporaries, and its deferred calls. -/
inductive Ent where
  | no
  | val (v : Value)
  | lit (b : Bool)
  | un

def Ent.get : Ent → Option Value
  | .no => none
  | .val v => some v
  | .lit b => some (.bool b)
  | .un => some undef

structure Env where
  t : List Ent
  ds : List Deferred

def lookE (l : List Ent) (i : Nat) : Ent := (l[i]?).getD .no
def look (l : List Ent) (i : Nat) : Option Value := (lookE l i).get

/-- What is known is so. -/
structure EnvRel (e : Env) (a : Act) : Prop where
  size : e.t.length ≤ a.tmps.size
  at_ : ∀ i v, look e.t i = some v → a.tmps[i]? = some v
  ds : a.defers = e.ds

def Env.putE (e : Env) (d : Option Tmp) (x : Ent) : Env :=
  match d with
  | some i => { e with t := e.t.set i x }
  | none => e

def Env.put (e : Env) (d : Option Tmp) (v : Value) : Env := e.putE d (.val v)

theorem lookE_set (l : List Ent) (i j : Nat) (v : Ent) : lookE (l.set i v) j = if i = j ∧ j < l.length then v else lookE l j := by
  unfold lookE
  rw [List.getElem?_set]
  by_cases h : i = j
  · subst h
    by_cases h2 : i < l.length
    · simp [h2]
    · simp [h2]
  · simp [h]

theorem look_set (l : List Ent) (i j : Nat) (v : Ent) : look (l.set i v) j = if i = j ∧ j < l.length then v.get else look l j := by
  unfold look
  rw [lookE_set]
  split <;> rfl

theorem look_out {l : List Ent} {i : Nat} (h : l.length ≤ i) : look l i = none := by
  unfold look lookE
  rw [List.getElem?_eq_none h]
  rfl

theorem EnvRel.putE {e : Env} {a : Act} (h : EnvRel e a) (d : Option Tmp) {x : Ent} {v : Value} (hx : x.get = some v) : EnvRel (e.putE d x) (a.put d v) := by
  cases d with
  | none => exact h
  | some i =>
    refine ⟨by simpa [Env.putE, Act.put] using h.size, fun j u hj => ?_, h.ds⟩
    simp only [Env.putE] at hj
    rw [look_set] at hj
    simp only [Act.put]
    by_cases hij : i = j
    · subst hij
      by_cases hlt : i < e.t.length
      · simp only [hlt, and_self, if_true, hx, Option.some.injEq] at hj
        subst hj
        have := h.size
        have hlt' := Nat.lt_of_lt_of_le hlt this
        simp [hlt']
      · simp only [hlt, and_false, if_false] at hj
        rw [look_out (Nat.le_of_not_lt hlt)] at hj
        cases hj
    · simp only [hij, false_and, if_false] at hj
      rw [Array.getElem?_setIfInBounds_ne hij]
      exact h.at_ j u hj

theorem EnvRel.put {e : Env} {a : Act} (h : EnvRel e a) (d : Option Tmp) (v : Value) : EnvRel (e.put d v) (a.put d v) := h.putE d rfl

/-- An operand's value, if it is known. -/
def Env.ent (e : Env) : Operand → Ent
  | .tmp t => lookE e.t t
  | .const (.bool b) => .lit b
  | .const v => .val v
  | .global g => .val (.pointer (some ⟨g, 0, none⟩))
  | .func f => .val (.func (.func f) #[] #[])

def Env.val (e : Env) (x : Operand) : Option Value := (e.ent x).get

/-- .. and as a function that is total. -/
def Env.ev (e : Env) (x : Operand) : Value := (e.val x).getD undef

def Env.knows (e : Env) (x : Operand) : Bool := (e.val x).isSome

theorem EnvRel.val {e : Env} {a : Act} (h : EnvRel e a) {x : Operand} {v : Value} (hx : e.val x = some v) : a.eval x = v := by
  cases x with
  | tmp t =>
    have := h.at_ t v hx
    simp [Act.eval, Array.getD_eq_getD_getElem?, this]
  | const u => cases u <;> (simp [Env.val, Env.ent, Ent.get] at hx; exact hx)
  | global g => simp [Env.val, Env.ent, Ent.get] at hx; exact hx
  | func f => simp [Env.val, Env.ent, Ent.get] at hx; exact hx

theorem EnvRel.ev {e : Env} {a : Act} (h : EnvRel e a) {x : Operand} (hx : e.knows x = true) : a.eval x = e.ev x := by
  unfold Env.knows at hx
  obtain ⟨v, hv⟩ := Option.isSome_iff_exists.1 hx
  rw [h.val hv, Env.ev, hv]; rfl

/-- An operation over values, written with lists. -/
def xop (ρ : Operand → Value) (o : Oper) : Sem Next :=
  match o.op with
  | .call c =>
    match c.callee with
    | .value (.func f) => callFunc f (c.args.toList.map ρ).toArray
    | .value x => do let d ← Deferred.ofValue (ρ x) (c.args.toList.map ρ).toArray; invoke d.target d.args
    | .builtin b => builtin b c.argTypes o.type (c.args.toList.map fun | .const _ => true | _ => false).toArray (c.args.toList.map ρ).toArray
    | .invoke r m => callMethod (ρ r) m (c.args.toList.map ρ).toArray
  | .defer c =>
    match c.callee with
    | .value x => do pure (.defer (← Deferred.ofValue (ρ x) (c.args.toList.map ρ).toArray))
    | _ => execOp ρ o
  | .build t ps => do pure (.value (← Instr.build t (ps.toList.map fun (i, x) => (i, ρ x)).toArray))
  | .buildSlice t n ps => do pure (.value (← Instr.buildSlice t n (ps.toList.map fun (i, x) => (i, ρ x)).toArray))
  | .makeFunc fn a b => do pure (.value (← Instr.makeFunc fn (a.toList.map ρ).toArray (b.toList.map ρ).toArray))
  | _ => execOp ρ o

theorem mapL {α β : Type} (f : α → β) (as : Array α) : (as.toList.map f).toArray = as.map f := by
  rw [← Array.toList_map, Array.toArray_toList]

theorem Sem.pure_bind' {α β : Type} (a : α) (f : α → Sem β) : (pure a >>= f : Sem β) = f a := rfl

theorem one_append_get {α : Type} (x : α) (as : Array α) : (#[x] ++ as)[0]? = some x := by
  simp [Array.getElem?_append]
theorem one_append_rest {α : Type} (x : α) (as : Array α) : (#[x] ++ as).extract 1 (#[x] ++ as).size = as := by
  apply Array.ext'
  simp

theorem xop_eq (ρ : Operand → Value) (hρ : ∀ f, ρ (.func f) = .func (.func f) #[] #[]) (o : Oper) : xop ρ o = execOp ρ o := by
  obtain ⟨dst, op, type, pos, after, guard⟩ := o
  cases op <;> simp only [xop, execOp, mapL]
  case call c =>
    obtain ⟨callee, args, argTypes⟩ := c
    cases callee with
    | value x =>
      cases x <;> simp only [resolve]
      case func f => simp [Deferred.ofValue, invoke, hρ]
      all_goals rfl
    | builtin b => simp only [resolve]; rfl
    | invoke r m =>
      simp only [resolve, Sem.pure_bind', invoke, one_append_get, one_append_rest]
  case defer c =>
    obtain ⟨callee, args, argTypes⟩ := c
    cases callee <;> simp only [resolve]

end Go.Fr

-- FrDen
namespace Go.Fr
open Go

-- ------------------------------------------------------------ what waits for what, as bits

theorem before_spec (ops : Array Oper) : ∀ j i, ((Region.before ops).getD j 0).testBit i = true →
    ∃ o, ops[j]? = some o ∧ ∃ e ∈ o.after, Region.binds .any e = true ∧ (e.on = i ∨ (e.on < j ∧ ((Region.before ops).getD e.on 0).testBit i = true)) := by
  have inner : ∀ (acc : Array Nat) (l : List Edge) (s : Nat) (i : Nat),
      (l.foldl (fun s e => if Region.binds .any e then s ||| 2 ^ e.on ||| acc.getD e.on 0 else s) s).testBit i = true →
      s.testBit i = true ∨ ∃ e ∈ l, Region.binds .any e = true ∧ (e.on = i ∨ (acc.getD e.on 0).testBit i = true) := by
    intro acc l
    induction l with
    | nil => intro s i h; exact .inl h
    | cons e l ih =>
      intro s i h
      simp only [List.foldl_cons] at h
      rcases ih _ i h with h1 | ⟨e', he', hb, h1⟩
      · by_cases hb : Region.binds .any e = true
        · simp only [hb, if_true, Nat.testBit_or, Bool.or_eq_true] at h1
          rcases h1 with (h1 | h1) | h1
          · exact .inl h1
          · refine .inr ⟨e, List.mem_cons_self, hb, .inl ?_⟩
            rw [Nat.testBit_two_pow] at h1
            simpa using h1
          · exact .inr ⟨e, List.mem_cons_self, hb, .inr h1⟩
        · simp only [hb] at h1; exact .inl h1
      · exact .inr ⟨e', List.mem_cons_of_mem _ he', hb, h1⟩
  have outer : ∀ (l pre : List Oper) (acc : Array Nat), acc.size = pre.length →
      (∀ j i, (acc.getD j 0).testBit i = true → ∃ o, pre[j]? = some o ∧ ∃ e ∈ o.after, Region.binds .any e = true ∧ (e.on = i ∨ (e.on < j ∧ (acc.getD e.on 0).testBit i = true))) →
      ∀ j i, ((l.foldl (fun acc o => acc.push (o.after.foldl (fun s e => if Region.binds .any e then s ||| 2 ^ e.on ||| acc.getD e.on 0 else s) 0)) acc).getD j 0).testBit i = true →
        ∃ o, (pre ++ l)[j]? = some o ∧ ∃ e ∈ o.after, Region.binds .any e = true ∧ (e.on = i ∨ (e.on < j ∧ ((l.foldl (fun acc o => acc.push (o.after.foldl (fun s e => if Region.binds .any e then s ||| 2 ^ e.on ||| acc.getD e.on 0 else s) 0)) acc).getD e.on 0).testBit i = true)) := by
    intro l
    induction l with
    | nil => intro pre acc _ h j i hj; simpa using h j i hj
    | cons o l ih =>
      intro pre acc hs h j i hj
      simp only [List.foldl_cons] at hj ⊢
      have := ih (pre ++ [o]) (acc.push (o.after.foldl (fun s e => if Region.binds .any e then s ||| 2 ^ e.on ||| acc.getD e.on 0 else s) 0)) (by simp [hs]) ?_ j i hj
      · simpa using this
      · intro j i hj
        by_cases hlt : j < acc.size
        · have e1 : (acc.push (o.after.foldl (fun s e => if Region.binds .any e then s ||| 2 ^ e.on ||| acc.getD e.on 0 else s) 0)).getD j 0 = acc.getD j 0 := by
            simp [Array.getD_eq_getD_getElem?, Array.getElem?_push, Nat.ne_of_lt hlt]
          rw [e1] at hj
          obtain ⟨o', ho', e, he, hb, h1⟩ := h j i hj
          refine ⟨o', by rw [List.getElem?_append_left (by omega)]; exact ho', e, he, hb, h1.imp id fun ⟨h2, h3⟩ => ⟨h2, ?_⟩⟩
          simp only [Array.getD_eq_getD_getElem?, Array.getElem?_push] at h3 ⊢
          rw [if_neg (by omega)]; exact h3
        · by_cases hje : j = acc.size
          · subst hje
            simp only [Array.getD_eq_getD_getElem?, Array.getElem?_push, if_true, Option.getD_some] at hj
            rw [← Array.foldl_toList] at hj
            rcases inner acc o.after.toList 0 i (by simpa only [Array.getD_eq_getD_getElem?] using hj) with h0 | ⟨e, he, hb, h1⟩
            · simp at h0
            · refine ⟨o, by simp [hs], e, by simpa using he, hb, h1.imp id fun h2 => ?_⟩
              have hlt2 : e.on < acc.size := by
                rcases Nat.lt_or_ge e.on acc.size with h' | h'
                · exact h'
                · simp [Array.getD_eq_getD_getElem?, Array.getElem?_eq_none h'] at h2
              refine ⟨hlt2, ?_⟩
              simp only [Array.getD_eq_getD_getElem?, Array.getElem?_push] at h2 ⊢
              rw [if_neg (by omega)]; exact h2
          · have : (acc.push (o.after.foldl (fun s e => if Region.binds .any e then s ||| 2 ^ e.on ||| acc.getD e.on 0 else s) 0)).getD j 0 = 0 := by
              simp only [Array.getD_eq_getD_getElem?]
              rw [Array.getElem?_eq_none (by simp; omega)]; rfl
            rw [this] at hj
            simp at hj
  intro j i hj
  have := outer ops.toList [] #[] rfl (by intro j i h; simp at h) j i (by
    unfold Region.before at hj
    rw [← Array.foldl_toList] at hj
    exact hj)
  obtain ⟨o, ho, e, he, hb, h1⟩ := this
  refine ⟨o, by simpa using ho, e, he, hb, ?_⟩
  unfold Region.before
  rw [← Array.foldl_toList]
  exact h1

theorem dep_of_before (ops : Array Oper) (i : Nat) : ∀ n j, j < n → ((Region.before ops).getD j 0).testBit i = true → dep .any ops n j i = true := by
  intro n
  induction n with
  | zero => intro j h; omega
  | succ n ih =>
    intro j hj h
    obtain ⟨o, ho, e, he, hb, h1⟩ := before_spec ops j i h
    unfold dep
    simp only [ho]
    rw [Array.any_eq_true']
    refine ⟨e, he, ?_⟩
    rw [hb]
    rcases h1 with h1 | ⟨h1, h2⟩
    · simp [h1]
    · simp [ih e.on (by omega) h2]

theorem dep_before {ops : Array Oper} {i j : Nat} (h : ((Region.before ops).getD j 0).testBit i = true) : dep .any ops ops.size j i = true := by
  obtain ⟨o, ho, _⟩ := before_spec ops j i h
  exact dep_of_before ops i _ j (Array.getElem?_eq_some_iff.1 ho).1 h
end Go.Fr

-- FrDenB
namespace Go.Fr
open Go

-- ------------------------------------------------------------ one operation

/-- Is it wanted? 'ask v d want': if 'v', which is in 'd', is 'want'. -/
inductive Ask where
  | yes | no | bad
  | ask (v : Value) (d : Nat) (want : Bool)

def wantedIn (ops : Array Oper) (o : Oper) (e : Env) : Ask :=
  match o.guard with
  | none => .yes
  | some (j, want) =>
    match (ops[j]?).bind (·.dst) with
    | none => .no
    | some d =>
      match lookE e.t d with
      | .no => .bad
      | .lit b => if b == want then .yes else .no
      | .un => .no
      | .val v => .ask v d want

def guarded (ops : Array Oper) (o : Oper) (e : Env) (yes no : Env → SP) : SP :=
  match wantedIn ops o e with
  | .yes => yes e
  | .no => no e
  | .bad => .fail
  | .ask v d true => .ite v (yes (e.putE (some d) (.lit true))) (no (e.putE (some d) (.lit false)))
  | .ask v d false => .ite v (no (e.putE (some d) (.lit true))) (yes (e.putE (some d) (.lit false)))

/-- All operands are known. -/
def allKnown (e : Env) (o : Oper) : Bool := o.op.operands.toList.all e.knows

def isSelect : Op → Bool
  | .select .. => true
  | _ => false

/-- A copy: what it leaves, if that is known. -/
def copyOf (o : Oper) (e : Env) : Option Ent :=
  match o.op with
  | .move x | .assign x => some (e.ent x)
  | .pick c x y =>
    match e.ent c with
    | .lit b => some (e.ent (if b then x else y))
    | _ => none
  | .unOp .not _ x =>
    match e.ent x with
    | .lit b => some (.lit !b)
    | _ => none
  | _ => none

def Ent.known : Ent → Bool
  | .no => false
  | _ => true

/-- An operation, carried out. -/
def execN (o : Oper) (e : Env) (k : Env → SP) : SP :=
  match copyOf o e with
  | some x => if x.known then k (e.putE o.dst x) else .fail
  | none =>
    if !allKnown e o || isSelect o.op then .fail else
    match o.op with
    | .defer _ => .dfr (xop e.ev o) fun d => k { e.putE o.dst .un with ds := d :: e.ds }
    | _ => .op (xop e.ev o) fun v => k (e.put o.dst v)

/-- The same of a quiet one: the tree and what is to be watched. -/
def execQ (o : Oper) (e : Env) (k : Env → Option (Sem Next × Value) → SP) : SP :=
  match copyOf o e with
  | some x => if x.known then k (e.putE o.dst x) none else .fail
  | none => if !allKnown e o || isSelect o.op then .fail else .rd (xop e.ev o) fun v => k (e.put o.dst v) (some (xop e.ev o, v))

def quietOp : Op → Bool
  | .move _ | .assign _ | .pick .. | .load .. | .nilCheck _ | .binOp .. | .unOp .. | .convert .. | .sliceToArrayPointer .. | .makeInterface .. | .makeFunc ..
  | .slice .. | .fieldAddr .. | .field .. | .indexAddr .. | .index .. | .lookup .. | .typeAssert .. | .extract .. | .build .. => true
  | .call c => match c.callee with
    | .builtin b => match b with | .len | .cap | .min | .max => true | _ => false
    | _ => false
  | _ => false

def denOps (ops : Array Oper) (kn : Env → SP) : List Nat → Env → SP
  | [], e => kn e
  | i :: r, e =>
    match ops[i]? with
    | none => denOps ops kn r e
    | some o => guarded ops o e (fun e => execN o e (denOps ops kn r)) fun e => denOps ops kn r (e.putE o.dst .un)

def isDefer : Op → Bool
  | .defer _ => true
  | _ => false

/-- Number i may be taken ahead of whatever does not wait for it. -/
def apartOk (ops : Array Oper) (B : Array Nat) (listed : Array Bool) (i : Nat) (o : Oper) : Bool :=
  (List.range ops.size).all fun j => j == i || listed.getD j true || (B.getD j 0).testBit i ||
    match ops[j]? with | some oj => o.apart ops oj | none => true

/-- What is watched: number, operation, what it leaves. -/
abbrev Eye := Nat × Sem Next × Value

def behindE (B : Array Nat) (i : Nat) (W : List Eye) : List Eye := W.filter fun x => !(B.getD i 0).testBit x.1

def chks : List Eye → SP → SP
  | [], p => p
  | x :: r, p => .chk x.2.1 x.2.2 (chks r p)

def allOf : List Nat → (Nat → SP) → SP
  | [], _ => .fail
  | [i], f => f i
  | i :: r, f => .both (f i) (allOf r f)

def denD (ops : Array Oper) (B : Array Nat) (kn : Env → SP) : Nat → Array Bool → List Eye → Env → SP
  | 0, listed, _, e => if (Region.ready .any ops listed).isEmpty then kn e else .fail
  | m + 1, listed, W, e =>
    let rs := Region.ready .any ops listed
    match rs.find? fun i => (ops[i]?).any fun o => quietOp o.op with
    | some i =>
      match ops[i]? with
      | none => .fail
      | some o =>
        if apartOk ops B listed i o then
          guarded ops o e
            (fun e => execQ o e fun e x => denD ops B kn m (listed.setIfInBounds i true) (match x with | some (s, v) => (i, s, v) :: W | none => W) e)
            (fun e => denD ops B kn m (listed.setIfInBounds i true) W (e.putE o.dst .un))
        else .fail
    | none =>
      if rs.isEmpty then kn e else
      allOf rs fun i =>
        match ops[i]? with
        | none => .fail
        | some o =>
          guarded ops o e
            (fun e => if !allKnown e o || isSelect o.op || isDefer o.op then .fail else
              .op (xop e.ev o) fun v => chks (behindE B i W) (denD ops B kn m (listed.setIfInBounds i true) (behindE B i W) (e.put o.dst v)))
            (fun e => denD ops B kn m (listed.setIfInBounds i true) (behindE B i W) (e.putE o.dst .un))

def denReg (ops : Array Oper) (draw : Bool) (e : Env) (kn : Env → SP) : SP :=
  if draw then
    if Region.noSelect ops then .drew (denD ops (Region.before ops) kn ops.size (Array.replicate ops.size false) [] e) else .fail
  else denOps ops kn (List.range ops.size) e

-- ------------------------------------------------------------ .. is right

theorem EnvRel.same {e : Env} {a : Act} (h : EnvRel e a) {d : Nat} {x : Ent} {v : Value} (hd : look e.t d = some v) (hx : x.get = some v) : EnvRel (e.putE (some d) x) a := by
  refine ⟨by simpa [Env.putE] using h.size, fun j u hj => ?_, h.ds⟩
  simp only [Env.putE] at hj
  rw [look_set] at hj
  split at hj
  · rename_i hij
    obtain ⟨rfl, _⟩ := hij
    rw [hx] at hj
    cases hj
    exact h.at_ _ _ hd
  · exact h.at_ j u hj

/-- What a region writes. -/
def dstsOf (ops : Array Oper) : List Nat := ops.toList.filterMap (·.dst)

theorem mem_dsts {ops : Array Oper} {j d : Nat} (h : (ops[j]?).bind (·.dst) = some d) : d ∈ dstsOf ops := by
  cases ho : ops[j]? with
  | none => simp [ho] at h
  | some o =>
    simp only [ho, Option.bind_some] at h
    exact List.mem_filterMap.2 ⟨o, by simpa using Array.mem_of_getElem? ho, h⟩

/-- The two know the same outside some temporaries. -/
structure Agree (S : List Nat) (e e' : Env) : Prop where
  len : e'.t.length = e.t.length
  at_ : ∀ i, i ∉ S → look e'.t i = look e.t i

theorem Agree.refl (S : List Nat) (e : Env) : Agree S e e := ⟨rfl, fun _ _ => rfl⟩
theorem Agree.trans {S : List Nat} {e e' e'' : Env} (h : Agree S e e') (h' : Agree S e' e'') : Agree S e e'' :=
  ⟨h'.len.trans h.len, fun i hi => (h'.at_ i hi).trans (h.at_ i hi)⟩
theorem Agree.more {S S' : List Nat} {e e' : Env} (h : Agree S e e') (hs : ∀ i ∈ S, i ∈ S') : Agree S' e e' :=
  ⟨h.len, fun i hi => h.at_ i fun h' => hi (hs i h')⟩
theorem Agree.putE {S : List Nat} (e : Env) {d : Option Tmp} (x : Ent) (hd : ∀ i, d = some i → i ∈ S) : Agree S e (e.putE d x) := by
  cases d with
  | none => exact .refl _ _
  | some i =>
    refine ⟨by simp [Env.putE], fun j hj => ?_⟩
    simp only [Env.putE]
    rw [look_set, if_neg]
    rintro ⟨rfl, _⟩
    exact hj (hd i rfl)
theorem Agree.put {S : List Nat} (e : Env) {d : Option Tmp} (v : Value) (hd : ∀ i, d = some i → i ∈ S) : Agree S e (e.put d v) := .putE e _ hd
theorem Agree.put_ds {S : List Nat} {e e' : Env} (h : Agree S e e') (ds : List Deferred) : Agree S e { e' with ds := ds } := ⟨h.len, h.at_⟩

def boolOf : Value → Option Bool
  | .bool b => some b
  | _ => none

theorem yielded_some {ops : Array Oper} {a : Act} {j : Nat} {d : Nat} {v : Value} (hd : (ops[j]?).bind (·.dst) = some d) (hv : a.tmps[d]? = some v) :
    yielded ops a.tmps j = boolOf v := by
  unfold yielded
  rw [hd]
  simp only [Option.bind_some, hv]
  cases v <;> rfl

/-- Where the tree goes on as wanted or not, it is so. -/
theorem guarded_run {P : Program} {E : List PanicEntry → World → Prop} {ops : Array Oper} {o : Oper} {e : Env} {a : Act} (he : EnvRel e a) {yes no : Env → SP} {w : World}
    {R : Nat → List Value → World → Prop} (h : Run P E (guarded ops o e yes no) w R) :
    ∃ e', EnvRel e' a ∧ e'.ds = e.ds ∧ Agree (dstsOf ops) e e' ∧
      ((Region.wanted o (yielded ops a.tmps) = true ∧ Run P E (yes e') w R) ∨ (Region.wanted o (yielded ops a.tmps) = false ∧ Run P E (no e') w R)) := by
  unfold guarded wantedIn at h
  cases hg : o.guard with
  | none =>
    simp only [hg] at h
    exact ⟨e, he, rfl, .refl _ _, .inl ⟨by simp [Region.wanted, hg], h⟩⟩
  | some gw =>
    obtain ⟨j, want⟩ := gw
    simp only [hg] at h
    cases hd : (ops[j]?).bind (·.dst) with
    | none =>
      simp only [hd] at h
      exact ⟨e, he, rfl, .refl _ _, .inr ⟨by simp [Region.wanted, hg, yielded, hd], h⟩⟩
    | some d =>
      simp only [hd] at h
      have yl : ∀ v, look e.t d = some v → Region.wanted o (yielded ops a.tmps) = (boolOf v == some want) := by
        intro v hv
        simp only [Region.wanted, hg, yielded_some hd (he.at_ d v hv)]
      cases hv : lookE e.t d with
      | no => simp only [hv] at h; exact h.elim
      | lit b =>
        simp only [hv] at h
        have hw := yl (.bool b) (by unfold look; rw [hv]; rfl)
        by_cases hb : (b == want) = true
        · simp only [hb, if_true] at h
          exact ⟨e, he, rfl, .refl _ _, .inl ⟨by rw [hw]; simpa [boolOf] using hb, h⟩⟩
        · simp only [hb] at h
          exact ⟨e, he, rfl, .refl _ _, .inr ⟨by rw [hw]; simpa [boolOf] using hb, h⟩⟩
      | un =>
        simp only [hv] at h
        have hw := yl undef (by unfold look; rw [hv]; rfl)
        exact ⟨e, he, rfl, .refl _ _, .inr ⟨by rw [hw]; rfl, h⟩⟩
      | val v =>
        simp only [hv] at h
        have hl : look e.t d = some v := by unfold look; rw [hv]; rfl
        have hw := yl v hl
        have key : ∀ t, v = .bool t → EnvRel (e.putE (some d) (.lit t)) a ∧ Agree (dstsOf ops) e (e.putE (some d) (.lit t)) ∧ Region.wanted o (yielded ops a.tmps) = (some t == some want) := by
          intro t ht
          subst ht
          exact ⟨he.same hl rfl, .putE e _ fun i hi => by cases hi; exact mem_dsts hd, hw⟩
        cases want with
        | true =>
          obtain ⟨t, ht, h1, h2⟩ := h
          obtain ⟨k1, k2, k3⟩ := key t ht
          cases t with
          | true => exact ⟨_, k1, rfl, k2, .inl ⟨by simpa using k3, h1 rfl⟩⟩
          | false => exact ⟨_, k1, rfl, k2, .inr ⟨by simpa using k3, h2 rfl⟩⟩
        | false =>
          obtain ⟨t, ht, h1, h2⟩ := h
          obtain ⟨k1, k2, k3⟩ := key t ht
          cases t with
          | true => exact ⟨_, k1, rfl, k2, .inr ⟨by simpa using k3, h1 rfl⟩⟩
          | false => exact ⟨_, k1, rfl, k2, .inl ⟨by simpa using k3, h2 rfl⟩⟩

theorem noSelect_of {o : Oper} (h : isSelect o.op = false) : ∀ cs b, o.op ≠ .select cs b := by
  intro cs b hb
  rw [hb] at h
  cases h

theorem ev_func (e : Env) (f : FuncId) : e.ev (.func f) = .func (.func f) #[] #[] := rfl

/-- What the machine carries out is what the tree bears. -/
theorem execOp_env {o : Oper} {e : Env} {a : Act} (he : EnvRel e a) (hk : allKnown e o = true) (hs : isSelect o.op = false) : execOp a.eval o = xop e.ev o := by
  rw [xop_eq _ (ev_func e)]
  refine execOp_congr o (noSelect_of hs) fun x hx => he.ev ?_
  unfold allKnown at hk
  rw [List.all_eq_true] at hk
  exact hk x (by simpa using hx)

theorem Ent.get_of {x : Ent} (h : x.known = true) : ∃ v, x.get = some v := by
  cases x <;> first | exact ⟨_, rfl⟩ | cases h

/-- A copy. -/
theorem copyOf_run {P : Program} {o : Oper} {e : Env} {a : Act} {x : Ent} {v : Value} (he : EnvRel e a) (h : copyOf o e = some x) (hv : x.get = some v) (w : World) :
    (execOp a.eval o).run P w = .ok (.value v) w := by
  have vl : ∀ y, e.ent y = x → a.eval y = v := fun y hy => he.val (by unfold Env.val; rw [hy]; exact hv)
  unfold copyOf at h
  cases hop : o.op <;> simp only [hop] at h <;> try cases h
  case move y => simp only [execOp, hop, vl y rfl]; rfl
  case assign y => simp only [execOp, hop, vl y rfl]; rfl
  case pick c y z =>
    split at h
    · rename_i b hb
      simp only [Option.some.injEq] at h
      have hc : a.eval c = .bool b := he.val (by unfold Env.val; rw [hb]; rfl)
      simp only [execOp, hop, hc]
      cases b
      · simp only [Bool.false_eq_true, if_false] at h; rw [vl z h]; rfl
      · simp only [if_true] at h; rw [vl y h]; rfl
    · cases h
  case unOp op t y =>
    cases op <;> simp only at h <;> try cases h
    split at h
    · rename_i b hb
      simp only [Option.some.injEq] at h
      subst h
      cases hv
      have hc : a.eval y = .bool b := he.val (by unfold Env.val; rw [hb]; rfl)
      simp only [execOp, hop, hc]
      rfl
    · cases h

/-- A result that serves the tree serves the operation. -/
theorem upon_of {P : Program} {o : Oper} {a : Act} {next : Act → World → Prop} {Q : Exit → Act → World → Prop} {K : Value → World → Prop} {E : List PanicEntry → World → Prop}
    {r : Result Next} (h : UponS P K E r) (hk : ∀ v w, K v w → next (a.put o.dst v) w) (hE : ∀ c w, E c w → Q (.panic c) a w) : o.upon P a next Q r := by
  cases r with
  | ok n w =>
    cases n <;> simp only [UponS, Oper.upon] at h ⊢
    case value v => exact hk _ _ h
    case skip => exact hk _ _ h
    case enter f args => exact Calls.mono h fun e w' h' => by cases e <;> first | exact hk _ _ h' | exact hE _ _ h' | exact h'.elim
    case row row args => exact Rows.mono h fun v w' h' => hk _ _ h'
  | halt x w => cases x <;> simp only [UponS, Oper.upon] at h ⊢; exact hE _ _ h
end Go.Fr

-- FrDenC
namespace Go.Fr
open Go

def noDefOps (ops : Array Oper) : Bool := ops.toList.all fun o => !isDefer o.op

theorem noDef_of {ops : Array Oper} {i : Nat} {o : Oper} (h : noDefOps ops = true) (ho : ops[i]? = some o) : isDefer o.op = false := by
  unfold noDefOps at h
  rw [List.all_eq_true] at h
  have := h o (by simpa using Array.mem_of_getElem? ho)
  simpa using this

theorem dst_mem {ops : Array Oper} {i : Nat} {o : Oper} (ho : ops[i]? = some o) : ∀ d, o.dst = some d → d ∈ dstsOf ops :=
  fun d hd => mem_dsts (j := i) (by simp [ho, hd])

theorem ds_putE (e : Env) (d : Option Tmp) (x : Ent) : (e.putE d x).ds = e.ds := by cases d <;> rfl

theorem execN_run {P : Program} {E : List PanicEntry → World → Prop} {ops : Array Oper} {Q : Exit → Act → World → Prop} {i : Nat} {o : Oper} {e : Env} {a : Act} {w : World}
    {R : Nat → List Value → World → Prop} {k : Env → SP} {K : Act → World → Prop} (he : EnvRel e a) (ho : ops[i]? = some o)
    (h : Run P E (execN o e k) w R)
    (hk : ∀ e' a' w', EnvRel e' a' → Agree (dstsOf ops) e e' → (isDefer o.op = false → e'.ds = e.ds) → Run P E (k e') w' R → K a' w')
    (hE : ∀ c w', E c w' → Q (.panic c) a w') : o.wp P a w K Q := by
  have hput : ∀ x, Agree (dstsOf ops) e (e.putE o.dst x) := fun x => .putE e x (dst_mem ho)
  unfold execN at h
  cases hc : copyOf o e with
  | some x =>
    simp only [hc] at h
    by_cases hx : x.known = true
    · simp only [hx, if_true] at h
      obtain ⟨v, hv⟩ := Ent.get_of hx
      unfold Oper.wp
      rw [copyOf_run he hc hv w]
      exact hk _ _ _ (he.putE _ hv) (hput x) (fun _ => ds_putE _ _ _) h
    · simp only [hx] at h; exact h.elim
  | none =>
    simp only [hc] at h
    by_cases hg : (!allKnown e o || isSelect o.op) = true
    · simp only [hg, if_true] at h; exact h.elim
    · simp only [hg] at h
      simp only [Bool.or_eq_true, Bool.not_eq_true', not_or, Bool.not_eq_true, Bool.not_eq_false] at hg
      obtain ⟨hkn, hsel⟩ := hg
      have hx := execOp_env he hkn hsel
      unfold Oper.wp
      rw [hx]
      have gen : Run P E (.op (xop e.ev o) fun v => k (e.put o.dst v)) w R → o.upon P a K Q ((xop e.ev o).run P w) := fun h =>
        upon_of h (fun v w' h' => hk _ _ _ (he.put _ _) (hput (.val v)) (fun _ => ds_putE _ _ _) h') hE
      cases hop : o.op
      case defer c =>
        simp only [hop] at h
        obtain ⟨d, hd, h'⟩ := h
        rw [hd]
        show K _ _
        refine hk _ _ _ ?_ ((hput .un).put_ds (d :: e.ds)) (fun hf => by rw [hop] at hf; cases hf) h'
        have h1 := he.putE o.dst (x := .un) (v := undef) rfl
        exact ⟨by have := h1.size; cases ho' : o.dst <;> simpa [Env.putE, Act.put, ho'] using this,
          fun j u hj => by
            have := h1.at_ j u hj
            cases ho' : o.dst <;> simpa [Act.put, ho'] using this,
          by cases ho' : o.dst <;> simp [Act.put, he.ds]⟩
      all_goals (simp only [hop] at h; exact gen h)

theorem denOps_sound {P : Program} {E : List PanicEntry → World → Prop} {ops : Array Oper} {Q : Exit → Act → World → Prop} {e0 : Env} {kn : Env → SP}
    {R : Nat → List Value → World → Prop}
    (hn : ∀ e' a' w', EnvRel e' a' → Agree (dstsOf ops) e0 e' → (noDefOps ops = true → e'.ds = e0.ds) → Run P E (kn e') w' R → Q .normal a' w')
    (hp : ∀ ch a' w', (noDefOps ops = true → a'.defers = e0.ds) → E ch w' → Q (.panic ch) a' w') :
    ∀ (l : List Nat) (e : Env) (a : Act) (w : World), EnvRel e a → Agree (dstsOf ops) e0 e → (noDefOps ops = true → e.ds = e0.ds) →
      Run P E (denOps ops kn l e) w R → wpOps P ops Q l a w := by
  intro l
  induction l with
  | nil => intro e a w he hag hds h; exact hn e a w he hag hds h
  | cons i r ih =>
    intro e a w he hag hds h
    rw [wpOps_cons]
    unfold denOps at h
    unfold wpOp
    cases ho : ops[i]? with
    | none => simp only [ho] at h; exact ih e a w he hag hds h
    | some o =>
      simp only [ho] at h
      obtain ⟨e1, he1, hds1, hag1, h1⟩ := guarded_run he h
      rcases h1 with ⟨hw, h1⟩ | ⟨hw, h1⟩
      · simp only [hw, if_true]
        refine .inl (execN_run he1 ho h1 (fun e' a' w' he' hag' hds' h' => ih e' a' w' he' (hag.trans (hag1.trans hag')) (fun hnd => ?_) h') fun c w' hc => hp _ _ _ (fun hnd => ?_) hc)
        · rw [hds' (noDef_of hnd ho), hds1, hds hnd]
        · rw [he1.ds, hds1, hds hnd]
      · simp only [hw, Bool.false_eq_true, if_false]
        refine ih _ _ w (he1.putE _ rfl) (hag.trans (hag1.trans (.putE e1 _ (dst_mem ho)))) (fun hnd => ?_) h1
        rw [ds_putE, hds1, hds hnd]

-- ------------------------------------------------------------ a region whose order is open

def eyeHolds (P : Program) (x : Eye) (w : World) : Prop := x.2.1.run P w = .ok (.value x.2.2) w

theorem chks_run {P : Program} {E : List PanicEntry → World → Prop} {R : Nat → List Value → World → Prop} {w : World} : ∀ (W : List Eye) (p : SP), Run P E (chks W p) w R →
    (∀ x ∈ W, eyeHolds P x w) ∧ Run P E p w R := by
  intro W
  induction W with
  | nil => intro p h; exact ⟨by simp, h⟩
  | cons x r ih =>
    intro p h
    obtain ⟨h1, h2⟩ := h
    obtain ⟨h3, h4⟩ := ih p h2
    refine ⟨fun y hy => ?_, h4⟩
    rcases List.mem_cons.1 hy with rfl | hy
    · exact h1
    · exact h3 y hy

theorem allOf_run {P : Program} {E : List PanicEntry → World → Prop} {R : Nat → List Value → World → Prop} {w : World} {f : Nat → SP} : ∀ (l : List Nat), Run P E (allOf l f) w R →
    ∀ i ∈ l, Run P E (f i) w R := by
  intro l
  induction l with
  | nil => intro h; exact h.elim
  | cons j r ih =>
    intro h i hi
    cases r with
    | nil => simp only [List.mem_singleton] at hi; subst hi; exact h
    | cons j' r' =>
      obtain ⟨h1, h2⟩ := h
      rcases List.mem_cons.1 hi with rfl | hi
      · exact h1
      · exact ih h2 i hi

/-- What is watched by the one is watched by the other, or holds in every world. -/
def Covers (P : Program) (W : List Eye) (L : List Watch) : Prop :=
  ∀ x ∈ L, (∀ w, x.holds w) ∨ ∃ y ∈ W, x.on = y.1 ∧ ∀ w, eyeHolds P y w → x.holds w

theorem Covers.behind {P : Program} {ops : Array Oper} {W : List Eye} {L : List Watch} (h : Covers P W L) (i : Nat) :
    Covers P (behindE (Region.before ops) i W) (Watch.behind .any ops i L) := by
  intro x hx
  unfold Watch.behind at hx
  obtain ⟨hx, hd⟩ := List.mem_filter.1 hx
  rcases h x hx with h' | ⟨y, hy, he, h'⟩
  · exact .inl h'
  · refine .inr ⟨y, ?_, he, h'⟩
    unfold behindE
    refine List.mem_filter.2 ⟨hy, ?_⟩
    cases hb : ((Region.before ops).getD i 0).testBit y.1 with
    | false => rfl
    | true =>
      rw [← he] at hb
      rw [dep_before hb] at hd
      cases hd

theorem Covers.holds {P : Program} {W : List Eye} {L : List Watch} (h : Covers P W L) {w : World} (hw : ∀ x ∈ W, eyeHolds P x w) : ∀ x ∈ L, x.holds w := by
  intro x hx
  rcases h x hx with h' | ⟨y, hy, _, h'⟩
  · exact h' w
  · exact h' w (hw y hy)

theorem apartOk_spec {ops : Array Oper} {listed : Array Bool} {i : Nat} {o : Oper} (h : apartOk ops (Region.before ops) listed i o = true) :
    ∀ j oj, ops[j]? = some oj → j ≠ i → listed.getD j true = false → dep .any ops ops.size j i = false → o.apart ops oj = true := by
  intro j oj hj hne hun hd
  unfold apartOk at h
  rw [List.all_eq_true] at h
  have := h j (List.mem_range.2 (Array.getElem?_eq_some_iff.1 hj).1)
  have hb : ((Region.before ops).getD j 0).testBit i = false := by
    cases hb : ((Region.before ops).getD j 0).testBit i with
    | false => rfl
    | true => rw [dep_before hb] at hd; cases hd
  simp only [hj, hun, hb, Bool.or_false, Bool.or_eq_true, beq_iff_eq, hne, false_or] at this
  exact this

theorem denD_sound {P : Program} {E : List PanicEntry → World → Prop} {ops : Array Oper} {Q : Exit → Act → World → Prop} {e0 : Env} {kn : Env → SP}
    {R : Nat → List Value → World → Prop} (hsel : Region.noSelect ops = true)
    (hn : ∀ e' a' w', EnvRel e' a' → Agree (dstsOf ops) e0 e' → e'.ds = e0.ds → Run P E (kn e') w' R → Q .normal a' w')
    (hp : ∀ ch a' w', Q (.panic ch) a' w' ↔ (a'.defers = e0.ds ∧ E ch w')) :
    ∀ (m : Nat) (listed : Array Bool) (W : List Eye) (L : List Watch) (e : Env) (a : Act) (w : World), EnvRel e a → Agree (dstsOf ops) e0 e → e.ds = e0.ds →
      Closed .any ops listed → Covers P W L → (∀ x ∈ W, eyeHolds P x w) →
      Run P E (denD ops (Region.before ops) kn m listed W e) w R → wpD P .any ops Q m L listed a w := by
  have hQ : ∀ (d : Option Tmp) (v : Value) c (a : Act) w, Q (.panic c) (a.put d v) w → Q (.panic c) a w := by
    intro d v c a w h
    rw [hp] at h ⊢
    exact ⟨by cases d <;> exact h.1, h.2⟩
  intro m
  induction m with
  | zero =>
    intro listed W L e a w he hag hds _ _ _ h
    unfold denD at h
    by_cases hr : (Region.ready .any ops listed).isEmpty = true
    · simp only [hr, if_true] at h
      exact ⟨List.isEmpty_iff.1 hr, hn e a w he hag hds h⟩
    · simp only [hr] at h; exact h.elim
  | succ m ih =>
    intro listed W L e a w he hag hds hcl hcov hW h
    unfold denD at h
    simp only at h
    cases hf : (Region.ready .any ops listed).find? (fun i => (ops[i]?).any fun o => quietOp o.op) with
    | some i =>
      simp only [hf] at h
      have hi : i ∈ Region.ready .any ops listed := List.mem_of_find?_eq_some hf
      cases ho : ops[i]? with
      | none => simp only [ho] at h; exact h.elim
      | some o =>
        simp only [ho] at h
        by_cases hap : apartOk ops (Region.before ops) listed i o = true
        · simp only [hap, if_true] at h
          have hfree := apartOk_spec hap
          obtain ⟨e1, he1, hds1, hag1, h1⟩ := guarded_run he h
          have hL : ∀ x ∈ L, x.holds w := hcov.holds hW
          rcases h1 with ⟨hw, h1⟩ | ⟨hw, h1⟩
          · unfold execQ at h1
            cases hc : copyOf o e1 with
            | some x =>
              simp only [hc] at h1
              by_cases hkx : x.known = true
              · simp only [hkx, if_true] at h1
                obtain ⟨v, hv⟩ := Ent.get_of hkx
                refine wpD_first (C := fun _ => True) (v := v) ho (Region.noSelect_spec hsel) (hQ _ _) m L listed a w hcl hfree hi (.inl ⟨hw, fun w' _ => copyOf_run he1 hc hv w'⟩) trivial hL ?_
                refine ih _ _ _ _ _ _ (he1.putE _ hv) (hag.trans (hag1.trans (.putE e1 _ (dst_mem ho)))) (by rw [ds_putE, hds1, hds]) (hcl.set hi) ?_ hW h1
                intro x hx
                rcases List.mem_cons.1 hx with rfl | hx
                · exact .inl fun _ => trivial
                · exact hcov x hx
              · simp only [hkx] at h1; exact h1.elim
            | none =>
              simp only [hc] at h1
              by_cases hg : (!allKnown e1 o || isSelect o.op) = true
              · simp only [hg, if_true] at h1; exact h1.elim
              · simp only [hg] at h1
                simp only [Bool.or_eq_true, Bool.not_eq_true', not_or, Bool.not_eq_true, Bool.not_eq_false] at hg
                obtain ⟨v, hv, h2⟩ := h1
                have hx := execOp_env he1 hg.1 hg.2
                refine wpD_first (C := fun w' => eyeHolds P (i, xop e1.ev o, v) w') (v := v) ho (Region.noSelect_spec hsel) (hQ _ _) m L listed a w hcl hfree hi (.inl ⟨hw, fun w' hw' => by rw [hx]; exact hw'⟩) hv hL ?_
                refine ih _ _ _ _ _ _ (he1.putE _ rfl) (hag.trans (hag1.trans (.putE e1 _ (dst_mem ho)))) (by rw [ds_putE, hds1, hds]) (hcl.set hi) ?_ ?_ h2
                · intro x hx
                  rcases List.mem_cons.1 hx with rfl | hx
                  · exact .inr ⟨_, List.mem_cons_self, rfl, fun _ h => h⟩
                  · rcases hcov x hx with h' | ⟨y, hy, h'⟩
                    · exact .inl h'
                    · exact .inr ⟨y, List.mem_cons_of_mem _ hy, h'⟩
                · intro x hx
                  rcases List.mem_cons.1 hx with rfl | hx
                  · exact hv
                  · exact hW x hx
          · refine wpD_first (C := fun _ => True) (v := undef) ho (Region.noSelect_spec hsel) (hQ _ _) m L listed a w hcl hfree hi (.inr ⟨hw, rfl⟩) trivial hL ?_
            refine ih _ _ _ _ _ _ (he1.putE _ rfl) (hag.trans (hag1.trans (.putE e1 _ (dst_mem ho)))) (by rw [ds_putE, hds1, hds]) (hcl.set hi) ?_ hW h1
            intro x hx
            rcases List.mem_cons.1 hx with rfl | hx
            · exact .inl fun _ => trivial
            · exact hcov x hx
        · simp only [hap] at h; exact h.elim
    | none =>
      simp only [hf] at h
      by_cases hr : (Region.ready .any ops listed).isEmpty = true
      · simp only [hr, if_true] at h
        have hnil := List.isEmpty_iff.1 hr
        exact ⟨fun _ => hn e a w he hag hds h, fun i hi => by rw [hnil] at hi; cases hi⟩
      · simp only [hr] at h
        refine ⟨fun hnil => by rw [hnil] at hr; exact absurd rfl hr, fun i hi => ?_⟩
        have h1 := allOf_run _ h i hi
        unfold wpOp
        cases ho : ops[i]? with
        | none => simp only [ho] at h1; exact h1.elim
        | some o =>
          simp only [ho] at h1 ⊢
          obtain ⟨e1, he1, hds1, hag1, h2⟩ := guarded_run he h1
          rcases h2 with ⟨hw, h2⟩ | ⟨hw, h2⟩
          · simp only [hw, if_true]
            by_cases hg : (!allKnown e1 o || isSelect o.op || isDefer o.op) = true
            · simp only [hg, if_true] at h2; exact h2.elim
            · simp only [hg] at h2
              simp only [Bool.or_eq_true, Bool.not_eq_true', not_or, Bool.not_eq_true, Bool.not_eq_false] at hg
              have hx := execOp_env he1 hg.1.1 hg.1.2
              refine .inl ?_
              unfold Oper.wp
              rw [hx]
              refine upon_of h2 (fun v w' h3 => ?_) fun c w' hc => (hp _ _ _).2 ⟨by rw [he1.ds, hds1, hds], hc⟩
              obtain ⟨h4, h5⟩ := chks_run _ _ h3
              exact ⟨(hcov.behind i).holds h4, ih _ _ _ _ _ _ (he1.putE _ rfl) (hag.trans (hag1.trans (.putE e1 _ (dst_mem ho)))) (by rw [ds_putE, hds1, hds]) (hcl.set hi) (hcov.behind i) h4 h5⟩
          · simp only [hw, Bool.false_eq_true, if_false]
            have h4 : ∀ x ∈ behindE (Region.before ops) i W, eyeHolds P x w := fun x hx => hW x (List.mem_filter.1 hx).1
            exact ⟨(hcov.behind i).holds h4, ih _ _ _ _ _ _ (he1.putE _ rfl) (hag.trans (hag1.trans (.putE e1 _ (dst_mem ho)))) (by rw [ds_putE, hds1, hds]) (hcl.set hi) (hcov.behind i) h4 h2⟩

theorem denReg_sound {P : Program} (hm : P.follows .mixedOrders = true) {E : List PanicEntry → World → Prop} {id : Nat} {ops : Array Oper} {draw : Bool} {Q : Exit → Act → World → Prop} {e : Env} {a : Act} {w : World}
    {kn : Env → SP} {R : Nat → List Value → World → Prop} (he : EnvRel e a)
    (hn : ∀ e' a' w', EnvRel e' a' → Agree (dstsOf ops) e e' → (noDefOps ops = true → e'.ds = e.ds) → Run P E (kn e') w' R → Q .normal a' w')
    (hp : ∀ ch a' w', (noDefOps ops = true → a'.defers = e.ds) → E ch w' → Q (.panic ch) a' w')
    (h : Run P E (denReg ops draw e kn) w R) : (Code.region id ops draw).wp P Q a w := by
  unfold denReg at h
  cases draw with
  | false =>
    simp only [Bool.false_eq_true, if_false] at h
    exact wp_region (denOps_sound hn hp _ e a w he (.refl _ _) (fun _ => rfl) h)
  | true =>
    simp only [if_true] at h
    by_cases hsel : Region.noSelect ops = true
    · simp only [hsel, if_true] at h
      let Q' : Exit → Act → World → Prop := fun x a' w' =>
        match x with
        | .normal => ∃ e', EnvRel e' a' ∧ Agree (dstsOf ops) e e' ∧ e'.ds = e.ds ∧ Run P E (kn e') w' R
        | .panic ch => a'.defers = e.ds ∧ E ch w'
        | _ => False
      have hw : (Code.region id ops true).wp P Q' a w :=
        wp_region_first hm (denD_sound (Q := Q') hsel (fun e' a' w' h1 h2 h3 h4 => ⟨e', h1, h2, h3, h4⟩) (fun ch a' w' => Iff.rfl) ops.size _ [] [] e a _ he (.refl _ _) rfl
          Closed.none (by intro x hx; cases hx) (by intro x hx; cases hx) h)
      refine wp_mono hw fun x a' w' hx => ?_
      cases x with
      | normal => obtain ⟨e', h1, h2, h3, h4⟩ := hx; exact hn e' a' w' h1 h2 (fun _ => h3) h4
      | panic ch => exact hp ch a' w' (fun _ => hx.1) hx.2
      | _ => exact hx.elim
    · simp only [hsel] at h; exact h.elim
end Go.Fr

-- FrDenD
namespace Go.Fr
open Go

/-- Which temporaries live on behind a piece of code: by the piece's number, by how it was left (0: at its end; 2 + n: exit n). -/
abbrev Ann := List (Nat × List (Nat × List Nat))

/-- What is said of number p, if all of it is written there. -/
def Ann.of (A : Ann) (S : List Nat) (p : Nat) : Option (List (Nat × List Nat)) :=
  match A.find? (·.1 == p) with
  | none => none
  | some x => if x.2.all fun y => y.2.all fun i => S.contains i then some x.2 else none
def slotsOf (l : List (Nat × List Nat)) (t : Nat) : List Nat := ((l.find? (·.1 == t)).map (·.2)).getD []

def getL (e : Env) : List Nat → Option (List Value)
  | [] => some []
  | i :: r =>
    match look e.t i, getL e r with
    | some v, some vs => some (v :: vs)
    | _, _ => none

def eraseL (l : List Ent) : List Nat → List Ent
  | [] => l
  | i :: r => eraseL (l.set i .no) r

def setL (l : List Ent) : List Nat → List Value → List Ent
  | [], _ => l
  | i :: r, vs => setL (l.set i (.val (vs.headD undef))) r vs.tail

/-- What is known behind a piece of code that writes 'S', of which 'L' was handed on. -/
def Env.back (e : Env) (S L : List Nat) (vs : List Value) : Env := { e with t := setL (eraseL e.t S) L vs }

def asg : Code → List Nat
  | .region _ ops _ => dstsOf ops
  | .seq a b => asg a ++ asg b
  | .cond _ a b => asg a ++ asg b
  | .block _ c | .loop c | .scope c => asg c
  | _ => []

def noDef : Code → Bool
  | .region _ ops _ => noDefOps ops
  | .seq a b => noDef a && noDef b
  | .cond _ a b => noDef a && noDef b
  | .block _ c | .loop c | .scope c => noDef c
  | _ => true

/-- Handing on: what lives, if all of it is known. -/
def hand (e : Env) (t : Nat) (L : List Nat) : SP :=
  match getL e L with
  | some vs => .done t vs
  | none => .fail

def retK (rs : List Nat) (e : Env) (kr : List Value → List Deferred → SP) : SP :=
  match getL e rs with
  | some vs => kr vs e.ds
  | none => .fail

/-- Behind a piece that was handed on: by how it was left. -/
def join (e : Env) (S : List Nat) (kn : Env → SP) (ke : Nat → Env → SP) (kr : List Value → List Deferred → SP) : List (Nat × List Nat) → Nat → List Value → SP
  | [], _, _ => .fail
  | (g, L) :: r, t, vs =>
    if t = g then
      match g with
      | 0 => kn (e.back S L vs)
      | 1 => kr vs e.ds
      | n + 2 => ke n (e.back S L vs)
    else join e S kn ke kr r t vs

def handN (l : List (Nat × List Nat)) (e : Env) : SP := hand e 0 (slotsOf l 0)
def handE (l : List (Nat × List Nat)) (id : Nat) (e : Env) : SP := hand e (2 + id) (slotsOf l (2 + id))
def handR (vs : List Value) (_ : List Deferred) : SP := .done 1 vs

/-- Jumps to labels are exits from here on. -/
def gb : Nat := 1000

def exitOf (n : Nat) : Exit := if n < gb then .exit n else .goto (n - gb)

def hasLabel : Code → Nat → Bool
  | .seq a b, l => hasLabel a l || hasLabel b l
  | .label l', l => l' == l
  | _, _ => false

/-- Is it a jump into a piece? -/
def intoIt (c : Code) (id : Nat) : Bool := Nat.ble gb id && hasLabel c (id - gb)

/-- The tree of a piece of code, from its beginning (0) or from a label on. -/
def den (rs : List Nat) (A : Ann) : Code → Nat → Nat → Env → (Env → SP) → (Nat → Env → SP) → (List Value → List Deferred → SP) → SP
  | .skip, _, _, e, kn, _, _ => kn e
  | .label _, _, _, e, kn, _, _ => kn e
  | .region _ ops draw, _, p, e, kn, ke, kr =>
    if noDefOps ops then
      match A.of (dstsOf ops) p with
      | none => denReg ops draw e kn
      | some l => .bind (denReg ops draw e (handN l)) (join e (dstsOf ops) kn ke kr l)
    else denReg ops draw e kn
  | .seq a b, fr, p, e, kn, ke, kr =>
    match fr with
    | 0 => den rs A a 0 (2 * p) e (fun e => den rs A b 0 (2 * p + 1) e kn ke kr) ke kr
    | l + 1 => if hasLabel a l then den rs A a (l + 1) (2 * p) e (fun e => den rs A b 0 (2 * p + 1) e kn ke kr) ke kr else den rs A b (l + 1) (2 * p + 1) e kn ke kr
  | .cond c a b, _, p, e, kn, ke, kr =>
    match e.ent c with
    | .no | .un => .fail
    | .lit true => den rs A a 0 (2 * p) e kn ke kr
    | .lit false => den rs A b 0 (2 * p + 1) e kn ke kr
    | .val v =>
      if noDef a && noDef b then
        match A.of (asg a ++ asg b) p with
        | none => .ite v (den rs A a 0 (2 * p) e kn ke kr) (den rs A b 0 (2 * p + 1) e kn ke kr)
        | some l =>
          .bind (.ite v (den rs A a 0 (2 * p) e (handN l) (handE l) handR) (den rs A b 0 (2 * p + 1) e (handN l) (handE l) handR))
            (join e (asg a ++ asg b) kn ke kr l)
      else .ite v (den rs A a 0 (2 * p) e kn ke kr) (den rs A b 0 (2 * p + 1) e kn ke kr)
  | .block id c, _, p, e, kn, ke, kr =>
    if id < gb then
      if noDef c then
        match A.of (asg c) p with
        | none => den rs A c 0 (2 * p) e kn (fun id' e => if id' = id then kn e else ke id' e) kr
        | some l =>
          .bind (den rs A c 0 (2 * p) e (handN l) (fun id' e' => if id' = id then handN l e' else handE l id' e') handR) (join e (asg c) kn ke kr l)
      else den rs A c 0 (2 * p) e kn (fun id' e => if id' = id then kn e else ke id' e) kr
    else .fail
  | .loop c, _, p, e, _, ke, kr =>
    if noDef c then
      match A.of (asg c) p with
      | none => .fail
      | some l =>
        match getL e (slotsOf l 0) with
        | none => .fail
        | some init =>
          .loop init (fun vs => den rs A c 0 (2 * p) (e.back (asg c) (slotsOf l 0) vs) (handN l) (handE l) handR) (join e (asg c) (fun _ => .fail) ke kr l)
    else .fail
  | .exit id, _, _, e, _, ke, _ => if id < gb then ke id e else .fail
  | .scope c, _, p, e, kn, ke, kr =>
    den rs A c 0 (2 * p) e kn (fun id e' => if intoIt c id then den rs A c (id - gb + 1) (2 * p) e' kn (fun id e => if intoIt c id then .fail else ke id e) kr else ke id e') kr
  | .ret, _, _, e, _, _, kr => retK rs e kr
  | .goto l, _, _, e, _, ke, _ => ke (gb + l) e
  | .rangeFunc .., _, _, _, _, _, _ => .fail
  | .refuse _, _, _, _, _, _, _ => .fail

-- ------------------------------------------------------------ is right

theorem length_eraseL : ∀ (S : List Nat) (l : List Ent), (eraseL l S).length = l.length := by
  intro S
  induction S with
  | nil => intro l; rfl
  | cons i r ih => intro l; simp [eraseL, ih]

theorem length_setL : ∀ (L : List Nat) (vs : List Value) (l : List Ent), (setL l L vs).length = l.length := by
  intro L
  induction L with
  | nil => intro vs l; rfl
  | cons i r ih => intro vs l; simp [setL, ih]

theorem look_eraseL : ∀ (S : List Nat) (l : List Ent) (i : Nat) (v : Value), look (eraseL l S) i = some v → i ∉ S ∧ look l i = some v := by
  intro S
  induction S with
  | nil => intro l i v h; exact ⟨by simp, h⟩
  | cons j r ih =>
    intro l i v h
    obtain ⟨h1, h2⟩ := ih _ i v h
    rw [look_set] at h2
    split at h2
    · cases h2
    · rename_i hij
      refine ⟨?_, h2⟩
      simp only [List.mem_cons, not_or]
      refine ⟨fun he => ?_, h1⟩
      subst he
      apply hij
      refine ⟨rfl, ?_⟩
      rcases Nat.lt_or_ge i l.length with h' | h'
      · exact h'
      · rw [look_out h'] at h2; cases h2

theorem look_setL {e' : Env} : ∀ (L : List Nat) (vs : List Value) (l : List Ent) (i : Nat) (v : Value), getL e' L = some vs → look (setL l L vs) i = some v →
    look e'.t i = some v ∨ look l i = some v := by
  intro L
  induction L with
  | nil => intro vs l i v _ h; exact .inr h
  | cons j r ih =>
    intro vs l i v hg h
    unfold getL at hg
    split at hg
    · rename_i u us hu hus
      simp only [Option.some.injEq] at hg
      subst hg
      simp only [setL, List.headD_cons, List.tail_cons] at h
      rcases ih us _ i v hus h with h1 | h1
      · exact .inl h1
      · rw [look_set] at h1
        split at h1
        · rename_i hij
          obtain ⟨rfl, _⟩ := hij
          cases h1
          exact .inl hu
        · exact .inr h1
    · cases hg

/-- What is known behind a piece is so. -/
theorem EnvRel.back {e e' : Env} {a' : Act} {S L : List Nat} {vs : List Value} (h : EnvRel e' a') (hag : Agree S e e') (hds : e'.ds = e.ds) (hg : getL e' L = some vs) :
    EnvRel (e.back S L vs) a' := by
  refine ⟨?_, fun i v hi => ?_, h.ds.trans hds⟩
  · simp only [Env.back, length_setL, length_eraseL, ← hag.len]; exact h.size
  · simp only [Env.back] at hi
    rcases look_setL L vs _ i v hg hi with h1 | h1
    · exact h.at_ i v h1
    · obtain ⟨hn, h2⟩ := look_eraseL S e.t i v h1
      rw [← hag.at_ i hn] at h2
      exact h.at_ i v h2

theorem look_eraseL_out : ∀ (S : List Nat) (l : List Ent) (i : Nat), i ∉ S → look (eraseL l S) i = look l i := by
  intro S
  induction S with
  | nil => intro l i _; rfl
  | cons j r ih =>
    intro l i h
    simp only [List.mem_cons, not_or] at h
    simp only [eraseL]
    rw [ih _ i h.2, look_set, if_neg]
    rintro ⟨rfl, _⟩
    exact h.1 rfl

theorem look_setL_out : ∀ (L : List Nat) (vs : List Value) (l : List Ent) (i : Nat), i ∉ L → look (setL l L vs) i = look l i := by
  intro L
  induction L with
  | nil => intro vs l i _; rfl
  | cons j r ih =>
    intro vs l i h
    simp only [List.mem_cons, not_or] at h
    simp only [setL]
    rw [ih _ _ i h.2, look_set, if_neg]
    rintro ⟨rfl, _⟩
    exact h.1 rfl

theorem Agree.back {e : Env} {S L : List Nat} {vs : List Value} (hL : ∀ i ∈ L, i ∈ S) : Agree S e (e.back S L vs) := by
  refine ⟨by simp [Env.back, length_setL, length_eraseL], fun i hi => ?_⟩
  simp only [Env.back]
  rw [look_setL_out _ _ _ _ (fun h => hi (hL i h)), look_eraseL_out _ _ _ hi]

theorem Ann.of_mem {A : Ann} {S : List Nat} {p : Nat} {l : List (Nat × List Nat)} (h : A.of S p = some l) (t : Nat) : ∀ i ∈ slotsOf l t, i ∈ S := by
  unfold Ann.of at h
  split at h
  · cases h
  · rename_i x _
    split at h
    · rename_i hx
      cases h
      intro i hi
      unfold slotsOf at hi
      cases hf : x.2.find? (·.1 == t) with
      | none => simp [hf] at hi
      | some y =>
        simp only [hf, Option.map_some, Option.getD_some] at hi
        rw [List.all_eq_true] at hx
        have h1 := hx y (List.mem_of_find?_eq_some hf)
        rw [List.all_eq_true] at h1
        exact by simpa using h1 i hi
    · cases h

/-- What is asked of the continuations. -/
structure Good (P : Program) (E : List PanicEntry → World → Prop) (R : Nat → List Value → World → Prop) (rs : List Nat) (c : Code) (e : Env)
    (kn : Env → SP) (ke : Nat → Env → SP) (kr : List Value → List Deferred → SP) (Q : Exit → Act → World → Prop) : Prop where
  n : ∀ e' a' w', EnvRel e' a' → Agree (asg c) e e' → (noDef c = true → e'.ds = e.ds) → Run P E (kn e') w' R → Q .normal a' w'
  x : ∀ id e' a' w', EnvRel e' a' → Agree (asg c) e e' → (noDef c = true → e'.ds = e.ds) → Run P E (ke id e') w' R → Q (exitOf id) a' w'
  r : ∀ vs e' a' w', EnvRel e' a' → (noDef c = true → e'.ds = e.ds) → getL e' rs = some vs → Run P E (kr vs e'.ds) w' R → Q .ret a' w'
  p : ∀ ch a' w', (noDef c = true → a'.defers = e.ds) → E ch w' → Q (.panic ch) a' w'

theorem hand_run {P : Program} {E : List PanicEntry → World → Prop} {R : Nat → List Value → World → Prop} {e : Env} {t : Nat} {L : List Nat} {w : World}
    (h : Run P E (hand e t L) w R) : ∃ vs, getL e L = some vs ∧ R t vs w := by
  unfold hand at h
  split at h
  · rename_i vs hvs; exact ⟨vs, hvs, h⟩
  · exact h.elim

theorem slotsOf_cons (g : Nat) (L : List Nat) (r : List (Nat × List Nat)) (t : Nat) : slotsOf ((g, L) :: r) t = if g = t then L else slotsOf r t := by
  unfold slotsOf
  rw [List.find?_cons]
  by_cases h : g = t
  · simp [h]
  · have : ((g, L).1 == t) = false := by simpa using h
    simp only [this, h, if_false]

/-- What the join goes on with. -/
theorem join_run {P : Program} {E : List PanicEntry → World → Prop} {R : Nat → List Value → World → Prop} {e : Env} {S : List Nat} {kn : Env → SP} {ke : Nat → Env → SP}
    {kr : List Value → List Deferred → SP} {w : World} : ∀ (l : List (Nat × List Nat)) (t : Nat) (vs : List Value), Run P E (join e S kn ke kr l t vs) w R →
    (t = 0 ∧ Run P E (kn (e.back S (slotsOf l 0) vs)) w R) ∨ (t = 1 ∧ Run P E (kr vs e.ds) w R) ∨ (∃ n, t = 2 + n ∧ Run P E (ke n (e.back S (slotsOf l (2 + n)) vs)) w R) := by
  intro l
  induction l with
  | nil => intro t vs h; exact h.elim
  | cons x r ih =>
    obtain ⟨g, L⟩ := x
    intro t vs h
    unfold join at h
    by_cases ht : t = g
    · simp only [ht, if_true] at h
      subst ht
      match t, h with
      | 0, h => exact .inl ⟨rfl, by rw [slotsOf_cons, if_pos rfl]; exact h⟩
      | 1, h => exact .inr (.inl ⟨rfl, h⟩)
      | n + 2, h => exact .inr (.inr ⟨n, by omega, by rw [slotsOf_cons, if_pos (by omega)]; exact h⟩)
    · simp only [ht, if_false] at h
      rcases ih t vs h with ⟨h1, h2⟩ | h1 | ⟨n, h1, h2⟩
      · exact .inl ⟨h1, by rw [slotsOf_cons, if_neg (by omega)]; exact h2⟩
      · exact .inr (.inl h1)
      · exact .inr (.inr ⟨n, h1, by rw [slotsOf_cons, if_neg (by omega)]; exact h2⟩)

section
variable {P : Program} {E : List PanicEntry → World → Prop} {rs : List Nat} {A : Ann}

/-- A piece that is handed on: what its continuations must be good for. -/
theorem Good.handed {R : Nat → List Value → World → Prop} {c c' : Code} {e : Env} {kn : Env → SP} {ke : Nat → Env → SP} {kr : List Value → List Deferred → SP}
    {Q : Exit → Act → World → Prop} {l : List (Nat × List Nat)} (hg : Good P E R rs c e kn ke kr Q) (hd' : noDef c' = true) (hs : ∀ i ∈ asg c', i ∈ asg c)
    (hl : ∀ t, ∀ i ∈ slotsOf l t, i ∈ asg c) :
    Good P E (fun t vs w' => Run P E (join e (asg c) kn ke kr l t vs) w' R) rs c' e (handN l) (handE l) handR Q where
  n e' a' w' he hag hds h := by
    obtain ⟨vs, hvs, h⟩ := hand_run h
    have hag' := hag.more hs
    rcases join_run _ _ _ h with ⟨_, h⟩ | ⟨h0, _⟩ | ⟨n, h0, _⟩
    · exact hg.n _ a' w' (he.back hag' (hds hd') hvs) (.back (hl 0)) (fun _ => rfl) h
    · omega
    · omega
  x id e' a' w' he hag hds h := by
    obtain ⟨vs, hvs, h⟩ := hand_run h
    have hag' := hag.more hs
    rcases join_run _ _ _ h with ⟨h0, _⟩ | ⟨h0, _⟩ | ⟨n, h0, h1⟩
    · omega
    · omega
    · obtain rfl : n = id := by omega
      exact hg.x n _ a' w' (he.back hag' (hds hd') hvs) (.back (hl _)) (fun _ => rfl) h1
  r vs e' a' w' he hds hvs h := by
    refine hg.r vs e' a' w' he (fun _ => hds hd') hvs ?_
    rw [hds hd']
    rcases join_run _ _ _ (show Run P E (join e (asg c) kn ke kr l 1 vs) w' R from h) with ⟨h0, _⟩ | ⟨_, h1⟩ | ⟨n, h0, _⟩
    · omega
    · exact h1
    · omega
  p ch a' w' hds h := hg.p ch a' w' (fun _ => hds hd') h

theorem exitOf_cases (n : Nat) : (n < gb ∧ exitOf n = .exit n) ∨ (gb ≤ n ∧ exitOf n = .goto (n - gb)) := by
  unfold exitOf
  by_cases h : n < gb
  · exact .inl ⟨h, if_pos h⟩
  · exact .inr ⟨by omega, if_neg h⟩

theorem then_exitOf {next : Act → World → Prop} {Q : Exit → Act → World → Prop} {id : Nat} {a : Act} {w : World} (h : Q (exitOf id) a w) : Exit.then next Q (exitOf id) a w := by
  rcases exitOf_cases id with ⟨_, e⟩ | ⟨_, e⟩ <;> rw [e] at h ⊢ <;> exact h

theorem findLabel_has : ∀ (c : Code) (l : Nat), (findLabel c l).isSome = hasLabel c l := by
  intro c
  induction c <;> intro l <;> try rfl
  case seq a b iha ihb =>
    unfold findLabel hasLabel
    rw [← iha, ← ihb]
    cases findLabel a l <;> simp
  case label l' =>
    unfold findLabel hasLabel
    split <;> simp_all

theorem findLabel_none {c : Code} {l : Nat} (h : hasLabel c l = false) : findLabel c l = none := by
  have := findLabel_has c l
  rw [h] at this
  simpa using this

/-- What is run from a place of the code on. -/
def codeFrom (c : Code) : Nat → Option Code
  | 0 => some c
  | l + 1 => findLabel c l

/-- Jumps out of a piece, none into it. -/
def noGoIn (c : Code) (Q : Exit → Act → World → Prop) : Exit → Act → World → Prop
  | .goto l, a, w => findLabel c l = none ∧ Q (.goto l) a w
  | e, a, w => Q e a w

/-- .. or into it, once. -/
def oneGoIn (P : Program) (c : Code) (Q : Exit → Act → World → Prop) : Exit → Act → World → Prop
  | .goto l, a, w => (findLabel c l = none ∧ Q (.goto l) a w) ∨ ∃ rest, findLabel c l = some rest ∧ rest.wp P (noGoIn c Q) a w
  | e, a, w => Q e a w

theorem wp_scope_one {P : Program} {Q : Exit → Act → World → Prop} {a : Act} {w : World} {c : Code} (h : c.wp P (oneGoIn P c Q) a w) : (Code.scope c).wp P Q a w := by
  have out : ∀ {l : Nat} {k k' : List Item}, findLabel c l = none → gotoIn l k = some k' → gotoIn l (.inScope c :: k) = some k' := fun h1 h2 => by simp [gotoIn, h1, h2]
  intro b k cs
  obtain ⟨e, a₁, w₁, hq, harr⟩ := h b (.inScope c :: k) cs
  cases e with
  | normal => exact ⟨.normal, a₁, w₁, hq, .head step_scope (Steps.trans harr (.one step_inScope))⟩
  | exit id => exact ⟨.exit id, a₁, w₁, hq, fun k' hk => .head step_scope (harr k' (by simp [exitTo, hk]))⟩
  | goto l =>
    rcases hq with ⟨h1, hq⟩ | ⟨rest, h1, h2⟩
    · exact ⟨.goto l, a₁, w₁, hq, fun k' hk => .head step_scope (harr k' (out h1 hk))⟩
    · have hs := harr (.code rest :: .inScope c :: k) (by simp [gotoIn, h1])
      obtain ⟨e, a₂, w₂, hq, harr⟩ := h2 b (.inScope c :: k) cs
      cases e with
      | normal => exact ⟨.normal, a₂, w₂, hq, .head step_scope (Steps.trans hs (Steps.trans harr (.one step_inScope)))⟩
      | exit id => exact ⟨.exit id, a₂, w₂, hq, fun k' hk => .head step_scope (Steps.trans hs (harr k' (by simp [exitTo, hk])))⟩
      | goto l => exact ⟨.goto l, a₂, w₂, hq.2, fun k' hk => .head step_scope (Steps.trans hs (harr k' (out hq.1 hk)))⟩
      | ret => exact ⟨_, a₂, w₂, hq, .of_steps (.head step_scope hs) harr⟩
      | panic ch => exact ⟨_, a₂, w₂, hq, .of_steps (.head step_scope hs) harr⟩
      | outgrown => exact ⟨_, a₂, w₂, hq, .of_steps (.head step_scope hs) harr⟩
  | ret => exact ⟨_, a₁, w₁, hq, .of_steps (.one step_scope) harr⟩
  | panic ch => exact ⟨_, a₁, w₁, hq, .of_steps (.one step_scope) harr⟩
  | outgrown => exact ⟨_, a₁, w₁, hq, .of_steps (.one step_scope) harr⟩

theorem den_sound (hm : P.follows .mixedOrders = true) : ∀ (c : Code) (fr p : Nat) (e : Env) (kn : Env → SP) (ke : Nat → Env → SP) (kr : List Value → List Deferred → SP)
    (R : Nat → List Value → World → Prop) (Q : Exit → Act → World → Prop) (a : Act) (w : World) (c' : Code), codeFrom c fr = some c' → EnvRel e a → Good P E R rs c e kn ke kr Q →
    Run P E (den rs A c fr p e kn ke kr) w R → c'.wp P Q a w := by
  intro c
  induction c with
  | skip => intro fr p e kn ke kr R Q a w c' hc' he hg h; cases fr <;> cases hc'; exact wp_skip (hg.n e a w he (.refl _ _) (fun _ => rfl) h)
  | label l =>
    intro fr p e kn ke kr R Q a w c' hc' he hg h
    have h1 := hg.n e a w he (.refl _ _) (fun _ => rfl) h
    cases fr with
    | zero => cases hc'; exact wp_label h1
    | succ l' =>
      simp only [codeFrom, findLabel] at hc'
      split at hc'
      · cases hc'; exact wp_skip h1
      · cases hc'
  | exit id =>
    intro fr p e kn ke kr R Q a w c' hc' he hg h
    cases fr <;> cases hc'
    unfold den at h
    split at h
    · rename_i hid
      have h1 := hg.x id e a w he (.refl _ _) (fun _ => rfl) h
      rw [exitOf, if_pos hid] at h1
      exact wp_exit h1
    · exact h.elim
  | goto l =>
    intro fr p e kn ke kr R Q a w c' hc' he hg h
    cases fr <;> cases hc'
    have h1 := hg.x (gb + l) e a w he (.refl _ _) (fun _ => rfl) h
    rw [exitOf, if_neg (by omega), Nat.add_sub_cancel_left] at h1
    exact wp_goto h1
  | rangeFunc f ps x y _ _ => intro fr p e kn ke kr R Q a w c' hc' he hg h; exact h.elim
  | refuse s => intro fr p e kn ke kr R Q a w c' hc' he hg h; exact h.elim
  | ret =>
    intro fr p e kn ke kr R Q a w c' hc' he hg h
    cases fr <;> cases hc'
    unfold den retK at h
    split at h
    · rename_i vs hvs; exact wp_ret (hg.r vs e a w he (fun _ => rfl) hvs h)
    · exact h.elim
  | region id ops draw =>
    intro fr p e kn ke kr R Q a w c' hc' he hg h
    cases fr <;> cases hc'
    have plain : Run P E (denReg ops draw e kn) w R → (Code.region id ops draw).wp P Q a w := fun h =>
      denReg_sound hm he (fun e' a' w' h1 h2 h3 h4 => hg.n e' a' w' h1 h2 h3 h4) (fun ch a' w' h1 h2 => hg.p ch a' w' h1 h2) h
    unfold den at h
    by_cases hn : noDefOps ops = true
    · simp only [hn, if_true] at h
      cases hA : A.of (dstsOf ops) p with
      | none => simp only [hA] at h; exact plain h
      | some l =>
        simp only [hA] at h
        have hh := hg.handed (c' := .region id ops draw) (l := l) hn (fun i hi => hi) (fun t => Ann.of_mem hA t)
        exact denReg_sound hm he (fun e' a' w' h1 h2 h3 h4 => hh.n e' a' w' h1 h2 h3 h4) (fun ch a' w' h1 h2 => hh.p ch a' w' h1 h2) h
    · simp only [hn] at h; exact plain h
  | seq x y ihx ihy =>
    intro fr p e kn ke kr R Q a w c' hc' he hg h
    have hnd : noDef (.seq x y) = true → noDef x = true ∧ noDef y = true := fun h => by simpa [noDef] using h
    have both : ∀ (fr : Nat) (x' : Code), codeFrom x fr = some x' → Run P E (den rs A x fr (2 * p) e (fun e => den rs A y 0 (2 * p + 1) e kn ke kr) ke kr) w R → (Code.seq x' y).wp P Q a w := by
      intro fr x' hx' h
      refine wp_seq (ihx fr (2 * p) e _ ke kr R _ a w x' hx' he ⟨?_, ?_, ?_, ?_⟩ h)
      · intro e1 a1 w1 he1 hag1 hds1 h1
        refine ihy 0 (2 * p + 1) e1 kn ke kr R Q a1 w1 y rfl he1 ⟨?_, ?_, ?_, ?_⟩ h1
        · intro e2 a2 w2 he2 hag2 hds2 h2
          exact hg.n e2 a2 w2 he2 ((hag1.more fun i hi => List.mem_append_left _ hi).trans (hag2.more fun i hi => List.mem_append_right _ hi)) (fun hn => by rw [hds2 (hnd hn).2, hds1 (hnd hn).1]) h2
        · intro id e2 a2 w2 he2 hag2 hds2 h2
          exact hg.x id e2 a2 w2 he2 ((hag1.more fun i hi => List.mem_append_left _ hi).trans (hag2.more fun i hi => List.mem_append_right _ hi)) (fun hn => by rw [hds2 (hnd hn).2, hds1 (hnd hn).1]) h2
        · intro vs e2 a2 w2 he2 hds2 hvs h2
          exact hg.r vs e2 a2 w2 he2 (fun hn => by rw [hds2 (hnd hn).2, hds1 (hnd hn).1]) hvs h2
        · intro ch a2 w2 hds2 h2
          exact hg.p ch a2 w2 (fun hn => by rw [hds2 (hnd hn).2, hds1 (hnd hn).1]) h2
      · intro id e1 a1 w1 he1 hag1 hds1 h1
        exact then_exitOf (hg.x id e1 a1 w1 he1 (hag1.more fun i hi => List.mem_append_left _ hi) (fun hn => hds1 (hnd hn).1) h1)
      · intro vs e1 a1 w1 he1 hds1 hvs h1
        exact hg.r vs e1 a1 w1 he1 (fun hn => hds1 (hnd hn).1) hvs h1
      · intro ch a1 w1 hds1 h1
        exact hg.p ch a1 w1 (fun hn => hds1 (hnd hn).1) h1
    cases fr with
    | zero => cases hc'; exact both 0 x rfl h
    | succ l =>
      unfold den at h
      simp only at h
      by_cases hx : hasLabel x l = true
      · simp only [hx, if_true] at h
        simp only [codeFrom, findLabel] at hc'
        have := findLabel_has x l
        rw [hx] at this
        obtain ⟨x', hx'⟩ := Option.isSome_iff_exists.1 this
        rw [hx'] at hc'
        cases hc'
        exact both (l + 1) x' hx' h
      · simp only [hx] at h
        simp only [codeFrom, findLabel, findLabel_none (by simpa using hx)] at hc'
        exact ihy (l + 1) (2 * p + 1) e kn ke kr R Q a w c' hc' he ⟨fun e' a' w' h1 h2 h3 h4 => hg.n e' a' w' h1 (h2.more fun i hi => List.mem_append_right _ hi) (fun hn => h3 (hnd hn).2) h4,
          fun id e' a' w' h1 h2 h3 h4 => hg.x id e' a' w' h1 (h2.more fun i hi => List.mem_append_right _ hi) (fun hn => h3 (hnd hn).2) h4,
          fun vs e' a' w' h1 h2 h3 h4 => hg.r vs e' a' w' h1 (fun hn => h2 (hnd hn).2) h3 h4, fun ch a' w' h1 h2 => hg.p ch a' w' (fun hn => h1 (hnd hn).2) h2⟩ h
  | cond c x y ihx ihy =>
    intro fr p e kn ke kr R Q a w c' hc' he hg h
    cases fr <;> cases hc'
    have hnd : noDef (.cond c x y) = true → noDef x = true ∧ noDef y = true := fun h => by simpa [noDef] using h
    have hgx : Good P E R rs x e kn ke kr Q := ⟨fun e' a' w' h1 h2 h3 h4 => hg.n e' a' w' h1 (h2.more fun i hi => List.mem_append_left _ hi) (fun hn => h3 (hnd hn).1) h4,
      fun id e' a' w' h1 h2 h3 h4 => hg.x id e' a' w' h1 (h2.more fun i hi => List.mem_append_left _ hi) (fun hn => h3 (hnd hn).1) h4,
      fun vs e' a' w' h1 h2 h3 h4 => hg.r vs e' a' w' h1 (fun hn => h2 (hnd hn).1) h3 h4, fun ch a' w' h1 h2 => hg.p ch a' w' (fun hn => h1 (hnd hn).1) h2⟩
    have hgy : Good P E R rs y e kn ke kr Q := ⟨fun e' a' w' h1 h2 h3 h4 => hg.n e' a' w' h1 (h2.more fun i hi => List.mem_append_right _ hi) (fun hn => h3 (hnd hn).2) h4,
      fun id e' a' w' h1 h2 h3 h4 => hg.x id e' a' w' h1 (h2.more fun i hi => List.mem_append_right _ hi) (fun hn => h3 (hnd hn).2) h4,
      fun vs e' a' w' h1 h2 h3 h4 => hg.r vs e' a' w' h1 (fun hn => h2 (hnd hn).2) h3 h4, fun ch a' w' h1 h2 => hg.p ch a' w' (fun hn => h1 (hnd hn).2) h2⟩
    have plain : ∀ v, e.val c = some v → Run P E (.ite v (den rs A x 0 (2 * p) e kn ke kr) (den rs A y 0 (2 * p + 1) e kn ke kr)) w R → (Code.cond c x y).wp P Q a w := by
      intro v hv h
      obtain ⟨t, ht, h1, h2⟩ := h
      have hc : a.eval c = .bool t := by rw [he.val hv, ht]
      exact wp_cond_split hc (fun e1 => ihx 0 _ e kn ke kr R Q a w x rfl he hgx (h1 e1)) (fun e1 => ihy 0 _ e kn ke kr R Q a w y rfl he hgy (h2 e1))
    have joined : ∀ v l, e.val c = some v → noDef x = true → noDef y = true → (∀ t, ∀ i ∈ slotsOf l t, i ∈ asg x ++ asg y) →
        Run P E (.bind (.ite v (den rs A x 0 (2 * p) e (handN l) (handE l) handR) (den rs A y 0 (2 * p + 1) e (handN l) (handE l) handR)) (join e (asg x ++ asg y) kn ke kr l)) w R →
        (Code.cond c x y).wp P Q a w := by
      intro v l hv hdx hdy hl h
      obtain ⟨t, ht, h1, h2⟩ := h
      have hc : a.eval c = .bool t := by rw [he.val hv, ht]
      exact wp_cond_split hc
        (fun e1 => ihx 0 _ e _ _ _ _ Q a w x rfl he (hg.handed (c' := x) hdx (fun i hi => List.mem_append_left _ hi) hl) (h1 e1))
        (fun e1 => ihy 0 _ e _ _ _ _ Q a w y rfl he (hg.handed (c' := y) hdy (fun i hi => List.mem_append_right _ hi) hl) (h2 e1))
    unfold den at h
    cases hv' : e.ent c with
    | no => simp only [hv'] at h; exact h.elim
    | un => simp only [hv'] at h; exact h.elim
    | lit t =>
      have hv : e.val c = some (.bool t) := by unfold Env.val; rw [hv']; rfl
      simp only [hv'] at h
      cases t with
      | true => exact wp_cond_true (he.val hv) (ihx 0 _ e kn ke kr R Q a w x rfl he hgx h)
      | false => exact wp_cond_false (he.val hv) (ihy 0 _ e kn ke kr R Q a w y rfl he hgy h)
    | val v =>
      have hv : e.val c = some v := by unfold Env.val; rw [hv']; rfl
      simp only [hv'] at h
      have gen : Run P E (if (noDef x && noDef y) = true then
          match A.of (asg x ++ asg y) p with
          | none => .ite v (den rs A x 0 (2 * p) e kn ke kr) (den rs A y 0 (2 * p + 1) e kn ke kr)
          | some l => .bind (.ite v (den rs A x 0 (2 * p) e (handN l) (handE l) handR) (den rs A y 0 (2 * p + 1) e (handN l) (handE l) handR)) (join e (asg x ++ asg y) kn ke kr l)
        else .ite v (den rs A x 0 (2 * p) e kn ke kr) (den rs A y 0 (2 * p + 1) e kn ke kr)) w R → (Code.cond c x y).wp P Q a w := by
        intro h
        by_cases hn : (noDef x && noDef y) = true
        · simp only [hn, if_true] at h
          cases hA : A.of (asg x ++ asg y) p with
          | none => simp only [hA] at h; exact plain v hv h
          | some l =>
            simp only [hA] at h
            simp only [Bool.and_eq_true] at hn
            exact joined v l hv hn.1 hn.2 (fun t => Ann.of_mem hA t) h
        · simp only [hn] at h; exact plain v hv h
      exact gen h
  | block id c ih =>
    intro fr p e kn ke kr R Q a w c' hc' he hg h
    cases fr <;> cases hc'
    unfold den at h
    by_cases hidb : id < gb
    case neg => simp only [hidb, if_false] at h; exact h.elim
    simp only [hidb, if_true] at h
    have inb : ∀ {id' : Nat} {a' : Act} {w' : World}, id' ≠ id → Q (exitOf id') a' w' → Exit.inBlock id Q (exitOf id') a' w' := by
      intro id' a' w' hne hq
      rcases exitOf_cases id' with ⟨_, e⟩ | ⟨_, e⟩ <;> rw [e] at hq ⊢
      · simp only [Exit.inBlock, hne, if_false]; exact hq
      · exact hq
    have own : ∀ {a' : Act} {w' : World}, Q .normal a' w' → Exit.inBlock id Q (exitOf id) a' w' := by
      intro a' w' hq
      rw [exitOf, if_pos hidb]
      simp only [Exit.inBlock, if_true]; exact hq
    have plain : Run P E (den rs A c 0 (2 * p) e kn (fun id' e => if id' = id then kn e else ke id' e) kr) w R → (Code.block id c).wp P Q a w := by
      intro h
      refine wp_block (ih 0 _ e _ _ _ R _ a w c rfl he ⟨fun e' a' w' h1 h2 h3 h4 => hg.n e' a' w' h1 h2 h3 h4, ?_, fun vs e' a' w' h1 h2 h3 h4 => hg.r vs e' a' w' h1 h2 h3 h4, fun ch a' w' h1 h2 => hg.p ch a' w' h1 h2⟩ h)
      intro id' e' a' w' h1 h2 h3 h4
      by_cases hid : id' = id
      · simp only [hid, if_true] at h4; rw [hid]; exact own (hg.n e' a' w' h1 h2 h3 h4)
      · simp only [hid, if_false] at h4; exact inb hid (hg.x id' e' a' w' h1 h2 h3 h4)
    by_cases hn : noDef c = true
    · simp only [hn, if_true] at h
      cases hA : A.of (asg c) p with
      | none => simp only [hA] at h; exact plain h
      | some l =>
        simp only [hA] at h
        have hh := hg.handed (c' := c) (l := l) hn (fun i hi => hi) (fun t => Ann.of_mem hA t)
        refine wp_block (ih 0 _ e _ _ _ _ _ a w c rfl he ⟨fun e' a' w' h1 h2 h3 h4 => hh.n e' a' w' h1 h2 h3 h4, ?_, fun vs e' a' w' h1 h2 h3 h4 => hh.r vs e' a' w' h1 h2 h3 h4, fun ch a' w' h1 h2 => hh.p ch a' w' h1 h2⟩ h)
        intro id' e' a' w' h1 h2 h3 h4
        by_cases hid : id' = id
        · simp only [hid, if_true] at h4; rw [hid]; exact own (hh.n e' a' w' h1 h2 h3 h4)
        · simp only [hid, if_false] at h4; exact inb hid (hh.x id' e' a' w' h1 h2 h3 h4)
    · simp only [hn] at h; exact plain h
  | loop c ih =>
    intro fr p e kn ke kr R Q a w c' hc' he hg h
    cases fr <;> cases hc'
    unfold den at h
    by_cases hn : noDef c = true
    · simp only [hn, if_true] at h
      cases hA : A.of (asg c) p with
      | none => simp only [hA] at h; exact h.elim
      | some l =>
        simp only [hA] at h
        cases hi : getL e (slotsOf l 0) with
        | none => simp only [hi] at h; exact h.elim
        | some init =>
          simp only [hi] at h
          obtain ⟨I, ⟨n, hI⟩, hround⟩ := h
          have hl := fun t => Ann.of_mem hA t
          refine wp_loop_n (fun n a w => ∃ vs, I n vs w ∧ EnvRel (e.back (asg c) (slotsOf l 0) vs) a) ⟨n, init, hI, he.back (.refl _ _) rfl hi⟩ ?_
          rintro n a1 w1 ⟨vs, hIv, he1⟩
          have hag0 : Agree (asg c) e (e.back (asg c) (slotsOf l 0) vs) := .back (hl 0)
          have h1 := hround n vs w1 hIv
          refine ih 0 _ _ _ _ _ _ _ a1 w1 c rfl he1 ⟨?_, ?_, ?_, ?_⟩ h1
          · intro e' a' w' h1 h2 h3 h4
            obtain ⟨vs', hvs', m, hm', hI'⟩ := hand_run h4
            exact ⟨m, hm', vs', hI', h1.back (hag0.trans h2) (h3 hn) hvs'⟩
          · intro id e' a' w' h1 h2 h3 h4
            obtain ⟨vs', hvs', h5⟩ := hand_run h4
            rw [if_neg (by omega)] at h5
            rcases join_run _ _ _ h5 with ⟨h0, _⟩ | ⟨h0, _⟩ | ⟨n, h0, h6⟩
            · omega
            · omega
            · obtain rfl : n = id := by omega
              exact then_exitOf (hg.x n _ a' w' (h1.back (hag0.trans h2) (h3 hn) hvs') (.back (hl _)) (fun _ => rfl) h6)
          · intro vs' e' a' w' h1 h2 h3 h4
            refine hg.r vs' e' a' w' h1 (fun _ => h2 hn) h3 ?_
            rw [h2 hn]
            have h5 : Run P E (join e (asg c) (fun _ => .fail) ke kr l 1 vs') w' R := h4
            rcases join_run _ _ _ h5 with ⟨h0, _⟩ | ⟨_, h6⟩ | ⟨n, h0, _⟩
            · omega
            · exact h6
            · omega
          · intro ch a' w' h1 h2
            exact hg.p ch a' w' (fun _ => h1 hn) h2
    · simp only [hn] at h; exact h.elim
  | scope c ih =>
    intro fr p e kn ke kr R Q a w c' hc' he hg h
    cases fr <;> cases hc'
    unfold den at h
    have goes : ∀ {id : Nat}, intoIt c id = true → exitOf id = .goto (id - gb) ∧ hasLabel c (id - gb) = true := by
      intro id hi
      simp only [intoIt, Bool.and_eq_true, Nat.ble_eq] at hi
      exact ⟨by rw [exitOf, if_neg (by omega)], hi.2⟩
    have stays : ∀ {id : Nat} {a' : Act} {w' : World}, intoIt c id = false → Q (exitOf id) a' w' → noGoIn c Q (exitOf id) a' w' := by
      intro id a' w' hi hq
      rcases exitOf_cases id with ⟨_, e1⟩ | ⟨hle, e1⟩ <;> rw [e1] at hq ⊢
      · exact hq
      · refine ⟨findLabel_none ?_, hq⟩
        simp only [intoIt, Bool.and_eq_false_iff] at hi
        rcases hi with hi | hi
        · have : Nat.ble gb id = true := Nat.ble_eq_true_of_le hle
          rw [this] at hi; cases hi
        · exact hi
    have wide : ∀ {x : Exit} {a' : Act} {w' : World}, noGoIn c Q x a' w' → oneGoIn P c Q x a' w' := by
      intro x a' w' hq
      cases x <;> first | exact hq | exact .inl hq
    refine wp_scope_one (ih 0 _ e _ _ kr R _ a w c rfl he ⟨fun e' a' w' h1 h2 h3 h4 => hg.n e' a' w' h1 h2 h3 h4, ?_, fun vs e' a' w' h1 h2 h3 h4 => hg.r vs e' a' w' h1 h2 h3 h4, fun ch a' w' h1 h2 => hg.p ch a' w' h1 h2⟩ h)
    intro id e1 a1 w1 he1 hag1 hds1 h1
    by_cases hi : intoIt c id = true
    · simp only [hi, if_true] at h1
      obtain ⟨e2, hl⟩ := goes hi
      have := findLabel_has c (id - gb)
      rw [hl] at this
      obtain ⟨rest, hrest⟩ := Option.isSome_iff_exists.1 this
      rw [e2]
      refine .inr ⟨rest, hrest, ih (id - gb + 1) _ e1 kn _ kr R _ a1 w1 rest hrest he1 ⟨?_, ?_, ?_, ?_⟩ h1⟩
      · intro e' a' w' h1 h2 h3 h4; exact hg.n e' a' w' h1 (hag1.trans h2) (fun hn => (h3 hn).trans (hds1 hn)) h4
      · intro id' e' a' w' h1 h2 h3 h4
        by_cases hi' : intoIt c id' = true
        · simp only [hi', if_true] at h4; exact h4.elim
        · simp only [hi'] at h4
          exact stays (by simpa using hi') (hg.x id' e' a' w' h1 (hag1.trans h2) (fun hn => (h3 hn).trans (hds1 hn)) h4)
      · intro vs e' a' w' h1 h2 h3 h4; exact hg.r vs e' a' w' h1 (fun hn => (h2 hn).trans (hds1 hn)) h3 h4
      · intro ch a' w' h1 h2; exact hg.p ch a' w' (fun hn => (h1 hn).trans (hds1 hn)) h2
    · simp only [hi] at h1
      exact wide (stays (by simpa using hi) (hg.x id e1 a1 w1 he1 hag1 hds1 h1))
end
end Go.Fr

-- FrFun
namespace Go.Fr
open Go

def rslot : ResultVar → Nat
  | .tmp t => t
  | .cell a _ => a

def resOne : ResultVar → Value → Sem Value
  | .tmp _, v => pure v
  | .cell _ t, v => do loadVar t (← asAddr v)

def resAll : List ResultVar → List Value → Sem (List Value)
  | r :: rs, v :: vs => do
    let x ← resOne r v
    let xs ← resAll rs vs
    pure (x :: xs)
  | _, _ => pure []

def tupleOf : List Value → Value
  | [v] => v
  | vs => .tuple vs.toArray

/-- The results, read. -/
def resS (rs : List ResultVar) (vs : List Value) : Sem Value := do pure (tupleOf (← resAll rs vs))

theorem tupleOf_eq (l : List Value) : tupleOf l = if h : l.toArray.size = 1 then l.toArray[0] else .tuple l.toArray := by
  match l with
  | [] => simp [tupleOf]
  | [v] => simp [tupleOf]
  | a :: b :: r => simp [tupleOf]

theorem resAll_eq (tmps : Array Value) : ∀ (rs : List ResultVar) (vs : List Value), rs.length = vs.length →
    (∀ (i : Nat) (r : ResultVar), rs[i]? = some r → ∃ v, vs[i]? = some v ∧ tmps[rslot r]? = some v) →
    rs.mapM (m := Sem) (fun | .tmp t => pure (tmps.getD t undef) | .cell a t => do loadVar t (← asAddr (tmps.getD a undef))) = resAll rs vs := by
  intro rs
  induction rs with
  | nil => intro vs h _; cases vs <;> simp_all [resAll]
  | cons r rs ih =>
    intro vs h hv
    cases vs with
    | nil => simp at h
    | cons v vs =>
      have hr := hv 0 r rfl
      obtain ⟨v', hv', ht⟩ := hr
      simp only [List.getElem?_cons_zero, Option.some.injEq] at hv'
      subst hv'
      rw [List.mapM_cons, ih vs (by simpa using h) fun i r' hi => hv (i + 1) r' hi]
      simp only [resAll]
      cases r with
      | tmp t => simp only [rslot] at ht; simp [resOne, Array.getD_eq_getD_getElem?, ht]
      | cell a t => simp only [rslot] at ht; simp [resOne, Array.getD_eq_getD_getElem?, ht]

theorem results_eq {fn : Func} {tmps : Array Value} {vs : List Value} (hl : fn.results.toList.length = vs.length)
    (hv : ∀ (i : Nat) (r : ResultVar), fn.results.toList[i]? = some r → ∃ v, vs[i]? = some v ∧ tmps[rslot r]? = some v) :
    results fn tmps = resS fn.results.toList vs := by
  unfold results resS
  rw [← resAll_eq tmps _ vs hl hv]
  rw [Array.mapM_eq_mapM_toList]
  simp only [bind_assoc, map_eq_pure_bind, pure_bind, tupleOf_eq]
  rfl

theorem getL_spec {e : Env} {a : Act} (he : EnvRel e a) : ∀ {rs : List Nat} {vs : List Value}, getL e rs = some vs →
    rs.length = vs.length ∧ ∀ (i t : Nat), rs[i]? = some t → ∃ v, vs[i]? = some v ∧ a.tmps[t]? = some v := by
  intro rs
  induction rs with
  | nil => intro vs h; cases h; exact ⟨rfl, by simp⟩
  | cons r rs ih =>
    intro vs h
    unfold getL at h
    split at h
    · rename_i v us hv hus
      cases h
      obtain ⟨h1, h2⟩ := ih hus
      refine ⟨by simp [h1], fun i t hi => ?_⟩
      cases i with
      | zero => simp only [List.getElem?_cons_zero, Option.some.injEq] at hi; subst hi; exact ⟨v, rfl, he.at_ _ _ hv⟩
      | succ i => exact h2 i t hi
    · cases h

/-- Behind the body: the deferred calls, the last one first; then the results. -/
def fin (rs : List ResultVar) (vs : List Value) : List Deferred → SP
  | [] => .rd (do pure (.value (← resS rs vs))) fun v => .done 0 [v]
  | d :: ds => .dcl d (fin rs vs ds)

/-- The tree of a function's body. -/
def denF (fn : Func) (A : Ann) (args : List Value) : SP :=
  match fn.body with
  | none => .fail
  | some c =>
    den (fn.results.toList.map rslot) A c 0 1 ⟨args.map .val ++ List.replicate (fn.ntmps - args.length) .un, []⟩
      (fun e => retK (fn.results.toList.map rslot) e (fin fn.results.toList)) (fun _ _ => .fail) (fin fn.results.toList)

theorem envRel_start (n : Nat) (args : List Value) :
    EnvRel ⟨args.map .val ++ List.replicate (n - args.length) .un, []⟩ { tmps := args.toArray ++ Array.replicate (n - args.toArray.size) undef, defers := [] } := by
  refine ⟨by simp, fun i v hi => ?_, rfl⟩
  unfold look lookE at hi
  simp only [List.getElem?_append, List.length_map, List.getElem?_map, List.getElem?_replicate] at hi
  simp only [Array.getElem?_append, List.size_toArray, List.getElem?_toArray, Array.getElem?_replicate]
  split at hi
  · rename_i h
    rw [if_pos h]
    cases hx : args[i]? with
    | none => simp [hx, Ent.get] at hi
    | some x => simp [hx, Ent.get] at hi; rw [hi]
  · rename_i h
    rw [if_neg h]
    split at hi
    · rename_i h'; simp only [Option.getD_some, Ent.get, Option.some.injEq] at hi; rw [if_pos h', hi]
    · simp [Ent.get] at hi

theorem fin_run {P : Program} {fn : Func} {tmps : Array Value} {vs : List Value} {E : List PanicEntry → World → Prop} {R : Value → World → Prop} {RR : Ending → World → Prop}
    (hR : ∀ v w, R v w → RR (.returned v) w)
    (hr : results fn tmps = resS fn.results.toList vs) : ∀ (ds : List Deferred) (w : World), Run P E (fin fn.results.toList vs ds) w (fun _ vs w' => R (vs.headD undef) w') →
    Leaves P fn tmps RR ds .returning w := by
  intro ds
  induction ds with
  | nil =>
    intro w h
    obtain ⟨v, hv, h⟩ := h
    refine ⟨v, ?_, hR _ _ h⟩
    rw [hr]
    cases hx : (resS fn.results.toList vs).run P w with
    | ok x w1 => simp [hx] at hv; obtain ⟨rfl, rfl⟩ := hv; rfl
    | halt x w1 => simp [hx] at hv
  | cons d ds ih =>
    intro w h
    obtain ⟨fv, cap, f, args, h1, h2, h3⟩ := h
    refine ⟨by simp, fv, cap, f, args, h1, h2, fun c cs hc => ?_⟩
    obtain ⟨e, u', w', fr, h4, h5⟩ := h3 c cs hc
    refine ⟨e, u', w', fr, ?_, h5⟩
    cases e with
    | returned v => obtain ⟨rfl, h6⟩ := h4; exact ih w' h6
    | panicked ch => exact h4.elim
    | outgrown => exact h4.elim

/-- What the tree does, the call does. -/
theorem calls_of_den {P : Program} (hm : P.follows .mixedOrders = true) {f : FuncId} {fn : Func} {A : Ann} {args : List Value} {w : World} {R : Value → World → Prop}
    (hf : P.funcs[f]? = some fn) (h : Run P (fun _ _ => False) (denF fn A args) w fun _ vs w' => R (vs.headD undef) w') :
    Calls P f args.toArray w fun e w' => ∃ v, e = .returned v ∧ R v w' := by
  unfold denF at h
  cases hb : fn.body with
  | none => simp only [hb] at h; exact h.elim
  | some c =>
    simp only [hb] at h
    refine calls_of_wp_defers hf hb ?_
    have key : ∀ vs (e' : Env) (a' : Act) w', EnvRel e' a' → getL e' (fn.results.toList.map rslot) = some vs →
        Run P (fun _ _ => False) (fin fn.results.toList vs e'.ds) w' (fun _ vs w' => R (vs.headD undef) w') →
        Leaves P fn a'.tmps (fun e w' => ∃ v, e = .returned v ∧ R v w') a'.defers .returning w' := by
      intro vs e' a' w' he hvs h
      obtain ⟨hl, hv⟩ := getL_spec he hvs
      rw [he.ds]
      refine fin_run (R := R) (fun v w h => ⟨v, rfl, h⟩) (results_eq (by simpa using hl) fun i r hi => ?_) e'.ds w' h
      exact hv i (rslot r) (by rw [List.getElem?_map, hi]; rfl)
    refine den_sound hm c 0 1 _ _ _ _ _ _ _ w c rfl (envRel_start fn.ntmps args) ⟨?_, ?_, ?_, ?_⟩ h
    · intro e' a' w' he _ _ h
      unfold retK at h
      split at h
      · rename_i vs hvs; exact key vs e' a' w' he hvs h
      · exact h.elim
    · intro id e' a' w' _ _ _ h; exact h.elim
    · intro vs e' a' w' he _ hvs h; exact key vs e' a' w' he hvs h
    · intro ch a' w' _ h; exact h.elim

/-- .. and a panic goes through, where nothing is deferred. -/
theorem calls_of_den_panic {P : Program} (hm : P.follows .mixedOrders = true) {f : FuncId} {fn : Func} {A : Ann} {args : List Value} {w : World} {R : Value → World → Prop} {E : List PanicEntry → World → Prop}
    (hf : P.funcs[f]? = some fn) (hd : (fn.body.any noDef) = true) (h : Run P E (denF fn A args) w fun _ vs w' => R (vs.headD undef) w') :
    Calls P f args.toArray w fun
      | .returned v, w' => R v w'
      | .panicked ch, w' => E ch w'
      | .outgrown, _ => False := by
  unfold denF at h
  cases hb : fn.body with
  | none => simp only [hb] at h; exact h.elim
  | some c =>
    simp only [hb] at h hd
    refine calls_of_wp_defers hf hb ?_
    have key : ∀ vs (e' : Env) (a' : Act) w', EnvRel e' a' → getL e' (fn.results.toList.map rslot) = some vs →
        Run P E (fin fn.results.toList vs e'.ds) w' (fun _ vs w' => R (vs.headD undef) w') →
        Leaves P fn a'.tmps (fun e w' => match (generalizing := false) e, w' with
          | .returned v, w' => R v w' | .panicked ch, w' => E ch w' | .outgrown, _ => False) a'.defers .returning w' := by
      intro vs e' a' w' he hvs h
      obtain ⟨hl, hv⟩ := getL_spec he hvs
      rw [he.ds]
      refine fin_run (R := R) (fun v w h => h) (results_eq (by simpa using hl) fun i r hi => ?_) e'.ds w' h
      exact hv i (rslot r) (by rw [List.getElem?_map, hi]; rfl)
    refine den_sound hm c 0 1 _ _ _ _ _ _ _ w c rfl (envRel_start fn.ntmps args) ⟨?_, ?_, ?_, ?_⟩ h
    · intro e' a' w' he _ _ h
      unfold retK at h
      split at h
      · rename_i vs hvs; exact key vs e' a' w' he hvs h
      · exact h.elim
    · intro id e' a' w' _ _ _ h; exact h.elim
    · intro vs e' a' w' he _ hvs h; exact key vs e' a' w' he hvs h
    · intro ch a' w' hds h
      show Leaves P fn a'.tmps _ a'.defers (.panicking ch) w'
      rw [hds (by simpa using hd)]
      exact h
end Go.Fr

-- FrOps
namespace Go.Fr
open Go

def oPick (c a b : Value) : Sem Next := do pure (.value (if ← asBool c then a else b))
def oAlloc (t : TypeId) : Sem Next := do pure (.value (← Instr.alloc t true (.tuple #[])))
def oBox (t : TypeId) (v : Value) : Sem Next := do pure (.value (← Instr.box t v))
def oBuild (t : TypeId) (ps : List (Nat × Value)) : Sem Next := do pure (.value (← Instr.build t ps.toArray))
def oBuildSlice (t : TypeId) (n : Nat) (ps : List (Nat × Value)) : Sem Next := do pure (.value (← Instr.buildSlice t n ps.toArray))
def oLoad (t : TypeId) (a : Value) : Sem Next := do pure (.value (← Instr.loadAt t a))
def oStore (t : TypeId) (a v : Value) : Sem Next := do Instr.storeAt t a v; pure .skip
def oNil (x : Value) : Sem Next := execOp (fun _ => x) { dst := none, op := .nilCheck (.tmp 0), type := 0, pos := "", after := #[], guard := none }
def oBin (op : BinOp) (t : TypeId) (x y : Operand) (a b : Value) : Sem Next := do pure (.value (← (do eqGuard op t x y a b; binOp op t a b)))
def oUn (op : UnOp) (x : Value) : Sem Next := do pure (.value (← Op.unary op x))
def oConv (s d : TypeId) (x : Value) : Sem Next := do pure (.value (← convert s d x))
def oArrAt (t : TypeId) (x : Value) : Sem Next := do pure (.value (← Instr.arrayAt t x))
def oIface (t : TypeId) (x : Value) : Sem Next := do pure (.value (← Instr.makeInterface t x))
def oFunc (f : Fn) (a b : List Value) : Sem Next := do pure (.value (← Instr.makeFunc f a.toArray b.toArray))
def oMap (t : TypeId) (r : Option Value) : Sem Next := do pure (.value (← Instr.makeMap t r))
def oMake (t : TypeId) (l c : Value) : Sem Next := do pure (.value (← Instr.makeSlice t l c))
def oSlice (t : TypeId) (x : Value) (lo hi mx : Option Value) : Sem Next := do pure (.value (← Instr.sliceAt t x lo hi mx))
def oFieldAt (t : TypeId) (x : Value) (i : Nat) : Sem Next := do pure (.value (← Instr.fieldAt t x i))
def oField (t : TypeId) (x : Value) (i : Nat) : Sem Next := do pure (.value (← Instr.field t x i))
def oIndexAt (t : TypeId) (x i : Value) : Sem Next := do pure (.value (← Instr.indexAt t x i))
def oIndex (t : TypeId) (x i : Value) : Sem Next := do pure (.value (← Instr.index t x i))
def oLookup (t : TypeId) (x i : Value) (ok : Bool) : Sem Next := do pure (.value (← Instr.lookup t x i ok))
def oMapSet (t : TypeId) (m k x : Value) : Sem Next := do Instr.mapUpdate t m k x; pure .skip
def oEntry0 (t : TypeId) (m k : Value) : Sem Next := do pure (.value (← Instr.mapEntry t m k))
def oEntrySet (t : TypeId) (m s x : Value) : Sem Next := do Instr.entryStore t m s x; pure .skip
def oRange (t : TypeId) (x : Value) : Sem Next := do pure (.value (← Instr.range t x))
def oNext (it : Value) (str : Bool) (t : TypeId) : Sem Next := do pure (.value (← Instr.next it str t))
def oEntry (it : Value) : Sem Next := do pure (.value (← Instr.entry it))
def oAssert (x : Value) (t u : TypeId) (ok : Bool) : Sem Next := do pure (.value (← Instr.typeAssert x t u ok))
def oExtract (x : Value) (i : Nat) : Sem Next := do pure (.value (← Instr.extract x i))
def oPanic (x : Value) : Sem Next := do pure (.value (← Instr.panic x))
def oCall (f : FuncId) (as : List Value) : Sem Next := callFunc f as.toArray
def oCallV (f : Value) (as : List Value) : Sem Next := do let d ← Deferred.ofValue f as.toArray; invoke d.target d.args
def oInvoke (r : Value) (m : String) (as : List Value) : Sem Next := callMethod r m as.toArray
def oBuiltin (b : Builtin) (ts : List TypeId) (t : TypeId) (cs : List Bool) (as : List Value) : Sem Next := builtin b ts.toArray t cs.toArray as.toArray
def oDefer (f : Value) (as : List Value) : Sem Next := do pure (.defer (← Deferred.ofValue f as.toArray))
end Go.Fr
