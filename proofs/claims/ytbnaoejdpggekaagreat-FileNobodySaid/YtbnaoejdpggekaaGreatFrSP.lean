/-
  This file proves: what a function's code does follows from a tree of its operations with their values, in which no temporary stands ('den' makes the tree).
-/
import Derived.Test.YtbnaoejdpggekaaGreatFrOrder
import Derived.Defers
import Derived.Scope
namespace Go.Fr

/-- A tree of operations. -/
inductive SP where
  | done (t : Nat) (vs : List Value)
  | bind (p : SP) (k : Nat → List Value → SP)
  | op (s : Sem Next) (k : Value → SP)
  | rd (s : Sem Next) (k : Value → SP)
  | chk (s : Sem Next) (v : Value) (k : SP)
  | dfr (s : Sem Next) (k : Deferred → SP)
  | dcl (d : Deferred) (k : SP)
  | ite (v : Value) (a b : SP)
  | both (a b : SP)
  | drew (p : SP)
  | loop (init : List Value) (body : List Value → SP) (k : Nat → List Value → SP)
  | fail

/-- What an operation's result must be good for. -/
def UponS (P : Program) (K : Value → World → Prop) (E : List PanicEntry → World → Prop) : Result Next → Prop
  | .ok (.value v) w => K v w
  | .ok .skip w => K undef w
  | .ok (.enter f args) w => Calls P f args w fun
      | .returned v, w' => K v w'
      | .panicked c, w' => E c w'
      | .outgrown, _ => False
  | .ok (.row row args) w => Rows P row args w K
  | .halt (.panic v) w => E [{ v, recovered := false }] w
  | _ => False

theorem UponS.mono {P : Program} {K K' : Value → World → Prop} {E E' : List PanicEntry → World → Prop} {r : Result Next}
    (hk : ∀ v w, K v w → K' v w) (he : ∀ c w, E c w → E' c w) (h : UponS P K E r) : UponS P K' E' r := by
  cases r with
  | ok n w =>
    cases n <;> simp only [UponS] at h ⊢
    case value v => exact hk _ _ h
    case skip => exact hk _ _ h
    case enter f args => exact Calls.mono h fun e w' h' => by cases e <;> first | exact hk _ _ h' | exact he _ _ h' | exact h'
    case row row args => exact Rows.mono h fun v w' h' => hk _ _ h'
  | halt x w => cases x <;> simp only [UponS] at h ⊢; exact he _ _ h

/-- What a tree does from a world on: R of what it is done with, E of a panic. -/
def Run (P : Program) (E : List PanicEntry → World → Prop) : SP → World → (Nat → List Value → World → Prop) → Prop
  | .done t vs, w, R => R t vs w
  | .bind p k, w, R => Run P E p w fun t vs w' => Run P E (k t vs) w' R
  | .op s k, w, R => UponS P (fun v w' => Run P E (k v) w' R) E (s.run P w)
  | .rd s k, w, R => ∃ v, s.run P w = .ok (.value v) w ∧ Run P E (k v) w R
  | .chk s v k, w, R => s.run P w = .ok (.value v) w ∧ Run P E k w R
  | .dfr s k, w, R => ∃ d, s.run P w = .ok (.defer d) w ∧ Run P E (k d) w R
  | .dcl d k, w, R => ∃ fv cap f args, d.target = .fn fv cap ∧ (invoke d.target d.args).run P w = .ok (.enter f args) w ∧
      CallsD P f args .returning w fun e u' w' =>
        match e with
        | .returned _ => u' = .returning ∧ Run P E k w' R
        | _ => False
  | .ite v a b, w, R => ∃ t, v = .bool t ∧ (t = true → Run P E a w R) ∧ (t = false → Run P E b w R)
  | .both a b, w, R => Run P E a w R ∧ Run P E b w R
  | .drew p, w, R => Run P E p { w with drawn := w.drawn + 1 } R
  | .loop init body k, w, R => ∃ I : Nat → List Value → World → Prop, (∃ n, I n init w) ∧
      ∀ n vs w, I n vs w → Run P E (body vs) w fun t vs' w' => if t = 0 then ∃ m, m < n ∧ I m vs' w' else Run P E (k t vs') w' R
  | .fail, _, _ => False

theorem Run.mono {P : Program} {E E' : List PanicEntry → World → Prop} (hE : ∀ c w, E c w → E' c w) (p : SP) :
    ∀ {w : World} {R R' : Nat → List Value → World → Prop}, (∀ t vs w, R t vs w → R' t vs w) → Run P E p w R → Run P E' p w R' := by
  induction p with
  | done t vs => intro w R R' hR h; exact hR _ _ _ h
  | bind p k ih ihk => intro w R R' hR h; exact ih (fun t vs w' h' => ihk t vs hR h') h
  | op s k ih => intro w R R' hR h; exact UponS.mono (fun v w' h' => ih v hR h') hE h
  | rd s k ih => intro w R R' hR ⟨v, hv, h⟩; exact ⟨v, hv, ih v hR h⟩
  | chk s v k ih => intro w R R' hR ⟨hv, h⟩; exact ⟨hv, ih hR h⟩
  | dfr s k ih => intro w R R' hR ⟨d, hd, h⟩; exact ⟨d, hd, ih d hR h⟩
  | dcl d k ih =>
    intro w R R' hR ⟨fv, cap, f, args, h1, h2, h3⟩
    refine ⟨fv, cap, f, args, h1, h2, fun c cs hc => ?_⟩
    obtain ⟨e, u', w', fr, h4, h5⟩ := h3 c cs hc
    refine ⟨e, u', w', fr, ?_, h5⟩
    cases e with
    | returned v => exact ⟨h4.1, ih hR h4.2⟩
    | panicked ch => exact h4.elim
    | outgrown => exact h4.elim
  | ite v a b iha ihb => intro w R R' hR ⟨t, ht, h1, h2⟩; exact ⟨t, ht, fun e => iha hR (h1 e), fun e => ihb hR (h2 e)⟩
  | both a b iha ihb => intro w R R' hR ⟨h1, h2⟩; exact ⟨iha hR h1, ihb hR h2⟩
  | drew p ih => intro w R R' hR h; exact ih hR h
  | loop init body k ihb ihk =>
    intro w R R' hR ⟨I, h0, h⟩
    refine ⟨I, h0, fun n vs w hI => ihb vs ?_ (h n vs w hI)⟩
    intro t vs' w' h'
    split
    · rename_i ht; simp only [ht, if_true] at h'; exact h'
    · rename_i ht; simp only [ht, if_false] at h'; exact ihk t vs' hR h'
  | fail => intro w R R' _ h; exact h

/-- A loop with a measure that stands in the relation. -/
theorem wp_loop_n {P : Program} {Q : Exit → Act → World → Prop} {a : Act} {w : World} {c : Code} (I : Nat → Act → World → Prop) (h₀ : ∃ n, I n a w)
    (round : ∀ n a w, I n a w → c.wp P (Exit.then (fun a' w' => ∃ m, m < n ∧ I m a' w') Q) a w) : (Code.loop c).wp P Q a w := by
  intro b k cs
  have key : ∀ n a w, I n a w →
      ∃ e a' w', Q e a' w' ∧ Arrives P (lone (b.at a (.code c :: .inLoop c :: k)) cs w) b k cs e a' w' := by
    intro n
    induction n using Nat.strongRecOn with
    | _ n ih =>
      intro a w hI
      obtain ⟨e, a₁, w₁, hq, harr⟩ := round n a w hI b (.inLoop c :: k) cs
      cases e with
      | normal =>
        obtain ⟨m, hm, hI₁⟩ := hq
        obtain ⟨e₂, a₂, w₂, hq₂, harr₂⟩ := ih m hm a₁ w₁ hI₁
        exact ⟨e₂, a₂, w₂, hq₂, .of_steps (Steps.trans harr (.one step_inLoop)) harr₂⟩
      | exit id => exact ⟨_, a₁, w₁, hq, .pass (x := .inLoop c) rfl (fun _ _ => .inl (by simp)) harr⟩
      | goto l => exact ⟨_, a₁, w₁, hq, .pass (x := .inLoop c) rfl (fun _ _ => .inl (by simp)) harr⟩
      | ret => exact ⟨_, a₁, w₁, hq, .pass (x := .inLoop c) rfl (fun _ _ => .inl (by simp)) harr⟩
      | panic ch => exact ⟨_, a₁, w₁, hq, .pass (x := .inLoop c) rfl (fun _ _ => .inl (by simp)) harr⟩
      | outgrown => exact ⟨_, a₁, w₁, hq, .pass (x := .inLoop c) rfl (fun _ _ => .inl (by simp)) harr⟩
  obtain ⟨n, hn⟩ := h₀
  obtain ⟨e, a', w', hq, harr⟩ := key n a w hn
  exact ⟨e, a', w', hq, .of_steps (.one step_loop) harr⟩

/-- What is known of a frame's temporaries, and its deferred calls. -/
inductive Ent where
  | no
  | val (v : Value)
  | lit (b : Bool)
  | un

def Ent.get : Ent → Option Value
  | .no => none
  | .val v => some v
  | .lit b => some (.bool b)
  | .un => some undef

structure Env where
  t : List Ent
  ds : List Deferred

def lookE (l : List Ent) (i : Nat) : Ent := (l[i]?).getD .no
def look (l : List Ent) (i : Nat) : Option Value := (lookE l i).get

/-- What is known is so. -/
structure EnvRel (e : Env) (a : Act) : Prop where
  size : e.t.length ≤ a.tmps.size
  at_ : ∀ i v, look e.t i = some v → a.tmps[i]? = some v
  ds : a.defers = e.ds

def Env.putE (e : Env) (d : Option Tmp) (x : Ent) : Env :=
  match d with
  | some i => { e with t := e.t.set i x }
  | none => e

def Env.put (e : Env) (d : Option Tmp) (v : Value) : Env := e.putE d (.val v)

theorem lookE_set (l : List Ent) (i j : Nat) (v : Ent) : lookE (l.set i v) j = if i = j ∧ j < l.length then v else lookE l j := by
  unfold lookE
  rw [List.getElem?_set]
  by_cases h : i = j
  · subst h
    by_cases h2 : i < l.length
    · simp [h2]
    · simp [h2]
  · simp [h]

theorem look_set (l : List Ent) (i j : Nat) (v : Ent) : look (l.set i v) j = if i = j ∧ j < l.length then v.get else look l j := by
  unfold look
  rw [lookE_set]
  split <;> rfl

theorem look_out {l : List Ent} {i : Nat} (h : l.length ≤ i) : look l i = none := by
  unfold look lookE
  rw [List.getElem?_eq_none h]
  rfl

theorem EnvRel.putE {e : Env} {a : Act} (h : EnvRel e a) (d : Option Tmp) {x : Ent} {v : Value} (hx : x.get = some v) : EnvRel (e.putE d x) (a.put d v) := by
  cases d with
  | none => exact h
  | some i =>
    refine ⟨by simpa [Env.putE, Act.put] using h.size, fun j u hj => ?_, h.ds⟩
    simp only [Env.putE] at hj
    rw [look_set] at hj
    simp only [Act.put]
    by_cases hij : i = j
    · subst hij
      by_cases hlt : i < e.t.length
      · simp only [hlt, and_self, if_true, hx, Option.some.injEq] at hj
        subst hj
        have := h.size
        have hlt' := Nat.lt_of_lt_of_le hlt this
        simp [hlt']
      · simp only [hlt, and_false, if_false] at hj
        rw [look_out (Nat.le_of_not_lt hlt)] at hj
        cases hj
    · simp only [hij, false_and, if_false] at hj
      rw [Array.getElem?_setIfInBounds_ne hij]
      exact h.at_ j u hj

theorem EnvRel.put {e : Env} {a : Act} (h : EnvRel e a) (d : Option Tmp) (v : Value) : EnvRel (e.put d v) (a.put d v) := h.putE d rfl

/-- An operand's value, if it is known. -/
def Env.ent (e : Env) : Operand → Ent
  | .tmp t => lookE e.t t
  | .const (.bool b) => .lit b
  | .const v => .val v
  | .global g => .val (.pointer (some ⟨g, 0, none⟩))
  | .func f => .val (.func (.func f) #[] #[])

def Env.val (e : Env) (x : Operand) : Option Value := (e.ent x).get

/-- .. and as a function that is total. -/
def Env.ev (e : Env) (x : Operand) : Value := (e.val x).getD undef

def Env.knows (e : Env) (x : Operand) : Bool := (e.val x).isSome

theorem EnvRel.val {e : Env} {a : Act} (h : EnvRel e a) {x : Operand} {v : Value} (hx : e.val x = some v) : a.eval x = v := by
  cases x with
  | tmp t =>
    have := h.at_ t v hx
    simp [Act.eval, Array.getD_eq_getD_getElem?, this]
  | const u => cases u <;> (simp [Env.val, Env.ent, Ent.get] at hx; exact hx)
  | global g => simp [Env.val, Env.ent, Ent.get] at hx; exact hx
  | func f => simp [Env.val, Env.ent, Ent.get] at hx; exact hx

theorem EnvRel.ev {e : Env} {a : Act} (h : EnvRel e a) {x : Operand} (hx : e.knows x = true) : a.eval x = e.ev x := by
  unfold Env.knows at hx
  obtain ⟨v, hv⟩ := Option.isSome_iff_exists.1 hx
  rw [h.val hv, Env.ev, hv]; rfl

/-- An operation over values, written with lists. -/
def xop (ρ : Operand → Value) (o : Oper) : Sem Next :=
  match o.op with
  | .call c =>
    match c.callee with
    | .value (.func f) => callFunc f (c.args.toList.map ρ).toArray
    | .value x => do let d ← Deferred.ofValue (ρ x) (c.args.toList.map ρ).toArray; invoke d.target d.args
    | .builtin b => builtin b c.argTypes o.type (c.args.toList.map fun | .const _ => true | _ => false).toArray (c.args.toList.map ρ).toArray
    | .invoke r m => callMethod (ρ r) m (c.args.toList.map ρ).toArray
  | .defer c =>
    match c.callee with
    | .value x => do pure (.defer (← Deferred.ofValue (ρ x) (c.args.toList.map ρ).toArray))
    | _ => execOp ρ o
  | .build t ps => do pure (.value (← Instr.build t (ps.toList.map fun (i, x) => (i, ρ x)).toArray))
  | .buildSlice t n ps => do pure (.value (← Instr.buildSlice t n (ps.toList.map fun (i, x) => (i, ρ x)).toArray))
  | .makeFunc fn a b => do pure (.value (← Instr.makeFunc fn (a.toList.map ρ).toArray (b.toList.map ρ).toArray))
  | _ => execOp ρ o

theorem mapL {α β : Type} (f : α → β) (as : Array α) : (as.toList.map f).toArray = as.map f := by
  rw [← Array.toList_map, Array.toArray_toList]

theorem Sem.pure_bind' {α β : Type} (a : α) (f : α → Sem β) : (pure a >>= f : Sem β) = f a := rfl

theorem one_append_get {α : Type} (x : α) (as : Array α) : (#[x] ++ as)[0]? = some x := by
  simp [Array.getElem?_append]
theorem one_append_rest {α : Type} (x : α) (as : Array α) : (#[x] ++ as).extract 1 (#[x] ++ as).size = as := by
  apply Array.ext'
  simp

theorem xop_eq (ρ : Operand → Value) (hρ : ∀ f, ρ (.func f) = .func (.func f) #[] #[]) (o : Oper) : xop ρ o = execOp ρ o := by
  obtain ⟨dst, op, type, pos, after, guard⟩ := o
  cases op <;> simp only [xop, execOp, mapL]
  case call c =>
    obtain ⟨callee, args, argTypes⟩ := c
    cases callee with
    | value x =>
      cases x <;> simp only [resolve]
      case func f => simp [Deferred.ofValue, invoke, hρ]
      all_goals rfl
    | builtin b => simp only [resolve]; rfl
    | invoke r m =>
      simp only [resolve, Sem.pure_bind', invoke, one_append_get, one_append_rest]
  case defer c =>
    obtain ⟨callee, args, argTypes⟩ := c
    cases callee <;> simp only [resolve]

end Go.Fr
