/-
  This file proves: a call of a function does what the tree of its body does.
-/
import Derived.Test.YtbnaoejdpggekaaGreatFrDenD
import Derived.Laws.Sem
namespace Go.Fr
open Go

def rslot : ResultVar → Nat
  | .tmp t => t
  | .cell a _ => a

def resOne : ResultVar → Value → Sem Value
  | .tmp _, v => pure v
  | .cell _ t, v => do loadVar t (← asAddr v)

def resAll : List ResultVar → List Value → Sem (List Value)
  | r :: rs, v :: vs => do
    let x ← resOne r v
    let xs ← resAll rs vs
    pure (x :: xs)
  | _, _ => pure []

def tupleOf : List Value → Value
  | [v] => v
  | vs => .tuple vs.toArray

/-- The results, read. -/
def resS (rs : List ResultVar) (vs : List Value) : Sem Value := do pure (tupleOf (← resAll rs vs))

theorem tupleOf_eq (l : List Value) : tupleOf l = if h : l.toArray.size = 1 then l.toArray[0] else .tuple l.toArray := by
  match l with
  | [] => simp [tupleOf]
  | [v] => simp [tupleOf]
  | a :: b :: r => simp [tupleOf]

theorem resAll_eq (tmps : Array Value) : ∀ (rs : List ResultVar) (vs : List Value), rs.length = vs.length →
    (∀ (i : Nat) (r : ResultVar), rs[i]? = some r → ∃ v, vs[i]? = some v ∧ tmps[rslot r]? = some v) →
    rs.mapM (m := Sem) (fun | .tmp t => pure (tmps.getD t undef) | .cell a t => do loadVar t (← asAddr (tmps.getD a undef))) = resAll rs vs := by
  intro rs
  induction rs with
  | nil => intro vs h _; cases vs <;> simp_all [resAll]
  | cons r rs ih =>
    intro vs h hv
    cases vs with
    | nil => simp at h
    | cons v vs =>
      have hr := hv 0 r rfl
      obtain ⟨v', hv', ht⟩ := hr
      simp only [List.getElem?_cons_zero, Option.some.injEq] at hv'
      subst hv'
      rw [List.mapM_cons, ih vs (by simpa using h) fun i r' hi => hv (i + 1) r' hi]
      simp only [resAll]
      cases r with
      | tmp t => simp only [rslot] at ht; simp [resOne, Array.getD_eq_getD_getElem?, ht]
      | cell a t => simp only [rslot] at ht; simp [resOne, Array.getD_eq_getD_getElem?, ht]

theorem results_eq {fn : Func} {tmps : Array Value} {vs : List Value} (hl : fn.results.toList.length = vs.length)
    (hv : ∀ (i : Nat) (r : ResultVar), fn.results.toList[i]? = some r → ∃ v, vs[i]? = some v ∧ tmps[rslot r]? = some v) :
    results fn tmps = resS fn.results.toList vs := by
  unfold results resS
  rw [← resAll_eq tmps _ vs hl hv]
  rw [Array.mapM_eq_mapM_toList]
  simp only [bind_assoc, map_eq_pure_bind, pure_bind, tupleOf_eq]
  rfl

theorem getL_spec {e : Env} {a : Act} (he : EnvRel e a) : ∀ {rs : List Nat} {vs : List Value}, getL e rs = some vs →
    rs.length = vs.length ∧ ∀ (i t : Nat), rs[i]? = some t → ∃ v, vs[i]? = some v ∧ a.tmps[t]? = some v := by
  intro rs
  induction rs with
  | nil => intro vs h; cases h; exact ⟨rfl, by simp⟩
  | cons r rs ih =>
    intro vs h
    unfold getL at h
    split at h
    · rename_i v us hv hus
      cases h
      obtain ⟨h1, h2⟩ := ih hus
      refine ⟨by simp [h1], fun i t hi => ?_⟩
      cases i with
      | zero => simp only [List.getElem?_cons_zero, Option.some.injEq] at hi; subst hi; exact ⟨v, rfl, he.at_ _ _ hv⟩
      | succ i => exact h2 i t hi
    · cases h

/-- Behind the body: the deferred calls, the last one first; then the results. -/
def fin (rs : List ResultVar) (vs : List Value) : List Deferred → SP
  | [] => .rd (do pure (.value (← resS rs vs))) fun v => .done 0 [v]
  | d :: ds => .dcl d (fin rs vs ds)

/-- The tree of a function's body. -/
def denF (fn : Func) (A : Ann) (args : List Value) : SP :=
  match fn.body with
  | none => .fail
  | some c =>
    den (fn.results.toList.map rslot) A c 0 1 ⟨args.map .val ++ List.replicate (fn.ntmps - args.length) .un, []⟩
      (fun e => retK (fn.results.toList.map rslot) e (fin fn.results.toList)) (fun _ _ => .fail) (fin fn.results.toList)

theorem envRel_start (n : Nat) (args : List Value) :
    EnvRel ⟨args.map .val ++ List.replicate (n - args.length) .un, []⟩ { tmps := args.toArray ++ Array.replicate (n - args.toArray.size) undef, defers := [] } := by
  refine ⟨by simp, fun i v hi => ?_, rfl⟩
  unfold look lookE at hi
  simp only [List.getElem?_append, List.length_map, List.getElem?_map, List.getElem?_replicate] at hi
  simp only [Array.getElem?_append, List.size_toArray, List.getElem?_toArray, Array.getElem?_replicate]
  split at hi
  · rename_i h
    rw [if_pos h]
    cases hx : args[i]? with
    | none => simp [hx, Ent.get] at hi
    | some x => simp [hx, Ent.get] at hi; rw [hi]
  · rename_i h
    rw [if_neg h]
    split at hi
    · rename_i h'; simp only [Option.getD_some, Ent.get, Option.some.injEq] at hi; rw [if_pos h', hi]
    · simp [Ent.get] at hi

theorem fin_run {P : Program} {fn : Func} {tmps : Array Value} {vs : List Value} {E : List PanicEntry → World → Prop} {R : Value → World → Prop} {RR : Ending → World → Prop}
    (hR : ∀ v w, R v w → RR (.returned v) w)
    (hr : results fn tmps = resS fn.results.toList vs) : ∀ (ds : List Deferred) (w : World), Run P E (fin fn.results.toList vs ds) w (fun _ vs w' => R (vs.headD undef) w') →
    Leaves P fn tmps RR ds .returning w := by
  intro ds
  induction ds with
  | nil =>
    intro w h
    obtain ⟨v, hv, h⟩ := h
    refine ⟨v, ?_, hR _ _ h⟩
    rw [hr]
    cases hx : (resS fn.results.toList vs).run P w with
    | ok x w1 => simp [hx] at hv; obtain ⟨rfl, rfl⟩ := hv; rfl
    | halt x w1 => simp [hx] at hv
  | cons d ds ih =>
    intro w h
    obtain ⟨fv, cap, f, args, h1, h2, h3⟩ := h
    refine ⟨by simp, fv, cap, f, args, h1, h2, fun c cs hc => ?_⟩
    obtain ⟨e, u', w', fr, h4, h5⟩ := h3 c cs hc
    refine ⟨e, u', w', fr, ?_, h5⟩
    cases e with
    | returned v => obtain ⟨rfl, h6⟩ := h4; exact ih w' h6
    | panicked ch => exact h4.elim
    | outgrown => exact h4.elim

/-- What the tree does, the call does. -/
theorem calls_of_den {P : Program} (hm : P.follows .mixedOrders = true) {f : FuncId} {fn : Func} {A : Ann} {args : List Value} {w : World} {R : Value → World → Prop}
    (hf : P.funcs[f]? = some fn) (h : Run P (fun _ _ => False) (denF fn A args) w fun _ vs w' => R (vs.headD undef) w') :
    Calls P f args.toArray w fun e w' => ∃ v, e = .returned v ∧ R v w' := by
  unfold denF at h
  cases hb : fn.body with
  | none => simp only [hb] at h; exact h.elim
  | some c =>
    simp only [hb] at h
    refine calls_of_wp_defers hf hb ?_
    have key : ∀ vs (e' : Env) (a' : Act) w', EnvRel e' a' → getL e' (fn.results.toList.map rslot) = some vs →
        Run P (fun _ _ => False) (fin fn.results.toList vs e'.ds) w' (fun _ vs w' => R (vs.headD undef) w') →
        Leaves P fn a'.tmps (fun e w' => ∃ v, e = .returned v ∧ R v w') a'.defers .returning w' := by
      intro vs e' a' w' he hvs h
      obtain ⟨hl, hv⟩ := getL_spec he hvs
      rw [he.ds]
      refine fin_run (R := R) (fun v w h => ⟨v, rfl, h⟩) (results_eq (by simpa using hl) fun i r hi => ?_) e'.ds w' h
      exact hv i (rslot r) (by rw [List.getElem?_map, hi]; rfl)
    refine den_sound hm c 0 1 _ _ _ _ _ _ _ w c rfl (envRel_start fn.ntmps args) ⟨?_, ?_, ?_, ?_⟩ h
    · intro e' a' w' he _ _ h
      unfold retK at h
      split at h
      · rename_i vs hvs; exact key vs e' a' w' he hvs h
      · exact h.elim
    · intro id e' a' w' _ _ _ h; exact h.elim
    · intro vs e' a' w' he _ hvs h; exact key vs e' a' w' he hvs h
    · intro ch a' w' _ h; exact h.elim

/-- .. and a panic goes through, where nothing is deferred. -/
theorem calls_of_den_panic {P : Program} (hm : P.follows .mixedOrders = true) {f : FuncId} {fn : Func} {A : Ann} {args : List Value} {w : World} {R : Value → World → Prop} {E : List PanicEntry → World → Prop}
    (hf : P.funcs[f]? = some fn) (hd : (fn.body.any noDef) = true) (h : Run P E (denF fn A args) w fun _ vs w' => R (vs.headD undef) w') :
    Calls P f args.toArray w fun
      | .returned v, w' => R v w'
      | .panicked ch, w' => E ch w'
      | .outgrown, _ => False := by
  unfold denF at h
  cases hb : fn.body with
  | none => simp only [hb] at h; exact h.elim
  | some c =>
    simp only [hb] at h hd
    refine calls_of_wp_defers hf hb ?_
    have key : ∀ vs (e' : Env) (a' : Act) w', EnvRel e' a' → getL e' (fn.results.toList.map rslot) = some vs →
        Run P E (fin fn.results.toList vs e'.ds) w' (fun _ vs w' => R (vs.headD undef) w') →
        Leaves P fn a'.tmps (fun e w' => match (generalizing := false) e, w' with
          | .returned v, w' => R v w' | .panicked ch, w' => E ch w' | .outgrown, _ => False) a'.defers .returning w' := by
      intro vs e' a' w' he hvs h
      obtain ⟨hl, hv⟩ := getL_spec he hvs
      rw [he.ds]
      refine fin_run (R := R) (fun v w h => h) (results_eq (by simpa using hl) fun i r hi => ?_) e'.ds w' h
      exact hv i (rslot r) (by rw [List.getElem?_map, hi]; rfl)
    refine den_sound hm c 0 1 _ _ _ _ _ _ _ w c rfl (envRel_start fn.ntmps args) ⟨?_, ?_, ?_, ?_⟩ h
    · intro e' a' w' he _ _ h
      unfold retK at h
      split at h
      · rename_i vs hvs; exact key vs e' a' w' he hvs h
      · exact h.elim
    · intro id e' a' w' _ _ _ h; exact h.elim
    · intro vs e' a' w' he _ hvs h; exact key vs e' a' w' he hvs h
    · intro ch a' w' hds h
      show Leaves P fn a'.tmps _ a'.defers (.panicking ch) w'
      rw [hds (by simpa using hd)]
      exact h
end Go.Fr
