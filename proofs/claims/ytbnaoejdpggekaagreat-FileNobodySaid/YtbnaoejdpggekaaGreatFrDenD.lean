/-
  This file is a part of the proof that trees of operations tell what code does.
-/
import Derived.Test.YtbnaoejdpggekaaGreatFrDenC
namespace Go.Fr
open Go

/-- Which temporaries live on behind a piece of code: by the piece's number, by how it was left (0: at its end; 2 + n: exit n). -/
abbrev Ann := List (Nat × List (Nat × List Nat))

/-- What is said of number p, if all of it is written there. -/
def Ann.of (A : Ann) (S : List Nat) (p : Nat) : Option (List (Nat × List Nat)) :=
  match A.find? (·.1 == p) with
  | none => none
  | some x => if x.2.all fun y => y.2.all fun i => S.contains i then some x.2 else none
def slotsOf (l : List (Nat × List Nat)) (t : Nat) : List Nat := ((l.find? (·.1 == t)).map (·.2)).getD []

def getL (e : Env) : List Nat → Option (List Value)
  | [] => some []
  | i :: r =>
    match look e.t i, getL e r with
    | some v, some vs => some (v :: vs)
    | _, _ => none

def eraseL (l : List Ent) : List Nat → List Ent
  | [] => l
  | i :: r => eraseL (l.set i .no) r

def setL (l : List Ent) : List Nat → List Value → List Ent
  | [], _ => l
  | i :: r, vs => setL (l.set i (.val (vs.headD undef))) r vs.tail

/-- What is known behind a piece of code that writes 'S', of which 'L' was handed on. -/
def Env.back (e : Env) (S L : List Nat) (vs : List Value) : Env := { e with t := setL (eraseL e.t S) L vs }

def asg : Code → List Nat
  | .region _ ops _ => dstsOf ops
  | .seq a b => asg a ++ asg b
  | .cond _ a b => asg a ++ asg b
  | .block _ c | .loop c | .scope c => asg c
  | _ => []

def noDef : Code → Bool
  | .region _ ops _ => noDefOps ops
  | .seq a b => noDef a && noDef b
  | .cond _ a b => noDef a && noDef b
  | .block _ c | .loop c | .scope c => noDef c
  | _ => true

/-- Handing on: what lives, if all of it is known. -/
def hand (e : Env) (t : Nat) (L : List Nat) : SP :=
  match getL e L with
  | some vs => .done t vs
  | none => .fail

def retK (rs : List Nat) (e : Env) (kr : List Value → List Deferred → SP) : SP :=
  match getL e rs with
  | some vs => kr vs e.ds
  | none => .fail

/-- Behind a piece that was handed on: by how it was left. -/
def join (e : Env) (S : List Nat) (kn : Env → SP) (ke : Nat → Env → SP) (kr : List Value → List Deferred → SP) : List (Nat × List Nat) → Nat → List Value → SP
  | [], _, _ => .fail
  | (g, L) :: r, t, vs =>
    if t = g then
      match g with
      | 0 => kn (e.back S L vs)
      | 1 => kr vs e.ds
      | n + 2 => ke n (e.back S L vs)
    else join e S kn ke kr r t vs

def handN (l : List (Nat × List Nat)) (e : Env) : SP := hand e 0 (slotsOf l 0)
def handE (l : List (Nat × List Nat)) (id : Nat) (e : Env) : SP := hand e (2 + id) (slotsOf l (2 + id))
def handR (vs : List Value) (_ : List Deferred) : SP := .done 1 vs

/-- Jumps to labels are exits from here on. -/
def gb : Nat := 1000

def exitOf (n : Nat) : Exit := if n < gb then .exit n else .goto (n - gb)

def hasLabel : Code → Nat → Bool
  | .seq a b, l => hasLabel a l || hasLabel b l
  | .label l', l => l' == l
  | _, _ => false

/-- Is it a jump into a piece? -/
def intoIt (c : Code) (id : Nat) : Bool := Nat.ble gb id && hasLabel c (id - gb)

/-- The tree of a piece of code, from its beginning (0) or from a label on. -/
def den (rs : List Nat) (A : Ann) : Code → Nat → Nat → Env → (Env → SP) → (Nat → Env → SP) → (List Value → List Deferred → SP) → SP
  | .skip, _, _, e, kn, _, _ => kn e
  | .label _, _, _, e, kn, _, _ => kn e
  | .region _ ops draw, _, p, e, kn, ke, kr =>
    if noDefOps ops then
      match A.of (dstsOf ops) p with
      | none => denReg ops draw e kn
      | some l => .bind (denReg ops draw e (handN l)) (join e (dstsOf ops) kn ke kr l)
    else denReg ops draw e kn
  | .seq a b, fr, p, e, kn, ke, kr =>
    match fr with
    | 0 => den rs A a 0 (2 * p) e (fun e => den rs A b 0 (2 * p + 1) e kn ke kr) ke kr
    | l + 1 => if hasLabel a l then den rs A a (l + 1) (2 * p) e (fun e => den rs A b 0 (2 * p + 1) e kn ke kr) ke kr else den rs A b (l + 1) (2 * p + 1) e kn ke kr
  | .cond c a b, _, p, e, kn, ke, kr =>
    match e.ent c with
    | .no | .un => .fail
    | .lit true => den rs A a 0 (2 * p) e kn ke kr
    | .lit false => den rs A b 0 (2 * p + 1) e kn ke kr
    | .val v =>
      if noDef a && noDef b then
        match A.of (asg a ++ asg b) p with
        | none => .ite v (den rs A a 0 (2 * p) e kn ke kr) (den rs A b 0 (2 * p + 1) e kn ke kr)
        | some l =>
          .bind (.ite v (den rs A a 0 (2 * p) e (handN l) (handE l) handR) (den rs A b 0 (2 * p + 1) e (handN l) (handE l) handR))
            (join e (asg a ++ asg b) kn ke kr l)
      else .ite v (den rs A a 0 (2 * p) e kn ke kr) (den rs A b 0 (2 * p + 1) e kn ke kr)
  | .block id c, _, p, e, kn, ke, kr =>
    if id < gb then
      if noDef c then
        match A.of (asg c) p with
        | none => den rs A c 0 (2 * p) e kn (fun id' e => if id' = id then kn e else ke id' e) kr
        | some l =>
          .bind (den rs A c 0 (2 * p) e (handN l) (fun id' e' => if id' = id then handN l e' else handE l id' e') handR) (join e (asg c) kn ke kr l)
      else den rs A c 0 (2 * p) e kn (fun id' e => if id' = id then kn e else ke id' e) kr
    else .fail
  | .loop c, _, p, e, _, ke, kr =>
    if noDef c then
      match A.of (asg c) p with
      | none => .fail
      | some l =>
        match getL e (slotsOf l 0) with
        | none => .fail
        | some init =>
          .loop init (fun vs => den rs A c 0 (2 * p) (e.back (asg c) (slotsOf l 0) vs) (handN l) (handE l) handR) (join e (asg c) (fun _ => .fail) ke kr l)
    else .fail
  | .exit id, _, _, e, _, ke, _ => if id < gb then ke id e else .fail
  | .scope c, _, p, e, kn, ke, kr =>
    den rs A c 0 (2 * p) e kn (fun id e' => if intoIt c id then den rs A c (id - gb + 1) (2 * p) e' kn (fun id e => if intoIt c id then .fail else ke id e) kr else ke id e') kr
  | .ret, _, _, e, _, _, kr => retK rs e kr
  | .goto l, _, _, e, _, ke, _ => ke (gb + l) e
  | .rangeFunc .., _, _, _, _, _, _ => .fail
  | .refuse _, _, _, _, _, _, _ => .fail

-- ------------------------------------------------------------ is right

theorem length_eraseL : ∀ (S : List Nat) (l : List Ent), (eraseL l S).length = l.length := by
  intro S
  induction S with
  | nil => intro l; rfl
  | cons i r ih => intro l; simp [eraseL, ih]

theorem length_setL : ∀ (L : List Nat) (vs : List Value) (l : List Ent), (setL l L vs).length = l.length := by
  intro L
  induction L with
  | nil => intro vs l; rfl
  | cons i r ih => intro vs l; simp [setL, ih]

theorem look_eraseL : ∀ (S : List Nat) (l : List Ent) (i : Nat) (v : Value), look (eraseL l S) i = some v → i ∉ S ∧ look l i = some v := by
  intro S
  induction S with
  | nil => intro l i v h; exact ⟨by simp, h⟩
  | cons j r ih =>
    intro l i v h
    obtain ⟨h1, h2⟩ := ih _ i v h
    rw [look_set] at h2
    split at h2
    · cases h2
    · rename_i hij
      refine ⟨?_, h2⟩
      simp only [List.mem_cons, not_or]
      refine ⟨fun he => ?_, h1⟩
      subst he
      apply hij
      refine ⟨rfl, ?_⟩
      rcases Nat.lt_or_ge i l.length with h' | h'
      · exact h'
      · rw [look_out h'] at h2; cases h2

theorem look_setL {e' : Env} : ∀ (L : List Nat) (vs : List Value) (l : List Ent) (i : Nat) (v : Value), getL e' L = some vs → look (setL l L vs) i = some v →
    look e'.t i = some v ∨ look l i = some v := by
  intro L
  induction L with
  | nil => intro vs l i v _ h; exact .inr h
  | cons j r ih =>
    intro vs l i v hg h
    unfold getL at hg
    split at hg
    · rename_i u us hu hus
      simp only [Option.some.injEq] at hg
      subst hg
      simp only [setL, List.headD_cons, List.tail_cons] at h
      rcases ih us _ i v hus h with h1 | h1
      · exact .inl h1
      · rw [look_set] at h1
        split at h1
        · rename_i hij
          obtain ⟨rfl, _⟩ := hij
          cases h1
          exact .inl hu
        · exact .inr h1
    · cases hg

/-- What is known behind a piece is so. -/
theorem EnvRel.back {e e' : Env} {a' : Act} {S L : List Nat} {vs : List Value} (h : EnvRel e' a') (hag : Agree S e e') (hds : e'.ds = e.ds) (hg : getL e' L = some vs) :
    EnvRel (e.back S L vs) a' := by
  refine ⟨?_, fun i v hi => ?_, h.ds.trans hds⟩
  · simp only [Env.back, length_setL, length_eraseL, ← hag.len]; exact h.size
  · simp only [Env.back] at hi
    rcases look_setL L vs _ i v hg hi with h1 | h1
    · exact h.at_ i v h1
    · obtain ⟨hn, h2⟩ := look_eraseL S e.t i v h1
      rw [← hag.at_ i hn] at h2
      exact h.at_ i v h2

theorem look_eraseL_out : ∀ (S : List Nat) (l : List Ent) (i : Nat), i ∉ S → look (eraseL l S) i = look l i := by
  intro S
  induction S with
  | nil => intro l i _; rfl
  | cons j r ih =>
    intro l i h
    simp only [List.mem_cons, not_or] at h
    simp only [eraseL]
    rw [ih _ i h.2, look_set, if_neg]
    rintro ⟨rfl, _⟩
    exact h.1 rfl

theorem look_setL_out : ∀ (L : List Nat) (vs : List Value) (l : List Ent) (i : Nat), i ∉ L → look (setL l L vs) i = look l i := by
  intro L
  induction L with
  | nil => intro vs l i _; rfl
  | cons j r ih =>
    intro vs l i h
    simp only [List.mem_cons, not_or] at h
    simp only [setL]
    rw [ih _ _ i h.2, look_set, if_neg]
    rintro ⟨rfl, _⟩
    exact h.1 rfl

theorem Agree.back {e : Env} {S L : List Nat} {vs : List Value} (hL : ∀ i ∈ L, i ∈ S) : Agree S e (e.back S L vs) := by
  refine ⟨by simp [Env.back, length_setL, length_eraseL], fun i hi => ?_⟩
  simp only [Env.back]
  rw [look_setL_out _ _ _ _ (fun h => hi (hL i h)), look_eraseL_out _ _ _ hi]

theorem Ann.of_mem {A : Ann} {S : List Nat} {p : Nat} {l : List (Nat × List Nat)} (h : A.of S p = some l) (t : Nat) : ∀ i ∈ slotsOf l t, i ∈ S := by
  unfold Ann.of at h
  split at h
  · cases h
  · rename_i x _
    split at h
    · rename_i hx
      cases h
      intro i hi
      unfold slotsOf at hi
      cases hf : x.2.find? (·.1 == t) with
      | none => simp [hf] at hi
      | some y =>
        simp only [hf, Option.map_some, Option.getD_some] at hi
        rw [List.all_eq_true] at hx
        have h1 := hx y (List.mem_of_find?_eq_some hf)
        rw [List.all_eq_true] at h1
        exact by simpa using h1 i hi
    · cases h

/-- What is asked of the continuations. -/
structure Good (P : Program) (E : List PanicEntry → World → Prop) (R : Nat → List Value → World → Prop) (rs : List Nat) (c : Code) (e : Env)
    (kn : Env → SP) (ke : Nat → Env → SP) (kr : List Value → List Deferred → SP) (Q : Exit → Act → World → Prop) : Prop where
  n : ∀ e' a' w', EnvRel e' a' → Agree (asg c) e e' → (noDef c = true → e'.ds = e.ds) → Run P E (kn e') w' R → Q .normal a' w'
  x : ∀ id e' a' w', EnvRel e' a' → Agree (asg c) e e' → (noDef c = true → e'.ds = e.ds) → Run P E (ke id e') w' R → Q (exitOf id) a' w'
  r : ∀ vs e' a' w', EnvRel e' a' → (noDef c = true → e'.ds = e.ds) → getL e' rs = some vs → Run P E (kr vs e'.ds) w' R → Q .ret a' w'
  p : ∀ ch a' w', (noDef c = true → a'.defers = e.ds) → E ch w' → Q (.panic ch) a' w'

theorem hand_run {P : Program} {E : List PanicEntry → World → Prop} {R : Nat → List Value → World → Prop} {e : Env} {t : Nat} {L : List Nat} {w : World}
    (h : Run P E (hand e t L) w R) : ∃ vs, getL e L = some vs ∧ R t vs w := by
  unfold hand at h
  split at h
  · rename_i vs hvs; exact ⟨vs, hvs, h⟩
  · exact h.elim

theorem slotsOf_cons (g : Nat) (L : List Nat) (r : List (Nat × List Nat)) (t : Nat) : slotsOf ((g, L) :: r) t = if g = t then L else slotsOf r t := by
  unfold slotsOf
  rw [List.find?_cons]
  by_cases h : g = t
  · simp [h]
  · have : ((g, L).1 == t) = false := by simpa using h
    simp only [this, h, if_false]

/-- What the join goes on with. -/
theorem join_run {P : Program} {E : List PanicEntry → World → Prop} {R : Nat → List Value → World → Prop} {e : Env} {S : List Nat} {kn : Env → SP} {ke : Nat → Env → SP}
    {kr : List Value → List Deferred → SP} {w : World} : ∀ (l : List (Nat × List Nat)) (t : Nat) (vs : List Value), Run P E (join e S kn ke kr l t vs) w R →
    (t = 0 ∧ Run P E (kn (e.back S (slotsOf l 0) vs)) w R) ∨ (t = 1 ∧ Run P E (kr vs e.ds) w R) ∨ (∃ n, t = 2 + n ∧ Run P E (ke n (e.back S (slotsOf l (2 + n)) vs)) w R) := by
  intro l
  induction l with
  | nil => intro t vs h; exact h.elim
  | cons x r ih =>
    obtain ⟨g, L⟩ := x
    intro t vs h
    unfold join at h
    by_cases ht : t = g
    · simp only [ht, if_true] at h
      subst ht
      match t, h with
      | 0, h => exact .inl ⟨rfl, by rw [slotsOf_cons, if_pos rfl]; exact h⟩
      | 1, h => exact .inr (.inl ⟨rfl, h⟩)
      | n + 2, h => exact .inr (.inr ⟨n, by omega, by rw [slotsOf_cons, if_pos (by omega)]; exact h⟩)
    · simp only [ht, if_false] at h
      rcases ih t vs h with ⟨h1, h2⟩ | h1 | ⟨n, h1, h2⟩
      · exact .inl ⟨h1, by rw [slotsOf_cons, if_neg (by omega)]; exact h2⟩
      · exact .inr (.inl h1)
      · exact .inr (.inr ⟨n, h1, by rw [slotsOf_cons, if_neg (by omega)]; exact h2⟩)

section
variable {P : Program} {E : List PanicEntry → World → Prop} {rs : List Nat} {A : Ann}

/-- A piece that is handed on: what its continuations must be good for. -/
theorem Good.handed {R : Nat → List Value → World → Prop} {c c' : Code} {e : Env} {kn : Env → SP} {ke : Nat → Env → SP} {kr : List Value → List Deferred → SP}
    {Q : Exit → Act → World → Prop} {l : List (Nat × List Nat)} (hg : Good P E R rs c e kn ke kr Q) (hd' : noDef c' = true) (hs : ∀ i ∈ asg c', i ∈ asg c)
    (hl : ∀ t, ∀ i ∈ slotsOf l t, i ∈ asg c) :
    Good P E (fun t vs w' => Run P E (join e (asg c) kn ke kr l t vs) w' R) rs c' e (handN l) (handE l) handR Q where
  n e' a' w' he hag hds h := by
    obtain ⟨vs, hvs, h⟩ := hand_run h
    have hag' := hag.more hs
    rcases join_run _ _ _ h with ⟨_, h⟩ | ⟨h0, _⟩ | ⟨n, h0, _⟩
    · exact hg.n _ a' w' (he.back hag' (hds hd') hvs) (.back (hl 0)) (fun _ => rfl) h
    · omega
    · omega
  x id e' a' w' he hag hds h := by
    obtain ⟨vs, hvs, h⟩ := hand_run h
    have hag' := hag.more hs
    rcases join_run _ _ _ h with ⟨h0, _⟩ | ⟨h0, _⟩ | ⟨n, h0, h1⟩
    · omega
    · omega
    · obtain rfl : n = id := by omega
      exact hg.x n _ a' w' (he.back hag' (hds hd') hvs) (.back (hl _)) (fun _ => rfl) h1
  r vs e' a' w' he hds hvs h := by
    refine hg.r vs e' a' w' he (fun _ => hds hd') hvs ?_
    rw [hds hd']
    rcases join_run _ _ _ (show Run P E (join e (asg c) kn ke kr l 1 vs) w' R from h) with ⟨h0, _⟩ | ⟨_, h1⟩ | ⟨n, h0, _⟩
    · omega
    · exact h1
    · omega
  p ch a' w' hds h := hg.p ch a' w' (fun _ => hds hd') h

theorem exitOf_cases (n : Nat) : (n < gb ∧ exitOf n = .exit n) ∨ (gb ≤ n ∧ exitOf n = .goto (n - gb)) := by
  unfold exitOf
  by_cases h : n < gb
  · exact .inl ⟨h, if_pos h⟩
  · exact .inr ⟨by omega, if_neg h⟩

theorem then_exitOf {next : Act → World → Prop} {Q : Exit → Act → World → Prop} {id : Nat} {a : Act} {w : World} (h : Q (exitOf id) a w) : Exit.then next Q (exitOf id) a w := by
  rcases exitOf_cases id with ⟨_, e⟩ | ⟨_, e⟩ <;> rw [e] at h ⊢ <;> exact h

theorem findLabel_has : ∀ (c : Code) (l : Nat), (findLabel c l).isSome = hasLabel c l := by
  intro c
  induction c <;> intro l <;> try rfl
  case seq a b iha ihb =>
    unfold findLabel hasLabel
    rw [← iha, ← ihb]
    cases findLabel a l <;> simp
  case label l' =>
    unfold findLabel hasLabel
    split <;> simp_all

theorem findLabel_none {c : Code} {l : Nat} (h : hasLabel c l = false) : findLabel c l = none := by
  have := findLabel_has c l
  rw [h] at this
  simpa using this

/-- What is run from a place of the code on. -/
def codeFrom (c : Code) : Nat → Option Code
  | 0 => some c
  | l + 1 => findLabel c l

/-- Jumps out of a piece, none into it. -/
def noGoIn (c : Code) (Q : Exit → Act → World → Prop) : Exit → Act → World → Prop
  | .goto l, a, w => findLabel c l = none ∧ Q (.goto l) a w
  | e, a, w => Q e a w

/-- .. or into it, once. -/
def oneGoIn (P : Program) (c : Code) (Q : Exit → Act → World → Prop) : Exit → Act → World → Prop
  | .goto l, a, w => (findLabel c l = none ∧ Q (.goto l) a w) ∨ ∃ rest, findLabel c l = some rest ∧ rest.wp P (noGoIn c Q) a w
  | e, a, w => Q e a w

theorem wp_scope_one {P : Program} {Q : Exit → Act → World → Prop} {a : Act} {w : World} {c : Code} (h : c.wp P (oneGoIn P c Q) a w) : (Code.scope c).wp P Q a w := by
  have out : ∀ {l : Nat} {k k' : List Item}, findLabel c l = none → gotoIn l k = some k' → gotoIn l (.inScope c :: k) = some k' := fun h1 h2 => by simp [gotoIn, h1, h2]
  intro b k cs
  obtain ⟨e, a₁, w₁, hq, harr⟩ := h b (.inScope c :: k) cs
  cases e with
  | normal => exact ⟨.normal, a₁, w₁, hq, .head step_scope (Steps.trans harr (.one step_inScope))⟩
  | exit id => exact ⟨.exit id, a₁, w₁, hq, fun k' hk => .head step_scope (harr k' (by simp [exitTo, hk]))⟩
  | goto l =>
    rcases hq with ⟨h1, hq⟩ | ⟨rest, h1, h2⟩
    · exact ⟨.goto l, a₁, w₁, hq, fun k' hk => .head step_scope (harr k' (out h1 hk))⟩
    · have hs := harr (.code rest :: .inScope c :: k) (by simp [gotoIn, h1])
      obtain ⟨e, a₂, w₂, hq, harr⟩ := h2 b (.inScope c :: k) cs
      cases e with
      | normal => exact ⟨.normal, a₂, w₂, hq, .head step_scope (Steps.trans hs (Steps.trans harr (.one step_inScope)))⟩
      | exit id => exact ⟨.exit id, a₂, w₂, hq, fun k' hk => .head step_scope (Steps.trans hs (harr k' (by simp [exitTo, hk])))⟩
      | goto l => exact ⟨.goto l, a₂, w₂, hq.2, fun k' hk => .head step_scope (Steps.trans hs (harr k' (out hq.1 hk)))⟩
      | ret => exact ⟨_, a₂, w₂, hq, .of_steps (.head step_scope hs) harr⟩
      | panic ch => exact ⟨_, a₂, w₂, hq, .of_steps (.head step_scope hs) harr⟩
      | outgrown => exact ⟨_, a₂, w₂, hq, .of_steps (.head step_scope hs) harr⟩
  | ret => exact ⟨_, a₁, w₁, hq, .of_steps (.one step_scope) harr⟩
  | panic ch => exact ⟨_, a₁, w₁, hq, .of_steps (.one step_scope) harr⟩
  | outgrown => exact ⟨_, a₁, w₁, hq, .of_steps (.one step_scope) harr⟩

theorem den_sound (hm : P.follows .mixedOrders = true) : ∀ (c : Code) (fr p : Nat) (e : Env) (kn : Env → SP) (ke : Nat → Env → SP) (kr : List Value → List Deferred → SP)
    (R : Nat → List Value → World → Prop) (Q : Exit → Act → World → Prop) (a : Act) (w : World) (c' : Code), codeFrom c fr = some c' → EnvRel e a → Good P E R rs c e kn ke kr Q →
    Run P E (den rs A c fr p e kn ke kr) w R → c'.wp P Q a w := by
  intro c
  induction c with
  | skip => intro fr p e kn ke kr R Q a w c' hc' he hg h; cases fr <;> cases hc'; exact wp_skip (hg.n e a w he (.refl _ _) (fun _ => rfl) h)
  | label l =>
    intro fr p e kn ke kr R Q a w c' hc' he hg h
    have h1 := hg.n e a w he (.refl _ _) (fun _ => rfl) h
    cases fr with
    | zero => cases hc'; exact wp_label h1
    | succ l' =>
      simp only [codeFrom, findLabel] at hc'
      split at hc'
      · cases hc'; exact wp_skip h1
      · cases hc'
  | exit id =>
    intro fr p e kn ke kr R Q a w c' hc' he hg h
    cases fr <;> cases hc'
    unfold den at h
    split at h
    · rename_i hid
      have h1 := hg.x id e a w he (.refl _ _) (fun _ => rfl) h
      rw [exitOf, if_pos hid] at h1
      exact wp_exit h1
    · exact h.elim
  | goto l =>
    intro fr p e kn ke kr R Q a w c' hc' he hg h
    cases fr <;> cases hc'
    have h1 := hg.x (gb + l) e a w he (.refl _ _) (fun _ => rfl) h
    rw [exitOf, if_neg (by omega), Nat.add_sub_cancel_left] at h1
    exact wp_goto h1
  | rangeFunc f ps x y _ _ => intro fr p e kn ke kr R Q a w c' hc' he hg h; exact h.elim
  | refuse s => intro fr p e kn ke kr R Q a w c' hc' he hg h; exact h.elim
  | ret =>
    intro fr p e kn ke kr R Q a w c' hc' he hg h
    cases fr <;> cases hc'
    unfold den retK at h
    split at h
    · rename_i vs hvs; exact wp_ret (hg.r vs e a w he (fun _ => rfl) hvs h)
    · exact h.elim
  | region id ops draw =>
    intro fr p e kn ke kr R Q a w c' hc' he hg h
    cases fr <;> cases hc'
    have plain : Run P E (denReg ops draw e kn) w R → (Code.region id ops draw).wp P Q a w := fun h =>
      denReg_sound hm he (fun e' a' w' h1 h2 h3 h4 => hg.n e' a' w' h1 h2 h3 h4) (fun ch a' w' h1 h2 => hg.p ch a' w' h1 h2) h
    unfold den at h
    by_cases hn : noDefOps ops = true
    · simp only [hn, if_true] at h
      cases hA : A.of (dstsOf ops) p with
      | none => simp only [hA] at h; exact plain h
      | some l =>
        simp only [hA] at h
        have hh := hg.handed (c' := .region id ops draw) (l := l) hn (fun i hi => hi) (fun t => Ann.of_mem hA t)
        exact denReg_sound hm he (fun e' a' w' h1 h2 h3 h4 => hh.n e' a' w' h1 h2 h3 h4) (fun ch a' w' h1 h2 => hh.p ch a' w' h1 h2) h
    · simp only [hn] at h; exact plain h
  | seq x y ihx ihy =>
    intro fr p e kn ke kr R Q a w c' hc' he hg h
    have hnd : noDef (.seq x y) = true → noDef x = true ∧ noDef y = true := fun h => by simpa [noDef] using h
    have both : ∀ (fr : Nat) (x' : Code), codeFrom x fr = some x' → Run P E (den rs A x fr (2 * p) e (fun e => den rs A y 0 (2 * p + 1) e kn ke kr) ke kr) w R → (Code.seq x' y).wp P Q a w := by
      intro fr x' hx' h
      refine wp_seq (ihx fr (2 * p) e _ ke kr R _ a w x' hx' he ⟨?_, ?_, ?_, ?_⟩ h)
      · intro e1 a1 w1 he1 hag1 hds1 h1
        refine ihy 0 (2 * p + 1) e1 kn ke kr R Q a1 w1 y rfl he1 ⟨?_, ?_, ?_, ?_⟩ h1
        · intro e2 a2 w2 he2 hag2 hds2 h2
          exact hg.n e2 a2 w2 he2 ((hag1.more fun i hi => List.mem_append_left _ hi).trans (hag2.more fun i hi => List.mem_append_right _ hi)) (fun hn => by rw [hds2 (hnd hn).2, hds1 (hnd hn).1]) h2
        · intro id e2 a2 w2 he2 hag2 hds2 h2
          exact hg.x id e2 a2 w2 he2 ((hag1.more fun i hi => List.mem_append_left _ hi).trans (hag2.more fun i hi => List.mem_append_right _ hi)) (fun hn => by rw [hds2 (hnd hn).2, hds1 (hnd hn).1]) h2
        · intro vs e2 a2 w2 he2 hds2 hvs h2
          exact hg.r vs e2 a2 w2 he2 (fun hn => by rw [hds2 (hnd hn).2, hds1 (hnd hn).1]) hvs h2
        · intro ch a2 w2 hds2 h2
          exact hg.p ch a2 w2 (fun hn => by rw [hds2 (hnd hn).2, hds1 (hnd hn).1]) h2
      · intro id e1 a1 w1 he1 hag1 hds1 h1
        exact then_exitOf (hg.x id e1 a1 w1 he1 (hag1.more fun i hi => List.mem_append_left _ hi) (fun hn => hds1 (hnd hn).1) h1)
      · intro vs e1 a1 w1 he1 hds1 hvs h1
        exact hg.r vs e1 a1 w1 he1 (fun hn => hds1 (hnd hn).1) hvs h1
      · intro ch a1 w1 hds1 h1
        exact hg.p ch a1 w1 (fun hn => hds1 (hnd hn).1) h1
    cases fr with
    | zero => cases hc'; exact both 0 x rfl h
    | succ l =>
      unfold den at h
      simp only at h
      by_cases hx : hasLabel x l = true
      · simp only [hx, if_true] at h
        simp only [codeFrom, findLabel] at hc'
        have := findLabel_has x l
        rw [hx] at this
        obtain ⟨x', hx'⟩ := Option.isSome_iff_exists.1 this
        rw [hx'] at hc'
        cases hc'
        exact both (l + 1) x' hx' h
      · simp only [hx] at h
        simp only [codeFrom, findLabel, findLabel_none (by simpa using hx)] at hc'
        exact ihy (l + 1) (2 * p + 1) e kn ke kr R Q a w c' hc' he ⟨fun e' a' w' h1 h2 h3 h4 => hg.n e' a' w' h1 (h2.more fun i hi => List.mem_append_right _ hi) (fun hn => h3 (hnd hn).2) h4,
          fun id e' a' w' h1 h2 h3 h4 => hg.x id e' a' w' h1 (h2.more fun i hi => List.mem_append_right _ hi) (fun hn => h3 (hnd hn).2) h4,
          fun vs e' a' w' h1 h2 h3 h4 => hg.r vs e' a' w' h1 (fun hn => h2 (hnd hn).2) h3 h4, fun ch a' w' h1 h2 => hg.p ch a' w' (fun hn => h1 (hnd hn).2) h2⟩ h
  | cond c x y ihx ihy =>
    intro fr p e kn ke kr R Q a w c' hc' he hg h
    cases fr <;> cases hc'
    have hnd : noDef (.cond c x y) = true → noDef x = true ∧ noDef y = true := fun h => by simpa [noDef] using h
    have hgx : Good P E R rs x e kn ke kr Q := ⟨fun e' a' w' h1 h2 h3 h4 => hg.n e' a' w' h1 (h2.more fun i hi => List.mem_append_left _ hi) (fun hn => h3 (hnd hn).1) h4,
      fun id e' a' w' h1 h2 h3 h4 => hg.x id e' a' w' h1 (h2.more fun i hi => List.mem_append_left _ hi) (fun hn => h3 (hnd hn).1) h4,
      fun vs e' a' w' h1 h2 h3 h4 => hg.r vs e' a' w' h1 (fun hn => h2 (hnd hn).1) h3 h4, fun ch a' w' h1 h2 => hg.p ch a' w' (fun hn => h1 (hnd hn).1) h2⟩
    have hgy : Good P E R rs y e kn ke kr Q := ⟨fun e' a' w' h1 h2 h3 h4 => hg.n e' a' w' h1 (h2.more fun i hi => List.mem_append_right _ hi) (fun hn => h3 (hnd hn).2) h4,
      fun id e' a' w' h1 h2 h3 h4 => hg.x id e' a' w' h1 (h2.more fun i hi => List.mem_append_right _ hi) (fun hn => h3 (hnd hn).2) h4,
      fun vs e' a' w' h1 h2 h3 h4 => hg.r vs e' a' w' h1 (fun hn => h2 (hnd hn).2) h3 h4, fun ch a' w' h1 h2 => hg.p ch a' w' (fun hn => h1 (hnd hn).2) h2⟩
    have plain : ∀ v, e.val c = some v → Run P E (.ite v (den rs A x 0 (2 * p) e kn ke kr) (den rs A y 0 (2 * p + 1) e kn ke kr)) w R → (Code.cond c x y).wp P Q a w := by
      intro v hv h
      obtain ⟨t, ht, h1, h2⟩ := h
      have hc : a.eval c = .bool t := by rw [he.val hv, ht]
      exact wp_cond_split hc (fun e1 => ihx 0 _ e kn ke kr R Q a w x rfl he hgx (h1 e1)) (fun e1 => ihy 0 _ e kn ke kr R Q a w y rfl he hgy (h2 e1))
    have joined : ∀ v l, e.val c = some v → noDef x = true → noDef y = true → (∀ t, ∀ i ∈ slotsOf l t, i ∈ asg x ++ asg y) →
        Run P E (.bind (.ite v (den rs A x 0 (2 * p) e (handN l) (handE l) handR) (den rs A y 0 (2 * p + 1) e (handN l) (handE l) handR)) (join e (asg x ++ asg y) kn ke kr l)) w R →
        (Code.cond c x y).wp P Q a w := by
      intro v l hv hdx hdy hl h
      obtain ⟨t, ht, h1, h2⟩ := h
      have hc : a.eval c = .bool t := by rw [he.val hv, ht]
      exact wp_cond_split hc
        (fun e1 => ihx 0 _ e _ _ _ _ Q a w x rfl he (hg.handed (c' := x) hdx (fun i hi => List.mem_append_left _ hi) hl) (h1 e1))
        (fun e1 => ihy 0 _ e _ _ _ _ Q a w y rfl he (hg.handed (c' := y) hdy (fun i hi => List.mem_append_right _ hi) hl) (h2 e1))
    unfold den at h
    cases hv' : e.ent c with
    | no => simp only [hv'] at h; exact h.elim
    | un => simp only [hv'] at h; exact h.elim
    | lit t =>
      have hv : e.val c = some (.bool t) := by unfold Env.val; rw [hv']; rfl
      simp only [hv'] at h
      cases t with
      | true => exact wp_cond_true (he.val hv) (ihx 0 _ e kn ke kr R Q a w x rfl he hgx h)
      | false => exact wp_cond_false (he.val hv) (ihy 0 _ e kn ke kr R Q a w y rfl he hgy h)
    | val v =>
      have hv : e.val c = some v := by unfold Env.val; rw [hv']; rfl
      simp only [hv'] at h
      have gen : Run P E (if (noDef x && noDef y) = true then
          match A.of (asg x ++ asg y) p with
          | none => .ite v (den rs A x 0 (2 * p) e kn ke kr) (den rs A y 0 (2 * p + 1) e kn ke kr)
          | some l => .bind (.ite v (den rs A x 0 (2 * p) e (handN l) (handE l) handR) (den rs A y 0 (2 * p + 1) e (handN l) (handE l) handR)) (join e (asg x ++ asg y) kn ke kr l)
        else .ite v (den rs A x 0 (2 * p) e kn ke kr) (den rs A y 0 (2 * p + 1) e kn ke kr)) w R → (Code.cond c x y).wp P Q a w := by
        intro h
        by_cases hn : (noDef x && noDef y) = true
        · simp only [hn, if_true] at h
          cases hA : A.of (asg x ++ asg y) p with
          | none => simp only [hA] at h; exact plain v hv h
          | some l =>
            simp only [hA] at h
            simp only [Bool.and_eq_true] at hn
            exact joined v l hv hn.1 hn.2 (fun t => Ann.of_mem hA t) h
        · simp only [hn] at h; exact plain v hv h
      exact gen h
  | block id c ih =>
    intro fr p e kn ke kr R Q a w c' hc' he hg h
    cases fr <;> cases hc'
    unfold den at h
    by_cases hidb : id < gb
    case neg => simp only [hidb, if_false] at h; exact h.elim
    simp only [hidb, if_true] at h
    have inb : ∀ {id' : Nat} {a' : Act} {w' : World}, id' ≠ id → Q (exitOf id') a' w' → Exit.inBlock id Q (exitOf id') a' w' := by
      intro id' a' w' hne hq
      rcases exitOf_cases id' with ⟨_, e⟩ | ⟨_, e⟩ <;> rw [e] at hq ⊢
      · simp only [Exit.inBlock, hne, if_false]; exact hq
      · exact hq
    have own : ∀ {a' : Act} {w' : World}, Q .normal a' w' → Exit.inBlock id Q (exitOf id) a' w' := by
      intro a' w' hq
      rw [exitOf, if_pos hidb]
      simp only [Exit.inBlock, if_true]; exact hq
    have plain : Run P E (den rs A c 0 (2 * p) e kn (fun id' e => if id' = id then kn e else ke id' e) kr) w R → (Code.block id c).wp P Q a w := by
      intro h
      refine wp_block (ih 0 _ e _ _ _ R _ a w c rfl he ⟨fun e' a' w' h1 h2 h3 h4 => hg.n e' a' w' h1 h2 h3 h4, ?_, fun vs e' a' w' h1 h2 h3 h4 => hg.r vs e' a' w' h1 h2 h3 h4, fun ch a' w' h1 h2 => hg.p ch a' w' h1 h2⟩ h)
      intro id' e' a' w' h1 h2 h3 h4
      by_cases hid : id' = id
      · simp only [hid, if_true] at h4; rw [hid]; exact own (hg.n e' a' w' h1 h2 h3 h4)
      · simp only [hid, if_false] at h4; exact inb hid (hg.x id' e' a' w' h1 h2 h3 h4)
    by_cases hn : noDef c = true
    · simp only [hn, if_true] at h
      cases hA : A.of (asg c) p with
      | none => simp only [hA] at h; exact plain h
      | some l =>
        simp only [hA] at h
        have hh := hg.handed (c' := c) (l := l) hn (fun i hi => hi) (fun t => Ann.of_mem hA t)
        refine wp_block (ih 0 _ e _ _ _ _ _ a w c rfl he ⟨fun e' a' w' h1 h2 h3 h4 => hh.n e' a' w' h1 h2 h3 h4, ?_, fun vs e' a' w' h1 h2 h3 h4 => hh.r vs e' a' w' h1 h2 h3 h4, fun ch a' w' h1 h2 => hh.p ch a' w' h1 h2⟩ h)
        intro id' e' a' w' h1 h2 h3 h4
        by_cases hid : id' = id
        · simp only [hid, if_true] at h4; rw [hid]; exact own (hh.n e' a' w' h1 h2 h3 h4)
        · simp only [hid, if_false] at h4; exact inb hid (hh.x id' e' a' w' h1 h2 h3 h4)
    · simp only [hn] at h; exact plain h
  | loop c ih =>
    intro fr p e kn ke kr R Q a w c' hc' he hg h
    cases fr <;> cases hc'
    unfold den at h
    by_cases hn : noDef c = true
    · simp only [hn, if_true] at h
      cases hA : A.of (asg c) p with
      | none => simp only [hA] at h; exact h.elim
      | some l =>
        simp only [hA] at h
        cases hi : getL e (slotsOf l 0) with
        | none => simp only [hi] at h; exact h.elim
        | some init =>
          simp only [hi] at h
          obtain ⟨I, ⟨n, hI⟩, hround⟩ := h
          have hl := fun t => Ann.of_mem hA t
          refine wp_loop_n (fun n a w => ∃ vs, I n vs w ∧ EnvRel (e.back (asg c) (slotsOf l 0) vs) a) ⟨n, init, hI, he.back (.refl _ _) rfl hi⟩ ?_
          rintro n a1 w1 ⟨vs, hIv, he1⟩
          have hag0 : Agree (asg c) e (e.back (asg c) (slotsOf l 0) vs) := .back (hl 0)
          have h1 := hround n vs w1 hIv
          refine ih 0 _ _ _ _ _ _ _ a1 w1 c rfl he1 ⟨?_, ?_, ?_, ?_⟩ h1
          · intro e' a' w' h1 h2 h3 h4
            obtain ⟨vs', hvs', m, hm', hI'⟩ := hand_run h4
            exact ⟨m, hm', vs', hI', h1.back (hag0.trans h2) (h3 hn) hvs'⟩
          · intro id e' a' w' h1 h2 h3 h4
            obtain ⟨vs', hvs', h5⟩ := hand_run h4
            rw [if_neg (by omega)] at h5
            rcases join_run _ _ _ h5 with ⟨h0, _⟩ | ⟨h0, _⟩ | ⟨n, h0, h6⟩
            · omega
            · omega
            · obtain rfl : n = id := by omega
              exact then_exitOf (hg.x n _ a' w' (h1.back (hag0.trans h2) (h3 hn) hvs') (.back (hl _)) (fun _ => rfl) h6)
          · intro vs' e' a' w' h1 h2 h3 h4
            refine hg.r vs' e' a' w' h1 (fun _ => h2 hn) h3 ?_
            rw [h2 hn]
            have h5 : Run P E (join e (asg c) (fun _ => .fail) ke kr l 1 vs') w' R := h4
            rcases join_run _ _ _ h5 with ⟨h0, _⟩ | ⟨_, h6⟩ | ⟨n, h0, _⟩
            · omega
            · exact h6
            · omega
          · intro ch a' w' h1 h2
            exact hg.p ch a' w' (fun _ => h1 hn) h2
    · simp only [hn] at h; exact h.elim
  | scope c ih =>
    intro fr p e kn ke kr R Q a w c' hc' he hg h
    cases fr <;> cases hc'
    unfold den at h
    have goes : ∀ {id : Nat}, intoIt c id = true → exitOf id = .goto (id - gb) ∧ hasLabel c (id - gb) = true := by
      intro id hi
      simp only [intoIt, Bool.and_eq_true, Nat.ble_eq] at hi
      exact ⟨by rw [exitOf, if_neg (by omega)], hi.2⟩
    have stays : ∀ {id : Nat} {a' : Act} {w' : World}, intoIt c id = false → Q (exitOf id) a' w' → noGoIn c Q (exitOf id) a' w' := by
      intro id a' w' hi hq
      rcases exitOf_cases id with ⟨_, e1⟩ | ⟨hle, e1⟩ <;> rw [e1] at hq ⊢
      · exact hq
      · refine ⟨findLabel_none ?_, hq⟩
        simp only [intoIt, Bool.and_eq_false_iff] at hi
        rcases hi with hi | hi
        · have : Nat.ble gb id = true := Nat.ble_eq_true_of_le hle
          rw [this] at hi; cases hi
        · exact hi
    have wide : ∀ {x : Exit} {a' : Act} {w' : World}, noGoIn c Q x a' w' → oneGoIn P c Q x a' w' := by
      intro x a' w' hq
      cases x <;> first | exact hq | exact .inl hq
    refine wp_scope_one (ih 0 _ e _ _ kr R _ a w c rfl he ⟨fun e' a' w' h1 h2 h3 h4 => hg.n e' a' w' h1 h2 h3 h4, ?_, fun vs e' a' w' h1 h2 h3 h4 => hg.r vs e' a' w' h1 h2 h3 h4, fun ch a' w' h1 h2 => hg.p ch a' w' h1 h2⟩ h)
    intro id e1 a1 w1 he1 hag1 hds1 h1
    by_cases hi : intoIt c id = true
    · simp only [hi, if_true] at h1
      obtain ⟨e2, hl⟩ := goes hi
      have := findLabel_has c (id - gb)
      rw [hl] at this
      obtain ⟨rest, hrest⟩ := Option.isSome_iff_exists.1 this
      rw [e2]
      refine .inr ⟨rest, hrest, ih (id - gb + 1) _ e1 kn _ kr R _ a1 w1 rest hrest he1 ⟨?_, ?_, ?_, ?_⟩ h1⟩
      · intro e' a' w' h1 h2 h3 h4; exact hg.n e' a' w' h1 (hag1.trans h2) (fun hn => (h3 hn).trans (hds1 hn)) h4
      · intro id' e' a' w' h1 h2 h3 h4
        by_cases hi' : intoIt c id' = true
        · simp only [hi', if_true] at h4; exact h4.elim
        · simp only [hi'] at h4
          exact stays (by simpa using hi') (hg.x id' e' a' w' h1 (hag1.trans h2) (fun hn => (h3 hn).trans (hds1 hn)) h4)
      · intro vs e' a' w' h1 h2 h3 h4; exact hg.r vs e' a' w' h1 (fun hn => (h2 hn).trans (hds1 hn)) h3 h4
      · intro ch a' w' h1 h2; exact hg.p ch a' w' (fun hn => (h1 hn).trans (hds1 hn)) h2
    · simp only [hi] at h1
      exact wide (stays (by simpa using hi) (hg.x id e1 a1 w1 he1 hag1 hds1 h1))
end
end Go.Fr
