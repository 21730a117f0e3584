/-
  This file is a part of the proof that trees of operations tell what code does, and that an evaluator tells what trees do: this file has trees of operations as data: their values are places in a stack; this file has values and memories that stand for real ones up to where these lie, and up to the room behind a slice; this file has an evaluator of trees over memories that stand for real ones; this file proves: loads and stores of rows of cells, whatever stands behind them.
-/
import Derived.Test.YtfonfgkjpndfaaaGreatDoorFrA
import Derived.Test.YtfonfgkjpndfaaaGreatDoorFrB
import Derived.Below

-- FrT
namespace Go.Fr
open Go

/-- A value of a tree: part j of row i of the stack, or a constant. -/
inductive X where
  | v (i j : Nat)
  | c (u : Value)

def tailN {α : Type} : Nat → List α → List α
  | 0, l => l
  | n + 1, l => (tailN n l).tail

def X.val (e : List (List Value)) : X → Value
  | .v i j => (tailN j (e.getD i [])).headD undef
  | .c u => u

def vals (e : List (List Value)) (l : List X) : List Value := l.map (X.val e)
def oval (e : List (List Value)) (x : Option X) : Option Value := x.map (X.val e)
def pvals (e : List (List Value)) (l : List (Nat × X)) : List (Nat × Value) := l.map fun p => (p.1, p.2.val e)

/-- An operation. -/
inductive D where
  | pick (c a b : X)
  | alloc (t : TypeId)
  | box (t : TypeId) (v : X)
  | build (t : TypeId) (ps : List (Nat × X))
  | buildSlice (t : TypeId) (n : Nat) (ps : List (Nat × X))
  | load (t : TypeId) (a : X)
  | store (t : TypeId) (a v : X)
  | nil (x : X)
  | bin (op : BinOp) (t : TypeId) (p q : Operand) (a b : X)
  | un (op : UnOp) (x : X)
  | conv (s d : TypeId) (x : X)
  | arrAt (t : TypeId) (x : X)
  | iface (t : TypeId) (x : X)
  | func (f : Fn) (a b : List X)
  | map (t : TypeId) (r : Option X)
  | make (t : TypeId) (l c : X)
  | slice (t : TypeId) (x : X) (lo hi mx : Option X)
  | fieldAt (t : TypeId) (x : X) (i : Nat)
  | field (t : TypeId) (x : X) (i : Nat)
  | indexAt (t : TypeId) (x i : X)
  | index (t : TypeId) (x i : X)
  | lookup (t : TypeId) (x i : X) (ok : Bool)
  | mapSet (t : TypeId) (m k x : X)
  | entry0 (t : TypeId) (m k : X)
  | entrySet (t : TypeId) (m s x : X)
  | range (t : TypeId) (x : X)
  | next (it : X) (str : Bool) (t : TypeId)
  | entry (it : X)
  | assert (x : X) (t u : TypeId) (ok : Bool)
  | extract (x : X) (i : Nat)
  | panic (x : X)
  | call (f : FuncId) (as : List X)
  | callV (f : X) (as : List X)
  | invoke (r : X) (m : String) (as : List X)
  | builtin (b : Builtin) (ts : List TypeId) (t : TypeId) (cs : List Bool) (as : List X)

def D.sem (e : List (List Value)) : D → Sem Next
  | .pick c a b => oPick (c.val e) (a.val e) (b.val e)
  | .alloc t => oAlloc t
  | .box t v => oBox t (v.val e)
  | .build t ps => oBuild t (pvals e ps)
  | .buildSlice t n ps => oBuildSlice t n (pvals e ps)
  | .load t a => oLoad t (a.val e)
  | .store t a v => oStore t (a.val e) (v.val e)
  | .nil x => oNil (x.val e)
  | .bin op t p q a b => oBin op t p q (a.val e) (b.val e)
  | .un op x => oUn op (x.val e)
  | .conv s d x => oConv s d (x.val e)
  | .arrAt t x => oArrAt t (x.val e)
  | .iface t x => oIface t (x.val e)
  | .func f a b => oFunc f (vals e a) (vals e b)
  | .map t r => oMap t (oval e r)
  | .make t l c => oMake t (l.val e) (c.val e)
  | .slice t x lo hi mx => oSlice t (x.val e) (oval e lo) (oval e hi) (oval e mx)
  | .fieldAt t x i => oFieldAt t (x.val e) i
  | .field t x i => oField t (x.val e) i
  | .indexAt t x i => oIndexAt t (x.val e) (i.val e)
  | .index t x i => oIndex t (x.val e) (i.val e)
  | .lookup t x i ok => oLookup t (x.val e) (i.val e) ok
  | .mapSet t m k x => oMapSet t (m.val e) (k.val e) (x.val e)
  | .entry0 t m k => oEntry0 t (m.val e) (k.val e)
  | .entrySet t m s x => oEntrySet t (m.val e) (s.val e) (x.val e)
  | .range t x => oRange t (x.val e)
  | .next it str t => oNext (it.val e) str t
  | .entry it => oEntry (it.val e)
  | .assert x t u ok => oAssert (x.val e) t u ok
  | .extract x i => oExtract (x.val e) i
  | .panic x => oPanic (x.val e)
  | .call f as => oCall f (vals e as)
  | .callV f as => oCallV (f.val e) (vals e as)
  | .invoke r m as => oInvoke (r.val e) m (vals e as)
  | .builtin b ts t cs as => oBuiltin b ts t cs (vals e as)

/-- A tree as data. -/
inductive T where
  | done (t : Nat) (xs : List X)
  | doneRow (t i : Nat)
  | bind (p k : T)
  | op (d : D) (k : T)
  | rd (d : D) (k : T)
  | chk (d : D) (x : X) (k : T)
  | dfr (f : X) (as : List X) (k : T)
  | ite (x : X) (a b : T)
  | both (a b : T)
  | drew (p : T)
  | loop (init : List X) (body k : T)
  | alt (t : Nat) (a r : T)
  | fin (rs : List ResultVar) (xs : List X)
  | finRow (rs : List ResultVar) (i : Nat)
  | fail

/-- The tree that it stands for. -/
def T.sp : T → Nat → List (List Value) → List Deferred → SP
  | .done t xs, _, e, _ => .done t (vals e xs)
  | .doneRow t i, _, e, _ => .done t (e.getD i [])
  | .bind p k, g, e, ds => .bind (p.sp g e ds) fun t vs => k.sp t (vs :: e) ds
  | .op d k, g, e, ds => .op (d.sem e) fun v => k.sp g ([v] :: e) ds
  | .rd d k, g, e, ds => .rd (d.sem e) fun v => k.sp g ([v] :: e) ds
  | .chk d x k, g, e, ds => .chk (d.sem e) (x.val e) (k.sp g e ds)
  | .dfr f as k, g, e, ds => .dfr (oDefer (f.val e) (vals e as)) fun d => k.sp g e (d :: ds)
  | .ite x a b, g, e, ds => .ite (x.val e) (a.sp g e ds) (b.sp g e ds)
  | .both a b, g, e, ds => .both (a.sp g e ds) (b.sp g e ds)
  | .drew p, g, e, ds => .drew (p.sp g e ds)
  | .loop init body k, g, e, ds => .loop (vals e init) (fun vs => body.sp g (vs :: e) ds) fun t vs => k.sp t (vs :: e) ds
  | .alt t a r, g, e, ds => if g = t then a.sp g e ds else r.sp g e ds
  | .fin rs xs, _, e, ds => Fr.fin rs (vals e xs) ds
  | .finRow rs i, _, e, ds => Fr.fin rs (e.getD i []) ds
  | .fail, _, _, _ => .fail

/-- The stack at a function's beginning. -/
def rows (args : List Value) : List (List Value) := args.map fun a => [a]
end Go.Fr

-- FrV
namespace Go.Fr
open Go
set_option linter.unusedSectionVars false

-- ------------------------------------------------------------ rows that go side by side

def Al {α β : Type} (R : α → β → Prop) (l : List α) (l' : List β) : Prop :=
  l.length = l'.length ∧ ∀ (i : Nat) (a : α) (b : β), l[i]? = some a → l'[i]? = some b → R a b

section
variable {α β : Type} {R R' : α → β → Prop} {l m : List α} {l' m' : List β}

theorem Al.nil : Al R [] [] := ⟨rfl, fun i a b h => by simp at h⟩

theorem Al.cons {a : α} {b : β} (h : R a b) (t : Al R l l') : Al R (a :: l) (b :: l') := by
  refine ⟨by simp [t.1], fun i x y hx hy => ?_⟩
  cases i with
  | zero => simp at hx hy; subst hx hy; exact h
  | succ i => simp at hx hy; exact t.2 i x y hx hy

theorem Al.mono (h : Al R l l') (hr : ∀ a b, R a b → R' a b) : Al R' l l' := ⟨h.1, fun i a b ha hb => hr _ _ (h.2 i a b ha hb)⟩

theorem Al.uncons {a : α} (h : Al R (a :: l) l') : ∃ b m, l' = b :: m ∧ R a b ∧ Al R l m := by
  cases l' with
  | nil => have := h.1; simp at this
  | cons b m =>
    refine ⟨b, m, rfl, h.2 0 a b rfl rfl, by have := h.1; simpa using this, fun i x y hx hy => h.2 (i + 1) x y (by simpa using hx) (by simpa using hy)⟩

theorem Al.unnil (h : Al R [] l') : l' = [] := by
  cases l' with
  | nil => rfl
  | cons b m => have := h.1; simp at this

theorem Al.get {i : Nat} {a : α} (h : Al R l l') (ha : l[i]? = some a) : ∃ b, l'[i]? = some b ∧ R a b := by
  have hi := (List.getElem?_eq_some_iff.1 ha).1
  have hi' : i < l'.length := by have := h.1; omega
  exact ⟨l'[i], List.getElem?_eq_getElem hi', h.2 i a _ ha (List.getElem?_eq_getElem hi')⟩

theorem Al.app (h : Al R l l') (k : Al R m m') : Al R (l ++ m) (l' ++ m') := by
  refine ⟨by simp [h.1, k.1], fun i a b ha hb => ?_⟩
  by_cases hi : i < l.length
  · rw [List.getElem?_append_left hi] at ha
    rw [List.getElem?_append_left (by have := h.1; omega)] at hb
    exact h.2 i a b ha hb
  · rw [List.getElem?_append_right (by omega)] at ha
    rw [List.getElem?_append_right (by have := h.1; omega), ← h.1] at hb
    exact k.2 _ a b ha hb

theorem Al.drop (n : Nat) (h : Al R l l') : Al R (l.drop n) (l'.drop n) :=
  ⟨by simp [h.1], fun i a b ha hb => h.2 (n + i) a b (by simpa using ha) (by simpa using hb)⟩

theorem Al.take (n : Nat) (h : Al R l l') : Al R (l.take n) (l'.take n) := by
  refine ⟨by simp [h.1], fun i a b ha hb => ?_⟩
  rw [List.getElem?_take] at ha hb
  split at ha
  · simp_all; exact h.2 i a b ha hb
  · cases ha

theorem Al.set {i : Nat} {a : α} {b : β} (h : Al R l l') (r : R a b) : Al R (l.set i a) (l'.set i b) := by
  refine ⟨by simp [h.1], fun j x y hx hy => ?_⟩
  rw [List.getElem?_set] at hx hy
  by_cases hij : i = j
  · simp only [hij, if_true] at hx hy
    split at hx
    · split at hy
      · simp at hx hy; subst hx hy; exact r
      · cases hy
    · cases hx
  · simp only [hij, if_false] at hx hy
    exact h.2 j x y hx hy

theorem Al.tail (h : Al R l l') : Al R l.tail l'.tail := by simpa using h.drop 1

theorem Al.headD {a : α} {b : β} (h : Al R l l') (r : R a b) : R (l.headD a) (l'.headD b) := by
  cases l with
  | nil => rw [h.unnil]; exact r
  | cons x l => obtain ⟨y, m, rfl, hr, _⟩ := h.uncons; exact hr

theorem Al.tailN (n : Nat) (h : Al R l l') : Al R (tailN n l) (tailN n l') := by
  induction n with
  | zero => exact h
  | succ n ih => exact ih.tail

theorem Al.map {γ δ : Type} {S : γ → δ → Prop} {f : α → γ} {g : β → δ} (h : Al R l l') (k : ∀ a b, R a b → S (f a) (g b)) : Al S (l.map f) (l'.map g) := by
  refine ⟨by simp [h.1], fun i c d hc hd => ?_⟩
  rw [List.getElem?_map] at hc hd
  cases ha : l[i]? with
  | none => simp [ha] at hc
  | some a =>
    obtain ⟨b, hb, hr⟩ := h.get ha
    simp [ha] at hc; simp [hb] at hd
    subst hc hd
    exact k _ _ hr

theorem Al.self {S : β → β → Prop} {xs : List β} (h : ∀ x, S x x) : Al S xs xs := ⟨rfl, fun i a b ha hb => by rw [ha] at hb; cases hb; exact h a⟩
end

-- ------------------------------------------------------------ values

inductive V where
  | raw (v : Value)
  | ptr (k o : Nat)
  /-- a slice of room lb or more (of just lb, if ex), of elements of es cells -/
  | sl (k o len : Nat) (ex : Bool) (lb es : Nat)
  | map (k : Nat)
  | fn (f : Fn) (a b : List V)
  | ifc (t : TypeId) (v : V)
  | agg (cs : List V)
  | tup (vs : List V)
  /-- some value of one cell -/
  | any
  /-- the named value of one cell -/
  | sym (n : Nat)

/-- What the names stand for. -/
class Sig where
  val : Nat → Value
  one : ∀ n, Fr.one (val n) = true

/-- Where blocks lie, and how many cells they have. -/
abbrev Lay := List (Nat × Nat)

inductive VR [Sig] (ρ : Lay) : V → Value → Prop
  | raw (v : Value) : VR ρ (.raw v) v
  | ptr {k o b n : Nat} (h : ρ[k]? = some (b, n)) : VR ρ (.ptr k o) (.pointer (some ⟨b, o, none⟩))
  | sl {k o len lb es b n c : Nat} {ex : Bool} (h : ρ[k]? = some (b, n)) (hl : lb ≤ c) (he : ex = true → c = lb) (hn : o + c * es ≤ n) (hx : ex = false → es ≠ 0 ∧ o + c * es = n) (hle : len ≤ lb) :
    VR ρ (.sl k o len ex lb es) (.slice (some ⟨b, o, none⟩) len c)
  | map {k b n : Nat} (h : ρ[k]? = some (b, n)) : VR ρ (.map k) (.map (some b))
  | fn {f : Fn} {a b : List V} {a' b' : List Value} (hl : a.length = a'.length) (ha : ∀ (i : Nat) x y, a[i]? = some x → a'[i]? = some y → VR ρ x y)
    (hm : b.length = b'.length) (hb : ∀ (i : Nat) x y, b[i]? = some x → b'[i]? = some y → VR ρ x y) : VR ρ (.fn f a b) (.func f a'.toArray b'.toArray)
  | ifc {t : TypeId} {v : V} {u : Value} (h : VR ρ v u) : VR ρ (.ifc t v) (.iface t u)
  | agg {cs : List V} {us : List Value} (hl : cs.length = us.length) (h : ∀ (i : Nat) x y, cs[i]? = some x → us[i]? = some y → VR ρ x y) : VR ρ (.agg cs) (.agg us.toArray)
  | tup {cs : List V} {us : List Value} (hl : cs.length = us.length) (h : ∀ (i : Nat) x y, cs[i]? = some x → us[i]? = some y → VR ρ x y) : VR ρ (.tup cs) (.tuple us.toArray)
  | any {u : Value} (h : Fr.one u = true) : VR ρ .any u
  | sym {n : Nat} : VR ρ (.sym n) (Sig.val n)

variable [Sig]

/-- A layout that has more blocks. -/
def Ext (ρ ρ' : Lay) : Prop := ∀ (k : Nat) x, ρ[k]? = some x → ρ'[k]? = some x

theorem Ext.refl (ρ : Lay) : Ext ρ ρ := fun _ _ h => h
theorem Ext.trans {a b c : Lay} (h : Ext a b) (k : Ext b c) : Ext a c := fun i x hx => k i x (h i x hx)
theorem Ext.push (ρ : Lay) (x : Nat × Nat) : Ext ρ (ρ ++ [x]) := fun k y h => by
  rw [List.getElem?_append_left (List.getElem?_eq_some_iff.1 h).1]; exact h

theorem VR.ext {ρ ρ' : Lay} (he : Ext ρ ρ') {v : V} {u : Value} (h : VR ρ v u) : VR ρ' v u := by
  induction h with
  | raw v => exact .raw v
  | ptr h => exact .ptr (he _ _ h)
  | sl h hl hx hn hf hle => exact .sl (he _ _ h) hl hx hn hf hle
  | map h => exact .map (he _ _ h)
  | fn hl _ hm _ iha ihb => exact .fn hl iha hm ihb
  | ifc _ ih => exact .ifc ih
  | agg hl _ ih => exact .agg hl ih
  | tup hl _ ih => exact .tup hl ih
  | any h => exact .any h
  | sym => exact .sym

abbrev VRs (ρ : Lay) : List V → List Value → Prop := Al (VR ρ)
theorem VRs.ext {ρ ρ' : Lay} (he : Ext ρ ρ') {v : List V} {u : List Value} (h : VRs ρ v u) : VRs ρ' v u := h.mono fun _ _ => VR.ext he

abbrev EnvR (ρ : Lay) : List (List V) → List (List Value) → Prop := Al (VRs ρ)
theorem EnvR.ext {ρ ρ' : Lay} (he : Ext ρ ρ') {v : List (List V)} {u : List (List Value)} (h : EnvR ρ v u) : EnvR ρ' v u := h.mono fun _ _ => VRs.ext he

def nth {α : Type} : List α → Nat → Option α
  | [], _ => none
  | a :: l, i => match i with | 0 => some a | i + 1 => nth l i

theorem nth_eq {α : Type} (l : List α) (i : Nat) : nth l i = l[i]? := by
  induction l generalizing i with
  | nil => rfl
  | cons a l ih => cases i with
    | zero => rfl
    | succ i => simp [nth, ih]

def X.ev (e : List (List V)) : X → V
  | .v i j => (tailN j ((nth e i).getD [])).headD (.raw undef)
  | .c u => .raw u

theorem X.ev_rel {ρ : Lay} {e : List (List V)} {e' : List (List Value)} (h : EnvR ρ e e') (x : X) : VR ρ (x.ev e) (x.val e') := by
  cases x with
  | c u => exact .raw u
  | v i j =>
    unfold X.ev X.val
    refine Al.headD (Al.tailN j ?_) (.raw _)
    rw [nth_eq, List.getD_eq_getElem?_getD]
    cases hi : e[i]? with
    | none =>
      have : e'[i]? = none := List.getElem?_eq_none (by have := List.getElem?_eq_none_iff.1 hi; have := h.1; omega)
      rw [this]; exact .nil
    | some a => obtain ⟨b, hb, hr⟩ := h.get hi; rw [hb]; exact hr

theorem evs_rel {ρ : Lay} {e : List (List V)} {e' : List (List Value)} (h : EnvR ρ e e') (l : List X) : VRs ρ (l.map (X.ev e)) (vals e' l) :=
  ⟨by simp [vals], fun i a b ha hb => by
    unfold vals at hb
    rw [List.getElem?_map] at ha hb
    cases hl : l[i]? with
    | none => simp [hl] at ha
    | some x => simp [hl] at ha hb; subst ha hb; exact X.ev_rel h x⟩

/-- A value's cells. -/
def V.cells : V → List V
  | .agg cs => cs
  | .raw (.agg cs) => cs.toList.map .raw
  | v => [v]

theorem raws_rel {ρ : Lay} (l : List Value) : VRs ρ (l.map .raw) l :=
  ⟨by simp, fun i a b ha hb => by
    rw [List.getElem?_map, hb] at ha
    simp at ha; subst ha; exact .raw _⟩

theorem VR.cells {ρ : Lay} {v : V} {u : Value} (h : VR ρ v u) : VRs ρ v.cells u.cells.toList := by
  have one : ∀ {v u}, VR ρ v u → VRs ρ [v] [u] := fun h => .cons h .nil
  cases h with
  | raw => cases u <;> first | exact one (.raw _) | exact raws_rel _
  | ptr h => exact one (.ptr h)
  | sl h hl he hn hf hle => exact one (.sl h hl he hn hf hle)
  | map h => exact one (.map h)
  | fn a b c d => exact one (.fn a b c d)
  | ifc h => exact one (.ifc h)
  | agg hl h => exact ⟨by simpa [V.cells, Value.cells] using hl, fun i a b ha hb => h i a b ha (by simpa [Value.cells] using hb)⟩
  | tup hl h => exact one (.tup hl h)
  | @any u h => cases u <;> first | exact one (.any h) | cases h
  | @sym n =>
    have h1 := Sig.one n
    have h2 := VR.sym (ρ := ρ) (n := n)
    revert h1 h2
    generalize Sig.val n = u
    intro h1 h2
    cases u <;> first | exact one h2 | cases h1

-- ------------------------------------------------------------ trees by number

inductive PT (α : Type) where
  | nil
  | node (o : Option α) (l r : PT α)

def PT.get {α : Type} : PT α → Nat → Option α
  | .nil, _ => none
  | .node o l r, n => if n = 0 then o else if n % 2 = 1 then l.get (n / 2) else r.get (n / 2 - 1)

def PT.setF {α : Type} : Nat → PT α → Nat → Option α → PT α
  | 0, t, _, _ => t
  | f + 1, t, n, x =>
    match t with
    | .nil => if n = 0 then .node x .nil .nil else if n % 2 = 1 then .node none (PT.setF f .nil (n / 2) x) .nil else .node none .nil (PT.setF f .nil (n / 2 - 1) x)
    | .node o l r => if n = 0 then .node x l r else if n % 2 = 1 then .node o (PT.setF f l (n / 2) x) r else .node o l (PT.setF f r (n / 2 - 1) x)

theorem PT.get_setF {α : Type} (x : Option α) : ∀ (f : Nat) (t : PT α) (n m : Nat), n < f → (PT.setF f t n x).get m = if m = n then x else t.get m := by
  intro f
  induction f with
  | zero => intro t n m h; omega
  | succ f ih =>
    intro t n m h
    unfold PT.setF
    cases t with
    | nil =>
      simp only
      split
      · rename_i h0; subst h0
        unfold PT.get
        split
        · rfl
        · split <;> simp [PT.get]
      · rename_i h0
        split
        · rename_i h1
          conv => lhs; unfold PT.get
          by_cases hm : m = 0
          · simp [hm, PT.get]; intro; omega
          · simp only [hm, if_false]
            by_cases hm1 : m % 2 = 1
            · simp only [hm1, if_true]
              rw [ih _ _ _ (by omega)]
              by_cases e : m = n
              · simp [e]
              · have : m / 2 ≠ n / 2 := by omega
                simp [this, e, PT.get]
            · have : m ≠ n := by intro e; subst e; exact hm1 h1
              simp [hm1, this, PT.get]
        · rename_i h1
          conv => lhs; unfold PT.get
          by_cases hm : m = 0
          · simp [hm, PT.get]; intro; omega
          · simp only [hm, if_false]
            by_cases hm1 : m % 2 = 1
            · have : m ≠ n := by intro e; subst e; exact h1 hm1
              simp [hm1, this, PT.get]
            · simp only [hm1, if_false]
              rw [ih _ _ _ (by omega)]
              by_cases e : m = n
              · simp [e]
              · have : m / 2 - 1 ≠ n / 2 - 1 := by omega
                simp [this, e, PT.get]
    | node o l r =>
      simp only
      split
      · rename_i h0; subst h0
        unfold PT.get
        split
        · rfl
        · rfl
      · rename_i h0
        split
        · rename_i h1
          conv => lhs; unfold PT.get
          conv => rhs; unfold PT.get
          by_cases hm : m = 0
          · simp [hm]; intro; omega
          · simp only [hm, if_false]
            by_cases hm1 : m % 2 = 1
            · simp only [hm1, if_true]
              rw [ih _ _ _ (by omega)]
              by_cases e : m = n
              · simp [e]
              · have : m / 2 ≠ n / 2 := by omega
                simp [this, e]
            · have : m ≠ n := by intro e; subst e; exact hm1 h1
              simp [hm1, this]
        · rename_i h1
          conv => lhs; unfold PT.get
          conv => rhs; unfold PT.get
          by_cases hm : m = 0
          · simp [hm]; intro; omega
          · simp only [hm, if_false]
            by_cases hm1 : m % 2 = 1
            · have : m ≠ n := by intro e; subst e; exact h1 hm1
              simp [hm1, this]
            · simp only [hm1, if_false]
              rw [ih _ _ _ (by omega)]
              by_cases e : m = n
              · simp [e]
              · have : m / 2 - 1 ≠ n / 2 - 1 := by omega
                simp [this, e]

def PT.set {α : Type} (t : PT α) (n : Nat) (x : Option α) : PT α := PT.setF (n + 1) t n x
theorem PT.get_set {α : Type} (t : PT α) (n m : Nat) (x : Option α) : (t.set n x).get m = if m = n then x else t.get m := PT.get_setF x _ t n m (Nat.lt_succ_self n)

-- ------------------------------------------------------------ memories

inductive VO where
  | cells (t : TypeId) (cs : List V)
  | map (es : List (V × V × Nat)) (clock : Nat)
  | iter (m : Option Nat) (since : Nat) (seen : List Nat) (stepped : Nat)

structure VH where
  t : PT VO
  next : Nat

def VH.get (h : VH) (k : Nat) : Option VO := h.t.get k
def VH.set (h : VH) (k : Nat) (o : VO) : VH := { h with t := h.t.set k (some o) }
def VH.del (h : VH) (k : Nat) : VH := { h with t := h.t.set k none }
def VH.new (h : VH) (o : VO) : VH := { t := h.t.set h.next (some o), next := h.next + 1 }

/-- An entry of a map. -/
structure ER (ρ : Lay) (x : V × V × Nat) (e : MapEntry) : Prop where
  key : VR ρ x.1 e.key
  val : VR ρ x.2.1 e.val
  born : e.born = x.2.2

inductive OR (ρ : Lay) (n : Nat) : VO → Obj → Prop
  | cells {t : TypeId} {cs : List V} {vs ext : List Value} {fr : Nat × Nat} (h : VRs ρ cs vs) (hn : (vs ++ ext).length = n) (hf : fr = (0, 0) ∨ n ≤ fr.1) :
    OR ρ n (.cells t cs) (.cells (vs ++ ext).toArray t fr)
  | map {es : List (V × V × Nat)} {us : List MapEntry} {clock : Nat} (h : Al (ER ρ) es us) : OR ρ n (.map es clock) (.map us.toArray clock)
  | iterNil {since stepped : Nat} {seen : List Nat} : OR ρ n (.iter none since seen stepped) (.mapIter none since seen.toArray stepped)
  | iter {k b j since stepped : Nat} {seen : List Nat} (h : ρ[k]? = some (b, j)) : OR ρ n (.iter (some k) since seen stepped) (.mapIter (some b) since seen.toArray stepped)

theorem ER.ext {ρ ρ' : Lay} (he : Ext ρ ρ') {x : V × V × Nat} {e : MapEntry} (h : ER ρ x e) : ER ρ' x e := ⟨h.key.ext he, h.val.ext he, h.born⟩

theorem OR.ext {ρ ρ' : Lay} (he : Ext ρ ρ') {n : Nat} {o : VO} {r : Obj} (h : OR ρ n o r) : OR ρ' n o r := by
  cases h with
  | cells h hn hf => exact .cells (h.ext he) hn hf
  | map h => exact .map (h.mono fun _ _ => ER.ext he)
  | iterNil => exact .iterNil
  | iter h => exact .iter (he _ _ h)

/-- What a world is, of which a memory stands for the blocks from one on. -/
structure WR (base : Nat) (w0 : World) (ρ : Lay) (h : VH) (w : World) : Prop where
  below : RowKit.Below base w0 w
  size : base ≤ w.heap.size
  len : h.next = ρ.length
  obj : ∀ k o, h.get k = some o → ∃ b n r, ρ[k]? = some (b, n) ∧ base ≤ b ∧ w.heap[b]? = some r ∧ OR ρ n o r
  inj : ∀ k k' o o' b n n', h.get k = some o → h.get k' = some o' → ρ[k]? = some (b, n) → ρ[k']? = some (b, n') → k = k'

section
variable {base : Nat} {w0 w w' : World} {ρ : Lay} {h : VH}

theorem WR.drew (r : WR base w0 ρ h w) (n : Nat) : WR base w0 ρ h { w with drawn := n } :=
  ⟨⟨r.below.os, r.below.tape, r.below.output, r.below.size, r.below.block⟩, r.size, r.len, r.obj, r.inj⟩

/-- A block turned. -/
theorem WR.put (r : WR base w0 ρ h w) {k b n : Nat} {o o0 : VO} {x : Obj} (hk : h.get k = some o0) (hb : ρ[k]? = some (b, n)) (ho : OR ρ n o x)
    (e : w' = { w with heap := w.heap.setIfInBounds b x }) : WR base w0 ρ (h.set k o) w' := by
  subst e
  obtain ⟨b', n', r', h1, h2, h3, _⟩ := r.obj k o0 hk
  rw [hb] at h1; cases h1
  have hlt : b < w.heap.size := (Array.getElem?_eq_some_iff.1 h3).1
  refine ⟨r.below.trans ⟨rfl, rfl, rfl, by simp, fun i hi => ?_⟩, by simpa using r.size, r.len, fun k' o' hk' => ?_, fun k1 k2 o1 o2 c m m' h1 h2 h3 h4 => ?_⟩
  · exact Array.getElem?_setIfInBounds_ne (by omega)
  · unfold VH.get VH.set at hk'
    simp only [PT.get_set] at hk'
    by_cases hkk : k' = k
    · subst hkk
      simp at hk'; subst hk'
      exact ⟨b, n, x, hb, h2, by simp [hlt], ho⟩
    · simp only [hkk, if_false] at hk'
      obtain ⟨c, m, y, q1, q2, q3, q4⟩ := r.obj k' o' hk'
      refine ⟨c, m, y, q1, q2, ?_, q4⟩
      have : b ≠ c := fun e => by subst e; exact hkk (r.inj k' k o' o0 b m n hk' hk q1 hb)
      show (w.heap.setIfInBounds b x)[c]? = _
      rw [Array.getElem?_setIfInBounds_ne this]; exact q3
  · unfold VH.get VH.set at h1 h2
    simp only [PT.get_set] at h1 h2
    have a1 : ∃ o, h.get k1 = some o := by by_cases e : k1 = k <;> simp only [e, if_true, if_false] at h1; exact ⟨o0, e ▸ hk⟩; exact ⟨_, h1⟩
    have a2 : ∃ o, h.get k2 = some o := by by_cases e : k2 = k <;> simp only [e, if_true, if_false] at h2; exact ⟨o0, e ▸ hk⟩; exact ⟨_, h2⟩
    obtain ⟨p1, a1⟩ := a1
    obtain ⟨p2, a2⟩ := a2
    exact r.inj k1 k2 _ _ c m m' a1 a2 h3 h4

/-- A new block. -/
theorem WR.new (r : WR base w0 ρ h w) {n : Nat} {o : VO} {x : Obj} (ho : OR ρ n o x) (e : w' = { w with heap := w.heap.push x }) :
    WR base w0 (ρ ++ [(w.heap.size, n)]) (h.new o) w' ∧ Ext ρ (ρ ++ [(w.heap.size, n)]) ∧ (ρ ++ [(w.heap.size, n)])[h.next]? = some (w.heap.size, n) := by
  subst e
  have ext := Ext.push ρ (w.heap.size, n)
  have here : (ρ ++ [(w.heap.size, n)])[h.next]? = some (w.heap.size, n) := by rw [r.len]; simp
  have there : ∀ k o', k ≠ h.next → h.get k = some o' → k < ρ.length := fun k o' _ hk => by
    obtain ⟨b, m, y, q1, _⟩ := r.obj k o' hk
    exact (List.getElem?_eq_some_iff.1 q1).1
  have old : ∀ k o', h.get k = some o' → ∀ b m, (ρ ++ [(w.heap.size, n)])[k]? = some (b, m) → ρ[k]? = some (b, m) ∧ b < w.heap.size := fun k o' hk b m hb => by
    obtain ⟨b', m', y, q1, _, q3, _⟩ := r.obj k o' hk
    have := ext _ _ q1
    rw [this] at hb; cases hb
    exact ⟨q1, (Array.getElem?_eq_some_iff.1 q3).1⟩
  refine ⟨⟨r.below.trans ⟨rfl, rfl, rfl, by simp, fun i hi => ?_⟩, ?_, by simp [VH.new, r.len], fun k o' hk => ?_, fun k1 k2 o1 o2 c m m' h1 h2 h3 h4 => ?_⟩, ext, here⟩
  · have := r.size
    simp only [Array.getElem?_push]
    rw [if_neg (by omega)]
  · have := r.size; simp; omega
  · unfold VH.get VH.new at hk
    simp only [PT.get_set] at hk
    by_cases hkk : k = h.next
    · subst hkk
      simp at hk; subst hk
      exact ⟨_, _, x, here, r.size, by simp, ho.ext ext⟩
    · simp only [hkk, if_false] at hk
      obtain ⟨b, m, y, q1, q2, q3, q4⟩ := r.obj k o' hk
      refine ⟨b, m, y, ext _ _ q1, q2, ?_, q4.ext ext⟩
      have := (Array.getElem?_eq_some_iff.1 q3).1
      simp only [Array.getElem?_push]
      rw [if_neg (by omega)]; exact q3
  · unfold VH.get VH.new at h1 h2
    simp only [PT.get_set] at h1 h2
    by_cases e1 : k1 = h.next
    · by_cases e2 : k2 = h.next
      · rw [e1, e2]
      · simp only [e2, if_false] at h2
        obtain ⟨_, q⟩ := old k2 _ h2 _ _ h4
        subst e1
        rw [here] at h3; cases h3
        omega
    · simp only [e1, if_false] at h1
      obtain ⟨q, q'⟩ := old k1 _ h1 _ _ h3
      by_cases e2 : k2 = h.next
      · subst e2
        rw [here] at h4; cases h4
        omega
      · simp only [e2, if_false] at h2
        exact r.inj k1 k2 _ _ c m m' h1 h2 q (old k2 _ h2 _ _ h4).1

/-- A block of which no more is told. -/
theorem WR.del (r : WR base w0 ρ h w) (k : Nat) : WR base w0 ρ (h.del k) w := by
  have sub : ∀ j o, (h.del k).get j = some o → h.get j = some o := fun j o hj => by
    unfold VH.get VH.del at hj
    simp only [PT.get_set] at hj
    split at hj
    · cases hj
    · exact hj
  exact ⟨r.below, r.size, r.len, fun j o hj => r.obj j o (sub j o hj), fun k1 k2 o1 o2 c m m' h1 h2 => r.inj k1 k2 o1 o2 c m m' (sub _ _ h1) (sub _ _ h2)⟩
end
end Go.Fr

-- FrEv
namespace Go.Fr
open Go

/-- What is asked of a type. -/
structure TI where
  d : TypeDesc
  size : Nat
  bytes : Nat
  z : Value

def mkTI (P : Program) (t : TypeId) : Option TI :=
  match P.underlying t, P.info? t with
  | some d, some i => match i.zero with
    | some z => if z.cells.size = i.size then some ⟨d, i.size, i.bytes, z⟩ else none
    | none => none
  | _, _ => none

def TI.zs (x : TI) : List Value := x.z.cells.toList
def isAg : TypeDesc → Bool
  | .struct _ | .array _ _ => true
  | _ => false

/-- The elements of a slice type: the type, what is known of it. -/
def elemTI (P : Program) (t : TypeId) : Option (TypeId × TI) :=
  match P.underlying t with
  | some (.slice e) => (mkTI P e).map fun x => (e, x)
  | _ => none

def V.one : V → Bool
  | .agg _ | .tup _ => false
  | .raw (.agg _) | .raw (.tuple _) => false
  | _ => true

/-- Some cells over others, from a place on. -/
def spl {α : Type} : List α → Nat → List α → List α
  | [], _, _ => []
  | c :: cs, 0, n => match n with | [] => c :: cs | x :: n => x :: spl cs 0 n
  | c :: cs, o + 1, n => c :: spl cs o n

def rep {α : Type} (zs : List α) : Nat → List α
  | 0 => []
  | n + 1 => zs ++ rep zs n

namespace Ev

def cellsAt (h : VH) (k : Nat) : Option (TypeId × List V) :=
  match h.get k with
  | some (.cells t cs) => some (t, cs)
  | _ => none

def load (P : Program) (h : VH) (t : TypeId) : V → Option V
  | .ptr k o =>
    match cellsAt h k, mkTI P t with
    | some (_, cs), some ti => if isAg ti.d then (if o + ti.size ≤ cs.length then some (.agg ((cs.drop o).take ti.size)) else none) else nth cs o
    | _, _ => none
  | _ => none

def putCells (h : VH) (k o : Nat) (vs : List V) : Option VH :=
  match cellsAt h k with
  | some (t, cs) => if o + vs.length ≤ cs.length ∧ vs.all V.one = true then some (h.set k (.cells t (spl cs o vs))) else none
  | _ => none

def store (P : Program) (h : VH) (t : TypeId) (a v : V) : Option VH :=
  match a, mkTI P t with
  | .ptr k o, some ti => if v.cells.length = ti.size then putCells h k o v.cells else none
  | _, _ => none

def newCells (h : VH) (t : TypeId) (cs : List V) : V × VH := (.ptr h.next 0, h.new (.cells t cs))

def intBin (op : BinOp) (k : IntKind) (x : Int) (k' : IntKind) (y : Int) : Option Value :=
  match op with
  | .shl => if y < 0 then none else some (.int k (k.wrap (x * 2 ^ (min y.toNat k.bits))))
  | .shr => if y < 0 then none else some (.int k (x.fdiv (2 ^ (min y.toNat k.bits))))
  | op =>
    if k ≠ k' then none else
    match op with
    | .add => some (.int k (k.wrap (x + y)))
    | .sub => some (.int k (k.wrap (x - y)))
    | .mul => some (.int k (k.wrap (x * y)))
    | .quo => if y = 0 then none else some (.int k (k.wrap (x.tdiv y)))
    | .rem => if y = 0 then none else some (.int k (x.tmod y))
    | .and => some (.int k (k.wrap (BitVec.ofInt k.bits x &&& BitVec.ofInt k.bits y).toNat))
    | .or => some (.int k (k.wrap (BitVec.ofInt k.bits x ||| BitVec.ofInt k.bits y).toNat))
    | .xor => some (.int k (k.wrap (BitVec.ofInt k.bits x ^^^ BitVec.ofInt k.bits y).toNat))
    | .andNot => some (.int k (k.wrap (BitVec.ofInt k.bits x &&& ~~~BitVec.ofInt k.bits y).toNat))
    | .eql => some (.bool (decide (x = y)))
    | .neq => some (.bool (decide (x ≠ y)))
    | .lss => some (.bool (decide (x < y)))
    | .leq => some (.bool (decide (x ≤ y)))
    | .gtr => some (.bool (decide (y < x)))
    | .geq => some (.bool (decide (y ≤ x)))
    | _ => none

def strBin (op : BinOp) (x y : ByteArray) : Option Value :=
  match op with
  | .eql => some (.bool (x.data.toList == y.data.toList))
  | .neq => some (.bool !(x.data.toList == y.data.toList))
  | .add => if x.size + y.size < 1000000 then some (.string ⟨(x.data.toList ++ y.data.toList).toArray⟩) else none
  | _ => none

/-- Are two scalars the same? -/
def rawEq : TypeDesc → V → V → Option Bool
  | .int _, .raw (.int k x), .raw (.int k' y) => if k = k' then some (decide (x = y)) else none
  | .bool, .raw (.bool x), .raw (.bool y) => some (x == y)
  | .string, .raw (.string x), .raw (.string y) => some (x.data.toList == y.data.toList)
  | .pointer _, .raw (.pointer none), .raw (.pointer none) => some true
  | .pointer _, .ptr _ _, .raw (.pointer none) => some false
  | .pointer _, .raw (.pointer none), .ptr _ _ => some false
  | .slice _, .raw (.slice none _ _), .raw (.slice none _ _) => some true
  | .slice _, .sl .., .raw (.slice none _ _) => some false
  | .slice _, .raw (.slice none _ _), .sl .. => some false
  | .map _ _, .raw (.map none), .raw (.map none) => some true
  | .map _ _, .map _, .raw (.map none) => some false
  | .map _ _, .raw (.map none), .map _ => some false
  | .func _ _ _, .raw .nilFunc, .raw .nilFunc => some true
  | .func _ _ _, .fn .., .raw .nilFunc => some false
  | .func _ _ _, .raw .nilFunc, .fn .. => some false
  | .interface _, .ifc .., .raw .nilIface => some false
  | .interface _, .raw (.iface ..), .raw .nilIface => some false
  | _, _, _ => none

def isAgV : V → Bool
  | .agg _ => true
  | .raw (.agg _) => true
  | _ => false

/-- Are two rows of fields the same? -/
def fldsEq (P : Program) : List Field → List V → List V → Option Bool
  | [], _, _ => some true
  | f :: fs, xs, ys =>
    if f.name = "_" then none else
    match mkTI P f.type, nth xs f.offset, nth ys f.offset with
    | some ti, some x, some y => if isAg ti.d then none else
      match rawEq ti.d x y with
      | some true => fldsEq P fs xs ys
      | r => r
    | _, _, _ => none

def valEq (P : Program) (t : TypeId) (x y : V) : Option Bool :=
  match mkTI P t with
  | none => none
  | some ti =>
    match ti.d with
    | .struct fs => if P.stoodInHeld t = false ∧ P.eqGuardType P.depth t = false ∧ isAgV x = true ∧ isAgV y = true then fldsEq P fs.toList x.cells y.cells else none
    | d => rawEq d x y

def bin (P : Program) (op : BinOp) (t : TypeId) (a b : V) : Option V :=
  match a, b with
  | .raw (.int k x), .raw (.int k' y) => (intBin op k x k' y).map .raw
  | .raw (.string x), .raw (.string y) => (strBin op x y).map .raw
  | a, b =>
    match op with
    | .eql => (valEq P t a b).map fun r => .raw (.bool r)
    | .neq => (valEq P t a b).map fun r => .raw (.bool !r)
    | _ => none

def un (op : UnOp) (a : V) : Option V :=
  match op, a with
  | .not, .raw (.bool b) => some (.raw (.bool !b))
  | .neg, .raw (.int k n) => some (.raw (.int k (k.wrap (0 - n))))
  | _, _ => none

def bytesOf : List V → Option (List UInt8)
  | [] => some []
  | .raw (.int .u8 n) :: l => (bytesOf l).map (UInt8.ofNat n.toNat :: ·)
  | _ => none

/-- A slice's cells. -/
def sliceCells (h : VH) (size : Nat) : V → Option (List V)
  | .raw (.slice none 0 0) => some []
  | .raw (.string s) => if size = 1 then some (s.data.toList.map fun b => .raw (.int .u8 b.toNat)) else none
  | .sl k o len _ _ es =>
    if es = size then
      match cellsAt h k with
      | some (_, cs) => if o + len * es ≤ cs.length then some ((cs.drop o).take (len * es)) else none
      | none => none
    else none
  | _ => none

def lenOf : V → Option Nat
  | .raw (.slice _ n _) => some n
  | .raw (.string s) => some s.size
  | .sl _ _ n _ _ _ => some n
  | _ => none

/-- a conversion that only looks -/
def convq (P : Program) (h : VH) (s d : TypeId) (x : V) : Option V :=
  match P.underlying s, P.underlying d with
  | some _, some (.int k) => match x with
    | .raw (.int _ n) => some (.raw (.int k (k.wrap n)))
    | _ => none
  | some .string, some .string => match x with
    | .raw (.string b) => some (.raw (.string b))
    | _ => none
  | some (.slice e), some .string =>
    match P.underlying e with
    | some (.int .u8) => match x with
      | .raw (.slice none _ _) => some (.raw (.string .empty))
      | .sl k o n ex lb es => match (sliceCells h 1 (.sl k o n ex lb es)).bind bytesOf with
        | some bs => some (.raw (.string ⟨bs.toArray⟩))
        | none => none
      | _ => none
    | _ => none
  | _, _ => none

def convn (P : Program) (h : VH) (s d : TypeId) (x : V) : Option (V × VH) :=
  match P.underlying s, P.underlying d with
  | some .string, some (.slice e) => match x with
    | .raw (.string b) =>
      match P.underlying e with
      | some (.int .u8) => some (.sl h.next 0 b.size false b.size 1, h.new (.cells e (b.data.toList.map fun b => .raw (.int .u8 b.toNat))))
      | _ => none
    | _ => none
  | some (.slice _), some (.slice e) => match x with
    | .sl k o n ex lb es =>
      match P.underlying e, cellsAt h k with
      | some (.int .u8), some _ => if s = d then some (.sl k o n ex lb es, h) else none
      | _, _ => none
    | _ => none
  | _, _ => none

def num : Option V → Option (Option Nat)
  | none => some none
  | some (.raw (.int _ i)) => if 0 ≤ i then some (some i.toNat) else none
  | _ => none

def slice (P : Program) (h : VH) (t : TypeId) (x : V) (lo hi mx : Option V) : Option V :=
  match num lo, num hi, num mx, P.underlying t with
  | some lo, some hi, some mx, some (.slice e) =>
    match mkTI P e, x with
    | some ti, .sl k o len ex lb es =>
      if es ≠ ti.size then none else
      let l := lo.getD 0
      let hh := hi.getD len
      let m := mx.getD lb
      let exm := mx.isSome || ex
      if l ≤ hh ∧ hh ≤ m ∧ m ≤ lb ∧ (mx.isSome = true → hi.isSome = true) ∧ (hi.isNone = true → l ≤ len) then
        if l < m then some (.sl k (o + l * es) (hh - l) exm (m - l) es)
        else if exm then some (.sl k o (hh - l) exm (m - l) es)
        else if l = 0 then some (.sl k o (hh - l) exm (m - l) es) else none
      else none
    | some _, .raw (.slice none 0 0) => if lo.getD 0 = 0 ∧ hi.getD 0 = 0 ∧ mx = none then some (.raw (.slice none 0 0)) else none
    | _, _ => none
  | some lo, some hi, some none, some (.array n e) =>
    match mkTI P e, x with
    | some ti, .ptr k o =>
      match cellsAt h k with
      | some (_, cs) =>
        let l := lo.getD 0
        let hh := hi.getD n
        if l ≤ hh ∧ hh ≤ n ∧ o + n * ti.size ≤ cs.length then
          some (.sl k (if n = l then o else o + l * ti.size) (hh - l) true (n - l) ti.size)
        else none
      | none => none
    | _, _ => none
  | some lo, some hi, some none, some .string =>
    match x with
    | .raw (.string s) =>
      let l := lo.getD 0
      let hh := hi.getD s.size
      if l ≤ hh ∧ hh ≤ s.size then some (.raw (.string ⟨((s.data.toList.drop l).take (hh - l)).toArray⟩)) else none
    | _ => none
  | _, _, _, _ => none

def fieldOf (P : Program) (t : TypeId) (i : Nat) : Option (Nat × TI) :=
  match P.underlying t with
  | some (.struct fs) => match fs[i]? with
    | some f => (mkTI P f.type).map fun x => (f.offset, x)
    | none => none
  | _ => none

def fieldAt (P : Program) (t : TypeId) (i : Nat) : V → Option V
  | .ptr k o => match fieldOf P t i with
    | some (off, ti) => if ti.size = 0 then none else some (.ptr k (o + off))
    | none => none
  | _ => none

def partOf (ti : TI) (cs : List V) (off : Nat) : Option V :=
  if isAg ti.d then (if off + ti.size ≤ cs.length then some (.agg ((cs.drop off).take ti.size)) else none) else nth cs off

def field (P : Program) (t : TypeId) (i : Nat) (v : V) : Option V :=
  if isAgV v then match fieldOf P t i with
    | some (off, ti) => partOf ti v.cells off
    | none => none
  else none

def indexAt (P : Program) (t : TypeId) (x i : V) : Option V :=
  match P.underlying t, x, i with
  | some (.slice e), .sl k o len _ _ es, .raw (.int _ i) =>
    match mkTI P e with
    | some ti => if es = ti.size ∧ 0 ≤ i ∧ i < len then some (.ptr k (o + i.toNat * es)) else none
    | none => none
  | some (.array n e), .ptr k o, .raw (.int _ i) =>
    match mkTI P e with
    | some ti => if 0 ≤ i ∧ i < n then some (.ptr k (o + i.toNat * ti.size)) else none
    | none => none
  | _, _, _ => none

def index (P : Program) (t : TypeId) (x i : V) : Option V :=
  match P.underlying t, x, i with
  | some .string, .raw (.string s), .raw (.int _ i) =>
    if 0 ≤ i then match nth s.data.toList i.toNat with | some b => some (.raw (.int .u8 b.toNat)) | none => none else none
  | some (.array n e), x, .raw (.int _ i) =>
    match mkTI P e with
    | some ti => if isAgV x = true ∧ 0 ≤ i ∧ i < n then partOf ti x.cells (i.toNat * ti.size) else none
    | none => none
  | _, _, _ => none

/-- A slice as an array's place. -/
def arrAt (P : Program) (t : TypeId) (x : V) : Option V :=
  match P.underlying t, x with
  | some (.array n _), .sl k o len _ _ _ => if n ≤ len then some (.ptr k o) else none
  | _, _ => none

/-- The key of a map, if it is one that is easily compared. -/
def keyEq : V → V → Option Bool
  | .raw (.int k x), .raw (.int k' y) => if k = k' then some (decide (x = y)) else none
  | .raw (.string x), .raw (.string y) => some (x.data.toList == y.data.toList)
  | _, _ => none

def keyOk (P : Program) (t : TypeId) : V → Bool
  | .raw (.int _ _) => match P.underlying t with | some (.int _) => true | _ => false
  | .raw (.string _) => match P.underlying t with | some .string => true | _ => false
  | _ => false

def find (k : V) : List (V × V × Nat) → Nat → Option (Option (Nat × V))
  | [], _ => some none
  | (a, v, _) :: es, i => match keyEq k a with
    | some true => some (some (i, v))
    | some false => find k es (i + 1)
    | none => none

def mapAt (h : VH) : V → Option (List (V × V × Nat))
  | .raw (.map none) => some []
  | .map k => match h.get k with
    | some (.map es _) => some es
    | _ => none
  | _ => none

def lookup (P : Program) (h : VH) (t : TypeId) (x i : V) (ok : Bool) : Option V :=
  match P.underlying t with
  | some (.map key elem) =>
    match mapAt h x, mkTI P elem with
    | some es, some ti => if keyOk P key i then
        match find i es 0 with
        | some (some (_, v)) => some (if ok then .tup [v, .raw (.bool true)] else v)
        | some none => some (if ok then .tup [.raw ti.z, .raw (.bool false)] else .raw ti.z)
        | none => none
      else none
    | _, _ => none
  | _ => none

def mapSet (P : Program) (h : VH) (t : TypeId) (m k x : V) : Option VH :=
  match P.underlying t, m with
  | some (.map key _), .map r =>
    match h.get r with
    | some (.map es clock) => if keyOk P key k then
        match find k es 0 with
        | some (some (i, _)) => some (h.set r (.map (es.modify i fun e => (k, x, e.2.2)) clock))
        | some none => some (h.set r (.map (es ++ [(k, x, clock)]) (clock + 1)))
        | none => none
      else none
    | _ => none
  | _, _ => none

def del (P : Program) (h : VH) (t : TypeId) (m k : V) : Option VH :=
  match P.underlying t, m with
  | some (.map key _), .map r =>
    match h.get r with
    | some (.map es clock) => if keyOk P key k then
        match find k es 0 with
        | some (some (i, _)) => some (h.set r (.map (es.eraseIdx i) clock))
        | some none => some (h.set r (.map es clock))
        | none => none
      else none
    | _ => none
  | _, _ => none

/-- what is appended: a slice's elements, or noughts -/
def added (h : VH) (ti : TI) (d2 : TypeDesc) (x : V) : Option (List V × Nat) :=
  match d2 with
  | .int _ => match x with
    | .raw (.int _ n) => if 0 ≤ n ∧ n * (ti.bytes + 1) ≤ 1000000 then some (rep (ti.zs.map .raw) n.toNat, n.toNat) else none
    | _ => none
  | _ => match sliceCells h ti.size x, lenOf x with
    | some new, some n => some (new, n)
    | _, _ => none

/-- append: in place, where there is room for sure; else a block of its own, and no more of the old one. -/
def append (P : Program) (h : VH) (ts : List TypeId) (s x : V) : Option (V × VH) :=
  match ts with
  | t :: t2 :: _ =>
    match elemTI P t, P.underlying t2 with
    | some (e, ti), some d2 =>
      if ti.size = 0 then none else
      match added h ti d2 x with
      | some (new, n) =>
        match s with
        | .raw (.slice none 0 0) => if n = 0 then some (.raw (.slice none 0 0), h) else if 1000000 < n * (ti.bytes + 1) then none else
            some (.sl h.next 0 n false n ti.size, h.new (.cells e new))
        | .sl k o len ex lb es =>
          if es ≠ ti.size ∨ 1000000 < (len + n) * (ti.bytes + 1) then none else
          if len + n ≤ lb then
            match putCells h k (o + len * es) new with
            | some h' => some (.sl k o (len + n) ex lb es, h')
            | none => none
          else
            match sliceCells h ti.size s with
            | some old =>
              if ex then some (.sl h.next 0 (len + n) false (len + n) es, h.new (.cells e (old ++ new)))
              else if o = 0 then
                match cellsAt h k with
                | some (t0, _) => if t0 = e ∧ new.all V.one = true then some (.sl h.next 0 (len + n) false (len + n) es, (h.new (.cells e (old ++ new))).del k) else none
                | none => none
              else none
            | none => none
        | _ => none
      | none => none
    | _, _ => none
  | _ => none

def copy (P : Program) (h : VH) (ts : List TypeId) (d s : V) : Option (V × VH) :=
  match ts with
  | t :: _ =>
    match elemTI P t, lenOf d, lenOf s with
    | some (_, ti), some dn, some sn =>
      let n := Nat.min sn dn
      match sliceCells h ti.size s with
      | some cs =>
        match d with
        | .raw (.slice none 0 0) => some (.raw (.int .i64 n), h)
        | .sl k o _ _ _ es => if es ≠ ti.size then none else
          match putCells h k o (cs.take (n * es)) with
          | some h' => some (.raw (.int .i64 n), h')
          | none => none
        | _ => none
      | none => none
    | _, _, _ => none
  | _ => none

def mapSize (h : VH) (v : V) : Option Nat := (mapAt h v).map List.length

def builtinq (P : Program) (h : VH) (b : Builtin) (ts : List TypeId) (as : List V) : Option V :=
  match b, as with
  | .len, [x] => match ts with
    | t :: _ => match P.underlying t with
      | some (.slice _) => match x with
        | .raw (.slice _ n _) => some (.raw (.int .i64 n))
        | .sl _ _ n _ _ _ => some (.raw (.int .i64 n))
        | _ => none
      | some .string => match x with
        | .raw (.string s) => some (.raw (.int .i64 s.size))
        | _ => none
      | some (.map _ _) => (mapSize h x).map fun n => .raw (.int .i64 n)
      | _ => none
    | _ => none
  | .cap, [x] => match ts with
    | t :: _ => match P.underlying t with
      | some (.slice _) => match x with
        | .raw (.slice _ _ c) => some (.raw (.int .i64 c))
        | .sl _ _ _ ex lb _ => if ex then some (.raw (.int .i64 lb)) else none
        | _ => none
      | _ => none
    | _ => none
  | .min, [.raw (.int k a), .raw (.int k' b)] => if k = k' then some (.raw (.int k (if b < a then b else a))) else none
  | .max, [.raw (.int k a), .raw (.int k' b)] => if k = k' then some (.raw (.int k (if a < b then b else a))) else none
  | _, _ => none

def builtin (P : Program) (h : VH) (b : Builtin) (ts : List TypeId) (as : List V) : Option (V × VH) :=
  match b, as with
  | .append, [s, x] => append P h ts s x
  | .copy, [d, s] => copy P h ts d s
  | .delete, [m, k] => match ts with
    | t :: _ => (del P h t m k).map fun h' => (.raw (.tuple #[]), h')
    | _ => none
  | _, _ => none

def fillAll (size : Nat) (place : Nat → Option (Nat × Nat)) : List V → List (Nat × V) → Option (List V)
  | cs, [] => some cs
  | cs, (i, v) :: r => match place i with
    | some (off, n) => if v.cells.length = n ∧ off + n ≤ size then fillAll size place (spl cs off v.cells) r else none
    | none => none

def plc (P : Program) : List Field → Option (List (Nat × Nat))
  | [] => some []
  | f :: fs => match mkTI P f.type, plc P fs with
    | some x, some l => some ((f.offset, x.size) :: l)
    | _, _ => none

def build (P : Program) (t : TypeId) (ps : List (Nat × V)) : Option V :=
  match mkTI P t with
  | some ti => match ti.d with
    | .struct fs => match plc P fs.toList with
      | some l => (fillAll ti.size (nth l) (ti.zs.map .raw) ps).map .agg
      | none => none
    | .array _ e => match mkTI P e with
      | some ei => (fillAll ti.size (fun i => some (i * ei.size, ei.size)) (ti.zs.map .raw) ps).map .agg
      | none => none
    | _ => none
  | none => none

def buildSlice (P : Program) (h : VH) (t : TypeId) (n : Nat) (ps : List (Nat × V)) : Option (V × VH) :=
  match elemTI P t with
  | some (e, ti) =>
    if 16777216 < n * ti.size then none else
    match fillAll (n * ti.size) (fun i => some (i * ti.size, ti.size)) (rep (ti.zs.map .raw) n) ps with
    | some cs => some (.sl h.next 0 n true n ti.size, h.new (.cells e cs))
    | none => none
  | none => none

def make (P : Program) (h : VH) (t : TypeId) (l c : V) : Option (V × VH) :=
  match elemTI P t, l, c with
  | some (e, ti), .raw (.int _ l), .raw (.int _ c) =>
    if 0 ≤ l ∧ l ≤ c ∧ c * (ti.bytes + ti.size + 1) ≤ 1000000 then
      some (.sl h.next 0 l.toNat true c.toNat ti.size, h.new (.cells e (rep (ti.zs.map .raw) c.toNat)))
    else none
  | _, _, _ => none

def range (P : Program) (h : VH) (t : TypeId) (x : V) : Option (V × VH) :=
  match P.underlying t, x with
  | some (.map _ _), .raw (.map none) => some (.ptr h.next 0, h.new (.iter none 0 [] 0))
  | some (.map _ _), .map k => match h.get k with
    | some (.map _ clock) => some (.ptr h.next 0, h.new (.iter (some k) clock [] clock))
    | _ => none
  | _, _ => none

/-- the entries that a step may come to -/
def next (h : VH) (it : V) : Option (List (V × VH)) :=
  match it with
  | .ptr r 0 =>
    match h.get r with
    | some (.iter none _ _ _) => some [(.tup [.raw (.bool false)], h)]
    | some (.iter (some m) since seen _) =>
      match h.get m with
      | some (.map es clock) =>
        if seen.isEmpty then
          if es.isEmpty then some [(.tup [.raw (.bool false)], h)]
          else if es.all (fun e => decide (e.2.2 < since)) then
            some (es.map fun e => (.tup [.raw (.bool true), e.1, e.2.1], h.set r (.iter (some m) since [e.2.2] clock)))
          else none
        else none
      | _ => none
    | _ => none
  | _ => none

def extract (x : V) (i : Nat) : Option V :=
  match x with
  | .tup vs => nth vs i
  | .raw (.tuple vs) => (nth vs.toList i).map .raw
  | _ => none

def assert (P : Program) (x : V) (u : TypeId) (ok : Bool) : Option V :=
  match mkTI P u with
  | some ti =>
    match ti.d with
    | .interface _ => none
    | _ =>
      match x with
      | .raw .nilIface => if ok then some (.tup [.raw ti.z, .raw (.bool false)]) else none
      | .ifc t v => if t = u then some (if ok then .tup [v, .raw (.bool true)] else v) else if ok then some (.tup [.raw ti.z, .raw (.bool false)]) else none
      | _ => none
  | none => none

def opts (e : List (List V)) : Option X → Option V
  | none => none
  | some x => some (x.ev e)

/-- An operation that only looks. -/
def opq (P : Program) (d : D) (e : List (List V)) (h : VH) : Option V :=
  match d with
  | .build t ps => build P t (ps.map fun p => (p.1, p.2.ev e))
  | .load t a => load P h t (a.ev e)
  | .nil x => match x.ev e with
    | .ptr k o => some (.ptr k o)
    | _ => none
  | .bin op t _ _ a b => bin P op t (a.ev e) (b.ev e)
  | .un op x => un op (x.ev e)
  | .conv s d x => convq P h s d (x.ev e)
  | .arrAt t x => arrAt P t (x.ev e)
  | .iface t x => match P.underlying t with
    | some (.interface _) => none
    | some _ => some (.ifc t (x.ev e))
    | none => none
  | .func f a b => some (.fn f (a.map (X.ev e)) (b.map (X.ev e)))
  | .slice t x lo hi mx => slice P h t (x.ev e) (opts e lo) (opts e hi) (opts e mx)
  | .fieldAt t x i => fieldAt P t i (x.ev e)
  | .field t x i => field P t i (x.ev e)
  | .indexAt t x i => indexAt P t (x.ev e) (i.ev e)
  | .index t x i => index P t (x.ev e) (i.ev e)
  | .lookup t x i ok => lookup P h t (x.ev e) (i.ev e) ok
  | .extract x i => extract (x.ev e) i
  | .assert x _ u ok => assert P (x.ev e) u ok
  | .builtin b ts _ _ as => builtinq P h b ts (as.map (X.ev e))
  | _ => none

/-- .. that does something. -/
def opn (P : Program) (d : D) (e : List (List V)) (h : VH) : Option (V × VH) :=
  match d with
  | .alloc t => match mkTI P t with
    | some ti => some (newCells h t (ti.zs.map .raw))
    | none => none
  | .box t v => some (newCells h t (v.ev e).cells)
  | .buildSlice t n ps => buildSlice P h t n (ps.map fun p => (p.1, p.2.ev e))
  | .store t a v => (store P h t (a.ev e) (v.ev e)).map (.raw undef, ·)
  | .conv s d x => convn P h s d (x.ev e)
  | .map _ none => some (.map h.next, h.new (.map [] 0))
  | .make t l c => make P h t (l.ev e) (c.ev e)
  | .mapSet t m k x => (mapSet P h t (m.ev e) (k.ev e) (x.ev e)).map (.raw undef, ·)
  | .range t x => range P h t (x.ev e)
  | .builtin b ts _ _ as => builtin P h b ts (as.map (X.ev e))
  | _ => none

/-- An operation that is no call, and has one outcome. -/
def op (P : Program) (d : D) (e : List (List V)) (h : VH) : Option (V × VH) :=
  match opq P d e h with
  | some v => some (v, h)
  | none => opn P d e h

/-- A scalar of which it is sure that two are one. -/
def same1 : V → V → Bool
  | .raw (.int k x), .raw (.int k' y) => decide (k = k') && decide (x = y)
  | .raw (.bool x), .raw (.bool y) => x == y
  | .raw (.pointer none), .raw (.pointer none) => true
  | .raw (.slice none a b), .raw (.slice none c d) => decide (a = c) && decide (b = d)
  | .raw (.map none), .raw (.map none) => true
  | .raw (.string x), .raw (.string y) => x.data.toList == y.data.toList
  | .ptr k o, .ptr k' o' => decide (k = k') && decide (o = o')
  | .map k, .map k' => decide (k = k')
  | .sym n, .sym m => decide (n = m)
  | .sl k o n ex lb es, .sl k' o' n' ex' lb' es' => decide (k = k') && decide (o = o') && decide (n = n') && (ex == ex') && decide (lb = lb') && decide (es = es')
  | _, _ => false

def sames : List V → List V → Bool
  | [], [] => true
  | a :: l, b :: m => same1 a b && sames l m
  | _, _ => false

def same : V → V → Bool
  | .agg a, .agg b => sames a b
  | a, b => same1 a b

def callee (f : V) (as : List V) : Option (FuncId × List V) :=
  match f with
  | .fn (.func g) a b => some (g, a ++ as ++ b)
  | .raw (.func (.func g) a b) => some (g, a.toList.map .raw ++ as ++ b.toList.map .raw)
  | _ => none

structure O where
  t : Nat
  vs : List V
  h : VH

def all {α : Type} (f : α → Option (List O)) : List α → Option (List O)
  | [] => some []
  | a :: l => match f a with
    | none => none
    | some r => match all f l with
      | none => none
      | some r' => some (r ++ r')

def iter (n : Nat) (step : List V → VH → Option (List O)) (vs : List V) (h : VH) : Option (List O) :=
  match n with
  | 0 => none
  | n + 1 => match step vs h with
    | none => none
    | some l => all (fun o => if o.t = 0 then iter n step o.vs o.h else some [o]) l

abbrev Rec := FuncId → List V → VH → Option (List (V × VH))

/-- What an operation may come to. -/
def step (P : Program) (rec : Rec) (d : D) (e : List (List V)) (h : VH) : Option (List (V × VH)) :=
  match d with
  | .call f as => rec f (as.map (X.ev e)) h
  | .callV f as => match callee (f.ev e) (as.map (X.ev e)) with
    | some (g, as) => rec g as h
    | none => none
  | .next it false _ => next h (it.ev e)
  | d => match op P d e h with
    | some r => some [r]
    | none => none

def res (rs : List ResultVar) (P : Program) (h : VH) : List V → Option (List V)
  | vs => match rs, vs with
    | [], [] => some []
    | .tmp _ :: rs, v :: vs => (res rs P h vs).map (v :: ·)
    | .cell _ t :: rs, v :: vs => match load P h t v, res rs P h vs with
      | some u, some us => some (u :: us)
      | _, _ => none
    | _, _ => none

def tup : List V → V
  | [v] => v
  | vs => .tup vs

/-- The deferred calls, and then the results. -/
def fin (P : Program) (recD : Rec) (rs : List ResultVar) (vs : List V) : List (FuncId × List V) → VH → Option (List O)
  | [], h => match res rs P h vs with
    | some us => some [⟨0, [tup us], h⟩]
    | none => none
  | (f, as) :: ds, h => match recD f as h with
    | some l => all (fun r => fin P recD rs vs ds r.2) l
    | none => none

def ev (P : Program) (rec recD : Rec) (fuel : Nat) : T → Nat → List (List V) → List (FuncId × List V) → VH → Option (List O)
  | .done t xs, _, e, _, h => some [⟨t, xs.map (X.ev e), h⟩]
  | .doneRow t i, _, e, _, h => some [⟨t, (nth e i).getD [], h⟩]
  | .bind p k, g, e, ds, h => match ev P rec recD fuel p g e ds h with
    | some l => all (fun o => ev P rec recD fuel k o.t (o.vs :: e) ds o.h) l
    | none => none
  | .op d k, g, e, ds, h => match step P rec d e h with
    | some l => all (fun r => ev P rec recD fuel k g ([r.1] :: e) ds r.2) l
    | none => none
  | .rd d k, g, e, ds, h => match opq P d e h with
    | some r => ev P rec recD fuel k g ([r] :: e) ds h
    | none => none
  | .chk d x k, g, e, ds, h => match opq P d e h with
    | some r => if same r (x.ev e) then ev P rec recD fuel k g e ds h else none
    | none => none
  | .dfr f as k, g, e, ds, h => match callee (f.ev e) (as.map (X.ev e)) with
    | some d => ev P rec recD fuel k g e (d :: ds) h
    | none => none
  | .ite x a b, g, e, ds, h => match x.ev e with
    | .raw (.bool true) => ev P rec recD fuel a g e ds h
    | .raw (.bool false) => ev P rec recD fuel b g e ds h
    | _ => none
  | .both a b, g, e, ds, h => match ev P rec recD fuel a g e ds h, ev P rec recD fuel b g e ds h with
    | some l, some m => some (l ++ m)
    | _, _ => none
  | .drew p, g, e, ds, h => ev P rec recD fuel p g e ds h
  | .loop init body k, g, e, ds, h => match iter fuel (fun vs h => ev P rec recD fuel body g (vs :: e) ds h) (init.map (X.ev e)) h with
    | some l => all (fun o => ev P rec recD fuel k o.t (o.vs :: e) ds o.h) l
    | none => none
  | .alt t a r, g, e, ds, h => if g = t then ev P rec recD fuel a g e ds h else ev P rec recD fuel r g e ds h
  | .fin rs xs, _, e, ds, h => fin P recD rs (xs.map (X.ev e)) ds h
  | .finRow rs i, _, e, ds, h => fin P recD rs ((nth e i).getD []) ds h
  | .fail, _, _, _, _ => none

/-- A call of a function, to a depth. -/
def call (P : Program) (tbl : FuncId → Option T) (nat natD : Rec) (fuel : Nat) : Nat → Rec
  | 0, _, _, _ => none
  | n + 1, f, as, h =>
    match nat f as h with
    | some r => some r
    | none =>
      match tbl f with
      | none => none
      | some t => match ev P (call P tbl nat natD fuel n) natD fuel t 0 (as.map fun a => [a]) [] h with
        | none => none
        | some l => some (l.map fun o => (o.vs.headD (.raw undef), o.h))
end Ev
end Go.Fr

-- FrCell
namespace Go.Fr
open Go
set_option linter.unusedSectionVars false
section
variable {P : Program} {w : World} {b o : Nat} {T : TypeId} {cs : List Value} {fr : Nat × Nat}

theorem cell_fr (h : w.heap[b]? = some (.cells cs.toArray T fr)) : w.cell? ⟨b, o, none⟩ = cs[o]? := by
  simp [World.cell?, h]

theorem run_loadCellsFrom_fr (h : w.heap[b]? = some (.cells cs.toArray T fr)) : ∀ (n i : Nat) (acc : Array Value), o + i + n ≤ cs.length →
    (loadCellsFrom ⟨b, o, none⟩ i n acc).run P w = .ok (acc ++ ((cs.drop (o + i)).take n).toArray) w := by
  intro n
  induction n with
  | zero => intro i acc _; simp [loadCellsFrom]
  | succ n ih =>
    intro i acc hl
    have hlt : o + i < cs.length := by omega
    have hc : w.cell? ((⟨b, o, none⟩ : Addr).add i) = some cs[o + i] := by
      rw [add_at, cell_fr h, List.getElem?_eq_getElem hlt]
    simp only [loadCellsFrom, Sem.run_bind, run_load_of hc, Result.andThen_ok]
    rw [ih (i + 1) _ (by omega)]
    congr 1
    rw [List.drop_eq_getElem_cons hlt, List.take_succ_cons, show o + (i + 1) = o + i + 1 by omega]
    simp

theorem run_loadCells_fr {n : Nat} (h : w.heap[b]? = some (.cells cs.toArray T fr)) (hl : o + n ≤ cs.length) :
    (loadCells ⟨b, o, none⟩ n).run P w = .ok ((cs.drop o).take n).toArray w := by
  unfold loadCells
  rw [run_loadCellsFrom_fr h n 0 #[] (by omega)]
  simp

theorem frozen_fr (h : w.heap[b]? = some (.cells cs.toArray T fr)) (hf : fr = (0, 0) ∨ cs.length ≤ fr.1) (ho : o < cs.length) : w.frozen? ⟨b, o, none⟩ = false := by
  obtain ⟨lo, hi⟩ := fr
  simp only [World.frozen?, h]
  rcases hf with hf | hf
  · cases hf; simp
  · simp only [Bool.and_eq_false_iff, decide_eq_false_iff_not]
    left; simp at hf ⊢; omega

theorem setCell_fr {v : Value} (h : w.heap[b]? = some (.cells cs.toArray T fr)) :
    w.setCell ⟨b, o, none⟩ v = { w with heap := w.heap.setIfInBounds b (.cells (cs.set o v).toArray T fr) } := by
  unfold World.setCell
  congr 1
  apply Array.ext_getElem?
  intro i
  simp only [Array.getElem?_modify, Array.getElem?_setIfInBounds]
  by_cases hi : b = i
  · subst hi
    obtain ⟨hlt, hg⟩ := Array.getElem?_eq_some_iff.1 h
    simp [hlt, hg]
  · simp [hi]

theorem run_store_fr {v : Value} (h : w.heap[b]? = some (.cells cs.toArray T fr)) (hf : fr = (0, 0) ∨ cs.length ≤ fr.1) (ho : o < cs.length) (hv : one v = true) :
    (store ⟨b, o, none⟩ v).run P w = .ok () { w with heap := w.heap.setIfInBounds b (.cells (cs.set o v).toArray T fr) } := by
  have hc : w.cell? ⟨b, o, none⟩ = some cs[o] := by rw [cell_fr h, List.getElem?_eq_getElem ho]
  rw [← setCell_fr h]
  cases v <;> simp [one] at hv <;> simp [store, Sem.run, hc, frozen_fr h hf ho]

theorem set_set {b : Nat} {x y : Obj} {a : Array Obj} : (a.setIfInBounds b x).setIfInBounds b y = a.setIfInBounds b y := by
  apply Array.ext_getElem?
  intro j
  simp only [Array.getElem?_setIfInBounds, Array.size_setIfInBounds]
  split <;> rfl

theorem set_same {b : Nat} {x : Obj} {a : Array Obj} (h : a[b]? = some x) : a.setIfInBounds b x = a := by
  apply Array.ext_getElem?
  intro j
  simp only [Array.getElem?_setIfInBounds]
  split
  · rename_i hj; subst hj
    split
    · exact h.symm
    · rename_i hn; have := (Array.getElem?_eq_some_iff.1 h).1; exact absurd this hn
  · rfl

theorem run_storeCells_fr (hf : fr = (0, 0) ∨ cs.length ≤ fr.1) : ∀ (vs : List Value) (i : Nat) (ds : List Value) (w : World), ds.length = cs.length → w.heap[b]? = some (.cells ds.toArray T fr) →
    o + i + vs.length ≤ ds.length → (∀ v ∈ vs, one v = true) →
    (storeCells ⟨b, o, none⟩ vs i).run P w = .ok () { w with heap := w.heap.setIfInBounds b (.cells ((ds.take (o + i)) ++ vs ++ ds.drop (o + i + vs.length)).toArray T fr) } := by
  intro vs
  induction vs with
  | nil =>
    intro i ds w hd h hl _
    have : (ds.take (o + i)) ++ [] ++ ds.drop (o + i + 0) = ds := by simp
    simp only [List.length_nil, storeCells, Sem.run_pure]
    rw [this, set_same h]
  | cons v vs ih =>
    intro i ds w hd h hl hv
    simp only [List.length_cons] at hl
    have h1 := run_store_fr (P := P) (o := o + i) (v := v) h (by rw [hd]; exact hf) (by omega) (hv v List.mem_cons_self)
    have hlt := (Array.getElem?_eq_some_iff.1 h).1
    have h2 : ({ w with heap := w.heap.setIfInBounds b (.cells (ds.set (o + i) v).toArray T fr) } : World).heap[b]? = some (.cells (ds.set (o + i) v).toArray T fr) := by simp [hlt]
    have hr := ih (i + 1) (ds.set (o + i) v) _ (by simpa using hd) h2 (by simp; omega) fun u hu => hv u (List.mem_cons_of_mem _ hu)
    simp only [storeCells, Sem.run_bind, add_at, h1, Result.andThen_ok, hr]
    have e : ((ds.set (o + i) v).take (o + (i + 1))) ++ vs ++ (ds.set (o + i) v).drop (o + (i + 1) + vs.length) = (ds.take (o + i)) ++ (v :: vs) ++ ds.drop (o + i + (v :: vs).length) := by
      have e1 : (ds.set (o + i) v).take (o + (i + 1)) = ds.take (o + i) ++ [v] := by
        rw [show o + (i + 1) = o + i + 1 by omega, List.take_succ_eq_append_getElem (by simp; omega)]
        simp [List.take_set_of_le]
      have e2 : (ds.set (o + i) v).drop (o + (i + 1) + vs.length) = ds.drop (o + i + (v :: vs).length) := by
        rw [List.drop_set_of_lt (by omega)]
        congr 1
        simp; omega
      rw [e1, e2]
      simp
    rw [e, set_set]

-- ------------------------------------------------------------ types

theorem mkTI_some {t : TypeId} {x : TI} (h : mkTI P t = some x) : P.underlying t = some x.d ∧ ∃ i, P.info? t = some i ∧ i.size = x.size ∧ i.bytes = x.bytes ∧ i.zero = some x.z ∧ x.z.cells.size = x.size := by
  unfold mkTI at h
  split at h
  · rename_i d i hu hi
    split at h
    · rename_i z hz
      split at h
      · rename_i hs
        cases h
        exact ⟨hu, i, hi, rfl, rfl, hz, hs⟩
      · cases h
    · cases h
  · cases h

theorem run_und_ti {t : TypeId} {x : TI} (h : mkTI P t = some x) : (underlying t).run P w = .ok x.d w := run_underlying_of (mkTI_some h).1
theorem run_size_ti {t : TypeId} {x : TI} (h : mkTI P t = some x) : (sizeOf t).run P w = .ok x.size w := by
  obtain ⟨_, i, hi, hs, _⟩ := mkTI_some h
  rw [run_size_of hi, hs]
theorem run_zero_ti {t : TypeId} {x : TI} (h : mkTI P t = some x) : (zeroValue t).run P w = .ok x.z w := by
  obtain ⟨_, i, hi, _, _, hz, _⟩ := mkTI_some h
  simp [zeroValue, run_info_of hi, hz]
theorem run_isAgg_ti {t : TypeId} {x : TI} (h : mkTI P t = some x) : (isAgg t).run P w = .ok (isAg x.d) w := by
  have hu := (mkTI_some h).1
  cases hd : x.d <;> simp [isAgg, run_underlying_of hu, hd, isAg]
theorem zs_len {t : TypeId} {x : TI} (h : mkTI P t = some x) : x.zs.length = x.size := by
  obtain ⟨_, i, hi, _, _, _, hs⟩ := mkTI_some h
  simpa [TI.zs] using hs

-- ------------------------------------------------------------ splices

theorem spl_eq {α : Type} (n : List α) : ∀ (cs : List α) (o : Nat), o + n.length ≤ cs.length → spl cs o n = cs.take o ++ n ++ cs.drop (o + n.length) := by
  have zero : ∀ (n cs : List α), n.length ≤ cs.length → spl cs 0 n = n ++ cs.drop n.length := by
    intro n
    induction n with
    | nil => intro cs _; cases cs <;> simp [spl]
    | cons x n ih =>
      intro cs h
      cases cs with
      | nil => simp at h
      | cons c cs => simp [spl, ih cs (by simpa using h)]
  intro cs
  induction cs with
  | nil =>
    intro o h
    have : n = [] := by cases n with | nil => rfl | cons => simp at h
    subst this; simp [spl]
  | cons c cs ih =>
    intro o h
    cases o with
    | zero => rw [zero n _ (by simpa using h)]; simp
    | succ o =>
      simp only [spl, List.take_succ_cons, List.cons_append]
      rw [ih o (by simp at h; omega)]
      simp [Nat.add_right_comm o 1]

variable [Sig]

theorem VR.one {ρ : Lay} {v : V} {u : Value} (h : VR ρ v u) (hv : V.one v = true) : Fr.one u = true := by
  cases h with
  | raw => cases u <;> simp_all [V.one, Fr.one]
  | ptr => rfl
  | sl => rfl
  | map => rfl
  | fn => rfl
  | ifc => rfl
  | agg => simp [V.one] at hv
  | tup => simp [V.one] at hv
  | any h => exact h
  | @sym n => exact Sig.one n

theorem VRs.ones {ρ : Lay} {vs : List V} {us : List Value} (h : VRs ρ vs us) (hv : vs.all V.one = true) : ∀ u ∈ us, Fr.one u = true := by
  intro u hu
  obtain ⟨i, hi, rfl⟩ := List.getElem_of_mem hu
  have hi' : i < vs.length := by have := h.1; omega
  have := h.2 i vs[i] us[i] (List.getElem?_eq_getElem hi') (List.getElem?_eq_getElem hi)
  exact this.one ((List.all_eq_true.1 hv) _ (List.getElem_mem hi'))

-- ------------------------------------------------------------ cells of a memory

section
variable {base : Nat} {w0 : World} {ρ : Lay} {h : VH}

theorem cellsAt_some {k : Nat} {t : TypeId} {cs : List V} (hc : Ev.cellsAt h k = some (t, cs)) : h.get k = some (.cells t cs) := by
  unfold Ev.cellsAt at hc
  split at hc
  · rename_i t' cs' hg
    cases hc; exact hg
  · cases hc

theorem WR.cells (r : WR base w0 ρ h w) {k : Nat} {t : TypeId} {cs : List V} (hc : Ev.cellsAt h k = some (t, cs)) :
    ∃ b n us ext fr, ρ[k]? = some (b, n) ∧ base ≤ b ∧ w.heap[b]? = some (.cells (us ++ ext).toArray t fr) ∧ VRs ρ cs us ∧ (us ++ ext).length = n ∧ (fr = (0, 0) ∨ (us ++ ext).length ≤ fr.1) := by
  obtain ⟨b, n, x, h1, h2, h3, h4⟩ := r.obj k _ (cellsAt_some hc)
  cases h4 with
  | cells ha hn hf => exact ⟨b, n, _, _, _, h1, h2, h3, ha, hn, by rw [hn]; exact hf⟩

theorem Ev.load_ok {t : TypeId} {v u : V} {v' : Value} (r : WR base w0 ρ h w) (hv : VR ρ v v') (he : Ev.load P h t v = some u) :
    ∃ u', (Instr.loadAt t v').run P w = .ok u' w ∧ VR ρ u u' := by
  unfold Ev.load at he
  split at he
  · rename_i k o
    cases hv with
    | @ptr _ _ b' n' hk =>
    split at he
    · rename_i _ cs ti hc ht
      obtain ⟨b, n, us, ext, fr, h1, h2, h3, h4, h5, h6⟩ := r.cells hc
      rw [h1] at hk; cases hk
      have hlen := h4.1
      simp only [List.length_append] at h5
      simp only [Instr.loadAt, Instr.sureAddr, loadVar, Sem.run_bind, Sem.run_pure, Result.andThen_ok, run_isAgg_ti ht]
      by_cases ha : isAg ti.d = true
      · simp only [ha, if_true] at he ⊢
        split at he
        · rename_i hle
          cases he
          refine ⟨.agg (((us ++ ext).drop o).take ti.size).toArray, ?_, ?_⟩
          · simp only [Sem.run_bind, run_size_ti ht, Result.andThen_ok, run_loadCells_fr h3 (show o + ti.size ≤ (us ++ ext).length by simp; omega), Sem.run_pure]
          · have e : ((us ++ ext).drop o).take ti.size = (us.drop o).take ti.size := by
              rw [List.drop_append_of_le_length (by omega), List.take_append_of_le_length (by simp; omega)]
            rw [e]
            have := (h4.drop o).take ti.size
            exact .agg this.1 this.2
        · cases he
      · simp only [ha] at he ⊢
        rw [nth_eq] at he
        obtain ⟨u', hu, hr⟩ := h4.get he
        refine ⟨u', ?_, hr⟩
        have : w.cell? ⟨b', o, none⟩ = some u' := by
          rw [cell_fr h3, List.getElem?_append_left (List.getElem?_eq_some_iff.1 hu).1]; exact hu
        simp [run_load_of this]
    · cases he
  · cases he

/-- Cells are stored. -/
theorem Ev.put_ok {k o b n : Nat} {vs : List V} {us : List Value} {h' : VH} (r : WR base w0 ρ h w) (hk : ρ[k]? = some (b, n)) (hv : VRs ρ vs us) (he : Ev.putCells h k o vs = some h') :
    ∃ w', (storeCells ⟨b, o, none⟩ us).run P w = .ok () w' ∧ WR base w0 ρ h' w' := by
  unfold Ev.putCells at he
  split at he
  · rename_i t cs hc
    split at he
    · rename_i hle
      cases he
      obtain ⟨hle, hone⟩ := hle
      obtain ⟨b', n', ds, ext, fr, h1, h2, h3, h4, h5, h6⟩ := r.cells hc
      rw [hk] at h1; cases h1
      have hlen := h4.1
      have hvl := hv.1
      refine ⟨_, run_storeCells_fr (P := P) (o := o) (cs := ds ++ ext) h6 us 0 (ds ++ ext) w rfl h3 (by simp; omega) (hv.ones hone), ?_⟩
      refine r.put (cellsAt_some hc) hk ?_ rfl
      have e : (ds ++ ext).take (o + 0) ++ us ++ (ds ++ ext).drop (o + 0 + us.length) = (ds.take o ++ us ++ ds.drop (o + us.length)) ++ ext := by
        rw [List.take_append_of_le_length (by omega), List.drop_append_of_le_length (by omega)]
        simp
      rw [e, spl_eq vs cs o hle]
      refine .cells (((h4.take o).app hv).app (by rw [hvl]; exact h4.drop _)) ?_ ?_
      · rw [← e]; simp at h5 ⊢; omega
      · rw [← h5]; exact h6
    · cases he
  · cases he

theorem Ev.store_ok {t : TypeId} {a v : V} {a' v' : Value} {h' : VH} (r : WR base w0 ρ h w) (ha : VR ρ a a') (hv : VR ρ v v') (he : Ev.store P h t a v = some h') :
    ∃ w', (Instr.storeAt t a' v').run P w = .ok () w' ∧ WR base w0 ρ h' w' := by
  unfold Ev.store at he
  split at he
  · rename_i k o ti ht
    cases ha with
    | ptr hk =>
    split at he
    · rename_i hs
      have hc := hv.cells
      obtain ⟨w', hr, hw⟩ := Ev.put_ok (P := P) r hk hc he
      refine ⟨w', ?_, hw⟩
      have : v'.cells.size = ti.size := by rw [← hs, hc.1]; simp
      simp [Instr.storeAt, Instr.sureAddr, storeVar, run_size_ti ht, this, hr]
    · cases he
  · cases he

/-- A new row of cells. -/
theorem Ev.new_ok {t : TypeId} {cs : List V} {us ext : List Value} {fr : Nat × Nat} (r : WR base w0 ρ h w) (hc : VRs ρ cs us) (hf : fr = (0, 0) ∨ (us ++ ext).length ≤ fr.1) :
    ∃ ρ', Ext ρ ρ' ∧ ρ'[h.next]? = some (w.heap.size, (us ++ ext).length) ∧ WR base w0 ρ' (h.new (.cells t cs)) { w with heap := w.heap.push (.cells (us ++ ext).toArray t fr) } := by
  obtain ⟨h1, h2, h3⟩ := r.new (n := (us ++ ext).length) (OR.cells (t := t) (ext := ext) (fr := fr) hc rfl hf) rfl
  exact ⟨_, h2, h3, h1⟩
end
end
end Go.Fr
