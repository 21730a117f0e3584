/-
  This file has values and memories that stand for real ones up to where these lie, and up to the room behind a slice.
-/
import Derived.Test.YtbnaoejdpggekaaGreatFrT
import Derived.Test.YtbnaoejdpggekaaGreatFrRules2
import Derived.Below
namespace Go.Fr
open Go

-- ------------------------------------------------------------ rows that go side by side

def Al {α β : Type} (R : α → β → Prop) (l : List α) (l' : List β) : Prop :=
  l.length = l'.length ∧ ∀ (i : Nat) (a : α) (b : β), l[i]? = some a → l'[i]? = some b → R a b

section
variable {α β : Type} {R R' : α → β → Prop} {l m : List α} {l' m' : List β}

theorem Al.nil : Al R [] [] := ⟨rfl, fun i a b h => by simp at h⟩

theorem Al.cons {a : α} {b : β} (h : R a b) (t : Al R l l') : Al R (a :: l) (b :: l') := by
  refine ⟨by simp [t.1], fun i x y hx hy => ?_⟩
  cases i with
  | zero => simp at hx hy; subst hx hy; exact h
  | succ i => simp at hx hy; exact t.2 i x y hx hy

theorem Al.mono (h : Al R l l') (hr : ∀ a b, R a b → R' a b) : Al R' l l' := ⟨h.1, fun i a b ha hb => hr _ _ (h.2 i a b ha hb)⟩

theorem Al.uncons {a : α} (h : Al R (a :: l) l') : ∃ b m, l' = b :: m ∧ R a b ∧ Al R l m := by
  cases l' with
  | nil => have := h.1; simp at this
  | cons b m =>
    refine ⟨b, m, rfl, h.2 0 a b rfl rfl, by have := h.1; simpa using this, fun i x y hx hy => h.2 (i + 1) x y (by simpa using hx) (by simpa using hy)⟩

theorem Al.unnil (h : Al R [] l') : l' = [] := by
  cases l' with
  | nil => rfl
  | cons b m => have := h.1; simp at this

theorem Al.get {i : Nat} {a : α} (h : Al R l l') (ha : l[i]? = some a) : ∃ b, l'[i]? = some b ∧ R a b := by
  have hi := (List.getElem?_eq_some_iff.1 ha).1
  have hi' : i < l'.length := by have := h.1; omega
  exact ⟨l'[i], List.getElem?_eq_getElem hi', h.2 i a _ ha (List.getElem?_eq_getElem hi')⟩

theorem Al.app (h : Al R l l') (k : Al R m m') : Al R (l ++ m) (l' ++ m') := by
  refine ⟨by simp [h.1, k.1], fun i a b ha hb => ?_⟩
  by_cases hi : i < l.length
  · rw [List.getElem?_append_left hi] at ha
    rw [List.getElem?_append_left (by have := h.1; omega)] at hb
    exact h.2 i a b ha hb
  · rw [List.getElem?_append_right (by omega)] at ha
    rw [List.getElem?_append_right (by have := h.1; omega), ← h.1] at hb
    exact k.2 _ a b ha hb

theorem Al.drop (n : Nat) (h : Al R l l') : Al R (l.drop n) (l'.drop n) :=
  ⟨by simp [h.1], fun i a b ha hb => h.2 (n + i) a b (by simpa using ha) (by simpa using hb)⟩

theorem Al.take (n : Nat) (h : Al R l l') : Al R (l.take n) (l'.take n) := by
  refine ⟨by simp [h.1], fun i a b ha hb => ?_⟩
  rw [List.getElem?_take] at ha hb
  split at ha
  · simp_all; exact h.2 i a b ha hb
  · cases ha

theorem Al.set {i : Nat} {a : α} {b : β} (h : Al R l l') (r : R a b) : Al R (l.set i a) (l'.set i b) := by
  refine ⟨by simp [h.1], fun j x y hx hy => ?_⟩
  rw [List.getElem?_set] at hx hy
  by_cases hij : i = j
  · simp only [hij, if_true] at hx hy
    split at hx
    · split at hy
      · simp at hx hy; subst hx hy; exact r
      · cases hy
    · cases hx
  · simp only [hij, if_false] at hx hy
    exact h.2 j x y hx hy

theorem Al.tail (h : Al R l l') : Al R l.tail l'.tail := by simpa using h.drop 1

theorem Al.headD {a : α} {b : β} (h : Al R l l') (r : R a b) : R (l.headD a) (l'.headD b) := by
  cases l with
  | nil => rw [h.unnil]; exact r
  | cons x l => obtain ⟨y, m, rfl, hr, _⟩ := h.uncons; exact hr

theorem Al.tailN (n : Nat) (h : Al R l l') : Al R (tailN n l) (tailN n l') := by
  induction n with
  | zero => exact h
  | succ n ih => exact ih.tail

theorem Al.map {γ δ : Type} {S : γ → δ → Prop} {f : α → γ} {g : β → δ} (h : Al R l l') (k : ∀ a b, R a b → S (f a) (g b)) : Al S (l.map f) (l'.map g) := by
  refine ⟨by simp [h.1], fun i c d hc hd => ?_⟩
  rw [List.getElem?_map] at hc hd
  cases ha : l[i]? with
  | none => simp [ha] at hc
  | some a =>
    obtain ⟨b, hb, hr⟩ := h.get ha
    simp [ha] at hc; simp [hb] at hd
    subst hc hd
    exact k _ _ hr

theorem Al.self {S : β → β → Prop} {xs : List β} (h : ∀ x, S x x) : Al S xs xs := ⟨rfl, fun i a b ha hb => by rw [ha] at hb; cases hb; exact h a⟩
end

-- ------------------------------------------------------------ values

inductive V where
  | raw (v : Value)
  | ptr (k o : Nat)
  /-- a slice of room lb or more (of just lb, if ex), of elements of es cells -/
  | sl (k o len : Nat) (ex : Bool) (lb es : Nat)
  | map (k : Nat)
  | fn (f : Fn) (a b : List V)
  | ifc (t : TypeId) (v : V)
  | agg (cs : List V)
  | tup (vs : List V)

/-- Where blocks lie, and how many cells they have. -/
abbrev Lay := List (Nat × Nat)

inductive VR (ρ : Lay) : V → Value → Prop
  | raw (v : Value) : VR ρ (.raw v) v
  | ptr {k o b n : Nat} (h : ρ[k]? = some (b, n)) : VR ρ (.ptr k o) (.pointer (some ⟨b, o, none⟩))
  | sl {k o len lb es b n c : Nat} {ex : Bool} (h : ρ[k]? = some (b, n)) (hl : lb ≤ c) (he : ex = true → c = lb) (hn : o + c * es ≤ n) (hx : ex = false → es ≠ 0 ∧ o + c * es = n) (hle : len ≤ lb) :
    VR ρ (.sl k o len ex lb es) (.slice (some ⟨b, o, none⟩) len c)
  | map {k b n : Nat} (h : ρ[k]? = some (b, n)) : VR ρ (.map k) (.map (some b))
  | fn {f : Fn} {a b : List V} {a' b' : List Value} (hl : a.length = a'.length) (ha : ∀ (i : Nat) x y, a[i]? = some x → a'[i]? = some y → VR ρ x y)
    (hm : b.length = b'.length) (hb : ∀ (i : Nat) x y, b[i]? = some x → b'[i]? = some y → VR ρ x y) : VR ρ (.fn f a b) (.func f a'.toArray b'.toArray)
  | ifc {t : TypeId} {v : V} {u : Value} (h : VR ρ v u) : VR ρ (.ifc t v) (.iface t u)
  | agg {cs : List V} {us : List Value} (hl : cs.length = us.length) (h : ∀ (i : Nat) x y, cs[i]? = some x → us[i]? = some y → VR ρ x y) : VR ρ (.agg cs) (.agg us.toArray)
  | tup {cs : List V} {us : List Value} (hl : cs.length = us.length) (h : ∀ (i : Nat) x y, cs[i]? = some x → us[i]? = some y → VR ρ x y) : VR ρ (.tup cs) (.tuple us.toArray)

/-- A layout that has more blocks. -/
def Ext (ρ ρ' : Lay) : Prop := ∀ (k : Nat) x, ρ[k]? = some x → ρ'[k]? = some x

theorem Ext.refl (ρ : Lay) : Ext ρ ρ := fun _ _ h => h
theorem Ext.trans {a b c : Lay} (h : Ext a b) (k : Ext b c) : Ext a c := fun i x hx => k i x (h i x hx)
theorem Ext.push (ρ : Lay) (x : Nat × Nat) : Ext ρ (ρ ++ [x]) := fun k y h => by
  rw [List.getElem?_append_left (List.getElem?_eq_some_iff.1 h).1]; exact h

theorem VR.ext {ρ ρ' : Lay} (he : Ext ρ ρ') {v : V} {u : Value} (h : VR ρ v u) : VR ρ' v u := by
  induction h with
  | raw v => exact .raw v
  | ptr h => exact .ptr (he _ _ h)
  | sl h hl hx hn hf hle => exact .sl (he _ _ h) hl hx hn hf hle
  | map h => exact .map (he _ _ h)
  | fn hl _ hm _ iha ihb => exact .fn hl iha hm ihb
  | ifc _ ih => exact .ifc ih
  | agg hl _ ih => exact .agg hl ih
  | tup hl _ ih => exact .tup hl ih

abbrev VRs (ρ : Lay) : List V → List Value → Prop := Al (VR ρ)
theorem VRs.ext {ρ ρ' : Lay} (he : Ext ρ ρ') {v : List V} {u : List Value} (h : VRs ρ v u) : VRs ρ' v u := h.mono fun _ _ => VR.ext he

abbrev EnvR (ρ : Lay) : List (List V) → List (List Value) → Prop := Al (VRs ρ)
theorem EnvR.ext {ρ ρ' : Lay} (he : Ext ρ ρ') {v : List (List V)} {u : List (List Value)} (h : EnvR ρ v u) : EnvR ρ' v u := h.mono fun _ _ => VRs.ext he

def nth {α : Type} : List α → Nat → Option α
  | [], _ => none
  | a :: l, i => match i with | 0 => some a | i + 1 => nth l i

theorem nth_eq {α : Type} (l : List α) (i : Nat) : nth l i = l[i]? := by
  induction l generalizing i with
  | nil => rfl
  | cons a l ih => cases i with
    | zero => rfl
    | succ i => simp [nth, ih]

def X.ev (e : List (List V)) : X → V
  | .v i j => (tailN j ((nth e i).getD [])).headD (.raw undef)
  | .c u => .raw u

theorem X.ev_rel {ρ : Lay} {e : List (List V)} {e' : List (List Value)} (h : EnvR ρ e e') (x : X) : VR ρ (x.ev e) (x.val e') := by
  cases x with
  | c u => exact .raw u
  | v i j =>
    unfold X.ev X.val
    refine Al.headD (Al.tailN j ?_) (.raw _)
    rw [nth_eq, List.getD_eq_getElem?_getD]
    cases hi : e[i]? with
    | none =>
      have : e'[i]? = none := List.getElem?_eq_none (by have := List.getElem?_eq_none_iff.1 hi; have := h.1; omega)
      rw [this]; exact .nil
    | some a => obtain ⟨b, hb, hr⟩ := h.get hi; rw [hb]; exact hr

theorem evs_rel {ρ : Lay} {e : List (List V)} {e' : List (List Value)} (h : EnvR ρ e e') (l : List X) : VRs ρ (l.map (X.ev e)) (vals e' l) :=
  ⟨by simp [vals], fun i a b ha hb => by
    unfold vals at hb
    rw [List.getElem?_map] at ha hb
    cases hl : l[i]? with
    | none => simp [hl] at ha
    | some x => simp [hl] at ha hb; subst ha hb; exact X.ev_rel h x⟩

/-- A value's cells. -/
def V.cells : V → List V
  | .agg cs => cs
  | .raw (.agg cs) => cs.toList.map .raw
  | v => [v]

theorem raws_rel {ρ : Lay} (l : List Value) : VRs ρ (l.map .raw) l :=
  ⟨by simp, fun i a b ha hb => by
    rw [List.getElem?_map, hb] at ha
    simp at ha; subst ha; exact .raw _⟩

theorem VR.cells {ρ : Lay} {v : V} {u : Value} (h : VR ρ v u) : VRs ρ v.cells u.cells.toList := by
  have one : ∀ {v u}, VR ρ v u → VRs ρ [v] [u] := fun h => .cons h .nil
  cases h with
  | raw => cases u <;> first | exact one (.raw _) | exact raws_rel _
  | ptr h => exact one (.ptr h)
  | sl h hl he hn hf hle => exact one (.sl h hl he hn hf hle)
  | map h => exact one (.map h)
  | fn a b c d => exact one (.fn a b c d)
  | ifc h => exact one (.ifc h)
  | agg hl h => exact ⟨by simpa [V.cells, Value.cells] using hl, fun i a b ha hb => h i a b ha (by simpa [Value.cells] using hb)⟩
  | tup hl h => exact one (.tup hl h)

-- ------------------------------------------------------------ trees by number

inductive PT (α : Type) where
  | nil
  | node (o : Option α) (l r : PT α)

def PT.get {α : Type} : PT α → Nat → Option α
  | .nil, _ => none
  | .node o l r, n => if n = 0 then o else if n % 2 = 1 then l.get (n / 2) else r.get (n / 2 - 1)

def PT.setF {α : Type} : Nat → PT α → Nat → Option α → PT α
  | 0, t, _, _ => t
  | f + 1, t, n, x =>
    match t with
    | .nil => if n = 0 then .node x .nil .nil else if n % 2 = 1 then .node none (PT.setF f .nil (n / 2) x) .nil else .node none .nil (PT.setF f .nil (n / 2 - 1) x)
    | .node o l r => if n = 0 then .node x l r else if n % 2 = 1 then .node o (PT.setF f l (n / 2) x) r else .node o l (PT.setF f r (n / 2 - 1) x)

theorem PT.get_setF {α : Type} (x : Option α) : ∀ (f : Nat) (t : PT α) (n m : Nat), n < f → (PT.setF f t n x).get m = if m = n then x else t.get m := by
  intro f
  induction f with
  | zero => intro t n m h; omega
  | succ f ih =>
    intro t n m h
    unfold PT.setF
    cases t with
    | nil =>
      simp only
      split
      · rename_i h0; subst h0
        unfold PT.get
        split
        · rfl
        · split <;> simp [PT.get]
      · rename_i h0
        split
        · rename_i h1
          conv => lhs; unfold PT.get
          by_cases hm : m = 0
          · simp [hm, PT.get]; intro; omega
          · simp only [hm, if_false]
            by_cases hm1 : m % 2 = 1
            · simp only [hm1, if_true]
              rw [ih _ _ _ (by omega)]
              by_cases e : m = n
              · simp [e]
              · have : m / 2 ≠ n / 2 := by omega
                simp [this, e, PT.get]
            · have : m ≠ n := by intro e; subst e; exact hm1 h1
              simp [hm1, this, PT.get]
        · rename_i h1
          conv => lhs; unfold PT.get
          by_cases hm : m = 0
          · simp [hm, PT.get]; intro; omega
          · simp only [hm, if_false]
            by_cases hm1 : m % 2 = 1
            · have : m ≠ n := by intro e; subst e; exact h1 hm1
              simp [hm1, this, PT.get]
            · simp only [hm1, if_false]
              rw [ih _ _ _ (by omega)]
              by_cases e : m = n
              · simp [e]
              · have : m / 2 - 1 ≠ n / 2 - 1 := by omega
                simp [this, e, PT.get]
    | node o l r =>
      simp only
      split
      · rename_i h0; subst h0
        unfold PT.get
        split
        · rfl
        · rfl
      · rename_i h0
        split
        · rename_i h1
          conv => lhs; unfold PT.get
          conv => rhs; unfold PT.get
          by_cases hm : m = 0
          · simp [hm]; intro; omega
          · simp only [hm, if_false]
            by_cases hm1 : m % 2 = 1
            · simp only [hm1, if_true]
              rw [ih _ _ _ (by omega)]
              by_cases e : m = n
              · simp [e]
              · have : m / 2 ≠ n / 2 := by omega
                simp [this, e]
            · have : m ≠ n := by intro e; subst e; exact hm1 h1
              simp [hm1, this]
        · rename_i h1
          conv => lhs; unfold PT.get
          conv => rhs; unfold PT.get
          by_cases hm : m = 0
          · simp [hm]; intro; omega
          · simp only [hm, if_false]
            by_cases hm1 : m % 2 = 1
            · have : m ≠ n := by intro e; subst e; exact h1 hm1
              simp [hm1, this]
            · simp only [hm1, if_false]
              rw [ih _ _ _ (by omega)]
              by_cases e : m = n
              · simp [e]
              · have : m / 2 - 1 ≠ n / 2 - 1 := by omega
                simp [this, e]

def PT.set {α : Type} (t : PT α) (n : Nat) (x : Option α) : PT α := PT.setF (n + 1) t n x
theorem PT.get_set {α : Type} (t : PT α) (n m : Nat) (x : Option α) : (t.set n x).get m = if m = n then x else t.get m := PT.get_setF x _ t n m (Nat.lt_succ_self n)

-- ------------------------------------------------------------ memories

inductive VO where
  | cells (t : TypeId) (cs : List V)
  | map (es : List (V × V × Nat)) (clock : Nat)
  | iter (m : Option Nat) (since : Nat) (seen : List Nat) (stepped : Nat)

structure VH where
  t : PT VO
  next : Nat

def VH.get (h : VH) (k : Nat) : Option VO := h.t.get k
def VH.set (h : VH) (k : Nat) (o : VO) : VH := { h with t := h.t.set k (some o) }
def VH.del (h : VH) (k : Nat) : VH := { h with t := h.t.set k none }
def VH.new (h : VH) (o : VO) : VH := { t := h.t.set h.next (some o), next := h.next + 1 }

/-- An entry of a map. -/
structure ER (ρ : Lay) (x : V × V × Nat) (e : MapEntry) : Prop where
  key : VR ρ x.1 e.key
  val : VR ρ x.2.1 e.val
  born : e.born = x.2.2

inductive OR (ρ : Lay) (n : Nat) : VO → Obj → Prop
  | cells {t : TypeId} {cs : List V} {vs ext : List Value} {fr : Nat × Nat} (h : VRs ρ cs vs) (hn : (vs ++ ext).length = n) (hf : fr = (0, 0) ∨ n ≤ fr.1) :
    OR ρ n (.cells t cs) (.cells (vs ++ ext).toArray t fr)
  | map {es : List (V × V × Nat)} {us : List MapEntry} {clock : Nat} (h : Al (ER ρ) es us) : OR ρ n (.map es clock) (.map us.toArray clock)
  | iterNil {since stepped : Nat} {seen : List Nat} : OR ρ n (.iter none since seen stepped) (.mapIter none since seen.toArray stepped)
  | iter {k b j since stepped : Nat} {seen : List Nat} (h : ρ[k]? = some (b, j)) : OR ρ n (.iter (some k) since seen stepped) (.mapIter (some b) since seen.toArray stepped)

theorem ER.ext {ρ ρ' : Lay} (he : Ext ρ ρ') {x : V × V × Nat} {e : MapEntry} (h : ER ρ x e) : ER ρ' x e := ⟨h.key.ext he, h.val.ext he, h.born⟩

theorem OR.ext {ρ ρ' : Lay} (he : Ext ρ ρ') {n : Nat} {o : VO} {r : Obj} (h : OR ρ n o r) : OR ρ' n o r := by
  cases h with
  | cells h hn hf => exact .cells (h.ext he) hn hf
  | map h => exact .map (h.mono fun _ _ => ER.ext he)
  | iterNil => exact .iterNil
  | iter h => exact .iter (he _ _ h)

/-- What a world is, of which a memory stands for the blocks from one on. -/
structure WR (base : Nat) (w0 : World) (ρ : Lay) (h : VH) (w : World) : Prop where
  below : RowKit.Below base w0 w
  size : base ≤ w.heap.size
  len : h.next = ρ.length
  obj : ∀ k o, h.get k = some o → ∃ b n r, ρ[k]? = some (b, n) ∧ base ≤ b ∧ w.heap[b]? = some r ∧ OR ρ n o r
  inj : ∀ k k' o o' b n n', h.get k = some o → h.get k' = some o' → ρ[k]? = some (b, n) → ρ[k']? = some (b, n') → k = k'

section
variable {base : Nat} {w0 w w' : World} {ρ : Lay} {h : VH}

theorem WR.drew (r : WR base w0 ρ h w) (n : Nat) : WR base w0 ρ h { w with drawn := n } :=
  ⟨⟨r.below.os, r.below.tape, r.below.output, r.below.size, r.below.block⟩, r.size, r.len, r.obj, r.inj⟩

/-- A block turned. -/
theorem WR.put (r : WR base w0 ρ h w) {k b n : Nat} {o o0 : VO} {x : Obj} (hk : h.get k = some o0) (hb : ρ[k]? = some (b, n)) (ho : OR ρ n o x)
    (e : w' = { w with heap := w.heap.setIfInBounds b x }) : WR base w0 ρ (h.set k o) w' := by
  subst e
  obtain ⟨b', n', r', h1, h2, h3, _⟩ := r.obj k o0 hk
  rw [hb] at h1; cases h1
  have hlt : b < w.heap.size := (Array.getElem?_eq_some_iff.1 h3).1
  refine ⟨r.below.trans ⟨rfl, rfl, rfl, by simp, fun i hi => ?_⟩, by simpa using r.size, r.len, fun k' o' hk' => ?_, fun k1 k2 o1 o2 c m m' h1 h2 h3 h4 => ?_⟩
  · exact Array.getElem?_setIfInBounds_ne (by omega)
  · unfold VH.get VH.set at hk'
    simp only [PT.get_set] at hk'
    by_cases hkk : k' = k
    · subst hkk
      simp at hk'; subst hk'
      exact ⟨b, n, x, hb, h2, by simp [hlt], ho⟩
    · simp only [hkk, if_false] at hk'
      obtain ⟨c, m, y, q1, q2, q3, q4⟩ := r.obj k' o' hk'
      refine ⟨c, m, y, q1, q2, ?_, q4⟩
      have : b ≠ c := fun e => by subst e; exact hkk (r.inj k' k o' o0 b m n hk' hk q1 hb)
      show (w.heap.setIfInBounds b x)[c]? = _
      rw [Array.getElem?_setIfInBounds_ne this]; exact q3
  · unfold VH.get VH.set at h1 h2
    simp only [PT.get_set] at h1 h2
    have a1 : ∃ o, h.get k1 = some o := by by_cases e : k1 = k <;> simp only [e, if_true, if_false] at h1; exact ⟨o0, e ▸ hk⟩; exact ⟨_, h1⟩
    have a2 : ∃ o, h.get k2 = some o := by by_cases e : k2 = k <;> simp only [e, if_true, if_false] at h2; exact ⟨o0, e ▸ hk⟩; exact ⟨_, h2⟩
    obtain ⟨p1, a1⟩ := a1
    obtain ⟨p2, a2⟩ := a2
    exact r.inj k1 k2 _ _ c m m' a1 a2 h3 h4

/-- A new block. -/
theorem WR.new (r : WR base w0 ρ h w) {n : Nat} {o : VO} {x : Obj} (ho : OR ρ n o x) (e : w' = { w with heap := w.heap.push x }) :
    WR base w0 (ρ ++ [(w.heap.size, n)]) (h.new o) w' ∧ Ext ρ (ρ ++ [(w.heap.size, n)]) ∧ (ρ ++ [(w.heap.size, n)])[h.next]? = some (w.heap.size, n) := by
  subst e
  have ext := Ext.push ρ (w.heap.size, n)
  have here : (ρ ++ [(w.heap.size, n)])[h.next]? = some (w.heap.size, n) := by rw [r.len]; simp
  have there : ∀ k o', k ≠ h.next → h.get k = some o' → k < ρ.length := fun k o' _ hk => by
    obtain ⟨b, m, y, q1, _⟩ := r.obj k o' hk
    exact (List.getElem?_eq_some_iff.1 q1).1
  have old : ∀ k o', h.get k = some o' → ∀ b m, (ρ ++ [(w.heap.size, n)])[k]? = some (b, m) → ρ[k]? = some (b, m) ∧ b < w.heap.size := fun k o' hk b m hb => by
    obtain ⟨b', m', y, q1, _, q3, _⟩ := r.obj k o' hk
    have := ext _ _ q1
    rw [this] at hb; cases hb
    exact ⟨q1, (Array.getElem?_eq_some_iff.1 q3).1⟩
  refine ⟨⟨r.below.trans ⟨rfl, rfl, rfl, by simp, fun i hi => ?_⟩, ?_, by simp [VH.new, r.len], fun k o' hk => ?_, fun k1 k2 o1 o2 c m m' h1 h2 h3 h4 => ?_⟩, ext, here⟩
  · have := r.size
    simp only [Array.getElem?_push]
    rw [if_neg (by omega)]
  · have := r.size; simp; omega
  · unfold VH.get VH.new at hk
    simp only [PT.get_set] at hk
    by_cases hkk : k = h.next
    · subst hkk
      simp at hk; subst hk
      exact ⟨_, _, x, here, r.size, by simp, ho.ext ext⟩
    · simp only [hkk, if_false] at hk
      obtain ⟨b, m, y, q1, q2, q3, q4⟩ := r.obj k o' hk
      refine ⟨b, m, y, ext _ _ q1, q2, ?_, q4.ext ext⟩
      have := (Array.getElem?_eq_some_iff.1 q3).1
      simp only [Array.getElem?_push]
      rw [if_neg (by omega)]; exact q3
  · unfold VH.get VH.new at h1 h2
    simp only [PT.get_set] at h1 h2
    by_cases e1 : k1 = h.next
    · by_cases e2 : k2 = h.next
      · rw [e1, e2]
      · simp only [e2, if_false] at h2
        obtain ⟨_, q⟩ := old k2 _ h2 _ _ h4
        subst e1
        rw [here] at h3; cases h3
        omega
    · simp only [e1, if_false] at h1
      obtain ⟨q, q'⟩ := old k1 _ h1 _ _ h3
      by_cases e2 : k2 = h.next
      · subst e2
        rw [here] at h4; cases h4
        omega
      · simp only [e2, if_false] at h2
        exact r.inj k1 k2 _ _ c m m' h1 h2 q (old k2 _ h2 _ _ h4).1

/-- A block of which no more is told. -/
theorem WR.del (r : WR base w0 ρ h w) (k : Nat) : WR base w0 ρ (h.del k) w := by
  have sub : ∀ j o, (h.del k).get j = some o → h.get j = some o := fun j o hj => by
    unfold VH.get VH.del at hj
    simp only [PT.get_set] at hj
    split at hj
    · cases hj
    · exact hj
  exact ⟨r.below, r.size, r.len, fun j o hj => r.obj j o (sub j o hj), fun k1 k2 o1 o2 c m m' h1 h2 => r.inj k1 k2 o1 o2 c m m' (sub _ _ h1) (sub _ _ h2)⟩
end
end Go.Fr
