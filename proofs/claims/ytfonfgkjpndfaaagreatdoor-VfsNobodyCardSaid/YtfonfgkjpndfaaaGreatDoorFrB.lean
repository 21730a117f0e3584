/-
  This file is a part of the proof that trees of operations tell what code does, and that an evaluator tells what trees do: this file proves: the laws of assertions on parts of memory that share nothing; this file proves: the laws of triples over trees of operations: what holds of parts of memory ahead, and behind; this file proves: what each operation of a tree asks and leaves; this file proves: small laws that a walk over a tree takes; this file proves: what the operations on slices, strings and maps ask and leave.
-/
import GoSem.Core.World
import Derived.Test.YtfonfgkjpndfaaaGreatDoorFrA
import Derived.Laws.Sem
import Derived.IntWalk
import Derived.Laws.Append

-- FrHeap
namespace Go.Fr
open Go

/-- A part of memory. -/
abbrev Part := Nat → Option Obj
/-- An assertion on a part of memory. -/
abbrev HP := Part → Prop

def Apart (h g : Part) : Prop := ∀ b, h b = none ∨ g b = none
def plus (h g : Part) : Part := fun b => match h b with | some o => some o | none => g b

/-- It holds of a part of the world's memory. -/
def Holds (H : HP) (w : World) : Prop := ∃ h, H h ∧ ∀ b o, h b = some o → w.heap[b]? = some o

def star (A B : HP) : HP := fun h => ∃ h1 h2, Apart h1 h2 ∧ h = plus h1 h2 ∧ A h1 ∧ B h2
def emp : HP := fun _ => True
def fact (p : Prop) : HP := fun _ => p
def hex {α : Sort _} (f : α → HP) : HP := fun h => ∃ x, f x h
def pts (b : Nat) (o : Obj) : HP := fun h => h b = some o

def stars : List HP → HP
  | [] => emp
  | A :: L => star A (stars L)

theorem plus_comm {h g : Part} (d : Apart h g) : plus h g = plus g h := by
  funext b
  unfold plus
  rcases d b with e | e <;> cases hb : h b <;> cases gb : g b <;> simp_all

theorem Apart.symm {h g : Part} (d : Apart h g) : Apart g h := fun b => (d b).symm

theorem plus_assoc (h g k : Part) : plus (plus h g) k = plus h (plus g k) := by
  funext b
  unfold plus
  cases h b <;> rfl

theorem apart_plus {h g k : Part} : Apart (plus h g) k ↔ Apart h k ∧ Apart g k := by
  constructor
  · intro d
    refine ⟨fun b => ?_, fun b => ?_⟩
    · rcases d b with e | e
      · unfold plus at e; cases hb : h b <;> simp_all
      · exact .inr e
    · rcases d b with e | e
      · unfold plus at e; cases hb : h b <;> simp_all
      · exact .inr e
  · rintro ⟨d1, d2⟩ b
    unfold plus
    rcases d1 b with e1 | e1
    · rcases d2 b with e2 | e2
      · left; simp [e1, e2]
      · right; exact e2
    · right; exact e1

theorem star_comm {A B : HP} {h : Part} (x : star A B h) : star B A h := by
  obtain ⟨h1, h2, d, rfl, a, b⟩ := x
  exact ⟨h2, h1, d.symm, plus_comm d, b, a⟩

theorem star_left {A B C : HP} {h : Part} (x : star A (star B C) h) : star B (star A C) h := by
  obtain ⟨h1, h2, d, rfl, a, g1, g2, d', rfl, b, c⟩ := x
  have d1 := apart_plus.1 d.symm
  refine ⟨g1, plus h1 g2, ?_, ?_, b, h1, g2, d1.2.symm, rfl, a, c⟩
  · exact (apart_plus.2 ⟨d1.1.symm, d'.symm⟩).symm
  · rw [← plus_assoc, ← plus_assoc, plus_comm d1.1.symm]

theorem star_assoc {A B C : HP} {h : Part} : star (star A B) C h ↔ star A (star B C) h := by
  constructor
  · rintro ⟨h1, h2, d, rfl, ⟨g1, g2, d', rfl, a, b⟩, c⟩
    have d1 := apart_plus.1 d
    exact ⟨g1, plus g2 h2, (apart_plus.2 ⟨d'.symm, d1.1.symm⟩).symm, plus_assoc _ _ _, a, g2, h2, d1.2, rfl, b, c⟩
  · rintro ⟨h1, h2, d, rfl, a, g1, g2, d', rfl, b, c⟩
    have d1 := apart_plus.1 d.symm
    exact ⟨plus h1 g1, g2, apart_plus.2 ⟨d1.2.symm, d'⟩, (plus_assoc _ _ _).symm, ⟨h1, g1, d1.1.symm, rfl, a, b⟩, c⟩

theorem star_mono {A B A' B' : HP} (ha : ∀ h, A h → A' h) (hb : ∀ h, B h → B' h) {h : Part} (x : star A B h) : star A' B' h := by
  obtain ⟨h1, h2, d, e, a, b⟩ := x
  exact ⟨h1, h2, d, e, ha _ a, hb _ b⟩

theorem Holds.mono {A B : HP} {w : World} (h : Holds A w) (hab : ∀ h, A h → B h) : Holds B w := by
  obtain ⟨g, a, s⟩ := h
  exact ⟨g, hab _ a, s⟩

theorem Holds.left {A B : HP} {w : World} (h : Holds (star A B) w) : Holds A w := by
  obtain ⟨g, ⟨h1, h2, d, rfl, a, b⟩, s⟩ := h
  exact ⟨h1, a, fun b o hb => s b o (by simp [plus, hb])⟩

theorem Holds.right {A B : HP} {w : World} (h : Holds (star A B) w) : Holds B w := (h.mono fun _ => star_comm).left

theorem Holds.heap {A : HP} {w w' : World} (h : Holds A w) (e : w'.heap = w.heap) : Holds A w' := by
  obtain ⟨g, a, s⟩ := h
  exact ⟨g, a, fun b o hb => by rw [e]; exact s b o hb⟩

theorem Holds.drew {A : HP} {w : World} (h : Holds A w) (n : Nat) : Holds A { w with drawn := n } := h.heap rfl

theorem Holds.pts {b : Nat} {o : Obj} {B : HP} {w : World} (h : Holds (star (Fr.pts b o) B) w) : w.heap[b]? = some o := by
  obtain ⟨g, a, s⟩ := h.left
  exact s b o a

/-- A block is written. -/
theorem Holds.set {F B : HP} {b : Nat} {o o' : Obj} {w w' : World} (h : Holds (star F (star (Fr.pts b o) B)) w) (e : w'.heap = w.heap.setIfInBounds b o') :
    Holds (star F (star (Fr.pts b o') B)) w' := by
  obtain ⟨g, ⟨h1, h2, d, rfl, f, g1, g2, d', rfl, p, c⟩, s⟩ := h
  have d1 := apart_plus.1 d.symm
  have p' : g1 b = some o := p
  have hf : h1 b = none := (d1.1 b).resolve_left (by rw [p']; simp)
  have hc : g2 b = none := (d' b).resolve_left (by rw [p']; simp)
  have hlt : b < w.heap.size := by
    have := s b o (by simp [plus, hf, p'])
    exact (Array.getElem?_eq_some_iff.1 this).1
  refine ⟨plus h1 (plus (fun x => if x = b then some o' else g1 x) g2), ⟨h1, _, ?_, rfl, f, _, g2, ?_, rfl, by simp [Fr.pts], c⟩, ?_⟩
  · intro x
    by_cases hx : x = b
    · subst hx; exact .inl hf
    · rcases d x with e1 | e1
      · exact .inl e1
      · right; simp only [plus, hx, if_false] at e1 ⊢; exact e1
  · intro x
    by_cases hx : x = b
    · subst hx; exact .inr hc
    · simp only [hx, if_false]; exact d' x
  · intro x ox hx
    rw [e]
    by_cases hxb : x = b
    · subst hxb
      simp only [plus, hf, if_true] at hx
      cases hx
      simp [hlt]
    · rw [Array.getElem?_setIfInBounds_ne (Ne.symm hxb)]
      refine s x ox ?_
      simp only [plus, hxb, if_false] at hx ⊢
      exact hx

/-- A new block. -/
theorem Holds.push {F B : HP} {o : Obj} {w w' : World} (h : Holds (star F B) w) (e : w'.heap = w.heap.push o) :
    Holds (star F (star (Fr.pts w.heap.size o) B)) w' := by
  obtain ⟨g, ⟨h1, h2, d, rfl, f, c⟩, s⟩ := h
  have out : ∀ (g : Part), (∀ x ox, g x = some ox → w.heap[x]? = some ox) → g w.heap.size = none := by
    intro g hg
    cases hx : g w.heap.size with
    | none => rfl
    | some o => have := hg _ _ hx; simp at this
  have n0 := out _ s
  have n1 : h1 w.heap.size = none := by cases hx : h1 w.heap.size <;> simp_all [plus]
  have n2 : h2 w.heap.size = none := by simpa [plus, n1] using n0
  refine ⟨plus h1 (plus (fun x => if x = w.heap.size then some o else none) h2), ⟨h1, _, ?_, rfl, f, _, h2, ?_, rfl, by simp [Fr.pts], c⟩, ?_⟩
  · intro x
    by_cases hx : x = w.heap.size
    · subst hx; exact .inl n1
    · rcases d x with e1 | e1
      · exact .inl e1
      · right; simp only [plus, hx, if_false]; exact e1
  · intro x
    by_cases hx : x = w.heap.size
    · subst hx; exact .inr n2
    · simp [hx]
  · intro x ox hx
    rw [e]
    by_cases hxb : x = w.heap.size
    · subst hxb
      simp only [plus, n1, if_true] at hx
      cases hx
      simp
    · have : w.heap[x]? = some ox := s x ox (by simp only [plus, hxb, if_false] at hx ⊢; exact hx)
      have hlt := (Array.getElem?_eq_some_iff.1 this).1
      rw [Array.getElem?_push, if_neg (by omega)]
      exact this

/-- One assertion of a list, and the others. -/
inductive Pick : HP → List HP → List HP → Prop
  | here {A : HP} {L : List HP} : Pick A (A :: L) L
  | there {A B : HP} {L L' : List HP} (h : Pick A L L') : Pick A (B :: L) (B :: L')

theorem Pick.to {A : HP} {L L' : List HP} (p : Pick A L L') : ∀ {h : Part}, stars L h → stars (A :: L') h := by
  induction p with
  | here => intro h x; exact x
  | there _ ih => intro h x; exact star_left (star_mono (fun _ a => a) (fun _ => ih) x)

theorem Pick.back {A : HP} {L L' : List HP} (p : Pick A L L') : ∀ {h : Part}, stars (A :: L') h → stars L h := by
  induction p with
  | here => intro h x; exact x
  | there _ ih => intro h x; exact star_mono (fun _ a => a) (fun _ => ih) (star_left x)

/-- Several of them. -/
inductive Picks : List HP → List HP → List HP → Prop
  | none {L : List HP} : Picks [] L L
  | cons {A : HP} {M L L1 L' : List HP} (h : Pick A L L1) (t : Picks M L1 L') : Picks (A :: M) L L'

theorem stars_weak {M : List HP} : ∀ {g h : Part}, stars M g → Apart g h → stars M (plus g h) := by
  induction M with
  | nil => intro g h _ _; trivial
  | cons A M ih =>
    rintro g h ⟨g1, g2, d', rfl, a, m⟩ d
    have d1 := apart_plus.1 d
    rw [plus_assoc]
    exact ⟨g1, plus g2 h, (apart_plus.2 ⟨d'.symm, d1.1.symm⟩).symm, rfl, a, ih m d1.2⟩

theorem stars_append {L M : List HP} : ∀ {h : Part}, stars L h → ∀ {g : Part}, stars M g → Apart h g → stars (L ++ M) (plus h g) := by
  induction L with
  | nil =>
    intro h _ g m d
    rw [plus_comm d]
    exact stars_weak m d.symm
  | cons A L ih =>
    rintro h ⟨h1, h2, d', rfl, a, l⟩ g m d
    have d1 := apart_plus.1 d
    rw [plus_assoc]
    exact ⟨h1, plus h2 g, (apart_plus.2 ⟨d'.symm, d1.1.symm⟩).symm, rfl, a, ih l m d1.2⟩

theorem stars_split {L M : List HP} : ∀ {h : Part}, stars (L ++ M) h → star (stars L) (stars M) h := by
  induction L with
  | nil => intro h x; exact ⟨fun _ => none, h, fun _ => .inl rfl, by funext b; rfl, trivial, x⟩
  | cons A L ih => intro h x; exact star_assoc.2 (star_mono (fun _ a => a) (fun _ => ih) x)

theorem stars_join {L M : List HP} {h : Part} (x : star (stars L) (stars M) h) : stars (L ++ M) h := by
  obtain ⟨h1, h2, d, rfl, l, m⟩ := x
  exact stars_append l m d

theorem Picks.to {M L L' : List HP} (p : Picks M L L') : ∀ {h : Part}, stars L h → stars (M ++ L') h := by
  induction p with
  | none => intro h x; exact x
  | cons p _ ih => intro h x; exact star_mono (fun _ a => a) (fun _ => ih) (p.to x)

theorem Picks.back {M L L' : List HP} (p : Picks M L L') : ∀ {h : Part}, stars (M ++ L') h → stars L h := by
  induction p with
  | none => intro h x; exact x
  | cons p _ ih => intro h x; exact p.back (star_mono (fun _ a => a) (fun _ => ih) x)
end Go.Fr

-- FrTri
namespace Go.Fr
open Go
set_option linter.unusedVariables false

/-- From a memory of which L holds on, the tree is done with what Q says; whatever else there is stays; no panic. -/
structure Tri (P : Program) (p : SP) (L : List HP) (Q : Nat → List Value → HP) : Prop where
  go : ∀ F w, Holds (star F (stars L)) w → Run P (fun _ _ => False) p w fun t vs w' => Holds (star F (Q t vs)) w'

/-- A contract of a function. -/
structure Ctr (P : Program) (f : FuncId) (args : List Value) (Pre : List HP) (Post : Value → HP) : Prop where
  enters : ∀ as w, (callFunc f as).run P w = .ok (.enter f as) w
  calls : ∀ F w, Holds (star F (stars Pre)) w → Calls P f args.toArray w fun e w' => ∃ v, e = .returned v ∧ Holds (star F (Post v)) w'

/-- An operation that only looks. -/
structure Reads (P : Program) (L : List HP) (s : Sem Next) (v : Value) : Prop where
  at_ : ∀ w, Holds (stars L) w → s.run P w = .ok (.value v) w

/-- An operation that is done: what it leaves. -/
structure Acts (P : Program) (L : List HP) (s : Sem Next) (Post : Value → List HP) : Prop where
  at_ : ∀ F w, Holds (star F (stars L)) w → ∃ v w', (s.run P w = .ok (.value v) w' ∨ (s.run P w = .ok .skip w' ∧ v = undef)) ∧ Holds (star F (stars (Post v))) w'

section
variable {P : Program} {L L' M : List HP} {Q : Nat → List Value → HP}

theorem Holds.tail {F : HP} {w : World} (h : Holds (star F (stars L)) w) : Holds (stars L) w := h.right

theorem Tri.pre {p : SP} (h : Tri P p M Q) (e : ∀ h, stars L h → stars M h) : Tri P p L Q :=
  ⟨fun F w hw => h.go F w (hw.mono fun _ => star_mono (fun _ a => a) (fun _ => e _))⟩

theorem Tri.pick {A : HP} {p : SP} (hp : Pick A L L') (h : Tri P p (A :: L') Q) : Tri P p L Q := h.pre fun _ => hp.to

theorem Tri.picks {p : SP} (hp : Picks M L L') (h : Tri P p (M ++ L') Q) : Tri P p L Q := h.pre fun _ => hp.to

theorem Tri.drop {A : HP} {p : SP} (hp : Pick A L L') (h : Tri P p L' Q) : Tri P p L Q :=
  ⟨fun F w hw => h.go F w (hw.mono fun g x => by
    have := star_mono (fun _ a => a) (fun _ => hp.to) x
    have h2 := star_left this
    obtain ⟨h1, h2', d, rfl, _, y⟩ := h2
    rw [plus_comm d]
    obtain ⟨k1, k2, d', rfl, f, l⟩ := y
    have d1 := apart_plus.1 d.symm
    rw [plus_assoc]
    exact ⟨k1, plus k2 h1, (apart_plus.2 ⟨d'.symm, d1.1.symm⟩).symm, rfl, f, stars_weak l d1.2⟩)⟩

theorem Tri.ex {α : Sort _} {f : α → HP} {p : SP} (h : ∀ x, Tri P p (f x :: L) Q) : Tri P p (hex f :: L) Q := by
  refine ⟨fun F w hw => ?_⟩
  obtain ⟨g, ⟨h1, h2, d, rfl, a, g1, g2, d', rfl, ⟨x, b⟩, c⟩, s⟩ := hw
  exact (h x).go F w ⟨_, ⟨h1, _, d, rfl, a, g1, g2, d', rfl, b, c⟩, s⟩

theorem Tri.fact {φ : Prop} {p : SP} (h : φ → Tri P p L Q) : Tri P p (fact φ :: L) Q := by
  refine ⟨fun F w hw => ?_⟩
  obtain ⟨g, ⟨h1, h2, d, rfl, a, g1, g2, d', rfl, b, c⟩, s⟩ := hw
  have d1 := apart_plus.1 d.symm
  refine (h b).go F w ⟨plus h1 (plus g2 g1), ⟨h1, _, ?_, rfl, a, stars_weak c d'.symm⟩, ?_⟩
  · exact (apart_plus.2 ⟨d1.2, d1.1⟩).symm
  · rw [← plus_comm d']; exact s

theorem Tri.star {A B : HP} {p : SP} (h : Tri P p (A :: B :: L) Q) : Tri P p (star A B :: L) Q := h.pre fun _ => star_assoc.1

theorem Tri.stars {p : SP} (h : Tri P p (M ++ L) Q) : Tri P p (stars M :: L) Q := h.pre fun _ => stars_join

theorem Tri.post {p : SP} {Q' : Nat → List Value → HP} (h : Tri P p L Q') (e : ∀ t vs h, Q' t vs h → Q t vs h) : Tri P p L Q :=
  ⟨fun F w hw => Run.mono (fun _ _ h => h) p (fun t vs _ hq => hq.mono fun _ => star_mono (fun _ a => a) (e t vs)) (h.go F w hw)⟩

/-- What a piece does not need stays. -/
theorem Tri.frame {p : SP} (h : Tri P p L Q) : Tri P p (L ++ M) fun t vs => Fr.star (Q t vs) (Fr.stars M) := by
  refine ⟨fun F w hw => ?_⟩
  have h1 := h.go (Fr.star F (Fr.stars M)) w (hw.mono fun g x => star_assoc.2 (star_mono (fun _ a => a) (fun _ y => star_comm (stars_split y)) x))
  exact Run.mono (fun _ _ h => h) p (fun t vs w' hq => hq.mono fun _ x => star_mono (fun _ a => a) (fun _ y => star_comm y) (star_assoc.1 x)) h1

theorem tri_done {t : Nat} {vs : List Value} (h : ∀ h, Fr.stars L h → Q t vs h) : Tri P (.done t vs) L Q :=
  ⟨fun _ _ hw => hw.mono fun _ => star_mono (fun _ a => a) h⟩

theorem tri_bind {p : SP} {k : Nat → List Value → SP} (M : Nat → List Value → HP) (h : Tri P p L M) (hk : ∀ t vs, Tri P (k t vs) [M t vs] Q) : Tri P (.bind p k) L Q :=
  ⟨fun F w hw => Run.mono (fun _ _ h => h) p (fun t vs w' hq => (hk t vs).go F w' (hq.mono fun _ => star_mono (fun _ a => a) fun _ m => ⟨_, fun _ => none, fun _ => .inr rfl, by funext b; unfold plus; split <;> simp_all, m, trivial⟩)) (h.go F w hw)⟩

theorem tri_reads {s : Sem Next} {v : Value} {k : Value → SP} (hr : Reads P L s v) (h : Tri P (k v) L Q) : Tri P (.op s k) L Q := by
  refine ⟨fun F w hw => ?_⟩
  show UponS P _ _ (s.run P w)
  rw [hr.at_ w hw.tail]
  exact h.go F w hw

theorem tri_rd {s : Sem Next} {v : Value} {k : Value → SP} (hr : Reads P L s v) (h : Tri P (k v) L Q) : Tri P (.rd s k) L Q :=
  ⟨fun F w hw => ⟨v, hr.at_ w hw.tail, h.go F w hw⟩⟩

theorem tri_chk {s : Sem Next} {v : Value} {k : SP} (hr : Reads P L s v) (h : Tri P k L Q) : Tri P (.chk s v k) L Q :=
  ⟨fun F w hw => ⟨hr.at_ w hw.tail, h.go F w hw⟩⟩

theorem tri_acts {s : Sem Next} {k : Value → SP} {Post : Value → List HP} (ha : Acts P L s Post) (h : ∀ v, Tri P (k v) (Post v) Q) : Tri P (.op s k) L Q := by
  refine ⟨fun F w hw => ?_⟩
  obtain ⟨v, w', hr, hq⟩ := ha.at_ F w hw
  show UponS P _ _ (s.run P w)
  rcases hr with hr | ⟨hr, rfl⟩
  · rw [hr]; exact (h v).go F w' hq
  · rw [hr]; exact (h undef).go F w' hq

theorem tri_call {f : FuncId} {args : List Value} {Pre : List HP} {Post : Value → HP} {k : Value → SP} (hs : Ctr P f args Pre Post) (hp : Picks Pre L L')
    (h : ∀ v, Tri P (k v) (Post v :: L') Q) : Tri P (.op (oCall f args) k) L Q := by
  refine ⟨fun F w hw => ?_⟩
  show UponS P _ _ ((callFunc f args.toArray).run P w)
  rw [hs.enters]
  have hw' : Holds (Fr.star (Fr.star F (Fr.stars L')) (Fr.stars Pre)) w :=
    hw.mono fun g x => star_assoc.2 (star_mono (fun _ a => a) (fun _ y => star_comm (stars_split (hp.to y))) x)
  refine Calls.mono (hs.calls _ w hw') ?_
  rintro e w' ⟨v, rfl, hq⟩
  exact (h v).go F w' (hq.mono fun g x => star_mono (fun _ a => a) (fun _ y => star_comm y) (star_assoc.1 x))

theorem tri_ite {b : Bool} {p q : SP} (ht : b = true → Tri P p L Q) (hf : b = false → Tri P q L Q) : Tri P (.ite (.bool b) p q) L Q :=
  ⟨fun F w hw => ⟨b, rfl, fun e => (ht e).go F w hw, fun e => (hf e).go F w hw⟩⟩

theorem tri_if {c : Prop} [Decidable c] {p q : SP} (ht : c → Tri P p L Q) (hf : ¬ c → Tri P q L Q) : Tri P (.ite (.bool (decide c)) p q) L Q :=
  tri_ite (fun e => ht (of_decide_eq_true e)) (fun e => hf (of_decide_eq_false e))

theorem tri_both {p q : SP} (hp : Tri P p L Q) (hq : Tri P q L Q) : Tri P (.both p q) L Q := ⟨fun F w hw => ⟨hp.go F w hw, hq.go F w hw⟩⟩

theorem tri_drew {p : SP} (h : Tri P p L Q) : Tri P (.drew p) L Q := ⟨fun F w hw => h.go F _ (hw.drew _)⟩

theorem tri_loop {init : List Value} {body : List Value → SP} {k : Nat → List Value → SP} (I : Nat → List Value → HP) (M : Nat → List Value → HP) (n : Nat)
    (h0 : ∀ h, Fr.stars L h → I n init h)
    (hb : ∀ n vs, Tri P (body vs) [I n vs] fun t vs' => if t = 0 then hex fun m => Fr.star (Fr.fact (m < n)) (I m vs') else M t vs')
    (hk : ∀ t vs, t ≠ 0 → Tri P (k t vs) [M t vs] Q) : Tri P (.loop init body k) L Q := by
  have one : ∀ {A : HP} {g : Part}, A g → Fr.stars [A] g := fun {A g} a => ⟨g, fun _ => none, fun _ => .inr rfl, by funext b; unfold plus; split <;> simp_all, a, trivial⟩
  refine ⟨fun F w hw => ?_⟩
  refine ⟨fun n vs w => Holds (Fr.star F (I n vs)) w, ⟨n, hw.mono fun _ => star_mono (fun _ a => a) h0⟩, fun n vs _ hI => ?_⟩
  refine Run.mono (fun _ _ h => h) (body vs) (fun t vs' w' hq => ?_) ((hb n vs).go F _ (hI.mono fun _ => star_mono (fun _ a => a) fun _ m => one m))
  by_cases ht : t = 0
  · simp only [ht, if_true] at hq ⊢
    obtain ⟨g, ⟨h1, h2, d, rfl, a, m, g1, g2, d', rfl, hm, i⟩, s⟩ := hq
    have d1 := apart_plus.1 d.symm
    refine ⟨m, hm, plus h1 g2, ⟨h1, g2, d1.2.symm, rfl, a, i⟩, fun b o hb => s b o ?_⟩
    unfold plus at hb ⊢
    split
    · rename_i o' ho'; rw [ho'] at hb; exact hb
    · rename_i ho'
      rw [ho'] at hb
      have : g1 b = none := by
        rcases d' b with e | e
        · exact e
        · rw [e] at hb; cases hb
      simp only [this]
      exact hb
  · simp only [ht, if_false] at hq ⊢
    exact (hk t vs' ht).go F w' (hq.mono fun _ => star_mono (fun _ a => a) fun _ m => one m)

/-- A contract out of a function's tree. -/
theorem Ctr.of_den (hm : P.follows .mixedOrders = true) {f : FuncId} {fn : Func} {A : Ann} {args : List Value} {Pre : List HP} {Post : Value → HP}
    (hf : P.funcs[f]? = some fn) (hn : (fn.name == "runtime.NumGoroutine") = false) (hb : fn.body.isNone = false)
    (h : Tri P (denF fn A args) Pre fun _ vs => Post (vs.headD undef)) : Ctr P f args Pre Post where
  enters as w := by
    unfold callFunc
    simp only [program, bind, Sem.bind, Sem.run]
    simp only [hf, hn, hb, Bool.false_eq_true, if_false]
    rfl
  calls F w hw := calls_of_den hm hf (h.go F w hw)
end
end Go.Fr

-- FrRules
namespace Go.Fr
open Go

-- ------------------------------------------------------------ facts on types

/-- Its underlying type. -/
class Und (P : Program) (T : TypeId) (d : outParam TypeDesc) : Prop where
  h : P.underlying T = some d

def infOf (P : Program) (T : TypeId) : Option (List Value × Nat × Nat) := (P.info? T).bind fun i => i.zero.map fun z => (z.cells.toList, i.bytes, i.size)
/-- Its cells at zero, and a value's bytes. -/
class Inf (P : Program) (T : TypeId) (zs : outParam (List Value)) (bytes : outParam Nat) : Prop where
  h : infOf P T = some (zs, bytes, zs.length)

theorem Inf.get {P : Program} {T : TypeId} {zs : List Value} {bytes : Nat} (x : Inf P T zs bytes) :
    ∃ i, P.info? T = some i ∧ i.size = zs.length ∧ i.bytes = bytes ∧ ∃ z, i.zero = some z ∧ z.cells = zs.toArray := by
  have h := x.h
  unfold infOf at h
  cases hi : P.info? T with
  | none => simp [hi] at h
  | some i =>
    cases hz : i.zero with
    | none => simp [hi, hz] at h
    | some z =>
      simp only [hi, hz, Option.bind_some, Option.map_some, Option.some.injEq, Prod.mk.injEq] at h
      obtain ⟨h1, h2, h3⟩ := h
      exact ⟨i, rfl, h3, h2, z, hz, by rw [← h1]⟩

def scOf (P : Program) (T : TypeId) : Bool :=
  match P.underlying T with
  | some (.struct _) | some (.array _ _) | none => false
  | _ => true
/-- A value of it is one cell. -/
class Sc (P : Program) (T : TypeId) : Prop where
  h : scOf P T = true

def agOf (P : Program) (T : TypeId) : Option Nat :=
  match P.underlying T with
  | some (.struct _) | some (.array _ _) => (P.info? T).map (·.size)
  | _ => none
/-- A value of it is an aggregate of n cells. -/
class Ag (P : Program) (T : TypeId) (n : outParam Nat) : Prop where
  h : agOf P T = some n

def fldOf (P : Program) (T : TypeId) (i : Nat) : Option (Nat × TypeId × Bool) :=
  match P.underlying T with
  | some (.struct fs) => (fs[i]?).bind fun f => (P.info? f.type).map fun j => (f.offset, f.type, j.size == 0)
  | _ => none
/-- Field i of struct type T stands at cell off, and is of n cells. -/
class Fld (P : Program) (T : TypeId) (i : Nat) (off : outParam Nat) (F : outParam TypeId) : Prop where
  h : fldOf P T i = some (off, F, false)

theorem Fld.get {P : Program} {T : TypeId} {i off : Nat} {F : TypeId} (x : Fld P T i off F) :
    ∃ fs f j, P.underlying T = some (.struct fs) ∧ fs[i]? = some f ∧ f.offset = off ∧ f.type = F ∧ P.info? f.type = some j ∧ j.size ≠ 0 := by
  have h := x.h
  unfold fldOf at h
  split at h
  · rename_i fs hu
    cases hf : fs[i]? with
    | none => simp [hf] at h
    | some f =>
      cases hj : P.info? f.type with
      | none => simp [hf, hj] at h
      | some j =>
        simp only [hf, hj, Option.bind_some, Option.map_some, Option.some.injEq, Prod.mk.injEq] at h
        obtain ⟨h1, h2, h3⟩ := h
        exact ⟨fs, f, j, hu, hf, h1, h2, hj, by simpa using h3⟩
  · cases h

section
variable {P : Program} {w : World}

theorem run_underlying_of {T : TypeId} {d : TypeDesc} (h : P.underlying T = some d) : (underlying T).run P w = .ok d w := by
  simp [underlying, h]

theorem run_info_of {T : TypeId} {i : TypeInfo} (h : P.info? T = some i) : (typeInfo T).run P w = .ok i w := by
  simp [typeInfo, h]

theorem run_size_of {T : TypeId} {i : TypeInfo} (h : P.info? T = some i) : (sizeOf T).run P w = .ok i.size w := by
  simp [sizeOf, run_info_of h]

theorem run_isAgg_sc {T : TypeId} [s : Sc P T] : (isAgg T).run P w = .ok false w := by
  have h := s.h
  unfold scOf at h
  cases hu : P.underlying T with
  | none => simp [hu] at h
  | some d => cases d <;> simp_all [isAgg, run_underlying_of hu]

theorem Ag.get {T : TypeId} {n : Nat} (x : Ag P T n) : ∃ i, P.info? T = some i ∧ i.size = n ∧ ∀ w, (isAgg T).run P w = .ok true w := by
  have h := x.h
  unfold agOf at h
  cases hu : P.underlying T with
  | none => simp [hu] at h
  | some d =>
    cases hi : P.info? T with
    | none => cases d <;> simp [hu, hi] at h
    | some i => cases d <;> simp_all [isAgg, run_underlying_of hu]

theorem run_isAgg_ag {T : TypeId} {n : Nat} [s : Ag P T n] : (isAgg T).run P w = .ok true w := by
  obtain ⟨i, _, _, h⟩ := s.get
  exact h w

theorem run_size_ag {T : TypeId} {n : Nat} [s : Ag P T n] : (sizeOf T).run P w = .ok n w := by
  obtain ⟨i, hi, hs, _⟩ := s.get
  rw [run_size_of hi, hs]

-- ------------------------------------------------------------ cells

/-- A row of cells. -/
def cells (b : Nat) (T : TypeId) (cs : List Value) : HP := pts b (.cells cs.toArray T (0, 0))

theorem Holds.cells {L L' : List HP} {b : Nat} {T : TypeId} {cs : List Value} (hp : Pick (cells b T cs) L L') (h : Holds (stars L) w) :
    w.heap[b]? = some (.cells cs.toArray T (0, 0)) := by
  have : Holds (stars (Fr.cells b T cs :: L')) w := h.mono fun _ => hp.to
  exact Holds.pts this

theorem cell_of {b o : Nat} {T : TypeId} {cs : List Value} (h : w.heap[b]? = some (.cells cs.toArray T (0, 0))) : w.cell? ⟨b, o, none⟩ = cs[o]? := by
  simp [World.cell?, h]

theorem run_load_of {a : Addr} {v : Value} (h : w.cell? a = some v) : (load a).run P w = .ok v w := by
  simp [h]

theorem add_at (b o i : Nat) : (⟨b, o, none⟩ : Addr).add i = ⟨b, o + i, none⟩ := by
  unfold Addr.add
  split
  · rename_i h; subst h; rfl
  · rfl

theorem run_loadCellsFrom {b o : Nat} {T : TypeId} {cs : List Value} (h : w.heap[b]? = some (.cells cs.toArray T (0, 0))) : ∀ (n i : Nat) (acc : Array Value), o + i + n ≤ cs.length →
    (loadCellsFrom ⟨b, o, none⟩ i n acc).run P w = .ok (acc ++ ((cs.drop (o + i)).take n).toArray) w := by
  intro n
  induction n with
  | zero => intro i acc _; simp [loadCellsFrom]
  | succ n ih =>
    intro i acc hl
    have hlt : o + i < cs.length := by omega
    have hc : w.cell? ((⟨b, o, none⟩ : Addr).add i) = some cs[o + i] := by
      rw [add_at, cell_of h, List.getElem?_eq_getElem hlt]
    simp only [loadCellsFrom, Sem.run_bind, run_load_of hc, Result.andThen_ok]
    rw [ih (i + 1) _ (by omega)]
    congr 1
    rw [List.drop_eq_getElem_cons hlt, List.take_succ_cons, show o + (i + 1) = o + i + 1 by omega]
    simp

theorem run_loadCells {b o n : Nat} {T : TypeId} {cs : List Value} (h : w.heap[b]? = some (.cells cs.toArray T (0, 0))) (hl : o + n ≤ cs.length) :
    (loadCells ⟨b, o, none⟩ n).run P w = .ok ((cs.drop o).take n).toArray w := by
  unfold loadCells
  rw [run_loadCellsFrom h n 0 #[] (by omega)]
  simp
end

section
variable {P : Program} {L L' : List HP} {Q : Nat → List Value → HP}

theorem reads_load {T T' : TypeId} {b o : Nat} {cs : List Value} {v : Value} [Sc P T] (hp : Pick (cells b T' cs) L L') (hv : cs[o]? = some v) :
    Reads P L (oLoad T (.pointer (some ⟨b, o, none⟩))) v := by
  refine ⟨fun w hw => ?_⟩
  have hc : w.cell? ⟨b, o, none⟩ = some v := by rw [cell_of (hw.cells hp), hv]
  simp only [oLoad, Instr.loadAt, Instr.sureAddr, loadVar, Sem.run_bind, Sem.run_pure, Result.andThen_ok, run_isAgg_sc, Bool.false_eq_true, if_false, run_load_of hc]

theorem reads_load_agg {T T' : TypeId} {b o n : Nat} {cs : List Value} {vs : List Value} [Ag P T n] (hp : Pick (cells b T' cs) L L') (hl : o + n ≤ cs.length)
    (hv : (cs.drop o).take n = vs) : Reads P L (oLoad T (.pointer (some ⟨b, o, none⟩))) (.agg vs.toArray) := by
  refine ⟨fun w hw => ?_⟩
  subst hv
  simp only [oLoad, Instr.loadAt, Instr.sureAddr, loadVar, Sem.run_bind, Sem.run_pure, Result.andThen_ok, run_isAgg_ag, if_true, run_size_ag, run_loadCells (hw.cells hp) hl]

theorem reads_fieldAt {T F : TypeId} {b o i off : Nat} [f : Fld P T i off F] :
    Reads P L (oFieldAt T (.pointer (some ⟨b, o, none⟩)) i) (.pointer (some ⟨b, o + off, none⟩)) := by
  refine ⟨fun w _ => ?_⟩
  obtain ⟨fs, f, j, hu, hf, ho, _, hj, hs⟩ := f.get
  simp [oFieldAt, Instr.fieldAt, Instr.sureAddr, run_underlying_of hu, hf, fieldPlace, run_size_of hj, hs, ho, add_at]

theorem reads_nil_ptr {a : Addr} : Reads P L (oNil (.pointer (some a))) (.pointer (some a)) := ⟨fun _ _ => rfl⟩

theorem reads_extract {vs : Array Value} {i : Nat} {v : Value} (h : vs[i]? = some v) : Reads P L (oExtract (.tuple vs) i) v := by
  refine ⟨fun w _ => ?_⟩
  simp [oExtract, Instr.extract, h]

theorem reads_not {b : Bool} : Reads P L (oUn .not (.bool b)) (.bool !b) := ⟨fun _ _ => rfl⟩

theorem eqGuard_int (op : BinOp) (T : TypeId) (x y : Operand) (k k' : IntKind) (a b : Int) (w : World) : (eqGuard op T x y (.int k a) (.int k' b)).run P w = .ok () w := by
  unfold eqGuard
  cases op <;> rfl

theorem reads_bin {op : BinOp} {T : TypeId} {x y : Operand} {k : IntKind} {a b : Int} {v : Value} (h : ∀ w, (binOp op T (.int k a) (.int k b)).run P w = .ok v w) :
    Reads P L (oBin op T x y (.int k a) (.int k b)) v := by
  refine ⟨fun w _ => ?_⟩
  simp [oBin, eqGuard_int, h]

theorem reads_add {T : TypeId} {x y : Operand} {k : IntKind} {a b : Int} : Reads P L (oBin .add T x y (.int k a) (.int k b)) (.int k (k.wrap (a + b))) :=
  reads_bin fun w => by simp [binOp, Op.intArith]
theorem reads_sub {T : TypeId} {x y : Operand} {k : IntKind} {a b : Int} : Reads P L (oBin .sub T x y (.int k a) (.int k b)) (.int k (k.wrap (a - b))) :=
  reads_bin fun w => by simp [binOp, Op.intArith]
theorem reads_mul {T : TypeId} {x y : Operand} {k : IntKind} {a b : Int} : Reads P L (oBin .mul T x y (.int k a) (.int k b)) (.int k (k.wrap (a * b))) :=
  reads_bin fun w => by simp [binOp, Op.intArith]
theorem reads_eq {T : TypeId} {x y : Operand} {k : IntKind} {a b : Int} : Reads P L (oBin .eql T x y (.int k a) (.int k b)) (.bool (decide (a = b))) :=
  reads_bin fun w => by simp [binOp, Op.intCmp]; rfl
theorem reads_ne {T : TypeId} {x y : Operand} {k : IntKind} {a b : Int} : Reads P L (oBin .neq T x y (.int k a) (.int k b)) (.bool (decide (a ≠ b))) :=
  reads_bin fun w => by simp [binOp, Op.intCmp]; rfl
theorem reads_lt {T : TypeId} {x y : Operand} {k : IntKind} {a b : Int} : Reads P L (oBin .lss T x y (.int k a) (.int k b)) (.bool (decide (a < b))) :=
  reads_bin fun w => by simp [binOp, Op.intCmp]
theorem reads_le {T : TypeId} {x y : Operand} {k : IntKind} {a b : Int} : Reads P L (oBin .leq T x y (.int k a) (.int k b)) (.bool (decide (a ≤ b))) :=
  reads_bin fun w => by simp [binOp, Op.intCmp]
theorem reads_gt {T : TypeId} {x y : Operand} {k : IntKind} {a b : Int} : Reads P L (oBin .gtr T x y (.int k a) (.int k b)) (.bool (decide (b < a))) :=
  reads_bin fun w => by simp [binOp, Op.intCmp]
theorem reads_ge {T : TypeId} {x y : Operand} {k : IntKind} {a b : Int} : Reads P L (oBin .geq T x y (.int k a) (.int k b)) (.bool (decide (b ≤ a))) :=
  reads_bin fun w => by simp [binOp, Op.intCmp]
theorem reads_rem {T : TypeId} {x y : Operand} {k : IntKind} {a b : Int} (hb : b ≠ 0) : Reads P L (oBin .rem T x y (.int k a) (.int k b)) (.int k (a.tmod b)) :=
  reads_bin fun w => by simp [binOp, Op.intDiv, hb]
theorem reads_quo {T : TypeId} {x y : Operand} {k : IntKind} {a b : Int} (hb : b ≠ 0) : Reads P L (oBin .quo T x y (.int k a) (.int k b)) (.int k (k.wrap (a.tdiv b))) :=
  reads_bin fun w => by simp [binOp, Op.intDiv, hb]

/-- What int arithmetic comes to where it fits. -/
theorem wrap_fits {n : Int} (h1 : -9223372036854775808 ≤ n) (h2 : n < 9223372036854775808) : IntKind.i64.wrap n = n := by
  unfold IntKind.wrap
  simp [IntKind.bits, IntKind.signed]
  split <;> omega

theorem reads_add_fits {T : TypeId} {x y : Operand} {a b : Int} (h1 : -9223372036854775808 ≤ a + b) (h2 : a + b < 9223372036854775808) :
    Reads P L (oBin .add T x y (.int .i64 a) (.int .i64 b)) (.int .i64 (a + b)) := by
  have := reads_add (P := P) (L := L) (T := T) (x := x) (y := y) (k := .i64) (a := a) (b := b)
  rwa [wrap_fits h1 h2] at this
theorem reads_sub_fits {T : TypeId} {x y : Operand} {a b : Int} (h1 : -9223372036854775808 ≤ a - b) (h2 : a - b < 9223372036854775808) :
    Reads P L (oBin .sub T x y (.int .i64 a) (.int .i64 b)) (.int .i64 (a - b)) := by
  have := reads_sub (P := P) (L := L) (T := T) (x := x) (y := y) (k := .i64) (a := a) (b := b)
  rwa [wrap_fits h1 h2] at this
theorem reads_mul_fits {T : TypeId} {x y : Operand} {a b : Int} (h1 : -9223372036854775808 ≤ a * b) (h2 : a * b < 9223372036854775808) :
    Reads P L (oBin .mul T x y (.int .i64 a) (.int .i64 b)) (.int .i64 (a * b)) := by
  have := reads_mul (P := P) (L := L) (T := T) (x := x) (y := y) (k := .i64) (a := a) (b := b)
  rwa [wrap_fits h1 h2] at this

theorem reads_quo_nn {T : TypeId} {x y : Operand} {a b : Int} (ha : 0 ≤ a) (hb : 0 < b) (h2 : a < 9223372036854775808) :
    Reads P L (oBin .quo T x y (.int .i64 a) (.int .i64 b)) (.int .i64 (a / b)) := by
  have h := reads_quo (P := P) (L := L) (T := T) (x := x) (y := y) (k := .i64) (a := a) (b := b) (by omega)
  rw [Int.tdiv_eq_ediv_of_nonneg ha] at h
  have h3 : 0 ≤ a / b := Int.ediv_nonneg ha (by omega)
  have h4 : a / b ≤ a := Int.ediv_le_self b ha
  rwa [wrap_fits (by omega) (by omega)] at h
theorem reads_rem_nn {T : TypeId} {x y : Operand} {k : IntKind} {a b : Int} (ha : 0 ≤ a) (hb : 0 < b) :
    Reads P L (oBin .rem T x y (.int k a) (.int k b)) (.int k (a % b)) := by
  have h := reads_rem (P := P) (L := L) (T := T) (x := x) (y := y) (k := k) (a := a) (b := b) (by omega)
  rwa [Int.tmod_eq_emod_of_nonneg ha] at h

-- ------------------------------------------------------------ new blocks

theorem tri_new {s : Sem Next} {k : Value → SP} {T : TypeId} {cs : List Value} (f : Nat → Value)
    (hs : ∀ w, s.run P w = .ok (.value (f w.heap.size)) { w with heap := w.heap.push (.cells cs.toArray T) })
    (h : ∀ b, Tri P (k (f b)) (cells b T cs :: L) Q) : Tri P (.op s k) L Q := by
  refine ⟨fun F w hw => ?_⟩
  show UponS P _ _ (s.run P w)
  rw [hs w]
  exact (h _).go F _ (hw.push rfl)

theorem tri_box {T : TypeId} {v : Value} {cs : List Value} {k : Value → SP} (hc : v.cells = cs.toArray) (h : ∀ b, Tri P (k (.pointer (some ⟨b, 0, none⟩))) (cells b T cs :: L) Q) :
    Tri P (.op (oBox T v) k) L Q :=
  tri_new (fun b => .pointer (some ⟨b, 0, none⟩)) (fun w => by simp [oBox, Instr.box, newVar, newRow, hc]) h

theorem run_zero {T : TypeId} {zs : List Value} {by_ : Nat} [i : Inf P T zs by_] {w : World} : ∃ z, (zeroValue T).run P w = .ok z w ∧ z.cells = zs.toArray := by
  obtain ⟨i, hi, _, _, z, hz, hc⟩ := i.get
  exact ⟨z, by simp [zeroValue, run_info_of hi, hz], hc⟩

theorem tri_alloc {T : TypeId} {zs : List Value} {by_ : Nat} [i : Inf P T zs by_] {k : Value → SP} (h : ∀ b, Tri P (k (.pointer (some ⟨b, 0, none⟩))) (cells b T zs :: L) Q) :
    Tri P (.op (oAlloc T) k) L Q :=
  tri_new (fun b => .pointer (some ⟨b, 0, none⟩)) (fun w => by
    obtain ⟨z, hz, hc⟩ := run_zero (P := P) (T := T) (w := w)
    simp [oAlloc, Instr.alloc, hz, newVar, newRow, hc]) h

-- ------------------------------------------------------------ stores

theorem frozen_none {b o : Nat} {T : TypeId} {cs : List Value} {w : World} (h : w.heap[b]? = some (.cells cs.toArray T (0, 0))) : w.frozen? ⟨b, o, none⟩ = false := by
  simp [World.frozen?, h]

/-- A value that is one cell. -/
def one : Value → Bool
  | .agg _ | .tuple _ => false
  | _ => true

theorem setCell_heap {b o : Nat} {T : TypeId} {cs : List Value} {w : World} {v : Value} (h : w.heap[b]? = some (.cells cs.toArray T (0, 0))) :
    (w.setCell ⟨b, o, none⟩ v).heap = w.heap.setIfInBounds b (.cells (cs.set o v).toArray T (0, 0)) := by
  unfold World.setCell
  apply Array.ext_getElem?
  intro i
  simp only [Array.getElem?_modify, Array.getElem?_setIfInBounds]
  by_cases hi : b = i
  · subst hi
    obtain ⟨hlt, hg⟩ := Array.getElem?_eq_some_iff.1 h
    simp [hlt, hg]
  · simp [hi]

theorem run_store_one {b o : Nat} {T : TypeId} {cs : List Value} {w : World} {v : Value} (h : w.heap[b]? = some (.cells cs.toArray T (0, 0))) (ho : o < cs.length) (hv : one v = true) :
    (store ⟨b, o, none⟩ v).run P w = .ok () (w.setCell ⟨b, o, none⟩ v) := by
  have hc : w.cell? ⟨b, o, none⟩ = some cs[o] := by rw [cell_of h, List.getElem?_eq_getElem ho]
  cases v <;> simp [one] at hv <;> simp [store, Sem.run, hc, frozen_none h]

theorem run_storeCells {b o : Nat} {T : TypeId} : ∀ (vs : List Value) (i : Nat) (cs : List Value) (w : World), w.heap[b]? = some (.cells cs.toArray T (0, 0)) → o + i + vs.length ≤ cs.length →
    (∀ v ∈ vs, one v = true) → ∃ w', (storeCells ⟨b, o, none⟩ vs i).run P w = .ok () w' ∧
      w'.heap = w.heap.setIfInBounds b (.cells ((cs.take (o + i)) ++ vs ++ cs.drop (o + i + vs.length)).toArray T (0, 0)) := by
  intro vs
  induction vs with
  | nil =>
    intro i cs w h hl _
    refine ⟨w, by simp [storeCells], ?_⟩
    have : (cs.take (o + i)) ++ [] ++ cs.drop (o + i + 0) = cs := by simp
    simp only [List.length_nil]
    rw [this]
    apply Array.ext_getElem?
    intro j
    simp only [Array.getElem?_setIfInBounds]
    split
    · rename_i hj
      subst hj
      obtain ⟨hlt, hg⟩ := Array.getElem?_eq_some_iff.1 h
      simp [hlt, hg]
    · rfl
  | cons v vs ih =>
    intro i cs w h hl hv
    simp only [List.length_cons] at hl
    have h1 := run_store_one (P := P) (o := o + i) (v := v) h (by omega) (hv v List.mem_cons_self)
    have hh := setCell_heap (o := o + i) (v := v) h
    have hlt := (Array.getElem?_eq_some_iff.1 h).1
    have h2 : (w.setCell ⟨b, o + i, none⟩ v).heap[b]? = some (.cells (cs.set (o + i) v).toArray T (0, 0)) := by rw [hh]; simp [hlt]
    obtain ⟨w', hr, hw'⟩ := ih (i + 1) (cs.set (o + i) v) _ h2 (by simp; omega) fun u hu => hv u (List.mem_cons_of_mem _ hu)
    refine ⟨w', ?_, ?_⟩
    · simp only [storeCells, Sem.run_bind, add_at, h1, Result.andThen_ok, hr]
    · rw [hw', hh]
      have e : ((cs.set (o + i) v).take (o + (i + 1))) ++ vs ++ (cs.set (o + i) v).drop (o + (i + 1) + vs.length) = (cs.take (o + i)) ++ (v :: vs) ++ cs.drop (o + i + (v :: vs).length) := by
        have e1 : (cs.set (o + i) v).take (o + (i + 1)) = cs.take (o + i) ++ [v] := by
          rw [show o + (i + 1) = o + i + 1 by omega, List.take_succ_eq_append_getElem (by simp; omega)]
          simp [List.take_set_of_le]
        have e2 : (cs.set (o + i) v).drop (o + (i + 1) + vs.length) = cs.drop (o + i + (v :: vs).length) := by
          rw [List.drop_set_of_lt (by omega)]
          congr 1
          simp; omega
        rw [e1, e2]
        simp
      rw [e]
      apply Array.ext_getElem?
      intro j
      simp only [Array.getElem?_setIfInBounds, Array.size_setIfInBounds]
      split <;> rfl

theorem tri_store {T T' : TypeId} {b o : Nat} {cs : List Value} {v : Value} {zs : List Value} {by_ : Nat} {k : Value → SP} [i : Inf P T zs by_] (hp : Pick (cells b T' cs) L L')
    (vs : List Value) (hc : v.cells = vs.toArray) (hz : zs.length = vs.length) (hl : o + vs.length ≤ cs.length) (hv : ∀ v ∈ vs, one v = true)
    (h : Tri P (k undef) (cells b T' ((cs.take o) ++ vs ++ cs.drop (o + vs.length)) :: L') Q) : Tri P (.op (oStore T (.pointer (some ⟨b, o, none⟩)) v) k) L Q := by
  refine ⟨fun F w hw => ?_⟩
  have hb := (hw.tail).cells hp
  obtain ⟨ti, hi, hs, _⟩ := i.get
  obtain ⟨w', hr, hh⟩ := run_storeCells (P := P) (o := o) vs 0 cs w hb (by omega) hv
  show UponS P _ _ ((oStore T (.pointer (some ⟨b, o, none⟩)) v).run P w)
  have : (oStore T (.pointer (some ⟨b, o, none⟩)) v).run P w = .ok .skip w' := by
    simp [oStore, Instr.storeAt, Instr.sureAddr, storeVar, run_size_of hi, hs, hc, hz, hr]
  rw [this]
  refine h.go F w' (Holds.set (hw.mono fun _ => star_mono (fun _ a => a) fun _ => hp.to) ?_)
  rw [hh]
  simp

/-- One cell is stored. -/
theorem tri_store1 {T T' : TypeId} {b o : Nat} {cs : List Value} {v : Value} {z : Value} {by_ : Nat} {k : Value → SP} [i : Inf P T [z] by_] (hp : Pick (cells b T' cs) L L')
    (hv : one v = true) (hl : o < cs.length) (h : Tri P (k undef) (cells b T' (cs.set o v) :: L') Q) : Tri P (.op (oStore T (.pointer (some ⟨b, o, none⟩)) v) k) L Q := by
  have hc : v.cells = [v].toArray := by cases v <;> simp [one] at hv <;> rfl
  refine tri_store (zs := [z]) (by_ := by_) hp [v] hc rfl (by simp; omega) (by simpa using hv) ?_
  have : (cs.take o) ++ [v] ++ cs.drop (o + [v].length) = cs.set o v := by
    rw [List.set_eq_take_append_cons_drop, if_pos hl]
    simp
  rw [this]
  exact h
end
end Go.Fr

-- FrStep
namespace Go.Fr
open Go
section
variable {P : Program} {L L' M : List HP} {Q : Nat → List Value → HP}

theorem stars_some : ∀ (M : List HP) {L' : List HP} {h : Part}, stars (M ++ L') h → stars M h := by
  intro M
  induction M with
  | nil => intro L' h _; trivial
  | cons A M ih => intro L' h x; exact star_mono (fun _ a => a) (fun _ => ih) x

/-- Some of what there is. -/
theorem Picks.some (p : Picks M L L') {h : Part} (x : stars L h) : stars M h := stars_some M (p.to x)

theorem stars_fact {φ : Prop} (hφ : φ) {h : Part} (x : stars L h) : stars (Fr.fact φ :: L) h :=
  ⟨fun _ => none, h, fun _ => .inl rfl, by funext b; rfl, hφ, x⟩

-- ------------------------------------------------------------ a bind, gone into

theorem tri_bind_done {t : Nat} {vs : List Value} {k : Nat → List Value → SP} (h : Tri P (k t vs) L Q) : Tri P (.bind (.done t vs) k) L Q := ⟨h.go⟩
theorem tri_bind_op {s : Sem Next} {k1 : Value → SP} {k : Nat → List Value → SP} (h : Tri P (.op s fun v => .bind (k1 v) k) L Q) : Tri P (.bind (.op s k1) k) L Q := ⟨h.go⟩
theorem tri_bind_rd {s : Sem Next} {k1 : Value → SP} {k : Nat → List Value → SP} (h : Tri P (.rd s fun v => .bind (k1 v) k) L Q) : Tri P (.bind (.rd s k1) k) L Q := ⟨h.go⟩
theorem tri_bind_chk {s : Sem Next} {v : Value} {p : SP} {k : Nat → List Value → SP} (h : Tri P (.chk s v (.bind p k)) L Q) : Tri P (.bind (.chk s v p) k) L Q := ⟨h.go⟩
theorem tri_bind_drew {p : SP} {k : Nat → List Value → SP} (h : Tri P (.drew (.bind p k)) L Q) : Tri P (.bind (.drew p) k) L Q := ⟨h.go⟩
theorem tri_bind_ite {v : Value} {a b : SP} {k : Nat → List Value → SP} (h : Tri P (.ite v (.bind a k) (.bind b k)) L Q) : Tri P (.bind (.ite v a b) k) L Q := ⟨h.go⟩
theorem tri_bind_both {a b : SP} {k : Nat → List Value → SP} (h : Tri P (.both (.bind a k) (.bind b k)) L Q) : Tri P (.bind (.both a b) k) L Q := ⟨h.go⟩
theorem tri_bind_bind {a : SP} {k1 k : Nat → List Value → SP} (h : Tri P (.bind a fun t vs => .bind (k1 t vs) k) L Q) : Tri P (.bind (.bind a k1) k) L Q := ⟨h.go⟩

-- ------------------------------------------------------------ results

inductive ResOk (P : Program) (L : List HP) : List ResultVar → List Value → List Value → Prop
  | nil : ResOk P L [] [] []
  | tmp {t : Tmp} {v : Value} {rs : List ResultVar} {vs us : List Value} (h : ResOk P L rs vs us) : ResOk P L (.tmp t :: rs) (v :: vs) (v :: us)
  | cell {a : Tmp} {T : TypeId} {v u : Value} {rs : List ResultVar} {vs us : List Value} (hl : Reads P L (oLoad T v) u) (hv : ∃ x, v = .pointer (some x)) (h : ResOk P L rs vs us) :
    ResOk P L (.cell a T :: rs) (v :: vs) (u :: us)

theorem ResOk.run {rs : List ResultVar} {vs us : List Value} (h : ResOk P L rs vs us) {w : World} (hw : Holds (stars L) w) : (resAll rs vs).run P w = .ok us w := by
  induction h with
  | nil => simp [resAll]
  | tmp h ih => simp [resAll, resOne, ih]
  | @cell a T v u rs vs us hl hv h ih =>
    obtain ⟨x, rfl⟩ := hv
    have := hl.at_ w hw
    simp only [oLoad, Instr.loadAt, Instr.sureAddr, Sem.run_bind, Sem.run_pure, Result.andThen_ok] at this
    simp only [resAll, resOne, asAddr, Sem.run_bind, Sem.run_pure, Result.andThen_ok]
    cases hx : (loadVar T x).run P w with
    | ok y w1 =>
      simp only [hx, Result.andThen_ok, Result.ok.injEq, Next.value.injEq] at this
      obtain ⟨rfl, rfl⟩ := this
      simp [ih]
    | halt y w1 => simp [hx] at this

theorem tri_fin {rs : List ResultVar} {vs us : List Value} (h : ResOk P L rs vs us) (hq : ∀ h, stars L h → Q 0 [tupleOf us] h) : Tri P (fin rs vs []) L Q := by
  refine tri_rd (v := tupleOf us) ⟨fun w hw => ?_⟩ (tri_done hq)
  simp [resS, h.run hw]
end
end Go.Fr

-- FrRules2
namespace Go.Fr
open Go

/-- A slice type: its elements' type, their cells at zero, and one's bytes. -/
def slOf (P : Program) (T : TypeId) : Option (TypeId × List Value × Nat × Nat) :=
  match P.underlying T with
  | some (.slice e) => (infOf P e).map fun x => (e, x)
  | _ => none
class Sl (P : Program) (T : TypeId) (E : outParam TypeId) (zs : outParam (List Value)) (by_ : outParam Nat) : Prop where
  h : slOf P T = some (E, zs, by_, zs.length)

theorem Sl.get {P : Program} {T E : TypeId} {zs : List Value} {by_ : Nat} (x : Sl P T E zs by_) :
    P.underlying T = some (.slice E) ∧ ∃ i z, P.info? E = some i ∧ i.size = zs.length ∧ i.bytes = by_ ∧ i.zero = some z ∧ z.cells = zs.toArray := by
  have h := x.h
  unfold slOf at h
  split at h
  · rename_i e hu
    cases hi : infOf P e with
    | none => simp [hi] at h
    | some y =>
      simp only [hi, Option.map_some, Option.some.injEq, Prod.mk.injEq] at h
      obtain ⟨rfl, h⟩ := h
      obtain ⟨i, h1, h2, h3, z, h4, h5⟩ := Inf.get (⟨by rw [hi, h]⟩ : Inf P e zs by_)
      exact ⟨hu, i, z, h1, h2, h3, h4, h5⟩
  · cases h

/-- An array type: its length, its elements' type, and how many cells one has. -/
def arOf (P : Program) (T : TypeId) : Option (Nat × TypeId × Nat) :=
  match P.underlying T with
  | some (.array n e) => (P.info? e).map fun i => (n, e, i.size)
  | _ => none
class Ar (P : Program) (T : TypeId) (n : outParam Nat) (E : outParam TypeId) (size : outParam Nat) : Prop where
  h : arOf P T = some (n, E, size)

theorem Ar.get {P : Program} {T E : TypeId} {n size : Nat} (x : Ar P T n E size) : P.underlying T = some (.array n E) ∧ ∃ i, P.info? E = some i ∧ i.size = size := by
  have h := x.h
  unfold arOf at h
  split at h
  · rename_i m e hu
    cases hi : P.info? e with
    | none => simp [hi] at h
    | some i =>
      simp only [hi, Option.map_some, Option.some.injEq, Prod.mk.injEq] at h
      obtain ⟨rfl, rfl, h3⟩ := h
      exact ⟨hu, i, hi, h3⟩
  · cases h

section
variable {P : Program} {L L' : List HP} {Q : Nat → List Value → HP}

theorem reads_len {T E ty : TypeId} {zs : List Value} {by_ : Nat} {cs : List Bool} {a : Option Addr} {n c : Nat} [s : Sl P T E zs by_] :
    Reads P L (oBuiltin .len [T] ty cs [.slice a n c]) (.int .i64 n) := by
  refine ⟨fun w _ => ?_⟩
  obtain ⟨hu, _⟩ := s.get
  simp [oBuiltin, builtin, Builtin.len_, run_underlying_of hu, goInt]

theorem reads_len_string {T ty : TypeId} {cs : List Bool} {s : ByteArray} [u : Und P T .string] : Reads P L (oBuiltin .len [T] ty cs [.string s]) (.int .i64 s.size) := by
  refine ⟨fun w _ => ?_⟩
  simp [oBuiltin, builtin, Builtin.len_, run_underlying_of u.h, goInt]

theorem reads_indexAt {T E : TypeId} {zs : List Value} {by_ b o n c : Nat} {k : IntKind} {i : Int} [s : Sl P T E zs by_] (h0 : 0 ≤ i) (h1 : i < n) :
    Reads P L (oIndexAt T (.slice (some ⟨b, o, none⟩) n c) (.int k i)) (.pointer (some ⟨b, o + i.toNat * zs.length, none⟩)) := by
  refine ⟨fun w _ => ?_⟩
  obtain ⟨hu, j, z, hj, hs, _⟩ := s.get
  simp [oIndexAt, Instr.indexAt, asIntOf, run_underlying_of hu, h0, h1, run_size_of hj, hs, add_at]

theorem reads_indexAt_array {T E : TypeId} {size b o n : Nat} {k : IntKind} {i : Int} [s : Ar P T n E size] (h0 : 0 ≤ i) (h1 : i < n) :
    Reads P L (oIndexAt T (.pointer (some ⟨b, o, none⟩)) (.int k i)) (.pointer (some ⟨b, o + i.toNat * size, none⟩)) := by
  refine ⟨fun w _ => ?_⟩
  obtain ⟨hu, j, hj, hs⟩ := s.get
  simp [oIndexAt, Instr.indexAt, Instr.sureAddr, asIntOf, run_underlying_of hu, h0, h1, run_size_of hj, hs, add_at]

/-- A conversion between whole numbers' kinds. -/
theorem reads_conv {S D : TypeId} {k j : IntKind} {n : Int} {d1 : TypeDesc} [u1 : Und P S d1] [u2 : Und P D (.int k)] : Reads P L (oConv S D (.int j n)) (.int k (k.wrap n)) := by
  refine ⟨fun w _ => ?_⟩
  cases d1 <;> simp [oConv, convert, run_underlying_of u1.h, run_underlying_of u2.h, Conv.intToInt]

theorem run_sliceBounds {isSlice : Bool} {len cap : Nat} {lo hi : Option Value} {l h : Nat} (hl : (match lo with | none => l = 0 | some v => ∃ k i, v = .int k i ∧ 0 ≤ i ∧ i.toNat = l))
    (hh : (match hi with | none => h = len | some v => ∃ k i, v = .int k i ∧ 0 ≤ i ∧ i.toNat = h)) (h1 : l ≤ h) (h2 : h ≤ cap) (w : World) :
    (Instr.sliceBounds isSlice len cap lo hi none).run P w = .ok (l, h, cap) w := by
  have hb : ∀ (k : IntKind) (i : Int) (y : Nat) (code : BoundsCode), 0 ≤ i → i.toNat ≤ y → (Instr.sliceBound (.int k i) y code).run P w = .ok i.toNat w := by
    intro k i y code h0 h1
    have : i ≤ (y : Int) := by omega
    simp [Instr.sliceBound, asIntOf, h0, this]
  cases lo with
  | none =>
    subst hl
    cases hi with
    | none => subst hh; simp [Instr.sliceBounds]
    | some v =>
      obtain ⟨k, i, rfl, h0, rfl⟩ := hh
      simp [Instr.sliceBounds, hb _ _ _ _ h0 h2]
  | some u =>
    obtain ⟨k, i, rfl, h0, rfl⟩ := hl
    cases hi with
    | none => subst hh; simp [Instr.sliceBounds, hb _ _ _ _ h0 h1]
    | some v =>
      obtain ⟨k', i', rfl, h0', rfl⟩ := hh
      simp [Instr.sliceBounds, hb _ _ _ _ h0' h2, hb _ _ _ _ h0 h1]

/-- What is left of an address behind the cutting. -/
def cutAt (a : Option Addr) (l size cap : Nat) : Option Addr := if cap = l then a else a.map (·.add (l * size))

theorem reads_slice {T E : TypeId} {zs : List Value} {by_ : Nat} {a : Option Addr} {len cap : Nat} {lo hi : Option Value} {l h : Nat} [s : Sl P T E zs by_]
    (hl : (match lo with | none => l = 0 | some v => ∃ k i, v = .int k i ∧ 0 ≤ i ∧ i.toNat = l))
    (hh : (match hi with | none => h = len | some v => ∃ k i, v = .int k i ∧ 0 ≤ i ∧ i.toNat = h)) (h1 : l ≤ h) (h2 : h ≤ cap) :
    Reads P L (oSlice T (.slice a len cap) lo hi none) (.slice (cutAt a l zs.length cap) (h - l) (cap - l)) := by
  refine ⟨fun w _ => ?_⟩
  obtain ⟨hu, j, z, hj, hs, _⟩ := s.get
  simp [oSlice, Instr.sliceAt, Instr.slice, run_underlying_of hu, run_sliceBounds (P := P) hl hh h1 h2, run_size_of hj, hs, cutAt]

theorem reads_slice_array {T E : TypeId} {size b o n : Nat} {lo hi : Option Value} {l h : Nat} [s : Ar P T n E size]
    (hl : (match lo with | none => l = 0 | some v => ∃ k i, v = .int k i ∧ 0 ≤ i ∧ i.toNat = l))
    (hh : (match hi with | none => h = n | some v => ∃ k i, v = .int k i ∧ 0 ≤ i ∧ i.toNat = h)) (h1 : l ≤ h) (h2 : h ≤ n) :
    Reads P L (oSlice T (.pointer (some ⟨b, o, none⟩)) lo hi none) (.slice (cutAt (some ⟨b, o, none⟩) l size n) (h - l) (n - l)) := by
  refine ⟨fun w _ => ?_⟩
  obtain ⟨hu, j, hj, hs⟩ := s.get
  simp only [oSlice, Instr.sliceAt, Instr.sureAddr, Sem.run_bind, Sem.run_pure, Result.andThen_ok, run_underlying_of hu, run_sliceBounds (P := P) hl hh h1 h2, run_size_of hj, hs, cutAt]
  by_cases hn : n = l
  · simp only [hn, if_true]
  · simp only [hn, if_false]
    rfl

-- ------------------------------------------------------------ new rows

theorem zero_rows (zs : List Value) (n : Nat) : ((Array.range (n * zs.length)).map fun i => zs.toArray[i % zs.toArray.size]!) = (List.replicate n zs).flatten.toArray := by
  apply Array.ext'
  simp only [Array.toList_map, Array.toList_range, List.size_toArray]
  induction n with
  | zero => simp
  | succ n ih =>
    rw [Nat.succ_mul, List.range_add, List.map_append, ih, List.replicate_succ', List.flatten_append]
    congr 1
    simp only [List.map_map, List.flatten_cons, List.flatten_nil, List.append_nil]
    apply List.ext_getElem
    · simp
    · intro i h1 h2
      simp at h1
      simp [Nat.mod_eq_of_lt h1, h1]

theorem map_range_zero (f : Nat → Value) : Array.map f (Array.range 0) = #[] := by
  apply Array.ext'
  simp

theorem tri_make {T E : TypeId} {zs : List Value} {by_ n c : Nat} {k1 k2 : IntKind} {ln cp : Int} {k : Value → SP} [s : Sl P T E zs by_]
    (hl : ln = n) (hc : cp = c) (h1 : n ≤ c) (h2 : (by_ : Int) * c ≤ 281474976710656) (h3 : c < 4611686018427387904)
    (h : ∀ b, Tri P (k (.slice (some ⟨b, 0, none⟩) n c)) (cells b E (List.replicate c zs).flatten :: L) Q) : Tri P (.op (oMake T (.int k1 ln) (.int k2 cp)) k) L Q := by
  subst hl hc
  obtain ⟨hu, j, z, hj, hs, hb, hz, hzc⟩ := s.get
  have e1 : IntKind.i64.wrap (n : Int) = n := wrap_fits (by omega) (by omega)
  have e2 : IntKind.i64.wrap (c : Int) = c := wrap_fits (by omega) (by omega)
  refine tri_new (fun b => .slice (some ⟨b, 0, none⟩) n c) (fun w => ?_) h
  have g1 : ¬ (281474976710656 : Int) < (j.bytes : Int) * c := by rw [hb]; omega
  have g0 : ¬ ((c : Int) < 0) := by omega
  have g2 : ¬ ((n : Int) < 0) := by omega
  have g3 : ¬ ((c : Int) < n) := by omega
  by_cases hn : c * zs.length = 0
  · have e3 : (List.replicate c zs).flatten = [] := by
      rcases Nat.mul_eq_zero.1 hn with h | h
      · simp [h]
      · rw [List.length_eq_zero_iff.1 h]; simp
    simp [oMake, Instr.makeSlice, run_underlying_of hu, asInt, asIntOf, run_info_of hj, e1, e2, g1, g0, g2, g3, run_size_of hj, hs, hn, newRow, e3, map_range_zero]
  · have hzr : (zeroValue E).run P w = .ok z w := by simp [zeroValue, run_info_of hj, hz]
    simp [oMake, Instr.makeSlice, run_underlying_of hu, asInt, asIntOf, run_info_of hj, e1, e2, g1, g0, g2, g3, run_size_of hj, hs, hn, newRow, hzr, hzc]
    have := zero_rows zs c
    simp at this
    rw [this]

theorem run_buildSlice {T E : TypeId} {zs : List Value} {by_ : Nat} [s : Sl P T E zs by_] {n : Nat} {ps : List (Nat × Value)} {cs : List Value} (hn : n * zs.length ≤ 16777216)
    (hf : Instr.fill (fun i => some (i * zs.length, zs.length)) (List.replicate n zs).flatten.toArray ps = some cs.toArray) (w : World) :
    (oBuildSlice T n ps).run P w = .ok (.value (.slice (some ⟨w.heap.size, 0, none⟩) n n)) { w with heap := w.heap.push (.cells cs.toArray E) } := by
  obtain ⟨hu, j, z, hj, hs, _, hz, hzc⟩ := s.get
  have hn' : ¬ (16777216 < n * zs.length) := by omega
  have hzr : (zeroValue E).run P w = .ok z w := by simp [zeroValue, run_info_of hj, hz]
  have zr := zero_rows zs n
  by_cases h0 : n * zs.length = 0
  · have e3 : (List.replicate n zs).flatten = [] := by
      rcases Nat.mul_eq_zero.1 h0 with h | h
      · simp [h]
      · rw [List.length_eq_zero_iff.1 h]; simp
    rw [e3] at hf
    simp only [oBuildSlice, Instr.buildSlice, Sem.run_bind, run_underlying_of hu, Result.andThen_ok, run_size_of hj, hs, h0, if_true, Sem.run_pure, Nat.reducePow, map_range_zero, Nat.not_lt_zero, GT.gt, if_false, hf]
    simp [newRow]
  · simp only [oBuildSlice, Instr.buildSlice, Sem.run_bind, run_underlying_of hu, Result.andThen_ok, run_size_of hj, hs, hn', if_false, h0, hzr, Sem.run_pure, Nat.reducePow, hzc]
    rw [zr, hf]
    simp [newRow]

theorem tri_buildSlice {T E : TypeId} {zs : List Value} {by_ : Nat} [s : Sl P T E zs by_] {n : Nat} {ps : List (Nat × Value)} (cs : List Value) {k : Value → SP} (hn : n * zs.length ≤ 16777216)
    (hf : Instr.fill (fun i => some (i * zs.length, zs.length)) (List.replicate n zs).flatten.toArray ps = some cs.toArray)
    (h : ∀ b, Tri P (k (.slice (some ⟨b, 0, none⟩) n n)) (cells b E cs :: L) Q) : Tri P (.op (oBuildSlice T n ps) k) L Q :=
  tri_new (fun b => .slice (some ⟨b, 0, none⟩) n n) (fun w => run_buildSlice hn hf w) h

-- ------------------------------------------------------------ a slice of one's own

def hor (A B : HP) : HP := fun h => A h ∨ B h

/-- 'v' is a slice of n elements whose cells are 'xs', at the head of a row that nobody else has. -/
def own (E : TypeId) (k : Nat) (v : Value) (n : Nat) (xs : List Value) : HP :=
  hor (fact (v = .slice none 0 0 ∧ n = 0 ∧ xs = []))
    (hex fun b => hex fun c => hex fun r : List Value => star (fact (v = .slice (some ⟨b, 0, none⟩) n c ∧ xs.length = n * k ∧ (xs ++ r).length = c * k)) (cells b E (xs ++ r)))

theorem Tri.or {A B : HP} {p : SP} (ha : Tri P p (A :: L) Q) (hb : Tri P p (B :: L) Q) : Tri P p (hor A B :: L) Q := by
  refine ⟨fun F w hw => ?_⟩
  obtain ⟨g, ⟨h1, h2, d, rfl, a, g1, g2, d', rfl, ab, c⟩, s⟩ := hw
  rcases ab with x | x
  · exact ha.go F w ⟨_, ⟨h1, _, d, rfl, a, g1, g2, d', rfl, x, c⟩, s⟩
  · exact hb.go F w ⟨_, ⟨h1, _, d, rfl, a, g1, g2, d', rfl, x, c⟩, s⟩

/-- A slice of one's own, looked into. -/
theorem Tri.own {E : TypeId} {kk : Nat} {v : Value} {n : Nat} {xs : List Value} {p : SP} (hp : Pick (own E kk v n xs) L L')
    (h0 : v = .slice none 0 0 → n = 0 → xs = [] → Tri P p L' Q)
    (h1 : ∀ b c r, v = .slice (some ⟨b, 0, none⟩) n c → xs.length = n * kk → (xs ++ r).length = c * kk → Tri P p (cells b E (xs ++ r) :: L') Q) : Tri P p L Q := by
  refine Tri.pick hp (Tri.or (Tri.fact fun ⟨a, b, c⟩ => h0 a b c) ?_)
  refine Tri.ex fun b => Tri.ex fun c => Tri.ex fun r => Tri.star (Tri.fact fun ⟨e1, e2, e3⟩ => h1 b c r e1 e2 e3)

theorem stars_own_nil {E : TypeId} {kk : Nat} {h : Part} (x : stars L h) : stars (Fr.own E kk (.slice none 0 0) 0 [] :: L) h :=
  ⟨fun _ => none, h, fun _ => .inl rfl, by funext b; rfl, .inl ⟨rfl, rfl, rfl⟩, x⟩

theorem own_of {E : TypeId} {kk n c b : Nat} {xs r : List Value} (h1 : xs.length = n * kk) (h2 : (xs ++ r).length = c * kk) {h : Part} (x : cells b E (xs ++ r) h) :
    Fr.own E kk (.slice (some ⟨b, 0, none⟩) n c) n xs h :=
  .inr ⟨b, c, r, fun _ => none, h, fun _ => .inl rfl, by funext b; rfl, ⟨rfl, h1, h2⟩, x⟩

theorem stars_own {E : TypeId} {kk n c b : Nat} {xs r : List Value} (h1 : xs.length = n * kk) (h2 : (xs ++ r).length = c * kk) {h : Part} (x : stars (cells b E (xs ++ r) :: L) h) :
    stars (Fr.own E kk (.slice (some ⟨b, 0, none⟩) n c) n xs :: L) h := star_mono (fun _ a => own_of h1 h2 a) (fun _ a => a) x

theorem Tri.toOwn {E : TypeId} {kk n c b : Nat} {p : SP} (xs r : List Value) (h1 : xs.length = n * kk) (h2 : (xs ++ r).length = c * kk)
    (h : Tri P p (Fr.own E kk (.slice (some ⟨b, 0, none⟩) n c) n xs :: L) Q) : Tri P p (cells b E (xs ++ r) :: L) Q := h.pre fun _ x => stars_own h1 h2 x

-- ------------------------------------------------------------ append

theorem run_firstCells {k n o c b m : Nat} {T : TypeId} {cs : List Value} {w : World} (h : w.heap[b]? = some (.cells cs.toArray T (0, 0))) (hl : o + n * k ≤ cs.length) :
    (Builtin.firstCells k n (.slice (some ⟨b, o, none⟩) m c)).run P w = .ok ((cs.drop o).take (n * k)).toArray w := by
  simp only [Builtin.firstCells]
  exact run_loadCells h hl

/-- Behind an append there is room for. -/
theorem run_append_here {T E ty : TypeId} {zs : List Value} {by_ : Nat} {cs : List Bool} [s : Sl P T E zs by_] {b n c : Nat} {xs r : List Value} {w : World}
    (hb : w.heap[b]? = some (.cells (xs ++ r).toArray E (0, 0))) (hx : xs.length = n * zs.length) (hc : (xs ++ r).length = c * zs.length)
    {d o m mc : Nat} {D : TypeId} {ds : List Value} (hd : w.heap[d]? = some (.cells ds.toArray D (0, 0))) (hl : o + m * zs.length ≤ ds.length) (hr : n + m ≤ c)
    (h1 : ∀ v ∈ (ds.drop o).take (m * zs.length), one v = true) :
    ∃ w', (oBuiltin .append [T, T] ty cs [.slice (some ⟨b, 0, none⟩) n c, .slice (some ⟨d, o, none⟩) m mc]).run P w = .ok (.value (.slice (some ⟨b, 0, none⟩) (n + m) c)) w' ∧
      w'.heap = w.heap.setIfInBounds b (.cells (xs ++ (ds.drop o).take (m * zs.length) ++ r.drop (m * zs.length)).toArray E (0, 0)) := by
  obtain ⟨hu, j, z, hj, hs, hby, hz, hzc⟩ := s.get
  have hf := run_firstCells (P := P) (k := zs.length) (n := m) (o := o) (c := mc) (m := m) hd hl
  have hmul : n * zs.length + m * zs.length ≤ c * zs.length := by rw [← Nat.add_mul]; exact Nat.mul_le_mul_right _ hr
  have hlen : ((ds.drop o).take (m * zs.length)).length = m * zs.length := by simp; omega
  obtain ⟨w', hrun, hw'⟩ := run_storeCells (P := P) (b := b) (o := n * zs.length) (T := E) ((ds.drop o).take (m * zs.length)) 0 (xs ++ r) w hb (by rw [hlen, hc]; omega) h1
  refine ⟨w', ?_, ?_⟩
  · have ha : (⟨b, 0, none⟩ : Addr).add (n * zs.length) = ⟨b, n * zs.length, none⟩ := by rw [add_at]; simp
    simp [oBuiltin, builtin, Builtin.append_, run_underlying_of hu, run_size_of hj, hs, Builtin.lenOf, hr, hf, ha, hrun]
  · rw [hw']
    congr 3
    rw [hlen]
    have e1 : (xs ++ r).take (n * zs.length + 0) = xs := by rw [Nat.add_zero, ← hx]; simp
    have e2 : (xs ++ r).drop (n * zs.length + 0 + m * zs.length) = r.drop (m * zs.length) := by
      rw [Nat.add_zero, ← hx, List.drop_append]
      simp
    rw [e1, e2]

theorem run_append_next {ts : List TypeId} {ty : TypeId} {bs : List Bool} {as : List Value} {v : Value} {w w' : World} (h : (Builtin.append_ ts.toArray ty as.toArray).run P w = .ok v w') :
    (oBuiltin .append ts ty bs as).run P w = .ok (.value v) w' := by
  simp only [oBuiltin, builtin, Sem.run_bind, h, Result.andThen_ok, Sem.run_pure]

theorem tri_append {T E ty : TypeId} {zs : List Value} {by_ : Nat} {bs : List Bool} [s : Sl P T E zs by_] {v : Value} {n : Nat} {xs : List Value} {d o m mc : Nat} {D : TypeId} {ds : List Value}
    {k : Value → SP} (hp : Picks [own E zs.length v n xs, cells d D ds] L L') (ys : List Value) (hy : (ds.drop o).take (m * zs.length) = ys) (hl : o + m * zs.length ≤ ds.length)
    (hm : 0 < m) (hsz : (n + m) * by_ ≤ 140737488355328) (h63 : n + m ≤ 9223372036854775807) (h1 : ∀ v ∈ ys, one v = true)
    (h : ∀ v', Tri P (k v') (own E zs.length v' (n + m) (xs ++ ys) :: cells d D ds :: L') Q) :
    Tri P (.op (oBuiltin .append [T, T] ty bs [v, .slice (some ⟨d, o, none⟩) m mc]) k) L Q := by
  subst hy
  refine Tri.picks hp ?_
  obtain ⟨hu, j, z, hj, hs, hby, hz, hzc⟩ := s.get
  have ylen : ((ds.drop o).take (m * zs.length)).length = m * j.size := by rw [hs]; simp; omega
  have news : ∀ (w : World), w.heap[d]? = some (.cells ds.toArray D (0, 0)) → ∀ i u, ((ds.drop o).take (m * zs.length))[i]? = some u → w.cell? ((⟨d, o, none⟩ : Addr).add i) = some u := by
    intro w hw i u hi
    rw [add_at, cell_of hw]
    have hlt : i < m * zs.length := by
      have := (List.getElem?_eq_some_iff.1 hi).1
      rw [ylen, hs] at this; exact this
    rw [List.getElem?_take_of_lt hlt, List.getElem?_drop] at hi
    exact hi
  have tail : ∀ (cap : Nat), (Builtin.zeroCells z.cells (cap - (n + m))).toList.length = (cap - (n + m)) * zs.length := by
    intro cap; simp [Builtin.zeroCells, hzc]
  refine Tri.or (Tri.fact fun ⟨e1, e2, e3⟩ => ?_) ?_
  · subst e1 e2 e3
    simp only [Nat.zero_add, List.nil_append] at hsz h63 h tail
    refine ⟨fun F w hw => ?_⟩
    have hd := (hw.tail).cells .here
    have hr := run_append_nil (P := P) (w := w) T ty E j z hu hj hz ⟨d, o, none⟩ m mc _ ylen (news w hd) hm (by omega) (by rw [hby]; omega)
    show UponS P _ _ _
    rw [run_append_next hr]
    have hcap : m ≤ grownCap w m 0 E := Nat.le_add_right _ _
    refine (h _).go F _ ((hw.push (o := .cells (((ds.drop o).take (m * zs.length)).toArray ++ Builtin.zeroCells z.cells (grownCap w m 0 E - m)) E) (w' := _) rfl).mono fun _ => star_mono (fun _ a => a) fun _ x => ?_)
    have e4 : (((ds.drop o).take (m * zs.length)).toArray ++ Builtin.zeroCells z.cells (grownCap w m 0 E - m)) = (((ds.drop o).take (m * zs.length)) ++ (Builtin.zeroCells z.cells (grownCap w m 0 E - m)).toList).toArray := by
      apply Array.ext'; simp
    rw [e4] at x
    refine stars_own (by rw [ylen, hs]) ?_ x
    rw [List.length_append, ylen, tail, hs, ← Nat.add_mul]
    congr 1
    omega
  · refine Tri.ex fun b => Tri.ex fun c => Tri.ex fun r => Tri.star (Tri.fact fun ⟨e1, e2, e3⟩ => ?_)
    subst e1
    by_cases hroom : n + m ≤ c
    · refine ⟨fun F w hw => ?_⟩
      have hb := (hw.tail).cells .here
      have hd := (hw.tail).cells (.there .here)
      obtain ⟨w', hrun, hw'⟩ := run_append_here (P := P) (T := T) (ty := ty) (cs := bs) (mc := mc) hb e2 e3 hd hl hroom h1
      show UponS P _ _ _
      rw [hrun]
      refine (h _).go F w' ((Holds.set hw hw').mono fun _ => star_mono (fun _ a => a) fun _ x => ?_)
      refine stars_own (by rw [List.length_append, e2, ylen, hs, ← Nat.add_mul]) ?_ x
      have hmul : n * zs.length + m * zs.length ≤ c * zs.length := by rw [← Nat.add_mul]; exact Nat.mul_le_mul_right _ hroom
      rw [List.length_append] at e3
      rw [List.length_append, List.length_append, List.length_drop, ylen, hs]
      omega
    · refine ⟨fun F w hw => ?_⟩
      have hb := (hw.tail).cells .here
      have hd := (hw.tail).cells (.there .here)
      have holds : ∀ i u, xs[i]? = some u → w.cell? ((⟨b, 0, none⟩ : Addr).add i) = some u := by
        intro i u hi
        rw [add_at, Nat.zero_add, cell_of hb, List.getElem?_append_left (List.getElem?_eq_some_iff.1 hi).1]
        exact hi
      have hr := run_append_grow (P := P) (w := w) T ty E j z hu hj hz ⟨b, 0, none⟩ n c xs (by rw [e2, hs]) holds ⟨d, o, none⟩ m mc _ ylen (news w hd) (by omega) (by omega)
        (by rw [hby]; exact growslice_fits (by omega) hsz)
      show UponS P _ _ _
      rw [run_append_next hr]
      have hcap : n + m ≤ grownCap w (n + m) c E := Nat.le_add_right _ _
      have hw2 : Holds (star F (stars (cells d D ds :: L'))) w := hw.mono fun _ => star_mono (fun _ a => a) fun _ x => by
        have := stars_some (M := [cells d D ds] ++ L') (L' := [cells b E (xs ++ r)]) (stars_join (star_comm (stars_split (L := [cells b E (xs ++ r)]) (M := cells d D ds :: L') x)))
        exact this
      refine (h _).go F _ ((hw2.push (o := .cells (xs.toArray ++ ((ds.drop o).take (m * zs.length)).toArray ++ Builtin.zeroCells z.cells (grownCap w (n + m) c E - (n + m))) E) (w' := _) rfl).mono fun _ => star_mono (fun _ a => a) fun _ x => ?_)
      have e4 : (xs.toArray ++ ((ds.drop o).take (m * zs.length)).toArray ++ Builtin.zeroCells z.cells (grownCap w (n + m) c E - (n + m))) =
          ((xs ++ (ds.drop o).take (m * zs.length)) ++ (Builtin.zeroCells z.cells (grownCap w (n + m) c E - (n + m))).toList).toArray := by
        apply Array.ext'; simp
      rw [e4] at x
      refine stars_own (by rw [List.length_append, e2, ylen, hs, ← Nat.add_mul]) ?_ x
      rw [List.length_append, List.length_append, e2, ylen, tail, hs, ← Nat.add_mul, ← Nat.add_mul]
      congr 1
      omega
end
end Go.Fr
