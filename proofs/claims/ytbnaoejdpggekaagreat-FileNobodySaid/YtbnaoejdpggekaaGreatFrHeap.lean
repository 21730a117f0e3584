/-
  This file proves: the laws of assertions on parts of memory that share nothing.
-/
import GoSem.Core.World
namespace Go.Fr
open Go

/-- A part of memory. -/
abbrev Part := Nat → Option Obj
/-- An assertion on a part of memory. -/
abbrev HP := Part → Prop

def Apart (h g : Part) : Prop := ∀ b, h b = none ∨ g b = none
def plus (h g : Part) : Part := fun b => match h b with | some o => some o | none => g b

/-- It holds of a part of the world's memory. -/
def Holds (H : HP) (w : World) : Prop := ∃ h, H h ∧ ∀ b o, h b = some o → w.heap[b]? = some o

def star (A B : HP) : HP := fun h => ∃ h1 h2, Apart h1 h2 ∧ h = plus h1 h2 ∧ A h1 ∧ B h2
def emp : HP := fun _ => True
def fact (p : Prop) : HP := fun _ => p
def hex {α : Sort _} (f : α → HP) : HP := fun h => ∃ x, f x h
def pts (b : Nat) (o : Obj) : HP := fun h => h b = some o

def stars : List HP → HP
  | [] => emp
  | A :: L => star A (stars L)

theorem plus_comm {h g : Part} (d : Apart h g) : plus h g = plus g h := by
  funext b
  unfold plus
  rcases d b with e | e <;> cases hb : h b <;> cases gb : g b <;> simp_all

theorem Apart.symm {h g : Part} (d : Apart h g) : Apart g h := fun b => (d b).symm

theorem plus_assoc (h g k : Part) : plus (plus h g) k = plus h (plus g k) := by
  funext b
  unfold plus
  cases h b <;> rfl

theorem apart_plus {h g k : Part} : Apart (plus h g) k ↔ Apart h k ∧ Apart g k := by
  constructor
  · intro d
    refine ⟨fun b => ?_, fun b => ?_⟩
    · rcases d b with e | e
      · unfold plus at e; cases hb : h b <;> simp_all
      · exact .inr e
    · rcases d b with e | e
      · unfold plus at e; cases hb : h b <;> simp_all
      · exact .inr e
  · rintro ⟨d1, d2⟩ b
    unfold plus
    rcases d1 b with e1 | e1
    · rcases d2 b with e2 | e2
      · left; simp [e1, e2]
      · right; exact e2
    · right; exact e1

theorem star_comm {A B : HP} {h : Part} (x : star A B h) : star B A h := by
  obtain ⟨h1, h2, d, rfl, a, b⟩ := x
  exact ⟨h2, h1, d.symm, plus_comm d, b, a⟩

theorem star_left {A B C : HP} {h : Part} (x : star A (star B C) h) : star B (star A C) h := by
  obtain ⟨h1, h2, d, rfl, a, g1, g2, d', rfl, b, c⟩ := x
  have d1 := apart_plus.1 d.symm
  refine ⟨g1, plus h1 g2, ?_, ?_, b, h1, g2, d1.2.symm, rfl, a, c⟩
  · exact (apart_plus.2 ⟨d1.1.symm, d'.symm⟩).symm
  · rw [← plus_assoc, ← plus_assoc, plus_comm d1.1.symm]

theorem star_assoc {A B C : HP} {h : Part} : star (star A B) C h ↔ star A (star B C) h := by
  constructor
  · rintro ⟨h1, h2, d, rfl, ⟨g1, g2, d', rfl, a, b⟩, c⟩
    have d1 := apart_plus.1 d
    exact ⟨g1, plus g2 h2, (apart_plus.2 ⟨d'.symm, d1.1.symm⟩).symm, plus_assoc _ _ _, a, g2, h2, d1.2, rfl, b, c⟩
  · rintro ⟨h1, h2, d, rfl, a, g1, g2, d', rfl, b, c⟩
    have d1 := apart_plus.1 d.symm
    exact ⟨plus h1 g1, g2, apart_plus.2 ⟨d1.2.symm, d'⟩, (plus_assoc _ _ _).symm, ⟨h1, g1, d1.1.symm, rfl, a, b⟩, c⟩

theorem star_mono {A B A' B' : HP} (ha : ∀ h, A h → A' h) (hb : ∀ h, B h → B' h) {h : Part} (x : star A B h) : star A' B' h := by
  obtain ⟨h1, h2, d, e, a, b⟩ := x
  exact ⟨h1, h2, d, e, ha _ a, hb _ b⟩

theorem Holds.mono {A B : HP} {w : World} (h : Holds A w) (hab : ∀ h, A h → B h) : Holds B w := by
  obtain ⟨g, a, s⟩ := h
  exact ⟨g, hab _ a, s⟩

theorem Holds.left {A B : HP} {w : World} (h : Holds (star A B) w) : Holds A w := by
  obtain ⟨g, ⟨h1, h2, d, rfl, a, b⟩, s⟩ := h
  exact ⟨h1, a, fun b o hb => s b o (by simp [plus, hb])⟩

theorem Holds.right {A B : HP} {w : World} (h : Holds (star A B) w) : Holds B w := (h.mono fun _ => star_comm).left

theorem Holds.heap {A : HP} {w w' : World} (h : Holds A w) (e : w'.heap = w.heap) : Holds A w' := by
  obtain ⟨g, a, s⟩ := h
  exact ⟨g, a, fun b o hb => by rw [e]; exact s b o hb⟩

theorem Holds.drew {A : HP} {w : World} (h : Holds A w) (n : Nat) : Holds A { w with drawn := n } := h.heap rfl

theorem Holds.pts {b : Nat} {o : Obj} {B : HP} {w : World} (h : Holds (star (Fr.pts b o) B) w) : w.heap[b]? = some o := by
  obtain ⟨g, a, s⟩ := h.left
  exact s b o a

/-- A block is written. -/
theorem Holds.set {F B : HP} {b : Nat} {o o' : Obj} {w w' : World} (h : Holds (star F (star (Fr.pts b o) B)) w) (e : w'.heap = w.heap.setIfInBounds b o') :
    Holds (star F (star (Fr.pts b o') B)) w' := by
  obtain ⟨g, ⟨h1, h2, d, rfl, f, g1, g2, d', rfl, p, c⟩, s⟩ := h
  have d1 := apart_plus.1 d.symm
  have p' : g1 b = some o := p
  have hf : h1 b = none := (d1.1 b).resolve_left (by rw [p']; simp)
  have hc : g2 b = none := (d' b).resolve_left (by rw [p']; simp)
  have hlt : b < w.heap.size := by
    have := s b o (by simp [plus, hf, p'])
    exact (Array.getElem?_eq_some_iff.1 this).1
  refine ⟨plus h1 (plus (fun x => if x = b then some o' else g1 x) g2), ⟨h1, _, ?_, rfl, f, _, g2, ?_, rfl, by simp [Fr.pts], c⟩, ?_⟩
  · intro x
    by_cases hx : x = b
    · subst hx; exact .inl hf
    · rcases d x with e1 | e1
      · exact .inl e1
      · right; simp only [plus, hx, if_false] at e1 ⊢; exact e1
  · intro x
    by_cases hx : x = b
    · subst hx; exact .inr hc
    · simp only [hx, if_false]; exact d' x
  · intro x ox hx
    rw [e]
    by_cases hxb : x = b
    · subst hxb
      simp only [plus, hf, if_true] at hx
      cases hx
      simp [hlt]
    · rw [Array.getElem?_setIfInBounds_ne (Ne.symm hxb)]
      refine s x ox ?_
      simp only [plus, hxb, if_false] at hx ⊢
      exact hx

/-- A new block. -/
theorem Holds.push {F B : HP} {o : Obj} {w w' : World} (h : Holds (star F B) w) (e : w'.heap = w.heap.push o) :
    Holds (star F (star (Fr.pts w.heap.size o) B)) w' := by
  obtain ⟨g, ⟨h1, h2, d, rfl, f, c⟩, s⟩ := h
  have out : ∀ (g : Part), (∀ x ox, g x = some ox → w.heap[x]? = some ox) → g w.heap.size = none := by
    intro g hg
    cases hx : g w.heap.size with
    | none => rfl
    | some o => have := hg _ _ hx; simp at this
  have n0 := out _ s
  have n1 : h1 w.heap.size = none := by cases hx : h1 w.heap.size <;> simp_all [plus]
  have n2 : h2 w.heap.size = none := by simpa [plus, n1] using n0
  refine ⟨plus h1 (plus (fun x => if x = w.heap.size then some o else none) h2), ⟨h1, _, ?_, rfl, f, _, h2, ?_, rfl, by simp [Fr.pts], c⟩, ?_⟩
  · intro x
    by_cases hx : x = w.heap.size
    · subst hx; exact .inl n1
    · rcases d x with e1 | e1
      · exact .inl e1
      · right; simp only [plus, hx, if_false]; exact e1
  · intro x
    by_cases hx : x = w.heap.size
    · subst hx; exact .inr n2
    · simp [hx]
  · intro x ox hx
    rw [e]
    by_cases hxb : x = w.heap.size
    · subst hxb
      simp only [plus, n1, if_true] at hx
      cases hx
      simp
    · have : w.heap[x]? = some ox := s x ox (by simp only [plus, hxb, if_false] at hx ⊢; exact hx)
      have hlt := (Array.getElem?_eq_some_iff.1 this).1
      rw [Array.getElem?_push, if_neg (by omega)]
      exact this

/-- One assertion of a list, and the others. -/
inductive Pick : HP → List HP → List HP → Prop
  | here {A : HP} {L : List HP} : Pick A (A :: L) L
  | there {A B : HP} {L L' : List HP} (h : Pick A L L') : Pick A (B :: L) (B :: L')

theorem Pick.to {A : HP} {L L' : List HP} (p : Pick A L L') : ∀ {h : Part}, stars L h → stars (A :: L') h := by
  induction p with
  | here => intro h x; exact x
  | there _ ih => intro h x; exact star_left (star_mono (fun _ a => a) (fun _ => ih) x)

theorem Pick.back {A : HP} {L L' : List HP} (p : Pick A L L') : ∀ {h : Part}, stars (A :: L') h → stars L h := by
  induction p with
  | here => intro h x; exact x
  | there _ ih => intro h x; exact star_mono (fun _ a => a) (fun _ => ih) (star_left x)

/-- Several of them. -/
inductive Picks : List HP → List HP → List HP → Prop
  | none {L : List HP} : Picks [] L L
  | cons {A : HP} {M L L1 L' : List HP} (h : Pick A L L1) (t : Picks M L1 L') : Picks (A :: M) L L'

theorem stars_weak {M : List HP} : ∀ {g h : Part}, stars M g → Apart g h → stars M (plus g h) := by
  induction M with
  | nil => intro g h _ _; trivial
  | cons A M ih =>
    rintro g h ⟨g1, g2, d', rfl, a, m⟩ d
    have d1 := apart_plus.1 d
    rw [plus_assoc]
    exact ⟨g1, plus g2 h, (apart_plus.2 ⟨d'.symm, d1.1.symm⟩).symm, rfl, a, ih m d1.2⟩

theorem stars_append {L M : List HP} : ∀ {h : Part}, stars L h → ∀ {g : Part}, stars M g → Apart h g → stars (L ++ M) (plus h g) := by
  induction L with
  | nil =>
    intro h _ g m d
    rw [plus_comm d]
    exact stars_weak m d.symm
  | cons A L ih =>
    rintro h ⟨h1, h2, d', rfl, a, l⟩ g m d
    have d1 := apart_plus.1 d
    rw [plus_assoc]
    exact ⟨h1, plus h2 g, (apart_plus.2 ⟨d'.symm, d1.1.symm⟩).symm, rfl, a, ih l m d1.2⟩

theorem stars_split {L M : List HP} : ∀ {h : Part}, stars (L ++ M) h → star (stars L) (stars M) h := by
  induction L with
  | nil => intro h x; exact ⟨fun _ => none, h, fun _ => .inl rfl, by funext b; rfl, trivial, x⟩
  | cons A L ih => intro h x; exact star_assoc.2 (star_mono (fun _ a => a) (fun _ => ih) x)

theorem stars_join {L M : List HP} {h : Part} (x : star (stars L) (stars M) h) : stars (L ++ M) h := by
  obtain ⟨h1, h2, d, rfl, l, m⟩ := x
  exact stars_append l m d

theorem Picks.to {M L L' : List HP} (p : Picks M L L') : ∀ {h : Part}, stars L h → stars (M ++ L') h := by
  induction p with
  | none => intro h x; exact x
  | cons p _ ih => intro h x; exact star_mono (fun _ a => a) (fun _ => ih) (p.to x)

theorem Picks.back {M L L' : List HP} (p : Picks M L L') : ∀ {h : Part}, stars (M ++ L') h → stars L h := by
  induction p with
  | none => intro h x; exact x
  | cons p _ ih => intro h x; exact p.back (star_mono (fun _ a => a) (fun _ => ih) x)
end Go.Fr
