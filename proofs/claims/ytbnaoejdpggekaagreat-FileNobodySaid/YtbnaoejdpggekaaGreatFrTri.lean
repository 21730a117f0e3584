/-
  This file proves: the laws of triples over trees of operations: what holds of parts of memory ahead, and behind.
-/
import Derived.Test.YtbnaoejdpggekaaGreatFrOps
import Derived.Test.YtbnaoejdpggekaaGreatFrHeap
namespace Go.Fr
open Go

/-- From a memory of which L holds on, the tree is done with what Q says; whatever else there is stays; no panic. -/
structure Tri (P : Program) (p : SP) (L : List HP) (Q : Nat → List Value → HP) : Prop where
  go : ∀ F w, Holds (star F (stars L)) w → Run P (fun _ _ => False) p w fun t vs w' => Holds (star F (Q t vs)) w'

/-- A contract of a function. -/
structure Ctr (P : Program) (f : FuncId) (args : List Value) (Pre : List HP) (Post : Value → HP) : Prop where
  enters : ∀ as w, (callFunc f as).run P w = .ok (.enter f as) w
  calls : ∀ F w, Holds (star F (stars Pre)) w → Calls P f args.toArray w fun e w' => ∃ v, e = .returned v ∧ Holds (star F (Post v)) w'

/-- An operation that only looks. -/
structure Reads (P : Program) (L : List HP) (s : Sem Next) (v : Value) : Prop where
  at_ : ∀ w, Holds (stars L) w → s.run P w = .ok (.value v) w

/-- An operation that is done: what it leaves. -/
structure Acts (P : Program) (L : List HP) (s : Sem Next) (Post : Value → List HP) : Prop where
  at_ : ∀ F w, Holds (star F (stars L)) w → ∃ v w', (s.run P w = .ok (.value v) w' ∨ (s.run P w = .ok .skip w' ∧ v = undef)) ∧ Holds (star F (stars (Post v))) w'

section
variable {P : Program} {L L' M : List HP} {Q : Nat → List Value → HP}

theorem Holds.tail {F : HP} {w : World} (h : Holds (star F (stars L)) w) : Holds (stars L) w := h.right

theorem Tri.pre {p : SP} (h : Tri P p M Q) (e : ∀ h, stars L h → stars M h) : Tri P p L Q :=
  ⟨fun F w hw => h.go F w (hw.mono fun _ => star_mono (fun _ a => a) (fun _ => e _))⟩

theorem Tri.pick {A : HP} {p : SP} (hp : Pick A L L') (h : Tri P p (A :: L') Q) : Tri P p L Q := h.pre fun _ => hp.to

theorem Tri.picks {p : SP} (hp : Picks M L L') (h : Tri P p (M ++ L') Q) : Tri P p L Q := h.pre fun _ => hp.to

theorem Tri.drop {A : HP} {p : SP} (hp : Pick A L L') (h : Tri P p L' Q) : Tri P p L Q :=
  ⟨fun F w hw => h.go F w (hw.mono fun g x => by
    have := star_mono (fun _ a => a) (fun _ => hp.to) x
    have h2 := star_left this
    obtain ⟨h1, h2', d, rfl, _, y⟩ := h2
    rw [plus_comm d]
    obtain ⟨k1, k2, d', rfl, f, l⟩ := y
    have d1 := apart_plus.1 d.symm
    rw [plus_assoc]
    exact ⟨k1, plus k2 h1, (apart_plus.2 ⟨d'.symm, d1.1.symm⟩).symm, rfl, f, stars_weak l d1.2⟩)⟩

theorem Tri.ex {α : Sort _} {f : α → HP} {p : SP} (h : ∀ x, Tri P p (f x :: L) Q) : Tri P p (hex f :: L) Q := by
  refine ⟨fun F w hw => ?_⟩
  obtain ⟨g, ⟨h1, h2, d, rfl, a, g1, g2, d', rfl, ⟨x, b⟩, c⟩, s⟩ := hw
  exact (h x).go F w ⟨_, ⟨h1, _, d, rfl, a, g1, g2, d', rfl, b, c⟩, s⟩

theorem Tri.fact {φ : Prop} {p : SP} (h : φ → Tri P p L Q) : Tri P p (fact φ :: L) Q := by
  refine ⟨fun F w hw => ?_⟩
  obtain ⟨g, ⟨h1, h2, d, rfl, a, g1, g2, d', rfl, b, c⟩, s⟩ := hw
  have d1 := apart_plus.1 d.symm
  refine (h b).go F w ⟨plus h1 (plus g2 g1), ⟨h1, _, ?_, rfl, a, stars_weak c d'.symm⟩, ?_⟩
  · exact (apart_plus.2 ⟨d1.2, d1.1⟩).symm
  · rw [← plus_comm d']; exact s

theorem Tri.star {A B : HP} {p : SP} (h : Tri P p (A :: B :: L) Q) : Tri P p (star A B :: L) Q := h.pre fun _ => star_assoc.1

theorem Tri.stars {p : SP} (h : Tri P p (M ++ L) Q) : Tri P p (stars M :: L) Q := h.pre fun _ => stars_join

theorem Tri.post {p : SP} {Q' : Nat → List Value → HP} (h : Tri P p L Q') (e : ∀ t vs h, Q' t vs h → Q t vs h) : Tri P p L Q :=
  ⟨fun F w hw => Run.mono (fun _ _ h => h) p (fun t vs _ hq => hq.mono fun _ => star_mono (fun _ a => a) (e t vs)) (h.go F w hw)⟩

/-- What a piece does not need stays. -/
theorem Tri.frame {p : SP} (h : Tri P p L Q) : Tri P p (L ++ M) fun t vs => Fr.star (Q t vs) (Fr.stars M) := by
  refine ⟨fun F w hw => ?_⟩
  have h1 := h.go (Fr.star F (Fr.stars M)) w (hw.mono fun g x => star_assoc.2 (star_mono (fun _ a => a) (fun _ y => star_comm (stars_split y)) x))
  exact Run.mono (fun _ _ h => h) p (fun t vs w' hq => hq.mono fun _ x => star_mono (fun _ a => a) (fun _ y => star_comm y) (star_assoc.1 x)) h1

theorem tri_done {t : Nat} {vs : List Value} (h : ∀ h, Fr.stars L h → Q t vs h) : Tri P (.done t vs) L Q :=
  ⟨fun _ _ hw => hw.mono fun _ => star_mono (fun _ a => a) h⟩

theorem tri_bind {p : SP} {k : Nat → List Value → SP} (M : Nat → List Value → HP) (h : Tri P p L M) (hk : ∀ t vs, Tri P (k t vs) [M t vs] Q) : Tri P (.bind p k) L Q :=
  ⟨fun F w hw => Run.mono (fun _ _ h => h) p (fun t vs w' hq => (hk t vs).go F w' (hq.mono fun _ => star_mono (fun _ a => a) fun _ m => ⟨_, fun _ => none, fun _ => .inr rfl, by funext b; unfold plus; split <;> simp_all, m, trivial⟩)) (h.go F w hw)⟩

theorem tri_reads {s : Sem Next} {v : Value} {k : Value → SP} (hr : Reads P L s v) (h : Tri P (k v) L Q) : Tri P (.op s k) L Q := by
  refine ⟨fun F w hw => ?_⟩
  show UponS P _ _ (s.run P w)
  rw [hr.at_ w hw.tail]
  exact h.go F w hw

theorem tri_rd {s : Sem Next} {v : Value} {k : Value → SP} (hr : Reads P L s v) (h : Tri P (k v) L Q) : Tri P (.rd s k) L Q :=
  ⟨fun F w hw => ⟨v, hr.at_ w hw.tail, h.go F w hw⟩⟩

theorem tri_chk {s : Sem Next} {v : Value} {k : SP} (hr : Reads P L s v) (h : Tri P k L Q) : Tri P (.chk s v k) L Q :=
  ⟨fun F w hw => ⟨hr.at_ w hw.tail, h.go F w hw⟩⟩

theorem tri_acts {s : Sem Next} {k : Value → SP} {Post : Value → List HP} (ha : Acts P L s Post) (h : ∀ v, Tri P (k v) (Post v) Q) : Tri P (.op s k) L Q := by
  refine ⟨fun F w hw => ?_⟩
  obtain ⟨v, w', hr, hq⟩ := ha.at_ F w hw
  show UponS P _ _ (s.run P w)
  rcases hr with hr | ⟨hr, rfl⟩
  · rw [hr]; exact (h v).go F w' hq
  · rw [hr]; exact (h undef).go F w' hq

theorem tri_call {f : FuncId} {args : List Value} {Pre : List HP} {Post : Value → HP} {k : Value → SP} (hs : Ctr P f args Pre Post) (hp : Picks Pre L L')
    (h : ∀ v, Tri P (k v) (Post v :: L') Q) : Tri P (.op (oCall f args) k) L Q := by
  refine ⟨fun F w hw => ?_⟩
  show UponS P _ _ ((callFunc f args.toArray).run P w)
  rw [hs.enters]
  have hw' : Holds (Fr.star (Fr.star F (Fr.stars L')) (Fr.stars Pre)) w :=
    hw.mono fun g x => star_assoc.2 (star_mono (fun _ a => a) (fun _ y => star_comm (stars_split (hp.to y))) x)
  refine Calls.mono (hs.calls _ w hw') ?_
  rintro e w' ⟨v, rfl, hq⟩
  exact (h v).go F w' (hq.mono fun g x => star_mono (fun _ a => a) (fun _ y => star_comm y) (star_assoc.1 x))

theorem tri_ite {b : Bool} {p q : SP} (ht : b = true → Tri P p L Q) (hf : b = false → Tri P q L Q) : Tri P (.ite (.bool b) p q) L Q :=
  ⟨fun F w hw => ⟨b, rfl, fun e => (ht e).go F w hw, fun e => (hf e).go F w hw⟩⟩

theorem tri_if {c : Prop} [Decidable c] {p q : SP} (ht : c → Tri P p L Q) (hf : ¬ c → Tri P q L Q) : Tri P (.ite (.bool (decide c)) p q) L Q :=
  tri_ite (fun e => ht (of_decide_eq_true e)) (fun e => hf (of_decide_eq_false e))

theorem tri_both {p q : SP} (hp : Tri P p L Q) (hq : Tri P q L Q) : Tri P (.both p q) L Q := ⟨fun F w hw => ⟨hp.go F w hw, hq.go F w hw⟩⟩

theorem tri_drew {p : SP} (h : Tri P p L Q) : Tri P (.drew p) L Q := ⟨fun F w hw => h.go F _ (hw.drew _)⟩

theorem tri_loop {init : List Value} {body : List Value → SP} {k : Nat → List Value → SP} (I : Nat → List Value → HP) (M : Nat → List Value → HP) (n : Nat)
    (h0 : ∀ h, Fr.stars L h → I n init h)
    (hb : ∀ n vs, Tri P (body vs) [I n vs] fun t vs' => if t = 0 then hex fun m => Fr.star (Fr.fact (m < n)) (I m vs') else M t vs')
    (hk : ∀ t vs, t ≠ 0 → Tri P (k t vs) [M t vs] Q) : Tri P (.loop init body k) L Q := by
  have one : ∀ {A : HP} {g : Part}, A g → Fr.stars [A] g := fun {A g} a => ⟨g, fun _ => none, fun _ => .inr rfl, by funext b; unfold plus; split <;> simp_all, a, trivial⟩
  refine ⟨fun F w hw => ?_⟩
  refine ⟨fun n vs w => Holds (Fr.star F (I n vs)) w, ⟨n, hw.mono fun _ => star_mono (fun _ a => a) h0⟩, fun n vs _ hI => ?_⟩
  refine Run.mono (fun _ _ h => h) (body vs) (fun t vs' w' hq => ?_) ((hb n vs).go F _ (hI.mono fun _ => star_mono (fun _ a => a) fun _ m => one m))
  by_cases ht : t = 0
  · simp only [ht, if_true] at hq ⊢
    obtain ⟨g, ⟨h1, h2, d, rfl, a, m, g1, g2, d', rfl, hm, i⟩, s⟩ := hq
    have d1 := apart_plus.1 d.symm
    refine ⟨m, hm, plus h1 g2, ⟨h1, g2, d1.2.symm, rfl, a, i⟩, fun b o hb => s b o ?_⟩
    unfold plus at hb ⊢
    split
    · rename_i o' ho'; rw [ho'] at hb; exact hb
    · rename_i ho'
      rw [ho'] at hb
      have : g1 b = none := by
        rcases d' b with e | e
        · exact e
        · rw [e] at hb; cases hb
      simp only [this]
      exact hb
  · simp only [ht, if_false] at hq ⊢
    exact (hk t vs' ht).go F w' (hq.mono fun _ => star_mono (fun _ a => a) fun _ m => one m)

/-- A contract out of a function's tree. -/
theorem Ctr.of_den (hm : P.follows .mixedOrders = true) {f : FuncId} {fn : Func} {A : Ann} {args : List Value} {Pre : List HP} {Post : Value → HP}
    (hf : P.funcs[f]? = some fn) (hn : (fn.name == "runtime.NumGoroutine") = false) (hb : fn.body.isNone = false)
    (h : Tri P (denF fn A args) Pre fun _ vs => Post (vs.headD undef)) : Ctr P f args Pre Post where
  enters as w := by
    unfold callFunc
    simp only [program, bind, Sem.bind, Sem.run]
    simp only [hf, hn, hb, Bool.false_eq_true, if_false]
    rfl
  calls F w hw := calls_of_den hm hf (h.go F w hw)
end
end Go.Fr
