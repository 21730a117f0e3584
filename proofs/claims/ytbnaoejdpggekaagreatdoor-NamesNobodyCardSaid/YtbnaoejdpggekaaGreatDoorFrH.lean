/-
  This file is a part of the proof that trees of operations tell what code does, and that an evaluator tells what trees do: this file proves: the laws of triples that also say that the world's system, tape and output stay; this file proves: a call of a function that has a contract with no memory in it may be taken by the evaluator as a native.
-/
import Derived.Test.YtbnaoejdpggekaaGreatDoorFrG

-- FrK
namespace Go.Fr
open Go
set_option linter.unusedVariables false

/-- The system, the tape and the output are the same. -/
def Like (v w : World) : Prop := w.os = v.os ∧ w.tape = v.tape ∧ w.output = v.output

def HoldsK (v : World) (H : HP) (w : World) : Prop := Like v w ∧ Holds H w

theorem HoldsK.mono {v w : World} {A B : HP} (h : HoldsK v A w) (hab : ∀ h, A h → B h) : HoldsK v B w := ⟨h.1, h.2.mono hab⟩
theorem HoldsK.tail {v w : World} {F : HP} {L : List HP} (h : HoldsK v (star F (stars L)) w) : Holds (stars L) w := h.2.tail
theorem HoldsK.drew {v w : World} {A : HP} (h : HoldsK v A w) (n : Nat) : HoldsK v A { w with drawn := n } := ⟨h.1, h.2.drew n⟩
theorem HoldsK.push {v w : World} {F B : HP} {o : Obj} (h : HoldsK v (star F B) w) : HoldsK v (star F (star (Fr.pts w.heap.size o) B)) { w with heap := w.heap.push o } :=
  ⟨h.1, h.2.push rfl⟩
theorem HoldsK.set {v w : World} {F B : HP} {b : Nat} {o o' : Obj} (h : HoldsK v (star F (star (Fr.pts b o) B)) w) :
    HoldsK v (star F (star (Fr.pts b o') B)) { w with heap := w.heap.setIfInBounds b o' } := ⟨h.1, h.2.set rfl⟩

/-- From a memory of which L holds on, the tree is done with what Q says; whatever else there is stays; no panic. -/
structure TriK (P : Program) (p : SP) (L : List HP) (Q : Nat → List Value → HP) : Prop where
  go : ∀ v0 F w, HoldsK v0 (star F (stars L)) w → Run P (fun _ _ => False) p w fun t vs w' => HoldsK v0 (star F (Q t vs)) w'

/-- A contract of a function. -/
structure CtrK (P : Program) (f : FuncId) (args : List Value) (Pre : List HP) (Post : Value → HP) : Prop where
  enters : ∀ as0 w, (callFunc f as0).run P w = .ok (.enter f as0) w
  calls : ∀ v0 F w, HoldsK v0 (star F (stars Pre)) w → Calls P f args.toArray w fun e w' => ∃ v, e = .returned v ∧ HoldsK v0 (star F (Post v)) w'

section
variable {P : Program} {L L' M : List HP} {Q : Nat → List Value → HP}

theorem TriK.pre {p : SP} (h : TriK P p M Q) (e : ∀ h, stars L h → stars M h) : TriK P p L Q :=
  ⟨fun v0 F w hw => h.go v0 F w (hw.mono fun _ => star_mono (fun _ a => a) (fun _ => e _))⟩

theorem TriK.pick {A : HP} {p : SP} (hp : Pick A L L') (h : TriK P p (A :: L') Q) : TriK P p L Q := h.pre fun _ => hp.to

theorem TriK.picks {p : SP} (hp : Picks M L L') (h : TriK P p (M ++ L') Q) : TriK P p L Q := h.pre fun _ => hp.to

theorem TriK.drop {A : HP} {p : SP} (hp : Pick A L L') (h : TriK P p L' Q) : TriK P p L Q :=
  ⟨fun v0 F w hw => h.go v0 F w (hw.mono fun g x => by
    have := star_mono (fun _ a => a) (fun _ => hp.to) x
    have h2 := star_left this
    obtain ⟨h1, h2', d, rfl, _, y⟩ := h2
    rw [plus_comm d]
    obtain ⟨k1, k2, d', rfl, f, l⟩ := y
    have d1 := apart_plus.1 d.symm
    rw [plus_assoc]
    exact ⟨k1, plus k2 h1, (apart_plus.2 ⟨d'.symm, d1.1.symm⟩).symm, rfl, f, stars_weak l d1.2⟩)⟩

theorem TriK.ex {α : Sort _} {f : α → HP} {p : SP} (h : ∀ x, TriK P p (f x :: L) Q) : TriK P p (hex f :: L) Q := by
  refine ⟨fun v0 F w hw => ?_⟩
  obtain ⟨lk, g, ⟨h1, h2, d, rfl, a, g1, g2, d', rfl, ⟨x, b⟩, c⟩, s⟩ := hw
  exact (h x).go v0 F w ⟨lk, _, ⟨h1, _, d, rfl, a, g1, g2, d', rfl, b, c⟩, s⟩

theorem TriK.fact {φ : Prop} {p : SP} (h : φ → TriK P p L Q) : TriK P p (fact φ :: L) Q := by
  refine ⟨fun v0 F w hw => ?_⟩
  obtain ⟨lk, g, ⟨h1, h2, d, rfl, a, g1, g2, d', rfl, b, c⟩, s⟩ := hw
  have d1 := apart_plus.1 d.symm
  refine (h b).go v0 F w ⟨lk, plus h1 (plus g2 g1), ⟨h1, _, ?_, rfl, a, stars_weak c d'.symm⟩, ?_⟩
  · exact (apart_plus.2 ⟨d1.2, d1.1⟩).symm
  · rw [← plus_comm d']; exact s

theorem TriK.star {A B : HP} {p : SP} (h : TriK P p (A :: B :: L) Q) : TriK P p (star A B :: L) Q := h.pre fun _ => star_assoc.1

theorem TriK.stars {p : SP} (h : TriK P p (M ++ L) Q) : TriK P p (stars M :: L) Q := h.pre fun _ => stars_join

theorem TriK.post {p : SP} {Q' : Nat → List Value → HP} (h : TriK P p L Q') (e : ∀ t vs h, Q' t vs h → Q t vs h) : TriK P p L Q :=
  ⟨fun v0 F w hw => Run.mono (fun _ _ h => h) p (fun t vs _ hq => hq.mono fun _ => star_mono (fun _ a => a) (e t vs)) (h.go v0 F w hw)⟩

/-- What a piece does not need stays. -/
theorem TriK.frame {p : SP} (h : TriK P p L Q) : TriK P p (L ++ M) fun t vs => Fr.star (Q t vs) (Fr.stars M) := by
  refine ⟨fun v0 F w hw => ?_⟩
  have h1 := h.go v0 (Fr.star F (Fr.stars M)) w (hw.mono fun g x => star_assoc.2 (star_mono (fun _ a => a) (fun _ y => star_comm (stars_split y)) x))
  exact Run.mono (fun _ _ h => h) p (fun t vs w' hq => hq.mono fun _ x => star_mono (fun _ a => a) (fun _ y => star_comm y) (star_assoc.1 x)) h1

theorem trk_done {t : Nat} {vs : List Value} (h : ∀ h, Fr.stars L h → Q t vs h) : TriK P (.done t vs) L Q :=
  ⟨fun _ _ _ hw => hw.mono fun _ => star_mono (fun _ a => a) h⟩

theorem trk_bind {p : SP} {k : Nat → List Value → SP} (M : Nat → List Value → HP) (h : TriK P p L M) (hk : ∀ t vs, TriK P (k t vs) [M t vs] Q) : TriK P (.bind p k) L Q :=
  ⟨fun v0 F w hw => Run.mono (fun _ _ h => h) p (fun t vs w' hq => (hk t vs).go v0 F w' (hq.mono fun _ => star_mono (fun _ a => a) fun _ m => ⟨_, fun _ => none, fun _ => .inr rfl, by funext b; unfold plus; split <;> simp_all, m, trivial⟩)) (h.go v0 F w hw)⟩

theorem trk_reads {s : Sem Next} {v : Value} {k : Value → SP} (hr : Reads P L s v) (h : TriK P (k v) L Q) : TriK P (.op s k) L Q := by
  refine ⟨fun v0 F w hw => ?_⟩
  show UponS P _ _ (s.run P w)
  rw [hr.at_ w hw.tail]
  exact h.go v0 F w hw

theorem trk_rd {s : Sem Next} {v : Value} {k : Value → SP} (hr : Reads P L s v) (h : TriK P (k v) L Q) : TriK P (.rd s k) L Q :=
  ⟨fun v0 F w hw => ⟨v, hr.at_ w hw.tail, h.go v0 F w hw⟩⟩

theorem trk_chk {s : Sem Next} {v : Value} {k : SP} (hr : Reads P L s v) (h : TriK P k L Q) : TriK P (.chk s v k) L Q :=
  ⟨fun v0 F w hw => ⟨hr.at_ w hw.tail, h.go v0 F w hw⟩⟩


theorem trk_call {f : FuncId} {args : List Value} {Pre : List HP} {Post : Value → HP} {k : Value → SP} (hs : CtrK P f args Pre Post) (hp : Picks Pre L L')
    (h : ∀ v, TriK P (k v) (Post v :: L') Q) : TriK P (.op (oCall f args) k) L Q := by
  refine ⟨fun v0 F w hw => ?_⟩
  show UponS P _ _ ((callFunc f args.toArray).run P w)
  rw [hs.enters]
  have hw' : HoldsK v0 (Fr.star (Fr.star F (Fr.stars L')) (Fr.stars Pre)) w :=
    hw.mono fun g x => star_assoc.2 (star_mono (fun _ a => a) (fun _ y => star_comm (stars_split (hp.to y))) x)
  refine Calls.mono (hs.calls v0 _ w hw') ?_
  rintro e w' ⟨v, rfl, hq⟩
  exact (h v).go v0 F w' (hq.mono fun g x => star_mono (fun _ a => a) (fun _ y => star_comm y) (star_assoc.1 x))

theorem trk_ite {b : Bool} {p q : SP} (ht : b = true → TriK P p L Q) (hf : b = false → TriK P q L Q) : TriK P (.ite (.bool b) p q) L Q :=
  ⟨fun v0 F w hw => ⟨b, rfl, fun e => (ht e).go v0 F w hw, fun e => (hf e).go v0 F w hw⟩⟩

theorem trk_if {c : Prop} [Decidable c] {p q : SP} (ht : c → TriK P p L Q) (hf : ¬ c → TriK P q L Q) : TriK P (.ite (.bool (decide c)) p q) L Q :=
  trk_ite (fun e => ht (of_decide_eq_true e)) (fun e => hf (of_decide_eq_false e))

theorem trk_both {p q : SP} (hp : TriK P p L Q) (hq : TriK P q L Q) : TriK P (.both p q) L Q := ⟨fun v0 F w hw => ⟨hp.go v0 F w hw, hq.go v0 F w hw⟩⟩

theorem trk_drew {p : SP} (h : TriK P p L Q) : TriK P (.drew p) L Q := ⟨fun v0 F w hw => h.go v0 F _ (hw.drew _)⟩

theorem trk_loop {init : List Value} {body : List Value → SP} {k : Nat → List Value → SP} (I : Nat → List Value → HP) (M : Nat → List Value → HP) (n : Nat)
    (h0 : ∀ h, Fr.stars L h → I n init h)
    (hb : ∀ n vs, TriK P (body vs) [I n vs] fun t vs' => if t = 0 then hex fun m => Fr.star (Fr.fact (m < n)) (I m vs') else M t vs')
    (hk : ∀ t vs, t ≠ 0 → TriK P (k t vs) [M t vs] Q) : TriK P (.loop init body k) L Q := by
  have one : ∀ {A : HP} {g : Part}, A g → Fr.stars [A] g := fun {A g} a => ⟨g, fun _ => none, fun _ => .inr rfl, by funext b; unfold plus; split <;> simp_all, a, trivial⟩
  refine ⟨fun v0 F w hw => ?_⟩
  refine ⟨fun n vs w => HoldsK v0 (Fr.star F (I n vs)) w, ⟨n, hw.mono fun _ => star_mono (fun _ a => a) h0⟩, fun n vs _ hI => ?_⟩
  refine Run.mono (fun _ _ h => h) (body vs) (fun t vs' w' hq => ?_) ((hb n vs).go v0 F _ (hI.mono fun _ => star_mono (fun _ a => a) fun _ m => one m))
  by_cases ht : t = 0
  · simp only [ht, if_true] at hq ⊢
    obtain ⟨lk, g, ⟨h1, h2, d, rfl, a, m, g1, g2, d', rfl, hm, i⟩, s⟩ := hq
    have d1 := apart_plus.1 d.symm
    refine ⟨m, hm, lk, plus h1 g2, ⟨h1, g2, d1.2.symm, rfl, a, i⟩, fun b o hb => s b o ?_⟩
    unfold plus at hb ⊢
    split
    · rename_i o' ho'; rw [ho'] at hb; exact hb
    · rename_i ho'
      rw [ho'] at hb
      have : g1 b = none := by
        rcases d' b with e | e
        · exact e
        · rw [e] at hb; cases hb
      simp only [this]
      exact hb
  · simp only [ht, if_false] at hq ⊢
    exact (hk t vs' ht).go v0 F w' (hq.mono fun _ => star_mono (fun _ a => a) fun _ m => one m)

/-- A contract out of a function's tree. -/
theorem CtrK.of_den (hm : P.follows .mixedOrders = true) {f : FuncId} {fn : Func} {A : Ann} {args : List Value} {Pre : List HP} {Post : Value → HP}
    (hf : P.funcs[f]? = some fn) (hn : (fn.name == "runtime.NumGoroutine") = false) (hb : fn.body.isNone = false)
    (h : TriK P (denF fn A args) Pre fun _ vs => Post (vs.headD undef)) : CtrK P f args Pre Post where
  enters as0 w := by
    unfold callFunc
    simp only [program, bind, Sem.bind, Sem.run]
    simp only [hf, hn, hb, Bool.false_eq_true, if_false]
    rfl
  calls v0 F w hw := calls_of_den hm hf (h.go v0 F w hw)
theorem trk_new {s : Sem Next} {k : Value → SP} {T : TypeId} {cs : List Value} (f : Nat → Value)
    (hs : ∀ w, s.run P w = .ok (.value (f w.heap.size)) { w with heap := w.heap.push (.cells cs.toArray T) })
    (h : ∀ b, TriK P (k (f b)) (cells b T cs :: L) Q) : TriK P (.op s k) L Q := by
  refine ⟨fun v0 F w hw => ?_⟩
  show UponS P _ _ (s.run P w)
  rw [hs w]
  exact (h _).go v0 F _ hw.push

theorem trk_box {T : TypeId} {v : Value} {cs : List Value} {k : Value → SP} (hc : v.cells = cs.toArray) (h : ∀ b, TriK P (k (.pointer (some ⟨b, 0, none⟩))) (cells b T cs :: L) Q) :
    TriK P (.op (oBox T v) k) L Q :=
  trk_new (fun b => .pointer (some ⟨b, 0, none⟩)) (fun w => by simp [oBox, Instr.box, newVar, newRow, hc]) h

theorem trk_alloc {T : TypeId} {zs : List Value} {by_ : Nat} [i : Inf P T zs by_] {k : Value → SP} (h : ∀ b, TriK P (k (.pointer (some ⟨b, 0, none⟩))) (cells b T zs :: L) Q) :
    TriK P (.op (oAlloc T) k) L Q :=
  trk_new (fun b => .pointer (some ⟨b, 0, none⟩)) (fun w => by
    obtain ⟨z, hz, hc⟩ := run_zero (P := P) (T := T) (w := w)
    simp [oAlloc, Instr.alloc, hz, newVar, newRow, hc]) h

theorem trk_store {T T' : TypeId} {b o : Nat} {cs : List Value} {v : Value} {zs : List Value} {by_ : Nat} {k : Value → SP} [i : Inf P T zs by_] (hp : Pick (cells b T' cs) L L')
    (vs : List Value) (hc : v.cells = vs.toArray) (hz : zs.length = vs.length) (hl : o + vs.length ≤ cs.length) (hv : ∀ v ∈ vs, one v = true)
    (h : TriK P (k undef) (cells b T' ((cs.take o) ++ vs ++ cs.drop (o + vs.length)) :: L') Q) : TriK P (.op (oStore T (.pointer (some ⟨b, o, none⟩)) v) k) L Q := by
  refine ⟨fun v0 F w hw => ?_⟩
  have hb := (hw.tail).cells hp
  obtain ⟨ti, hi, hs, _⟩ := i.get
  have hr := run_storeCells_fr (P := P) (b := b) (o := o) (T := T') (fr := (0, 0)) (cs := cs) (.inl rfl) vs 0 cs w rfl hb (by omega) hv
  show UponS P _ _ ((oStore T (.pointer (some ⟨b, o, none⟩)) v).run P w)
  have : (oStore T (.pointer (some ⟨b, o, none⟩)) v).run P w = .ok .skip { w with heap := w.heap.setIfInBounds b (.cells ((cs.take (o + 0)) ++ vs ++ cs.drop (o + 0 + vs.length)).toArray T' (0, 0)) } := by
    simp [oStore, Instr.storeAt, Instr.sureAddr, storeVar, run_size_of hi, hs, hc, hz, hr]
  rw [this]
  exact h.go v0 F _ (HoldsK.set (hw.mono fun _ => star_mono (fun _ a => a) fun _ => hp.to))

/-- One cell is stored. -/
theorem trk_store1 {T T' : TypeId} {b o : Nat} {cs : List Value} {v : Value} {z : Value} {by_ : Nat} {k : Value → SP} [i : Inf P T [z] by_] (hp : Pick (cells b T' cs) L L')
    (hv : one v = true) (hl : o < cs.length) (h : TriK P (k undef) (cells b T' (cs.set o v) :: L') Q) : TriK P (.op (oStore T (.pointer (some ⟨b, o, none⟩)) v) k) L Q := by
  have hc : v.cells = [v].toArray := by cases v <;> simp [one] at hv <;> rfl
  refine trk_store (zs := [z]) (by_ := by_) hp [v] hc rfl (by simp; omega) (by simpa using hv) ?_
  have : (cs.take o) ++ [v] ++ cs.drop (o + [v].length) = cs.set o v := by
    rw [List.set_eq_take_append_cons_drop, if_pos hl]
    simp
  rw [this]
  exact h

theorem trk_bind_done {t : Nat} {vs : List Value} {k : Nat → List Value → SP} (h : TriK P (k t vs) L Q) : TriK P (.bind (.done t vs) k) L Q := ⟨h.go⟩
theorem trk_bind_op {s : Sem Next} {k1 : Value → SP} {k : Nat → List Value → SP} (h : TriK P (.op s fun v => .bind (k1 v) k) L Q) : TriK P (.bind (.op s k1) k) L Q := ⟨h.go⟩
theorem trk_bind_rd {s : Sem Next} {k1 : Value → SP} {k : Nat → List Value → SP} (h : TriK P (.rd s fun v => .bind (k1 v) k) L Q) : TriK P (.bind (.rd s k1) k) L Q := ⟨h.go⟩
theorem trk_bind_chk {s : Sem Next} {v : Value} {p : SP} {k : Nat → List Value → SP} (h : TriK P (.chk s v (.bind p k)) L Q) : TriK P (.bind (.chk s v p) k) L Q := ⟨h.go⟩
theorem trk_bind_drew {p : SP} {k : Nat → List Value → SP} (h : TriK P (.drew (.bind p k)) L Q) : TriK P (.bind (.drew p) k) L Q := ⟨h.go⟩
theorem trk_bind_ite {v : Value} {a b : SP} {k : Nat → List Value → SP} (h : TriK P (.ite v (.bind a k) (.bind b k)) L Q) : TriK P (.bind (.ite v a b) k) L Q := ⟨h.go⟩
theorem trk_bind_both {a b : SP} {k : Nat → List Value → SP} (h : TriK P (.both (.bind a k) (.bind b k)) L Q) : TriK P (.bind (.both a b) k) L Q := ⟨h.go⟩
theorem trk_bind_bind {a : SP} {k1 k : Nat → List Value → SP} (h : TriK P (.bind a fun t vs => .bind (k1 t vs) k) L Q) : TriK P (.bind (.bind a k1) k) L Q := ⟨h.go⟩
theorem trk_fin {rs : List ResultVar} {vs us : List Value} (h : ResOk P L rs vs us) (hq : ∀ h, stars L h → Q 0 [tupleOf us] h) : TriK P (fin rs vs []) L Q := by
  refine trk_rd (v := tupleOf us) ⟨fun w hw => ?_⟩ (trk_done hq)
  simp [resS, h.run hw]
end
end Go.Fr

-- FrPure
namespace Go.Fr
open Go Go.RowKit
set_option linter.unusedSectionVars false
variable [Sig]

/-- A native for calls whose results are known from the arguments. -/
def Ev.natPure (f0 : FuncId) (model : List V → Option V) : Ev.Rec := fun f xs h => if f = f0 then (model xs).map fun v => [(v, h)] else none

theorem VR.sym_eq {ρ : Lay} {n : Nat} {u : Value} (h : VR ρ (.sym n) u) : u = Sig.val n := by cases h; rfl

section
variable {P : Program} {base : Nat} {w0 : World}

/-- A world that still has all that another has. -/
theorem WR.more {w w' : World} {ρ : Lay} {h : VH} (r : WR base w0 ρ h w) (lk : Like w w') (hh : ∀ (b : Nat) (o : Obj), w.heap[b]? = some o → w'.heap[b]? = some o) : WR base w0 ρ h w' := by
  have hs : w.heap.size ≤ w'.heap.size := by
    rcases Nat.eq_zero_or_pos w.heap.size with h0 | h0
    · omega
    · have h1 := hh (w.heap.size - 1) _ (Array.getElem?_eq_getElem (by omega))
      have := (Array.getElem?_eq_some_iff.1 h1).1
      omega
  refine ⟨r.below.trans ⟨lk.1, lk.2.1, lk.2.2, hs, fun k hk => ?_⟩, Nat.le_trans r.size hs, r.len, fun k o hk => ?_, r.inj⟩
  · have hlt : k < w.heap.size := Nat.lt_of_lt_of_le hk r.size
    rw [Array.getElem?_eq_getElem hlt]
    exact hh _ _ (Array.getElem?_eq_getElem hlt)
  · obtain ⟨b, n, x, h1, h2, h3, h4⟩ := r.obj k o hk
    exact ⟨b, n, x, h1, h2, hh _ _ h3, h4⟩

theorem natPure_ok {f0 : FuncId} {model : List V → Option V}
    (H : ∀ (ρ : Lay) as0 v as', model as0 = some v → VRs ρ as0 as' → CtrK P f0 as' [] fun u => fact (VR ρ v u)) : RecOk P base w0 (Ev.natPure f0 model) := by
  intro f as0 h l he ρ as' w hv r K hK
  unfold Ev.natPure at he
  split at he
  · rename_i hf
    subst hf
    rw [Option.map_eq_some_iff] at he
    obtain ⟨v, hm, rfl⟩ := he
    have c := H ρ as0 v as' hm hv
    rw [c.enters]
    have hc := c.calls w (fun p => ∀ (b : Nat) (o : Obj), w.heap[b]? = some o → p b = some o) w
      ⟨⟨rfl, rfl, rfl⟩, fun b => w.heap[b]?, ⟨fun b => w.heap[b]?, fun _ => none, fun _ => .inr rfl, by funext b; unfold plus; split <;> simp_all, fun _ _ h => h, trivial⟩, fun _ _ h => h⟩
    refine hc.mono fun e w' he => ?_
    obtain ⟨u, rfl, lk, p, hp, hw'⟩ := he
    obtain ⟨p1, p2, _, rfl, q1, q2⟩ := hp
    exact hK _ List.mem_cons_self ρ u w' (Ext.refl ρ) q2 (r.more lk fun b o hb => hw' b o (by unfold plus; rw [q1 b o hb]))
  · cases he
end
end Go.Fr
