/-
  This file proves: small laws that a walk over a tree takes.
-/
import Derived.Test.YtbnaoejdpggekaaGreatFrRules
namespace Go.Fr
open Go
section
variable {P : Program} {L L' M : List HP} {Q : Nat → List Value → HP}

theorem stars_some : ∀ (M : List HP) {L' : List HP} {h : Part}, stars (M ++ L') h → stars M h := by
  intro M
  induction M with
  | nil => intro L' h _; trivial
  | cons A M ih => intro L' h x; exact star_mono (fun _ a => a) (fun _ => ih) x

/-- Some of what there is. -/
theorem Picks.some (p : Picks M L L') {h : Part} (x : stars L h) : stars M h := stars_some M (p.to x)

theorem stars_fact {φ : Prop} (hφ : φ) {h : Part} (x : stars L h) : stars (Fr.fact φ :: L) h :=
  ⟨fun _ => none, h, fun _ => .inl rfl, by funext b; rfl, hφ, x⟩

-- ------------------------------------------------------------ a bind, gone into

theorem tri_bind_done {t : Nat} {vs : List Value} {k : Nat → List Value → SP} (h : Tri P (k t vs) L Q) : Tri P (.bind (.done t vs) k) L Q := ⟨h.go⟩
theorem tri_bind_op {s : Sem Next} {k1 : Value → SP} {k : Nat → List Value → SP} (h : Tri P (.op s fun v => .bind (k1 v) k) L Q) : Tri P (.bind (.op s k1) k) L Q := ⟨h.go⟩
theorem tri_bind_rd {s : Sem Next} {k1 : Value → SP} {k : Nat → List Value → SP} (h : Tri P (.rd s fun v => .bind (k1 v) k) L Q) : Tri P (.bind (.rd s k1) k) L Q := ⟨h.go⟩
theorem tri_bind_chk {s : Sem Next} {v : Value} {p : SP} {k : Nat → List Value → SP} (h : Tri P (.chk s v (.bind p k)) L Q) : Tri P (.bind (.chk s v p) k) L Q := ⟨h.go⟩
theorem tri_bind_drew {p : SP} {k : Nat → List Value → SP} (h : Tri P (.drew (.bind p k)) L Q) : Tri P (.bind (.drew p) k) L Q := ⟨h.go⟩
theorem tri_bind_ite {v : Value} {a b : SP} {k : Nat → List Value → SP} (h : Tri P (.ite v (.bind a k) (.bind b k)) L Q) : Tri P (.bind (.ite v a b) k) L Q := ⟨h.go⟩
theorem tri_bind_both {a b : SP} {k : Nat → List Value → SP} (h : Tri P (.both (.bind a k) (.bind b k)) L Q) : Tri P (.bind (.both a b) k) L Q := ⟨h.go⟩
theorem tri_bind_bind {a : SP} {k1 k : Nat → List Value → SP} (h : Tri P (.bind a fun t vs => .bind (k1 t vs) k) L Q) : Tri P (.bind (.bind a k1) k) L Q := ⟨h.go⟩

-- ------------------------------------------------------------ results

inductive ResOk (P : Program) (L : List HP) : List ResultVar → List Value → List Value → Prop
  | nil : ResOk P L [] [] []
  | tmp {t : Tmp} {v : Value} {rs : List ResultVar} {vs us : List Value} (h : ResOk P L rs vs us) : ResOk P L (.tmp t :: rs) (v :: vs) (v :: us)
  | cell {a : Tmp} {T : TypeId} {v u : Value} {rs : List ResultVar} {vs us : List Value} (hl : Reads P L (oLoad T v) u) (hv : ∃ x, v = .pointer (some x)) (h : ResOk P L rs vs us) :
    ResOk P L (.cell a T :: rs) (v :: vs) (u :: us)

theorem ResOk.run {rs : List ResultVar} {vs us : List Value} (h : ResOk P L rs vs us) {w : World} (hw : Holds (stars L) w) : (resAll rs vs).run P w = .ok us w := by
  induction h with
  | nil => simp [resAll]
  | tmp h ih => simp [resAll, resOne, ih]
  | @cell a T v u rs vs us hl hv h ih =>
    obtain ⟨x, rfl⟩ := hv
    have := hl.at_ w hw
    simp only [oLoad, Instr.loadAt, Instr.sureAddr, Sem.run_bind, Sem.run_pure, Result.andThen_ok] at this
    simp only [resAll, resOne, asAddr, Sem.run_bind, Sem.run_pure, Result.andThen_ok]
    cases hx : (loadVar T x).run P w with
    | ok y w1 =>
      simp only [hx, Result.andThen_ok, Result.ok.injEq, Next.value.injEq] at this
      obtain ⟨rfl, rfl⟩ := this
      simp [ih]
    | halt y w1 => simp [hx] at this

theorem tri_fin {rs : List ResultVar} {vs us : List Value} (h : ResOk P L rs vs us) (hq : ∀ h, stars L h → Q 0 [tupleOf us] h) : Tri P (fin rs vs []) L Q := by
  refine tri_rd (v := tupleOf us) ⟨fun w hw => ?_⟩ (tri_done hq)
  simp [resS, h.run hw]
end
end Go.Fr
