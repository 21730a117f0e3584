/-
  This file proves: a tree that only looks turns nothing.
-/
import Derived.Test.YtbnaoejdpggekaaGreatFrSorted
import Derived.Deep.Draws
namespace Go.Fr
open Go

/-- Trees that only look. -/
inductive QuietSP : SP → Prop
  | done (t : Nat) (vs : List Value) : QuietSP (.done t vs)
  | rd {s : Sem Next} {k : Value → SP} (h : ∀ v, QuietSP (k v)) : QuietSP (.rd s k)
  | chk {s : Sem Next} {v : Value} {k : SP} (h : QuietSP k) : QuietSP (.chk s v k)
  | drew {p : SP} (h : QuietSP p) : QuietSP (.drew p)

theorem QuietSP.run {P : Program} {E : List PanicEntry → World → Prop} {p : SP} (q : QuietSP p) : ∀ {w : World} {R : Nat → List Value → World → Prop}, Run P E p w R →
    Run P E p w fun t vs w' => R t vs w' ∧ ∃ n, w' = w.drewN n := by
  induction q with
  | done t vs => intro w R h; exact ⟨h, 0, rfl⟩
  | rd _ ih => intro w R h; obtain ⟨v, hv, h⟩ := h; exact ⟨v, hv, ih v h⟩
  | chk _ ih => intro w R h; obtain ⟨hv, h⟩ := h; exact ⟨hv, ih h⟩
  | drew _ ih =>
    intro w R h
    refine Run.mono (fun _ _ h => h) _ ?_ (ih (w := { w with drawn := w.drawn + 1 }) h)
    rintro t vs w' ⟨h, n, rfl⟩
    exact ⟨h, n + 1, by simp [World.drewN, Nat.add_assoc, Nat.add_comm 1]⟩

def T.quiet : T → Bool
  | .rd _ k => k.quiet
  | .chk _ _ k => k.quiet
  | .drew p => p.quiet
  | .fin _ _ => true
  | _ => false

theorem T.quiet_sp : ∀ {t : T} {g : Nat} {e : List (List Value)}, t.quiet = true → QuietSP (t.sp g e []) := by
  intro t
  induction t with
  | rd d k ih => intro g e h; exact .rd fun v => ih h
  | chk d x k ih => intro g e h; exact .chk (ih h)
  | drew p ih => intro g e h; exact .drew (ih h)
  | fin rs xs => intro g e _; exact .rd fun v => .done _ _
  | _ => intro g e h; cases h

/-- A call of a function that only looks. -/
theorem calls_quiet {P : Program} (hm : P.follows .mixedOrders = true) {base : Nat} {w0 w : World} {ρ : Lay} {h : VH} {f : FuncId} {fn : Func} {A : Ann} {t : T} {n fuel : Nat} {as : List V} {as' : List Value} {u : Value} {h' : VH}
    (hf : P.funcs[f]? = some fn) (hden : ∀ args : List Value, args.length = n → denF fn A args = t.sp 0 (rows args) []) (hq : t.quiet = true) (hn : as.length = n)
    (hev : (Ev.ev P (fun _ _ _ => none) (fun _ _ _ => none) fuel t 0 (as.map fun a => [a]) [] h) = some [⟨0, [.raw u], h'⟩]) (hv : VRs ρ as as') (r : WR base w0 ρ h w) :
    Calls P f as'.toArray w fun e w' => e = .returned u ∧ ∃ q, w' = w.drewN q := by
  have hrun := ev_ok (P := P) (base := base) (w0 := w0) (rec := fun _ _ _ => none) (recD := fun _ _ _ => none) opn_ok next_ok (fun _ _ _ _ he => by cases he) (fun _ _ _ _ he => by cases he) t hev (rows_rel hv) (Al.nil (R := DR ρ)) r
  have hrun2 := (T.quiet_sp (g := 0) (e := rows as') hq).run hrun
  rw [← hden as' (by rw [← hv.1, hn])] at hrun2
  refine (calls_of_den (P := P) hm (f := f) (A := A) (args := as') (w := w) (R := fun v w' => v = u ∧ ∃ q, w' = w.drewN q) hf (Run.mono (fun _ _ h => h) _ (fun t vs w' hp => ?_) hrun2)).mono ?_
  · obtain ⟨⟨o, ho, _, ρ', _, h2, _⟩, h3⟩ := hp
    rw [List.mem_singleton] at ho
    subst ho
    obtain ⟨v, _, rfl, hv1, _⟩ := h2.uncons
    exact ⟨hv1.raw_eq, h3⟩
  · rintro e w' ⟨v, rfl, rfl, h3⟩
    exact ⟨rfl, h3⟩
end Go.Fr
