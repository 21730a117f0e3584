/-
  This file proves: a call that the evaluator says answers true answers true, and leaves all that lay.
-/
import Derived.Test.YtbnaoejdpggekaaGreatFrSortedF
namespace Go.Fr
open Go Go.RowKit

def VH.none : VH := ⟨.nil, 0⟩

/-- One native or the other. -/
def Ev.orRec (a b : Ev.Rec) : Ev.Rec := fun f xs h => match a f xs h with
  | some r => some r
  | none => b f xs h

section
variable {P : Program} {base : Nat} {w0 : World}

theorem orRec_ok {a b : Ev.Rec} (ha : RecOk P base w0 a) (hb : RecOk P base w0 b) : RecOk P base w0 (Ev.orRec a b) := by
  intro f as h l he
  unfold Ev.orRec at he
  split at he
  · rename_i r hr; cases he; exact ha _ _ _ _ hr
  · exact hb _ _ _ _ he

theorem noRec_ok : RecOk P base w0 (fun _ _ _ => none) := fun _ _ _ _ he => by cases he

theorem WR.start (w : World) : WR w.heap.size w [] VH.none w := by
  refine ⟨Below.refl _ w, Nat.le_refl _, rfl, fun k o hk => ?_, fun k k' o o' b n n' hk => ?_⟩
  · simp [VH.get, VH.none, PT.get] at hk
  · simp [VH.get, VH.none, PT.get] at hk

/-- What the evaluator says of a whole run. -/
theorem calls_of_ev {rec : Ev.Rec} {f : FuncId} {fn : Func} {as : List V} {as' : List Value} (hf : P.funcs[f]? = some fn) (hname : (fn.name == "runtime.NumGoroutine") = false) (hb : fn.body.isSome = true) (w : World) (hr : RecOk P w.heap.size w rec) (hv : VRs [] as as')
    (he : (rec f as VH.none).map (List.map (·.1)) = some [.raw (.bool true)]) :
    Calls P f as'.toArray w fun e w' => e = .returned (.bool true) ∧ Below w.heap.size w w' := by
  rw [Option.map_eq_some_iff] at he
  obtain ⟨l, hl, he⟩ := he
  have h1 := hr f as VH.none l hl [] as' w hv (WR.start w) (fun v w' => v = .bool true ∧ Below w.heap.size w w') (fun r hrl ρ' u w' _ hu hw => by
    have : r.1 ∈ l.map (·.1) := List.mem_map_of_mem hrl
    rw [he, List.mem_singleton] at this
    rw [this] at hu
    exact ⟨hu.raw_eq, hw.below⟩)
  rw [run_callFunc_in hf hname hb] at h1
  refine Calls.mono h1 ?_
  intro e w' h
  cases e with
  | returned v => obtain ⟨rfl, h⟩ := h; exact ⟨rfl, h⟩
  | panicked => exact h.elim
  | outgrown => exact h.elim
end
end Go.Fr
