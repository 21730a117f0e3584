/-
  This file proves: what the evaluator says of calls is so.
-/
import Derived.Test.YtbnaoejdpggekaaGreatFrApp4
namespace Go.Fr
open Go

/-- A call of a function, to a depth: by what is known of it, or by its tree. -/
def Ev.callN (P : Program) (tbl : FuncId → Option (Nat × T)) (nat natD : Ev.Rec) (fuel : Nat) : Nat → Ev.Rec
  | 0, _, _, _ => none
  | n + 1, f, as, h =>
    match nat f as h with
    | some r => some r
    | none =>
      match tbl f with
      | none => none
      | some (k, t) => if as.length = k then
          match Ev.ev P (Ev.callN P tbl nat natD fuel n) natD fuel t 0 (as.map fun a => [a]) [] h with
          | none => none
          | some l => some (l.map fun o => (o.vs.headD (.raw undef), o.h))
        else none

/-- The trees are the functions'. -/
def TblOk (P : Program) (tbl : FuncId → Option (Nat × T)) : Prop :=
  ∀ f n t, tbl f = some (n, t) → ∃ fn A, P.funcs[f]? = some fn ∧ (fn.name == "runtime.NumGoroutine") = false ∧ fn.body.isSome = true ∧
    ∀ args : List Value, args.length = n → denF fn A args = t.sp 0 (rows args) []

section
variable {P : Program} {base : Nat} {w0 : World}

theorem run_callFunc_in {f : FuncId} {fn : Func} (hf : P.funcs[f]? = some fn) (hname : (fn.name == "runtime.NumGoroutine") = false) (hb : fn.body.isSome = true) (args : Array Value) (w : World) :
    (callFunc f args).run P w = .ok (.enter f args) w := by
  have h1 : fn.name ≠ "runtime.NumGoroutine" := by simpa using hname
  cases hc : fn.body with
  | none => rw [hc] at hb; cases hb
  | some c => simp [callFunc, hf, h1, hc]

theorem rows_rel {ρ : Lay} {as : List V} {as' : List Value} (h : VRs ρ as as') : EnvR ρ (as.map fun a => [a]) (rows as') := by
  unfold rows
  exact Al.map h fun a b hab => .cons hab .nil

theorem callN_ok (hm : P.follows .mixedOrders = true) {tbl : FuncId → Option (Nat × T)} {nat natD : Ev.Rec} {fuel : Nat} (ht : TblOk P tbl) (hn : RecOk P base w0 nat) (hD : DfrOk P base w0 natD) :
    ∀ n, RecOk P base w0 (Ev.callN P tbl nat natD fuel n) := by
  intro n
  induction n with
  | zero => intro f as h l he; cases he
  | succ n ih =>
    intro f as h l he ρ as' w hv r K hK
    unfold Ev.callN at he
    split at he
    · rename_i l' hl'
      cases he
      exact hn _ _ _ _ hl' ρ as' w hv r K hK
    · split at he
      · cases he
      · rename_i k t htb
        split at he
        · rename_i hk
          split at he
          · cases he
          · rename_i l' hev
            cases he
            obtain ⟨fn, A, hf, hname, hb, hden⟩ := ht f k t htb
            rw [run_callFunc_in hf hname hb]
            have hrun := ev_ok (P := P) (base := base) (w0 := w0) opn_ok next_ok ih hD (fuel := fuel) t hev (rows_rel hv) (Al.nil (R := DR ρ)) r
            rw [← hden as' (by rw [← hv.1, hk])] at hrun
            have hc := calls_of_den (P := P) hm (f := f) (A := A) (args := as') (w := w) (R := K) hf (Run.mono (fun _ _ h => h) _ (fun t vs w' hp => by
              obtain ⟨o, ho, _, ρ', e1, h2, h3⟩ := hp
              exact hK _ (List.mem_map_of_mem ho) ρ' _ w' e1 (Al.headD h2 (.raw undef)) h3) hrun)
            exact hc.mono fun e w' he => by
              obtain ⟨v, rfl, hv⟩ := he
              exact hv
        · cases he
end
end Go.Fr
