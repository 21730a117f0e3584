/-
  This file proves: what the evaluator says of a lock's calls is so.
-/
import Derived.Test.YtbnaoejdpggekaaGreatFrCall
import Derived.Conc.MuLone
namespace Go.Fr
open Go Go.Conc.Locks

/-- A scalar cell turns from one value to another. -/
def Ev.turnCell (h : VH) (a b : Int) : List V → Option VH
  | [.ptr k o] => match Ev.cellsAt h k with
    | some (_, cs) => match nth cs o with
      | some (.raw (.int .i32 n)) => if n = a then Ev.putCells h k o [.raw (.int .i32 b)] else none
      | _ => none
    | none => none
  | _ => none

/-- Lock and Unlock. -/
def Ev.natLock (L : MuLink) : Ev.Rec := fun f xs h =>
  if f = L.lock then (Ev.turnCell h 0 1 xs).map fun h' => [(.raw (.tuple #[]), h')]
  else if f = L.unlock then (Ev.turnCell h 1 0 xs).map fun h' => [(.raw (.tuple #[]), h')]
  else none

def Ev.dfrLock (L : MuLink) : Ev.Rec := fun f xs h =>
  if f = L.unlock then (Ev.turnCell h 1 0 xs).map fun h' => [(.raw (.tuple #[]), h')] else none

section
variable {P : Program} {base : Nat} {w0 w : World} {ρ : Lay} {h : VH} {L : MuLink}

theorem Ev.turnCell_ok {a b : Int} {xs : List V} {xs' : List Value} {h' : VH} (r : WR base w0 ρ h w) (hx : VRs ρ xs xs') (he : Ev.turnCell h a b xs = some h') :
    ∃ p : Addr, xs' = [.pointer (some p)] ∧ w.cell? p = some (.int .i32 a) ∧ w.frozen? p = false ∧ WR base w0 ρ h' (w.setCell p (.int .i32 b)) := by
  unfold Ev.turnCell at he
  split at he
  · rename_i k o
    obtain ⟨x', _, rfl, hp, ht⟩ := hx.uncons
    rw [ht.unnil]
    cases hp with
    | @ptr _ _ bl n hk =>
    split at he
    · rename_i t cs hc
      split at he
      · rename_i n1 hn
        split at he
        · rename_i hna
          subst hna
          obtain ⟨b', n', us, ext, fr, h1, h2, h3, h4, h5, h6⟩ := r.cells hc
          rw [hk] at h1; cases h1
          rw [nth_eq] at hn
          obtain ⟨u', hu, hr⟩ := h4.get hn
          have := hr.raw_eq; subst this
          have hlt := (List.getElem?_eq_some_iff.1 hu).1
          have hcell : w.cell? ⟨bl, o, none⟩ = some (.int .i32 n1) := by
            rw [cell_fr h3, List.getElem?_append_left hlt]; exact hu
          have hfz := frozen_fr (o := o) h3 h6 (by simp; omega)
          obtain ⟨w1, h7, h8⟩ := Ev.put_ok (P := default) r hk (us := [.int .i32 b]) (.cons (.raw _) .nil) he
          refine ⟨_, rfl, hcell, hfz, ?_⟩
          have hst := run_store_fr (P := default) (o := o) (v := .int .i32 b) h3 h6 (by simp; omega) rfl
          rw [← setCell_fr h3] at hst
          have h7' : w1 = w.setCell ⟨bl, o, none⟩ (.int .i32 b) := by
            simp only [storeCells, Sem.run_bind, add_at, Nat.add_zero, hst, Result.andThen_ok, Sem.run_pure] at h7
            cases h7; rfl
          rw [← h7']; exact h8
        · cases he
      · cases he
    · cases he
  · cases he

theorem natLock_ok (H : MuLib P L) : RecOk P base w0 (Ev.natLock L) := by
  intro f as h l he ρ as' w hv r K hK
  unfold Ev.natLock at he
  split at he
  · rename_i hf; subst hf
    rw [Option.map_eq_some_iff] at he
    obtain ⟨h', h1, he⟩ := he
    cases he
    obtain ⟨p, rfl, hc, hz, r'⟩ := Ev.turnCell_ok r hv h1
    rw [run_callFunc_in H.f_lock (by kernel_rfl) (by kernel_rfl)]
    refine (MuLone.lock_free H p w hc hz).mono ?_
    rintro e w' ⟨rfl, rfl⟩
    exact hK _ List.mem_cons_self ρ _ _ (Ext.refl ρ) (.raw _) r'
  · split at he
    · rename_i hf; subst hf
      rw [Option.map_eq_some_iff] at he
      obtain ⟨h', h1, he⟩ := he
      cases he
      obtain ⟨p, rfl, hc, hz, r'⟩ := Ev.turnCell_ok r hv h1
      rw [run_callFunc_in H.f_unlock (by kernel_rfl) (by kernel_rfl)]
      refine (MuLone.unlock_held H p w hc hz).mono ?_
      rintro e w' ⟨rfl, rfl⟩
      exact hK _ List.mem_cons_self ρ _ _ (Ext.refl ρ) (.raw _) r'
    · cases he

theorem dfrLock_ok (H : MuLib P L) : DfrOk P base w0 (Ev.dfrLock L) := by
  intro f as h l he ρ as' w hv r
  unfold Ev.dfrLock at he
  split at he
  · rename_i hf; subst hf
    rw [Option.map_eq_some_iff] at he
    obtain ⟨h', h1, he⟩ := he
    cases he
    obtain ⟨p, rfl, hc, hz, r'⟩ := Ev.turnCell_ok r hv h1
    refine ⟨run_callFunc_in H.f_unlock (by kernel_rfl) (by kernel_rfl) _ _, (MuLone.unlock_deferred H p .returning w hc hz).mono ?_⟩
    rintro e u' w' ⟨rfl, rfl, rfl⟩
    exact ⟨⟨_, rfl⟩, rfl, _, List.mem_cons_self, ρ, Ext.refl ρ, r'⟩
  · cases he
end
end Go.Fr
