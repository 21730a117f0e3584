/-
  This file proves: loads and stores of rows of cells, whatever stands behind them.
-/
import Derived.Test.YtbnaoejdpggekaaGreatFrEv
namespace Go.Fr
open Go
section
variable {P : Program} {w : World} {b o : Nat} {T : TypeId} {cs : List Value} {fr : Nat × Nat}

theorem cell_fr (h : w.heap[b]? = some (.cells cs.toArray T fr)) : w.cell? ⟨b, o, none⟩ = cs[o]? := by
  simp [World.cell?, h]

theorem run_loadCellsFrom_fr (h : w.heap[b]? = some (.cells cs.toArray T fr)) : ∀ (n i : Nat) (acc : Array Value), o + i + n ≤ cs.length →
    (loadCellsFrom ⟨b, o, none⟩ i n acc).run P w = .ok (acc ++ ((cs.drop (o + i)).take n).toArray) w := by
  intro n
  induction n with
  | zero => intro i acc _; simp [loadCellsFrom]
  | succ n ih =>
    intro i acc hl
    have hlt : o + i < cs.length := by omega
    have hc : w.cell? ((⟨b, o, none⟩ : Addr).add i) = some cs[o + i] := by
      rw [add_at, cell_fr h, List.getElem?_eq_getElem hlt]
    simp only [loadCellsFrom, Sem.run_bind, run_load_of hc, Result.andThen_ok]
    rw [ih (i + 1) _ (by omega)]
    congr 1
    rw [List.drop_eq_getElem_cons hlt, List.take_succ_cons, show o + (i + 1) = o + i + 1 by omega]
    simp

theorem run_loadCells_fr {n : Nat} (h : w.heap[b]? = some (.cells cs.toArray T fr)) (hl : o + n ≤ cs.length) :
    (loadCells ⟨b, o, none⟩ n).run P w = .ok ((cs.drop o).take n).toArray w := by
  unfold loadCells
  rw [run_loadCellsFrom_fr h n 0 #[] (by omega)]
  simp

theorem frozen_fr (h : w.heap[b]? = some (.cells cs.toArray T fr)) (hf : fr = (0, 0) ∨ cs.length ≤ fr.1) (ho : o < cs.length) : w.frozen? ⟨b, o, none⟩ = false := by
  obtain ⟨lo, hi⟩ := fr
  simp only [World.frozen?, h]
  rcases hf with hf | hf
  · cases hf; simp
  · simp only [Bool.and_eq_false_iff, decide_eq_false_iff_not]
    left; simp at hf ⊢; omega

theorem setCell_fr {v : Value} (h : w.heap[b]? = some (.cells cs.toArray T fr)) :
    w.setCell ⟨b, o, none⟩ v = { w with heap := w.heap.setIfInBounds b (.cells (cs.set o v).toArray T fr) } := by
  unfold World.setCell
  congr 1
  apply Array.ext_getElem?
  intro i
  simp only [Array.getElem?_modify, Array.getElem?_setIfInBounds]
  by_cases hi : b = i
  · subst hi
    obtain ⟨hlt, hg⟩ := Array.getElem?_eq_some_iff.1 h
    simp [hlt, hg]
  · simp [hi]

theorem run_store_fr {v : Value} (h : w.heap[b]? = some (.cells cs.toArray T fr)) (hf : fr = (0, 0) ∨ cs.length ≤ fr.1) (ho : o < cs.length) (hv : one v = true) :
    (store ⟨b, o, none⟩ v).run P w = .ok () { w with heap := w.heap.setIfInBounds b (.cells (cs.set o v).toArray T fr) } := by
  have hc : w.cell? ⟨b, o, none⟩ = some cs[o] := by rw [cell_fr h, List.getElem?_eq_getElem ho]
  rw [← setCell_fr h]
  cases v <;> simp [one] at hv <;> simp [store, Sem.run, hc, frozen_fr h hf ho]

theorem set_set {b : Nat} {x y : Obj} {a : Array Obj} : (a.setIfInBounds b x).setIfInBounds b y = a.setIfInBounds b y := by
  apply Array.ext_getElem?
  intro j
  simp only [Array.getElem?_setIfInBounds, Array.size_setIfInBounds]
  split <;> rfl

theorem set_same {b : Nat} {x : Obj} {a : Array Obj} (h : a[b]? = some x) : a.setIfInBounds b x = a := by
  apply Array.ext_getElem?
  intro j
  simp only [Array.getElem?_setIfInBounds]
  split
  · rename_i hj; subst hj
    split
    · exact h.symm
    · rename_i hn; have := (Array.getElem?_eq_some_iff.1 h).1; exact absurd this hn
  · rfl

theorem run_storeCells_fr (hf : fr = (0, 0) ∨ cs.length ≤ fr.1) : ∀ (vs : List Value) (i : Nat) (ds : List Value) (w : World), ds.length = cs.length → w.heap[b]? = some (.cells ds.toArray T fr) →
    o + i + vs.length ≤ ds.length → (∀ v ∈ vs, one v = true) →
    (storeCells ⟨b, o, none⟩ vs i).run P w = .ok () { w with heap := w.heap.setIfInBounds b (.cells ((ds.take (o + i)) ++ vs ++ ds.drop (o + i + vs.length)).toArray T fr) } := by
  intro vs
  induction vs with
  | nil =>
    intro i ds w hd h hl _
    have : (ds.take (o + i)) ++ [] ++ ds.drop (o + i + 0) = ds := by simp
    simp only [List.length_nil, storeCells, Sem.run_pure]
    rw [this, set_same h]
  | cons v vs ih =>
    intro i ds w hd h hl hv
    simp only [List.length_cons] at hl
    have h1 := run_store_fr (P := P) (o := o + i) (v := v) h (by rw [hd]; exact hf) (by omega) (hv v List.mem_cons_self)
    have hlt := (Array.getElem?_eq_some_iff.1 h).1
    have h2 : ({ w with heap := w.heap.setIfInBounds b (.cells (ds.set (o + i) v).toArray T fr) } : World).heap[b]? = some (.cells (ds.set (o + i) v).toArray T fr) := by simp [hlt]
    have hr := ih (i + 1) (ds.set (o + i) v) _ (by simpa using hd) h2 (by simp; omega) fun u hu => hv u (List.mem_cons_of_mem _ hu)
    simp only [storeCells, Sem.run_bind, add_at, h1, Result.andThen_ok, hr]
    have e : ((ds.set (o + i) v).take (o + (i + 1))) ++ vs ++ (ds.set (o + i) v).drop (o + (i + 1) + vs.length) = (ds.take (o + i)) ++ (v :: vs) ++ ds.drop (o + i + (v :: vs).length) := by
      have e1 : (ds.set (o + i) v).take (o + (i + 1)) = ds.take (o + i) ++ [v] := by
        rw [show o + (i + 1) = o + i + 1 by omega, List.take_succ_eq_append_getElem (by simp; omega)]
        simp [List.take_set_of_le]
      have e2 : (ds.set (o + i) v).drop (o + (i + 1) + vs.length) = ds.drop (o + i + (v :: vs).length) := by
        rw [List.drop_set_of_lt (by omega)]
        congr 1
        simp; omega
      rw [e1, e2]
      simp
    rw [e, set_set]

-- ------------------------------------------------------------ types

theorem mkTI_some {t : TypeId} {x : TI} (h : mkTI P t = some x) : P.underlying t = some x.d ∧ ∃ i, P.info? t = some i ∧ i.size = x.size ∧ i.bytes = x.bytes ∧ i.zero = some x.z ∧ x.z.cells.size = x.size := by
  unfold mkTI at h
  split at h
  · rename_i d i hu hi
    split at h
    · rename_i z hz
      split at h
      · rename_i hs
        cases h
        exact ⟨hu, i, hi, rfl, rfl, hz, hs⟩
      · cases h
    · cases h
  · cases h

theorem run_und_ti {t : TypeId} {x : TI} (h : mkTI P t = some x) : (underlying t).run P w = .ok x.d w := run_underlying_of (mkTI_some h).1
theorem run_size_ti {t : TypeId} {x : TI} (h : mkTI P t = some x) : (sizeOf t).run P w = .ok x.size w := by
  obtain ⟨_, i, hi, hs, _⟩ := mkTI_some h
  rw [run_size_of hi, hs]
theorem run_zero_ti {t : TypeId} {x : TI} (h : mkTI P t = some x) : (zeroValue t).run P w = .ok x.z w := by
  obtain ⟨_, i, hi, _, _, hz, _⟩ := mkTI_some h
  simp [zeroValue, run_info_of hi, hz]
theorem run_isAgg_ti {t : TypeId} {x : TI} (h : mkTI P t = some x) : (isAgg t).run P w = .ok (isAg x.d) w := by
  have hu := (mkTI_some h).1
  cases hd : x.d <;> simp [isAgg, run_underlying_of hu, hd, isAg]
theorem zs_len {t : TypeId} {x : TI} (h : mkTI P t = some x) : x.zs.length = x.size := by
  obtain ⟨_, i, hi, _, _, _, hs⟩ := mkTI_some h
  simpa [TI.zs] using hs

-- ------------------------------------------------------------ splices

theorem spl_eq {α : Type} (n : List α) : ∀ (cs : List α) (o : Nat), o + n.length ≤ cs.length → spl cs o n = cs.take o ++ n ++ cs.drop (o + n.length) := by
  have zero : ∀ (n cs : List α), n.length ≤ cs.length → spl cs 0 n = n ++ cs.drop n.length := by
    intro n
    induction n with
    | nil => intro cs _; cases cs <;> simp [spl]
    | cons x n ih =>
      intro cs h
      cases cs with
      | nil => simp at h
      | cons c cs => simp [spl, ih cs (by simpa using h)]
  intro cs
  induction cs with
  | nil =>
    intro o h
    have : n = [] := by cases n with | nil => rfl | cons => simp at h
    subst this; simp [spl]
  | cons c cs ih =>
    intro o h
    cases o with
    | zero => rw [zero n _ (by simpa using h)]; simp
    | succ o =>
      simp only [spl, List.take_succ_cons, List.cons_append]
      rw [ih o (by simp at h; omega)]
      simp [Nat.add_right_comm o 1]

theorem VR.one {ρ : Lay} {v : V} {u : Value} (h : VR ρ v u) (hv : V.one v = true) : Fr.one u = true := by
  cases h with
  | raw => cases u <;> simp_all [V.one, Fr.one]
  | ptr => rfl
  | sl => rfl
  | map => rfl
  | fn => rfl
  | ifc => rfl
  | agg => simp [V.one] at hv
  | tup => simp [V.one] at hv

theorem VRs.ones {ρ : Lay} {vs : List V} {us : List Value} (h : VRs ρ vs us) (hv : vs.all V.one = true) : ∀ u ∈ us, Fr.one u = true := by
  intro u hu
  obtain ⟨i, hi, rfl⟩ := List.getElem_of_mem hu
  have hi' : i < vs.length := by have := h.1; omega
  have := h.2 i vs[i] us[i] (List.getElem?_eq_getElem hi') (List.getElem?_eq_getElem hi)
  exact this.one ((List.all_eq_true.1 hv) _ (List.getElem_mem hi'))

-- ------------------------------------------------------------ cells of a memory

section
variable {base : Nat} {w0 : World} {ρ : Lay} {h : VH}

theorem cellsAt_some {k : Nat} {t : TypeId} {cs : List V} (hc : Ev.cellsAt h k = some (t, cs)) : h.get k = some (.cells t cs) := by
  unfold Ev.cellsAt at hc
  split at hc
  · rename_i t' cs' hg
    cases hc; exact hg
  · cases hc

theorem WR.cells (r : WR base w0 ρ h w) {k : Nat} {t : TypeId} {cs : List V} (hc : Ev.cellsAt h k = some (t, cs)) :
    ∃ b n us ext fr, ρ[k]? = some (b, n) ∧ base ≤ b ∧ w.heap[b]? = some (.cells (us ++ ext).toArray t fr) ∧ VRs ρ cs us ∧ (us ++ ext).length = n ∧ (fr = (0, 0) ∨ (us ++ ext).length ≤ fr.1) := by
  obtain ⟨b, n, x, h1, h2, h3, h4⟩ := r.obj k _ (cellsAt_some hc)
  cases h4 with
  | cells ha hn hf => exact ⟨b, n, _, _, _, h1, h2, h3, ha, hn, by rw [hn]; exact hf⟩

theorem Ev.load_ok {t : TypeId} {v u : V} {v' : Value} (r : WR base w0 ρ h w) (hv : VR ρ v v') (he : Ev.load P h t v = some u) :
    ∃ u', (Instr.loadAt t v').run P w = .ok u' w ∧ VR ρ u u' := by
  unfold Ev.load at he
  split at he
  · rename_i k o
    cases hv with
    | @ptr _ _ b' n' hk =>
    split at he
    · rename_i _ cs ti hc ht
      obtain ⟨b, n, us, ext, fr, h1, h2, h3, h4, h5, h6⟩ := r.cells hc
      rw [h1] at hk; cases hk
      have hlen := h4.1
      simp only [List.length_append] at h5
      simp only [Instr.loadAt, Instr.sureAddr, loadVar, Sem.run_bind, Sem.run_pure, Result.andThen_ok, run_isAgg_ti ht]
      by_cases ha : isAg ti.d = true
      · simp only [ha, if_true] at he ⊢
        split at he
        · rename_i hle
          cases he
          refine ⟨.agg (((us ++ ext).drop o).take ti.size).toArray, ?_, ?_⟩
          · simp only [Sem.run_bind, run_size_ti ht, Result.andThen_ok, run_loadCells_fr h3 (show o + ti.size ≤ (us ++ ext).length by simp; omega), Sem.run_pure]
          · have e : ((us ++ ext).drop o).take ti.size = (us.drop o).take ti.size := by
              rw [List.drop_append_of_le_length (by omega), List.take_append_of_le_length (by simp; omega)]
            rw [e]
            have := (h4.drop o).take ti.size
            exact .agg this.1 this.2
        · cases he
      · simp only [ha] at he ⊢
        rw [nth_eq] at he
        obtain ⟨u', hu, hr⟩ := h4.get he
        refine ⟨u', ?_, hr⟩
        have : w.cell? ⟨b', o, none⟩ = some u' := by
          rw [cell_fr h3, List.getElem?_append_left (List.getElem?_eq_some_iff.1 hu).1]; exact hu
        simp [run_load_of this]
    · cases he
  · cases he

/-- Cells are stored. -/
theorem Ev.put_ok {k o b n : Nat} {vs : List V} {us : List Value} {h' : VH} (r : WR base w0 ρ h w) (hk : ρ[k]? = some (b, n)) (hv : VRs ρ vs us) (he : Ev.putCells h k o vs = some h') :
    ∃ w', (storeCells ⟨b, o, none⟩ us).run P w = .ok () w' ∧ WR base w0 ρ h' w' := by
  unfold Ev.putCells at he
  split at he
  · rename_i t cs hc
    split at he
    · rename_i hle
      cases he
      obtain ⟨hle, hone⟩ := hle
      obtain ⟨b', n', ds, ext, fr, h1, h2, h3, h4, h5, h6⟩ := r.cells hc
      rw [hk] at h1; cases h1
      have hlen := h4.1
      have hvl := hv.1
      refine ⟨_, run_storeCells_fr (P := P) (o := o) (cs := ds ++ ext) h6 us 0 (ds ++ ext) w rfl h3 (by simp; omega) (hv.ones hone), ?_⟩
      refine r.put (cellsAt_some hc) hk ?_ rfl
      have e : (ds ++ ext).take (o + 0) ++ us ++ (ds ++ ext).drop (o + 0 + us.length) = (ds.take o ++ us ++ ds.drop (o + us.length)) ++ ext := by
        rw [List.take_append_of_le_length (by omega), List.drop_append_of_le_length (by omega)]
        simp
      rw [e, spl_eq vs cs o hle]
      refine .cells (((h4.take o).app hv).app (by rw [hvl]; exact h4.drop _)) ?_ ?_
      · rw [← e]; simp at h5 ⊢; omega
      · rw [← h5]; exact h6
    · cases he
  · cases he

theorem Ev.store_ok {t : TypeId} {a v : V} {a' v' : Value} {h' : VH} (r : WR base w0 ρ h w) (ha : VR ρ a a') (hv : VR ρ v v') (he : Ev.store P h t a v = some h') :
    ∃ w', (Instr.storeAt t a' v').run P w = .ok () w' ∧ WR base w0 ρ h' w' := by
  unfold Ev.store at he
  split at he
  · rename_i k o ti ht
    cases ha with
    | ptr hk =>
    split at he
    · rename_i hs
      have hc := hv.cells
      obtain ⟨w', hr, hw⟩ := Ev.put_ok (P := P) r hk hc he
      refine ⟨w', ?_, hw⟩
      have : v'.cells.size = ti.size := by rw [← hs, hc.1]; simp
      simp [Instr.storeAt, Instr.sureAddr, storeVar, run_size_ti ht, this, hr]
    · cases he
  · cases he

/-- A new row of cells. -/
theorem Ev.new_ok {t : TypeId} {cs : List V} {us ext : List Value} {fr : Nat × Nat} (r : WR base w0 ρ h w) (hc : VRs ρ cs us) (hf : fr = (0, 0) ∨ (us ++ ext).length ≤ fr.1) :
    ∃ ρ', Ext ρ ρ' ∧ ρ'[h.next]? = some (w.heap.size, (us ++ ext).length) ∧ WR base w0 ρ' (h.new (.cells t cs)) { w with heap := w.heap.push (.cells (us ++ ext).toArray t fr) } := by
  obtain ⟨h1, h2, h3⟩ := r.new (n := (us ++ ext).length) (OR.cells (t := t) (ext := ext) (fr := fr) hc rfl hf) rfl
  exact ⟨_, h2, h3, h1⟩
end
end
end Go.Fr
