/-
  This file proves: what the evaluator says of wholes, kinds and lengths is so; and so of each operation that only looks.
-/
import Derived.Test.YtbnaoejdpggekaaGreatFrOpW
namespace Go.Fr
open Go
section
variable {P : Program} {w : World} {base : Nat} {w0 : World} {ρ : Lay} {h : VH}

theorem fold_spl (off : Nat) : ∀ (l : List Value) (k : Nat) (cs : List Value), off + k + l.length ≤ cs.length →
    (l.zipIdx k).foldl (fun (a : Array Value) (x : Value × Nat) => a.setIfInBounds (off + x.2) x.1) cs.toArray = (cs.take (off + k) ++ l ++ cs.drop (off + k + l.length)).toArray := by
  intro l
  induction l with
  | nil => intro k cs _; simp
  | cons v l ih =>
    intro k cs h
    simp only [List.length_cons] at h
    simp only [List.zipIdx_cons, List.foldl_cons, List.setIfInBounds_toArray]
    rw [ih (k + 1) (cs.set (off + k) v) (by simp; omega)]
    congr 1
    have e1 : (cs.set (off + k) v).take (off + (k + 1)) = cs.take (off + k) ++ [v] := by
      rw [show off + (k + 1) = off + k + 1 by omega, List.take_succ_eq_append_getElem (by simp; omega)]
      simp [List.take_set_of_le]
    have e2 : (cs.set (off + k) v).drop (off + (k + 1) + l.length) = cs.drop (off + k + (v :: l).length) := by
      rw [List.drop_set_of_lt (by omega)]
      congr 1
      simp; omega
    rw [e1, e2]
    simp

theorem Ev.fill_ok {place place' : Nat → Option (Nat × Nat)} {size : Nat} : ∀ {ps : List (Nat × V)} {ps' : List (Nat × Value)} {cs rs : List V} {us : List Value},
    Al (fun (a : Nat × V) (b : Nat × Value) => a.1 = b.1 ∧ VR ρ a.2 b.2) ps ps' → (∀ i x, place i = some x → place' i = some x) → VRs ρ cs us → cs.length = size →
    Ev.fillAll size place cs ps = some rs → ∃ vs, Instr.fill place' us.toArray ps' = some vs.toArray ∧ VRs ρ rs vs ∧ rs.length = size := by
  intro ps
  induction ps with
  | nil => intro ps' cs rs us hp hpl hc hn he; cases he; rw [hp.unnil]; exact ⟨us, rfl, hc, hn⟩
  | cons p ps ih =>
    intro ps' cs rs us hp hpl hc hn he
    obtain ⟨p', ps', rfl, hpp, hrest⟩ := hp.uncons
    obtain ⟨i, v⟩ := p
    obtain ⟨i', v'⟩ := p'
    obtain ⟨rfl, hv⟩ := hpp
    unfold Ev.fillAll at he
    split at he
    · rename_i off n hpi
      split at he
      · rename_i hq
        obtain ⟨q1, q2⟩ := hq
        have hvc := hv.cells
        have hvl := hvc.1
        simp only [Array.length_toList] at hvl
        have hcl := hc.1
        have hfit : off + v'.cells.toList.length ≤ us.length := by simp; omega
        have hsp := spl_eq v.cells cs off (by omega)
        have hnew : VRs ρ (spl cs off v.cells) (us.take off ++ v'.cells.toList ++ us.drop (off + v'.cells.toList.length)) := by
          rw [hsp]
          exact ((hc.take off).app hvc).app (by rw [hvc.1]; exact hc.drop _)
        obtain ⟨vs, h1, h2, h3⟩ := ih hrest hpl hnew (by rw [hsp]; simp; omega) he
        refine ⟨vs, ?_, h2, h3⟩
        unfold Instr.fill
        rw [hpl _ _ hpi]
        have c1 : v'.cells.size = n := by omega
        have c2 : ¬ (us.toArray.size < off + v'.cells.size) := by simp; omega
        simp only [c1, ne_eq, not_true_eq_false, decide_false, Bool.false_or, decide_eq_true_eq]
        rw [if_neg (by simp; omega)]
        have hf := fold_spl off v'.cells.toList 0 us (by simp; omega)
        simp only [Nat.add_zero] at hf
        rw [← h1]
        congr 1
        rw [← hf, ← Array.foldl_toList]
        simp
      · cases he
    · cases he

theorem run_plc : ∀ {fs : List Field} {l : List (Nat × Nat)}, Ev.plc P fs = some l → (fs.mapM (m := Sem) fun f => do pure (f.offset, ← sizeOf f.type)).run P w = .ok l w := by
  intro fs
  induction fs with
  | nil => intro l he; cases he; simp
  | cons f fs ih =>
    intro l he
    unfold Ev.plc at he
    split at he
    · rename_i x l' hx hl
      cases he
      simp only [List.mapM_cons, Sem.run_bind, run_size_ti hx, Result.andThen_ok, Sem.run_pure, ih hl]
    · cases he

theorem Ev.build_ok {t : TypeId} {ps : List (Nat × V)} {ps' : List (Nat × Value)} {u : V} (hp : Al (fun (a : Nat × V) (b : Nat × Value) => a.1 = b.1 ∧ VR ρ a.2 b.2) ps ps') (he : Ev.build P t ps = some u) :
    ∃ u', (oBuild t ps').run P w = .ok (.value u') w ∧ VR ρ u u' := by
  unfold Ev.build at he
  split at he
  · rename_i ti ht
    have hu := (mkTI_some ht).1
    have hzl := zs_len ht
    have hz : VRs ρ (ti.zs.map .raw) ti.zs := raws_rel _
    have hza : ti.zs.toArray = ti.z.cells := by simp [TI.zs]
    split at he
    · rename_i fs hd
      split at he
      · rename_i l hl
        cases hf : Ev.fillAll ti.size (nth l) (ti.zs.map .raw) ps with
        | none => simp [hf] at he
        | some rs =>
          simp [hf] at he; subst he
          obtain ⟨vs, h1, h2, _⟩ := Ev.fill_ok (place' := fun i => l.toArray[i]?) hp (fun i x hi => by rw [nth_eq] at hi; simpa using hi) hz (by simpa using hzl) hf
          refine ⟨.agg vs.toArray, ?_, .agg h2.1 h2.2⟩
          rw [hza] at h1
          have hm : (fs.mapM (m := Sem) fun f => do pure (f.offset, ← sizeOf f.type)).run P w = .ok l.toArray w := by
            have := run_plc (w := w) hl
            rw [← Array.toArray_toList (xs := fs), List.mapM_toArray]
            simp only [Sem.run_map, this, Result.andThen_ok]
          simp only [oBuild, Instr.build, Sem.run_bind, run_zero_ti ht, Result.andThen_ok, run_underlying_of hu, hd, hm, h1, Sem.run_pure]
      · cases he
    · rename_i n e hd
      split at he
      · rename_i ei hei
        cases hf : Ev.fillAll ti.size (fun i => some (i * ei.size, ei.size)) (ti.zs.map .raw) ps with
        | none => simp [hf] at he
        | some rs =>
          simp [hf] at he; subst he
          obtain ⟨vs, h1, h2, _⟩ := Ev.fill_ok (place' := fun i => some (i * ei.size, ei.size)) hp (fun i x hi => hi) hz (by simpa using hzl) hf
          refine ⟨.agg vs.toArray, ?_, .agg h2.1 h2.2⟩
          rw [hza] at h1
          simp only [oBuild, Instr.build, Sem.run_bind, run_zero_ti ht, Result.andThen_ok, run_underlying_of hu, hd, run_size_ti hei, h1, Sem.run_pure]
      · cases he
    · cases he
  · cases he

theorem Ev.assert_ok {x u : V} {x' : Value} {t a : TypeId} {ok : Bool} (hx : VR ρ x x') (he : Ev.assert P x a ok = some u) : ∃ u', (oAssert x' t a ok).run P w = .ok (.value u') w ∧ VR ρ u u' := by
  have pair : ∀ v v', VR ρ v v' → ∀ b, VR ρ (V.tup [v, .raw (.bool b)]) (Value.tuple #[v', .bool b]) := by
    intro v v' hv b
    have : Al (VR ρ) [v, .raw (.bool b)] [v', .bool b] := .cons hv (.cons (.raw _) .nil)
    exact .tup this.1 this.2
  unfold Ev.assert at he
  split at he
  · rename_i ti ht
    have hu := (mkTI_some ht).1
    have hud : ∀ w, (underlying a).run P w = .ok ti.d w := fun w => run_underlying_of hu
    split at he
    · cases he
    · rename_i hni
      have hni' : ∀ m, ti.d ≠ .interface m := hni
      split at he
      · cases hx
        split at he
        · rename_i hok; subst hok; cases he
          refine ⟨.tuple #[ti.z, .bool false], ?_, pair _ _ (.raw ti.z) false⟩
          generalize hd : ti.d = d at hud hni'
          cases d <;> simp_all [oAssert, Instr.typeAssert, run_zero_ti ht]
        · cases he
      · rename_i t' v
        cases hx with
        | @ifc _ _ u hv =>
        split at he
        · rename_i hta; subst hta
          cases he
          cases ok with
          | false =>
            refine ⟨u, ?_, hv⟩
            generalize hd : ti.d = d at hud hni'
            cases d <;> simp_all [oAssert, Instr.typeAssert]
          | true =>
            refine ⟨.tuple #[u, .bool true], ?_, pair _ _ hv true⟩
            generalize hd : ti.d = d at hud hni'
            cases d <;> simp_all [oAssert, Instr.typeAssert]
        · rename_i hta
          split at he
          · rename_i hok; subst hok; cases he
            refine ⟨.tuple #[ti.z, .bool false], ?_, pair _ _ (.raw ti.z) false⟩
            generalize hd : ti.d = d at hud hni'
            cases d <;> simp_all [oAssert, Instr.typeAssert, run_zero_ti ht]
          · cases he
      · cases he
  · cases he

theorem Ev.builtinq_ok {b : Builtin} {ts : List TypeId} {ty : TypeId} {cs : List Bool} {as : List V} {as' : List Value} {u : V} (r : WR base w0 ρ h w) (ha : VRs ρ as as')
    (he : Ev.builtinq P h b ts as = some u) : ∃ u', (oBuiltin b ts ty cs as').run P w = .ok (.value u') w ∧ VR ρ u u' := by
  unfold Ev.builtinq at he
  split at he
  · rename_i x
    obtain ⟨x', as', rfl, hx, hr⟩ := ha.uncons
    cases hr.unnil
    split at he
    · rename_i t _
      split at he
      · rename_i hu
        split at he
        · cases hx; cases he
          exact ⟨_, by simp [oBuiltin, Go.builtin, Builtin.len_, run_underlying_of hu, goInt], .raw _⟩
        · cases hx; cases he
          exact ⟨_, by simp [oBuiltin, Go.builtin, Builtin.len_, run_underlying_of hu, goInt], .raw _⟩
        · cases he
      · rename_i hu
        split at he
        · cases hx; cases he
          exact ⟨_, by simp [oBuiltin, Go.builtin, Builtin.len_, run_underlying_of hu, goInt], .raw _⟩
        · cases he
      · rename_i hu
        unfold Ev.mapSize at he
        cases hm : Ev.mapAt h x with
        | none => simp [hm] at he
        | some es =>
          simp [hm] at he; subst he
          rcases r.mapAt hx hm with ⟨rfl, rfl⟩ | ⟨b, us, clock, rfl, hb, hal⟩
          · exact ⟨_, by simp [oBuiltin, Go.builtin, Builtin.len_, run_underlying_of hu, goInt], .raw _⟩
          · have hl := hal.1
            refine ⟨_, ?_, .raw _⟩
            simp [oBuiltin, Go.builtin, Builtin.len_, run_underlying_of hu, goInt, run_getObj_map hb, hl]
      · cases he
    · cases he
  · obtain ⟨x', as', rfl, hx, hr⟩ := ha.uncons
    obtain ⟨y', as', rfl, hy, hr⟩ := hr.uncons
    cases hr.unnil
    cases hx; cases hy
    split at he
    · rename_i hk; subst hk; cases he
      exact ⟨_, by simp [oBuiltin, Go.builtin, Builtin.min_, Builtin.min2], .raw _⟩
    · cases he
  · obtain ⟨x', as', rfl, hx, hr⟩ := ha.uncons
    obtain ⟨y', as', rfl, hy, hr⟩ := hr.uncons
    cases hr.unnil
    cases hx; cases hy
    split at he
    · rename_i hk; subst hk; cases he
      exact ⟨_, by simp [oBuiltin, Go.builtin, Builtin.max_, Builtin.max2], .raw _⟩
    · cases he
  · cases he

theorem pevs_rel {e : List (List V)} {e' : List (List Value)} (hE : EnvR ρ e e') (ps : List (Nat × X)) :
    Al (fun (a : Nat × V) (b : Nat × Value) => a.1 = b.1 ∧ VR ρ a.2 b.2) (ps.map fun p => (p.1, p.2.ev e)) (pvals e' ps) :=
  ⟨by simp [pvals], fun i a b ha hb => by
    unfold pvals at hb
    rw [List.getElem?_map] at ha hb
    cases hl : ps[i]? with
    | none => simp [hl] at ha
    | some x => simp [hl] at ha hb; subst ha hb; exact ⟨rfl, X.ev_rel hE x.2⟩⟩

/-- An operation that only looks. -/
theorem Ev.opq_ok {d : D} {e : List (List V)} {e' : List (List Value)} {u : V} (r : WR base w0 ρ h w) (hE : EnvR ρ e e') (he : Ev.opq P d e h = some u) :
    ∃ u', (d.sem e').run P w = .ok (.value u') w ∧ VR ρ u u' := by
  have hx := fun x => X.ev_rel hE x
  cases d <;> simp only [Ev.opq] at he <;> try (cases he; done)
  case build t ps => exact Ev.build_ok (pevs_rel hE ps) he
  case load t a =>
    obtain ⟨u', h1, h2⟩ := Ev.load_ok (P := P) r (hx a) he
    exact ⟨u', by simp only [D.sem, oLoad, Sem.run_bind, h1, Result.andThen_ok, Sem.run_pure], h2⟩
  case nil x =>
    split at he
    · rename_i k o heq
      cases he
      have := hx x
      rw [heq] at this
      simp only [D.sem]
      generalize x.val e' = y at this ⊢
      cases this with
      | ptr hk => exact ⟨_, rfl, .ptr hk⟩
    · cases he
  case bin op t p q a b => exact Ev.bin_ok (hx a) (hx b) he
  case un op x => exact Ev.un_ok (hx x) he
  case conv s d x => exact Ev.convq_ok r (hx x) he
  case iface t x =>
    split at he
    · cases he
    · rename_i dd hni hu
      cases he
      refine ⟨_, ?_, .ifc (hx x)⟩
      cases dd <;> first | exact absurd rfl (hni _) | simp [D.sem, oIface, Instr.makeInterface, run_underlying_of hu]
    · cases he
  case func f a b =>
    cases he
    have h1 := evs_rel hE a
    have h2 := evs_rel hE b
    exact ⟨_, rfl, .fn h1.1 h1.2 h2.1 h2.2⟩
  case slice t x lo hi mx =>
    exact Ev.slice_ok r (hx x) (fun n hn => Ev.num_ok hE hn) (fun n hn => Ev.num_ok hE hn) (fun n hn => Ev.num_ok hE hn) he
  case fieldAt t x i => exact Ev.fieldAt_ok (hx x) he
  case field t x i => exact Ev.field_ok (hx x) he
  case indexAt t x i => exact Ev.indexAt_ok (hx x) (hx i) he
  case index t x i => exact Ev.index_ok (hx x) (hx i) he
  case lookup t x i ok => exact Ev.lookup_ok r (hx x) (hx i) he
  case assert x t a ok => exact Ev.assert_ok (hx x) he
  case extract x i => exact Ev.extract_ok (hx x) he
  case builtin b ts ty cs as => exact Ev.builtinq_ok r (evs_rel hE as) he
end
end Go.Fr
