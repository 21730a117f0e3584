/-
  This file is a part of the proof that trees of operations tell what code does, and that an evaluator tells what trees do: this file proves: what the evaluator says of operations that only look is so; this file proves: what the evaluator says of places, parts and conversions is so; this file proves: what the evaluator says of slices, maps, conversions and wholes is so; this file proves: what the evaluator says of cut slices, looked up entries, wholes and kinds is so; this file proves: what the evaluator says of maps, kinds and wholes is so; and so of each operation that only looks; this file proves: what the evaluator says of wholes, kinds and lengths is so; and so of each operation that only looks.
-/
import Derived.Test.YtfonfgkjpndfaaaGreatDoorFrC
import Derived.Laws.StructEq
import Derived.Laws.BytesString

-- FrOpQ
namespace Go.Fr
open Go
set_option linter.unusedSectionVars false
variable [Sig]
section
variable {P : Program} {w : World} {base : Nat} {w0 : World} {ρ : Lay} {h : VH}

theorem noHolds (w : World) : Holds (stars []) w := ⟨fun _ => none, trivial, fun b o h => by cases h⟩

theorem Reads.now {s : Sem Next} {v : Value} (r : Reads P [] s v) : s.run P w = .ok (.value v) w := r.at_ w (noHolds w)

theorem run_bin_int {op : BinOp} {t : TypeId} {p q : Operand} {k k' : IntKind} {a b : Int} {v : Value} (hb : (binOp op t (.int k a) (.int k' b)).run P w = .ok v w) :
    (oBin op t p q (.int k a) (.int k' b)).run P w = .ok (.value v) w := by
  simp only [oBin, Sem.run_bind, eqGuard_int, Result.andThen_ok, hb, Sem.run_pure]

theorem Ev.intBin_ok {op : BinOp} {t : TypeId} {p q : Operand} {k k' : IntKind} {a b : Int} {v : Value} (he : Ev.intBin op k a k' b = some v) :
    (oBin op t p q (.int k a) (.int k' b)).run P w = .ok (.value v) w := by
  refine run_bin_int ?_
  cases op <;> simp only [Ev.intBin] at he
  case shl =>
    split at he
    · cases he
    · rename_i hb; cases he; simp [binOp, Op.shift, hb]
  case shr =>
    split at he
    · cases he
    · rename_i hb; cases he; simp [binOp, Op.shift, hb]
  all_goals
    split at he
    · cases he
    · rename_i hk
      have hk' : k = k' := Decidable.not_not.1 hk
      subst hk'
      first
        | (split at he
           · cases he
           · rename_i hb; cases he; simp [binOp, Op.intDiv, hb])
        | (cases he; simp [binOp, Op.intArith]; done)
        | (cases he; simp [binOp, Op.intBits]; done)
        | (cases he; simp [binOp, Op.intCmp]; done)
        | (cases he; done)
        | (cases he; by_cases hab : a = b <;> simp [binOp, Op.intCmp, hab])

theorem bytes_list (x : ByteArray) : x.toList = x.data.toList := ByteArray.toList_eq x

theorem Ev.strBin_ok {op : BinOp} {t : TypeId} {p q : Operand} {a b : ByteArray} {v : Value} (he : Ev.strBin op a b = some v) :
    (oBin op t p q (.string a) (.string b)).run P w = .ok (.value v) w := by
  have g : (eqGuard op t p q (.string a) (.string b)).run P w = .ok () w := by cases op <;> simp [eqGuard]
  simp only [oBin, Sem.run_bind, g, Result.andThen_ok]
  cases op <;> simp only [Ev.strBin] at he <;> try (cases he; done)
  case add =>
    split at he
    · rename_i hs
      cases he
      have h63 : ¬ (((a.size + b.size : Nat) : Int) > IntKind.i64.max) := by
        simp [IntKind.max, IntKind.bits, IntKind.signed]; omega
      have e : a ++ b = ⟨(a.data.toList ++ b.data.toList).toArray⟩ := by
        apply ByteArray.ext
        simp [ByteArray.data_append]
      simp only [binOp, Op.stringOp, h63, if_false, Sem.run_pure, Result.andThen_ok, e]
    · cases he
  case eql => cases he; simp [binOp, Op.stringOp, bytes_list]
  case neq => cases he; simp [binOp, Op.stringOp, bytes_list]

theorem Ev.rawEq_ok {t : TypeId} {dd : TypeDesc} {a b : V} {a' b' : Value} {r : Bool} {d : Nat} (hu : P.underlying t = some dd) (ha : VR ρ a a') (hb : VR ρ b b') (he : Ev.rawEq dd a b = some r) :
    (Op.equalIn (d + 1) t a' b').run P w = .ok r w := by
  unfold Ev.rawEq at he
  split at he
  · cases ha; cases hb
    split at he
    · rename_i hk; subst hk; cases he
      rename_i x y
      by_cases hxy : x = y <;> simp [Op.equalIn, run_underlying_of hu, hxy]
    · cases he
  · cases ha; cases hb; cases he; simp [Op.equalIn, run_underlying_of hu]
  · cases ha; cases hb; cases he; simp [Op.equalIn, run_underlying_of hu, beq_toListBytes, bytes_list]
  · cases ha; cases hb; cases he; simp [Op.equalIn, run_underlying_of hu]
  · cases ha; cases hb; cases he; simp [Op.equalIn, run_underlying_of hu]
  · cases ha; cases hb; cases he; simp [Op.equalIn, run_underlying_of hu]
  · cases ha; cases hb; cases he; simp [Op.equalIn, run_underlying_of hu]
  · cases ha; cases hb; cases he; simp [Op.equalIn, run_underlying_of hu]
  · cases ha; cases hb; cases he; simp [Op.equalIn, run_underlying_of hu]
  · cases ha; cases hb; cases he; simp [Op.equalIn, run_underlying_of hu]
  · cases ha; cases hb; cases he; simp [Op.equalIn, run_underlying_of hu]
  · cases ha; cases hb; cases he; simp [Op.equalIn, run_underlying_of hu]
  · cases ha; cases hb; cases he; simp [Op.equalIn, run_underlying_of hu]
  · cases ha; cases hb; cases he; simp [Op.equalIn, run_underlying_of hu]
  · cases ha; cases hb; cases he; simp [Op.equalIn, run_underlying_of hu]
  · cases ha; cases hb; cases he; simp [Op.equalIn, run_underlying_of hu]
  · cases ha; cases hb; cases he; simp [Op.equalIn, run_underlying_of hu]
  · cases he

theorem run_part_sc {t : TypeId} {ti : TI} {cs : List Value} {o : Nat} {u : Value} (ht : mkTI P t = some ti) (ha : isAg ti.d = false) (hu : cs[o]? = some u) :
    (part t cs.toArray o).run P w = .ok u w := by
  simp [part, run_isAgg_ti ht, ha, hu]

theorem Ev.fldsEq_ok {d : Nat} {xs ys : List V} {us vs : List Value} (hx : VRs ρ xs us) (hy : VRs ρ ys vs) : ∀ {fs : List Field} {r : Bool}, Ev.fldsEq P fs xs ys = some r →
    (Op.eqFields (d + 1) us.toArray vs.toArray fs).run P w = .ok r w := by
  intro fs
  induction fs with
  | nil => intro r he; cases he; simp [Op.eqFields]
  | cons f fs ih =>
    intro r he
    unfold Ev.fldsEq at he
    split at he
    · cases he
    · rename_i hn
      split at he
      · rename_i ti x y ht hxx hyy
        split at he
        · cases he
        · rename_i hag
          rw [nth_eq] at hxx hyy
          obtain ⟨u, hu, hr1⟩ := hx.get hxx
          obtain ⟨v, hv, hr2⟩ := hy.get hyy
          have hag' : isAg ti.d = false := by simpa using hag
          simp only [Op.eqFields, hn, ne_eq, not_false_eq_true, if_true, Sem.run_bind, run_part_sc ht hag' hu, run_part_sc ht hag' hv, Result.andThen_ok]
          split at he
          · rename_i hq
            rw [Ev.rawEq_ok (mkTI_some ht).1 hr1 hr2 hq]
            simp only [Result.andThen_ok, Bool.not_true, Bool.false_eq_true, if_false]
            exact ih he
          · rename_i hq
            rw [Ev.rawEq_ok (mkTI_some ht).1 hr1 hr2 he]
            cases r with
            | true => exact absurd he hq
            | false => simp
      · cases he

theorem isAgV_ok {v : V} {u : Value} (hv : VR ρ v u) (h1 : Ev.isAgV v = true) : ∃ us, u = .agg us.toArray ∧ VRs ρ v.cells us := by
  have hc := hv.cells
  cases hv with
  | raw => cases u <;> simp_all [Ev.isAgV, V.cells]; rename_i cs; exact ⟨cs.toList, by simp, raws_rel _⟩
  | agg hl h => exact ⟨_, rfl, by simpa [Value.cells] using hc⟩
  | _ => simp [Ev.isAgV] at h1

theorem equal_at {t : TypeId} {x y : Value} : Op.equal t x y = Op.equalIn (9999 + 1) t x y := rfl

theorem Ev.rawBin_ok {t : TypeId} {dd : TypeDesc} {p q : Operand} {a b : V} {a' b' : Value} {r : Bool} (hu : P.underlying t = some dd) (ha : VR ρ a a') (hb : VR ρ b b') (he : Ev.rawEq dd a b = some r) :
    (oBin .eql t p q a' b').run P w = .ok (.value (.bool r)) w ∧ (oBin .neq t p q a' b').run P w = .ok (.value (.bool !r)) w := by
  have key := fun d => Ev.rawEq_ok (d := d) (w := w) hu ha hb he
  unfold Ev.rawEq at he
  split at he
  · cases ha; cases hb
    split at he
    · rename_i hk; subst hk; cases he
      rename_i x y
      by_cases hxy : x = y <;> simp [oBin, eqGuard, binOp, Op.intCmp, hxy]
    · cases he
  · cases ha; cases hb; simp [oBin, eqGuard, binOp, equal_at, key]
  · cases ha; cases hb; cases he; simp [oBin, eqGuard, binOp, Op.stringOp, bytes_list]
  · cases ha; cases hb; simp [oBin, eqGuard, binOp, equal_at, key]
  · cases ha; cases hb; simp [oBin, eqGuard, binOp, equal_at, key]
  · cases ha; cases hb; simp [oBin, eqGuard, binOp, equal_at, key]
  · cases ha; cases hb; simp [oBin, eqGuard, binOp, equal_at, key]
  · cases ha; cases hb; simp [oBin, eqGuard, binOp, equal_at, key]
  · cases ha; cases hb; simp [oBin, eqGuard, binOp, equal_at, key]
  · cases ha; cases hb; simp [oBin, eqGuard, binOp, equal_at, key]
  · cases ha; cases hb; simp [oBin, eqGuard, binOp, equal_at, key]
  · cases ha; cases hb; simp [oBin, eqGuard, binOp, equal_at, key]
  · cases ha; cases hb; simp [oBin, eqGuard, binOp, equal_at, key]
  · cases ha; cases hb; simp [oBin, eqGuard, binOp, equal_at, key]
  · cases ha; cases hb; simp [oBin, eqGuard, binOp, equal_at, key]
  · cases ha; cases hb; simp [oBin, eqGuard, binOp, equal_at, key]
  · cases ha; cases hb; simp [oBin, eqGuard, binOp, equal_at, key]
  · cases he

theorem Ev.valEq_ok {t : TypeId} {p q : Operand} {a b : V} {a' b' : Value} {r : Bool} (ha : VR ρ a a') (hb : VR ρ b b') (he : Ev.valEq P t a b = some r) :
    (oBin .eql t p q a' b').run P w = .ok (.value (.bool r)) w ∧ (oBin .neq t p q a' b').run P w = .ok (.value (.bool !r)) w := by
  unfold Ev.valEq at he
  split at he
  · cases he
  · rename_i ti ht
    have hu := (mkTI_some ht).1
    split at he
    · rename_i fs hd
      split at he
      · rename_i hc
        obtain ⟨c1, c2, c3, c4⟩ := hc
        obtain ⟨us, rfl, hx⟩ := isAgV_ok ha c3
        obtain ⟨vs, rfl, hy⟩ := isAgV_ok hb c4
        have hfs : P.fieldsOf t = fs := by simp [Program.fieldsOf, hu, hd]
        have ht2 : P.underlying t = some (.struct (P.fieldsOf t)) := by rw [hfs, hu, hd]
        have e := run_equalIn_struct (P := P) w 9999 t us.toArray vs.toArray ht2 c1
        rw [hfs, Ev.fldsEq_ok (d := 9998) hx hy he] at e
        have g : ∀ op, (eqGuard op t p q (.agg us.toArray) (.agg vs.toArray)).run P w = .ok () w := fun op => run_eqGuard_agg w op t p q _ _ c2
        simp only [oBin, Sem.run_bind, g, Result.andThen_ok]
        have e1 : (Op.equal t (.agg us.toArray) (.agg vs.toArray)).run P w = .ok r w := e
        simp [binOp, e1]
      · cases he
    · exact Ev.rawBin_ok hu ha hb he

theorem Ev.bin_ok {op : BinOp} {t : TypeId} {p q : Operand} {a b v : V} {a' b' : Value} (ha : VR ρ a a') (hb : VR ρ b b') (he : Ev.bin P op t a b = some v) :
    ∃ u, (oBin op t p q a' b').run P w = .ok (.value u) w ∧ VR ρ v u := by
  unfold Ev.bin at he
  split at he
  · cases ha; cases hb
    cases hi : Ev.intBin op _ _ _ _ with
    | none => rw [hi] at he; cases he
    | some x => rw [hi] at he; cases he; exact ⟨x, Ev.intBin_ok hi, .raw _⟩
  · cases ha; cases hb
    cases hi : Ev.strBin op _ _ with
    | none => rw [hi] at he; cases he
    | some x => rw [hi] at he; cases he; exact ⟨x, Ev.strBin_ok hi, .raw _⟩
  · split at he
    · cases hi : Ev.valEq P t _ _ with
      | none => rw [hi] at he; cases he
      | some x => rw [hi] at he; cases he; exact ⟨_, (Ev.valEq_ok ha hb hi).1, .raw _⟩
    · cases hi : Ev.valEq P t _ _ with
      | none => rw [hi] at he; cases he
      | some x => rw [hi] at he; cases he; exact ⟨_, (Ev.valEq_ok ha hb hi).2, .raw _⟩
    · cases he

theorem Ev.un_ok {op : UnOp} {a v : V} {a' : Value} (ha : VR ρ a a') (he : Ev.un op a = some v) : ∃ u, (oUn op a').run P w = .ok (.value u) w ∧ VR ρ v u := by
  unfold Ev.un at he
  split at he
  · cases ha; cases he; exact ⟨_, by simp [oUn, Op.unary], .raw _⟩
  · cases ha; cases he; exact ⟨_, by simp [oUn, Op.unary, Op.intArith], .raw _⟩
  · cases he
end
end Go.Fr

-- FrOpR
namespace Go.Fr
open Go
set_option linter.unusedSectionVars false
variable [Sig]
section
variable {P : Program} {w : World} {base : Nat} {w0 : World} {ρ : Lay} {h : VH}

theorem Ev.fieldOf_some {t : TypeId} {i off : Nat} {ti : TI} (he : Ev.fieldOf P t i = some (off, ti)) :
    ∃ fs f, P.underlying t = some (.struct fs) ∧ fs[i]? = some f ∧ f.offset = off ∧ mkTI P f.type = some ti := by
  unfold Ev.fieldOf at he
  split at he
  · rename_i fs hu
    split at he
    · rename_i f hf
      cases hm : mkTI P f.type with
      | none => simp [hm] at he
      | some x => simp [hm] at he; exact ⟨fs, f, hu, hf, he.1, by rw [hm, he.2]⟩
    · cases he
  · cases he

theorem Ev.fieldAt_ok {t : TypeId} {i : Nat} {v u : V} {v' : Value} (hv : VR ρ v v') (he : Ev.fieldAt P t i v = some u) : ∃ u', (oFieldAt t v' i).run P w = .ok (.value u') w ∧ VR ρ u u' := by
  unfold Ev.fieldAt at he
  split at he
  · rename_i k o
    cases hv with
    | @ptr _ _ b n hk =>
    split at he
    · rename_i off ti hff
      split at he
      · cases he
      · rename_i hz
        cases he
        obtain ⟨fs, f, hu, hf, ho, hm⟩ := Ev.fieldOf_some hff
        refine ⟨.pointer (some ⟨b, o + off, none⟩), ?_, .ptr hk⟩
        simp [oFieldAt, Instr.fieldAt, run_underlying_of hu, hf, Instr.sureAddr, fieldPlace, run_size_ti hm, hz, add_at, ho]
    · cases he
  · cases he

theorem Ev.partOf_ok {t : TypeId} {ti : TI} {cs : List V} {us : List Value} {off : Nat} {u : V} (ht : mkTI P t = some ti) (hc : VRs ρ cs us) (he : Ev.partOf ti cs off = some u) :
    ∃ u', (part t us.toArray off).run P w = .ok u' w ∧ VR ρ u u' := by
  unfold Ev.partOf at he
  split at he
  · rename_i ha
    split at he
    · rename_i hl
      cases he
      refine ⟨.agg ((us.drop off).take ti.size).toArray, ?_, ?_⟩
      · simp only [part, Sem.run_bind, run_isAgg_ti ht, ha, Result.andThen_ok, if_true, run_size_ti ht, Sem.run_pure]
        congr 2
        apply Array.ext'
        simp [List.take_drop]
      · have := (hc.drop off).take ti.size
        exact .agg this.1 this.2
    · cases he
  · rename_i ha
    rw [nth_eq] at he
    obtain ⟨u', hu, hr⟩ := hc.get he
    exact ⟨u', run_part_sc ht (by simpa using ha) hu, hr⟩

theorem Ev.field_ok {t : TypeId} {i : Nat} {v u : V} {v' : Value} (hv : VR ρ v v') (he : Ev.field P t i v = some u) : ∃ u', (oField t v' i).run P w = .ok (.value u') w ∧ VR ρ u u' := by
  unfold Ev.field at he
  split at he
  · rename_i ha
    split at he
    · rename_i off ti hff
      obtain ⟨us, rfl, hc⟩ := isAgV_ok hv ha
      obtain ⟨fs, f, hu, hf, ho, hm⟩ := Ev.fieldOf_some hff
      obtain ⟨u', hr, hv'⟩ := Ev.partOf_ok (P := P) (w := w) hm hc he
      subst ho
      exact ⟨u', by simp [oField, Instr.field, run_underlying_of hu, hf, asAgg, hr], hv'⟩
    · cases he
  · cases he

theorem Ev.indexAt_ok {t : TypeId} {x i u : V} {x' i' : Value} (hx : VR ρ x x') (hi : VR ρ i i') (he : Ev.indexAt P t x i = some u) :
    ∃ u', (oIndexAt t x' i').run P w = .ok (.value u') w ∧ VR ρ u u' := by
  unfold Ev.indexAt at he
  split at he
  · rename_i e k o len ex lb es kk i hu
    cases hi
    cases hx with
    | @sl _ _ _ _ _ b n c _ hk hl hex hn hf hle =>
    split at he
    · rename_i ti ht
      split at he
      · rename_i hc
        obtain ⟨c1, c2, c3⟩ := hc
        cases he
        refine ⟨.pointer (some ⟨b, o + i.toNat * es, none⟩), ?_, .ptr hk⟩
        simp [oIndexAt, Instr.indexAt, asIntOf, run_underlying_of hu, c2, c3, run_size_ti ht, add_at, ← c1]
      · cases he
    · cases he
  · rename_i n e k o kk i hu
    cases hi
    cases hx with
    | @ptr _ _ b m hk =>
    split at he
    · rename_i ti ht
      split at he
      · rename_i hc
        obtain ⟨c2, c3⟩ := hc
        cases he
        refine ⟨.pointer (some ⟨b, o + i.toNat * ti.size, none⟩), ?_, .ptr hk⟩
        simp [oIndexAt, Instr.indexAt, asIntOf, run_underlying_of hu, Instr.sureAddr, c2, c3, run_size_ti ht, add_at]
      · cases he
    · cases he
  · cases he

theorem Ev.index_ok {t : TypeId} {x i u : V} {x' i' : Value} (hx : VR ρ x x') (hi : VR ρ i i') (he : Ev.index P t x i = some u) :
    ∃ u', (oIndex t x' i').run P w = .ok (.value u') w ∧ VR ρ u u' := by
  unfold Ev.index at he
  split at he
  · rename_i s kk i hu
    cases hi; cases hx
    split at he
    · rename_i h0
      split at he
      · rename_i b hb
        cases he
        rw [nth_eq] at hb
        have hs : s[i.toNat]? = some b := by
          have hlt := (List.getElem?_eq_some_iff.1 hb).1
          have hlt' : i.toNat < s.size := by simpa using hlt
          rw [getElem?_pos s i.toNat hlt']
          have := (List.getElem?_eq_some_iff.1 hb).2
          rw [← this]
          rfl
        refine ⟨_, ?_, .raw _⟩
        simp [oIndex, Instr.index, asIntOf, run_underlying_of hu, h0, hs]
      · cases he
    · cases he
  · rename_i n e x kk i hu
    cases hi
    split at he
    · rename_i ti ht
      split at he
      · rename_i hc
        obtain ⟨c1, c2, c3⟩ := hc
        obtain ⟨us, rfl, hc⟩ := isAgV_ok hx c1
        obtain ⟨u', hr, hv'⟩ := Ev.partOf_ok (P := P) (w := w) ht hc he
        exact ⟨u', by simp [oIndex, Instr.index, asIntOf, run_underlying_of hu, c2, c3, run_size_ti ht, hr], hv'⟩
      · cases he
    · cases he
  · cases he

theorem Ev.extract_ok {x u : V} {x' : Value} {i : Nat} (hx : VR ρ x x') (he : Ev.extract x i = some u) : ∃ u', (oExtract x' i).run P w = .ok (.value u') w ∧ VR ρ u u' := by
  unfold Ev.extract at he
  split at he
  · cases hx with
    | tup hl hs =>
    rw [nth_eq] at he
    obtain ⟨u', hu, hr⟩ := Al.get ⟨hl, hs⟩ he
    exact ⟨u', by simp [oExtract, Instr.extract, hu], hr⟩
  · cases hx
    rename_i vs
    cases hn : nth vs.toList i with
    | none => simp [hn] at he
    | some z =>
      simp [hn] at he; subst he
      rw [nth_eq] at hn
      have : vs[i]? = some z := by simpa using hn
      exact ⟨z, by simp [oExtract, Instr.extract, this], .raw _⟩
  · cases he

theorem Ev.sliceCells_ok {size : Nat} {x : V} {x' : Value} {cs : List V} (r : WR base w0 ρ h w) (hx : VR ρ x x') (he : Ev.sliceCells h size x = some cs) :
    (∃ n c, x' = .slice none n c ∧ cs = []) ∨ (∃ s : ByteArray, x' = .string s ∧ size = 1 ∧ cs = s.data.toList.map fun b => .raw (.int .u8 b.toNat)) ∨
    ∃ b o n c us, x' = .slice (some ⟨b, o, none⟩) n c ∧ (∃ (vs ext : List Value) (t : TypeId) (fr : Nat × Nat), w.heap[b]? = some (.cells (vs ++ ext).toArray t fr) ∧ o + n * size ≤ vs.length ∧ (vs.drop o).take (n * size) = us) ∧ VRs ρ cs us := by
  unfold Ev.sliceCells at he
  split at he
  · cases hx; cases he; exact .inl ⟨_, _, rfl, rfl⟩
  · cases hx
    split at he
    · rename_i h1; cases he; exact .inr (.inl ⟨_, rfl, h1, rfl⟩)
    · cases he
  · rename_i k o len ex lb es
    cases hx with
    | @sl _ _ _ _ _ b n c _ hk hl hex hn hf hle =>
    split at he
    · rename_i hes
      split at he
      · rename_i t cs0 hc
        split at he
        · rename_i hle
          cases he
          obtain ⟨b', n', us, ext, fr, h1, h2, h3, h4, h5, h6⟩ := r.cells hc
          rw [hk] at h1; cases h1
          refine .inr (.inr ⟨b, o, len, c, _, rfl, ⟨us, ext, t, fr, h3, ?_, rfl⟩, ?_⟩)
          · rw [← hes]; have := h4.1; omega
          · rw [← hes]; exact (h4.drop o).take _
        · cases he
      · cases he
    · cases he
  · cases he

theorem Ev.lenOf_ok {x : V} {x' : Value} {n : Nat} (hx : VR ρ x x') (he : Ev.lenOf x = some n) : (∃ a c, x' = .slice a n c) ∨ ∃ s : ByteArray, x' = .string s ∧ s.size = n := by
  unfold Ev.lenOf at he
  split at he
  · cases hx; cases he; exact .inl ⟨_, _, rfl⟩
  · cases hx; cases he; exact .inr ⟨_, rfl, rfl⟩
  · cases hx; cases he; exact .inl ⟨_, _, rfl⟩
  · cases he

end
end Go.Fr

-- FrOpS
namespace Go.Fr
open Go
set_option linter.unusedSectionVars false
variable [Sig]
section
variable {P : Program} {w : World} {base : Nat} {w0 : World} {ρ : Lay} {h : VH}

theorem foldl_push (ns : List Int) (s : ByteArray) : ns.foldl (fun r n => r.push (UInt8.ofNat n.toNat)) s = ⟨s.data ++ (ns.map fun n => UInt8.ofNat n.toNat).toArray⟩ := by
  induction ns generalizing s with
  | nil => simp
  | cons n ns ih =>
    rw [List.foldl_cons, ih]
    apply ByteArray.ext
    simp [ByteArray.push]

theorem Ev.bytesOf_ok {cs : List V} {us : List Value} {bs : List UInt8} (hc : VRs ρ cs us) (hb : Ev.bytesOf cs = some bs) : ∃ ns : List Int, us = ns.map (Value.int .u8) ∧ bs = ns.map fun n => UInt8.ofNat n.toNat := by
  induction cs generalizing us bs with
  | nil => rw [hc.unnil]; cases hb; exact ⟨[], rfl, rfl⟩
  | cons c cs ih =>
    obtain ⟨u, us, rfl, hr, hrest⟩ := hc.uncons
    unfold Ev.bytesOf at hb
    split at hb
    · cases hb; contradiction
    · rename_i n l heq
      cases heq
      cases hr
      cases hbs : Ev.bytesOf cs with
      | none => simp [hbs] at hb
      | some bs' =>
        simp [hbs] at hb; subst hb
        obtain ⟨ns, rfl, rfl⟩ := ih hrest hbs
        exact ⟨n :: ns, rfl, rfl⟩
    · cases hb

theorem Ev.convq_ok {s d : TypeId} {x u : V} {x' : Value} (r : WR base w0 ρ h w) (hx : VR ρ x x') (he : Ev.convq P h s d x = some u) : ∃ u', (oConv s d x').run P w = .ok (.value u') w ∧ VR ρ u u' := by
  unfold Ev.convq at he
  split at he
  · rename_i d1 k hs hd
    split at he
    · cases hx; cases he
      exact ⟨_, by simp [oConv, convert, run_underlying_of hs, run_underlying_of hd, Conv.intToInt], .raw _⟩
    · cases he
  · rename_i hs hd
    split at he
    · cases hx; cases he
      exact ⟨_, by simp [oConv, convert, run_underlying_of hs, run_underlying_of hd], .raw _⟩
    · cases he
  · rename_i e hs hd
    split at he
    · rename_i hu
      split at he
      · cases hx; cases he
        exact ⟨_, by simp [oConv, convert, run_underlying_of hs, run_underlying_of hd, run_underlying_of hu, Conv.bytesToString], .raw _⟩
      · split at he
        · rename_i bs hb
          cases he
          obtain ⟨cs, hcs, hbs⟩ := Option.bind_eq_some_iff.1 hb
          rcases Ev.sliceCells_ok r hx hcs with ⟨n, c, rfl, _⟩ | ⟨s, rfl, _⟩ | ⟨b, o, n, c, us, rfl, ⟨vs, ext, t, fr, hh, hle, hus⟩, hrel⟩
          · cases hx
          · cases hx
          · obtain ⟨ns, rfl, rfl⟩ := Ev.bytesOf_ok hrel hbs
            have hl : (loadCells ⟨b, o, none⟩ n).run P w = .ok (ns.map (Value.int .u8)).toArray w := by
              rw [run_loadCells_fr hh (by simp; omega)]
              rw [← hus, Nat.mul_one]
              congr 2
              rw [List.drop_append_of_le_length (by omega), List.take_append_of_le_length (by simp; omega)]
            refine ⟨_, ?_, .raw _⟩
            have := run_bytesToString (P := P) w ⟨b, o, none⟩ n c ns hl
            rw [foldl_push] at this
            simp [oConv, convert, run_underlying_of hs, run_underlying_of hd, run_underlying_of hu, this]
        · cases he
      · cases he
    · cases he
  · cases he

theorem Ev.opts_rel {e : List (List V)} {e' : List (List Value)} (hE : EnvR ρ e e') (x : Option X) :
    (Ev.opts e x = none ∧ oval e' x = none) ∨ ∃ v v', Ev.opts e x = some v ∧ oval e' x = some v' ∧ VR ρ v v' := by
  cases x with
  | none => exact .inl ⟨rfl, rfl⟩
  | some x => exact .inr ⟨_, _, rfl, rfl, X.ev_rel hE x⟩

/-- A bound, if it is there. -/
def Bd (x : Option Nat) (v : Option Value) : Prop := (x = none ∧ v = none) ∨ ∃ k i, v = some (.int k i) ∧ 0 ≤ i ∧ x = some i.toNat

theorem Ev.num_ok {e : List (List V)} {e' : List (List Value)} (hE : EnvR ρ e e') {x : Option X} {n : Option Nat} (he : Ev.num (Ev.opts e x) = some n) : Bd n (oval e' x) := by
  rcases Ev.opts_rel hE x with ⟨h1, h2⟩ | ⟨v, v', h1, h2, hr⟩
  · rw [h1] at he; cases he; exact .inl ⟨rfl, h2⟩
  · rw [h1] at he
    unfold Ev.num at he
    split at he
    · rename_i h; cases h
    · rename_i k i heq
      cases heq
      cases hr
      split at he
      · rename_i h0; cases he; exact .inr ⟨k, i, h2, h0, rfl⟩
      · cases he
    · cases he

theorem run_bound {x : Value} {k : IntKind} {i : Int} {y : Nat} {c : BoundsCode} (hx : x = .int k i) (h0 : 0 ≤ i) (h1 : i.toNat ≤ y) : (Instr.sliceBound x y c).run P w = .ok i.toNat w := by
  subst hx
  have : i ≤ y := by omega
  simp [Instr.sliceBound, asIntOf, h0, this]

theorem run_bounds {isSlice : Bool} {len cap : Nat} {lo hi mx : Option Nat} {lv hv mv : Option Value} (hl : Bd lo lv) (hh : Bd hi hv) (hm : Bd mx mv) (h1 : lo.getD 0 ≤ hi.getD len) (h2 : hi.isSome = true → hi.getD len ≤ mx.getD cap)
    (h3 : mx.getD cap ≤ cap) (h4 : mx.isSome = true → hi.isSome = true) : (Instr.sliceBounds isSlice len cap lv hv mv).run P w = .ok (lo.getD 0, hi.getD len, mx.getD cap) w := by
  unfold Instr.sliceBounds
  rcases hm with ⟨rfl, rfl⟩ | ⟨mk, mi, rfl, m0, rfl⟩
  · rcases hh with ⟨rfl, rfl⟩ | ⟨hk, hi', rfl, h0, rfl⟩
    · rcases hl with ⟨rfl, rfl⟩ | ⟨lk, li, rfl, l0, rfl⟩
      · simp
      · simp only [Option.getD_some, Option.getD_none] at h1
        simp [run_bound (P := P) (w := w) rfl l0 h1]
    · have h2 := h2 rfl
      simp only [Option.getD_some, Option.getD_none] at h2 h1
      rcases hl with ⟨rfl, rfl⟩ | ⟨lk, li, rfl, l0, rfl⟩
      · simp [run_bound (P := P) (w := w) (x := .int hk hi') rfl h0 h2]
      · simp only [Option.getD_some] at h1
        simp [run_bound (P := P) (w := w) (x := .int hk hi') rfl h0 h2, run_bound (P := P) (w := w) (x := .int lk li) rfl l0 h1]
  · rcases hh with ⟨rfl, rfl⟩ | ⟨hk, hi', rfl, h0, rfl⟩
    · simp at h4
    · have h2 := h2 rfl
      simp only [Option.getD_some] at h2 h3 h1
      rcases hl with ⟨rfl, rfl⟩ | ⟨lk, li, rfl, l0, rfl⟩
      · simp [run_bound (P := P) (w := w) (x := .int mk mi) rfl m0 h3, run_bound (P := P) (w := w) (x := .int hk hi') rfl h0 h2]
      · simp only [Option.getD_some] at h1
        simp [run_bound (P := P) (w := w) (x := .int mk mi) rfl m0 h3, run_bound (P := P) (w := w) (x := .int hk hi') rfl h0 h2, run_bound (P := P) (w := w) (x := .int lk li) rfl l0 h1]
end
end Go.Fr

-- FrOpU
namespace Go.Fr
open Go
set_option linter.unusedSectionVars false
variable [Sig]
section
variable {P : Program} {w : World} {base : Nat} {w0 : World} {ρ : Lay} {h : VH}

theorem add_zero_at (b o : Nat) : (⟨b, o, none⟩ : Addr).add 0 = ⟨b, o, none⟩ := rfl

theorem Ev.slice_ok {t : TypeId} {x u : V} {x' : Value} {lo hi mx : Option V} {lv hv mv : Option Value} (r : WR base w0 ρ h w) (hx : VR ρ x x')
    (hl : ∀ n, Ev.num lo = some n → Bd n lv) (hh : ∀ n, Ev.num hi = some n → Bd n hv) (hm : ∀ n, Ev.num mx = some n → Bd n mv)
    (he : Ev.slice P h t x lo hi mx = some u) : ∃ u', (oSlice t x' lv hv mv).run P w = .ok (.value u') w ∧ VR ρ u u' := by
  unfold Ev.slice at he
  split at he
  · rename_i lo hi mx e el eh em hu
    have hl := hl _ el
    have hh := hh _ eh
    have hm := hm _ em
    split at he
    · rename_i ti k o len ex lb es ht
      cases hx with
      | @sl _ _ _ _ _ b n c _ hk hlb hex hn hf hle =>
      split at he
      · cases he
      · rename_i hes
        have hes : es = ti.size := Decidable.not_not.1 hes
        simp only at he
        split at he
        · rename_i hc
          obtain ⟨c1, c2, c3, c4, c5⟩ := hc
          have hm' : mx.getD lb ≤ mx.getD c ∧ mx.getD c ≤ c ∧ (mx.isSome = true → mx.getD c = mx.getD lb) ∧ (mx.isSome = false → mx.getD c = c ∧ mx.getD lb = lb) := by
            cases mx with
            | none => simp; exact hlb
            | some m => simp at c3 ⊢; omega
          obtain ⟨m1, m2, m3, m4⟩ := hm'
          have hb := run_bounds (P := P) (w := w) (isSlice := true) (len := len) (cap := c) hl hh hm c1 (fun _ => by omega) m2 c4
          have run : ∀ z, (if mx.getD c = lo.getD 0 then (some ⟨b, o, none⟩ : Option Addr) else some ⟨b, o + lo.getD 0 * es, none⟩) = z →
              (oSlice t (.slice (some ⟨b, o, none⟩) len c) lv hv mv).run P w = .ok (.value (.slice z (hi.getD len - lo.getD 0) (mx.getD c - lo.getD 0))) w := by
            intro z hz
            rw [← hz]
            simp only [oSlice, Instr.sliceAt, Sem.run_bind, run_underlying_of hu, Result.andThen_ok, Instr.slice, hb, run_size_ti ht, Sem.run_pure, Option.map_some, add_at, ← hes]
          have exm : (mx.isSome || ex) = true → mx.getD c = mx.getD lb := by
            intro hq
            rcases Bool.or_eq_true_iff.1 hq with hq | hq
            · exact m3 hq
            · cases hms : mx.isSome with
              | true => exact m3 hms
              | false => obtain ⟨q1, q2⟩ := m4 hms; rw [q1, q2, hex hq]
          have exf : (mx.isSome || ex) = false → mx.getD c = c ∧ es ≠ 0 ∧ o + c * es = n := by
            intro hq
            obtain ⟨q1, q2⟩ := Bool.or_eq_false_iff.1 hq
            exact ⟨(m4 q1).1, hf q2⟩
          have mul : ∀ l m : Nat, l ≤ m → l * es + (m - l) * es = m * es := fun l m hlm => by rw [← Nat.add_mul]; congr 1; omega
          have cmul : mx.getD c * es ≤ c * es := Nat.mul_le_mul_right _ m2
          split at he
          · rename_i hlt
            cases he
            refine ⟨_, run _ (if_neg (by omega)), .sl hk (by omega) (fun hq => by rw [exm hq]) ?_ ?_ (by omega)⟩
            · have := mul (lo.getD 0) (mx.getD c) (by omega)
              omega
            · intro hq
              obtain ⟨q1, q2, q3⟩ := exf hq
              have := mul (lo.getD 0) (mx.getD c) (by omega)
              rw [q1] at this ⊢
              exact ⟨q2, by omega⟩
          · rename_i hlt
            split at he
            · rename_i hq
              cases he
              have := exm hq
              refine ⟨_, run _ (if_pos (by omega)), .sl hk (by omega) (fun _ => by omega) ?_ (fun hq' => by rw [hq] at hq'; cases hq') (by omega)⟩
              have e0 : mx.getD c - lo.getD 0 = 0 := by omega
              rw [e0]; omega
            · rename_i hq
              have hq : (mx.isSome || ex) = false := by simpa using hq
              split at he
              · rename_i hl0
                cases he
                obtain ⟨q1, q2, q3⟩ := exf hq
                refine ⟨_, run (some ⟨b, o, none⟩) (by rw [hl0]; simp), .sl hk (by omega) (fun hq' => by rw [hq] at hq'; cases hq') ?_ ?_ (by omega)⟩
                · rw [hl0, Nat.sub_zero]; omega
                · intro _; rw [hl0, Nat.sub_zero, q1]; exact ⟨q2, q3⟩
              · cases he
        · cases he
    · rename_i ti ht
      cases hx
      split at he
      · rename_i hc
        obtain ⟨c1, c2, rfl⟩ := hc
        cases he
        have hb := run_bounds (P := P) (w := w) (isSlice := true) (len := 0) (cap := 0) hl hh hm (by omega) (fun _ => by omega) (by simp) (by simp)
        refine ⟨.slice none 0 0, ?_, .raw _⟩
        simp only [oSlice, Instr.sliceAt, Sem.run_bind, run_underlying_of hu, Result.andThen_ok, Instr.slice, hb, run_size_ti ht, Sem.run_pure, c1, c2, Option.getD_none, if_true, Nat.sub_zero]
      · cases he
    · cases he
  · rename_i lo hi n e el eh em hu
    have hl := hl _ el
    have hh := hh _ eh
    have hm := hm _ em
    split at he
    · rename_i ti k o ht
      cases hx with
      | @ptr _ _ b m hk =>
      split at he
      · rename_i t0 cs hc
        simp only at he
        split at he
        · rename_i hq
          obtain ⟨c1, c2, c3⟩ := hq
          cases he
          obtain ⟨b', n', us, ext, fr, h1, h2, h3, h4, h5, h6⟩ := r.cells hc
          rw [hk] at h1; cases h1
          have hlen := h4.1
          simp only [List.length_append] at h5
          have hb := run_bounds (P := P) (w := w) (isSlice := false) (len := n) (cap := n) hl hh hm c1 (fun _ => by simpa using c2) (by simp) (by simp)
          have mul : lo.getD 0 * ti.size + (n - lo.getD 0) * ti.size = n * ti.size := by rw [← Nat.add_mul]; congr 1; omega
          refine ⟨.slice (some (if n = lo.getD 0 then ⟨b, o, none⟩ else ⟨b, o + lo.getD 0 * ti.size, none⟩)) (hi.getD n - lo.getD 0) (n - lo.getD 0), ?_, ?_⟩
          · simp only [oSlice, Instr.sliceAt, Sem.run_bind, run_underlying_of hu, Result.andThen_ok, Instr.sureAddr, hb, run_size_ti ht, Sem.run_pure, Option.getD_none, add_at]
          · split
            · rename_i hnl
              refine .sl hk (Nat.le_refl _) (fun _ => rfl) ?_ (fun hq => by cases hq) (by omega)
              have : n - lo.getD 0 = 0 := by omega
              rw [this]; omega
            · refine .sl hk (Nat.le_refl _) (fun _ => rfl) (by omega) (fun hq => by cases hq) (by omega)
        · cases he
      · cases he
    · cases he
  · rename_i lo hi el eh em hu
    have hl := hl _ el
    have hh := hh _ eh
    have hm := hm _ em
    split at he
    · rename_i s
      cases hx
      simp only at he
      split at he
      · rename_i hc
        obtain ⟨c1, c2⟩ := hc
        cases he
        have hb := run_bounds (P := P) (w := w) (isSlice := false) (len := s.size) (cap := s.size) hl hh (Or.inl ⟨rfl, rfl⟩ : Bd none none) c1 (fun _ => by simpa using c2) (by simp) (by simp)
        rcases hm with ⟨_, rfl⟩ | ⟨_, _, _, _, hbad⟩
        · refine ⟨_, ?_, .raw _⟩
          have e : s.extract (lo.getD 0) (hi.getD s.size) = ⟨((s.data.toList.drop (lo.getD 0)).take (hi.getD s.size - lo.getD 0)).toArray⟩ := by
            apply ByteArray.ext
            apply Array.ext'
            simp [ByteArray.data_extract, List.take_drop, Nat.add_sub_cancel' c1]
          simp only [oSlice, Instr.sliceAt, Sem.run_bind, run_underlying_of hu, Result.andThen_ok, Instr.slice, Option.isSome_none, Bool.false_eq_true, if_false, hb, Sem.run_pure, e]
        · cases hbad
      · cases he
    · cases he
  · cases he
end
end Go.Fr

-- FrOpW
namespace Go.Fr
open Go
set_option linter.unusedSectionVars false
variable [Sig]
section
variable {P : Program} {w : World} {base : Nat} {w0 : World} {ρ : Lay} {h : VH}

theorem run_checkKey {t : TypeId} {kd : TypeDesc} {v : Value} {b : Bool} (hu : P.underlying t = some kd) (hk : (match kd with | .int _ => true | .string => true | _ => false) = true) (n : Nat) :
    (Instr.checkKey b (n + 1) t v).run P w = .ok () w := by
  cases kd <;> simp at hk <;> simp [Instr.checkKey, run_underlying_of hu]

theorem Ev.keyOk_ok {t : TypeId} {v : V} {v' : Value} (hv : VR ρ v v') (he : Ev.keyOk P t v = true) : ∃ kd, P.underlying t = some kd ∧ (∀ b w, (Instr.checkKey b 10000 t v').run P w = .ok () w) ∧
    ((∃ kk k n, kd = .int kk ∧ v = .raw (.int k n) ∧ v' = .int k n) ∨ ∃ s, kd = .string ∧ v = .raw (.string s) ∧ v' = .string s) := by
  unfold Ev.keyOk at he
  split at he
  · cases hv
    split at he
    · rename_i kk hu
      refine ⟨_, hu, fun b w => ?_, .inl ⟨_, _, _, rfl, rfl, rfl⟩⟩
      exact run_checkKey hu rfl 9999
    · cases he
  · cases hv
    split at he
    · rename_i hu
      refine ⟨_, hu, fun b w => ?_, .inr ⟨_, rfl, rfl, rfl⟩⟩
      exact run_checkKey hu rfl 9999
    · cases he
  · cases he

theorem VR.raw_eq {v u : Value} (h : VR ρ (.raw v) u) : u = v := by cases h; rfl

theorem beq_bytes (a b : ByteArray) : (a == b) = (a.data.toList == b.data.toList) := by rw [beq_toListBytes, bytes_list, bytes_list]

theorem Ev.find_ok {k : V} {k' : Value} {kd : TypeDesc} (hk : (∃ kk j n, kd = .int kk ∧ k = .raw (.int j n) ∧ k' = .int j n) ∨ ∃ s, kd = .string ∧ k = .raw (.string s) ∧ k' = .string s) :
    ∀ {es : List (V × V × Nat)} {us : List MapEntry} {i : Nat} {r : Option (Nat × V)}, Al (ER ρ) es us → Ev.find k es i = some r →
      (r = none ∧ Instr.findNow kd k' us i = some none) ∨ ∃ j v v' u, r = some (j, v) ∧ Instr.findNow kd k' us i = some (some (j, v')) ∧ VR ρ v v' ∧ i ≤ j ∧ us[j - i]? = some u ∧ u.key = k' := by
  intro es
  induction es with
  | nil =>
    intro us i r hr he
    cases he
    rw [hr.unnil]
    exact .inl ⟨rfl, rfl⟩
  | cons x es ih =>
    intro us i r hr he
    obtain ⟨u, us, rfl, hx, hrest⟩ := hr.uncons
    obtain ⟨a, v, bn⟩ := x
    have hkey := hx.key
    unfold Ev.find at he
    have same : ∀ {b}, Ev.keyEq k a = some b → Instr.sameNow kd k' u.key = some b ∧ (b = true → u.key = k') := by
      intro b hb
      rcases hk with ⟨kk, j, n, rfl, rfl, rfl⟩ | ⟨s, rfl, rfl, rfl⟩
      · cases a with
        | raw va =>
          have hq : u.key = va := hkey.raw_eq
          rw [hq]
          cases va <;> simp only [Ev.keyEq] at hb <;> try (cases hb; done)
          rename_i k2 y
          split at hb
          · rename_i hkk; subst hkk; cases hb
            by_cases hxy : n = y
            · simp [Instr.sameNow, hxy]
            · simp [Instr.sameNow, hxy]
          · cases hb
        | _ => simp [Ev.keyEq] at hb
      · cases a with
        | raw va =>
          have hq : u.key = va := hkey.raw_eq
          rw [hq]
          cases va <;> simp only [Ev.keyEq] at hb <;> try (cases hb; done)
          rename_i y
          cases hb
          refine ⟨by simp [Instr.sameNow, beq_bytes], fun hq => ?_⟩
          have : s = y := by
            apply ByteArray.ext
            apply Array.ext'
            simpa using hq
          rw [this]
        | _ => simp [Ev.keyEq] at hb
    split at he
    · rename_i hs
      cases he
      obtain ⟨h1, h2⟩ := same hs
      exact .inr ⟨i, v, u.val, u, rfl, by simp [Instr.findNow, h1], hx.val, Nat.le_refl _, by simp, h2 rfl⟩
    · rename_i hs
      obtain ⟨h1, _⟩ := same hs
      rcases ih hrest he with ⟨rfl, h2⟩ | ⟨j, v1, v2, u2, rfl, h2, h3, h4, h5, h6⟩
      · exact .inl ⟨rfl, by simp [Instr.findNow, h1, h2]⟩
      · refine .inr ⟨j, v1, v2, u2, rfl, by simp [Instr.findNow, h1, h2], h3, by omega, ?_, h6⟩
        rw [show j - i = (j - (i + 1)) + 1 by omega]
        simpa using h5
    · cases he

theorem WR.mapAt (r : WR base w0 ρ h w) {x : V} {x' : Value} {es : List (V × V × Nat)} (hx : VR ρ x x') (he : Ev.mapAt h x = some es) :
    (x' = .map none ∧ es = []) ∨ ∃ b us clock, x' = .map (some b) ∧ w.heap[b]? = some (.map us.toArray clock) ∧ Al (ER ρ) es us := by
  unfold Ev.mapAt at he
  split at he
  · cases hx; cases he; exact .inl ⟨rfl, rfl⟩
  · rename_i k
    cases hx with
    | @map _ b n hk =>
    split at he
    · rename_i es' clock hg
      cases he
      obtain ⟨b', n', x, h1, h2, h3, h4⟩ := r.obj k _ hg
      rw [hk] at h1; cases h1
      cases h4 with
      | map hal => exact .inr ⟨b, _, _, rfl, h3, hal⟩
    · cases he
  · cases he

theorem run_getObj_map {b c : Nat} {us : Array MapEntry} (hb : w.heap[b]? = some (.map us c)) : (getObj b).run P w = .ok (.map us c) w := by simp [getObj, Sem.run, hb]

theorem Ev.lookup_ok {t : TypeId} {x i u : V} {x' i' : Value} {ok : Bool} (r : WR base w0 ρ h w) (hx : VR ρ x x') (hi : VR ρ i i') (he : Ev.lookup P h t x i ok = some u) :
    ∃ u', (oLookup t x' i' ok).run P w = .ok (.value u') w ∧ VR ρ u u' := by
  unfold Ev.lookup at he
  split at he
  · rename_i key elem hu
    split at he
    · rename_i es ti hm ht
      split at he
      · rename_i hko
        obtain ⟨kd, hkd, hck, hkk⟩ := Ev.keyOk_ok hi hko
        have tail : ∀ v v', VR ρ v v' → ∀ b, VR ρ (if ok = true then V.tup [v, .raw (.bool b)] else v) (if ok = true then Value.tuple #[v', .bool b] else v') := by
          intro v v' hv b
          cases ok with
          | false => exact hv
          | true =>
            have : Al (VR ρ) [v, .raw (.bool b)] [v', .bool b] := .cons hv (.cons (.raw _) .nil)
            exact .tup this.1 this.2
        rcases r.mapAt hx hm with ⟨rfl, rfl⟩ | ⟨b, us, clock, rfl, hb, hal⟩
        · simp only [Ev.find, Option.some.injEq] at he
          subst he
          exact ⟨_, by simp [oLookup, Instr.lookup, run_underlying_of hu, hck, Instr.findKey, run_underlying_of hkd, Instr.findNow, run_zero_ti ht], tail _ _ (.raw ti.z) false⟩
        · split at he
          · rename_i j v hf
            cases he
            rcases Ev.find_ok (ρ := ρ) hkk hal hf with ⟨hbad, _⟩ | ⟨j', v1, v2, u2, hj, hfn, hv, _⟩
            · cases hbad
            · cases hj
              exact ⟨_, by simp [oLookup, Instr.lookup, run_underlying_of hu, run_getObj_map hb, hck, Instr.findKey, run_underlying_of hkd, hfn], tail v v2 hv true⟩
          · rename_i hf
            cases he
            rcases Ev.find_ok (ρ := ρ) hkk hal hf with ⟨_, hfn⟩ | ⟨j', v1, v2, u2, hj, _⟩
            · exact ⟨_, by simp [oLookup, Instr.lookup, run_underlying_of hu, run_getObj_map hb, hck, Instr.findKey, run_underlying_of hkd, hfn, run_zero_ti ht], tail _ _ (.raw ti.z) false⟩
            · cases hj
          · cases he
      · cases he
    · cases he
  · cases he
end
end Go.Fr

-- FrOpX
namespace Go.Fr
open Go
set_option linter.unusedSectionVars false
variable [Sig]
section
variable {P : Program} {w : World} {base : Nat} {w0 : World} {ρ : Lay} {h : VH}

theorem fold_spl (off : Nat) : ∀ (l : List Value) (k : Nat) (cs : List Value), off + k + l.length ≤ cs.length →
    (l.zipIdx k).foldl (fun (a : Array Value) (x : Value × Nat) => a.setIfInBounds (off + x.2) x.1) cs.toArray = (cs.take (off + k) ++ l ++ cs.drop (off + k + l.length)).toArray := by
  intro l
  induction l with
  | nil => intro k cs _; simp
  | cons v l ih =>
    intro k cs h
    simp only [List.length_cons] at h
    simp only [List.zipIdx_cons, List.foldl_cons, List.setIfInBounds_toArray]
    rw [ih (k + 1) (cs.set (off + k) v) (by simp; omega)]
    congr 1
    have e1 : (cs.set (off + k) v).take (off + (k + 1)) = cs.take (off + k) ++ [v] := by
      rw [show off + (k + 1) = off + k + 1 by omega, List.take_succ_eq_append_getElem (by simp; omega)]
      simp [List.take_set_of_le]
    have e2 : (cs.set (off + k) v).drop (off + (k + 1) + l.length) = cs.drop (off + k + (v :: l).length) := by
      rw [List.drop_set_of_lt (by omega)]
      congr 1
      simp; omega
    rw [e1, e2]
    simp

theorem Ev.fill_ok {place place' : Nat → Option (Nat × Nat)} {size : Nat} : ∀ {ps : List (Nat × V)} {ps' : List (Nat × Value)} {cs rs : List V} {us : List Value},
    Al (fun (a : Nat × V) (b : Nat × Value) => a.1 = b.1 ∧ VR ρ a.2 b.2) ps ps' → (∀ i x, place i = some x → place' i = some x) → VRs ρ cs us → cs.length = size →
    Ev.fillAll size place cs ps = some rs → ∃ vs, Instr.fill place' us.toArray ps' = some vs.toArray ∧ VRs ρ rs vs ∧ rs.length = size := by
  intro ps
  induction ps with
  | nil => intro ps' cs rs us hp hpl hc hn he; cases he; rw [hp.unnil]; exact ⟨us, rfl, hc, hn⟩
  | cons p ps ih =>
    intro ps' cs rs us hp hpl hc hn he
    obtain ⟨p', ps', rfl, hpp, hrest⟩ := hp.uncons
    obtain ⟨i, v⟩ := p
    obtain ⟨i', v'⟩ := p'
    obtain ⟨rfl, hv⟩ := hpp
    unfold Ev.fillAll at he
    split at he
    · rename_i off n hpi
      split at he
      · rename_i hq
        obtain ⟨q1, q2⟩ := hq
        have hvc := hv.cells
        have hvl := hvc.1
        simp only [Array.length_toList] at hvl
        have hcl := hc.1
        have hfit : off + v'.cells.toList.length ≤ us.length := by simp; omega
        have hsp := spl_eq v.cells cs off (by omega)
        have hnew : VRs ρ (spl cs off v.cells) (us.take off ++ v'.cells.toList ++ us.drop (off + v'.cells.toList.length)) := by
          rw [hsp]
          exact ((hc.take off).app hvc).app (by rw [hvc.1]; exact hc.drop _)
        obtain ⟨vs, h1, h2, h3⟩ := ih hrest hpl hnew (by rw [hsp]; simp; omega) he
        refine ⟨vs, ?_, h2, h3⟩
        unfold Instr.fill
        rw [hpl _ _ hpi]
        have c1 : v'.cells.size = n := by omega
        have c2 : ¬ (us.toArray.size < off + v'.cells.size) := by simp; omega
        simp only [c1, ne_eq, not_true_eq_false, decide_false, Bool.false_or, decide_eq_true_eq]
        rw [if_neg (by simp; omega)]
        have hf := fold_spl off v'.cells.toList 0 us (by simp; omega)
        simp only [Nat.add_zero] at hf
        rw [← h1]
        congr 1
        rw [← hf, ← Array.foldl_toList]
        simp
      · cases he
    · cases he

theorem run_plc : ∀ {fs : List Field} {l : List (Nat × Nat)}, Ev.plc P fs = some l → (fs.mapM (m := Sem) fun f => do pure (f.offset, ← sizeOf f.type)).run P w = .ok l w := by
  intro fs
  induction fs with
  | nil => intro l he; cases he; simp
  | cons f fs ih =>
    intro l he
    unfold Ev.plc at he
    split at he
    · rename_i x l' hx hl
      cases he
      simp only [List.mapM_cons, Sem.run_bind, run_size_ti hx, Result.andThen_ok, Sem.run_pure, ih hl]
    · cases he

theorem Ev.build_ok {t : TypeId} {ps : List (Nat × V)} {ps' : List (Nat × Value)} {u : V} (hp : Al (fun (a : Nat × V) (b : Nat × Value) => a.1 = b.1 ∧ VR ρ a.2 b.2) ps ps') (he : Ev.build P t ps = some u) :
    ∃ u', (oBuild t ps').run P w = .ok (.value u') w ∧ VR ρ u u' := by
  unfold Ev.build at he
  split at he
  · rename_i ti ht
    have hu := (mkTI_some ht).1
    have hzl := zs_len ht
    have hz : VRs ρ (ti.zs.map .raw) ti.zs := raws_rel _
    have hza : ti.zs.toArray = ti.z.cells := by simp [TI.zs]
    split at he
    · rename_i fs hd
      split at he
      · rename_i l hl
        cases hf : Ev.fillAll ti.size (nth l) (ti.zs.map .raw) ps with
        | none => simp [hf] at he
        | some rs =>
          simp [hf] at he; subst he
          obtain ⟨vs, h1, h2, _⟩ := Ev.fill_ok (place' := fun i => l.toArray[i]?) hp (fun i x hi => by rw [nth_eq] at hi; simpa using hi) hz (by simpa using hzl) hf
          refine ⟨.agg vs.toArray, ?_, .agg h2.1 h2.2⟩
          rw [hza] at h1
          have hm : (fs.mapM (m := Sem) fun f => do pure (f.offset, ← sizeOf f.type)).run P w = .ok l.toArray w := by
            have := run_plc (w := w) hl
            rw [← Array.toArray_toList (xs := fs), List.mapM_toArray]
            simp only [Sem.run_map, this, Result.andThen_ok]
          simp only [oBuild, Instr.build, Sem.run_bind, run_zero_ti ht, Result.andThen_ok, run_underlying_of hu, hd, hm, h1, Sem.run_pure]
      · cases he
    · rename_i n e hd
      split at he
      · rename_i ei hei
        cases hf : Ev.fillAll ti.size (fun i => some (i * ei.size, ei.size)) (ti.zs.map .raw) ps with
        | none => simp [hf] at he
        | some rs =>
          simp [hf] at he; subst he
          obtain ⟨vs, h1, h2, _⟩ := Ev.fill_ok (place' := fun i => some (i * ei.size, ei.size)) hp (fun i x hi => hi) hz (by simpa using hzl) hf
          refine ⟨.agg vs.toArray, ?_, .agg h2.1 h2.2⟩
          rw [hza] at h1
          simp only [oBuild, Instr.build, Sem.run_bind, run_zero_ti ht, Result.andThen_ok, run_underlying_of hu, hd, run_size_ti hei, h1, Sem.run_pure]
      · cases he
    · cases he
  · cases he

theorem Ev.assert_ok {x u : V} {x' : Value} {t a : TypeId} {ok : Bool} (hx : VR ρ x x') (he : Ev.assert P x a ok = some u) : ∃ u', (oAssert x' t a ok).run P w = .ok (.value u') w ∧ VR ρ u u' := by
  have pair : ∀ v v', VR ρ v v' → ∀ b, VR ρ (V.tup [v, .raw (.bool b)]) (Value.tuple #[v', .bool b]) := by
    intro v v' hv b
    have : Al (VR ρ) [v, .raw (.bool b)] [v', .bool b] := .cons hv (.cons (.raw _) .nil)
    exact .tup this.1 this.2
  unfold Ev.assert at he
  split at he
  · rename_i ti ht
    have hu := (mkTI_some ht).1
    have hud : ∀ w, (underlying a).run P w = .ok ti.d w := fun w => run_underlying_of hu
    split at he
    · cases he
    · rename_i hni
      have hni' : ∀ m, ti.d ≠ .interface m := hni
      split at he
      · cases hx
        split at he
        · rename_i hok; subst hok; cases he
          refine ⟨.tuple #[ti.z, .bool false], ?_, pair _ _ (.raw ti.z) false⟩
          generalize hd : ti.d = d at hud hni'
          cases d <;> simp_all [oAssert, Instr.typeAssert, run_zero_ti ht]
        · cases he
      · rename_i t' v
        cases hx with
        | @ifc _ _ u hv =>
        split at he
        · rename_i hta; subst hta
          cases he
          cases ok with
          | false =>
            refine ⟨u, ?_, hv⟩
            generalize hd : ti.d = d at hud hni'
            cases d <;> simp_all [oAssert, Instr.typeAssert]
          | true =>
            refine ⟨.tuple #[u, .bool true], ?_, pair _ _ hv true⟩
            generalize hd : ti.d = d at hud hni'
            cases d <;> simp_all [oAssert, Instr.typeAssert]
        · rename_i hta
          split at he
          · rename_i hok; subst hok; cases he
            refine ⟨.tuple #[ti.z, .bool false], ?_, pair _ _ (.raw ti.z) false⟩
            generalize hd : ti.d = d at hud hni'
            cases d <;> simp_all [oAssert, Instr.typeAssert, run_zero_ti ht]
          · cases he
      · cases he
  · cases he

theorem Ev.builtinq_ok {b : Builtin} {ts : List TypeId} {ty : TypeId} {cs : List Bool} {as : List V} {as' : List Value} {u : V} (r : WR base w0 ρ h w) (ha : VRs ρ as as')
    (he : Ev.builtinq P h b ts as = some u) : ∃ u', (oBuiltin b ts ty cs as').run P w = .ok (.value u') w ∧ VR ρ u u' := by
  unfold Ev.builtinq at he
  split at he
  · rename_i x
    obtain ⟨x', as', rfl, hx, hr⟩ := ha.uncons
    cases hr.unnil
    split at he
    · rename_i t _
      split at he
      · rename_i hu
        split at he
        · cases hx; cases he
          exact ⟨_, by simp [oBuiltin, Go.builtin, Builtin.len_, run_underlying_of hu, goInt], .raw _⟩
        · cases hx; cases he
          exact ⟨_, by simp [oBuiltin, Go.builtin, Builtin.len_, run_underlying_of hu, goInt], .raw _⟩
        · cases he
      · rename_i hu
        split at he
        · cases hx; cases he
          exact ⟨_, by simp [oBuiltin, Go.builtin, Builtin.len_, run_underlying_of hu, goInt], .raw _⟩
        · cases he
      · rename_i hu
        unfold Ev.mapSize at he
        cases hm : Ev.mapAt h x with
        | none => simp [hm] at he
        | some es =>
          simp [hm] at he; subst he
          rcases r.mapAt hx hm with ⟨rfl, rfl⟩ | ⟨b, us, clock, rfl, hb, hal⟩
          · exact ⟨_, by simp [oBuiltin, Go.builtin, Builtin.len_, run_underlying_of hu, goInt], .raw _⟩
          · have hl := hal.1
            refine ⟨_, ?_, .raw _⟩
            simp [oBuiltin, Go.builtin, Builtin.len_, run_underlying_of hu, goInt, run_getObj_map hb, hl]
      · cases he
    · cases he
  · obtain ⟨x', as', rfl, hx, hr⟩ := ha.uncons
    cases hr.unnil
    split at he
    · split at he
      · rename_i hu
        split at he
        · cases hx; cases he
          exact ⟨_, by simp [oBuiltin, Go.builtin, Builtin.cap_, run_underlying_of hu, goInt], .raw _⟩
        · split at he
          · rename_i hext
            cases he
            cases hx with
            | sl hk hl hex =>
            rw [hex hext]
            exact ⟨_, by simp [oBuiltin, Go.builtin, Builtin.cap_, run_underlying_of hu, goInt], .raw _⟩
          · cases he
        · cases he
      · cases he
    · cases he
  · obtain ⟨x', as', rfl, hx, hr⟩ := ha.uncons
    obtain ⟨y', as', rfl, hy, hr⟩ := hr.uncons
    cases hr.unnil
    cases hx; cases hy
    split at he
    · rename_i hk; subst hk; cases he
      exact ⟨_, by simp [oBuiltin, Go.builtin, Builtin.min_, Builtin.min2], .raw _⟩
    · cases he
  · obtain ⟨x', as', rfl, hx, hr⟩ := ha.uncons
    obtain ⟨y', as', rfl, hy, hr⟩ := hr.uncons
    cases hr.unnil
    cases hx; cases hy
    split at he
    · rename_i hk; subst hk; cases he
      exact ⟨_, by simp [oBuiltin, Go.builtin, Builtin.max_, Builtin.max2], .raw _⟩
    · cases he
  · cases he

theorem pevs_rel {e : List (List V)} {e' : List (List Value)} (hE : EnvR ρ e e') (ps : List (Nat × X)) :
    Al (fun (a : Nat × V) (b : Nat × Value) => a.1 = b.1 ∧ VR ρ a.2 b.2) (ps.map fun p => (p.1, p.2.ev e)) (pvals e' ps) :=
  ⟨by simp [pvals], fun i a b ha hb => by
    unfold pvals at hb
    rw [List.getElem?_map] at ha hb
    cases hl : ps[i]? with
    | none => simp [hl] at ha
    | some x => simp [hl] at ha hb; subst ha hb; exact ⟨rfl, X.ev_rel hE x.2⟩⟩

/-- An operation that only looks. -/
theorem Ev.opq_ok {d : D} {e : List (List V)} {e' : List (List Value)} {u : V} (r : WR base w0 ρ h w) (hE : EnvR ρ e e') (he : Ev.opq P d e h = some u) :
    ∃ u', (d.sem e').run P w = .ok (.value u') w ∧ VR ρ u u' := by
  have hx := fun x => X.ev_rel hE x
  cases d <;> simp only [Ev.opq] at he <;> try (cases he; done)
  case build t ps => exact Ev.build_ok (pevs_rel hE ps) he
  case load t a =>
    obtain ⟨u', h1, h2⟩ := Ev.load_ok (P := P) r (hx a) he
    exact ⟨u', by simp only [D.sem, oLoad, Sem.run_bind, h1, Result.andThen_ok, Sem.run_pure], h2⟩
  case nil x =>
    split at he
    · rename_i k o heq
      cases he
      have := hx x
      rw [heq] at this
      simp only [D.sem]
      generalize x.val e' = y at this ⊢
      cases this with
      | ptr hk => exact ⟨_, rfl, .ptr hk⟩
    · cases he
  case bin op t p q a b => exact Ev.bin_ok (hx a) (hx b) he
  case un op x => exact Ev.un_ok (hx x) he
  case conv s d x => exact Ev.convq_ok r (hx x) he
  case arrAt t x =>
    unfold Ev.arrAt at he
    split at he
    · rename_i n e1 k o len ex lb es hu heq
      have hv := hx x
      rw [heq] at hv
      split at he
      · rename_i hle
        cases he
        simp only [D.sem]
        generalize x.val e' = y at hv ⊢
        cases hv with
        | @sl _ _ _ _ _ b n c _ hk =>
        exact ⟨_, by simp only [oArrAt, Instr.arrayAt, Sem.run_bind, run_underlying_of hu, Result.andThen_ok, if_neg (Nat.not_lt.2 hle), Sem.run_pure], .ptr hk⟩
      · cases he
    · cases he
  case iface t x =>
    split at he
    · cases he
    · rename_i dd hni hu
      cases he
      refine ⟨_, ?_, .ifc (hx x)⟩
      cases dd <;> first | exact absurd rfl (hni _) | simp [D.sem, oIface, Instr.makeInterface, run_underlying_of hu]
    · cases he
  case func f a b =>
    cases he
    have h1 := evs_rel hE a
    have h2 := evs_rel hE b
    exact ⟨_, rfl, .fn h1.1 h1.2 h2.1 h2.2⟩
  case slice t x lo hi mx =>
    exact Ev.slice_ok r (hx x) (fun n hn => Ev.num_ok hE hn) (fun n hn => Ev.num_ok hE hn) (fun n hn => Ev.num_ok hE hn) he
  case fieldAt t x i => exact Ev.fieldAt_ok (hx x) he
  case field t x i => exact Ev.field_ok (hx x) he
  case indexAt t x i => exact Ev.indexAt_ok (hx x) (hx i) he
  case index t x i => exact Ev.index_ok (hx x) (hx i) he
  case lookup t x i ok => exact Ev.lookup_ok r (hx x) (hx i) he
  case assert x t a ok => exact Ev.assert_ok (hx x) he
  case extract x i => exact Ev.extract_ok (hx x) he
  case builtin b ts ty cs as => exact Ev.builtinq_ok r (evs_rel hE as) he
end
end Go.Fr
