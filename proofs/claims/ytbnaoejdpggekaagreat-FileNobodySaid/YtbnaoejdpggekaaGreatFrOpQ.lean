/-
  This file proves: what the evaluator says of operations that only look is so.
-/
import Derived.Test.YtbnaoejdpggekaaGreatFrCell
import Derived.Laws.StructEq
namespace Go.Fr
open Go
section
variable {P : Program} {w : World} {base : Nat} {w0 : World} {ρ : Lay} {h : VH}

theorem noHolds (w : World) : Holds (stars []) w := ⟨fun _ => none, trivial, fun b o h => by cases h⟩

theorem Reads.now {s : Sem Next} {v : Value} (r : Reads P [] s v) : s.run P w = .ok (.value v) w := r.at_ w (noHolds w)

theorem run_bin_int {op : BinOp} {t : TypeId} {p q : Operand} {k k' : IntKind} {a b : Int} {v : Value} (hb : (binOp op t (.int k a) (.int k' b)).run P w = .ok v w) :
    (oBin op t p q (.int k a) (.int k' b)).run P w = .ok (.value v) w := by
  simp only [oBin, Sem.run_bind, eqGuard_int, Result.andThen_ok, hb, Sem.run_pure]

theorem Ev.intBin_ok {op : BinOp} {t : TypeId} {p q : Operand} {k k' : IntKind} {a b : Int} {v : Value} (he : Ev.intBin op k a k' b = some v) :
    (oBin op t p q (.int k a) (.int k' b)).run P w = .ok (.value v) w := by
  refine run_bin_int ?_
  cases op <;> simp only [Ev.intBin] at he
  case shl =>
    split at he
    · cases he
    · rename_i hb; cases he; simp [binOp, Op.shift, hb]
  case shr =>
    split at he
    · cases he
    · rename_i hb; cases he; simp [binOp, Op.shift, hb]
  all_goals
    split at he
    · cases he
    · rename_i hk
      have hk' : k = k' := Decidable.not_not.1 hk
      subst hk'
      first
        | (split at he
           · cases he
           · rename_i hb; cases he; simp [binOp, Op.intDiv, hb])
        | (cases he; simp [binOp, Op.intArith]; done)
        | (cases he; simp [binOp, Op.intBits]; done)
        | (cases he; simp [binOp, Op.intCmp]; done)
        | (cases he; done)
        | (cases he; by_cases hab : a = b <;> simp [binOp, Op.intCmp, hab])

theorem bytes_list (x : ByteArray) : x.toList = x.data.toList := ByteArray.toList_eq x

theorem Ev.strBin_ok {op : BinOp} {t : TypeId} {p q : Operand} {a b : ByteArray} {v : Value} (he : Ev.strBin op a b = some v) :
    (oBin op t p q (.string a) (.string b)).run P w = .ok (.value v) w := by
  have g : (eqGuard op t p q (.string a) (.string b)).run P w = .ok () w := by cases op <;> simp [eqGuard]
  simp only [oBin, Sem.run_bind, g, Result.andThen_ok]
  cases op <;> simp only [Ev.strBin] at he <;> try (cases he; done)
  case add =>
    split at he
    · rename_i hs
      cases he
      have h63 : ¬ (((a.size + b.size : Nat) : Int) > IntKind.i64.max) := by
        simp [IntKind.max, IntKind.bits, IntKind.signed]; omega
      have e : a ++ b = ⟨(a.data.toList ++ b.data.toList).toArray⟩ := by
        apply ByteArray.ext
        simp [ByteArray.data_append]
      simp only [binOp, Op.stringOp, h63, if_false, Sem.run_pure, Result.andThen_ok, e]
    · cases he
  case eql => cases he; simp [binOp, Op.stringOp, bytes_list]
  case neq => cases he; simp [binOp, Op.stringOp, bytes_list]

theorem Ev.rawEq_ok {t : TypeId} {dd : TypeDesc} {a b : V} {a' b' : Value} {r : Bool} {d : Nat} (hu : P.underlying t = some dd) (ha : VR ρ a a') (hb : VR ρ b b') (he : Ev.rawEq dd a b = some r) :
    (Op.equalIn (d + 1) t a' b').run P w = .ok r w := by
  unfold Ev.rawEq at he
  split at he
  · cases ha; cases hb
    split at he
    · rename_i hk; subst hk; cases he
      rename_i x y
      by_cases hxy : x = y <;> simp [Op.equalIn, run_underlying_of hu, hxy]
    · cases he
  · cases ha; cases hb; cases he; simp [Op.equalIn, run_underlying_of hu]
  · cases ha; cases hb; cases he; simp [Op.equalIn, run_underlying_of hu, beq_toListBytes, bytes_list]
  · cases ha; cases hb; cases he; simp [Op.equalIn, run_underlying_of hu]
  · cases ha; cases hb; cases he; simp [Op.equalIn, run_underlying_of hu]
  · cases ha; cases hb; cases he; simp [Op.equalIn, run_underlying_of hu]
  · cases ha; cases hb; cases he; simp [Op.equalIn, run_underlying_of hu]
  · cases ha; cases hb; cases he; simp [Op.equalIn, run_underlying_of hu]
  · cases ha; cases hb; cases he; simp [Op.equalIn, run_underlying_of hu]
  · cases ha; cases hb; cases he; simp [Op.equalIn, run_underlying_of hu]
  · cases ha; cases hb; cases he; simp [Op.equalIn, run_underlying_of hu]
  · cases ha; cases hb; cases he; simp [Op.equalIn, run_underlying_of hu]
  · cases ha; cases hb; cases he; simp [Op.equalIn, run_underlying_of hu]
  · cases ha; cases hb; cases he; simp [Op.equalIn, run_underlying_of hu]
  · cases ha; cases hb; cases he; simp [Op.equalIn, run_underlying_of hu]
  · cases ha; cases hb; cases he; simp [Op.equalIn, run_underlying_of hu]
  · cases ha; cases hb; cases he; simp [Op.equalIn, run_underlying_of hu]
  · cases he

theorem run_part_sc {t : TypeId} {ti : TI} {cs : List Value} {o : Nat} {u : Value} (ht : mkTI P t = some ti) (ha : isAg ti.d = false) (hu : cs[o]? = some u) :
    (part t cs.toArray o).run P w = .ok u w := by
  simp [part, run_isAgg_ti ht, ha, hu]

theorem Ev.fldsEq_ok {d : Nat} {xs ys : List V} {us vs : List Value} (hx : VRs ρ xs us) (hy : VRs ρ ys vs) : ∀ {fs : List Field} {r : Bool}, Ev.fldsEq P fs xs ys = some r →
    (Op.eqFields (d + 1) us.toArray vs.toArray fs).run P w = .ok r w := by
  intro fs
  induction fs with
  | nil => intro r he; cases he; simp [Op.eqFields]
  | cons f fs ih =>
    intro r he
    unfold Ev.fldsEq at he
    split at he
    · cases he
    · rename_i hn
      split at he
      · rename_i ti x y ht hxx hyy
        split at he
        · cases he
        · rename_i hag
          rw [nth_eq] at hxx hyy
          obtain ⟨u, hu, hr1⟩ := hx.get hxx
          obtain ⟨v, hv, hr2⟩ := hy.get hyy
          have hag' : isAg ti.d = false := by simpa using hag
          simp only [Op.eqFields, hn, ne_eq, not_false_eq_true, if_true, Sem.run_bind, run_part_sc ht hag' hu, run_part_sc ht hag' hv, Result.andThen_ok]
          split at he
          · rename_i hq
            rw [Ev.rawEq_ok (mkTI_some ht).1 hr1 hr2 hq]
            simp only [Result.andThen_ok, Bool.not_true, Bool.false_eq_true, if_false]
            exact ih he
          · rename_i hq
            rw [Ev.rawEq_ok (mkTI_some ht).1 hr1 hr2 he]
            cases r with
            | true => exact absurd he hq
            | false => simp
      · cases he

theorem isAgV_ok {v : V} {u : Value} (hv : VR ρ v u) (h1 : Ev.isAgV v = true) : ∃ us, u = .agg us.toArray ∧ VRs ρ v.cells us := by
  have hc := hv.cells
  cases hv with
  | raw => cases u <;> simp_all [Ev.isAgV, V.cells]; rename_i cs; exact ⟨cs.toList, by simp, raws_rel _⟩
  | agg hl h => exact ⟨_, rfl, by simpa [Value.cells] using hc⟩
  | _ => simp [Ev.isAgV] at h1

theorem equal_at {t : TypeId} {x y : Value} : Op.equal t x y = Op.equalIn (9999 + 1) t x y := rfl

theorem Ev.rawBin_ok {t : TypeId} {dd : TypeDesc} {p q : Operand} {a b : V} {a' b' : Value} {r : Bool} (hu : P.underlying t = some dd) (ha : VR ρ a a') (hb : VR ρ b b') (he : Ev.rawEq dd a b = some r) :
    (oBin .eql t p q a' b').run P w = .ok (.value (.bool r)) w ∧ (oBin .neq t p q a' b').run P w = .ok (.value (.bool !r)) w := by
  have key := fun d => Ev.rawEq_ok (d := d) (w := w) hu ha hb he
  unfold Ev.rawEq at he
  split at he
  · cases ha; cases hb
    split at he
    · rename_i hk; subst hk; cases he
      rename_i x y
      by_cases hxy : x = y <;> simp [oBin, eqGuard, binOp, Op.intCmp, hxy]
    · cases he
  · cases ha; cases hb; simp [oBin, eqGuard, binOp, equal_at, key]
  · cases ha; cases hb; cases he; simp [oBin, eqGuard, binOp, Op.stringOp, bytes_list]
  · cases ha; cases hb; simp [oBin, eqGuard, binOp, equal_at, key]
  · cases ha; cases hb; simp [oBin, eqGuard, binOp, equal_at, key]
  · cases ha; cases hb; simp [oBin, eqGuard, binOp, equal_at, key]
  · cases ha; cases hb; simp [oBin, eqGuard, binOp, equal_at, key]
  · cases ha; cases hb; simp [oBin, eqGuard, binOp, equal_at, key]
  · cases ha; cases hb; simp [oBin, eqGuard, binOp, equal_at, key]
  · cases ha; cases hb; simp [oBin, eqGuard, binOp, equal_at, key]
  · cases ha; cases hb; simp [oBin, eqGuard, binOp, equal_at, key]
  · cases ha; cases hb; simp [oBin, eqGuard, binOp, equal_at, key]
  · cases ha; cases hb; simp [oBin, eqGuard, binOp, equal_at, key]
  · cases ha; cases hb; simp [oBin, eqGuard, binOp, equal_at, key]
  · cases ha; cases hb; simp [oBin, eqGuard, binOp, equal_at, key]
  · cases ha; cases hb; simp [oBin, eqGuard, binOp, equal_at, key]
  · cases ha; cases hb; simp [oBin, eqGuard, binOp, equal_at, key]
  · cases he

theorem Ev.valEq_ok {t : TypeId} {p q : Operand} {a b : V} {a' b' : Value} {r : Bool} (ha : VR ρ a a') (hb : VR ρ b b') (he : Ev.valEq P t a b = some r) :
    (oBin .eql t p q a' b').run P w = .ok (.value (.bool r)) w ∧ (oBin .neq t p q a' b').run P w = .ok (.value (.bool !r)) w := by
  unfold Ev.valEq at he
  split at he
  · cases he
  · rename_i ti ht
    have hu := (mkTI_some ht).1
    split at he
    · rename_i fs hd
      split at he
      · rename_i hc
        obtain ⟨c1, c2, c3, c4⟩ := hc
        obtain ⟨us, rfl, hx⟩ := isAgV_ok ha c3
        obtain ⟨vs, rfl, hy⟩ := isAgV_ok hb c4
        have hfs : P.fieldsOf t = fs := by simp [Program.fieldsOf, hu, hd]
        have ht2 : P.underlying t = some (.struct (P.fieldsOf t)) := by rw [hfs, hu, hd]
        have e := run_equalIn_struct (P := P) w 9999 t us.toArray vs.toArray ht2 c1
        rw [hfs, Ev.fldsEq_ok (d := 9998) hx hy he] at e
        have g : ∀ op, (eqGuard op t p q (.agg us.toArray) (.agg vs.toArray)).run P w = .ok () w := fun op => run_eqGuard_agg w op t p q _ _ c2
        simp only [oBin, Sem.run_bind, g, Result.andThen_ok]
        have e1 : (Op.equal t (.agg us.toArray) (.agg vs.toArray)).run P w = .ok r w := e
        simp [binOp, e1]
      · cases he
    · exact Ev.rawBin_ok hu ha hb he

theorem Ev.bin_ok {op : BinOp} {t : TypeId} {p q : Operand} {a b v : V} {a' b' : Value} (ha : VR ρ a a') (hb : VR ρ b b') (he : Ev.bin P op t a b = some v) :
    ∃ u, (oBin op t p q a' b').run P w = .ok (.value u) w ∧ VR ρ v u := by
  unfold Ev.bin at he
  split at he
  · cases ha; cases hb
    cases hi : Ev.intBin op _ _ _ _ with
    | none => rw [hi] at he; cases he
    | some x => rw [hi] at he; cases he; exact ⟨x, Ev.intBin_ok hi, .raw _⟩
  · cases ha; cases hb
    cases hi : Ev.strBin op _ _ with
    | none => rw [hi] at he; cases he
    | some x => rw [hi] at he; cases he; exact ⟨x, Ev.strBin_ok hi, .raw _⟩
  · split at he
    · cases hi : Ev.valEq P t _ _ with
      | none => rw [hi] at he; cases he
      | some x => rw [hi] at he; cases he; exact ⟨_, (Ev.valEq_ok ha hb hi).1, .raw _⟩
    · cases hi : Ev.valEq P t _ _ with
      | none => rw [hi] at he; cases he
      | some x => rw [hi] at he; cases he; exact ⟨_, (Ev.valEq_ok ha hb hi).2, .raw _⟩
    · cases he

theorem Ev.un_ok {op : UnOp} {a v : V} {a' : Value} (ha : VR ρ a a') (he : Ev.un op a = some v) : ∃ u, (oUn op a').run P w = .ok (.value u) w ∧ VR ρ v u := by
  unfold Ev.un at he
  split at he
  · cases ha; cases he; exact ⟨_, by simp [oUn, Op.unary], .raw _⟩
  · cases ha; cases he; exact ⟨_, by simp [oUn, Op.unary, Op.intArith], .raw _⟩
  · cases he
end
end Go.Fr
