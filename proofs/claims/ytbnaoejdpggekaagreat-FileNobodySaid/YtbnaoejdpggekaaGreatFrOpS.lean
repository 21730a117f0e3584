/-
  This file proves: what the evaluator says of slices, maps, conversions and wholes is so.
-/
import Derived.Test.YtbnaoejdpggekaaGreatFrOpR
import Derived.Laws.BytesString
namespace Go.Fr
open Go
section
variable {P : Program} {w : World} {base : Nat} {w0 : World} {ρ : Lay} {h : VH}

theorem foldl_push (ns : List Int) (s : ByteArray) : ns.foldl (fun r n => r.push (UInt8.ofNat n.toNat)) s = ⟨s.data ++ (ns.map fun n => UInt8.ofNat n.toNat).toArray⟩ := by
  induction ns generalizing s with
  | nil => simp
  | cons n ns ih =>
    rw [List.foldl_cons, ih]
    apply ByteArray.ext
    simp [ByteArray.push]

theorem Ev.bytesOf_ok {cs : List V} {us : List Value} {bs : List UInt8} (hc : VRs ρ cs us) (hb : Ev.bytesOf cs = some bs) : ∃ ns : List Int, us = ns.map (Value.int .u8) ∧ bs = ns.map fun n => UInt8.ofNat n.toNat := by
  induction cs generalizing us bs with
  | nil => rw [hc.unnil]; cases hb; exact ⟨[], rfl, rfl⟩
  | cons c cs ih =>
    obtain ⟨u, us, rfl, hr, hrest⟩ := hc.uncons
    unfold Ev.bytesOf at hb
    split at hb
    · cases hb; contradiction
    · rename_i n l heq
      cases heq
      cases hr
      cases hbs : Ev.bytesOf cs with
      | none => simp [hbs] at hb
      | some bs' =>
        simp [hbs] at hb; subst hb
        obtain ⟨ns, rfl, rfl⟩ := ih hrest hbs
        exact ⟨n :: ns, rfl, rfl⟩
    · cases hb

theorem Ev.convq_ok {s d : TypeId} {x u : V} {x' : Value} (r : WR base w0 ρ h w) (hx : VR ρ x x') (he : Ev.convq P h s d x = some u) : ∃ u', (oConv s d x').run P w = .ok (.value u') w ∧ VR ρ u u' := by
  unfold Ev.convq at he
  split at he
  · rename_i d1 k hs hd
    split at he
    · cases hx; cases he
      exact ⟨_, by simp [oConv, convert, run_underlying_of hs, run_underlying_of hd, Conv.intToInt], .raw _⟩
    · cases he
  · rename_i hs hd
    split at he
    · cases hx; cases he
      exact ⟨_, by simp [oConv, convert, run_underlying_of hs, run_underlying_of hd], .raw _⟩
    · cases he
  · rename_i e hs hd
    split at he
    · rename_i hu
      split at he
      · cases hx; cases he
        exact ⟨_, by simp [oConv, convert, run_underlying_of hs, run_underlying_of hd, run_underlying_of hu, Conv.bytesToString], .raw _⟩
      · split at he
        · rename_i bs hb
          cases he
          obtain ⟨cs, hcs, hbs⟩ := Option.bind_eq_some_iff.1 hb
          rcases Ev.sliceCells_ok r hx hcs with ⟨n, c, rfl, _⟩ | ⟨s, rfl, _⟩ | ⟨b, o, n, c, us, rfl, ⟨vs, ext, t, fr, hh, hle, hus⟩, hrel⟩
          · cases hx
          · cases hx
          · obtain ⟨ns, rfl, rfl⟩ := Ev.bytesOf_ok hrel hbs
            have hl : (loadCells ⟨b, o, none⟩ n).run P w = .ok (ns.map (Value.int .u8)).toArray w := by
              rw [run_loadCells_fr hh (by simp; omega)]
              rw [← hus, Nat.mul_one]
              congr 2
              rw [List.drop_append_of_le_length (by omega), List.take_append_of_le_length (by simp; omega)]
            refine ⟨_, ?_, .raw _⟩
            have := run_bytesToString (P := P) w ⟨b, o, none⟩ n c ns hl
            rw [foldl_push] at this
            simp [oConv, convert, run_underlying_of hs, run_underlying_of hd, run_underlying_of hu, this]
        · cases he
      · cases he
    · cases he
  · cases he

theorem Ev.opts_rel {e : List (List V)} {e' : List (List Value)} (hE : EnvR ρ e e') (x : Option X) :
    (Ev.opts e x = none ∧ oval e' x = none) ∨ ∃ v v', Ev.opts e x = some v ∧ oval e' x = some v' ∧ VR ρ v v' := by
  cases x with
  | none => exact .inl ⟨rfl, rfl⟩
  | some x => exact .inr ⟨_, _, rfl, rfl, X.ev_rel hE x⟩

/-- A bound, if it is there. -/
def Bd (x : Option Nat) (v : Option Value) : Prop := (x = none ∧ v = none) ∨ ∃ k i, v = some (.int k i) ∧ 0 ≤ i ∧ x = some i.toNat

theorem Ev.num_ok {e : List (List V)} {e' : List (List Value)} (hE : EnvR ρ e e') {x : Option X} {n : Option Nat} (he : Ev.num (Ev.opts e x) = some n) : Bd n (oval e' x) := by
  rcases Ev.opts_rel hE x with ⟨h1, h2⟩ | ⟨v, v', h1, h2, hr⟩
  · rw [h1] at he; cases he; exact .inl ⟨rfl, h2⟩
  · rw [h1] at he
    unfold Ev.num at he
    split at he
    · rename_i h; cases h
    · rename_i k i heq
      cases heq
      cases hr
      split at he
      · rename_i h0; cases he; exact .inr ⟨k, i, h2, h0, rfl⟩
      · cases he
    · cases he

theorem run_bound {x : Value} {k : IntKind} {i : Int} {y : Nat} {c : BoundsCode} (hx : x = .int k i) (h0 : 0 ≤ i) (h1 : i.toNat ≤ y) : (Instr.sliceBound x y c).run P w = .ok i.toNat w := by
  subst hx
  have : i ≤ y := by omega
  simp [Instr.sliceBound, asIntOf, h0, this]

theorem run_bounds {isSlice : Bool} {len cap : Nat} {lo hi mx : Option Nat} {lv hv mv : Option Value} (hl : Bd lo lv) (hh : Bd hi hv) (hm : Bd mx mv) (h1 : lo.getD 0 ≤ hi.getD len) (h2 : hi.isSome = true → hi.getD len ≤ mx.getD cap)
    (h3 : mx.getD cap ≤ cap) (h4 : mx.isSome = true → hi.isSome = true) : (Instr.sliceBounds isSlice len cap lv hv mv).run P w = .ok (lo.getD 0, hi.getD len, mx.getD cap) w := by
  unfold Instr.sliceBounds
  rcases hm with ⟨rfl, rfl⟩ | ⟨mk, mi, rfl, m0, rfl⟩
  · rcases hh with ⟨rfl, rfl⟩ | ⟨hk, hi', rfl, h0, rfl⟩
    · rcases hl with ⟨rfl, rfl⟩ | ⟨lk, li, rfl, l0, rfl⟩
      · simp
      · simp only [Option.getD_some, Option.getD_none] at h1
        simp [run_bound (P := P) (w := w) rfl l0 h1]
    · have h2 := h2 rfl
      simp only [Option.getD_some, Option.getD_none] at h2 h1
      rcases hl with ⟨rfl, rfl⟩ | ⟨lk, li, rfl, l0, rfl⟩
      · simp [run_bound (P := P) (w := w) (x := .int hk hi') rfl h0 h2]
      · simp only [Option.getD_some] at h1
        simp [run_bound (P := P) (w := w) (x := .int hk hi') rfl h0 h2, run_bound (P := P) (w := w) (x := .int lk li) rfl l0 h1]
  · rcases hh with ⟨rfl, rfl⟩ | ⟨hk, hi', rfl, h0, rfl⟩
    · simp at h4
    · have h2 := h2 rfl
      simp only [Option.getD_some] at h2 h3 h1
      rcases hl with ⟨rfl, rfl⟩ | ⟨lk, li, rfl, l0, rfl⟩
      · simp [run_bound (P := P) (w := w) (x := .int mk mi) rfl m0 h3, run_bound (P := P) (w := w) (x := .int hk hi') rfl h0 h2]
      · simp only [Option.getD_some] at h1
        simp [run_bound (P := P) (w := w) (x := .int mk mi) rfl m0 h3, run_bound (P := P) (w := w) (x := .int hk hi') rfl h0 h2, run_bound (P := P) (w := w) (x := .int lk li) rfl l0 h1]
end
end Go.Fr
