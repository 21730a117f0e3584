/-
  This file proves: what a memory stands for goes on through calls that leave all that lay, and new rows are taken up.
-/
import Derived.Test.YtbnaoejdpggekaaGreatFrLock
import Derived.Laws.AppendOwn
namespace Go.Fr
open Go
section
variable {base : Nat} {w0 w w' : World} {ρ : Lay} {h : VH}

/-- All that lay is as it was. -/
theorem WR.grow (r : WR base w0 ρ h w) (hb : RowKit.Below w.heap.size w w') : WR base w0 ρ h w' := by
  refine ⟨r.below.trans ⟨hb.os, hb.tape, hb.output, hb.size, fun k hk => hb.block k (Nat.lt_of_lt_of_le hk r.size)⟩, Nat.le_trans r.size hb.size, r.len, fun k o hk => ?_, r.inj⟩
  obtain ⟨b, n, x, h1, h2, h3, h4⟩ := r.obj k o hk
  refine ⟨b, n, x, h1, h2, ?_, h4⟩
  rw [hb.block b (Array.getElem?_eq_some_iff.1 h3).1]; exact h3

/-- A block that lies there is taken up. -/
theorem WR.adopt (r : WR base w0 ρ h w) {b n : Nat} {o : VO} {x : Obj} (hx : w.heap[b]? = some x) (hb : base ≤ b) (hnew : ∀ (k : Nat) o' n', h.get k = some o' → ρ[k]? ≠ some (b, n')) (ho : OR ρ n o x) :
    WR base w0 (ρ ++ [(b, n)]) (h.new o) w ∧ Ext ρ (ρ ++ [(b, n)]) ∧ (ρ ++ [(b, n)])[h.next]? = some (b, n) := by
  have ext := Ext.push ρ (b, n)
  have here : (ρ ++ [(b, n)])[h.next]? = some (b, n) := by rw [r.len]; simp
  have cases_ : ∀ j o', (h.new o).get j = some o' → (j = h.next ∧ o' = o) ∨ (j ≠ h.next ∧ h.get j = some o') := fun j o' hj => by
    unfold VH.get VH.new at hj
    simp only [PT.get_set] at hj
    split at hj
    · rename_i hjn; cases hj; exact .inl ⟨hjn, rfl⟩
    · rename_i hjn; exact .inr ⟨hjn, hj⟩
  have old : ∀ j o', h.get j = some o' → ∀ c m, (ρ ++ [(b, n)])[j]? = some (c, m) → ρ[j]? = some (c, m) := fun j o' hj c m hc => by
    obtain ⟨b', m', y, q1, _⟩ := r.obj j o' hj
    have := ext _ _ q1
    rw [this] at hc; cases hc
    exact q1
  refine ⟨⟨r.below, r.size, by simp [VH.new, r.len], fun j o' hj => ?_, fun k1 k2 o1 o2 c m m' h1 h2 h3 h4 => ?_⟩, ext, here⟩
  · rcases cases_ j o' hj with ⟨rfl, rfl⟩ | ⟨_, hj'⟩
    · exact ⟨b, n, x, here, hb, hx, ho.ext ext⟩
    · obtain ⟨b', m', y, q1, q2, q3, q4⟩ := r.obj j o' hj'
      exact ⟨b', m', y, ext _ _ q1, q2, q3, q4.ext ext⟩
  · rcases cases_ k1 o1 h1 with ⟨rfl, rfl⟩ | ⟨_, h1'⟩
    · rcases cases_ k2 o2 h2 with ⟨rfl, rfl⟩ | ⟨_, h2'⟩
      · rfl
      · rw [here] at h3; cases h3
        exact absurd (old k2 _ h2' _ _ h4) (hnew k2 _ _ h2')
    · rcases cases_ k2 o2 h2 with ⟨rfl, rfl⟩ | ⟨_, h2'⟩
      · rw [here] at h4; cases h4
        exact absurd (old k1 _ h1' _ _ h3) (hnew k1 _ _ h1')
      · exact r.inj k1 k2 _ _ _ _ _ h1' h2' (old k1 _ h1' _ _ h3) (old k2 _ h2' _ _ h4)

/-- A row that a call made. -/
theorem WR.own (r : WR base w0 ρ h w) (hb : RowKit.Below w.heap.size w w') {e : TypeId} {size n : Nat} {v : Value} {xs : List Value} {us : List V} (hs : size ≠ 0) (hn : n ≠ 0)
    (ho : w'.ownsRow w.heap.size e size v n xs) (hu : VRs ρ us xs) :
    ∃ ρ', Ext ρ ρ' ∧ VR ρ' (.sl h.next 0 n false n size) v ∧ WR base w0 ρ' (h.new (.cells e us)) w' := by
  have r' := r.grow hb
  rcases ho.2 with ⟨_, q⟩ | ⟨g, cap, cur, rfl, hg, hx, hle, _, hcur, htake⟩
  · exact absurd q hn
  · have hmul : n * size ≤ cap * size := Nat.mul_le_mul_right _ hle
    have e1 : cur = (xs ++ cur.toList.drop (n * size)).toArray := by
      rw [← htake, List.take_append_drop, Array.toArray_toList]
    have hlen : (xs ++ cur.toList.drop (n * size)).length = cap * size := by
      have := congrArg Array.size e1
      rw [hcur] at this
      simpa using this.symm
    obtain ⟨q1, q2, q3⟩ := r'.adopt (n := cap * size) (o := .cells e us) hx (Nat.le_trans r.size hg) (fun k o' n' hk hρ => by
      obtain ⟨b', m', y, p1, _, p3, _⟩ := r.obj k o' hk
      rw [hρ] at p1; cases p1
      have := (Array.getElem?_eq_some_iff.1 p3).1
      omega) (by rw [e1]; exact .cells hu hlen (.inl rfl))
    exact ⟨_, q2, .sl q3 hle (fun hq => by cases hq) (by omega) (fun _ => ⟨hs, by omega⟩) (Nat.le_refl _), q1⟩
end
end Go.Fr
