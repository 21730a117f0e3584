/-
  This file proves: the library's sort of a map's keys by a function does what the evaluator says, out of the contracts of its two parts.
-/
import Derived.Test.YtbnaoejdpggekaaGreatFrSortedF
import Derived.Shelf.SlIterI.Nil
import Derived.Shelf.SlSortCmp.NoneTotal
namespace Go.Fr
open Go Go.RowKit Go.Sort Go.Proofs

/-- The tree of such a sort. -/
def sortT (fCol fSrt : FuncId) (rs : List ResultVar) : T :=
  .op (.call fCol [(.v 0 0)]) <|
  .op (.call fSrt [(.v 0 0), (.v 2 0)]) <|
  .fin rs [(.v 1 0)]

/-- What collecting a map's keys does. -/
structure CollectAt (P : Program) (fCol fK : FuncId) (e : TypeId) : Prop where
  enters : ∀ args w, (callFunc fCol args).run P w = .ok (.enter fCol args) w
  full : ∀ (Bm b nn : Nat) (D0 : DataW Unit) (w : World), Bm < w.heap.size → w.cell? ⟨Bm, 0, none⟩ = some (.map (some b)) → w.ownsMap P e RNil b nn D0 → Maps.size D0 ≤ 100000 →
    Calls P fCol #[.func (.func fK) #[] #[.pointer (some ⟨Bm, 0, none⟩)]] w fun x w' => ∃ (v : Value) (ss : List Int), x = .returned v ∧ ss.Perm (intKeys D0) ∧
      w'.ownsRow w.heap.size e 1 v ss.length (ss.map encZ) ∧ (v = .slice none 0 0 ↔ ss = []) ∧ Below w.heap.size w w'
  empt : ∀ (Bm : Nat) (w : World), Bm < w.heap.size → w.cell? ⟨Bm, 0, none⟩ = some (.map none) →
    Calls P fCol #[.func (.func fK) #[] #[.pointer (some ⟨Bm, 0, none⟩)]] w fun x w' => x = .returned (.slice none 0 0) ∧ Below w.heap.size w w'

/-- What sorting a row by a function does. -/
structure SortFAt (P : Program) (fSrt : FuncId) : Prop where
  enters : ∀ args w, (callFunc fSrt args).run P w = .ok (.enter fSrt args) w
  sorts : ∀ (n : Nat) (enc : Fin (n + 1) → Value) (cf : Fin (n + 1) → Fin (n + 1) → Int) (g : Nat) (cb : Array Value) (blk off cap : Nat) (d : Array (Fin (n + 1))) (w : World), OneCell enc → SWO (ltOf cf) →
    (∀ args w, (callFunc g args).run P w = .ok (.enter g args) w) → CmpLays1 P g cb enc cf blk off d.size w → Go.Sort.Holds enc w blk off d → blk < w.heap.size → d.size < 4611686018427387904 →
    (∀ x y, (ltOf cf) x y = false → (ltOf cf) y x = false → x = y) →
    Calls P fSrt #[.slice (some ⟨blk, off, none⟩) d.size cap, .func (.func g) #[] cb] w fun e w' =>
      e = .returned (.tuple #[]) ∧ ∃ n os, w' = sortWorld enc w blk off n (d.toList.mergeSort fun x y => !(ltOf cf) y x).toArray os
  empt : ∀ (p : Option Addr) (cap : Nat) (fv : Value) (w : World), Calls P fSrt #[.slice p 0 cap, fv] w fun e w' => e = .returned (.tuple #[]) ∧ w' = w

section
variable {P : Program}

theorem run_sortT {fCol fSrt : FuncId} {r : Tmp} {a0 a1 : Value} {w : World} {R : Nat → List Value → World → Prop}
    (e1 : ∀ args w, (callFunc fCol args).run P w = .ok (.enter fCol args) w) (e2 : ∀ args w, (callFunc fSrt args).run P w = .ok (.enter fSrt args) w)
    (h : Calls P fCol #[a0] w fun x w1 => ∃ v, x = .returned v ∧ Calls P fSrt #[v, a1] w1 fun x w2 => (∃ u, x = .returned u) ∧ R 0 [v] w2) :
    Run P (fun _ _ => False) ((sortT fCol fSrt [.tmp r]).sp 0 (rows [a0, a1]) []) w R := by
  show UponS P _ _ ((callFunc fCol #[a0]).run P w)
  rw [e1]
  refine Calls.mono h ?_
  rintro x w1 ⟨v, rfl, h2⟩
  show UponS P _ _ ((callFunc fSrt #[v, a1]).run P w1)
  rw [e2]
  refine Calls.mono h2 ?_
  rintro x w2 ⟨⟨u, rfl⟩, hR⟩
  exact ⟨v, by simp [resS, resAll, resOne, tupleOf, vals, X.val, tailN], hR⟩

theorem putRow_map {α : Type} [Inhabited α] {enc : α → Value} {f : α → Int} (henc : ∀ x, enc x = encZ (f x)) (w : World) (blk off : Nat) (d : Array α) : putRow enc w blk off d = putRow encZ w blk off (d.map f) := by
  unfold putRow
  congr 1
  funext c
  unfold putCells
  congr 1
  funext k x
  by_cases h : off ≤ k ∧ k < off + d.size
  · rw [if_pos h, if_pos (by simpa using h), henc]
    have hk : k - off < d.size := by omega
    rw [getElem!_pos d _ hk, getElem!_pos (d.map f) _ (by simpa using hk)]
    simp
  · rw [if_neg h, if_neg (by simpa using h)]

theorem sortedF_of (hm : P.follows .mixedOrders = true) {fS fK fCol fSrt : FuncId} {e : TypeId} {fn : Func} {A : Ann} {r : Tmp} (hf : P.funcs[fS]? = some fn) (henter : ∀ args w, (callFunc fS args).run P w = .ok (.enter fS args) w)
    (hden : ∀ a0 a1, denF fn A [a0, a1] = (sortT fCol fSrt [.tmp r]).sp 0 (rows [a0, a1]) []) (hint : P.underlying e = some (.int .i64)) (C : CollectAt P fCol fK e) (S : SortFAt P fSrt) : SortedFAt P fS fK e where
  enters := henter
  int := hint
  none := by
    intro Bm b nn D0 w v hlt hm0
    refine (calls_of_den (P := P) hm (f := fS) (A := A) (args := [.func (.func fK) #[] #[.pointer (some ⟨Bm, 0, none⟩)], v]) (w := w) (R := fun u w' => u = .slice none 0 0 ∧ Below w.heap.size w w') hf ?_).mono (by rintro x w' ⟨u, rfl, rfl, h⟩; exact ⟨rfl, h⟩)
    rw [hden]
    refine run_sortT C.enters S.enters ?_
    have fin : ∀ w1, Below w.heap.size w w1 → Calls P fSrt #[.slice none 0 0, v] w1 fun x w2 => (∃ u, x = .returned u) ∧ ((Value.slice none 0 0) = .slice none 0 0 ∧ Below w.heap.size w w2) := fun w1 hb => (S.empt none 0 v w1).mono (by rintro x w2 ⟨rfl, rfl⟩; exact ⟨⟨_, rfl⟩, rfl, hb⟩)
    rcases hm0 with hm0 | ⟨hm0, hown, hnil, hsz⟩
    · refine (C.empt Bm w hlt hm0).mono ?_
      rintro x w1 ⟨rfl, hb⟩
      exact ⟨_, rfl, fin w1 hb⟩
    · refine (C.full Bm b nn D0 w hlt hm0 hown hsz).mono ?_
      rintro x w1 ⟨u, ss, rfl, h1, _, h3, hb⟩
      rw [hnil] at h1
      have : u = .slice none 0 0 := h3.2 (List.Perm.eq_nil h1)
      subst this
      exact ⟨_, rfl, fin w1 hb⟩
  sorts := by
    intro fC cb Bm b nn D0 l c w hne hlt hm0 hown hsz hperm hC hord hcmp
    refine (calls_of_den (P := P) hm (f := fS) (A := A) (args := [.func (.func fK) #[] #[.pointer (some ⟨Bm, 0, none⟩)], .func (.func fC) #[] cb.toArray]) (w := w) (R := fun u w' => w'.ownsRow w.heap.size e 1 u l.length (l.map encZ) ∧ Below w.heap.size w w') hf ?_).mono (by rintro x w' ⟨u, rfl, h⟩; exact ⟨u, rfl, h⟩)
    rw [hden]
    refine run_sortT C.enters S.enters ?_
    refine (C.full Bm b nn D0 w hlt hm0 hown hsz).mono ?_
    rintro x w1 ⟨u, ss, rfl, h1, h2, h3, hb⟩
    refine ⟨u, rfl, ?_⟩
    have hpm : ss.Perm l := h1.trans hperm
    have hlen : ss.length = l.length := hpm.length_eq
    have hbig : l.length ≤ 100000 := by
      have h4 : (intKeys D0).length ≤ 100000 := by
        cases D0 <;> simp [intKeys] at hsz ⊢
        rename_i es; simpa [Maps.size] using hsz
      rw [← hperm.length_eq]; exact h4
    obtain ⟨m, hlm⟩ : ∃ m, l.length = m + 1 := by
      cases l with
      | nil => exact absurd rfl hne
      | cons a l => exact ⟨l.length, rfl⟩
    rcases h2.2 with ⟨rfl, hz⟩ | ⟨g, cap, cur, rfl, hbase, hg, r1, r2, r3, r4⟩
    · exfalso
      have := h3.1 rfl
      rw [this] at hlen
      simp at hlen; omega
    · -- the keys in their order, by their places
      have hnd : l.Nodup := by
        rw [List.nodup_iff_pairwise_ne, List.pairwise_iff_getElem]
        intro i j hi hj hij heq
        have q1 := hord i j _ _ (List.getElem?_eq_getElem hi) (List.getElem?_eq_getElem hj)
        have q2 := hord i i _ _ (List.getElem?_eq_getElem hi) (List.getElem?_eq_getElem hi)
        rw [← heq] at q1
        have q3 := q1.2 hij
        have q4 := q2.1 q3
        omega
      let f : Fin (m + 1) → Int := fun i => l[i.val]'(by rw [hlm]; exact i.2)
      let idx : Int → Fin (m + 1) := fun x => if hx : l.idxOf x < m + 1 then ⟨l.idxOf x, hx⟩ else ⟨0, by omega⟩
      have fidx : ∀ x ∈ l, f (idx x) = x := fun x hx => by
        have hi : l.idxOf x < l.length := List.idxOf_lt_length_of_mem hx
        simp only [idx]
        rw [dif_pos (by omega)]
        simp only [f]
        exact List.getElem_idxOf hi
      have idxf : ∀ i, idx (f i) = i := fun i => by
        have hi : i.val < l.length := by rw [hlm]; exact i.2
        have : l.idxOf (l[i.val]'hi) = i.val := hnd.idxOf_getElem i.val hi
        simp only [idx, f]
        simp only [this, i.2, dif_pos]
      let enc : Fin (m + 1) → Value := fun i => encZ (f i)
      let cf : Fin (m + 1) → Fin (m + 1) → Int := fun i j => c (f i) (f j)
      have hlt' : ∀ i j, ltOf cf i j = decide (i < j) := fun i j => by
        simp only [ltOf, cf]
        have := hord i.val j.val (f i) (f j) (List.getElem?_eq_getElem _) (List.getElem?_eq_getElem _)
        exact decide_eq_decide.2 (this.trans Fin.lt_def.symm)
      let d : Array (Fin (m + 1)) := (ss.map idx).toArray
      have hd : d.map f = ss.toArray := by
        simp only [d]
        apply Array.ext'
        simp only [List.map_toArray, List.map_map]
        conv => rhs; rw [← List.map_id ss]
        exact List.map_congr_left fun x hx => by simpa using fidx x (hpm.mem_iff.1 hx)
      have hdsz : d.size = ss.length := by simp [d]
      have hmem : ∀ i, f i ∈ l := fun i => List.getElem_mem _
      have hW : ∀ mm os dk, Below w.heap.size w (sortWorld enc w1 g 0 mm dk os) := fun mm os dk => by
        unfold sortWorld
        rw [putRow_map (f := f) (fun _ => rfl)]
        exact hb.grown (grownBy_sorted_i _) hb.size (fun j hj => by cases hj; exact hbase)
      have hH : Go.Sort.Holds enc w1 g 0 d := by
        have := holds_of_block_i hg (by simpa using r4)
        intro j hj
        have hj' : j < ss.length := by omega
        obtain ⟨k1, k2⟩ := this j (by simpa using hj')
        refine ⟨?_, k2⟩
        rw [k1]
        have e3 : ss.toArray[j]! = f d[j]! := by
          rw [← hd, getElem!_pos (d.map f) _ (by simpa using hj), getElem!_pos d _ hj]; simp
        rw [e3]
      have hgl : g < w1.heap.size := (Array.getElem?_eq_some_iff.1 hg).1
      have hcall := S.sorts m enc cf fC cb.toArray g 0 cap d w1 (fun _ => rfl)
        ⟨fun x => by rw [hlt']; simp, fun x y z p q => by rw [hlt'] at *; simp at *; omega, fun x y z p q => by rw [hlt'] at *; simp at *; omega⟩ hC
        (CmpReads.lays fun mm os dk _ x y => by
          have := hcmp (f x) (f y) (sortWorld enc w1 g 0 mm dk os) (hmem x) (hmem y) (hW mm os dk)
          simpa using this) hH hgl (by omega) (fun x y p q => by rw [hlt'] at *; simp at *; omega)
      rw [hdsz] at hcall
      refine hcall.mono ?_
      rintro x w2 ⟨rfl, nn', os, rfl⟩
      refine ⟨⟨_, rfl⟩, ?_, hW _ _ _⟩
      -- what the row holds
      have hsort : (d.toList.mergeSort fun x y => !(ltOf cf) y x).map f = l := by
        have hp2 : ((d.toList.mergeSort fun x y => !(ltOf cf) y x).map f).Perm l := by
          refine ((List.mergeSort_perm _ _).map f).trans ?_
          have : d.toList.map f = ss := by
            have := congrArg Array.toList hd
            simpa using this
          rw [this]; exact hpm
        have tr : ∀ a b c : Fin (m + 1), (!(ltOf cf) b a) = true → (!(ltOf cf) c b) = true → (!(ltOf cf) c a) = true := fun a b c p q => by rw [hlt'] at *; simp at *; omega
        have to : ∀ a b : Fin (m + 1), ((!(ltOf cf) b a) || (!(ltOf cf) a b)) = true := fun a b => by rw [hlt', hlt']; simp; omega
        refine List.Perm.eq_of_pairwise (le := fun a b => idx a ≤ idx b) (fun a b ha hb' p q => ?_) ?_ ?_ hp2
        · have ha' : a ∈ l := hp2.mem_iff.1 ha
          have e4 : idx a = idx b := by omega
          rw [← fidx a ha', ← fidx b hb', e4]
        · rw [List.pairwise_map]
          refine (List.pairwise_mergeSort tr to d.toList).imp ?_
          intro a b p
          rw [idxf, idxf]
          rw [hlt'] at p
          simpa using p
        · rw [List.pairwise_iff_getElem]
          intro i j hi hj hij
          have q1 := idxf ⟨i, by omega⟩
          have q2 := idxf ⟨j, by omega⟩
          simp only [f] at q1 q2
          rw [q1, q2]
          simp only [Fin.mk_le_mk]
          omega
      have := ownsRow_sorted_i (os := os) (n := nn') (base := w.heap.size) (g := g) (cap := cap) (e := e) (cur := cur) (w := w1) (ss := ss) (ts := l) hlen.symm hbase hg r1 r2 r3
      rw [← hlen]
      unfold sortWorld
      rw [putRow_map (f := f) (fun _ => rfl)]
      have e5 : (d.toList.mergeSort fun x y => !(ltOf cf) y x).toArray.map f = l.toArray := by
        apply Array.ext'
        simpa using hsort
      rw [e5]
      exact this
end
end Go.Fr
