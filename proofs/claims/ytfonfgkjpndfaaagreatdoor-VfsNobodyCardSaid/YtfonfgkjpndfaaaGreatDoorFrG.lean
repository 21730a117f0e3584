/-
  This file is a part of the proof that trees of operations tell what code does, and that an evaluator tells what trees do: this file proves: what the evaluator says of a map's keys in order is so, where the contract of the library's sort is given; this file proves: a tree that only looks turns nothing; this file proves: what the evaluator says of a map's keys in the order that a function tells is so, where the contract of the library's sort is given; this file proves: a call that the evaluator says answers true answers true, and leaves all that lay; this file proves: what the evaluator says of deferred functions that do nothing is so; and of runs that come to true in each of several ways; this file proves: what the evaluator says of sorting what a nil map's iterator gives is so; this file proves: the library's sort of a map's keys by a function does what the evaluator says, out of the contracts of its two parts.
-/
import Derived.Test.YtfonfgkjpndfaaaGreatDoorFrF
import Derived.Maps.Own
import Derived.Lib.SlKeysI
import Derived.Deep.Draws
import Derived.Shelf.SlIterI.Nil
import Derived.Shelf.SlSortCmp.NoneTotal

-- FrSorted
namespace Go.Fr
open Go Go.RowKit
set_option linter.unusedSectionVars false
variable [Sig]

/-- How a map's values read here: not at all. -/
def RNil : Value → Option (DataW Unit × List MemPlace) := fun _ => some (.nil, [])

/-- What a sort of a map's keys does. -/
structure SortedAt (P : Program) (fS fK : FuncId) (e : TypeId) : Prop where
  enters : ∀ args w, (callFunc fS args).run P w = .ok (.enter fS args) w
  int : P.underlying e = some (.int .i64)
  sorts : ∀ (Bm b nn : Nat) (D0 : DataW Unit) (w : World), Bm < w.heap.size → w.cell? ⟨Bm, 0, none⟩ = some (.map (some b)) → w.ownsMap P e RNil b nn D0 → Maps.size D0 ≤ 100000 →
    Calls P fS #[.func (.func fK) #[] #[.pointer (some ⟨Bm, 0, none⟩)]] w fun x w' => ∃ (v : Value) (ss : List Int), x = .returned v ∧ ss.Perm (intKeys D0) ∧
      w'.ownsRow w.heap.size e 1 v ss.length ((ss.mergeSort (fun x y => decide (x ≤ y))).map encZ) ∧ (v = .slice none 0 0 ↔ ss = []) ∧ Below w.heap.size w w'
  none : ∀ (Bm : Nat) (w : World), Bm < w.heap.size → w.cell? ⟨Bm, 0, none⟩ = some (.map none) →
    Calls P fS #[.func (.func fK) #[] #[.pointer (some ⟨Bm, 0, none⟩)]] w fun x w' => x = .returned (.slice none 0 0) ∧ Below w.heap.size w w'

def insI (x : Int) : List Int → List Int
  | [] => [x]
  | y :: l => if x ≤ y then x :: y :: l else y :: insI x l

def sortI : List Int → List Int
  | [] => []
  | x :: l => insI x (sortI l)

theorem insI_perm (x : Int) : ∀ l : List Int, (insI x l).Perm (x :: l) := by
  intro l
  induction l with
  | nil => exact .refl _
  | cons y l ih =>
    unfold insI
    split
    · exact .refl _
    · exact (List.Perm.cons y ih).trans (List.Perm.swap x y l)

theorem sortI_perm : ∀ l : List Int, (sortI l).Perm l := by
  intro l
  induction l with
  | nil => exact .refl _
  | cons x l ih => exact (insI_perm x _).trans (List.Perm.cons x ih)

theorem insI_sorted (x : Int) : ∀ l : List Int, l.Pairwise (fun a b => decide (a ≤ b) = true) → (insI x l).Pairwise (fun a b => decide (a ≤ b) = true) := by
  intro l
  induction l with
  | nil => intro _; simp [insI]
  | cons y l ih =>
    intro h
    rw [List.pairwise_cons] at h
    unfold insI
    split
    · rename_i hxy
      refine List.pairwise_cons.2 ⟨fun z hz => ?_, List.pairwise_cons.2 h⟩
      rcases List.mem_cons.1 hz with rfl | hz
      · simpa using hxy
      · have := h.1 z hz
        simp only [decide_eq_true_eq] at this ⊢
        omega
    · rename_i hxy
      refine List.pairwise_cons.2 ⟨fun z hz => ?_, ih h.2⟩
      rcases List.mem_cons.1 ((insI_perm x l).mem_iff.1 hz) with rfl | hz
      · simp only [decide_eq_true_eq]; omega
      · exact h.1 z hz

theorem sortI_sorted : ∀ l : List Int, (sortI l).Pairwise (fun a b => decide (a ≤ b) = true) := by
  intro l
  induction l with
  | nil => exact .nil
  | cons x l ih => exact insI_sorted x _ ih

/-- One sorted list. -/
theorem sortI_eq {ss l : List Int} (h : ss.Perm l) : ss.mergeSort (fun x y => decide (x ≤ y)) = sortI l := by
  have tr : ∀ a b c : Int, decide (a ≤ b) = true → decide (b ≤ c) = true → decide (a ≤ c) = true := fun a b c h1 h2 => by simp only [decide_eq_true_eq] at *; omega
  have to : ∀ a b : Int, (decide (a ≤ b) || decide (b ≤ a)) = true := fun a b => by simp only [Bool.or_eq_true, decide_eq_true_eq]; omega
  refine List.Perm.eq_of_pairwise (le := fun a b => decide (a ≤ b) = true) (fun a b _ _ h1 h2 => ?_) (List.pairwise_mergeSort tr to ss) (sortI_sorted l) (((List.mergeSort_perm ss _).trans h).trans (sortI_perm l).symm)
  simp only [decide_eq_true_eq] at h1 h2
  omega

namespace Ev
/-- The keys of a map, if they are such as0 a map's are. -/
def keysI : List (V × V × Nat) → Nat → Option (List Int)
  | [], _ => some []
  | (.raw (.int .i64 n), _, b) :: l, c =>
    match keysI l c with
    | some ks => if b < c ∧ (l.all fun x => decide (x.2.2 ≠ b)) = true ∧ (ks.all fun k => decide (k ≠ n)) = true ∧ (Lit.int .i64 n).wf = true then some (n :: ks) else none
    | none => none
  | _, _ => none

/-- The keys of a map in order. -/
def natSorted (fS fK : FuncId) (e : TypeId) : Rec := fun f xs h =>
  if f = fS then
    match xs with
    | [.fn (.func g) [] [.ptr k 0]] =>
      if g = fK then
        match cellsAt h k with
        | some (_, [m]) =>
          match m with
          | .raw (.map none) => some [(.raw (.slice none 0 0), h)]
          | .map r => match h.get r with
            | some (.map es clock) => match keysI es clock with
              | some [] => some [(.raw (.slice none 0 0), h)]
              | some (k :: ks) => if ks.length < 100000 then some [(.sl h.next 0 (ks.length + 1) false (ks.length + 1) 1, h.new (.cells e ((sortI (k :: ks)).map fun n => .raw (.int .i64 n))))] else none
              | none => none
            | _ => none
          | _ => none
        | _ => none
      else none
    | _ => none
  else none
end Ev

section
variable {P : Program} {base : Nat} {w0 w : World} {ρ : Lay} {h : VH}

theorem keysI_ok {e : TypeId} (hi : P.underlying e = some (.int .i64)) {c : Nat} : ∀ {es : List (V × V × Nat)} {us : List MapEntry} {ks : List Int}, Al (ER ρ) es us → Ev.keysI es c = some ks →
    us.map (·.key) = ks.map encZ ∧ (∀ x ∈ us, x.born < c) ∧ (us.map (·.born)).Nodup ∧ ks.Nodup ∧ (∀ x ∈ us, ∃ n, x.key = encZ n ∧ keyOf P e x.key = some (.int .i64 n)) := by
  intro es
  induction es with
  | nil =>
    intro us ks hal he
    rw [hal.unnil]
    simp only [Ev.keysI, Option.some.injEq] at he
    subst he
    exact ⟨rfl, by simp, .nil, .nil, by simp⟩
  | cons x es ih =>
    intro us ks hal he
    obtain ⟨u, us, rfl, hx, hr⟩ := hal.uncons
    obtain ⟨a, v, b⟩ := x
    unfold Ev.keysI at he
    split at he
    · rename_i heq; cases heq
    · rename_i n v' b' l heq
      cases heq
      split at he
      · rename_i ks' hks
        split at he
        · rename_i hc
          obtain ⟨c1, c2, c3, c4⟩ := hc
          cases he
          obtain ⟨h1, h2, h3, h4, h5⟩ := ih hr hks
          have hkey : u.key = .int .i64 n := hx.key.raw_eq
          have hb : u.born = b := hx.born
          refine ⟨by simp [hkey, h1], ?_, ?_, ?_, ?_⟩
          · intro y hy
            rcases List.mem_cons.1 hy with rfl | hy
            · omega
            · exact h2 y hy
          · rw [List.map_cons, List.nodup_cons]
            refine ⟨?_, h3⟩
            rw [List.mem_map]
            rintro ⟨y, hy, hyb⟩
            obtain ⟨i, hi', rfl⟩ := List.getElem_of_mem hy
            have hi2 : i < es.length := by have := hr.1; omega
            have hrel := hr.2 i es[i] us[i] (List.getElem?_eq_getElem hi2) (List.getElem?_eq_getElem hi')
            have := List.all_eq_true.1 c2 es[i] (List.getElem_mem hi2)
            simp only [decide_eq_true_eq] at this
            have := hrel.born
            omega
          · rw [List.nodup_cons]
            refine ⟨fun hm => ?_, h4⟩
            have := List.all_eq_true.1 c3 n hm
            simp at this
          · intro y hy
            rcases List.mem_cons.1 hy with rfl | hy
            · refine ⟨n, hkey, ?_⟩
              rw [hkey]
              simp [keyOf, hi, mapKey, c4]
            · exact h5 y hy
        · cases he
      · cases he
    · cases he

theorem insert_perm {H : Type} (x : Lit × DataW H) : ∀ l : List (Lit × DataW H), (DataW.insert x l).Perm (x :: l) := by
  intro l
  induction l with
  | nil => exact .refl _
  | cons y l ih =>
    unfold DataW.insert
    split
    · exact .refl _
    · exact (List.Perm.cons y ih).trans (List.Perm.swap x y l)

theorem inserts_perm {H : Type} : ∀ l : List (Lit × DataW H), (l.foldr DataW.insert []).Perm l := by
  intro l
  induction l with
  | nil => exact .refl _
  | cons x l ih => exact (insert_perm x _).trans (List.Perm.cons x ih)

/-- A map as0 the library's contracts see it. -/
theorem owns_of {e : TypeId} (hi : P.underlying e = some (.int .i64)) {b c : Nat} {es : List (V × V × Nat)} {us : List MapEntry} {ks : List Int} (hb : w.heap[b]? = some (.map us.toArray c)) (hal : Al (ER ρ) es us) (he : Ev.keysI es c = some ks)
    (hlen : ks.length ≤ 100000) : ∃ D0 : DataW Unit, w.ownsMap P e RNil b ks.length D0 ∧ (intKeys D0).Perm ks ∧ Maps.size D0 = ks.length := by
  obtain ⟨h1, h2, h3, h4, h5⟩ := keysI_ok hi hal he
  have hl : us.length = ks.length := by have := congrArg List.length h1; simpa using this
  refine ⟨.map ((us.map (WideElems.rg P e RNil)).foldr DataW.insert []), ⟨us.toArray, c, hb, ⟨?_, ?_, ?_⟩, by simp [hl], rfl⟩, ?_, ?_⟩
  · simp only [List.size_toArray, hl, maxLen]; omega
  · refine ⟨by simpa using h2, by simpa using h3, ?_⟩
    simp only [h1]
    exact List.pairwise_map.2 (h4.imp fun {a b} hne heq => hne (encZ_inj heq))
  · intro x hx
    obtain ⟨n, _, hk⟩ := h5 x (by simpa using hx)
    exact ⟨_, WideElems.rd_mk hk rfl⟩
  · show (((us.map (WideElems.rg P e RNil)).foldr DataW.insert []).map fun p => intOf p.1).Perm ks
    refine ((inserts_perm _).map _).trans ?_
    rw [List.map_map]
    have : us.map ((fun p : Lit × DataW Unit => intOf p.1) ∘ WideElems.rg P e RNil) = ks := by
      have e2 : us.map ((fun p : Lit × DataW Unit => intOf p.1) ∘ WideElems.rg P e RNil) = (us.map (·.key)).map fun v => match v with | .int _ n => n | _ => 0 := by
        rw [List.map_map]
        refine List.map_congr_left fun x hx => ?_
        obtain ⟨n, hk, hko⟩ := h5 x hx
        have := WideElems.rg_of (WideElems.rd_mk (P := P) (k := e) (R := RNil) (val := x.val) (born := x.born) hko rfl)
        simp only [Function.comp]
        rw [this, hk]
        rfl
      rw [e2, h1, List.map_map]
      conv => rhs; rw [← List.map_id ks]
      exact List.map_congr_left fun n _ => rfl
    rw [this]
  · show ((us.map (WideElems.rg P e RNil)).foldr DataW.insert []).length = _
    rw [(inserts_perm _).length_eq]
    simp [hl]

theorem natSorted_ok {fS fK : FuncId} {e : TypeId} (S : SortedAt P fS fK e) : RecOk P base w0 (Ev.natSorted fS fK e) := by
  intro f as0 h l he ρ as' w hv r K hK
  unfold Ev.natSorted at he
  split at he
  · rename_i hf; subst hf
    split at he
    · rename_i g k
      split at he
      · rename_i hg; subst hg
        obtain ⟨x', _, rfl, hx, ht⟩ := hv.uncons
        rw [ht.unnil]
        cases hx with
        | @fn _ _ _ a' b' hl1 _ hl2 hb =>
        obtain rfl : a' = [] := by simpa using hl1.symm
        obtain ⟨p', _, rfl, hp, ht'⟩ := Al.uncons (R := VR ρ) ⟨hl2, hb⟩
        rw [ht'.unnil]
        cases hp with
        | @ptr _ _ bl n hk =>
        split at he
        · rename_i t m hc
          obtain ⟨b1, n1, cv, ext, fr, g1, g2, g3, g4, g5, g6⟩ := r.cells hc
          rw [hk] at g1; cases g1
          obtain ⟨m', _, rfl, hm, ht2⟩ := g4.uncons
          have hcell : w.cell? ⟨bl, 0, none⟩ = some m' := by
            rw [cell_fr g3]; rfl
          have hlt : bl < w.heap.size := (Array.getElem?_eq_some_iff.1 g3).1
          have nil : m' = .map none → l = [(.raw (.slice none 0 0), h)] → UponS P K (fun _ _ => False) ((callFunc f #[.func (.func g) #[] #[.pointer (some ⟨bl, 0, none⟩)]]).run P w) := by
            rintro rfl rfl
            rw [S.enters]
            refine (S.none bl w hlt hcell).mono ?_
            rintro x w' ⟨rfl, hb⟩
            exact hK _ List.mem_cons_self ρ _ _ (Ext.refl ρ) (.raw _) (r.grow hb)
          split at he
          · cases he
            exact nil hm.raw_eq rfl
          · rename_i rr
            cases hm with
            | @map _ b n2 hr =>
            split at he
            · rename_i es clock hget
              obtain ⟨b', n', y, q1, q2, q3, q4⟩ := r.obj _ _ hget
              rw [hr] at q1; cases q1
              cases q4 with
              | @map _ us _ hal =>
              have key : ∀ ks, Ev.keysI es clock = some ks → ks.length ≤ 100000 →
                  (∀ v ss w', ss.Perm ks → w'.ownsRow w.heap.size e 1 v ss.length ((ss.mergeSort (fun x y => decide (x ≤ y))).map encZ) → (v = .slice none 0 0 ↔ ss = []) → Below w.heap.size w w' → K v w') →
                  UponS P K (fun _ _ => False) ((callFunc f #[.func (.func g) #[] #[.pointer (some ⟨bl, 0, none⟩)]]).run P w) := by
                intro ks hks hlen hk2
                obtain ⟨D0, d1, d2, d3⟩ := owns_of S.int q3 hal hks hlen
                rw [S.enters]
                refine (S.sorts bl _ _ D0 w hlt hcell d1 (by omega)).mono ?_
                rintro x w' ⟨v, ss, rfl, s1, s2, s3, s4⟩
                exact hk2 v ss w' (s1.trans d2) s2 s3 s4
              split at he
              · rename_i hks
                cases he
                refine key [] hks (by simp) fun v ss w' s1 s2 s3 s4 => ?_
                have : v = .slice none 0 0 := s3.2 (List.Perm.eq_nil s1)
                subst this
                exact hK _ List.mem_cons_self ρ _ _ (Ext.refl ρ) (.raw _) (r.grow s4)
              · rename_i k1 ks hks
                split at he
                · rename_i hlen
                  cases he
                  refine key (k1 :: ks) hks (by simp; omega) fun v ss w' s1 s2 s3 s4 => ?_
                  have hl : ss.length = ks.length + 1 := by have := s1.length_eq; simpa using this
                  rw [sortI_eq s1, hl] at s2
                  have hrel : VRs ρ ((sortI (k1 :: ks)).map fun n => .raw (.int .i64 n)) ((sortI (k1 :: ks)).map encZ) := by
                    have := raws_rel (ρ := ρ) ((sortI (k1 :: ks)).map encZ)
                    rw [List.map_map] at this
                    exact this
                  obtain ⟨ρ', o1, o2, o3⟩ := r.own s4 (by decide) (by omega) s2 hrel
                  exact hK _ List.mem_cons_self ρ' _ _ o1 o2 o3
                · cases he
              · cases he
            · cases he
          · cases he
        · cases he
      · cases he
    · cases he
  · cases he
end
end Go.Fr

-- FrQuiet
namespace Go.Fr
open Go
set_option linter.unusedSectionVars false
variable [Sig]

/-- Trees that only look. -/
inductive QuietSP : SP → Prop
  | done (t : Nat) (vs : List Value) : QuietSP (.done t vs)
  | rd {s : Sem Next} {k : Value → SP} (h : ∀ v, QuietSP (k v)) : QuietSP (.rd s k)
  | chk {s : Sem Next} {v : Value} {k : SP} (h : QuietSP k) : QuietSP (.chk s v k)
  | drew {p : SP} (h : QuietSP p) : QuietSP (.drew p)

theorem QuietSP.run {P : Program} {E : List PanicEntry → World → Prop} {p : SP} (q : QuietSP p) : ∀ {w : World} {R : Nat → List Value → World → Prop}, Run P E p w R →
    Run P E p w fun t vs w' => R t vs w' ∧ ∃ n, w' = w.drewN n := by
  induction q with
  | done t vs => intro w R h; exact ⟨h, 0, rfl⟩
  | rd _ ih => intro w R h; obtain ⟨v, hv, h⟩ := h; exact ⟨v, hv, ih v h⟩
  | chk _ ih => intro w R h; obtain ⟨hv, h⟩ := h; exact ⟨hv, ih h⟩
  | drew _ ih =>
    intro w R h
    refine Run.mono (fun _ _ h => h) _ ?_ (ih (w := { w with drawn := w.drawn + 1 }) h)
    rintro t vs w' ⟨h, n, rfl⟩
    exact ⟨h, n + 1, by simp [World.drewN, Nat.add_assoc, Nat.add_comm 1]⟩

def T.quiet : T → Bool
  | .rd _ k => k.quiet
  | .chk _ _ k => k.quiet
  | .drew p => p.quiet
  | .fin _ _ => true
  | _ => false

theorem T.quiet_sp : ∀ {t : T} {g : Nat} {e : List (List Value)}, t.quiet = true → QuietSP (t.sp g e []) := by
  intro t
  induction t with
  | rd d k ih => intro g e h; exact .rd fun v => ih h
  | chk d x k ih => intro g e h; exact .chk (ih h)
  | drew p ih => intro g e h; exact .drew (ih h)
  | fin rs xs => intro g e _; exact .rd fun v => .done _ _
  | _ => intro g e h; cases h

/-- A call of a function that only looks. -/
theorem calls_quiet {P : Program} (hm : P.follows .mixedOrders = true) {base : Nat} {w0 w : World} {ρ : Lay} {h : VH} {f : FuncId} {fn : Func} {A : Ann} {t : T} {n fuel : Nat} {as0 : List V} {as' : List Value} {u : Value} {h' : VH}
    (hf : P.funcs[f]? = some fn) (hden : ∀ args : List Value, args.length = n → denF fn A args = t.sp 0 (rows args) []) (hq : t.quiet = true) (hn : as0.length = n)
    (hev : (Ev.ev P (fun _ _ _ => none) (fun _ _ _ => none) fuel t 0 (as0.map fun a => [a]) [] h) = some [⟨0, [.raw u], h'⟩]) (hv : VRs ρ as0 as') (r : WR base w0 ρ h w) :
    Calls P f as'.toArray w fun e w' => e = .returned u ∧ ∃ q, w' = w.drewN q := by
  have hrun := ev_ok (P := P) (base := base) (w0 := w0) (rec := fun _ _ _ => none) (recD := fun _ _ _ => none) opn_ok next_ok (fun _ _ _ _ he => by cases he) (fun _ _ _ _ he => by cases he) t hev (rows_rel hv) (Al.nil (R := DR ρ)) r
  have hrun2 := (T.quiet_sp (g := 0) (e := rows as') hq).run hrun
  rw [← hden as' (by rw [← hv.1, hn])] at hrun2
  refine (calls_of_den (P := P) hm (f := f) (A := A) (args := as') (w := w) (R := fun v w' => v = u ∧ ∃ q, w' = w.drewN q) hf (Run.mono (fun _ _ h => h) _ (fun t vs w' hp => ?_) hrun2)).mono ?_
  · obtain ⟨⟨o, ho, _, ρ', _, h2, _⟩, h3⟩ := hp
    rw [List.mem_singleton] at ho
    subst ho
    obtain ⟨v, _, rfl, hv1, _⟩ := h2.uncons
    exact ⟨hv1.raw_eq, h3⟩
  · rintro e w' ⟨v, rfl, rfl, h3⟩
    exact ⟨rfl, h3⟩
end Go.Fr

-- FrSortedF
namespace Go.Fr
open Go Go.RowKit
set_option linter.unusedSectionVars false
variable [Sig]

/-- What a sort of a map's keys by a function does: l, the keys in their order; c, what the function tells of two. -/
structure SortedFAt (P : Program) (fS fK : FuncId) (e : TypeId) : Prop where
  enters : ∀ args w, (callFunc fS args).run P w = .ok (.enter fS args) w
  int : P.underlying e = some (.int .i64)
  sorts : ∀ (fC : FuncId) (cb : List Value) (Bm b nn : Nat) (D0 : DataW Unit) (l : List Int) (c : Int → Int → Int) (w : World), l ≠ [] → Bm < w.heap.size → w.cell? ⟨Bm, 0, none⟩ = some (.map (some b)) → w.ownsMap P e RNil b nn D0 →
    Maps.size D0 ≤ 100000 → (intKeys D0).Perm l → (∀ args w, (callFunc fC args).run P w = .ok (.enter fC args) w) →
    (∀ (i j : Nat) (x y : Int), l[i]? = some x → l[j]? = some y → (c x y < 0 ↔ i < j)) →
    (∀ (x y : Int) (w' : World), x ∈ l → y ∈ l → Below w.heap.size w w' → Calls P fC (Value.int .i64 x :: Value.int .i64 y :: cb).toArray w' fun e w'' => e = .returned (.int .i64 (c x y)) ∧ ∃ q, w'' = w'.drewN q) →
    Calls P fS #[.func (.func fK) #[] #[.pointer (some ⟨Bm, 0, none⟩)], .func (.func fC) #[] cb.toArray] w fun x w' => ∃ v : Value, x = .returned v ∧
      w'.ownsRow w.heap.size e 1 v l.length (l.map encZ) ∧ Below w.heap.size w w'
  none : ∀ (Bm b nn : Nat) (D0 : DataW Unit) (w : World) (v : Value), Bm < w.heap.size → (w.cell? ⟨Bm, 0, none⟩ = some (.map none) ∨ w.cell? ⟨Bm, 0, none⟩ = some (.map (some b)) ∧ w.ownsMap P e RNil b nn D0 ∧ intKeys D0 = [] ∧ Maps.size D0 ≤ 100000) →
    Calls P fS #[.func (.func fK) #[] #[.pointer (some ⟨Bm, 0, none⟩)], v] w fun x w' => x = .returned (.slice none 0 0) ∧ Below w.heap.size w w'

namespace Ev
/-- What a function tells of two numbers: a function that only looks. -/
def cmpOf (P : Program) (t : T) (cb : List V) (h : VH) (x y : Int) : Option Int :=
  match ev P (fun _ _ _ => none) (fun _ _ _ => none) 0 t 0 ((.raw (.int .i64 x) :: .raw (.int .i64 y) :: cb).map fun a => [a]) [] h with
  | some [⟨0, [.raw (.int .i64 c)], _⟩] => some c
  | _ => none

def insF (lt : Int → Int → Option Bool) (x : Int) : List Int → Option (List Int)
  | [] => some [x]
  | y :: l => match lt x y with
    | some true => some (x :: y :: l)
    | some false => (insF lt x l).map (y :: ·)
    | none => none

def sortF (lt : Int → Int → Option Bool) : List Int → Option (List Int)
  | [] => some []
  | x :: l => match sortF lt l with
    | some l' => insF lt x l'
    | none => none

/-- Each is less than all behind it, and not the other way round; none is less than itself. -/
def isOrder (lt : Int → Int → Option Bool) : List Int → Bool
  | [] => true
  | x :: l => (lt x x == some false) && l.all (fun y => lt x y == some true && lt y x == some false) && isOrder lt l

/-- The keys of a map in the order that a function tells. -/
def natSortedF (P : Program) (fS fK fC : FuncId) (e : TypeId) (t : T) : Rec := fun f xs h =>
  if f = fS then
    match xs with
    | [.fn (.func g) [] [.ptr k 0], .fn (.func g2) [] cb] =>
      if g = fK ∧ g2 = fC ∧ cb.length = 1 then
        match cellsAt h k with
        | some (_, [m]) =>
          match m with
          | .raw (.map none) => some [(.raw (.slice none 0 0), h)]
          | .map r => match h.get r with
            | some (.map es clock) => match keysI es clock with
              | some [] => some [(.raw (.slice none 0 0), h)]
              | some (k :: ks) => if ks.length < 100000 then
                  let lt := fun x y => (cmpOf P t cb h x y).map fun c => decide (c < 0)
                  match sortF lt (k :: ks) with
                  | some l => if isOrder lt l then some [(.sl h.next 0 (ks.length + 1) false (ks.length + 1) 1, h.new (.cells e (l.map fun n => .raw (.int .i64 n))))] else none
                  | none => none
                else none
              | none => none
            | _ => none
          | _ => none
        | _ => none
      else none
    | _ => none
  else none
end Ev

section
variable {P : Program} {base : Nat} {w0 w : World} {ρ : Lay} {h : VH}

theorem insF_perm {lt : Int → Int → Option Bool} (x : Int) : ∀ {l r : List Int}, Ev.insF lt x l = some r → r.Perm (x :: l) := by
  intro l
  induction l with
  | nil => intro r he; cases he; exact .refl _
  | cons y l ih =>
    intro r he
    unfold Ev.insF at he
    split at he
    · cases he; exact .refl _
    · rw [Option.map_eq_some_iff] at he
      obtain ⟨r', h1, rfl⟩ := he
      exact (List.Perm.cons y (ih h1)).trans (List.Perm.swap x y l)
    · cases he

theorem sortF_perm {lt : Int → Int → Option Bool} : ∀ {l r : List Int}, Ev.sortF lt l = some r → r.Perm l := by
  intro l
  induction l with
  | nil => intro r he; cases he; exact .refl _
  | cons x l ih =>
    intro r he
    unfold Ev.sortF at he
    split at he
    · rename_i l' hl
      exact (insF_perm x he).trans (List.Perm.cons x (ih hl))
    · cases he

theorem isOrder_ok {lt : Int → Int → Option Bool} : ∀ {l : List Int}, Ev.isOrder lt l = true → ∀ (i j : Nat) (x y : Int), l[i]? = some x → l[j]? = some y → lt x y = some (decide (i < j)) := by
  intro l
  induction l with
  | nil => intro _ i j x y hx; simp at hx
  | cons a l ih =>
    intro ho i j x y hx hy
    simp only [Ev.isOrder, Bool.and_eq_true, beq_iff_eq, List.all_eq_true] at ho
    obtain ⟨⟨h1, h2⟩, h3⟩ := ho
    cases i with
    | zero =>
      simp only [List.getElem?_cons_zero, Option.some.injEq] at hx; subst hx
      cases j with
      | zero => simp only [List.getElem?_cons_zero, Option.some.injEq] at hy; subst hy; simpa using h1
      | succ j =>
        simp only [List.getElem?_cons_succ] at hy
        have := h2 y (List.mem_of_getElem? hy)
        rw [this.1]; simp
    | succ i =>
      simp only [List.getElem?_cons_succ] at hx
      cases j with
      | zero =>
        simp only [List.getElem?_cons_zero, Option.some.injEq] at hy; subst hy
        have := h2 x (List.mem_of_getElem? hx)
        rw [this.2]; simp
      | succ j =>
        simp only [List.getElem?_cons_succ] at hy
        rw [ih h3 i j x y hx hy]; simp

theorem cmpOf_ok (hm : P.follows .mixedOrders = true) {fC : FuncId} {fn : Func} {A : Ann} {t : T} (hf : P.funcs[fC]? = some fn) (hden : ∀ args : List Value, args.length = 3 → denF fn A args = t.sp 0 (rows args) []) (hq : t.quiet = true)
    {cb : List V} {cb' : List Value} {x y c : Int} (hl : cb.length = 1) (he : Ev.cmpOf P t cb h x y = some c) (hv : VRs ρ cb cb') (r : WR base w0 ρ h w) :
    Calls P fC (Value.int .i64 x :: Value.int .i64 y :: cb').toArray w fun e w' => e = .returned (.int .i64 c) ∧ ∃ q, w' = w.drewN q := by
  unfold Ev.cmpOf at he
  split at he
  · rename_i c' h' hev
    cases he
    exact calls_quiet (fuel := 0) hm hf hden hq (by simp [hl]) hev (.cons (.raw _) (.cons (.raw _) hv)) r
  · cases he

theorem natSortedF_ok (hm : P.follows .mixedOrders = true) {fS fK fC : FuncId} {e : TypeId} {t : T} {fn : Func} {A : Ann} (S : SortedFAt P fS fK e) (hf : P.funcs[fC]? = some fn) (hname : (fn.name == "runtime.NumGoroutine") = false) (hb : fn.body.isSome = true)
    (hden : ∀ args : List Value, args.length = 3 → denF fn A args = t.sp 0 (rows args) []) (hq : t.quiet = true) : RecOk P base w0 (Ev.natSortedF P fS fK fC e t) := by
  intro f as0 h l he ρ as' w hv r K hK
  unfold Ev.natSortedF at he
  split at he
  · rename_i hfS; subst hfS
    split at he
    · rename_i g k g2 cb
      split at he
      · rename_i hg
        obtain ⟨hg1, hg2, hcl⟩ := hg
        subst hg1 hg2
        obtain ⟨x', _, rfl, hx, ht⟩ := hv.uncons
        obtain ⟨y', _, rfl, hy, ht⟩ := ht.uncons
        rw [ht.unnil]
        cases hx with
        | @fn _ _ _ a' b' hl1 _ hl2 hb1 =>
        cases hy with
        | @fn _ _ _ a2 cb' hl3 _ hl4 hb2 =>
        obtain rfl : a' = [] := by simpa using hl1.symm
        obtain rfl : a2 = [] := by simpa using hl3.symm
        have hcb : VRs ρ cb cb' := ⟨hl4, hb2⟩
        obtain ⟨p', _, rfl, hp, ht'⟩ := Al.uncons (R := VR ρ) ⟨hl2, hb1⟩
        rw [ht'.unnil]
        cases hp with
        | @ptr _ _ bl n hk =>
        split at he
        · rename_i tt m hc
          obtain ⟨b1, n1, cv, ext, fr, g1, g2', g3, g4, g5, g6⟩ := r.cells hc
          rw [hk] at g1; cases g1
          obtain ⟨m', _, rfl, hm', ht2⟩ := g4.uncons
          have hcell : w.cell? ⟨bl, 0, none⟩ = some m' := by
            rw [cell_fr g3]; rfl
          have hlt : bl < w.heap.size := (Array.getElem?_eq_some_iff.1 g3).1
          have nil : ∀ (b nn : Nat) (D0 : DataW Unit), (m' = .map none ∨ m' = .map (some b) ∧ w.ownsMap P e RNil b nn D0 ∧ intKeys D0 = [] ∧ Maps.size D0 ≤ 100000) → l = [(.raw (.slice none 0 0), h)] →
              UponS P K (fun _ _ => False) ((callFunc f #[.func (.func g) #[] #[.pointer (some ⟨bl, 0, none⟩)], .func (.func g2) #[] cb'.toArray]).run P w) := by
            rintro b nn D0 hm0 rfl
            rw [S.enters]
            refine (S.none bl b nn D0 w _ hlt (by rw [hcell]; simpa using hm0)).mono ?_
            rintro x w' ⟨rfl, hb⟩
            exact hK _ List.mem_cons_self ρ _ _ (Ext.refl ρ) (.raw _) (r.grow hb)
          split at he
          · cases he
            exact nil 0 0 (.nil) (.inl hm'.raw_eq) rfl
          · rename_i rr
            cases hm' with
            | @map _ b n2 hr =>
            split at he
            · rename_i es clock hget
              obtain ⟨b', n', y, q1, q2, q3, q4⟩ := r.obj _ _ hget
              rw [hr] at q1; cases q1
              cases q4 with
              | @map _ us _ hal =>
              split at he
              · rename_i hks
                cases he
                obtain ⟨D0, d1, d2, d3⟩ := owns_of S.int q3 hal hks (by simp)
                exact nil _ _ D0 (.inr ⟨rfl, d1, List.Perm.eq_nil d2, by simp at d3; omega⟩) rfl
              · rename_i k1 ks hks
                split at he
                · rename_i hlen
                  simp only at he
                  split at he
                  · rename_i ls hls
                    split at he
                    · rename_i hord
                      cases he
                      have hpm := sortF_perm hls
                      have hll : ls.length = ks.length + 1 := by simpa using hpm.length_eq
                      obtain ⟨D0, d1, d2, d3⟩ := owns_of S.int q3 hal hks (by simp; omega)
                      have hsome : ∀ x y, x ∈ ls → y ∈ ls → ∃ c, Ev.cmpOf P t cb h x y = some c := fun x y hx hy => by
                        obtain ⟨i, hi, rfl⟩ := List.getElem_of_mem hx
                        obtain ⟨j, hj, rfl⟩ := List.getElem_of_mem hy
                        have := isOrder_ok hord i j _ _ (List.getElem?_eq_getElem hi) (List.getElem?_eq_getElem hj)
                        rw [Option.map_eq_some_iff] at this
                        obtain ⟨c, hc, _⟩ := this
                        exact ⟨c, hc⟩
                      rw [S.enters]
                      refine (S.sorts g2 cb' bl _ _ D0 ls (fun x y => (Ev.cmpOf P t cb h x y).getD 0) w (by intro hq; rw [hq] at hll; simp at hll) hlt hcell d1 (by simp at d3; omega) (d2.trans hpm.symm) (fun args w => run_callFunc_in hf hname hb args w) ?_ ?_).mono ?_
                      · intro i j x y hx hy
                        have h1 := isOrder_ok hord i j x y hx hy
                        rw [Option.map_eq_some_iff] at h1
                        obtain ⟨c, hc, hd⟩ := h1
                        simp only [hc, Option.getD_some]
                        simpa using hd
                      · intro x y w' hx hy hbw
                        obtain ⟨c, hc⟩ := hsome x y hx hy
                        have := cmpOf_ok (w := w') hm hf hden hq hcl hc hcb (r.grow hbw)
                        simpa [hc] using this
                      · rintro x w' ⟨v, rfl, o1, o2⟩
                        rw [hll] at o1
                        have hrel : VRs ρ (ls.map fun n => .raw (.int .i64 n)) (ls.map encZ) := by
                          have := raws_rel (ρ := ρ) (ls.map encZ)
                          rw [List.map_map] at this
                          exact this
                        obtain ⟨ρ', p1, p2, p3⟩ := r.own o2 (by decide) (by omega) o1 hrel
                        exact hK _ List.mem_cons_self ρ' _ _ p1 p2 p3
                    · cases he
                  · cases he
                · cases he
              · cases he
            · cases he
          · cases he
        · cases he
      · cases he
    · cases he
  · cases he
end
end Go.Fr

-- FrRun
namespace Go.Fr
open Go Go.RowKit
set_option linter.unusedSectionVars false
variable [Sig]

def VH.none : VH := ⟨.nil, 0⟩

/-- Where nothing is named. -/
instance Sig.plain : Sig := ⟨fun _ => .bool true, fun _ => rfl⟩

/-- One native or the other. -/
def Ev.orRec (a b : Ev.Rec) : Ev.Rec := fun f xs h => match a f xs h with
  | some r => some r
  | none => b f xs h

section
variable {P : Program} {base : Nat} {w0 : World}

theorem orRec_ok {a b : Ev.Rec} (ha : RecOk P base w0 a) (hb : RecOk P base w0 b) : RecOk P base w0 (Ev.orRec a b) := by
  intro f as0 h l he
  unfold Ev.orRec at he
  split at he
  · rename_i r hr; cases he; exact ha _ _ _ _ hr
  · exact hb _ _ _ _ he

theorem noRec_ok : RecOk P base w0 (fun _ _ _ => none) := fun _ _ _ _ he => by cases he

theorem WR.start (w : World) : WR w.heap.size w [] VH.none w := by
  refine ⟨Below.refl _ w, Nat.le_refl _, rfl, fun k o hk => ?_, fun k k' o o' b n n' hk => ?_⟩
  · simp [VH.get, VH.none, PT.get] at hk
  · simp [VH.get, VH.none, PT.get] at hk

/-- What the evaluator says of a whole run. -/
theorem calls_of_ev {rec : Ev.Rec} {f : FuncId} {fn : Func} {as0 : List V} {as' : List Value} (hf : P.funcs[f]? = some fn) (hname : (fn.name == "runtime.NumGoroutine") = false) (hb : fn.body.isSome = true) (w : World) (hr : RecOk P w.heap.size w rec) (hv : VRs [] as0 as')
    (he : (rec f as0 VH.none).map (List.map (·.1)) = some [.raw (.bool true)]) :
    Calls P f as'.toArray w fun e w' => e = .returned (.bool true) ∧ Below w.heap.size w w' := by
  rw [Option.map_eq_some_iff] at he
  obtain ⟨l, hl, he⟩ := he
  have h1 := hr f as0 VH.none l hl [] as' w hv (WR.start w) (fun v w' => v = .bool true ∧ Below w.heap.size w w') (fun r hrl ρ' u w' _ hu hw => by
    have : r.1 ∈ l.map (·.1) := List.mem_map_of_mem hrl
    rw [he, List.mem_singleton] at this
    rw [this] at hu
    exact ⟨hu.raw_eq, hw.below⟩)
  rw [run_callFunc_in hf hname hb] at h1
  refine Calls.mono h1 ?_
  intro e w' h
  cases e with
  | returned v => obtain ⟨rfl, h⟩ := h; exact ⟨rfl, h⟩
  | panicked => exact h.elim
  | outgrown => exact h.elim
end
end Go.Fr

-- FrIdle
namespace Go.Fr
open Go Go.RowKit
set_option linter.unusedSectionVars false
variable [Sig]

/-- A deferred function that does nothing where nothing has panicked. -/
structure IdleAt (P : Program) (f : FuncId) : Prop where
  enters : ∀ args w, (callFunc f args).run P w = .ok (.enter f args) w
  idle : ∀ (x : Value) (w : World), CallsD P f #[x] .returning w fun e u' w' => e = .returned (.tuple #[]) ∧ u' = .returning ∧ w' = w

def Ev.dfrIdle (f0 : FuncId) : Ev.Rec := fun f xs h => if f = f0 ∧ xs.length = 1 then some [(.raw (.tuple #[]), h)] else none

/-- Does each way come to true? -/
def allTrue : Option (List (V × VH)) → Bool
  | some l => l.all fun r => match r.1 with | .raw (.bool true) => true | _ => false
  | none => false

section
variable {P : Program} {base : Nat} {w0 : World}

theorem run_equalIn_nil (d : Nat) {t : TypeId} {ms : Array (String × TypeId)} (hu : P.underlying t = some (.interface ms)) (W : World) : (Op.equalIn (d + 1) t .nilIface .nilIface).run P W = .ok true W := by
  simp [Op.equalIn, run_underlying hu]

theorem dfrIdle_ok {f0 : FuncId} (H : IdleAt P f0) : DfrOk P base w0 (Ev.dfrIdle f0) := by
  intro f as0 h l he ρ as' w hv r
  unfold Ev.dfrIdle at he
  split at he
  · rename_i hf
    obtain ⟨rfl, hl⟩ := hf
    cases he
    have hl' : as'.length = 1 := by rw [← hv.1]; exact hl
    match as', hl' with
    | [x], _ =>
      refine ⟨H.enters _ w, (H.idle x w).mono ?_⟩
      rintro e u' w' ⟨rfl, rfl, rfl⟩
      exact ⟨⟨_, rfl⟩, rfl, _, List.mem_cons_self, ρ, Ext.refl ρ, r⟩
  · cases he

theorem orDfr_ok {a b : Ev.Rec} (ha : DfrOk P base w0 a) (hb : DfrOk P base w0 b) : DfrOk P base w0 (Ev.orRec a b) := by
  intro f as0 h l he
  unfold Ev.orRec at he
  split at he
  · rename_i r hr; cases he; exact ha _ _ _ _ hr
  · exact hb _ _ _ _ he

theorem calls_of_evs {rec : Ev.Rec} {f : FuncId} {fn : Func} {as0 : List V} {as' : List Value} (hf : P.funcs[f]? = some fn) (hname : (fn.name == "runtime.NumGoroutine") = false) (hb : fn.body.isSome = true) (w : World) (hr : RecOk P w.heap.size w rec) (hv : VRs [] as0 as')
    (he : allTrue (rec f as0 VH.none) = true) : Calls P f as'.toArray w fun e w' => e = .returned (.bool true) ∧ Below w.heap.size w w' := by
  unfold allTrue at he
  split at he
  · rename_i l hl
    rw [List.all_eq_true] at he
    have h1 := hr f as0 VH.none l hl [] as' w hv (WR.start w) (fun v w' => v = .bool true ∧ Below w.heap.size w w') (fun r hrl ρ' u w' _ hu hw => by
      have := he r hrl
      split at this
      · rename_i hq
        rw [hq] at hu
        exact ⟨hu.raw_eq, hw.below⟩
      · cases this)
    rw [run_callFunc_in hf hname hb] at h1
    refine Calls.mono h1 ?_
    intro e w' h
    cases e with
    | returned v => obtain ⟨rfl, h⟩ := h; exact ⟨rfl, h⟩
    | panicked => exact h.elim
    | outgrown => exact h.elim
  · cases he
end
end Go.Fr

-- FrSortedN
namespace Go.Fr
open Go Go.RowKit
set_option linter.unusedSectionVars false
variable [Sig]

/-- A sort of what an iterator over a nil map gives. -/
structure SortedNil (P : Program) (fS fK : FuncId) : Prop where
  enters : ∀ args w, (callFunc fS args).run P w = .ok (.enter fS args) w
  none : ∀ (Bm : Nat) (w : World), Bm < w.heap.size → w.cell? ⟨Bm, 0, none⟩ = some (.map none) →
    Calls P fS #[.func (.func fK) #[] #[.pointer (some ⟨Bm, 0, none⟩)]] w fun x w' => x = .returned (.slice none 0 0) ∧ Below w.heap.size w w'

def Ev.natSortedN (fS fK : FuncId) : Ev.Rec := fun f xs h =>
  if f = fS then
    match xs with
    | [.fn (.func g) [] [.ptr k 0]] =>
      if g = fK then
        match Ev.cellsAt h k with
        | some (_, [.raw (.map none)]) => some [(.raw (.slice none 0 0), h)]
        | _ => none
      else none
    | _ => none
  else none

theorem natSortedN_ok {P : Program} {base : Nat} {w0 : World} {fS fK : FuncId} (S : SortedNil P fS fK) : RecOk P base w0 (Ev.natSortedN fS fK) := by
  intro f as0 h l he ρ as' w hv r K hK
  unfold Ev.natSortedN at he
  split at he
  · rename_i hf; subst hf
    split at he
    · rename_i g k
      split at he
      · rename_i hg; subst hg
        obtain ⟨x', _, rfl, hx, ht⟩ := hv.uncons
        rw [ht.unnil]
        cases hx with
        | @fn _ _ _ a' b' hl1 _ hl2 hb =>
        obtain rfl : a' = [] := by simpa using hl1.symm
        obtain ⟨p', _, rfl, hp, ht'⟩ := Al.uncons (R := VR ρ) ⟨hl2, hb⟩
        rw [ht'.unnil]
        cases hp with
        | @ptr _ _ bl n hk =>
        split at he
        · rename_i t hc
          cases he
          obtain ⟨b1, n1, cv, ext, fr, g1, g2, g3, g4, g5, g6⟩ := r.cells hc
          rw [hk] at g1; cases g1
          obtain ⟨m', _, rfl, hm, ht2⟩ := g4.uncons
          have hm' := hm.raw_eq
          subst hm'
          have hcell : w.cell? ⟨bl, 0, none⟩ = some (.map none) := by
            rw [cell_fr g3]; rfl
          have hlt : bl < w.heap.size := (Array.getElem?_eq_some_iff.1 g3).1
          rw [S.enters]
          refine (S.none bl w hlt hcell).mono ?_
          rintro x w' ⟨rfl, hb⟩
          exact hK _ List.mem_cons_self ρ _ _ (Ext.refl ρ) (.raw _) (r.grow hb)
        · cases he
      · cases he
    · cases he
  · cases he
end Go.Fr

-- FrSortedL
namespace Go.Fr
open Go Go.RowKit Go.Sort Go.Proofs
set_option linter.unusedSectionVars false
variable [Sig]

/-- The tree of such a sort. -/
def sortT (fCol fSrt : FuncId) (rs : List ResultVar) : T :=
  .op (.call fCol [(.v 0 0)]) <|
  .op (.call fSrt [(.v 0 0), (.v 2 0)]) <|
  .fin rs [(.v 1 0)]

/-- What collecting a map's keys does. -/
structure CollectAt (P : Program) (fCol fK : FuncId) (e : TypeId) : Prop where
  enters : ∀ args w, (callFunc fCol args).run P w = .ok (.enter fCol args) w
  full : ∀ (Bm b nn : Nat) (D0 : DataW Unit) (w : World), Bm < w.heap.size → w.cell? ⟨Bm, 0, none⟩ = some (.map (some b)) → w.ownsMap P e RNil b nn D0 → Maps.size D0 ≤ 100000 →
    Calls P fCol #[.func (.func fK) #[] #[.pointer (some ⟨Bm, 0, none⟩)]] w fun x w' => ∃ (v : Value) (ss : List Int), x = .returned v ∧ ss.Perm (intKeys D0) ∧
      w'.ownsRow w.heap.size e 1 v ss.length (ss.map encZ) ∧ (v = .slice none 0 0 ↔ ss = []) ∧ Below w.heap.size w w'
  empt : ∀ (Bm : Nat) (w : World), Bm < w.heap.size → w.cell? ⟨Bm, 0, none⟩ = some (.map none) →
    Calls P fCol #[.func (.func fK) #[] #[.pointer (some ⟨Bm, 0, none⟩)]] w fun x w' => x = .returned (.slice none 0 0) ∧ Below w.heap.size w w'

/-- What sorting a row by a function does. -/
structure SortFAt (P : Program) (fSrt : FuncId) : Prop where
  enters : ∀ args w, (callFunc fSrt args).run P w = .ok (.enter fSrt args) w
  sorts : ∀ (n : Nat) (enc : Fin (n + 1) → Value) (cf : Fin (n + 1) → Fin (n + 1) → Int) (g : Nat) (cb : Array Value) (blk off cap : Nat) (d : Array (Fin (n + 1))) (w : World), OneCell enc → SWO (ltOf cf) →
    (∀ args w, (callFunc g args).run P w = .ok (.enter g args) w) → CmpLays1 P g cb enc cf blk off d.size w → Go.Sort.Holds enc w blk off d → blk < w.heap.size → d.size < 4611686018427387904 →
    (∀ x y, (ltOf cf) x y = false → (ltOf cf) y x = false → x = y) →
    Calls P fSrt #[.slice (some ⟨blk, off, none⟩) d.size cap, .func (.func g) #[] cb] w fun e w' =>
      e = .returned (.tuple #[]) ∧ ∃ n os, w' = sortWorld enc w blk off n (d.toList.mergeSort fun x y => !(ltOf cf) y x).toArray os
  empt : ∀ (p : Option Addr) (cap : Nat) (fv : Value) (w : World), Calls P fSrt #[.slice p 0 cap, fv] w fun e w' => e = .returned (.tuple #[]) ∧ w' = w

section
variable {P : Program}

theorem run_sortT {fCol fSrt : FuncId} {r : Tmp} {a0 a1 : Value} {w : World} {R : Nat → List Value → World → Prop}
    (e1 : ∀ args w, (callFunc fCol args).run P w = .ok (.enter fCol args) w) (e2 : ∀ args w, (callFunc fSrt args).run P w = .ok (.enter fSrt args) w)
    (h : Calls P fCol #[a0] w fun x w1 => ∃ v, x = .returned v ∧ Calls P fSrt #[v, a1] w1 fun x w2 => (∃ u, x = .returned u) ∧ R 0 [v] w2) :
    Run P (fun _ _ => False) ((sortT fCol fSrt [.tmp r]).sp 0 (rows [a0, a1]) []) w R := by
  show UponS P _ _ ((callFunc fCol #[a0]).run P w)
  rw [e1]
  refine Calls.mono h ?_
  rintro x w1 ⟨v, rfl, h2⟩
  show UponS P _ _ ((callFunc fSrt #[v, a1]).run P w1)
  rw [e2]
  refine Calls.mono h2 ?_
  rintro x w2 ⟨⟨u, rfl⟩, hR⟩
  exact ⟨v, by simp [resS, resAll, resOne, tupleOf, vals, X.val, tailN], hR⟩

theorem putRow_map {α : Type} [Inhabited α] {enc : α → Value} {f : α → Int} (henc : ∀ x, enc x = encZ (f x)) (w : World) (blk off : Nat) (d : Array α) : putRow enc w blk off d = putRow encZ w blk off (d.map f) := by
  unfold putRow
  congr 1
  funext c
  unfold putCells
  congr 1
  funext k x
  by_cases h : off ≤ k ∧ k < off + d.size
  · rw [if_pos h, if_pos (by simpa using h), henc]
    have hk : k - off < d.size := by omega
    rw [getElem!_pos d _ hk, getElem!_pos (d.map f) _ (by simpa using hk)]
    simp
  · rw [if_neg h, if_neg (by simpa using h)]

theorem sortedF_of (hm : P.follows .mixedOrders = true) {fS fK fCol fSrt : FuncId} {e : TypeId} {fn : Func} {A : Ann} {r : Tmp} (hf : P.funcs[fS]? = some fn) (henter : ∀ args w, (callFunc fS args).run P w = .ok (.enter fS args) w)
    (hden : ∀ a0 a1, denF fn A [a0, a1] = (sortT fCol fSrt [.tmp r]).sp 0 (rows [a0, a1]) []) (hint : P.underlying e = some (.int .i64)) (C : CollectAt P fCol fK e) (S : SortFAt P fSrt) : SortedFAt P fS fK e where
  enters := henter
  int := hint
  none := by
    intro Bm b nn D0 w v hlt hm0
    refine (calls_of_den (P := P) hm (f := fS) (A := A) (args := [.func (.func fK) #[] #[.pointer (some ⟨Bm, 0, none⟩)], v]) (w := w) (R := fun u w' => u = .slice none 0 0 ∧ Below w.heap.size w w') hf ?_).mono (by rintro x w' ⟨u, rfl, rfl, h⟩; exact ⟨rfl, h⟩)
    rw [hden]
    refine run_sortT C.enters S.enters ?_
    have fin : ∀ w1, Below w.heap.size w w1 → Calls P fSrt #[.slice none 0 0, v] w1 fun x w2 => (∃ u, x = .returned u) ∧ ((Value.slice none 0 0) = .slice none 0 0 ∧ Below w.heap.size w w2) := fun w1 hb => (S.empt none 0 v w1).mono (by rintro x w2 ⟨rfl, rfl⟩; exact ⟨⟨_, rfl⟩, rfl, hb⟩)
    rcases hm0 with hm0 | ⟨hm0, hown, hnil, hsz⟩
    · refine (C.empt Bm w hlt hm0).mono ?_
      rintro x w1 ⟨rfl, hb⟩
      exact ⟨_, rfl, fin w1 hb⟩
    · refine (C.full Bm b nn D0 w hlt hm0 hown hsz).mono ?_
      rintro x w1 ⟨u, ss, rfl, h1, _, h3, hb⟩
      rw [hnil] at h1
      have : u = .slice none 0 0 := h3.2 (List.Perm.eq_nil h1)
      subst this
      exact ⟨_, rfl, fin w1 hb⟩
  sorts := by
    intro fC cb Bm b nn D0 l c w hne hlt hm0 hown hsz hperm hC hord hcmp
    refine (calls_of_den (P := P) hm (f := fS) (A := A) (args := [.func (.func fK) #[] #[.pointer (some ⟨Bm, 0, none⟩)], .func (.func fC) #[] cb.toArray]) (w := w) (R := fun u w' => w'.ownsRow w.heap.size e 1 u l.length (l.map encZ) ∧ Below w.heap.size w w') hf ?_).mono (by rintro x w' ⟨u, rfl, h⟩; exact ⟨u, rfl, h⟩)
    rw [hden]
    refine run_sortT C.enters S.enters ?_
    refine (C.full Bm b nn D0 w hlt hm0 hown hsz).mono ?_
    rintro x w1 ⟨u, ss, rfl, h1, h2, h3, hb⟩
    refine ⟨u, rfl, ?_⟩
    have hpm : ss.Perm l := h1.trans hperm
    have hlen : ss.length = l.length := hpm.length_eq
    have hbig : l.length ≤ 100000 := by
      have h4 : (intKeys D0).length ≤ 100000 := by
        cases D0 <;> simp [intKeys] at hsz ⊢
        rename_i es; simpa [Maps.size] using hsz
      rw [← hperm.length_eq]; exact h4
    obtain ⟨m, hlm⟩ : ∃ m, l.length = m + 1 := by
      cases l with
      | nil => exact absurd rfl hne
      | cons a l => exact ⟨l.length, rfl⟩
    rcases h2.2 with ⟨rfl, hz⟩ | ⟨g, cap, cur, rfl, hbase, hg, r1, r2, r3, r4⟩
    · exfalso
      have := h3.1 rfl
      rw [this] at hlen
      simp at hlen; omega
    · -- the keys in their order, by their places
      have hnd : l.Nodup := by
        rw [List.nodup_iff_pairwise_ne, List.pairwise_iff_getElem]
        intro i j hi hj hij heq
        have q1 := hord i j _ _ (List.getElem?_eq_getElem hi) (List.getElem?_eq_getElem hj)
        have q2 := hord i i _ _ (List.getElem?_eq_getElem hi) (List.getElem?_eq_getElem hi)
        rw [← heq] at q1
        have q3 := q1.2 hij
        have q4 := q2.1 q3
        omega
      let f : Fin (m + 1) → Int := fun i => l[i.val]'(by rw [hlm]; exact i.2)
      let idx : Int → Fin (m + 1) := fun x => if hx : l.idxOf x < m + 1 then ⟨l.idxOf x, hx⟩ else ⟨0, by omega⟩
      have fidx : ∀ x ∈ l, f (idx x) = x := fun x hx => by
        have hi : l.idxOf x < l.length := List.idxOf_lt_length_of_mem hx
        simp only [idx]
        rw [dif_pos (by omega)]
        simp only [f]
        exact List.getElem_idxOf hi
      have idxf : ∀ i, idx (f i) = i := fun i => by
        have hi : i.val < l.length := by rw [hlm]; exact i.2
        have : l.idxOf (l[i.val]'hi) = i.val := hnd.idxOf_getElem i.val hi
        simp only [idx, f]
        simp only [this, i.2, dif_pos]
      let enc : Fin (m + 1) → Value := fun i => encZ (f i)
      let cf : Fin (m + 1) → Fin (m + 1) → Int := fun i j => c (f i) (f j)
      have hlt' : ∀ i j, ltOf cf i j = decide (i < j) := fun i j => by
        simp only [ltOf, cf]
        have := hord i.val j.val (f i) (f j) (List.getElem?_eq_getElem _) (List.getElem?_eq_getElem _)
        exact decide_eq_decide.2 (this.trans Fin.lt_def.symm)
      let d : Array (Fin (m + 1)) := (ss.map idx).toArray
      have hd : d.map f = ss.toArray := by
        simp only [d]
        apply Array.ext'
        simp only [List.map_toArray, List.map_map]
        conv => rhs; rw [← List.map_id ss]
        exact List.map_congr_left fun x hx => by simpa using fidx x (hpm.mem_iff.1 hx)
      have hdsz : d.size = ss.length := by simp [d]
      have hmem : ∀ i, f i ∈ l := fun i => List.getElem_mem _
      have hW : ∀ mm os dk, Below w.heap.size w (sortWorld enc w1 g 0 mm dk os) := fun mm os dk => by
        unfold sortWorld
        rw [putRow_map (f := f) (fun _ => rfl)]
        exact hb.grown (grownBy_sorted_i _) hb.size (fun j hj => by cases hj; exact hbase)
      have hH : Go.Sort.Holds enc w1 g 0 d := by
        have := holds_of_block_i hg (by simpa using r4)
        intro j hj
        have hj' : j < ss.length := by omega
        obtain ⟨k1, k2⟩ := this j (by simpa using hj')
        refine ⟨?_, k2⟩
        rw [k1]
        have e3 : ss.toArray[j]! = f d[j]! := by
          rw [← hd, getElem!_pos (d.map f) _ (by simpa using hj), getElem!_pos d _ hj]; simp
        rw [e3]
      have hgl : g < w1.heap.size := (Array.getElem?_eq_some_iff.1 hg).1
      have hcall := S.sorts m enc cf fC cb.toArray g 0 cap d w1 (fun _ => rfl)
        ⟨fun x => by rw [hlt']; simp, fun x y z p q => by rw [hlt'] at *; simp at *; omega, fun x y z p q => by rw [hlt'] at *; simp at *; omega⟩ hC
        (CmpReads.lays fun mm os dk _ x y => by
          have := hcmp (f x) (f y) (sortWorld enc w1 g 0 mm dk os) (hmem x) (hmem y) (hW mm os dk)
          simpa using this) hH hgl (by omega) (fun x y p q => by rw [hlt'] at *; simp at *; omega)
      rw [hdsz] at hcall
      refine hcall.mono ?_
      rintro x w2 ⟨rfl, nn', os, rfl⟩
      refine ⟨⟨_, rfl⟩, ?_, hW _ _ _⟩
      -- what the row holds
      have hsort : (d.toList.mergeSort fun x y => !(ltOf cf) y x).map f = l := by
        have hp2 : ((d.toList.mergeSort fun x y => !(ltOf cf) y x).map f).Perm l := by
          refine ((List.mergeSort_perm _ _).map f).trans ?_
          have : d.toList.map f = ss := by
            have := congrArg Array.toList hd
            simpa using this
          rw [this]; exact hpm
        have tr : ∀ a b c : Fin (m + 1), (!(ltOf cf) b a) = true → (!(ltOf cf) c b) = true → (!(ltOf cf) c a) = true := fun a b c p q => by rw [hlt'] at *; simp at *; omega
        have to : ∀ a b : Fin (m + 1), ((!(ltOf cf) b a) || (!(ltOf cf) a b)) = true := fun a b => by rw [hlt', hlt']; simp; omega
        refine List.Perm.eq_of_pairwise (le := fun a b => idx a ≤ idx b) (fun a b ha hb' p q => ?_) ?_ ?_ hp2
        · have ha' : a ∈ l := hp2.mem_iff.1 ha
          have e4 : idx a = idx b := by omega
          rw [← fidx a ha', ← fidx b hb', e4]
        · rw [List.pairwise_map]
          refine (List.pairwise_mergeSort tr to d.toList).imp ?_
          intro a b p
          rw [idxf, idxf]
          rw [hlt'] at p
          simpa using p
        · rw [List.pairwise_iff_getElem]
          intro i j hi hj hij
          have q1 := idxf ⟨i, by omega⟩
          have q2 := idxf ⟨j, by omega⟩
          simp only [f] at q1 q2
          rw [q1, q2]
          simp only [Fin.mk_le_mk]
          omega
      have := ownsRow_sorted_i (os := os) (n := nn') (base := w.heap.size) (g := g) (cap := cap) (e := e) (cur := cur) (w := w1) (ss := ss) (ts := l) hlen.symm hbase hg r1 r2 r3
      rw [← hlen]
      unfold sortWorld
      rw [putRow_map (f := f) (fun _ => rfl)]
      have e5 : (d.toList.mergeSort fun x y => !(ltOf cf) y x).toArray.map f = l.toArray := by
        apply Array.ext'
        simpa using hsort
      rw [e5]
      exact this
end
end Go.Fr
