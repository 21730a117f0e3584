/-
  This file proves: what the evaluator says of append is so.
-/
import Derived.Test.YtbnaoejdpggekaaGreatFrApp3
import Derived.Test.YtbnaoejdpggekaaGreatFrNext
namespace Go.Fr
open Go
section
variable {P : Program} {w w' : World} {base : Nat} {w0 : World} {ρ : Lay} {h : VH}

theorem Ev.adds_ok {t e : TypeId} {ti : TI} {d2 : TypeDesc} {x : V} {x' : Value} {new : List V} {n : Nat} (d : Nat) (r : WR base w0 ρ h w) (hel : elemTI P t = some (e, ti)) (hx : VR ρ x x') (he : Ev.added h ti d2 x = some (new, n)) :
    ∃ us, VRs ρ new us ∧ us.length = n * ti.size ∧ Adds P w d e ti d2 n x' us := by
  by_cases hint : ∃ kk, d2 = .int kk
  · obtain ⟨kk, rfl⟩ := hint
    obtain ⟨us, h1, h2, h3, h4, h5⟩ := Ev.added_int (w := w) hel hx he
    exact ⟨us, h1, h2, ⟨fun _ => ⟨h4, h5, h3 d⟩, fun hn => absurd rfl (hn kk)⟩⟩
  · have hni : ∀ kk, d2 ≠ .int kk := fun kk hk => hint ⟨kk, hk⟩
    obtain ⟨h1, h2⟩ := Ev.added_row (P := P) (e := e) r hni hx he
    obtain ⟨us, h3, h4, h5⟩ := h1 d
    exact ⟨us, h3, h4, ⟨fun hi => absurd hi hint, fun _ => ⟨h5, h2⟩⟩⟩

/-- A block that turned, under a new number. -/
theorem WR.move (r : WR base w0 ρ h w) {k b n : Nat} {o o0 : VO} {x : Obj} (hk : h.get k = some o0) (hb : ρ[k]? = some (b, n)) (ho : OR ρ n o x)
    (e : w' = { w with heap := w.heap.setIfInBounds b x }) :
    WR base w0 (ρ ++ [(b, n)]) ((h.new o).del k) w' ∧ Ext ρ (ρ ++ [(b, n)]) ∧ (ρ ++ [(b, n)])[h.next]? = some (b, n) := by
  have r1 := r.put hk hb ho e
  have hlt : k < ρ.length := (List.getElem?_eq_some_iff.1 hb).1
  have ext := Ext.push ρ (b, n)
  have here : (ρ ++ [(b, n)])[h.next]? = some (b, n) := by rw [r.len]; simp
  have hkn : k ≠ h.next := by rw [r.len]; omega
  have self : (h.set k o).get k = some o := by
    unfold VH.get VH.set
    simp [PT.get_set]
  have cases_ : ∀ j o', ((h.new o).del k).get j = some o' → j ≠ k ∧ ((j = h.next ∧ o' = o) ∨ (j ≠ h.next ∧ (h.set k o).get j = some o')) := fun j o' hj => by
    unfold VH.get VH.del VH.new at hj
    simp only [PT.get_set] at hj
    split at hj
    · cases hj
    · rename_i hjk
      refine ⟨hjk, ?_⟩
      split at hj
      · rename_i hjn; cases hj; exact .inl ⟨hjn, rfl⟩
      · rename_i hjn
        refine .inr ⟨hjn, ?_⟩
        unfold VH.get VH.set
        simp only [PT.get_set, hjk, if_false]
        exact hj
  have old : ∀ j o', j ≠ h.next → (h.set k o).get j = some o' → ∀ c m, (ρ ++ [(b, n)])[j]? = some (c, m) → ρ[j]? = some (c, m) := fun j o' _ hj c m hc => by
    obtain ⟨b', m', y, q1, _⟩ := r1.obj j o' hj
    have := ext _ _ q1
    rw [this] at hc; cases hc
    exact q1
  refine ⟨⟨r1.below, r1.size, by simp [VH.new, VH.del, r.len], fun j o' hj => ?_, fun k1 k2 o1 o2 c m m' h1 h2 h3 h4 => ?_⟩, ext, here⟩
  · obtain ⟨hjk, ⟨rfl, rfl⟩ | ⟨hjn, hj'⟩⟩ := cases_ j o' hj
    · obtain ⟨b', m', y, q1, q2, q3, q4⟩ := r1.obj k _ self
      rw [hb] at q1; cases q1
      exact ⟨b, n, y, here, q2, q3, q4.ext ext⟩
    · obtain ⟨b', m', y, q1, q2, q3, q4⟩ := r1.obj j o' hj'
      exact ⟨b', m', y, ext _ _ q1, q2, q3, q4.ext ext⟩
  · obtain ⟨n1, ⟨rfl, rfl⟩ | ⟨hj1, hj1'⟩⟩ := cases_ k1 o1 h1
    · obtain ⟨n2, ⟨rfl, rfl⟩ | ⟨hj2, hj2'⟩⟩ := cases_ k2 o2 h2
      · rfl
      · rw [here] at h3; cases h3
        exact absurd (r1.inj k2 k _ _ _ _ _ hj2' self (old k2 _ hj2 hj2' _ _ h4) hb) n2
    · obtain ⟨n2, ⟨rfl, rfl⟩ | ⟨hj2, hj2'⟩⟩ := cases_ k2 o2 h2
      · rw [here] at h4; cases h4
        exact absurd (r1.inj k1 k _ _ _ _ _ hj1' self (old k1 _ hj1 hj1' _ _ h3) hb) n1
      · exact r1.inj k1 k2 _ _ _ _ _ hj1' hj2' (old k1 _ hj1 hj1' _ _ h3) (old k2 _ hj2 hj2' _ _ h4)

theorem append_oBuiltin {ts : List TypeId} {ty : TypeId} {bs : List Bool} {s x v : Value} {w1 : World}
    (hr : (Builtin.append_ ts.toArray ty #[s, x]).run P w = .ok v w1) : (oBuiltin .append ts ty bs [s, x]).run P w = .ok (.value v) w1 := by
  simp [oBuiltin, Go.builtin, hr]

theorem Ev.append_ok {ts : List TypeId} {ty : TypeId} {bs : List Bool} {s x u : V} {s' x' : Value} {h' : VH} (r : WR base w0 ρ h w) (hs : VR ρ s s') (hx : VR ρ x x') (he : Ev.append P h ts s x = some (u, h')) :
    Comes P base w0 ρ w (oBuiltin .append ts ty bs [s', x']) u h' := by
  unfold Ev.append at he
  split at he
  · rename_i t t2 ts
    split at he
    · rename_i e ti d2 hel hd2
      split at he
      · cases he
      · rename_i hsz
        split at he
        · rename_i new n hadd
          have hzl := zs_len (elemTI_some hel).2
          split at he
          · -- nil
            cases hs
            split at he
            · rename_i hn
              cases he
              subst hn
              obtain ⟨us, h1, h2, h3⟩ := Ev.adds_ok (P := P) w.drawn r hel hx hadd
              exact good_quiet r ⟨_, append_oBuiltin (run_append_room (w' := w) hel hd2 h3 (Nat.le_refl _) rfl), .raw _⟩
            · rename_i hn
              split at he
              · cases he
              · rename_i hbig
                cases he
                obtain ⟨us, h1, h2, h3⟩ := Ev.adds_ok (P := P) (w.drawn + 1) r hel hx hadd
                obtain ⟨k, hr⟩ := run_append_none (olds := []) (ty := ty) (ts := ts) hel hd2 h3 (m := 0) (c := 0) (base := none) (by omega) (by rw [Nat.zero_add]; omega) (by simp [Builtin.firstCells])
                have hlen : (us ++ rep ti.zs k).length = (n + k) * ti.size := by
                  rw [List.length_append, h2, rep_len, hzl, Nat.add_mul]
                refine good_new (us := us) (ext := rep ti.zs k) (fr := (0, 0)) (n0 := w.drawn + 1) r h1 (.inl rfl) (fun b => .slice (some ⟨b, 0, none⟩) n (n + k)) (append_oBuiltin (by simpa using hr)) fun ρ' _ b hb => ?_
                exact .sl hb (by omega) (fun hq => by cases hq) (by rw [hlen]; omega) (fun _ => ⟨hsz, by rw [hlen]; omega⟩) (Nat.le_refl _)
          · rename_i k o len ex lb es
            have hs0 := hs
            cases hs with
            | @sl _ _ _ _ _ b nn c _ hk hl hex hn hf hle =>
            split at he
            · cases he
            · rename_i hg
              have hes : es = ti.size := Decidable.not_not.1 fun q => hg (.inl q)
              have hbig : (len + n) * (ti.bytes + 1) ≤ 1000000 := Nat.le_of_not_lt fun q => hg (.inr q)
              subst hes
              split at he
              · rename_i hroom
                split at he
                · rename_i h1' hp
                  cases he
                  obtain ⟨us, h1, h2, h3⟩ := Ev.adds_ok (P := P) w.drawn r hel hx hadd
                  obtain ⟨w1, h4, h5⟩ := Ev.put_ok (P := P) r hk h1 hp
                  refine ⟨_, w1, ρ, .inl (append_oBuiltin (run_append_room (base := some ⟨b, o, none⟩) hel hd2 h3 (by omega) (by simpa only [add_at] using h4))), Ext.refl ρ, ?_, h5⟩
                  exact .sl hk hl hex hn hf hroom
                · cases he
              · rename_i hroom
                split at he
                · rename_i old hold
                  have hfirst : ∀ d, ∃ os, (Builtin.firstCells ti.size len (.slice (some ⟨b, o, none⟩) len c)).run P { w with drawn := d } = .ok os.toArray { w with drawn := d } ∧ VRs ρ old os := fun d => by
                    obtain ⟨os, q1, q2⟩ := run_first (P := P) (m := len) (r.drew d) hs0 rfl hold (Nat.le_refl _)
                    refine ⟨os, q1, ?_⟩
                    rwa [List.take_of_length_le (by rw [Ev.sliceCells_len rfl hold]; exact Nat.le_refl _)] at q2
                  have holdlen : old.length = len * ti.size := Ev.sliceCells_len rfl hold
                  split at he
                  · rename_i hext
                    cases he
                    have hc : c = lb := hex hext
                    obtain ⟨us, h1, h2, h3⟩ := Ev.adds_ok (P := P) (w.drawn + 1) r hel hx hadd
                    obtain ⟨os, q1, q2⟩ := hfirst (w.drawn + 1)
                    obtain ⟨k', hr⟩ := run_append_none (ty := ty) (ts := ts) hel hd2 h3 (m := len) (c := c) (by omega) hbig q1
                    have hlen : (os ++ us ++ rep ti.zs k').length = (len + n + k') * ti.size := by
                      rw [List.length_append, List.length_append, h2, ← q2.1, holdlen, rep_len, hzl, Nat.add_mul, Nat.add_mul]
                    refine good_new (us := os ++ us) (ext := rep ti.zs k') (fr := (0, 0)) (n0 := w.drawn + 1) r (q2.app h1) (.inl rfl) (fun b => .slice (some ⟨b, 0, none⟩) (len + n) (len + n + k')) (append_oBuiltin hr) fun ρ' _ b hb => ?_
                    exact .sl hb (by omega) (fun hq => by cases hq) (by rw [hlen]; omega) (fun _ => ⟨hsz, by rw [hlen]; omega⟩) (Nat.le_refl _)
                  · rename_i hext
                    have hext : ex = false := by simpa using hext
                    split at he
                    · rename_i ho
                      subst ho
                      split at he
                      · rename_i t0 cs0 hc0
                        split at he
                        · rename_i hte
                          obtain ⟨rfl, hone⟩ := hte
                          cases he
                          obtain ⟨hf1, hf2⟩ := hf hext
                          by_cases hreal : len + n ≤ c
                          · -- in place
                            obtain ⟨us, h1, h2, h3⟩ := Ev.adds_ok (P := P) w.drawn r hel hx hadd
                            obtain ⟨b', n', cv, ext, fr, g1, g2, g3, g4, g5, g6⟩ := r.cells hc0
                            rw [hk] at g1; cases g1
                            have hmul : (len + n) * ti.size ≤ c * ti.size := Nat.mul_le_mul_right _ hreal
                            have hmul2 : (len + n) * ti.size = len * ti.size + n * ti.size := Nat.add_mul _ _ _
                            have hst := run_storeCells_fr (P := P) (b := b) (o := len * ti.size) (T := t0) (cs := cv ++ ext) g6 us 0 (cv ++ ext) w rfl g3 (by rw [g5, h2]; omega) (h1.ones hone)
                            have hold' : old = cs0.take (len * ti.size) ∧ len * ti.size ≤ cs0.length := by
                              have := hold
                              simp only [Ev.sliceCells, if_true, hc0] at this
                              split at this
                              · rename_i hq; cases this; exact ⟨by simp, by omega⟩
                              · cases this
                            have hcl := g4.1
                            have e1 : (cv ++ ext).take (len * ti.size + 0) ++ us ++ (cv ++ ext).drop (len * ti.size + 0 + us.length) = (cv.take (len * ti.size) ++ us) ++ (cv ++ ext).drop (len * ti.size + us.length) := by
                              rw [Nat.add_zero, List.take_append_of_le_length (by omega)]
                            rw [e1] at hst
                            obtain ⟨m1, m2, m3⟩ := r.move (cellsAt_some hc0) hk (o := .cells t0 (old ++ new)) (x := .cells ((cv.take (len * ti.size) ++ us) ++ (cv ++ ext).drop (len * ti.size + us.length)).toArray t0 fr)
                              (.cells (by rw [hold'.1]; exact (g4.take _).app h1) (by rw [← e1]; simp at g5 ⊢; omega) (by rw [← g5]; exact g6)) rfl
                            refine ⟨_, _, _, .inl (append_oBuiltin (run_append_room (base := some ⟨b, 0, none⟩) hel hd2 h3 hreal (by simpa only [add_at, Nat.zero_add] using hst))), m2, ?_, m1⟩
                            exact .sl m3 hreal (fun hq => by cases hq) hn (fun _ => ⟨hf1, hf2⟩) (Nat.le_refl _)
                          · obtain ⟨us, h1, h2, h3⟩ := Ev.adds_ok (P := P) (w.drawn + 1) r hel hx hadd
                            obtain ⟨os, q1, q2⟩ := hfirst (w.drawn + 1)
                            obtain ⟨k', hr⟩ := run_append_none (ty := ty) (ts := ts) hel hd2 h3 (m := len) (c := c) hreal hbig q1
                            have hlen : (os ++ us ++ rep ti.zs k').length = (len + n + k') * ti.size := by
                              rw [List.length_append, List.length_append, h2, ← q2.1, holdlen, rep_len, hzl, Nat.add_mul, Nat.add_mul]
                            have hg := good_new (v := .sl h.next 0 (len + n) false (len + n) ti.size) (us := os ++ us) (ext := rep ti.zs k') (fr := (0, 0)) (n0 := w.drawn + 1) r (q2.app h1) (.inl rfl) (fun b => .slice (some ⟨b, 0, none⟩) (len + n) (len + n + k')) (append_oBuiltin (bs := bs) hr) fun ρ' _ b hb => 
                              .sl hb (by omega) (fun hq => by cases hq) (by rw [hlen]; omega) (fun _ => ⟨hsz, by rw [hlen]; omega⟩) (Nat.le_refl _)
                            obtain ⟨v1, w1, ρ1, p1, p2, p3, p4⟩ := hg
                            exact ⟨v1, w1, ρ1, p1, p2, p3, p4.del k⟩
                        · cases he
                      · cases he
                    · cases he
                · cases he
          · cases he
        · cases he
    · cases he
  · cases he

theorem Ev.builtin_ok {b : Builtin} {ts : List TypeId} {ty : TypeId} {cs : List Bool} {as : List V} {as' : List Value} {u : V} {h' : VH} (r : WR base w0 ρ h w) (ha : VRs ρ as as') (he : Ev.builtin P h b ts as = some (u, h')) :
    Comes P base w0 ρ w (oBuiltin b ts ty cs as') u h' := by
  unfold Ev.builtin at he
  split at he
  · obtain ⟨s', _, rfl, h1, ha⟩ := ha.uncons
    obtain ⟨x', _, rfl, h2, ha⟩ := ha.uncons
    rw [ha.unnil]
    exact Ev.append_ok r h1 h2 he
  · obtain ⟨s', _, rfl, h1, ha⟩ := ha.uncons
    obtain ⟨x', _, rfl, h2, ha⟩ := ha.uncons
    rw [ha.unnil]
    exact Ev.copy_ok r h1 h2 he
  · obtain ⟨s', _, rfl, h1, ha⟩ := ha.uncons
    obtain ⟨x', _, rfl, h2, ha⟩ := ha.uncons
    rw [ha.unnil]
    split at he
    · rename_i t ts
      rw [Option.map_eq_some_iff] at he
      obtain ⟨h1', hd, he⟩ := he
      cases he
      exact Ev.del_ok r h1 h2 hd
    · cases he
  · cases he

theorem opn_ok : OpnOk P base w0 := by
  intro d e h u h' he ρ e' w hE r
  have hx := fun x => X.ev_rel hE x
  cases d <;> simp only [Ev.opn] at he <;> try (cases he; done)
  case alloc t =>
    split at he
    · rename_i ti ht
      cases he
      exact Ev.alloc_ok r ht
    · cases he
  case box t v =>
    cases he
    exact Ev.box_ok r (hx v)
  case buildSlice t n ps => exact Ev.buildSlice_ok r (pevs_rel hE ps) he
  case store t a v =>
    cases hd : Ev.store P h t (a.ev e) (v.ev e) with
    | none => simp [hd] at he
    | some h1 =>
      simp [hd] at he
      obtain ⟨rfl, rfl⟩ := he
      exact Ev.ostore_ok r (hx a) (hx v) hd
  case conv s d x => exact Ev.convn_ok r (hx x) he
  case map t m =>
    cases m with
    | none => cases he; exact Ev.newMap_ok r
    | some x => cases he
  case make t l c => exact Ev.make_ok r (hx l) (hx c) he
  case mapSet t m k x =>
    cases hd : Ev.mapSet P h t (m.ev e) (k.ev e) (x.ev e) with
    | none => simp [hd] at he
    | some h1 =>
      simp [hd] at he
      obtain ⟨rfl, rfl⟩ := he
      exact Ev.mapSet_ok r (hx m) (hx k) (hx x) hd
  case range t x => exact Ev.range_ok r (hx x) he
  case builtin b ts ty cs as => exact Ev.builtin_ok r (evs_rel hE as) he
end
end Go.Fr
