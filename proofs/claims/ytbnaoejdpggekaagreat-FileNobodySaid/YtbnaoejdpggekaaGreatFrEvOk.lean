/-
  This file proves: what the evaluator says of a tree is so.
-/
import Derived.Test.YtbnaoejdpggekaaGreatFrOpM
namespace Go.Fr
open Go
section
variable {P : Program} {base : Nat} {w0 : World}

/-- What a tree may be done with. -/
def Post (base : Nat) (w0 : World) (ρ : Lay) (l : List Ev.O) (t : Nat) (vs : List Value) (w : World) : Prop :=
  ∃ o ∈ l, o.t = t ∧ ∃ ρ', Ext ρ ρ' ∧ VRs ρ' o.vs vs ∧ WR base w0 ρ' o.h w

theorem Post.mono {ρ ρ' : Lay} {l l' : List Ev.O} {t : Nat} {vs : List Value} {w : World} (he : Ext ρ ρ') (hl : ∀ o ∈ l', o ∈ l) (h : Post base w0 ρ' l' t vs w) : Post base w0 ρ l t vs w := by
  obtain ⟨o, ho, ht, ρ2, h1, h2, h3⟩ := h
  exact ⟨o, hl o ho, ht, ρ2, he.trans h1, h2, h3⟩

/-- What is said of calls is so. -/
def RecOk (P : Program) (base : Nat) (w0 : World) (rec : Ev.Rec) : Prop :=
  ∀ f as h l, rec f as h = some l → ∀ (ρ : Lay) (as' : List Value) (w : World), VRs ρ as as' → WR base w0 ρ h w → ∀ K : Value → World → Prop,
    (∀ r ∈ l, ∀ (ρ' : Lay) u w', Ext ρ ρ' → VR ρ' r.1 u → WR base w0 ρ' r.2 w' → K u w') → UponS P K (fun _ _ => False) ((callFunc f as'.toArray).run P w)

/-- .. of deferred ones. -/
def DfrOk (P : Program) (base : Nat) (w0 : World) (recD : Ev.Rec) : Prop :=
  ∀ f as h l, recD f as h = some l → ∀ (ρ : Lay) (as' : List Value) (w : World), VRs ρ as as' → WR base w0 ρ h w →
    (callFunc f as'.toArray).run P w = .ok (.enter f as'.toArray) w ∧
    CallsD P f as'.toArray .returning w fun e u' w' => (∃ v, e = .returned v) ∧ u' = .returning ∧ ∃ r ∈ l, ∃ ρ', Ext ρ ρ' ∧ WR base w0 ρ' r.2 w'

/-- A deferred call. -/
def DR (ρ : Lay) (x : FuncId × List V) (d : Deferred) : Prop := ∃ cap as', d.target = .fn (.func x.1) cap ∧ VRs ρ x.2 as' ∧ d.args ++ cap = as'.toArray

theorem DR.ext {ρ ρ' : Lay} (he : Ext ρ ρ') {x : FuncId × List V} {d : Deferred} (h : DR ρ x d) : DR ρ' x d := by
  obtain ⟨cap, as', h1, h2, h3⟩ := h
  exact ⟨cap, as', h1, h2.ext he, h3⟩

/-- What is said of operations that do something is so. -/
def OpnOk (P : Program) (base : Nat) (w0 : World) : Prop :=
  ∀ d e h u h', Ev.opn P d e h = some (u, h') → ∀ (ρ : Lay) e' w, EnvR ρ e e' → WR base w0 ρ h w → Comes P base w0 ρ w (d.sem e') u h'

/-- .. of steps of ranges. -/
def NextOk (P : Program) (base : Nat) (w0 : World) : Prop :=
  ∀ h it l, Ev.next h it = some l → ∀ (ρ : Lay) it' w t, VR ρ it it' → WR base w0 ρ h w →
    ∃ r ∈ l, Comes P base w0 ρ w (oNext it' false t) r.1 r.2

theorem all_ok {α : Type} {f : α → Option (List Ev.O)} : ∀ {l : List α} {r : List Ev.O}, Ev.all f l = some r → ∀ a ∈ l, ∃ r', f a = some r' ∧ ∀ o ∈ r', o ∈ r := by
  intro l
  induction l with
  | nil => intro r _ a ha; cases ha
  | cons x l ih =>
    intro r he a ha
    unfold Ev.all at he
    split at he
    · cases he
    · rename_i r1 h1
      split at he
      · cases he
      · rename_i r2 h2
        cases he
        rcases List.mem_cons.1 ha with rfl | ha
        · exact ⟨r1, h1, fun o ho => List.mem_append_left _ ho⟩
        · obtain ⟨r', h3, h4⟩ := ih h2 a ha
          exact ⟨r', h3, fun o ho => List.mem_append_right _ (h4 o ho)⟩

theorem callee_ok {ρ : Lay} {f : V} {f' : Value} {as : List V} {as' : List Value} {g : FuncId} {bs : List V} (hf : VR ρ f f') (ha : VRs ρ as as') (he : Ev.callee f as = some (g, bs)) :
    ∃ a b : List Value, f' = .func (.func g) a.toArray b.toArray ∧ VRs ρ bs (a ++ as' ++ b) := by
  unfold Ev.callee at he
  split at he
  · rename_i a b
    cases he
    cases hf with
    | fn hl h1 hm h2 =>
    exact ⟨_, _, rfl, (Al.app (Al.app ⟨hl, h1⟩ ha) ⟨hm, h2⟩)⟩
  · rename_i a b
    cases he
    cases hf
    exact ⟨a.toList, b.toList, by simp, ((raws_rel _).app ha).app (raws_rel _)⟩
  · cases he

theorem comes_upon {ρ : Lay} {w : World} {s : Sem Next} {v : V} {h' : VH} {K : Value → World → Prop} (hc : Comes P base w0 ρ w s v h')
    (hk : ∀ (ρ' : Lay) u w', Ext ρ ρ' → VR ρ' v u → WR base w0 ρ' h' w' → K u w') : UponS P K (fun _ _ => False) (s.run P w) := by
  obtain ⟨u, w', ρ', hr, h1, h2, h3⟩ := hc
  rcases hr with hr | ⟨hr, rfl⟩ <;> rw [hr]
  · exact hk _ _ _ h1 h2 h3
  · exact hk _ _ _ h1 h2 h3

theorem op_ok (hn : OpnOk P base w0) {d : D} {e : List (List V)} {e' : List (List Value)} {h h' : VH} {u : V} {ρ : Lay} {w : World} (he : Ev.op P d e h = some (u, h')) (hE : EnvR ρ e e') (r : WR base w0 ρ h w) :
    Comes P base w0 ρ w (d.sem e') u h' := by
  unfold Ev.op at he
  split at he
  · rename_i v hv
    cases he
    exact good_quiet r (Ev.opq_ok r hE hv)
  · exact hn _ _ _ _ _ he _ _ _ hE r

theorem step_ok (hn : OpnOk P base w0) (hx : NextOk P base w0) {rec : Ev.Rec} (hrec : RecOk P base w0 rec) {d : D} {e : List (List V)} {e' : List (List Value)} {h : VH} {l : List (V × VH)} {ρ : Lay} {w : World}
    (he : Ev.step P rec d e h = some l) (hE : EnvR ρ e e') (r : WR base w0 ρ h w) {K : Value → World → Prop}
    (hk : ∀ x ∈ l, ∀ (ρ' : Lay) u w', Ext ρ ρ' → VR ρ' x.1 u → WR base w0 ρ' x.2 w' → K u w') : UponS P K (fun _ _ => False) ((d.sem e').run P w) := by
  unfold Ev.step at he
  split at he
  · rename_i f as
    exact hrec _ _ _ _ he ρ _ w (evs_rel hE as) r K hk
  · rename_i f as
    split at he
    · rename_i g bs hc
      obtain ⟨a, b, hf, hbs⟩ := callee_ok (X.ev_rel hE f) (evs_rel hE as) hc
      have : D.sem e' (.callV f as) = oCall g (a ++ vals e' as ++ b) := by
        show oCallV (f.val e') (vals e' as) = _
        rw [hf]
        unfold oCallV oCall
        have e1 : (a.toArray ++ (vals e' as).toArray ++ b.toArray) = (a ++ vals e' as ++ b).toArray := by apply Array.ext'; simp
        rw [← e1]
        rfl
      rw [this]
      exact hrec _ _ _ _ he ρ _ w hbs r K hk
    · cases he
  · rename_i it t
    obtain ⟨x, hxl, hc⟩ := hx _ _ _ he ρ _ w t (X.ev_rel hE it) r
    exact comes_upon hc (hk x hxl)
  · split at he
    · rename_i x hop
      cases he
      obtain ⟨u, h'⟩ := x
      exact comes_upon (op_ok hn hop hE r) (hk _ List.mem_cons_self)
    · cases he

theorem same1_ok {ρ : Lay} {a b : V} {a' b' : Value} (ha : VR ρ a a') (hb : VR ρ b b') (he : Ev.same1 a b = true) : a' = b' := by
  unfold Ev.same1 at he
  split at he
  all_goals first
    | (cases ha; cases hb; simp only [Bool.and_eq_true, decide_eq_true_eq, beq_iff_eq] at he; done)
    | skip
  · cases ha; cases hb; simp at he; rw [he.1, he.2]
  · cases ha; cases hb; simp at he; rw [he]
  · cases ha; cases hb; rfl
  · cases ha; cases hb; simp at he; rw [he.1, he.2]
  · cases ha; cases hb; rfl
  · cases ha; cases hb
    rename_i x y
    have : x = y := by
      apply ByteArray.ext
      apply Array.ext'
      simpa using he
    rw [this]
  · simp only [Bool.and_eq_true, decide_eq_true_eq] at he
    obtain ⟨rfl, rfl⟩ := he
    cases ha with
    | ptr h1 => cases hb with
      | ptr h2 => rw [h1] at h2; cases h2; rfl
  · simp only [decide_eq_true_eq] at he
    subst he
    cases ha with
    | map h1 => cases hb with
      | map h2 => rw [h1] at h2; cases h2; rfl
  · simp only [Bool.and_eq_true, decide_eq_true_eq, beq_iff_eq] at he
    obtain ⟨⟨⟨⟨⟨rfl, rfl⟩, rfl⟩, rfl⟩, rfl⟩, rfl⟩ := he
    cases ha with
    | @sl _ _ _ _ _ b1 n1 c1 ex h1 hl1 he1 hn1 hx1 _ => cases hb with
      | @sl _ _ _ _ _ b2 n2 c2 _ h2 hl2 he2 hn2 hx2 _ =>
        rw [h1] at h2; cases h2
        have key : ∀ e : Bool, (e = true → c1 = c2) → (e = false → c1 = c2) → c1 = c2 := fun e => by cases e <;> simp
        have : c1 = c2 := key _ (fun q => by rw [he1 q, he2 q]) fun q => by
          obtain ⟨q1, q2⟩ := hx1 q
          obtain ⟨_, q3⟩ := hx2 q
          exact Nat.eq_of_mul_eq_mul_right (Nat.pos_of_ne_zero q1) (by omega)
        rw [this]
  · cases he

theorem sames_ok {ρ : Lay} : ∀ {l m : List V} {us vs : List Value}, VRs ρ l us → VRs ρ m vs → Ev.sames l m = true → us = vs := by
  intro l
  induction l with
  | nil =>
    intro m us vs hl hm he
    cases m with
    | nil => rw [hl.unnil, hm.unnil]
    | cons => simp [Ev.sames] at he
  | cons a l ih =>
    intro m us vs hl hm he
    cases m with
    | nil => simp [Ev.sames] at he
    | cons b m =>
      simp only [Ev.sames, Bool.and_eq_true] at he
      obtain ⟨u, us, rfl, h1, h2⟩ := hl.uncons
      obtain ⟨v, vs, rfl, h3, h4⟩ := hm.uncons
      rw [same1_ok h1 h3 he.1, ih h2 h4 he.2]

theorem same_ok {ρ : Lay} {a b : V} {a' b' : Value} (ha : VR ρ a a') (hb : VR ρ b b') (he : Ev.same a b = true) : a' = b' := by
  unfold Ev.same at he
  split at he
  · cases ha with
    | agg hl h1 => cases hb with
      | agg hm h2 => rw [sames_ok ⟨hl, h1⟩ ⟨hm, h2⟩ he]
  · exact same1_ok ha hb he

theorem res_ok {ρ : Lay} {h : VH} {w : World} (r : WR base w0 ρ h w) : ∀ {rs : List ResultVar} {vs us : List V} {vs' : List Value}, VRs ρ vs vs' → Ev.res rs P h vs = some us →
    ∃ us', (resAll rs vs').run P w = .ok us' w ∧ VRs ρ us us' := by
  intro rs
  induction rs with
  | nil =>
    intro vs us vs' hv he
    cases vs with
    | nil => simp only [Ev.res, Option.some.injEq] at he; subst he; rw [hv.unnil]; exact ⟨[], by simp [resAll], .nil⟩
    | cons => simp [Ev.res] at he
  | cons x rs ih =>
    intro vs us vs' hv he
    cases vs with
    | nil => cases x <;> simp [Ev.res] at he
    | cons v vs =>
      obtain ⟨v', vs', rfl, h1, h2⟩ := hv.uncons
      cases x with
      | tmp t =>
        simp only [Ev.res] at he
        cases hr : Ev.res rs P h vs with
        | none => simp [hr] at he
        | some us0 =>
          simp [hr] at he; subst he
          obtain ⟨us', h3, h4⟩ := ih h2 hr
          exact ⟨v' :: us', by simp [resAll, resOne, h3], .cons h1 h4⟩
      | cell a t =>
        simp only [Ev.res] at he
        split at he
        · rename_i u us0 hl hr
          cases he
          obtain ⟨us', h3, h4⟩ := ih h2 hr
          obtain ⟨u', h5, h6⟩ := Ev.load_ok (P := P) r h1 hl
          refine ⟨u' :: us', ?_, .cons h6 h4⟩
          have hp : ∃ y, v' = .pointer (some y) := by
            unfold Ev.load at hl
            split at hl
            · cases h1; exact ⟨_, rfl⟩
            · cases hl
          obtain ⟨y, rfl⟩ := hp
          simp only [Instr.loadAt, Instr.sureAddr, Sem.run_bind, Sem.run_pure, Result.andThen_ok] at h5
          simp [resAll, resOne, asAddr, h5, h3]
        · cases he

theorem tup_ok {ρ : Lay} {us : List V} {us' : List Value} (h : VRs ρ us us') : VR ρ (Ev.tup us) (tupleOf us') := by
  cases us with
  | nil => rw [h.unnil]; exact .tup (us := []) rfl (fun i x y hx => by simp at hx)
  | cons u us =>
    obtain ⟨u', us', rfl, h1, h2⟩ := h.uncons
    cases us with
    | nil => rw [h2.unnil]; exact h1
    | cons v us =>
      obtain ⟨v', us', rfl, h3, h4⟩ := h2.uncons
      exact .tup h.1 h.2

theorem fin_ok {recD : Ev.Rec} (hD : DfrOk P base w0 recD) {rs : List ResultVar} {vs : List V} : ∀ {ds : List (FuncId × List V)} {ds' : List Deferred} {h : VH} {l : List Ev.O} {ρ : Lay} {vs' : List Value} {w : World},
    Ev.fin P recD rs vs ds h = some l → VRs ρ vs vs' → Al (DR ρ) ds ds' → WR base w0 ρ h w → Run P (fun _ _ => False) (Fr.fin rs vs' ds') w (Post base w0 ρ l) := by
  intro ds
  induction ds with
  | nil =>
    intro ds' h l ρ vs' w he hv hd r
    rw [hd.unnil]
    unfold Ev.fin at he
    split at he
    · rename_i us hr
      cases he
      obtain ⟨us', h1, h2⟩ := res_ok (P := P) r hv hr
      refine ⟨tupleOf us', by simp [resS, h1], ?_⟩
      exact ⟨_, List.mem_cons_self, rfl, ρ, Ext.refl ρ, .cons (tup_ok h2) .nil, r⟩
    · cases he
  | cons x ds ih =>
    intro ds' h l ρ vs' w he hv hd r
    obtain ⟨d, ds', rfl, hx, hrest⟩ := hd.uncons
    obtain ⟨f, as⟩ := x
    unfold Ev.fin at he
    split at he
    · rename_i l1 hl1
      obtain ⟨cap, as', h1, h2, h3⟩ := hx
      obtain ⟨h4, h5⟩ := hD _ _ _ _ hl1 ρ as' w h2 r
      refine ⟨_, _, f, as'.toArray, h1, ?_, ?_⟩
      · rw [h1]
        show (callFunc f (d.args ++ cap)).run P w = _
        rw [h3]; exact h4
      · refine h5.mono ?_
        rintro e u' w' ⟨⟨v, rfl⟩, rfl, x, hx, ρ', e1, r1⟩
        refine ⟨rfl, ?_⟩
        obtain ⟨r', h6, h7⟩ := all_ok he x hx
        exact Run.mono (fun _ _ h => h) _ (fun t vs w hp => hp.mono e1 h7) (ih h6 (hv.ext e1) (hrest.mono fun _ _ => DR.ext e1) r1)
    · cases he

theorem row_ok {ρ : Lay} {e : List (List V)} {e' : List (List Value)} (hE : EnvR ρ e e') (i : Nat) : VRs ρ ((nth e i).getD []) (e'.getD i []) := by
  rw [nth_eq, List.getD_eq_getElem?_getD]
  cases hi : e[i]? with
  | none =>
    have : e'[i]? = none := List.getElem?_eq_none (by have := List.getElem?_eq_none_iff.1 hi; have := hE.1; omega)
    rw [this]; exact .nil
  | some a => obtain ⟨b, hb, hr⟩ := hE.get hi; rw [hb]; exact hr

theorem ev_ok (hn : OpnOk P base w0) (hx : NextOk P base w0) {rec recD : Ev.Rec} (hrec : RecOk P base w0 rec) (hD : DfrOk P base w0 recD) {fuel : Nat} : ∀ (t : T) {g : Nat} {e : List (List V)} {ds : List (FuncId × List V)} {h : VH} {l : List Ev.O}
    {ρ : Lay} {e' : List (List Value)} {ds' : List Deferred} {w : World}, Ev.ev P rec recD fuel t g e ds h = some l → EnvR ρ e e' → Al (DR ρ) ds ds' → WR base w0 ρ h w →
    Run P (fun _ _ => False) (t.sp g e' ds') w (Post base w0 ρ l) := by
  intro t
  induction t with
  | done t xs =>
    intro g e ds h l ρ e' ds' w he hE hd r
    cases he
    exact ⟨_, List.mem_cons_self, rfl, ρ, Ext.refl ρ, evs_rel hE xs, r⟩
  | doneRow t i =>
    intro g e ds h l ρ e' ds' w he hE hd r
    cases he
    exact ⟨_, List.mem_cons_self, rfl, ρ, Ext.refl ρ, row_ok hE i, r⟩
  | bind p k ihp ihk =>
    intro g e ds h l ρ e' ds' w he hE hd r
    unfold Ev.ev at he
    split at he
    · rename_i l1 h1
      show Run P _ (p.sp g e' ds') w fun t vs w' => Run P _ (k.sp t (vs :: e') ds') w' _
      refine Run.mono (fun _ _ h => h) _ ?_ (ihp h1 hE hd r)
      rintro t vs w' ⟨o, ho, rfl, ρ', e1, hv, r1⟩
      obtain ⟨r', h2, h3⟩ := all_ok he o ho
      exact Run.mono (fun _ _ h => h) _ (fun t vs w hp => hp.mono e1 h3) (ihk h2 (.cons hv (hE.ext e1)) (hd.mono fun _ _ => DR.ext e1) r1)
    · cases he
  | op d k ih =>
    intro g e ds h l ρ e' ds' w he hE hd r
    unfold Ev.ev at he
    split at he
    · rename_i l1 h1
      refine step_ok hn hx hrec h1 hE r ?_
      intro x hxm ρ' u w' e1 hu r1
      obtain ⟨r', h2, h3⟩ := all_ok he x hxm
      exact Run.mono (fun _ _ h => h) _ (fun t vs w hp => hp.mono e1 h3) (ih h2 (.cons (.cons hu .nil) (hE.ext e1)) (hd.mono fun _ _ => DR.ext e1) r1)
    · cases he
  | rd d k ih =>
    intro g e ds h l ρ e' ds' w he hE hd r
    unfold Ev.ev at he
    split at he
    · rename_i v h1
      obtain ⟨u, h2, h3⟩ := Ev.opq_ok (P := P) r hE h1
      exact ⟨u, h2, ih he (.cons (.cons h3 .nil) hE) hd r⟩
    · cases he
  | chk d x k ih =>
    intro g e ds h l ρ e' ds' w he hE hd r
    unfold Ev.ev at he
    split at he
    · rename_i v h1
      split at he
      · rename_i hs
        obtain ⟨u, h2, h3⟩ := Ev.opq_ok (P := P) r hE h1
        have := same_ok h3 (X.ev_rel hE x) hs
        exact ⟨by rw [h2, this], ih he hE hd r⟩
      · cases he
    · cases he
  | dfr f xs k ih =>
    intro g e ds h l ρ e' ds' w he hE hd r
    unfold Ev.ev at he
    split at he
    · rename_i x hc
      obtain ⟨g1, bs⟩ := x
      obtain ⟨a, b, hf, hbs⟩ := callee_ok (X.ev_rel hE f) (evs_rel hE xs) hc
      refine ⟨{ target := .fn (.func g1) b.toArray, args := a.toArray ++ (vals e' xs).toArray }, ?_, ih he hE (.cons ⟨_, _, rfl, hbs, by apply Array.ext'; simp⟩ hd) r⟩
      rw [hf]
      rfl
    · cases he
  | ite x a b iha ihb =>
    intro g e ds h l ρ e' ds' w he hE hd r
    unfold Ev.ev at he
    have hv := X.ev_rel hE x
    split at he
    · rename_i heq
      rw [heq] at hv
      exact ⟨true, hv.raw_eq, fun _ => iha he hE hd r, fun h => by cases h⟩
    · rename_i heq
      rw [heq] at hv
      exact ⟨false, hv.raw_eq, fun h => by (cases h), fun _ => ihb he hE hd r⟩
    · cases he
  | both a b iha ihb =>
    intro g e ds h l ρ e' ds' w he hE hd r
    unfold Ev.ev at he
    split at he
    · rename_i l1 l2 h1 h2
      cases he
      exact ⟨Run.mono (fun _ _ h => h) _ (fun t vs w hp => hp.mono (Ext.refl ρ) fun o ho => List.mem_append_left _ ho) (iha h1 hE hd r),
        Run.mono (fun _ _ h => h) _ (fun t vs w hp => hp.mono (Ext.refl ρ) fun o ho => List.mem_append_right _ ho) (ihb h2 hE hd r)⟩
    · cases he
  | drew p ih =>
    intro g e ds h l ρ e' ds' w he hE hd r
    unfold Ev.ev at he
    exact ih he hE hd (r.drew _)
  | loop init body k ihb ihk =>
    intro g e ds h l ρ e' ds' w he hE hd r
    unfold Ev.ev at he
    split at he
    · rename_i l0 h0
      refine ⟨fun n vs' w => ∃ ρ1 vs h1 lx, Ext ρ ρ1 ∧ VRs ρ1 vs vs' ∧ WR base w0 ρ1 h1 w ∧ Ev.iter n (fun vs h => Ev.ev P rec recD fuel body g (vs :: e) ds h) vs h1 = some lx ∧ ∀ o ∈ lx, o ∈ l0,
        ⟨fuel, ρ, _, h, l0, Ext.refl ρ, evs_rel hE init, r, h0, fun _ ho => ho⟩, ?_⟩
      rintro n vs' w1 ⟨ρ1, vs, h1, lx, e1, hv, r1, hi, hsub⟩
      cases n with
      | zero => cases hi
      | succ n =>
        unfold Ev.iter at hi
        split at hi
        · cases hi
        · rename_i l1 hb1
          refine Run.mono (fun _ _ h => h) _ ?_ (ihb hb1 (.cons hv (hE.ext e1)) (hd.mono fun _ _ => DR.ext e1) r1)
          rintro t us w2 ⟨o, ho, rfl, ρ2, e2, hv2, r2⟩
          obtain ⟨r', h3, h4⟩ := all_ok hi o ho
          by_cases ht : o.t = 0
          · simp only [ht, if_true] at h3 ⊢
            exact ⟨n, Nat.lt_succ_self n, ρ2, _, _, r', e1.trans e2, hv2, r2, h3, fun o ho => hsub o (h4 o ho)⟩
          · simp only [ht, if_false] at h3 ⊢
            cases h3
            obtain ⟨r3, h5, h6⟩ := all_ok he o (hsub o (h4 o List.mem_cons_self))
            exact Run.mono (fun _ _ h => h) _ (fun t vs w hp => hp.mono (e1.trans e2) h6) (ihk h5 (.cons hv2 (hE.ext (e1.trans e2))) (hd.mono fun _ _ => DR.ext (e1.trans e2)) r2)
    · cases he
  | alt t a b iha ihb =>
    intro g e ds h l ρ e' ds' w he hE hd r
    unfold Ev.ev at he
    unfold T.sp
    split at he
    · rename_i hg; rw [if_pos hg]; exact iha he hE hd r
    · rename_i hg; rw [if_neg hg]; exact ihb he hE hd r
  | fin rs xs =>
    intro g e ds h l ρ e' ds' w he hE hd r
    exact fin_ok hD he (evs_rel hE xs) hd r
  | finRow rs i =>
    intro g e ds h l ρ e' ds' w he hE hd r
    exact fin_ok hD he (row_ok hE i) hd r
  | fail =>
    intro g e ds h l ρ e' ds' w he
    cases he
end
end Go.Fr
