/-
  This file is a part of the proof that trees of operations tell what code does, and that an evaluator tells what trees do: this file proves: what the evaluator says of a tree is so; this file proves: what the evaluator says of a range's first step is so; this file proves: what the evaluator says of append is so; this file proves: what the evaluator says of calls is so; this file proves: what the evaluator says of a lock's calls is so; this file proves: what a memory stands for goes on through calls that leave all that lay, and new rows are taken up.
-/
import Derived.Test.YtfonfgkjpndfaaaGreatDoorFrE
import Derived.Conc.MuLone
import Derived.Laws.AppendOwn

-- FrEvOk
namespace Go.Fr
open Go
set_option linter.unusedSectionVars false
variable [Sig]
section
variable {P : Program} {base : Nat} {w0 : World}

/-- What a tree may be done with. -/
def Post (base : Nat) (w0 : World) (ρ : Lay) (l : List Ev.O) (t : Nat) (vs : List Value) (w : World) : Prop :=
  ∃ o ∈ l, o.t = t ∧ ∃ ρ', Ext ρ ρ' ∧ VRs ρ' o.vs vs ∧ WR base w0 ρ' o.h w

theorem Post.mono {ρ ρ' : Lay} {l l' : List Ev.O} {t : Nat} {vs : List Value} {w : World} (he : Ext ρ ρ') (hl : ∀ o ∈ l', o ∈ l) (h : Post base w0 ρ' l' t vs w) : Post base w0 ρ l t vs w := by
  obtain ⟨o, ho, ht, ρ2, h1, h2, h3⟩ := h
  exact ⟨o, hl o ho, ht, ρ2, he.trans h1, h2, h3⟩

/-- What is said of calls is so. -/
def RecOk (P : Program) (base : Nat) (w0 : World) (rec : Ev.Rec) : Prop :=
  ∀ f as h l, rec f as h = some l → ∀ (ρ : Lay) (as' : List Value) (w : World), VRs ρ as as' → WR base w0 ρ h w → ∀ K : Value → World → Prop,
    (∀ r ∈ l, ∀ (ρ' : Lay) u w', Ext ρ ρ' → VR ρ' r.1 u → WR base w0 ρ' r.2 w' → K u w') → UponS P K (fun _ _ => False) ((callFunc f as'.toArray).run P w)

/-- .. of deferred ones. -/
def DfrOk (P : Program) (base : Nat) (w0 : World) (recD : Ev.Rec) : Prop :=
  ∀ f as h l, recD f as h = some l → ∀ (ρ : Lay) (as' : List Value) (w : World), VRs ρ as as' → WR base w0 ρ h w →
    (callFunc f as'.toArray).run P w = .ok (.enter f as'.toArray) w ∧
    CallsD P f as'.toArray .returning w fun e u' w' => (∃ v, e = .returned v) ∧ u' = .returning ∧ ∃ r ∈ l, ∃ ρ', Ext ρ ρ' ∧ WR base w0 ρ' r.2 w'

/-- A deferred call. -/
def DR (ρ : Lay) (x : FuncId × List V) (d : Deferred) : Prop := ∃ cap as', d.target = .fn (.func x.1) cap ∧ VRs ρ x.2 as' ∧ d.args ++ cap = as'.toArray

theorem DR.ext {ρ ρ' : Lay} (he : Ext ρ ρ') {x : FuncId × List V} {d : Deferred} (h : DR ρ x d) : DR ρ' x d := by
  obtain ⟨cap, as', h1, h2, h3⟩ := h
  exact ⟨cap, as', h1, h2.ext he, h3⟩

/-- What is said of operations that do something is so. -/
def OpnOk (P : Program) (base : Nat) (w0 : World) : Prop :=
  ∀ d e h u h', Ev.opn P d e h = some (u, h') → ∀ (ρ : Lay) e' w, EnvR ρ e e' → WR base w0 ρ h w → Comes P base w0 ρ w (d.sem e') u h'

/-- .. of steps of ranges. -/
def NextOk (P : Program) (base : Nat) (w0 : World) : Prop :=
  ∀ h it l, Ev.next h it = some l → ∀ (ρ : Lay) it' w t, VR ρ it it' → WR base w0 ρ h w →
    ∃ r ∈ l, Comes P base w0 ρ w (oNext it' false t) r.1 r.2

theorem all_ok {α : Type} {f : α → Option (List Ev.O)} : ∀ {l : List α} {r : List Ev.O}, Ev.all f l = some r → ∀ a ∈ l, ∃ r', f a = some r' ∧ ∀ o ∈ r', o ∈ r := by
  intro l
  induction l with
  | nil => intro r _ a ha; cases ha
  | cons x l ih =>
    intro r he a ha
    unfold Ev.all at he
    split at he
    · cases he
    · rename_i r1 h1
      split at he
      · cases he
      · rename_i r2 h2
        cases he
        rcases List.mem_cons.1 ha with rfl | ha
        · exact ⟨r1, h1, fun o ho => List.mem_append_left _ ho⟩
        · obtain ⟨r', h3, h4⟩ := ih h2 a ha
          exact ⟨r', h3, fun o ho => List.mem_append_right _ (h4 o ho)⟩

theorem callee_ok {ρ : Lay} {f : V} {f' : Value} {as : List V} {as' : List Value} {g : FuncId} {bs : List V} (hf : VR ρ f f') (ha : VRs ρ as as') (he : Ev.callee f as = some (g, bs)) :
    ∃ a b : List Value, f' = .func (.func g) a.toArray b.toArray ∧ VRs ρ bs (a ++ as' ++ b) := by
  unfold Ev.callee at he
  split at he
  · rename_i a b
    cases he
    cases hf with
    | fn hl h1 hm h2 =>
    exact ⟨_, _, rfl, (Al.app (Al.app ⟨hl, h1⟩ ha) ⟨hm, h2⟩)⟩
  · rename_i a b
    cases he
    cases hf
    exact ⟨a.toList, b.toList, by simp, ((raws_rel _).app ha).app (raws_rel _)⟩
  · cases he

theorem comes_upon {ρ : Lay} {w : World} {s : Sem Next} {v : V} {h' : VH} {K : Value → World → Prop} (hc : Comes P base w0 ρ w s v h')
    (hk : ∀ (ρ' : Lay) u w', Ext ρ ρ' → VR ρ' v u → WR base w0 ρ' h' w' → K u w') : UponS P K (fun _ _ => False) (s.run P w) := by
  obtain ⟨u, w', ρ', hr, h1, h2, h3⟩ := hc
  rcases hr with hr | ⟨hr, rfl⟩ <;> rw [hr]
  · exact hk _ _ _ h1 h2 h3
  · exact hk _ _ _ h1 h2 h3

theorem op_ok (hn : OpnOk P base w0) {d : D} {e : List (List V)} {e' : List (List Value)} {h h' : VH} {u : V} {ρ : Lay} {w : World} (he : Ev.op P d e h = some (u, h')) (hE : EnvR ρ e e') (r : WR base w0 ρ h w) :
    Comes P base w0 ρ w (d.sem e') u h' := by
  unfold Ev.op at he
  split at he
  · rename_i v hv
    cases he
    exact good_quiet r (Ev.opq_ok r hE hv)
  · exact hn _ _ _ _ _ he _ _ _ hE r

theorem step_ok (hn : OpnOk P base w0) (hx : NextOk P base w0) {rec : Ev.Rec} (hrec : RecOk P base w0 rec) {d : D} {e : List (List V)} {e' : List (List Value)} {h : VH} {l : List (V × VH)} {ρ : Lay} {w : World}
    (he : Ev.step P rec d e h = some l) (hE : EnvR ρ e e') (r : WR base w0 ρ h w) {K : Value → World → Prop}
    (hk : ∀ x ∈ l, ∀ (ρ' : Lay) u w', Ext ρ ρ' → VR ρ' x.1 u → WR base w0 ρ' x.2 w' → K u w') : UponS P K (fun _ _ => False) ((d.sem e').run P w) := by
  unfold Ev.step at he
  split at he
  · rename_i f as
    exact hrec _ _ _ _ he ρ _ w (evs_rel hE as) r K hk
  · rename_i f as
    split at he
    · rename_i g bs hc
      obtain ⟨a, b, hf, hbs⟩ := callee_ok (X.ev_rel hE f) (evs_rel hE as) hc
      have : D.sem e' (.callV f as) = oCall g (a ++ vals e' as ++ b) := by
        show oCallV (f.val e') (vals e' as) = _
        rw [hf]
        unfold oCallV oCall
        have e1 : (a.toArray ++ (vals e' as).toArray ++ b.toArray) = (a ++ vals e' as ++ b).toArray := by apply Array.ext'; simp
        rw [← e1]
        rfl
      rw [this]
      exact hrec _ _ _ _ he ρ _ w hbs r K hk
    · cases he
  · rename_i it t
    obtain ⟨x, hxl, hc⟩ := hx _ _ _ he ρ _ w t (X.ev_rel hE it) r
    exact comes_upon hc (hk x hxl)
  · split at he
    · rename_i x hop
      cases he
      obtain ⟨u, h'⟩ := x
      exact comes_upon (op_ok hn hop hE r) (hk _ List.mem_cons_self)
    · cases he

theorem same1_ok {ρ : Lay} {a b : V} {a' b' : Value} (ha : VR ρ a a') (hb : VR ρ b b') (he : Ev.same1 a b = true) : a' = b' := by
  unfold Ev.same1 at he
  split at he
  all_goals first
    | (cases ha; cases hb; simp only [Bool.and_eq_true, decide_eq_true_eq, beq_iff_eq] at he; done)
    | skip
  · cases ha; cases hb; simp at he; rw [he.1, he.2]
  · cases ha; cases hb; simp at he; rw [he]
  · cases ha; cases hb; rfl
  · cases ha; cases hb; simp at he; rw [he.1, he.2]
  · cases ha; cases hb; rfl
  · cases ha; cases hb
    rename_i x y
    have : x = y := by
      apply ByteArray.ext
      apply Array.ext'
      simpa using he
    rw [this]
  · simp only [Bool.and_eq_true, decide_eq_true_eq] at he
    obtain ⟨rfl, rfl⟩ := he
    cases ha with
    | ptr h1 => cases hb with
      | ptr h2 => rw [h1] at h2; cases h2; rfl
  · simp only [decide_eq_true_eq] at he
    subst he
    cases ha with
    | map h1 => cases hb with
      | map h2 => rw [h1] at h2; cases h2; rfl
  · simp only [decide_eq_true_eq] at he
    subst he
    cases ha; cases hb; rfl
  · simp only [Bool.and_eq_true, decide_eq_true_eq, beq_iff_eq] at he
    obtain ⟨⟨⟨⟨⟨rfl, rfl⟩, rfl⟩, rfl⟩, rfl⟩, rfl⟩ := he
    cases ha with
    | @sl _ _ _ _ _ b1 n1 c1 ex h1 hl1 he1 hn1 hx1 _ => cases hb with
      | @sl _ _ _ _ _ b2 n2 c2 _ h2 hl2 he2 hn2 hx2 _ =>
        rw [h1] at h2; cases h2
        have key : ∀ e : Bool, (e = true → c1 = c2) → (e = false → c1 = c2) → c1 = c2 := fun e => by cases e <;> simp
        have : c1 = c2 := key _ (fun q => by rw [he1 q, he2 q]) fun q => by
          obtain ⟨q1, q2⟩ := hx1 q
          obtain ⟨_, q3⟩ := hx2 q
          exact Nat.eq_of_mul_eq_mul_right (Nat.pos_of_ne_zero q1) (by omega)
        rw [this]
  · cases he

theorem sames_ok {ρ : Lay} : ∀ {l m : List V} {us vs : List Value}, VRs ρ l us → VRs ρ m vs → Ev.sames l m = true → us = vs := by
  intro l
  induction l with
  | nil =>
    intro m us vs hl hm he
    cases m with
    | nil => rw [hl.unnil, hm.unnil]
    | cons => simp [Ev.sames] at he
  | cons a l ih =>
    intro m us vs hl hm he
    cases m with
    | nil => simp [Ev.sames] at he
    | cons b m =>
      simp only [Ev.sames, Bool.and_eq_true] at he
      obtain ⟨u, us, rfl, h1, h2⟩ := hl.uncons
      obtain ⟨v, vs, rfl, h3, h4⟩ := hm.uncons
      rw [same1_ok h1 h3 he.1, ih h2 h4 he.2]

theorem same_ok {ρ : Lay} {a b : V} {a' b' : Value} (ha : VR ρ a a') (hb : VR ρ b b') (he : Ev.same a b = true) : a' = b' := by
  unfold Ev.same at he
  split at he
  · cases ha with
    | agg hl h1 => cases hb with
      | agg hm h2 => rw [sames_ok ⟨hl, h1⟩ ⟨hm, h2⟩ he]
  · exact same1_ok ha hb he

theorem res_ok {ρ : Lay} {h : VH} {w : World} (r : WR base w0 ρ h w) : ∀ {rs : List ResultVar} {vs us : List V} {vs' : List Value}, VRs ρ vs vs' → Ev.res rs P h vs = some us →
    ∃ us', (resAll rs vs').run P w = .ok us' w ∧ VRs ρ us us' := by
  intro rs
  induction rs with
  | nil =>
    intro vs us vs' hv he
    cases vs with
    | nil => simp only [Ev.res, Option.some.injEq] at he; subst he; rw [hv.unnil]; exact ⟨[], by simp [resAll], .nil⟩
    | cons => simp [Ev.res] at he
  | cons x rs ih =>
    intro vs us vs' hv he
    cases vs with
    | nil => cases x <;> simp [Ev.res] at he
    | cons v vs =>
      obtain ⟨v', vs', rfl, h1, h2⟩ := hv.uncons
      cases x with
      | tmp t =>
        simp only [Ev.res] at he
        cases hr : Ev.res rs P h vs with
        | none => simp [hr] at he
        | some us0 =>
          simp [hr] at he; subst he
          obtain ⟨us', h3, h4⟩ := ih h2 hr
          exact ⟨v' :: us', by simp [resAll, resOne, h3], .cons h1 h4⟩
      | cell a t =>
        simp only [Ev.res] at he
        split at he
        · rename_i u us0 hl hr
          cases he
          obtain ⟨us', h3, h4⟩ := ih h2 hr
          obtain ⟨u', h5, h6⟩ := Ev.load_ok (P := P) r h1 hl
          refine ⟨u' :: us', ?_, .cons h6 h4⟩
          have hp : ∃ y, v' = .pointer (some y) := by
            unfold Ev.load at hl
            split at hl
            · cases h1; exact ⟨_, rfl⟩
            · cases hl
          obtain ⟨y, rfl⟩ := hp
          simp only [Instr.loadAt, Instr.sureAddr, Sem.run_bind, Sem.run_pure, Result.andThen_ok] at h5
          simp [resAll, resOne, asAddr, h5, h3]
        · cases he

theorem tup_ok {ρ : Lay} {us : List V} {us' : List Value} (h : VRs ρ us us') : VR ρ (Ev.tup us) (tupleOf us') := by
  cases us with
  | nil => rw [h.unnil]; exact .tup (us := []) rfl (fun i x y hx => by simp at hx)
  | cons u us =>
    obtain ⟨u', us', rfl, h1, h2⟩ := h.uncons
    cases us with
    | nil => rw [h2.unnil]; exact h1
    | cons v us =>
      obtain ⟨v', us', rfl, h3, h4⟩ := h2.uncons
      exact .tup h.1 h.2

theorem fin_ok {recD : Ev.Rec} (hD : DfrOk P base w0 recD) {rs : List ResultVar} {vs : List V} : ∀ {ds : List (FuncId × List V)} {ds' : List Deferred} {h : VH} {l : List Ev.O} {ρ : Lay} {vs' : List Value} {w : World},
    Ev.fin P recD rs vs ds h = some l → VRs ρ vs vs' → Al (DR ρ) ds ds' → WR base w0 ρ h w → Run P (fun _ _ => False) (Fr.fin rs vs' ds') w (Post base w0 ρ l) := by
  intro ds
  induction ds with
  | nil =>
    intro ds' h l ρ vs' w he hv hd r
    rw [hd.unnil]
    unfold Ev.fin at he
    split at he
    · rename_i us hr
      cases he
      obtain ⟨us', h1, h2⟩ := res_ok (P := P) r hv hr
      refine ⟨tupleOf us', by simp [resS, h1], ?_⟩
      exact ⟨_, List.mem_cons_self, rfl, ρ, Ext.refl ρ, .cons (tup_ok h2) .nil, r⟩
    · cases he
  | cons x ds ih =>
    intro ds' h l ρ vs' w he hv hd r
    obtain ⟨d, ds', rfl, hx, hrest⟩ := hd.uncons
    obtain ⟨f, as⟩ := x
    unfold Ev.fin at he
    split at he
    · rename_i l1 hl1
      obtain ⟨cap, as', h1, h2, h3⟩ := hx
      obtain ⟨h4, h5⟩ := hD _ _ _ _ hl1 ρ as' w h2 r
      refine ⟨_, _, f, as'.toArray, h1, ?_, ?_⟩
      · rw [h1]
        show (callFunc f (d.args ++ cap)).run P w = _
        rw [h3]; exact h4
      · refine h5.mono ?_
        rintro e u' w' ⟨⟨v, rfl⟩, rfl, x, hx, ρ', e1, r1⟩
        refine ⟨rfl, ?_⟩
        obtain ⟨r', h6, h7⟩ := all_ok he x hx
        exact Run.mono (fun _ _ h => h) _ (fun t vs w hp => hp.mono e1 h7) (ih h6 (hv.ext e1) (hrest.mono fun _ _ => DR.ext e1) r1)
    · cases he

theorem row_ok {ρ : Lay} {e : List (List V)} {e' : List (List Value)} (hE : EnvR ρ e e') (i : Nat) : VRs ρ ((nth e i).getD []) (e'.getD i []) := by
  rw [nth_eq, List.getD_eq_getElem?_getD]
  cases hi : e[i]? with
  | none =>
    have : e'[i]? = none := List.getElem?_eq_none (by have := List.getElem?_eq_none_iff.1 hi; have := hE.1; omega)
    rw [this]; exact .nil
  | some a => obtain ⟨b, hb, hr⟩ := hE.get hi; rw [hb]; exact hr

theorem ev_ok (hn : OpnOk P base w0) (hx : NextOk P base w0) {rec recD : Ev.Rec} (hrec : RecOk P base w0 rec) (hD : DfrOk P base w0 recD) {fuel : Nat} : ∀ (t : T) {g : Nat} {e : List (List V)} {ds : List (FuncId × List V)} {h : VH} {l : List Ev.O}
    {ρ : Lay} {e' : List (List Value)} {ds' : List Deferred} {w : World}, Ev.ev P rec recD fuel t g e ds h = some l → EnvR ρ e e' → Al (DR ρ) ds ds' → WR base w0 ρ h w →
    Run P (fun _ _ => False) (t.sp g e' ds') w (Post base w0 ρ l) := by
  intro t
  induction t with
  | done t xs =>
    intro g e ds h l ρ e' ds' w he hE hd r
    cases he
    exact ⟨_, List.mem_cons_self, rfl, ρ, Ext.refl ρ, evs_rel hE xs, r⟩
  | doneRow t i =>
    intro g e ds h l ρ e' ds' w he hE hd r
    cases he
    exact ⟨_, List.mem_cons_self, rfl, ρ, Ext.refl ρ, row_ok hE i, r⟩
  | bind p k ihp ihk =>
    intro g e ds h l ρ e' ds' w he hE hd r
    unfold Ev.ev at he
    split at he
    · rename_i l1 h1
      show Run P _ (p.sp g e' ds') w fun t vs w' => Run P _ (k.sp t (vs :: e') ds') w' _
      refine Run.mono (fun _ _ h => h) _ ?_ (ihp h1 hE hd r)
      rintro t vs w' ⟨o, ho, rfl, ρ', e1, hv, r1⟩
      obtain ⟨r', h2, h3⟩ := all_ok he o ho
      exact Run.mono (fun _ _ h => h) _ (fun t vs w hp => hp.mono e1 h3) (ihk h2 (.cons hv (hE.ext e1)) (hd.mono fun _ _ => DR.ext e1) r1)
    · cases he
  | op d k ih =>
    intro g e ds h l ρ e' ds' w he hE hd r
    unfold Ev.ev at he
    split at he
    · rename_i l1 h1
      refine step_ok hn hx hrec h1 hE r ?_
      intro x hxm ρ' u w' e1 hu r1
      obtain ⟨r', h2, h3⟩ := all_ok he x hxm
      exact Run.mono (fun _ _ h => h) _ (fun t vs w hp => hp.mono e1 h3) (ih h2 (.cons (.cons hu .nil) (hE.ext e1)) (hd.mono fun _ _ => DR.ext e1) r1)
    · cases he
  | rd d k ih =>
    intro g e ds h l ρ e' ds' w he hE hd r
    unfold Ev.ev at he
    split at he
    · rename_i v h1
      obtain ⟨u, h2, h3⟩ := Ev.opq_ok (P := P) r hE h1
      exact ⟨u, h2, ih he (.cons (.cons h3 .nil) hE) hd r⟩
    · cases he
  | chk d x k ih =>
    intro g e ds h l ρ e' ds' w he hE hd r
    unfold Ev.ev at he
    split at he
    · rename_i v h1
      split at he
      · rename_i hs
        obtain ⟨u, h2, h3⟩ := Ev.opq_ok (P := P) r hE h1
        have := same_ok h3 (X.ev_rel hE x) hs
        exact ⟨by rw [h2, this], ih he hE hd r⟩
      · cases he
    · cases he
  | dfr f xs k ih =>
    intro g e ds h l ρ e' ds' w he hE hd r
    unfold Ev.ev at he
    split at he
    · rename_i x hc
      obtain ⟨g1, bs⟩ := x
      obtain ⟨a, b, hf, hbs⟩ := callee_ok (X.ev_rel hE f) (evs_rel hE xs) hc
      refine ⟨{ target := .fn (.func g1) b.toArray, args := a.toArray ++ (vals e' xs).toArray }, ?_, ih he hE (.cons ⟨_, _, rfl, hbs, by apply Array.ext'; simp⟩ hd) r⟩
      rw [hf]
      rfl
    · cases he
  | ite x a b iha ihb =>
    intro g e ds h l ρ e' ds' w he hE hd r
    unfold Ev.ev at he
    have hv := X.ev_rel hE x
    split at he
    · rename_i heq
      rw [heq] at hv
      exact ⟨true, hv.raw_eq, fun _ => iha he hE hd r, fun h => by cases h⟩
    · rename_i heq
      rw [heq] at hv
      exact ⟨false, hv.raw_eq, fun h => by (cases h), fun _ => ihb he hE hd r⟩
    · cases he
  | both a b iha ihb =>
    intro g e ds h l ρ e' ds' w he hE hd r
    unfold Ev.ev at he
    split at he
    · rename_i l1 l2 h1 h2
      cases he
      exact ⟨Run.mono (fun _ _ h => h) _ (fun t vs w hp => hp.mono (Ext.refl ρ) fun o ho => List.mem_append_left _ ho) (iha h1 hE hd r),
        Run.mono (fun _ _ h => h) _ (fun t vs w hp => hp.mono (Ext.refl ρ) fun o ho => List.mem_append_right _ ho) (ihb h2 hE hd r)⟩
    · cases he
  | drew p ih =>
    intro g e ds h l ρ e' ds' w he hE hd r
    unfold Ev.ev at he
    exact ih he hE hd (r.drew _)
  | loop init body k ihb ihk =>
    intro g e ds h l ρ e' ds' w he hE hd r
    unfold Ev.ev at he
    split at he
    · rename_i l0 h0
      refine ⟨fun n vs' w => ∃ ρ1 vs h1 lx, Ext ρ ρ1 ∧ VRs ρ1 vs vs' ∧ WR base w0 ρ1 h1 w ∧ Ev.iter n (fun vs h => Ev.ev P rec recD fuel body g (vs :: e) ds h) vs h1 = some lx ∧ ∀ o ∈ lx, o ∈ l0,
        ⟨fuel, ρ, _, h, l0, Ext.refl ρ, evs_rel hE init, r, h0, fun _ ho => ho⟩, ?_⟩
      rintro n vs' w1 ⟨ρ1, vs, h1, lx, e1, hv, r1, hi, hsub⟩
      cases n with
      | zero => cases hi
      | succ n =>
        unfold Ev.iter at hi
        split at hi
        · cases hi
        · rename_i l1 hb1
          refine Run.mono (fun _ _ h => h) _ ?_ (ihb hb1 (.cons hv (hE.ext e1)) (hd.mono fun _ _ => DR.ext e1) r1)
          rintro t us w2 ⟨o, ho, rfl, ρ2, e2, hv2, r2⟩
          obtain ⟨r', h3, h4⟩ := all_ok hi o ho
          by_cases ht : o.t = 0
          · simp only [ht, if_true] at h3 ⊢
            exact ⟨n, Nat.lt_succ_self n, ρ2, _, _, r', e1.trans e2, hv2, r2, h3, fun o ho => hsub o (h4 o ho)⟩
          · simp only [ht, if_false] at h3 ⊢
            cases h3
            obtain ⟨r3, h5, h6⟩ := all_ok he o (hsub o (h4 o List.mem_cons_self))
            exact Run.mono (fun _ _ h => h) _ (fun t vs w hp => hp.mono (e1.trans e2) h6) (ihk h5 (.cons hv2 (hE.ext (e1.trans e2))) (hd.mono fun _ _ => DR.ext (e1.trans e2)) r2)
    · cases he
  | alt t a b iha ihb =>
    intro g e ds h l ρ e' ds' w he hE hd r
    unfold Ev.ev at he
    unfold T.sp
    split at he
    · rename_i hg; rw [if_pos hg]; exact iha he hE hd r
    · rename_i hg; rw [if_neg hg]; exact ihb he hE hd r
  | fin rs xs =>
    intro g e ds h l ρ e' ds' w he hE hd r
    exact fin_ok hD he (evs_rel hE xs) hd r
  | finRow rs i =>
    intro g e ds h l ρ e' ds' w he hE hd r
    exact fin_ok hD he (row_ok hE i) hd r
  | fail =>
    intro g e ds h l ρ e' ds' w he
    cases he
end
end Go.Fr

-- FrNext
namespace Go.Fr
open Go
set_option linter.unusedSectionVars false
variable [Sig]
section
variable {P : Program} {base : Nat} {w0 : World}

theorem run_getObj_iter {w : World} {b : Nat} {m : Option Nat} {s t : Nat} {seen : Array Nat} (hb : w.heap[b]? = some (.mapIter m s seen t)) : (getObj b).run P w = .ok (.mapIter m s seen t) w := by
  simp [getObj, Sem.run, hb]

theorem run_setObj_iter {w : World} {b : Nat} {m : Option Nat} {s t : Nat} {seen : Array Nat} {x : Obj} (hb : w.heap[b]? = some (.mapIter m s seen t)) :
    (setObj b x).run P w = .ok () { w with heap := w.heap.setIfInBounds b x } := by
  simp [setObj, Sem.run, hb]

theorem next_ok : NextOk P base w0 := by
  intro h it l he ρ it' w t hit r
  unfold Ev.next at he
  split at he
  · rename_i k
    cases hit with
    | @ptr _ _ b n hk =>
    split at he
    · rename_i s1 s2 s3 hg
      cases he
      obtain ⟨b', n', x, g1, g2, g3, g4⟩ := r.obj _ _ hg
      rw [hk] at g1; cases g1
      cases g4
      refine ⟨_, List.mem_cons_self, .tuple #[.bool false], w, ρ, .inl ?_, Ext.refl ρ, ?_, r⟩
      · simp [oNext, Instr.next, run_getObj_iter g3]
      · exact .tup (us := [.bool false]) rfl fun i x y hx hy => by
          cases i with
          | zero => simp at hx hy; subst hx hy; exact .raw _
          | succ i => simp at hx
    · rename_i m since seen stepped hg
      obtain ⟨b', n', x, g1, g2, g3, g4⟩ := r.obj _ _ hg
      rw [hk] at g1; cases g1
      cases g4 with
      | @iter _ bm j _ _ _ hm =>
      split at he
      · rename_i es clock hgm
        obtain ⟨bm', n2, y, m1, m2, m3, m4⟩ := r.obj _ _ hgm
        rw [hm] at m1; cases m1
        cases m4 with
        | @map _ us _ hal =>
        split at he
        · rename_i hseen
          have hs : seen = [] := by simpa using hseen
          subst hs
          split at he
          · rename_i hemp
            have : es = [] := by simpa using hemp
            subst this
            have hus : us = [] := hal.unnil
            subst hus
            cases he
            refine ⟨_, List.mem_cons_self, .tuple #[.bool false], w, ρ, .inl ?_, Ext.refl ρ, ?_, r⟩
            · have hc : (choose (.mapNext 1)).run P w = .ok 0 w := by simp [choose, Sem.run, Question.forced]
              simp [oNext, Instr.next, run_getObj_iter g3, run_getObj_map m3, hc]
            · exact .tup (us := [.bool false]) rfl fun i x y hx hy => by
                cases i with
                | zero => simp at hx hy; subst hx hy; exact .raw _
                | succ i => simp at hx
          · rename_i hne
            split at he
            · rename_i hall
              cases he
              have hpos : 0 < us.length := by
                have := hal.1
                cases es with
                | nil => simp at hne
                | cons => simp at this; omega
              have hold : ∀ u ∈ us, u.born < since := by
                intro u hu
                obtain ⟨i, hi, rfl⟩ := List.getElem_of_mem hu
                have hi' : i < es.length := by have := hal.1; omega
                have h1 := hal.2 i es[i] us[i] (List.getElem?_eq_getElem hi') (List.getElem?_eq_getElem hi)
                have h2 := (List.all_eq_true.1 hall) es[i] (List.getElem_mem hi')
                rw [h1.born]; simpa using h2
              have f1 : us.filter (fun e => decide (e.born < since)) = us := List.filter_eq_self.2 fun u hu => by simpa using hold u hu
              have f2 : us.filter (fun e => decide (since ≤ e.born)) = [] := List.filter_eq_nil_iff.2 fun u hu => by have := hold u hu; simp; omega
              have hne' : us ≠ [] := by intro h0; rw [h0] at hpos; simp at hpos
              have hne3 : ¬ ∀ a ∈ us, since ≤ a.born := by
                intro h0
                have := h0 us[0] (List.getElem_mem hpos)
                have := hold us[0] (List.getElem_mem hpos)
                omega
              have fin : ∀ j, (hj : j < us.length) → ∀ d, (oNext (.pointer (some ⟨b, 0, none⟩)) false t).run P w =
                  .ok (.value (.tuple #[.bool true, us[j].key, us[j].val])) { w with heap := w.heap.setIfInBounds b (.mapIter (some bm) since #[us[j].born] clock), drawn := d } →
                  ∃ r ∈ es.map (fun e => (V.tup [.raw (.bool true), e.1, e.2.1], h.set k (.iter (some m) since [e.2.2] clock))), Comes P base w0 ρ w (oNext (.pointer (some ⟨b, 0, none⟩)) false t) r.1 r.2 := by
                intro j hj d hrun
                have hj' : j < es.length := by have := hal.1; omega
                have hrel := hal.2 j es[j] us[j] (List.getElem?_eq_getElem hj') (List.getElem?_eq_getElem hj)
                refine ⟨_, List.mem_map_of_mem (List.getElem_mem hj'), _, _, ρ, .inl hrun, Ext.refl ρ, ?_, ?_⟩
                · have : Al (VR ρ) [.raw (.bool true), es[j].1, es[j].2.1] [.bool true, us[j].key, us[j].val] := .cons (.raw _) (.cons hrel.key (.cons hrel.val .nil))
                  exact .tup this.1 this.2
                · have e1 : (#[us[j].born] : Array Nat) = [es[j].2.2].toArray := by rw [hrel.born]
                  rw [e1]
                  exact (r.drew d).put hg hk (.iter hm) rfl
              have hset : ∀ x, (setObj b x).run P w.drew = .ok () { w with heap := w.heap.setIfInBounds b x, drawn := w.drawn + 1 } := fun x => run_setObj_iter (w := w.drew) g3
              by_cases hfor : (Question.mapNext us.length).forced = true
              · refine fin 0 hpos w.drawn ?_
                have hset0 : ∀ x, (setObj b x).run P w = .ok () { w with heap := w.heap.setIfInBounds b x } := fun x => run_setObj_iter g3
                simp [oNext, Instr.next, run_getObj_iter g3, run_getObj_map m3, f1, f2, hne3, hfor, hpos, hset0]
              · have hlt : w.tape w.drawn (.mapNext us.length) % us.length < us.length := Nat.mod_lt _ hpos
                refine fin _ hlt (w.drawn + 1) ?_
                simp [oNext, Instr.next, run_getObj_iter g3, run_getObj_map m3, f1, f2, hne3, hfor, Question.cut, hlt, hset]
            · cases he
        · cases he
      · cases he
    · cases he
  · cases he
end
end Go.Fr

-- FrApp4
namespace Go.Fr
open Go
set_option linter.unusedSectionVars false
variable [Sig]
section
variable {P : Program} {w w' : World} {base : Nat} {w0 : World} {ρ : Lay} {h : VH}

theorem Ev.adds_ok {t e : TypeId} {ti : TI} {d2 : TypeDesc} {x : V} {x' : Value} {new : List V} {n : Nat} (d : Nat) (r : WR base w0 ρ h w) (hel : elemTI P t = some (e, ti)) (hx : VR ρ x x') (he : Ev.added h ti d2 x = some (new, n)) :
    ∃ us, VRs ρ new us ∧ us.length = n * ti.size ∧ Adds P w d e ti d2 n x' us := by
  by_cases hint : ∃ kk, d2 = .int kk
  · obtain ⟨kk, rfl⟩ := hint
    obtain ⟨us, h1, h2, h3, h4, h5⟩ := Ev.added_int (w := w) hel hx he
    exact ⟨us, h1, h2, ⟨fun _ => ⟨h4, h5, h3 d⟩, fun hn => absurd rfl (hn kk)⟩⟩
  · have hni : ∀ kk, d2 ≠ .int kk := fun kk hk => hint ⟨kk, hk⟩
    obtain ⟨h1, h2⟩ := Ev.added_row (P := P) (e := e) r hni hx he
    obtain ⟨us, h3, h4, h5⟩ := h1 d
    exact ⟨us, h3, h4, ⟨fun hi => absurd hi hint, fun _ => ⟨h5, h2⟩⟩⟩

/-- A block that turned, under a new number. -/
theorem WR.move (r : WR base w0 ρ h w) {k b n : Nat} {o o0 : VO} {x : Obj} (hk : h.get k = some o0) (hb : ρ[k]? = some (b, n)) (ho : OR ρ n o x)
    (e : w' = { w with heap := w.heap.setIfInBounds b x }) :
    WR base w0 (ρ ++ [(b, n)]) ((h.new o).del k) w' ∧ Ext ρ (ρ ++ [(b, n)]) ∧ (ρ ++ [(b, n)])[h.next]? = some (b, n) := by
  have r1 := r.put hk hb ho e
  have hlt : k < ρ.length := (List.getElem?_eq_some_iff.1 hb).1
  have ext := Ext.push ρ (b, n)
  have here : (ρ ++ [(b, n)])[h.next]? = some (b, n) := by rw [r.len]; simp
  have hkn : k ≠ h.next := by rw [r.len]; omega
  have self : (h.set k o).get k = some o := by
    unfold VH.get VH.set
    simp [PT.get_set]
  have cases_ : ∀ j o', ((h.new o).del k).get j = some o' → j ≠ k ∧ ((j = h.next ∧ o' = o) ∨ (j ≠ h.next ∧ (h.set k o).get j = some o')) := fun j o' hj => by
    unfold VH.get VH.del VH.new at hj
    simp only [PT.get_set] at hj
    split at hj
    · cases hj
    · rename_i hjk
      refine ⟨hjk, ?_⟩
      split at hj
      · rename_i hjn; cases hj; exact .inl ⟨hjn, rfl⟩
      · rename_i hjn
        refine .inr ⟨hjn, ?_⟩
        unfold VH.get VH.set
        simp only [PT.get_set, hjk, if_false]
        exact hj
  have old : ∀ j o', j ≠ h.next → (h.set k o).get j = some o' → ∀ c m, (ρ ++ [(b, n)])[j]? = some (c, m) → ρ[j]? = some (c, m) := fun j o' _ hj c m hc => by
    obtain ⟨b', m', y, q1, _⟩ := r1.obj j o' hj
    have := ext _ _ q1
    rw [this] at hc; cases hc
    exact q1
  refine ⟨⟨r1.below, r1.size, by simp [VH.new, VH.del, r.len], fun j o' hj => ?_, fun k1 k2 o1 o2 c m m' h1 h2 h3 h4 => ?_⟩, ext, here⟩
  · obtain ⟨hjk, ⟨rfl, rfl⟩ | ⟨hjn, hj'⟩⟩ := cases_ j o' hj
    · obtain ⟨b', m', y, q1, q2, q3, q4⟩ := r1.obj k _ self
      rw [hb] at q1; cases q1
      exact ⟨b, n, y, here, q2, q3, q4.ext ext⟩
    · obtain ⟨b', m', y, q1, q2, q3, q4⟩ := r1.obj j o' hj'
      exact ⟨b', m', y, ext _ _ q1, q2, q3, q4.ext ext⟩
  · obtain ⟨n1, ⟨rfl, rfl⟩ | ⟨hj1, hj1'⟩⟩ := cases_ k1 o1 h1
    · obtain ⟨n2, ⟨rfl, rfl⟩ | ⟨hj2, hj2'⟩⟩ := cases_ k2 o2 h2
      · rfl
      · rw [here] at h3; cases h3
        exact absurd (r1.inj k2 k _ _ _ _ _ hj2' self (old k2 _ hj2 hj2' _ _ h4) hb) n2
    · obtain ⟨n2, ⟨rfl, rfl⟩ | ⟨hj2, hj2'⟩⟩ := cases_ k2 o2 h2
      · rw [here] at h4; cases h4
        exact absurd (r1.inj k1 k _ _ _ _ _ hj1' self (old k1 _ hj1 hj1' _ _ h3) hb) n1
      · exact r1.inj k1 k2 _ _ _ _ _ hj1' hj2' (old k1 _ hj1 hj1' _ _ h3) (old k2 _ hj2 hj2' _ _ h4)

theorem append_oBuiltin {ts : List TypeId} {ty : TypeId} {bs : List Bool} {s x v : Value} {w1 : World}
    (hr : (Builtin.append_ ts.toArray ty #[s, x]).run P w = .ok v w1) : (oBuiltin .append ts ty bs [s, x]).run P w = .ok (.value v) w1 := by
  simp [oBuiltin, Go.builtin, hr]

theorem Ev.append_ok {ts : List TypeId} {ty : TypeId} {bs : List Bool} {s x u : V} {s' x' : Value} {h' : VH} (r : WR base w0 ρ h w) (hs : VR ρ s s') (hx : VR ρ x x') (he : Ev.append P h ts s x = some (u, h')) :
    Comes P base w0 ρ w (oBuiltin .append ts ty bs [s', x']) u h' := by
  unfold Ev.append at he
  split at he
  · rename_i t t2 ts
    split at he
    · rename_i e ti d2 hel hd2
      split at he
      · cases he
      · rename_i hsz
        split at he
        · rename_i new n hadd
          have hzl := zs_len (elemTI_some hel).2
          split at he
          · -- nil
            cases hs
            split at he
            · rename_i hn
              cases he
              subst hn
              obtain ⟨us, h1, h2, h3⟩ := Ev.adds_ok (P := P) w.drawn r hel hx hadd
              exact good_quiet r ⟨_, append_oBuiltin (run_append_room (w' := w) hel hd2 h3 (Nat.le_refl _) rfl), .raw _⟩
            · rename_i hn
              split at he
              · cases he
              · rename_i hbig
                cases he
                obtain ⟨us, h1, h2, h3⟩ := Ev.adds_ok (P := P) (w.drawn + 1) r hel hx hadd
                obtain ⟨k, hr⟩ := run_append_none (olds := []) (ty := ty) (ts := ts) hel hd2 h3 (m := 0) (c := 0) (base := none) (by omega) (by rw [Nat.zero_add]; omega) (by simp [Builtin.firstCells])
                have hlen : (us ++ rep ti.zs k).length = (n + k) * ti.size := by
                  rw [List.length_append, h2, rep_len, hzl, Nat.add_mul]
                refine good_new (us := us) (ext := rep ti.zs k) (fr := (0, 0)) (n0 := w.drawn + 1) r h1 (.inl rfl) (fun b => .slice (some ⟨b, 0, none⟩) n (n + k)) (append_oBuiltin (by simpa using hr)) fun ρ' _ b hb => ?_
                exact .sl hb (by omega) (fun hq => by cases hq) (by rw [hlen]; omega) (fun _ => ⟨hsz, by rw [hlen]; omega⟩) (Nat.le_refl _)
          · rename_i k o len ex lb es
            have hs0 := hs
            cases hs with
            | @sl _ _ _ _ _ b nn c _ hk hl hex hn hf hle =>
            split at he
            · cases he
            · rename_i hg
              have hes : es = ti.size := Decidable.not_not.1 fun q => hg (.inl q)
              have hbig : (len + n) * (ti.bytes + 1) ≤ 1000000 := Nat.le_of_not_lt fun q => hg (.inr q)
              subst hes
              split at he
              · rename_i hroom
                split at he
                · rename_i h1' hp
                  cases he
                  obtain ⟨us, h1, h2, h3⟩ := Ev.adds_ok (P := P) w.drawn r hel hx hadd
                  obtain ⟨w1, h4, h5⟩ := Ev.put_ok (P := P) r hk h1 hp
                  refine ⟨_, w1, ρ, .inl (append_oBuiltin (run_append_room (base := some ⟨b, o, none⟩) hel hd2 h3 (by omega) (by simpa only [add_at] using h4))), Ext.refl ρ, ?_, h5⟩
                  exact .sl hk hl hex hn hf hroom
                · cases he
              · rename_i hroom
                split at he
                · rename_i old hold
                  have hfirst : ∀ d, ∃ os, (Builtin.firstCells ti.size len (.slice (some ⟨b, o, none⟩) len c)).run P { w with drawn := d } = .ok os.toArray { w with drawn := d } ∧ VRs ρ old os := fun d => by
                    obtain ⟨os, q1, q2⟩ := run_first (P := P) (m := len) (r.drew d) hs0 rfl hold (Nat.le_refl _)
                    refine ⟨os, q1, ?_⟩
                    rwa [List.take_of_length_le (by rw [Ev.sliceCells_len rfl hold]; exact Nat.le_refl _)] at q2
                  have holdlen : old.length = len * ti.size := Ev.sliceCells_len rfl hold
                  split at he
                  · rename_i hext
                    cases he
                    have hc : c = lb := hex hext
                    obtain ⟨us, h1, h2, h3⟩ := Ev.adds_ok (P := P) (w.drawn + 1) r hel hx hadd
                    obtain ⟨os, q1, q2⟩ := hfirst (w.drawn + 1)
                    obtain ⟨k', hr⟩ := run_append_none (ty := ty) (ts := ts) hel hd2 h3 (m := len) (c := c) (by omega) hbig q1
                    have hlen : (os ++ us ++ rep ti.zs k').length = (len + n + k') * ti.size := by
                      rw [List.length_append, List.length_append, h2, ← q2.1, holdlen, rep_len, hzl, Nat.add_mul, Nat.add_mul]
                    refine good_new (us := os ++ us) (ext := rep ti.zs k') (fr := (0, 0)) (n0 := w.drawn + 1) r (q2.app h1) (.inl rfl) (fun b => .slice (some ⟨b, 0, none⟩) (len + n) (len + n + k')) (append_oBuiltin hr) fun ρ' _ b hb => ?_
                    exact .sl hb (by omega) (fun hq => by cases hq) (by rw [hlen]; omega) (fun _ => ⟨hsz, by rw [hlen]; omega⟩) (Nat.le_refl _)
                  · rename_i hext
                    have hext : ex = false := by simpa using hext
                    split at he
                    · rename_i ho
                      subst ho
                      split at he
                      · rename_i t0 cs0 hc0
                        split at he
                        · rename_i hte
                          obtain ⟨rfl, hone⟩ := hte
                          cases he
                          obtain ⟨hf1, hf2⟩ := hf hext
                          by_cases hreal : len + n ≤ c
                          · -- in place
                            obtain ⟨us, h1, h2, h3⟩ := Ev.adds_ok (P := P) w.drawn r hel hx hadd
                            obtain ⟨b', n', cv, ext, fr, g1, g2, g3, g4, g5, g6⟩ := r.cells hc0
                            rw [hk] at g1; cases g1
                            have hmul : (len + n) * ti.size ≤ c * ti.size := Nat.mul_le_mul_right _ hreal
                            have hmul2 : (len + n) * ti.size = len * ti.size + n * ti.size := Nat.add_mul _ _ _
                            have hst := run_storeCells_fr (P := P) (b := b) (o := len * ti.size) (T := t0) (cs := cv ++ ext) g6 us 0 (cv ++ ext) w rfl g3 (by rw [g5, h2]; omega) (h1.ones hone)
                            have hold' : old = cs0.take (len * ti.size) ∧ len * ti.size ≤ cs0.length := by
                              have := hold
                              simp only [Ev.sliceCells, if_true, hc0] at this
                              split at this
                              · rename_i hq; cases this; exact ⟨by simp, by omega⟩
                              · cases this
                            have hcl := g4.1
                            have e1 : (cv ++ ext).take (len * ti.size + 0) ++ us ++ (cv ++ ext).drop (len * ti.size + 0 + us.length) = (cv.take (len * ti.size) ++ us) ++ (cv ++ ext).drop (len * ti.size + us.length) := by
                              rw [Nat.add_zero, List.take_append_of_le_length (by omega)]
                            rw [e1] at hst
                            obtain ⟨m1, m2, m3⟩ := r.move (cellsAt_some hc0) hk (o := .cells t0 (old ++ new)) (x := .cells ((cv.take (len * ti.size) ++ us) ++ (cv ++ ext).drop (len * ti.size + us.length)).toArray t0 fr)
                              (.cells (by rw [hold'.1]; exact (g4.take _).app h1) (by rw [← e1]; simp at g5 ⊢; omega) (by rw [← g5]; exact g6)) rfl
                            refine ⟨_, _, _, .inl (append_oBuiltin (run_append_room (base := some ⟨b, 0, none⟩) hel hd2 h3 hreal (by simpa only [add_at, Nat.zero_add] using hst))), m2, ?_, m1⟩
                            exact .sl m3 hreal (fun hq => by cases hq) hn (fun _ => ⟨hf1, hf2⟩) (Nat.le_refl _)
                          · obtain ⟨us, h1, h2, h3⟩ := Ev.adds_ok (P := P) (w.drawn + 1) r hel hx hadd
                            obtain ⟨os, q1, q2⟩ := hfirst (w.drawn + 1)
                            obtain ⟨k', hr⟩ := run_append_none (ty := ty) (ts := ts) hel hd2 h3 (m := len) (c := c) hreal hbig q1
                            have hlen : (os ++ us ++ rep ti.zs k').length = (len + n + k') * ti.size := by
                              rw [List.length_append, List.length_append, h2, ← q2.1, holdlen, rep_len, hzl, Nat.add_mul, Nat.add_mul]
                            have hg := good_new (v := .sl h.next 0 (len + n) false (len + n) ti.size) (us := os ++ us) (ext := rep ti.zs k') (fr := (0, 0)) (n0 := w.drawn + 1) r (q2.app h1) (.inl rfl) (fun b => .slice (some ⟨b, 0, none⟩) (len + n) (len + n + k')) (append_oBuiltin (bs := bs) hr) fun ρ' _ b hb => 
                              .sl hb (by omega) (fun hq => by cases hq) (by rw [hlen]; omega) (fun _ => ⟨hsz, by rw [hlen]; omega⟩) (Nat.le_refl _)
                            obtain ⟨v1, w1, ρ1, p1, p2, p3, p4⟩ := hg
                            exact ⟨v1, w1, ρ1, p1, p2, p3, p4.del k⟩
                        · cases he
                      · cases he
                    · cases he
                · cases he
          · cases he
        · cases he
    · cases he
  · cases he

theorem Ev.builtin_ok {b : Builtin} {ts : List TypeId} {ty : TypeId} {cs : List Bool} {as : List V} {as' : List Value} {u : V} {h' : VH} (r : WR base w0 ρ h w) (ha : VRs ρ as as') (he : Ev.builtin P h b ts as = some (u, h')) :
    Comes P base w0 ρ w (oBuiltin b ts ty cs as') u h' := by
  unfold Ev.builtin at he
  split at he
  · obtain ⟨s', _, rfl, h1, ha⟩ := ha.uncons
    obtain ⟨x', _, rfl, h2, ha⟩ := ha.uncons
    rw [ha.unnil]
    exact Ev.append_ok r h1 h2 he
  · obtain ⟨s', _, rfl, h1, ha⟩ := ha.uncons
    obtain ⟨x', _, rfl, h2, ha⟩ := ha.uncons
    rw [ha.unnil]
    exact Ev.copy_ok r h1 h2 he
  · obtain ⟨s', _, rfl, h1, ha⟩ := ha.uncons
    obtain ⟨x', _, rfl, h2, ha⟩ := ha.uncons
    rw [ha.unnil]
    split at he
    · rename_i t ts
      rw [Option.map_eq_some_iff] at he
      obtain ⟨h1', hd, he⟩ := he
      cases he
      exact Ev.del_ok r h1 h2 hd
    · cases he
  · cases he

theorem opn_ok : OpnOk P base w0 := by
  intro d e h u h' he ρ e' w hE r
  have hx := fun x => X.ev_rel hE x
  cases d <;> simp only [Ev.opn] at he <;> try (cases he; done)
  case alloc t =>
    split at he
    · rename_i ti ht
      cases he
      exact Ev.alloc_ok r ht
    · cases he
  case box t v =>
    cases he
    exact Ev.box_ok r (hx v)
  case buildSlice t n ps => exact Ev.buildSlice_ok r (pevs_rel hE ps) he
  case store t a v =>
    cases hd : Ev.store P h t (a.ev e) (v.ev e) with
    | none => simp [hd] at he
    | some h1 =>
      simp [hd] at he
      obtain ⟨rfl, rfl⟩ := he
      exact Ev.ostore_ok r (hx a) (hx v) hd
  case conv s d x => exact Ev.convn_ok r (hx x) he
  case map t m =>
    cases m with
    | none => cases he; exact Ev.newMap_ok r
    | some x => cases he
  case make t l c => exact Ev.make_ok r (hx l) (hx c) he
  case mapSet t m k x =>
    cases hd : Ev.mapSet P h t (m.ev e) (k.ev e) (x.ev e) with
    | none => simp [hd] at he
    | some h1 =>
      simp [hd] at he
      obtain ⟨rfl, rfl⟩ := he
      exact Ev.mapSet_ok r (hx m) (hx k) (hx x) hd
  case range t x => exact Ev.range_ok r (hx x) he
  case builtin b ts ty cs as => exact Ev.builtin_ok r (evs_rel hE as) he
end
end Go.Fr

-- FrCall
namespace Go.Fr
open Go
set_option linter.unusedSectionVars false
variable [Sig]

/-- A call of a function, to a depth: by what is known of it, or by its tree. -/
def Ev.callN (P : Program) (tbl : FuncId → Option (Nat × T)) (nat natD : Ev.Rec) (fuel : Nat) : Nat → Ev.Rec
  | 0, _, _, _ => none
  | n + 1, f, as, h =>
    match nat f as h with
    | some r => some r
    | none =>
      match tbl f with
      | none => none
      | some (k, t) => if as.length = k then
          match Ev.ev P (Ev.callN P tbl nat natD fuel n) natD fuel t 0 (as.map fun a => [a]) [] h with
          | none => none
          | some l => some (l.map fun o => (o.vs.headD (.raw undef), o.h))
        else none

/-- The trees are the functions'. -/
def TblOk (P : Program) (tbl : FuncId → Option (Nat × T)) : Prop :=
  ∀ f n t, tbl f = some (n, t) → ∃ fn A, P.funcs[f]? = some fn ∧ (fn.name == "runtime.NumGoroutine") = false ∧ fn.body.isSome = true ∧
    ∀ args : List Value, args.length = n → denF fn A args = t.sp 0 (rows args) []

section
variable {P : Program} {base : Nat} {w0 : World}

theorem run_callFunc_in {f : FuncId} {fn : Func} (hf : P.funcs[f]? = some fn) (hname : (fn.name == "runtime.NumGoroutine") = false) (hb : fn.body.isSome = true) (args : Array Value) (w : World) :
    (callFunc f args).run P w = .ok (.enter f args) w := by
  have h1 : fn.name ≠ "runtime.NumGoroutine" := by simpa using hname
  cases hc : fn.body with
  | none => rw [hc] at hb; cases hb
  | some c => simp [callFunc, hf, h1, hc]

theorem rows_rel {ρ : Lay} {as : List V} {as' : List Value} (h : VRs ρ as as') : EnvR ρ (as.map fun a => [a]) (rows as') := by
  unfold rows
  exact Al.map h fun a b hab => .cons hab .nil

theorem callN_ok (hm : P.follows .mixedOrders = true) {tbl : FuncId → Option (Nat × T)} {nat natD : Ev.Rec} {fuel : Nat} (ht : TblOk P tbl) (hn : RecOk P base w0 nat) (hD : DfrOk P base w0 natD) :
    ∀ n, RecOk P base w0 (Ev.callN P tbl nat natD fuel n) := by
  intro n
  induction n with
  | zero => intro f as h l he; cases he
  | succ n ih =>
    intro f as h l he ρ as' w hv r K hK
    unfold Ev.callN at he
    split at he
    · rename_i l' hl'
      cases he
      exact hn _ _ _ _ hl' ρ as' w hv r K hK
    · split at he
      · cases he
      · rename_i k t htb
        split at he
        · rename_i hk
          split at he
          · cases he
          · rename_i l' hev
            cases he
            obtain ⟨fn, A, hf, hname, hb, hden⟩ := ht f k t htb
            rw [run_callFunc_in hf hname hb]
            have hrun := ev_ok (P := P) (base := base) (w0 := w0) opn_ok next_ok ih hD (fuel := fuel) t hev (rows_rel hv) (Al.nil (R := DR ρ)) r
            rw [← hden as' (by rw [← hv.1, hk])] at hrun
            have hc := calls_of_den (P := P) hm (f := f) (A := A) (args := as') (w := w) (R := K) hf (Run.mono (fun _ _ h => h) _ (fun t vs w' hp => by
              obtain ⟨o, ho, _, ρ', e1, h2, h3⟩ := hp
              exact hK _ (List.mem_map_of_mem ho) ρ' _ w' e1 (Al.headD h2 (.raw undef)) h3) hrun)
            exact hc.mono fun e w' he => by
              obtain ⟨v, rfl, hv⟩ := he
              exact hv
        · cases he
end
end Go.Fr

-- FrLock
namespace Go.Fr
open Go Go.Conc.Locks
set_option linter.unusedSectionVars false
variable [Sig]

/-- A scalar cell turns from one value to another. -/
def Ev.turnCell (h : VH) (a b : Int) : List V → Option VH
  | [.ptr k o] => match Ev.cellsAt h k with
    | some (_, cs) => match nth cs o with
      | some (.raw (.int .i32 n)) => if n = a then Ev.putCells h k o [.raw (.int .i32 b)] else none
      | _ => none
    | none => none
  | _ => none

/-- Lock and Unlock. -/
def Ev.natLock (L : MuLink) : Ev.Rec := fun f xs h =>
  if f = L.lock then (Ev.turnCell h 0 1 xs).map fun h' => [(.raw (.tuple #[]), h')]
  else if f = L.unlock then (Ev.turnCell h 1 0 xs).map fun h' => [(.raw (.tuple #[]), h')]
  else none

def Ev.dfrLock (L : MuLink) : Ev.Rec := fun f xs h =>
  if f = L.unlock then (Ev.turnCell h 1 0 xs).map fun h' => [(.raw (.tuple #[]), h')] else none

section
variable {P : Program} {base : Nat} {w0 w : World} {ρ : Lay} {h : VH} {L : MuLink}

theorem Ev.turnCell_ok {a b : Int} {xs : List V} {xs' : List Value} {h' : VH} (r : WR base w0 ρ h w) (hx : VRs ρ xs xs') (he : Ev.turnCell h a b xs = some h') :
    ∃ p : Addr, xs' = [.pointer (some p)] ∧ w.cell? p = some (.int .i32 a) ∧ w.frozen? p = false ∧ WR base w0 ρ h' (w.setCell p (.int .i32 b)) := by
  unfold Ev.turnCell at he
  split at he
  · rename_i k o
    obtain ⟨x', _, rfl, hp, ht⟩ := hx.uncons
    rw [ht.unnil]
    cases hp with
    | @ptr _ _ bl n hk =>
    split at he
    · rename_i t cs hc
      split at he
      · rename_i n1 hn
        split at he
        · rename_i hna
          subst hna
          obtain ⟨b', n', us, ext, fr, h1, h2, h3, h4, h5, h6⟩ := r.cells hc
          rw [hk] at h1; cases h1
          rw [nth_eq] at hn
          obtain ⟨u', hu, hr⟩ := h4.get hn
          have := hr.raw_eq; subst this
          have hlt := (List.getElem?_eq_some_iff.1 hu).1
          have hcell : w.cell? ⟨bl, o, none⟩ = some (.int .i32 n1) := by
            rw [cell_fr h3, List.getElem?_append_left hlt]; exact hu
          have hfz := frozen_fr (o := o) h3 h6 (by simp; omega)
          obtain ⟨w1, h7, h8⟩ := Ev.put_ok (P := default) r hk (us := [.int .i32 b]) (.cons (.raw _) .nil) he
          refine ⟨_, rfl, hcell, hfz, ?_⟩
          have hst := run_store_fr (P := default) (o := o) (v := .int .i32 b) h3 h6 (by simp; omega) rfl
          rw [← setCell_fr h3] at hst
          have h7' : w1 = w.setCell ⟨bl, o, none⟩ (.int .i32 b) := by
            simp only [storeCells, Sem.run_bind, add_at, Nat.add_zero, hst, Result.andThen_ok, Sem.run_pure] at h7
            cases h7; rfl
          rw [← h7']; exact h8
        · cases he
      · cases he
    · cases he
  · cases he

theorem natLock_ok (H : MuLib P L) : RecOk P base w0 (Ev.natLock L) := by
  intro f as h l he ρ as' w hv r K hK
  unfold Ev.natLock at he
  split at he
  · rename_i hf; subst hf
    rw [Option.map_eq_some_iff] at he
    obtain ⟨h', h1, he⟩ := he
    cases he
    obtain ⟨p, rfl, hc, hz, r'⟩ := Ev.turnCell_ok r hv h1
    rw [run_callFunc_in H.f_lock (by kernel_rfl) (by kernel_rfl)]
    refine (MuLone.lock_free H p w hc hz).mono ?_
    rintro e w' ⟨rfl, rfl⟩
    exact hK _ List.mem_cons_self ρ _ _ (Ext.refl ρ) (.raw _) r'
  · split at he
    · rename_i hf; subst hf
      rw [Option.map_eq_some_iff] at he
      obtain ⟨h', h1, he⟩ := he
      cases he
      obtain ⟨p, rfl, hc, hz, r'⟩ := Ev.turnCell_ok r hv h1
      rw [run_callFunc_in H.f_unlock (by kernel_rfl) (by kernel_rfl)]
      refine (MuLone.unlock_held H p w hc hz).mono ?_
      rintro e w' ⟨rfl, rfl⟩
      exact hK _ List.mem_cons_self ρ _ _ (Ext.refl ρ) (.raw _) r'
    · cases he

theorem dfrLock_ok (H : MuLib P L) : DfrOk P base w0 (Ev.dfrLock L) := by
  intro f as h l he ρ as' w hv r
  unfold Ev.dfrLock at he
  split at he
  · rename_i hf; subst hf
    rw [Option.map_eq_some_iff] at he
    obtain ⟨h', h1, he⟩ := he
    cases he
    obtain ⟨p, rfl, hc, hz, r'⟩ := Ev.turnCell_ok r hv h1
    refine ⟨run_callFunc_in H.f_unlock (by kernel_rfl) (by kernel_rfl) _ _, (MuLone.unlock_deferred H p .returning w hc hz).mono ?_⟩
    rintro e u' w' ⟨rfl, rfl, rfl⟩
    exact ⟨⟨_, rfl⟩, rfl, _, List.mem_cons_self, ρ, Ext.refl ρ, r'⟩
  · cases he
end
end Go.Fr

-- FrGrow
namespace Go.Fr
open Go
set_option linter.unusedSectionVars false
variable [Sig]
section
variable {base : Nat} {w0 w w' : World} {ρ : Lay} {h : VH}

/-- All that lay is as it was. -/
theorem WR.grow (r : WR base w0 ρ h w) (hb : RowKit.Below w.heap.size w w') : WR base w0 ρ h w' := by
  refine ⟨r.below.trans ⟨hb.os, hb.tape, hb.output, hb.size, fun k hk => hb.block k (Nat.lt_of_lt_of_le hk r.size)⟩, Nat.le_trans r.size hb.size, r.len, fun k o hk => ?_, r.inj⟩
  obtain ⟨b, n, x, h1, h2, h3, h4⟩ := r.obj k o hk
  refine ⟨b, n, x, h1, h2, ?_, h4⟩
  rw [hb.block b (Array.getElem?_eq_some_iff.1 h3).1]; exact h3

/-- A block that lies there is taken up. -/
theorem WR.adopt (r : WR base w0 ρ h w) {b n : Nat} {o : VO} {x : Obj} (hx : w.heap[b]? = some x) (hb : base ≤ b) (hnew : ∀ (k : Nat) o' n', h.get k = some o' → ρ[k]? ≠ some (b, n')) (ho : OR ρ n o x) :
    WR base w0 (ρ ++ [(b, n)]) (h.new o) w ∧ Ext ρ (ρ ++ [(b, n)]) ∧ (ρ ++ [(b, n)])[h.next]? = some (b, n) := by
  have ext := Ext.push ρ (b, n)
  have here : (ρ ++ [(b, n)])[h.next]? = some (b, n) := by rw [r.len]; simp
  have cases_ : ∀ j o', (h.new o).get j = some o' → (j = h.next ∧ o' = o) ∨ (j ≠ h.next ∧ h.get j = some o') := fun j o' hj => by
    unfold VH.get VH.new at hj
    simp only [PT.get_set] at hj
    split at hj
    · rename_i hjn; cases hj; exact .inl ⟨hjn, rfl⟩
    · rename_i hjn; exact .inr ⟨hjn, hj⟩
  have old : ∀ j o', h.get j = some o' → ∀ c m, (ρ ++ [(b, n)])[j]? = some (c, m) → ρ[j]? = some (c, m) := fun j o' hj c m hc => by
    obtain ⟨b', m', y, q1, _⟩ := r.obj j o' hj
    have := ext _ _ q1
    rw [this] at hc; cases hc
    exact q1
  refine ⟨⟨r.below, r.size, by simp [VH.new, r.len], fun j o' hj => ?_, fun k1 k2 o1 o2 c m m' h1 h2 h3 h4 => ?_⟩, ext, here⟩
  · rcases cases_ j o' hj with ⟨rfl, rfl⟩ | ⟨_, hj'⟩
    · exact ⟨b, n, x, here, hb, hx, ho.ext ext⟩
    · obtain ⟨b', m', y, q1, q2, q3, q4⟩ := r.obj j o' hj'
      exact ⟨b', m', y, ext _ _ q1, q2, q3, q4.ext ext⟩
  · rcases cases_ k1 o1 h1 with ⟨rfl, rfl⟩ | ⟨_, h1'⟩
    · rcases cases_ k2 o2 h2 with ⟨rfl, rfl⟩ | ⟨_, h2'⟩
      · rfl
      · rw [here] at h3; cases h3
        exact absurd (old k2 _ h2' _ _ h4) (hnew k2 _ _ h2')
    · rcases cases_ k2 o2 h2 with ⟨rfl, rfl⟩ | ⟨_, h2'⟩
      · rw [here] at h4; cases h4
        exact absurd (old k1 _ h1' _ _ h3) (hnew k1 _ _ h1')
      · exact r.inj k1 k2 _ _ _ _ _ h1' h2' (old k1 _ h1' _ _ h3) (old k2 _ h2' _ _ h4)

/-- A row that a call made. -/
theorem WR.own (r : WR base w0 ρ h w) (hb : RowKit.Below w.heap.size w w') {e : TypeId} {size n : Nat} {v : Value} {xs : List Value} {us : List V} (hs : size ≠ 0) (hn : n ≠ 0)
    (ho : w'.ownsRow w.heap.size e size v n xs) (hu : VRs ρ us xs) :
    ∃ ρ', Ext ρ ρ' ∧ VR ρ' (.sl h.next 0 n false n size) v ∧ WR base w0 ρ' (h.new (.cells e us)) w' := by
  have r' := r.grow hb
  rcases ho.2 with ⟨_, q⟩ | ⟨g, cap, cur, rfl, hg, hx, hle, _, hcur, htake⟩
  · exact absurd q hn
  · have hmul : n * size ≤ cap * size := Nat.mul_le_mul_right _ hle
    have e1 : cur = (xs ++ cur.toList.drop (n * size)).toArray := by
      rw [← htake, List.take_append_drop, Array.toArray_toList]
    have hlen : (xs ++ cur.toList.drop (n * size)).length = cap * size := by
      have := congrArg Array.size e1
      rw [hcur] at this
      simpa using this.symm
    obtain ⟨q1, q2, q3⟩ := r'.adopt (n := cap * size) (o := .cells e us) hx (Nat.le_trans r.size hg) (fun k o' n' hk hρ => by
      obtain ⟨b', m', y, p1, _, p3, _⟩ := r.obj k o' hk
      rw [hρ] at p1; cases p1
      have := (Array.getElem?_eq_some_iff.1 p3).1
      omega) (by rw [e1]; exact .cells hu hlen (.inl rfl))
    exact ⟨_, q2, .sl q3 hle (fun hq => by cases hq) (by omega) (fun _ => ⟨hs, by omega⟩) (Nat.le_refl _), q1⟩
end
end Go.Fr
