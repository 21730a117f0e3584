/-
  This file is a part of the proof that trees of operations tell what code does.
-/
import Derived.Test.YtbnaoejdpggekaaGreatFrDen
namespace Go.Fr
open Go

-- ------------------------------------------------------------ one operation

/-- Is it wanted? 'ask v d want': if 'v', which is in 'd', is 'want'. -/
inductive Ask where
  | yes | no | bad
  | ask (v : Value) (d : Nat) (want : Bool)

def wantedIn (ops : Array Oper) (o : Oper) (e : Env) : Ask :=
  match o.guard with
  | none => .yes
  | some (j, want) =>
    match (ops[j]?).bind (·.dst) with
    | none => .no
    | some d =>
      match lookE e.t d with
      | .no => .bad
      | .lit b => if b == want then .yes else .no
      | .un => .no
      | .val v => .ask v d want

def guarded (ops : Array Oper) (o : Oper) (e : Env) (yes no : Env → SP) : SP :=
  match wantedIn ops o e with
  | .yes => yes e
  | .no => no e
  | .bad => .fail
  | .ask v d true => .ite v (yes (e.putE (some d) (.lit true))) (no (e.putE (some d) (.lit false)))
  | .ask v d false => .ite v (no (e.putE (some d) (.lit true))) (yes (e.putE (some d) (.lit false)))

/-- All operands are known. -/
def allKnown (e : Env) (o : Oper) : Bool := o.op.operands.toList.all e.knows

def isSelect : Op → Bool
  | .select .. => true
  | _ => false

/-- A copy: what it leaves, if that is known. -/
def copyOf (o : Oper) (e : Env) : Option Ent :=
  match o.op with
  | .move x | .assign x => some (e.ent x)
  | .pick c x y =>
    match e.ent c with
    | .lit b => some (e.ent (if b then x else y))
    | _ => none
  | .unOp .not _ x =>
    match e.ent x with
    | .lit b => some (.lit !b)
    | _ => none
  | _ => none

def Ent.known : Ent → Bool
  | .no => false
  | _ => true

/-- An operation, carried out. -/
def execN (o : Oper) (e : Env) (k : Env → SP) : SP :=
  match copyOf o e with
  | some x => if x.known then k (e.putE o.dst x) else .fail
  | none =>
    if !allKnown e o || isSelect o.op then .fail else
    match o.op with
    | .defer _ => .dfr (xop e.ev o) fun d => k { e.putE o.dst .un with ds := d :: e.ds }
    | _ => .op (xop e.ev o) fun v => k (e.put o.dst v)

/-- The same of a quiet one: the tree and what is to be watched. -/
def execQ (o : Oper) (e : Env) (k : Env → Option (Sem Next × Value) → SP) : SP :=
  match copyOf o e with
  | some x => if x.known then k (e.putE o.dst x) none else .fail
  | none => if !allKnown e o || isSelect o.op then .fail else .rd (xop e.ev o) fun v => k (e.put o.dst v) (some (xop e.ev o, v))

def quietOp : Op → Bool
  | .move _ | .assign _ | .pick .. | .load .. | .nilCheck _ | .binOp .. | .unOp .. | .convert .. | .sliceToArrayPointer .. | .makeInterface .. | .makeFunc ..
  | .slice .. | .fieldAddr .. | .field .. | .indexAddr .. | .index .. | .lookup .. | .typeAssert .. | .extract .. | .build .. => true
  | .call c => match c.callee with
    | .builtin b => match b with | .len | .cap | .min | .max => true | _ => false
    | _ => false
  | _ => false

def denOps (ops : Array Oper) (kn : Env → SP) : List Nat → Env → SP
  | [], e => kn e
  | i :: r, e =>
    match ops[i]? with
    | none => denOps ops kn r e
    | some o => guarded ops o e (fun e => execN o e (denOps ops kn r)) fun e => denOps ops kn r (e.putE o.dst .un)

def isDefer : Op → Bool
  | .defer _ => true
  | _ => false

/-- Number i may be taken ahead of whatever does not wait for it. -/
def apartOk (ops : Array Oper) (B : Array Nat) (listed : Array Bool) (i : Nat) (o : Oper) : Bool :=
  (List.range ops.size).all fun j => j == i || listed.getD j true || (B.getD j 0).testBit i ||
    match ops[j]? with | some oj => o.apart ops oj | none => true

/-- What is watched: number, operation, what it leaves. -/
abbrev Eye := Nat × Sem Next × Value

def behindE (B : Array Nat) (i : Nat) (W : List Eye) : List Eye := W.filter fun x => !(B.getD i 0).testBit x.1

def chks : List Eye → SP → SP
  | [], p => p
  | x :: r, p => .chk x.2.1 x.2.2 (chks r p)

def allOf : List Nat → (Nat → SP) → SP
  | [], _ => .fail
  | [i], f => f i
  | i :: r, f => .both (f i) (allOf r f)

def denD (ops : Array Oper) (B : Array Nat) (kn : Env → SP) : Nat → Array Bool → List Eye → Env → SP
  | 0, listed, _, e => if (Region.ready .any ops listed).isEmpty then kn e else .fail
  | m + 1, listed, W, e =>
    let rs := Region.ready .any ops listed
    match rs.find? fun i => (ops[i]?).any fun o => quietOp o.op with
    | some i =>
      match ops[i]? with
      | none => .fail
      | some o =>
        if apartOk ops B listed i o then
          guarded ops o e
            (fun e => execQ o e fun e x => denD ops B kn m (listed.setIfInBounds i true) (match x with | some (s, v) => (i, s, v) :: W | none => W) e)
            (fun e => denD ops B kn m (listed.setIfInBounds i true) W (e.putE o.dst .un))
        else .fail
    | none =>
      if rs.isEmpty then kn e else
      allOf rs fun i =>
        match ops[i]? with
        | none => .fail
        | some o =>
          guarded ops o e
            (fun e => if !allKnown e o || isSelect o.op || isDefer o.op then .fail else
              .op (xop e.ev o) fun v => chks (behindE B i W) (denD ops B kn m (listed.setIfInBounds i true) (behindE B i W) (e.put o.dst v)))
            (fun e => denD ops B kn m (listed.setIfInBounds i true) (behindE B i W) (e.putE o.dst .un))

def denReg (ops : Array Oper) (draw : Bool) (e : Env) (kn : Env → SP) : SP :=
  if draw then
    if Region.noSelect ops then .drew (denD ops (Region.before ops) kn ops.size (Array.replicate ops.size false) [] e) else .fail
  else denOps ops kn (List.range ops.size) e

-- ------------------------------------------------------------ .. is right

theorem EnvRel.same {e : Env} {a : Act} (h : EnvRel e a) {d : Nat} {x : Ent} {v : Value} (hd : look e.t d = some v) (hx : x.get = some v) : EnvRel (e.putE (some d) x) a := by
  refine ⟨by simpa [Env.putE] using h.size, fun j u hj => ?_, h.ds⟩
  simp only [Env.putE] at hj
  rw [look_set] at hj
  split at hj
  · rename_i hij
    obtain ⟨rfl, _⟩ := hij
    rw [hx] at hj
    cases hj
    exact h.at_ _ _ hd
  · exact h.at_ j u hj

/-- What a region writes. -/
def dstsOf (ops : Array Oper) : List Nat := ops.toList.filterMap (·.dst)

theorem mem_dsts {ops : Array Oper} {j d : Nat} (h : (ops[j]?).bind (·.dst) = some d) : d ∈ dstsOf ops := by
  cases ho : ops[j]? with
  | none => simp [ho] at h
  | some o =>
    simp only [ho, Option.bind_some] at h
    exact List.mem_filterMap.2 ⟨o, by simpa using Array.mem_of_getElem? ho, h⟩

/-- The two know the same outside some temporaries. -/
structure Agree (S : List Nat) (e e' : Env) : Prop where
  len : e'.t.length = e.t.length
  at_ : ∀ i, i ∉ S → look e'.t i = look e.t i

theorem Agree.refl (S : List Nat) (e : Env) : Agree S e e := ⟨rfl, fun _ _ => rfl⟩
theorem Agree.trans {S : List Nat} {e e' e'' : Env} (h : Agree S e e') (h' : Agree S e' e'') : Agree S e e'' :=
  ⟨h'.len.trans h.len, fun i hi => (h'.at_ i hi).trans (h.at_ i hi)⟩
theorem Agree.more {S S' : List Nat} {e e' : Env} (h : Agree S e e') (hs : ∀ i ∈ S, i ∈ S') : Agree S' e e' :=
  ⟨h.len, fun i hi => h.at_ i fun h' => hi (hs i h')⟩
theorem Agree.putE {S : List Nat} (e : Env) {d : Option Tmp} (x : Ent) (hd : ∀ i, d = some i → i ∈ S) : Agree S e (e.putE d x) := by
  cases d with
  | none => exact .refl _ _
  | some i =>
    refine ⟨by simp [Env.putE], fun j hj => ?_⟩
    simp only [Env.putE]
    rw [look_set, if_neg]
    rintro ⟨rfl, _⟩
    exact hj (hd i rfl)
theorem Agree.put {S : List Nat} (e : Env) {d : Option Tmp} (v : Value) (hd : ∀ i, d = some i → i ∈ S) : Agree S e (e.put d v) := .putE e _ hd
theorem Agree.put_ds {S : List Nat} {e e' : Env} (h : Agree S e e') (ds : List Deferred) : Agree S e { e' with ds := ds } := ⟨h.len, h.at_⟩

def boolOf : Value → Option Bool
  | .bool b => some b
  | _ => none

theorem yielded_some {ops : Array Oper} {a : Act} {j : Nat} {d : Nat} {v : Value} (hd : (ops[j]?).bind (·.dst) = some d) (hv : a.tmps[d]? = some v) :
    yielded ops a.tmps j = boolOf v := by
  unfold yielded
  rw [hd]
  simp only [Option.bind_some, hv]
  cases v <;> rfl

/-- Where the tree goes on as wanted or not, it is so. -/
theorem guarded_run {P : Program} {E : List PanicEntry → World → Prop} {ops : Array Oper} {o : Oper} {e : Env} {a : Act} (he : EnvRel e a) {yes no : Env → SP} {w : World}
    {R : Nat → List Value → World → Prop} (h : Run P E (guarded ops o e yes no) w R) :
    ∃ e', EnvRel e' a ∧ e'.ds = e.ds ∧ Agree (dstsOf ops) e e' ∧
      ((Region.wanted o (yielded ops a.tmps) = true ∧ Run P E (yes e') w R) ∨ (Region.wanted o (yielded ops a.tmps) = false ∧ Run P E (no e') w R)) := by
  unfold guarded wantedIn at h
  cases hg : o.guard with
  | none =>
    simp only [hg] at h
    exact ⟨e, he, rfl, .refl _ _, .inl ⟨by simp [Region.wanted, hg], h⟩⟩
  | some gw =>
    obtain ⟨j, want⟩ := gw
    simp only [hg] at h
    cases hd : (ops[j]?).bind (·.dst) with
    | none =>
      simp only [hd] at h
      exact ⟨e, he, rfl, .refl _ _, .inr ⟨by simp [Region.wanted, hg, yielded, hd], h⟩⟩
    | some d =>
      simp only [hd] at h
      have yl : ∀ v, look e.t d = some v → Region.wanted o (yielded ops a.tmps) = (boolOf v == some want) := by
        intro v hv
        simp only [Region.wanted, hg, yielded_some hd (he.at_ d v hv)]
      cases hv : lookE e.t d with
      | no => simp only [hv] at h; exact h.elim
      | lit b =>
        simp only [hv] at h
        have hw := yl (.bool b) (by unfold look; rw [hv]; rfl)
        by_cases hb : (b == want) = true
        · simp only [hb, if_true] at h
          exact ⟨e, he, rfl, .refl _ _, .inl ⟨by rw [hw]; simpa [boolOf] using hb, h⟩⟩
        · simp only [hb] at h
          exact ⟨e, he, rfl, .refl _ _, .inr ⟨by rw [hw]; simpa [boolOf] using hb, h⟩⟩
      | un =>
        simp only [hv] at h
        have hw := yl undef (by unfold look; rw [hv]; rfl)
        exact ⟨e, he, rfl, .refl _ _, .inr ⟨by rw [hw]; rfl, h⟩⟩
      | val v =>
        simp only [hv] at h
        have hl : look e.t d = some v := by unfold look; rw [hv]; rfl
        have hw := yl v hl
        have key : ∀ t, v = .bool t → EnvRel (e.putE (some d) (.lit t)) a ∧ Agree (dstsOf ops) e (e.putE (some d) (.lit t)) ∧ Region.wanted o (yielded ops a.tmps) = (some t == some want) := by
          intro t ht
          subst ht
          exact ⟨he.same hl rfl, .putE e _ fun i hi => by cases hi; exact mem_dsts hd, hw⟩
        cases want with
        | true =>
          obtain ⟨t, ht, h1, h2⟩ := h
          obtain ⟨k1, k2, k3⟩ := key t ht
          cases t with
          | true => exact ⟨_, k1, rfl, k2, .inl ⟨by simpa using k3, h1 rfl⟩⟩
          | false => exact ⟨_, k1, rfl, k2, .inr ⟨by simpa using k3, h2 rfl⟩⟩
        | false =>
          obtain ⟨t, ht, h1, h2⟩ := h
          obtain ⟨k1, k2, k3⟩ := key t ht
          cases t with
          | true => exact ⟨_, k1, rfl, k2, .inr ⟨by simpa using k3, h1 rfl⟩⟩
          | false => exact ⟨_, k1, rfl, k2, .inl ⟨by simpa using k3, h2 rfl⟩⟩

theorem noSelect_of {o : Oper} (h : isSelect o.op = false) : ∀ cs b, o.op ≠ .select cs b := by
  intro cs b hb
  rw [hb] at h
  cases h

theorem ev_func (e : Env) (f : FuncId) : e.ev (.func f) = .func (.func f) #[] #[] := rfl

/-- What the machine carries out is what the tree bears. -/
theorem execOp_env {o : Oper} {e : Env} {a : Act} (he : EnvRel e a) (hk : allKnown e o = true) (hs : isSelect o.op = false) : execOp a.eval o = xop e.ev o := by
  rw [xop_eq _ (ev_func e)]
  refine execOp_congr o (noSelect_of hs) fun x hx => he.ev ?_
  unfold allKnown at hk
  rw [List.all_eq_true] at hk
  exact hk x (by simpa using hx)

theorem Ent.get_of {x : Ent} (h : x.known = true) : ∃ v, x.get = some v := by
  cases x <;> first | exact ⟨_, rfl⟩ | cases h

/-- A copy. -/
theorem copyOf_run {P : Program} {o : Oper} {e : Env} {a : Act} {x : Ent} {v : Value} (he : EnvRel e a) (h : copyOf o e = some x) (hv : x.get = some v) (w : World) :
    (execOp a.eval o).run P w = .ok (.value v) w := by
  have vl : ∀ y, e.ent y = x → a.eval y = v := fun y hy => he.val (by unfold Env.val; rw [hy]; exact hv)
  unfold copyOf at h
  cases hop : o.op <;> simp only [hop] at h <;> try cases h
  case move y => simp only [execOp, hop, vl y rfl]; rfl
  case assign y => simp only [execOp, hop, vl y rfl]; rfl
  case pick c y z =>
    split at h
    · rename_i b hb
      simp only [Option.some.injEq] at h
      have hc : a.eval c = .bool b := he.val (by unfold Env.val; rw [hb]; rfl)
      simp only [execOp, hop, hc]
      cases b
      · simp only [Bool.false_eq_true, if_false] at h; rw [vl z h]; rfl
      · simp only [if_true] at h; rw [vl y h]; rfl
    · cases h
  case unOp op t y =>
    cases op <;> simp only at h <;> try cases h
    split at h
    · rename_i b hb
      simp only [Option.some.injEq] at h
      subst h
      cases hv
      have hc : a.eval y = .bool b := he.val (by unfold Env.val; rw [hb]; rfl)
      simp only [execOp, hop, hc]
      rfl
    · cases h

/-- A result that serves the tree serves the operation. -/
theorem upon_of {P : Program} {o : Oper} {a : Act} {next : Act → World → Prop} {Q : Exit → Act → World → Prop} {K : Value → World → Prop} {E : List PanicEntry → World → Prop}
    {r : Result Next} (h : UponS P K E r) (hk : ∀ v w, K v w → next (a.put o.dst v) w) (hE : ∀ c w, E c w → Q (.panic c) a w) : o.upon P a next Q r := by
  cases r with
  | ok n w =>
    cases n <;> simp only [UponS, Oper.upon] at h ⊢
    case value v => exact hk _ _ h
    case skip => exact hk _ _ h
    case enter f args => exact Calls.mono h fun e w' h' => by cases e <;> first | exact hk _ _ h' | exact hE _ _ h' | exact h'.elim
    case row row args => exact Rows.mono h fun v w' h' => hk _ _ h'
  | halt x w => cases x <;> simp only [UponS, Oper.upon] at h ⊢; exact hE _ _ h
end Go.Fr
