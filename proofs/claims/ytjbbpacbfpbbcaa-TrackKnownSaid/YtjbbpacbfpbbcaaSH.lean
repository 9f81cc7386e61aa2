/- A region, whatever the order of its operations: the condition. -/
import Derived.Test.YtjbbpacbfpbbcaaSG
set_option linter.all false
set_option linter.unusedSimpArgs false
set_option linter.unusedVariables false
set_option linter.deprecated false
set_option linter.unusedSimpArgs false
set_option linter.unusedVariables false
namespace Go.Sym

/-- What one operation of the region has given. -/
structure Res where
  i : Nat
  o : Oper
  x : SV
  g : Bool
  ch : List (Nat × Bool)
  pure : Bool

def memB (l : List Nat) (i : Nat) : Bool := l.any (fun j => Nat.beq j i)
theorem memB_iff {l : List Nat} {i : Nat} : memB l i = true ↔ i ∈ l := by
  simp only [memB, List.any_eq_true]
  constructor
  · rintro ⟨j, h1, h2⟩; rw [← Nat.eq_of_beq_eq_true h2]; exact h1
  · intro h; exact ⟨i, h, Nat.beq_refl i⟩

def optB (d : Option Tmp) (l : List Nat) : Bool := match d with | some t => memB l t | none => false

/-- The frame that the operations that p names have made. -/
def frA (p : Nat → Bool) (fr0 : List (Nat × SV)) : List Res → List (Nat × SV)
  | [] => fr0
  | r :: res => match r.o.dst with
    | some d => cond (p r.i) ((d, r.x) :: frA p fr0 res) (frA p fr0 res)
    | none => frA p fr0 res

/-- The frame as it is: what was not wanted is no value. -/
def frX (p : Nat → Bool) (fr0 : List (Nat × SV)) : List Res → List (Nat × SV)
  | [] => fr0
  | r :: res => match r.o.dst with
    | some d => cond (p r.i) ((d, cond r.g r.x (.v undef)) :: frX p fr0 res) (frX p fr0 res)
    | none => frX p fr0 res

theorem fget_agree {p q : Nat → Bool} {fr0 : List (Nat × SV)} {t : Nat} : ∀ {res : List Res}, (∀ r ∈ res, r.o.dst = some t → p r.i = q r.i ∧ (p r.i = true → r.g = true)) → fget (frX q fr0 res) t = fget (frA p fr0 res) t
  | [], h => rfl
  | r :: res, h => by
    have ih := fget_agree (res := res) (p := p) (q := q) (fr0 := fr0) (t := t) (fun r hr => h r (by simp [hr]))
    unfold frX frA
    cases hd : r.o.dst with
    | none => exact ih
    | some d =>
      by_cases hdt : d = t
      · subst hdt
        obtain ⟨h1, h2⟩ := h r (by simp) hd
        simp only [h1]
        cases hq : q r.i with
        | true => simp only [cond_true, fget_cons, if_true]; rw [h2 (h1.trans hq)]; rfl
        | false => simpa using ih
      · cases p r.i <;> cases q r.i <;> simp [fget_cons, hdt, ih]

def subB (c d : List (Nat × Bool)) : Bool := c.all (fun e => d.any (fun e' => Nat.beq e.1 e'.1 && (e.2 == e'.2)))
theorem subB_ok {c d : List (Nat × Bool)} (h : subB c d = true) : ∀ e ∈ c, e ∈ d := by
  intro e he
  have := List.all_eq_true.1 h e he
  obtain ⟨e', h1, h2⟩ := List.any_eq_true.1 this
  simp only [Bool.and_eq_true, beq_iff_eq] at h2
  have : e = e' := Prod.ext (Nat.eq_of_beq_eq_true h2.1) h2.2
  rw [this]; exact h1

/-- The chain of conditions of a slot's value is among d. -/
def slotCh (Ai : List Nat) (res : List Res) (d : List (Nat × Bool)) : Operand → Bool
  | .tmp t => res.all (fun r => !(optB r.o.dst [t]) || subB r.ch d)
  | _ => true

/-- Which operation gave a slot. -/
def giver (res : List Res) : Operand → Option Nat
  | .tmp t => (res.find? (fun r => optB r.o.dst [t])).map (·.i)
  | _ => none

def opCh (Ai : List Nat) (res : List Res) (d : List (Nat × Bool)) (o : Oper) : Bool :=
  match o.op with
  | .pick c a b => match giver res c with
    | some j => slotCh Ai res d c && (slotCh Ai res ((j, true) :: d) a && slotCh Ai res ((j, false) :: d) b)
    | none => slotCh Ai res d c && (slotCh Ai res d a && slotCh Ai res d b)
  | op => op.operands.toList.all (slotCh Ai res d)

/-- The order of two results matters: the elder must be among those that the younger waits for. No slot is given twice. -/
def pairOk (ops : Array Oper) (A : List (List Nat)) (i : Nat) (o : Oper) (r : Res) : Bool :=
  (memB (A.getD i []) r.i || !(optB r.o.dst (o.looksAt ops) || optB o.dst (r.o.looksAt ops))) && (!(memB (A.getD r.i []) i) && !(match r.o.dst with | some d => optB o.dst [d] | none => false))

def bIs (t w : Bool) : Bool := match w with | true => t | false => !t

/-- Is the operation wanted, and on which conditions. -/
def guardOf (res : List Res) (o : Oper) (Ai : List Nat) : Option (Bool × List (Nat × Bool)) :=
  match o.guard with
  | none => some (true, [])
  | some (j, w) => match res.find? (fun r => Nat.beq r.i j) with
    | some r => match r.x, memB Ai j, r.o.dst with
      | .v (.bool t), true, some _ => some ((match r.ch with | [] => bIs t w | _ :: _ => r.g && bIs t w), (j, w) :: r.ch)
      | _, _, _ => none
    | none => none

/-- Which operations leave the memory as it is. -/
def pureOp (P : Program) (T : Tab) (st : St) (o : Oper) : Bool :=
  match o.op with
  | .move _ | .assign _ | .pick _ _ _ | .build _ _ | .load _ _ | .binOp _ _ _ _ _ | .unOp _ _ _ | .makeFunc _ _ _ | .slice _ _ _ _ _ | .fieldAddr _ _ _ | .field _ _ _ | .indexAddr _ _ _ | .index _ _ _ | .extract _ _ => true
  | .convert _ d _ => match P.underlying d with | some (.slice _) => false | _ => true
  | .call { callee := .builtin .len, .. } => true
  | .call { callee := .builtin .min, .. } => true
  | .call { callee := .builtin .max, .. } => true
  | .call { callee := .value f, .. } => match st.ev f with
    | .fn f _ _ => match T.find f with
      | some con => con.pure
      | none => false
    | _ => false
  | _ => false

def stOf (A : List (List Nat)) (fr0 : List (Nat × SV)) (base : Nat) (res : List Res) (L : Ents) (nx i : Nat) : St := { fr := frA (memB (A.getD i [])) fr0 res, L, nx, dec := [], base }

def inR (res : List Res) (i : Nat) : Bool := res.any (fun r => Nat.beq r.i i)

def ltN (n : Nat) : Nat → Bool := fun i => Nat.blt i n
def LbdB (L : Ents) (n : Nat) : Bool := L.all (fun p => Nat.blt p.1 n && p.2.allN (ltN n))

/-- May the operation's result be taken so. -/
def chkB (N : Nat) (ops : Array Oper) (A : List (List Nat)) (res : List Res) (nx i : Nat) (o : Oper) (ch : List (Nat × Bool)) (x : SV) (L' : Ents) (nx' : Nat) : Bool :=
  (dstOk N o.dst && (res.all (pairOk ops A i o) && !(inR res i))) && ((opCh (A.getD i []) res ch o && (A.getD i []).all (fun j => inR res j && Nat.blt j i)) && (x.allN (ltN nx') && (LbdB L' nx' && Nat.ble nx nx')))

def gcnd (ch : List (Nat × Bool)) (g : Bool) (c : Prop) : Prop := match ch with | [] => c | _ :: _ => g = true → c

def takeR (N : Nat) (ops : Array Oper) (A : List (List Nat)) (res : List Res) (nx i : Nat) (o : Oper) (g : Bool) (ch : List (Nat × Bool)) (c : Prop) (x : SV) (st' : St) (pu : Bool) : Option (Prop × Res × Ents × Nat) :=
  match pu || ch.isEmpty with
  | true => cond (chkB N ops A res nx i o ch x st'.L st'.nx) (some (gcnd ch g c, ⟨i, o, x, g, ch, pu⟩, st'.L, st'.nx)) none
  | false => cond (chkB N ops A res nx i o ch x st'.L st'.nx) (some (g = true ∧ c, ⟨i, o, x, true, [], pu⟩, st'.L, st'.nx)) none

def evalOp (P : Program) (T : Tab) (N : Nat) (ops : Array Oper) (A : List (List Nat)) (fr0 : List (Nat × SV)) (base : Nat) (res : List Res) (L : Ents) (nx i : Nat) : Option (Prop × Res × Ents × Nat) :=
  match ops[i]? with
  | none => none
  | some o =>
    match guardOf res o (A.getD i []) with
    | none => none
    | some (g, ch) =>
      match stepA P T (stOf A fr0 base res L nx i) o with
      | none => none
      | some (c, x, st') =>
        takeR N ops A res nx i o g ch c x st' (pureOp P T (stOf A fr0 base res L nx i) o)

def availB (A : List (List Nat)) (res : List Res) (i : Nat) : Bool := (A.getD i []).all (inR res)
def pureAt (P : Program) (T : Tab) (ops : Array Oper) (A : List (List Nat)) (fr0 : List (Nat × SV)) (base : Nat) (res : List Res) (L : Ents) (nx i : Nat) : Bool :=
  match ops[i]? with
  | some o => pureOp P T (stOf A fr0 base res L nx i) o
  | none => false

/-- What may not have run yet gives the same after the memory has turned. -/
def againP (P : Program) (T : Tab) (A : List (List Nat)) (fr0 : List (Nat × SV)) (base : Nat) (all : List Res) (L : Ents) (nx : Nat) : List Res → Prop
  | [] => True
  | r :: rs => match r.pure && !(all.any (fun m => !m.pure && memB (A.getD m.i []) r.i)) with
    | true => (match pureOp P T (stOf A fr0 base all L nx r.i) r.o, stepA P T (stOf A fr0 base all L nx r.i) r.o with | true, some (c, x, st') => (r.g = true → c) ∧ x = r.x | _, _ => False) ∧ againP P T A fr0 base all L nx rs
    | false => againP P T A fr0 base all L nx rs

def VT (P : Program) (T : Tab) (N : Nat) (ops : Array Oper) (A : List (List Nat)) (fr0 : List (Nat × SV)) (base : Nat) (K : List Res → Ents → Nat → Prop) : Nat → List Res → Ents → Nat → List Nat → Prop
  | 0, _, _, _, _ => False
  | fuel + 1, res, L, nx, pend =>
    match pend with
    | [] => K res L nx
    | p :: ps =>
      match (p :: ps).find? (fun i => availB A res i && pureAt P T ops A fr0 base res L nx i) with
      | some i => match evalOp P T N ops A fr0 base res L nx i with
        | some (c, r, _, _) => match r.pure with
          | true => c ∧ VT P T N ops A fr0 base K fuel (r :: res) L nx ((p :: ps).filter (fun j => !(Nat.beq j i)))
          | false => False
        | none => False
      | none =>
        match (p :: ps).filter (availB A res) with
        | [] => False
        | m :: ms => AllP (fun m => match evalOp P T N ops A fr0 base res L nx m with
          | some (c, r, L', nx') => c ∧ againP P T A fr0 base (r :: res) L' nx' res ∧ VT P T N ops A fr0 base K fuel (r :: res) L' nx' ((p :: ps).filter (fun j => !(Nat.beq j m)))
          | none => False) (m :: ms)

theorem stepK_pure' {con : Con} {st st' : St} {H : List Nat} {ys : List SV} {c : Prop} {x : SV} (hp : con.pure = true) (h : stepK con st H ys = some (c, x, st')) : st' = st := (stepK_pure hp h).1

theorem stepA_pure {P : Program} {T : Tab} {st st' : St} {o : Oper} {c : Prop} {x : SV} (hp : pureOp P T st o = true) (h : stepA P T st o = some (c, x, st')) : st' = st := by
  unfold stepA at h
  cases hcv : isCallV o with
  | true =>
    rw [hcv] at h
    simp only [cond_true] at h
    unfold stepC at h
    split at h <;> try (simp at h; done)
    rename_i fv args aty ho
    split at h <;> try (simp at h; done)
    rename_i f fs cs hfv
    split at h <;> try (simp at h; done)
    rename_i con hcon
    have : con.pure = true := by
      unfold pureOp at hp
      simp only [ho, hfv, hcon] at hp
      exact hp
    exact stepK_pure' this h
  | false =>
    rw [hcv] at h
    simp only [cond_false] at h
    unfold stepF at h
    split at h <;> rename_i ho <;> simp only [pureOp, ho] at hp <;> (try (simp at hp; done)) <;> (try (cases h; rfl)) <;> (try (simp only [Option.map_eq_some_iff] at h; obtain ⟨r', h1, h2⟩ := h; cases h2; rfl))
    · split at h <;> (try (simp at h; done)); cases h; rfl
    · split at h
      · cases h; rfl
      · split at h
        · cases h; rfl
        · unfold sToBytes at h
          split at h <;> try (simp at h; done)
          rename_i hd _
          rw [hd] at hp
          simp at hp
    · simp only [Option.bind_eq_some_iff] at h
      obtain ⟨⟨c', r'⟩, h1, h2⟩ := h
      split at h2 <;> try (simp at h2; done)
      cases h2; rfl
    · split at h <;> (try (simp at h; done)); simp only [Option.map_eq_some_iff] at h; obtain ⟨r', h1, h2⟩ := h; cases h2; rfl
    · split at h <;> (try (simp at h; done)); simp only [Option.map_eq_some_iff] at h; obtain ⟨r', h1, h2⟩ := h; cases h2; rfl
    · split at h <;> (try (simp at h; done)); simp only [Option.map_eq_some_iff] at h; obtain ⟨r', h1, h2⟩ := h; cases h2; rfl
    · simp at h
end Go.Sym

/- A region, whatever the order of its operations: that the condition suffices. -/
set_option linter.unusedSimpArgs false
set_option linter.unusedVariables false
namespace Go.Sym

theorem optB_iff {d : Option Tmp} {l : List Nat} : optB d l = true ↔ ∃ t, d = some t ∧ t ∈ l := by
  cases d with
  | none => simp [optB]
  | some t => simp [optB, memB_iff]

theorem inR_iff {res : List Res} {i : Nat} : inR res i = true ↔ ∃ r ∈ res, r.i = i := by
  simp only [inR, List.any_eq_true]
  constructor
  · rintro ⟨r, h1, h2⟩; exact ⟨r, h1, Nat.eq_of_beq_eq_true h2⟩
  · rintro ⟨r, h1, rfl⟩; exact ⟨r, h1, Nat.beq_refl _⟩

/-- A condition holds. -/
def Tk (res : List Res) (e : Nat × Bool) : Prop := ∃ rj ∈ res, rj.i = e.1 ∧ rj.g = true ∧ rj.x = .v (.bool e.2)

/-- What gives the operand was wanted. -/
def SG (A : List (List Nat)) (res : List Res) (i : Nat) (x : Operand) : Prop := ∀ t, x = .tmp t → ∀ r2 ∈ res, r2.o.dst = some t → r2.i ∈ A.getD i [] → r2.g = true

def OpGood (A : List (List Nat)) (res : List Res) (i : Nat) (o : Oper) : Prop :=
  match o.op with
  | .pick c a b => SG A res i c ∧ ((SG A res i a ∧ SG A res i b) ∨ ∃ tc rc, c = .tmp tc ∧ rc ∈ res ∧ rc.o.dst = some tc ∧ rc.i ∈ A.getD i [] ∧ (rc.x = .v (.bool true) → SG A res i a) ∧ (rc.x = .v (.bool false) → SG A res i b))
  | op => ∀ x ∈ op.operands.toList, SG A res i x

structure Node (N : Nat) (ops : Array Oper) (A : List (List Nat)) (fr0 : List (Nat × SV)) (base : Nat) (res : List Res) (L : Ents) (nx : Nat) : Prop where
  ui : ∀ r ∈ res, ∀ r2 ∈ res, r.i = r2.i → r = r2
  dd : ∀ r ∈ res, ∀ r2 ∈ res, ∀ t, r.o.dst = some t → r2.o.dst = some t → r = r2
  op : ∀ r ∈ res, ops[r.i]? = some r.o ∧ dstOk N r.o.dst = true
  lt : ∀ r ∈ res, ∀ j ∈ A.getD r.i [], j < r.i ∧ ∃ r2 ∈ res, r2.i = j
  ord : ∀ r ∈ res, ∀ r2 ∈ res, ∀ t, r2.o.dst = some t → t ∈ r.o.looksAt ops → r2 = r ∨ r2.i ∈ A.getD r.i [] ∨ r.i ∈ A.getD r2.i []
  chi : ∀ r ∈ res, ∀ e ∈ r.ch, ∃ rj ∈ res, rj.i = e.1
  ch1 : ∀ r ∈ res, r.g = true → ∀ e ∈ r.ch, Tk res e
  ch2 : ∀ r ∈ res, (∀ e ∈ r.ch, Tk res e) → r.g = true
  gd : ∀ r ∈ res, match r.o.guard with
    | none => r.g = true ∧ r.ch = []
    | some (j, w) => ∃ rj ∈ res, rj.i = j ∧ j ∈ A.getD r.i [] ∧ ∃ t d, rj.x = .v (.bool t) ∧ rj.o.dst = some d ∧ r.g = (rj.g && (t == w))
  good : ∀ r ∈ res, r.g = true → OpGood A res r.i r.o
  mg : ∀ r ∈ res, r.pure = false → r.g = true
  bx : ∀ r ∈ res, r.x.allN (ltN nx) = true
  bf : fr0.all (fun p => p.2.allN (ltN nx)) = true
  bL : LbdB L nx = true
  bb : base ≤ nx

theorem frA_hit {p : Nat → Bool} {fr0 : List (Nat × SV)} {t : Nat} : ∀ {res : List Res}, (∀ r ∈ res, ∀ r2 ∈ res, r.o.dst = some t → r2.o.dst = some t → r = r2) → ∀ {r : Res}, r ∈ res → r.o.dst = some t → p r.i = true → fget (frA p fr0 res) t = r.x
  | [], _, r, hr, _, _ => by simp at hr
  | y :: res, hu, r, hr, hd, hp => by
    unfold frA
    by_cases hyt : y.o.dst = some t
    · have hyr := hu y (by simp) r hr hyt hd
      subst hyr
      simp only [hd, hp, cond_true, fget_cons, if_true]
    · have hr' : r ∈ res := by
        rcases List.mem_cons.1 hr with rfl | h
        · exact absurd hd hyt
        · exact h
      have ih := frA_hit (p := p) (fr0 := fr0) (fun a ha b hb => hu a (by simp [ha]) b (by simp [hb])) hr' hd hp
      cases hyd : y.o.dst with
      | none => exact ih
      | some d =>
        have hdt : d ≠ t := fun h => hyt (by rw [hyd, h])
        cases p y.i <;> simp [fget_cons, hdt, ih]

theorem frX_hit {p : Nat → Bool} {fr0 : List (Nat × SV)} {t : Nat} : ∀ {res : List Res}, (∀ r ∈ res, ∀ r2 ∈ res, r.o.dst = some t → r2.o.dst = some t → r = r2) → ∀ {r : Res}, r ∈ res → r.o.dst = some t → p r.i = true → fget (frX p fr0 res) t = cond r.g r.x (.v undef)
  | [], _, r, hr, _, _ => by simp at hr
  | y :: res, hu, r, hr, hd, hp => by
    unfold frX
    by_cases hyt : y.o.dst = some t
    · have hyr := hu y (by simp) r hr hyt hd
      subst hyr
      simp only [hd, hp, cond_true, fget_cons, if_true]
    · have hr' : r ∈ res := by
        rcases List.mem_cons.1 hr with rfl | h
        · exact absurd hd hyt
        · exact h
      have ih := frX_hit (p := p) (fr0 := fr0) (fun a ha b hb => hu a (by simp [ha]) b (by simp [hb])) hr' hd hp
      cases hyd : y.o.dst with
      | none => exact ih
      | some d =>
        have hdt : d ≠ t := fun h => hyt (by rw [hyd, h])
        cases p y.i <;> simp [fget_cons, hdt, ih]

theorem frX_miss {p : Nat → Bool} {fr0 : List (Nat × SV)} {t : Nat} : ∀ {res : List Res}, (∀ r ∈ res, r.o.dst = some t → p r.i = false) → fget (frX p fr0 res) t = fget fr0 t
  | [], _ => rfl
  | y :: res, h => by
    have ih := frX_miss (p := p) (fr0 := fr0) (t := t) (res := res) (fun r hr => h r (by simp [hr]))
    unfold frX
    cases hyd : y.o.dst with
    | none => exact ih
    | some d =>
      by_cases hdt : d = t
      · subst hdt; simp [h y (by simp) hyd, ih]
      · cases p y.i <;> simp [fget_cons, hdt, ih]

/-- One more is run. -/
def more (p : Nat → Bool) (i : Nat) : Nat → Bool := fun j => Nat.beq i j || p j

theorem frX_more {p : Nat → Bool} {fr0 : List (Nat × SV)} {res : List Res} (hu : ∀ r ∈ res, ∀ r2 ∈ res, ∀ t, r.o.dst = some t → r2.o.dst = some t → r = r2) (hi : ∀ r ∈ res, ∀ r2 ∈ res, r.i = r2.i → r = r2) {r : Res} (hr : r ∈ res) (t : Nat) :
    fget (frX (more p r.i) fr0 res) t = (if r.o.dst = some t then cond r.g r.x (.v undef) else fget (frX p fr0 res) t) := by
  by_cases hd : r.o.dst = some t
  · rw [if_pos hd]
    exact frX_hit (fun a ha b hb => hu a ha b hb t) hr hd (by simp [more])
  · rw [if_neg hd]
    by_cases hex : ∃ r2 ∈ res, r2.o.dst = some t ∧ p r2.i = true
    · obtain ⟨r2, h1, h2, h3⟩ := hex
      rw [frX_hit (fun a ha b hb => hu a ha b hb t) h1 h2 h3, frX_hit (fun a ha b hb => hu a ha b hb t) h1 h2 (by simp [more, h3])]
    · have h0 : ∀ r2 ∈ res, r2.o.dst = some t → p r2.i = false := fun r2 h1 h2 => by
        cases hp : p r2.i with
        | false => rfl
        | true => exact absurd ⟨r2, h1, h2, hp⟩ hex
      rw [frX_miss h0, frX_miss (fun r2 h1 h2 => ?_)]
      simp only [more, Bool.or_eq_false_iff]
      refine ⟨?_, h0 r2 h1 h2⟩
      rw [Bool.eq_false_iff]
      intro hb
      have := hi r hr r2 h1 (Nat.eq_of_beq_eq_true hb)
      subst this
      exact hd h2

theorem Holds_fget {N : Nat} {fr fr' : List (Nat × SV)} {L : Ents} {nx base : Nat} {dec : List (Nat × Bool)} {g : Gh} {a : Act} {w : World} (h : ∀ t, fget fr' t = fget fr t) (hh : Holds N { fr, L, nx, dec, base } g a w) : Holds N { fr := fr', L, nx, dec := [], base } g a w := by
  obtain ⟨ρ, Fp, ms, hc⟩ := hh
  exact ⟨ρ, Fp, ms, ⟨hc.mem, fun t => by rw [show fget _ t = fget fr t from h t]; exact hc.frm t, fun t b hb => by simp [dget] at hb, hc.size, hc.defers, hc.marks, hc.base⟩⟩

mutual
theorem allN_mono {p q : Nat → Bool} (h : ∀ i, p i = true → q i = true) : ∀ (x : SV), x.allN p = true → x.allN q = true
  | .ptr i _, hx => h _ hx
  | .elp i _ _ _, hx => h _ hx
  | .sl i _ _ _ _ _, hx => h _ hx
  | .fn _ fs cs, hx => by
    simp only [SV.allN, Bool.and_eq_true] at hx ⊢
    exact ⟨allNL_mono h fs hx.1, allNL_mono h cs hx.2⟩
  | .agg cs, hx => allNL_mono h cs hx
  | .tup cs, hx => allNL_mono h cs hx
  | .v _, _ => rfl
  | .ro _ _ _ _, _ => rfl
  | .rop _, _ => rfl
  | .own _ _ _, _ => rfl
  | .any, _ => rfl
  | .yld i, hx => h _ hx
theorem allNL_mono {p q : Nat → Bool} (h : ∀ i, p i = true → q i = true) : ∀ (xs : List SV), SV.allNL p xs = true → SV.allNL q xs = true
  | [], _ => rfl
  | x :: xs, hx => by
    simp only [SV.allNL, Bool.and_eq_true] at hx ⊢
    exact ⟨allN_mono h x hx.1, allNL_mono h xs hx.2⟩
end

theorem frX_allN {p q : Nat → Bool} {fr0 : List (Nat × SV)} (h0 : fr0.all (fun r => r.2.allN q) = true) : ∀ {res : List Res}, (∀ r ∈ res, r.x.allN q = true) → (frX p fr0 res).all (fun r => r.2.allN q) = true
  | [], _ => h0
  | r :: res, h => by
    have ih := frX_allN (p := p) h0 (res := res) (fun r hr => h r (by simp [hr]))
    unfold frX
    cases r.o.dst with
    | none => exact ih
    | some d =>
      cases p r.i with
      | false => exact ih
      | true =>
        simp only [cond_true, List.all_cons, Bool.and_eq_true]
        refine ⟨?_, ih⟩
        cases r.g with
        | true => exact h r (by simp)
        | false => rfl

section
variable {P : Program} {T : Tab} {N : Nat} {ops : Array Oper} {A : List (List Nat)} {fr0 : List (Nat × SV)} {base : Nat} {res : List Res} {L : Ents} {nx : Nat}

/-- The state as it is. -/
def stX (fr0 : List (Nat × SV)) (base : Nat) (p : Nat → Bool) (res : List Res) (L : Ents) (nx : Nat) : St := { fr := frX p fr0 res, L, nx, dec := [], base }

theorem Node.bd (h : Node N ops A fr0 base res L nx) (p : Nat → Bool) : (stX fr0 base p res L nx).bd = true := by
  simp only [St.bd, Bool.and_eq_true, Nat.ble_eq]
  exact ⟨⟨frX_allN h.bf h.bx, h.bL⟩, h.bb⟩

theorem Node.ev (h : Node N ops A fr0 base res L nx) {r : Res} (hr : r ∈ res) {p : Nat → Bool} (hun : p r.i = false) (hcl : ∀ i, p i = true → ∀ j ∈ A.getD i [], p j = true) (hA : ∀ j ∈ A.getD r.i [], p j = true)
    {x : Operand} (hx : x ∈ r.o.op.operands.toList) (hg : SG A res r.i x) : (stX fr0 base p res L nx).ev x = (stOf A fr0 base res L nx r.i).ev x := by
  cases x with
  | const v => rfl
  | global g => rfl
  | func f => rfl
  | tmp t =>
    show fget (frX p fr0 res) t = fget (frA (memB (A.getD r.i [])) fr0 res) t
    refine fget_agree (fun r2 hr2 hd => ?_)
    have hl : t ∈ r.o.looksAt ops := List.mem_append_left _ (List.mem_filterMap.2 ⟨.tmp t, hx, rfl⟩)
    by_cases hm : r2.i ∈ A.getD r.i []
    · have h1 := memB_iff.2 hm
      exact ⟨h1.trans (hA _ hm).symm, fun _ => hg t rfl r2 hr2 hd hm⟩
    · have h1 : memB (A.getD r.i []) r2.i = false := by rw [Bool.eq_false_iff]; intro hb; exact hm (memB_iff.1 hb)
      refine ⟨h1.trans ?_, fun hb => by rw [h1] at hb; simp at hb⟩
      rcases h.ord r hr r2 hr2 t hd hl with h2 | h2 | h2
      · subst h2; exact hun.symm
      · exact absurd h2 hm
      · cases hp : p r2.i with
        | false => rfl
        | true => rw [hcl _ hp _ h2] at hun; simp at hun

/-- Where a walk through the region stands. -/
structure Inv (P : Program) (T : Tab) (N : Nat) (ops : Array Oper) (A : List (List Nat)) (fr0 : List (Nat × SV)) (base : Nat) (g0 : Gh) (p : Nat → Bool) (res : List Res) (L : Ents) (nx : Nat) (a : Act) (w : World) : Prop where
  node : Node N ops A fr0 base res L nx
  holds : ∃ g, g0.le g ∧ Holds N (stX fr0 base p res L nx) g a w
  clo : ∀ i, p i = true → ∀ j ∈ A.getD i [], p j = true
  sub : ∀ i, p i = true → ∃ r ∈ res, r.i = i
  muts : ∀ r ∈ res, r.pure = false → p r.i = true
  run : ∀ r ∈ res, r.pure = true → p r.i = false → r.g = true → ∃ c st', stepA P T (stOf A fr0 base res L nx r.i) r.o = some (c, r.x, st') ∧ c ∧ st'.L = L ∧ st'.nx = nx

variable {g0 : Gh} {p : Nat → Bool} {a : Act} {w : World}

theorem Node.wanted (h : Node N ops A fr0 base res L nx) {L0 : Ents} {nx0 : Nat} {g : Gh} (hh : Holds N (stX fr0 base p res L0 nx0) g a w) {r : Res} (hr : r ∈ res) (hA : ∀ j ∈ A.getD r.i [], p j = true) : Region.wanted r.o (yielded ops a.tmps) = r.g := by
  have hgd := h.gd r hr
  unfold Region.wanted
  cases hgu : r.o.guard with
  | none => rw [hgu] at hgd; simp [hgd.1]
  | some jw =>
    obtain ⟨j, wt⟩ := jw
    rw [hgu] at hgd
    obtain ⟨rj, h1, rfl, h2, t, d, h3, h4, h5⟩ := hgd
    obtain ⟨ρ, Fp, ms, hc⟩ := hh
    have hf := hc.frm d
    have hx : fget (stX fr0 base p res L0 nx0).fr d = cond rj.g rj.x (.v undef) := frX_hit (fun a ha b hb => h.dd a ha b hb d) h1 h4 (hA _ h2)
    have hy : yielded ops a.tmps rj.i = cond rj.g (some t) none := by
      cases hg : rj.g with
      | true =>
        have : fget (stX fr0 base p res L0 nx0).fr d = .v (.bool t) := by rw [hx, hg]; exact h3
        have := slot_bool hc.frm this
        simp [yielded, (h.op rj h1).1, h4, this]
      | false =>
        rw [hx, hg] at hf
        simp only [cond_false, SV.R, Array.getD_eq_getD_getElem?] at hf
        simp only [yielded, (h.op rj h1).1, h4, Option.bind_some]
        cases ht : a.tmps[d]? with
        | none => rfl
        | some u =>
          rw [ht] at hf
          simp only [Option.getD_some] at hf
          subst hf
          rfl
    show (yielded ops a.tmps rj.i == some wt) = r.g
    rw [hy, h5]
    cases rj.g <;> cases t <;> cases wt <;> rfl

theorem Inv.next (h : Inv P T N ops A fr0 base g0 p res L nx a w) {r : Res} (hr : r ∈ res) (hA : ∀ j ∈ A.getD r.i [], p j = true) {a' : Act} {w' : World}
    (hh : ∃ g, g0.le g ∧ Holds N ((stX fr0 base p res L nx).put r.o.dst (cond r.g r.x (.v undef))) g a' w') : Inv P T N ops A fr0 base g0 (more p r.i) res L nx a' w' := by
  obtain ⟨g, h1, h2⟩ := hh
  refine ⟨h.node, ⟨g, h1, ?_⟩, ?_, ?_, ?_, ?_⟩
  · cases hd : r.o.dst with
    | none =>
      rw [hd] at h2
      refine Holds_fget (fun t => ?_) h2
      rw [frX_more h.node.dd h.node.ui hr t, hd]
      simp [stX]
    | some d =>
      rw [hd] at h2
      refine Holds_fget (fr := (d, cond r.g r.x (.v undef)) :: frX p fr0 res) (dec := ddel [] d) (fun t => ?_) h2
      rw [frX_more h.node.dd h.node.ui hr t, hd, fget_cons]
      by_cases hdt : d = t
      · simp [hdt]
      · simp [hdt]
  · intro i hi j hj
    simp only [more, Bool.or_eq_true] at hi ⊢
    rcases hi with hi | hi
    · rw [← Nat.eq_of_beq_eq_true hi] at hj; exact .inr (hA j hj)
    · exact .inr (h.clo i hi j hj)
  · intro i hi
    simp only [more, Bool.or_eq_true] at hi
    rcases hi with hi | hi
    · exact ⟨r, hr, Nat.eq_of_beq_eq_true hi⟩
    · exact h.sub i hi
  · intro r2 hr2 hp
    simp [more, h.muts r2 hr2 hp]
  · intro r2 hr2 hp hun hg
    simp only [more, Bool.or_eq_false_iff] at hun
    exact h.run r2 hr2 hp hun.2 hg

/-- What no operation throws: the rest may ask anything of a panic. -/
theorem wpIn_anyQ {F : Fence} {n : Nat} {o : Oper} {K K' : Act → World → Prop} {Q : Exit → Act → World → Prop} (hK : ∀ a w, K a w → K' a w) (h : o.wpIn F n P a w K (fun _ _ _ => False)) : o.wpIn F n P a w K' Q := by
  refine ⟨h.1, ?_⟩
  have h2 := h.2
  generalize (o.semAt F.round a.eval).run P w = res at *
  cases res with
  | ok x w' =>
    cases x <;> simp only [Oper.uponIn] at h2 ⊢ <;>
      first
        | exact hK _ _ h2
        | exact h2.elim
        | exact ⟨h2.1, CallsIn.mono h2.2 (fun e w'' he => by
            cases e
            · exact hK _ _ he
            · exact he.elim
            · obtain ⟨a0, w0, h0⟩ := he; exact h0.elim)⟩
        | exact ⟨h2.1, RowsIn.mono h2.2 (fun v w'' he => hK _ _ he)⟩
        | exact ⟨h2.1, RoundIn.mono h2.2 (fun e w'' he => by
            cases e
            · exact hK _ _ he
            · exact he.elim
            · obtain ⟨a0, w0, h0⟩ := he; exact h0.elim)⟩
  | halt x w' => cases x <;> simp only [Oper.uponIn] at h2 ⊢ <;> first | exact h2.elim | exact h2

theorem WPop_pick {ro : Option Nat} {o : Oper} {st : St} {c x y : Operand} {t p q : Bool} (ho : o.op = .pick c x y) (hc : st.ev c = .v (.bool t)) (hx : t = true → st.ev x = .v (.bool p)) (hy : t = false → st.ev y = .v (.bool q)) {K : St → Prop}
    (hd : ∀ d, o.dst = some d → d < N) (hK : K (st.put o.dst (.v (.bool (cond t p q))))) : WPop P ro N o st K := by
  refine WPop_of_snd (Snd.pure fun ρ G a w hf => ?_) (by rw [ho]; intro c; simp) hd hK
  have h1 := frm_ev hf c
  rw [hc] at h1
  simp only [SV.R] at h1
  cases t with
  | true =>
    have h2 := frm_ev hf x
    rw [hx rfl] at h2
    simp only [SV.R] at h2
    exact ⟨.bool p, by simp [execOp, ho, h1, h2, asBool], by simp [SV.R]⟩
  | false =>
    have h2 := frm_ev hf y
    rw [hy rfl] at h2
    simp only [SV.R] at h2
    exact ⟨.bool q, by simp [execOp, ho, h1, h2, asBool], by simp [SV.R]⟩

/-- From the step in the frame of what it waits for to the step as it is. -/
theorem Node.step {hT : T.Ok P} (h : Node N ops A fr0 base res L nx) {r : Res} (hr : r ∈ res) (hun : p r.i = false) (hcl : ∀ i, p i = true → ∀ j ∈ A.getD i [], p j = true) (hA : ∀ j ∈ A.getD r.i [], p j = true) (hgood : OpGood A res r.i r.o) {L0 : Ents} {nx0 : Nat}
    {c : Prop} {st' : St} (hbd : (stX fr0 base p res L0 nx0).bd = true) (hst : stepA P T (stOf A fr0 base res L0 nx0 r.i) r.o = some (c, r.x, st')) (hc : c) (ro : Option Nat) :
    WPop P ro N r.o (stX fr0 base p res L0 nx0) (fun s => s = St.put { stX fr0 base p res L0 nx0 with L := st'.L, nx := st'.nx } r.o.dst r.x) := by
  have hdst : ∀ d, r.o.dst = some d → d < N := by
    intro d hd
    have := (h.op r hr).2
    rw [hd] at this
    simpa [dstOk] using this
  have hev : ∀ x ∈ r.o.op.operands.toList, SG A res r.i x → (stX fr0 base p res L0 nx0).ev x = (stOf A fr0 base res L0 nx0 r.i).ev x := by
    intro x hx hg
    have := h.ev hr hun hcl hA hx hg
    exact this
  by_cases hpick : ∃ cc x y, r.o.op = .pick cc x y
  · obtain ⟨cc, x, y, ho⟩ := hpick
    unfold OpGood at hgood
    simp only [ho] at hgood
    have hcv : isCallV r.o = false := by unfold isCallV; rw [ho]
    simp only [stepA, hcv, cond_false, stepF, ho] at hst
    split at hst <;> try (simp at hst; done)
    rename_i t pp q h1 h2 h3
    simp only [Option.some.injEq, Prod.mk.injEq] at hst
    obtain ⟨_, hx, rfl⟩ := hst
    have e1 := hev cc (by rw [ho]; simp [Op.operands]) hgood.1
    have memx : x ∈ r.o.op.operands.toList := by rw [ho]; simp [Op.operands]
    have memy : y ∈ r.o.op.operands.toList := by rw [ho]; simp [Op.operands]
    have key : (t = true → SG A res r.i x) ∧ (t = false → SG A res r.i y) := by
      rcases hgood.2 with ⟨k1, k2⟩ | ⟨tc, rc, rfl, k2, k3, k4, k5, k6⟩
      · exact ⟨fun _ => k1, fun _ => k2⟩
      · have : rc.x = .v (.bool t) := by
          rw [← h1]
          exact (frA_hit (fun a ha b hb => h.dd a ha b hb tc) k2 k3 (memB_iff.2 k4)).symm
        exact ⟨fun ht => k5 (by rw [this, ht]), fun ht => k6 (by rw [this, ht])⟩
    rw [← hx]
    exact WPop_pick ho (e1.trans h1) (fun ht => (hev x memx (key.1 ht)).trans h2) (fun ht => (hev y memy (key.2 ht)).trans h3) hdst rfl
  · have hall : ∀ x ∈ r.o.op.operands.toList, SG A res r.i x := by
      unfold OpGood at hgood
      split at hgood
      · rename_i cc x y ho; exact absurd ⟨cc, x, y, ho⟩ hpick
      · exact hgood
    have hloc := stepA_loc (P := P) (T := T) (s1 := stOf A fr0 base res L0 nx0 r.i) (fr := frX p fr0 res) hbd (fun x hx => hev x hx (hall x hx)) hst
    obtain ⟨k1, k2, k3, k4⟩ := hloc
    refine WPop_of_stepA hT k1 hc hdst ?_
    have : st'.wf (frX p fr0 res) = { stX fr0 base p res L0 nx0 with L := st'.L, nx := st'.nx } := by
      have hb : st'.base = base := k4
      simp [St.wf, stX, hb]
    rw [this]
end
end Go.Sym

/- A region, whatever the order of its operations: one more result. -/
set_option linter.unusedSimpArgs false
set_option linter.unusedVariables false
namespace Go.Sym
section
variable {P : Program} {T : Tab} {N : Nat} {ops : Array Oper} {A : List (List Nat)} {fr0 : List (Nat × SV)} {base : Nat} {res : List Res} {L : Ents} {nx : Nat}

theorem Tk.mono {r : Res} {e : Nat × Bool} (h : Tk res e) : Tk (r :: res) e := by
  obtain ⟨rj, h1, h2⟩ := h
  exact ⟨rj, by simp [h1], h2⟩

theorem SG.mono {r : Res} {i : Nat} {x : Operand} (hni : r.i ∉ A.getD i []) (h : SG A res i x) : SG A (r :: res) i x := by
  intro t ht r2 hr2 hd hm
  rcases List.mem_cons.1 hr2 with rfl | hr2
  · exact absurd hm hni
  · exact h t ht r2 hr2 hd hm

theorem OpGood.mono {r : Res} {i : Nat} {o : Oper} (hni : r.i ∉ A.getD i []) (h : OpGood A res i o) : OpGood A (r :: res) i o := by
  unfold OpGood at h ⊢
  split at h
  · refine ⟨SG.mono hni h.1, ?_⟩
    rcases h.2 with ⟨h1, h2⟩ | ⟨tc, rc, h1, h2, h3, h4, h5, h6⟩
    · exact .inl ⟨SG.mono hni h1, SG.mono hni h2⟩
    · exact .inr ⟨tc, rc, h1, by simp [h2], h3, h4, fun hx => SG.mono hni (h5 hx), fun hx => SG.mono hni (h6 hx)⟩
  · exact fun x hx => SG.mono hni (h x hx)

structure Step (P : Program) (T : Tab) (ops : Array Oper) (A : List (List Nat)) (fr0 : List (Nat × SV)) (base : Nat) (res : List Res) (L : Ents) (nx i : Nat) (c : Prop) (r : Res) (L' : Ents) (nx' : Nat) : Prop where
  ri : r.i = i
  op : ops[i]? = some r.o
  st : ∃ c0 st', stepA P T (stOf A fr0 base res L nx i) r.o = some (c0, r.x, st') ∧ (c → r.g = true → c0) ∧ st'.L = L' ∧ st'.nx = nx'
  pu : r.pure = pureOp P T (stOf A fr0 base res L nx i) r.o
  new : ∀ r2 ∈ res, r2.i ≠ i
  av : ∀ j ∈ A.getD i [], j < i ∧ ∃ r2 ∈ res, r2.i = j
  nold : ∀ r2 ∈ res, i ∉ A.getD r2.i []

theorem find_mem {p : Res → Bool} {r : Res} (h : res.find? p = some r) : r ∈ res ∧ p r = true := ⟨List.mem_of_find?_eq_some h, List.find?_some h⟩

theorem LbdB_mono {n m : Nat} (h : n ≤ m) {i : Nat} (hi : ltN n i = true) : ltN m i = true := by
  simp only [ltN, Nat.blt_eq] at hi ⊢; omega

theorem Node.add (h : Node N ops A fr0 base res L nx) {i : Nat} {c : Prop} {r : Res} {L' : Ents} {nx' : Nat} (he : evalOp P T N ops A fr0 base res L nx i = some (c, r, L', nx')) (hcc : c) :
    Node N ops A fr0 base (r :: res) L' nx' ∧ Step P T ops A fr0 base res L nx i c r L' nx' := by
  unfold evalOp at he
  split at he <;> try (simp at he; done)
  rename_i o ho
  split at he <;> try (simp at he; done)
  rename_i g ch hgu
  split at he <;> try (simp at he; done)
  rename_i c0 x st' hst
  -- what is taken
  obtain ⟨g', ch', hr, hck, rfl, rfl, hcs, hgch⟩ : ∃ g' ch', (⟨i, o, x, g', ch', pureOp P T (stOf A fr0 base res L nx i) o⟩ : Res) = r ∧ chkB N ops A res nx i o ch x st'.L st'.nx = true ∧ st'.L = L' ∧ st'.nx = nx' ∧ (c → g' = true → c0) ∧
      ((g' = g ∧ ch' = ch ∧ (pureOp P T (stOf A fr0 base res L nx i) o = false → ch = [])) ∨ (g' = true ∧ ch' = [] ∧ g = true)) := by
    unfold takeR at he
    cases hck : chkB N ops A res nx i o ch x st'.L st'.nx with
    | false => rw [hck] at he; split at he <;> simp at he
    | true =>
      rw [hck] at he
      split at he
      · rename_i hpc
        simp only [cond_true, Option.some.injEq, Prod.mk.injEq] at he
        obtain ⟨hc, hr, h1, h2⟩ := he
        refine ⟨g, ch, hr, rfl, h1, h2, ?_, .inl ⟨rfl, rfl, fun hp => ?_⟩⟩
        · intro hcc hg
          rw [← hc] at hcc
          cases ch with
          | nil => exact hcc
          | cons _ _ => exact hcc hg
        · rw [hp] at hpc
          simpa using hpc
      · simp only [cond_true, Option.some.injEq, Prod.mk.injEq] at he
        obtain ⟨hc, hr, h1, h2⟩ := he
        rw [← hc] at hcc
        exact ⟨true, [], hr, rfl, h1, h2, fun h _ => by rw [← hc] at h; exact h.2, .inr ⟨rfl, rfl, hcc.1⟩⟩
  simp only [chkB, Bool.and_eq_true, Bool.not_eq_true', Nat.ble_eq] at hck
  obtain ⟨⟨k1, k2, k3⟩, ⟨k4, k5⟩, k6, k7, k8⟩ := hck
  have k2' := List.all_eq_true.1 k2
  have k5' : ∀ j ∈ A.getD i [], j < i ∧ ∃ r2 ∈ res, r2.i = j := by
    intro j hj
    have := List.all_eq_true.1 k5 j hj
    simp only [Bool.and_eq_true, Nat.blt_eq] at this
    exact ⟨this.2, inR_iff.1 this.1⟩
  have knew : ∀ r2 ∈ res, r2.i ≠ i := by
    intro r2 hr2 hi
    have : inR res i = true := inR_iff.2 ⟨r2, hr2, hi⟩
    rw [this] at k3; simp at k3
  have pairs : ∀ r2 ∈ res, (∀ t, (r2.o.dst = some t ∧ t ∈ o.looksAt ops) ∨ (o.dst = some t ∧ t ∈ r2.o.looksAt ops) → r2.i ∈ A.getD i []) ∧ i ∉ A.getD r2.i [] ∧ ∀ t, ¬ (r2.o.dst = some t ∧ o.dst = some t) := by
    intro r2 hr2
    have := k2' r2 hr2
    simp only [pairOk, Bool.and_eq_true, Bool.or_eq_true, Bool.not_eq_true', Bool.or_eq_false_iff] at this
    obtain ⟨m1, m2, m3⟩ := this
    refine ⟨fun t ht => ?_, fun hm => ?_, fun t ht => ?_⟩
    · rcases m1 with m1 | ⟨m1, m1'⟩
      · exact memB_iff.1 m1
      · rcases ht with ⟨t1, t2⟩ | ⟨t1, t2⟩
        · rw [optB_iff.2 ⟨t, t1, t2⟩] at m1; simp at m1
        · rw [optB_iff.2 ⟨t, t1, t2⟩] at m1'; simp at m1'
    · rw [memB_iff.2 hm] at m2; simp at m2
    · rw [ht.1, ht.2] at m3
      simp [optB, memB] at m3
  subst hr
  have looks : ∀ t, .tmp t ∈ o.op.operands.toList → t ∈ o.looksAt ops := fun t ht => List.mem_append_left _ (List.mem_filterMap.2 ⟨.tmp t, ht, rfl⟩)
  -- the guard
  have hguard0 : (o.guard = none ∧ g = true ∧ ch = []) ∨ ∃ j w rj t d, o.guard = some (j, w) ∧ rj ∈ res ∧ rj.i = j ∧ j ∈ A.getD i [] ∧ rj.x = .v (.bool t) ∧ rj.o.dst = some d ∧ g = (rj.g && (t == w)) ∧ ch = (j, w) :: rj.ch := by
    unfold guardOf at hgu
    split at hgu
    · rename_i hg0
      simp only [Option.some.injEq, Prod.mk.injEq] at hgu
      exact .inl ⟨hg0, hgu.1.symm, hgu.2.symm⟩
    · rename_i j w hg0
      split at hgu <;> try (simp at hgu; done)
      rename_i rj hf
      split at hgu <;> try (simp at hgu; done)
      rename_i t d h1 h2 h3
      simp only [Option.some.injEq, Prod.mk.injEq] at hgu
      obtain ⟨f1, f2⟩ := find_mem hf
      refine .inr ⟨j, w, rj, t, d, hg0, f1, Nat.eq_of_beq_eq_true f2, memB_iff.1 h2, h1, h3, ?_, hgu.2.symm⟩
      rw [← hgu.1]
      have hb : bIs t w = (t == w) := by cases t <;> cases w <;> rfl
      split
      · rename_i hch
        rw [h.ch2 rj f1 (by rw [hch]; simp), hb]; rfl
      · rw [hb]
  have hguard : (o.guard = none ∧ g' = true ∧ ch' = []) ∨ ∃ j w rj t d, o.guard = some (j, w) ∧ rj ∈ res ∧ rj.i = j ∧ j ∈ A.getD i [] ∧ rj.x = .v (.bool t) ∧ rj.o.dst = some d ∧ g' = (rj.g && (t == w)) ∧ (ch' = (j, w) :: rj.ch ∨ (ch' = [] ∧ g' = true)) := by
    rcases hguard0 with ⟨h1, h2, h3⟩ | ⟨j, w, rj, t, d, g1, g2, g3, g4, g5, g6, g7, g8⟩
    · rcases hgch with ⟨rfl, rfl, _⟩ | ⟨rfl, rfl, _⟩
      · exact .inl ⟨h1, h2, h3⟩
      · exact .inl ⟨h1, rfl, rfl⟩
    · rcases hgch with ⟨rfl, rfl, _⟩ | ⟨rfl, rfl, h4⟩
      · exact .inr ⟨j, w, rj, t, d, g1, g2, g3, g4, g5, g6, g7, .inl g8⟩
      · exact .inr ⟨j, w, rj, t, d, g1, g2, g3, g4, g5, g6, by rw [← g7, h4], .inr ⟨rfl, rfl⟩⟩
  have hTkc : g' = true → ∀ e ∈ ch, Tk res e := by
    intro hg e he
    rcases hguard0 with ⟨_, _, h0⟩ | ⟨j, w, rj, t, d, g1, g2, g3, g4, g5, g6, g7, g8⟩
    · rw [h0] at he; simp at he
    · have hg0 : g = true := by
        rcases hgch with ⟨h1, _, _⟩ | ⟨_, _, h4⟩
        · rw [← h1]; exact hg
        · exact h4
      rw [g7] at hg0
      simp only [Bool.and_eq_true, beq_iff_eq] at hg0
      rw [g8] at he
      rcases List.mem_cons.1 he with rfl | he
      · exact ⟨rj, g2, g3, hg0.1, by rw [g5, hg0.2]⟩
      · exact h.ch1 rj g2 hg0.1 e he
  let r : Res := ⟨i, o, x, g', ch', pureOp P T (stOf A fr0 base res L nx i) o⟩
  have ui' : ∀ r1 ∈ r :: res, ∀ r2 ∈ r :: res, r1.i = r2.i → r1 = r2 := by
    intro r1 h1 r2 h2 hi
    rcases List.mem_cons.1 h1 with rfl | h1
    · rcases List.mem_cons.1 h2 with rfl | h2
      · rfl
      · exact absurd hi.symm (knew r2 h2)
    · rcases List.mem_cons.1 h2 with rfl | h2
      · exact absurd hi (knew r1 h1)
      · exact h.ui r1 h1 r2 h2 hi
  have ch1' : ∀ r1 ∈ r :: res, r1.g = true → ∀ e ∈ r1.ch, Tk (r :: res) e := by
    intro r1 h1 hg e he
    rcases List.mem_cons.1 h1 with rfl | h1
    · rcases hguard with ⟨_, _, h0⟩ | ⟨j, w, rj, t, d, g1, g2, g3, g4, g5, g6, g7, g8⟩
      · rw [show r.ch = ch' from rfl, h0] at he; simp at he
      · rcases g8 with g8 | ⟨g8, _⟩
        · rw [show r.ch = ch' from rfl, g8] at he
          rw [show r.g = g' from rfl, g7] at hg
          simp only [Bool.and_eq_true, beq_iff_eq] at hg
          rcases List.mem_cons.1 he with rfl | he
          · exact ⟨rj, by simp [g2], g3, hg.1, by rw [g5, hg.2]⟩
          · exact (h.ch1 rj g2 hg.1 e he).mono
        · rw [show r.ch = ch' from rfl, g8] at he; simp at he
    · exact (h.ch1 r1 h1 hg e he).mono
  have chi' : ∀ r1 ∈ res, ∀ e ∈ r1.ch, ∃ rj ∈ res, rj.i = e.1 := h.chi
  have chir : ∀ e ∈ ch', ∃ rj ∈ res, rj.i = e.1 := by
    intro e he
    rcases hguard with ⟨_, _, h0⟩ | ⟨j, w, rj, t, d, g1, g2, g3, g4, g5, g6, g7, g8⟩
    · rw [h0] at he; simp at he
    · rcases g8 with g8 | ⟨g8, _⟩
      · rw [g8] at he
        rcases List.mem_cons.1 he with rfl | he
        · exact ⟨rj, g2, g3⟩
        · exact h.chi rj g2 e he
      · rw [g8] at he; simp at he
  have down : ∀ e, (∃ rj ∈ res, rj.i = e.1) → Tk (r :: res) e → Tk res e := by
    rintro e ⟨rj, h1, h2⟩ ⟨rk, h3, h4, h5⟩
    have : rk = rj := ui' rk h3 rj (by simp [h1]) (h4.trans h2.symm)
    subst this
    exact ⟨rk, h1, h4, h5⟩
  have ch2' : ∀ r1 ∈ r :: res, (∀ e ∈ r1.ch, Tk (r :: res) e) → r1.g = true := by
    intro r1 h1 hall
    rcases List.mem_cons.1 h1 with rfl | h1
    · rcases hguard with ⟨_, h0, _⟩ | ⟨j, w, rj, t, d, g1, g2, g3, g4, g5, g6, g7, g8⟩
      · exact h0
      · show g' = true
        rcases g8 with g8 | ⟨_, g8⟩
        rotate_left
        · exact g8
        have := down (j, w) ⟨rj, g2, g3⟩ (hall (j, w) (by show (j, w) ∈ ch'; rw [g8]; simp))
        obtain ⟨rk, q1, q2, q3, q4⟩ := this
        have : rk = rj := h.ui rk q1 rj g2 (q2.trans g3.symm)
        subst this
        rw [g5] at q4
        simp only [SV.v.injEq, Value.bool.injEq] at q4
        rw [g7, q3, q4]; simp
    · exact h.ch2 r1 h1 (fun e he => down e (h.chi r1 h1 e he) (hall e he))
  have slot : ∀ {d : List (Nat × Bool)} {y : Operand}, slotCh (A.getD i []) res d y = true → (∀ e ∈ d, Tk res e) → SG A (r :: res) i y := by
    intro d y hs hd t ht r2 hr2 hdst hm
    subst ht
    rcases List.mem_cons.1 hr2 with rfl | hr2
    · exact absurd (k5' _ hm).1 (Nat.lt_irrefl _)
    · have := List.all_eq_true.1 hs r2 hr2
      simp only [Bool.or_eq_true, Bool.not_eq_true'] at this
      rcases this with this | this
      · rw [optB_iff.2 ⟨t, hdst, by simp⟩] at this; simp at this
      · exact h.ch2 r2 hr2 (fun e he => hd e (subB_ok this e he))
  refine ⟨⟨ui', ?_, ?_, ?_, ?_, ?_, ch1', ch2', ?_, ?_, ?_, ?_, ?_, k7, Nat.le_trans h.bb k8⟩, ⟨rfl, ho, ⟨c0, st', hst, ?_, rfl, rfl⟩, rfl, knew, k5', fun r2 hr2 => (pairs r2 hr2).2.1⟩⟩
  · intro r1 h1 r2 h2 t d1 d2
    rcases List.mem_cons.1 h1 with rfl | h1
    · rcases List.mem_cons.1 h2 with rfl | h2
      · rfl
      · exact absurd ⟨d2, d1⟩ ((pairs r2 h2).2.2 t)
    · rcases List.mem_cons.1 h2 with rfl | h2
      · exact absurd ⟨d1, d2⟩ ((pairs r1 h1).2.2 t)
      · exact h.dd r1 h1 r2 h2 t d1 d2
  · intro r1 h1
    rcases List.mem_cons.1 h1 with rfl | h1
    · exact ⟨ho, k1⟩
    · exact h.op r1 h1
  · intro r1 h1 j hj
    rcases List.mem_cons.1 h1 with rfl | h1
    · obtain ⟨q1, r2, q2, q3⟩ := k5' j hj
      exact ⟨q1, r2, by simp [q2], q3⟩
    · obtain ⟨q1, r2, q2, q3⟩ := h.lt r1 h1 j hj
      exact ⟨q1, r2, by simp [q2], q3⟩
  · intro r1 h1 r2 h2 t d2 hl
    rcases List.mem_cons.1 h1 with rfl | h1
    · rcases List.mem_cons.1 h2 with rfl | h2
      · exact .inl rfl
      · exact .inr (.inl ((pairs r2 h2).1 t (.inl ⟨d2, hl⟩)))
    · rcases List.mem_cons.1 h2 with rfl | h2
      · exact .inr (.inr ((pairs r1 h1).1 t (.inr ⟨d2, hl⟩)))
      · exact h.ord r1 h1 r2 h2 t d2 hl
  · intro r1 h1 e he
    rcases List.mem_cons.1 h1 with rfl | h1
    · obtain ⟨rj, q1, q2⟩ := chir e he
      exact ⟨rj, by simp [q1], q2⟩
    · obtain ⟨rj, q1, q2⟩ := h.chi r1 h1 e he
      exact ⟨rj, by simp [q1], q2⟩
  · intro r1 h1
    rcases List.mem_cons.1 h1 with rfl | h1
    · rcases hguard with ⟨h0, h00, h000⟩ | ⟨j, w, rj, t, d, g1, g2, g3, g4, g5, g6, g7, g8⟩
      · dsimp only
        rw [h0]; exact ⟨h00, h000⟩
      · dsimp only
        rw [g1]; exact ⟨rj, by simp [g2], g3, g4, t, d, g5, g6, g7⟩
    · have := h.gd r1 h1
      cases hgo : r1.o.guard with
      | none => rw [hgo] at this; exact this
      | some jw =>
        rw [hgo] at this
        obtain ⟨rj, q1, q2⟩ := this
        exact ⟨rj, by simp [q1], q2⟩
  · intro r1 h1 hg
    rcases List.mem_cons.1 h1 with rfl | h1
    · have hTk : ∀ e ∈ ch, Tk res e := hTkc hg
      show OpGood A (r :: res) i o
      unfold opCh at k4
      unfold OpGood
      split
      · rename_i cc a b hop
        simp only [hop] at k4
        split at k4
        · rename_i j hgv
          simp only [Bool.and_eq_true] at k4
          refine ⟨slot k4.1 hTk, .inr ?_⟩
          cases cc with
          | tmp tc =>
            simp only [giver, Option.map_eq_some_iff] at hgv
            obtain ⟨rc, f0, rfl⟩ := hgv
            obtain ⟨f1, f2⟩ := find_mem f0
            obtain ⟨t', f3, f4⟩ := optB_iff.1 f2
            simp at f4; subst f4
            have hin : rc.i ∈ A.getD i [] := (pairs rc f1).1 t' (.inl ⟨f3, looks t' (by rw [hop]; simp [Op.operands])⟩)
            have hrg : rc.g = true := slot k4.1 hTk t' rfl rc (by simp [f1]) f3 hin
            refine ⟨t', rc, rfl, by simp [f1], f3, hin, fun hx => slot k4.2.1 ?_, fun hx => slot k4.2.2 ?_⟩
            · intro e he
              rcases List.mem_cons.1 he with rfl | he
              · exact ⟨rc, f1, rfl, hrg, hx⟩
              · exact hTk e he
            · intro e he
              rcases List.mem_cons.1 he with rfl | he
              · exact ⟨rc, f1, rfl, hrg, hx⟩
              · exact hTk e he
          | _ => simp [giver] at hgv
        · simp only [Bool.and_eq_true] at k4
          exact ⟨slot k4.1 hTk, .inl ⟨slot k4.2.1 hTk, slot k4.2.2 hTk⟩⟩
      · rename_i op hne
        split at k4
        · rename_i cc a b hop; exact absurd hop (hne cc a b)
        · intro y hy
          exact slot (List.all_eq_true.1 k4 y hy) hTk
    · exact (h.good r1 h1 hg).mono (pairs r1 h1).2.1
  · intro r1 h1 hp
    rcases List.mem_cons.1 h1 with rfl | h1
    · show g' = true
      have hp' : pureOp P T (stOf A fr0 base res L nx i) o = false := hp
      rcases hgch with ⟨e1, e2, e3⟩ | ⟨e1, _, _⟩
      · have e4 := e3 hp'
        rcases hguard with ⟨_, h00, _⟩ | ⟨j, w, rj, t, d, g1, g2, g3, g4, g5, g6, g7, g8⟩
        · exact h00
        · rcases g8 with g8 | ⟨_, g8⟩
          · rw [← e2, g8] at e4; simp at e4
          · exact g8
      · exact e1
    · exact h.mg r1 h1 hp
  · intro r1 h1
    rcases List.mem_cons.1 h1 with rfl | h1
    · exact k6
    · exact allN_mono (fun _ => LbdB_mono k8) _ (h.bx r1 h1)
  · rw [List.all_eq_true]
    intro q hq
    exact allN_mono (fun _ => LbdB_mono k8) _ (List.all_eq_true.1 h.bf q hq)
  · exact hcs
end
end Go.Sym

/- A region, whatever the order of its operations: the walk. -/
set_option linter.unusedSimpArgs false
set_option linter.unusedVariables false
namespace Go.Sym
section
variable {P : Program} {T : Tab} {N : Nat} {ops : Array Oper} {A : List (List Nat)} {fr0 : List (Nat × SV)} {base : Nat} {res : List Res} {L : Ents} {nx : Nat} {g0 : Gh} {p : Nat → Bool} {a : Act} {w : World}

theorem frX_skip {r : Res} (h : p r.i = false) : frX p fr0 (r :: res) = frX p fr0 res := by
  show (match r.o.dst with | some d => cond (p r.i) ((d, cond r.g r.x (.v undef)) :: frX p fr0 res) (frX p fr0 res) | none => frX p fr0 res) = _
  rw [h]
  cases r.o.dst <;> rfl

theorem frA_skip {r : Res} (h : p r.i = false) : frA p fr0 (r :: res) = frA p fr0 res := by
  show (match r.o.dst with | some d => cond (p r.i) ((d, r.x) :: frA p fr0 res) (frA p fr0 res) | none => frA p fr0 res) = _
  rw [h]
  cases r.o.dst <;> rfl

theorem memB_false {l : List Nat} {i : Nat} (h : i ∉ l) : memB l i = false := by rw [Bool.eq_false_iff]; intro hb; exact h (memB_iff.1 hb)

theorem stOf_skip {r : Res} {i : Nat} (h : r.i ∉ A.getD i []) : stOf A fr0 base (r :: res) L nx i = stOf A fr0 base res L nx i := by
  unfold stOf
  rw [frA_skip (memB_false h)]

theorem Inv.un (h : Inv P T N ops A fr0 base g0 p res L nx a w) {i : Nat} (hn : ∀ r2 ∈ res, r2.i ≠ i) : p i = false := by
  cases hp : p i with
  | false => rfl
  | true => obtain ⟨r, h1, h2⟩ := h.sub i hp; exact absurd h2 (hn r h1)

theorem Inv.advance (h : Inv P T N ops A fr0 base g0 p res L nx a w) {i : Nat} {c : Prop} {r : Res} {L' : Ents} {nx' : Nat} (he : evalOp P T N ops A fr0 base res L nx i = some (c, r, L', nx')) (hp : r.pure = true) (hc : c) : Inv P T N ops A fr0 base g0 p (r :: res) L nx a w := by
  obtain ⟨hn, hs⟩ := h.node.add he hc
  obtain ⟨c0, st', s1, s2, s3, s4⟩ := hs.st
  have hst : st' = stOf A fr0 base res L nx i := stepA_pure (hs.pu ▸ hp) s1
  subst hst
  have hL : L' = L := s3.symm
  have hX : nx' = nx := s4.symm
  subst hL hX
  have hun : p r.i = false := by rw [hs.ri]; exact h.un hs.new
  refine ⟨hn, ?_, h.clo, fun j hj => ?_, fun r2 hr2 hpu => ?_, fun r2 hr2 hpu hu hg => ?_⟩
  · have : stX fr0 base p (r :: res) L' nx' = stX fr0 base p res L' nx' := by unfold stX; rw [frX_skip hun]
    rw [this]; exact h.holds
  · obtain ⟨r2, q1, q2⟩ := h.sub j hj
    exact ⟨r2, by simp [q1], q2⟩
  · rcases List.mem_cons.1 hr2 with rfl | hr2
    · rw [hp] at hpu; simp at hpu
    · exact h.muts r2 hr2 hpu
  · rcases List.mem_cons.1 hr2 with rfl | hr2
    · rw [stOf_skip (by rw [hs.ri]; intro hm; exact absurd (hs.av _ hm).1 (Nat.lt_irrefl _)), hs.ri]
      exact ⟨c0, _, s1, s2 hc hg, rfl, rfl⟩
    · rw [stOf_skip (by rw [hs.ri]; exact hs.nold r2 hr2)]
      exact h.run r2 hr2 hpu hu hg

theorem Inv.opPure (hT : T.Ok P) (h : Inv P T N ops A fr0 base g0 p res L nx a w) {r : Res} (hr : r ∈ res) (hpu : r.pure = true) (hun : p r.i = false) (hA : ∀ j ∈ A.getD r.i [], p j = true) {ro : Option Nat} {Q : Exit → Act → World → Prop} {K : Act → World → Prop}
    (hK : ∀ a' w', Inv P T N ops A fr0 base g0 (more p r.i) res L nx a' w' → K a' w') : wpOpIn (FW ro) 0 P ops Q r.i K a w := by
  obtain ⟨g, hg1, hg2⟩ := h.holds
  unfold wpOpIn
  simp only [(h.node.op r hr).1, h.node.wanted hg2 hr hA]
  cases hg : r.g with
  | false =>
    simp only [Bool.false_eq_true, if_false]
    refine ⟨fun _ _ => trivial, hK _ _ (h.next hr hA ⟨g, hg1, ?_⟩)⟩
    rw [hg]
    exact hg2.undef (h.node.op r hr).2
  | true =>
    simp only [if_true]
    obtain ⟨c, st', s1, s2, s3, s4⟩ := h.run r hr hpu hun hg
    have := Node.step (hT := hT) h.node hr hun h.clo hA (h.node.good r hr hg) (h.node.bd p) s1 s2 ro g a w hg2
    refine wpIn_anyQ ?_ this
    rintro a' w' ⟨g', st2, k1, k2, rfl⟩
    refine hK _ _ (h.next hr hA ⟨g', Gh.le_trans hg1 k1, ?_⟩)
    rw [hg]
    simp only [cond_true]
    have e : ({ stX fr0 base p res L nx with L := st'.L, nx := st'.nx } : St) = stX fr0 base p res L nx := by rw [s3, s4]; rfl
    rw [e] at k2
    exact k2

theorem againP_ok {all : List Res} : ∀ {rs : List Res}, againP P T A fr0 base all L nx rs → ∀ r ∈ rs, r.pure = true → (¬ ∃ m ∈ all, m.pure = false ∧ r.i ∈ A.getD m.i []) →
    ∃ c st', stepA P T (stOf A fr0 base all L nx r.i) r.o = some (c, r.x, st') ∧ (r.g = true → c) ∧ st'.L = L ∧ st'.nx = nx
  | [], _, r, hr, _, _ => by simp at hr
  | y :: rs, h, r, hr, hp, hs => by
    unfold againP at h
    cases hb : (y.pure && !(all.any (fun m => !m.pure && memB (A.getD m.i []) y.i))) with
    | true =>
      rw [hb] at h
      rcases List.mem_cons.1 hr with rfl | hr
      · have h1 := h.1
        split at h1 <;> try exact h1.elim
        rename_i c x st' q1 q2
        have hst := stepA_pure q1 q2
        refine ⟨c, st', by rw [q2, h1.2], h1.1, ?_, ?_⟩
        · rw [hst]; rfl
        · rw [hst]; rfl
      · exact againP_ok h.2 r hr hp hs
    | false =>
      rw [hb] at h
      rcases List.mem_cons.1 hr with rfl | hr
      · exfalso
        rw [hp] at hb
        simp only [Bool.true_and, Bool.not_eq_false', List.any_eq_true, Bool.and_eq_true, Bool.not_eq_true'] at hb
        obtain ⟨m, m1, m2, m3⟩ := hb
        exact hs ⟨m, m1, m2, memB_iff.1 m3⟩
      · exact againP_ok h r hr hp hs

theorem Inv.opMut (hT : T.Ok P) (h : Inv P T N ops A fr0 base g0 p res L nx a w) {m : Nat} {c : Prop} {r : Res} {L' : Ents} {nx' : Nat} (he : evalOp P T N ops A fr0 base res L nx m = some (c, r, L', nx')) (hpu : r.pure = false) (hc : c)
    (hag : againP P T A fr0 base (r :: res) L' nx' res) (hA : ∀ j ∈ A.getD m [], p j = true) {ro : Option Nat} {Q : Exit → Act → World → Prop} {K : Act → World → Prop}
    (hK : ∀ a' w', Inv P T N ops A fr0 base g0 (more p m) (r :: res) L' nx' a' w' → K a' w') : wpOpIn (FW ro) 0 P ops Q m K a w := by
  obtain ⟨g, hg1, hg2⟩ := h.holds
  obtain ⟨hn, hs⟩ := h.node.add he hc
  obtain ⟨c0, st', s1, s2, s3, s4⟩ := hs.st
  have hri := hs.ri
  subst hri
  have hun : p r.i = false := h.un hs.new
  have hg : r.g = true := hn.mg r (by simp) hpu
  have hskip : ∀ L nx, stX fr0 base p (r :: res) L nx = stX fr0 base p res L nx := fun L nx => by unfold stX; rw [frX_skip hun]
  have hskipA : stOf A fr0 base (r :: res) L nx r.i = stOf A fr0 base res L nx r.i := stOf_skip (fun hm => absurd (hs.av _ hm).1 (Nat.lt_irrefl _))
  have hwant : Region.wanted r.o (yielded ops a.tmps) = r.g := by
    exact hn.wanted (p := p) (g := g) (a := a) (w := w) (L0 := L) (nx0 := nx) (by rw [hskip]; exact hg2) (by simp) hA
  unfold wpOpIn
  simp only [(hn.op r (by simp)).1, hwant, hg, if_true]
  have := Node.step (hT := hT) (L0 := L) (nx0 := nx) hn (by simp : r ∈ r :: res) hun h.clo hA (hn.good r (by simp) hg) (by rw [hskip]; exact h.node.bd p) (by rw [hskipA]; exact s1) (s2 hc hg) ro g a w (by rw [hskip]; exact hg2)
  refine wpIn_anyQ ?_ this
  rintro a' w' ⟨g', st2, k1, k2, rfl⟩
  rw [s3, s4] at k2
  refine hK _ _ ⟨hn, ⟨g', Gh.le_trans hg1 k1, ?_⟩, ?_, ?_, ?_, ?_⟩
  · cases hd : r.o.dst with
    | none =>
      rw [hd] at k2
      refine Holds_fget (fun t => ?_) k2
      rw [frX_more hn.dd hn.ui (by simp) t, hd]
      simp [stX]
    | some d =>
      rw [hd] at k2
      refine Holds_fget (fr := (d, r.x) :: frX p fr0 (r :: res)) (dec := ddel [] d) (fun t => ?_) k2
      rw [frX_more hn.dd hn.ui (by simp) t, hd, fget_cons, hg]
      by_cases hdt : d = t
      · simp [hdt]
      · simp [hdt]
  · intro i hi j hj
    simp only [more, Bool.or_eq_true] at hi ⊢
    rcases hi with hi | hi
    · rw [← Nat.eq_of_beq_eq_true hi] at hj; exact .inr (hA j hj)
    · exact .inr (h.clo i hi j hj)
  · intro i hi
    simp only [more, Bool.or_eq_true] at hi
    rcases hi with hi | hi
    · exact ⟨r, by simp, Nat.eq_of_beq_eq_true hi⟩
    · obtain ⟨r2, q1, q2⟩ := h.sub i hi
      exact ⟨r2, by simp [q1], q2⟩
  · intro r2 hr2 hp
    rcases List.mem_cons.1 hr2 with rfl | hr2
    · simp [more]
    · simp [more, h.muts r2 hr2 hp]
  · intro r2 hr2 hp hu hg2
    simp only [more, Bool.or_eq_false_iff] at hu
    rcases List.mem_cons.1 hr2 with rfl | hr2
    · rw [hpu] at hp; simp at hp
    · obtain ⟨c1, st1, q1, q2, q3, q4⟩ := againP_ok hag r2 hr2 hp (fun ⟨m', m1, m2, m3⟩ => by
        rcases List.mem_cons.1 m1 with rfl | m1
        · rw [hA _ m3] at hu; simp at hu
        · rw [h.clo _ (h.muts m' m1 m2) _ m3] at hu; simp at hu)
      exact ⟨c1, st1, q1, q2 hg2, q3, q4⟩
end
end Go.Sym

/- A region, whatever the order of its operations: the whole of it; and in its written order. -/
set_option linter.unusedSimpArgs false
set_option linter.unusedVariables false
namespace Go.Sym
section
variable {P : Program} {T : Tab} {N : Nat} {ops : Array Oper} {A : List (List Nat)} {fr0 : List (Nat × SV)} {base : Nat} {g0 : Gh}

def Rdy (ops : Array Oper) (A : List (List Nat)) (p : Nat → Bool) (i : Nat) : Prop := i < ops.size ∧ p i = false ∧ ∀ j ∈ A.getD i [], p j = true

/-- A way to take operations: what it asks at each place. -/
structure Sched (P : Program) (ro : Option Nat) (ops : Array Oper) (A : List (List Nat)) (Q : Exit → Act → World → Prop) (Good : Nat → (Nat → Bool) → Prop) (W : Nat → (Nat → Bool) → Act → World → Prop) : Prop where
  zero : ∀ p a w, Good 0 p → ((∀ i, i < ops.size → p i = true) → Q .normal a w) → W 0 p a w
  succ : ∀ m p a w, Good (m + 1) p → (∀ i, p i = true → ∀ j ∈ A.getD i [], p j = true) → ((∀ i, i < ops.size → p i = true) → Q .normal a w) → (∀ i, Rdy ops A p i → wpOpIn (FW ro) 0 P ops Q i (W m (more p i)) a w) → W (m + 1) p a w
  good : ∀ m p i, Good (m + 1) p → Rdy ops A p i → Good m (more p i)

theorem VT_ok (hT : T.Ok P) {ro : Option Nat} {Q : Exit → Act → World → Prop} {Good : Nat → (Nat → Bool) → Prop} {W : Nat → (Nat → Bool) → Act → World → Prop} (hS : Sched P ro ops A Q Good W) {K : List Res → Ents → Nat → Prop}
    (hQ : ∀ res L nx p a w, K res L nx → (∀ i, i < ops.size → p i = true) → (∀ r ∈ res, p r.i = true) → Inv P T N ops A fr0 base g0 p res L nx a w → Q .normal a w) :
    ∀ (fuel : Nat) (res : List Res) (L : Ents) (nx : Nat) (pend : List Nat), VT P T N ops A fr0 base K fuel res L nx pend → (∀ i, i < ops.size → (∃ r ∈ res, r.i = i) ∨ i ∈ pend) → (∀ i ∈ pend, i < ops.size ∧ ∀ r ∈ res, r.i ≠ i) → (∀ r ∈ res, r.i < ops.size) →
      ∀ (m : Nat) (p : Nat → Bool) (a : Act) (w : World), Good m p → Inv P T N ops A fr0 base g0 p res L nx a w → W m p a w
  | 0, res, L, nx, pend, h, _, _, _, _, _, _, _, _, _ => h.elim
  | fuel + 1, res, L, nx, [], h, hp1, hp2, hp3, m, p, a, w, hG, hI => by
    have h : K res L nx := h
    induction m generalizing p a w with
    | zero => exact hS.zero p a w hG (fun hall => hQ res L nx p a w h hall (fun r hr => hall _ (hp3 r hr)) hI)
    | succ m ih =>
      refine hS.succ m p a w hG hI.clo (fun hall => hQ res L nx p a w h hall (fun r hr => hall _ (hp3 r hr)) hI) (fun i hi => ?_)
      rcases hp1 i hi.1 with ⟨r, hr, rfl⟩ | hm
      · have hpu : r.pure = true := by
          cases hpp : r.pure with
          | true => rfl
          | false => have := hI.muts r hr hpp; rw [hi.2.1] at this; simp at this
        exact hI.opPure hT hr hpu hi.2.1 hi.2.2 (fun a' w' hI' => ih _ a' w' (hS.good m p r.i hG hi) hI')
      · simp at hm
  | fuel + 1, res, L, nx, q :: ps, h, hp1, hp2, hp3, m, p, a, w, hG, hI => by
    unfold VT at h
    simp only at h
    have hrem : ∀ (i : Nat) (r : Res), r.i = i → i ∈ q :: ps → (∀ j, j < ops.size → (∃ r' ∈ r :: res, r'.i = j) ∨ j ∈ (q :: ps).filter (fun j => !(Nat.beq j i))) ∧ (∀ j ∈ (q :: ps).filter (fun j => !(Nat.beq j i)), j < ops.size ∧ ∀ r' ∈ r :: res, r'.i ≠ j) ∧ (∀ r' ∈ r :: res, r'.i < ops.size) := by
      intro i r hri hi
      refine ⟨fun j hj => ?_, fun j hj => ?_, fun r' hr' => ?_⟩
      · rcases hp1 j hj with ⟨r', h1, h2⟩ | h1
        · exact .inl ⟨r', by simp [h1], h2⟩
        · by_cases hji : j = i
          · exact .inl ⟨r, by simp, by rw [hri, hji]⟩
          · refine .inr (List.mem_filter.2 ⟨h1, ?_⟩)
            have : Nat.beq j i = false := by rw [Bool.eq_false_iff]; intro hb; exact hji (Nat.eq_of_beq_eq_true hb)
            simp [this]
      · obtain ⟨h1, h2⟩ := List.mem_filter.1 hj
        refine ⟨(hp2 j h1).1, fun r' hr' => ?_⟩
        rcases List.mem_cons.1 hr' with rfl | hr'
        · rw [hri]; intro hij
          rw [hij, Nat.beq_refl] at h2; simp at h2
        · exact (hp2 j h1).2 r' hr'
      · rcases List.mem_cons.1 hr' with rfl | hr'
        · rw [hri]; exact (hp2 i hi).1
        · exact hp3 r' hr'
    split at h
    · rename_i i hf
      have him := List.mem_of_find?_eq_some hf
      split at h <;> try exact h.elim
      rename_i c r L' nx' he
      split at h <;> try exact h.elim
      rename_i hpu
      have hri : r.i = i := (hI.node.add he h.1).2.ri
      obtain ⟨k1, k2, k3⟩ := hrem i r hri him
      exact VT_ok hT hS hQ fuel _ L nx _ h.2 k1 k2 k3 m p a w hG (hI.advance he hpu h.1)
    · rename_i hf
      split at h <;> try exact h.elim
      rename_i m0 ms0 hfil
      rw [← hfil] at h
      have hnone := List.find?_eq_none.1 hf
      have hqn : ¬ (∀ i, i < ops.size → p i = true) := by
        intro hall
        obtain ⟨h1, h2⟩ := hp2 q (by simp)
        have := hI.un h2
        rw [hall q h1] at this; simp at this
      induction m generalizing p a w with
      | zero => exact hS.zero p a w hG (fun hall => absurd hall hqn)
      | succ m ih =>
        refine hS.succ m p a w hG hI.clo (fun hall => absurd hall hqn) (fun i hi => ?_)
        rcases hp1 i hi.1 with ⟨r, hr, rfl⟩ | hm
        · have hpu : r.pure = true := by
            cases hpp : r.pure with
            | true => rfl
            | false => have := hI.muts r hr hpp; rw [hi.2.1] at this; simp at this
          exact hI.opPure hT hr hpu hi.2.1 hi.2.2 (fun a' w' hI' => ih _ a' w' (hS.good m p r.i hG hi) hI' (by
            intro hall
            obtain ⟨h1, h2⟩ := hp2 q (by simp)
            have := hI'.un h2
            rw [hall q h1] at this; simp at this))
        · have hav : availB A res i = true := by
            unfold availB
            rw [List.all_eq_true]
            intro j hj
            exact inR_iff.2 (hI.sub j (hi.2.2 j hj))
          have hnp := hnone i hm
          rw [hav, Bool.true_and] at hnp
          have hin : i ∈ (q :: ps).filter (availB A res) := List.mem_filter.2 ⟨hm, hav⟩
          have hh := AllP.mem h i hin
          split at hh <;> try exact hh.elim
          rename_i c r L' nx' he
          obtain ⟨hn, hs⟩ := hI.node.add he hh.1
          have hpu : r.pure = false := by
            rw [hs.pu]
            unfold pureAt at hnp
            rw [hs.op] at hnp
            simpa using hnp
          obtain ⟨k1, k2, k3⟩ := hrem i r hs.ri hm
          exact hI.opMut hT he hpu hh.1 hh.2.1 hi.2.2 (fun a' w' hI' => VT_ok hT hS hQ fuel _ L' nx' _ hh.2.2 k1 k2 k3 m _ a' w' (hS.good m p i hG hi) hI')
end
end Go.Sym
