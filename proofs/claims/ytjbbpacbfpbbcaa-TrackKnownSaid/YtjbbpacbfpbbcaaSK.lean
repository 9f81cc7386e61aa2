/- An own row becomes one that is only read. -/
import Derived.Test.YtjbbpacbfpbbcaaSJ
set_option linter.all false
set_option linter.unusedSimpArgs false
set_option linter.unusedVariables false
set_option linter.deprecated false
set_option linter.unusedSimpArgs false
set_option linter.unusedVariables false
namespace Go.Sym

mutual
/-- A value once the row i is only read: the condition; the value. -/
def fzV (i z n : Nat) (f : Nat → SV) : SV → Prop × SV
  | .sl j z' off len cap ex => cond (Nat.beq j i) (cond (Nat.beq z' z) (off + len ≤ n, .ro z len (fun k => rov (f (off + k))) false) (True, .any)) (True, .sl j z' off len cap ex)
  | .ptr j off => (True, cond (Nat.beq j i) .any (.ptr j off))
  | .elp j z' k off => (True, cond (Nat.beq j i) .any (.elp j z' k off))
  | .agg cs => ((fzL i z n f cs).1, .agg (fzL i z n f cs).2)
  | .tup cs => ((fzL i z n f cs).1, .tup (fzL i z n f cs).2)
  | .fn g fs cs => ((fzL i z n f fs).1 ∧ (fzL i z n f cs).1, .fn g (fzL i z n f fs).2 (fzL i z n f cs).2)
  | .v x => (True, .v x)
  | .ro a b c d => (True, .ro a b c d)
  | .own a b c => (True, .own a b c)
  | .rop cs => (True, .rop cs)
  | .any => (True, .any)
  | .yld j => (True, .yld j)
def fzL (i z n : Nat) (f : Nat → SV) : List SV → Prop × List SV
  | [] => (True, [])
  | x :: xs => ((fzV i z n f x).1 ∧ (fzL i z n f xs).1, (fzV i z n f x).2 :: (fzL i z n f xs).2)
end

def fzF (i z n : Nat) (f : Nat → SV) : List (Nat × SV) → Prop × List (Nat × SV)
  | [] => (True, [])
  | (t, x) :: xs => ((fzV i z n f x).1 ∧ (fzF i z n f xs).1, (t, (fzV i z n f x).2) :: (fzF i z n f xs).2)

def fzE (i z n : Nat) (f : Nat → SV) : Ent → Prop × Ent
  | .var cs => ((fzL i z n f cs).1, .var (fzL i z n f cs).2)
  | .row a b c => (True, .row a b c)
  | .rowo a b c k cs => ((fzL i z n f cs).1, .rowo a b c k (fzL i z n f cs).2)
  | .lp fr s => ((fzF i z n f fr).1, .lp (fzF i z n f fr).2 s)

def fzEs (i z n : Nat) (f : Nat → SV) : Ents → Prop × Ents
  | [] => (True, [])
  | (j, e) :: L => cond (Nat.beq j i) (fzEs i z n f L) ((fzE i z n f e).1 ∧ (fzEs i z n f L).1, (j, (fzE i z n f e).2) :: (fzEs i z n f L).2)

theorem fzL_length {i z n : Nat} {f : Nat → SV} : ∀ (xs : List SV), (fzL i z n f xs).2.length = xs.length
  | [] => rfl
  | x :: xs => by simp [fzL, fzL_length xs]

theorem fzL_get {i z n : Nat} {f : Nat → SV} : ∀ {xs : List SV} {j : Nat} {y : SV}, (fzL i z n f xs).1 → (fzL i z n f xs).2[j]? = some y → ∃ x, xs[j]? = some x ∧ (fzV i z n f x).1 ∧ y = (fzV i z n f x).2
  | [], j, y, hc, h => by simp [fzL] at h
  | x :: xs, 0, y, hc, h => by
    simp only [fzL, List.getElem?_cons_zero, Option.some.injEq] at h hc
    exact ⟨x, by simp, hc.1, h.symm⟩
  | x :: xs, j + 1, y, hc, h => by
    simp only [fzL, List.getElem?_cons_succ] at h hc
    obtain ⟨x', h1, h2⟩ := fzL_get hc.2 h
    exact ⟨x', by simpa using h1, h2⟩

theorem fzF_get {i z n : Nat} {f : Nat → SV} : ∀ {fr : List (Nat × SV)} {t : Nat}, (fzF i z n f fr).1 → (fzV i z n f (fget fr t)).1 ∧ fget (fzF i z n f fr).2 t = (fzV i z n f (fget fr t)).2
  | [], t, hc => by simp [fget, fzF, fzV]
  | (d, x) :: fr, t, hc => by
    simp only [fzF] at hc ⊢
    rw [fget_cons, fget_cons]
    by_cases hd : d = t
    · simp only [hd, if_true]; exact ⟨hc.1, trivial⟩
    · simp only [hd, if_false]; exact fzF_get hc.2

theorem fzEs_mem {i z n : Nat} {f : Nat → SV} : ∀ {L : Ents} {j : Nat} {e' : Ent}, (fzEs i z n f L).1 → (j, e') ∈ (fzEs i z n f L).2 → j ≠ i ∧ ∃ e, (j, e) ∈ L ∧ (fzE i z n f e).1 ∧ e' = (fzE i z n f e).2
  | [], j, e', hc, h => by simp [fzEs] at h
  | (j0, e0) :: L, j, e', hc, h => by
    simp only [fzEs] at hc h
    cases hb : Nat.beq j0 i with
    | true =>
      rw [hb] at hc h
      obtain ⟨h1, e, h2, h3⟩ := fzEs_mem hc h
      exact ⟨h1, e, List.mem_cons_of_mem _ h2, h3⟩
    | false =>
      rw [hb] at hc h
      simp only [cond_false] at hc h
      rcases List.mem_cons.1 h with h | h
      · cases h
        exact ⟨fun hji => by rw [hji, Nat.beq_refl] at hb; simp at hb, e0, by simp, hc.1, rfl⟩
      · obtain ⟨h1, e, h2, h3⟩ := fzEs_mem hc.2 h
        exact ⟨h1, e, List.mem_cons_of_mem _ h2, h3⟩

theorem fzEs_keys {i z n : Nat} {f : Nat → SV} : ∀ (L : Ents), List.Sublist ((fzEs i z n f L).2.map (·.1)) (L.map (·.1))
  | [] => by simp [fzEs]
  | (j0, e0) :: L => by
    have ih := fzEs_keys (i := i) (z := z) (n := n) (f := f) L
    simp only [fzEs]
    cases Nat.beq j0 i with
    | true => simp only [cond_true, List.map_cons]; exact .cons _ ih
    | false => simp only [cond_false, List.map_cons]; exact ih.cons_cons _

section
variable {ρ : Nat → Nat × Nat} {g : Gh} {w : World} {L : Ents} {Fp : Nat → List Nat}

/-- What a slice of the row i becomes. -/
def SlOk (ρ : Nat → Nat × Nat) (G G' : Heap) (i z n : Nat) (f : Nat → SV) : Prop :=
  ∀ (off len cap : Nat) (ex : Bool) (u : Value), off + len ≤ n → (SV.sl i z off len cap ex).R ρ G u → (SV.ro z len (fun k => rov (f (off + k))) false).R ρ G' u

theorem SlOk.of_row (hm : Mem ρ g w L Fp) {G' : Heap} (hG : Heap.le g.G G') {i z n : Nat} {f : Nat → SV} (hi : L.get i = some (.row z n f)) (hF : ∀ b ∈ Fp i, ∀ o, World.H w b = some o → G' b = some o) : SlOk ρ g.G G' i z n f := by
  intro off len cap ex u hc hx
  have := view_sl hm hG hx hi hF hc (H' := fun _ => none)
  simpa only [SV.R] using this

mutual
theorem fzV_ok {G G' : Heap} (hG : Heap.le G G') {i z n : Nat} {f : Nat → SV} (hs : SlOk ρ G G' i z n f) :
    ∀ (x : SV) {u : Value}, (fzV i z n f x).1 → x.R ρ G u → (fzV i z n f x).2.R ρ G' u
  | .sl j z' off len cap ex, u, hc, hx => by
    simp only [fzV] at hc ⊢
    cases hb : Nat.beq j i with
    | false => exact SV.R_mono hG _ _ (fun _ _ => rfl) hx
    | true =>
      rw [hb] at hc
      cases hz : Nat.beq z' z with
      | false => simp [SV.R]
      | true =>
        rw [hz] at hc
        simp only [cond_true] at hc ⊢
        obtain rfl := Nat.eq_of_beq_eq_true hb
        obtain rfl := Nat.eq_of_beq_eq_true hz
        exact hs _ _ _ _ _ hc hx
  | .ptr j off, u, hc, hx => by
    simp only [fzV] at hc ⊢
    cases Nat.beq j i with
    | false => exact SV.R_mono hG _ _ (fun _ _ => rfl) hx
    | true => simp [SV.R]
  | .elp j z' k off, u, hc, hx => by
    simp only [fzV] at hc ⊢
    cases Nat.beq j i with
    | false => exact SV.R_mono hG _ _ (fun _ _ => rfl) hx
    | true => simp [SV.R]
  | .agg cs, u, hc, hx => by
    simp only [fzV, SV.R] at hc hx ⊢
    obtain ⟨us, rfl, h⟩ := hx
    exact ⟨us, rfl, fzL_ok hG hs cs hc h⟩
  | .tup cs, u, hc, hx => by
    simp only [fzV, SV.R] at hc hx ⊢
    obtain ⟨us, rfl, h⟩ := hx
    exact ⟨us, rfl, fzL_ok hG hs cs hc h⟩
  | .fn g fs cs, u, hc, hx => by
    simp only [fzV, SV.R] at hc hx ⊢
    obtain ⟨us, vs, rfl, h1, h2⟩ := hx
    exact ⟨us, vs, rfl, fzL_ok hG hs fs hc.1 h1, fzL_ok hG hs cs hc.2 h2⟩
  | .v x, u, hc, hx => SV.R_mono hG _ _ (fun _ _ => rfl) hx
  | .ro a b c d, u, hc, hx => SV.R_mono hG _ _ (fun _ _ => rfl) hx
  | .own a b c, u, hc, hx => SV.R_mono hG _ _ (fun _ _ => rfl) hx
  | .rop cs, u, hc, hx => SV.R_mono hG _ _ (fun _ _ => rfl) hx
  | .any, u, hc, hx => by simp [fzV, SV.R]
  | .yld j, u, hc, hx => SV.R_mono hG _ _ (fun _ _ => rfl) hx
theorem fzL_ok {G G' : Heap} (hG : Heap.le G G') {i z n : Nat} {f : Nat → SV} (hs : SlOk ρ G G' i z n f) :
    ∀ (xs : List SV) {us : List Value}, (fzL i z n f xs).1 → SV.RL ρ G xs us → SV.RL ρ G' (fzL i z n f xs).2 us
  | [], us, hc, hx => by simpa [fzL, SV.RL] using hx
  | x :: xs, us, hc, hx => by
    simp only [fzL, SV.RL] at hc hx ⊢
    obtain ⟨u, rest, rfl, h1, h2⟩ := hx
    exact ⟨u, rest, rfl, fzV_ok hG hs x hc.1 h1, fzL_ok hG hs xs hc.2 h2⟩
end

theorem fzE_ok {G G' : Heap} (hG : Heap.le G G') {i z n : Nat} {f : Nat → SV} (hs : SlOk ρ G G' i z n f)
    {S : Sts} {H : Heap} {j : Nat} {F : List Nat} : ∀ (e : Ent), (fzE i z n f e).1 → EntR ρ G S H j e F → EntR ρ G' S H j (fzE i z n f e).2 F
  | .var cs, hc, h => by
    simp only [fzE] at hc ⊢
    obtain ⟨c, e, fr, h1, h2, h3, h4, h5, h6⟩ := h
    refine ⟨c, e, fr, h1, h2, h3, by rw [fzL_length]; exact h4, h5, fun q y hy => ?_⟩
    obtain ⟨x, k1, k2, rfl⟩ := fzL_get hc hy
    obtain ⟨u, hu, ho, hr⟩ := h6 q x k1
    exact ⟨u, hu, ho, fzV_ok hG hs x k2 hr⟩
  | .row a b c, hc, h => h.mono hG rfl (fun _ _ => rfl) rfl (fun _ _ => rfl)
  | .rowo a b c k cs, hc, h => by
    simp only [fzE] at hc ⊢
    obtain ⟨c, e, fr, gg, h1, h2, h3, h4, h5, h6, h7, h8, h9, h10⟩ := h
    refine ⟨c, e, fr, gg, h1, h2, h3, h4, h5, h6, by rw [fzL_length]; exact h7, h8, fun q hq hne => SV.C_mono hG _ _ _ _ (fun _ _ => rfl) (h9 q hq hne), fun q y hy => ?_⟩
    obtain ⟨x, k1, k2, rfl⟩ := fzL_get hc hy
    obtain ⟨u, hu, ho, hr⟩ := h10 q x k1
    exact ⟨u, hu, ho, fzV_ok hG hs x k2 hr⟩
  | .lp fr s, hc, h => by
    simp only [fzE] at hc ⊢
    obtain ⟨r, h1, h2, h3, h4, h5, h6, h7, h8⟩ := h
    refine ⟨r, h1, h2, h3, h4, h5, h6, fun t => ?_, h8⟩
    obtain ⟨k1, k2⟩ := fzF_get (t := t) hc
    rw [k2]
    exact fzV_ok hG hs _ k1 (h7 t)

/-- The blocks of an entry, among those that stay as they are. -/
def Gh.frz (g : Gh) (w : World) (F : List Nat) : Gh := { g with G := fun b => if b ∈ F then World.H w b else g.G b, B := fun b => if b ∈ F then World.H w b else g.B b }

theorem Gh.le_frz (hm : Mem ρ g w L Fp) {i : Nat} {e : Ent} (hi : (i, e) ∈ L) : g.le (g.frz w (Fp i)) := by
  have hb : ∀ b o, g.B b = some o → b ∉ Fp i := fun b o h hf => by rw [hm.nb i e hi b hf] at h; simp at h
  refine ⟨rfl, rfl, rfl, rfl, rfl, fun b o h => ?_, fun b o h => ?_, fun b o h => ?_⟩
  · simp only [Gh.frz, hb b o (hm.gb b o h), if_false]; exact h
  · simp only [Gh.frz, hb b o h, if_false]; exact h
  · simp only [Gh.frz] at h
    by_cases hf : b ∈ Fp i
    · exact .inr (hm.nb i e hi b hf)
    · simp only [hf, if_false] at h; exact .inl h

/-- The blocks of an entry stay as they are from then on; the other entries are told otherwise. -/
theorem Mem.frzG (hm : Mem ρ g w L Fp) {i : Nat} {e0 : Ent} (hmi : (i, e0) ∈ L) {L2 : Ents} (hk : (L2.map (·.1)).Nodup)
    (hL : ∀ j e', (j, e') ∈ L2 → j ≠ i ∧ ∃ e, (j, e) ∈ L ∧ EntR ρ (g.frz w (Fp i)).G g.S (World.H w) j e' (Fp j)) : Mem ρ (g.frz w (Fp i)) w L2 Fp := by
  refine ⟨hk, ?_, ?_, ?_, ?_, ?_, ?_, hm.os, hm.out, hm.tape⟩
  · intro j e' hj
    obtain ⟨hne, e, h1, h2⟩ := hL j e' hj
    exact h2
  · intro j e' hj
    obtain ⟨hne, e, h1, _⟩ := hL j e' hj
    exact hm.nd j e h1
  · intro j e' hj b hb
    obtain ⟨hne, e, h1, _⟩ := hL j e' hj
    simp only [Gh.frz, hm.dj j e i _ h1 hmi hne b hb, if_false]
    exact hm.nb j e h1 b hb
  · intro j e' k e'' hj hk hne
    obtain ⟨_, e, h1, _⟩ := hL j e' hj
    obtain ⟨_, e2, h2, _⟩ := hL k e'' hk
    exact hm.dj j e k e2 h1 h2 hne
  · intro b o h
    simp only [Gh.frz] at h ⊢
    by_cases hf : b ∈ Fp i
    · simp only [hf, if_true] at h ⊢; exact h
    · simp only [hf, if_false] at h ⊢; exact hm.gb b o h
  · intro b o h
    simp only [Gh.frz] at h
    by_cases hf : b ∈ Fp i
    · simp only [hf, if_true] at h; exact h
    · simp only [hf, if_false] at h; exact hm.bw b o h

theorem Mem.frz (hm : Mem ρ g w L Fp) {i z n : Nat} {f : Nat → SV} (hi : L.get i = some (.row z n f)) (hc : (fzEs i z n f L).1) : Mem ρ (g.frz w (Fp i)) w (fzEs i z n f L).2 Fp := by
  have hmi := Ents.mem_of_get hi
  have hle := Gh.le_frz hm hmi
  have hF : ∀ b ∈ Fp i, ∀ o, World.H w b = some o → (g.frz w (Fp i)).G b = some o := fun b hb o ho => by simp only [Gh.frz, hb, if_true]; exact ho
  refine hm.frzG hmi (hm.keys.sublist (fzEs_keys L)) (fun j e' hj => ?_)
  obtain ⟨hne, e, h1, h2, rfl⟩ := fzEs_mem hc hj
  exact ⟨hne, e, h1, fzE_ok hle.G (.of_row hm hle.G hi hF) e h2 (hm.ent j e h1)⟩
end

/-- A state once the row i is only read. -/
def frzS (st : St) (i : Nat) : Option (Prop × St) :=
  match st.L.get i with
  | some (.row z n f) => some ((fzEs i z n f st.L).1 ∧ (fzF i z n f st.fr).1, { st with fr := (fzF i z n f st.fr).2, L := (fzEs i z n f st.L).2 })
  | _ => none

theorem Holds.frz {N : Nat} {st st' : St} {g : Gh} {a : Act} {w : World} {i : Nat} {c : Prop} (hh : Holds N st g a w) (h : frzS st i = some (c, st')) (hc : c) : ∃ g', g.le g' ∧ Holds N st' g' a w := by
  unfold frzS at h
  split at h <;> try (simp at h; done)
  rename_i z n f hi
  simp only [Option.some.injEq, Prod.mk.injEq] at h
  obtain ⟨rfl, rfl⟩ := h
  obtain ⟨ρ, Fp, ms, hg⟩ := hh
  have hmi := Ents.mem_of_get hi
  have hle := Gh.le_frz hg.mem hmi
  have hF : ∀ b ∈ Fp i, ∀ o, World.H w b = some o → (g.frz w (Fp i)).G b = some o := fun b hb o ho => by simp only [Gh.frz, hb, if_true]; exact ho
  refine ⟨_, hle, ρ, Fp, ms, hg.mem.frz hi hc.1, fun t => ?_, hg.dec, hg.size, hg.defers, ⟨hg.marks.at_, fun m hm => ?_, fun m hm j e' hj => ?_, hg.marks.nd⟩, hg.base⟩
  · obtain ⟨k1, k2⟩ := fzF_get (t := t) hc.2
    rw [k2]
    exact fzV_ok hle.G (.of_row hg.mem hle.G hi hF) _ k1 (hg.frm t)
  · simp only [Gh.frz, hg.marks.nf m hm i _ hmi, if_false]
    exact hg.marks.nb m hm
  · obtain ⟨_, e, h1, _⟩ := fzEs_mem hc.1 hj
    exact hg.marks.nf m hm j e h1

/-- A contract's first entry, if it is a row, is only read from then on. -/
theorem SpecF.frz {P : Program} {f : FuncId} {xs : List SV} {L : Ents} {base : Nat} {x : SV} {L' : Ents} (h : SpecF P f xs L base x L') {i z n : Nat} {q : Nat → SV} (hi : L'.get i = some (.row z n q)) (h1 : (fzEs i z n q L').1) (h2 : (fzV i z n q x).1) :
    SpecF P f xs L base (fzV i z n q x).2 (fzEs i z n q L').2 := by
  intro g ρ Fp w us hus hm
  refine CallsIn.mono (h g ρ Fp w us hus hm) ?_
  rintro e w' ⟨v, rfl, g', ρ', Fp', k1, k2, k3, k4⟩
  have hmi := Ents.mem_of_get hi
  have hle := Gh.le_frz k2 hmi
  have hF : ∀ b ∈ Fp' i, ∀ o, World.H w' b = some o → (g'.frz w' (Fp' i)).G b = some o := fun b hb o ho => by simp only [Gh.frz, hb, if_true]; exact ho
  exact ⟨v, rfl, _, ρ', Fp', Gh.le_trans k1 hle, k2.frz hi h1, fzV_ok hle.G (.of_row k2 hle.G hi hF) x h2 k3, k4⟩
end Go.Sym

/- Steps that the program does not take: the state is told otherwise. -/
set_option linter.unusedSimpArgs false
set_option linter.unusedVariables false
namespace Go.Sym

/-- What is told otherwise: frz t: the row that the slot t names is only read from then on; le F: a weaker state. -/
inductive GI where
  | frz (t : Nat)
  | le (F : St → St)

def ghS : GI → St → Option (Prop × St)
  | .frz t, st => match fget st.fr t with
    | .sl i _ _ _ _ _ => frzS st i
    | _ => none
  | .le F, st => some (LeP st (F st), F st)

def GHs : List GI → St → (St → Prop) → Prop
  | [], st, K => K st
  | i :: is, st, K => match ghS i st with
    | some (c, st') => c ∧ GHs is st' K
    | none => False

theorem ghS_ok {i : GI} {N : Nat} {st st' : St} {g : Gh} {a : Act} {w : World} {c : Prop} (hh : Holds N st g a w) (h : ghS i st = some (c, st')) (hc : c) : ∃ g', g.le g' ∧ Holds N st' g' a w := by
  cases i with
  | frz t =>
    simp only [ghS] at h
    split at h <;> try (simp at h; done)
    exact hh.frz h hc
  | le F =>
    simp only [ghS, Option.some.injEq, Prod.mk.injEq] at h
    obtain ⟨rfl, rfl⟩ := h
    exact ⟨g, Gh.le_refl g, LeP_ok hc g a w hh⟩

theorem GHs_mono {K K' : St → Prop} (hK : ∀ st, K st → K' st) : ∀ {l : List GI} {st : St}, GHs l st K → GHs l st K'
  | [], st, h => hK _ h
  | i :: is, st, h => by
    simp only [GHs] at h ⊢
    split at h <;> try exact h.elim
    exact ⟨h.1, GHs_mono hK h.2⟩

theorem GHs_ok {N : Nat} {K : St → Prop} : ∀ {l : List GI} {st : St} {g : Gh} {a : Act} {w : World}, GHs l st K → Holds N st g a w → ∃ g' st', g.le g' ∧ Holds N st' g' a w ∧ K st'
  | [], st, g, a, w, h, hh => ⟨g, st, Gh.le_refl g, hh, h⟩
  | i :: is, st, g, a, w, h, hh => by
    simp only [GHs] at h
    split at h <;> try exact h.elim
    rename_i c st' hs
    obtain ⟨g1, h1, h2⟩ := ghS_ok hh hs h.1
    obtain ⟨g2, st2, k1, k2, k3⟩ := GHs_ok h.2 h2
    exact ⟨g2, st2, Gh.le_trans h1 k1, k2, k3⟩

theorem WPe_gh {P : Program} {r : Option Nat} {N : Nat} {env : List YH} {c : Code} {Q : Exit → St → Prop} {l : List GI} {st : St} (h : GHs l st (fun st' => WPe P r N env c st' Q)) : WPe P r N env c st Q := by
  intro g a w he hg
  obtain ⟨g', st', h1, h2, h3⟩ := GHs_ok h hg
  exact wpIn_mono (h3 g' a w (he.le h1) h2) (fun e a w hp => Post_le h1 hp)
end Go.Sym

/- An append behind which the elder slice lives on: both are only read from then on. -/
set_option linter.unusedSimpArgs false
set_option linter.unusedVariables false
namespace Go.Sym

/-- The state without the row k and the row j. -/
def appKst (st : St) (k j z n : Nat) (f : Nat → SV) : St := { st with fr := (fzF k z n f st.fr).2, L := (fzEs k z n f st.L).2.del j }
/-- The state with the row k only read, and the slice that is appended to known to have no room. -/
def appK1 (st : St) (t k z n len : Nat) (f : Nat → SV) : St := { st with fr := (t, .ro z len (fun q => rov (f (0 + q))) true) :: (fzF k z n f st.fr).2, L := (fzEs k z n f st.L).2 }

def opSlot : Operand → Option Tmp
  | .tmp t => some t
  | _ => none

def sAppK (P : Program) (st : St) (ts : Array TypeId) (xo yo : Operand) : Option (Prop × SV × St) :=
  match ts.toList with
  | [t, xt] =>
    match P.underlying t with
    | some (.slice e) => match P.info? e with
      | some i => match i.zero with
        | some zv =>
          match xo, st.ev xo, st.ev yo with
          | .tmp s, .sl k z off len cap ex, .sl j z2 off2 m cap2 ex2 =>
            match st.L.get k, st.L.get j with
            | some (.row z' n f), some (.row z3 n2 gg) =>
              if st.fresh = true ∧ 0 < i.size ∧ 0 < i.bytes ∧ zv.cells.size = i.size ∧ notIntT (P.underlying xt) = true ∧ (appK1 st s k z n len f).fresh = true ∧ z = i.size ∧ z' = z ∧ z2 = z ∧ z3 = z ∧ off = 0 ∧ off2 = 0 ∧ ex2 = true ∧ j ≠ k ∧ m = 1 ∧ opSlot yo ≠ some s then
                some (len = n ∧ m ≤ n2 ∧ (len + m) * i.bytes ≤ 140737488355328 ∧ (fzEs k z n f st.L).1 ∧ (fzF k z n f st.fr).1, .ro z (len + m) (fun q => rov (comb f gg len q)) false, appKst st k j z n f)
              else none
            | _, _ => none
          | _, _, _ => none
        | none => none
      | none => none
    | _ => none
  | _ => none

/-- Bytes told to be bytes: the block is marked behind its end. -/
def sSlConv (P : Program) (st : St) (s d : TypeId) (x : SV) : Option (Prop × SV × St) :=
  match P.underlying s, P.underlying d, x with
  | some (.slice _), some (.slice e), .sl k z off len cap ex =>
    match P.underlying e, st.L.get k with
    | some (.int .u8), some (.row z' n f) => if (s == d) = true ∧ z = 1 then some (0 < len, .sl k z off len cap ex, st) else none
    | _, _ => none
  | _, _, _ => none

theorem snd_slConv {P : Program} {N : Nat} {o : Oper} {st st' : St} {s d : TypeId} {x : Operand} {c : Prop} {r : SV} (ho : o.op = .convert s d x) (h : sSlConv P st s d (st.ev x) = some (c, r, st')) (hc : c) : Snd P N o st st' r := by
  intro g a w ρ Fp ms hg
  have hx := frm_ev hg.frm x
  unfold sSlConv at h
  split at h <;> try (simp at h; done)
  rename_i e0 e k z off len cap ex hs hd hxe
  split at h <;> try (simp at h; done)
  rename_i z' n f he hk
  split at h <;> try (simp at h; done)
  rename_i hsd
  obtain ⟨hsd, rfl⟩ := hsd
  simp only [Option.some.injEq, Prod.mk.injEq] at h
  obtain ⟨rfl, rfl, rfl⟩ := h
  rw [hxe] at hx
  have hx1 := hx
  simp only [SV.R] at hx
  obtain ⟨A, cc, hxv, p1, p2, _, p4, p5⟩ := hx
  have hA := p4.resolve_left (by omega)
  subst hA
  have hmk := Ents.mem_of_get hk
  rcases hg.mem.ent k _ hmk with ⟨h1, h0, h2⟩ | ⟨cur, et, fr, gi, hb, hcs, hwr, hns, hFp, hr⟩
  · omega
  have hnd := hg.mem.nd k _ hmk
  rw [hFp] at hnd
  have hgn : ∀ q, q < n → ∀ b ∈ gi q, b ≠ (ρ k).1 := fun q hq b hbq hbb => (List.nodup_cons.1 hnd).1 (hbb ▸ mem_flat.2 ⟨q, hq, hbq⟩)
  let w' := w.freeze ⟨(ρ k).1, cur.size, none⟩ 1
  let fr' : Nat × Nat := if fr.1 == fr.2 then (cur.size, cur.size + 1) else (min fr.1 cur.size, max fr.2 (cur.size + 1))
  have hH : World.H w' (ρ k).1 = some (.cells cur et fr') := by
    simp only [World.H] at hb ⊢
    simp only [w', World.freeze]
    rw [if_neg (by omega)]
    simp only [Array.getElem?_modify, if_true, hb, Option.map_some]
    rfl
  have hHo : ∀ b, b ≠ (ρ k).1 → World.H w' b = World.H w b := by
    intro b hbb
    simp only [World.H, w', World.freeze]
    rw [if_neg (by omega)]
    simp only [Array.getElem?_modify]
    rw [if_neg (fun h => hbb h.symm)]
  have hwr' : Wr cur.size fr' := by
    simp only [fr', Wr]
    by_cases hf : (fr.1 == fr.2) = true
    · rw [if_pos hf]; exact .inr (Nat.le_refl _)
    · rw [if_neg hf]
      rcases hwr with h | h
      · exact absurd (by simpa using h) hf
      · exact .inr (by show cur.size ≤ min fr.1 cur.size; omega)
  have hent : EntR ρ g.G g.S (World.H w') k (.row z' n f) (Fp k) := by
    refine .inr ⟨cur, et, fr', gi, hH, hcs, hwr', hns, hFp, fun q hq => ?_⟩
    exact SV.C_mono (Heap.le_refl _) _ _ _ _ (fun b hbq => hHo b (hgn q hq b hbq)) (hr q hq)
  have hmem := hg.mem.turn (ρ' := ρ) (w' := w') (L' := st.L) k (.row z' n f) (Fp k) (fun j e hj => by
      by_cases hjk : j = k
      · subst hjk
        have : Ents.get st.L j = some e := by
          obtain ⟨e', he'⟩ : ∃ e', st.L.get j = some e' := ⟨_, hk⟩
          have hkeys := hg.mem.keys
          exact Ents.get_of_mem hkeys hj
        rw [hk] at this
        exact .inl ⟨rfl, (Option.some.inj this).symm⟩
      · exact .inr ⟨hj, hjk⟩) hg.mem.keys (fun _ _ _ _ => ⟨rfl, fun _ _ => rfl⟩)
    (fun b hbl hbn => hHo b (fun hbb => by
      rcases hbn with hbn | hbn
      · exact hbn (by rw [hFp, hbb]; simp)
      · exact hbn _ hmk)) hent (hg.mem.nd k _ hmk) (fun b hb => .inl ⟨hb, _, hmk⟩) (by simp [w', World.freeze]) (by simp [w', World.freeze]) (by simp [w', World.freeze])
  have hFpe : (fun j => if j = k then Fp k else Fp j) = Fp := by funext j; by_cases hjk : j = k <;> simp [hjk]
  rw [hFpe] at hmem
  refine ⟨_, w', ρ, Fp, .inl ?_, hmem, hg.frm, Same.refl _ _, hg.marks.keep (fun m hm => ?_) hg.marks.nf, by rw [hxv] at hx1; exact hx1⟩
  · have hsh : w.shape? (ρ k).1 = some (et, cur.size) := by
      have : w.heap[(ρ k).1]? = some (.cells cur et fr) := hb
      simp only [World.shape?, this]
    have hsd' : (s == d) = true := hsd
    simp [execOp, ho, hxv, convert, run_underlying hs, run_underlying hd, run_underlying he, hsd', markStringish, hsh, w']
  · exact hHo m (fun hmb => hg.marks.nf m hm k _ hmk (by rw [hFp, hmb]; simp))

def stepKp (P : Program) (st : St) (o : Oper) : Option (Prop × SV × St) :=
  match o.op with
  | .call { callee := .builtin .append, args, argTypes } => match args.toList with
    | [x, y] => sAppK P st argTypes x y
    | _ => none
  | .convert s d x => sSlConv P st s d (st.ev x)
  | _ => none

theorem ro_congr {ρ : Nat → Nat × Nat} {G : Heap} {z n : Nat} {f h : Nat → SV} {ex : Bool} {u : Value} (hx : (SV.ro z n f ex).R ρ G u) (he : ∀ q, q < n → f q = h q) : (SV.ro z n h ex).R ρ G u := by
  simp only [SV.R, SV.C] at hx ⊢
  obtain ⟨h1, h2, A, c, h3, h4, h5, h6⟩ := hx
  refine ⟨h1, h2, A, c, h3, h4, h5, ?_⟩
  rcases h6 with h6 | ⟨b, o, cs, e, fr, h7, h8, h9⟩
  · exact .inl h6
  · exact .inr ⟨b, o, cs, e, fr, h7, h8, fun k hk => by rw [← he k hk]; exact h9 k hk⟩

mutual
theorem rov_rov : ∀ (x : SV), rov (rov x) = rov x
  | .own z n f => rfl
  | .agg cs => by simp only [rov, rovL_rovL cs]
  | .v x => rfl
  | .ptr i off => rfl
  | .elp i z k off => rfl
  | .sl i z off len cap ex => rfl
  | .ro z n f ex => rfl
  | .rop cs => rfl
  | .fn f fs cs => rfl
  | .tup cs => rfl
  | .any => rfl
  | .yld i => rfl
theorem rovL_rovL : ∀ (xs : List SV), rovL (rovL xs) = rovL xs
  | [] => rfl
  | x :: xs => by simp only [rovL, rov_rov x, rovL_rovL xs]
end

theorem fzEs_get {i z n : Nat} {f : Nat → SV} : ∀ {L : Ents} {j : Nat} {z3 n2 : Nat} {gg : Nat → SV}, j ≠ i → L.get j = some (.row z3 n2 gg) → (fzEs i z n f L).2.get j = some (.row z3 n2 gg)
  | [], j, z3, n2, gg, hne, h => by simp [Ents.get] at h
  | (j0, e0) :: L, j, z3, n2, gg, hne, h => by
    simp only [fzEs]
    by_cases hj : j0 = j
    · subst hj
      have : Nat.beq j0 i = false := by rw [Bool.eq_false_iff]; intro hb; exact hne (Nat.eq_of_beq_eq_true hb)
      rw [this]
      simp [Ents.get] at h ⊢
      subst h
      rfl
    · have h' : Ents.get L j = some (.row z3 n2 gg) := by simpa [Ents.get, hj] using h
      have ih := fzEs_get (z := z) (n := n) (f := f) hne h'
      cases Nat.beq j0 i with
      | true => exact ih
      | false => simpa [Ents.get, hj] using ih

/-- The frame and the memory when a new row comes that is only read at once. -/
theorem Cfg.putG {N : Nat} {st st' : St} {g g' : Gh} {a : Act} {w w' : World} {ρ ρ' : Nat → Nat × Nat} {Fp Fp' : Nat → List Nat} {ms : List Nat} (h : Cfg N st g a w ρ Fp ms) (hle : g.le g') (hmem : Mem ρ' g' w' st'.L Fp')
    (hfrm : Frm ρ' g'.G st'.fr a.tmps) (hdec : st'.dec = st.dec) (hbase : st'.base = st.base) (hρ : ∀ i, i < st.base → ρ' i = ρ i) (hmk : Marks g' w' st'.L Fp' ms) {dst : Option Tmp} (hd : ∀ d, dst = some d → d < N) {x : SV} {u : Value} (hx : x.R ρ' g'.G u) :
    Cfg N (st'.put dst x) g' (a.put dst u) w' ρ' Fp' ms := by
  have hb : ∀ i, i < st'.base → ρ' i = g'.ρ0 i := fun i hi => by rw [hle.ρ0]; exact (hρ i (hbase ▸ hi)).trans (h.base i (hbase ▸ hi))
  cases dst with
  | none => exact ⟨hmem, hfrm, by rw [show (st'.put none x).dec = st'.dec from rfl, hdec]; exact h.dec, h.size, h.defers, hmk, hb⟩
  | some d =>
    refine ⟨hmem, frm_put hfrm (by rw [h.size]; exact hd d rfl) hx, ?_, by simp [Act.put, h.size], h.defers, hmk, hb⟩
    show Dec (ddel st'.dec d) _
    rw [hdec]
    exact dec_put h.dec d u

theorem appK_ok {P : Program} {r : Option Nat} {N : Nat} {o : Oper} {st st' : St} {ts : Array TypeId} {xo yo : Operand} {c : Prop} {x : SV} {K : St → Prop} (ho : o.op = .call { callee := .builtin .append, args := #[xo, yo], argTypes := ts })
    (h : sAppK P st ts xo yo = some (c, x, st')) (hc : c) (hd : ∀ d, o.dst = some d → d < N) (hK : K (st'.put o.dst x)) : WPop P r N o st K := by
  unfold sAppK at h
  split at h <;> try (simp at h; done)
  rename_i t xt hts
  have hts' := list_of_args hts
  subst hts'
  split at h <;> try (simp at h; done)
  rename_i e hu
  split at h <;> try (simp at h; done)
  rename_i i hi
  split at h <;> try (simp at h; done)
  rename_i zv hzv
  split at h <;> try (simp at h; done)
  rename_i s k z off len cap ex j z2 off2 m cap2 ex2 hye hxe
  split at h <;> try (simp at h; done)
  rename_i z' n f z3 n2 gg hk hj
  split at h <;> try (simp at h; done)
  rename_i hcond
  obtain ⟨hfresh, hz, hbytes, hzs, hxt, hfresh1, rfl, rfl, rfl, rfl, rfl, rfl, rfl, hjk, rfl, hsy⟩ := hcond
  simp only [Option.some.injEq, Prod.mk.injEq] at h
  obtain ⟨rfl, rfl, rfl⟩ := h
  obtain ⟨rfl, hn2, hfit, hc1, hc2⟩ := hc
  rintro g a w ⟨ρ, Fp, ms, hg⟩
  refine ⟨fun _ _ => trivial, ?_⟩
  rw [Oper.semAt_eq _ _ _ (by rw [ho]; intro c; simp)]
  have hexec : ∀ {u : Value} {w' : World}, (Builtin.append_ #[t, xt] o.type #[a.eval (.tmp s), a.eval yo]).run P w = .ok u w' → (execOp a.eval o).run P w = .ok (.value u) w' := by
    intro u w' hr
    simp [execOp, ho, resolve, invoke, builtin, hr]
  have hbase : st.base ≤ st.nx := by
    simp only [St.fresh, Bool.and_eq_true, Nat.ble_eq] at hfresh; exact hfresh.2
  have hLnx : ∀ q e, (q, e) ∈ st.L → q ≠ st.nx := fun q e hq => by
    simp only [St.fresh, Bool.and_eq_true] at hfresh
    have := List.all_eq_true.1 hfresh.1.2 _ hq
    simp at this; exact this.1
  have hknx : k ≠ st.nx := hLnx k _ (Ents.mem_of_get hk)
  suffices H : ∃ u w' g' ρ' Fp', ((execOp a.eval o).run P w = .ok (.value u) w' ∨ ((execOp a.eval o).run P w = .ok .skip w' ∧ u = undef)) ∧ g.le g' ∧ Mem ρ' g' w' (appKst st k j i.size len f).L Fp' ∧
      Frm ρ' g'.G (appKst st k j i.size len f).fr a.tmps ∧ (∀ q, q < st.base → ρ' q = ρ q) ∧ Marks g' w' (appKst st k j i.size len f).L Fp' ms ∧ (SV.ro i.size (len + 1) (fun q => rov (comb f gg len q)) false).R ρ' g'.G u by
    obtain ⟨u, w', g', ρ', Fp', hrun, hle, hm, hf, hρ, hmk, hx⟩ := H
    have hcf := hg.putG (st' := appKst st k j i.size len f) hle hm hf rfl rfl hρ hmk hd hx
    have hn : ∃ g'' st'', g.le g'' ∧ Holds N st'' g'' (a.put o.dst u) w' ∧ K st'' := ⟨g', _, hle, ⟨_, _, ms, hcf⟩, hK⟩
    rcases hrun with hrun | ⟨hrun, rfl⟩
    · rw [hrun]; exact hn
    · rw [hrun]; exact hn
  have hx0 := frm_ev hg.frm (.tmp s)
  rw [hxe] at hx0
  simp only [SV.R] at hx0
  obtain ⟨A, cc, hxv, p1, p2, _, p4, p5⟩ := hx0
  simp only [Nat.zero_mul, Nat.zero_add] at p4 p5
  have hy0 := frm_ev hg.frm yo
  have hmk := Ents.mem_of_get hk
  by_cases hroom : len + 1 ≤ cc
  · -- in place
    have hc0 : cc ≠ 0 := by omega
    have hA := p4.resolve_left hc0
    subst hA
    have hsrc : srcOf st.L i.size (st.ev yo) = some (1 ≤ n2, 1, gg, some j) := by
      rw [hye]
      simp [srcOf, hj]
    obtain ⟨Fs1, hS1, hnd1, hg1, hj1⟩ := src_ok (P := P) hg.mem hz hy0 hsrc hn2
    rcases hg.mem.ent k _ hmk with ⟨_, h0, _⟩ | ⟨cur, et, fr, gi, hb, hcs, hwr, hns, hFp, hr⟩
    · rw [h0] at p5
      have : 0 < cc * i.size := Nat.mul_pos (by omega) hz
      omega
    obtain ⟨hl1, news, gj, hn1, hn2', hn3, hn4, hn5⟩ := hS1
    have hf1 := hn3 1 w (Nat.le_refl _) (fun _ => rfl)
    have e1 : news.extract 0 (1 * i.size) = news := by rw [← hn1]; simp
    rw [e1] at hf1
    have hroomz : (len + 1) * i.size ≤ cur.size := by
      have : (len + 1) * i.size ≤ cc * i.size := Nat.mul_le_mul_right _ hroom
      omega
    obtain ⟨w', c', hst, hT, hs', hj'⟩ := run_storeCells_blk (P := P) (ρ k).1 (len * i.size) et fr news.toList 0 cur w hb hwr (by
      simp only [Array.length_toList, hn1, Nat.add_zero]; rw [← Nat.add_mul]; exact hroomz) hn2'
    have hrun := run_append_fit (w' := w') (ty := o.type) (A := some ⟨(ρ k).1, 0, none⟩) hu hi hxt hl1 hf1 hroom (by
      show (storeCells (Addr.add ⟨(ρ k).1, 0, none⟩ (len * i.size)) news.toList).run P w = _
      rw [add_off, Nat.zero_add]; exact hst)
    have hL0 : ∀ p ∈ eraseO (st.L.del k) (some j), p ∈ st.L := fun p hp => (List.mem_filter.1 (List.mem_filter.1 hp).1).1
    have hk0 : ((eraseO (st.L.del k) (some j)).map (·.1)).Nodup := Ents.keys_del j (Ents.keys_del k hg.mem.keys)
    have hnk : ∀ q eq, (q, eq) ∈ eraseO (st.L.del k) (some j) → q ≠ k := fun q eq hq => (Ents.mem_del.1 (Ents.mem_del.1 hq).1).2
    have hdisj : ∀ b ∈ Fp k, b ∉ Fs1 := by
      intro b hb1 hb2
      obtain ⟨q, eq, hq, hbq, hqn⟩ := hg1 b hb2
      by_cases hqj : q = j
      · subst hqj
        exact hg.mem.dj k _ q eq hmk hq (fun h => hjk h.symm) b hb1 hbq
      · exact hqn q eq (Ents.mem_del.2 ⟨hq, hqj⟩) rfl
    have hgone : ∀ b, b ∈ (ρ k).1 :: (flat len gi ++ flat 1 gj) → Gone st.L (eraseO (st.L.del k) (some j)) Fp b := by
      intro b hbm
      rw [← List.cons_append] at hbm
      rcases List.mem_append.1 hbm with hbm | hbm
      · exact ⟨k, _, hmk, by rw [hFp]; exact hbm, hnk⟩
      · exact (hg1 b (hn5.subset hbm)).sub (fun p hp => Ents.mem_del.2 ⟨(Ents.mem_del.1 (Ents.mem_del.1 hp).1).1, (Ents.mem_del.1 hp).2⟩)
    have hnd := hg.mem.nd k _ hmk
    rw [hFp] at hnd
    obtain ⟨k1, k2, k3⟩ := hg.appendIn (L0 := eraseO (st.L.del k) (some j)) (s := (ρ k).2) hfresh hb hwr hcs hroomz hn1 hT hs' (fun q => by
        have := hj' q
        simp only [Array.length_toList, hn1, Nat.add_zero] at this
        rw [this]
        simp) hr hn4
      (by
        rw [← List.cons_append]
        refine List.nodup_append.2 ⟨hnd, hnd1.sublist hn5, fun p hp q hq hpq => ?_⟩
        exact hdisj p (by rw [hFp]; exact hp) (hpq ▸ hn5.subset hq))
      hgone hL0 hk0
    have hmi : (st.nx, Ent.row i.size (len + 1) (comb f gg len)) ∈ (st.nx, Ent.row i.size (len + 1) (comb f gg len)) :: eraseO (st.L.del k) (some j) := by simp
    have hget : Ents.get ((st.nx, Ent.row i.size (len + 1) (comb f gg len)) :: eraseO (st.L.del k) (some j)) st.nx = some (.row i.size (len + 1) (comb f gg len)) := by simp [Ents.get]
    have hle := Gh.le_frz k1 hmi
    have hsl := SlOk.of_row k1 hle.G hget (fun b hb o ho => by simp only [Gh.frz, hb, if_true]; exact ho)
    have hslk : SlOk (upd ρ st.nx ((ρ k).1, (ρ k).2)) g.G (g.frz w' (upd Fp st.nx ((ρ k).1 :: (flat len gi ++ flat 1 gj)) st.nx)).G k i.size len f := by
      intro off ln cap ex u hlen hx
      have hx' : (SV.sl st.nx i.size off ln cap ex).R (upd ρ st.nx ((ρ k).1, (ρ k).2)) g.G u := by
        simp only [SV.R, upd_same, upd_ne ρ ((ρ k).1, (ρ k).2) hknx] at hx ⊢
        exact hx
      refine ro_congr (hsl off ln cap ex u (by omega) hx') (fun q hq => ?_)
      rw [comb_lt (by omega)]
    refine ⟨_, w', _, _, _, .inl (hexec (by rw [hxv]; exact hrun)), hle, k1.frzG hmi ?_ ?_, fun t => ?_, fun q hq => upd_ne ρ _ (by omega), ⟨k3.at_, fun m hm => ?_, fun m hm q e' hq => ?_, k3.nd⟩, ?_⟩
    · exact Ents.keys_del j (hg.mem.keys.sublist (fzEs_keys st.L))
    · intro q e' hq
      obtain ⟨hq1, hqj⟩ := Ents.mem_del.1 hq
      obtain ⟨hqk, e, h1, h2, rfl⟩ := fzEs_mem hc1 hq1
      have hq0 : (q, e) ∈ eraseO (st.L.del k) (some j) := Ents.mem_del.2 ⟨Ents.mem_del.2 ⟨h1, hqk⟩, hqj⟩
      refine ⟨hLnx q e h1, e, List.mem_cons_of_mem _ hq0, ?_⟩
      exact fzE_ok hle.G hslk e h2 (k1.ent q e (List.mem_cons_of_mem _ hq0))
    · obtain ⟨q1, q2⟩ := fzF_get (t := t) hc2
      show (fget (fzF k i.size len f st.fr).2 t).R _ _ _
      rw [q2]
      exact fzV_ok hle.G hslk _ q1 (k2 t)
    · simp only [Gh.frz, k3.nf m hm st.nx _ hmi, if_false]
      exact k3.nb m hm
    · obtain ⟨hq1, hqj⟩ := Ents.mem_del.1 hq
      obtain ⟨hqk, e, h1, h2, rfl⟩ := fzEs_mem hc1 hq1
      exact k3.nf m hm q e (List.mem_cons_of_mem _ (Ents.mem_del.2 ⟨Ents.mem_del.2 ⟨h1, hqk⟩, hqj⟩))
    · refine ro_congr (hsl 0 (len + 1) (len + 1) false _ (by omega) ?_) (fun q hq => by rw [Nat.zero_add])
      simp only [SV.R, upd_same]
      exact ⟨_, cc, rfl, Nat.le_refl _, hroom, by simp, .inr (by simp), by simpa using p5⟩
  · -- a copy
    have hcl : cc = len := by omega
    subst hcl
    have hle1 := Gh.le_frz hg.mem hmk
    have hF1 : ∀ b ∈ Fp k, ∀ o, World.H w b = some o → (g.frz w (Fp k)).G b = some o := fun b hb o ho => by simp only [Gh.frz, hb, if_true]; exact ho
    have hsl1 := SlOk.of_row hg.mem hle1.G hk hF1
    have hmem1 := hg.mem.frz hk hc1
    have hfrz : Frm ρ (g.frz w (Fp k)).G (fzF k i.size cc f st.fr).2 a.tmps := fun t => by
      obtain ⟨q1, q2⟩ := fzF_get (t := t) hc2
      rw [q2]
      exact fzV_ok hle1.G hsl1 _ q1 (hg.frm t)
    have hfs : fget (fzF k i.size cc f st.fr).2 s = .ro i.size cc (fun q => rov (f (0 + q))) false := by
      rw [(fzF_get (t := s) hc2).2, show fget st.fr s = _ from hxe]
      simp only [fzV, Nat.beq_refl, cond_true]
    have hxs := hfrz s
    rw [hfs] at hxs
    have hcfg1 : Cfg N (appK1 st s k i.size cc cc f) (g.frz w (Fp k)) a w ρ Fp ms := by
      refine ⟨hmem1, fun t => ?_, hg.dec, hg.size, hg.defers, ⟨hg.marks.at_, fun m hm => ?_, fun m hm q e' hq => ?_, hg.marks.nd⟩, hg.base⟩
      · show (fget ((s, _) :: _) t).R _ _ _
        rw [fget_cons]
        by_cases hst : s = t
        · subst hst
          simp only [if_true]
          have hu0 : a.tmps.getD s undef = .slice A cc cc := hxv
          rw [hu0] at hxs ⊢
          simp only [SV.R, SV.C] at hxs ⊢
          obtain ⟨h1, h2, A', c', h3, h4, _, h6⟩ := hxs
          have h3' := h3
          simp only [one, if_true, Option.some.injEq, Value.slice.injEq] at h3'
          exact ⟨h1, h2, A', c', h3, h4, fun _ => h3'.2.2.symm, h6⟩
        · simp only [hst, if_false]; exact hfrz t
      · simp only [Gh.frz, hg.marks.nf m hm k _ hmk, if_false]
        exact hg.marks.nb m hm
      · obtain ⟨_, e, h1, _⟩ := fzEs_mem hc1 hq
        exact hg.marks.nf m hm q e h1
    have hjb : Nat.beq j k = false := by rw [Bool.eq_false_iff]; intro hb; exact hjk (Nat.eq_of_beq_eq_true hb)
    have hey : (appK1 st s k i.size cc cc f).ev yo = .sl j i.size 0 1 cap2 true := by
      cases yo with
      | tmp u =>
        show fget ((s, _) :: _) u = _
        rw [fget_cons, if_neg (fun h => hsy (by rw [h]; rfl)), (fzF_get (t := u) hc2).2, show fget st.fr u = _ from hye]
        simp only [fzV, hjb, cond_false]
      | const v => simp [St.ev] at hye
      | global v => simp [St.ev] at hye
      | func v => simp [St.ev] at hye
    have hex : (appK1 st s k i.size cc cc f).ev (.tmp s) = .ro i.size cc (fun q => rov (f (0 + q))) true := by
      show fget ((s, _) :: _) s = _
      rw [fget_cons, if_pos rfl]
    have hj1 : (appK1 st s k i.size cc cc f).L.get j = some (.row i.size n2 gg) := fzEs_get hjk hj
    have hsa : sAppend P (appK1 st s k i.size cc cc f) #[t, xt] ((appK1 st s k i.size cc cc f).ev (.tmp s)) ((appK1 st s k i.size cc cc f).ev yo) = some ((0 < 1 ∨ cc = 0) ∧ 1 ≤ n2 ∧ (cc + 1) * i.bytes ≤ 140737488355328, .sl st.nx i.size 0 (cc + 1) (cc + 1) false,
        (appK1 st s k i.size cc cc f).add (eraseO (appK1 st s k i.size cc cc f).L (some j)) (.row i.size (cc + 1) (comb (fun q => rov (f (0 + q))) gg cc))) := by
      rw [hex, hey]
      simp only [sAppend, hu, hi, hzv, hfresh1, hz, hbytes, hzs, hxt, and_self, if_true, srcOf, hj1]
      rfl
    obtain ⟨u, w', ρ', Fp', hrun, hm2, hf2, hsame, hmk2, hx2⟩ := snd_append (N := N) ho rfl hsa ⟨.inl (by omega), hn2, hfit⟩ _ _ _ _ _ _ hcfg1
    have hmi : (st.nx, Ent.row i.size (cc + 1) (comb (fun q => rov (f (0 + q))) gg cc)) ∈ ((appK1 st s k i.size cc cc f).add (eraseO (appK1 st s k i.size cc cc f).L (some j)) (.row i.size (cc + 1) (comb (fun q => rov (f (0 + q))) gg cc))).L := List.mem_cons_self ..
    have hget : ((appK1 st s k i.size cc cc f).add (eraseO (appK1 st s k i.size cc cc f).L (some j)) (.row i.size (cc + 1) (comb (fun q => rov (f (0 + q))) gg cc))).L.get st.nx = some (.row i.size (cc + 1) (comb (fun q => rov (f (0 + q))) gg cc)) := by
      show Ents.get ((st.nx, _) :: _) st.nx = _
      simp [Ents.get]
    have hle2 := Gh.le_frz hm2 hmi
    have hsl2 := SlOk.of_row hm2 hle2.G hget (fun b hb o ho => by simp only [Gh.frz, hb, if_true]; exact ho)
    have hin : ∀ q e', (q, e') ∈ (fzEs k i.size cc f st.L).2.del j → q ≠ st.nx ∧ (q, e') ∈ ((appK1 st s k i.size cc cc f).add (eraseO (appK1 st s k i.size cc cc f).L (some j)) (.row i.size (cc + 1) (comb (fun q => rov (f (0 + q))) gg cc))).L := by
      intro q e' hq
      obtain ⟨_, e, h1, _⟩ := fzEs_mem hc1 (Ents.mem_del.1 hq).1
      exact ⟨hLnx q e h1, List.mem_cons_of_mem _ hq⟩
    refine ⟨u, w', _, ρ', Fp', hrun, Gh.le_trans hle1 hle2, hm2.frzG hmi ?_ ?_, fun t => ?_, fun q hq => hsame.ρ q hq, ⟨hmk2.at_, fun m hm => ?_, fun m hm q e' hq => ?_, hmk2.nd⟩, ?_⟩
    · exact Ents.keys_del j (hg.mem.keys.sublist (fzEs_keys st.L))
    · intro q e' hq
      obtain ⟨h1, h2⟩ := hin q e' hq
      exact ⟨h1, e', h2, (hm2.ent q e' h2).mono hle2.G rfl (fun _ _ => rfl) rfl (fun _ _ => rfl)⟩
    · show (fget (fzF k i.size cc f st.fr).2 t).R _ _ _
      refine SV.R_mono hle2.G _ _ (fun _ _ => rfl) ?_
      have h2 : (fget ((s, .ro i.size cc (fun q => rov (f (0 + q))) true) :: (fzF k i.size cc f st.fr).2) t).R ρ' (g.frz w (Fp k)).G (a.tmps.getD t undef) := hf2 t
      rw [fget_cons] at h2
      by_cases hst : s = t
      · subst hst
        rw [hfs]
        simp only [if_true, SV.R, SV.C] at h2 ⊢
        obtain ⟨h1, h2, A', c', h3, h4, _, h6⟩ := h2
        exact ⟨h1, h2, A', c', h3, h4, by simp, h6⟩
      · simp only [hst, if_false] at h2; exact h2
    · simp only [Gh.frz, hmk2.nf m hm st.nx _ hmi, if_false]
      exact hmk2.nb m hm
    · exact hmk2.nf m hm q e' (hin q e' hq).2
    · refine ro_congr (hsl2 0 (cc + 1) (cc + 1) false _ (by omega) hx2) (fun q hq => ?_)
      rw [Nat.zero_add]
      by_cases hqc : q < cc
      · rw [comb_lt hqc, comb_lt hqc, rov_rov, Nat.zero_add]
      · rw [comb_ge (by omega), comb_ge (by omega)]
theorem stepKp_ok {P : Program} {r : Option Nat} {N : Nat} {o : Oper} {st st' : St} {c : Prop} {x : SV} {K : St → Prop}
    (h : stepKp P st o = some (c, x, st')) (hc : c) (hd : ∀ d, o.dst = some d → d < N) (hK : K (st'.put o.dst x)) : WPop P r N o st K := by
  unfold stepKp at h
  split at h <;> try (simp at h; done)
  rotate_left
  · rename_i s d y ho
    exact WPop_of_snd (snd_slConv ho h hc) (by rw [ho]; intro c; simp) hd hK
  rename_i args ts ho
  split at h <;> try (simp at h; done)
  rename_i a b hab
  have : args = #[a, b] := by apply Array.ext'; simpa using hab
  subst this
  exact appK_ok ho h hc hd hK
end Go.Sym
