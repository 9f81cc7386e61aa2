/- The abstract states of the symbolic walk: symbolic values, entries of memory, and what it means that a world and a frame have them. -/
import Derived.CallsIn
import Derived.OrdersIn
import Derived.Laws.World
import Derived.Laws.Sem
import Derived.KernelRfl
import Derived.Laws.Entries
import Derived.RangeFuncLeaves
import Derived.IntWalk
set_option linter.all false
set_option linter.unusedSimpArgs false
set_option linter.unusedVariables false
set_option linter.deprecated false
namespace Go.Sym

abbrev Heap := Nat → Option Obj
abbrev Rd := Nat → Option Value

/-- Symbolic values: a value as it is; a pointer to a cell of a variable; to a cell of a row's element; a slice of a row; a read-only slice; a pointer to read-only cells; a slice that alone owns its row; a closure; several cells; a tuple; anything. -/
inductive SV where
  | v (x : Value)
  | ptr (i off : Nat)
  | elp (i z k off : Nat)
  | sl (i z off len cap : Nat) (ex : Bool)
  | ro (z n : Nat) (f : Nat → SV) (ex : Bool)
  | rop (cs : List SV)
  | own (z n : Nat) (f : Nat → SV)
  | fn (f : FuncId) (first caps : List SV)
  | agg (cs : List SV)
  | tup (vs : List SV)
  | any
  | yld (i : Nat)

/-- What a loop over a function keeps as it is. -/
structure LpD where
  tmps : Array Value
  ps : Array Tmp
  assign : Code
  body : Code

abbrev Sts := Nat → LpD

/-- How a loop over a function stands: ready; in a round; done, with the jump that is to be made. -/
inductive LSt where
  | ready
  | busy
  | done (c : Code)

/-- Entries of memory: a variable by its cells; a row of n elements of z cells; a row whose element k is open, with its cells; the record of a loop over a function, with the frame that its rounds begin with. -/
inductive Ent where
  | var (cs : List SV)
  | row (z n : Nat) (f : Nat → SV)
  | rowo (z n : Nat) (f : Nat → SV) (k : Nat) (cs : List SV)
  | lp (fr : List (Nat × SV)) (s : LSt)

/-- No cell of a block is frozen. -/
def Wr (size : Nat) (fr : Nat × Nat) : Prop := fr.1 = fr.2 ∨ size ≤ fr.1
theorem Wr.not {size : Nat} {fr : Nat × Nat} (h : Wr size fr) (o : Nat) (ho : o < size) : ¬ (fr.1 ≤ o ∧ o < fr.2) := by
  rcases h with h | h <;> omega

def flat (n : Nat) (g : Nat → List Nat) : List Nat := (List.range n).flatMap g

def SV.notAgg : SV → Bool
  | .agg _ => false
  | _ => true

mutual
/-- An element of s cells, read by rd, closed; F: the blocks that it owns. -/
def SV.C (G H : Heap) : SV → Nat → Rd → List Nat → Prop
  | .v x, s, rd, F => s = 1 ∧ rd 0 = some x ∧ x.oneCell' = true ∧ F = []
  | .ro z n f ex, s, rd, F => s = 1 ∧ F = [] ∧ ∃ A c, rd 0 = some (.slice A n c) ∧ n ≤ c ∧ (ex = true → c = n) ∧ (n = 0 ∨ ∃ b o cs e fr, A = some ⟨b, o, none⟩ ∧ G b = some (.cells cs e fr) ∧
      ∀ k, k < n → SV.C G H (f k) z (fun j => cs[o + k * z + j]?) [])
  | .own z n f, s, rd, F => s = 1 ∧ ∃ A c, rd 0 = some (.slice A n c) ∧ n ≤ c ∧ ((c = 0 ∧ F = []) ∨ ∃ b cs e fr g, A = some ⟨b, 0, none⟩ ∧ c * z ≤ cs.size ∧ H b = some (.cells cs e fr) ∧ Wr cs.size fr ∧
      F = b :: flat n g ∧ ∀ k, k < n → SV.C G H (f k) z (fun j => cs[k * z + j]?) (g k))
  | .agg cs, s, rd, F => cs.length = s ∧ SV.CL G H cs rd F
  | .any, s, rd, F => s = 1 ∧ F = [] ∧ ∃ u, rd 0 = some u ∧ u.oneCell' = true
  | _, _, _, _ => False
def SV.CL (G H : Heap) : List SV → Rd → List Nat → Prop
  | [], _, F => F = []
  | x :: xs, rd, F => ∃ F1 F2, F = F1 ++ F2 ∧ x.notAgg = true ∧ SV.C G H x 1 rd F1 ∧ SV.CL G H xs (fun j => rd (j + 1)) F2
end

/-- One value as a reader. -/
def one (u : Value) : Rd := fun j => if j = 0 then some u else none

mutual
/-- A value of a frame or of a variable's cell. -/
def SV.R (ρ : Nat → Nat × Nat) (G : Heap) : SV → Value → Prop
  | .v x, u => u = x
  | .ptr i off, u => u = .pointer (some ⟨(ρ i).1, off, none⟩)
  | .elp i z k off, u => u = .pointer (some ⟨(ρ i).1, k * z + off, none⟩)
  | .sl i z off len cap ex, u => ∃ A c, u = .slice A len c ∧ len ≤ cap ∧ cap ≤ c ∧ (ex = true → c = cap) ∧ (c = 0 ∨ A = some ⟨(ρ i).1, off * z, none⟩) ∧ (off + c) * z ≤ (ρ i).2
  | .ro z n f ex, u => SV.C G (fun _ => none) (.ro z n f ex) 1 (one u) []
  | .rop cs, u => ∃ b o c e fr, u = .pointer (some ⟨b, o, none⟩) ∧ G b = some (.cells c e fr) ∧ SV.CL G (fun _ => none) cs (fun j => c[o + j]?) []
  | .own _ _ _, _ => False
  | .fn f fs cs, u => ∃ us vs, u = .func (.func f) us vs ∧ SV.RL ρ G fs us.toList ∧ SV.RL ρ G cs vs.toList
  | .agg cs, u => ∃ us, u = .agg us ∧ SV.RL ρ G cs us.toList
  | .tup cs, u => ∃ us, u = .tuple us ∧ SV.RL ρ G cs us.toList
  | .any, _ => True
  | .yld i, u => u = .func (.yield (ρ i).1) #[] #[]
def SV.RL (ρ : Nat → Nat × Nat) (G : Heap) : List SV → List Value → Prop
  | [], us => us = []
  | x :: xs, us => ∃ u rest, us = u :: rest ∧ SV.R ρ G x u ∧ SV.RL ρ G xs rest
end

mutual
/-- Does a value name the id i. -/
def SV.names (i : Nat) : SV → Bool
  | .ptr j _ => j == i
  | .elp j _ _ _ => j == i
  | .sl j _ _ _ _ _ => j == i
  | .fn _ fs cs => SV.namesL i fs || SV.namesL i cs
  | .agg cs => SV.namesL i cs
  | .tup cs => SV.namesL i cs
  | .yld j => j == i
  | _ => false
def SV.namesL (i : Nat) : List SV → Bool
  | [] => false
  | x :: xs => SV.names i x || SV.namesL i xs
end

/-- A smaller heap. -/
def Heap.le (G G' : Heap) : Prop := ∀ b o, G b = some o → G' b = some o
theorem Heap.le_refl (G : Heap) : Heap.le G G := fun _ _ h => h
theorem Heap.le_trans {A B C : Heap} (h : Heap.le A B) (k : Heap.le B C) : Heap.le A C := fun b o x => k b o (h b o x)

theorem mem_flat {n : Nat} {g : Nat → List Nat} {b : Nat} : b ∈ flat n g ↔ ∃ k, k < n ∧ b ∈ g k := by
  simp [flat]

mutual
theorem SV.C_mono {G G' H H' : Heap} (hG : Heap.le G G') : ∀ (x : SV) (s : Nat) (rd : Rd) (F : List Nat), (∀ b ∈ F, H' b = H b) → SV.C G H x s rd F → SV.C G' H' x s rd F
  | .v x, s, rd, F, hF, h => by simpa [SV.C] using h
  | .ro z n f ex, s, rd, F, hF, h => by
    simp only [SV.C] at h ⊢
    obtain ⟨h1, h2, A, c, h3, h4, h5, h6⟩ := h
    refine ⟨h1, h2, A, c, h3, h4, h5, ?_⟩
    rcases h6 with h6 | ⟨b, o, cs, e, fr, h7, h8, h9⟩
    · exact .inl h6
    · exact .inr ⟨b, o, cs, e, fr, h7, hG _ _ h8, fun k hk => SV.C_mono hG (f k) z _ [] (by simp) (h9 k hk)⟩
  | .own z n f, s, rd, F, hF, h => by
    simp only [SV.C] at h ⊢
    obtain ⟨h1, A, c, h2, h3, h4⟩ := h
    refine ⟨h1, A, c, h2, h3, ?_⟩
    rcases h4 with h4 | ⟨b, cs, e, fr, g, h4, h5, h6, h7, h8, h9⟩
    · exact .inl h4
    · subst h8
      refine .inr ⟨b, cs, e, fr, g, h4, h5, ?_, h7, rfl, fun k hk => SV.C_mono hG (f k) z _ (g k) ?_ (h9 k hk)⟩
      · rw [hF b (by simp)]; exact h6
      · intro b' hb'; exact hF b' (List.mem_cons_of_mem _ (mem_flat.2 ⟨k, hk, hb'⟩))
  | .agg cs, s, rd, F, hF, h => by
    simp only [SV.C] at h ⊢
    exact ⟨h.1, SV.CL_mono hG cs rd F hF h.2⟩
  | .any, s, rd, F, hF, h => by simpa [SV.C] using h
  | .ptr _ _, s, rd, F, hF, h => by simp [SV.C] at h
  | .elp _ _ _ _, s, rd, F, hF, h => by simp [SV.C] at h
  | .sl _ _ _ _ _ _, s, rd, F, hF, h => by simp [SV.C] at h
  | .rop _, s, rd, F, hF, h => by simp [SV.C] at h
  | .fn _ _ _, s, rd, F, hF, h => by simp [SV.C] at h
  | .tup _, s, rd, F, hF, h => by simp [SV.C] at h
  | .yld _, s, rd, F, hF, h => by simp [SV.C] at h
theorem SV.CL_mono {G G' H H' : Heap} (hG : Heap.le G G') : ∀ (xs : List SV) (rd : Rd) (F : List Nat), (∀ b ∈ F, H' b = H b) → SV.CL G H xs rd F → SV.CL G' H' xs rd F
  | [], rd, F, hF, h => by simpa [SV.CL] using h
  | x :: xs, rd, F, hF, h => by
    simp only [SV.CL] at h ⊢
    obtain ⟨F1, F2, rfl, hna, h1, h2⟩ := h
    exact ⟨F1, F2, rfl, hna, SV.C_mono hG x 1 rd F1 (fun b hb => hF b (by simp [hb])) h1, SV.CL_mono hG xs _ F2 (fun b hb => hF b (by simp [hb])) h2⟩
end

mutual
theorem SV.R_mono {ρ ρ' : Nat → Nat × Nat} {G G' : Heap} (hG : Heap.le G G') : ∀ (x : SV) (u : Value), (∀ i, x.names i = true → ρ' i = ρ i) → SV.R ρ G x u → SV.R ρ' G' x u
  | .v x, u, hn, h => by simpa [SV.R] using h
  | .ptr i off, u, hn, h => by simp only [SV.R] at h ⊢; rw [hn i (by simp [SV.names])]; exact h
  | .elp i z k off, u, hn, h => by simp only [SV.R] at h ⊢; rw [hn i (by simp [SV.names])]; exact h
  | .sl i z off len cap ex, u, hn, h => by simp only [SV.R] at h ⊢; rw [hn i (by simp [SV.names])]; exact h
  | .ro z n f ex, u, hn, h => by simp only [SV.R] at h ⊢; exact SV.C_mono hG _ _ _ _ (by simp) h
  | .rop cs, u, hn, h => by
    simp only [SV.R] at h ⊢
    obtain ⟨b, o, c, e, fr, h1, h2, h3⟩ := h
    exact ⟨b, o, c, e, fr, h1, hG _ _ h2, SV.CL_mono hG _ _ _ (by simp) h3⟩
  | .own _ _ _, u, hn, h => by simp [SV.R] at h
  | .fn f fs cs, u, hn, h => by
    simp only [SV.R] at h ⊢
    obtain ⟨us, vs, h1, h2, h3⟩ := h
    exact ⟨us, vs, h1, SV.RL_mono hG fs _ (fun i hi => hn i (by simp [SV.names, hi])) h2, SV.RL_mono hG cs _ (fun i hi => hn i (by simp [SV.names, hi])) h3⟩
  | .agg cs, u, hn, h => by
    simp only [SV.R] at h ⊢
    obtain ⟨us, h1, h2⟩ := h
    exact ⟨us, h1, SV.RL_mono hG cs _ (fun i hi => hn i (by simp [SV.names, hi])) h2⟩
  | .tup cs, u, hn, h => by
    simp only [SV.R] at h ⊢
    obtain ⟨us, h1, h2⟩ := h
    exact ⟨us, h1, SV.RL_mono hG cs _ (fun i hi => hn i (by simp [SV.names, hi])) h2⟩
  | .any, u, hn, h => by simp [SV.R]
  | .yld i, u, hn, h => by simp only [SV.R] at h ⊢; rw [hn i (by simp [SV.names])]; exact h
theorem SV.RL_mono {ρ ρ' : Nat → Nat × Nat} {G G' : Heap} (hG : Heap.le G G') : ∀ (xs : List SV) (us : List Value), (∀ i, SV.namesL i xs = true → ρ' i = ρ i) → SV.RL ρ G xs us → SV.RL ρ' G' xs us
  | [], us, hn, h => by simpa [SV.RL] using h
  | x :: xs, us, hn, h => by
    simp only [SV.RL] at h ⊢
    obtain ⟨u, rest, h1, h2, h3⟩ := h
    exact ⟨u, rest, h1, SV.R_mono hG x u (fun i hi => hn i (by simp [SV.namesL, hi])) h2, SV.RL_mono hG xs rest (fun i hi => hn i (by simp [SV.namesL, hi])) h3⟩
end

theorem SV.RL_length {ρ : Nat → Nat × Nat} {G : Heap} : ∀ {xs : List SV} {us : List Value}, SV.RL ρ G xs us → us.length = xs.length
  | [], us, h => by simp [SV.RL] at h; simp [h]
  | x :: xs, us, h => by
    simp only [SV.RL] at h
    obtain ⟨u, rest, rfl, _, h3⟩ := h
    simp [SV.RL_length h3]

theorem SV.RL_get {ρ : Nat → Nat × Nat} {G : Heap} : ∀ {xs : List SV} {us : List Value} {j : Nat} {x : SV}, SV.RL ρ G xs us → xs[j]? = some x → ∃ u, us[j]? = some u ∧ SV.R ρ G x u
  | [], us, j, x, h, hj => by simp at hj
  | y :: xs, us, j, x, h, hj => by
    simp only [SV.RL] at h
    obtain ⟨u, rest, rfl, h2, h3⟩ := h
    cases j with
    | zero => simp at hj; subst hj; exact ⟨u, by simp, h2⟩
    | succ j => simp at hj ⊢; exact SV.RL_get h3 hj

theorem SV.RL_mk {ρ : Nat → Nat × Nat} {G : Heap} : ∀ {xs : List SV} {us : List Value}, us.length = xs.length → (∀ (j : Nat) (x : SV), xs[j]? = some x → ∃ u, us[j]? = some u ∧ SV.R ρ G x u) → SV.RL ρ G xs us
  | [], us, hl, h => by simp [SV.RL]; exact List.eq_nil_of_length_eq_zero hl
  | y :: xs, [], hl, h => by simp at hl
  | y :: xs, u :: us, hl, h => by
    simp only [SV.RL]
    refine ⟨u, us, rfl, ?_, SV.RL_mk (by simpa using hl) (fun j x hj => ?_)⟩
    · obtain ⟨u', hu', hr⟩ := h 0 y (by simp)
      simp at hu'; subst hu'; exact hr
    · obtain ⟨u', hu', hr⟩ := h (j + 1) x (by simpa using hj)
      exact ⟨u', by simpa using hu', hr⟩

end Go.Sym

/- Memory of an abstract state: the entries with their blocks; what a store, a new block and a killed entry do to it. -/
namespace Go.Sym

/-- The ghost part: G: blocks that may be read and handed on; B: blocks that stay as they are (G among them); the streams. -/
structure Gh where
  G : Heap
  B : Heap
  os : Os
  out : Array (Nat × ByteArray)
  tape : Nat → Question → Nat
  ρ0 : Nat → Nat × Nat := fun _ => (0, 0)
  S : Sts := fun _ => ⟨#[], #[], .skip, .skip⟩

structure Gh.le (g g' : Gh) : Prop where
  os : g'.os = g.os
  out : g'.out = g.out
  tape : g'.tape = g.tape
  ρ0 : g'.ρ0 = g.ρ0
  S : g'.S = g.S
  G : Heap.le g.G g'.G
  B : Heap.le g.B g'.B
  new : ∀ b o, g'.G b = some o → g.G b = some o ∨ g.B b = none

theorem Gh.le_refl (g : Gh) : g.le g := ⟨rfl, rfl, rfl, rfl, rfl, fun _ _ h => h, fun _ _ h => h, fun _ _ h => .inl h⟩
theorem Gh.le_trans {a b c : Gh} (h : a.le b) (k : b.le c) : a.le c := by
  refine ⟨k.os.trans h.os, k.out.trans h.out, k.tape.trans h.tape, k.ρ0.trans h.ρ0, k.S.trans h.S, Heap.le_trans h.G k.G, Heap.le_trans h.B k.B, fun x o hx => ?_⟩
  rcases k.new x o hx with h1 | h1
  · exact h.new x o h1
  · refine .inr ?_
    cases hb : a.B x with
    | none => rfl
    | some o' => rw [h.B x o' hb] at h1; simp at h1

def World.H (w : World) : Heap := fun b => w.heap[b]?

def fget : List (Nat × SV) → Nat → SV
  | [], _ => .any
  | (d, x) :: r, t => cond (Nat.beq d t) x (fget r t)

def Frm (ρ : Nat → Nat × Nat) (G : Heap) (fr : List (Nat × SV)) (tmps : Array Value) : Prop := ∀ t, (fget fr t).R ρ G (tmps.getD t undef)

/-- Does a frame name an id. -/
def frNames (i : Nat) (fr : List (Nat × SV)) : Bool := fr.any (fun p => p.2.names i)

theorem fget_names {i : Nat} : ∀ {fr : List (Nat × SV)} {t : Nat}, (fget fr t).names i = true → frNames i fr = true
  | [], t, h => by simp [fget, SV.names] at h
  | (d, x) :: r, t, h => by
    simp only [fget] at h
    simp only [frNames, List.any_cons, Bool.or_eq_true]
    cases hb : Nat.beq d t with
    | true => rw [hb] at h; exact .inl h
    | false => rw [hb] at h; exact .inr (fget_names (t := t) h)

theorem Frm.mono {ρ ρ' : Nat → Nat × Nat} {G G' : Heap} (hG : Heap.le G G') {fr : List (Nat × SV)} {tmps : Array Value} (hn : ∀ j, frNames j fr = true → ρ' j = ρ j) (h : Frm ρ G fr tmps) : Frm ρ' G' fr tmps :=
  fun t => SV.R_mono hG _ _ (fun i hi => hn i (fget_names hi)) (h t)

def LSt.ok : LSt → LoopState → Option Code → Prop
  | .ready, s, p => s = .ready ∧ p = none
  | .busy, s, _ => s = .busy
  | .done c, s, p => s = .done ∧ p = some c

/-- An entry in memory; F: the blocks that it owns. -/
def EntR (ρ : Nat → Nat × Nat) (G : Heap) (S : Sts) (H : Heap) (i : Nat) : Ent → List Nat → Prop
  | .var cs, F => ∃ c e fr, H (ρ i).1 = some (.cells c e fr) ∧ c.size = (ρ i).2 ∧ Wr c.size fr ∧ cs.length ≤ c.size ∧ F = [(ρ i).1] ∧
      ∀ (j : Nat) (x : SV), cs[j]? = some x → ∃ u, c[j]? = some u ∧ u.oneCell' = true ∧ x.R ρ G u
  | .row z n f, F => (n = 0 ∧ (ρ i).2 = 0 ∧ F = []) ∨ ∃ c e fr g, H (ρ i).1 = some (.cells c e fr) ∧ c.size = (ρ i).2 ∧ Wr c.size fr ∧ n * z ≤ c.size ∧ F = (ρ i).1 :: flat n g ∧
      ∀ k, k < n → (f k).C G H z (fun j => c[k * z + j]?) (g k)
  | .rowo z n f k cs, F => ∃ c e fr g, H (ρ i).1 = some (.cells c e fr) ∧ c.size = (ρ i).2 ∧ Wr c.size fr ∧ n * z ≤ c.size ∧ F = (ρ i).1 :: flat n g ∧ k < n ∧ cs.length = z ∧ g k = [] ∧
      (∀ q, q < n → q ≠ k → (f q).C G H z (fun j => c[q * z + j]?) (g q)) ∧ ∀ (j : Nat) (x : SV), cs[j]? = some x → ∃ u, c[k * z + j]? = some u ∧ u.oneCell' = true ∧ x.R ρ G u
  | .lp fr s, F => ∃ r : Loop, H (ρ i).1 = some (.loop r) ∧ F = [(ρ i).1] ∧ r.tmps = (S i).tmps ∧ r.params = (S i).ps ∧ r.assign = (S i).assign ∧ r.body = (S i).body ∧ Frm ρ G fr r.tmps ∧ s.ok r.state r.pending

abbrev Ents := List (Nat × Ent)
def Ents.get (L : Ents) (i : Nat) : Option Ent := (L.find? (fun p => p.1 == i)).map (·.2)
def Ents.del (L : Ents) (i : Nat) : Ents := L.filter (fun p => !(p.1 == i))
def Ents.set (L : Ents) (i : Nat) (e : Ent) : Ents := L.map (fun p => if p.1 = i then (i, e) else p)

/-- Does an entry name an id. -/
def Ent.names (i : Nat) : Ent → Bool
  | .var cs => SV.namesL i cs
  | .row _ _ _ => false
  | .rowo _ _ _ _ cs => SV.namesL i cs
  | .lp fr _ => frNames i fr

/-- The entries L lie in the world w. -/
structure Mem (ρ : Nat → Nat × Nat) (g : Gh) (w : World) (L : Ents) (Fp : Nat → List Nat) : Prop where
  keys : (L.map (·.1)).Nodup
  ent : ∀ i e, (i, e) ∈ L → EntR ρ g.G g.S (World.H w) i e (Fp i)
  nd : ∀ i e, (i, e) ∈ L → (Fp i).Nodup
  nb : ∀ i e, (i, e) ∈ L → ∀ b ∈ Fp i, g.B b = none
  dj : ∀ i e j e', (i, e) ∈ L → (j, e') ∈ L → i ≠ j → ∀ b ∈ Fp i, b ∉ Fp j
  gb : Heap.le g.G g.B
  bw : Heap.le g.B (World.H w)
  os : w.os = g.os
  out : w.output = g.out
  tape : w.tape = g.tape

theorem Ents.mem_of_get {L : Ents} {i : Nat} {e : Ent} (h : L.get i = some e) : (i, e) ∈ L := by
  simp only [Ents.get, Option.map_eq_some_iff] at h
  obtain ⟨⟨j, e'⟩, h1, rfl⟩ := h
  have h2 := List.find?_some h1
  have h3 := List.mem_of_find?_eq_some h1
  simp at h2
  subst h2
  exact h3

theorem Ents.not_mem_of_get {L : Ents} {i : Nat} (h : L.get i = none) (e : Ent) : (i, e) ∉ L := by
  simp only [Ents.get, Option.map_eq_none_iff, List.find?_eq_none] at h
  intro hm
  exact absurd (h _ hm) (by simp)

theorem Ents.mem_del {L : Ents} {i j : Nat} {e : Ent} : (j, e) ∈ L.del i ↔ (j, e) ∈ L ∧ j ≠ i := by
  simp [Ents.del]

theorem Ents.mem_set {L : Ents} {i j : Nat} {e e' : Ent} (h : (j, e') ∈ L.set i e) : (j = i ∧ e' = e) ∨ ((j, e') ∈ L ∧ j ≠ i) := by
  simp only [Ents.set, List.mem_map] at h
  obtain ⟨⟨k, e0⟩, hm, hk⟩ := h
  by_cases hki : k = i
  · simp [hki] at hk; exact .inl ⟨hk.1.symm, hk.2.symm⟩
  · simp [hki] at hk; obtain ⟨rfl, rfl⟩ := hk; exact .inr ⟨hm, hki⟩

theorem Ents.keys_set (L : Ents) (i : Nat) (e : Ent) : (L.set i e).map (·.1) = L.map (·.1) := by
  simp only [Ents.set, List.map_map]
  apply List.map_congr_left
  rintro ⟨k, e0⟩ _
  by_cases hk : k = i <;> simp [hk]

theorem Ents.keys_del {L : Ents} (i : Nat) (h : (L.map (·.1)).Nodup) : ((L.del i).map (·.1)).Nodup :=
  h.sublist (List.Sublist.map _ List.filter_sublist)

theorem namesL_of_get {k : Nat} {x : SV} : ∀ {cs : List SV} {j : Nat}, cs[j]? = some x → x.names k = true → SV.namesL k cs = true
  | [], j, hj, _ => by simp at hj
  | y :: ys, 0, hj, hk => by simp at hj; subst hj; simp [SV.namesL, hk]
  | y :: ys, j + 1, hj, hk => by simp at hj; simp [SV.namesL, namesL_of_get hj hk]

theorem EntR.mono {ρ ρ' : Nat → Nat × Nat} {G G' H H' : Heap} {S S' : Sts} {i : Nat} {e : Ent} {F : List Nat} (hG : Heap.le G G') (hS : S' i = S i) (hH : ∀ b ∈ F, H' b = H b)
    (hi : ρ' i = ρ i) (hn : ∀ j, e.names j = true → ρ' j = ρ j) (h : EntR ρ G S H i e F) : EntR ρ' G' S' H' i e F := by
  cases e with
  | var cs =>
    obtain ⟨c, e, fr, h1, h2, h3, h4, rfl, h5⟩ := h
    refine ⟨c, e, fr, by rw [hi, hH _ (by simp)]; exact h1, by rw [hi]; exact h2, h3, h4, by rw [hi], fun j x hj => ?_⟩
    obtain ⟨u, hu, ho, hr⟩ := h5 j x hj
    refine ⟨u, hu, ho, SV.R_mono hG x u (fun k hk => hn k ?_) hr⟩
    simp only [Ent.names]
    exact namesL_of_get hj hk
  | row z n f =>
    rcases h with ⟨h1, h2, h3⟩ | ⟨c, e, fr, g, h1, h2, h3, h4, rfl, h5⟩
    · exact .inl ⟨h1, by rw [hi]; exact h2, h3⟩
    refine .inr ⟨c, e, fr, g, by rw [hi, hH _ (by simp)]; exact h1, by rw [hi]; exact h2, h3, h4, by rw [hi], fun k hk => ?_⟩
    exact SV.C_mono hG _ _ _ _ (fun b hb => hH b (List.mem_cons_of_mem _ (mem_flat.2 ⟨k, hk, hb⟩))) (h5 k hk)
  | rowo z n f k cs =>
    obtain ⟨c, e, fr, g, h1, h2, h3, h4, rfl, h5, h6, h7, h8, h9⟩ := h
    refine ⟨c, e, fr, g, by rw [hi, hH _ (by simp)]; exact h1, by rw [hi]; exact h2, h3, h4, by rw [hi], h5, h6, h7, fun q hq hne => ?_, fun j x hj => ?_⟩
    · exact SV.C_mono hG _ _ _ _ (fun b hb => hH b (List.mem_cons_of_mem _ (mem_flat.2 ⟨q, hq, hb⟩))) (h8 q hq hne)
    · obtain ⟨u, hu, ho, hr⟩ := h9 j x hj
      refine ⟨u, hu, ho, SV.R_mono hG x u (fun k hk => hn k ?_) hr⟩
      simp only [Ent.names]
      exact namesL_of_get hj hk
  | lp fr s =>
    obtain ⟨r, h1, rfl, h3, h4, h5, h6, h7, h8⟩ := h
    exact ⟨r, by rw [hi, hH _ (by simp)]; exact h1, by rw [hi], by rw [hS]; exact h3, by rw [hS]; exact h4, by rw [hS]; exact h5, by rw [hS]; exact h6, h7.mono hG hn, h8⟩

/-- Every block of an entry lies in the heap. -/
theorem SV.C_some {G H : Heap} : ∀ (x : SV) (s : Nat) (rd : Rd) (F : List Nat), x.C G H s rd F → ∀ b ∈ F, ∃ o, H b = some o := by
  intro x s rd F h b hb
  cases hH : H b with
  | some o => exact ⟨o, rfl⟩
  | none =>
    exfalso
    revert h hb
    exact no_none x s rd F b hH
where
  no_none : ∀ (x : SV) (s : Nat) (rd : Rd) (F : List Nat) (b : Nat), H b = none → x.C G H s rd F → b ∈ F → False
  | .v x, s, rd, F, b, hH, h, hb => by simp [SV.C] at h; simp [h] at hb
  | .ro z n f ex, s, rd, F, b, hH, h, hb => by simp only [SV.C] at h; simp [h.2.1] at hb
  | .own z n f, s, rd, F, b, hH, h, hb => by
    simp only [SV.C] at h
    obtain ⟨h1, A, c, h2, h3, ⟨_, h4⟩ | ⟨b', cs, e, fr, g, h4, h5, h6, h7, h8, h9⟩⟩ := h
    · simp [h4] at hb
    subst h8
    rcases List.mem_cons.1 hb with rfl | hb
    · rw [hH] at h6; simp at h6
    · obtain ⟨k, hk, hbk⟩ := mem_flat.1 hb
      exact no_none (f k) z _ (g k) b hH (h9 k hk) hbk
  | .agg cs, s, rd, F, b, hH, h, hb => by simp only [SV.C] at h; exact no_noneL cs rd F b hH h.2 hb
  | .any, s, rd, F, b, hH, h, hb => by simp [SV.C] at h; simp [h.2.1] at hb
  | .ptr _ _, s, rd, F, b, hH, h, hb => by simp [SV.C] at h
  | .elp _ _ _ _, s, rd, F, b, hH, h, hb => by simp [SV.C] at h
  | .sl _ _ _ _ _ _, s, rd, F, b, hH, h, hb => by simp [SV.C] at h
  | .rop _, s, rd, F, b, hH, h, hb => by simp [SV.C] at h
  | .fn _ _ _, s, rd, F, b, hH, h, hb => by simp [SV.C] at h
  | .tup _, s, rd, F, b, hH, h, hb => by simp [SV.C] at h
  | .yld _, s, rd, F, b, hH, h, hb => by simp [SV.C] at h
  no_noneL : ∀ (xs : List SV) (rd : Rd) (F : List Nat) (b : Nat), H b = none → SV.CL G H xs rd F → b ∈ F → False
  | [], rd, F, b, hH, h, hb => by simp [SV.CL] at h; simp [h] at hb
  | x :: xs, rd, F, b, hH, h, hb => by
    simp only [SV.CL] at h
    obtain ⟨F1, F2, rfl, hna, h1, h2⟩ := h
    rcases List.mem_append.1 hb with hb | hb
    · exact no_none x 1 rd F1 b hH h1 hb
    · exact no_noneL xs _ F2 b hH h2 hb

theorem EntR.some {ρ : Nat → Nat × Nat} {G H : Heap} {S : Sts} {i : Nat} {e : Ent} {F : List Nat} (h : EntR ρ G S H i e F) : ∀ b ∈ F, ∃ o, H b = some o := by
  intro b hb
  cases e with
  | var cs => obtain ⟨c, e, fr, h1, _, _, _, rfl, _⟩ := h; simp at hb; subst hb; exact ⟨_, h1⟩
  | row z n f =>
    rcases h with ⟨_, _, rfl⟩ | ⟨c, e, fr, g, h1, _, _, _, rfl, h5⟩
    · simp at hb
    rcases List.mem_cons.1 hb with rfl | hb
    · exact ⟨_, h1⟩
    · obtain ⟨k, hk, hbk⟩ := mem_flat.1 hb
      exact SV.C_some (f k) z _ (g k) (h5 k hk) b hbk
  | rowo z n f k cs =>
    obtain ⟨c, e, fr, g, h1, _, _, _, rfl, _, _, h7, h8, _⟩ := h
    rcases List.mem_cons.1 hb with rfl | hb
    · exact ⟨_, h1⟩
    · obtain ⟨q, hq, hbq⟩ := mem_flat.1 hb
      by_cases hqk : q = k
      · subst hqk; rw [h7] at hbq; simp at hbq
      · exact SV.C_some (f q) z _ (g q) (h8 q hq hqk) b hbq
  | lp fr s => obtain ⟨r, h1, rfl, _⟩ := h; simp at hb; subst hb; exact ⟨_, h1⟩

theorem Mem.lt {ρ : Nat → Nat × Nat} {g : Gh} {w : World} {L : Ents} {Fp : Nat → List Nat} (h : Mem ρ g w L Fp) {i : Nat} {e : Ent} (hi : (i, e) ∈ L) {b : Nat} (hb : b ∈ Fp i) :
    b < w.heap.size := by
  obtain ⟨o, ho⟩ := (h.ent i e hi).some b hb
  simp only [World.H] at ho
  exact (Array.getElem?_eq_some_iff.1 ho).1

/-- An entry is dropped. -/
theorem Mem.del {ρ : Nat → Nat × Nat} {g : Gh} {w : World} {L : Ents} {Fp : Nat → List Nat} (h : Mem ρ g w L Fp) (i : Nat) : Mem ρ g w (L.del i) Fp where
  keys := Ents.keys_del i h.keys
  ent j e hj := h.ent j e (Ents.mem_del.1 hj).1
  nd j e hj := h.nd j e (Ents.mem_del.1 hj).1
  nb j e hj := h.nb j e (Ents.mem_del.1 hj).1
  dj j e k e' hj hk := h.dj j e k e' (Ents.mem_del.1 hj).1 (Ents.mem_del.1 hk).1
  gb := h.gb
  bw := h.bw
  os := h.os
  out := h.out
  tape := h.tape

/-- Fewer entries. -/
theorem Mem.sub {ρ : Nat → Nat × Nat} {g : Gh} {w : World} {L L' : Ents} {Fp : Nat → List Nat} (h : Mem ρ g w L Fp) (hk : (L'.map (·.1)).Nodup) (hs : ∀ p ∈ L', p ∈ L) : Mem ρ g w L' Fp where
  keys := hk
  ent j e hj := h.ent j e (hs _ hj)
  nd j e hj := h.nd j e (hs _ hj)
  nb j e hj := h.nb j e (hs _ hj)
  dj j e k e' hj hk := h.dj j e k e' (hs _ hj) (hs _ hk)
  gb := h.gb
  bw := h.bw
  os := h.os
  out := h.out
  tape := h.tape

/-- One entry turns, with its blocks; the world turns at blocks of that entry and at new ones alone. -/
theorem Mem.turn {ρ ρ' : Nat → Nat × Nat} {g : Gh} {w w' : World} {L L' : Ents} {Fp : Nat → List Nat} (h : Mem ρ g w L Fp) (i : Nat) (e' : Ent) (F' : List Nat)
    (hL : ∀ j e, (j, e) ∈ L' → (j = i ∧ e = e') ∨ ((j, e) ∈ L ∧ j ≠ i)) (hkeys : (L'.map (·.1)).Nodup)
    (hρ : ∀ j e, (j, e) ∈ L → j ≠ i → ρ' j = ρ j ∧ ∀ k, e.names k = true → ρ' k = ρ k)
    (hH : ∀ b, b < w.heap.size → (b ∉ Fp i ∨ ∀ e, (i, e) ∉ L) → World.H w' b = World.H w b)
    (he : EntR ρ' g.G g.S (World.H w') i e' F') (hnd : F'.Nodup) (hF : ∀ b ∈ F', (b ∈ Fp i ∧ ∃ e, (i, e) ∈ L) ∨ w.heap.size ≤ b)
    (hos : w'.os = w.os) (hout : w'.output = w.output) (htape : w'.tape = w.tape) :
    Mem ρ' g w' L' (fun j => if j = i then F' else Fp j) := by
  have hB : ∀ b o, g.B b = some o → b < w.heap.size := fun b o hb => by
    have := h.bw b o hb
    simp only [World.H] at this
    exact (Array.getElem?_eq_some_iff.1 this).1
  have hold : ∀ j e, (j, e) ∈ L → j ≠ i → ∀ b ∈ Fp j, World.H w' b = World.H w b := by
    intro j e hj hne b hb
    refine hH b (h.lt hj hb) ?_
    by_cases hi : ∃ e0, (i, e0) ∈ L
    · obtain ⟨e0, hi⟩ := hi
      exact .inl (h.dj j e i e0 hj hi hne b hb)
    · exact .inr (fun e0 h0 => hi ⟨e0, h0⟩)
  refine ⟨hkeys, ?_, ?_, ?_, ?_, h.gb, ?_, hos.trans h.os, hout.trans h.out, htape.trans h.tape⟩
  · intro j e hj
    rcases hL j e hj with ⟨rfl, rfl⟩ | ⟨hm, hne⟩
    · simpa using he
    · simp only [hne, if_false]
      exact (h.ent j e hm).mono (Heap.le_refl _) rfl (hold j e hm hne) (hρ j e hm hne).1 (hρ j e hm hne).2
  · intro j e hj
    rcases hL j e hj with ⟨rfl, rfl⟩ | ⟨hm, hne⟩
    · simpa using hnd
    · simpa [hne] using h.nd j e hm
  · intro j e hj b hb
    rcases hL j e hj with ⟨rfl, rfl⟩ | ⟨hm, hne⟩
    · simp at hb
      rcases hF b hb with ⟨h1, e0, h2⟩ | h1
      · exact h.nb _ e0 h2 b h1
      · cases hbb : g.B b with
        | none => rfl
        | some o => have := hB b o hbb; omega
    · simp [hne] at hb; exact h.nb j e hm b hb
  · intro j e k ek hj hk hne b hb
    rcases hL j e hj with ⟨rfl, rfl⟩ | ⟨hm, hji⟩
    · simp at hb
      rcases hL k ek hk with ⟨rfl, _⟩ | ⟨hmk, hki⟩
      · exact absurd rfl hne
      · simp only [hki, if_false]
        rcases hF b hb with ⟨h1, e0, h2⟩ | h1
        · exact h.dj _ e0 k ek h2 hmk (Ne.symm hki) b h1
        · intro hb'; have := h.lt hmk hb'; omega
    · simp only [hji, if_false] at hb
      rcases hL k ek hk with ⟨rfl, rfl⟩ | ⟨hmk, hki⟩
      · simp only [if_true]
        intro hb'
        rcases hF b hb' with ⟨h1, e0, h2⟩ | h1
        · exact h.dj j e _ e0 hm h2 hji b hb h1
        · have := h.lt hm hb; omega
      · simp only [hki, if_false]; exact h.dj j e k ek hm hmk hne b hb
  · intro b o hb
    have h1 := h.bw b o hb
    rw [← h1]
    refine hH b (hB b o hb) ?_
    by_cases hi : ∃ e0, (i, e0) ∈ L
    · obtain ⟨e0, hi⟩ := hi
      refine .inl (fun hm => ?_)
      have := h.nb i e0 hi b hm
      rw [this] at hb; simp at hb
    · exact .inr (fun e0 h0 => hi ⟨e0, h0⟩)
end Go.Sym

/- Abstract states, what it means that a frame and a world have one, and the small laws of the model's operations that the walk rests on. -/
namespace Go.Sym

/-- An abstract state: the frame's slots (the first row of a slot counts), the entries, the next id, the slots whose bool is decided. -/
structure St where
  fr : List (Nat × SV)
  L : Ents
  nx : Nat
  dec : List (Nat × Bool) := []
  base : Nat := 0

def dget : List (Nat × Bool) → Nat → Option Bool
  | [], _ => none
  | (d, x) :: r, t => cond (Nat.beq d t) (some x) (dget r t)

def ddel : List (Nat × Bool) → Nat → List (Nat × Bool)
  | [], _ => []
  | (d, x) :: r, t => cond (Nat.beq d t) (ddel r t) ((d, x) :: ddel r t)

def St.ev (st : St) : Operand → SV
  | .tmp t => fget st.fr t
  | .const v => .v v
  | .global g => .v (.pointer (some ⟨g, 0, none⟩))
  | .func f => .fn f [] []

def St.put (st : St) (dst : Option Tmp) (x : SV) : St :=
  match dst with
  | some d => { st with fr := (d, x) :: st.fr, dec := ddel st.dec d }
  | none => st


def Dec (dec : List (Nat × Bool)) (tmps : Array Value) : Prop := ∀ t b, dget dec t = some b → tmps[t]? = some (.bool b)

def markOf (D : Nat) : Deferred := { target := .collected D, args := #[] }

/-- The blocks that the marks among the deferred calls name. -/
structure Marks (g : Gh) (w : World) (L : Ents) (Fp : Nat → List Nat) (ms : List Nat) : Prop where
  at_ : ∀ m ∈ ms, w.heap[m]? = some (.deferred (some []))
  nb : ∀ m ∈ ms, g.B m = none
  nf : ∀ m ∈ ms, ∀ i e, (i, e) ∈ L → m ∉ Fp i
  nd : ms.Nodup

structure Cfg (N : Nat) (st : St) (g : Gh) (a : Act) (w : World) (ρ : Nat → Nat × Nat) (Fp : Nat → List Nat) (ms : List Nat) : Prop where
  mem : Mem ρ g w st.L Fp
  frm : Frm ρ g.G st.fr a.tmps
  dec : Dec st.dec a.tmps
  size : a.tmps.size = N
  defers : a.defers = ms.map markOf
  marks : Marks g w st.L Fp ms
  base : ∀ i, i < st.base → ρ i = g.ρ0 i

/-- What an operation leaves as it is. -/
structure Same (st st' : St) (ρ ρ' : Nat → Nat × Nat) : Prop where
  dec : st'.dec = st.dec
  base : st'.base = st.base
  ρ : ∀ i, i < st.base → ρ' i = ρ i

theorem Same.refl (st : St) (ρ : Nat → Nat × Nat) : Same st st ρ ρ := ⟨rfl, rfl, fun _ _ => rfl⟩

def Holds (N : Nat) (st : St) (g : Gh) (a : Act) (w : World) : Prop := ∃ ρ Fp ms, Cfg N st g a w ρ Fp ms

def FW (r : Option Nat) : Fence := { Fence.wide with round := r }

def Post (N : Nat) (g : Gh) (Q : Exit → St → Prop) (e : Exit) (a : Act) (w : World) : Prop := ∃ g' st', g.le g' ∧ Holds N st' g' a w ∧ Q e st'

/-- From every frame and world that have the state the code comes to a state that Q takes. -/
def WP (P : Program) (r : Option Nat) (N : Nat) (c : Code) (st : St) (Q : Exit → St → Prop) : Prop :=
  ∀ g a w, Holds N st g a w → c.wpIn (FW r) 0 P (Post N g Q) a w

/-- The same of one operation (its guard not looked at). -/
def WPop (P : Program) (r : Option Nat) (N : Nat) (o : Oper) (st : St) (K : St → Prop) : Prop :=
  ∀ g a w, Holds N st g a w → o.wpIn (FW r) 0 P a w (fun a' w' => ∃ g' st', g.le g' ∧ Holds N st' g' a' w' ∧ K st') (fun _ _ _ => False)

/-- The same of a list of a region's operations. -/
def WPops (P : Program) (r : Option Nat) (N : Nat) (ops : Array Oper) (l : List Nat) (st : St) (K : St → Prop) : Prop :=
  ∀ g a w, Holds N st g a w → wpOpsIn (FW r) 0 P ops (Post N g (fun e st' => (match e with | .normal => K st' | _ => False))) l a w

theorem frm_ev {ρ : Nat → Nat × Nat} {G : Heap} {st : St} {a : Act} (h : Frm ρ G st.fr a.tmps) (x : Operand) : (st.ev x).R ρ G (a.eval x) := by
  cases x with
  | tmp t => exact h t
  | const v => simp [St.ev, Act.eval, SV.R]
  | global g => simp [St.ev, Act.eval, SV.R]
  | func f => simp [St.ev, Act.eval, SV.R, SV.RL]

theorem fget_cons (d : Nat) (x : SV) (r : List (Nat × SV)) (t : Nat) : fget ((d, x) :: r) t = if d = t then x else fget r t := by
  by_cases h : d = t
  · subst h; simp [fget]
  · have : Nat.beq d t = false := by
      rw [Bool.eq_false_iff]; intro hb; exact h (Nat.eq_of_beq_eq_true hb)
    simp [fget, this, h]

theorem frm_put {ρ : Nat → Nat × Nat} {G : Heap} {fr : List (Nat × SV)} {tmps : Array Value} (h : Frm ρ G fr tmps) {d : Nat} (hd : d < tmps.size) {x : SV} {u : Value} (hx : x.R ρ G u) :
    Frm ρ G ((d, x) :: fr) (tmps.setIfInBounds d u) := by
  intro t
  rw [fget_cons]
  by_cases hdt : d = t
  · subst hdt; simp [Array.getD_eq_getD_getElem?, hd, hx]
  · simp only [hdt, if_false]
    have := h t
    simpa [Array.getD_eq_getD_getElem?, Array.getElem?_setIfInBounds, hdt] using this

theorem dget_cons (d : Nat) (x : Bool) (r : List (Nat × Bool)) (t : Nat) : dget ((d, x) :: r) t = if d = t then some x else dget r t := by
  by_cases h : d = t
  · subst h; simp [dget]
  · have : Nat.beq d t = false := by
      rw [Bool.eq_false_iff]; intro hb; exact h (Nat.eq_of_beq_eq_true hb)
    simp [dget, this, h]

theorem ddel_cons (d : Nat) (x : Bool) (r : List (Nat × Bool)) (t : Nat) : ddel ((d, x) :: r) t = if d = t then ddel r t else (d, x) :: ddel r t := by
  by_cases h : d = t
  · subst h; simp [ddel]
  · have : Nat.beq d t = false := by
      rw [Bool.eq_false_iff]; intro hb; exact h (Nat.eq_of_beq_eq_true hb)
    simp [ddel, this, h]

theorem dget_ddel (r : List (Nat × Bool)) (d t : Nat) : dget (ddel r d) t = if d = t then none else dget r t := by
  induction r with
  | nil => simp [dget, ddel]
  | cons p r ih =>
    obtain ⟨k, b⟩ := p
    rw [ddel_cons]
    by_cases hk : k = d
    · subst hk; simp only [if_true, ih, dget_cons]; by_cases hdt : k = t <;> simp [hdt]
    · simp only [hk, if_false, dget_cons, ih]
      by_cases hkt : k = t
      · subst hkt; simp [Ne.symm hk]
      · simp [hkt]

theorem dec_put {dec : List (Nat × Bool)} {tmps : Array Value} (h : Dec dec tmps) (d : Nat) (u : Value) : Dec (ddel dec d) (tmps.setIfInBounds d u) := by
  intro t b hb
  rw [dget_ddel] at hb
  by_cases hdt : d = t
  · simp [hdt] at hb
  · simp only [hdt, if_false] at hb
    have := h t b hb
    rw [Array.getElem?_setIfInBounds]; simp [hdt, this]

/-- The state behind an operation's result. -/
theorem Cfg.put {N : Nat} {st st' : St} {g : Gh} {a : Act} {w w' : World} {ρ ρ' : Nat → Nat × Nat} {Fp Fp' : Nat → List Nat} {ms : List Nat} (h : Cfg N st g a w ρ Fp ms) (hmem : Mem ρ' g w' st'.L Fp')
    (hfrm : Frm ρ' g.G st'.fr a.tmps) (hsame : Same st st' ρ ρ') (hmk : Marks g w' st'.L Fp' ms) {dst : Option Tmp} (hd : ∀ d, dst = some d → d < N) {x : SV} {u : Value} (hx : x.R ρ' g.G u) :
    Cfg N (st'.put dst x) g (a.put dst u) w' ρ' Fp' ms := by
  cases dst with
  | none => exact ⟨hmem, hfrm, by rw [show (st'.put none x).dec = st'.dec from rfl, hsame.dec]; exact h.dec, h.size, h.defers, hmk, fun i hi => (hsame.ρ i (hsame.base ▸ hi)).trans (h.base i (hsame.base ▸ hi))⟩
  | some d =>
    refine ⟨hmem, frm_put hfrm (by rw [h.size]; exact hd d rfl) hx, ?_, by simp [Act.put, h.size], h.defers, hmk, fun i hi => (hsame.ρ i (hsame.base ▸ hi)).trans (h.base i (hsame.base ▸ hi))⟩
    show Dec (ddel st'.dec d) _
    rw [hsame.dec]
    exact dec_put h.dec d u

theorem frm_mono {ρ ρ' : Nat → Nat × Nat} {G : Heap} {fr : List (Nat × SV)} {tmps : Array Value} (h : Frm ρ G fr tmps) (hn : ∀ t i, (fget fr t).names i = true → ρ' i = ρ i) : Frm ρ' G fr tmps :=
  fun t => SV.R_mono (Heap.le_refl _) _ _ (hn t) (h t)

/-- Does no slot, no entry name the id. -/
def frFresh (fr : List (Nat × SV)) (i : Nat) : Bool := fr.all (fun p => !(p.2.names i))
def lFresh (L : Ents) (i : Nat) : Bool := L.all (fun p => !(p.1 == i) && !(p.2.names i))
def St.fresh (st : St) : Bool := (frFresh st.fr st.nx && lFresh st.L st.nx) && Nat.ble st.base st.nx

theorem fget_fresh {fr : List (Nat × SV)} {i : Nat} (h : frFresh fr i = true) (t : Nat) : (fget fr t).names i = false := by
  induction fr with
  | nil => simp [fget, SV.names]
  | cons p r ih =>
    obtain ⟨d, x⟩ := p
    simp only [frFresh, List.all_cons, Bool.and_eq_true, Bool.not_eq_true'] at h
    rw [fget_cons]
    by_cases hd : d = t
    · simp [hd, h.1]
    · simp only [hd, if_false]; exact ih h.2

/-- A new block under a new id. -/
def upd {α : Type} (ρ : Nat → α) (i : Nat) (v : α) : Nat → α := fun j => if j = i then v else ρ j
theorem upd_same {α : Type} (ρ : Nat → α) (i : Nat) (v : α) : upd ρ i v i = v := by simp [upd]
theorem upd_ne {α : Type} (ρ : Nat → α) {i j : Nat} (v : α) (h : j ≠ i) : upd ρ i v j = ρ j := by simp [upd, h]

theorem World.H_alloc_lt {w : World} {o : Obj} {b : Nat} (h : b < w.heap.size) : World.H (w.alloc o) b = World.H w b := by
  show (w.heap.push o)[b]? = _
  rw [Array.getElem?_push, if_neg (by omega)]; rfl
theorem World.H_alloc_new {w : World} {o : Obj} : World.H (w.alloc o) w.heap.size = some o := by
  show (w.heap.push o)[w.heap.size]? = some o
  simp

theorem Marks.keep {g : Gh} {w w' : World} {L L' : Ents} {Fp Fp' : Nat → List Nat} {ms : List Nat} (h : Marks g w L Fp ms) (hw : ∀ m ∈ ms, w'.heap[m]? = w.heap[m]?) (hf : ∀ m ∈ ms, ∀ i e, (i, e) ∈ L' → m ∉ Fp' i) : Marks g w' L' Fp' ms :=
  ⟨fun m hm => (hw m hm).trans (h.at_ m hm), h.nb, hf, h.nd⟩

theorem Marks.lt {g : Gh} {w : World} {L : Ents} {Fp : Nat → List Nat} {ms : List Nat} (h : Marks g w L Fp ms) {m : Nat} (hm : m ∈ ms) : m < w.heap.size :=
  (Array.getElem?_eq_some_iff.1 (h.at_ m hm)).1

/-- A NEW ENTRY: a block is laid; it stands under the state's next id. -/
theorem Cfg.alloc {N : Nat} {st : St} {g : Gh} {a : Act} {w : World} {ρ : Nat → Nat × Nat} {Fp : Nat → List Nat} {ms : List Nat} (h : Cfg N st g a w ρ Fp ms) (hfresh : st.fresh = true)
    {c : Array Value} {t : TypeId} {fr : Nat × Nat} {e : Ent} {F' : List Nat} {L0 : Ents} (hL0 : ∀ p ∈ L0, p ∈ st.L) (hk0 : (L0.map (·.1)).Nodup)
    (he : ∀ ρ', ρ' st.nx = (w.heap.size, c.size) → (∀ j, j ≠ st.nx → ρ' j = ρ j) → EntR ρ' g.G g.S (World.H (w.alloc (.cells c t fr))) st.nx e F')
    (hnd : F'.Nodup) (hF : ∀ b ∈ F', (g.B b = none ∧ (∃ i e, (i, e) ∈ st.L ∧ b ∈ Fp i) ∧ ∀ i e, (i, e) ∈ L0 → b ∉ Fp i) ∨ b = w.heap.size) :
    Mem (upd ρ st.nx (w.heap.size, c.size)) g (w.alloc (.cells c t fr)) ((st.nx, e) :: L0) (upd Fp st.nx F') ∧
      Frm (upd ρ st.nx (w.heap.size, c.size)) g.G st.fr a.tmps ∧ Marks g (w.alloc (.cells c t fr)) ((st.nx, e) :: L0) (upd Fp st.nx F') ms := by
  obtain ⟨hfr, hL⟩ : frFresh st.fr st.nx = true ∧ lFresh st.L st.nx = true := by
    simp only [St.fresh, Bool.and_eq_true] at hfresh; exact hfresh.1
  have hLne : ∀ i e, (i, e) ∈ st.L → i ≠ st.nx ∧ e.names st.nx = false := by
    intro i e hi
    have := List.all_eq_true.1 hL _ hi
    simpa using this
  have hB : ∀ b o, g.B b = some o → b < w.heap.size := fun b o hb => by
    have := h.mem.bw b o hb
    simp only [World.H] at this
    exact (Array.getElem?_eq_some_iff.1 this).1
  refine ⟨⟨?_, ?_, ?_, ?_, ?_, h.mem.gb, ?_, h.mem.os, h.mem.out, h.mem.tape⟩, ?_, ?_⟩
  · simp only [List.map_cons, List.nodup_cons]
    refine ⟨?_, hk0⟩
    intro hm
    obtain ⟨⟨i, e0⟩, hi, hie⟩ := List.mem_map.1 hm
    exact (hLne i e0 (hL0 _ hi)).1 hie
  · intro i ei hi
    rcases List.mem_cons.1 hi with hi | hi
    · cases hi
      rw [upd_same]
      exact he _ (upd_same _ _ _) (fun j hj => upd_ne _ _ hj)
    · have hm := hL0 _ hi
      rw [upd_ne _ _ (hLne i ei hm).1]
      exact (h.mem.ent i ei hm).mono (Heap.le_refl _) rfl (fun b hb => World.H_alloc_lt (h.mem.lt hm hb)) (upd_ne _ _ (hLne i ei hm).1)
        (fun j hj => upd_ne _ _ (fun hjn => by rw [hjn, (hLne i ei hm).2] at hj; simp at hj))
  · intro i ei hi
    rcases List.mem_cons.1 hi with hi | hi
    · cases hi; rw [upd_same]; exact hnd
    · have hm := hL0 _ hi
      rw [upd_ne _ _ (hLne i ei hm).1]; exact h.mem.nd i ei hm
  · intro i ei hi b hb
    rcases List.mem_cons.1 hi with hi | hi
    · cases hi
      rw [upd_same] at hb
      rcases hF b hb with h1 | rfl
      · exact h1.1
      · cases hbb : g.B w.heap.size with
        | none => rfl
        | some o => have := hB _ o hbb; omega
    · have hm := hL0 _ hi
      rw [upd_ne _ _ (hLne i ei hm).1] at hb; exact h.mem.nb i ei hm b hb
  · intro i ei j ej hi hj hne b hb
    rcases List.mem_cons.1 hi with hi | hi
    · cases hi
      rcases List.mem_cons.1 hj with hj | hj
      · cases hj; exact absurd rfl hne
      · have hmj := hL0 _ hj
        rw [upd_same] at hb
        rw [upd_ne _ _ (hLne j ej hmj).1]
        rcases hF b hb with h1 | rfl
        · exact h1.2.2 j ej hj
        · intro hb'; have := h.mem.lt hmj hb'; omega
    · have hmi := hL0 _ hi
      rw [upd_ne _ _ (hLne i ei hmi).1] at hb
      rcases List.mem_cons.1 hj with hj | hj
      · cases hj
        rw [upd_same]
        intro hb'
        rcases hF b hb' with h1 | rfl
        · exact h1.2.2 i ei hi hb
        · have := h.mem.lt hmi hb; omega
      · have hmj := hL0 _ hj
        rw [upd_ne _ _ (hLne j ej hmj).1]; exact h.mem.dj i ei j ej hmi hmj hne b hb
  · intro b o hb
    rw [World.H_alloc_lt (hB b o hb)]; exact h.mem.bw b o hb
  · refine frm_mono h.frm (fun t i hi => upd_ne _ _ (fun hin => ?_))
    rw [hin, fget_fresh hfr t] at hi; simp at hi
  · refine h.marks.keep (fun m hm => ?_) (fun m hm i ei hi => ?_)
    · exact World.H_alloc_lt (h.marks.lt hm)
    · rcases List.mem_cons.1 hi with hi | hi
      · cases hi
        rw [upd_same]
        intro hm'
        rcases hF m hm' with ⟨_, ⟨i0, e0, h2, h3⟩, _⟩ | rfl
        · exact h.marks.nf m hm i0 e0 h2 h3
        · have := h.marks.lt hm; omega
      · have hmi := hL0 _ hi
        rw [upd_ne _ _ (hLne i ei hmi).1]; exact h.marks.nf m hm i ei hmi
end Go.Sym

/- Operations that touch no memory: what they come to on symbolic values, and that the model's operation does come to it. -/
namespace Go.Sym

def I64 (n : Int) : Prop := -9223372036854775808 ≤ n ∧ n ≤ 9223372036854775807

theorem wrap_i64 {n : Int} (h : I64 n) : IntKind.i64.wrap n = n := IntWalk.i64_in n h

/-- A sum in its kind: of 64 bits with the sign it must fit; of the others it wraps. -/
def fitC (k : IntKind) (n : Int) : Prop := match k with | .i64 => I64 n | _ => True
def fitV (k : IntKind) (n : Int) : Int := match k with | .i64 => n | k => k.wrap n
theorem fit_eq {k : IntKind} {n : Int} (h : fitC k n) : k.wrap n = fitV k n := by
  cases k <;> first | rfl | exact wrap_i64 h

def bitsOp (op : BinOp) (k : IntKind) (x y : Int) : Int :=
  let a := BitVec.ofInt k.bits x
  let b := BitVec.ofInt k.bits y
  match op with
  | .and => k.wrap (a &&& b).toNat
  | .or => k.wrap (a ||| b).toNat
  | .xor => k.wrap (a ^^^ b).toNat
  | _ => k.wrap (a &&& ~~~b).toNat

def strLt (x y : ByteArray) : Bool := Op.bytesLess x.toList y.toList

def isSlice (d : Option TypeDesc) : Bool := match d with | some (.slice _) => true | _ => false
def isPtr (d : Option TypeDesc) : Bool := match d with | some (.pointer _) => true | _ => false
def isBool (d : Option TypeDesc) : Bool := match d with | some .bool => true | _ => false
def isFunc (d : Option TypeDesc) : Bool := match d with | some (.func _ _ _) => true | _ => false

def isNilV (x : SV) : Bool := match x with | .v (.slice none _ _) => true | .v (.pointer none) => true | .v .nilFunc => true | _ => false

/-- Equality with nil, or of two bools. -/
def sEq (P : Program) (ty : TypeId) (x y : SV) : Option (Prop × Bool) :=
  match x, y with
  | .v (.bool a), .v (.bool b) => if isBool (P.underlying ty) then some (True, a == b) else none
  | .sl _ _ _ len _ _, .v (.slice none _ _) => if isSlice (P.underlying ty) then some (0 < len, false) else none
  | .ro _ n _ _, .v (.slice none _ _) => if isSlice (P.underlying ty) then some (0 < n, false) else none
  | .v (.slice none _ _), .v (.slice none _ _) => if isSlice (P.underlying ty) then some (True, true) else none
  | .v (.slice (some _) _ _), .v (.slice none _ _) => if isSlice (P.underlying ty) then some (True, false) else none
  | .ptr _ _, .v (.pointer none) => if isPtr (P.underlying ty) then some (True, false) else none
  | .elp _ _ _ _, .v (.pointer none) => if isPtr (P.underlying ty) then some (True, false) else none
  | .rop _, .v (.pointer none) => if isPtr (P.underlying ty) then some (True, false) else none
  | .v (.pointer none), .v (.pointer none) => if isPtr (P.underlying ty) then some (True, true) else none
  | .fn _ _ _, .v .nilFunc => if isFunc (P.underlying ty) then some (True, false) else none
  | .v .nilFunc, .v .nilFunc => if isFunc (P.underlying ty) then some (True, true) else none
  | _, _ => none

def sInt (op : BinOp) (k : IntKind) (a b : Int) : Option (Prop × SV) :=
  match op with
  | .add => some (fitC k (a + b), .v (.int k (fitV k (a + b))))
  | .sub => some (fitC k (a - b), .v (.int k (fitV k (a - b))))
  | .mul => some (fitC k (a * b), .v (.int k (fitV k (a * b))))
  | .quo => some (b ≠ 0 ∧ fitC k (a.tdiv b), .v (.int k (fitV k (a.tdiv b))))
  | .rem => some (b ≠ 0, .v (.int k (a.tmod b)))
  | .and => some (True, .v (.int k (bitsOp .and k a b)))
  | .or => some (True, .v (.int k (bitsOp .or k a b)))
  | .xor => some (True, .v (.int k (bitsOp .xor k a b)))
  | .andNot => some (True, .v (.int k (bitsOp .andNot k a b)))
  | .eql => some (True, .v (.bool (a == b)))
  | .neq => some (True, .v (.bool (a != b)))
  | .lss => some (True, .v (.bool (decide (a < b))))
  | .leq => some (True, .v (.bool (decide (a ≤ b))))
  | .gtr => some (True, .v (.bool (decide (a > b))))
  | .geq => some (True, .v (.bool (decide (a ≥ b))))
  | _ => none

def sStr (op : BinOp) (a b : ByteArray) : Option (Prop × SV) :=
  match op with
  | .add => some (((a.size + b.size : Nat) : Int) ≤ 9223372036854775807, .v (.string (a ++ b)))
  | .eql => some (True, .v (.bool (a.toList == b.toList)))
  | .neq => some (True, .v (.bool (!(a.toList == b.toList))))
  | .lss => some (True, .v (.bool (strLt a b)))
  | .leq => some (True, .v (.bool (strLt a b || a.toList == b.toList)))
  | .gtr => some (True, .v (.bool (!(strLt a b || a.toList == b.toList))))
  | .geq => some (True, .v (.bool (!(strLt a b))))
  | _ => none

def sBin (P : Program) (op : BinOp) (ty : TypeId) (x y : SV) : Option (Prop × SV) :=
  match x, y with
  | .v (.int k a), .v (.int k' b) =>
    match op with
    | .shl => some (0 ≤ b, .v (.int k (k.wrap (a * 2 ^ (min b.toNat k.bits)))))
    | .shr => some (0 ≤ b, .v (.int k (a.fdiv (2 ^ (min b.toNat k.bits)))))
    | _ => if k = k' then sInt op k a b else none
  | .v (.string a), .v (.string b) => sStr op a b
  | x, y =>
    match op with
    | .eql => (sEq P ty x y).map fun b => (b.1, .v (.bool b.2))
    | .neq => (sEq P ty x y).map fun b => (b.1, .v (.bool (!b.2)))
    | _ => none

theorem eqGuard_ok {P : Program} {w : World} (op : BinOp) (t : TypeId) (x y : Operand) (a b : Value) (h : ∀ cs ds, ¬ (a = .agg cs ∧ b = .agg ds)) (h' : ¬ (a = .nilIface ∧ b = .nilIface)) :
    (eqGuard op t x y a b).run P w = .ok () w := by
  unfold eqGuard
  split <;> first
    | rfl
    | (simp only [Bool.not_true, Bool.false_eq_true, if_false]
       split
       · exact absurd ⟨rfl, rfl⟩ h'
       · exact absurd ⟨rfl, rfl⟩ (h _ _)
       · rfl)

theorem run_intArith {P : Program} {w : World} {op : BinOp} {k : IntKind} {a b : Int} {c : Prop} {x : SV} (h : sInt op k a b = some (c, x)) (hc : c) :
    ∃ u, x = .v u ∧ (binOp op 0 (.int k a) (.int k b)).run P w = .ok u w := by
  cases op <;> simp only [sInt, Option.some.injEq, Prod.mk.injEq, reduceCtorEq] at h <;> obtain ⟨rfl, rfl⟩ := h <;> refine ⟨_, rfl, ?_⟩ <;>
    simp only [binOp, ne_eq, not_true_eq_false, if_false, Op.intArith, Op.intDiv, Op.intBits, Op.intCmp, bitsOp] <;>
    first
      | (rw [fit_eq hc]; rfl)
      | (rw [if_neg hc.1, fit_eq hc.2]; rfl)
      | (rw [if_neg hc]; rfl)
      | rfl

theorem binOp_int_ty {op : BinOp} {t : TypeId} {k k' : IntKind} {a b : Int} : binOp op t (.int k a) (.int k' b) = binOp op 0 (.int k a) (.int k' b) := by
  cases op <;> rfl

theorem i64max : IntKind.i64.max = 9223372036854775807 := by decide

theorem run_stringOp {P : Program} {w : World} {op : BinOp} {t : TypeId} {a b : ByteArray} {c : Prop} {x : SV} (h : sStr op a b = some (c, x)) (hc : c) :
    ∃ u, x = .v u ∧ (binOp op t (.string a) (.string b)).run P w = .ok u w := by
  cases op <;> simp only [sStr, Option.some.injEq, Prod.mk.injEq, reduceCtorEq] at h <;> obtain ⟨rfl, rfl⟩ := h <;> refine ⟨_, rfl, ?_⟩ <;>
    simp only [binOp, Op.stringOp, strLt] <;>
    first
      | (rw [if_neg (by rw [i64max]; omega)]; rfl)
      | rfl


theorem equal_eq (t : TypeId) (x y : Value) : Op.equal t x y = Op.equalIn (9999 + 1) t x y := rfl

theorem run_sEq {P : Program} {w : World} {ρ : Nat → Nat × Nat} {G : Heap} {ty : TypeId} {x y : SV} {a b : Value} {c : Prop} {r : Bool} (h : sEq P ty x y = some (c, r)) (hcc : c) (hx : x.R ρ G a) (hy : y.R ρ G b) :
    (Op.equal ty a b).run P w = .ok r w ∧ (∀ op, (eqGuard op ty (.const a) (.const b) a b).run P w = .ok () w) ∧ (∀ op p q, (eqGuard op ty p q a b).run P w = .ok () w) ∧
      (∀ op, op = .eql ∨ op = .neq → binOp op ty a b = (match op with | .eql => do pure (.bool (← Op.equal ty a b)) | _ => do pure (.bool (!(← Op.equal ty a b))))) := by
  have hu : ∀ {d : TypeDesc}, P.underlying ty = some d → ∀ (w : World), (underlying ty).run P w = .ok d w := fun h w => run_underlying h w
  unfold sEq at h
  split at h <;> (try (simp at h; done)) <;> (split at h <;> (try (simp at h; done))) <;> rename_i hd <;> simp only [Option.some.injEq, Prod.mk.injEq] at h <;> obtain ⟨rfl, rfl⟩ := h <;>
    simp only [SV.R] at hx hy <;> (try subst hx) <;> (try subst hy)
  all_goals
    first
      | (obtain ⟨p, c, rfl, h1, h2, h3, h4, h5⟩ := hx
         rcases h4 with h4 | rfl
         · omega)
      | (simp only [SV.C] at hx
         obtain ⟨_, _, A, c, h1, h2, _, h3⟩ := hx
         simp [one] at h1
         subst h1
         rcases h3 with h3 | ⟨bb, oo, cs, e, fr, rfl, _⟩
         · omega)
      | (obtain ⟨bb, o, c, e, fr, rfl, _⟩ := hx) | (obtain ⟨us, vs, rfl, _⟩ := hx) | skip
  all_goals
    (simp only [isBool, isSlice, isPtr, isFunc] at hd
     split at hd <;> simp only [Bool.false_eq_true] at hd
     rename_i d heq
     refine ⟨?_, fun op => ?_, fun op p q => ?_, fun op ho => ?_⟩
     · rw [equal_eq]; unfold Op.equalIn; simp only [Sem.run_bind, hu heq, Result.andThen_ok]; rfl
     · exact eqGuard_ok _ _ _ _ _ _ (by simp) (by simp)
     · exact eqGuard_ok _ _ _ _ _ _ (by simp) (by simp)
     · rcases ho with rfl | rfl <;> rfl)

theorem run_sBin {P : Program} {w : World} {ρ : Nat → Nat × Nat} {G : Heap} {op : BinOp} {ty : TypeId} {x y : SV} {a b : Value} {c : Prop} {r : SV} (p q : Operand) (h : sBin P op ty x y = some (c, r)) (hc : c)
    (hx : x.R ρ G a) (hy : y.R ρ G b) : ∃ u, r = .v u ∧ (do eqGuard op ty p q a b; binOp op ty a b : Sem Value).run P w = .ok u w := by
  unfold sBin at h
  split at h
  · rename_i k n k' m
    simp only [SV.R] at hx hy
    subst hx hy
    have hg : ∀ w, (eqGuard op ty p q (.int k n) (.int k' m)).run P w = .ok () w := fun w => eqGuard_ok _ _ _ _ _ _ (by simp) (by simp)
    split at h
    · simp only [Option.some.injEq, Prod.mk.injEq] at h
      obtain ⟨rfl, rfl⟩ := h
      refine ⟨_, rfl, ?_⟩
      simp only [Sem.run_bind, hg, Result.andThen_ok, binOp, Op.shift]
      rw [if_neg (by omega)]; rfl
    · simp only [Option.some.injEq, Prod.mk.injEq] at h
      obtain ⟨rfl, rfl⟩ := h
      refine ⟨_, rfl, ?_⟩
      simp only [Sem.run_bind, hg, Result.andThen_ok, binOp, Op.shift]
      rw [if_neg (by omega)]; rfl
    · split at h
      · rename_i hk
        subst hk
        obtain ⟨u, h1, h2⟩ := run_intArith (P := P) (w := w) h hc
        refine ⟨u, h1, ?_⟩
        simp only [Sem.run_bind, hg, Result.andThen_ok]
        rw [binOp_int_ty]; exact h2
      · simp at h
  · rename_i s t
    simp only [SV.R] at hx hy
    subst hx hy
    obtain ⟨u, h1, h2⟩ := run_stringOp (P := P) (w := w) (t := ty) h hc
    refine ⟨u, h1, ?_⟩
    simp only [Sem.run_bind, eqGuard_ok (P := P) (w := w) op ty p q (.string s) (.string t) (by simp) (by simp), Result.andThen_ok]
    exact h2
  · split at h
    · simp only [Option.map_eq_some_iff, Prod.mk.injEq] at h
      obtain ⟨b', h1, rfl, rfl⟩ := h
      obtain ⟨e1, _, e2, e3⟩ := run_sEq (w := w) h1 hc hx hy
      refine ⟨_, rfl, ?_⟩
      simp only [Sem.run_bind, e2, Result.andThen_ok]
      rw [e3 _ (.inl rfl)]
      simp [e1]
    · simp only [Option.map_eq_some_iff, Prod.mk.injEq] at h
      obtain ⟨b', h1, rfl, rfl⟩ := h
      obtain ⟨e1, _, e2, e3⟩ := run_sEq (w := w) h1 hc hx hy
      refine ⟨_, rfl, ?_⟩
      simp only [Sem.run_bind, e2, Result.andThen_ok]
      rw [e3 _ (.inr rfl)]
      simp [e1]
    · simp at h
end Go.Sym
