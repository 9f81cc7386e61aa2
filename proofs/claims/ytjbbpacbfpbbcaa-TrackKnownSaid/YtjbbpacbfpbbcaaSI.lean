/- The condition of a piece of code, and that it suffices. -/
import Derived.Test.YtjbbpacbfpbbcaaSH
set_option linter.all false
set_option linter.unusedSimpArgs false
set_option linter.unusedVariables false
set_option linter.deprecated false
set_option linter.unusedSimpArgs false
set_option linter.unusedVariables false
namespace Go.Sym

/-- What each operation waits for. -/
def mkA (l : List Oper) : List (List Nat) :=
  l.foldl (fun acc o => acc ++ [(o.after.toList.filter (Region.binds .any)).foldl (fun s e => (e.on :: acc.getD e.on []).foldl (fun s j => cond (memB s j) s (j :: s)) s) []]) []

/-- The same, of operations in their written order. -/
def seqA (n : Nat) : List (List Nat) := (List.range n).map List.range

def ancB (ops : Array Oper) (A : List (List Nat)) : Bool :=
  (List.range ops.size).all (fun i => match ops[i]? with
    | some o => (A.getD i []).all (fun j => o.after.toList.any (fun e => Region.binds .any e && (Nat.beq e.on j || memB (A.getD e.on []) j))) && o.after.toList.all (fun e => !(Region.binds .any e) || Nat.blt e.on i)
    | none => false)

section
variable {P : Program} {ro : Option Nat} {ops : Array Oper} {Q : Exit → Act → World → Prop}

def cnt (n : Nat) (p : Nat → Bool) : Nat := ((List.range n).filter (fun i => !p i)).length

theorem cnt_more {p : Nat → Bool} {i : Nat} (hp : p i = false) : ∀ {l : List Nat}, i ∈ l → (l.filter (fun j => !(more p i j))).length + 1 ≤ (l.filter (fun j => !p j)).length
  | [], h => by simp at h
  | a :: l, h => by
    have mono : ∀ l : List Nat, (l.filter (fun j => !(more p i j))).length ≤ (l.filter (fun j => !p j)).length := by
      intro l
      induction l with
      | nil => simp
      | cons b l ih =>
        simp only [List.filter_cons]
        cases hb : p b with
        | true =>
          have h1 : more p i b = true := by simp [more, hb]
          simp only [h1, Bool.not_true, Bool.false_eq_true, if_false]
          exact ih
        | false =>
          cases hbb : more p i b with
          | true => simp; omega
          | false => simp; omega
    simp only [List.filter_cons]
    by_cases hai : a = i
    · subst hai
      have := mono l
      simp [more, hp] at this ⊢
      omega
    · have hl : i ∈ l := by
        rcases List.mem_cons.1 h with h | h
        · exact absurd h.symm hai
        · exact h
      have ih := cnt_more hp hl
      have hne : Nat.beq i a = false := by rw [Bool.eq_false_iff]; intro hb; exact hai (Nat.eq_of_beq_eq_true hb).symm
      cases hpa : p a with
      | true => simp [more, hpa, hne]; simpa [more] using ih
      | false => simp [more, hpa, hne]; simpa [more] using ih

theorem mem_rdy {listed : Array Bool} {i : Nat} : i ∈ Region.ready .any ops listed ↔ ∃ o, ops[i]? = some o ∧ listed.getD i true = false ∧ ∀ e ∈ o.after.toList, Region.binds .any e = true → listed.getD e.on false = true := by
  simp only [Region.ready, List.mem_filter, List.mem_range, Bool.and_eq_true, Bool.not_eq_true']
  constructor
  · rintro ⟨h1, h2, h3⟩
    rw [Array.getElem?_eq_getElem h1] at h3 ⊢
    refine ⟨_, rfl, h2, fun e he hb => ?_⟩
    simp only [Option.map_some, Option.getD_some, Array.all_eq_true'] at h3
    have := h3 e (by simpa using he)
    simpa [hb] using this
  · rintro ⟨o, h1, h2, h3⟩
    refine ⟨(Array.getElem?_eq_some_iff.1 h1).1, h2, ?_⟩
    rw [h1]
    simp only [Option.map_some, Option.getD_some, Array.all_eq_true']
    intro e he
    cases hb : Region.binds .any e with
    | false => simp
    | true => simpa using h3 e (by simpa using he) hb

theorem sched_any {A : List (List Nat)} (hA : ancB ops A = true) : Sched P ro ops A Q (fun m p => cnt ops.size p ≤ m)
    (fun m p a w => ∀ listed : Array Bool, listed.size = ops.size → (∀ i, listed.getD i false = p i) → wpAnyIn (FW ro) 0 P .any ops Q m listed a w) := by
  have getT : ∀ (listed : Array Bool) (p : Nat → Bool) (i : Nat), listed.size = ops.size → (∀ i, listed.getD i false = p i) → i < ops.size → listed.getD i true = p i := by
    intro listed p i hs hl hi
    rw [← hl i]
    have : i < listed.size := by omega
    simp [Array.getD, this]
  have hdag : ∀ i o, ops[i]? = some o → (∀ j ∈ A.getD i [], ∃ e ∈ o.after.toList, Region.binds .any e = true ∧ (e.on = j ∨ j ∈ A.getD e.on [])) ∧ ∀ e ∈ o.after.toList, Region.binds .any e = true → e.on < i := by
    intro i o ho
    have hi := (Array.getElem?_eq_some_iff.1 ho).1
    have := List.all_eq_true.1 hA i (List.mem_range.2 hi)
    rw [ho] at this
    simp only [Bool.and_eq_true] at this
    refine ⟨fun j hj => ?_, fun e he hb => ?_⟩
    · obtain ⟨e, h1, h2⟩ := List.any_eq_true.1 (List.all_eq_true.1 this.1 j hj)
      simp only [Bool.and_eq_true, Bool.or_eq_true] at h2
      exact ⟨e, h1, h2.1, h2.2.imp Nat.eq_of_beq_eq_true memB_iff.1⟩
    · have := List.all_eq_true.1 this.2 e he
      rw [hb] at this
      simpa using this
  refine ⟨?_, ?_, ?_⟩
  · intro p a w hG hQ listed hs hl
    have hall : ∀ i, i < ops.size → p i = true := by
      intro i hi
      cases hp : p i with
      | true => rfl
      | false =>
        have : i ∈ (List.range ops.size).filter (fun i => !p i) := List.mem_filter.2 ⟨List.mem_range.2 hi, by simp [hp]⟩
        have h0 : ((List.range ops.size).filter (fun i => !p i)).length = 0 := by simp only [cnt] at hG; omega
        rw [List.length_eq_zero_iff.1 h0] at this
        simp at this
    refine ⟨?_, hQ hall⟩
    rw [List.eq_nil_iff_forall_not_mem]
    intro i hi
    obtain ⟨o, h1, h2, _⟩ := mem_rdy.1 hi
    have hin := (Array.getElem?_eq_some_iff.1 h1).1
    rw [getT listed p i hs hl hin, hall i hin] at h2
    simp at h2
  · intro m p a w hG hclo hQ hstep listed hs hl
    refine ⟨fun hr => hQ (fun i hi => ?_), fun i hi => ?_⟩
    · induction i using Nat.strongRecOn with
      | _ i ih =>
        cases hp : p i with
        | true => rfl
        | false =>
          exfalso
          have hmem : i ∈ Region.ready .any ops listed := by
            refine mem_rdy.2 ⟨ops[i], Array.getElem?_eq_getElem hi, by rw [getT listed p i hs hl hi, hp], fun e he hb => ?_⟩
            have hlt := (hdag i _ (Array.getElem?_eq_getElem hi)).2 e he hb
            rw [hl]
            exact ih e.on hlt (by omega)
          rw [hr] at hmem
          simp at hmem
    · obtain ⟨o, h1, h2, h3⟩ := mem_rdy.1 hi
      have hin := (Array.getElem?_eq_some_iff.1 h1).1
      have hun : p i = false := by rw [← getT listed p i hs hl hin]; exact h2
      have hrdy : Rdy ops A p i := by
        refine ⟨hin, hun, fun j hj => ?_⟩
        obtain ⟨e, e1, e2, e3⟩ := (hdag i o h1).1 j hj
        have he : p e.on = true := by rw [← hl]; exact h3 e e1 e2
        rcases e3 with rfl | e3
        · exact he
        · exact hclo _ he j e3
      refine wpOpIn_mono (fun a' w' hW => hW _ (by simpa using hs) (fun j => ?_)) (hstep i hrdy)
      by_cases hji : i = j
      · subst hji
        have : i < listed.size := by omega
        simp [more, Array.getD_eq_getD_getElem?, Array.getElem?_setIfInBounds, this]
      · have hne : Nat.beq i j = false := by rw [Bool.eq_false_iff]; intro hb; exact hji (Nat.eq_of_beq_eq_true hb)
        simp only [more, hne, Bool.false_or]
        rw [← hl j]
        simp [Array.getD_eq_getD_getElem?, Array.getElem?_setIfInBounds, hji]
  · intro m p i hG hr
    have := cnt_more hr.2.1 (List.mem_range.2 hr.1)
    simp only [cnt] at hG ⊢
    omega

theorem sched_seq : Sched P ro ops (seqA ops.size) Q (fun _ _ => True) (fun m p a w => ∀ k, k + m = ops.size → (∀ i, p i = Nat.blt i k) → wpOpsIn (FW ro) 0 P ops Q (List.range' k m) a w) := by
  have hget : ∀ i, i < ops.size → (seqA ops.size).getD i [] = List.range i := by
    intro i hi
    simp [seqA, List.getD_eq_getElem?_getD, hi]
  refine ⟨?_, ?_, fun _ _ _ _ _ => trivial⟩
  · intro p a w _ hQ k hk hp
    exact hQ (fun i hi => by rw [hp, Nat.blt_eq]; omega)
  · intro m p a w _ hclo hQ hstep k hk hp
    rw [List.range'_succ, wpOpsIn_cons]
    have hk' : k < ops.size := by omega
    have hr : Rdy ops (seqA ops.size) p k := by
      refine ⟨hk', ?_, fun j hj => ?_⟩
      · rw [hp, Bool.eq_false_iff]; intro hb; rw [Nat.blt_eq] at hb; omega
      · rw [hget k hk'] at hj
        rw [hp, Nat.blt_eq]
        exact List.mem_range.1 hj
    refine wpOpIn_mono (fun a' w' hW => hW (k + 1) (by omega) (fun i => ?_)) (hstep k hr)
    simp only [more, hp]
    by_cases hik : k = i
    · rw [← hik]
      have : Nat.blt k (k + 1) = true := by rw [Nat.blt_eq]; omega
      simp [this]
    · have hne : Nat.beq k i = false := by rw [Bool.eq_false_iff]; intro hb; exact hik (Nat.eq_of_beq_eq_true hb)
      rw [hne, Bool.false_or]
      rw [Bool.eq_iff_iff, Nat.blt_eq, Nat.blt_eq]
      omega
end
end Go.Sym

/- The condition of a piece of code; that it suffices. -/
set_option linter.unusedSimpArgs false
set_option linter.unusedVariables false
namespace Go.Sym

/-- The frame behind a region: of what was wanted on a condition nothing is kept. -/
def frFin (fr0 : List (Nat × SV)) : List Res → List (Nat × SV)
  | [] => fr0
  | r :: res => match r.o.dst with
    | some d => (d, match r.ch with | [] => r.x | _ :: _ => .any) :: frFin fr0 res
    | none => frFin fr0 res

def startB (st : St) : Bool := st.fr.all (fun p => p.2.allN (ltN st.nx)) && (LbdB st.L st.nx && Nat.ble st.base st.nx)

/-- A region. -/
def VR (P : Program) (T : Tab) (N : Nat) (A : List (List Nat)) (ops : Array Oper) (draw : Bool) (st : St) (K : St → Prop) : Prop :=
  match draw, startB st && (!draw || ancB ops A) with
  | _, false => False
  | true, true => VT P T N ops A st.fr st.base (fun res L nx => K { fr := frFin st.fr res, L, nx, dec := [], base := st.base }) (ops.size + 1) [] st.L st.nx (List.range ops.size)
  | false, true => VT P T N ops (seqA ops.size) st.fr st.base (fun res L nx => K { fr := frFin st.fr res, L, nx, dec := [], base := st.base }) (ops.size + 1) [] st.L st.nx (List.range ops.size)

/-- A piece of code. Loops and ranges over functions stand as they are. -/
def VX (P : Program) (T : Tab) (r : Option Nat) (N : Nat) : Code → St → (Exit → St → Prop) → Prop
  | .skip, st, Q => Q .normal st
  | .region _ ops draw, st, Q => VR P T N (mkA ops.toList) ops draw st (Q .normal)
  | .seq a b, st, Q => VX P T r N a st (fun e st' => match e with | .normal => VX P T r N b st' Q | e => Q e st')
  | .cond c a b, st, Q => match st.ev c with
    | .v (.bool t) => (t = true → VX P T r N a st Q) ∧ (t = false → VX P T r N b st Q)
    | _ => False
  | .block id c, st, Q => VX P T r N c st (fun e st' => match e with | .exit id' => cond (Nat.beq id' id) (Q .normal st') (Q (.exit id') st') | e => Q e st')
  | .exit id, st, Q => Q (.exit id) st
  | .ret, st, Q => Q .ret st
  | c, st, Q => WP P r N c st Q

theorem frFin_get {fr0 : List (Nat × SV)} {p : Nat → Bool} : ∀ {res : List Res}, (∀ r ∈ res, p r.i = true) → (∀ r ∈ res, r.ch = [] → r.g = true) → ∀ t, fget (frFin fr0 res) t = .any ∨ fget (frFin fr0 res) t = fget (frX p fr0 res) t
  | [], _, _, t => .inr rfl
  | r :: res, h1, h2, t => by
    have ih := frFin_get (fr0 := fr0) (p := p) (res := res) (fun r hr => h1 r (by simp [hr])) (fun r hr => h2 r (by simp [hr])) t
    unfold frFin frX
    cases r.o.dst with
    | none => exact ih
    | some d =>
      simp only [h1 r (by simp), cond_true, fget_cons]
      by_cases hd : d = t
      · simp only [hd, if_true]
        cases hch : r.ch with
        | nil => right; rw [h2 r (by simp) hch]; rfl
        | cons _ _ => left; rfl
      · simp only [hd, if_false]; exact ih

theorem Holds.drew {N : Nat} {st : St} {g : Gh} {a : Act} {w : World} (h : Holds N st g a w) (k : Nat) : Holds N st g a { w with drawn := k } := by
  obtain ⟨ρ, Fp, ms, hc⟩ := h
  exact ⟨ρ, Fp, ms, ⟨⟨hc.mem.keys, hc.mem.ent, hc.mem.nd, hc.mem.nb, hc.mem.dj, hc.mem.gb, hc.mem.bw, hc.mem.os, hc.mem.out, hc.mem.tape⟩, hc.frm, hc.dec, hc.size, hc.defers, ⟨hc.marks.at_, hc.marks.nb, hc.marks.nf, hc.marks.nd⟩, hc.base⟩⟩

theorem VT_start {P : Program} {T : Tab} (hT : T.Ok P) {ro : Option Nat} {N : Nat} {ops : Array Oper} {A : List (List Nat)} {st : St} {K : St → Prop} (hst : startB st = true) {Good : Nat → (Nat → Bool) → Prop} {W : Nat → (Nat → Bool) → Act → World → Prop} {g0 : Gh}
    {Q : Exit → Act → World → Prop} (hQ : ∀ a w g' st', g0.le g' → Holds N st' g' a w → K st' → Q .normal a w) (hS : Sched P ro ops A Q Good W)
    (h : VT P T N ops A st.fr st.base (fun res L nx => K { fr := frFin st.fr res, L, nx, dec := [], base := st.base }) (ops.size + 1) [] st.L st.nx (List.range ops.size)) {m : Nat} {a : Act} {w : World} (hG : Good m (fun _ => false)) (hg : Holds N st g0 a w) : W m (fun _ => false) a w := by
  simp only [startB, Bool.and_eq_true, Nat.ble_eq] at hst
  refine VT_ok (N := N) (fr0 := st.fr) (base := st.base) (g0 := g0) hT hS (fun res L nx p a w hK hall hallr hI => ?_) _ _ _ _ _ h (fun i hi => .inr (List.mem_range.2 hi)) (fun i hi => ⟨List.mem_range.1 hi, fun r hr => by simp at hr⟩) (fun r hr => by simp at hr) m _ a w hG ?_
  · obtain ⟨g, h1, ρ, Fp, ms, hc⟩ := hI.holds
    refine hQ a w g { fr := frFin st.fr res, L, nx, dec := [], base := st.base } h1 ⟨ρ, Fp, ms, ⟨hc.mem, fun t => ?_, fun t b hb => by simp [dget] at hb, hc.size, hc.defers, hc.marks, hc.base⟩⟩ hK
    rcases frFin_get (fr0 := st.fr) (p := p) hallr (fun r hr hch => hI.node.ch2 r hr (by rw [hch]; simp)) t with h2 | h2
    · show (fget (frFin st.fr res) t).R ρ g.G _
      rw [h2]; simp [SV.R]
    · show (fget (frFin st.fr res) t).R ρ g.G _
      rw [h2]; exact hc.frm t
  · refine ⟨⟨by simp, by simp, by simp, by simp, by simp, by simp, by simp, by simp, by simp, by simp, by simp, by simp, hst.1, hst.2.1, hst.2.2⟩, ⟨g0, Gh.le_refl _, Holds_fget (fun t => rfl) hg⟩, by simp, by simp, by simp, by simp⟩

theorem VR_ok {P : Program} {T : Tab} (hm : P.follows .mixedOrders = true) (hT : T.Ok P) {r : Option Nat} {N : Nat} {id : Nat} {ops : Array Oper} {draw : Bool} {st : St} {A : List (List Nat)} {Q : Exit → St → Prop} (h : VR P T N A ops draw st (Q .normal)) : WP P r N (.region id ops draw) st Q := by
  intro g a w hg
  unfold VR at h
  have hpost : ∀ a w g' st', g.le g' → Holds N st' g' a w → Q .normal st' → Post N g Q .normal a w := fun a w g' st' h1 h2 h3 => ⟨g', st', h1, h2, h3⟩
  split at h
  · exact h.elim
  · rename_i hb
    simp only [Bool.and_eq_true, Bool.not_true, Bool.false_or] at hb
    refine wpIn_region_any hm ?_
    exact VT_start hT hb.1 hpost (sched_any hb.2) h (m := ops.size) (Nat.le_trans (List.length_filter_le _ _) (by simp)) (hg.drew _) _ (by simp) (fun i => by
      rw [Array.getD_eq_getD_getElem?, Array.getElem?_replicate]
      split <;> rfl)
  · rename_i hb
    simp only [Bool.and_eq_true, Bool.not_false, Bool.true_or, and_true] at hb
    refine wpIn_region ?_
    have := VT_start (ro := r) hT hb hpost sched_seq h (m := ops.size) trivial hg 0 (by simp) (fun i => by
      rw [eq_comm, Bool.eq_false_iff]; intro hb; rw [Nat.blt_eq] at hb; omega)
    rwa [List.range_eq_range']

theorem VX_ok {P : Program} {T : Tab} (hm : P.follows .mixedOrders = true) (hT : T.Ok P) {r : Option Nat} {N : Nat} : ∀ {c : Code} {st : St} {Q : Exit → St → Prop}, VX P T r N c st Q → WP P r N c st Q
  | .skip, st, Q, h => fun g a w hg => wpIn_skip ⟨g, st, Gh.le_refl g, hg, h⟩
  | .region id ops draw, st, Q, h => VR_ok hm hT h
  | .seq a b, st, Q, h => by
    refine WP_seq (WP_mono ?_ (VX_ok hm hT (c := a) h))
    intro e s hs
    cases e with
    | normal => exact VX_ok hm hT (c := b) hs
    | _ => exact hs
  | .cond c a b, st, Q, h => by
    unfold VX at h
    split at h
    · rename_i t hc
      exact WP_cond hc (fun ht => VX_ok hm hT (c := a) (h.1 ht)) (fun ht => VX_ok hm hT (c := b) (h.2 ht))
    · exact h.elim
  | .block id c, st, Q, h => WP_block (VX_ok hm hT (c := c) h)
  | .exit id, st, Q, h => fun g a w hg => wpIn_exit ⟨g, st, Gh.le_refl g, hg, h⟩
  | .ret, st, Q, h => fun g a w hg => wpIn_ret ⟨g, st, Gh.le_refl g, hg, h⟩
  | .loop c, st, Q, h => h
  | .rangeFunc f ps a b, st, Q, h => h
  | .scope c, st, Q, h => h
  | .label l, st, Q, h => h
  | .goto l, st, Q, h => h
  | .refuse s, st, Q, h => h
end Go.Sym

/- Weaker states, by reckoning. -/
set_option linter.unusedSimpArgs false
set_option linter.unusedVariables false
namespace Go.Sym

/-- An empty row may be added. -/
def addRow (st : St) (z : Nat) : St := { st with L := (st.nx, .row z 0 (fun _ => .any)) :: st.L, nx := st.nx + 1 }

theorem addRow_le {N : Nat} {st : St} {z : Nat} (hfresh : st.fresh = true) : Le N st (addRow st z) := by
  intro g a w ⟨ρ, Fp, ms, hc⟩
  obtain ⟨h1, h2, h3⟩ := hc.newEnt (w' := w) (v := (0, 0)) (e := .row z 0 (fun _ => .any)) (F' := []) (L0 := st.L) hfresh (fun p hp => hp) hc.mem.keys (fun b _ => .inr rfl)
    (fun ρ' hv _ => .inl ⟨rfl, by rw [hv], rfl⟩) (by simp) (by simp) rfl rfl rfl
  refine ⟨upd ρ st.nx (0, 0), upd Fp st.nx [], ms, ⟨h1, h2, hc.dec, hc.size, hc.defers, h3, ?_⟩⟩
  intro i hi
  have hb : st.base ≤ st.nx := by
    simp only [St.fresh, Bool.and_eq_true, Nat.ble_eq] at hfresh
    exact hfresh.2
  have hi' : i < st.base := hi
  show upd ρ st.nx (0, 0) i = _
  rw [upd_ne _ _ (by omega)]
  exact hc.base i hi

def hasKey : List (Nat × Nat) → Nat → Bool
  | [], _ => false
  | (a, _) :: l, i => Nat.beq a i || hasKey l i

/-- Rows of the other state that nothing answers to. -/
def missing (s : List (Nat × Nat)) (base : Nat) : Ents → List (Nat × Nat)
  | [] => []
  | (j, .row z _ _) :: r => cond (Nat.blt j base || hasKey s j) (missing s base r) ((j, z) :: missing s base r)
  | _ :: r => missing s base r

/-- For each of them an empty row. -/
def addRows : List (Nat × Nat) → St → List (Nat × Nat) → St × List (Nat × Nat)
  | [], st, s => (st, s)
  | (j, z) :: r, st, s => cond st.fresh (addRows r (addRow st z) ((j, st.nx) :: s)) (st, s)

theorem addRows_le {N : Nat} : ∀ (l : List (Nat × Nat)) (st : St) (s : List (Nat × Nat)), Le N st (addRows l st s).1 ∧ (addRows l st s).1.base = st.base
  | [], st, s => ⟨Le.refl N st, rfl⟩
  | (j, z) :: r, st, s => by
    simp only [addRows]
    cases hf : st.fresh with
    | false => exact ⟨Le.refl N st, rfl⟩
    | true =>
      obtain ⟨h1, h2⟩ := addRows_le (N := N) r (addRow st z) ((j, st.nx) :: s)
      exact ⟨Le.trans (addRow_le hf) h1, h2⟩

mutual
/-- Which id of the one is which of the other. -/
def uni : SV → SV → List (Nat × Nat) → List (Nat × Nat)
  | .ptr i _, .ptr j _, s => (j, i) :: s
  | .yld i, .yld j, s => (j, i) :: s
  | .elp i _ _ _, .elp j _ _ _, s => (j, i) :: s
  | .sl i _ _ _ _ _, .sl j _ _ _ _ _, s => (j, i) :: s
  | .fn _ fs cs, .fn _ fs' cs', s => uniL fs fs' (uniL cs cs' s)
  | .agg cs, .agg ds, s => uniL cs ds s
  | .tup cs, .tup ds, s => uniL cs ds s
  | _, _, s => s
def uniL : List SV → List SV → List (Nat × Nat) → List (Nat × Nat)
  | x :: xs, y :: ys, s => uni x y (uniL xs ys s)
  | _, _, s => s
end

def uniFr (fr : List (Nat × SV)) : List (Nat × SV) → List (Nat × Nat) → List (Nat × Nat)
  | [], s => s
  | (t, y) :: r, s => uniFr fr r (uni (fget fr t) y s)

/-- Through the entries as well (variables that name others). -/
def uniL1 (L L' : Ents) (s : List (Nat × Nat)) : List (Nat × Nat) :=
  L'.foldl (fun s p => match L.get (sg s p.1), p.2 with
    | some (.var cs), .var ds => uniL cs ds s
    | some (.rowo _ _ _ _ cs), .rowo _ _ _ _ ds => uniL cs ds s
    | _, _ => s) s

/-- Two rows are the same as far as that. -/
def FEq (n : Nat) (f g : Nat → SV) : Prop := ∀ k, k < n → f k = g k

/-- Is a value the empty slice. -/
def nilB : Value → Bool
  | .slice none n c => Nat.beq n 0 && Nat.beq c 0
  | _ => false

theorem nilB_ok {a : Value} (h : nilB a = true) : a = .slice none 0 0 := by
  unfold nilB at h
  split at h
  · rename_i n c
    simp only [Bool.and_eq_true] at h
    rw [Nat.eq_of_beq_eq_true h.1, Nat.eq_of_beq_eq_true h.2]
  · simp at h

def veq : Value → Value → Prop
  | .int k n, .int k' m => cond (decide (k = k')) (n = m) False
  | .bool p, .bool q => p = q
  | a, b => a = b

theorem veq_ok {a b : Value} (h : veq a b) : a = b := by
  unfold veq at h
  split at h
  · rename_i k n k' m
    by_cases hk : k = k'
    · subst hk; simp at h; rw [h]
    · simp [hk] at h
  · rw [h]
  · exact h

mutual
/-- The one says at least as much as the other (under the map of ids). -/
def sleP (σ : Nat → Nat) : SV → SV → Prop
  | _, .any => True
  | .v a, .v b => veq a b
  | .v a, .sl _ _ off len cap _ => cond (nilB a) (off = 0 ∧ len = 0 ∧ cap = 0) False
  | .ptr i o, .ptr j p => cond (Nat.beq i (σ j) && Nat.beq o p) True False
  | .elp i z k o, .elp j z' k' o' => cond (Nat.beq i (σ j) && (Nat.beq z z' && Nat.beq o o')) (k = k') False
  | .sl i z off len cap ex, .sl j z' off' len' cap' ex' => cond (Nat.beq i (σ j) && Nat.beq z z') (off = off' ∧ len = len' ∧ (match ex', ex with | true, true => cap = cap' | false, _ => len' ≤ cap' ∧ cap' ≤ cap | _, _ => False)) False
  | .ro z n f ex, .ro z' n' f' ex' => cond (Nat.beq z z') ((ex' = true → ex = true) ∧ n = n' ∧ FEq n' f f') False
  | .rop cs, .rop ds => cs = ds
  | .yld i, .yld j => cond (Nat.beq i (σ j)) True False
  | .fn f fs cs, .fn f' fs' cs' => cond (Nat.beq f f') (slePL σ fs fs' ∧ slePL σ cs cs') False
  | .agg cs, .agg ds => slePL σ cs ds
  | .tup cs, .tup ds => slePL σ cs ds
  | _, _ => False
def slePL (σ : Nat → Nat) : List SV → List SV → Prop
  | [], [] => True
  | x :: xs, y :: ys => sleP σ x y ∧ slePL σ xs ys
  | _, _ => False
end

theorem condF {b : Bool} {p : Prop} (h : cond b p False) : b = true ∧ p := by cases b <;> simp_all

mutual
theorem sleP_ok {σ : Nat → Nat} : ∀ (x y : SV), sleP σ x y → SLe x (y.ren σ)
  | x, .any, h => by simp only [SV.ren]; exact SLe.any x
  | .v a, .v b, h => by simp only [SV.ren]; simp only [sleP] at h; exact SLe.v (veq_ok h)
  | .v a, .sl j z off len cap ex, h => by
    simp only [sleP] at h
    obtain ⟨h1, rfl, rfl, rfl⟩ := condF h
    rw [nilB_ok h1]
    intro ρ G u hu
    simp only [SV.ren, SV.R] at hu ⊢
    exact ⟨none, 0, hu, Nat.le_refl _, Nat.le_refl _, fun _ => rfl, .inl rfl, by simp⟩
  | .ptr i o, .ptr j p, h => by
    simp only [sleP] at h
    have := (condF h).1
    simp only [Bool.and_eq_true] at this
    simp only [SV.ren]
    rw [Nat.eq_of_beq_eq_true this.1, Nat.eq_of_beq_eq_true this.2]; exact SLe.refl _
  | .elp i z k o, .elp j z' k' o', h => by
    simp only [sleP] at h
    obtain ⟨h1, h2⟩ := condF h
    simp only [Bool.and_eq_true] at h1
    simp only [SV.ren]
    rw [Nat.eq_of_beq_eq_true h1.1, Nat.eq_of_beq_eq_true h1.2.1, Nat.eq_of_beq_eq_true h1.2.2, h2]; exact SLe.refl _
  | .sl i z off len cap ex, .sl j z' off' len' cap' ex', h => by
    simp only [sleP] at h
    obtain ⟨h1, h2, h3, h4⟩ := condF h
    simp only [Bool.and_eq_true] at h1
    simp only [SV.ren]
    rw [Nat.eq_of_beq_eq_true h1.1, Nat.eq_of_beq_eq_true h1.2]
    cases ex' with
    | false => exact SLe.sl h2 h3 h4
    | true =>
      cases ex with
      | true => exact SLe.slx h2 h3 h4
      | false => exact h4.elim
  | .ro z n f ex, .ro z' n' f' ex', h => by
    simp only [sleP] at h
    obtain ⟨h1, h4, h2, h3⟩ := condF h
    simp only [SV.ren]
    rw [Nat.eq_of_beq_eq_true h1]
    cases ex' with
    | false => cases ex with
      | false => exact SLe.ro h2 h3
      | true => exact fun ρ G u hu => SLe.ro h2 h3 ρ G u (SLe.rox ρ G u hu)
    | true => cases ex with
      | true => exact SLe.ro h2 h3
      | false => exact absurd (h4 rfl) (by simp)
  | .rop cs, .rop ds, h => by simp only [sleP] at h; simp only [SV.ren]; rw [h]; exact SLe.refl _
  | .yld i, .yld j, h => by
    simp only [sleP] at h
    simp only [SV.ren]
    rw [Nat.eq_of_beq_eq_true (condF h).1]; exact SLe.refl _
  | .fn f fs cs, .fn f' fs' cs', h => by
    simp only [sleP] at h
    obtain ⟨h1, h2, h3⟩ := condF h
    simp only [SV.ren]
    rw [Nat.eq_of_beq_eq_true h1]
    intro ρ G u hu
    simp only [SV.R] at hu ⊢
    obtain ⟨us, vs, k1, k2, k3⟩ := hu
    exact ⟨us, vs, k1, slePL_ok fs fs' h2 ρ G _ k2, slePL_ok cs cs' h3 ρ G _ k3⟩
  | .agg cs, .agg ds, h => by
    simp only [sleP] at h
    simp only [SV.ren]
    intro ρ G u hu
    simp only [SV.R] at hu ⊢
    obtain ⟨us, k1, k2⟩ := hu
    exact ⟨us, k1, slePL_ok cs ds h ρ G _ k2⟩
  | .tup cs, .tup ds, h => by
    simp only [sleP] at h
    simp only [SV.ren]
    intro ρ G u hu
    simp only [SV.R] at hu ⊢
    obtain ⟨us, k1, k2⟩ := hu
    exact ⟨us, k1, slePL_ok cs ds h ρ G _ k2⟩
  | .v _, .ptr _ _, h | .v _, .elp _ _ _ _, h | .v _, .ro _ _ _ _, h | .v _, .rop _, h | .v _, .own _ _ _, h | .v _, .fn _ _ _, h | .v _, .agg _, h | .v _, .tup _, h => by simp [sleP] at h
  | .ptr _ _, .v _, h | .ptr _ _, .elp _ _ _ _, h | .ptr _ _, .sl _ _ _ _ _ _, h | .ptr _ _, .ro _ _ _ _, h | .ptr _ _, .rop _, h | .ptr _ _, .own _ _ _, h | .ptr _ _, .fn _ _ _, h | .ptr _ _, .agg _, h | .ptr _ _, .tup _, h => by simp [sleP] at h
  | .elp _ _ _ _, .v _, h | .elp _ _ _ _, .ptr _ _, h | .elp _ _ _ _, .sl _ _ _ _ _ _, h | .elp _ _ _ _, .ro _ _ _ _, h | .elp _ _ _ _, .rop _, h | .elp _ _ _ _, .own _ _ _, h | .elp _ _ _ _, .fn _ _ _, h | .elp _ _ _ _, .agg _, h | .elp _ _ _ _, .tup _, h => by simp [sleP] at h
  | .sl _ _ _ _ _ _, .v _, h | .sl _ _ _ _ _ _, .ptr _ _, h | .sl _ _ _ _ _ _, .elp _ _ _ _, h | .sl _ _ _ _ _ _, .ro _ _ _ _, h | .sl _ _ _ _ _ _, .rop _, h | .sl _ _ _ _ _ _, .own _ _ _, h | .sl _ _ _ _ _ _, .fn _ _ _, h | .sl _ _ _ _ _ _, .agg _, h | .sl _ _ _ _ _ _, .tup _, h => by simp [sleP] at h
  | .ro _ _ _ _, .v _, h | .ro _ _ _ _, .ptr _ _, h | .ro _ _ _ _, .elp _ _ _ _, h | .ro _ _ _ _, .sl _ _ _ _ _ _, h | .ro _ _ _ _, .rop _, h | .ro _ _ _ _, .own _ _ _, h | .ro _ _ _ _, .fn _ _ _, h | .ro _ _ _ _, .agg _, h | .ro _ _ _ _, .tup _, h => by simp [sleP] at h
  | .rop _, .v _, h | .rop _, .ptr _ _, h | .rop _, .elp _ _ _ _, h | .rop _, .sl _ _ _ _ _ _, h | .rop _, .ro _ _ _ _, h | .rop _, .own _ _ _, h | .rop _, .fn _ _ _, h | .rop _, .agg _, h | .rop _, .tup _, h => by simp [sleP] at h
  | .own _ _ _, .v _, h | .own _ _ _, .ptr _ _, h | .own _ _ _, .elp _ _ _ _, h | .own _ _ _, .sl _ _ _ _ _ _, h | .own _ _ _, .ro _ _ _ _, h | .own _ _ _, .rop _, h | .own _ _ _, .own _ _ _, h | .own _ _ _, .fn _ _ _, h | .own _ _ _, .agg _, h | .own _ _ _, .tup _, h => by simp [sleP] at h
  | .fn _ _ _, .v _, h | .fn _ _ _, .ptr _ _, h | .fn _ _ _, .elp _ _ _ _, h | .fn _ _ _, .sl _ _ _ _ _ _, h | .fn _ _ _, .ro _ _ _ _, h | .fn _ _ _, .rop _, h | .fn _ _ _, .own _ _ _, h | .fn _ _ _, .agg _, h | .fn _ _ _, .tup _, h => by simp [sleP] at h
  | .agg _, .v _, h | .agg _, .ptr _ _, h | .agg _, .elp _ _ _ _, h | .agg _, .sl _ _ _ _ _ _, h | .agg _, .ro _ _ _ _, h | .agg _, .rop _, h | .agg _, .own _ _ _, h | .agg _, .fn _ _ _, h | .agg _, .tup _, h => by simp [sleP] at h
  | .tup _, .v _, h | .tup _, .ptr _ _, h | .tup _, .elp _ _ _ _, h | .tup _, .sl _ _ _ _ _ _, h | .tup _, .ro _ _ _ _, h | .tup _, .rop _, h | .tup _, .own _ _ _, h | .tup _, .fn _ _ _, h | .tup _, .agg _, h => by simp [sleP] at h
  | .any, .v _, h | .any, .ptr _ _, h | .any, .elp _ _ _ _, h | .any, .sl _ _ _ _ _ _, h | .any, .ro _ _ _ _, h | .any, .rop _, h | .any, .own _ _ _, h | .any, .fn _ _ _, h | .any, .agg _, h | .any, .tup _, h => by simp [sleP] at h
  | .yld _, .v _, h | .yld _, .ptr _ _, h | .yld _, .elp _ _ _ _, h | .yld _, .sl _ _ _ _ _ _, h | .yld _, .ro _ _ _ _, h | .yld _, .rop _, h | .yld _, .own _ _ _, h | .yld _, .fn _ _ _, h | .yld _, .agg _, h | .yld _, .tup _, h => by simp [sleP] at h
  | .v _, .yld _, h | .ptr _ _, .yld _, h | .elp _ _ _ _, .yld _, h | .sl _ _ _ _ _ _, .yld _, h | .ro _ _ _ _, .yld _, h | .rop _, .yld _, h | .own _ _ _, .yld _, h | .fn _ _ _, .yld _, h | .agg _, .yld _, h | .tup _, .yld _, h | .any, .yld _, h => by simp [sleP] at h
theorem slePL_ok {σ : Nat → Nat} : ∀ (xs ys : List SV), slePL σ xs ys → ∀ (ρ : Nat → Nat × Nat) (G : Heap) (us : List Value), SV.RL ρ G xs us → SV.RL ρ G (SV.renL σ ys) us
  | [], [], h, ρ, G, us, hu => by simpa [SV.renL] using hu
  | x :: xs, y :: ys, h, ρ, G, us, hu => by
    simp only [slePL] at h
    simp only [SV.renL, SV.RL] at hu ⊢
    obtain ⟨u, rest, k1, k2, k3⟩ := hu
    exact ⟨u, rest, k1, sleP_ok x y h.1 ρ G u k2, slePL_ok xs ys h.2 ρ G rest k3⟩
  | [], _ :: _, h, _, _, _, _ => by simp [slePL] at h
  | _ :: _, [], h, _, _, _, _ => by simp [slePL] at h
end
end Go.Sym

/- Weaker states by reckoning, whole; loops with their states; a function's end. -/
set_option linter.unusedSimpArgs false
set_option linter.unusedVariables false
namespace Go.Sym

def leFr (σ : Nat → Nat) (fr : List (Nat × SV)) : List (Nat × SV) → Prop
  | [] => True
  | (t, y) :: r => sleP σ (fget fr t) y ∧ leFr σ fr r

theorem leFr_ok {σ : Nat → Nat} {fr : List (Nat × SV)} : ∀ {fr' : List (Nat × SV)}, leFr σ fr fr' → ∀ t, SLe (fget fr t) (fget (frRen σ fr') t)
  | [], h, t => SLe.any _
  | (d, y) :: r, h, t => by
    have ih := leFr_ok h.2 t
    rw [fget_frRen] at ih ⊢
    rw [fget_cons]
    by_cases hd : d = t
    · subst hd; simp only [if_true]; exact sleP_ok _ _ h.1
    · simp only [hd, if_false]; exact ih

def eleP (σ : Nat → Nat) : Ent → Ent → Prop
  | .var cs, .var ds => slePL σ cs ds
  | .rowo z n f k cs, .rowo z' n' f' k' ds => cond (Nat.beq z z') (n = n' ∧ k = k' ∧ FEq n' f f' ∧ slePL σ cs ds) False
  | .lp fr s, .lp fr' s' => LSt.same s s' ∧ leFr σ fr fr'
  | .row z n f, .row z' n' f' => cond (Nat.beq z z') (n = n' ∧ FEq n' f f') False
  | _, _ => False

theorem slePL_SLeL {σ : Nat → Nat} : ∀ {xs ys : List SV}, slePL σ xs ys → SLeL xs (SV.renL σ ys)
  | [], [], h => trivial
  | x :: xs, y :: ys, h => by
    simp only [slePL] at h
    exact ⟨sleP_ok x y h.1, slePL_SLeL h.2⟩
  | [], _ :: _, h => by simp [slePL] at h
  | _ :: _, [], h => by simp [slePL] at h

theorem slePL_length {σ : Nat → Nat} : ∀ {xs ys : List SV}, slePL σ xs ys → xs.length = ys.length
  | [], [], h => rfl
  | x :: xs, y :: ys, h => by simp only [slePL] at h; simp [slePL_length h.2]
  | [], _ :: _, h => by simp [slePL] at h
  | _ :: _, [], h => by simp [slePL] at h

theorem eleP_ok {σ : Nat → Nat} {e e' : Ent} (h : eleP σ e e') : ELe e (e'.ren σ) := by
  cases e <;> cases e' <;> simp only [eleP] at h
  case var.var cs ds => exact slePL_SLeL h
  case row.row z n f z' n' f' =>
    obtain ⟨h1, h2, h3⟩ := condF h
    exact ⟨Nat.eq_of_beq_eq_true h1, h2, h3⟩
  case rowo.rowo z n f k cs z' n' f' k' ds =>
    obtain ⟨h1, h2, h3, h4, h5⟩ := condF h
    exact ⟨Nat.eq_of_beq_eq_true h1, h2, h3, h4, by rw [SV.renL_map, List.length_map]; exact slePL_length h5, slePL_SLeL h5⟩
  case lp.lp fr s fr' s' => exact ⟨h.1, leFr_ok h.2⟩

def leL (σ : Nat → Nat) (L : Ents) : Ents → Prop
  | [] => True
  | (i, e) :: r => (match L.get (σ i) with | some e0 => eleP σ e0 e | none => False) ∧ leL σ L r

def LeQ (σ : Nat → Nat) (st st' : St) : Prop :=
  cond (Nat.beq st'.base st.base && (nodupB (st'.L.map (·.1)) && (nodupB (st'.L.map (fun p => σ p.1)) && (st'.dec.isEmpty && st'.L.all (fun p => !p.2.isLp || Nat.beq (σ p.1) p.1))))) (leFr σ st.fr st'.fr ∧ leL σ st.L st'.L) False

/-- Which id of the first state is which of the second. -/
def uniAll (st st' : St) : List (Nat × Nat) := uniL1 st.L st'.L (uniFr st.fr st'.fr [])
def withRows (st st' : St) : St × List (Nat × Nat) := addRows (missing (uniAll st st') st'.base st'.L) st (uniAll st st')

/-- The first state is at least the second. -/
def LeP (st st' : St) : Prop := LeQ (fun i => cond (Nat.blt i st.base) i (sg (withRows st st').2 i)) (withRows st st').1 st'

theorem LeQ_ok {N : Nat} {σ : Nat → Nat} {st st' : St} (hσ : ∀ i, i < st.base → σ i = i) (h : LeQ σ st st') : Le N st st' := by
  obtain ⟨h1, h2, h3⟩ := condF h
  simp only [Bool.and_eq_true] at h1
  obtain ⟨b1, b2, b3, b4, b5⟩ := h1
  refine Le.mk σ ?_ ?_ ⟨nodupB_ok b2, nodupB_ok b3⟩ (fun p hp hl => by
    have := List.all_eq_true.1 b5 p hp
    rw [hl] at this
    exact Nat.eq_of_beq_eq_true (by simpa using this)) (by simpa using b4) ⟨Nat.eq_of_beq_eq_true b1, hσ⟩
  · revert h2
    generalize st'.fr = fr'
    induction fr' with
    | nil => intro _; trivial
    | cons p r ih => intro h2; exact ⟨sleP_ok _ _ h2.1, ih h2.2⟩
  · clear b2 b3 h2
    revert h3
    generalize st'.L = L'
    induction L' with
    | nil => intro _; trivial
    | cons p r ih =>
      intro h3
      obtain ⟨i, e⟩ := p
      refine ⟨?_, ih h3.2⟩
      have h4 := h3.1
      split at h4
      · rename_i e0 he
        exact ⟨e0, he, eleP_ok h4⟩
      · exact h4.elim

theorem LeP_ok {N : Nat} {st st' : St} (h : LeP st st') : Le N st st' := by
  obtain ⟨h1, h2⟩ := addRows_le (N := N) (missing (uniAll st st') st'.base st'.L) st (uniAll st st')
  refine Le.trans h1 (LeQ_ok (fun i hi => ?_) h)
  have hi' : i < st.base := by rw [← h2]; exact hi
  have : Nat.blt i st.base = true := by rw [Nat.blt_eq]; exact hi'
  simp [this]

/-- A loop's states: a family, which of them come, and a measure. -/
structure LoopSpec (U : Type) where
  I : U → St
  ok : U → Prop := fun _ => True
  μ : U → Nat

/-- A piece of code, loops too: each loop stands in a block of its own, and its states are named by that block's number and by the loops around it. -/
def VL {U : Type} (P : Program) (T : Tab) (r : Option Nat) (N : Nat) (ct : Nat → List (List Nat)) (inv : List U → Nat → Option (LoopSpec U)) : Code → List U → St → (Exit → St → Prop) → Prop
  | .skip, _, st, Q => Q .normal st
  | .region i ops draw, _, st, Q => VR P T N (ct i) ops draw st (Q .normal)
  | .seq a b, h, st, Q => VL P T r N ct inv a h st (fun e st' => match e with | .normal => VL P T r N ct inv b h st' Q | e => Q e st')
  | .cond c a b, h, st, Q => match st.ev c with
    | .v (.bool t) => (t = true → VL P T r N ct inv a h st Q) ∧ (t = false → VL P T r N ct inv b h st Q)
    | _ => False
  | .block id (.loop c), h, st, Q => match inv h id with
    | some s => ∃ x0, s.ok x0 ∧ LeP st (s.I x0) ∧ ∀ x, s.ok x → VL P T r N ct inv c (x :: h) (s.I x) (fun e st' => match e with
      | .normal => ∃ x', s.ok x' ∧ LeP st' (s.I x') ∧ s.μ x' < s.μ x
      | .exit id' => cond (Nat.beq id' id) (Q .normal st') (Q (.exit id') st')
      | e => Q e st')
    | none => WP P r N (.block id (.loop c)) st Q
  | .block id c, h, st, Q => VL P T r N ct inv c h st (fun e st' => match e with | .exit id' => cond (Nat.beq id' id) (Q .normal st') (Q (.exit id') st') | e => Q e st')
  | .exit id, _, st, Q => Q (.exit id) st
  | .ret, _, st, Q => Q .ret st
  | c, _, st, Q => WP P r N c st Q

theorem WP_loop' {P : Program} {r : Option Nat} {N : Nat} {c : Code} {st : St} {Q : Exit → St → Prop} {U : Type} (s : LoopSpec U) (x0 : U) (hok : s.ok x0) (h0 : Le N st (s.I x0))
    (round : ∀ x, s.ok x → WP P r N c (s.I x) (fun e st' => match e with | .normal => ∃ x', s.ok x' ∧ Le N st' (s.I x') ∧ s.μ x' < s.μ x | e => Q e st')) : WP P r N (.loop c) st Q := by
  refine WP_loop (X := { x : U // s.ok x }) (fun x => s.I x.1) (fun x => s.μ x.1) ⟨x0, hok⟩ h0 (fun x => WP_mono (fun e st' hh => ?_) (round x.1 x.2))
  cases e with
  | normal => obtain ⟨x', h1, h2, h3⟩ := hh; exact ⟨⟨x', h1⟩, h2, h3⟩
  | _ => exact hh

theorem VL_ok {U : Type} {P : Program} {T : Tab} (hm : P.follows .mixedOrders = true) (hT : T.Ok P) {r : Option Nat} {N : Nat} {ct : Nat → List (List Nat)} {inv : List U → Nat → Option (LoopSpec U)} : ∀ (c : Code) {h : List U} {st : St} {Q : Exit → St → Prop}, VL P T r N ct inv c h st Q → WP P r N c st Q
  | .skip, h, st, Q, hv => fun g a w hg => wpIn_skip ⟨g, st, Gh.le_refl g, hg, by simpa only [VL] using hv⟩
  | .region id ops draw, h, st, Q, hv => VR_ok hm hT (by simpa only [VL] using hv)
  | .seq a b, h, st, Q, hv => by
    simp only [VL] at hv
    refine WP_seq (WP_mono ?_ (VL_ok hm hT a hv))
    intro e s hs
    cases e with
    | normal => exact VL_ok hm hT b hs
    | _ => exact hs
  | .cond c a b, h, st, Q, hv => by
    simp only [VL] at hv
    split at hv
    · rename_i t hc
      exact WP_cond hc (fun ht => VL_ok hm hT a (hv.1 ht)) (fun ht => VL_ok hm hT b (hv.2 ht))
    · exact hv.elim
  | .block id c, h, st, Q, hv => by
    cases c with
    | loop c =>
      simp only [VL] at hv
      split at hv
      · rename_i s hs
        obtain ⟨x0, h1, h2, h3⟩ := hv
        refine WP_block (WP_loop' s x0 h1 (LeP_ok h2) (fun x hx => WP_mono ?_ (VL_ok hm hT c (h3 x hx))))
        intro e st' he
        cases e with
        | normal => obtain ⟨x', k1, k2, k3⟩ := he; exact ⟨x', k1, LeP_ok k2, k3⟩
        | _ => exact he
      · exact hv
    | skip => simp only [VL] at hv; exact WP_block (VL_ok (U := U) (ct := ct) (inv := inv) (h := h) hm hT .skip (by simpa only [VL] using hv))
    | region i o d => simp only [VL] at hv; exact WP_block (VL_ok (U := U) (ct := ct) (inv := inv) (h := h) hm hT (.region i o d) (by simpa only [VL] using hv))
    | seq a b => exact WP_block (VL_ok (U := U) (ct := ct) (inv := inv) (h := h) hm hT (.seq a b) hv)
    | cond a b d => exact WP_block (VL_ok (U := U) (ct := ct) (inv := inv) (h := h) hm hT (.cond a b d) hv)
    | block i d => exact WP_block (VL_ok (U := U) (ct := ct) (inv := inv) (h := h) hm hT (.block i d) hv)
    | exit i => exact WP_block (VL_ok (U := U) (ct := ct) (inv := inv) (h := h) hm hT (.exit i) hv)
    | ret => exact WP_block (VL_ok (U := U) (ct := ct) (inv := inv) (h := h) hm hT .ret hv)
    | rangeFunc f ps a b => exact WP_block (VL_ok (U := U) (ct := ct) (inv := inv) (h := h) hm hT (.rangeFunc f ps a b) hv)
    | scope d => exact WP_block (VL_ok (U := U) (ct := ct) (inv := inv) (h := h) hm hT (.scope d) hv)
    | label l => exact WP_block (VL_ok (U := U) (ct := ct) (inv := inv) (h := h) hm hT (.label l) hv)
    | goto l => exact WP_block (VL_ok (U := U) (ct := ct) (inv := inv) (h := h) hm hT (.goto l) hv)
    | refuse l => exact WP_block (VL_ok (U := U) (ct := ct) (inv := inv) (h := h) hm hT (.refuse l) hv)
  | .exit id, h, st, Q, hv => fun g a w hg => wpIn_exit ⟨g, st, Gh.le_refl g, hg, by simpa only [VL] using hv⟩
  | .ret, h, st, Q, hv => fun g a w hg => wpIn_ret ⟨g, st, Gh.le_refl g, hg, by simpa only [VL] using hv⟩
  | .loop c, h, st, Q, hv => by simpa only [VL] using hv
  | .rangeFunc f ps a b, h, st, Q, hv => by simpa only [VL] using hv
  | .scope c, h, st, Q, hv => by simpa only [VL] using hv
  | .label l, h, st, Q, hv => by simpa only [VL] using hv
  | .goto l, h, st, Q, hv => by simpa only [VL] using hv
  | .refuse s, h, st, Q, hv => by simpa only [VL] using hv

/-- A function's end: its results and entries are at least the contract's. -/
def RetP (P : Program) (fn : Func) (base : Nat) (x : SV) (L' : Ents) (e : Exit) (st : St) : Prop :=
  match e with
  | .normal | .ret => cond (Nat.beq st.base base) (match resF P fn st with
    | some (c, x1) => c ∧ LeP { fr := [(0, x1)], L := st.L, nx := st.nx, dec := [], base } { fr := [(0, x)], L := L', nx := 0, dec := [], base }
    | none => False) False
  | _ => False

theorem Le_nx {N : Nat} {fr : List (Nat × SV)} {L : Ents} {nx nx' base : Nat} {dec : List (Nat × Bool)} : Le N { fr, L, nx, dec, base } { fr, L, nx := nx', dec, base } := by
  rintro g a w ⟨ρ, Fp, ms, hc⟩
  exact ⟨ρ, Fp, ms, ⟨hc.mem, hc.frm, hc.dec, hc.size, hc.defers, hc.marks, hc.base⟩⟩

theorem RetP_ok {P : Program} {fn : Func} {base : Nat} {x : SV} {L' : Ents} {e : Exit} {st : St} (h : RetP P fn base x L' e st) : Ret P fn base x L' e st := by
  unfold RetP at h
  have key : cond (Nat.beq st.base base) (match resF P fn st with
    | some (c, x1) => c ∧ LeP { fr := [(0, x1)], L := st.L, nx := st.nx, dec := [], base } { fr := [(0, x)], L := L', nx := 0, dec := [], base }
    | none => False) False → st.base = base ∧ ∃ c x1, resF P fn st = some (c, x1) ∧ c ∧ Le 1 { fr := [(0, x1)], L := st.L, nx := 0, dec := [], base } { fr := [(0, x)], L := L', nx := 0, dec := [], base } := by
    intro h
    obtain ⟨h1, h2⟩ := condF h
    split at h2
    · rename_i c x1 hr
      exact ⟨Nat.eq_of_beq_eq_true h1, c, x1, hr, h2.1, Le.trans Le_nx (LeP_ok h2.2)⟩
    · exact h2.elim
  split at h
  · exact ⟨.inl rfl, key h⟩
  · exact ⟨.inr rfl, key h⟩
  · exact h.elim

/-- A CONTRACT FROM THE CONDITION OF THE BODY. -/
theorem Con.of {U : Type} {P : Program} {T : Tab} {f : FuncId} {fn : Func} {c : Code} {con : Con} (hm : P.follows .mixedOrders = true) (hT : T.Ok P) (hf : P.funcs[f]? = some fn) (hn : (fn.name == "runtime.NumGoroutine") = false) (hb : fn.body = some c)
    (ct : Nat → List (List Nat)) (inv : List SV → Ents → List U → Nat → Option (LoopSpec U))
    (h : ∀ xs L pre x L', con.run xs L = some (pre, x, L') → pre → xs.length ≤ fn.ntmps ∧ VL P T none fn.ntmps ct (inv xs L) c [] (St.init xs L L.length) (RetP P fn L.length x L')) : con.Ok P f :=
  ⟨⟨fn, hf, hn, by rw [hb]; rfl⟩, fun xs L pre x L' hr hp => SpecF_of_WP hf hb (h xs L pre x L' hr hp).1 (WP_mono (fun e st hh => RetP_ok hh) (VL_ok hm hT c (h xs L pre x L' hr hp).2))⟩

theorem SpecF.of {U : Type} {P : Program} {T : Tab} {f : FuncId} {fn : Func} {c : Code} (hm : P.follows .mixedOrders = true) (hT : T.Ok P) (hf : P.funcs[f]? = some fn) (hb : fn.body = some c) (ct : Nat → List (List Nat)) (inv : List U → Nat → Option (LoopSpec U))
    {xs : List SV} {L : Ents} {base : Nat} {x : SV} {L' : Ents} (hl : xs.length ≤ fn.ntmps) (h : VL P T none fn.ntmps ct inv c [] (St.init xs L base) (RetP P fn base x L')) : SpecF P f xs L base x L' :=
  SpecF_of_WP hf hb hl (WP_mono (fun e st hh => RetP_ok hh) (VL_ok hm hT c h))

/-- An empty slice is one value: nil or not. -/
theorem SpecF.ro0 {P : Program} {f : FuncId} {z n : Nat} {g : Nat → SV} {ex : Bool} {ys : List SV} {L : Ents} {base : Nat} {x : SV} {L' : Ents} (h1 : 0 < n → SpecF P f (.ro z n g ex :: ys) L base x L')
    (h2 : n = 0 → ∀ A c, SpecF P f (.v (.slice A 0 c) :: ys) L base x L') : SpecF P f (.ro z n g ex :: ys) L base x L' := by
  by_cases hn : 0 < n
  · exact h1 hn
  · have hn0 : n = 0 := by omega
    intro g' ρ Fp w us hus hm
    simp only [SV.RL] at hus
    obtain ⟨u, rest, rfl, hu, hr⟩ := hus
    simp only [SV.R, SV.C] at hu
    obtain ⟨_, _, A, c, hu, _⟩ := hu
    simp [one] at hu
    subst hu
    refine h2 hn0 A c g' ρ Fp w _ ?_ hm
    simp only [SV.RL]
    exact ⟨_, rest, rfl, by simp [SV.R, hn0], hr⟩
end Go.Sym
