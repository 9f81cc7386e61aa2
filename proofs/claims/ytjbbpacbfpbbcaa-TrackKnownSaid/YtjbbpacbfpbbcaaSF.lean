/- Contracts of functions: how one is shown from the body. -/
import Derived.Test.YtjbbpacbfpbbcaaSE
import Derived.RangeFuncRecord
set_option linter.all false
set_option linter.unusedSimpArgs false
set_option linter.unusedVariables false
set_option linter.deprecated false
set_option linter.unusedSimpArgs false
set_option linter.unusedVariables false
namespace Go.Sym

/-- A CALL IN ABSTRACT: from values and entries that are so, to a value and entries that are so; the ids under base stay. -/
def SpecF (P : Program) (f : FuncId) (xs : List SV) (L : Ents) (base : Nat) (x : SV) (L' : Ents) : Prop :=
  ∀ (g : Gh) (ρ : Nat → Nat × Nat) (Fp : Nat → List Nat) (w : World) (us : List Value), SV.RL ρ g.G xs us → Mem ρ g w L Fp →
    CallsIn Fence.wide 0 P f us.toArray w (fun e w' => ∃ v, e = .returned v ∧ ∃ g' ρ' Fp', g.le g' ∧ Mem ρ' g' w' L' Fp' ∧ x.R ρ' g'.G v ∧ ∀ i, i < base → ρ' i = ρ i)

def St.init (xs : List SV) (L : Ents) (base : Nat) : St := { fr := (List.range xs.length).zip xs, L, nx := base, dec := [], base }

/-- One result. -/
def resV (P : Program) (st : St) : ResultVar → Option (Prop × SV)
  | .tmp t => some (True, fget st.fr t)
  | .cell a t => match fget st.fr a with
    | .ptr i off => sLoad P st.L t (.ptr i off)
    | _ => none

def resVs (P : Program) (st : St) : List ResultVar → Option (Prop × List SV)
  | [] => some (True, [])
  | r :: rs => match resV P st r, resVs P st rs with
    | some (c, x), some (d, xs) => some (c ∧ d, x :: xs)
    | _, _ => none

def resF (P : Program) (fn : Func) (st : St) : Option (Prop × SV) :=
  match resVs P st fn.results.toList with
  | some (c, [x]) => some (c, x)
  | some (c, xs) => some (c, .tup xs)
  | none => none

def rvF (tmps : Array Value) : ResultVar → Sem Value
  | .tmp t => pure (tmps.getD t undef)
  | .cell a t => do loadVar t (← asAddr (tmps.getD a undef))

theorem run_results {P : Program} {fn : Func} {tmps : Array Value} {w : World} {us : List Value} (h : (fn.results.toList.mapM (rvF tmps)).run P w = .ok us w) :
    (results fn tmps).run P w = .ok (if h : us.length = 1 then us[0] else .tuple us.toArray) w := by
  have h1 : (fn.results.mapM (rvF tmps)).run P w = .ok us.toArray w := by
    rw [Array.mapM_eq_mapM_toList]
    show (Sem.bind _ _).run P w = _
    rw [Sem.run_bind', h]
    rfl
  show ((fn.results.mapM (rvF tmps)) >>= fun vs => pure (if h : vs.size = 1 then vs[0] else .tuple vs)).run P w = _
  rw [Sem.run_bind, h1]
  rfl

theorem resV_ok {P : Program} {N : Nat} {st : St} {g : Gh} {a : Act} {w : World} {ρ : Nat → Nat × Nat} {Fp : Nat → List Nat} {ms : List Nat} (hc : Cfg N st g a w ρ Fp ms) {r : ResultVar} {c : Prop} {x : SV} (h : resV P st r = some (c, x)) (hcc : c) :
    ∃ u, (rvF a.tmps r).run P w = .ok u w ∧ x.R ρ g.G u := by
  cases r with
  | tmp t =>
    simp only [resV, Option.some.injEq, Prod.mk.injEq] at h
    obtain ⟨_, rfl⟩ := h
    exact ⟨_, rfl, hc.frm t⟩
  | cell b t =>
    simp only [resV] at h
    split at h
    · rename_i i off hb
      have h1 := hc.frm b
      rw [hb] at h1
      simp only [SV.R] at h1
      simp only [sLoad] at h
      split at h
      · rename_i cs hi
        simp only [Option.map_eq_some_iff, Prod.mk.injEq] at h
        obtain ⟨r', hp, rfl, rfl⟩ := h
        obtain ⟨cc, e, fr, hb, _, _, _, _, hr⟩ := hc.mem.blk_var hi
        have := run_load_part (P := P) (o := 0) hp hb (fun j x hj => by
          obtain ⟨u, hu, _, hru⟩ := hr j x hj
          exact ⟨u, by rw [Nat.zero_add]; exact hu, hru⟩)
        rw [Nat.zero_add] at this
        obtain ⟨u, hu, hru⟩ := this
        refine ⟨u, ?_, hru⟩
        simp [rvF, h1, asAddr, hu]
      · simp at h
    · simp at h

theorem resVs_ok {P : Program} {N : Nat} {st : St} {g : Gh} {a : Act} {w : World} {ρ : Nat → Nat × Nat} {Fp : Nat → List Nat} {ms : List Nat} (hc : Cfg N st g a w ρ Fp ms) : ∀ {rs : List ResultVar} {c : Prop} {xs : List SV}, resVs P st rs = some (c, xs) → c →
    ∃ us, (rs.mapM (rvF a.tmps)).run P w = .ok us w ∧ SV.RL ρ g.G xs us
  | [], c, xs, h, hcc => by
    simp only [resVs, Option.some.injEq, Prod.mk.injEq] at h
    obtain ⟨_, rfl⟩ := h
    exact ⟨[], by simp, by simp [SV.RL]⟩
  | r :: rs, c, xs, h, hcc => by
    simp only [resVs] at h
    split at h
    · rename_i c1 x d xs' h1 h2
      simp only [Option.some.injEq, Prod.mk.injEq] at h
      obtain ⟨rfl, rfl⟩ := h
      obtain ⟨u, hu, hr⟩ := resV_ok hc h1 hcc.1
      obtain ⟨us, hus, hrs⟩ := resVs_ok hc h2 hcc.2
      refine ⟨u :: us, ?_, ?_⟩
      · rw [List.mapM_cons]
        simp only [Sem.run_bind, hu, Result.andThen_ok, hus, Sem.run_pure]
      · simp only [SV.RL]; exact ⟨u, us, rfl, hr, hrs⟩
    · simp at h

theorem resF_ok {P : Program} {N : Nat} {fn : Func} {st : St} {g : Gh} {a : Act} {w : World} {ρ : Nat → Nat × Nat} {Fp : Nat → List Nat} {ms : List Nat} (hc : Cfg N st g a w ρ Fp ms) {c : Prop} {x : SV} (h : resF P fn st = some (c, x)) (hcc : c) :
    ∃ u, (results fn a.tmps).run P w = .ok u w ∧ x.R ρ g.G u := by
  unfold resF at h
  split at h
  · rename_i c' y h1
    simp only [Option.some.injEq, Prod.mk.injEq] at h
    obtain ⟨rfl, rfl⟩ := h
    obtain ⟨us, hus, hr⟩ := resVs_ok hc h1 hcc
    simp only [SV.RL] at hr
    obtain ⟨u, rest, rfl, hu, rfl⟩ := hr
    exact ⟨u, run_results hus, hu⟩
  · rename_i c' xs hne h1
    simp only [Option.some.injEq, Prod.mk.injEq] at h
    obtain ⟨rfl, rfl⟩ := h
    obtain ⟨us, hus, hr⟩ := resVs_ok hc h1 hcc
    refine ⟨.tuple us.toArray, ?_, ?_⟩
    · rw [run_results hus, dif_neg]
      intro h1
      have hl := SV.RL_length hr
      rw [h1] at hl
      match xs, hl, hne with
      | [y], _, hne => exact hne y rfl
    · simp only [SV.R]; exact ⟨us.toArray, rfl, by simpa using hr⟩
  · simp at h

theorem Mem.mark {ρ : Nat → Nat × Nat} {g : Gh} {w : World} {L : Ents} {Fp : Nat → List Nat} (h : Mem ρ g w L Fp) {m : Nat} (hB : g.B m = none) (hF : ∀ i e, (i, e) ∈ L → m ∉ Fp i) (o : Obj) : Mem ρ g (w.putObj m o) L Fp := by
  have hne : ∀ b, b ≠ m → World.H (w.putObj m o) b = World.H w b := by
    intro b hb
    show (w.heap.setIfInBounds m o)[b]? = _
    rw [Array.getElem?_setIfInBounds, if_neg (Ne.symm hb)]
    rfl
  refine ⟨h.keys, fun i e hi => ?_, h.nd, h.nb, h.dj, h.gb, fun b o' hb => ?_, h.os, h.out, h.tape⟩
  · exact (h.ent i e hi).mono (Heap.le_refl _) rfl (fun b hb => hne b (fun hbm => hF i e hi (hbm ▸ hb))) rfl (fun _ _ => rfl)
  · rw [hne b (fun hbm => by rw [hbm, hB] at hb; simp at hb)]; exact h.bw b o' hb

theorem leavesM {P : Program} {fn : Func} {tmps : Array Value} {R : Ending → World → Prop} {ρ : Nat → Nat × Nat} {g : Gh} {L : Ents} {Fp : Nat → List Nat}
    (hR : ∀ w, Mem ρ g w L Fp → ∃ v, (results fn tmps).run P w = .ok v w ∧ R (.returned v) w) : ∀ (ms : List Nat) (w : World), Mem ρ g w L Fp → Marks g w L Fp ms → LeavesInM Fence.wide 0 P fn tmps R (ms.map markOf) .returning w
  | [], w, hm, _ => hR w hm
  | m :: ms, w, hm, hk => by
    refine ⟨by simp, .inl ⟨m, _, rfl, run_takeDeferred (hk.at_ m (by simp)), ?_⟩⟩
    have hm' : Mem ρ g (w.putObj m (.deferred none)) L Fp := hm.mark (hk.nb m (by simp)) (fun i e hi => hk.nf m (by simp) i e hi) _
    refine leavesM hR ms _ hm' ⟨fun m' hm' => ?_, fun m' hm' => hk.nb m' (by simp [hm']), fun m' hm' i e hi => hk.nf m' (by simp [hm']) i e hi, (List.nodup_cons.1 hk.nd).2⟩
    have hne : m ≠ m' := fun h => (List.nodup_cons.1 hk.nd).1 (h ▸ hm')
    show (w.heap.setIfInBounds m _)[m']? = _
    rw [Array.getElem?_setIfInBounds, if_neg hne]
    exact hk.at_ m' (by simp [hm'])

/-- What a body's end must have: the results and the entries. -/
def Ret (P : Program) (fn : Func) (base : Nat) (x : SV) (L' : Ents) (e : Exit) (st : St) : Prop :=
  (e = .normal ∨ e = .ret) ∧ st.base = base ∧ ∃ c x1, resF P fn st = some (c, x1) ∧ c ∧ Le 1 { fr := [(0, x1)], L := st.L, nx := 0, dec := [], base } { fr := [(0, x)], L := L', nx := 0, dec := [], base }

theorem fget_zip : ∀ (xs : List SV) (k t : Nat), fget ((List.range' k xs.length).zip xs) (k + t) = (xs[t]?).getD .any
  | [], k, t => by simp [fget]
  | x :: xs, k, t => by
    simp only [List.length_cons, List.range'_succ, List.zip_cons_cons, fget_cons]
    cases t with
    | zero => simp
    | succ t =>
      have := fget_zip xs (k + 1) t
      rw [if_neg (by omega)]
      rw [show k + (t + 1) = k + 1 + t by omega, this]
      simp

theorem SpecF_of_WP {P : Program} {f : FuncId} {fn : Func} {c : Code} (hf : P.funcs[f]? = some fn) (hb : fn.body = some c) {xs : List SV} {L : Ents} {base : Nat} {x : SV} {L' : Ents} (hl : xs.length ≤ fn.ntmps)
    (h : WP P none fn.ntmps c (St.init xs L base) (Ret P fn base x L')) : SpecF P f xs L base x L' := by
  intro g0 ρ Fp w us hus hm
  let g : Gh := { g0 with ρ0 := ρ }
  have hlen := SV.RL_length hus
  have hbk : ∀ {g' : Gh}, g.le g' → g0.le { g' with ρ0 := g0.ρ0 } := fun hle => ⟨hle.os, hle.out, hle.tape, rfl, hle.S, hle.G, hle.B, hle.new⟩
  have hm0 : Mem ρ g w L Fp := ⟨hm.keys, hm.ent, hm.nd, hm.nb, hm.dj, hm.gb, hm.bw, hm.os, hm.out, hm.tape⟩
  refine callsIn_of_wp_marks hf hb trivial (wpIn_mono (h g _ w ⟨ρ, Fp, [], ⟨hm0, ?_, ?_, ?_, by simp, ⟨by simp, by simp, by simp, by simp⟩, fun i _ => rfl⟩⟩) ?_)
  · intro t
    have : fget (St.init xs L base).fr t = (xs[t]?).getD .any := by
      have := fget_zip xs 0 t
      rw [Nat.zero_add] at this
      rw [← this]
      simp [St.init, List.range_eq_range']
    rw [this]
    by_cases ht : t < xs.length
    · obtain ⟨u, hu, hr⟩ := SV.RL_get hus (List.getElem?_eq_getElem ht)
      rw [List.getElem?_eq_getElem ht]
      simp only [Option.getD_some]
      have h2 : (us.toArray ++ Array.replicate (fn.ntmps - us.toArray.size) undef).getD t undef = u := by
        rw [Array.getD_eq_getD_getElem?, Array.getElem?_append_left (by simp; omega)]
        simp [hu]
      rw [h2]; exact hr
    · rw [List.getElem?_eq_none (by omega)]
      simp [SV.R]
  · intro t b ht; simp [St.init, dget] at ht
  · simp [hlen]; omega
  · rintro e a w' ⟨g', st', hle, ⟨ρ', Fp', ms, hc⟩, he, hb2, cc, x1, hres, hcc, hle1⟩
    have key : LeavesInM Fence.wide 0 P fn a.tmps (fun e w' => ∃ v, e = .returned v ∧ ∃ g' ρ' Fp', g0.le g' ∧ Mem ρ' g' w' L' Fp' ∧ x.R ρ' g'.G v ∧ ∀ i, i < base → ρ' i = ρ i) a.defers .returning w' := by
      rw [hc.defers]
      refine leavesM (fun w2 hm2 => ?_) ms w' hc.mem hc.marks
      have hc2 : Cfg fn.ntmps st' g' { a with defers := [] } w2 ρ' Fp' [] := ⟨hm2, hc.frm, hc.dec, hc.size, rfl, ⟨by simp, by simp, by simp, by simp⟩, hc.base⟩
      obtain ⟨u, hu, hru⟩ := resF_ok hc2 hres hcc
      refine ⟨u, hu, u, rfl, ?_⟩
      have hH : Holds 1 { fr := [(0, x1)], L := st'.L, nx := 0, dec := [], base } g' { tmps := #[u], defers := [] } w2 := by
        refine ⟨ρ', Fp', [], ⟨hm2, ?_, ?_, by simp, rfl, ⟨by simp, by simp, by simp, by simp⟩, ?_⟩⟩
        · intro t
          cases t with
          | zero => simpa [fget] using hru
          | succ t =>
            show (fget [(0, x1)] (t + 1)).R _ _ _
            rw [fget_cons, if_neg (by omega)]
            simp [fget, SV.R]
        · intro t b ht; simp [dget] at ht
        · intro i hi
          exact hc.base i (by rw [hb2]; exact hi)
      obtain ⟨ρ2, Fp2, ms2, hc3⟩ := hle1 g' _ w2 hH
      refine ⟨{ g' with ρ0 := g0.ρ0 }, ρ2, Fp2, hbk hle, ⟨hc3.mem.keys, hc3.mem.ent, hc3.mem.nd, hc3.mem.nb, hc3.mem.dj, hc3.mem.gb, hc3.mem.bw, hc3.mem.os, hc3.mem.out, hc3.mem.tape⟩, ?_, ?_⟩
      · have := hc3.frm 0
        simpa [fget] using this
      · intro i hi
        rw [hc3.base i hi, hle.ρ0]
    rcases he with rfl | rfl
    · exact key
    · exact key
end Go.Sym

/- What a caller lends: read-only views of its own entries. -/
set_option linter.unusedSimpArgs false
set_option linter.unusedVariables false
namespace Go.Sym

mutual
/-- A closed value seen as read-only. -/
def rov : SV → SV
  | .own z n f => .ro z n (fun k => rov (f k)) false
  | .agg cs => .agg (rovL cs)
  | .v x => .v x
  | .ptr i off => .ptr i off
  | .elp i z k off => .elp i z k off
  | .sl i z off len cap ex => .sl i z off len cap ex
  | .ro z n f ex => .ro z n f ex
  | .rop cs => .rop cs
  | .fn f fs cs => .fn f fs cs
  | .tup cs => .tup cs
  | .any => .any
  | .yld i => .yld i
def rovL : List SV → List SV
  | [] => []
  | x :: xs => rov x :: rovL xs
end

theorem rovL_length : ∀ (xs : List SV), (rovL xs).length = xs.length
  | [] => rfl
  | x :: xs => by simp [rovL, rovL_length xs]
theorem rov_notAgg : ∀ (x : SV), (rov x).notAgg = x.notAgg := by intro x; cases x <;> rfl

mutual
theorem C_rov {G G' H H' : Heap} (hG : Heap.le G G') : ∀ (x : SV) (s : Nat) (rd : Rd) (F : List Nat), (∀ b ∈ F, ∀ o, H b = some o → G' b = some o) → SV.C G H x s rd F → SV.C G' H' (rov x) s rd []
  | .v x, s, rd, F, hF, h => by
    simp only [rov, SV.C] at h ⊢; exact ⟨h.1, h.2.1, h.2.2.1, trivial⟩
  | .ro z n f ex, s, rd, F, hF, h => by
    have h0 : F = [] := by simp only [SV.C] at h; exact h.2.1
    subst h0
    exact SV.C_mono hG _ _ _ _ (by simp) h
  | .own z n f, s, rd, F, hF, h => by
    simp only [rov, SV.C] at h ⊢
    obtain ⟨h1, A, c, h2, h3, h4⟩ := h
    refine ⟨h1, trivial, A, c, h2, h3, by simp, ?_⟩
    rcases h4 with ⟨h4, _⟩ | ⟨b, cs, e, fr, g, h4, h5, h6, h7, h8, h9⟩
    · left; omega
    · subst h8
      right
      refine ⟨b, 0, cs, e, fr, h4, hF b (by simp) _ h6, fun k hk => ?_⟩
      have := C_rov hG (H := H) (H' := H') (f k) z _ (g k) (fun b' hb' => hF b' (List.mem_cons_of_mem _ (mem_flat.2 ⟨k, hk, hb'⟩))) (h9 k hk)
      simpa using this
  | .agg cs, s, rd, F, hF, h => by
    simp only [rov, SV.C] at h ⊢
    exact ⟨by rw [rovL_length]; exact h.1, CL_rov hG cs rd F hF h.2⟩
  | .any, s, rd, F, hF, h => by simp only [rov, SV.C] at h ⊢; exact ⟨h.1, trivial, h.2.2⟩
  | .ptr _ _, s, rd, F, hF, h => by simp [SV.C] at h
  | .elp _ _ _ _, s, rd, F, hF, h => by simp [SV.C] at h
  | .sl _ _ _ _ _ _, s, rd, F, hF, h => by simp [SV.C] at h
  | .rop _, s, rd, F, hF, h => by simp [SV.C] at h
  | .fn _ _ _, s, rd, F, hF, h => by simp [SV.C] at h
  | .tup _, s, rd, F, hF, h => by simp [SV.C] at h
  | .yld _, s, rd, F, hF, h => by simp [SV.C] at h
theorem CL_rov {G G' H H' : Heap} (hG : Heap.le G G') : ∀ (xs : List SV) (rd : Rd) (F : List Nat), (∀ b ∈ F, ∀ o, H b = some o → G' b = some o) → SV.CL G H xs rd F → SV.CL G' H' (rovL xs) rd []
  | [], rd, F, hF, h => by simp [rovL, SV.CL]
  | x :: xs, rd, F, hF, h => by
    simp only [rovL, SV.CL] at h ⊢
    obtain ⟨F1, F2, rfl, hna, h1, h2⟩ := h
    exact ⟨[], [], rfl, by rw [rov_notAgg]; exact hna, C_rov hG x 1 rd F1 (fun b hb => hF b (by simp [hb])) h1, CL_rov hG xs _ F2 (fun b hb => hF b (by simp [hb])) h2⟩
end

/-- The place of an id among the handed ones. -/
def pos : List Nat → Nat → Option Nat
  | [], _ => none
  | h :: hs, i => cond (Nat.beq h i) (some 0) ((pos hs i).map (· + 1))

theorem pos_get : ∀ {hs : List Nat} {i p : Nat}, pos hs i = some p → hs[p]? = some i
  | [], i, p, h => by simp [pos] at h
  | a :: hs, i, p, h => by
    simp only [pos] at h
    cases hb : Nat.beq a i with
    | true => rw [hb] at h; simp at h; subst h; simp [Nat.eq_of_beq_eq_true hb]
    | false =>
      rw [hb] at h
      simp only [cond_false, Option.map_eq_some_iff] at h
      obtain ⟨q, hq, rfl⟩ := h
      simpa using pos_get hq

theorem pos_none : ∀ {hs : List Nat} {i : Nat}, pos hs i = none → i ∉ hs
  | [], i, h => by simp
  | a :: hs, i, h => by
    simp only [pos] at h
    cases hb : Nat.beq a i with
    | true => rw [hb] at h; simp at h
    | false =>
      rw [hb] at h
      simp only [cond_false, Option.map_eq_none_iff] at h
      have hne : i ≠ a := fun he => by rw [he, Nat.beq_refl] at hb; simp at hb
      simp [hne, pos_none h]

theorem pos_mem {hs : List Nat} {i p : Nat} (h : pos hs i = some p) : i ∈ hs := List.mem_of_getElem? (pos_get h)
theorem pos_some {hs : List Nat} {i : Nat} (h : i ∈ hs) : ∃ p, pos hs i = some p := by
  cases hp : pos hs i with
  | some p => exact ⟨p, rfl⟩
  | none => exact absurd h (pos_none hp)

/-- A cell of a lent variable. -/
def vwCell (L : Ents) (H : List Nat) : SV → Option (Prop × SV)
  | .v x => some (True, .v x)
  | .ro z n f ex => some (True, .ro z n f ex)
  | .any => some (True, .any)
  | .sl i z off len _ _ => match pos H i, L.get i with
    | none, some (.row z' n f) => if z' = z then some (off + len ≤ n, .ro z len (fun k => rov (f (off + k))) false) else none
    | _, _ => none
  | _ => none

def vwCells (L : Ents) (H : List Nat) : List SV → Option (Prop × List SV)
  | [] => some (True, [])
  | x :: xs => match vwCell L H x, vwCells L H xs with
    | some (c, y), some (d, ys) => some (c ∧ d, y :: ys)
    | _, _ => none

mutual
/-- A value as the callee has it: handed ids get their new number, of other own entries a view is lent. -/
def vw (L : Ents) (H : List Nat) : SV → Option (Prop × Bool × SV)
  | .v x => some (True, false, .v x)
  | .ro z n f ex => some (True, false, .ro z n f ex)
  | .rop cs => some (True, false, .rop cs)
  | .any => some (True, false, .any)
  | .sl i z off len cap ex => match pos H i with
    | some p => some (True, false, .sl p z off len cap ex)
    | none => match L.get i with
      | some (.row z' n f) => if z' = z then some (off + len ≤ n, true, .ro z len (fun k => rov (f (off + k))) false) else none
      | _ => none
  | .ptr i off => match pos H i with
    | some p => some (True, false, .ptr p off)
    | none => match L.get i with
      | some (.var cs) => (vwCells L H (cs.drop off)).map fun r => (r.1, true, .rop r.2)
      | _ => none
  | .elp i z k off => match pos H i with
    | some p => some (True, false, .elp p z k off)
    | none => match L.get i with
      | some (.row z' n f) => if z' = z then some (k < n, true, .rop (rovL ((f k).elems.drop off))) else none
      | _ => none
  | .agg cs => (vwL L H cs).map fun r => (r.1, r.2.1, .agg r.2.2)
  | .fn f fs cs => match vwL L H fs, vwL L H cs with
    | some (c, b, xs), some (d, e, ys) => some (c ∧ d, b || e, .fn f xs ys)
    | _, _ => none
  | .own _ _ _ => none
  | .tup _ => none
  | .yld _ => none
def vwL (L : Ents) (H : List Nat) : List SV → Option (Prop × Bool × List SV)
  | [] => some (True, false, [])
  | x :: xs => match vw L H x, vwL L H xs with
    | some (c, b, y), some (d, e, ys) => some (c ∧ d, b || e, y :: ys)
    | _, _ => none
end

/-- The lent blocks are among those that the callee may read. -/
def Lent (L : Ents) (H : List Nat) (Fp : Nat → List Nat) (w : World) (G' : Heap) : Prop := ∀ i e, (i, e) ∈ L → i ∉ H → ∀ b ∈ Fp i, ∀ o, World.H w b = some o → G' b = some o

theorem view_sl {ρ : Nat → Nat × Nat} {g : Gh} {w : World} {L : Ents} {Fp : Nat → List Nat} (hm : Mem ρ g w L Fp) {G' : Heap} (hG : Heap.le g.G G') {i z off len cap n : Nat} {ex : Bool} {f : Nat → SV} {u : Value}
    (hx : (SV.sl i z off len cap ex).R ρ g.G u) (hi : L.get i = some (.row z n f)) (hF : ∀ b ∈ Fp i, ∀ o, World.H w b = some o → G' b = some o) (hc : off + len ≤ n) {H' : Heap} :
    (SV.ro z len (fun k => rov (f (off + k))) false).C G' H' 1 (one u) [] := by
  simp only [SV.R] at hx
  obtain ⟨A, c, rfl, h2, h3, h4, h5, h6⟩ := hx
  simp only [SV.C]
  refine ⟨trivial, trivial, A, c, by simp [one], by omega, by simp, ?_⟩
  by_cases hl : len = 0
  · exact .inl hl
  right
  rcases h5 with h5 | h5
  · omega
  rcases hm.ent i _ (Ents.mem_of_get hi) with ⟨h0, _⟩ | ⟨cc, e, fr, gg, hb, hs, hw, hn, hFp, hr⟩
  · omega
  refine ⟨(ρ i).1, off * z, cc, e, fr, h5, hF _ (by rw [hFp]; simp) _ hb, fun k hk => ?_⟩
  have := C_rov hG (H := World.H w) (H' := H') (f (off + k)) z _ (gg (off + k)) (fun b hb => hF b (by rw [hFp]; exact List.mem_cons_of_mem _ (mem_flat.2 ⟨off + k, by omega, hb⟩))) (hr (off + k) (by omega))
  rwa [show (fun j => cc[(off + k) * z + j]?) = (fun j => cc[off * z + k * z + j]?) from by funext j; rw [Nat.add_mul]] at this

theorem vwCell_ok {ρ : Nat → Nat × Nat} {g : Gh} {w : World} {L : Ents} {Fp : Nat → List Nat} (hm : Mem ρ g w L Fp) {G' : Heap} (hG : Heap.le g.G G') {Hd : List Nat} (hF : Lent L Hd Fp w G') {x y : SV} {c : Prop} {u : Value} (hx : x.R ρ g.G u) (ho : u.oneCell' = true) (h : vwCell L Hd x = some (c, y)) (hc : c) {rd : Rd} (hrd : rd 0 = some u) {H' : Heap} :
    y.notAgg = true ∧ y.C G' H' 1 rd [] := by
  have hone : ∀ z n f ex, (SV.ro z n f ex).C G' H' 1 (one u) [] → (SV.ro z n f ex).C G' H' 1 rd [] := by
    intro z n f ex h
    simp only [SV.C, one, if_true] at h ⊢
    rw [hrd]; exact h
  cases x <;> simp only [vwCell] at h
  case v a =>
    simp only [Option.some.injEq, Prod.mk.injEq] at h; obtain ⟨_, rfl⟩ := h
    simp only [SV.R] at hx; subst hx
    exact ⟨rfl, by simp [SV.C, hrd, ho]⟩
  case ro z n f ex =>
    simp only [Option.some.injEq, Prod.mk.injEq] at h; obtain ⟨_, rfl⟩ := h
    simp only [SV.R] at hx
    refine ⟨rfl, hone _ _ _ _ (SV.C_mono hG _ _ _ _ (by simp) hx)⟩
  case any =>
    simp only [Option.some.injEq, Prod.mk.injEq] at h; obtain ⟨_, rfl⟩ := h
    exact ⟨rfl, by simp [SV.C, hrd, ho]⟩
  case sl i z off len cap ex =>
    split at h
    · rename_i z' n f hp hi
      split at h
      · rename_i hz
        subst hz
        simp only [Option.some.injEq, Prod.mk.injEq] at h; obtain ⟨rfl, rfl⟩ := h
        exact ⟨rfl, hone _ _ _ _ (view_sl hm hG hx hi (hF i _ (Ents.mem_of_get hi) (pos_none hp)) hc)⟩
      · simp at h
    · simp at h
  all_goals simp at h

theorem vwCells_ok {ρ : Nat → Nat × Nat} {g : Gh} {w : World} {L : Ents} {Fp : Nat → List Nat} (hm : Mem ρ g w L Fp) {G' : Heap} (hG : Heap.le g.G G') {Hd : List Nat} (hF : Lent L Hd Fp w G') {H' : Heap} : ∀ {xs ys : List SV} {c : Prop} {rd : Rd},
    (∀ (j : Nat) (x : SV), xs[j]? = some x → ∃ u, rd j = some u ∧ u.oneCell' = true ∧ x.R ρ g.G u) → vwCells L Hd xs = some (c, ys) → c → SV.CL G' H' ys rd []
  | [], ys, c, rd, hx, h, hc => by
    simp only [vwCells, Option.some.injEq, Prod.mk.injEq] at h; obtain ⟨_, rfl⟩ := h
    simp [SV.CL]
  | x :: xs, ys, c, rd, hx, h, hc => by
    simp only [vwCells] at h
    split at h
    · rename_i c1 y d ys' h1 h2
      simp only [Option.some.injEq, Prod.mk.injEq] at h; obtain ⟨rfl, rfl⟩ := h
      obtain ⟨u, hu, ho, hr⟩ := hx 0 x (by simp)
      obtain ⟨k1, k2⟩ := vwCell_ok hm hG hF hr ho h1 hc.1 hu (H' := H')
      simp only [SV.CL]
      exact ⟨[], [], rfl, k1, k2, vwCells_ok hm hG hF (rd := fun j => rd (j + 1)) (fun j x hj => hx (j + 1) x (by simpa using hj)) h2 hc.2⟩
    · simp at h

/-- The ids as the callee counts them. -/
def hid (H : List Nat) (ρ : Nat → Nat × Nat) : Nat → Nat × Nat := fun p => ρ (H.getD p 0)

theorem hid_pos {H : List Nat} {ρ : Nat → Nat × Nat} {i p : Nat} (h : pos H i = some p) : hid H ρ p = ρ i := by
  simp [hid, List.getD_eq_getElem?_getD, pos_get h]

mutual
theorem vw_ok {ρ : Nat → Nat × Nat} {g : Gh} {w : World} {L : Ents} {Fp : Nat → List Nat} (hm : Mem ρ g w L Fp) {G' : Heap} (hG : Heap.le g.G G') {H : List Nat} : ∀ (x : SV) {y : SV} {c : Prop} {b : Bool} {u : Value},
    vw L H x = some (c, b, y) → c → (b = true → Lent L H Fp w G') → x.R ρ g.G u → y.R (hid H ρ) G' u
  | .v x, y, c, b, u, h, hc, hF, hx => by
    simp only [vw, Option.some.injEq, Prod.mk.injEq] at h; obtain ⟨_, _, rfl⟩ := h
    simpa [SV.R] using hx
  | .ro z n f ex, y, c, b, u, h, hc, hF, hx => by
    simp only [vw, Option.some.injEq, Prod.mk.injEq] at h; obtain ⟨_, _, rfl⟩ := h
    exact SV.R_mono hG _ _ (fun i hi => by simp [SV.names] at hi) (ρ := ρ) hx
  | .rop cs, y, c, b, u, h, hc, hF, hx => by
    simp only [vw, Option.some.injEq, Prod.mk.injEq] at h; obtain ⟨_, _, rfl⟩ := h
    exact SV.R_mono hG _ _ (fun i hi => by simp [SV.names] at hi) (ρ := ρ) hx
  | .any, y, c, b, u, h, hc, hF, hx => by
    simp only [vw, Option.some.injEq, Prod.mk.injEq] at h; obtain ⟨_, _, rfl⟩ := h
    simp [SV.R]
  | .sl i z off len cap ex, y, c, b, u, h, hc, hF, hx => by
    simp only [vw] at h
    split at h
    · rename_i p hp
      simp only [Option.some.injEq, Prod.mk.injEq] at h; obtain ⟨_, _, rfl⟩ := h
      simp only [SV.R] at hx ⊢
      rw [hid_pos hp]; exact hx
    · rename_i hp
      split at h
      · rename_i z' n f hi
        split at h
        · rename_i hz
          subst hz
          simp only [Option.some.injEq, Prod.mk.injEq] at h; obtain ⟨rfl, rfl, rfl⟩ := h
          have := view_sl hm hG hx hi (hF rfl i _ (Ents.mem_of_get hi) (pos_none hp)) hc (H' := fun _ => none)
          simpa only [SV.R] using this
        · simp at h
      · simp at h
  | .ptr i off, y, c, b, u, h, hc, hF, hx => by
    simp only [vw] at h
    split at h
    · rename_i p hp
      simp only [Option.some.injEq, Prod.mk.injEq] at h; obtain ⟨_, _, rfl⟩ := h
      simp only [SV.R] at hx ⊢
      rw [hid_pos hp]; exact hx
    · rename_i hp
      split at h
      · rename_i cs hi
        simp only [Option.map_eq_some_iff, Prod.mk.injEq] at h
        obtain ⟨⟨c', ys⟩, h, rfl, rfl, rfl⟩ := h
        simp only [SV.R] at hx ⊢
        obtain ⟨cc, e, fr, hb, _, _, hl, hFp, hr⟩ := hm.blk_var hi
        refine ⟨(ρ i).1, off, cc, e, fr, hx, hF rfl i _ (Ents.mem_of_get hi) (pos_none hp) _ (by rw [hFp]; simp) _ hb, ?_⟩
        refine vwCells_ok hm hG (hF rfl) (rd := fun j => cc[off + j]?) (fun j x hj => ?_) h hc
        rw [List.getElem?_drop] at hj
        exact hr _ _ hj
      · simp at h
  | .elp i z k off, y, c, b, u, h, hc, hF, hx => by
    simp only [vw] at h
    split at h
    · rename_i p hp
      simp only [Option.some.injEq, Prod.mk.injEq] at h; obtain ⟨_, _, rfl⟩ := h
      simp only [SV.R] at hx ⊢
      rw [hid_pos hp]; exact hx
    · rename_i hp
      split at h
      · rename_i z' n f hi
        split at h
        · rename_i hz
          subst hz
          simp only [Option.some.injEq, Prod.mk.injEq] at h; obtain ⟨rfl, rfl, rfl⟩ := h
          simp only [SV.R] at hx ⊢
          rcases hm.ent i _ (Ents.mem_of_get hi) with ⟨h0, _⟩ | ⟨cc, e, fr, gg, hb, hs, hw, hn, hFp, hr⟩
          · omega
          refine ⟨(ρ i).1, k * z' + off, cc, e, fr, hx, hF rfl i _ (Ents.mem_of_get hi) (pos_none hp) _ (by rw [hFp]; simp) _ hb, ?_⟩
          have h1 := (C_elemsF (hr k hc)).1
          have h2 := CL_rov hG (H := World.H w) (H' := fun _ => none) (f k).elems _ (gg k) (fun b hb => hF rfl i _ (Ents.mem_of_get hi) (pos_none hp) b (by rw [hFp]; exact List.mem_cons_of_mem _ (mem_flat.2 ⟨k, hc, hb⟩))) h1
          have h3 : ∀ (m : Nat) (xs : List SV) (rd : Rd), SV.CL G' (fun _ => none) (rovL xs) rd [] → SV.CL G' (fun _ => none) (rovL (xs.drop m)) (fun j => rd (m + j)) [] := by
            intro m
            induction m with
            | zero => intro xs rd h; simpa using h
            | succ m ih =>
              intro xs rd h
              cases xs with
              | nil => simp [rovL, SV.CL]
              | cons x xs =>
                simp only [rovL, SV.CL] at h
                obtain ⟨F1, F2, h0, _, _, h2⟩ := h
                have hF2 : F2 = [] := by
                  cases F2 with
                  | nil => rfl
                  | cons a l => simp at h0
                rw [hF2] at h2
                have := ih xs _ h2
                simpa [Nat.add_assoc, Nat.add_comm, Nat.add_left_comm] using this
          have := h3 off _ _ h2
          simpa [Nat.add_assoc] using this
        · simp at h
      · simp at h
  | .agg cs, y, c, b, u, h, hc, hF, hx => by
    simp only [vw, Option.map_eq_some_iff, Prod.mk.injEq] at h
    obtain ⟨⟨c', b', ys⟩, h, rfl, rfl, rfl⟩ := h
    simp only [SV.R] at hx ⊢
    obtain ⟨us, rfl, hr⟩ := hx
    exact ⟨us, rfl, vwL_ok hm hG cs h hc hF hr⟩
  | .fn f fs cs, y, c, b, u, h, hc, hF, hx => by
    simp only [vw] at h
    split at h
    · rename_i c1 b1 xs d e ys h1 h2
      simp only [Option.some.injEq, Prod.mk.injEq] at h; obtain ⟨rfl, rfl, rfl⟩ := h
      simp only [SV.R] at hx ⊢
      obtain ⟨us, vs, rfl, hr1, hr2⟩ := hx
      exact ⟨us, vs, rfl, vwL_ok hm hG fs h1 hc.1 (fun hb => hF (by simp [hb])) hr1, vwL_ok hm hG cs h2 hc.2 (fun hb => hF (by simp [hb])) hr2⟩
    · simp at h
  | .own _ _ _, y, c, b, u, h, hc, hF, hx => by simp [vw] at h
  | .tup _, y, c, b, u, h, hc, hF, hx => by simp [vw] at h
theorem vwL_ok {ρ : Nat → Nat × Nat} {g : Gh} {w : World} {L : Ents} {Fp : Nat → List Nat} (hm : Mem ρ g w L Fp) {G' : Heap} (hG : Heap.le g.G G') {H : List Nat} : ∀ (xs : List SV) {ys : List SV} {c : Prop} {b : Bool} {us : List Value},
    vwL L H xs = some (c, b, ys) → c → (b = true → Lent L H Fp w G') → SV.RL ρ g.G xs us → SV.RL (hid H ρ) G' ys us
  | [], ys, c, b, us, h, hc, hF, hx => by
    simp only [vwL, Option.some.injEq, Prod.mk.injEq] at h; obtain ⟨_, _, rfl⟩ := h
    simpa [SV.RL] using hx
  | x :: xs, ys, c, b, us, h, hc, hF, hx => by
    simp only [vwL] at h
    split at h
    · rename_i c1 b1 y d e ys' h1 h2
      simp only [Option.some.injEq, Prod.mk.injEq] at h; obtain ⟨rfl, rfl, rfl⟩ := h
      simp only [SV.RL] at hx ⊢
      obtain ⟨u, rest, rfl, hr1, hr2⟩ := hx
      exact ⟨u, rest, rfl, vw_ok hm hG x h1 hc.1 (fun hb => hF (by simp [hb])) hr1, vwL_ok hm hG xs h2 hc.2 (fun hb => hF (by simp [hb])) hr2⟩
    · simp at h
end
end Go.Sym
