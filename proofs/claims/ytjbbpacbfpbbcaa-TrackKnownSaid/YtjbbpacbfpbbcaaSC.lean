/- New entries: variables, rows, appended rows: soundness. -/
import Derived.Test.YtjbbpacbfpbbcaaSB
import Derived.Great.BuildSlice
set_option linter.all false
set_option linter.unusedSimpArgs false
set_option linter.unusedVariables false
set_option linter.deprecated false
namespace Go.Sym

/-- b belongs to an entry that is gone from L0. -/
def Gone (L L0 : Ents) (Fp : Nat → List Nat) (b : Nat) : Prop := ∃ i e, (i, e) ∈ L ∧ b ∈ Fp i ∧ ∀ j e', (j, e') ∈ L0 → j ≠ i

/-- A NEW ENTRY under the state's next id, on new blocks or on blocks of entries that go. -/
theorem Cfg.newEnt {N : Nat} {st : St} {g : Gh} {a : Act} {w w' : World} {ρ : Nat → Nat × Nat} {Fp : Nat → List Nat} {ms : List Nat} (h : Cfg N st g a w ρ Fp ms) (hfresh : st.fresh = true) {v : Nat × Nat}
    {e : Ent} {F' : List Nat} {L0 : Ents} (hL0 : ∀ p ∈ L0, p ∈ st.L) (hk0 : (L0.map (·.1)).Nodup)
    (hH : ∀ b, b < w.heap.size → Gone st.L L0 Fp b ∨ World.H w' b = World.H w b)
    (he : ∀ ρ' : Nat → Nat × Nat, ρ' st.nx = v → (∀ j, j ≠ st.nx → ρ' j = ρ j) → EntR ρ' g.G g.S (World.H w') st.nx e F')
    (hnd : F'.Nodup) (hF : ∀ b ∈ F', Gone st.L L0 Fp b ∨ w.heap.size ≤ b) (hos : w'.os = w.os) (hout : w'.output = w.output) (htape : w'.tape = w.tape) :
    Mem (upd ρ st.nx v) g w' ((st.nx, e) :: L0) (upd Fp st.nx F') ∧ Frm (upd ρ st.nx v) g.G st.fr a.tmps ∧ Marks g w' ((st.nx, e) :: L0) (upd Fp st.nx F') ms := by
  obtain ⟨hfr, hL⟩ : frFresh st.fr st.nx = true ∧ lFresh st.L st.nx = true := by
    simp only [St.fresh, Bool.and_eq_true] at hfresh; exact hfresh.1
  have hLne : ∀ i e, (i, e) ∈ st.L → i ≠ st.nx ∧ e.names st.nx = false := by
    intro i e hi
    have := List.all_eq_true.1 hL _ hi
    simpa using this
  have hB : ∀ b o, g.B b = some o → b < w.heap.size := fun b o hb => by
    have := h.mem.bw b o hb
    simp only [World.H] at this
    exact (Array.getElem?_eq_some_iff.1 this).1
  have hgone : ∀ b, Gone st.L L0 Fp b → g.B b = none ∧ (∀ j ej, (j, ej) ∈ L0 → b ∉ Fp j) ∧ b < w.heap.size := by
    rintro b ⟨i, ei, hi, hb, hne⟩
    exact ⟨h.mem.nb i ei hi b hb, fun j ej hj => h.mem.dj i ei j ej hi (hL0 _ hj) (Ne.symm (hne j ej hj)) b hb, h.mem.lt hi hb⟩
  have hold : ∀ j ej, (j, ej) ∈ L0 → ∀ b ∈ Fp j, World.H w' b = World.H w b := by
    intro j ej hj b hb
    rcases hH b (h.mem.lt (hL0 _ hj) hb) with h1 | h1
    · exact absurd hb ((hgone b h1).2.1 j ej hj)
    · exact h1
  refine ⟨⟨?_, ?_, ?_, ?_, ?_, h.mem.gb, ?_, hos.trans h.mem.os, hout.trans h.mem.out, htape.trans h.mem.tape⟩, ?_, ?_⟩
  · simp only [List.map_cons, List.nodup_cons]
    refine ⟨?_, hk0⟩
    intro hm
    obtain ⟨⟨i, e0⟩, hi, hie⟩ := List.mem_map.1 hm
    exact (hLne i e0 (hL0 _ hi)).1 hie
  · intro i ei hi
    rcases List.mem_cons.1 hi with hi | hi
    · cases hi
      rw [upd_same]
      exact he _ (upd_same _ _ _) (fun j hj => upd_ne _ _ hj)
    · have hm := hL0 _ hi
      rw [upd_ne _ _ (hLne i ei hm).1]
      exact (h.mem.ent i ei hm).mono (Heap.le_refl _) rfl (hold i ei hi) (upd_ne _ _ (hLne i ei hm).1)
        (fun j hj => upd_ne _ _ (fun hjn => by rw [hjn, (hLne i ei hm).2] at hj; simp at hj))
  · intro i ei hi
    rcases List.mem_cons.1 hi with hi | hi
    · cases hi; rw [upd_same]; exact hnd
    · have hm := hL0 _ hi
      rw [upd_ne _ _ (hLne i ei hm).1]; exact h.mem.nd i ei hm
  · intro i ei hi b hb
    rcases List.mem_cons.1 hi with hi | hi
    · cases hi
      rw [upd_same] at hb
      rcases hF b hb with h1 | h1
      · exact (hgone b h1).1
      · cases hbb : g.B b with
        | none => rfl
        | some o => have := hB _ o hbb; omega
    · have hm := hL0 _ hi
      rw [upd_ne _ _ (hLne i ei hm).1] at hb; exact h.mem.nb i ei hm b hb
  · intro i ei j ej hi hj hne b hb
    rcases List.mem_cons.1 hi with hi | hi
    · cases hi
      rcases List.mem_cons.1 hj with hj | hj
      · cases hj; exact absurd rfl hne
      · have hmj := hL0 _ hj
        rw [upd_same] at hb
        rw [upd_ne _ _ (hLne j ej hmj).1]
        rcases hF b hb with h1 | h1
        · exact (hgone b h1).2.1 j ej hj
        · intro hb'; have := h.mem.lt hmj hb'; omega
    · have hmi := hL0 _ hi
      rw [upd_ne _ _ (hLne i ei hmi).1] at hb
      rcases List.mem_cons.1 hj with hj | hj
      · cases hj
        rw [upd_same]
        intro hb'
        rcases hF b hb' with h1 | h1
        · exact (hgone b h1).2.1 i ei hi hb
        · have := h.mem.lt hmi hb; omega
      · have hmj := hL0 _ hj
        rw [upd_ne _ _ (hLne j ej hmj).1]; exact h.mem.dj i ei j ej hmi hmj hne b hb
  · intro b o hb
    rcases hH b (hB b o hb) with h1 | h1
    · rw [(hgone b h1).1] at hb; simp at hb
    · rw [h1]; exact h.mem.bw b o hb
  · refine frm_mono h.frm (fun t i hi => upd_ne _ _ (fun hin => ?_))
    rw [hin, fget_fresh hfr t] at hi; simp at hi
  · refine h.marks.keep (fun m hm => ?_) (fun m hm i ei hi => ?_)
    · rcases hH m (h.marks.lt hm) with ⟨i, ei, hi, hb, _⟩ | h1
      · exact absurd hb (h.marks.nf m hm i ei hi)
      · exact h1
    · rcases List.mem_cons.1 hi with hi | hi
      · cases hi
        rw [upd_same]
        intro hm'
        rcases hF m hm' with ⟨i0, e0, h2, h3, _⟩ | h1
        · exact h.marks.nf m hm i0 e0 h2 h3
        · have := h.marks.lt hm; omega
      · have hmi := hL0 _ hi
        rw [upd_ne _ _ (hLne i ei hmi).1]; exact h.marks.nf m hm i ei hmi

/-- The state with a new entry. -/
def St.add (st : St) (L0 : Ents) (e : Ent) : St := { st with L := (st.nx, e) :: L0, nx := st.nx + 1 }

theorem Same.upd {st : St} {ρ : Nat → Nat × Nat} (h : st.fresh = true) (L0 : Ents) (e : Ent) (v : Nat × Nat) : Same st (st.add L0 e) ρ (upd ρ st.nx v) := by
  refine ⟨rfl, rfl, fun i hi => upd_ne _ _ (fun hin => ?_)⟩
  simp only [St.fresh, Bool.and_eq_true, Nat.ble_eq] at h
  have := h.2
  omega

theorem drew_H (w : World) : World.H w.drew = World.H w := rfl

/-- A new variable. -/
theorem Cfg.newVar {N : Nat} {st : St} {g : Gh} {a : Act} {w : World} {ρ : Nat → Nat × Nat} {Fp : Nat → List Nat} {ms : List Nat} (h : Cfg N st g a w ρ Fp ms) (hfresh : st.fresh = true) {cs : List SV} {us : Array Value} {t : TypeId}
    (hr : SV.RL ρ g.G cs us.toList) (hok : ∀ v ∈ us.toList, v.oneCell' = true) (hnx : SV.namesL st.nx cs = false) :
    Mem (upd ρ st.nx (w.heap.size, us.size)) g (w.alloc (.cells us t)) ((st.nx, .var cs) :: st.L) (upd Fp st.nx [w.heap.size]) ∧ Frm (upd ρ st.nx (w.heap.size, us.size)) g.G st.fr a.tmps ∧
      Marks g (w.alloc (.cells us t)) ((st.nx, .var cs) :: st.L) (upd Fp st.nx [w.heap.size]) ms := by
  refine h.newEnt hfresh (fun p hp => hp) h.mem.keys (fun b hb => .inr (World.H_alloc_lt hb)) (fun ρ' h1 h2 => ?_) (by simp) (fun b hb => .inr (by simp at hb; omega)) rfl rfl rfl
  have hl := SV.RL_length hr
  refine ⟨us, t, (0, 0), by rw [h1]; exact World.H_alloc_new, by rw [h1], Or.inl rfl, by simp at hl; omega, by rw [h1], fun j x hj => ?_⟩
  obtain ⟨u, hu, hru⟩ := SV.RL_get hr hj
  refine ⟨u, by simpa using hu, hok u (List.mem_of_getElem? hu), SV.R_mono (Heap.le_refl _) x u (fun k hk => h2 k (fun hkn => ?_)) hru⟩
  subst hkn
  rw [namesL_of_get hj hk] at hnx; simp at hnx

def sAlloc (P : Program) (st : St) (t : TypeId) : Option (Prop × SV × St) :=
  match P.info? t with
  | some i => match i.zero with
    | some z => if st.fresh then some (okL (z.cells.toList.map .v) = true, .ptr st.nx 0, st.add st.L (.var (z.cells.toList.map .v))) else none
    | none => none
  | none => none

theorem RL_map_v {ρ : Nat → Nat × Nat} {G : Heap} : ∀ (l : List Value), SV.RL ρ G (l.map .v) l
  | [] => by simp [SV.RL]
  | x :: l => by simp only [List.map_cons, SV.RL]; exact ⟨x, l, rfl, by simp [SV.R], RL_map_v l⟩

theorem namesL_map_v (i : Nat) : ∀ (l : List Value), SV.namesL i (l.map .v) = false
  | [] => rfl
  | x :: l => by simp [SV.namesL, SV.names, namesL_map_v i l]

theorem snd_alloc {P : Program} {N : Nat} {o : Oper} {st st' : St} {t : TypeId} {c : Prop} {r : SV} (ho : o.op = .alloc t) (h : sAlloc P st t = some (c, r, st')) (hc : c) : Snd P N o st st' r := by
  intro g a w ρ Fp ms hg
  unfold sAlloc at h
  split at h <;> try (simp at h; done)
  rename_i i hi
  split at h <;> try (simp at h; done)
  rename_i z hz
  split at h <;> try (simp at h; done)
  rename_i hf
  simp only [Option.some.injEq, Prod.mk.injEq] at h
  obtain ⟨rfl, rfl, rfl⟩ := h
  have hR := RL_map_v (ρ := ρ) (G := g.G) z.cells.toList
  obtain ⟨h1, h2, h3⟩ := hg.newVar (t := t) hf hR (RL_cells_ok hc hR) (namesL_map_v _ _)
  refine ⟨.pointer (some ⟨w.heap.size, 0, none⟩), _, _, _, .inl ?_, h1, h2, Same.upd hf _ _ _, h3, ?_⟩
  · simp [execOp, ho, Instr.alloc, zeroValue, typeInfo, hi, hz, newVar, newRow]
  · simp [SV.R, upd_same]

def sBox (st : St) (x : SV) : Option (Prop × SV × St) :=
  if st.fresh && !(SV.namesL st.nx x.cells) && x.known then some (okL x.cells = true, .ptr st.nx 0, st.add st.L (.var x.cells)) else none

theorem snd_box {P : Program} {N : Nat} {o : Oper} {st st' : St} {t : TypeId} {x : Operand} {c : Prop} {r : SV} (ho : o.op = .box t x) (h : sBox st (st.ev x) = some (c, r, st')) (hc : c) : Snd P N o st st' r := by
  intro g a w ρ Fp ms hg
  unfold sBox at h
  split at h <;> try (simp at h; done)
  rename_i hf
  simp only [Bool.and_eq_true, Bool.not_eq_true'] at hf
  simp only [Option.some.injEq, Prod.mk.injEq] at h
  obtain ⟨rfl, rfl, rfl⟩ := h
  have hR := R_cells hf.2 (frm_ev hg.frm x)
  obtain ⟨h1, h2, h3⟩ := hg.newVar (t := t) (us := (a.eval x).cells) hf.1.1 hR (RL_cells_ok hc hR) hf.1.2
  refine ⟨.pointer (some ⟨w.heap.size, 0, none⟩), _, _, _, .inl ?_, h1, h2, Same.upd hf.1.1 _ _ _, h3, ?_⟩
  · simp [execOp, ho, Instr.box, newVar, newRow]
  · simp [SV.R, upd_same]
end Go.Sym

/- Rows: slices that are written out; what is absorbed into a row. -/
namespace Go.Sym

/-- A slice of a whole row becomes a slice that alone owns it; its entry goes. -/
def absorb (L : Ents) : List SV → Option (List SV × Ents × Prop)
  | [] => some ([], L, True)
  | x :: xs =>
    match x with
    | .v _ => (absorb L xs).map fun r => (x :: r.1, r.2.1, r.2.2)
    | .ro _ _ _ _ => (absorb L xs).map fun r => (x :: r.1, r.2.1, r.2.2)
    | .sl i z off len _ _ =>
      match L.get i with
      | some (.row z' n f) => if z' = z ∧ off = 0 ∧ 0 < z then (absorb (L.del i) xs).map fun r => (.own z len f :: r.1, r.2.1, len ≤ n ∧ r.2.2) else none
      | _ => none
    | _ => none

theorem Gone.mono {L L1 L' : Ents} {Fp : Nat → List Nat} {b : Nat} (h : Gone L1 L' Fp b) (hs : ∀ p ∈ L1, p ∈ L) : Gone L L' Fp b := by
  obtain ⟨i, e, h1, h2, h3⟩ := h
  exact ⟨i, e, hs _ h1, h2, h3⟩

theorem flat_take {n m : Nat} {g : Nat → List Nat} (h : m ≤ n) : (flat m g).Sublist (flat n g) := by
  unfold flat
  obtain ⟨k, rfl⟩ : ∃ k, n = m + k := ⟨n - m, by omega⟩
  rw [List.range_add, List.flatMap_append]
  exact List.sublist_append_left _ _

theorem absorb_sub : ∀ {cs cs' : List SV} {L L' : Ents} {c : Prop}, absorb L cs = some (cs', L', c) → (∀ p ∈ L', p ∈ L) ∧ cs'.length = cs.length ∧ ((L.map (·.1)).Nodup → (L'.map (·.1)).Nodup)
  | [], cs', L, L', c, h => by
    simp only [absorb, Option.some.injEq, Prod.mk.injEq] at h
    obtain ⟨rfl, rfl, rfl⟩ := h
    exact ⟨fun p hp => hp, rfl, fun h => h⟩
  | x :: xs, cs', L, L', c, h => by
    unfold absorb at h
    split at h <;> try (simp at h; done)
    · simp only [Option.map_eq_some_iff, Prod.mk.injEq] at h
      obtain ⟨⟨a, b, d⟩, h1, rfl, rfl, rfl⟩ := h
      obtain ⟨i1, i2, i3⟩ := absorb_sub h1
      exact ⟨i1, by simp [i2], i3⟩
    · simp only [Option.map_eq_some_iff, Prod.mk.injEq] at h
      obtain ⟨⟨a, b, d⟩, h1, rfl, rfl, rfl⟩ := h
      obtain ⟨i1, i2, i3⟩ := absorb_sub h1
      exact ⟨i1, by simp [i2], i3⟩
    · split at h <;> try (simp at h; done)
      split at h <;> try (simp at h; done)
      simp only [Option.map_eq_some_iff, Prod.mk.injEq] at h
      obtain ⟨⟨a, b, d⟩, h1, rfl, rfl, rfl⟩ := h
      obtain ⟨i1, i2, i3⟩ := absorb_sub h1
      exact ⟨fun p hp => (List.mem_filter.1 (i1 p hp)).1, by simp [i2], fun h => i3 (Ents.keys_del _ h)⟩

theorem absorb_ok {ρ : Nat → Nat × Nat} {g : Gh} {w : World} {Fp : Nat → List Nat} : ∀ {cs cs' : List SV} {L L' : Ents} {c : Prop} {us : List Value} {rd : Rd}, Mem ρ g w L Fp → absorb L cs = some (cs', L', c) → c →
    SV.RL ρ g.G cs us → (∀ v ∈ us, v.oneCell' = true) → (∀ j, j < us.length → rd j = us[j]?) →
    ∃ F', SV.CL g.G (World.H w) cs' rd F' ∧ F'.Nodup ∧ ∀ b ∈ F', Gone L L' Fp b
  | [], cs', L, L', c, us, rd, hm, h, hc, hr, ho, hrd => by
    simp only [absorb, Option.some.injEq, Prod.mk.injEq] at h
    obtain ⟨rfl, rfl, rfl⟩ := h
    exact ⟨[], rfl, by simp, by simp⟩
  | x :: xs, cs', L, L', c, us, rd, hm, h, hc, hr, ho, hrd => by
    simp only [SV.RL] at hr
    obtain ⟨u, rest, rfl, hr1, hr2⟩ := hr
    have hrd0 : rd 0 = some u := by rw [hrd 0 (by simp)]; simp
    have hrdS : ∀ j, j < rest.length → rd (j + 1) = rest[j]? := fun j hj => by rw [hrd (j + 1) (by simp; omega)]; simp
    have plain : ∀ {d : Prop} {a : List SV} {b : Ents}, absorb L xs = some (a, b, d) → d → x.noOwn = true → ∃ F', SV.CL g.G (World.H w) (x :: a) rd F' ∧ F'.Nodup ∧ ∀ bb ∈ F', Gone L b Fp bb := by
      intro d a b h1 hd hn
      obtain ⟨F', h2, h3, h4⟩ := absorb_ok (rd := fun j => rd (j + 1)) hm h1 hd hr2 (fun v hv => ho v (by simp [hv])) hrdS
      exact ⟨F', ⟨[], F', by simp, noOwn_notAgg hn, C_of_R hn hr1 (ho u (by simp)) hrd0, h2⟩, h3, h4⟩
    unfold absorb at h
    split at h <;> try (simp at h; done)
    · simp only [Option.map_eq_some_iff, Prod.mk.injEq] at h
      obtain ⟨⟨a, b, d⟩, h1, rfl, rfl, rfl⟩ := h
      exact plain h1 hc rfl
    · simp only [Option.map_eq_some_iff, Prod.mk.injEq] at h
      obtain ⟨⟨a, b, d⟩, h1, rfl, rfl, rfl⟩ := h
      exact plain h1 hc rfl
    · rename_i i z off len cap ex
      split at h <;> try (simp at h; done)
      rename_i z' n f hi
      split at h <;> try (simp at h; done)
      rename_i hcond
      obtain ⟨rfl, rfl, hz⟩ := hcond
      simp only [Option.map_eq_some_iff, Prod.mk.injEq] at h
      obtain ⟨⟨a, b, d⟩, h1, rfl, rfl, rfl⟩ := h
      obtain ⟨hle, hd⟩ := hc
      obtain ⟨F', h2, h3, h4⟩ := absorb_ok (rd := fun j => rd (j + 1)) (hm.del i) h1 hd hr2 (fun v hv => ho v (by simp [hv])) hrdS
      have hsubL : ∀ p ∈ L.del i, p ∈ L := fun p hp => (List.mem_filter.1 hp).1
      have hbsub := (absorb_sub h1).1
      have hmi := Ents.mem_of_get hi
      have hne : ∀ j e', (j, e') ∈ b → j ≠ i := fun j e' hj => (Ents.mem_del.1 (hbsub _ hj)).2
      simp only [SV.R] at hr1
      obtain ⟨A, cc, rfl, hl1, hl2, _, hA, hcz⟩ := hr1
      simp only [Nat.zero_mul, Nat.zero_add] at hA hcz
      -- the blocks of the first cell
      obtain ⟨F1, hF1, hC⟩ : ∃ F1, F1.Sublist (Fp i) ∧ (SV.own z' len f).C g.G (World.H w) 1 rd F1 := by
        by_cases hc0 : cc = 0
        · refine ⟨[], List.nil_sublist _, ?_⟩
          simp only [SV.C]
          exact ⟨trivial, A, cc, hrd0, by omega, .inl ⟨hc0, trivial⟩⟩
        · rcases hm.ent i _ hmi with ⟨_, h0, _⟩ | ⟨c, e, fr, gg, hb, hcs, hwr, hns, hFp, hr⟩
          · rw [h0] at hcz
            have : 0 < cc * z' := Nat.mul_pos (by omega) hz
            omega
          · refine ⟨(ρ i).1 :: flat len gg, by rw [hFp]; exact (flat_take hle).cons_cons _, ?_⟩
            simp only [SV.C]
            refine ⟨trivial, A, cc, hrd0, by omega, .inr ⟨(ρ i).1, c, e, fr, gg, ?_, by rw [hcs]; exact hcz, hb, hwr, rfl, fun k hk => hr k (by omega)⟩⟩
            exact hA.resolve_left hc0
      refine ⟨F1 ++ F', ⟨F1, F', rfl, rfl, hC, h2⟩, ?_, ?_⟩
      · refine List.nodup_append.2 ⟨(hm.nd i _ hmi).sublist hF1, h3, ?_⟩
        intro x hx y hy hxy
        subst hxy
        obtain ⟨j, ej, hj, hxj, _⟩ := h4 x hy
        have hj' := Ents.mem_del.1 hj
        exact hm.dj i _ j ej hmi hj'.1 (Ne.symm hj'.2) x (hF1.subset hx) hxj
      · intro x hx
        rcases List.mem_append.1 hx with hx | hx
        · exact ⟨i, _, hmi, hF1.subset hx, hne⟩
        · exact (h4 x hx).mono hsubL

/-- The same of a row's elements of z cells. -/
def absEs (z : Nat) (L : Ents) : List SV → Option (List SV × Ents × Prop)
  | [] => some ([], L, True)
  | x :: xs =>
    if x.known = true ∧ x.cells.length = z then
      match absorb L x.cells with
      | some (cs, L1, c1) => (absEs z L1 xs).map fun r => (mkE cs :: r.1, r.2.1, okL x.cells = true ∧ c1 ∧ r.2.2)
      | none => none
    else none

theorem absEs_sub {z : Nat} : ∀ {xs xs' : List SV} {L L' : Ents} {c : Prop}, absEs z L xs = some (xs', L', c) → (∀ p ∈ L', p ∈ L) ∧ xs'.length = xs.length ∧ ((L.map (·.1)).Nodup → (L'.map (·.1)).Nodup)
  | [], xs', L, L', c, h => by
    simp only [absEs, Option.some.injEq, Prod.mk.injEq] at h
    obtain ⟨rfl, rfl, rfl⟩ := h
    exact ⟨fun p hp => hp, rfl, fun h => h⟩
  | x :: xs, xs', L, L', c, h => by
    unfold absEs at h
    split at h <;> try (simp at h; done)
    split at h <;> try (simp at h; done)
    rename_i cs L1 c1 h0
    simp only [Option.map_eq_some_iff, Prod.mk.injEq] at h
    obtain ⟨⟨a, b, d⟩, h1, rfl, rfl, rfl⟩ := h
    obtain ⟨i1, i2, i3⟩ := absEs_sub h1
    obtain ⟨j1, j2, j3⟩ := absorb_sub h0
    exact ⟨fun p hp => j1 p (i1 p hp), by simp [i2], fun h => i3 (j3 h)⟩

theorem Mem.of_sub {ρ : Nat → Nat × Nat} {g : Gh} {w : World} {L L' : Ents} {Fp : Nat → List Nat} (h : Mem ρ g w L Fp) (hs : ∀ p ∈ L', p ∈ L) (hk : (L'.map (·.1)).Nodup) : Mem ρ g w L' Fp := h.sub hk hs

/-- Blocks of the elements of a row that is laid out of values. -/
theorem absEs_ok {ρ : Nat → Nat × Nat} {g : Gh} {w : World} {Fp : Nat → List Nat} {z : Nat} : ∀ {xs xs' : List SV} {L L' : Ents} {c : Prop} {us : List Value}, Mem ρ g w L Fp → absEs z L xs = some (xs', L', c) → c → SV.RL ρ g.G xs us →
    (∀ u ∈ us, u.cells.size = z ∧ ∀ v ∈ u.cells.toList, v.oneCell' = true) ∧
    ∃ gg : Nat → List Nat, (∀ k, k < xs'.length → (xs'.getD k .any).C g.G (World.H w) z (fun j => (us[k]?.bind fun u => u.cells[j]?)) (gg k)) ∧ (flat xs'.length gg).Nodup ∧ ∀ b ∈ flat xs'.length gg, Gone L L' Fp b
  | [], xs', L, L', c, us, hm, h, hc, hr => by
    simp only [absEs, Option.some.injEq, Prod.mk.injEq] at h
    obtain ⟨rfl, rfl, rfl⟩ := h
    simp only [SV.RL] at hr
    subst hr
    exact ⟨by simp, fun _ => [], by simp, by simp [flat], by simp [flat]⟩
  | x :: xs, xs', L, L', c, us, hm, h, hc, hr => by
    simp only [SV.RL] at hr
    obtain ⟨u, rest, rfl, hr1, hr2⟩ := hr
    unfold absEs at h
    split at h <;> try (simp at h; done)
    rename_i hkz
    split at h <;> try (simp at h; done)
    rename_i cs L1 c1 h0
    simp only [Option.map_eq_some_iff, Prod.mk.injEq] at h
    obtain ⟨⟨a, b, d⟩, h1, rfl, rfl, rfl⟩ := h
    obtain ⟨hok, hc1, hd⟩ := hc
    obtain ⟨j1, j2, j3⟩ := absorb_sub h0
    have hcells := R_cells hkz.1 hr1
    have hsz : u.cells.size = z := by
      have := SV.RL_length hcells
      simp at this; omega
    have hone := RL_cells_ok hok hcells
    obtain ⟨F', h2, h3, h4⟩ := absorb_ok (rd := fun j => u.cells[j]?) hm h0 hc1 hcells hone (fun j hj => by simp)
    obtain ⟨h5, gg, h6, h7, h8⟩ := absEs_ok (hm.of_sub j1 (j3 hm.keys)) h1 hd hr2
    refine ⟨?_, fun k => if k = 0 then F' else gg (k - 1), ?_, ?_, ?_⟩
    · intro v hv
      rcases List.mem_cons.1 hv with rfl | hv
      · exact ⟨hsz, hone⟩
      · exact h5 v hv
    · intro k hk
      cases k with
      | zero =>
        have := C_mkE h2
        rw [j2, hkz.2] at this
        simpa using this
      | succ k =>
        have := h6 k (by simpa using hk)
        simpa using this
    · have e : flat (a.length + 1) (fun k => if k = 0 then F' else gg (k - 1)) = F' ++ flat a.length gg := by
        simp [flat, List.range_succ_eq_map, List.flatMap_map]
      simp only [List.length_cons]
      rw [e]
      refine List.nodup_append.2 ⟨h3, h7, ?_⟩
      intro p hp q hq hpq
      subst hpq
      obtain ⟨i, ei, hi, hpi, hn⟩ := h4 p hp
      obtain ⟨j, ej, hj, hpj, _⟩ := h8 p hq
      exact hm.dj i ei j ej hi (j1 _ hj) (Ne.symm (hn j ej hj)) p hpi hpj
    · have e : flat (a.length + 1) (fun k => if k = 0 then F' else gg (k - 1)) = F' ++ flat a.length gg := by
        simp [flat, List.range_succ_eq_map, List.flatMap_map]
      simp only [List.length_cons]
      rw [e]
      intro p hp
      rcases List.mem_append.1 hp with hp | hp
      · obtain ⟨i, ei, hi, hpi, hn⟩ := h4 p hp
        exact ⟨i, ei, hi, hpi, fun j e' hj => hn j e' ((absEs_sub h1).1 _ hj)⟩
      · exact (h8 p hp).mono j1

theorem parts_zip {α : Type} {f : Operand → α} : ∀ (l : List (Nat × Operand)) (k : Nat), l.map (·.1) = List.range' k l.length → l.map (fun p => (p.1, f p.2)) = ((l.map fun p => f p.2).zipIdx k).map fun x => (x.2, x.1)
  | [], k, h => by simp
  | p :: l, k, h => by
    simp only [List.map_cons, List.length_cons, List.range'_succ, List.cons.injEq] at h
    simp only [List.map_cons, List.zipIdx_cons, List.cons.injEq]
    exact ⟨by rw [h.1], parts_zip l (k + 1) h.2⟩

/-- The elements of a list, in their places. -/
def seqF : List SV → Nat → SV
  | [], _ => .any
  | [x], _ => x
  | x :: y :: xs, k => cond (Nat.beq k 0) x (seqF (y :: xs) (k - 1))

theorem seqF_eq : ∀ (xs : List SV) (k : Nat), k < xs.length → seqF xs k = xs.getD k .any
  | [], k, h => by simp at h
  | [x], k, h => by
    have : k = 0 := by simpa using h
    subst this; simp [seqF]
  | x :: y :: xs, 0, h => by simp [seqF]
  | x :: y :: xs, k + 1, h => by
    have := seqF_eq (y :: xs) k (by simpa using h)
    have hb : Nat.beq (k + 1) 0 = false := rfl
    simp only [seqF, hb, cond_false, Nat.add_sub_cancel, List.getD_cons_succ]
    exact this

def sBuildSlice (P : Program) (st : St) (t : TypeId) (len : Nat) (parts : Array (Nat × Operand)) : Option (Prop × SV × St) :=
  match P.underlying t with
  | some (.slice e) => match P.info? e with
    | some i => match i.zero with
      | some _ =>
        if st.fresh = true ∧ 0 < i.size ∧ len * i.size ≤ 2 ^ 24 ∧ parts.toList.map (·.1) = List.range' 0 len then
          (absEs i.size st.L (parts.toList.map fun p => st.ev p.2)).map fun r => (r.2.2, .sl st.nx i.size 0 len len true, st.add r.2.1 (.row i.size len (seqF r.1)))
        else none
      | none => none
    | none => none
  | _ => none

theorem snd_buildSlice {P : Program} {N : Nat} {o : Oper} {st st' : St} {t : TypeId} {len : Nat} {parts : Array (Nat × Operand)} {c : Prop} {r : SV} (ho : o.op = .buildSlice t len parts) (h : sBuildSlice P st t len parts = some (c, r, st')) (hc : c) :
    Snd P N o st st' r := by
  intro g a w ρ Fp ms hg
  unfold sBuildSlice at h
  split at h <;> try (simp at h; done)
  rename_i e hu
  split at h <;> try (simp at h; done)
  rename_i i hi
  split at h <;> try (simp at h; done)
  rename_i z hz
  split at h <;> try (simp at h; done)
  rename_i hcond
  obtain ⟨hfresh, hpos, hsmall, hidx⟩ := hcond
  simp only [Option.map_eq_some_iff, Prod.mk.injEq] at h
  obtain ⟨⟨xs', L', c'⟩, h1, rfl, rfl, rfl⟩ := h
  have hlen : parts.toList.length = len := by
    have := congrArg List.length hidx
    simpa using this
  have hRL : SV.RL ρ g.G (parts.toList.map fun p => st.ev p.2) (parts.toList.map fun p => a.eval p.2) := by
    have := map_eval_RL hg.frm (parts.toList.map (·.2))
    simpa [List.map_map, Function.comp_def] using this
  obtain ⟨h2, gg, h3, h4, h5⟩ := absEs_ok hg.mem h1 hc hRL
  obtain ⟨j1, j2, j3⟩ := absEs_sub h1
  have hxl : xs'.length = len := by rw [j2]; simpa using hlen
  let us := parts.toList.map fun p => a.eval p.2
  let cells : Array Value := (us.flatMap fun v => v.cells.toList).toArray
  have hcsz : cells.size = len * i.size := by
    have hall : ∀ v ∈ us, v.cells.toList.length = i.size := fun v hv => by simpa using (h2 v hv).1
    have : ∀ (l : List Value), (∀ v ∈ l, v.cells.toList.length = i.size) → (l.flatMap fun v => v.cells.toList).length = l.length * i.size := by
      intro l
      induction l with
      | nil => simp
      | cons a l ih =>
        intro hl
        have e1 := hl a (by simp)
        have e2 := ih (fun v hv => hl v (by simp [hv]))
        rw [List.flatMap_cons, List.length_append, e1, e2, List.length_cons, Nat.add_mul]; omega
    have e := this us hall
    simp only [cells, List.size_toArray]
    rw [e]
    simp [us, hlen]
  have hcell : ∀ k j, k < len → j < i.size → cells[k * i.size + j]? = (us[k]?.bind fun u => u.cells[j]?) := by
    intro k j hk hj
    have := Great.flat_get hpos us (fun v hv => (h2 v hv).1) (k * i.size + j)
    have e1 : (k * i.size + j) / i.size = k := by
      rw [Nat.mul_comm, Nat.mul_add_div hpos, Nat.div_eq_of_lt hj]; omega
    have e2 : (k * i.size + j) % i.size = j := by
      rw [Nat.mul_comm, Nat.mul_add_mod, Nat.mod_eq_of_lt hj]
    rw [e1, e2] at this
    simpa [cells] using this
  obtain ⟨k1, k2, k3⟩ := hg.newEnt (w' := w.alloc (.cells cells e)) (v := (w.heap.size, cells.size)) (e := .row i.size len (seqF xs')) (F' := w.heap.size :: flat len gg) hfresh j1 (j3 hg.mem.keys)
    (fun b hb => .inr (World.H_alloc_lt hb)) (fun ρ' hρ _ => by
      refine .inr ⟨cells, e, (0, 0), gg, by rw [hρ]; exact World.H_alloc_new, by rw [hρ], Or.inl rfl, by rw [hcsz]; exact Nat.le_refl _, by rw [hρ], fun k hk => ?_⟩
      have hk' := h3 k (by omega)
      have hm := SV.C_mono (Heap.le_refl g.G) (H' := World.H (w.alloc (.cells cells e))) _ _ _ _ (fun b hb => by
        obtain ⟨ii, ei, hii, hbi, _⟩ := h5 b (mem_flat.2 ⟨k, by omega, hb⟩)
        exact World.H_alloc_lt (hg.mem.lt hii hbi)) hk'
      have hq := C_congrZ hm (fun q hq => hcell k q hk hq)
      rw [seqF_eq xs' k (by omega)]
      exact hq)
    (by
      rw [List.nodup_cons]
      rw [hxl] at h4 h5
      refine ⟨fun hm => ?_, h4⟩
      obtain ⟨ii, ei, hii, hbi, _⟩ := h5 _ hm
      have := hg.mem.lt hii hbi
      omega)
    (fun b hb => by
      rcases List.mem_cons.1 hb with rfl | hb
      · exact .inr (Nat.le_refl _)
      · rw [hxl] at h5; exact .inl (h5 b hb)) rfl rfl rfl
  refine ⟨.slice (some ⟨w.heap.size, 0, none⟩) len len, w.alloc (.cells cells e), _, _, .inl ?_, k1, k2, Same.upd hfresh _ _ _, k3, ?_⟩
  · have hparts : (parts.map fun p => (p.1, a.eval p.2)).toList = (us.zipIdx 0).map fun x => (x.2, x.1) := by
      have := parts_zip (f := a.eval) parts.toList 0 (by rw [hlen]; exact hidx)
      simpa [us] using this
    have hexec : execOp a.eval o = (do pure (.value (← Instr.buildSlice t len (parts.map fun p => (p.1, a.eval p.2)))) : Sem Next) := by
      simp only [execOp, ho]
    rw [hexec]
    by_cases h0 : len = 0
    · subst h0
      have hus : us = [] := by
        apply List.eq_nil_of_length_eq_zero
        simp [us, hlen]
      have hp0 : (parts.map fun p => (p.1, a.eval p.2)) = #[] := by
        apply Array.ext'
        rw [hparts, hus]; rfl
      have hcells : cells = #[] := by simp [cells, hus]
      rw [hp0]
      simp [Instr.buildSlice, run_underlying hu, size_info hi, Instr.fill, newRow, hcells]
      rw [show (Array.range 0) = #[] from by apply Array.ext'; simp, Array.map_empty]
    · have hf := Great.fill_whole hpos us ((Array.range (len * i.size)).map (z.cells[· % z.cells.size]!)) (fun v hv => (h2 v hv).1) (by simp [us, hlen])
      have := run_buildSlice (P := P) w t e len (parts.map fun p => (p.1, a.eval p.2)) cells i z hu hi hz (by omega) (by
        intro hh
        rcases Nat.mul_eq_zero.1 hh with hh | hh <;> omega) (by rw [hparts]; exact hf)
      simp [this]
  · simp only [SV.R, upd_same]
    exact ⟨_, len, rfl, Nat.le_refl _, Nat.le_refl _, fun _ => rfl, .inr (by simp), by simp [hcsz]⟩
end Go.Sym

/- A store of a value with slices of whole rows into an element of a row: the element takes them over. -/
set_option linter.unusedSimpArgs false
set_option linter.unusedVariables false
namespace Go.Sym

theorem Mem.turnG {ρ : Nat → Nat × Nat} {g : Gh} {w w' : World} {L L1 : Ents} {Fp : Nat → List Nat} (h : Mem ρ g w L Fp) (hs : ∀ p ∈ L1, p ∈ L) (hk : (L1.map (·.1)).Nodup) {i : Nat} {e e' : Ent} (hi : (i, e) ∈ L1) {F' : List Nat}
    (hown : (ρ i).1 ∈ Fp i) (hH : ∀ b, b ≠ (ρ i).1 → World.H w' b = World.H w b) (he : EntR ρ g.G g.S (World.H w') i e' F') (hnd : F'.Nodup) (hF : ∀ b ∈ F', b ∈ Fp i ∨ Gone L L1 Fp b)
    (hos : w'.os = w.os) (hout : w'.output = w.output) (htape : w'.tape = w.tape) : Mem ρ g w' (L1.set i e') (fun j => if j = i then F' else Fp j) := by
  have hiL := hs _ hi
  have hsep : ∀ j ej b, (j, ej) ∈ L1 → j ≠ i → b ∈ Fp j → b ∉ F' := by
    intro j ej b hj hne hb hb'
    rcases hF b hb' with h1 | ⟨k, ek, k1, k2, k3⟩
    · exact h.dj j ej i e (hs _ hj) hiL hne b hb h1
    · exact h.dj j ej k ek (hs _ hj) k1 (k3 j ej hj) b hb k2
  refine ⟨by rw [Ents.keys_set]; exact hk, ?_, ?_, ?_, ?_, h.gb, ?_, hos.trans h.os, hout.trans h.out, htape.trans h.tape⟩
  · intro j ej hj
    rcases Ents.mem_set hj with ⟨rfl, rfl⟩ | ⟨hm, hne⟩
    · simpa using he
    · simp only [hne, if_false]
      refine (h.ent j ej (hs _ hm)).mono (Heap.le_refl _) rfl (fun b hb => hH b (fun hbi => ?_)) rfl (fun _ _ => rfl)
      subst hbi
      exact h.dj j ej i e (hs _ hm) hiL hne _ hb hown
  · intro j ej hj
    rcases Ents.mem_set hj with ⟨rfl, rfl⟩ | ⟨hm, hne⟩
    · simpa using hnd
    · simpa [hne] using h.nd j ej (hs _ hm)
  · intro j ej hj b hb
    rcases Ents.mem_set hj with ⟨rfl, rfl⟩ | ⟨hm, hne⟩
    · simp only [if_true] at hb
      rcases hF b hb with h1 | ⟨k, ek, k1, k2, _⟩
      · exact h.nb _ e hiL b h1
      · exact h.nb k ek k1 b k2
    · simp only [hne, if_false] at hb; exact h.nb j ej (hs _ hm) b hb
  · intro j ej k ek hj hk' hne b hb
    rcases Ents.mem_set hj with ⟨rfl, rfl⟩ | ⟨hm, hji⟩
    · simp only [if_true] at hb
      rcases Ents.mem_set hk' with ⟨rfl, _⟩ | ⟨hmk, hki⟩
      · exact absurd rfl hne
      · simp only [hki, if_false]; exact fun hb' => hsep k ek b hmk hki hb' hb
    · simp only [hji, if_false] at hb
      rcases Ents.mem_set hk' with ⟨rfl, rfl⟩ | ⟨hmk, hki⟩
      · simp only [if_true]; exact hsep j ej b hm hji hb
      · simp only [hki, if_false]; exact h.dj j ej k ek (hs _ hm) (hs _ hmk) hne b hb
  · intro b o hb
    rw [hH b (fun hbi => by rw [hbi, h.nb i e hiL _ hown] at hb; simp at hb)]
    exact h.bw b o hb

/-- Cells with others laid over some of them. -/
theorem CL_ovlG {G H : Heap} {ys : List SV} {Fy : List Nat} : ∀ (off : Nat) {cs : List SV} {rd rd' : Rd} {F : List Nat}, off + ys.length ≤ cs.length →
    (∀ j, ¬ (off ≤ j ∧ j < off + ys.length) → rd' j = rd j) → SV.CL G H ys (fun j => rd' (off + j)) Fy → SV.CL G H cs rd F → ∃ A B, (A ++ B).Sublist F ∧ SV.CL G H (ovl cs off ys) rd' (A ++ (Fy ++ B))
  | 0, cs, rd, rd', F, hle, hrd, hy, h => by
    have drop : ∀ (n : Nat) (cs : List SV) (rd : Rd) (F : List Nat), SV.CL G H cs rd F → ∃ B, B.Sublist F ∧ SV.CL G H (cs.drop n) (fun j => rd (n + j)) B := by
      intro n
      induction n with
      | zero => intro cs rd F h; exact ⟨F, List.Sublist.refl _, by simpa using h⟩
      | succ n ih =>
        intro cs rd F h
        cases cs with
        | nil => exact ⟨F, List.Sublist.refl _, by simpa [SV.CL] using h⟩
        | cons c cs =>
          obtain ⟨F1, F2, rfl, _, _, h2⟩ := h
          obtain ⟨B, hB, hc⟩ := ih cs _ F2 h2
          refine ⟨B, hB.trans (List.sublist_append_right _ _), ?_⟩
          rw [List.drop_succ_cons]
          exact CL_congr (fun j _ => by show rd (n + 1 + j) = rd (n + j + 1); congr 1; omega) hc
    obtain ⟨B, hB, hc⟩ := drop ys.length cs rd F h
    refine ⟨[], B, by simpa using hB, ?_⟩
    simp only [ovl, List.take_zero, List.nil_append, Nat.zero_add]
    have app : ∀ (ys zs : List SV) (rd : Rd) (Fy Fz : List Nat), SV.CL G H ys rd Fy → SV.CL G H zs (fun j => rd (ys.length + j)) Fz → SV.CL G H (ys ++ zs) rd (Fy ++ Fz) := by
      intro ys
      induction ys with
      | nil => intro zs rd Fy Fz h1 h2; simp only [SV.CL] at h1; subst h1; simpa using h2
      | cons y ys ih =>
        intro zs rd Fy Fz h1 h2
        obtain ⟨F1, F2, rfl, hna, k1, k2⟩ := h1
        refine ⟨F1, F2 ++ Fz, by simp, hna, k1, ih zs _ F2 Fz k2 (CL_congr (fun j _ => ?_) h2)⟩
        show rd (ys.length + j + 1) = rd ((y :: ys).length + j)
        congr 1; simp only [List.length_cons]; omega
    refine app ys (cs.drop ys.length) rd' Fy B (CL_congr (fun j _ => by show rd' j = rd' (0 + j); rw [Nat.zero_add]) hy) (CL_congr (fun j _ => ?_) hc)
    exact hrd _ (by omega)
  | off + 1, [], rd, rd', F, hle, hrd, hy, h => by simp at hle
  | off + 1, c :: cs, rd, rd', F, hle, hrd, hy, h => by
    obtain ⟨F1, F2, rfl, hna, h1, h2⟩ := h
    obtain ⟨A, B, hAB, hc⟩ := CL_ovlG off (rd' := fun j => rd' (j + 1)) (rd := fun j => rd (j + 1)) (by simp at hle; omega) (fun j hj => hrd (j + 1) (by omega)) (CL_congr (fun j _ => by show rd' (off + j + 1) = rd' (off + 1 + j); congr 1; omega) hy) h2
    refine ⟨F1 ++ A, B, by rw [List.append_assoc]; exact List.Sublist.append_left hAB F1, ?_⟩
    have : ovl (c :: cs) (off + 1) ys = c :: ovl cs off ys := by
      simp only [ovl, List.take_succ_cons, List.cons_append, List.cons.injEq, true_and]
      rw [show off + 1 + ys.length = (off + ys.length) + 1 by omega, List.drop_succ_cons]
    rw [this]
    refine ⟨F1, A ++ (Fy ++ B), by simp, hna, CL_congr.C_congr c hna ?_ h1, hc⟩
    exact hrd 0 (by omega)

def sStoreA (P : Program) (st : St) (t : TypeId) (x v : SV) : Option (Prop × St) :=
  match P.info? t, x with
  | some ti, .elp i z k off =>
    if v.cells.length = ti.size ∧ v.known = true then
      match absorb st.L v.cells with
      | some (cs, L1, c) =>
        match L1.get i with
        | some (.row z' n f) =>
          if z' = z ∧ off + ti.size ≤ z then
            some (k < n ∧ okL v.cells = true ∧ c, { st with L := L1.set i (.row z n (fun j => cond (Nat.beq j k) (mkE (if ti.size = z then cs else ovl (f k).elems off cs)) (f j))) })
          else none
        | _ => none
      | none => none
    else none
  | _, _ => none

theorem snd_storeA {P : Program} {N : Nat} {o : Oper} {st st' : St} {t : TypeId} {x y : Operand} {c : Prop} (ho : o.op = .store t x y) (h : sStoreA P st t (st.ev x) (st.ev y) = some (c, st')) (hc : c) : Snd P N o st st' (.v undef) := by
  intro g a w ρ Fp ms hg
  have h1 := frm_ev hg.frm x
  have h2 := frm_ev hg.frm y
  unfold sStoreA at h
  split at h <;> try (simp at h; done)
  rename_i ti i z k off hti hx
  split at h <;> try (simp at h; done)
  rename_i hlen
  split at h <;> try (simp at h; done)
  rename_i cs L1 ca habs
  split at h <;> try (simp at h; done)
  rename_i z' n f hi
  split at h <;> try (simp at h; done)
  rename_i hcond
  obtain ⟨rfl, hle⟩ := hcond
  simp only [Option.some.injEq, Prod.mk.injEq] at h
  obtain ⟨rfl, hst⟩ := h
  obtain ⟨hk, hcok, hca⟩ := hc
  have hcells := R_cells hlen.2 h2
  rw [hx] at h1
  simp only [SV.R] at h1
  have hok := RL_cells_ok hcok hcells
  have hul : (a.eval y).cells.toList.length = (st.ev y).cells.length := SV.RL_length hcells
  have hsz : (a.eval y).cells.size = ti.size := by
    have := SV.RL_length hcells
    simp at this; omega
  obtain ⟨s1, s2, s3⟩ := absorb_sub habs
  have hmi := Ents.mem_of_get hi
  have hk1 := s3 hg.mem.keys
  rcases hg.mem.ent i _ (s1 _ hmi) with ⟨h0, _⟩ | ⟨cc, e, fr, gg, hb, hcs, hwr, hns, hFp, hr⟩
  · omega
  have hkz : k * z' + z' ≤ n * z' := by
    have : (k + 1) * z' ≤ n * z' := Nat.mul_le_mul_right _ hk
    rwa [Nat.add_mul, Nat.one_mul] at this
  obtain ⟨w', c', hrun, hT, hs', hj'⟩ := run_storeCells_blk (P := P) (ρ i).1 (k * z' + off) e fr (a.eval y).cells.toList 0 cc w hb hwr (by rw [hul, hlen.1]; omega) hok
  -- what the new cells own
  obtain ⟨Fy, hy1, hy2, hy3⟩ := absorb_ok (rd := fun j => (a.eval y).cells.toList[j]?) hg.mem habs hca hcells hok (fun j _ => rfl)
  have hnd := hg.mem.nd i _ (s1 _ hmi)
  rw [hFp] at hnd
  have hbn := (List.nodup_cons.1 hnd).1
  have hfn := (List.nodup_cons.1 hnd).2
  have hyb : ∀ b ∈ Fy, b ≠ (ρ i).1 ∧ b ∉ flat n gg := by
    intro b hbF
    obtain ⟨j, ej, j1, j2, j3⟩ := hy3 b hbF
    have hne := j3 i _ hmi
    have := hg.mem.dj i _ j ej (s1 _ hmi) j1 hne
    rw [hFp] at this
    exact ⟨fun hbi => this _ (by simp) (hbi ▸ j2), fun hbf => this b (by simp [hbf]) j2⟩
  have hy1' : SV.CL g.G (World.H w') cs (fun j => c'[k * z' + (off + j)]?) Fy := by
    refine CL_congr (fun j hj => ?_) (SV.CL_mono (Heap.le_refl _) _ _ _ (fun b hbF => hT.oth b (hyb b hbF).1) hy1)
    show c'[k * z' + (off + j)]? = (a.eval y).cells.toList[j]?
    rw [hj', if_pos (by rw [hul, ← s2]; omega)]
    congr 1; omega
  obtain ⟨hCL, hel⟩ := C_elemsF (hr k hk)
  have hCL' : SV.CL g.G (World.H w') (f k).elems (fun j => cc[k * z' + j]?) (gg k) := SV.CL_mono (Heap.le_refl _) _ _ _ (fun b hb' => hT.oth b (fun hbb => hbn (hbb ▸ mem_flat.2 ⟨k, hk, hb'⟩))) hCL
  obtain ⟨A, B, hAB, hnew⟩ := CL_ovlG off (ys := cs) (rd' := fun j => c'[k * z' + j]?) (by rw [hel, s2, hlen.1]; exact hle) (fun j hj => by
    show c'[k * z' + j]? = cc[k * z' + j]?
    rw [hj', if_neg (by rw [hul, ← s2]; omega)]) (by simpa [Nat.add_assoc] using hy1') hCL'
  have hnew' : SV.CL g.G (World.H w') (if ti.size = z' then cs else ovl (f k).elems off cs) (fun j => c'[k * z' + j]?) (A ++ (Fy ++ B)) := by
    by_cases hz : ti.size = z'
    · rw [if_pos hz]
      have : ovl (f k).elems off cs = cs := by
        have ho0 : off = 0 := by omega
        subst ho0
        simp only [ovl, List.take_zero, List.nil_append, Nat.zero_add]
        rw [List.drop_eq_nil_of_le (by rw [hel, s2, hlen.1, hz]; exact Nat.le_refl _), List.append_nil]
      rwa [this] at hnew
    · rw [if_neg hz]; exact hnew
  have hlenNew : (if ti.size = z' then cs else ovl (f k).elems off cs).length = z' := by
    split
    · rw [s2, hlen.1]; assumption
    · rw [ovl_length (by rw [hel, s2, hlen.1]; exact hle), hel]
  let g' : Nat → List Nat := fun j => if j = k then A ++ (Fy ++ B) else gg j
  have hg'in : ∀ b, b ∈ flat n g' → b ∈ Fy ∨ b ∈ flat n gg := by
    intro b hbm
    obtain ⟨j, hj, hbj⟩ := mem_flat.1 hbm
    by_cases hjk : j = k
    · subst hjk
      simp only [g', if_true] at hbj
      rcases List.mem_append.1 hbj with h3 | h3
      · exact .inr (mem_flat.2 ⟨j, hj, hAB.subset (List.mem_append_left _ h3)⟩)
      · rcases List.mem_append.1 h3 with h3 | h3
        · exact .inl h3
        · exact .inr (mem_flat.2 ⟨j, hj, hAB.subset (List.mem_append_right _ h3)⟩)
    · simp only [g', hjk, if_false] at hbj
      exact .inr (mem_flat.2 ⟨j, hj, hbj⟩)
  have hnd' : (flat n g').Nodup := by
    have gen : ∀ (l : List Nat), l.Nodup → (∀ j ∈ l, j < n) → (l.flatMap gg).Nodup → (l.flatMap g').Nodup := by
      intro l
      induction l with
      | nil => intro _ _ _; simp
      | cons j l ih =>
        intro hl hln hfl
        rw [List.nodup_cons] at hl
        rw [List.flatMap_cons, List.nodup_append] at hfl ⊢
        refine ⟨?_, ih hl.2 (fun q hq => hln q (by simp [hq])) hfl.2.1, ?_⟩
        · by_cases hjk : j = k
          · subst hjk
            simp only [g', if_true]
            have h3 : (A ++ B).Nodup := hfl.1.sublist hAB
            rw [List.nodup_append] at h3 ⊢
            have hjn := hln j (by simp)
            refine ⟨h3.1, ?_, ?_⟩
            · rw [List.nodup_append]
              refine ⟨hy2, h3.2.1, fun p hp q hq hpq => ?_⟩
              subst hpq
              exact (hyb p hp).2 (mem_flat.2 ⟨j, hjn, hAB.subset (List.mem_append_right _ hq)⟩)
            · intro p hp q hq hpq
              subst hpq
              rcases List.mem_append.1 hq with hq | hq
              · exact (hyb p hq).2 (mem_flat.2 ⟨j, hjn, hAB.subset (List.mem_append_left _ hp)⟩)
              · exact h3.2.2 p hp p hq rfl
          · simp only [g', hjk, if_false]; exact hfl.1
        · intro p hp q hq hpq
          subst hpq
          have hq2 : p ∈ Fy ∨ p ∈ l.flatMap gg := by
            obtain ⟨j2, hj2, hb2⟩ := List.mem_flatMap.1 hq
            by_cases hj2k : j2 = k
            · subst hj2k
              simp only [g', if_true] at hb2
              rcases List.mem_append.1 hb2 with h3 | h3
              · exact .inr (List.mem_flatMap.2 ⟨j2, hj2, hAB.subset (List.mem_append_left _ h3)⟩)
              · rcases List.mem_append.1 h3 with h3 | h3
                · exact .inl h3
                · exact .inr (List.mem_flatMap.2 ⟨j2, hj2, hAB.subset (List.mem_append_right _ h3)⟩)
            · simp only [g', hj2k, if_false] at hb2
              exact .inr (List.mem_flatMap.2 ⟨j2, hj2, hb2⟩)
          by_cases hjk : j = k
          · subst hjk
            simp only [g', if_true] at hp
            have hqf : p ∈ l.flatMap gg := by
              obtain ⟨j2, hj2, hb2⟩ := List.mem_flatMap.1 hq
              have : j2 ≠ j := fun h => hl.1 (h ▸ hj2)
              simp only [g', this, if_false] at hb2
              exact List.mem_flatMap.2 ⟨j2, hj2, hb2⟩
            rcases List.mem_append.1 hp with h3 | h3
            · exact hfl.2.2 p (hAB.subset (List.mem_append_left _ h3)) p hqf rfl
            · rcases List.mem_append.1 h3 with h3 | h3
              · obtain ⟨j2, hj2, hb2⟩ := List.mem_flatMap.1 hqf
                exact (hyb p h3).2 (mem_flat.2 ⟨j2, hln j2 (by simp [hj2]), hb2⟩)
              · exact hfl.2.2 p (hAB.subset (List.mem_append_right _ h3)) p hqf rfl
          · simp only [g', hjk, if_false] at hp
            rcases hq2 with h3 | h3
            · exact (hyb p h3).2 (mem_flat.2 ⟨j, hln j (by simp), hp⟩)
            · exact hfl.2.2 p hp p h3 rfl
    exact gen (List.range n) List.nodup_range (fun j hj => List.mem_range.1 hj) hfn
  have he : EntR ρ g.G g.S (World.H w') i (.row z' n (fun j => cond (Nat.beq j k) (mkE (if ti.size = z' then cs else ovl (f k).elems off cs)) (f j))) ((ρ i).1 :: flat n g') := by
    refine .inr ⟨c', e, fr, g', hT.blk, hs'.trans hcs, by rw [hs']; exact hwr, by rw [hs']; exact hns, rfl, fun j hj => ?_⟩
    by_cases hjk : j = k
    · subst hjk
      simp only [Nat.beq_eq_true_eq, g', if_true]
      have := C_mkE hnew'
      rw [hlenNew] at this
      simpa using this
    · have hbq : Nat.beq j k = false := by
        rw [Bool.eq_false_iff]; intro hb'; exact hjk (Nat.eq_of_beq_eq_true hb')
      simp only [hbq, cond_false, g', hjk, if_false]
      have hne : ∀ q, q < z' → ¬ (k * z' + off ≤ j * z' + q ∧ j * z' + q < k * z' + off + (st.ev y).cells.length) := by
        intro q hq hcon
        rcases Nat.lt_or_gt_of_ne hjk with hlt | hgt
        · have : (j + 1) * z' ≤ k * z' := Nat.mul_le_mul_right _ hlt
          rw [Nat.add_mul, Nat.one_mul] at this; omega
        · have : (k + 1) * z' ≤ j * z' := Nat.mul_le_mul_right _ hgt
          rw [Nat.add_mul, Nat.one_mul] at this
          rw [hlen.1] at hcon; omega
      have hm := SV.C_mono (Heap.le_refl g.G) (H' := World.H w') _ _ _ _ (fun b hb' => hT.oth b (fun hbb => hbn (hbb ▸ mem_flat.2 ⟨j, hj, hb'⟩))) (hr j hj)
      refine C_congrZ hm (fun q hq => ?_)
      show c'[j * z' + q]? = cc[j * z' + q]?
      rw [hj', if_neg (by rw [hul]; simpa using hne q hq)]
  have hF : ∀ b ∈ (ρ i).1 :: flat n g', b ∈ Fp i ∨ Gone st.L L1 Fp b := by
    intro b hbm
    rw [hFp]
    rcases List.mem_cons.1 hbm with rfl | hbm
    · exact .inl (by simp)
    · rcases hg'in b hbm with h3 | h3
      · exact .inr (hy3 b h3)
      · exact .inl (by simp [h3])
  have hM := hg.mem.turnG s1 hk1 hmi (by rw [hFp]; simp) hT.oth he (by
    rw [List.nodup_cons]
    refine ⟨fun hbm => ?_, hnd'⟩
    rcases hg'in _ hbm with h3 | h3
    · exact (hyb _ h3).1 rfl
    · exact hbn h3) hF hT.os hT.out hT.tape
  subst hst
  refine ⟨undef, w', ρ, _, .inr ⟨?_, rfl⟩, hM, hg.frm, ⟨rfl, rfl, fun _ _ => rfl⟩, hg.marks.keep (fun m hm' => hT.oth m (fun hmb => ?_)) (fun m hm' j ej hj hmem => ?_), by simp [SV.R]⟩
  · have := run_storeVar hti hsz _ hrun
    simp [execOp, ho, Instr.storeAt, h1, Instr.sureAddr, this]
  · subst hmb
    exact hg.marks.nf _ hm' i _ (s1 _ hmi) (by rw [hFp]; simp)
  · rcases Ents.mem_set hj with ⟨rfl, rfl⟩ | ⟨hmj, hne⟩
    · simp only [if_true] at hmem
      rcases hF m hmem with h3 | ⟨j2, e2, q1, q2, _⟩
      · exact hg.marks.nf m hm' _ _ (s1 _ hmi) h3
      · exact hg.marks.nf m hm' _ _ q1 q2
    · simp only [hne, if_false] at hmem
      exact hg.marks.nf m hm' j ej (s1 _ hmj) hmem

/-- A store. -/
def sStoreB (P : Program) (st : St) (t : TypeId) (x v : SV) : Option (Prop × St) :=
  match sStore P st t x v with
  | some r => some r
  | none => sStoreA P st t x v

theorem snd_storeB {P : Program} {N : Nat} {o : Oper} {st st' : St} {t : TypeId} {x y : Operand} {c : Prop} (ho : o.op = .store t x y) (h : sStoreB P st t (st.ev x) (st.ev y) = some (c, st')) (hc : c) : Snd P N o st st' (.v undef) := by
  unfold sStoreB at h
  split at h
  · rename_i r hr
    rw [h] at hr
    exact snd_store ho hr hc
  · exact snd_storeA ho h hc
end Go.Sym

/- Slicing, lengths, making a slice. -/
namespace Go.Sym

/-- A bound of a slice expression. -/
def bnd : Option SV → Option (Option Int)
  | none => some none
  | some (.v (.int _ n)) => some (some n)
  | _ => none

def sSlice (P : Program) (t : TypeId) (x : SV) (lo hi mx : Option SV) : Option (Prop × SV) :=
  match bnd lo, bnd hi, bnd mx with
  | some l, some h, some m =>
    match P.underlying t, x with
    | some (.slice e), .sl i z off len cap ex =>
      if P.cellsOf e = z then
      match l, h, m with
      | none, none, none => some (True, .sl i z off len cap ex)
      | none, some h, none => some (0 ≤ h ∧ h ≤ cap, .sl i z off h.toNat cap ex)
      | some l, none, none => some (0 ≤ l ∧ l ≤ len, .sl i z (off + l.toNat) (len - l.toNat) (cap - l.toNat) ex)
      | some l, some h, none => some (0 ≤ l ∧ l ≤ h ∧ h ≤ cap, .sl i z (off + l.toNat) (h.toNat - l.toNat) (cap - l.toNat) ex)
      | none, some h, some m => some (0 ≤ h ∧ h ≤ m ∧ m ≤ cap, .sl i z off h.toNat m.toNat true)
      | some l, some h, some m => some (0 ≤ l ∧ l ≤ h ∧ h ≤ m ∧ m ≤ cap, .sl i z (off + l.toNat) (h.toNat - l.toNat) (m.toNat - l.toNat) true)
      | _, none, some _ => none
      else none
    | some (.slice e), .ro z n f ex =>
      if P.cellsOf e = z then
      match l, h, m with
      | none, none, none => some (True, .ro z n f ex)
      | none, some h, none => some (0 ≤ h ∧ h ≤ n, .ro z h.toNat f false)
      | some l, none, none => some (0 ≤ l ∧ l ≤ n, .ro z (n - l.toNat) (fun k => f (l.toNat + k)) ex)
      | some l, some h, none => some (0 ≤ l ∧ l ≤ h ∧ h ≤ n, .ro z (h.toNat - l.toNat) (fun k => f (l.toNat + k)) false)
      | none, some h, some m => some (0 ≤ h ∧ h = m ∧ h ≤ n, .ro z h.toNat f true)
      | some l, some h, some m => some (0 ≤ l ∧ l ≤ h ∧ h = m ∧ h ≤ n, .ro z (h.toNat - l.toNat) (fun k => f (l.toNat + k)) true)
      | _, none, some _ => none
      else none
    | some (.slice _), .v (.slice none 0 0) => some (l.getD 0 = 0 ∧ h.getD 0 = 0 ∧ m.getD 0 = 0 ∧ (m.isSome = true → h.isSome = true), .v (.slice none 0 0))
    | some .string, .v (.string s) =>
      match l, h, m with
      | none, none, none => some (True, .v (.string (s.extract 0 s.size)))
      | none, some h, none => some (0 ≤ h ∧ h ≤ s.size, .v (.string (s.extract 0 h.toNat)))
      | some l, none, none => some (0 ≤ l ∧ l ≤ s.size, .v (.string (s.extract l.toNat s.size)))
      | some l, some h, none => some (0 ≤ l ∧ l ≤ h ∧ h ≤ s.size, .v (.string (s.extract l.toNat h.toNat)))
      | _, _, _ => none
    | _, _ => none
  | _, _, _ => none

theorem bnd_ok {ρ : Nat → Nat × Nat} {G : Heap} {st : St} {a : Act} (hf : Frm ρ G st.fr a.tmps) {x : Option Operand} {r : Option Int} (h : bnd (x.map st.ev) = some r) :
    (x.map a.eval = none ∧ r = none) ∨ ∃ k n, x.map a.eval = some (.int k n) ∧ r = some n := by
  cases x with
  | none => simp only [bnd, Option.map_none, Option.some.injEq] at h; exact .inl ⟨rfl, h.symm⟩
  | some y =>
    have h1 := frm_ev hf y
    simp only [Option.map_some] at h ⊢
    unfold bnd at h
    split at h
    · rename_i hy; simp at hy
    · rename_i k n hy
      simp only [Option.some.injEq] at hy h
      rw [hy] at h1
      simp only [SV.R] at h1
      exact .inr ⟨k, n, by rw [h1], h.symm⟩
    · simp at h

theorem cellsOf_info {P : Program} {e : TypeId} {w : World} {z : Nat} (hz : P.cellsOf e = z) (hpos : (P.info? e).isSome = true) : (sizeOf e).run P w = .ok z w := by
  cases hi : P.info? e with
  | none => simp [hi] at hpos
  | some i =>
    rw [size_info hi, ← hz]
    simp [Program.cellsOf, hi]

/-- The bounds of a slice expression as the model reckons them. -/
theorem run_bounds {P : Program} {w : World} (isS : Bool) (len cap : Nat) (l h m : Option Int) (lo hi mx : Option Value) (hl : (lo = none ∧ l = none) ∨ ∃ k n, lo = some (.int k n) ∧ l = some n)
    (hh : (hi = none ∧ h = none) ∨ ∃ k n, hi = some (.int k n) ∧ h = some n) (hm : (mx = none ∧ m = none) ∨ ∃ k n, mx = some (.int k n) ∧ m = some n)
    (h1 : 0 ≤ l.getD 0 ∧ l.getD 0 ≤ h.getD len ∧ h.getD len ≤ m.getD cap ∧ m.getD cap ≤ cap) (h2 : m.isSome = true → h.isSome = true) :
    (Instr.sliceBounds isS len cap lo hi mx).run P w = .ok ((l.getD 0).toNat, (h.getD len).toNat, (m.getD cap).toNat) w := by
  rcases hl with ⟨rfl, rfl⟩ | ⟨kl, nl, rfl, rfl⟩ <;> rcases hh with ⟨rfl, rfl⟩ | ⟨kh, nh, rfl, rfl⟩ <;> rcases hm with ⟨rfl, rfl⟩ | ⟨km, nm, rfl, rfl⟩ <;> simp at h1 h2 ⊢
  · simp [Instr.sliceBounds]
  · simp only [Instr.sliceBounds, Sem.run_bind, Sem.run_pure, Result.andThen_ok]
    rw [run_sliceBound w kh nh cap _ (by omega) (by omega)]; simp
  · simp only [Instr.sliceBounds, Sem.run_bind, Sem.run_pure, Result.andThen_ok]
    rw [run_sliceBound w km nm cap _ (by omega) (by omega)]; simp only [Result.andThen_ok]
    rw [run_sliceBound w kh nh _ _ (by omega) (by omega)]; simp
  · simp only [Instr.sliceBounds, Sem.run_bind, Sem.run_pure, Result.andThen_ok, Option.isSome_none, Bool.false_eq_true, if_false]
    rw [run_sliceBound w kl nl len _ (by omega) (by omega)]; simp
  · simp only [Instr.sliceBounds, Sem.run_bind, Sem.run_pure, Result.andThen_ok, Option.isSome_none, Bool.false_eq_true, if_false]
    rw [run_sliceBound w kh nh cap _ (by omega) (by omega)]; simp only [Result.andThen_ok]
    rw [run_sliceBound w kl nl _ _ (by omega) (by omega)]; simp
  · simp only [Instr.sliceBounds, Sem.run_bind, Sem.run_pure, Result.andThen_ok, Option.isSome_some, if_true]
    rw [run_sliceBound w km nm cap _ (by omega) (by omega)]; simp only [Result.andThen_ok]
    rw [run_sliceBound w kh nh _ _ (by omega) (by omega)]; simp only [Result.andThen_ok]
    rw [run_sliceBound w kl nl _ _ (by omega) (by omega)]; simp

theorem run_slice_sl {P : Program} {w : World} {t e : TypeId} (hu : P.underlying t = some (.slice e)) (hi : (P.info? e).isSome = true) {A : Option Addr} {len cap : Nat} {l h m : Option Int} {lo hi' mx : Option Value}
    (hl : (lo = none ∧ l = none) ∨ ∃ k n, lo = some (.int k n) ∧ l = some n) (hh : (hi' = none ∧ h = none) ∨ ∃ k n, hi' = some (.int k n) ∧ h = some n) (hm : (mx = none ∧ m = none) ∨ ∃ k n, mx = some (.int k n) ∧ m = some n)
    (h1 : 0 ≤ l.getD 0 ∧ l.getD 0 ≤ h.getD len ∧ h.getD len ≤ m.getD cap ∧ m.getD cap ≤ cap) (h2 : m.isSome = true → h.isSome = true) :
    (Instr.sliceAt t (.slice A len cap) lo hi' mx).run P w = .ok (.slice (if (m.getD cap).toNat = (l.getD 0).toNat then A else A.map (·.add ((l.getD 0).toNat * P.cellsOf e))) ((h.getD len).toNat - (l.getD 0).toNat) ((m.getD cap).toNat - (l.getD 0).toNat)) w := by
  have hb := run_bounds (P := P) (w := w) true len cap l h m lo hi' mx hl hh hm h1 h2
  simp [Instr.sliceAt, Instr.slice, run_underlying hu, hb, cellsOf_info rfl hi]

theorem snd_slice {P : Program} {N : Nat} {o : Oper} {st : St} {t : TypeId} {x : Operand} {lo hi mx : Option Operand} {c : Prop} {r : SV} (ho : o.op = .slice t x lo hi mx)
    (h : sSlice P t (st.ev x) (lo.map st.ev) (hi.map st.ev) (mx.map st.ev) = some (c, r)) (hc : c) (hinfo : ∀ e, P.underlying t = some (.slice e) → (P.info? e).isSome = true) : Snd P N o st st r := by
  refine snd_of_run (s := fun ρ => Instr.sliceAt t (ρ x) (lo.map ρ) (hi.map ρ) (mx.map ρ)) (fun ρ => by simp [execOp, ho]) fun ρ G a w hf => ?_
  have h1 := frm_ev hf x
  unfold sSlice at h
  split at h <;> try (simp at h; done)
  rename_i l hh m hl hh' hm
  have bl := bnd_ok hf hl
  have bh := bnd_ok hf hh'
  have bm := bnd_ok hf hm
  split at h
  · rename_i e i z off len cap ex hu hx
    rw [hx] at h1
    simp only [SV.R] at h1
    obtain ⟨A, cc, h1, k1, k2, k3, k4, k5⟩ := h1
    split at h <;> try (simp at h; done)
    rename_i hz
    -- the value, from the bounds
    have fin : ∀ (L H M : Nat) (exx : Bool) (capp : Nat), L ≤ H → H ≤ M → M ≤ cc → L = (l.getD 0).toNat → H = (hh.getD len).toNat → M = (m.getD cc).toNat → 0 ≤ l.getD 0 → 0 ≤ hh.getD len → 0 ≤ m.getD cc → (m.isSome = true → hh.isSome = true) →
        H - L ≤ capp → capp ≤ M - L → (exx = true → M - L = capp) →
        ∃ u, (Instr.sliceAt t (a.eval x) (lo.map a.eval) (hi.map a.eval) (mx.map a.eval)).run P w = .ok u w ∧ (SV.sl i z (off + L) (H - L) capp exx).R ρ G u := by
      intro L H M exx capp hLH hHM hMc eL eH eM p1 p2 p3 p4 q1 q2 q3
      have hr := run_slice_sl (P := P) (w := w) hu (hinfo e hu) (A := A) (len := len) (cap := cc) bl bh bm (by omega) p4
      rw [← eL, ← eH, ← eM] at hr
      refine ⟨_, by rw [h1]; exact hr, ?_⟩
      simp only [SV.R]
      refine ⟨_, _, rfl, q1, q2, q3, ?_, ?_⟩
      · by_cases hML : M = L
        · exact .inl (by omega)
        · rw [if_neg hML]
          rcases k4 with k4 | k4
          · omega
          · subst k4
            refine .inr ?_
            simp only [Option.map_some, add_off, hz, Nat.add_mul]
      · have : (off + L + (M - L)) * z ≤ (off + cc) * z := Nat.mul_le_mul_right _ (by omega)
        omega
    split at h <;> simp only [Option.some.injEq, Prod.mk.injEq, reduceCtorEq] at h <;> obtain ⟨rfl, rfl⟩ := h
    · have := fin 0 len cc ex cap (by omega) (by omega) (by omega) (by simp) (by simp) (by simp) (by simp) (by simp) (by simp) (by simp) (by omega) (by omega) (fun h => by have := k3 h; omega)
      simpa using this
    · rename_i hv
      have := fin 0 hv.toNat cc ex cap (by omega) (by omega) (by omega) (by simp) (by simp) (by simp) (by simp) (by simp; omega) (by simp) (by simp) (by omega) (by omega) (fun h => by have := k3 h; omega)
      simpa using this
    · rename_i lv
      exact fin lv.toNat len cc ex (cap - lv.toNat) (by omega) (by omega) (by omega) (by simp) (by simp) (by simp) (by simp; omega) (by simp) (by simp) (by simp) (by omega) (by omega) (fun h => by have := k3 h; omega)
    · rename_i lv hv
      exact fin lv.toNat hv.toNat cc ex (cap - lv.toNat) (by omega) (by omega) (by omega) (by simp) (by simp) (by simp) (by simp; omega) (by simp; omega) (by simp) (by simp) (by omega) (by omega) (fun h => by have := k3 h; omega)
    · rename_i hv mv
      have := fin 0 hv.toNat mv.toNat true mv.toNat (by omega) (by omega) (by omega) (by simp) (by simp) (by simp) (by simp) (by simp; omega) (by simp; omega) (by simp) (by omega) (by omega) (fun h => by omega)
      simpa using this
    · rename_i lv hv mv
      exact fin lv.toNat hv.toNat mv.toNat true (mv.toNat - lv.toNat) (by omega) (by omega) (by omega) (by simp) (by simp) (by simp) (by simp; omega) (by simp; omega) (by simp; omega) (by simp) (by omega) (by omega) (fun h => by omega)
  · rename_i e z n f ex hu hx
    rw [hx] at h1
    simp only [SV.R, SV.C] at h1
    obtain ⟨_, _, A, cc, h1, k1, k2, k3⟩ := h1
    simp [one] at h1
    split at h <;> try (simp at h; done)
    rename_i hz
    have fin : ∀ (L H M : Nat) (exx : Bool) (f' : Nat → SV), L ≤ H → H ≤ M → M ≤ cc → H ≤ n → L = (l.getD 0).toNat → H = (hh.getD n).toNat → M = (m.getD cc).toNat → 0 ≤ l.getD 0 → 0 ≤ hh.getD n → 0 ≤ m.getD cc → (m.isSome = true → hh.isSome = true) →
        (exx = true → M = H) → (∀ k, k < H - L → f' k = f (L + k)) →
        ∃ u, (Instr.sliceAt t (a.eval x) (lo.map a.eval) (hi.map a.eval) (mx.map a.eval)).run P w = .ok u w ∧ (SV.ro z (H - L) f' exx).R ρ G u := by
      intro L H M exx f' hLH hHM hMc hHn eL eH eM p1 p2 p3 p4 q1 q2
      have hr := run_slice_sl (P := P) (w := w) hu (hinfo e hu) (A := A) (len := n) (cap := cc) bl bh bm (by omega) p4
      rw [← eL, ← eH, ← eM] at hr
      refine ⟨_, by rw [h1]; exact hr, ?_⟩
      simp only [SV.R, SV.C]
      refine ⟨trivial, trivial, _, _, by simp [one]; exact ⟨rfl, rfl⟩, by omega, fun h => by have := q1 h; omega, ?_⟩
      by_cases hHL : H = L
      · exact .inl (by omega)
      · rcases k3 with k3 | ⟨b, oo, cs, e', fr, rfl, k3, k4⟩
        · omega
        · refine .inr ⟨b, oo + L * z, cs, e', fr, ?_, k3, fun k hk => ?_⟩
          · rw [if_neg (by omega)]
            simp [add_off, hz]
          · rw [q2 k hk]
            have := k4 (L + k) (by omega)
            rw [Nat.add_mul] at this
            refine C_congrZ this (fun q _ => ?_)
            show cs[oo + L * z + k * z + q]? = cs[oo + (L * z + k * z) + q]?
            rw [Nat.add_assoc oo]
    split at h <;> simp only [Option.some.injEq, Prod.mk.injEq, reduceCtorEq] at h <;> obtain ⟨rfl, rfl⟩ := h
    · have := fin 0 n cc ex f (by omega) (by omega) (by omega) (by omega) (by simp) (by simp) (by simp) (by simp) (by simp) (by simp) (by simp) (fun h => k2 h) (by simp)
      simpa using this
    · rename_i hv
      have := fin 0 hv.toNat cc false f (by omega) (by omega) (by omega) (by omega) (by simp) (by simp) (by simp) (by simp) (by simp; omega) (by simp) (by simp) (by simp) (by simp)
      simpa using this
    · rename_i lv
      exact fin lv.toNat n cc ex _ (by omega) (by omega) (by omega) (by omega) (by simp) (by simp) (by simp) (by simp; omega) (by simp) (by simp) (by simp) (fun h => k2 h) (fun _ _ => rfl)
    · rename_i lv hv
      exact fin lv.toNat hv.toNat cc false _ (by omega) (by omega) (by omega) (by omega) (by simp) (by simp) (by simp) (by simp; omega) (by simp; omega) (by simp) (by simp) (by simp) (fun _ _ => rfl)
    · rename_i hv mv
      have := fin 0 hv.toNat mv.toNat true f (by omega) (by omega) (by omega) (by omega) (by simp) (by simp) (by simp) (by simp) (by simp; omega) (by simp; omega) (by simp) (fun _ => by omega) (by simp)
      simpa using this
    · rename_i lv hv mv
      exact fin lv.toNat hv.toNat mv.toNat true _ (by omega) (by omega) (by omega) (by omega) (by simp) (by simp) (by simp) (by simp; omega) (by simp; omega) (by simp; omega) (by simp) (fun _ => by omega) (fun _ _ => rfl)
  · rename_i e hu hx
    rw [hx] at h1
    simp only [SV.R] at h1
    simp only [Option.some.injEq, Prod.mk.injEq] at h
    obtain ⟨rfl, rfl⟩ := h
    obtain ⟨q1, q2, q3, q4⟩ := hc
    have hr := run_slice_sl (P := P) (w := w) hu (hinfo e hu) (A := none) (len := 0) (cap := 0) bl bh bm (by
      have e1 : hh.getD ((0 : Nat) : Int) = hh.getD 0 := rfl
      have e2 : m.getD ((0 : Nat) : Int) = m.getD 0 := rfl
      rw [e1, e2, q1, q2, q3]; simp) q4
    refine ⟨_, by rw [h1]; exact hr, ?_⟩
    have e1 : hh.getD ((0 : Nat) : Int) = hh.getD 0 := rfl
    have e2 : m.getD ((0 : Nat) : Int) = m.getD 0 := rfl
    rw [e1, e2, q1, q2, q3]
    simp [SV.R]
  · rename_i s hu hx
    rw [hx] at h1
    simp only [SV.R] at h1
    have hb := fun (h1 : 0 ≤ l.getD 0 ∧ l.getD 0 ≤ hh.getD s.size ∧ hh.getD s.size ≤ m.getD s.size ∧ m.getD s.size ≤ s.size) (h2 : m.isSome = true → hh.isSome = true) => run_bounds (P := P) (w := w) false s.size s.size l hh m _ _ _ bl bh bm h1 h2
    have hmx : m = none → mx.map a.eval = none := fun hm0 => by
      rcases bm with ⟨h, _⟩ | ⟨k, n, _, h⟩
      · exact h
      · rw [hm0] at h; simp at h
    split at h <;> simp only [Option.some.injEq, Prod.mk.injEq, reduceCtorEq] at h <;> obtain ⟨rfl, rfl⟩ := h
    · have hb := hb (by simp) (by simp)
      rw [hmx rfl] at hb ⊢
      exact ⟨_, by simp [h1, Instr.sliceAt, Instr.slice, run_underlying hu, hb]; rfl, by simp [SV.R]⟩
    · have hb := hb (by simp; omega) (by simp)
      rw [hmx rfl] at hb ⊢
      exact ⟨_, by simp [h1, Instr.sliceAt, Instr.slice, run_underlying hu, hb]; rfl, by simp [SV.R]⟩
    · have hb := hb (by simp; omega) (by simp)
      rw [hmx rfl] at hb ⊢
      exact ⟨_, by simp [h1, Instr.sliceAt, Instr.slice, run_underlying hu, hb]; rfl, by simp [SV.R]⟩
    · have hb := hb (by simp; omega) (by simp)
      rw [hmx rfl] at hb ⊢
      exact ⟨_, by simp [h1, Instr.sliceAt, Instr.slice, run_underlying hu, hb]; rfl, by simp [SV.R]⟩
  · simp at h
end Go.Sym
