/- append and copy. -/
import Derived.Test.YtjbbpacbfpbbcaaSC
import Derived.Laws.AppendOwn
import Derived.Laws.BytesString
set_option linter.all false
set_option linter.unusedSimpArgs false
set_option linter.unusedVariables false
set_option linter.deprecated false
set_option linter.unusedSimpArgs false
set_option linter.unusedVariables false
namespace Go.Sym

def noOwnE (x : SV) : Bool := noOwnL x.elems

theorem CL_noOwn {G H : Heap} : ∀ {cs : List SV} {rd : Rd} {F : List Nat}, noOwnL cs = true → SV.CL G H cs rd F → F = []
  | [], rd, F, hn, h => by simpa [SV.CL] using h
  | y :: ys, rd, F, hn, h => by
    obtain ⟨F1, F2, rfl, hna, h1, h2⟩ := h
    simp only [noOwnL, List.all_cons, Bool.and_eq_true] at hn
    rw [(C_noOwn (ρ := fun _ => (0, 0)) hn.1 h1).1, CL_noOwn hn.2 h2]; rfl

theorem C_noOwnE {G H : Heap} {x : SV} {z : Nat} {rd : Rd} {F : List Nat} (hn : noOwnE x = true) (h : x.C G H z rd F) : F = [] := CL_noOwn hn (C_elemsF h).1

/-- Every cell of an element is there, and is one cell. -/
theorem C_one {G H : Heap} {x : SV} {z : Nat} {rd : Rd} {F : List Nat} (h : x.C G H z rd F) : ∀ q, q < z → ∃ u, rd q = some u ∧ u.oneCell' = true := by
  obtain ⟨h1, h2⟩ := C_elemsF h
  intro q hq
  exact CLone h1 q (by omega)
where
  Cone : ∀ (y : SV) (rd : Rd) (F : List Nat), y.notAgg = true → y.C G H 1 rd F → ∃ u, rd 0 = some u ∧ u.oneCell' = true
  | .v x, rd, F, hna, h => by simp only [SV.C] at h; exact ⟨_, h.2.1, h.2.2.1⟩
  | .ro z n f ex, rd, F, hna, h => by simp only [SV.C] at h; obtain ⟨_, _, A, c, h, _⟩ := h; exact ⟨_, h, rfl⟩
  | .own z n f, rd, F, hna, h => by simp only [SV.C] at h; obtain ⟨_, A, c, h, _⟩ := h; exact ⟨_, h, rfl⟩
  | .any, rd, F, hna, h => by simp only [SV.C] at h; exact h.2.2
  | .agg _, rd, F, hna, h => by simp [SV.notAgg] at hna
  | .ptr _ _, rd, F, hna, h => by simp [SV.C] at h
  | .elp _ _ _ _, rd, F, hna, h => by simp [SV.C] at h
  | .sl _ _ _ _ _ _, rd, F, hna, h => by simp [SV.C] at h
  | .rop _, rd, F, hna, h => by simp [SV.C] at h
  | .fn _ _ _, rd, F, hna, h => by simp [SV.C] at h
  | .tup _, rd, F, hna, h => by simp [SV.C] at h
  CLone : ∀ {cs : List SV} {rd : Rd} {F : List Nat}, SV.CL G H cs rd F → ∀ q, q < cs.length → ∃ u, rd q = some u ∧ u.oneCell' = true
  | [], rd, F, h, q, hq => by simp at hq
  | y :: ys, rd, F, h, 0, hq => by obtain ⟨F1, F2, _, hna, h1, _⟩ := h; exact Cone y rd F1 hna h1
  | y :: ys, rd, F, h, q + 1, hq => by obtain ⟨F1, F2, _, hna, _, h2⟩ := h; exact CLone (rd := fun j => rd (j + 1)) h2 q (by simpa using hq)

/-- What an append or a copy takes its elements from: how many, which; the entry that goes with them. -/
def srcOf (L : Ents) (z : Nat) (x : SV) : Option (Prop × Nat × (Nat → SV) × Option Nat) :=
  match x with
  | .ro z' m g _ => if z' = z then some (True, m, g, none) else none
  | .sl j z' off m _ ex =>
    match L.get j with
    | some (.row z'' n f) =>
      if z' = z ∧ z'' = z then
        (if ex = true ∧ off = 0 then some (m ≤ n, m, f, some j) else some (off + m ≤ n ∧ ∀ k, k < m → noOwnE (f (off + k)) = true, m, fun k => f (off + k), none))
      else none
    | _ => none
  | .v (.slice _ n _) => some (n = 0, 0, fun _ => .any, none)
  | .v (.string s) => if z = 1 then some (True, s.size, fun k => .v (.int .u8 (strAt s k)), none) else none
  | _ => none

def eraseO (L : Ents) : Option Nat → Ents
  | none => L
  | some j => L.del j

/-- The elements of a source in a world: their cells one behind the other. -/
structure SrcAt (P : Program) (G : Heap) (w : World) (z : Nat) (u : Value) (m : Nat) (g : Nat → SV) (Fs : List Nat) : Prop where
  len : (Builtin.lenOf u).run P w = .ok m w
  cells : ∃ (news : Array Value) (gF : Nat → List Nat), news.size = m * z ∧ (∀ v ∈ news.toList, v.oneCell' = true) ∧ (∀ n ws, n ≤ m → (∀ b, World.H ws b = World.H w b) → (Builtin.firstCells z n u).run P ws = .ok (news.extract 0 (n * z)) ws) ∧
    (∀ k, k < m → (g k).C G (World.H w) z (fun q => news[k * z + q]?) (gF k)) ∧ (flat m gF).Sublist Fs

theorem srcAt_blk {P : Program} {G : Heap} {w : World} {z : Nat} {b o m c : Nat} {A : Option Addr} {cs : Array Value} {e : TypeId} {fr : Nat × Nat} {g : Nat → SV} {gF : Nat → List Nat} {Fs : List Nat} (hA : m = 0 ∨ A = some ⟨b, o, none⟩)
    (hb : m = 0 ∨ World.H w b = some (.cells cs e fr)) (hr : ∀ k, k < m → (g k).C G (World.H w) z (fun q => cs[o + k * z + q]?) (gF k)) (hF : (flat m gF).Sublist Fs) :
    SrcAt P G w z (.slice A m c) m g Fs := by
  refine ⟨rfl, ?_⟩
  by_cases h0 : m = 0
  · subst h0
    refine ⟨#[], gF, by simp, by simp, fun n ws hn _ => ?_, by simp, hF⟩
    have : n = 0 := by omega
    subst this
    cases A with
    | none => simp [Builtin.firstCells]
    | some a => simp [Builtin.firstCells, loadCells, loadCellsFrom]
  · have hA := hA.resolve_left h0
    have hb := hb.resolve_left h0
    subst hA
    have hcell : ∀ j, j < m * z → ∃ u, cs[o + j]? = some u ∧ u.oneCell' = true := by
      intro j hj
      have hz : 0 < z := Nat.pos_of_ne_zero (fun h => by subst h; simp at hj)
      have hk : j / z < m := (Nat.div_lt_iff_lt_mul hz).2 hj
      obtain ⟨u, hu, ho⟩ := C_one (hr (j / z) hk) (j % z) (Nat.mod_lt _ hz)
      refine ⟨u, ?_, ho⟩
      have : o + j / z * z + j % z = o + j := by
        have := Nat.div_add_mod j z
        rw [Nat.mul_comm] at this
        omega
      rwa [this] at hu
    let news : Array Value := ((List.range (m * z)).map fun j => (cs[o + j]?).getD undef).toArray
    have hn : ∀ j, j < m * z → news[j]? = cs[o + j]? := by
      intro j hj
      obtain ⟨u, hu, _⟩ := hcell j hj
      simp [news, hj, hu]
    refine ⟨news, gF, by simp [news], ?_, fun n ws hn' hws => ?_, fun k hk => ?_, hF⟩
    · intro v hv
      simp only [news, List.mem_map, List.mem_range] at hv
      obtain ⟨j, hj, rfl⟩ := hv
      obtain ⟨u, hu, ho⟩ := hcell j hj
      rw [hu]; exact ho
    · have hbs : World.H ws b = some (.cells cs e fr) := by rw [hws]; exact hb
      have hle : n * z ≤ m * z := Nat.mul_le_mul_right _ hn'
      have := run_loadCells (P := P) ws ⟨b, o, none⟩ (n * z) (fun j => (cs[o + j]?).getD undef) (fun j hj => by
        obtain ⟨u, hu, _⟩ := hcell j (by omega)
        rw [add_off, cell_of_block hbs, hu]; rfl)
      simp only [Builtin.firstCells]
      rw [this]
      congr 1
      apply Array.ext_getElem?
      intro j
      by_cases hj : j < n * z
      · simp [news, hj, Array.getElem?_extract, show j < m * z by omega]
      · simp [news, hj, Array.getElem?_extract, show min (n * z) (m * z) = n * z by omega]
    · refine C_congrZ (hr k hk) (fun q hq => ?_)
      have hkz : k * z + q < m * z := by
        have : (k + 1) * z ≤ m * z := Nat.mul_le_mul_right _ hk
        rw [Nat.add_mul, Nat.one_mul] at this; omega
      rw [hn _ hkz, Nat.add_assoc]

theorem src_ok {P : Program} {ρ : Nat → Nat × Nat} {g : Gh} {w : World} {L : Ents} {Fp : Nat → List Nat} (hm : Mem ρ g w L Fp) {z : Nat} (hz : 0 < z) {x : SV} {u : Value} (hx : x.R ρ g.G u) {c : Prop} {m : Nat} {gg : Nat → SV} {jo : Option Nat}
    (h : srcOf L z x = some (c, m, gg, jo)) (hc : c) : ∃ Fs, SrcAt P g.G w z u m gg Fs ∧ Fs.Nodup ∧ (∀ b ∈ Fs, Gone L (eraseO L jo) Fp b) ∧ (∀ j, jo = some j → ∃ e, L.get j = some e) := by
  unfold srcOf at h
  split at h <;> try (simp at h; done)
  · rename_i z' m' g' ex
    split at h <;> try (simp at h; done)
    rename_i hzz
    subst hzz
    simp only [Option.some.injEq, Prod.mk.injEq] at h
    obtain ⟨rfl, rfl, rfl, rfl⟩ := h
    simp only [SV.R, SV.C] at hx
    obtain ⟨_, _, A, cc, h1, h2, _, h3⟩ := hx
    simp [one] at h1
    subst h1
    refine ⟨[], ?_, by simp, by simp, by simp⟩
    rcases h3 with h3 | ⟨b, o, cs, e, fr, h3, h4, h5⟩
    · subst h3
      exact srcAt_blk (b := 0) (o := 0) (cs := #[]) (e := 0) (fr := (0, 0)) (gF := fun _ => []) (.inl rfl) (.inl rfl) (by simp) (by simp [flat])
    · refine srcAt_blk (gF := fun _ => []) (.inr h3) (.inr (hm.bw _ _ (hm.gb _ _ h4))) (fun k hk => SV.C_mono (Heap.le_refl _) _ _ _ _ (by simp) (h5 k hk)) ?_
      have : flat m' (fun _ => []) = [] := by simp [flat]
      rw [this]; exact List.Sublist.refl _
  · rename_i j z' off m' cap ex
    split at h <;> try (simp at h; done)
    rename_i z'' n f hj
    split at h <;> try (simp at h; done)
    rename_i hzz
    obtain ⟨rfl, rfl⟩ := hzz
    simp only [SV.R] at hx
    obtain ⟨A, cc, rfl, k1, k2, _, k4, k5⟩ := hx
    have hmj := Ents.mem_of_get hj
    have hent := hm.ent j _ hmj
    split at h
    · rename_i hex
      obtain ⟨rfl, rfl⟩ := hex
      simp only [Option.some.injEq, Prod.mk.injEq] at h
      obtain ⟨rfl, rfl, rfl, rfl⟩ := h
      have hg : ∀ b ∈ Fp j, Gone L (eraseO L (some j)) Fp b := fun b hb => ⟨j, _, hmj, hb, fun i ei hi => (Ents.mem_del.1 hi).2⟩
      rcases hent with ⟨h0, _, _⟩ | ⟨c', e, fr, gF, hb, hcs, hwr, hns, hFp, hr⟩
      · have hm0 : m' = 0 := by omega
        subst hm0
        exact ⟨[], srcAt_blk (b := 0) (o := 0) (cs := #[]) (e := 0) (fr := (0, 0)) (gF := fun _ => []) (.inl rfl) (.inl rfl) (by simp) (by simp [flat]), by simp, by simp, by simp; exact ⟨_, hj⟩⟩
      · refine ⟨flat m' gF, srcAt_blk (o := 0) (gF := gF) ?_ (.inr hb) (fun k hk => ?_) (List.Sublist.refl _), ?_, ?_, by simp; exact ⟨_, hj⟩⟩
        · rcases k4 with k4 | k4
          · exact .inl (by omega)
          · exact .inr (by simpa using k4)
        · have := hr k (by omega)
          simpa using this
        · have := hm.nd j _ hmj
          rw [hFp] at this
          exact (List.nodup_cons.1 this).2.sublist (flat_take hc)
        · intro b hb'
          refine hg b ?_
          rw [hFp]
          exact List.mem_cons_of_mem _ ((flat_take hc).subset hb')
    · simp only [Option.some.injEq, Prod.mk.injEq] at h
      obtain ⟨rfl, rfl, rfl, rfl⟩ := h
      obtain ⟨hle, hno⟩ := hc
      rcases hent with ⟨h0, _, _⟩ | ⟨c', e, fr, gF, hb, hcs, hwr, hns, hFp, hr⟩
      · have hm0 : m' = 0 := by omega
        subst hm0
        exact ⟨[], srcAt_blk (b := 0) (o := 0) (cs := #[]) (e := 0) (fr := (0, 0)) (gF := fun _ => []) (.inl rfl) (.inl rfl) (by simp) (by simp [flat]), by simp, by simp, by simp⟩
      · refine ⟨[], srcAt_blk (o := off * z'') (gF := fun _ => []) ?_ (.inr hb) (fun k hk => ?_) (by simp [flat]), by simp, by simp, by simp⟩
        · rcases k4 with k4 | k4
          · exact .inl (by omega)
          · exact .inr k4
        · have := hr (off + k) (by omega)
          have hF := C_noOwnE (hno k hk) this
          rw [hF, Nat.add_mul] at this
          exact this
  · rename_i n cc
    simp only [Option.some.injEq, Prod.mk.injEq] at h
    obtain ⟨rfl, rfl, rfl, rfl⟩ := h
    simp only [SV.R] at hx
    subst hx
    subst hc
    exact ⟨[], srcAt_blk (b := 0) (o := 0) (cs := #[]) (e := 0) (fr := (0, 0)) (gF := fun _ => []) (.inl rfl) (.inl rfl) (by simp) (by simp [flat]), by simp, by simp, by simp⟩
  · rename_i s
    split at h <;> try (simp at h; done)
    rename_i hz1
    subst hz1
    simp only [Option.some.injEq, Prod.mk.injEq] at h
    obtain ⟨rfl, rfl, rfl, rfl⟩ := h
    simp only [SV.R] at hx
    subst hx
    refine ⟨[], ⟨rfl, s.data.map fun b => .int .u8 b.toNat, fun _ => [], ?_, ?_, ?_, ?_, by simp [flat]⟩, by simp, by simp, by simp⟩
    · show (s.data.map _).size = s.data.size * 1
      simp
    · intro v hv
      simp at hv
      obtain ⟨b, _, rfl⟩ := hv
      rfl
    · intro n ws hn _
      simp only [Builtin.firstCells, Sem.run_pure]
      congr 1
      apply Array.ext_getElem?
      intro j
      have hn' : n ≤ s.data.size := hn
      by_cases hj : j < n
      · have : j < s.data.size := by omega
        simp [ByteArray.extract, ByteArray.copySlice, Array.getElem?_extract, hj, Nat.min_eq_left hn']
      · simp [ByteArray.extract, ByteArray.copySlice, Array.getElem?_extract, hj, Nat.min_eq_left hn']
    · intro k hk
      have hk' : k < s.data.size := hk
      simp only [SV.C, strAt]
      refine ⟨trivial, ?_, rfl, trivial⟩
      simp only [Nat.mul_one, Nat.add_zero, Array.getElem?_map, Array.getD_eq_getD_getElem?]
      rw [Array.getElem?_eq_getElem hk']
      rfl

def notIntT (d : Option TypeDesc) : Bool := match d with | some (.int _) => false | some _ => true | none => false

theorem run_append_fit {P : Program} {w w' : World} {t xt ty e : TypeId} {i : TypeInfo} (ht : P.underlying t = some (.slice e)) (hi : P.info? e = some i) (hxt : notIntT (P.underlying xt) = true) {A : Option Addr} {n c m : Nat} {u : Value}
    {news : Array Value} (hl : (Builtin.lenOf u).run P w = .ok m w) (hf : (Builtin.firstCells i.size m u).run P w = .ok news w) (hc : n + m ≤ c)
    (hs : match A with | some a => (storeCells (a.add (n * i.size)) news.toList).run P w = .ok () w' | none => w' = w) :
    (Builtin.append_ #[t, xt] ty #[.slice A n c, u]).run P w = .ok (.slice A (n + m) c) w' := by
  unfold notIntT at hxt
  split at hxt <;> try (simp at hxt; done)
  rename_i d hne hxu
  have hzeros : (match d with | .int _ => true | _ => false) = false := by cases d <;> first | rfl | exact absurd rfl (hne _)
  cases A with
  | none =>
    subst hs
    simp [Builtin.append_, run_underlying ht, run_underlying hxu, size_info hi, hl, hzeros, hc, hf]
  | some a =>
    simp only at hs
    simp [Builtin.append_, run_underlying ht, run_underlying hxu, size_info hi, hl, hzeros, hc, hf, hs]

theorem run_append_new {P : Program} {w : World} {t xt ty e : TypeId} {i : TypeInfo} {zv : Value} (ht : P.underlying t = some (.slice e)) (hi : P.info? e = some i) (hzv : i.zero = some zv) (hxt : notIntT (P.underlying xt) = true) {A : Option Addr}
    {n c m : Nat} {u : Value} {olds news : Array Value} (hl : (Builtin.lenOf u).run P w = .ok m w) (hf : (Builtin.firstCells i.size m u).run P w.drew = .ok news w.drew)
    (hfo : (Builtin.firstCells i.size n (.slice A n c)).run P w.drew = .ok olds w.drew) (hc : c < n + m) (hbytes : 0 < i.bytes) (hfit : (n + m) * i.bytes ≤ 140737488355328) :
    (Builtin.append_ #[t, xt] ty #[.slice A n c, u]).run P w = .ok (.slice (some ⟨w.heap.size, 0, none⟩) (n + m) (grownCap w (n + m) c e))
      (w.drew.alloc (.cells (olds ++ news ++ Builtin.zeroCells zv.cells (grownCap w (n + m) c e - (n + m))) e)) := by
  unfold notIntT at hxt
  split at hxt <;> try (simp at hxt; done)
  rename_i d hne hxu
  have hzeros : (match d with | .int _ => true | _ => false) = false := by cases d <;> first | rfl | exact absurd rfl (hne _)
  have h48 := growslice_fits hc hfit
  have hn : ¬ (n + m ≤ c) := by omega
  have hb0 : ¬ (i.bytes = 0) := by omega
  have h48' : ¬ (281474976710656 < Builtin.nextslicecap (n + m) c * i.bytes) := by omega
  simp [Builtin.append_, run_underlying ht, run_underlying hxu, zeroValue, typeInfo, sizeOf, hi, hzv, hl, hzeros, hn, hb0, h48', Question.forced, hf, hfo, newRow, grownCap]

/-- Two rows one behind the other. -/
def comb (f g : Nat → SV) (n : Nat) : Nat → SV := fun q => cond (Nat.blt q n) (f q) (g (q - n))

def sAppend (P : Program) (st : St) (ts : Array TypeId) (x y : SV) : Option (Prop × SV × St) :=
  match ts.toList with
  | [t, xt] =>
    match P.underlying t with
    | some (.slice e) => match P.info? e with
      | some i => match i.zero with
        | some zv =>
          if st.fresh = true ∧ 0 < i.size ∧ 0 < i.bytes ∧ zv.cells.size = i.size ∧ notIntT (P.underlying xt) = true then
            match srcOf st.L i.size y with
            | some (cy, m, g, jo) =>
              match x with
              | .v (.slice none n cc) => some (n = 0 ∧ cc = 0 ∧ cy ∧ m * i.bytes ≤ 140737488355328, .sl st.nx i.size 0 m m false, st.add (eraseO st.L jo) (.row i.size m g))
              | .sl k z off len _ _ =>
                match st.L.get k with
                | some (.row z' n f) =>
                  if z = i.size ∧ z' = i.size ∧ off = 0 ∧ jo ≠ some k then
                    some (len = n ∧ cy ∧ (len + m) * i.bytes ≤ 140737488355328, .sl st.nx i.size 0 (len + m) (len + m) false, st.add (eraseO (st.L.del k) jo) (.row i.size (len + m) (comb f g len)))
                  else none
                | _ => none
              | .ro z n f true =>
                if z = i.size then
                  some ((0 < m ∨ n = 0) ∧ cy ∧ (n + m) * i.bytes ≤ 140737488355328, .sl st.nx i.size 0 (n + m) (n + m) false, st.add (eraseO st.L jo) (.row i.size (n + m) (comb f g n)))
                else none
              | _ => none
            | none => none
          else none
        | none => none
      | none => none
    | _ => none
  | _ => none

theorem comb_lt {f g : Nat → SV} {n q : Nat} (h : q < n) : comb f g n q = f q := by
  have : Nat.blt q n = true := by rw [Nat.blt_eq]; exact h
  simp [comb, this]
theorem comb_ge {f g : Nat → SV} {n q : Nat} (h : n ≤ q) : comb f g n q = g (q - n) := by
  have : Nat.blt q n = false := by
    rw [Bool.eq_false_iff]; intro hb; rw [Nat.blt_eq] at hb; omega
  simp [comb, this]

def gcomb (gi gj : Nat → List Nat) (n : Nat) : Nat → List Nat := fun q => if q < n then gi q else gj (q - n)

theorem flat_gcomb (gi gj : Nat → List Nat) (n m : Nat) : flat (n + m) (gcomb gi gj n) = flat n gi ++ flat m gj := by
  unfold flat
  rw [List.range_add, List.flatMap_append]
  congr 1
  · have : ∀ l : List Nat, (∀ q ∈ l, q < n) → l.flatMap (gcomb gi gj n) = l.flatMap gi := by
      intro l
      induction l with
      | nil => simp
      | cons a l ih => intro h; simp [gcomb, h a (by simp)]; exact ih (fun q hq => h q (by simp [hq]))
    exact this _ (by simp)
  · rw [List.flatMap_map]
    have : ∀ l : List Nat, l.flatMap (fun a => gcomb gi gj n (n + a)) = l.flatMap gj := by
      intro l
      induction l with
      | nil => simp
      | cons a l ih =>
        rw [List.flatMap_cons, List.flatMap_cons, ih]
        congr 1
        simp only [gcomb]
        rw [if_neg (by omega)]
        congr 1; omega
    exact this _

theorem ent_comb {G H : Heap} {z n m : Nat} {f g : Nat → SV} {gi gj : Nat → List Nat} {c' : Array Value} (h1 : ∀ q, q < n → (f q).C G H z (fun r => c'[q * z + r]?) (gi q)) (h2 : ∀ q, q < m → (g q).C G H z (fun r => c'[(n + q) * z + r]?) (gj q)) :
    ∀ q, q < n + m → (comb f g n q).C G H z (fun r => c'[q * z + r]?) (gcomb gi gj n q) := by
  intro q hq
  by_cases hqn : q < n
  · rw [comb_lt hqn]; simp only [gcomb, hqn, if_true]; exact h1 q hqn
  · rw [comb_ge (by omega)]; simp only [gcomb, hqn, if_false]
    have := h2 (q - n) (by omega)
    rwa [show n + (q - n) = q by omega] at this

/-- The base and the source laid into a new block. -/
theorem Cfg.appendNew {P : Program} {N : Nat} {st : St} {g : Gh} {a : Act} {w : World} {ρ : Nat → Nat × Nat} {Fp : Nat → List Nat} {ms : List Nat} (hg : Cfg N st g a w ρ Fp ms) (hfresh : st.fresh = true) {z n m : Nat} {f gg : Nat → SV} {L0 : Ents}
    {olds news rest : Array Value} {gi gj : Nat → List Nat} {e : TypeId} (hos : olds.size = n * z) (hns : news.size = m * z) (ho : ∀ q, q < n → (f q).C g.G (World.H w) z (fun r => olds[q * z + r]?) (gi q))
    (hn : ∀ q, q < m → (gg q).C g.G (World.H w) z (fun r => news[q * z + r]?) (gj q)) (hnd : (flat n gi ++ flat m gj).Nodup) (hgone : ∀ b ∈ flat n gi ++ flat m gj, Gone st.L L0 Fp b) (hL0 : ∀ p ∈ L0, p ∈ st.L) (hk0 : (L0.map (·.1)).Nodup) :
    Mem (upd ρ st.nx (w.heap.size, (olds ++ news ++ rest).size)) g (w.drew.alloc (.cells (olds ++ news ++ rest) e)) ((st.nx, .row z (n + m) (comb f gg n)) :: L0) (upd Fp st.nx (w.heap.size :: (flat n gi ++ flat m gj))) ∧
      Frm (upd ρ st.nx (w.heap.size, (olds ++ news ++ rest).size)) g.G st.fr a.tmps ∧
      Marks g (w.drew.alloc (.cells (olds ++ news ++ rest) e)) ((st.nx, .row z (n + m) (comb f gg n)) :: L0) (upd Fp st.nx (w.heap.size :: (flat n gi ++ flat m gj))) ms := by
  have hlt : ∀ b ∈ flat n gi ++ flat m gj, b < w.heap.size := by
    intro b hb
    obtain ⟨i, ei, hi, hbi, _⟩ := hgone b hb
    exact hg.mem.lt hi hbi
  refine hg.newEnt (w' := w.drew.alloc (.cells (olds ++ news ++ rest) e)) hfresh hL0 hk0 (fun b hb => .inr (World.H_alloc_lt (w := w.drew) hb)) (fun ρ' hρ _ => ?_) ?_ ?_ rfl rfl rfl
  · refine .inr ⟨olds ++ news ++ rest, e, (0, 0), gcomb gi gj n, by rw [hρ]; exact World.H_alloc_new (w := w.drew), by rw [hρ], Or.inl rfl, by simp [hos, hns, Nat.add_mul], by rw [hρ, flat_gcomb], ?_⟩
    have hH : ∀ b, b < w.heap.size → World.H (w.drew.alloc (.cells (olds ++ news ++ rest) e)) b = World.H w b := fun b hb => World.H_alloc_lt (w := w.drew) hb
    refine ent_comb (fun q hq => ?_) (fun q hq => ?_)
    · refine C_congrZ (SV.C_mono (Heap.le_refl _) _ _ _ _ (fun b hb => hH b (hlt b (List.mem_append_left _ (mem_flat.2 ⟨q, hq, hb⟩)))) (ho q hq)) (fun r hr => ?_)
      have : q * z + r < n * z := by
        have : (q + 1) * z ≤ n * z := Nat.mul_le_mul_right _ hq
        rw [Nat.add_mul, Nat.one_mul] at this; omega
      rw [Array.append_assoc, Array.getElem?_append_left (by omega)]
    · refine C_congrZ (SV.C_mono (Heap.le_refl _) _ _ _ _ (fun b hb => hH b (hlt b (List.mem_append_right _ (mem_flat.2 ⟨q, hq, hb⟩)))) (hn q hq)) (fun r hr => ?_)
      have : q * z + r < m * z := by
        have : (q + 1) * z ≤ m * z := Nat.mul_le_mul_right _ hq
        rw [Nat.add_mul, Nat.one_mul] at this; omega
      rw [Nat.add_mul, Nat.add_assoc, Array.getElem?_append_left (by simp [hos, hns]; omega), Array.getElem?_append_right (by omega)]
      congr 1; omega
  · rw [List.nodup_cons]
    exact ⟨fun hb => by have := hlt _ hb; omega, hnd⟩
  · intro b hb
    rcases List.mem_cons.1 hb with rfl | hb
    · exact .inr (Nat.le_refl _)
    · exact .inl (hgone b hb)

/-- The source written behind the base in the base's block. -/
theorem Cfg.appendIn {N : Nat} {st : St} {g : Gh} {a : Act} {w w' : World} {ρ : Nat → Nat × Nat} {Fp : Nat → List Nat} {ms : List Nat} (hg : Cfg N st g a w ρ Fp ms) (hfresh : st.fresh = true) {z n m s : Nat} {f gg : Nat → SV} {L0 : Ents}
    {cur c' news : Array Value} {gi gj : Nat → List Nat} {e : TypeId} {fr : Nat × Nat} {b : Nat} (hb : World.H w b = some (.cells cur e fr)) (hwr : Wr cur.size fr) (hs : cur.size = s) (hroom : (n + m) * z ≤ cur.size) (hns : news.size = m * z)
    (hT : Turned w w' b c' e fr) (hcs : c'.size = cur.size) (hj' : ∀ j, c'[j]? = if n * z ≤ j ∧ j < n * z + m * z then news[j - n * z]? else cur[j]?)
    (ho : ∀ q, q < n → (f q).C g.G (World.H w) z (fun r => cur[q * z + r]?) (gi q)) (hn : ∀ q, q < m → (gg q).C g.G (World.H w) z (fun r => news[q * z + r]?) (gj q))
    (hnd : (b :: (flat n gi ++ flat m gj)).Nodup) (hgone : ∀ x ∈ b :: (flat n gi ++ flat m gj), Gone st.L L0 Fp x) (hL0 : ∀ p ∈ L0, p ∈ st.L) (hk0 : (L0.map (·.1)).Nodup) :
    Mem (upd ρ st.nx (b, s)) g w' ((st.nx, .row z (n + m) (comb f gg n)) :: L0) (upd Fp st.nx (b :: (flat n gi ++ flat m gj))) ∧
      Frm (upd ρ st.nx (b, s)) g.G st.fr a.tmps ∧ Marks g w' ((st.nx, .row z (n + m) (comb f gg n)) :: L0) (upd Fp st.nx (b :: (flat n gi ++ flat m gj))) ms := by
  have hbn := List.nodup_cons.1 hnd
  have hne : ∀ x ∈ flat n gi ++ flat m gj, x ≠ b := fun x hx hxb => hbn.1 (hxb ▸ hx)
  refine hg.newEnt hfresh hL0 hk0 (fun x hx => ?_) (fun ρ' hρ _ => ?_) hnd (fun x hx => .inl (hgone x hx)) hT.os hT.out hT.tape
  · by_cases hxb : x = b
    · exact .inl (hxb ▸ hgone b (by simp))
    · exact .inr (hT.oth x hxb)
  · refine .inr ⟨c', e, fr, gcomb gi gj n, by rw [hρ]; exact hT.blk, by rw [hρ]; exact hcs.trans hs, by rw [hcs]; exact hwr, by rw [hcs]; exact hroom, by rw [hρ, flat_gcomb], ?_⟩
    refine ent_comb (fun q hq => ?_) (fun q hq => ?_)
    · refine C_congrZ (SV.C_mono (Heap.le_refl _) _ _ _ _ (fun x hx => hT.oth x (hne x (List.mem_append_left _ (mem_flat.2 ⟨q, hq, hx⟩)))) (ho q hq)) (fun r hr => ?_)
      have : q * z + r < n * z := by
        have : (q + 1) * z ≤ n * z := Nat.mul_le_mul_right _ hq
        rw [Nat.add_mul, Nat.one_mul] at this; omega
      show c'[q * z + r]? = cur[q * z + r]?
      rw [hj', if_neg (by omega)]
    · refine C_congrZ (SV.C_mono (Heap.le_refl _) _ _ _ _ (fun x hx => hT.oth x (hne x (List.mem_append_right _ (mem_flat.2 ⟨q, hq, hx⟩)))) (hn q hq)) (fun r hr => ?_)
      have : q * z + r < m * z := by
        have : (q + 1) * z ≤ m * z := Nat.mul_le_mul_right _ hq
        rw [Nat.add_mul, Nat.one_mul] at this; omega
      show c'[(n + q) * z + r]? = news[q * z + r]?
      rw [Nat.add_mul, hj', if_pos (by omega)]
      congr 1; omega

theorem eraseO_sub {L : Ents} {jo : Option Nat} : (∀ p ∈ eraseO L jo, p ∈ L) ∧ ((L.map (·.1)).Nodup → ((eraseO L jo).map (·.1)).Nodup) := by
  cases jo with
  | none => exact ⟨fun p hp => hp, fun h => h⟩
  | some j => exact ⟨fun p hp => (List.mem_filter.1 hp).1, fun h => Ents.keys_del j h⟩

theorem grownCap_size {w : World} {n m c : Nat} {e : TypeId} {zv : Value} {z : Nat} (hz : zv.cells.size = z) {olds news : Array Value} (ho : olds.size = n * z) (hn : news.size = m * z) :
    (olds ++ news ++ Builtin.zeroCells zv.cells (grownCap w (n + m) c e - (n + m))).size = grownCap w (n + m) c e * z := by
  have := grownCap_ge w (n + m) c e
  simp only [Array.size_append, ho, hn, size_zeroCells, hz]
  rw [← Nat.add_mul, ← Nat.add_mul]
  congr 1
  omega

theorem list_of_args {ts : Array TypeId} {t xt : TypeId} (h : ts.toList = [t, xt]) : ts = #[t, xt] := by
  apply Array.ext'; simpa using h

theorem Gone.sub {L L0 L0' : Ents} {Fp : Nat → List Nat} {b : Nat} (h : Gone L L0 Fp b) (hs : ∀ p ∈ L0', p ∈ L0) : Gone L L0' Fp b := by
  obtain ⟨i, e, h1, h2, h3⟩ := h
  exact ⟨i, e, h1, h2, fun j e' hj => h3 j e' (hs _ hj)⟩

theorem snd_append {P : Program} {N : Nat} {o : Oper} {st st' : St} {ts : Array TypeId} {xs : Array Operand} {x y : Operand} {c : Prop} {r : SV} (ho : o.op = .call { callee := .builtin .append, args := xs, argTypes := ts })
    (hxs : xs = #[x, y]) (h : sAppend P st ts (st.ev x) (st.ev y) = some (c, r, st')) (hc : c) : Snd P N o st st' r := by
  subst hxs
  intro g a w ρ Fp ms hg
  have hx := frm_ev hg.frm x
  have hy := frm_ev hg.frm y
  unfold sAppend at h
  split at h <;> try (simp at h; done)
  rename_i t xt hts
  have hts' := list_of_args hts
  subst hts'
  split at h <;> try (simp at h; done)
  rename_i e hu
  split at h <;> try (simp at h; done)
  rename_i i hi
  split at h <;> try (simp at h; done)
  rename_i zv hzv
  split at h <;> try (simp at h; done)
  rename_i hcond
  obtain ⟨hfresh, hz, hbytes, hzs, hxt⟩ := hcond
  split at h <;> try (simp at h; done)
  rename_i cy m gg jo hsrc
  have hexec : ∀ {u : Value} {w' : World}, (Builtin.append_ #[t, xt] o.type #[a.eval x, a.eval y]).run P w = .ok u w' → (execOp a.eval o).run P w = .ok (.value u) w' := by
    intro u w' hr
    simp [execOp, ho, resolve, invoke, builtin, hr]
  -- a new block
  have grow : ∀ {A : Option Addr} {n cc : Nat} {f : Nat → SV} {Fs0 : List Nat} {L0 : Ents}, a.eval x = .slice A n cc → cy → cc < n + m → (n + m) * i.bytes ≤ 140737488355328 → SrcAt P g.G w i.size (.slice A n cc) n f Fs0 →
      Fs0.Nodup → (∀ b ∈ Fs0, Gone st.L L0 Fp b) → (∀ b ∈ Fs0, ∀ j, jo = some j → b ∉ Fp j) → (∀ p ∈ L0, p ∈ st.L) → (L0.map (·.1)).Nodup → (∀ b, Gone st.L (eraseO st.L jo) Fp b → Gone st.L L0 Fp b) →
      ∃ u w' ρ' Fp', ((execOp a.eval o).run P w = .ok (.value u) w' ∨ ((execOp a.eval o).run P w = .ok .skip w' ∧ u = undef)) ∧
        Mem ρ' g w' (st.add L0 (.row i.size (n + m) (comb f gg n))).L Fp' ∧ Frm ρ' g.G (st.add L0 (.row i.size (n + m) (comb f gg n))).fr a.tmps ∧ Same st (st.add L0 (.row i.size (n + m) (comb f gg n))) ρ ρ' ∧
        Marks g w' (st.add L0 (.row i.size (n + m) (comb f gg n))).L Fp' ms ∧ (SV.sl st.nx i.size 0 (n + m) (n + m) false).R ρ' g.G u := by
    intro A n cc f Fs0 L0 hxv hcy hlt hfit hS0 hnd0 hg0 hdj0 hL0 hk0 hgj
    obtain ⟨Fs1, hS1, hnd1, hg1, hj1⟩ := src_ok (P := P) hg.mem hz hy hsrc hcy
    obtain ⟨-, olds, gi, ho1, ho2, ho3, ho4, ho5⟩ := hS0
    obtain ⟨hl1, news, gj, hn1, hn2, hn3, hn4, hn5⟩ := hS1
    have hf0 := ho3 n w.drew (Nat.le_refl _) (fun _ => rfl)
    have hf1 := hn3 m w.drew (Nat.le_refl _) (fun _ => rfl)
    have e0 : olds.extract 0 (n * i.size) = olds := by rw [← ho1]; simp
    have e1 : news.extract 0 (m * i.size) = news := by rw [← hn1]; simp
    rw [e0] at hf0
    rw [e1] at hf1
    have hrun := run_append_new (ty := o.type) hu hi hzv hxt hl1 hf1 hf0 hlt hbytes hfit
    have hdisj : ∀ b ∈ Fs0, b ∉ Fs1 := by
      intro b hb hb1
      obtain ⟨j, ej, hj, hbj, hjn⟩ := hg1 b hb1
      cases hjo : jo with
      | none => rw [hjo] at hjn; exact hjn j ej hj rfl
      | some j' =>
        rw [hjo] at hjn
        by_cases hjj : j = j'
        · exact hdj0 b hb j' hjo (hjj ▸ hbj)
        · exact hjn j ej (Ents.mem_del.2 ⟨hj, hjj⟩) rfl
    obtain ⟨k1, k2, k3⟩ := hg.appendNew (P := P) (rest := Builtin.zeroCells zv.cells (grownCap w (n + m) cc e - (n + m))) (e := e) (L0 := L0) hfresh ho1 hn1 ho4 hn4
      (List.nodup_append.2 ⟨hnd0.sublist ho5, hnd1.sublist hn5, fun p hp q hq hpq => hdisj p (ho5.subset hp) (hpq ▸ hn5.subset hq)⟩)
      (fun b hb => by
        rcases List.mem_append.1 hb with hb | hb
        · exact hg0 b (ho5.subset hb)
        · exact hgj b (hg1 b (hn5.subset hb))) hL0 hk0
    refine ⟨_, _, _, _, .inl (hexec (by rw [hxv]; exact hrun)), k1, k2, Same.upd hfresh _ _ _, k3, ?_⟩
    have hge := grownCap_ge w (n + m) cc e
    simp only [SV.R, upd_same]
    exact ⟨_, _, rfl, Nat.le_refl _, hge, by simp, .inr (by simp), by rw [grownCap_size hzs ho1 hn1, Nat.zero_add]; exact Nat.le_refl _⟩
  -- nothing at all
  have nought : ∀ {A : Option Addr} {L0 : Ents} {f : Nat → SV}, a.eval x = .slice A 0 0 → cy → m = 0 → (∀ p ∈ L0, p ∈ st.L) → (L0.map (·.1)).Nodup →
      ∃ u w' ρ' Fp', ((execOp a.eval o).run P w = .ok (.value u) w' ∨ ((execOp a.eval o).run P w = .ok .skip w' ∧ u = undef)) ∧
        Mem ρ' g w' (st.add L0 (.row i.size 0 f)).L Fp' ∧ Frm ρ' g.G (st.add L0 (.row i.size 0 f)).fr a.tmps ∧ Same st (st.add L0 (.row i.size 0 f)) ρ ρ' ∧
        Marks g w' (st.add L0 (.row i.size 0 f)).L Fp' ms ∧ (SV.sl st.nx i.size 0 0 0 false).R ρ' g.G u := by
    intro A L0 f hxv hcy hm0 hL0 hk0
    subst hm0
    obtain ⟨Fs1, hS1, hnd1, hg1, hj1⟩ := src_ok (P := P) hg.mem hz hy hsrc hcy
    obtain ⟨hl1, news, gj, hn1, hn2, hn3, hn4, hn5⟩ := hS1
    have hf1 := hn3 0 w (Nat.le_refl _) (fun _ => rfl)
    have e1 : news.extract 0 (0 * i.size) = #[] := by simp
    rw [e1] at hf1
    have hrun := run_append_fit (w' := w) (ty := o.type) (A := A) (n := 0) (c := 0) hu hi hxt hl1 hf1 (Nat.le_refl _) (by cases A <;> rfl)
    obtain ⟨k1, k2, k3⟩ := hg.newEnt (w' := w) (v := (0, 0)) (e := .row i.size 0 f) (F' := []) hfresh hL0 hk0 (fun b hb => .inr rfl) (fun ρ' hρ _ => .inl ⟨rfl, by rw [hρ], rfl⟩) (by simp) (by simp) rfl rfl rfl
    refine ⟨_, _, _, _, .inl (hexec (by rw [hxv]; exact hrun)), k1, k2, Same.upd hfresh _ _ _, k3, ?_⟩
    simp only [SV.R, upd_same]
    exact ⟨A, 0, rfl, Nat.le_refl _, Nat.le_refl _, by simp, .inl rfl, by simp⟩
  split at h
  · -- nil
    rename_i n cc hxe
    simp only [Option.some.injEq, Prod.mk.injEq] at h
    obtain ⟨rfl, rfl, rfl⟩ := h
    obtain ⟨rfl, rfl, hcy, hfit⟩ := hc
    rw [hxe] at hx
    simp only [SV.R] at hx
    have hes := eraseO_sub (L := st.L) (jo := jo)
    by_cases hm0 : m = 0
    · have := nought (L0 := eraseO st.L jo) (f := gg) hx hcy hm0 hes.1 (hes.2 hg.mem.keys)
      subst hm0
      exact this
    · have hS0 : SrcAt P g.G w i.size (.slice none 0 0) 0 (fun _ => .any) [] := srcAt_blk (b := 0) (o := 0) (cs := #[]) (e := 0) (fr := (0, 0)) (gF := fun _ => []) (.inl rfl) (.inl rfl) (by simp) (by simp [flat])
      obtain ⟨u, w', ρ', Fp', q1, q2, q3, q4, q5, q6⟩ := grow (L0 := eraseO st.L jo) hx hcy (by omega) (by simpa using hfit) hS0 (by simp) (by simp) (by simp) hes.1 (hes.2 hg.mem.keys) (fun b h => h)
      have ec : comb (fun _ => SV.any) gg 0 = gg := by
        funext q; rw [comb_ge (Nat.zero_le _)]; rfl
      rw [ec] at q2 q3 q4 q5
      simp only [Nat.zero_add] at q2 q3 q4 q5 q6
      exact ⟨u, w', ρ', Fp', q1, q2, q3, q4, q5, q6⟩
  · -- a slice of the state's own
    rename_i k z off len cap ex hxe
    split at h <;> try (simp at h; done)
    rename_i z' n f hk
    split at h <;> try (simp at h; done)
    rename_i hcond2
    obtain ⟨rfl, rfl, rfl, hjk⟩ := hcond2
    simp only [Option.some.injEq, Prod.mk.injEq] at h
    obtain ⟨rfl, rfl, rfl⟩ := h
    obtain ⟨rfl, hcy, hfit⟩ := hc
    rw [hxe] at hx
    simp only [SV.R] at hx
    obtain ⟨A, cc, hxv, p1, p2, _, p4, p5⟩ := hx
    simp only [Nat.zero_mul, Nat.zero_add] at p4 p5
    have hmk := Ents.mem_of_get hk
    have hdel := Mem.del hg.mem k
    have hes := eraseO_sub (L := st.L.del k) (jo := jo)
    have hL0 : ∀ p ∈ eraseO (st.L.del k) jo, p ∈ st.L := fun p hp => (List.mem_filter.1 (hes.1 p hp)).1
    have hk0 := hes.2 hdel.keys
    have hnk : ∀ j ej, (j, ej) ∈ eraseO (st.L.del k) jo → j ≠ k := fun j ej hj => (Ents.mem_del.1 (hes.1 _ hj)).2
    have hgj : ∀ b, Gone st.L (eraseO st.L jo) Fp b → Gone st.L (eraseO (st.L.del k) jo) Fp b := by
      intro b hb
      refine hb.sub (fun p hp => ?_)
      cases jo with
      | none => exact (List.mem_filter.1 hp).1
      | some j => exact List.mem_filter.2 ⟨(List.mem_filter.1 (List.mem_filter.1 hp).1).1, (List.mem_filter.1 hp).2⟩
    have hdjk : ∀ b ∈ Fp k, ∀ j, jo = some j → b ∉ Fp j := by
      intro b hb j hj
      obtain ⟨Fs1, _, _, _, hj1⟩ := src_ok (P := P) hg.mem hz hy hsrc hcy
      obtain ⟨ej, hej⟩ := hj1 j hj
      exact hg.mem.dj k _ j ej hmk (Ents.mem_of_get hej) (fun hkj => hjk (by rw [hj, hkj])) b hb
    by_cases hc0 : cc = 0
    · have hl0 : len = 0 := by omega
      subst hl0
      subst hc0
      by_cases hm0 : m = 0
      · have := nought (L0 := eraseO (st.L.del k) jo) (f := comb f gg 0) hxv hcy hm0 hL0 hk0
        subst hm0
        exact this
      · have hS0 : SrcAt P g.G w i.size (.slice A 0 0) 0 f [] := srcAt_blk (b := 0) (o := 0) (cs := #[]) (e := 0) (fr := (0, 0)) (gF := fun _ => []) (.inl rfl) (.inl rfl) (by simp) (by simp [flat])
        exact grow (L0 := eraseO (st.L.del k) jo) hxv hcy (by omega) hfit hS0 (by simp) (by simp) (by simp) hL0 hk0 hgj
    · have hA := p4.resolve_left hc0
      subst hA
      rcases hg.mem.ent k _ hmk with ⟨_, h0, _⟩ | ⟨cur, et, fr, gi, hb, hcs, hwr, hns, hFp, hr⟩
      · rw [h0] at p5
        have : 0 < cc * i.size := Nat.mul_pos (by omega) hz
        omega
      have hnd := hg.mem.nd k _ hmk
      rw [hFp] at hnd
      have hgk : ∀ b ∈ Fp k, Gone st.L (eraseO (st.L.del k) jo) Fp b := fun b hb => ⟨k, _, hmk, hb, hnk⟩
      by_cases hroom : len + m ≤ cc
      · obtain ⟨Fs1, hS1, hnd1, hg1, hj1⟩ := src_ok (P := P) hg.mem hz hy hsrc hcy
        obtain ⟨hl1, news, gj, hn1, hn2, hn3, hn4, hn5⟩ := hS1
        have hf1 := hn3 m w (Nat.le_refl _) (fun _ => rfl)
        have e1 : news.extract 0 (m * i.size) = news := by rw [← hn1]; simp
        rw [e1] at hf1
        have hroomz : (len + m) * i.size ≤ cur.size := by
          have : (len + m) * i.size ≤ cc * i.size := Nat.mul_le_mul_right _ hroom
          omega
        obtain ⟨w', c', hst, hT, hs', hj'⟩ := run_storeCells_blk (P := P) (ρ k).1 (len * i.size) et fr news.toList 0 cur w hb hwr (by
          simp only [Array.length_toList, hn1, Nat.add_zero]; rw [← Nat.add_mul]; exact hroomz) hn2
        have hrun := run_append_fit (w' := w') (ty := o.type) (A := some ⟨(ρ k).1, 0, none⟩) hu hi hxt hl1 hf1 hroom (by
          show (storeCells (Addr.add ⟨(ρ k).1, 0, none⟩ (len * i.size)) news.toList).run P w = _
          rw [add_off, Nat.zero_add]; exact hst)
        have hdisj : ∀ b ∈ Fp k, b ∉ Fs1 := by
          intro b hb1 hb2
          obtain ⟨j, ej, hj, hbj, hjn⟩ := hg1 b hb2
          cases hjo : jo with
          | none => rw [hjo] at hjn; exact hjn j ej hj rfl
          | some j' =>
            rw [hjo] at hjn
            by_cases hjj : j = j'
            · exact hdjk b hb1 j' hjo (hjj ▸ hbj)
            · exact hjn j ej (Ents.mem_del.2 ⟨hj, hjj⟩) rfl
        obtain ⟨k1, k2, k3⟩ := hg.appendIn (L0 := eraseO (st.L.del k) jo) (s := (ρ k).2) hfresh hb hwr hcs hroomz hn1 hT hs' (fun j => by
            have := hj' j
            simp only [Array.length_toList, hn1, Nat.add_zero] at this
            rw [this]
            simp) hr hn4
          (by
            rw [← List.cons_append]
            refine List.nodup_append.2 ⟨hnd, hnd1.sublist hn5, fun p hp q hq hpq => ?_⟩
            exact hdisj p (by rw [hFp]; exact hp) (hpq ▸ hn5.subset hq))
          (fun x hx => by
            rw [← List.cons_append] at hx
            rcases List.mem_append.1 hx with hx | hx
            · exact hgk x (by rw [hFp]; exact hx)
            · exact hgj x (hg1 x (hn5.subset hx))) hL0 hk0
        refine ⟨_, _, _, _, .inl (hexec (by rw [hxv]; exact hrun)), k1, k2, Same.upd hfresh _ _ _, k3, ?_⟩
        simp only [SV.R, upd_same]
        exact ⟨_, cc, rfl, Nat.le_refl _, hroom, by simp, .inr (by simp), by simpa using p5⟩
      · refine grow (L0 := eraseO (st.L.del k) jo) (Fs0 := flat len gi) hxv hcy (by omega) hfit ?_ (List.nodup_cons.1 hnd).2 ?_ ?_ hL0 hk0 hgj
        · exact srcAt_blk (o := 0) (gF := gi) (.inr rfl) (.inr hb) (fun q hq => by have := hr q hq; simpa using this) (List.Sublist.refl _)
        · exact fun b hb => hgk b (by rw [hFp]; exact List.mem_cons_of_mem _ hb)
        · exact fun b hb => hdjk b (by rw [hFp]; exact List.mem_cons_of_mem _ hb)
  · -- a read-only slice without spare room
    rename_i z n f hxe
    split at h <;> try (simp at h; done)
    rename_i hzz
    subst hzz
    simp only [Option.some.injEq, Prod.mk.injEq] at h
    obtain ⟨rfl, rfl, rfl⟩ := h
    obtain ⟨hmn, hcy, hfit⟩ := hc
    rw [hxe] at hx
    simp only [SV.R, SV.C] at hx
    obtain ⟨_, _, A, cc, h1, h2, h3, h4⟩ := hx
    simp [one] at h1
    have hcc : cc = n := h3 trivial
    subst hcc
    have hes := eraseO_sub (L := st.L) (jo := jo)
    by_cases hm0 : m = 0
    · have hn0 : cc = 0 := by omega
      subst hn0
      have := nought (L0 := eraseO st.L jo) (f := comb f gg 0) h1 hcy hm0 hes.1 (hes.2 hg.mem.keys)
      subst hm0
      exact this
    · have hS0 : SrcAt P g.G w i.size (.slice A cc cc) cc f [] := by
        rcases h4 with h4 | ⟨b, oo, cs, e', fr, h4, h5, h6⟩
        · subst h4
          exact srcAt_blk (b := 0) (o := 0) (cs := #[]) (e := 0) (fr := (0, 0)) (gF := fun _ => []) (.inl rfl) (.inl rfl) (by simp) (by simp [flat])
        · refine srcAt_blk (gF := fun _ => []) (.inr h4) (.inr (hg.mem.bw _ _ (hg.mem.gb _ _ h5))) (fun k hk => SV.C_mono (Heap.le_refl _) _ _ _ _ (by simp) (h6 k hk)) ?_
          have : flat cc (fun _ => []) = [] := by simp [flat]
          rw [this]; exact List.Sublist.refl _
      exact grow (L0 := eraseO st.L jo) h1 hcy (by omega) hfit hS0 (by simp) (by simp) (by simp) hes.1 (hes.2 hg.mem.keys) (fun b h => h)
  · simp at h
end Go.Sym

/- copy, lengths, min and max, making a slice, strings and bytes, structs that are built. -/
set_option linter.unusedSimpArgs false
set_option linter.unusedVariables false
namespace Go.Sym

/-- A source that is only read. -/
def srcNC (L : Ents) (z : Nat) (x : SV) : Option (Prop × Nat × (Nat → SV) × Option Nat) :=
  match x with
  | .sl j z' off m cap _ => srcOf L z (.sl j z' off m cap false)
  | x => srcOf L z x

theorem srcNC_none {L : Ents} {z : Nat} {x : SV} {c : Prop} {m : Nat} {g : Nat → SV} {jo : Option Nat} (h : srcNC L z x = some (c, m, g, jo)) : jo = none := by
  unfold srcNC at h
  split at h
  · simp only [srcOf] at h
    split at h <;> try (simp at h; done)
    split at h <;> try (simp at h; done)
    simp at h
    exact h.2.2.2.symm
  · rename_i hne
    unfold srcOf at h
    split at h <;> try (simp at h; done)
    · split at h <;> simp at h; exact h.2.2.2.symm
    · exact absurd rfl (hne _ _ _ _ _ _)
    · simp at h; exact h.2.2.2.symm
    · split at h <;> simp at h; exact h.2.2.2.symm

theorem srcNC_ok {P : Program} {ρ : Nat → Nat × Nat} {g : Gh} {w : World} {L : Ents} {Fp : Nat → List Nat} (hm : Mem ρ g w L Fp) {z : Nat} (hz : 0 < z) {x : SV} {u : Value} (hx : x.R ρ g.G u) {c : Prop} {m : Nat} {gg : Nat → SV} {jo : Option Nat}
    (h : srcNC L z x = some (c, m, gg, jo)) (hc : c) : SrcAt P g.G w z u m gg [] := by
  have hj := srcNC_none h
  subst hj
  have key : ∀ {y : SV}, y.R ρ g.G u → srcOf L z y = some (c, m, gg, none) → SrcAt P g.G w z u m gg [] := by
    intro y hy hs
    obtain ⟨Fs, h1, h2, h3, _⟩ := src_ok (P := P) hm hz hy hs hc
    have : Fs = [] := by
      cases Fs with
      | nil => rfl
      | cons b l =>
        obtain ⟨i, e, hi, _, hn⟩ := h3 b (by simp)
        exact absurd rfl (hn i e hi)
    rwa [this] at h1
  unfold srcNC at h
  split at h
  · refine key ?_ h
    simp only [SV.R] at hx ⊢
    obtain ⟨A, cc, h1, h2, h3, _, h5⟩ := hx
    exact ⟨A, cc, h1, h2, h3, by simp, h5⟩
  · exact key hx h

def sCopy (P : Program) (st : St) (t : TypeId) (x y : SV) : Option (Prop × SV × St) :=
  match P.underlying t with
  | some (.slice e) => match P.info? e with
    | some i =>
      if 0 < i.size then
        match srcNC st.L i.size y with
        | some (cy, m, g, _) =>
          match x with
          | .sl k z off len _ _ =>
            match st.L.get k with
            | some (.row z' n f) =>
              if z = i.size ∧ z' = i.size then
                some (cy ∧ off + len ≤ n, .v (.int .i64 ((Nat.min m len : Nat) : Int)), { st with L := st.L.set k (.row i.size n (fun q => cond (Nat.ble off q && Nat.blt q (off + Nat.min m len)) (g (q - off)) (f q))) })
              else none
            | _ => none
          | _ => none
        | none => none
      else none
    | none => none
  | _ => none

theorem snd_copy {P : Program} {N : Nat} {o : Oper} {st st' : St} {t : TypeId} {ts : Array TypeId} {xs : Array Operand} {x y : Operand} {c : Prop} {r : SV} (ho : o.op = .call { callee := .builtin .copy, args := xs, argTypes := ts })
    (hxs : xs = #[x, y]) (hts : ts[0]? = some t) (h : sCopy P st t (st.ev x) (st.ev y) = some (c, r, st')) (hc : c) : Snd P N o st st' r := by
  subst hxs
  intro g a w ρ Fp ms hg
  have hx := frm_ev hg.frm x
  have hy := frm_ev hg.frm y
  unfold sCopy at h
  split at h <;> try (simp at h; done)
  rename_i e hu
  split at h <;> try (simp at h; done)
  rename_i i hi
  split at h <;> try (simp at h; done)
  rename_i hz
  split at h <;> try (simp at h; done)
  rename_i cy m gg jo hsrc
  split at h <;> try (simp at h; done)
  rename_i k z off len cap ex hxe
  split at h <;> try (simp at h; done)
  rename_i z' n f hk
  split at h <;> try (simp at h; done)
  rename_i hzz
  obtain ⟨rfl, rfl⟩ := hzz
  simp only [Option.some.injEq, Prod.mk.injEq] at h
  obtain ⟨rfl, rfl, rfl⟩ := h
  obtain ⟨hcy, hle⟩ := hc
  rw [hxe] at hx
  simp only [SV.R] at hx
  obtain ⟨A, cc, hxv, p1, p2, _, p4, p5⟩ := hx
  obtain ⟨hl1, news, gj, hn1, hn2, hn3, hn4, hn5⟩ := srcNC_ok (P := P) hg.mem hz hy hsrc hcy
  have hmk := Ents.mem_of_get hk
  have hcnt : Nat.min m len ≤ m := Nat.min_le_left _ _
  have hcnl : Nat.min m len ≤ len := Nat.min_le_right _ _
  have hf1 := hn3 (Nat.min m len) w hcnt (fun _ => rfl)
  have hgj : ∀ q, q < m → gj q = [] := by
    intro q hq
    have : (flat m gj) = [] := List.sublist_nil.1 hn5
    cases hgq : gj q with
    | nil => rfl
    | cons b l =>
      have : b ∈ flat m gj := mem_flat.2 ⟨q, hq, by rw [hgq]; simp⟩
      simp_all
  have hexec : ∀ {u : Value} {w' : World}, (Builtin.copy_ ts o.type #[a.eval x, a.eval y]).run P w = .ok u w' → (execOp a.eval o).run P w = .ok (.value u) w' := by
    intro u w' hr
    simp [execOp, ho, resolve, invoke, builtin, hr]
  by_cases hlen0 : Nat.min m len = 0
  · -- nothing is copied
    rw [hlen0] at hf1 ⊢
    have e1 : news.extract 0 (0 * i.size) = #[] := by simp
    rw [e1] at hf1
    have hL : (fun q => cond (Nat.ble off q && Nat.blt q (off + 0)) (gg (q - off)) (f q)) = f := by
      funext q
      have : (Nat.ble off q && Nat.blt q (off + 0)) = false := by
        rw [Bool.eq_false_iff]; intro hb
        simp only [Bool.and_eq_true, Nat.ble_eq, Nat.blt_eq] at hb
        omega
      rw [this]; rfl
    rw [hL]
    have hset : ∀ p ∈ st.L.set k (.row i.size n f), p ∈ st.L := by
      rintro ⟨j, ej⟩ hj
      rcases Ents.mem_set hj with ⟨rfl, rfl⟩ | ⟨h1, _⟩
      · exact hmk
      · exact h1
    refine ⟨.int .i64 ((0 : Nat) : Int), w, ρ, Fp, .inl (hexec ?_), hg.mem.sub (by rw [Ents.keys_set]; exact hg.mem.keys) hset, hg.frm, ⟨rfl, rfl, fun _ _ => rfl⟩, ⟨hg.marks.at_, hg.marks.nb, fun m hm j ej hj => hg.marks.nf m hm j ej (hset _ hj), hg.marks.nd⟩, by simp [SV.R]⟩
    rw [hxv]
    cases A <;> simp [Builtin.copy_, hts, run_underlying hu, hl1, hlen0, size_info hi, hf1, storeCells, goInt]
  · have hc0 : cc ≠ 0 := by omega
    have hA := p4.resolve_left hc0
    subst hA
    rcases hg.mem.ent k _ hmk with ⟨h0, _, _⟩ | ⟨cur, et, fr, gi, hb, hcs, hwr, hns, hFp, hr⟩
    · omega
    have hsz : (news.extract 0 (Nat.min m len * i.size)).size = Nat.min m len * i.size := by
      have : Nat.min m len * i.size ≤ m * i.size := Nat.mul_le_mul_right _ hcnt
      rw [Array.size_extract, hn1, Nat.min_eq_left this]; rfl
    have hroom : (off + Nat.min m len) * i.size ≤ cur.size := by
      have : (off + Nat.min m len) * i.size ≤ n * i.size := Nat.mul_le_mul_right _ (by omega)
      omega
    obtain ⟨w', c', hst, hT, hs', hj'⟩ := run_storeCells_blk (P := P) (ρ k).1 (off * i.size) et fr (news.extract 0 (Nat.min m len * i.size)).toList 0 cur w hb hwr (by
      simp only [Array.length_toList, hsz, Nat.add_zero]; rw [← Nat.add_mul]; exact hroom) (fun v hv => hn2 v (List.mem_of_mem_take (by simpa using hv)))
    have hj2 : ∀ j, c'[j]? = if off * i.size ≤ j ∧ j < off * i.size + Nat.min m len * i.size then news[j - off * i.size]? else cur[j]? := by
      intro j
      have := hj' j
      simp only [Array.length_toList, hsz, Nat.add_zero] at this
      rw [this]
      by_cases hin : off * i.size ≤ j ∧ j < off * i.size + Nat.min m len * i.size
      · rw [if_pos hin, if_pos hin]
        have : j - off * i.size < Nat.min m len * i.size := by omega
        have h2 : j - off * i.size < news.size := by
          have : Nat.min m len * i.size ≤ m * i.size := Nat.mul_le_mul_right _ hcnt
          omega
        simp [this, h2]
      · rw [if_neg hin, if_neg hin]
    let g' : Nat → List Nat := fun q => if off ≤ q ∧ q < off + Nat.min m len then [] else gi q
    have hsub : (flat n g').Sublist (flat n gi) := by
      refine flat_sublist (fun q _ => ?_)
      simp only [g']; split
      · exact List.nil_sublist _
      · exact List.Sublist.refl _
    have hnd := hg.mem.nd k _ hmk
    rw [hFp] at hnd
    have he : EntR ρ g.G g.S (World.H w') k (.row i.size n (fun q => cond (Nat.ble off q && Nat.blt q (off + Nat.min m len)) (gg (q - off)) (f q))) ((ρ k).1 :: flat n g') := by
      refine .inr ⟨c', et, fr, g', hT.blk, hs'.trans hcs, by rw [hs']; exact hwr, by rw [hs']; exact hns, rfl, fun q hq => ?_⟩
      by_cases hin : off ≤ q ∧ q < off + Nat.min m len
      · have hb1 : (Nat.ble off q && Nat.blt q (off + Nat.min m len)) = true := by simp only [Bool.and_eq_true, Nat.ble_eq, Nat.blt_eq]; exact hin
        show SV.C g.G (World.H w') (cond (Nat.ble off q && Nat.blt q (off + Nat.min m len)) (gg (q - off)) (f q)) i.size _ (g' q)
        rw [hb1]
        simp only [cond_true, g', hin, and_self, if_true]
        have h1 := hn4 (q - off) (by omega)
        rw [hgj (q - off) (by omega)] at h1
        refine C_congrZ (SV.C_mono (Heap.le_refl _) (H' := World.H w') _ _ _ _ (by simp) h1) (fun r hr => ?_)
        show c'[q * i.size + r]? = news[(q - off) * i.size + r]?
        have e1 : q * i.size = off * i.size + (q - off) * i.size := by rw [← Nat.add_mul]; congr 1; omega
        have e2 : (q - off) * i.size + r < Nat.min m len * i.size := by
          have : (q - off + 1) * i.size ≤ Nat.min m len * i.size := Nat.mul_le_mul_right _ (by omega)
          rw [Nat.add_mul, Nat.one_mul] at this; omega
        rw [hj2, if_pos (by omega)]
        congr 1; omega
      · have hb1 : (Nat.ble off q && Nat.blt q (off + Nat.min m len)) = false := by
          rw [Bool.eq_false_iff]; intro hb1
          simp only [Bool.and_eq_true, Nat.ble_eq, Nat.blt_eq] at hb1
          exact hin hb1
        show SV.C g.G (World.H w') (cond (Nat.ble off q && Nat.blt q (off + Nat.min m len)) (gg (q - off)) (f q)) i.size _ (g' q)
        rw [hb1]
        simp only [cond_false, g', hin, if_false]
        refine C_congrZ (SV.C_mono (Heap.le_refl _) (H' := World.H w') _ _ _ _ (fun b hb2 => hT.oth b (fun hbb => (List.nodup_cons.1 hnd).1 (hbb ▸ mem_flat.2 ⟨q, hq, hb2⟩))) (hr q hq)) (fun r hr => ?_)
        show c'[q * i.size + r]? = cur[q * i.size + r]?
        have : ¬ (off * i.size ≤ q * i.size + r ∧ q * i.size + r < off * i.size + Nat.min m len * i.size) := by
          intro hcon
          rcases Nat.lt_or_ge q off with h1 | h1
          · have : (q + 1) * i.size ≤ off * i.size := Nat.mul_le_mul_right _ h1
            rw [Nat.add_mul, Nat.one_mul] at this; omega
          · have h2 : off + Nat.min m len ≤ q := by omega
            have : (off + Nat.min m len) * i.size ≤ q * i.size := Nat.mul_le_mul_right _ h2
            rw [Nat.add_mul] at this; omega
        rw [hj2, if_neg this]
    obtain ⟨hM, hmkk⟩ := hg.turn hk hT (by rw [hFp]; simp) (by rw [hFp]; exact hsub.cons_cons _) he
    refine ⟨.int .i64 ((Nat.min m len : Nat) : Int), w', ρ, _, .inl (hexec ?_), hM, hg.frm, ⟨rfl, rfl, fun _ _ => rfl⟩, hmkk, by simp [SV.R]⟩
    rw [hxv]
    have hst' : (storeCells ⟨(ρ k).1, off * i.size, none⟩ (news.extract 0 (Nat.min m len * i.size)).toList).run P w = .ok () w' := hst
    simp only [Builtin.copy_, hts, List.getElem?_toArray, List.getElem?_cons_zero, List.getElem?_cons_succ, Sem.run_bind, run_underlying hu, Result.andThen_ok, hl1, size_info hi, hf1, hst', goInt, Sem.run_pure]

/-- A length. -/
def sLen (P : Program) (t : TypeId) (x : SV) : Option SV :=
  match P.underlying t, x with
  | some (.slice _), .sl _ _ _ n _ _ => some (.v (.int .i64 (n : Int)))
  | some (.slice _), .ro _ n _ _ => some (.v (.int .i64 (n : Int)))
  | some (.slice _), .v (.slice _ n _) => some (.v (.int .i64 (n : Int)))
  | some .string, .v (.string s) => some (.v (.int .i64 (s.size : Int)))
  | some (.array n _), _ => some (.v (.int .i64 (n : Int)))
  | _, _ => none

theorem snd_len {P : Program} {N : Nat} {o : Oper} {st : St} {t : TypeId} {ts : Array TypeId} {xs : Array Operand} {x : Operand} {r : SV} (ho : o.op = .call { callee := .builtin .len, args := xs, argTypes := ts })
    (hxs : xs = #[x]) (hts : ts[0]? = some t) (h : sLen P t (st.ev x) = some r) : Snd P N o st st r := by
  subst hxs
  refine Snd.pure fun ρ G a w hf => ?_
  have hx := frm_ev hf x
  have hexec : ∀ {u : Value}, (Builtin.len_ ts o.type #[a.eval x]).run P w = .ok u w → (execOp a.eval o).run P w = .ok (.value u) w := by
    intro u hr
    simp [execOp, ho, resolve, invoke, builtin, hr]
  unfold sLen at h
  split at h <;> (try (simp at h; done)) <;> simp only [Option.some.injEq] at h <;> subst h
  · rename_i hu hxe
    rw [hxe] at hx
    simp only [SV.R] at hx
    obtain ⟨A, cc, hx, _⟩ := hx
    exact ⟨_, hexec (by simp [Builtin.len_, hts, run_underlying hu, hx]; rfl), by simp [SV.R, goInt]⟩
  · rename_i hu hxe
    rw [hxe] at hx
    simp only [SV.R, SV.C] at hx
    obtain ⟨_, _, A, cc, hx, _⟩ := hx
    simp [one] at hx
    exact ⟨_, hexec (by simp [Builtin.len_, hts, run_underlying hu, hx]; rfl), by simp [SV.R, goInt]⟩
  · rename_i hu hxe
    rw [hxe] at hx
    simp only [SV.R] at hx
    exact ⟨_, hexec (by simp [Builtin.len_, hts, run_underlying hu, hx]; rfl), by simp [SV.R, goInt]⟩
  · rename_i hu hxe
    rw [hxe] at hx
    simp only [SV.R] at hx
    exact ⟨_, hexec (by simp [Builtin.len_, hts, run_underlying hu, hx]; rfl), by simp [SV.R, goInt]⟩
  · rename_i hu
    exact ⟨_, hexec (by simp [Builtin.len_, hts, run_underlying hu]; rfl), by simp [SV.R, goInt]⟩

def imin (x y : Int) : Int := if y < x then y else x
def imax (x y : Int) : Int := if y > x then y else x

def foldI (f : Int → Int → Int) (k : IntKind) : Int → List SV → Option Int
  | x, [] => some x
  | x, .v (.int k' y) :: r => if k = k' then foldI f k (f x y) r else none
  | _, _ => none

def sMinMax (f : Int → Int → Int) : List SV → Option SV
  | .v (.int k x) :: r => (foldI f k x r).map fun y => .v (.int k y)
  | _ => none

theorem run_fold2 {P : Program} {w : World} {f : Int → Int → Int} {F : Value → Value → Sem Value} (hF : ∀ k x y, (F (.int k x) (.int k y)).run P w = .ok (.int k (f x y)) w) {ρ : Nat → Nat × Nat} {G : Heap} {k : IntKind} :
    ∀ {l : List SV} {us : List Value} {x y : Int}, foldI f k x l = some y → SV.RL ρ G l us → (us.foldlM F (.int k x)).run P w = .ok (.int k y) w
  | [], us, x, y, h, hr => by
    simp only [SV.RL] at hr
    subst hr
    simp only [foldI, Option.some.injEq] at h
    subst h
    simp
  | s :: l, us, x, y, h, hr => by
    simp only [SV.RL] at hr
    obtain ⟨u, rest, rfl, h1, h2⟩ := hr
    unfold foldI at h
    split at h <;> try (simp at h; done)
    · rename_i hh; simp at hh
    · rename_i k' y' r heq
      split at h <;> try (simp at h; done)
      rename_i hk
      subst hk
      simp only [List.cons.injEq] at heq
      obtain ⟨rfl, rfl⟩ := heq
      simp only [SV.R] at h1
      subst h1
      simp only [List.foldlM_cons, Sem.run_bind, hF, Result.andThen_ok]
      exact run_fold2 hF h h2

theorem snd_min {P : Program} {N : Nat} {o : Oper} {st : St} {ts : Array TypeId} {xs : Array Operand} {r : SV} (ho : o.op = .call { callee := .builtin .min, args := xs, argTypes := ts }) (h : sMinMax imin (xs.toList.map st.ev) = some r) : Snd P N o st st r := by
  refine Snd.pure fun ρ G a w hf => ?_
  have hR := map_eval_RL hf xs.toList
  unfold sMinMax at h
  split at h <;> try (simp at h; done)
  rename_i k x l heq
  simp only [Option.map_eq_some_iff] at h
  obtain ⟨y, hy, rfl⟩ := h
  rw [heq] at hR
  simp only [SV.RL] at hR
  obtain ⟨u, rest, hur, h1, h2⟩ := hR
  simp only [SV.R] at h1
  subst h1
  have := run_fold2 (P := P) (w := w) (F := Builtin.min2) (fun k x y => by simp [Builtin.min2, imin]) hy h2
  refine ⟨.int k y, ?_, by simp [SV.R]⟩
  have e : (xs.map a.eval).toList = .int k x :: rest := by simpa using hur
  simp [execOp, ho, resolve, invoke, builtin, Builtin.min_, e, hur, this]

theorem snd_max {P : Program} {N : Nat} {o : Oper} {st : St} {ts : Array TypeId} {xs : Array Operand} {r : SV} (ho : o.op = .call { callee := .builtin .max, args := xs, argTypes := ts }) (h : sMinMax imax (xs.toList.map st.ev) = some r) : Snd P N o st st r := by
  refine Snd.pure fun ρ G a w hf => ?_
  have hR := map_eval_RL hf xs.toList
  unfold sMinMax at h
  split at h <;> try (simp at h; done)
  rename_i k x l heq
  simp only [Option.map_eq_some_iff] at h
  obtain ⟨y, hy, rfl⟩ := h
  rw [heq] at hR
  simp only [SV.RL] at hR
  obtain ⟨u, rest, hur, h1, h2⟩ := hR
  simp only [SV.R] at h1
  subst h1
  have := run_fold2 (P := P) (w := w) (F := Builtin.max2) (fun k x y => by simp [Builtin.max2, imax]) hy h2
  refine ⟨.int k y, ?_, by simp [SV.R]⟩
  have e : (xs.map a.eval).toList = .int k x :: rest := by simpa using hur
  simp [execOp, ho, resolve, invoke, builtin, Builtin.max_, e, hur, this]
end Go.Sym
