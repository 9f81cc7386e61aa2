/- Making a slice, strings and bytes, structs that are built. -/
import Derived.Test.YtjbbpacbfpbbcaaSD
import Derived.Test.YtjbbpacbfpbbcaaSC
set_option linter.all false
set_option linter.unusedSimpArgs false
set_option linter.unusedVariables false
set_option linter.deprecated false
set_option linter.unusedSimpArgs false
set_option linter.unusedVariables false
namespace Go.Sym

def zeroE (zv : Value) : SV := mkE (zv.cells.toList.map .v)

def sMake (P : Program) (st : St) (t : TypeId) (x y : SV) : Option (Prop × SV × St) :=
  match P.underlying t, x, y with
  | some (.slice e), .v (.int _ l), .v (.int _ c) => match P.info? e with
    | some i => match i.zero with
      | some zv =>
        if st.fresh = true ∧ 0 < i.size ∧ zv.cells.size = i.size ∧ okL (zv.cells.toList.map .v) = true then
          some (0 ≤ l ∧ l ≤ c ∧ c ≤ 281474976710656 ∧ i.bytes * c ≤ 281474976710656, .sl st.nx i.size 0 l.toNat c.toNat true, st.add st.L (.row i.size c.toNat (fun _ => zeroE zv)))
        else none
      | none => none
    | none => none
  | _, _, _ => none

theorem RL_v_CL {G H : Heap} : ∀ (l : List Value), (∀ v ∈ l, v.oneCell' = true) → SV.CL G H (l.map .v) (fun j => l[j]?) []
  | [], h => by simp [SV.CL]
  | x :: l, h => by
    simp only [List.map_cons, SV.CL]
    refine ⟨[], [], rfl, rfl, ?_, ?_⟩
    · simp only [SV.C]; exact ⟨trivial, by simp, h x (by simp), trivial⟩
    · have := RL_v_CL (G := G) (H := H) l (fun v hv => h v (by simp [hv]))
      simpa using this

theorem snd_make {P : Program} {N : Nat} {o : Oper} {st st' : St} {t : TypeId} {x y : Operand} {c : Prop} {r : SV} (ho : o.op = .makeSlice t x y) (h : sMake P st t (st.ev x) (st.ev y) = some (c, r, st')) (hc : c) : Snd P N o st st' r := by
  intro g a w ρ Fp ms hg
  have hx := frm_ev hg.frm x
  have hy := frm_ev hg.frm y
  unfold sMake at h
  split at h <;> try (simp at h; done)
  rename_i e kl l kc cc hu hxe hye
  split at h <;> try (simp at h; done)
  rename_i i hi
  split at h <;> try (simp at h; done)
  rename_i zv hzv
  split at h <;> try (simp at h; done)
  rename_i hcond
  obtain ⟨hfresh, hz, hzs, hok⟩ := hcond
  simp only [Option.some.injEq, Prod.mk.injEq] at h
  obtain ⟨rfl, rfl, rfl⟩ := h
  obtain ⟨h0, h1, h2, h3⟩ := hc
  rw [hxe] at hx; rw [hye] at hy
  simp only [SV.R] at hx hy
  have hone : ∀ v ∈ zv.cells.toList, v.oneCell' = true := by
    intro v hv
    have := List.all_eq_true.1 hok (.v v) (List.mem_map.2 ⟨v, hv, rfl⟩)
    exact this
  let cells : Array Value := (Array.range (cc.toNat * i.size)).map (zv.cells[· % zv.cells.size]!)
  have hcs : cells.size = cc.toNat * i.size := by simp [cells]
  have hcell : ∀ k q, k < cc.toNat → q < i.size → cells[k * i.size + q]? = zv.cells.toList[q]? := by
    intro k q hk hq
    have hlt : k * i.size + q < cc.toNat * i.size := by
      have : (k + 1) * i.size ≤ cc.toNat * i.size := Nat.mul_le_mul_right _ hk
      rw [Nat.add_mul, Nat.one_mul] at this; omega
    have e2 : (k * i.size + q) % zv.cells.size = q := by
      rw [hzs, Nat.mul_comm, Nat.mul_add_mod, Nat.mod_eq_of_lt hq]
    have hq' : q < zv.cells.size := by omega
    simp [cells, hlt, e2, hq', getElem!_pos]
  obtain ⟨k1, k2, k3⟩ := hg.newEnt (w' := w.alloc (.cells cells e)) (v := (w.heap.size, cells.size)) (e := .row i.size cc.toNat (fun _ => zeroE zv)) (F' := [w.heap.size]) hfresh (fun p hp => hp) hg.mem.keys
    (fun b hb => .inr (World.H_alloc_lt hb)) (fun ρ' hρ _ => by
      refine .inr ⟨cells, e, (0, 0), fun _ => [], by rw [hρ]; exact World.H_alloc_new, by rw [hρ], Or.inl rfl, by rw [hcs]; exact Nat.le_refl _, by rw [hρ]; simp [flat], fun k hk => ?_⟩
      have := C_mkE (RL_v_CL (G := g.G) (H := World.H (w.alloc (.cells cells e))) zv.cells.toList hone)
      simp only [List.length_map, Array.length_toList, hzs] at this
      exact C_congrZ this (fun q hq => hcell k q hk hq)) (by simp) (fun b hb => .inr (by simp at hb; omega)) rfl rfl rfl
  refine ⟨.slice (some ⟨w.heap.size, 0, none⟩) l.toNat cc.toNat, w.alloc (.cells cells e), _, _, .inl ?_, k1, k2, Same.upd hfresh _ _ _, k3, ?_⟩
  · have w1 : IntKind.i64.wrap l = l := wrap_i64 ⟨by omega, by omega⟩
    have w2 : IntKind.i64.wrap cc = cc := wrap_i64 ⟨by omega, by omega⟩
    have n1 : ¬ l < 0 := by omega
    have n2 : ¬ cc < 0 := by omega
    have n3 : ¬ cc < l := by omega
    have n4 : ¬ 281474976710656 < (i.bytes : Int) * cc := by omega
    by_cases hc0 : cc.toNat * i.size = 0
    · have hcells : cells = #[] := by
        apply Array.eq_empty_of_size_eq_zero; rw [hcs, hc0]
      simp [execOp, ho, hx, hy, Instr.makeSlice, run_underlying hu, asInt, asIntOf, typeInfo, hi, w1, w2, n1, n2, n3, n4, size_info hi, hc0, zeroValue, hzv, newRow, hcells]
      rw [show (Array.range 0) = #[] from by apply Array.ext'; simp, Array.map_empty]
    · simp [execOp, ho, hx, hy, Instr.makeSlice, run_underlying hu, asInt, asIntOf, typeInfo, hi, w1, w2, n1, n2, n3, n4, size_info hi, hc0, zeroValue, hzv, newRow, cells]
  · simp only [SV.R, upd_same]
    exact ⟨_, cc.toNat, rfl, by omega, Nat.le_refl _, fun _ => rfl, .inr (by simp), by simp [hcs]⟩

/-- A string as bytes in new memory. -/
def sToBytes (P : Program) (st : St) (src dst : TypeId) (x : SV) : Option (Prop × SV × St) :=
  match P.underlying src, P.underlying dst, x with
  | some .string, some (.slice e), .v (.string s) =>
    match P.underlying e with
    | some (.int .u8) => if st.fresh = true then some (True, .sl st.nx 1 0 s.size s.size false, st.add st.L (.row 1 s.size (fun k => .v (.int .u8 (strAt s k))))) else none
    | _ => none
  | _, _, _ => none

theorem snd_toBytes {P : Program} {N : Nat} {o : Oper} {st st' : St} {s d : TypeId} {x : Operand} {c : Prop} {r : SV} (ho : o.op = .convert s d x) (h : sToBytes P st s d (st.ev x) = some (c, r, st')) (hc : c) : Snd P N o st st' r := by
  intro g a w ρ Fp ms hg
  have hx := frm_ev hg.frm x
  unfold sToBytes at h
  split at h <;> try (simp at h; done)
  rename_i e str hs hd hxe
  split at h <;> try (simp at h; done)
  rename_i he
  split at h <;> try (simp at h; done)
  rename_i hfresh
  simp only [Option.some.injEq, Prod.mk.injEq] at h
  obtain ⟨rfl, rfl, rfl⟩ := h
  rw [hxe] at hx
  simp only [SV.R] at hx
  let cap := grownCap w str.size 0 e
  have hcap : str.size ≤ cap := grownCap_ge w str.size 0 e
  let cells : Array Value := (str.data.map fun b => Value.int .u8 b.toNat) ++ Array.replicate (cap - str.size) (.int .u8 0)
  have hcs : cells.size = cap := by
    have : str.data.size = str.size := rfl
    simp [cells, this]; omega
  let w1 := w.drew.alloc (.cells cells e)
  let w2 := w1.freeze ⟨w.heap.size, cells.size, none⟩ 1
  have hH1 : World.H w1 w.heap.size = some (.cells cells e) := World.H_alloc_new (w := w.drew)
  have hH2 : World.H w2 w.heap.size = some (.cells cells e (cells.size, cells.size + 1)) := by
    simp only [World.H] at hH1 ⊢
    simp only [w2, World.freeze]
    rw [if_neg (by omega)]
    simp only [Array.getElem?_modify, if_true, hH1, Option.map_some]
    simp
  have hHo : ∀ b, b < w.heap.size → World.H w2 b = World.H w b := by
    intro b hb
    have h1 : World.H w1 b = World.H w b := World.H_alloc_lt (w := w.drew) hb
    rw [← h1]
    simp only [World.H, w2, World.freeze]
    rw [if_neg (by omega)]
    simp only [Array.getElem?_modify]
    rw [if_neg (by omega)]
  obtain ⟨k1, k2, k3⟩ := hg.newEnt (w' := w2) (v := (w.heap.size, cells.size)) (e := .row 1 str.size (fun k => .v (.int .u8 (strAt str k)))) (F' := [w.heap.size]) hfresh (fun p hp => hp) hg.mem.keys
    (fun b hb => .inr (hHo b hb)) (fun ρ' hρ _ => by
      refine .inr ⟨cells, e, (cells.size, cells.size + 1), fun _ => [], by rw [hρ]; exact hH2, by rw [hρ], Or.inr (Nat.le_refl _), by rw [hcs]; omega, by rw [hρ]; simp [flat], fun k hk => ?_⟩
      simp only [SV.C, Nat.mul_one, Nat.add_zero]
      refine ⟨trivial, ?_, rfl, trivial⟩
      have hk' : k < str.data.size := hk
      simp only [cells, strAt]
      rw [Array.getElem?_append_left (by simpa using hk'), Array.getElem?_map, Array.getD_eq_getD_getElem?, Array.getElem?_eq_getElem hk']
      rfl) (by simp) (fun b hb => .inr (by simp at hb; omega)) (by simp [w2, w1, World.freeze]; rfl) (by simp [w2, w1, World.freeze]; rfl) (by simp [w2, w1, World.freeze])
  refine ⟨.slice (some ⟨w.heap.size, 0, none⟩) str.size cap, w2, _, _, .inl ?_, k1, k2, Same.upd hfresh _ _ _, k3, ?_⟩
  · have hsh : (w.drew.alloc (.cells cells e)).shape? w.heap.size = some (e, cells.size) := by
      have : (w.drew.alloc (.cells cells e)).heap[w.heap.size]? = some (.cells cells e) := hH1
      simp only [World.shape?, this]
    simp [execOp, ho, hx, convert, run_underlying hs, run_underlying hd, run_underlying he, Conv.stringToBytes, Question.forced, newRow, markStringish]
    have e0 : (Question.appendCap str.size 0 e).cut (w.tape w.drawn (Question.appendCap str.size 0 e)) = cap := rfl
    have e1 : (str.data.map fun b => Value.int .u8 b.toNat) ++ Array.replicate (cap - str.size) (.int .u8 0) = cells := rfl
    rw [e0, e1, hsh]
    simp [w2, w1]
  · simp only [SV.R, upd_same]
    exact ⟨_, cap, rfl, Nat.le_refl _, hcap, by simp, .inr (by simp), by rw [hcs]; omega⟩

/-- The byte of a value. -/
def SV.byte : SV → UInt8
  | .v (.int _ n) => UInt8.ofNat n.toNat
  | _ => 0

def strOf (m : Nat) (g : Nat → SV) : ByteArray := ⟨((List.range m).map fun k => (g k).byte).toArray⟩

def isSlV : SV → Bool
  | .sl _ _ _ _ _ _ => true
  | .ro _ _ _ _ => true
  | .v (.slice _ _ _) => true
  | _ => false

/-- Bytes as a string. -/
def sToString (P : Program) (st : St) (src dst : TypeId) (x : SV) : Option (Prop × SV) :=
  match P.underlying src, P.underlying dst with
  | some (.slice e), some .string =>
    match P.underlying e with
    | some (.int .u8) =>
      if isSlV x = true then
      match srcNC st.L 1 x with
      | some (cy, m, g, _) => some (cy ∧ ∀ k, k < m → ∃ n, g k = .v (.int .u8 n), .v (.string (strOf m g)))
      | none => none
      else none
    | _ => none
  | _, _ => none

theorem foldl_push : ∀ (l : List UInt8) (s : ByteArray), l.foldl (fun r b => r.push b) s = ⟨s.data ++ l.toArray⟩
  | [], s => by simp
  | b :: l, s => by
    rw [List.foldl_cons, foldl_push l]
    congr 1
    apply Array.ext'
    simp [ByteArray.push]

theorem snd_toString {P : Program} {N : Nat} {o : Oper} {st : St} {s d : TypeId} {x : Operand} {c : Prop} {r : SV} (ho : o.op = .convert s d x) (h : sToString P st s d (st.ev x) = some (c, r)) (hc : c) : Snd P N o st st r := by
  intro g a w ρ Fp ms hg
  have hx := frm_ev hg.frm x
  unfold sToString at h
  split at h <;> try (simp at h; done)
  rename_i e hs hd
  split at h <;> try (simp at h; done)
  rename_i he
  split at h <;> try (simp at h; done)
  rename_i hisl
  split at h <;> try (simp at h; done)
  rename_i cy m gg jo hsrc
  simp only [Option.some.injEq, Prod.mk.injEq] at h
  obtain ⟨rfl, rfl⟩ := h
  obtain ⟨hcy, hby⟩ := hc
  obtain ⟨hl1, news, gj, hn1, hn2, hn3, hn4, hn5⟩ := srcNC_ok (P := P) hg.mem (by omega) hx hsrc hcy
  have hf := hn3 m w (Nat.le_refl _) (fun _ => rfl)
  have e1 : news.extract 0 (m * 1) = news := by rw [← hn1]; simp
  rw [e1] at hf
  -- the bytes
  have hval : ∀ k, k < m → ∃ n, gg k = .v (.int .u8 n) ∧ news[k]? = some (.int .u8 n) := by
    intro k hk
    obtain ⟨n, hn⟩ := hby k hk
    have := hn4 k hk
    rw [hn] at this
    simp only [SV.C, Nat.mul_one, Nat.add_zero] at this
    exact ⟨n, hn, this.2.1⟩
  have hsl : ∃ A cc, a.eval x = .slice A m cc := by
    unfold srcNC at hsrc
    split at hsrc
    · rename_i hxe
      rw [hxe] at hx
      simp only [SV.R] at hx
      obtain ⟨A, cc, hxv, _⟩ := hx
      simp only [srcOf] at hsrc
      split at hsrc <;> try (simp at hsrc; done)
      split at hsrc <;> try (simp at hsrc; done)
      simp at hsrc
      exact ⟨A, cc, by rw [hxv, hsrc.2.1]⟩
    · unfold srcOf at hsrc
      split at hsrc <;> try (simp at hsrc; done)
      · rename_i hxe
        split at hsrc <;> try (simp at hsrc; done)
        simp at hsrc
        rw [hxe] at hx
        simp only [SV.R, SV.C] at hx
        obtain ⟨_, _, A, cc, h1, _⟩ := hx
        simp [one] at h1
        exact ⟨A, cc, by rw [h1, hsrc.2.1]⟩
      · rename_i hne _ _ _ _ _ _ _ hxe
        exact absurd hxe (hne _ _ _ _ _ _)
      · rename_i n cc hxe
        simp at hsrc
        rw [hxe] at hx
        simp only [SV.R] at hx
        have hn0 : n = 0 := hsrc.1.mpr hcy
        exact ⟨_, cc, by rw [hx, ← hsrc.2.1, hn0]⟩
      · rename_i str hxe
        rw [hxe] at hisl
        simp [isSlV] at hisl
  obtain ⟨A, cc, hxv⟩ := hsl
  have hstr : (Conv.bytesToString (.slice A m cc)).run P w = .ok (.string (strOf m gg)) w := by
    cases A with
    | none =>
      rw [hxv] at hf
      simp [Builtin.firstCells] at hf
      have hm0 : m = 0 := by
        have := hn1
        rw [hf] at this
        simp at this; omega
      subst hm0
      simp [Conv.bytesToString, strOf]
      rfl
    | some ad =>
      rw [hxv] at hf
      have hload : (loadCells ad m).run P w = .ok news w := by
        have : (Builtin.firstCells 1 m (.slice (some ad) m cc)) = loadCells ad (m * 1) := rfl
        rw [this, Nat.mul_one] at hf
        exact hf
      let ns : List Int := (List.range m).map fun k => match gg k with | .v (.int _ n) => n | _ => 0
      have hns : (ns.map (Value.int .u8)).toArray = news := by
        apply Array.ext_getElem?
        intro k
        by_cases hk : k < m
        · obtain ⟨n, h1, h2⟩ := hval k hk
          rw [h2]; simp [ns, hk, h1]
        · have : news.size = m := by omega
          simp [ns, hk, this]
      have := run_bytesToString (P := P) w ad m cc ns (by rw [hns]; exact hload)
      rw [this]
      congr 2
      have e : ns.foldl (fun r n => r.push (UInt8.ofNat n.toNat)) ByteArray.empty = (ns.map fun n => UInt8.ofNat n.toNat).foldl (fun r b => r.push b) ByteArray.empty := by
        generalize ns = l
        rw [List.foldl_map]
      rw [e, foldl_push]
      simp only [strOf, ByteArray.mk.injEq]
      apply Array.ext'
      simp only [ByteArray.empty, ns, List.map_map]
      simp
      intro k hk
      obtain ⟨n, h1, _⟩ := hval k hk
      simp [h1, SV.byte]
  refine ⟨.string (strOf m gg), w, ρ, Fp, .inl ?_, hg.mem, hg.frm, Same.refl _ _, hg.marks, by simp [SV.R]⟩
  rw [show execOp a.eval o = (do pure (.value (← convert s d (a.eval x))) : Sem Next) by simp only [execOp, ho]]
  rw [hxv]
  simp [convert, run_underlying hs, run_underlying hd, run_underlying he, hstr]
end Go.Sym

/- Structs and arrays that are built. -/
set_option linter.unusedSimpArgs false
set_option linter.unusedVariables false
namespace Go.Sym

def svFill (place : Nat → Option (Nat × Nat)) (cells : List SV) : List (Nat × SV) → Option (List SV)
  | [] => some cells
  | (i, x) :: rest =>
    match place i with
    | some (off, size) => if x.known = true ∧ x.cells.length = size ∧ off + size ≤ cells.length then svFill place (ovl cells off x.cells) rest else none
    | none => none

theorem fill_sv {ρ : Nat → Nat × Nat} {G : Heap} {place : Nat → Option (Nat × Nat)} : ∀ {parts : List (Nat × SV)} {ps : List (Nat × Value)} {cells cells' : List SV} {us : Array Value}, svFill place cells parts = some cells' →
    SV.RL ρ G cells us.toList → parts.map (·.1) = ps.map (·.1) → SV.RL ρ G (parts.map (·.2)) (ps.map (·.2)) → ∃ us', Instr.fill place us ps = some us' ∧ SV.RL ρ G cells' us'.toList
  | [], ps, cells, cells', us, h, hr, hi, hp => by
    simp only [svFill, Option.some.injEq] at h
    subst h
    cases ps with
    | nil => exact ⟨us, rfl, hr⟩
    | cons p ps => simp at hi
  | (i, x) :: parts, ps, cells, cells', us, h, hr, hi, hp => by
    cases ps with
    | nil => simp at hi
    | cons p ps =>
      obtain ⟨i', v⟩ := p
      simp only [List.map_cons, List.cons.injEq] at hi hp
      obtain ⟨rfl, hi⟩ := hi
      simp only [SV.RL] at hp
      obtain ⟨v', rest, hvr, hx, hrest⟩ := hp
      simp only [List.cons.injEq] at hvr
      obtain ⟨rfl, rfl⟩ := hvr
      unfold svFill at h
      split at h <;> try (simp at h; done)
      rename_i off size hpl
      split at h <;> try (simp at h; done)
      rename_i hcond
      have hcells := R_cells hcond.1 hx
      have hvl := SV.RL_length hcells
      have hul := SV.RL_length hr
      simp at hvl hul
      let us1 : Array Value := v.cells.zipIdx.foldl (fun cs (x : Value × Nat) => cs.setIfInBounds (off + x.2) x.1) us
      have hfold : us1 = (v.cells.toList.zipIdx 0).foldl (fun cs (x : Value × Nat) => cs.setIfInBounds (off + x.2) x.1) us := by
        simp [us1, ← Array.foldl_toList]
      obtain ⟨f1, f2⟩ := Great.foldl_set off v.cells.toList 0 us
      rw [← hfold] at f1 f2
      have hR1 : SV.RL ρ G (ovl cells off x.cells) us1.toList := by
        refine SV.RL_mk ?_ (fun j y hj => ?_)
        · rw [ovl_length (by omega)]; simp; omega
        · rw [ovl_get (by omega)] at hj
          have hf := f2 j
          simp only [Array.getElem?_toList, Array.length_toList, Nat.add_zero] at hf ⊢
          by_cases hin : off ≤ j ∧ j < off + x.cells.length
          · rw [if_pos hin] at hj
            rw [hf, if_pos (by omega)]
            obtain ⟨u, hu, hru⟩ := SV.RL_get hcells hj
            exact ⟨u, by simpa using hu, hru⟩
          · rw [if_neg hin] at hj
            rw [hf, if_neg (by omega)]
            obtain ⟨u, hu, hru⟩ := SV.RL_get hr hj
            exact ⟨u, by simpa using hu, hru⟩
      obtain ⟨us', h1, h2⟩ := fill_sv h hR1 hi hrest
      refine ⟨us', ?_, h2⟩
      simp only [Instr.fill, hpl]
      rw [if_neg (by simp; omega)]
      exact h1

def sBuild (P : Program) (t : TypeId) (parts : List (Nat × SV)) : Option SV :=
  match P.info? t, P.underlying t with
  | some it, some (.array _ e) =>
    match it.zero, P.info? e with
    | some z, some ie => (svFill (fun i => some (i * ie.size, ie.size)) (z.cells.toList.map .v) parts).map .agg
    | _, _ => none
  | some it, some (.struct fields) =>
    match it.zero, fields.toList.mapM (fun f => (P.info? f.type).map fun i => (f.offset, i.size)) with
    | some z, some places => (svFill (places.toArray[·]?) (z.cells.toList.map .v) parts).map .agg
    | _, _ => none
  | _, _ => none

theorem snd_build {P : Program} {N : Nat} {o : Oper} {st : St} {t : TypeId} {parts : Array (Nat × Operand)} {r : SV} (ho : o.op = .build t parts) (h : sBuild P t (parts.toList.map fun p => (p.1, st.ev p.2)) = some r) : Snd P N o st st r := by
  refine Snd.pure fun ρ G a w hf => ?_
  let ps := (parts.map fun p => (p.1, a.eval p.2)).toList
  have hps : ps = parts.toList.map fun p => (p.1, a.eval p.2) := by simp [ps]
  have hi : (parts.toList.map fun p => (p.1, st.ev p.2)).map (·.1) = ps.map (·.1) := by rw [hps]; simp [List.map_map, Function.comp_def]
  have hp : SV.RL ρ G ((parts.toList.map fun p => (p.1, st.ev p.2)).map (·.2)) (ps.map (·.2)) := by
    rw [hps]
    have := map_eval_RL hf (parts.toList.map (·.2))
    simpa [List.map_map, Function.comp_def] using this
  have fin : ∀ cells, P.built t ps = some cells → (execOp a.eval o).run P w = .ok (.value (.agg cells)) w := by
    intro cells hb
    have := run_build (P := P) w t (parts.map fun p => (p.1, a.eval p.2)) cells hb
    simp [execOp, ho, this]
  unfold sBuild at h
  split at h
  · rename_i it len e hit hu
    split at h <;> try (simp at h; done)
    rename_i z ie hz hie
    simp only [Option.map_eq_some_iff] at h
    obtain ⟨cs, h1, rfl⟩ := h
    obtain ⟨us', h2, h3⟩ := fill_sv (us := z.cells) h1 (RL_map_v _) hi hp
    refine ⟨.agg us', fin us' (by simp only [Program.built, hit, hu, hz, hie]; exact h2), ?_⟩
    simp only [SV.R]; exact ⟨us', rfl, h3⟩
  · rename_i it fields hit hu
    split at h <;> try (simp at h; done)
    rename_i z places hz hpl
    simp only [Option.map_eq_some_iff] at h
    obtain ⟨cs, h1, rfl⟩ := h
    obtain ⟨us', h2, h3⟩ := fill_sv (us := z.cells) h1 (RL_map_v _) hi hp
    refine ⟨.agg us', fin us' (by simp only [Program.built, hit, hu, hz, hpl]; exact h2), ?_⟩
    simp only [SV.R]; exact ⟨us', rfl, h3⟩
  · simp at h

/-! ### All operations in one -/

def slInfo (P : Program) (t : TypeId) : Bool := match P.underlying t with | some (.slice e) => (P.info? e).isSome | _ => true

/-- What an operation comes to, if this walk knows it: the condition, the value, the state. -/
def stepF (P : Program) (st : St) (o : Oper) : Option (Prop × SV × St) :=
  match o.op with
  | .move x => some (True, st.ev x, st)
  | .assign x => some (True, st.ev x, st)
  | .pick c a b => match st.ev c, st.ev a, st.ev b with
    | .v (.bool t), .v (.bool p), .v (.bool q) => some (True, .v (.bool (cond t p q)), st)
    | _, _, _ => none
  | .alloc t => sAlloc P st t
  | .box _ x => sBox st (st.ev x)
  | .build t parts => (sBuild P t (parts.toList.map fun p => (p.1, st.ev p.2))).map fun r => (True, r, st)
  | .buildSlice t len parts => sBuildSlice P st t len parts
  | .load t x => (sLoad P st.L t (st.ev x)).map fun r => (r.1, r.2, st)
  | .store t x y => (sStoreB P st t (st.ev x) (st.ev y)).map fun r => (r.1, .v undef, r.2)
  | .binOp op ty x y _ => (sBin P op ty (st.ev x) (st.ev y)).map fun r => (r.1, r.2, st)
  | .unOp op _ x => (sUn op (st.ev x)).map fun r => (r.1, r.2, st)
  | .convert s d x =>
    match sConv P s d (st.ev x) with
    | some r => some (r.1, r.2, st)
    | none => match sToString P st s d (st.ev x) with
      | some r => some (r.1, r.2, st)
      | none => sToBytes P st s d (st.ev x)
  | .makeFunc (.func f) xs cs => some (True, .fn f (xs.toList.map st.ev) (cs.toList.map st.ev), st)
  | .makeSlice t x y => sMake P st t (st.ev x) (st.ev y)
  | .slice t x lo hi mx => (sSlice P t (st.ev x) (lo.map st.ev) (hi.map st.ev) (mx.map st.ev)).bind fun r => if slInfo P t = true then some (r.1, r.2, st) else none
  | .fieldAddr t x f => (sFieldAddr P t (st.ev x) f).map fun r => (True, r, st)
  | .field t x f => match fieldOf P t f, st.ev x with
    | some fd, .agg cs => (sPart P fd.type cs fd.offset).map fun r => (True, r, st)
    | _, _ => none
  | .indexAddr t x i => (sIndexAddr P t (st.ev x) (st.ev i)).map fun r => (r.1, r.2, st)
  | .index t x i => (sIndex P t (st.ev x) (st.ev i)).map fun r => (r.1, r.2, st)
  | .extract x i => match st.ev x with
    | .tup vs => (vs[i]?).map fun r => (True, r, st)
    | _ => none
  | .call { callee := .builtin .len, args, argTypes } => match args.toList, argTypes[0]? with
    | [x], some t => (sLen P t (st.ev x)).map fun r => (True, r, st)
    | _, _ => none
  | .call { callee := .builtin .min, args, argTypes := _ } => (sMinMax imin (args.toList.map st.ev)).map fun r => (True, r, st)
  | .call { callee := .builtin .max, args, argTypes := _ } => (sMinMax imax (args.toList.map st.ev)).map fun r => (True, r, st)
  | .call { callee := .builtin .append, args, argTypes } => match args.toList with
    | [x, y] => sAppend P st argTypes (st.ev x) (st.ev y)
    | _ => none
  | .call { callee := .builtin .copy, args, argTypes } => match args.toList, argTypes[0]? with
    | [x, y], some t => sCopy P st t (st.ev x) (st.ev y)
    | _, _ => none
  | _ => none

theorem args2 {xs : Array Operand} {x y : Operand} (h : xs.toList = [x, y]) : xs = #[x, y] := by apply Array.ext'; simpa using h
theorem args1 {xs : Array Operand} {x : Operand} (h : xs.toList = [x]) : xs = #[x] := by apply Array.ext'; simpa using h

theorem stepF_nd {P : Program} {st : St} {o : Oper} {r : Prop × SV × St} (h : stepF P st o = some r) : ∀ c, o.op ≠ .defer c := by
  intro c hc
  rw [stepF, hc] at h
  simp at h

theorem stepF_ok {P : Program} {N : Nat} {st st' : St} {o : Oper} {c : Prop} {r : SV} (h : stepF P st o = some (c, r, st')) (hc : c) : Snd P N o st st' r := by
  unfold stepF at h
  split at h
  · rename_i x ho
    simp only [Option.some.injEq, Prod.mk.injEq] at h; obtain ⟨rfl, rfl, rfl⟩ := h
    exact snd_move (.inl ho)
  · rename_i x ho
    simp only [Option.some.injEq, Prod.mk.injEq] at h; obtain ⟨rfl, rfl, rfl⟩ := h
    exact snd_move (.inr ho)
  · rename_i cc a b ho
    split at h <;> try (simp at h; done)
    rename_i t p q h1 h2 h3
    simp only [Option.some.injEq, Prod.mk.injEq] at h; obtain ⟨rfl, rfl, rfl⟩ := h
    exact snd_pick ho h1 h2 h3
  · rename_i t ho; exact snd_alloc ho h hc
  · rename_i t x ho; exact snd_box ho h hc
  · rename_i t parts ho
    simp only [Option.map_eq_some_iff, Prod.mk.injEq] at h
    obtain ⟨r', h, rfl, rfl, rfl⟩ := h
    exact snd_build ho h
  · rename_i t len parts ho; exact snd_buildSlice ho h hc
  · rename_i t x ho
    simp only [Option.map_eq_some_iff, Prod.mk.injEq] at h
    obtain ⟨⟨c', r'⟩, h, rfl, rfl, rfl⟩ := h
    exact snd_load ho h hc
  · rename_i t x y ho
    simp only [Option.map_eq_some_iff, Prod.mk.injEq] at h
    obtain ⟨⟨c', r'⟩, h, rfl, rfl, rfl⟩ := h
    exact snd_storeB ho h hc
  · rename_i op ty x y yt ho
    simp only [Option.map_eq_some_iff, Prod.mk.injEq] at h
    obtain ⟨⟨c', r'⟩, h, rfl, rfl, rfl⟩ := h
    exact snd_bin ho h hc
  · rename_i op ty x ho
    simp only [Option.map_eq_some_iff, Prod.mk.injEq] at h
    obtain ⟨⟨c', r'⟩, h, rfl, rfl, rfl⟩ := h
    exact snd_un ho h hc
  · rename_i s d x ho
    split at h
    · rename_i r' h1
      simp only [Option.some.injEq, Prod.mk.injEq] at h; obtain ⟨rfl, rfl, rfl⟩ := h
      exact snd_conv ho h1 hc
    · split at h
      · rename_i r' h1
        simp only [Option.some.injEq, Prod.mk.injEq] at h; obtain ⟨rfl, rfl, rfl⟩ := h
        exact snd_toString ho h1 hc
      · exact snd_toBytes ho h hc
  · rename_i f xs cs ho
    simp only [Option.some.injEq, Prod.mk.injEq] at h; obtain ⟨rfl, rfl, rfl⟩ := h
    exact snd_makeFunc ho
  · rename_i t x y ho; exact snd_make ho h hc
  · rename_i t x lo hi mx ho
    simp only [Option.bind_eq_some_iff] at h
    obtain ⟨⟨c', r'⟩, h1, h2⟩ := h
    split at h2 <;> try (simp at h2; done)
    rename_i hinfo
    simp only [Option.some.injEq, Prod.mk.injEq] at h2; obtain ⟨rfl, rfl, rfl⟩ := h2
    exact snd_slice ho h1 hc (fun e he => by simp only [slInfo, he] at hinfo; exact hinfo)
  · rename_i t x f ho
    simp only [Option.map_eq_some_iff, Prod.mk.injEq] at h
    obtain ⟨r', h, rfl, rfl, rfl⟩ := h
    exact snd_fieldAddr ho h
  · rename_i t x f ho
    split at h <;> try (simp at h; done)
    rename_i fd cs h1 h2
    simp only [Option.map_eq_some_iff, Prod.mk.injEq] at h
    obtain ⟨r', h, rfl, rfl, rfl⟩ := h
    exact snd_field ho h1 h2 h
  · rename_i t x i ho
    simp only [Option.map_eq_some_iff, Prod.mk.injEq] at h
    obtain ⟨⟨c', r'⟩, h, rfl, rfl, rfl⟩ := h
    exact snd_indexAddr ho h hc
  · rename_i t x i ho
    simp only [Option.map_eq_some_iff, Prod.mk.injEq] at h
    obtain ⟨⟨c', r'⟩, h, rfl, rfl, rfl⟩ := h
    exact snd_index ho h hc
  · rename_i x i ho
    split at h <;> try (simp at h; done)
    rename_i vs h1
    simp only [Option.map_eq_some_iff, Prod.mk.injEq] at h
    obtain ⟨r', h, rfl, rfl, rfl⟩ := h
    exact snd_extract ho h1 h
  · rename_i args ts ho
    split at h <;> try (simp at h; done)
    rename_i x t h1 h2
    simp only [Option.map_eq_some_iff, Prod.mk.injEq] at h
    obtain ⟨r', h, rfl, rfl, rfl⟩ := h
    exact snd_len ho (args1 h1) h2 h
  · rename_i args ts ho
    simp only [Option.map_eq_some_iff, Prod.mk.injEq] at h
    obtain ⟨r', h, rfl, rfl, rfl⟩ := h
    exact snd_min ho h
  · rename_i args ts ho
    simp only [Option.map_eq_some_iff, Prod.mk.injEq] at h
    obtain ⟨r', h, rfl, rfl, rfl⟩ := h
    exact snd_max ho h
  · rename_i args ts ho
    split at h <;> try (simp at h; done)
    rename_i x y h1
    exact snd_append ho (args2 h1) h hc
  · rename_i args ts ho
    split at h <;> try (simp at h; done)
    rename_i x y t h1 h2
    exact snd_copy ho (args2 h1) h2 h hc
  · simp at h
end Go.Sym

/- The condition of a piece of code on an abstract state, by reckoning; that it suffices. -/
set_option linter.unusedSimpArgs false
set_option linter.unusedVariables false
namespace Go.Sym

def dstOk (N : Nat) : Option Tmp → Bool
  | some d => Nat.blt d N
  | none => true

/-- One operation. What the walk does not know stands as it is ('WPop'). -/
def VCop (P : Program) (r : Option Nat) (N : Nat) (o : Oper) (st : St) (K : St → Prop) : Prop :=
  match stepF P st o with
  | some (c, x, st') => match dstOk N o.dst with
    | true => c ∧ K (st'.put o.dst x)
    | false => False
  | none => WPop P r N o st K

/-- A region's operations in order. A guard on a bool that is not decided parts the way; it is decided from there on. -/
def VCops (P : Program) (r : Option Nat) (N : Nat) (ops : Array Oper) : List Nat → St → (St → Prop) → Prop
  | [], st, K => K st
  | i :: rest, st, K =>
    match ops[i]? with
    | none => VCops P r N ops rest st K
    | some o =>
      match o.guard with
      | none => VCop P r N o st (fun st' => VCops P r N ops rest st' K)
      | some (j, want) =>
        match (ops[j]?).bind (·.dst) with
        | none => False
        | some d =>
          match dget st.dec d with
          | some b => match b == want with
            | true => VCop P r N o st (fun st' => VCops P r N ops rest st' K)
            | false => match dstOk N o.dst with
              | true => VCops P r N ops rest (st.put o.dst (.v undef)) K
              | false => False
          | none => match fget st.fr d with
            | .v (.bool t) =>
              (t = want → VCop P r N o { st with dec := (d, want) :: st.dec } (fun st' => VCops P r N ops rest st' K)) ∧
              (t = !want → match dstOk N o.dst with
                | true => VCops P r N ops rest (St.put { st with dec := (d, !want) :: st.dec } o.dst (.v undef)) K
                | false => False)
            | _ => False

def VC (P : Program) (r : Option Nat) (N : Nat) : Code → St → (Exit → St → Prop) → Prop
  | .skip, st, Q => Q .normal st
  | .region id ops false, st, Q => VCops P r N ops (List.range ops.size) st (Q .normal)
  | .seq a b, st, Q => VC P r N a st (fun e st' => match e with | .normal => VC P r N b st' Q | e => Q e st')
  | .cond c a b, st, Q => match st.ev c with
    | .v (.bool t) => (t = true → VC P r N a st Q) ∧ (t = false → VC P r N b st Q)
    | _ => False
  | .block id c, st, Q => VC P r N c st (fun e st' => match e with | .exit id' => cond (Nat.beq id' id) (Q .normal st') (Q (.exit id') st') | e => Q e st')
  | .exit id, st, Q => Q (.exit id) st
  | .ret, st, Q => Q .ret st
  | c, st, Q => WP P r N c st Q

theorem WPop_mono {P : Program} {r : Option Nat} {N : Nat} {o : Oper} {st : St} {K K' : St → Prop} (h : ∀ s, K s → K' s) (hw : WPop P r N o st K) : WPop P r N o st K' := by
  intro g a w hg
  refine Oper.wpIn_mono (fun a' w' hh => ?_) (hw g a w hg)
  obtain ⟨g', st', h1, h2, h3⟩ := hh
  exact ⟨g', st', h1, h2, h _ h3⟩

theorem VCop_ok {P : Program} {r : Option Nat} {N : Nat} {o : Oper} {st : St} {K : St → Prop} (h : VCop P r N o st K) : WPop P r N o st K := by
  unfold VCop at h
  split at h
  · rename_i c x st' hs
    split at h
    · rename_i hd
      refine WPop_of_snd (stepF_ok hs h.1) (stepF_nd hs) (fun d hdd => ?_) h.2
      rw [hdd] at hd
      simp only [dstOk, Nat.blt_eq] at hd
      exact hd
    · exact h.elim
  · exact h

theorem Holds.dec {N : Nat} {st : St} {g : Gh} {a : Act} {w : World} (h : Holds N st g a w) {d : Nat} {b : Bool} (hb : a.tmps[d]? = some (.bool b)) : Holds N { st with dec := (d, b) :: st.dec } g a w := by
  obtain ⟨ρ, Fp, ms, hc⟩ := h
  refine ⟨ρ, Fp, ms, ⟨hc.mem, hc.frm, fun t b' hb' => ?_, hc.size, hc.defers, hc.marks, hc.base⟩⟩
  rw [dget_cons] at hb'
  by_cases hdt : d = t
  · subst hdt; simp at hb'; subst hb'; exact hb
  · simp only [hdt, if_false] at hb'; exact hc.dec t b' hb'

theorem Holds.undef {N : Nat} {st : St} {g : Gh} {a : Act} {w : World} (h : Holds N st g a w) {dst : Option Tmp} (hd : dstOk N dst = true) : Holds N (st.put dst (.v undef)) g (a.put dst Go.undef) w := by
  obtain ⟨ρ, Fp, ms, hc⟩ := h
  refine ⟨ρ, Fp, ms, hc.put hc.mem hc.frm (Same.refl _ _) hc.marks (fun d hdd => ?_) (by simp [SV.R])⟩
  rw [hdd] at hd
  simp only [dstOk, Nat.blt_eq] at hd
  exact hd

theorem slot_bool {ρ : Nat → Nat × Nat} {G : Heap} {fr : List (Nat × SV)} {tmps : Array Value} (h : Frm ρ G fr tmps) {d : Nat} {b : Bool} (hb : fget fr d = .v (.bool b)) : tmps[d]? = some (.bool b) := by
  have := h d
  rw [hb] at this
  simp only [SV.R, Array.getD_eq_getD_getElem?] at this
  cases ht : tmps[d]? with
  | none => rw [ht] at this; simp [Go.undef] at this
  | some u => rw [ht] at this; simp at this; rw [this]

theorem yielded_of {ops : Array Oper} {tmps : Array Value} {j d : Nat} {b : Bool} (hj : (ops[j]?).bind (·.dst) = some d) (hb : tmps[d]? = some (.bool b)) : yielded ops tmps j = some b := by
  simp [yielded, hj, hb]

/-- What stands behind an operation of the list. -/
def PostOps (P : Program) (N : Nat) (g : Gh) (K : St → Prop) : Exit → Act → World → Prop :=
  Post N g (fun e st' => (match e with | .normal => K st' | _ => False))

theorem Post_le {N : Nat} {g g' : Gh} {Q : Exit → St → Prop} (h : g.le g') {e : Exit} {a : Act} {w : World} (hp : Post N g' Q e a w) : Post N g Q e a w := by
  obtain ⟨g2, st', h1, h2, h3⟩ := hp
  exact ⟨g2, st', Gh.le_trans h h1, h2, h3⟩

theorem wpOpsIn_mono {F : Fence} {n : Nat} {P : Program} {ops : Array Oper} {Q Q' : Exit → Act → World → Prop} (hq : ∀ e a w, Q e a w → Q' e a w) : ∀ (l : List Nat) (a : Act) (w : World), wpOpsIn F n P ops Q l a w → wpOpsIn F n P ops Q' l a w
  | [], a, w, h => hq _ _ _ h
  | i :: rest, a, w, h => by
    rw [wpOpsIn_cons] at h ⊢
    have h1 : wpOpIn F n P ops Q i (wpOpsIn F n P ops Q' rest) a w := wpOpIn_mono (fun a w => wpOpsIn_mono hq rest a w) h
    unfold wpOpIn at h1 ⊢
    cases ho : ops[i]? with
    | none => simpa [ho] using h1
    | some o =>
      simp only [ho] at h1 ⊢
      split
      · rename_i hw
        simp only [hw, if_true] at h1
        refine ⟨h1.1, ?_⟩
        have h2 := h1.2
        generalize (o.semAt F.round a.eval).run P w = res at *
        cases res with
        | ok x w' =>
          cases x <;> simp only [Oper.uponIn] at h2 ⊢ <;>
            first
              | exact h2
              | exact ⟨h2.1, CallsIn.mono h2.2 (fun e w'' he => by
                  cases e
                  · exact he
                  · exact hq _ _ _ he
                  · obtain ⟨a0, w0, h0⟩ := he; exact ⟨a0, w0, hq _ _ _ h0⟩)⟩
              | exact ⟨h2.1, RoundIn.mono h2.2 (fun e w'' he => by
                  cases e
                  · exact he
                  · exact hq _ _ _ he
                  · obtain ⟨a0, w0, h0⟩ := he; exact ⟨a0, w0, hq _ _ _ h0⟩)⟩
        | halt x w' =>
          cases x <;> simp only [Oper.uponIn] at h2 ⊢ <;> first | exact h2 | exact hq _ _ _ h2
      · rename_i hw
        simp only [hw] at h1
        exact h1

theorem VCop_wpOp {P : Program} {r : Option Nat} {N : Nat} {ops : Array Oper} {i : Nat} {rest : List Nat} {o : Oper} {st : St} {K : St → Prop} {g : Gh} {a : Act} {w : World} (ho : ops[i]? = some o) (hw : Region.wanted o (yielded ops a.tmps) = true)
    (hg : Holds N st g a w) {K1 : St → Prop} (h : VCop P r N o st K1) (hK : ∀ g' st' a' w', Holds N st' g' a' w' → K1 st' → wpOpsIn (FW r) 0 P ops (PostOps P N g' K) rest a' w') : wpOpsIn (FW r) 0 P ops (PostOps P N g K) (i :: rest) a w := by
  have h1 := VCop_ok h g a w hg
  simp only [wpOpsIn, ho, hw, if_true]
  refine ⟨fun _ _ => trivial, ?_⟩
  have h2 := h1.2
  have hk : ∀ {a' : Act} {w' : World}, (∃ g' st', g.le g' ∧ Holds N st' g' a' w' ∧ K1 st') → wpOpsIn (FW r) 0 P ops (PostOps P N g K) rest a' w' := by
    rintro a' w' ⟨g', st', k1, k2, k3⟩
    exact wpOpsIn_mono (fun e a w hp => Post_le k1 hp) _ _ _ (hK g' st' a' w' k2 k3)
  generalize (o.semAt (FW r).round a.eval).run P w = res at *
  cases res with
  | ok x w' =>
    cases x <;> simp only [Oper.uponIn] at h2 ⊢ <;>
      first
        | exact hk h2
        | exact h2.elim
        | exact ⟨h2.1, CallsIn.mono h2.2 (fun e w'' he => by
            cases e
            · exact hk he
            · exact he.elim
            · obtain ⟨a0, w0, h0⟩ := he; exact h0.elim)⟩
        | exact ⟨h2.1, RowsIn.mono h2.2 (fun v w'' he => hk he)⟩
        | exact ⟨h2.1, RoundIn.mono h2.2 (fun e w'' he => by
            cases e
            · exact hk he
            · exact he.elim
            · obtain ⟨a0, w0, h0⟩ := he; exact h0.elim)⟩
  | halt x w' => cases x <;> simp only [Oper.uponIn] at h2 ⊢ <;> first | exact h2.elim | exact h2

theorem VCops_ok {P : Program} {r : Option Nat} {N : Nat} {ops : Array Oper} {K : St → Prop} : ∀ {l : List Nat} {st : St}, VCops P r N ops l st K → ∀ g a w, Holds N st g a w → wpOpsIn (FW r) 0 P ops (PostOps P N g K) l a w
  | [], st, h, g, a, w, hg => ⟨g, st, Gh.le_refl g, hg, h⟩
  | i :: rest, st, h, g, a, w, hg => by
    have next : ∀ {st1 : St} {o : Oper}, ops[i]? = some o → Region.wanted o (yielded ops a.tmps) = true → Holds N st1 g a w → VCop P r N o st1 (fun st' => VCops P r N ops rest st' K) → wpOpsIn (FW r) 0 P ops (PostOps P N g K) (i :: rest) a w :=
      fun ho hw hg1 hv => VCop_wpOp ho hw hg1 hv (fun g' st' a' w' hg' hv' => VCops_ok hv' g' a' w' hg')
    have skip : ∀ {st1 : St} {o : Oper}, ops[i]? = some o → Region.wanted o (yielded ops a.tmps) = false → Holds N st1 g a w → dstOk N o.dst = true → VCops P r N ops rest (st1.put o.dst (.v undef)) K → wpOpsIn (FW r) 0 P ops (PostOps P N g K) (i :: rest) a w := by
      intro st1 o ho hw hg1 hd hv
      simp only [wpOpsIn, ho, hw, Bool.false_eq_true, if_false]
      exact ⟨fun _ _ => trivial, VCops_ok hv g _ w (hg1.undef hd)⟩
    unfold VCops at h
    split at h
    · rename_i ho
      simp only [wpOpsIn, ho]
      exact VCops_ok h g a w hg
    · rename_i o ho
      split at h
      · rename_i hgd
        exact next ho (by simp [Region.wanted, hgd]) hg h
      · rename_i j want hgd
        split at h
        · exact h.elim
        · rename_i d hj
          have hyw : ∀ {b : Bool}, a.tmps[d]? = some (.bool b) → Region.wanted o (yielded ops a.tmps) = (b == want) := by
            intro b hb
            simp only [Region.wanted, hgd, yielded_of hj hb]
            cases b <;> cases want <;> rfl
          obtain ⟨ρ, Fp, ms, hc⟩ := id hg
          split at h
          · rename_i b hdec
            have hb := hc.dec d b hdec
            split at h
            · rename_i hbw
              exact next ho (by rw [hyw hb]; exact hbw) hg h
            · rename_i hbw
              split at h
              · rename_i hd
                exact skip ho (by rw [hyw hb]; exact hbw) hg hd h
              · exact h.elim
          · split at h
            · rename_i t hft
              have hb := slot_bool hc.frm hft
              by_cases htw : t = want
              · subst htw
                exact next ho (by rw [hyw hb]; simp) (hg.dec hb) (h.1 rfl)
              · have ht : t = !want := by cases t <;> cases want <;> simp_all
                have h2 := h.2 ht
                split at h2
                · rename_i hd
                  refine skip ho (by rw [hyw hb]; simp [htw]) (hg.dec (b := !want) (by rw [hb, ht])) hd h2
                · exact h2.elim
            · exact h.elim

theorem WP_mono {P : Program} {r : Option Nat} {N : Nat} {c : Code} {st : St} {Q Q' : Exit → St → Prop} (h : ∀ e s, Q e s → Q' e s) (hw : WP P r N c st Q) : WP P r N c st Q' := by
  intro g a w hg
  refine wpIn_mono (hw g a w hg) ?_
  rintro e a w ⟨g', st', h1, h2, h3⟩
  exact ⟨g', st', h1, h2, h _ _ h3⟩

theorem WP_seq {P : Program} {r : Option Nat} {N : Nat} {x y : Code} {st : St} {Q : Exit → St → Prop} (h : WP P r N x st (fun e st' => match e with | .normal => WP P r N y st' Q | e => Q e st')) : WP P r N (.seq x y) st Q := by
  intro g a w hg
  refine wpIn_seq (wpIn_mono (h g a w hg) ?_)
  rintro e a w ⟨g', st', h1, h2, h3⟩
  cases e with
  | normal => exact wpIn_mono (h3 g' a w h2) (fun e a w hp => Post_le h1 hp)
  | _ => exact ⟨g', st', h1, h2, h3⟩

theorem WP_cond {P : Program} {r : Option Nat} {N : Nat} {c : Operand} {x y : Code} {st : St} {Q : Exit → St → Prop} {t : Bool} (hc : st.ev c = .v (.bool t)) (h1 : t = true → WP P r N x st Q) (h2 : t = false → WP P r N y st Q) : WP P r N (.cond c x y) st Q := by
  intro g a w hg
  obtain ⟨ρ, Fp, ms, hcf⟩ := id hg
  have := frm_ev hcf.frm c
  rw [hc] at this
  simp only [SV.R] at this
  cases t with
  | true => exact wpIn_cond this (h1 rfl g a w hg)
  | false => exact wpIn_cond this (h2 rfl g a w hg)

theorem WP_block {P : Program} {r : Option Nat} {N : Nat} {id : Nat} {c : Code} {st : St} {Q : Exit → St → Prop} (h : WP P r N c st (fun e st' => match e with | .exit id' => cond (Nat.beq id' id) (Q .normal st') (Q (.exit id') st') | e => Q e st')) :
    WP P r N (.block id c) st Q := by
  intro g a w hg
  refine wpIn_block (wpIn_mono (h g a w hg) ?_)
  rintro e a w ⟨g', st', h1, h2, h3⟩
  cases e with
  | exit id' =>
    simp only [Exit.inBlock]
    by_cases hid : id' = id
    · subst hid
      have : Nat.beq id' id' = true := Nat.beq_refl id'
      rw [if_pos rfl]
      replace h3 : cond (Nat.beq id' id') (Q .normal st') (Q (.exit id') st') := h3
      rw [this] at h3
      exact ⟨g', st', h1, h2, h3⟩
    · have : Nat.beq id' id = false := by
        rw [Bool.eq_false_iff]; intro hb; exact hid (Nat.eq_of_beq_eq_true hb)
      rw [if_neg hid]
      replace h3 : cond (Nat.beq id' id) (Q .normal st') (Q (.exit id') st') := h3
      rw [this] at h3
      exact ⟨g', st', h1, h2, h3⟩
  | _ => exact ⟨g', st', h1, h2, h3⟩

theorem VC_ok {P : Program} {r : Option Nat} {N : Nat} : ∀ {c : Code} {st : St} {Q : Exit → St → Prop}, VC P r N c st Q → WP P r N c st Q
  | .skip, st, Q, h => fun g a w hg => wpIn_skip ⟨g, st, Gh.le_refl g, hg, h⟩
  | .region id ops false, st, Q, h => by
    intro g a w hg
    refine wpIn_region (wpOpsIn_mono ?_ _ _ _ (VCops_ok h g a w hg))
    rintro e a w ⟨g', st', h1, h2, h3⟩
    cases e with
    | normal => exact ⟨g', st', h1, h2, h3⟩
    | _ => exact h3.elim
  | .region id ops true, st, Q, h => h
  | .seq a b, st, Q, h => by
    refine WP_seq (WP_mono ?_ (VC_ok (c := a) h))
    intro e s hs
    cases e with
    | normal => exact VC_ok (c := b) hs
    | _ => exact hs
  | .cond c a b, st, Q, h => by
    unfold VC at h
    split at h
    · rename_i t hc
      exact WP_cond hc (fun ht => VC_ok (c := a) (h.1 ht)) (fun ht => VC_ok (c := b) (h.2 ht))
    · exact h.elim
  | .block id c, st, Q, h => WP_block (VC_ok (c := c) h)
  | .exit id, st, Q, h => fun g a w hg => wpIn_exit ⟨g, st, Gh.le_refl g, hg, h⟩
  | .ret, st, Q, h => fun g a w hg => wpIn_ret ⟨g, st, Gh.le_refl g, hg, h⟩
  | .loop c, st, Q, h => h
  | .rangeFunc f ps a b, st, Q, h => h
  | .scope c, st, Q, h => h
  | .label l, st, Q, h => h
  | .goto l, st, Q, h => h
  | .refuse s, st, Q, h => h
end Go.Sym

/- Weaker states, loops, contracts of functions, calls. -/
set_option linter.unusedSimpArgs false
set_option linter.unusedVariables false
namespace Go.Sym

/-- Whoever has the first state has the second. -/
def Le (N : Nat) (st st' : St) : Prop := ∀ g a w, Holds N st g a w → Holds N st' g a w

theorem Le.refl (N : Nat) (st : St) : Le N st st := fun _ _ _ h => h
theorem Le.trans {N : Nat} {a b c : St} (h : Le N a b) (k : Le N b c) : Le N a c := fun g x w hh => k g x w (h g x w hh)

theorem WP_le {P : Program} {r : Option Nat} {N : Nat} {c : Code} {st st' : St} {Q : Exit → St → Prop} (h : Le N st st') (hw : WP P r N c st' Q) : WP P r N c st Q := fun g a w hg => hw g a w (h g a w hg)

/-- A value that says less. -/
def SLe (x y : SV) : Prop := ∀ (ρ : Nat → Nat × Nat) (G : Heap) (u : Value), x.R ρ G u → y.R ρ G u
theorem SLe.refl (x : SV) : SLe x x := fun _ _ _ h => h
theorem SLe.of_eq {x y : SV} (h : x = y) : SLe x y := h ▸ SLe.refl x
theorem SLe.any (x : SV) : SLe x .any := fun _ _ _ _ => by simp [SV.R]
theorem SLe.v {x y : Value} (h : x = y) : SLe (.v x) (.v y) := h ▸ SLe.refl _
theorem SLe.ro {z n n' : Nat} {f f' : Nat → SV} {ex : Bool} (hn : n = n') (hf : ∀ k, k < n' → f k = f' k) : SLe (.ro z n f ex) (.ro z n' f' ex) := by
  subst hn
  intro ρ G u h
  simp only [SV.R, SV.C] at h ⊢
  obtain ⟨h1, h2, A, c, h3, h4, h5, h6⟩ := h
  refine ⟨h1, h2, A, c, h3, h4, h5, ?_⟩
  rcases h6 with h6 | ⟨b, o, cs, e, fr, h7, h8, h9⟩
  · exact .inl h6
  · exact .inr ⟨b, o, cs, e, fr, h7, h8, fun k hk => by rw [← hf k hk]; exact h9 k hk⟩
theorem SLe.rox {z n : Nat} {f : Nat → SV} {ex : Bool} : SLe (.ro z n f ex) (.ro z n f false) := by
  intro ρ G u h
  simp only [SV.R, SV.C] at h ⊢
  obtain ⟨h1, h2, A, c, h3, h4, h5, h6⟩ := h
  exact ⟨h1, h2, A, c, h3, h4, by simp, h6⟩
theorem SLe.sl {i z off off' len len' cap cap' : Nat} {ex : Bool} (ho : off = off') (hl : len = len') (hc : len' ≤ cap' ∧ cap' ≤ cap) : SLe (.sl i z off len cap ex) (.sl i z off' len' cap' false) := by
  subst ho hl
  intro ρ G u h
  simp only [SV.R] at h ⊢
  obtain ⟨A, c, h1, h2, h3, h4, h5, h6⟩ := h
  exact ⟨A, c, h1, by omega, by omega, by simp, h5, h6⟩
theorem SLe.slx {i z off off' len len' cap cap' : Nat} {ex : Bool} (ho : off = off') (hl : len = len') (hc : cap = cap') : SLe (.sl i z off len cap ex) (.sl i z off' len' cap' ex) := by
  subst ho hl hc; exact SLe.refl _

/-- All of a list, as one conjunction. -/
def AllP {α : Type} (p : α → Prop) : List α → Prop
  | [] => True
  | x :: xs => p x ∧ AllP p xs
theorem AllP.mem {α : Type} {p : α → Prop} : ∀ {l : List α}, AllP p l → ∀ x ∈ l, p x
  | [], h, x, hx => by simp at hx
  | y :: l, h, x, hx => by
    rcases List.mem_cons.1 hx with rfl | hx
    · exact h.1
    · exact AllP.mem h.2 x hx

def SLeL : List SV → List SV → Prop
  | _, [] => True
  | x :: xs, y :: ys => SLe x y ∧ SLeL xs ys
  | [], _ :: _ => False
theorem SLeL.get : ∀ {xs ys : List SV}, SLeL xs ys → ys.length ≤ xs.length ∧ ∀ (j : Nat) (y : SV), ys[j]? = some y → ∃ x, xs[j]? = some x ∧ SLe x y
  | xs, [], h => ⟨by simp, fun j y hj => by simp at hj⟩
  | [], y :: ys, h => h.elim
  | x :: xs, y :: ys, h => by
    obtain ⟨h1, h2⟩ := SLeL.get h.2
    refine ⟨by simp; exact h1, fun j z hj => ?_⟩
    cases j with
    | zero => simp at hj; subst hj; exact ⟨x, by simp, h.1⟩
    | succ j => simp at hj ⊢; exact h2 j z hj

def LSt.same : LSt → LSt → Prop
  | .ready, .ready => True
  | .busy, .busy => True
  | _, _ => False

theorem LSt.same_eq {s s' : LSt} (h : LSt.same s s') : s = s' := by cases s <;> cases s' <;> simp_all [LSt.same]

/-- An entry that says less. -/
def ELe : Ent → Ent → Prop
  | .var cs, .var ds => SLeL cs ds
  | .row z n f, .row z' n' f' => z = z' ∧ n = n' ∧ ∀ k, k < n' → f k = f' k
  | .rowo z n f k cs, .rowo z' n' f' k' ds => z = z' ∧ n = n' ∧ k = k' ∧ (∀ q, q < n' → f q = f' q) ∧ cs.length = ds.length ∧ SLeL cs ds
  | .lp fr s, .lp fr' s' => LSt.same s s' ∧ ∀ t, SLe (fget fr t) (fget fr' t)
  | _, _ => False

theorem ELe.ok {ρ : Nat → Nat × Nat} {G H : Heap} {S : Sts} {i : Nat} {e e' : Ent} {F : List Nat} (h : ELe e e') (hr : EntR ρ G S H i e F) : EntR ρ G S H i e' F := by
  cases e with
  | var cs =>
    cases e' with
    | var ds =>
      obtain ⟨c, e, fr, h1, h2, h3, h4, h5, h6⟩ := hr
      obtain ⟨k1, k2⟩ := SLeL.get h
      refine ⟨c, e, fr, h1, h2, h3, by omega, h5, fun j y hj => ?_⟩
      obtain ⟨x, hx, hle⟩ := k2 j y hj
      obtain ⟨u, hu, ho, hru⟩ := h6 j x hx
      exact ⟨u, hu, ho, hle _ _ _ hru⟩
    | row z n f => exact h.elim
    | rowo z n f k ds => exact h.elim
    | lp fr s => exact h.elim
  | rowo z n f k cs =>
    cases e' with
    | var ds => exact h.elim
    | row z n f => exact h.elim
    | lp fr s => exact h.elim
    | rowo z' n' f' k' ds =>
      obtain ⟨rfl, rfl, rfl, hf, hl, hcs⟩ := h
      obtain ⟨c, e, fr, g, h1, h2, h3, h4, h5, h6, h7, h8, h9, h10⟩ := hr
      obtain ⟨k1, k2⟩ := SLeL.get hcs
      refine ⟨c, e, fr, g, h1, h2, h3, h4, h5, h6, by omega, h8, fun q hq hne => by rw [← hf q hq]; exact h9 q hq hne, fun j y hj => ?_⟩
      obtain ⟨x, hx, hle⟩ := k2 j y hj
      obtain ⟨u, hu, ho, hru⟩ := h10 j x hx
      exact ⟨u, hu, ho, hle _ _ _ hru⟩
  | lp fr s =>
    cases e' with
    | var ds => exact h.elim
    | row z n f => exact h.elim
    | rowo z n f k ds => exact h.elim
    | lp fr' s' =>
      obtain ⟨hs, hf⟩ := h
      have := LSt.same_eq hs; subst this
      obtain ⟨r, h1, h2, h4, h5, h6, h7, h8, h9⟩ := hr
      exact ⟨r, h1, h2, h4, h5, h6, h7, fun t => hf t _ _ _ (h8 t), h9⟩
  | row z n f =>
    cases e' with
    | var ds => exact h.elim
    | rowo z n f k ds => exact h.elim
    | lp fr s => exact h.elim
    | row z' n' f' =>
      obtain ⟨rfl, rfl, hf⟩ := h
      rcases hr with h1 | ⟨c, e, fr, g, h1, h2, h3, h4, h5, h6⟩
      · exact .inl h1
      · exact .inr ⟨c, e, fr, g, h1, h2, h3, h4, h5, fun k hk => by rw [← hf k hk]; exact h6 k hk⟩

mutual
/-- Other ids. -/
def SV.ren (σ : Nat → Nat) : SV → SV
  | .ptr i off => .ptr (σ i) off
  | .elp i z k off => .elp (σ i) z k off
  | .sl i z off len cap ex => .sl (σ i) z off len cap ex
  | .fn f fs cs => .fn f (SV.renL σ fs) (SV.renL σ cs)
  | .agg cs => .agg (SV.renL σ cs)
  | .tup cs => .tup (SV.renL σ cs)
  | .v x => .v x
  | .ro z n f ex => .ro z n f ex
  | .rop cs => .rop cs
  | .own z n f => .own z n f
  | .any => .any
  | .yld i => .yld (σ i)
def SV.renL (σ : Nat → Nat) : List SV → List SV
  | [] => []
  | x :: xs => SV.ren σ x :: SV.renL σ xs
end

mutual
theorem SV.ren_R {σ : Nat → Nat} {ρ : Nat → Nat × Nat} {G : Heap} : ∀ (x : SV) (u : Value), (x.ren σ).R ρ G u ↔ x.R (fun i => ρ (σ i)) G u
  | .ptr i off, u => by simp [SV.ren, SV.R]
  | .elp i z k off, u => by simp [SV.ren, SV.R]
  | .sl i z off len cap ex, u => by simp [SV.ren, SV.R]
  | .fn f fs cs, u => by
    simp only [SV.ren, SV.R]
    constructor
    · rintro ⟨us, vs, h1, h2, h3⟩; exact ⟨us, vs, h1, (SV.renL_R fs _).1 h2, (SV.renL_R cs _).1 h3⟩
    · rintro ⟨us, vs, h1, h2, h3⟩; exact ⟨us, vs, h1, (SV.renL_R fs _).2 h2, (SV.renL_R cs _).2 h3⟩
  | .agg cs, u => by
    simp only [SV.ren, SV.R]
    constructor
    · rintro ⟨us, h1, h2⟩; exact ⟨us, h1, (SV.renL_R cs _).1 h2⟩
    · rintro ⟨us, h1, h2⟩; exact ⟨us, h1, (SV.renL_R cs _).2 h2⟩
  | .tup cs, u => by
    simp only [SV.ren, SV.R]
    constructor
    · rintro ⟨us, h1, h2⟩; exact ⟨us, h1, (SV.renL_R cs _).1 h2⟩
    · rintro ⟨us, h1, h2⟩; exact ⟨us, h1, (SV.renL_R cs _).2 h2⟩
  | .v x, u => by simp [SV.ren, SV.R]
  | .ro z n f ex, u => by simp [SV.ren, SV.R]
  | .rop cs, u => by simp [SV.ren, SV.R]
  | .own z n f, u => by simp [SV.ren, SV.R]
  | .any, u => by simp [SV.ren, SV.R]
  | .yld i, u => by simp [SV.ren, SV.R]
theorem SV.renL_R {σ : Nat → Nat} {ρ : Nat → Nat × Nat} {G : Heap} : ∀ (xs : List SV) (us : List Value), SV.RL ρ G (SV.renL σ xs) us ↔ SV.RL (fun i => ρ (σ i)) G xs us
  | [], us => by simp [SV.renL, SV.RL]
  | x :: xs, us => by
    simp only [SV.renL, SV.RL]
    constructor
    · rintro ⟨u, rest, h1, h2, h3⟩; exact ⟨u, rest, h1, (SV.ren_R x u).1 h2, (SV.renL_R xs rest).1 h3⟩
    · rintro ⟨u, rest, h1, h2, h3⟩; exact ⟨u, rest, h1, (SV.ren_R x u).2 h2, (SV.renL_R xs rest).2 h3⟩
end

theorem SV.renL_map (σ : Nat → Nat) : ∀ (xs : List SV), SV.renL σ xs = xs.map (SV.ren σ)
  | [] => rfl
  | x :: xs => by simp [SV.renL, SV.renL_map σ xs]

def frRen (σ : Nat → Nat) (fr : List (Nat × SV)) : List (Nat × SV) := fr.map (fun p => (p.1, p.2.ren σ))

theorem fget_frRen {σ : Nat → Nat} : ∀ {fr : List (Nat × SV)} {t : Nat}, fget (frRen σ fr) t = (fget fr t).ren σ
  | [], t => rfl
  | (d, x) :: r, t => by
    have := fget_frRen (σ := σ) (fr := r) (t := t)
    simp only [frRen, List.map_cons, fget] at this ⊢
    cases Nat.beq d t <;> simp_all [frRen]

def Ent.isLp : Ent → Bool
  | .lp _ _ => true
  | _ => false

def Ent.ren (σ : Nat → Nat) : Ent → Ent
  | .var cs => .var (SV.renL σ cs)
  | .row z n f => .row z n f
  | .rowo z n f k cs => .rowo z n f k (SV.renL σ cs)
  | .lp fr s => .lp (frRen σ fr) s

theorem frRen_R {σ : Nat → Nat} {ρ : Nat → Nat × Nat} {G : Heap} {fr : List (Nat × SV)} {tmps : Array Value} : Frm ρ G (frRen σ fr) tmps ↔ Frm (fun i => ρ (σ i)) G fr tmps := by
  constructor
  · intro h t; have := h t; rw [fget_frRen] at this; exact (SV.ren_R _ _).1 this
  · intro h t; rw [fget_frRen]; exact (SV.ren_R _ _).2 (h t)

theorem Ent.ren_R {σ : Nat → Nat} {ρ : Nat → Nat × Nat} {G H : Heap} {S : Sts} {i : Nat} {e : Ent} {F : List Nat} (hl : e.isLp = true → σ i = i) (h : EntR ρ G S H (σ i) (e.ren σ) F) : EntR (fun i => ρ (σ i)) G S H i e F := by
  cases e with
  | var cs =>
    obtain ⟨c, e, fr, h1, h2, h3, h4, h5, h6⟩ := h
    refine ⟨c, e, fr, h1, h2, h3, by rw [SV.renL_map] at h4; simpa using h4, h5, fun j x hj => ?_⟩
    obtain ⟨u, hu, ho, hr⟩ := h6 j (x.ren σ) (by rw [SV.renL_map]; simp [hj])
    exact ⟨u, hu, ho, (SV.ren_R x u).1 hr⟩
  | row z n f => exact h
  | rowo z n f k cs =>
    obtain ⟨c, e, fr, g, h1, h2, h3, h4, h5, h6, h7, h8, h9, h10⟩ := h
    refine ⟨c, e, fr, g, h1, h2, h3, h4, h5, h6, by rw [SV.renL_map] at h7; simpa using h7, h8, h9, fun j x hj => ?_⟩
    obtain ⟨u, hu, ho, hr⟩ := h10 j (x.ren σ) (by rw [SV.renL_map]; simp [hj])
    exact ⟨u, hu, ho, (SV.ren_R x u).1 hr⟩
  | lp fr s =>
    obtain ⟨r, h1, h2, h4, h5, h6, h7, h8, h9⟩ := h
    have hl := hl rfl
    exact ⟨r, h1, h2, by rw [← hl]; exact h4, by rw [← hl]; exact h5, by rw [← hl]; exact h6, by rw [← hl]; exact h7, frRen_R.1 h8, h9⟩

/-- A map of ids, by its rows; the rest stays. -/
def sg : List (Nat × Nat) → Nat → Nat
  | [], i => i
  | (a, b) :: l, i => cond (Nat.beq a i) b (sg l i)

/-- The rule by which a state is turned into another: slots may go, entries may go, ids may change (but those of the caller). -/
theorem Le.mk {N : Nat} {st st' : St} (σ : Nat → Nat) (hfr : AllP (fun p : Nat × SV => SLe (fget st.fr p.1) (p.2.ren σ)) st'.fr) (hL : AllP (fun p : Nat × Ent => ∃ e0, st.L.get (σ p.1) = some e0 ∧ ELe e0 (p.2.ren σ)) st'.L)
    (hnd : (st'.L.map (·.1)).Nodup ∧ (st'.L.map (fun p => σ p.1)).Nodup) (hlp : ∀ p ∈ st'.L, p.2.isLp = true → σ p.1 = p.1) (hdec : st'.dec = []) (hbase : st'.base = st.base ∧ ∀ i, i < st.base → σ i = i) : Le N st st' := by
  rintro g a w ⟨ρ, Fp, ms, hc⟩
  have hmem : ∀ i e, (i, e) ∈ st'.L → ∃ e0, (σ i, e0) ∈ st.L ∧ ELe e0 (e.ren σ) := by
    intro i e hi
    obtain ⟨e0, h1, h2⟩ := AllP.mem hL _ hi
    exact ⟨e0, Ents.mem_of_get h1, h2⟩
  have hinj : ∀ i e j e', (i, e) ∈ st'.L → (j, e') ∈ st'.L → i ≠ j → σ i ≠ σ j := by
    intro i e j e' hi hj hne heq
    have : ∀ (l : Ents), (l.map (fun p => σ p.1)).Nodup → (i, e) ∈ l → (j, e') ∈ l → i = j := by
      intro l
      induction l with
      | nil => intro _ h; simp at h
      | cons p l ih =>
        intro hn hi hj
        simp only [List.map_cons, List.nodup_cons] at hn
        rcases List.mem_cons.1 hi with hi2 | hi2
        · subst hi2
          rcases List.mem_cons.1 hj with hj2 | hj2
          · cases hj2; rfl
          · exact absurd (List.mem_map.2 ⟨(j, e'), hj2, heq.symm⟩ : σ i ∈ List.map (fun p : Nat × Ent => σ p.1) l) hn.1
        · rcases List.mem_cons.1 hj with hj2 | hj2
          · subst hj2
            exact absurd (List.mem_map.2 ⟨(i, e), hi2, heq⟩ : σ j ∈ List.map (fun p : Nat × Ent => σ p.1) l) hn.1
          · exact ih hn.2 hi2 hj2
    exact hne (this _ hnd.2 hi hj)
  refine ⟨fun i => ρ (σ i), fun i => Fp (σ i), ms, ⟨⟨hnd.1, ?_, ?_, ?_, ?_, hc.mem.gb, hc.mem.bw, hc.mem.os, hc.mem.out, hc.mem.tape⟩, ?_, ?_, hc.size, hc.defers, ⟨hc.marks.at_, hc.marks.nb, ?_, hc.marks.nd⟩, ?_⟩⟩
  · intro i e hi
    obtain ⟨e0, h1, h2⟩ := hmem i e hi
    exact Ent.ren_R (hlp _ hi) (h2.ok (hc.mem.ent _ _ h1))
  · intro i e hi
    obtain ⟨e0, h1, h2⟩ := hmem i e hi
    exact hc.mem.nd _ _ h1
  · intro i e hi
    obtain ⟨e0, h1, h2⟩ := hmem i e hi
    exact hc.mem.nb _ _ h1
  · intro i e j e' hi hj hne
    obtain ⟨e0, h1, h2⟩ := hmem i e hi
    obtain ⟨e1, k1, k2⟩ := hmem j e' hj
    exact hc.mem.dj _ _ _ _ h1 k1 (hinj i e j e' hi hj hne)
  · intro t
    have : ∀ (l : List (Nat × SV)), (∀ p ∈ l, SLe (fget st.fr p.1) (p.2.ren σ)) → SLe (fget st.fr t) ((fget l t).ren σ) := by
      intro l
      induction l with
      | nil => intro _; exact SLe.any _
      | cons p l ih =>
        intro h
        obtain ⟨d, x⟩ := p
        rw [fget_cons]
        by_cases hdt : d = t
        · subst hdt; simp only [if_true]; exact h (d, x) (by simp)
        · simp only [hdt, if_false]; exact ih (fun p hp => h p (by simp [hp]))
    exact (SV.ren_R _ _).1 (this _ (AllP.mem hfr) _ _ _ (hc.frm t))
  · rw [hdec]; intro t b h; simp [dget] at h
  · intro m hm i e hi
    obtain ⟨e0, h1, h2⟩ := hmem i e hi
    exact hc.marks.nf m hm _ _ h1
  · intro i hi
    rw [hbase.1] at hi
    show ρ (σ i) = _
    rw [hbase.2 i hi]
    exact hc.base i hi

theorem exists_min (p : Nat → Prop) (h : ∃ n, p n) : ∃ n, p n ∧ ∀ m, p m → n ≤ m := by
  obtain ⟨n, hn⟩ := h
  induction n using Nat.strongRecOn with
  | _ n ih =>
    by_cases hx : ∃ m, m < n ∧ p m
    · obtain ⟨m, h1, h2⟩ := hx
      exact ih m h1 h2
    · exact ⟨n, hn, fun m hm => Nat.le_of_not_lt (fun hlt => hx ⟨m, hlt, hm⟩)⟩

open Classical in
/-- A LOOP: a family of states that its rounds keep, and a measure that they lower. -/
theorem WP_loop {P : Program} {r : Option Nat} {N : Nat} {c : Code} {st : St} {Q : Exit → St → Prop} {X : Type} (I : X → St) (μ : X → Nat) (x0 : X) (h0 : Le N st (I x0))
    (round : ∀ x, WP P r N c (I x) (fun e st' => match e with | .normal => ∃ x', Le N st' (I x') ∧ μ x' < μ x | e => Q e st')) : WP P r N (.loop c) st Q := by
  intro g a w hg
  let Inv : Act → World → Prop := fun a w => ∃ g' x, g.le g' ∧ Holds N (I x) g' a w
  let pr : Act → World → Nat → Prop := fun a w n => ∃ g' x, g.le g' ∧ Holds N (I x) g' a w ∧ μ x = n
  have hpr : ∀ a w, Inv a w → ∃ n, pr a w n := fun a w ⟨g', x, h1, h2⟩ => ⟨μ x, g', x, h1, h2, rfl⟩
  let m : Act → World → Nat := fun a w => if h : ∃ n, pr a w n then Classical.choose (exists_min _ h) else 0
  refine wpIn_loop Inv m ⟨g, x0, Gh.le_refl g, h0 g a w hg⟩ ?_
  intro a w hI
  have hex := hpr a w hI
  have hm : m a w = Classical.choose (exists_min _ hex) := by simp only [m]; rw [dif_pos hex]
  obtain ⟨⟨g', x, h1, h2, h3⟩, _⟩ := Classical.choose_spec (exists_min _ hex)
  refine wpIn_mono (round x g' a w h2) ?_
  rintro e a' w' ⟨g2, st', k1, k2, k3⟩
  cases e with
  | normal =>
    obtain ⟨x', hle, hlt⟩ := k3
    have hI' : pr a' w' (μ x') := ⟨g2, x', Gh.le_trans h1 k1, hle g2 a' w' k2, rfl⟩
    refine ⟨⟨g2, x', Gh.le_trans h1 k1, hle g2 a' w' k2⟩, ?_⟩
    have hex' : ∃ n, pr a' w' n := ⟨_, hI'⟩
    have hm' : m a' w' = Classical.choose (exists_min _ hex') := by simp only [m]; rw [dif_pos hex']
    rw [hm, hm']
    have := (Classical.choose_spec (exists_min _ hex')).2 _ hI'
    omega
  | _ => exact ⟨g2, st', Gh.le_trans h1 k1, k2, k3⟩
end Go.Sym
