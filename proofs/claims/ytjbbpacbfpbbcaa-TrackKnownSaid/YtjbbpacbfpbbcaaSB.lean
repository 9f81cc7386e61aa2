/- Operations without memory: one function that gives their result on symbolic values, and its soundness. -/
import Derived.Test.YtjbbpacbfpbbcaaSA
import Derived.Laws.Tables
import Derived.Laws.Slices
import Derived.Laws.Cells
import Derived.Laws.Append
set_option linter.all false
set_option linter.unusedSimpArgs false
set_option linter.unusedVariables false
set_option linter.deprecated false
namespace Go.Sym

/-- What an operation does to a state: it gives the value x, and the state st' (ahead of the put). -/
def Snd (P : Program) (N : Nat) (o : Oper) (st st' : St) (x : SV) : Prop :=
  ∀ g a w ρ Fp ms, Cfg N st g a w ρ Fp ms → ∃ u w' ρ' Fp', ((execOp a.eval o).run P w = .ok (.value u) w' ∨ ((execOp a.eval o).run P w = .ok .skip w' ∧ u = undef)) ∧
    Mem ρ' g w' st'.L Fp' ∧ Frm ρ' g.G st'.fr a.tmps ∧ Same st st' ρ ρ' ∧ Marks g w' st'.L Fp' ms ∧ x.R ρ' g.G u

theorem Snd.pure {P : Program} {N : Nat} {o : Oper} {st : St} {x : SV} (h : ∀ (ρ : Nat → Nat × Nat) (G : Heap) (a : Act) (w : World), Frm ρ G st.fr a.tmps → ∃ u, (execOp a.eval o).run P w = .ok (.value u) w ∧ x.R ρ G u) :
    Snd P N o st st x := by
  intro g a w ρ Fp ms hc
  obtain ⟨u, h1, h2⟩ := h ρ g.G a w hc.frm
  exact ⟨u, w, ρ, Fp, .inl h1, hc.mem, hc.frm, Same.refl _ _, hc.marks, h2⟩

theorem WPop_of_snd {P : Program} {r : Option Nat} {N : Nat} {o : Oper} {st st' : St} {x : SV} {K : St → Prop} (h : Snd P N o st st' x) (hnd : ∀ c, o.op ≠ .defer c) (hd : ∀ d, o.dst = some d → d < N)
    (hK : K (st'.put o.dst x)) : WPop P r N o st K := by
  rintro g a w ⟨ρ, Fp, ms, hc⟩
  obtain ⟨u, w', ρ', Fp', h1, h2, h3, h4, h5, h6⟩ := h g a w ρ Fp ms hc
  refine ⟨fun _ _ => trivial, ?_⟩
  rw [Oper.semAt_eq _ _ _ hnd]
  have hn : ∃ g' st'', g.le g' ∧ Holds N st'' g' (a.put o.dst u) w' ∧ K st'' := ⟨g, _, Gh.le_refl g, ⟨ρ', Fp', ms, hc.put h2 h3 h4 h5 hd h6⟩, hK⟩
  rcases h1 with h1 | ⟨h1, rfl⟩
  · rw [h1]; exact hn
  · rw [h1]; exact hn

/-- The cells of a value. -/
def SV.cells : SV → List SV
  | .agg cs => cs
  | .v x => x.cells.toList.map .v
  | s => [s]

/-- The cells of a row's element. -/
def SV.elems : SV → List SV
  | .agg cs => cs
  | s => [s]

def SV.known : SV → Bool
  | .any => false
  | _ => true

theorem R_cells {ρ : Nat → Nat × Nat} {G : Heap} {x : SV} {u : Value} (hk : x.known = true) (h : x.R ρ G u) : SV.RL ρ G x.cells u.cells.toList := by
  have single : ∀ {y : SV} {v : Value}, y.R ρ G v → v.cells = #[v] → SV.RL ρ G [y] v.cells.toList := by
    intro y v hy hv
    rw [hv]; simp only [SV.RL]; exact ⟨v, [], rfl, hy, rfl⟩
  cases x with
  | v x =>
    simp only [SV.R] at h
    subst h
    simp only [SV.cells]
    induction u.cells.toList with
    | nil => simp [SV.RL]
    | cons y ys ih => simp only [List.map_cons, SV.RL]; exact ⟨y, ys, rfl, by simp [SV.R], ih⟩
  | ptr i off => have h' := h; simp only [SV.R] at h'; exact single h (by rw [h']; rfl)
  | yld i => have h' := h; simp only [SV.R] at h'; exact single h (by rw [h']; rfl)
  | elp i z k off => have h' := h; simp only [SV.R] at h'; exact single h (by rw [h']; rfl)
  | sl i z off len cap ex => have h' := h; simp only [SV.R] at h'; obtain ⟨a, c, h', _⟩ := h'; exact single h (by rw [h']; rfl)
  | ro z n f ex =>
    have h' := h
    simp only [SV.R, SV.C] at h'
    obtain ⟨_, _, A, c, h', _⟩ := h'
    simp [one] at h'
    exact single h (by rw [h']; rfl)
  | rop cs => have h' := h; simp only [SV.R] at h'; obtain ⟨b, o, c, e, fr, h', _⟩ := h'; exact single h (by rw [h']; rfl)
  | own z n f => simp [SV.R] at h
  | fn f fs cs => have h' := h; simp only [SV.R] at h'; obtain ⟨us, vs, h', _⟩ := h'; exact single h (by rw [h']; rfl)
  | agg cs => simp only [SV.R] at h; obtain ⟨us, rfl, h⟩ := h; exact h
  | tup vs => have h' := h; simp only [SV.R] at h'; obtain ⟨us, h', _⟩ := h'; exact single h (by rw [h']; rfl)
  | any => simp [SV.known] at hk

theorem CL_drop {G H : Heap} : ∀ (n : Nat) (xs : List SV) (rd : Rd), SV.CL G H xs rd [] → SV.CL G H (xs.drop n) (fun j => rd (n + j)) []
  | 0, xs, rd, h => by simpa using h
  | n + 1, [], rd, h => by simp [SV.CL]
  | n + 1, x :: xs, rd, h => by
    simp only [SV.CL] at h
    obtain ⟨F1, F2, h0, hna, h1, h2⟩ := h
    obtain ⟨rfl, rfl⟩ := List.append_eq_nil_iff.1 h0.symm
    have := CL_drop n xs _ h2
    simp only [List.drop_succ_cons]
    simpa [Nat.add_assoc, Nat.add_comm 1] using this

def sUn (op : UnOp) (x : SV) : Option (Prop × SV) :=
  match op, x with
  | .not, .v (.bool b) => some (True, .v (.bool (!b)))
  | .neg, .v (.int k n) => some (fitC k (0 - n), .v (.int k (fitV k (0 - n))))
  | .xor, .v (.int k n) => some (True, .v (.int k (bitsOp .xor k (if k.signed then -1 else k.max) n)))
  | _, _ => none

def sConv (P : Program) (src dst : TypeId) (x : SV) : Option (Prop × SV) :=
  match P.underlying src, P.underlying dst, x with
  | some _, some (.int k), .v (.int _ n) => some (fitC k n, .v (.int k (fitV k n)))
  | some .string, some .string, .v (.string s) => some (True, .v (.string s))
  | _, _, _ => none

def fieldOf (P : Program) (t : TypeId) (f : Nat) : Option Field :=
  match P.underlying t with
  | some (.struct fs) => fs[f]?
  | _ => none

def isAggT (P : Program) (t : TypeId) : Option Bool :=
  match P.underlying t with
  | some (.struct _) => some true
  | some (.array _ _) => some true
  | some _ => some false
  | none => none

/-- A part of some cells: an aggregate of the type's size, or one cell. -/
def sPart (P : Program) (t : TypeId) (cs : List SV) (off : Nat) : Option SV :=
  match isAggT P t, P.info? t with
  | some true, some i => if off + i.size ≤ cs.length then some (.agg ((cs.drop off).take i.size)) else none
  | some false, some _ => cs[off]?
  | _, _ => none

def sFieldAddr (P : Program) (s : TypeId) (x : SV) (f : Nat) : Option SV :=
  match fieldOf P s f with
  | some fd => match P.info? fd.type with
    | some i => if i.size = 0 then none else
      match x with
      | .ptr j off => some (.ptr j (off + fd.offset))
      | .elp j z k off => some (.elp j z k (off + fd.offset))
      | .rop cs => some (.rop (cs.drop fd.offset))
      | _ => none
    | none => none
  | none => none

def sIndexAddr (P : Program) (t : TypeId) (x : SV) (ix : SV) : Option (Prop × SV) :=
  match P.underlying t, ix with
  | some (.slice e), .v (.int _ n) =>
    match P.info? e with
    | some i =>
      match x with
      | .sl j z off len _ _ => if z = i.size then some (0 ≤ n ∧ n < len, .elp j z (off + n.toNat) 0) else none
      | .ro z m f _ => if z = i.size then some (0 ≤ n ∧ n < m, .rop (f n.toNat).elems) else none
      | _ => none
    | none => none
  | some (.array len e), .v (.int _ n) =>
    match P.info? e with
    | some i =>
      match x with
      | .ptr j off => some (0 ≤ n ∧ n < len, .ptr j (off + n.toNat * i.size))
      | _ => none
    | none => none
  | _, _ => none

def strAt (s : ByteArray) (n : Nat) : Int := ((s.data.getD n 0).toNat : Int)

def sIndex (P : Program) (t : TypeId) (x : SV) (ix : SV) : Option (Prop × SV) :=
  match P.underlying t, x, ix with
  | some .string, .v (.string s), .v (.int _ n) => some (0 ≤ n ∧ n < s.size, .v (.int .u8 (strAt s n.toNat)))
  | some (.array len e), .agg cs, .v (.int _ n) =>
    match P.info? e with
    | some i => (sPart P e cs (n.toNat * i.size)).map fun y => (0 ≤ n ∧ n < len, y)
    | none => none
  | _, _, _ => none

theorem C_elems {G H : Heap} {x : SV} {z : Nat} {rd : Rd} (h : x.C G H z rd []) : SV.CL G H x.elems rd [] := by
  cases x with
  | agg cs => simp only [SV.C] at h; exact h.2
  | _ =>
    first
      | (simp only [SV.C] at h; done)
      | (have hz : z = 1 := by
           have h' := h
           simp only [SV.C] at h'
           exact h'.1
         subst hz
         exact ⟨[], [], rfl, rfl, h, rfl⟩)

theorem size_info {P : Program} {t : TypeId} {i : TypeInfo} (h : P.info? t = some i) (w : World) : (sizeOf t).run P w = .ok i.size w := by simp [sizeOf, typeInfo, h]

theorem snd_of_run {P : Program} {N : Nat} {o : Oper} {st : St} {x : SV} {s : (Operand → Value) → Sem Value} (ho : ∀ ρ, execOp ρ o = (do pure (.value (← s ρ)) : Sem Next))
    (h : ∀ (ρ : Nat → Nat × Nat) (G : Heap) (a : Act) (w : World), Frm ρ G st.fr a.tmps → ∃ u, (s a.eval).run P w = .ok u w ∧ x.R ρ G u) : Snd P N o st st x := by
  refine Snd.pure fun ρ G a w hf => ?_
  obtain ⟨u, h1, h2⟩ := h ρ G a w hf
  exact ⟨u, by rw [ho]; simp [h1], h2⟩

theorem snd_move {P : Program} {N : Nat} {o : Oper} {st : St} {x : Operand} (ho : o.op = .move x ∨ o.op = .assign x) : Snd P N o st st (st.ev x) := by
  refine Snd.pure fun ρ G a w hf => ⟨a.eval x, ?_, frm_ev hf x⟩
  rcases ho with ho | ho <;> simp [execOp, ho]

theorem snd_pick {P : Program} {N : Nat} {o : Oper} {st : St} {c a b : Operand} {t p q : Bool} (ho : o.op = .pick c a b) (hc : st.ev c = .v (.bool t)) (ha : st.ev a = .v (.bool p)) (hb : st.ev b = .v (.bool q)) :
    Snd P N o st st (.v (.bool (cond t p q))) := by
  refine Snd.pure fun ρ G ac w hf => ⟨.bool (cond t p q), ?_, by simp [SV.R]⟩
  have h1 := frm_ev hf c
  have h2 := frm_ev hf a
  have h3 := frm_ev hf b
  rw [hc] at h1; rw [ha] at h2; rw [hb] at h3
  simp only [SV.R] at h1 h2 h3
  simp only [execOp, ho, h1, h2, h3, asBool]
  cases t <;> rfl

theorem snd_bin {P : Program} {N : Nat} {o : Oper} {st : St} {op : BinOp} {ty yt : TypeId} {x y : Operand} {c : Prop} {r : SV} (ho : o.op = .binOp op ty x y yt) (h : sBin P op ty (st.ev x) (st.ev y) = some (c, r)) (hc : c) :
    Snd P N o st st r := by
  refine Snd.pure fun ρ G a w hf => ?_
  obtain ⟨u, h1, h2⟩ := run_sBin (P := P) (w := w) x y h hc (frm_ev hf x) (frm_ev hf y)
  refine ⟨u, ?_, by rw [h1]; simp [SV.R]⟩
  simp only [execOp, ho]
  simp only [Sem.run_bind, Sem.run_pure] at h2 ⊢
  rw [h2]; rfl

theorem snd_un {P : Program} {N : Nat} {o : Oper} {st : St} {op : UnOp} {ty : TypeId} {x : Operand} {c : Prop} {r : SV} (ho : o.op = .unOp op ty x) (h : sUn op (st.ev x) = some (c, r)) (hc : c) : Snd P N o st st r := by
  refine Snd.pure fun ρ G a w hf => ?_
  have h1 := frm_ev hf x
  unfold sUn at h
  split at h <;> (try (simp at h; done)) <;> rename_i hx <;> rw [hx] at h1 <;> simp only [SV.R] at h1 <;> simp only [Option.some.injEq, Prod.mk.injEq] at h <;> obtain ⟨rfl, rfl⟩ := h
  · rename_i b
    exact ⟨.bool (!b), by simp [execOp, ho, h1, Op.unary], by simp [SV.R]⟩
  · refine ⟨_, by simp [execOp, ho, h1, Op.unary, Op.intArith]; rfl, ?_⟩
    simp only [SV.R]; rw [← fit_eq hc]; simp
  · exact ⟨_, by simp [execOp, ho, h1, Op.unary, Op.intBits]; rfl, by simp [SV.R, bitsOp]⟩

theorem snd_conv {P : Program} {N : Nat} {o : Oper} {st : St} {s d : TypeId} {x : Operand} {c : Prop} {r : SV} (ho : o.op = .convert s d x) (h : sConv P s d (st.ev x) = some (c, r)) (hc : c) : Snd P N o st st r := by
  refine Snd.pure fun ρ G a w hf => ?_
  have h1 := frm_ev hf x
  unfold sConv at h
  split at h
  · rename_i ds k k' n hs hd hx
    rw [hx] at h1
    simp only [SV.R] at h1
    simp only [Option.some.injEq, Prod.mk.injEq] at h
    obtain ⟨rfl, rfl⟩ := h
    refine ⟨.int k (k.wrap n), ?_, by simp only [SV.R]; rw [fit_eq hc]⟩
    simp only [execOp, ho, h1, convert, Sem.run_bind, run_underlying hs, run_underlying hd, Result.andThen_ok]
    cases ds <;> simp [Conv.intToInt]
  · rename_i b hs hd hx
    rw [hx] at h1
    simp only [SV.R] at h1
    simp only [Option.some.injEq, Prod.mk.injEq] at h
    obtain ⟨rfl, rfl⟩ := h
    refine ⟨.string b, ?_, by simp [SV.R]⟩
    simp [execOp, ho, h1, convert, run_underlying hs, run_underlying hd]
  · simp at h

theorem snd_extract {P : Program} {N : Nat} {o : Oper} {st : St} {x : Operand} {i : Nat} {vs : List SV} {r : SV} (ho : o.op = .extract x i) (hx : st.ev x = .tup vs) (h : vs[i]? = some r) : Snd P N o st st r := by
  refine Snd.pure fun ρ G a w hf => ?_
  have h1 := frm_ev hf x
  rw [hx] at h1
  simp only [SV.R] at h1
  obtain ⟨us, h1, h2⟩ := h1
  obtain ⟨u, hu, hr⟩ := SV.RL_get h2 h
  refine ⟨u, ?_, hr⟩
  have hu' : us[i]? = some u := by simpa using hu
  simp [execOp, ho, h1, Instr.extract, hu']

theorem run_part {P : Program} {w : World} {ρ : Nat → Nat × Nat} {G : Heap} {t : TypeId} {cs : List SV} {us : Array Value} {off : Nat} {r : SV} (h : sPart P t cs off = some r) (hr : SV.RL ρ G cs us.toList) :
    ∃ u, (part t us off).run P w = .ok u w ∧ r.R ρ G u := by
  have hlen := SV.RL_length hr
  unfold sPart at h
  have hagg : ∀ b, isAggT P t = some b → (isAgg t).run P w = .ok b w := by
    intro b hb
    unfold isAggT at hb
    split at hb <;> simp only [Option.some.injEq, reduceCtorEq] at hb <;> subst hb <;> rename_i hu
    · simp [isAgg, run_underlying hu]
    · simp [isAgg, run_underlying hu]
    · rename_i d _ _
      simp only [isAgg, Sem.run_bind, run_underlying hu, Result.andThen_ok]
      cases d <;> first | rfl | (exfalso; simp_all)
  split at h
  · rename_i i ha hi
    split at h
    · rename_i hle
      simp only [Option.some.injEq] at h
      subst h
      refine ⟨.agg (us.extract off (off + i.size)), ?_, ?_⟩
      · simp [part, hagg _ ha, size_info hi]
      · simp only [SV.R]
        refine ⟨_, rfl, SV.RL_mk ?_ ?_⟩
        · simp at hlen ⊢; omega
        · intro j x hj
          have hlt : j < i.size := by
            have := (List.getElem?_eq_some_iff.1 hj).1
            simp at this; omega
          rw [List.getElem?_take_of_lt hlt, List.getElem?_drop] at hj
          obtain ⟨u, hu, hru⟩ := SV.RL_get hr hj
          refine ⟨u, ?_, hru⟩
          simp at hu ⊢
          rw [List.getElem?_take_of_lt hlt, List.getElem?_drop]
          simpa using hu
    · simp at h
  · rename_i i ha hi
    obtain ⟨u, hu, hru⟩ := SV.RL_get hr h
    refine ⟨u, ?_, hru⟩
    have hu' : us[off]? = some u := by simpa using hu
    simp [part, hagg _ ha, hu']
  · simp at h

theorem snd_field {P : Program} {N : Nat} {o : Oper} {st : St} {x : Operand} {t : TypeId} {f : Nat} {fd : Field} {cs : List SV} {r : SV} (ho : o.op = .field t x f) (hfd : fieldOf P t f = some fd) (hx : st.ev x = .agg cs)
    (h : sPart P fd.type cs fd.offset = some r) : Snd P N o st st r := by
  refine snd_of_run (s := fun ρ => Instr.field t (ρ x) f) (fun ρ => by simp [execOp, ho]) fun ρ G a w hf => ?_
  have h1 := frm_ev hf x
  rw [hx] at h1
  simp only [SV.R] at h1
  obtain ⟨us, h1, h2⟩ := h1
  obtain ⟨u, hu, hr⟩ := run_part (P := P) (w := w) h h2
  refine ⟨u, ?_, hr⟩
  unfold fieldOf at hfd
  split at hfd
  · rename_i fs hus
    simp [Instr.field, run_underlying hus, hfd, h1, asAgg, hu]
  · simp at hfd

theorem map_eval_RL {ρ : Nat → Nat × Nat} {G : Heap} {st : St} {a : Act} (hf : Frm ρ G st.fr a.tmps) : ∀ (l : List Operand), SV.RL ρ G (l.map st.ev) (l.map a.eval)
  | [] => by simp [SV.RL]
  | x :: l => by simp only [List.map_cons, SV.RL]; exact ⟨_, _, rfl, frm_ev hf x, map_eval_RL hf l⟩

theorem snd_makeFunc {P : Program} {N : Nat} {o : Oper} {st : St} {f : FuncId} {xs cs : Array Operand} (ho : o.op = .makeFunc (.func f) xs cs) : Snd P N o st st (.fn f (xs.toList.map st.ev) (cs.toList.map st.ev)) := by
  refine Snd.pure fun ρ G a w hf => ?_
  refine ⟨.func (.func f) (xs.map a.eval) (cs.map a.eval), by simp [execOp, ho, Instr.makeFunc], ?_⟩
  simp only [SV.R]
  refine ⟨_, _, rfl, ?_, ?_⟩
  · have := map_eval_RL hf xs.toList; simpa using this
  · have := map_eval_RL hf cs.toList; simpa using this

theorem add_off (b off n : Nat) : (⟨b, off, none⟩ : Addr).add n = ⟨b, off + n, none⟩ := by
  unfold Addr.add; split <;> simp_all

theorem snd_fieldAddr {P : Program} {N : Nat} {o : Oper} {st : St} {x : Operand} {t : TypeId} {f : Nat} {r : SV} (ho : o.op = .fieldAddr t x f) (h : sFieldAddr P t (st.ev x) f = some r) : Snd P N o st st r := by
  refine snd_of_run (s := fun ρ => Instr.fieldAt t (ρ x) f) (fun ρ => by simp [execOp, ho]) fun ρ G a w hf => ?_
  have h1 := frm_ev hf x
  unfold sFieldAddr at h
  split at h
  · rename_i fd hfd
    unfold fieldOf at hfd
    split at hfd
    · rename_i fs hus
      split at h
      · rename_i i hi
        split at h
        · simp at h
        · rename_i hne
          have key : ∀ b off, a.eval x = .pointer (some ⟨b, off, none⟩) → (Instr.fieldAt t (a.eval x) f).run P w = .ok (.pointer (some ⟨b, off + fd.offset, none⟩)) w := by
            intro b off hb
            simp [Instr.fieldAt, run_underlying hus, hfd, hb, Instr.sureAddr, fieldPlace, size_info hi, hne, add_off]
          split at h <;> simp only [Option.some.injEq, reduceCtorEq] at h <;> subst h <;> rename_i hx <;> rw [hx] at h1 <;> simp only [SV.R] at h1
          · exact ⟨_, key _ _ h1, by simp [SV.R]⟩
          · exact ⟨_, key _ _ h1, by simp [SV.R, Nat.add_assoc]⟩
          · obtain ⟨b, off, c, e, fr, h1, h2, h3⟩ := h1
            refine ⟨_, key _ _ h1, ?_⟩
            simp only [SV.R]
            refine ⟨b, off + fd.offset, c, e, fr, rfl, h2, ?_⟩
            have := CL_drop fd.offset _ _ h3
            simpa [Nat.add_assoc] using this
      · simp at h
    · simp at hfd
  · simp at h

theorem snd_indexAddr {P : Program} {N : Nat} {o : Oper} {st : St} {x ix : Operand} {t : TypeId} {c : Prop} {r : SV} (ho : o.op = .indexAddr t x ix) (h : sIndexAddr P t (st.ev x) (st.ev ix) = some (c, r)) (hc : c) : Snd P N o st st r := by
  refine snd_of_run (s := fun ρ => Instr.indexAt t (ρ x) (ρ ix)) (fun ρ => by simp [execOp, ho]) fun ρ G a w hf => ?_
  have h1 := frm_ev hf x
  have h2 := frm_ev hf ix
  unfold sIndexAddr at h
  split at h
  · rename_i e k n hu hix
    rw [hix] at h2
    simp only [SV.R] at h2
    split at h
    · rename_i i hi
      have key : ∀ b off (len cp : Nat), a.eval x = .slice (some ⟨b, off, none⟩) len cp → 0 ≤ n → n < len → (Instr.indexAt t (a.eval x) (a.eval ix)).run P w = .ok (.pointer (some ⟨b, off + n.toNat * i.size, none⟩)) w := by
        intro b off len cp hb h0 hlt
        simp [Instr.indexAt, h2, asIntOf, run_underlying hu, hb, h0, hlt, size_info hi, add_off]
      split at h
      · rename_i j z off len cap ex hx
        split at h
        · rename_i hz
          simp only [Option.some.injEq, Prod.mk.injEq] at h
          obtain ⟨rfl, rfl⟩ := h
          rw [hx] at h1
          simp only [SV.R] at h1
          obtain ⟨ad, cc, h1, h3, h4, h5, h6, h7⟩ := h1
          rcases h6 with h6 | h6
          · omega
          · subst h6
            have hlt := hc.2
            refine ⟨_, key _ _ _ _ h1 hc.1 hlt, ?_⟩
            simp only [SV.R]
            rw [hz, Nat.add_mul]; simp
        · simp at h
      · rename_i z m f ex hx
        split at h
        · rename_i hz
          simp only [Option.some.injEq, Prod.mk.injEq] at h
          obtain ⟨rfl, rfl⟩ := h
          rw [hx] at h1
          simp only [SV.R, SV.C] at h1
          obtain ⟨_, _, A, cc, h1, h3, h4, h5⟩ := h1
          simp [one] at h1
          rcases h5 with h5 | ⟨b, off, cs, e', fr, rfl, h6, h7⟩
          · omega
          · refine ⟨_, key _ _ _ _ h1 hc.1 hc.2, ?_⟩
            simp only [SV.R]
            refine ⟨b, _, cs, e', fr, rfl, h6, ?_⟩
            have := C_elems (h7 n.toNat (by omega))
            rw [hz] at this
            exact this
        · simp at h
      · simp at h
    · simp at h
  · rename_i len e k n hu hix
    rw [hix] at h2
    simp only [SV.R] at h2
    split at h
    · rename_i i hi
      split at h
      · rename_i j off hx
        simp only [Option.some.injEq, Prod.mk.injEq] at h
        obtain ⟨rfl, rfl⟩ := h
        rw [hx] at h1
        simp only [SV.R] at h1
        refine ⟨.pointer (some ⟨(ρ j).1, off + n.toNat * i.size, none⟩), ?_, by simp only [SV.R]⟩
        simp [Instr.indexAt, h2, asIntOf, run_underlying hu, h1, Instr.sureAddr, hc.1, hc.2, size_info hi, add_off]
      · simp at h
    · simp at h
  · simp at h

theorem snd_index {P : Program} {N : Nat} {o : Oper} {st : St} {x ix : Operand} {t : TypeId} {c : Prop} {r : SV} (ho : o.op = .index t x ix) (h : sIndex P t (st.ev x) (st.ev ix) = some (c, r)) (hc : c) : Snd P N o st st r := by
  refine snd_of_run (s := fun ρ => Instr.index t (ρ x) (ρ ix)) (fun ρ => by simp [execOp, ho]) fun ρ G a w hf => ?_
  have h1 := frm_ev hf x
  have h2 := frm_ev hf ix
  unfold sIndex at h
  split at h
  · rename_i s k n hu hx hix
    rw [hx] at h1; rw [hix] at h2
    simp only [SV.R] at h1 h2
    simp only [Option.some.injEq, Prod.mk.injEq] at h
    obtain ⟨rfl, rfl⟩ := h
    have hlt : n.toNat < s.size := by omega
    have hs : s[n.toNat]? = some (s[n.toNat]'hlt) := by simp [hlt]
    refine ⟨.int .u8 (s[n.toNat]'hlt).toNat, ?_, ?_⟩
    · simp [Instr.index, h1, h2, asIntOf, run_underlying hu, hc.1, hs]
    · simp only [SV.R, strAt]
      congr 2
      have hd : n.toNat < s.data.size := hlt
      rw [Array.getD_eq_getD_getElem?, Array.getElem?_eq_getElem hd]
      rfl
  · rename_i len e cs k n hu hx hix
    rw [hx] at h1; rw [hix] at h2
    simp only [SV.R] at h1 h2
    obtain ⟨us, h1, h3⟩ := h1
    split at h
    · rename_i i hi
      simp only [Option.map_eq_some_iff, Prod.mk.injEq] at h
      obtain ⟨y, hy, rfl, rfl⟩ := h
      obtain ⟨u, hu', hr⟩ := run_part (P := P) (w := w) hy h3
      refine ⟨u, ?_, hr⟩
      simp [Instr.index, h1, h2, asIntOf, run_underlying hu, hc.1, hc.2, size_info hi, hu']
    · simp at h
  · simp at h
end Go.Sym

/- Operations on memory: loads, stores, new variables and rows, and their soundness. -/
namespace Go.Sym

theorem cell_of_block {w : World} {b : Nat} {c : Array Value} {e : TypeId} {fr : Nat × Nat} (h : World.H w b = some (.cells c e fr)) (o : Nat) : w.cell? ⟨b, o, none⟩ = c[o]? := by
  simp only [World.H] at h
  simp [World.cell?, h]

theorem frozen_of_block {w : World} {b : Nat} {c : Array Value} {e : TypeId} {fr : Nat × Nat} (h : World.H w b = some (.cells c e fr)) (hw : Wr c.size fr) {o : Nat} (ho : o < c.size) : w.frozen? ⟨b, o, none⟩ = false := by
  simp only [World.H] at h
  have := hw.not o ho
  simp only [World.frozen?, h]
  simp only [Bool.and_eq_false_iff, decide_eq_false_iff_not]
  by_cases h1 : fr.1 ≤ o
  · exact .inr (fun h2 => this ⟨h1, h2⟩)
  · exact .inl h1

/-- The world w' is w, but for the cells of one block. -/
structure Turned (w w' : World) (b : Nat) (c' : Array Value) (e : TypeId) (fr : Nat × Nat) : Prop where
  blk : World.H w' b = some (.cells c' e fr)
  oth : ∀ b', b' ≠ b → World.H w' b' = World.H w b'
  size : w'.heap.size = w.heap.size
  os : w'.os = w.os
  out : w'.output = w.output
  tape : w'.tape = w.tape

theorem Turned.setCell {w : World} {b o : Nat} {c : Array Value} {e : TypeId} {fr : Nat × Nat} (h : World.H w b = some (.cells c e fr)) (v : Value) : Turned w (w.setCell ⟨b, o, none⟩ v) b (c.setIfInBounds o v) e fr := by
  refine ⟨?_, fun b' hb' => ?_, by simp, rfl, rfl, rfl⟩
  · simp only [World.H] at h
    simp only [World.H, World.setCell, Array.getElem?_modify, if_true, h]
    simp
  · simp only [World.H, World.setCell, Array.getElem?_modify]
    rw [if_neg (fun hh => hb' hh.symm)]

theorem run_storeCells_blk {P : Program} (b o : Nat) (e : TypeId) (fr : Nat × Nat) : ∀ (vs : List Value) (i : Nat) (cur : Array Value) (w : World), World.H w b = some (.cells cur e fr) → Wr cur.size fr →
    o + i + vs.length ≤ cur.size → (∀ v ∈ vs, v.oneCell' = true) →
    ∃ w' c', (storeCells ⟨b, o, none⟩ vs i).run P w = .ok () w' ∧ Turned w w' b c' e fr ∧ c'.size = cur.size ∧ ∀ j, c'[j]? = if o + i ≤ j ∧ j < o + i + vs.length then vs[j - (o + i)]? else cur[j]?
  | [], i, cur, w, hb, hw, hle, h1 => by
    refine ⟨w, cur, rfl, ⟨hb, fun _ _ => rfl, rfl, rfl, rfl, rfl⟩, rfl, fun j => ?_⟩
    rw [if_neg (by simp)]
  | v :: vs, i, cur, w, hb, hw, hle, h1 => by
    simp only [List.length_cons] at hle
    have hlt : o + i < cur.size := by omega
    have hc : w.cell? ⟨b, o + i, none⟩ = some cur[o + i] := by rw [cell_of_block hb]; simp [hlt]
    have hfz := frozen_of_block hb hw hlt
    have hT := Turned.setCell (o := o + i) hb v
    obtain ⟨w', c', hr, hT', hs', hj'⟩ := run_storeCells_blk (P := P) b o e fr vs (i + 1) (cur.setIfInBounds (o + i) v) (w.setCell ⟨b, o + i, none⟩ v) hT.blk (by simpa using hw) (by simp; omega) (fun v' hv' => h1 v' (by simp [hv']))
    refine ⟨w', c', ?_, ⟨hT'.blk, fun b' hb' => (hT'.oth b' hb').trans (hT.oth b' hb'), hT'.size.trans hT.size, hT'.os, hT'.out, hT'.tape⟩, by simpa using hs', fun j => ?_⟩
    · simp only [storeCells, Sem.run_bind, add_off]
      rw [run_store P w _ v _ (h1 v (by simp)), hc]
      simp only [hfz, Bool.false_eq_true, if_false, Result.andThen_ok]
      exact hr
    · rw [hj' j]
      by_cases hjo : j = o + i
      · subst hjo
        rw [if_neg (by omega), if_pos (by simp)]
        simp [hlt]
      · by_cases hin : o + (i + 1) ≤ j ∧ j < o + (i + 1) + vs.length
        · rw [if_pos hin, if_pos (by simp; omega)]
          obtain ⟨k, rfl⟩ : ∃ k, j = o + (i + 1) + k := ⟨j - (o + (i + 1)), by omega⟩
          rw [show o + (i + 1) + k - (o + (i + 1)) = k by omega, show o + (i + 1) + k - (o + i) = k + 1 by omega]
          simp
        · rw [if_neg hin, if_neg (by simp; omega)]
          rw [Array.getElem?_setIfInBounds]
          rw [if_neg (fun hh => hjo hh.symm)]

/-- What a load gives off some cells. -/
theorem run_load_part {P : Program} {w : World} {ρ : Nat → Nat × Nat} {G : Heap} {t : TypeId} {cs : List SV} {c : Array Value} {e : TypeId} {fr : Nat × Nat} {b o off : Nat} {r : SV} (h : sPart P t cs off = some r)
    (hb : World.H w b = some (.cells c e fr)) (hr : ∀ (j : Nat) (x : SV), cs[j]? = some x → ∃ u, c[o + j]? = some u ∧ x.R ρ G u) :
    ∃ u, (loadVar t ⟨b, o + off, none⟩).run P w = .ok u w ∧ r.R ρ G u := by
  have hagg : ∀ b, isAggT P t = some b → (isAgg t).run P w = .ok b w := by
    intro b hb
    unfold isAggT at hb
    split at hb <;> simp only [Option.some.injEq, reduceCtorEq] at hb <;> subst hb <;> rename_i hu
    · simp [isAgg, run_underlying hu]
    · simp [isAgg, run_underlying hu]
    · rename_i d _ _
      simp only [isAgg, Sem.run_bind, run_underlying hu, Result.andThen_ok]
      cases d <;> first | rfl | (exfalso; simp_all)
  unfold sPart at h
  split at h
  · rename_i i ha hi
    split at h
    · rename_i hle
      simp only [Option.some.injEq] at h
      subst h
      have hcell : ∀ j, j < i.size → ∃ x u, cs[off + j]? = some x ∧ c[o + off + j]? = some u ∧ x.R ρ G u := by
        intro j hj
        have hlt : off + j < cs.length := by omega
        obtain ⟨u, hu, hru⟩ := hr (off + j) cs[off + j] (by simp [hlt])
        exact ⟨_, u, by simp [hlt], by rw [Nat.add_assoc]; exact hu, hru⟩
      have hl := run_loadCells (P := P) w ⟨b, o + off, none⟩ i.size (fun j => (c[o + off + j]?).getD undef) (fun j hj => by
        obtain ⟨x, u, _, hu, _⟩ := hcell j hj
        rw [add_off, cell_of_block hb, hu]; rfl)
      refine ⟨.agg ((List.range i.size).map fun j => (c[o + off + j]?).getD undef).toArray, ?_, ?_⟩
      · simp [loadVar, hagg _ ha, size_info hi, hl]
      · simp only [SV.R]
        refine ⟨_, rfl, SV.RL_mk (by simp; omega) (fun j x hj => ?_)⟩
        have hlt : j < i.size := by
          have := (List.getElem?_eq_some_iff.1 hj).1
          simp at this; omega
        rw [List.getElem?_take_of_lt hlt, List.getElem?_drop] at hj
        obtain ⟨x', u, hx, hu, hru⟩ := hcell j hlt
        rw [hx] at hj
        cases hj
        exact ⟨u, by simp [hlt, hu], hru⟩
    · simp at h
  · rename_i i ha hi
    obtain ⟨u, hu, hru⟩ := hr off r h
    refine ⟨u, ?_, hru⟩
    simp [loadVar, hagg _ ha, cell_of_block hb, hu]
  · simp at h

/-- A closed value that owns nothing. -/
def SV.noOwn : SV → Bool
  | .v _ => true
  | .ro _ _ _ _ => true
  | _ => false

def noOwnL (cs : List SV) : Bool := cs.all SV.noOwn

theorem C_noOwn {ρ : Nat → Nat × Nat} {G H : Heap} {x : SV} {rd : Rd} {F : List Nat} (hn : x.noOwn = true) (h : x.C G H 1 rd F) : F = [] ∧ ∃ u, rd 0 = some u ∧ u.oneCell' = true ∧ x.R ρ G u := by
  cases x <;> simp only [SV.noOwn, Bool.false_eq_true] at hn
  · simp only [SV.C] at h
    exact ⟨h.2.2.2, _, h.2.1, h.2.2.1, by simp [SV.R]⟩
  · rename_i z n f ex
    have h' := h
    simp only [SV.C] at h'
    obtain ⟨_, hF, A, c, h1, _⟩ := h'
    subst hF
    refine ⟨rfl, _, h1, rfl, ?_⟩
    simp only [SV.R]
    have h2 := SV.C_mono (Heap.le_refl G) (H' := fun _ => none) _ _ _ _ (by simp) h
    simp only [SV.C] at h2 ⊢
    simpa [one, h1] using h2

theorem CL_get {ρ : Nat → Nat × Nat} {G H : Heap} : ∀ {cs : List SV} {rd : Rd} {F : List Nat} {j : Nat} {x : SV}, SV.CL G H cs rd F → cs[j]? = some x → x.noOwn = true → ∃ u, rd j = some u ∧ u.oneCell' = true ∧ x.R ρ G u
  | [], rd, F, j, x, h, hj, hn => by simp at hj
  | y :: ys, rd, F, 0, x, h, hj, hn => by
    simp at hj; subst hj
    obtain ⟨F1, F2, _, _, h1, _⟩ := h
    exact (C_noOwn hn h1).2
  | y :: ys, rd, F, j + 1, x, h, hj, hn => by
    obtain ⟨F1, F2, _, _, _, h2⟩ := h
    exact CL_get (rd := fun j => rd (j + 1)) h2 (by simpa using hj) hn

theorem C_elemsF {G H : Heap} {x : SV} {z : Nat} {rd : Rd} {F : List Nat} (h : x.C G H z rd F) : SV.CL G H x.elems rd F ∧ x.elems.length = z := by
  cases x with
  | agg cs => simp only [SV.C] at h; exact ⟨h.2, h.1⟩
  | _ =>
    first
      | (simp only [SV.C] at h; done)
      | (have hz : z = 1 := by
           have h' := h
           simp only [SV.C] at h'
           exact h'.1
         subst hz
         exact ⟨⟨F, [], by simp, rfl, h, rfl⟩, rfl⟩)

def sLoad (P : Program) (L : Ents) (t : TypeId) (x : SV) : Option (Prop × SV) :=
  match x with
  | .ptr i off => match L.get i with
    | some (.var cs) => (sPart P t cs off).map fun r => (True, r)
    | _ => none
  | .elp i z k off => match L.get i with
    | some (.row z' n f) => if z' = z then (sPart P t (f k).elems off).map fun r => (k < n ∧ noOwnL r.elems = true, r) else none
    | _ => none
  | .rop cs => (sPart P t cs 0).map fun r => (noOwnL cs = true, r)
  | _ => none

/-- A part of cells of which those that count own nothing. -/
theorem run_load_part' {P : Program} {w : World} {ρ : Nat → Nat × Nat} {G H : Heap} {t : TypeId} {cs : List SV} {c : Array Value} {e : TypeId} {fr : Nat × Nat} {b o off : Nat} {F : List Nat} {r : SV} (h : sPart P t cs off = some r)
    (hb : World.H w b = some (.cells c e fr)) (hcl : SV.CL G H cs (fun j => c[o + j]?) F) (hn : noOwnL r.elems = true) : ∃ u, (loadVar t ⟨b, o + off, none⟩).run P w = .ok u w ∧ r.R ρ G u := by
  -- cells outside the part count for nothing: they are anything
  let cs' : List SV := cs.map fun x => if x.noOwn = true then x else .any
  have hcs' : ∀ j x, cs'[j]? = some x → ∃ u, c[o + j]? = some u ∧ x.R ρ G u := by
    intro j x hj
    simp only [cs', List.getElem?_map, Option.map_eq_some_iff] at hj
    obtain ⟨y, hy, rfl⟩ := hj
    by_cases hyn : y.noOwn = true
    · obtain ⟨u, hu, _, hr⟩ := CL_get (ρ := ρ) hcl hy hyn
      exact ⟨u, hu, by simpa [hyn] using hr⟩
    · simp only [hyn, if_false]
      obtain ⟨u, hu⟩ := CL_some hcl hy
      exact ⟨u, hu, by simp [SV.R]⟩
  have hmap : ∀ (xs : List SV), noOwnL xs = true → (xs.map fun x => if x.noOwn = true then x else .any) = xs := by
    intro xs hxs
    conv => rhs; rw [← List.map_id xs]
    apply List.map_congr_left
    intro x hx
    have := List.all_eq_true.1 hxs x hx
    simp [this]
  have h' : sPart P t cs' off = some r := by
    unfold sPart at h ⊢
    split at h
    · split at h
      · rename_i hle
        simp only [Option.some.injEq] at h
        subst h
        simp only [SV.elems] at hn
        rw [if_pos (by simpa [cs'] using hle)]
        simp only [cs', Option.some.injEq, SV.agg.injEq]
        rw [← List.map_drop, ← List.map_take, hmap _ hn]
      · simp at h
    · simp only [cs', List.getElem?_map, h, Option.map_some, Option.some.injEq]
      have hr : r.noOwn = true ∨ ∃ xs, r = .agg xs := by
        cases r with
        | agg xs => exact .inr ⟨xs, rfl⟩
        | _ => simp only [SV.elems, noOwnL, List.all_cons, List.all_nil, Bool.and_true] at hn; exact .inl hn
      rcases hr with hr | ⟨xs, rfl⟩
      · simp [hr]
      · -- a cell is no aggregate
        exfalso
        exact CL_no_agg hcl h
    · simp at h
  exact run_load_part h' hb hcs'
where
  CL_some : ∀ {G H : Heap} {cs : List SV} {rd : Rd} {F : List Nat} {j : Nat} {x : SV}, SV.CL G H cs rd F → cs[j]? = some x → ∃ u, rd j = some u
  | G, H, [], rd, F, j, x, h, hj => by simp at hj
  | G, H, y :: ys, rd, F, 0, x, h, hj => by
    simp at hj; subst hj
    obtain ⟨F1, F2, _, _, h1, _⟩ := h
    exact C_some_cell _ _ _ h1
  | G, H, y :: ys, rd, F, j + 1, x, h, hj => by
    obtain ⟨F1, F2, _, _, _, h2⟩ := h
    exact CL_some (rd := fun j => rd (j + 1)) h2 (by simpa using hj)
  C_some_cell : ∀ {G H : Heap} (y : SV) (rd : Rd) (F : List Nat), y.C G H 1 rd F → ∃ u, rd 0 = some u
  | G, H, .v x, rd, F, h => by simp only [SV.C] at h; exact ⟨_, h.2.1⟩
  | G, H, .ro z n f ex, rd, F, h => by simp only [SV.C] at h; obtain ⟨_, _, A, c, h, _⟩ := h; exact ⟨_, h⟩
  | G, H, .own z n f, rd, F, h => by simp only [SV.C] at h; obtain ⟨_, A, c, h, _⟩ := h; exact ⟨_, h⟩
  | G, H, .agg [x], rd, F, h => by
    simp only [SV.C, SV.CL] at h
    obtain ⟨_, F1, F2, _, _, h1, _⟩ := h
    exact C_some_cell x rd F1 h1
  | G, H, .agg [], rd, F, h => by simp [SV.C] at h
  | G, H, .agg (_ :: _ :: _), rd, F, h => by simp [SV.C] at h
  | G, H, .any, rd, F, h => by simp only [SV.C] at h; obtain ⟨_, _, u, h, _⟩ := h; exact ⟨_, h⟩
  | G, H, .ptr _ _, rd, F, h => by simp [SV.C] at h
  | G, H, .elp _ _ _ _, rd, F, h => by simp [SV.C] at h
  | G, H, .sl _ _ _ _ _ _, rd, F, h => by simp [SV.C] at h
  | G, H, .rop _, rd, F, h => by simp [SV.C] at h
  | G, H, .fn _ _ _, rd, F, h => by simp [SV.C] at h
  | G, H, .tup _, rd, F, h => by simp [SV.C] at h
  CL_no_agg : ∀ {G H : Heap} {cs : List SV} {rd : Rd} {F : List Nat} {j : Nat} {xs : List SV}, SV.CL G H cs rd F → cs[j]? = some (.agg xs) → False
  | G, H, [], rd, F, j, xs, h, hj => by simp at hj
  | G, H, y :: ys, rd, F, 0, xs, h, hj => by
    simp at hj; subst hj
    obtain ⟨F1, F2, _, hna, _, _⟩ := h
    simp [SV.notAgg] at hna
  | G, H, y :: ys, rd, F, j + 1, xs, h, hj => by
    obtain ⟨F1, F2, _, _, _, h2⟩ := h
    exact CL_no_agg (rd := fun j => rd (j + 1)) h2 (by simpa using hj)
end Go.Sym

/- Loads, stores and new variables: soundness. -/
namespace Go.Sym

theorem Mem.blk_var {ρ : Nat → Nat × Nat} {g : Gh} {w : World} {L : Ents} {Fp : Nat → List Nat} (h : Mem ρ g w L Fp) {i : Nat} {cs : List SV} (hi : L.get i = some (.var cs)) :
    ∃ c e fr, World.H w (ρ i).1 = some (.cells c e fr) ∧ c.size = (ρ i).2 ∧ Wr c.size fr ∧ cs.length ≤ c.size ∧ Fp i = [(ρ i).1] ∧
      ∀ (j : Nat) (x : SV), cs[j]? = some x → ∃ u, c[j]? = some u ∧ u.oneCell' = true ∧ x.R ρ g.G u := h.ent i _ (Ents.mem_of_get hi)

theorem snd_load {P : Program} {N : Nat} {o : Oper} {st : St} {t : TypeId} {x : Operand} {c : Prop} {r : SV} (ho : o.op = .load t x) (h : sLoad P st.L t (st.ev x) = some (c, r)) (hc : c) : Snd P N o st st r := by
  intro g a w ρ Fp ms hg
  have h1 := frm_ev hg.frm x
  have key : ∀ b off, a.eval x = .pointer (some ⟨b, off, none⟩) → (∃ u, (loadVar t ⟨b, off, none⟩).run P w = .ok u w ∧ r.R ρ g.G u) →
      ∃ u w' ρ' Fp', ((execOp a.eval o).run P w = .ok (.value u) w' ∨ ((execOp a.eval o).run P w = .ok .skip w' ∧ u = undef)) ∧
        Mem ρ' g w' st.L Fp' ∧ Frm ρ' g.G st.fr a.tmps ∧ Same st st ρ ρ' ∧ Marks g w' st.L Fp' ms ∧ r.R ρ' g.G u := by
    rintro b off hb ⟨u, hu, hr⟩
    refine ⟨u, w, ρ, Fp, .inl ?_, hg.mem, hg.frm, Same.refl _ _, hg.marks, hr⟩
    simp [execOp, ho, Instr.loadAt, hb, Instr.sureAddr, hu]
  unfold sLoad at h
  split at h
  · rename_i i off hx
    rw [hx] at h1
    simp only [SV.R] at h1
    split at h
    · rename_i cs hi
      simp only [Option.map_eq_some_iff, Prod.mk.injEq] at h
      obtain ⟨r', hp, rfl, rfl⟩ := h
      obtain ⟨cc, e, fr, hb, _, _, _, _, hr⟩ := hg.mem.blk_var hi
      refine key _ _ h1 ?_
      have := run_load_part (P := P) (o := 0) hp hb (fun j x hj => by
        obtain ⟨u, hu, _, hru⟩ := hr j x hj
        exact ⟨u, by rw [Nat.zero_add]; exact hu, hru⟩)
      rwa [Nat.zero_add] at this
    · simp at h
  · rename_i i z k off hx
    rw [hx] at h1
    simp only [SV.R] at h1
    split at h
    · rename_i z' n f hi
      split at h
      · rename_i hz
        subst hz
        simp only [Option.map_eq_some_iff, Prod.mk.injEq] at h
        obtain ⟨r', hp, rfl, rfl⟩ := h
        rcases hg.mem.ent i _ (Ents.mem_of_get hi) with ⟨h0, _⟩ | ⟨cc, e, fr, gg, hb, _, _, _, _, hr⟩
        · omega
        · refine key _ _ h1 ?_
          exact run_load_part' hp hb (C_elemsF (hr k hc.1)).1 hc.2
      · simp at h
    · simp at h
  · rename_i cs hx
    rw [hx] at h1
    simp only [SV.R] at h1
    obtain ⟨b, off, cc, e, fr, h1, h2, h3⟩ := h1
    simp only [Option.map_eq_some_iff, Prod.mk.injEq] at h
    obtain ⟨r', hp, rfl, rfl⟩ := h
    refine key _ _ h1 ?_
    have hcs : ∀ (j : Nat) (x : SV), cs[j]? = some x → ∃ u, cc[off + j]? = some u ∧ x.R ρ g.G u := by
      intro j x hj
      obtain ⟨u, hu, _, hr⟩ := CL_get (ρ := ρ) h3 hj (List.all_eq_true.1 hc x (List.mem_of_getElem? hj))
      exact ⟨u, hu, hr⟩
    have := run_load_part (P := P) hp (hg.mem.bw _ _ (hg.mem.gb _ _ h2)) hcs
    simpa using this
  · simp at h

/-- Cells that may be stored. -/
def SV.cellOk : SV → Bool
  | .v x => x.oneCell'
  | .ptr _ _ => true
  | .elp _ _ _ _ => true
  | .sl _ _ _ _ _ _ => true
  | .ro _ _ _ _ => true
  | .rop _ => true
  | .fn _ _ _ => true
  | _ => false
def okL (cs : List SV) : Bool := cs.all SV.cellOk

theorem cellOk_one {ρ : Nat → Nat × Nat} {G : Heap} {x : SV} {u : Value} (h : x.cellOk = true) (hr : x.R ρ G u) : u.oneCell' = true := by
  cases x <;> simp only [SV.cellOk, Bool.false_eq_true] at h <;> simp only [SV.R] at hr
  · rw [hr]; exact h
  · rw [hr]; rfl
  · rw [hr]; rfl
  · obtain ⟨A, c, rfl, _⟩ := hr; rfl
  · simp only [SV.C] at hr
    obtain ⟨_, _, A, c, h1, _⟩ := hr
    simp [one] at h1; rw [h1]; rfl
  · obtain ⟨b, o, c, e, fr, rfl, _⟩ := hr; rfl
  · obtain ⟨us, vs, rfl, _⟩ := hr; rfl

theorem RL_cells_ok {ρ : Nat → Nat × Nat} {G : Heap} {cs : List SV} {us : List Value} (h : okL cs = true) (hr : SV.RL ρ G cs us) : ∀ v ∈ us, v.oneCell' = true := by
  intro v hv
  obtain ⟨j, hj, rfl⟩ := List.mem_iff_getElem.1 hv
  have hl := SV.RL_length hr
  have hx : cs[j]? = some (cs[j]'(by omega)) := by simp
  obtain ⟨u, hu, hru⟩ := SV.RL_get hr hx
  rw [List.getElem?_eq_getElem hj] at hu
  cases hu
  exact cellOk_one (List.all_eq_true.1 h _ (List.getElem_mem _)) hru

/-- Some cells laid over others. -/
def ovl (cs : List SV) (off : Nat) (ys : List SV) : List SV := cs.take off ++ ys ++ cs.drop (off + ys.length)

theorem ovl_get {cs ys : List SV} {off j : Nat} (h : off + ys.length ≤ cs.length) : (ovl cs off ys)[j]? = if off ≤ j ∧ j < off + ys.length then ys[j - off]? else cs[j]? := by
  unfold ovl
  have hl : (cs.take off).length = off := by simp; omega
  by_cases h1 : j < off
  · rw [if_neg (by omega), List.append_assoc, List.getElem?_append_left (by omega), List.getElem?_take_of_lt h1]
  · by_cases h2 : j < off + ys.length
    · rw [if_pos ⟨by omega, h2⟩, List.append_assoc, List.getElem?_append_right (by omega), hl, List.getElem?_append_left (by omega)]
    · rw [if_neg (by omega), List.getElem?_append_right (by simp; omega), List.getElem?_drop]
      congr 1
      simp; omega

theorem ovl_length {cs ys : List SV} {off : Nat} (h : off + ys.length ≤ cs.length) : (ovl cs off ys).length = cs.length := by
  simp [ovl]; omega

theorem C_of_R {ρ : Nat → Nat × Nat} {G H : Heap} {y : SV} {u : Value} {rd : Rd} (hn : y.noOwn = true) (hr : y.R ρ G u) (ho : u.oneCell' = true) (hrd : rd 0 = some u) : y.C G H 1 rd [] := by
  cases y <;> simp only [SV.noOwn, Bool.false_eq_true] at hn
  · simp only [SV.R] at hr
    subst hr
    simp only [SV.C]; exact ⟨trivial, hrd, ho, trivial⟩
  · simp only [SV.R] at hr
    have h2 := SV.C_mono (Heap.le_refl G) (H' := H) _ _ _ _ (by simp) hr
    simp only [SV.C] at h2 ⊢
    simpa [one, hrd] using h2

theorem CL_congr {G H : Heap} : ∀ {cs : List SV} {rd rd' : Rd} {F : List Nat}, (∀ j, j < cs.length → rd' j = rd j) → SV.CL G H cs rd F → SV.CL G H cs rd' F
  | [], rd, rd', F, hrd, h => by simpa [SV.CL] using h
  | y :: ys, rd, rd', F, hrd, h => by
    obtain ⟨F1, F2, hF, hna, h1, h2⟩ := h
    refine ⟨F1, F2, hF, hna, C_congr y hna (hrd 0 (by simp)) h1, CL_congr (fun j hj => hrd (j + 1) (by simpa using hj)) h2⟩
where
  C_congr : ∀ {G H : Heap} (y : SV) {rd rd' : Rd} {F : List Nat}, y.notAgg = true → rd' 0 = rd 0 → y.C G H 1 rd F → y.C G H 1 rd' F := by
    intro G H y rd rd' F hna h0 h
    cases y <;> simp only [SV.C, h0] at h ⊢ <;> first | exact h | simp [SV.notAgg] at hna

theorem CL_notAgg {G H : Heap} : ∀ {cs : List SV} {rd : Rd} {F : List Nat}, SV.CL G H cs rd F → ∀ x ∈ cs, x.notAgg = true
  | [], rd, F, h => by simp
  | y :: ys, rd, F, h => by
    obtain ⟨F1, F2, hF, hna, h1, h2⟩ := h
    intro x hx
    rcases List.mem_cons.1 hx with rfl | hx
    · exact hna
    · exact CL_notAgg h2 x hx

theorem noOwn_notAgg {x : SV} (h : x.noOwn = true) : x.notAgg = true := by cases x <;> simp_all [SV.noOwn, SV.notAgg]

theorem CL_ovl {ρ : Nat → Nat × Nat} {G H : Heap} : ∀ (off : Nat) {cs ys : List SV} {us : List Value} {rd rd' : Rd} {F : List Nat}, noOwnL ys = true → SV.RL ρ G ys us → (∀ u ∈ us, u.oneCell' = true) → off + ys.length ≤ cs.length →
    (∀ j, rd' j = if off ≤ j ∧ j < off + ys.length then us[j - off]? else rd j) → SV.CL G H cs rd F → ∃ F', F'.Sublist F ∧ SV.CL G H (ovl cs off ys) rd' F'
  | 0, cs, [], us, rd, rd', F, hn, hr, ho, hle, hrd, h => by
    refine ⟨F, List.Sublist.refl _, ?_⟩
    have : ovl cs 0 [] = cs := by simp [ovl]
    rw [this]
    exact CL_congr (fun j hj => by rw [hrd j, if_neg (by simp)]) h
  | 0, [], y :: ys, us, rd, rd', F, hn, hr, ho, hle, hrd, h => by simp at hle
  | 0, c :: cs, y :: ys, us, rd, rd', F, hn, hr, ho, hle, hrd, h => by
    obtain ⟨F1, F2, rfl, hna, h1, h2⟩ := h
    simp only [SV.RL] at hr
    obtain ⟨u, rest, rfl, hr1, hr2⟩ := hr
    simp only [noOwnL, List.all_cons, Bool.and_eq_true] at hn
    obtain ⟨F', hs, hF'⟩ := CL_ovl 0 (rd' := fun j => rd' (j + 1)) hn.2 hr2 (fun u' hu' => ho u' (by simp [hu'])) (by simp at hle ⊢; omega) (fun j => by
      rw [hrd (j + 1)]
      by_cases hj : j < ys.length
      · rw [if_pos (by simp; omega), if_pos (by simp; omega)]; simp
      · rw [if_neg (by simp; omega), if_neg (by simp; omega)]) h2
    refine ⟨F', hs.trans (List.sublist_append_right _ _), ?_⟩
    have : ovl (c :: cs) 0 (y :: ys) = y :: ovl cs 0 ys := by simp [ovl]
    rw [this]
    refine ⟨[], F', by simp, noOwn_notAgg hn.1, C_of_R hn.1 hr1 (ho u (by simp)) ?_, hF'⟩
    rw [hrd 0]; simp
  | off + 1, [], ys, us, rd, rd', F, hn, hr, ho, hle, hrd, h => by simp at hle
  | off + 1, c :: cs, ys, us, rd, rd', F, hn, hr, ho, hle, hrd, h => by
    obtain ⟨F1, F2, rfl, hna, h1, h2⟩ := h
    obtain ⟨F', hs, hF'⟩ := CL_ovl off (rd' := fun j => rd' (j + 1)) hn hr ho (by simp at hle; omega) (fun j => by
      rw [hrd (j + 1)]
      by_cases hj : off ≤ j ∧ j < off + ys.length
      · rw [if_pos (by omega), if_pos hj]; congr 1; omega
      · rw [if_neg (by omega), if_neg hj]) h2
    refine ⟨F1 ++ F', List.Sublist.append_left hs F1, ?_⟩
    have : ovl (c :: cs) (off + 1) ys = c :: ovl cs off ys := by
      simp only [ovl, List.take_succ_cons, List.cons_append, List.cons.injEq, true_and]
      rw [show off + 1 + ys.length = (off + ys.length) + 1 by omega, List.drop_succ_cons]
    rw [this]
    refine ⟨F1, F', rfl, hna, CL_congr.C_congr c hna ?_ h1, hF'⟩
    rw [hrd 0, if_neg (by omega)]

/-- One element out of its cells. -/
def mkE (cs : List SV) : SV := match cs with | [x] => x | cs => .agg cs

theorem C_mkE {G H : Heap} {cs : List SV} {rd : Rd} {F : List Nat} (h : SV.CL G H cs rd F) : (mkE cs).C G H cs.length rd F := by
  cases cs with
  | nil => simp only [mkE, SV.C]; exact ⟨trivial, h⟩
  | cons c cs =>
    cases cs with
    | nil =>
      obtain ⟨F1, F2, rfl, _, h1, h2⟩ := h
      simp only [SV.CL] at h2
      subst h2
      simpa [mkE] using h1
    | cons d ds => simp only [mkE, SV.C]; exact ⟨trivial, h⟩

theorem C_congrZ {G H : Heap} {y : SV} {z : Nat} {rd rd' : Rd} {F : List Nat} (h : y.C G H z rd F) (hrd : ∀ q, q < z → rd' q = rd q) : y.C G H z rd' F := by
  cases y with
  | agg cs => simp only [SV.C] at h ⊢; exact ⟨h.1, CL_congr (fun j hj => hrd j (by omega)) h.2⟩
  | _ =>
    first
      | (simp only [SV.C] at h; done)
      | (have hz : z = 1 := by
           have h' := h
           simp only [SV.C] at h'
           exact h'.1
         subst hz
         exact CL_congr.C_congr _ rfl (hrd 0 (by omega)) h)

theorem flat_sublist {n : Nat} {g g' : Nat → List Nat} (h : ∀ k, k < n → (g' k).Sublist (g k)) : (flat n g').Sublist (flat n g) := by
  unfold flat
  have : ∀ (l : List Nat), (∀ k ∈ l, (g' k).Sublist (g k)) → (l.flatMap g').Sublist (l.flatMap g) := by
    intro l
    induction l with
    | nil => intro _; simp
    | cons a l ih =>
      intro hl
      simp only [List.flatMap_cons]
      exact (hl a (by simp)).append (ih (fun k hk => hl k (by simp [hk])))
  exact this _ (fun k hk => h k (by simpa using hk))

def sStore (P : Program) (st : St) (t : TypeId) (x v : SV) : Option (Prop × St) :=
  match P.info? t with
  | none => none
  | some ti =>
    if v.cells.length = ti.size ∧ v.known = true then
      match x with
      | .ptr i off => match st.L.get i with
        | some (.var cs) => if off + ti.size ≤ cs.length then some (okL v.cells = true, { st with L := st.L.set i (.var (ovl cs off v.cells)) }) else none
        | _ => none
      | .elp i z k off => match st.L.get i with
        | some (.row z' n f) =>
          if z' = z ∧ off + ti.size ≤ z ∧ noOwnL v.cells = true then
            some (k < n ∧ okL v.cells = true, { st with L := st.L.set i (.row z n (fun j => cond (Nat.beq j k) (mkE (if ti.size = z then v.cells else ovl (f k).elems off v.cells)) (f j))) })
          else none
        | _ => none
      | _ => none
    else none

theorem Ents.get_some_mem {L : Ents} {i : Nat} {e : Ent} (h : L.get i = some e) : (i, e) ∈ L := Ents.mem_of_get h

/-- One entry's block turns; its footprint may shrink. -/
theorem Cfg.turn {N : Nat} {st : St} {g : Gh} {a : Act} {w w' : World} {ρ : Nat → Nat × Nat} {Fp : Nat → List Nat} {ms : List Nat} (h : Cfg N st g a w ρ Fp ms) {i : Nat} {e e' : Ent} (hi : st.L.get i = some e) {b : Nat}
    {c' : Array Value} {et : TypeId} {fr : Nat × Nat} (hT : Turned w w' b c' et fr) (hb : b ∈ Fp i) {F' : List Nat} (hF : F'.Sublist (Fp i)) (he : EntR ρ g.G g.S (World.H w') i e' F') :
    Mem ρ g w' (st.L.set i e') (fun j => if j = i then F' else Fp j) ∧ Marks g w' (st.L.set i e') (fun j => if j = i then F' else Fp j) ms := by
  have hm := Ents.mem_of_get hi
  have hmem : ∀ j ej, (j, ej) ∈ st.L.set i e' → ∀ x ∈ (if j = i then F' else Fp j), x ∈ Fp j ∧ ∃ e0, (j, e0) ∈ st.L := by
    intro j ej hj x hx
    rcases Ents.mem_set hj with ⟨rfl, rfl⟩ | ⟨hmj, hne⟩
    · simp at hx; exact ⟨hF.subset hx, e, hm⟩
    · simp [hne] at hx; exact ⟨hx, ej, hmj⟩
  refine ⟨Mem.turn h.mem i e' F' (fun j ej hj => Ents.mem_set hj) (by rw [Ents.keys_set]; exact h.mem.keys) (fun _ _ _ _ => ⟨rfl, fun _ _ => rfl⟩) ?_ he ((h.mem.nd i e hm).sublist hF)
    (fun x hx => .inl ⟨hF.subset hx, e, hm⟩) hT.os hT.out hT.tape, ?_⟩
  · intro x _ hx
    refine hT.oth x (fun hxb => ?_)
    subst hxb
    rcases hx with hx | hx
    · exact hx hb
    · exact hx e hm
  · refine h.marks.keep (fun m hm' => hT.oth m (fun hmb => ?_)) (fun m hm' j ej hj hx => ?_)
    · subst hmb; exact h.marks.nf m hm' i e hm hb
    · obtain ⟨h1, e0, h2⟩ := hmem j ej hj m hx
      exact h.marks.nf m hm' j e0 h2 h1

theorem run_storeVar {P : Program} {w : World} {t : TypeId} {ti : TypeInfo} (hi : P.info? t = some ti) {v : Value} (hs : v.cells.size = ti.size) (a : Addr) {w' : World} (h : (storeCells a v.cells.toList).run P w = .ok () w') :
    (storeVar t a v).run P w = .ok () w' := by
  simp [storeVar, size_info hi, hs, h]

theorem snd_store {P : Program} {N : Nat} {o : Oper} {st st' : St} {t : TypeId} {x y : Operand} {c : Prop} (ho : o.op = .store t x y) (h : sStore P st t (st.ev x) (st.ev y) = some (c, st')) (hc : c) : Snd P N o st st' (.v undef) := by
  intro g a w ρ Fp ms hg
  have h1 := frm_ev hg.frm x
  have h2 := frm_ev hg.frm y
  unfold sStore at h
  split at h
  · simp at h
  rename_i ti hti
  split at h
  case isFalse => simp at h
  rename_i hlen
  have hcells := R_cells hlen.2 h2
  have hsz : (a.eval y).cells.size = ti.size := by
    have := SV.RL_length hcells
    simp at this; omega
  have fin : ∀ {b off : Nat} {cc c' : Array Value} {et : TypeId} {fr : Nat × Nat} {w' : World} {L' : Ents} {Fp' : Nat → List Nat}, a.eval x = .pointer (some ⟨b, off, none⟩) →
      (storeCells ⟨b, off, none⟩ (a.eval y).cells.toList).run P w = .ok () w' → Mem ρ g w' L' Fp' → Marks g w' L' Fp' ms → st' = { st with L := L' } →
      ∃ u w' ρ' Fp', ((execOp a.eval o).run P w = .ok (.value u) w' ∨ ((execOp a.eval o).run P w = .ok .skip w' ∧ u = undef)) ∧
        Mem ρ' g w' st'.L Fp' ∧ Frm ρ' g.G st'.fr a.tmps ∧ Same st st' ρ ρ' ∧ Marks g w' st'.L Fp' ms ∧ (SV.v undef).R ρ' g.G u := by
    intro b off cc c' et fr w' L' Fp' hb hrun hM hmk hst
    subst hst
    refine ⟨undef, w', ρ, Fp', .inr ⟨?_, rfl⟩, hM, hg.frm, ⟨rfl, rfl, fun _ _ => rfl⟩, hmk, by simp [SV.R]⟩
    have := run_storeVar hti hsz _ hrun
    simp [execOp, ho, Instr.storeAt, hb, Instr.sureAddr, this]
  split at h
  · rename_i i off hx
    rw [hx] at h1
    simp only [SV.R] at h1
    split at h
    · rename_i cs hi
      split at h
      · rename_i hle
        simp only [Option.some.injEq, Prod.mk.injEq] at h
        obtain ⟨rfl, hst⟩ := h
        obtain ⟨cc, e, fr, hb, hcs, hwr, hcl, hFp, hr⟩ := hg.mem.blk_var hi
        have hok := RL_cells_ok hc hcells
        have hul : (a.eval y).cells.toList.length = (st.ev y).cells.length := SV.RL_length hcells
        obtain ⟨w', c', hrun, hT, hs', hj'⟩ := run_storeCells_blk (P := P) (ρ i).1 off e fr (a.eval y).cells.toList 0 cc w hb hwr (by rw [hul, hlen.1]; omega) hok
        have he : EntR ρ g.G g.S (World.H w') i (.var (ovl cs off (st.ev y).cells)) [(ρ i).1] := by
          refine ⟨c', e, fr, hT.blk, hs'.trans hcs, by rw [hs']; exact hwr, by rw [ovl_length (by omega), hs']; exact hcl, rfl, fun j xx hj => ?_⟩
          rw [ovl_get (by omega)] at hj
          rw [hj' j]
          by_cases hin : off ≤ j ∧ j < off + (st.ev y).cells.length
          · rw [if_pos hin] at hj
            rw [if_pos (by rw [hul]; simpa using hin)]
            obtain ⟨u, hu, hru⟩ := SV.RL_get hcells hj
            refine ⟨u, by simpa using hu, hok u (List.mem_of_getElem? hu), hru⟩
          · rw [if_neg hin] at hj
            rw [if_neg (by rw [hul]; simpa using hin)]
            exact hr j xx hj
        obtain ⟨hM, hmk⟩ := hg.turn hi hT (by rw [hFp]; simp) (by rw [hFp]; exact List.Sublist.refl _) he
        exact fin (cc := cc) (c' := c') (et := e) (fr := fr) h1 hrun hM hmk hst.symm
      · simp at h
    · simp at h
  · rename_i i z k off hx
    rw [hx] at h1
    simp only [SV.R] at h1
    split at h
    · rename_i z' n f hi
      split at h
      · rename_i hcond
        obtain ⟨rfl, hle, hno⟩ := hcond
        simp only [Option.some.injEq, Prod.mk.injEq] at h
        obtain ⟨rfl, hst⟩ := h
        rcases hg.mem.ent i _ (Ents.mem_of_get hi) with ⟨h0, _⟩ | ⟨cc, e, fr, gg, hb, hcs, hwr, hns, hFp, hr⟩
        · have := hc.1; omega
        have hk := hc.1
        have hok := RL_cells_ok hc.2 hcells
        have hul : (a.eval y).cells.toList.length = (st.ev y).cells.length := SV.RL_length hcells
        have hkz : k * z' + z' ≤ n * z' := by
          have : (k + 1) * z' ≤ n * z' := Nat.mul_le_mul_right _ hk
          rwa [Nat.add_mul, Nat.one_mul] at this
        obtain ⟨w', c', hrun, hT, hs', hj'⟩ := run_storeCells_blk (P := P) (ρ i).1 (k * z' + off) e fr (a.eval y).cells.toList 0 cc w hb hwr (by rw [hul, hlen.1]; omega) hok
        obtain ⟨hCL, hel⟩ := C_elemsF (hr k hk)
        -- the new cells of element k
        obtain ⟨F', hF', hnew⟩ : ∃ F', F'.Sublist (gg k) ∧ SV.CL g.G (World.H w') (if ti.size = z' then (st.ev y).cells else ovl (f k).elems off (st.ev y).cells) (fun j => c'[k * z' + j]?) F' := by
          have hCL' : SV.CL g.G (World.H w') (f k).elems (fun j => cc[k * z' + j]?) (gg k) := SV.CL_mono (Heap.le_refl _) _ _ _ (fun b hb' => hT.oth b (fun hbb => by
            have hnd := hg.mem.nd i _ (Ents.mem_of_get hi)
            rw [hFp] at hnd
            exact (List.nodup_cons.1 hnd).1 (hbb ▸ mem_flat.2 ⟨k, hk, hb'⟩))) hCL
          obtain ⟨F', hs, hF⟩ := CL_ovl off (rd' := fun j => c'[k * z' + j]?) hno hcells hok (by rw [hel, hlen.1]; exact hle) (fun j => by
            show c'[k * z' + j]? = _
            rw [hj']
            by_cases hin : off ≤ j ∧ j < off + (st.ev y).cells.length
            · rw [if_pos hin, if_pos (by rw [hul]; omega)]; congr 1; omega
            · rw [if_neg hin, if_neg (by rw [hul]; omega)]) hCL'
          by_cases hz : ti.size = z'
          · rw [if_pos hz]
            have : ovl (f k).elems off (st.ev y).cells = (st.ev y).cells := by
              have ho0 : off = 0 := by omega
              subst ho0
              simp only [ovl, List.take_zero, List.nil_append, Nat.zero_add]
              rw [List.drop_eq_nil_of_le (by rw [hel, hlen.1, hz]; exact Nat.le_refl _), List.append_nil]
            rw [this] at hF
            exact ⟨F', hs, hF⟩
          · rw [if_neg hz]; exact ⟨F', hs, hF⟩
        have hlenNew : (if ti.size = z' then (st.ev y).cells else ovl (f k).elems off (st.ev y).cells).length = z' := by
          split
          · rw [hlen.1]; assumption
          · rw [ovl_length (by rw [hel, hlen.1]; exact hle), hel]
        let g' : Nat → List Nat := fun j => if j = k then F' else gg j
        have hsub : (flat n g').Sublist (flat n gg) := by
          refine flat_sublist (fun j _ => ?_)
          by_cases hjk : j = k
          · subst hjk; simpa [g'] using hF'
          · simp [g', hjk]
        have he : EntR ρ g.G g.S (World.H w') i (.row z' n (fun j => cond (Nat.beq j k) (mkE (if ti.size = z' then (st.ev y).cells else ovl (f k).elems off (st.ev y).cells)) (f j))) ((ρ i).1 :: flat n g') := by
          refine .inr ⟨c', e, fr, g', hT.blk, hs'.trans hcs, by rw [hs']; exact hwr, by rw [hs']; exact hns, rfl, fun j hj => ?_⟩
          by_cases hjk : j = k
          · subst hjk
            simp only [Nat.beq_eq_true_eq, g', if_true]
            have := C_mkE hnew
            rw [hlenNew] at this
            simpa using this
          · have hbq : Nat.beq j k = false := by
              rw [Bool.eq_false_iff]; intro hb'; exact hjk (Nat.eq_of_beq_eq_true hb')
            simp only [hbq, cond_false, g', hjk, if_false]
            have hne : ∀ q, q < z' → ¬ (k * z' + off ≤ j * z' + q ∧ j * z' + q < k * z' + off + (st.ev y).cells.length) := by
              intro q hq hcon
              rcases Nat.lt_or_gt_of_ne hjk with hlt | hgt
              · have : (j + 1) * z' ≤ k * z' := Nat.mul_le_mul_right _ hlt
                rw [Nat.add_mul, Nat.one_mul] at this; omega
              · have : (k + 1) * z' ≤ j * z' := Nat.mul_le_mul_right _ hgt
                rw [Nat.add_mul, Nat.one_mul] at this
                rw [hlen.1] at hcon; omega
            have hm := SV.C_mono (Heap.le_refl g.G) (H' := World.H w') _ _ _ _ (fun b hb' => hT.oth b (fun hbb => by
              have hnd := hg.mem.nd i _ (Ents.mem_of_get hi)
              rw [hFp] at hnd
              exact (List.nodup_cons.1 hnd).1 (hbb ▸ mem_flat.2 ⟨j, hj, hb'⟩))) (hr j hj)
            refine C_congrZ hm (fun q hq => ?_)
            show c'[j * z' + q]? = cc[j * z' + q]?
            rw [hj', if_neg (by rw [hul]; simpa using hne q hq)]
        obtain ⟨hM, hmk⟩ := hg.turn hi hT (by rw [hFp]; simp) (by rw [hFp]; exact hsub.cons₂ _) he
        exact fin (cc := cc) (c' := c') (et := e) (fr := fr) h1 hrun hM hmk hst.symm
      · simp at h
    · simp at h
  · simp at h
end Go.Sym
