/- Calls that are walked in place, and loops over functions: a frame is laid aside while another runs; what a call walked in place must show. -/
import Derived.Test.YtjbbpacbfpbbcaaSI
import Derived.RangeFuncIn
import Derived.RangeFuncRecord
import Derived.Laws.Externs
import Derived.Lib.MakeNoZero
set_option linter.all false
set_option linter.unusedSimpArgs false
set_option linter.unusedVariables false
set_option linter.deprecated false
set_option linter.unusedSimpArgs false
set_option linter.unusedVariables false
namespace Go.Sym

/-- A loop over a function, as the rounds know it. -/
structure YH where
  id : Nat
  N : Nat
  own : Nat
  ps : Array Tmp
  assign : Code
  body : Code

def YH.ok (g : Gh) (y : YH) : Prop := (g.S y.id).ps = y.ps ∧ (g.S y.id).assign = y.assign ∧ (g.S y.id).body = y.body ∧ (g.S y.id).tmps.size = y.N
def EnvOk (g : Gh) (env : List YH) : Prop := ∀ y ∈ env, y.ok g
theorem EnvOk.le {g g' : Gh} {env : List YH} (h : EnvOk g env) (hle : g.le g') : EnvOk g' env := fun y hy => by
  unfold YH.ok; rw [hle.S]; exact h y hy

/-- A way of code, with the loops over functions around it. -/
def WPe (P : Program) (r : Option Nat) (N : Nat) (env : List YH) (c : Code) (st : St) (Q : Exit → St → Prop) : Prop :=
  ∀ g a w, EnvOk g env → Holds N st g a w → c.wpIn (FW r) 0 P (Post N g Q) a w

def WPope (P : Program) (r : Option Nat) (N : Nat) (env : List YH) (o : Oper) (st : St) (K : St → Prop) : Prop :=
  ∀ g a w, EnvOk g env → Holds N st g a w → o.wpIn (FW r) 0 P a w (fun a' w' => ∃ g' st', g.le g' ∧ Holds N st' g' a' w' ∧ K st') (fun _ _ _ => False)

theorem WPe.of {P : Program} {r : Option Nat} {N : Nat} {env : List YH} {c : Code} {st : St} {Q : Exit → St → Prop} (h : WP P r N c st Q) : WPe P r N env c st Q := fun g a w _ hg => h g a w hg
theorem WPe.nil {P : Program} {r : Option Nat} {N : Nat} {c : Code} {st : St} {Q : Exit → St → Prop} (h : WPe P r N [] c st Q) : WP P r N c st Q := fun g a w hg => h g a w (fun y hy => by simp at hy) hg
theorem WPope.of {P : Program} {r : Option Nat} {N : Nat} {env : List YH} {o : Oper} {st : St} {K : St → Prop} (h : WPop P r N o st K) : WPope P r N env o st K := fun g a w _ hg => h g a w hg

theorem WPe_mono {P : Program} {r : Option Nat} {N : Nat} {env : List YH} {c : Code} {st : St} {Q Q' : Exit → St → Prop} (h : ∀ e s, Q e s → Q' e s) (hw : WPe P r N env c st Q) : WPe P r N env c st Q' :=
  fun g a w he hg => wpIn_mono (hw g a w he hg) (fun e a' w' ⟨g', st', h1, h2, h3⟩ => ⟨g', st', h1, h2, h e st' h3⟩)

theorem EntR.ofS {ρ : Nat → Nat × Nat} {G H : Heap} {S S' : Sts} {i : Nat} {e : Ent} {F : List Nat} (hS : e.isLp = true → S' i = S i) (h : EntR ρ G S H i e F) : EntR ρ G S' H i e F := by
  cases e with
  | var cs => exact h
  | row z n f => exact h
  | rowo z n f k cs => exact h
  | lp fr s =>
    obtain ⟨r, h1, h2, h3, h4, h5, h6, h7, h8⟩ := h
    have := hS rfl
    exact ⟨r, h1, h2, by rw [this]; exact h3, by rw [this]; exact h4, by rw [this]; exact h5, by rw [this]; exact h6, h7, h8⟩

open Classical in
/-- The ghost part for what runs in between: all that is no entry's stays as it is. -/
noncomputable def inner (g : Gh) (ρ : Nat → Nat × Nat) (w : World) (L : Ents) (Fp : Nat → List Nat) : Gh :=
  { g with B := fun b => if ∃ i e, (i, e) ∈ L ∧ b ∈ Fp i then none else World.H w b, ρ0 := ρ }

section
variable {N : Nat} {st : St} {g : Gh} {a : Act} {w : World} {ρ : Nat → Nat × Nat} {Fp : Nat → List Nat} {ms : List Nat}

theorem inner_some {L : Ents} {b : Nat} {o : Obj} : (inner g ρ w L Fp).B b = some o ↔ (¬ ∃ i e, (i, e) ∈ L ∧ b ∈ Fp i) ∧ World.H w b = some o := by
  simp only [inner]
  split
  · rename_i h; exact ⟨fun h' => by simp at h', fun h' => absurd h h'.1⟩
  · rename_i h; exact ⟨fun h' => ⟨h, h'⟩, fun h' => h'.2⟩

theorem inner_B (hm : Mem ρ g w st.L Fp) : Heap.le g.B (inner g ρ w st.L Fp).B := by
  intro b o hb
  rw [inner_some]
  refine ⟨?_, hm.bw b o hb⟩
  rintro ⟨i, e, h1, h2⟩
  rw [hm.nb i e h1 b h2] at hb; simp at hb

theorem inner_mem (hm : Mem ρ g w st.L Fp) : Mem ρ (inner g ρ w st.L Fp) w st.L Fp := by
  refine ⟨hm.keys, hm.ent, hm.nd, ?_, hm.dj, Heap.le_trans hm.gb (inner_B hm), fun b o hb => (inner_some.1 hb).2, hm.os, hm.out, hm.tape⟩
  intro i e hi b hb
  cases h : (inner g ρ w st.L Fp).B b with
  | none => rfl
  | some o => exact absurd ⟨i, e, hi, hb⟩ (inner_some.1 h).1

/-- A frame laid aside is as it was when what ran in between has ended. -/
theorem Cfg.resume (hc : Cfg N st g a w ρ Fp ms) (hbd : st.bd = true) {S1 : Sts} {g' : Gh} {ρ' : Nat → Nat × Nat} {w' : World} {L' : Ents} {Fp' : Nat → List Nat} {nx' : Nat}
    (hle : Gh.le { inner g ρ w st.L Fp with S := S1 } g') (hm' : Mem ρ' g' w' L' Fp') (hS : ∀ i e, (i, e) ∈ L' → e.isLp = true → g.S i = S1 i) (hρ : ∀ i, i < st.nx → ρ' i = ρ i) :
    ∃ gn, g.le gn ∧ gn.G = g'.G ∧ Cfg N { st with L := L', nx := nx' } gn a w' ρ' Fp' ms := by
  have hin := inner_B hc.mem
  have hstay : ∀ b o, (inner g ρ w st.L Fp).B b = some o → g'.B b = some o ∧ World.H w' b = some o := fun b o hb => ⟨hle.B b o hb, hm'.bw _ _ (hle.B b o hb)⟩
  let gn : Gh := { G := g'.G, B := fun b => match g'.G b with | some o => some o | none => g.B b, os := g.os, out := g.out, tape := g.tape, ρ0 := g.ρ0, S := g.S }
  have hB1 : ∀ b o, g.B b = some o → gn.B b = some o := by
    intro b o hb
    show (match g'.G b with | some o => some o | none => g.B b) = some o
    cases hgb : g'.G b with
    | none => exact hb
    | some o' =>
      have h1 := (hstay b o (hin b o hb)).1
      rw [hm'.gb b o' hgb] at h1
      exact h1
  have hnone : ∀ b, g'.B b = none → gn.B b = none := by
    intro b hb
    show (match g'.G b with | some o => some o | none => g.B b) = none
    cases hgb : g'.G b with
    | none =>
      cases hgB : g.B b with
      | none => rfl
      | some o => rw [(hstay b o (hin b o hgB)).1] at hb; simp at hb
    | some o => rw [hm'.gb _ _ hgb] at hb; simp at hb
  have hnew : ∀ b o, g'.G b = some o → g.G b = some o ∨ g.B b = none := by
    intro b o hb
    rcases hle.new b o hb with h1 | h1
    · exact .inl h1
    · right
      cases hgb : g.B b with
      | none => rfl
      | some o' => rw [show (inner g ρ w st.L Fp).B b = some o' from hin b o' hgb] at h1; simp at h1
  have hgle : g.le gn := ⟨rfl, rfl, rfl, rfl, rfl, hle.G, hB1, hnew⟩
  refine ⟨gn, hgle, rfl, ⟨⟨hm'.keys, fun i e hi => (hm'.ent i e hi).ofS ?_, hm'.nd, fun i e hi b hb => hnone b (hm'.nb i e hi b hb), hm'.dj, ?_, ?_, hm'.os.trans hle.os, hm'.out.trans hle.out, hm'.tape.trans hle.tape⟩, ?_, hc.dec, hc.size, hc.defers, ⟨?_, ?_, ?_, hc.marks.nd⟩, ?_⟩⟩
  · intro hl
    rw [hle.S]
    exact hS i e hi hl
  · intro b o hb
    show (match g'.G b with | some o => some o | none => g.B b) = some o
    rw [show g'.G b = some o from hb]
  · intro b o hb
    replace hb : (match g'.G b with | some o => some o | none => g.B b) = some o := hb
    cases hgb : g'.G b with
    | none => rw [hgb] at hb; exact (hstay b o (hin b o hb)).2
    | some o' => rw [hgb] at hb; rw [← hb]; exact hm'.bw _ _ (hm'.gb _ _ hgb)
  · exact fun t => SV.R_mono hle.G _ _ (fun i hi => hρ i (St.bd_fr hbd t i hi)) (hc.frm t)
  · intro m hm
    have : (inner g ρ w st.L Fp).B m = some (.deferred (some [])) := inner_some.2 ⟨fun ⟨i, e, h1, h2⟩ => hc.marks.nf m hm i e h1 h2, hc.marks.at_ m hm⟩
    exact (hstay m _ this).2
  · intro m hm
    have h0 : (inner g ρ w st.L Fp).B m = some (.deferred (some [])) := inner_some.2 ⟨fun ⟨i, e, h1, h2⟩ => hc.marks.nf m hm i e h1 h2, hc.marks.at_ m hm⟩
    show (match g'.G m with | some o => some o | none => g.B m) = none
    cases hgb : g'.G m with
    | none => exact hc.marks.nb m hm
    | some o =>
      rcases hle.new m o hgb with h1 | h1
      · have := hc.mem.gb m o h1
        rw [hc.marks.nb m hm] at this; simp at this
      · rw [show ({ inner g ρ w st.L Fp with S := S1 } : Gh).B m = _ from h0] at h1; simp at h1
  · intro m hm i e hi hmem
    have h0 : (inner g ρ w st.L Fp).B m = some (.deferred (some [])) := inner_some.2 ⟨fun ⟨i, e, h1, h2⟩ => hc.marks.nf m hm i e h1 h2, hc.marks.at_ m hm⟩
    have := hm'.nb i e hi m hmem
    rw [(hstay m _ h0).1] at this; simp at this
  · intro i hi
    have hb : st.base ≤ st.nx := by
      simp only [St.bd, Bool.and_eq_true, Nat.ble_eq] at hbd; exact hbd.2
    show ρ' i = g.ρ0 i
    rw [hρ i (Nat.lt_of_lt_of_le hi hb)]
    exact hc.base i hi
end

/-- What a body walked in place must have at its end. -/
def RetK (P : Program) (fn : Func) (base : Nat) (K : SV → St → Prop) (e : Exit) (st : St) : Prop :=
  match e with
  | .normal | .ret => cond (Nat.beq st.base base) (match resF P fn st with
    | some (c, x) => c ∧ K x st
    | none => False) False
  | _ => False

/-- A CALL WALKED IN PLACE. -/
theorem CallsK_of {P : Program} {f : FuncId} {fn : Func} {c : Code} (hf : P.funcs[f]? = some fn) (hb : fn.body = some c) {env : List YH} {xs : List SV} {L : Ents} {nx base : Nat} {K : SV → St → Prop} (hl : xs.length ≤ fn.ntmps)
    {g : Gh} {ρ : Nat → Nat × Nat} {Fp : Nat → List Nat} {w : World} {us : List Value} (hus : SV.RL ρ g.G xs us) (hm : Mem ρ g w L Fp) (hbase : ∀ i, i < base → ρ i = g.ρ0 i) (henv : EnvOk g env)
    (h : WPe P none fn.ntmps env c { fr := (List.range xs.length).zip xs, L, nx, dec := [], base } (RetK P fn base K)) :
    CallsIn Fence.wide 0 P f us.toArray w (fun e w' => ∃ v, e = .returned v ∧ ∃ g' ρ' Fp' x st', g.le g' ∧ Mem ρ' g' w' st'.L Fp' ∧ x.R ρ' g'.G v ∧ (∀ i, i < base → ρ' i = g.ρ0 i) ∧ K x st') := by
  have hlen := SV.RL_length hus
  refine callsIn_of_wp_marks hf hb trivial (wpIn_mono (h g _ w henv ⟨ρ, Fp, [], ⟨hm, ?_, ?_, ?_, by simp, ⟨by simp, by simp, by simp, by simp⟩, hbase⟩⟩) ?_)
  · intro t
    have : fget ((List.range xs.length).zip xs) t = (xs[t]?).getD .any := by
      have := fget_zip xs 0 t
      rw [Nat.zero_add] at this
      rw [← this]
      simp [List.range_eq_range']
    show (fget ((List.range xs.length).zip xs) t).R _ _ _
    rw [this]
    by_cases ht : t < xs.length
    · obtain ⟨u, hu, hr⟩ := SV.RL_get hus (List.getElem?_eq_getElem ht)
      rw [List.getElem?_eq_getElem ht]
      simp only [Option.getD_some]
      have h2 : (us.toArray ++ Array.replicate (fn.ntmps - us.toArray.size) undef).getD t undef = u := by
        rw [Array.getD_eq_getD_getElem?, Array.getElem?_append_left (by simp; omega)]
        simp [hu]
      rw [h2]; exact hr
    · rw [List.getElem?_eq_none (by omega)]
      simp [SV.R]
  · intro t b ht; simp [dget] at ht
  · simp [hlen]; omega
  · rintro e a w' ⟨g', st', hle, ⟨ρ', Fp', ms, hc⟩, hret⟩
    have key : (cond (Nat.beq st'.base base) (match resF P fn st' with | some (c, x) => c ∧ K x st' | none => False) False) →
        LeavesInM Fence.wide 0 P fn a.tmps (fun e w' => ∃ v, e = .returned v ∧ ∃ g' ρ' Fp' x st', g.le g' ∧ Mem ρ' g' w' st'.L Fp' ∧ x.R ρ' g'.G v ∧ (∀ i, i < base → ρ' i = g.ρ0 i) ∧ K x st') a.defers .returning w' := by
      intro hret
      obtain ⟨h1, h2⟩ := condF hret
      have hb2 := Nat.eq_of_beq_eq_true h1
      split at h2
      · rename_i cc x1 hres
        rw [hc.defers]
        refine leavesM (fun w2 hm2 => ?_) ms w' hc.mem hc.marks
        have hc2 : Cfg fn.ntmps st' g' { a with defers := [] } w2 ρ' Fp' [] := ⟨hm2, hc.frm, hc.dec, hc.size, rfl, ⟨by simp, by simp, by simp, by simp⟩, hc.base⟩
        obtain ⟨u, hu, hru⟩ := resF_ok hc2 hres h2.1
        refine ⟨u, hu, u, rfl, g', ρ', Fp', x1, st', hle, hm2, hru, fun i hi => ?_, h2.2⟩
        rw [hc.base i (by rw [hb2]; exact hi), hle.ρ0]
      · exact h2.elim
    cases e with
    | normal => exact key hret
    | ret => exact key hret
    | _ => exact hret.elim

theorem RL_app {ρ : Nat → Nat × Nat} {G : Heap} : ∀ {xs ys : List SV} {us vs : List Value}, SV.RL ρ G xs us → SV.RL ρ G ys vs → SV.RL ρ G (xs ++ ys) (us ++ vs)
  | [], ys, us, vs, h1, h2 => by simp only [SV.RL] at h1; subst h1; simpa using h2
  | x :: xs, ys, us, vs, h1, h2 => by
    simp only [SV.RL] at h1
    obtain ⟨u, rest, rfl, h3, h4⟩ := h1
    simp only [List.cons_append, SV.RL]
    exact ⟨u, rest ++ vs, rfl, h3, RL_app h4 h2⟩

theorem RL_args {ρ : Nat → Nat × Nat} {G : Heap} {st : St} {a : Act} (h : Frm ρ G st.fr a.tmps) (args : Array Operand) : SV.RL ρ G (args.toList.map st.ev) (args.map a.eval).toList := by
  refine SV.RL_mk (by simp) (fun j y hj => ?_)
  rw [List.getElem?_map, Option.map_eq_some_iff] at hj
  obtain ⟨z, hz, rfl⟩ := hj
  exact ⟨a.eval z, by simp [hz], frm_ev h z⟩

theorem holds_put {N : Nat} {st : St} {g : Gh} {a : Act} {w : World} {ρ : Nat → Nat × Nat} {Fp : Nat → List Nat} {ms : List Nat} (hc : Cfg N st g a w ρ Fp ms) {dst : Option Tmp} (hd : dstOk N dst = true) {x : SV} {u : Value} (hx : x.R ρ g.G u) :
    Holds N (st.put dst x) g (a.put dst u) w :=
  ⟨ρ, Fp, ms, hc.put hc.mem hc.frm (Same.refl st ρ) hc.marks (fun d h => by subst h; simpa [dstOk] using hd) hx⟩

/-- What a call walked in place comes to. -/
def inlK (st : St) (dst : Option Tmp) (K : St → Prop) (x : SV) (st' : St) : Prop := K (St.put { st with L := st'.L, nx := max st.nx st'.nx } dst x)

theorem WPope_inline {P : Program} {r : Option Nat} {N : Nat} {env : List YH} {o : Oper} {st : St} {K : St → Prop} {fv : Operand} {args : Array Operand} {aty : Array TypeId} {f : FuncId} {fs cs : List SV} {fn : Func} {c : Code}
    (ho : o.op = .call { callee := .value fv, args, argTypes := aty }) (hfv : st.ev fv = .fn f fs cs) (hf : P.funcs[f]? = some fn) (hn : (fn.name == "runtime.NumGoroutine") = false) (hb : fn.body = some c)
    (hd : dstOk N o.dst = true) (hbd : st.bd = true) (hl : (fs ++ args.toList.map st.ev ++ cs).length ≤ fn.ntmps)
    (h : WPe P none fn.ntmps env c { fr := (List.range (fs ++ args.toList.map st.ev ++ cs).length).zip (fs ++ args.toList.map st.ev ++ cs), L := st.L, nx := st.nx, dec := [], base := st.nx } (RetK P fn st.nx (inlK st o.dst K))) :
    WPope P r N env o st K := by
  rintro g a w henv ⟨ρ, Fp, ms, hg⟩
  have hfn := frm_ev hg.frm fv
  rw [hfv] at hfn
  simp only [SV.R] at hfn
  obtain ⟨us1, us2, hfe, hr1, hr2⟩ := hfn
  have hys := RL_app (RL_app hr1 (RL_args hg.frm args)) hr2
  have hcall := CallsK_of (g := inner g ρ w st.L Fp) hf hb hl hys (inner_mem hg.mem) (base := st.nx) (fun i _ => rfl) (fun y hy => henv y hy) h
  refine ⟨fun _ _ => trivial, ?_⟩
  rw [Oper.semAt_eq _ _ _ (by rw [ho]; intro c; simp)]
  have hrun1 : (execOp a.eval o).run P w = .ok (.enter f (us1 ++ args.map a.eval ++ us2)) w := by
    simp only [execOp, ho, resolve, hfe, Deferred.ofValue, Sem.run_bind, Sem.run_pure, Result.andThen_ok, invoke]
    exact run_callee hf hn (by rw [hb]; rfl) _ _
  rw [hrun1]
  have harr : (us1.toList ++ (args.map a.eval).toList ++ us2.toList).toArray = us1 ++ args.map a.eval ++ us2 := by
    apply Array.ext'; simp
  rw [harr] at hcall
  refine ⟨fun h => by simp [FW, Fence.wide] at h, CallsIn.mono (show CallsIn (FW r) 0 P f _ w _ from hcall) ?_⟩
  rintro e w' ⟨v, rfl, g', ρ', Fp', x, st', hle, hm', hv, hkeep, hK⟩
  obtain ⟨gn, n1, n2, n3⟩ := hg.resume (S1 := g.S) hbd hle hm' (fun _ _ _ _ => rfl) (fun i hi => hkeep i hi) (nx' := max st.nx st'.nx)
  exact ⟨gn, _, n1, holds_put n3 hd (by rw [n2]; exact hv), hK⟩

section
variable {N : Nat} {st : St} {g : Gh} {a : Act} {w : World} {ρ : Nat → Nat × Nat} {Fp : Nat → List Nat} {ms : List Nat} {i : Nat} {fr : List (Nat × SV)} {s : LSt}

theorem Mem.setLp {L : Ents} (h : Mem ρ g w L Fp) (hi : L.get i = some (.lp fr s)) (s' : LSt) {r' : Loop} (h1 : r'.tmps = (g.S i).tmps) (h2 : r'.params = (g.S i).ps) (h3 : r'.assign = (g.S i).assign)
    (h4 : r'.body = (g.S i).body) (h5 : s'.ok r'.state r'.pending) :
    Mem ρ g (w.putObj (ρ i).1 (.loop r')) (L.set i (.lp fr s')) Fp ∧ ∀ b, b ≠ (ρ i).1 → World.H (w.putObj (ρ i).1 (.loop r')) b = World.H w b := by
  have hm := Ents.mem_of_get hi
  obtain ⟨r, k1, k2, k3, k4, k5, k6, k7, k8⟩ := h.ent i _ hm
  have hlt : (ρ i).1 < w.heap.size := by
    simp only [World.H] at k1; exact (Array.getElem?_eq_some_iff.1 k1).1
  have hoth : ∀ b, b ≠ (ρ i).1 → World.H (w.putObj (ρ i).1 (.loop r')) b = World.H w b := fun b hb => World.putObj_heap_other hb
  refine ⟨?_, hoth⟩
  have hfp : Fp = fun j => if j = i then [(ρ i).1] else Fp j := by
    funext j
    by_cases hj : j = i
    · subst hj; simp [k2]
    · simp [hj]
  rw [hfp]
  refine Mem.turn h i _ _ (fun j e hj => Ents.mem_set hj) (by rw [Ents.keys_set]; exact h.keys) (fun _ _ _ _ => ⟨rfl, fun _ _ => rfl⟩) ?_ ?_ (by simp) ?_ rfl rfl rfl
  · intro b _ hb
    refine hoth b (fun hbi => ?_)
    rcases hb with hb | hb
    · exact hb (by rw [k2, hbi]; simp)
    · exact hb _ hm
  · refine ⟨r', World.putObj_heap_same hlt, rfl, h1, h2, h3, h4, ?_, h5⟩
    rw [h1, ← k3]; exact k7
  · intro b hb
    left
    refine ⟨by rw [k2]; exact hb, _, hm⟩

theorem Cfg.setLp (h : Cfg N st g a w ρ Fp ms) (hi : st.L.get i = some (.lp fr s)) (s' : LSt) {r' : Loop} (h1 : r'.tmps = (g.S i).tmps) (h2 : r'.params = (g.S i).ps) (h3 : r'.assign = (g.S i).assign)
    (h4 : r'.body = (g.S i).body) (h5 : s'.ok r'.state r'.pending) : Cfg N { st with L := st.L.set i (.lp fr s') } g a (w.putObj (ρ i).1 (.loop r')) ρ Fp ms := by
  obtain ⟨m1, m2⟩ := h.mem.setLp hi s' h1 h2 h3 h4 h5
  have hm := Ents.mem_of_get hi
  obtain ⟨r, k1, k2, _⟩ := h.mem.ent i _ hm
  refine ⟨m1, h.frm, h.dec, h.size, h.defers, h.marks.keep (fun m hm' => m2 m (fun hmi => ?_)) (fun m hm' j e hj => ?_), h.base⟩
  · exact h.marks.nf m hm' i _ hm (by rw [k2, hmi]; simp)
  · rcases Ents.mem_set hj with ⟨rfl, rfl⟩ | ⟨hj, _⟩
    · exact h.marks.nf m hm' _ _ hm
    · exact h.marks.nf m hm' j e hj

end

/-- The frame of a round. -/
def rndFr (ps : List Tmp) (xs : List SV) (fr : List (Nat × SV)) : List (Nat × SV) := (ps.zip xs).foldl (fun fr p => p :: fr) fr

theorem rndFr_ok {ρ : Nat → Nat × Nat} {G : Heap} : ∀ (ps : List Tmp) {xs : List SV} {us : List Value} {fr : List (Nat × SV)} {tmps : Array Value}, SV.RL ρ G xs us → Frm ρ G fr tmps → (∀ p ∈ ps, p < tmps.size) →
    Frm ρ G (rndFr ps xs fr) ((ps.zip us).foldl (fun t (p : Tmp × Value) => t.setIfInBounds p.1 p.2) tmps) ∧ ((ps.zip us).foldl (fun t (p : Tmp × Value) => t.setIfInBounds p.1 p.2) tmps).size = tmps.size
  | [], xs, us, fr, tmps, hr, hf, hp => by simp [rndFr]; exact hf
  | p :: ps, [], us, fr, tmps, hr, hf, hp => by
    simp only [SV.RL] at hr; subst hr
    simp [rndFr]; exact hf
  | p :: ps, x :: xs, us, fr, tmps, hr, hf, hp => by
    simp only [SV.RL] at hr
    obtain ⟨u, rest, rfl, h1, h2⟩ := hr
    have := rndFr_ok ps (fr := (p, x) :: fr) (tmps := tmps.setIfInBounds p u) h2 (frm_put hf (hp p (by simp)) h1) (fun q hq => by simp; exact hp q (by simp [hq]))
    simp only [rndFr, List.zip_cons_cons, List.foldl_cons] at this ⊢
    exact ⟨this.1, by rw [this.2]; simp⟩

/-- What the end of a round must have. -/
def RndK (i base : Nat) (st : St) (dst : Option Tmp) (K : St → Prop) (e : Exit) (s2 : St) : Prop :=
  cond (Nat.beq s2.base base) (match s2.L.get i with
    | some (.lp fr .busy) => match e with
      | .normal => K (St.put { st with L := s2.L.set i (.lp fr .ready), nx := max st.nx s2.nx } dst (.v (.bool true)))
      | .ret => K (St.put { st with L := s2.L.set i (.lp fr (.done .ret)), nx := max st.nx s2.nx } dst (.v (.bool false)))
      | .exit id => K (St.put { st with L := s2.L.set i (.lp fr (.done (.exit id))), nx := max st.nx s2.nx } dst (.v (.bool false)))
      | _ => False
    | _ => False) False

/-- A CALL OF YIELD: the round is walked. -/
theorem WPope_yield {P : Program} {r : Option Nat} {N : Nat} {env : List YH} {o : Oper} {st : St} {K : St → Prop} {fv : Operand} {args : Array Operand} {aty : Array TypeId} {i : Nat} {fr : List (Nat × SV)} {y : YH}
    (ho : o.op = .call { callee := .value fv, args, argTypes := aty }) (hfv : st.ev fv = .yld i) (hy : y ∈ env) (hyi : y.id = i) (hd : dstOk N o.dst = true) (hbd : st.bd = true) (hL : st.L.get i = some (.lp fr .ready))
    (hps : args.size = y.ps.size) (hpN : y.ps.toList.all (fun p => Nat.blt p y.N) = true)
    (h : ∀ l, WPe P (some l) y.N env y.assign { fr := rndFr y.ps.toList (args.toList.map st.ev) fr, L := st.L, nx := st.nx, dec := [], base := st.nx } (fun e s1 => match e with
      | .normal => cond (Nat.beq s1.base st.nx) (match s1.L.get i with
        | some (.lp fr1 .ready) => WPe P (some l) y.N env y.body { s1 with L := s1.L.set i (.lp fr1 .busy) } (RndK i st.nx st o.dst K)
        | _ => False) False
      | _ => False)) :
    WPope P r N env o st K := by
  rintro g a w henv ⟨ρ, Fp, ms, hg⟩
  have hm := Ents.mem_of_get hL
  have hi : i < st.nx := (St.bd_L hbd hm).1
  obtain ⟨rc, k1, k2, k3, k4, k5, k6, k7, k8, k9⟩ := hg.mem.ent i _ hm
  obtain ⟨y1, y2, y3, y4⟩ := henv y hy
  rw [hyi] at y1 y2 y3 y4
  have hfn := frm_ev hg.frm fv
  rw [hfv] at hfn
  simp only [SV.R] at hfn
  have hargs := RL_args hg.frm args
  have hlt : (ρ i).1 < w.heap.size := by
    have k1' := k1
    simp only [World.H] at k1'; exact (Array.getElem?_eq_some_iff.1 k1').1
  refine ⟨fun _ _ => trivial, ?_⟩
  rw [Oper.semAt_eq _ _ _ (by rw [ho]; intro c; simp)]
  have hrun1 : (execOp a.eval o).run P w = .ok (.round (ρ i).1 rc.fn ((rc.params.zip (args.map a.eval)).foldl (fun tmps (t, a) => tmps.setIfInBounds t a) rc.tmps) rc.assign rc.body) w := by
    simp only [execOp, ho, resolve, hfn, Deferred.ofValue, Sem.run_bind, Sem.run_pure, Result.andThen_ok, invoke]
    have := run_yield (P := P) (w := w) (l := (ρ i).1) (r := rc) (args := #[] ++ args.map a.eval) k1 (by rw [k4, y1, ← hps]; simp)
    simpa using this
  rw [hrun1]
  have hfold : ((rc.params.zip (args.map a.eval)).foldl (fun tmps (t, a) => tmps.setIfInBounds t a) rc.tmps) = (y.ps.toList.zip (args.map a.eval).toList).foldl (fun t (p : Tmp × Value) => t.setIfInBounds p.1 p.2) rc.tmps := by
    rw [← Array.foldl_toList, Array.toList_zip, k4, y1]
  rw [hfold]
  have hsz : rc.tmps.size = y.N := by rw [k3, y4]
  obtain ⟨f1, f2⟩ := rndFr_ok y.ps.toList hargs k7 (fun p hp => by
    have h1 : p < y.N := by simpa using List.all_eq_true.1 hpN p hp
    rw [hsz]; exact h1)
  refine ⟨fun h => by simp [FW, Fence.wide] at h, ?_⟩
  refine roundIn_of_wpIn trivial ?_
  have hF : ((FW r).inRound (ρ i).1) = FW (some (ρ i).1) := rfl
  rw [hF, k5, y2, k6, y3]
  refine wpIn_mono (h (ρ i).1 (inner g ρ w st.L Fp) _ w (fun y' hy' => henv y' hy') ⟨ρ, Fp, [], ⟨inner_mem hg.mem, f1, fun t b hb => by simp [dget] at hb, by show _ = y.N; rw [← hsz]; exact f2, by simp, ⟨by simp, by simp, by simp, by simp⟩, fun _ _ => rfl⟩⟩) ?_
  rintro e a1 w1 ⟨g1, s1, hle1, ⟨ρ1, Fp1, ms1, hc1⟩, hQ⟩
  cases e with
  | normal =>
    obtain ⟨b1, hQ⟩ := condF hQ
    have b1 := Nat.eq_of_beq_eq_true b1
    split at hQ
    · rename_i fr1 hL1
      have hm1 := Ents.mem_of_get hL1
      obtain ⟨r1, j1, j2, j3, j4, j5, j6, j7, j8, j9⟩ := hc1.mem.ent i _ hm1
      have hρ1 : ρ1 i = ρ i := by rw [hc1.base i (by rw [b1]; exact hi), hle1.ρ0]; rfl
      have c2 := hc1.setLp hL1 .busy (r' := { r1 with state := .busy }) j3 j4 j5 j6 rfl
      refine ⟨_, run_beginRound (by rw [← hρ1]; exact j1) j8, ?_⟩
      rw [← hρ1]
      rw [hρ1] at c2 ⊢
      refine wpIn_mono (hQ g1 a1 _ (fun y' hy' => by have := henv y' hy'; unfold YH.ok at this ⊢; rw [hle1.S]; exact this) ⟨ρ1, Fp1, ms1, c2⟩) ?_
      rintro e2 a2 w2 ⟨g2, s2, hle2, ⟨ρ2, Fp2, ms2, hc2⟩, hK⟩
      obtain ⟨b2, hK⟩ := condF hK
      have b2 := Nat.eq_of_beq_eq_true b2
      have hle : (inner g ρ w st.L Fp).le g2 := Gh.le_trans hle1 hle2
      have hkeep : ∀ j, j < st.nx → ρ2 j = ρ j := fun j hj => by rw [hc2.base j (by rw [b2]; exact hj), hle.ρ0]; rfl
      split at hK
      · rename_i fr2 hL2
        have hm2 := Ents.mem_of_get hL2
        obtain ⟨r2, q1, q2, q3, q4, q5, q6, q7, q8⟩ := hc2.mem.ent i _ hm2
        have fin : ∀ (s' : LSt) (jump : Option Code) (b : Bool), s'.ok (if jump.isNone then .ready else .done) jump → jump.isNone = b →
            K (St.put { st with L := s2.L.set i (.lp fr2 s'), nx := max st.nx s2.nx } o.dst (.v (.bool b))) →
            ∃ v w', (Instr.endRound (ρ i).1 jump).run P w2 = .ok v w' ∧ ∃ g' st', g.le g' ∧ Holds N st' g' (a.put o.dst v) w' ∧ K st' := by
          intro s' jump b hok hj hK
          refine ⟨_, _, run_endRound jump (by rw [← hkeep i hi]; exact q1), ?_⟩
          obtain ⟨m1, _⟩ := hc2.mem.setLp hL2 s' (r' := { r2 with state := if jump.isNone then .ready else .done, pending := jump }) q3 q4 q5 q6 hok
          rw [hkeep i hi] at m1
          obtain ⟨gn, n1, n2, n3⟩ := hg.resume (S1 := g.S) hbd hle m1 (fun _ _ _ _ => rfl) (fun j hj => hkeep j hj) (nx' := max st.nx s2.nx)
          refine ⟨gn, _, n1, holds_put n3 hd (x := .v (.bool b)) (by simp [SV.R, hj]), hK⟩
        cases e2 with
        | normal => exact fin .ready none true ⟨rfl, rfl⟩ rfl hK
        | ret => exact fin (.done .ret) (some .ret) false ⟨rfl, rfl⟩ rfl hK
        | exit id => exact fin (.done (.exit id)) (some (.exit id)) false ⟨rfl, rfl⟩ rfl hK
        | _ => exact hK.elim
      · exact hK.elim
    · exact hQ.elim
  | _ => exact hQ.elim

theorem Mem.allocO {ρ : Nat → Nat × Nat} {g : Gh} {w : World} {L : Ents} {Fp : Nat → List Nat} (h : Mem ρ g w L Fp) (o : Obj) : Mem ρ g (w.alloc o) L Fp := by
  refine ⟨h.keys, fun i e hi => (h.ent i e hi).mono (Heap.le_refl _) rfl (fun b hb => World.H_alloc_lt (h.lt hi hb)) rfl (fun _ _ => rfl), h.nd, h.nb, h.dj, h.gb, fun b o' hb => ?_, h.os, h.out, h.tape⟩
  have := h.bw b o' hb
  rw [World.H_alloc_lt]
  · exact this
  · simp only [World.H] at this; exact (Array.getElem?_eq_some_iff.1 this).1

theorem Cfg.withS {N : Nat} {st : St} {g : Gh} {a : Act} {w : World} {ρ : Nat → Nat × Nat} {Fp : Nat → List Nat} {ms : List Nat} (h : Cfg N st g a w ρ Fp ms) (S' : Sts) (hS : ∀ i e, (i, e) ∈ st.L → e.isLp = true → S' i = g.S i) :
    Cfg N st { g with S := S' } a w ρ Fp ms :=
  ⟨⟨h.mem.keys, fun i e hi => (h.mem.ent i e hi).ofS (hS i e hi), h.mem.nd, h.mem.nb, h.mem.dj, h.mem.gb, h.mem.bw, h.mem.os, h.mem.out, h.mem.tape⟩, h.frm, h.dec, h.size, h.defers, ⟨h.marks.at_, h.marks.nb, h.marks.nf, h.marks.nd⟩, h.base⟩

/-- What the function that is ranged over must have at its end. -/
def RngK (st : St) (Q : Exit → St → Prop) (s : St) : Prop :=
  match s.L.get st.nx with
  | some (.lp _ .ready) => Q .normal { st with L := s.L.del st.nx, nx := max st.nx s.nx }
  | some (.lp _ (.done .ret)) => Q .ret { st with L := s.L.del st.nx, nx := max st.nx s.nx }
  | some (.lp _ (.done (.exit id))) => Q (.exit id) { st with L := s.L.del st.nx, nx := max st.nx s.nx }
  | _ => False

/-- A LOOP OVER A FUNCTION: the function's body is walked in place. -/
theorem WPe_rangeFunc {P : Program} {N : Nat} {env : List YH} {st : St} {Q : Exit → St → Prop} {fv : Operand} {ps : Array Tmp} {assign body : Code} {own : Nat} {f : FuncId} {fs cs : List SV} {fn : Func} {c : Code}
    (hfv : st.ev fv = .fn f fs cs) (hf : P.funcs[f]? = some fn) (hn : (fn.name == "runtime.NumGoroutine") = false) (hb : fn.body = some c)
    (hbd0 : st.bd = true) (hbd : ({ st with L := (st.nx, .lp st.fr .ready) :: st.L, nx := st.nx + 1 } : St).bd = true) (henv : env.all (fun y => Nat.blt y.id st.nx) = true) (hl : (fs ++ [SV.yld st.nx] ++ cs).length ≤ fn.ntmps)
    (h : WPe P none fn.ntmps (⟨st.nx, N, own, ps, assign, body⟩ :: env) c { fr := (List.range (fs ++ [SV.yld st.nx] ++ cs).length).zip (fs ++ [SV.yld st.nx] ++ cs), L := (st.nx, .lp st.fr .ready) :: st.L, nx := st.nx + 1, dec := [], base := st.nx + 1 }
      (RetK P fn (st.nx + 1) (fun _ s => RngK st Q s))) :
    WPe P none N env (.rangeFunc fv ps assign body) st Q := by
  rintro g a w hev ⟨ρ, Fp, ms, hg⟩
  have hfn := frm_ev hg.frm fv
  rw [hfv] at hfn
  simp only [SV.R] at hfn
  obtain ⟨us1, us2, hfe, hr1, hr2⟩ := hfn
  refine wpIn_rangeFunc (fun fn' _ => ?_)
  let D := w.heap.size
  let rc : Loop := { state := .ready, pending := none, fn := fn', tmps := a.tmps, params := ps, assign := assign, body := body, defers := D }
  let w0 := w.alloc (.deferred (some []))
  let w1 := w0.alloc (.loop rc)
  let ρ1 := upd ρ st.nx (D + 1, 0)
  let Fp1 := upd Fp st.nx [D + 1]
  let S1 : Sts := upd g.S st.nx ⟨a.tmps, ps, assign, body⟩
  let a' : Act := { a with defers := markOf D :: a.defers }
  let st1 : St := { st with L := (st.nx, .lp st.fr .ready) :: st.L, nx := st.nx + 1 }
  have hz0 : w0.heap.size = D + 1 := by simp [w0, D]
  have hlt0 : ∀ i e, (i, e) ∈ st.L → i < st.nx := fun i e hi => (St.bd_L hbd0 hi).1
  have hm1 : Mem ρ g w1 st.L Fp := (hg.mem.allocO _).allocO _
  have hnm : ∀ i e j, (i, e) ∈ st.L → e.names j = true → j < st.nx := fun i e j hi hj => (St.bd_L hbd0 hi).2 j hj
  have hρ1 : ∀ j, j < st.nx → ρ1 j = ρ j := fun j hj => upd_ne _ _ (by omega)
  have hFp1 : ∀ j, j < st.nx → Fp1 j = Fp j := fun j hj => upd_ne _ _ (by omega)
  have hBlt : ∀ b o, g.B b = some o → b < D := fun b o hb => by
    have := hg.mem.bw b o hb
    simp only [World.H] at this
    exact (Array.getElem?_eq_some_iff.1 this).1
  have hH1 : World.H w1 (D + 1) = some (.loop rc) := by
    have := World.H_alloc_new (w := w0) (o := .loop rc)
    rwa [hz0] at this
  have hcS : Cfg N st1 { g with S := S1 } a' w1 ρ1 Fp1 (D :: ms) := by
    refine ⟨⟨?_, ?_, ?_, ?_, ?_, hm1.gb, hm1.bw, hm1.os, hm1.out, hm1.tape⟩, ?_, hg.dec, hg.size, ?_, ⟨?_, ?_, ?_, ?_⟩, ?_⟩
    · show ((st.nx, Ent.lp st.fr .ready) :: st.L).map (·.1) |>.Nodup
      simp only [List.map_cons, List.nodup_cons]
      refine ⟨fun hmem => ?_, hg.mem.keys⟩
      obtain ⟨⟨i, e⟩, h1, h2⟩ := List.mem_map.1 hmem
      have := hlt0 i e h1
      simp only at h2; omega
    · intro i e hi
      rcases List.mem_cons.1 hi with hi | hi
      · cases hi
        have e1 : ρ1 st.nx = (D + 1, 0) := upd_same _ _ _
        have e2 : S1 st.nx = ⟨a.tmps, ps, assign, body⟩ := upd_same _ _ _
        refine ⟨rc, by rw [e1]; exact hH1, by rw [e1]; exact upd_same _ _ _, by show _ = (S1 st.nx).tmps; rw [e2], by show _ = (S1 st.nx).ps; rw [e2], by show _ = (S1 st.nx).assign; rw [e2], by show _ = (S1 st.nx).body; rw [e2], ?_, ⟨rfl, rfl⟩⟩
        exact Frm.mono (Heap.le_refl _) (fun j hj => hρ1 j (by
          simp only [frNames, List.any_eq_true] at hj
          obtain ⟨q, hq, hqj⟩ := hj
          simp only [St.bd, Bool.and_eq_true] at hbd0
          have := allN_names _ (List.all_eq_true.1 hbd0.1.1 q hq) hqj
          simpa using this)) hg.frm
      · have hi' := hlt0 i e hi
        rw [hFp1 i hi']
        exact ((hm1.ent i e hi).mono (ρ' := ρ1) (Heap.le_refl _) rfl (fun _ _ => rfl) (hρ1 i hi') (fun j hj => hρ1 j (hnm i e j hi hj))).ofS (fun _ => upd_ne _ _ (by omega))
    · intro i e hi
      rcases List.mem_cons.1 hi with hi | hi
      · cases hi; show (Fp1 st.nx).Nodup; rw [show Fp1 st.nx = [D + 1] from upd_same _ _ _]; simp
      · rw [hFp1 i (hlt0 i e hi)]; exact hm1.nd i e hi
    · intro i e hi b hb
      rcases List.mem_cons.1 hi with hi | hi
      · cases hi
        rw [show Fp1 st.nx = [D + 1] from upd_same _ _ _] at hb
        simp at hb; subst hb
        show g.B (D + 1) = none
        cases hbb : g.B (D + 1) with
        | none => rfl
        | some o => have := hBlt _ o hbb; omega
      · rw [hFp1 i (hlt0 i e hi)] at hb; exact hm1.nb i e hi b hb
    · intro i e j e' hi hj hne b hb
      rcases List.mem_cons.1 hi with hi | hi
      · cases hi
        rw [show Fp1 st.nx = [D + 1] from upd_same _ _ _] at hb
        simp at hb; subst hb
        rcases List.mem_cons.1 hj with hj | hj
        · cases hj; exact absurd rfl hne
        · rw [hFp1 j (hlt0 j e' hj)]
          intro hb; have := hg.mem.lt hj hb; simp only [D] at this; omega
      · rw [hFp1 i (hlt0 i e hi)] at hb
        rcases List.mem_cons.1 hj with hj | hj
        · cases hj
          rw [show Fp1 st.nx = [D + 1] from upd_same _ _ _]
          intro hb'; simp at hb'; subst hb'
          have := hg.mem.lt hi hb; simp only [D] at this; omega
        · rw [hFp1 j (hlt0 j e' hj)]; exact hm1.dj i e j e' hi hj hne b hb
    · exact fun t => SV.R_mono (Heap.le_refl _) _ _ (fun i hi => hρ1 i (St.bd_fr hbd0 t i hi)) (hg.frm t)
    · show markOf D :: a.defers = _
      rw [hg.defers]; rfl
    · intro m hm
      rcases List.mem_cons.1 hm with rfl | hm
      · have h1 : D < w0.heap.size := by omega
        have := World.H_alloc_lt (w := w0) (o := .loop rc) h1
        have h2 := World.H_alloc_new (w := w) (o := .deferred (some []))
        exact this.trans h2
      · have h1 := hg.marks.lt hm
        have h2 := World.H_alloc_lt (w := w) (o := .deferred (some [])) h1
        have h3 := World.H_alloc_lt (w := w0) (o := .loop rc) (b := m) (by rw [hz0]; simp only [D]; omega)
        exact h3.trans (h2.trans (hg.marks.at_ m hm))
    · intro m hm
      rcases List.mem_cons.1 hm with rfl | hm
      · show g.B D = none
        cases hbb : g.B D with
        | none => rfl
        | some o => have := hBlt _ o hbb; omega
      · exact hg.marks.nb m hm
    · intro m hm i e hi hmem
      rcases List.mem_cons.1 hi with hi | hi
      · cases hi
        rw [show Fp1 st.nx = [D + 1] from upd_same _ _ _] at hmem
        simp at hmem; subst hmem
        rcases List.mem_cons.1 hm with hm | hm
        · omega
        · have := hg.marks.lt hm; simp only [D] at this; omega
      · rw [hFp1 i (hlt0 i e hi)] at hmem
        rcases List.mem_cons.1 hm with rfl | hm
        · have := hg.mem.lt hi hmem; simp only [D] at this; omega
        · exact hg.marks.nf m hm i e hi hmem
    · simp only [List.nodup_cons]
      exact ⟨fun hm => by have := hg.marks.lt hm; simp only [D] at this; omega, hg.marks.nd⟩
    · intro i hi
      have hb0 : st.base ≤ st.nx := by simp only [St.bd, Bool.and_eq_true, Nat.ble_eq] at hbd0; exact hbd0.2
      have hi' : i < st.base := hi
      show ρ1 i = g.ρ0 i
      rw [hρ1 i (by omega)]; exact hg.base i hi'
  have hys : SV.RL ρ1 g.G (fs ++ [SV.yld st.nx] ++ cs) (us1.toList ++ [Value.func (.yield (D + 1)) #[] #[]] ++ us2.toList) := by
    have hf0 := frm_ev hg.frm fv
    have hnames : ∀ j, (SV.fn f fs cs).names j = true → j < st.nx := fun j hj => by
      cases fv with
      | tmp t => exact St.bd_fr hbd0 t j (by rw [show fget st.fr t = SV.fn f fs cs from hfv]; exact hj)
      | const v => simp [St.ev] at hfv
      | global g => simp [St.ev] at hfv
      | func f' =>
        simp only [St.ev, SV.fn.injEq] at hfv
        obtain ⟨_, rfl, rfl⟩ := hfv
        simp [SV.names, SV.namesL] at hj
    refine RL_app (RL_app (SV.RL_mono (Heap.le_refl _) _ _ (fun j hj => hρ1 j (hnames j (by simp [SV.names, hj]))) hr1) ?_) (SV.RL_mono (Heap.le_refl _) _ _ (fun j hj => hρ1 j (hnames j (by simp [SV.names, hj]))) hr2)
    simp only [SV.RL, SV.R]
    exact ⟨_, [], rfl, by rw [show ρ1 st.nx = (D + 1, 0) from upd_same _ _ _], rfl⟩
  have henv1 : EnvOk (inner { g with S := S1 } ρ1 w1 st1.L Fp1) (⟨st.nx, N, own, ps, assign, body⟩ :: env) := by
    intro y hy
    rcases List.mem_cons.1 hy with rfl | hy
    · have e2 : S1 st.nx = ⟨a.tmps, ps, assign, body⟩ := upd_same _ _ _
      show (S1 st.nx).ps = ps ∧ (S1 st.nx).assign = assign ∧ (S1 st.nx).body = body ∧ (S1 st.nx).tmps.size = N
      rw [e2]; exact ⟨rfl, rfl, rfl, hg.size⟩
    · have h1 := List.all_eq_true.1 henv y hy
      rw [Nat.blt_eq] at h1
      have h2 : S1 y.id = g.S y.id := upd_ne _ _ (by omega)
      have h3 := hev y hy
      unfold YH.ok at h3 ⊢
      show (S1 y.id).ps = _ ∧ (S1 y.id).assign = _ ∧ (S1 y.id).body = _ ∧ (S1 y.id).tmps.size = _
      rw [h2]; exact h3
  have hcall := CallsK_of (g := inner { g with S := S1 } ρ1 w1 st1.L Fp1) hf hb hl hys (inner_mem hcS.mem) (base := st.nx + 1) (fun i _ => rfl) henv1 h
  refine ⟨D + 1, [markOf D], w1, { target := .fn (.func f) us2, args := us1 ++ #[.func (.yield (D + 1)) #[] #[]] }, w1, f, us1 ++ #[.func (.yield (D + 1)) #[] #[]] ++ us2, w1, ?_, ?_, fun _ _ => trivial, ?_, fun h => by simp [FW, Fence.wide] at h, ?_⟩
  · exact run_enterLoop_outer fn' a.tmps ps assign body
  · simp only [rangeCall, resolve, hfe, Deferred.ofValue, Sem.run_pure]
    simp [Act.eval]
  · simp only [invoke]
    exact run_callee hf hn (by rw [hb]; rfl) _ _
  have harr : (us1.toList ++ [Value.func (.yield (D + 1)) #[] #[]] ++ us2.toList).toArray = us1 ++ #[.func (.yield (D + 1)) #[] #[]] ++ us2 := by
    apply Array.ext'; simp
  rw [harr] at hcall
  refine CallsIn.mono (show CallsIn (FW none) 0 P f _ w1 _ from hcall) ?_
  rintro e w' ⟨v, rfl, g', ρ', Fp', x, st', hle, hm', hv, hkeep, hK⟩
  have hρn : ρ' st.nx = (D + 1, 0) := (hkeep st.nx (by omega)).trans (upd_same _ _ _)
  have fin : ∀ (s : LSt) (fr' : List (Nat × SV)) (e : Exit), st'.L.get st.nx = some (.lp fr' s) → Q e { st with L := st'.L.del st.nx, nx := max st.nx st'.nx } →
      ∀ rc', World.H w' (D + 1) = some (.loop rc') → Post N g Q e a' (w'.putObj (D + 1) (.loop { rc' with state := .exhausted })) := by
    intro s fr' e hL hQ rc' hH
    have hm2 := Ents.mem_of_get hL
    obtain ⟨r2, q1, q2, _⟩ := hm'.ent _ _ hm2
    rw [hρn] at q1 q2
    have hmd : Mem ρ' g' (w'.putObj (D + 1) (.loop { rc' with state := .exhausted })) (st'.L.del st.nx) Fp' := by
      refine (hm'.del st.nx).mark (hm'.nb _ _ hm2 _ (by rw [q2]; simp)) (fun i e hi hmem => ?_) _
      obtain ⟨h1, h2⟩ := Ents.mem_del.1 hi
      exact hm'.dj i e st.nx _ h1 hm2 h2 _ hmem (by rw [q2]; simp)
    obtain ⟨gn, n1, n2, n3⟩ := hcS.resume (S1 := S1) hbd hle hmd (fun _ _ _ _ => rfl) (fun i hi => hkeep i hi) (nx' := max st.nx st'.nx)
    have n4 := n3.withS g.S (fun i e hi hl => by
      obtain ⟨h1, h2⟩ := Ents.mem_del.1 hi
      rw [n1.S]
      exact (upd_ne _ _ h2).symm)
    exact ⟨{ gn with S := g.S }, _, ⟨n1.os, n1.out, n1.tape, n1.ρ0, rfl, n1.G, n1.B, n1.new⟩, ⟨ρ', Fp', D :: ms, n4⟩, hQ⟩
  unfold RngK at hK
  split at hK
  · rename_i fr' hL
    obtain ⟨r2, q1, q2, q3, q4, q5, q6, q7, q8, q9⟩ := hm'.ent _ _ (Ents.mem_of_get hL)
    rw [hρn] at q1
    refine ⟨none, _, ?_, fin _ _ _ hL hK r2 q1⟩
    have := run_endLoop (P := P) (w := w') q1 (by rw [q8]; simp)
    exact this.trans (congrArg (fun p => Result.ok p _) q9)
  · rename_i fr' hL
    obtain ⟨r2, q1, q2, q3, q4, q5, q6, q7, q8, q9⟩ := hm'.ent _ _ (Ents.mem_of_get hL)
    rw [hρn] at q1
    refine ⟨some .ret, w'.putObj (D + 1) (.loop { r2 with state := .exhausted }), ?_, wpIn_ret (fin _ _ _ hL hK r2 q1)⟩
    have := run_endLoop (P := P) (w := w') q1 (by rw [q8]; simp)
    exact this.trans (congrArg (fun p => Result.ok p _) q9)
  · rename_i fr' id hL
    obtain ⟨r2, q1, q2, q3, q4, q5, q6, q7, q8, q9⟩ := hm'.ent _ _ (Ents.mem_of_get hL)
    rw [hρn] at q1
    refine ⟨some (.exit id), w'.putObj (D + 1) (.loop { r2 with state := .exhausted }), ?_, wpIn_exit (fin _ _ _ hL hK r2 q1)⟩
    have := run_endLoop (P := P) (w := w') q1 (by rw [q8]; simp)
    exact this.trans (congrArg (fun p => Result.ok p _) q9)
  · exact hK.elim
end Go.Sym

/- Two functions of the library without bodies: bytealg.Compare and bytealg.MakeNoZero. -/
set_option linter.unusedSimpArgs false
set_option linter.unusedVariables false
namespace Go.Sym

theorem load_cells {P : Program} {w w' : World} {a : Addr} : ∀ (n i : Nat) (acc r : Array Value), (loadCellsFrom a i n acc).run P w = .ok r w' →
    (∀ j, j < n → ∃ v, (load (a.add (i + j))).run P w = .ok v w ∧ r[acc.size + j]? = some v) ∧ (∀ j, j < acc.size → r[j]? = acc[j]?)
  | 0, i, acc, r, h => by
    simp [loadCellsFrom] at h
    obtain ⟨rfl, _⟩ := h
    exact ⟨fun j hj => by omega, fun j _ => rfl⟩
  | n + 1, i, acc, r, h => by
    have hl : ∃ v, (load (a.add i)).run P w = .ok v w := by
      rw [run_load]
      cases hc : w.cell? (a.add i) with
      | some v => exact ⟨v, rfl⟩
      | none =>
        cases hf : World.farLoad P w (a.add i) (Mode.plain == Mode.atomic) with
        | ok x => exact ⟨x.1, rfl⟩
        | error e => simp [loadCellsFrom, hc, hf] at h
    obtain ⟨v, hv⟩ := hl
    simp only [loadCellsFrom, Sem.run_bind, hv, Result.andThen_ok] at h
    obtain ⟨h1, h2⟩ := load_cells n (i + 1) (acc.push v) r h
    refine ⟨fun j hj => ?_, fun j hj => ?_⟩
    · cases j with
      | zero => exact ⟨v, hv, by rw [Nat.add_zero, h2 acc.size (by simp)]; simp⟩
      | succ j =>
        obtain ⟨u, hu, hr⟩ := h1 j (by omega)
        refine ⟨u, by rw [show i + (j + 1) = i + 1 + j by omega]; exact hu, ?_⟩
        rw [Array.size_push] at hr
        rw [show acc.size + (j + 1) = acc.size + 1 + j by omega]; exact hr
    · rw [h2 j (by simp; omega), Array.getElem?_push_lt hj]
      exact (Array.getElem?_eq_getElem hj).symm

theorem load_bytes {P : Program} {w : World} : ∀ (l : List Int) (a : Addr) (acc : ByteArray), (∀ j n, l[j]? = some n → (load (a.add j)).run P w = .ok (.int .u8 n) w) →
    (Extern.Bytes.loadBytes a l.length acc).run P w = .ok ⟨acc.data ++ (l.map fun n => n.toNat.toUInt8).toArray⟩ w
  | [], a, acc, h => by simp [Extern.Bytes.loadBytes]
  | n :: l, a, acc, h => by
    have h0 : (load a).run P w = .ok (.int .u8 n) w := by
      have := h 0 n (by simp)
      rwa [show a.add 0 = a by cases a; simp [Addr.add]] at this
    have := load_bytes l (a.add 1) (acc.push n.toNat.toUInt8) (fun j m hj => by
      have h1 := h (j + 1) m (by simpa using hj)
      rwa [show a.add (j + 1) = (a.add 1).add j by simp [Addr.add, Nat.add_assoc, Nat.add_comm 1 j]] at h1)
    simp only [List.length_cons, Extern.Bytes.loadBytes, Sem.run_bind, h0, Result.andThen_ok]
    rw [this]
    congr 2
    simp [ByteArray.push]

/-- The bytes of a slice. -/
def xBytes (L : Ents) (x : SV) : Option (Prop × ByteArray) :=
  if isSlV x = true then
    match srcNC L 1 x with
    | some (cy, m, g, _) => some (cy ∧ ∀ k, k < m → ∃ n, g k = .v (.int .u8 n), strOf m g)
    | none => none
  else none

theorem xBytes_ok {P : Program} {ρ : Nat → Nat × Nat} {g : Gh} {w : World} {L : Ents} {Fp : Nat → List Nat} (hm : Mem ρ g w L Fp) {x : SV} {u : Value} (hx : x.R ρ g.G u) {c : Prop} {s : ByteArray}
    (h : xBytes L x = some (c, s)) (hc : c) : (Extern.Bytes.bytesOf u).run P w = .ok s w := by
  unfold xBytes at h
  split at h <;> try (simp at h; done)
  rename_i hisl
  split at h <;> try (simp at h; done)
  rename_i cy m gg jo hsrc
  simp only [Option.some.injEq, Prod.mk.injEq] at h
  obtain ⟨rfl, rfl⟩ := h
  obtain ⟨hcy, hby⟩ := hc
  obtain ⟨hl1, news, gj, hn1, hn2, hn3, hn4, hn5⟩ := srcNC_ok (P := P) hm (by omega) hx hsrc hcy
  have hf := hn3 m w (Nat.le_refl _) (fun _ => rfl)
  have e1 : news.extract 0 (m * 1) = news := by rw [← hn1]; simp
  rw [e1] at hf
  have hval : ∀ k, k < m → ∃ n, gg k = .v (.int .u8 n) ∧ news[k]? = some (.int .u8 n) := by
    intro k hk
    obtain ⟨n, hn⟩ := hby k hk
    have := hn4 k hk
    rw [hn] at this
    simp only [SV.C, Nat.mul_one, Nat.add_zero] at this
    exact ⟨n, hn, this.2.1⟩
  have hsl : ∃ A cc, u = .slice A m cc := by
    unfold srcNC at hsrc
    split at hsrc
    · simp only [SV.R] at hx
      obtain ⟨A, cc, hxv, _⟩ := hx
      simp only [srcOf] at hsrc
      split at hsrc <;> try (simp at hsrc; done)
      split at hsrc <;> try (simp at hsrc; done)
      simp at hsrc
      exact ⟨A, cc, by rw [hxv, hsrc.2.1]⟩
    · rename_i hne
      cases x with
      | ro z' n f ex =>
        simp only [srcOf] at hsrc
        split at hsrc <;> try (simp at hsrc; done)
        simp at hsrc
        simp only [SV.R, SV.C] at hx
        obtain ⟨_, _, A, cc, h1, _⟩ := hx
        simp [one] at h1
        exact ⟨A, cc, by rw [h1, hsrc.2.1]⟩
      | sl j z' off n cap ex => exact absurd rfl (hne _ _ _ _ _ _)
      | v val =>
        cases val with
        | slice A n cc =>
          simp [srcOf] at hsrc
          simp only [SV.R] at hx
          have hn0 : n = 0 := hsrc.1.mpr hcy
          exact ⟨A, cc, by rw [hx, ← hsrc.2.1, hn0]⟩
        | _ => simp [isSlV] at hisl
      | _ => simp [srcOf] at hsrc
  obtain ⟨A, cc, hxv⟩ := hsl
  subst hxv
  cases A with
  | none =>
    simp [Builtin.firstCells] at hf
    have hm0 : m = 0 := by
      have := hn1
      rw [hf] at this
      simp at this; omega
    subst hm0
    simp [Extern.Bytes.bytesOf, strOf]
    rfl
  | some ad =>
    have hload : (loadCells ad m).run P w = .ok news w := by
      have : (Builtin.firstCells 1 m (.slice (some ad) m cc)) = loadCells ad (m * 1) := rfl
      rw [this, Nat.mul_one] at hf
      exact hf
    obtain ⟨h1, _⟩ := load_cells m 0 #[] news hload
    let ns : List Int := (List.range m).map fun k => match gg k with | .v (.int _ n) => n | _ => 0
    have hlen : ns.length = m := by simp [ns]
    have := load_bytes (P := P) (w := w) ns ad .empty (fun j n hj => by
      have hjm : j < m := by rw [← hlen]; exact (List.getElem?_eq_some_iff.1 hj).1
      obtain ⟨v, hv, hr⟩ := h1 j hjm
      obtain ⟨n', e1, e2⟩ := hval j hjm
      simp only [List.size_toArray, List.length_nil, Nat.zero_add] at hr hv
      rw [e2] at hr; simp at hr
      have : n = n' := by simp [ns, hjm, e1] at hj; exact hj.symm
      rw [hv, ← hr, this])
    rw [hlen] at this
    simp only [Extern.Bytes.bytesOf]
    rw [this]
    congr 1
    simp only [strOf, ByteArray.mk.injEq]
    apply Array.ext'
    simp only [ByteArray.empty, ns, List.map_map]
    simp
    intro k hk
    obtain ⟨n, h1, _⟩ := hval k hk
    simp [h1, SV.byte]

theorem digits_one : ∀ (n t : Nat) (acc : Array Value), (∀ v ∈ acc.toList, v.oneCell' = true) → ∀ v ∈ (Extern.BytealgMakeNoZero.digits n t acc).toList, v.oneCell' = true
  | 0, t, acc, h => h
  | n + 1, t, acc, h => by
    rw [Extern.BytealgMakeNoZero.digits]
    refine digits_one n _ _ (fun v hv => ?_)
    rw [Array.toList_push] at hv
    rcases List.mem_append.1 hv with hv | hv
    · exact h v hv
    · simp at hv; subst hv; rfl

theorem run_noZero {P : Program} {w : World} (ps : Array TypeId) (t e : TypeId) (ht : P.underlying t = some (.slice e)) (n : Nat) (hn : n ≤ 281474976710656) :
    ∃ cs : Array Value, (Extern.BytealgMakeNoZero.makeNoZero ps #[t] #[.int .i64 n]).run P w = .ok (.slice (some ⟨w.heap.size, 0, none⟩) n cs.size) (w.drew.drew.alloc (.cells cs e)) ∧ n ≤ cs.size ∧ ∀ v ∈ cs.toList, v.oneCell' = true := by
  have hdef : Extern.BytealgMakeNoZero.makeNoZero ps #[t] #[.int .i64 n] =
      (do
        let .slice elem ← underlying t | stuck "bytealg.MakeNoZero: slice type expected"
        if (n : Int) < 0 || (n : Int) > 2 ^ 48 then runtimePanic (.error "makeslice: len out of range")
        let cap ← choose (.appendCap (n : Int).toNat 0 elem)
        askRoom cap
        let bytes ← choose (.extern "internal/bytealg.MakeNoZero.bytes" 0)
        let a ← newRow elem (Extern.BytealgMakeNoZero.digits cap bytes #[])
        pure (.slice (some a) (n : Int).toNat cap)) := rfl
  refine ⟨Extern.BytealgMakeNoZero.digits (grownCap w n 0 e) ((Question.extern "internal/bytealg.MakeNoZero.bytes" 0).cut (w.tape (w.drawn + 1) (.extern "internal/bytealg.MakeNoZero.bytes" 0))) #[], ?_, ?_, ?_⟩
  · rw [hdef]
    have h1 : ¬ (n : Int) < 0 := by omega
    have h2 : ¬ (281474976710656 : Int) < (n : Int) := by omega
    simp [run_underlying ht, h1, h2, Question.forced, newRow, Lib.size_digits, grownCap]
  · rw [Lib.size_digits]
    simpa using grownCap_ge w n 0 e
  · exact digits_one _ _ _ (by simp)

/-- Functions of the library without bodies. -/
inductive XK where
  | compare
  | makeNoZero

def XK.ok (P : Program) (fn : Func) : XK → Prop
  | .compare => Extern.find fn = some Extern.BytealgCompare.compare
  | .makeNoZero => ∃ t e, P.underlying t = some (.slice e) ∧ Extern.find fn = some (Extern.BytealgMakeNoZero.makeNoZero fn.params #[t])

abbrev XTab := List (Nat × XK)
def XTab.find : XTab → Nat → Option XK
  | [], _ => none
  | (g, c) :: T, f => cond (Nat.beq g f) (some c) (XTab.find T f)
def XTab.Ok (P : Program) : XTab → Prop
  | [] => True
  | (f, k) :: X => (∃ fn, P.funcs[f]? = some fn ∧ (fn.name == "runtime.NumGoroutine") = false ∧ fn.body.isNone = true ∧ Extern.findNext fn = none ∧ k.ok P fn) ∧ XTab.Ok P X

theorem XTab.find_ok {P : Program} : ∀ {X : XTab} {f : Nat} {k : XK}, X.Ok P → X.find f = some k → ∃ fn, P.funcs[f]? = some fn ∧ (fn.name == "runtime.NumGoroutine") = false ∧ fn.body.isNone = true ∧ Extern.findNext fn = none ∧ k.ok P fn
  | [], f, k, h, hf => by simp [XTab.find] at hf
  | (g, d) :: X, f, k, h, hf => by
    simp only [XTab.find] at hf
    cases hb : Nat.beq g f with
    | true => rw [hb] at hf; simp at hf; subst hf; rw [← Nat.eq_of_beq_eq_true hb]; exact h.1
    | false => rw [hb] at hf; exact XTab.find_ok h.2 hf

/-- A call of one of them. -/
def xStep (X : XTab) (st : St) (f : Nat) (ys : List SV) : Option (Prop × SV × St) :=
  match X.find f, ys with
  | some .compare, [a, b] => match xBytes st.L a, xBytes st.L b with
    | some (c, s), some (d, t) => some (c ∧ d, .v (.int .i64 (Extern.BytealgCompare.cmp s t)), st)
    | _, _ => none
  | some .makeNoZero, [.v (.int .i64 n)] => if st.fresh then some (0 ≤ n ∧ n ≤ 281474976710656, .sl st.nx 1 0 n.toNat n.toNat false, st.add st.L (.row 1 n.toNat (fun _ => .any))) else none
  | _, _ => none

theorem WPop_of_ext {P : Program} {X : XTab} (hX : X.Ok P) {r : Option Nat} {N : Nat} {o : Oper} {st st' : St} {c : Prop} {x : SV} {fv : Operand} {args : Array Operand} {aty : Array TypeId} {f : FuncId} {fs cs : List SV} {K : St → Prop}
    (ho : o.op = .call { callee := .value fv, args, argTypes := aty }) (hfv : st.ev fv = .fn f fs cs) (h : xStep X st f (fs ++ args.toList.map st.ev ++ cs) = some (c, x, st')) (hc : c) (hd : dstOk N o.dst = true) (hK : K (st'.put o.dst x)) :
    WPop P r N o st K := by
  rintro g a w ⟨ρ, Fp, ms, hg⟩
  have hfn := frm_ev hg.frm fv
  rw [hfv] at hfn
  simp only [SV.R] at hfn
  obtain ⟨us1, us2, hfe, hr1, hr2⟩ := hfn
  have hys := RL_app (RL_app hr1 (RL_args hg.frm args)) hr2
  have harr : (us1.toList ++ (args.map a.eval).toList ++ us2.toList) = (us1 ++ args.map a.eval ++ us2).toList := by simp
  rw [harr] at hys
  have hdd : ∀ d, o.dst = some d → d < N := fun d h => by rw [h] at hd; simpa [dstOk] using hd
  refine ⟨fun _ _ => trivial, ?_⟩
  rw [Oper.semAt_eq _ _ _ (by rw [ho]; intro c; simp)]
  have hrun1 : (execOp a.eval o).run P w = (callFunc f (us1 ++ args.map a.eval ++ us2)).run P w := by
    simp only [execOp, ho, resolve, hfe, Deferred.ofValue, Sem.run_bind, Sem.run_pure, Result.andThen_ok, invoke]
  rw [hrun1]
  generalize us1 ++ args.map a.eval ++ us2 = us at hys
  unfold xStep at h
  split at h <;> try (simp at h; done)
  · rename_i a1 b1 hxf heq
    rw [heq] at hys
    obtain ⟨fn, hf1, hf2, hf3, hf4, hf5⟩ := XTab.find_ok hX hxf
    split at h <;> try (simp at h; done)
    rename_i c1 s d1 t hs ht
    simp only [Option.some.injEq, Prod.mk.injEq] at h
    obtain ⟨rfl, rfl, rfl⟩ := h
    simp only [SV.RL] at hys
    obtain ⟨u, rest, e1, hu, v, rest2, e2, hv, e3⟩ := hys
    have hus : us = #[u, v] := by
      apply Array.ext'; rw [e1, e2, e3]
    subst hus
    have k1 := xBytes_ok (P := P) hg.mem hu hs hc.1
    have k2 := xBytes_ok (P := P) hg.mem hv ht hc.2
    rw [run_callFunc_extern hf1 hf2 hf3 hf4 hf5]
    have : (Extern.BytealgCompare.compare #[u, v]).run P w = .ok (.int .i64 (Extern.BytealgCompare.cmp s t)) w := by
      show (do pure (goInt (Extern.BytealgCompare.cmp (← Extern.Bytes.bytesOf u) (← Extern.Bytes.bytesOf v))) : Sem Value).run P w = _
      simp only [Sem.run_bind, k1, k2, Result.andThen_ok, Sem.run_pure, goInt]
    rw [this]
    exact ⟨g, _, Gh.le_refl g, holds_put hg hd (by simp [SV.R]), hK⟩
  · rename_i n hxf heq
    rw [heq] at hys
    obtain ⟨fn, hf1, hf2, hf3, hf4, t, e, hf5, hf6⟩ := XTab.find_ok hX hxf
    split at h <;> try (simp at h; done)
    rename_i hfresh
    simp only [Option.some.injEq, Prod.mk.injEq] at h
    obtain ⟨rfl, rfl, rfl⟩ := h
    simp only [SV.RL, SV.R] at hys
    obtain ⟨u, rest, e1, rfl, e2⟩ := hys
    have hus : us = #[.int .i64 ((n.toNat : Nat) : Int)] := by
      apply Array.ext'; rw [e1, e2, Int.toNat_of_nonneg hc.1]
    subst hus
    obtain ⟨cells, hrun, hsz, hone⟩ := run_noZero (P := P) (w := w) fn.params t e hf5 n.toNat (by omega)
    rw [run_callFunc_extern hf1 hf2 hf3 hf4 hf6, hrun]
    have hgd : Cfg N st g a w.drew.drew ρ Fp ms := ⟨⟨hg.mem.keys, hg.mem.ent, hg.mem.nd, hg.mem.nb, hg.mem.dj, hg.mem.gb, hg.mem.bw, hg.mem.os, hg.mem.out, hg.mem.tape⟩, hg.frm, hg.dec, hg.size, hg.defers, ⟨hg.marks.at_, hg.marks.nb, hg.marks.nf, hg.marks.nd⟩, hg.base⟩
    obtain ⟨k1, k2, k3⟩ := hgd.newEnt (w' := w.drew.drew.alloc (.cells cells e)) (v := (w.heap.size, cells.size)) (e := .row 1 n.toNat (fun _ => .any)) (F' := [w.heap.size]) hfresh (fun p hp => hp) hg.mem.keys
      (fun b hb => .inr (World.H_alloc_lt hb)) (fun ρ' hρ _ => by
        refine .inr ⟨cells, e, (0, 0), fun _ => [], by rw [hρ]; exact World.H_alloc_new (w := w.drew.drew), by rw [hρ], Or.inl rfl, by omega, by rw [hρ]; simp [flat], fun k hk => ?_⟩
        simp only [SV.C]
        have hlt : k < cells.size := by omega
        exact ⟨trivial, trivial, cells[k], by simp [hlt], hone _ (by simp)⟩) (by simp) (fun b hb => .inr (by simp at hb; subst hb; exact Nat.le_refl _)) rfl rfl rfl
    refine ⟨g, _, Gh.le_refl g, ⟨_, _, ms, hgd.put (st' := st.add st.L (.row 1 n.toNat (fun _ => .any))) k1 k2 (Same.upd hfresh _ _ _) k3 hdd ?_⟩, hK⟩
    simp only [SV.R, upd_same]
    exact ⟨_, cells.size, rfl, Nat.le_refl _, hsz, by simp, .inr (by simp), by simp⟩
end Go.Sym
