/- The condition of a piece of code, with calls walked in place, loops over functions, loops unrolled; that it suffices. -/
import Derived.Test.YtjbbpacbfpbbcaaSK
import Derived.LoopNIn
set_option linter.all false
set_option linter.unusedSimpArgs false
set_option linter.unusedVariables false
set_option linter.deprecated false
set_option linter.unusedSimpArgs false
set_option linter.unusedVariables false
namespace Go.Sym

theorem roundsIn_mono {F : Fence} {n : Nat} {P : Program} {c : Code} {Q Q' : Exit → Act → World → Prop} (hq : ∀ e a w, Q e a w → Q' e a w) : ∀ (m : Nat) (a : Act) (w : World), Code.roundsIn F n P c Q m a w → Code.roundsIn F n P c Q' m a w
  | 0, a, w, h => h
  | m + 1, a, w, h => wpIn_mono (P := P) h (fun e a w hh => by
      cases e with
      | normal => exact roundsIn_mono hq m a w hh
      | _ => exact hq _ _ _ hh)

section
variable {P : Program} {r : Option Nat} {N : Nat} {env : List YH}

theorem WPe_seq {x y : Code} {st : St} {Q : Exit → St → Prop} (h : WPe P r N env x st (fun e st' => match e with | .normal => WPe P r N env y st' Q | e => Q e st')) : WPe P r N env (.seq x y) st Q := by
  intro g a w he hg
  refine wpIn_seq (wpIn_mono (h g a w he hg) ?_)
  rintro e a w ⟨g', st', h1, h2, h3⟩
  cases e with
  | normal => exact wpIn_mono (h3 g' a w (he.le h1) h2) (fun e a w hp => Post_le h1 hp)
  | _ => exact ⟨g', st', h1, h2, h3⟩

theorem WPe_cond {c : Operand} {x y : Code} {st : St} {Q : Exit → St → Prop} {t : Bool} (hc : st.ev c = .v (.bool t)) (h : cond t (WPe P r N env x st Q) (WPe P r N env y st Q)) : WPe P r N env (.cond c x y) st Q := by
  intro g a w he hg
  obtain ⟨ρ, Fp, ms, hcf⟩ := id hg
  have := frm_ev hcf.frm c
  rw [hc] at this
  simp only [SV.R] at this
  cases t with
  | true => exact wpIn_cond this (h g a w he hg)
  | false => exact wpIn_cond this (h g a w he hg)

theorem WPe_block {id : Nat} {c : Code} {st : St} {Q : Exit → St → Prop} (h : WPe P r N env c st (fun e st' => match e with | .exit id' => cond (Nat.beq id' id) (Q .normal st') (Q (.exit id') st') | e => Q e st')) :
    WPe P r N env (.block id c) st Q := by
  intro g a w he hg
  refine wpIn_block (wpIn_mono (h g a w he hg) ?_)
  rintro e a w ⟨g', st', h1, h2, h3⟩
  cases e with
  | exit id' =>
    simp only [Exit.inBlock]
    by_cases hid : id' = id
    · subst hid
      have : Nat.beq id' id' = true := Nat.beq_refl id'
      rw [if_pos rfl]
      replace h3 : cond (Nat.beq id' id') (Q .normal st') (Q (.exit id') st') := h3
      rw [this] at h3
      exact ⟨g', st', h1, h2, h3⟩
    · have : Nat.beq id' id = false := by
        rw [Bool.eq_false_iff]; intro hb; exact hid (Nat.eq_of_beq_eq_true hb)
      rw [if_neg hid]
      replace h3 : cond (Nat.beq id' id) (Q .normal st') (Q (.exit id') st') := h3
      rw [this] at h3
      exact ⟨g', st', h1, h2, h3⟩
  | normal => exact ⟨g', st', h1, h2, h3⟩
  | ret => exact ⟨g', st', h1, h2, h3⟩
  | goto l => exact ⟨g', st', h1, h2, h3⟩
  | panic c => exact ⟨g', st', h1, h2, h3⟩
  | outgrown => exact ⟨g', st', h1, h2, h3⟩

theorem WPe_le {c : Code} {st st' : St} {Q : Exit → St → Prop} (h : Le N st st') (hw : WPe P r N env c st' Q) : WPe P r N env c st Q := fun g a w he hg => hw g a w he (h g a w hg)

/-- So many rounds of a loop at most. -/
def WR (P : Program) (r : Option Nat) (N : Nat) (env : List YH) (c : Code) (Q : Exit → St → Prop) : Nat → St → Prop
  | 0, _ => False
  | m + 1, st => WPe P r N env c st (fun e st' => match e with | .normal => WR P r N env c Q m st' | e => Q e st')

theorem WR_ok {c : Code} {Q : Exit → St → Prop} {m : Nat} {st : St} (h : WR P r N env c Q m st) : WPe P r N env (.loop c) st Q := by
  intro g a w he hg
  refine wpIn_loop_rounds m ?_
  induction m generalizing st g a w with
  | zero => exact h.elim
  | succ m ih =>
    refine wpIn_mono (h g a w he hg) ?_
    rintro e a' w' ⟨g', st', h1, h2, h3⟩
    cases e with
    | normal =>
      have := ih h3 g' a' w' (he.le h1) h2
      refine roundsIn_mono (fun e a w hp => Post_le h1 hp) m a' w' this
    | _ => exact ⟨g', st', h1, h2, h3⟩

open Classical in
theorem WPe_loop {c : Code} {st : St} {Q : Exit → St → Prop} {X : Type} (I : X → St) (μ : X → Nat) (x0 : X) (h0 : Le N st (I x0))
    (round : ∀ x, WPe P r N env c (I x) (fun e st' => match e with | .normal => ∃ x', Le N st' (I x') ∧ μ x' < μ x | e => Q e st')) : WPe P r N env (.loop c) st Q := by
  intro g a w he hg
  let Inv : Act → World → Prop := fun a w => ∃ g' x, g.le g' ∧ Holds N (I x) g' a w
  let pr : Act → World → Nat → Prop := fun a w n => ∃ g' x, g.le g' ∧ Holds N (I x) g' a w ∧ μ x = n
  have hpr : ∀ a w, Inv a w → ∃ n, pr a w n := fun a w ⟨g', x, h1, h2⟩ => ⟨μ x, g', x, h1, h2, rfl⟩
  let m : Act → World → Nat := fun a w => if h : ∃ n, pr a w n then Classical.choose (exists_min _ h) else 0
  refine wpIn_loop Inv m ⟨g, x0, Gh.le_refl g, h0 g a w hg⟩ ?_
  intro a w hI
  have hex := hpr a w hI
  have hm : m a w = Classical.choose (exists_min _ hex) := by simp only [m]; rw [dif_pos hex]
  obtain ⟨⟨g', x, h1, h2, h3⟩, _⟩ := Classical.choose_spec (exists_min _ hex)
  refine wpIn_mono (round x g' a w (he.le h1) h2) ?_
  rintro e a' w' ⟨g2, st', k1, k2, k3⟩
  cases e with
  | normal =>
    obtain ⟨x', hle, hlt⟩ := k3
    have hI' : pr a' w' (μ x') := ⟨g2, x', Gh.le_trans h1 k1, hle g2 a' w' k2, rfl⟩
    refine ⟨⟨g2, x', Gh.le_trans h1 k1, hle g2 a' w' k2⟩, ?_⟩
    have hex' : ∃ n, pr a' w' n := ⟨_, hI'⟩
    have hm' : m a' w' = Classical.choose (exists_min _ hex') := by simp only [m]; rw [dif_pos hex']
    rw [hm, hm']
    have := (Classical.choose_spec (exists_min _ hex')).2 _ hI'
    omega
  | _ => exact ⟨g2, st', Gh.le_trans h1 k1, k2, k3⟩
end

def envFind : List YH → Nat → Option YH
  | [], _ => none
  | y :: ys, i => cond (Nat.beq y.id i) (some y) (envFind ys i)

theorem envFind_ok : ∀ {env : List YH} {i : Nat} {y : YH}, envFind env i = some y → y ∈ env ∧ y.id = i
  | [], i, y, h => by simp [envFind] at h
  | z :: env, i, y, h => by
    simp only [envFind] at h
    cases hb : Nat.beq z.id i with
    | true => rw [hb] at h; simp at h; subst h; exact ⟨by simp, Nat.eq_of_beq_eq_true hb⟩
    | false => rw [hb] at h; obtain ⟨h1, h2⟩ := envFind_ok (by simpa using h); exact ⟨by simp [h1], h2⟩

/-- What the condition rests on: the program, the contracts, the certificates of the drawn regions, which regions are walked operation by operation, the loops' states. -/
structure EvD (U : Type) where
  P : Program
  T : Tab := []
  X : XTab := []
  ct : Nat → Nat → List (List Nat) := fun _ _ => []
  sq : Nat → Nat → Bool := fun _ _ => false
  gh : Nat → Nat → List GI := fun _ _ => []
  kp : Bool := false
  inv : Nat → Nat → List U → St → Option (LoopSpec U) := fun _ _ _ _ => none

/-- A walk of code: the loops over functions around it; is the frame a plain one; the function; its slots. -/
abbrev Walk (U : Type) := List YH → Bool → Nat → Nat → Code → List U → St → (Exit → St → Prop) → Prop

/-- One operation. -/
def VP {U : Type} (E : EvD U) (R : Walk U) (env : List YH) (N : Nat) (h : List U) (o : Oper) (st : St) (K : St → Prop) : Prop :=
  match cond E.kp (stepKp E.P st o) none with
  | some (c, x, st') => cond (dstOk N o.dst) (c ∧ K (st'.put o.dst x)) False
  | none => match stepA E.P E.T st o with
  | some (c, x, st') => cond (dstOk N o.dst) (c ∧ K (st'.put o.dst x)) False
  | none => match o.op with
    | .call { callee := .value fv, args, argTypes := _ } => match st.ev fv with
      | .fn g fs cs => match E.P.funcs[g]? with
        | some fn => match fn.body with
          | some c => cond (dstOk N o.dst && (st.bd && Nat.ble (fs ++ args.toList.map st.ev ++ cs).length fn.ntmps))
              (R env true g fn.ntmps c h { fr := (List.range (fs ++ args.toList.map st.ev ++ cs).length).zip (fs ++ args.toList.map st.ev ++ cs), L := st.L, nx := st.nx, dec := [], base := st.nx } (RetK E.P fn st.nx (inlK st o.dst K))) False
          | none => match xStep E.X st g (fs ++ args.toList.map st.ev ++ cs) with
            | some (c, x, st') => cond (dstOk N o.dst) (c ∧ K (st'.put o.dst x)) False
            | none => False
        | none => False
      | .yld i => match st.L.get i, envFind env i with
        | some (.lp fr .ready), some y => cond (dstOk N o.dst && (st.bd && (Nat.beq args.size y.ps.size && y.ps.toList.all (fun p => Nat.blt p y.N))))
            (R env false y.own y.N y.assign h { fr := rndFr y.ps.toList (args.toList.map st.ev) fr, L := st.L, nx := st.nx, dec := [], base := st.nx } (fun e s1 => match e with
              | .normal => cond (Nat.beq s1.base st.nx) (match s1.L.get i with
                | some (.lp fr1 .ready) => R env false y.own y.N y.body h { s1 with L := s1.L.set i (.lp fr1 .busy) } (RndK i st.nx st o.dst K)
                | _ => False) False
              | _ => False)) False
        | _, _ => False
      | _ => False
    | _ => False

/-- The operations of a region in their written order. -/
def VO {U : Type} (E : EvD U) (R : Walk U) (env : List YH) (N : Nat) (h : List U) (ops : Array Oper) : List Nat → St → (St → Prop) → Prop
  | [], st, K => K st
  | i :: rest, st, K => match ops[i]? with
    | none => False
    | some o => match o.guard with
      | none => VP E R env N h o st (fun st' => VO E R env N h ops rest st' K)
      | some (j, w) => match (ops[j]?).bind (·.dst) with
        | none => False
        | some d => match fget st.fr d with
          | .v (.bool t) => cond (bIs t w) (VP E R env N h o { st with fr := (d, .v (.bool w)) :: st.fr } (fun st' => VO E R env N h ops rest st' K))
              (cond (dstOk N o.dst) (VO E R env N h ops rest (St.put { st with fr := (d, .v (.bool (!w))) :: st.fr } o.dst (.v undef)) K) False)
          | .v (.tuple _) => cond (dstOk N o.dst) (VO E R env N h ops rest (st.put o.dst (.v undef)) K) False
          | _ => False

def VG {U : Type} (E : EvD U) : Nat → Walk U
  | 0, _, _, _, _, _, _, _, _ => False
  | n + 1, env, pl, f, N, c, h, st, Q => match c with
    | .skip => Q .normal st
    | .region i ops draw => GHs (E.gh f i) st (fun st => match E.sq f i && !draw with
      | true => VO E (VG E n) env N h ops (List.range ops.size) st (Q .normal)
      | false => VR E.P E.T N (E.ct f i) ops draw st (Q .normal))
    | .seq a b => VG E n env pl f N a h st (fun e st' => match e with | .normal => VG E n env pl f N b h st' Q | e => Q e st')
    | .cond c a b => match st.ev c with
      | .v (.bool t) => cond t (VG E n env pl f N a h st Q) (VG E n env pl f N b h st Q)
      | _ => False
    | .block id c => match c, E.inv f id h st with
      | .loop c, some s => ∃ x0, s.ok x0 ∧ LeP st (s.I x0) ∧ ∀ x, s.ok x → VG E n env pl f N c (x :: h) (s.I x) (fun e st' => match e with
        | .normal => ∃ x', s.ok x' ∧ LeP st' (s.I x') ∧ s.μ x' < s.μ x
        | .exit id' => cond (Nat.beq id' id) (Q .normal st') (Q (.exit id') st')
        | e => Q e st')
      | c, _ => VG E n env pl f N c h st (fun e st' => match e with | .exit id' => cond (Nat.beq id' id) (Q .normal st') (Q (.exit id') st') | e => Q e st')
    | .loop c => VG E n env pl f N c h st (fun e st' => match e with | .normal => VG E n env pl f N (.loop c) h st' Q | e => Q e st')
    | .exit id => Q (.exit id) st
    | .ret => Q .ret st
    | .rangeFunc fv ps assign body => match pl, st.ev fv with
      | true, .fn g fs cs => match E.P.funcs[g]? with
        | some fn => match fn.body with
          | some c => cond (st.bd && (St.bd { st with L := (st.nx, .lp st.fr .ready) :: st.L, nx := st.nx + 1 } && (env.all (fun y => Nat.blt y.id st.nx) && Nat.ble (fs ++ [SV.yld st.nx] ++ cs).length fn.ntmps)))
              (VG E n (⟨st.nx, N, f, ps, assign, body⟩ :: env) true g fn.ntmps c h { fr := (List.range (fs ++ [SV.yld st.nx] ++ cs).length).zip (fs ++ [SV.yld st.nx] ++ cs), L := (st.nx, .lp st.fr .ready) :: st.L, nx := st.nx + 1, dec := [], base := st.nx + 1 }
                (RetK E.P fn (st.nx + 1) (fun _ s => RngK st Q s))) False
          | none => False
        | none => False
      | _, _ => False
    | _ => False

/-- No function of the program has a name of the run-time's own. -/
def namesOk (P : Program) : Bool := P.funcs.toList.all (fun fn => !(fn.name == "runtime.NumGoroutine"))
theorem namesOk_get {P : Program} (h : namesOk P = true) {f : Nat} {fn : Func} (hf : P.funcs[f]? = some fn) : (fn.name == "runtime.NumGoroutine") = false := by
  have := List.all_eq_true.1 h fn (by rw [Array.mem_toList_iff]; exact Array.mem_of_getElem? hf)
  simpa using this

section
variable {U : Type} {E : EvD U} {R : Walk U}

/-- A walk that suffices. -/
def Walk.Ok (E : EvD U) (R : Walk U) : Prop := ∀ env pl f N c h st Q (r : Option Nat), (pl = true → r = none) → R env pl f N c h st Q → WPe E.P r N env c st Q

theorem VP_ok (hn : namesOk E.P = true) (hT : E.T.Ok E.P) (hX : E.X.Ok E.P) (hR : R.Ok E) {env : List YH} {N : Nat} {h : List U} {o : Oper} {st : St} {K : St → Prop} {r : Option Nat} (hv : VP E R env N h o st K) : WPope E.P r N env o st K := by
  unfold VP at hv
  split at hv
  · rename_i c x st' hs
    obtain ⟨hd, hc, hK⟩ := condF hv
    cases hkp : E.kp with
    | false => rw [hkp] at hs; simp at hs
    | true => rw [hkp] at hs; exact .of (stepKp_ok hs hc (fun d h => by rw [h] at hd; simpa [dstOk] using hd) hK)
  split at hv
  · rename_i c x st' hs
    obtain ⟨hd, hc, hK⟩ := condF hv
    exact .of (WPop_of_stepA hT hs hc (fun d h => by rw [h] at hd; simpa [dstOk] using hd) hK)
  · split at hv
    · rename_i fv args aty ho
      split at hv
      · rename_i g fs cs hfv
        split at hv
        · rename_i fn hf
          split at hv
          · rename_i c hb
            obtain ⟨hck, hv⟩ := condF hv
            simp only [Bool.and_eq_true, Nat.ble_eq] at hck
            exact WPope_inline ho hfv hf (namesOk_get hn hf) hb hck.1 hck.2.1 hck.2.2 (hR _ true _ _ _ _ _ _ none (fun _ => rfl) hv)
          · split at hv
            · rename_i c x st' hs
              obtain ⟨hd, hc, hK⟩ := condF hv
              exact .of (WPop_of_ext hX ho hfv hs hc hd hK)
            · exact hv.elim
        · exact hv.elim
      · rename_i i hfv
        split at hv
        · rename_i fr y hL hy
          obtain ⟨hck, hv⟩ := condF hv
          simp only [Bool.and_eq_true] at hck
          obtain ⟨h1, h2⟩ := envFind_ok hy
          refine WPope_yield ho hfv h1 h2 hck.1 hck.2.1 hL (Nat.eq_of_beq_eq_true hck.2.2.1) hck.2.2.2 (fun l => WPe_mono ?_ (hR _ false _ _ _ _ _ _ (some l) (fun h => by simp at h) hv))
          intro e s1 hh
          cases e with
          | normal =>
            obtain ⟨b1, hh⟩ := condF hh
            show cond _ _ _
            rw [b1]
            show (match s1.L.get i with | some (.lp fr1 .ready) => _ | _ => False)
            split at hh
            · rename_i fr1 hL1
              exact hR _ false _ _ _ _ _ _ (some l) (fun h => by simp at h) hh
            · exact hh.elim
          | _ => exact hh
        · exact hv.elim
      · exact hv.elim
    · exact hv.elim

theorem VO_ok (hn : namesOk E.P = true) (hT : E.T.Ok E.P) (hX : E.X.Ok E.P) (hR : R.Ok E) {env : List YH} {N : Nat} {h : List U} {ops : Array Oper} {K : St → Prop} {r : Option Nat} : ∀ {l : List Nat} {st : St}, VO E R env N h ops l st K →
    ∀ g a w, EnvOk g env → Holds N st g a w → wpOpsIn (FW r) 0 E.P ops (PostOps E.P N g K) l a w
  | [], st, hv, g, a, w, he, hg => ⟨g, st, Gh.le_refl g, hg, hv⟩
  | i :: rest, st, hv, g, a, w, he, hg => by
    have next : ∀ {st1 : St} {o : Oper}, ops[i]? = some o → Region.wanted o (yielded ops a.tmps) = true → Holds N st1 g a w → VP E R env N h o st1 (fun st' => VO E R env N h ops rest st' K) → wpOpsIn (FW r) 0 E.P ops (PostOps E.P N g K) (i :: rest) a w := by
      intro st1 o ho hw hg1 hv1
      have := VP_ok (r := r) hn hT hX hR hv1 g a w he hg1
      rw [wpOpsIn_cons]
      simp only [wpOpIn, ho, hw, if_true]
      refine wpIn_anyQ (fun a' w' hh => ?_) this
      obtain ⟨g', st', h1, h2, h3⟩ := hh
      exact wpOpsIn_mono (fun e a w hp => Post_le h1 hp) rest a' w' (VO_ok hn hT hX hR h3 g' a' w' (he.le h1) h2)
    have skip : ∀ {st1 : St} {o : Oper}, ops[i]? = some o → Region.wanted o (yielded ops a.tmps) = false → Holds N st1 g a w → cond (dstOk N o.dst) (VO E R env N h ops rest (st1.put o.dst (.v undef)) K) False → wpOpsIn (FW r) 0 E.P ops (PostOps E.P N g K) (i :: rest) a w := by
      intro st1 o ho hw hg1 hv1
      obtain ⟨hd, hv1⟩ := condF hv1
      simp only [wpOpsIn, ho, hw, Bool.false_eq_true, if_false]
      exact ⟨fun _ _ => trivial, VO_ok hn hT hX hR hv1 g _ w he (hg1.undef hd)⟩
    unfold VO at hv
    split at hv
    · exact hv.elim
    · rename_i o ho
      split at hv
      · rename_i hgd
        exact next ho (by simp [Region.wanted, hgd]) hg hv
      · rename_i j want hgd
        split at hv
        · exact hv.elim
        · rename_i d hj
          obtain ⟨ρ, Fp, ms, hc⟩ := id hg
          split at hv
          · rename_i t hft
            have hb := slot_bool hc.frm hft
            have hyw : Region.wanted o (yielded ops a.tmps) = (t == want) := by
              simp only [Region.wanted, hgd, yielded_of hj hb]
              cases t <;> cases want <;> rfl
            have hset : ∀ w', t = w' → Holds N { st with fr := (d, .v (.bool w')) :: st.fr } g a w := by
              rintro w' rfl
              refine ⟨ρ, Fp, ms, ⟨hc.mem, fun t' => ?_, hc.dec, hc.size, hc.defers, hc.marks, hc.base⟩⟩
              show (fget ((d, _) :: st.fr) t').R _ _ _
              rw [fget_cons]
              by_cases hdt : d = t'
              · subst hdt; simp only [if_true]; rw [← hft]; exact hc.frm d
              · simp only [hdt, if_false]; exact hc.frm t'
            by_cases htw : t = want
            · subst htw
              have hbi : bIs t t = true := by cases t <;> rfl
              rw [hbi] at hv
              exact next ho (by rw [hyw]; simp) (hset _ rfl) hv
            · have ht : t = !want := by cases t <;> cases want <;> first | rfl | exact absurd rfl htw
              have hbi : bIs t want = false := by rw [ht]; cases want <;> rfl
              rw [hbi] at hv
              exact skip ho (by rw [hyw]; simp [htw]) (hset _ ht) hv
          · rename_i vs hft
            have hb : a.tmps.getD d undef = .tuple vs := by
              have := hc.frm d
              rw [hft] at this
              simpa [SV.R] using this
            refine skip ho ?_ hg hv
            simp only [Region.wanted, hgd, yielded, hj, Option.bind_some]
            rw [Array.getD_eq_getD_getElem?] at hb
            cases ht : a.tmps[d]? with
            | none => simp
            | some u => rw [ht] at hb; simp at hb; subst hb; simp
          · exact hv.elim

theorem VG_ok (hm : E.P.follows .mixedOrders = true) (hn : namesOk E.P = true) (hT : E.T.Ok E.P) (hX : E.X.Ok E.P) : ∀ n, Walk.Ok E (VG E n) ∧
    ∀ env pl f N c h st Q (r : Option Nat), (pl = true → r = none) → VG E n env pl f N (.loop c) h st Q → WR E.P r N env c Q n st
  | 0 => ⟨fun _ _ _ _ _ _ _ _ _ _ hv => hv.elim, fun _ _ _ _ _ _ _ _ _ _ hv => hv.elim⟩
  | n + 1 => by
    obtain ⟨ih, ihl⟩ := VG_ok hm hn hT hX n
    have hloop : ∀ env pl f N c h st Q (r : Option Nat), (pl = true → r = none) → VG E (n + 1) env pl f N (.loop c) h st Q → WR E.P r N env c Q (n + 1) st := by
      intro env pl f N c h st Q r hp hv
      simp only [VG] at hv
      refine WPe_mono ?_ (ih _ _ _ _ _ _ _ _ r hp hv)
      intro e s hs
      cases e with
      | normal => exact ihl _ _ _ _ _ _ _ _ r hp hs
      | _ => exact hs
    refine ⟨?_, hloop⟩
    intro env pl f N c h st Q r hp hv
    cases c with
    | skip => exact fun g a w _ hg => wpIn_skip ⟨g, st, Gh.le_refl g, hg, by simpa only [VG] using hv⟩
    | region i ops draw =>
      simp only [VG] at hv
      refine WPe_gh (GHs_mono (fun st hv => ?_) hv)
      cases hs : E.sq f i && !draw with
      | true =>
        rw [hs] at hv
        have hd : draw = false := by cases draw <;> simp_all
        subst hd
        intro g a w he hg
        refine wpIn_region ?_
        refine wpOpsIn_mono (fun e a w hp => ?_) _ a w (VO_ok hn hT hX ih hv g a w he hg)
        obtain ⟨g', st', h1, h2, h3⟩ := hp
        cases e with
        | normal => exact ⟨g', st', h1, h2, h3⟩
        | _ => exact h3.elim
      | false => rw [hs] at hv; exact .of (VR_ok hm hT hv)
    | seq a b =>
      simp only [VG] at hv
      refine WPe_seq (WPe_mono ?_ (ih _ _ _ _ _ _ _ _ r hp hv))
      intro e s hs
      cases e with
      | normal => exact ih _ _ _ _ _ _ _ _ r hp hs
      | _ => exact hs
    | cond c a b =>
      simp only [VG] at hv
      split at hv
      · rename_i t hc
        refine WPe_cond hc ?_
        cases t with
        | true => exact ih _ _ _ _ _ _ _ _ r hp hv
        | false => exact ih _ _ _ _ _ _ _ _ r hp hv
      · exact hv.elim
    | block id c =>
      simp only [VG] at hv
      split at hv
      · rename_i c s hs
        obtain ⟨x0, h1, h2, h3⟩ := hv
        refine WPe_block (WPe_loop (X := { x : U // s.ok x }) (fun x => s.I x.1) (fun x => s.μ x.1) ⟨x0, h1⟩ (LeP_ok h2) (fun x => WPe_mono ?_ (ih _ _ _ _ _ _ _ _ r hp (h3 x.1 x.2))))
        intro e st' he
        cases e with
        | normal => obtain ⟨x', k1, k2, k3⟩ := he; exact ⟨⟨x', k1⟩, LeP_ok k2, k3⟩
        | _ => exact he
      · exact WPe_block (ih _ _ _ _ _ _ _ _ r hp hv)
    | loop c => exact WR_ok (hloop _ _ _ _ _ _ _ _ r hp hv)
    | exit id => exact fun g a w _ hg => wpIn_exit ⟨g, st, Gh.le_refl g, hg, by simpa only [VG] using hv⟩
    | ret => exact fun g a w _ hg => wpIn_ret ⟨g, st, Gh.le_refl g, hg, by simpa only [VG] using hv⟩
    | rangeFunc fv ps assign body =>
      simp only [VG] at hv
      split at hv
      · rename_i g fs cs hfv
        split at hv
        · rename_i fn hf
          split at hv
          · rename_i c hb
            obtain ⟨hck, hv⟩ := condF hv
            simp only [Bool.and_eq_true, Nat.ble_eq] at hck
            have := hp rfl; subst this
            exact WPe_rangeFunc hfv hf (namesOk_get hn hf) hb hck.1 hck.2.1 hck.2.2.1 hck.2.2.2 (ih _ true _ _ _ _ _ _ none (fun _ => rfl) hv)
          · exact hv.elim
        · exact hv.elim
      · exact hv.elim
    | scope c => exact hv.elim
    | label l => exact hv.elim
    | goto l => exact hv.elim
    | refuse s => exact hv.elim
end

/-- A CONTRACT FROM THE CONDITION OF THE BODY. -/
theorem Con.ofG {U : Type} {P : Program} {T : Tab} {X : XTab} {f : FuncId} {fn : Func} {c : Code} {con : Con} (hm : P.follows .mixedOrders = true) (hnm : namesOk P = true) (hT : T.Ok P) (hX : X.Ok P) (hf : P.funcs[f]? = some fn) (hb : fn.body = some c) (n : Nat)
    (ct : Nat → Nat → List (List Nat)) (sq : Nat → Nat → Bool) (inv : List SV → Ents → Nat → Nat → List U → St → Option (LoopSpec U))
    (h : ∀ xs L pre x L', con.run xs L = some (pre, x, L') → pre → xs.length ≤ fn.ntmps ∧ VG { P, T, X, ct, sq, inv := inv xs L } n [] true f fn.ntmps c [] (St.init xs L L.length) (RetP P fn L.length x L')) : con.Ok P f :=
  ⟨⟨fn, hf, namesOk_get hnm hf, by rw [hb]; rfl⟩, fun xs L pre x L' hr hp => SpecF_of_WP hf hb (h xs L pre x L' hr hp).1
    (WPe.nil (WPe_mono (fun e st hh => RetP_ok hh) ((VG_ok (E := { P, T, X, ct, sq, inv := inv xs L }) hm hnm hT hX n).1 _ _ _ _ _ _ _ _ none (fun _ => rfl) (h xs L pre x L' hr hp).2)))⟩

theorem SpecF.ofG {U : Type} {P : Program} {T : Tab} {X : XTab} {f : FuncId} {fn : Func} {c : Code} (hm : P.follows .mixedOrders = true) (hnm : namesOk P = true) (hT : T.Ok P) (hX : X.Ok P) (hf : P.funcs[f]? = some fn) (hb : fn.body = some c) (n : Nat)
    (ct : Nat → Nat → List (List Nat)) (sq : Nat → Nat → Bool) (inv : Nat → Nat → List U → St → Option (LoopSpec U))
    {xs : List SV} {L : Ents} {base : Nat} {x : SV} {L' : Ents} (hl : xs.length ≤ fn.ntmps) (h : VG { P, T, X, ct, sq, inv } n [] true f fn.ntmps c [] (St.init xs L base) (RetP P fn base x L')) : SpecF P f xs L base x L' :=
  SpecF_of_WP hf hb hl (WPe.nil (WPe_mono (fun e st hh => RetP_ok hh) ((VG_ok (E := { P, T, X, ct, sq, inv }) hm hnm hT hX n).1 _ _ _ _ _ _ _ _ none (fun _ => rfl) h)))

/-- The same, with steps that the program does not take. -/
theorem Con.ofH {U : Type} {P : Program} {T : Tab} {X : XTab} {f : FuncId} {fn : Func} {c : Code} {con : Con} (hm : P.follows .mixedOrders = true) (hnm : namesOk P = true) (hT : T.Ok P) (hX : X.Ok P) (hf : P.funcs[f]? = some fn) (hb : fn.body = some c) (n : Nat)
    (ct : Nat → Nat → List (List Nat)) (sq : Nat → Nat → Bool) (gh : Nat → Nat → List GI) (kp : Bool) (inv : List SV → Ents → Nat → Nat → List U → St → Option (LoopSpec U))
    (h : ∀ xs L pre x L', con.run xs L = some (pre, x, L') → pre → xs.length ≤ fn.ntmps ∧ VG { P, T, X, ct, sq, gh, kp, inv := inv xs L } n [] true f fn.ntmps c [] (St.init xs L L.length) (RetP P fn L.length x L')) : con.Ok P f :=
  ⟨⟨fn, hf, namesOk_get hnm hf, by rw [hb]; rfl⟩, fun xs L pre x L' hr hp => SpecF_of_WP hf hb (h xs L pre x L' hr hp).1
    (WPe.nil (WPe_mono (fun e st hh => RetP_ok hh) ((VG_ok (E := { P, T, X, ct, sq, gh, kp, inv := inv xs L }) hm hnm hT hX n).1 _ _ _ _ _ _ _ _ none (fun _ => rfl) (h xs L pre x L' hr hp).2)))⟩

/-- A state as it stands, but for some slots that are kept and some that are new, and for some entries. -/
def St.mk' (st : St) (keep : List Nat) (new : List (Nat × SV)) (ents : Ents) : St :=
  { fr := new ++ keep.map (fun t => (t, fget st.fr t)), L := ents ++ st.L.filter (fun p => !(ents.any (fun q => Nat.beq q.1 p.1))), nx := ents.foldl (fun n p => max n (p.1 + 1)) st.nx, dec := [], base := st.base }

/-- A state told by some slots that stay, with their entries, and by new ones. -/
def St.cut (keep : List Nat) (new : List (Nat × SV)) (ents : Ents) (st : St) : St :=
  { fr := new ++ keep.map (fun t => (t, fget st.fr t)),
    L := ents ++ st.L.filter (fun p => keep.any (fun t => match fget st.fr t with | .ptr i _ => Nat.beq i p.1 | .sl i _ _ _ _ _ => Nat.beq i p.1 | _ => false) && !(ents.any (fun q => Nat.beq q.1 p.1))),
    nx := st.nx, dec := [], base := st.base }

theorem condP {b : Bool} {p q : Prop} : cond b p q ↔ (b = true → p) ∧ (b = false → q) := by cases b <;> simp

/-- Conditions that hold anyhow, in short. -/
def tt (p : Prop) : Prop := True ∧ p
def tu (p : Prop) : Prop := true = true ∧ p
def td (p : Prop) : Prop := p ∧ True
@[simp] theorem tt_iff {p : Prop} : tt p ↔ p := by simp [tt]
@[simp] theorem tu_iff {p : Prop} : tu p ↔ p := by simp [tu]
@[simp] theorem td_iff {p : Prop} : td p ↔ p := by simp [td]
@[simp] theorem FEq_refl {n : Nat} {f : Nat → SV} : FEq n f f ↔ True := by simp [FEq]
@[simp] theorem FEq_zero {f g : Nat → SV} : FEq 0 f g ↔ True := by simp [FEq]
theorem FEq_iff {n : Nat} {f g : Nat → SV} : FEq n f g ↔ ∀ k, k < n → f k = g k := Iff.rfl
end Go.Sym

/- Slices that are known to be nil, handed as empty ones that are only read. -/
set_option linter.unusedSimpArgs false
set_option linter.unusedVariables false
namespace Go.Sym

/-- Nil, as a slice of no elements of z cells. -/
def nilS (z : Nat) : SV → SV
  | .v (.slice none 0 0) => .ro z 0 (fun _ => .v (.int .u8 0)) false
  | x => x
def nilR : SV → SV
  | .agg xs => .agg (xs.map (nilS 1))
  | x => x
/-- d: what stands for elements that there are none of. -/
def nilT (z : Nat) (d : SV) : SV → SV
  | .v (.slice none 0 0) => .ro z 0 (fun _ => d) false
  | .agg xs => .agg (xs.map (nilS 1))
  | .ro z n f e => .ro z n (fun k => nilR (f k)) e
  | x => x

theorem C_nilS {G H : Heap} {z : Nat} : ∀ {x : SV} {s : Nat} {rd : Rd} {F : List Nat}, SV.C G H x s rd F → SV.C G H (nilS z x) s rd F := by
  intro x s rd F h
  unfold nilS
  split
  · simp only [SV.C] at h ⊢
    exact ⟨h.1, h.2.2.2, none, 0, h.2.1, Nat.le_refl _, by simp, .inl trivial⟩
  · exact h

theorem nilS_notAgg {z : Nat} {x : SV} (h : x.notAgg = true) : (nilS z x).notAgg = true := by
  unfold nilS
  split
  · rfl
  · exact h

theorem CL_nilS {G H : Heap} {z : Nat} : ∀ {xs : List SV} {rd : Rd} {F : List Nat}, SV.CL G H xs rd F → SV.CL G H (xs.map (nilS z)) rd F
  | [], rd, F, h => h
  | x :: xs, rd, F, h => by
    simp only [List.map_cons, SV.CL] at h ⊢
    obtain ⟨F1, F2, rfl, hna, h1, h2⟩ := h
    exact ⟨F1, F2, rfl, nilS_notAgg hna, C_nilS h1, CL_nilS h2⟩

theorem C_nilR {G H : Heap} {x : SV} {s : Nat} {rd : Rd} {F : List Nat} (h : SV.C G H x s rd F) : SV.C G H (nilR x) s rd F := by
  unfold nilR
  split
  · simp only [SV.C, List.length_map] at h ⊢
    exact ⟨h.1, CL_nilS h.2⟩
  · exact h

theorem R_nilS {ρ : Nat → Nat × Nat} {G : Heap} {z : Nat} {x : SV} {u : Value} (h : x.R ρ G u) : (nilS z x).R ρ G u := by
  unfold nilS
  split
  · simp only [SV.R, SV.C] at h ⊢
    exact ⟨trivial, trivial, none, 0, by simp [one, h], Nat.le_refl _, by simp, .inl trivial⟩
  · exact h

theorem RL_nilS {ρ : Nat → Nat × Nat} {G : Heap} {z : Nat} : ∀ {xs : List SV} {us : List Value}, SV.RL ρ G xs us → SV.RL ρ G (xs.map (nilS z)) us
  | [], us, h => h
  | x :: xs, us, h => by
    simp only [List.map_cons, SV.RL] at h ⊢
    obtain ⟨u, rest, h1, h2, h3⟩ := h
    exact ⟨u, rest, h1, R_nilS h2, RL_nilS h3⟩

theorem R_nilT {ρ : Nat → Nat × Nat} {G : Heap} {z : Nat} {d : SV} {x : SV} {u : Value} (h : x.R ρ G u) : (nilT z d x).R ρ G u := by
  unfold nilT
  split
  · simp only [SV.R, SV.C] at h ⊢
    exact ⟨trivial, trivial, none, 0, by simp [one, h], Nat.le_refl _, by simp, .inl trivial⟩
  · simp only [SV.R] at h ⊢
    obtain ⟨us, h1, h2⟩ := h
    exact ⟨us, h1, RL_nilS h2⟩
  · simp only [SV.R, SV.C] at h ⊢
    obtain ⟨h1, h2, A, c, h3, h4, h5, h6⟩ := h
    refine ⟨h1, h2, A, c, h3, h4, h5, ?_⟩
    rcases h6 with h6 | ⟨b, o, cs, e, fr, h7, h8, h9⟩
    · exact .inl h6
    · exact .inr ⟨b, o, cs, e, fr, h7, h8, fun k hk => C_nilR (h9 k hk)⟩
  · exact h

theorem RL_nilT {ρ : Nat → Nat × Nat} {G : Heap} {z : Nat} {d : SV} : ∀ {xs : List SV} {us : List Value}, SV.RL ρ G xs us → SV.RL ρ G (xs.map (nilT z d)) us
  | [], us, h => h
  | x :: xs, us, h => by
    simp only [List.map_cons, SV.RL] at h ⊢
    obtain ⟨u, rest, h1, h2, h3⟩ := h
    exact ⟨u, rest, h1, R_nilT h2, RL_nilT h3⟩

/-- A contract that takes nil for an empty slice (of elements of z cells). -/
def Con.nilz (con : Con) (z : Nat) (d : SV) : Con where
  pure := con.pure
  hand := con.hand
  run xs L := con.run (xs.map (nilT z d)) L

theorem Con.Ok.nilz {P : Program} {f : FuncId} {con : Con} (h : con.Ok P f) (z : Nat) (d : SV) : (con.nilz z d).Ok P f :=
  ⟨h.1, fun xs L c x L' hr hc g ρ Fp w us hus hm => h.2 (xs.map (nilT z d)) L c x L' hr hc g ρ Fp w us (RL_nilT hus) hm⟩
end Go.Sym
