/- Rows 1 and 2: what the contracts share. -/
import Derived.Test.YtjbbpacbfpbbcaaSL
import Derived.Test.YtjbbpacbfpbbcaaProg
set_option linter.all false
set_option linter.unusedSimpArgs false
set_option linter.unusedVariables false
set_option linter.deprecated false
set_option linter.unusedVariables false
namespace Go.Tk
open Go.Sym Go.Proofs

theorem mixed : Try.prog.follows .mixedOrders = true := by kernel_rfl

theorem nmOk : namesOk Try.prog = true := by kernel_rfl

/-- A record. -/
structure RecD where
  r : Int
  kn : Nat
  kf : Nat → Int
  dn : Nat
  df : Nat → Int
  bad : Bool

def bys (f : Nat → Int) : Nat → SV := fun j => .v (.int .u8 (f j))
/-- A record that is only read. -/
def recSV (x : RecD) : SV := .agg [.v (.int .i64 x.r), .ro 1 x.kn (bys x.kf) false, .ro 1 x.dn (bys x.df) false, .v (.bool x.bad)]
/-- A record in memory of its own. -/
def recOwn (x : RecD) : SV := .agg [.v (.int .i64 x.r), .own 1 x.kn (bys x.kf), .own 1 x.dn (bys x.df), .v (.bool x.bad)]

def byteOf : SV → Int
  | .v (.int _ n) => n
  | _ => 0
def recOf : SV → RecD
  | .agg [.v (.int _ r), .ro _ kn kf _, .ro _ dn df _, .v (.bool b)] => ⟨r, kn, fun j => byteOf (kf j), dn, fun j => byteOf (df j), b⟩
  | _ => ⟨0, 0, fun _ => 0, 0, fun _ => 0, false⟩

def recsOf (f : Nat → SV) : Nat → RecD := fun k => recOf (f k)
theorem recOf_recSV (x : RecD) : recOf (recSV x) = x := rfl

def big : Nat := 1048576
def RecB (x : RecD) : Prop := x.kn ≤ big ∧ x.dn ≤ big

/-- Bytes for each record's length. -/
def costI (n m : Nat) : Int := cond ((n : Int) == 0) (32 + (m : Int)) (32 + (m : Int) + 16 + (n : Int))

def lim : Nat := 1099511627776

def costCon : Con where
  run xs L := match xs, L with
    | [.agg [.v (.int .i64 _), .ro 1 n _ _, .ro 1 m _ _, .v (.bool _)]], [] => some (n ≤ lim ∧ m ≤ lim, .v (.int .i64 (costI n m)), [])
    | _, _ => none

theorem cost_ok : costCon.Ok Try.prog 18 := by
  refine Con.of (U := Nat) (T := []) mixed trivial Try.func18 rfl rfl (fun _ => []) (fun _ _ _ _ => none) ?_
  intro xs L pre x L' h hp
  unfold costCon at h
  dsimp only at h
  split at h <;> try (simp at h; done)
  rename_i r n k e m d e' b
  cases h
  refine ⟨Nat.le_of_ble_eq_true rfl, ?_⟩
  obtain ⟨h1, h2⟩ := hp
  simp only [lim] at h1 h2
  refine cast (show ((true = true ∧
    True ∧
      True ∧
        True ∧
          True ∧
            True ∧
              True ∧
                (((↑n : Int) == (0 : Int)) = true →
                    True ∧
                      True ∧
                        True ∧
                          ((-9223372036854775808 : Int) ≤ (32 : Int) + (↑m : Int) ∧ (32 : Int) + (↑m : Int) ≤ (9223372036854775807 : Int)) ∧
                            True ∧ (True ∧ True) ∧ ((32 : Int) + (↑m : Int) = costI n m ∧ True) ∧ True) ∧
                  (((↑n : Int) == (0 : Int)) = false →
                    True ∧
                      True ∧
                        True ∧
                          ((-9223372036854775808 : Int) ≤ (32 : Int) + (↑m : Int) ∧ (32 : Int) + (↑m : Int) ≤ (9223372036854775807 : Int)) ∧
                            ((-9223372036854775808 : Int) ≤ (32 : Int) + (↑m : Int) + (16 : Int) ∧ (32 : Int) + (↑m : Int) + (16 : Int) ≤ (9223372036854775807 : Int)) ∧
                              True ∧
                                True ∧
                                  True ∧
                                    ((-9223372036854775808 : Int) ≤ (32 : Int) + (↑m : Int) + (16 : Int) + (↑n : Int) ∧
                                        (32 : Int) + (↑m : Int) + (16 : Int) + (↑n : Int) ≤ (9223372036854775807 : Int)) ∧
                                      True ∧ (True ∧ True) ∧ ((32 : Int) + (↑m : Int) + (16 : Int) + (↑n : Int) = costI n m ∧ True) ∧ True)) ∧
  True) = _ by kernel_rfl) ?_
  simp only [true_and, and_true, costI]
  constructor
  · intro h; simp only [h, cond_true, and_true]; omega
  · intro h; simp only [h, cond_false, and_true]; omega
end Go.Tk

/- Rows 1 and 2: small functions. -/
set_option linter.unusedVariables false
set_option linter.unusedSimpArgs false
namespace Go.Tk
open Go.Sym Go.Proofs

def validI (r : Int) (n : Nat) : Bool := cond (cond (decide (r ≥ 1)) (decide (r ≤ 255)) false) (decide ((n : Int) ≤ 255)) false

def validCon : Con where
  run xs L := match xs, L with
    | [.agg [.v (.int .i64 r), .ro 1 n _ _, .ro 1 _ _ _, .v (.bool _)]], [] => some (True, .v (.bool (validI r n)), [])
    | _, _ => none

theorem valid_ok : validCon.Ok Try.prog 22 := by
  refine Con.of (U := Nat) (T := []) mixed trivial Try.func22 rfl rfl (fun _ => []) (fun _ _ _ _ => none) ?_
  intro xs L pre x L' h hp
  unfold validCon at h
  dsimp only at h
  split at h <;> try (simp at h; done)
  rename_i r n k e m d e' b
  cases h
  refine ⟨Nat.le_of_ble_eq_true rfl, ?_⟩
  refine cast (show (td (tu (tt (tt (tt (tt (tt (tt ((decide (r ≥ (1 : Int)) = true → True) ∧ (decide (r ≥ (1 : Int)) = true → True) ∧ (decide (r ≥ (1 : Int)) = true → True) ∧ tt (tt (((bif decide (r ≥ (1 : Int)) then decide (r ≤ (255 : Int)) else false) = true → True) ∧ ((bif decide (r ≥ (1 : Int)) then decide (r ≤ (255 : Int)) else false) = true → True) ∧ ((bif decide (r ≥ (1 : Int)) then decide (r ≤ (255 : Int)) else false) = true → True) ∧ ((bif decide (r ≥ (1 : Int)) then decide (r ≤ (255 : Int)) else false) = true → True) ∧ tt (tt (tt True ∧ td (td ((bif bif decide (r ≥ (1 : Int)) then decide (r ≤ (255 : Int)) else false then decide ((↑n : Int) ≤ (255 : Int)) else false) = validI r n))))))))))))))) = _ by kernel_rfl) ?_
  simp only [tt_iff, tu_iff, td_iff, FEq_refl, FEq_zero, condP, decide_eq_true_eq, decide_eq_false_iff_not, true_and, and_true, implies_true, and_self, Bool.true_eq_false, Bool.false_eq_true, false_implies, forall_const, Int.toNat_natCast, Nat.zero_add, gt_iff_lt, ge_iff_le, Nat.le_refl, Bool.not_eq_true, Bool.not_eq_false, Int.not_lt, Int.not_le, Nat.not_lt, Nat.not_le]
  simp only [validI]

/-- The first bytes, no more than so many. -/
def cutN (n : Nat) (k : Int) : Nat := cond (decide ((n : Int) > k)) k.toNat n

def cutCon : Con where
  run xs L := match xs, L with
    | [.ro 1 n f _, .v (.int .i64 k)], [] => some (0 ≤ k, .ro 1 (cutN n k) f false, [])
    | _, _ => none

theorem cut_ok : cutCon.Ok Try.prog 7 := by
  refine Con.of (U := Nat) (T := []) mixed trivial Try.func7 rfl rfl (fun _ => []) (fun _ _ _ _ => none) ?_
  intro xs L pre x L' h hp
  unfold cutCon at h
  dsimp only at h
  split at h <;> try (simp at h; done)
  rename_i n f e k
  cases h
  refine ⟨Nat.le_of_ble_eq_true rfl, ?_⟩
  refine cast (show (tt (tt (tt (tt (tt ((decide ((↑n : Int) > k) = true → tt (tt (((0 : Int) ≤ k ∧ k ≤ (↑n : Int)) ∧ tt (tt True ∧ td (td ((false = true → false = true) ∧ Int.toNat k = cutN n k ∧ FEq (cutN n k) f f)))))) ∧ (decide ((↑n : Int) > k) = false → tt (tt (tt True ∧ td (td ((false = true → e = true) ∧ n = cutN n k ∧ FEq (cutN n k) f f))))))))))) = _ by kernel_rfl) ?_
  simp only [tt_iff, tu_iff, td_iff, FEq_refl, FEq_zero, condP, decide_eq_true_eq, decide_eq_false_iff_not, true_and, and_true, implies_true, and_self, Bool.true_eq_false, Bool.false_eq_true, false_implies, forall_const, Int.toNat_natCast, Nat.zero_add, gt_iff_lt, ge_iff_le, Nat.le_refl, Bool.not_eq_true, Bool.not_eq_false, Int.not_lt, Int.not_le, Nat.not_lt, Nat.not_le]
  refine ⟨fun h => ⟨⟨hp, ?_⟩, ?_⟩, fun h => ?_⟩
  · omega
  · simp [cutN, h]
  · have h2 : ¬ k < (n : Int) := by omega
    simp [cutN, h2]

/-- A copy in new memory. -/
def bcloneCon : Con where
  pure := false
  run xs L := match xs, L with
    | [.ro 1 n f _], [] => some (n ≤ lim, .sl 0 1 0 n n false, [(0, .row 1 n f)])
    | _, _ => none

theorem bclone_ok : bcloneCon.Ok Try.prog 37 := by
  refine ⟨⟨_, Try.func37, rfl, rfl⟩, ?_⟩
  intro xs L pre x L' h hp
  unfold bcloneCon at h
  dsimp only at h
  split at h <;> try (simp at h; done)
  rename_i n f e
  cases h
  refine SpecF.ro0 (fun hn => ?_) (fun hn A c => ?_)
  · refine SpecF.of (U := Nat) (T := []) mixed trivial Try.func37 rfl (fun _ => []) (fun _ _ => none) (Nat.le_of_ble_eq_true rfl) ?_
    refine cast (show (tt (tt (Prod.fst ((fun (b : Prop × Bool) => (Prod.fst b, SV.v (Value.bool (Prod.snd b)))) ((0 : Nat) < n, false)) ∧ (false = true → tt (tt True ∧ td ((0 : Nat) = (0 : Nat) ∧ n = (0 : Nat) ∧ n = (0 : Nat)) ∧ td ((0 : Nat) = n ∧ FEq n (fun (x : Nat) => SV.any) f))) ∧ (false = false → td (tt (tt (tt (td (((0 : Nat) = (0 : Nat) ∧ tt (((0 : Nat) + n) * (1 : Nat) ≤ (140737488355328 : Nat))) ∧ tt (tt (tt True ∧ td ((0 : Nat) = (0 : Nat) ∧ (0 : Nat) + n = n ∧ n ≤ n ∧ n ≤ (0 : Nat) + n) ∧ td ((0 : Nat) + n = n ∧ FEq n (comb (seqF []) f (0 : Nat)) f)))))))))))) = _ by kernel_rfl) ?_
    simp only [tt_iff, tu_iff, td_iff, FEq_refl, FEq_zero, condP, decide_eq_true_eq, decide_eq_false_iff_not, true_and, and_true, implies_true, and_self, Bool.true_eq_false, Bool.false_eq_true, false_implies, forall_const, Int.toNat_natCast, Nat.zero_add, gt_iff_lt, ge_iff_le, Nat.le_refl, Bool.not_eq_true, Bool.not_eq_false, Int.not_lt, Int.not_le, Nat.not_lt, Nat.not_le]
    refine ⟨hn, by simp only [lim] at hp; omega, ?_⟩
    simp [FEq, comb_ge]
  · cases A with
    | none =>
      refine SpecF.of (U := Nat) (T := []) mixed trivial Try.func37 rfl (fun _ => []) (fun _ _ => none) (Nat.le_of_ble_eq_true rfl) ?_
      refine cast (show (tt (tt (tt ((true = true → tt (tt True ∧ td ((0 : Nat) = (0 : Nat) ∧ n = (0 : Nat) ∧ n = (0 : Nat)) ∧ td ((0 : Nat) = n ∧ FEq n (fun (x : Nat) => SV.any) f))) ∧ (true = false → td (tt (tt (tt (td (((0 : Nat) = (0 : Nat) ∧ (0 : Nat) = (0 : Nat) ∧ (0 : Nat) ≤ (140737488355328 : Nat)) ∧ tt (tt (tt True ∧ td ((0 : Nat) = (0 : Nat) ∧ (0 : Nat) = n ∧ n ≤ n ∧ n ≤ (0 : Nat)) ∧ td ((0 : Nat) = n ∧ FEq n (comb (seqF []) (fun (x : Nat) => SV.any) (0 : Nat)) f))))))))))))) = _ by kernel_rfl) ?_
      simp only [tt_iff, tu_iff, td_iff, FEq_refl, FEq_zero, condP, decide_eq_true_eq, decide_eq_false_iff_not, true_and, and_true, implies_true, and_self, Bool.true_eq_false, Bool.false_eq_true, false_implies, forall_const, Int.toNat_natCast, Nat.zero_add, gt_iff_lt, ge_iff_le, Nat.le_refl, Bool.not_eq_true, Bool.not_eq_false, Int.not_lt, Int.not_le, Nat.not_lt, Nat.not_le]
      simp [hn, FEq_zero]
    | some A =>
      refine SpecF.of (U := Nat) (T := []) mixed trivial Try.func37 rfl (fun _ => []) (fun _ _ => none) (Nat.le_of_ble_eq_true rfl) ?_
      refine cast (show (tt (tt (tt ((false = true → tt (tt True ∧ td ((0 : Nat) = (0 : Nat) ∧ n = (0 : Nat) ∧ n = (0 : Nat)) ∧ td ((0 : Nat) = n ∧ FEq n (fun (x : Nat) => SV.any) f))) ∧ (false = false → td (tt (tt (tt (td (((0 : Nat) = (0 : Nat) ∧ (0 : Nat) = (0 : Nat) ∧ (0 : Nat) ≤ (140737488355328 : Nat)) ∧ tt (tt (tt True ∧ td ((0 : Nat) = (0 : Nat) ∧ (0 : Nat) = n ∧ n ≤ n ∧ n ≤ (0 : Nat)) ∧ td ((0 : Nat) = n ∧ FEq n (comb (seqF []) (fun (x : Nat) => SV.any) (0 : Nat)) f))))))))))))) = _ by kernel_rfl) ?_
      simp only [tt_iff, tu_iff, td_iff, FEq_refl, FEq_zero, condP, decide_eq_true_eq, decide_eq_false_iff_not, true_and, and_true, implies_true, and_self, Bool.true_eq_false, Bool.false_eq_true, false_implies, forall_const, Int.toNat_natCast, Nat.zero_add, gt_iff_lt, ge_iff_le, Nat.le_refl, Bool.not_eq_true, Bool.not_eq_false, Int.not_lt, Int.not_le, Nat.not_lt, Nat.not_le]
      simp [hn, FEq_zero]
end Go.Tk

/- Rows 1 and 2: copies of records; used space. -/
set_option linter.unusedVariables false
set_option linter.unusedSimpArgs false
namespace Go.Tk
open Go.Sym Go.Proofs

/-- A copy of a record. -/
def cloneCon : Con where
  pure := false
  run xs L := match xs, L with
    | [.agg [.v (.int .i64 r), .ro 1 n f _, .ro 1 m g _, .v (.bool b)]], [] => some (n ≤ lim ∧ m ≤ lim, .agg [.v (.int .i64 r), .sl 0 1 0 n n false, .sl 1 1 0 m m false, .v (.bool b)], [(0, .row 1 n f), (1, .row 1 m g)])
    | _, _ => none

theorem clone_ok : cloneCon.Ok Try.prog 23 := by
  refine Con.ofG (U := Nat) (X := []) (T := [(37, bcloneCon)]) mixed nmOk ⟨bclone_ok, trivial⟩ trivial Try.func23 rfl 100 (fun _ i => match i with | 1 => [[], [0], [0, 1], [], [3], [0, 1, 2, 3, 4], [0, 1, 2, 3, 4], [0, 1, 2, 3, 4, 5, 6], [0, 1, 2, 3, 4, 5, 6, 7], [0, 1, 2, 3, 4, 5, 6, 7, 8]] | _ => []) (fun _ _ => false) (fun _ _ _ _ _ _ => none) ?_
  intro xs L pre x L' h hp
  unfold cloneCon at h
  dsimp only at h
  split at h <;> try (simp at h; done)
  rename_i r n f e m g e' b
  cases h
  refine ⟨Nat.le_of_ble_eq_true rfl, ?_⟩
  refine cast (show (td (tu (tt (td (tu (tt (tt (tt (tt (tt (td ((tt True ∧ n ≤ (1099511627776 : Nat) ∧ (false = true → tt (td (∀ (k : Nat), SV.rf (f k))))) ∧ (((true = true → True) ∧ SV.ro (1 : Nat) m g e' = SV.ro (1 : Nat) m g e') ∧ td ((true = true → True) ∧ SV.ptr (0 : Nat) (2 : Nat) = SV.ptr (0 : Nat) (2 : Nat))) ∧ tt (td ((tt True ∧ m ≤ (1099511627776 : Nat) ∧ (false = true → tt (td (∀ (k : Nat), SV.rf (g k))))) ∧ td ((true = true → True) ∧ SV.ptr (0 : Nat) (1 : Nat) = SV.ptr (0 : Nat) (1 : Nat)) ∧ td (tu (tt (tt (td (tu (tt (tt (td (tu (tt (tt True ∧ td (r = r ∧ ((0 : Nat) = (0 : Nat) ∧ n = n ∧ n ≤ n ∧ n ≤ n) ∧ ((0 : Nat) = (0 : Nat) ∧ m = m ∧ m ≤ m ∧ m ≤ m) ∧ td (b = b)) ∧ (n = n ∧ FEq n f f) ∧ td (m = m ∧ FEq m g g)))))))))))))))))))))))))) = _ by kernel_rfl) ?_
  simp only [tt_iff, tu_iff, td_iff, FEq_refl, FEq_zero, condP, decide_eq_true_eq, decide_eq_false_iff_not, true_and, and_true, implies_true, and_self, Bool.true_eq_false, Bool.false_eq_true, false_implies, forall_const, Int.toNat_natCast, Nat.zero_add, gt_iff_lt, ge_iff_le, Nat.le_refl, Bool.not_eq_true, Bool.not_eq_false, Int.not_lt, Int.not_le, Nat.not_lt, Nat.not_le]
  exact hp
end Go.Tk

/- Rows 1 and 2: used space. -/
set_option linter.unusedVariables false
set_option linter.unusedSimpArgs false
namespace Go.Tk
open Go.Sym Go.Proofs

/-- The cost of the first records. -/
def usedI (x : Nat → RecD) : Nat → Int
  | 0 => 0
  | k + 1 => usedI x k + costI (x k).kn (x k).dn

theorem costI_bd {n m : Nat} (h1 : n ≤ big) (h2 : m ≤ big) : 32 ≤ costI n m ∧ costI n m ≤ 2097200 := by
  unfold costI big at *
  cases hc : ((n : Int) == 0) <;> simp only [cond_true, cond_false] <;> omega

theorem usedI_bd (x : Nat → RecD) : ∀ (k n : Nat), k ≤ n → (∀ j, j < n → RecB (x j)) → 0 ≤ usedI x k ∧ usedI x k ≤ 2097200 * k
  | 0, n, h, hb => by simp [usedI]
  | k + 1, n, h, hb => by
    obtain ⟨h1, h2⟩ := usedI_bd x k n (by omega) hb
    obtain ⟨h3, h4⟩ := hb k (by omega)
    have := costI_bd h3 h4
    simp only [usedI]; omega

def usedCon : Con where
  run xs L := match xs, L with
    | [.ro 4 n f _], [] => some (n ≤ big ∧ (∃ x : Nat → RecD, f = fun k => recSV (x k)) ∧ (∀ k, k < n → RecB (recsOf f k)), .v (.int .i64 (usedI (recsOf f) n)), [])
    | _, _ => none

def usedInv (xs : List SV) (L : Ents) (f b : Nat) (h : List Nat) (st : St) : Option (LoopSpec Nat) :=
  match xs with
  | [.ro _ n g _] => some { I := fun k => st.mk' [0, 1, 5, 6] [(7, .v (.int .i64 k))] [(0, .var [.v (.int .i64 (usedI (recsOf g) k))])], ok := fun k => k ≤ n, μ := fun k => n - k }
  | _ => none

theorem used_ok : usedCon.Ok Try.prog 15 := by
  refine Con.ofG (U := Nat) (X := []) (T := [(18, costCon)]) mixed nmOk ⟨cost_ok, trivial⟩ trivial Try.func15 rfl 200 (fun _ _ => []) (fun _ _ => true) usedInv ?_
  intro xs L pre x L' h hp
  unfold usedCon at h
  dsimp only at h
  split at h <;> try (simp at h; done)
  rename_i n f e
  cases h
  refine ⟨Nat.le_of_ble_eq_true rfl, ?_⟩
  obtain ⟨hn, ⟨x, rfl⟩, hb⟩ := hp
  refine cast (show (tt (tu (tu (tt (tu (tu (tt (tu (tt (tt (tt (tt True ∧ tt (tt (tt (∃ (x0 : Nat), x0 ≤ n ∧ (((0 : Int) = (↑x0 : Int) ∧ tt (tt (((e = true → e = true) ∧ n = n ∧ FEq n (fun (k : Nat) => recSV (x k)) fun (k : Nat) => recSV (x k)) ∧ td ((↑n : Int) = (↑n : Int))))) ∧ td ((0 : Int) = usedI x x0) ∧ tt (tt (tt True) ∧ ((e = true → e = true) ∧ n = n ∧ FEq n (fun (k : Nat) => recSV (x k)) fun (k : Nat) => recSV (x k)) ∧ tt (tt (tt True) ∧ tt ((0 : Int) = (0 : Int) ∧ td ((e = true → e = true) ∧ n = n ∧ FEq n (fun (k : Nat) => recSV (x k)) fun (k : Nat) => recSV (x k))))) ∧ td ((e = true → e = true) ∧ n = n ∧ FEq n (fun (k : Nat) => recSV (x k)) fun (k : Nat) => recSV (x k)) ∧ td (td (tt (tt True)))) ∧ ∀ (x_1 : Nat), x_1 ≤ n → tt (bif decide ((↑x_1 : Int) < (↑n : Int)) then ((0 : Int) ≤ (↑x_1 : Int) ∧ (↑x_1 : Int) < (↑n : Int)) ∧ tu (tu (tu (tt (tt ((td (tt (tt (tt (tt True)))) ∧ (RecD.kn (x (Int.toNat (↑x_1 : Int))) ≤ (1099511627776 : Nat) ∧ RecD.dn (x (Int.toNat (↑x_1 : Int))) ≤ (1099511627776 : Nat)) ∧ (false = true → True)) ∧ tt (tt (tt (tt (tt (((-9223372036854775808 : Int) ≤ usedI x x_1 + costI (RecD.kn (x (Int.toNat (↑x_1 : Int)))) (RecD.dn (x (Int.toNat (↑x_1 : Int)))) ∧ usedI x x_1 + costI (RecD.kn (x (Int.toNat (↑x_1 : Int)))) (RecD.dn (x (Int.toNat (↑x_1 : Int)))) ≤ (9223372036854775807 : Int)) ∧ tu (tt (tt (((-9223372036854775808 : Int) ≤ (↑x_1 : Int) + (1 : Int) ∧ (↑x_1 : Int) + (1 : Int) ≤ (9223372036854775807 : Int)) ∧ tt (∃ (x' : Nat), x' ≤ n ∧ (((↑x_1 : Int) + (1 : Int) = (↑x' : Int) ∧ tt (tt (((e = true → e = true) ∧ n = n ∧ FEq n (fun (k : Nat) => recSV (x k)) fun (k : Nat) => recSV (x k)) ∧ td ((↑n : Int) = (↑n : Int))))) ∧ td (usedI x x_1 + costI (RecD.kn (x (Int.toNat (↑x_1 : Int)))) (RecD.dn (x (Int.toNat (↑x_1 : Int)))) = usedI x x') ∧ tt (tt (tt True) ∧ ((e = true → e = true) ∧ n = n ∧ FEq n (fun (k : Nat) => recSV (x k)) fun (k : Nat) => recSV (x k)) ∧ tt (tt (tt True) ∧ tt ((0 : Int) = (0 : Int) ∧ td ((e = true → e = true) ∧ n = n ∧ FEq n (fun (k : Nat) => recSV (x k)) fun (k : Nat) => recSV (x k))))) ∧ td ((e = true → e = true) ∧ n = n ∧ FEq n (fun (k : Nat) => recSV (x k)) fun (k : Nat) => recSV (x k)) ∧ td (td (tt (tt True)))) ∧ n - x' < n - x_1)))))))))))))) else tt (tt (tt (tt True ∧ td (td (usedI x x_1 = usedI x n))))))))))))))))))))) = _ by kernel_rfl) ?_
  simp only [tt_iff, tu_iff, td_iff, FEq_refl, FEq_zero, condP, decide_eq_true_eq, decide_eq_false_iff_not, true_and, and_true, implies_true, and_self, Bool.true_eq_false, Bool.false_eq_true, false_implies, forall_const, Int.toNat_natCast, Nat.zero_add, gt_iff_lt, ge_iff_le, Nat.le_refl, Bool.not_eq_true, Bool.not_eq_false, Int.not_lt, Int.not_le, Nat.not_lt, Nat.not_le]
  have hu : ∀ k, k ≤ n → 0 ≤ usedI x k ∧ usedI x k ≤ 2097200 * k := fun k hk => usedI_bd x k n hk hb
  simp only [big] at hn
  refine ⟨0, Nat.zero_le _, ⟨⟨rfl, id⟩, rfl, id⟩, fun k hk => ⟨fun hlt => ?_, fun hge => ?_⟩⟩
  · have hk' : k < n := by omega
    obtain ⟨h3, h4⟩ := hb k hk'
    have h3 : (x k).kn ≤ 1048576 := h3
    have h4 : (x k).dn ≤ 1048576 := h4
    have h5 := costI_bd h3 h4
    have h6 := hu k (by omega)
    clear hb
    refine ⟨⟨by omega, hlt⟩, ⟨by omega, by omega⟩, ⟨by omega, by omega⟩, ⟨by omega, by omega⟩, k + 1, by omega, ⟨⟨by omega, id⟩, rfl, id⟩, by omega⟩
  · obtain rfl : k = n := by omega
    rfl
end Go.Tk

/- Rows 1 and 2: valid tracks; what fits. -/
set_option linter.unusedVariables false
set_option linter.unusedSimpArgs false
namespace Go.Tk
open Go.Sym Go.Proofs

/-- The first records are valid, and their numbers ascend. -/
def okUp (x : Nat → RecD) : Nat → Bool
  | 0 => true
  | k + 1 => okUp x k && (validI (x k).r (x k).kn && (decide (k = 0) || decide ((x (k - 1)).r < (x k).r)))

theorem okUp_false (x : Nat → RecD) {k : Nat} : ∀ {n : Nat}, k < n → okUp x (k + 1) = false → okUp x n = false
  | 0, h, _ => by omega
  | n + 1, h, hk => by
    by_cases e : k = n
    · rw [← e]; exact hk
    · have := okUp_false x (show k < n by omega) hk
      simp [okUp, this]

def validL (x : Nat → RecD) (n : Nat) : Bool := okUp x n && decide (usedI x n ≤ 2048)

/-- A row of records that is small enough. -/
def Recs (f : Nat → SV) (n : Nat) : Prop := n ≤ big ∧ (∃ x : Nat → RecD, f = fun k => recSV (x k)) ∧ ∀ k, k < n → RecB (recsOf f k)

def ValidCon : Con where
  run xs L := match xs, L with
    | [.ro 4 n f _], [] => some (Recs f n, .v (.bool (validL (recsOf f) n)), [])
    | _, _ => none

def ValidInv (xs : List SV) (L : Ents) (f b : Nat) (h : List Nat) (st : St) : Option (LoopSpec Nat) :=
  match xs with
  | [.ro _ n g _] => some { I := fun k => st.mk' [0, 5, 6] [(7, .v (.int .i64 k))] [], ok := fun k => k ≤ n ∧ okUp (recsOf g) k = true, μ := fun k => n - k }
  | _ => none

theorem Valid_ok : ValidCon.Ok Try.prog 14 := by
  refine Con.ofG (U := Nat) (X := []) (T := [(15, usedCon), (22, validCon)]) mixed nmOk ⟨used_ok, valid_ok, trivial⟩ trivial Try.func14 rfl 200 (fun f i => match f, i with | 14, 4 => [[], [0], [0, 1], [0, 1, 2], [0, 1, 2, 3], [0, 1, 2, 3, 4], [0, 1, 2, 3, 4, 5], [0, 1, 2, 3, 4, 5, 6], [0, 1, 2, 3, 4, 5, 6, 7], [0, 1, 2, 3, 4, 5, 6], [0, 1, 2, 3, 4, 5, 6], [0, 1, 2, 3, 4, 5, 6, 10], [0, 1, 2, 3, 4, 5, 6, 9, 10, 11], [0, 1, 2, 3, 4, 5, 6, 9, 10, 11, 12], [0, 1, 2, 3, 4, 5, 6, 9, 10, 11, 12, 13], [0, 1, 2, 3, 4, 5, 6, 7, 8, 9, 10, 11, 12, 13, 14], [0, 1, 2, 3, 4, 5, 6, 7, 8, 9, 10, 11, 12, 13, 14, 15], [0, 1, 2, 3, 4, 5, 6, 7, 8, 9, 10, 11, 12, 13, 14, 15, 16]] | _, _ => []) (fun _ _ => false) ValidInv ?_
  intro xs L pre x L' h hp
  unfold ValidCon at h
  dsimp only at h
  split at h <;> try (simp at h; done)
  rename_i n f e
  cases h
  refine ⟨Nat.le_of_ble_eq_true rfl, ?_⟩
  obtain ⟨hn, ⟨x, rfl⟩, hb⟩ := hp
  refine cast (show (tt (tt (tt (tt (∃ (x0 : Nat), (x0 ≤ n ∧ okUp x x0 = true) ∧ td ((0 : Int) = (↑x0 : Int) ∧ ((e = true → e = true) ∧ n = n ∧ FEq n (fun (k : Nat) => recSV (x k)) fun (k : Nat) => recSV (x k)) ∧ ((e = true → e = true) ∧ n = n ∧ FEq n (fun (k : Nat) => recSV (x k)) fun (k : Nat) => recSV (x k)) ∧ td ((↑n : Int) = (↑n : Int))) ∧ ∀ (x_1 : Nat), x_1 ≤ n ∧ okUp x x_1 = true → tt (bif decide ((↑x_1 : Int) < (↑n : Int)) then tt (((0 : Int) ≤ (↑x_1 : Int) ∧ (↑x_1 : Int) < (↑n : Int)) ∧ tu (td (tu (tt (tt (td (tu (tt (tt ((td (tt (tt (tt (tt True)))) ∧ tt (false = true → True)) ∧ tt (tt (((!!validI (RecD.r (x (Int.toNat (↑x_1 : Int)))) (RecD.kn (x (Int.toNat (↑x_1 : Int))))) = true → True) ∧ ((!!validI (RecD.r (x (Int.toNat (↑x_1 : Int)))) (RecD.kn (x (Int.toNat (↑x_1 : Int))))) = true → True) ∧ ((!!validI (RecD.r (x (Int.toNat (↑x_1 : Int)))) (RecD.kn (x (Int.toNat (↑x_1 : Int))))) = true → True) ∧ (((bif !validI (RecD.r (x (Int.toNat (↑x_1 : Int)))) (RecD.kn (x (Int.toNat (↑x_1 : Int)))) then false else true) && decide ((↑x_1 : Int) > (0 : Int))) = true → True) ∧ (((bif !validI (RecD.r (x (Int.toNat (↑x_1 : Int)))) (RecD.kn (x (Int.toNat (↑x_1 : Int)))) then false else true) && decide ((↑x_1 : Int) > (0 : Int))) = true → True) ∧ (((bif !validI (RecD.r (x (Int.toNat (↑x_1 : Int)))) (RecD.kn (x (Int.toNat (↑x_1 : Int)))) then false else true) && decide ((↑x_1 : Int) > (0 : Int))) = true → True) ∧ (((bif !validI (RecD.r (x (Int.toNat (↑x_1 : Int)))) (RecD.kn (x (Int.toNat (↑x_1 : Int)))) then false else true) && decide ((↑x_1 : Int) > (0 : Int))) = true → True) ∧ (((bif !validI (RecD.r (x (Int.toNat (↑x_1 : Int)))) (RecD.kn (x (Int.toNat (↑x_1 : Int)))) then false else true) && decide ((↑x_1 : Int) > (0 : Int))) = true → (-9223372036854775808 : Int) ≤ (↑x_1 : Int) - (1 : Int) ∧ (↑x_1 : Int) - (1 : Int) ≤ (9223372036854775807 : Int)) ∧ (((bif !validI (RecD.r (x (Int.toNat (↑x_1 : Int)))) (RecD.kn (x (Int.toNat (↑x_1 : Int)))) then false else true) && decide ((↑x_1 : Int) > (0 : Int))) = true → (0 : Int) ≤ (↑x_1 : Int) - (1 : Int) ∧ (↑x_1 : Int) - (1 : Int) < (↑n : Int)) ∧ (((bif !validI (RecD.r (x (Int.toNat (↑x_1 : Int)))) (RecD.kn (x (Int.toNat (↑x_1 : Int)))) then false else true) && decide ((↑x_1 : Int) > (0 : Int))) = true → True) ∧ (((bif !validI (RecD.r (x (Int.toNat (↑x_1 : Int)))) (RecD.kn (x (Int.toNat (↑x_1 : Int)))) then false else true) && decide ((↑x_1 : Int) > (0 : Int))) = true → true = true) ∧ (((bif !validI (RecD.r (x (Int.toNat (↑x_1 : Int)))) (RecD.kn (x (Int.toNat (↑x_1 : Int)))) then false else true) && decide ((↑x_1 : Int) > (0 : Int))) = true → True) ∧ ((!!validI (RecD.r (x (Int.toNat (↑x_1 : Int)))) (RecD.kn (x (Int.toNat (↑x_1 : Int))))) = true → True) ∧ tt (bif bif !validI (RecD.r (x (Int.toNat (↑x_1 : Int)))) (RecD.kn (x (Int.toNat (↑x_1 : Int)))) then true else bif decide ((↑x_1 : Int) > (0 : Int)) then decide (RecD.r (x (Int.toNat (↑x_1 : Int))) ≤ RecD.r (x (Int.toNat ((↑x_1 : Int) - (1 : Int))))) else false then tt (tt True ∧ td (td (false = validL x n))) else ((-9223372036854775808 : Int) ≤ (↑x_1 : Int) + (1 : Int) ∧ (↑x_1 : Int) + (1 : Int) ≤ (9223372036854775807 : Int)) ∧ tt (∃ (x' : Nat), (x' ≤ n ∧ okUp x x' = true) ∧ td ((↑x_1 : Int) + (1 : Int) = (↑x' : Int) ∧ ((e = true → e = true) ∧ n = n ∧ FEq n (fun (k : Nat) => recSV (x k)) fun (k : Nat) => recSV (x k)) ∧ ((e = true → e = true) ∧ n = n ∧ FEq n (fun (k : Nat) => recSV (x k)) fun (k : Nat) => recSV (x k)) ∧ td ((↑n : Int) = (↑n : Int))) ∧ n - x' < n - x_1)))))))))))))) else tt ((tt True ∧ (n ≤ (1048576 : Nat) ∧ (∃ (x_2 : Nat → RecD), (fun (k : Nat) => recSV (x k)) = fun (k : Nat) => recSV (x_2 k)) ∧ ∀ (k : Nat), k < n → RecD.kn (x k) ≤ (1048576 : Nat) ∧ RecD.dn (x k) ≤ (1048576 : Nat)) ∧ (false = true → True)) ∧ tt (tt (tt True ∧ td (td (decide (usedI x n ≤ (2048 : Int)) = validL x n))))))))))) = _ by kernel_rfl) ?_
  simp only [tt_iff, tu_iff, td_iff, FEq_refl, FEq_zero, condP, decide_eq_true_eq, decide_eq_false_iff_not, true_and, and_true, implies_true, and_self, Bool.true_eq_false, Bool.false_eq_true, false_implies, forall_const, Int.toNat_natCast, Nat.zero_add, gt_iff_lt, ge_iff_le, Nat.le_refl, Bool.not_eq_true, Bool.not_eq_false, Int.not_lt, Int.not_le, Nat.not_lt, Nat.not_le]
  have hbig : big = 1048576 := rfl
  refine ⟨0, ⟨Nat.zero_le _, rfl⟩, ⟨rfl, id⟩, fun k ⟨hk, hok⟩ => ⟨fun hlt => ?_, fun hge => ?_⟩⟩
  · have hk' : k < n := by omega
    have hbad : okUp x (k + 1) = false → false = validL x n := fun h => by simp [validL, okUp_false x hk' h]
    cases hv : validI (x k).r (x k).kn with
    | false =>
      simp only [Bool.not_false, cond_true, Bool.false_and, Bool.false_eq_true, false_implies, true_and, forall_const, and_true, Bool.true_eq_false]
      exact ⟨⟨by omega, hlt⟩, hbad (by simp [okUp, hv])⟩
    | true =>
      simp only [Bool.not_true, cond_false, Bool.true_and, decide_eq_true_eq]
      refine ⟨⟨by omega, hlt⟩, fun h => ⟨by omega, by omega⟩, fun h => ⟨by omega, by omega⟩, fun h => hbad ?_, fun h => ⟨⟨by omega, by omega⟩, k + 1, ⟨by omega, ?_⟩, ⟨by omega, id⟩, by omega⟩⟩
      · by_cases h0 : (0 : Int) < k
        · simp only [h0, decide_true, cond_true, decide_eq_true_eq] at h
          have e1 : ((k : Int) - 1).toNat = k - 1 := by omega
          rw [e1] at h
          have h1 : ¬ (x (k - 1)).r < (x k).r := by omega
          have h2 : ¬ k = 0 := by omega
          simp [okUp, hv, h1, h2]
        · exfalso
          simp at h
          omega
      · by_cases h0 : (0 : Int) < k
        · simp only [h0, decide_true, cond_true, decide_eq_false_iff_not] at h
          have e1 : ((k : Int) - 1).toNat = k - 1 := by omega
          rw [e1] at h
          have h1 : (x (k - 1)).r < (x k).r := by omega
          simp [okUp, hv, h1, hok]
        · have h2 : k = 0 := by omega
          simp [okUp, hv, h2, hok] at hok ⊢
          subst h2
          exact hv
  · obtain rfl : k = n := by omega
    refine ⟨⟨hn, ⟨x, rfl⟩, hb⟩, ?_⟩
    simp [validL, hok]
end Go.Tk

/- Rows 1 and 2: what fits. -/
set_option linter.unusedVariables false
set_option linter.unusedSimpArgs false
namespace Go.Tk
open Go.Sym Go.Proofs

def fitsL (x : Nat → RecD) (n : Nat) (y : RecD) : Bool :=
  validL x n && (validI y.r y.kn && ((decide (n = 0) || decide ((x (n - 1)).r < y.r)) && decide (usedI x n + costI y.kn y.dn ≤ 2048)))

def FitsCon : Con where
  run xs L := match xs, L with
    | [.ro 4 n f _, .agg [.v (.int .i64 r), .ro 1 kn kf _, .ro 1 dn df _, .v (.bool b)]], [] => some (Recs f n ∧ kn ≤ big ∧ dn ≤ big, .v (.bool (fitsL (recsOf f) n ⟨r, kn, fun j => byteOf (kf j), dn, fun j => byteOf (df j), b⟩)), [])
    | _, _ => none

theorem Fits_ok : FitsCon.Ok Try.prog 16 := by
  refine Con.ofG (U := Nat) (X := []) (T := [(14, ValidCon), (15, usedCon), (18, costCon), (22, validCon)]) mixed nmOk ⟨Valid_ok, used_ok, cost_ok, valid_ok, trivial⟩ trivial Try.func16 rfl 200 (fun f i => match f, i with | 16, 1 => [[], [0], [0, 1], [0, 1, 2], [0, 1, 2, 3], [0, 1, 2, 3, 4], [0, 1, 2, 3, 4, 5], [0, 1, 2, 3, 4, 5, 6], [0, 1, 2, 3, 4, 5, 6, 7], [0, 1, 2, 3, 4, 5, 6, 7, 8], [0, 1, 2, 3, 4, 5, 6, 7, 8, 9], [0, 1, 2, 3, 4, 5, 6, 7, 8, 9, 10], [0, 1, 2, 3, 4, 5, 6, 7, 8, 9, 10, 11], [0, 1, 2, 3, 4, 5, 6, 7, 8, 9, 10, 11, 12], [0, 1, 2, 3, 4, 5, 6, 7, 8, 9, 10, 11, 12, 13], [0, 1, 2, 3, 4, 5, 6, 7, 8, 9, 10, 11, 12], [0, 1, 2, 3, 4, 5, 6, 7, 8, 9, 10, 11, 12], [0, 1, 2, 3, 4, 5, 6, 7, 8, 9, 10, 11, 12, 16], [0, 1, 2, 3, 4, 5, 6, 7, 8, 9, 10, 11, 12, 16, 17], [0, 1, 2, 3, 4, 5, 6, 7, 8, 9, 10, 11, 12, 15, 16, 17, 18], [0, 1, 2, 3, 4, 5, 6, 7, 8, 9, 10, 11, 12, 15, 16, 17, 18, 19], [0, 1, 2, 3, 4, 5, 6, 7, 8, 9, 10, 11, 12, 15, 16, 17, 18, 19, 20], [0, 1, 2, 3, 4, 5, 6, 7, 8, 9, 10, 11, 12, 13, 14, 15, 16, 17, 18, 19, 20, 21], [0, 1, 2, 3, 4, 5, 6, 7, 8, 9, 10, 11, 12, 13, 14, 15, 16, 17, 18, 19, 20, 21, 22], [0, 1, 2, 3, 4, 5, 6, 7, 8, 9, 10, 11, 12, 13, 14, 15, 16, 17, 18, 19, 20, 21, 22, 23]] | 16, 3 => [[], [0], [], [0, 1, 2], [0, 1, 2, 3], [0, 1, 2, 3, 4], [0, 1, 2, 3, 4, 5]] | _, _ => []) (fun _ _ => false) (fun _ _ _ _ _ _ => none) ?_
  intro xs L pre x L' h hp
  unfold FitsCon at h
  dsimp only at h
  split at h <;> try (simp at h; done)
  rename_i n f e r kn kf ke dn df de b
  cases h
  refine ⟨Nat.le_of_ble_eq_true rfl, ?_⟩
  obtain ⟨⟨hn, ⟨x, rfl⟩, hb⟩, h1, h2⟩ := hp
  refine cast (show (td (tu (tt (tt (tt ((tt True ∧ (n ≤ (1048576 : Nat) ∧ (∃ (x_1 : Nat → RecD), (fun (k : Nat) => recSV (x k)) = fun (k : Nat) => recSV (x_1 k)) ∧ ∀ (k : Nat), k < n → RecD.kn (x k) ≤ (1048576 : Nat) ∧ RecD.dn (x k) ≤ (1048576 : Nat)) ∧ (false = true → True)) ∧ tt (tt (((!!validL x n) = true → True) ∧ ((!!validL x n) = true → td (tt (tt (tt (tt True)))) ∧ tt (false = true → True)) ∧ ((!!validL x n) = true → True) ∧ tt (tt (((!bif !validL x n then true else !validI r kn) = true → True) ∧ ((!bif !validL x n then true else !validI r kn) = true → True) ∧ ((!bif !validL x n then true else !validI r kn) = true → True) ∧ ((!bif !validL x n then true else !validI r kn) = true → True) ∧ (((bif bif !validL x n then true else !validI r kn then false else true) && decide ((↑n : Int) > (0 : Int))) = true → True) ∧ (((bif bif !validL x n then true else !validI r kn then false else true) && decide ((↑n : Int) > (0 : Int))) = true → True) ∧ (((bif bif !validL x n then true else !validI r kn then false else true) && decide ((↑n : Int) > (0 : Int))) = true → True) ∧ (((bif bif !validL x n then true else !validI r kn then false else true) && decide ((↑n : Int) > (0 : Int))) = true → True) ∧ (((bif bif !validL x n then true else !validI r kn then false else true) && decide ((↑n : Int) > (0 : Int))) = true → True) ∧ (((bif bif !validL x n then true else !validI r kn then false else true) && decide ((↑n : Int) > (0 : Int))) = true → (-9223372036854775808 : Int) ≤ (↑n : Int) - (1 : Int) ∧ (↑n : Int) - (1 : Int) ≤ (9223372036854775807 : Int)) ∧ (((bif bif !validL x n then true else !validI r kn then false else true) && decide ((↑n : Int) > (0 : Int))) = true → (0 : Int) ≤ (↑n : Int) - (1 : Int) ∧ (↑n : Int) - (1 : Int) < (↑n : Int)) ∧ (((bif bif !validL x n then true else !validI r kn then false else true) && decide ((↑n : Int) > (0 : Int))) = true → True) ∧ (((bif bif !validL x n then true else !validI r kn then false else true) && decide ((↑n : Int) > (0 : Int))) = true → true = true) ∧ (((bif bif !validL x n then true else !validI r kn then false else true) && decide ((↑n : Int) > (0 : Int))) = true → True) ∧ ((!bif !validL x n then true else !validI r kn) = true → True) ∧ tt (bif bif bif !validL x n then true else !validI r kn then true else bif decide ((↑n : Int) > (0 : Int)) then decide (r ≤ RecD.r (x (Int.toNat ((↑n : Int) - (1 : Int))))) else false then tt (tt True ∧ td (td (false = fitsL x n { r := r, kn := kn, kf := fun (j : Nat) => byteOf (kf j), dn := dn, df := fun (j : Nat) => byteOf (df j), bad := b }))) else tt ((tt True ∧ (n ≤ (1048576 : Nat) ∧ (∃ (x_1 : Nat → RecD), (fun (k : Nat) => recSV (x k)) = fun (k : Nat) => recSV (x_1 k)) ∧ ∀ (k : Nat), k < n → RecD.kn (x k) ≤ (1048576 : Nat) ∧ RecD.dn (x k) ≤ (1048576 : Nat)) ∧ (false = true → True)) ∧ tt ((td (tt (tt (tt (tt True)))) ∧ (kn ≤ (1099511627776 : Nat) ∧ dn ≤ (1099511627776 : Nat)) ∧ (false = true → True)) ∧ ((-9223372036854775808 : Int) ≤ usedI x n + costI kn dn ∧ usedI x n + costI kn dn ≤ (9223372036854775807 : Int)) ∧ tt (tt (tt True ∧ td (td (decide (usedI x n + costI kn dn ≤ (2048 : Int)) = fitsL x n { r := r, kn := kn, kf := fun (j : Nat) => byteOf (kf j), dn := dn, df := fun (j : Nat) => byteOf (df j), bad := b }))))))))))))))))) = _ by kernel_rfl) ?_
  simp only [tt_iff, tu_iff, td_iff, FEq_refl, FEq_zero, condP, decide_eq_true_eq, decide_eq_false_iff_not, true_and, and_true, implies_true, and_self, Bool.true_eq_false, Bool.false_eq_true, false_implies, forall_const, Int.toNat_natCast, Nat.zero_add, gt_iff_lt, ge_iff_le, Nat.le_refl, Bool.not_eq_true, Bool.not_eq_false, Int.not_lt, Int.not_le, Nat.not_lt, Nat.not_le]
  have hu := usedI_bd x n n (Nat.le_refl _) hb
  have hc := costI_bd h1 h2
  have hbig : big = 1048576 := rfl
  refine ⟨⟨hn, ⟨x, rfl⟩, hb⟩, fun h => ⟨by omega, by omega⟩, fun h => ?_, fun h => ?_, fun h => ⟨⟨hn, ⟨x, rfl⟩, hb⟩, ⟨by omega, by omega⟩, ⟨by omega, by omega⟩, ?_⟩⟩
  · simp only [Bool.and_eq_true, decide_eq_true_eq] at h; omega
  · cases hv : validL x n with
    | false => simp [fitsL, hv]
    | true =>
      cases hw : validI r kn with
      | false => simp [fitsL, hv, hw]
      | true =>
        simp only [hv, hw, Bool.not_true, cond_false] at h
        by_cases h0 : (0 : Int) < n
        · have e1 : ((n : Int) - 1).toNat = n - 1 := by omega
          simp only [h0, decide_true, cond_true, e1, decide_eq_true_eq] at h
          have h3 : ¬ (x (n - 1)).r < r := by omega
          have h4 : ¬ n = 0 := by omega
          simp [fitsL, hv, hw, h3, h4]
        · exfalso
          simp at h
          omega
  · cases hv : validL x n with
    | false => simp [hv] at h
    | true =>
      cases hw : validI r kn with
      | false => simp [hv, hw] at h
      | true =>
        simp only [hv, hw, Bool.not_true, cond_false] at h
        by_cases h0 : (0 : Int) < n
        · have e1 : ((n : Int) - 1).toNat = n - 1 := by omega
          simp only [h0, decide_true, cond_true, e1, decide_eq_false_iff_not] at h
          have h3 : (x (n - 1)).r < r := by omega
          simp [fitsL, hv, hw, h3]
        · have h4 : n = 0 := by omega
          subst h4
          simp [fitsL, hv, hw]

def beqR (n : Int) (x : RecD) : Bool := x.r == n

/-- The first record that has it, or -1. -/
def idxF (p : RecD → Bool) (x : Nat → RecD) (n k : Nat) : Int := cond (Nat.blt k n) (cond (p (x k)) (k : Int) (cond (Nat.ble n k) (-1) (-1))) (-1)
end Go.Tk

/- Rows 1 and 2: searching. -/
set_option linter.unusedVariables false
set_option linter.unusedSimpArgs false
namespace Go.Tk
open Go.Sym Go.Proofs

def Byt (f : Nat → SV) (n : Nat) : Prop := n ≤ lim ∧ ∃ b : Nat → Int, f = bys b

def xtab : XTab := [(55, .compare), (41, .makeNoZero)]
theorem xtab_ok : xtab.Ok Try.prog :=
  ⟨⟨_, Try.func55, by kernel_rfl, by kernel_rfl, by kernel_rfl, show Extern.find _ = some _ by kernel_rfl⟩, ⟨_, Try.func41, by kernel_rfl, by kernel_rfl, by kernel_rfl, 23, 5, by kernel_rfl, by kernel_rfl⟩, trivial⟩

def beqB (n : Nat) (f : Nat → SV) (m : Nat) (g : Nat → SV) : Bool := (strOf n f).toList == (strOf m g).toList
def cmpB (n : Nat) (f : Nat → SV) (m : Nat) (g : Nat → SV) : Int := Extern.BytealgCompare.cmp (strOf n f) (strOf m g)

theorem byt_all {f : Nat → SV} {n : Nat} (h : Byt f n) : ∀ k, ∃ b, f k = .v (.int .u8 b) := by
  obtain ⟨_, b, rfl⟩ := h
  exact fun k => ⟨b k, rfl⟩

def equalCon : Con where
  run xs L := match xs, L with
    | [.ro 1 n f _, .ro 1 m g _], [] => some (Byt f n ∧ Byt g m, .v (.bool (beqB n f m g)), [])
    | _, _ => none

theorem bequal_ok : equalCon.Ok Try.prog 52 := by
  refine Con.ofG (U := Nat) (X := []) (T := []) mixed nmOk trivial trivial Try.func52 rfl 100 (fun _ _ => []) (fun _ _ => false) (fun _ _ _ _ _ _ => none) ?_
  intro xs L pre x L' h hp
  unfold equalCon at h
  dsimp only at h
  split at h <;> try (simp at h; done)
  rename_i n f e m g e'
  cases h
  refine ⟨Nat.le_of_ble_eq_true rfl, ?_⟩
  obtain ⟨h1, h2⟩ := hp
  refine cast (show (tt (tt (tt (∀ (k : Nat), k < n → ∃ (n : Int), f k = SV.v (Value.int IntKind.u8 n)) ∧ tt (tt (∀ (k : Nat), k < m → ∃ (n : Int), g k = SV.v (Value.int IntKind.u8 n)) ∧ tt (tt (tt True ∧ td (td ((ByteArray.toList (strOf n f) == ByteArray.toList (strOf m g)) = beqB n f m g)))))))) = _ by kernel_rfl) ?_
  simp only [tt_iff, tu_iff, td_iff, FEq_refl, FEq_zero, condP, decide_eq_true_eq, decide_eq_false_iff_not, true_and, and_true, implies_true, and_self, Bool.true_eq_false, Bool.false_eq_true, false_implies, forall_const, Int.toNat_natCast, Nat.zero_add, gt_iff_lt, ge_iff_le, Nat.le_refl, Bool.not_eq_true, Bool.not_eq_false, Int.not_lt, Int.not_le, Nat.not_lt, Nat.not_le]
  exact ⟨fun k _ => byt_all h1 k, fun k _ => byt_all h2 k, rfl⟩

def compareCon : Con where
  run xs L := match xs, L with
    | [.ro 1 n f _, .ro 1 m g _], [] => some (Byt f n ∧ Byt g m, .v (.int .i64 (cmpB n f m g)), [])
    | _, _ => none

theorem compare_ok : compareCon.Ok Try.prog 53 := by
  refine Con.ofG (U := Nat) (X := xtab) (T := []) mixed nmOk trivial xtab_ok Try.func53 rfl 100 (fun _ _ => []) (fun f i => match f, i with | 53, 1 => true | _, _ => false) (fun _ _ _ _ _ _ => none) ?_
  intro xs L pre x L' h hp
  unfold compareCon at h
  dsimp only at h
  split at h <;> try (simp at h; done)
  rename_i n f e m g e'
  cases h
  refine ⟨Nat.le_of_ble_eq_true rfl, ?_⟩
  obtain ⟨h1, h2⟩ := hp
  refine cast (show (tt (tt (tt ((tt (∀ (k : Nat), k < n → ∃ (n : Int), f k = SV.v (Value.int IntKind.u8 n)) ∧ tt (∀ (k : Nat), k < m → ∃ (n : Int), g k = SV.v (Value.int IntKind.u8 n))) ∧ tt (tt True ∧ td (td (Extern.BytealgCompare.cmp (strOf n f) (strOf m g) = cmpB n f m g))))))) = _ by kernel_rfl) ?_
  simp only [tt_iff, tu_iff, td_iff, FEq_refl, FEq_zero, condP, decide_eq_true_eq, decide_eq_false_iff_not, true_and, and_true, implies_true, and_self, Bool.true_eq_false, Bool.false_eq_true, false_implies, forall_const, Int.toNat_natCast, Nat.zero_add, gt_iff_lt, ge_iff_le, Nat.le_refl, Bool.not_eq_true, Bool.not_eq_false, Int.not_lt, Int.not_le, Nat.not_lt, Nat.not_le]
  exact ⟨⟨fun k _ => byt_all h1 k, fun k _ => byt_all h2 k⟩, rfl⟩

/-- What a function value asks of a record. -/
def predOf : SV → Option (Prop × (RecD → Bool))
  | .fn 39 [] [.rop [.v (.int .i64 n)]] => some (True, fun x => x.r == n)
  | .fn 26 [] [] => some (True, fun x => x.bad)
  | .fn 45 [.ro 1 n f _] [] => some (Byt f n, fun x => cond (!x.bad) (beqB x.kn (bys x.kf) n f) false)
  | .fn 46 [.ro 1 n f _] [] => some (Byt f n, fun x => cond (cond (!x.bad) ((x.kn : Int) == (n : Int)) false) (decide (cmpB x.kn (bys x.kf) n f ≥ 0)) false)
  | _ => none

/-- The first of the first k records for which it holds, or -1. -/
def idxL (p : RecD → Bool) (x : Nat → RecD) : Nat → Int
  | 0 => -1
  | k + 1 => cond (decide (0 ≤ idxL p x k)) (idxL p x k) (cond (p (x k)) (k : Int) (-1))

def IndexCon : Con where
  run xs L := match xs, L with
    | [.ro 4 n f _, g], [] => match predOf g with
      | some (c, p) => some (Recs f n ∧ c, .v (.int .i64 (idxL p (recsOf f) n)), [])
      | none => none
    | _, _ => none

def IndexInv (xs : List SV) (L : Ents) (f b : Nat) (h : List Nat) (st : St) : Option (LoopSpec Nat) :=
  match xs with
  | [.ro _ n g _, q] => match predOf q with
    | some (_, p) => some { I := fun k => st.mk' [0, 1, 7] [(8, .v (.int .i64 k))] [], ok := fun k => k ≤ n ∧ idxL p (recsOf g) k = -1, μ := fun k => n - k }
    | none => none
  | _ => none

theorem idxL_bd (p : RecD → Bool) (x : Nat → RecD) : ∀ k, -1 ≤ idxL p x k ∧ idxL p x k < k
  | 0 => by simp [idxL]
  | k + 1 => by
    obtain ⟨h1, h2⟩ := idxL_bd p x k
    simp only [idxL]
    by_cases h : 0 ≤ idxL p x k
    · simp only [h, decide_true, cond_true]; omega
    · simp only [h, decide_false, cond_false]
      cases p (x k) <;> simp only [cond_true, cond_false] <;> omega

theorem idxL_no (p : RecD → Bool) (x : Nat → RecD) {k : Nat} (hk : idxL p x k = -1) (hp : p (x k) = false) : idxL p x (k + 1) = -1 := by simp [idxL, hk, hp]

theorem idxL_stays (p : RecD → Bool) (x : Nat → RecD) {k : Nat} (hk : idxL p x k = -1) (hp : p (x k) = true) : ∀ {n : Nat}, k < n → idxL p x n = k
  | 0, h => by omega
  | n + 1, h => by
    by_cases e : k = n
    · subst e; simp [idxL, hk, hp]
    · have := idxL_stays p x hk hp (show k < n by omega)
      simp [idxL, this]

theorem Index_ok : IndexCon.Ok Try.prog 38 := by
  refine Con.ofG (U := Nat) (X := []) (T := [(52, equalCon), (53, compareCon)]) mixed nmOk ⟨bequal_ok, compare_ok, trivial⟩ trivial Try.func38 rfl 200 (fun _ _ => []) (fun f i => match f, i with | 38, 4 => true | _, _ => false) IndexInv ?_
  intro xs L pre x L' h hp
  unfold IndexCon at h
  dsimp only at h
  split at h <;> try (simp at h; done)
  rename_i n f e g
  split at h <;> try (simp at h; done)
  rename_i c p hpr
  cases h
  refine ⟨Nat.le_of_ble_eq_true rfl, ?_⟩
  obtain ⟨⟨hn, ⟨x, rfl⟩, hb⟩, hc⟩ := hp
  unfold predOf at hpr
  split at hpr <;> try (simp at hpr; done)
  · rename_i m
    cases hpr
    refine cast (show (tt (tt (tt (tt (∃ (x0 : Nat), (x0 ≤ n ∧ idxL (fun (x : RecD) => RecD.r x == m) x x0 = (-1 : Int)) ∧ td ((0 : Int) = (↑x0 : Int) ∧ ((e = true → e = true) ∧ n = n ∧ FEq n (fun (k : Nat) => recSV (x k)) fun (k : Nat) => recSV (x k)) ∧ tt (td ([SV.v (Value.int IntKind.i64 m)] = [SV.v (Value.int IntKind.i64 m)])) ∧ td ((↑n : Int) = (↑n : Int))) ∧ ∀ (x_1 : Nat), x_1 ≤ n ∧ idxL (fun (x : RecD) => RecD.r x == m) x x_1 = (-1 : Int) → tt (bif decide ((↑x_1 : Int) < (↑n : Int)) then tt (tt (tt (tt (tt (((0 : Int) ≤ (↑x_1 : Int) ∧ (↑x_1 : Int) < (↑n : Int)) ∧ tu (td (tu (tt (tt (tt (tt (tu (tt (tt (tt True ∧ bif RecD.r (x (Int.toNat (↑x_1 : Int))) == m then tt (tt (tt True ∧ td (td ((↑x_1 : Int) = idxL (fun (x : RecD) => RecD.r x == m) x n)))) else ((-9223372036854775808 : Int) ≤ (↑x_1 : Int) + (1 : Int) ∧ (↑x_1 : Int) + (1 : Int) ≤ (9223372036854775807 : Int)) ∧ tt (∃ (x' : Nat), (x' ≤ n ∧ idxL (fun (x : RecD) => RecD.r x == m) x x' = (-1 : Int)) ∧ td ((↑x_1 : Int) + (1 : Int) = (↑x' : Int) ∧ ((e = true → e = true) ∧ n = n ∧ FEq n (fun (k : Nat) => recSV (x k)) fun (k : Nat) => recSV (x k)) ∧ tt (td ([SV.v (Value.int IntKind.i64 m)] = [SV.v (Value.int IntKind.i64 m)])) ∧ td ((↑n : Int) = (↑n : Int))) ∧ n - x' < n - x_1)))))))))))))))) else tt (tt True ∧ td (td ((-1 : Int) = idxL (fun (x : RecD) => RecD.r x == m) x n))))))))) = _ by kernel_rfl) ?_
    simp only [tt_iff, tu_iff, td_iff, FEq_refl, FEq_zero, condP, decide_eq_true_eq, decide_eq_false_iff_not, true_and, and_true, implies_true, and_self, Bool.true_eq_false, Bool.false_eq_true, false_implies, forall_const, Int.toNat_natCast, Nat.zero_add, gt_iff_lt, ge_iff_le, Nat.le_refl, Bool.not_eq_true, Bool.not_eq_false, Int.not_lt, Int.not_le, Nat.not_lt, Nat.not_le]
    refine ⟨0, ⟨Nat.zero_le _, rfl⟩, by simp, fun k ⟨hk, hi⟩ => ⟨fun hlt => ?_, fun hge => ?_⟩⟩
    · have hk' : k < n := by omega
      obtain ⟨hb1, hb2⟩ := hb k hk'
      have hbig : big = 1048576 := rfl
      refine ⟨⟨by omega, hlt⟩, fun hp => (idxL_stays _ x hi hp hk').symm, fun hp => ⟨⟨by omega, by omega⟩, k + 1, ⟨by omega, idxL_no _ x hi hp⟩, ⟨by omega, by simp⟩, by omega⟩⟩
    · obtain rfl : k = n := by omega
      exact hi.symm
  · cases hpr
    refine cast (show (tt (tt (tt (tt (∃ (x0 : Nat), (x0 ≤ n ∧ idxL (fun (x : RecD) => RecD.bad x) x x0 = (-1 : Int)) ∧ td ((0 : Int) = (↑x0 : Int) ∧ ((e = true → e = true) ∧ n = n ∧ FEq n (fun (k : Nat) => recSV (x k)) fun (k : Nat) => recSV (x k)) ∧ tt True ∧ td ((↑n : Int) = (↑n : Int))) ∧ ∀ (x_1 : Nat), x_1 ≤ n ∧ idxL (fun (x : RecD) => RecD.bad x) x x_1 = (-1 : Int) → tt (bif decide ((↑x_1 : Int) < (↑n : Int)) then tt (tt (tt (tt (tt (((0 : Int) ≤ (↑x_1 : Int) ∧ (↑x_1 : Int) < (↑n : Int)) ∧ tu (td (tu (tt (tt (tt (tt (tt (tt True ∧ bif RecD.bad (x (Int.toNat (↑x_1 : Int))) then tt (tt (tt True ∧ td (td ((↑x_1 : Int) = idxL (fun (x : RecD) => RecD.bad x) x n)))) else ((-9223372036854775808 : Int) ≤ (↑x_1 : Int) + (1 : Int) ∧ (↑x_1 : Int) + (1 : Int) ≤ (9223372036854775807 : Int)) ∧ tt (∃ (x' : Nat), (x' ≤ n ∧ idxL (fun (x : RecD) => RecD.bad x) x x' = (-1 : Int)) ∧ td ((↑x_1 : Int) + (1 : Int) = (↑x' : Int) ∧ ((e = true → e = true) ∧ n = n ∧ FEq n (fun (k : Nat) => recSV (x k)) fun (k : Nat) => recSV (x k)) ∧ tt True ∧ td ((↑n : Int) = (↑n : Int))) ∧ n - x' < n - x_1)))))))))))))) else tt (tt True ∧ td (td ((-1 : Int) = idxL (fun (x : RecD) => RecD.bad x) x n))))))))) = _ by kernel_rfl) ?_
    simp only [tt_iff, tu_iff, td_iff, FEq_refl, FEq_zero, condP, decide_eq_true_eq, decide_eq_false_iff_not, true_and, and_true, implies_true, and_self, Bool.true_eq_false, Bool.false_eq_true, false_implies, forall_const, Int.toNat_natCast, Nat.zero_add, gt_iff_lt, ge_iff_le, Nat.le_refl, Bool.not_eq_true, Bool.not_eq_false, Int.not_lt, Int.not_le, Nat.not_lt, Nat.not_le]
    refine ⟨0, ⟨Nat.zero_le _, rfl⟩, by simp, fun k ⟨hk, hi⟩ => ⟨fun hlt => ?_, fun hge => ?_⟩⟩
    · have hk' : k < n := by omega
      obtain ⟨hb1, hb2⟩ := hb k hk'
      have hbig : big = 1048576 := rfl
      refine ⟨⟨by omega, hlt⟩, fun hp => (idxL_stays _ x hi hp hk').symm, fun hp => ⟨⟨by omega, by omega⟩, k + 1, ⟨by omega, idxL_no _ x hi hp⟩, ⟨by omega, by simp⟩, by omega⟩⟩
    · obtain rfl : k = n := by omega
      exact hi.symm
  · rename_i m q eq
    cases hpr
    refine cast (show (tt (tt (tt (tt (∃ (x0 : Nat), (x0 ≤ n ∧ idxL (fun (x : RecD) => bif !RecD.bad x then beqB (RecD.kn x) (bys (RecD.kf x)) m q else false) x x0 = (-1 : Int)) ∧ td ((0 : Int) = (↑x0 : Int) ∧ ((e = true → e = true) ∧ n = n ∧ FEq n (fun (k : Nat) => recSV (x k)) fun (k : Nat) => recSV (x k)) ∧ td (td ((eq = true → eq = true) ∧ m = m ∧ FEq m q q)) ∧ td ((↑n : Int) = (↑n : Int))) ∧ ∀ (x_1 : Nat), x_1 ≤ n ∧ idxL (fun (x : RecD) => bif !RecD.bad x then beqB (RecD.kn x) (bys (RecD.kf x)) m q else false) x x_1 = (-1 : Int) → tt (bif decide ((↑x_1 : Int) < (↑n : Int)) then tt (tt (tt (tt (tt (((0 : Int) ≤ (↑x_1 : Int) ∧ (↑x_1 : Int) < (↑n : Int)) ∧ tu (td (tu (tt (tt (tt (tt (tt (tt (((!RecD.bad (x (Int.toNat (↑x_1 : Int)))) = true → True) ∧ ((!RecD.bad (x (Int.toNat (↑x_1 : Int)))) = true → True) ∧ ((!RecD.bad (x (Int.toNat (↑x_1 : Int)))) = true → True) ∧ ((!RecD.bad (x (Int.toNat (↑x_1 : Int)))) = true → tt (tt True) ∧ ((RecD.kn (x (Int.toNat (↑x_1 : Int))) ≤ (1099511627776 : Nat) ∧ ∃ (b : Nat → Int), bys (RecD.kf (x (Int.toNat (↑x_1 : Int)))) = bys b) ∧ m ≤ (1099511627776 : Nat) ∧ ∃ (b : Nat → Int), q = bys b) ∧ (false = true → True)) ∧ tt (tt (tt True ∧ bif bif !RecD.bad (x (Int.toNat (↑x_1 : Int))) then beqB (RecD.kn (x (Int.toNat (↑x_1 : Int)))) (bys (RecD.kf (x (Int.toNat (↑x_1 : Int))))) m q else false then tt (tt (tt True ∧ td (td ((↑x_1 : Int) = idxL (fun (x : RecD) => bif !RecD.bad x then beqB (RecD.kn x) (bys (RecD.kf x)) m q else false) x n)))) else ((-9223372036854775808 : Int) ≤ (↑x_1 : Int) + (1 : Int) ∧ (↑x_1 : Int) + (1 : Int) ≤ (9223372036854775807 : Int)) ∧ tt (∃ (x' : Nat), (x' ≤ n ∧ idxL (fun (x : RecD) => bif !RecD.bad x then beqB (RecD.kn x) (bys (RecD.kf x)) m q else false) x x' = (-1 : Int)) ∧ td ((↑x_1 : Int) + (1 : Int) = (↑x' : Int) ∧ ((e = true → e = true) ∧ n = n ∧ FEq n (fun (k : Nat) => recSV (x k)) fun (k : Nat) => recSV (x k)) ∧ td (td ((eq = true → eq = true) ∧ m = m ∧ FEq m q q)) ∧ td ((↑n : Int) = (↑n : Int))) ∧ n - x' < n - x_1))))))))))))))))) else tt (tt True ∧ td (td ((-1 : Int) = idxL (fun (x : RecD) => bif !RecD.bad x then beqB (RecD.kn x) (bys (RecD.kf x)) m q else false) x n))))))))) = _ by kernel_rfl) ?_
    simp only [tt_iff, tu_iff, td_iff, FEq_refl, FEq_zero, condP, decide_eq_true_eq, decide_eq_false_iff_not, true_and, and_true, implies_true, and_self, Bool.true_eq_false, Bool.false_eq_true, false_implies, forall_const, Int.toNat_natCast, Nat.zero_add, gt_iff_lt, ge_iff_le, Nat.le_refl, Bool.not_eq_true, Bool.not_eq_false, Int.not_lt, Int.not_le, Nat.not_lt, Nat.not_le]
    refine ⟨0, ⟨Nat.zero_le _, rfl⟩, by simp, fun k ⟨hk, hi⟩ => ⟨fun hlt => ?_, fun hge => ?_⟩⟩
    · have hk' : k < n := by omega
      obtain ⟨hb1, hb2⟩ := hb k hk'
      have hbig : big = 1048576 := rfl
      refine ⟨⟨by omega, hlt⟩, fun _ => ⟨⟨Nat.le_trans hb1 (by simp [big]), _, rfl⟩, hc⟩, fun hp => (idxL_stays _ x hi hp hk').symm, fun hp => ⟨⟨by omega, by omega⟩, k + 1, ⟨by omega, idxL_no _ x hi hp⟩, ⟨by omega, by simp⟩, by omega⟩⟩
    · obtain rfl : k = n := by omega
      exact hi.symm
  · rename_i m q eq
    cases hpr
    refine cast (show (tt (tt (tt (tt (∃ (x0 : Nat), (x0 ≤ n ∧ idxL (fun (x : RecD) => bif bif !RecD.bad x then (↑(RecD.kn x) : Int) == (↑m : Int) else false then decide (cmpB (RecD.kn x) (bys (RecD.kf x)) m q ≥ (0 : Int)) else false) x x0 = (-1 : Int)) ∧ td ((0 : Int) = (↑x0 : Int) ∧ ((e = true → e = true) ∧ n = n ∧ FEq n (fun (k : Nat) => recSV (x k)) fun (k : Nat) => recSV (x k)) ∧ td (td ((eq = true → eq = true) ∧ m = m ∧ FEq m q q)) ∧ td ((↑n : Int) = (↑n : Int))) ∧ ∀ (x_1 : Nat), x_1 ≤ n ∧ idxL (fun (x : RecD) => bif bif !RecD.bad x then (↑(RecD.kn x) : Int) == (↑m : Int) else false then decide (cmpB (RecD.kn x) (bys (RecD.kf x)) m q ≥ (0 : Int)) else false) x x_1 = (-1 : Int) → tt (bif decide ((↑x_1 : Int) < (↑n : Int)) then tt (tt (tt (tt (tt (((0 : Int) ≤ (↑x_1 : Int) ∧ (↑x_1 : Int) < (↑n : Int)) ∧ tu (td (tu (tt (tt (tt (tt (tt (tt (((!RecD.bad (x (Int.toNat (↑x_1 : Int)))) = true → True) ∧ ((!RecD.bad (x (Int.toNat (↑x_1 : Int)))) = true → True) ∧ ((!RecD.bad (x (Int.toNat (↑x_1 : Int)))) = true → True) ∧ ((!RecD.bad (x (Int.toNat (↑x_1 : Int)))) = true → True) ∧ ((!RecD.bad (x (Int.toNat (↑x_1 : Int)))) = true → True) ∧ ((!RecD.bad (x (Int.toNat (↑x_1 : Int)))) = true → True) ∧ tt (tt (((bif !RecD.bad (x (Int.toNat (↑x_1 : Int))) then (↑(RecD.kn (x (Int.toNat (↑x_1 : Int)))) : Int) == (↑m : Int) else false) = true → True) ∧ ((bif !RecD.bad (x (Int.toNat (↑x_1 : Int))) then (↑(RecD.kn (x (Int.toNat (↑x_1 : Int)))) : Int) == (↑m : Int) else false) = true → True) ∧ ((bif !RecD.bad (x (Int.toNat (↑x_1 : Int))) then (↑(RecD.kn (x (Int.toNat (↑x_1 : Int)))) : Int) == (↑m : Int) else false) = true → True) ∧ ((bif !RecD.bad (x (Int.toNat (↑x_1 : Int))) then (↑(RecD.kn (x (Int.toNat (↑x_1 : Int)))) : Int) == (↑m : Int) else false) = true → tt (tt True) ∧ ((RecD.kn (x (Int.toNat (↑x_1 : Int))) ≤ (1099511627776 : Nat) ∧ ∃ (b : Nat → Int), bys (RecD.kf (x (Int.toNat (↑x_1 : Int)))) = bys b) ∧ m ≤ (1099511627776 : Nat) ∧ ∃ (b : Nat → Int), q = bys b) ∧ (false = true → True)) ∧ ((bif !RecD.bad (x (Int.toNat (↑x_1 : Int))) then (↑(RecD.kn (x (Int.toNat (↑x_1 : Int)))) : Int) == (↑m : Int) else false) = true → True) ∧ tt (tt (tt True ∧ bif bif bif !RecD.bad (x (Int.toNat (↑x_1 : Int))) then (↑(RecD.kn (x (Int.toNat (↑x_1 : Int)))) : Int) == (↑m : Int) else false then decide (cmpB (RecD.kn (x (Int.toNat (↑x_1 : Int)))) (bys (RecD.kf (x (Int.toNat (↑x_1 : Int))))) m q ≥ (0 : Int)) else false then tt (tt (tt True ∧ td (td ((↑x_1 : Int) = idxL (fun (x : RecD) => bif bif !RecD.bad x then (↑(RecD.kn x) : Int) == (↑m : Int) else false then decide (cmpB (RecD.kn x) (bys (RecD.kf x)) m q ≥ (0 : Int)) else false) x n)))) else ((-9223372036854775808 : Int) ≤ (↑x_1 : Int) + (1 : Int) ∧ (↑x_1 : Int) + (1 : Int) ≤ (9223372036854775807 : Int)) ∧ tt (∃ (x' : Nat), (x' ≤ n ∧ idxL (fun (x : RecD) => bif bif !RecD.bad x then (↑(RecD.kn x) : Int) == (↑m : Int) else false then decide (cmpB (RecD.kn x) (bys (RecD.kf x)) m q ≥ (0 : Int)) else false) x x' = (-1 : Int)) ∧ td ((↑x_1 : Int) + (1 : Int) = (↑x' : Int) ∧ ((e = true → e = true) ∧ n = n ∧ FEq n (fun (k : Nat) => recSV (x k)) fun (k : Nat) => recSV (x k)) ∧ td (td ((eq = true → eq = true) ∧ m = m ∧ FEq m q q)) ∧ td ((↑n : Int) = (↑n : Int))) ∧ n - x' < n - x_1))))))))))))))))))) else tt (tt True ∧ td (td ((-1 : Int) = idxL (fun (x : RecD) => bif bif !RecD.bad x then (↑(RecD.kn x) : Int) == (↑m : Int) else false then decide (cmpB (RecD.kn x) (bys (RecD.kf x)) m q ≥ (0 : Int)) else false) x n))))))))) = _ by kernel_rfl) ?_
    simp only [tt_iff, tu_iff, td_iff, FEq_refl, FEq_zero, condP, decide_eq_true_eq, decide_eq_false_iff_not, true_and, and_true, implies_true, and_self, Bool.true_eq_false, Bool.false_eq_true, false_implies, forall_const, Int.toNat_natCast, Nat.zero_add, gt_iff_lt, ge_iff_le, Nat.le_refl, Bool.not_eq_true, Bool.not_eq_false, Int.not_lt, Int.not_le, Nat.not_lt, Nat.not_le]
    refine ⟨0, ⟨Nat.zero_le _, rfl⟩, by simp, fun k ⟨hk, hi⟩ => ⟨fun hlt => ?_, fun hge => ?_⟩⟩
    · have hk' : k < n := by omega
      obtain ⟨hb1, hb2⟩ := hb k hk'
      have hbig : big = 1048576 := rfl
      refine ⟨⟨by omega, hlt⟩, fun _ => ⟨⟨Nat.le_trans hb1 (by simp [big]), _, rfl⟩, hc⟩, fun hp => (idxL_stays _ x hi hp hk').symm, fun hp => ⟨⟨by omega, by omega⟩, k + 1, ⟨by omega, idxL_no _ x hi hp⟩, ⟨by omega, by simp⟩, by omega⟩⟩
    · obtain rfl : k = n := by omega
      exact hi.symm
end Go.Tk
