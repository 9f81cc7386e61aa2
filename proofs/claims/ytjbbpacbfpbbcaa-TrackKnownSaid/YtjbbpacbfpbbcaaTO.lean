/- Rows 1 and 2: half words; encoding. -/
import Derived.Test.YtjbbpacbfpbbcaaTN
set_option linter.all false
set_option linter.unusedSimpArgs false
set_option linter.unusedVariables false
set_option linter.deprecated false
set_option linter.unusedVariables false
set_option linter.unusedSimpArgs false
namespace Go.Tk
open Go.Sym Go.Proofs

/-- So many times a byte 255. -/
def ffs : Nat → Int := fun _ => 255

def repCon : Con where
  pure := false
  run xs L := match xs, L with
    | [.ro 1 1 f _, .v (.int .i64 8)], [] => some (f 0 = .v (.int .u8 255), .sl 0 1 0 8 8 false, [(0, .row 1 8 (bys ffs))])
    | _, _ => none

set_option maxHeartbeats 4000000 in
theorem rep_ok : repCon.Ok Try.prog 28 := by
  refine Con.ofG (U := Nat) (X := xtab) (T := []) mixed nmOk trivial xtab_ok Try.func28 rfl 400 (fun f i => match f, i with | 28, 20 => [[], [], [], [1, 2], [], [], [4, 5], [1, 2, 3, 4, 5, 6], [0, 1, 2, 3, 4, 5, 6, 7], [0, 1, 2, 3, 4, 5, 6, 7, 8]] | _, _ => []) (fun f i => match f, i with | 28, 5 => true | 28, 16 => true | 40, 1 => true | 40, 3 => true | _, _ => false) (fun _ _ _ _ _ _ => none) ?_
  intro xs L pre x L' h hp
  unfold repCon at h
  dsimp only at h
  split at h <;> try (simp at h; done)
  rename_i f e
  cases h
  refine ⟨Nat.le_of_ble_eq_true rfl, ?_⟩
  refine cast (show (tt (tt (tt (tt (tt (tt (tt (tt (tt (tt (tt (tt (tt (tt (tt (tt (tt (tt (tt (tt (Prod.fst ((0 : Int) ≤ (32 : Int), SV.v (Value.int IntKind.u64 (Int.fdiv (1 : Int) ((2 : Int) ^ min (Int.toNat (32 : Int)) (IntKind.bits IntKind.u64))))) ∧ tt (tt (tt (tt (tt (Prod.fst ((0 : Int) ≤ (32 : Int), SV.v (Value.int IntKind.u64 (Int.fdiv (8 : Int) ((2 : Int) ^ min (Int.toNat (32 : Int)) (IntKind.bits IntKind.u64))))) ∧ tt (tt (tt (tt (tt (tt (tt (tt (tt (Prod.fst ((0 : Int) ≤ (32 : Int), SV.v (Value.int IntKind.u64 (Int.fdiv (8 : Int) ((2 : Int) ^ min (Int.toNat (32 : Int)) (IntKind.bits IntKind.u64))))) ∧ tt (tt (tt (tt (tt (tt (Prod.fst ((0 : Int) ≤ (32 : Int), SV.v (Value.int IntKind.u64 (Int.fdiv (0 : Int) ((2 : Int) ^ min (Int.toNat (32 : Int)) (IntKind.bits IntKind.u64))))) ∧ tt (tt (tt (tt (tt (tt (tt (tt (tt (tt (tt (tt (tt (Prod.fst ((0 : Int) ≤ (32 : Int), SV.v (Value.int IntKind.u64 (Int.fdiv (0 : Int) ((2 : Int) ^ min (Int.toNat (32 : Int)) (IntKind.bits IntKind.u64))))) ∧ tt (tt (tt (tt (tt (tt (tt (tt True) ∧ tt (tt (tt (tt (tt (tt (tt (tt (tt (tt (tt True) ∧ tt (tt (tt (tt (tt (tt (tt (tt ((true = true → True) ∧ (true = true → True) ∧ tt (tt (((-9223372036854775808 : Int) ≤ (8 : Int) ∧ (8 : Int) ≤ (9223372036854775807 : Int)) ∧ tt (tt (tt (tt (tt (tt (tt (tt (tt (((0 : Int) ≤ (8 : Int) ∧ (8 : Int) ≤ (281474976710656 : Int)) ∧ tt (tt (((0 : Int) ≤ (8 : Int) ∧ (8 : Int) ≤ (8 : Int) ∧ (8 : Int) ≤ (8 : Int)) ∧ tt (tt (tt (td (tt ((8 : Nat) ≤ (8 : Nat)) ∧ tt (tt (tt (tt (tt (tt (tt (tt (tt (tt (tt (tt (((0 : Int) ≤ (1 : Int) ∧ (1 : Int) ≤ (8 : Int)) ∧ tt (tt (((0 : Int) ≤ (1 : Int) ∧ (1 : Int) ≤ (8 : Int)) ∧ td ((((1 : Nat) ≤ (8 : Nat) ∧ ∀ (k : Nat), k < (1 : Nat) → noOwnE (bif true && Nat.blt ((0 : Nat) + k) (1 : Nat) then f ((0 : Nat) + k - (0 : Nat)) else SV.any) = true) ∧ (8 : Nat) ≤ (8 : Nat)) ∧ td ((true = true → True) ∧ SV.v (Value.int IntKind.i64 (1 : Int)) = SV.v (Value.int IntKind.i64 (1 : Int))) ∧ ((-9223372036854775808 : Int) ≤ (2 : Int) ∧ (2 : Int) ≤ (9223372036854775807 : Int)) ∧ tt (tt (tt (tt (tt (tt (tt (tt (tt (tt (tt (((0 : Int) ≤ (2 : Int) ∧ (2 : Int) ≤ (8 : Int)) ∧ tt (tt (((0 : Int) ≤ (2 : Int) ∧ (2 : Int) ≤ (8 : Int)) ∧ td ((((2 : Nat) ≤ (8 : Nat) ∧ ∀ (k : Nat), k < (2 : Nat) → noOwnE (bif Nat.ble (1 : Nat) ((0 : Nat) + k) && Nat.blt ((0 : Nat) + k) (2 : Nat) then bif true && Nat.blt ((0 : Nat) + ((0 : Nat) + k - (1 : Nat))) (1 : Nat) then f ((0 : Nat) + ((0 : Nat) + k - (1 : Nat)) - (0 : Nat)) else SV.any else bif true && Nat.blt ((0 : Nat) + k) (1 : Nat) then f ((0 : Nat) + k - (0 : Nat)) else SV.any) = true) ∧ (8 : Nat) ≤ (8 : Nat)) ∧ td ((true = true → True) ∧ SV.v (Value.int IntKind.i64 (2 : Int)) = SV.v (Value.int IntKind.i64 (2 : Int))) ∧ ((-9223372036854775808 : Int) ≤ (4 : Int) ∧ (4 : Int) ≤ (9223372036854775807 : Int)) ∧ tt (tt (tt (tt (tt (tt (tt (tt (tt (tt (tt (((0 : Int) ≤ (4 : Int) ∧ (4 : Int) ≤ (8 : Int)) ∧ tt (tt (((0 : Int) ≤ (4 : Int) ∧ (4 : Int) ≤ (8 : Int)) ∧ td ((((4 : Nat) ≤ (8 : Nat) ∧ ∀ (k : Nat), k < (4 : Nat) → noOwnE (bif Nat.ble (2 : Nat) ((0 : Nat) + k) && Nat.blt ((0 : Nat) + k) (4 : Nat) then bif Nat.ble (1 : Nat) ((0 : Nat) + ((0 : Nat) + k - (2 : Nat))) && Nat.blt ((0 : Nat) + ((0 : Nat) + k - (2 : Nat))) (2 : Nat) then bif true && Nat.blt ((0 : Nat) + ((0 : Nat) + ((0 : Nat) + k - (2 : Nat)) - (1 : Nat))) (1 : Nat) then f ((0 : Nat) + ((0 : Nat) + ((0 : Nat) + k - (2 : Nat)) - (1 : Nat)) - (0 : Nat)) else SV.any else bif true && Nat.blt ((0 : Nat) + ((0 : Nat) + k - (2 : Nat))) (1 : Nat) then f ((0 : Nat) + ((0 : Nat) + k - (2 : Nat)) - (0 : Nat)) else SV.any else bif Nat.ble (1 : Nat) ((0 : Nat) + k) && Nat.blt ((0 : Nat) + k) (2 : Nat) then bif true && Nat.blt ((0 : Nat) + ((0 : Nat) + k - (1 : Nat))) (1 : Nat) then f ((0 : Nat) + ((0 : Nat) + k - (1 : Nat)) - (0 : Nat)) else SV.any else bif true && Nat.blt ((0 : Nat) + k) (1 : Nat) then f ((0 : Nat) + k - (0 : Nat)) else SV.any) = true) ∧ (8 : Nat) ≤ (8 : Nat)) ∧ td ((true = true → True) ∧ SV.v (Value.int IntKind.i64 (4 : Int)) = SV.v (Value.int IntKind.i64 (4 : Int))) ∧ ((-9223372036854775808 : Int) ≤ (8 : Int) ∧ (8 : Int) ≤ (9223372036854775807 : Int)) ∧ tt (tt (tt (tt (tt (tt (tt True ∧ td ((0 : Nat) = (0 : Nat) ∧ (8 : Nat) = (8 : Nat) ∧ (8 : Nat) ≤ (8 : Nat) ∧ (8 : Nat) ≤ (8 : Nat)) ∧ td ((8 : Nat) = (8 : Nat) ∧ FEq (8 : Nat) (fun (q : Nat) => bif Nat.ble (4 : Nat) q && Nat.blt q (8 : Nat) then bif Nat.ble (2 : Nat) ((0 : Nat) + (q - (4 : Nat))) && Nat.blt ((0 : Nat) + (q - (4 : Nat))) (4 : Nat) then bif Nat.ble (1 : Nat) ((0 : Nat) + ((0 : Nat) + (q - (4 : Nat)) - (2 : Nat))) && Nat.blt ((0 : Nat) + ((0 : Nat) + (q - (4 : Nat)) - (2 : Nat))) (2 : Nat) then bif true && Nat.blt ((0 : Nat) + ((0 : Nat) + ((0 : Nat) + (q - (4 : Nat)) - (2 : Nat)) - (1 : Nat))) (1 : Nat) then f ((0 : Nat) + ((0 : Nat) + ((0 : Nat) + (q - (4 : Nat)) - (2 : Nat)) - (1 : Nat)) - (0 : Nat)) else SV.any else bif true && Nat.blt ((0 : Nat) + ((0 : Nat) + (q - (4 : Nat)) - (2 : Nat))) (1 : Nat) then f ((0 : Nat) + ((0 : Nat) + (q - (4 : Nat)) - (2 : Nat)) - (0 : Nat)) else SV.any else bif Nat.ble (1 : Nat) ((0 : Nat) + (q - (4 : Nat))) && Nat.blt ((0 : Nat) + (q - (4 : Nat))) (2 : Nat) then bif true && Nat.blt ((0 : Nat) + ((0 : Nat) + (q - (4 : Nat)) - (1 : Nat))) (1 : Nat) then f ((0 : Nat) + ((0 : Nat) + (q - (4 : Nat)) - (1 : Nat)) - (0 : Nat)) else SV.any else bif true && Nat.blt ((0 : Nat) + (q - (4 : Nat))) (1 : Nat) then f ((0 : Nat) + (q - (4 : Nat)) - (0 : Nat)) else SV.any else bif Nat.ble (2 : Nat) q && Nat.blt q (4 : Nat) then bif Nat.ble (1 : Nat) ((0 : Nat) + (q - (2 : Nat))) && Nat.blt ((0 : Nat) + (q - (2 : Nat))) (2 : Nat) then bif true && Nat.blt ((0 : Nat) + ((0 : Nat) + (q - (2 : Nat)) - (1 : Nat))) (1 : Nat) then f ((0 : Nat) + ((0 : Nat) + (q - (2 : Nat)) - (1 : Nat)) - (0 : Nat)) else SV.any else bif true && Nat.blt ((0 : Nat) + (q - (2 : Nat))) (1 : Nat) then f ((0 : Nat) + (q - (2 : Nat)) - (0 : Nat)) else SV.any else bif Nat.ble (1 : Nat) q && Nat.blt q (2 : Nat) then bif true && Nat.blt ((0 : Nat) + (q - (1 : Nat))) (1 : Nat) then f ((0 : Nat) + (q - (1 : Nat)) - (0 : Nat)) else SV.any else bif true && Nat.blt q (1 : Nat) then f (q - (0 : Nat)) else SV.any) (bys ffs))))))))))))))))))))))))))))))))))))))))))))))))))))))))))))))))))))))))))))))))))))))))))))))))))))))))))))))))))))))))))))))))))))))))))))))))) = _ by kernel_rfl) ?_
  simp only [tt_iff, tu_iff, td_iff, FEq_refl, FEq_zero, condP, decide_eq_true_eq, decide_eq_false_iff_not, true_and, and_true, implies_true, and_self, Bool.true_eq_false, Bool.false_eq_true, false_implies, forall_const, Int.toNat_natCast, Nat.zero_add, gt_iff_lt, ge_iff_le, Nat.le_refl, Bool.not_eq_true, Bool.not_eq_false, Int.not_lt, Int.not_le, Nat.not_lt, Nat.not_le]
  have hv : ∀ q, q = 0 → f q = .v (.int .u8 255) := fun q hq => by rw [hq]; exact hp
  repeat' apply And.intro
  all_goals first
    | omega
    | (intro k hk
       rcases k with _ | _ | _ | _ | _ | _ | _ | _ | k <;> first | omega | exact (show noOwnE (f 0) = true by rw [hp]; rfl) | exact hp)

theorem utab_ok (P : Program) : XTab.Ok P [] := trivial

/-- Has a slice of n bytes two of them at a place. -/
def fitsI (n : Nat) (a b : Int) : Bool := cond (decide (0 ≤ a)) (decide (a ≤ (n : Int) - b)) false
def wfitsCon : Con where
  run xs L := match xs, L with
    | [.ro 1 n _ _, .v (.int .i64 a), .v (.int .i64 b)], [] => some (n ≤ lim ∧ 0 ≤ b ∧ b ≤ 1000, .v (.bool (fitsI n a b)), [])
    | _, _ => none

theorem wfits_ok : wfitsCon.Ok Try.prog 51 := by
  refine Con.ofG (U := Nat) (X := []) (T := []) mixed nmOk trivial trivial Try.func51 rfl 400 (fun _ _ => []) (fun _ _ => false) (fun _ _ _ _ _ _ => none) ?_
  intro xs L pre x L' h hp
  unfold wfitsCon at h
  dsimp only at h
  split at h <;> try (simp at h; done)
  rename_i n f e a b
  cases h
  refine ⟨Nat.le_of_ble_eq_true rfl, ?_⟩
  obtain ⟨h1, h2, h3⟩ := hp
  refine cast (show (tt (tt (tt (tt ((decide (a ≥ (0 : Int)) = true → True) ∧ (decide (a ≥ (0 : Int)) = true → True) ∧ (decide (a ≥ (0 : Int)) = true → True) ∧ (decide (a ≥ (0 : Int)) = true → True) ∧ (decide (a ≥ (0 : Int)) = true → (-9223372036854775808 : Int) ≤ (↑n : Int) - b ∧ (↑n : Int) - b ≤ (9223372036854775807 : Int)) ∧ (decide (a ≥ (0 : Int)) = true → True) ∧ tt (tt (tt True ∧ td (td ((bif decide (a ≥ (0 : Int)) then decide (a ≤ (↑n : Int) - b) else false) = fitsI n a b))))))))) = _ by kernel_rfl) ?_
  simp only [tt_iff, tu_iff, td_iff, FEq_refl, FEq_zero, condP, decide_eq_true_eq, decide_eq_false_iff_not, true_and, and_true, implies_true, and_self, Bool.true_eq_false, Bool.false_eq_true, false_implies, forall_const, Int.toNat_natCast, Nat.zero_add, gt_iff_lt, ge_iff_le, Nat.le_refl, Bool.not_eq_true, Bool.not_eq_false, Int.not_lt, Int.not_le, Nat.not_lt, Nat.not_le]
  have hl : lim = 1099511627776 := rfl
  exact ⟨fun h => ⟨by omega, by omega⟩, rfl⟩

/-- The number in two bytes, as the program reckons it. -/
def half2 (x y : Int) : Int :=
  bitsOp .and .u32 (fitV .u32 (fitV .i32 (bitsOp .or .i16 (IntKind.i16.wrap (fitV .i16 x * 256)) (fitV .i16 y)))) 65535

theorem half2_bd (x y : Int) : 0 ≤ half2 x y ∧ half2 x y ≤ 65535 := by
  unfold half2
  generalize fitV .u32 _ = n
  have : bitsOp .and .u32 n 65535 = IntKind.u32.wrap ((BitVec.ofInt 32 n &&& BitVec.ofInt 32 65535).toNat : Int) := rfl
  rw [this]
  have h : (BitVec.ofInt 32 n &&& BitVec.ofInt 32 65535).toNat ≤ 65535 := by
    rw [BitVec.toNat_and]
    exact Nat.le_trans Nat.and_le_right (by decide)
  generalize (BitVec.ofInt 32 n &&& BitVec.ofInt 32 65535).toNat = m at h
  have : IntKind.u32.wrap (m : Int) = m := by
    show (m : Int) % 4294967296 = m
    omega
  rw [this]
  omega

def atCon : Con where
  run xs L := match xs, L with
    | [.ro 1 n f _, .v (.int .i64 a)], [] => some (n ≤ lim ∧ 0 ≤ a ∧ a + 2 ≤ n ∧ (∃ b : Nat → Int, f = bys b), .v (.int .i64 (half2 (byteOf (f a.toNat)) (byteOf (f (a + 1).toNat)))), [])
    | _, _ => none

theorem at_ok : atCon.Ok Try.prog 29 := by
  refine Con.ofG (U := Nat) (X := []) (T := [(51, wfitsCon)]) mixed nmOk ⟨wfits_ok, trivial⟩ trivial Try.func29 rfl 400 (fun f i => match f, i with | 42, 3 => [[], [], [0, 1], [0, 1, 2], [0, 1, 2, 3], [0, 1, 2, 3, 4], [], [], [7], [6, 7, 8], [6, 7, 8, 9], [6, 7, 8, 9, 10], [0, 1, 2, 3, 4, 5, 6, 7, 8, 9, 10, 11], [0, 1, 2, 3, 4, 5, 6, 7, 8, 9, 10, 11, 12], [0, 1, 2, 3, 4, 5, 6, 7, 8, 9, 10, 11, 12, 13], [0, 1, 2, 3, 4, 5, 6, 7, 8, 9, 10, 11, 12, 13, 14], [0, 1, 2, 3, 4, 5, 6, 7, 8, 9, 10, 11, 12, 13, 14, 15]] | _, _ => []) (fun f i => match f, i with | 29, 1 => true | _, _ => false) (fun _ _ _ _ _ _ => none) ?_
  intro xs L pre x L' h hp
  unfold atCon at h
  dsimp only at h
  split at h <;> try (simp at h; done)
  rename_i n f e a
  cases h
  refine ⟨Nat.le_of_ble_eq_true rfl, ?_⟩
  obtain ⟨h1, h2, h3, b, rfl⟩ := hp
  refine cast (show (tt (tt (tt (tt (tt (tt (tt ((tt (tt (tt True)) ∧ (n ≤ (1099511627776 : Nat) ∧ (0 : Int) ≤ (2 : Int) ∧ (2 : Int) ≤ (1000 : Int)) ∧ (false = true → True)) ∧ tt (bif !fitsI n a (2 : Int) then tt (tt (tt (tt True) ∧ tt (tt (tt (tt (tt (tt (tt (((-9223372036854775808 : Int) ≤ (0 : Int) ∧ (0 : Int) ≤ (9223372036854775807 : Int)) ∧ tt (tt True ∧ td (td ((0 : Int) = half2 (byteOf (SV.v (Value.int IntKind.u8 (b (Int.toNat a))))) (byteOf (SV.v (Value.int IntKind.u8 (b (Int.toNat (a + (1 : Int))))))))))))))))))) else tt (tt (((0 : Int) ≤ a ∧ a < (↑n : Int)) ∧ tu (tt (Prod.fst ((0 : Int) ≤ (8 : Int), SV.v (Value.int IntKind.i16 (IntKind.wrap IntKind.i16 (fitV IntKind.i16 (b (Int.toNat a)) * (2 : Int) ^ min (Int.toNat (8 : Int)) (IntKind.bits IntKind.i16))))) ∧ tt (tt (((-9223372036854775808 : Int) ≤ a + (1 : Int) ∧ a + (1 : Int) ≤ (9223372036854775807 : Int)) ∧ ((0 : Int) ≤ a + (1 : Int) ∧ a + (1 : Int) < (↑n : Int)) ∧ tu (tt (tt (tt (tt (tt (tt (tt (tt True) ∧ tt (tt (tt (tt (tt (tt (tt (((-9223372036854775808 : Int) ≤ bitsOp BinOp.and IntKind.u32 (fitV IntKind.u32 (fitV IntKind.i32 (bitsOp BinOp.or IntKind.i16 (IntKind.wrap IntKind.i16 (fitV IntKind.i16 (b (Int.toNat a)) * (256 : Int))) (fitV IntKind.i16 (b (Int.toNat (a + (1 : Int)))))))) (65535 : Int) ∧ bitsOp BinOp.and IntKind.u32 (fitV IntKind.u32 (fitV IntKind.i32 (bitsOp BinOp.or IntKind.i16 (IntKind.wrap IntKind.i16 (fitV IntKind.i16 (b (Int.toNat a)) * (256 : Int))) (fitV IntKind.i16 (b (Int.toNat (a + (1 : Int)))))))) (65535 : Int) ≤ (9223372036854775807 : Int)) ∧ tt (tt True ∧ td (td (bitsOp BinOp.and IntKind.u32 (fitV IntKind.u32 (fitV IntKind.i32 (bitsOp BinOp.or IntKind.i16 (IntKind.wrap IntKind.i16 (fitV IntKind.i16 (b (Int.toNat a)) * (256 : Int))) (fitV IntKind.i16 (b (Int.toNat (a + (1 : Int)))))))) (65535 : Int) = half2 (byteOf (SV.v (Value.int IntKind.u8 (b (Int.toNat a))))) (byteOf (SV.v (Value.int IntKind.u8 (b (Int.toNat (a + (1 : Int))))))))))))))))))))))))))))))))))))))) = _ by kernel_rfl) ?_
  simp only [tt_iff, tu_iff, td_iff, FEq_refl, FEq_zero, condP, decide_eq_true_eq, decide_eq_false_iff_not, true_and, and_true, implies_true, and_self, Bool.true_eq_false, Bool.false_eq_true, false_implies, forall_const, Int.toNat_natCast, Nat.zero_add, gt_iff_lt, ge_iff_le, Nat.le_refl, Bool.not_eq_true, Bool.not_eq_false, Int.not_lt, Int.not_le, Nat.not_lt, Nat.not_le]
  have hf : fitsI n a 2 = true := by
    have e1 : a ≤ (n : Int) - 2 := by omega
    simp [fitsI, h2, e1]
  have hb := half2_bd (b a.toNat) (b (a + 1).toNat)
  have hl : lim = 1099511627776 := rfl
  refine ⟨⟨by omega, by omega, by omega⟩, fun h => by simp [hf] at h, fun _ => ⟨⟨by omega, by omega⟩, by omega, ⟨by omega, by omega⟩, ⟨by omega, by omega⟩, ?_, ?_⟩⟩
  · show -9223372036854775808 ≤ half2 (b a.toNat) (b (a + 1).toNat) ∧ half2 (b a.toNat) (b (a + 1).toNat) ≤ 9223372036854775807
    omega
  · rfl
end Go.Tk

/- Rows 1 and 2: Encode. -/
set_option linter.unusedVariables false
set_option linter.unusedSimpArgs false
namespace Go.Tk
open Go.Sym Go.Proofs

/-- Bytes one behind the other. -/
structure BL where
  n : Nat
  f : Nat → Int
def BL.cat (a b : BL) : BL := ⟨a.n + b.n, fun k => cond (Nat.blt k a.n) (a.f k) (b.f (k - a.n))⟩
def nilBL : BL := ⟨0, fun _ => 0⟩
theorem cat_bys (a b : BL) : bys (a.cat b).f = comb (bys a.f) (bys b.f) a.n := by
  funext k
  simp only [bys, comb, BL.cat]
  cases Nat.blt k a.n <;> rfl

def pairI (a b : Int) (k : Nat) : Int := cond (Nat.beq k 0) a b
def blEnt (l : BL) : Ent := .row 1 l.n (bys l.f)
def blSl (i : Nat) (l : BL) : SV := .sl i 1 0 l.n l.n false
/-- The records before a place, encoded. -/
def encL (c h : Int) (x : Nat → RecD) : Nat → BL
  | 0 => nilBL
  | k + 1 => ((((((encL c h x k).cat ⟨2, halfI c⟩).cat ⟨2, halfI h⟩).cat ⟨2, pairI (fitV .u8 (x k).r) (fitV .u8 ((x k).kn : Int))⟩).cat ⟨2, halfI (x k).dn⟩).cat ⟨(x k).kn, (x k).kf⟩).cat ⟨(x k).dn, (x k).df⟩

structure BLE where
  l : BL
  e : Int

def encI (c h : Int) (x : Nat → RecD) (n : Nat) : BLE :=
  cond (cond (cond (cond (decide (c < 0)) true (decide (c > 65535))) true (decide (h < 0))) true (decide (h > 65535))) ⟨nilBL, 6⟩
    (cond (cond (!validL x n) true (decide (0 ≤ idxL (fun x => x.bad) x n))) ⟨nilBL, 1⟩ ⟨(encL c h x n).cat ⟨8, ffs⟩, 0⟩)

theorem encL_n (c h : Int) (x : Nat → RecD) : ∀ k, ((encL c h x k).n : Int) ≤ usedI x k
  | 0 => by simp [encL, nilBL, usedI]
  | k + 1 => by
    have ih := encL_n c h x k
    have h1 : usedI x (k + 1) = usedI x k + costI (x k).kn (x k).dn := rfl
    have h2 : costI (x k).kn (x k).dn ≥ 32 + (x k).kn + (x k).dn := by
      unfold costI
      cases hb : ((x k).kn : Int) == 0 with
      | false => simp only [cond_false]; omega
      | true => have := eq_of_beq hb; simp only [cond_true]; omega
    have h3 : (encL c h x (k + 1)).n = (encL c h x k).n + 2 + 2 + 2 + 2 + (x k).kn + (x k).dn := rfl
    omega

theorem usedI_mono (x : Nat → RecD) {k : Nat} : ∀ {n : Nat}, k ≤ n → usedI x k ≤ usedI x n
  | 0, h => by obtain rfl : k = 0 := by omega
               exact Int.le_refl _
  | n + 1, h => by
    by_cases hk : k = n + 1
    · rw [hk]; exact Int.le_refl _
    · have := usedI_mono x (n := n) (by omega : k ≤ n)
      have h1 : usedI x (n + 1) = usedI x n + costI (x n).kn (x n).dn := rfl
      have h2 : 0 ≤ costI (x n).kn (x n).dn := by
        unfold costI
        cases ((x n).kn : Int) == 0 <;> simp only [cond_false, cond_true] <;> omega
      omega

theorem FEq_combL {f g s : Nat → SV} {n m : Nat} (h : FEq n f g) : FEq (n + m) (comb f s n) (comb g s n) := by
  intro k hk
  by_cases hkm : k < n
  · rw [comb_lt hkm, comb_lt hkm]; exact h k hkm
  · rw [comb_ge (by omega), comb_ge (by omega)]

def EncCon : Con where
  pure := false
  run xs L := match xs, L with
    | [.v (.int .i64 c), .v (.int .i64 h), .ro 4 n f _], [] => some (Recs f n, .tup [blSl 0 (encI c h (recsOf f) n).l, .v (.int .i64 (encI c h (recsOf f) n).e)], [(0, blEnt (encI c h (recsOf f) n).l)])
    | _, _ => none

def EncInv (xs : List SV) (L : Ents) (f b : Nat) (h : List Nat) (st : St) : Option (LoopSpec Nat) :=
  match xs with
  | [.v (.int .i64 c), .v (.int .i64 hd), .ro _ n g _] => some { I := fun k => st.mk' [0, 1, 32, 33] [(34, .v (.int .i64 k)), (8, blSl st.nx (encL c hd (recsOf g) k))] [(st.nx, blEnt (encL c hd (recsOf g) k))], ok := fun k => k ≤ n, μ := fun k => n - k }
  | _ => none

set_option maxHeartbeats 4000000 in
theorem Enc_ok : EncCon.Ok Try.prog 10 := by
  refine Con.ofG (U := Nat) (X := []) (T := [(14, ValidCon), (25, ContainsCon), (27, halfCon), (28, repCon)]) mixed nmOk ⟨Valid_ok, Contains_ok, half_ok, rep_ok, trivial⟩ trivial Try.func10 rfl 200 (fun f i => match f, i with | 10, 10 => [[], [], [1], [1, 2], [], [4], [4, 5], [4, 5, 6], [1, 2, 3, 4, 5, 6, 7], [0, 1, 2, 3, 4, 5, 6, 7, 8], [], [10], [10, 11], [0, 1, 2, 3, 4, 5, 6, 7, 8, 9, 10, 11, 12], [0, 1, 2, 3, 4, 5, 6, 7, 8, 9, 10, 11, 12, 13]] | 10, 11 => [[], [], [1], [0, 1, 2], [], [4], [0, 1, 2, 3, 4, 5], [0, 1, 2, 3, 4, 5, 6]] | _, _ => []) (fun _ _ => false) EncInv ?_
  intro xs L pre x L' h hp
  unfold EncCon at h
  dsimp only at h
  split at h <;> try (simp at h; done)
  rename_i c hd n f e
  cases h
  refine ⟨Nat.le_of_ble_eq_true rfl, ?_⟩
  obtain ⟨hn, ⟨x, rfl⟩, hb⟩ := hp
  refine cast (show (tt (tt (tt (tt (tt (((!decide (c < (0 : Int))) = true → True) ∧ ((!decide (c < (0 : Int))) = true → True) ∧ tt (tt (((!bif decide (c < (0 : Int)) then true else decide (c > (65535 : Int))) = true → True) ∧ ((!bif decide (c < (0 : Int)) then true else decide (c > (65535 : Int))) = true → True) ∧ tt (tt (((!bif bif decide (c < (0 : Int)) then true else decide (c > (65535 : Int)) then true else decide (hd < (0 : Int))) = true → True) ∧ ((!bif bif decide (c < (0 : Int)) then true else decide (c > (65535 : Int)) then true else decide (hd < (0 : Int))) = true → True) ∧ tt (bif bif bif bif decide (c < (0 : Int)) then true else decide (c > (65535 : Int)) then true else decide (hd < (0 : Int)) then true else decide (hd > (65535 : Int)) then tt (tt (tt (tt True) ∧ td (((0 : Nat) = (0 : Nat) ∧ BL.n (BLE.l (encI c hd x n)) = (0 : Nat) ∧ BL.n (BLE.l (encI c hd x n)) = (0 : Nat)) ∧ td ((6 : Int) = BLE.e (encI c hd x n))) ∧ td ((0 : Nat) = BL.n (BLE.l (encI c hd x n)) ∧ FEq (BL.n (BLE.l (encI c hd x n))) (fun (x : Nat) => SV.any) (bys (BL.f (BLE.l (encI c hd x n))))))) else tt ((tt True ∧ (n ≤ (1048576 : Nat) ∧ (∃ (x_1 : Nat → RecD), (fun (k : Nat) => recSV (x k)) = fun (k : Nat) => recSV (x_1 k)) ∧ ∀ (k : Nat), k < n → RecD.kn (x k) ≤ (1048576 : Nat) ∧ RecD.dn (x k) ≤ (1048576 : Nat)) ∧ (false = true → True)) ∧ tt (tt (((!!validL x n) = true → True) ∧ ((!!validL x n) = true → tt (td (tt True)) ∧ (n ≤ (1048576 : Nat) ∧ (∃ (x_1 : Nat → RecD), (fun (k : Nat) => recSV (x k)) = fun (k : Nat) => recSV (x_1 k)) ∧ ∀ (k : Nat), k < n → RecD.kn (x k) ≤ (1048576 : Nat) ∧ RecD.dn (x k) ≤ (1048576 : Nat)) ∧ (false = true → True)) ∧ tt (bif bif !validL x n then true else decide ((0 : Int) ≤ idxL (fun (x : RecD) => RecD.bad x) (recsOf fun (k : Nat) => recSV (x k)) n) then tt (tt (tt (tt True) ∧ td (((0 : Nat) = (0 : Nat) ∧ BL.n (BLE.l (encI c hd x n)) = (0 : Nat) ∧ BL.n (BLE.l (encI c hd x n)) = (0 : Nat)) ∧ td ((1 : Int) = BLE.e (encI c hd x n))) ∧ td ((0 : Nat) = BL.n (BLE.l (encI c hd x n)) ∧ FEq (BL.n (BLE.l (encI c hd x n))) (fun (x : Nat) => SV.any) (bys (BL.f (BLE.l (encI c hd x n))))))) else tt (tt (tt (tt (∃ (x0 : Nat), x0 ≤ n ∧ (((0 : Int) = (↑x0 : Int) ∧ ((0 : Nat) = (0 : Nat) ∧ BL.n (encL c hd x x0) = (0 : Nat) ∧ BL.n (encL c hd x x0) = (0 : Nat)) ∧ c = c ∧ hd = hd ∧ ((e = true → e = true) ∧ n = n ∧ FEq n (fun (k : Nat) => recSV (x k)) fun (k : Nat) => recSV (x k)) ∧ td ((↑n : Int) = (↑n : Int))) ∧ td ((0 : Nat) = BL.n (encL c hd x x0) ∧ FEq (BL.n (encL c hd x x0)) (fun (x : Nat) => SV.any) (bys (BL.f (encL c hd x x0))))) ∧ ∀ (x_1 : Nat), x_1 ≤ n → tt (bif decide ((↑x_1 : Int) < (↑n : Int)) then ((0 : Int) ≤ (↑x_1 : Int) ∧ (↑x_1 : Int) < (↑n : Int)) ∧ tu (td (tu (tt (td (tu (tt (tt (tt (td ((tt (tt True) ∧ (BL.n (encL c hd x x_1) = BL.n (encL c hd x x_1) ∧ BL.n (encL c hd x x_1) ≤ (1099511627776 : Nat)) ∧ (false = true → tt (td (∀ (k : Nat), SV.rf (comb (bys (BL.f (encL c hd x x_1))) (bys (halfI c)) (BL.n (encL c hd x x_1)) k))))) ∧ tt (tt (td ((tt (tt True) ∧ (BL.n (encL c hd x x_1) + (2 : Nat) = BL.n (encL c hd x x_1) + (2 : Nat) ∧ BL.n (encL c hd x x_1) + (2 : Nat) ≤ (1099511627776 : Nat)) ∧ (false = true → tt (td (∀ (k : Nat), SV.rf (comb (comb (bys (BL.f (encL c hd x x_1))) (bys (halfI c)) (BL.n (encL c hd x x_1))) (bys (halfI hd)) (BL.n (encL c hd x x_1) + (2 : Nat)) k))))) ∧ tt (tt (tt (tt (tt (tt (tt (tt (tt (tt (tt (tt (tt (td (tu (tt (tu (tt True))) ∧ (((true = true → True) ∧ SV.v (Value.int IntKind.i64 (↑(RecD.dn (x (Int.toNat (↑x_1 : Int)))) : Int)) = SV.v (Value.int IntKind.i64 (↑(RecD.dn (x (Int.toNat (↑x_1 : Int)))) : Int))) ∧ ((true = true → True) ∧ SV.ro (1 : Nat) (RecD.dn (x (Int.toNat (↑x_1 : Int)))) (bys (RecD.df (x (Int.toNat (↑x_1 : Int))))) false = SV.ro (1 : Nat) (RecD.dn (x (Int.toNat (↑x_1 : Int)))) (bys (RecD.df (x (Int.toNat (↑x_1 : Int))))) false) ∧ ((true = true → True) ∧ SV.ptr (1 : Nat) (2 : Nat) = SV.ptr (1 : Nat) (2 : Nat)) ∧ td ((true = true → True) ∧ SV.sl (3 : Nat) (1 : Nat) (0 : Nat) (BL.n (encL c hd x x_1) + (2 : Nat) + (2 : Nat)) (BL.n (encL c hd x x_1) + (2 : Nat) + (2 : Nat)) false = SV.sl (3 : Nat) (1 : Nat) (0 : Nat) (BL.n (encL c hd x x_1) + (2 : Nat) + (2 : Nat)) (BL.n (encL c hd x x_1) + (2 : Nat) + (2 : Nat)) false)) ∧ td ((BL.n (encL c hd x x_1) + (2 : Nat) + (2 : Nat) = BL.n (encL c hd x x_1) + (2 : Nat) + (2 : Nat) ∧ (2 : Nat) ≤ (2 : Nat) ∧ (BL.n (encL c hd x x_1) + (2 : Nat) + (2 : Nat) + (2 : Nat)) * (1 : Nat) ≤ (140737488355328 : Nat)) ∧ (((true = true → True) ∧ SV.v (Value.int IntKind.i64 (↑(RecD.dn (x (Int.toNat (↑x_1 : Int)))) : Int)) = SV.v (Value.int IntKind.i64 (↑(RecD.dn (x (Int.toNat (↑x_1 : Int)))) : Int))) ∧ ((true = true → True) ∧ SV.ro (1 : Nat) (RecD.dn (x (Int.toNat (↑x_1 : Int)))) (bys (RecD.df (x (Int.toNat (↑x_1 : Int))))) false = SV.ro (1 : Nat) (RecD.dn (x (Int.toNat (↑x_1 : Int)))) (bys (RecD.df (x (Int.toNat (↑x_1 : Int))))) false) ∧ td ((true = true → True) ∧ SV.ptr (1 : Nat) (2 : Nat) = SV.ptr (1 : Nat) (2 : Nat))) ∧ td ((tt (tt True) ∧ (BL.n (encL c hd x x_1) + (2 : Nat) + (2 : Nat) + (2 : Nat) = BL.n (encL c hd x x_1) + (2 : Nat) + (2 : Nat) + (2 : Nat) ∧ BL.n (encL c hd x x_1) + (2 : Nat) + (2 : Nat) + (2 : Nat) ≤ (1099511627776 : Nat)) ∧ (false = true → tt (td (∀ (k : Nat), SV.rf (comb (comb (comb (comb (bys (BL.f (encL c hd x x_1))) (bys (halfI c)) (BL.n (encL c hd x x_1))) (bys (halfI hd)) (BL.n (encL c hd x x_1) + (2 : Nat))) (seqF [SV.v (Value.int IntKind.u8 (fitV IntKind.u8 (RecD.r (x (Int.toNat (↑x_1 : Int)))))), SV.v (Value.int IntKind.u8 (fitV IntKind.u8 (↑(RecD.kn (x (Int.toNat (↑x_1 : Int)))) : Int)))]) (BL.n (encL c hd x x_1) + (2 : Nat) + (2 : Nat))) (bys (halfI (↑(RecD.dn (x (Int.toNat (↑x_1 : Int)))) : Int))) (BL.n (encL c hd x x_1) + (2 : Nat) + (2 : Nat) + (2 : Nat)) k))))) ∧ tt (tt (tt (tt (tt (tt (tt (td ((BL.n (encL c hd x x_1) + (2 : Nat) + (2 : Nat) + (2 : Nat) + (2 : Nat) = BL.n (encL c hd x x_1) + (2 : Nat) + (2 : Nat) + (2 : Nat) + (2 : Nat) ∧ tt ((BL.n (encL c hd x x_1) + (2 : Nat) + (2 : Nat) + (2 : Nat) + (2 : Nat) + RecD.kn (x (Int.toNat (↑x_1 : Int)))) * (1 : Nat) ≤ (140737488355328 : Nat))) ∧ (((true = true → True) ∧ SV.ro (1 : Nat) (RecD.dn (x (Int.toNat (↑x_1 : Int)))) (bys (RecD.df (x (Int.toNat (↑x_1 : Int))))) false = SV.ro (1 : Nat) (RecD.dn (x (Int.toNat (↑x_1 : Int)))) (bys (RecD.df (x (Int.toNat (↑x_1 : Int))))) false) ∧ td ((true = true → True) ∧ SV.ptr (1 : Nat) (2 : Nat) = SV.ptr (1 : Nat) (2 : Nat))) ∧ td ((BL.n (encL c hd x x_1) + (2 : Nat) + (2 : Nat) + (2 : Nat) + (2 : Nat) + RecD.kn (x (Int.toNat (↑x_1 : Int))) = BL.n (encL c hd x x_1) + (2 : Nat) + (2 : Nat) + (2 : Nat) + (2 : Nat) + RecD.kn (x (Int.toNat (↑x_1 : Int))) ∧ tt ((BL.n (encL c hd x x_1) + (2 : Nat) + (2 : Nat) + (2 : Nat) + (2 : Nat) + RecD.kn (x (Int.toNat (↑x_1 : Int))) + RecD.dn (x (Int.toNat (↑x_1 : Int)))) * (1 : Nat) ≤ (140737488355328 : Nat))) ∧ tt (tt (((-9223372036854775808 : Int) ≤ (↑x_1 : Int) + (1 : Int) ∧ (↑x_1 : Int) + (1 : Int) ≤ (9223372036854775807 : Int)) ∧ tt (∃ (x' : Nat), x' ≤ n ∧ (((↑x_1 : Int) + (1 : Int) = (↑x' : Int) ∧ ((0 : Nat) = (0 : Nat) ∧ BL.n (encL c hd x x_1) + (2 : Nat) + (2 : Nat) + (2 : Nat) + (2 : Nat) + RecD.kn (x (Int.toNat (↑x_1 : Int))) + RecD.dn (x (Int.toNat (↑x_1 : Int))) = BL.n (encL c hd x x') ∧ BL.n (encL c hd x x') ≤ BL.n (encL c hd x x') ∧ BL.n (encL c hd x x') ≤ BL.n (encL c hd x x_1) + (2 : Nat) + (2 : Nat) + (2 : Nat) + (2 : Nat) + RecD.kn (x (Int.toNat (↑x_1 : Int))) + RecD.dn (x (Int.toNat (↑x_1 : Int)))) ∧ c = c ∧ hd = hd ∧ ((e = true → e = true) ∧ n = n ∧ FEq n (fun (k : Nat) => recSV (x k)) fun (k : Nat) => recSV (x k)) ∧ td ((↑n : Int) = (↑n : Int))) ∧ td (BL.n (encL c hd x x_1) + (2 : Nat) + (2 : Nat) + (2 : Nat) + (2 : Nat) + RecD.kn (x (Int.toNat (↑x_1 : Int))) + RecD.dn (x (Int.toNat (↑x_1 : Int))) = BL.n (encL c hd x x') ∧ FEq (BL.n (encL c hd x x')) (comb (comb (comb (comb (comb (comb (bys (BL.f (encL c hd x x_1))) (bys (halfI c)) (BL.n (encL c hd x x_1))) (bys (halfI hd)) (BL.n (encL c hd x x_1) + (2 : Nat))) (seqF [SV.v (Value.int IntKind.u8 (fitV IntKind.u8 (RecD.r (x (Int.toNat (↑x_1 : Int)))))), SV.v (Value.int IntKind.u8 (fitV IntKind.u8 (↑(RecD.kn (x (Int.toNat (↑x_1 : Int)))) : Int)))]) (BL.n (encL c hd x x_1) + (2 : Nat) + (2 : Nat))) (bys (halfI (↑(RecD.dn (x (Int.toNat (↑x_1 : Int)))) : Int))) (BL.n (encL c hd x x_1) + (2 : Nat) + (2 : Nat) + (2 : Nat))) (bys (RecD.kf (x (Int.toNat (↑x_1 : Int))))) (BL.n (encL c hd x x_1) + (2 : Nat) + (2 : Nat) + (2 : Nat) + (2 : Nat))) (bys (RecD.df (x (Int.toNat (↑x_1 : Int))))) (BL.n (encL c hd x x_1) + (2 : Nat) + (2 : Nat) + (2 : Nat) + (2 : Nat) + RecD.kn (x (Int.toNat (↑x_1 : Int))))) (bys (BL.f (encL c hd x x'))))) ∧ n - x' < n - x_1))))))))))))))))))))))))))))))))))))))))) else tt (td (tu (tt True) ∧ tt (td ((((1 : Nat) ≤ (1 : Nat) ∧ tt True) ∧ SV.v (Value.int IntKind.u8 (255 : Int)) = SV.v (Value.int IntKind.u8 (255 : Int)) ∧ (true = true → tt (td (∀ (k : Nat), True)))) ∧ tt (td ((BL.n (encL c hd x x_1) = BL.n (encL c hd x x_1) ∧ ((8 : Nat) ≤ (8 : Nat) ∧ ∀ (k : Nat), k < (8 : Nat) → true = true) ∧ (BL.n (encL c hd x x_1) + (8 : Nat)) * (1 : Nat) ≤ (140737488355328 : Nat)) ∧ tt (tt (tt (tt (tt True) ∧ td (((0 : Nat) = (0 : Nat) ∧ BL.n (encL c hd x x_1) + (8 : Nat) = BL.n (BLE.l (encI c hd x n)) ∧ BL.n (BLE.l (encI c hd x n)) ≤ BL.n (BLE.l (encI c hd x n)) ∧ BL.n (BLE.l (encI c hd x n)) ≤ BL.n (encL c hd x x_1) + (8 : Nat)) ∧ td ((0 : Int) = BLE.e (encI c hd x n))) ∧ td (BL.n (encL c hd x x_1) + (8 : Nat) = BL.n (BLE.l (encI c hd x n)) ∧ FEq (BL.n (BLE.l (encI c hd x n))) (comb (bys (BL.f (encL c hd x x_1))) (fun (k : Nat) => bys ffs ((0 : Nat) + k)) (BL.n (encL c hd x x_1))) (bys (BL.f (BLE.l (encI c hd x n)))))))))))))))))))))))))))))))))) = _ by kernel_rfl) ?_
  simp only [tt_iff, tu_iff, td_iff, FEq_refl, FEq_zero, condP, decide_eq_true_eq, decide_eq_false_iff_not, true_and, and_true, implies_true, and_self, Bool.true_eq_false, Bool.false_eq_true, false_implies, forall_const, Int.toNat_natCast, Nat.zero_add, gt_iff_lt, ge_iff_le, Nat.le_refl, Bool.not_eq_true, Bool.not_eq_false, Int.not_lt, Int.not_le, Nat.not_lt, Nat.not_le]
  have hbig : big = 1048576 := rfl
  have hr : Recs (fun k => recSV (x k)) n := ⟨hn, ⟨x, rfl⟩, hb⟩
  have hre : (recsOf fun k => recSV (x k)) = x := rfl
  simp only [hre]
  have hd0 : encI c hd x n = cond (cond (cond (cond (decide (c < 0)) true (decide (65535 < c))) true (decide (hd < 0))) true (decide (65535 < hd))) ⟨nilBL, 6⟩
    (cond (cond (!validL x n) true (decide (0 ≤ idxL (fun x => x.bad) x n))) ⟨nilBL, 1⟩ ⟨(encL c hd x n).cat ⟨8, ffs⟩, 0⟩) := rfl
  refine ⟨fun h => ?_, fun h => ⟨hr, fun _ => hr, fun h1 => ?_, fun h1 => ?_⟩⟩
  · rw [hd0, h]
    exact ⟨⟨rfl, rfl⟩, rfl, fun k hk => by simp [nilBL] at hk⟩
  · rw [hd0, h, h1]
    exact ⟨⟨rfl, rfl⟩, rfl, fun k hk => by simp [nilBL] at hk⟩
  · have hv : usedI x n ≤ 2048 := by
      cases hv : validL x n with
      | false => rw [hv] at h1; simp at h1
      | true => simp only [validL, Bool.and_eq_true, decide_eq_true_eq] at hv; exact hv.2
    rw [h, h1] at hd0
    simp only [cond_false] at hd0
    rw [hd0]
    refine ⟨0, Nat.zero_le _, ⟨⟨rfl, rfl, id⟩, rfl, fun k hk => by simp [encL, nilBL] at hk⟩, fun k hk => ⟨fun hlt => ?_, fun hge => ?_⟩⟩
    · have hk' : k < n := by omega
      have a1 := encL_n c hd x k
      have a2 := usedI_mono x hk
      obtain ⟨b1, b2⟩ := hb k hk'
      have b1 : (x k).kn ≤ 1048576 := b1
      have b2 : (x k).dn ≤ 1048576 := b2
      refine ⟨⟨by omega, hlt⟩, by omega, by omega, by omega, by omega, by omega, by omega, ⟨by omega, by omega⟩, k + 1, by omega, ⟨⟨by omega, ⟨rfl, Nat.le_refl _⟩, id⟩, rfl, ?_⟩, by omega⟩
      show FEq ((encL c hd x k).n + 2 + 2 + 2 + 2 + (x k).kn + (x k).dn) _ (bys ((((((encL c hd x k).cat ⟨2, halfI c⟩).cat ⟨2, halfI hd⟩).cat ⟨2, pairI (fitV .u8 (x k).r) (fitV .u8 ((x k).kn : Int))⟩).cat ⟨2, halfI (x k).dn⟩).cat ⟨(x k).kn, (x k).kf⟩ |>.cat ⟨(x k).dn, (x k).df⟩).f)
      simp only [cat_bys]
      refine FEq_combL (FEq_combL (FEq_combL (FEq_comb (fun q hq => ?_))))
      match q, hq with
      | 0, _ => rfl
      | 1, _ => rfl
    · obtain rfl : k = n := by omega
      have a1 := encL_n c hd x k
      refine ⟨by omega, ⟨⟨rfl, Nat.le_refl _⟩, rfl⟩, rfl, ?_⟩
      rw [cat_bys]
      exact fun _ _ => rfl
end Go.Tk
