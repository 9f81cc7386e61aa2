/- Rows 1 and 2: the reference. -/
import Derived.Test.YtjbbpacbfpbbcaaTP
set_option linter.all false
set_option linter.unusedSimpArgs false
set_option linter.unusedVariables false
set_option linter.deprecated false
set_option linter.unusedVariables false
set_option linter.unusedSimpArgs false
namespace Go.Tk
open Go.Sym Go.Proofs

theorem rcost_ok : costCon.Ok Try.prog 54 := by
  refine Con.ofG (U := Nat) (X := []) (T := []) mixed nmOk trivial trivial Try.func54 rfl 200 (fun _ _ => []) (fun _ _ => false) (fun _ _ _ _ _ _ => none) ?_
  intro xs L pre x L' h hp
  unfold costCon at h
  dsimp only at h
  split at h <;> try (simp at h; done)
  rename_i r n k e m d e' b
  cases h
  refine ⟨Nat.le_of_ble_eq_true rfl, ?_⟩
  obtain ⟨h1, h2⟩ := hp
  simp only [lim] at h1 h2
  refine cast (show (td (tu (tt (tt (tt (tt (tt (((-9223372036854775808 : Int) ≤ (32 : Int) + (↑m : Int) ∧ (32 : Int) + (↑m : Int) ≤ (9223372036854775807 : Int)) ∧ tt (tt (tt (tt (tt (bif decide ((↑n : Int) > (0 : Int)) then tt (((-9223372036854775808 : Int) ≤ (32 : Int) + (↑m : Int) + (16 : Int) ∧ (32 : Int) + (↑m : Int) + (16 : Int) ≤ (9223372036854775807 : Int)) ∧ tt (tt (tt (((-9223372036854775808 : Int) ≤ (32 : Int) + (↑m : Int) + (16 : Int) + (↑n : Int) ∧ (32 : Int) + (↑m : Int) + (16 : Int) + (↑n : Int) ≤ (9223372036854775807 : Int)) ∧ tt (tt (tt (tt True ∧ td (td ((32 : Int) + (↑m : Int) + (16 : Int) + (↑n : Int) = costI n m))))))))) else tt (tt (tt True ∧ td (td ((32 : Int) + (↑m : Int) = costI n m))))))))))))))))) = _ by kernel_rfl) ?_
  simp only [tt_iff, tu_iff, td_iff, FEq_refl, FEq_zero, condP, decide_eq_true_eq, decide_eq_false_iff_not, true_and, and_true, implies_true, and_self, Bool.true_eq_false, Bool.false_eq_true, false_implies, forall_const, Int.toNat_natCast, Nat.zero_add, gt_iff_lt, ge_iff_le, Nat.le_refl, Bool.not_eq_true, Bool.not_eq_false, Int.not_lt, Int.not_le, Nat.not_lt, Nat.not_le]
  refine ⟨⟨by omega, by omega⟩, fun h => ⟨⟨by omega, by omega⟩, ⟨by omega, by omega⟩, ?_⟩, fun h => ?_⟩
  · have : ((n : Int) == 0) = false := by rw [beq_eq_false_iff_ne]; omega
    simp only [costI, this, cond_false]
  · have : ((n : Int) == 0) = true := by rw [beq_iff_eq]; omega
    simp only [costI, this, cond_true]

theorem rrec_ok : validCon.Ok Try.prog 47 := by
  refine Con.ofG (U := Nat) (X := []) (T := []) mixed nmOk trivial trivial Try.func47 rfl 200 (fun _ _ => []) (fun _ _ => false) (fun _ _ _ _ _ _ => none) ?_
  intro xs L pre x L' h hp
  unfold validCon at h
  dsimp only at h
  split at h <;> try (simp at h; done)
  rename_i r n k e m d e' b
  cases h
  refine ⟨Nat.le_of_ble_eq_true rfl, ?_⟩
  refine cast (show (td (tu (tt (tt (tt (tt (tt (tt ((decide (r ≥ (1 : Int)) = true → True) ∧ (decide (r ≥ (1 : Int)) = true → True) ∧ (decide (r ≥ (1 : Int)) = true → True) ∧ tt (tt (((bif decide (r ≥ (1 : Int)) then decide (r ≤ (255 : Int)) else false) = true → True) ∧ ((bif decide (r ≥ (1 : Int)) then decide (r ≤ (255 : Int)) else false) = true → True) ∧ ((bif decide (r ≥ (1 : Int)) then decide (r ≤ (255 : Int)) else false) = true → True) ∧ ((bif decide (r ≥ (1 : Int)) then decide (r ≤ (255 : Int)) else false) = true → True) ∧ tt (tt (tt True ∧ td (td ((bif bif decide (r ≥ (1 : Int)) then decide (r ≤ (255 : Int)) else false then decide ((↑n : Int) ≤ (255 : Int)) else false) = validI r n))))))))))))))) = _ by kernel_rfl) ?_
  simp only [tt_iff, tu_iff, td_iff, FEq_refl, FEq_zero, condP, decide_eq_true_eq, decide_eq_false_iff_not, true_and, and_true, implies_true, and_self, Bool.true_eq_false, Bool.false_eq_true, false_implies, forall_const, Int.toNat_natCast, Nat.zero_add, gt_iff_lt, ge_iff_le, Nat.le_refl, Bool.not_eq_true, Bool.not_eq_false, Int.not_lt, Int.not_le, Nat.not_lt, Nat.not_le]
  rfl

def rusedInv (xs : List SV) (L : Ents) (f b : Nat) (h : List Nat) (st : St) : Option (LoopSpec Nat) :=
  match xs with
  | [.ro _ n g _] => some { I := fun k => st.mk' [0] [(4, .v (.int .i64 k)), (3, .v (.int .i64 (usedI (recsOf g) k)))] [], ok := fun k => k ≤ n, μ := fun k => n - k }
  | _ => none

theorem rused_ok : usedCon.Ok Try.prog 48 := by
  refine Con.ofG (U := Nat) (X := []) (T := [(54, costCon)]) mixed nmOk ⟨rcost_ok, trivial⟩ trivial Try.func48 rfl 200 (fun _ _ => []) (fun _ _ => false) rusedInv ?_
  intro xs L pre x L' h hp
  unfold usedCon at h
  dsimp only at h
  split at h <;> try (simp at h; done)
  rename_i n f e
  cases h
  refine ⟨Nat.le_of_ble_eq_true rfl, ?_⟩
  obtain ⟨hn, ⟨x, rfl⟩, hb⟩ := hp
  refine cast (show (tt (tt (tt (∃ (x0 : Nat), x0 ≤ n ∧ td ((0 : Int) = (↑x0 : Int) ∧ (0 : Int) = usedI x x0 ∧ td ((e = true → e = true) ∧ n = n ∧ FEq n (fun (k : Nat) => recSV (x k)) fun (k : Nat) => recSV (x k))) ∧ ∀ (x_1 : Nat), x_1 ≤ n → tt (tt (tt (tt (bif decide ((↑x_1 : Int) < (↑n : Int)) then tt (tt (tt (((0 : Int) ≤ (↑x_1 : Int) ∧ (↑x_1 : Int) < (↑n : Int)) ∧ tu ((td (tt (tt (tt (tt True)))) ∧ (RecD.kn (x (Int.toNat (↑x_1 : Int))) ≤ (1099511627776 : Nat) ∧ RecD.dn (x (Int.toNat (↑x_1 : Int))) ≤ (1099511627776 : Nat)) ∧ (false = true → True)) ∧ ((-9223372036854775808 : Int) ≤ usedI x x_1 + costI (RecD.kn (x (Int.toNat (↑x_1 : Int)))) (RecD.dn (x (Int.toNat (↑x_1 : Int)))) ∧ usedI x x_1 + costI (RecD.kn (x (Int.toNat (↑x_1 : Int)))) (RecD.dn (x (Int.toNat (↑x_1 : Int)))) ≤ (9223372036854775807 : Int)) ∧ tt (tt (((-9223372036854775808 : Int) ≤ (↑x_1 : Int) + (1 : Int) ∧ (↑x_1 : Int) + (1 : Int) ≤ (9223372036854775807 : Int)) ∧ tt (∃ (x' : Nat), x' ≤ n ∧ td ((↑x_1 : Int) + (1 : Int) = (↑x' : Int) ∧ usedI x x_1 + costI (RecD.kn (x (Int.toNat (↑x_1 : Int)))) (RecD.dn (x (Int.toNat (↑x_1 : Int)))) = usedI x x' ∧ td ((e = true → e = true) ∧ n = n ∧ FEq n (fun (k : Nat) => recSV (x k)) fun (k : Nat) => recSV (x k))) ∧ n - x' < n - x_1))))))) else tt (tt (tt True ∧ td (td (usedI x x_1 = usedI x n)))))))))))) = _ by kernel_rfl) ?_
  simp only [tt_iff, tu_iff, td_iff, FEq_refl, FEq_zero, condP, decide_eq_true_eq, decide_eq_false_iff_not, true_and, and_true, implies_true, and_self, Bool.true_eq_false, Bool.false_eq_true, false_implies, forall_const, Int.toNat_natCast, Nat.zero_add, gt_iff_lt, ge_iff_le, Nat.le_refl, Bool.not_eq_true, Bool.not_eq_false, Int.not_lt, Int.not_le, Nat.not_lt, Nat.not_le]
  have hu : ∀ k, k ≤ n → 0 ≤ usedI x k ∧ usedI x k ≤ 2097200 * k := fun k hk => usedI_bd x k n hk hb
  simp only [big] at hn
  refine ⟨0, Nat.zero_le _, ⟨by simp, rfl, id⟩, fun k hk => ⟨fun hlt => ?_, fun hge => ?_⟩⟩
  · have hk' : k < n := by omega
    obtain ⟨h3, h4⟩ := hb k hk'
    have h3 : (x k).kn ≤ 1048576 := h3
    have h4 : (x k).dn ≤ 1048576 := h4
    have h5 := costI_bd h3 h4
    have h6 := hu k (by omega)
    clear hb
    refine ⟨⟨by omega, hlt⟩, ⟨by omega, by omega⟩, ⟨by omega, by omega⟩, ⟨by omega, by omega⟩, k + 1, by omega, ⟨by omega, rfl, id⟩, by omega⟩
  · obtain rfl : k = n := by omega
    rfl

def rValidInv (xs : List SV) (L : Ents) (f b : Nat) (h : List Nat) (st : St) : Option (LoopSpec Nat) :=
  match xs with
  | [.ro _ n g _] => some { I := fun k => st.mk' [0] [(3, .v (.int .i64 k))] [], ok := fun k => k ≤ n ∧ okUp (recsOf g) k = true, μ := fun k => n - k }
  | _ => none

theorem rValid_ok : ValidCon.Ok Try.prog 35 := by
  refine Con.ofG (U := Nat) (X := []) (T := [(48, usedCon), (47, validCon)]) mixed nmOk ⟨rused_ok, rrec_ok, trivial⟩ trivial Try.func35 rfl 200 (fun f i => match f, i with | 35, 4 => [[], [], [0, 1], [0, 1, 2], [0, 1, 2, 3], [0, 1, 2, 3, 4], [0, 1, 2, 3, 4, 5], [0, 1, 2, 3, 4, 5, 6], [0, 1, 2, 3, 4, 5, 6, 7], [0, 1, 2, 3, 4, 5, 6, 7, 8], [0, 1, 2, 3, 4, 5, 6, 7, 8, 9], [0, 1, 2, 3, 4, 5, 6, 7, 8, 9], [0, 1, 2, 3, 4, 5, 6, 7, 8, 9, 10, 11], [0, 1, 2, 3, 4, 5, 6, 7, 8, 9, 10, 11, 12], [0, 1, 2, 3, 4, 5, 6, 7, 8, 9, 10, 11, 12, 13], [0, 1, 2, 3, 4, 5, 6, 7, 8, 9], [0, 1, 2, 3, 4, 5, 6, 7, 8, 9], [0, 1, 2, 3, 4, 5, 6, 7, 8, 9, 16], [0, 1, 2, 3, 4, 5, 6, 7, 8, 9, 15, 16, 17], [0, 1, 2, 3, 4, 5, 6, 7, 8, 9, 15, 16, 17, 18], [0, 1, 2, 3, 4, 5, 6, 7, 8, 9, 15, 16, 17, 18, 19], [0, 1, 2, 3, 4, 5, 6, 7, 8, 9, 10, 11, 12, 13, 14, 15, 16, 17, 18, 19, 20], [0, 1, 2, 3, 4, 5, 6, 7, 8, 9, 10, 11, 12, 13, 14, 15, 16, 17, 18, 19, 20, 21], [0, 1, 2, 3, 4, 5, 6, 7, 8, 9, 10, 11, 12, 13, 14, 15, 16, 17, 18, 19, 20, 21, 22]] | _, _ => []) (fun _ _ => false) rValidInv ?_
  intro xs L pre x L' h hp
  unfold ValidCon at h
  dsimp only at h
  split at h <;> try (simp at h; done)
  rename_i n f e
  cases h
  refine ⟨Nat.le_of_ble_eq_true rfl, ?_⟩
  obtain ⟨hn, ⟨x, rfl⟩, hb⟩ := hp
  refine cast (show (tt (tt (∃ (x0 : Nat), (x0 ≤ n ∧ okUp x x0 = true) ∧ td ((0 : Int) = (↑x0 : Int) ∧ td ((e = true → e = true) ∧ n = n ∧ FEq n (fun (k : Nat) => recSV (x k)) fun (k : Nat) => recSV (x k))) ∧ ∀ (x_1 : Nat), x_1 ≤ n ∧ okUp x x_1 = true → tt (tt (tt (tt (bif decide ((↑x_1 : Int) < (↑n : Int)) then tt (tt (((0 : Int) ≤ (↑x_1 : Int) ∧ (↑x_1 : Int) < (↑n : Int)) ∧ tu ((td (tt (tt (tt (tt True)))) ∧ tt (false = true → True)) ∧ tt (tt (((!!validI (RecD.r (x (Int.toNat (↑x_1 : Int)))) (RecD.kn (x (Int.toNat (↑x_1 : Int))))) = true → True) ∧ ((!!validI (RecD.r (x (Int.toNat (↑x_1 : Int)))) (RecD.kn (x (Int.toNat (↑x_1 : Int))))) = true → True) ∧ ((!!validI (RecD.r (x (Int.toNat (↑x_1 : Int)))) (RecD.kn (x (Int.toNat (↑x_1 : Int))))) = true → True) ∧ (((bif !validI (RecD.r (x (Int.toNat (↑x_1 : Int)))) (RecD.kn (x (Int.toNat (↑x_1 : Int)))) then false else true) && decide ((↑x_1 : Int) > (0 : Int))) = true → True) ∧ (((bif !validI (RecD.r (x (Int.toNat (↑x_1 : Int)))) (RecD.kn (x (Int.toNat (↑x_1 : Int)))) then false else true) && decide ((↑x_1 : Int) > (0 : Int))) = true → True) ∧ (((bif !validI (RecD.r (x (Int.toNat (↑x_1 : Int)))) (RecD.kn (x (Int.toNat (↑x_1 : Int)))) then false else true) && decide ((↑x_1 : Int) > (0 : Int))) = true → (0 : Int) ≤ (↑x_1 : Int) ∧ (↑x_1 : Int) < (↑n : Int)) ∧ (((bif !validI (RecD.r (x (Int.toNat (↑x_1 : Int)))) (RecD.kn (x (Int.toNat (↑x_1 : Int)))) then false else true) && decide ((↑x_1 : Int) > (0 : Int))) = true → True) ∧ (((bif !validI (RecD.r (x (Int.toNat (↑x_1 : Int)))) (RecD.kn (x (Int.toNat (↑x_1 : Int)))) then false else true) && decide ((↑x_1 : Int) > (0 : Int))) = true → true = true) ∧ (((bif !validI (RecD.r (x (Int.toNat (↑x_1 : Int)))) (RecD.kn (x (Int.toNat (↑x_1 : Int)))) then false else true) && decide ((↑x_1 : Int) > (0 : Int))) = true → True) ∧ (((bif !validI (RecD.r (x (Int.toNat (↑x_1 : Int)))) (RecD.kn (x (Int.toNat (↑x_1 : Int)))) then false else true) && decide ((↑x_1 : Int) > (0 : Int))) = true → True) ∧ (((bif !validI (RecD.r (x (Int.toNat (↑x_1 : Int)))) (RecD.kn (x (Int.toNat (↑x_1 : Int)))) then false else true) && decide ((↑x_1 : Int) > (0 : Int))) = true → (-9223372036854775808 : Int) ≤ (↑x_1 : Int) - (1 : Int) ∧ (↑x_1 : Int) - (1 : Int) ≤ (9223372036854775807 : Int)) ∧ (((bif !validI (RecD.r (x (Int.toNat (↑x_1 : Int)))) (RecD.kn (x (Int.toNat (↑x_1 : Int)))) then false else true) && decide ((↑x_1 : Int) > (0 : Int))) = true → (0 : Int) ≤ (↑x_1 : Int) - (1 : Int) ∧ (↑x_1 : Int) - (1 : Int) < (↑n : Int)) ∧ (((bif !validI (RecD.r (x (Int.toNat (↑x_1 : Int)))) (RecD.kn (x (Int.toNat (↑x_1 : Int)))) then false else true) && decide ((↑x_1 : Int) > (0 : Int))) = true → True) ∧ (((bif !validI (RecD.r (x (Int.toNat (↑x_1 : Int)))) (RecD.kn (x (Int.toNat (↑x_1 : Int)))) then false else true) && decide ((↑x_1 : Int) > (0 : Int))) = true → true = true) ∧ (((bif !validI (RecD.r (x (Int.toNat (↑x_1 : Int)))) (RecD.kn (x (Int.toNat (↑x_1 : Int)))) then false else true) && decide ((↑x_1 : Int) > (0 : Int))) = true → True) ∧ ((!!validI (RecD.r (x (Int.toNat (↑x_1 : Int)))) (RecD.kn (x (Int.toNat (↑x_1 : Int))))) = true → True) ∧ tt (bif bif !validI (RecD.r (x (Int.toNat (↑x_1 : Int)))) (RecD.kn (x (Int.toNat (↑x_1 : Int)))) then true else bif decide ((↑x_1 : Int) > (0 : Int)) then decide (RecD.r (x (Int.toNat (↑x_1 : Int))) ≤ RecD.r (x (Int.toNat ((↑x_1 : Int) - (1 : Int))))) else false then tt (tt True ∧ td (td (false = validL x n))) else tt (((-9223372036854775808 : Int) ≤ (↑x_1 : Int) + (1 : Int) ∧ (↑x_1 : Int) + (1 : Int) ≤ (9223372036854775807 : Int)) ∧ tt (∃ (x' : Nat), (x' ≤ n ∧ okUp x x' = true) ∧ td ((↑x_1 : Int) + (1 : Int) = (↑x' : Int) ∧ td ((e = true → e = true) ∧ n = n ∧ FEq n (fun (k : Nat) => recSV (x k)) fun (k : Nat) => recSV (x k))) ∧ n - x' < n - x_1)))))))) else tt ((tt True ∧ (n ≤ (1048576 : Nat) ∧ (∃ (x_2 : Nat → RecD), (fun (k : Nat) => recSV (x k)) = fun (k : Nat) => recSV (x_2 k)) ∧ ∀ (k : Nat), k < n → RecD.kn (x k) ≤ (1048576 : Nat) ∧ RecD.dn (x k) ≤ (1048576 : Nat)) ∧ (false = true → True)) ∧ tt (tt (tt True ∧ td (td (decide (usedI x n ≤ (2048 : Int)) = validL x n)))))))))))) = _ by kernel_rfl) ?_
  simp only [tt_iff, tu_iff, td_iff, FEq_refl, FEq_zero, condP, decide_eq_true_eq, decide_eq_false_iff_not, true_and, and_true, implies_true, and_self, Bool.true_eq_false, Bool.false_eq_true, false_implies, forall_const, Int.toNat_natCast, Nat.zero_add, gt_iff_lt, ge_iff_le, Nat.le_refl, Bool.not_eq_true, Bool.not_eq_false, Int.not_lt, Int.not_le, Nat.not_lt, Nat.not_le]
  have hbig : big = 1048576 := rfl
  refine ⟨0, ⟨Nat.zero_le _, rfl⟩, ⟨rfl, id⟩, fun k ⟨hk, hok⟩ => ⟨fun hlt => ?_, fun hge => ?_⟩⟩
  · have hk' : k < n := by omega
    have hbad : okUp x (k + 1) = false → false = validL x n := fun h => by simp [validL, okUp_false x hk' h]
    cases hv : validI (x k).r (x k).kn with
    | false =>
      simp only [Bool.not_false, cond_true, Bool.false_and, Bool.false_eq_true, false_implies, true_and, forall_const, and_true, Bool.true_eq_false]
      exact ⟨⟨by omega, hlt⟩, hbad (by simp [okUp, hv])⟩
    | true =>
      simp only [Bool.not_true, cond_false, Bool.true_and, decide_eq_true_eq]
      refine ⟨⟨by omega, hlt⟩, fun h => ⟨by omega, hlt⟩, fun h => ⟨by omega, by omega⟩, fun h => ⟨by omega, by omega⟩, fun h => hbad ?_, fun h => ⟨⟨by omega, by omega⟩, k + 1, ⟨by omega, ?_⟩, ⟨by omega, id⟩, by omega⟩⟩
      · by_cases h0 : (0 : Int) < k
        · simp only [h0, decide_true, cond_true, decide_eq_true_eq] at h
          have e1 : ((k : Int) - 1).toNat = k - 1 := by omega
          rw [e1] at h
          have h1 : ¬ (x (k - 1)).r < (x k).r := by omega
          have h2 : ¬ k = 0 := by omega
          simp [okUp, hv, h1, h2]
        · exfalso
          simp at h
          omega
      · by_cases h0 : (0 : Int) < k
        · simp only [h0, decide_true, cond_true, decide_eq_false_iff_not] at h
          have e1 : ((k : Int) - 1).toNat = k - 1 := by omega
          rw [e1] at h
          have h1 : (x (k - 1)).r < (x k).r := by omega
          simp [okUp, hv, h1, hok]
        · have h2 : k = 0 := by omega
          simp [okUp, hv, h2, hok] at hok ⊢
          subst h2
          exact hv
  · obtain rfl : k = n := by omega
    refine ⟨⟨hn, ⟨x, rfl⟩, hb⟩, ?_⟩
    simp [validL, hok]

theorem one_ok : cloneCon.Ok Try.prog 21 := by
  refine Con.ofG (U := Nat) (X := []) (T := []) mixed nmOk trivial trivial Try.func21 rfl 100 (fun _ _ => []) (fun _ _ => false) (fun _ _ _ _ _ _ => none) ?_
  intro xs L pre x L' h hp
  unfold cloneCon at h
  dsimp only at h
  split at h <;> try (simp at h; done)
  rename_i r n f e m g e' b
  cases h
  refine ⟨Nat.le_of_ble_eq_true rfl, ?_⟩
  refine cast (show (td (tu (tt (td (tu (tt (td (tt (tt (tt (tt (td (((0 : Nat) = (0 : Nat) ∧ tt (((0 : Nat) + n) * (1 : Nat) ≤ (140737488355328 : Nat))) ∧ tt (tt (td (tu (tt (td (tt (tt (tt (tt (td (((0 : Nat) = (0 : Nat) ∧ tt (((0 : Nat) + m) * (1 : Nat) ≤ (140737488355328 : Nat))) ∧ tt (tt (td (tu (tt (tt (td (tu (tt (tt True ∧ td (r = r ∧ ((0 : Nat) = (0 : Nat) ∧ (0 : Nat) + n = n ∧ n ≤ n ∧ n ≤ (0 : Nat) + n) ∧ ((0 : Nat) = (0 : Nat) ∧ (0 : Nat) + m = m ∧ m ≤ m ∧ m ≤ (0 : Nat) + m) ∧ td (b = b)) ∧ ((0 : Nat) + n = n ∧ FEq n (comb (seqF []) f (0 : Nat)) f) ∧ td ((0 : Nat) + m = m ∧ FEq m (comb (seqF []) g (0 : Nat)) g)))))))))))))))))))))))))))))))))) = _ by kernel_rfl) ?_
  simp only [tt_iff, tu_iff, td_iff, FEq_refl, FEq_zero, condP, decide_eq_true_eq, decide_eq_false_iff_not, true_and, and_true, implies_true, and_self, Bool.true_eq_false, Bool.false_eq_true, false_implies, forall_const, Int.toNat_natCast, Nat.zero_add, gt_iff_lt, ge_iff_le, Nat.le_refl, Bool.not_eq_true, Bool.not_eq_false, Int.not_lt, Int.not_le, Nat.not_lt, Nat.not_le]
  have hl : lim = 1099511627776 := rfl
  obtain ⟨h1, h2⟩ := hp
  refine ⟨by omega, by omega, fun k _ => ?_, fun k _ => ?_⟩ <;> rw [comb_ge (Nat.zero_le _), Nat.sub_zero]

def copyCon : Con where
  pure := false
  run xs L := match xs, L with
    | [.ro 4 n f _], [] => some (Recs f n, rlSl 0 ⟨n, recsOf f⟩, [(0, rlEnt ⟨n, recsOf f⟩)])
    | _, _ => none

def copyInv (xs : List SV) (L : Ents) (f b : Nat) (h : List Nat) (st : St) : Option (LoopSpec Nat) :=
  match xs with
  | [.ro _ n g _] => some { I := fun k => st.mk' [0] [(4, .v (.int .i64 k)), (3, rlSl st.nx ⟨k, recsOf g⟩)] [(st.nx, rlEnt ⟨k, recsOf g⟩)], ok := fun k => k ≤ n, μ := fun k => n - k }
  | _ => none

theorem copy_ok : copyCon.Ok Try.prog 36 := by
  refine Con.ofG (U := Nat) (X := []) (T := [(21, cloneCon)]) mixed nmOk ⟨one_ok, trivial⟩ trivial Try.func36 rfl 200 (fun _ _ => []) (fun _ _ => false) copyInv ?_
  intro xs L pre x L' h hp
  unfold copyCon at h
  dsimp only at h
  split at h <;> try (simp at h; done)
  rename_i n f e
  cases h
  refine ⟨Nat.le_of_ble_eq_true rfl, ?_⟩
  obtain ⟨hn, ⟨x, rfl⟩, hb⟩ := hp
  refine cast (show (tt (tt (tt (∃ (x0 : Nat), x0 ≤ n ∧ (((0 : Int) = (↑x0 : Int) ∧ ((0 : Nat) = (0 : Nat) ∧ x0 = (0 : Nat) ∧ x0 = (0 : Nat)) ∧ td ((e = true → e = true) ∧ n = n ∧ FEq n (fun (k : Nat) => recSV (x k)) fun (k : Nat) => recSV (x k))) ∧ td ((0 : Nat) = x0 ∧ FEq x0 (fun (x : Nat) => SV.any) fun (k : Nat) => recOwn (x k))) ∧ ∀ (x_1 : Nat), x_1 ≤ n → tt (tt (tt (tt (bif decide ((↑x_1 : Int) < (↑n : Int)) then tt (tt (tt (((0 : Int) ≤ (↑x_1 : Int) ∧ (↑x_1 : Int) < (↑n : Int)) ∧ tu (td ((td (tt (tt (tt (tt True)))) ∧ (RecD.kn (x (Int.toNat (↑x_1 : Int))) ≤ (1099511627776 : Nat) ∧ RecD.dn (x (Int.toNat (↑x_1 : Int))) ≤ (1099511627776 : Nat)) ∧ (false = true → tt (tt (tt (tt True))) ∧ (∀ (k : Nat), True) ∧ td (∀ (k : Nat), True))) ∧ tt (td (tu (td (RecD.kn (x (Int.toNat (↑x_1 : Int))) ≤ RecD.kn (x (Int.toNat (↑x_1 : Int))) ∧ td (RecD.dn (x (Int.toNat (↑x_1 : Int))) ≤ RecD.dn (x (Int.toNat (↑x_1 : Int)))))) ∧ tt (td ((x_1 = x_1 ∧ (1 : Nat) ≤ (1 : Nat) ∧ (x_1 + (1 : Nat)) * (64 : Nat) ≤ (140737488355328 : Nat)) ∧ tt (tt (tt (((-9223372036854775808 : Int) ≤ (↑x_1 : Int) + (1 : Int) ∧ (↑x_1 : Int) + (1 : Int) ≤ (9223372036854775807 : Int)) ∧ tt (∃ (x' : Nat), x' ≤ n ∧ (((↑x_1 : Int) + (1 : Int) = (↑x' : Int) ∧ ((0 : Nat) = (0 : Nat) ∧ x_1 + (1 : Nat) = x' ∧ x' ≤ x' ∧ x' ≤ x_1 + (1 : Nat)) ∧ td ((e = true → e = true) ∧ n = n ∧ FEq n (fun (k : Nat) => recSV (x k)) fun (k : Nat) => recSV (x k))) ∧ td (x_1 + (1 : Nat) = x' ∧ FEq x' (comb (fun (k : Nat) => recOwn (x k)) (seqF [SV.agg [SV.v (Value.int IntKind.i64 (RecD.r (x (Int.toNat (↑x_1 : Int))))), SV.own (1 : Nat) (RecD.kn (x (Int.toNat (↑x_1 : Int)))) (bys (RecD.kf (x (Int.toNat (↑x_1 : Int))))), SV.own (1 : Nat) (RecD.dn (x (Int.toNat (↑x_1 : Int)))) (bys (RecD.df (x (Int.toNat (↑x_1 : Int))))), SV.v (Value.bool (RecD.bad (x (Int.toNat (↑x_1 : Int)))))]]) x_1) fun (k : Nat) => recOwn (x k))) ∧ n - x' < n - x_1))))))))))))) else tt (tt (tt True ∧ td ((0 : Nat) = (0 : Nat) ∧ x_1 = n ∧ n ≤ n ∧ n ≤ x_1) ∧ td (x_1 = n ∧ FEq n (fun (k : Nat) => recOwn (x k)) fun (k : Nat) => recOwn (x k)))))))))))) = _ by kernel_rfl) ?_
  simp only [tt_iff, tu_iff, td_iff, FEq_refl, FEq_zero, condP, decide_eq_true_eq, decide_eq_false_iff_not, true_and, and_true, implies_true, and_self, Bool.true_eq_false, Bool.false_eq_true, false_implies, forall_const, Int.toNat_natCast, Nat.zero_add, gt_iff_lt, ge_iff_le, Nat.le_refl, Bool.not_eq_true, Bool.not_eq_false, Int.not_lt, Int.not_le, Nat.not_lt, Nat.not_le]
  have hbig : big = 1048576 := rfl
  refine ⟨0, Nat.zero_le _, ⟨⟨by simp, rfl, id⟩, rfl, fun k hk => by omega⟩, fun k hk => ⟨fun hlt => ?_, fun hge => ?_⟩⟩
  · have hk' : k < n := by omega
    obtain ⟨b1, b2⟩ := hb k hk'
    have b1 : (x k).kn ≤ 1048576 := b1
    have b2 : (x k).dn ≤ 1048576 := b2
    refine ⟨⟨by omega, hlt⟩, ⟨by omega, by omega⟩, by omega, ⟨by omega, by omega⟩, k + 1, by omega, ⟨⟨by omega, ⟨rfl, Nat.le_refl _⟩, id⟩, rfl, FEq_snoc (fun _ _ => rfl) rfl⟩, by omega⟩
  · obtain rfl : k = n := by omega
    exact ⟨⟨rfl, Nat.le_refl _⟩, rfl⟩

theorem mix_snoc (l : RL) (y : RecD) : (fun k => rov (comb (fun k => recOwn (l.f k)) (fun _ => recSV y) l.n k)) = fun k => recSV ((l.snoc y).f k) := by
  funext k
  simp only [comb, RL.snoc]
  cases Nat.blt k l.n <;> rfl

def rFitsCon : Con where
  run xs L := match xs, L with
    | [.ro 4 n f _, y], [] => some (Recs f n ∧ n < big ∧ (∃ b, y = recSV b) ∧ RecB (recOf y), .v (.bool (validL (RL.snoc ⟨n, recsOf f⟩ (recOf y)).f (n + 1))), [])
    | _, _ => none

theorem rFits_ok : rFitsCon.Ok Try.prog 20 := by
  refine Con.ofG (U := Nat) (X := []) (T := [(36, copyCon), (35, ValidCon)]) mixed nmOk ⟨copy_ok, rValid_ok, trivial⟩ trivial Try.func20 rfl 200 (fun f i => match f, i with | 20, 1 => [[], [0], [], [2], [0, 1, 2, 3], [0, 1, 2, 3, 4], [0, 1, 2, 3, 4, 5]] | _, _ => []) (fun _ _ => false) (fun _ _ _ _ _ _ => none) ?_
  intro xs L pre x L' h hp
  unfold rFitsCon at h
  dsimp only at h
  split at h <;> try (simp at h; done)
  rename_i n f e y
  cases h
  refine ⟨Nat.le_of_ble_eq_true rfl, ?_⟩
  obtain ⟨⟨hn, ⟨x, rfl⟩, hb⟩, hnb, ⟨y, rfl⟩, hy⟩ := hp
  refine cast (show (td (tu (tt (tt (tt (tt (((tt True ∧ (n ≤ (1048576 : Nat) ∧ (∃ (x_1 : Nat → RecD), (fun (k : Nat) => recSV (x k)) = fun (k : Nat) => recSV (x_1 k)) ∧ ∀ (k : Nat), k < n → RecD.kn (x k) ≤ (1048576 : Nat) ∧ RecD.dn (x k) ≤ (1048576 : Nat)) ∧ (false = true → tt (td (∀ (k : Nat), tt ((∀ (k : Nat), True) ∧ (∀ (k : Nat), True) ∧ tt True))))) ∧ td ((true = true → True) ∧ SV.agg [SV.v (Value.int IntKind.i64 (RecD.r y)), SV.ro (1 : Nat) (RecD.kn y) (bys (RecD.kf y)) false, SV.ro (1 : Nat) (RecD.dn y) (bys (RecD.df y)) false, SV.v (Value.bool (RecD.bad y))] = SV.agg [SV.v (Value.int IntKind.i64 (RecD.r y)), SV.ro (1 : Nat) (RecD.kn y) (bys (RecD.kf y)) false, SV.ro (1 : Nat) (RecD.dn y) (bys (RecD.df y)) false, SV.v (Value.bool (RecD.bad y))]) ∧ td (tu (tt True) ∧ tt (td ((n = n ∧ (1 : Nat) ≤ (1 : Nat) ∧ (n + (1 : Nat)) * (64 : Nat) ≤ (140737488355328 : Nat)) ∧ tt ((td ((0 : Nat) + (n + (1 : Nat)) ≤ n + (1 : Nat)) ∧ (n + (1 : Nat) ≤ (1048576 : Nat) ∧ (∃ (x_1 : Nat → RecD), (fun (k : Nat) => rov (comb (fun (k : Nat) => recOwn (x k)) (seqF [SV.agg [SV.v (Value.int IntKind.i64 (RecD.r y)), SV.ro (1 : Nat) (RecD.kn y) (bys (RecD.kf y)) false, SV.ro (1 : Nat) (RecD.dn y) (bys (RecD.df y)) false, SV.v (Value.bool (RecD.bad y))]]) n ((0 : Nat) + k))) = fun (k : Nat) => recSV (x_1 k)) ∧ ∀ (k : Nat), k < n + (1 : Nat) → RecD.kn (recsOf (fun (k : Nat) => rov (comb (fun (k : Nat) => recOwn (x k)) (seqF [SV.agg [SV.v (Value.int IntKind.i64 (RecD.r y)), SV.ro (1 : Nat) (RecD.kn y) (bys (RecD.kf y)) false, SV.ro (1 : Nat) (RecD.dn y) (bys (RecD.df y)) false, SV.v (Value.bool (RecD.bad y))]]) n ((0 : Nat) + k))) k) ≤ (1048576 : Nat) ∧ RecD.dn (recsOf (fun (k : Nat) => rov (comb (fun (k : Nat) => recOwn (x k)) (seqF [SV.agg [SV.v (Value.int IntKind.i64 (RecD.r y)), SV.ro (1 : Nat) (RecD.kn y) (bys (RecD.kf y)) false, SV.ro (1 : Nat) (RecD.dn y) (bys (RecD.df y)) false, SV.v (Value.bool (RecD.bad y))]]) n ((0 : Nat) + k))) k) ≤ (1048576 : Nat)) ∧ (true = true → True)) ∧ tt (tt True ∧ td (td (validL (recsOf fun (k : Nat) => rov (comb (fun (k : Nat) => recOwn (x k)) (seqF [SV.agg [SV.v (Value.int IntKind.i64 (RecD.r y)), SV.ro (1 : Nat) (RecD.kn y) (bys (RecD.kf y)) false, SV.ro (1 : Nat) (RecD.dn y) (bys (RecD.df y)) false, SV.v (Value.bool (RecD.bad y))]]) n ((0 : Nat) + k))) (n + (1 : Nat)) = validL (fun (k : Nat) => bif Nat.blt k n then x k else y) (n + (1 : Nat)))))))))) ∧ td (tu (tt True) ∧ td ((true = true → True) ∧ SV.ro (4 : Nat) n (fun (k : Nat) => recSV (x k)) e = SV.ro (4 : Nat) n (fun (k : Nat) => recSV (x k)) e) ∧ td ((tt True ∧ (n ≤ (1048576 : Nat) ∧ (∃ (x_1 : Nat → RecD), (fun (k : Nat) => recSV (x k)) = fun (k : Nat) => recSV (x_1 k)) ∧ ∀ (k : Nat), k < n → RecD.kn (x k) ≤ (1048576 : Nat) ∧ RecD.dn (x k) ≤ (1048576 : Nat)) ∧ (false = true → tt (td (∀ (k : Nat), tt ((∀ (k : Nat), True) ∧ (∀ (k : Nat), True) ∧ tt True))))) ∧ tt (td ((n = n ∧ (1 : Nat) ≤ (1 : Nat) ∧ (n + (1 : Nat)) * (64 : Nat) ≤ (140737488355328 : Nat)) ∧ tt ((td ((0 : Nat) + (n + (1 : Nat)) ≤ n + (1 : Nat)) ∧ (n + (1 : Nat) ≤ (1048576 : Nat) ∧ (∃ (x_1 : Nat → RecD), (fun (k : Nat) => rov (comb (fun (k : Nat) => recOwn (x k)) (seqF [SV.agg [SV.v (Value.int IntKind.i64 (RecD.r y)), SV.ro (1 : Nat) (RecD.kn y) (bys (RecD.kf y)) false, SV.ro (1 : Nat) (RecD.dn y) (bys (RecD.df y)) false, SV.v (Value.bool (RecD.bad y))]]) n ((0 : Nat) + k))) = fun (k : Nat) => recSV (x_1 k)) ∧ ∀ (k : Nat), k < n + (1 : Nat) → RecD.kn (recsOf (fun (k : Nat) => rov (comb (fun (k : Nat) => recOwn (x k)) (seqF [SV.agg [SV.v (Value.int IntKind.i64 (RecD.r y)), SV.ro (1 : Nat) (RecD.kn y) (bys (RecD.kf y)) false, SV.ro (1 : Nat) (RecD.dn y) (bys (RecD.df y)) false, SV.v (Value.bool (RecD.bad y))]]) n ((0 : Nat) + k))) k) ≤ (1048576 : Nat) ∧ RecD.dn (recsOf (fun (k : Nat) => rov (comb (fun (k : Nat) => recOwn (x k)) (seqF [SV.agg [SV.v (Value.int IntKind.i64 (RecD.r y)), SV.ro (1 : Nat) (RecD.kn y) (bys (RecD.kf y)) false, SV.ro (1 : Nat) (RecD.dn y) (bys (RecD.df y)) false, SV.v (Value.bool (RecD.bad y))]]) n ((0 : Nat) + k))) k) ≤ (1048576 : Nat)) ∧ (true = true → True)) ∧ tt (tt True ∧ td (td (validL (recsOf fun (k : Nat) => rov (comb (fun (k : Nat) => recOwn (x k)) (seqF [SV.agg [SV.v (Value.int IntKind.i64 (RecD.r y)), SV.ro (1 : Nat) (RecD.kn y) (bys (RecD.kf y)) false, SV.ro (1 : Nat) (RecD.dn y) (bys (RecD.df y)) false, SV.v (Value.bool (RecD.bad y))]]) n ((0 : Nat) + k))) (n + (1 : Nat)) = validL (fun (k : Nat) => bif Nat.blt k n then x k else y) (n + (1 : Nat))))))))))))))))) = _ by kernel_rfl) ?_
  simp only [tt_iff, tu_iff, td_iff, FEq_refl, FEq_zero, condP, decide_eq_true_eq, decide_eq_false_iff_not, true_and, and_true, implies_true, and_self, Bool.true_eq_false, Bool.false_eq_true, false_implies, forall_const, Int.toNat_natCast, Nat.zero_add, gt_iff_lt, ge_iff_le, Nat.le_refl, Bool.not_eq_true, Bool.not_eq_false, Int.not_lt, Int.not_le, Nat.not_lt, Nat.not_le]
  have hbig : big = 1048576 := rfl
  have hrov := mix_snoc ⟨n, x⟩ y
  have hbb := snoc_b (l := ⟨n, x⟩) (y := y) hb hy
  refine ⟨⟨hn, ⟨x, rfl⟩, hb⟩, by omega, ⟨by omega, ⟨_, hrov⟩, ?_⟩, ?_⟩
  · show ∀ j, j < n + 1 → RecB (recsOf (fun j => rov (comb (fun q => recOwn (x q)) (fun _ => recSV y) n j)) j)
    have hrov' : (fun j => rov (comb (fun q => recOwn (x q)) (fun _ => recSV y) n j)) = _ := hrov
    rw [hrov']; exact hbb
  · exact congrArg (fun z => validL (recsOf z) (n + 1)) hrov
end Go.Tk

/- Rows 1 and 2: tracks made of lists. -/
set_option linter.unusedVariables false
set_option linter.unusedSimpArgs false
namespace Go.Tk
open Go.Sym Go.Proofs

def stepR (last : Int) (x : RecD) : RecD := ⟨last + 1 + Int.tmod (fitV .u64 x.r) 8, cutN x.kn 255, x.kf, cutN x.dn 2016, x.df, x.bad⟩

structure TrS where
  l : RL
  last : Int

def trackS (x : Nat → RecD) : Nat → TrS
  | 0 => ⟨nilRL, 0⟩
  | k + 1 => cond (validL ((trackS x k).l.snoc (stepR (trackS x k).last (x k))).f ((trackS x k).l.n + 1))
      ⟨(trackS x k).l.snoc (stepR (trackS x k).last (x k)), (stepR (trackS x k).last (x k)).r⟩ (trackS x k)

def min40 (n : Nat) : Nat := cond (Nat.blt n 40) n 40

theorem tmod8 (r : Int) : 0 ≤ Int.tmod (fitV .u64 r) 8 ∧ Int.tmod (fitV .u64 r) 8 < 8 := by
  have h : 0 ≤ fitV .u64 r := by
    show 0 ≤ r % 18446744073709551616
    omega
  generalize fitV .u64 r = m at h
  rw [Int.tmod_eq_emod_of_nonneg h]
  omega

theorem valid_last {l : RL} {y : RecD} (h : validL (l.snoc y).f (l.n + 1) = true) : 1 ≤ y.r ∧ y.r ≤ 255 := by
  simp only [validL, okUp, Bool.and_eq_true] at h
  have h2 := h.1.2.1
  have e : (l.snoc y).f l.n = y := by
    have : Nat.blt l.n l.n = false := by rw [Bool.eq_false_iff]; intro h; rw [Nat.blt_eq] at h; omega
    simp only [RL.snoc, this, cond_false]
  rw [e] at h2
  unfold validI at h2
  by_cases h3 : y.r ≥ 1
  · by_cases h4 : y.r ≤ 255
    · exact ⟨h3, h4⟩
    · simp [h4] at h2
  · simp [h3] at h2

theorem trackS_ok (x : Nat → RecD) : ∀ k, (trackS x k).l.n ≤ k ∧ 0 ≤ (trackS x k).last ∧ (trackS x k).last ≤ 255 ∧ ∀ j, j < (trackS x k).l.n → RecB ((trackS x k).l.f j)
  | 0 => ⟨Nat.le_refl _, by simp [trackS], by simp [trackS], fun j hj => by simp [trackS, nilRL] at hj⟩
  | k + 1 => by
    obtain ⟨h1, h2, h3, h4⟩ := trackS_ok x k
    simp only [trackS]
    cases hv : validL ((trackS x k).l.snoc (stepR (trackS x k).last (x k))).f ((trackS x k).l.n + 1) with
    | false => exact ⟨by simp only [cond_false]; omega, h2, h3, h4⟩
    | true =>
      obtain ⟨h5, h6⟩ := valid_last hv
      simp only [cond_true]
      refine ⟨Nat.succ_le_succ h1, by omega, h6, snoc_b h4 ⟨?_, ?_⟩⟩
      · show cutN (x k).kn 255 ≤ 1048576
        unfold cutN
        cases hd : decide (((x k).kn : Int) > 255) <;> simp only [cond_true, cond_false]
        · have := of_decide_eq_false hd; omega
        · decide
      · show cutN (x k).dn 2016 ≤ 1048576
        unfold cutN
        cases hd : decide (((x k).dn : Int) > 2016) <;> simp only [cond_true, cond_false]
        · have := of_decide_eq_false hd; omega
        · decide

def TrackCon : Con where
  pure := false
  run xs L := match xs, L with
    | [.ro 4 n f _], [] => some (n ≤ lim ∧ ∃ x : Nat → RecD, f = fun k => recSV (x k), rlSl 0 (trackS (recsOf f) (min40 n)).l, [(0, rlEnt (trackS (recsOf f) (min40 n)).l)])
    | _, _ => none

def TrackInv (xs : List SV) (L : Ents) (f b : Nat) (h : List Nat) (st : St) : Option (LoopSpec Nat) :=
  match xs with
  | [.ro _ n g _] => some { I := fun k => st.mk' [0] [(5, .v (.int .i64 k)), (3, rlSl st.nx (trackS (recsOf g) k).l), (4, .v (.int .i64 (trackS (recsOf g) k).last))] [(st.nx, rlEnt (trackS (recsOf g) k).l)], ok := fun k => k ≤ n ∧ k ≤ 40, μ := fun k => n - k }
  | _ => none

set_option maxHeartbeats 4000000 in
theorem Track_ok : TrackCon.Ok Try.prog 6 := by
  refine Con.ofG (U := Nat) (X := []) (T := [(7, cutCon), (20, rFitsCon), (21, cloneCon)]) mixed nmOk ⟨cut_ok, rFits_ok, one_ok, trivial⟩ trivial Try.func6 rfl 200 (fun f i => match f, i with | 6, 8 => [[], [0], [0, 1], [], [3], [0, 1, 2, 3, 4], [0, 1, 2, 3, 4], [0, 1, 2, 3, 4, 5, 6], [0, 1, 2, 3, 4, 5, 6, 7], [0, 1, 2, 3, 4, 5, 6, 7, 8]] | _, _ => []) (fun _ _ => false) TrackInv ?_
  intro xs L pre x L' h hp
  unfold TrackCon at h
  dsimp only at h
  split at h <;> try (simp at h; done)
  rename_i n f e
  cases h
  refine ⟨Nat.le_of_ble_eq_true rfl, ?_⟩
  obtain ⟨hn, ⟨x, rfl⟩⟩ := hp
  refine cast (show (tt (tt (tt (tt (∃ (x0 : Nat), (x0 ≤ n ∧ x0 ≤ (40 : Nat)) ∧ (((0 : Int) = (↑x0 : Int) ∧ ((0 : Nat) = (0 : Nat) ∧ RL.n (TrS.l (trackS x x0)) = (0 : Nat) ∧ RL.n (TrS.l (trackS x x0)) = (0 : Nat)) ∧ (0 : Int) = TrS.last (trackS x x0) ∧ td ((e = true → e = true) ∧ n = n ∧ FEq n (fun (k : Nat) => recSV (x k)) fun (k : Nat) => recSV (x k))) ∧ td ((0 : Nat) = RL.n (TrS.l (trackS x x0)) ∧ FEq (RL.n (TrS.l (trackS x x0))) (fun (x : Nat) => SV.any) fun (k : Nat) => recOwn (RL.f (TrS.l (trackS x x0)) k))) ∧ ∀ (x_1 : Nat), x_1 ≤ n ∧ x_1 ≤ (40 : Nat) → tt (tt (tt (tt (tt ((decide ((↑x_1 : Int) < (↑n : Int)) = true → True) ∧ (decide ((↑x_1 : Int) < (↑n : Int)) = true → True) ∧ tt (bif bif decide ((↑x_1 : Int) < (↑n : Int)) then decide ((↑x_1 : Int) < (40 : Int)) else false then tt (tt (((0 : Int) ≤ (↑x_1 : Int) ∧ (↑x_1 : Int) < (↑n : Int)) ∧ tu (td (tu (tt (td (tu (tt (tt (((-9223372036854775808 : Int) ≤ TrS.last (trackS x x_1) + (1 : Int) ∧ TrS.last (trackS x x_1) + (1 : Int) ≤ (9223372036854775807 : Int)) ∧ tt (tt (tt (((8 : Int) = (0 : Int) → False) ∧ ((-9223372036854775808 : Int) ≤ Int.tmod (fitV IntKind.u64 (RecD.r (x (Int.toNat (↑x_1 : Int))))) (8 : Int) ∧ Int.tmod (fitV IntKind.u64 (RecD.r (x (Int.toNat (↑x_1 : Int))))) (8 : Int) ≤ (9223372036854775807 : Int)) ∧ ((-9223372036854775808 : Int) ≤ TrS.last (trackS x x_1) + (1 : Int) + Int.tmod (fitV IntKind.u64 (RecD.r (x (Int.toNat (↑x_1 : Int))))) (8 : Int) ∧ TrS.last (trackS x x_1) + (1 : Int) + Int.tmod (fitV IntKind.u64 (RecD.r (x (Int.toNat (↑x_1 : Int))))) (8 : Int) ≤ (9223372036854775807 : Int)) ∧ tt (td (tu (tt (tt (tt ((tt (tt True) ∧ (0 : Int) ≤ (255 : Int) ∧ (false = true → False)) ∧ tt (tt ((tt (tt True) ∧ (0 : Int) ≤ (2016 : Int) ∧ (false = true → False)) ∧ tt (td (tu (tt (tt (td (tu (tt (tt (tt ((((0 : Nat) + RL.n (TrS.l (trackS x x_1)) ≤ RL.n (TrS.l (trackS x x_1)) ∧ td (tt (tt (tt (tt True))))) ∧ ((RL.n (TrS.l (trackS x x_1)) ≤ (1048576 : Nat) ∧ (∃ (x_2 : Nat → RecD), (fun (k : Nat) => SV.agg [SV.v (Value.int IntKind.i64 (RecD.r (RL.f (TrS.l (trackS x x_1)) ((0 : Nat) + k)))), SV.ro (1 : Nat) (RecD.kn (RL.f (TrS.l (trackS x x_1)) ((0 : Nat) + k))) (fun (k_1 : Nat) => SV.v (Value.int IntKind.u8 (RecD.kf (RL.f (TrS.l (trackS x x_1)) ((0 : Nat) + k)) k_1))) false, SV.ro (1 : Nat) (RecD.dn (RL.f (TrS.l (trackS x x_1)) ((0 : Nat) + k))) (fun (k_1 : Nat) => SV.v (Value.int IntKind.u8 (RecD.df (RL.f (TrS.l (trackS x x_1)) ((0 : Nat) + k)) k_1))) false, SV.v (Value.bool (RecD.bad (RL.f (TrS.l (trackS x x_1)) ((0 : Nat) + k))))]) = fun (k : Nat) => recSV (x_2 k)) ∧ ∀ (k : Nat), k < RL.n (TrS.l (trackS x x_1)) → RecD.kn (RL.f (TrS.l (trackS x x_1)) ((0 : Nat) + k)) ≤ (1048576 : Nat) ∧ RecD.dn (RL.f (TrS.l (trackS x x_1)) ((0 : Nat) + k)) ≤ (1048576 : Nat)) ∧ RL.n (TrS.l (trackS x x_1)) < (1048576 : Nat) ∧ (∃ (b : RecD), SV.agg [SV.v (Value.int IntKind.i64 (TrS.last (trackS x x_1) + (1 : Int) + Int.tmod (fitV IntKind.u64 (RecD.r (x (Int.toNat (↑x_1 : Int))))) (8 : Int))), SV.ro (1 : Nat) (cutN (RecD.kn (x (Int.toNat (↑x_1 : Int)))) (255 : Int)) (bys (RecD.kf (x (Int.toNat (↑x_1 : Int))))) false, SV.ro (1 : Nat) (cutN (RecD.dn (x (Int.toNat (↑x_1 : Int)))) (2016 : Int)) (bys (RecD.df (x (Int.toNat (↑x_1 : Int))))) false, SV.v (Value.bool (RecD.bad (x (Int.toNat (↑x_1 : Int)))))] = SV.agg [SV.v (Value.int IntKind.i64 (RecD.r b)), SV.ro (1 : Nat) (RecD.kn b) (bys (RecD.kf b)) false, SV.ro (1 : Nat) (RecD.dn b) (bys (RecD.df b)) false, SV.v (Value.bool (RecD.bad b))]) ∧ (bif decide ((↑(RecD.kn (x (Int.toNat (↑x_1 : Int)))) : Int) > (255 : Int)) then (255 : Nat) else RecD.kn (x (Int.toNat (↑x_1 : Int)))) ≤ (1048576 : Nat) ∧ (bif decide ((↑(RecD.dn (x (Int.toNat (↑x_1 : Int)))) : Int) > (2016 : Int)) then (2016 : Nat) else RecD.dn (x (Int.toNat (↑x_1 : Int)))) ≤ (1048576 : Nat)) ∧ (true = true → True)) ∧ bif validL (fun (k : Nat) => bif Nat.blt k (RL.n (TrS.l (trackS x x_1))) then RL.f (TrS.l (trackS x x_1)) ((0 : Nat) + k) else { r := TrS.last (trackS x x_1) + (1 : Int) + Int.tmod (fitV IntKind.u64 (RecD.r (x (Int.toNat (↑x_1 : Int))))) (8 : Int), kn := cutN (RecD.kn (x (Int.toNat (↑x_1 : Int)))) (255 : Int), kf := fun (j : Nat) => byteOf (SV.v (Value.int IntKind.u8 (RecD.kf (x (Int.toNat (↑x_1 : Int))) j))), dn := cutN (RecD.dn (x (Int.toNat (↑x_1 : Int)))) (2016 : Int), df := fun (j : Nat) => byteOf (SV.v (Value.int IntKind.u8 (RecD.df (x (Int.toNat (↑x_1 : Int))) j))), bad := RecD.bad (x (Int.toNat (↑x_1 : Int))) }) (RL.n (TrS.l (trackS x x_1)) + (1 : Nat)) then tt (tt (td ((td (tt (tt (tt (tt True)))) ∧ (cutN (RecD.kn (x (Int.toNat (↑x_1 : Int)))) (255 : Int) ≤ (1099511627776 : Nat) ∧ cutN (RecD.dn (x (Int.toNat (↑x_1 : Int)))) (2016 : Int) ≤ (1099511627776 : Nat)) ∧ (false = true → tt (tt (tt (tt True))) ∧ (∀ (k : Nat), True) ∧ td (∀ (k : Nat), True))) ∧ tt (td (tu (td (cutN (RecD.kn (x (Int.toNat (↑x_1 : Int)))) (255 : Int) ≤ cutN (RecD.kn (x (Int.toNat (↑x_1 : Int)))) (255 : Int) ∧ td (cutN (RecD.dn (x (Int.toNat (↑x_1 : Int)))) (2016 : Int) ≤ cutN (RecD.dn (x (Int.toNat (↑x_1 : Int)))) (2016 : Int)))) ∧ tt (td ((RL.n (TrS.l (trackS x x_1)) = RL.n (TrS.l (trackS x x_1)) ∧ (1 : Nat) ≤ (1 : Nat) ∧ (RL.n (TrS.l (trackS x x_1)) + (1 : Nat)) * (64 : Nat) ≤ (140737488355328 : Nat)) ∧ tt (tt (tt (tt (tt (tt (((-9223372036854775808 : Int) ≤ (↑x_1 : Int) + (1 : Int) ∧ (↑x_1 : Int) + (1 : Int) ≤ (9223372036854775807 : Int)) ∧ tt (∃ (x' : Nat), (x' ≤ n ∧ x' ≤ (40 : Nat)) ∧ (((↑x_1 : Int) + (1 : Int) = (↑x' : Int) ∧ ((0 : Nat) = (0 : Nat) ∧ RL.n (TrS.l (trackS x x_1)) + (1 : Nat) = RL.n (TrS.l (trackS x x')) ∧ RL.n (TrS.l (trackS x x')) ≤ RL.n (TrS.l (trackS x x')) ∧ RL.n (TrS.l (trackS x x')) ≤ RL.n (TrS.l (trackS x x_1)) + (1 : Nat)) ∧ TrS.last (trackS x x_1) + (1 : Int) + Int.tmod (fitV IntKind.u64 (RecD.r (x (Int.toNat (↑x_1 : Int))))) (8 : Int) = TrS.last (trackS x x') ∧ td ((e = true → e = true) ∧ n = n ∧ FEq n (fun (k : Nat) => recSV (x k)) fun (k : Nat) => recSV (x k))) ∧ td (RL.n (TrS.l (trackS x x_1)) + (1 : Nat) = RL.n (TrS.l (trackS x x')) ∧ FEq (RL.n (TrS.l (trackS x x'))) (comb (fun (k : Nat) => recOwn (RL.f (TrS.l (trackS x x_1)) k)) (seqF [SV.agg [SV.v (Value.int IntKind.i64 (TrS.last (trackS x x_1) + (1 : Int) + Int.tmod (fitV IntKind.u64 (RecD.r (x (Int.toNat (↑x_1 : Int))))) (8 : Int))), SV.own (1 : Nat) (cutN (RecD.kn (x (Int.toNat (↑x_1 : Int)))) (255 : Int)) (bys (RecD.kf (x (Int.toNat (↑x_1 : Int))))), SV.own (1 : Nat) (cutN (RecD.dn (x (Int.toNat (↑x_1 : Int)))) (2016 : Int)) (bys (RecD.df (x (Int.toNat (↑x_1 : Int))))), SV.v (Value.bool (RecD.bad (x (Int.toNat (↑x_1 : Int)))))]]) (RL.n (TrS.l (trackS x x_1)))) fun (k : Nat) => recOwn (RL.f (TrS.l (trackS x x')) k))) ∧ n - x' < n - x_1)))))))))))))) else tt (((-9223372036854775808 : Int) ≤ (↑x_1 : Int) + (1 : Int) ∧ (↑x_1 : Int) + (1 : Int) ≤ (9223372036854775807 : Int)) ∧ tt (∃ (x' : Nat), (x' ≤ n ∧ x' ≤ (40 : Nat)) ∧ (((↑x_1 : Int) + (1 : Int) = (↑x' : Int) ∧ ((0 : Nat) = (0 : Nat) ∧ RL.n (TrS.l (trackS x x_1)) = RL.n (TrS.l (trackS x x')) ∧ RL.n (TrS.l (trackS x x')) ≤ RL.n (TrS.l (trackS x x')) ∧ RL.n (TrS.l (trackS x x')) ≤ RL.n (TrS.l (trackS x x_1))) ∧ TrS.last (trackS x x_1) = TrS.last (trackS x x') ∧ td ((e = true → e = true) ∧ n = n ∧ FEq n (fun (k : Nat) => recSV (x k)) fun (k : Nat) => recSV (x k))) ∧ td (RL.n (TrS.l (trackS x x_1)) = RL.n (TrS.l (trackS x x')) ∧ FEq (RL.n (TrS.l (trackS x x'))) (fun (k : Nat) => recOwn (RL.f (TrS.l (trackS x x_1)) k)) fun (k : Nat) => recOwn (RL.f (TrS.l (trackS x x')) k))) ∧ n - x' < n - x_1))))))))))))))))))))))))))))))))) else tt (tt (tt True ∧ td ((0 : Nat) = (0 : Nat) ∧ RL.n (TrS.l (trackS x x_1)) = RL.n (TrS.l (trackS x (min40 n))) ∧ RL.n (TrS.l (trackS x (min40 n))) ≤ RL.n (TrS.l (trackS x (min40 n))) ∧ RL.n (TrS.l (trackS x (min40 n))) ≤ RL.n (TrS.l (trackS x x_1))) ∧ td (RL.n (TrS.l (trackS x x_1)) = RL.n (TrS.l (trackS x (min40 n))) ∧ FEq (RL.n (TrS.l (trackS x (min40 n)))) (fun (k : Nat) => recOwn (RL.f (TrS.l (trackS x x_1)) k)) fun (k : Nat) => recOwn (RL.f (TrS.l (trackS x (min40 n))) k))))))))))))))) = _ by kernel_rfl) ?_
  simp only [tt_iff, tu_iff, td_iff, FEq_refl, FEq_zero, condP, decide_eq_true_eq, decide_eq_false_iff_not, true_and, and_true, implies_true, and_self, Bool.true_eq_false, Bool.false_eq_true, false_implies, forall_const, Int.toNat_natCast, Nat.zero_add, gt_iff_lt, ge_iff_le, Nat.le_refl, Bool.not_eq_true, Bool.not_eq_false, Int.not_lt, Int.not_le, Nat.not_lt, Nat.not_le]
  have hl : lim = 1099511627776 := rfl
  refine ⟨0, ⟨Nat.zero_le _, Nat.zero_le _⟩, ⟨⟨rfl, rfl, rfl, id⟩, rfl, fun k hk => by simp [trackS, nilRL] at hk⟩, fun k ⟨hk, hk4⟩ => ⟨fun hlt => ?_, fun hge => ?_⟩⟩
  · obtain ⟨h1, h2, h3, h4⟩ := trackS_ok x k
    have ht := tmod8 (x k).r
    have hkn : k < n ∧ k < 40 := by
      by_cases a : (k : Int) < n
      · simp only [a, decide_true, cond_true, decide_eq_true_eq] at hlt; omega
      · simp [a] at hlt
    have hc1 : cutN (x k).kn 255 ≤ 1048576 := by
      unfold cutN
      cases hd : decide (((x k).kn : Int) > 255) <;> simp only [cond_true, cond_false]
      · have := of_decide_eq_false hd; omega
      · decide
    have hc2 : cutN (x k).dn 2016 ≤ 1048576 := by
      unfold cutN
      cases hd : decide (((x k).dn : Int) > 2016) <;> simp only [cond_true, cond_false]
      · have := of_decide_eq_false hd; omega
      · decide
    refine ⟨⟨by omega, by omega⟩, ⟨by omega, by omega⟩, by decide, ⟨by omega, by omega⟩, ⟨by omega, by omega⟩, by decide, by decide, ⟨⟨by omega, ⟨_, rfl⟩, h4⟩, by omega, ⟨stepR (trackS x k).last (x k), rfl⟩, hc1, hc2⟩, fun hv => ?_, fun hv => ?_⟩
    · have hv' : validL ((trackS x k).l.snoc (stepR (trackS x k).last (x k))).f ((trackS x k).l.n + 1) = true := hv
      have e : trackS x (k + 1) = ⟨(trackS x k).l.snoc (stepR (trackS x k).last (x k)), (stepR (trackS x k).last (x k)).r⟩ := by
        simp only [trackS, hv', cond_true]
      refine ⟨⟨by omega, by omega⟩, by omega, ⟨by omega, by omega⟩, k + 1, ⟨by omega, by omega⟩, ?_, by omega⟩
      rw [e]
      refine ⟨⟨by omega, ⟨rfl, Nat.le_refl _⟩, rfl, id⟩, rfl, ?_⟩
      show FEq _ _ (fun j => recOwn (((trackS x k).l.snoc (stepR (trackS x k).last (x k))).f j))
      rw [← own_snoc]
      exact fun _ _ => rfl
    · have hv' : validL ((trackS x k).l.snoc (stepR (trackS x k).last (x k))).f ((trackS x k).l.n + 1) = false := hv
      have e : trackS x (k + 1) = trackS x k := by
        simp only [trackS, hv', cond_false]
      refine ⟨⟨by omega, by omega⟩, k + 1, ⟨by omega, by omega⟩, ?_, by omega⟩
      rw [e]
      exact ⟨⟨by omega, ⟨rfl, Nat.le_refl _⟩, rfl, id⟩, rfl, fun _ _ => rfl⟩
  · have hkn : k = min40 n := by
      unfold min40
      by_cases a : (k : Int) < n
      · simp only [a, decide_true, cond_true, decide_eq_false_iff_not] at hge
        have : Nat.blt n 40 = false := by rw [Bool.eq_false_iff]; intro h; rw [Nat.blt_eq] at h; omega
        rw [this]
        show k = 40
        omega
      · by_cases b : n < 40
        · have : Nat.blt n 40 = true := by rw [Nat.blt_eq]; exact b
          rw [this]
          show k = n
          omega
        · have : Nat.blt n 40 = false := by rw [Bool.eq_false_iff]; intro h; rw [Nat.blt_eq] at h; omega
          rw [this]
          show k = 40
          omega
    rw [← hkn]
    exact ⟨⟨rfl, Nat.le_refl _⟩, rfl, fun _ _ => rfl⟩
end Go.Tk

/- Rows 1 and 2: the examples. -/
set_option linter.unusedVariables false
set_option linter.unusedSimpArgs false
namespace Go.Tk
open Go.Sym Go.Proofs

def srI (x : Nat → RecD) (n : Nat) (a : Int) (s : ByteArray) (hi : Bool) : Int := cond ((s.size : Int) == 0) 0 (imax (searchI (keyP hi s.size (bys (strF s))) x n a) 0)
def srB (x : Nat → RecD) (n : Nat) (a : Int) (s : ByteArray) (hi : Bool) : Bool := cond ((s.size : Int) == 0) false (decide (0 ≤ searchI (keyP hi s.size (bys (strF s))) x n a))
def atI (x : Nat → RecD) (n : Nat) (a : Int) (s : ByteArray) (hi : Bool) (w : Int) : Bool :=
  cond (decide (w < 0)) (cond (!srB x n a s hi) (srI x n a s hi == 0) false) (cond (srB x n a s hi) (srI x n a s hi == w) false)

def latCon : Con where
  run xs L := match xs, L with
    | [.ro 4 n f _, .v (.int .i64 a), .v (.string s), .v (.bool hi), .v (.int .i64 w)], [] => some (Recs f n ∧ s.size ≤ lim, .v (.bool (atI (recsOf f) n a s hi w)), [])
    | _, _ => none

theorem lat_ok : latCon.Ok Try.prog 17 := by
  refine Con.ofG (U := Nat) (X := []) (T := [(34, SearchCon)]) mixed nmOk ⟨Search_ok, trivial⟩ trivial Try.func17 rfl 200 (fun _ _ => []) (fun _ _ => false) (fun _ _ _ _ _ _ => none) ?_
  intro xs L pre x L' h hp
  unfold latCon at h
  dsimp only at h
  split at h <;> try (simp at h; done)
  rename_i n f e a s hi w
  cases h
  refine ⟨Nat.le_of_ble_eq_true rfl, ?_⟩
  obtain ⟨⟨hn, ⟨x, rfl⟩, hb⟩, hs⟩ := hp
  refine cast (show (tt (tt (tt (tt (td (tt (tt (tt ((tt (tt ((0 : Nat) + ByteArray.size s ≤ ByteArray.size s ∧ tt True)) ∧ ((n ≤ (1048576 : Nat) ∧ (∃ (x_1 : Nat → RecD), (fun (k : Nat) => recSV (x k)) = fun (k : Nat) => recSV (x_1 k)) ∧ ∀ (k : Nat), k < n → RecD.kn (x k) ≤ (1048576 : Nat) ∧ RecD.dn (x k) ≤ (1048576 : Nat)) ∧ ByteArray.size s ≤ (1099511627776 : Nat) ∧ ∃ (b : Nat → Int), (fun (k : Nat) => SV.v (Value.int IntKind.u8 (strAt s ((0 : Nat) + k)))) = bys b) ∧ (true = true → tt (tt True))) ∧ tt (tt (tt (tt (tt (tt (tt (bif decide (w < (0 : Int)) then tt (tt (tt (((!bif (↑(ByteArray.size s) : Int) == (0 : Int) then false else decide ((0 : Int) ≤ searchI (keyP hi (ByteArray.size s) fun (k : Nat) => rov ((fun (k : Nat) => SV.v (Value.int IntKind.u8 (strAt s k))) ((0 : Nat) + k))) (recsOf fun (k : Nat) => recSV (x k)) n a)) = true → True) ∧ ((!bif (↑(ByteArray.size s) : Int) == (0 : Int) then false else decide ((0 : Int) ≤ searchI (keyP hi (ByteArray.size s) fun (k : Nat) => rov ((fun (k : Nat) => SV.v (Value.int IntKind.u8 (strAt s k))) ((0 : Nat) + k))) (recsOf fun (k : Nat) => recSV (x k)) n a)) = true → True) ∧ tt (tt (tt True ∧ td (td ((bif !bif (↑(ByteArray.size s) : Int) == (0 : Int) then false else decide ((0 : Int) ≤ searchI (keyP hi (ByteArray.size s) fun (k : Nat) => rov ((fun (k : Nat) => SV.v (Value.int IntKind.u8 (strAt s k))) ((0 : Nat) + k))) (recsOf fun (k : Nat) => recSV (x k)) n a) then (bif (↑(ByteArray.size s) : Int) == (0 : Int) then (0 : Int) else imax (searchI (keyP hi (ByteArray.size s) fun (k : Nat) => SV.v (Value.int IntKind.u8 (strAt s ((0 : Nat) + k)))) x n a) (0 : Int)) == (0 : Int) else false) = atI x n a s hi w))))))) else tt (tt (((bif (↑(ByteArray.size s) : Int) == (0 : Int) then false else decide ((0 : Int) ≤ searchI (keyP hi (ByteArray.size s) fun (k : Nat) => rov ((fun (k : Nat) => SV.v (Value.int IntKind.u8 (strAt s k))) ((0 : Nat) + k))) (recsOf fun (k : Nat) => recSV (x k)) n a)) = true → True) ∧ ((bif (↑(ByteArray.size s) : Int) == (0 : Int) then false else decide ((0 : Int) ≤ searchI (keyP hi (ByteArray.size s) fun (k : Nat) => rov ((fun (k : Nat) => SV.v (Value.int IntKind.u8 (strAt s k))) ((0 : Nat) + k))) (recsOf fun (k : Nat) => recSV (x k)) n a)) = true → True) ∧ ((bif (↑(ByteArray.size s) : Int) == (0 : Int) then false else decide ((0 : Int) ≤ searchI (keyP hi (ByteArray.size s) fun (k : Nat) => rov ((fun (k : Nat) => SV.v (Value.int IntKind.u8 (strAt s k))) ((0 : Nat) + k))) (recsOf fun (k : Nat) => recSV (x k)) n a)) = true → True) ∧ tt (tt (tt True ∧ td (td ((bif bif (↑(ByteArray.size s) : Int) == (0 : Int) then false else decide ((0 : Int) ≤ searchI (keyP hi (ByteArray.size s) fun (k : Nat) => rov ((fun (k : Nat) => SV.v (Value.int IntKind.u8 (strAt s k))) ((0 : Nat) + k))) (recsOf fun (k : Nat) => recSV (x k)) n a) then (bif (↑(ByteArray.size s) : Int) == (0 : Int) then (0 : Int) else imax (searchI (keyP hi (ByteArray.size s) fun (k : Nat) => SV.v (Value.int IntKind.u8 (strAt s ((0 : Nat) + k)))) x n a) (0 : Int)) == w else false) = atI x n a s hi w)))))))))))))))))))))) = _ by kernel_rfl) ?_
  simp only [tt_iff, tu_iff, td_iff, FEq_refl, FEq_zero, condP, decide_eq_true_eq, decide_eq_false_iff_not, true_and, and_true, implies_true, and_self, Bool.true_eq_false, Bool.false_eq_true, false_implies, forall_const, Int.toNat_natCast, Nat.zero_add, gt_iff_lt, ge_iff_le, Nat.le_refl, Bool.not_eq_true, Bool.not_eq_false, Int.not_lt, Int.not_le, Nat.not_lt, Nat.not_le]
  have hl : lim = 1099511627776 := rfl
  refine ⟨⟨⟨hn, ⟨x, rfl⟩, hb⟩, hs, _, rfl⟩, fun h => ?_, fun h => ?_⟩
  · have h' : decide (w < 0) = true := decide_eq_true h
    unfold atI
    rw [h']
    rfl
  · have h' : decide (w < 0) = false := decide_eq_false (by omega)
    unfold atI
    rw [h']
    rfl

/-- A record of zeros. -/
def zerCon : Con where
  pure := false
  run xs L := match xs, L with
    | [.v (.int .i64 n), .v (.string s)], [] => some (s.size ≤ lim ∧ 0 ≤ n ∧ n ≤ 1048576,
       .agg [.v (.int .i64 1), .sl 0 1 0 s.size s.size false, .sl 1 1 0 n.toNat n.toNat false, .v (.bool false)], [(0, .row 1 s.size (bys (strF s))), (1, .row 1 n.toNat (bys (fun _ => 0)))])
    | _, _ => none

theorem zer_ok : zerCon.Ok Try.prog 19 := by
  refine Con.ofG (U := Nat) (X := []) (T := []) mixed nmOk trivial trivial Try.func19 rfl 200 (fun _ _ => []) (fun _ _ => false) (fun _ _ _ _ _ _ => none) ?_
  intro xs L pre x L' h hp
  unfold zerCon at h
  dsimp only at h
  split at h <;> try (simp at h; done)
  rename_i n s
  cases h
  refine ⟨Nat.le_of_ble_eq_true rfl, ?_⟩
  obtain ⟨h1, h2, h3⟩ := hp
  refine cast (show (td (tu (tt (tt (td (tt (tt (tt (td (((0 : Int) ≤ n ∧ n ≤ n ∧ n ≤ (281474976710656 : Int) ∧ (1 : Int) * n ≤ (281474976710656 : Int)) ∧ tt (tt (td (tu (tt (tt True ∧ td ((1 : Int) = (1 : Int) ∧ ((0 : Nat) = (0 : Nat) ∧ ByteArray.size s = ByteArray.size s ∧ ByteArray.size s ≤ ByteArray.size s ∧ ByteArray.size s ≤ ByteArray.size s) ∧ ((0 : Nat) = (0 : Nat) ∧ Int.toNat n = Int.toNat n ∧ Int.toNat n ≤ Int.toNat n ∧ Int.toNat n ≤ Int.toNat n) ∧ td (false = false)) ∧ (ByteArray.size s = ByteArray.size s ∧ FEq (ByteArray.size s) (fun (k : Nat) => SV.v (Value.int IntKind.u8 (strAt s k))) (bys (strF s))) ∧ td (Int.toNat n = Int.toNat n ∧ FEq (Int.toNat n) (fun (x : Nat) => SV.v (Value.int IntKind.u8 (0 : Int))) (bys fun (x : Nat) => (0 : Int)))))))))))))))))) = _ by kernel_rfl) ?_
  simp only [tt_iff, tu_iff, td_iff, FEq_refl, FEq_zero, condP, decide_eq_true_eq, decide_eq_false_iff_not, true_and, and_true, implies_true, and_self, Bool.true_eq_false, Bool.false_eq_true, false_implies, forall_const, Int.toNat_natCast, Nat.zero_add, gt_iff_lt, ge_iff_le, Nat.le_refl, Bool.not_eq_true, Bool.not_eq_false, Int.not_lt, Int.not_le, Nat.not_lt, Nat.not_le]
  exact ⟨⟨h2, Int.le_refl _, by omega, by omega⟩, fun _ _ => rfl, fun _ _ => rfl⟩
end Go.Tk

/- Rows 1 and 2: the examples hold. -/
set_option linter.unusedVariables false
set_option linter.unusedSimpArgs false
namespace Go.Tk
open Go.Sym Go.Proofs

/-- A record that is only read from then on. -/
def recFCon : Con where
  run xs L := match xs, L with
    | [.v (.int .i64 r), .v (.string s), .v (.string t)], [] => some (s.size ≤ lim ∧ t.size ≤ lim, recSV ⟨r, s.size, strF s, t.size, strF t, false⟩, [])
    | _, _ => none

theorem recF_ok : recFCon.Ok Try.prog 13 := by
  refine ⟨rec_ok.1, fun xs L pre x L' h hp => ?_⟩
  unfold recFCon at h
  dsimp only at h
  split at h <;> try (simp at h; done)
  rename_i r s t
  cases h
  have h1 := rec_ok.2 [.v (.int .i64 r), .v (.string s), .v (.string t)] [] _ _ _ rfl hp
  have h2 := h1.frz (i := 0) rfl ⟨trivial, trivial⟩ ⟨trivial, Nat.le_of_eq (Nat.zero_add _), trivial, trivial, trivial⟩
  have h3 := h2.frz (i := 1) rfl trivial ⟨trivial, trivial, Nat.le_of_eq (Nat.zero_add _), trivial, trivial⟩
  have e0 : ∀ s : ByteArray, (fun k => rov (bys (strF s) (0 + k))) = bys (strF s) := fun s => by
    funext k; rw [Nat.zero_add]; rfl
  have e : (fzV 1 1 t.size (bys (strF t)) (fzV 0 1 s.size (bys (strF s)) (.agg [.v (.int .i64 r), .sl 0 1 0 s.size s.size false, .sl 1 1 0 t.size t.size false, .v (.bool false)])).2).2 = recSV ⟨r, s.size, strF s, t.size, strF t, false⟩ := by
    show SV.agg [_, .ro 1 s.size (fun k => rov (bys (strF s) (0 + k))) false, .ro 1 t.size (fun k => rov (bys (strF t) (0 + k))) false, _] = _
    rw [e0, e0]; rfl
  rw [e] at h3
  exact h3

/-- The same of zeros. -/
def zerFCon : Con where
  run xs L := match xs, L with
    | [.v (.int .i64 n), .v (.string s)], [] => some (s.size ≤ lim ∧ 0 ≤ n ∧ n ≤ 1048576, recSV ⟨1, s.size, strF s, n.toNat, fun _ => 0, false⟩, [])
    | _, _ => none

theorem zerF_ok : zerFCon.Ok Try.prog 19 := by
  refine ⟨zer_ok.1, fun xs L pre x L' h hp => ?_⟩
  unfold zerFCon at h
  dsimp only at h
  split at h <;> try (simp at h; done)
  rename_i n s
  cases h
  have h1 := zer_ok.2 [.v (.int .i64 n), .v (.string s)] [] _ _ _ rfl hp
  have h2 := h1.frz (i := 0) rfl ⟨trivial, trivial⟩ ⟨trivial, Nat.le_of_eq (Nat.zero_add _), trivial, trivial, trivial⟩
  have h3 := h2.frz (i := 1) rfl trivial ⟨trivial, trivial, Nat.le_of_eq (Nat.zero_add _), trivial, trivial⟩
  have e0 : (fun k => rov (bys (strF s) (0 + k))) = bys (strF s) := by
    funext k; rw [Nat.zero_add]; rfl
  have e : (fzV 1 1 n.toNat (bys (fun _ => 0)) (fzV 0 1 s.size (bys (strF s)) (.agg [.v (.int .i64 1), .sl 0 1 0 s.size s.size false, .sl 1 1 0 n.toNat n.toNat false, .v (.bool false)])).2).2 = recSV ⟨1, s.size, strF s, n.toNat, fun _ => 0, false⟩ := by
    show SV.agg [_, .ro 1 s.size (fun k => rov (bys (strF s) (0 + k))) false, .ro 1 n.toNat (fun k => rov (bys (fun _ => 0) (0 + k))) false, _] = _
    rw [e0]; rfl
  rw [e] at h3
  exact h3

end Go.Tk
