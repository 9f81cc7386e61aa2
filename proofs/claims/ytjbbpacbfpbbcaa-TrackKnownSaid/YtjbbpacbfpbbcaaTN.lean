/- Rows 1 and 2: searching, second part. -/
import Derived.Test.YtjbbpacbfpbbcaaTM
set_option linter.all false
set_option linter.unusedSimpArgs false
set_option linter.unusedVariables false
set_option linter.deprecated false
set_option linter.unusedVariables false
set_option linter.unusedSimpArgs false
namespace Go.Tk
open Go.Sym Go.Proofs

def ContainsCon : Con where
  run xs L := match xs, L with
    | [.ro 4 n f _, .fn 26 [] []], [] => some (Recs f n, .v (.bool (decide (0 ≤ idxL (fun x => x.bad) (recsOf f) n))), [])
    | _, _ => none

theorem Contains_ok : ContainsCon.Ok Try.prog 25 := by
  refine Con.ofG (U := Nat) (X := []) (T := [(38, IndexCon)]) mixed nmOk ⟨Index_ok, trivial⟩ trivial Try.func25 rfl 200 (fun _ _ => []) (fun _ _ => false) (fun _ _ _ _ _ _ => none) ?_
  intro xs L pre x L' h hp
  unfold ContainsCon at h
  dsimp only at h
  split at h <;> try (simp at h; done)
  rename_i n f e
  cases h
  refine ⟨Nat.le_of_ble_eq_true rfl, ?_⟩
  obtain ⟨hn, ⟨x, rfl⟩, hb⟩ := hp
  refine cast (show (tt (tt (tt ((tt (td (tt True)) ∧ td (n ≤ (1048576 : Nat) ∧ (∃ (x_1 : Nat → RecD), (fun (k : Nat) => recSV (x k)) = fun (k : Nat) => recSV (x_1 k)) ∧ ∀ (k : Nat), k < n → RecD.kn (x k) ≤ (1048576 : Nat) ∧ RecD.dn (x k) ≤ (1048576 : Nat)) ∧ (false = true → True)) ∧ tt (tt (tt True ∧ td (td (decide (idxL (fun (x : RecD) => RecD.bad x) x n ≥ (0 : Int)) = decide ((0 : Int) ≤ idxL (fun (x : RecD) => RecD.bad x) (recsOf fun (k : Nat) => recSV (x k)) n))))))))) = _ by kernel_rfl) ?_
  simp only [tt_iff, tu_iff, td_iff, FEq_refl, FEq_zero, condP, decide_eq_true_eq, decide_eq_false_iff_not, true_and, and_true, implies_true, and_self, Bool.true_eq_false, Bool.false_eq_true, false_implies, forall_const, Int.toNat_natCast, Nat.zero_add, gt_iff_lt, ge_iff_le, Nat.le_refl, Bool.not_eq_true, Bool.not_eq_false, Int.not_lt, Int.not_le, Nat.not_lt, Nat.not_le]
  exact ⟨⟨hn, ⟨x, rfl⟩, hb⟩, rfl⟩

def FindCon : Con where
  run xs L := match xs, L with
    | [.ro 4 n f _, .v (.int .i64 m)], [] => some (Recs f n, .tup [.v (.int .i64 (imax (idxL (fun x => x.r == m) (recsOf f) n) 0)), .v (.bool (decide (0 ≤ idxL (fun x => x.r == m) (recsOf f) n)))], [])
    | _, _ => none

theorem Find_ok : FindCon.Ok Try.prog 24 := by
  refine Con.ofG (U := Nat) (X := []) (T := [(38, IndexCon)]) mixed nmOk ⟨Index_ok, trivial⟩ trivial Try.func24 rfl 200 (fun _ _ => []) (fun _ _ => false) (fun _ _ _ _ _ _ => none) ?_
  intro xs L pre x L' h hp
  unfold FindCon at h
  dsimp only at h
  split at h <;> try (simp at h; done)
  rename_i n f e m
  cases h
  refine ⟨Nat.le_of_ble_eq_true rfl, ?_⟩
  obtain ⟨hn, ⟨x, rfl⟩, hb⟩ := hp
  refine cast (show (td (tu (tt (tt (tt (tt (tt ((tt (td (tt (td (tt True)))) ∧ td (n ≤ (1048576 : Nat) ∧ (∃ (x_1 : Nat → RecD), (fun (k : Nat) => recSV (x k)) = fun (k : Nat) => recSV (x_1 k)) ∧ ∀ (k : Nat), k < n → RecD.kn (x k) ≤ (1048576 : Nat) ∧ RecD.dn (x k) ≤ (1048576 : Nat)) ∧ (true = true → True)) ∧ tt (tt (tt (tt (tt (tt (tt (tt (tt True) ∧ td (td (imax (idxL (fun (x : RecD) => RecD.r x == m) x n) (0 : Int) = imax (idxL (fun (x : RecD) => RecD.r x == m) x n) (0 : Int) ∧ td (decide (idxL (fun (x : RecD) => RecD.r x == m) x n ≥ (0 : Int)) = decide ((0 : Int) ≤ idxL (fun (x : RecD) => RecD.r x == m) (recsOf fun (k : Nat) => recSV (x k)) n))))))))))))))))))) = _ by kernel_rfl) ?_
  simp only [tt_iff, tu_iff, td_iff, FEq_refl, FEq_zero, condP, decide_eq_true_eq, decide_eq_false_iff_not, true_and, and_true, implies_true, and_self, Bool.true_eq_false, Bool.false_eq_true, false_implies, forall_const, Int.toNat_natCast, Nat.zero_add, gt_iff_lt, ge_iff_le, Nat.le_refl, Bool.not_eq_true, Bool.not_eq_false, Int.not_lt, Int.not_le, Nat.not_lt, Nat.not_le]
  exact ⟨⟨hn, ⟨x, rfl⟩, hb⟩, rfl⟩

/-- Which record Search finds, from an index on. -/
def searchI (p : RecD → Bool) (x : Nat → RecD) (n : Nat) (a : Int) : Int :=
  cond (decide (a ≥ (n : Int))) (-1) (cond (decide (0 ≤ idxL p (fun k => x ((imax a 0).toNat + k)) (n - (imax a 0).toNat))) (imax a 0 + idxL p (fun k => x ((imax a 0).toNat + k)) (n - (imax a 0).toNat)) (-1))

def keyP (hi : Bool) (m : Nat) (q : Nat → SV) (x : RecD) : Bool :=
  cond hi (cond (cond (!x.bad) ((x.kn : Int) == (m : Int)) false) (decide (cmpB x.kn (bys x.kf) m q ≥ 0)) false) (cond (!x.bad) (beqB x.kn (bys x.kf) m q) false)

def SearchCon : Con where
  run xs L := match xs, L with
    | [.ro 4 n f _, .v (.int .i64 a), .ro 1 m q _, .v (.bool hi)], [] => some (Recs f n ∧ Byt q m,
        .tup [.v (.int .i64 (cond ((m : Int) == 0) 0 (imax (searchI (keyP hi m q) (recsOf f) n a) 0))), .v (.bool (cond ((m : Int) == 0) false (decide (0 ≤ searchI (keyP hi m q) (recsOf f) n a))))], [])
    | _, _ => none

theorem Search_ok : SearchCon.Ok Try.prog 34 := by
  refine Con.ofG (U := Nat) (X := []) (T := [(38, IndexCon)]) mixed nmOk ⟨Index_ok, trivial⟩ trivial Try.func34 rfl 200 (fun _ _ => []) (fun _ _ => false) (fun _ _ _ _ _ _ => none) ?_
  intro xs L pre x L' h hp
  unfold SearchCon at h
  dsimp only at h
  split at h <;> try (simp at h; done)
  rename_i n f e a m q eq hi
  cases h
  refine ⟨Nat.le_of_ble_eq_true rfl, ?_⟩
  obtain ⟨⟨hn, ⟨x, rfl⟩, hb⟩, hq⟩ := hp
  cases hi with
  | true =>
    refine cast (show (tt (tt (tt (tt (tt (tt (((!(↑m : Int) == (0 : Int)) = true → True) ∧ ((!(↑m : Int) == (0 : Int)) = true → True) ∧ ((!(↑m : Int) == (0 : Int)) = true → True) ∧ ((!(↑m : Int) == (0 : Int)) = true → True) ∧ tt (bif bif (↑m : Int) == (0 : Int) then true else decide (a ≥ (↑n : Int)) then tt (tt (tt (tt True) ∧ td (td (((0 : Int) = bif (↑m : Int) == (0 : Int) then (0 : Int) else imax (searchI (keyP true m q) x n a) (0 : Int)) ∧ td (false = bif (↑m : Int) == (0 : Int) then false else decide ((0 : Int) ≤ searchI (keyP true m q) (recsOf fun (k : Nat) => recSV (x k)) n a)))))) else tt (tt (tt (tt (tt (tt (tt (tt (tt (tt (tt (tt (((0 : Int) ≤ imax a (0 : Int) ∧ imax a (0 : Int) ≤ (↑n : Int)) ∧ tt ((tt (td (td (tt True))) ∧ ((n - Int.toNat (imax a (0 : Int)) ≤ (1048576 : Nat) ∧ (∃ (x_1 : Nat → RecD), (fun (k : Nat) => recSV (x (Int.toNat (imax a (0 : Int)) + k))) = fun (k : Nat) => recSV (x_1 k)) ∧ ∀ (k : Nat), k < n - Int.toNat (imax a (0 : Int)) → RecD.kn (x (Int.toNat (imax a (0 : Int)) + k)) ≤ (1048576 : Nat) ∧ RecD.dn (x (Int.toNat (imax a (0 : Int)) + k)) ≤ (1048576 : Nat)) ∧ m ≤ (1099511627776 : Nat) ∧ ∃ (b : Nat → Int), q = bys b) ∧ (false = true → True)) ∧ tt (tt (tt (bif decide (idxL (fun (x : RecD) => bif bif !RecD.bad x then (↑(RecD.kn x) : Int) == (↑m : Int) else false then decide (cmpB (RecD.kn x) (bys (RecD.kf x)) m q ≥ (0 : Int)) else false) (fun (k : Nat) => x (Int.toNat (imax a (0 : Int)) + k)) (n - Int.toNat (imax a (0 : Int))) < (0 : Int)) then tt (tt (tt (tt True) ∧ td (td (((0 : Int) = bif (↑m : Int) == (0 : Int) then (0 : Int) else imax (searchI (keyP true m q) x n a) (0 : Int)) ∧ td (false = bif (↑m : Int) == (0 : Int) then false else decide ((0 : Int) ≤ searchI (keyP true m q) (recsOf fun (k : Nat) => recSV (x k)) n a)))))) else tt (tt (((-9223372036854775808 : Int) ≤ imax a (0 : Int) + idxL (fun (x : RecD) => bif bif !RecD.bad x then (↑(RecD.kn x) : Int) == (↑m : Int) else false then decide (cmpB (RecD.kn x) (bys (RecD.kf x)) m q ≥ (0 : Int)) else false) (fun (k : Nat) => x (Int.toNat (imax a (0 : Int)) + k)) (n - Int.toNat (imax a (0 : Int))) ∧ imax a (0 : Int) + idxL (fun (x : RecD) => bif bif !RecD.bad x then (↑(RecD.kn x) : Int) == (↑m : Int) else false then decide (cmpB (RecD.kn x) (bys (RecD.kf x)) m q ≥ (0 : Int)) else false) (fun (k : Nat) => x (Int.toNat (imax a (0 : Int)) + k)) (n - Int.toNat (imax a (0 : Int))) ≤ (9223372036854775807 : Int)) ∧ tt (tt (tt (tt True) ∧ td (td ((imax a (0 : Int) + idxL (fun (x : RecD) => bif bif !RecD.bad x then (↑(RecD.kn x) : Int) == (↑m : Int) else false then decide (cmpB (RecD.kn x) (bys (RecD.kf x)) m q ≥ (0 : Int)) else false) (fun (k : Nat) => x (Int.toNat (imax a (0 : Int)) + k)) (n - Int.toNat (imax a (0 : Int))) = bif (↑m : Int) == (0 : Int) then (0 : Int) else imax (searchI (keyP true m q) x n a) (0 : Int)) ∧ td (true = bif (↑m : Int) == (0 : Int) then false else decide ((0 : Int) ≤ searchI (keyP true m q) (recsOf fun (k : Nat) => recSV (x k)) n a)))))))))))))))))))))))))))))))) = _ by kernel_rfl) ?_
    simp only [tt_iff, tu_iff, td_iff, FEq_refl, FEq_zero, condP, decide_eq_true_eq, decide_eq_false_iff_not, true_and, and_true, implies_true, and_self, Bool.true_eq_false, Bool.false_eq_true, false_implies, forall_const, Int.toNat_natCast, Nat.zero_add, gt_iff_lt, ge_iff_le, Nat.le_refl, Bool.not_eq_true, Bool.not_eq_false, Int.not_lt, Int.not_le, Nat.not_lt, Nat.not_le]
    have hbig : big = 1048576 := rfl
    obtain ⟨j, hj⟩ : ∃ j, j = idxL (keyP true m q) (fun k => x ((imax a 0).toNat + k)) (n - (imax a 0).toNat) := ⟨_, rfl⟩
    have hj2 : idxL (fun y => bif (bif !y.bad then (y.kn : Int) == (m : Int) else false) then decide (0 ≤ cmpB y.kn (bys y.kf) m q) else false) (fun k => x ((imax a 0).toNat + k)) (n - (imax a 0).toNat) = j := hj.symm
    have hjb := idxL_bd (keyP true m q) (fun k => x ((imax a 0).toNat + k)) (n - (imax a 0).toNat)
    rw [← hj] at hjb
    have hre : (recsOf fun k => recSV (x k)) = x := rfl
    simp only [hj2, hre, searchI, ← hj]
    have h0 : 0 ≤ imax a 0 ∧ (imax a 0 = a ∨ imax a 0 = 0) ∧ a ≤ imax a 0 := by unfold imax; split <;> omega
    generalize imax a 0 = s at *
    cases hm : ((m : Int) == 0) with
    | true => simp
    | false =>
      simp only [cond_false, decide_eq_true_eq, decide_eq_false_iff_not]
      refine ⟨fun h => ?_, fun h => ?_⟩
      · simp [h, imax]
      · have hs : s ≤ n := by omega
        have hna : ¬ a ≥ (n : Int) := by omega
        simp only [hna, decide_false, cond_false]
        refine ⟨⟨by omega, by omega⟩, ⟨⟨by omega, ⟨_, rfl⟩, fun k hk => hb _ (by omega)⟩, hq⟩, fun hlt => ?_, fun hge => ⟨⟨by omega, by omega⟩, ?_⟩⟩
        · have hlt2 : ¬ 0 ≤ j := by omega
          simp [hlt2, imax]
        · have h1 : 0 ≤ s + j := by omega
          simp only [hge, decide_true, cond_true, h1]
          refine ⟨?_, trivial⟩
          unfold imax; split <;> omega
  | false =>
    refine cast (show (tt (tt (tt (tt (tt (tt (((!(↑m : Int) == (0 : Int)) = true → True) ∧ ((!(↑m : Int) == (0 : Int)) = true → True) ∧ ((!(↑m : Int) == (0 : Int)) = true → True) ∧ ((!(↑m : Int) == (0 : Int)) = true → True) ∧ tt (bif bif (↑m : Int) == (0 : Int) then true else decide (a ≥ (↑n : Int)) then tt (tt (tt (tt True) ∧ td (td (((0 : Int) = bif (↑m : Int) == (0 : Int) then (0 : Int) else imax (searchI (keyP false m q) x n a) (0 : Int)) ∧ td (false = bif (↑m : Int) == (0 : Int) then false else decide ((0 : Int) ≤ searchI (keyP false m q) (recsOf fun (k : Nat) => recSV (x k)) n a)))))) else tt (tt (tt (tt (tt (tt (tt (tt (tt (((0 : Int) ≤ imax a (0 : Int) ∧ imax a (0 : Int) ≤ (↑n : Int)) ∧ tt ((tt (td (td (tt True))) ∧ ((n - Int.toNat (imax a (0 : Int)) ≤ (1048576 : Nat) ∧ (∃ (x_1 : Nat → RecD), (fun (k : Nat) => recSV (x (Int.toNat (imax a (0 : Int)) + k))) = fun (k : Nat) => recSV (x_1 k)) ∧ ∀ (k : Nat), k < n - Int.toNat (imax a (0 : Int)) → RecD.kn (x (Int.toNat (imax a (0 : Int)) + k)) ≤ (1048576 : Nat) ∧ RecD.dn (x (Int.toNat (imax a (0 : Int)) + k)) ≤ (1048576 : Nat)) ∧ m ≤ (1099511627776 : Nat) ∧ ∃ (b : Nat → Int), q = bys b) ∧ (false = true → True)) ∧ tt (tt (tt (bif decide (idxL (fun (x : RecD) => bif !RecD.bad x then beqB (RecD.kn x) (bys (RecD.kf x)) m q else false) (fun (k : Nat) => x (Int.toNat (imax a (0 : Int)) + k)) (n - Int.toNat (imax a (0 : Int))) < (0 : Int)) then tt (tt (tt (tt True) ∧ td (td (((0 : Int) = bif (↑m : Int) == (0 : Int) then (0 : Int) else imax (searchI (keyP false m q) x n a) (0 : Int)) ∧ td (false = bif (↑m : Int) == (0 : Int) then false else decide ((0 : Int) ≤ searchI (keyP false m q) (recsOf fun (k : Nat) => recSV (x k)) n a)))))) else tt (tt (((-9223372036854775808 : Int) ≤ imax a (0 : Int) + idxL (fun (x : RecD) => bif !RecD.bad x then beqB (RecD.kn x) (bys (RecD.kf x)) m q else false) (fun (k : Nat) => x (Int.toNat (imax a (0 : Int)) + k)) (n - Int.toNat (imax a (0 : Int))) ∧ imax a (0 : Int) + idxL (fun (x : RecD) => bif !RecD.bad x then beqB (RecD.kn x) (bys (RecD.kf x)) m q else false) (fun (k : Nat) => x (Int.toNat (imax a (0 : Int)) + k)) (n - Int.toNat (imax a (0 : Int))) ≤ (9223372036854775807 : Int)) ∧ tt (tt (tt (tt True) ∧ td (td ((imax a (0 : Int) + idxL (fun (x : RecD) => bif !RecD.bad x then beqB (RecD.kn x) (bys (RecD.kf x)) m q else false) (fun (k : Nat) => x (Int.toNat (imax a (0 : Int)) + k)) (n - Int.toNat (imax a (0 : Int))) = bif (↑m : Int) == (0 : Int) then (0 : Int) else imax (searchI (keyP false m q) x n a) (0 : Int)) ∧ td (true = bif (↑m : Int) == (0 : Int) then false else decide ((0 : Int) ≤ searchI (keyP false m q) (recsOf fun (k : Nat) => recSV (x k)) n a))))))))))))))))))))))))))))) = _ by kernel_rfl) ?_
    simp only [tt_iff, tu_iff, td_iff, FEq_refl, FEq_zero, condP, decide_eq_true_eq, decide_eq_false_iff_not, true_and, and_true, implies_true, and_self, Bool.true_eq_false, Bool.false_eq_true, false_implies, forall_const, Int.toNat_natCast, Nat.zero_add, gt_iff_lt, ge_iff_le, Nat.le_refl, Bool.not_eq_true, Bool.not_eq_false, Int.not_lt, Int.not_le, Nat.not_lt, Nat.not_le]
    have hbig : big = 1048576 := rfl
    obtain ⟨j, hj⟩ : ∃ j, j = idxL (keyP false m q) (fun k => x ((imax a 0).toNat + k)) (n - (imax a 0).toNat) := ⟨_, rfl⟩
    have hj2 : idxL (fun y => bif !y.bad then beqB y.kn (bys y.kf) m q else false) (fun k => x ((imax a 0).toNat + k)) (n - (imax a 0).toNat) = j := hj.symm
    have hjb := idxL_bd (keyP false m q) (fun k => x ((imax a 0).toNat + k)) (n - (imax a 0).toNat)
    rw [← hj] at hjb
    have hre : (recsOf fun k => recSV (x k)) = x := rfl
    simp only [hj2, hre, searchI, ← hj]
    have h0 : 0 ≤ imax a 0 ∧ (imax a 0 = a ∨ imax a 0 = 0) ∧ a ≤ imax a 0 := by unfold imax; split <;> omega
    generalize imax a 0 = s at *
    cases hm : ((m : Int) == 0) with
    | true => simp
    | false =>
      simp only [cond_false, decide_eq_true_eq, decide_eq_false_iff_not]
      refine ⟨fun h => ?_, fun h => ?_⟩
      · simp [h, imax]
      · have hs : s ≤ n := by omega
        have hna : ¬ a ≥ (n : Int) := by omega
        simp only [hna, decide_false, cond_false]
        refine ⟨⟨by omega, by omega⟩, ⟨⟨by omega, ⟨_, rfl⟩, fun k hk => hb _ (by omega)⟩, hq⟩, fun hlt => ?_, fun hge => ⟨⟨by omega, by omega⟩, ?_⟩⟩
        · have hlt2 : ¬ 0 ≤ j := by omega
          simp [hlt2, imax]
        · have h1 : 0 ≤ s + j := by omega
          simp only [hge, decide_true, cond_true, h1]
          refine ⟨?_, trivial⟩
          unfold imax; split <;> omega
end Go.Tk

/- Rows 1 and 2: equality, records, half words. -/
set_option linter.unusedVariables false
set_option linter.unusedSimpArgs false
namespace Go.Tk
open Go.Sym Go.Proofs

theorem FEq_snoc {f s h : Nat → SV} {m : Nat} (h1 : ∀ q, q < m → f q = h q) (h2 : s 0 = h m) : FEq (m + 1) (comb f s m) h := by
  intro k hk
  by_cases hkm : k < m
  · rw [comb_lt hkm]; exact h1 k hkm
  · obtain rfl : k = m := by omega
    rw [comb_ge (Nat.le_refl _), Nat.sub_self]; exact h2

theorem FEq_comb {f s s' : Nat → SV} {n m : Nat} (h : ∀ q, q < m → s q = s' q) : FEq (n + m) (comb f s n) (comb f s' n) := by
  intro k hk
  by_cases hkm : k < n
  · rw [comb_lt hkm, comb_lt hkm]
  · rw [comb_ge (by omega), comb_ge (by omega)]; exact h _ (by omega)

def eqR (x y : RecD) : Bool :=
  cond (cond (cond (x.r == y.r) (x.bad == y.bad) false) (beqB x.kn (bys x.kf) y.kn (bys y.kf)) false) (beqB x.dn (bys x.df) y.dn (bys y.df)) false

def eqCon : Con where
  run xs L := match xs, L with
    | [x, y], [] => some ((∃ a, x = recSV a) ∧ (∃ b, y = recSV b), .v (.bool (eqR (recOf x) (recOf y))), [])
    | _, _ => none

theorem eq_ok : eqCon.Ok Try.prog 12 := by
  refine Con.ofG (U := Nat) (X := []) (T := []) mixed nmOk trivial trivial Try.func12 rfl 200 (fun _ _ => []) (fun _ _ => false) (fun _ _ _ _ _ _ => none) ?_
  intro xs L pre x L' h hp
  unfold eqCon at h
  dsimp only at h
  split at h <;> try (simp at h; done)
  rename_i x y
  cases h
  refine ⟨Nat.le_of_ble_eq_true rfl, ?_⟩
  obtain ⟨⟨x, rfl⟩, ⟨y, rfl⟩⟩ := hp
  refine cast (show (td (tu (tt (td (tu (tt (tt (tt (tt (tt (tt (tt (tt (((RecD.r x == RecD.r y) = true → True) ∧ ((RecD.r x == RecD.r y) = true → True) ∧ ((RecD.r x == RecD.r y) = true → True) ∧ ((RecD.r x == RecD.r y) = true → True) ∧ ((RecD.r x == RecD.r y) = true → True) ∧ tt (tt (((bif RecD.r x == RecD.r y then Decidable.rec (fun (h : ¬RecD.bad x = RecD.bad y) => false) (fun (h : RecD.bad x = RecD.bad y) => true) (instDecidableEqBool (RecD.bad x) (RecD.bad y)) else false) = true → True) ∧ ((bif RecD.r x == RecD.r y then Decidable.rec (fun (h : ¬RecD.bad x = RecD.bad y) => false) (fun (h : RecD.bad x = RecD.bad y) => true) (instDecidableEqBool (RecD.bad x) (RecD.bad y)) else false) = true → True) ∧ ((bif RecD.r x == RecD.r y then Decidable.rec (fun (h : ¬RecD.bad x = RecD.bad y) => false) (fun (h : RecD.bad x = RecD.bad y) => true) (instDecidableEqBool (RecD.bad x) (RecD.bad y)) else false) = true → tt (∀ (k : Nat), k < RecD.kn x → ∃ (n : Int), SV.v (Value.int IntKind.u8 (RecD.kf x k)) = SV.v (Value.int IntKind.u8 n))) ∧ ((bif RecD.r x == RecD.r y then Decidable.rec (fun (h : ¬RecD.bad x = RecD.bad y) => false) (fun (h : RecD.bad x = RecD.bad y) => true) (instDecidableEqBool (RecD.bad x) (RecD.bad y)) else false) = true → True) ∧ ((bif RecD.r x == RecD.r y then Decidable.rec (fun (h : ¬RecD.bad x = RecD.bad y) => false) (fun (h : RecD.bad x = RecD.bad y) => true) (instDecidableEqBool (RecD.bad x) (RecD.bad y)) else false) = true → True) ∧ ((bif RecD.r x == RecD.r y then Decidable.rec (fun (h : ¬RecD.bad x = RecD.bad y) => false) (fun (h : RecD.bad x = RecD.bad y) => true) (instDecidableEqBool (RecD.bad x) (RecD.bad y)) else false) = true → tt (∀ (k : Nat), k < RecD.kn y → ∃ (n : Int), SV.v (Value.int IntKind.u8 (RecD.kf y k)) = SV.v (Value.int IntKind.u8 n))) ∧ ((bif RecD.r x == RecD.r y then Decidable.rec (fun (h : ¬RecD.bad x = RecD.bad y) => false) (fun (h : RecD.bad x = RecD.bad y) => true) (instDecidableEqBool (RecD.bad x) (RecD.bad y)) else false) = true → True) ∧ tt (tt (((bif bif RecD.r x == RecD.r y then Decidable.rec (fun (h : ¬RecD.bad x = RecD.bad y) => false) (fun (h : RecD.bad x = RecD.bad y) => true) (instDecidableEqBool (RecD.bad x) (RecD.bad y)) else false then ByteArray.toList (strOf (RecD.kn x) (bys (RecD.kf x))) == ByteArray.toList (strOf (RecD.kn y) (bys (RecD.kf y))) else false) = true → True) ∧ ((bif bif RecD.r x == RecD.r y then Decidable.rec (fun (h : ¬RecD.bad x = RecD.bad y) => false) (fun (h : RecD.bad x = RecD.bad y) => true) (instDecidableEqBool (RecD.bad x) (RecD.bad y)) else false then ByteArray.toList (strOf (RecD.kn x) (bys (RecD.kf x))) == ByteArray.toList (strOf (RecD.kn y) (bys (RecD.kf y))) else false) = true → True) ∧ ((bif bif RecD.r x == RecD.r y then Decidable.rec (fun (h : ¬RecD.bad x = RecD.bad y) => false) (fun (h : RecD.bad x = RecD.bad y) => true) (instDecidableEqBool (RecD.bad x) (RecD.bad y)) else false then ByteArray.toList (strOf (RecD.kn x) (bys (RecD.kf x))) == ByteArray.toList (strOf (RecD.kn y) (bys (RecD.kf y))) else false) = true → tt (∀ (k : Nat), k < RecD.dn x → ∃ (n : Int), SV.v (Value.int IntKind.u8 (RecD.df x k)) = SV.v (Value.int IntKind.u8 n))) ∧ ((bif bif RecD.r x == RecD.r y then Decidable.rec (fun (h : ¬RecD.bad x = RecD.bad y) => false) (fun (h : RecD.bad x = RecD.bad y) => true) (instDecidableEqBool (RecD.bad x) (RecD.bad y)) else false then ByteArray.toList (strOf (RecD.kn x) (bys (RecD.kf x))) == ByteArray.toList (strOf (RecD.kn y) (bys (RecD.kf y))) else false) = true → True) ∧ ((bif bif RecD.r x == RecD.r y then Decidable.rec (fun (h : ¬RecD.bad x = RecD.bad y) => false) (fun (h : RecD.bad x = RecD.bad y) => true) (instDecidableEqBool (RecD.bad x) (RecD.bad y)) else false then ByteArray.toList (strOf (RecD.kn x) (bys (RecD.kf x))) == ByteArray.toList (strOf (RecD.kn y) (bys (RecD.kf y))) else false) = true → True) ∧ ((bif bif RecD.r x == RecD.r y then Decidable.rec (fun (h : ¬RecD.bad x = RecD.bad y) => false) (fun (h : RecD.bad x = RecD.bad y) => true) (instDecidableEqBool (RecD.bad x) (RecD.bad y)) else false then ByteArray.toList (strOf (RecD.kn x) (bys (RecD.kf x))) == ByteArray.toList (strOf (RecD.kn y) (bys (RecD.kf y))) else false) = true → tt (∀ (k : Nat), k < RecD.dn y → ∃ (n : Int), SV.v (Value.int IntKind.u8 (RecD.df y k)) = SV.v (Value.int IntKind.u8 n))) ∧ ((bif bif RecD.r x == RecD.r y then Decidable.rec (fun (h : ¬RecD.bad x = RecD.bad y) => false) (fun (h : RecD.bad x = RecD.bad y) => true) (instDecidableEqBool (RecD.bad x) (RecD.bad y)) else false then ByteArray.toList (strOf (RecD.kn x) (bys (RecD.kf x))) == ByteArray.toList (strOf (RecD.kn y) (bys (RecD.kf y))) else false) = true → True) ∧ tt (tt (tt True ∧ td (td ((bif bif bif RecD.r x == RecD.r y then Decidable.rec (fun (h : ¬RecD.bad x = RecD.bad y) => false) (fun (h : RecD.bad x = RecD.bad y) => true) (instDecidableEqBool (RecD.bad x) (RecD.bad y)) else false then ByteArray.toList (strOf (RecD.kn x) (bys (RecD.kf x))) == ByteArray.toList (strOf (RecD.kn y) (bys (RecD.kf y))) else false then ByteArray.toList (strOf (RecD.dn x) (bys (RecD.df x))) == ByteArray.toList (strOf (RecD.dn y) (bys (RecD.df y))) else false) = eqR x y)))))))))))))))))))))) = _ by kernel_rfl) ?_
  simp only [tt_iff, tu_iff, td_iff, FEq_refl, FEq_zero, condP, decide_eq_true_eq, decide_eq_false_iff_not, true_and, and_true, implies_true, and_self, Bool.true_eq_false, Bool.false_eq_true, false_implies, forall_const, Int.toNat_natCast, Nat.zero_add, gt_iff_lt, ge_iff_le, Nat.le_refl, Bool.not_eq_true, Bool.not_eq_false, Int.not_lt, Int.not_le, Nat.not_lt, Nat.not_le]
  exact ⟨fun _ k _ => ⟨_, rfl⟩, fun _ k _ => ⟨_, rfl⟩, fun _ k _ => ⟨_, rfl⟩, fun _ k _ => ⟨_, rfl⟩, rfl⟩

/-- A record out of two strings. -/
def strF (s : ByteArray) : Nat → Int := fun k => strAt s k
def recCon : Con where
  pure := false
  run xs L := match xs, L with
    | [.v (.int .i64 r), .v (.string s), .v (.string t)], [] => some (s.size ≤ lim ∧ t.size ≤ lim,
       .agg [.v (.int .i64 r), .sl 0 1 0 s.size s.size false, .sl 1 1 0 t.size t.size false, .v (.bool false)], [(0, .row 1 s.size (bys (strF s))), (1, .row 1 t.size (bys (strF t)))])
    | _, _ => none

theorem rec_ok : recCon.Ok Try.prog 13 := by
  refine Con.ofG (U := Nat) (X := []) (T := []) mixed nmOk trivial trivial Try.func13 rfl 200 (fun _ _ => []) (fun _ _ => false) (fun _ _ _ _ _ _ => none) ?_
  intro xs L pre x L' h hp
  unfold recCon at h
  dsimp only at h
  split at h <;> try (simp at h; done)
  rename_i r s t
  cases h
  refine ⟨Nat.le_of_ble_eq_true rfl, ?_⟩
  obtain ⟨h1, h2⟩ := hp
  refine cast (show (td (tu (tt (tt (tt (td (tt (tt (tt (td (tt (tt (tt (td (tu (tt (tt True ∧ td (r = r ∧ ((0 : Nat) = (0 : Nat) ∧ ByteArray.size s = ByteArray.size s ∧ ByteArray.size s ≤ ByteArray.size s ∧ ByteArray.size s ≤ ByteArray.size s) ∧ ((0 : Nat) = (0 : Nat) ∧ ByteArray.size t = ByteArray.size t ∧ ByteArray.size t ≤ ByteArray.size t ∧ ByteArray.size t ≤ ByteArray.size t) ∧ td (false = false)) ∧ (ByteArray.size s = ByteArray.size s ∧ FEq (ByteArray.size s) (fun (k : Nat) => SV.v (Value.int IntKind.u8 (strAt s k))) (bys (strF s))) ∧ td (ByteArray.size t = ByteArray.size t ∧ FEq (ByteArray.size t) (fun (k : Nat) => SV.v (Value.int IntKind.u8 (strAt t k))) (bys (strF t)))))))))))))))))))) = _ by kernel_rfl) ?_
  simp only [tt_iff, tu_iff, td_iff, FEq_refl, FEq_zero, condP, decide_eq_true_eq, decide_eq_false_iff_not, true_and, and_true, implies_true, and_self, Bool.true_eq_false, Bool.false_eq_true, false_implies, forall_const, Int.toNat_natCast, Nat.zero_add, gt_iff_lt, ge_iff_le, Nat.le_refl, Bool.not_eq_true, Bool.not_eq_false, Int.not_lt, Int.not_le, Nat.not_lt, Nat.not_le]
  exact ⟨fun k _ => rfl, fun k _ => rfl⟩

/-- Two bytes behind others. -/
def bytF : SV → Int := byteOf
def halfI (n : Int) (k : Nat) : Int := cond (Nat.beq k 0) (IntKind.u8.wrap (n.fdiv (2 ^ 8))) (IntKind.u8.wrap n)
def halfCon : Con where
  pure := false
  hand xs := match xs with | [.sl i _ _ _ _ _, _] => [i] | _ => []
  run xs L := match xs, L with
    | [.sl 0 1 0 n _ _, .v (.int .i64 m)], [(0, .row 1 n' f)] => some (n = n' ∧ n ≤ lim, .sl 1 1 0 (n + 2) (n + 2) false, [(1, .row 1 (n + 2) (comb f (bys (halfI m)) n))])
    | _, _ => none

theorem half_ok : halfCon.Ok Try.prog 27 := by
  refine Con.ofG (U := Nat) (X := []) (T := []) mixed nmOk trivial trivial Try.func27 rfl 200 (fun _ _ => []) (fun _ _ => false) (fun _ _ _ _ _ _ => none) ?_
  intro xs L pre x L' h hp
  unfold halfCon at h
  dsimp only at h
  split at h <;> try (simp at h; done)
  rename_i n c e m n' f
  cases h
  refine ⟨Nat.le_of_ble_eq_true rfl, ?_⟩
  obtain ⟨rfl, h2⟩ := hp
  refine cast (show (tt (tt (tt (Prod.fst ((0 : Int) ≤ (8 : Int), SV.v (Value.int IntKind.i64 (Int.fdiv m ((2 : Int) ^ min (Int.toNat (8 : Int)) (IntKind.bits IntKind.i64))))) ∧ tt (tt (tt (td (tu (tt (tu (tt True))) ∧ tt (td ((n = n ∧ (2 : Nat) ≤ (2 : Nat) ∧ (n + (2 : Nat)) * (1 : Nat) ≤ (140737488355328 : Nat)) ∧ tt (tt (tt True ∧ td ((0 : Nat) = (0 : Nat) ∧ n + (2 : Nat) = n + (2 : Nat) ∧ n + (2 : Nat) ≤ n + (2 : Nat) ∧ n + (2 : Nat) ≤ n + (2 : Nat)) ∧ td (n + (2 : Nat) = n + (2 : Nat) ∧ FEq (n + (2 : Nat)) (comb f (seqF [SV.v (Value.int IntKind.u8 (fitV IntKind.u8 (Int.fdiv m ((2 : Int) ^ (8 : Nat))))), SV.v (Value.int IntKind.u8 (fitV IntKind.u8 m))]) n) (comb f (bys (halfI m)) n)))))))))))))) = _ by kernel_rfl) ?_
  simp only [tt_iff, tu_iff, td_iff, FEq_refl, FEq_zero, condP, decide_eq_true_eq, decide_eq_false_iff_not, true_and, and_true, implies_true, and_self, Bool.true_eq_false, Bool.false_eq_true, false_implies, forall_const, Int.toNat_natCast, Nat.zero_add, gt_iff_lt, ge_iff_le, Nat.le_refl, Bool.not_eq_true, Bool.not_eq_false, Int.not_lt, Int.not_le, Nat.not_lt, Nat.not_le]
  have hl : lim = 1099511627776 := rfl
  refine ⟨by omega, by omega, FEq_comb (fun q hq => ?_)⟩
  match q, hq with
  | 0, _ => rfl
  | 1, _ => rfl
end Go.Tk

/- Rows 1 and 2: Put and Replace. -/
set_option linter.unusedVariables false
set_option linter.unusedSimpArgs false
namespace Go.Tk
open Go.Sym Go.Proofs

/-- Records one behind the other: how many, and which. -/
structure RL where
  n : Nat
  f : Nat → RecD

def RL.snoc (l : RL) (y : RecD) : RL := ⟨l.n + 1, fun k => cond (Nat.blt k l.n) (l.f k) y⟩
def nilRL : RL := ⟨0, fun _ => ⟨0, 0, fun _ => 0, 0, fun _ => 0, false⟩⟩
/-- The records with smaller numbers. -/
def below (x : Nat → RecD) (r : Int) : Nat → RL
  | 0 => nilRL
  | k + 1 => cond (decide ((x k).r < r)) ((below x r k).snoc (x k)) (below x r k)

structure RLE where
  l : RL
  e : Int

def putL (x : Nat → RecD) (n : Nat) (y : RecD) : RLE :=
  cond (!(validL x n) || !(validI y.r y.kn)) ⟨nilRL, 1⟩ (cond (decide (usedI ((below x y.r n).snoc y).f ((below x y.r n).snoc y).n > 2048)) ⟨nilRL, 7⟩ ⟨(below x y.r n).snoc y, 0⟩)

theorem below_n (x : Nat → RecD) (r : Int) : ∀ k, (below x r k).n ≤ k
  | 0 => by simp [below, nilRL]
  | k + 1 => by
    have := below_n x r k
    simp only [below]
    cases decide ((x k).r < r) <;> simp only [cond_true, cond_false, RL.snoc] <;> omega

theorem below_b (x : Nat → RecD) (r : Int) (n : Nat) (hb : ∀ j, j < n → RecB (x j)) : ∀ k, k ≤ n → ∀ j, j < (below x r k).n → RecB ((below x r k).f j)
  | 0, h, j, hj => by simp [below, nilRL] at hj
  | k + 1, h, j, hj => by
    have ih := below_b x r n hb k (by omega)
    simp only [below] at hj ⊢
    cases hd : decide ((x k).r < r) with
    | false => rw [hd] at hj; exact ih j hj
    | true =>
      rw [hd] at hj
      simp only [cond_true, RL.snoc] at hj ⊢
      by_cases hjn : j < (below x r k).n
      · have : Nat.blt j (below x r k).n = true := by rw [Nat.blt_eq]; exact hjn
        simp only [this, cond_true]; exact ih j hjn
      · have : Nat.blt j (below x r k).n = false := by rw [Bool.eq_false_iff]; intro h; rw [Nat.blt_eq] at h; omega
        simp only [this, cond_false]; exact hb k (by omega)

theorem snoc_b {l : RL} {y : RecD} (h : ∀ j, j < l.n → RecB (l.f j)) (hy : RecB y) : ∀ j, j < l.n + 1 → RecB ((l.snoc y).f j) := by
  intro j hj
  simp only [RL.snoc]
  cases hb : Nat.blt j l.n with
  | true => rw [Nat.blt_eq] at hb; exact h j hb
  | false => exact hy

/-- A row of records with one behind it, in memory of its own; the same, lent. -/
theorem own_snoc (l : RL) (y : RecD) : comb (fun k => recOwn (l.f k)) (fun _ => recOwn y) l.n = fun k => recOwn ((l.snoc y).f k) := by
  funext k
  simp only [comb, RL.snoc]
  cases Nat.blt k l.n <;> rfl
theorem rov_snoc (l : RL) (y : RecD) : (fun k => rov (comb (fun k => recOwn (l.f k)) (fun _ => recOwn y) l.n k)) = fun k => recSV ((l.snoc y).f k) := by
  rw [own_snoc]; rfl

def rlEnt (l : RL) : Ent := .row 4 l.n (fun k => recOwn (l.f k))
def rlSl (i : Nat) (l : RL) : SV := .sl i 4 0 l.n l.n false

def PutCon : Con where
  pure := false
  run xs L := match xs, L with
    | [.ro 4 n f _, y], [] => some (Recs f n ∧ n < big ∧ (∃ b, y = recSV b) ∧ RecB (recOf y), .tup [rlSl 0 (putL (recsOf f) n (recOf y)).l, .v (.int .i64 (putL (recsOf f) n (recOf y)).e)], [(0, rlEnt (putL (recsOf f) n (recOf y)).l)])
    | _, _ => none

def PutInv (xs : List SV) (L : Ents) (f b : Nat) (h : List Nat) (st : St) : Option (LoopSpec Nat) :=
  match xs with
  | [.ro _ n g _, y] => some { I := fun k => st.mk' [0, 3, 17, 18] [(19, .v (.int .i64 k)), (6, rlSl st.nx (below (recsOf g) (recOf y).r k))] [(st.nx, rlEnt (below (recsOf g) (recOf y).r k))], ok := fun k => k ≤ n, μ := fun k => n - k }
  | _ => none

theorem Put_ok : PutCon.Ok Try.prog 8 := by
  refine Con.ofG (U := Nat) (X := []) (T := [(14, ValidCon), (15, usedCon), (22, validCon), (23, cloneCon)]) mixed nmOk ⟨Valid_ok, used_ok, valid_ok, clone_ok, trivial⟩ trivial Try.func8 rfl 200 (fun _ _ => []) (fun _ _ => false) PutInv ?_
  intro xs L pre x L' h hp
  unfold PutCon at h
  dsimp only at h
  split at h <;> try (simp at h; done)
  rename_i n f e y
  cases h
  refine ⟨Nat.le_of_ble_eq_true rfl, ?_⟩
  obtain ⟨⟨hn, ⟨x, rfl⟩, hb⟩, hnb, ⟨y, rfl⟩, hy⟩ := hp
  refine cast (show (td (tu (tt (tt (tt (tt ((tt True ∧ (n ≤ (1048576 : Nat) ∧ (∃ (x_1 : Nat → RecD), (fun (k : Nat) => recSV (x k)) = fun (k : Nat) => recSV (x_1 k)) ∧ ∀ (k : Nat), k < n → RecD.kn (x k) ≤ (1048576 : Nat) ∧ RecD.dn (x k) ≤ (1048576 : Nat)) ∧ (false = true → True)) ∧ tt (tt (((!!validL x n) = true → True) ∧ ((!!validL x n) = true → td (tt (tt (tt (tt True)))) ∧ tt (false = true → True)) ∧ ((!!validL x n) = true → True) ∧ tt (bif bif !validL x n then true else !validI (RecD.r y) (RecD.kn y) then tt (tt (tt (tt True) ∧ td (((0 : Nat) = (0 : Nat) ∧ RL.n (RLE.l (putL x n y)) = (0 : Nat) ∧ RL.n (RLE.l (putL x n y)) = (0 : Nat)) ∧ td ((1 : Int) = RLE.e (putL x n y))) ∧ td ((0 : Nat) = RL.n (RLE.l (putL x n y)) ∧ FEq (RL.n (RLE.l (putL x n y))) (fun (x : Nat) => SV.any) fun (k : Nat) => recOwn (RL.f (RLE.l (putL x n y)) k)))) else tt (tt (tt (tt (∃ (x0 : Nat), x0 ≤ n ∧ (((0 : Int) = (↑x0 : Int) ∧ ((0 : Nat) = (0 : Nat) ∧ RL.n (below x (RecD.r y) x0) = (0 : Nat) ∧ RL.n (below x (RecD.r y) x0) = (0 : Nat)) ∧ ((e = true → e = true) ∧ n = n ∧ FEq n (fun (k : Nat) => recSV (x k)) fun (k : Nat) => recSV (x k)) ∧ tt (((e = true → e = true) ∧ n = n ∧ FEq n (fun (k : Nat) => recSV (x k)) fun (k : Nat) => recSV (x k)) ∧ td ((↑n : Int) = (↑n : Int)))) ∧ ((0 : Nat) = RL.n (below x (RecD.r y) x0) ∧ FEq (RL.n (below x (RecD.r y) x0)) (fun (x : Nat) => SV.any) fun (k : Nat) => recOwn (RL.f (below x (RecD.r y) x0) k)) ∧ td (RecD.r y = RecD.r y ∧ ((false = true → false = true) ∧ RecD.kn y = RecD.kn y ∧ FEq (RecD.kn y) (bys (RecD.kf y)) (bys (RecD.kf y))) ∧ ((false = true → false = true) ∧ RecD.dn y = RecD.dn y ∧ FEq (RecD.dn y) (bys (RecD.df y)) (bys (RecD.df y))) ∧ td (RecD.bad y = RecD.bad y))) ∧ ∀ (x_1 : Nat), x_1 ≤ n → tt (bif decide ((↑x_1 : Int) < (↑n : Int)) then ((0 : Int) ≤ (↑x_1 : Int) ∧ (↑x_1 : Int) < (↑n : Int)) ∧ tu (td (tu (tt (td (tu (tt (tt (tt (tt (tt (tt (bif decide (RecD.r (x (Int.toNat (↑x_1 : Int))) < RecD.r y) then tt (tt (td ((td (tt (tt (tt (tt True)))) ∧ (RecD.kn (x (Int.toNat (↑x_1 : Int))) ≤ (1099511627776 : Nat) ∧ RecD.dn (x (Int.toNat (↑x_1 : Int))) ≤ (1099511627776 : Nat)) ∧ (false = true → tt (tt (tt (tt True))) ∧ (∀ (k : Nat), True) ∧ td (∀ (k : Nat), True))) ∧ tt (td (tu (td (RecD.kn (x (Int.toNat (↑x_1 : Int))) ≤ RecD.kn (x (Int.toNat (↑x_1 : Int))) ∧ td (RecD.dn (x (Int.toNat (↑x_1 : Int))) ≤ RecD.dn (x (Int.toNat (↑x_1 : Int)))))) ∧ tt (td ((RL.n (below x (RecD.r y) x_1) = RL.n (below x (RecD.r y) x_1) ∧ (1 : Nat) ≤ (1 : Nat) ∧ (RL.n (below x (RecD.r y) x_1) + (1 : Nat)) * (64 : Nat) ≤ (140737488355328 : Nat)) ∧ tt (tt (((-9223372036854775808 : Int) ≤ (↑x_1 : Int) + (1 : Int) ∧ (↑x_1 : Int) + (1 : Int) ≤ (9223372036854775807 : Int)) ∧ tt (∃ (x' : Nat), x' ≤ n ∧ (((↑x_1 : Int) + (1 : Int) = (↑x' : Int) ∧ ((0 : Nat) = (0 : Nat) ∧ RL.n (below x (RecD.r y) x_1) + (1 : Nat) = RL.n (below x (RecD.r y) x') ∧ RL.n (below x (RecD.r y) x') ≤ RL.n (below x (RecD.r y) x') ∧ RL.n (below x (RecD.r y) x') ≤ RL.n (below x (RecD.r y) x_1) + (1 : Nat)) ∧ ((e = true → e = true) ∧ n = n ∧ FEq n (fun (k : Nat) => recSV (x k)) fun (k : Nat) => recSV (x k)) ∧ tt (((e = true → e = true) ∧ n = n ∧ FEq n (fun (k : Nat) => recSV (x k)) fun (k : Nat) => recSV (x k)) ∧ td ((↑n : Int) = (↑n : Int)))) ∧ (RL.n (below x (RecD.r y) x_1) + (1 : Nat) = RL.n (below x (RecD.r y) x') ∧ FEq (RL.n (below x (RecD.r y) x')) (comb (fun (k : Nat) => recOwn (RL.f (below x (RecD.r y) x_1) k)) (seqF [SV.agg [SV.v (Value.int IntKind.i64 (RecD.r (x (Int.toNat (↑x_1 : Int))))), SV.own (1 : Nat) (RecD.kn (x (Int.toNat (↑x_1 : Int)))) (bys (RecD.kf (x (Int.toNat (↑x_1 : Int))))), SV.own (1 : Nat) (RecD.dn (x (Int.toNat (↑x_1 : Int)))) (bys (RecD.df (x (Int.toNat (↑x_1 : Int))))), SV.v (Value.bool (RecD.bad (x (Int.toNat (↑x_1 : Int)))))]]) (RL.n (below x (RecD.r y) x_1))) fun (k : Nat) => recOwn (RL.f (below x (RecD.r y) x') k)) ∧ td (RecD.r y = RecD.r y ∧ ((false = true → false = true) ∧ RecD.kn y = RecD.kn y ∧ FEq (RecD.kn y) (bys (RecD.kf y)) (bys (RecD.kf y))) ∧ ((false = true → false = true) ∧ RecD.dn y = RecD.dn y ∧ FEq (RecD.dn y) (bys (RecD.df y)) (bys (RecD.df y))) ∧ td (RecD.bad y = RecD.bad y))) ∧ n - x' < n - x_1)))))))))) else ((-9223372036854775808 : Int) ≤ (↑x_1 : Int) + (1 : Int) ∧ (↑x_1 : Int) + (1 : Int) ≤ (9223372036854775807 : Int)) ∧ tt (∃ (x' : Nat), x' ≤ n ∧ (((↑x_1 : Int) + (1 : Int) = (↑x' : Int) ∧ ((0 : Nat) = (0 : Nat) ∧ RL.n (below x (RecD.r y) x_1) = RL.n (below x (RecD.r y) x') ∧ RL.n (below x (RecD.r y) x') ≤ RL.n (below x (RecD.r y) x') ∧ RL.n (below x (RecD.r y) x') ≤ RL.n (below x (RecD.r y) x_1)) ∧ ((e = true → e = true) ∧ n = n ∧ FEq n (fun (k : Nat) => recSV (x k)) fun (k : Nat) => recSV (x k)) ∧ tt (((e = true → e = true) ∧ n = n ∧ FEq n (fun (k : Nat) => recSV (x k)) fun (k : Nat) => recSV (x k)) ∧ td ((↑n : Int) = (↑n : Int)))) ∧ (RL.n (below x (RecD.r y) x_1) = RL.n (below x (RecD.r y) x') ∧ FEq (RL.n (below x (RecD.r y) x')) (fun (k : Nat) => recOwn (RL.f (below x (RecD.r y) x_1) k)) fun (k : Nat) => recOwn (RL.f (below x (RecD.r y) x') k)) ∧ td (RecD.r y = RecD.r y ∧ ((false = true → false = true) ∧ RecD.kn y = RecD.kn y ∧ FEq (RecD.kn y) (bys (RecD.kf y)) (bys (RecD.kf y))) ∧ ((false = true → false = true) ∧ RecD.dn y = RecD.dn y ∧ FEq (RecD.dn y) (bys (RecD.df y)) (bys (RecD.df y))) ∧ td (RecD.bad y = RecD.bad y))) ∧ n - x' < n - x_1))))))))))))) else tt (tt (td ((td (tt (tt (tt (tt True)))) ∧ (RecD.kn y ≤ (1099511627776 : Nat) ∧ RecD.dn y ≤ (1099511627776 : Nat)) ∧ (false = true → tt (tt (tt (tt True))) ∧ (∀ (k : Nat), True) ∧ td (∀ (k : Nat), True))) ∧ tt (td (tu (td (RecD.kn y ≤ RecD.kn y ∧ td (RecD.dn y ≤ RecD.dn y))) ∧ tt (td ((RL.n (below x (RecD.r y) x_1) = RL.n (below x (RecD.r y) x_1) ∧ (1 : Nat) ≤ (1 : Nat) ∧ (RL.n (below x (RecD.r y) x_1) + (1 : Nat)) * (64 : Nat) ≤ (140737488355328 : Nat)) ∧ tt (tt (tt ((td ((0 : Nat) + (RL.n (below x (RecD.r y) x_1) + (1 : Nat)) ≤ RL.n (below x (RecD.r y) x_1) + (1 : Nat)) ∧ (RL.n (below x (RecD.r y) x_1) + (1 : Nat) ≤ (1048576 : Nat) ∧ (∃ (x_2 : Nat → RecD), (fun (k : Nat) => rov (comb (fun (k : Nat) => recOwn (RL.f (below x (RecD.r y) x_1) k)) (seqF [SV.agg [SV.v (Value.int IntKind.i64 (RecD.r y)), SV.own (1 : Nat) (RecD.kn y) (bys (RecD.kf y)), SV.own (1 : Nat) (RecD.dn y) (bys (RecD.df y)), SV.v (Value.bool (RecD.bad y))]]) (RL.n (below x (RecD.r y) x_1)) ((0 : Nat) + k))) = fun (k : Nat) => recSV (x_2 k)) ∧ ∀ (k : Nat), k < RL.n (below x (RecD.r y) x_1) + (1 : Nat) → RecD.kn (recsOf (fun (k : Nat) => rov (comb (fun (k : Nat) => recOwn (RL.f (below x (RecD.r y) x_1) k)) (seqF [SV.agg [SV.v (Value.int IntKind.i64 (RecD.r y)), SV.own (1 : Nat) (RecD.kn y) (bys (RecD.kf y)), SV.own (1 : Nat) (RecD.dn y) (bys (RecD.df y)), SV.v (Value.bool (RecD.bad y))]]) (RL.n (below x (RecD.r y) x_1)) ((0 : Nat) + k))) k) ≤ (1048576 : Nat) ∧ RecD.dn (recsOf (fun (k : Nat) => rov (comb (fun (k : Nat) => recOwn (RL.f (below x (RecD.r y) x_1) k)) (seqF [SV.agg [SV.v (Value.int IntKind.i64 (RecD.r y)), SV.own (1 : Nat) (RecD.kn y) (bys (RecD.kf y)), SV.own (1 : Nat) (RecD.dn y) (bys (RecD.df y)), SV.v (Value.bool (RecD.bad y))]]) (RL.n (below x (RecD.r y) x_1)) ((0 : Nat) + k))) k) ≤ (1048576 : Nat)) ∧ (true = true → True)) ∧ tt (bif decide (usedI (recsOf fun (k : Nat) => rov (comb (fun (k : Nat) => recOwn (RL.f (below x (RecD.r y) x_1) k)) (seqF [SV.agg [SV.v (Value.int IntKind.i64 (RecD.r y)), SV.own (1 : Nat) (RecD.kn y) (bys (RecD.kf y)), SV.own (1 : Nat) (RecD.dn y) (bys (RecD.df y)), SV.v (Value.bool (RecD.bad y))]]) (RL.n (below x (RecD.r y) x_1)) ((0 : Nat) + k))) (RL.n (below x (RecD.r y) x_1) + (1 : Nat)) > (2048 : Int)) then tt (tt (tt (tt True) ∧ td (((0 : Nat) = (0 : Nat) ∧ RL.n (RLE.l (putL x n y)) = (0 : Nat) ∧ RL.n (RLE.l (putL x n y)) = (0 : Nat)) ∧ td ((7 : Int) = RLE.e (putL x n y))) ∧ td ((0 : Nat) = RL.n (RLE.l (putL x n y)) ∧ FEq (RL.n (RLE.l (putL x n y))) (fun (x : Nat) => SV.any) fun (k : Nat) => recOwn (RL.f (RLE.l (putL x n y)) k)))) else tt (tt (tt (tt (tt True) ∧ td (((0 : Nat) = (0 : Nat) ∧ RL.n (below x (RecD.r y) x_1) + (1 : Nat) = RL.n (RLE.l (putL x n y)) ∧ RL.n (RLE.l (putL x n y)) ≤ RL.n (RLE.l (putL x n y)) ∧ RL.n (RLE.l (putL x n y)) ≤ RL.n (below x (RecD.r y) x_1) + (1 : Nat)) ∧ td ((0 : Int) = RLE.e (putL x n y))) ∧ td (RL.n (below x (RecD.r y) x_1) + (1 : Nat) = RL.n (RLE.l (putL x n y)) ∧ FEq (RL.n (RLE.l (putL x n y))) (comb (fun (k : Nat) => recOwn (RL.f (below x (RecD.r y) x_1) k)) (seqF [SV.agg [SV.v (Value.int IntKind.i64 (RecD.r y)), SV.own (1 : Nat) (RecD.kn y) (bys (RecD.kf y)), SV.own (1 : Nat) (RecD.dn y) (bys (RecD.df y)), SV.v (Value.bool (RecD.bad y))]]) (RL.n (below x (RecD.r y) x_1))) fun (k : Nat) => recOwn (RL.f (RLE.l (putL x n y)) k))))))))))))))))))))))))))))))) = _ by kernel_rfl) ?_
  simp only [tt_iff, tu_iff, td_iff, FEq_refl, FEq_zero, condP, decide_eq_true_eq, decide_eq_false_iff_not, true_and, and_true, implies_true, and_self, Bool.true_eq_false, Bool.false_eq_true, false_implies, forall_const, Int.toNat_natCast, Nat.zero_add, gt_iff_lt, ge_iff_le, Nat.le_refl, Bool.not_eq_true, Bool.not_eq_false, Int.not_lt, Int.not_le, Nat.not_lt, Nat.not_le]
  have hbig : big = 1048576 := rfl
  have hr : Recs (fun k => recSV (x k)) n := ⟨hn, ⟨x, rfl⟩, hb⟩
  obtain ⟨hy1, hy2⟩ := hy
  have hy1 : y.kn ≤ 1048576 := hy1
  have hy2 : y.dn ≤ 1048576 := hy2
  refine ⟨hr, fun h => ?_, fun h => ⟨0, Nat.zero_le _, ⟨⟨rfl, rfl, id⟩, rfl, fun k hk => by simp [below, nilRL] at hk⟩, fun k hk => ⟨fun hlt => ⟨⟨by omega, hlt⟩, fun h1 => ?_, fun h1 => ?_⟩, fun hge => ?_⟩⟩⟩
  · have : putL x n y = ⟨nilRL, 1⟩ := by
      unfold putL
      cases h1 : validL x n <;> cases h2 : validI y.r y.kn <;> simp_all
    rw [this]
    exact ⟨⟨rfl, rfl⟩, rfl, fun k hk => by simp [nilRL] at hk⟩
  · have hk' : k < n := by omega
    obtain ⟨b1, b2⟩ := hb k hk'
    have b1 : (x k).kn ≤ 1048576 := b1
    have b2 : (x k).dn ≤ 1048576 := b2
    have h3 := below_n x y.r k
    have h4 : below x y.r (k + 1) = (below x y.r k).snoc (x k) := by simp [below, h1]
    refine ⟨⟨by omega, by omega⟩, by omega, ⟨by omega, by omega⟩, k + 1, by omega, ⟨⟨by omega, ⟨by rw [h4]; rfl, by rw [h4]; exact Nat.le_refl _⟩, id⟩, by rw [h4]; rfl, ?_⟩, by omega⟩
    rw [h4, ← own_snoc]
    exact fun _ _ => rfl
  · have h2 : ¬ (x k).r < y.r := by omega
    have h4 : below x y.r (k + 1) = below x y.r k := by simp [below, h2]
    refine ⟨⟨by omega, by omega⟩, k + 1, by omega, ⟨⟨by omega, ⟨by rw [h4], by rw [h4]; exact Nat.le_refl _⟩, id⟩, by rw [h4], ?_⟩, by omega⟩
    rw [h4]
    exact fun _ _ => rfl
  · obtain rfl : k = n := by omega
    have h3 := below_n x y.r k
    have hrov := rov_snoc (below x y.r k) y
    have hbb := snoc_b (below_b x y.r k hb k (Nat.le_refl _)) (y := y) ⟨hy1, hy2⟩
    have hv : (!(validL x k) || !(validI y.r y.kn)) = false := by
      cases h1 : validL x k <;> cases h2 : validI y.r y.kn <;> simp_all
    refine ⟨⟨by omega, by omega⟩, by omega, ⟨by omega, ⟨_, hrov⟩, ?_⟩, fun h5 => ?_, fun h5 => ?_⟩
    · show ∀ j, j < (below x y.r k).n + 1 → RecB (recsOf (fun j => rov (comb (fun q => recOwn ((below x y.r k).f q)) (fun _ => recOwn y) (below x y.r k).n j)) j)
      rw [hrov]; exact hbb
    · have h6 : 2048 < usedI (recsOf (fun j => rov (comb (fun q => recOwn ((below x y.r k).f q)) (fun _ => recOwn y) (below x y.r k).n j))) ((below x y.r k).n + 1) := h5
      rw [hrov] at h6
      have h7 : usedI ((below x y.r k).snoc y).f ((below x y.r k).snoc y).n > 2048 := h6
      have : putL x k y = ⟨nilRL, 7⟩ := by simp only [putL, hv, cond_false, h7, decide_true, cond_true]
      rw [this]
      exact ⟨⟨rfl, rfl⟩, rfl, fun k hk => by simp [nilRL] at hk⟩
    · have h6 : usedI (recsOf (fun j => rov (comb (fun q => recOwn ((below x y.r k).f q)) (fun _ => recOwn y) (below x y.r k).n j))) ((below x y.r k).n + 1) ≤ 2048 := h5
      rw [hrov] at h6
      have h7 : ¬ usedI ((below x y.r k).snoc y).f ((below x y.r k).snoc y).n > 2048 := by
        have : usedI ((below x y.r k).snoc y).f ((below x y.r k).snoc y).n ≤ 2048 := h6
        omega
      have : putL x k y = ⟨(below x y.r k).snoc y, 0⟩ := by simp only [putL, hv, cond_false, h7, decide_false]
      rw [this]
      refine ⟨⟨⟨rfl, Nat.le_refl _⟩, rfl⟩, rfl, ?_⟩
      show FEq _ _ (fun j => recOwn (((below x y.r k).snoc y).f j))
      rw [← own_snoc]
      exact fun _ _ => rfl
end Go.Tk

/- Rows 1 and 2: Replace. -/
set_option linter.unusedVariables false
set_option linter.unusedSimpArgs false
namespace Go.Tk
open Go.Sym Go.Proofs

def setR (x : Nat → RecD) (i : Nat) (y : RecD) : Nat → RecD := fun k => cond (Nat.beq k i) y (x k)

def replL (x : Nat → RecD) (n : Nat) (y : RecD) : RLE :=
  cond (!(validL x n)) ⟨nilRL, 1⟩ (cond (decide (idxL (fun z => z.r == y.r) x n < 0)) ⟨nilRL, 3⟩
    (cond (!(((x (idxL (fun z => z.r == y.r) x n).toNat).kn : Int) == (y.kn : Int)) || !(((x (idxL (fun z => z.r == y.r) x n).toNat).dn : Int) == (y.dn : Int))) ⟨nilRL, 2⟩
      ⟨⟨n, setR x (idxL (fun z => z.r == y.r) x n).toNat y⟩, 0⟩))

def ReplaceCon : Con where
  pure := false
  run xs L := match xs, L with
    | [.ro 4 n f _, y], [] => some (Recs f n ∧ (∃ b, y = recSV b) ∧ RecB (recOf y), .tup [rlSl 0 (replL (recsOf f) n (recOf y)).l, .v (.int .i64 (replL (recsOf f) n (recOf y)).e)], [(0, rlEnt (replL (recsOf f) n (recOf y)).l)])
    | _, _ => none

def ReplaceInv (xs : List SV) (L : Ents) (f b : Nat) (h : List Nat) (st : St) : Option (LoopSpec Nat) :=
  match xs with
  | [.ro _ n g _, y] => some { I := fun k => st.mk' [0, 3, 6, 45, 46] [(47, .v (.int .i64 k)), (8, rlSl st.nx ⟨k, recsOf g⟩)] [(st.nx, rlEnt ⟨k, recsOf g⟩)], ok := fun k => k ≤ n, μ := fun k => n - k }
  | _ => none

theorem Replace_ok : ReplaceCon.Ok Try.prog 9 := by
  refine Con.ofG (U := Nat) (X := []) (T := [(14, ValidCon), (24, FindCon), (23, cloneCon)]) mixed nmOk ⟨Valid_ok, Find_ok, clone_ok, trivial⟩ trivial Try.func9 rfl 200 (fun f i => match f, i with | 9, 6 => [[], [], [0, 1], [0, 1, 2], [0, 1, 2, 3], [0, 1, 2, 3, 4], [], [6], [6, 7], [0, 1, 2, 3, 4, 5, 6, 7, 8], [0, 1, 2, 3, 4, 5, 6, 7, 8, 9], [0, 1, 2, 3, 4, 5, 6, 7, 8, 9, 10], [0, 1, 2, 3, 4, 5, 6, 7, 8, 9, 10], [0, 1, 2, 3, 4, 5, 6, 7, 8, 9, 10, 11, 12], [0, 1, 2, 3, 4, 5, 6, 7, 8, 9, 10, 11, 12, 13], [0, 1, 2, 3, 4, 5, 6, 7, 8, 9, 10, 11, 12, 13, 14], [0, 1, 2, 3, 4, 5, 6, 7, 8, 9, 10, 11, 12, 13, 14, 15], [0, 1, 2, 3, 4, 5, 6, 7, 8, 9, 10], [0, 1, 2, 3, 4, 5, 6, 7, 8, 9, 10, 17], [0, 1, 2, 3, 4, 5, 6, 7, 8, 9, 10, 17, 18], [0, 1, 2, 3, 4, 5, 6, 7, 8, 9, 10, 11, 12, 13, 14, 15, 16, 17, 18, 19], [0, 1, 2, 3, 4, 5, 6, 7, 8, 9, 10, 11, 12, 13, 14, 15, 16, 17, 18, 19, 20]] | _, _ => []) (fun _ _ => false) ReplaceInv ?_
  intro xs L pre x L' h hp
  unfold ReplaceCon at h
  dsimp only at h
  split at h <;> try (simp at h; done)
  rename_i n f e y
  cases h
  refine ⟨Nat.le_of_ble_eq_true rfl, ?_⟩
  obtain ⟨⟨hn, ⟨x, rfl⟩, hb⟩, ⟨y, rfl⟩, hy⟩ := hp
  refine cast (show (td (tu (tt (tt (tt (tt ((tt True ∧ (n ≤ (1048576 : Nat) ∧ (∃ (x_1 : Nat → RecD), (fun (k : Nat) => recSV (x k)) = fun (k : Nat) => recSV (x_1 k)) ∧ ∀ (k : Nat), k < n → RecD.kn (x k) ≤ (1048576 : Nat) ∧ RecD.dn (x k) ≤ (1048576 : Nat)) ∧ (false = true → True)) ∧ tt (bif !validL x n then tt (tt (tt (tt True) ∧ td (((0 : Nat) = (0 : Nat) ∧ RL.n (RLE.l (replL x n y)) = (0 : Nat) ∧ RL.n (RLE.l (replL x n y)) = (0 : Nat)) ∧ td ((1 : Int) = RLE.e (replL x n y))) ∧ td ((0 : Nat) = RL.n (RLE.l (replL x n y)) ∧ FEq (RL.n (RLE.l (replL x n y))) (fun (x : Nat) => SV.any) fun (k : Nat) => recOwn (RL.f (RLE.l (replL x n y)) k)))) else tt (tt (tt ((tt (tt True) ∧ (n ≤ (1048576 : Nat) ∧ (∃ (x_1 : Nat → RecD), (fun (k : Nat) => recSV (x k)) = fun (k : Nat) => recSV (x_1 k)) ∧ ∀ (k : Nat), k < n → RecD.kn (x k) ≤ (1048576 : Nat) ∧ RecD.dn (x k) ≤ (1048576 : Nat)) ∧ (false = true → tt (tt True))) ∧ tt (tt (tt (tt (tt (tt (tt (bif !decide ((0 : Int) ≤ idxL (fun (x : RecD) => RecD.r x == RecD.r y) (recsOf fun (k : Nat) => recSV (x k)) n) then tt (tt (tt (tt True) ∧ td (((0 : Nat) = (0 : Nat) ∧ RL.n (RLE.l (replL x n y)) = (0 : Nat) ∧ RL.n (RLE.l (replL x n y)) = (0 : Nat)) ∧ td ((3 : Int) = RLE.e (replL x n y))) ∧ td ((0 : Nat) = RL.n (RLE.l (replL x n y)) ∧ FEq (RL.n (RLE.l (replL x n y))) (fun (x : Nat) => SV.any) fun (k : Nat) => recOwn (RL.f (RLE.l (replL x n y)) k)))) else tt (tt (((0 : Int) ≤ imax (idxL (fun (x : RecD) => RecD.r x == RecD.r y) x n) (0 : Int) ∧ imax (idxL (fun (x : RecD) => RecD.r x == RecD.r y) x n) (0 : Int) < (↑n : Int)) ∧ tt (tu (tt (tt (tt (tt (tt (tt (((!(↑(RecD.kn (x (Int.toNat (imax (idxL (fun (x : RecD) => RecD.r x == RecD.r y) x n) (0 : Int))))) : Int) != (↑(RecD.kn y) : Int)) = true → True) ∧ ((!(↑(RecD.kn (x (Int.toNat (imax (idxL (fun (x : RecD) => RecD.r x == RecD.r y) x n) (0 : Int))))) : Int) != (↑(RecD.kn y) : Int)) = true → True) ∧ ((!(↑(RecD.kn (x (Int.toNat (imax (idxL (fun (x : RecD) => RecD.r x == RecD.r y) x n) (0 : Int))))) : Int) != (↑(RecD.kn y) : Int)) = true → (0 : Int) ≤ imax (idxL (fun (x : RecD) => RecD.r x == RecD.r y) x n) (0 : Int) ∧ imax (idxL (fun (x : RecD) => RecD.r x == RecD.r y) x n) (0 : Int) < (↑n : Int)) ∧ ((!(↑(RecD.kn (x (Int.toNat (imax (idxL (fun (x : RecD) => RecD.r x == RecD.r y) x n) (0 : Int))))) : Int) != (↑(RecD.kn y) : Int)) = true → True) ∧ ((!(↑(RecD.kn (x (Int.toNat (imax (idxL (fun (x : RecD) => RecD.r x == RecD.r y) x n) (0 : Int))))) : Int) != (↑(RecD.kn y) : Int)) = true → true = true) ∧ ((!(↑(RecD.kn (x (Int.toNat (imax (idxL (fun (x : RecD) => RecD.r x == RecD.r y) x n) (0 : Int))))) : Int) != (↑(RecD.kn y) : Int)) = true → True) ∧ ((!(↑(RecD.kn (x (Int.toNat (imax (idxL (fun (x : RecD) => RecD.r x == RecD.r y) x n) (0 : Int))))) : Int) != (↑(RecD.kn y) : Int)) = true → True) ∧ ((!(↑(RecD.kn (x (Int.toNat (imax (idxL (fun (x : RecD) => RecD.r x == RecD.r y) x n) (0 : Int))))) : Int) != (↑(RecD.kn y) : Int)) = true → True) ∧ ((!(↑(RecD.kn (x (Int.toNat (imax (idxL (fun (x : RecD) => RecD.r x == RecD.r y) x n) (0 : Int))))) : Int) != (↑(RecD.kn y) : Int)) = true → True) ∧ ((!(↑(RecD.kn (x (Int.toNat (imax (idxL (fun (x : RecD) => RecD.r x == RecD.r y) x n) (0 : Int))))) : Int) != (↑(RecD.kn y) : Int)) = true → True) ∧ tt (bif bif (↑(RecD.kn (x (Int.toNat (imax (idxL (fun (x : RecD) => RecD.r x == RecD.r y) x n) (0 : Int))))) : Int) != (↑(RecD.kn y) : Int) then true else (↑(RecD.dn (x (Int.toNat (imax (idxL (fun (x : RecD) => RecD.r x == RecD.r y) x n) (0 : Int))))) : Int) != (↑(RecD.dn y) : Int) then tt (tt (tt (tt True) ∧ td (((0 : Nat) = (0 : Nat) ∧ RL.n (RLE.l (replL x n y)) = (0 : Nat) ∧ RL.n (RLE.l (replL x n y)) = (0 : Nat)) ∧ td ((2 : Int) = RLE.e (replL x n y))) ∧ td ((0 : Nat) = RL.n (RLE.l (replL x n y)) ∧ FEq (RL.n (RLE.l (replL x n y))) (fun (x : Nat) => SV.any) fun (k : Nat) => recOwn (RL.f (RLE.l (replL x n y)) k)))) else tt (tt (tt (tt (∃ (x0 : Nat), x0 ≤ n ∧ (((0 : Int) = (↑x0 : Int) ∧ ((0 : Nat) = (0 : Nat) ∧ x0 = (0 : Nat) ∧ x0 = (0 : Nat)) ∧ ((e = true → e = true) ∧ n = n ∧ FEq n (fun (k : Nat) => recSV (x k)) fun (k : Nat) => recSV (x k)) ∧ tt (imax (idxL (fun (x : RecD) => RecD.r x == RecD.r y) x n) (0 : Int) = imax (idxL (fun (x : RecD) => RecD.r x == RecD.r y) x n) (0 : Int) ∧ ((e = true → e = true) ∧ n = n ∧ FEq n (fun (k : Nat) => recSV (x k)) fun (k : Nat) => recSV (x k)) ∧ td ((↑n : Int) = (↑n : Int)))) ∧ ((0 : Nat) = x0 ∧ FEq x0 (fun (x : Nat) => SV.any) fun (k : Nat) => recOwn (x k)) ∧ td (RecD.r y = RecD.r y ∧ ((false = true → false = true) ∧ RecD.kn y = RecD.kn y ∧ FEq (RecD.kn y) (bys (RecD.kf y)) (bys (RecD.kf y))) ∧ ((false = true → false = true) ∧ RecD.dn y = RecD.dn y ∧ FEq (RecD.dn y) (bys (RecD.df y)) (bys (RecD.df y))) ∧ td (RecD.bad y = RecD.bad y))) ∧ ∀ (x_1 : Nat), x_1 ≤ n → tt (bif decide ((↑x_1 : Int) < (↑n : Int)) then ((0 : Int) ≤ (↑x_1 : Int) ∧ (↑x_1 : Int) < (↑n : Int)) ∧ tu (td (tu (tt (td (tu (tt (tt (tt (td ((td (tt (tt (tt (tt True)))) ∧ (RecD.kn (x (Int.toNat (↑x_1 : Int))) ≤ (1099511627776 : Nat) ∧ RecD.dn (x (Int.toNat (↑x_1 : Int))) ≤ (1099511627776 : Nat)) ∧ (false = true → tt (tt (tt (tt True))) ∧ (∀ (k : Nat), True) ∧ td (∀ (k : Nat), True))) ∧ tt (td (tu (td (RecD.kn (x (Int.toNat (↑x_1 : Int))) ≤ RecD.kn (x (Int.toNat (↑x_1 : Int))) ∧ td (RecD.dn (x (Int.toNat (↑x_1 : Int))) ≤ RecD.dn (x (Int.toNat (↑x_1 : Int)))))) ∧ tt (td ((x_1 = x_1 ∧ (1 : Nat) ≤ (1 : Nat) ∧ (x_1 + (1 : Nat)) * (64 : Nat) ≤ (140737488355328 : Nat)) ∧ tt (tt (((-9223372036854775808 : Int) ≤ (↑x_1 : Int) + (1 : Int) ∧ (↑x_1 : Int) + (1 : Int) ≤ (9223372036854775807 : Int)) ∧ tt (∃ (x' : Nat), x' ≤ n ∧ (((↑x_1 : Int) + (1 : Int) = (↑x' : Int) ∧ ((0 : Nat) = (0 : Nat) ∧ x_1 + (1 : Nat) = x' ∧ x' ≤ x' ∧ x' ≤ x_1 + (1 : Nat)) ∧ ((e = true → e = true) ∧ n = n ∧ FEq n (fun (k : Nat) => recSV (x k)) fun (k : Nat) => recSV (x k)) ∧ tt (imax (idxL (fun (x : RecD) => RecD.r x == RecD.r y) x n) (0 : Int) = imax (idxL (fun (x : RecD) => RecD.r x == RecD.r y) x n) (0 : Int) ∧ ((e = true → e = true) ∧ n = n ∧ FEq n (fun (k : Nat) => recSV (x k)) fun (k : Nat) => recSV (x k)) ∧ td ((↑n : Int) = (↑n : Int)))) ∧ (x_1 + (1 : Nat) = x' ∧ FEq x' (comb (fun (k : Nat) => recOwn (x k)) (seqF [SV.agg [SV.v (Value.int IntKind.i64 (RecD.r (x (Int.toNat (↑x_1 : Int))))), SV.own (1 : Nat) (RecD.kn (x (Int.toNat (↑x_1 : Int)))) (bys (RecD.kf (x (Int.toNat (↑x_1 : Int))))), SV.own (1 : Nat) (RecD.dn (x (Int.toNat (↑x_1 : Int)))) (bys (RecD.df (x (Int.toNat (↑x_1 : Int))))), SV.v (Value.bool (RecD.bad (x (Int.toNat (↑x_1 : Int)))))]]) x_1) fun (k : Nat) => recOwn (x k)) ∧ td (RecD.r y = RecD.r y ∧ ((false = true → false = true) ∧ RecD.kn y = RecD.kn y ∧ FEq (RecD.kn y) (bys (RecD.kf y)) (bys (RecD.kf y))) ∧ ((false = true → false = true) ∧ RecD.dn y = RecD.dn y ∧ FEq (RecD.dn y) (bys (RecD.df y)) (bys (RecD.df y))) ∧ td (RecD.bad y = RecD.bad y))) ∧ n - x' < n - x_1))))))))))))))))) else tt (tt (tt (td ((td (tt (tt (tt (tt True)))) ∧ (RecD.kn y ≤ (1099511627776 : Nat) ∧ RecD.dn y ≤ (1099511627776 : Nat)) ∧ (false = true → tt (tt (tt (tt True))) ∧ (∀ (k : Nat), True) ∧ td (∀ (k : Nat), True))) ∧ tt (((0 : Int) ≤ imax (idxL (fun (x : RecD) => RecD.r x == RecD.r y) x n) (0 : Int) ∧ imax (idxL (fun (x : RecD) => RecD.r x == RecD.r y) x n) (0 : Int) < (↑x_1 : Int)) ∧ td (((0 : Nat) + Int.toNat (imax (idxL (fun (x : RecD) => RecD.r x == RecD.r y) x n) (0 : Int)) < x_1 ∧ tu (RecD.kn y ≤ RecD.kn y ∧ td (RecD.dn y ≤ RecD.dn y))) ∧ tt (tt (tt (tt (tt (tt True) ∧ td (((0 : Nat) = (0 : Nat) ∧ x_1 = RL.n (RLE.l (replL x n y)) ∧ RL.n (RLE.l (replL x n y)) ≤ RL.n (RLE.l (replL x n y)) ∧ RL.n (RLE.l (replL x n y)) ≤ x_1) ∧ td ((0 : Int) = RLE.e (replL x n y))) ∧ td (x_1 = RL.n (RLE.l (replL x n y)) ∧ FEq (RL.n (RLE.l (replL x n y))) (fun (j : Nat) => bif Nat.beq j ((0 : Nat) + Int.toNat (imax (idxL (fun (x : RecD) => RecD.r x == RecD.r y) x n) (0 : Int))) then SV.agg [SV.v (Value.int IntKind.i64 (RecD.r y)), SV.own (1 : Nat) (RecD.kn y) (bys (RecD.kf y)), SV.own (1 : Nat) (RecD.dn y) (bys (RecD.df y)), SV.v (Value.bool (RecD.bad y))] else SV.agg [SV.v (Value.int IntKind.i64 (RecD.r (x j))), SV.own (1 : Nat) (RecD.kn (x j)) (bys (RecD.kf (x j))), SV.own (1 : Nat) (RecD.dn (x j)) (bys (RecD.df (x j))), SV.v (Value.bool (RecD.bad (x j)))]) fun (k : Nat) => recOwn (RL.f (RLE.l (replL x n y)) k)))))))))))))))))))))))))))))))))))))))))))))) = _ by kernel_rfl) ?_
  simp only [tt_iff, tu_iff, td_iff, FEq_refl, FEq_zero, condP, decide_eq_true_eq, decide_eq_false_iff_not, true_and, and_true, implies_true, and_self, Bool.true_eq_false, Bool.false_eq_true, false_implies, forall_const, Int.toNat_natCast, Nat.zero_add, gt_iff_lt, ge_iff_le, Nat.le_refl, Bool.not_eq_true, Bool.not_eq_false, Int.not_lt, Int.not_le, Nat.not_lt, Nat.not_le]
  have hbig : big = 1048576 := rfl
  have hr : Recs (fun k => recSV (x k)) n := ⟨hn, ⟨x, rfl⟩, hb⟩
  obtain ⟨hy1, hy2⟩ := hy
  have hy1 : y.kn ≤ 1048576 := hy1
  have hy2 : y.dn ≤ 1048576 := hy2
  have hre : (recsOf fun k => recSV (x k)) = x := rfl
  have hjb := idxL_bd (fun z => z.r == y.r) x n
  have hrep : replL x n y = cond (!(validL x n)) ⟨nilRL, 1⟩ (cond (decide (idxL (fun z => z.r == y.r) x n < 0)) ⟨nilRL, 3⟩
    (cond (!(((x (idxL (fun z => z.r == y.r) x n).toNat).kn : Int) == (y.kn : Int)) || !(((x (idxL (fun z => z.r == y.r) x n).toNat).dn : Int) == (y.dn : Int))) ⟨nilRL, 2⟩
      ⟨⟨n, setR x (idxL (fun z => z.r == y.r) x n).toNat y⟩, 0⟩)) := rfl
  simp only [hre]
  generalize idxL (fun z => z.r == y.r) x n = j at *
  have him : ∀ h : 0 ≤ j, imax j 0 = j := fun h => by unfold imax; split <;> omega
  refine ⟨hr, fun h => ?_, fun h => ⟨hr, fun h1 => ?_, fun h1 => ?_⟩⟩
  · rw [hrep, h]
    exact ⟨⟨rfl, rfl⟩, rfl, fun k hk => by simp [nilRL] at hk⟩
  · have h2 : j < 0 := by simpa using h1
    rw [hrep, h, decide_eq_true h2]
    exact ⟨⟨rfl, rfl⟩, rfl, fun k hk => by simp [nilRL] at hk⟩
  · have h2 : 0 ≤ j := by simpa using h1
    have h2' : ¬ j < 0 := by omega
    rw [him h2]
    rw [h, decide_eq_false h2'] at hrep
    simp only [cond_false] at hrep
    refine ⟨⟨h2, hjb.2⟩, fun _ => ⟨h2, hjb.2⟩, fun h3 => ?_, fun h3 => ?_⟩
    · have : (!(((x j.toNat).kn : Int) == (y.kn : Int)) || !(((x j.toNat).dn : Int) == (y.dn : Int))) = true := by
        cases h5 : (((x j.toNat).kn : Int) == (y.kn : Int)) with
        | false => rfl
        | true =>
          simp only [bne, h5, Bool.not_true, cond_false] at h3
          simpa using h3
      rw [this] at hrep
      rw [hrep]
      exact ⟨⟨rfl, rfl⟩, rfl, fun k hk => by simp [nilRL] at hk⟩
    · have : (!(((x j.toNat).kn : Int) == (y.kn : Int)) || !(((x j.toNat).dn : Int) == (y.dn : Int))) = false := by
        cases h5 : (((x j.toNat).kn : Int) == (y.kn : Int)) with
        | false => simp [bne, h5] at h3
        | true =>
          simp only [bne, h5, Bool.not_true, cond_false] at h3
          simpa using h3
      rw [this] at hrep
      simp only [cond_false] at hrep
      rw [hrep]
      refine ⟨0, Nat.zero_le _, ⟨⟨rfl, rfl, id⟩, rfl, fun k hk => by omega⟩, fun k hk => ⟨fun hlt => ?_, fun hge => ?_⟩⟩
      · have hk' : k < n := by omega
        obtain ⟨b1, b2⟩ := hb k hk'
        have b1 : (x k).kn ≤ 1048576 := b1
        have b2 : (x k).dn ≤ 1048576 := b2
        refine ⟨⟨by omega, hlt⟩, ⟨by omega, by omega⟩, by omega, ⟨by omega, by omega⟩, k + 1, by omega, ⟨⟨by omega, ⟨rfl, Nat.le_refl _⟩, id⟩, rfl, FEq_snoc (fun _ _ => rfl) rfl⟩, by omega⟩
      · obtain rfl : k = n := by omega
        refine ⟨⟨by omega, by omega⟩, ⟨h2, by omega⟩, by omega, ⟨⟨rfl, Nat.le_refl _⟩, rfl⟩, rfl, fun q hq => ?_⟩
        show _ = recOwn (setR x j.toNat y q)
        simp only [setR]
        cases Nat.beq q j.toNat <;> rfl
end Go.Tk
