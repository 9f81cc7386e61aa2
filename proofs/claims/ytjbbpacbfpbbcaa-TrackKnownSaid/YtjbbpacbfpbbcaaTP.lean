/- Rows 1 and 2: Decode. -/
import Derived.Test.YtjbbpacbfpbbcaaTO
set_option linter.all false
set_option linter.unusedSimpArgs false
set_option linter.unusedVariables false
set_option linter.deprecated false
set_option linter.unusedVariables false
set_option linter.unusedSimpArgs false
namespace Go.Tk
open Go.Sym Go.Proofs

/-- The first place where it holds, or -1. -/
def idxN (p : Nat → Bool) : Nat → Int
  | 0 => -1
  | k + 1 => cond (decide (0 ≤ idxN p k)) (idxN p k) (cond (p k) (k : Int) (-1))

theorem idxN_no (p : Nat → Bool) {k : Nat} (hk : idxN p k = -1) (hp : p k = false) : idxN p (k + 1) = -1 := by simp [idxN, hk, hp]

theorem idxN_stays (p : Nat → Bool) {k : Nat} (hk : idxN p k = -1) (hp : p k = true) : ∀ {n : Nat}, k < n → idxN p n = k
  | 0, h => by omega
  | n + 1, h => by
    by_cases e : k = n
    · subst e; simp [idxN, hk, hp]
    · have := idxN_stays p hk hp (show k < n by omega)
      simp [idxN, this]

def not255 (f : Nat → SV) (k : Nat) : Bool := !(byteOf (f k) == 255)

def IndexBCon : Con where
  run xs L := match xs, L with
    | [.ro 1 n f _, .fn 31 [] []], [] => some (Byt f n, .v (.int .i64 (idxN (not255 f) n)), [])
    | _, _ => none

def IndexBInv (xs : List SV) (L : Ents) (f b : Nat) (h : List Nat) (st : St) : Option (LoopSpec Nat) :=
  match xs with
  | [.ro _ n g _, q] => some { I := fun k => st.mk' [0, 1, 7] [(8, .v (.int .i64 k))] [], ok := fun k => k ≤ n ∧ idxN (not255 g) k = -1, μ := fun k => n - k }
  | _ => none

theorem IndexB_ok : IndexBCon.Ok Try.prog 43 := by
  refine Con.ofG (U := Nat) (X := []) (T := []) mixed nmOk trivial trivial Try.func43 rfl 200 (fun _ _ => []) (fun f i => match f, i with | 43, 4 => true | _, _ => false) IndexBInv ?_
  intro xs L pre x L' h hp
  unfold IndexBCon at h
  dsimp only at h
  split at h <;> try (simp at h; done)
  rename_i n f e
  cases h
  refine ⟨Nat.le_of_ble_eq_true rfl, ?_⟩
  obtain ⟨hn, b, rfl⟩ := hp
  refine cast (show (tt (tt (tt (tt (∃ (x0 : Nat), (x0 ≤ n ∧ idxN (not255 (bys b)) x0 = (-1 : Int)) ∧ td ((0 : Int) = (↑x0 : Int) ∧ ((e = true → e = true) ∧ n = n ∧ FEq n (bys b) (bys b)) ∧ tt True ∧ td ((↑n : Int) = (↑n : Int))) ∧ ∀ (x : Nat), x ≤ n ∧ idxN (not255 (bys b)) x = (-1 : Int) → tt (bif decide ((↑x : Int) < (↑n : Int)) then tt (tt (tt (tt (tt (((0 : Int) ≤ (↑x : Int) ∧ (↑x : Int) < (↑n : Int)) ∧ tu (tt (tt (tt (tt (tt True ∧ bif b (Int.toNat (↑x : Int)) != (255 : Int) then tt (tt (tt True ∧ td (td ((↑x : Int) = idxN (not255 (bys b)) n)))) else ((-9223372036854775808 : Int) ≤ (↑x : Int) + (1 : Int) ∧ (↑x : Int) + (1 : Int) ≤ (9223372036854775807 : Int)) ∧ tt (∃ (x' : Nat), (x' ≤ n ∧ idxN (not255 (bys b)) x' = (-1 : Int)) ∧ td ((↑x : Int) + (1 : Int) = (↑x' : Int) ∧ ((e = true → e = true) ∧ n = n ∧ FEq n (bys b) (bys b)) ∧ tt True ∧ td ((↑n : Int) = (↑n : Int))) ∧ n - x' < n - x))))))))))) else tt (tt True ∧ td (td ((-1 : Int) = idxN (not255 (bys b)) n))))))))) = _ by kernel_rfl) ?_
  simp only [tt_iff, tu_iff, td_iff, FEq_refl, FEq_zero, condP, decide_eq_true_eq, decide_eq_false_iff_not, true_and, and_true, implies_true, and_self, Bool.true_eq_false, Bool.false_eq_true, false_implies, forall_const, Int.toNat_natCast, Nat.zero_add, gt_iff_lt, ge_iff_le, Nat.le_refl, Bool.not_eq_true, Bool.not_eq_false, Int.not_lt, Int.not_le, Nat.not_lt, Nat.not_le]
  have hl : lim = 1099511627776 := rfl
  refine ⟨0, ⟨Nat.zero_le _, rfl⟩, ⟨by simp, id⟩, fun k ⟨hk, hi⟩ => ⟨fun hlt => ?_, fun hge => ?_⟩⟩
  · have hk' : k < n := by omega
    refine ⟨⟨by omega, hlt⟩, fun hp => (idxN_stays (not255 (bys b)) hi hp hk').symm, fun hp => ⟨⟨by omega, by omega⟩, k + 1, ⟨by omega, idxN_no (not255 (bys b)) hi hp⟩, ⟨by omega, id⟩, by omega⟩⟩
  · obtain rfl : k = n := by omega
    exact hi.symm

def ContainsBCon : Con where
  run xs L := match xs, L with
    | [.ro 1 n f _, .fn 31 [] []], [] => some (Byt f n, .v (.bool (decide (0 ≤ idxN (not255 f) n))), [])
    | _, _ => none

theorem ContainsB_ok : ContainsBCon.Ok Try.prog 30 := by
  refine Con.ofG (U := Nat) (X := []) (T := [(43, IndexBCon)]) mixed nmOk ⟨IndexB_ok, trivial⟩ trivial Try.func30 rfl 200 (fun _ _ => []) (fun _ _ => false) (fun _ _ _ _ _ _ => none) ?_
  intro xs L pre x L' h hp
  unfold ContainsBCon at h
  dsimp only at h
  split at h <;> try (simp at h; done)
  rename_i n f e
  cases h
  refine ⟨Nat.le_of_ble_eq_true rfl, ?_⟩
  obtain ⟨hn, b, rfl⟩ := hp
  refine cast (show (tt (tt (tt ((tt (td (tt True)) ∧ (n ≤ (1099511627776 : Nat) ∧ ∃ (b_1 : Nat → Int), bys b = bys b_1) ∧ (false = true → True)) ∧ tt (tt (tt True ∧ td (td (decide (idxN (not255 (bys b)) n ≥ (0 : Int)) = decide ((0 : Int) ≤ idxN (not255 (bys b)) n))))))))) = _ by kernel_rfl) ?_
  simp only [tt_iff, tu_iff, td_iff, FEq_refl, FEq_zero, condP, decide_eq_true_eq, decide_eq_false_iff_not, true_and, and_true, implies_true, and_self, Bool.true_eq_false, Bool.false_eq_true, false_implies, forall_const, Int.toNat_natCast, Nat.zero_add, gt_iff_lt, ge_iff_le, Nat.le_refl, Bool.not_eq_true, Bool.not_eq_false, Int.not_lt, Int.not_le, Nat.not_lt, Nat.not_le]
  exact ⟨hn, b, rfl⟩

structure DecE where
  c : Int
  h : Int
  l : RL
  e : Int
/-- Where Decode stands: at most how many rounds more, where the rest begins, the records, cylinder and head. -/
structure DecS where
  m : Nat
  o : Nat
  t : RL
  c : Int
  h : Int

def badE : DecE := ⟨0, 0, nilRL, 5⟩
def decRec (b : Nat → Int) (o : Nat) : RecD := ⟨b (o + 4), (b (o + 5)).toNat, fun k => b (o + (8 + k)), (half2 (b (o + 6)) (b (o + 7))).toNat, fun k => b (o + (8 + (b (o + 5)).toNat + k)), false⟩
def decC (b : Nat → Int) (o : Nat) (t : RL) (c : Int) : Int := cond ((t.n : Int) == 0) (half2 (b o) (b (o + 1))) c
def decH (b : Nat → Int) (o : Nat) (t : RL) (h : Int) : Int := cond ((t.n : Int) == 0) (half2 (b (o + 2)) (b (o + 3))) h
def decBad (b : Nat → Int) (N o : Nat) (t : RL) (c h : Int) : Bool :=
  cond (cond (half2 (b o) (b (o + 1)) != decC b o t c) true (half2 (b (o + 2)) (b (o + 3)) != decH b o t h)) true (decide (8 + b (o + 5) + half2 (b (o + 6)) (b (o + 7)) > ((N - o : Nat) : Int)))
def decEnd (b : Nat → Int) (N : Nat) (o : Nat) (t : RL) (c h : Int) : DecE :=
  cond (cond (cond (!(((N - o : Nat) : Int) == 8)) true (!validL t.f t.n)) true (decide (0 ≤ idxN (not255 (bys fun k => b (o + k))) (N - o)))) badE ⟨c, h, t, 0⟩

def decRun (b : Nat → Int) (N : Nat) : Nat → Nat → RL → Int → Int → DecE
  | 0, _, _, _, _ => badE
  | m + 1, o, t, c, h =>
    cond (decide (((N - o : Nat) : Int) > 8)) (cond (decBad b N o t c h) badE (decRun b N m (o + (8 + (b (o + 5)).toNat + (half2 (b (o + 6)) (b (o + 7))).toNat)) (t.snoc (decRec b o)) (decC b o t c) (decH b o t h)))
      (decEnd b N o t c h)

def decI (b : Nat → Int) (N : Nat) : DecE := decRun b N (N + 1) 0 nilRL 0 0

def bytesOf (f : Nat → SV) : Nat → Int := fun k => byteOf (f k)

theorem cond_tf {a b : Bool} (h : cond a true b = false) : a = false ∧ b = false := by
  cases a
  · exact ⟨rfl, h⟩
  · cases h

def DecCon : Con where
  pure := false
  run xs L := match xs, L with
    | [.ro 1 n f _], [] => some (n ≤ big ∧ (∃ b : Nat → Int, f = bys b) ∧ (∀ k, k < n → 0 ≤ byteOf (f k) ∧ byteOf (f k) ≤ 255),
        .tup [.v (.int .i64 (decI (bytesOf f) n).c), .v (.int .i64 (decI (bytesOf f) n).h), rlSl 0 (decI (bytesOf f) n).l, .v (.int .i64 (decI (bytesOf f) n).e)], [(0, rlEnt (decI (bytesOf f) n).l)])
    | _, _ => none

def DecOk (b : Nat → Int) (N : Nat) (s : DecS) : Prop := s.o ≤ N ∧ s.t.n ≤ s.o ∧ N - s.o < s.m ∧ (∀ j, j < s.t.n → RecB (s.t.f j)) ∧ decRun b N s.m s.o s.t s.c s.h = decI b N

def DecInv (xs : List SV) (L : Ents) (f b : Nat) (h : List DecS) (st : St) : Option (LoopSpec DecS) :=
  match xs with
  | [.ro _ n g e] => some { I := fun s => st.mk' [] [(6, rlSl st.nx s.t), (7, .v (.int .i64 s.c)), (8, .v (.int .i64 s.h)), (9, .ro 1 (n - s.o) (fun k => g (s.o + k)) e)] [(st.nx, rlEnt s.t)], ok := DecOk (bytesOf g) n, μ := fun s => n - s.o }
  | _ => none

set_option maxHeartbeats 4000000 in
theorem Dec_ok : DecCon.Ok Try.prog 11 := by
  refine Con.ofG (U := DecS) (X := []) (T := [(14, ValidCon), (23, cloneCon), (29, atCon), (30, ContainsBCon)]) mixed nmOk ⟨Valid_ok, clone_ok, at_ok, ContainsB_ok, trivial⟩ trivial Try.func11 rfl 200 (fun f i => match f, i with | 11, 10 => [[], [], [1], [1, 2], [1, 2, 3], [], [], [5, 6], [], [], [], [8, 9, 10], [1, 2, 3, 4, 5, 6, 7, 8, 9, 10, 11], [1, 2, 3, 4, 5, 6, 7, 8, 9, 10, 11, 12], [1, 2, 3, 4, 5, 6, 7, 8, 9, 10, 11, 12, 13], [0, 1, 2, 3, 4, 5, 6, 7, 8, 9, 10, 11, 12, 13, 14], [0, 1, 2, 3, 4, 5, 6, 7, 8, 9, 10, 11, 12, 13, 14, 15]] | _, _ => []) (fun _ _ => false) DecInv ?_
  intro xs L pre x L' h hp
  unfold DecCon at h
  dsimp only at h
  split at h <;> try (simp at h; done)
  rename_i n f e
  cases h
  refine ⟨Nat.le_of_ble_eq_true rfl, ?_⟩
  obtain ⟨hn, ⟨b, rfl⟩, hb⟩ := hp
  refine cast (show (tt (tt (tt (tt (tt (tt (tt (tt (tt (∃ (x0 : DecS), (DecS.o x0 ≤ n ∧ RL.n (DecS.t x0) ≤ DecS.o x0 ∧ n - DecS.o x0 < DecS.m x0 ∧ (∀ (j : Nat), j < RL.n (DecS.t x0) → RecD.kn (RL.f (DecS.t x0) j) ≤ (1048576 : Nat) ∧ RecD.dn (RL.f (DecS.t x0) j) ≤ (1048576 : Nat)) ∧ decRun (bytesOf (bys b)) n (DecS.m x0) (DecS.o x0) (DecS.t x0) (DecS.c x0) (DecS.h x0) = decI (bytesOf (bys b)) n) ∧ ((((0 : Nat) = (0 : Nat) ∧ RL.n (DecS.t x0) = (0 : Nat) ∧ RL.n (DecS.t x0) = (0 : Nat)) ∧ (0 : Int) = DecS.c x0 ∧ (0 : Int) = DecS.h x0 ∧ td ((e = true → e = true) ∧ n = n - DecS.o x0 ∧ FEq (n - DecS.o x0) (bys b) fun (k : Nat) => bys b (DecS.o x0 + k))) ∧ td ((0 : Nat) = RL.n (DecS.t x0) ∧ FEq (RL.n (DecS.t x0)) (fun (x : Nat) => SV.any) fun (k : Nat) => recOwn (RL.f (DecS.t x0) k))) ∧ ∀ (x : DecS), DecS.o x ≤ n ∧ RL.n (DecS.t x) ≤ DecS.o x ∧ n - DecS.o x < DecS.m x ∧ (∀ (j : Nat), j < RL.n (DecS.t x) → RecD.kn (RL.f (DecS.t x) j) ≤ (1048576 : Nat) ∧ RecD.dn (RL.f (DecS.t x) j) ≤ (1048576 : Nat)) ∧ decRun (bytesOf (bys b)) n (DecS.m x) (DecS.o x) (DecS.t x) (DecS.c x) (DecS.h x) = decI (bytesOf (bys b)) n → tt (tt (tt (bif decide ((↑(n - DecS.o x) : Int) > (8 : Int)) then tt (tt (tt (bif (↑(RL.n (DecS.t x)) : Int) == (0 : Int) then tt ((tt (tt True) ∧ (n - DecS.o x ≤ (1099511627776 : Nat) ∧ (0 : Int) ≤ (0 : Int) ∧ (2 : Int) ≤ (↑(n - DecS.o x) : Int) ∧ ∃ (b_1 : Nat → Int), (fun (k : Nat) => bys b (DecS.o x + k)) = bys b_1) ∧ (false = true → True)) ∧ tt ((tt (tt True) ∧ (n - DecS.o x ≤ (1099511627776 : Nat) ∧ (0 : Int) ≤ (2 : Int) ∧ (4 : Int) ≤ (↑(n - DecS.o x) : Int) ∧ ∃ (b_1 : Nat → Int), (fun (k : Nat) => bys b (DecS.o x + k)) = bys b_1) ∧ (false = true → True)) ∧ tt (tt (tt (((0 : Int) ≤ (5 : Int) ∧ (5 : Int) < (↑(n - DecS.o x) : Int)) ∧ tu (((-9223372036854775808 : Int) ≤ b (DecS.o x + (5 : Nat)) ∧ b (DecS.o x + (5 : Nat)) ≤ (9223372036854775807 : Int)) ∧ ((-9223372036854775808 : Int) ≤ (8 : Int) + b (DecS.o x + (5 : Nat)) ∧ (8 : Int) + b (DecS.o x + (5 : Nat)) ≤ (9223372036854775807 : Int)) ∧ tt (tt (tt ((tt (tt True) ∧ (n - DecS.o x ≤ (1099511627776 : Nat) ∧ (0 : Int) ≤ (6 : Int) ∧ (8 : Int) ≤ (↑(n - DecS.o x) : Int) ∧ ∃ (b_1 : Nat → Int), (fun (k : Nat) => bys b (DecS.o x + k)) = bys b_1) ∧ (false = true → True)) ∧ ((-9223372036854775808 : Int) ≤ (8 : Int) + b (DecS.o x + (5 : Nat)) + half2 (byteOf (SV.v (Value.int IntKind.u8 (b (DecS.o x + (6 : Nat)))))) (byteOf (SV.v (Value.int IntKind.u8 (b (DecS.o x + (7 : Nat)))))) ∧ (8 : Int) + b (DecS.o x + (5 : Nat)) + half2 (byteOf (SV.v (Value.int IntKind.u8 (b (DecS.o x + (6 : Nat)))))) (byteOf (SV.v (Value.int IntKind.u8 (b (DecS.o x + (7 : Nat)))))) ≤ (9223372036854775807 : Int)) ∧ tt (tt ((tt (tt True) ∧ (n - DecS.o x ≤ (1099511627776 : Nat) ∧ (0 : Int) ≤ (0 : Int) ∧ (2 : Int) ≤ (↑(n - DecS.o x) : Int) ∧ ∃ (b_1 : Nat → Int), (fun (k : Nat) => bys b (DecS.o x + k)) = bys b_1) ∧ (false = true → True)) ∧ tt (tt (tt (((!half2 (byteOf (SV.v (Value.int IntKind.u8 (b (DecS.o x + (0 : Nat)))))) (byteOf (SV.v (Value.int IntKind.u8 (b (DecS.o x + (1 : Nat)))))) != half2 (byteOf (SV.v (Value.int IntKind.u8 (b (DecS.o x + (0 : Nat)))))) (byteOf (SV.v (Value.int IntKind.u8 (b (DecS.o x + (1 : Nat))))))) = true → True) ∧ ((!half2 (byteOf (SV.v (Value.int IntKind.u8 (b (DecS.o x + (0 : Nat)))))) (byteOf (SV.v (Value.int IntKind.u8 (b (DecS.o x + (1 : Nat)))))) != half2 (byteOf (SV.v (Value.int IntKind.u8 (b (DecS.o x + (0 : Nat)))))) (byteOf (SV.v (Value.int IntKind.u8 (b (DecS.o x + (1 : Nat))))))) = true → tt (tt True) ∧ (n - DecS.o x ≤ (1099511627776 : Nat) ∧ (0 : Int) ≤ (2 : Int) ∧ (4 : Int) ≤ (↑(n - DecS.o x) : Int) ∧ ∃ (b_1 : Nat → Int), (fun (k : Nat) => bys b (DecS.o x + k)) = bys b_1) ∧ (false = true → True)) ∧ ((!half2 (byteOf (SV.v (Value.int IntKind.u8 (b (DecS.o x + (0 : Nat)))))) (byteOf (SV.v (Value.int IntKind.u8 (b (DecS.o x + (1 : Nat)))))) != half2 (byteOf (SV.v (Value.int IntKind.u8 (b (DecS.o x + (0 : Nat)))))) (byteOf (SV.v (Value.int IntKind.u8 (b (DecS.o x + (1 : Nat))))))) = true → True) ∧ ((!half2 (byteOf (SV.v (Value.int IntKind.u8 (b (DecS.o x + (0 : Nat)))))) (byteOf (SV.v (Value.int IntKind.u8 (b (DecS.o x + (1 : Nat)))))) != half2 (byteOf (SV.v (Value.int IntKind.u8 (b (DecS.o x + (0 : Nat)))))) (byteOf (SV.v (Value.int IntKind.u8 (b (DecS.o x + (1 : Nat))))))) = true → True) ∧ tt (tt (((!bif half2 (byteOf (SV.v (Value.int IntKind.u8 (b (DecS.o x + (0 : Nat)))))) (byteOf (SV.v (Value.int IntKind.u8 (b (DecS.o x + (1 : Nat)))))) != half2 (byteOf (SV.v (Value.int IntKind.u8 (b (DecS.o x + (0 : Nat)))))) (byteOf (SV.v (Value.int IntKind.u8 (b (DecS.o x + (1 : Nat)))))) then true else half2 (byteOf (SV.v (Value.int IntKind.u8 (b (DecS.o x + (2 : Nat)))))) (byteOf (SV.v (Value.int IntKind.u8 (b (DecS.o x + (3 : Nat)))))) != half2 (byteOf (SV.v (Value.int IntKind.u8 (b (DecS.o x + (2 : Nat)))))) (byteOf (SV.v (Value.int IntKind.u8 (b (DecS.o x + (3 : Nat))))))) = true → True) ∧ ((!bif half2 (byteOf (SV.v (Value.int IntKind.u8 (b (DecS.o x + (0 : Nat)))))) (byteOf (SV.v (Value.int IntKind.u8 (b (DecS.o x + (1 : Nat)))))) != half2 (byteOf (SV.v (Value.int IntKind.u8 (b (DecS.o x + (0 : Nat)))))) (byteOf (SV.v (Value.int IntKind.u8 (b (DecS.o x + (1 : Nat)))))) then true else half2 (byteOf (SV.v (Value.int IntKind.u8 (b (DecS.o x + (2 : Nat)))))) (byteOf (SV.v (Value.int IntKind.u8 (b (DecS.o x + (3 : Nat)))))) != half2 (byteOf (SV.v (Value.int IntKind.u8 (b (DecS.o x + (2 : Nat)))))) (byteOf (SV.v (Value.int IntKind.u8 (b (DecS.o x + (3 : Nat))))))) = true → True) ∧ ((!bif half2 (byteOf (SV.v (Value.int IntKind.u8 (b (DecS.o x + (0 : Nat)))))) (byteOf (SV.v (Value.int IntKind.u8 (b (DecS.o x + (1 : Nat)))))) != half2 (byteOf (SV.v (Value.int IntKind.u8 (b (DecS.o x + (0 : Nat)))))) (byteOf (SV.v (Value.int IntKind.u8 (b (DecS.o x + (1 : Nat)))))) then true else half2 (byteOf (SV.v (Value.int IntKind.u8 (b (DecS.o x + (2 : Nat)))))) (byteOf (SV.v (Value.int IntKind.u8 (b (DecS.o x + (3 : Nat)))))) != half2 (byteOf (SV.v (Value.int IntKind.u8 (b (DecS.o x + (2 : Nat)))))) (byteOf (SV.v (Value.int IntKind.u8 (b (DecS.o x + (3 : Nat))))))) = true → True) ∧ ((!bif half2 (byteOf (SV.v (Value.int IntKind.u8 (b (DecS.o x + (0 : Nat)))))) (byteOf (SV.v (Value.int IntKind.u8 (b (DecS.o x + (1 : Nat)))))) != half2 (byteOf (SV.v (Value.int IntKind.u8 (b (DecS.o x + (0 : Nat)))))) (byteOf (SV.v (Value.int IntKind.u8 (b (DecS.o x + (1 : Nat)))))) then true else half2 (byteOf (SV.v (Value.int IntKind.u8 (b (DecS.o x + (2 : Nat)))))) (byteOf (SV.v (Value.int IntKind.u8 (b (DecS.o x + (3 : Nat)))))) != half2 (byteOf (SV.v (Value.int IntKind.u8 (b (DecS.o x + (2 : Nat)))))) (byteOf (SV.v (Value.int IntKind.u8 (b (DecS.o x + (3 : Nat))))))) = true → True) ∧ tt (bif bif bif half2 (byteOf (SV.v (Value.int IntKind.u8 (b (DecS.o x + (0 : Nat)))))) (byteOf (SV.v (Value.int IntKind.u8 (b (DecS.o x + (1 : Nat)))))) != half2 (byteOf (SV.v (Value.int IntKind.u8 (b (DecS.o x + (0 : Nat)))))) (byteOf (SV.v (Value.int IntKind.u8 (b (DecS.o x + (1 : Nat)))))) then true else half2 (byteOf (SV.v (Value.int IntKind.u8 (b (DecS.o x + (2 : Nat)))))) (byteOf (SV.v (Value.int IntKind.u8 (b (DecS.o x + (3 : Nat)))))) != half2 (byteOf (SV.v (Value.int IntKind.u8 (b (DecS.o x + (2 : Nat)))))) (byteOf (SV.v (Value.int IntKind.u8 (b (DecS.o x + (3 : Nat)))))) then true else decide ((8 : Int) + b (DecS.o x + (5 : Nat)) + half2 (byteOf (SV.v (Value.int IntKind.u8 (b (DecS.o x + (6 : Nat)))))) (byteOf (SV.v (Value.int IntKind.u8 (b (DecS.o x + (7 : Nat)))))) > (↑(n - DecS.o x) : Int)) then tt (tt (tt (tt (tt (tt (tt (tt True))) ∧ td ((0 : Int) = DecE.c (decI (bytesOf (bys b)) n) ∧ (0 : Int) = DecE.h (decI (bytesOf (bys b)) n) ∧ ((0 : Nat) = (0 : Nat) ∧ RL.n (DecE.l (decI (bytesOf (bys b)) n)) = (0 : Nat) ∧ RL.n (DecE.l (decI (bytesOf (bys b)) n)) = (0 : Nat)) ∧ td ((5 : Int) = DecE.e (decI (bytesOf (bys b)) n))) ∧ td ((0 : Nat) = RL.n (DecE.l (decI (bytesOf (bys b)) n)) ∧ FEq (RL.n (DecE.l (decI (bytesOf (bys b)) n))) (fun (x : Nat) => SV.any) fun (k : Nat) => recOwn (RL.f (DecE.l (decI (bytesOf (bys b)) n)) k)))))) else tt (tt (((0 : Int) ≤ (4 : Int) ∧ (4 : Int) < (↑(n - DecS.o x) : Int)) ∧ tu (((-9223372036854775808 : Int) ≤ b (DecS.o x + (4 : Nat)) ∧ b (DecS.o x + (4 : Nat)) ≤ (9223372036854775807 : Int)) ∧ tt (tt (((0 : Int) ≤ (8 : Int) ∧ (8 : Int) ≤ (8 : Int) + b (DecS.o x + (5 : Nat)) ∧ (8 : Int) + b (DecS.o x + (5 : Nat)) ≤ (↑(n - DecS.o x) : Int)) ∧ tt (tt (tt (((0 : Int) ≤ (8 : Int) + b (DecS.o x + (5 : Nat)) ∧ (8 : Int) + b (DecS.o x + (5 : Nat)) ≤ (8 : Int) + b (DecS.o x + (5 : Nat)) + half2 (byteOf (SV.v (Value.int IntKind.u8 (b (DecS.o x + (6 : Nat)))))) (byteOf (SV.v (Value.int IntKind.u8 (b (DecS.o x + (7 : Nat)))))) ∧ (8 : Int) + b (DecS.o x + (5 : Nat)) + half2 (byteOf (SV.v (Value.int IntKind.u8 (b (DecS.o x + (6 : Nat)))))) (byteOf (SV.v (Value.int IntKind.u8 (b (DecS.o x + (7 : Nat)))))) ≤ (↑(n - DecS.o x) : Int)) ∧ tt (td ((td (tt (tt (tt (tt True)))) ∧ (Int.toNat ((8 : Int) + b (DecS.o x + (5 : Nat))) - (8 : Nat) ≤ (1099511627776 : Nat) ∧ Int.toNat ((8 : Int) + b (DecS.o x + (5 : Nat)) + half2 (byteOf (SV.v (Value.int IntKind.u8 (b (DecS.o x + (6 : Nat)))))) (byteOf (SV.v (Value.int IntKind.u8 (b (DecS.o x + (7 : Nat))))))) - Int.toNat ((8 : Int) + b (DecS.o x + (5 : Nat))) ≤ (1099511627776 : Nat)) ∧ (false = true → tt (tt (tt (tt True))) ∧ (∀ (k : Nat), True) ∧ td (∀ (k : Nat), True))) ∧ td ((true = true → True) ∧ SV.sl (0 : Nat) (4 : Nat) (0 : Nat) (RL.n (DecS.t x)) (RL.n (DecS.t x)) false = SV.sl (0 : Nat) (4 : Nat) (0 : Nat) (RL.n (DecS.t x)) (RL.n (DecS.t x)) false) ∧ td (tu (td (Int.toNat ((8 : Int) + b (DecS.o x + (5 : Nat))) - (8 : Nat) ≤ Int.toNat ((8 : Int) + b (DecS.o x + (5 : Nat))) - (8 : Nat) ∧ td (Int.toNat ((8 : Int) + b (DecS.o x + (5 : Nat)) + half2 (byteOf (SV.v (Value.int IntKind.u8 (b (DecS.o x + (6 : Nat)))))) (byteOf (SV.v (Value.int IntKind.u8 (b (DecS.o x + (7 : Nat))))))) - Int.toNat ((8 : Int) + b (DecS.o x + (5 : Nat))) ≤ Int.toNat ((8 : Int) + b (DecS.o x + (5 : Nat)) + half2 (byteOf (SV.v (Value.int IntKind.u8 (b (DecS.o x + (6 : Nat)))))) (byteOf (SV.v (Value.int IntKind.u8 (b (DecS.o x + (7 : Nat))))))) - Int.toNat ((8 : Int) + b (DecS.o x + (5 : Nat)))))) ∧ td ((true = true → True) ∧ SV.sl (0 : Nat) (4 : Nat) (0 : Nat) (RL.n (DecS.t x)) (RL.n (DecS.t x)) false = SV.sl (0 : Nat) (4 : Nat) (0 : Nat) (RL.n (DecS.t x)) (RL.n (DecS.t x)) false) ∧ td ((RL.n (DecS.t x) = RL.n (DecS.t x) ∧ (1 : Nat) ≤ (1 : Nat) ∧ (RL.n (DecS.t x) + (1 : Nat)) * (64 : Nat) ≤ (140737488355328 : Nat)) ∧ tt (tt (tt (tt (((0 : Int) ≤ (8 : Int) + b (DecS.o x + (5 : Nat)) + half2 (byteOf (SV.v (Value.int IntKind.u8 (b (DecS.o x + (6 : Nat)))))) (byteOf (SV.v (Value.int IntKind.u8 (b (DecS.o x + (7 : Nat)))))) ∧ (8 : Int) + b (DecS.o x + (5 : Nat)) + half2 (byteOf (SV.v (Value.int IntKind.u8 (b (DecS.o x + (6 : Nat)))))) (byteOf (SV.v (Value.int IntKind.u8 (b (DecS.o x + (7 : Nat)))))) ≤ (↑(n - DecS.o x) : Int)) ∧ tt (∃ (x' : DecS), (DecS.o x' ≤ n ∧ RL.n (DecS.t x') ≤ DecS.o x' ∧ n - DecS.o x' < DecS.m x' ∧ (∀ (j : Nat), j < RL.n (DecS.t x') → RecD.kn (RL.f (DecS.t x') j) ≤ (1048576 : Nat) ∧ RecD.dn (RL.f (DecS.t x') j) ≤ (1048576 : Nat)) ∧ decRun (bytesOf (bys b)) n (DecS.m x') (DecS.o x') (DecS.t x') (DecS.c x') (DecS.h x') = decI (bytesOf (bys b)) n) ∧ ((((0 : Nat) = (0 : Nat) ∧ RL.n (DecS.t x) + (1 : Nat) = RL.n (DecS.t x') ∧ RL.n (DecS.t x') ≤ RL.n (DecS.t x') ∧ RL.n (DecS.t x') ≤ RL.n (DecS.t x) + (1 : Nat)) ∧ half2 (byteOf (SV.v (Value.int IntKind.u8 (b (DecS.o x + (0 : Nat)))))) (byteOf (SV.v (Value.int IntKind.u8 (b (DecS.o x + (1 : Nat)))))) = DecS.c x' ∧ half2 (byteOf (SV.v (Value.int IntKind.u8 (b (DecS.o x + (2 : Nat)))))) (byteOf (SV.v (Value.int IntKind.u8 (b (DecS.o x + (3 : Nat)))))) = DecS.h x' ∧ td ((e = true → e = true) ∧ n - DecS.o x - Int.toNat ((8 : Int) + b (DecS.o x + (5 : Nat)) + half2 (byteOf (SV.v (Value.int IntKind.u8 (b (DecS.o x + (6 : Nat)))))) (byteOf (SV.v (Value.int IntKind.u8 (b (DecS.o x + (7 : Nat))))))) = n - DecS.o x' ∧ FEq (n - DecS.o x') (fun (k : Nat) => bys b (DecS.o x + (Int.toNat ((8 : Int) + b (DecS.o x + (5 : Nat)) + half2 (byteOf (SV.v (Value.int IntKind.u8 (b (DecS.o x + (6 : Nat)))))) (byteOf (SV.v (Value.int IntKind.u8 (b (DecS.o x + (7 : Nat))))))) + k))) fun (k : Nat) => bys b (DecS.o x' + k))) ∧ td (RL.n (DecS.t x) + (1 : Nat) = RL.n (DecS.t x') ∧ FEq (RL.n (DecS.t x')) (comb (fun (k : Nat) => recOwn (RL.f (DecS.t x) k)) (seqF [SV.agg [SV.v (Value.int IntKind.i64 (b (DecS.o x + (4 : Nat)))), SV.own (1 : Nat) (Int.toNat ((8 : Int) + b (DecS.o x + (5 : Nat))) - (8 : Nat)) fun (k : Nat) => bys b (DecS.o x + ((8 : Nat) + k)), SV.own (1 : Nat) (Int.toNat ((8 : Int) + b (DecS.o x + (5 : Nat)) + half2 (byteOf (SV.v (Value.int IntKind.u8 (b (DecS.o x + (6 : Nat)))))) (byteOf (SV.v (Value.int IntKind.u8 (b (DecS.o x + (7 : Nat))))))) - Int.toNat ((8 : Int) + b (DecS.o x + (5 : Nat)))) fun (k : Nat) => bys b (DecS.o x + (Int.toNat ((8 : Int) + b (DecS.o x + (5 : Nat))) + k)), SV.v (Value.bool false)]]) (RL.n (DecS.t x))) fun (k : Nat) => recOwn (RL.f (DecS.t x') k))) ∧ n - DecS.o x' < n - DecS.o x)))))))))))))))))))))))))))))))))) else tt (((0 : Int) ≤ (5 : Int) ∧ (5 : Int) < (↑(n - DecS.o x) : Int)) ∧ tu (((-9223372036854775808 : Int) ≤ b (DecS.o x + (5 : Nat)) ∧ b (DecS.o x + (5 : Nat)) ≤ (9223372036854775807 : Int)) ∧ ((-9223372036854775808 : Int) ≤ (8 : Int) + b (DecS.o x + (5 : Nat)) ∧ (8 : Int) + b (DecS.o x + (5 : Nat)) ≤ (9223372036854775807 : Int)) ∧ tt (tt (tt ((tt (tt True) ∧ (n - DecS.o x ≤ (1099511627776 : Nat) ∧ (0 : Int) ≤ (6 : Int) ∧ (8 : Int) ≤ (↑(n - DecS.o x) : Int) ∧ ∃ (b_1 : Nat → Int), (fun (k : Nat) => bys b (DecS.o x + k)) = bys b_1) ∧ (false = true → True)) ∧ ((-9223372036854775808 : Int) ≤ (8 : Int) + b (DecS.o x + (5 : Nat)) + half2 (byteOf (SV.v (Value.int IntKind.u8 (b (DecS.o x + (6 : Nat)))))) (byteOf (SV.v (Value.int IntKind.u8 (b (DecS.o x + (7 : Nat)))))) ∧ (8 : Int) + b (DecS.o x + (5 : Nat)) + half2 (byteOf (SV.v (Value.int IntKind.u8 (b (DecS.o x + (6 : Nat)))))) (byteOf (SV.v (Value.int IntKind.u8 (b (DecS.o x + (7 : Nat)))))) ≤ (9223372036854775807 : Int)) ∧ tt (tt ((tt (tt True) ∧ (n - DecS.o x ≤ (1099511627776 : Nat) ∧ (0 : Int) ≤ (0 : Int) ∧ (2 : Int) ≤ (↑(n - DecS.o x) : Int) ∧ ∃ (b_1 : Nat → Int), (fun (k : Nat) => bys b (DecS.o x + k)) = bys b_1) ∧ (false = true → True)) ∧ tt (tt (tt (((!half2 (byteOf (SV.v (Value.int IntKind.u8 (b (DecS.o x + (0 : Nat)))))) (byteOf (SV.v (Value.int IntKind.u8 (b (DecS.o x + (1 : Nat)))))) != DecS.c x) = true → True) ∧ ((!half2 (byteOf (SV.v (Value.int IntKind.u8 (b (DecS.o x + (0 : Nat)))))) (byteOf (SV.v (Value.int IntKind.u8 (b (DecS.o x + (1 : Nat)))))) != DecS.c x) = true → tt (tt True) ∧ (n - DecS.o x ≤ (1099511627776 : Nat) ∧ (0 : Int) ≤ (2 : Int) ∧ (4 : Int) ≤ (↑(n - DecS.o x) : Int) ∧ ∃ (b_1 : Nat → Int), (fun (k : Nat) => bys b (DecS.o x + k)) = bys b_1) ∧ (false = true → True)) ∧ ((!half2 (byteOf (SV.v (Value.int IntKind.u8 (b (DecS.o x + (0 : Nat)))))) (byteOf (SV.v (Value.int IntKind.u8 (b (DecS.o x + (1 : Nat)))))) != DecS.c x) = true → True) ∧ ((!half2 (byteOf (SV.v (Value.int IntKind.u8 (b (DecS.o x + (0 : Nat)))))) (byteOf (SV.v (Value.int IntKind.u8 (b (DecS.o x + (1 : Nat)))))) != DecS.c x) = true → True) ∧ tt (tt (((!bif half2 (byteOf (SV.v (Value.int IntKind.u8 (b (DecS.o x + (0 : Nat)))))) (byteOf (SV.v (Value.int IntKind.u8 (b (DecS.o x + (1 : Nat)))))) != DecS.c x then true else half2 (byteOf (SV.v (Value.int IntKind.u8 (b (DecS.o x + (2 : Nat)))))) (byteOf (SV.v (Value.int IntKind.u8 (b (DecS.o x + (3 : Nat)))))) != DecS.h x) = true → True) ∧ ((!bif half2 (byteOf (SV.v (Value.int IntKind.u8 (b (DecS.o x + (0 : Nat)))))) (byteOf (SV.v (Value.int IntKind.u8 (b (DecS.o x + (1 : Nat)))))) != DecS.c x then true else half2 (byteOf (SV.v (Value.int IntKind.u8 (b (DecS.o x + (2 : Nat)))))) (byteOf (SV.v (Value.int IntKind.u8 (b (DecS.o x + (3 : Nat)))))) != DecS.h x) = true → True) ∧ ((!bif half2 (byteOf (SV.v (Value.int IntKind.u8 (b (DecS.o x + (0 : Nat)))))) (byteOf (SV.v (Value.int IntKind.u8 (b (DecS.o x + (1 : Nat)))))) != DecS.c x then true else half2 (byteOf (SV.v (Value.int IntKind.u8 (b (DecS.o x + (2 : Nat)))))) (byteOf (SV.v (Value.int IntKind.u8 (b (DecS.o x + (3 : Nat)))))) != DecS.h x) = true → True) ∧ ((!bif half2 (byteOf (SV.v (Value.int IntKind.u8 (b (DecS.o x + (0 : Nat)))))) (byteOf (SV.v (Value.int IntKind.u8 (b (DecS.o x + (1 : Nat)))))) != DecS.c x then true else half2 (byteOf (SV.v (Value.int IntKind.u8 (b (DecS.o x + (2 : Nat)))))) (byteOf (SV.v (Value.int IntKind.u8 (b (DecS.o x + (3 : Nat)))))) != DecS.h x) = true → True) ∧ tt (bif bif bif half2 (byteOf (SV.v (Value.int IntKind.u8 (b (DecS.o x + (0 : Nat)))))) (byteOf (SV.v (Value.int IntKind.u8 (b (DecS.o x + (1 : Nat)))))) != DecS.c x then true else half2 (byteOf (SV.v (Value.int IntKind.u8 (b (DecS.o x + (2 : Nat)))))) (byteOf (SV.v (Value.int IntKind.u8 (b (DecS.o x + (3 : Nat)))))) != DecS.h x then true else decide ((8 : Int) + b (DecS.o x + (5 : Nat)) + half2 (byteOf (SV.v (Value.int IntKind.u8 (b (DecS.o x + (6 : Nat)))))) (byteOf (SV.v (Value.int IntKind.u8 (b (DecS.o x + (7 : Nat)))))) > (↑(n - DecS.o x) : Int)) then tt (tt (tt (tt (tt (tt (tt (tt True))) ∧ td ((0 : Int) = DecE.c (decI (bytesOf (bys b)) n) ∧ (0 : Int) = DecE.h (decI (bytesOf (bys b)) n) ∧ ((0 : Nat) = (0 : Nat) ∧ RL.n (DecE.l (decI (bytesOf (bys b)) n)) = (0 : Nat) ∧ RL.n (DecE.l (decI (bytesOf (bys b)) n)) = (0 : Nat)) ∧ td ((5 : Int) = DecE.e (decI (bytesOf (bys b)) n))) ∧ td ((0 : Nat) = RL.n (DecE.l (decI (bytesOf (bys b)) n)) ∧ FEq (RL.n (DecE.l (decI (bytesOf (bys b)) n))) (fun (x : Nat) => SV.any) fun (k : Nat) => recOwn (RL.f (DecE.l (decI (bytesOf (bys b)) n)) k)))))) else tt (tt (((0 : Int) ≤ (4 : Int) ∧ (4 : Int) < (↑(n - DecS.o x) : Int)) ∧ tu (((-9223372036854775808 : Int) ≤ b (DecS.o x + (4 : Nat)) ∧ b (DecS.o x + (4 : Nat)) ≤ (9223372036854775807 : Int)) ∧ tt (tt (((0 : Int) ≤ (8 : Int) ∧ (8 : Int) ≤ (8 : Int) + b (DecS.o x + (5 : Nat)) ∧ (8 : Int) + b (DecS.o x + (5 : Nat)) ≤ (↑(n - DecS.o x) : Int)) ∧ tt (tt (tt (((0 : Int) ≤ (8 : Int) + b (DecS.o x + (5 : Nat)) ∧ (8 : Int) + b (DecS.o x + (5 : Nat)) ≤ (8 : Int) + b (DecS.o x + (5 : Nat)) + half2 (byteOf (SV.v (Value.int IntKind.u8 (b (DecS.o x + (6 : Nat)))))) (byteOf (SV.v (Value.int IntKind.u8 (b (DecS.o x + (7 : Nat)))))) ∧ (8 : Int) + b (DecS.o x + (5 : Nat)) + half2 (byteOf (SV.v (Value.int IntKind.u8 (b (DecS.o x + (6 : Nat)))))) (byteOf (SV.v (Value.int IntKind.u8 (b (DecS.o x + (7 : Nat)))))) ≤ (↑(n - DecS.o x) : Int)) ∧ tt (td ((td (tt (tt (tt (tt True)))) ∧ (Int.toNat ((8 : Int) + b (DecS.o x + (5 : Nat))) - (8 : Nat) ≤ (1099511627776 : Nat) ∧ Int.toNat ((8 : Int) + b (DecS.o x + (5 : Nat)) + half2 (byteOf (SV.v (Value.int IntKind.u8 (b (DecS.o x + (6 : Nat)))))) (byteOf (SV.v (Value.int IntKind.u8 (b (DecS.o x + (7 : Nat))))))) - Int.toNat ((8 : Int) + b (DecS.o x + (5 : Nat))) ≤ (1099511627776 : Nat)) ∧ (false = true → tt (tt (tt (tt True))) ∧ (∀ (k : Nat), True) ∧ td (∀ (k : Nat), True))) ∧ td ((true = true → True) ∧ SV.sl (0 : Nat) (4 : Nat) (0 : Nat) (RL.n (DecS.t x)) (RL.n (DecS.t x)) false = SV.sl (0 : Nat) (4 : Nat) (0 : Nat) (RL.n (DecS.t x)) (RL.n (DecS.t x)) false) ∧ td (tu (td (Int.toNat ((8 : Int) + b (DecS.o x + (5 : Nat))) - (8 : Nat) ≤ Int.toNat ((8 : Int) + b (DecS.o x + (5 : Nat))) - (8 : Nat) ∧ td (Int.toNat ((8 : Int) + b (DecS.o x + (5 : Nat)) + half2 (byteOf (SV.v (Value.int IntKind.u8 (b (DecS.o x + (6 : Nat)))))) (byteOf (SV.v (Value.int IntKind.u8 (b (DecS.o x + (7 : Nat))))))) - Int.toNat ((8 : Int) + b (DecS.o x + (5 : Nat))) ≤ Int.toNat ((8 : Int) + b (DecS.o x + (5 : Nat)) + half2 (byteOf (SV.v (Value.int IntKind.u8 (b (DecS.o x + (6 : Nat)))))) (byteOf (SV.v (Value.int IntKind.u8 (b (DecS.o x + (7 : Nat))))))) - Int.toNat ((8 : Int) + b (DecS.o x + (5 : Nat)))))) ∧ td ((true = true → True) ∧ SV.sl (0 : Nat) (4 : Nat) (0 : Nat) (RL.n (DecS.t x)) (RL.n (DecS.t x)) false = SV.sl (0 : Nat) (4 : Nat) (0 : Nat) (RL.n (DecS.t x)) (RL.n (DecS.t x)) false) ∧ td ((RL.n (DecS.t x) = RL.n (DecS.t x) ∧ (1 : Nat) ≤ (1 : Nat) ∧ (RL.n (DecS.t x) + (1 : Nat)) * (64 : Nat) ≤ (140737488355328 : Nat)) ∧ tt (tt (tt (tt (((0 : Int) ≤ (8 : Int) + b (DecS.o x + (5 : Nat)) + half2 (byteOf (SV.v (Value.int IntKind.u8 (b (DecS.o x + (6 : Nat)))))) (byteOf (SV.v (Value.int IntKind.u8 (b (DecS.o x + (7 : Nat)))))) ∧ (8 : Int) + b (DecS.o x + (5 : Nat)) + half2 (byteOf (SV.v (Value.int IntKind.u8 (b (DecS.o x + (6 : Nat)))))) (byteOf (SV.v (Value.int IntKind.u8 (b (DecS.o x + (7 : Nat)))))) ≤ (↑(n - DecS.o x) : Int)) ∧ tt (∃ (x' : DecS), (DecS.o x' ≤ n ∧ RL.n (DecS.t x') ≤ DecS.o x' ∧ n - DecS.o x' < DecS.m x' ∧ (∀ (j : Nat), j < RL.n (DecS.t x') → RecD.kn (RL.f (DecS.t x') j) ≤ (1048576 : Nat) ∧ RecD.dn (RL.f (DecS.t x') j) ≤ (1048576 : Nat)) ∧ decRun (bytesOf (bys b)) n (DecS.m x') (DecS.o x') (DecS.t x') (DecS.c x') (DecS.h x') = decI (bytesOf (bys b)) n) ∧ ((((0 : Nat) = (0 : Nat) ∧ RL.n (DecS.t x) + (1 : Nat) = RL.n (DecS.t x') ∧ RL.n (DecS.t x') ≤ RL.n (DecS.t x') ∧ RL.n (DecS.t x') ≤ RL.n (DecS.t x) + (1 : Nat)) ∧ DecS.c x = DecS.c x' ∧ DecS.h x = DecS.h x' ∧ td ((e = true → e = true) ∧ n - DecS.o x - Int.toNat ((8 : Int) + b (DecS.o x + (5 : Nat)) + half2 (byteOf (SV.v (Value.int IntKind.u8 (b (DecS.o x + (6 : Nat)))))) (byteOf (SV.v (Value.int IntKind.u8 (b (DecS.o x + (7 : Nat))))))) = n - DecS.o x' ∧ FEq (n - DecS.o x') (fun (k : Nat) => bys b (DecS.o x + (Int.toNat ((8 : Int) + b (DecS.o x + (5 : Nat)) + half2 (byteOf (SV.v (Value.int IntKind.u8 (b (DecS.o x + (6 : Nat)))))) (byteOf (SV.v (Value.int IntKind.u8 (b (DecS.o x + (7 : Nat))))))) + k))) fun (k : Nat) => bys b (DecS.o x' + k))) ∧ td (RL.n (DecS.t x) + (1 : Nat) = RL.n (DecS.t x') ∧ FEq (RL.n (DecS.t x')) (comb (fun (k : Nat) => recOwn (RL.f (DecS.t x) k)) (seqF [SV.agg [SV.v (Value.int IntKind.i64 (b (DecS.o x + (4 : Nat)))), SV.own (1 : Nat) (Int.toNat ((8 : Int) + b (DecS.o x + (5 : Nat))) - (8 : Nat)) fun (k : Nat) => bys b (DecS.o x + ((8 : Nat) + k)), SV.own (1 : Nat) (Int.toNat ((8 : Int) + b (DecS.o x + (5 : Nat)) + half2 (byteOf (SV.v (Value.int IntKind.u8 (b (DecS.o x + (6 : Nat)))))) (byteOf (SV.v (Value.int IntKind.u8 (b (DecS.o x + (7 : Nat))))))) - Int.toNat ((8 : Int) + b (DecS.o x + (5 : Nat)))) fun (k : Nat) => bys b (DecS.o x + (Int.toNat ((8 : Int) + b (DecS.o x + (5 : Nat))) + k)), SV.v (Value.bool false)]]) (RL.n (DecS.t x))) fun (k : Nat) => recOwn (RL.f (DecS.t x') k))) ∧ n - DecS.o x' < n - DecS.o x))))))))))))))))))))))))))))))))) else tt (tt (tt (tt (((!(↑(n - DecS.o x) : Int) != (8 : Int)) = true → True) ∧ ((!(↑(n - DecS.o x) : Int) != (8 : Int)) = true → td ((0 : Nat) + RL.n (DecS.t x) ≤ RL.n (DecS.t x)) ∧ (RL.n (DecS.t x) ≤ (1048576 : Nat) ∧ (∃ (x_1 : Nat → RecD), (fun (k : Nat) => SV.agg [SV.v (Value.int IntKind.i64 (RecD.r (RL.f (DecS.t x) ((0 : Nat) + k)))), SV.ro (1 : Nat) (RecD.kn (RL.f (DecS.t x) ((0 : Nat) + k))) (fun (k_1 : Nat) => SV.v (Value.int IntKind.u8 (RecD.kf (RL.f (DecS.t x) ((0 : Nat) + k)) k_1))) false, SV.ro (1 : Nat) (RecD.dn (RL.f (DecS.t x) ((0 : Nat) + k))) (fun (k_1 : Nat) => SV.v (Value.int IntKind.u8 (RecD.df (RL.f (DecS.t x) ((0 : Nat) + k)) k_1))) false, SV.v (Value.bool (RecD.bad (RL.f (DecS.t x) ((0 : Nat) + k))))]) = fun (k : Nat) => recSV (x_1 k)) ∧ ∀ (k : Nat), k < RL.n (DecS.t x) → RecD.kn (RL.f (DecS.t x) ((0 : Nat) + k)) ≤ (1048576 : Nat) ∧ RecD.dn (RL.f (DecS.t x) ((0 : Nat) + k)) ≤ (1048576 : Nat)) ∧ (true = true → True)) ∧ ((!(↑(n - DecS.o x) : Int) != (8 : Int)) = true → True) ∧ tt (tt (((!bif (↑(n - DecS.o x) : Int) != (8 : Int) then true else !validL (fun (k : Nat) => RL.f (DecS.t x) ((0 : Nat) + k)) (RL.n (DecS.t x))) = true → True) ∧ ((!bif (↑(n - DecS.o x) : Int) != (8 : Int) then true else !validL (fun (k : Nat) => RL.f (DecS.t x) ((0 : Nat) + k)) (RL.n (DecS.t x))) = true → tt (td (tt True)) ∧ (n - DecS.o x ≤ (1099511627776 : Nat) ∧ ∃ (b_1 : Nat → Int), (fun (k : Nat) => bys b (DecS.o x + k)) = bys b_1) ∧ (false = true → True)) ∧ tt (bif bif bif (↑(n - DecS.o x) : Int) != (8 : Int) then true else !validL (fun (k : Nat) => RL.f (DecS.t x) ((0 : Nat) + k)) (RL.n (DecS.t x)) then true else decide ((0 : Int) ≤ idxN (not255 fun (k : Nat) => bys b (DecS.o x + k)) (n - DecS.o x)) then tt (tt (tt (tt (tt (tt (tt (tt True))) ∧ td ((0 : Int) = DecE.c (decI (bytesOf (bys b)) n) ∧ (0 : Int) = DecE.h (decI (bytesOf (bys b)) n) ∧ ((0 : Nat) = (0 : Nat) ∧ RL.n (DecE.l (decI (bytesOf (bys b)) n)) = (0 : Nat) ∧ RL.n (DecE.l (decI (bytesOf (bys b)) n)) = (0 : Nat)) ∧ td ((5 : Int) = DecE.e (decI (bytesOf (bys b)) n))) ∧ td ((0 : Nat) = RL.n (DecE.l (decI (bytesOf (bys b)) n)) ∧ FEq (RL.n (DecE.l (decI (bytesOf (bys b)) n))) (fun (x : Nat) => SV.any) fun (k : Nat) => recOwn (RL.f (DecE.l (decI (bytesOf (bys b)) n)) k)))))) else tt (tt (tt (tt (tt (tt (tt (tt (tt (tt (tt True))) ∧ td (DecS.c x = DecE.c (decI (bytesOf (bys b)) n) ∧ DecS.h x = DecE.h (decI (bytesOf (bys b)) n) ∧ ((0 : Nat) = (0 : Nat) ∧ RL.n (DecS.t x) = RL.n (DecE.l (decI (bytesOf (bys b)) n)) ∧ RL.n (DecE.l (decI (bytesOf (bys b)) n)) ≤ RL.n (DecE.l (decI (bytesOf (bys b)) n)) ∧ RL.n (DecE.l (decI (bytesOf (bys b)) n)) ≤ RL.n (DecS.t x)) ∧ td ((0 : Int) = DecE.e (decI (bytesOf (bys b)) n))) ∧ td (RL.n (DecS.t x) = RL.n (DecE.l (decI (bytesOf (bys b)) n)) ∧ FEq (RL.n (DecE.l (decI (bytesOf (bys b)) n))) (fun (k : Nat) => recOwn (RL.f (DecS.t x) k)) fun (k : Nat) => recOwn (RL.f (DecE.l (decI (bytesOf (bys b)) n)) k))))))))))))))))))))))))))))) = _ by kernel_rfl) ?_
  simp only [tt_iff, tu_iff, td_iff, FEq_refl, FEq_zero, condP, decide_eq_true_eq, decide_eq_false_iff_not, true_and, and_true, implies_true, and_self, Bool.true_eq_false, Bool.false_eq_true, false_implies, forall_const, Int.toNat_natCast, Nat.zero_add, gt_iff_lt, ge_iff_le, Nat.le_refl, Bool.not_eq_true, Bool.not_eq_false, Int.not_lt, Int.not_le, Nat.not_lt, Nat.not_le]
  have hbig : big = 1048576 := rfl
  have hbb : bytesOf (bys b) = b := rfl
  simp only [byteOf, hbb]
  have hb : ∀ k, k < n → 0 ≤ b k ∧ b k ≤ 255 := hb
  refine ⟨⟨n + 1, 0, nilRL, 0, 0⟩, ⟨Nat.zero_le _, Nat.zero_le _, by simp, fun j hj => by simp [nilRL] at hj, rfl⟩, ⟨⟨rfl, rfl, rfl, id, rfl, fun k _ => by simp⟩, rfl, fun k hk => by simp [nilRL] at hk⟩, ?_⟩
  rintro ⟨m, o, t, c, h⟩ ⟨ho, hto, hm, htb, hrun⟩
  dsimp only at ho hto hm htb hrun ⊢
  obtain ⟨m, rfl⟩ : ∃ m', m = m' + 1 := ⟨m - 1, by omega⟩
  have hx : n - o ≤ 1099511627776 := by omega
  refine ⟨fun h8 => ?_, fun h8 => ?_⟩
  · have hb5 := hb (o + 5) (by omega)
    have hb4 := hb (o + 4) (by omega)
    have hb67 := half2_bd (b (o + 6)) (b (o + 7))
    have h8' : ((n - o : Nat) : Int) > 8 := h8
    have w := And.intro hx (And.intro (Int.le_refl 0) (And.intro (show (2 : Int) ≤ ((n - o : Nat) : Int) by omega) (Exists.intro (p := fun b_1 : Nat → Int => (fun k => bys b (o + k)) = bys b_1) (fun k => b (o + k)) rfl)))
    have w2 := And.intro hx (And.intro (show (0 : Int) ≤ 2 by decide) (And.intro (show (4 : Int) ≤ ((n - o : Nat) : Int) by omega) (Exists.intro (p := fun b_1 : Nat → Int => (fun k => bys b (o + k)) = bys b_1) (fun k => b (o + k)) rfl)))
    have w6 := And.intro hx (And.intro (show (0 : Int) ≤ 6 by decide) (And.intro (show (8 : Int) ≤ ((n - o : Nat) : Int) by omega) (Exists.intro (p := fun b_1 : Nat → Int => (fun k => bys b (o + k)) = bys b_1) (fun k => b (o + k)) rfl)))
    refine ⟨fun ht => ⟨w, w2, ⟨by omega, by omega⟩, ⟨by omega, by omega⟩, ⟨by omega, by omega⟩, w6, ⟨by omega, by omega⟩, w, fun _ => w2, ?_⟩, fun ht => ⟨⟨by omega, by omega⟩, ⟨by omega, by omega⟩, ⟨by omega, by omega⟩, w6, ⟨by omega, by omega⟩, w, fun _ => w2, ?_⟩⟩
    · have hc : decC b o t c = half2 (b o) (b (o + 1)) := by simp only [decC, ht, cond_true]
      have hh : decH b o t h = half2 (b (o + 2)) (b (o + 3)) := by simp only [decH, ht, cond_true]
      refine ⟨fun hbad => ?_, fun hgood => ?_⟩
      · have hB : decBad b n o t c h = true := by
          unfold decBad; rw [hc, hh]; exact hbad
        have hd : decI b n = badE := by
          rw [← hrun]; simp only [decRun, decide_eq_true h8', cond_true, hB]
        rw [hd]
        exact ⟨⟨rfl, rfl, rfl, rfl⟩, rfl, fun k hk => by simp [badE, nilRL] at hk⟩
      · have hB : decBad b n o t c h = false := by
          unfold decBad; rw [hc, hh]; exact hgood
        have hle := of_decide_eq_false (cond_tf hgood).2
        have hrun' : decRun b n m (o + (8 + (b (o + 5)).toNat + (half2 (b (o + 6)) (b (o + 7))).toNat)) (t.snoc (decRec b o)) (decC b o t c) (decH b o t h) = decI b n := by
          rw [← hrun]; simp only [decRun, decide_eq_true h8', cond_true, hB, cond_false]
        rw [hc, hh] at hrun'
        refine ⟨⟨by omega, by omega⟩, ⟨by omega, by omega⟩, ⟨by omega, by omega, by omega⟩, ⟨by omega, by omega, by omega⟩, ⟨by omega, by omega⟩, by omega, ⟨by omega, by omega⟩,
          ⟨m, o + (8 + (b (o + 5)).toNat + (half2 (b (o + 6)) (b (o + 7))).toNat), t.snoc (decRec b o), _, _⟩, ⟨?_, ?_, ?_, ?_, hrun'⟩, ⟨⟨⟨rfl, Nat.le_refl _⟩, rfl, rfl, id, ?_, ?_⟩, rfl, ?_⟩, ?_⟩
        · show o + (8 + (b (o + 5)).toNat + (half2 (b (o + 6)) (b (o + 7))).toNat) ≤ n
          omega
        · show t.n + 1 ≤ o + (8 + (b (o + 5)).toNat + (half2 (b (o + 6)) (b (o + 7))).toNat)
          omega
        · show n - (o + (8 + (b (o + 5)).toNat + (half2 (b (o + 6)) (b (o + 7))).toNat)) < m
          omega
        · exact snoc_b htb ⟨show (b (o + 5)).toNat ≤ big by omega, show (half2 (b (o + 6)) (b (o + 7))).toNat ≤ big by omega⟩
        · show n - o - (8 + b (o + 5) + half2 (b (o + 6)) (b (o + 7))).toNat = n - (o + (8 + (b (o + 5)).toNat + (half2 (b (o + 6)) (b (o + 7))).toNat))
          omega
        · intro k _
          show SV.v (.int .u8 (b _)) = SV.v (.int .u8 (b _))
          have : o + ((8 + b (o + 5) + half2 (b (o + 6)) (b (o + 7))).toNat + k) = o + (8 + (b (o + 5)).toNat + (half2 (b (o + 6)) (b (o + 7))).toNat) + k := by omega
          rw [this]
        · show FEq (t.n + 1) _ (fun k => recOwn ((t.snoc (decRec b o)).f k))
          rw [← own_snoc]
          refine FEq_comb (fun q hq => ?_)
          obtain rfl : q = 0 := by omega
          have e1 : (8 + b (o + 5)).toNat - 8 = (b (o + 5)).toNat := by omega
          have e2 : (8 + b (o + 5) + half2 (b (o + 6)) (b (o + 7))).toNat - (8 + b (o + 5)).toNat = (half2 (b (o + 6)) (b (o + 7))).toNat := by omega
          have e3 : (8 + b (o + 5)).toNat = 8 + (b (o + 5)).toNat := by omega
          rw [e1, e2, e3]
          rfl
        · show n - (o + (8 + (b (o + 5)).toNat + (half2 (b (o + 6)) (b (o + 7))).toNat)) < n - o
          omega
    · have hc : decC b o t c = c := by simp only [decC, ht, cond_false]
      have hh : decH b o t h = h := by simp only [decH, ht, cond_false]
      refine ⟨fun hbad => ?_, fun hgood => ?_⟩
      · have hB : decBad b n o t c h = true := by
          unfold decBad; rw [hc, hh]; exact hbad
        have hd : decI b n = badE := by
          rw [← hrun]; simp only [decRun, decide_eq_true h8', cond_true, hB]
        rw [hd]
        exact ⟨⟨rfl, rfl, rfl, rfl⟩, rfl, fun k hk => by simp [badE, nilRL] at hk⟩
      · have hB : decBad b n o t c h = false := by
          unfold decBad; rw [hc, hh]; exact hgood
        have hle := of_decide_eq_false (cond_tf hgood).2
        have hrun' : decRun b n m (o + (8 + (b (o + 5)).toNat + (half2 (b (o + 6)) (b (o + 7))).toNat)) (t.snoc (decRec b o)) (decC b o t c) (decH b o t h) = decI b n := by
          rw [← hrun]; simp only [decRun, decide_eq_true h8', cond_true, hB, cond_false]
        rw [hc, hh] at hrun'
        refine ⟨⟨by omega, by omega⟩, ⟨by omega, by omega⟩, ⟨by omega, by omega, by omega⟩, ⟨by omega, by omega, by omega⟩, ⟨by omega, by omega⟩, by omega, ⟨by omega, by omega⟩,
          ⟨m, o + (8 + (b (o + 5)).toNat + (half2 (b (o + 6)) (b (o + 7))).toNat), t.snoc (decRec b o), _, _⟩, ⟨?_, ?_, ?_, ?_, hrun'⟩, ⟨⟨⟨rfl, Nat.le_refl _⟩, rfl, rfl, id, ?_, ?_⟩, rfl, ?_⟩, ?_⟩
        · show o + (8 + (b (o + 5)).toNat + (half2 (b (o + 6)) (b (o + 7))).toNat) ≤ n
          omega
        · show t.n + 1 ≤ o + (8 + (b (o + 5)).toNat + (half2 (b (o + 6)) (b (o + 7))).toNat)
          omega
        · show n - (o + (8 + (b (o + 5)).toNat + (half2 (b (o + 6)) (b (o + 7))).toNat)) < m
          omega
        · exact snoc_b htb ⟨show (b (o + 5)).toNat ≤ big by omega, show (half2 (b (o + 6)) (b (o + 7))).toNat ≤ big by omega⟩
        · show n - o - (8 + b (o + 5) + half2 (b (o + 6)) (b (o + 7))).toNat = n - (o + (8 + (b (o + 5)).toNat + (half2 (b (o + 6)) (b (o + 7))).toNat))
          omega
        · intro k _
          show SV.v (.int .u8 (b _)) = SV.v (.int .u8 (b _))
          have : o + ((8 + b (o + 5) + half2 (b (o + 6)) (b (o + 7))).toNat + k) = o + (8 + (b (o + 5)).toNat + (half2 (b (o + 6)) (b (o + 7))).toNat) + k := by omega
          rw [this]
        · show FEq (t.n + 1) _ (fun k => recOwn ((t.snoc (decRec b o)).f k))
          rw [← own_snoc]
          refine FEq_comb (fun q hq => ?_)
          obtain rfl : q = 0 := by omega
          have e1 : (8 + b (o + 5)).toNat - 8 = (b (o + 5)).toNat := by omega
          have e2 : (8 + b (o + 5) + half2 (b (o + 6)) (b (o + 7))).toNat - (8 + b (o + 5)).toNat = (half2 (b (o + 6)) (b (o + 7))).toNat := by omega
          have e3 : (8 + b (o + 5)).toNat = 8 + (b (o + 5)).toNat := by omega
          rw [e1, e2, e3]
          rfl
        · show n - (o + (8 + (b (o + 5)).toNat + (half2 (b (o + 6)) (b (o + 7))).toNat)) < n - o
          omega
  · have h8' : ¬ ((n - o : Nat) : Int) > 8 := by omega
    have hrun' : decEnd b n o t c h = decI b n := by
      rw [← hrun]; simp only [decRun, decide_eq_false h8', cond_false]
    refine ⟨fun _ => ⟨by omega, ⟨t.f, rfl⟩, htb⟩, fun _ => ⟨hx, _, rfl⟩, fun h1 => ?_, fun h1 => ?_⟩
    · have hd : decI b n = badE := by
        rw [← hrun']
        unfold decEnd
        exact congrArg (fun z => cond z badE ⟨c, h, t, 0⟩) h1
      rw [hd]
      exact ⟨⟨rfl, rfl, rfl, rfl⟩, rfl, fun k hk => by simp [badE, nilRL] at hk⟩
    · have hd : decI b n = ⟨c, h, t, 0⟩ := by
        rw [← hrun']
        unfold decEnd
        exact congrArg (fun z => cond z badE ⟨c, h, t, 0⟩) h1
      rw [hd]
      exact ⟨⟨rfl, rfl, ⟨rfl, Nat.le_refl _⟩, rfl⟩, rfl, fun _ _ => rfl⟩
end Go.Tk
