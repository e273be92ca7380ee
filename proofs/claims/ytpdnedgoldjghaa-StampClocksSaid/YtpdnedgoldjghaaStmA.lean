import Derived.Test.YtpdnedgoldjghaaNumD
import Derived.Test.YtpdnedgoldjghaaStmP
import Derived.Deep.RegionHeld3
/- stamp: Right, Reserved, Root, Trash, Lost. -/
namespace Go.Proofs.Ytpdnedgoldjghaa.Stm
open Go.RowKit NumP StmP Num

abbrev sV (t r : Int) : Value := .agg #[.int .i64 t, .int .i64 r]
set_option maxHeartbeats 800000 in
theorem refRight (w : World) (t r : Int) : Calls Try.prog 12 #[sV t r] w fun e w' => e = .returned (.bool (right t r)) ∧ Below w.heap.size w w' := by
  have key : (1 ≤ t ∧ t ≤ 281474976710656 ∧ 0 ≤ r ∧ r ≤ 63) ∨ t < 1 ∨ (1 ≤ t ∧ 281474976710656 < t) ∨ (1 ≤ t ∧ t ≤ 281474976710656 ∧ r < 0) ∨ (1 ≤ t ∧ t ≤ 281474976710656 ∧ 0 ≤ r ∧ 63 < r) := by omega
  rcases key with ⟨h1, h2, h3, h4⟩ | h1 | ⟨h1, h2⟩ | ⟨h1, h2, h3⟩ | ⟨h1, h2, h3, h4⟩
  all_goals
    go_enter Try.func12, Try.ntmps12
    go_wp2
    go_ret
    exact ⟨ret_bool (by symm; rw [Bool.eq_iff_iff]; simp [right]; omega), (Below.refl _ _).alloc (Nat.le_refl _) _⟩
set_option maxHeartbeats 800000 in
theorem stRight (w : World) (t r : Int) : Calls Try.prog 23 #[sV t r] w fun e w' => e = .returned (.bool (right t r)) ∧ Below w.heap.size w w' := by
  have key : (1 ≤ t ∧ t ≤ 281474976710656 ∧ 0 ≤ r ∧ r < 64) ∨ t < 1 ∨ (1 ≤ t ∧ 281474976710656 < t) ∨ (1 ≤ t ∧ t ≤ 281474976710656 ∧ r < 0) ∨ (1 ≤ t ∧ t ≤ 281474976710656 ∧ 0 ≤ r ∧ 64 ≤ r) := by omega
  rcases key with ⟨h1, h2, h3, h4⟩ | h1 | ⟨h1, h2⟩ | ⟨h1, h2, h3⟩ | ⟨h1, h2, h3, h4⟩
  all_goals
    go_enter Try.func23, Try.ntmps23
    go_wp2
    go_ret
    exact ⟨ret_bool (by symm; rw [Bool.eq_iff_iff]; simp [right]; omega), (Below.refl _ _).alloc (Nat.le_refl _) _⟩
set_option maxHeartbeats 800000 in
theorem refReserved (w : World) (t r : Int) : Calls Try.prog 13 #[sV t r] w fun e w' => e = .returned (.bool (resv t r)) ∧ Below w.heap.size w w' := by
  by_cases h0 : t = 0
  · have h0 : (t == 0) = true := by simpa using h0
    have key : (0 ≤ r ∧ r ≤ 2) ∨ r < 0 ∨ (0 ≤ r ∧ 2 < r) := by omega
    rcases key with ⟨h1, h2⟩ | h1 | ⟨h1, h2⟩
    all_goals
      go_enter Try.func13, Try.ntmps13
      go_wp2
      go_ret
      exact ⟨ret_bool (by symm; simp at h0; rw [Bool.eq_iff_iff]; simp [resv]; omega), (Below.refl _ _).alloc (Nat.le_refl _) _⟩
  · have h0 : (t == 0) = false := by simpa using h0
    go_enter Try.func13, Try.ntmps13
    go_wp2
    go_ret
    exact ⟨ret_bool (by symm; simp at h0; rw [Bool.eq_iff_iff]; simp [resv]; omega), (Below.refl _ _).alloc (Nat.le_refl _) _⟩
set_option maxHeartbeats 800000 in
theorem root (w : World) : Calls Try.prog 27 #[] w fun e w' => e = .returned (sV 0 0) ∧ Below w.heap.size w w' := by
  go_enter Try.func27, Try.ntmps27
  go_wp2
  refine bodyPost_ret (results_cell_row rfl _ _ w.heap.size 23 #[.int .i64 0, .int .i64 0] _ _ rfl (heap_alloc_new w _) Try.underlying23 rfl (by kernel_rfl)) rfl ⟨rfl, (Below.refl _ _).alloc (Nat.le_refl _) _⟩
set_option maxHeartbeats 800000 in
theorem trash (w : World) : Calls Try.prog 28 #[] w fun e w' => e = .returned (sV 0 1) ∧ Below w.heap.size w w' := by
  go_enter Try.func28, Try.ntmps28
  go_wp2
  refine bodyPost_ret (results_cell_row rfl _ _ w.heap.size 23 #[.int .i64 0, .int .i64 1] _ _ rfl (heap_alloc_new w _) Try.underlying23 rfl (by kernel_rfl)) rfl ⟨rfl, (Below.refl _ _).alloc (Nat.le_refl _) _⟩
set_option maxHeartbeats 800000 in
theorem lost (w : World) : Calls Try.prog 29 #[] w fun e w' => e = .returned (sV 0 2) ∧ Below w.heap.size w w' := by
  go_enter Try.func29, Try.ntmps29
  go_wp2
  refine bodyPost_ret (results_cell_row rfl _ _ w.heap.size 23 #[.int .i64 0, .int .i64 2] _ _ rfl (heap_alloc_new w _) Try.underlying23 rfl (by kernel_rfl)) rfl ⟨rfl, (Below.refl _ _).alloc (Nat.le_refl _) _⟩
end Go.Proofs.Ytpdnedgoldjghaa.Stm
