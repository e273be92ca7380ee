import Derived.Test.YtjbiemeaelnhaaaSumG
import Derived.Test.YtjbiemeaelnhaaaFrmP
import Derived.Deep.RegionHeld3
import Derived.Deep.RegionWith
import Derived.Sort.AtCall
/- What may be a frame: the program's Check and the reference's. -/
namespace Go.Proofs.Ytjbiemeaelnhaaa.Frm
open Go.RowKit FrmP

/-- A frame as a value. -/
def frV (k f t : Int) (A : Option Addr) (n c : Nat) : Value := .agg #[.int .i64 k, .int .i64 f, .int .i64 t, .slice A n c]
theorem rep (w : World) (n : Int) : Calls Try.prog 44 #[.int .i64 n] w fun e w' => e = .returned (.bool (decide (0 ≤ n ∧ n ≤ 63))) ∧ w = w' := by
  by_cases h0 : 0 ≤ n
  · by_cases h1 : n ≤ 63
    · rw [decide_eq_true ⟨h0, h1⟩]
      have h2 : n < 64 := by omega
      go_enter Try.func44, Try.ntmps44
      go_wp2
      go_ret
      exact ⟨rfl, rfl⟩
    · rw [decide_eq_false (fun h => h1 h.2)]
      have h2 : ¬ n < 64 := by omega
      go_enter Try.func44, Try.ntmps44
      go_wp2
      go_ret
      exact ⟨rfl, rfl⟩
  · rw [decide_eq_false (fun h => h0 h.1)]
    go_enter Try.func44, Try.ntmps44
    go_wp2
    go_ret
    exact ⟨rfl, rfl⟩
theorem cs (k f t : Int) (n : Nat) : (k ≠ 1 ∧ k ≠ 2 ∧ k ≠ 3 ∧ k < 1) ∨ (k ≠ 1 ∧ k ≠ 2 ∧ k ≠ 3 ∧ ¬ k < 1 ∧ 3 < k) ∨ ((k = 1 ∨ k = 2 ∨ k = 3) ∧ (f < 0 ∨ (¬ f < 0 ∧ 63 < f) ∨ (¬ f < 0 ∧ ¬ 63 < f ∧ t < 0) ∨ (¬ f < 0 ∧ ¬ 63 < f ∧ ¬ t < 0 ∧ 63 < t) ∨
    (¬ f < 0 ∧ ¬ 63 < f ∧ ¬ t < 0 ∧ ¬ 63 < t ∧ f = t) ∨ (¬ f < 0 ∧ ¬ 63 < f ∧ ¬ t < 0 ∧ ¬ 63 < t ∧ f ≠ t ∧ 65536 < n) ∨ (¬ f < 0 ∧ ¬ 63 < f ∧ ¬ t < 0 ∧ ¬ 63 < t ∧ f ≠ t ∧ ¬ 65536 < n))) := by omega
set_option maxHeartbeats 2000000 in
theorem refCheck (w : World) (k f t : Int) (A : Option Addr) (n c : Nat) :
    Calls Try.prog 26 #[frV k f t A n c] w fun e w' => e = .returned (.int .i64 (chk k f t n : Nat)) ∧ Below w.heap.size w w' := by
  unfold frV
  rcases cs k f t n with ⟨k1, k2, k3, k4⟩ | ⟨k1, k2, k3, k4, k5⟩ | ⟨rfl | rfl | rfl, h | ⟨h1, h⟩ | ⟨h1, h2, h⟩ | ⟨h1, h2, h3, h⟩ | ⟨h1, h2, h3, h4, h⟩ | ⟨h1, h2, h3, h4, h5, h⟩ | ⟨h1, h2, h3, h4, h5, h⟩⟩
  all_goals
    first
    | rw [chk_arg (by omega)]
    | rw [chk_size (by omega) (by omega) (by omega) (by omega) (by omega) (by omega) h5 (by omega)]
    | rw [chk_yes (by omega) (by omega) (by omega) (by omega) (by omega) (by omega) h5 (by omega)]
    try have e1 : (k != 1) = true := by simpa using k1
    try have e2 : (k != 2) = true := by simpa using k2
    try have e3 : (k != 3) = true := by simpa using k3
    try have e5 : (f == t) = false := by simpa using h5
    go_enter Try.func26, Try.ntmps26
    go_wp2
    go_ret
    exact ⟨rfl, (Below.refl _ _).alloc (Nat.le_refl _) _⟩
set_option maxHeartbeats 2000000 in
theorem check (w : World) (k f t : Int) (A : Option Addr) (n c : Nat) :
    Calls Try.prog 27 #[frV k f t A n c] w fun e w' => e = .returned (.int .i64 (chk k f t n : Nat)) ∧ Below w.heap.size w w' := by
  unfold frV
  rcases cs k f t n with ⟨k1, k2, k3, k4⟩ | ⟨k1, k2, k3, k4, k5⟩ | ⟨rfl | rfl | rfl, h | ⟨h1, h⟩ | ⟨h1, h2, h⟩ | ⟨h1, h2, h3, h⟩ | ⟨h1, h2, h3, h4, h⟩ | ⟨h1, h2, h3, h4, h5, h⟩ | ⟨h1, h2, h3, h4, h5, h⟩⟩
  all_goals
    first
    | rw [chk_arg (by omega)]
    | rw [chk_size (by omega) (by omega) (by omega) (by omega) (by omega) (by omega) h5 (by omega)]
    | rw [chk_yes (by omega) (by omega) (by omega) (by omega) (by omega) (by omega) h5 (by omega)]
    try have e5 : (f == t) = false := by simpa using h5
    go_enter Try.func27, Try.ntmps27
    go_wp2_with ((with_reducible refine (rep _ _).mono ?_); rintro e w1 ⟨rfl, rfl⟩; first | rw [decide_eq_true (by omega)] | rw [decide_eq_false (by omega)])
    go_ret
    exact ⟨rfl, (Below.refl _ _).alloc (Nat.le_refl _) _⟩
end Go.Proofs.Ytjbiemeaelnhaaa.Frm
