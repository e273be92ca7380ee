import Derived.Test.YtcjonnfhnddapaaNumA
import Derived.Lib.OthersKept
import Derived.Deep.RegionHeld3
/- The reference's Digits. -/
namespace Go.Proofs.Ytcjonnfhnddapaa.Num
open Go.RowKit NumP

theorem digCut (k : Nat) (h : k < 10) : ByteArray.extract ⟨#[48, 49, 50, 51, 52, 53, 54, 55, 56, 57]⟩ k (k + 1) = mk [UInt8.ofNat (k + 48)] := by
  have hh : k = 0 ∨ k = 1 ∨ k = 2 ∨ k = 3 ∨ k = 4 ∨ k = 5 ∨ k = 6 ∨ k = 7 ∨ k = 8 ∨ k = 9 := by omega
  rcases hh with rfl | rfl | rfl | rfl | rfl | rfl | rfl | rfl | rfl | rfl <;> decide +kernel
theorem wrap_i (n : Int) (h0 : -9223372036854775808 ≤ n) (h1 : n ≤ 9223372036854775807) : IntKind.i64.wrap n = n := by
  simp only [IntKind.wrap, IntKind.bits, IntKind.signed]; simp; omega
theorem mk_size (l : List UInt8) : (mk l).size = l.length := rfl

set_option maxHeartbeats 400000 in
theorem refDigits (f : Nat) (w : World) (n : Nat) (hf : f < 20) (hn : n < 10 ^ (f + 1)) (h1 : (n : Int) ≤ 9223372036854775807) :
    Calls Try.prog 39 #[.int .i64 n] w fun e w' => e = .returned (.string (mk (digL (f + 1) n))) ∧ Below w.heap.size w w' := by
  induction f generalizing w n with
  | zero =>
    have h10 : n < 10 := by simpa using hn
    have hd := digCut n h10
    have hz : (ByteArray.mk #[48, 49, 50, 51, 52, 53, 54, 55, 56, 57]).size = 10 := rfl
    rw [digL, if_pos h10]
    go_enter Try.func39, Try.ntmps39
    go_wp2
    go_ret
    exact ⟨ret_str (by first | rfl | simp), Below.refl _ _⟩
  | succ f ih =>
    rw [digL]
    by_cases h10 : n < 10
    · rw [if_pos h10]
      have hd := digCut n h10
      have hz : (ByteArray.mk #[48, 49, 50, 51, 52, 53, 54, 55, 56, 57]).size = 10 := rfl
      go_enter Try.func39, Try.ntmps39
      go_wp2
      go_ret
      exact ⟨ret_str (by first | rfl | simp), Below.refl _ _⟩
    · rw [if_neg h10]
      have hq : n / 10 < 10 ^ (f + 1) := by rw [Nat.pow_succ] at hn; omega
      have hd := digCut (n % 10) (Nat.mod_lt _ (by omega))
      have hz : (ByteArray.mk #[48, 49, 50, 51, 52, 53, 54, 55, 56, 57]).size = 10 := rfl
      have hr10 : n % 10 < 10 := Nat.mod_lt _ (by omega)
      have hm : (n : Int) % 10 = ((n % 10 : Nat) : Int) := by omega
      have hm2 : (n : Int).tmod 10 = ((n % 10 : Nat) : Int) := rfl
      have hv : (n : Int) / 10 = ((n / 10 : Nat) : Int) := by omega
      have hq1 : ((n / 10 : Nat) : Int) ≤ 9223372036854775807 := by omega
      have hI0 : ∀ W, Calls Try.prog 39 #[.int .i64 ((n / 10 : Nat) : Int)] W fun e w' => e = .returned (.string (mk (digL (f + 1) (n / 10)))) ∧ Below W.heap.size W w' := fun W => ih W (n / 10) (by omega) hq hq1
      have hap := mk_append (digL (f + 1) (n / 10)) [UInt8.ofNat (n % 10 + 48)]
      have hs : (mk (digL (f + 1) (n / 10))).size ≤ 20 := by rw [mk_size]; exact Nat.le_trans (digL_len _ _) (by omega)
      rw [← hap]
      clear hap ih
      generalize mk (digL (f + 1) (n / 10)) = a at *
      generalize n % 10 = r at *
      generalize n / 10 = q at *
      have hs1 : (mk [UInt8.ofNat (r + 48)]).size = 1 := rfl
      have hs2 : ((mk [UInt8.ofNat (r + 48)]).size : Int) ≤ 8388608 := by rw [hs1]; decide
      have hs3 : (a.size : Int) ≤ 8388608 := by omega
      have hs4 : ¬ (9223372036854775807 < a.size + (mk [UInt8.ofNat (r + 48)]).size) := by omega
      clear hs1
      generalize mk [UInt8.ofNat (r + 48)] = b at *
      have hw1 := wrap_i (q : Int) (by omega) (by omega)
      have hw2 := wrap_i (r : Int) (by omega) (by omega)
      have hw3 := wrap_i ((r : Int) + 1) (by omega) (by omega)
      have hi1 : (0 : Int) ≤ (r : Int) := by omega
      have hi2 : (r : Int) ≤ (r : Int) + 1 := by omega
      have hi3 : (r : Int) + 1 ≤ 10 := by omega
      have hi4 : (0 : Int) ≤ (r : Int) + 1 := by omega
      have hsl : ∀ W, (Instr.slice 9 (.string ⟨#[48, 49, 50, 51, 52, 53, 54, 55, 56, 57]⟩) (some (.int .i64 r)) (some (.int .i64 ((r : Int) + 1))) none).run Try.prog W = .ok (.string b) W := fun W => by
        rw [← hd]
        simp [Instr.slice, run_underlying Try.underlying9, Instr.sliceBounds, run_sliceBound, hz, hi1, hi3, hi4, go_sem]
        try omega
      go_enter Try.func39, Try.ntmps39
      go_wp2
      go_region_held3 (fun w' => Below w.heap.size w w')
        (first | exact Below.refl _ _ | exact (below_drewN (Below.refl _ _) 1) | assumption | exact Below.then_below ‹_› ‹_›)
        (first
          | (go_at_call 39; (with_reducible refine (hI0 _).mono ?_); rintro e w2 ⟨rfl, hb2⟩))
      go_wp2
      go_ret
      exact ⟨ret_str (by first | rfl | simp), by assumption⟩
end Go.Proofs.Ytcjonnfhnddapaa.Num
