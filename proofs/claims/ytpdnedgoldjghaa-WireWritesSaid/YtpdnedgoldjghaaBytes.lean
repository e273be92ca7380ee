import Derived.Test.YtpdnedgoldjghaaProg
import Derived.WalkKit
import Derived.LoopTactic
import Derived.Outline
import Derived.Deep.QuietTactic
import Derived.BigQuiet
import Derived.Test.YtpdnedgoldjghaaCore
/- banyanref05.Same: are two slices of bytes one? -/
namespace Go.Proofs.Ytpdnedgoldjghaa
open Go.RowKit

def sameB (a b : List UInt8) : Bool := decide (a = b)
theorem sameB_self (a : List UInt8) : sameB a a = true := by simp [sameB]

theorem bt_ne (a b : List UInt8) (k : Nat) (h : ((bt a k : Int) != (bt b k : Int)) = true) : sameB a b = false := by
  simp at h
  simp only [sameB, decide_eq_false_iff_not]
  rintro rfl
  exact h rfl

set_option maxHeartbeats 400000 in
theorem refSame (w : World) (A B : Option Addr) (n m cap cap' : Nat) (a b : List UInt8) (ha : Rb w A n a) (hb : Rb w B m b) :
    Calls Try.prog 40 #[.slice A n cap, .slice B m cap'] w fun e w' => e = .returned (.bool (sameB a b)) ∧ Below w.heap.size w w' := by
  have hn := ha.bound
  have hm := hb.bound
  have HA := Lib.hid ha
  have HB := Lib.hid hb
  clear ha hb
  by_cases hl : n = m
  · subst hl
    have hne : ((n : Int) != (n : Int)) = false := by simp
    go_enter Try.func40, Try.ntmps40
    go_wp2
    go_loopw [5] (fun i wr => ∃ k q : Nat, k ≤ n ∧ i = .int .i64 k ∧ wr = w.drewN q ∧ Hid (a.take k = b.take k)) (fun i _ => n - (intOf i).toNat)
    case atStart => exact ⟨0, 0, Nat.zero_le _, rfl, rfl, by simpa using Lib.hid (rfl : ([] : List UInt8) = [])⟩
    case round =>
      obtain ⟨k, q, hk, rfl, rfl, ht⟩ := hrel
      by_cases hlt : k < n
      · obtain ⟨ad, rfl, h1⟩ := HA.out.at_ hlt
        obtain ⟨ad', rfl, h2⟩ := HB.out.at_ hlt
        have hi : (k : Int) < (n : Int) := by omega
        have h0 : (0 : Int) ≤ (k : Int) := by omega
        have HN := Lib.hid (bt_ne a b k)
        have HS := Lib.hid (take_succ_u8 a k (by rw [HA.out.len]; exact hlt))
        have HT := Lib.hid (take_succ_u8 b k (by rw [HB.out.len]; exact hlt))
        generalize bt a k = x at *
        generalize bt b k = y at *
        go_wp2_with fail
        go_quiet (fail)
        go_wp2
        · go_ret
          exact ⟨ret_bool (HN.out ‹_›).symm, below_drewN (below_drewN (Below.refl _ _) _) _⟩
        · have he : x = y := by
            have h3 : ((x : Int) != (y : Int)) = false := ‹_›
            simp at h3
            omega
          go_roundw
          case rel => exact ⟨k + 1, q + nq, by omega, by go_num, rfl, Lib.hid (by rw [HS.out, HT.out, ht.out, he])⟩
          case measure => simp [intOf]; omega
      · obtain rfl : k = n := by omega
        go_wp2
        go_ret
        refine ⟨?_, below_drewN (Below.refl _ _) _⟩
        have h3 := ht.out
        rw [List.take_of_length_le (by rw [HA.out.len]; omega), List.take_of_length_le (by rw [HB.out.len]; omega)] at h3
        subst h3
        exact ret_bool (sameB_self _).symm
  · have hne : ((n : Int) != (m : Int)) = true := by simp; omega
    have hf : sameB a b = false := by
      simp only [sameB, decide_eq_false_iff_not]
      rintro rfl
      exact hl (HA.out.len.symm.trans HB.out.len)
    go_enter Try.func40, Try.ntmps40
    go_wp2
    go_ret
    exact ⟨ret_bool hf.symm, Below.refl _ _⟩
end Go.Proofs.Ytpdnedgoldjghaa
