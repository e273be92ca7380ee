import Derived.Test.YtjbiemeaelnhaaaProg
import Derived.Test.YtjbiemeaelnhaaaSumP
import Derived.WalkKit
import Derived.LoopTactic
import Derived.Outline
import Derived.Test.YtjbiemeaelnhaaaCore
/- The reference's sum of bytes, bit by bit. -/
namespace Go.Proofs.Ytjbiemeaelnhaaa
open Go.RowKit

theorem SumP.byte_bt (r : Nat) (l : List UInt8) (k : Nat) (h : k < l.length) : SumP.run r (l.take (k + 1)) = SumP.bitsN 8 (SumP.run r (l.take k)) (bt l k) := by
  rw [take_succ_u8 l k h, SumP.run_append]
  simp [SumP.run, SumP.byte, Nat.mod_eq_of_lt (bt_lt l k)]
theorem ne_cast (r x : Nat) : ((r : Int) % 2 != (x : Int) % 2) = (r % 2 != x % 2) := by
  rw [Bool.eq_iff_iff]; simp; omega
theorem bit_yes {r x : Nat} (hr : r < 4294967296) (h : ((r : Int) % 2 != (x : Int) % 2) = true) : bits .xor .u32 ((r : Int) / 2) 2197175160 = (SumP.bit r x : Int) := by
  rw [ne_cast] at h
  rw [SumP.bit, if_pos h]
  exact u32_xor_nat (r / 2) 2197175160 (by omega) (by omega)
theorem bit_no {r x : Nat} (h : ((r : Int) % 2 != (x : Int) % 2) = false) : (r : Int) / 2 = (SumP.bit r x : Int) := by
  rw [ne_cast] at h
  rw [SumP.bit, if_neg (by rw [h]; decide)]; rfl
set_option maxHeartbeats 400000 in
theorem refMore (c : Nat) (hc : c < 4294967296) (w : World) (A : Option Addr) (n cap : Nat) (l : List UInt8) (h : Rb w A n l) :
    Calls Try.prog 17 #[.int .u32 c, .slice A n cap] w fun e w' => e = .returned (.int .u32 (SumP.more c l : Int)) ∧ w = w' := by
  have hn := h.bound
  have H := Lib.hid h
  clear h
  go_enter Try.func17, Try.ntmps17
  go_wp2
  go_loop [5, 6] (fun r i => ∃ k : Nat, k ≤ n ∧ i = .int .i64 k ∧ r = .int .u32 (SumP.run (4294967295 - c) (l.take k) : Int)) (fun _ i => n - (intOf i).toNat)
  case atStart => exact ⟨0, Nat.zero_le _, rfl, by simp [SumP.run]; omega⟩
  case round =>
    obtain ⟨k, hk, rfl, rfl⟩ := hrel
    have hr := SumP.run_lt (4294967295 - c) (l.take k) (by omega)
    by_cases hlt : k < n
    · obtain ⟨ad, rfl, hcell⟩ := H.out.at_ hlt
      have hx := bt_lt l k
      have HS := Lib.hid (SumP.byte_bt (4294967295 - c) l k (by rw [H.out.len]; exact hlt))
      generalize SumP.run (4294967295 - c) (l.take k) = r at *
      generalize bt l k = x at *
      go_wp2
      go_loop [5, 7, 8, 9] (fun r' x' i o => ∃ q : Nat, q ≤ 8 ∧ i = .int .i64 q ∧ r' = .int .u32 (SumP.bitsN q r x : Int) ∧ x' = .int .u8 ((x / 2 ^ q : Nat) : Int)) (fun _ _ i _ => 8 - (intOf i).toNat)
      case atStart => exact ⟨0, by omega, rfl, by simp [SumP.bitsN], by simp⟩
      case round =>
        obtain ⟨q, hq, rfl, rfl, rfl⟩ := hrel
        have hrq := SumP.bitsN_lt q r x hr
        have hxq : x / 2 ^ q < 256 := Nat.lt_of_le_of_lt (Nat.div_le_self _ _) hx
        have HQ := Lib.hid (SumP.bitsN_succ q r x)
        have HX := Lib.hid (Nat.div_div_eq_div_mul x (2 ^ q) 2)
        have HE := Lib.hid (show q = 8 → SumP.bitsN q r x = SumP.bitsN 8 r x from fun e => by rw [e])
        generalize SumP.bitsN q r x = rq at *
        generalize x / 2 ^ q = xq at *
        by_cases hlt8 : q < 8
        · go_wp2
          all_goals
            go_round
            case rel =>
              refine ⟨q + 1, by omega, by go_num, ?_, ?_⟩
              · rw [HQ.out]; first | exact congrArg _ (bit_yes hrq ‹_›) | exact congrArg _ (bit_no ‹_›)
              · rw [Nat.pow_succ, ← HX.out]; go_num
            case measure => simp [intOf]; omega
        · go_wp2
          go_round
          case rel => exact ⟨k + 1, by omega, by go_num, by rw [HS.out, HE.out (by omega)]⟩
          case measure => simp [intOf]; omega
    · obtain rfl : k = n := by omega
      go_wp2
      go_ret
      refine ⟨ret_int ?_, rfl⟩
      rw [SumP.more, List.take_of_length_le (by rw [H.out.len]; omega)] at *
      omega
end Go.Proofs.Ytjbiemeaelnhaaa
