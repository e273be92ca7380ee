import Derived.Test.YtjbiemeaelnhaaaSumA
import Derived.Test.YtjbiemeaelnhaaaSumB
/- The program's sum of bytes, half a byte at a time. -/
namespace Go.Proofs.Ytjbiemeaelnhaaa
open Go.RowKit

theorem nib_walk {c : Nat} (h : c < 4294967296) : bits .xor .u32 ((c : Int) / 16) (SumP.bitsN 4 (c % 16) 0 : Int) = (SumP.nib c : Int) :=
  u32_xor_nat (c / 16) _ (by omega) (SumP.bitsN_lt _ _ _ (by omega))

set_option maxHeartbeats 400000 in
theorem sumStep (c : Nat) (hc : c < 4294967296) (w : World) (A : Option Addr) (n cap : Nat) (l : List UInt8) (h : Rb w A n l) :
    Calls Try.prog 42 #[.int .u32 c, .slice A n cap, .agg (tabV 16)] w fun e w' => e = .returned (.int .u32 (SumP.run c l : Int)) ∧ Below w.heap.size w w' := by
  have hn := h.bound
  have H := Lib.hid (h.below ((Below.refl w.heap.size w).alloc (Nat.le_refl _) (.cells (tabV 16) 73)))
  have HL := Lib.hid h.len
  clear h
  go_enter Try.func42, Try.ntmps42
  go_wp2
  go_loop [0, 8, 11] (fun c' _ i => ∃ k : Nat, k ≤ n ∧ i = .int .i64 k ∧ c' = .int .u32 (SumP.run c (l.take k) : Int)) (fun _ _ i => n - (intOf i).toNat)
  case atStart => exact ⟨0, Nat.zero_le _, rfl, by simp [SumP.run]⟩
  case round =>
    obtain ⟨k, hk, rfl, rfl⟩ := hrel
    have hr := SumP.run_lt c (l.take k) hc
    by_cases hlt : k < n
    · obtain ⟨ad, rfl, hcell⟩ := H.out.at_ hlt
      have hx := bt_lt l k
      have HS := Lib.hid (SumP.byte_bt c l k (by rw [HL.out]; exact hlt))
      generalize SumP.run c (l.take k) = r at *
      generalize bt l k = x at *
      have e1 := u32_xor_nat r x hr (by omega)
      have hy : r ^^^ x < 4294967296 := Nat.xor_lt_two_pow (n := 32) hr (by omega)
      have HB := Lib.hid (SumP.byte_nib' r x hx)
      generalize r ^^^ x = y at *
      have e2 : bits .and .u32 (y : Int) 15 = ((y % 16 : Nat) : Int) := (u32_and_nat y 15 hy (by omega)).trans (by rw [nat_mask4])
      have e3 := nib_walk hy
      have hz := SumP.nib_lt y hy
      generalize SumP.nib y = z at *
      have e4 : bits .and .u32 (z : Int) 15 = ((z % 16 : Nat) : Int) := (u32_and_nat z 15 hz (by omega)).trans (by rw [nat_mask4])
      have e5 := nib_walk hz
      have hb := Bk.new w 73 (tabV 16)
      have c1 := (hb.cell (y % 16)).trans (tabV_get 16 (y % 16) (by omega))
      have c2 := (hb.cell (z % 16)).trans (tabV_get 16 (z % 16) (by omega))
      rw [if_pos (by omega)] at c1 c2
      have hs := tabV_size 16
      clear hb
      go_wp2
      go_round
      case rel => exact ⟨k + 1, by omega, by go_num, by rw [HS.out, HB.out]⟩
      case measure => simp [intOf]; omega
    · obtain rfl : k = n := by omega
      go_wp2
      go_ret
      refine ⟨ret_int ?_, (Below.refl _ _).alloc (Nat.le_refl _) _⟩
      rw [List.take_of_length_le (by rw [HL.out]; omega)]
end Go.Proofs.Ytjbiemeaelnhaaa
