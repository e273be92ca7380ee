import Derived.Test.YtjbiemeaelnhaaaSumF
/- The program's Runs. -/
namespace Go.Proofs.Ytjbiemeaelnhaaa
open Go.RowKit

def flat (ls : List (List UInt8)) : List UInt8 := ls.foldr (· ++ ·) []
theorem flat_take (ls : List (List UInt8)) (k : Nat) (h : k < ls.length) : flat (ls.take (k + 1)) = flat (ls.take k) ++ nth ls k := by
  induction ls generalizing k with
  | nil => simp at h
  | cons a ls ih =>
    cases k with
    | zero => simp [flat, nth]
    | succ k => simpa [flat, nth] using ih k (by simpa using h)

set_option maxHeartbeats 400000 in
theorem sumRuns (w : World) (A : Option Addr) (m cap : Nat) (ls : List (List UInt8)) (h : Rbb w A m ls) :
    Calls Try.prog 22 #[.slice A m cap] w fun e w' => e = .returned (.int .u32 (SumP.more 0 (flat ls) : Int)) ∧ Below w.heap.size w w' := by
  have hm := h.bound
  have H := Lib.hid h
  clear h
  go_enter Try.func22, Try.ntmps22
  go_wp2_with fail
  refine (sumHalves _).mono ?_
  rintro e w1 ⟨rfl, hb1⟩
  go_wp2_with (first | (refine storeWhole rfl 73 (.tmp 4) (.tmp 7) rfl w1.heap.size 73 (tabV 0) (tabV 16) rfl rfl (Bk.new _ _ _) rfl (by kernel_rfl) (tabV_one _) ?_; intro w2 hk2 hg2))
  have HB := Lib.hid (Below.then_grown (hb1.alloc hb1.size (.cells (tabV 0) 73)) (Nat.le_refl _) hg2 (fun k hk => by have h1 := hb1.size; have h2 : w1.heap.size = k := Option.some.inj hk; omega))
  have HK := Lib.hid hk2
  have HLT := Lib.hid hk2.lt
  generalize w1.heap.size = g at *
  clear hk2 hg2
  go_loopw [3, 6, 10] (fun x _ i wr => ∃ k : Nat, k ≤ m ∧ i = .int .i64 k ∧ x = .int .u32 (SumP.run 4294967295 (flat (ls.take k)) : Int) ∧ Bk wr g 73 (tabV 16) ∧ Below w.heap.size w wr) (fun _ _ i _ => m - (intOf i).toNat)
  case atStart => exact ⟨0, Nat.zero_le _, rfl, by simp [flat, SumP.run], HK.out, HB.out⟩
  case round =>
    obtain ⟨k, hk, rfl, rfl, hbk, hbw⟩ := hrel
    have hr := SumP.run_lt 4294967295 (flat (ls.take k)) (by omega)
    have HK := Lib.hid hbk
    have HW := Lib.hid hbw
    clear hbk hbw
    by_cases hlt : k < m
    · obtain ⟨ad, B, n, c, rfl, hcell, hrb, hnc⟩ := (H.out.below HW.out).at_ hlt
      have HR := Lib.hid hrb
      have HS := Lib.hid (show SumP.run 4294967295 (flat (ls.take (k + 1))) = SumP.run (SumP.run 4294967295 (flat (ls.take k))) (nth ls k) from by rw [flat_take ls k (by rw [H.out.len]; exact hlt), SumP.run_append])
      clear hrb
      generalize SumP.run 4294967295 (flat (ls.take k)) = r at *
      go_wp2_with (first
        | (refine wpList_load_row rfl 73 (.tmp 4) rfl g rfl 73 (tabV 16) _ _ HK.out Try.underlying73 rfl (by kernel_rfl) ?_)
        | (go_at_call 42; refine (sumStep r hr _ B n c _ HR.out).mono ?_; rintro e w3 ⟨rfl, hb3⟩))
      go_roundw
      case rel => exact ⟨k + 1, by omega, by go_num, by rw [HS.out], HK.out.below hb3 HK.out.lt, Below.then_below HW.out hb3⟩
      case measure => simp [intOf]; omega
    · obtain rfl : k = m := by omega
      have e2 := not_u32 _ hr
      go_wp2
      go_ret
      refine ⟨ret_int ?_, HW.out⟩
      rw [SumP.more, List.take_of_length_le (by rw [H.out.len]; omega)]
end Go.Proofs.Ytjbiemeaelnhaaa
