import Derived.Test.YtjbiemeaelnhaaaProg
import Derived.Test.YtjbiemeaelnhaaaSumP
import Derived.WalkKit
import Derived.LoopTactic
import Derived.Outline
import Derived.Test.YtjbiemeaelnhaaaCore
/- The program's table of half bytes. -/
namespace Go.Proofs.Ytjbiemeaelnhaaa
open Go.RowKit

def tabE (k j : Nat) : Value := .int .u32 (if j < k then (SumP.bitsN 4 j 0 : Int) else 0)
def tabV (k : Nat) : Array Value := ⟨(List.range 16).map (tabE k)⟩
theorem tabV_size (k : Nat) : (tabV k).size = 16 := rfl
theorem tabV_get (k j : Nat) (h : j < 16) : (tabV k)[j]? = some (.int .u32 (if j < k then (SumP.bitsN 4 j 0 : Int) else 0)) := by
  simp [tabV, tabE, h]
theorem tabV_one (k : Nat) : (tabV k).all (·.oneCell') = true := by
  rw [Array.all_eq_true_iff_forall_mem]
  intro v hv
  simp only [tabV, List.mem_toArray, List.mem_map] at hv
  obtain ⟨_, _, rfl⟩ := hv
  rfl
theorem tabV_set (k : Nat) (h : k < 16) : (tabV k).setIfInBounds k (.int .u32 (SumP.bitsN 4 k 0 : Int)) = tabV (k + 1) := by
  apply Array.ext_getElem?
  intro i
  rw [Array.getElem?_setIfInBounds]
  by_cases hi : i < 16
  · rw [tabV_get _ _ hi, tabV_get _ _ hi]
    by_cases he : k = i
    · subst he; simp [tabV_size, h]
    · rw [if_neg he]
      by_cases h1 : i < k
      · rw [if_pos h1, if_pos (by omega)]
      · rw [if_neg h1, if_neg (by omega)]
  · rw [if_neg (by omega)]; simp [tabV, hi]
theorem and1 {c : Nat} (h : c < 4294967296) : bits .and .u32 (c : Int) 1 = ((c % 2 : Nat) : Int) := by
  rw [show ((1 : Int)) = ((1 : Nat) : Int) from rfl, u32_and_nat c 1 h (by omega), nat_mask1]
theorem bit4_yes {c : Nat} (h : c < 4294967296) (hb : (((c % 2 : Nat) : Int) == 1) = true) : bits .xor .u32 ((c : Int) / 2) 2197175160 = (SumP.bit c 0 : Int) := by
  have hb' : c % 2 = 1 := by simp at hb; omega
  rw [SumP.bit, if_pos (by rw [hb']; decide)]
  exact u32_xor_nat (c / 2) 2197175160 (by omega) (by omega)
theorem bit4_no {c : Nat} (hb : (((c % 2 : Nat) : Int) == 1) = false) : ((c : Int) / 2) = (SumP.bit c 0 : Int) := by
  have hb' : c % 2 = 0 := by simp at hb; omega
  rw [SumP.bit, if_neg (by rw [hb']; decide)]; rfl

set_option maxHeartbeats 400000 in
theorem sumHalves (w : World) :
    Calls Try.prog 43 #[] w fun e w' => e = .returned (.agg (tabV 16)) ∧ Below w.heap.size w w' := by
  go_enter Try.func43, Try.ntmps43
  go_wp2
  go_loopw [2, 3, 4] (fun _ _ i wr => ∃ k : Nat, k ≤ 16 ∧ i = .int .i64 k ∧ Bk wr w.heap.size 73 (tabV 0) ∧ Bk wr (w.heap.size + 1) 73 (tabV k) ∧ Below w.heap.size w wr) (fun _ _ i _ => 16 - (intOf i).toNat)
  case atStart => exact ⟨0, by omega, rfl, (Bk.new _ _ _).alloc _, heap_alloc2_new w _ _, ((Below.refl _ _).alloc (Nat.le_refl _) _).alloc (by simp) _⟩
  case round =>
    obtain ⟨k, hk, rfl, hB0, hB1, hbel⟩ := hrel
    by_cases hlt : k < 16
    · have hg := (hB1.cell k).trans (tabV_get k k hlt)
      have hf := hB1.free k
      have HB0 := Lib.hid hB0
      have HB1 := Lib.hid hB1
      have HBE := Lib.hid hbel
      clear hB0 hB1 hbel
      go_wp2
      go_loop [3, 9] (fun c i => ∃ q : Nat, q ≤ 4 ∧ i = .int .i64 q ∧ c = .int .u32 (SumP.bitsN q k 0 : Int)) (fun _ i => 4 - (intOf i).toNat)
      case atStart => exact ⟨0, by omega, rfl, by simp [SumP.bitsN]⟩
      case round =>
        obtain ⟨q, hq, rfl, rfl⟩ := hrel
        have hrq := SumP.bitsN_lt q k 0 (by omega)
        have ha := and1 hrq
        have HQ := Lib.hid (SumP.bitsN_succ q k 0)
        have HE := Lib.hid (show q = 4 → SumP.bitsN q k 0 = SumP.bitsN 4 k 0 from fun e => by rw [e])
        generalize SumP.bitsN q k 0 = rq at *
        by_cases hlt4 : q < 4
        · go_wp2
          all_goals
            go_round
            case rel =>
              refine ⟨q + 1, by omega, by go_num, ?_⟩
              rw [HQ.out, Nat.zero_div]; first | exact congrArg _ (bit4_yes hrq ‹_›) | exact congrArg _ (bit4_no ‹_›)
            case measure => simp [intOf]; omega
        · go_wp2
          go_roundw
          case rel =>
            refine ⟨k + 1, by omega, by go_num, HB0.out.other (by simp) _, ?_, HBE.out.setCell (by simp) _⟩
            rw [HE.out (by omega), ← tabV_set k hlt]
            exact HB1.out.set k _
          case measure => simp [intOf]; omega
    · obtain rfl : k = 16 := by omega
      have HB0 := Lib.hid hB0
      have HB1 := Lib.hid hB1
      have HBE := Lib.hid hbel
      clear hB0 hB1 hbel
      go_wp2_with (first | ((refine wpList_load_row rfl 73 (.tmp 1) rfl (w.heap.size + 1) rfl 73 (tabV 16) _ _ HB1.out Try.underlying73 rfl (by kernel_rfl) ?_)) | ((refine storeWhole rfl 73 (.tmp 0) (.tmp 24) rfl w.heap.size 73 (tabV 0) (tabV 16) rfl rfl HB0.out rfl (by kernel_rfl) (tabV_one _) ?_)))
      intro w1 hb1 hg1
      go_wp2
      refine bodyPost_ret (results_cell_row rfl _ _ w.heap.size 73 (tabV 16) _ _ rfl hb1 Try.underlying73 rfl (by kernel_rfl)) rfl ⟨rfl, ?_⟩
      exact HBE.out.grown hg1 (HBE.out.size) (fun k e => by injection e with e; omega)
end Go.Proofs.Ytjbiemeaelnhaaa
