import Derived.Test.YtjbiemeaelnhaaaSumD
import Derived.Test.YtjbiemeaelnhaaaBytes
/- The reference's Seal and Open. -/
namespace Go.Proofs.Ytjbiemeaelnhaaa
open Go.RowKit

set_option maxHeartbeats 400000 in
theorem refSeal (w : World) (A : Option Addr) (n cap : Nat) (l : List UInt8) (h : Rb w A n l) (hn : n + 4 ≤ 140737488355328) :
    Calls Try.prog 21 #[.slice A n cap] w fun e w' => ∃ v, e = .returned v ∧ w'.ownsRow w.heap.size 5 1 v (n + 4) (bytesV (SumP.sealB l)) ∧ Below w.heap.size w w' := by
  have H := Lib.hid h
  have hs := SumP.more_lt 0 l
  clear h
  go_enter Try.func21, Try.ntmps21
  go_wp2_with fail
  refine (refMore 0 (by omega) _ A n cap l H.out).mono ?_
  rintro e w1 ⟨rfl, rfl⟩
  have HQ := Lib.hid (show SumP.sealB l = l ++ SumP.le4 (SumP.more 0 l) from rfl)
  generalize SumP.more 0 l = s at *
  go_wp2_with (first
    | (refine appendBytes rfl (.tmp 8) (.tmp 9) 22 rfl 5 Try.underlying22 u8info w.heap.size (.slice none 0 0) 0 [] rfl (World.ownsRow_nil _ _ _ _) A n cap l rfl H.out (by omega) (Nat.le_refl _) ?_; intro v2 w2 ho2 hg2 hat2))
  go_loopw [3, 4, 5] (fun x v i wr => ∃ k : Nat, k ≤ 4 ∧ i = .int .i64 k ∧ x = .int .u32 ((s / 256 ^ k : Nat) : Int) ∧ wr.ownsRow w.heap.size 5 1 v (n + k) (bytesV (l ++ (SumP.le4 s).take k)) ∧ Below w.heap.size w wr) (fun _ _ i _ => 4 - (intOf i).toNat)
  case atStart => exact ⟨0, by omega, rfl, by simp, by simpa using ho2, Below.then_grown (Below.refl _ _) (Nat.le_refl _) hg2 (by simp [Value.ownBlock])⟩
  case round =>
    obtain ⟨k, hk, rfl, rfl, ho, hb⟩ := hrel
    by_cases hlt : k < 4
    · have hd : s / 256 ^ k < 4294967296 := Nat.lt_of_le_of_lt (Nat.div_le_self _ _) hs
      have HT := Lib.hid (SumP.le4_take s k hlt)
      have HX := Lib.hid (Nat.div_div_eq_div_mul s (256 ^ k) 256)
      have HO := Lib.hid ho
      have HB := Lib.hid hb
      clear ho hb
      generalize s / 256 ^ k = q at *
      go_wp2_with (first
        | (refine appendBytes rfl (.tmp 15) (.tmp 19) 22 rfl 5 Try.underlying22 u8info w.heap.size _ (n + k) _ rfl (HO.out.alloc _) (some ⟨wr.heap.size, 0, none⟩) 1 1 [UInt8.ofNat q] rfl (Rb.new _ _ _ _ (by simp) (by simp [bytesV]) 1 rfl) (by omega) (by have := HB.out.size; simp; omega) ?_; intro v3 w3 ho3 hg3 hat3))
      go_roundw
      case rel =>
        refine ⟨k + 1, by omega, by go_num, ?_, ?_, ?_⟩
        · rw [Nat.pow_succ, ← HX.out]; go_num
        · rw [HT.out, ← List.append_assoc]; exact ho3
        · exact Below.then_grown (HB.out.alloc HB.out.size _) (Nat.le_refl _) hg3 (fun k hk => (HO.out.lt k hk).1)
      case measure => simp [intOf]; omega
    · obtain rfl : k = 4 := by omega
      have HO := Lib.hid ho
      have HB := Lib.hid hb
      clear ho hb
      go_wp2
      go_ret
      exact ⟨_, rfl, by rw [HQ.out]; exact HO.out, HB.out⟩
end Go.Proofs.Ytjbiemeaelnhaaa
