import Derived.Test.YtcjonnfhnddapaaProg
import Derived.WalkKit
import Derived.LoopTactic
import Derived.Outline
import Derived.Deep.QuietTactic
import Derived.BigQuiet
import Derived.WalkSpells
import Derived.WalkLawsBesides
import Derived.Test.YtcjonnfhnddapaaCore
import Derived.Test.YtcjonnfhnddapaaNumP
/- name.Digits and the reference's. -/
namespace Go.Proofs.Ytcjonnfhnddapaa.Num
open Go.RowKit NumP

/-- A text of bytes. -/
def mk (l : List UInt8) : ByteArray := ⟨l.toArray⟩
theorem mk_append (a b : List UInt8) : mk a ++ mk b = mk (a ++ b) := by
  apply ByteArray.ext
  simp [mk]

set_option maxHeartbeats 400000 in
theorem digits (w : World) (n : Int) (h0 : -9223372036854775808 ≤ n) (h1 : n ≤ 9223372036854775807) :
    Calls Try.prog 38 #[.int .i64 n] w fun e w' => e = .returned (.string (mk (digs n.toNat))) ∧ Below w.heap.size w w' := by
  by_cases hn : n ≤ 0
  · have e : digs n.toNat = [48] := by rw [show n.toNat = 0 by omega]; rfl
    rw [e]
    go_enter Try.func38, Try.ntmps38
    go_wp2
    go_ret
    exact ⟨rfl, Below.refl _ _⟩
  · obtain ⟨m, rfl⟩ := Int.eq_ofNat_of_zero_le (show 0 ≤ n by omega)
    rw [Int.toNat_natCast]
    go_enter Try.func38, Try.ntmps38
    go_wp2
    go_loopw [0, 3] (fun x t wr => ∃ (q : Nat) (tl : List UInt8), q ≤ m ∧ x = .int .i64 q ∧ t = .string (mk tl) ∧ Below w.heap.size w wr ∧ Hid ((q = 0 ∧ tl = digs m) ∨ (0 < q ∧ ∃ f, f + tl.length = 20 ∧ q < 10 ^ f ∧ digL f q ++ tl = digs m))) (fun x _ _ => (intOf x).toNat)
    case atStart => exact ⟨m, [], Nat.le_refl _, rfl, rfl, Below.refl _ _, Lib.hid (.inr ⟨by omega, 20, rfl, Nat.lt_of_le_of_lt (show m ≤ 9223372036854775807 by omega) (by decide), by simp [digs]⟩)⟩
    case round =>
      obtain ⟨q, tl, hq, rfl, rfl, hb, HD⟩ := hrel
      have HB := Lib.hid hb
      clear hb
      by_cases hp : 0 < q
      · have hd : q % 10 < 10 := Nat.mod_lt _ (by omega)
        have HC := Lib.hid (fun (W : World) => run_bytesString (P := Try.prog) (dst := 9) Try.underlying61 Try.underlying5 Try.underlying9 (Rb.new W 5 #[.int .u8 (48 + (q : Int) % 10)] [UInt8.ofNat (q % 10 + 48)] (by simp) (by simp [bytesV]; omega) 1 rfl) 1)
        have hc := HC.out
        have hs : (mk tl).size ≤ 20 := by
          show tl.toArray.size ≤ 20
          rcases HD.out with ⟨h, _⟩ | ⟨_, f, h, _⟩
          · omega
          · simp; omega
        have hs2 : (ByteArray.mk #[UInt8.ofNat (q % 10) + 48]).size = 1 := rfl
        go_wp2
        case roundEnd =>
          have hq2 : (q : Int) / 10 = ((q / 10 : Nat) : Int) := by omega
          rw [hq2]
          refine ⟨⟨q / 10, UInt8.ofNat (q % 10 + 48) :: tl, by omega, rfl, ?_, ?_, Lib.hid ?_⟩, ?_⟩
          · rw [show (UInt8.ofNat (q % 10) + 48 : UInt8) = UInt8.ofNat (q % 10 + 48) from (UInt8.ofNat_add (q % 10) 48).symm]
            exact congrArg Value.string (mk_append [UInt8.ofNat (q % 10 + 48)] tl)
          · exact Below.then_below HB.out (below_of_grown (World.grownBy_alloc _ _ none))
          · rcases HD.out with ⟨h, _⟩ | ⟨_, f, hf, hlt, he⟩
            · omega
            · obtain ⟨g, rfl⟩ : ∃ g, f = g + 1 := ⟨f - 1, by
                cases f with
                | zero => simp at hlt; omega
                | succ f => rfl⟩
              rw [digL] at he
              rw [Nat.pow_succ] at hlt
              by_cases h10 : q < 10
              · rw [if_pos h10] at he
                exact .inl ⟨by omega, by rw [← he, Nat.mod_eq_of_lt h10]; rfl⟩
              · rw [if_neg h10] at he
                exact .inr ⟨by omega, g, by simp; omega, by omega, by rw [← he]; simp⟩
          · simp only [intOf, Int.toNat_natCast]; omega
      · obtain rfl : q = 0 := by omega
        go_wp2
        go_ret
        rcases HD.out with ⟨_, h⟩ | ⟨h, _⟩
        · exact ⟨ret_str (by rw [h]), HB.out⟩
        · omega
end Go.Proofs.Ytcjonnfhnddapaa.Num
