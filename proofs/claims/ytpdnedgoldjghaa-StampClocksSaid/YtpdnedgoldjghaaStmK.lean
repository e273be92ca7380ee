import Derived.Test.YtpdnedgoldjghaaStmG
/- StampClocks. -/
namespace Go.Proofs.Ytpdnedgoldjghaa.Stm
open Go.RowKit NumP StmP Num

/-- n cells that are read at A, each of a kind. -/
def Rany (w : World) (A : Option Addr) (n : Nat) (ok : Value → Prop) : Prop :=
  ∀ k, k < n → ∃ ad v, A = some ad ∧ ad.block < w.heap.size ∧ w.cell? (ad.add k) = some v ∧ ok v
theorem Rany.below {w w' : World} {A : Option Addr} {n : Nat} {ok : Value → Prop} (h : Rany w A n ok) (hb : Below w.heap.size w w') : Rany w' A n ok := fun k hk => by
  obtain ⟨ad, v, h1, h2, h3, h4⟩ := h k hk
  exact ⟨ad, v, h1, Nat.lt_of_lt_of_le h2 hb.size, cell_keep h3 hb, h4⟩
def isI (v : Value) : Prop := ∃ x : Int, v = .int .i64 x ∧ -9223372036854775808 ≤ x ∧ x ≤ 9223372036854775807
def isB (v : Value) : Prop := ∃ b : Bool, v = .bool b

set_option maxRecDepth 100000 in
set_option maxHeartbeats 4000000 in
theorem clocks (w : World) (rep : Int) (A : Option Addr) (n c : Nat) (T : Option Addr) (m d : Nat) (hL : Rany w A n isI) (hT : Rany w T m isB) :
    Calls Try.prog 4 #[.int .i64 rep, .slice A n c, .slice T m d] w fun e w' => e = .returned (.bool true) ∧ Below w.heap.size w w' := by
  have HL := Lib.hid hL
  have HT := Lib.hid hT
  clear hL hT
  by_cases hout : rep < 0 ∨ 63 < rep
  · rcases (by omega : rep < 0 ∨ (0 ≤ rep ∧ 63 < rep)) with h0 | ⟨h0, h1⟩
    all_goals
      go_enter Try.func4, Try.ntmps4
      go_wp2_with fail
      refine (newNo _ rep (by omega)).mono ?_
      rintro e w1 ⟨rfl, rfl⟩
      clear hout
      go_wp2_with fail
      refine (awake _).mono ?_
      rintro e w2 ⟨rfl, hb2⟩
      go_wp2
      go_ret
      exact ⟨rfl, hb2⟩
  have h0 : 0 ≤ rep := by omega
  have h1 : rep ≤ 63 := by omega
  clear hout
  have K0 := Lib.hid (Bk.new w 40 (clk rep 0 true))
  have B0 := Lib.hid ((Below.refl w.heap.size w).alloc (Nat.le_refl _) (.cells (clk rep 0 true) 40))
  go_enter Try.func4, Try.ntmps4
  go_wp2_with fail
  refine (newYes _ rep h0 h1).mono ?_
  rintro e w1 ⟨rfl, hw1⟩
  rw [← hw1] at K0 B0
  clear hw1
  go_wp2
  go_loopw [9, 10] (fun nw i wr => ∃ (k : Nat) (x : Int), k ≤ n ∧ k ≤ 60 ∧ i = .int .i64 k ∧ nw = .int .i64 x ∧ 0 ≤ x ∧ x ≤ 281474976710656 ∧ Bk wr w.heap.size 40 (clk rep x true) ∧ Below w.heap.size w wr) (fun _ i _ => 61 - (intOf i).toNat)
  case atStart => exact ⟨0, 0, Nat.zero_le _, Nat.zero_le _, rfl, rfl, by omega, by omega, K0.out, B0.out⟩
  case round =>
    obtain ⟨k, x, hkn, hk60, rfl, rfl, hx0, hx1, k0, b0⟩ := hrel
    have K := Lib.hid k0
    have B := Lib.hid b0
    clear k0 b0 K0 B0
    by_cases hgo : k < n ∧ k < 60
    · obtain ⟨hk1, hk2⟩ := hgo
      obtain ⟨ad, v, rfl, hadl, hcell0, y, rfl, hy0, hy1⟩ := HL.out k hk1
      have hcell : wr.cell? (ad.add k) = some (.int .i64 y) := cell_keep hcell0 B.out
      have HLK := Lib.hid (fun (W : World) (g : wr.grownBy W (some w.heap.size)) => show W.cell? (ad.add k) = some (.int .i64 y) from g.cell hcell (by rw [addr_block]; intro e; injection e with e; omega))
      clear hcell0
      have hi1 : (k : Int) < (n : Int) := by omega
      have hi0 : (0 : Int) ≤ (k : Int) := by omega
      have hi2 : (k : Int) < 60 := by omega
      have htk : (k < m ∧ ∃ td, T = some td ∧ wr.cell? (td.add k) = some (.bool true)) ∨ (k < m ∧ ∃ td, T = some td ∧ wr.cell? (td.add k) = some (.bool false)) ∨ ¬ k < m := by
        by_cases hkm : k < m
        · obtain ⟨td, v, h2, _, h3, b, rfl⟩ := (HT.out.below B.out) k hkm
          cases b
          · exact .inr (.inl ⟨hkm, td, h2, h3⟩)
          · exact .inl ⟨hkm, td, h2, h3⟩
        · exact .inr (.inr hkm)
      rcases htk with ⟨hkm, td, rfl, hcb⟩ | hno
      · have hj : (k : Int) < (m : Int) := by omega
        by_cases hfull : x = 281474976710656
        · subst hfull
          go_wp2_with fail
          refine (tickNo _ w.heap.size rep 281474976710656 (by omega) K.out).mono ?_
          rintro e w2 ⟨rfl, hb2⟩
          have K2 := Lib.hid ((K.out.below hb2 K.out.lt).alloc (.cells #[.int .i64 0, .int .i64 0] 23))
          have b2 := Lib.hid (Below.then_below B.out hb2)
          have B2 := Lib.hid (b2.out.alloc b2.out.size (.cells #[.int .i64 0, .int .i64 0] 23))
          clear hb2 b2
          go_wp2
          go_roundw
          case rel => exact ⟨k + 1, 281474976710656, by omega, by omega, by go_num, rfl, by omega, by omega, K2.out, B2.out⟩
          case measure => simp [intOf]; omega
        · have hne : (x == 281474976710656) = false := by simp; omega
          go_wp2_with fail
          refine (tickYes _ w.heap.size rep x hx0 (by omega) K.out).mono ?_
          rintro e w2 ⟨rfl, k2, g2⟩
          have K2 := Lib.hid (k2.alloc (.cells #[.int .i64 (x + 1), .int .i64 rep] 23))
          have b2 := Lib.hid (B.out.grown g2 B.out.size (fun k e => by injection e with e; omega))
          have B2 := Lib.hid (b2.out.alloc b2.out.size (.cells #[.int .i64 (x + 1), .int .i64 rep] 23))
          clear g2 b2 k2
          go_wp2
          go_roundw
          case rel => exact ⟨k + 1, x + 1, by omega, by omega, by go_num, rfl, by omega, by omega, K2.out, B2.out⟩
          case measure => simp [intOf]; omega
      · rcases hno with ⟨hkm, td, rfl, hcb⟩ | hno
        · have hj : (k : Int) < (m : Int) := by omega
          rcases (by omega : (x < y ∧ y ≤ 281474976710656) ∨ ¬ x < y ∨ (x < y ∧ 281474976710656 < y)) with ⟨q1, q2⟩ | q1 | ⟨q1, q2⟩
          · have hs : sees x y = true := by simp [sees, q1, q2]
            go_wp2_with fail
            refine (seeYes _ w.heap.size rep x y hs K.out).mono ?_
            rintro e w2 ⟨rfl, k2, g2⟩
            have hcl2 : w2.cell? (ad.add k) = some (.int .i64 y) := HLK.out _ g2
            have K2 := Lib.hid k2
            have B2 := Lib.hid (B.out.grown g2 B.out.size (fun k e => by injection e with e; omega))
            clear g2 k2
            go_wp2_with fail
            refine (now _ w.heap.size rep y true K2.out).mono ?_
            rintro e w3 ⟨rfl, rfl⟩
            go_wp2
            go_roundw
            case rel => exact ⟨k + 1, y, by omega, by omega, by go_num, rfl, by omega, by omega, K2.out, B2.out⟩
            case measure => simp [intOf]; omega
          all_goals
            have hs : sees x y = false := by simp [sees]; omega
            go_wp2_with fail
            refine (seeNo _ w.heap.size rep x y hs K.out).mono ?_
            rintro e w2 ⟨rfl, rfl⟩
            go_wp2_with fail
            refine (now _ w.heap.size rep x true K.out).mono ?_
            rintro e w3 ⟨rfl, rfl⟩
            go_wp2
            go_roundw
            case rel => exact ⟨k + 1, x, by omega, by omega, by go_num, rfl, by omega, by omega, K.out, B.out⟩
            case measure => simp [intOf]; omega
        · have hj : ¬ (k : Int) < (m : Int) := by omega
          rcases (by omega : (x < y ∧ y ≤ 281474976710656) ∨ ¬ x < y ∨ (x < y ∧ 281474976710656 < y)) with ⟨q1, q2⟩ | q1 | ⟨q1, q2⟩
          · have hs : sees x y = true := by simp [sees, q1, q2]
            go_wp2_with fail
            refine (seeYes _ w.heap.size rep x y hs K.out).mono ?_
            rintro e w2 ⟨rfl, k2, g2⟩
            have hcl2 : w2.cell? (ad.add k) = some (.int .i64 y) := HLK.out _ g2
            have K2 := Lib.hid k2
            have B2 := Lib.hid (B.out.grown g2 B.out.size (fun k e => by injection e with e; omega))
            clear g2 k2
            go_wp2_with fail
            refine (now _ w.heap.size rep y true K2.out).mono ?_
            rintro e w3 ⟨rfl, rfl⟩
            go_wp2
            go_roundw
            case rel => exact ⟨k + 1, y, by omega, by omega, by go_num, rfl, by omega, by omega, K2.out, B2.out⟩
            case measure => simp [intOf]; omega
          all_goals
            have hs : sees x y = false := by simp [sees]; omega
            go_wp2_with fail
            refine (seeNo _ w.heap.size rep x y hs K.out).mono ?_
            rintro e w2 ⟨rfl, rfl⟩
            go_wp2_with fail
            refine (now _ w.heap.size rep x true K.out).mono ?_
            rintro e w3 ⟨rfl, rfl⟩
            go_wp2
            go_roundw
            case rel => exact ⟨k + 1, x, by omega, by omega, by go_num, rfl, by omega, by omega, K.out, B.out⟩
            case measure => simp [intOf]; omega
    · have hend : ¬ (k : Int) < (n : Int) ∨ ((k : Int) < (n : Int) ∧ ¬ (k : Int) < 60) := by omega
      rcases hend with he | ⟨he, he2⟩
      all_goals
        go_wp2_with fail
        refine (awake _).mono ?_
        rintro e w2 ⟨rfl, hb2⟩
        have B2 := Lib.hid (Below.then_below B.out hb2)
        clear hb2
        go_wp2
        go_ret
        exact ⟨rfl, B2.out⟩
end Go.Proofs.Ytpdnedgoldjghaa.Stm
