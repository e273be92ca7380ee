import Derived.Test.YtpdnedgoldjghaaStmF
/- Layer 3's awake. -/
namespace Go.Proofs.Ytpdnedgoldjghaa.Stm
open Go.RowKit NumP StmP Num

theorem prs83 : prs [56, 46, 51] = (8, 3, true) := by decide +kernel
theorem stT83 : stT 8 3 = [56, 46, 51] := by decide +kernel
theorem aw_parse (w : World) : Calls Try.prog 15 #[.string ⟨#[56, 46, 51]⟩] w fun e w' => e = .returned (.tuple #[sV 8 3, .int .i64 0]) ∧ Below w.heap.size w w' :=
  (stParse w [56, 46, 51] (by decide)).mono fun _ _ ⟨h1, h2⟩ => ⟨by rw [h1, prs83]; rfl, h2⟩
theorem aw_text (w : World) : Calls Try.prog 16 #[sV 8 3] w fun e w' => e = .returned (.string ⟨#[56, 46, 51]⟩) ∧ Below w.heap.size w w' :=
  (stText w 8 3 (by decide) (by decide) (by decide) (by decide)).mono fun _ _ ⟨h1, h2⟩ => ⟨by rw [h1, stT83]; rfl, h2⟩

set_option maxRecDepth 100000 in
set_option maxHeartbeats 2000000 in
theorem awake (w : World) : Calls Try.prog 14 #[] w fun e w' => e = .returned (.bool true) ∧ Below w.heap.size w w' := by
  have b0 := Lib.hid ((Below.refl w.heap.size w).alloc (Nat.le_refl _) (.cells (clk 3 0 true) 40))
  have k0 := Lib.hid (Bk.new w 40 (clk 3 0 true))
  go_enter Try.func14, Try.ntmps14
  go_wp2_with fail
  refine (newYes _ 3 (by decide) (by decide)).mono ?_
  rintro e w1 ⟨rfl, hw1⟩
  rw [← hw1] at k0 b0
  clear hw1
  go_wp2_with fail
  refine (seeYes _ w.heap.size 3 0 7 (by decide) k0.out).mono ?_
  rintro e w2 ⟨rfl, k2, g2⟩
  have b2 := Lib.hid (b0.out.grown g2 b0.out.size (fun k e => by injection e with e; omega))
  have K2 := Lib.hid k2
  clear g2 k0 b0 k2
  go_wp2_with fail
  refine (tickYes _ w.heap.size 3 7 (by decide) (by decide) K2.out).mono ?_
  rintro e w3 ⟨rfl, k3, g3⟩
  have b3 := Lib.hid (b2.out.grown g3 b2.out.size (fun k e => by injection e with e; omega))
  have K3 := Lib.hid (k3.alloc (.cells #[.int .i64 8, .int .i64 3] 23))
  have X3 := Lib.hid (Bk.new w3 23 #[.int .i64 8, .int .i64 3])
  have B3 := Lib.hid (b3.out.alloc b3.out.size (.cells #[.int .i64 8, .int .i64 3] 23))
  clear g3 k3 b3 K2 b2
  go_wp2_with fail
  refine (aw_parse _).mono ?_
  rintro e w4 ⟨rfl, hb4⟩
  have K4 := Lib.hid ((K3.out.below hb4 K3.out.lt).alloc (.cells #[.int .i64 8, .int .i64 3] 23))
  have X4 := Lib.hid ((X3.out.below hb4 X3.out.lt).alloc (.cells #[.int .i64 8, .int .i64 3] 23))
  have b4 := Lib.hid (Below.then_below B3.out hb4)
  have B4 := Lib.hid (b4.out.alloc b4.out.size (.cells #[.int .i64 8, .int .i64 3] 23))
  have c0 : (w4.alloc (.cells #[.int .i64 8, .int .i64 3] 23)).cell? ⟨w3.heap.size, 0, none⟩ = some (.int .i64 8) := by rw [X4.out.cell]; simp
  have c1 : (w4.alloc (.cells #[.int .i64 8, .int .i64 3] 23)).cell? ⟨w3.heap.size, 0 + 1, none⟩ = some (.int .i64 3) := by rw [X4.out.cell]; simp
  clear K3 X3 b4 B3 hb4
  go_wp2_with fail
  refine (aw_text _).mono ?_
  rintro e w5 ⟨rfl, hb5⟩
  have K5 := Lib.hid (K4.out.below hb5 K4.out.lt)
  have B5 := Lib.hid (Below.then_below B4.out hb5)
  clear hb5
  go_wp2_with fail
  refine (now _ w.heap.size 3 8 true K5.out).mono ?_
  rintro e w6 ⟨rfl, rfl⟩
  go_wp2_with fail
  refine (trash _).mono ?_
  rintro e w7 ⟨rfl, hb7⟩
  go_wp2_with fail
  refine (lost _).mono ?_
  rintro e w8 ⟨rfl, hb8⟩
  have B8 := Lib.hid (Below.then_below (Below.then_below B5.out hb7) hb8)
  clear hb7 hb8
  go_wp2
  go_ret
  exact ⟨rfl, B8.out⟩
end Go.Proofs.Ytpdnedgoldjghaa.Stm
