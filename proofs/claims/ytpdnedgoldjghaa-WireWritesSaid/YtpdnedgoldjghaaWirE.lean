import Derived.Test.YtpdnedgoldjghaaWirD
/- WireNobody. -/
namespace Go.Proofs.Ytpdnedgoldjghaa.Wir
open Go.RowKit WirP

theorem stampNilR (w : World) : Calls Try.prog 34 #[.pointer none] w fun e w' => e = .returned (.agg #[.int .i64 0, .int .i64 0]) ∧ Below w.heap.size w w' := by
  have HN := Lib.hid numNilR
  have HB := Lib.hid badNil
  go_enter Try.func34, Try.ntmps34
  go_wp2_with fail
  refine (HN.out _).mono ?_
  rintro e w1 ⟨rfl, rfl⟩
  go_wp2_with fail
  refine (HN.out _).mono ?_
  rintro e w1 ⟨rfl, rfl⟩
  go_wp2_with fail
  refine (HB.out _).mono ?_
  rintro e w1 ⟨rfl, rfl⟩
  go_wp2
  exact bodyPost_ret (results_cell_row rfl _ _ w.heap.size 23 #[.int .i64 0, .int .i64 0] _ _ rfl (Bk.new w 23 #[.int .i64 0, .int .i64 0]) Try.underlying23 rfl (by kernel_rfl)) rfl ⟨rfl, (Below.refl _ _).alloc (Nat.le_refl _) _⟩
set_option maxHeartbeats 2000000 in
theorem nobody (w : World) (n : Int) : Calls Try.prog 7 #[.int .i64 n] w fun e w' => e = .returned (.bool true) ∧ Below w.heap.size w w' := by
  have H1 := Lib.hid failNil
  have H2 := Lib.hid numNilR
  have H3 := Lib.hid flagNilR
  have H4 := Lib.hid textNilR
  have H5 := Lib.hid stampNilR
  have H6 := Lib.hid leftNil
  have H7 := Lib.hid badNil
  have H8 := Lib.hid endNil
  go_enter Try.func7, Try.ntmps7
  go_wp2_with fail
  refine (H1.out _ _).mono ?_
  rintro e w1 ⟨rfl, rfl⟩
  go_wp2_with fail
  refine (H2.out _).mono ?_
  rintro e w1 ⟨rfl, rfl⟩
  go_wp2_with fail
  refine (H3.out _).mono ?_
  rintro e w1 ⟨rfl, rfl⟩
  go_wp2_with fail
  refine (H4.out _ _).mono ?_
  rintro e w1 ⟨rfl, rfl⟩
  go_wp2_with fail
  refine (H5.out _).mono ?_
  rintro e w1 ⟨rfl, hb1⟩
  go_wp2_with fail
  refine (H6.out _).mono ?_
  rintro e w2 ⟨rfl, rfl⟩
  go_wp2_with fail
  refine (H7.out _).mono ?_
  rintro e w2 ⟨rfl, rfl⟩
  go_wp2_with fail
  refine (H8.out _).mono ?_
  rintro e w2 ⟨rfl, rfl⟩
  go_wp2_with fail
  refine (awake _).mono ?_
  rintro e w3 ⟨rfl, hb3⟩
  go_wp2
  go_ret
  exact ⟨rfl, Below.then_below hb1 hb3⟩
end Go.Proofs.Ytpdnedgoldjghaa.Wir
