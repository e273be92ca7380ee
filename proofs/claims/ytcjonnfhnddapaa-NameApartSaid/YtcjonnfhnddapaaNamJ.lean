import Derived.Test.YtcjonnfhnddapaaNamI
/- The chapter's example. -/
namespace Go.Proofs.Ytcjonnfhnddapaa.Nam
open Go.RowKit NumP Num NamP

theorem q1 : baseT [97, 126, 50] = [97] ∧ baseN [97, 126, 50] = 2 := by decide +kernel
theorem q2 : uqT [37, 50, 48] = [32] ∧ uqB [37, 50, 48] = true := by decide +kernel
theorem q3 : sfx [97] 2 = [97, 126, 50] := by decide +kernel
theorem q4 : quote [32] = [37, 50, 48] := by decide +kernel
theorem q5 : chk [46, 46] = 25 := by decide +kernel
theorem q6 : chk [97] = 0 := by decide +kernel
theorem q7 : clean [97, 47, 98] = [97, 95, 98] := by decide +kernel
theorem a1 (W : World) : Calls Try.prog 40 #[.string ⟨#[97, 126, 50]⟩] W fun e w' => e = .returned (.tuple #[.string ⟨#[97]⟩, .int .i64 2]) ∧ Below W.heap.size W w' :=
  (base W [97, 126, 50] (by decide)).mono fun _ _ ⟨h1, h2⟩ => ⟨by rw [h1, q1.1, q1.2]; rfl, h2⟩
theorem a2 (W : World) : Calls Try.prog 45 #[.string ⟨#[37, 50, 48]⟩] W fun e w' => e = .returned (.tuple #[.string ⟨#[32]⟩, .bool true]) ∧ Below W.heap.size W w' :=
  (unquote W [37, 50, 48] (by decide)).mono fun _ _ ⟨h1, h2⟩ => ⟨by rw [h1, q2.1, q2.2]; rfl, h2⟩
theorem a3 (W : World) : Calls Try.prog 42 #[.string ⟨#[97]⟩, .int .i64 2] W fun e w' => e = .returned (.string ⟨#[97, 126, 50]⟩) ∧ Below W.heap.size W w' :=
  (suffixed W [97] (by decide) 2 (by decide) (by decide)).mono fun _ _ ⟨h1, h2⟩ => ⟨by rw [h1, q3]; rfl, h2⟩
theorem a4 (W : World) : Calls Try.prog 44 #[.string ⟨#[32]⟩] W fun e w' => e = .returned (.string ⟨#[37, 50, 48]⟩) ∧ Below W.heap.size W w' :=
  (quoteW W [32] (by decide)).mono fun _ _ ⟨h1, h2⟩ => ⟨by rw [h1, q4]; rfl, h2⟩
theorem a5 (W : World) : Calls Try.prog 37 #[.string ⟨#[46, 46]⟩] W fun e w' => e = .returned (.int .i64 25) ∧ W = w' :=
  (check W [46, 46] (by decide)).mono fun _ _ ⟨h1, h2⟩ => ⟨by rw [h1, q5]; rfl, h2⟩
theorem a6 (W : World) : Calls Try.prog 37 #[.string ⟨#[97]⟩] W fun e w' => e = .returned (.int .i64 0) ∧ W = w' :=
  (check W [97] (by decide)).mono fun _ _ ⟨h1, h2⟩ => ⟨by rw [h1, q6]; rfl, h2⟩
theorem a7 (W : World) : Calls Try.prog 48 #[.string ⟨#[97, 47, 98]⟩] W fun e w' => e = .returned (.string ⟨#[97, 95, 98]⟩) ∧ Below W.heap.size W w' :=
  (cleanW W [97, 47, 98] (by decide)).mono fun _ _ ⟨h1, h2⟩ => ⟨by rw [h1, q7]; rfl, h2⟩
set_option maxHeartbeats 1000000 in
theorem awake (w : World) : Calls Try.prog 34 #[] w fun e w' => e = .returned (.bool true) ∧ Below w.heap.size w w' := by
  go_enter Try.func34, Try.ntmps34
  go_wp2_with fail
  refine (a1 _).mono ?_
  rintro e w1 ⟨rfl, b1⟩
  go_wp2_with fail
  refine (a2 _).mono ?_
  rintro e w2 ⟨rfl, b2⟩
  go_wp2_with fail
  refine (a3 _).mono ?_
  rintro e w3 ⟨rfl, b3⟩
  go_wp2_with fail
  refine (a4 _).mono ?_
  rintro e w4 ⟨rfl, b4⟩
  go_wp2_with fail
  refine (a5 _).mono ?_
  rintro e w5 ⟨rfl, rfl⟩
  go_wp2_with fail
  refine (a6 _).mono ?_
  rintro e w5 ⟨rfl, rfl⟩
  go_wp2_with fail
  refine (a7 _).mono ?_
  rintro e w7 ⟨rfl, b7⟩
  go_wp2
  go_ret
  exact ⟨rfl, Below.then_below (Below.then_below (Below.then_below (Below.then_below b1 b2) b3) b4) b7⟩
end Go.Proofs.Ytcjonnfhnddapaa.Nam
