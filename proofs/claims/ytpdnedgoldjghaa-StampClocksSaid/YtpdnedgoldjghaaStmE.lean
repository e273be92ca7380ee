import Derived.Test.YtpdnedgoldjghaaStmD
/- stamp: clocks. -/
namespace Go.Proofs.Ytpdnedgoldjghaa.Stm
open Go.RowKit NumP StmP Num

/-- A clock's three cells. -/
abbrev clk (rep now : Int) (made : Bool) : Array Value := #[.int .i64 rep, .int .i64 now, .bool made]
theorem newYes (w : World) (rep : Int) (h0 : 0 ≤ rep) (h1 : rep ≤ 63) :
    Calls Try.prog 17 #[.int .i64 rep] w fun e w' => e = .returned (.tuple #[.pointer (some ⟨w.heap.size, 0, none⟩), .int .i64 0]) ∧ w' = w.alloc (.cells (clk rep 0 true) 40) := by
  go_enter Try.func17, Try.ntmps17
  go_wp2
  go_ret2
  exact ⟨rfl, rfl⟩
theorem newNo (w : World) (rep : Int) (h : rep < 0 ∨ 64 ≤ rep) :
    Calls Try.prog 17 #[.int .i64 rep] w fun e w' => e = .returned (.tuple #[.pointer none, .int .i64 2]) ∧ w' = w := by
  rcases (by omega : rep < 0 ∨ (0 ≤ rep ∧ 64 ≤ rep)) with h0 | ⟨h0, h1⟩
  all_goals
    go_enter Try.func17, Try.ntmps17
    go_wp2
    go_ret2
    exact ⟨rfl, rfl⟩
def sees (now time : Int) : Bool := decide (now < time ∧ time ≤ 281474976710656)
theorem now (w : World) (g : Nat) (rep nw : Int) (m : Bool) (hk : Bk w g 40 (clk rep nw m)) :
    Calls Try.prog 20 #[.pointer (some ⟨g, 0, none⟩)] w fun e w' => e = .returned (.int .i64 nw) ∧ w' = w := by
  have c1 : w.cell? ⟨g, 0 + 1, none⟩ = some (.int .i64 nw) := by rw [hk.cell]; simp
  go_enter Try.func20, Try.ntmps20
  go_wp2
  go_ret
  exact ⟨rfl, rfl⟩
set_option maxHeartbeats 800000 in
theorem seeYes (w : World) (g : Nat) (rep nw time : Int) (h : sees nw time = true) (hk : Bk w g 40 (clk rep nw true)) :
    Calls Try.prog 19 #[.pointer (some ⟨g, 0, none⟩), .int .i64 time] w fun e w' => e = .returned (.bool true) ∧ Bk w' g 40 (clk rep time true) ∧ w.grownBy w' (some g) := by
  have c1 : w.cell? ⟨g, 0 + 1, none⟩ = some (.int .i64 nw) := by rw [hk.cell]; simp
  have c2 : w.cell? ⟨g, 0 + 2, none⟩ = some (.bool true) := by rw [hk.cell]; simp
  have f1 : w.frozen? ⟨g, 0 + 1, none⟩ = false := hk.free _
  simp only [sees, decide_eq_true_eq] at h
  obtain ⟨h1, h2⟩ := h
  have HK := Lib.hid hk
  clear hk
  go_enter Try.func19, Try.ntmps19
  go_wp2
  go_ret
  exact ⟨rfl, by simpa using HK.out.set 1 (.int .i64 time), grown_set _ _ _ _⟩
set_option maxHeartbeats 800000 in
theorem seeNo (w : World) (g : Nat) (rep nw time : Int) (h : sees nw time = false) (hk : Bk w g 40 (clk rep nw true)) :
    Calls Try.prog 19 #[.pointer (some ⟨g, 0, none⟩), .int .i64 time] w fun e w' => e = .returned (.bool false) ∧ w' = w := by
  have c1 : w.cell? ⟨g, 0 + 1, none⟩ = some (.int .i64 nw) := by rw [hk.cell]; simp
  have c2 : w.cell? ⟨g, 0 + 2, none⟩ = some (.bool true) := by rw [hk.cell]; simp
  simp only [sees, decide_eq_false_iff_not] at h
  clear hk
  rcases (by omega : time ≤ nw ∨ (nw < time ∧ 281474976710656 < time)) with h1 | ⟨h1, h2⟩
  all_goals
    clear h
    go_enter Try.func19, Try.ntmps19
    go_wp2
    go_ret
    exact ⟨rfl, rfl⟩
end Go.Proofs.Ytpdnedgoldjghaa.Stm
