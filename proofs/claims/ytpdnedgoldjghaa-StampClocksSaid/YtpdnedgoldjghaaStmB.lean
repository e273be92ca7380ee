import Derived.Test.YtpdnedgoldjghaaStmA
import Derived.Deep.RegionWith
import Derived.Sort.AtCall
/- stamp: Reserved. -/
namespace Go.Proofs.Ytpdnedgoldjghaa.Stm
open Go.RowKit NumP StmP Num

theorem keepS2 {w w1 w2 : World} {n : Nat} {p q : Addr} {a b : Value} (h : Below n w w1 ∧ w1.cell? p = some a ∧ w1.cell? q = some b) (hb : Below w1.heap.size w1 w2) (hn : n ≤ w.heap.size) :
    Below n w w2 ∧ w2.cell? p = some a ∧ w2.cell? q = some b :=
  ⟨h.1.trans (hb.mono (Nat.le_trans hn h.1.size)), cell_keep h.2.1 hb, cell_keep h.2.2 hb⟩
theorem belowOf2 {w w1 : World} {n : Nat} {p q : Addr} {a b : Value} (h : Below n w w1 ∧ w1.cell? p = some a ∧ w1.cell? q = some b) : Below n w w1 := h.1
/-- A stamp's box, still there. -/
def Bx (w w1 : World) (t r : Int) : Prop := Below w.heap.size w w1 ∧ w1.cell? ⟨w.heap.size, 0, none⟩ = some (.int .i64 t) ∧ w1.cell? ⟨w.heap.size, 0 + 1, none⟩ = some (.int .i64 r)
theorem Bx.new (w : World) (t r : Int) : Bx w (w.alloc (.cells #[.int .i64 t, .int .i64 r] 23)).drew t r := by
  have K0 := Bk.new w 23 #[.int .i64 t, .int .i64 r]
  have B0 := (Below.refl w.heap.size w).alloc (Nat.le_refl _) (.cells #[.int .i64 t, .int .i64 r] 23)
  exact ⟨B0.drew, by rw [World.cell?_drew, K0.cell]; simp, by rw [World.cell?_drew, K0.cell]; simp⟩
theorem Bx.step {w w1 w2 : World} {t r : Int} (h : Bx w w1 t r) (hb : Below w1.heap.size w1 w2) : Bx w w2 t r := keepS2 h hb (Nat.le_refl _)

set_option maxRecDepth 100000 in
set_option maxHeartbeats 1600000 in
theorem stResAt0 (w : World) : Calls Try.prog 22 #[sV 0 0] w fun e w' => e = .returned (.bool true) ∧ Below w.heap.size w w' := by
  go_enter Try.func22, Try.ntmps22
  go_wp2
  go_region_with (first
      | (go_at_call 27; (with_reducible refine (root _).mono ?_); rintro e w2 ⟨rfl, hb2⟩; have X2 := (by first | exact (Bx.new w _ _).step hb2 | exact Bx.step (by assumption) hb2 : Bx w w2 0 0); have c0 := X2.2.1; have c1 := X2.2.2)
      | (go_at_call 28; (with_reducible refine (trash _).mono ?_); rintro e w2 ⟨rfl, hb2⟩; have X2 := (by first | exact (Bx.new w _ _).step hb2 | exact Bx.step (by assumption) hb2 : Bx w w2 0 0); have c0 := X2.2.1; have c1 := X2.2.2)
      | (go_at_call 29; (with_reducible refine (lost _).mono ?_); rintro e w2 ⟨rfl, hb2⟩; have X2 := (by first | exact (Bx.new w _ _).step hb2 | exact Bx.step (by assumption) hb2 : Bx w w2 0 0); have c0 := X2.2.1; have c1 := X2.2.2))
  all_goals
    go_wp2
    go_ret
    exact ⟨rfl, (by assumption : Bx w _ 0 0).1⟩

set_option maxRecDepth 100000 in
set_option maxHeartbeats 1600000 in
theorem stResAt1 (w : World) : Calls Try.prog 22 #[sV 0 1] w fun e w' => e = .returned (.bool true) ∧ Below w.heap.size w w' := by
  go_enter Try.func22, Try.ntmps22
  go_wp2
  go_region_with (first
      | (go_at_call 27; (with_reducible refine (root _).mono ?_); rintro e w2 ⟨rfl, hb2⟩; have X2 := (by first | exact (Bx.new w _ _).step hb2 | exact Bx.step (by assumption) hb2 : Bx w w2 0 1); have c0 := X2.2.1; have c1 := X2.2.2)
      | (go_at_call 28; (with_reducible refine (trash _).mono ?_); rintro e w2 ⟨rfl, hb2⟩; have X2 := (by first | exact (Bx.new w _ _).step hb2 | exact Bx.step (by assumption) hb2 : Bx w w2 0 1); have c0 := X2.2.1; have c1 := X2.2.2)
      | (go_at_call 29; (with_reducible refine (lost _).mono ?_); rintro e w2 ⟨rfl, hb2⟩; have X2 := (by first | exact (Bx.new w _ _).step hb2 | exact Bx.step (by assumption) hb2 : Bx w w2 0 1); have c0 := X2.2.1; have c1 := X2.2.2))
  all_goals
    go_wp2
    go_ret
    exact ⟨rfl, (by assumption : Bx w _ 0 1).1⟩

set_option maxRecDepth 100000 in
set_option maxHeartbeats 1600000 in
theorem stResAt2 (w : World) : Calls Try.prog 22 #[sV 0 2] w fun e w' => e = .returned (.bool true) ∧ Below w.heap.size w w' := by
  go_enter Try.func22, Try.ntmps22
  go_wp2
  go_region_with (first
      | (go_at_call 27; (with_reducible refine (root _).mono ?_); rintro e w2 ⟨rfl, hb2⟩; have X2 := (by first | exact (Bx.new w _ _).step hb2 | exact Bx.step (by assumption) hb2 : Bx w w2 0 2); have c0 := X2.2.1; have c1 := X2.2.2)
      | (go_at_call 28; (with_reducible refine (trash _).mono ?_); rintro e w2 ⟨rfl, hb2⟩; have X2 := (by first | exact (Bx.new w _ _).step hb2 | exact Bx.step (by assumption) hb2 : Bx w w2 0 2); have c0 := X2.2.1; have c1 := X2.2.2)
      | (go_at_call 29; (with_reducible refine (lost _).mono ?_); rintro e w2 ⟨rfl, hb2⟩; have X2 := (by first | exact (Bx.new w _ _).step hb2 | exact Bx.step (by assumption) hb2 : Bx w w2 0 2); have c0 := X2.2.1; have c1 := X2.2.2))
  all_goals
    go_wp2
    go_ret
    exact ⟨rfl, (by assumption : Bx w _ 0 2).1⟩

set_option maxRecDepth 100000 in
set_option maxHeartbeats 1600000 in
theorem stResNo (w : World) (t r : Int) (h0 : ¬ t = 0) : Calls Try.prog 22 #[sV t r] w fun e w' => e = .returned (.bool false) ∧ Below w.heap.size w w' := by
  go_enter Try.func22, Try.ntmps22
  go_wp2
  go_region_with (first
      | (go_at_call 27; (with_reducible refine (root _).mono ?_); rintro e w2 ⟨rfl, hb2⟩; have X2 := (by first | exact (Bx.new w _ _).step hb2 | exact Bx.step (by assumption) hb2 : Bx w w2 t r); have c0 := X2.2.1; have c1 := X2.2.2)
      | (go_at_call 28; (with_reducible refine (trash _).mono ?_); rintro e w2 ⟨rfl, hb2⟩; have X2 := (by first | exact (Bx.new w _ _).step hb2 | exact Bx.step (by assumption) hb2 : Bx w w2 t r); have c0 := X2.2.1; have c1 := X2.2.2)
      | (go_at_call 29; (with_reducible refine (lost _).mono ?_); rintro e w2 ⟨rfl, hb2⟩; have X2 := (by first | exact (Bx.new w _ _).step hb2 | exact Bx.step (by assumption) hb2 : Bx w w2 t r); have c0 := X2.2.1; have c1 := X2.2.2))
  all_goals
    go_wp2
    go_ret
    exact ⟨rfl, (by assumption : Bx w _ t r).1⟩

set_option maxRecDepth 100000 in
set_option maxHeartbeats 1600000 in
theorem stResNr (w : World) (r : Int) (h0 : ¬ r = 0) (h1 : ¬ r = 1) (h2 : ¬ r = 2) : Calls Try.prog 22 #[sV 0 r] w fun e w' => e = .returned (.bool false) ∧ Below w.heap.size w w' := by
  go_enter Try.func22, Try.ntmps22
  go_wp2
  go_region_with (first
      | (go_at_call 27; (with_reducible refine (root _).mono ?_); rintro e w2 ⟨rfl, hb2⟩; have X2 := (by first | exact (Bx.new w _ _).step hb2 | exact Bx.step (by assumption) hb2 : Bx w w2 0 r); have c0 := X2.2.1; have c1 := X2.2.2)
      | (go_at_call 28; (with_reducible refine (trash _).mono ?_); rintro e w2 ⟨rfl, hb2⟩; have X2 := (by first | exact (Bx.new w _ _).step hb2 | exact Bx.step (by assumption) hb2 : Bx w w2 0 r); have c0 := X2.2.1; have c1 := X2.2.2)
      | (go_at_call 29; (with_reducible refine (lost _).mono ?_); rintro e w2 ⟨rfl, hb2⟩; have X2 := (by first | exact (Bx.new w _ _).step hb2 | exact Bx.step (by assumption) hb2 : Bx w w2 0 r); have c0 := X2.2.1; have c1 := X2.2.2))
  all_goals
    go_wp2
    go_ret
    exact ⟨rfl, (by assumption : Bx w _ 0 r).1⟩

theorem stReserved (w : World) (t r : Int) : Calls Try.prog 22 #[sV t r] w fun e w' => e = .returned (.bool (resv t r)) ∧ Below w.heap.size w w' := by
  by_cases ht : t = 0
  · subst ht
    by_cases h0 : r = 0
    · subst h0; exact stResAt0 w
    · by_cases h1 : r = 1
      · subst h1; exact stResAt1 w
      · by_cases h2 : r = 2
        · subst h2; exact stResAt2 w
        · have e : resv 0 r = false := by simp only [resv, decide_eq_false_iff_not]; omega
          rw [e]
          exact stResNr w r h0 h1 h2
  · have e : resv t r = false := by simp only [resv, decide_eq_false_iff_not]; omega
    rw [e]
    exact stResNo w t r ht
end Go.Proofs.Ytpdnedgoldjghaa.Stm
