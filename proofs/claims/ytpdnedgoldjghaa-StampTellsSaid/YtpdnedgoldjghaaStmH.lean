import Derived.Test.YtpdnedgoldjghaaStmC
import Derived.Test.YtpdnedgoldjghaaNumC
/- stamp.Compare; the reference's Less, Compare. -/
namespace Go.Proofs.Ytpdnedgoldjghaa.Stm
open Go.RowKit NumP StmP Num

def cmpS (t r u q : Int) : Int := if less t r u q then -1 else if less u q t r then 1 else 0
theorem below_2 (w : World) (a b : Obj) : Below w.heap.size w ((w.alloc a).alloc b) :=
  ((Below.refl w.heap.size w).alloc (Nat.le_refl _) a).alloc (by simp) b
set_option maxHeartbeats 800000 in
theorem refLess (w : World) (t r u q : Int) : Calls Try.prog 56 #[sV t r, sV u q] w fun e w' => e = .returned (.bool (less t r u q)) ∧ Below w.heap.size w w' := by
  by_cases htu : t = u
  · subst htu
    have h0 : (t != t) = false := by simp
    go_enter Try.func56, Try.ntmps56
    go_wp2
    go_ret
    exact ⟨ret_bool (by symm; rw [Bool.eq_iff_iff]; simp [less]), below_2 _ _ _⟩
  · have h0 : (t != u) = true := by simpa using htu
    go_enter Try.func56, Try.ntmps56
    go_wp2
    go_ret
    exact ⟨ret_bool (by symm; rw [Bool.eq_iff_iff]; simp [less]; omega), below_2 _ _ _⟩
set_option maxHeartbeats 800000 in
theorem refCompare (w : World) (t r u q : Int) : Calls Try.prog 25 #[sV t r, sV u q] w fun e w' => e = .returned (.int .i64 (cmpS t r u q)) ∧ Below w.heap.size w w' := by
  have KA := Lib.hid ((Bk.new w 23 #[.int .i64 t, .int .i64 r]).alloc (.cells #[.int .i64 u, .int .i64 q] 23))
  have KB := Lib.hid ((Bk.new (w.alloc (.cells #[.int .i64 t, .int .i64 r] 23)) 23 #[.int .i64 u, .int .i64 q]).of_num (g' := w.heap.size + 1) (by simp))
  have B0 := Lib.hid (below_2 w (.cells #[.int .i64 t, .int .i64 r] 23) (.cells #[.int .i64 u, .int .i64 q] 23))
  have H1 := Lib.hid (fun W => refLess W t r u q)
  have H2 := Lib.hid (fun W => refLess W u q t r)
  have HC : Hid (cmpS t r u q = if less t r u q then -1 else if less u q t r then 1 else 0) := Lib.hid rfl
  generalize cmpS t r u q = c at *
  generalize less t r u q = l1 at *
  generalize less u q t r = l2 at *
  go_enter Try.func25, Try.ntmps25
  go_wp2_with fail
  refine (H1.out _).mono ?_
  rintro e w1 ⟨rfl, hb1⟩
  have B1 := Lib.hid (Below.then_below B0.out hb1)
  cases l1
  case true =>
    clear hb1
    go_wp2
    go_ret
    exact ⟨ret_int (by rw [HC.out]; rfl), B1.out⟩
  case false =>
    have K1 := Lib.hid (KA.out.below hb1 KA.out.lt)
    have K2 := Lib.hid (KB.out.below hb1 KB.out.lt)
    have a0 : w1.cell? ⟨w.heap.size, 0, none⟩ = some (.int .i64 t) := by rw [K1.out.cell]; simp
    have a1 : w1.cell? ⟨w.heap.size, 0 + 1, none⟩ = some (.int .i64 r) := by rw [K1.out.cell]; simp
    have b0 : w1.cell? ⟨w.heap.size + 1, 0, none⟩ = some (.int .i64 u) := by rw [K2.out.cell]; simp
    have b1 : w1.cell? ⟨w.heap.size + 1, 0 + 1, none⟩ = some (.int .i64 q) := by rw [K2.out.cell]; simp
    clear hb1
    go_wp2_with fail
    refine (H2.out _).mono ?_
    rintro e w2 ⟨rfl, hb2⟩
    have B2 := Lib.hid (Below.then_below B1.out hb2)
    clear hb2
    cases l2
    case true =>
      go_wp2
      go_ret
      exact ⟨ret_int (by rw [HC.out]; rfl), B2.out⟩
    case false =>
      go_wp2
      go_ret
      exact ⟨ret_int (by rw [HC.out]; rfl), B2.out⟩
set_option maxHeartbeats 1600000 in
theorem stCompare (w : World) (t r u q : Int) : Calls Try.prog 24 #[sV t r, sV u q] w fun e w' => e = .returned (.int .i64 (cmpS t r u q)) ∧ Below w.heap.size w w' := by
  have key : t < u ∨ (t = u ∧ r < q) ∨ (t = u ∧ r = q) ∨ (t = u ∧ q < r) ∨ u < t := by omega
  have HB := Lib.hid (below_2 w (.cells #[.int .i64 t, .int .i64 r] 23) (.cells #[.int .i64 u, .int .i64 q] 23))
  rcases key with h | ⟨rfl, h⟩ | ⟨rfl, rfl⟩ | ⟨rfl, h⟩ | h
  · have e : cmpS t r u q = -1 := by simp [cmpS, less, h]
    rw [e]
    go_enter Try.func24, Try.ntmps24
    go_wp2
    go_ret
    exact ⟨rfl, HB.out⟩
  · have e : cmpS t r t q = -1 := by simp [cmpS, less, h]
    have h0 : (t == t) = true := by simp
    rw [e]
    go_enter Try.func24, Try.ntmps24
    go_wp2
    go_ret
    exact ⟨rfl, HB.out⟩
  · have e : cmpS t r t r = 0 := by simp [cmpS, less]
    have h0 : (t == t) = true := by simp
    rw [e]
    go_enter Try.func24, Try.ntmps24
    go_wp2
    go_ret
    exact ⟨rfl, HB.out⟩
  · have e : cmpS t r t q = 1 := by simp [cmpS, less]; omega
    have h0 : (t == t) = true := by simp
    have h1 : ¬ r = q := by omega
    rw [e]
    go_enter Try.func24, Try.ntmps24
    go_wp2
    go_ret
    exact ⟨rfl, HB.out⟩
  · have e : cmpS t r u q = 1 := by simp [cmpS, less]; omega
    have h0 : (t == u) = false := by simp; omega
    have h1 : ¬ t = u := by omega
    have h2 : ¬ t < u := by omega
    rw [e]
    go_enter Try.func24, Try.ntmps24
    go_wp2
    go_ret
    exact ⟨rfl, HB.out⟩
end Go.Proofs.Ytpdnedgoldjghaa.Stm
