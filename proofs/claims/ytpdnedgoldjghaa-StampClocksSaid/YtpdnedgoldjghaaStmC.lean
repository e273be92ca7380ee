import Derived.Test.YtpdnedgoldjghaaStmA
import Derived.Deep.RegionHeld3
/- stamp: Text, both. -/
namespace Go.Proofs.Ytpdnedgoldjghaa.Stm
open Go.RowKit NumP StmP Num

theorem keep2 {w w1 w2 : World} {n : Nat} {p q : Addr} {a b : Value} (h : Below n w w1 ∧ w1.cell? p = some a ∧ w1.cell? q = some b) (hb : Below w1.heap.size w1 w2) (hn : n ≤ w.heap.size) :
    Below n w w2 ∧ w2.cell? p = some a ∧ w2.cell? q = some b :=
  ⟨h.1.trans (hb.mono (Nat.le_trans hn h.1.size)), cell_keep h.2.1 hb, cell_keep h.2.2 hb⟩
theorem below2 {w w1 : World} {n : Nat} {p q : Addr} {a b : Value} (h : Below n w w1 ∧ w1.cell? p = some a ∧ w1.cell? q = some b) : Below n w w1 := h.1
theorem digs_len (n : Nat) : (mk (digs n)).size ≤ 20 := by rw [mk_size]; exact digL_len 20 n
theorem ref_digits (w : World) (n : Int) (h0 : -9223372036854775808 ≤ n) (h1 : n ≤ 9223372036854775807) :
    Calls Try.prog 57 #[.int .i64 n] w fun e w' => e = .returned (.string (mk (digs n.toNat))) ∧ Below w.heap.size w w' := by
  by_cases hn : n < 0
  · have e : digs n.toNat = [48] := by rw [show n.toNat = 0 by omega]; rfl
    rw [e]
    go_enter Try.func57, Try.ntmps57
    go_wp2
    go_ret
    exact ⟨rfl, Below.refl _ _⟩
  · obtain ⟨m, rfl⟩ := Int.eq_ofNat_of_zero_le (show 0 ≤ n by omega)
    rw [Int.toNat_natCast]
    exact refDigits 19 w m (by omega) (Nat.lt_of_le_of_lt (show m ≤ 9223372036854775807 by omega) (by decide)) (by omega)
theorem text_eq (a b : List UInt8) : mk a ++ ⟨#[46]⟩ ++ mk b = mk (a ++ 46 :: b) := by
  show mk a ++ mk [46] ++ mk b = _
  rw [mk_append, mk_append]; simp

set_option maxRecDepth 100000 in
set_option maxHeartbeats 1600000 in
theorem stText (w : World) (t r : Int) (ht0 : -9223372036854775808 ≤ t) (ht1 : t ≤ 9223372036854775807) (hr0 : -9223372036854775808 ≤ r) (hr1 : r ≤ 9223372036854775807) :
    Calls Try.prog 16 #[sV t r] w fun e w' => e = .returned (.string (mk (stT t r))) ∧ Below w.heap.size w w' := by
  have K0 := Lib.hid (Bk.new w 23 #[.int .i64 t, .int .i64 r])
  have B0 := Lib.hid ((Below.refl w.heap.size w).alloc (Nat.le_refl _) (.cells #[.int .i64 t, .int .i64 r] 23))
  have HT := Lib.hid (fun W => digits W t ht0 ht1)
  have HR := Lib.hid (fun W => digits W r hr0 hr1)
  have HE := Lib.hid (text_eq (digs t.toNat) (digs r.toNat))
  have l1 := digs_len t.toNat
  have l2 := digs_len r.toNat
  have l3 : (mk (digs t.toNat) ++ ⟨#[46]⟩).size ≤ 21 := by
    rw [ByteArray.size_append]; exact Nat.add_le_add l1 (Nat.le_refl 1)
  have e : mk (stT t r) = mk (digs t.toNat) ++ ⟨#[46]⟩ ++ mk (digs r.toNat) := HE.out.symm
  rw [e]
  clear e
  generalize mk (digs t.toNat) = a at *
  generalize mk (digs r.toNat) = b at *
  have m1 : (a.size : Int) ≤ 8388608 := by omega
  have m2 : (b.size : Int) ≤ 8388608 := by omega
  have m3 : ((a ++ ⟨#[46]⟩ : ByteArray).size : Int) ≤ 8388608 := by omega
  have m4 : (ByteArray.size ⟨#[46]⟩ : Int) ≤ 8388608 := by decide
  have m5 : ¬ (9223372036854775807 < a.size + 1) := by omega
  have m6 : ¬ (9223372036854775807 < a.size + 1 + b.size) := by omega
  have hz : ByteArray.size ⟨#[46]⟩ = 1 := rfl
  go_enter Try.func16, Try.ntmps16
  go_wp2
  go_region_held3 (fun w' => Below w.heap.size w w' ∧ w'.cell? ⟨w.heap.size, 0, none⟩ = some (.int .i64 t) ∧ w'.cell? ⟨w.heap.size, 0 + 1, none⟩ = some (.int .i64 r))
    (first | exact ⟨B0.out.drew, by rw [World.cell?_drew, K0.out.cell]; simp, by rw [World.cell?_drew, K0.out.cell]; simp⟩ | exact keep2 (by assumption) hb2 (Nat.le_refl _))
    (first
      | (go_at_call 54; (with_reducible refine (HT.out _).mono ?_); rintro e w2 ⟨rfl, hb2⟩)
      | (go_at_call 54; (with_reducible refine (HR.out _).mono ?_); rintro e w2 ⟨rfl, hb2⟩))
  go_wp2
  go_ret
  exact ⟨rfl, below2 (by assumption)⟩
set_option maxRecDepth 100000 in
set_option maxHeartbeats 1600000 in
theorem refText (w : World) (t r : Int) (ht0 : -9223372036854775808 ≤ t) (ht1 : t ≤ 9223372036854775807) (hr0 : -9223372036854775808 ≤ r) (hr1 : r ≤ 9223372036854775807) :
    Calls Try.prog 26 #[sV t r] w fun e w' => e = .returned (.string (mk (stT t r))) ∧ Below w.heap.size w w' := by
  have K0 := Lib.hid (Bk.new w 23 #[.int .i64 t, .int .i64 r])
  have B0 := Lib.hid ((Below.refl w.heap.size w).alloc (Nat.le_refl _) (.cells #[.int .i64 t, .int .i64 r] 23))
  have HT := Lib.hid (fun W => ref_digits W t ht0 ht1)
  have HR := Lib.hid (fun W => ref_digits W r hr0 hr1)
  have HE := Lib.hid (text_eq (digs t.toNat) (digs r.toNat))
  have l1 := digs_len t.toNat
  have l2 := digs_len r.toNat
  have l3 : (mk (digs t.toNat) ++ ⟨#[46]⟩).size ≤ 21 := by
    rw [ByteArray.size_append]; exact Nat.add_le_add l1 (Nat.le_refl 1)
  have e : mk (stT t r) = mk (digs t.toNat) ++ ⟨#[46]⟩ ++ mk (digs r.toNat) := HE.out.symm
  rw [e]
  clear e
  generalize mk (digs t.toNat) = a at *
  generalize mk (digs r.toNat) = b at *
  have m1 : (a.size : Int) ≤ 8388608 := by omega
  have m2 : (b.size : Int) ≤ 8388608 := by omega
  have m3 : ((a ++ ⟨#[46]⟩ : ByteArray).size : Int) ≤ 8388608 := by omega
  have m4 : (ByteArray.size ⟨#[46]⟩ : Int) ≤ 8388608 := by decide
  have m5 : ¬ (9223372036854775807 < a.size + 1) := by omega
  have m6 : ¬ (9223372036854775807 < a.size + 1 + b.size) := by omega
  have hz : ByteArray.size ⟨#[46]⟩ = 1 := rfl
  go_enter Try.func26, Try.ntmps26
  go_wp2
  go_region_held3 (fun w' => Below w.heap.size w w' ∧ w'.cell? ⟨w.heap.size, 0, none⟩ = some (.int .i64 t) ∧ w'.cell? ⟨w.heap.size, 0 + 1, none⟩ = some (.int .i64 r))
    (first | exact ⟨B0.out.drew, by rw [World.cell?_drew, K0.out.cell]; simp, by rw [World.cell?_drew, K0.out.cell]; simp⟩ | exact keep2 (by assumption) hb2 (Nat.le_refl _))
    (first
      | (go_at_call 57; (with_reducible refine (HT.out _).mono ?_); rintro e w2 ⟨rfl, hb2⟩)
      | (go_at_call 57; (with_reducible refine (HR.out _).mono ?_); rintro e w2 ⟨rfl, hb2⟩))
  go_wp2
  go_ret
  exact ⟨rfl, below2 (by assumption)⟩
end Go.Proofs.Ytpdnedgoldjghaa.Stm
