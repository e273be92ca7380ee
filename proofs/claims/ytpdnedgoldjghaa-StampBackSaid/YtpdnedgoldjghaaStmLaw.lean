import Derived.Test.YtpdnedgoldjghaaStmG
/- StampBack. -/
namespace Go.Proofs.Ytpdnedgoldjghaa.Stm
open Go.RowKit NumP StmP Num

theorem st_len (t r : Int) : (stT t r).length ≤ 41 := by
  have h1 := digL_len 20 t.toNat
  have h2 := digL_len 20 r.toNat
  simp only [stT, digs, List.length_append, List.length_cons]; omega
theorem back_parse (w : World) (t r : Int) (h : may t r = true) : Calls Try.prog 15 #[.string (mk (stT t r))] w fun e w' => e = .returned (.tuple #[sV t r, .int .i64 0]) ∧ Below w.heap.size w w' := by
  have hb : 0 ≤ t ∧ 0 ≤ r := by
    simp only [may, right, resv, Bool.or_eq_true, decide_eq_true_eq] at h
    omega
  refine (stParse w (stT t r) (by have := st_len t r; omega)).mono fun _ _ ⟨h1, h2⟩ => ⟨?_, h2⟩
  rw [h1, prs_text t r h]
  exact ret_st (Int.toNat_of_nonneg hb.1) (Int.toNat_of_nonneg hb.2) rfl

set_option maxRecDepth 100000 in
set_option maxHeartbeats 2000000 in
theorem back (w : World) (t r : Int) (ht0 : -9223372036854775808 ≤ t) (ht1 : t ≤ 9223372036854775807) (hr0 : -9223372036854775808 ≤ r) (hr1 : r ≤ 9223372036854775807) :
    Calls Try.prog 3 #[sV t r] w fun e w' => e = .returned (.bool true) ∧ Below w.heap.size w w' := by
  have K0 := Lib.hid (Bk.new w 23 #[.int .i64 t, .int .i64 r])
  have B0 := Lib.hid ((Below.refl w.heap.size w).alloc (Nat.le_refl _) (.cells #[.int .i64 t, .int .i64 r] 23))
  have HP := Lib.hid (fun (h : may t r = true) W => back_parse W t r h)
  have HT := Lib.hid (fun W => stText W t r ht0 ht1 hr0 hr1)
  have HR := Lib.hid (fun W => refRight W t r)
  have HS := Lib.hid (fun W => refReserved W t r)
  have HM : Hid (may t r = (right t r || resv t r)) := Lib.hid rfl
  clear ht0 ht1 hr0 hr1
  generalize may t r = mm at *
  generalize right t r = rg at *
  generalize resv t r = rs at *
  generalize stT t r = tx at *
  go_enter Try.func3, Try.ntmps3
  go_wp2_with fail
  refine (HR.out _).mono ?_
  rintro e w1 ⟨rfl, hb1⟩
  have K1 := Lib.hid (K0.out.below hb1 K0.out.lt)
  have B1 := Lib.hid (Below.then_below B0.out hb1)
  have c0 : w1.cell? ⟨w.heap.size, 0, none⟩ = some (.int .i64 t) := by rw [K1.out.cell]; simp
  have c1 : w1.cell? ⟨w.heap.size, 0 + 1, none⟩ = some (.int .i64 r) := by rw [K1.out.cell]; simp
  clear hb1 K0 B0
  cases rg
  case false =>
    go_wp2_with fail
    refine (HS.out _).mono ?_
    rintro e w2 ⟨rfl, hb2⟩
    have K2 := Lib.hid (K1.out.below hb2 K1.out.lt)
    have B2 := Lib.hid (Below.then_below B1.out hb2)
    have d0 : w2.cell? ⟨w.heap.size, 0, none⟩ = some (.int .i64 t) := by rw [K2.out.cell]; simp
    have d1 : w2.cell? ⟨w.heap.size, 0 + 1, none⟩ = some (.int .i64 r) := by rw [K2.out.cell]; simp
    clear hb2 K1 B1 c0 c1
    cases rs
    case false =>
      go_wp2_with fail
      refine (awake _).mono ?_
      rintro e w3 ⟨rfl, hb3⟩
      have B3 := Lib.hid (Below.then_below B2.out hb3)
      clear hb3
      go_wp2
      go_ret
      exact ⟨rfl, B3.out⟩
    case true =>
      have hm := Lib.hid (show mm = true by rw [HM.out]; rfl)
      go_wp2_with fail
      refine (HT.out _).mono ?_
      rintro e w5 ⟨rfl, hb5⟩
      have K5 := Lib.hid (K2.out.below hb5 K2.out.lt)
      have B5 := Lib.hid (Below.then_below B2.out hb5)
      clear hb5
      go_wp2_with fail
      refine (HP.out hm.out _).mono ?_
      rintro e w6 ⟨rfl, hb6⟩
      have K6 := Lib.hid ((K5.out.below hb6 K5.out.lt).alloc (.cells #[.int .i64 t, .int .i64 r] 23))
      have b6 := Lib.hid (Below.then_below B5.out hb6)
      have B6 := Lib.hid (b6.out.alloc b6.out.size (.cells #[.int .i64 t, .int .i64 r] 23))
      have e0 : (w6.alloc (.cells #[.int .i64 t, .int .i64 r] 23)).cell? ⟨w.heap.size, 0, none⟩ = some (.int .i64 t) := by rw [K6.out.cell]; simp
      have e1 : (w6.alloc (.cells #[.int .i64 t, .int .i64 r] 23)).cell? ⟨w.heap.size, 0 + 1, none⟩ = some (.int .i64 r) := by rw [K6.out.cell]; simp
      clear hb6 b6 K5 B5
      go_wp2_with fail
      refine (awake _).mono ?_
      rintro e w7 ⟨rfl, hb7⟩
      have B7 := Lib.hid (Below.then_below B6.out hb7)
      clear hb7
      go_wp2
      go_ret
      exact ⟨rfl, B7.out⟩
  case true =>
    have hm := Lib.hid (show mm = true by rw [HM.out]; rfl)
    go_wp2_with fail
    refine (HT.out _).mono ?_
    rintro e w5 ⟨rfl, hb5⟩
    have K5 := Lib.hid (K1.out.below hb5 K1.out.lt)
    have B5 := Lib.hid (Below.then_below B1.out hb5)
    clear hb5
    go_wp2_with fail
    refine (HP.out hm.out _).mono ?_
    rintro e w6 ⟨rfl, hb6⟩
    have K6 := Lib.hid ((K5.out.below hb6 K5.out.lt).alloc (.cells #[.int .i64 t, .int .i64 r] 23))
    have b6 := Lib.hid (Below.then_below B5.out hb6)
    have B6 := Lib.hid (b6.out.alloc b6.out.size (.cells #[.int .i64 t, .int .i64 r] 23))
    have e0 : (w6.alloc (.cells #[.int .i64 t, .int .i64 r] 23)).cell? ⟨w.heap.size, 0, none⟩ = some (.int .i64 t) := by rw [K6.out.cell]; simp
    have e1 : (w6.alloc (.cells #[.int .i64 t, .int .i64 r] 23)).cell? ⟨w.heap.size, 0 + 1, none⟩ = some (.int .i64 r) := by rw [K6.out.cell]; simp
    clear hb6 b6 K5 B5
    go_wp2_with fail
    refine (awake _).mono ?_
    rintro e w7 ⟨rfl, hb7⟩
    have B7 := Lib.hid (Below.then_below B6.out hb7)
    clear hb7
    go_wp2
    go_ret
    exact ⟨rfl, B7.out⟩
end Go.Proofs.Ytpdnedgoldjghaa.Stm
