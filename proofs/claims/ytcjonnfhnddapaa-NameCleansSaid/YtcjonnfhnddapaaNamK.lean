import Derived.Test.YtcjonnfhnddapaaNamJ
/- The five laws of names. -/
namespace Go.Proofs.Ytcjonnfhnddapaa.Nam
open Go.RowKit NumP Num NamP

theorem refDig (w : World) (n : Int) (h0 : -9223372036854775808 ≤ n) (h1 : n ≤ 9223372036854775807) :
    Calls Try.prog 39 #[.int .i64 n] w fun e w' => e = .returned (.string (mk (digs n.toNat))) ∧ Below w.heap.size w w' := by
  by_cases hn : n < 0
  · rw [show n.toNat = 0 by omega]
    go_enter Try.func39, Try.ntmps39
    go_wp2
    go_ret
    exact ⟨rfl, Below.refl _ _⟩
  · obtain ⟨m, rfl⟩ := Int.eq_ofNat_of_zero_le (show 0 ≤ n by omega)
    refine (refDigits 19 w m (by omega) (Nat.lt_of_le_of_lt (show m ≤ 9223372036854775807 by omega) (by decide)) h1).mono ?_
    rintro e w' ⟨rfl, hb⟩
    exact ⟨rfl, hb⟩
set_option maxHeartbeats 1000000 in
theorem checks (w : World) (l : List UInt8) (hl : l.length ≤ 9223372036854775807) (n : Int) (h0 : -9223372036854775808 ≤ n) (h1 : n ≤ 9223372036854775807) :
    Calls Try.prog 9 #[.string (mk l), .int .i64 n] w fun e w' => e = .returned (.bool true) ∧ Below w.heap.size w w' := by
  have hsz := mk_size l
  have H1 := Lib.hid (fun W => number W l hl)
  have H2 := Lib.hid (fun W => refNumber W l hl)
  have H3 := Lib.hid (fun W => check W l hl)
  have H4 := Lib.hid (fun W => refCheck W l hl)
  have H5 := Lib.hid (fun W => digits W n h0 h1)
  have H6 := Lib.hid (fun W => refDig W n h0 h1)
  generalize mk (digs n.toNat) = d at *
  generalize numV l = v at *
  generalize okN l = ok at *
  generalize chk l = x at *
  generalize mk l = s at *
  by_cases hb : 600 < s.size
  · have hq : (600 : Int) < (s.size : Int) := by omega
    go_enter Try.func9, Try.ntmps9
    go_wp2_with fail
    refine (awake _).mono ?_
    rintro e w1 ⟨rfl, b1⟩
    go_wp2
    go_ret
    exact ⟨rfl, b1⟩
  · have hq : ¬ (600 : Int) < (s.size : Int) := by omega
    go_enter Try.func9, Try.ntmps9
    go_wp2_with fail
    refine (H1.out _).mono ?_
    rintro e w1 ⟨rfl, b1⟩
    go_wp2_with fail
    refine (H2.out _).mono ?_
    rintro e w2 ⟨rfl, b2⟩
    go_wp2_with fail
    refine (H3.out _).mono ?_
    rintro e w3 ⟨rfl, rfl⟩
    go_wp2_with fail
    refine (H4.out _).mono ?_
    rintro e w3 ⟨rfl, rfl⟩
    have B2 := Lib.hid (Below.then_below b1 b2)
    clear b1 b2
    go_wp2_with fail
    refine (H5.out _).mono ?_
    rintro e w5 ⟨rfl, b5⟩
    go_wp2_with fail
    refine (H6.out _).mono ?_
    rintro e w6 ⟨rfl, b6⟩
    have B6 := Lib.hid (Below.then_below (Below.then_below B2.out b5) b6)
    clear b5 b6 B2
    go_wp2_with fail
    refine (awake _).mono ?_
    rintro e w7 ⟨rfl, b7⟩
    go_wp2
    go_ret
    exact ⟨rfl, Below.then_below B6.out b7⟩
set_option maxHeartbeats 1000000 in
theorem suffixes (w : World) (l : List UInt8) (k : Int) (h0 : -9223372036854775808 ≤ k) (h1 : k ≤ 9223372036854775807) :
    Calls Try.prog 10 #[.string (mk l), .int .i64 k] w fun e w' => e = .returned (.bool true) ∧ Below w.heap.size w w' := by
  have hsz := mk_size l
  by_cases hb : 600 < l.length
  · rw [← hsz] at hb
    generalize mk l = s at *
    have hq : (600 : Int) < (s.size : Int) := by omega
    go_enter Try.func10, Try.ntmps10
    go_wp2_with fail
    refine (awake _).mono ?_
    rintro e w1 ⟨rfl, b1⟩
    go_wp2
    go_ret
    exact ⟨rfl, b1⟩
  · have H1 := Lib.hid (fun W => base W l (by omega))
    have H2 := Lib.hid (fun W => refBase W l (by omega))
    have H3 := Lib.hid (fun W => suffixed W l (by omega) k h0 h1)
    have H4 := Lib.hid (fun W => refSuffixed W l (by omega) k h0 h1)
    generalize mk (baseT l) = d at *
    generalize mk (sfx l k) = f at *
    generalize baseN l = v at *
    rw [← hsz] at hb
    generalize mk l = s at *
    have hq : ¬ (600 : Int) < (s.size : Int) := by omega
    go_enter Try.func10, Try.ntmps10
    go_wp2_with fail
    refine (H1.out _).mono ?_
    rintro e w1 ⟨rfl, b1⟩
    go_wp2_with fail
    refine (H2.out _).mono ?_
    rintro e w2 ⟨rfl, b2⟩
    go_wp2_with fail
    refine (H3.out _).mono ?_
    rintro e w3 ⟨rfl, b3⟩
    go_wp2_with fail
    refine (H4.out _).mono ?_
    rintro e w4 ⟨rfl, b4⟩
    have B4 := Lib.hid (Below.then_below (Below.then_below (Below.then_below b1 b2) b3) b4)
    clear b1 b2 b3 b4
    go_wp2_with fail
    refine (awake _).mono ?_
    rintro e w7 ⟨rfl, b7⟩
    go_wp2
    go_ret
    exact ⟨rfl, Below.then_below B4.out b7⟩
theorem tl_self (s : ByteArray) : (s.toList == s.toList) = true := by simp
set_option maxHeartbeats 2000000 in
theorem quotes (w : World) (l : List UInt8) :
    Calls Try.prog 11 #[.string (mk l)] w fun e w' => e = .returned (.bool true) ∧ Below w.heap.size w w' := by
  have hsz := mk_size l
  by_cases hb : 400 < l.length
  · rw [← hsz] at hb
    generalize mk l = s at *
    have hq : (400 : Int) < (s.size : Int) := by omega
    go_enter Try.func11, Try.ntmps11
    go_wp2_with fail
    refine (awake _).mono ?_
    rintro e w1 ⟨rfl, b1⟩
    go_wp2
    go_ret
    exact ⟨rfl, b1⟩
  · have hql := quote_len l
    have H1 := Lib.hid (fun W => quoteW W l (by omega))
    have H2 := Lib.hid (fun W => unquote W (quote l) (by omega))
    have H3 := Lib.hid (fun W => unquote W l (by omega))
    have H4 := Lib.hid (fun W => refUnquote W l (by omega))
    have H5 := Lib.hid (fun W => refQuote W l (by omega))
    have hu := uq_quote l []
    have hu1 : uqT (quote l) = l := by rw [uqT, hu]; rfl
    have hu2 : uqB (quote l) = true := by rw [uqB, hu]; rfl
    rw [hu1, hu2] at H2
    clear hu hu1 hu2
    have hpr : ∀ j, j < (quote l).length → 33 ≤ bt (quote l) j ∧ bt (quote l) j ≤ 126 := fun j hj => by
      rw [bt_get _ j hj]
      exact quote_printed l _ (List.getElem_mem hj)
    have hat := at_mk (quote l)
    have hqz := mk_size (quote l)
    rw [← hqz] at hpr hql
    have HPR := Lib.hid hpr
    have HAT := Lib.hid hat
    clear hpr hat hqz
    generalize quote l = ql at *
    generalize mk ql = q at *
    generalize mk (uqT l) = t at *
    generalize uqB l = tb at *
    rw [← hsz] at hb hql
    clear hsz
    generalize mk l = s at *
    have hq : ¬ (400 : Int) < (s.size : Int) := by omega
    go_enter Try.func11, Try.ntmps11
    go_wp2_with fail
    refine (H1.out _).mono ?_
    rintro e w1 ⟨rfl, b1⟩
    have B1 := Lib.hid b1
    clear b1
    go_wp2
    go_loopw [4] (fun i wr => ∃ (k : Nat), k ≤ q.size ∧ i = .int .i64 k ∧ wr = w1) (fun i _ => q.size - (intOf i).toNat)
    case atStart => exact ⟨0, by omega, rfl, rfl⟩
    case round =>
      obtain ⟨k, hk, rfl, rfl⟩ := hrel
      by_cases hp : k < q.size
      · have hkq : (k : Int) < (q.size : Int) := by omega
        have hck := HAT.out k hp
        obtain ⟨r1, r2⟩ := HPR.out k hp
        generalize bt ql k = c at *
        have r1' : ¬ (c : Int) < 33 := by omega
        have r2' : ¬ (126 : Int) < (c : Int) := by omega
        go_wp2
        go_roundw
        case rel => exact ⟨k + 1, by omega, by go_num, by trivial⟩
        case measure => simp [intOf]; omega
      · obtain rfl : k = q.size := by omega
        go_wp2_with fail
        refine (H2.out _).mono ?_
        rintro e w2 ⟨rfl, b2⟩
        go_wp2_with fail
        refine (H3.out _).mono ?_
        rintro e w3 ⟨rfl, b3⟩
        go_wp2_with fail
        refine (H4.out _).mono ?_
        rintro e w4 ⟨rfl, b4⟩
        have B4 := Lib.hid (Below.then_below (Below.then_below (Below.then_below B1.out b2) b3) b4)
        clear b2 b3 b4
        go_wp2_with fail
        refine (H5.out _).mono ?_
        rintro e w5 ⟨rfl, b5⟩
        have B5 := Lib.hid (Below.then_below B4.out b5)
        clear b5
        go_wp2_with fail
        refine (awake _).mono ?_
        rintro e w7 ⟨rfl, b7⟩
        go_wp2
        go_ret
        exact ⟨rfl, Below.then_below B5.out b7⟩
end Go.Proofs.Ytcjonnfhnddapaa.Nam
