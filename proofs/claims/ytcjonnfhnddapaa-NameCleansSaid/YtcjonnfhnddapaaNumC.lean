import Derived.Test.YtcjonnfhnddapaaNumB
import Derived.Laws.RangeAny
import Derived.Laws.RangeString
/- Number: the reference's and the program's. -/
namespace Go.Proofs.Ytcjonnfhnddapaa.Num
open Go.RowKit NumP

theorem at_mk (l : List UInt8) (k : Nat) (h : k < (mk l).size) : ((mk l)[k]'h).toNat = bt l k := by
  rw [bt_get l k h]; rfl
theorem pre_step (l : List UInt8) (k : Nat) (h : k < l.length) (h0 : 48 ≤ bt l k) (h1 : bt l k ≤ 57) (ha : allD (l.take k) = true) :
    allD (l.take (k + 1)) = true ∧ valL (l.take (k + 1)) = 10 * valL (l.take k) + (bt l k - 48) := by
  have hb : (UInt8.ofNat (bt l k)).toNat = bt l k := by rw [UInt8.toNat_ofNat']; exact Nat.mod_eq_of_lt (bt_lt l k)
  rw [take_succ_u8 l k h, valL_snoc, allD_snoc, ha, hb]
  exact ⟨by simp [isD]; omega, rfl⟩
theorem not_allD (l : List UInt8) (k : Nat) (h : k < l.length) (hn : bt l k < 48 ∨ 57 < bt l k) : allD l = false := by
  rw [Bool.eq_false_iff]
  intro ha
  have h2 := List.all_eq_true.1 ha l[k] (List.getElem_mem h)
  rw [← bt_get l k h] at h2
  simp [isD] at h2
  omega
theorem pre_bound (l : List UInt8) (k : Nat) (h : k ≤ 17) (ha : allD (l.take k) = true) : valL (l.take k) < 100000000000000000 := by
  refine Nat.lt_of_lt_of_le (valL_lt _ ha) ?_
  refine Nat.le_trans (Nat.pow_le_pow_right (by omega) (show (l.take k).length ≤ 17 by rw [List.length_take]; omega)) (by decide)
theorem no_num (l : List UInt8) (h : okN l = false) : numV l = 0 := by rw [numV, h]; rfl
theorem ret_num {a a' : Nat} {b b' : Bool} (h : a = a') (k : b = b') : Ending.returned (.tuple #[.int .i64 a, .bool b]) = .returned (.tuple #[.int .i64 a', .bool b']) := by rw [h, k]
theorem ret_no (l : List UInt8) (h : okN l = false) : Ending.returned (.tuple #[.int .i64 0, .bool false]) = .returned (.tuple #[.int .i64 (numV l), .bool (okN l)]) := by rw [no_num l h, h]; rfl
theorem mk_list (a : List UInt8) : (mk a).toList = a := by rw [ByteArray.toList_eq]; rfl
/-- Two texts' test, false. -/
theorem ne_text {s t : ByteArray} (h : ¬ s = t) : (s.toList == t.toList) = false := by
  rw [beq_eq_false_iff_ne, ByteArray.toList_eq, ByteArray.toList_eq]
  intro e
  exact h (by cases s; cases t; simp only [Array.toList_inj] at e; rw [e])
theorem mk_inj {a b : List UInt8} (h : mk a = mk b) : a = b := by
  have := congrArg (fun s => s.data.toList) h
  simpa [mk] using this

set_option maxRecDepth 100000 in
set_option maxHeartbeats 800000 in
theorem refNumber (w : World) (l : List UInt8) (hl : l.length ≤ 9223372036854775807) :
    Calls Try.prog 36 #[.string (mk l)] w fun e w' => e = .returned (.tuple #[.int .i64 (numV l), .bool (okN l)]) ∧ Below w.heap.size w w' := by
  have hsz := mk_size l
  have hat := at_mk l
  have hin := (fun a (h : mk a = mk l) => mk_inj h)
  have HSS : ∃ s, Hid (mk l = s) := ⟨_, Lib.hid rfl⟩
  obtain ⟨s, HSS⟩ := HSS
  rw [HSS.out] at hsz hat hin ⊢
  have HSZ := Lib.hid hsz
  have HAT := Lib.hid hat
  have HIN := Lib.hid hin
  clear hat hin
  rw [← hsz] at hl
  clear hsz
  have HNO := Lib.hid (ret_no l)
  by_cases hlen : 1 ≤ s.size ∧ s.size ≤ 18
  · have h1 : (1 : Int) ≤ (s.size : Int) := by omega
    have h18 : (s.size : Int) ≤ 18 := by omega
    have HPS := Lib.hid (pre_step l)
    have HPB := Lib.hid (pre_bound l)
    have HND := Lib.hid (not_allD l)
    have HV := Lib.hid (show allD l = true → okN l = noLead l from fun h => by rw [okN, h, ← HSZ.out, decide_eq_true hlen]; simp)
    have HK := Lib.hid (show allD l = false → okN l = false from fun h => by rw [okN, h]; simp)
    have HW := Lib.hid (show okN l = true → numV l = valL l from fun h => by rw [numV, h]; rfl)
    have HD := Lib.hid (digs_eq l (by rw [← HSZ.out]; exact hlen.1) (by rw [← HSZ.out]; exact hlen.2))
    have HT := Lib.hid (show l.take s.size = l from by rw [HSZ.out]; exact List.take_length)
    go_enter Try.func36, Try.ntmps36
    go_wp2
    go_loop [4, 5] (fun n i => ∃ k v : Nat, k ≤ s.size ∧ i = .int .i64 k ∧ n = .int .i64 v ∧ Hid (allD (l.take k) = true ∧ v = valL (l.take k))) (fun _ i => s.size - (intOf i).toNat)
    case atStart => exact ⟨0, 0, Nat.zero_le _, rfl, rfl, Lib.hid ⟨rfl, rfl⟩⟩
    case round =>
      obtain ⟨k, v, hk, rfl, rfl, HA⟩ := hrel
      by_cases hkz : k < s.size
      · have HKL := Lib.hid (show k < l.length by rw [← HSZ.out]; exact hkz)
        have hc := HAT.out k hkz
        have hcb := bt_lt l k
        have hv : (v : Int) ≤ 100000000000000000 := by
          have := HPB.out k (by omega) HA.out.1
          have := HA.out.2
          omega
        have HS := Lib.hid (HPS.out k HKL.out)
        have HN := Lib.hid (HND.out k HKL.out)
        generalize bt l k = c at *
        by_cases hlo : c < 48
        · go_wp2
          go_ret2
          exact ⟨HNO.out (HK.out (HN.out (.inl hlo))), Below.refl _ _⟩
        · by_cases hhi : 57 < c
          · go_wp2
            go_ret2
            exact ⟨HNO.out (HK.out (HN.out (.inr hhi))), Below.refl _ _⟩
          · go_wp2
            go_round
            case rel =>
              have h3 := HS.out (by omega) (by omega) HA.out.1
              exact ⟨k + 1, 10 * v + (c - 48), by omega, by go_num, by go_num, Lib.hid ⟨h3.1, by rw [h3.2, HA.out.2]⟩⟩
            case measure => simp [intOf]; omega
      · obtain rfl : k = s.size := by omega
        have h4 := HA.out
        rw [HT.out] at h4
        obtain ⟨h5, rfl⟩ := h4
        have hlt := valL_lt l h5
        rw [← HSZ.out] at hlt
        have h20 : valL l < 10 ^ 20 := Nat.lt_of_lt_of_le hlt (Nat.pow_le_pow_right (by omega) (by omega))
        have h21 : valL l < 1000000000000000000 := Nat.lt_of_lt_of_le hlt (Nat.le_trans (Nat.pow_le_pow_right (by omega) hlen.2) (by decide))
        have HR := Lib.hid (show ∀ W, Calls Try.prog 39 #[.int .i64 (valL l)] W fun e w' => e = .returned (.string (mk (digs (valL l)))) ∧ Below W.heap.size W w' from fun W => refDigits 19 W (valL l) (by omega) h20 (by omega))
        by_cases hno : noLead l = true
        · have hdg : mk (digs (valL l)) = s := HSS.out ▸ congrArg mk (HD.out h5 |>.2 hno)
          go_wp2_with fail
          refine (HR.out _).mono ?_
          rintro e w1 ⟨rfl, hb⟩
          go_wp2
          go_ret2
          exact ⟨ret_num (HW.out (by rw [HV.out h5]; exact hno)).symm (by rw [HV.out h5]; exact hno.symm), hb⟩
        · have hdg := ne_text (s := mk (digs (valL l))) (t := s) (fun e => hno (HD.out h5 |>.1 (HIN.out _ e)))
          go_wp2_with fail
          refine (HR.out _).mono ?_
          rintro e w1 ⟨rfl, hb⟩
          go_wp2
          go_ret2
          exact ⟨HNO.out (by rw [HV.out h5]; simpa using hno), hb⟩
  · have hok : okN l = false := by rw [okN, ← HSZ.out, decide_eq_false hlen]; rfl
    have HK := Lib.hid (HNO.out hok)
    clear hok
    by_cases h1 : s.size < 1
    · have h2 : (s.size : Int) < 1 := by omega
      go_enter Try.func36, Try.ntmps36
      go_wp2
      go_ret2
      exact ⟨HK.out, Below.refl _ _⟩
    · have h2 : (18 : Int) < (s.size : Int) := by omega
      have h3 : ¬ (s.size : Int) < 1 := by omega
      go_enter Try.func36, Try.ntmps36
      go_wp2
      go_ret2
      exact ⟨HK.out, Below.refl _ _⟩
end Go.Proofs.Ytcjonnfhnddapaa.Num
