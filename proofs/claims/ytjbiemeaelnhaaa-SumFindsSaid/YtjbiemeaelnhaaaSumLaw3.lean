import Derived.Test.YtjbiemeaelnhaaaSumLaw
import Derived.Test.YtjbiemeaelnhaaaSumQ
/- SumFinds. -/
namespace Go.Proofs.Ytjbiemeaelnhaaa.Sum
open Go.RowKit

theorem flip_bit (q : List UInt8) (m : Nat) (hm : m < 8 * q.length) (i : Nat) : SumP.bitOf (q.set (m / 8) (UInt8.ofNat (bt q (m / 8) ^^^ 2 ^ (m % 8)))) i = (SumP.bitOf q i ^^ decide (i = m)) := by
  have hl : m / 8 < q.length := by omega
  have hx := bt_lt q (m / 8)
  have hp : 2 ^ (m % 8) < 2 ^ 8 := Nat.pow_lt_pow_right (by omega) (by omega)
  have hy : bt q (m / 8) ^^^ 2 ^ (m % 8) < 2 ^ 8 := Nat.xor_lt_two_pow hx hp
  unfold SumP.bitOf
  by_cases h1 : m / 8 = i / 8
  · have e1 : ((q.set (m / 8) (UInt8.ofNat (bt q (m / 8) ^^^ 2 ^ (m % 8)))).getD (i / 8) 0).toNat = bt q (m / 8) ^^^ 2 ^ (m % 8) := by
      generalize bt q (m / 8) ^^^ 2 ^ (m % 8) = y at *
      rw [h1] at hl ⊢
      simp [List.getD_eq_getElem?_getD, List.getElem?_set, hl]
      omega
    have e2 : (q.getD (i / 8) 0).toNat = bt q (m / 8) := by rw [h1]; rfl
    rw [e1, e2, Nat.testBit_xor, Nat.testBit_two_pow]
    congr 1
    rw [decide_eq_decide]
    omega
  · have e1 : (q.set (m / 8) (UInt8.ofNat (bt q (m / 8) ^^^ 2 ^ (m % 8)))).getD (i / 8) 0 = q.getD (i / 8) 0 := by
      simp [List.getD_eq_getElem?_getD, List.getElem?_set, h1]
    rw [e1, decide_eq_false (by omega)]
    simp
theorem mask_yes (f : Nat → Bool) (N k mask : Nat) (hb : mask / 2 ^ k % 2 = 1) (i : Nat) : ((f i ^^ (decide (N ≤ i ∧ i < N + k) && mask.testBit (i - N))) ^^ decide (i = N + k)) = (f i ^^ (decide (N ≤ i ∧ i < N + (k + 1)) && mask.testBit (i - N))) := by
  have ht : mask.testBit k = true := by rw [Nat.testBit_eq_decide_div_mod_eq]; exact decide_eq_true hb
  by_cases h : i = N + k
  · subst h
    simp [ht]
  · rw [decide_eq_false h, Bool.xor_false]
    congr 2
    rw [decide_eq_decide]
    omega
theorem mask_no (f : Nat → Bool) (N k mask : Nat) (hb : mask / 2 ^ k % 2 ≠ 1) (i : Nat) : (f i ^^ (decide (N ≤ i ∧ i < N + k) && mask.testBit (i - N))) = (f i ^^ (decide (N ≤ i ∧ i < N + (k + 1)) && mask.testBit (i - N))) := by
  have ht : mask.testBit k = false := by rw [Nat.testBit_eq_decide_div_mod_eq]; exact decide_eq_false hb
  by_cases h : i = N + k
  · subst h
    simp [ht]
  · congr 2
    rw [decide_eq_decide]
    omega
set_option maxHeartbeats 400000 in
theorem finds (w : World) (A : Option Addr) (n cap : Nat) (l : List UInt8) (h : Rb w A n l) (hc : n ≤ cap) (p mask : Nat) (hp : p < 65536) (hm : mask < 4294967296) :
    Calls Try.prog 4 #[.slice A n cap, .int .u16 p, .int .u32 mask] w fun e w' => e = .returned (.bool true) ∧ Below w.heap.size w w' := by
  have H := Lib.hid h
  clear h
  by_cases hg : 1000 < n ∨ mask = 0
  · by_cases hn1 : 1000 < n
    · go_enter Try.func4, Try.ntmps4
      go_wp2_with (go_at_call 13; refine (awake _).mono ?_; rintro e w1 ⟨rfl, hb1⟩)
      go_ret
      exact ⟨rfl, hb1⟩
    · obtain rfl : mask = 0 := by omega
      go_enter Try.func4, Try.ntmps4
      go_wp2_with (go_at_call 13; refine (awake _).mono ?_; rintro e w1 ⟨rfl, hb1⟩)
      go_ret
      exact ⟨rfl, hb1⟩
  · have hn : ¬ 1000 < n := by omega
    have hm0 : ((mask : Int) == 0) = false := by simp; omega
    have HM := Lib.hid (show mask ≠ 0 by omega)
    clear hg
    obtain ⟨N, hN⟩ : ∃ N, N = p % (8 * (n + 4) - 31) := ⟨_, rfl⟩
    have hNb : N < 8 * (n + 4) - 31 := by rw [hN]; exact Nat.mod_lt _ (by omega)
    have HNe := Lib.hid (show (p : Int) % (8 * ((n : Int) + 4) - 31) = (N : Int) from by rw [hN, Int.natCast_emod, show ((8 * (n + 4) - 31 : Nat) : Int) = 8 * ((n : Int) + 4) - 31 from by omega])
    have HN := Lib.hid hN
    clear hN
    go_enter Try.func4, Try.ntmps4
    go_wp2_with fail
    refine (refSeal _ A n cap l H.out (by omega)).mono ?_
    rintro e w1 ⟨v1, rfl, ho1, hb1⟩
    obtain ⟨g, c1, hv, hgb, hlt1⟩ := ho1.form (by omega)
    subst hv
    have B1 := Lib.hid hb1
    have hgw : w.heap.size ≤ g := by simpa using hgb
    have O1 := Lib.hid ho1
    clear hb1 ho1
    go_wp2
    rw [HNe.out]
    go_loopw [9] (fun i wr => ∃ (k : Nat) (q : List UInt8), k ≤ 32 ∧ i = .int .i64 k ∧ wr.ownsRow w.heap.size 5 1 (.slice (some ⟨g, 0, none⟩) (n + 4) c1) (n + 4) (bytesV q) ∧ Below w.heap.size w wr ∧ Hid (∀ i, SumP.bitOf q i = (SumP.bitOf (SumP.sealB l) i ^^ (decide (N ≤ i ∧ i < N + k) && mask.testBit (i - N))))) (fun i _ => 32 - (intOf i).toNat)
    case atStart => exact ⟨0, SumP.sealB l, by omega, rfl, O1.out, B1.out, Lib.hid (fun i => by rw [decide_eq_false (by omega)]; simp)⟩
    case round =>
      obtain ⟨k, q, hk, rfl, ho, hb, hq⟩ := hrel
      have O := Lib.hid ho
      have B := Lib.hid hb
      have R := Lib.hid (Rb.of_own ho)
      clear ho hb
      by_cases hlt : k < 32
      · obtain ⟨ad, had, hcell⟩ := R.out.at_ (k := (N + k) / 8) (by omega)
        obtain rfl : ad = ⟨g, 0, none⟩ := by injection had with had; exact had.symm
        rw [addr_plain] at hcell
        have hx := bt_lt q ((N + k) / 8)
        generalize hxx : bt q ((N + k) / 8) = x at *
        have HX := Lib.hid hxx
        clear hxx had
        have hfr := own_free O.out ((N + k) / 8)
        have hsh : (mask : Int) / 2 ^ k = ((mask / 2 ^ k : Nat) : Int) := by simp
        have hpj : 2 ^ ((N + k) % 8) < 256 := Nat.pow_lt_pow_right (a := 2) (n := 8) (by omega) (by omega)
        have hpw : (2 : Int) ^ ((N + k) % 8) % 256 = ((2 ^ ((N + k) % 8) : Nat) : Int) := by
          rw [show (2 : Int) ^ ((N + k) % 8) = ((2 ^ ((N + k) % 8) : Nat) : Int) from by simp]
          exact Int.emod_eq_of_lt (Int.natCast_nonneg _) (by omega)
        have hxo := u8_xor_nat x (2 ^ ((N + k) % 8)) hx hpj
        have hyl : x ^^^ 2 ^ ((N + k) % 8) < 2 ^ 8 := Nat.xor_lt_two_pow hx hpj
        have HF := Lib.hid (fun i => flip_bit q (N + k) (by rw [R.out.len]; omega) i)
        rw [HX.out] at HF
        have HMY := Lib.hid (fun hb => mask_yes (SumP.bitOf (SumP.sealB l)) N k mask hb)
        have HMN := Lib.hid (fun hb => mask_no (SumP.bitOf (SumP.sealB l)) N k mask hb)
        have HST := Lib.hid (O.out.stored ((N + k) / 8) (.int .u8 ((x ^^^ 2 ^ ((N + k) % 8) : Nat) : Int)))
        have HBS := Lib.hid (bytesV_set q ((N + k) / 8) _ hyl)
        generalize mask / 2 ^ k = mk at *
        generalize x ^^^ 2 ^ ((N + k) % 8) = y at *
        generalize 2 ^ ((N + k) % 8) = pw at *
        go_wp2
        · have hb1 : mk % 2 = 1 := by
            have h3 : ((mk : Int) % 2 == 1) = true := ‹_›
            simp at h3; omega
          go_roundw
          case rel =>
            refine ⟨k + 1, _, by omega, by go_num, by rw [HBS.out]; exact HST.out.1, B.out.setCell (by simpa using hgw) _, Lib.hid (fun i => ?_)⟩
            rw [HF.out, hq.out, HMY.out hb1]
          case measure => simp [intOf]; omega
        · have hb1 : mk % 2 ≠ 1 := by
            have h3 : ((mk : Int) % 2 == 1) = false := ‹_›
            simp at h3; omega
          go_roundw
          case rel =>
            refine ⟨k + 1, q, by omega, by go_num, O.out, B.out, Lib.hid (fun i => ?_)⟩
            rw [hq.out, HMN.out hb1]
          case measure => simp [intOf]; omega
      · obtain rfl : k = 32 := by omega
        have hopen : SumP.opens q = false := SumP.finds (SumP.sealB l) q N mask (by rw [SumP.sealB_length, R.out.len, H.out.len]) (by rw [SumP.sealB_length]; omega) (SumP.opens_sealB l) HM.out hm (by rw [SumP.sealB_length, H.out.len]; omega) hq.out
        have hopn := SumP.opened_no q hopen
        go_wp2_with fail
        refine (sumOpen _ _ (n + 4) c1 q R.out (by obtain ⟨A', c', he, hle⟩ := own_slice O.out; injection he with _ _ h3; omega) (by omega)).mono ?_
        rintro e w4 ⟨A4, n4, c4, rfl, hr4, hc4, hb4⟩
        rw [hopen]
        rw [hopn] at hr4
        have hn4 : n4 = 0 := by have := hr4.len; simpa using this.symm
        subst hn4
        have B4 := Lib.hid (Below.then_below B.out hb4)
        clear hr4 hb4
        go_wp2_with fail
        refine (awake _).mono ?_
        rintro e w11 ⟨rfl, hb11⟩
        go_wp2
        go_ret
        exact ⟨rfl, Below.then_below B4.out hb11⟩
end Go.Proofs.Ytjbiemeaelnhaaa.Sum
