import Derived.Test.YtjbiemeaelnhaaaFrmF
/- The law FrameHurts. -/
namespace Go.Proofs.Ytjbiemeaelnhaaa.Frm
open Go.RowKit FrmP Sum

set_option maxHeartbeats 2000000 in
theorem hurts (w : World) (k f t : Int) (A : Option Addr) (n c : Nat) (l : List UInt8) (h : Rb w A n l) (p x : Nat) (hp : p < 65536) (hx : x < 256) :
    Calls Try.prog 8 #[frV k f t A n c, .int .u16 p, .int .u8 x] w fun e w' => e = .returned (.bool true) ∧ Below w.heap.size w w' := by
  obtain ⟨b0, kk0⟩ := box4 (w := w) 37 (.int .i64 k) (.int .i64 f) (.int .i64 t) (.slice A n c)
  have B0 := Lib.hid b0
  have K0 := Lib.hid kk0
  have H := Lib.hid h
  clear h b0 kk0
  have HR := Lib.hid (fun W => refCheck W k f t A n c)
  unfold frV at *
  obtain ⟨q0, q1, q2, q3, q4, q5, q6⟩ := cells4 K0.out
  by_cases hn : 500 < n
  · go_enter Try.func8, Try.ntmps8
    go_wp2_with fail
    refine (awake _).mono ?_
    rintro e w1 ⟨rfl, hb1⟩
    go_wp2
    go_ret
    exact ⟨rfl, Below.then_below B0.out hb1⟩
  · go_enter Try.func8, Try.ntmps8
    go_wp2_with fail
    refine (HR.out _).mono ?_
    rintro e w1 ⟨rfl, hb1⟩
    have K1 := Lib.hid (K0.out.below hb1 (by simp))
    have B1 := Lib.hid (Below.then_below B0.out hb1)
    clear hb1 K0 B0 q0 q1 q2 q3 q4 q5 q6
    by_cases hc : chk k f t n = 0
    · by_cases hx0 : x = 0
      · subst hx0
        rw [hc]
        go_wp2_with fail
        refine (awake _).mono ?_
        rintro e w2 ⟨rfl, hb2⟩
        go_wp2
        go_ret
        exact ⟨rfl, Below.then_below B1.out hb2⟩
      · have e0 : ((x : Int) == 0) = false := by simp; omega
        have HQ := Lib.hid (fun W hw => refPut W k f t A n c l hw hc)
        unfold frV at HQ
        have HE := Lib.hid (hurt_err k f t l (p % (n + 8)) x (by rw [H.out.len]; exact Nat.mod_lt _ (by omega)) hx hx0)
        rw [hc]
        obtain ⟨q0, q1, q2, q3, q4, q5, q6⟩ := cells4 K1.out
        go_wp2_with fail
        refine (HQ.out _ (H.out.below B1.out)).mono ?_
        rintro e w2 ⟨v2, rfl, ho2, hb2⟩
        obtain ⟨g, c2, hv, hgb, hlt2⟩ := ho2.form (by omega)
        subst hv
        have B2 := Lib.hid (Below.then_below B1.out hb2)
        have hgw : w.heap.size ≤ g := by have := B1.out.size; omega
        have O2 := Lib.hid ho2
        clear hb2 ho2 K1 B1 q0 q1 q2 q3 q4 q5 q6 hgb
        generalize putB k f t l = q at *
        obtain ⟨N, hN⟩ : ∃ N, N = p % (n + 8) := ⟨_, rfl⟩
        have hNb : N < n + 8 := by rw [hN]; exact Nat.mod_lt _ (by omega)
        have hNe : (p : Int) % ((n : Int) + 8) = (N : Int) := by rw [hN, Int.natCast_emod]; rfl
        rw [← hN] at HE
        clear hN
        have R2 := Lib.hid (Rb.of_own O2.out)
        obtain ⟨ad, had, hcell⟩ := R2.out.at_ (k := N) hNb
        obtain rfl : ad = ⟨g, 0, none⟩ := by injection had with had; exact had.symm
        rw [addr_plain] at hcell
        have hy := bt_lt q N
        generalize hyy : bt q N = y at *
        have HY := Lib.hid hyy
        clear hyy had
        have hfr := own_free O2.out N
        have hxo := u8_xor_nat y x hy hx
        have hyl : y ^^^ x < 2 ^ 8 := Nat.xor_lt_two_pow hy hx
        have HST := Lib.hid (O2.out.stored N (.int .u8 ((y ^^^ x : Nat) : Int)))
        have HBS := Lib.hid (bytesV_set q N _ hyl)
        generalize y ^^^ x = z at *
        go_wp2_with fail
        have ho3 := HST.out.1
        rw [← HBS.out] at ho3
        have R3 := Lib.hid (Rb.of_own ho3)
        have hc2 : n + 8 ≤ c2 := by obtain ⟨A', c', e', h'⟩ := own_slice ho3; injection e' with _ _ e'; omega
        have B3 := Lib.hid (B2.out.setCell (p := ⟨g, N, none⟩) hgw (.int .u8 (z : Int)))
        clear ho3 HST HBS O2 R2 hcell hfr
        refine (get _ _ _ c2 _ R3.out hc2 (by omega)).mono ?_
        rintro e w4 ⟨A4, n4, c4, rfl, hr4, hc4, hb4⟩
        obtain ⟨g1, g2, g3, g4⟩ := no (l := q.set N (UInt8.ofNat z)) (by rw [HE.out]; decide)
        rw [g1, g2, g3, HE.out]
        rw [g4] at hr4
        unfold frV
        obtain ⟨b4, kk4⟩ := box4 (w := w4) 41 (.int .i64 0) (.int .i64 0) (.int .i64 0) (.slice A4 n4 c4)
        have B4 := Lib.hid (Below.then_below (Below.then_below B3.out hb4) b4)
        have R4 := Lib.hid (hr4.below b4)
        obtain ⟨q0, q1, q2, q3, q4, q5, q6⟩ := cells4 kk4
        have HA := Lib.hid (fun W hw => are W 0 0 0 A4 n4 c4 [] 0 0 0 none 0 0 [] hw (Rb.nil_ _))
        rw [areB_self] at HA
        unfold frV at HA
        clear hb4 b4 kk4 hr4 B3 R3 g1 g2 g3 g4
        go_wp2_with fail
        refine (HA.out _ R4.out).mono ?_
        rintro e w5 ⟨rfl, hb5⟩
        have B5 := Lib.hid (Below.then_below B4.out hb5)
        clear hb5 q0 q1 q2 q3 q4 q5 q6
        go_wp2_with fail
        refine (awake _).mono ?_
        rintro e w6 ⟨rfl, hb6⟩
        go_wp2
        go_ret
        exact ⟨rfl, Below.then_below B5.out hb6⟩
    · have hne := ne_zero hc
      generalize chk k f t n = x at *
      go_wp2_with fail
      refine (awake _).mono ?_
      rintro e w2 ⟨rfl, hb2⟩
      go_wp2
      go_ret
      exact ⟨rfl, Below.then_below B1.out hb2⟩
end Go.Proofs.Ytjbiemeaelnhaaa.Frm
