import Derived.Test.YtjbiemeaelnhaaaFrmD
/- The law FramePuts. -/
namespace Go.Proofs.Ytjbiemeaelnhaaa.Frm
open Go.RowKit FrmP Sum

theorem cells4 {w : World} {g : Nat} {t : TypeId} {a b c d : Value} (h : Bk w g t #[a, b, c, d]) :
    w.cell? ⟨g, 0, none⟩ = some a ∧ w.cell? ⟨g, 1, none⟩ = some b ∧ w.cell? ⟨g, 2, none⟩ = some c ∧ w.cell? ⟨g, 3, none⟩ = some d ∧ w.cell? ⟨g, 0 + 1, none⟩ = some b ∧ w.cell? ⟨g, 0 + 2, none⟩ = some c ∧ w.cell? ⟨g, 0 + 3, none⟩ = some d := by
  refine ⟨?_, ?_, ?_, ?_, ?_, ?_, ?_⟩ <;> rw [h.cell] <;> rfl
theorem ne_self (x : Int) : (x != x) = false := by simp
set_option maxHeartbeats 2000000 in
theorem puts (w : World) (k f t : Int) (A : Option Addr) (n c : Nat) (l : List UInt8) (h : Rb w A n l) :
    Calls Try.prog 6 #[frV k f t A n c] w fun e w' => e = .returned (.bool true) ∧ Below w.heap.size w w' := by
  have B0 := Lib.hid ((Below.refl w.heap.size w).alloc (Nat.le_refl _) (.cells #[.int .i64 k, .int .i64 f, .int .i64 t, .slice A n c] 37))
  have K0 := Lib.hid (Bk.new w 37 #[.int .i64 k, .int .i64 f, .int .i64 t, .slice A n c])
  have H := Lib.hid h
  clear h
  have HT := Lib.hid (fun W => to W k f t A n c)
  have HC := Lib.hid (fun W => check W k f t A n c)
  have HR := Lib.hid (fun W => refCheck W k f t A n c)
  unfold frV at *
  by_cases hn : 500 < n
  · go_enter Try.func6, Try.ntmps6
    go_wp2_with fail
    refine (awake _).mono ?_
    rintro e w1 ⟨rfl, hb1⟩
    go_wp2
    go_ret
    exact ⟨rfl, Below.then_below B0.out hb1⟩
  · go_enter Try.func6, Try.ntmps6
    go_wp2_with fail
    refine (HT.out _).mono ?_
    rintro e w1 ⟨rfl, hb1⟩
    have K1 := Lib.hid (K0.out.below hb1 (by simp))
    have B1 := Lib.hid (Below.then_below B0.out hb1)
    have hz1 : w.heap.size < w1.heap.size := K1.out.lt
    clear hb1 K0 B0
    by_cases hx : chk k f t n = 0
    · have HP := Lib.hid (fun W hw => put_ok W k f t A n c l hw hx)
      have HQ := Lib.hid (fun W hw => refPut W k f t A n c l hw hx)
      obtain ⟨g0, g1, g2, g3, g4⟩ := put_got (k := k) (f := f) (t := t) (l := l) (by rw [H.out.len]; exact hx)
      have hlen := putB_length k f t l
      rw [H.out.len] at hlen
      unfold frV at HP HQ
      rw [hx] at HC HR
      have e1 := ne_self ((0 : Nat) : Int)
      go_wp2_with fail
      refine (HP.out _ (H.out.below B1.out)).mono ?_
      rintro e w2 ⟨v, rfl, ho2, hb2⟩
      obtain ⟨A2, c2, rfl, hc2⟩ := own_slice ho2
      have R2 := Lib.hid (Rb.of_own ho2)
      have K2 := Lib.hid (K1.out.below hb2 hz1)
      have B2 := Lib.hid (Below.then_below B1.out hb2)
      obtain ⟨q0, q1, q2, q3, q4, q5, q6⟩ := cells4 K2.out
      clear hb2 ho2 K1 B1
      go_wp2_with fail
      refine (HR.out _).mono ?_
      rintro e w3 ⟨rfl, hb3⟩
      have R3 := Lib.hid (R2.out.below hb3)
      have K3 := Lib.hid (K2.out.below hb3 K2.out.lt)
      have B3 := Lib.hid (Below.then_below B2.out hb3)
      clear hb3 K2 B2 R2 q0 q1 q2 q3 q4 q5 q6
      obtain ⟨q0, q1, q2, q3, q4, q5, q6⟩ := cells4 K3.out
      go_wp2_with fail
      refine (HT.out _).mono ?_
      rintro e w4 ⟨rfl, hb4⟩
      have R4 := Lib.hid (R3.out.below hb4)
      have K4 := Lib.hid (K3.out.below hb4 K3.out.lt)
      have B4 := Lib.hid (Below.then_below B3.out hb4)
      clear hb4 K3 B3 R3 q0 q1 q2 q3 q4 q5 q6
      go_wp2_with fail
      refine (HC.out _).mono ?_
      rintro e w5 ⟨rfl, hb5⟩
      have R5 := Lib.hid (R4.out.below hb5)
      have K5 := Lib.hid (K4.out.below hb5 K4.out.lt)
      have B5 := Lib.hid (Below.then_below B4.out hb5)
      clear hb5 K4 B4 R4
      go_wp2_with fail
      refine (get _ A2 _ c2 _ R5.out hc2 (by omega)).mono ?_
      rintro e w6 ⟨A6, n6, c6, rfl, hr6, hc6, hb6⟩
      rw [g0, g1, g2, g3]
      rw [g4] at hr6
      unfold frV
      have hb7 := (Below.refl w6.heap.size w6).alloc (Nat.le_refl _) (.cells #[.int .i64 k, .int .i64 f, .int .i64 t, .slice A6 n6 c6] 41)
      have K7 := Lib.hid (Bk.new w6 41 #[.int .i64 k, .int .i64 f, .int .i64 t, .slice A6 n6 c6])
      have hz6 : w.heap.size < w6.heap.size := (K5.out.below hb6 K5.out.lt).lt
      have KF7 := Lib.hid ((K5.out.below hb6 K5.out.lt).below hb7 hz6)
      have R7 := Lib.hid ((R5.out.below hb6).below hb7)
      have S7 := Lib.hid (hr6.below hb7)
      have B7 := Lib.hid (Below.then_below (Below.then_below B5.out hb6) hb7)
      obtain ⟨q0, q1, q2, q3, q4, q5, q6⟩ := cells4 KF7.out
      clear hb6 hb7 hr6 K5 B5 R5
      go_wp2_with fail
      refine (HQ.out _ (H.out.below B7.out)).mono ?_
      rintro e w8 ⟨v8, rfl, ho8, hb8⟩
      obtain ⟨A8, c8, rfl, hc8⟩ := own_slice ho8
      have R8 := Lib.hid (Rb.of_own ho8)
      have RR8 := Lib.hid (R7.out.below hb8)
      have S8 := Lib.hid (S7.out.below hb8)
      have K8 := Lib.hid (K7.out.below hb8 K7.out.lt)
      have KF8 := Lib.hid (KF7.out.below hb8 KF7.out.lt)
      have B8 := Lib.hid (Below.then_below B7.out hb8)
      clear hb8 ho8 K7 KF7 B7 R7 S7 q0 q1 q2 q3 q4 q5 q6
      go_wp2_with fail
      refine (refSame _ A2 A8 _ _ c2 c8 _ _ RR8.out R8.out).mono ?_
      rintro e w9 ⟨rfl, hb9⟩
      rw [sameB_self]
      have S9 := Lib.hid (S8.out.below hb9)
      have K9 := Lib.hid (K8.out.below hb9 K8.out.lt)
      have KF9 := Lib.hid (KF8.out.below hb9 KF8.out.lt)
      have B9 := Lib.hid (Below.then_below B8.out hb9)
      clear hb9 K8 KF8 B8 S8 R8 RR8
      obtain ⟨q0, q1, q2, q3, q4, q5, q6⟩ := cells4 KF9.out
      obtain ⟨p0, p1, p2, p3, p4, p5, p6⟩ := cells4 K9.out
      have HA := Lib.hid (fun W hw hw' => are W k f t A6 n6 c6 l k f t A n c l hw hw')
      rw [areB_self] at HA
      unfold frV at HA
      go_wp2_with fail
      refine (HA.out _ S9.out (H.out.below B9.out)).mono ?_
      rintro e w10 ⟨rfl, hb10⟩
      have B10 := Lib.hid (Below.then_below B9.out hb10)
      clear hb10 K9 KF9 B9 S9 q0 q1 q2 q3 q4 q5 q6 p0 p1 p2 p3 p4 p5 p6
      go_wp2_with fail
      refine (awake _).mono ?_
      rintro e w11 ⟨rfl, hb11⟩
      go_wp2
      go_ret
      exact ⟨rfl, Below.then_below B10.out hb11⟩
    · have HP := Lib.hid (fun W => put_no W k f t A n c hx)
      have hne := ne_zero hx
      unfold frV at HP
      generalize chk k f t n = x at *
      have e1 := ne_self (x : Int)
      go_wp2_with fail
      refine (HP.out _).mono ?_
      rintro e w2 ⟨rfl, hb2⟩
      have K2 := Lib.hid (K1.out.below hb2 hz1)
      have B2 := Lib.hid (Below.then_below B1.out hb2)
      obtain ⟨q0, q1, q2, q3, q4, q5, q6⟩ := cells4 K2.out
      clear hb2 K1 B1
      go_wp2_with fail
      refine (HR.out _).mono ?_
      rintro e w3 ⟨rfl, hb3⟩
      have K3 := Lib.hid (K2.out.below hb3 K2.out.lt)
      have B3 := Lib.hid (Below.then_below B2.out hb3)
      clear hb3 K2 B2 q0 q1 q2 q3 q4 q5 q6
      obtain ⟨q0, q1, q2, q3, q4, q5, q6⟩ := cells4 K3.out
      go_wp2_with fail
      refine (HT.out _).mono ?_
      rintro e w4 ⟨rfl, hb4⟩
      have B4 := Lib.hid (Below.then_below B3.out hb4)
      clear hb4 K3 B3 q0 q1 q2 q3 q4 q5 q6
      go_wp2_with fail
      refine (HC.out _).mono ?_
      rintro e w5 ⟨rfl, hb5⟩
      have B5 := Lib.hid (Below.then_below B4.out hb5)
      clear hb5 B4
      go_wp2_with fail
      refine (awake _).mono ?_
      rintro e w11 ⟨rfl, hb11⟩
      go_wp2
      go_ret
      exact ⟨rfl, Below.then_below B5.out hb11⟩
end Go.Proofs.Ytjbiemeaelnhaaa.Frm
