import Derived.Test.YtjbiemeaelnhaaaFrmE
/- The law FrameGets. -/
namespace Go.Proofs.Ytjbiemeaelnhaaa.Frm
open Go.RowKit FrmP Sum

/-- A frame and its cells. -/
theorem box4 {w : World} (t : TypeId) (a b c d : Value) : Below w.heap.size w (w.alloc (.cells #[a, b, c, d] t)) ∧ Bk (w.alloc (.cells #[a, b, c, d] t)) w.heap.size t #[a, b, c, d] :=
  ⟨(Below.refl _ _).alloc (Nat.le_refl _) _, Bk.new w t _⟩
set_option maxHeartbeats 2000000 in
theorem gets (w : World) (A : Option Addr) (n c : Nat) (l : List UInt8) (h : Rb w A n l) (hc : n ≤ c) :
    Calls Try.prog 7 #[.slice A n c] w fun e w' => e = .returned (.bool true) ∧ Below w.heap.size w w' := by
  have H := Lib.hid h
  clear h
  by_cases hn : 500 < n
  · go_enter Try.func7, Try.ntmps7
    go_wp2_with fail
    refine (awake _).mono ?_
    rintro e w1 ⟨rfl, hb1⟩
    go_wp2
    go_ret
    exact ⟨rfl, hb1⟩
  · go_enter Try.func7, Try.ntmps7
    go_wp2_with fail
    refine (get _ A n c l H.out hc (by omega)).mono ?_
    rintro e w1 ⟨A1, n1, c1, rfl, hr1, hc1, hb1⟩
    unfold frV
    generalize hk1 : kind l = k1 at *
    generalize hf1 : sender l = f1 at *
    generalize ht1 : goal l = t1 at *
    generalize hx1 : err l = x1 at *
    generalize hl1 : body l = l1 at *
    obtain ⟨b1, kk1⟩ := box4 (w := w1) 41 (.int .i64 k1) (.int .i64 f1) (.int .i64 t1) (.slice A1 n1 c1)
    have B1 := Lib.hid (Below.then_below hb1 b1)
    have K1 := Lib.hid kk1
    have R1 := Lib.hid (hr1.below b1)
    have hz1 := kk1.lt
    clear hb1 b1 kk1 hr1
    go_wp2_with fail
    refine (refGet _ A n c l (H.out.below B1.out) hc (by omega)).mono ?_
    rintro e w2 ⟨A2, n2, c2, rfl, hr2, hc2, hb2⟩
    rw [hk1, hf1, ht1, hx1]
    rw [hl1] at hr2
    unfold frV
    clear hk1 hf1 ht1 hx1 hl1
    obtain ⟨b2, kk2⟩ := box4 (w := w2) 37 (.int .i64 k1) (.int .i64 f1) (.int .i64 t1) (.slice A2 n2 c2)
    have hz2 : w1.heap.size < w2.heap.size := (K1.out.below hb2 hz1).lt
    have B2 := Lib.hid (Below.then_below (Below.then_below B1.out hb2) b2)
    have KF := Lib.hid ((K1.out.below hb2 hz1).below b2 hz2)
    have KG := Lib.hid kk2
    have RF := Lib.hid ((R1.out.below hb2).below b2)
    have RG := Lib.hid (hr2.below b2)
    have hz2' := kk2.lt
    clear hb2 b2 kk2 hr2 B1 K1 R1
    go_wp2_with fail
    refine (refSeal _ A n c l (H.out.below B2.out) (by omega)).mono ?_
    rintro e w3 ⟨v, rfl, ho3, hb3⟩
    obtain ⟨A3, c3, rfl, hc3⟩ := own_slice ho3
    have hr3 := Rb.of_own ho3
    generalize SumP.sealB l = s at *
    have RS := Lib.hid hr3
    have B3 := Lib.hid (Below.then_below B2.out hb3)
    have KF3 := Lib.hid (KF.out.below hb3 KF.out.lt)
    have KG3 := Lib.hid (KG.out.below hb3 KG.out.lt)
    have RF3 := Lib.hid (RF.out.below hb3)
    have RG3 := Lib.hid (RG.out.below hb3)
    have hz3 : w2.heap.size < w3.heap.size := KG3.out.lt
    clear hb3 ho3 hr3 B2 KF KG RF RG
    go_wp2_with fail
    refine (get _ A3 _ c3 s RS.out hc3 (by omega)).mono ?_
    rintro e w4 ⟨A4, n4, c4, rfl, hr4, hc4, hb4⟩
    unfold frV
    have HGP : Hid (err s = 0 → putB (kind s) (sender s) (goal s) (body s) = s ∧ chk (kind s) (sender s) (goal s) (body s).length = 0) := Lib.hid (fun h => ⟨got_put h, got_chk h⟩)
    generalize hk4 : kind s = k4 at *
    generalize hf4 : sender s = f4 at *
    generalize ht4 : goal s = t4 at *
    generalize hx4 : err s = x4 at *
    generalize hl4 : body s = l4 at *
    obtain ⟨b4, kk4⟩ := box4 (w := w4) 41 (.int .i64 k4) (.int .i64 f4) (.int .i64 t4) (.slice A4 n4 c4)
    have hz4 : w2.heap.size < w4.heap.size := (KG3.out.below hb4 hz3).lt
    have KF4 := Lib.hid ((KF3.out.below hb4 KF3.out.lt).below b4 (by omega))
    have KG4 := Lib.hid ((KG3.out.below hb4 KG3.out.lt).below b4 hz4)
    have RF4 := Lib.hid ((RF3.out.below hb4).below b4)
    have RG4 := Lib.hid ((RG3.out.below hb4).below b4)
    have RS4 := Lib.hid ((RS.out.below hb4).below b4)
    have RX := Lib.hid (hr4.below b4)
    have KX := Lib.hid kk4
    have B4 := Lib.hid (Below.then_below (Below.then_below B3.out hb4) b4)
    have hz4' := kk4.lt
    clear hb4 b4 kk4 hr4 B3 KF3 KG3 RF3 RG3 RS
    go_wp2_with fail
    refine (refGet _ A3 _ c3 s RS4.out hc3 (by omega)).mono ?_
    rintro e w5 ⟨A5, n5, c5, rfl, hr5, hc5, hb5⟩
    rw [hk4, hf4, ht4, hx4]
    rw [hl4] at hr5
    unfold frV
    clear hk4 hf4 ht4 hx4 hl4
    obtain ⟨b5, kk5⟩ := box4 (w := w5) 37 (.int .i64 k4) (.int .i64 f4) (.int .i64 t4) (.slice A5 n5 c5)
    have hz5 : w4.heap.size < w5.heap.size := (KX.out.below hb5 hz4').lt
    have KF5 := Lib.hid ((KF4.out.below hb5 KF4.out.lt).below b5 (by omega))
    have KG5 := Lib.hid ((KG4.out.below hb5 KG4.out.lt).below b5 (by omega))
    have KX5 := Lib.hid ((KX.out.below hb5 KX.out.lt).below b5 hz5)
    have KY5 := Lib.hid kk5
    have RF5 := Lib.hid ((RF4.out.below hb5).below b5)
    have RG5 := Lib.hid ((RG4.out.below hb5).below b5)
    have RS5 := Lib.hid ((RS4.out.below hb5).below b5)
    have RX5 := Lib.hid ((RX.out.below hb5).below b5)
    have RY5 := Lib.hid (hr5.below b5)
    have B5 := Lib.hid (Below.then_below (Below.then_below B4.out hb5) b5)
    clear hb5 b5 kk5 hr5 B4 KF4 KG4 RF4 RG4 RS4 RX KX
    obtain ⟨q0, q1, q2, q3, q4, q5, q6⟩ := cells4 KF5.out
    obtain ⟨p0, p1, p2, p3, p4, p5, p6⟩ := cells4 KG5.out
    have HA1 := Lib.hid (fun W hw hw' => are W k1 f1 t1 A1 n1 c1 l1 k1 f1 t1 A2 n2 c2 l1 hw hw')
    have HA4 := Lib.hid (fun W hw hw' => are W k4 f4 t4 A4 n4 c4 l4 k4 f4 t4 A5 n5 c5 l4 hw hw')
    rw [areB_self] at HA1 HA4
    unfold frV at HA1 HA4
    have e1 := ne_self (x1 : Int)
    have e4 := ne_self (x4 : Int)
    go_wp2_with fail
    refine (HA1.out _ RF5.out RG5.out).mono ?_
    rintro e w6 ⟨rfl, hb6⟩
    have KX6 := Lib.hid (KX5.out.below hb6 KX5.out.lt)
    have KY6 := Lib.hid (KY5.out.below hb6 KY5.out.lt)
    have RS6 := Lib.hid (RS5.out.below hb6)
    have RX6 := Lib.hid (RX5.out.below hb6)
    have RY6 := Lib.hid (RY5.out.below hb6)
    have B6 := Lib.hid (Below.then_below B5.out hb6)
    clear hb6 KF5 KG5 KX5 KY5 RF5 RG5 RS5 RX5 RY5 B5 q0 q1 q2 q3 q4 q5 q6 p0 p1 p2 p3 p4 p5 p6
    obtain ⟨q0, q1, q2, q3, q4, q5, q6⟩ := cells4 KX6.out
    obtain ⟨p0, p1, p2, p3, p4, p5, p6⟩ := cells4 KY6.out
    go_wp2_with fail
    refine (HA4.out _ RX6.out RY6.out).mono ?_
    rintro e w7 ⟨rfl, hb7⟩
    have KX7 := Lib.hid (KX6.out.below hb7 KX6.out.lt)
    have RS7 := Lib.hid (RS6.out.below hb7)
    have RX7 := Lib.hid (RX6.out.below hb7)
    have B7 := Lib.hid (Below.then_below B6.out hb7)
    clear hb7 KX6 KY6 RS6 RX6 RY6 B6 q0 q1 q2 q3 q4 q5 q6 p0 p1 p2 p3 p4 p5 p6
    by_cases hx : x4 = 0
    · subst hx
      obtain ⟨g1, g2⟩ := HGP.out rfl
      obtain ⟨q0, q1, q2, q3, q4, q5, q6⟩ := cells4 KX7.out
      have HP := Lib.hid (fun W hw => put_ok W k4 f4 t4 A4 n4 c4 l4 hw (by rw [← RX7.out.len]; exact g2))
      rw [g1] at HP
      unfold frV at HP
      go_wp2_with fail
      refine (HP.out _ RX7.out).mono ?_
      rintro e w8 ⟨v8, rfl, ho8, hb8⟩
      obtain ⟨A8, c8, rfl, hc8⟩ := own_slice ho8
      have R8 := Lib.hid (Rb.of_own ho8)
      have RS8 := Lib.hid (RS7.out.below hb8)
      have B8 := Lib.hid (Below.then_below B7.out hb8)
      clear hb8 ho8 KX7 RS7 RX7 B7 q0 q1 q2 q3 q4 q5 q6
      go_wp2_with fail
      refine (refSame _ A8 A3 _ _ c8 c3 _ _ R8.out RS8.out).mono ?_
      rintro e w9 ⟨rfl, hb9⟩
      rw [sameB_self]
      have B9 := Lib.hid (Below.then_below B8.out hb9)
      clear hb9 R8 RS8
      go_wp2_with fail
      refine (awake _).mono ?_
      rintro e w11 ⟨rfl, hb11⟩
      go_wp2
      go_ret
      exact ⟨rfl, Below.then_below B9.out hb11⟩
    · have hne := ne_zero hx
      go_wp2_with fail
      refine (awake _).mono ?_
      rintro e w11 ⟨rfl, hb11⟩
      go_wp2
      go_ret
      exact ⟨rfl, Below.then_below B7.out hb11⟩
end Go.Proofs.Ytjbiemeaelnhaaa.Frm
