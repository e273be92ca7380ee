import Derived.Test.YtjbiemeaelnhaaaFrmG
/- The law FrameSame. -/
namespace Go.Proofs.Ytjbiemeaelnhaaa.Frm
open Go.RowKit FrmP Sum

theorem keep8 {w w1 w2 : World} {n : Nat} {p q r s p' q' r' s' : Addr} {a b c d a' b' c' d' : Value} (h : Below n w w1 ∧ w1.cell? p = some a ∧ w1.cell? q = some b ∧ w1.cell? r = some c ∧ w1.cell? s = some d ∧ w1.cell? p' = some a' ∧ w1.cell? q' = some b' ∧ w1.cell? r' = some c' ∧ w1.cell? s' = some d')
    (hb : Below w1.heap.size w1 w2) (hn : n ≤ w.heap.size) :
    Below n w w2 ∧ w2.cell? p = some a ∧ w2.cell? q = some b ∧ w2.cell? r = some c ∧ w2.cell? s = some d ∧ w2.cell? p' = some a' ∧ w2.cell? q' = some b' ∧ w2.cell? r' = some c' ∧ w2.cell? s' = some d' :=
  ⟨h.1.trans (hb.mono (Nat.le_trans hn h.1.size)), cell_keep h.2.1 hb, cell_keep h.2.2.1 hb, cell_keep h.2.2.2.1 hb, cell_keep h.2.2.2.2.1 hb, cell_keep h.2.2.2.2.2.1 hb, cell_keep h.2.2.2.2.2.2.1 hb, cell_keep h.2.2.2.2.2.2.2.1 hb, cell_keep h.2.2.2.2.2.2.2.2 hb⟩
theorem below8 {w w1 : World} {n : Nat} {Q : Prop} (h : Below n w w1 ∧ Q) : Below n w w1 := h.1
theorem nb (b : Bool) : (b != b) = false := by cases b <;> rfl
set_option maxHeartbeats 4000000 in
theorem sames (w : World) (k f t : Int) (A : Option Addr) (n c : Nat) (l : List UInt8) (h : Rb w A n l) (k' f' t' : Int) (A' : Option Addr) (n' c' : Nat) (l' : List UInt8) (h' : Rb w A' n' l') (x : Nat) (hx : x < 256) :
    Calls Try.prog 9 #[frV k f t A n c, frV k' f' t' A' n' c', .int .u8 x] w fun e w' => e = .returned (.bool true) ∧ Below w.heap.size w w' := by
  obtain ⟨b0, kk0⟩ := box4 (w := w) 37 (.int .i64 k) (.int .i64 f) (.int .i64 t) (.slice A n c)
  obtain ⟨b1, kk1⟩ := box4 (w := w.alloc (.cells #[.int .i64 k, .int .i64 f, .int .i64 t, .slice A n c] 37)) 37 (.int .i64 k') (.int .i64 f') (.int .i64 t') (.slice A' n' c')
  have B1 := Lib.hid (Below.then_below b0 b1)
  have KA := kk0.below b1 kk0.lt
  have KB := kk1.of_num (show _ = w.heap.size + 1 by simp)
  have H := Lib.hid h
  have H' := Lib.hid h'
  clear h h' b0 b1 kk0 kk1
  have HTA := Lib.hid (fun W => to W k f t A n c)
  have HTB := Lib.hid (fun W => to W k' f' t' A' n' c')
  have HSB := Lib.hid (fun W (hw : Below w.heap.size w W) => same W k f t A n c l k' f' t' A' n' c' l' (H.out.below hw) (H'.out.below hw))
  have HSA := Lib.hid (fun W (hw : Below w.heap.size w W) => same W k f t A n c l k f t A n c l (H.out.below hw) (H.out.below hw))
  have HAR := Lib.hid (fun W (hw : Below w.heap.size w W) => are W k f t A n c l k' f' t' A' n' c' l' (H.out.below hw) (H'.out.below hw))
  rw [areB_self] at HSA
  unfold frV at *
  by_cases hn : 500 < n
  · go_enter Try.func9, Try.ntmps9
    obtain ⟨q0, q1, q2, q3, q4, q5, q6⟩ := cells4 KA
    go_wp2_with fail
    refine (awake _).mono ?_
    rintro e w1 ⟨rfl, hb1⟩
    go_wp2
    go_ret
    exact ⟨rfl, Below.then_below B1.out hb1⟩
  · by_cases hn' : 500 < n'
    · go_enter Try.func9, Try.ntmps9
      obtain ⟨q0, q1, q2, q3, q4, q5, q6⟩ := cells4 KA
      obtain ⟨p0, p1, p2, p3, p4, p5, p6⟩ := cells4 KB
      go_wp2_with fail
      refine (awake _).mono ?_
      rintro e w1 ⟨rfl, hb1⟩
      go_wp2
      go_ret
      exact ⟨rfl, Below.then_below B1.out hb1⟩
    · go_enter Try.func9, Try.ntmps9
      obtain ⟨q0, q1, q2, q3, q4, q5, q6⟩ := cells4 KA
      obtain ⟨p0, p1, p2, p3, p4, p5, p6⟩ := cells4 KB
      have hnb := nb (areB k f t l k' f' t' l')
      generalize areB k f t l k' f' t' l' = ab at *
      go_wp2_with fail
      have KA' := Lib.hid KA
      have KB' := Lib.hid KB
      clear q0 q1 q2 q3 q4 q5 q6 p0 p1 p2 p3 p4 p5 p6 KA KB
      go_region_held3 (fun w' => Below w.heap.size w w' ∧ w'.cell? ⟨w.heap.size, 0, none⟩ = some (.int .i64 k) ∧ w'.cell? ⟨w.heap.size, 0 + 1, none⟩ = some (.int .i64 f) ∧ w'.cell? ⟨w.heap.size, 0 + 2, none⟩ = some (.int .i64 t) ∧ w'.cell? ⟨w.heap.size, 0 + 3, none⟩ = some (.slice A n c) ∧ w'.cell? ⟨w.heap.size + 1, 0, none⟩ = some (.int .i64 k') ∧ w'.cell? ⟨w.heap.size + 1, 0 + 1, none⟩ = some (.int .i64 f') ∧ w'.cell? ⟨w.heap.size + 1, 0 + 2, none⟩ = some (.int .i64 t') ∧ w'.cell? ⟨w.heap.size + 1, 0 + 3, none⟩ = some (.slice A' n' c'))
        (first | exact ⟨B1.out.drew, by rw [World.cell?_drew, KA'.out.cell]; simp, by rw [World.cell?_drew, KA'.out.cell]; simp, by rw [World.cell?_drew, KA'.out.cell]; simp, by rw [World.cell?_drew, KA'.out.cell]; simp, by rw [World.cell?_drew, KB'.out.cell]; simp, by rw [World.cell?_drew, KB'.out.cell]; simp, by rw [World.cell?_drew, KB'.out.cell]; simp, by rw [World.cell?_drew, KB'.out.cell]; simp⟩ | exact keep8 (by assumption) hb7 (Nat.le_refl _))
        (first
          | (go_at_call 25; (with_reducible refine (HTA.out _).mono ?_); rintro e w7 ⟨rfl, hb7⟩)
          | (go_at_call 25; (with_reducible refine (HTB.out _).mono ?_); rintro e w7 ⟨rfl, hb7⟩)
          | (go_at_call 32; (with_reducible refine (HSA.out _ (below8 (by assumption))).mono ?_); rintro e w7 ⟨rfl, hb7⟩)
          | (go_at_call 32; (with_reducible refine (HSB.out _ (below8 (by assumption))).mono ?_); rintro e w7 ⟨rfl, hb7⟩)
          | (go_at_call 30; (with_reducible refine (HAR.out _ (below8 (by assumption))).mono ?_); rintro e w7 ⟨rfl, hb7⟩))
      have B7 : Hid (Below w.heap.size w w7) := Lib.hid (below8 (by assumption))
      clear KA' KB' HTA HTB HSA HSB HAR B1
      obtain ⟨N, hN⟩ : ∃ N, N = 65535 + x % 3 := ⟨_, rfl⟩
      have hNe : (65535 : Int) + (x : Int) % 3 = (N : Int) := by omega
      have hNb : N ≤ 65537 := by omega
      clear hN
      go_wp2_with (refine makeRow rfl (.tmp 44) (.tmp 44) 22 5 rfl Try.underlying22 (.int .u8 0) 1 u8info rfl w7.heap.size _ _ rfl rfl N N rfl rfl (Nat.le_refl _) (by omega) (by simp only [maxLen]; omega) (Nat.le_refl _) ?_; intro w8 ho8 hg8 hz8)
      rw [bytesV_zeros] at ho8
      have R8 := Rb.of_own ho8
      have hll : (List.replicate N (0 : UInt8)).length = N := by simp
      generalize List.replicate N (0 : UInt8) = z at *
      obtain ⟨b9, kk9⟩ := box4 (w := w8) 41 (.int .i64 3) (.int .i64 1) (.int .i64 0) (.slice (some ⟨w7.heap.size, 0, none⟩) N N)
      have B9 := Lib.hid (Below.then_below (Below.then_grown B7.out (Nat.le_refl _) hg8 (by simp)) b9)
      have R9 := Lib.hid (R8.below b9)
      obtain ⟨q0, q1, q2, q3, q4, q5, q6⟩ := cells4 kk9
      clear ho8 hg8 R8 b9 kk9 B7
      by_cases hs : N ≤ 65536
      · have HP := Lib.hid (fun W hw => put_ok W 3 1 0 (some ⟨w7.heap.size, 0, none⟩) N N z hw (chk_yes (by omega) (by omega) (by omega) (by omega) (by omega) (by omega) (by omega) hs))
        unfold frV at HP
        generalize w7.heap.size = g at *
        go_wp2_with fail
        refine (HP.out _ R9.out).mono ?_
        rintro e w2 ⟨v2, rfl, ho2, hb2⟩
        have B2 := Lib.hid (Below.then_below B9.out hb2)
        clear hb2 ho2 R9 q0 q1 q2 q3 q4 q5 q6
        go_wp2_with fail
        refine (awake _).mono ?_
        rintro e w6 ⟨rfl, hb6⟩
        go_wp2
        go_ret
        exact ⟨rfl, Below.then_below B2.out hb6⟩
      · have HP := Lib.hid (fun W => put_no W 3 1 0 (some ⟨w7.heap.size, 0, none⟩) N N (by rw [chk_size (by omega) (by omega) (by omega) (by omega) (by omega) (by omega) (by omega) (by omega)]; decide))
        rw [chk_size (by omega) (by omega) (by omega) (by omega) (by omega) (by omega) (by omega) (by omega)] at HP
        unfold frV at HP
        generalize w7.heap.size = g at *
        go_wp2_with fail
        refine (HP.out _).mono ?_
        rintro e w2 ⟨rfl, hb2⟩
        have B2 := Lib.hid (Below.then_below B9.out hb2)
        clear hb2 R9 q0 q1 q2 q3 q4 q5 q6
        go_wp2_with fail
        refine (awake _).mono ?_
        rintro e w6 ⟨rfl, hb6⟩
        go_wp2
        go_ret
        exact ⟨ret_bool (a := !decide ((N : Int) ≤ 65536)) (by simp; omega), Below.then_below B2.out hb6⟩
end Go.Proofs.Ytjbiemeaelnhaaa.Frm
