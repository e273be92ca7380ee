import Derived.Test.YtcjonnfhnddapaaLetLaw
import Derived.Lib.MinMax
/- LetterTiles. -/
namespace Go.Proofs.Ytcjonnfhnddapaa.Let
open Go.RowKit LetP

set_option maxRecDepth 100000 in
set_option maxHeartbeats 1600000 in
theorem tiles (w : World) (s : ByteArray) (most : Int) (hm0 : -9223372036854775808 ≤ most) (hm1 : most ≤ 9223372036854775807) (hmx : s.size ≤ 9223372036854775807) :
    Calls Try.prog 5 #[.string s, .int .i64 most] w fun e w' => e = .returned (.bool true) ∧ Below w.heap.size w w' := by
  by_cases hbig : 400 < s.size
  · go_enter Try.func5, Try.ntmps5
    go_wp2_with (go_at_call 14; refine (awake _).mono ?_; rintro e w1 ⟨rfl, hb1⟩)
    go_ret
    exact ⟨rfl, hb1⟩
  have hs : s.size ≤ 1000000 := by omega
  have hpl := pcs_len s 0
  have HFIT := Lib.hid (fun W => letFit W s most hs hm0 hm1)
  have HTAIL := Lib.hid (fun W => letTail W s most hs hm0 hm1)
  have HLT := Lib.hid (st_lt s)
  have HNX := Lib.hid (st_next s)
  have HNP := Lib.hid (nth_pcs s)
  have HEND := Lib.hid (st_end s)
  have HFE := Lib.hid (show fitE s most = fitF s most.toNat 0 from rfl)
  have HTE := Lib.hid (show tailE s most = tailF s most.toNat 0 from rfl)
  generalize hF : fitE s most = F0 at *
  generalize hT : tailE s most = C0 at *
  clear hF hT
  obtain ⟨M, hM⟩ : ∃ M : Nat, M = min most.toNat s.size := ⟨_, rfl⟩
  have HM := Lib.hid (show ∀ x : Nat, x ≤ s.size → (x ≤ M ↔ x ≤ most.toNat) from fun x hx => by omega)
  have hMM : min (max most 0) (s.size : Int) = (M : Int) := by omega
  have hMs : (M : Int) ≤ s.size := by omega
  clear hM
  go_enter Try.func5, Try.ntmps5
  go_wp2_with fail
  refine (letPieces w s hs).mono ?_
  rintro e w1 ⟨v, rfl, ho, hb⟩
  obtain ⟨A, c, rfl, hc⟩ := own_slice ho
  have O := Lib.hid ho
  have B := Lib.hid hb
  clear ho hb
  generalize hN : (pcs s 0).length = N at *
  have HN := Lib.hid hN
  clear hN
  go_wp2
  clear hMM
  go_loop [6, 8, 9, 10] (fun at_ f c i => ∃ k F C : Nat, k ≤ N ∧ at_ = .int .i64 (st s k) ∧ f = .int .i64 F ∧ c = .int .i64 C ∧ i = .int .i64 k ∧ C ≤ s.size ∧ F ≤ s.size ∧
    Hid ((st s k ≤ most.toNat ∧ F = st s k ∧ F0 = fitF s most.toNat (st s k)) ∨ (most.toNat < st s k ∧ F = F0)) ∧ Hid ((C = s.size ∧ C0 = tailF s most.toNat (st s k)) ∨ (C < s.size ∧ C = C0))) (fun _ _ _ i => N - (intOf i).toNat)
  case atStart => exact ⟨0, 0, s.size, Nat.zero_le _, rfl, rfl, rfl, rfl, Nat.le_refl _, Nat.zero_le _, Lib.hid (.inl ⟨Nat.zero_le _, rfl, HFE.out⟩), Lib.hid (.inl ⟨rfl, HTE.out⟩)⟩
  case round =>
    obtain ⟨k, F, C, hk, rfl, rfl, rfl, rfl, hC, hF, HF, HC⟩ := hrel
    have hle := st_le s k
    by_cases hlt : k < N
    · obtain ⟨g, rfl⟩ := own_some O.out (by omega)
      obtain ⟨c1, c2, c3⟩ := pc_cells O.out hlt
      rw [HNP.out k hlt] at c1 c2
      simp only [] at c1 c2
      have hw1 := wid_pos s (st s k)
      have hw4 := wid_le s (st s k)
      have HX := Lib.hid (HNX.out k hlt)
      have hlt2 := (HLT.out k).1 hlt
      have hfi := wid_fits s (st s k) hlt2
      have hne : ((st s k : Int) != (st s k : Int)) = false := by simp
      have HFS := Lib.hid (fitF_step s most.toNat (st s k) hlt2)
      have HFX := Lib.hid (fitF_stop s most.toNat (st s k))
      have HTS := Lib.hid (tailF_step s most.toNat (st s k) hlt2)
      have HTX := Lib.hid (tailF_stop s most.toNat (st s k))
      clear c3
      generalize hst : st s k = p at *
      have HST := Lib.hid hst
      clear hst
      generalize wid s p = wd at *
      have HNEW := Lib.hid (show ∀ F' : Nat, F' = (if p + wd ≤ most.toNat then p + wd else F) → (st s (k + 1) ≤ most.toNat ∧ F' = st s (k + 1) ∧ F0 = fitF s most.toNat (st s (k + 1))) ∨ (most.toNat < st s (k + 1) ∧ F' = F0) from by
        intro F' hF'
        rw [HX.out]
        rcases HF.out with ⟨h1, h2, h3⟩ | ⟨h1, h2⟩
        · by_cases h4 : p + wd ≤ most.toNat
          · rw [if_pos h4] at hF'
            exact .inl ⟨h4, hF', by rw [h3, HFS.out h4]⟩
          · rw [if_neg h4] at hF'
            exact .inr ⟨by omega, by rw [hF', h2, h3, HFX.out (by omega)]⟩
        · rw [if_neg (by omega)] at hF'
          exact .inr ⟨by omega, by rw [hF', h2]⟩)
      have HCNEW := Lib.hid (show ∀ C' : Nat, C' = (if s.size - p ≤ most.toNat ∧ C = s.size then p else C) → (C' = s.size ∧ C0 = tailF s most.toNat (st s (k + 1))) ∨ (C' < s.size ∧ C' = C0) from by
        intro C' hC'
        rw [HX.out]
        rcases HC.out with ⟨h1, h2⟩ | ⟨h1, h2⟩
        · by_cases h4 : s.size - p ≤ most.toNat
          · rw [if_pos ⟨h4, h1⟩] at hC'
            exact .inr ⟨by omega, by rw [hC', h2, HTX.out (by omega)]⟩
          · rw [if_neg (by omega)] at hC'
            exact .inl ⟨by omega, by rw [h2, HTS.out (by omega)]⟩
        · rw [if_neg (by omega)] at hC'
          exact .inr ⟨by omega, by omega⟩)
      have hfm := Lib.hid (HM.out (p + wd) (by omega))
      have hcm := Lib.hid (HM.out (s.size - p) (by omega))
      by_cases hfit : p + wd ≤ M
      all_goals
        by_cases hcut : s.size - p ≤ M
        all_goals
          by_cases hcs : C = s.size
          all_goals
            first
              | (have hcb : ((C : Int) == (s.size : Int)) = true := by simp; omega)
              | (have hcb : ((C : Int) == (s.size : Int)) = false := by simp; omega)
            go_wp2
            have hfm := hfm.out
            have hcm := hcm.out
            go_round
            case rel =>
              first
                | exact ⟨k + 1, (p + wd), p, by omega, by rw [HX.out]; go_num, by go_num, by go_num, by go_num, by omega, by omega, Lib.hid (HNEW.out (p + wd) (by split <;> omega)), Lib.hid (HCNEW.out p (by split <;> omega))⟩
                | exact ⟨k + 1, (p + wd), C, by omega, by rw [HX.out]; go_num, by go_num, by go_num, by go_num, by omega, by omega, Lib.hid (HNEW.out (p + wd) (by split <;> omega)), Lib.hid (HCNEW.out C (by split <;> omega))⟩
                | exact ⟨k + 1, F, p, by omega, by rw [HX.out]; go_num, by go_num, by go_num, by go_num, by omega, by omega, Lib.hid (HNEW.out F (by split <;> omega)), Lib.hid (HCNEW.out p (by split <;> omega))⟩
                | exact ⟨k + 1, F, C, by omega, by rw [HX.out]; go_num, by go_num, by go_num, by go_num, by omega, by omega, Lib.hid (HNEW.out F (by split <;> omega)), Lib.hid (HCNEW.out C (by split <;> omega))⟩
            case measure => simp [intOf]; omega
    · obtain rfl : k = N := by omega
      have hend := HEND.out
      have hF0 : F = F0 := by
        rcases HF.out with ⟨h1, h2, h3⟩ | ⟨h1, h2⟩
        · rw [h2, h3, fitF_stop s _ _ (by omega)]
        · exact h2
      have hC0 : C = C0 := by
        rcases HC.out with ⟨h1, h2⟩ | ⟨h1, h2⟩
        · rw [h2, tailF_stop s _ _ (by omega), hend]; exact h1
        · exact h2
      subst hF0 hC0
      have hi1 : (0 : Int) ≤ (F : Int) := by omega
      have hi2 : (F : Int) ≤ (s.size : Int) := by omega
      have hi3 : (0 : Int) ≤ (C : Int) := by omega
      have hi4 : (C : Int) ≤ (s.size : Int) := by omega
      have hee : ((s.size : Int) == (s.size : Int)) = true := by simp
      clear HF HC HFE HTE
      have HEND2 := Lib.hid hend
      clear hend
      have hBB := B.out
      rw [HEND2.out]
      go_wp2
      go_region_held3 (fun w' => Below w.heap.size w w')
        (first | exact B.out | assumption | exact Below.then_below ‹_› ‹_› | exact below_drewN B.out 1)
        (first
          | (go_at_call 21; (with_reducible refine (HFIT.out _).mono ?_); rintro e w2 ⟨rfl, hb2⟩)
          | (go_at_call 23; (with_reducible refine (HTAIL.out _).mono ?_); rintro e w2 ⟨rfl, hb2⟩)
          | (go_at_call 14; (with_reducible refine (awake _).mono ?_); rintro e w2 ⟨rfl, hb2⟩))
      go_wp2
      go_ret
      exact ⟨rfl, by assumption⟩
end Go.Proofs.Ytcjonnfhnddapaa.Let
