import Derived.Test.YtcjonnfhnddapaaLetLaw
/- LetterPieces. -/
namespace Go.Proofs.Ytcjonnfhnddapaa.Let
open Go.RowKit LetP

def okR (c : Pc) : Bool := (c.rune != 65533) || (c.len == 3)
theorem okR_eq (s : ByteArray) (k : Nat) (h : k < (pcs s 0).length) : okR (nth (pcs s 0) k) = okPc (nth (pcs s 0) k) := by
  rw [nth_pcs s k h]
  have := wrong_len s (st s k)
  unfold okR okPc
  simp only []
  by_cases hr : rune s (st s k) = 65533
  · rcases this hr with h1 | h1 <;> simp [hr, h1]
  · have h2 : (rune s (st s k) != 65533) = true := by simpa using hr
    have h3 : (rune s (st s k) == 65533) = false := by simpa using hr
    simp [h2, h3]
theorem right_step (s : ByteArray) (k : Nat) (h : k < (pcs s 0).length) : rightL ((pcs s 0).take (k + 1)) = (rightL ((pcs s 0).take k) && okR (nth (pcs s 0) k)) := by
  rw [take_nth _ k h, okR_eq s k h]; simp [rightL]

set_option maxRecDepth 100000 in
set_option maxHeartbeats 1600000 in
theorem pieces (w : World) (s : ByteArray) (p : Int) (hm0 : -9223372036854775808 ≤ p) (hm1 : p ≤ 9223372036854775807) (hmx : s.size ≤ 9223372036854775807) :
    Calls Try.prog 3 #[.string s, .int .i64 p] w fun e w' => e = .returned (.bool true) ∧ Below w.heap.size w w' := by
  by_cases hbig : 400 < s.size
  · go_enter Try.func3, Try.ntmps3
    go_wp2_with (go_at_call 14; refine (awake _).mono ?_; rintro e w1 ⟨rfl, hb1⟩)
    go_ret
    exact ⟨rfl, hb1⟩
  have hs : s.size ≤ 1000000 := by omega
  have hpl := pcs_len s 0
  have HRS := Lib.hid (right_step s)
  have HC := Lib.hid (fun W => letCount W s hs)
  have HR := Lib.hid (fun W => letRight W s hs)
  have HL := Lib.hid (fun W => letPieces W s hs)
  have HP := Lib.hid (fun W => refPieces W s hs)
  generalize hl : pcs s 0 = l at *
  have HTK := Lib.hid (List.take_of_length_le (l := l) (Nat.le_refl _))
  generalize hN : l.length = N at *
  have HN := Lib.hid hN
  clear hN hl
  have hne : ((N : Int) != (N : Int)) = false := by simp
  go_enter Try.func3, Try.ntmps3
  go_wp2_with fail
  refine (HL.out _).mono ?_
  rintro e w1 ⟨v, rfl, ho, hb⟩
  obtain ⟨A, c, rfl, hc⟩ := own_slice ho
  have O := Lib.hid ho
  have B := Lib.hid hb
  clear ho hb
  go_wp2_with fail
  refine (HP.out _).mono ?_
  rintro e w2 ⟨v2, rfl, ho2, hb2⟩
  obtain ⟨A2, c2, rfl, hc2⟩ := own_slice ho2
  have O := Lib.hid (own_below O.out hb2)
  have B := Lib.hid (Below.then_below B.out hb2)
  have O2 := Lib.hid ho2
  clear ho2 hb2
  go_wp2_with fail
  refine (HC.out _).mono ?_
  rintro e w3 ⟨rfl, hb3⟩
  have O := Lib.hid (own_below O.out hb3)
  have B := Lib.hid (Below.then_below B.out hb3)
  have O2 := Lib.hid (own_below O2.out hb3)
  clear hb3
  go_wp2
  go_loopw [7, 8] (fun r i wr => ∃ k : Nat, k ≤ N ∧ i = .int .i64 k ∧ r = .bool (rightL (l.take k)) ∧ Below w3.heap.size w3 wr) (fun _ i _ => N - (intOf i).toNat)
  case atStart => exact ⟨0, Nat.zero_le _, rfl, rfl, Below.refl _ _⟩
  case round =>
    obtain ⟨k, hk, rfl, rfl, hbw⟩ := hrel
    have O := Lib.hid (own_below O.out hbw)
    have O2 := Lib.hid (own_below O2.out hbw)
    have BW := Lib.hid hbw
    have B := Lib.hid (Below.then_below B.out hbw)
    clear hbw
    by_cases hlt : k < N
    · obtain ⟨g, rfl⟩ := own_some O.out (by omega)
      obtain ⟨g2, rfl⟩ := own_some O2.out (by omega)
      obtain ⟨c1, c2, c3⟩ := pc_cells O.out hlt
      obtain ⟨d1, d2, d3⟩ := pc_cells O2.out hlt
      have HS := Lib.hid (HRS.out k hlt)
      have HOK := Lib.hid (show okR (nth l k) = (((nth l k).rune != 65533) || ((nth l k).len == 3)) from rfl)
      generalize nth l k = pc at *
      obtain ⟨a, n, r⟩ := pc
      simp only [] at c1 c2 c3 d1 d2 d3 HOK
      have hi : (k : Int) < (N : Int) := by omega
      have h0 : (0 : Int) ≤ (k : Int) := by omega
      go_wp2_with fail
      go_quiet (fail)
      generalize hrk : rightL (l.take k) = b at *
      clear hrk
      cases b
      all_goals
        by_cases h1 : r = 65533
        all_goals
          by_cases h2 : n = 3
          all_goals
            first
              | (have e1 : ((r : Int) != 65533) = true := by simp; omega)
              | (have e1 : ((r : Int) != 65533) = false := by simp; omega)
            first
              | (have e2 : ((n : Int) == 3) = true := by simp; omega)
              | (have e2 : ((n : Int) == 3) = false := by simp; omega)
            go_wp2
            go_roundw
            case rel => exact ⟨k + 1, by omega, by go_num, by rw [HS.out, HOK.out]; simp [h1, h2], below_drewN BW.out _⟩
            case measure => simp [intOf]; omega
    · obtain rfl : k = N := by omega
      rw [HTK.out]
      by_cases hin : 0 ≤ p ∧ p < s.size
      · obtain ⟨h0, h1⟩ := hin
        obtain ⟨x, rfl⟩ := Int.eq_ofNat_of_zero_le h0
        have hx : x < s.size := by omega
        have HX := Lib.hid (fun W => refNext W s x (by omega) hx)
        have HL2 := Lib.hid (fun W => letNext W s x hs (by omega) (by omega))
        simp only [pcA] at HX
        have hn : nextP s (x : Int) = ((x : Int), (wid s x : Int), (rune s x : Int)) := by rw [nextP, if_pos ⟨h0, h1⟩]; simp
        rw [hn] at HL2
        clear hn
        generalize wid s x = wd at *
        generalize rune s x = rn at *
        go_wp2_with fail
        refine (HX.out _).mono ?_
        rintro e w5 ⟨rfl, hb5⟩
        have k5 := (Bk.new wr 29 #[.int .i64 0, .int .i64 0, .int .i64 0]).below hb5 (by simp)
        have B5 := Lib.hid (Below.then_below ((Below.refl _ _).alloc (Nat.le_refl _) _) hb5)
        have hz5 : wr.heap.size < w5.heap.size := k5.lt
        have c0 := k5.cell 0
        have c1 := k5.cell 1
        have c2 := k5.cell 2
        have f0 := k5.free 0
        have f1 := k5.free 1
        have f2 := k5.free 2
        simp at c0 c1 c2
        have K5 := Lib.hid k5
        clear k5 hb5
        have K6 := Lib.hid ((((K5.out.set 0 (.int .i64 x)).set 1 (.int .i64 wd)).set 2 (.int .i64 rn)).alloc (.cells #[.int .i64 x, .int .i64 wd, .int .i64 rn] 30))
        have hwr : w.heap.size ≤ wr.heap.size := B.out.size
        have B6 := Lib.hid ((((Below.then_below B.out B5.out).setCell (p := ⟨wr.heap.size, 0, none⟩) hwr (.int .i64 x)).setCell (p := ⟨wr.heap.size, 1, none⟩) hwr (.int .i64 wd)).setCell (p := ⟨wr.heap.size, 2, none⟩) hwr (.int .i64 rn))
        have B7 := Lib.hid (B6.out.alloc B6.out.size (.cells #[.int .i64 x, .int .i64 wd, .int .i64 rn] 30))
        clear B6
        go_wp2
        clear c0 c1 c2 f0 f1 f2
        go_region_held3 (fun w' => Below w.heap.size w w' ∧ w'.cell? ⟨wr.heap.size, 0, none⟩ = some (.int .i64 x) ∧ w'.cell? ⟨wr.heap.size, 0 + 1, none⟩ = some (.int .i64 wd) ∧ w'.cell? ⟨wr.heap.size, 0 + 2, none⟩ = some (.int .i64 rn))
          (first | exact ⟨B7.out.drew, by rw [World.cell?_drew, K6.out.cell]; simp, by rw [World.cell?_drew, K6.out.cell]; simp, by rw [World.cell?_drew, K6.out.cell]; simp⟩ | exact keepS3 (by assumption) hb7 (Nat.le_refl _))
          (first
            | (go_at_call 19; (with_reducible refine (HR.out _).mono ?_); rintro e w7 ⟨rfl, hb7⟩)
            | (go_at_call 20; (with_reducible refine (HL2.out _).mono ?_); rintro e w7 ⟨rfl, hb7⟩)
            | (go_at_call 14; (with_reducible refine (awake _).mono ?_); rintro e w7 ⟨rfl, hb7⟩))
        go_wp2
        go_ret
        exact ⟨rfl, belowOf (by assumption)⟩
      · have hn : nextP s p = (0, 0, 0) := by rw [nextP, if_neg hin]
        have HL2 := Lib.hid (fun W => letNext W s p hs hm0 hm1)
        rw [hn] at HL2
        simp only [] at HL2
        clear hn
        have K6 := Lib.hid (Bk.new wr 29 #[.int .i64 0, .int .i64 0, .int .i64 0])
        have B7 := Lib.hid (B.out.alloc B.out.size (.cells #[.int .i64 0, .int .i64 0, .int .i64 0] 29))
        have hpp : p < 0 ∨ (0 ≤ p ∧ (s.size : Int) ≤ p) := by omega
        rcases hpp with hp0 | ⟨hp0, hp1⟩
        all_goals
          go_wp2
          go_region_held3 (fun w' => Below w.heap.size w w' ∧ w'.cell? ⟨wr.heap.size, 0, none⟩ = some (.int .i64 0) ∧ w'.cell? ⟨wr.heap.size, 0 + 1, none⟩ = some (.int .i64 0) ∧ w'.cell? ⟨wr.heap.size, 0 + 2, none⟩ = some (.int .i64 0))
            (first | exact ⟨B7.out.drew, by rw [World.cell?_drew, K6.out.cell]; simp, by rw [World.cell?_drew, K6.out.cell]; simp, by rw [World.cell?_drew, K6.out.cell]; simp⟩ | exact keepS3 (by assumption) hb7 (Nat.le_refl _))
            (first
              | (go_at_call 19; (with_reducible refine (HR.out _).mono ?_); rintro e w7 ⟨rfl, hb7⟩)
              | (go_at_call 20; (with_reducible refine (HL2.out _).mono ?_); rintro e w7 ⟨rfl, hb7⟩)
              | (go_at_call 14; (with_reducible refine (awake _).mono ?_); rintro e w7 ⟨rfl, hb7⟩))
          go_wp2
          go_ret
          exact ⟨rfl, belowOf (by assumption)⟩
end Go.Proofs.Ytcjonnfhnddapaa.Let
