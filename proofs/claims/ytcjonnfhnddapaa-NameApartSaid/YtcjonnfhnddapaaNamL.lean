import Derived.Test.YtcjonnfhnddapaaNamK
/- NameCleans, NameApart. -/
namespace Go.Proofs.Ytcjonnfhnddapaa.Nam
open Go.RowKit NumP Num NamP

theorem clean_len (l : List UInt8) : (clean l).length ≤ 255 := by rw [clean_eq]; exact fit_most _ _
theorem nb' (b : Bool) : (b != b) = false := by cases b <;> rfl
theorem mk_same {a b : List UInt8} : ((mk a).toList == (mk b).toList) = decide (a = b) := by
  rw [mk_list, mk_list, Bool.eq_iff_iff]
  simp
set_option maxHeartbeats 2000000 in
theorem cleans (w : World) (l : List UInt8) (hl : l.length ≤ 9223372036854775807) :
    Calls Try.prog 12 #[.string (mk l)] w fun e w' => e = .returned (.bool true) ∧ Below w.heap.size w w' := by
  have hsz := mk_size l
  by_cases hb : 600 < l.length
  · rw [← hsz] at hb
    generalize mk l = s at *
    have hq : (600 : Int) < (s.size : Int) := by omega
    go_enter Try.func12, Try.ntmps12
    go_wp2_with fail
    refine (awake _).mono ?_
    rintro e w1 ⟨rfl, b1⟩
    go_wp2
    go_ret
    exact ⟨rfl, b1⟩
  · have hcl := clean_len l
    have H1 := Lib.hid (fun W => cleanW W l (by omega))
    have H2 := Lib.hid (fun W => refClean W l (by omega))
    have H3 := Lib.hid (fun W => refCheck W (clean l) (by omega))
    have H4 := Lib.hid (fun W => refCheck W l hl)
    have H5 := Lib.hid (fun W => cleanW W (clean l) (by omega))
    rw [clean_chk] at H3
    rw [clean_clean] at H5
    have hsame : ((mk (clean l)).toList == (mk l).toList) = decide (clean l = l) := mk_same
    have hcn : chk l = 0 → decide (clean l = l) = true := fun h => by rw [clean_name l h]; simp
    generalize decide (clean l = l) = eq at *
    generalize chk l = x at *
    generalize mk (clean l) = c at *
    rw [← hsz] at hb
    clear hsz hcl
    generalize mk l = s at *
    have hq : ¬ (600 : Int) < (s.size : Int) := by omega
    have HCN := Lib.hid hcn
    clear hcn
    go_enter Try.func12, Try.ntmps12
    go_wp2_with fail
    refine (H1.out _).mono ?_
    rintro e w1 ⟨rfl, b1⟩
    go_wp2_with fail
    refine (H2.out _).mono ?_
    rintro e w2 ⟨rfl, b2⟩
    go_wp2_with fail
    refine (H3.out _).mono ?_
    rintro e w3 ⟨rfl, rfl⟩
    go_wp2_with fail
    refine (H4.out _).mono ?_
    rintro e w3 ⟨rfl, rfl⟩
    have B2 := Lib.hid (Below.then_below b1 b2)
    clear b1 b2
    by_cases hx : x = 0
    · have he := HCN.out hx
      subst hx he
      go_wp2_with fail
      refine (H5.out _).mono ?_
      rintro e w4 ⟨rfl, b4⟩
      have B4 := Lib.hid (Below.then_below B2.out b4)
      clear b4 B2
      go_wp2_with fail
      refine (awake _).mono ?_
      rintro e w7 ⟨rfl, b7⟩
      go_wp2
      go_ret
      exact ⟨rfl, Below.then_below B4.out b7⟩
    · have hxn : ((x : Int) != 0) = true := by simp; omega
      go_wp2_with fail
      refine (H5.out _).mono ?_
      rintro e w4 ⟨rfl, b4⟩
      have B4 := Lib.hid (Below.then_below B2.out b4)
      clear b4 B2
      go_wp2_with fail
      refine (awake _).mono ?_
      rintro e w7 ⟨rfl, b7⟩
      go_wp2
      go_ret
      exact ⟨rfl, Below.then_below B4.out b7⟩
set_option maxHeartbeats 2000000 in
theorem apart (w : World) (l : List UInt8) (hl : l.length ≤ 9223372036854775807) (k n : Int) (h0 : -9223372036854775808 ≤ k) (h1 : k ≤ 9223372036854775807) (h2 : -9223372036854775808 ≤ n) (h3 : n ≤ 9223372036854775807) :
    Calls Try.prog 13 #[.string (mk l), .int .i64 k, .int .i64 n] w fun e w' => e = .returned (.bool true) ∧ Below w.heap.size w w' := by
  have hsz := mk_size l
  have H1 := Lib.hid (fun W => refCheck W l hl)
  by_cases hc : chk l = 0
  · rw [hc] at H1
    obtain ⟨hn, hlen⟩ := of_chk hc
    by_cases hk : k < 2
    · clear hn hsz
      generalize mk l = s at *
      go_enter Try.func13, Try.ntmps13
      go_wp2_with fail
      refine (H1.out _).mono ?_
      rintro e w3 ⟨rfl, rfl⟩
      go_wp2_with fail
      refine (awake _).mono ?_
      rintro e w1 ⟨rfl, b1⟩
      go_wp2
      go_ret
      exact ⟨rfl, b1⟩
    by_cases hk2 : n < 2
    · clear hn hsz
      generalize mk l = s at *
      go_enter Try.func13, Try.ntmps13
      go_wp2_with fail
      refine (H1.out _).mono ?_
      rintro e w3 ⟨rfl, rfl⟩
      go_wp2_with fail
      refine (awake _).mono ?_
      rintro e w1 ⟨rfl, b1⟩
      go_wp2
      go_ret
      exact ⟨rfl, b1⟩
    have hpos : 0 < l.length := List.length_pos_iff.2 (fun e => hn (.inl e))
    have hml := sfx_most l k
    have H2 := Lib.hid (fun W => suffixed W l (by omega) k h0 h1)
    have H3 := Lib.hid (fun W => suffixed W l (by omega) n h2 h3)
    have H4 := Lib.hid (fun W => refCheck W (sfx l k) (by omega))
    rw [chk_sfx l k hc] at H4
    have H5 := Lib.hid (fun W => base W (sfx l k) (by omega))
    have hsame : ((mk (sfx l k)).toList == (mk (sfx l n)).toList) = (k == n) := by
      rw [mk_same, Bool.eq_iff_iff]
      simp only [decide_eq_true_eq, beq_iff_eq]
      exact sfx_inj l k n hpos (by omega) (by omega) h1 h3
    have HSB := Lib.hid (fun a b => sfx_base l k hpos (by omega) a b)
    have hxx := nb' (k == n)
    have hmz := mk_size l
    clear hn hc hml hl
    generalize hbt : baseT (sfx l k) = bT at *
    generalize hbn : baseN (sfx l k) = bN at *
    generalize mk (sfx l k) = a at *
    generalize mk (sfx l n) = c at *
    by_cases hsm : l.length ≤ 200 ∧ k ≤ 1000000000
    · obtain ⟨e1, e2⟩ := HSB.out hsm.2 hsm.1
      rw [e1] at H5
      have z1 : ¬ (200 : Int) < (mk l).size := by rw [hsz]; omega
      have z2 : k ≤ 1000000000 := hsm.2
      clear HSB hbt hbn e1 hsz hmz hlen hpos hsm
      generalize mk l = s at *
      have e2' : ((bN : Int) == k) = true := by rw [e2]; simp
      clear e2
      go_enter Try.func13, Try.ntmps13
      go_wp2_with fail
      refine (H1.out _).mono ?_
      rintro e w1 ⟨rfl, rfl⟩
      go_wp2_with fail
      refine (H2.out _).mono ?_
      rintro e w2 ⟨rfl, b2⟩
      go_wp2_with fail
      refine (H4.out _).mono ?_
      rintro e w3 ⟨rfl, rfl⟩
      go_wp2_with fail
      refine (H3.out _).mono ?_
      rintro e w4 ⟨rfl, b4⟩
      have B4 := Lib.hid (Below.then_below b2 b4)
      clear b2 b4
      go_wp2_with fail
      refine (H5.out _).mono ?_
      rintro e w5 ⟨rfl, b5⟩
      have B5 := Lib.hid (Below.then_below B4.out b5)
      clear b5 B4
      go_wp2_with fail
      refine (awake _).mono ?_
      rintro e w7 ⟨rfl, b7⟩
      go_wp2
      go_ret
      exact ⟨rfl, Below.then_below B5.out b7⟩
    · have zz : (200 < (mk l).size) ∨ (¬ 200 < (mk l).size ∧ 1000000000 < k) := by rw [hsz]; omega
      clear HSB hbt hbn H5 hsz hmz hlen hpos hsm
      generalize mk l = s at *
      rcases zz with zz | ⟨zz, zk⟩
      all_goals
        first
          | have z1 : (200 : Int) < (s.size : Int) := by omega
          | have z1 : ¬ (200 : Int) < (s.size : Int) := by omega
        go_enter Try.func13, Try.ntmps13
        go_wp2_with fail
        refine (H1.out _).mono ?_
        rintro e w1 ⟨rfl, rfl⟩
        go_wp2_with fail
        refine (H2.out _).mono ?_
        rintro e w2 ⟨rfl, b2⟩
        go_wp2_with fail
        refine (H4.out _).mono ?_
        rintro e w3 ⟨rfl, rfl⟩
        go_wp2_with fail
        refine (H3.out _).mono ?_
        rintro e w4 ⟨rfl, b4⟩
        have B4 := Lib.hid (Below.then_below b2 b4)
        clear b2 b4
        go_wp2_with fail
        refine (awake _).mono ?_
        rintro e w7 ⟨rfl, b7⟩
        go_wp2
        go_ret
        exact ⟨rfl, Below.then_below B4.out b7⟩
  · have hxn : ((chk l : Int) != 0) = true := by simp; omega
    generalize chk l = x at *
    clear hsz
    generalize mk l = s at *
    go_enter Try.func13, Try.ntmps13
    go_wp2_with fail
    refine (H1.out _).mono ?_
    rintro e w3 ⟨rfl, rfl⟩
    go_wp2_with fail
    refine (awake _).mono ?_
    rintro e w1 ⟨rfl, b1⟩
    go_wp2
    go_ret
    exact ⟨rfl, b1⟩
end Go.Proofs.Ytcjonnfhnddapaa.Nam
