import Derived.Test.YtpdnedgoldjghaaWirG
/- The reference's Num, Flag, Text, Stamp; the law's writes. -/
namespace Go.Proofs.Ytpdnedgoldjghaa.Wir
open Go.RowKit WirP

theorem grow_below {w wr w2 : World} {t : TypeId} {z n : Nat} {v : Value} {xs : List Value} (B : Below w.heap.size w wr) (O : wr.ownsRow w.heap.size t z v n xs) (o : Obj) (hg : (wr.alloc o).grownBy w2 v.ownBlock) : Below w.heap.size w w2 :=
  Below.then_grown (B.alloc B.size o) (Nat.le_refl _) hg (fun j hj => (O.lt j hj).1)
theorem enc_bytes (r : Nat) (h : r < 128) : bytesV [UInt8.ofNat (r + 128)] = [Value.int .u8 ((r : Int) + 128)] := by simp [bytesV]; omega
theorem end_bytes (r : Nat) (h : r < 128) : bytesV [UInt8.ofNat r] = [Value.int .u8 (r : Int)] := by simp [bytesV]; omega
set_option maxHeartbeats 600000 in
theorem refNum (w : World) (n : Int) (h0 : -9223372036854775808 ≤ n) (h1 : n ≤ 9223372036854775807) :
    Calls Try.prog 60 #[.int .i64 n] w fun e w' => ∃ v, e = .returned v ∧ w'.ownsRow w.heap.size 5 1 v (encN n.toNat).length (bytesV (encN n.toNat)) ∧ Below w.heap.size w w' := by
  obtain ⟨m, hm⟩ : ∃ m : Nat, m = n.toNat := ⟨_, rfl⟩
  have hcase : n < 0 ∧ m = 0 ∨ (¬ n < 0 ∧ n = (m : Int)) := by omega
  have hmb : m ≤ 9223372036854775807 := by omega
  rw [← hm]
  clear hm
  obtain ⟨E, HEE⟩ : ∃ E, Hid (enF 9 m = E) := ⟨_, Lib.hid rfl⟩
  rw [show encN m = E from HEE.out]
  rcases hcase with ⟨hn, rfl⟩ | ⟨hn, rfl⟩
  all_goals
    go_enter Try.func60, Try.ntmps60
    go_wp2
    go_loopw [0, 3] (fun t v wr => ∃ (q f : Nat) (pre : List UInt8), t = .int .i64 q ∧ q < 128 ^ (f + 1) ∧ f ≤ 8 ∧ pre.length + f + 1 = 9 ∧ Hid (pre ++ enF (f + 1) q = E) ∧ wr.ownsRow w.heap.size 5 1 v pre.length (bytesV pre) ∧ Below w.heap.size w wr) (fun t _ _ => (intOf t).toNat)
    case atStart => exact ⟨_, 8, [], rfl, Nat.lt_of_le_of_lt (show _ ≤ 9223372036854775807 by omega) (by decide), by omega, rfl, Lib.hid HEE.out, World.ownsRow_nil _ _ _ _, Below.refl _ _⟩
    case round =>
      obtain ⟨q, f, pre, rfl, hq, hf, hpl, HE, ho, hb⟩ := hrel
      have O := Lib.hid ho
      have B := Lib.hid hb
      have hbs := hb.size
      clear ho hb
      by_cases hbig : 127 < q
      · have hqb : (128 : Int) ≤ (q : Int) := by omega
        have hr128 : q % 128 < 128 := Nat.mod_lt _ (by omega)
        have hm1 : (q : Int) % 128 = ((q % 128 : Nat) : Int) := by omega
        have hm2 : (q : Int).tmod 128 = ((q % 128 : Nat) : Int) := rfl
        have hsh : (q : Int) / 128 = ((q / 128 : Nat) : Int) := by omega
        have hf0 : 0 < f := by
          rcases Nat.eq_zero_or_pos f with e | e
          · subst e; simp at hq; omega
          · exact e
        have HN : Hid (enF (f + 1) q = UInt8.ofNat (q % 128 + 128) :: enF f (q / 128)) := Lib.hid (by rw [enF, if_neg (by omega)])
        have hq2 : q / 128 < 128 ^ f := by rw [Nat.pow_succ] at hq; omega
        have hdec : q / 128 < q := by omega
        have hq63 : q < 2 ^ 63 := Nat.lt_of_lt_of_le hq (Nat.le_trans (Nat.pow_le_pow_right (by omega) (show f + 1 ≤ 9 by omega)) (by decide))
        have HW64 : Hid (wrap64 ((q / 128 : Nat) : Int) = ((q / 128 : Nat) : Int)) := Lib.hid (by unfold wrap64; omega)
        clear hq63
        have HB := Lib.hid (enc_bytes (q % 128) hr128)
        generalize q % 128 = r at *
        generalize q / 128 = d at *
        go_wp2_with (refine appendBytes rfl (.tmp 8) (.tmp 13) 52 rfl 5 Try.underlying52 u8info w.heap.size u3 pre.length pre rfl (O.out.alloc _) _ 1 1 [UInt8.ofNat (r + 128)] rfl (Rb.new _ _ _ [UInt8.ofNat (r + 128)] (by simp) (by rw [HB.out]) 1 rfl) (by omega) (by simp; omega) ?_; intro v2 w2 ho2 hg2 hat2)
        go_roundw
        case rel =>
          have hf1 : f - 1 + 1 = f := by omega
          exact ⟨d, f - 1, pre ++ [UInt8.ofNat (r + 128)], by rw [HW64.out], by rw [hf1]; exact hq2, by omega, by simp; omega, Lib.hid (by rw [hf1, ← HE.out, HN.out]; simp), by rw [List.length_append]; exact ho2, grow_below B.out O.out _ hg2⟩
        case measure => rw [HW64.out]; simp [intOf]; omega
      · have hqb : ¬ (128 : Int) ≤ (q : Int) := by omega
        have HN : Hid (enF (f + 1) q = [UInt8.ofNat q]) := Lib.hid (by rw [enF, if_pos (by omega)])
        have hqs : q < 128 := by omega
        have HB := Lib.hid (end_bytes q hqs)
        go_wp2_with (refine appendBytes rfl (.tmp 17) (.tmp 20) 52 rfl 5 Try.underlying52 u8info w.heap.size u3 pre.length pre rfl (O.out.alloc _) _ 1 1 [UInt8.ofNat q] rfl (Rb.new _ _ _ [UInt8.ofNat q] (by simp) (by rw [HB.out]) 1 rfl) (by omega) (by simp; omega) ?_; intro v2 w2 ho2 hg2 hat2)
        go_ret
        refine ⟨v2, rfl, ?_, grow_below B.out O.out _ hg2⟩
        rw [← HE.out, HN.out, List.length_append]
        exact ho2
theorem refFlag (w : World) (t : Bool) : Calls Try.prog 62 #[.bool t] w fun e w' => ∃ A n c, e = .returned (.slice A n c) ∧ Rb w' A n (encN (if t = true then 1 else 0)) ∧ n ≤ c ∧ Below w.heap.size w w' := by
  cases t with
  | true =>
    go_enter Try.func62, Try.ntmps62
    go_wp2
    go_ret
    exact ⟨_, _, _, rfl, Rb.new _ _ _ [1] (by simp) (by simp [bytesV]) 1 rfl, Nat.le_refl _, (Below.refl _ _).alloc (Nat.le_refl _) _⟩
  | false =>
    go_enter Try.func62, Try.ntmps62
    go_wp2
    go_ret
    exact ⟨_, _, _, rfl, Rb.new _ _ _ [0] (by simp) (by simp [bytesV]) 1 rfl, Nat.le_refl _, (Below.refl _ _).alloc (Nat.le_refl _) _⟩
theorem at_tx (l : List UInt8) (k : Nat) (h : k < (tx l).size) : ((tx l)[k]'h).toNat = bt l k := by
  have h2 : k < l.length := h
  rw [bt_get l k h2]
  rfl
set_option maxHeartbeats 2000000 in
theorem refText (w : World) (l : List UInt8) (hl : l.length ≤ 1000000) : Calls Try.prog 63 #[.string (tx l)] w fun e w' => ∃ A n c, e = .returned (.slice A n c) ∧ Rb w' A n (encN l.length ++ l) ∧ n ≤ c ∧ Below w.heap.size w w' := by
  have hsz : (tx l).size = l.length := rfl
  have hat := at_tx l
  obtain ⟨s, HSS⟩ : ∃ s, Hid (tx l = s) := ⟨_, Lib.hid rfl⟩
  rw [HSS.out] at hsz hat ⊢
  rw [← hsz] at hl
  have HN := Lib.hid (refNum w (s.size : Int) (by omega) (by omega))
  have he : (s.size : Int).toNat = l.length := by rw [Int.toNat_natCast, hsz]
  rw [he] at HN
  clear he
  have HSZ := Lib.hid hsz
  have HAT := Lib.hid hat
  have hel := encN_len l.length
  clear hat hsz
  go_enter Try.func63, Try.ntmps63
  go_wp2_with fail
  refine HN.out.mono ?_
  rintro e w1 ⟨v1, rfl, ho1, hb1⟩
  have O1 := Lib.hid ho1
  have B1 := Lib.hid hb1
  generalize hen : encN l.length = en at *
  have HEN := Lib.hid hen
  clear ho1 hb1 hen
  go_wp2
  go_loopw [3, 4] (fun v i wr => ∃ (k : Nat), k ≤ s.size ∧ i = .int .i64 k ∧ wr.ownsRow w.heap.size 5 1 v (en.length + k) (bytesV (en ++ l.take k)) ∧ Below w.heap.size w wr) (fun _ i _ => s.size - (intOf i).toNat)
  case atStart => exact ⟨0, by omega, rfl, by simpa using O1.out, B1.out⟩
  case round =>
    obtain ⟨k, hk, rfl, ho, hb⟩ := hrel
    have O := Lib.hid ho
    have B := Lib.hid hb
    have hbs := hb.size
    clear ho hb
    by_cases hp : k < s.size
    · have hq : (k : Int) < (s.size : Int) := by omega
      have hck := HAT.out k hp
      have hkl : k < l.length := by rw [← HSZ.out]; exact hp
      have HT : Hid (en ++ l.take (k + 1) = en ++ l.take k ++ [nth l k]) := Lib.hid (by rw [take_nth l k hkl, List.append_assoc])
      have hbn : bt l k = (nth l k).toNat := by rw [nth_get l k hkl, bt_get l k hkl]
      rw [hbn] at hck
      clear hbn
      generalize nth l k = c at *
      generalize en ++ l.take k = q at *
      go_wp2_with (refine appendBytes rfl (.tmp 14) (.tmp 18) 52 rfl 5 Try.underlying52 u8info w.heap.size u3 _ q rfl (O.out.alloc _) _ 1 1 [c] rfl (Rb.new _ _ _ [c] (by simp) (by simp [bytesV]) 1 rfl) (by omega) (by simp; omega) ?_; intro v2 w2 ho2 hg2 hat2)
      go_roundw
      case rel => exact ⟨k + 1, by omega, by go_num, by rw [HT.out]; exact ho2, grow_below B.out O.out _ hg2⟩
      case measure => simp [intOf]; omega
    · obtain rfl : k = s.size := by omega
      have ho := O.out
      rw [HSZ.out, List.take_length] at ho
      obtain ⟨A, c, rfl, hc⟩ := own_slice ho
      have HR := Lib.hid (Rb.of_own ho)
      clear ho O
      go_wp2
      go_ret
      exact ⟨A, _, c, rfl, by rw [HEN.out]; exact HR.out, hc, B.out⟩
set_option maxHeartbeats 1000000 in
theorem refStamp (w : World) (a b : Int) (ha0 : -9223372036854775808 ≤ a) (ha1 : a ≤ 9223372036854775807) (hb0 : -9223372036854775808 ≤ b) (hb1 : b ≤ 9223372036854775807) :
    Calls Try.prog 65 #[.agg #[.int .i64 a, .int .i64 b]] w fun e w' => ∃ A n c, e = .returned (.slice A n c) ∧ Rb w' A n (encN a.toNat ++ encN b.toNat) ∧ n ≤ c ∧ Below w.heap.size w w' := by
  have b0 := (Below.refl w.heap.size w).alloc (Nat.le_refl _) (.cells #[.int .i64 a, .int .i64 b] 23)
  have B0 := Lib.hid b0
  have k0 := Bk.new w 23 #[.int .i64 a, .int .i64 b]
  have HN := Lib.hid (fun W => refNum W a ha0 ha1)
  have HN2 := Lib.hid (fun W => refNum W b hb0 hb1)
  have hea := encN_len a.toNat
  have heb := encN_len b.toNat
  have K0 := Lib.hid k0
  clear b0 k0
  go_enter Try.func65, Try.ntmps65
  go_wp2_with fail
  refine (HN.out _).mono ?_
  rintro e w1 ⟨v1, rfl, ho1, hb1'⟩
  have k1 := K0.out.below hb1' (by simp)
  have c1 : w1.cell? ⟨w.heap.size, 1, none⟩ = some (.int .i64 b) := by rw [k1.cell]; rfl
  have c1' : w1.cell? ⟨w.heap.size, 0 + 1, none⟩ = some (.int .i64 b) := c1
  have B1 := Lib.hid (Below.then_below B0.out hb1')
  have O1 := Lib.hid (own_base_le (base' := w.heap.size) ho1 (by simp))
  clear k1 ho1 hb1'
  go_wp2_with fail
  refine (HN2.out _).mono ?_
  rintro e w2 ⟨v2, rfl, ho2, hb2⟩
  have B2 := Lib.hid (Below.then_below B1.out hb2)
  have O2 := Lib.hid (own_below O1.out hb2)
  obtain ⟨A2, c2, rfl, hc2⟩ := own_slice ho2
  have R2 := Lib.hid (Rb.of_own ho2)
  clear c1 c1' ho2 hb2
  have hbs := B2.out.size
  generalize hqa : encN a.toNat = ea at *
  generalize hqb : encN b.toNat = eb at *
  have HQA := Lib.hid hqa
  have HQB := Lib.hid hqb
  clear hqa hqb
  go_wp2_with (refine appendBytes rfl (.tmp 11) (.tmp 12) 52 rfl 5 Try.underlying52 u8info w.heap.size v1 ea.length ea rfl O2.out A2 eb.length c2 eb rfl R2.out (by omega) hbs ?_; intro v3 w3 ho3 hg3 hat3)
  go_ret
  obtain ⟨A3, c3, rfl, hc3⟩ := own_slice ho3
  exact ⟨A3, _, c3, rfl, by rw [HQA.out, HQB.out]; exact Rb.of_own ho3, hc3, Below.then_grown B2.out (Nat.le_refl _) hg3 (fun j hj => (O2.out.lt j hj).1)⟩
end Go.Proofs.Ytpdnedgoldjghaa.Wir
