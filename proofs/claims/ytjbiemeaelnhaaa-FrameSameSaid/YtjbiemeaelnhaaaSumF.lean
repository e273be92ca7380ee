import Derived.Test.YtjbiemeaelnhaaaSumE
/- Open, the reference's and the program's: what both tell. -/
namespace Go.Proofs.Ytjbiemeaelnhaaa
open Go.RowKit

/-- A pair of a slice of bytes and a truth. -/
def Opened (w w' : World) (l : List UInt8) (e : Ending) : Prop :=
  ∃ A n c, e = .returned (.tuple #[.slice A n c, .bool (SumP.opens l)]) ∧ Rb w' A n (SumP.opened l) ∧ n ≤ c ∧ Below w.heap.size w w'

theorem ret_sb {A : Option Addr} {n c : Nat} {a b : Bool} (h : a = b) : Ending.returned (.tuple #[.slice A n c, .bool a]) = .returned (.tuple #[.slice A n c, .bool b]) := by rw [h]
set_option maxHeartbeats 400000 in
theorem refOpen (w : World) (A : Option Addr) (n cap : Nat) (l : List UInt8) (h : Rb w A n l) (hc : n ≤ cap) (hn : n ≤ 140737488355328) :
    Calls Try.prog 15 #[.slice A n cap] w fun e w' => Opened w w' l e := by
  have H := Lib.hid h
  clear h
  by_cases h4 : n < 4
  · have ho := SumP.opens_short l (by rw [H.out.len]; exact h4)
    go_enter Try.func15, Try.ntmps15
    go_wp2
    go_ret2
    exact ⟨none, 0, 0, ret_sb ho.symm, by rw [SumP.opened_no l ho]; exact Rb.nil_ _, Nat.le_refl _, Below.refl _ _⟩
  · have HT := Lib.hid (H.out.take_ (k := n - 4) (by omega))
    go_enter Try.func15, Try.ntmps15
    go_wp2_with fail
    refine (refSeal w A (n - 4) cap (l.take (n - 4)) HT.out (by omega)).mono ?_
    rintro e w1 ⟨v, rfl, ho1, hb1⟩
    obtain ⟨A', c', rfl, hc'⟩ := own_slice ho1
    have HS := Lib.hid (Rb.of_own ho1)
    have HL := Lib.hid (H.out.below hb1)
    have HT1 := Lib.hid (HT.out.below hb1)
    have HB := Lib.hid hb1
    have e4 : n - 4 + 4 = n := by omega
    rw [e4] at HS
    rw [e4]
    clear ho1 hb1 e4 HT
    generalize hsd : SumP.sealB (l.take (n - 4)) = sd at *
    have HD := Lib.hid hsd
    clear hsd
    go_wp2
    go_loopw [6] (fun i wr => ∃ k q : Nat, k ≤ n ∧ i = .int .i64 k ∧ wr = w1.drewN q ∧ Hid (sd.take k = l.take k)) (fun i _ => n - (intOf i).toNat)
    case atStart => exact ⟨0, 0, Nat.zero_le _, rfl, rfl, by simpa using Lib.hid (rfl : ([] : List UInt8) = [])⟩
    case round =>
      obtain ⟨k, q, hk, rfl, rfl, ht⟩ := hrel
      by_cases hlt : k < n
      · obtain ⟨ad, rfl, h1⟩ := HS.out.at_ hlt
        obtain ⟨ad', rfl, h2⟩ := HL.out.at_ hlt
        have hi : (k : Int) < (n : Int) := by omega
        have h0 : (0 : Int) ≤ (k : Int) := by omega
        have HN := Lib.hid (bt_ne sd l k)
        have HX := Lib.hid (take_succ_u8 sd k (by rw [HS.out.len]; exact hlt))
        have HY := Lib.hid (take_succ_u8 l k (by rw [HL.out.len]; exact hlt))
        generalize bt sd k = x at *
        generalize bt l k = y at *
        go_wp2_with fail
        go_quiet (fail)
        go_wp2
        · go_ret2
          have ho : SumP.opens l = false := by
            refine SumP.opens_ne l (by rw [HL.out.len]; omega) ?_
            have h3 := HN.out ‹_›
            rw [HL.out.len, HD.out]
            simpa [sameB] using h3
          exact ⟨none, 0, 0, ret_sb ho.symm, by rw [SumP.opened_no l ho]; exact Rb.nil_ _, Nat.le_refl _, below_drewN (below_drewN HB.out _) _⟩
        · have he : x = y := by
            have h3 : ((x : Int) != (y : Int)) = false := ‹_›
            simp at h3
            omega
          go_roundw
          case rel => exact ⟨k + 1, q + nq, by omega, by go_num, rfl, Lib.hid (by rw [HX.out, HY.out, ht.out, he])⟩
          case measure => simp [intOf]; omega
      · obtain rfl : k = n := by omega
        go_wp2
        go_ret2
        have h3 := ht.out
        rw [List.take_of_length_le (by rw [HS.out.len]; omega), List.take_of_length_le (by rw [HL.out.len]; omega)] at h3
        have ho : SumP.opens l = true := by
          rw [SumP.opens_iff l (by rw [HL.out.len]; omega), HL.out.len, HD.out]
          exact h3.symm
        exact ⟨A, k - 4, cap, ret_sb ho.symm, by rw [SumP.opened_yes l ho, HL.out.len]; exact HT1.out.below (below_drewN (Below.refl _ _) _), by omega, below_drewN HB.out _⟩

theorem shr_byte (s k : Nat) (h : s < 4294967296) (hk : k < 4) : (s : Int) / 2 ^ (8 * k) = ((s / 256 ^ k : Nat) : Int) := by
  match k, hk with
  | 0, _ => simp
  | 1, _ => simp
  | 2, _ => simp
  | 3, _ => simp
theorem le4_get (s k : Nat) (h : k < 4) : bt (SumP.le4 s) k = s / 256 ^ k % 256 := by
  match k, h with
  | 0, _ => simp [bt, SumP.le4]
  | 1, _ => simp [bt, SumP.le4]
  | 2, _ => simp [bt, SumP.le4]
  | 3, _ => simp [bt, SumP.le4]

theorem opens_bt (l : List UInt8) (n s k : Nat) (hl : l.length = n) (h4 : 4 ≤ n) (hs : SumP.more 0 (l.take (n - 4)) = s) (hk : k < 4) (hne : bt l (n - 4 + k) ≠ bt (SumP.le4 s) k) : SumP.opens l = false := by
  simp only [SumP.opens, decide_eq_false_iff_not]
  rintro ⟨_, h⟩
  rw [hl, hs] at h
  exact hne (by rw [← h, bt_drop])
theorem opens_all (l : List UInt8) (n s : Nat) (hl : l.length = n) (h4 : 4 ≤ n) (hs : SumP.more 0 (l.take (n - 4)) = s) (h : ∀ j, j < 4 → bt l (n - 4 + j) = bt (SumP.le4 s) j) : SumP.opens l = true := by
  simp only [SumP.opens, decide_eq_true_iff]
  refine ⟨by omega, ?_⟩
  rw [hl, hs]
  refine bt_ext _ _ (by rw [List.length_drop, SumP.le4_length]; omega) fun k hk => ?_
  rw [List.length_drop] at hk
  rw [bt_drop]
  exact h k (by omega)
/-- An empty slice of no room. -/
theorem ownEmpty (w : World) (e : TypeId) (base : Nat) (hb : base ≤ w.heap.size) : (w.alloc (.cells #[] e)).ownsRow base e 1 (.slice (some ⟨w.heap.size, 0, none⟩) 0 0) 0 [] :=
  ⟨by simp, .inr ⟨w.heap.size, 0, #[], rfl, hb, heap_alloc_new w _, Nat.le_refl _, by simp [maxLen], by simp, by simp⟩⟩

set_option maxHeartbeats 400000 in
theorem sumOpen (w : World) (A : Option Addr) (n cap : Nat) (l : List UInt8) (h : Rb w A n l) (hc : n ≤ cap) (hn : n ≤ 140737488355328) :
    Calls Try.prog 14 #[.slice A n cap] w fun e w' => Opened w w' l e := by
  have H := Lib.hid h
  clear h
  by_cases h4 : n < 4
  · have ho := SumP.opens_short l (by rw [H.out.len]; exact h4)
    go_enter Try.func14, Try.ntmps14
    go_wp2
    go_ret2
    exact ⟨none, 0, 0, ret_sb ho.symm, by rw [SumP.opened_no l ho]; exact Rb.nil_ _, Nat.le_refl _, Below.refl _ _⟩
  · have HT := Lib.hid (H.out.take_ (k := n - 4) (by omega))
    go_enter Try.func14, Try.ntmps14
    go_wp2_with fail
    refine (sumOf _ A (n - 4) cap (l.take (n - 4)) HT.out).mono ?_
    rintro e w1 ⟨rfl, hb1⟩
    have HL := Lib.hid (H.out.below hb1)
    have HT1 := Lib.hid (HT.out.below hb1)
    have HB := Lib.hid hb1
    have hs := SumP.more_lt 0 (l.take (n - 4))
    clear hb1 HT
    generalize hsd : SumP.more 0 (l.take (n - 4)) = s at *
    have HD := Lib.hid hsd
    clear hsd
    go_wp2
    go_loopw [6, 16] (fun _ i wr => ∃ k q : Nat, k ≤ 4 ∧ i = .int .i64 k ∧ wr = w1.drewN q ∧ Hid (∀ j, j < k → bt l (n - 4 + j) = bt (SumP.le4 s) j)) (fun _ i _ => 4 - (intOf i).toNat)
    case atStart => exact ⟨0, 0, Nat.zero_le _, rfl, rfl, Lib.hid (fun j hj => absurd hj (by omega))⟩
    case round =>
      obtain ⟨k, q, hk, rfl, rfl, ht⟩ := hrel
      by_cases hlt : k < 4
      · obtain ⟨ad, rfl, h1⟩ := HL.out.at_ (k := n - 4 + k) (by omega)
        have HX := Lib.hid (le4_get s k hlt)
        have HY := Lib.hid (show bt l (n - 4 + k) ≠ bt (SumP.le4 s) k → SumP.opens l = false from fun hne => opens_bt l n s k HL.out.len (by omega) HD.out hlt hne)
        generalize hxx : bt l (n - 4 + k) = x at *
        have HE := Lib.hid hxx
        clear hxx
        have hsh := shr_byte s k hs hlt
        generalize s / 256 ^ k = y at *
        have hi : ((n - 4 : Nat) : Int) + (k : Int) < (n : Int) := by omega
        go_wp2_with fail
        go_quiet (fail)
        go_wp2
        · go_ret2
          have h3 : ((x : Int) != (y : Int) % 256) = true := ‹_›
          have ho : SumP.opens l = false := HY.out (by rw [HX.out]; simp at h3; omega)
          exact ⟨none, 0, 0, ret_sb ho.symm, by rw [SumP.opened_no l ho]; exact Rb.nil_ _, Nat.le_refl _, below_drewN (below_drewN HB.out _) _⟩
        · have h3 : ((x : Int) != (y : Int) % 256) = false := ‹_›
          go_roundw
          case rel => exact ⟨k + 1, q + nq, by omega, by go_num, rfl, Lib.hid (fun j hj => by
            rcases Nat.lt_or_ge j k with h4 | h4
            · exact ht.out j h4
            · obtain rfl : j = k := by omega
              rw [HE.out, HX.out]; simp at h3; omega)⟩
          case measure => simp [intOf]; omega
      · obtain rfl : k = 4 := by omega
        have ho := opens_all l n s HL.out.len (by omega) HD.out ht.out
        go_wp2_with (first
          | (refine appendBytes rfl (.tmp 32) (.tmp 35) 22 rfl 5 Try.underlying22 u8info w1.heap.size _ 0 [] rfl (ownEmpty _ _ _ (by simp)) A (n - 4) cap (l.take (n - 4)) rfl ((HT1.out.below (below_drewN (Below.refl _ _) q)).below ((Below.refl _ _).alloc (Nat.le_refl _) _)) (by omega) (by simp) ?_; intro v3 w3 ho3 hg3 hat3))
        go_ret2
        obtain ⟨A3, c3, rfl, hc3⟩ := own_slice ho3
        refine ⟨A3, 0 + (n - 4), c3, ret_sb ho.symm, ?_, hc3, ?_⟩
        · rw [SumP.opened_yes l ho, HL.out.len]
          exact Rb.of_own ho3
        · refine Below.then_grown ((below_drewN HB.out q).alloc HB.out.size _) (Nat.le_refl _) hg3 (fun k hk => ?_)
          have h2 : w1.heap.size = k := Option.some.inj hk
          have := HB.out.size
          omega
end Go.Proofs.Ytjbiemeaelnhaaa
