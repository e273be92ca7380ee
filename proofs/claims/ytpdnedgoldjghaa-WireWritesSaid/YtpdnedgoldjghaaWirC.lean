import Derived.Test.YtpdnedgoldjghaaWirB
import Derived.Lib.VarintBits
import Derived.Lib.EndianBits
/- The reader: Bad, Fail, Left, Num. -/
namespace Go.Proofs.Ytpdnedgoldjghaa.Wir
open Go.RowKit WirP

theorem Rdr.lt {S : Nat → Prop} {w : World} {p : Nat} {l : List UInt8} {b : Int} (h : Rdr S w p l b) : p < w.heap.size := by
  obtain ⟨A, n, c, h1, _⟩ := h; exact h1.lt
theorem Rdr.below {S : Nat → Prop} {w w' : World} {p : Nat} {l : List UInt8} {b : Int} (h : Rdr S w p l b) (hb : Below w.heap.size w w') : Rdr S w' p l b := by
  obtain ⟨A, n, c, h1, h2, h3, h4⟩ := h
  exact ⟨A, n, c, h1.below hb h1.lt, h2.below hb, h3, h4⟩
theorem badR {S : Nat → Prop} (w : World) (p : Nat) (l : List UInt8) (b : Int) (h : Rdr S w p l b) : Calls Try.prog 36 #[.pointer (some ⟨p, 0, none⟩)] w fun e w' => e = .returned (.int .i64 b) ∧ w = w' := by
  obtain ⟨A, n, c, h1, _⟩ := h
  have c1 : w.cell? ⟨p, 1, none⟩ = some (.int .i64 b) := by rw [h1.cell]; rfl
  have c1' : w.cell? ⟨p, 0 + 1, none⟩ = some (.int .i64 b) := c1
  clear h1
  go_enter Try.func36, Try.ntmps36
  go_wp2
  go_ret
  exact ⟨rfl, rfl⟩
theorem badNil (w : World) : Calls Try.prog 36 #[.pointer none] w fun e w' => e = .returned (.int .i64 1) ∧ w = w' := by
  go_enter Try.func36, Try.ntmps36
  go_wp2
  go_ret
  exact ⟨rfl, rfl⟩
theorem no_u8 {b : Int} {A : Option Addr} {n k : Nat} (i : Nat) (x : Int) : (#[Value.slice A n k, .int .i64 b] : Array Value)[i]? ≠ some (.int .u8 x) := by
  rcases i with _ | _ | i <;> simp
theorem Rb.over {w w' : World} {A : Option Addr} {n g : Nat} {l : List UInt8} {t : TypeId} {cs : Array Value} (h : Rb w A n l) (hg : w.grownBy w' (some g)) (hk : Bk w g t cs) (hcs : ∀ (i : Nat) (x : Int), cs[i]? ≠ some (.int .u8 x)) : Rb w' A n l :=
  ⟨h.1, h.2.1, fun hn => by
    obtain ⟨ad, e, hlt, hc⟩ := h.2.2 hn
    have hne : ad.block ≠ g := by
      rintro rfl
      have h0 := hc 0 hn
      have h1 : w.heap[ad.block]? = some (.cells cs t (0, 0)) := hk
      simp only [Addr.add, if_true, World.cell?, h1] at h0
      split at h0
      · cases h0
      · exact hcs _ _ h0
    exact ⟨ad, e, Nat.lt_of_lt_of_le hlt hg.size, fun j hj => (World.cell?_of_block (hg.block _ (by rw [addr_block]; exact hlt) (by rw [addr_block]; intro e; injection e with e; exact hne e))).trans (hc j hj)⟩⟩
theorem failYes {S : Nat → Prop} (w : World) (p : Nat) (l : List UInt8) (x : Int) (h : Rdr S w p l 0) : Calls Try.prog 30 #[.pointer (some ⟨p, 0, none⟩), .int .i64 x] w fun e w' => e = .returned (.tuple #[]) ∧ Rdr S w' p l x ∧ w.grownBy w' (some p) := by
  obtain ⟨A, n, c, h1, h2, h3, h4⟩ := h
  have c1 : w.cell? ⟨p, 1, none⟩ = some (.int .i64 0) := by rw [h1.cell]; rfl
  have c1' : w.cell? ⟨p, 0 + 1, none⟩ = some (.int .i64 0) := c1
  have f1 : w.frozen? ⟨p, 1, none⟩ = false := h1.free 1
  have f1' : w.frozen? ⟨p, 0 + 1, none⟩ = false := h1.free 1
  have HK := Lib.hid h1
  have HR := Lib.hid h2
  clear h1 h2
  go_enter Try.func30, Try.ntmps30
  go_wp2
  refine bodyPost_end (results_none rfl _ _ _) rfl ?_
  exact ⟨rfl, ⟨A, n, c, by simpa using HK.out.set 1 (.int .i64 x), Rb.over HR.out (grown_set w p 1 _) HK.out no_u8, h3, h4⟩, grown_set w p 1 _⟩
theorem failNo {S : Nat → Prop} (w : World) (p : Nat) (l : List UInt8) (x b : Int) (h : Rdr S w p l b) (hb : b ≠ 0) : Calls Try.prog 30 #[.pointer (some ⟨p, 0, none⟩), .int .i64 x] w fun e w' => e = .returned (.tuple #[]) ∧ w = w' := by
  obtain ⟨A, n, c, h1, h2, h3, h4⟩ := h
  have c1 : w.cell? ⟨p, 1, none⟩ = some (.int .i64 b) := by rw [h1.cell]; rfl
  have c1' : w.cell? ⟨p, 0 + 1, none⟩ = some (.int .i64 b) := c1
  have hb0 : (b == 0) = false := by simpa using hb
  clear h1 h2
  go_enter Try.func30, Try.ntmps30
  go_wp2
  refine bodyPost_end (results_none rfl _ _ _) rfl ?_
  exact ⟨rfl, rfl⟩
theorem failNil (w : World) (x : Int) : Calls Try.prog 30 #[.pointer none, .int .i64 x] w fun e w' => e = .returned (.tuple #[]) ∧ w = w' := by
  go_enter Try.func30, Try.ntmps30
  go_wp2
  refine bodyPost_end (results_none rfl _ _ _) rfl ?_
  exact ⟨rfl, rfl⟩
theorem leftR {S : Nat → Prop} (w : World) (p : Nat) (l : List UInt8) (b : Int) (h : Rdr S w p l b) : Calls Try.prog 35 #[.pointer (some ⟨p, 0, none⟩)] w fun e w' => e = .returned (.int .i64 (if b = 0 then (l.length : Int) else 0)) ∧ w = w' := by
  have HB := Lib.hid (badR w p l b h)
  obtain ⟨A, n, c, h1, h2, h3, h4⟩ := h
  have c0 : w.cell? ⟨p, 0, none⟩ = some (.slice A n c) := by rw [h1.cell]; rfl
  have hl := h2.len
  clear h1 h2
  by_cases hb : b = 0
  · subst hb
    rw [if_pos rfl, hl]
    go_enter Try.func35, Try.ntmps35
    go_wp2_with fail
    refine HB.out.mono ?_
    rintro e w1 ⟨rfl, rfl⟩
    go_wp2
    go_ret
    exact ⟨rfl, rfl⟩
  · rw [if_neg hb]
    have hb0 : (b != 0) = true := by simpa using hb
    go_enter Try.func35, Try.ntmps35
    go_wp2_with fail
    refine HB.out.mono ?_
    rintro e w1 ⟨rfl, rfl⟩
    go_wp2
    go_ret
    exact ⟨rfl, rfl⟩
theorem leftNil (w : World) : Calls Try.prog 35 #[.pointer none] w fun e w' => e = .returned (.int .i64 0) ∧ w = w' := by
  have HB := Lib.hid badNil
  go_enter Try.func35, Try.ntmps35
  go_wp2_with fail
  refine (HB.out _).mono ?_
  rintro e w1 ⟨rfl, rfl⟩
  go_wp2
  go_ret
  exact ⟨rfl, rfl⟩
theorem numNilR (w : World) : Calls Try.prog 31 #[.pointer none] w fun e w' => e = .returned (.int .i64 0) ∧ w = w' := by
  have HB := Lib.hid badNil
  go_enter Try.func31, Try.ntmps31
  go_wp2_with fail
  refine (HB.out _).mono ?_
  rintro e w1 ⟨rfl, rfl⟩
  go_wp2
  go_ret
  exact ⟨rfl, rfl⟩
theorem numBad {S : Nat → Prop} (w : World) (p : Nat) (l : List UInt8) (b : Int) (h : Rdr S w p l b) (hb : b ≠ 0) : Calls Try.prog 31 #[.pointer (some ⟨p, 0, none⟩)] w fun e w' => e = .returned (.int .i64 0) ∧ w = w' := by
  have HB := Lib.hid (badR w p l b h)
  have hb0 : (b != 0) = true := by simpa using hb
  go_enter Try.func31, Try.ntmps31
  go_wp2_with fail
  refine HB.out.mono ?_
  rintro e w1 ⟨rfl, rfl⟩
  go_wp2
  go_ret
  exact ⟨rfl, rfl⟩
theorem u8_and127' (x : Nat) (h : x < 256) : bits .and .u8 (x : Int) 127 = ((x % 128 : Nat) : Int) := (u8_and127 (x : Int) (by omega) (by omega)).trans (by omega)
/-- What Num tells, of a reader with no error: the number, what is left, the error. -/
def numV (l : List UInt8) : Nat := (numD l).1
def numL (l : List UInt8) : List UInt8 := if (numD l).2.2 = 0 then l.drop (numD l).2.1 else l
def numE (l : List UInt8) : Nat := (numD l).2.2
def NumR (S : Nat → Prop) (w w' : World) (p : Nat) (l : List UInt8) (e : Ending) : Prop := e = .returned (.int .i64 (numV l : Nat)) ∧ Rdr S w' p (numL l) (numE l : Nat) ∧ w.grownBy w' (some p)
theorem pow7 (i : Nat) : (2 : Nat) ^ (7 * i) = 128 ^ i := by rw [Nat.pow_mul]
theorem or_num (acc x i : Nat) (hi : i ≤ 8) (ha : acc < 128 ^ i) : bits .or .i64 (acc : Int) (wrap64 ((x : Int) % 128 * 2 ^ (7 * i))) = ((acc + x % 128 * 128 ^ i : Nat) : Int) := by
  have h1 : x % 128 ≤ 127 := by omega
  have h2 : 128 ^ i ≤ 128 ^ 8 := Nat.pow_le_pow_right (by omega) hi
  have h3 : x % 128 * 128 ^ i ≤ 127 * 128 ^ 8 := Nat.mul_le_mul h1 h2
  have hz : (x : Int) % 128 * 2 ^ (7 * i) = ((x % 128 * 128 ^ i : Nat) : Int) := by
    rw [← pow7, Int.natCast_mul, Int.natCast_emod, Int.natCast_pow]; rfl
  have hw : wrap64 ((x % 128 * 128 ^ i : Nat) : Int) = ((x % 128 * 128 ^ i : Nat) : Int) := by unfold wrap64; omega
  rw [hz, hw]
  have hp : ((2 : Int) ^ (7 * i)) = ((128 ^ i : Nat) : Int) := by rw [← pow7, Int.natCast_pow]; rfl
  refine (bits_join_low .i64 63 (by decide) (fun n h0 h1 => by rw [IntKind.wrap_i64]; omega) (7 * i) acc ((x % 128 * 128 ^ i : Nat) : Int) (by omega) (by rw [hp]; omega) (by omega) (by omega) ?_ (by omega)).trans (by omega)
  rw [hp, ← Int.natCast_emod, Nat.mul_mod_left]; rfl
theorem or_zero : bits .or .i64 0 (wrap64 0) = 0 := by decide +kernel
theorem grown_drew (w : World) (g i : Nat) (u : Value) : w.grownBy (w.drew.setCell ⟨g, i, none⟩ u) (some g) := by
  have h := grown_set w g i u
  exact ⟨rfl, rfl, rfl, h.size, h.block⟩
theorem fin {S : Nat → Prop} {w : World} {p : Nat} {A A' : Option Addr} {n n' c : Nat} {b : Int} {l' : List UInt8} (hk : Bk w p 73 #[.slice A n c, .int .i64 b]) (h : Rb w A' n' l') (hS : ∀ ad, 0 < n' → A' = some ad → S ad.block) :
    Rdr S (w.setCell ⟨p, 0, none⟩ (.slice A' n' n')).drew p l' b ∧ w.grownBy (w.setCell ⟨p, 0, none⟩ (.slice A' n' n')).drew (some p) := by
  have h1 := grown_set w p 0 (.slice A' n' n')
  have hg : w.grownBy (w.setCell ⟨p, 0, none⟩ (.slice A' n' n')).drew (some p) := ⟨rfl, rfl, rfl, h1.size, h1.block⟩
  refine ⟨⟨A', n', n', ?_, Rb.over h hg hk no_u8, Nat.le_refl _, hS⟩, hg⟩
  have h2 := hk.set 0 (.slice A' n' n')
  simp at h2
  exact h2
set_option maxRecDepth 100000 in
set_option maxHeartbeats 4000000 in
theorem numR {S : Nat → Prop} (w : World) (p : Nat) (l : List UInt8) (h : Rdr S w p l 0) : Calls Try.prog 31 #[.pointer (some ⟨p, 0, none⟩)] w fun e w' => NumR S w w' p l e := by
  have HB := Lib.hid (badR w p l 0 h)
  have HF := Lib.hid (fun x => failYes w p l x h)
  obtain ⟨A, n, c, h1, h2, h3, h4⟩ := h
  have c0 : w.cell? ⟨p, 0, none⟩ = some (.slice A n c) := by rw [h1.cell]; rfl
  have f0 : w.frozen? ⟨p, 0, none⟩ = false := h1.free 0
  have hn := h2.bound
  have HK := Lib.hid h1
  have HR := Lib.hid h2
  have HS := Lib.hid h4
  clear h1 h2 h4
  go_enter Try.func31, Try.ntmps31
  go_wp2_with fail
  refine HB.out.mono ?_
  rintro e w1 ⟨rfl, rfl⟩
  go_wp2
  go_loopw [3, 9] (fun t j wr => ∃ (i acc f : Nat), i + f = 9 ∧ j = .int .i64 i ∧ t = .int .i64 acc ∧ acc < 128 ^ i ∧ wr = w ∧ Hid (numD l = dn l f i acc)) (fun _ j _ => 9 - (intOf j).toNat)
  case atStart => exact ⟨0, 0, 9, rfl, rfl, rfl, by decide, rfl, Lib.hid rfl⟩
  case round =>
    obtain ⟨i, acc, f, hif, rfl, rfl, hacc, rfl, HD⟩ := hrel
    by_cases hi9 : i < 9
    · obtain ⟨f, rfl⟩ : ∃ f', f = f' + 1 := ⟨f - 1, by omega⟩
      by_cases hin : i < n
      · obtain ⟨ad, rfl, hcell⟩ := HR.out.at_ hin
        have hil : i < l.length := by rw [HR.out.len]; exact hin
        have hcb := bt_lt l i
        have HG := Lib.hid (fun h => HD.out.trans (dn_go (f := f) (acc := acc) hil h))
        have HEN := Lib.hid (fun h h' => HD.out.trans (dn_end (f := f) (acc := acc) hil h h'))
        have HBD := Lib.hid (fun h h' => HD.out.trans (dn_bad (f := f) (acc := acc) hil h h'))
        generalize bt l i = x at *
        have ha := u8_and127' x hcb
        have hin' : (i : Int) < (n : Int) := by omega
        have hor := or_num acc x i (by omega) hacc
        by_cases hbig : 128 ≤ x
        · have e1 : (127 : Int) < (x : Int) := by omega
          have HG' := Lib.hid (HG.out hbig)
          have hx : x % 128 = x - 128 := by omega
          rw [hx] at hor
          clear hx
          have hbd : acc + (x - 128) * 128 ^ i < 128 ^ (i + 1) := by
            rw [Nat.pow_succ]
            have : (x - 128) * 128 ^ i ≤ 127 * 128 ^ i := Nat.mul_le_mul_right _ (by omega)
            omega
          clear HEN HBD HG
          generalize acc + (x - 128) * 128 ^ i = y at *
          go_wp2
          go_roundw
          case rel => exact ⟨i + 1, y, f, by omega, by go_num, rfl, hbd, by trivial, HG'⟩
          case measure => simp [intOf]; omega
        · have e1 : ¬ (127 : Int) < (x : Int) := by omega
          by_cases hbad : x = 0 ∧ 0 < i
          · have hD := HBD.out hbad.1 hbad.2
            have HV : Hid (numV l = 0 ∧ numL l = l ∧ numE l = 4) := Lib.hid (by rw [numV, numL, numE, hD]; exact ⟨rfl, rfl, rfl⟩)
            obtain ⟨rfl, hi0⟩ := hbad
            clear hD HBD HEN HG
            have hi0' : (0 : Int) < (i : Int) := by omega
            go_wp2_with fail
            refine (HF.out _).mono ?_
            rintro e w2 ⟨rfl, hr, hg⟩
            go_wp2
            go_ret
            exact ⟨by rw [HV.out.1]; rfl, by rw [HV.out.2.1, HV.out.2.2]; exact hr, hg⟩
          · have hD := HEN.out (by omega) hbad
            have HV : Hid (numV l = acc + x % 128 * 128 ^ i ∧ numL l = l.drop (i + 1) ∧ numE l = 0) := Lib.hid (by rw [numV, numL, numE, hD, Nat.mod_eq_of_lt (show x < 128 by omega)]; exact ⟨rfl, rfl, rfl⟩)
            have RB1 : Hid (n = i + 1 → Rb wr (some ad) 0 (l.drop (i + 1))) := Lib.hid (fun e => by
              have h := HR.out.cut (k := i + 1) (cap := n) (by omega) (Nat.le_refl _)
              rwa [if_pos e, show n - (i + 1) = 0 by omega] at h)
            have RB2 : Hid (n ≠ i + 1 → Rb wr (some ⟨ad.block, ad.off + (i + 1), none⟩) (n - (i + 1)) (l.drop (i + 1))) := Lib.hid (fun e => by
              have h := HR.out.cut (k := i + 1) (cap := n) (by omega) (Nat.le_refl _)
              rw [if_neg e] at h
              simpa [Addr.add] using h)
            have i1 : (i : Int) + 1 ≤ (n : Int) := by omega
            have i2 : (0 : Int) ≤ (i : Int) + 1 := by omega
            have i3 : (n : Int) ≤ (c : Int) := by omega
            clear hD HBD HEN HG
            rcases (by omega : x ≠ 0 ∨ (x = 0 ∧ i = 0)) with hx0 | ⟨rfl, rfl⟩
            · have e0 : ((x : Int) == 0) = false := by simp; omega
              generalize acc + x % 128 * 128 ^ i = y at *
              go_wp2_with fail
              go_region
              go_wp2
              all_goals
                go_ret
                refine ⟨by rw [HV.out.1]; rfl, ?_⟩
                rw [HV.out.2.1, HV.out.2.2]
                first
                  | exact fin HK.out (RB2.out (by omega)) (fun ad' hn' e => by injection e with e; rw [← e]; exact HS.out ad (by omega) rfl)
                  | exact fin HK.out (RB1.out (by first | rfl | omega)) (fun ad' hn' e => absurd hn' (by omega))
            · have hor0 := or_zero
              have hacc0 : acc = 0 := by simpa using hacc
              subst hacc0
              clear hor
              have hcell0 : wr.cell? ad = some (.int .u8 ((0 : Nat) : Int)) := by simpa [Addr.add] using hcell
              have i4 : (1 : Int) ≤ (n : Int) := by omega
              have ha0 : bits .and .u8 0 127 = 0 := by decide +kernel
              have hw0 : wrap64 0 = 0 := by decide +kernel
              have ho0 : bits .or .i64 0 0 = 0 := by decide +kernel
              clear ha
              go_wp2_with fail
              go_region
              go_wp2
              all_goals
                go_ret
                refine ⟨by rw [HV.out.1]; rfl, ?_⟩
                rw [HV.out.2.1, HV.out.2.2]
                first
                  | exact fin HK.out (RB2.out (by omega)) (fun ad' hn' e => by injection e with e; rw [← e]; exact HS.out ad (by omega) rfl)
                  | exact fin HK.out (RB1.out (by first | rfl | omega)) (fun ad' hn' e => absurd hn' (by omega))
      · have hD := HD.out.trans (dn_short (by rw [HR.out.len]; omega))
        have HV : Hid (numV l = 0 ∧ numL l = l ∧ numE l = 3) := Lib.hid (by rw [numV, numL, numE, hD]; exact ⟨rfl, rfl, rfl⟩)
        clear hD
        have hin' : ¬ (i : Int) < (n : Int) := by omega
        go_wp2_with fail
        refine (HF.out _).mono ?_
        rintro e w2 ⟨rfl, hr, hg⟩
        go_wp2
        go_ret
        exact ⟨by rw [HV.out.1]; rfl, by rw [HV.out.2.1, HV.out.2.2]; exact hr, hg⟩
    · obtain rfl : f = 0 := by omega
      have hD : numD l = (0, 0, 4) := HD.out
      have HV : Hid (numV l = 0 ∧ numL l = l ∧ numE l = 4) := Lib.hid (by rw [numV, numL, numE, hD]; exact ⟨rfl, rfl, rfl⟩)
      clear hD
      go_wp2_with fail
      refine (HF.out _).mono ?_
      rintro e w2 ⟨rfl, hr, hg⟩
      go_wp2
      go_ret
      exact ⟨by rw [HV.out.1]; rfl, by rw [HV.out.2.1, HV.out.2.2]; exact hr, hg⟩
end Go.Proofs.Ytpdnedgoldjghaa.Wir
