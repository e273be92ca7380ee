import Derived.Test.YtcjonnfhnddapaaNamB
import Derived.Lib.MinMax
/- plain, nibble, one, Suffixed. -/
namespace Go.Proofs.Ytcjonnfhnddapaa.Nam
open Go.RowKit NumP Num NamP

theorem plain (w : World) (c : Nat) : Calls Try.prog 57 #[.int .u8 c] w fun e w' => e = .returned (.bool (pl c)) ∧ w = w' := by
  unfold pl
  by_cases h1 : 33 ≤ c
  · by_cases h2 : c ≤ 126
    · by_cases h3 : c = 37
      · subst h3
        go_enter Try.func57, Try.ntmps57
        go_wp2
        go_ret
        exact ⟨rfl, rfl⟩
      · have e3 : ((c : Int) != 37) = true := by simp; omega
        have q1 : (33 : Int) ≤ (c : Int) := by omega
        have q2 : (c : Int) ≤ 126 := by omega
        rw [decide_eq_true ⟨h1, h2, h3⟩]
        go_enter Try.func57, Try.ntmps57
        go_wp2
        go_ret
        exact ⟨rfl, rfl⟩
    · have q1 : (33 : Int) ≤ (c : Int) := by omega
      have q2 : ¬ (c : Int) ≤ 126 := by omega
      rw [decide_eq_false (by omega)]
      go_enter Try.func57, Try.ntmps57
      go_wp2
      go_ret
      exact ⟨rfl, rfl⟩
  · have q1 : ¬ (33 : Int) ≤ (c : Int) := by omega
    rw [decide_eq_false (by omega)]
    go_enter Try.func57, Try.ntmps57
    go_wp2
    go_ret
    exact ⟨rfl, rfl⟩
theorem ret_u8 {a b : Int} (h : a = b) : Ending.returned (.int .u8 a) = .returned (.int .u8 b) := by rw [h]
theorem nibble (w : World) (c : Nat) (hc : c < 256) : Calls Try.prog 58 #[.int .u8 c] w fun e w' => e = .returned (.int .u8 (nib c : Nat)) ∧ w = w' := by
  unfold nib
  by_cases h1 : 48 ≤ c ∧ c ≤ 57
  · rw [if_pos h1]
    have q1 : (48 : Int) ≤ (c : Int) := by omega
    have q2 : (c : Int) ≤ 57 := by omega
    go_enter Try.func58, Try.ntmps58
    go_wp2
    go_ret
    exact ⟨ret_u8 (by omega), rfl⟩
  · rw [if_neg h1]
    by_cases h2 : 65 ≤ c ∧ c ≤ 70
    · rw [if_pos h2]
      have q1 : (65 : Int) ≤ (c : Int) := by omega
      have q2 : (c : Int) ≤ 70 := by omega
      have q3 : (48 : Int) ≤ (c : Int) := by omega
      have q4 : ¬ (c : Int) ≤ 57 := by omega
      go_enter Try.func58, Try.ntmps58
      go_wp2
      go_ret
      exact ⟨ret_u8 (by omega), rfl⟩
    · rw [if_neg h2]
      go_enter Try.func58, Try.ntmps58
      go_wp2
      all_goals
        first
        | (exfalso; omega)
        | (go_ret; exact ⟨rfl, rfl⟩)
theorem hex_cut (k : Nat) (h : k < 16) : ByteArray.extract ⟨#[48, 49, 50, 51, 52, 53, 54, 55, 56, 57, 65, 66, 67, 68, 69, 70]⟩ k (k + 1) = mk [hx k] := by
  have : ∀ k : Fin 16, ByteArray.extract ⟨#[48, 49, 50, 51, 52, 53, 54, 55, 56, 57, 65, 66, 67, 68, 69, 70]⟩ k.1 (k.1 + 1) = mk [hx k.1] := by decide +kernel
  exact this ⟨k, h⟩
theorem hexSlice (r : Nat) (h : r < 16) (W : World) : (Instr.slice 9 (.string ⟨#[48, 49, 50, 51, 52, 53, 54, 55, 56, 57, 65, 66, 67, 68, 69, 70]⟩) (some (.int .i64 r)) (some (.int .i64 ((r : Int) + 1))) none).run Try.prog W = .ok (.string (mk [hx r])) W := by
  have hz : (ByteArray.mk #[48, 49, 50, 51, 52, 53, 54, 55, 56, 57, 65, 66, 67, 68, 69, 70]).size = 16 := rfl
  have hi1 : (0 : Int) ≤ (r : Int) := by omega
  have hi3 : (r : Int) + 1 ≤ 16 := by omega
  have hi4 : (0 : Int) ≤ (r : Int) + 1 := by omega
  rw [← hex_cut r h]
  simp [Instr.slice, run_underlying Try.underlying9, Instr.sliceBounds, run_sliceBound, hz, hi1, hi3, hi4, go_sem]
  try omega
set_option maxHeartbeats 1000000 in
theorem one (w : World) (c : UInt8) : Calls Try.prog 59 #[.int .u8 (c.toNat : Int)] w fun e w' => e = .returned (.string (mk (NamP.one c))) ∧ Below w.heap.size w w' := by
  have hc := UInt8.toNat_lt c
  by_cases hp : pl c.toNat = true
  · have ho : NamP.one c = [c] := by rw [NamP.one, if_pos hp]
    rw [ho]
    have HC := Lib.hid (fun (W : World) => run_bytesString (P := Try.prog) (dst := 9) Try.underlying61 Try.underlying5 Try.underlying9 (Rb.new W 5 #[.int .u8 (c.toNat : Int)] [c] (by simp) (by simp [bytesV]) 1 rfl) 1)
    have HCW := HC.out w
    simp only [pl, decide_eq_true_eq] at hp
    generalize hd : c.toNat = d at *
    have q1 : (32 : Int) < (d : Int) := by omega
    have q2 : (d : Int) < 127 := by omega
    have q3 : ((d : Int) != 37) = true := by simp; omega
    clear hd HC ho
    obtain ⟨s, HSS⟩ : ∃ s, Hid (mk [c] = s) := ⟨_, Lib.hid rfl⟩
    rw [show (ByteArray.mk [c].toArray) = s from HSS.out] at HCW
    rw [HSS.out]
    go_enter Try.func59, Try.ntmps59
    go_wp2
    go_ret
    exact ⟨rfl, (Below.refl _ _).alloc (Nat.le_refl _) _⟩
  · have ho : NamP.one c = [37, hx (c.toNat / 16), hx (c.toNat % 16)] := by rw [NamP.one, if_neg hp]
    rw [ho]
    have H1 := Lib.hid (hexSlice (c.toNat / 16) (by omega))
    have H2 := Lib.hid (hexSlice (c.toNat % 16) (by omega))
    have HZ : Hid (mk [37] ++ mk [hx (c.toNat / 16)] ++ mk [hx (c.toNat % 16)] = mk [37, hx (c.toNat / 16), hx (c.toNat % 16)]) := Lib.hid (by rw [mk_append, mk_append]; rfl)
    rw [← HZ.out]
    have hpp : c.toNat < 33 ∨ (33 ≤ c.toNat ∧ 126 < c.toNat) ∨ (33 ≤ c.toNat ∧ c.toNat ≤ 126 ∧ c.toNat = 37) := by
      simp only [pl, decide_eq_true_eq] at hp
      omega
    generalize c.toNat = d at *
    have hm : (d : Int) % 16 = ((d % 16 : Nat) : Int) := by omega
    have hm2 : (d : Int).tmod 16 = ((d % 16 : Nat) : Int) := rfl
    have hv : (d : Int) / 16 = ((d / 16 : Nat) : Int) := by omega
    have hr1 : d / 16 < 16 := by omega
    have hr2 : d % 16 < 16 := by omega
    clear HZ ho hp
    generalize d / 16 = r at *
    generalize d % 16 = q at *
    have hs1 : (mk [hx r]).size = 1 := rfl
    have hs2 : (mk [hx q]).size = 1 := rfl
    have hsl1 := H1.out
    have hsl2 := H2.out
    clear H1 H2
    generalize mk [hx r] = a at *
    generalize mk [hx q] = b at *
    have hw1 := wrap_i (r : Int) (by omega) (by omega)
    have hw2 := wrap_i (q : Int) (by omega) (by omega)
    have hw3 := wrap_i ((r : Int) + 1) (by omega) (by omega)
    have hw4 := wrap_i ((q : Int) + 1) (by omega) (by omega)
    have hp1 : (ByteArray.mk #[37]).size = 1 := rfl
    have hs5 : ¬ (9223372036854775807 < (ByteArray.mk #[37]).size + a.size) := by omega
    have hs6 : ¬ (9223372036854775807 < (ByteArray.mk #[37] ++ a).size + b.size) := by rw [ByteArray.size_append]; omega
    rcases hpp with h | ⟨h, h'⟩ | ⟨h, h', h37⟩
    · have q1 : ¬ (32 : Int) < (d : Int) := by omega
      go_enter Try.func59, Try.ntmps59
      go_wp2
      go_quiet (fail)
      go_wp2
      go_ret
      exact ⟨rfl, below_drewN (Below.refl _ _) _⟩
    · have q1 : (32 : Int) < (d : Int) := by omega
      have q2 : ¬ (d : Int) < 127 := by omega
      go_enter Try.func59, Try.ntmps59
      go_wp2
      go_quiet (fail)
      go_wp2
      go_ret
      exact ⟨rfl, below_drewN (Below.refl _ _) _⟩
    · have q1 : (32 : Int) < (d : Int) := by omega
      have q2 : (d : Int) < 127 := by omega
      have q3 : ((d : Int) != 37) = false := by simp; omega
      clear h37
      go_enter Try.func59, Try.ntmps59
      go_wp2
      go_quiet (fail)
      go_wp2
      go_ret
      exact ⟨rfl, below_drewN (Below.refl _ _) _⟩
end Go.Proofs.Ytcjonnfhnddapaa.Nam
