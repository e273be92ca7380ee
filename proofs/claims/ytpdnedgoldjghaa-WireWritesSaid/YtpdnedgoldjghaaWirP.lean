import Derived.Test.YtpdnedgoldjghaaCore
/- Plain words on numbers in bytes: seven bits a byte, the least first. No program here. -/
namespace Go.Proofs.Ytpdnedgoldjghaa.WirP

def enF : Nat → Nat → List UInt8
  | 0, _ => []
  | f + 1, n => if n < 128 then [UInt8.ofNat n] else UInt8.ofNat (n % 128 + 128) :: enF f (n / 128)
/-- A number's bytes. -/
def encN (n : Nat) : List UInt8 := enF 9 n
theorem enF_len (f n : Nat) : (enF f n).length ≤ f := by
  induction f generalizing n with
  | zero => simp [enF]
  | succ f ih => rw [enF]; split <;> simp [ih]
theorem enF_pos (f n : Nat) : 1 ≤ (enF (f + 1) n).length := by rw [enF]; split <;> simp
theorem encN_len (n : Nat) : (encN n).length ≤ 9 := enF_len 9 n
theorem encN_pos (n : Nat) : 1 ≤ (encN n).length := enF_pos 8 n
/-- What is read: a number, how many bytes it takes, an error's number. -/
def dn (l : List UInt8) : Nat → Nat → Nat → Nat × Nat × Nat
  | 0, _, _ => (0, 0, 4)
  | f + 1, i, acc =>
    if l.length ≤ i then (0, 0, 3)
    else if bt l i < 128 then (if bt l i = 0 ∧ 0 < i then (0, 0, 4) else (acc + bt l i * 128 ^ i, i + 1, 0))
    else dn l f (i + 1) (acc + (bt l i - 128) * 128 ^ i)
def numD (l : List UInt8) : Nat × Nat × Nat := dn l 9 0 0
theorem dn_short {l : List UInt8} {f i acc : Nat} (h : l.length ≤ i) : dn l (f + 1) i acc = (0, 0, 3) := by rw [dn, if_pos h]
theorem dn_bad {l : List UInt8} {f i acc : Nat} (h : i < l.length) (h0 : bt l i = 0) (hi : 0 < i) : dn l (f + 1) i acc = (0, 0, 4) := by rw [dn, if_neg (by omega), if_pos (by omega), if_pos ⟨h0, hi⟩]
theorem dn_end {l : List UInt8} {f i acc : Nat} (h : i < l.length) (h0 : bt l i < 128) (hi : ¬ (bt l i = 0 ∧ 0 < i)) : dn l (f + 1) i acc = (acc + bt l i * 128 ^ i, i + 1, 0) := by rw [dn, if_neg (by omega), if_pos h0, if_neg hi]
theorem dn_go {l : List UInt8} {f i acc : Nat} (h : i < l.length) (h0 : 128 ≤ bt l i) : dn l (f + 1) i acc = dn l f (i + 1) (acc + (bt l i - 128) * 128 ^ i) := by rw [dn, if_neg (by omega), if_neg (by omega)]
theorem bt_left (a b : List UInt8) (k : Nat) (h : k < a.length) : bt (a ++ b) k = bt a k := by
  simp [bt, List.getD_eq_getElem?_getD, List.getElem?_append, h]
theorem bt_right (a b : List UInt8) (k : Nat) : bt (a ++ b) (a.length + k) = bt b k := by
  simp only [bt, List.getD_eq_getElem?_getD]
  rw [List.getElem?_append_right (by omega), Nat.add_sub_cancel_left]
theorem dn_enF (f : Nat) : ∀ (pre t : List UInt8) (n acc i : Nat), n < 128 ^ f → (0 < n ∨ i = 0) → pre.length = i → 0 < f → dn (pre ++ enF f n ++ t) f i acc = (acc + n * 128 ^ i, i + (enF f n).length, 0) := by
  induction f with
  | zero => intro _ _ _ _ _ _ _ _ h; omega
  | succ f ih =>
    intro pre t n acc i hn hp hi _
    subst hi
    by_cases h : n < 128
    · have he : enF (f + 1) n = [UInt8.ofNat n] := by rw [enF, if_pos h]
      have hb : bt (pre ++ [UInt8.ofNat n] ++ t) pre.length = n := by
        have := bt_right pre ([UInt8.ofNat n] ++ t) 0
        rw [Nat.add_zero, ← List.append_assoc] at this
        rw [this]
        simp [bt]
        omega
      rw [he, dn_end (by simp) (by omega) (by rw [hb]; omega), hb]
      rfl
    · have he : enF (f + 1) n = UInt8.ofNat (n % 128 + 128) :: enF f (n / 128) := by rw [enF, if_neg h]
      have hb : bt (pre ++ (UInt8.ofNat (n % 128 + 128) :: enF f (n / 128)) ++ t) pre.length = n % 128 + 128 := by
        have := bt_right pre ((UInt8.ofNat (n % 128 + 128) :: enF f (n / 128)) ++ t) 0
        rw [← List.append_assoc] at this
        refine Eq.trans this ?_
        simp [bt]
        omega
      have hf : 0 < f := by
        rcases Nat.eq_zero_or_pos f with h0 | h0
        · subst h0; simp at hn; omega
        · exact h0
      have hr : pre ++ (UInt8.ofNat (n % 128 + 128) :: enF f (n / 128)) ++ t = (pre ++ [UInt8.ofNat (n % 128 + 128)]) ++ enF f (n / 128) ++ t := by simp
      rw [he, dn_go (by simp) (by omega), hb, hr, ih (pre ++ [UInt8.ofNat (n % 128 + 128)]) t (n / 128) _ (pre.length + 1) (by rw [Nat.pow_succ] at hn; omega) (by omega) (by simp) hf]
      refine Prod.ext ?_ (Prod.ext ?_ rfl)
      · simp only []
        have h1 : n = 128 * (n / 128) + n % 128 := by omega
        have h2 : n % 128 + 128 - 128 = n % 128 := by omega
        rw [h2, Nat.pow_succ]
        generalize n / 128 = q at *
        generalize n % 128 = r at *
        subst h1
        rw [Nat.add_mul, Nat.mul_comm (128 ^ pre.length) 128, ← Nat.mul_assoc, Nat.mul_comm q 128]
        omega
      · simp only [List.length_cons]; omega
/-- What was written is read. -/
theorem num_enc (n : Nat) (t : List UInt8) (h : n < 128 ^ 9) : numD (encN n ++ t) = (n, (encN n).length, 0) := by
  have := dn_enF 9 [] t n 0 0 h (.inr rfl) rfl (by omega)
  simpa [numD, encN] using this
theorem dn_back (l : List UInt8) : ∀ (f i acc v k : Nat), dn l f i acc = (v, k, 0) → ∃ m, v = acc + m * 128 ^ i ∧ i < k ∧ k ≤ l.length ∧ k ≤ i + f ∧ m < 128 ^ f ∧ enF f m = (l.drop i).take (k - i) ∧ (0 < m ∨ i = 0) := by
  intro f
  induction f with
  | zero => intro i acc v k h; simp [dn] at h
  | succ f ih =>
    intro i acc v k h
    rcases Nat.lt_or_ge i l.length with hl | hl
    · have hd : l.drop i = UInt8.ofNat (bt l i) :: l.drop (i + 1) := by rw [List.drop_eq_getElem_cons hl, bt_get l i hl]; simp
      rcases Nat.lt_or_ge (bt l i) 128 with hb | hb
      · by_cases hz : bt l i = 0 ∧ 0 < i
        · rw [dn_bad hl hz.1 hz.2] at h; simp at h
        · rw [dn_end hl hb hz] at h
          simp only [Prod.mk.injEq, and_true] at h
          obtain ⟨h1, h2⟩ := h
          subst h1 h2
          refine ⟨bt l i, rfl, by omega, by omega, by omega, ?_, ?_, by omega⟩
          · rw [Nat.pow_succ]
            have := Nat.one_le_two_pow (n := 0)
            have h1 : 1 ≤ 128 ^ f := Nat.one_le_pow _ _ (by omega)
            omega
          · rw [enF, if_pos hb, hd, show i + 1 - i = 1 by omega]; rfl
      · rw [dn_go hl hb] at h
        obtain ⟨m, h1, h2, h3, h4, h5, h6, h7⟩ := ih _ _ _ _ h
        have hbl := bt_lt l i
        refine ⟨(bt l i - 128) + 128 * m, ?_, by omega, h3, by omega, ?_, ?_, by omega⟩
        · rw [h1, Nat.pow_succ, Nat.add_mul, Nat.mul_comm (128 ^ i) 128, ← Nat.mul_assoc, Nat.mul_comm m 128]; omega
        · rw [Nat.pow_succ]; omega
        · rw [enF, if_neg (by omega), show (bt l i - 128 + 128 * m) % 128 + 128 = bt l i by omega, show (bt l i - 128 + 128 * m) / 128 = m by omega, h6, hd, show k - i = (k - (i + 1)) + 1 by omega]
          rfl
    · rw [dn_short hl] at h; simp at h
/-- What was read is written as it was. -/
theorem num_back {l : List UInt8} {v k : Nat} (h : numD l = (v, k, 0)) : v < 128 ^ 9 ∧ 0 < k ∧ k ≤ l.length ∧ encN v = l.take k := by
  obtain ⟨m, h1, h2, h3, h4, h5, h6, _⟩ := dn_back l 9 0 0 v k h
  simp at h1
  subst h1
  exact ⟨h5, h2, h3, by have h7 := h6; simp at h7; exact h7⟩
/-- An error's number goes along. -/
theorem dn_err (l : List UInt8) : ∀ (f i acc : Nat), (dn l f i acc).2.2 = 0 ∨ ((dn l f i acc).1 = 0 ∧ (dn l f i acc).2.1 = 0 ∧ ((dn l f i acc).2.2 = 3 ∨ (dn l f i acc).2.2 = 4)) := by
  intro f
  induction f with
  | zero => intro i acc; right; exact ⟨rfl, rfl, .inr rfl⟩
  | succ f ih =>
    intro i acc
    rw [dn]
    split
    · right; exact ⟨rfl, rfl, .inl rfl⟩
    · split
      · split
        · right; exact ⟨rfl, rfl, .inr rfl⟩
        · left; rfl
      · exact ih _ _
end Go.Proofs.Ytpdnedgoldjghaa.WirP
