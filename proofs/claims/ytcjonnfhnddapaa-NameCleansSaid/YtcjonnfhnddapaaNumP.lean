/- Plain words on digits and numbers. No program here. -/
namespace Go.Proofs.Ytcjonnfhnddapaa.NumP

/-- A number's digits, by fuel. -/
def digL : Nat → Nat → List UInt8
  | 0, _ => []
  | f + 1, n => if n < 10 then [UInt8.ofNat (n + 48)] else digL f (n / 10) ++ [UInt8.ofNat (n % 10 + 48)]
def digs (n : Nat) : List UInt8 := digL 20 n
def isD (c : Nat) : Bool := decide (48 ≤ c ∧ c ≤ 57)
def allD (l : List UInt8) : Bool := l.all fun b => isD b.toNat
def valL (l : List UInt8) : Nat := l.foldl (fun a b => 10 * a + (b.toNat - 48)) 0
theorem valL_snoc (l : List UInt8) (b : UInt8) : valL (l ++ [b]) = 10 * valL l + (b.toNat - 48) := by simp [valL]
theorem allD_snoc (l : List UInt8) (b : UInt8) : allD (l ++ [b]) = (allD l && isD b.toNat) := by simp [allD]
theorem snoc_cases (l : List UInt8) (h : l ≠ []) : ∃ a b, l = a ++ [b] := ⟨l.dropLast, l.getLast h, (List.dropLast_concat_getLast h).symm⟩
theorem dig_toNat (d : Nat) (h : d < 10) : (UInt8.ofNat (d + 48)).toNat = d + 48 := by
  rw [UInt8.toNat_ofNat']; omega
theorem valL_lt (l : List UInt8) (h : allD l = true) : valL l < 10 ^ l.length := by
  obtain ⟨n, hn⟩ : ∃ n, n = l.length := ⟨_, rfl⟩
  induction n generalizing l with
  | zero => rw [List.eq_nil_of_length_eq_zero hn.symm]; decide
  | succ n ih =>
    obtain ⟨a, b, rfl⟩ := snoc_cases l (by rintro rfl; simp at hn)
    rw [allD_snoc, Bool.and_eq_true] at h
    have h1 := ih a h.1 (by simpa using hn)
    have h2 := h.2
    simp only [isD, decide_eq_true_eq] at h2
    rw [valL_snoc, List.length_append, List.length_singleton, Nat.pow_succ]
    omega
/-- No nought stands ahead of other digits. -/
def noLead (l : List UInt8) : Bool := decide (l.length ≤ 1 ∨ l.head? ≠ some 48)
theorem head_pos (l : List UInt8) (h : allD l = true) (hn : l ≠ []) (h0 : l.head? ≠ some 48) : 1 ≤ valL l := by
  obtain ⟨n, hl⟩ : ∃ n, n = l.length := ⟨_, rfl⟩
  induction n generalizing l with
  | zero => exact absurd (List.eq_nil_of_length_eq_zero hl.symm) hn
  | succ n ih =>
    obtain ⟨a, b, rfl⟩ := snoc_cases l hn
    rw [allD_snoc, Bool.and_eq_true] at h
    rw [valL_snoc]
    by_cases ha : a = []
    · subst ha
      have h2 := h.2
      simp only [isD, decide_eq_true_eq] at h2
      have h3 : b ≠ 48 := by simpa using h0
      have h4 : b.toNat ≠ 48 := fun e => h3 (UInt8.toNat_inj.1 (by simpa using e))
      omega
    · have h1 := ih a h.1 ha (by
        cases a with
        | nil => exact absurd rfl ha
        | cons x a => simpa using h0) (by simpa using hl)
      omega
theorem digL_valL (l : List UInt8) (h : allD l = true) (hn : l ≠ []) (h0 : noLead l = true) : ∀ f, l.length ≤ f → digL f (valL l) = l := by
  obtain ⟨n, hl⟩ : ∃ n, n = l.length := ⟨_, rfl⟩
  induction n generalizing l with
  | zero => exact absurd (List.eq_nil_of_length_eq_zero hl.symm) hn
  | succ n ih =>
    intro f hf
    obtain ⟨a, b, rfl⟩ := snoc_cases l hn
    rw [allD_snoc, Bool.and_eq_true] at h
    have h2 := h.2
    simp only [isD, decide_eq_true_eq] at h2
    obtain ⟨g, rfl⟩ : ∃ g, f = g + 1 := ⟨f - 1, by omega⟩
    have hb : UInt8.ofNat (b.toNat - 48 + 48) = b := by
      apply UInt8.toNat_inj.1
      rw [dig_toNat _ (by omega)]; omega
    rw [valL_snoc, digL]
    by_cases ha : a = []
    · subst ha
      rw [if_pos (by simp [valL]; omega)]
      simp only [valL, List.foldl_nil, Nat.mul_zero, Nat.zero_add, List.nil_append]
      rw [hb]
    · have hd : a.head? ≠ some 48 := by
        simp only [noLead, decide_eq_true_eq, List.length_append, List.length_singleton] at h0
        rcases h0 with h3 | h3
        · have : a.length = 0 := by omega
          exact absurd (List.eq_nil_of_length_eq_zero this) ha
        · cases a with
          | nil => exact absurd rfl ha
          | cons x a => simpa using h3
      have hp := head_pos a h.1 ha hd
      rw [if_neg (by omega), show (10 * valL a + (b.toNat - 48)) / 10 = valL a by omega, show (10 * valL a + (b.toNat - 48)) % 10 = b.toNat - 48 by omega, hb,
        ih a h.1 ha (by simp only [noLead, decide_eq_true_eq]; exact .inr hd) (by simpa using hl) g (by simp at hf; omega)]
theorem digL_ne (f n : Nat) : digL (f + 1) n ≠ [] := by rw [digL]; split <;> simp
theorem digL_all (f n : Nat) : allD (digL f n) = true := by
  induction f generalizing n with
  | zero => rfl
  | succ f ih =>
    rw [digL]
    split
    · simp only [allD, List.all_cons, List.all_nil, Bool.and_true, isD, dig_toNat n ‹_›, decide_eq_true_eq]; omega
    · rw [allD_snoc, ih, isD, dig_toNat _ (by omega)]
      simp; omega
theorem valL_digL (f n : Nat) (h : n < 10 ^ f) : valL (digL f n) = n := by
  induction f generalizing n with
  | zero => simp at h; subst h; rfl
  | succ f ih =>
    rw [digL]
    split
    · simp only [valL, List.foldl_cons, List.foldl_nil, dig_toNat n ‹_›]; omega
    · rw [valL_snoc, ih (n / 10) (by rw [Nat.pow_succ] at h; omega), dig_toNat _ (by omega)]; omega
theorem digL_lead (f n : Nat) (h : n < 10 ^ f) (h1 : 1 ≤ n) : (digL f n).head? ≠ some 48 := by
  induction f generalizing n with
  | zero => simp at h; omega
  | succ f ih =>
    rw [digL]
    split
    · simp only [List.head?_cons, ne_eq, Option.some.injEq]
      intro e
      have := congrArg UInt8.toNat e
      rw [dig_toNat n ‹_›] at this
      simp at this; omega
    · have h2 := ih (n / 10) (by rw [Nat.pow_succ] at h; omega) (by omega)
      cases f with
      | zero => simp at h; omega
      | succ f =>
        have h3 := digL_ne f (n / 10)
        cases hx : digL (f + 1) (n / 10) with
        | nil => exact absurd hx h3
        | cons x t => rw [hx] at h2; simpa using h2
theorem digL_noLead (f n : Nat) (h : n < 10 ^ f) : noLead (digL f n) = true := by
  simp only [noLead, decide_eq_true_eq]
  rcases Nat.eq_zero_or_pos n with h0 | h0
  · subst h0
    left
    cases f with
    | zero => simp [digL]
    | succ f => simp [digL]
  · exact .inr (digL_lead f n h h0)
theorem digL_len (f n : Nat) : (digL f n).length ≤ f := by
  induction f generalizing n with
  | zero => simp [digL]
  | succ f ih =>
    rw [digL]
    split
    · simp
    · simp; exact ih _
/-- What digits say; false: they say nothing. -/
def okN (l : List UInt8) : Bool := decide (1 ≤ l.length ∧ l.length ≤ 18) && noLead l && allD l
def numV (l : List UInt8) : Nat := if okN l = true then valL l else 0
theorem digs_eq (l : List UInt8) (h1 : 1 ≤ l.length) (h2 : l.length ≤ 18) (ha : allD l = true) : (digs (valL l) = l) ↔ noLead l = true := by
  have hv := valL_lt l ha
  have hlt : valL l < 10 ^ 20 := Nat.lt_of_lt_of_le hv (Nat.pow_le_pow_right (by omega) (by omega))
  constructor
  · intro e
    rw [← e]
    exact digL_noLead 20 _ hlt
  · intro h
    exact digL_valL l ha (by rintro rfl; simp at h1) h 20 (by omega)
theorem okN_digs (n : Nat) (h : n < 10 ^ 18) : okN (digs n) = true ∧ numV (digs n) = n := by
  have h20 : n < 10 ^ 20 := Nat.lt_trans h (by decide)
  have hlen : (digs n).length ≤ 18 := by
    have e : digs n = digL 18 n := by
      have hv := valL_digL 18 n h
      have h3 := digL_valL (digL 18 n) (digL_all 18 n) (digL_ne 17 n) (digL_noLead 18 n h) 20 (Nat.le_trans (digL_len 18 n) (by omega))
      rw [hv] at h3
      exact h3
    rw [e]; exact digL_len 18 n
  have hne : 1 ≤ (digs n).length := by
    have := digL_ne 19 n
    cases hd : digs n with
    | nil => exact absurd hd this
    | cons a l => simp
  have hok : okN (digs n) = true := by
    simp only [okN, Bool.and_eq_true, decide_eq_true_eq]
    exact ⟨⟨⟨hne, hlen⟩, digL_noLead 20 n h20⟩, digL_all 20 n⟩
  exact ⟨hok, by rw [numV, if_pos hok]; exact valL_digL 20 n h20⟩
end Go.Proofs.Ytcjonnfhnddapaa.NumP
