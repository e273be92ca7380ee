import Derived.Test.YtcjonnfhnddapaaLetP
/- Plain: the pieces of a text, and what fits. -/
namespace Go.Proofs.Ytcjonnfhnddapaa.LetP
open Go

structure Pc where
  at_ : Nat
  len : Nat
  rune : Nat
instance : Inhabited Pc := ⟨⟨0, 0, 0⟩⟩

def pf (s : ByteArray) : Nat → Nat → List Pc
  | 0, _ => []
  | f + 1, p => if p < s.size then ⟨p, wid s p, rune s p⟩ :: pf s f (p + wid s p) else []
theorem pf_more (s : ByteArray) : ∀ (f p : Nat), s.size ≤ p + f → ∀ g, f ≤ g → pf s g p = pf s f p := by
  intro f
  induction f with
  | zero =>
    intro p h g _
    cases g with
    | zero => rfl
    | succ g => exact if_neg (by omega)
  | succ f ih =>
    intro p h g hg
    obtain ⟨g, rfl⟩ : ∃ g', g = g' + 1 := ⟨g - 1, by omega⟩
    rw [pf, pf]
    split
    · have := wid_pos s p
      rw [ih _ (by omega) g (by omega)]
    · rfl
/-- The pieces from a place on. -/
def pcs (s : ByteArray) (p : Nat) : List Pc := pf s s.size p
theorem pcs_end (s : ByteArray) (p : Nat) (h : s.size ≤ p) : pcs s p = [] := by
  unfold pcs
  cases s.size with
  | zero => rfl
  | succ n => rw [pf, if_neg (by omega)]
theorem pcs_step (s : ByteArray) (p : Nat) (h : p < s.size) : pcs s p = ⟨p, wid s p, rune s p⟩ :: pcs s (p + wid s p) := by
  have hw := wid_pos s p
  have hf := wid_fits s p h
  unfold pcs
  obtain ⟨n, hn⟩ : ∃ n, s.size = n + 1 := ⟨s.size - 1, by omega⟩
  rw [hn, pf, if_pos h, pf_more s n (p + wid s p) (by omega) (n + 1) (by omega)]
theorem pcs_len (s : ByteArray) (p : Nat) : (pcs s p).length ≤ s.size - p := by
  obtain ⟨d, hd⟩ : ∃ d, d = s.size - p := ⟨_, rfl⟩
  rw [← hd]
  induction d using Nat.strongRecOn generalizing p with
  | ind d ih =>
    by_cases h : p < s.size
    · have hw := wid_pos s p
      have hf := wid_fits s p h
      rw [pcs_step s p h, List.length_cons]
      have := ih (s.size - (p + wid s p)) (by omega) (p + wid s p) rfl
      omega
    · rw [pcs_end s p (by omega)]; simp

/-- The greatest end of pieces not above m, from p on. -/
def fitG (s : ByteArray) (m : Nat) : Nat → Nat → Nat
  | 0, p => p
  | f + 1, p => if p < s.size ∧ p + wid s p ≤ m then fitG s m f (p + wid s p) else p
theorem fitG_more (s : ByteArray) (m : Nat) : ∀ (f p : Nat), s.size ≤ p + f → ∀ g, f ≤ g → fitG s m g p = fitG s m f p := by
  intro f
  induction f with
  | zero =>
    intro p h g _
    cases g with
    | zero => rfl
    | succ g => exact if_neg (by omega)
  | succ f ih =>
    intro p h g hg
    obtain ⟨g, rfl⟩ : ∃ g', g = g' + 1 := ⟨g - 1, by omega⟩
    rw [fitG, fitG]
    split
    · have := wid_pos s p
      rw [ih _ (by omega) g (by omega)]
    · rfl
def fitF (s : ByteArray) (m p : Nat) : Nat := fitG s m s.size p
theorem fitF_step (s : ByteArray) (m p : Nat) (h : p < s.size) (hm : p + wid s p ≤ m) : fitF s m p = fitF s m (p + wid s p) := by
  have hw := wid_pos s p
  unfold fitF
  obtain ⟨n, hn⟩ : ∃ n, s.size = n + 1 := ⟨s.size - 1, by omega⟩
  rw [hn, fitG, if_pos ⟨h, hm⟩, fitG_more s m n (p + wid s p) (by omega) (n + 1) (by omega)]
theorem fitF_stop (s : ByteArray) (m p : Nat) (h : ¬ (p < s.size ∧ p + wid s p ≤ m)) : fitF s m p = p := by
  unfold fitF
  cases s.size with
  | zero => rfl
  | succ n =>
    rw [fitG]
    split
    · exact absurd ‹_› h
    · rfl
/-- How many bytes the first pieces take that fit. -/
def fitE (s : ByteArray) (most : Int) : Nat := fitF s most.toNat 0
/-- The first place from p on behind which no more than m bytes stand. -/
def tailG (s : ByteArray) (m : Nat) : Nat → Nat → Nat
  | 0, p => p
  | f + 1, p => if p < s.size ∧ m < s.size - p then tailG s m f (p + wid s p) else p
theorem tailG_more (s : ByteArray) (m : Nat) : ∀ (f p : Nat), s.size ≤ p + f → ∀ g, f ≤ g → tailG s m g p = tailG s m f p := by
  intro f
  induction f with
  | zero =>
    intro p h g _
    cases g with
    | zero => rfl
    | succ g => exact if_neg (by omega)
  | succ f ih =>
    intro p h g hg
    obtain ⟨g, rfl⟩ : ∃ g', g = g' + 1 := ⟨g - 1, by omega⟩
    rw [tailG, tailG]
    split
    · have := wid_pos s p
      rw [ih _ (by omega) g (by omega)]
    · rfl
def tailF (s : ByteArray) (m p : Nat) : Nat := tailG s m s.size p
theorem tailF_step (s : ByteArray) (m p : Nat) (h : p < s.size) (hm : m < s.size - p) : tailF s m p = tailF s m (p + wid s p) := by
  have hw := wid_pos s p
  unfold tailF
  obtain ⟨n, hn⟩ : ∃ n, s.size = n + 1 := ⟨s.size - 1, by omega⟩
  rw [hn] at hm h ⊢
  rw [tailG, hn, if_pos ⟨h, hm⟩, tailG_more s m n (p + wid s p) (by omega) (n + 1) (by omega)]
theorem tailF_stop (s : ByteArray) (m p : Nat) (h : ¬ (p < s.size ∧ m < s.size - p)) : tailF s m p = p := by
  unfold tailF
  cases hn : s.size with
  | zero => rfl
  | succ n =>
    rw [tailG, if_neg h]
def tailE (s : ByteArray) (most : Int) : Nat := tailF s most.toNat 0
theorem tailF_le (s : ByteArray) (m p : Nat) (h : p ≤ s.size) : p ≤ tailF s m p ∧ tailF s m p ≤ s.size := by
  obtain ⟨d, hd⟩ : ∃ d, d = s.size - p := ⟨_, rfl⟩
  induction d using Nat.strongRecOn generalizing p with
  | ind d ih =>
    by_cases h1 : p < s.size ∧ m < s.size - p
    · have hw := wid_pos s p
      have hf := wid_fits s p h1.1
      rw [tailF_step s m p h1.1 h1.2]
      have := ih (s.size - (p + wid s p)) (by omega) (p + wid s p) (by omega) rfl
      omega
    · rw [tailF_stop s m p h1]; omega
theorem fitF_le (s : ByteArray) (m p : Nat) (h : p ≤ s.size) : p ≤ fitF s m p ∧ fitF s m p ≤ s.size := by
  obtain ⟨d, hd⟩ : ∃ d, d = s.size - p := ⟨_, rfl⟩
  induction d using Nat.strongRecOn generalizing p with
  | ind d ih =>
    by_cases h1 : p < s.size ∧ p + wid s p ≤ m
    · have hw := wid_pos s p
      have hf := wid_fits s p h1.1
      rw [fitF_step s m p h1.1 h1.2]
      have := ih (s.size - (p + wid s p)) (by omega) (p + wid s p) (by omega) rfl
      omega
    · rw [fitF_stop s m p h1]; omega
/-- Where piece k begins. -/
def st (s : ByteArray) : Nat → Nat
  | 0 => 0
  | k + 1 => if st s k < s.size then st s k + wid s (st s k) else st s k
theorem st_le (s : ByteArray) (k : Nat) : st s k ≤ s.size := by
  induction k with
  | zero => exact Nat.zero_le _
  | succ k ih =>
    rw [st]
    split
    · exact wid_fits s _ ‹_›
    · exact ih
theorem st_mono (s : ByteArray) (j k : Nat) (h : j ≤ k) : st s j ≤ st s k := by
  induction k with
  | zero => rw [Nat.le_zero.1 h]; exact Nat.le_refl _
  | succ k ih =>
    rcases Nat.lt_or_ge j (k + 1) with h1 | h1
    · have := ih (by omega)
      rw [st]
      split <;> omega
    · rw [show j = k + 1 by omega]; exact Nat.le_refl _
theorem st_drop (s : ByteArray) (k : Nat) : (pcs s 0).drop k = pcs s (st s k) := by
  induction k with
  | zero => rfl
  | succ k ih =>
    rw [← List.drop_drop, ih, st]
    split
    · rw [pcs_step s _ ‹_›]; rfl
    · rw [pcs_end s _ (by omega)]; rfl
theorem st_lt (s : ByteArray) (k : Nat) : k < (pcs s 0).length ↔ st s k < s.size := by
  have h := congrArg List.length (st_drop s k)
  rw [List.length_drop] at h
  constructor
  · intro h1
    rcases Nat.lt_or_ge (st s k) s.size with h2 | h2
    · exact h2
    · rw [pcs_end s _ h2] at h; simp at h; omega
  · intro h1
    rw [pcs_step s _ h1] at h; simp at h; omega
theorem st_end (s : ByteArray) : st s (pcs s 0).length = s.size := by
  have h1 := st_lt s (pcs s 0).length
  have h2 := st_le s (pcs s 0).length
  have h3 : ¬ st s (pcs s 0).length < s.size := fun h => absurd (h1.2 h) (by omega)
  omega
theorem tail_first (s : ByteArray) (m k : Nat) (h : ∀ j, j < k → st s j < s.size ∧ m < s.size - st s j) : tailF s m 0 = tailF s m (st s k) := by
  induction k with
  | zero => rfl
  | succ k ih =>
    have hk := h k (by omega)
    rw [ih (fun j hj => h j (by omega)), tailF_step s m _ hk.1 hk.2, st, if_pos hk.1]
theorem tail_at (s : ByteArray) (m k : Nat) (h1 : st s k = s.size ∨ s.size - st s k ≤ m) (h2 : ∀ j, k = j + 1 → m < s.size - st s j) : tailF s m 0 = st s k := by
  rw [tail_first s m k (fun j hj => ?_), tailF_stop s m _ (by omega)]
  obtain ⟨i, rfl⟩ : ∃ i, k = i + 1 := ⟨k - 1, by omega⟩
  have h3 := h2 i rfl
  have h4 := st_mono s j i (by omega)
  omega
/-- A number of no letter stands for one byte, or for three. -/
theorem wrong_len (s : ByteArray) (p : Nat) (h : rune s p = 65533) : wid s p = 1 ∨ wid s p = 3 := by
  unfold rune at h
  unfold wid
  rw [decode_eq] at h ⊢
  have hc := sb_lt s p
  unfold decA at h ⊢
  repeat' split
  all_goals simp_all
  all_goals omega
end Go.Proofs.Ytcjonnfhnddapaa.LetP
