import GoSem.Core.Utf8
import Derived.Lib.TrimU
/- Plain words on the pieces of a text. No program here. -/
namespace Go.Proofs.Ytcjonnfhnddapaa.LetP
open Go

/-- Byte k of a text. -/
def sb (s : ByteArray) (k : Nat) : Nat := (s.get! k).toNat
theorem sb_lt (s : ByteArray) (k : Nat) : sb s k < 256 := UInt8.toNat_lt _
theorem sb_at (s : ByteArray) (k : Nat) (h : k < s.size) : (s[k]'h).toNat = sb s k := by
  simp [sb, ByteArray.get!, getElem!_pos, h]; rfl
def wid (s : ByteArray) (p : Nat) : Nat := (Utf8.decode s p).2
def rune (s : ByteArray) (p : Nat) : Nat := (Utf8.decode s p).1
def tl (s : ByteArray) (k : Nat) : Int := if k < s.size then (if sb s k / 64 = 2 then ((sb s k % 64 : Nat) : Int) else -1) else -1
theorem tl_lt (s : ByteArray) (k : Nat) : -1 ≤ tl s k ∧ tl s k < 64 := by
  unfold tl; split
  · split <;> omega
  · omega
/-- Some tails, one behind the other. -/
def sev (s : ByteArray) (p : Nat) : Nat → Nat → Int → Int
  | 0, _, x => x
  | k + 1, i, x => if tl s (p + i) < 0 then -1 else sev s p k (i + 1) (64 * x + tl s (p + i))

theorem cont_tl (s : ByteArray) (i k : Nat) : (k < s.size - i ∧ (s.get! (i + k)).toNat / 64 = 2) = (0 ≤ tl s (i + k)) := by
  unfold tl
  apply propext
  show (k < s.size - i ∧ sb s (i + k) / 64 = 2) ↔ _
  by_cases h : i + k < s.size
  · by_cases h2 : sb s (i + k) / 64 = 2
    · simp [h, h2]; omega
    · simp [h, h2]
  · simp [h]; omega
theorem tl_val (s : ByteArray) (k : Nat) (h : 0 ≤ tl s k) : tl s k = ((sb s k % 64 : Nat) : Int) := by
  unfold tl at h ⊢
  split
  · split
    · rfl
    · rename_i h1 h2; simp [h1, h2] at h
  · rename_i h1; simp [h1] at h
def val (x : Nat) : Prop := x < 55296 ∨ (57344 ≤ x ∧ x ≤ 1114111)
instance (x : Nat) : Decidable (val x) := by unfold val; exact inferInstance
def decA (c b1 b2 b3 : Nat) (a1 a2 a3 : Int) : Nat × Nat :=
    if c < 128 then (c, 1)
    else if c / 32 = 6 ∧ 0 ≤ a1 then
      (if 128 ≤ c % 32 * 64 + b1 % 64 then (c % 32 * 64 + b1 % 64, 2) else (65533, 1))
    else if c / 16 = 14 ∧ 0 ≤ a1 ∧ 0 ≤ a2 then
      (if 2048 ≤ c % 16 * 4096 + b1 % 64 * 64 + b2 % 64 ∧ val (c % 16 * 4096 + b1 % 64 * 64 + b2 % 64) then (c % 16 * 4096 + b1 % 64 * 64 + b2 % 64, 3) else (65533, 1))
    else if c / 8 = 30 ∧ 0 ≤ a1 ∧ 0 ≤ a2 ∧ 0 ≤ a3 then
      (if 65536 ≤ c % 8 * 262144 + b1 % 64 * 4096 + b2 % 64 * 64 + b3 % 64 ∧ val (c % 8 * 262144 + b1 % 64 * 4096 + b2 % 64 * 64 + b3 % 64) then (c % 8 * 262144 + b1 % 64 * 4096 + b2 % 64 * 64 + b3 % 64, 4) else (65533, 1))
    else (65533, 1)
theorem decN_A (n c b1 b2 b3 : Nat) (a1 a2 a3 : Int) (c1 : (1 < n ∧ b1 / 64 = 2) = (0 ≤ a1)) (c2 : (2 < n ∧ b2 / 64 = 2) = (0 ≤ a2)) (c3 : (3 < n ∧ b3 / 64 = 2) = (0 ≤ a3)) : Lib.decodeN n c b1 b2 b3 = decA c b1 b2 b3 a1 a2 a3 := by
  unfold Lib.decodeN decA val
  simp only [c1, c2, c3, ge_iff_le]
theorem decode_eq (s : ByteArray) (i : Nat) : Utf8.decode s i = decA (sb s i) (sb s (i + 1)) (sb s (i + 2)) (sb s (i + 3)) (tl s (i + 1)) (tl s (i + 2)) (tl s (i + 3)) := by
  rw [Lib.decode_at]
  exact decN_A _ _ _ _ _ _ _ _ (cont_tl s i 1) (cont_tl s i 2) (cont_tl s i 3)

/-- What the reference's Next tells, of a byte and three tails. -/
def sv2 (x a1 : Int) : Int := if a1 < 0 then -1 else 64 * x + a1
def sv3 (x a1 a2 : Int) : Int := if a1 < 0 then -1 else if a2 < 0 then -1 else 64 * (64 * x + a1) + a2
def sv4 (x a1 a2 a3 : Int) : Int := if a1 < 0 then -1 else if a2 < 0 then -1 else if a3 < 0 then -1 else 64 * (64 * (64 * x + a1) + a2) + a3
def nxA (c : Nat) (a1 a2 a3 : Int) : Int × Int :=
  if c < 128 then (1, c)
  else if c / 32 = 6 ∧ 128 ≤ sv2 (c % 32 : Nat) a1 then (2, sv2 (c % 32 : Nat) a1)
  else if c / 16 = 14 ∧ 2048 ≤ sv3 (c % 16 : Nat) a1 a2 ∧ (sv3 (c % 16 : Nat) a1 a2 < 55296 ∨ 57343 < sv3 (c % 16 : Nat) a1 a2) then (3, sv3 (c % 16 : Nat) a1 a2)
  else if c / 8 = 30 ∧ 65536 ≤ sv4 (c % 8 : Nat) a1 a2 a3 ∧ sv4 (c % 8 : Nat) a1 a2 a3 ≤ 1114111 then (4, sv4 (c % 8 : Nat) a1 a2 a3)
  else (1, 65533)
theorem nxA_eq (c b1 b2 b3 : Nat) (a1 a2 a3 : Int) (t1 : 0 ≤ a1 → a1 = ((b1 % 64 : Nat) : Int)) (t2 : 0 ≤ a2 → a2 = ((b2 % 64 : Nat) : Int)) (t3 : 0 ≤ a3 → a3 = ((b3 % 64 : Nat) : Int)) (l1 : -1 ≤ a1) (l2 : -1 ≤ a2) (l3 : -1 ≤ a3) (hc : c < 256) :
    nxA c a1 a2 a3 = (((decA c b1 b2 b3 a1 a2 a3).2 : Int), ((decA c b1 b2 b3 a1 a2 a3).1 : Int)) := by
  unfold nxA decA sv2 sv3 sv4
  by_cases h1 : c < 128
  · simp [h1]
  · simp only [h1, if_false]
    by_cases n1 : a1 < 0
    · have m1 : ¬ 0 ≤ a1 := by omega
      simp [n1, m1]
    · have m1 : 0 ≤ a1 := by omega
      have v1 := t1 m1
      simp only [n1, m1, if_false, and_true, true_and]
      by_cases g2 : c / 32 = 6
      · have g3 : ¬ c / 16 = 14 := by omega
        have g4 : ¬ c / 8 = 30 := by omega
        simp only [g2, g3, g4, true_and, false_and, if_true, if_false]
        by_cases h2 : 128 ≤ c % 32 * 64 + b1 % 64
        · have h3 : 128 ≤ 64 * ((c % 32 : Nat) : Int) + a1 := by omega
          simp only [h2, h3, if_true, Prod.mk.injEq]; omega
        · have h3 : ¬ 128 ≤ 64 * ((c % 32 : Nat) : Int) + a1 := by omega
          simp only [h2, h3, if_false]; rfl
      · simp only [g2, false_and, if_false]
        by_cases n2 : a2 < 0
        · have m2 : ¬ 0 ≤ a2 := by omega
          simp [n2, m2]
        · have m2 : 0 ≤ a2 := by omega
          have v2 := t2 m2
          simp only [n2, m2, if_false, and_true, true_and]
          by_cases g3 : c / 16 = 14
          · have g4 : ¬ c / 8 = 30 := by omega
            simp only [g3, g4, true_and, false_and, if_true, if_false]
            have hv : (2048 ≤ c % 16 * 4096 + b1 % 64 * 64 + b2 % 64 ∧ val (c % 16 * 4096 + b1 % 64 * 64 + b2 % 64)) ↔ (2048 ≤ 64 * (64 * ((c % 16 : Nat) : Int) + a1) + a2 ∧ (64 * (64 * ((c % 16 : Nat) : Int) + a1) + a2 < 55296 ∨ 57343 < 64 * (64 * ((c % 16 : Nat) : Int) + a1) + a2)) := by
              unfold val; omega
            by_cases h3 : (2048 ≤ 64 * (64 * ((c % 16 : Nat) : Int) + a1) + a2 ∧ (64 * (64 * ((c % 16 : Nat) : Int) + a1) + a2 < 55296 ∨ 57343 < 64 * (64 * ((c % 16 : Nat) : Int) + a1) + a2))
            · rw [if_pos h3, if_pos (hv.2 h3)]
              simp only [Prod.mk.injEq]; omega
            · rw [if_neg h3, if_neg (fun e => h3 (hv.1 e))]; rfl
          · simp only [g3, false_and, if_false]
            by_cases n3 : a3 < 0
            · have m3 : ¬ 0 ≤ a3 := by omega
              simp [n3, m3]
            · have m3 : 0 ≤ a3 := by omega
              have v3 := t3 m3
              simp only [n3, m3, if_false, and_true]
              by_cases g4 : c / 8 = 30
              · simp only [g4, true_and, if_true]
                have hv : (65536 ≤ c % 8 * 262144 + b1 % 64 * 4096 + b2 % 64 * 64 + b3 % 64 ∧ val (c % 8 * 262144 + b1 % 64 * 4096 + b2 % 64 * 64 + b3 % 64)) ↔ (65536 ≤ 64 * (64 * (64 * ((c % 8 : Nat) : Int) + a1) + a2) + a3 ∧ 64 * (64 * (64 * ((c % 8 : Nat) : Int) + a1) + a2) + a3 ≤ 1114111) := by
                  unfold val; omega
                by_cases h4 : (65536 ≤ 64 * (64 * (64 * ((c % 8 : Nat) : Int) + a1) + a2) + a3 ∧ 64 * (64 * (64 * ((c % 8 : Nat) : Int) + a1) + a2) + a3 ≤ 1114111)
                · rw [if_pos h4, if_pos (hv.2 h4)]
                  simp only [Prod.mk.injEq]; omega
                · rw [if_neg h4, if_neg (fun e => h4 (hv.1 e))]; rfl
              · simp only [g4, false_and, if_false]; rfl
def nx (s : ByteArray) (p : Nat) : Int × Int := nxA (sb s p) (tl s (p + 1)) (tl s (p + 2)) (tl s (p + 3))
theorem nx_eq (s : ByteArray) (p : Nat) : nx s p = ((wid s p : Int), (rune s p : Int)) := by
  unfold wid rune nx
  rw [decode_eq]
  exact nxA_eq _ _ _ _ _ _ _ (tl_val s _) (tl_val s _) (tl_val s _) (tl_lt s _).1 (tl_lt s _).1 (tl_lt s _).1 (sb_lt s p)
theorem wid_pos (s : ByteArray) (p : Nat) : 1 ≤ wid s p := Lib.width_pos s p
theorem wid_le (s : ByteArray) (p : Nat) : wid s p ≤ 4 := by
  unfold wid; rw [decode_eq]; unfold decA; repeat' split
  all_goals simp
theorem tl_in (s : ByteArray) (k : Nat) (h : 0 ≤ tl s k) : k < s.size := by
  unfold tl at h
  split at h
  · assumption
  · omega
theorem wid_fits (s : ByteArray) (p : Nat) (h : p < s.size) : p + wid s p ≤ s.size := by
  unfold wid; rw [decode_eq]; unfold decA
  by_cases h1 : sb s p < 128
  · rw [if_pos h1]; simp only []; omega
  · rw [if_neg h1]
    by_cases h2 : sb s p / 32 = 6 ∧ 0 ≤ tl s (p + 1)
    · rw [if_pos h2]; have := tl_in _ _ h2.2; split <;> simp <;> omega
    · rw [if_neg h2]
      by_cases h3 : sb s p / 16 = 14 ∧ 0 ≤ tl s (p + 1) ∧ 0 ≤ tl s (p + 2)
      · rw [if_pos h3]; have := tl_in _ _ h3.2.2; split <;> simp <;> omega
      · rw [if_neg h3]
        by_cases h4 : sb s p / 8 = 30 ∧ 0 ≤ tl s (p + 1) ∧ 0 ≤ tl s (p + 2) ∧ 0 ≤ tl s (p + 3)
        · rw [if_pos h4]; have := tl_in _ _ h4.2.2.2; split <;> simp <;> omega
        · rw [if_neg h4]; simp; omega
theorem rune_le (s : ByteArray) (p : Nat) : rune s p ≤ 1114111 := by
  unfold rune; rw [decode_eq]; unfold decA; repeat' split
  all_goals (try have := sb_lt s p); simp_all [val] <;> omega
end Go.Proofs.Ytcjonnfhnddapaa.LetP
