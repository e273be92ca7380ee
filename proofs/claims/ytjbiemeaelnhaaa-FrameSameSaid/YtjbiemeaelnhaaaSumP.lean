/- Plain words on 32-bit sums of bytes: bit by bit, and half a byte at a time. No program here. -/
namespace Go.Proofs.Ytjbiemeaelnhaaa.SumP

def poly : Nat := 2197175160
/-- A number's four bytes, the least first. -/
def le4 (s : Nat) : List UInt8 := [UInt8.ofNat s, UInt8.ofNat (s / 256), UInt8.ofNat (s / 65536), UInt8.ofNat (s / 16777216)]
/-- One bit. -/
def bit (r x : Nat) : Nat := if (r % 2 != x % 2) then (r / 2) ^^^ poly else r / 2
/-- k bits of x. -/
def bitsN : Nat → Nat → Nat → Nat
  | 0, r, _ => r
  | k + 1, r, x => bitsN k (bit r x) (x / 2)
theorem bitsN_succ (k r x : Nat) : bitsN (k + 1) r x = bit (bitsN k r x) (x / 2 ^ k) := by
  induction k generalizing r x with
  | zero => simp [bitsN]
  | succ k ih => rw [bitsN, ih, bitsN, Nat.div_div_eq_div_mul]; congr 2; rw [Nat.pow_succ, Nat.mul_comm]
def byte (r : Nat) (b : UInt8) : Nat := bitsN 8 r b.toNat
def run (r : Nat) (l : List UInt8) : Nat := l.foldl byte r
def more (c : Nat) (l : List UInt8) : Nat := 4294967295 - run (4294967295 - c) l
def sealB (l : List UInt8) : List UInt8 := l ++ le4 (more 0 l)
/-- The first k of the four bytes. -/
theorem le4_take (s k : Nat) (h : k < 4) : (le4 s).take (k + 1) = (le4 s).take k ++ [UInt8.ofNat (s / 256 ^ k)] := by
  match k, h with
  | 0, _ => simp [le4]
  | 1, _ => simp [le4]
  | 2, _ => simp [le4]
  | 3, _ => simp [le4]
/-- Does it open; and what comes of it. -/
def opens (l : List UInt8) : Bool := decide (4 ≤ l.length ∧ l.drop (l.length - 4) = le4 (more 0 (l.take (l.length - 4))))
def opened (l : List UInt8) : List UInt8 := if opens l = true then l.take (l.length - 4) else []
theorem le4_length (s : Nat) : (le4 s).length = 4 := rfl
theorem sealB_length (l : List UInt8) : (sealB l).length = l.length + 4 := by simp [sealB, le4]
theorem opens_short (l : List UInt8) (h : l.length < 4) : opens l = false := by simp [opens]; omega
theorem opens_iff (l : List UInt8) (h : 4 ≤ l.length) : opens l = true ↔ l = sealB (l.take (l.length - 4)) := by
  unfold opens sealB
  rw [decide_eq_true_iff]
  constructor
  · rintro ⟨_, h2⟩
    rw [← h2, List.take_append_drop]
  · intro h2
    refine ⟨h, ?_⟩
    have h3 := congrArg (List.drop (l.length - 4)) h2
    rwa [List.drop_left' (by rw [List.length_take]; omega)] at h3
theorem opens_sealB (l : List UInt8) : opens (sealB l) = true := by
  have h := sealB_length l
  rw [opens_iff _ (by omega), h, Nat.add_sub_cancel]
  simp [sealB]
theorem opened_sealB (l : List UInt8) : opened (sealB l) = l := by
  rw [opened, if_pos (opens_sealB l), sealB_length, Nat.add_sub_cancel]
  simp [sealB]
theorem opens_ne (l : List UInt8) (h : 4 ≤ l.length) (hne : sealB (l.take (l.length - 4)) ≠ l) : opens l = false := by
  rw [← Bool.not_eq_true, opens_iff l h]
  exact fun e => hne e.symm
theorem opened_no (l : List UInt8) (h : opens l = false) : opened l = [] := by simp [opened, h]
theorem opened_yes (l : List UInt8) (h : opens l = true) : opened l = l.take (l.length - 4) := by simp [opened, h]
theorem opened_length (l : List UInt8) : (opened l).length ≤ l.length := by
  unfold opened
  split
  · simp
  · simp

theorem poly_lt : poly < 2 ^ 32 := by decide
theorem bit_lt (r x : Nat) (h : r < 4294967296) : bit r x < 4294967296 := by
  unfold bit
  split
  · exact Nat.xor_lt_two_pow (n := 32) (by omega) poly_lt
  · omega
theorem bitsN_lt (k r x : Nat) (h : r < 4294967296) : bitsN k r x < 4294967296 := by
  induction k generalizing r x with
  | zero => exact h
  | succ k ih => exact ih _ _ (bit_lt r x h)
theorem run_lt (r : Nat) (l : List UInt8) (h : r < 4294967296) : run r l < 4294967296 := by
  induction l generalizing r with
  | nil => exact h
  | cons b l ih => exact ih _ (bitsN_lt _ _ _ h)
theorem run_append (r : Nat) (a b : List UInt8) : run r (a ++ b) = run (run r a) b := by simp [run]
theorem more_lt (c : Nat) (l : List UInt8) : more c l < 4294967296 := by unfold more; omega

theorem xor_mod2 (a b : Nat) : (a ^^^ b) % 2 = (a + b) % 2 := by
  have h := @Nat.xor_mod_two_eq_one a b
  omega
theorem bit_even (a b : Nat) (h : a % 2 = 0) : bit (a ^^^ b) 0 = (a / 2) ^^^ bit b 0 := by
  have h1 : (a ^^^ b) % 2 = b % 2 := by rw [xor_mod2]; omega
  unfold bit
  rw [h1, Nat.xor_div_two]
  by_cases h2 : (b % 2 != 0 % 2) = true
  · rw [if_pos h2, if_pos h2, Nat.xor_assoc]
  · rw [if_neg h2, if_neg h2]
theorem bitsN_zero_x (k r : Nat) : bitsN (k + 1) r 0 = bitsN k (bit r 0) 0 := by simp [bitsN]
theorem bitsN_high (k : Nat) : ∀ (a b : Nat), a % 2 ^ k = 0 → bitsN k (a ^^^ b) 0 = (a / 2 ^ k) ^^^ bitsN k b 0 := by
  induction k with
  | zero => intro a b _; simp [bitsN]
  | succ k ih =>
    intro a b h
    have h0 : a % 2 = 0 := Nat.mod_eq_zero_of_dvd (Nat.dvd_trans ⟨2 ^ k, by rw [Nat.pow_succ, Nat.mul_comm]⟩ (Nat.dvd_of_mod_eq_zero h))
    have h1 : a / 2 % 2 ^ k = 0 := by
      have := Nat.mod_mul_left_div_self a 2 (2 ^ k)
      rw [Nat.pow_succ] at h
      omega
    rw [bitsN_zero_x, bitsN_zero_x, bit_even a b h0, ih _ _ h1, Nat.div_div_eq_div_mul]
    congr 2
    rw [Nat.pow_succ, Nat.mul_comm]
theorem split16 (c : Nat) : c = (16 * (c / 16)) ^^^ (c % 16) := by
  apply Nat.eq_of_testBit_eq
  intro i
  rw [Nat.testBit_xor, show 16 * (c / 16) = 2 ^ 4 * (c / 2 ^ 4) from rfl, show c % 16 = c % 2 ^ 4 from rfl, Nat.testBit_two_pow_mul, Nat.testBit_mod_two_pow, Nat.testBit_div_two_pow]
  by_cases hi : i < 4
  · simp [hi, show ¬ 4 ≤ i by omega]
  · simp [hi, show 4 ≤ i by omega, show 4 + (i - 4) = i by omega, show i - 4 + 4 = i by omega]
theorem half (c : Nat) : (c / 16) ^^^ bitsN 4 (c % 16) 0 = bitsN 4 c 0 := by
  have h := bitsN_high 4 (16 * (c / 16)) (c % 16) (by omega)
  rw [← split16 c] at h
  rw [h]; congr 1; omega
theorem bit_x (r x : Nat) : bit (r ^^^ x) 0 = bit r x ^^^ (x / 2) := by
  unfold bit
  have h1 := xor_mod2 r x
  rw [Nat.xor_div_two]
  by_cases h2 : (r % 2 != x % 2) = true
  · have h3 : ((r ^^^ x) % 2 != 0 % 2) = true := by simp at h2 ⊢; omega
    rw [if_pos h2, if_pos h3, Nat.xor_assoc, Nat.xor_assoc, Nat.xor_comm (x / 2)]
  · have h3 : ¬ ((r ^^^ x) % 2 != 0 % 2) = true := by simp at h2 ⊢; omega
    rw [if_neg h2, if_neg h3]
theorem bitsN_x (k : Nat) : ∀ (r x : Nat), bitsN k (r ^^^ x) 0 = bitsN k r x ^^^ (x / 2 ^ k) := by
  induction k with
  | zero => intro r x; simp [bitsN]
  | succ k ih =>
    intro r x
    rw [bitsN_zero_x, bitsN, bit_x, ih, Nat.div_div_eq_div_mul]
    congr 2
    rw [Nat.pow_succ, Nat.mul_comm]
theorem bitsN_add (a b : Nat) : ∀ r, bitsN (a + b) r 0 = bitsN b (bitsN a r 0) 0 := by
  induction a with
  | zero => intro r; simp [bitsN]
  | succ a ih => intro r; rw [show a + 1 + b = (a + b) + 1 by omega, bitsN_zero_x, bitsN_zero_x, ih]
theorem byte_eq (r : Nat) (b : UInt8) : byte r b = bitsN 4 (bitsN 4 (r ^^^ b.toNat) 0) 0 := by
  rw [← bitsN_add, bitsN_x, Nat.div_eq_of_lt (UInt8.toNat_lt b), Nat.xor_zero]; rfl
/-- The program's step of half a byte. -/
def nib (c : Nat) : Nat := (c / 16) ^^^ bitsN 4 (c % 16) 0
theorem nib_lt (c : Nat) (h : c < 4294967296) : nib c < 4294967296 := by
  unfold nib; rw [half]; exact bitsN_lt _ _ _ h
theorem byte_nib' (r x : Nat) (h : x < 256) : bitsN 8 r x = nib (nib (r ^^^ x)) := by
  unfold nib; rw [half, half, ← bitsN_add, bitsN_x, Nat.div_eq_of_lt (by omega), Nat.xor_zero]
theorem byte_nib (r : Nat) (b : UInt8) : byte r b = nib (nib (r ^^^ b.toNat)) := by
  unfold nib; rw [half, half]; exact byte_eq r b
end Go.Proofs.Ytjbiemeaelnhaaa.SumP
