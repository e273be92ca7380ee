import Derived.Test.YtjbiemeaelnhaaaSumP
/- Plain: bits that are turned within 32 of each other are found by a sum; the sum of two, one behind the other. -/
namespace Go.Proofs.Ytjbiemeaelnhaaa.SumP

theorem more_more (a b : List UInt8) : more (more 0 a) b = more 0 (a ++ b) := by
  have h := run_lt 4294967295 a (by omega)
  simp only [more, Nat.sub_zero, run_append]
  rw [show 4294967295 - (4294967295 - run 4294967295 a) = run 4294967295 a by omega]

/-- Bits, one behind the other. -/
def runS (r : Nat) (f : Nat → Bool) : Nat → Nat
  | 0 => r
  | k + 1 => bit (runS r f k) (f k).toNat
theorem bit_mod (r x y : Nat) (h : x % 2 = y % 2) : bit r x = bit r y := by unfold bit; rw [h]
theorem runS_lt (r : Nat) (f : Nat → Bool) (k : Nat) (h : r < 4294967296) : runS r f k < 4294967296 := by
  induction k with
  | zero => exact h
  | succ k ih => exact bit_lt _ _ ih
theorem runS_congr (r : Nat) (f g : Nat → Bool) (k : Nat) (h : ∀ i, i < k → f i = g i) : runS r f k = runS r g k := by
  induction k with
  | zero => rfl
  | succ k ih => rw [runS, runS, ih (fun i hi => h i (by omega)), h k (by omega)]
theorem runS_add (r : Nat) (f : Nat → Bool) (a b : Nat) : runS r f (a + b) = runS (runS r f a) (fun i => f (a + i)) b := by
  induction b with
  | zero => rfl
  | succ b ih => rw [← Nat.add_assoc, runS, runS, ih]
theorem runS_bits (k r x : Nat) : runS r (fun i => x.testBit i) k = bitsN k r x := by
  induction k with
  | zero => rfl
  | succ k ih =>
    rw [runS, ih, bitsN_succ]
    exact bit_mod _ _ _ (by rw [Nat.toNat_testBit]; omega)

def bitOf (l : List UInt8) (i : Nat) : Bool := (l.getD (i / 8) 0).toNat.testBit (i % 8)
theorem run_bits (r : Nat) (l : List UInt8) : run r l = runS r (bitOf l) (8 * l.length) := by
  induction l generalizing r with
  | nil => rfl
  | cons b l ih =>
    rw [List.length_cons, Nat.mul_add, Nat.mul_one, Nat.add_comm, runS_add]
    have h1 : runS r (bitOf (b :: l)) 8 = byte r b := by
      rw [byte, ← runS_bits]
      refine runS_congr _ _ _ _ fun i hi => ?_
      simp [bitOf, Nat.div_eq_of_lt hi, Nat.mod_eq_of_lt hi]
    have h2 : (fun i => bitOf (b :: l) (8 + i)) = bitOf l := by
      funext i
      have h3 : (8 + i) / 8 = i / 8 + 1 := by omega
      have h4 : (8 + i) % 8 = i % 8 := by omega
      simp [bitOf, h3, h4]
    rw [h1, h2]
    exact ih _

theorem bit_lin (r d : Nat) (x y : Bool) : bit (r ^^^ d) (x ^^ y).toNat = bit r x.toNat ^^^ bit d y.toNat := by
  have h1 := xor_mod2 r d
  have hb : ((x ^^ y).toNat) % 2 = (x.toNat + y.toNat) % 2 := by cases x <;> cases y <;> rfl
  unfold bit
  rw [Nat.xor_div_two, hb]
  by_cases h2 : (r % 2 != x.toNat % 2) = true <;> by_cases h3 : (d % 2 != y.toNat % 2) = true
  · have h4 : ¬ ((r ^^^ d) % 2 != (x.toNat + y.toNat) % 2) = true := by simp at h2 h3 ⊢; omega
    rw [if_pos h2, if_pos h3, if_neg h4]
    rw [Nat.xor_assoc, Nat.xor_comm (d / 2) poly, ← Nat.xor_assoc poly poly, Nat.xor_self, Nat.zero_xor]
  · have h4 : ((r ^^^ d) % 2 != (x.toNat + y.toNat) % 2) = true := by simp at h2 h3 ⊢; omega
    rw [if_pos h2, if_neg h3, if_pos h4, Nat.xor_assoc, Nat.xor_assoc, Nat.xor_comm (d / 2)]
  · have h4 : ((r ^^^ d) % 2 != (x.toNat + y.toNat) % 2) = true := by simp at h2 h3 ⊢; omega
    rw [if_neg h2, if_pos h3, if_pos h4, Nat.xor_assoc]
  · have h4 : ¬ ((r ^^^ d) % 2 != (x.toNat + y.toNat) % 2) = true := by simp at h2 h3 ⊢; omega
    rw [if_neg h2, if_neg h3, if_neg h4]
theorem runS_lin (r d : Nat) (f g : Nat → Bool) (k : Nat) : runS (r ^^^ d) (fun i => f i ^^ g i) k = runS r f k ^^^ runS d g k := by
  induction k with
  | zero => rfl
  | succ k ih => rw [runS, runS, runS, ih, bit_lin]

theorem bit_zero_inj (r s : Nat) (hr : r < 4294967296) (hs : s < 4294967296) (h : bit r 0 = bit s 0) : r = s := by
  have top : ∀ q, q < 4294967296 → (bit q 0).testBit 31 = decide (q % 2 = 1) := by
    intro q hq
    have hlo : (q / 2).testBit 31 = false := Nat.testBit_lt_two_pow (by omega)
    unfold bit
    by_cases h2 : q % 2 = 1
    · rw [if_pos (by rw [h2]; decide), Nat.testBit_xor, hlo, decide_eq_true h2]
      decide
    · rw [if_neg (by rw [show q % 2 = 0 by omega]; decide), hlo, decide_eq_false h2]
  have hp : decide (r % 2 = 1) = decide (s % 2 = 1) := by rw [← top r hr, ← top s hs, h]
  have hp2 : r % 2 = s % 2 := by
    rw [decide_eq_decide] at hp
    omega
  unfold bit at h
  rw [hp2] at h
  split at h
  · have h5 : r / 2 = s / 2 := by
      have := congrArg (· ^^^ poly) h
      simpa [Nat.xor_assoc] using this
    omega
  · omega
theorem runZ_ne (r k : Nat) (hr : r < 4294967296) (h : r ≠ 0) : runS r (fun _ => false) k ≠ 0 := by
  induction k with
  | zero => exact h
  | succ k ih =>
    rw [runS]
    intro e
    exact ih (bit_zero_inj _ 0 (runS_lt _ _ _ hr) (by omega) (by simpa [bit] using e))
theorem runZ_zero (k : Nat) : runS 0 (fun _ => false) k = 0 := by
  induction k with
  | zero => rfl
  | succ k ih => rw [runS, ih]; rfl
theorem bitsN_runZ (k r : Nat) : bitsN k r 0 = runS r (fun _ => false) k := by
  rw [← runS_bits]
  exact runS_congr _ _ _ _ fun i _ => by simp
theorem bitsN_inj (k : Nat) : ∀ r s, r < 4294967296 → s < 4294967296 → bitsN k r 0 = bitsN k s 0 → r = s := by
  induction k with
  | zero => intro r s _ _ h; exact h
  | succ k ih =>
    intro r s hr hs h
    rw [bitsN_zero_x, bitsN_zero_x] at h
    exact bit_zero_inj r s hr hs (ih _ _ (bit_lt _ _ hr) (bit_lt _ _ hs) h)

/-- The number of four bytes. -/
def word (l : List UInt8) : Nat := (l.getD 0 0).toNat + 256 * (l.getD 1 0).toNat + 65536 * (l.getD 2 0).toNat + 16777216 * (l.getD 3 0).toNat
theorem word_lt (l : List UInt8) : word l < 4294967296 := by
  unfold word
  have h0 := UInt8.toNat_lt (l.getD 0 0)
  have h1 := UInt8.toNat_lt (l.getD 1 0)
  have h2 := UInt8.toNat_lt (l.getD 2 0)
  have h3 := UInt8.toNat_lt (l.getD 3 0)
  omega
theorem word_le4 (s : Nat) (h : s < 4294967296) : word (le4 s) = s := by
  simp [word, le4]; omega
theorem le4_word (l : List UInt8) (h : l.length = 4) : le4 (word l) = l := by
  match l, h with
  | [a, b, c, d], _ =>
    have h0 := UInt8.toNat_lt a
    have h1 := UInt8.toNat_lt b
    have h2 := UInt8.toNat_lt c
    have h3 := UInt8.toNat_lt d
    simp only [word, le4, List.getD_cons_zero, List.getD_cons_succ]
    have e : ∀ (x : UInt8) (n : Nat), n % 256 = x.toNat → UInt8.ofNat n = x := fun x n hn => by
      apply UInt8.toNat_inj.1
      simpa using hn
    congr 1
    · exact e _ _ (by omega)
    · congr 1
      · exact e _ _ (by omega)
      · congr 1
        · exact e _ _ (by omega)
        · congr 1
          exact e _ _ (by omega)
theorem bitsN_mod (k r x y : Nat) (h : x % 2 ^ k = y % 2 ^ k) : bitsN k r x = bitsN k r y := by
  rw [← runS_bits, ← runS_bits]
  refine runS_congr _ _ _ _ fun i hi => ?_
  have h1 := Nat.testBit_mod_two_pow x k i
  have h2 := Nat.testBit_mod_two_pow y k i
  rw [h] at h1
  rw [h1] at h2
  simpa [hi] using h2
theorem bitsN_split (a b r x : Nat) : bitsN (a + b) r x = bitsN b (bitsN a r x) (x / 2 ^ a) := by
  induction a generalizing r x with
  | zero => simp [bitsN]
  | succ a ih =>
    rw [show a + 1 + b = (a + b) + 1 by omega, bitsN, ih, bitsN, Nat.div_div_eq_div_mul]
    congr 2
    rw [Nat.pow_succ, Nat.mul_comm]
theorem run_four (r : Nat) (l : List UInt8) (h : l.length = 4) (hr : r < 4294967296) : run r l = bitsN 32 (r ^^^ word l) 0 := by
  have hw := word_lt l
  rw [bitsN_x, Nat.div_eq_of_lt hw, Nat.xor_zero]
  match l, h, hw with
  | [a, b, c, d], _, _ =>
    have h0 := UInt8.toNat_lt a
    have h1 := UInt8.toNat_lt b
    have h2 := UInt8.toNat_lt c
    have h3 := UInt8.toNat_lt d
    simp only [run, List.foldl_cons, List.foldl_nil, byte, word, List.getD_cons_zero, List.getD_cons_succ]
    rw [show 32 = 8 + (8 + (8 + 8)) from rfl, bitsN_split, bitsN_split, bitsN_split]
    rw [bitsN_mod 8 _ (a.toNat + 256 * b.toNat + 65536 * c.toNat + 16777216 * d.toNat) a.toNat (by omega)]
    rw [bitsN_mod 8 _ ((a.toNat + 256 * b.toNat + 65536 * c.toNat + 16777216 * d.toNat) / 2 ^ 8) b.toNat (by omega)]
    rw [bitsN_mod 8 _ ((a.toNat + 256 * b.toNat + 65536 * c.toNat + 16777216 * d.toNat) / 2 ^ 8 / 2 ^ 8) c.toNat (by omega)]
    rw [bitsN_mod 8 _ ((a.toNat + 256 * b.toNat + 65536 * c.toNat + 16777216 * d.toNat) / 2 ^ 8 / 2 ^ 8 / 2 ^ 8) d.toNat (by omega)]
theorem xor_sub (r : Nat) (h : r < 4294967296) : 4294967295 - r = r ^^^ 4294967295 := by
  have hx : (BitVec.ofNat 32 r ^^^ BitVec.allOnes 32).toNat = (~~~ (BitVec.ofNat 32 r)).toNat := by rw [BitVec.xor_allOnes]
  rw [BitVec.toNat_xor, BitVec.toNat_not, BitVec.toNat_ofNat, BitVec.toNat_allOnes, Nat.mod_eq_of_lt (by omega)] at hx
  exact hx.symm
/-- What opens leaves one rest. -/
theorem opens_rest (l : List UInt8) (h4 : 4 ≤ l.length) (h : opens l = true) : run 4294967295 l = bitsN 32 4294967295 0 := by
  simp only [opens, decide_eq_true_iff] at h
  have hs : l = l.take (l.length - 4) ++ l.drop (l.length - 4) := (List.take_append_drop _ _).symm
  have hr := run_lt 4294967295 (l.take (l.length - 4)) (by omega)
  rw [hs, run_append, run_four _ _ (by rw [List.length_drop]; omega) hr, h.2, word_le4 _ (more_lt _ _)]
  congr 1
  rw [more, Nat.sub_zero, xor_sub _ hr, ← Nat.xor_assoc, Nat.xor_self, Nat.zero_xor]
/-- Bits turned within 32 of each other: what opened does not open any more. -/
theorem finds (l q : List UInt8) (n mask : Nat) (hl : q.length = l.length) (h4 : 4 ≤ l.length) (ho : opens l = true) (hm : mask ≠ 0) (hm2 : mask < 4294967296) (hn : n + 32 ≤ 8 * l.length)
    (hq : ∀ i, bitOf q i = (bitOf l i ^^ (decide (n ≤ i ∧ i < n + 32) && mask.testBit (i - n)))) : opens q = false := by
  rw [← Bool.not_eq_true]
  intro hqo
  have h1 := opens_rest l h4 ho
  have h2 := opens_rest q (by omega) hqo
  rw [← h1, run_bits, run_bits, hl] at h2
  have h3 := runS_lin 4294967295 0 (bitOf l) (fun i => decide (n ≤ i ∧ i < n + 32) && mask.testBit (i - n)) (8 * l.length)
  rw [Nat.xor_zero, ← runS_congr _ _ _ _ (fun i _ => hq i), h2] at h3
  have h5 : runS 0 (fun i => decide (n ≤ i ∧ i < n + 32) && mask.testBit (i - n)) (8 * l.length) = 0 := by
    have := congrArg (fun x => runS 4294967295 (bitOf l) (8 * l.length) ^^^ x) h3
    simpa [← Nat.xor_assoc] using this.symm
  obtain ⟨k, hk⟩ : ∃ k, 8 * l.length = n + (32 + k) := ⟨8 * l.length - n - 32, by omega⟩
  rw [hk, runS_add, runS_add] at h5
  rw [runS_congr 0 _ (fun _ => false) n (fun i hi => by simp; omega), runZ_zero] at h5
  rw [runS_congr 0 _ (fun i => mask.testBit i) 32 (fun i hi => by simp [hi])] at h5
  rw [runS_congr _ _ (fun _ => false) k (fun i _ => by simp; omega), runS_bits] at h5
  refine runZ_ne _ k ?_ ?_ h5
  · exact bitsN_lt _ _ _ (by omega)
  · have h6 := bitsN_x 32 0 mask
    rw [Nat.div_eq_of_lt hm2, Nat.xor_zero, Nat.zero_xor] at h6
    rw [← h6, bitsN_runZ]
    exact runZ_ne _ _ hm2 hm
end Go.Proofs.Ytjbiemeaelnhaaa.SumP
