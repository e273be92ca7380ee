import Derived.Test.YtjbiemeaelnhaaaSumQ
import Derived.Test.YtjbiemeaelnhaaaCore
/- Plain words on frames: what may be, what is put, what is got. No program here. -/
namespace Go.Proofs.Ytjbiemeaelnhaaa.FrmP

/-- An error's number. -/
def chk (k f t : Int) (n : Nat) : Nat :=
  if k < 1 ∨ 3 < k then 2 else if f < 0 ∨ 63 < f then 2 else if t < 0 ∨ 63 < t then 2 else if f = t then 2 else if 65536 < n then 6 else 0
theorem chk_ok {k f t : Int} {n : Nat} (h : chk k f t n = 0) : (1 ≤ k ∧ k ≤ 3) ∧ (0 ≤ f ∧ f ≤ 63) ∧ (0 ≤ t ∧ t ≤ 63) ∧ f ≠ t ∧ n ≤ 65536 := by
  unfold chk at h
  split at h
  · omega
  · split at h
    · omega
    · split at h
      · omega
      · split at h
        · omega
        · split at h
          · omega
          · omega
theorem chk_yes {k f t : Int} {n : Nat} (h1 : 1 ≤ k) (h2 : k ≤ 3) (h3 : 0 ≤ f) (h4 : f ≤ 63) (h5 : 0 ≤ t) (h6 : t ≤ 63) (h7 : f ≠ t) (h8 : n ≤ 65536) : chk k f t n = 0 := by
  unfold chk
  rw [if_neg (by omega), if_neg (by omega), if_neg (by omega), if_neg h7, if_neg (by omega)]
theorem chk_arg {k f t : Int} {n : Nat} (h : (k < 1 ∨ 3 < k) ∨ (f < 0 ∨ 63 < f) ∨ (t < 0 ∨ 63 < t) ∨ f = t) : chk k f t n = 2 := by
  unfold chk
  split
  · rfl
  · split
    · rfl
    · split
      · rfl
      · split
        · rfl
        · omega
theorem chk_size {k f t : Int} {n : Nat} (h1 : 1 ≤ k) (h2 : k ≤ 3) (h3 : 0 ≤ f) (h4 : f ≤ 63) (h5 : 0 ≤ t) (h6 : t ≤ 63) (h7 : f ≠ t) (h8 : 65536 < n) : chk k f t n = 6 := by
  unfold chk
  rw [if_neg (by omega), if_neg (by omega), if_neg (by omega), if_neg h7, if_pos h8]
/-- A byte of a number. -/
def u8 (k : Int) : UInt8 := UInt8.ofNat k.toNat
def putB (k f t : Int) (l : List UInt8) : List UInt8 := SumP.sealB ([1, u8 k, u8 f, u8 t] ++ l)
theorem putB_length (k f t : Int) (l : List UInt8) : (putB k f t l).length = l.length + 8 := by
  rw [putB, SumP.sealB_length]; simp
/-- What is wrong with bytes. -/
def err (l : List UInt8) : Nat :=
  if l.length < 8 then 3 else if SumP.opens l = false then 5 else if bt l 0 ≠ 1 then 4 else chk (bt l 1) (bt l 2) (bt l 3) (l.length - 8)
theorem err_short {l : List UInt8} (h : l.length < 8) : err l = 3 := by rw [err, if_pos h]
theorem err_sum {l : List UInt8} (h : 8 ≤ l.length) (ho : SumP.opens l = false) : err l = 5 := by rw [err, if_neg (by omega), if_pos ho]
theorem err_form {l : List UInt8} (h : 8 ≤ l.length) (ho : SumP.opens l = true) (h1 : bt l 0 ≠ 1) : err l = 4 := by rw [err, if_neg (by omega), if_neg (by rw [ho]; decide), if_pos h1]
theorem err_chk {l : List UInt8} (h : 8 ≤ l.length) (ho : SumP.opens l = true) (h1 : bt l 0 = 1) : err l = chk (bt l 1) (bt l 2) (bt l 3) (l.length - 8) := by
  rw [err, if_neg (by omega), if_neg (by rw [ho]; decide), if_neg (fun h => h h1)]
/-- The frame. -/
def kind (l : List UInt8) : Int := if err l = 0 then (bt l 1 : Int) else 0
def sender (l : List UInt8) : Int := if err l = 0 then (bt l 2 : Int) else 0
def goal (l : List UInt8) : Int := if err l = 0 then (bt l 3 : Int) else 0
def body (l : List UInt8) : List UInt8 := if err l = 0 then (SumP.opened l).drop 4 else []
theorem no {l : List UInt8} (h : err l ≠ 0) : kind l = 0 ∧ sender l = 0 ∧ goal l = 0 ∧ body l = [] := by
  simp [kind, sender, goal, body, h]
theorem ok {l : List UInt8} (h : err l = 0) : 8 ≤ l.length ∧ SumP.opens l = true ∧ bt l 0 = 1 ∧ chk (bt l 1) (bt l 2) (bt l 3) (l.length - 8) = 0 := by
  unfold err at h
  split at h
  · omega
  · split at h
    · omega
    · split at h
      · omega
      · refine ⟨by omega, ?_, by omega, h⟩
        cases ho : SumP.opens l with
        | true => rfl
        | false => contradiction
theorem body_length {l : List UInt8} (h : err l = 0) : (body l).length = l.length - 8 := by
  obtain ⟨h1, h2, _⟩ := ok h
  simp only [body, h, if_true, SumP.opened_yes l h2, List.length_drop, List.length_take]
  omega
theorem bt_app (a b : List UInt8) (k : Nat) (h : k < a.length) : bt (a ++ b) k = bt a k := by
  simp [bt, List.getD_eq_getElem?_getD, List.getElem?_append, h]
theorem bt_set_same (l : List UInt8) (k : Nat) (y : UInt8) (h : k < l.length) : bt (l.set k y) k = y.toNat := by
  simp [bt, List.getD_eq_getElem?_getD, h]
theorem put_bt (k f t : Int) (l : List UInt8) : bt (putB k f t l) 0 = 1 ∧ bt (putB k f t l) 1 = (u8 k).toNat ∧ bt (putB k f t l) 2 = (u8 f).toNat ∧ bt (putB k f t l) 3 = (u8 t).toNat := by
  simp [putB, SumP.sealB, bt]
theorem u8_nat {k : Int} (h0 : 0 ≤ k) (h1 : k < 256) : ((u8 k).toNat : Int) = k := by
  simp [u8]; omega
/-- What is put is got. -/
theorem put_got {k f t : Int} {l : List UInt8} (h : chk k f t l.length = 0) : err (putB k f t l) = 0 ∧ kind (putB k f t l) = k ∧ sender (putB k f t l) = f ∧ goal (putB k f t l) = t ∧ body (putB k f t l) = l := by
  obtain ⟨h1, h2, h3, h4, h5⟩ := chk_ok h
  obtain ⟨b0, b1, b2, b3⟩ := put_bt k f t l
  have hl := putB_length k f t l
  have ho : SumP.opens (putB k f t l) = true := SumP.opens_sealB _
  have e1 := u8_nat (k := k) (by omega) (by omega)
  have e2 := u8_nat (k := f) (by omega) (by omega)
  have e3 := u8_nat (k := t) (by omega) (by omega)
  have he : err (putB k f t l) = 0 := by
    rw [err_chk (by omega) ho b0, b1, b2, b3, e1, e2, e3, hl, Nat.add_sub_cancel, h]
  refine ⟨he, ?_, ?_, ?_, ?_⟩
  · rw [kind, if_pos he, b1, e1]
  · rw [sender, if_pos he, b2, e2]
  · rw [goal, if_pos he, b3, e3]
  · rw [body, if_pos he, putB, SumP.opened_sealB]
    rfl
/-- What is got is put as it was. -/
theorem got_put {l : List UInt8} (h : err l = 0) : putB (kind l) (sender l) (goal l) (body l) = l := by
  obtain ⟨h1, h2, h3, h4⟩ := ok h
  have h5 := (SumP.opens_iff l (by omega)).1 h2
  have hd : ∀ j : Nat, u8 (bt l j : Int) = UInt8.ofNat (bt l j) := fun j => by simp [u8]
  rw [kind, sender, goal, body, if_pos h, if_pos h, if_pos h, if_pos h, SumP.opened_yes l h2, putB, hd, hd, hd]
  have h6 : [1, UInt8.ofNat (bt l 1), UInt8.ofNat (bt l 2), UInt8.ofNat (bt l 3)] ++ (l.take (l.length - 4)).drop 4 = l.take (l.length - 4) := by
    have h7 : (l.take (l.length - 4)).take 4 = [1, UInt8.ofNat (bt l 1), UInt8.ofNat (bt l 2), UInt8.ofNat (bt l 3)] := by
      rw [List.take_take, Nat.min_eq_left (by omega)]
      rw [take_succ_u8 l 3 (by omega), take_succ_u8 l 2 (by omega), take_succ_u8 l 1 (by omega), take_succ_u8 l 0 (by omega), h3]
      rfl
    rw [← h7, List.take_append_drop]
  rw [h6]
  exact h5.symm
theorem got_chk {l : List UInt8} (h : err l = 0) : chk (kind l) (sender l) (goal l) (body l).length = 0 := by
  obtain ⟨h1, h2, h3, h4⟩ := ok h
  rw [body_length h, kind, sender, goal, if_pos h, if_pos h, if_pos h, h4]

theorem bitOf_set (l : List UInt8) (k : Nat) (x : Nat) (hk : k < l.length) (hx : x < 256) (i : Nat) :
    SumP.bitOf (l.set k (UInt8.ofNat (bt l k ^^^ x))) i = (SumP.bitOf l i ^^ (decide (8 * k ≤ i ∧ i < 8 * k + 8) && x.testBit (i - 8 * k))) := by
  have hb := bt_lt l k
  have hy : bt l k ^^^ x < 2 ^ 8 := Nat.xor_lt_two_pow hb hx
  unfold SumP.bitOf
  by_cases h1 : k = i / 8
  · have e1 : ((l.set k (UInt8.ofNat (bt l k ^^^ x))).getD (i / 8) 0).toNat = bt l k ^^^ x := by
      have := bt_set_same l k (UInt8.ofNat (bt l k ^^^ x)) hk
      rw [← h1]
      refine Eq.trans this ?_
      rw [UInt8.toNat_ofNat', Nat.mod_eq_of_lt hy]
    rw [e1, ← h1, show (l.getD k 0).toNat = bt l k from rfl, Nat.testBit_xor, decide_eq_true (by omega), Bool.true_and, show i - 8 * k = i % 8 by omega]
  · have e1 : (l.set k (UInt8.ofNat (bt l k ^^^ x))).getD (i / 8) 0 = l.getD (i / 8) 0 := by
      simp [List.getD_eq_getElem?_getD, h1]
    rw [e1, decide_eq_false (by omega)]
    simp
/-- One byte that is another one. -/
theorem hurt (l : List UInt8) (k x : Nat) (h4 : 4 ≤ l.length) (hk : k < l.length) (hx : x < 256) (hx0 : x ≠ 0) (ho : SumP.opens l = true) : SumP.opens (l.set k (UInt8.ofNat (bt l k ^^^ x))) = false := by
  obtain ⟨N, hN⟩ : ∃ N, N = min (8 * k) (8 * l.length - 32) := ⟨_, rfl⟩
  have hs : 8 * k - N ≤ 24 := by omega
  have hp : 2 ^ (8 * k - N) ≤ 2 ^ 24 := Nat.pow_le_pow_right (by omega) hs
  have hp0 : 0 < 2 ^ (8 * k - N) := Nat.two_pow_pos _
  refine SumP.finds l _ N (x * 2 ^ (8 * k - N)) (by simp) h4 ho (by intro e; rcases Nat.mul_eq_zero.1 e with e | e <;> omega) ?_ (by omega) fun i => ?_
  · have := Nat.mul_le_mul (show x ≤ 255 by omega) hp
    omega
  · rw [bitOf_set l k x hk hx i]
    congr 1
    rw [Nat.mul_comm x, Nat.testBit_two_pow_mul]
    by_cases h1 : 8 * k ≤ i ∧ i < 8 * k + 8
    · rw [decide_eq_true h1, decide_eq_true (show N ≤ i ∧ i < N + 32 by omega), decide_eq_true (show i - N ≥ 8 * k - N by omega), Bool.true_and, Bool.true_and, Bool.true_and, show i - N - (8 * k - N) = i - 8 * k by omega]
    · rw [decide_eq_false h1, Bool.false_and]
      by_cases h2 : N ≤ i ∧ i < N + 32
      · rw [decide_eq_true h2, Bool.true_and]
        by_cases h3 : i - N ≥ 8 * k - N
        · rw [decide_eq_true h3, Bool.true_and, eq_comm]
          refine Nat.testBit_lt_two_pow (Nat.lt_of_lt_of_le hx ?_)
          exact Nat.pow_le_pow_right (n := 2) (i := 8) (by omega) (by omega)
        · rw [decide_eq_false h3, Bool.false_and]
      · rw [decide_eq_false h2, Bool.false_and]
theorem hurt_err (k f t : Int) (l : List UInt8) (j x : Nat) (hj : j < l.length + 8) (hx : x < 256) (hx0 : x ≠ 0) : err ((putB k f t l).set j (UInt8.ofNat (bt (putB k f t l) j ^^^ x))) = 5 := by
  have hl := putB_length k f t l
  exact err_sum (by simp; omega) (hurt _ _ _ (by omega) (by omega) hx hx0 (SumP.opens_sealB _))
end Go.Proofs.Ytjbiemeaelnhaaa.FrmP
