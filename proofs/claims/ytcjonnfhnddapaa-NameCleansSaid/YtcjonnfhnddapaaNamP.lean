import Derived.Test.YtcjonnfhnddapaaNumD
import Derived.Test.YtcjonnfhnddapaaLetQ
/- Plain words on names: what is a name, what stands behind it, how it is quoted and made clean. No program here. -/
namespace Go.Proofs.Ytcjonnfhnddapaa.NamP
open NumP Num LetP

/-- An error's number. -/
def chk (l : List UInt8) : Nat :=
  if l = [] ∨ l = [46] ∨ l = [46, 46] ∨ 47 ∈ l ∨ 0 ∈ l then 25 else if 255 < l.length then 26 else 0
theorem chk_bad {l : List UInt8} (h : l = [] ∨ l = [46] ∨ l = [46, 46] ∨ 47 ∈ l ∨ 0 ∈ l) : chk l = 25 := by rw [chk, if_pos h]
theorem chk_long {l : List UInt8} (h : ¬ (l = [] ∨ l = [46] ∨ l = [46, 46] ∨ 47 ∈ l ∨ 0 ∈ l)) (h1 : 255 < l.length) : chk l = 26 := by rw [chk, if_neg h, if_pos h1]
theorem chk_ok {l : List UInt8} (h : ¬ (l = [] ∨ l = [46] ∨ l = [46, 46] ∨ 47 ∈ l ∨ 0 ∈ l)) (h1 : ¬ 255 < l.length) : chk l = 0 := by rw [chk, if_neg h, if_neg h1]
theorem of_chk {l : List UInt8} (h : chk l = 0) : ¬ (l = [] ∨ l = [46] ∨ l = [46, 46] ∨ 47 ∈ l ∨ 0 ∈ l) ∧ l.length ≤ 255 := by
  unfold chk at h
  split at h
  · omega
  · split at h
    · omega
    · exact ⟨‹_›, by omega⟩

/-- The first pieces that have room. -/
def fit (l : List UInt8) (m : Nat) : List UInt8 := l.take (fitF (mk l) m 0)
theorem fitF_all (s : ByteArray) (m p : Nat) (hp : p ≤ s.size) (h : s.size ≤ m) : fitF s m p = s.size := by
  obtain ⟨d, hd⟩ : ∃ d, d = s.size - p := ⟨_, rfl⟩
  induction d using Nat.strongRecOn generalizing p with
  | ind d ih =>
    by_cases h1 : p < s.size
    · have hw := wid_pos s p
      have hf := wid_fits s p h1
      rw [fitF_step s m p h1 (by omega)]
      exact ih (s.size - (p + wid s p)) (by omega) (p + wid s p) hf rfl
    · rw [fitF_stop s m p (by omega)]; omega
theorem fitF_most (s : ByteArray) (m p : Nat) (hp : p ≤ s.size) : fitF s m p ≤ max m p := by
  obtain ⟨d, hd⟩ : ∃ d, d = s.size - p := ⟨_, rfl⟩
  induction d using Nat.strongRecOn generalizing p with
  | ind d ih =>
    by_cases h1 : p < s.size ∧ p + wid s p ≤ m
    · have hw := wid_pos s p
      have hf := wid_fits s p h1.1
      rw [fitF_step s m p h1.1 h1.2]
      have := ih (s.size - (p + wid s p)) (by omega) (p + wid s p) hf rfl
      omega
    · rw [fitF_stop s m p h1]; omega
theorem fitF_full (s : ByteArray) (m p : Nat) (hp : p ≤ s.size) : fitF s m p = s.size ∨ m < fitF s m p + 4 := by
  obtain ⟨d, hd⟩ : ∃ d, d = s.size - p := ⟨_, rfl⟩
  induction d using Nat.strongRecOn generalizing p with
  | ind d ih =>
    by_cases h1 : p < s.size ∧ p + wid s p ≤ m
    · have hw := wid_pos s p
      have hf := wid_fits s p h1.1
      rw [fitF_step s m p h1.1 h1.2]
      exact ih (s.size - (p + wid s p)) (by omega) (p + wid s p) hf rfl
    · rw [fitF_stop s m p h1]
      have := wid_le s p
      omega
theorem fit_all {l : List UInt8} {m : Nat} (h : l.length ≤ m) : fit l m = l := by
  rw [fit, fitF_all _ _ _ (Nat.zero_le _) (show (mk l).size ≤ m from h), mk_size, List.take_length]
theorem fit_length (l : List UInt8) (m : Nat) : (fit l m).length = fitF (mk l) m 0 := by
  rw [fit, List.length_take, Nat.min_eq_left]
  exact (fitF_le (mk l) m 0 (Nat.zero_le _)).2
theorem fit_most (l : List UInt8) (m : Nat) : (fit l m).length ≤ m := by
  rw [fit_length]
  have := fitF_most (mk l) m 0 (Nat.zero_le _)
  omega
theorem fit_full (l : List UInt8) (m : Nat) : fit l m = l ∨ m < (fit l m).length + 4 := by
  rw [fit_length]
  rcases fitF_full (mk l) m 0 (Nat.zero_le _) with h | h
  · left
    rw [fit, h, mk_size, List.take_length]
  · exact .inr h
theorem fit_mem {l : List UInt8} {m : Nat} {c : UInt8} (h : c ∈ fit l m) : c ∈ l := List.mem_of_mem_take h

/-- A name with a number behind it. -/
def sfx (l : List UInt8) (k : Int) : List UInt8 := fit l (254 - (digs (max k 2).toNat).length) ++ [126] ++ digs (max k 2).toNat
theorem digs_len (n : Nat) : (digs n).length ≤ 20 := digL_len 20 n
theorem digs_pos (n : Nat) : 1 ≤ (digs n).length := by
  have := digL_ne 19 n
  cases hd : digs n with
  | nil => exact absurd hd this
  | cons a l => simp
theorem digs_D (n : Nat) (c : UInt8) (h : c ∈ digs n) : 48 ≤ c.toNat ∧ c.toNat ≤ 57 := by
  have := digL_all 20 n
  simp only [allD, List.all_eq_true] at this
  have := this c h
  simpa [isD] using this
theorem digs_inj (a b : Nat) (ha : a < 10 ^ 20) (hb : b < 10 ^ 20) (h : digs a = digs b) : a = b := by
  rw [← valL_digL 20 a ha, ← valL_digL 20 b hb]
  exact congrArg valL h
theorem sfx_length (l : List UInt8) (k : Int) : (sfx l k).length = (fit l (254 - (digs (max k 2).toNat).length)).length + 1 + (digs (max k 2).toNat).length := by simp [sfx]; omega
theorem sfx_most (l : List UInt8) (k : Int) : (sfx l k).length ≤ 255 := by
  have h1 := fit_most l (254 - (digs (max k 2).toNat).length)
  have h2 := digs_len (max k 2).toNat
  rw [sfx_length]
  omega
theorem mem_ne {c : UInt8} {l : List UInt8} {P : UInt8 → Prop} (h : ∀ x ∈ l, P x) (hc : ¬ P c) : c ∉ l := fun hm => hc (h c hm)
theorem chk_sfx (l : List UInt8) (k : Int) (h : chk l = 0) : chk (sfx l k) = 0 := by
  obtain ⟨h1, _⟩ := of_chk h
  have hd := digs_pos (max k 2).toNat
  have hD := digs_D (max k 2).toNat
  refine chk_ok (fun hx => ?_) (by have := sfx_most l k; omega)
  have mem : ∀ c : UInt8, c ∈ sfx l k → c ∈ l ∨ c = 126 ∨ (48 ≤ c.toNat ∧ c.toNat ≤ 57) := by
    intro c hc
    simp only [sfx, List.mem_append, List.mem_singleton] at hc
    rcases hc with (hc | hc) | hc
    · exact .inl (fit_mem hc)
    · exact .inr (.inl hc)
    · exact .inr (.inr (hD c hc))
  have hm : (126 : UInt8) ∈ sfx l k := by simp [sfx]
  rcases hx with hx | hx | hx | hx | hx
  · rw [hx] at hm; simp at hm
  · rw [hx] at hm; simp at hm
  · rw [hx] at hm; simp at hm
  · rcases mem 47 hx with h2 | h2 | h2
    · exact h1 (by simp [h2])
    · simp at h2
    · simp at h2
  · rcases mem 0 hx with h2 | h2 | h2
    · exact h1 (by simp [h2])
    · simp at h2
    · simp at h2

/-- The last place of '~' behind the first byte; 0: there is none. -/
def lastG (l : List UInt8) : Nat → Nat
  | 0 => 0
  | k + 1 => if bt l (k + 1) = 126 then k + 1 else lastG l k
def lst (l : List UInt8) : Nat := lastG l (l.length - 1)
theorem lastG_at (l : List UInt8) (p : Nat) : ∀ n, p ≤ n → 0 < p → bt l p = 126 → (∀ j, p < j → j ≤ n → bt l j ≠ 126) → lastG l n = p := by
  intro n
  induction n with
  | zero => intro h1 h2; omega
  | succ n ih =>
    intro h1 h2 h3 h4
    rw [lastG]
    by_cases h5 : p = n + 1
    · subst h5; rw [if_pos h3]
    · rw [if_neg (h4 (n + 1) (by omega) (Nat.le_refl _))]
      exact ih (by omega) h2 h3 (fun j hj hn => h4 j hj (by omega))
theorem lastG_no (l : List UInt8) : ∀ n, (∀ j, 0 < j → j ≤ n → bt l j ≠ 126) → lastG l n = 0 := by
  intro n
  induction n with
  | zero => intro _; rfl
  | succ n ih =>
    intro h
    rw [lastG, if_neg (h (n + 1) (by omega) (Nat.le_refl _))]
    exact ih (fun j h1 h2 => h j h1 (by omega))
theorem lst_at (l : List UInt8) (p : Nat) (h1 : p < l.length) (h2 : 0 < p) (h3 : bt l p = 126) (h4 : ∀ j, p < j → j < l.length → bt l j ≠ 126) : lst l = p :=
  lastG_at l p _ (by omega) h2 h3 (fun j hj hn => h4 j hj (by omega))
theorem lst_no (l : List UInt8) (h : ∀ j, 0 < j → j < l.length → bt l j ≠ 126) : lst l = 0 :=
  lastG_no l _ (fun j h1 h2 => h j h1 (by omega))
/-- Is there a number behind it. -/
def based (l : List UInt8) : Bool := decide (0 < lst l) && okN (l.drop (lst l + 1)) && decide (2 ≤ numV (l.drop (lst l + 1)))
def baseT (l : List UInt8) : List UInt8 := if based l = true then l.take (lst l) else l
def baseN (l : List UInt8) : Nat := if based l = true then numV (l.drop (lst l + 1)) else 0
theorem bt_left (a b : List UInt8) (k : Nat) (h : k < a.length) : bt (a ++ b) k = bt a k := by
  simp [bt, List.getD_eq_getElem?_getD, List.getElem?_append, h]
theorem bt_right (a b : List UInt8) (k : Nat) : bt (a ++ b) (a.length + k) = bt b k := by
  simp only [bt, List.getD_eq_getElem?_getD]
  rw [List.getElem?_append_right (by omega), Nat.add_sub_cancel_left]
theorem bt_mem (l : List UInt8) (k : Nat) (h : k < l.length) : ∃ c ∈ l, bt l k = c.toNat := ⟨l[k], List.getElem_mem h, bt_get l k h⟩
theorem lst_split (a d : List UInt8) (ha : 0 < a.length) (hd : ∀ c ∈ d, c ≠ 126) : lst (a ++ [126] ++ d) = a.length := by
  refine lst_at _ _ (by simp) ha ?_ fun j h1 h2 => ?_
  · rw [List.append_assoc]
    have := bt_right a ([126] ++ d) 0
    simp only [Nat.add_zero] at this
    rw [this]; rfl
  · obtain ⟨i, rfl⟩ : ∃ i, j = (a ++ [126]).length + i := ⟨j - (a ++ [126]).length, by simp; omega⟩
    rw [bt_right]
    simp at h2
    obtain ⟨c, hc, e⟩ := bt_mem d i (by omega)
    rw [e]
    intro e2
    exact hd c hc (UInt8.toNat_inj.1 e2)
theorem digs_ne (n : Nat) : ∀ c ∈ digs n, c ≠ 126 := by
  intro c hc e
  have := digs_D n c hc
  subst e
  simp at this
theorem fit_pos (l : List UInt8) (m : Nat) (h : 0 < l.length) (hm : 4 ≤ m) : 0 < (fit l m).length := by
  rcases fit_full l m with e | e
  · rw [e]; exact h
  · omega
theorem sfx_lst (l : List UInt8) (k : Int) (h : 0 < l.length) : lst (sfx l k) = (fit l (254 - (digs (max k 2).toNat).length)).length :=
  lst_split _ _ (fit_pos _ _ h (by have := digs_len (max k 2).toNat; omega)) (digs_ne _)
theorem sfx_drop (l : List UInt8) (k : Int) (h : 0 < l.length) : (sfx l k).drop (lst (sfx l k) + 1) = digs (max k 2).toNat := by
  rw [sfx_lst l k h, sfx, ← List.drop_drop]
  simp
theorem sfx_take (l : List UInt8) (k : Int) (h : 0 < l.length) : (sfx l k).take (lst (sfx l k)) = fit l (254 - (digs (max k 2).toNat).length) := by
  rw [sfx_lst l k h, sfx]
  simp
theorem sfx_inj (l : List UInt8) (k n : Int) (h : 0 < l.length) (hk : 2 ≤ k) (hn : 2 ≤ n) (hk1 : k ≤ 9223372036854775807) (hn1 : n ≤ 9223372036854775807) : sfx l k = sfx l n ↔ k = n := by
  constructor
  · intro e
    have h1 := sfx_drop l k h
    rw [e, sfx_drop l n h] at h1
    have h2 := digs_inj _ _ (Nat.lt_of_le_of_lt (show (max n 2).toNat ≤ 9223372036854775807 by omega) (by decide)) (Nat.lt_of_le_of_lt (show (max k 2).toNat ≤ 9223372036854775807 by omega) (by decide)) h1
    omega
  · rintro rfl; rfl
theorem sfx_base (l : List UInt8) (k : Int) (h : 0 < l.length) (hk : 2 ≤ k) (hk1 : k ≤ 1000000000) (hl : l.length ≤ 200) : baseT (sfx l k) = l ∧ (baseN (sfx l k) : Int) = k := by
  obtain ⟨o1, o2⟩ := okN_digs (max k 2).toNat (Nat.lt_of_le_of_lt (show (max k 2).toNat ≤ 1000000000 by omega) (by decide))
  have hb : based (sfx l k) = true := by
    rw [based, sfx_drop l k h, o1, o2, sfx_lst l k h]
    have := fit_pos l (254 - (digs (max k 2).toNat).length) h (by have := digs_len (max k 2).toNat; omega)
    simp
    omega
  refine ⟨?_, ?_⟩
  · rw [baseT, if_pos hb, sfx_take l k h, fit_all (by have := digs_len (max k 2).toNat; omega)]
  · rw [baseN, if_pos hb, sfx_drop l k h, o2]
    omega
end Go.Proofs.Ytcjonnfhnddapaa.NamP
