import Derived.Test.YtcjonnfhnddapaaNamP
/- Plain words on names: quoted texts, clean names. No program here. -/
namespace Go.Proofs.Ytcjonnfhnddapaa.NamP
open NumP Num LetP

def pl (c : Nat) : Bool := decide (33 ≤ c ∧ c ≤ 126 ∧ c ≠ 37)
/-- A digit to the base 16. -/
def hx (d : Nat) : UInt8 := UInt8.ofNat (if d < 10 then d + 48 else d + 55)
def one (c : UInt8) : List UInt8 := if pl c.toNat = true then [c] else [37, hx (c.toNat / 16), hx (c.toNat % 16)]
def quote (l : List UInt8) : List UInt8 := l.flatMap one
theorem quote_snoc (l : List UInt8) (c : UInt8) : quote (l ++ [c]) = quote l ++ one c := by simp [quote]
theorem one_len (c : UInt8) : 1 ≤ (one c).length ∧ (one c).length ≤ 3 := by unfold one; split <;> simp
theorem quote_len (l : List UInt8) : (quote l).length ≤ 3 * l.length := by
  induction l with
  | nil => simp [quote]
  | cons a l ih =>
    have := (one_len a).2
    simp only [quote, List.flatMap_cons, List.length_append, List.length_cons] at ih ⊢
    omega
theorem hx_nat (d : Nat) (h : d < 16) : (hx d).toNat = if d < 10 then d + 48 else d + 55 := by
  unfold hx
  split
  · rw [UInt8.toNat_ofNat']; omega
  · rw [UInt8.toNat_ofNat']; omega
/-- All bytes can be printed. -/
def printed (l : List UInt8) : Prop := ∀ c ∈ l, 33 ≤ c.toNat ∧ c.toNat ≤ 126
theorem one_printed (c : UInt8) : printed (one c) := by
  have hc := UInt8.toNat_lt c
  unfold one
  split
  · intro x hx
    simp only [List.mem_singleton] at hx
    subst hx
    rename_i h
    simp only [pl, decide_eq_true_eq] at h
    omega
  · intro x hm
    simp only [List.mem_cons, List.not_mem_nil, or_false] at hm
    rcases hm with rfl | rfl | rfl
    · decide
    · rw [hx_nat _ (by omega)]; split <;> omega
    · rw [hx_nat _ (by omega)]; split <;> omega
theorem quote_printed (l : List UInt8) : printed (quote l) := by
  intro c hc
  simp only [quote, List.mem_flatMap] at hc
  obtain ⟨a, _, h⟩ := hc
  exact one_printed a c h
/-- The number of a digit to the base 16; 16: it is none. -/
def nib (c : Nat) : Nat := if 48 ≤ c ∧ c ≤ 57 then c - 48 else if 65 ≤ c ∧ c ≤ 70 then c - 55 else 16
theorem nib_le (c : Nat) : nib c ≤ 16 := by unfold nib; repeat' split
                                            all_goals omega
theorem nib_hx (d : Nat) (h : d < 16) : nib (hx d).toNat = d := by
  rw [hx_nat d h]
  unfold nib
  repeat' split
  all_goals omega
theorem hx_nib (c : UInt8) (h : nib c.toNat < 16) : hx (nib c.toNat) = c := by
  apply UInt8.toNat_inj.1
  rw [hx_nat _ h]
  unfold nib at h ⊢
  repeat' split
  all_goals (try simp_all) <;> omega
/-- The byte that is quoted at the head, and how many bytes that takes; 0: none is. -/
def stp (l : List UInt8) : Nat × Nat :=
  if pl (bt l 0) = true then (bt l 0, 1)
  else if bt l 0 ≠ 37 ∨ l.length ≤ 2 then (0, 0)
  else if 15 < nib (bt l 1) ∨ 15 < nib (bt l 2) then (0, 0)
  else if pl (16 * nib (bt l 1) + nib (bt l 2)) = true then (0, 0)
  else (16 * nib (bt l 1) + nib (bt l 2), 3)
def uqF : Nat → List UInt8 → List UInt8 → Option (List UInt8)
  | 0, l, acc => if l = [] then some acc else none
  | f + 1, l, acc => if l = [] then some acc else if (stp l).2 = 0 then none else uqF f (l.drop (stp l).2) (acc ++ [UInt8.ofNat (stp l).1])
/-- What a text is the quotation of. -/
def uq (l acc : List UInt8) : Option (List UInt8) := uqF l.length l acc
theorem stp_pos (l : List UInt8) : (stp l).2 = 0 ∨ 1 ≤ (stp l).2 := by omega
theorem uqF_more : ∀ (f : Nat) (l acc : List UInt8), l.length ≤ f → ∀ g, f ≤ g → uqF g l acc = uqF f l acc := by
  intro f
  induction f with
  | zero =>
    intro l acc h g _
    have : l = [] := List.eq_nil_of_length_eq_zero (by omega)
    subst this
    cases g <;> rfl
  | succ f ih =>
    intro l acc h g hg
    obtain ⟨g, rfl⟩ : ∃ g', g = g' + 1 := ⟨g - 1, by omega⟩
    rw [uqF, uqF]
    split
    · rfl
    · split
      · rfl
      · exact ih _ _ (by rw [List.length_drop]; omega) g (by omega)
theorem uq_nil (acc : List UInt8) : uq [] acc = some acc := rfl
theorem uq_none (l acc : List UInt8) (h : l ≠ []) (hs : (stp l).2 = 0) : uq l acc = none := by
  unfold uq
  cases l with
  | nil => exact absurd rfl h
  | cons a l => rw [List.length_cons, uqF, if_neg h, if_pos hs]
theorem uq_step (l acc : List UInt8) (h : l ≠ []) (hs : (stp l).2 ≠ 0) : uq l acc = uq (l.drop (stp l).2) (acc ++ [UInt8.ofNat (stp l).1]) := by
  unfold uq
  cases l with
  | nil => exact absurd rfl h
  | cons a l =>
    rw [List.length_cons, uqF, if_neg h, if_neg hs]
    exact uqF_more _ _ _ (Nat.le_refl _) l.length (by rw [List.length_drop, List.length_cons]; omega)
/-- The quotation of a byte stands at the head just where the step tells it. -/
theorem stp_one (c : UInt8) (t : List UInt8) : stp (one c ++ t) = (c.toNat, (one c).length) := by
  have hc := UInt8.toNat_lt c
  unfold one
  split
  · rename_i h
    have e : bt ([c] ++ t) 0 = c.toNat := rfl
    rw [stp, e, if_pos h]; rfl
  · rename_i h
    have e0 : bt ([37, hx (c.toNat / 16), hx (c.toNat % 16)] ++ t) 0 = 37 := rfl
    have e1 : bt ([37, hx (c.toNat / 16), hx (c.toNat % 16)] ++ t) 1 = (hx (c.toNat / 16)).toNat := rfl
    have e2 : bt ([37, hx (c.toNat / 16), hx (c.toNat % 16)] ++ t) 2 = (hx (c.toNat % 16)).toNat := rfl
    rw [stp, e0, e1, e2, nib_hx _ (by omega), nib_hx _ (by omega), show 16 * (c.toNat / 16) + c.toNat % 16 = c.toNat by omega]
    rw [if_neg (by decide), if_neg (by simp), if_neg (by omega), if_neg h]; rfl
theorem stp_is (l : List UInt8) (h : l ≠ []) (hs : (stp l).2 ≠ 0) : one (UInt8.ofNat (stp l).1) = l.take (stp l).2 ∧ (stp l).1 < 256 ∧ (stp l).2 ≤ l.length := by
  unfold stp at hs ⊢
  match l, h with
  | a :: l, _ =>
    have e0 : bt (a :: l) 0 = a.toNat := rfl
    have ha := UInt8.toNat_lt a
    rw [e0] at hs ⊢
    split at hs
    · rename_i h1
      rw [if_pos h1]
      refine ⟨?_, ha, by simp⟩
      have : UInt8.ofNat a.toNat = a := by simp
      rw [this, one, if_pos h1]; rfl
    · split at hs
      · simp at hs
      · rename_i h1 h2
        split at hs
        · simp at hs
        · rename_i h3
          split at hs
          · simp at hs
          · rename_i h4
            rw [if_neg h1, if_neg h2, if_neg h3, if_neg h4]
            match l, h2 with
            | b :: c :: l, h2 =>
              have e1 : bt (a :: b :: c :: l) 1 = b.toNat := rfl
              have e2 : bt (a :: b :: c :: l) 2 = c.toNat := rfl
              rw [e1, e2] at h3 h4 ⊢
              have hb : nib b.toNat < 16 := by omega
              have hcc : nib c.toNat < 16 := by omega
              have hn : (UInt8.ofNat (16 * nib b.toNat + nib c.toNat)).toNat = 16 * nib b.toNat + nib c.toNat := by rw [UInt8.toNat_ofNat']; omega
              have ha37 : a = 37 := UInt8.toNat_inj.1 (by simp; omega)
              refine ⟨?_, by simp only []; omega, by simp⟩
              simp only []
              rw [one, hn, if_neg h4, show (16 * nib b.toNat + nib c.toNat) / 16 = nib b.toNat by omega, show (16 * nib b.toNat + nib c.toNat) % 16 = nib c.toNat by omega, hx_nib b hb, hx_nib c hcc, ha37]
              rfl
            | [], h2 => simp at h2
            | [b], h2 => simp at h2
theorem uq_quote (l acc : List UInt8) : uq (quote l) acc = some (acc ++ l) := by
  induction l generalizing acc with
  | nil => simp [quote, uq_nil]
  | cons a l ih =>
    have h1 := (one_len a).1
    have hs := stp_one a (quote l)
    have hq : quote (a :: l) = one a ++ quote l := rfl
    rw [hq, uq_step _ _ (by intro e; have := congrArg List.length e; rw [List.length_append, List.length_nil] at this; omega) (by rw [hs]; simp only []; omega), hs]
    simp only [List.drop_left]
    rw [ih]
    simp
/-- One byte, made clean. -/
def cl (c : UInt8) : UInt8 := if c = 47 ∨ c = 0 then 95 else c
def under (l : List UInt8) : List UInt8 := if l = [] ∨ l = [46] ∨ l = [46, 46] then 95 :: l else l
/-- The name that is made of a text. -/
def clean (l : List UInt8) : List UInt8 := if fit (under (l.map cl)) 255 = [] then [95] else fit (under (l.map cl)) 255
theorem cl_ne (c : UInt8) : cl c ≠ 47 ∧ cl c ≠ 0 := by
  unfold cl
  split
  · decide
  · rename_i h
    exact ⟨fun e => h (.inl e), fun e => h (.inr e)⟩
theorem under_ne (l : List UInt8) : under l ≠ [] := by
  unfold under
  split
  · simp
  · rename_i h
    exact fun e => h (.inl e)
theorem under_len (l : List UInt8) : 0 < (under l).length := List.length_pos_iff.2 (under_ne l)
theorem clean_eq (l : List UInt8) : clean l = fit (under (l.map cl)) 255 := by
  rw [clean, if_neg]
  intro e
  have := fit_pos _ 255 (under_len (l.map cl)) (by omega)
  rw [e] at this
  simp at this
theorem under_mem (l : List UInt8) (c : UInt8) (h : c ∈ under l) : c = 95 ∨ c ∈ l := by
  unfold under at h
  split at h
  · simpa using h
  · exact .inr h
theorem clean_chk (l : List UInt8) : chk (clean l) = 0 := by
  rw [clean_eq]
  have hp := fit_pos _ 255 (under_len (l.map cl)) (by omega)
  have hm : ∀ c ∈ fit (under (l.map cl)) 255, c ≠ 47 ∧ c ≠ 0 := by
    intro c hc
    rcases under_mem _ c (fit_mem hc) with e | e
    · subst e; decide
    · obtain ⟨a, _, rfl⟩ := List.mem_map.1 e
      exact cl_ne a
  have hd : ∀ d : List UInt8, d = [46] ∨ d = [46, 46] → fit (under (l.map cl)) 255 ≠ d := by
    intro d hd e
    rcases fit_full (under (l.map cl)) 255 with e2 | e2
    · rw [e2] at e
      unfold under at e
      split at e
      · rcases hd with rfl | rfl <;> simp at e
      · rename_i h
        rcases hd with rfl | rfl
        · exact h (.inr (.inl e))
        · exact h (.inr (.inr e))
    · rw [e] at e2
      rcases hd with rfl | rfl <;> simp at e2
  refine chk_ok ?_ (by have := fit_most (under (l.map cl)) 255; omega)
  rintro (h | h | h | h | h)
  · rw [h] at hp; simp at hp
  · exact hd [46] (.inl rfl) h
  · exact hd [46, 46] (.inr rfl) h
  · exact (hm 47 h).1 rfl
  · exact (hm 0 h).2 rfl
theorem clean_name (l : List UInt8) (h : chk l = 0) : clean l = l := by
  obtain ⟨h1, h2⟩ := of_chk h
  have h3 : l.map cl = l := by
    refine (List.map_congr_left (g := id) fun c hc => ?_).trans (List.map_id l)
    rw [cl, if_neg]
    · rfl
    · rintro (rfl | rfl)
      · exact h1 (by simp [hc])
      · exact h1 (by simp [hc])
  rw [clean_eq, h3, under, if_neg (fun h => h1 (by rcases h with h | h | h <;> simp [h])), fit_all h2]
theorem clean_clean (l : List UInt8) : clean (clean l) = clean l := clean_name _ (clean_chk l)
end Go.Proofs.Ytcjonnfhnddapaa.NamP
