import Derived.Test.YtcjonnfhnddapaaNamC
import Derived.Test.YtcjonnfhnddapaaLetB
/- Suffixed, both. -/
namespace Go.Proofs.Ytcjonnfhnddapaa.Nam
open Go.RowKit NumP Num NamP

theorem mk_take (l : List UInt8) (k : Nat) : (mk l).extract 0 k = mk (l.take k) := by
  apply ByteArray.ext
  simp [mk, ByteArray.data_extract]
theorem fit_eq (l : List UInt8) (m : Int) (k : Nat) (h : m.toNat = k) : (mk l).extract 0 (LetP.fitE (mk l) m) = mk (fit l k) := by
  subst h
  exact mk_take l _
theorem fitP (w : World) (l : List UInt8) (hl : l.length ≤ 1000000) (m : Int) (k : Nat) (hm : m = (k : Int)) (hk : k ≤ 1000000) :
    Calls Try.prog 21 #[.string (mk l), .int .i64 m] w fun e w' => e = .returned (.string (mk (fit l k))) ∧ Below w.heap.size w w' := by
  subst hm
  refine (Let.letFit w (mk l) k hl (by omega) (by omega)).mono ?_
  rintro e w' ⟨rfl, hb⟩
  exact ⟨by rw [fit_eq l k k (by omega)], hb⟩
theorem fitR (w : World) (l : List UInt8) (hl : l.length ≤ 1000000) (m : Int) (k : Nat) (hm : m = (k : Int)) (hk : k ≤ 1000000) :
    Calls Try.prog 22 #[.string (mk l), .int .i64 m] w fun e w' => e = .returned (.string (mk (fit l k))) ∧ Below w.heap.size w w' := by
  subst hm
  refine (Let.refFit w (mk l) k hl (by omega) (by omega)).mono ?_
  rintro e w' ⟨rfl, hb⟩
  exact ⟨by rw [fit_eq l k k (by omega)], hb⟩
set_option maxHeartbeats 1000000 in
theorem suffixed (w : World) (l : List UInt8) (hl : l.length ≤ 1000000) (k : Int) (h0 : -9223372036854775808 ≤ k) (h1 : k ≤ 9223372036854775807) :
    Calls Try.prog 42 #[.string (mk l), .int .i64 k] w fun e w' => e = .returned (.string (mk (sfx l k))) ∧ Below w.heap.size w w' := by
  have hd := digs_len (max k 2).toNat
  have hD := Lib.hid (fun W => digits W (max k 2) (by omega) (by omega))
  have hF := Lib.hid (fun W m hm => fitP W l hl m (254 - (digs (max k 2).toNat).length) hm (by omega))
  have hA1 := mk_append [126] (digs (max k 2).toNat)
  have hA2 : mk (fit l (254 - (digs (max k 2).toNat).length)) ++ mk ([126] ++ digs (max k 2).toNat) = mk (sfx l k) := by rw [mk_append, sfx, List.append_assoc]
  have hfl := fit_most l (254 - (digs (max k 2).toNat).length)
  have z1 := mk_size (digs (max k 2).toNat)
  have z2 := mk_size (fit l (254 - (digs (max k 2).toNat).length))
  rw [← hA2, ← hA1]
  clear hA1 hA2
  generalize digs (max k 2).toNat = d at *
  generalize fit l (254 - d.length) = ft at *
  generalize mk d = t at *
  generalize mk ft = r at *
  obtain ⟨s, HSS⟩ : ∃ s, Hid (mk l = s) := ⟨_, Lib.hid rfl⟩
  rw [HSS.out] at hF ⊢
  have s0 : (ByteArray.mk #[126]).size = 1 := rfl
  have s1 : (ByteArray.mk #[126] ++ t).size = 1 + t.size := by rw [ByteArray.size_append]; rfl
  have s2 : ¬ (9223372036854775807 < (ByteArray.mk #[126]).size + t.size) := by omega
  have s3 : ¬ (9223372036854775807 < r.size + (ByteArray.mk #[126] ++ t).size) := by omega
  have hT : mk [126] ++ t = ByteArray.mk #[126] ++ t := rfl
  rw [hT]
  clear hT
  go_enter Try.func42, Try.ntmps42
  go_wp2_with fail
  refine (hD.out _).mono ?_
  rintro e w1 ⟨rfl, hb1⟩
  have B1 := Lib.hid hb1
  clear hb1
  generalize ByteArray.mk #[126] ++ t = u at *
  go_wp2_with fail
  refine (hF.out _ _ (by omega)).mono ?_
  rintro e w2 ⟨rfl, hb2⟩
  have B2 := Lib.hid (Below.then_below B1.out hb2)
  clear hb2 B1
  go_wp2
  go_ret
  exact ⟨rfl, B2.out⟩
theorem max_two (k : Int) : max k 2 = if k < 2 then 2 else k := by split <;> omega
set_option maxHeartbeats 1000000 in
theorem refSuffixed (w : World) (l : List UInt8) (hl : l.length ≤ 1000000) (k : Int) (h0 : -9223372036854775808 ≤ k) (h1 : k ≤ 9223372036854775807) :
    Calls Try.prog 43 #[.string (mk l), .int .i64 k] w fun e w' => e = .returned (.string (mk (sfx l k))) ∧ Below w.heap.size w w' := by
  have hd := digs_len (max k 2).toNat
  have hD := Lib.hid (fun W => refDigits 19 W (max k 2).toNat (by omega) (Nat.lt_of_le_of_lt (show (max k 2).toNat ≤ 9223372036854775807 by omega) (by decide)) (by omega))
  have hF := Lib.hid (fun W m hm => fitR W l hl m (254 - (digs (max k 2).toNat).length) hm (by omega))
  have hA2 : mk (fit l (254 - (digs (max k 2).toNat).length)) ++ mk [126] ++ mk (digs (max k 2).toNat) = mk (sfx l k) := by rw [mk_append, mk_append, sfx]
  have hfl := fit_most l (254 - (digs (max k 2).toNat).length)
  have z1 := mk_size (digs (max k 2).toNat)
  have z2 := mk_size (fit l (254 - (digs (max k 2).toNat).length))
  have hDG : Hid (digL (19 + 1) (max k 2).toNat = digs (max k 2).toNat) := Lib.hid rfl
  rw [hDG.out] at hD
  have hmk : (((max k 2).toNat : Nat) : Int) = max k 2 := by omega
  rw [hmk] at hD
  rw [← hA2]
  clear hA2 hDG hmk
  generalize digs (max k 2).toNat = d at *
  generalize fit l (254 - d.length) = ft at *
  generalize mk d = t at *
  generalize mk ft = r at *
  obtain ⟨s, HSS⟩ : ∃ s, Hid (mk l = s) := ⟨_, Lib.hid rfl⟩
  rw [HSS.out] at hF ⊢
  have s1 : (r ++ ByteArray.mk #[126]).size = r.size + 1 := by rw [ByteArray.size_append]; rfl
  have s2 : ¬ (9223372036854775807 < r.size + (ByteArray.mk #[126]).size) := by have : (ByteArray.mk #[126]).size = 1 := rfl; omega
  have s3 : ¬ (9223372036854775807 < (r ++ ByteArray.mk #[126]).size + t.size) := by omega
  have hT : r ++ mk [126] = r ++ ByteArray.mk #[126] := rfl
  rw [hT]
  clear hT
  by_cases hk : k < 2
  · rw [show max k 2 = 2 by omega] at hD
    go_enter Try.func43, Try.ntmps43
    go_wp2_with fail
    refine (hD.out _).mono ?_
    rintro e w1 ⟨rfl, hb1⟩
    have B1 := Lib.hid hb1
    clear hb1
    go_wp2_with fail
    refine (hF.out _ _ (by omega)).mono ?_
    rintro e w2 ⟨rfl, hb2⟩
    have B2 := Lib.hid (Below.then_below B1.out hb2)
    clear hb2 B1
    go_wp2
    go_ret
    exact ⟨rfl, B2.out⟩
  · rw [show max k 2 = k by omega] at hD
    go_enter Try.func43, Try.ntmps43
    go_wp2_with fail
    refine (hD.out _).mono ?_
    rintro e w1 ⟨rfl, hb1⟩
    have B1 := Lib.hid hb1
    clear hb1
    go_wp2_with fail
    refine (hF.out _ _ (by omega)).mono ?_
    rintro e w2 ⟨rfl, hb2⟩
    have B2 := Lib.hid (Below.then_below B1.out hb2)
    clear hb2 B1
    go_wp2
    go_ret
    exact ⟨rfl, B2.out⟩
end Go.Proofs.Ytcjonnfhnddapaa.Nam
