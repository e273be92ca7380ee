import Derived.Test.YtjbiemeaelnhaaaFrmC
/- Are two frames one: the law's, the program's. -/
namespace Go.Proofs.Ytjbiemeaelnhaaa.Frm
open Go.RowKit FrmP Sum

def areB (k f t : Int) (l : List UInt8) (k' f' t' : Int) (l' : List UInt8) : Bool := decide (k = k' ∧ f = f' ∧ t = t' ∧ l = l')
theorem areB_self (k f t : Int) (l : List UInt8) : areB k f t l k f t l = true := by simp [areB]
theorem areB_yes (k f t : Int) (l l' : List UInt8) : areB k f t l k f t l' = sameB l l' := by simp [areB, sameB]
theorem areB_no1 {k f t k' f' t' : Int} {l l' : List UInt8} (h : k ≠ k') : areB k f t l k' f' t' l' = false := by simp [areB, h]
theorem areB_no2 {k f t k' f' t' : Int} {l l' : List UInt8} (h : f ≠ f') : areB k f t l k' f' t' l' = false := by simp [areB, h]
theorem areB_no3 {k f t k' f' t' : Int} {l l' : List UInt8} (h : t ≠ t') : areB k f t l k' f' t' l' = false := by simp [areB, h]
theorem eq_no {a b : Int} (h : a ≠ b) : (a == b) = false := by simpa using h
theorem eq_yes (a : Int) : (a == a) = true := by simp
set_option maxHeartbeats 1000000 in
theorem are (w : World) (k f t : Int) (A : Option Addr) (n c : Nat) (l : List UInt8) (k' f' t' : Int) (A' : Option Addr) (n' c' : Nat) (l' : List UInt8) (h : Rb w A n l) (h' : Rb w A' n' l') :
    Calls Try.prog 30 #[frV k f t A n c, frV k' f' t' A' n' c'] w fun e w' => e = .returned (.bool (areB k f t l k' f' t' l')) ∧ Below w.heap.size w w' := by
  have b1 := (Below.refl w.heap.size w).alloc (Nat.le_refl _) (.cells #[.int .i64 k, .int .i64 f, .int .i64 t, .slice A n c] 41)
  have B := Lib.hid (b1.alloc b1.size (.cells #[.int .i64 k', .int .i64 f', .int .i64 t', .slice A' n' c'] 37))
  have HC := Lib.hid (fun W hw hw' => refSame W A A' n n' c c' l l' hw hw')
  have H := Lib.hid h
  have H' := Lib.hid h'
  clear h h' b1
  unfold frV
  by_cases hk : k = k'
  · subst hk
    have e1 := eq_yes k
    by_cases hf : f = f'
    · subst hf
      have e2 := eq_yes f
      by_cases ht : t = t'
      · subst ht
        have e3 := eq_yes t
        rw [areB_yes]
        go_enter Try.func30, Try.ntmps30
        go_wp2_with fail
        refine (HC.out _ (H.out.below B.out) (H'.out.below B.out)).mono ?_
        rintro e w1 ⟨rfl, hb1⟩
        go_wp2
        go_ret
        exact ⟨rfl, Below.then_below B.out hb1⟩
      · rw [areB_no3 ht]
        have e3 := eq_no ht
        go_enter Try.func30, Try.ntmps30
        go_wp2
        go_ret
        exact ⟨rfl, B.out⟩
    · rw [areB_no2 hf]
      have e2 := eq_no hf
      go_enter Try.func30, Try.ntmps30
      go_wp2
      go_ret
      exact ⟨rfl, B.out⟩
  · rw [areB_no1 hk]
    have e1 := eq_no hk
    go_enter Try.func30, Try.ntmps30
    go_wp2
    go_ret
    exact ⟨rfl, B.out⟩
theorem text_same (a b : List UInt8) : ((ByteArray.mk a.toArray).toList == (ByteArray.mk b.toArray).toList) = sameB a b := by
  rw [ByteArray.toList_eq, ByteArray.toList_eq, Bool.eq_iff_iff]
  simp [sameB]
theorem equal (w : World) (A : Option Addr) (n c : Nat) (l : List UInt8) (A' : Option Addr) (n' c' : Nat) (l' : List UInt8) (h : Rb w A n l) (h' : Rb w A' n' l') :
    Calls Try.prog 45 #[.slice A n c, .slice A' n' c'] w fun e w' => e = .returned (.bool (sameB l l')) ∧ Below w.heap.size w w' := by
  have e1 := run_bytesString (P := Try.prog) (dst := 9) Try.underlying22 Try.underlying5 Try.underlying9 h c
  have e2 := run_bytesString (P := Try.prog) (dst := 9) Try.underlying22 Try.underlying5 Try.underlying9 h' c'
  have e3 := Lib.hid (text_same l l')
  generalize ByteArray.mk l.toArray = s at *
  generalize ByteArray.mk l'.toArray = s' at *
  go_enter Try.func45, Try.ntmps45
  go_wp2
  go_ret
  refine ⟨?_, Below.refl _ _⟩
  rw [← e3.out]
  rfl
set_option maxHeartbeats 1000000 in
theorem same (w : World) (k f t : Int) (A : Option Addr) (n c : Nat) (l : List UInt8) (k' f' t' : Int) (A' : Option Addr) (n' c' : Nat) (l' : List UInt8) (h : Rb w A n l) (h' : Rb w A' n' l') :
    Calls Try.prog 32 #[frV k f t A n c, frV k' f' t' A' n' c'] w fun e w' => e = .returned (.bool (areB k f t l k' f' t' l')) ∧ Below w.heap.size w w' := by
  have b1 := (Below.refl w.heap.size w).alloc (Nat.le_refl _) (.cells #[.int .i64 k, .int .i64 f, .int .i64 t, .slice A n c] 41)
  have B := Lib.hid (b1.alloc b1.size (.cells #[.int .i64 k', .int .i64 f', .int .i64 t', .slice A' n' c'] 41))
  have HC := Lib.hid (fun W hw hw' => equal W A n c l A' n' c' l' hw hw')
  have H := Lib.hid h
  have H' := Lib.hid h'
  clear h h' b1
  unfold frV
  by_cases hk : k = k'
  · subst hk
    have e1 := eq_yes k
    by_cases hf : f = f'
    · subst hf
      have e2 := eq_yes f
      by_cases ht : t = t'
      · subst ht
        have e3 := eq_yes t
        rw [areB_yes]
        go_enter Try.func32, Try.ntmps32
        go_wp2_with fail
        refine (HC.out _ (H.out.below B.out) (H'.out.below B.out)).mono ?_
        rintro e w1 ⟨rfl, hb1⟩
        go_wp2
        go_ret
        exact ⟨rfl, Below.then_below B.out hb1⟩
      · rw [areB_no3 ht]
        have e3 := eq_no ht
        go_enter Try.func32, Try.ntmps32
        go_wp2
        go_ret
        exact ⟨rfl, B.out⟩
    · rw [areB_no2 hf]
      have e2 := eq_no hf
      go_enter Try.func32, Try.ntmps32
      go_wp2
      go_ret
      exact ⟨rfl, B.out⟩
  · rw [areB_no1 hk]
    have e1 := eq_no hk
    go_enter Try.func32, Try.ntmps32
    go_wp2
    go_ret
    exact ⟨rfl, B.out⟩
theorem to (w : World) (k f t : Int) (A : Option Addr) (n c : Nat) :
    Calls Try.prog 25 #[frV k f t A n c] w fun e w' => e = .returned (frV k f t A n c) ∧ Below w.heap.size w w' := by
  unfold frV
  have b0 := (Below.refl w.heap.size w).alloc (Nat.le_refl _) (.cells #[.int .i64 k, .int .i64 f, .int .i64 t, .slice A n c] 37)
  have b1 := Lib.hid (b0.alloc b0.size (.cells #[.int .i64 0, .int .i64 0, .int .i64 0, .slice none 0 0] 41))
  have k1 := Bk.new (w.alloc (.cells #[.int .i64 k, .int .i64 f, .int .i64 t, .slice A n c] 37)) 41 #[.int .i64 0, .int .i64 0, .int .i64 0, .slice none 0 0]
  have K1 := Lib.hid (k1.of_num (show _ = w.heap.size + 1 by simp))
  clear b0 k1
  go_enter Try.func25, Try.ntmps25
  go_wp2_with (refine storeWhole rfl 41 (.tmp 2) (.tmp 11) rfl (w.heap.size + 1) 41 _ #[.int .i64 k, .int .i64 f, .int .i64 t, .slice A n c] rfl rfl K1.out rfl (by kernel_rfl) (four _ _ _ _ _ _) ?_; intro w9 hb9 hg9)
  go_wp2
  refine bodyPost_ret (results_cell_row rfl _ _ (w.heap.size + 1) 41 #[.int .i64 k, .int .i64 f, .int .i64 t, .slice A n c] _ _ rfl hb9 Try.underlying41 rfl (by kernel_rfl)) rfl ⟨rfl, ?_⟩
  exact b1.out.grown hg9 b1.out.size (fun k e => by injection e with e; omega)

theorem aw1 : chk 1 0 1 ([] : List UInt8).length = 0 := by decide
theorem aw2 : err (putB 1 0 1 []) = 0 := (put_got aw1).1
theorem aw3 : err [] = 3 := by decide
theorem awGet (w : World) (A : Option Addr) (c : Nat) (h : Rb w A 8 (putB 1 0 1 [])) (hc : 8 ≤ c) :
    Calls Try.prog 28 #[.slice A 8 c] w fun e w' => ∃ A1 n1 c1, e = .returned (.tuple #[.agg #[.int .i64 1, .int .i64 0, .int .i64 1, .slice A1 n1 c1], .int .i64 0]) ∧ Rb w' A1 n1 [] ∧ n1 ≤ c1 ∧ Below w.heap.size w w' := by
  refine (get w A 8 c _ h hc (by omega)).mono ?_
  rintro e w' ⟨A1, n1, c1, rfl, h1, h2, h3⟩
  obtain ⟨g0, g1, g2, g3, g4⟩ := put_got aw1
  rw [g4] at h1
  refine ⟨A1, n1, c1, ?_, h1, h2, h3⟩
  rw [g0, g1, g2, g3]
  rfl
theorem awNone (w : World) :
    Calls Try.prog 28 #[.slice none 0 0] w fun e w' => ∃ A1 n1 c1, e = .returned (.tuple #[.agg #[.int .i64 0, .int .i64 0, .int .i64 0, .slice A1 n1 c1], .int .i64 3]) ∧ Rb w' A1 n1 [] ∧ n1 ≤ c1 ∧ Below w.heap.size w w' := by
  refine (get w none 0 0 _ (Rb.nil_ w) (Nat.le_refl _) (by omega)).mono ?_
  rintro e w' ⟨A1, n1, c1, rfl, h1, h2, h3⟩
  obtain ⟨g1, g2, g3, g4⟩ := no (l := []) (by rw [aw3]; decide)
  rw [g4] at h1
  refine ⟨A1, n1, c1, ?_, h1, h2, h3⟩
  rw [aw3, g1, g2, g3]
  rfl
set_option maxHeartbeats 1000000 in
theorem awake (w : World) : Calls Try.prog 23 #[] w fun e w' => e = .returned (.bool true) ∧ Below w.heap.size w w' := by
  go_enter Try.func23, Try.ntmps23
  go_wp2_with fail
  refine (put_ok _ 1 0 1 none 0 0 [] (Rb.nil_ _) aw1).mono ?_
  rintro e w1 ⟨v, rfl, ho1, hb1⟩
  obtain ⟨A1, c1, rfl, hc1⟩ := own_slice ho1
  have R1 := Lib.hid (Rb.of_own ho1)
  have B1 := Lib.hid hb1
  clear ho1 hb1
  go_wp2_with fail
  refine (awGet _ A1 c1 R1.out hc1).mono ?_
  rintro e w2 ⟨A2, n2, c2, rfl, hr2, hc2, hb2⟩
  have B2 := Lib.hid ((Below.then_below B1.out hb2).alloc (Below.then_below B1.out hb2).size (.cells #[.int .i64 1, .int .i64 0, .int .i64 1, .slice A2 n2 c2] 41))
  have R2 := Lib.hid (hr2.below ((Below.refl w2.heap.size w2).alloc (Nat.le_refl _) (.cells #[.int .i64 1, .int .i64 0, .int .i64 1, .slice A2 n2 c2] 41)))
  have K2 := Lib.hid (Bk.new w2 41 #[.int .i64 1, .int .i64 0, .int .i64 1, .slice A2 n2 c2])
  clear hr2 hb2 R1 B1
  go_wp2_with fail
  refine (awNone _).mono ?_
  rintro e w3 ⟨A3, n3, c3, rfl, hr3, hc3, hb3⟩
  have B3 := Lib.hid ((Below.then_below B2.out hb3).alloc (Below.then_below B2.out hb3).size (.cells #[.int .i64 0, .int .i64 0, .int .i64 0, .slice A3 n3 c3] 41))
  have b3 := (Below.refl w3.heap.size w3).alloc (Nat.le_refl _) (.cells #[.int .i64 0, .int .i64 0, .int .i64 0, .slice A3 n3 c3] 41)
  have R3 := Lib.hid ((R2.out.below hb3).below b3)
  have K3 := Lib.hid ((K2.out.below hb3 (by simp)).below b3 (by have := (K2.out.below hb3 (by simp)).lt; exact this))
  clear b3 hb3 hr3 B2 R2 K2
  have HS := Lib.hid (fun W hw => same W 1 0 1 A2 n2 c2 [] 1 0 1 none 0 0 [] hw (Rb.nil_ _))
  unfold frV at HS
  rw [areB_self] at HS
  have k0 : (w3.alloc (.cells #[.int .i64 0, .int .i64 0, .int .i64 0, .slice A3 n3 c3] 41)).cell? ⟨w2.heap.size, 0, none⟩ = some (.int .i64 1) := by rw [K3.out.cell]; rfl
  have k1 : (w3.alloc (.cells #[.int .i64 0, .int .i64 0, .int .i64 0, .slice A3 n3 c3] 41)).cell? ⟨w2.heap.size, 0 + 1, none⟩ = some (.int .i64 0) := by rw [K3.out.cell]; rfl
  have k2 : (w3.alloc (.cells #[.int .i64 0, .int .i64 0, .int .i64 0, .slice A3 n3 c3] 41)).cell? ⟨w2.heap.size, 2, none⟩ = some (.int .i64 1) := by rw [K3.out.cell]; rfl
  have k3 : (w3.alloc (.cells #[.int .i64 0, .int .i64 0, .int .i64 0, .slice A3 n3 c3] 41)).cell? ⟨w2.heap.size, 0 + 3, none⟩ = some (.slice A2 n2 c2) := by rw [K3.out.cell]; rfl
  go_wp2_with fail
  refine (HS.out _ R3.out).mono ?_
  rintro e w4 ⟨rfl, hb4⟩
  go_wp2
  go_ret
  exact ⟨rfl, Below.then_below B3.out hb4⟩
end Go.Proofs.Ytjbiemeaelnhaaa.Frm
