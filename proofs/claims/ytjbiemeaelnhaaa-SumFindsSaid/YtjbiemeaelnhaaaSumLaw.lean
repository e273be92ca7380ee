import Derived.Test.YtjbiemeaelnhaaaSumG
import Derived.Lib.SlBytesConst
/- The chapter's example. -/
namespace Go.Proofs.Ytjbiemeaelnhaaa.Sum
open Go.RowKit

def L9 : List UInt8 := [49, 50, 51, 52, 53, 54, 55, 56, 57]
theorem sum9 : SumP.more 0 L9 = 3808858755 := by decide +kernel
theorem sum0 : SumP.more 0 [] = 0 := by decide +kernel

theorem sumOf9 (w : World) (A : Option Addr) (cap : Nat) (h : Rb w A 9 L9) : Calls Try.prog 16 #[.slice A 9 cap] w fun e w' => e = .returned (.int .u32 3808858755) ∧ Below w.heap.size w w' :=
  (sumOf w A 9 cap L9 h).mono fun _ _ ⟨h1, h2⟩ => ⟨by rw [h1, sum9]; rfl, h2⟩
theorem sumOf0 (w : World) : Calls Try.prog 16 #[.slice none 0 0] w fun e w' => e = .returned (.int .u32 0) ∧ Below w.heap.size w w' :=
  (sumOf w none 0 0 [] (Rb.nil_ w)).mono fun _ _ ⟨h1, h2⟩ => ⟨by rw [h1, sum0]; rfl, h2⟩
set_option maxHeartbeats 400000 in
theorem awake (w : World) : Calls Try.prog 13 #[] w fun e w' => e = .returned (.bool true) ∧ Below w.heap.size w w' := by
  have kc := fun (w : World) (C : Array Value) (n c : Nat) => Lib.run_convert_bytes_const (P := Try.prog) w 22 5 C n c Try.underlying22 Try.underlying5
  go_enter Try.func13, Try.ntmps13
  go_wp2_with fail
  refine (sumSeal _ (some ⟨w.heap.size, 0, none⟩) 2 2 [97, 98] ?h1 (by omega)).mono ?_
  · exact Rb.new _ _ _ _ (by simp) (by simp [bytesV]) 2 rfl _
  rintro e w1 ⟨v, rfl, ho1, hb1⟩
  obtain ⟨A1, c1, rfl, hc1⟩ := own_slice ho1
  have HR := Lib.hid (Rb.of_own ho1)
  clear ho1
  go_wp2_with fail
  refine (sumOpen _ A1 _ c1 _ HR.out hc1 (by omega)).mono ?_
  rintro e w2 ⟨A2, n2, c2, rfl, hr2, hc2, hb2⟩
  rw [SumP.opens_sealB]
  rw [SumP.opened_sealB] at hr2
  go_wp2_with fail
  refine (sumOf9 _ (some ⟨w2.heap.size, 0, none⟩) 9 ?h2).mono ?_
  · exact Rb.new _ _ _ _ (by simp [L9]) (by simp [bytesV, L9]) 9 rfl _
  rintro e w3 ⟨rfl, hb3⟩
  go_wp2_with fail
  refine (sumOf0 _).mono ?_
  rintro e w4 ⟨rfl, hb4⟩
  have hab := run_bytesString (P := Try.prog) (dst := 9) Try.underlying22 Try.underlying5 Try.underlying9 (((hr2.below ((Below.refl _ _).alloc (Nat.le_refl _) _)).below hb3).below hb4) c2
  go_wp2
  go_ret
  have b2 := Below.then_below (Below.then_below ((Below.refl _ _).alloc (Nat.le_refl _) _) hb1) hb2
  exact ⟨rfl, Below.then_below (Below.then_below (b2.alloc b2.size _) hb3) hb4⟩

theorem eqI (a : Nat) : ((a : Int) == (a : Int)) = true := by simp
theorem eqB (b : Bool) : (b == b) = true := by simp
set_option maxHeartbeats 400000 in
theorem tells (w : World) (A : Option Addr) (n cap c : Nat) (l : List UInt8) (h : Rb w A n l) (hc : n ≤ cap) (hcc : c < 4294967296) :
    Calls Try.prog 3 #[.slice A n cap, .int .u32 c] w fun e w' => e = .returned (.bool true) ∧ Below w.heap.size w w' := by
  have H := Lib.hid h
  clear h
  by_cases hn : 1000 < n
  · go_enter Try.func3, Try.ntmps3
    go_wp2_with (go_at_call 13; refine (awake _).mono ?_; rintro e w1 ⟨rfl, hb1⟩)
    go_ret
    exact ⟨rfl, hb1⟩
  · go_enter Try.func3, Try.ntmps3
    go_wp2_with fail
    refine (sumOpen _ A n cap l H.out hc (by omega)).mono ?_
    rintro e w1 ⟨A1, n1, c1, rfl, hr1, hc1, hb1⟩
    have R1 := Lib.hid hr1
    clear hr1
    go_wp2_with fail
    refine (refOpen _ A n cap l (H.out.below hb1) hc (by omega)).mono ?_
    rintro e w2 ⟨A2, n2, c2, rfl, hr2, hc2, hb2⟩
    have R2 := Lib.hid hr2
    have B2 := Lib.hid (Below.then_below hb1 hb2)
    have R1 := Lib.hid (R1.out.below hb2)
    clear hr2 hb1 hb2
    have eb := eqB (SumP.opens l)
    generalize SumP.opens l = ok at *
    go_wp2_with fail
    refine (sumOf _ A n cap l (H.out.below B2.out)).mono ?_
    rintro e w3 ⟨rfl, hb3⟩
    have B3 := Lib.hid (Below.then_below B2.out hb3)
    have R13 := Lib.hid (R1.out.below hb3)
    have R23 := Lib.hid (R2.out.below hb3)
    clear hb3 R1 R2
    go_wp2_with fail
    refine (refMore 0 (by omega) _ A n cap l (H.out.below B3.out)).mono ?_
    rintro e w4 ⟨rfl, rfl⟩
    have e1 := eqI (SumP.more 0 l)
    generalize SumP.more 0 l = s at *
    go_wp2_with fail
    refine (sumMore c hcc _ A n cap l (H.out.below B3.out)).mono ?_
    rintro e w5 ⟨rfl, hb5⟩
    have B5 := Lib.hid (Below.then_below B3.out hb5)
    have R15 := Lib.hid (R13.out.below hb5)
    have R25 := Lib.hid (R23.out.below hb5)
    clear hb5 R13 R23
    go_wp2_with fail
    refine (refMore c hcc _ A n cap l (H.out.below B5.out)).mono ?_
    rintro e w6 ⟨rfl, rfl⟩
    have e2 := eqI (SumP.more c l)
    generalize SumP.more c l = s2 at *
    go_wp2_with fail
    refine (sumSeal _ A n cap l (H.out.below B5.out) (by omega)).mono ?_
    rintro e w7 ⟨v7, rfl, ho7, hb7⟩
    obtain ⟨A7, c7, rfl, hc7⟩ := own_slice ho7
    have B7 := Lib.hid (Below.then_below B5.out hb7)
    have R17 := Lib.hid (R15.out.below hb7)
    have R27 := Lib.hid (R25.out.below hb7)
    have R7 := Lib.hid (Rb.of_own ho7)
    clear hb7 R15 R25 ho7
    go_wp2_with fail
    refine (refSeal _ A n cap l (H.out.below B7.out) (by omega)).mono ?_
    rintro e w8 ⟨v8, rfl, ho8, hb8⟩
    obtain ⟨A8, c8, rfl, hc8⟩ := own_slice ho8
    have B8 := Lib.hid (Below.then_below B7.out hb8)
    have R18 := Lib.hid (R17.out.below hb8)
    have R28 := Lib.hid (R27.out.below hb8)
    have R78 := Lib.hid (R7.out.below hb8)
    have R8 := Lib.hid (Rb.of_own ho8)
    clear hb8 R17 R27 ho8 R7
    go_wp2_with fail
    refine (refSame _ A7 A8 _ _ c7 c8 _ _ R78.out R8.out).mono ?_
    rintro e w9 ⟨rfl, hb9⟩
    rw [sameB_self]
    have B9 := Lib.hid (Below.then_below B8.out hb9)
    have R19 := Lib.hid (R18.out.below hb9)
    have R29 := Lib.hid (R28.out.below hb9)
    clear hb9 R18 R28 R78 R8
    go_wp2_with fail
    refine (refSame _ A1 A2 _ _ c1 c2 _ _ R19.out R29.out).mono ?_
    rintro e w10 ⟨rfl, hb10⟩
    rw [sameB_self]
    have B10 := Lib.hid (Below.then_below B9.out hb10)
    clear hb10
    go_wp2_with fail
    refine (awake _).mono ?_
    rintro e w11 ⟨rfl, hb11⟩
    go_wp2
    go_ret
    exact ⟨rfl, Below.then_below B10.out hb11⟩
end Go.Proofs.Ytjbiemeaelnhaaa.Sum
