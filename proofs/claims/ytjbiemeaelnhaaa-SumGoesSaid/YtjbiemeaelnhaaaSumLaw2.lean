import Derived.Test.YtjbiemeaelnhaaaSumLaw
import Derived.Test.YtjbiemeaelnhaaaSumQ
/- SumGoes. -/
namespace Go.Proofs.Ytjbiemeaelnhaaa.Sum
open Go.RowKit

theorem flat2 (a b : List UInt8) : flat [a, b] = a ++ b := by simp [flat]
theorem Rbb.two {w w0 : World} {A B : Option Addr} {n m c d : Nat} {a b : List UInt8} {e : TypeId} (ha : Rb w0 A n a) (hb : Rb w0 B m b) (hw : w = w0.alloc (.cells #[.slice A n c, .slice B m d] e)) (hc : n ≤ c) (hd : m ≤ d) :
    Rbb w (some ⟨w0.heap.size, 0, none⟩) 2 [a, b] := by
  subst hw
  refine ⟨rfl, by omega, fun _ => ⟨_, rfl, by simp, fun j hj => ?_⟩⟩
  have hk := Bk.new w0 e #[.slice A n c, .slice B m d]
  have hl : Below w0.heap.size w0 (w0.alloc (.cells #[.slice A n c, .slice B m d] e)) := (Below.refl _ _).alloc (Nat.le_refl _) _
  match j, hj with
  | 0, _ => exact ⟨A, n, c, by rw [addr_plain, hk.cell]; rfl, by simpa [nth] using ha.below hl, hc⟩
  | 1, _ => exact ⟨B, m, d, by rw [addr_plain, hk.cell]; rfl, by simpa [nth] using hb.below hl, hd⟩

theorem sumRuns0 (w : World) : Calls Try.prog 22 #[.slice none 0 0] w fun e w' => e = .returned (.int .u32 0) ∧ Below w.heap.size w w' :=
  (sumRuns w none 0 0 [] (Rbb.nil_ w)).mono fun _ _ ⟨h1, h2⟩ => ⟨by rw [h1]; exact congrArg _ (congrArg _ (congrArg _ sum0)), h2⟩

set_option maxHeartbeats 400000 in
theorem goes (w : World) (A B : Option Addr) (n m cap cap' : Nat) (a b : List UInt8) (ha : Rb w A n a) (hb : Rb w B m b) (hc : n ≤ cap) (hd : m ≤ cap') :
    Calls Try.prog 5 #[.slice A n cap, .slice B m cap'] w fun e w' => e = .returned (.bool true) ∧ Below w.heap.size w w' := by
  have HA := Lib.hid ha
  have HB := Lib.hid hb
  clear ha hb
  by_cases hn : 1000 < n ∨ 1000 < m
  · by_cases hn1 : 1000 < n
    all_goals
      go_enter Try.func5, Try.ntmps5
      go_wp2_with (go_at_call 13; refine (awake _).mono ?_; rintro e w1 ⟨rfl, hb1⟩)
      go_ret
      exact ⟨rfl, hb1⟩
  · have hn1 : ¬ 1000 < n := by omega
    have hm1 : ¬ 1000 < m := by omega
    clear hn
    go_enter Try.func5, Try.ntmps5
    go_wp2_with (first
      | (refine appendBytes rfl (.tmp 18) (.tmp 19) 22 rfl 5 Try.underlying22 u8info w.heap.size (.slice none 0 0) 0 [] rfl (World.ownsRow_nil _ _ _ _) A n cap a rfl HA.out (by omega) (Nat.le_refl _) ?_; intro v1 w1 ho1 hg1 hat1)
      | (refine appendBytes rfl (.tmp 20) (.tmp 21) 22 rfl 5 Try.underlying22 u8info w.heap.size v1 (0 + n) ([] ++ a) rfl ho1 B m cap' b rfl (HB.out.below (below_of_grown hg1)) (by omega) hg1.size ?_; intro v2 w2 ho2 hg2 hat2))
    have b1 : Below w.heap.size w w1 := below_of_grown hg1
    have b2 : Below w.heap.size w w2 := Below.then_grown b1 (Nat.le_refl _) hg2 (fun k hk => (ho1.lt k hk).1)
    have B2 := Lib.hid b2
    rw [List.nil_append, Nat.zero_add] at ho2
    obtain ⟨A2, c2, rfl, hc2⟩ := own_slice ho2
    have R2 := Lib.hid (Rb.of_own ho2)
    clear b1 b2 hg1 hg2 hat1 hat2 ho1 ho2
    refine (sumSeal _ A n cap a (HA.out.below B2.out) (by omega)).mono ?_
    rintro e w3 ⟨v3, rfl, ho3, hb3⟩
    obtain ⟨A3, c3, rfl, hc3⟩ := own_slice ho3
    have B3 := Lib.hid (Below.then_below B2.out hb3)
    have R3 := Lib.hid (Rb.of_own ho3)
    have R23 := Lib.hid (R2.out.below hb3)
    clear hb3 ho3 R2
    go_wp2_with fail
    refine (sumOpen _ A3 _ c3 _ R3.out hc3 (by omega)).mono ?_
    rintro e w4 ⟨A4, n4, c4, rfl, hr4, hc4, hb4⟩
    rw [SumP.opens_sealB]
    rw [SumP.opened_sealB] at hr4
    have R4 := Lib.hid hr4
    have B4 := Lib.hid (Below.then_below B3.out hb4)
    have R24 := Lib.hid (R23.out.below hb4)
    clear hr4 hb4 R23 R3
    go_wp2_with fail
    refine (sumOf _ A2 _ c2 _ R24.out).mono ?_
    rintro e w5 ⟨rfl, hb5⟩
    have B5 := Lib.hid (Below.then_below B4.out hb5)
    have R45 := Lib.hid (R4.out.below hb5)
    have HS := Lib.hid (SumP.more_more a b)
    clear hb5 R4
    go_wp2_with fail
    refine (sumOf _ A n cap a (HA.out.below B5.out)).mono ?_
    rintro e w6 ⟨rfl, hb6⟩
    have B6 := Lib.hid (Below.then_below B5.out hb6)
    have R46 := Lib.hid (R45.out.below hb6)
    clear hb6 R45
    go_wp2_with fail
    refine (sumMore (SumP.more 0 a) (SumP.more_lt _ _) _ B m cap' b (HB.out.below B6.out)).mono ?_
    rintro e w7 ⟨rfl, hb7⟩
    have B7 := Lib.hid (Below.then_below B6.out hb7)
    have R47 := Lib.hid (R46.out.below hb7)
    rw [HS.out]
    have e1 := eqI (SumP.more 0 (a ++ b))
    have e2 := flat2 a b
    clear hb7 R46
    generalize hsum : SumP.more 0 (a ++ b) = s at *
    have HSUM := Lib.hid hsum
    clear hsum
    go_wp2_with fail
    refine (sumRuns _ (some ⟨w7.heap.size, 0, none⟩) 2 2 [a, b] ?h8).mono ?_
    · exact Rbb.two (HA.out.below B7.out) (HB.out.below B7.out) rfl hc hd
    rintro e w8 ⟨rfl, hb8⟩
    have B8 := Lib.hid (Below.then_below (B7.out.alloc B7.out.size _) hb8)
    have R48 := Lib.hid ((R47.out.below ((Below.refl _ _).alloc (Nat.le_refl _) _)).below hb8)
    rw [flat2, HSUM.out]
    clear hb8 R47
    go_wp2_with fail
    refine (sumRuns0 _).mono ?_
    rintro e w9 ⟨rfl, hb9⟩
    have B9 := Lib.hid (Below.then_below B8.out hb9)
    have R49 := Lib.hid (R48.out.below hb9)
    clear hb9 R48
    go_wp2_with fail
    refine (refSame _ A4 A _ _ c4 cap _ _ R49.out (HA.out.below B9.out)).mono ?_
    rintro e w10 ⟨rfl, hb10⟩
    rw [sameB_self]
    have B10 := Lib.hid (Below.then_below B9.out hb10)
    clear hb10
    go_wp2_with fail
    refine (awake _).mono ?_
    rintro e w11 ⟨rfl, hb11⟩
    go_wp2
    go_ret
    exact ⟨rfl, Below.then_below B10.out hb11⟩
end Go.Proofs.Ytjbiemeaelnhaaa.Sum
