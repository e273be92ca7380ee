import Derived.Test.YtcjonnfhnddapaaLetD
import Derived.Deep.RegionHeld3
/- The chapter's example, and LetterFits. -/
namespace Go.Proofs.Ytcjonnfhnddapaa.Let
open Go.RowKit LetP

def S4 : ByteArray := ⟨#[226, 130, 172, 97]⟩
theorem f3 : S4.extract 0 (fitE S4 3) = ⟨#[226, 130, 172]⟩ := by decide +kernel
theorem f2 : S4.extract 0 (fitE S4 2) = ⟨#[]⟩ := by decide +kernel
theorem c4 : (pcs S4 0).length = 2 := by decide +kernel
theorem r4 : rightL (pcs S4 0) = true := by decide +kernel
theorem r3 : rightL (pcs (S4.extract 1 4) 0) = false := by decide +kernel
theorem n4 : nextP S4 0 = (0, 3, 8364) := by decide +kernel
theorem e4 : S4.extract 0 3 = ⟨#[226, 130, 172]⟩ := by decide +kernel
theorem awFit3 (W : World) : Calls Try.prog 21 #[.string ⟨#[226, 130, 172, 97]⟩, .int .i64 3] W fun e w' => e = .returned (.string ⟨#[226, 130, 172]⟩) ∧ Below W.heap.size W w' :=
  (letFit W S4 3 (by decide) (by omega) (by omega)).mono fun _ _ ⟨h1, h2⟩ => ⟨by rw [h1, f3], h2⟩
theorem awFit2 (W : World) : Calls Try.prog 21 #[.string ⟨#[226, 130, 172, 97]⟩, .int .i64 2] W fun e w' => e = .returned (.string ⟨#[]⟩) ∧ Below W.heap.size W w' :=
  (letFit W S4 2 (by decide) (by omega) (by omega)).mono fun _ _ ⟨h1, h2⟩ => ⟨by rw [h1, f2], h2⟩
theorem awCount (W : World) : Calls Try.prog 17 #[.string ⟨#[226, 130, 172, 97]⟩] W fun e w' => e = .returned (.int .i64 2) ∧ Below W.heap.size W w' :=
  (letCount W S4 (by decide)).mono fun _ _ ⟨h1, h2⟩ => ⟨by rw [h1, c4]; rfl, h2⟩
theorem awRight (W : World) : Calls Try.prog 19 #[.string ⟨#[226, 130, 172, 97]⟩] W fun e w' => e = .returned (.bool true) ∧ Below W.heap.size W w' :=
  (letRight W S4 (by decide)).mono fun _ _ ⟨h1, h2⟩ => ⟨by rw [h1, r4], h2⟩
theorem awWrong (W : World) (t : ByteArray) (ht : t = S4.extract 1 4) : Calls Try.prog 19 #[.string t] W fun e w' => e = .returned (.bool false) ∧ Below W.heap.size W w' := by
  subst ht
  exact (letRight W (S4.extract 1 4) (by decide +kernel)).mono fun _ _ ⟨h1, h2⟩ => ⟨by rw [h1, r3], h2⟩
theorem awNext (W : World) : Calls Try.prog 20 #[.string ⟨#[226, 130, 172, 97]⟩, .int .i64 0] W fun e w' => e = .returned (.agg #[.int .i64 0, .int .i64 3, .int .i64 8364]) ∧ Below W.heap.size W w' :=
  (letNext W S4 0 (by decide) (by omega) (by omega)).mono fun _ _ ⟨h1, h2⟩ => ⟨by rw [h1, n4], h2⟩

set_option maxRecDepth 100000 in
set_option maxHeartbeats 1000000 in
theorem awake (w : World) : Calls Try.prog 14 #[] w fun e w' => e = .returned (.bool true) ∧ Below w.heap.size w w' := by
  have he : ByteArray.extract ⟨#[226, 130, 172, 97]⟩ 0 3 = ⟨#[226, 130, 172]⟩ := by decide +kernel
  have hfld : ∀ W, (Instr.field 29 (.agg #[.int .i64 0, .int .i64 3, .int .i64 8364]) 2).run Try.prog W = .ok (.int .i64 8364) W := fun _ => by kernel_rfl
  have hz : ByteArray.size ⟨#[226, 130, 172, 97]⟩ = 4 := by decide +kernel
  go_enter Try.func14, Try.ntmps14
  go_wp2
  go_region_held3 (fun w' => Below w.heap.size w w')
    (first | exact Below.refl _ _ | exact (below_drewN (Below.refl _ _) 1) | assumption | exact Below.then_below ‹_› ‹_›)
    (first
      | (go_at_call 21; (with_reducible refine (awFit3 _).mono ?_); rintro e w2 ⟨rfl, hb2⟩)
      | (go_at_call 21; (with_reducible refine (awFit2 _).mono ?_); rintro e w2 ⟨rfl, hb2⟩)
      | (go_at_call 17; (with_reducible refine (awCount _).mono ?_); rintro e w2 ⟨rfl, hb2⟩)
      | (go_at_call 19; (with_reducible refine (awRight _).mono ?_); rintro e w2 ⟨rfl, hb2⟩)
      | (go_at_call 19; (with_reducible refine (awWrong _ _ (by decide +kernel)).mono ?_); rintro e w2 ⟨rfl, hb2⟩)
      | (go_at_call 20; (with_reducible refine (awNext _).mono ?_); rintro e w2 ⟨rfl, hb2⟩))
  go_wp2
  go_ret
  exact ⟨rfl, by assumption⟩
set_option maxRecDepth 100000 in
set_option maxHeartbeats 1000000 in
theorem fits (w : World) (s : ByteArray) (most : Int) (hm0 : -9223372036854775808 ≤ most) (hm1 : most ≤ 9223372036854775807) (hmx : s.size ≤ 9223372036854775807) :
    Calls Try.prog 4 #[.string s, .int .i64 most] w fun e w' => e = .returned (.bool true) ∧ Below w.heap.size w w' := by
  by_cases hbig : 400 < s.size
  · go_enter Try.func4, Try.ntmps4
    go_wp2_with (go_at_call 14; refine (awake _).mono ?_; rintro e w1 ⟨rfl, hb1⟩)
    go_ret
    exact ⟨rfl, hb1⟩
  have hs : s.size ≤ 1000000 := by omega
  go_enter Try.func4, Try.ntmps4
  go_wp2_with fail
  refine (letFit _ s most hs hm0 hm1).mono ?_
  rintro e w2 ⟨rfl, hb2⟩
  go_wp2_with fail
  refine (refFit _ s most hs hm0 hm1).mono ?_
  rintro e w3 ⟨rfl, hb3⟩
  generalize s.extract 0 (fitE s most) = t at *
  go_wp2_with fail
  refine (letTail _ s most hs hm0 hm1).mono ?_
  rintro e w4 ⟨rfl, hb4⟩
  go_wp2_with fail
  refine (refTailText _ s most hs hm0 hm1).mono ?_
  rintro e w5 ⟨rfl, hb5⟩
  generalize s.extract (tailE s most) s.size = t2 at *
  go_wp2_with fail
  refine (awake _).mono ?_
  rintro e w6 ⟨rfl, hb6⟩
  go_wp2
  go_ret
  exact ⟨rfl, Below.then_below (Below.then_below (Below.then_below (Below.then_below hb2 hb3) hb4) hb5) hb6⟩
end Go.Proofs.Ytcjonnfhnddapaa.Let
