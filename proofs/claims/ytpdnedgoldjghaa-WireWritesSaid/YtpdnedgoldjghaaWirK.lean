import Derived.Test.YtpdnedgoldjghaaWirI
/- The law WireWrites. -/
namespace Go.Proofs.Ytpdnedgoldjghaa.Wir
open Go.RowKit WirP

theorem own_fr {w w' : World} {p : Nat} {r : Option Nat} {base : Nat} {e : TypeId} {size n : Nat} {v : Value} {xs : List Value} (h : w.ownsRow base e size v n xs) (hg : Fr w w' p r) (hp : v.ownBlock ≠ some p) (hne : ∀ g, v.ownBlock = some g → r ≠ some g) : w'.ownsRow base e size v n xs := by
  refine ⟨h.1, ?_⟩
  rcases h.2 with hn | ⟨g, cap, cur, rfl, hb, hgg, rest⟩
  · exact .inl hn
  · refine .inr ⟨g, cap, cur, rfl, hb, ?_, rest⟩
    rw [hg.block g (Array.getElem?_eq_some_iff.1 hgg).1 (by simpa [Value.ownBlock] using hp) (fun e => hne g rfl e.symm)]
    exact hgg
/-- A slice of parts that is read. -/
def Pts (w : World) (A : Option Addr) (n : Nat) (K N : Nat → Int) (X : Nat → List UInt8) (T R : Nat → Int) : Prop :=
  n ≤ 9223372036854775807 ∧ (0 < n → ∃ ad, A = some ad ∧ ad.block < w.heap.size ∧ ∀ i, i < n → w.cell? (ad.add (i * 5)) = some (.int .i64 (K i)) ∧ w.cell? (ad.add (i * 5 + 1)) = some (.int .i64 (N i)) ∧ w.cell? (ad.add (i * 5 + 2)) = some (.string (tx (X i))) ∧ w.cell? (ad.add (i * 5 + 3)) = some (.int .i64 (T i)) ∧ w.cell? (ad.add (i * 5 + 4)) = some (.int .i64 (R i)) ∧ (i64 (K i) ∧ i64 (N i) ∧ i64 (T i) ∧ i64 (R i)) ∧ (X i).length ≤ 9223372036854775807)
theorem Pts.below {w w' : World} {A : Option Addr} {n : Nat} {K N : Nat → Int} {X : Nat → List UInt8} {T R : Nat → Int} (h : Pts w A n K N X T R) (hb : Below w.heap.size w w') : Pts w' A n K N X T R := by
  refine ⟨h.1, fun hn => ?_⟩
  obtain ⟨ad, e, hlt, hc⟩ := h.2 hn
  refine ⟨ad, e, Nat.lt_of_lt_of_le hlt hb.size, fun i hi => ?_⟩
  have hs : ∀ j, w'.cell? (ad.add j) = w.cell? (ad.add j) := fun j => hb.cell (by rw [addr_block]; exact hlt)
  rw [hs, hs, hs, hs, hs]
  exact hc i hi
theorem Pts.at_ {w : World} {A : Option Addr} {n : Nat} {K N : Nat → Int} {X : Nat → List UInt8} {T R : Nat → Int} (h : Pts w A n K N X T R) {i : Nat} (hi : i < n) : ∃ ad, A = some ad ∧
    (w.cell? (ad.add (i * 5)) = some (.int .i64 (K i)) ∧ w.cell? ⟨(ad.add (i * 5)).block, (ad.add (i * 5)).off + 1, none⟩ = some (.int .i64 (N i)) ∧ w.cell? ⟨(ad.add (i * 5)).block, (ad.add (i * 5)).off + 2, none⟩ = some (.string (tx (X i))) ∧
    w.cell? ⟨(ad.add (i * 5)).block, (ad.add (i * 5)).off + 3, none⟩ = some (.int .i64 (T i)) ∧ w.cell? ⟨(ad.add (i * 5)).block, (ad.add (i * 5)).off + 4, none⟩ = some (.int .i64 (R i)) ∧ w.cell? ⟨(ad.add (i * 5)).block, (ad.add (i * 5)).off + 3 + 1, none⟩ = some (.int .i64 (R i))) ∧ (i64 (K i) ∧ i64 (N i) ∧ i64 (T i) ∧ i64 (R i)) ∧ (X i).length ≤ 9223372036854775807 := by
  obtain ⟨ad, e, _, hc⟩ := h.2 (by omega)
  obtain ⟨h0, h1, h2, h3, h4, h5⟩ := hc i hi
  rw [← addr_add] at h1 h2 h3 h4
  exact ⟨ad, e, ⟨h0, h1, h2, h3, h4, h4⟩, h5⟩
theorem flagNil (w : World) (t : Bool) : Calls Try.prog 61 #[.pointer none, .bool t] w fun e w' => e = .returned (.tuple #[]) ∧ w = w' := by
  have HN := Lib.hid numNil
  cases t with
  | true =>
    go_enter Try.func61, Try.ntmps61
    go_wp2_with fail
    refine (HN.out _ _).mono ?_
    rintro e w1 ⟨rfl, rfl⟩
    go_wp2
    refine bodyPost_ret (results_none rfl _ _ _) rfl ?_
    exact ⟨rfl, rfl⟩
  | false =>
    go_enter Try.func61, Try.ntmps61
    go_wp2_with fail
    refine (HN.out _ _).mono ?_
    rintro e w1 ⟨rfl, rfl⟩
    go_wp2
    refine bodyPost_end (results_none rfl _ _ _) rfl ?_
    exact ⟨rfl, rfl⟩
theorem stampNil (w : World) (a b : Int) : Calls Try.prog 64 #[.pointer none, .agg #[.int .i64 a, .int .i64 b]] w fun e w' => e = .returned (.tuple #[]) ∧ Below w.heap.size w w' := by
  have b0 := Lib.hid ((Below.refl w.heap.size w).alloc (Nat.le_refl _) (.cells #[.int .i64 a, .int .i64 b] 23))
  have HN := Lib.hid numNil
  go_enter Try.func64, Try.ntmps64
  go_wp2_with fail
  refine (HN.out _ _).mono ?_
  rintro e w1 ⟨rfl, rfl⟩
  go_wp2_with fail
  refine (HN.out _ _).mono ?_
  rintro e w1 ⟨rfl, rfl⟩
  go_wp2
  refine bodyPost_end (results_none rfl _ _ _) rfl ?_
  exact ⟨rfl, b0.out⟩
set_option maxRecDepth 100000 in
set_option maxHeartbeats 2000000 in
theorem writesNil (w : World) (k N : Int) (x : List UInt8) (t r : Int) (hx : x.length ≤ 1000000) (hN : i64 N) (ht : i64 t) (hr : i64 r) :
    Calls Try.prog 39 #[.pointer none, ptV k N (tx x) t r] w fun e w' => ∃ A n c, e = .returned (.slice A n c) ∧ Below w.heap.size w w' := by
  obtain ⟨b0, kk0⟩ := box5 w 56 #[.int .i64 k, .int .i64 N, .string (tx x), .int .i64 t, .int .i64 r]
  have HB0 := Lib.hid b0
  have HK0 := Lib.hid kk0
  obtain ⟨q0, q1, q2, q3, q4, q5, q6, q7, q8, q9⟩ := cells5 kk0
  clear b0 kk0
  unfold ptV
  by_cases hk0 : k = 0
  · subst hk0
    have HR := Lib.hid (fun W => refNum W N hN.1 hN.2)
    go_enter Try.func39, Try.ntmps39
    go_wp2_with fail
    refine (numNil _ _).mono ?_
    rintro e w1 ⟨rfl, rfl⟩
    go_wp2_with fail
    refine (HR.out _).mono ?_
    rintro e w2 ⟨v2, rfl, ho2, hb2⟩
    obtain ⟨A2, n2, rfl, hc2⟩ := own_slice ho2
    have HQ := Lib.hid (Below.then_below HB0.out hb2)
    clear ho2 hb2 q0 q1 q2 q3 q4 q5 q6 q7 q8 q9
    go_wp2
    go_ret
    exact ⟨A2, _, _, rfl, HQ.out⟩
  · have e0 : (k == 0) = false := by simpa using hk0
    by_cases hk1 : k = 1
    · subst hk1
      have HR := Lib.hid (fun W => refFlag W (N == 1))
      go_enter Try.func39, Try.ntmps39
      go_wp2_with fail
      refine (flagNil _ _).mono ?_
      rintro e w1 ⟨rfl, rfl⟩
      go_wp2_with fail
      refine (HR.out _).mono ?_
      rintro e w2 ⟨A2, n2, d2, rfl, ho2, hc2, hb2⟩
      have HQ := Lib.hid (Below.then_below HB0.out hb2)
      clear ho2 hb2 q0 q1 q2 q3 q4 q5 q6 q7 q8 q9
      go_wp2
      go_ret
      exact ⟨A2, _, _, rfl, HQ.out⟩
    · have e1 : (k == 1) = false := by simpa using hk1
      by_cases hk2 : k = 2
      · subst hk2
        have HR := Lib.hid (fun W => refText W x (by omega))
        go_enter Try.func39, Try.ntmps39
        go_wp2_with fail
        refine (textNil _ x).mono ?_
        rintro e w1 ⟨rfl, rfl⟩
        go_wp2_with fail
        refine (HR.out _).mono ?_
        rintro e w2 ⟨A2, n2, d2, rfl, ho2, hc2, hb2⟩
        have HQ := Lib.hid (Below.then_below HB0.out hb2)
        clear ho2 hb2 q0 q1 q2 q3 q4 q5 q6 q7 q8 q9
        go_wp2
        go_ret
        exact ⟨A2, _, _, rfl, HQ.out⟩
      · have e2 : (k == 2) = false := by simpa using hk2
        by_cases hk3 : k = 3
        · subst hk3
          have HR := Lib.hid (fun W => refStamp W t r ht.1 ht.2 hr.1 hr.2)
          go_enter Try.func39, Try.ntmps39
          go_wp2_with fail
          refine (stampNil _ _ _).mono ?_
          rintro e w1 ⟨rfl, hb1⟩
          obtain ⟨c0, c1, c2, c3, c4, c5, c6, c7, c8, c9⟩ := cells5 (HK0.out.below hb1 (by simp))
          have HB1 := Lib.hid (Below.then_below HB0.out hb1)
          clear hb1 q0 q1 q2 q3 q4 q5 q6 q7 q8 q9
          go_wp2_with fail
          refine (HR.out _).mono ?_
          rintro e w2 ⟨A2, n2, d2, rfl, ho2, hc2, hb2⟩
          have HQ := Lib.hid (Below.then_below HB1.out hb2)
          clear ho2 hb2
          go_wp2
          go_ret
          exact ⟨A2, _, _, rfl, HQ.out⟩
        · have e3 : (k == 3) = false := by simpa using hk3
          go_enter Try.func39, Try.ntmps39
          go_wp2
          go_ret
          exact ⟨none, 0, 0, rfl, HB0.out⟩
end Go.Proofs.Ytpdnedgoldjghaa.Wir
