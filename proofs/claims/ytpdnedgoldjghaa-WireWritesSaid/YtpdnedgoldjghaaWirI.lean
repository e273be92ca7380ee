import Derived.Test.YtpdnedgoldjghaaWirH
/- The law's writes: a part is written. -/
namespace Go.Proofs.Ytpdnedgoldjghaa.Wir
open Go.RowKit WirP

/-- A part as a value. -/
def ptV (k N : Int) (s : ByteArray) (t r : Int) : Value := .agg #[.int .i64 k, .int .i64 N, .string s, .int .i64 t, .int .i64 r]
/-- Its bytes. -/
def encP (k N : Int) (x : List UInt8) (t r : Int) : List UInt8 :=
  if k = 0 then encN N.toNat else if k = 1 then encN (if (N == 1) = true then 1 else 0) else if k = 2 then encN x.length ++ x else if k = 3 then encN t.toNat ++ encN r.toNat else []
def i64 (n : Int) : Prop := -9223372036854775808 ≤ n ∧ n ≤ 9223372036854775807
theorem box5 (w : World) (t : TypeId) (cs : Array Value) : Below w.heap.size w (w.alloc (.cells cs t)) ∧ Bk (w.alloc (.cells cs t)) w.heap.size t cs :=
  ⟨(Below.refl _ _).alloc (Nat.le_refl _) _, Bk.new w t _⟩
theorem cells5 {w : World} {g : Nat} {t : TypeId} {a b c d e : Value} (h : Bk w g t #[a, b, c, d, e]) :
    w.cell? ⟨g, 0, none⟩ = some a ∧ w.cell? ⟨g, 1, none⟩ = some b ∧ w.cell? ⟨g, 2, none⟩ = some c ∧ w.cell? ⟨g, 3, none⟩ = some d ∧ w.cell? ⟨g, 4, none⟩ = some e ∧
    w.cell? ⟨g, 0 + 1, none⟩ = some b ∧ w.cell? ⟨g, 0 + 2, none⟩ = some c ∧ w.cell? ⟨g, 0 + 3, none⟩ = some d ∧ w.cell? ⟨g, 0 + 4, none⟩ = some e ∧ w.cell? ⟨g, 3 + 1, none⟩ = some e := by
  refine ⟨?_, ?_, ?_, ?_, ?_, ?_, ?_, ?_, ?_, ?_⟩ <;> rw [h.cell] <;> rfl
def Written (w w' : World) (B p : Nat) (v : Value) (l x : List UInt8) (e : Ending) : Prop := ∃ A n c, e = .returned (.slice A n c) ∧ Rb w' A n x ∧ n ≤ c ∧ Put w w' B p v l x
set_option maxRecDepth 100000 in
set_option maxHeartbeats 2000000 in
theorem writesW (w : World) (B p : Nat) (v : Value) (l : List UInt8) (h : Wr w B p v l) (hl : l.length ≤ 1000000) (k N : Int) (x : List UInt8) (t r : Int) (hx : x.length ≤ 1000000) (hN : i64 N) (ht : i64 t) (hr : i64 r) (hB : B ≤ w.heap.size) :
    Calls Try.prog 39 #[.pointer (some ⟨p, 0, none⟩), ptV k N (tx x) t r] w fun e w' => Written w w' B p v l (encP k N x t r) e := by
  obtain ⟨b0, kk0⟩ := box5 w 56 #[.int .i64 k, .int .i64 N, .string (tx x), .int .i64 t, .int .i64 r]
  have hw0 := h.below b0
  have hs0 : B ≤ (w.alloc (.cells #[.int .i64 k, .int .i64 N, .string (tx x), .int .i64 t, .int .i64 r] 56)).heap.size := Nat.le_trans hB b0.size
  have hpl := h.bk.lt
  have hrow : v.ownBlock ≠ some w.heap.size := by intro e; have := own_bound h.own e; omega
  have HB0 := Lib.hid b0
  have HK0 := Lib.hid kk0
  have HW0 := Lib.hid hw0
  -- the part's box stays whatever is written
  have HKK : Hid (∀ w1 y, Put (w.alloc (.cells #[.int .i64 k, .int .i64 N, .string (tx x), .int .i64 t, .int .i64 r] 56)) w1 B p v l y → Bk w1 w.heap.size 56 #[.int .i64 k, .int .i64 N, .string (tx x), .int .i64 t, .int .i64 r]) := Lib.hid (fun w1 y hp => by
    obtain ⟨v1, h1, h2, h3⟩ := hp
    exact HK0.out.of_same (h2.block _ (by simp) (by omega) (fun e => hrow e.symm)))
  obtain ⟨q0, q1, q2, q3, q4, q5, q6, q7, q8, q9⟩ := cells5 kk0
  clear h hw0 b0 kk0
  unfold ptV
  by_cases hk0 : k = 0
  · subst hk0
    have HX : Hid (encP 0 N x t r = encN N.toNat) := Lib.hid (by rw [encP, if_pos rfl])
    have HN := Lib.hid (numW _ B p v l HW0.out (by omega) N hN.2 hN.1 hs0)
    have HR := Lib.hid (fun W => refNum W N hN.1 hN.2)
    go_enter Try.func39, Try.ntmps39
    go_wp2_with fail
    refine HN.out.mono ?_
    rintro e w1 ⟨rfl, hp⟩
    obtain ⟨c0, c1, c2, c3, c4, c5, c6, c7, c8, c9⟩ := cells5 (HKK.out w1 _ hp)
    have HP := Lib.hid hp
    clear hp q0 q1 q2 q3 q4 q5 q6 q7 q8 q9
    go_wp2_with fail
    refine (HR.out _).mono ?_
    rintro e w2 ⟨v2, rfl, ho2, hb2⟩
    obtain ⟨A2, n2, rfl, hc2⟩ := own_slice ho2
    have HQ : Hid (Put w w2 B p v l (encN N.toNat)) := Lib.hid (Put.old HB0.out (HP.out.new hb2))
    have HRb := Lib.hid (Rb.of_own ho2)
    clear ho2 hb2 c0 c1 c2 c3 c4 c5 c6 c7 c8 c9
    go_wp2
    go_ret
    exact ⟨A2, _, _, rfl, by rw [HX.out]; exact HRb.out, hc2, by rw [HX.out]; exact HQ.out⟩
  · have e0 : (k == 0) = false := by simpa using hk0
    by_cases hk1 : k = 1
    · subst hk1
      have HX : Hid (encP 1 N x t r = encN (if (N == 1) = true then 1 else 0)) := Lib.hid (by rw [encP, if_neg (by decide), if_pos rfl])
      have HN := Lib.hid (flagW _ B p v l HW0.out (by omega) (N == 1) hs0)
      have HR := Lib.hid (fun W => refFlag W (N == 1))
      go_enter Try.func39, Try.ntmps39
      go_wp2_with fail
      refine HN.out.mono ?_
      rintro e w1 ⟨rfl, hp⟩
      obtain ⟨c0, c1, c2, c3, c4, c5, c6, c7, c8, c9⟩ := cells5 (HKK.out w1 _ hp)
      have HP := Lib.hid hp
      clear hp q0 q1 q2 q3 q4 q5 q6 q7 q8 q9
      go_wp2_with fail
      refine (HR.out _).mono ?_
      rintro e w2 ⟨A2, n2, d2, rfl, ho2, hc2, hb2⟩
      have HQ := Lib.hid (Put.old HB0.out (HP.out.new hb2))
      have HRb := Lib.hid ho2
      clear ho2 hb2 c0 c1 c2 c3 c4 c5 c6 c7 c8 c9
      go_wp2
      go_ret
      exact ⟨A2, _, _, rfl, by rw [HX.out]; exact HRb.out, hc2, by rw [HX.out]; exact HQ.out⟩
    · have e1 : (k == 1) = false := by simpa using hk1
      by_cases hk2 : k = 2
      · subst hk2
        have HX : Hid (encP 2 N x t r = encN x.length ++ x) := Lib.hid (by rw [encP, if_neg (by decide), if_neg (by decide), if_pos rfl])
        have HN := Lib.hid (textW _ B p v l x HW0.out (by omega) (by omega) hs0)
        have HR := Lib.hid (fun W => refText W x (by omega))
        go_enter Try.func39, Try.ntmps39
        go_wp2_with fail
        refine HN.out.mono ?_
        rintro e w1 ⟨rfl, hp⟩
        obtain ⟨c0, c1, c2, c3, c4, c5, c6, c7, c8, c9⟩ := cells5 (HKK.out w1 _ hp)
        have HP := Lib.hid hp
        clear hp q0 q1 q2 q3 q4 q5 q6 q7 q8 q9
        go_wp2_with fail
        refine (HR.out _).mono ?_
        rintro e w2 ⟨A2, n2, d2, rfl, ho2, hc2, hb2⟩
        have HQ := Lib.hid (Put.old HB0.out (HP.out.new hb2))
        have HRb := Lib.hid ho2
        clear ho2 hb2 c0 c1 c2 c3 c4 c5 c6 c7 c8 c9
        go_wp2
        go_ret
        exact ⟨A2, _, _, rfl, by rw [HX.out]; exact HRb.out, hc2, by rw [HX.out]; exact HQ.out⟩
      · have e2 : (k == 2) = false := by simpa using hk2
        by_cases hk3 : k = 3
        · subst hk3
          have HX : Hid (encP 3 N x t r = encN t.toNat ++ encN r.toNat) := Lib.hid (by rw [encP, if_neg (by decide), if_neg (by decide), if_neg (by decide), if_pos rfl])
          have HN := Lib.hid (stampW _ B p v l HW0.out (by omega) t r ht.1 ht.2 hr.1 hr.2 hs0)
          have HR := Lib.hid (fun W => refStamp W t r ht.1 ht.2 hr.1 hr.2)
          go_enter Try.func39, Try.ntmps39
          go_wp2_with fail
          refine HN.out.mono ?_
          rintro e w1 ⟨rfl, hp⟩
          obtain ⟨c0, c1, c2, c3, c4, c5, c6, c7, c8, c9⟩ := cells5 (HKK.out w1 _ hp)
          have HP := Lib.hid hp
          clear hp q0 q1 q2 q3 q4 q5 q6 q7 q8 q9
          go_wp2_with fail
          refine (HR.out _).mono ?_
          rintro e w2 ⟨A2, n2, d2, rfl, ho2, hc2, hb2⟩
          have HQ := Lib.hid (Put.old HB0.out (HP.out.new hb2))
          have HRb := Lib.hid ho2
          clear ho2 hb2 c0 c1 c2 c3 c4 c5 c6 c7 c8 c9
          go_wp2
          go_ret
          exact ⟨A2, _, _, rfl, by rw [HX.out]; exact HRb.out, hc2, by rw [HX.out]; exact HQ.out⟩
        · have e3 : (k == 3) = false := by simpa using hk3
          have HX : Hid (encP k N x t r = []) := Lib.hid (by rw [encP, if_neg hk0, if_neg hk1, if_neg hk2, if_neg hk3])
          go_enter Try.func39, Try.ntmps39
          go_wp2
          go_ret
          refine ⟨none, 0, 0, rfl, by rw [HX.out]; exact Rb.nil_ _, Nat.le_refl _, ?_⟩
          rw [HX.out]
          exact Put.old HB0.out ⟨v, by rw [List.append_nil]; exact HW0.out, Fr.refl _ _ _, .inl rfl⟩
end Go.Proofs.Ytpdnedgoldjghaa.Wir
