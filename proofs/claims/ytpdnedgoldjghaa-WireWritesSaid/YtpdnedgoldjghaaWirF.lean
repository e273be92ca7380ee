import Derived.Test.YtpdnedgoldjghaaWirE
/- Whatever is read: what it tells of the bytes. -/
namespace Go.Proofs.Ytpdnedgoldjghaa.Wir
open Go.RowKit WirP

/-- Behind a reading: a reader at p that has l' left and error b; where there is none, l began with x. -/
def Rd (S : Nat → Prop) (w w' : World) (p : Nat) (l x : List UInt8) : Prop := ∃ l' b, Rdr S w' p l' b ∧ w.grownBy w' (some p) ∧ (b = 0 → l = x ++ l') ∧ l'.length ≤ l.length
theorem Rdr.other {S : Nat → Prop} {w w' : World} {p g : Nat} {l : List UInt8} {b : Int} (h : Rdr S w p l b) (hg : w.grownBy w' (some g)) (hp : p ≠ g) {t : TypeId} {a c : Int} (hk : Bk w g t #[.int .i64 a, .int .i64 c]) : Rdr S w' p l b := by
  obtain ⟨A, n, c', h1, h2, h3, h4⟩ := h
  exact ⟨A, n, c', h1.grown hg (by intro e; injection e with e; exact hp e), Rb.over h2 hg hk (fun i x => by rcases i with _ | _ | i <;> simp), h3, h4⟩
theorem numC {S : Nat → Prop} (w : World) (p : Nat) (l : List UInt8) (h : Rdr S w p l 0) : Calls Try.prog 31 #[.pointer (some ⟨p, 0, none⟩)] w fun e w' => ∃ v : Nat, e = .returned (.int .i64 v) ∧ v < 128 ^ 9 ∧ ∃ l' b, Rdr S w' p l' b ∧ w.grownBy w' (some p) ∧ (b = 0 → l = encN v ++ l') ∧ l'.length ≤ l.length ∧ (b ≠ 0 → v = 0) := by
  refine (numR w p l h).mono ?_
  rintro e w' ⟨rfl, h1, h2⟩
  rcases dn_err l 9 0 0 with h0 | ⟨h3, h4, h5⟩
  · have hb := num_back (l := l) (v := numV l) (k := (numD l).2.1) (by rw [numV]; exact Prod.ext rfl (Prod.ext rfl h0))
    have hl : numL l = l.drop (numD l).2.1 := by rw [numL, if_pos (show (numD l).2.2 = 0 from h0)]
    refine ⟨numV l, rfl, hb.1, _, _, h1, h2, fun _ => ?_, ?_, fun hn => absurd (show (numE l : Int) = 0 from congrArg _ h0) hn⟩
    · rw [hl, hb.2.2.2, List.take_append_drop]
    · rw [hl, List.length_drop]; omega
  · refine ⟨numV l, rfl, by rw [show numV l = 0 from h3]; decide, _, _, h1, h2, fun hn => ?_, ?_, fun _ => h3⟩
    · exfalso
      have : numE l = 0 := by omega
      have h6 : numE l = (dn l 9 0 0).2.2 := rfl
      omega
    · have : numL l = l := by
        rw [numL, if_neg]
        intro e
        have h6 : (numD l).2.2 = (dn l 9 0 0).2.2 := rfl
        omega
      rw [this]
      exact Nat.le_refl _
/-- Num, of whatever reader. -/
theorem numAny {S : Nat → Prop} (w : World) (p : Nat) (l : List UInt8) (b0 : Int) (h : Rdr S w p l b0) : Calls Try.prog 31 #[.pointer (some ⟨p, 0, none⟩)] w fun e w' => ∃ v : Nat, e = .returned (.int .i64 v) ∧ v < 128 ^ 9 ∧ ∃ l' b, Rdr S w' p l' b ∧ w.grownBy w' (some p) ∧ (b = 0 → b0 = 0 ∧ l = encN v ++ l') ∧ l'.length ≤ l.length ∧ (b ≠ 0 → v = 0) := by
  by_cases hb : b0 = 0
  · subst hb
    refine (numC w p l h).mono ?_
    rintro e w' ⟨v, h1, h2, l', b, h3, h4, h5, h6, h7⟩
    exact ⟨v, h1, h2, l', b, h3, h4, fun hb => ⟨rfl, h5 hb⟩, h6, h7⟩
  · refine (numBad w p l b0 h hb).mono ?_
    rintro e w' ⟨rfl, rfl⟩
    exact ⟨0, rfl, by decide, l, b0, h, World.grownBy.refl _ _, fun e => absurd e hb, Nat.le_refl _, fun _ => rfl⟩
theorem failAny {S : Nat → Prop} (w : World) (p : Nat) (l : List UInt8) (b x : Int) (hx : x ≠ 0) (h : Rdr S w p l b) : Calls Try.prog 30 #[.pointer (some ⟨p, 0, none⟩), .int .i64 x] w fun e w' => e = .returned (.tuple #[]) ∧ ∃ b', b' ≠ 0 ∧ Rdr S w' p l b' ∧ w.grownBy w' (some p) := by
  by_cases hb : b = 0
  · subst hb
    refine (failYes w p l x h).mono ?_
    rintro e w' ⟨rfl, h1, h2⟩
    exact ⟨rfl, x, hx, h1, h2⟩
  · refine (failNo w p l x b h hb).mono ?_
    rintro e w' ⟨rfl, rfl⟩
    exact ⟨rfl, b, hb, h, World.grownBy.refl _ _⟩
theorem flagC {S : Nat → Prop} (w : World) (p : Nat) (l : List UInt8) (h : Rdr S w p l 0) : Calls Try.prog 32 #[.pointer (some ⟨p, 0, none⟩)] w fun e w' => ∃ t : Bool, e = .returned (.bool t) ∧ Rd S w w' p l (encN (if t = true then 1 else 0)) := by
  have HN := Lib.hid (numC w p l h)
  clear h
  go_enter Try.func32, Try.ntmps32
  go_wp2_with fail
  refine HN.out.mono ?_
  rintro e w1 ⟨v, rfl, hv, l', b, hr, hg, hx, hll, _⟩
  by_cases hv1 : 1 < v
  · have hq : (1 : Int) < (v : Int) := by omega
    have e1 : ((v : Int) == 1) = false := by simp; omega
    have HF := Lib.hid (failAny w1 p l' b 4 (by decide) hr)
    have HG := Lib.hid hg
    clear hr hg hx
    go_wp2_with fail
    refine HF.out.mono ?_
    rintro e w2 ⟨rfl, b', hb', hr2, hg2⟩
    have HX : Hid (Rd S w w2 p l (encN (if false = true then 1 else 0))) := Lib.hid ⟨l', b', hr2, HG.out.trans hg2, fun e => absurd e hb', hll⟩
    clear hr2 hg2
    go_wp2
    go_ret
    exact ⟨false, rfl, HX.out⟩
  · have hq : ¬ (1 : Int) < (v : Int) := by omega
    rcases (by omega : v = 0 ∨ v = 1) with rfl | rfl
    · have HX : Hid (Rd S w w1 p l (encN (if false = true then 1 else 0))) := Lib.hid ⟨l', b, hr, hg, hx, hll⟩
      clear hr hg hx
      go_wp2
      go_ret
      exact ⟨false, rfl, HX.out⟩
    · have HX : Hid (Rd S w w1 p l (encN (if true = true then 1 else 0))) := Lib.hid ⟨l', b, hr, hg, hx, hll⟩
      clear hr hg hx
      go_wp2
      go_ret
      exact ⟨true, rfl, HX.out⟩
theorem stampC {S : Nat → Prop} (w : World) (p : Nat) (l : List UInt8) (h : Rdr S w p l 0) : Calls Try.prog 34 #[.pointer (some ⟨p, 0, none⟩)] w fun e w' => ∃ a b : Nat, e = .returned (.agg #[.int .i64 a, .int .i64 b]) ∧ a < 128 ^ 9 ∧ b < 128 ^ 9 ∧ Rd S w w' p l (encN a ++ encN b) := by
  have b0 := (Below.refl w.heap.size w).alloc (Nat.le_refl _) (.cells #[.int .i64 0, .int .i64 0] 23)
  have HN := Lib.hid (numC _ p l (h.below b0))
  have hpl := h.lt
  have k0 := Lib.hid (Bk.new w 23 #[.int .i64 0, .int .i64 0])
  clear h b0
  go_enter Try.func34, Try.ntmps34
  go_wp2_with fail
  refine HN.out.mono ?_
  rintro e w1 ⟨a, rfl, ha, l1, b1, hr1, hg1, hx1, hll1, hz1⟩
  have K1 := Lib.hid (k0.out.grown hg1 (by intro e; injection e with e; omega))
  have HN2 := Lib.hid (numAny w1 p l1 b1 hr1)
  have HG1 := Lib.hid hg1
  have HX1 := Lib.hid hx1
  clear hr1 hg1 hx1 hz1
  go_wp2_with fail
  refine HN2.out.mono ?_
  rintro e w2 ⟨b, rfl, hb, l2, b2, hr2, hg2, hx2, hll2, hz2⟩
  have K2 := Lib.hid (K1.out.grown hg2 (by intro e; injection e with e; omega))
  have HB := Lib.hid (badR w2 p l2 b2 hr2)
  have HG2 := Lib.hid (HG1.out.trans hg2)
  have HR2 := Lib.hid hr2
  have HX2 := Lib.hid hx2
  clear hr2 hg2 hx2 hz2
  go_wp2_with fail
  refine HB.out.mono ?_
  rintro e w3 ⟨rfl, rfl⟩
  have hgB : ∀ w9, w2.grownBy w9 (some w.heap.size) → Rdr S w9 p l2 b2 ∧ w.grownBy w9 (some p) := fun w9 hg9 => by
    have hr := HR2.out
    refine ⟨hr.other hg9 (by omega) K2.out, ?_⟩
    have hga : w.grownBy w2 (some p) := (World.grownBy_alloc w _ (some p)).trans HG2.out
    refine ⟨hg9.os.trans hga.os, hg9.tape.trans hga.tape, hg9.output.trans hga.output, Nat.le_trans hga.size hg9.size, fun i hi hne => ?_⟩
    rw [hg9.block i (Nat.lt_of_lt_of_le hi hga.size) (by intro e; injection e with e; omega)]
    exact hga.block i hi hne
  by_cases hb0 : b2 = 0
  · obtain ⟨e1, e2⟩ := HX2.out hb0
    have e3 := HX1.out e1
    subst hb0
    go_wp2_with (refine storeWhole rfl 23 (.tmp 2) (.tmp 15) rfl w.heap.size 23 _ #[.int .i64 a, .int .i64 b] rfl rfl K2.out rfl (by kernel_rfl) (by simp [Value.oneCell']) ?_; intro w9 hb9 hg9)
    go_wp2
    refine bodyPost_ret (results_cell_row rfl _ _ w.heap.size 23 #[.int .i64 a, .int .i64 b] _ _ rfl hb9 Try.underlying23 rfl (by kernel_rfl)) rfl ?_
    obtain ⟨q1, q2⟩ := hgB w9 hg9
    exact ⟨a, b, rfl, ha, hb, l2, 0, q1, q2, fun _ => by rw [e3, e2, List.append_assoc], by omega⟩
  · have hbn : (b2 != 0) = true := by simpa using hb0
    go_wp2_with (refine storeWhole rfl 23 (.tmp 2) (.tmp 12) rfl w.heap.size 23 _ #[.int .i64 0, .int .i64 0] rfl rfl K2.out rfl (by kernel_rfl) (by simp [Value.oneCell']) ?_; intro w9 hb9 hg9)
    go_wp2
    refine bodyPost_ret (results_cell_row rfl _ _ w.heap.size 23 #[.int .i64 0, .int .i64 0] _ _ rfl hb9 Try.underlying23 rfl (by kernel_rfl)) rfl ?_
    obtain ⟨q1, q2⟩ := hgB w9 hg9
    exact ⟨0, 0, rfl, by decide, by decide, l2, b2, q1, q2, fun e => absurd e hb0, by omega⟩
end Go.Proofs.Ytpdnedgoldjghaa.Wir
