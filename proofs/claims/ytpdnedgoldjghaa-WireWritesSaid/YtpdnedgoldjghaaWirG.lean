import Derived.Test.YtpdnedgoldjghaaWirF
/- Text read of whatever; the writer's Flag and Stamp. -/
namespace Go.Proofs.Ytpdnedgoldjghaa.Wir
open Go.RowKit WirP

set_option maxHeartbeats 2000000 in
theorem textC {S : Nat → Prop} (w : World) (p : Nat) (l : List UInt8) (m : Int) (h : Rdr S w p l 0) : Calls Try.prog 33 #[.pointer (some ⟨p, 0, none⟩), .int .i64 m] w fun e w' => ∃ s : List UInt8, e = .returned (.string (tx s)) ∧ s.length ≤ l.length ∧ Rd S w w' p l (encN s.length ++ s) := by
  have HN := Lib.hid (numC w p l h)
  clear h
  go_enter Try.func33, Try.ntmps33
  go_wp2_with fail
  refine HN.out.mono ?_
  rintro e w1 ⟨k, rfl, hv, r, b, hr, hg, hx, hll, _⟩
  have HG := Lib.hid hg
  have HX := Lib.hid hx
  have HB := Lib.hid (badR w1 p r b hr)
  have HF := Lib.hid (fun x hx => failAny w1 p r b x hx hr)
  have HRR := Lib.hid hr
  have hnil : ByteArray.mk #[] = tx [] := rfl
  by_cases hb0 : b = 0
  · subst hb0
    obtain ⟨A, n, c, h1, h2, h3, h4⟩ := hr
    have c0 : w1.cell? ⟨p, 0, none⟩ = some (.slice A n c) := by rw [h1.cell]; rfl
    have f0 : w1.frozen? ⟨p, 0, none⟩ = false := h1.free 0
    have hln := h2.len
    have HK := Lib.hid h1
    have HR := Lib.hid h2
    have HSS := Lib.hid h4
    clear hg hx HN h1 h2 h4
    by_cases hm : m < (k : Int)
    · go_wp2_with fail
      refine HB.out.mono ?_
      rintro e w2 ⟨rfl, rfl⟩
      go_wp2_with fail
      refine (HF.out 6 (by decide)).mono ?_
      rintro e w2 ⟨rfl, b', hb', hr2, hg2⟩
      have HQ : Hid (Rd S w w2 p l (encN ([] : List UInt8).length ++ [])) := Lib.hid ⟨r, b', hr2, HG.out.trans hg2, fun e => absurd e hb', hll⟩
      clear hr2 hg2
      go_wp2
      go_ret
      exact ⟨[], rfl, by simp, HQ.out⟩
    · by_cases hk : n < k
      · have hk' : (n : Int) < (k : Int) := by omega
        go_wp2_with fail
        refine HB.out.mono ?_
        rintro e w2 ⟨rfl, rfl⟩
        go_wp2_with fail
        refine (HF.out 3 (by decide)).mono ?_
        rintro e w2 ⟨rfl, b', hb', hr2, hg2⟩
        have HQ : Hid (Rd S w w2 p l (encN ([] : List UInt8).length ++ [])) := Lib.hid ⟨r, b', hr2, HG.out.trans hg2, fun e => absurd e hb', hll⟩
        clear hr2 hg2
        go_wp2
        go_ret
        exact ⟨[], rfl, by simp, HQ.out⟩
      · have hk' : ¬ (n : Int) < (k : Int) := by omega
        have hk1 : (k : Int) ≤ (n : Int) := by omega
        have hk2 : (k : Int) ≤ (c : Int) := by omega
        have hk3 : (n : Int) ≤ (c : Int) := by omega
        have hst := run_bytesString (P := Try.prog) (dst := 9) Try.underlying52 Try.underlying5 Try.underlying9 (HR.out.take_ (show k ≤ n by omega)) c
        have htx : (ByteArray.mk (r.take k).toArray) = tx (r.take k) := rfl
        rw [htx] at hst
        generalize hs : tx (r.take k) = s at *
        have HS := Lib.hid hs
        clear hs htx
        have RB1 : Hid (c = k → Rb w1 A (n - k) (r.drop k)) := Lib.hid (fun e => by have h := HR.out.cut (k := k) (cap := c) (by omega) h3; rwa [if_pos e] at h)
        have RB2 : Hid (c ≠ k → Rb w1 (A.map (·.add k)) (n - k) (r.drop k)) := Lib.hid (fun e => by have h := HR.out.cut (k := k) (cap := c) (by omega) h3; rwa [if_neg e] at h)
        have HQ : Hid (l = encN (r.take k).length ++ r.take k ++ r.drop k) := Lib.hid (by
          rw [List.append_assoc, List.take_append_drop, List.length_take, Nat.min_eq_left (by omega)]
          exact HX.out rfl)
        have hlt : (r.take k).length ≤ l.length := by rw [List.length_take]; omega
        have hld : (r.drop k).length ≤ l.length := by rw [List.length_drop]; omega
        clear HF
        go_wp2_with fail
        refine HB.out.mono ?_
        rintro e w2 ⟨rfl, rfl⟩
        go_wp2
        all_goals
          go_ret
          first
            | (have hf := fin2 (S := S) (c' := c - k) HK.out (RB2.out (by omega)) (by omega) (sMap HSS.out (by omega))
               exact ⟨r.take k, by rw [HS.out]; rfl, hlt, r.drop k, 0, hf.1, HG.out.trans hf.2, fun _ => HQ.out, hld⟩)
            | (have hf := fin2 (S := S) (c' := 0) HK.out (RB1.out (by first | rfl | omega)) (by omega) (fun ad hn e => absurd hn (by omega))
               exact ⟨r.take k, by rw [HS.out]; rfl, hlt, r.drop k, 0, hf.1, HG.out.trans hf.2, fun _ => HQ.out, hld⟩)
  · have hbn : (b != 0) = true := by simpa using hb0
    have HQ : Hid (Rd S w w1 p l (encN ([] : List UInt8).length ++ [])) := Lib.hid ⟨r, b, hr, hg, fun e => absurd e hb0, hll⟩
    clear hr hg hx
    go_wp2_with fail
    refine HB.out.mono ?_
    rintro e w2 ⟨rfl, rfl⟩
    go_wp2
    go_ret
    exact ⟨[], rfl, by simp, HQ.out⟩
theorem flagW (w : World) (B p : Nat) (v : Value) (l : List UInt8) (h : Wr w B p v l) (hl : l.length ≤ 100000000) (t : Bool) (hB : B ≤ w.heap.size) :
    Calls Try.prog 61 #[.pointer (some ⟨p, 0, none⟩), .bool t] w fun e w' => e = .returned (.tuple #[]) ∧ Put w w' B p v l (encN (if t = true then 1 else 0)) := by
  cases t with
  | true =>
    have HN := Lib.hid (numW w B p v l h hl 1 (by decide) (by decide) hB)
    clear h
    go_enter Try.func61, Try.ntmps61
    go_wp2_with fail
    refine HN.out.mono ?_
    rintro e w1 ⟨rfl, hp⟩
    have HP := Lib.hid hp
    clear hp
    go_wp2
    refine bodyPost_ret (results_none rfl _ _ _) rfl ?_
    exact ⟨rfl, HP.out⟩
  | false =>
    have HN := Lib.hid (numW w B p v l h hl 0 (by decide) (by decide) hB)
    clear h
    go_enter Try.func61, Try.ntmps61
    go_wp2_with fail
    refine HN.out.mono ?_
    rintro e w1 ⟨rfl, hp⟩
    have HP := Lib.hid hp
    clear hp
    go_wp2
    refine bodyPost_end (results_none rfl _ _ _) rfl ?_
    exact ⟨rfl, HP.out⟩
/-- What lies in new blocks alone changes nothing of a writing. -/
theorem Put.new {w w1 w2 : World} {B p : Nat} {v : Value} {l x : List UInt8} (h : Put w w1 B p v l x) (hb : Below w1.heap.size w1 w2) : Put w w2 B p v l x := by
  obtain ⟨v', h1, h2, h3⟩ := h
  have ho : w2.ownsRow B 5 1 v' (l ++ x).length (bytesV (l ++ x)) := own_below h1.own hb
  refine ⟨v', ⟨h1.bk.below hb h1.bk.lt, ho, h1.2.2.1, h1.2.2.2⟩, ⟨hb.os.trans h2.os, hb.tape.trans h2.tape, hb.output.trans h2.output, Nat.le_trans h2.size hb.size, fun i hi hp hr => ?_⟩, h3⟩
  rw [hb.block i (Nat.lt_of_lt_of_le hi h2.size)]
  exact h2.block i hi hp hr
theorem Wr.below {w w' : World} {B p : Nat} {v : Value} {l : List UInt8} (h : Wr w B p v l) (hb : Below w.heap.size w w') : Wr w' B p v l :=
  ⟨h.bk.below hb h.bk.lt, own_below h.own hb, h.2.2.1, h.2.2.2⟩
/-- A writing in a world that has new blocks is one of the world without. -/
theorem Put.old {w w1 w2 : World} {B p : Nat} {v : Value} {l x : List UInt8} (hb : Below w.heap.size w w1) (h : Put w1 w2 B p v l x) : Put w w2 B p v l x := by
  obtain ⟨v', h1, h2, h3⟩ := h
  refine ⟨v', h1, ⟨h2.os.trans hb.os, h2.tape.trans hb.tape, h2.output.trans hb.output, Nat.le_trans hb.size h2.size, fun i hi hp hr => ?_⟩, ?_⟩
  · rw [h2.block i (Nat.lt_of_lt_of_le hi hb.size) hp hr]; exact hb.block i hi
  · rcases h3 with e | e
    · exact .inl e
    · exact .inr (fun k hk => Nat.le_trans hb.size (e k hk))
set_option maxHeartbeats 1000000 in
theorem stampW (w : World) (B p : Nat) (v : Value) (l : List UInt8) (h : Wr w B p v l) (hl : l.length ≤ 1000000) (a b : Int) (ha0 : -9223372036854775808 ≤ a) (ha1 : a ≤ 9223372036854775807) (hb0 : -9223372036854775808 ≤ b) (hb1 : b ≤ 9223372036854775807) (hB : B ≤ w.heap.size) :
    Calls Try.prog 64 #[.pointer (some ⟨p, 0, none⟩), .agg #[.int .i64 a, .int .i64 b]] w fun e w' => e = .returned (.tuple #[]) ∧ Put w w' B p v l (encN a.toNat ++ encN b.toNat) := by
  have b0 := (Below.refl w.heap.size w).alloc (Nat.le_refl _) (.cells #[.int .i64 a, .int .i64 b] 23)
  have B0 := Lib.hid b0
  have hw0 := h.below b0
  have k0 := Lib.hid (Bk.new w 23 #[.int .i64 a, .int .i64 b])
  have HN := Lib.hid (numW _ B p v l hw0 (by omega) a ha1 ha0 (Nat.le_trans hB b0.size))
  have hpl := h.bk.lt
  have hrow : v.ownBlock ≠ some w.heap.size := by intro e; have := own_bound h.own e; omega
  have hel := encN_len a.toNat
  clear h hw0 b0
  go_enter Try.func64, Try.ntmps64
  go_wp2_with fail
  refine HN.out.mono ?_
  rintro e w1 ⟨rfl, v1, h1, h2, h3⟩
  have k1 : Bk w1 w.heap.size 23 #[.int .i64 a, .int .i64 b] := k0.out.of_same (h2.block _ (by simp) (by omega) (fun e => hrow e.symm))
  have c1 : w1.cell? ⟨w.heap.size, 1, none⟩ = some (.int .i64 b) := by rw [k1.cell]; rfl
  have c1' : w1.cell? ⟨w.heap.size, 0 + 1, none⟩ = some (.int .i64 b) := c1
  have HN2 := Lib.hid (numW w1 B p v1 _ h1 (by rw [List.length_append]; omega) b hb1 hb0 (Nat.le_trans hB (by have := h2.size; simp at this; omega)))
  have HF := Lib.hid h2
  have HT : Hid (Turned _ v v1) := Lib.hid h3
  clear h1 h2 h3 k1
  go_wp2_with fail
  refine HN2.out.mono ?_
  rintro e w2 ⟨rfl, hp⟩
  have HP := Lib.hid (Put.old B0.out (Put.then HF.out HT.out hp))
  clear hp
  go_wp2
  refine bodyPost_end (results_none rfl _ _ _) rfl ?_
  exact ⟨rfl, HP.out⟩
end Go.Proofs.Ytpdnedgoldjghaa.Wir
