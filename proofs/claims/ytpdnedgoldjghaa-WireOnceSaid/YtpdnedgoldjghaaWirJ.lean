import Derived.Test.YtpdnedgoldjghaaWirI
/- The law WireOnce. -/
namespace Go.Proofs.Ytpdnedgoldjghaa.Wir
open Go.RowKit WirP

theorem Wr.grownR {w w' : World} {B p p1 : Nat} {v : Value} {l : List UInt8} (h : Wr w B p v l) (hg : w.grownBy w' (some p1)) (hp : p1 < B) : Wr w' B p v l := by
  refine ⟨h.1.grown hg (fun e => by injection e with e; have := h.2.2.2; omega), h.2.1.kept hg ?_, h.2.2.1, h.2.2.2⟩
  cases hv : v.ownBlock with
  | none => exact .inl rfl
  | some k => exact .inr (fun e => by injection e with e; have := (h.own.lt k hv).1; omega)
theorem Rdr.low {w w' : World} {p B : Nat} {l : List UInt8} {b : Int} (h : Rdr (fun g => g < p) w p l b) (hp : p < B) (hb : Below B w w') : Rdr (fun g => g < p) w' p l b := by
  obtain ⟨A, n, c, h1, h2, h3, h4⟩ := h
  refine ⟨A, n, c, h1.of_same (hb.block p hp), ⟨h2.1, h2.2.1, fun hn => ?_⟩, h3, h4⟩
  obtain ⟨ad, e, hlt, hc⟩ := h2.2.2 hn
  have hs := h4 ad hn e
  exact ⟨ad, e, Nat.lt_of_lt_of_le hlt hb.size, fun j hj => (hb.cell (by rw [addr_block]; omega)).trans (hc j hj)⟩
theorem Rdr.set {S : Nat → Prop} {w : World} {p g i : Nat} {l : List UInt8} {b : Int} {t : TypeId} {a c d e : Int} {s : ByteArray} {u : Value} (h : Rdr S w p l b) (hp : p ≠ g) (hk : Bk w g t #[.int .i64 a, .int .i64 c, .string s, .int .i64 d, .int .i64 e]) : Rdr S (w.setCell ⟨g, i, none⟩ u) p l b := by
  obtain ⟨A, n, c', h1, h2, h3, h4⟩ := h
  have hg := grown_set w g i u
  exact ⟨A, n, c', h1.grown hg (by intro e; injection e with e; exact hp e), Rb.over h2 hg hk (fun i x => by rcases i with _ | _ | _ | _ | _ | i <;> simp), h3, h4⟩
theorem Wr.set {w : World} {B p g i : Nat} {v : Value} {l : List UInt8} {u : Value} (h : Wr w B p v l) (hp : p ≠ g) (hv : v.ownBlock ≠ some g) : Wr (w.setCell ⟨g, i, none⟩ u) B p v l := by
  have hg := grown_set w g i u
  exact ⟨h.1.grown hg (fun e => by injection e with e; exact hp e), h.2.1.kept hg (.inr hv), h.2.2.1, h.2.2.2⟩
theorem left0 {S : Nat → Prop} (w : World) (p : Nat) (l : List UInt8) (h : Rdr S w p l 0) : Calls Try.prog 35 #[.pointer (some ⟨p, 0, none⟩)] w fun e w' => e = .returned (.int .i64 (l.length : Nat)) ∧ w = w' :=
  (leftR w p l 0 h).mono fun _ _ ⟨h1, h2⟩ => ⟨by rw [h1, if_pos rfl], h2⟩
theorem leftX {S : Nat → Prop} (w : World) (p : Nat) (l : List UInt8) (b : Int) (h : Rdr S w p l b) (hb : b ≠ 0) : Calls Try.prog 35 #[.pointer (some ⟨p, 0, none⟩)] w fun e w' => e = .returned (.int .i64 0) ∧ w = w' :=
  (leftR w p l b h).mono fun _ _ ⟨h1, h2⟩ => ⟨by rw [h1, if_neg hb], h2⟩
theorem i64_of {q : Nat} (h : q < 128 ^ 9) : i64 (q : Int) := by
  have : (128 : Nat) ^ 9 = 9223372036854775808 := by decide
  exact ⟨by omega, by omega⟩
theorem take_on (l x l' : List UInt8) (d : Nat) (h : l.drop d = x ++ l') (hd : d ≤ l.length) : l.take d ++ x = l.take (d + x.length) ∧ l.drop (d + x.length) = l' ∧ d + x.length ≤ l.length ∧ l'.length = l.length - d - x.length := by
  have hl := congrArg List.length h
  rw [List.length_drop, List.length_append] at hl
  refine ⟨?_, ?_, by omega, by omega⟩
  · rw [List.take_add, h, List.take_left]
  · rw [← List.drop_drop, h, List.drop_left]
set_option maxRecDepth 100000 in
set_option maxHeartbeats 8000000 in
theorem once (w : World) (A : Option Addr) (n c : Nat) (l : List UInt8) (h : Rb w A n l) (hcap : n ≤ c) (K : Option Addr) (m c' : Nat) (kl : List UInt8) (h' : Rb w K m kl) :
    Calls Try.prog 10 #[.slice A n c, .slice K m c'] w fun e w' => e = .returned (.bool true) ∧ Below w.heap.size w w' := by
  have H := Lib.hid h
  have H' := Lib.hid h'
  have hm63 := h'.bound
  have hll : Hid (l.length = n) := Lib.hid h.len
  clear h h'
  by_cases hn : 400 < n
  · go_enter Try.func10, Try.ntmps10
    go_wp2_with fail
    refine (awake _).mono ?_
    rintro e w1 ⟨rfl, hb1⟩
    go_wp2
    go_ret
    exact ⟨rfl, hb1⟩
  · go_enter Try.func10, Try.ntmps10
    go_wp2_with fail
    refine (openR _ A n c l H.out (by omega)).mono ?_
    rintro e w1 ⟨p1, rfl, hp1, hr1, hb1⟩
    have hp1B : p1 < w1.heap.size := hr1.lt
    have b2 := (Below.refl w1.heap.size w1).alloc (Nat.le_refl _) (.cells #[.slice none 0 0] 54)
    have R2 := Lib.hid (hr1.below b2)
    have W2 : Hid (Wr (w1.alloc (.cells #[.slice none 0 0] 54)) w1.heap.size w1.heap.size (.slice none 0 0) []) := Lib.hid ⟨Bk.new w1 _ _, World.ownsRow_nil _ _ _ _, by simp [Value.ownBlock], Nat.le_refl _⟩
    have B2 := Lib.hid (Below.then_below hb1 b2)
    have hs2 : w1.heap.size ≤ (w1.alloc (.cells #[.slice none 0 0] 54)).heap.size := b2.size
    have hwB : w.heap.size ≤ w1.heap.size := hb1.size
    clear hr1 hb1 b2
    generalize hBB : w1.heap.size = B at *
    go_wp2
    go_loopw [7] (fun i wr => ∃ (k d : Nat) (v : Value), k ≤ m ∧ k ≤ 40 ∧ d ≤ n ∧ i = .int .i64 k ∧ Rdr (fun g => g < p1) wr p1 (l.drop d) 0 ∧ Wr wr B B v (l.take d) ∧ Below w.heap.size w wr ∧ B ≤ wr.heap.size) (fun i _ => m - (intOf i).toNat)
    case atStart => exact ⟨0, 0, .slice none 0 0, by omega, by omega, by omega, rfl, R2.out, W2.out, B2.out, hs2⟩
    case round =>
      obtain ⟨k, d, v, hk, hk40, hd, rfl, hr, hw, hb, hsz⟩ := hrel
      have R := Lib.hid hr
      have W := Lib.hid hw
      have BB := Lib.hid hb
      have hdl : (l.drop d).length = n - d := by rw [List.length_drop, hll.out]
      have hfin : Hid (∀ (hi : ¬ (k < m ∧ k < 40)), True) := Lib.hid (fun _ => trivial)
      clear hr hw hb R2 W2 B2 hs2 hfin
      by_cases hgo : k < m ∧ k < 40
      · obtain ⟨hkm, hk4⟩ := hgo
        have hkm' : (k : Int) < (m : Int) := by omega
        have hk4' : (k : Int) < 40 := by omega
        have HL := Lib.hid (left0 wr p1 _ R.out)
        rw [hdl] at HL
        obtain ⟨ka, rfl, hkc⟩ := (H'.out.below BB.out).at_ hkm
        have hkb := bt_lt kl k
        generalize bt kl k = kb at *
        obtain ⟨b5, kk5⟩ := box5 wr 56 #[.int .i64 ((kb : Int) % 4), .int .i64 0, .string ⟨#[]⟩, .int .i64 0, .int .i64 0]
        have R5 := Lib.hid (R.out.below b5)
        have W5 := Lib.hid (W.out.below b5)
        have BB5 := Lib.hid (Below.then_below BB.out b5)
        have K5 := Lib.hid kk5
        have hpg : p1 < wr.heap.size := by omega
        have hvg : v.ownBlock ≠ some wr.heap.size := by intro e; have := own_bound W.out.own e; omega
        have hs5 : B ≤ (wr.alloc (.cells #[.int .i64 ((kb : Int) % 4), .int .i64 0, .string ⟨#[]⟩, .int .i64 0, .int .i64 0] 56)).heap.size := Nat.le_trans hsz b5.size
        have hBg : B ≠ wr.heap.size := by have := W.out.bk.lt; omega
        clear b5 kk5
        go_wp2_with fail
        refine HL.out.mono ?_
        rintro e w3 ⟨rfl, rfl⟩
        have hk4c : kb % 4 = 0 ∨ kb % 4 = 1 ∨ kb % 4 = 2 ∨ kb % 4 = 3 := by omega
        have hkbm : (kb : Int) % 4 = ((kb % 4 : Nat) : Int) := by omega
        rw [hkbm] at K5 R5 W5 BB5 hs5
        generalize kb % 4 = kq at *
        clear HL R W BB
        rcases hk4c with rfl | rfl | rfl | rfl
        · go_wp2_with fail
          refine (numC _ p1 _ R5.out).mono ?_
          rintro e w5 ⟨q, rfl, hq, l6, b6, hr6', hg6, hx6, hl6, -⟩
          have k6' := K5.out.grown hg6 (by intro e; injection e with e; omega)
          have hge : w.heap.size ≤ wr.heap.size := Nat.le_trans hwB hsz
          obtain ⟨c0, c1, c2, c3, c4, c5, c6, c7, c8, c9⟩ := cells5 k6'
          have R60 := Lib.hid hr6'
          have W60 := Lib.hid (W5.out.grownR hg6 hp1B)
          have BB60 := Lib.hid (BB5.out.grown hg6 BB5.out.size (fun j e => by injection e with e; omega))
          have K60 : Hid (Bk w5 wr.heap.size 56 #[.int .i64 0, .int .i64 0, .string ⟨#[]⟩, .int .i64 0, .int .i64 0]) := Lib.hid k6'
          have HS60 : Hid (B ≤ w5.heap.size) := Lib.hid (Nat.le_trans hs5 hg6.size)
          have f0 : w5.frozen? ⟨wr.heap.size, 1, none⟩ = false := K60.out.free 1
          have f0' : w5.frozen? ⟨wr.heap.size, 0 + 1, none⟩ = false := f0
          have R61 := Lib.hid (R60.out.set (i := 1) (u := .int .i64 q) (by omega) K60.out)
          have W61 := Lib.hid (W60.out.set (g := wr.heap.size) (i := 1) (u := .int .i64 q) hBg hvg)
          have BB61 := Lib.hid (BB60.out.setCell (p := ⟨wr.heap.size, 1, none⟩) hge (.int .i64 q))
          have K61 : Hid (Bk (w5.setCell ⟨wr.heap.size, 1, none⟩ (.int .i64 q)) wr.heap.size 56 #[.int .i64 0, .int .i64 q, .string ⟨#[]⟩, .int .i64 0, .int .i64 0]) := Lib.hid (by have := K60.out.set 1 (.int .i64 q); simpa using this)
          have HS61 : Hid (B ≤ (w5.setCell ⟨wr.heap.size, 1, none⟩ (.int .i64 q)).heap.size) := Lib.hid (by have := HS60.out; simpa [World.setCell] using this)
          have R6 := R61
          have W6 := W61
          have BB6 := BB61
          have K6 := K61
          have HS6 := HS61
          have HN6 : Hid (i64 (q : Int)) := Lib.hid (i64_of hq)
          have HT6 : Hid (i64 0) := Lib.hid (⟨by decide, by decide⟩)
          have HR6 : Hid (i64 0) := Lib.hid (⟨by decide, by decide⟩)
          have HLX : Hid (([] : List UInt8).length ≤ 1000000) := Lib.hid (by decide)
          have he : encP 0 (q : Int) [] 0 0 = encN q := by rw [encP, if_pos rfl, Int.toNat_natCast]
          have HX6 : Hid (b6 = 0 → l.drop d = encP 0 (q : Int) [] 0 0 ++ l6) := Lib.hid (fun e => by rw [he]; exact hx6 e)
          have HP6 : Hid (1 ≤ (encP 0 (q : Int) [] 0 0).length) := Lib.hid (by rw [he]; exact encN_pos _)
          clear he hx6 hr6' hg6 k6' K5 R5 W5 BB5 R60 W60 BB60 K60 HS60 R61 W61 BB61 K61 HS61 
          have HBAD := Lib.hid (badR _ p1 l6 b6 R6.out)
          have hw6 := HS6.out
          by_cases hbz : b6 = 0
          · subst hbz
            have hx := HX6.out rfl
            obtain ⟨t1, t2, t3, t4⟩ := take_on l (encP 0 ((q : Int)) [] (0) (0)) l6 d hx (by rw [hll.out]; omega)
            have hxp := HP6.out
            have HL6 := Lib.hid (left0 _ p1 l6 R6.out)
            have HWW := Lib.hid (writesW _ B B v (l.take d) W6.out (by rw [List.length_take]; omega) 0 ((q : Int)) [] (0) (0) HLX.out HN6.out HT6.out HR6.out hw6)
            unfold ptV at HWW
            obtain ⟨c0, c1, c2, c3, c4, c5, c6, c7, c8, c9⟩ := cells5 K6.out
            rw [hll.out] at t3
            have hlt : ¬ ((n - d : Nat) : Int) ≤ (l6.length : Int) := by rw [t4, hll.out]; omega
            have T1 := Lib.hid t1
            have T2 := Lib.hid t2
            have T3 := Lib.hid t3
            clear t1 t2 t3 t4 hx hxp
            go_wp2_with fail
            refine HBAD.out.mono ?_
            rintro e w7 ⟨rfl, rfl⟩
            go_wp2_with fail
            refine HL6.out.mono ?_
            rintro e w7 ⟨rfl, rfl⟩
            go_wp2_with fail
            refine HWW.out.mono ?_
            rintro e w8 ⟨A8, n8, d8, rfl, _, _, hput⟩
            have B8 := Lib.hid (hput.below W6.out hw6 (Below.refl B _))
            have R8 := Lib.hid (R6.out.low hp1B B8.out)
            have BB8 := Lib.hid (BB6.out.trans (B8.out.mono hwB))
            obtain ⟨v8, h8, hf8, _⟩ := hput
            have W8 := Lib.hid h8
            have hs8 : B ≤ w8.heap.size := Nat.le_trans hw6 B8.out.size
            clear h8 hf8 c0 c1 c2 c3 c4 c5 c6 c7 c8 c9 HWW HL6 HBAD
            go_wp2
            go_roundw
            case rel => exact ⟨k + 1, d + (encP 0 ((q : Int)) [] (0) (0)).length, v8, by omega, by omega, T3.out, by go_num, by rw [T2.out]; exact R8.out, by rw [← T1.out]; exact W8.out, BB8.out, hs8⟩
            case measure => simp [intOf]; omega
          · have hbn : (b6 != 0) = true := by simpa using hbz
            have HL6 := Lib.hid (leftX _ p1 l6 b6 R6.out hbz)
            go_wp2_with fail
            refine HBAD.out.mono ?_
            rintro e w7 ⟨rfl, rfl⟩
            go_wp2_with fail
            refine HL6.out.mono ?_
            rintro e w7 ⟨rfl, rfl⟩
            go_wp2_with fail
            refine (awake _).mono ?_
            rintro e w7 ⟨rfl, hb7⟩
            go_wp2
            go_ret
            exact ⟨rfl, Below.then_below BB6.out hb7⟩
        · go_wp2_with fail
          refine (flagC _ p1 _ R5.out).mono ?_
          rintro e w5 ⟨t, rfl, l6, b6, hr6', hg6, hx6, hl6⟩
          cases t with
          | true =>
            have hx6 : b6 = 0 → l.drop d = encN 1 ++ l6 := hx6
            have k6' := K5.out.grown hg6 (by intro e; injection e with e; omega)
            have hge : w.heap.size ≤ wr.heap.size := Nat.le_trans hwB hsz
            obtain ⟨c0, c1, c2, c3, c4, c5, c6, c7, c8, c9⟩ := cells5 k6'
            have R60 := Lib.hid hr6'
            have W60 := Lib.hid (W5.out.grownR hg6 hp1B)
            have BB60 := Lib.hid (BB5.out.grown hg6 BB5.out.size (fun j e => by injection e with e; omega))
            have K60 : Hid (Bk w5 wr.heap.size 56 #[.int .i64 1, .int .i64 0, .string ⟨#[]⟩, .int .i64 0, .int .i64 0]) := Lib.hid k6'
            have HS60 : Hid (B ≤ w5.heap.size) := Lib.hid (Nat.le_trans hs5 hg6.size)
            have f0 : w5.frozen? ⟨wr.heap.size, 1, none⟩ = false := K60.out.free 1
            have f0' : w5.frozen? ⟨wr.heap.size, 0 + 1, none⟩ = false := f0
            have R61 := Lib.hid (R60.out.set (i := 1) (u := .int .i64 1) (by omega) K60.out)
            have W61 := Lib.hid (W60.out.set (g := wr.heap.size) (i := 1) (u := .int .i64 1) hBg hvg)
            have BB61 := Lib.hid (BB60.out.setCell (p := ⟨wr.heap.size, 1, none⟩) hge (.int .i64 1))
            have K61 : Hid (Bk (w5.setCell ⟨wr.heap.size, 1, none⟩ (.int .i64 1)) wr.heap.size 56 #[.int .i64 1, .int .i64 1, .string ⟨#[]⟩, .int .i64 0, .int .i64 0]) := Lib.hid (by have := K60.out.set 1 (.int .i64 1); simpa using this)
            have HS61 : Hid (B ≤ (w5.setCell ⟨wr.heap.size, 1, none⟩ (.int .i64 1)).heap.size) := Lib.hid (by have := HS60.out; simpa [World.setCell] using this)
            have R6 := R61
            have W6 := W61
            have BB6 := BB61
            have K6 := K61
            have HS6 := HS61
            have HN6 : Hid (i64 1) := Lib.hid (⟨by decide, by decide⟩)
            have HT6 : Hid (i64 0) := Lib.hid (⟨by decide, by decide⟩)
            have HR6 : Hid (i64 0) := Lib.hid (⟨by decide, by decide⟩)
            have HLX : Hid (([] : List UInt8).length ≤ 1000000) := Lib.hid (by decide)
            have he : encP 1 1 [] 0 0 = encN 1 := by rw [encP, if_neg (by decide), if_pos rfl]; rfl
            have HX6 : Hid (b6 = 0 → l.drop d = encP 1 1 [] 0 0 ++ l6) := Lib.hid (fun e => by rw [he]; exact hx6 e)
            have HP6 : Hid (1 ≤ (encP 1 1 [] 0 0).length) := Lib.hid (by rw [he]; exact encN_pos _)
            clear he hx6 hr6' hg6 k6' K5 R5 W5 BB5 R60 W60 BB60 K60 HS60 R61 W61 BB61 K61 HS61 
            have HBAD := Lib.hid (badR _ p1 l6 b6 R6.out)
            have hw6 := HS6.out
            by_cases hbz : b6 = 0
            · subst hbz
              have hx := HX6.out rfl
              obtain ⟨t1, t2, t3, t4⟩ := take_on l (encP 1 (1) [] (0) (0)) l6 d hx (by rw [hll.out]; omega)
              have hxp := HP6.out
              have HL6 := Lib.hid (left0 _ p1 l6 R6.out)
              have HWW := Lib.hid (writesW _ B B v (l.take d) W6.out (by rw [List.length_take]; omega) 1 (1) [] (0) (0) HLX.out HN6.out HT6.out HR6.out hw6)
              unfold ptV at HWW
              obtain ⟨c0, c1, c2, c3, c4, c5, c6, c7, c8, c9⟩ := cells5 K6.out
              rw [hll.out] at t3
              have hlt : ¬ ((n - d : Nat) : Int) ≤ (l6.length : Int) := by rw [t4, hll.out]; omega
              have T1 := Lib.hid t1
              have T2 := Lib.hid t2
              have T3 := Lib.hid t3
              clear t1 t2 t3 t4 hx hxp
              go_wp2_with fail
              refine HBAD.out.mono ?_
              rintro e w7 ⟨rfl, rfl⟩
              go_wp2_with fail
              refine HL6.out.mono ?_
              rintro e w7 ⟨rfl, rfl⟩
              go_wp2_with fail
              refine HWW.out.mono ?_
              rintro e w8 ⟨A8, n8, d8, rfl, _, _, hput⟩
              have B8 := Lib.hid (hput.below W6.out hw6 (Below.refl B _))
              have R8 := Lib.hid (R6.out.low hp1B B8.out)
              have BB8 := Lib.hid (BB6.out.trans (B8.out.mono hwB))
              obtain ⟨v8, h8, hf8, _⟩ := hput
              have W8 := Lib.hid h8
              have hs8 : B ≤ w8.heap.size := Nat.le_trans hw6 B8.out.size
              clear h8 hf8 c0 c1 c2 c3 c4 c5 c6 c7 c8 c9 HWW HL6 HBAD
              go_wp2
              go_roundw
              case rel => exact ⟨k + 1, d + (encP 1 (1) [] (0) (0)).length, v8, by omega, by omega, T3.out, by go_num, by rw [T2.out]; exact R8.out, by rw [← T1.out]; exact W8.out, BB8.out, hs8⟩
              case measure => simp [intOf]; omega
            · have hbn : (b6 != 0) = true := by simpa using hbz
              have HL6 := Lib.hid (leftX _ p1 l6 b6 R6.out hbz)
              go_wp2_with fail
              refine HBAD.out.mono ?_
              rintro e w7 ⟨rfl, rfl⟩
              go_wp2_with fail
              refine HL6.out.mono ?_
              rintro e w7 ⟨rfl, rfl⟩
              go_wp2_with fail
              refine (awake _).mono ?_
              rintro e w7 ⟨rfl, hb7⟩
              go_wp2
              go_ret
              exact ⟨rfl, Below.then_below BB6.out hb7⟩
          | false =>
            have hx6 : b6 = 0 → l.drop d = encN 0 ++ l6 := hx6
            have k6' := K5.out.grown hg6 (by intro e; injection e with e; omega)
            have hge : w.heap.size ≤ wr.heap.size := Nat.le_trans hwB hsz
            obtain ⟨c0, c1, c2, c3, c4, c5, c6, c7, c8, c9⟩ := cells5 k6'
            have R60 := Lib.hid hr6'
            have W60 := Lib.hid (W5.out.grownR hg6 hp1B)
            have BB60 := Lib.hid (BB5.out.grown hg6 BB5.out.size (fun j e => by injection e with e; omega))
            have K60 : Hid (Bk w5 wr.heap.size 56 #[.int .i64 1, .int .i64 0, .string ⟨#[]⟩, .int .i64 0, .int .i64 0]) := Lib.hid k6'
            have HS60 : Hid (B ≤ w5.heap.size) := Lib.hid (Nat.le_trans hs5 hg6.size)
            have R6 := R60
            have W6 := W60
            have BB6 := BB60
            have K6 := K60
            have HS6 := HS60
            have HN6 : Hid (i64 0) := Lib.hid (⟨by decide, by decide⟩)
            have HT6 : Hid (i64 0) := Lib.hid (⟨by decide, by decide⟩)
            have HR6 : Hid (i64 0) := Lib.hid (⟨by decide, by decide⟩)
            have HLX : Hid (([] : List UInt8).length ≤ 1000000) := Lib.hid (by decide)
            have he : encP 1 0 [] 0 0 = encN 0 := by rw [encP, if_neg (by decide), if_pos rfl]; rfl
            have HX6 : Hid (b6 = 0 → l.drop d = encP 1 0 [] 0 0 ++ l6) := Lib.hid (fun e => by rw [he]; exact hx6 e)
            have HP6 : Hid (1 ≤ (encP 1 0 [] 0 0).length) := Lib.hid (by rw [he]; exact encN_pos _)
            clear he hx6 hr6' hg6 k6' K5 R5 W5 BB5 R60 W60 BB60 K60 HS60 
            have HBAD := Lib.hid (badR _ p1 l6 b6 R6.out)
            have hw6 := HS6.out
            by_cases hbz : b6 = 0
            · subst hbz
              have hx := HX6.out rfl
              obtain ⟨t1, t2, t3, t4⟩ := take_on l (encP 1 (0) [] (0) (0)) l6 d hx (by rw [hll.out]; omega)
              have hxp := HP6.out
              have HL6 := Lib.hid (left0 _ p1 l6 R6.out)
              have HWW := Lib.hid (writesW _ B B v (l.take d) W6.out (by rw [List.length_take]; omega) 1 (0) [] (0) (0) HLX.out HN6.out HT6.out HR6.out hw6)
              unfold ptV at HWW
              obtain ⟨c0, c1, c2, c3, c4, c5, c6, c7, c8, c9⟩ := cells5 K6.out
              rw [hll.out] at t3
              have hlt : ¬ ((n - d : Nat) : Int) ≤ (l6.length : Int) := by rw [t4, hll.out]; omega
              have T1 := Lib.hid t1
              have T2 := Lib.hid t2
              have T3 := Lib.hid t3
              clear t1 t2 t3 t4 hx hxp
              go_wp2_with fail
              refine HBAD.out.mono ?_
              rintro e w7 ⟨rfl, rfl⟩
              go_wp2_with fail
              refine HL6.out.mono ?_
              rintro e w7 ⟨rfl, rfl⟩
              go_wp2_with fail
              refine HWW.out.mono ?_
              rintro e w8 ⟨A8, n8, d8, rfl, _, _, hput⟩
              have B8 := Lib.hid (hput.below W6.out hw6 (Below.refl B _))
              have R8 := Lib.hid (R6.out.low hp1B B8.out)
              have BB8 := Lib.hid (BB6.out.trans (B8.out.mono hwB))
              obtain ⟨v8, h8, hf8, _⟩ := hput
              have W8 := Lib.hid h8
              have hs8 : B ≤ w8.heap.size := Nat.le_trans hw6 B8.out.size
              clear h8 hf8 c0 c1 c2 c3 c4 c5 c6 c7 c8 c9 HWW HL6 HBAD
              go_wp2
              go_roundw
              case rel => exact ⟨k + 1, d + (encP 1 (0) [] (0) (0)).length, v8, by omega, by omega, T3.out, by go_num, by rw [T2.out]; exact R8.out, by rw [← T1.out]; exact W8.out, BB8.out, hs8⟩
              case measure => simp [intOf]; omega
            · have hbn : (b6 != 0) = true := by simpa using hbz
              have HL6 := Lib.hid (leftX _ p1 l6 b6 R6.out hbz)
              go_wp2_with fail
              refine HBAD.out.mono ?_
              rintro e w7 ⟨rfl, rfl⟩
              go_wp2_with fail
              refine HL6.out.mono ?_
              rintro e w7 ⟨rfl, rfl⟩
              go_wp2_with fail
              refine (awake _).mono ?_
              rintro e w7 ⟨rfl, hb7⟩
              go_wp2
              go_ret
              exact ⟨rfl, Below.then_below BB6.out hb7⟩
        · go_wp2_with fail
          refine (textC _ p1 _ 500 R5.out).mono ?_
          rintro e w5 ⟨s6, rfl, hsl, l6, b6, hr6', hg6, hx6, hl6⟩
          have k6' := K5.out.grown hg6 (by intro e; injection e with e; omega)
          have hge : w.heap.size ≤ wr.heap.size := Nat.le_trans hwB hsz
          obtain ⟨c0, c1, c2, c3, c4, c5, c6, c7, c8, c9⟩ := cells5 k6'
          have R60 := Lib.hid hr6'
          have W60 := Lib.hid (W5.out.grownR hg6 hp1B)
          have BB60 := Lib.hid (BB5.out.grown hg6 BB5.out.size (fun j e => by injection e with e; omega))
          have K60 : Hid (Bk w5 wr.heap.size 56 #[.int .i64 2, .int .i64 0, .string ⟨#[]⟩, .int .i64 0, .int .i64 0]) := Lib.hid k6'
          have HS60 : Hid (B ≤ w5.heap.size) := Lib.hid (Nat.le_trans hs5 hg6.size)
          have f0 : w5.frozen? ⟨wr.heap.size, 2, none⟩ = false := K60.out.free 2
          have f0' : w5.frozen? ⟨wr.heap.size, 0 + 2, none⟩ = false := f0
          have R61 := Lib.hid (R60.out.set (i := 2) (u := .string (tx s6)) (by omega) K60.out)
          have W61 := Lib.hid (W60.out.set (g := wr.heap.size) (i := 2) (u := .string (tx s6)) hBg hvg)
          have BB61 := Lib.hid (BB60.out.setCell (p := ⟨wr.heap.size, 2, none⟩) hge (.string (tx s6)))
          have K61 : Hid (Bk (w5.setCell ⟨wr.heap.size, 2, none⟩ (.string (tx s6))) wr.heap.size 56 #[.int .i64 2, .int .i64 0, .string (tx s6), .int .i64 0, .int .i64 0]) := Lib.hid (by have := K60.out.set 2 (.string (tx s6)); simpa using this)
          have HS61 : Hid (B ≤ (w5.setCell ⟨wr.heap.size, 2, none⟩ (.string (tx s6))).heap.size) := Lib.hid (by have := HS60.out; simpa [World.setCell] using this)
          have R6 := R61
          have W6 := W61
          have BB6 := BB61
          have K6 := K61
          have HS6 := HS61
          have HN6 : Hid (i64 0) := Lib.hid (⟨by decide, by decide⟩)
          have HT6 : Hid (i64 0) := Lib.hid (⟨by decide, by decide⟩)
          have HR6 : Hid (i64 0) := Lib.hid (⟨by decide, by decide⟩)
          have HLX : Hid ((s6 : List UInt8).length ≤ 1000000) := Lib.hid (by omega)
          have he : encP 2 0 s6 0 0 = encN s6.length ++ s6 := by rw [encP, if_neg (by decide), if_neg (by decide), if_pos rfl]
          have HX6 : Hid (b6 = 0 → l.drop d = encP 2 0 s6 0 0 ++ l6) := Lib.hid (fun e => by rw [he]; exact hx6 e)
          have HP6 : Hid (1 ≤ (encP 2 0 s6 0 0).length) := Lib.hid (by rw [he]; rw [List.length_append]; exact Nat.le_trans (encN_pos _) (Nat.le_add_right _ _))
          clear he hx6 hr6' hg6 k6' K5 R5 W5 BB5 R60 W60 BB60 K60 HS60 R61 W61 BB61 K61 HS61 
          have HBAD := Lib.hid (badR _ p1 l6 b6 R6.out)
          have hw6 := HS6.out
          by_cases hbz : b6 = 0
          · subst hbz
            have hx := HX6.out rfl
            obtain ⟨t1, t2, t3, t4⟩ := take_on l (encP 2 (0) s6 (0) (0)) l6 d hx (by rw [hll.out]; omega)
            have hxp := HP6.out
            have HL6 := Lib.hid (left0 _ p1 l6 R6.out)
            have HWW := Lib.hid (writesW _ B B v (l.take d) W6.out (by rw [List.length_take]; omega) 2 (0) s6 (0) (0) HLX.out HN6.out HT6.out HR6.out hw6)
            unfold ptV at HWW
            obtain ⟨c0, c1, c2, c3, c4, c5, c6, c7, c8, c9⟩ := cells5 K6.out
            rw [hll.out] at t3
            have hlt : ¬ ((n - d : Nat) : Int) ≤ (l6.length : Int) := by rw [t4, hll.out]; omega
            have T1 := Lib.hid t1
            have T2 := Lib.hid t2
            have T3 := Lib.hid t3
            clear t1 t2 t3 t4 hx hxp
            go_wp2_with fail
            refine HBAD.out.mono ?_
            rintro e w7 ⟨rfl, rfl⟩
            go_wp2_with fail
            refine HL6.out.mono ?_
            rintro e w7 ⟨rfl, rfl⟩
            go_wp2_with fail
            refine HWW.out.mono ?_
            rintro e w8 ⟨A8, n8, d8, rfl, _, _, hput⟩
            have B8 := Lib.hid (hput.below W6.out hw6 (Below.refl B _))
            have R8 := Lib.hid (R6.out.low hp1B B8.out)
            have BB8 := Lib.hid (BB6.out.trans (B8.out.mono hwB))
            obtain ⟨v8, h8, hf8, _⟩ := hput
            have W8 := Lib.hid h8
            have hs8 : B ≤ w8.heap.size := Nat.le_trans hw6 B8.out.size
            clear h8 hf8 c0 c1 c2 c3 c4 c5 c6 c7 c8 c9 HWW HL6 HBAD
            go_wp2
            go_roundw
            case rel => exact ⟨k + 1, d + (encP 2 (0) s6 (0) (0)).length, v8, by omega, by omega, T3.out, by go_num, by rw [T2.out]; exact R8.out, by rw [← T1.out]; exact W8.out, BB8.out, hs8⟩
            case measure => simp [intOf]; omega
          · have hbn : (b6 != 0) = true := by simpa using hbz
            have HL6 := Lib.hid (leftX _ p1 l6 b6 R6.out hbz)
            go_wp2_with fail
            refine HBAD.out.mono ?_
            rintro e w7 ⟨rfl, rfl⟩
            go_wp2_with fail
            refine HL6.out.mono ?_
            rintro e w7 ⟨rfl, rfl⟩
            go_wp2_with fail
            refine (awake _).mono ?_
            rintro e w7 ⟨rfl, hb7⟩
            go_wp2
            go_ret
            exact ⟨rfl, Below.then_below BB6.out hb7⟩
        · go_wp2_with fail
          refine (stampC _ p1 _ R5.out).mono ?_
          rintro e w5 ⟨qa, qb, rfl, hqa, hqb, l6, b6, hr6', hg6, hx6, hl6⟩
          have k6' := K5.out.grown hg6 (by intro e; injection e with e; omega)
          have hge : w.heap.size ≤ wr.heap.size := Nat.le_trans hwB hsz
          obtain ⟨c0, c1, c2, c3, c4, c5, c6, c7, c8, c9⟩ := cells5 k6'
          have R60 := Lib.hid hr6'
          have W60 := Lib.hid (W5.out.grownR hg6 hp1B)
          have BB60 := Lib.hid (BB5.out.grown hg6 BB5.out.size (fun j e => by injection e with e; omega))
          have K60 : Hid (Bk w5 wr.heap.size 56 #[.int .i64 3, .int .i64 0, .string ⟨#[]⟩, .int .i64 0, .int .i64 0]) := Lib.hid k6'
          have HS60 : Hid (B ≤ w5.heap.size) := Lib.hid (Nat.le_trans hs5 hg6.size)
          have f0 : w5.frozen? ⟨wr.heap.size, 3, none⟩ = false := K60.out.free 3
          have f0' : w5.frozen? ⟨wr.heap.size, 0 + 3, none⟩ = false := f0
          have R61 := Lib.hid (R60.out.set (i := 3) (u := .int .i64 qa) (by omega) K60.out)
          have W61 := Lib.hid (W60.out.set (g := wr.heap.size) (i := 3) (u := .int .i64 qa) hBg hvg)
          have BB61 := Lib.hid (BB60.out.setCell (p := ⟨wr.heap.size, 3, none⟩) hge (.int .i64 qa))
          have K61 : Hid (Bk (w5.setCell ⟨wr.heap.size, 3, none⟩ (.int .i64 qa)) wr.heap.size 56 #[.int .i64 3, .int .i64 0, .string ⟨#[]⟩, .int .i64 qa, .int .i64 0]) := Lib.hid (by have := K60.out.set 3 (.int .i64 qa); simpa using this)
          have HS61 : Hid (B ≤ (w5.setCell ⟨wr.heap.size, 3, none⟩ (.int .i64 qa)).heap.size) := Lib.hid (by have := HS60.out; simpa [World.setCell] using this)
          have f1 : (w5.setCell ⟨wr.heap.size, 3, none⟩ (.int .i64 qa)).frozen? ⟨wr.heap.size, 4, none⟩ = false := K61.out.free 4
          have f1' : (w5.setCell ⟨wr.heap.size, 3, none⟩ (.int .i64 qa)).frozen? ⟨wr.heap.size, 0 + 4, none⟩ = false := f1
          have f1'' : (w5.setCell ⟨wr.heap.size, 3, none⟩ (.int .i64 qa)).frozen? ⟨wr.heap.size, 3 + 1, none⟩ = false := f1
          have R62 := Lib.hid (R61.out.set (i := 4) (u := .int .i64 qb) (by omega) K61.out)
          have W62 := Lib.hid (W61.out.set (g := wr.heap.size) (i := 4) (u := .int .i64 qb) hBg hvg)
          have BB62 := Lib.hid (BB61.out.setCell (p := ⟨wr.heap.size, 4, none⟩) hge (.int .i64 qb))
          have K62 : Hid (Bk ((w5.setCell ⟨wr.heap.size, 3, none⟩ (.int .i64 qa)).setCell ⟨wr.heap.size, 4, none⟩ (.int .i64 qb)) wr.heap.size 56 #[.int .i64 3, .int .i64 0, .string ⟨#[]⟩, .int .i64 qa, .int .i64 qb]) := Lib.hid (by have := K61.out.set 4 (.int .i64 qb); simpa using this)
          have HS62 : Hid (B ≤ ((w5.setCell ⟨wr.heap.size, 3, none⟩ (.int .i64 qa)).setCell ⟨wr.heap.size, 4, none⟩ (.int .i64 qb)).heap.size) := Lib.hid (by have := HS61.out; simpa [World.setCell] using this)
          have R6 := R62
          have W6 := W62
          have BB6 := BB62
          have K6 := K62
          have HS6 := HS62
          have HN6 : Hid (i64 0) := Lib.hid (⟨by decide, by decide⟩)
          have HT6 : Hid (i64 (qa : Int)) := Lib.hid (i64_of hqa)
          have HR6 : Hid (i64 (qb : Int)) := Lib.hid (i64_of hqb)
          have HLX : Hid (([] : List UInt8).length ≤ 1000000) := Lib.hid (by decide)
          have he : encP 3 0 [] (qa : Int) (qb : Int) = encN qa ++ encN qb := by rw [encP, if_neg (by decide), if_neg (by decide), if_neg (by decide), if_pos rfl, Int.toNat_natCast, Int.toNat_natCast]
          have HX6 : Hid (b6 = 0 → l.drop d = encP 3 0 [] (qa : Int) (qb : Int) ++ l6) := Lib.hid (fun e => by rw [he]; exact hx6 e)
          have HP6 : Hid (1 ≤ (encP 3 0 [] (qa : Int) (qb : Int)).length) := Lib.hid (by rw [he]; rw [List.length_append]; exact Nat.le_trans (encN_pos _) (Nat.le_add_right _ _))
          clear he hx6 hr6' hg6 k6' K5 R5 W5 BB5 R60 W60 BB60 K60 HS60 R61 W61 BB61 K61 HS61 R62 W62 BB62 K62 HS62 
          have HBAD := Lib.hid (badR _ p1 l6 b6 R6.out)
          have hw6 := HS6.out
          by_cases hbz : b6 = 0
          · subst hbz
            have hx := HX6.out rfl
            obtain ⟨t1, t2, t3, t4⟩ := take_on l (encP 3 (0) [] ((qa : Int)) ((qb : Int))) l6 d hx (by rw [hll.out]; omega)
            have hxp := HP6.out
            have HL6 := Lib.hid (left0 _ p1 l6 R6.out)
            have HWW := Lib.hid (writesW _ B B v (l.take d) W6.out (by rw [List.length_take]; omega) 3 (0) [] ((qa : Int)) ((qb : Int)) HLX.out HN6.out HT6.out HR6.out hw6)
            unfold ptV at HWW
            obtain ⟨c0, c1, c2, c3, c4, c5, c6, c7, c8, c9⟩ := cells5 K6.out
            rw [hll.out] at t3
            have hlt : ¬ ((n - d : Nat) : Int) ≤ (l6.length : Int) := by rw [t4, hll.out]; omega
            have T1 := Lib.hid t1
            have T2 := Lib.hid t2
            have T3 := Lib.hid t3
            clear t1 t2 t3 t4 hx hxp
            go_wp2_with fail
            refine HBAD.out.mono ?_
            rintro e w7 ⟨rfl, rfl⟩
            go_wp2_with fail
            refine HL6.out.mono ?_
            rintro e w7 ⟨rfl, rfl⟩
            go_wp2_with fail
            refine HWW.out.mono ?_
            rintro e w8 ⟨A8, n8, d8, rfl, _, _, hput⟩
            have B8 := Lib.hid (hput.below W6.out hw6 (Below.refl B _))
            have R8 := Lib.hid (R6.out.low hp1B B8.out)
            have BB8 := Lib.hid (BB6.out.trans (B8.out.mono hwB))
            obtain ⟨v8, h8, hf8, _⟩ := hput
            have W8 := Lib.hid h8
            have hs8 : B ≤ w8.heap.size := Nat.le_trans hw6 B8.out.size
            clear h8 hf8 c0 c1 c2 c3 c4 c5 c6 c7 c8 c9 HWW HL6 HBAD
            go_wp2
            go_roundw
            case rel => exact ⟨k + 1, d + (encP 3 (0) [] ((qa : Int)) ((qb : Int))).length, v8, by omega, by omega, T3.out, by go_num, by rw [T2.out]; exact R8.out, by rw [← T1.out]; exact W8.out, BB8.out, hs8⟩
            case measure => simp [intOf]; omega
          · have hbn : (b6 != 0) = true := by simpa using hbz
            have HL6 := Lib.hid (leftX _ p1 l6 b6 R6.out hbz)
            go_wp2_with fail
            refine HBAD.out.mono ?_
            rintro e w7 ⟨rfl, rfl⟩
            go_wp2_with fail
            refine HL6.out.mono ?_
            rintro e w7 ⟨rfl, rfl⟩
            go_wp2_with fail
            refine (awake _).mono ?_
            rintro e w7 ⟨rfl, hb7⟩
            go_wp2
            go_ret
            exact ⟨rfl, Below.then_below BB6.out hb7⟩
      · have HBY := Lib.hid (bytesW wr B B v (l.take d) W.out (by rw [List.length_take]; omega))
        have htl : (l.take d).length = d := by rw [List.length_take, hll.out]; omega
        rw [htl] at HBY
        have HL := Lib.hid (fun W' hW => left0 W' p1 (l.drop d) (R.out.below hW))
        rw [hdl] at HL
        have hgo' : ¬ (k : Int) < (m : Int) ∨ ((k : Int) < (m : Int) ∧ ¬ (k : Int) < 40) := by omega
        clear hgo
        rcases hgo' with hg1 | ⟨hg1, hg2⟩
        all_goals
          go_wp2_with fail
          refine HBY.out.mono ?_
          rintro e w3 ⟨v3, rfl, ho3, hb3⟩
          obtain ⟨A3, c3, rfl, hc3⟩ := own_slice ho3
          have R3 := Lib.hid (Rb.of_own ho3)
          have BB3 := Lib.hid (Below.then_below BB.out hb3)
          have HL3 := Lib.hid (HL.out w3 hb3)
          have HA3 := Lib.hid ((H.out.below BB3.out).take_ hd)
          clear ho3 hb3
          have z1 : ((n : Int) - ((n - d : Nat) : Int)) = (d : Int) := by omega
          have z2 : (d : Int) ≤ (c : Int) := by omega
          have z3 : (0 : Int) ≤ (d : Int) := by omega
          go_wp2_with fail
          refine HL3.out.mono ?_
          rintro e w4 ⟨rfl, rfl⟩
          go_wp2_with fail
          refine (refSame _ A3 A d d c3 c _ _ R3.out HA3.out).mono ?_
          rintro e w5 ⟨rfl, hb5⟩
          rw [sameB_self]
          have BB5 := Lib.hid (Below.then_below BB3.out hb5)
          clear hb5
          go_wp2_with fail
          refine (awake _).mono ?_
          rintro e w7 ⟨rfl, hb7⟩
          go_wp2
          go_ret
          exact ⟨rfl, Below.then_below BB5.out hb7⟩
end Go.Proofs.Ytpdnedgoldjghaa.Wir
