import Derived.Test.YtpdnedgoldjghaaWirK
/- The law WireWrites. -/
namespace Go.Proofs.Ytpdnedgoldjghaa.Wir
open Go.RowKit WirP

theorem encP_len (k N : Int) (x : List UInt8) (t r : Int) : (encP k N x t r).length ≤ 18 + x.length := by
  unfold encP
  have h1 := encN_len N.toNat
  have h2 := encN_len (if (N == 1) = true then 1 else 0)
  have h3 := encN_len x.length
  have h4 := encN_len t.toNat
  have h5 := encN_len r.toNat
  split
  · omega
  · split
    · omega
    · split
      · rw [List.length_append]; omega
      · split
        · rw [List.length_append]; omega
        · simp
def Apart (v u : Value) : Prop := ∀ g, v.ownBlock = some g → u.ownBlock ≠ some g
theorem bthen {w w1 w2 : World} {B : Nat} (h : Below B w w1) (hB : B ≤ w1.heap.size) (hb : Below w1.heap.size w1 w2) : Below B w w2 := h.trans (hb.mono hB)
theorem stepU {w w1 w2 : World} {B : Nat} {v u u2 : Value} {l m : List UInt8} {n : Nat} (W : Wr w1 B B v l) (U : w1.ownsRow B 5 1 u n (bytesV m)) (AP : Apart v u) (UB : u.ownBlock ≠ some B) (b : Below B w w1) (hg : w1.grownBy w2 u.ownBlock) (hat : u2.ownBlock = u.ownBlock ∨ u2.ownBlock = some w1.heap.size) (hBw : B ≤ w.heap.size) :
    Hid (Below B w w2) ∧ Hid (Wr w2 B B v l) ∧ Hid (Apart v u2) ∧ Hid (u2.ownBlock ≠ some B) := by
  have hl := W.bk.lt
  refine ⟨Lib.hid (Below.then_grown b hBw hg (fun j hj => (U.lt j hj).1)), Lib.hid ⟨W.bk.grown hg (fun e => UB e.symm), W.own.kept hg ?_, W.2.2.1, W.2.2.2⟩, Lib.hid (fun g hv hu => ?_), Lib.hid (fun e => ?_)⟩
  · cases hv : v.ownBlock with
    | none => exact .inl rfl
    | some g => exact .inr (fun e => AP g hv e.symm)
  · rcases hat with e | e
    · exact AP g hv (e ▸ hu)
    · rw [e] at hu; injection hu with hu; have := own_bound W.own hv; omega
  · rcases hat with h | h
    · exact UB (h ▸ e)
    · rw [h] at e; injection e with e; omega
set_option maxRecDepth 100000 in
set_option maxHeartbeats 8000000 in
theorem writesL (w : World) (A : Option Addr) (n c : Nat) (K N : Nat → Int) (X : Nat → List UInt8) (T R : Nat → Int) (h : Pts w A n K N X T R) :
    Calls Try.prog 8 #[.slice A n c] w fun e w' => e = .returned (.bool true) ∧ Below w.heap.size w w' := by
  have H := Lib.hid h
  have hn63 := h.1
  have b2 := (Below.refl w.heap.size w).alloc (Nat.le_refl _) (.cells #[.slice none 0 0] 54)
  have W2 : Hid (Wr (w.alloc (.cells #[.slice none 0 0] 54)) w.heap.size w.heap.size (.slice none 0 0) []) := Lib.hid ⟨Bk.new w _ _, World.ownsRow_nil _ _ _ _, by simp [Value.ownBlock], Nat.le_refl _⟩
  have B2 := Lib.hid b2
  clear h b2
  obtain ⟨B, HB⟩ : ∃ B, Hid (w.heap.size = B) := ⟨_, Lib.hid rfl⟩
  rw [HB.out] at W2 B2 ⊢
  go_enter Try.func8, Try.ntmps8
  go_wp2
  rw [HB.out]
  go_loopw [5, 6] (fun u i wr => ∃ (k : Nat) (v : Value) (L : List UInt8), k ≤ n ∧ k ≤ 40 ∧ i = .int .i64 k ∧ L.length ≤ k * 400 ∧ Wr wr B B v L ∧ wr.ownsRow B 5 1 u L.length (bytesV L) ∧ Apart v u ∧ u.ownBlock ≠ some B ∧ Below B w wr) (fun _ i _ => n - (intOf i).toNat)
  case atStart => exact ⟨0, .slice none 0 0, [], by omega, by omega, rfl, by simp, W2.out, World.ownsRow_nil _ _ _ _, fun g e => by simp [Value.ownBlock] at e, by simp [Value.ownBlock], B2.out⟩
  case round =>
    obtain ⟨k, v, L, hk, hk40, rfl, hLl, hw, hu, hap, huB, hb⟩ := hrel
    have W := Lib.hid hw
    have U := Lib.hid hu
    have AP := Lib.hid hap
    have UB := Lib.hid huB
    have BB := Lib.hid hb
    have hs1 := hw.bk.lt
    clear hw hu hap huB hb W2 B2
    by_cases hgo : k < n ∧ k < 40
    · obtain ⟨hkn, hk4⟩ := hgo
      have hkn' : (k : Int) < (n : Int) := by omega
      have hk4' : (k : Int) < 40 := by omega
      obtain ⟨ad, rfl, ⟨c0, c1, c2, c3, c4, c5⟩, hi4, hxl⟩ := (H.out.below (HB.out.symm ▸ BB.out)).at_ hkn
      have hsz : (tx (X k)).size = (X k).length := rfl
      have hel := encP_len (K k) (N k) (X k) (T k) (R k)
      have HWW : Hid ((X k).length ≤ 300 → ∀ W', Wr W' B B v L → B ≤ W'.heap.size → Calls Try.prog 39 #[.pointer (some ⟨B, 0, none⟩), ptV (K k) (N k) (tx (X k)) (T k) (R k)] W' fun e w' => Written W' w' B B v L (encP (K k) (N k) (X k) (T k) (R k)) e) := Lib.hid (fun hx W' hW hB => writesW W' B B v L hW (by omega) _ _ _ _ _ (by omega) hi4.2.1 hi4.2.2.1 hi4.2.2.2 hB)
      have HWN : Hid ((X k).length ≤ 300 → ∀ W', Calls Try.prog 39 #[.pointer none, ptV (K k) (N k) (tx (X k)) (T k) (R k)] W' fun e w' => ∃ A n c, e = .returned (.slice A n c) ∧ Below W'.heap.size W' w') := Lib.hid (fun hx W' => writesNil W' _ _ _ _ _ (by omega) hi4.2.1 hi4.2.2.1 hi4.2.2.2)
      have CC : Hid (∀ W', Below B w W' → _) := Lib.hid (fun W' hW => ((H.out.below (HB.out.symm ▸ hW)).at_ hkn))
      generalize encP (K k) (N k) (X k) (T k) (R k) = x at *
      unfold ptV at HWW HWN
      generalize tx (X k) = s at *
      generalize (X k).length = xl at *
      generalize K k = Kk at *
      generalize N k = Nk at *
      generalize T k = Tk at *
      generalize R k = Rk at *
      clear hi4
      by_cases hbig : 300 < xl
      · have hbig' : (300 : Int) < (s.size : Int) := by omega
        go_wp2_with fail
        refine (awake _).mono ?_
        rintro e w7 ⟨rfl, hb7⟩
        go_wp2
        go_ret
        exact ⟨rfl, bthen BB.out (Nat.le_of_lt hs1) hb7⟩
      · have hbig' : ¬ (300 : Int) < (s.size : Int) := by omega
        go_wp2_with fail
        refine (HWW.out (by omega) wr W.out (Nat.le_of_lt hs1)).mono ?_
        rintro e w1 ⟨A1, n1, k1, rfl, hr1, hc1, hput⟩
        have B1 := Lib.hid (hput.below W.out (Nat.le_of_lt hs1) BB.out)
        obtain ⟨v1, hw1, hf1, ht1⟩ := hput
        have U1 := Lib.hid (own_fr U.out hf1 UB.out (fun g hg e => AP.out g e hg))
        have W1 := Lib.hid hw1
        have hs2 := hw1.bk.lt
        have R1 := Lib.hid hr1
        have hn1 : n1 ≤ 318 := by have := hr1.len; omega
        have AP1 : Hid (Apart v1 u5) := Lib.hid (fun g hg e => by
          rcases ht1 with h | h
          · exact AP.out g (h ▸ hg) e
          · have := h g hg; have := own_bound U.out e; omega)
        obtain ⟨ad', e', ⟨d0, d1, d2, d3, d4, d5⟩, _⟩ := CC.out w1 B1.out
        obtain rfl := Option.some.inj e'
        clear hw1 hf1 ht1 hr1 c0 c1 c2 c3 c4 c5 e'
        go_wp2_with (refine appendBytes rfl (.tmp 34) (.tmp 35) 52 rfl 5 Try.underlying52 u8info B u5 L.length L rfl U1.out A1 n1 k1 x ?_ R1.out ?_ (Nat.le_of_lt hs2) ?_)
        · rfl
        · omega
        intro v2 w2 ho2 hg2 hat2
        obtain ⟨B2, W2, AP2, UB2⟩ := stepU W1.out U1.out AP1.out UB.out B1.out hg2 hat2 (Nat.le_of_eq HB.out.symm)
        obtain ⟨ad', e', ⟨c0, c1, c2, c3, c4, c5⟩, _⟩ := CC.out w2 B2.out
        obtain rfl := Option.some.inj e'
        clear e' d0 d1 d2 d3 d4 d5
        go_wp2_with fail
        have U2 := Lib.hid ho2
        clear ho2 hg2 hat2 c0 c1 c2 c3 c4 c5
        refine (HWN.out (by omega) w2).mono ?_
        rintro e w3 ⟨A3, n3, k3, rfl, hb3⟩
        have hxn := R1.out.len
        have U3 := Lib.hid (own_below U2.out hb3)
        have W3 := Lib.hid (W2.out.below hb3)
        have BB3 := Lib.hid (bthen B2.out (Nat.le_of_lt W2.out.bk.lt) hb3)
        clear hb3
        go_wp2
        go_roundw
        case rel => exact ⟨k + 1, v1, L ++ x, by omega, by omega, by go_num, by rw [List.length_append]; omega, W3.out, by rw [List.length_append, hxn]; exact U3.out, AP2.out, UB2.out, BB3.out⟩
        case measure => simp [intOf]; omega
    · have HBY := Lib.hid (bytesW wr B B v L W.out (by omega))
      have hgo' : ¬ (k : Int) < (n : Int) ∨ ((k : Int) < (n : Int) ∧ ¬ (k : Int) < 40) := by omega
      obtain ⟨A5, k5, rfl, hc5⟩ := own_slice U.out
      clear hgo
      rcases hgo' with hg1 | ⟨hg1, hg2⟩
      all_goals
        go_wp2_with fail
        refine HBY.out.mono ?_
        rintro e w3 ⟨v3, rfl, ho3, hb3⟩
        obtain ⟨A3, k3, rfl, hc3⟩ := own_slice ho3
        have R3 := Lib.hid (Rb.of_own ho3)
        have R5 := Lib.hid (Rb.of_own (own_below U.out hb3))
        have BB3 := Lib.hid (bthen BB.out (Nat.le_of_lt hs1) hb3)
        have W3 := Lib.hid (W.out.below hb3)
        clear ho3 hb3
        go_wp2_with fail
        refine (refSame _ A3 A5 _ _ k3 k5 _ _ R3.out R5.out).mono ?_
        rintro e w5 ⟨rfl, hb5⟩
        rw [sameB_self]
        have BB5 := Lib.hid (bthen BB3.out (Nat.le_of_lt W3.out.bk.lt) hb5)
        have hs5 : B ≤ w5.heap.size := Nat.le_of_lt (W3.out.below hb5).bk.lt
        have HLE := Lib.hid (lenW w5 B B v L (W3.out.below hb5))
        clear hb5
        go_wp2_with fail
        refine HLE.out.mono ?_
        rintro e w6 ⟨rfl, rfl⟩
        go_wp2_with fail
        refine (lenNil _).mono ?_
        rintro e w6 ⟨rfl, rfl⟩
        go_wp2_with fail
        refine (bytesNil _).mono ?_
        rintro e w6 ⟨rfl, rfl⟩
        go_wp2_with fail
        refine (awake _).mono ?_
        rintro e w7 ⟨rfl, hb7⟩
        go_wp2
        go_ret
        exact ⟨rfl, bthen BB5.out hs5 hb7⟩
end Go.Proofs.Ytpdnedgoldjghaa.Wir
