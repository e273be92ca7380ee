import Derived.Test.YtpdnedgoldjghaaWirC
/- The reader: Text, Stamp, End, Flag. -/
namespace Go.Proofs.Ytpdnedgoldjghaa.Wir
open Go.RowKit WirP

theorem textNilR (w : World) (m : Int) : Calls Try.prog 33 #[.pointer none, .int .i64 m] w fun e w' => e = .returned (.string ⟨#[]⟩) ∧ w = w' := by
  have HN := Lib.hid numNilR
  have HB := Lib.hid badNil
  go_enter Try.func33, Try.ntmps33
  go_wp2_with fail
  refine (HN.out _).mono ?_
  rintro e w1 ⟨rfl, rfl⟩
  go_wp2_with fail
  refine (HB.out _).mono ?_
  rintro e w1 ⟨rfl, rfl⟩
  go_wp2
  go_ret
  exact ⟨rfl, rfl⟩
theorem flagNilR (w : World) : Calls Try.prog 32 #[.pointer none] w fun e w' => e = .returned (.bool false) ∧ w = w' := by
  have HN := Lib.hid numNilR
  go_enter Try.func32, Try.ntmps32
  go_wp2_with fail
  refine (HN.out _).mono ?_
  rintro e w1 ⟨rfl, rfl⟩
  go_wp2
  go_ret
  exact ⟨rfl, rfl⟩
theorem endNil (w : World) : Calls Try.prog 37 #[.pointer none] w fun e w' => e = .returned (.int .i64 1) ∧ w = w' := by
  have HN := Lib.hid leftNil
  have HB := Lib.hid badNil
  go_enter Try.func37, Try.ntmps37
  go_wp2_with fail
  refine (HN.out _).mono ?_
  rintro e w1 ⟨rfl, rfl⟩
  go_wp2_with fail
  refine (HB.out _).mono ?_
  rintro e w1 ⟨rfl, rfl⟩
  go_wp2
  go_ret
  exact ⟨rfl, rfl⟩
/-- End, where nothing is left and nothing is wrong. -/
theorem endOk {S : Nat → Prop} (w : World) (p : Nat) (h : Rdr S w p [] 0) : Calls Try.prog 37 #[.pointer (some ⟨p, 0, none⟩)] w fun e w' => e = .returned (.int .i64 0) ∧ w = w' := by
  have HN := Lib.hid (leftR w p [] 0 h)
  have HB := Lib.hid (badR w p [] 0 h)
  go_enter Try.func37, Try.ntmps37
  go_wp2_with fail
  refine HN.out.mono ?_
  rintro e w1 ⟨rfl, rfl⟩
  go_wp2_with fail
  refine HB.out.mono ?_
  rintro e w1 ⟨rfl, rfl⟩
  go_wp2
  go_ret
  exact ⟨rfl, rfl⟩
theorem fin2 {S : Nat → Prop} {w : World} {p : Nat} {A A' : Option Addr} {n n' c c' : Nat} {b : Int} {l' : List UInt8} (hk : Bk w p 73 #[.slice A n c, .int .i64 b]) (h : Rb w A' n' l') (hc : n' ≤ c') (hS : ∀ ad, 0 < n' → A' = some ad → S ad.block) :
    Rdr S (w.setCell ⟨p, 0, none⟩ (.slice A' n' c')) p l' b ∧ w.grownBy (w.setCell ⟨p, 0, none⟩ (.slice A' n' c')) (some p) := by
  have hg := grown_set w p 0 (.slice A' n' c')
  refine ⟨⟨A', n', c', ?_, Rb.over h hg hk no_u8, hc, hS⟩, hg⟩
  have h2 := hk.set 0 (.slice A' n' c')
  simp at h2
  exact h2
theorem sMap {S : Nat → Prop} {A : Option Addr} {n k m : Nat} (h : ∀ ad, 0 < n → A = some ad → S ad.block) (hm : 0 < m → 0 < n) (ad : Addr) (hn : 0 < m) (e : A.map (·.add k) = some ad) : S ad.block := by
  cases A with
  | none => cases e
  | some a =>
    injection e with e
    rw [← e, addr_block]
    exact h a (hm hn) rfl
theorem grown_trans {w w1 w2 : World} {p : Nat} (h : w.grownBy w1 (some p)) (k : w1.grownBy w2 (some p)) : w.grownBy w2 (some p) := h.trans k
set_option maxHeartbeats 1000000 in
/-- Text, where there is one: n bytes, no more than m. -/
theorem textR {S : Nat → Prop} (w : World) (p : Nat) (l : List UInt8) (m : Int) (h : Rdr S w p l 0) (he : numE l = 0) (hm : (numV l : Int) ≤ m) (hn : numV l ≤ (numL l).length) :
    Calls Try.prog 33 #[.pointer (some ⟨p, 0, none⟩), .int .i64 m] w fun e w' => e = .returned (.string (tx ((numL l).take (numV l)))) ∧ Rdr S w' p ((numL l).drop (numV l)) 0 ∧ w.grownBy w' (some p) := by
  have HN := Lib.hid (numR w p l h)
  clear h
  unfold NumR at HN
  rw [he] at HN
  generalize numL l = r at *
  generalize numV l = k at *
  go_enter Try.func33, Try.ntmps33
  go_wp2_with fail
  refine HN.out.mono ?_
  rintro e w1 ⟨rfl, hr, hg⟩
  have HG := Lib.hid hg
  have HB := Lib.hid (badR w1 p r 0 hr)
  obtain ⟨A, n, c, h1, h2, h3, h4⟩ := hr
  have HSS := Lib.hid h4
  have c0 : w1.cell? ⟨p, 0, none⟩ = some (.slice A n c) := by rw [h1.cell]; rfl
  have f0 : w1.frozen? ⟨p, 0, none⟩ = false := h1.free 0
  have hb := h2.bound
  have hln := h2.len
  have HK := Lib.hid h1
  have HR := Lib.hid h2
  have hm' : ¬ m < (k : Int) := by omega
  have hk' : ¬ (n : Int) < (k : Int) := by omega
  have hk1 : (k : Int) ≤ (n : Int) := by omega
  have hk2 : (k : Int) ≤ (c : Int) := by omega
  have hk3 : (n : Int) ≤ (c : Int) := by omega
  have hst := run_bytesString (P := Try.prog) (dst := 9) Try.underlying52 Try.underlying5 Try.underlying9 (h2.take_ (show k ≤ n by omega)) c
  have htx : (ByteArray.mk (r.take k).toArray) = tx (r.take k) := rfl
  rw [htx] at hst
  generalize hs : tx (r.take k) = s at *
  have HS := Lib.hid hs
  clear hs
  have RB : Hid (Rb w1 (if c = k then A else A.map (·.add k)) (n - k) (r.drop k)) := Lib.hid (h2.cut (by omega) h3)
  clear h1 h2 HN hg htx
  go_wp2_with fail
  refine HB.out.mono ?_
  rintro e w2 ⟨rfl, rfl⟩
  have RB1 : Hid (c = k → Rb w1 A (n - k) (r.drop k)) := Lib.hid (fun e => by have := RB.out; rwa [if_pos e] at this)
  have RB2 : Hid (c ≠ k → Rb w1 (A.map (·.add k)) (n - k) (r.drop k)) := Lib.hid (fun e => by have := RB.out; rwa [if_neg e] at this)
  clear RB
  go_wp2
  all_goals
    go_ret
    first
      | (have hf := fin2 (S := S) (c' := c - k) HK.out (RB2.out (by omega)) (by omega) (sMap HSS.out (by omega))
         exact ⟨by rw [HS.out]; rfl, hf.1, HG.out.trans hf.2⟩)
      | (have hf := fin2 (S := S) (c' := 0) HK.out (RB1.out (by first | rfl | omega)) (by omega) (fun ad hn e => absurd hn (by omega))
         exact ⟨by rw [HS.out]; rfl, hf.1, HG.out.trans hf.2⟩)
theorem e300 : encN (300 : Int).toNat = [172, 2] := by decide +kernel
theorem e1 : encN [(97 : UInt8)].length ++ [97] = [1, 97] := by decide +kernel
theorem d300 : numV [172, 2, 1, 97] = 300 ∧ numL [172, 2, 1, 97] = [1, 97] ∧ numE [172, 2, 1, 97] = 0 := by decide +kernel
theorem d1 : numV [1, 97] = 1 ∧ numL [1, 97] = [97] ∧ numE [1, 97] = 0 := by decide +kernel
set_option maxHeartbeats 2000000 in
theorem awake (w : World) : Calls Try.prog 38 #[] w fun e w' => e = .returned (.bool true) ∧ Below w.heap.size w w' := by
  have b0 := Lib.hid ((Below.refl w.heap.size w).alloc (Nat.le_refl _) (.cells #[.slice none 0 0] 54))
  have h0 : Hid (Wr (w.alloc (.cells #[.slice none 0 0] 54)) w.heap.size w.heap.size (.slice none 0 0) []) := Lib.hid ⟨Bk.new w _ _, World.ownsRow_nil _ _ _ _, by simp [Value.ownBlock], Nat.le_refl _⟩
  go_enter Try.func38, Try.ntmps38
  go_wp2_with fail
  refine (numW _ w.heap.size w.heap.size _ [] h0.out (by simp) 300 (by omega) (by omega) (by simp)).mono ?_
  rintro e w1 ⟨rfl, hp1⟩
  rw [e300] at hp1
  have B1 := Lib.hid (hp1.below h0.out (by simp) b0.out)
  obtain ⟨v1, hw1, hf1, _⟩ := hp1
  have W1 := Lib.hid hw1
  have hs1 := B1.out.size
  clear hw1 hf1
  go_wp2_with fail
  refine (textW _ w.heap.size w.heap.size v1 _ [97] W1.out (by simp) (by simp) hs1).mono ?_
  rintro e w2 ⟨rfl, hp2⟩
  rw [_root_.Go.Proofs.Ytpdnedgoldjghaa.Wir.e1] at hp2
  have B2 := Lib.hid (hp2.below W1.out hs1 B1.out)
  obtain ⟨v2, hw2, hf2, _⟩ := hp2
  have W2 := Lib.hid hw2
  clear hw2 hf2
  go_wp2_with fail
  refine (bytesW _ w.heap.size w.heap.size v2 _ W2.out (by simp)).mono ?_
  rintro e w3 ⟨v3, rfl, ho3, hb3⟩
  obtain ⟨A3, c3, rfl, hc3⟩ := own_slice ho3
  have B3 := Lib.hid (Below.then_below B2.out hb3)
  have R3 : Hid (Rb w3 A3 4 [172, 2, 1, 97]) := Lib.hid (Rb.of_own ho3)
  clear ho3 hb3
  go_wp2_with fail
  refine (openR _ A3 _ c3 _ R3.out (by simp)).mono ?_
  rintro e w4 ⟨p, rfl, hp, hr4, hb4⟩
  have B4 := Lib.hid (Below.then_below B3.out hb4)
  have R4 := R3.out.below hb4
  have hpw : w.heap.size ≤ p := Nat.le_trans B3.out.size hp
  have D4 := Lib.hid hr4
  clear hb4 hr4
  obtain ⟨ad, rfl, _, hc⟩ := R4.2.2 (by omega)
  have k0 : w4.cell? ad = some (.int .u8 172) := by have := hc 0 (by omega); simpa [Addr.add, bt] using this
  have k1 : w4.cell? ⟨ad.block, ad.off + 1, none⟩ = some (.int .u8 2) := by have := hc 1 (by omega); simpa [Addr.add, bt] using this
  have k2 : w4.cell? ⟨ad.block, ad.off + 2, none⟩ = some (.int .u8 1) := by have := hc 2 (by omega); simpa [Addr.add, bt] using this
  have k3 : w4.cell? ⟨ad.block, ad.off + 3, none⟩ = some (.int .u8 97) := by have := hc 3 (by omega); simpa [Addr.add, bt] using this
  clear hc R4
  have HN := Lib.hid (numR w4 p _ D4.out)
  unfold NumR at HN
  rw [d300.1, d300.2.1, d300.2.2] at HN
  go_wp2_with fail
  refine HN.out.mono ?_
  rintro e w5 ⟨rfl, hr5, hg5⟩
  have B5 := Lib.hid (B4.out.grown hg5 B4.out.size (fun k e => by injection e with e; omega))
  have HT := Lib.hid (textR w5 p [1, 97] 1 hr5 d1.2.2 (by rw [d1.1]; decide) (by rw [d1.1, d1.2.1]; decide))
  rw [d1.1, d1.2.1, show tx (List.take 1 [97]) = ByteArray.mk #[97] from rfl] at HT
  clear hr5 hg5 k0 k1 k2 k3 HN
  go_wp2_with fail
  refine HT.out.mono ?_
  rintro e w6 ⟨rfl, hr6, hg6⟩
  have B6 := Lib.hid (B5.out.grown hg6 B5.out.size (fun k e => by injection e with e; omega))
  have HE := Lib.hid (endOk w6 p hr6)
  clear hr6 hg6 HT
  go_wp2_with fail
  refine HE.out.mono ?_
  rintro e w7 ⟨rfl, rfl⟩
  go_wp2
  go_ret
  exact ⟨rfl, B6.out⟩
end Go.Proofs.Ytpdnedgoldjghaa.Wir
