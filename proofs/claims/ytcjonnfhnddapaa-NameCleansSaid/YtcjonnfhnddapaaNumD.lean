import Derived.Test.YtcjonnfhnddapaaNumC
import Derived.Lib.OthersKept
/- Number, the program's. -/
namespace Go.Proofs.Ytcjonnfhnddapaa.Num
open Go.RowKit NumP

/-- A round of a range over a text: what next comes to. -/
theorem nextYes {wr : World} {g p : Nat} {s : ByteArray} (hit : wr.heap[g]? = some (.stringIter s p)) (hp : p < s.size) {B : Nat} {w : World} (hb : Below B w wr) (hg : B ≤ g) :
    ∃ W1, (∀ ty, (Instr.next (.pointer (some ⟨g, 0, none⟩)) true ty).run Try.prog wr = .ok (.tuple #[.bool true, .int .i64 p, .int .i32 (Utf8.decode s p).1]) W1) ∧ W1.heap[g]? = some (.stringIter s (p + (Utf8.decode s p).2)) ∧ Below B w W1 :=
  ⟨wr.iterAt g s (p + (Utf8.decode s p).2), fun ty => Lib.run_next_any_at wr g s p ty hit hp, Lib.iterAt_heap wr g s p _ hit, Lib.below_iterAt hb hg s _⟩
theorem nextNo {wr : World} {g p : Nat} {s : ByteArray} (hit : wr.heap[g]? = some (.stringIter s p)) (hp : ¬ p < s.size) :
    ∀ ty, (Instr.next (.pointer (some ⟨g, 0, none⟩)) true ty).run Try.prog wr = .ok (.tuple #[.bool false]) wr := fun ty => Lib.run_next_end_at wr g s p ty hit hp
theorem iterPos_of {w : World} {g p : Nat} {s : ByteArray} (h : w.heap[g]? = some (.stringIter s p)) : w.iterPos g = p := by simp [World.iterPos, h]

theorem noLead_eq (l : List UInt8) (h : 1 ≤ l.length) : noLead l = decide (l.length ≤ 1 ∨ bt l 0 ≠ 48) := by
  cases l with
  | nil => simp at h
  | cons a t =>
    have hb : bt (a :: t) 0 = a.toNat := bt_get _ 0 h
    rw [hb, noLead]
    congr 1
    rw [List.head?_cons]
    apply propext
    have : a.toNat = 48 ↔ a = 48 := by rw [← UInt8.toNat_inj]; rfl
    simp [this]

set_option maxRecDepth 100000 in
set_option maxHeartbeats 800000 in
theorem number (w : World) (l : List UInt8) (hl : l.length ≤ 9223372036854775807) :
    Calls Try.prog 35 #[.string (mk l)] w fun e w' => e = .returned (.tuple #[.int .i64 (numV l), .bool (okN l)]) ∧ Below w.heap.size w w' := by
  have hsz := mk_size l
  have hat := at_mk l
  have hml := mk_list l
  have HNO := Lib.hid (ret_no l)
  have HSS : ∃ s, Hid (mk l = s) := ⟨_, Lib.hid rfl⟩
  obtain ⟨s, HSS⟩ := HSS
  rw [HSS.out] at hsz hat hml ⊢
  have HSZ := Lib.hid hsz
  have HAT := Lib.hid hat
  have HML := Lib.hid hml
  clear hat hml
  rw [← hsz] at hl
  clear hsz
  by_cases h0 : s.size = 0
  · have hnil : l = [] := List.eq_nil_of_length_eq_zero (by rw [← HSZ.out]; exact h0)
    have HK := Lib.hid (HNO.out (by rw [hnil]; rfl))
    have hE : (s.toList == []) = true := by rw [HML.out, hnil]; rfl
    clear hnil
    go_enter Try.func35, Try.ntmps35
    go_wp2
    go_ret2
    exact ⟨HK.out, Below.refl _ _⟩
  have hE : (s.toList == []) = false := by
    rw [HML.out, beq_eq_false_iff_ne]
    rintro rfl
    exact h0 (by rw [HSZ.out]; rfl)
  have hz1 : (1 : Int) ≤ (s.size : Int) := by omega
  have hz0 : 0 < s.size := by omega
  have HNL := Lib.hid (noLead_eq l (by rw [← HSZ.out]; omega))
  rw [← HSZ.out] at HNL
  have hc0 := HAT.out 0 hz0
  have hcb0 := bt_lt l 0
  generalize bt l 0 = c0 at hc0 hcb0 HNL
  by_cases h18 : 18 < s.size
  · have h2 : (18 : Int) < (s.size : Int) := by omega
    have HK := Lib.hid (HNO.out (by rw [okN, ← HSZ.out, decide_eq_false (by omega)]; rfl))
    go_enter Try.func35, Try.ntmps35
    go_wp2
    go_ret2
    exact ⟨HK.out, Below.refl _ _⟩
  have h2 : (s.size : Int) ≤ 18 := by omega
  by_cases hL : 1 < s.size ∧ c0 = 48
  · have HK := Lib.hid (HNO.out (by rw [okN, HNL.out, decide_eq_false (show ¬ (s.size ≤ 1 ∨ c0 ≠ 48) by omega)]; simp))
    have h3 : (1 : Int) < (s.size : Int) := by omega
    have h4 : ((c0 : Int) == 48) = true := by simp; omega
    clear hL
    go_enter Try.func35, Try.ntmps35
    go_wp2
    go_ret2
    exact ⟨HK.out, Below.refl _ _⟩
  have hlen : 1 ≤ l.length ∧ l.length ≤ 18 := by rw [← HSZ.out]; omega
  have HPS := Lib.hid (pre_step l)
  have HPB := Lib.hid (pre_bound l)
  have HND := Lib.hid (not_allD l)
  have HV := Lib.hid (show allD l = true → okN l = true from fun h => by
    rw [okN, h, HNL.out, decide_eq_true hlen, decide_eq_true (show s.size ≤ 1 ∨ c0 ≠ 48 by omega)]; rfl)
  have HK := Lib.hid (show allD l = false → okN l = false from fun h => by rw [okN, h]; simp)
  have HW := Lib.hid (show okN l = true → numV l = valL l from fun h => by rw [numV, h]; rfl)
  have HT := Lib.hid (show l.take s.size = l from by rw [HSZ.out]; exact List.take_length)
  have HAS := Lib.hid (fun p (h : p < s.size) (hc : (s[p]'h).toNat < 128) => decode_ascii s p h hc)
  have HHI := Lib.hid (fun p (h : p < s.size) (hc : 128 ≤ (s[p]'h).toNat) => decode_high s p h hc)
  have HLE := Lib.hid (fun p => decode_le s p)
  clear hlen
  have hcase : ((s.size : Int) ≤ 1 ∧ True) ∨ ((1 : Int) < (s.size : Int) ∧ ((c0 : Int) == 48) = false) := by
    by_cases h1 : s.size ≤ 1
    · exact .inl ⟨by omega, trivial⟩
    · refine .inr ⟨by omega, ?_⟩
      simp; omega
  clear hL
  rcases hcase with ⟨h3, h4⟩ | ⟨h3, h4⟩
  all_goals
    go_enter Try.func35, Try.ntmps35
    go_wp2
    go_loopw [4, 6] (fun n _ wr => ∃ k v : Nat, k ≤ s.size ∧ n = .int .i64 v ∧ wr.heap[w.heap.size]? = some (.stringIter s k) ∧ Below w.heap.size w wr ∧ Hid (allD (l.take k) = true ∧ v = valL (l.take k))) (fun _ _ wr => s.size - wr.iterPos w.heap.size)
    case atStart => exact ⟨0, 0, Nat.zero_le _, rfl, World.iter_heap w s 0, (Below.refl _ _).alloc (Nat.le_refl _) _, Lib.hid ⟨rfl, rfl⟩⟩
    case round =>
      obtain ⟨k, v, hk, rfl, hit, hb, HA⟩ := hrel
      have hpos := iterPos_of hit
      by_cases hp : k < s.size
      · obtain ⟨W1, hnx, hit1, hb1⟩ := nextYes hit hp hb (Nat.le_refl _)
        have hc := HAT.out k hp
        have hcb := bt_lt l k
        have HKL := Lib.hid (show k < l.length by rw [← HSZ.out]; exact hp)
        have hv : (v : Int) ≤ 100000000000000000 := by
          have := HPB.out k (by omega) HA.out.1
          have := HA.out.2
          omega
        have HS := Lib.hid (HPS.out k HKL.out)
        have HN := Lib.hid (HND.out k HKL.out)
        by_cases hasc : bt l k < 128
        · have hd := HAS.out k hp (by rw [hc]; exact hasc)
          rw [hd] at hnx hit1
          simp only [hc] at hnx hit1
          generalize bt l k = c at *
          have HP := Lib.hid hpos
          have HI := Lib.hid hit1
          have HB := Lib.hid hb1
          clear hit hb hit1 hb1 hpos hd hc
          by_cases hlo : c < 48
          · go_wp2
            go_ret2
            exact ⟨HNO.out (HK.out (HN.out (.inl hlo))), HB.out⟩
          · by_cases hhi : 57 < c
            · go_wp2
              go_ret2
              exact ⟨HNO.out (HK.out (HN.out (.inr hhi))), HB.out⟩
            · go_wp2
              go_roundw
              case rel =>
                have h3 := HS.out (by omega) (by omega) HA.out.1
                exact ⟨k + 1, 10 * v + (c - 48), by omega, by go_num, HI.out, HB.out, Lib.hid ⟨h3.1, by rw [h3.2, HA.out.2]⟩⟩
              case measure => rw [iterPos_of HI.out, HP.out]; omega
        · have hd := HHI.out k hp (by rw [hc]; omega)
          have hle := HLE.out k
          have h57 := HN.out (.inr (by omega))
          have HB := Lib.hid hb1
          have HX := Lib.hid h57
          generalize (Utf8.decode s k).1 = r at hnx hd hle
          clear hit hb hit1 hb1 hpos hc h57
          have hr : 57 < (r : Int) := by omega
          go_wp2
          go_ret2
          exact ⟨HNO.out (HK.out HX.out), HB.out⟩
      · obtain rfl : k = s.size := by omega
        have hnx := nextNo hit hp
        have h4 := HA.out
        rw [HT.out] at h4
        obtain ⟨h5, rfl⟩ := h4
        have HX := Lib.hid (HV.out h5)
        have HB := Lib.hid hb
        clear hit hb hpos h5
        go_wp2
        go_ret2
        exact ⟨ret_num (HW.out HX.out).symm HX.out.symm, HB.out⟩
end Go.Proofs.Ytcjonnfhnddapaa.Num
