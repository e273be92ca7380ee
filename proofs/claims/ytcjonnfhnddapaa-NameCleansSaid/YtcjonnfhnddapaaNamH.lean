import Derived.Test.YtcjonnfhnddapaaNamG
/- Unquote of the reference. -/
namespace Go.Proofs.Ytcjonnfhnddapaa.Nam
open Go.RowKit NumP Num NamP

theorem cutN (l : List UInt8) (p n : Nat) : ((mk l).extract p (p + n)).toList = (l.drop p).take n := by
  rw [ByteArray.toList_eq]
  simp [mk, ByteArray.data_extract, List.extract]
/-- The quotation of byte j stands at place k. -/
def Stands (l : List UInt8) (k j : Nat) : Prop := (stp (l.drop k)).2 ≠ 0 ∧ (stp (l.drop k)).1 = j
theorem stands_yes {l : List UInt8} {k j : Nat} (hk : k < l.length) (h : Stands l k j) (acc : List UInt8) : (mk (NamP.one (UInt8.ofNat j))).size ≤ l.length - k ∧
    (((mk l).extract k (k + (mk (NamP.one (UInt8.ofNat j))).size)).toList == (mk (NamP.one (UInt8.ofNat j))).toList) = true ∧ uq (l.drop k) acc = uq (l.drop (k + (mk (NamP.one (UInt8.ofNat j))).size)) (acc ++ [UInt8.ofNat j]) := by
  obtain ⟨h1, h2⟩ := h
  obtain ⟨d0, _, _, _, d4⟩ := stp_drop l k hk
  obtain ⟨e1, e2, e3⟩ := stp_is (l.drop k) d0 h1
  rw [h2] at e1
  have hs : (mk (NamP.one (UInt8.ofNat j))).size = (stp (l.drop k)).2 := by rw [mk_size, e1, List.length_take]; omega
  refine ⟨by rw [hs]; omega, ?_, ?_⟩
  · rw [hs, cutN, mk_list, e1]; simp
  · rw [uq_step _ _ d0 h1, hs, List.drop_drop, h2]
theorem stands_no {l : List UInt8} {k j : Nat} (hj : j < 256) (h : ¬ Stands l k j) : (((mk l).extract k (k + (mk (NamP.one (UInt8.ofNat j))).size)).toList == (mk (NamP.one (UInt8.ofNat j))).toList) = false := by
  rw [cutN, mk_list, mk_size, beq_eq_false_iff_ne]
  intro e
  have hd : l.drop k = NamP.one (UInt8.ofNat j) ++ (l.drop k).drop (NamP.one (UInt8.ofNat j)).length := by
    conv => lhs; rw [← List.take_append_drop (NamP.one (UInt8.ofNat j)).length (l.drop k), e]
  have hs := stp_one (UInt8.ofNat j) ((l.drop k).drop (NamP.one (UInt8.ofNat j)).length)
  rw [← hd] at hs
  refine h ⟨?_, ?_⟩
  · rw [hs]
    have := (one_len (UInt8.ofNat j)).1
    simp only []
    omega
  · rw [hs]
    simp only [UInt8.toNat_ofNat']
    omega
theorem stands_none {l : List UInt8} {k : Nat} (hk : k < l.length) (h : ∀ j, j < 256 → ¬ Stands l k j) (acc : List UInt8) : uq (l.drop k) acc = none := by
  obtain ⟨d0, _, _, _, d4⟩ := stp_drop l k hk
  refine uq_none _ _ d0 ?_
  rcases Nat.eq_zero_or_pos (stp (l.drop k)).2 with h0 | h0
  · exact h0
  · obtain ⟨_, e2, _⟩ := stp_is (l.drop k) d0 (by omega)
    exact absurd ⟨by omega, rfl⟩ (h _ e2)
set_option maxRecDepth 100000 in
set_option maxHeartbeats 4000000 in
theorem refUnquote (w : World) (l : List UInt8) (hl : l.length ≤ 40000) :
    Calls Try.prog 46 #[.string (mk l)] w fun e w' => e = .returned (.tuple #[.string (mk (uqT l)), .bool (uqB l)]) ∧ Below w.heap.size w w' := by
  have hsz := mk_size l
  have HSY := Lib.hid (fun k j acc hk h => stands_yes (l := l) (k := k) (j := j) hk h acc)
  have HSN := Lib.hid (fun k j hj h => stands_no (l := l) (k := k) (j := j) hj h)
  obtain ⟨s, HSS⟩ : ∃ s, Hid (mk l = s) := ⟨_, Lib.hid rfl⟩
  rw [HSS.out] at hsz HSY HSN ⊢
  rw [← hsz] at hl
  have HSZ := Lib.hid hsz
  clear hsz
  have HR := Lib.hid (uq_ret l)
  go_enter Try.func46, Try.ntmps46
  go_wp2
  go_loopw [4, 5] (fun v i wr => ∃ (k : Nat) (acc : List UInt8), k ≤ s.size ∧ acc.length ≤ k ∧ i = .int .i64 k ∧ wr.ownsRow w.heap.size 5 1 v acc.length (bytesV acc) ∧ Below w.heap.size w wr ∧ Hid (uq l [] = uq (l.drop k) acc)) (fun _ i _ => s.size - (intOf i).toNat)
  case atStart => exact ⟨0, [], by omega, by simp, rfl, by simpa [bytesV] using World.ownsRow_nil _ _ _ _, Below.refl _ _, Lib.hid rfl⟩
  case round =>
    obtain ⟨k, acc, hk, hac, rfl, ho, hb, HU⟩ := hrel
    have O := Lib.hid ho
    have B := Lib.hid hb
    clear ho hb
    by_cases hp : k < s.size
    · have hq : (k : Int) < (s.size : Int) := by omega
      have HKL : Hid (k < l.length) := Lib.hid (by rw [← HSZ.out]; exact hp)
      go_wp2
      go_loopw [4, 5, 6, 7] (fun v i f cc wi => ∃ j : Nat, j ≤ 256 ∧ cc = .int .i64 j ∧ Below w.heap.size w wi ∧
        ((f = .bool false ∧ i = .int .i64 k ∧ wi.ownsRow w.heap.size 5 1 v acc.length (bytesV acc) ∧ Hid (∀ i, i < j → ¬ Stands l k i)) ∨
         (f = .bool true ∧ ∃ (k2 : Nat) (acc2 : List UInt8), k < k2 ∧ k2 ≤ s.size ∧ acc2.length ≤ k2 ∧ i = .int .i64 k2 ∧ wi.ownsRow w.heap.size 5 1 v acc2.length (bytesV acc2) ∧ Hid (uq l [] = uq (l.drop k2) acc2)))) (fun _ _ _ cc _ => 256 - (intOf cc).toNat)
      case atStart => exact ⟨0, by omega, rfl, B.out, .inl ⟨rfl, rfl, O.out, Lib.hid (fun i hi => absurd hi (by omega))⟩⟩
      case round =>
        obtain ⟨j, hj, rfl, hbi, hcase⟩ := hrel
        have BI := Lib.hid hbi
        clear hbi
        rcases hcase with ⟨rfl, rfl, hoi, HNS⟩ | ⟨rfl, k2, acc2, hk2, hk2s, hac2, rfl, hoi, HU2⟩
        · have OI := Lib.hid hoi
          clear hoi
          by_cases hj2 : j < 256
          · have hjq : (j : Int) < 256 := by omega
            have hwj : IntKind.u8.wrap (j : Int) = (j : Int) := by rw [IntKind.wrap_u8]; omega
            have HO := Lib.hid (fun W => one W (UInt8.ofNat j))
            have hjj : (((UInt8.ofNat j).toNat : Nat) : Int) = (j : Int) := by rw [UInt8.toNat_ofNat']; omega
            rw [hjj] at HO
            clear hjj
            have hln1 : 1 ≤ (mk (NamP.one (UInt8.ofNat j))).size := (one_len _).1
            have hln3 : (mk (NamP.one (UInt8.ofNat j))).size ≤ 3 := (one_len _).2
            have HY := Lib.hid (fun h => HSY.out k j acc HKL.out h)
            have HN := Lib.hid (fun h => HSN.out k j hj2 h)
            rw [← HSZ.out] at HY
            generalize mk (NamP.one (UInt8.ofNat j)) = q at *
            obtain ⟨n, hn⟩ : ∃ n, n = q.size := ⟨_, rfl⟩
            have hn' : (q.size : Int) = (n : Int) := by omega
            obtain ⟨k2, hk2⟩ : ∃ k2, k2 = k + n := ⟨_, rfl⟩
            have hc2 : (k : Int) + (n : Int) = (k2 : Int) := by omega
            rw [← hn] at HY HN hln1 hln3
            rw [← hk2] at HY HN
            have HK2 := Lib.hid hk2
            clear hk2 hn
            have hwp : IntKind.u8.wrap (j : Int) = (j : Int) := hwj
            go_wp2_with fail
            refine (HO.out _).mono ?_
            rintro e w1 ⟨rfl, hb1⟩
            have B1 := Lib.hid (Below.then_below BI.out hb1)
            have O1 := Lib.hid (own_below OI.out hb1)
            clear hb1 OI BI
            by_cases hst : Stands l k j
            · obtain ⟨y1, y2, y3⟩ := HY.out hst
              have HY3 := Lib.hid y3
              have z1 : (n : Int) ≤ (s.size : Int) - (k : Int) := by omega
              have z2 : (k : Int) ≤ (k2 : Int) := by have := HK2.out; omega
              have z3 : (k2 : Int) ≤ (s.size : Int) := by have := HK2.out; omega
              have z4 : (0 : Int) ≤ (k2 : Int) := by omega
              clear y1 y3
              go_wp2_with (refine appendBytes rfl (.tmp 42) (.tmp 45) 61 rfl 5 Try.underlying61 u8info w.heap.size u4 _ acc rfl (O1.out.alloc _) _ 1 1 [UInt8.ofNat j] rfl (Rb.new _ _ _ [UInt8.ofNat j] (by simp) (by simp [bytesV]; omega) 1 rfl) (by omega) (by have := B1.out.size; simp; omega) ?_; intro v2 w2 ho2 hg2 hat2)
              go_roundw
              case rel =>
                refine ⟨j + 1, by omega, by go_num, grow_below B1.out O1.out _ hg2, .inr ⟨rfl, k2, acc ++ [UInt8.ofNat j], by have := HK2.out; omega, by omega, by have := HK2.out; simp; omega, rfl, by rw [List.length_append]; exact ho2, Lib.hid (HU.out.trans HY3.out)⟩⟩
              case measure => simp [intOf]; omega
            · have y2 := HN.out hst
              have HNJ : Hid (∀ i, i < j + 1 → ¬ Stands l k i) := Lib.hid (fun i hi => by
                rcases Nat.lt_succ_iff_lt_or_eq.1 hi with h | rfl
                · exact HNS.out i h
                · exact hst)
              clear hst HY HN
              by_cases hle : (n : Int) ≤ (s.size : Int) - (k : Int)
              · have z2 : (k : Int) ≤ (k2 : Int) := by have := HK2.out; omega
                have z3 : (k2 : Int) ≤ (s.size : Int) := by have := HK2.out; omega
                have z4 : (0 : Int) ≤ (k2 : Int) := by omega
                go_wp2
                go_roundw
                case rel => exact ⟨j + 1, by omega, by go_num, B1.out, .inl ⟨rfl, rfl, O1.out, HNJ⟩⟩
                case measure => simp [intOf]; omega
              · go_wp2
                go_roundw
                case rel => exact ⟨j + 1, by omega, by go_num, B1.out, .inl ⟨rfl, rfl, O1.out, HNJ⟩⟩
                case measure => simp [intOf]; omega
          · obtain rfl : j = 256 := by omega
            have hrr := (HR.out none (HU.out.trans (stands_none HKL.out HNS.out acc))).1 rfl
            have HRR := Lib.hid hrr
            clear hrr
            go_wp2
            go_ret2
            exact ⟨HRR.out, BI.out⟩
        · have OI := Lib.hid hoi
          clear hoi
          by_cases hj2 : j < 256
          · have hjq : (j : Int) < 256 := by omega
            go_wp2
            go_roundw
            case rel => exact ⟨k2, acc2, by omega, by omega, rfl, OI.out, BI.out, HU2⟩
            case measure => simp [intOf]; omega
          · have hjq : ¬ (j : Int) < 256 := by omega
            go_wp2
            go_roundw
            case rel => exact ⟨k2, acc2, by omega, by omega, rfl, OI.out, BI.out, HU2⟩
            case measure => simp [intOf]; omega
    · obtain rfl : k = s.size := by omega
      have hall : l.drop s.size = [] := by rw [HSZ.out, List.drop_length]
      have hr := (HR.out (some acc) (by rw [HU.out, hall]; rfl)).2 acc rfl
      have HRR := Lib.hid hr
      clear hr hall
      obtain ⟨A, n, c, rfl, he⟩ := end_text O.out
      go_wp2
      go_ret2
      exact ⟨HRR.out, B.out⟩
end Go.Proofs.Ytcjonnfhnddapaa.Nam
