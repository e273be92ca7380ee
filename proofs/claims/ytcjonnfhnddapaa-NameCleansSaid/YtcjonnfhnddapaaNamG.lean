import Derived.Test.YtcjonnfhnddapaaNamF
import Derived.Deep.RegionHeld3
/- Quote of the reference; Unquote of the program. -/
namespace Go.Proofs.Ytcjonnfhnddapaa.Nam
open Go.RowKit NumP Num NamP

set_option maxHeartbeats 1000000 in
theorem refQuote (w : World) (l : List UInt8) (hl : l.length ≤ 10000) :
    Calls Try.prog 47 #[.string (mk l)] w fun e w' => e = .returned (.string (mk (quote l))) ∧ Below w.heap.size w w' := by
  have hsz := mk_size l
  have hat := at_mk l
  obtain ⟨s, HSS⟩ : ∃ s, Hid (mk l = s) := ⟨_, Lib.hid rfl⟩
  rw [HSS.out] at hsz hat ⊢
  rw [← hsz] at hl
  have HSZ := Lib.hid hsz
  have HAT := Lib.hid hat
  clear hat hsz
  go_enter Try.func47, Try.ntmps47
  go_wp2
  go_loopw [3, 4] (fun v i wr => ∃ (k : Nat), k ≤ s.size ∧ i = .int .i64 k ∧ v = .string (mk (quote (l.take k))) ∧ Below w.heap.size w wr) (fun _ i _ => s.size - (intOf i).toNat)
  case atStart => exact ⟨0, by omega, rfl, rfl, Below.refl _ _⟩
  case round =>
    obtain ⟨k, hk, rfl, rfl, hb⟩ := hrel
    have B := Lib.hid hb
    clear hb
    by_cases hp : k < s.size
    · have hq : (k : Int) < (s.size : Int) := by omega
      have hck := HAT.out k hp
      have hkl : k < l.length := by rw [← HSZ.out]; exact hp
      have HT : Hid (mk (quote (l.take (k + 1))) = mk (quote (l.take k)) ++ mk (NamP.one (nth l k))) := Lib.hid (by rw [take_nth l k hkl, quote_snoc, mk_append])
      have hbn : bt l k = (nth l k).toNat := by rw [nth_get l k hkl, bt_get l k hkl]
      rw [hbn] at hck
      have hlen : (mk (quote (l.take k))).size ≤ 30000 := by have := quote_len (l.take k); rw [List.length_take] at this; rw [mk_size]; omega
      have hl1 : (mk (NamP.one (nth l k))).size ≤ 3 := (one_len _).2
      have HO := Lib.hid (fun W => one W (nth l k))
      generalize mk (quote (l.take k)) = q at *
      generalize mk (NamP.one (nth l k)) = t at *
      have hs1 : ¬ (9223372036854775807 < q.size + t.size) := by omega
      go_wp2_with fail
      refine (HO.out _).mono ?_
      rintro e w1 ⟨rfl, hb1⟩
      have B1 := Lib.hid (Below.then_below B.out hb1)
      clear hb1
      go_wp2
      go_roundw
      case rel => exact ⟨k + 1, by omega, by go_num, by rw [HT.out], B1.out⟩
      case measure => simp [intOf]; omega
    · obtain rfl : k = s.size := by omega
      have hall : l.take s.size = l := by rw [HSZ.out, List.take_length]
      rw [hall]
      go_wp2
      go_ret
      exact ⟨rfl, B.out⟩

def uqT (l : List UInt8) : List UInt8 := (uq l []).getD []
def uqB (l : List UInt8) : Bool := (uq l []).isSome
theorem uq_ret (l : List UInt8) (o : Option (List UInt8)) (h : uq l [] = o) : (o = none → Ending.returned (.tuple #[.string (ByteArray.mk #[]), .bool false]) = .returned (.tuple #[.string (mk (uqT l)), .bool (uqB l)])) ∧
    (∀ t, o = some t → Ending.returned (.tuple #[.string (mk t), .bool true]) = .returned (.tuple #[.string (mk (uqT l)), .bool (uqB l)])) := by
  subst h
  constructor
  · intro h; rw [uqT, uqB, h]; rfl
  · intro t h; rw [uqT, uqB, h]; rfl
theorem or4 (x y : Nat) (hx : x < 16) (hy : y < 16) : bits .or .u8 ((16 * x : Nat) : Int) (y : Int) = ((16 * x + y : Nat) : Int) := by
  have : ∀ x y : Fin 16, bits .or .u8 ((16 * x.1 : Nat) : Int) (y.1 : Int) = ((16 * x.1 + y.1 : Nat) : Int) := by decide +kernel
  exact this ⟨x, hx⟩ ⟨y, hy⟩
theorem stp_drop (l : List UInt8) (k : Nat) (h : k < l.length) : l.drop k ≠ [] ∧ bt (l.drop k) 0 = bt l k ∧ bt (l.drop k) 1 = bt l (k + 1) ∧ bt (l.drop k) 2 = bt l (k + 2) ∧ (l.drop k).length = l.length - k := by
  refine ⟨?_, by rw [bt_drop]; rfl, by rw [bt_drop], by rw [bt_drop], List.length_drop⟩
  intro e
  have := congrArg List.length e
  rw [List.length_drop] at this
  simp at this
  omega
theorem stp_at (l : List UInt8) (k : Nat) (h : k < l.length) : stp (l.drop k) =
    if pl (bt l k) = true then (bt l k, 1) else if bt l k ≠ 37 ∨ l.length - k ≤ 2 then (0, 0) else if 15 < nib (bt l (k + 1)) ∨ 15 < nib (bt l (k + 2)) then (0, 0)
    else if pl (16 * nib (bt l (k + 1)) + nib (bt l (k + 2))) = true then (0, 0) else (16 * nib (bt l (k + 1)) + nib (bt l (k + 2)), 3) := by
  obtain ⟨d0, d1, d2, d3, d4⟩ := stp_drop l k h
  rw [stp, d1, d2, d3, d4]
set_option maxHeartbeats 2000000 in
theorem unquote (w : World) (l : List UInt8) (hl : l.length ≤ 40000) :
    Calls Try.prog 45 #[.string (mk l)] w fun e w' => e = .returned (.tuple #[.string (mk (uqT l)), .bool (uqB l)]) ∧ Below w.heap.size w w' := by
  have hsz := mk_size l
  have hat := at_mk l
  obtain ⟨s, HSS⟩ : ∃ s, Hid (mk l = s) := ⟨_, Lib.hid rfl⟩
  rw [HSS.out] at hsz hat ⊢
  rw [← hsz] at hl
  have HSZ := Lib.hid hsz
  have HAT := Lib.hid hat
  clear hat hsz
  have HR := Lib.hid (uq_ret l)
  go_enter Try.func45, Try.ntmps45
  go_wp2
  go_loopw [4, 5] (fun v i wr => ∃ (k : Nat) (acc : List UInt8), k ≤ s.size ∧ acc.length ≤ k ∧ i = .int .i64 k ∧ wr.ownsRow w.heap.size 5 1 v acc.length (bytesV acc) ∧ Below w.heap.size w wr ∧ Hid (uq l [] = uq (l.drop k) acc)) (fun _ i _ => s.size - (intOf i).toNat)
  case atStart => exact ⟨0, [], by omega, by simp, rfl, by simpa [bytesV] using World.ownsRow_nil _ _ _ _, Below.refl _ _, Lib.hid rfl⟩
  case round =>
    obtain ⟨k, acc, hk, hac, rfl, ho, hb, HU⟩ := hrel
    have O := Lib.hid ho
    have B := Lib.hid hb
    clear ho hb
    by_cases hp : k < s.size
    · have hq : (k : Int) < (s.size : Int) := by omega
      have hck := HAT.out k hp
      obtain ⟨d0, d1, d2, d3, d4⟩ := stp_drop l k (by rw [← HSZ.out]; exact hp)
      have HST := Lib.hid (stp_at l k (by rw [← HSZ.out]; exact hp))
      have HU1 := Lib.hid (fun h => HU.out.trans (uq_none (l.drop k) acc d0 h))
      have HU2 := Lib.hid (fun h => HU.out.trans (uq_step (l.drop k) acc d0 h))
      have hcb := bt_lt l k
      have HP := Lib.hid (fun W => plain W (bt l k))
      rw [← HSZ.out] at HST
      clear d0 d1 d2 d3 d4
      generalize bt l k = c at *
      by_cases hpl : pl c = true
      · rw [hpl] at HP
        rw [if_pos hpl] at HST
        have HV : Hid (uq l [] = uq (l.drop (k + 1)) (acc ++ [UInt8.ofNat c])) := Lib.hid (by
          have := HU2.out (by rw [HST.out]; simp)
          rwa [HST.out, List.drop_drop] at this)
        go_wp2_with fail
        refine (HP.out _).mono ?_
        rintro e w1 ⟨rfl, rfl⟩
        go_wp2_with (refine appendBytes rfl (.tmp 20) (.tmp 22) 61 rfl 5 Try.underlying61 u8info w.heap.size u4 _ acc rfl (O.out.alloc _) _ 1 1 [UInt8.ofNat c] rfl (Rb.new _ _ _ [UInt8.ofNat c] (by simp) (by simp [bytesV]; omega) 1 rfl) (by omega) (by have := B.out.size; simp; omega) ?_; intro v2 w2 ho2 hg2 hat2)
        go_roundw
        case rel => exact ⟨k + 1, _, by omega, by simp; omega, by go_num, by rw [List.length_append]; exact ho2, grow_below B.out O.out _ hg2, HV⟩
        case measure => simp [intOf]; omega
      · rw [if_neg hpl] at HST
        rw [show pl c = false by simpa using hpl] at HP
        by_cases hbad : c ≠ 37 ∨ s.size - k ≤ 2
        · rw [if_pos hbad] at HST
          have hr := (HR.out none (HU1.out (by rw [HST.out]))).1 rfl
          have HRR := Lib.hid hr
          clear hr
          by_cases h37 : c = 37
          · have e37 : ((c : Int) != 37) = false := by simp; omega
            have hge : (s.size : Int) ≤ (k : Int) + 2 := by omega
            clear h37 hbad
            go_wp2_with fail
            refine (HP.out _).mono ?_
            rintro e w1 ⟨rfl, rfl⟩
            go_wp2
            go_ret2
            exact ⟨HRR.out, B.out⟩
          · have e37 : ((c : Int) != 37) = true := by simp; omega
            go_wp2_with fail
            refine (HP.out _).mono ?_
            rintro e w1 ⟨rfl, rfl⟩
            go_wp2
            go_ret2
            exact ⟨HRR.out, B.out⟩
        · rw [if_neg hbad] at HST
          have e37 : ((c : Int) != 37) = false := by simp; omega
          have hge : ¬ (s.size : Int) ≤ (k : Int) + 2 := by omega
          obtain ⟨k1, hk1⟩ : ∃ k1, k1 = k + 1 := ⟨_, rfl⟩
          obtain ⟨k2, hk2⟩ : ∃ k2, k2 = k + 2 := ⟨_, rfl⟩
          have hc1 : (k : Int) + 1 = (k1 : Int) := by omega
          have hc2 : (k : Int) + 2 = (k2 : Int) := by omega
          have p1 : ∀ h : k1 < s.size, (s[k1]'h).toNat = bt l (k + 1) := fun h => by rw [HAT.out k1 h, hk1]
          have p2 : ∀ h : k2 < s.size, (s[k2]'h).toNat = bt l (k + 2) := fun h => by rw [HAT.out k2 h, hk2]
          have v1 := wrap_i ((k : Int) + 1) (by omega) (by omega)
          have v2 := wrap_i ((k : Int) + 2) (by omega) (by omega)
          rw [hc1] at v1
          rw [hc2] at v2
          have o1 : (0 : Int) ≤ (k1 : Int) := by omega
          have o2 : (0 : Int) ≤ (k2 : Int) := by omega
          have j1 : k1 < s.size := by omega
          have j2 : k2 < s.size := by omega
          have i1 : (k1 : Int) < (s.size : Int) := by omega
          have i2 : (k2 : Int) < (s.size : Int) := by omega
          have hkk2 := Lib.hid hk2
          clear hk1 hk2
          have n1 := nib_le (bt l (k + 1))
          have n2 := nib_le (bt l (k + 2))
          have HN1 := Lib.hid (fun W => nibble W (bt l (k + 1)) (bt_lt _ _))
          have HN2 := Lib.hid (fun W => nibble W (bt l (k + 2)) (bt_lt _ _))
          generalize bt l (k + 1) = a1 at *
          generalize bt l (k + 2) = a2 at *
          generalize nib a1 = x at *
          generalize nib a2 = y at *
          go_wp2_with fail
          refine (HP.out _).mono ?_
          rintro e w1 ⟨rfl, rfl⟩
          go_wp2_with fail
          go_region_held3 (fun w' => w' = wr.drew)
            (first | exact rfl | with_reducible assumption)
            (first
              | (go_at_call 58; (with_reducible refine (HN1.out _).mono ?_); rintro e w7 ⟨rfl, rfl⟩)
              | (go_at_call 58; (with_reducible refine (HN2.out _).mono ?_); rintro e w7 ⟨rfl, rfl⟩))
          all_goals
            clear p1 p2 v1 v2 o1 o2 j1 j2 i1 i2 HN1 HN2
            by_cases hxy : x ≤ 15 ∧ y ≤ 15
            · have x1 : (x : Int) ≤ 15 := by omega
              have y1 : (y : Int) ≤ 15 := by omega
              have hor : bits .or .u8 (16 * (x : Int)) (y : Int) = ((16 * x + y : Nat) : Int) := or4 x y (by omega) (by omega)
              have hor' : bits .or .u8 ((x : Int) * 16) (y : Int) = ((16 * x + y : Nat) : Int) := by rw [Int.mul_comm]; exact hor
              have HPL := Lib.hid (fun W => plain W (16 * x + y))
              have hrb : 16 * x + y < 256 := by omega
              rw [if_neg (by omega)] at HST
              generalize 16 * x + y = r at *
              go_wp2_with fail
              refine (HPL.out _).mono ?_
              rintro e w8 ⟨rfl, rfl⟩
              by_cases hpr : pl r = true
              · rw [hpr]
                rw [if_pos hpr] at HST
                have HRR := Lib.hid ((HR.out none (HU1.out (by rw [HST.out]))).1 rfl)
                go_wp2
                go_ret2
                exact ⟨HRR.out, B.out.drew⟩
              · rw [show pl r = false by simpa using hpr]
                rw [if_neg hpr] at HST
                have HV : Hid (uq l [] = uq (l.drop (k2 + 1)) (acc ++ [UInt8.ofNat r])) := Lib.hid (by
                  have := HU2.out (by rw [HST.out]; simp)
                  rwa [HST.out, List.drop_drop, show k + 3 = k2 + 1 by have := hkk2.out; omega] at this)
                have hk2b : acc.length + 1 ≤ k2 + 1 := by have := hkk2.out; omega
                go_wp2_with (refine appendBytes rfl (.tmp 56) (.tmp 61) 61 rfl 5 Try.underlying61 u8info w.heap.size u4 _ acc rfl (O.out.alloc _) _ 1 1 [UInt8.ofNat r] rfl (Rb.new _ _ _ [UInt8.ofNat r] (by simp) (by simp [bytesV]; omega) 1 rfl) (by omega) (by have := B.out.size; simp; omega) ?_; intro v2 w2 ho2 hg2 hat2)
                go_roundw
                case rel => exact ⟨k2 + 1, _, by omega, by simp; omega, by go_num, by rw [List.length_append]; exact ho2, grow_belowE B.out O.out _ hg2, HV⟩
                case measure => have := hkk2.out; simp [intOf]; omega
            · have hrr := HR.out none (HU1.out (by rw [HST.out, if_pos (by omega)]))
              have HRR := Lib.hid (hrr.1 rfl)
              clear hrr
              by_cases hx : x ≤ 15
              · have x1 : (x : Int) ≤ 15 := by omega
                have y1 : ¬ (y : Int) ≤ 15 := by omega
                go_wp2
                go_ret2
                exact ⟨HRR.out, B.out.drew⟩
              · have x1 : ¬ (x : Int) ≤ 15 := by omega
                go_wp2
                go_ret2
                exact ⟨HRR.out, B.out.drew⟩
    · obtain rfl : k = s.size := by omega
      have hall : l.drop s.size = [] := by rw [HSZ.out, List.drop_length]
      have hr := (HR.out (some acc) (by rw [HU.out, hall]; rfl)).2 acc rfl
      have HRR := Lib.hid hr
      clear hr hall
      obtain ⟨A, n, c, rfl, he⟩ := end_text O.out
      go_wp2
      go_ret2
      exact ⟨HRR.out, B.out⟩
end Go.Proofs.Ytcjonnfhnddapaa.Nam
