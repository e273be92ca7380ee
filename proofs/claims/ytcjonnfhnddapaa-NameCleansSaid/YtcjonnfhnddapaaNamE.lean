import Derived.Test.YtcjonnfhnddapaaNamD
/- Base, both. -/
namespace Go.Proofs.Ytcjonnfhnddapaa.Nam
open Go.RowKit NumP Num NamP

theorem base_yes (l : List UInt8) (p : Nat) (h : lst l = p) (hp : 0 < p) (ho : okN (l.drop (p + 1)) = true) (hv : 2 ≤ numV (l.drop (p + 1))) : baseT l = l.take p ∧ baseN l = numV (l.drop (p + 1)) := by
  subst h
  have hb : based l = true := by rw [based, ho, decide_eq_true hp, decide_eq_true hv]; rfl
  rw [baseT, baseN, if_pos hb, if_pos hb]
  exact ⟨rfl, rfl⟩
theorem base_no (l : List UInt8) (p : Nat) (h : lst l = p) (hn : p = 0 ∨ okN (l.drop (p + 1)) = false ∨ numV (l.drop (p + 1)) < 2) : baseT l = l ∧ baseN l = 0 := by
  subst h
  have hb : based l = false := by
    rw [based]
    rcases hn with h | h | h
    · rw [decide_eq_false (by omega)]; rfl
    · rw [h]; simp
    · rw [decide_eq_false (by omega : ¬ 2 ≤ numV (l.drop (lst l + 1)))]; simp
  rw [baseT, baseN, hb]
  exact ⟨rfl, rfl⟩
theorem ret_base {s : ByteArray} {l a : List UInt8} {n m : Nat} (h : mk a = s) (h1 : baseT l = a) (h2 : baseN l = n) (h3 : n = m) : Ending.returned (.tuple #[.string s, .int .i64 m]) = .returned (.tuple #[.string (mk (baseT l)), .int .i64 (baseN l)]) := by rw [h1, h2, h, h3]
theorem cut1 (l : List UInt8) (p : Nat) (h : p < l.length) : ((mk l).extract p (p + 1)).toList = [l[p]] := by
  have : ((mk l).extract p (p + 1)).toList = (l.drop p).take 1 := by
    rw [ByteArray.toList_eq]
    simp [mk, ByteArray.data_extract, List.extract]
  rw [this, List.drop_eq_getElem_cons h]
  rfl
theorem cut1_yes (l : List UInt8) (p : Nat) (h : p < l.length) (e : bt l p = 126) : (((mk l).extract p (p + 1)).toList == [126]) = true := by
  rw [cut1 l p h]
  have : l[p] = 126 := UInt8.toNat_inj.1 (by rw [← bt_get l p h]; exact e)
  rw [this]; rfl
theorem cut1_no (l : List UInt8) (p : Nat) (h : p < l.length) (e : bt l p ≠ 126) : (((mk l).extract p (p + 1)).toList == [126]) = false := by
  rw [cut1 l p h, beq_eq_false_iff_ne]
  intro e2
  injection e2 with e2
  exact e (by rw [bt_get l p h, e2]; rfl)
theorem mk_drop (l : List UInt8) (k : Nat) : (mk l).extract k l.length = mk (l.drop k) := by
  apply ByteArray.ext
  simp [mk, ByteArray.data_extract]
  exact List.take_of_length_le (by simp)
set_option maxHeartbeats 1000000 in
theorem base (w : World) (l : List UInt8) (hl : l.length ≤ 1000000) :
    Calls Try.prog 40 #[.string (mk l)] w fun e w' => e = .returned (.tuple #[.string (mk (baseT l)), .int .i64 (baseN l)]) ∧ Below w.heap.size w w' := by
  have hsz := mk_size l
  have hcy := cut1_yes l
  have hcn := cut1_no l
  have hdr := mk_drop l
  have htk := mk_take l
  have HN := Lib.hid (fun W p => number W (l.drop p) (by simp; omega))
  have HR := Lib.hid (fun (a : List UInt8) (s : ByteArray) (n m : Nat) => ret_base (l := l) (a := a) (s := s) (n := n) (m := m))
  obtain ⟨s, HSS⟩ : ∃ s, Hid (mk l = s) := ⟨_, Lib.hid rfl⟩
  rw [HSS.out] at hsz hcy hcn hdr htk ⊢
  rw [← hsz] at hl hcy hcn hdr
  have HSZ := Lib.hid hsz
  have HCY := Lib.hid hcy
  have HCN := Lib.hid hcn
  have HDR := Lib.hid hdr
  have HTK := Lib.hid htk
  clear hcy hcn hsz hdr htk
  go_enter Try.func40, Try.ntmps40
  go_wp2
  go_loopw [4] (fun i wr => ∃ k : Int, -1 ≤ k ∧ k < s.size ∧ i = .int .i64 k ∧ wr = w ∧ Hid (∀ j : Nat, k < j → j < s.size → bt l j ≠ 126)) (fun i _ => (intOf i + 1).toNat)
  case atStart => exact ⟨(s.size : Int) - 1, by omega, by omega, rfl, rfl, Lib.hid (fun j h1 h2 => by omega)⟩
  case round =>
    obtain ⟨k, hk0, hk1, rfl, rfl, HB⟩ := hrel
    by_cases hp : 0 < k
    · obtain ⟨p, rfl⟩ := Int.eq_ofNat_of_zero_le (show 0 ≤ k by omega)
      have hp1 : p < s.size := by omega
      have q1 : (0 : Int) ≤ (p : Int) := by omega
      have q2 : (p : Int) ≤ (p : Int) + 1 := by omega
      have q3 : (p : Int) + 1 ≤ (s.size : Int) := by omega
      have q4 : (0 : Int) ≤ (p : Int) + 1 := by omega
      have q5 : (p : Int) ≤ (s.size : Int) := by omega
      by_cases he : bt l p = 126
      · have hx := HCY.out p hp1 he
        have hd := HDR.out (p + 1)
        have ht := HTK.out p
        have HL : Hid (lst l = p) := Lib.hid (lst_at l p (by rw [← HSZ.out]; exact hp1) (by omega) he (fun j h1 h2 => HB.out j (by omega) (by rw [HSZ.out]; exact h2)))
        have HNp := Lib.hid (fun W => HN.out W (p + 1))
        have HBY := Lib.hid (base_yes l p HL.out (by omega))
        have HBN := Lib.hid (base_no l p HL.out)
        generalize okN (l.drop (p + 1)) = ok at *
        generalize numV (l.drop (p + 1)) = v at *
        go_wp2_with fail
        refine (HNp.out _).mono ?_
        rintro e w1 ⟨rfl, hb1⟩
        have B1 := Lib.hid hb1
        clear hb1
        cases ok with
        | false =>
          have hr := HBN.out (.inr (.inl rfl))
          go_wp2
          go_ret2
          exact ⟨HR.out _ _ _ _ HSS.out hr.1 hr.2 rfl, B1.out⟩
        | true =>
          by_cases hv : v < 2
          · have hr := HBN.out (.inr (.inr hv))
            have hv' : (v : Int) < 2 := by omega
            go_wp2
            go_ret2
            exact ⟨HR.out _ _ _ _ HSS.out hr.1 hr.2 rfl, B1.out⟩
          · have hr := HBY.out rfl (by omega)
            have hv' : ¬ (v : Int) < 2 := by omega
            go_wp2
            go_ret2
            exact ⟨HR.out _ _ _ _ rfl hr.1 hr.2 rfl, B1.out⟩
      · have hx := HCN.out p hp1 he
        have HE := Lib.hid he
        go_wp2
        go_roundw
        case rel => exact ⟨(p : Int) - 1, by omega, by omega, by go_num, by trivial, Lib.hid (fun j h1 h2 => by
          rcases Nat.lt_trichotomy j p with h | h | h
          · omega
          · rw [h]; exact HE.out
          · exact HB.out j (by omega) h2)⟩
        case measure => simp [intOf]
    · have hz : lst l = 0 := lst_no l (fun j h1 h2 => HB.out j (by omega) (by rw [HSZ.out]; exact h2))
      have hr := base_no l 0 hz (.inl rfl)
      clear hz
      have HK := Lib.hid hr
      clear hr
      go_wp2
      go_ret2
      exact ⟨HR.out _ _ _ _ HSS.out HK.out.1 HK.out.2 rfl, Below.refl _ _⟩
set_option maxHeartbeats 1000000 in
theorem refBase (w : World) (l : List UInt8) (hl : l.length ≤ 1000000) :
    Calls Try.prog 41 #[.string (mk l)] w fun e w' => e = .returned (.tuple #[.string (mk (baseT l)), .int .i64 (baseN l)]) ∧ Below w.heap.size w w' := by
  have hsz := mk_size l
  have hat := at_mk l
  have hdr := mk_drop l
  have htk := mk_take l
  have HN := Lib.hid (fun W p => refNumber W (l.drop p) (by simp; omega))
  have HR := Lib.hid (fun (a : List UInt8) (s : ByteArray) (n m : Nat) => ret_base (l := l) (a := a) (s := s) (n := n) (m := m))
  obtain ⟨s, HSS⟩ : ∃ s, Hid (mk l = s) := ⟨_, Lib.hid rfl⟩
  rw [HSS.out] at hsz hat hdr htk ⊢
  rw [← hsz] at hl hdr
  have HSZ := Lib.hid hsz
  have HAT := Lib.hid hat
  have HDR := Lib.hid hdr
  have HTK := Lib.hid htk
  clear hat hsz hdr htk
  go_enter Try.func41, Try.ntmps41
  go_wp2
  go_loopw [4, 5] (fun la i wr => ∃ (m : Int) (k : Nat), k ≤ s.size ∧ -1 ≤ m ∧ m < k ∧ la = .int .i64 m ∧ i = .int .i64 k ∧ wr = w ∧ Hid ((m = -1 ∨ bt l m.toNat = 126) ∧ ∀ j : Nat, m < j → j < k → bt l j ≠ 126)) (fun _ i _ => s.size - (intOf i).toNat)
  case atStart => exact ⟨-1, 0, by omega, by omega, by omega, rfl, rfl, rfl, Lib.hid ⟨.inl rfl, fun j h1 h2 => by omega⟩⟩
  case round =>
    obtain ⟨m, k, hk, hm0, hm1, rfl, rfl, rfl, HB⟩ := hrel
    by_cases hp : k < s.size
    · have hq : (k : Int) < (s.size : Int) := by omega
      have hck := HAT.out k hp
      by_cases he : bt l k = 126
      · have HE := Lib.hid he
        rw [he] at hck
        go_wp2
        go_roundw
        case rel => exact ⟨k, k + 1, by omega, by omega, by omega, by trivial, by go_num, by trivial, Lib.hid ⟨.inr (by simpa using HE.out), fun j h1 h2 => by omega⟩⟩
        case measure => simp [intOf]; omega
      · have HE := Lib.hid he
        generalize bt l k = d at hck he
        have h4 : ((d : Int) == 126) = false := by simp; omega
        go_wp2
        go_roundw
        case rel => exact ⟨m, k + 1, by omega, by omega, by omega, by trivial, by go_num, by trivial, Lib.hid ⟨HB.out.1, fun j h1 h2 => by
          rcases Nat.lt_succ_iff_lt_or_eq.1 h2 with h | rfl
          · exact HB.out.2 j h1 h
          · exact HE.out⟩⟩
        case measure => simp [intOf]; omega
    · obtain rfl : k = s.size := by omega
      by_cases hm : m < 1
      · have hz : lst l = 0 := lst_no l (fun j h1 h2 => HB.out.2 j (by omega) (by rw [HSZ.out]; exact h2))
        have HK := Lib.hid (base_no l 0 hz (.inl rfl))
        clear hz
        go_wp2
        go_ret2
        exact ⟨HR.out _ _ _ _ HSS.out HK.out.1 HK.out.2 rfl, Below.refl _ _⟩
      · obtain ⟨p, rfl⟩ := Int.eq_ofNat_of_zero_le (show 0 ≤ m by omega)
        have hp1 : p < s.size := by omega
        have q1 : (0 : Int) ≤ (p : Int) := by omega
        have q2 : (p : Int) ≤ (p : Int) + 1 := by omega
        have q3 : (p : Int) + 1 ≤ (s.size : Int) := by omega
        have q4 : (0 : Int) ≤ (p : Int) + 1 := by omega
        have q5 : (p : Int) ≤ (s.size : Int) := by omega
        have hd := HDR.out (p + 1)
        have ht := HTK.out p
        have HL : Hid (lst l = p) := Lib.hid (lst_at l p (by rw [← HSZ.out]; exact hp1) (by omega) (by
          rcases HB.out.1 with h | h
          · omega
          · simpa using h) (fun j h1 h2 => HB.out.2 j (by omega) (by rw [HSZ.out]; exact h2)))
        have HNp := Lib.hid (fun W => HN.out W (p + 1))
        have HBY := Lib.hid (base_yes l p HL.out (by omega))
        have HBN := Lib.hid (base_no l p HL.out)
        generalize okN (l.drop (p + 1)) = ok at *
        generalize numV (l.drop (p + 1)) = v at *
        go_wp2_with fail
        refine (HNp.out _).mono ?_
        rintro e w1 ⟨rfl, hb1⟩
        have B1 := Lib.hid hb1
        clear hb1
        cases ok with
        | false =>
          have hr := HBN.out (.inr (.inl rfl))
          go_wp2
          go_ret2
          exact ⟨HR.out _ _ _ _ HSS.out hr.1 hr.2 rfl, B1.out⟩
        | true =>
          by_cases hv : v < 2
          · have hr := HBN.out (.inr (.inr hv))
            have hv' : (v : Int) < 2 := by omega
            go_wp2
            go_ret2
            exact ⟨HR.out _ _ _ _ HSS.out hr.1 hr.2 rfl, B1.out⟩
          · have hr := HBY.out rfl (by omega)
            have hv' : ¬ (v : Int) < 2 := by omega
            go_wp2
            go_ret2
            exact ⟨HR.out _ _ _ _ rfl hr.1 hr.2 rfl, B1.out⟩
end Go.Proofs.Ytcjonnfhnddapaa.Nam
