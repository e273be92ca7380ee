import Derived.Test.YtcjonnfhnddapaaNamQ
import Derived.Test.YtcjonnfhnddapaaLetC
/- What is a name: the program's Check and the reference's. -/
namespace Go.Proofs.Ytcjonnfhnddapaa.Nam
open Go.RowKit NumP Num NamP

/-- Is one of the bytes so. -/
def hasB (l : List UInt8) (c : Nat) : Bool := l.any fun b => b.toNat == c
theorem hasB_yes (l : List UInt8) (c k : Nat) (h : k < l.length) (e : bt l k = c) : hasB l c = true := by
  simp only [hasB, List.any_eq_true, beq_iff_eq]
  exact ⟨l[k], List.getElem_mem h, by rw [← bt_get l k h]; exact e⟩
theorem hasB_no (l : List UInt8) (c : Nat) (h : ∀ j, j < l.length → bt l j ≠ c) : hasB l c = false := by
  rw [← Bool.not_eq_true]
  simp only [hasB, List.any_eq_true, beq_iff_eq]
  rintro ⟨x, hx, e⟩
  obtain ⟨j, hj, rfl⟩ := List.getElem_of_mem hx
  exact h j hj (by rw [bt_get l j hj]; exact e)
theorem hasB_mem (l : List UInt8) (c : UInt8) : hasB l c.toNat = true ↔ c ∈ l := by
  simp only [hasB, List.any_eq_true, beq_iff_eq]
  constructor
  · rintro ⟨x, hx, e⟩
    rwa [← UInt8.toNat_inj.1 e]
  · intro h; exact ⟨c, h, rfl⟩
def badB (l : List UInt8) : Bool := hasB l 47 || hasB l 0
theorem badB_yes (l : List UInt8) (k : Nat) (h : k < l.length) (e : bt l k = 47 ∨ bt l k = 0) : badB l = true := by
  rw [badB, Bool.or_eq_true]
  rcases e with e | e
  · exact .inl (hasB_yes l 47 k h e)
  · exact .inr (hasB_yes l 0 k h e)
theorem badB_no (l : List UInt8) (h : ∀ j, j < l.length → bt l j ≠ 47 ∧ bt l j ≠ 0) : badB l = false := by
  rw [badB, hasB_no l 47 (fun j hj => (h j hj).1), hasB_no l 0 (fun j hj => (h j hj).2)]; rfl
theorem badB_iff (l : List UInt8) : badB l = true ↔ (47 ∈ l ∨ 0 ∈ l) := by
  rw [badB, Bool.or_eq_true]
  exact or_congr (hasB_mem l 47) (hasB_mem l 0)

set_option maxHeartbeats 400000 in
theorem refHas (w : World) (l : List UInt8) (hl : l.length ≤ 9223372036854775807) (c : Nat) :
    Calls Try.prog 54 #[.string (mk l), .int .u8 c] w fun e w' => e = .returned (.bool (hasB l c)) ∧ w = w' := by
  have hsz := mk_size l
  have hat := at_mk l
  obtain ⟨s, HSS⟩ : ∃ s, Hid (mk l = s) := ⟨_, Lib.hid rfl⟩
  rw [HSS.out] at hsz hat ⊢
  have HSZ := Lib.hid hsz
  have HAT := Lib.hid hat
  clear hat
  rw [← hsz] at hl
  clear hsz
  have HY := Lib.hid (hasB_yes l c)
  have HN := Lib.hid (hasB_no l c)
  rw [← HSZ.out] at HY HN
  generalize hasB l c = r at *
  go_enter Try.func54, Try.ntmps54
  go_wp2
  go_loopw [5] (fun i wr => ∃ k : Nat, k ≤ s.size ∧ i = .int .i64 k ∧ wr = w ∧ Hid (∀ j, j < k → bt l j ≠ c)) (fun i _ => s.size - (intOf i).toNat)
  case atStart => exact ⟨0, by omega, rfl, rfl, Lib.hid (fun j hj => absurd hj (by omega))⟩
  case round =>
    obtain ⟨k, hk, rfl, rfl, HB⟩ := hrel
    by_cases hp : k < s.size
    · have hq : (k : Int) < (s.size : Int) := by omega
      have hck := HAT.out k hp
      by_cases he : bt l k = c
      · rw [he] at hck
        have hr := HY.out k hp he
        subst hr
        go_wp2
        go_ret
        exact ⟨rfl, rfl⟩
      · have HE := Lib.hid he
        generalize bt l k = d at hck he
        have h4 : ((d : Int) == (c : Int)) = false := by simp; omega
        go_wp2
        go_roundw
        case rel => exact ⟨k + 1, by omega, by go_num, by trivial, Lib.hid (fun j hj => by
          rcases Nat.lt_succ_iff_lt_or_eq.1 hj with h | rfl
          · exact HB.out j h
          · exact HE.out)⟩
        case measure => simp [intOf]; omega
    · obtain rfl : k = s.size := by omega
      have hr := HN.out HB.out
      subst hr
      go_wp2
      go_ret
      exact ⟨rfl, rfl⟩
theorem bad (w : World) (c : Nat) (hc : c < 256) : Calls Try.prog 55 #[.int .u8 c] w fun e w' => e = .returned (.bool (decide (c = 47 ∨ c = 0))) ∧ w = w' := by
  by_cases h1 : c = 47
  · subst h1
    go_enter Try.func55, Try.ntmps55
    go_wp2
    go_ret
    exact ⟨rfl, rfl⟩
  · have e1 : ((c : Int) == 47) = false := by simp; omega
    by_cases h2 : c = 0
    · subst h2
      go_enter Try.func55, Try.ntmps55
      go_wp2
      go_ret
      exact ⟨rfl, rfl⟩
    · have e2 : ((c : Int) == 0) = false := by simp; omega
      rw [decide_eq_false (by omega)]
      go_enter Try.func55, Try.ntmps55
      go_wp2
      go_ret
      exact ⟨rfl, rfl⟩
set_option maxHeartbeats 400000 in
theorem someBad (w : World) (l : List UInt8) (hl : l.length ≤ 9223372036854775807) :
    Calls Try.prog 56 #[.string (mk l), .func (.func 55) #[] #[]] w fun e w' => e = .returned (.bool (badB l)) ∧ w = w' := by
  have hsz := mk_size l
  have hat := at_mk l
  obtain ⟨s, HSS⟩ : ∃ s, Hid (mk l = s) := ⟨_, Lib.hid rfl⟩
  rw [HSS.out] at hsz hat ⊢
  have HSZ := Lib.hid hsz
  have HAT := Lib.hid hat
  clear hat
  rw [← hsz] at hl
  clear hsz
  have HY := Lib.hid (badB_yes l)
  have HN := Lib.hid (badB_no l)
  rw [← HSZ.out] at HY HN
  generalize badB l = r at *
  go_enter Try.func56, Try.ntmps56
  go_wp2
  go_loopw [8] (fun i wr => ∃ k : Nat, k ≤ s.size ∧ i = .int .i64 k ∧ wr = w ∧ Hid (∀ j, j < k → bt l j ≠ 47 ∧ bt l j ≠ 0)) (fun i _ => s.size - (intOf i).toNat)
  case atStart => exact ⟨0, by omega, rfl, rfl, Lib.hid (fun j hj => absurd hj (by omega))⟩
  case round =>
    obtain ⟨k, hk, rfl, rfl, HB⟩ := hrel
    by_cases hp : k < s.size
    · have hq : (k : Int) < (s.size : Int) := by omega
      have hck := HAT.out k hp
      have hcb := bt_lt l k
      have HYk := Lib.hid (HY.out k hp)
      generalize hd : bt l k = d at hck hcb HYk
      have HD := Lib.hid hd
      clear hd
      have HC := Lib.hid (fun W => bad W d hcb)
      go_wp2_with fail
      refine (HC.out _).mono ?_
      rintro e w1 ⟨rfl, rfl⟩
      by_cases he : d = 47 ∨ d = 0
      · have hr := HYk.out he
        subst hr
        rw [decide_eq_true he]
        go_wp2
        go_ret
        exact ⟨rfl, rfl⟩
      · have HE := Lib.hid he
        rw [decide_eq_false he]
        go_wp2
        go_roundw
        case rel => exact ⟨k + 1, by omega, by go_num, by trivial, Lib.hid (fun j hj => by
          rcases Nat.lt_succ_iff_lt_or_eq.1 hj with h | rfl
          · exact HB.out j h
          · have := HE.out; rw [HD.out]; omega)⟩
        case measure => simp [intOf]; omega
    · obtain rfl : k = s.size := by omega
      have hr := HN.out HB.out
      subst hr
      go_wp2
      go_ret
      exact ⟨rfl, rfl⟩
end Go.Proofs.Ytcjonnfhnddapaa.Nam
