import Derived.Test.YtcjonnfhnddapaaNamA
import Derived.Lib.MinMax
/- Check, plain, nibble, one, Suffixed. -/
namespace Go.Proofs.Ytcjonnfhnddapaa.Nam
open Go.RowKit NumP Num NamP

theorem tl_eq {s : ByteArray} {l X : List UInt8} (h : s.toList = l) (e : l = X) : (s.toList == X) = true := by rw [h, e]; simp
theorem tl_ne {s : ByteArray} {l X : List UInt8} (h : s.toList = l) (e : l ≠ X) : (s.toList == X) = false := by rw [h]; simpa using e
theorem cases_chk (l : List UInt8) : (l = [] ∧ chk l = 25) ∨ (l ≠ [] ∧ l = [46] ∧ chk l = 25) ∨ (l ≠ [] ∧ l ≠ [46] ∧ l = [46, 46] ∧ chk l = 25) ∨ (l ≠ [] ∧ l ≠ [46] ∧ l ≠ [46, 46] ∧ badB l = true ∧ chk l = 25) ∨
    (l ≠ [] ∧ l ≠ [46] ∧ l ≠ [46, 46] ∧ badB l = false ∧ 255 < l.length ∧ chk l = 26) ∨ (l ≠ [] ∧ l ≠ [46] ∧ l ≠ [46, 46] ∧ badB l = false ∧ ¬ 255 < l.length ∧ chk l = 0) := by
  by_cases h1 : l = []
  · exact .inl ⟨h1, chk_bad (.inl h1)⟩
  by_cases h2 : l = [46]
  · exact .inr (.inl ⟨h1, h2, chk_bad (.inr (.inl h2))⟩)
  by_cases h3 : l = [46, 46]
  · exact .inr (.inr (.inl ⟨h1, h2, h3, chk_bad (.inr (.inr (.inl h3)))⟩))
  cases hb : badB l with
  | true => exact .inr (.inr (.inr (.inl ⟨h1, h2, h3, rfl, chk_bad (.inr (.inr (.inr ((badB_iff l).1 hb))))⟩)))
  | false =>
    have hn : ¬ (l = [] ∨ l = [46] ∨ l = [46, 46] ∨ 47 ∈ l ∨ 0 ∈ l) := by
      rintro (h | h | h | h)
      · exact h1 h
      · exact h2 h
      · exact h3 h
      · rw [(badB_iff l).2 h] at hb; cases hb
    by_cases h5 : 255 < l.length
    · exact .inr (.inr (.inr (.inr (.inl ⟨h1, h2, h3, rfl, h5, chk_long hn h5⟩))))
    · exact .inr (.inr (.inr (.inr (.inr ⟨h1, h2, h3, rfl, h5, chk_ok hn h5⟩))))
set_option maxHeartbeats 1000000 in
theorem check (w : World) (l : List UInt8) (hl : l.length ≤ 9223372036854775807) :
    Calls Try.prog 37 #[.string (mk l)] w fun e w' => e = .returned (.int .i64 (chk l : Nat)) ∧ w = w' := by
  have hsz := mk_size l
  have hml := mk_list l
  have HS := Lib.hid (fun W => someBad W l hl)
  obtain ⟨s, HSS⟩ : ∃ s, Hid (mk l = s) := ⟨_, Lib.hid rfl⟩
  rw [HSS.out] at hsz hml HS ⊢
  have HML := Lib.hid hml
  clear hml
  rcases cases_chk l with ⟨h1, hc⟩ | ⟨h1, h2, hc⟩ | ⟨h1, h2, h3, hc⟩ | ⟨h1, h2, h3, h4, hc⟩ | ⟨h1, h2, h3, h4, h5, hc⟩ | ⟨h1, h2, h3, h4, h5, hc⟩
  · have e1 := tl_eq HML.out h1
    rw [hc]
    clear hsz h1 hc
    go_enter Try.func37, Try.ntmps37
    go_wp2
    go_ret
    exact ⟨rfl, rfl⟩
  · have e1 := tl_ne HML.out h1
    have e2 := tl_eq HML.out h2
    rw [hc]
    clear hsz h1 h2 hc
    go_enter Try.func37, Try.ntmps37
    go_wp2
    go_ret
    exact ⟨rfl, rfl⟩
  · have e1 := tl_ne HML.out h1
    have e2 := tl_ne HML.out h2
    have e3 := tl_eq HML.out h3
    rw [hc]
    clear hsz h1 h2 h3 hc
    go_enter Try.func37, Try.ntmps37
    go_wp2
    go_ret
    exact ⟨rfl, rfl⟩
  · have e1 := tl_ne HML.out h1
    have e2 := tl_ne HML.out h2
    have e3 := tl_ne HML.out h3
    rw [hc]
    rw [h4] at HS
    clear hsz h1 h2 h3 hc h4
    go_enter Try.func37, Try.ntmps37
    go_wp2_with fail
    refine (HS.out _).mono ?_
    rintro e w1 ⟨rfl, rfl⟩
    go_wp2
    go_ret
    exact ⟨rfl, rfl⟩
  · have e1 := tl_ne HML.out h1
    have e2 := tl_ne HML.out h2
    have e3 := tl_ne HML.out h3
    have hq : (255 : Int) < (s.size : Int) := by omega
    rw [hc]
    rw [h4] at HS
    clear hsz h1 h2 h3 hc h4
    go_enter Try.func37, Try.ntmps37
    go_wp2_with fail
    refine (HS.out _).mono ?_
    rintro e w1 ⟨rfl, rfl⟩
    go_wp2
    go_ret
    exact ⟨rfl, rfl⟩
  · have e1 := tl_ne HML.out h1
    have e2 := tl_ne HML.out h2
    have e3 := tl_ne HML.out h3
    have hq : ¬ (255 : Int) < (s.size : Int) := by omega
    rw [hc]
    rw [h4] at HS
    clear hsz h1 h2 h3 hc h4
    go_enter Try.func37, Try.ntmps37
    go_wp2_with fail
    refine (HS.out _).mono ?_
    rintro e w1 ⟨rfl, rfl⟩
    go_wp2
    go_ret
    exact ⟨rfl, rfl⟩
set_option maxHeartbeats 1000000 in
theorem refCheck (w : World) (l : List UInt8) (hl : l.length ≤ 9223372036854775807) :
    Calls Try.prog 32 #[.string (mk l)] w fun e w' => e = .returned (.int .i64 (chk l : Nat)) ∧ w = w' := by
  have hsz := mk_size l
  have hml := mk_list l
  have HS := Lib.hid (fun W => refHas W l hl 47)
  have HT := Lib.hid (fun W => refHas W l hl 0)
  have hbb : badB l = (hasB l 47 || hasB l 0) := rfl
  obtain ⟨s, HSS⟩ : ∃ s, Hid (mk l = s) := ⟨_, Lib.hid rfl⟩
  rw [HSS.out] at hsz hml HS HT ⊢
  have HML := Lib.hid hml
  clear hml
  rcases cases_chk l with ⟨h1, hc⟩ | ⟨h1, h2, hc⟩ | ⟨h1, h2, h3, hc⟩ | ⟨h1, h2, h3, h4, hc⟩ | ⟨h1, h2, h3, h4, h5, hc⟩ | ⟨h1, h2, h3, h4, h5, hc⟩
  · have e1 := tl_eq HML.out h1
    rw [hc]
    clear hsz h1 hc hbb
    go_enter Try.func32, Try.ntmps32
    go_wp2
    go_ret
    exact ⟨rfl, rfl⟩
  · have e1 := tl_ne HML.out h1
    have e2 := tl_eq HML.out h2
    rw [hc]
    clear hsz h1 h2 hc hbb
    go_enter Try.func32, Try.ntmps32
    go_wp2
    go_ret
    exact ⟨rfl, rfl⟩
  · have e1 := tl_ne HML.out h1
    have e2 := tl_ne HML.out h2
    have e3 := tl_eq HML.out h3
    rw [hc]
    clear hsz h1 h2 h3 hc hbb
    go_enter Try.func32, Try.ntmps32
    go_wp2
    go_ret
    exact ⟨rfl, rfl⟩
  · have e1 := tl_ne HML.out h1
    have e2 := tl_ne HML.out h2
    have e3 := tl_ne HML.out h3
    rw [hc]
    rw [h4] at hbb
    clear hsz h1 h2 h3 hc h4
    generalize hasB l 47 = x at *
    generalize hasB l 0 = y at *
    cases x with
    | true =>
      clear hbb
      go_enter Try.func32, Try.ntmps32
      go_wp2_with fail
      refine (HS.out _).mono ?_
      rintro e w1 ⟨rfl, rfl⟩
      go_wp2
      go_ret
      exact ⟨rfl, rfl⟩
    | false =>
      obtain rfl : y = true := by simpa using hbb.symm
      clear hbb
      go_enter Try.func32, Try.ntmps32
      go_wp2_with fail
      refine (HS.out _).mono ?_
      rintro e w1 ⟨rfl, rfl⟩
      go_wp2_with fail
      refine (HT.out _).mono ?_
      rintro e w1 ⟨rfl, rfl⟩
      go_wp2
      go_ret
      exact ⟨rfl, rfl⟩
  all_goals
    have e1 := tl_ne HML.out h1
    have e2 := tl_ne HML.out h2
    have e3 := tl_ne HML.out h3
    first
      | have hq : (255 : Int) < (s.size : Int) := by omega
      | have hq : ¬ (255 : Int) < (s.size : Int) := by omega
    rw [hc]
    rw [h4] at hbb
    clear hsz h1 h2 h3 hc h4
    generalize hasB l 47 = x at *
    generalize hasB l 0 = y at *
    obtain ⟨rfl, rfl⟩ : x = false ∧ y = false := by simpa using hbb.symm
    clear hbb
    go_enter Try.func32, Try.ntmps32
    go_wp2_with fail
    refine (HS.out _).mono ?_
    rintro e w1 ⟨rfl, rfl⟩
    go_wp2_with fail
    refine (HT.out _).mono ?_
    rintro e w1 ⟨rfl, rfl⟩
    go_wp2
    go_ret
    exact ⟨rfl, rfl⟩
end Go.Proofs.Ytcjonnfhnddapaa.Nam
