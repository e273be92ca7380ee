import Derived.Test.YtcjonnfhnddapaaProg
import Derived.WalkKit
import Derived.LoopTactic
import Derived.Outline
import Derived.Deep.QuietTactic
import Derived.BigQuiet
import Derived.WalkSpells
import Derived.Test.YtcjonnfhnddapaaCore
import Derived.Test.YtcjonnfhnddapaaLetP
/- banyanref01: tail, several, Next. -/
namespace Go.Proofs.Ytcjonnfhnddapaa.Let
open Go.RowKit


set_option maxHeartbeats 400000 in
theorem refTail (w : World) (s : ByteArray) (k : Nat) (hs : s.size ≤ 9223372036854775807) (hk : k ≤ 9223372036854775807) :
    Calls Try.prog 60 #[.string s, .int .i64 k] w fun e w' => e = .returned (.int .i64 (LetP.tl s k)) ∧ w = w' := by
  by_cases h : k < s.size
  · have hb := LetP.sb_at s k
    have hc := LetP.sb_lt s k
    have HT := Lib.hid (show LetP.tl s k = if LetP.sb s k / 64 = 2 then ((LetP.sb s k % 64 : Nat) : Int) else -1 from by rw [LetP.tl, if_pos h])
    generalize LetP.sb s k = c at *
    by_cases h2 : c / 64 = 2
    · have h3 : ((c : Int) / 64 != 2) = false := by simp; omega
      go_enter Try.func60, Try.ntmps60
      go_wp2
      go_ret
      exact ⟨ret_int (by rw [HT.out, if_pos h2]; rfl), rfl⟩
    · have h3 : ((c : Int) / 64 != 2) = true := by simp; omega
      go_enter Try.func60, Try.ntmps60
      go_wp2
      go_ret
      exact ⟨ret_int (by rw [HT.out, if_neg h2]), rfl⟩
  · go_enter Try.func60, Try.ntmps60
    go_wp2
    go_ret
    exact ⟨ret_int (by rw [LetP.tl, if_neg h]), rfl⟩

def bnd (k : Nat) : Nat := 32 * 64 ^ k
theorem bnd_succ (k : Nat) : bnd (k + 1) = 64 * bnd k := by unfold bnd; rw [Nat.pow_succ]; omega
theorem bnd_le (k : Nat) (h : k ≤ 3) : bnd k ≤ 8388608 := by
  unfold bnd
  match k, h with
  | 0, _ => decide
  | 1, _ => decide
  | 2, _ => decide
  | 3, _ => decide

set_option maxHeartbeats 400000 in
theorem refSeveral (w : World) (s : ByteArray) (p m x0 : Nat) (hs : s.size ≤ 9223372036854775800) (hp : p ≤ 9223372036854775800) (hm : m ≤ 3) (hx : x0 < 32) (nI xI : Int) (hn : nI = (m : Int) + 1) (hxI : xI = (x0 : Int)) :
    Calls Try.prog 50 #[.string s, .int .i64 p, .int .i64 nI, .int .i64 xI] w fun e w' => e = .returned (.int .i64 (LetP.sev s p m 1 x0)) ∧ w = w' := by
  subst hn hxI
  go_enter Try.func50, Try.ntmps50
  go_wp2
  go_loop [9, 10, 11] (fun x i _ => ∃ (k : Nat) (y : Int), k ≤ m ∧ i = .int .i64 ((k + 1 : Nat) : Int) ∧ x = .int .i64 y ∧ 0 ≤ y ∧ y < (bnd k : Int) ∧ Hid (LetP.sev s p m 1 x0 = LetP.sev s p (m - k) (k + 1) y)) (fun _ i _ => m + 1 - (intOf i).toNat)
  case atStart => exact ⟨0, x0, by omega, rfl, rfl, by omega, by simp [bnd]; omega, Lib.hid rfl⟩
  case round =>
    obtain ⟨k, y, hk, rfl, rfl, hy0, hy1, HS⟩ := hrel
    have hb := bnd_le k (by omega)
    have hbs := Lib.hid (bnd_succ k)
    by_cases hlt : k < m
    · have ht := LetP.tl_lt s (p + (k + 1))
      have HE := Lib.hid (show LetP.sev s p (m - k) (k + 1) y = if LetP.tl s (p + (k + 1)) < 0 then -1 else LetP.sev s p (m - (k + 1)) (k + 1 + 1) (64 * y + LetP.tl s (p + (k + 1))) from by
        rw [show m - k = (m - (k + 1)) + 1 by omega]; rfl)
      have hc := refTail w s (p + (k + 1)) (by omega) (by omega)
      have HC := Lib.hid hc
      clear hc
      generalize LetP.tl s (p + (k + 1)) = t at *
      by_cases hneg : t < 0
      · go_wp2_with (go_at_call 60; refine HC.out.mono ?_; rintro e w' ⟨rfl, rfl⟩)
        go_ret
        exact ⟨ret_int (by rw [HS.out, HE.out, if_pos hneg]), rfl⟩
      · go_wp2_with (go_at_call 60; refine HC.out.mono ?_; rintro e w' ⟨rfl, rfl⟩)
        go_round
        case rel =>
          refine ⟨k + 1, 64 * y + t, by omega, by go_num, rfl, by omega, ?_, Lib.hid ?_⟩
          · rw [hbs.out]; omega
          · rw [HS.out, HE.out, if_neg (by omega)]
        case measure => simp [intOf]; omega
    · obtain rfl : k = m := by omega
      go_wp2
      go_ret
      exact ⟨ret_int (by rw [HS.out, Nat.sub_self]; rfl), rfl⟩

theorem sev2 (s : ByteArray) (p : Nat) (x : Int) : LetP.sev s p 1 1 x = LetP.sv2 x (LetP.tl s (p + 1)) := rfl
theorem sev3 (s : ByteArray) (p : Nat) (x : Int) : LetP.sev s p 2 1 x = LetP.sv3 x (LetP.tl s (p + 1)) (LetP.tl s (p + 2)) := rfl
theorem sev4 (s : ByteArray) (p : Nat) (x : Int) : LetP.sev s p 3 1 x = LetP.sv4 x (LetP.tl s (p + 1)) (LetP.tl s (p + 2)) (LetP.tl s (p + 3)) := rfl

/-- A piece as a value. -/
def pcA (p : Nat) (x : Int × Int) : Value := .agg #[.int .i64 p, .int .i64 x.1, .int .i64 x.2]
theorem ret_pc {p : Nat} {a b c d : Int} (h : (a, b) = (c, d)) : Ending.returned (.agg #[.int .i64 (p : Int), .int .i64 a, .int .i64 b]) = .returned (pcA p (c, d)) := by cases h; rfl

set_option maxRecDepth 100000 in
set_option maxHeartbeats 800000 in
theorem refNext (w : World) (s : ByteArray) (p : Nat) (hs : s.size ≤ 9223372036854775800) (hp : p < s.size) :
    Calls Try.prog 18 #[.string s, .int .i64 p] w fun e w' => e = .returned (pcA p (LetP.wid s p, LetP.rune s p)) ∧ Below w.heap.size w w' := by
  rw [← LetP.nx_eq]
  have hb := LetP.sb_at s p
  have hc := LetP.sb_lt s p
  have H2 := Lib.hid (fun (W : World) (x0 : Nat) (hx : x0 < 32) => refSeveral W s p 1 x0 hs (by omega) (by omega) hx 2 x0 rfl rfl)
  have H3 := Lib.hid (fun (W : World) (x0 : Nat) (hx : x0 < 32) => refSeveral W s p 2 x0 hs (by omega) (by omega) hx 3 x0 rfl rfl)
  have H4 := Lib.hid (fun (W : World) (x0 : Nat) (hx : x0 < 32) => refSeveral W s p 3 x0 hs (by omega) (by omega) hx 4 x0 rfl rfl)
  have HX := Lib.hid (show LetP.nx s p = LetP.nxA (LetP.sb s p) (LetP.tl s (p + 1)) (LetP.tl s (p + 2)) (LetP.tl s (p + 3)) from rfl)
  simp only [sev2, sev3, sev4] at H2 H3 H4
  generalize LetP.sb s p = c at *
  generalize LetP.tl s (p + 1) = a1 at *
  generalize LetP.tl s (p + 2) = a2 at *
  generalize LetP.tl s (p + 3) = a3 at *
  by_cases h1 : c < 128
  · have hr : LetP.nx s p = (1, (c : Int)) := by rw [HX.out, LetP.nxA, if_pos h1]
    rw [hr]
    clear hr HX
    go_enter Try.func18, Try.ntmps18
    go_wp2
    exact bodyPost_ret (v := .agg #[.int .i64 p, .int .i64 1, .int .i64 c]) (by simp [results, Try.results18, go_sem]) rfl ⟨rfl, (Below.refl _ _).alloc (Nat.le_refl _) _⟩
  · by_cases g2 : c / 32 = 6
    · have e2 : ((c : Int) / 32 == 6) = true := by simp; omega
      have e3 : ((c : Int) / 16 == 14) = false := by simp; omega
      have e4 : ((c : Int) / 8 == 30) = false := by simp; omega
      have HR := Lib.hid (show LetP.nx s p = if 128 ≤ LetP.sv2 (c % 32 : Nat) a1 then (2, LetP.sv2 (c % 32 : Nat) a1) else (1, 65533) from by
        rw [HX.out, LetP.nxA]
        simp [h1, g2, show ¬ c / 16 = 14 by omega, show ¬ c / 8 = 30 by omega])
      have HC := Lib.hid (fun W => H2.out W (c % 32) (by omega))
      clear H2 H3 H4 HX
      generalize LetP.sv2 (c % 32 : Nat) a1 = x at *
      by_cases hx : 128 ≤ x
      · have hr := HR.out
        rw [if_pos hx] at hr
        rw [hr]
        clear hr HR
        go_enter Try.func18, Try.ntmps18
        go_wp2_with (go_at_call 50; refine (HC.out _).mono ?_; rintro e w' ⟨rfl, rfl⟩)
        exact bodyPost_ret (v := .agg #[.int .i64 p, .int .i64 2, .int .i64 x]) (by simp [results, Try.results18, go_sem]) rfl ⟨rfl, (Below.refl _ _).alloc (Nat.le_refl _) _⟩
      · have hr := HR.out
        rw [if_neg hx] at hr
        rw [hr]
        clear hr HR
        go_enter Try.func18, Try.ntmps18
        go_wp2_with (go_at_call 50; refine (HC.out _).mono ?_; rintro e w' ⟨rfl, rfl⟩)
        exact bodyPost_ret (v := .agg #[.int .i64 p, .int .i64 1, .int .i64 65533]) (by simp [results, Try.results18, go_sem]) rfl ⟨rfl, (Below.refl _ _).alloc (Nat.le_refl _) _⟩
    · have e2 : ((c : Int) / 32 == 6) = false := by simp; omega
      by_cases g3 : c / 16 = 14
      · have e3 : ((c : Int) / 16 == 14) = true := by simp; omega
        have e4 : ((c : Int) / 8 == 30) = false := by simp; omega
        have HR := Lib.hid (show LetP.nx s p = if 2048 ≤ LetP.sv3 (c % 16 : Nat) a1 a2 ∧ (LetP.sv3 (c % 16 : Nat) a1 a2 < 55296 ∨ 57343 < LetP.sv3 (c % 16 : Nat) a1 a2) then (3, LetP.sv3 (c % 16 : Nat) a1 a2) else (1, 65533) from by
          rw [HX.out, LetP.nxA]
          simp [h1, g2, g3, show ¬ c / 8 = 30 by omega])
        have HC := Lib.hid (fun W => H3.out W (c % 16) (by omega))
        clear H2 H3 H4 HX
        generalize LetP.sv3 (c % 16 : Nat) a1 a2 = x at *
        by_cases hx1 : 2048 ≤ x
        · by_cases hx2 : x < 55296
          · have hr := HR.out
            rw [if_pos ⟨hx1, .inl hx2⟩] at hr
            rw [hr]
            clear hr HR
            go_enter Try.func18, Try.ntmps18
            go_wp2_with (go_at_call 50; refine (HC.out _).mono ?_; rintro e w' ⟨rfl, rfl⟩)
            exact bodyPost_ret (v := .agg #[.int .i64 p, .int .i64 3, .int .i64 x]) (by simp [results, Try.results18, go_sem]) rfl ⟨rfl, (Below.refl _ _).alloc (Nat.le_refl _) _⟩
          · by_cases hx3 : 57343 < x
            · have hr := HR.out
              rw [if_pos ⟨hx1, .inr hx3⟩] at hr
              rw [hr]
              clear hr HR
              go_enter Try.func18, Try.ntmps18
              go_wp2_with (go_at_call 50; refine (HC.out _).mono ?_; rintro e w' ⟨rfl, rfl⟩)
              exact bodyPost_ret (v := .agg #[.int .i64 p, .int .i64 3, .int .i64 x]) (by simp [results, Try.results18, go_sem]) rfl ⟨rfl, (Below.refl _ _).alloc (Nat.le_refl _) _⟩
            · have hr := HR.out
              rw [if_neg (by omega)] at hr
              rw [hr]
              clear hr HR
              go_enter Try.func18, Try.ntmps18
              go_wp2_with (go_at_call 50; refine (HC.out _).mono ?_; rintro e w' ⟨rfl, rfl⟩)
              exact bodyPost_ret (v := .agg #[.int .i64 p, .int .i64 1, .int .i64 65533]) (by simp [results, Try.results18, go_sem]) rfl ⟨rfl, (Below.refl _ _).alloc (Nat.le_refl _) _⟩
        · have hr := HR.out
          rw [if_neg (by omega)] at hr
          rw [hr]
          clear hr HR
          go_enter Try.func18, Try.ntmps18
          go_wp2_with (go_at_call 50; refine (HC.out _).mono ?_; rintro e w' ⟨rfl, rfl⟩)
          exact bodyPost_ret (v := .agg #[.int .i64 p, .int .i64 1, .int .i64 65533]) (by simp [results, Try.results18, go_sem]) rfl ⟨rfl, (Below.refl _ _).alloc (Nat.le_refl _) _⟩
      · have e3 : ((c : Int) / 16 == 14) = false := by simp; omega
        by_cases g4 : c / 8 = 30
        · have e4 : ((c : Int) / 8 == 30) = true := by simp; omega
          have HR := Lib.hid (show LetP.nx s p = if 65536 ≤ LetP.sv4 (c % 8 : Nat) a1 a2 a3 ∧ LetP.sv4 (c % 8 : Nat) a1 a2 a3 ≤ 1114111 then (4, LetP.sv4 (c % 8 : Nat) a1 a2 a3) else (1, 65533) from by
            rw [HX.out, LetP.nxA]
            simp [h1, g2, g3, g4])
          have HC := Lib.hid (fun W => H4.out W (c % 8) (by omega))
          clear H2 H3 H4 HX
          generalize LetP.sv4 (c % 8 : Nat) a1 a2 a3 = x at *
          by_cases hx1 : 65536 ≤ x
          · by_cases hx2 : x ≤ 1114111
            · have hr := HR.out
              rw [if_pos ⟨hx1, hx2⟩] at hr
              rw [hr]
              clear hr HR
              go_enter Try.func18, Try.ntmps18
              go_wp2_with (go_at_call 50; refine (HC.out _).mono ?_; rintro e w' ⟨rfl, rfl⟩)
              exact bodyPost_ret (v := .agg #[.int .i64 p, .int .i64 4, .int .i64 x]) (by simp [results, Try.results18, go_sem]) rfl ⟨rfl, (Below.refl _ _).alloc (Nat.le_refl _) _⟩
            · have hr := HR.out
              rw [if_neg (by omega)] at hr
              rw [hr]
              clear hr HR
              go_enter Try.func18, Try.ntmps18
              go_wp2_with (go_at_call 50; refine (HC.out _).mono ?_; rintro e w' ⟨rfl, rfl⟩)
              exact bodyPost_ret (v := .agg #[.int .i64 p, .int .i64 1, .int .i64 65533]) (by simp [results, Try.results18, go_sem]) rfl ⟨rfl, (Below.refl _ _).alloc (Nat.le_refl _) _⟩
          · have hr := HR.out
            rw [if_neg (by omega)] at hr
            rw [hr]
            clear hr HR
            go_enter Try.func18, Try.ntmps18
            go_wp2_with (go_at_call 50; refine (HC.out _).mono ?_; rintro e w' ⟨rfl, rfl⟩)
            exact bodyPost_ret (v := .agg #[.int .i64 p, .int .i64 1, .int .i64 65533]) (by simp [results, Try.results18, go_sem]) rfl ⟨rfl, (Below.refl _ _).alloc (Nat.le_refl _) _⟩
        · have e4 : ((c : Int) / 8 == 30) = false := by simp; omega
          have hr : LetP.nx s p = (1, 65533) := by
            rw [HX.out, LetP.nxA]
            simp [h1, g2, g3, g4]
          rw [hr]
          clear hr HX H2 H3 H4
          go_enter Try.func18, Try.ntmps18
          go_wp2
          exact bodyPost_ret (v := .agg #[.int .i64 p, .int .i64 1, .int .i64 65533]) (by simp [results, Try.results18, go_sem]) rfl ⟨rfl, (Below.refl _ _).alloc (Nat.le_refl _) _⟩
end Go.Proofs.Ytcjonnfhnddapaa.Let
