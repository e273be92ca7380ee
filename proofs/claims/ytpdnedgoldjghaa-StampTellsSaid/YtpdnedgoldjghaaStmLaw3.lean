import Derived.Test.YtpdnedgoldjghaaStmG
import Derived.Test.YtpdnedgoldjghaaStmH
import Derived.Test.YtpdnedgoldjghaaStmI
/- StampTells. -/
namespace Go.Proofs.Ytpdnedgoldjghaa.Stm
open Go.RowKit NumP StmP Num

theorem keep4 {w w1 w2 : World} {p q r s : Addr} {a b c d : Value} (h : Below w.heap.size w w1 ∧ w1.cell? p = some a ∧ w1.cell? q = some b ∧ w1.cell? r = some c ∧ w1.cell? s = some d) (hb : Below w1.heap.size w1 w2) :
    Below w.heap.size w w2 ∧ w2.cell? p = some a ∧ w2.cell? q = some b ∧ w2.cell? r = some c ∧ w2.cell? s = some d :=
  ⟨Below.then_below h.1 hb, cell_keep h.2.1 hb, cell_keep h.2.2.1 hb, cell_keep h.2.2.2.1 hb, cell_keep h.2.2.2.2 hb⟩
theorem below4 {w w1 : World} {p q r s : Addr} {a b c d : Value} (h : Below w.heap.size w w1 ∧ w1.cell? p = some a ∧ w1.cell? q = some b ∧ w1.cell? r = some c ∧ w1.cell? s = some d) : Below w.heap.size w w1 := h.1

set_option maxRecDepth 100000 in
set_option maxHeartbeats 4000000 in
theorem tells (w : World) (t r u q : Int) (l : List UInt8) (hl : l.length ≤ 9223372036854775807) (ht : -9223372036854775808 ≤ t ∧ t ≤ 9223372036854775807) (hr : -9223372036854775808 ≤ r ∧ r ≤ 9223372036854775807) :
    Calls Try.prog 6 #[sV t r, sV u q, .string (mk l)] w fun e w' => e = .returned (.bool true) ∧ Below w.heap.size w w' := by
  have KA0 := Lib.hid ((Bk.new w 23 #[.int .i64 t, .int .i64 r]).alloc (.cells #[.int .i64 u, .int .i64 q] 23))
  have KB0 := Lib.hid ((Bk.new (w.alloc (.cells #[.int .i64 t, .int .i64 r] 23)) 23 #[.int .i64 u, .int .i64 q]).of_num (g' := w.heap.size + 1) (by simp))
  have B0 := Lib.hid (below_2 w (.cells #[.int .i64 t, .int .i64 r] 23) (.cells #[.int .i64 u, .int .i64 q] 23))
  have hsz := mk_size l
  by_cases hbig : 100 < l.length
  · have h1 : (100 : Int) < (l.length : Int) := by omega
    go_enter Try.func6, Try.ntmps6
    go_wp2_with fail
    refine (awake _).mono ?_
    rintro e w1 ⟨rfl, hb1⟩
    have B1 := Lib.hid (Below.then_below B0.out hb1)
    clear hb1
    go_wp2
    go_ret
    exact ⟨rfl, B1.out⟩
  have h1 : (l.length : Int) ≤ 100 := by omega
  have HP1 := Lib.hid (fun W => stParse W l (by omega))
  have HP2 := Lib.hid (fun W => refParse W l (by omega))
  have HT1 := Lib.hid (fun W => stText W t r ht.1 ht.2 hr.1 hr.2)
  have HT2 := Lib.hid (fun W => refText W t r ht.1 ht.2 hr.1 hr.2)
  have HR1 := Lib.hid (fun W => stRight W t r)
  have HR2 := Lib.hid (fun W => refRight W t r)
  have HS1 := Lib.hid (fun W => stReserved W t r)
  have HS2 := Lib.hid (fun W => refReserved W t r)
  have HC1 := Lib.hid (fun W => stCompare W t r u q)
  have HC2 := Lib.hid (fun W => refCompare W t r u q)
  generalize mk (stT t r) = tx at *
  generalize right t r = rg at *
  generalize resv t r = rs at *
  generalize cmpS t r u q = cm at *
  generalize prs l = P at *
  obtain ⟨pa, pb, ok⟩ := P
  simp only [] at HP1 HP2
  generalize mk l = s at *
  go_enter Try.func6, Try.ntmps6
  go_wp2_with fail
  refine (HP1.out _).mono ?_
  rintro e w1 ⟨rfl, hb1⟩
  have KA1 := Lib.hid ((KA0.out.below hb1 KA0.out.lt).alloc (.cells #[.int .i64 pa, .int .i64 pb] 23))
  have KB1 := Lib.hid ((KB0.out.below hb1 KB0.out.lt).alloc (.cells #[.int .i64 pa, .int .i64 pb] 23))
  have b1 := Lib.hid (Below.then_below B0.out hb1)
  have B1 := Lib.hid (b1.out.alloc b1.out.size (.cells #[.int .i64 pa, .int .i64 pb] 23))
  have X1 := Lib.hid (Bk.new w1 23 #[.int .i64 pa, .int .i64 pb])
  clear hb1 KA0 KB0 B0 b1
  go_wp2_with fail
  refine (HP2.out _).mono ?_
  rintro e w2 ⟨rfl, hb2⟩
  have KA2 := Lib.hid ((KA1.out.below hb2 KA1.out.lt).alloc (.cells #[.int .i64 pa, .int .i64 pb] 23))
  have KB2 := Lib.hid ((KB1.out.below hb2 KB1.out.lt).alloc (.cells #[.int .i64 pa, .int .i64 pb] 23))
  have b2 := Lib.hid (Below.then_below B1.out hb2)
  have B2 := Lib.hid (b2.out.alloc b2.out.size (.cells #[.int .i64 pa, .int .i64 pb] 23))
  have X2 := Lib.hid ((X1.out.below hb2 X1.out.lt).alloc (.cells #[.int .i64 pa, .int .i64 pb] 23))
  have Y2 := Lib.hid (Bk.new w2 23 #[.int .i64 pa, .int .i64 pb])
  clear hb2 KA1 KB1 B1 b2 X1
  go_wp2
  generalize hW : w2.alloc (.cells #[.int .i64 pa, .int .i64 pb] 23) = w3 at *
  clear hW
  go_region_held3 (fun w' => Below w3.heap.size w3 w' ∧ w'.cell? ⟨w.heap.size, 0, none⟩ = some (.int .i64 t) ∧ w'.cell? ⟨w.heap.size, 0 + 1, none⟩ = some (.int .i64 r) ∧ w'.cell? ⟨w.heap.size + 1, 0, none⟩ = some (.int .i64 u) ∧ w'.cell? ⟨w.heap.size + 1, 0 + 1, none⟩ = some (.int .i64 q))
    (first | exact ⟨below_drewN (Below.refl _ _) 1, by rw [World.cell?_drew, KA2.out.cell]; simp, by rw [World.cell?_drew, KA2.out.cell]; simp, by rw [World.cell?_drew, KB2.out.cell]; simp, by rw [World.cell?_drew, KB2.out.cell]; simp⟩ | exact keep4 (by assumption) hb5)
    (first
      | (go_at_call 22; (with_reducible refine (HS1.out _).mono ?_); rintro e w5 ⟨rfl, hb5⟩)
      | (go_at_call 13; (with_reducible refine (HS2.out _).mono ?_); rintro e w5 ⟨rfl, hb5⟩)
      | (go_at_call 23; (with_reducible refine (HR1.out _).mono ?_); rintro e w5 ⟨rfl, hb5⟩)
      | (go_at_call 12; (with_reducible refine (HR2.out _).mono ?_); rintro e w5 ⟨rfl, hb5⟩)
      | (go_at_call 24; (with_reducible refine (HC1.out _).mono ?_); rintro e w5 ⟨rfl, hb5⟩)
      | (go_at_call 25; (with_reducible refine (HC2.out _).mono ?_); rintro e w5 ⟨rfl, hb5⟩)
      | (go_at_call 16; (with_reducible refine (HT1.out _).mono ?_); rintro e w5 ⟨rfl, hb5⟩)
      | (go_at_call 26; (with_reducible refine (HT2.out _).mono ?_); rintro e w5 ⟨rfl, hb5⟩))
  go_wp2_with fail
  refine (root _).mono ?_
  rintro e w6 ⟨rfl, hb6⟩
  have B6 := Lib.hid (Below.then_below (below4 (by assumption)) hb6)
  clear hb6
  go_wp2_with fail
  refine (trash _).mono ?_
  rintro e w7 ⟨rfl, hb7⟩
  go_wp2_with fail
  refine (lost _).mono ?_
  rintro e w8 ⟨rfl, hb8⟩
  have B8 := Lib.hid (Below.then_below (Below.then_below B6.out hb7) hb8)
  have X8 := Lib.hid (X2.out.below B8.out X2.out.lt)
  have Y8 := Lib.hid (Y2.out.below B8.out Y2.out.lt)
  have c0 : w8.cell? ⟨w1.heap.size, 0, none⟩ = some (.int .i64 pa) := by rw [X8.out.cell]; simp
  have c1 : w8.cell? ⟨w1.heap.size, 0 + 1, none⟩ = some (.int .i64 pb) := by rw [X8.out.cell]; simp
  have d0 : w8.cell? ⟨w2.heap.size, 0, none⟩ = some (.int .i64 pa) := by rw [Y8.out.cell]; simp
  have d1 : w8.cell? ⟨w2.heap.size, 0 + 1, none⟩ = some (.int .i64 pb) := by rw [Y8.out.cell]; simp
  have B9 := Lib.hid (Below.then_below B2.out B8.out)
  clear hb7 hb8
  cases ok
  all_goals
    go_wp2_with fail
    refine (awake _).mono ?_
    rintro e w9 ⟨rfl, hb9⟩
    have B10 := Lib.hid (Below.then_below B9.out hb9)
    clear hb9
    go_wp2
    go_ret
    exact ⟨rfl, B10.out⟩
end Go.Proofs.Ytpdnedgoldjghaa.Stm
