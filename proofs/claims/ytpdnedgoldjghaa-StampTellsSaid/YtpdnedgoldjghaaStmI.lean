import Derived.Test.YtpdnedgoldjghaaStmD
/- The reference's Parse. -/
namespace Go.Proofs.Ytpdnedgoldjghaa.Stm
open Go.RowKit NumP StmP Num

set_option maxRecDepth 100000 in
set_option maxHeartbeats 1600000 in
theorem refParse (w : World) (l : List UInt8) (hl : l.length ≤ 9223372036854775806) :
    Calls Try.prog 21 #[.string (mk l)] w fun e w' => e = .returned (.tuple #[sV (prs l).1 (prs l).2.1, .bool (prs l).2.2]) ∧ Below w.heap.size w w' := by
  have hsz := mk_size l
  have hat := at_mk l
  have hd1 := mk_take l
  have hd2 := mk_drop l
  have HSS : ∃ s, Hid (mk l = s) := ⟨_, Lib.hid rfl⟩
  obtain ⟨s, HSS⟩ := HSS
  rw [HSS.out] at hsz hat hd1 hd2 ⊢
  rw [← hsz] at hl hd2
  have HSZ := Lib.hid hsz
  have HAT := Lib.hid hat
  have HD1 := Lib.hid hd1
  have HD2 := Lib.hid hd2
  clear hat hd1 hd2 hsz
  have HPN := Lib.hid (prs_no l)
  have HPA := Lib.hid (prs_at l)
  have HGD := Lib.hid (good_dot l)
  generalize prs l = P at *
  go_enter Try.func21, Try.ntmps21
  go_wp2
  go_loopw [4] (fun i wr => ∃ k : Nat, k ≤ s.size ∧ i = .int .i64 k ∧ Bk wr w.heap.size 23 #[.int .i64 0, .int .i64 0] ∧ Below w.heap.size w wr ∧ Hid (∀ j, j < k → good l j = false)) (fun i _ => s.size - (intOf i).toNat)
  case atStart => exact ⟨0, Nat.zero_le _, rfl, Bk.new _ _ _, (Below.refl _ _).alloc (Nat.le_refl _) _, Lib.hid (by intro j hj; omega)⟩
  case round =>
    obtain ⟨k, hk, rfl, k0, bl0, HB⟩ := hrel
    have K0 := Lib.hid k0
    have B0 := Lib.hid bl0
    clear k0 bl0
    by_cases hp : k < s.size
    · have hc := HAT.out k hp
      have hcb := bt_lt l k
      have HO := Lib.hid (show good l k = true → P = (numV (l.take k), numV (l.drop (k + 1)), true) from fun hg => HPA.out k (by rw [← HSZ.out]; exact hp) hg HB.out)
      have HNX := Lib.hid (show good l k = false → ∀ j, j < k + 1 → good l j = false from fun hg j hj => by
        rcases Nat.lt_succ_iff_lt_or_eq.1 hj with h | h
        · exact HB.out j h
        · rw [h]; exact hg)
      have HDT := Lib.hid (HGD.out k)
      have HG := Lib.hid (show bt l k = 46 → good l k = (okN (l.take k) && okN (l.drop (k + 1)) && may (numV (l.take k)) (numV (l.drop (k + 1)))) from fun h => by rw [good, h]; rfl)
      have HN1 := Lib.hid (fun W => refNumber W (l.take k) (by simp; omega))
      have HN2 := Lib.hid (fun W => refNumber W (l.drop (k + 1)) (by have := HSZ.out; rw [List.length_drop]; omega))
      have hx1 := HD1.out k
      have hx2 := HD2.out (k + 1)
      generalize bt l k = c at *
      generalize good l k = gd at *
      generalize numV (l.take k) = a at *
      generalize numV (l.drop (k + 1)) = b at *
      generalize okN (l.take k) = b1 at *
      generalize okN (l.drop (k + 1)) = b2 at *
      clear HB
      go_wp2_with fail
      refine (HN1.out _).mono ?_
      rintro e w1 ⟨rfl, hb1⟩
      have K1 := Lib.hid (K0.out.below hb1 K0.out.lt)
      have B1 := Lib.hid (Below.then_below B0.out hb1)
      clear hb1
      go_wp2_with fail
      refine (HN2.out _).mono ?_
      rintro e w2 ⟨rfl, hb2⟩
      have K2 := Lib.hid ((K1.out.below hb2 K1.out.lt).alloc (.cells #[.int .i64 a, .int .i64 b] 23))
      have B2 := Lib.hid (Below.then_below B1.out hb2)
      have KX := Lib.hid (Bk.new w2 23 #[.int .i64 a, .int .i64 b])
      have B3 := Lib.hid (B2.out.alloc B2.out.size (.cells #[.int .i64 a, .int .i64 b] 23))
      clear hb2 K1 B1 B2 K0 B0
      have HR := Lib.hid (fun W => refRight W a b)
      have HS := Lib.hid (fun W => refReserved W a b)
      have HM : Hid (may a b = (right a b || resv a b)) := Lib.hid rfl
      generalize may a b = mm at *
      generalize right a b = rg at *
      generalize resv a b = rs at *
      by_cases h46 : c = 46
      · subst h46
        by_cases h12 : b1 = true ∧ b2 = true
        · obtain ⟨rfl, rfl⟩ := h12
          go_wp2_with fail
          refine (HR.out _).mono ?_
          rintro e w3 ⟨rfl, hb3⟩
          have K3 := Lib.hid (K2.out.below hb3 K2.out.lt)
          have KX3 := Lib.hid (KX.out.below hb3 KX.out.lt)
          have B4 := Lib.hid (Below.then_below B3.out hb3)
          have c03 : w3.cell? ⟨w2.heap.size, 0, none⟩ = some (.int .i64 a) := by rw [KX3.out.cell]; simp
          have c13 : w3.cell? ⟨w2.heap.size, 0 + 1, none⟩ = some (.int .i64 b) := by rw [KX3.out.cell]; simp
          clear hb3
          cases rg
          case true =>
            go_wp2_with (refine storeWhole rfl 23 (.tmp 2) (.tmp 52) rfl w.heap.size 23 _ #[.int .i64 a, .int .i64 b] rfl rfl K3.out rfl (by kernel_rfl) (one2 _ _) ?_; intro w9 hb9 hg9)
            go_wp2
            refine bodyPost_ret (res_cell_tmp rfl _ _ w.heap.size 23 #[.int .i64 a, .int .i64 b] _ _ rfl hb9 Try.underlying23 rfl (by kernel_rfl)) rfl ⟨?_, B4.out.grown hg9 B4.out.size (fun k e => by injection e with e; omega)⟩
            have hP := HO.out (by rw [HG.out (by trivial), HM.out]; rfl)
            rw [hP]
            rfl
          case false =>
            go_wp2_with fail
            refine (HS.out _).mono ?_
            rintro e w4 ⟨rfl, hb4⟩
            have K4 := Lib.hid (K3.out.below hb4 K3.out.lt)
            have KX4 := Lib.hid (KX3.out.below hb4 KX3.out.lt)
            have B5 := Lib.hid (Below.then_below B4.out hb4)
            have c04 : w4.cell? ⟨w2.heap.size, 0, none⟩ = some (.int .i64 a) := by rw [KX4.out.cell]; simp
            have c14 : w4.cell? ⟨w2.heap.size, 0 + 1, none⟩ = some (.int .i64 b) := by rw [KX4.out.cell]; simp
            clear hb4 c03 c13
            cases rs
            case true =>
              go_wp2_with (refine storeWhole rfl 23 (.tmp 2) (.tmp 52) rfl w.heap.size 23 _ #[.int .i64 a, .int .i64 b] rfl rfl K4.out rfl (by kernel_rfl) (one2 _ _) ?_; intro w9 hb9 hg9)
              go_wp2
              refine bodyPost_ret (res_cell_tmp rfl _ _ w.heap.size 23 #[.int .i64 a, .int .i64 b] _ _ rfl hb9 Try.underlying23 rfl (by kernel_rfl)) rfl ⟨?_, B5.out.grown hg9 B5.out.size (fun k e => by injection e with e; omega)⟩
              have hP := HO.out (by rw [HG.out (by trivial), HM.out]; rfl)
              rw [hP]
              rfl
            case false =>
              go_wp2
              go_roundw
              case rel => exact ⟨k + 1, by omega, by go_num, K4.out, B5.out, Lib.hid (HNX.out (by rw [HG.out (by trivial), HM.out]; rfl))⟩
              case measure => simp [intOf]; omega
        · rcases (by cases b1 <;> cases b2 <;> simp_all : b1 = false ∨ (b1 = true ∧ b2 = false)) with rfl | ⟨rfl, rfl⟩
          all_goals
            clear h12
            go_wp2
            go_roundw
            case rel => exact ⟨k + 1, by omega, by go_num, K2.out, B3.out, Lib.hid (HNX.out (by rw [HG.out (by trivial)]; rfl))⟩
            case measure => simp [intOf]; omega
      · have h47 : ((c : Int) == 46) = false := by simp; omega
        have HH := Lib.hid (HDT.out h46)
        go_wp2
        go_roundw
        case rel => exact ⟨k + 1, by omega, by go_num, K2.out, B3.out, Lib.hid (HNX.out HH.out)⟩
        case measure => simp [intOf]; omega
    · obtain rfl : k = s.size := by omega
      have HX := Lib.hid (HPN.out fun j hj => HB.out j (by rw [HSZ.out]; exact hj))
      go_wp2_with (refine storeWhole rfl 23 (.tmp 2) (.tmp 53) rfl w.heap.size 23 _ #[.int .i64 0, .int .i64 0] rfl rfl K0.out rfl (by kernel_rfl) (one2 _ _) ?_; intro w9 hb9 hg9)
      go_wp2
      refine bodyPost_ret (res_cell_tmp rfl _ _ w.heap.size 23 #[.int .i64 0, .int .i64 0] _ _ rfl hb9 Try.underlying23 rfl (by kernel_rfl)) rfl ⟨?_, B0.out.grown hg9 B0.out.size (fun k e => by injection e with e; omega)⟩
      rw [HX.out]
      rfl
end Go.Proofs.Ytpdnedgoldjghaa.Stm
