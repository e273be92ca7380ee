import Derived.Test.YtpdnedgoldjghaaStmB
import Derived.Test.YtpdnedgoldjghaaStmC
/- stamp: Parse. -/
namespace Go.Proofs.Ytpdnedgoldjghaa.Stm
open Go.RowKit NumP StmP Num

theorem mk_take (l : List UInt8) (k : Nat) : (mk l).extract 0 k = mk (l.take k) := by
  apply ByteArray.ext
  simp [mk, ByteArray.data_extract]
theorem mk_drop (l : List UInt8) (k : Nat) : (mk l).extract k l.length = mk (l.drop k) := by
  apply ByteArray.ext
  simp [mk, ByteArray.data_extract]
  exact List.take_of_length_le (by simp)
theorem one2 (a b : Int) : (#[Value.int .i64 a, .int .i64 b] : Array Value).all (·.oneCell') = true := by simp [Value.oneCell']
theorem res_cell_tmp {P : Program} {fn : Func} {p u : Tmp} {ty : TypeId} (h : fn.results = #[.cell p ty, .tmp u]) (tmps : Array Value) (w : World) (g : Nat) (t : TypeId) (cs : Array Value) (fr : Nat × Nat) (d : TypeDesc)
    (hp : tmps.getD p undef = .pointer (some ⟨g, 0, none⟩)) (hg : w.heap[g]? = some (.cells cs t fr))
    (hu : P.underlying ty = some d) (hd : (match d with | .struct _ | .array _ _ => true | _ => false) = true) (hi : (P.info? ty).map (·.size) = some cs.size) :
    (results fn tmps).run P w = .ok (.tuple #[.agg cs, tmps.getD u undef]) w := by
  rw [results_cell_tmp h, hp]
  simp [asAddr, run_loadVar_row w g t ty cs fr d hg hu hd hi]
theorem ret_st {a b c d : Int} {x y : Int} (h1 : a = b) (h2 : c = d) (h3 : x = y) : Ending.returned (.tuple #[.agg #[.int .i64 a, .int .i64 c], .int .i64 x]) = .returned (.tuple #[sV b d, .int .i64 y]) := by rw [h1, h2, h3]
def erV (b : Bool) : Int := if b then 0 else 4

set_option maxRecDepth 100000 in
set_option maxHeartbeats 1600000 in
theorem stParse (w : World) (l : List UInt8) (hl : l.length ≤ 9223372036854775806) :
    Calls Try.prog 15 #[.string (mk l)] w fun e w' => e = .returned (.tuple #[sV (prs l).1 (prs l).2.1, .int .i64 (erV (prs l).2.2)]) ∧ Below w.heap.size w w' := by
  have hsz := mk_size l
  have hat := at_mk l
  have hd1 := mk_take l
  have hd2 := mk_drop l
  have HSS : ∃ s, Hid (mk l = s) := ⟨_, Lib.hid rfl⟩
  obtain ⟨s, HSS⟩ := HSS
  rw [HSS.out] at hsz hat hd1 hd2 ⊢
  rw [← hsz] at hl hd2
  have HSZ := Lib.hid hsz
  have HAT := Lib.hid hat
  have HD1 := Lib.hid hd1
  have HD2 := Lib.hid hd2
  clear hat hd1 hd2 hsz
  have HPN := Lib.hid (prs_no l)
  have HPA := Lib.hid (prs_at l)
  have HGD := Lib.hid (good_dot l)
  have HGF := Lib.hid (good_far l)
  generalize hP : prs l = P at *
  have HP := Lib.hid hP
  clear hP
  have B0 := Lib.hid ((Below.refl w.heap.size w).alloc (Nat.le_refl _) (.cells #[.int .i64 0, .int .i64 0] 23))
  have K0 := Lib.hid (Bk.new w 23 #[.int .i64 0, .int .i64 0])
  go_enter Try.func15, Try.ntmps15
  go_wp2
  go_loopw [12] (fun i wr => ∃ k q : Nat, k ≤ s.size ∧ i = .int .i64 k ∧ wr = (w.alloc (.cells #[.int .i64 0, .int .i64 0] 23)) ∧ Hid (∀ j, j < k → bt l j ≠ 46)) (fun i _ => s.size - (intOf i).toNat)
  case atStart => exact ⟨0, 0, Nat.zero_le _, rfl, rfl, Lib.hid (by intro j hj; omega)⟩
  case round =>
    obtain ⟨k, q, hk, rfl, rfl, HB⟩ := hrel
    by_cases hp : k < s.size
    · have hc := HAT.out k hp
      have hcb := bt_lt l k
      by_cases h46 : bt l k = 46
      · have HH := Lib.hid h46
        have hx1 := HD1.out k
        have hx2 := HD2.out (k + 1)
        have HF := Lib.hid (show good l k = false → P = (0, 0, false) from fun hg => HPN.out fun j hj => by
          rcases Nat.lt_trichotomy j k with h | h | h
          · exact HGD.out j (HB.out j h)
          · rw [h]; exact hg
          · exact HGF.out k j h hj HH.out)
        have HO := Lib.hid (show good l k = true → P = (numV (l.take k), numV (l.drop (k + 1)), true) from fun hg => HPA.out k (by rw [← HSZ.out]; exact hp) hg fun j hj => HGD.out j (HB.out j hj))
        have HG := Lib.hid (show good l k = (okN (l.take k) && okN (l.drop (k + 1)) && may (numV (l.take k)) (numV (l.drop (k + 1)))) from by rw [good, HH.out]; rfl)
        have HN1 := Lib.hid (fun W => number W (l.take k) (by simp; omega))
        have HN2 := Lib.hid (fun W => number W (l.drop (k + 1)) (by have := HSZ.out; rw [List.length_drop]; omega))
        generalize bt l k = c at hc hcb h46
        subst h46
        generalize good l k = gd at *
        generalize numV (l.take k) = a at *
        generalize numV (l.drop (k + 1)) = b at *
        generalize okN (l.take k) = b1 at *
        generalize okN (l.drop (k + 1)) = b2 at *
        go_wp2_with fail
        refine (HN1.out _).mono ?_
        rintro e w1 ⟨rfl, hb1⟩
        have K1 := Lib.hid (K0.out.below hb1 (by simp))
        have B1 := Lib.hid (Below.then_below B0.out hb1)
        clear hb1
        go_wp2_with fail
        refine (HN2.out _).mono ?_
        rintro e w2 ⟨rfl, hb2⟩
        have K2 := Lib.hid ((K1.out.below hb2 K1.out.lt).alloc (.cells #[.int .i64 a, .int .i64 b] 23))
        have B2 := Lib.hid (Below.then_below B1.out hb2)
        have KX := Lib.hid (Bk.new w2 23 #[.int .i64 a, .int .i64 b])
        have B3 := Lib.hid (B2.out.alloc B2.out.size (.cells #[.int .i64 a, .int .i64 b] 23))
        clear hb2 K1 B1 B2
        have HR := Lib.hid (fun W => stRight W a b)
        have HS := Lib.hid (fun W => stReserved W a b)
        have HM : Hid (may a b = (right a b || resv a b)) := Lib.hid rfl
        generalize may a b = mm at *
        generalize right a b = rg at *
        generalize resv a b = rs at *
        by_cases h12 : b1 = true ∧ b2 = true
        · obtain ⟨rfl, rfl⟩ := h12
          go_wp2_with fail
          refine (HR.out _).mono ?_
          rintro e w3 ⟨rfl, hb3⟩
          have K3 := Lib.hid (K2.out.below hb3 K2.out.lt)
          have KX3 := Lib.hid (KX.out.below hb3 KX.out.lt)
          have c03 : w3.cell? ⟨w2.heap.size, 0, none⟩ = some (.int .i64 a) := by rw [KX3.out.cell]; simp
          have c13 : w3.cell? ⟨w2.heap.size, 0 + 1, none⟩ = some (.int .i64 b) := by rw [KX3.out.cell]; simp
          have B4 := Lib.hid (Below.then_below B3.out hb3)
          clear hb3
          cases rg
          case true =>
            go_wp2_with (refine storeWhole rfl 23 (.tmp 2) (.tmp 49) rfl w.heap.size 23 _ #[.int .i64 a, .int .i64 b] rfl rfl K3.out rfl (by kernel_rfl) (one2 _ _) ?_; intro w9 hb9 hg9)
            go_wp2
            refine bodyPost_ret (res_cell_tmp rfl _ _ w.heap.size 23 #[.int .i64 a, .int .i64 b] _ _ rfl hb9 Try.underlying23 rfl (by kernel_rfl)) rfl ⟨?_, B4.out.grown hg9 B4.out.size (fun k e => by injection e with e; omega)⟩
            have hP := HO.out (by rw [HG.out]; rw [HM.out]; rfl)
            rw [hP]
            exact ret_st rfl rfl rfl
          case false =>
            go_wp2_with fail
            refine (HS.out _).mono ?_
            rintro e w4 ⟨rfl, hb4⟩
            have K4 := Lib.hid (K3.out.below hb4 K3.out.lt)
            have KX4 := Lib.hid (KX3.out.below hb4 KX3.out.lt)
            have c04 : w4.cell? ⟨w2.heap.size, 0, none⟩ = some (.int .i64 a) := by rw [KX4.out.cell]; simp
            have c14 : w4.cell? ⟨w2.heap.size, 0 + 1, none⟩ = some (.int .i64 b) := by rw [KX4.out.cell]; simp
            have B5 := Lib.hid (Below.then_below B4.out hb4)
            clear hb4
            cases rs
            case true =>
              go_wp2_with (refine storeWhole rfl 23 (.tmp 2) (.tmp 49) rfl w.heap.size 23 _ #[.int .i64 a, .int .i64 b] rfl rfl K4.out rfl (by kernel_rfl) (one2 _ _) ?_; intro w9 hb9 hg9)
              go_wp2
              refine bodyPost_ret (res_cell_tmp rfl _ _ w.heap.size 23 #[.int .i64 a, .int .i64 b] _ _ rfl hb9 Try.underlying23 rfl (by kernel_rfl)) rfl ⟨?_, B5.out.grown hg9 B5.out.size (fun k e => by injection e with e; omega)⟩
              have hP := HO.out (by rw [HG.out]; rw [HM.out]; rfl)
              rw [hP]
              exact ret_st rfl rfl rfl
            case false =>
              go_wp2_with (refine storeWhole rfl 23 (.tmp 2) (.tmp 51) rfl w.heap.size 23 _ #[.int .i64 0, .int .i64 0] rfl rfl K4.out rfl (by kernel_rfl) (one2 _ _) ?_; intro w9 hb9 hg9)
              go_wp2
              refine bodyPost_ret (res_cell_tmp rfl _ _ w.heap.size 23 #[.int .i64 0, .int .i64 0] _ _ rfl hb9 Try.underlying23 rfl (by kernel_rfl)) rfl ⟨?_, B5.out.grown hg9 B5.out.size (fun k e => by injection e with e; omega)⟩
              have hP := HF.out (by rw [HG.out]; rw [HM.out]; rfl)
              rw [hP]
              exact ret_st rfl rfl rfl
        · rcases (by cases b1 <;> cases b2 <;> simp_all : b1 = false ∨ (b1 = true ∧ b2 = false)) with rfl | ⟨rfl, rfl⟩
          all_goals
            go_wp2_with (refine storeWhole rfl 23 (.tmp 2) (.tmp 51) rfl w.heap.size 23 _ #[.int .i64 0, .int .i64 0] rfl rfl K2.out rfl (by kernel_rfl) (one2 _ _) ?_; intro w9 hb9 hg9)
            go_wp2
            refine bodyPost_ret (res_cell_tmp rfl _ _ w.heap.size 23 #[.int .i64 0, .int .i64 0] _ _ rfl hb9 Try.underlying23 rfl (by kernel_rfl)) rfl ⟨?_, B3.out.grown hg9 B3.out.size (fun k e => by injection e with e; omega)⟩
            have hP := HF.out (by rw [HG.out]; simp)
            rw [hP]
            exact ret_st rfl rfl rfl
      · have HH := Lib.hid h46
        generalize bt l k = c at hc hcb h46
        have h47 : ((c : Int) != 46) = true := by simp; omega
        go_wp2
        go_roundw
        case rel =>
          refine ⟨k + 1, 0, by omega, by go_num, trivial, Lib.hid fun j hj => ?_⟩
          rcases Nat.lt_succ_iff_lt_or_eq.1 hj with h | h
          · exact HB.out j h
          · rw [h]; exact HH.out
        case measure => simp [intOf]; omega
    · obtain rfl : k = s.size := by omega
      have HX := Lib.hid (HPN.out fun j hj => HGD.out j (HB.out j (by rw [HSZ.out]; exact hj)))
      go_wp2_with (refine storeWhole rfl 23 (.tmp 2) (.tmp 51) rfl w.heap.size 23 _ #[.int .i64 0, .int .i64 0] rfl rfl K0.out rfl (by kernel_rfl) (one2 _ _) ?_; intro w9 hb9 hg9)
      go_wp2
      refine bodyPost_ret (res_cell_tmp rfl _ _ w.heap.size 23 #[.int .i64 0, .int .i64 0] _ _ rfl hb9 Try.underlying23 rfl (by kernel_rfl)) rfl ⟨?_, B0.out.grown hg9 B0.out.size (fun k e => by injection e with e; omega)⟩
      rw [HX.out]
      exact ret_st rfl rfl rfl
end Go.Proofs.Ytpdnedgoldjghaa.Stm
