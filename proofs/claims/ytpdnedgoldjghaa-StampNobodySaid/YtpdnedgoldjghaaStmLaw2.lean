import Derived.Test.YtpdnedgoldjghaaStmG
/- StampNobody. -/
namespace Go.Proofs.Ytpdnedgoldjghaa.Stm
open Go.RowKit NumP StmP Num

set_option maxRecDepth 100000 in
set_option maxHeartbeats 800000 in
theorem tickNil (w : World) : Calls Try.prog 18 #[.pointer none] w fun e w' => e = .returned (.tuple #[sV 0 0, .int .i64 1]) ∧ Below w.heap.size w w' := by
  have K0 := Lib.hid (Bk.new w 23 #[.int .i64 0, .int .i64 0])
  have B0 := Lib.hid ((Below.refl w.heap.size w).alloc (Nat.le_refl _) (.cells #[.int .i64 0, .int .i64 0] 23))
  go_enter Try.func18, Try.ntmps18
  go_wp2_with (refine storeWhole rfl 23 (.tmp 2) (.tmp 13) rfl w.heap.size 23 _ #[.int .i64 0, .int .i64 0] rfl rfl K0.out rfl (by kernel_rfl) (one2 _ _) ?_; intro w9 hb9 hg9)
  go_wp2
  refine bodyPost_ret (res_cell_tmp rfl _ _ w.heap.size 23 #[.int .i64 0, .int .i64 0] _ _ rfl hb9 Try.underlying23 rfl (by kernel_rfl)) rfl ⟨rfl, B0.out.grown hg9 B0.out.size (fun k e => by injection e with e; omega)⟩
set_option maxRecDepth 100000 in
set_option maxHeartbeats 800000 in
theorem tickBare (w : World) (g : Nat) (hk : Bk w g 40 (clk 0 0 false)) :
    Calls Try.prog 18 #[.pointer (some ⟨g, 0, none⟩)] w fun e w' => e = .returned (.tuple #[sV 0 0, .int .i64 1]) ∧ Below w.heap.size w w' := by
  have K0 := Lib.hid (Bk.new w 23 #[.int .i64 0, .int .i64 0])
  have B0 := Lib.hid ((Below.refl w.heap.size w).alloc (Nat.le_refl _) (.cells #[.int .i64 0, .int .i64 0] 23))
  have HK := Lib.hid (hk.alloc (.cells #[.int .i64 0, .int .i64 0] 23))
  have d2 : (w.alloc (.cells #[.int .i64 0, .int .i64 0] 23)).cell? ⟨g, 0 + 2, none⟩ = some (.bool false) := by rw [HK.out.cell]; simp
  have e2 : w.cell? ⟨g, 0 + 2, none⟩ = some (.bool false) := by rw [hk.cell]; simp
  have hlt := hk.lt
  clear hk
  go_enter Try.func18, Try.ntmps18
  go_wp2_with (refine storeWhole rfl 23 (.tmp 2) (.tmp 13) rfl w.heap.size 23 _ #[.int .i64 0, .int .i64 0] rfl rfl K0.out rfl (by kernel_rfl) (one2 _ _) ?_; intro w9 hb9 hg9)
  go_wp2
  refine bodyPost_ret (res_cell_tmp rfl _ _ w.heap.size 23 #[.int .i64 0, .int .i64 0] _ _ rfl hb9 Try.underlying23 rfl (by kernel_rfl)) rfl ⟨rfl, B0.out.grown hg9 B0.out.size (fun k e => by injection e with e; omega)⟩
theorem seeNil (w : World) (n : Int) : Calls Try.prog 19 #[.pointer none, .int .i64 n] w fun e w' => e = .returned (.bool false) ∧ w' = w := by
  go_enter Try.func19, Try.ntmps19
  go_wp2
  go_ret
  exact ⟨rfl, rfl⟩
theorem seeBare (w : World) (g : Nat) (n : Int) (hk : Bk w g 40 (clk 0 0 false)) : Calls Try.prog 19 #[.pointer (some ⟨g, 0, none⟩), .int .i64 n] w fun e w' => e = .returned (.bool false) ∧ w' = w := by
  have c2 : w.cell? ⟨g, 0 + 2, none⟩ = some (.bool false) := by rw [hk.cell]; simp
  clear hk
  go_enter Try.func19, Try.ntmps19
  go_wp2
  go_ret
  exact ⟨rfl, rfl⟩
theorem nowNil (w : World) : Calls Try.prog 20 #[.pointer none] w fun e w' => e = .returned (.int .i64 0) ∧ w' = w := by
  go_enter Try.func20, Try.ntmps20
  go_wp2
  go_ret
  exact ⟨rfl, rfl⟩

set_option maxRecDepth 100000 in
set_option maxHeartbeats 2000000 in
theorem nobody (w : World) (n : Int) : Calls Try.prog 5 #[.int .i64 n] w fun e w' => e = .returned (.bool true) ∧ Below w.heap.size w w' := by
  have k0 := Lib.hid (Bk.new w 40 (clk 0 0 false))
  have b0 := Lib.hid ((Below.refl w.heap.size w).alloc (Nat.le_refl _) (.cells (clk 0 0 false) 40))
  go_enter Try.func5, Try.ntmps5
  go_wp2_with fail
  refine (tickNil _).mono ?_
  rintro e w1 ⟨rfl, hb1⟩
  have k1 := Lib.hid ((k0.out.below hb1 k0.out.lt).alloc (.cells #[.int .i64 0, .int .i64 0] 23))
  have x1 := Lib.hid (Bk.new w1 23 #[.int .i64 0, .int .i64 0])
  have b1 := Lib.hid (Below.then_below b0.out hb1)
  have B1 := Lib.hid (b1.out.alloc b1.out.size (.cells #[.int .i64 0, .int .i64 0] 23))
  clear hb1 k0 b0 b1
  go_wp2_with fail
  refine (tickBare _ w.heap.size k1.out).mono ?_
  rintro e w2 ⟨rfl, hb2⟩
  have k2 := Lib.hid ((k1.out.below hb2 k1.out.lt).alloc (.cells #[.int .i64 0, .int .i64 0] 23))
  have x2 := Lib.hid ((x1.out.below hb2 x1.out.lt).alloc (.cells #[.int .i64 0, .int .i64 0] 23))
  have b2 := Lib.hid (Below.then_below B1.out hb2)
  have B2 := Lib.hid (b2.out.alloc b2.out.size (.cells #[.int .i64 0, .int .i64 0] 23))
  have c0 : (w2.alloc (.cells #[.int .i64 0, .int .i64 0] 23)).cell? ⟨w1.heap.size, 0, none⟩ = some (.int .i64 0) := by rw [x2.out.cell]; simp
  have c1 : (w2.alloc (.cells #[.int .i64 0, .int .i64 0] 23)).cell? ⟨w1.heap.size, 0 + 1, none⟩ = some (.int .i64 0) := by rw [x2.out.cell]; simp
  clear hb2 k1 x1 b2 B1
  go_wp2_with fail
  refine (seeNil _ n).mono ?_
  rintro e w3 ⟨rfl, rfl⟩
  go_wp2_with fail
  refine (seeBare _ w.heap.size n k2.out).mono ?_
  rintro e w3 ⟨rfl, rfl⟩
  go_wp2_with fail
  refine (nowNil _).mono ?_
  rintro e w3 ⟨rfl, rfl⟩
  go_wp2_with fail
  refine (now _ w.heap.size 0 0 false k2.out).mono ?_
  rintro e w3 ⟨rfl, rfl⟩
  go_wp2_with fail
  refine (awake _).mono ?_
  rintro e w4 ⟨rfl, hb4⟩
  have B4 := Lib.hid (Below.then_below B2.out hb4)
  clear hb4
  go_wp2
  go_ret
  exact ⟨rfl, B4.out⟩
end Go.Proofs.Ytpdnedgoldjghaa.Stm
