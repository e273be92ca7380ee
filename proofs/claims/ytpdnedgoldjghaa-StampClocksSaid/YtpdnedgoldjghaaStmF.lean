import Derived.Test.YtpdnedgoldjghaaStmE
import Derived.StillTailTactics
/- stamp: Tick. -/
namespace Go.Proofs.Ytpdnedgoldjghaa.Stm
open Go.RowKit NumP StmP Num

set_option maxRecDepth 100000 in
set_option maxHeartbeats 800000 in
theorem tickNo (w : World) (g : Nat) (rep nw : Int) (h : 281474976710656 ≤ nw) (hk : Bk w g 40 (clk rep nw true)) :
    Calls Try.prog 18 #[.pointer (some ⟨g, 0, none⟩)] w fun e w' => e = .returned (.tuple #[sV 0 0, .int .i64 7]) ∧ Below w.heap.size w w' := by
  have c1 : w.cell? ⟨g, 0 + 1, none⟩ = some (.int .i64 nw) := by rw [hk.cell]; simp
  have c2 : w.cell? ⟨g, 0 + 2, none⟩ = some (.bool true) := by rw [hk.cell]; simp
  have K0 := Lib.hid (Bk.new w 23 #[.int .i64 0, .int .i64 0])
  have B0 := Lib.hid ((Below.refl w.heap.size w).alloc (Nat.le_refl _) (.cells #[.int .i64 0, .int .i64 0] 23))
  have hlt := hk.lt
  have HK := Lib.hid (hk.alloc (.cells #[.int .i64 0, .int .i64 0] 23))
  have d1 : (w.alloc (.cells #[.int .i64 0, .int .i64 0] 23)).cell? ⟨g, 0 + 1, none⟩ = some (.int .i64 nw) := by rw [HK.out.cell]; simp
  have d2 : (w.alloc (.cells #[.int .i64 0, .int .i64 0] 23)).cell? ⟨g, 0 + 2, none⟩ = some (.bool true) := by rw [HK.out.cell]; simp
  clear hk
  go_enter Try.func18, Try.ntmps18
  go_wp2_with (refine storeWhole rfl 23 (.tmp 2) (.tmp 19) rfl w.heap.size 23 _ #[.int .i64 0, .int .i64 0] rfl rfl K0.out rfl (by kernel_rfl) (one2 _ _) ?_; intro w9 hb9 hg9)
  go_wp2
  refine bodyPost_ret (res_cell_tmp rfl _ _ w.heap.size 23 #[.int .i64 0, .int .i64 0] _ _ rfl hb9 Try.underlying23 rfl (by kernel_rfl)) rfl ⟨rfl, B0.out.grown hg9 B0.out.size (fun k e => by injection e with e; omega)⟩

set_option maxRecDepth 100000 in
set_option maxHeartbeats 1600000 in
theorem tickYes (w : World) (g : Nat) (rep nw : Int) (h0 : 0 ≤ nw) (h : nw < 281474976710656) (hk : Bk w g 40 (clk rep nw true)) :
    Calls Try.prog 18 #[.pointer (some ⟨g, 0, none⟩)] w fun e w' => e = .returned (.tuple #[sV (nw + 1) rep, .int .i64 0]) ∧ Bk w' g 40 (clk rep (nw + 1) true) ∧ w.grownBy w' (some g) := by
  have hlt := hk.lt
  have HK := Lib.hid (hk.alloc (.cells #[.int .i64 0, .int .i64 0] 23))
  have d1 : (w.alloc (.cells #[.int .i64 0, .int .i64 0] 23)).cell? ⟨g, 0 + 1, none⟩ = some (.int .i64 nw) := by rw [HK.out.cell]; simp
  have d2 : (w.alloc (.cells #[.int .i64 0, .int .i64 0] 23)).cell? ⟨g, 0 + 2, none⟩ = some (.bool true) := by rw [HK.out.cell]; simp
  have f1 : (w.alloc (.cells #[.int .i64 0, .int .i64 0] 23)).frozen? ⟨g, 0 + 1, none⟩ = false := HK.out.free _
  have HKK := Lib.hid (show Bk (w.setCell ⟨g, 1, none⟩ (.int .i64 (nw + 1))) g 40 (clk rep (nw + 1) true) by simpa using hk.set 1 (.int .i64 (nw + 1)))
  have HGG := Lib.hid ((grown_set w g 1 (.int .i64 (nw + 1))).trans (World.grownBy_alloc _ (.cells #[.int .i64 0, .int .i64 0] 23) (some g)))
  have hsz : (w.setCell ⟨g, 1, none⟩ (.int .i64 (nw + 1))).heap.size = w.heap.size := by simp [World.setCell]
  have KS := Lib.hid (HKK.out.alloc (.cells #[.int .i64 0, .int .i64 0] 23))
  have KB := Lib.hid ((Bk.new (w.setCell ⟨g, 1, none⟩ (.int .i64 (nw + 1))) 23 #[.int .i64 0, .int .i64 0]).of_num hsz)
  have hz2 : w.heap.size < ((w.setCell ⟨g, 1, none⟩ (.int .i64 (nw + 1))).alloc (.cells #[.int .i64 0, .int .i64 0] 23)).heap.size := KB.out.lt
  clear hk
  go_enter Try.func18, Try.ntmps18
  go_wp2
  have c0 : ((w.setCell ⟨g, 1, none⟩ (.int .i64 (nw + 1))).alloc (.cells #[.int .i64 0, .int .i64 0] 23)).cell? ⟨g, 0, none⟩ = some (.int .i64 rep) := by rw [KS.out.cell]; simp
  have c1 : ((w.setCell ⟨g, 1, none⟩ (.int .i64 (nw + 1))).alloc (.cells #[.int .i64 0, .int .i64 0] 23)).cell? ⟨g, 0 + 1, none⟩ = some (.int .i64 (nw + 1)) := by rw [KS.out.cell]; simp
  generalize ((w.setCell ⟨g, 1, none⟩ (.int .i64 (nw + 1))).alloc (.cells #[.int .i64 0, .int .i64 0] 23)) = w1 at *
  clear d1 d2 f1 HK HKK hsz
  go_still_tail 9, (by kernel_rfl)
  change wpList _ _ _ _ _ w1.drew
  have K2 := Lib.hid (show Bk w1.drew w.heap.size 23 #[.int .i64 0, .int .i64 0] from KB.out)
  have e0 : w1.drew.cell? ⟨g, 0, none⟩ = some (.int .i64 rep) := by rw [World.cell?_drew]; exact c0
  have e1 : w1.drew.cell? ⟨g, 0 + 1, none⟩ = some (.int .i64 (nw + 1)) := by rw [World.cell?_drew]; exact c1
  have K3 := Lib.hid (show Bk w1.drew g 40 (clk rep (nw + 1) true) from KS.out)
  have G3 := Lib.hid (show w.grownBy w1.drew (some g) from ⟨HGG.out.os, HGG.out.tape, HGG.out.output, HGG.out.size, HGG.out.block⟩)
  generalize w1.drew = w2 at *
  clear c0 c1 KS KB
  go_wp2_with (refine storeWhole rfl 23 (.tmp 2) (.tmp 35) rfl w.heap.size 23 _ #[.int .i64 (nw + 1), .int .i64 rep] rfl rfl K2.out rfl (by kernel_rfl) (one2 _ _) ?_; intro w9 hb9 hg9)
  go_wp2
  refine bodyPost_ret (res_cell_tmp rfl _ _ w.heap.size 23 #[.int .i64 (nw + 1), .int .i64 rep] _ _ rfl hb9 Try.underlying23 rfl (by kernel_rfl)) rfl ⟨rfl, K3.out.grown hg9 (by simp; omega), ?_⟩
  have a1 := G3.out
  exact ⟨hg9.os.trans a1.os, hg9.tape.trans a1.tape, hg9.output.trans a1.output, Nat.le_trans a1.size hg9.size, fun i hi hne => (hg9.block i (Nat.lt_of_lt_of_le hi a1.size) (by intro e; injection e with e; omega)).trans (a1.block i hi hne)⟩
end Go.Proofs.Ytpdnedgoldjghaa.Stm
