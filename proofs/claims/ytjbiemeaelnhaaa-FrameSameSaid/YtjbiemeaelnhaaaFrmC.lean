import Derived.Test.YtjbiemeaelnhaaaFrmB
/- A frame out of bytes: the program's Get and the reference's. -/
namespace Go.Proofs.Ytjbiemeaelnhaaa.Frm
open Go.RowKit FrmP Sum

theorem res_cell_tmp {P : Program} {fn : Func} {p u : Tmp} {ty : TypeId} (h : fn.results = #[.cell p ty, .tmp u]) (tmps : Array Value) (w : World) (g : Nat) (t : TypeId) (cs : Array Value) (fr : Nat × Nat) (d : TypeDesc)
    (hp : tmps.getD p undef = .pointer (some ⟨g, 0, none⟩)) (hg : w.heap[g]? = some (.cells cs t fr))
    (hu : P.underlying ty = some d) (hd : (match d with | .struct _ | .array _ _ => true | _ => false) = true) (hi : (P.info? ty).map (·.size) = some cs.size) :
    (results fn tmps).run P w = .ok (.tuple #[.agg cs, tmps.getD u undef]) w := by
  rw [results_cell_tmp h, hp]
  simp [asAddr, run_loadVar_row w g t ty cs fr d hg hu hd hi]
theorem four (a b c : Int) (A : Option Addr) (n k : Nat) : (#[Value.int .i64 a, .int .i64 b, .int .i64 c, .slice A n k] : Array Value).all (·.oneCell') = true := by simp [Value.oneCell']
theorem Rb.over {w w' : World} {A : Option Addr} {n g : Nat} {l : List UInt8} {t : TypeId} {cs : Array Value} (h : Rb w A n l) (hg : w.grownBy w' (some g)) (hk : Bk w g t cs) (hcs : ∀ (i : Nat) (x : Int), cs[i]? ≠ some (.int .u8 x)) : Rb w' A n l :=
  ⟨h.1, h.2.1, fun hn => by
    obtain ⟨ad, e, hlt, hc⟩ := h.2.2 hn
    have hne : ad.block ≠ g := by
      rintro rfl
      have h0 := hc 0 hn
      have h1 : w.heap[ad.block]? = some (.cells cs t (0, 0)) := hk
      simp only [Addr.add, if_true, World.cell?, h1] at h0
      split at h0
      · cases h0
      · exact hcs _ _ h0
    exact ⟨ad, e, Nat.lt_of_lt_of_le hlt hg.size, fun j hj => (World.cell?_of_block (hg.block _ (by rw [addr_block]; exact hlt) (by rw [addr_block]; intro e; injection e with e; exact hne e))).trans (hc j hj)⟩⟩
theorem no_u8 {a b c : Int} {A : Option Addr} {n k : Nat} (i : Nat) (x : Int) : (#[Value.int .i64 a, .int .i64 b, .int .i64 c, .slice A n k] : Array Value)[i]? ≠ some (.int .u8 x) := by
  rcases i with _ | _ | _ | _ | i <;> simp
def Got (w w' : World) (l : List UInt8) (e : Ending) : Prop :=
  ∃ A n c, e = .returned (.tuple #[frV (kind l) (sender l) (goal l) A n c, .int .i64 (err l : Nat)]) ∧ Rb w' A n (body l) ∧ n ≤ c ∧ Below w.heap.size w w'
theorem got_no {w w' : World} {l : List UInt8} {x : Nat} (h : err l = x) (hx : x ≠ 0) (hb : Below w.heap.size w w') : Got w w' l (.returned (.tuple #[.agg #[.int .i64 0, .int .i64 0, .int .i64 0, .slice none 0 0], .int .i64 (x : Nat)])) := by
  subst h
  obtain ⟨h1, h2, h3, h4⟩ := no hx
  refine ⟨none, 0, 0, ?_, ?_, Nat.le_refl _, hb⟩
  · rw [h1, h2, h3]; rfl
  · rw [h4]; exact Rb.nil_ _
set_option maxHeartbeats 2000000 in
theorem get (w : World) (A : Option Addr) (n c : Nat) (l : List UInt8) (h : Rb w A n l) (hc : n ≤ c) (hn : n ≤ 140737488355328) :
    Calls Try.prog 28 #[.slice A n c] w fun e w' => Got w w' l e := by
  have H := Lib.hid h
  clear h
  have b0 := Lib.hid ((Below.refl w.heap.size w).alloc (Nat.le_refl _) (.cells #[.int .i64 0, .int .i64 0, .int .i64 0, .slice none 0 0] 41))
  have k0 := Lib.hid (Bk.new w 41 #[.int .i64 0, .int .i64 0, .int .i64 0, .slice none 0 0])
  by_cases h8 : n < 8
  · have he := Lib.hid (err_short (l := l) (by rw [H.out.len]; exact h8))
    go_enter Try.func28, Try.ntmps28
    go_wp2_with (refine storeWhole rfl 41 (.tmp 2) (.tmp 11) rfl w.heap.size 41 _ #[.int .i64 0, .int .i64 0, .int .i64 0, .slice none 0 0] rfl rfl k0.out rfl (by kernel_rfl) (four _ _ _ _ _ _) ?_; intro w9 hb9 hg9)
    go_wp2
    refine bodyPost_ret (res_cell_tmp rfl _ _ w.heap.size 41 #[.int .i64 0, .int .i64 0, .int .i64 0, .slice none 0 0] _ _ rfl hb9 Try.underlying41 rfl (by kernel_rfl)) rfl ?_
    exact got_no (x := 3) he.out (by decide) (b0.out.grown hg9 b0.out.size (fun k e => by injection e with e; omega))
  · go_enter Try.func28, Try.ntmps28
    go_wp2_with fail
    refine (sumOpen _ A n c l (H.out.below b0.out) hc hn).mono ?_
    rintro e w1 ⟨A1, n1, c1, rfl, hr1, hc1, hb1⟩
    have K1 := Lib.hid (k0.out.below hb1 (by simp))
    have B1 := Lib.hid (Below.then_below b0.out hb1)
    have hz1 : w.heap.size < w1.heap.size := K1.out.lt
    clear hb1 k0 b0
    cases ho : SumP.opens l with
    | false =>
      have he := Lib.hid (err_sum (l := l) (by rw [H.out.len]; omega) ho)
      go_wp2_with (refine storeWhole rfl 41 (.tmp 2) (.tmp 19) rfl w.heap.size 41 _ #[.int .i64 0, .int .i64 0, .int .i64 0, .slice none 0 0] rfl rfl K1.out rfl (by kernel_rfl) (four _ _ _ _ _ _) ?_; intro w9 hb9 hg9)
      go_wp2
      refine bodyPost_ret (res_cell_tmp rfl _ _ w.heap.size 41 #[.int .i64 0, .int .i64 0, .int .i64 0, .slice none 0 0] _ _ rfl hb9 Try.underlying41 rfl (by kernel_rfl)) rfl ?_
      exact got_no (x := 5) he.out (by decide) (B1.out.grown hg9 B1.out.size (fun k e => by injection e with e; omega))
    | true =>
      have HO := Lib.hid ho
      have HLen : Hid (n1 = n - 4) := Lib.hid (by rw [← hr1.len, SumP.opened_yes l ho, List.length_take, H.out.len]; omega)
      have hn4 : 4 ≤ n1 := by have := HLen.out; omega
      have hbt : Hid (∀ j, j < n - 4 → bt (SumP.opened l) j = bt l j) := Lib.hid (fun j hj => by rw [SumP.opened_yes l ho, bt_take _ _ _ (by rw [H.out.len]; exact hj)])
      have R1 := Lib.hid hr1
      clear ho hr1
      obtain ⟨ad, rfl, hblk, hcell⟩ := R1.out.2.2 (by omega)
      have e0 : w1.cell? ad = some (.int .u8 (bt l 0 : Int)) := by have := hcell 0 (by omega); rwa [hbt.out 0 (by have := HLen.out; omega)] at this
      have e1 : w1.cell? ⟨ad.block, ad.off + 1, none⟩ = some (.int .u8 (bt l 1 : Int)) := by have := hcell 1 (by omega); rwa [hbt.out 1 (by have := HLen.out; omega)] at this
      have e2 : w1.cell? ⟨ad.block, ad.off + 2, none⟩ = some (.int .u8 (bt l 2 : Int)) := by have := hcell 2 (by omega); rwa [hbt.out 2 (by have := HLen.out; omega)] at this
      have e3 : w1.cell? ⟨ad.block, ad.off + 3, none⟩ = some (.int .u8 (bt l 3 : Int)) := by have := hcell 3 (by omega); rwa [hbt.out 3 (by have := HLen.out; omega)] at this
      clear hcell
      have HF := Lib.hid (fun h1 => err_form (l := l) (by rw [H.out.len]; omega) HO.out h1)
      have HK := Lib.hid (fun h1 => err_chk (l := l) (by rw [H.out.len]; omega) HO.out h1)
      have q1 := bt_lt l 1
      have q2 := bt_lt l 2
      have q3 := bt_lt l 3
      by_cases h1 : bt l 0 = 1
      · rw [h1] at e0
        have HK' := Lib.hid (HK.out h1)
        clear HF HK
        generalize hx1 : bt l 1 = x1 at *
        have HX1 := Lib.hid hx1
        clear hx1
        generalize hx2 : bt l 2 = x2 at *
        have HX2 := Lib.hid hx2
        clear hx2
        generalize hx3 : bt l 3 = x3 at *
        have HX3 := Lib.hid hx3
        clear hx3
        have h0n : (0 : Int) < (n1 : Int) := by omega
        have h1n : (1 : Int) < (n1 : Int) := by omega
        have h2n : (2 : Int) < (n1 : Int) := by omega
        have h3n : (3 : Int) < (n1 : Int) := by omega
        have h4n : (4 : Int) ≤ (n1 : Int) := by omega
        have RB : Hid (Rb w1 (if c1 = 4 then some ad else some ⟨ad.block, ad.off + 4, none⟩) (n1 - 4) ((SumP.opened l).drop 4)) := Lib.hid (by
          have h := R1.out.cut hn4 hc1
          simpa [Addr.add] using h)
        go_wp2_with fail
        go_region
        generalize (if c1 = 4 then some ad else some ⟨ad.block, ad.off + 4, none⟩) = D at *
        obtain ⟨w2, HW⟩ : ∃ w2, Hid ((w1.alloc (.cells #[.int .i64 x1, .int .i64 x2, .int .i64 x3, .slice D (n1 - 4) (c1 - 4)] 41)).drew = w2) := ⟨_, Lib.hid rfl⟩
        have KX : Bk w2 w1.heap.size 41 #[.int .i64 x1, .int .i64 x2, .int .i64 x3, .slice D (n1 - 4) (c1 - 4)] := by
          rw [← HW.out]; exact Bk.new w1 _ _
        have b2 : Below w1.heap.size w1 w2 := by
          rw [← HW.out]; exact below_drewN ((Below.refl w1.heap.size w1).alloc (Nat.le_refl _) _) 1
        rw [HW.out]
        have K2 := Lib.hid (K1.out.below b2 (by omega))
        have B2 := Lib.hid (Below.then_below B1.out b2)
        have R2 := Lib.hid (RB.out.below b2)
        have hz2 : w1.heap.size < w2.heap.size := KX.lt
        clear RB b2 e0 e1 e2 e3 h0n h1n h2n h3n h4n B1 K1 R1
        generalize w1.heap.size = g at *
        have c0 : w2.cell? ⟨g, 0, none⟩ = some (.int .i64 x1) := by rw [KX.cell]; rfl
        have q1 : w2.cell? ⟨g, 0 + 1, none⟩ = some (.int .i64 x2) := by rw [KX.cell]; rfl
        have c2 : w2.cell? ⟨g, 0 + 2, none⟩ = some (.int .i64 x3) := by rw [KX.cell]; rfl
        have c3 : w2.cell? ⟨g, 0 + 3, none⟩ = some (.slice D (n1 - 4) (c1 - 4)) := by rw [KX.cell]; rfl
        have HC := Lib.hid (fun W => check W x1 x2 x3 D (n1 - 4) (c1 - 4))
        unfold frV at HC
        have he : Hid (err l = chk x1 x2 x3 (n1 - 4)) := Lib.hid (by rw [HK'.out, H.out.len, HLen.out]; congr 1)
        clear HK'
        generalize chk x1 x2 x3 (n1 - 4) = x at *
        go_wp2_with fail
        refine (HC.out _).mono ?_
        rintro e w3 ⟨rfl, hb3⟩
        have KX3 := KX.below hb3 hz2
        have K3 := Lib.hid (K2.out.below hb3 (by omega))
        have B3 := Lib.hid (Below.then_below B2.out hb3)
        have R3 := Lib.hid (R2.out.below hb3)
        clear c0 q1 c2 c3 KX K2 B2 R2 HC hb3
        have c0 : w3.cell? ⟨g, 0, none⟩ = some (.int .i64 x1) := by rw [KX3.cell]; rfl
        have q1 : w3.cell? ⟨g, 0 + 1, none⟩ = some (.int .i64 x2) := by rw [KX3.cell]; rfl
        have c2 : w3.cell? ⟨g, 0 + 2, none⟩ = some (.int .i64 x3) := by rw [KX3.cell]; rfl
        have c3 : w3.cell? ⟨g, 0 + 3, none⟩ = some (.slice D (n1 - 4) (c1 - 4)) := by rw [KX3.cell]; rfl
        by_cases hx : x = 0
        · subst hx
          go_wp2_with (refine storeWhole rfl 41 (.tmp 2) (.tmp 46) rfl w.heap.size 41 _ #[.int .i64 x1, .int .i64 x2, .int .i64 x3, .slice D (n1 - 4) (c1 - 4)] rfl rfl K3.out rfl (by kernel_rfl) (four _ _ _ _ _ _) ?_; intro w9 hb9 hg9)
          go_wp2
          refine bodyPost_ret (res_cell_tmp rfl _ _ w.heap.size 41 #[.int .i64 x1, .int .i64 x2, .int .i64 x3, .slice D (n1 - 4) (c1 - 4)] _ _ rfl hb9 Try.underlying41 rfl (by kernel_rfl)) rfl ?_
          have he0 := he.out
          refine ⟨D, n1 - 4, c1 - 4, ?_, ?_, by omega, B3.out.grown hg9 B3.out.size (fun k e => by injection e with e; omega)⟩
          · rw [kind, sender, goal, he0, if_pos rfl, if_pos rfl, if_pos rfl, HX1.out, HX2.out, HX3.out]; rfl
          · rw [body, if_pos he0]
            exact Rb.over R3.out hg9 K3.out no_u8
        · have hx0 := ne_zero hx
          go_wp2_with (refine storeWhole rfl 41 (.tmp 2) (.tmp 44) rfl w.heap.size 41 _ #[.int .i64 0, .int .i64 0, .int .i64 0, .slice none 0 0] rfl rfl K3.out rfl (by kernel_rfl) (four _ _ _ _ _ _) ?_; intro w9 hb9 hg9)
          go_wp2
          refine bodyPost_ret (res_cell_tmp rfl _ _ w.heap.size 41 #[.int .i64 0, .int .i64 0, .int .i64 0, .slice none 0 0] _ _ rfl hb9 Try.underlying41 rfl (by kernel_rfl)) rfl ?_
          exact got_no he.out hx (B3.out.grown hg9 B3.out.size (fun k e => by injection e with e; omega))
      · have he := Lib.hid (HF.out h1)
        clear HF HK e1 e2 e3
        generalize bt l 0 = x0 at *
        have hx : ((x0 : Int) != 1) = true := by simp; omega
        have h0n : (0 : Int) < (n1 : Int) := by omega
        go_wp2_with (refine storeWhole rfl 41 (.tmp 2) (.tmp 24) rfl w.heap.size 41 _ #[.int .i64 0, .int .i64 0, .int .i64 0, .slice none 0 0] rfl rfl K1.out rfl (by kernel_rfl) (four _ _ _ _ _ _) ?_; intro w9 hb9 hg9)
        go_wp2
        refine bodyPost_ret (res_cell_tmp rfl _ _ w.heap.size 41 #[.int .i64 0, .int .i64 0, .int .i64 0, .slice none 0 0] _ _ rfl hb9 Try.underlying41 rfl (by kernel_rfl)) rfl ?_
        exact got_no (x := 4) he.out (by decide) (B1.out.grown hg9 B1.out.size (fun k e => by injection e with e; omega))
set_option maxHeartbeats 2000000 in
theorem refGet (w : World) (A : Option Addr) (n c : Nat) (l : List UInt8) (h : Rb w A n l) (hc : n ≤ c) (hn : n ≤ 140737488355328) :
    Calls Try.prog 31 #[.slice A n c] w fun e w' => Got w w' l e := by
  have H := Lib.hid h
  clear h
  have b0 := Lib.hid ((Below.refl w.heap.size w).alloc (Nat.le_refl _) (.cells #[.int .i64 0, .int .i64 0, .int .i64 0, .slice none 0 0] 37))
  have k0 := Lib.hid (Bk.new w 37 #[.int .i64 0, .int .i64 0, .int .i64 0, .slice none 0 0])
  by_cases h8 : n < 8
  · have he := Lib.hid (err_short (l := l) (by rw [H.out.len]; exact h8))
    go_enter Try.func31, Try.ntmps31
    go_wp2_with (refine storeWhole rfl 37 (.tmp 2) (.tmp 11) rfl w.heap.size 37 _ #[.int .i64 0, .int .i64 0, .int .i64 0, .slice none 0 0] rfl rfl k0.out rfl (by kernel_rfl) (four _ _ _ _ _ _) ?_; intro w9 hb9 hg9)
    go_wp2
    refine bodyPost_ret (res_cell_tmp rfl _ _ w.heap.size 37 #[.int .i64 0, .int .i64 0, .int .i64 0, .slice none 0 0] _ _ rfl hb9 Try.underlying37 rfl (by kernel_rfl)) rfl ?_
    exact got_no (x := 3) he.out (by decide) (b0.out.grown hg9 b0.out.size (fun k e => by injection e with e; omega))
  · go_enter Try.func31, Try.ntmps31
    go_wp2_with fail
    refine (refOpen _ A n c l (H.out.below b0.out) hc hn).mono ?_
    rintro e w1 ⟨A1, n1, c1, rfl, hr1, hc1, hb1⟩
    have K1 := Lib.hid (k0.out.below hb1 (by simp))
    have B1 := Lib.hid (Below.then_below b0.out hb1)
    have hz1 : w.heap.size < w1.heap.size := K1.out.lt
    clear hb1 k0 b0
    cases ho : SumP.opens l with
    | false =>
      have he := Lib.hid (err_sum (l := l) (by rw [H.out.len]; omega) ho)
      go_wp2_with (refine storeWhole rfl 37 (.tmp 2) (.tmp 19) rfl w.heap.size 37 _ #[.int .i64 0, .int .i64 0, .int .i64 0, .slice none 0 0] rfl rfl K1.out rfl (by kernel_rfl) (four _ _ _ _ _ _) ?_; intro w9 hb9 hg9)
      go_wp2
      refine bodyPost_ret (res_cell_tmp rfl _ _ w.heap.size 37 #[.int .i64 0, .int .i64 0, .int .i64 0, .slice none 0 0] _ _ rfl hb9 Try.underlying37 rfl (by kernel_rfl)) rfl ?_
      exact got_no (x := 5) he.out (by decide) (B1.out.grown hg9 B1.out.size (fun k e => by injection e with e; omega))
    | true =>
      have HO := Lib.hid ho
      have HLen : Hid (n1 = n - 4) := Lib.hid (by rw [← hr1.len, SumP.opened_yes l ho, List.length_take, H.out.len]; omega)
      have hn4 : 4 ≤ n1 := by have := HLen.out; omega
      have hbt : Hid (∀ j, j < n - 4 → bt (SumP.opened l) j = bt l j) := Lib.hid (fun j hj => by rw [SumP.opened_yes l ho, bt_take _ _ _ (by rw [H.out.len]; exact hj)])
      have R1 := Lib.hid hr1
      clear ho hr1
      obtain ⟨ad, rfl, hblk, hcell⟩ := R1.out.2.2 (by omega)
      have e0 : w1.cell? ad = some (.int .u8 (bt l 0 : Int)) := by have := hcell 0 (by omega); rwa [hbt.out 0 (by have := HLen.out; omega)] at this
      have e1 : w1.cell? ⟨ad.block, ad.off + 1, none⟩ = some (.int .u8 (bt l 1 : Int)) := by have := hcell 1 (by omega); rwa [hbt.out 1 (by have := HLen.out; omega)] at this
      have e2 : w1.cell? ⟨ad.block, ad.off + 2, none⟩ = some (.int .u8 (bt l 2 : Int)) := by have := hcell 2 (by omega); rwa [hbt.out 2 (by have := HLen.out; omega)] at this
      have e3 : w1.cell? ⟨ad.block, ad.off + 3, none⟩ = some (.int .u8 (bt l 3 : Int)) := by have := hcell 3 (by omega); rwa [hbt.out 3 (by have := HLen.out; omega)] at this
      clear hcell
      have HF := Lib.hid (fun h1 => err_form (l := l) (by rw [H.out.len]; omega) HO.out h1)
      have HK := Lib.hid (fun h1 => err_chk (l := l) (by rw [H.out.len]; omega) HO.out h1)
      have q1 := bt_lt l 1
      have q2 := bt_lt l 2
      have q3 := bt_lt l 3
      by_cases h1 : bt l 0 = 1
      · rw [h1] at e0
        have HK' := Lib.hid (HK.out h1)
        clear HF HK
        generalize hx1 : bt l 1 = x1 at *
        have HX1 := Lib.hid hx1
        clear hx1
        generalize hx2 : bt l 2 = x2 at *
        have HX2 := Lib.hid hx2
        clear hx2
        generalize hx3 : bt l 3 = x3 at *
        have HX3 := Lib.hid hx3
        clear hx3
        have h0n : (0 : Int) < (n1 : Int) := by omega
        have h1n : (1 : Int) < (n1 : Int) := by omega
        have h2n : (2 : Int) < (n1 : Int) := by omega
        have h3n : (3 : Int) < (n1 : Int) := by omega
        have h4n : (4 : Int) ≤ (n1 : Int) := by omega
        have RB : Hid (Rb w1 (if c1 = 4 then some ad else some ⟨ad.block, ad.off + 4, none⟩) (n1 - 4) ((SumP.opened l).drop 4)) := Lib.hid (by
          have h := R1.out.cut hn4 hc1
          simpa [Addr.add] using h)
        go_wp2_with fail
        go_region
        generalize (if c1 = 4 then some ad else some ⟨ad.block, ad.off + 4, none⟩) = D at *
        obtain ⟨w2, HW⟩ : ∃ w2, Hid ((w1.alloc (.cells #[.int .i64 x1, .int .i64 x2, .int .i64 x3, .slice D (n1 - 4) (c1 - 4)] 37)).drew = w2) := ⟨_, Lib.hid rfl⟩
        have KX : Bk w2 w1.heap.size 37 #[.int .i64 x1, .int .i64 x2, .int .i64 x3, .slice D (n1 - 4) (c1 - 4)] := by
          rw [← HW.out]; exact Bk.new w1 _ _
        have b2 : Below w1.heap.size w1 w2 := by
          rw [← HW.out]; exact below_drewN ((Below.refl w1.heap.size w1).alloc (Nat.le_refl _) _) 1
        rw [HW.out]
        have K2 := Lib.hid (K1.out.below b2 (by omega))
        have B2 := Lib.hid (Below.then_below B1.out b2)
        have R2 := Lib.hid (RB.out.below b2)
        have hz2 : w1.heap.size < w2.heap.size := KX.lt
        clear RB b2 e0 e1 e2 e3 h0n h1n h2n h3n h4n B1 K1 R1
        generalize w1.heap.size = g at *
        have c0 : w2.cell? ⟨g, 0, none⟩ = some (.int .i64 x1) := by rw [KX.cell]; rfl
        have q1 : w2.cell? ⟨g, 0 + 1, none⟩ = some (.int .i64 x2) := by rw [KX.cell]; rfl
        have c2 : w2.cell? ⟨g, 0 + 2, none⟩ = some (.int .i64 x3) := by rw [KX.cell]; rfl
        have c3 : w2.cell? ⟨g, 0 + 3, none⟩ = some (.slice D (n1 - 4) (c1 - 4)) := by rw [KX.cell]; rfl
        have HC := Lib.hid (fun W => refCheck W x1 x2 x3 D (n1 - 4) (c1 - 4))
        unfold frV at HC
        have he : Hid (err l = chk x1 x2 x3 (n1 - 4)) := Lib.hid (by rw [HK'.out, H.out.len, HLen.out]; congr 1)
        clear HK'
        generalize chk x1 x2 x3 (n1 - 4) = x at *
        go_wp2_with fail
        refine (HC.out _).mono ?_
        rintro e w3 ⟨rfl, hb3⟩
        have KX3 := KX.below hb3 hz2
        have K3 := Lib.hid (K2.out.below hb3 (by omega))
        have B3 := Lib.hid (Below.then_below B2.out hb3)
        have R3 := Lib.hid (R2.out.below hb3)
        clear c0 q1 c2 c3 KX K2 B2 R2 HC hb3
        have c0 : w3.cell? ⟨g, 0, none⟩ = some (.int .i64 x1) := by rw [KX3.cell]; rfl
        have q1 : w3.cell? ⟨g, 0 + 1, none⟩ = some (.int .i64 x2) := by rw [KX3.cell]; rfl
        have c2 : w3.cell? ⟨g, 0 + 2, none⟩ = some (.int .i64 x3) := by rw [KX3.cell]; rfl
        have c3 : w3.cell? ⟨g, 0 + 3, none⟩ = some (.slice D (n1 - 4) (c1 - 4)) := by rw [KX3.cell]; rfl
        by_cases hx : x = 0
        · subst hx
          go_wp2_with (refine storeWhole rfl 37 (.tmp 2) (.tmp 46) rfl w.heap.size 37 _ #[.int .i64 x1, .int .i64 x2, .int .i64 x3, .slice D (n1 - 4) (c1 - 4)] rfl rfl K3.out rfl (by kernel_rfl) (four _ _ _ _ _ _) ?_; intro w9 hb9 hg9)
          go_wp2
          refine bodyPost_ret (res_cell_tmp rfl _ _ w.heap.size 37 #[.int .i64 x1, .int .i64 x2, .int .i64 x3, .slice D (n1 - 4) (c1 - 4)] _ _ rfl hb9 Try.underlying37 rfl (by kernel_rfl)) rfl ?_
          have he0 := he.out
          refine ⟨D, n1 - 4, c1 - 4, ?_, ?_, by omega, B3.out.grown hg9 B3.out.size (fun k e => by injection e with e; omega)⟩
          · rw [kind, sender, goal, he0, if_pos rfl, if_pos rfl, if_pos rfl, HX1.out, HX2.out, HX3.out]; rfl
          · rw [body, if_pos he0]
            exact Rb.over R3.out hg9 K3.out no_u8
        · have hx0 := ne_zero hx
          go_wp2_with (refine storeWhole rfl 37 (.tmp 2) (.tmp 44) rfl w.heap.size 37 _ #[.int .i64 0, .int .i64 0, .int .i64 0, .slice none 0 0] rfl rfl K3.out rfl (by kernel_rfl) (four _ _ _ _ _ _) ?_; intro w9 hb9 hg9)
          go_wp2
          refine bodyPost_ret (res_cell_tmp rfl _ _ w.heap.size 37 #[.int .i64 0, .int .i64 0, .int .i64 0, .slice none 0 0] _ _ rfl hb9 Try.underlying37 rfl (by kernel_rfl)) rfl ?_
          exact got_no he.out hx (B3.out.grown hg9 B3.out.size (fun k e => by injection e with e; omega))
      · have he := Lib.hid (HF.out h1)
        clear HF HK e1 e2 e3
        generalize bt l 0 = x0 at *
        have hx : ((x0 : Int) != 1) = true := by simp; omega
        have h0n : (0 : Int) < (n1 : Int) := by omega
        go_wp2_with (refine storeWhole rfl 37 (.tmp 2) (.tmp 24) rfl w.heap.size 37 _ #[.int .i64 0, .int .i64 0, .int .i64 0, .slice none 0 0] rfl rfl K1.out rfl (by kernel_rfl) (four _ _ _ _ _ _) ?_; intro w9 hb9 hg9)
        go_wp2
        refine bodyPost_ret (res_cell_tmp rfl _ _ w.heap.size 37 #[.int .i64 0, .int .i64 0, .int .i64 0, .slice none 0 0] _ _ rfl hb9 Try.underlying37 rfl (by kernel_rfl)) rfl ?_
        exact got_no (x := 4) he.out (by decide) (B1.out.grown hg9 B1.out.size (fun k e => by injection e with e; omega))
end Go.Proofs.Ytjbiemeaelnhaaa.Frm
