import Derived.Test.YtjbiemeaelnhaaaFrmA
import Derived.Laws.CopyOwn
import Derived.Deep.RegionLaw
/- A frame's bytes: the program's Put and the reference's. -/
namespace Go.Proofs.Ytjbiemeaelnhaaa.Frm
open Go.RowKit FrmP Sum

theorem own_full {w : World} {base : Nat} {e : TypeId} {g n : Nat} {xs : List Value} (h : w.ownsRow base e 1 (.slice (some ⟨g, 0, none⟩) n n) n xs) : Bk w g e xs.toArray := by
  rcases h.2 with ⟨h1, _⟩ | ⟨g', cap, cur, h1, _, h2, _, _, h4, h5⟩
  · injection h1 with h1; cases h1
  · injection h1 with h1 _ h6
    injection h1 with h1
    injection h1 with h1
    subst h1 h6
    have : cur.toList = xs := by rw [← h5, List.take_of_length_le (by simp [h4])]
    rw [← this]
    simpa [Bk] using h2
theorem ne_zero {x : Nat} (h : x ≠ 0) : ((x : Int) != 0) = true := by simp; omega
theorem zeros4 (n : Nat) (z a b c d : Value) : (((((List.replicate (n + 4) z).toArray.setIfInBounds 0 a).setIfInBounds 1 b).setIfInBounds 2 c).setIfInBounds 3 d) = ([a, b, c, d] ++ List.replicate n z).toArray := by
  simp [List.replicate_succ]
theorem splice4 (n : Nat) (z a b c d : Value) (l : List Value) (h : l.length = n) : splice ([a, b, c, d] ++ List.replicate n z) 4 l = [a, b, c, d] ++ l := by
  simp [splice, h]
  omega
theorem Bk.of_hid {w : World} {g : Nat} {e : TypeId} {cs : Array Value} (h : Hid (w.heap[g]? = some (.cells cs e (0, 0)))) : Bk w g e cs := h.out
theorem Rb.of_bk {w : World} {g : Nat} {e : TypeId} {cs : Array Value} {l : List UInt8} {n : Nat} (h : Bk w g e cs) (hl : l.length = n) (hm : n ≤ 9223372036854775807) (hc : cs.toList = bytesV l) : Rb w (some ⟨g, 0, none⟩) n l := by
  refine ⟨hl, hm, fun _ => ⟨_, rfl, h.lt, fun j hj => ?_⟩⟩
  rw [addr_plain, h.cell, ← Array.getElem?_toList, hc, bytesV_get l j (by omega)]
theorem ownNew (w : World) (e : TypeId) (cs : Array Value) (xs : List Value) (n b base : Nat) (hb : w.heap.size = b) (hc : cs.toList = xs) (hn : xs.length = n) (hm : n ≤ maxLen) (hbase : base ≤ b) :
    (w.alloc (.cells cs e)).ownsRow base e 1 (.slice (some ⟨b, 0, none⟩) n n) n xs := by
  subst hb hc hn
  exact ⟨by simp, .inr ⟨w.heap.size, _, cs, rfl, hbase, heap_alloc_new w _, Nat.le_refl _, hm, by simp, by simp [List.take_of_length_le]⟩⟩
theorem put_no (w : World) (k f t : Int) (A : Option Addr) (n c : Nat) (hk : chk k f t n ≠ 0) :
    Calls Try.prog 24 #[frV k f t A n c] w fun e w' => e = .returned (.tuple #[.slice none 0 0, .int .i64 (chk k f t n : Nat)]) ∧ Below w.heap.size w w' := by
  have hx := ne_zero hk
  have HC := Lib.hid (fun W => check W k f t A n c)
  unfold frV at *
  generalize chk k f t n = x at *
  go_enter Try.func24, Try.ntmps24
  go_wp2_with fail
  refine (HC.out _).mono ?_
  rintro e w1 ⟨rfl, hb1⟩
  go_wp2
  go_ret2
  exact ⟨rfl, Below.then_below ((Below.refl _ _).alloc (Nat.le_refl _) _) hb1⟩
set_option maxHeartbeats 4000000 in
theorem put_ok (w : World) (k f t : Int) (A : Option Addr) (n c : Nat) (l : List UInt8) (h : Rb w A n l) (hk : chk k f t n = 0) :
    Calls Try.prog 24 #[frV k f t A n c] w fun e w' => ∃ v, e = .returned (.tuple #[v, .int .i64 0]) ∧ w'.ownsRow w.heap.size 5 1 v (n + 8) (bytesV (putB k f t l)) ∧ Below w.heap.size w w' := by
  obtain ⟨⟨k0, k1⟩, ⟨f0, f1⟩, ⟨t0, t1⟩, _, hn⟩ := chk_ok hk
  have HC := Lib.hid (fun W => check W k f t A n c)
  have H := Lib.hid h
  clear h
  unfold frV at *
  rw [hk] at HC
  go_enter Try.func24, Try.ntmps24
  go_wp2_with fail
  refine (HC.out _).mono ?_
  rintro e w1 ⟨rfl, hb1⟩
  have b0 := (Below.refl w.heap.size w).alloc (Nat.le_refl _) (.cells #[.int .i64 k, .int .i64 f, .int .i64 t, .slice A n c] 41)
  have k0' := Bk.new w 41 #[.int .i64 k, .int .i64 f, .int .i64 t, .slice A n c]
  have k1' := k0'.below hb1 (by simp)
  have B1 := Lib.hid (Below.then_below b0 hb1)
  have K1 := Lib.hid k1'
  have hz1 : w.heap.size < w1.heap.size := k1'.lt
  clear k0' k1' b0 hb1
  have c3 : w1.cell? ⟨w.heap.size, 3, none⟩ = some (.slice A n c) := by rw [K1.out.cell]; rfl
  go_wp2_with ((refine makeRow rfl (.tmp 14) (.tmp 14) 22 5 rfl Try.underlying22 (.int .u8 0) 1 u8info rfl w1.heap.size _ _ rfl rfl (n + 4) (n + 4) (by omega) (by omega) (by omega) (by omega) (by simp only [maxLen]; omega) (Nat.le_refl _) ?_; intro w2 ho2 hg2 hz2))
  have K2 := Lib.hid (own_full ho2)
  have KB2 := Lib.hid (K1.out.grown hg2 (by simp))
  have B2 := Lib.hid (Below.then_grown B1.out (Nat.le_refl _) hg2 (by simp))
  have H2 := Lib.hid (H.out.below B2.out)
  clear c3 hg2
  have HO2 := Lib.hid ho2
  clear ho2
  obtain ⟨g, hg⟩ : ∃ g, Hid (w1.heap.size = g) := ⟨_, Lib.hid rfl⟩
  rw [hg.out] at HO2 K2 hz1 hz2 ⊢
  obtain ⟨b, hb⟩ : ∃ b, Hid (w.heap.size = b) := ⟨_, Lib.hid rfl⟩
  rw [hb.out] at KB2 hz1 ⊢
  have c0 : w2.cell? ⟨b, 0, none⟩ = some (.int .i64 k) := by rw [KB2.out.cell]; rfl
  have c1 : w2.cell? ⟨b, 1, none⟩ = some (.int .i64 f) := by rw [KB2.out.cell]; rfl
  have c2 : w2.cell? ⟨b, 2, none⟩ = some (.int .i64 t) := by rw [KB2.out.cell]; rfl
  have d0 : w2.cell? ⟨g, 0, none⟩ = some (.int .u8 0) := by rw [K2.out.cell]; simp
  have d1 : w2.cell? ⟨g, 1, none⟩ = some (.int .u8 0) := by rw [K2.out.cell]; simp
  have d2 : w2.cell? ⟨g, 2, none⟩ = some (.int .u8 0) := by rw [K2.out.cell]; simp
  have d3 : w2.cell? ⟨g, 3, none⟩ = some (.int .u8 0) := by rw [K2.out.cell]; simp
  have z0 : w2.frozen? ⟨g, 0, none⟩ = false := K2.out.free 0
  have z1 : w2.frozen? ⟨g, 1, none⟩ = false := K2.out.free 1
  have z2 : w2.frozen? ⟨g, 2, none⟩ = false := K2.out.free 2
  have z3 : w2.frozen? ⟨g, 3, none⟩ = false := K2.out.free 3
  go_region
  go_wp2
  obtain ⟨w3, HW⟩ : ∃ w3, Hid (((((w2.setCell ⟨g, 0, none⟩ (.int .u8 1)).setCell ⟨g, 1, none⟩ (.int .u8 k)).setCell ⟨g, 2, none⟩ (.int .u8 f)).setCell ⟨g, 3, none⟩ (.int .u8 t)).drew = w3) := ⟨_, Lib.hid rfl⟩
  rw [HW.out]
  have K3 : Bk w3 g 5 ([Value.int .u8 1, .int .u8 k, .int .u8 f, .int .u8 t] ++ List.replicate n (Value.int .u8 0)).toArray := by
    have h := (((K2.out.set 0 (.int .u8 1)).set 1 (.int .u8 k)).set 2 (.int .u8 f)).set 3 (.int .u8 t)
    rw [zeros4] at h
    rw [← HW.out]
    exact h
  have KB3 : Bk w3 b 41 #[.int .i64 k, .int .i64 f, .int .i64 t, .slice A n c] := by
    have hbg : b ≠ g := by omega
    rw [← HW.out]
    exact (((KB2.out.other (p := ⟨g, 0, none⟩) hbg _).other (p := ⟨g, 1, none⟩) hbg _).other (p := ⟨g, 2, none⟩) hbg _).other (p := ⟨g, 3, none⟩) hbg _
  have B3 : Below w.heap.size w w3 := by
    have hbg : w.heap.size ≤ g := by rw [hb.out]; omega
    rw [← HW.out]
    exact below_drewN (w1 := (((w2.setCell ⟨g, 0, none⟩ (.int .u8 1)).setCell ⟨g, 1, none⟩ (.int .u8 k)).setCell ⟨g, 2, none⟩ (.int .u8 f)).setCell ⟨g, 3, none⟩ (.int .u8 t)) ((((B2.out.setCell (p := ⟨g, 0, none⟩) hbg _).setCell (p := ⟨g, 1, none⟩) hbg _).setCell (p := ⟨g, 2, none⟩) hbg _).setCell (p := ⟨g, 3, none⟩) hbg _) 1
  have R3 := Lib.hid (H.out.below B3)
  have B3' := Lib.hid B3
  have K3' := Lib.hid K3
  clear c0 c1 c2 d0 d1 d2 d3 z0 z1 z2 z3 B3 K3 hz2
  have c3 : w3.cell? ⟨b, 3, none⟩ = some (.slice A n c) := by rw [KB3.cell]; rfl
  have KB3' := Lib.hid KB3
  clear KB3
  have h4 : (4 : Int) ≤ (n : Int) + 4 := by omega
  have HL := Lib.hid (show (bytesV l).length = n by rw [bytesV_len]; exact H.out.len)
  have hcs : Hid (∀ W, Rb W A n l → 0 < (bytesV l).length → ∃ ad, A = some ad ∧ ∀ j v, (bytesV l)[j]? = some v → W.cell? (ad.add j) = some v) := Lib.hid (fun W hW hp => by
    obtain ⟨ad, e, _, hc⟩ := hW.vals hp
    exact ⟨ad, e, hc⟩)
  have hdp : Hid (0 < (bytesV l).length → (if n = 0 then some (⟨g, 0, none⟩ : Addr) else some ⟨g, 4, none⟩) = some ⟨g, 4, none⟩) := Lib.hid (fun hp => by rw [if_neg (by have := HL.out; omega)])
  go_region_law (refine step_copy_splice rfl (.tmp 34) (.tmp 36) 22 22 rfl 5 Try.underlying22 (by kernel_rfl) _ _ _ _ _ _ rfl rfl g 4 _ 5 K3'.out (bytesV l) (by rw [HL.out]; simp) (fun hp => ⟨hdp.out hp, hcs.out _ R3.out hp⟩) (by rw [HL.out]; simp; omega) (bytesV_one l) w.heap.size w (below_drewN B3'.out 1) (by rw [hb.out]; omega) ?_; intro w4 hg4 hb4)
  have HB : Hid (bytesV ([1, u8 k, u8 f, u8 t] ++ l) = [Value.int .u8 1, .int .u8 k, .int .u8 f, .int .u8 t] ++ bytesV l) := Lib.hid (by
    rw [bytesV_append]
    simp [bytesV, u8]
    omega)
  have R4 : Hid (Rb w4 (some ⟨g, 0, none⟩) (n + 4) ([1, u8 k, u8 f, u8 t] ++ l)) := Lib.hid (Rb.of_bk (Bk.of_hid hg4) (by simp [H.out.len]) (by omega) (by
    rw [HB.out, ← splice4 n (.int .u8 0) _ _ _ _ (bytesV l) HL.out]))
  have B4 := Lib.hid hb4
  have HP : Hid (SumP.sealB ([1, u8 k, u8 f, u8 t] ++ l) = putB k f t l) := Lib.hid rfl
  clear hb4 hg4 K3' HB R3 hdp hcs HL
  generalize [1, u8 k, u8 f, u8 t] ++ l = q at *
  generalize (if n = 0 then some (⟨g, 0, none⟩ : Addr) else some ⟨g, 4, none⟩) = dp
  go_wp2_with fail
  refine (sumSeal _ _ (n + 4) (n + 4) _ R4.out (by omega)).mono ?_
  rintro e w5 ⟨v, rfl, ho5, hb5⟩
  go_wp2
  go_ret2
  have ho6 := own_base_le ho5 B4.out.size
  rw [HP.out] at ho6
  exact ⟨v, rfl, ho6, Below.then_below B4.out hb5⟩
theorem refPut (w : World) (k f t : Int) (A : Option Addr) (n c : Nat) (l : List UInt8) (h : Rb w A n l) (hk : chk k f t n = 0) :
    Calls Try.prog 29 #[frV k f t A n c] w fun e w' => ∃ v, e = .returned v ∧ w'.ownsRow w.heap.size 5 1 v (n + 8) (bytesV (putB k f t l)) ∧ Below w.heap.size w w' := by
  obtain ⟨⟨k0, k1⟩, ⟨f0, f1⟩, ⟨t0, t1⟩, _, hn⟩ := chk_ok hk
  have H := Lib.hid h
  clear h
  unfold frV at *
  have HB : Hid (bytesV [1, u8 k, u8 f, u8 t] = [Value.int .u8 1, .int .u8 k, .int .u8 f, .int .u8 t]) := Lib.hid (by
    simp [bytesV, u8]
    omega)
  have b0 := (Below.refl w.heap.size w).alloc (Nat.le_refl _) (.cells #[.int .i64 k, .int .i64 f, .int .i64 t, .slice A n c] 37)
  go_enter Try.func29, Try.ntmps29
  go_wp2_with (refine appendBytes rfl (.tmp 14) (.tmp 16) 22 rfl 5 Try.underlying22 u8info w.heap.size _ 4 [1, u8 k, u8 f, u8 t] rfl (ownNew _ _ _ _ 4 _ _ (by simp) HB.out.symm (by simp [bytesV]) (by simp [maxLen]) (by omega)) A n c l rfl (H.out.below (b0.alloc b0.size _)) (by omega) (by simp; omega) ?_; intro v1 w1 ho1 hg1 hat1)
  have B1 := Lib.hid (Below.then_grown (b0.alloc b0.size (.cells #[.int .u8 1, .int .u8 k, .int .u8 f, .int .u8 t] 5)) (Nat.le_refl _) hg1 (fun j hj => by have hj' : w.heap.size + 1 = j := (by injection hj); omega))
  clear b0 hg1 hat1
  obtain ⟨A1, c1, rfl, hc1⟩ := own_slice ho1
  have R1 := Lib.hid (Rb.of_own ho1)
  clear ho1
  go_wp2_with fail
  refine (refSeal _ A1 _ c1 _ R1.out (by omega)).mono ?_
  rintro e w2 ⟨v, rfl, ho2, hb2⟩
  go_wp2
  go_ret
  rw [show 4 + n + 4 = n + 8 by omega] at ho2
  exact ⟨v, rfl, own_base_le ho2 B1.out.size, Below.then_below B1.out hb2⟩
end Go.Proofs.Ytjbiemeaelnhaaa.Frm
