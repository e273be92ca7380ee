import Derived.Test.YtjbiemeaelnhaaaSumC
/- The program's More, Of and Seal. -/
namespace Go.Proofs.Ytjbiemeaelnhaaa
open Go.RowKit

theorem u8info : (Try.prog.info? 5).map (fun i => (i.zero, i.size, i.bytes)) = some (some (.int .u8 0), 1, 1) := by kernel_rfl

theorem not_u32 (c : Nat) (h : c < 4294967296) : bits .xor .u32 IntKind.u32.max (c : Int) = ((4294967295 - c : Nat) : Int) := by
  rw [show IntKind.u32.max = ((4294967295 : Nat) : Int) from by decide, u32_xor_nat 4294967295 c (by omega) h]
  have hx : (BitVec.ofNat 32 c ^^^ BitVec.allOnes 32).toNat = (~~~ (BitVec.ofNat 32 c)).toNat := by rw [BitVec.xor_allOnes]
  rw [BitVec.toNat_xor, BitVec.toNat_not, BitVec.toNat_ofNat, BitVec.toNat_allOnes, Nat.mod_eq_of_lt (by omega)] at hx
  rw [Nat.xor_comm]
  exact congrArg _ hx

set_option maxHeartbeats 400000 in
theorem sumMore (c : Nat) (hc : c < 4294967296) (w : World) (A : Option Addr) (n cap : Nat) (l : List UInt8) (h : Rb w A n l) :
    Calls Try.prog 18 #[.int .u32 c, .slice A n cap] w fun e w' => e = .returned (.int .u32 (SumP.more c l : Int)) ∧ Below w.heap.size w w' := by
  have H := Lib.hid h
  have hr := SumP.run_lt (4294967295 - c) l (by omega)
  have e1 := not_u32 c hc
  have e2 := not_u32 _ hr
  clear h
  go_enter Try.func18, Try.ntmps18
  go_wp2_with fail
  refine (sumHalves _).mono ?_
  rintro e w1 ⟨rfl, hb1⟩
  go_wp2_with fail
  refine (sumStep _ (by omega) _ A n cap l (H.out.below hb1)).mono ?_
  rintro e w2 ⟨rfl, hb2⟩
  go_wp2
  go_ret
  exact ⟨rfl, Below.then_below hb1 hb2⟩
theorem sumOf (w : World) (A : Option Addr) (n cap : Nat) (l : List UInt8) (h : Rb w A n l) :
    Calls Try.prog 16 #[.slice A n cap] w fun e w' => e = .returned (.int .u32 (SumP.more 0 l : Int)) ∧ Below w.heap.size w w' := by
  have H := Lib.hid h
  clear h
  go_enter Try.func16, Try.ntmps16
  go_wp2_with fail
  refine (sumMore 0 (by omega) _ A n cap l H.out).mono ?_
  rintro e w1 ⟨rfl, hb1⟩
  go_wp2
  go_ret
  exact ⟨rfl, hb1⟩

theorem le4_walk (s : Nat) (h : s < 4294967296) : bytesV (SumP.le4 s) = [.int .u8 ((s : Int) % 256), .int .u8 ((s : Int) / 256 % 256), .int .u8 ((s : Int) / 65536 % 256), .int .u8 ((s : Int) / 16777216)] := by
  simp [SumP.le4, bytesV]; omega
set_option maxHeartbeats 400000 in
theorem sumSeal (w : World) (A : Option Addr) (n cap : Nat) (l : List UInt8) (h : Rb w A n l) (hn : n + 4 ≤ 140737488355328) :
    Calls Try.prog 20 #[.slice A n cap] w fun e w' => ∃ v, e = .returned v ∧ w'.ownsRow w.heap.size 5 1 v (n + 4) (bytesV (SumP.sealB l)) ∧ Below w.heap.size w w' := by
  have H := Lib.hid h
  have HS := Lib.hid (SumP.more_lt 0 l)
  clear h
  go_enter Try.func20, Try.ntmps20
  go_wp2_with fail
  refine (sumOf _ A n cap l H.out).mono ?_
  rintro e w1 ⟨rfl, hb1⟩
  have hs := HS.out
  have HM := Lib.hid (le4_walk _ hs)
  have HQ := Lib.hid (show SumP.sealB l = l ++ SumP.le4 (SumP.more 0 l) from rfl)
  generalize SumP.more 0 l = s at *
  go_wp2_with (first
    | (refine makeRow rfl (.const (.int .i64 0)) (.tmp 9) 22 5 rfl Try.underlying22 (.int .u8 0) 1 u8info rfl w1.heap.size 0 _ rfl rfl 0 (n + 4) rfl (by omega) (by omega) (by omega) (by simp only [maxLen]; omega) (Nat.le_refl _) ?_; intro w2 ho2 hg2 hz2)
    | (refine appendBytes rfl (.tmp 11) (.tmp 12) 22 rfl 5 Try.underlying22 u8info w1.heap.size _ 0 [] rfl ho2 A n cap l rfl ((H.out.below hb1).below (below_of_grown hg2)) (by omega) (by omega) ?_; intro v3 w3 ho3 hg3 hat3)
    | (refine appendBytes rfl (.tmp 14) (.tmp 26) 22 rfl 5 Try.underlying22 u8info w1.heap.size v3 (0 + n) ([] ++ l) rfl (ho3.alloc _) (some ⟨w3.heap.size, 0, none⟩) 4 4 (SumP.le4 s) rfl (Rb.new _ _ _ (SumP.le4 s) (by simp [SumP.le4]) HM.out.symm 4 rfl) (by omega) (by have := hg2.size; have := hg3.size; simp; omega) ?_; intro v4 w4 ho4 hg4 hat4))
  go_ret
  refine ⟨v4, rfl, ?_, ?_⟩
  · rw [HQ.out]
    simp only [Nat.zero_add, List.nil_append] at ho4
    exact own_base_le ho4 hb1.size
  · have b2 := Below.then_grown hb1 (Nat.le_refl _) hg2 (by simp)
    have b3 := Below.then_grown b2 (Nat.le_refl _) hg3 (fun k hk => by have h1 := hb1.size; have h2 : w1.heap.size = k := Option.some.inj hk; omega)
    exact Below.then_grown (b3.alloc b3.size _) (Nat.le_refl _) hg4 (fun k hk => Nat.le_trans hb1.size ((ho3.lt k hk).1))
end Go.Proofs.Ytjbiemeaelnhaaa
