import Derived.Test.YtcjonnfhnddapaaLetB
import Derived.Lib.OthersKept
import Derived.WalkLawsBesides
/- letter: Count, Fit, Tail. -/
namespace Go.Proofs.Ytcjonnfhnddapaa.Let
open Go.RowKit LetP

/-- A round of a range over a text: what next comes to. -/
theorem next_yes {wr : World} {g p : Nat} {s : ByteArray} (hit : wr.heap[g]? = some (.stringIter s p)) (hp : p < s.size) {B : Nat} {w : World} (hb : Below B w wr) (hg : B ≤ g) :
    ∃ W1, (∀ ty, (Instr.next (.pointer (some ⟨g, 0, none⟩)) true ty).run Try.prog wr = .ok (.tuple #[.bool true, .int .i64 p, .int .i32 (rune s p)]) W1) ∧ W1.heap[g]? = some (.stringIter s (p + wid s p)) ∧ Below B w W1 ∧ wr.grownBy W1 (some g) :=
  ⟨wr.iterAt g s (p + (Utf8.decode s p).2), fun ty => Lib.run_next_any_at wr g s p ty hit hp, Lib.iterAt_heap wr g s p _ hit, Lib.below_iterAt hb hg s _,
    ⟨rfl, rfl, rfl, by rw [Lib.iterAt_size]; exact Nat.le_refl _, fun i _ hne => Lib.iterAt_other wr g i s _ (fun e => hne (by rw [e]))⟩⟩
theorem next_no {wr : World} {g p : Nat} {s : ByteArray} (hit : wr.heap[g]? = some (.stringIter s p)) (hp : ¬ p < s.size) :
    ∀ ty, (Instr.next (.pointer (some ⟨g, 0, none⟩)) true ty).run Try.prog wr = .ok (.tuple #[.bool false]) wr := fun ty => Lib.run_next_end_at wr g s p ty hit hp
theorem iter_pos {wr : World} {g p : Nat} {s : ByteArray} (hit : wr.heap[g]? = some (.stringIter s p)) : wr.iterPos g = p := iterPos_of hit

set_option maxHeartbeats 800000 in
theorem letCount (w : World) (s : ByteArray) (hs : s.size ≤ 1000000) :
    Calls Try.prog 17 #[.string s] w fun e w' => e = .returned (.int .i64 (pcs s 0).length) ∧ Below w.heap.size w w' := by
  have hpl := pcs_len s 0
  have HLT := Lib.hid (st_lt s)
  have HNX := Lib.hid (st_next s)
  generalize (pcs s 0).length = N at *
  go_enter Try.func17, Try.ntmps17
  go_wp2
  go_loopw [3] (fun v wr => ∃ k : Nat, k ≤ N ∧ v = .int .i64 k ∧ wr.heap[w.heap.size]? = some (.stringIter s (st s k)) ∧ Below w.heap.size w wr) (fun _ wr => s.size - wr.iterPos w.heap.size)
  case atStart => exact ⟨0, Nat.zero_le _, rfl, World.iter_heap w s 0, (Below.refl _ _).alloc (Nat.le_refl _) _⟩
  case round =>
    obtain ⟨k, hk, rfl, hit, hb⟩ := hrel
    have hpos := iter_pos hit
    by_cases hp : st s k < s.size
    · obtain ⟨W1, hnx, hit1, hb1, _⟩ := next_yes hit hp hb (Nat.le_refl _)
      have hkn : k < N := (HLT.out k).2 hp
      rw [← HNX.out k hkn] at hit1
      have hw := wid_pos s (st s k)
      have HX := Lib.hid (HNX.out k hkn)
      have HP := Lib.hid hpos
      have HI := Lib.hid hit1
      have HB := Lib.hid hb1
      clear hit hb hit1 hb1 hpos
      go_wp2
      go_roundw
      case rel => exact ⟨k + 1, by omega, by go_num, HI.out, HB.out⟩
      case measure => rw [iter_pos HI.out, HP.out, HX.out]; omega
    · have hnx := next_no hit hp
      have hkn : ¬ k < N := fun h => hp ((HLT.out k).1 h)
      have HB := Lib.hid hb
      clear hit hb hpos
      go_wp2
      go_ret
      exact ⟨ret_int (by omega), HB.out⟩

set_option maxHeartbeats 800000 in
theorem letFit (w : World) (s : ByteArray) (most : Int) (hs : s.size ≤ 1000000) (hm0 : -9223372036854775808 ≤ most) (hm1 : most ≤ 9223372036854775807) :
    Calls Try.prog 21 #[.string s, .int .i64 most] w fun e w' => e = .returned (.string (s.extract 0 (fitE s most))) ∧ Below w.heap.size w w' := by
  go_enter Try.func21, Try.ntmps21
  go_wp2
  go_loopw [5, 6] (fun v _ wr => ∃ p E : Nat, p ≤ s.size ∧ v = .int .i64 E ∧ wr.heap[w.heap.size]? = some (.stringIter s p) ∧ Below w.heap.size w wr ∧ Hid (fitE s most = fitF s most.toNat E) ∧ (p = 0 ∧ E = 0 ∨ E < s.size ∧ p = E + wid s E ∧ (E : Int) ≤ most)) (fun _ _ wr => s.size - wr.iterPos w.heap.size)
  case atStart => exact ⟨0, 0, Nat.zero_le _, rfl, World.iter_heap w s 0, (Below.refl _ _).alloc (Nat.le_refl _) _, Lib.hid rfl, .inl ⟨rfl, rfl⟩⟩
  case round =>
    obtain ⟨p, E, hp0, rfl, hit, hb, HF, hcase⟩ := hrel
    have hpos := iter_pos hit
    have HC := Lib.hid hcase
    have hEp : E ≤ p := by
      rcases hcase with ⟨h1, h2⟩ | ⟨h1, h2, h3⟩
      · omega
      · omega
    clear hcase
    by_cases hp : p < s.size
    · obtain ⟨W1, hnx, hit1, hb1, _⟩ := next_yes hit hp hb (Nat.le_refl _)
      have hw := wid_pos s p
      have hfi := wid_fits s p hp
      have HP := Lib.hid hpos
      have HI := Lib.hid hit1
      have HB := Lib.hid hb1
      clear hit hb hit1 hb1 hpos
      by_cases hgt : most < (p : Int)
      · have hE : fitE s most = E := by
          rw [HF.out, fitF_stop]
          rintro ⟨h1, h2⟩
          have hwE := wid_pos s E
          rcases HC.out with ⟨h3, h4⟩ | ⟨h3, h4, h5⟩
          · subst h4; omega
          · omega
        have hns : ¬ ((s.size : Int) ≤ most) := by omega
        go_wp2
        go_ret
        exact ⟨ret_str rfl, HB.out⟩
      · go_wp2
        go_roundw
        case rel =>
          refine ⟨p + wid s p, p, by omega, rfl, HI.out, HB.out, Lib.hid ?_, .inr ⟨hp, rfl, by omega⟩⟩
          rcases HC.out with ⟨h3, h4⟩ | ⟨h3, h4, h5⟩
          · subst h3 h4; exact HF.out
          · rw [HF.out, fitF_step s _ E h3 (by omega), h4]
        case measure => rw [iter_pos HI.out, HP.out]; omega
    · have hnx := next_no hit hp
      have HB := Lib.hid hb
      clear hit hb hpos
      obtain rfl : p = s.size := by omega
      have hE : fitE s most = if (s.size : Int) ≤ most then s.size else E := by
        rw [HF.out]
        rcases HC.out with ⟨h3, h4⟩ | ⟨h3, h4, h5⟩
        · rw [fitF_stop s _ E (by omega)]
          split <;> omega
        · split
          · rw [fitF_step s _ E h3 (by omega), ← h4, fitF_stop s _ _ (by omega)]
          · rw [fitF_stop s _ E (by omega)]
      by_cases hsm : (s.size : Int) ≤ most
      · rw [if_pos hsm] at hE
        have HE := Lib.hid hE
        clear hE
        go_wp2
        go_ret
        exact ⟨ret_str (by rw [HE.out]; exact (ByteArray.extract_zero_size).symm), HB.out⟩
      · rw [if_neg hsm] at hE
        have HE := Lib.hid hE
        clear hE
        go_wp2
        go_ret
        exact ⟨ret_str (by rw [HE.out]), HB.out⟩

set_option maxHeartbeats 800000 in
theorem letTail (w : World) (s : ByteArray) (most : Int) (hs : s.size ≤ 1000000) (hm0 : -9223372036854775808 ≤ most) (hm1 : most ≤ 9223372036854775807) :
    Calls Try.prog 23 #[.string s, .int .i64 most] w fun e w' => e = .returned (.string (s.extract (tailE s most) s.size)) ∧ Below w.heap.size w w' := by
  go_enter Try.func23, Try.ntmps23
  go_wp2
  go_loopw [5] (fun _ wr => ∃ p : Nat, p ≤ s.size ∧ wr.heap[w.heap.size]? = some (.stringIter s p) ∧ Below w.heap.size w wr ∧ Hid (tailE s most = tailF s most.toNat p)) (fun _ wr => s.size - wr.iterPos w.heap.size)
  case atStart => exact ⟨0, Nat.zero_le _, World.iter_heap w s 0, (Below.refl _ _).alloc (Nat.le_refl _) _, Lib.hid rfl⟩
  case round =>
    obtain ⟨p, hp0, hit, hb, HF⟩ := hrel
    have hpos := iter_pos hit
    by_cases hp : p < s.size
    · obtain ⟨W1, hnx, hit1, hb1, _⟩ := next_yes hit hp hb (Nat.le_refl _)
      have hw := wid_pos s p
      have hfi := wid_fits s p hp
      have HP := Lib.hid hpos
      have HI := Lib.hid hit1
      have HB := Lib.hid hb1
      clear hit hb hit1 hb1 hpos
      by_cases hfit : (s.size : Int) - (p : Int) ≤ most
      · have HE := Lib.hid (show tailE s most = p from by rw [HF.out, tailF_stop s _ p (by omega)])
        go_wp2
        go_ret
        exact ⟨ret_str (by rw [HE.out]), HB.out⟩
      · go_wp2
        go_roundw
        case rel => exact ⟨p + wid s p, by omega, HI.out, HB.out, Lib.hid (by rw [HF.out, tailF_step s _ p hp (by omega)])⟩
        case measure => rw [iter_pos HI.out, HP.out]; omega
    · have hnx := next_no hit hp
      have HB := Lib.hid hb
      clear hit hb hpos
      obtain rfl : p = s.size := by omega
      have HE := Lib.hid (show tailE s most = s.size from by rw [HF.out, tailF_stop s _ _ (by omega)])
      go_wp2
      go_ret
      exact ⟨ret_str (by rw [HE.out]; exact (ByteArray.extract_eq_empty_iff.2 (by omega)).symm), HB.out⟩

theorem get_at (t : ByteArray) (k : Nat) (h : k < t.size) : t.get! k = t[k]'h := by simp [ByteArray.get!, getElem!_pos, h]; rfl
/-- A text cut off reads as it did. -/
theorem sb_cut (s : ByteArray) (a k : Nat) (h : a + k < s.size) : (s.extract a s.size).get! k = s.get! (a + k) := by
  have h1 : k < (s.extract a s.size).size := by simp; omega
  rw [get_at _ k h1, get_at s _ h]
  simp [ByteArray.getElem_extract]
theorem tl_cut (s : ByteArray) (a k : Nat) (ha : a ≤ s.size) : tl (s.extract a s.size) k = tl s (a + k) := by
  unfold tl
  have hz : (s.extract a s.size).size = s.size - a := by simp
  by_cases h : a + k < s.size
  · rw [if_pos (by omega), if_pos h]
    simp only [sb, sb_cut s a k h]
    rfl
  · rw [if_neg (by omega), if_neg h]
theorem decode_cut (s : ByteArray) (a k : Nat) (h : a + k < s.size) : Utf8.decode (s.extract a s.size) k = Utf8.decode s (a + k) := by
  have hz : (s.extract a s.size).size = s.size - a := by simp
  have key : ∀ (c b1 b2 b3 b1' b2' b3' : Nat) (a1 a2 a3 : Int), (0 ≤ a1 → b1 = b1') → (0 ≤ a2 → b2 = b2') → (0 ≤ a3 → b3 = b3') → decA c b1 b2 b3 a1 a2 a3 = decA c b1' b2' b3' a1 a2 a3 := by
    intro c b1 b2 b3 b1' b2' b3' a1 a2 a3 h1 h2 h3
    unfold decA
    by_cases m1 : 0 ≤ a1
    · obtain rfl := h1 m1
      by_cases m2 : 0 ≤ a2
      · obtain rfl := h2 m2
        by_cases m3 : 0 ≤ a3
        · obtain rfl := h3 m3; rfl
        · simp [m3]
      · simp [m2]
    · simp [m1]
  rw [decode_eq, decode_eq, tl_cut s a _ (by omega), tl_cut s a _ (by omega), tl_cut s a _ (by omega)]
  have e0 : sb (s.extract a s.size) k = sb s (a + k) := by simp only [sb, sb_cut s a k h]
  rw [e0]
  have hb : ∀ j, 0 ≤ tl s (a + k + j) → sb (s.extract a s.size) (k + j) = sb s (a + k + j) := by
    intro j hj
    have := tl_in _ _ hj
    simp only [sb]
    rw [sb_cut s a (k + j) (by omega), Nat.add_assoc]
  exact key _ _ _ _ _ _ _ _ _ _ (hb 1) (hb 2) (hb 3)
theorem wid_cut (s : ByteArray) (a k : Nat) (h : a + k < s.size) : wid (s.extract a s.size) k = wid s (a + k) := by unfold wid; rw [decode_cut s a k h]
theorem rune_cut (s : ByteArray) (a k : Nat) (h : a + k < s.size) : rune (s.extract a s.size) k = rune s (a + k) := by unfold rune; rw [decode_cut s a k h]

theorem one3 (a b c : Int) : (#[Value.int .i64 a, .int .i64 b, .int .i64 c] : Array Value).all (·.oneCell') = true := by simp [Value.oneCell']
/-- What the program's Next tells. -/
def nextP (s : ByteArray) (p : Int) : Int × Int × Int := if 0 ≤ p ∧ p < s.size then (p, (wid s p.toNat : Int), (rune s p.toNat : Int)) else (0, 0, 0)
set_option maxRecDepth 100000 in
set_option maxHeartbeats 800000 in
theorem letNext (w : World) (s : ByteArray) (p : Int) (hs : s.size ≤ 1000000) (hm0 : -9223372036854775808 ≤ p) (hm1 : p ≤ 9223372036854775807) :
    Calls Try.prog 20 #[.string s, .int .i64 p] w fun e w' => e = .returned (.agg #[.int .i64 (nextP s p).1, .int .i64 (nextP s p).2.1, .int .i64 (nextP s p).2.2]) ∧ Below w.heap.size w w' := by
  by_cases hr : 0 ≤ p ∧ p < s.size
  · obtain ⟨h0, h1⟩ := hr
    obtain ⟨q, rfl⟩ := Int.eq_ofNat_of_zero_le h0
    have hq : q < s.size := by omega
    have hn : nextP s q = ((q : Int), (wid s q : Int), (rune s q : Int)) := by rw [nextP, if_pos ⟨h0, h1⟩]; simp
    rw [hn]
    clear hn
    have hwc := wid_cut s q 0 (by omega)
    have hrc := rune_cut s q 0 (by omega)
    have hfi := wid_fits s q hq
    have hw := wid_pos s q
    have hz : (s.extract q s.size).size = s.size - q := by simp
    rw [Nat.add_zero] at hwc hrc
    generalize hTT : s.extract q s.size = T at *
    have HTT := Lib.hid hTT
    have hz2 : T.size = s.size - q := by rw [← hTT]; simp
    clear hTT hz
    go_enter Try.func20, Try.ntmps20
    go_wp2
    simp only [HTT.out]
    go_loopw [6, 7] (fun _ _ wr => ∃ (p r : Nat), (p = 0 ∧ r = 0 ∨ p = wid s q ∧ r = rune s q) ∧ Bk wr (w.heap.size + 1) 29 #[.int .i64 q, .int .i64 ((s.size : Int) - q), .int .i64 r] ∧ Bk wr w.heap.size 29 #[.int .i64 0, .int .i64 0, .int .i64 0] ∧ wr.heap[w.heap.size + 1 + 1]? = some (.stringIter T p) ∧ Below w.heap.size w wr) (fun _ _ wr => T.size - wr.iterPos (w.heap.size + 1 + 1))
    case atStart =>
      refine ⟨0, 0, .inl ⟨rfl, rfl⟩, ((Bk.new (w.alloc _) _ _).alloc _ : Bk _ ((w.alloc _).heap.size) _ _).of_num (by simp), ((Bk.new w _ _).alloc _).alloc _, ?_, (((Below.refl _ _).alloc (Nat.le_refl _) _).alloc (by simp) _).alloc (by simp; omega) _⟩
      have := World.iter_heap ((w.alloc (Obj.cells #[Value.int IntKind.i64 0, Value.int IntKind.i64 0, Value.int IntKind.i64 0] 29)).alloc (Obj.cells #[Value.int IntKind.i64 q, Value.int IntKind.i64 (s.size - q), Value.int IntKind.i64 0] 29)) T 0
      simpa using this
    case round =>
      obtain ⟨p, r, hcase, hk1, hk0, hit, hb⟩ := hrel
      have hpos := iter_pos hit
      have HC := Lib.hid hcase
      clear hcase
      by_cases hp : p < T.size
      · obtain ⟨W1, hnx, hit1, hb1, hg1⟩ := next_yes hit hp hb (by omega : w.heap.size ≤ w.heap.size + 1 + 1)
        have K1 := Lib.hid (hk1.grown hg1 (by simp))
        have K0 := Lib.hid (hk0.grown hg1 (by simp; omega))
        have HI := Lib.hid hit1
        have HB := Lib.hid hb1
        have HP := Lib.hid hpos
        have f0 := K1.out.free 1
        have f1 := K1.out.free 2
        have d0 := K1.out.cell 1
        have d1 := K1.out.cell 2
        simp at d0 d1
        clear hk1 hk0 hit hb hit1 hb1 hpos hg1
        by_cases hp0 : p = 0
        · subst hp0
          have hr0 : rune T 0 = rune s q := hrc
          have hr1 := rune_le s q
          go_wp2
          go_roundw
          case rel =>
            refine ⟨wid s q, rune s q, .inr ⟨rfl, rfl⟩, ?_, K0.out.other (by simp) _, ?_, HB.out.setCell (by simp) _⟩
            · simpa using K1.out.set 2 (.int .i64 (rune s q))
            · rw [Below.heap_setCell _ _ _ _ (by simp)]
              have := HI.out
              rwa [Nat.zero_add, hwc] at this
          case measure =>
            have h2 := Below.heap_setCell W1 ⟨w.heap.size + 1, 2, none⟩ (.int .i64 (rune s q)) (w.heap.size + 1 + 1) (by simp)
            rw [iter_pos (h2.trans HI.out), HP.out]
            have := wid_pos T 0
            omega
        · have hpw : p = wid s q ∧ r = rune s q := by
            rcases HC.out with ⟨h3, _⟩ | h3
            · exact absurd h3 hp0
            · exact h3
          have KS := Lib.hid (show Bk (W1.setCell ⟨w.heap.size + 1, 1, none⟩ (.int .i64 p)) (w.heap.size + 1) 29 #[.int .i64 q, .int .i64 p, .int .i64 r] from by simpa using K1.out.set 1 (.int .i64 p))
          have K0S := Lib.hid (show Bk (W1.setCell ⟨w.heap.size + 1, 1, none⟩ (.int .i64 p)) w.heap.size 29 _ from K0.out.other (by simp) _)
          have HBS := Lib.hid (HB.out.setCell (p := ⟨w.heap.size + 1, 1, none⟩) (by simp) (.int .i64 p))
          have HPW := Lib.hid hpw
          clear hpw
          have hpg : 0 < p := by omega
          go_wp2_with (first
            | (refine wpList_load_row rfl 29 (.tmp 5) rfl (w.heap.size + 1) rfl 29 #[.int .i64 q, .int .i64 p, .int .i64 r] _ _ KS.out Try.underlying29 rfl (by kernel_rfl) ?_)
            | (refine storeWhole rfl 29 (.tmp 4) (.tmp 38) rfl w.heap.size 29 _ #[.int .i64 q, .int .i64 p, .int .i64 r] rfl rfl K0S.out rfl (by kernel_rfl) (one3 _ _ _) ?_; intro w9 hb9 hg9))
          go_wp2
          refine bodyPost_ret (results_cell_row rfl _ _ w.heap.size 29 #[.int .i64 q, .int .i64 p, .int .i64 r] _ _ rfl hb9 Try.underlying29 rfl (by kernel_rfl)) rfl ⟨?_, ?_⟩
          · rw [HPW.out.1, HPW.out.2]
          · exact HBS.out.grown hg9 HBS.out.size (fun k e => by injection e with e; omega)
      · have hnx := next_no hit hp
        have K1 := Lib.hid hk1
        have K0 := Lib.hid hk0
        have HB := Lib.hid hb
        have hpw : ((s.size : Int) - (q : Int)) = (wid s q : Int) ∧ r = rune s q := by
          rcases HC.out with ⟨h3, _⟩ | h3
          · omega
          · exact ⟨by omega, h3.2⟩
        have HPW := Lib.hid hpw
        clear hpw
        clear hk1 hk0 hit hb hpos
        go_wp2_with (first
            | (refine wpList_load_row rfl 29 (.tmp 5) rfl (w.heap.size + 1) rfl 29 #[.int .i64 q, .int .i64 ((s.size : Int) - q), .int .i64 r] _ _ K1.out Try.underlying29 rfl (by kernel_rfl) ?_)
            | (refine storeWhole rfl 29 (.tmp 4) (.tmp 38) rfl w.heap.size 29 _ #[.int .i64 q, .int .i64 ((s.size : Int) - q), .int .i64 r] rfl rfl K0.out rfl (by kernel_rfl) (one3 _ _ _) ?_; intro w9 hb9 hg9))
        go_wp2
        refine bodyPost_ret (results_cell_row rfl _ _ w.heap.size 29 #[.int .i64 q, .int .i64 ((s.size : Int) - q), .int .i64 r] _ _ rfl hb9 Try.underlying29 rfl (by kernel_rfl)) rfl ⟨?_, ?_⟩
        · rw [HPW.out.1, HPW.out.2]
        · exact HB.out.grown hg9 HB.out.size (fun k e => by injection e with e; omega)
  · have hn : nextP s p = (0, 0, 0) := by rw [nextP, if_neg hr]
    rw [hn]
    clear hn
    by_cases hneg : p < 0
    · go_enter Try.func20, Try.ntmps20
      go_wp2
      exact bodyPost_ret (v := .agg #[.int .i64 0, .int .i64 0, .int .i64 0]) (by simp [results, Try.results20, go_sem]) rfl ⟨rfl, (Below.refl _ _).alloc (Nat.le_refl _) _⟩
    · have hge : (s.size : Int) ≤ p := by omega
      go_enter Try.func20, Try.ntmps20
      go_wp2
      exact bodyPost_ret (v := .agg #[.int .i64 0, .int .i64 0, .int .i64 0]) (by simp [results, Try.results20, go_sem]) rfl ⟨rfl, (Below.refl _ _).alloc (Nat.le_refl _) _⟩
end Go.Proofs.Ytcjonnfhnddapaa.Let
