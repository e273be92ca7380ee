import Derived.Test.YtcjonnfhnddapaaLetC
/- letter: Pieces, Right. -/
namespace Go.Proofs.Ytcjonnfhnddapaa.Let
open Go.RowKit LetP

/-- What is told behind k pieces: the last one's length is not told yet. -/
def ol (s : ByteArray) : Nat → List Pc
  | 0 => []
  | k + 1 => (pcs s 0).take k ++ [⟨st s k, 0, rune s (st s k)⟩]
theorem take_st (s : ByteArray) (k : Nat) (h : k < (pcs s 0).length) : (pcs s 0).take (k + 1) = (pcs s 0).take k ++ [⟨st s k, wid s (st s k), rune s (st s k)⟩] := by
  rw [take_nth _ k h, nth_pcs s k h]
theorem ol_len (s : ByteArray) (k : Nat) (h : k ≤ (pcs s 0).length) : (ol s k).length = k := by
  cases k with
  | zero => rfl
  | succ k => simp [ol]; omega
theorem ol_set (s : ByteArray) (j : Nat) (h : j < (pcs s 0).length) : (pcV (ol s (j + 1))).set (j * 3 + 1) (.int .i64 (wid s (st s j) : Int)) = pcV ((pcs s 0).take (j + 1)) := by
  have hl : (pcV ((pcs s 0).take j)).length = j * 3 := by rw [pcV_len, List.length_take]; congr 1; omega
  rw [take_st s j h, ol, pcV_append, pcV_append, List.set_append_right _ _ (by omega), hl, Nat.add_sub_cancel_left]
  rfl
theorem nth_last {α : Type} [Inhabited α] (l : List α) (a : α) (k : Nat) (h : l.length = k) : nth (l ++ [a]) k = a := by
  subst h
  simp [nth]
theorem ol_last (s : ByteArray) (j : Nat) (h : j < (pcs s 0).length) : nth (ol s (j + 1)) j = ⟨st s j, 0, rune s (st s j)⟩ := nth_last _ _ _ (by rw [List.length_take]; omega)
theorem iter_lt {w : World} {g p : Nat} {s : ByteArray} (h : w.heap[g]? = some (.stringIter s p)) : g < w.heap.size := (Array.getElem?_eq_some_iff.1 h).1
theorem infoL : (Try.prog.info? 29).map (fun i => (i.zero, i.size, i.bytes)) = some (some (.agg #[.int .i64 0, .int .i64 0, .int .i64 0]), 3, 24) := by kernel_rfl

set_option maxRecDepth 100000 in
set_option maxHeartbeats 1000000 in
theorem letPieces (w : World) (s : ByteArray) (hs : s.size ≤ 1000000) :
    Calls Try.prog 15 #[.string s] w fun e w' => ∃ v, e = .returned v ∧ w'.ownsRow w.heap.size 29 3 v (pcs s 0).length (pcV (pcs s 0)) ∧ Below w.heap.size w w' := by
  have hpl := pcs_len s 0
  have HLT := Lib.hid (st_lt s)
  have HNX := Lib.hid (st_next s)
  have HSET := Lib.hid (ol_set s)
  have HLAST := Lib.hid (ol_last s)
  have HEND := Lib.hid (st_end s)
  have HTK := Lib.hid (take_st s)
  have HALL := Lib.hid (List.take_of_length_le (l := pcs s 0) (Nat.le_refl _))
  have HOL := Lib.hid (ol_len s)
  generalize hN : (pcs s 0).length = N at *
  have HN := Lib.hid hN
  clear hN
  go_enter Try.func15, Try.ntmps15
  go_wp2
  go_loopw [3, 4, 5, 6] (fun v _ _ _ wr => ∃ k : Nat, k ≤ N ∧ wr.heap[w.heap.size]? = some (.stringIter s (st s k)) ∧ wr.ownsRow (w.heap.size + 1) 29 3 v k (pcV (ol s k)) ∧ Below w.heap.size w wr) (fun _ _ _ _ wr => s.size - wr.iterPos w.heap.size)
  case atStart => exact ⟨0, Nat.zero_le _, World.iter_heap w s 0, World.ownsRow_nil _ _ _ _, (Below.refl _ _).alloc (Nat.le_refl _) _⟩
  case round =>
    obtain ⟨k, hk, hit, ho, hb⟩ := hrel
    have hpos := iter_pos hit
    by_cases hp : st s k < s.size
    · obtain ⟨W1, hnx, hit1, hb1, hg1⟩ := next_yes hit hp hb (Nat.le_refl _)
      have hkn : k < N := (HLT.out k).2 hp
      rw [← HNX.out k hkn] at hit1
      have O1 := Lib.hid (ho.kept hg1 (own_ne ho (by omega)))
      have hw := wid_pos s (st s k)
      have hf := wid_fits s (st s k) hp
      have HX := Lib.hid (HNX.out k hkn)
      have HP := Lib.hid hpos
      have HI := Lib.hid hit1
      have HB := Lib.hid hb1
      have hrn := rune_le s (st s k)
      have HV := Lib.hid (show pcV [(⟨st s k, 0, rune s (st s k)⟩ : Pc)] = [.int .i64 (st s k), .int .i64 0, .int .i64 (rune s (st s k))] from rfl)
      clear hit hb hit1 hb1 hpos hg1 ho
      have HOS := Lib.hid (show ol s (k + 1) = (pcs s 0).take k ++ [⟨st s k, 0, rune s (st s k)⟩] from rfl)
      generalize hrr : rune s (st s k) = rn at *
      have HRR := Lib.hid hrr
      clear hrr
      obtain ⟨A, c, rfl, hc⟩ := own_slice O1.out
      by_cases hk0 : k = 0
      · subst hk0
        go_wp2_with (first
          | (refine wpListAppend rfl (.tmp 31) (.tmp 36) 23 rfl (w.heap.size + 1) 29 _ 3 24 Try.underlying23 infoL rfl (by omega) _ 0 (pcV (ol s 0)) rfl (O1.out.alloc _) (some ⟨W1.heap.size, 0, none⟩) 1 1 (pcV [(⟨st s 0, 0, rn⟩ : Pc)]) rfl rfl (Rv.newAt _ _ _ _ HV.out.symm _ rfl) (pcV_one _) (by simp only [maxLen]; omega) (by omega) (by have := HB.out.size; have := iter_lt HI.out; simp; omega) ?_; intro v2 w2 ho2 hg2 hat2))
        have IT2 := Lib.hid ((hg2.block w.heap.size (by have := iter_lt HI.out; simp; omega) (fun e => by have := (O1.out.lt _ e.symm).1; omega)).trans ((alloc_old _ _ _ (iter_lt HI.out)).trans HI.out))
        have B2 := Lib.hid (Below.then_grown (HB.out.alloc HB.out.size _) (Nat.le_refl _) hg2 (fun k hk => Nat.le_trans (Nat.le_succ _) (O1.out.lt k hk).1))
        have O2 := Lib.hid ho2
        clear hg2 hat2 ho2
        go_roundw
        case rel => exact ⟨1, by omega, IT2.out, by rw [HOS.out, pcV_append]; exact O2.out, B2.out⟩
        case measure => rw [iter_pos IT2.out, HP.out, HX.out]; omega
      · have hj : 0 < k := by omega
        obtain ⟨g, rfl⟩ := own_some O1.out hj
        obtain ⟨c1, c2, c3⟩ := pc_cells O1.out (k := k - 1) (by omega)
        have HJ := Lib.hid (show k - 1 + 1 = k by omega)
        have HL := Lib.hid (HLAST.out (k - 1) (by omega))
        rw [HJ.out] at HL
        rw [HL.out] at c1 c2
        simp only [] at c1 c2
        have f2 := own_free O1.out ((k - 1) * 3 + 1)
        have HSJ := Lib.hid (HNX.out (k - 1) (by omega))
        rw [HJ.out] at HSJ
        have HST := Lib.hid (HSET.out (k - 1) (by omega))
        rw [HJ.out] at HST
        have hsub : ((st s k : Int) - (st s (k - 1) : Int)) = (wid s (st s (k - 1)) : Int) := by rw [HSJ.out]; omega
        have HSUB := Lib.hid hsub
        have hw1 := wid_le s (st s (k - 1))
        have hkI : (0 : Int) ≤ (k : Int) - 1 := by omega
        have hle := st_le s k
        have hle1 := st_le s (k - 1)
        have hgB := (O1.out.lt g rfl).1
        have OS := Lib.hid (show (W1.setCell ⟨g, (k - 1) * 3 + 1, none⟩ (.int .i64 ((st s k : Int) - (st s (k - 1) : Int)))).ownsRow (w.heap.size + 1) 29 3 (.slice (some ⟨g, 0, none⟩) k c) k (pcV ((pcs s 0).take k)) from by rw [HSUB.out, ← HST.out]; exact (O1.out.stored _ _).1)
        have BS := Lib.hid (HB.out.setCell (p := ⟨g, (k - 1) * 3 + 1, none⟩) (by simp; omega) (.int .i64 ((st s k : Int) - (st s (k - 1) : Int))))
        have IS := Lib.hid ((Below.heap_setCell W1 ⟨g, (k - 1) * 3 + 1, none⟩ (.int .i64 ((st s k : Int) - (st s (k - 1) : Int))) w.heap.size (by simp; omega)).trans HI.out)
        clear c3 hsub
        go_wp2_with (first
          | (refine wpListAppend rfl (.tmp 31) (.tmp 36) 23 rfl (w.heap.size + 1) 29 _ 3 24 Try.underlying23 infoL rfl (by omega) _ k (pcV ((pcs s 0).take k)) rfl (OS.out.alloc _) (some ⟨W1.heap.size, 0, none⟩) 1 1 (pcV [(⟨st s k, 0, rn⟩ : Pc)]) rfl rfl (Rv.newAt _ _ _ _ HV.out.symm _ (by simp)) (pcV_one _) (by simp only [maxLen]; omega) (by omega) (by have := HB.out.size; have := iter_lt HI.out; simp; omega) ?_; intro v2 w2 ho2 hg2 hat2))
        have IT2 := Lib.hid ((hg2.block w.heap.size (by have := iter_lt IS.out; simp at this ⊢; omega) (fun e => by have := (OS.out.lt _ e.symm).1; omega)).trans ((alloc_old _ _ _ (iter_lt IS.out)).trans IS.out))
        have B2 := Lib.hid (Below.then_grown (BS.out.alloc BS.out.size _) (Nat.le_refl _) hg2 (fun k hk => Nat.le_trans (Nat.le_succ _) (OS.out.lt k hk).1))
        have O2 := Lib.hid ho2
        clear hg2 hat2 ho2
        go_roundw
        case rel => exact ⟨k + 1, by omega, IT2.out, by rw [HOS.out, pcV_append]; exact O2.out, B2.out⟩
        case measure => rw [iter_pos IT2.out, HP.out, HX.out]; omega
    · have hnx := next_no hit hp
      have hkN : k = N := by
        have h1 : ¬ k < N := fun h => hp ((HLT.out k).1 h)
        omega
      subst hkN
      have O := Lib.hid ho
      have HB := Lib.hid hb
      have HI := Lib.hid hit
      have hend := HEND.out
      clear hit hb hpos ho
      obtain ⟨A, c, rfl, hc⟩ := own_slice O.out
      by_cases hk0 : k = 0
      · subst hk0
        go_wp2
        go_ret
        have hnil : pcs s 0 = [] := List.eq_nil_of_length_eq_zero HN.out
        exact ⟨_, rfl, by rw [hnil]; exact own_base_le O.out (Nat.le_succ _), HB.out⟩
      · have hj : 0 < k := by omega
        obtain ⟨g, rfl⟩ := own_some O.out hj
        obtain ⟨c1, c2, c3⟩ := pc_cells O.out (k := k - 1) (by omega)
        have HJ := Lib.hid (show k - 1 + 1 = k by omega)
        have HL := Lib.hid (HLAST.out (k - 1) (by omega))
        rw [HJ.out] at HL
        rw [HL.out] at c1 c2
        simp only [] at c1 c2
        have f2 := own_free O.out ((k - 1) * 3 + 1)
        have HSJ := Lib.hid (HNX.out (k - 1) (by omega))
        rw [HJ.out] at HSJ
        have HST := Lib.hid (HSET.out (k - 1) (by omega))
        rw [HJ.out] at HST
        have hle1 := st_le s (k - 1)
        have hsub : ((s.size : Int) - (st s (k - 1) : Int)) = (wid s (st s (k - 1)) : Int) := by rw [← hend, HSJ.out]; omega
        have HSUB := Lib.hid hsub
        have hgB := (O.out.lt g rfl).1
        have OS := Lib.hid (show (wr.setCell ⟨g, (k - 1) * 3 + 1, none⟩ (.int .i64 ((s.size : Int) - (st s (k - 1) : Int)))).ownsRow (w.heap.size + 1) 29 3 (.slice (some ⟨g, 0, none⟩) k c) k (pcV ((pcs s 0).take k)) from by rw [HSUB.out, ← HST.out]; exact (O.out.stored _ _).1)
        have BS := Lib.hid (HB.out.setCell (p := ⟨g, (k - 1) * 3 + 1, none⟩) (by simp; omega) (.int .i64 ((s.size : Int) - (st s (k - 1) : Int))))
        clear c3 hsub hend
        go_wp2
        go_ret
        refine ⟨_, rfl, ?_, BS.out⟩
        have := own_base_le OS.out (Nat.le_succ w.heap.size)
        rw [List.take_of_length_le (by rw [HN.out]; exact Nat.le_refl _)] at this
        exact this

/-- Is a piece a letter? -/
def okPc (c : Pc) : Bool := !(c.rune == 65533 && c.len == 1)
def rightL (l : List Pc) : Bool := l.all okPc

set_option maxRecDepth 100000 in
set_option maxHeartbeats 1000000 in
theorem letRight (w : World) (s : ByteArray) (hs : s.size ≤ 1000000) :
    Calls Try.prog 19 #[.string s] w fun e w' => e = .returned (.bool (rightL (pcs s 0))) ∧ Below w.heap.size w w' := by
  have hpl := pcs_len s 0
  go_enter Try.func19, Try.ntmps19
  go_wp2_with fail
  refine (letPieces w s hs).mono ?_
  rintro e w1 ⟨v, rfl, ho, hb⟩
  obtain ⟨A, c, rfl, hc⟩ := own_slice ho
  have O := Lib.hid ho
  have B := Lib.hid hb
  have HNP := Lib.hid (nth_pcs s)
  clear ho hb
  generalize hl : pcs s 0 = l at *
  have HTK := Lib.hid (fun k h => take_nth l k h)
  generalize hN : l.length = N at *
  have HN := Lib.hid hN
  have HLP := Lib.hid hl
  clear hN hl
  go_wp2
  go_loopw [4, 8] (fun _ i wr => ∃ k : Nat, k ≤ N ∧ i = .int .i64 k ∧ wr.ownsRow w.heap.size 29 3 (.slice A N c) N (pcV l) ∧ Below w.heap.size w wr ∧ Hid (rightL (l.take k) = true)) (fun _ i _ => N - (intOf i).toNat)
  case atStart => exact ⟨0, Nat.zero_le _, rfl, O.out, B.out, Lib.hid rfl⟩
  case round =>
    obtain ⟨k, hk, rfl, ho, hb, HR⟩ := hrel
    have O := Lib.hid ho
    have B := Lib.hid hb
    clear ho hb
    by_cases hlt : k < N
    · obtain ⟨g, rfl⟩ := own_some O.out (by omega)
      obtain ⟨c1, c2, c3⟩ := pc_cells O.out hlt
      have HT := Lib.hid (HTK.out k hlt)
      have HOK := Lib.hid (show okPc (nth l k) = !((nth l k).rune == 65533 && (nth l k).len == 1) from rfl)
      have HM := Lib.hid (show nth l k ∈ l from by rw [nth_get l k (by rw [HN.out]; exact hlt)]; exact List.getElem_mem _)
      generalize nth l k = pc at *
      obtain ⟨a, n, r⟩ := pc
      simp only [] at c1 c2 c3
      by_cases hr : r = 65533
      · have e1 : ((r : Int) == 65533) = true := by simp; omega
        by_cases hn : n = 1
        · have e2 : ((n : Int) == 1) = true := by simp; omega
          have hf : rightL l = false := by
            rw [rightL, ← Bool.not_eq_true, List.all_eq_true]
            intro h
            have h1 := h _ HM.out
            rw [HOK.out] at h1
            simp [hr, hn] at h1
          have HF := Lib.hid hf
          clear hf
          go_wp2
          go_ret
          exact ⟨ret_bool (by rw [HLP.out]; exact HF.out.symm), B.out.alloc B.out.size _⟩
        · have e2 : ((n : Int) == 1) = false := by simp; omega
          go_wp2
          go_roundw
          case rel => exact ⟨k + 1, by omega, by go_num, O.out.alloc _, B.out.alloc B.out.size _, Lib.hid (by rw [HT.out]; have h1 := HR.out; simp [rightL] at h1 ⊢; exact ⟨h1, by rw [HOK.out]; simp [hn]⟩)⟩
          case measure => simp [intOf]; omega
      · have e1 : ((r : Int) == 65533) = false := by simp; omega
        go_wp2
        go_roundw
        case rel => exact ⟨k + 1, by omega, by go_num, O.out.alloc _, B.out.alloc B.out.size _, Lib.hid (by rw [HT.out]; have h1 := HR.out; simp [rightL] at h1 ⊢; exact ⟨h1, by rw [HOK.out]; simp [hr]⟩)⟩
        case measure => simp [intOf]; omega
    · obtain rfl : k = N := by omega
      go_wp2
      go_ret
      have h1 := HR.out
      rw [List.take_of_length_le (by rw [HN.out]; exact Nat.le_refl _)] at h1
      exact ⟨ret_bool (by rw [HLP.out]; exact h1.symm), B.out⟩
end Go.Proofs.Ytcjonnfhnddapaa.Let
