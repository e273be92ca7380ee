import Derived.Test.YtcjonnfhnddapaaLetA
import Derived.Test.YtcjonnfhnddapaaLetQ
/- banyanref01: Pieces, Fit, Tail. -/
namespace Go.Proofs.Ytcjonnfhnddapaa.Let
open Go.RowKit LetP

def pcL (c : Pc) : List Value := [.int .i64 c.at_, .int .i64 c.len, .int .i64 c.rune]
def pcV (l : List Pc) : List Value := l.flatMap pcL
theorem pcV_len (l : List Pc) : (pcV l).length = l.length * 3 := by
  induction l with
  | nil => rfl
  | cons a l ih => simp [pcV, pcL] at ih ⊢; omega
theorem pcV_append (a b : List Pc) : pcV (a ++ b) = pcV a ++ pcV b := by simp [pcV]
theorem pcV_get (l : List Pc) (k : Nat) (h : k < l.length) : (pcV l)[k * 3]? = some (.int .i64 (nth l k).at_) ∧ (pcV l)[k * 3 + 1]? = some (.int .i64 (nth l k).len) ∧ (pcV l)[k * 3 + 2]? = some (.int .i64 (nth l k).rune) := by
  induction l generalizing k with
  | nil => simp at h
  | cons a l ih =>
    cases k with
    | zero => simp [pcV, pcL, nth]
    | succ k =>
      have := ih k (by simpa using h)
      have e : pcV (a :: l) = pcL a ++ pcV l := by simp [pcV]
      have e2 : nth (a :: l) (k + 1) = nth l k := by simp [nth]
      rw [e, e2, show (k + 1) * 3 = (pcL a).length + k * 3 by simp [pcL]; omega, Nat.add_assoc, Nat.add_assoc]
      rw [List.getElem?_append_right (by omega), List.getElem?_append_right (by omega), List.getElem?_append_right (by omega)]
      simpa [Nat.add_sub_cancel_left] using this
theorem pcV_one (l : List Pc) : ∀ u ∈ pcV l, u.oneCell' = true := by
  intro u hu
  simp only [pcV, List.mem_flatMap, pcL] at hu
  obtain ⟨c, _, hc⟩ := hu
  simp at hc
  rcases hc with rfl | rfl | rfl <;> rfl
/-- The cells of an own row of pieces. -/
theorem pc_cells {w : World} {base : Nat} {e : TypeId} {g n cap : Nat} {l : List Pc} (h : w.ownsRow base e 3 (.slice (some ⟨g, 0, none⟩) n cap) n (pcV l)) {k : Nat} (hk : k < n) :
    w.cell? ⟨g, k * 3, none⟩ = some (.int .i64 (nth l k).at_) ∧ w.cell? ⟨g, k * 3 + 1, none⟩ = some (.int .i64 (nth l k).len) ∧ w.cell? ⟨g, k * 3 + 2, none⟩ = some (.int .i64 (nth l k).rune) := by
  have hl : l.length = n := by have := h.1; rw [pcV_len] at this; omega
  obtain ⟨h1, h2, h3⟩ := pcV_get l k (by omega)
  have hc := h.cells (g := g) rfl
  have e1 := hc _ _ h1
  have e2 := hc _ _ h2
  have e3 := hc _ _ h3
  rw [addr_plain] at e1 e2 e3
  exact ⟨e1, e2, e3⟩

theorem infoR : (Try.prog.info? 30).map (fun i => (i.zero, i.size, i.bytes)) = some (some (.agg #[.int .i64 0, .int .i64 0, .int .i64 0]), 3, 24) := by kernel_rfl

set_option maxRecDepth 100000 in
set_option maxHeartbeats 800000 in
theorem refPieces (w : World) (s : ByteArray) (hs : s.size ≤ 1000000) :
    Calls Try.prog 16 #[.string s] w fun e w' => ∃ v, e = .returned v ∧ w'.ownsRow w.heap.size 30 3 v (pcs s 0).length (pcV (pcs s 0)) ∧ Below w.heap.size w w' := by
  have hpl := pcs_len s 0
  go_enter Try.func16, Try.ntmps16
  go_wp2
  go_loopw [3, 4, 5] (fun v i _ wr => ∃ (p : Nat) (ds : List Pc), p ≤ s.size ∧ i = .int .i64 p ∧ wr.ownsRow w.heap.size 30 3 v ds.length (pcV ds) ∧ Below w.heap.size w wr ∧ Hid (ds ++ pcs s p = pcs s 0) ∧ ds.length ≤ p) (fun _ i _ _ => s.size - (intOf i).toNat)
  case atStart => exact ⟨0, [], by omega, rfl, World.ownsRow_nil _ _ _ _, Below.refl _ _, Lib.hid rfl, by simp⟩
  case round =>
    obtain ⟨p, ds, hp, rfl, ho, hb, HS, hdl⟩ := hrel
    have O := Lib.hid ho
    have B := Lib.hid hb
    clear ho hb
    by_cases hlt : p < s.size
    · have hw := wid_pos s p
      have hf := wid_fits s p hlt
      have HP := Lib.hid (pcs_step s p hlt)
      have HC := Lib.hid (fun W => refNext W s p (by omega) hlt)
      have HV := Lib.hid (show pcV [(⟨p, wid s p, rune s p⟩ : Pc)] = [.int .i64 p, .int .i64 (wid s p), .int .i64 (rune s p)] from rfl)
      simp only [pcA] at HC
      generalize wid s p = wd at *
      generalize rune s p = rn at *
      go_wp2_with fail
      refine (HC.out _).mono ?_
      rintro e w1 ⟨rfl, hb1⟩
      have O1 := Lib.hid (own_below O.out hb1)
      have B1 := Lib.hid (Below.then_below B.out hb1)
      clear hb1 O
      go_wp2_with (first
        | (refine wpListAppend rfl (.tmp 13) (.tmp 15) 25 rfl w.heap.size 30 _ 3 24 Try.underlying25 infoR rfl (by omega) _ ds.length (pcV ds) rfl ((O1.out.alloc _).alloc _) (some ⟨w1.heap.size + 1, 0, none⟩) 1 1 (pcV [(⟨p, wd, rn⟩ : Pc)]) rfl rfl (Rv.newAt _ _ _ _ HV.out.symm _ (by simp)) (pcV_one _) (by simp only [maxLen]; omega) (by omega) (by have := B1.out.size; simp; omega) ?_; intro v2 w2 ho2 hg2 hat2
           have hbk2 := ((Bk.new w1 30 #[.int .i64 p, .int .i64 wd, .int .i64 rn]).alloc _).grown hg2 (fun e => by have := (O1.out.lt _ e.symm).2; omega)
           have hc2 := hbk2.cell 1
           have B2 := Lib.hid (Below.then_grown ((B1.out.alloc B1.out.size _).alloc (by have := B1.out.size; simp; omega) _) (Nat.le_refl _) hg2 (fun k hk => (O1.out.lt k hk).1))
           have O2 := Lib.hid ho2
           clear hbk2 hg2 hat2 ho2))
      go_roundw
      case rel =>
        refine ⟨p + wd, ds ++ [⟨p, wd, rn⟩], by omega, by go_num, ?_, B2.out, Lib.hid ?_, by simp; omega⟩
        · rw [pcV_append, List.length_append]; exact O2.out
        · rw [← HS.out, HP.out, List.append_assoc]; rfl
      case measure => simp [intOf]; omega
    · obtain rfl : p = s.size := by omega
      go_wp2
      go_ret
      have hd := HS.out
      rw [pcs_end s s.size (Nat.le_refl _), List.append_nil] at hd
      exact ⟨_, rfl, by rw [← hd]; exact O.out, B.out⟩

theorem drop_nth {α : Type} [Inhabited α] (l t : List α) (a : α) (k : Nat) (h : l.drop k = a :: t) : k < l.length ∧ nth l k = a ∧ l.drop (k + 1) = t := by
  have hk : k < l.length := by
    rcases Nat.lt_or_ge k l.length with h1 | h1
    · exact h1
    · rw [List.drop_of_length_le h1] at h; cases h
  rw [List.drop_eq_getElem_cons hk] at h
  injection h with h1 h2
  exact ⟨hk, by rw [nth_get l k hk, h1], h2⟩
theorem drop_nil {α : Type} (l : List α) (k : Nat) (h : l.drop k = []) : l.length ≤ k := by simpa using h

set_option maxRecDepth 100000 in
set_option maxHeartbeats 800000 in
theorem refFit (w : World) (s : ByteArray) (most : Int) (hs : s.size ≤ 1000000) (hm0 : -9223372036854775808 ≤ most) (hm1 : most ≤ 9223372036854775807) :
    Calls Try.prog 22 #[.string s, .int .i64 most] w fun e w' => e = .returned (.string (s.extract 0 (fitE s most))) ∧ Below w.heap.size w w' := by
  have hpl := pcs_len s 0
  go_enter Try.func22, Try.ntmps22
  go_wp2_with fail
  refine (refPieces w s hs).mono ?_
  rintro e w1 ⟨v, rfl, ho, hb⟩
  obtain ⟨A, c, rfl, hc⟩ := own_slice ho
  have O := Lib.hid ho
  have B := Lib.hid hb
  clear ho hb
  generalize hN : (pcs s 0).length = N at *
  have HN := Lib.hid hN
  clear hN
  go_wp2
  go_loop [6, 7] (fun n i => ∃ (k E : Nat), k ≤ N ∧ E ≤ s.size ∧ i = .int .i64 k ∧ n = .int .i64 E ∧ Hid ((pcs s 0).drop k = pcs s E) ∧ Hid (fitE s most = fitF s most.toNat E)) (fun _ i => N - (intOf i).toNat)
  case atStart => exact ⟨0, 0, by omega, by omega, rfl, rfl, Lib.hid rfl, Lib.hid rfl⟩
  case round =>
    obtain ⟨k, E, hk, hE, rfl, rfl, HS, HF⟩ := hrel
    by_cases hlt : k < N
    · obtain ⟨g, rfl⟩ := own_some O.out (by omega)
      obtain ⟨c1, c2, c3⟩ := pc_cells O.out hlt
      have hEs : E < s.size := by
        rcases Nat.lt_or_ge E s.size with h | h
        · exact h
        · have := drop_nil _ _ (HS.out.trans (pcs_end s E h))
          rw [HN.out] at this; omega
      have hd := drop_nth _ _ _ k (HS.out.trans (pcs_step s E hEs))
      have hw := wid_pos s E
      have hf := wid_fits s E hEs
      rw [hd.2.1] at c1 c2 c3
      have HD := Lib.hid hd.2.2
      have HG := Lib.hid (fitF_step s most.toNat E hEs)
      have HX := Lib.hid (fitF_stop s most.toNat E)
      simp only [] at c2
      clear hd c1 c3
      generalize wid s E = wd at *
      by_cases hfit : ((E : Int) + (wd : Int)) ≤ most
      · go_wp2
        go_round
        case rel => exact ⟨k + 1, E + wd, by omega, by omega, by go_num, by go_num, HD, Lib.hid (by rw [HF.out, HG.out (by omega)])⟩
        case measure => simp [intOf]; omega
      · go_wp2
        go_ret
        exact ⟨ret_str (by rw [HF.out, HX.out (by omega)]), B.out⟩
    · obtain rfl : k = N := by omega
      go_wp2
      go_ret
      have hE2 : s.size ≤ E := by
        rcases Nat.lt_or_ge E s.size with h | h
        · have := (drop_nth _ _ _ k (HS.out.trans (pcs_step s E h))).1
          rw [HN.out] at this; omega
        · exact h
      exact ⟨ret_str (by rw [HF.out, fitF_stop s _ E (by omega)]), B.out⟩

theorem nth_pcs (s : ByteArray) (k : Nat) (h : k < (pcs s 0).length) : nth (pcs s 0) k = ⟨st s k, wid s (st s k), rune s (st s k)⟩ := by
  have h1 := (st_lt s k).1 h
  exact (drop_nth _ _ _ k ((st_drop s k).trans (pcs_step s _ h1))).2.1
theorem st_next (s : ByteArray) (k : Nat) (h : k < (pcs s 0).length) : st s (k + 1) = st s k + wid s (st s k) := by
  rw [st, if_pos ((st_lt s k).1 h)]

set_option maxRecDepth 100000 in
set_option maxHeartbeats 800000 in
theorem refTailText (w : World) (s : ByteArray) (most : Int) (hs : s.size ≤ 1000000) (hm0 : -9223372036854775808 ≤ most) (hm1 : most ≤ 9223372036854775807) :
    Calls Try.prog 24 #[.string s, .int .i64 most] w fun e w' => e = .returned (.string (s.extract (tailE s most) s.size)) ∧ Below w.heap.size w w' := by
  have hpl := pcs_len s 0
  go_enter Try.func24, Try.ntmps24
  go_wp2_with fail
  refine (refPieces w s hs).mono ?_
  rintro e w1 ⟨v, rfl, ho, hb⟩
  obtain ⟨A, c, rfl, hc⟩ := own_slice ho
  have O := Lib.hid ho
  have B := Lib.hid hb
  have hend := st_end s
  have HNP := Lib.hid (nth_pcs s)
  have HNX := Lib.hid (st_next s)
  clear ho hb
  generalize hN : (pcs s 0).length = N at *
  have HEND := Lib.hid hend
  clear hN hend
  go_wp2
  go_loop [6, 7] (fun n i => ∃ (k : Nat), k ≤ N ∧ i = .int .i64 ((k : Int) - 1) ∧ n = .int .i64 ((s.size - st s k : Nat) : Int) ∧ Hid (st s k = s.size ∨ s.size - st s k ≤ most.toNat)) (fun _ i => ((intOf i) + 1).toNat)
  case atStart => exact ⟨N, by omega, rfl, by rw [HEND.out]; simp, Lib.hid (.inl HEND.out)⟩
  case round =>
    obtain ⟨k, hk, rfl, rfl, HS⟩ := hrel
    have hle := st_le s k
    by_cases hpos : 0 < k
    · obtain ⟨j, rfl⟩ : ∃ j, k = j + 1 := ⟨k - 1, by omega⟩
      obtain ⟨g, rfl⟩ := own_some O.out (by omega)
      obtain ⟨c1, c2, c3⟩ := pc_cells O.out (k := j) (by omega)
      rw [HNP.out j (by omega)] at c2
      simp only [] at c2
      have HX := Lib.hid (HNX.out j (by omega))
      have hlej := st_le s (j + 1)
      have hj1 : (0 : Int) ≤ (j : Int) := by omega
      have ej : ((j + 1 : Nat) : Int) - 1 = (j : Int) := by omega
      rw [ej]
      clear ej c1 c3
      have hw := wid_pos s (st s j)
      rw [HX.out] at HS hlej hle
      have HX2 := Lib.hid (show s.size - st s (j + 1) = s.size - (st s j + wid s (st s j)) from by rw [HX.out])
      rw [HX2.out]
      have HT := Lib.hid (fun h1 h2 => tail_at s most.toNat (j + 1) h1 h2)
      rw [HX.out] at HT
      generalize hst : st s j = E at *
      have HST := Lib.hid hst
      clear hst
      generalize wid s E = wd at *
      by_cases hfit : (((s.size - (E + wd) : Nat) : Int) + (wd : Int)) ≤ most
      · go_wp2
        go_round
        case rel =>
          refine ⟨j, by omega, rfl, ?_, Lib.hid ?_⟩
          · rw [HST.out]; exact congrArg _ (by omega)
          · rw [HST.out]; omega
        case measure => simp [intOf]
      · have ht : tailE s most = E + wd := HT.out HS.out (fun i hi => by
          have e : i = j := by omega
          rw [e, HST.out]; omega)
        go_wp2
        go_ret
        exact ⟨ret_str (by rw [show s.size - (s.size - (E + wd)) = E + wd by omega]), B.out⟩
    · obtain rfl : k = 0 := by omega
      go_wp2
      go_ret
      refine ⟨ret_str ?_, B.out⟩
      have ht : tailE s most = 0 := tail_at s most.toNat 0 HS.out (fun j h => by omega)
      rw [ht]; simp [st]
end Go.Proofs.Ytcjonnfhnddapaa.Let
