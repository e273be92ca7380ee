import Derived.Test.YtcjonnfhnddapaaNamH
import Derived.Laws.IdiomStrings
/- Clean, both. -/
namespace Go.Proofs.Ytcjonnfhnddapaa.Nam
open Go.RowKit NumP Num NamP

/-- A block whose first cells are the bytes of a list; they may be written. -/
def Tx (w : World) (g : Nat) (l : List UInt8) : Prop := ∃ (cs : Array Value) (e : TypeId) (m : Nat), w.heap[g]? = some (.cells cs e (m, m + 1)) ∧ l.length ≤ m ∧ m = cs.size ∧ ∀ j, j < l.length → cs[j]? = some (.int .u8 (bt l j : Int))
theorem Tx.lt {w : World} {g : Nat} {l : List UInt8} (h : Tx w g l) : g < w.heap.size := by
  obtain ⟨cs, e, m, h1, _⟩ := h
  exact (Array.getElem?_eq_some_iff.1 h1).1
theorem Tx.cell {w : World} {g : Nat} {l : List UInt8} (h : Tx w g l) {j : Nat} (hj : j < l.length) : w.cell? ⟨g, j, none⟩ = some (.int .u8 (bt l j : Int)) := by
  obtain ⟨cs, e, m, h1, h2, h3, h4⟩ := h
  rw [cell_of_row w g j cs e _ h1, h4 j hj]
theorem Tx.free {w : World} {g : Nat} {l : List UInt8} (h : Tx w g l) {j : Nat} (hj : j < l.length) : w.frozen? ⟨g, j, none⟩ = false := by
  obtain ⟨cs, e, m, h1, h2, h3, h4⟩ := h
  simp [World.frozen?, h1]
  omega
theorem Tx.set {w : World} {g : Nat} {l : List UInt8} (h : Tx w g l) {j : Nat} (y : UInt8) : Tx (w.setCell ⟨g, j, none⟩ (.int .u8 (y.toNat : Int))) g (l.set j y) := by
  obtain ⟨cs, e, m, h1, h2, h3, h4⟩ := h
  refine ⟨cs.setIfInBounds j (.int .u8 (y.toNat : Int)), e, m, ?_, by simpa using h2, by simpa using h3, fun i hi => ?_⟩
  · simp [World.setCell, Array.getElem?_modify, h1]
  · rw [List.length_set] at hi
    rw [Array.getElem?_setIfInBounds]
    by_cases hji : j = i
    · subst hji
      rw [if_pos rfl, if_pos (by omega)]
      simp [bt, List.getD_eq_getElem?_getD, hi]
    · rw [if_neg hji, h4 i hi]
      simp [bt, List.getD_eq_getElem?_getD, hji]
theorem Tx.rb {w : World} {g : Nat} {l : List UInt8} (h : Tx w g l) (hm : l.length ≤ 9223372036854775807) : Rb w (some ⟨g, 0, none⟩) l.length l :=
  ⟨rfl, hm, fun _ => ⟨_, rfl, h.lt, fun j hj => by rw [addr_plain]; exact h.cell hj⟩⟩
theorem bytes_of (w : World) (l : List UInt8) : ∃ W1 c, (convert 9 61 (.string (mk l))).run Try.prog w = .ok (.slice (some ⟨w.heap.size, 0, none⟩) (mk l).size c) W1 ∧ Tx W1 w.heap.size l ∧ Below w.heap.size w W1 := by
  refine ⟨_, _, run_bytes_of_string (P := Try.prog) w 9 61 5 (mk l) Try.underlying9 Try.underlying61 Try.underlying5, ?_, ?_⟩
  · refine ⟨_, _, _, heap_alloc_new w.drew _, ?_, rfl, fun j hj => ?_⟩
    · simp [bytesRow, mk]
    · simp [bytesRow, mk, Array.getElem?_append, hj, bt_get l j hj]
  · exact (Below.refl w.heap.size w).drew.alloc (Nat.le_refl _) _
def mix (l : List UInt8) (k : Nat) : List UInt8 := (l.take k).map cl ++ l.drop k
theorem mix_length (l : List UInt8) (k : Nat) : (mix l k).length = l.length := by simp [mix]; omega
theorem mix_bt (l : List UInt8) (k : Nat) (h : k < l.length) : bt (mix l k) k = bt l k := by
  have hk : ((l.take k).map cl).length = k := by rw [List.length_map, List.length_take]; omega
  have := bt_right ((l.take k).map cl) (l.drop k) 0
  rw [hk, Nat.add_zero] at this
  rw [mix, this, bt_drop, Nat.add_zero]
theorem mix_succ (l : List UInt8) (k : Nat) (h : k < l.length) : mix l (k + 1) = (mix l k).set k (cl (nth l k)) := by
  have hk : ((l.take k).map cl).length = k := by rw [List.length_map, List.length_take]; omega
  rw [mix, mix, take_nth l k h, List.map_append, List.set_append_right _ _ (by omega), hk, Nat.sub_self]
  rw [List.drop_eq_getElem_cons h]
  simp only [List.set_cons_zero, List.append_assoc, List.map_cons, List.map_nil, List.singleton_append]
theorem mix_same (l : List UInt8) (k : Nat) (h : k < l.length) (hc : cl (nth l k) = nth l k) : mix l (k + 1) = mix l k := by
  rw [mix_succ l k h, hc]
  have h1 : k < (mix l k).length := by rw [mix_length]; exact h
  have h2 : nth l k = (mix l k)[k] := by
    apply UInt8.toNat_inj.1
    rw [nth_get l k h, ← bt_get l k h, ← mix_bt l k h, bt_get _ k h1]
  rw [h2, List.set_getElem_self]
theorem mix_all (l : List UInt8) : mix l l.length = l.map cl := by simp [mix]
theorem cl_bad {c : UInt8} (h : c.toNat = 47 ∨ c.toNat = 0) : cl c = 95 := by
  rw [cl, if_pos]
  rcases h with h | h
  · exact .inl (UInt8.toNat_inj.1 h)
  · exact .inr (UInt8.toNat_inj.1 h)
theorem cl_ok {c : UInt8} (h1 : c.toNat ≠ 47) (h2 : c.toNat ≠ 0) : cl c = c := by
  rw [cl, if_neg]
  rintro (rfl | rfl)
  · exact h1 rfl
  · exact h2 rfl
/-- The text that was made clean byte by byte: what follows. -/
theorem under_cases (m : List UInt8) : (m = [] ∧ under m = 95 :: m) ∨ (m ≠ [] ∧ m = [46] ∧ under m = 95 :: m) ∨ (m ≠ [] ∧ m ≠ [46] ∧ m = [46, 46] ∧ under m = 95 :: m) ∨ (m ≠ [] ∧ m ≠ [46] ∧ m ≠ [46, 46] ∧ under m = m) := by
  by_cases h1 : m = []
  · exact .inl ⟨h1, by rw [under, if_pos (.inl h1)]⟩
  by_cases h2 : m = [46]
  · exact .inr (.inl ⟨h1, h2, by rw [under, if_pos (.inr (.inl h2))]⟩)
  by_cases h3 : m = [46, 46]
  · exact .inr (.inr (.inl ⟨h1, h2, h3, by rw [under, if_pos (.inr (.inr h3))]⟩))
  · exact .inr (.inr (.inr ⟨h1, h2, h3, by rw [under, if_neg]; rintro (h | h | h) <;> contradiction⟩))
theorem under_le (m : List UInt8) : (under m).length ≤ m.length + 1 := by unfold under; split <;> simp
set_option maxRecDepth 100000 in
set_option maxHeartbeats 4000000 in
theorem cleanW (w : World) (l : List UInt8) (hl : l.length ≤ 900000) :
    Calls Try.prog 48 #[.string (mk l)] w fun e w' => e = .returned (.string (mk (clean l))) ∧ Below w.heap.size w w' := by
  have hsz := mk_size l
  obtain ⟨W1, c1, hcv, hTx, hb1⟩ := bytes_of w l
  obtain ⟨s, HSS⟩ : ∃ s, Hid (mk l = s) := ⟨_, Lib.hid rfl⟩
  rw [HSS.out] at hsz hcv ⊢
  rw [← hsz] at hl
  have HSZ := Lib.hid hsz
  have T1 := Lib.hid hTx
  have B1 := Lib.hid hb1
  clear hsz hTx hb1
  have HCE := Lib.hid (clean_eq l)
  go_enter Try.func48, Try.ntmps48
  go_wp2
  go_loopw [11] (fun i wr => ∃ (k : Nat), k ≤ s.size ∧ i = .int .i64 k ∧ Tx wr w.heap.size (mix l k) ∧ Below w.heap.size w wr) (fun i _ => s.size - (intOf i).toNat)
  case atStart => exact ⟨0, by omega, rfl, by simpa [mix] using T1.out, B1.out⟩
  case round =>
    obtain ⟨k, hk, rfl, ht, hb⟩ := hrel
    have B := Lib.hid hb
    have T := Lib.hid ht
    clear hb ht
    by_cases hp : k < s.size
    · have hq : (k : Int) < (s.size : Int) := by omega
      have hkl : k < l.length := by rw [← HSZ.out]; exact hp
      have HML := mix_length l k
      have hcell := T.out.cell (j := k) (by omega)
      have hfree := T.out.free (j := k) (by omega)
      have hbn : bt l k = (nth l k).toNat := by rw [nth_get l k hkl, bt_get l k hkl]
      rw [mix_bt l k hkl, hbn] at hcell
      have HS := Lib.hid (mix_succ l k hkl)
      have HM := Lib.hid (mix_same l k hkl)
      clear HML hbn
      generalize nth l k = c at *
      by_cases h47 : c.toNat = 47 ∨ c.toNat = 0
      · have hTS := Lib.hid (T.out.set (j := k) 95)
        have HS' : Hid (mix l (k + 1) = (mix l k).set k 95) := Lib.hid (by rw [HS.out, cl_bad h47])
        have hTS' : Hid (Tx (wr.setCell ⟨w.heap.size, k, none⟩ (.int .u8 95)) w.heap.size (mix l (k + 1))) := Lib.hid (by rw [HS'.out]; exact hTS.out)
        clear hTS
        rcases h47 with h | h
        · rw [h] at hcell
          go_wp2
          go_roundw
          case rel => exact ⟨k + 1, by omega, by go_num, hTS'.out, B.out.setCell (p := ⟨w.heap.size, k, none⟩) (Nat.le_refl _) _⟩
          case measure => simp [intOf]; omega
        · rw [h] at hcell
          go_wp2
          go_roundw
          case rel => exact ⟨k + 1, by omega, by go_num, hTS'.out, B.out.setCell (p := ⟨w.heap.size, k, none⟩) (Nat.le_refl _) _⟩
          case measure => simp [intOf]; omega
      · have HM' := Lib.hid (HM.out (cl_ok (by omega) (by omega)))
        generalize c.toNat = d at *
        have e1 : ((d : Int) == 47) = false := by simp; omega
        have e2 : ((d : Int) == 0) = false := by simp; omega
        go_wp2
        go_roundw
        case rel => exact ⟨k + 1, by omega, by go_num, by rw [HM'.out]; exact T.out, B.out⟩
        case measure => simp [intOf]; omega
    · obtain rfl : k = s.size := by omega
      have hmx : mix l s.size = l.map cl := by rw [HSZ.out]; exact mix_all l
      have ht := T.out
      rw [hmx] at ht
      clear T hmx
      have hml : (l.map cl).length = s.size := by rw [List.length_map, HSZ.out]
      generalize l.map cl = m at *
      have hcm := run_bytesString (P := Try.prog) (dst := 9) Try.underlying61 Try.underlying5 Try.underlying9 (ht.rb (by omega)) c1
      rw [hml] at hcm
      have hmm : ByteArray.mk m.toArray = mk m := rfl
      rw [hmm] at hcm
      clear hmm ht
      have hml2 := mk_list m
      have hmz := mk_size m
      have hul := under_len m
      have HF := Lib.hid (fun W => fitP W (under m) (by have := under_le m; omega) 255 255 rfl (by omega))
      have hap : mk [95] ++ mk m = mk (95 :: m) := mk_append [95] m
      have hrl := mk_list (fit (under m) 255)
      have hrn : fit (under m) 255 ≠ [] := List.length_pos_iff.1 (fit_pos _ 255 hul (by omega))
      have hre := tl_ne hrl hrn
      rw [← HCE.out] at hre HF
      clear hrl hrn hul HCE
      rcases under_cases m with ⟨h1, hu⟩ | ⟨h1, h2, hu⟩ | ⟨h1, h2, h3, hu⟩ | ⟨h1, h2, h3, hu⟩
      · have e1 := tl_eq hml2 h1
        rw [hu] at HF
        clear h1 hu
        generalize mk (95 :: m) = v at *
        generalize mk m = t at *
        generalize hr : mk (clean l) = r at *
        have HRR := Lib.hid hr
        clear hr
        have hap' : ByteArray.mk #[95] ++ t = v := hap
        have hs5 : ¬ (9223372036854775807 < (ByteArray.mk #[95]).size + t.size) := by have : (ByteArray.mk #[95]).size = 1 := rfl; omega
        clear hml2 hmz hml hap
        go_wp2_with fail
        refine (HF.out _).mono ?_
        rintro e w2 ⟨rfl, hb2⟩
        go_wp2
        go_ret
        exact ⟨by rw [HRR.out]; rfl, Below.then_below B.out hb2⟩
      · have e1 := tl_ne hml2 h1
        have e2 := tl_eq hml2 h2
        rw [hu] at HF
        clear h1 h2 hu
        generalize mk (95 :: m) = v at *
        generalize mk m = t at *
        generalize hr : mk (clean l) = r at *
        have HRR := Lib.hid hr
        clear hr
        have hap' : ByteArray.mk #[95] ++ t = v := hap
        have hs5 : ¬ (9223372036854775807 < (ByteArray.mk #[95]).size + t.size) := by have : (ByteArray.mk #[95]).size = 1 := rfl; omega
        clear hml2 hmz hml hap
        go_wp2_with fail
        refine (HF.out _).mono ?_
        rintro e w2 ⟨rfl, hb2⟩
        go_wp2
        go_ret
        exact ⟨by rw [HRR.out]; rfl, Below.then_below B.out hb2⟩
      · have e1 := tl_ne hml2 h1
        have e2 := tl_ne hml2 h2
        have e3 := tl_eq hml2 h3
        rw [hu] at HF
        clear h1 h2 h3 hu
        generalize mk (95 :: m) = v at *
        generalize mk m = t at *
        generalize hr : mk (clean l) = r at *
        have HRR := Lib.hid hr
        clear hr
        have hap' : ByteArray.mk #[95] ++ t = v := hap
        have hs5 : ¬ (9223372036854775807 < (ByteArray.mk #[95]).size + t.size) := by have : (ByteArray.mk #[95]).size = 1 := rfl; omega
        clear hml2 hmz hml hap
        go_wp2_with fail
        refine (HF.out _).mono ?_
        rintro e w2 ⟨rfl, hb2⟩
        go_wp2
        go_ret
        exact ⟨by rw [HRR.out]; rfl, Below.then_below B.out hb2⟩
      · have e1 := tl_ne hml2 h1
        have e2 := tl_ne hml2 h2
        have e3 := tl_ne hml2 h3
        rw [hu] at HF
        clear h1 h2 h3 hu hap hml2 hmz hml
        generalize mk m = t at *
        generalize hr : mk (clean l) = r at *
        have HRR := Lib.hid hr
        clear hr
        go_wp2_with fail
        refine (HF.out _).mono ?_
        rintro e w2 ⟨rfl, hb2⟩
        go_wp2
        go_ret
        exact ⟨by rw [HRR.out]; rfl, Below.then_below B.out hb2⟩
set_option maxRecDepth 100000 in
set_option maxHeartbeats 4000000 in
theorem refClean (w : World) (l : List UInt8) (hl : l.length ≤ 900000) :
    Calls Try.prog 49 #[.string (mk l)] w fun e w' => e = .returned (.string (mk (clean l))) ∧ Below w.heap.size w w' := by
  have hsz := mk_size l
  have hat := at_mk l
  obtain ⟨s, HSS⟩ : ∃ s, Hid (mk l = s) := ⟨_, Lib.hid rfl⟩
  rw [HSS.out] at hsz hat ⊢
  rw [← hsz] at hl
  have HSZ := Lib.hid hsz
  have HAT := Lib.hid hat
  clear hsz hat
  have HCE := Lib.hid (clean_eq l)
  go_enter Try.func49, Try.ntmps49
  go_wp2
  go_loopw [3, 4] (fun v i wr => ∃ (k : Nat), k ≤ s.size ∧ i = .int .i64 k ∧ wr.ownsRow w.heap.size 5 1 v k (bytesV ((l.take k).map cl)) ∧ Below w.heap.size w wr) (fun _ i _ => s.size - (intOf i).toNat)
  case atStart => exact ⟨0, by omega, rfl, by simpa [bytesV] using World.ownsRow_nil _ _ _ _, Below.refl _ _⟩
  case round =>
    obtain ⟨k, hk, rfl, ho, hb⟩ := hrel
    have B := Lib.hid hb
    have O := Lib.hid ho
    clear hb ho
    by_cases hp : k < s.size
    · have hq : (k : Int) < (s.size : Int) := by omega
      have hkl : k < l.length := by rw [← HSZ.out]; exact hp
      have hck := HAT.out k hp
      have hbn : bt l k = (nth l k).toNat := by rw [nth_get l k hkl, bt_get l k hkl]
      rw [hbn] at hck
      have HT : Hid ((l.take (k + 1)).map cl = (l.take k).map cl ++ [cl (nth l k)]) := Lib.hid (by rw [take_nth l k hkl, List.map_append]; rfl)
      generalize (l.take k).map cl = q at *
      clear hbn
      generalize nth l k = c at *
      by_cases h47 : c.toNat = 47 ∨ c.toNat = 0
      · rw [cl_bad h47] at HT
        rcases h47 with h | h
        · rw [h] at hck
          go_wp2_with (refine appendBytes rfl (.tmp 22) (.tmp 23) 61 rfl 5 Try.underlying61 u8info w.heap.size u3 _ q rfl (O.out.alloc _) _ 1 1 [95] rfl (Rb.new _ _ _ [95] (by simp) (by simp [bytesV]) 1 rfl) (by omega) (by have := B.out.size; simp; omega) ?_; intro v2 w2 ho2 hg2 hat2)
          go_roundw
          case rel => exact ⟨k + 1, by omega, by go_num, by rw [HT.out]; exact ho2, grow_below B.out O.out _ hg2⟩
          case measure => simp [intOf]; omega
        · rw [h] at hck
          go_wp2_with (refine appendBytes rfl (.tmp 22) (.tmp 23) 61 rfl 5 Try.underlying61 u8info w.heap.size u3 _ q rfl (O.out.alloc _) _ 1 1 [95] rfl (Rb.new _ _ _ [95] (by simp) (by simp [bytesV]) 1 rfl) (by omega) (by have := B.out.size; simp; omega) ?_; intro v2 w2 ho2 hg2 hat2)
          go_roundw
          case rel => exact ⟨k + 1, by omega, by go_num, by rw [HT.out]; exact ho2, grow_below B.out O.out _ hg2⟩
          case measure => simp [intOf]; omega
      · rw [cl_ok (by omega) (by omega)] at HT
        have e1 : ((c.toNat : Int) == 47) = false := by simp; omega
        have e2 : ((c.toNat : Int) == 0) = false := by simp; omega
        go_wp2_with (refine appendBytes rfl (.tmp 25) (.tmp 29) 61 rfl 5 Try.underlying61 u8info w.heap.size u3 _ q rfl (O.out.alloc _) _ 1 1 [c] rfl (Rb.new _ _ _ [c] (by simp) (by simp [bytesV]) 1 rfl) (by omega) (by have := B.out.size; simp; omega) ?_; intro v2 w2 ho2 hg2 hat2)
        go_roundw
        case rel => exact ⟨k + 1, by omega, by go_num, by rw [HT.out]; exact ho2, grow_below B.out O.out _ hg2⟩
        case measure => simp [intOf]; omega
    · obtain rfl : k = s.size := by omega
      have hml : (l.map cl).length = s.size := by rw [List.length_map, HSZ.out]
      have HO : Hid (wr.ownsRow w.heap.size 5 1 u3 (l.map cl).length (bytesV (l.map cl))) := Lib.hid (by
        have := O.out
        rwa [HSZ.out, List.take_length, ← List.length_map (f := cl)] at this)
      clear O
      generalize l.map cl = m at *
      obtain ⟨A, n, c, rfl, hcm⟩ := end_text HO.out
      have hml2 := mk_list m
      have hmz := mk_size m
      have hul := under_len m
      have HF := Lib.hid (fun W => fitR W (under m) (by have := under_le m; omega) 255 255 rfl (by omega))
      have hap : mk [95] ++ mk m = mk (95 :: m) := mk_append [95] m
      have hrl := mk_list (fit (under m) 255)
      have hrn : fit (under m) 255 ≠ [] := List.length_pos_iff.1 (fit_pos _ 255 hul (by omega))
      have hre := tl_ne hrl hrn
      rw [← HCE.out] at hre HF
      clear hrl hrn hul HCE
      rcases under_cases m with ⟨h1, hu⟩ | ⟨h1, h2, hu⟩ | ⟨h1, h2, h3, hu⟩ | ⟨h1, h2, h3, hu⟩
      · have e1 := tl_eq hml2 h1
        rw [hu] at HF
        clear h1 hu
        generalize mk (95 :: m) = v at *
        generalize mk m = t at *
        generalize hr : mk (clean l) = r at *
        have HRR := Lib.hid hr
        clear hr
        have hap' : ByteArray.mk #[95] ++ t = v := hap
        have hs5 : ¬ (9223372036854775807 < (ByteArray.mk #[95]).size + t.size) := by have : (ByteArray.mk #[95]).size = 1 := rfl; omega
        clear hml2 hmz hml hap
        go_wp2_with fail
        refine (HF.out _).mono ?_
        rintro e w2 ⟨rfl, hb2⟩
        go_wp2
        go_ret
        exact ⟨by rw [HRR.out]; rfl, Below.then_below B.out hb2⟩
      · have e1 := tl_ne hml2 h1
        have e2 := tl_eq hml2 h2
        rw [hu] at HF
        clear h1 h2 hu
        generalize mk (95 :: m) = v at *
        generalize mk m = t at *
        generalize hr : mk (clean l) = r at *
        have HRR := Lib.hid hr
        clear hr
        have hap' : ByteArray.mk #[95] ++ t = v := hap
        have hs5 : ¬ (9223372036854775807 < (ByteArray.mk #[95]).size + t.size) := by have : (ByteArray.mk #[95]).size = 1 := rfl; omega
        clear hml2 hmz hml hap
        go_wp2_with fail
        refine (HF.out _).mono ?_
        rintro e w2 ⟨rfl, hb2⟩
        go_wp2
        go_ret
        exact ⟨by rw [HRR.out]; rfl, Below.then_below B.out hb2⟩
      · have e1 := tl_ne hml2 h1
        have e2 := tl_ne hml2 h2
        have e3 := tl_eq hml2 h3
        rw [hu] at HF
        clear h1 h2 h3 hu
        generalize mk (95 :: m) = v at *
        generalize mk m = t at *
        generalize hr : mk (clean l) = r at *
        have HRR := Lib.hid hr
        clear hr
        have hap' : ByteArray.mk #[95] ++ t = v := hap
        have hs5 : ¬ (9223372036854775807 < (ByteArray.mk #[95]).size + t.size) := by have : (ByteArray.mk #[95]).size = 1 := rfl; omega
        clear hml2 hmz hml hap
        go_wp2_with fail
        refine (HF.out _).mono ?_
        rintro e w2 ⟨rfl, hb2⟩
        go_wp2
        go_ret
        exact ⟨by rw [HRR.out]; rfl, Below.then_below B.out hb2⟩
      · have e1 := tl_ne hml2 h1
        have e2 := tl_ne hml2 h2
        have e3 := tl_ne hml2 h3
        rw [hu] at HF
        clear h1 h2 h3 hu hap hml2 hmz hml
        generalize mk m = t at *
        generalize hr : mk (clean l) = r at *
        have HRR := Lib.hid hr
        clear hr
        go_wp2_with fail
        refine (HF.out _).mono ?_
        rintro e w2 ⟨rfl, hb2⟩
        go_wp2
        go_ret
        exact ⟨by rw [HRR.out]; rfl, Below.then_below B.out hb2⟩
end Go.Proofs.Ytcjonnfhnddapaa.Nam
