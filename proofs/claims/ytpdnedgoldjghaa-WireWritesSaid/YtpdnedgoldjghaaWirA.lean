import Derived.Test.YtpdnedgoldjghaaProg
import Derived.WalkKit
import Derived.LoopTactic
import Derived.Outline
import Derived.Lib.MinMax
import Derived.Laws.BitsLemmas
import Derived.Lib.AppendStr
import Derived.Test.YtpdnedgoldjghaaBytes
import Derived.Test.YtpdnedgoldjghaaWirP
/- The writer. -/
namespace Go.Proofs.Ytpdnedgoldjghaa.Wir
open Go.RowKit WirP

theorem u8info : (Try.prog.info? 5).map (fun i => (i.zero, i.size, i.bytes)) = some (some (.int .u8 0), 1, 1) := by kernel_rfl
/-- w' is w but in block p and in row r, and new blocks. -/
structure Fr (w w' : World) (p : Nat) (r : Option Nat) : Prop where
  os : w'.os = w.os
  tape : w'.tape = w.tape
  output : w'.output = w.output
  size : w.heap.size ≤ w'.heap.size
  block : ∀ i, i < w.heap.size → i ≠ p → some i ≠ r → w'.heap[i]? = w.heap[i]?
theorem Fr.refl (w : World) (p : Nat) (r : Option Nat) : Fr w w p r := ⟨rfl, rfl, rfl, Nat.le_refl _, fun _ _ _ _ => rfl⟩
theorem Fr.row {w w' : World} {r : Option Nat} (h : w.grownBy w' r) (p : Nat) : Fr w w' p r := ⟨h.os, h.tape, h.output, h.size, fun i hi _ hr => h.block i hi hr⟩
theorem Fr.cell {w w' : World} {p : Nat} (h : w.grownBy w' (some p)) (r : Option Nat) : Fr w w' p r := ⟨h.os, h.tape, h.output, h.size, fun i hi hp _ => h.block i hi (fun e => by injection e with e; exact hp e)⟩
/-- Two, one behind the other; the row may have turned to a new one. -/
theorem Fr.trans {w w1 w2 : World} {p : Nat} {r r1 : Option Nat} (h : Fr w w1 p r) (h1 : Fr w1 w2 p r1) (hr : r1 = r ∨ ∀ k, r1 = some k → w.heap.size ≤ k) : Fr w w2 p r := by
  refine ⟨h1.os.trans h.os, h1.tape.trans h.tape, h1.output.trans h.output, Nat.le_trans h.size h1.size, fun i hi hp hri => ?_⟩
  rw [h1.block i (Nat.lt_of_lt_of_le hi h.size) hp ?_]
  · exact h.block i hi hp hri
  · rcases hr with rfl | hr
    · exact hri
    · intro e
      have := hr i e.symm
      omega
theorem Fr.below {w w' : World} {p B : Nat} {r : Option Nat} (h : Fr w w' p r) (hB : B ≤ w.heap.size) (hp : B ≤ p) (hr : ∀ k, r = some k → B ≤ k) {w0 : World} (h0 : Below B w0 w) : Below B w0 w' :=
  ⟨h.os.trans h0.os, h.tape.trans h0.tape, h.output.trans h0.output, Nat.le_trans h0.size h.size, fun i hi => by
    rw [h.block i (Nat.lt_of_lt_of_le hi hB) (by omega) (fun e => by have := hr i e.symm; omega)]
    exact h0.block i hi⟩
/-- A writer at block p that has written l. -/
def Wr (w : World) (B p : Nat) (v : Value) (l : List UInt8) : Prop := Bk w p 54 #[v] ∧ w.ownsRow B 5 1 v l.length (bytesV l) ∧ v.ownBlock ≠ some p ∧ B ≤ p
def Turned (w : World) (v v' : Value) : Prop := v'.ownBlock = v.ownBlock ∨ ∀ k, v'.ownBlock = some k → w.heap.size ≤ k
def Put (w w' : World) (B p : Nat) (v : Value) (l x : List UInt8) : Prop := ∃ v', Wr w' B p v' (l ++ x) ∧ Fr w w' p v.ownBlock ∧ Turned w v v'
theorem Wr.bk {w : World} {B p : Nat} {v : Value} {l : List UInt8} (h : Wr w B p v l) : Bk w p 54 #[v] := h.1
theorem Wr.own {w : World} {B p : Nat} {v : Value} {l : List UInt8} (h : Wr w B p v l) : w.ownsRow B 5 1 v l.length (bytesV l) := h.2.1
theorem own_bound {w : World} {B g : Nat} {e : TypeId} {v : Value} {n : Nat} {xs : List Value} (h : w.ownsRow B e 1 v n xs) (hg : v.ownBlock = some g) : g < w.heap.size := (h.lt g hg).2
/-- A row was added to, then the writer's cell was turned to it. -/
theorem Wr.step {w w1 w2 : World} {B p : Nat} {v v' : Value} {l x : List UInt8} (h : Wr w B p v l) (hw1 : w.heap.size ≤ w1.heap.size) (hb1 : ∀ i, i < w.heap.size → w1.heap[i]? = w.heap[i]?) (ho : w2.ownsRow B 5 1 v' (l.length + x.length) (bytesV (l ++ x))) (hg : w1.grownBy w2 v.ownBlock)
    (hat : v'.ownBlock = v.ownBlock ∨ v'.ownBlock = some w1.heap.size) (hos : w1.os = w.os ∧ w1.tape = w.tape ∧ w1.output = w.output) : Put w (w2.setCell ⟨p, 0, none⟩ v') B p v l x := by
  have hpl := h.bk.lt
  have hp1 : Bk w1 p 54 #[v] := h.bk.of_same (hb1 p hpl)
  have hp2 : Bk w2 p 54 #[v] := hp1.grown hg (fun e => h.2.2.1 e.symm)
  have hne : v'.ownBlock ≠ some p := by
    rcases hat with e | e
    · rw [e]; exact h.2.2.1
    · rw [e]; intro e2; injection e2 with e2; omega
  refine ⟨v', ⟨?_, ?_, hne, h.2.2.2⟩, ?_, ?_⟩
  · simpa using hp2.set 0 v'
  · rw [List.length_append]
    exact ho.kept (grown_set w2 p 0 v') (.inr hne)
  · have f1 : Fr w w1 p v.ownBlock := ⟨hos.1, hos.2.1, hos.2.2, hw1, fun i hi _ _ => hb1 i hi⟩
    exact (f1.trans (Fr.row hg p) (.inl rfl)).trans (Fr.cell (grown_set w2 p 0 v') v.ownBlock) (.inl rfl)
  · rcases hat with e | e
    · exact .inl e
    · exact .inr (fun k hk => by rw [e] at hk; injection hk with hk; omega)
theorem Put.then {w w1 w2 : World} {B p : Nat} {v v1 : Value} {l x y : List UInt8} (h2 : Fr w w1 p v.ownBlock) (h3 : Turned w v v1) (k : Put w1 w2 B p v1 (l ++ x) y) : Put w w2 B p v l (x ++ y) := by
  obtain ⟨v2, k1, k2, k3⟩ := k
  refine ⟨v2, by rw [← List.append_assoc]; exact k1, h2.trans k2 h3, ?_⟩
  rcases k3 with e | e
  · rcases h3 with e3 | e3
    · exact .inl (e.trans e3)
    · exact .inr (fun k hk => e3 k (by rw [← e]; exact hk))
  · exact .inr (fun k hk => Nat.le_trans h2.size (e k hk))
theorem Put.below {w w' w0 : World} {B p : Nat} {v : Value} {l x : List UInt8} (h : Put w w' B p v l x) (hw : Wr w B p v l) (hB : B ≤ w.heap.size) (h0 : Below B w0 w) : Below B w0 w' := by
  obtain ⟨v', _, h2, _⟩ := h
  exact h2.below hB hw.2.2.2 (fun k hk => (hw.own.lt k hk).1) h0
theorem Wr.cell_of {w w2 : World} {B p : Nat} {v : Value} {l : List UInt8} (h : Wr w B p v l) (o : Obj) (hg : (w.alloc o).grownBy w2 v.ownBlock) : w2.cell? ⟨p, 0, none⟩ = some v := by
  rw [((h.bk.alloc o).grown hg (fun e => h.2.2.1 e.symm)).cell]; rfl
theorem Wr.free_of {w w2 : World} {B p : Nat} {v : Value} {l : List UInt8} (h : Wr w B p v l) (o : Obj) (hg : (w.alloc o).grownBy w2 v.ownBlock) : w2.frozen? ⟨p, 0, none⟩ = false :=
  ((h.bk.alloc o).grown hg (fun e => h.2.2.1 e.symm)).free 0
theorem Wr.cell_of' {w w2 : World} {B p : Nat} {v : Value} {l : List UInt8} (h : Wr w B p v l) (hg : w.grownBy w2 v.ownBlock) : w2.cell? ⟨p, 0, none⟩ = some v := by
  rw [(h.bk.grown hg (fun e => h.2.2.1 e.symm)).cell]; rfl
theorem Wr.free_of' {w w2 : World} {B p : Nat} {v : Value} {l : List UInt8} (h : Wr w B p v l) (hg : w.grownBy w2 v.ownBlock) : w2.frozen? ⟨p, 0, none⟩ = false :=
  (h.bk.grown hg (fun e => h.2.2.1 e.symm)).free 0
theorem ownEmpty (w : World) (e : TypeId) (base : Nat) (hb : base ≤ w.heap.size) : (w.alloc (.cells #[] e)).ownsRow base e 1 (.slice (some ⟨w.heap.size, 0, none⟩) 0 0) 0 [] :=
  ⟨by simp, .inr ⟨w.heap.size, 0, #[], rfl, hb, heap_alloc_new w _, Nat.le_refl _, by simp [maxLen], by simp, by simp⟩⟩
theorem numNil (w : World) (n : Int) : Calls Try.prog 58 #[.pointer none, .int .i64 n] w fun e w' => e = .returned (.tuple #[]) ∧ w = w' := by
  go_enter Try.func58, Try.ntmps58
  go_wp2
  refine bodyPost_ret (results_none rfl _ _ _) rfl ?_
  exact ⟨rfl, rfl⟩
theorem i64_and127 (x : Nat) (h : x < 2 ^ 63) : bits .and .i64 (x : Int) 127 = ((x % 128 : Nat) : Int) :=
  (bits_mask .i64 63 (by decide) (fun n h0 h1 => by rw [IntKind.wrap_i64]; omega) 7 (by decide) x (by omega) (by omega)).trans (by omega)
theorem i64_or128 (x : Nat) (h : x < 128) : bits .or .i64 (x : Int) 128 = ((x + 128 : Nat) : Int) := by
  have : ∀ x : Fin 128, bits .or .i64 (x.1 : Int) 128 = ((x.1 + 128 : Nat) : Int) := by decide +kernel
  exact this ⟨x, h⟩
set_option maxHeartbeats 2000000 in
theorem numW (w : World) (B p : Nat) (v : Value) (l : List UInt8) (h : Wr w B p v l) (hl : l.length ≤ 100000000) (n : Int) (h1 : n ≤ 9223372036854775807) (h0 : -9223372036854775808 ≤ n) (hB : B ≤ w.heap.size) :
    Calls Try.prog 58 #[.pointer (some ⟨p, 0, none⟩), .int .i64 n] w fun e w' => e = .returned (.tuple #[]) ∧ Put w w' B p v l (encN n.toNat) := by
  have HW := Lib.hid h
  clear h
  go_enter Try.func58, Try.ntmps58
  go_wp2
  go_loopw [1] (fun t wr => ∃ (q f : Nat) (pre : List UInt8), t = .int .i64 q ∧ q < 128 ^ (f + 1) ∧ f ≤ 8 ∧ pre.length + f + 1 = 9 ∧ Hid (pre ++ enF (f + 1) q = encN n.toNat) ∧ Put w wr B p v l pre) (fun t _ => (intOf t).toNat)
  case atStart =>
    refine ⟨n.toNat, 8, [], ?_, Nat.lt_of_le_of_lt (show n.toNat ≤ 9223372036854775807 by omega) (by decide), by omega, rfl, Lib.hid rfl, ?_⟩
    · congr 1; omega
    · exact ⟨v, by simpa using HW.out, Fr.refl _ _ _, .inl rfl⟩
  case round =>
    obtain ⟨q, f, pre, rfl, hq, hf, hpl, HE, v1, hw1, hf1, ht1⟩ := hrel
    have HF1 := Lib.hid hf1
    have HT1 : Hid (Turned w v v1) := Lib.hid ht1
    have HW1 := Lib.hid hw1
    have HOWN : Hid (wr.ownsRow B 5 1 v1 (l.length + pre.length) (bytesV (l ++ pre))) := Lib.hid (by rw [← List.length_append]; exact hw1.own)
    have hsz := hf1.size
    have hpw := hw1.bk.lt
    have c0 : wr.cell? ⟨p, 0, none⟩ = some v1 := by rw [hw1.bk.cell]; rfl
    have f0 : ∀ W : World, True := fun _ => trivial
    have hq63 : q < 2 ^ 63 := Nat.lt_of_lt_of_le hq (Nat.le_trans (Nat.pow_le_pow_right (by omega) (show f + 1 ≤ 9 by omega)) (by decide))
    clear hw1 hf1 ht1 f0
    by_cases hbig : 127 < q
    · have hqb : (127 : Int) < (q : Int) := by omega
      have ha := i64_and127 q hq63
      have hr128 : q % 128 < 128 := Nat.mod_lt _ (by omega)
      have hb := i64_or128 (q % 128) hr128
      have hsh : (q : Int) / 128 = ((q / 128 : Nat) : Int) := by omega
      have hf0 : 0 < f := by
        rcases Nat.eq_zero_or_pos f with e | e
        · subst e; simp at hq; omega
        · exact e
      have HN : Hid (enF (f + 1) q = UInt8.ofNat (q % 128 + 128) :: enF f (q / 128)) := Lib.hid (by rw [enF, if_neg (by omega)])
      have hq2 : q / 128 < 128 ^ f := by rw [Nat.pow_succ] at hq; omega
      have hdec : q / 128 < q := by omega
      have hxb : q % 128 + 128 < 256 := by omega
      generalize q % 128 = r at *
      generalize q / 128 = d at *
      generalize r + 128 = y at *
      go_wp2_with (refine appendBytes rfl (.tmp 16) (.tmp 21) 52 rfl 5 Try.underlying52 u8info B v1 (l.length + pre.length) (l ++ pre) rfl (HOWN.out.alloc _) _ 1 1 [UInt8.ofNat y] rfl (Rb.new _ _ _ [UInt8.ofNat y] (by simp) (by simp [bytesV]; omega) 1 rfl) (by omega) (by simp; omega) ?_
                   intro v2 w2 ho2 hg2 hat2
                   obtain ⟨A2, cap2, rfl, hc2⟩ := own_slice ho2
                   have c2 := Wr.cell_of HW1.out _ hg2
                   have f2 := Wr.free_of HW1.out _ hg2)
      go_roundw
      case rel =>
        have hst := HW1.out.step (x := [UInt8.ofNat y]) (by simp) (fun i hi => alloc_old wr _ i hi) (by rw [List.length_append]; exact ho2) hg2 (by simpa using hat2) ⟨rfl, rfl, rfl⟩
        have hf1 : f - 1 + 1 = f := by omega
        obtain ⟨v3, k1, k2, k3⟩ := Put.then HF1.out HT1.out hst
        exact ⟨d, f - 1, pre ++ [UInt8.ofNat y], rfl, by rw [hf1]; exact hq2, by omega, by simp; omega, Lib.hid (by rw [hf1, ← HE.out, HN.out]; simp), v3, k1, k2, k3⟩
      case measure => simp [intOf]; omega
    · have hqb : ¬ (127 : Int) < (q : Int) := by omega
      have HN : Hid (enF (f + 1) q = [UInt8.ofNat q]) := Lib.hid (by rw [enF, if_pos (by omega)])
      have hqs : q < 128 := by omega
      go_wp2_with (refine appendBytes rfl (.tmp 29) (.tmp 32) 52 rfl 5 Try.underlying52 u8info B v1 (l.length + pre.length) (l ++ pre) rfl (HOWN.out.alloc _) _ 1 1 [UInt8.ofNat q] rfl (Rb.new _ _ _ [UInt8.ofNat q] (by simp) (by simp [bytesV]; omega) 1 rfl) (by omega) (by simp; omega) ?_
                   intro v2 w2 ho2 hg2 hat2
                   obtain ⟨A2, cap2, rfl, hc2⟩ := own_slice ho2
                   have c2 := Wr.cell_of HW1.out _ hg2
                   have f2 := Wr.free_of HW1.out _ hg2)
      have hst := HW1.out.step (x := [UInt8.ofNat q]) (by simp) (fun i hi => alloc_old wr _ i hi) (by rw [List.length_append]; exact ho2) hg2 (by simpa using hat2) ⟨rfl, rfl, rfl⟩
      have hp := Put.then HF1.out HT1.out hst
      rw [← HN.out, HE.out] at hp
      refine bodyPost_end (results_none rfl _ _ _) rfl ?_
      exact ⟨rfl, hp⟩
end Go.Proofs.Ytpdnedgoldjghaa.Wir
