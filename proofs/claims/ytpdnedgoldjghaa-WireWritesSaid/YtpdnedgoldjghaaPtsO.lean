import Derived.Test.YtpdnedgoldjghaaWirK
import Derived.Test.YtpdnedgoldjghaaProg
import Derived.ProofKit
import Derived.Deep.Slices
import Derived.Deep.Fields
import Derived.ChangeSame
/- A slice of parts as an argument. -/
namespace Go.Proofs.Ytpdnedgoldjghaa.Wir
open Go.ChangeShapes Go.WideShapes Go.RowKit Go.Deep

section
variable {H : Type} {enc : TypeId × Value → H} {w : World} {base : Nat} {held : Bool}
theorem k1 : Try.prog.cellsOf 3 = 1 := by kernel_rfl
theorem k2 : Try.prog.cellsOf 9 = 1 := by kernel_rfl
theorem k3 : Try.prog.cellsOf 23 = 2 := by kernel_rfl
theorem one_int {fuel : Nat} {cs : List Value} {x : DataW H × List MemPlace} (h : DataW.trod enc Try.prog w base (fun _ => true) held fuel 3 cs = some x) : ∃ n : Int, cs = [.int .i64 n] ∧ i64 n := by
  obtain ⟨n, hc, _, hw⟩ := DataW.trod_int Try.underlying3 h
  exact ⟨n, hc, wf_i64 hw⟩
theorem one_str {fuel : Nat} {cs : List Value} {x : DataW H × List MemPlace} (h : DataW.trod enc Try.prog w base (fun _ => true) held fuel 9 cs = some x) : ∃ l : List UInt8, cs = [.string (tx l)] ∧ l.length ≤ 9223372036854775807 := by
  obtain ⟨s, hc, _, hw⟩ := DataW.trod_string Try.underlying9 h
  refine ⟨s.data.toList, by rw [hc]; rfl, ?_⟩
  simp only [maxLen] at hw
  have : s.size = s.data.toList.length := rfl
  omega
theorem open_part {fuel : Nat} {cs : List Value} {x : DataW H × List MemPlace} (h : DataW.trod enc Try.prog w base (fun _ => true) held fuel 56 cs = some x) :
    ∃ (k n : Int) (l : List UInt8) (t r : Int), cs = [.int .i64 k, .int .i64 n, .string (tx l), .int .i64 t, .int .i64 r] ∧ (i64 k ∧ i64 n ∧ i64 t ∧ i64 r) ∧ l.length ≤ 9223372036854775807 := by
  obtain ⟨xs, m, _, _, hl, hlen, hf⟩ := DataW.trod_struct Try.underlying56 h
  have h5 : Try.prog.cellsOf 56 = 5 := by kernel_rfl
  rw [h5] at hl
  match cs, hl with
  | [c0, c1, c2, c3, c4], _ =>
    match xs, hlen with
    | [y0, y1, y2, y3], _ =>
      have e0' : DataW.trod enc Try.prog w base (fun _ => true) held m 3 (List.take (Try.prog.cellsOf 3) (List.drop 0 [c0, c1, c2, c3, c4])) = some y0 := hf 0 _ rfl
      rw [k1] at e0'
      have e0 : DataW.trod enc Try.prog w base (fun _ => true) held m 3 [c0] = some y0 := e0'
      have e1' : DataW.trod enc Try.prog w base (fun _ => true) held m 3 (List.take (Try.prog.cellsOf 3) (List.drop 1 [c0, c1, c2, c3, c4])) = some y1 := hf 1 _ rfl
      rw [k1] at e1'
      have e1 : DataW.trod enc Try.prog w base (fun _ => true) held m 3 [c1] = some y1 := e1'
      have e2' : DataW.trod enc Try.prog w base (fun _ => true) held m 9 (List.take (Try.prog.cellsOf 9) (List.drop 2 [c0, c1, c2, c3, c4])) = some y2 := hf 2 _ rfl
      rw [k2] at e2'
      have e2 : DataW.trod enc Try.prog w base (fun _ => true) held m 9 [c2] = some y2 := e2'
      have e3' : DataW.trod enc Try.prog w base (fun _ => true) held m 23 (List.take (Try.prog.cellsOf 23) (List.drop 3 [c0, c1, c2, c3, c4])) = some y3 := hf 3 _ rfl
      rw [k3] at e3'
      have e3 : DataW.trod enc Try.prog w base (fun _ => true) held m 23 [c3, c4] = some y3 := e3'
      obtain ⟨a0, h0, w0⟩ := one_int e0
      obtain ⟨a1, h1, w1⟩ := one_int e1
      obtain ⟨a2, h2, w2⟩ := one_str e2
      obtain ⟨zs, m', _, _, hl', hlen', hf'⟩ := DataW.trod_struct Try.underlying23 e3
      match zs, hlen' with
      | [z0, z1], _ =>
        have g0' : DataW.trod enc Try.prog w base (fun _ => true) held m' 3 (List.take (Try.prog.cellsOf 3) (List.drop 0 [c3, c4])) = some z0 := hf' 0 _ rfl
        rw [k1] at g0'
        have g0 : DataW.trod enc Try.prog w base (fun _ => true) held m' 3 [c3] = some z0 := g0'
        have g1' : DataW.trod enc Try.prog w base (fun _ => true) held m' 3 (List.take (Try.prog.cellsOf 3) (List.drop 1 [c3, c4])) = some z1 := hf' 1 _ rfl
        rw [k1] at g1'
        have g1 : DataW.trod enc Try.prog w base (fun _ => true) held m' 3 [c4] = some z1 := g1'
        obtain ⟨a3, h3, w3⟩ := one_int g0
        obtain ⟨a4, h4, w4⟩ := one_int g1
        simp only [List.cons.injEq, and_true] at h0 h1 h2 h3 h4
        subst h0 h1 h2 h3 h4
        exact ⟨a0, a1, a2, a3, a4, rfl, ⟨w0, w1, w3, w4⟩, w2⟩
theorem open_parts {A : Option Addr} {n c : Nat} {d : DataW H} {p : List MemPlace} (h : DataW.Trod enc Try.prog w base (fun _ => true) held 50 (.slice A n c) d p) :
    ∃ K N X T R, Pts w A n K N X T R := by
  obtain ⟨fuel, hf⟩ := h
  rcases open_slice Try.underlying50 (by simpa [Value.cells] using hf) with ⟨h0, _⟩ | ⟨a, len, cap, m, n', D, Pl, hcs, hb, hl, hm, hmm, hx, hi⟩
  · simp only [List.cons.injEq, and_true, Value.slice.injEq] at h0
    obtain ⟨_, rfl, _⟩ := h0
    exact ⟨fun _ => 0, fun _ => 0, fun _ => [], fun _ => 0, fun _ => 0, by omega, fun h => absurd h (by omega)⟩
  · simp only [List.cons.injEq, and_true, Value.slice.injEq] at hcs
    obtain ⟨rfl, rfl, rfl⟩ := hcs
    simp only [if_true] at hmm
    subst hmm
    simp only [maxLen] at hm
    have h5 : Try.prog.cellsOf 56 = 5 := by kernel_rfl
    have hall : ∀ i, i < m → ∃ (k N : Int) (l : List UInt8) (t r : Int), w.cells? base (a.add (i * 5)) 5 = some [.int .i64 k, .int .i64 N, .string (tx l), .int .i64 t, .int .i64 r] ∧ (i64 k ∧ i64 N ∧ i64 t ∧ i64 r) ∧ l.length ≤ 9223372036854775807 := by
      intro i him
      obtain ⟨cs', hc, ht⟩ := hi i him
      rw [h5] at hc
      obtain ⟨k, N, l, t, r, rfl, h1, h2⟩ := open_part ht
      exact ⟨k, N, l, t, r, hc, h1, h2⟩
    have hex : ∀ i, ∃ q : Int × Int × List UInt8 × Int × Int, i < m → w.cells? base (a.add (i * 5)) 5 = some [.int .i64 q.1, .int .i64 q.2.1, .string (tx q.2.2.1), .int .i64 q.2.2.2.1, .int .i64 q.2.2.2.2] ∧ (i64 q.1 ∧ i64 q.2.1 ∧ i64 q.2.2.2.1 ∧ i64 q.2.2.2.2) ∧ q.2.2.1.length ≤ 9223372036854775807 := by
      intro i
      by_cases him : i < m
      · obtain ⟨k, N, l, t, r, h⟩ := hall i him
        exact ⟨(k, N, l, t, r), fun _ => h⟩
      · exact ⟨(0, 0, [], 0, 0), fun h => absurd h him⟩
    obtain ⟨F, hK⟩ := Classical.axiomOfChoice hex
    have hcell : ∀ i, i < n → ∀ j (v : Value), [Value.int .i64 (F i).1, .int .i64 (F i).2.1, .string (tx (F i).2.2.1), .int .i64 (F i).2.2.2.1, .int .i64 (F i).2.2.2.2][j]? = some v → w.cell? (a.add (i * 5 + j)) = some v := by
      intro i hi' j v hv
      obtain ⟨_, _, hat⟩ := World.cells?_some (hK i (by omega)).1
      have hj : j < 5 := (List.getElem?_eq_some_iff.1 hv).1
      have := hat j hj
      rw [Go.Deep.add_add] at this
      rw [this, hv]
    refine ⟨fun i => (F i).1, fun i => (F i).2.1, fun i => (F i).2.2.1, fun i => (F i).2.2.2.1, fun i => (F i).2.2.2.2, by omega, fun hn => ⟨a, rfl, ?_, fun i hi' => ⟨hcell i hi' 0 _ rfl, hcell i hi' 1 _ rfl, hcell i hi' 2 _ rfl, hcell i hi' 3 _ rfl, hcell i hi' 4 _ rfl, (hK i (by omega)).2⟩⟩⟩
    have := World.block_lt_of_cell? w _ (hcell 0 hn 0 _ rfl)
    rwa [addr_block] at this
end
end Go.Proofs.Ytpdnedgoldjghaa.Wir
