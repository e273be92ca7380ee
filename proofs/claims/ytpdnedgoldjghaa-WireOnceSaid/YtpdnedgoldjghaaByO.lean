import Derived.Test.YtpdnedgoldjghaaCore
import Derived.Test.YtpdnedgoldjghaaProg
import Derived.ProofKit
/- A slice of bytes as an argument. -/
namespace Go.Proofs.Ytpdnedgoldjghaa
open Go.ChangeShapes Go.WideShapes Go.RowKit

section
variable {H : Type} {enc : TypeId × Value → H} {w : World} {base : Nat} {held : Bool}
theorem open_bytes' {fuel : Nat} {v : Value} {x : DataW H × List MemPlace} (h : DataW.trod enc Try.prog w base (fun _ => true) held fuel 52 [v] = some x) : ∃ A n c, v = .slice A n c ∧ ∃ l, Rb w A n l ∧ n ≤ c := by
  rcases open_ints Try.underlying52 Try.underlying5 (by kernel_rfl) h with ⟨hcs, _⟩ | ⟨x, n, c, zs, hcs, _, hl, hm, hz, _, hcell, hwz⟩
  · simp only [List.cons.injEq, and_true] at hcs
    subst hcs
    exact ⟨none, 0, 0, rfl, [], Rb.nil_ w, Nat.le_refl _⟩
  · simp only [List.cons.injEq, and_true] at hcs
    subst hcs
    exact ⟨some x, n, c, rfl, InB.read (zs := zs) (.inr ⟨x, rfl, hl, hm, by simpa using hz, hcell, hwz⟩)⟩
theorem open_bytes {A : Option Addr} {n c : Nat} {d : DataW H} {p : List MemPlace} (h : DataW.Trod enc Try.prog w base (fun _ => true) held 52 (.slice A n c) d p) : ∃ l, Rb w A n l ∧ n ≤ c := by
  obtain ⟨fuel, hf⟩ := h
  obtain ⟨A', n', c', hv, l, h1, h2⟩ := open_bytes' (v := .slice A n c) (by simpa [Value.cells] using hf)
  injection hv with e1 e2 e3
  subst e1 e2 e3
  exact ⟨l, h1, h2⟩
end
end Go.Proofs.Ytpdnedgoldjghaa
