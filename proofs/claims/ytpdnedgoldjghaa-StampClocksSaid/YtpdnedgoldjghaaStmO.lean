import Derived.Test.YtpdnedgoldjghaaProg
import Derived.ProofKit
import Derived.Lib.SmallJoins
/- A stamp as an argument. -/
namespace Go.Proofs.Ytpdnedgoldjghaa.Stm
open Go.Joins Go.ChangeShapes Go.WideShapes Go.RowKit

section
variable {H : Type} {enc : TypeId × Value → H} {w : World} {base : Nat} {spare : Nat → Bool} {held : Bool}
theorem open_stamp {r : Reach} {b0 : Nat} {v : Value} {d : DataW H} {p : List MemPlace} (hv : Value.okWide Try.prog w r b0 23 v) (h : DataW.Trod enc Try.prog w base spare held 23 v d p) :
    ∃ a b : Int, v = .agg #[.int .i64 a, .int .i64 b] ∧ d = .agg [.lit (.int .i64 a), .lit (.int .i64 b)] ∧ p = [] ∧ ((Lit.int .i64 a).wf = true ∧ (Lit.int .i64 b).wf = true) := by
  obtain ⟨v0, v1, y0, y1, n, rfl, rfl, rfl, t0, t1⟩ := open_agg2 Try.underlying23 (by kernel_rfl) (by kernel_rfl) hv h
  obtain ⟨a, ha, rfl, wa⟩ := DataW.trod_int Try.underlying3 t0
  obtain ⟨b, hb, rfl, wb⟩ := DataW.trod_int Try.underlying3 t1
  simp only [List.cons.injEq, and_true] at ha hb
  subst ha hb
  exact ⟨a, b, rfl, rfl, rfl, wa, wb⟩
theorem shut_stamp {a b : Int} (hw : (Lit.int .i64 a).wf = true ∧ (Lit.int .i64 b).wf = true) :
    DataW.Trod enc Try.prog w base spare held 23 (.agg #[.int .i64 a, .int .i64 b]) (.agg [.lit (.int .i64 a), .lit (.int .i64 b)]) [] :=
  shut_agg2 (y0 := (.lit (.int .i64 a), [])) (y1 := (.lit (.int .i64 b), [])) Try.underlying23 (by kernel_rfl) (by kernel_rfl)
    (shut_int (w := w) (base := base) (spare := spare) (held := held) (enc := enc) Try.underlying3 hw.1 |> fun ⟨n, h⟩ => ⟨n, by simpa [Value.cells] using h⟩)
    (shut_int (w := w) (base := base) (spare := spare) (held := held) (enc := enc) Try.underlying3 hw.2 |> fun ⟨n, h⟩ => ⟨n, by simpa [Value.cells] using h⟩)
end
end Go.Proofs.Ytpdnedgoldjghaa.Stm
