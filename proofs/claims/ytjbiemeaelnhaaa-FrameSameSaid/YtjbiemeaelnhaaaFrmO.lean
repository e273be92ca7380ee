import Derived.Test.YtjbiemeaelnhaaaByO
import Derived.Test.YtjbiemeaelnhaaaFrmA
import Derived.Lib.SmallJoins
/- A frame as an argument. -/
namespace Go.Proofs.Ytjbiemeaelnhaaa.Frm
open Go.Joins Go.ChangeShapes Go.WideShapes Go.RowKit

section
variable {H : Type} {enc : TypeId × Value → H} {w : World} {base : Nat} {held : Bool}
theorem open_frame {r : Reach} {b0 : Nat} {v : Value} {d : DataW H} {p : List MemPlace} (hv : Value.okWide Try.prog w r b0 37 v) (h : DataW.Trod enc Try.prog w base (fun _ => true) held 37 v d p) :
    ∃ (k f t : Int) (A : Option Addr) (n c : Nat), v = frV k f t A n c ∧ ∃ l, Rb w A n l ∧ n ≤ c := by
  obtain ⟨v0, v1, v2, v3, y0, y1, y2, y3, m, rfl, rfl, rfl, t0, t1, t2, t3⟩ := open_agg4 Try.underlying37 (by kernel_rfl) (by kernel_rfl) hv h
  obtain ⟨a, ha, rfl, wa⟩ := DataW.trod_int Try.underlying3 t0
  obtain ⟨b, hb, rfl, wb⟩ := DataW.trod_int Try.underlying3 t1
  obtain ⟨c, hc, rfl, wc⟩ := DataW.trod_int Try.underlying3 t2
  obtain ⟨A, n, k, rfl, l, h1, h2⟩ := open_bytes' t3
  simp only [List.cons.injEq, and_true] at ha hb hc
  subst ha hb hc
  exact ⟨a, b, c, A, n, k, rfl, l, h1, h2⟩
end
end Go.Proofs.Ytjbiemeaelnhaaa.Frm
