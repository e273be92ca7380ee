import Derived.Test.YtpdnedgoldjghaaStmK
import Derived.ProofKit
import Derived.Deep.Grids
/- Slices of ints, of bools, as arguments. -/
namespace Go.Proofs.Ytpdnedgoldjghaa.Stm
open Go.ChangeShapes Go.WideShapes Go.RowKit Go.Deep

section
variable {H : Type} {enc : TypeId × Value → H} {w : World} {base : Nat} {held : Bool}
theorem rany_ints {A : Option Addr} {n c : Nat} {d : DataW H} {p : List MemPlace} (h : DataW.Trod enc Try.prog w base (fun _ => true) held 30 (.slice A n c) d p) : Rany w A n isI := by
  obtain ⟨fuel, hf⟩ := h
  rcases open_ints Try.underlying30 Try.underlying3 (by kernel_rfl) hf with ⟨hcs, _⟩ | ⟨x, l, k, zs, hcs, _, hl, hm, hz, _, hcell, hwz⟩
  · simp [Value.cells] at hcs
    obtain ⟨rfl, rfl, rfl⟩ := hcs
    intro k hk; omega
  · simp [Value.cells] at hcs
    obtain ⟨rfl, rfl, rfl⟩ := hcs
    intro i hi
    have hlen : i < zs.length := by simp at hz; omega
    have hc := hcell i hlen
    have hb := wf_i64 (hwz (zs.getD i 0) (by rw [List.getD_eq_getElem?_getD, List.getElem?_eq_getElem hlen]; exact List.getElem_mem hlen))
    exact ⟨x, _, rfl, by have := World.block_lt_of_cell? w _ hc; simpa [addr_block] using this, hc, _, rfl, hb⟩
theorem rany_bools {A : Option Addr} {n c : Nat} {d : DataW H} {p : List MemPlace} (h : DataW.Trod enc Try.prog w base (fun _ => true) held 31 (.slice A n c) d p) : Rany w A n isB := by
  obtain ⟨fuel, hf⟩ := h
  rcases open_bools Try.underlying31 Try.underlying4 (by kernel_rfl) hf with ⟨hcs, _⟩ | ⟨x, l, k, B, hcs, _, hl, hm, _, hcell⟩
  · simp [Value.cells] at hcs
    obtain ⟨rfl, rfl, rfl⟩ := hcs
    intro k hk; omega
  · simp [Value.cells] at hcs
    obtain ⟨rfl, rfl, rfl⟩ := hcs
    intro i hi
    have hc := hcell i (by omega)
    exact ⟨x, _, rfl, by have := World.block_lt_of_cell? w _ hc; simpa [addr_block] using this, hc, _, rfl⟩
end
end Go.Proofs.Ytpdnedgoldjghaa.Stm
