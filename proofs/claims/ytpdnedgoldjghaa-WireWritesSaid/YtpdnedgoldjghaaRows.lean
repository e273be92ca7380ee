/-
  No cell of these rows narrows 'for every input' (looked for: loops, veiled, ifaces, maps, wideKeys, modest, calm, conditions, laid).
  DERIVED. THE GIVEN ROWS OF THIS SEAT. 9 by the template 'for every input the law returns true; each argument reads behind the call as it read before'; 0 by the template 'total and deterministic' (their statements: YtpdnedgoldjghaaTotals.lean).
  GIVEN WITH THE SEED: the statements are not yours to turn. If you find one false, say at which input.
  Laid BY PROGRAM, IN A SANDBOX (cutbox-rows.mjs): the forced cells as the released guide's own fill.sh prints them over the translation 7f84a7ac936d9dd8… (all of the seat's roots in one cut). By AI agents, Wed Nov 11 2026. No macro, syntax, notation, axiom, sorry.
-/
import Derived.Test.YtpdnedgoldjghaaChecked
import GoSem.Claim
import GoSem.ClaimJoined
import GoSem.ClaimMapViews
import Derived.JoinedTies
import Derived.KernelRfl
namespace Go.Proofs.Ytpdnedgoldjghaa
/- THE CELL 'sum', in the pinned program and in every row, IS THE sha256 OF THE DUMP (.gsa) THAT YtpdnedgoldjghaaProg.lean LOADS. Nothing in Lean hashes anything: it is a label: what it is worth is what the hold of that sum in a sandbox is worth. -/
noncomputable def Try.pinned : Pinned := { name := "ytpdnedgoldjghaa", sum := "7f84a7ac936d9dd895ce43c260b8552423bf4b9e07346069547e2a8f946145c7", checked := Try.checked }
namespace Rows
def none {H : Type} : Left H := { results := [], args := [] }

/-- 'banyanlaw03.StampBack': WHATEVER THE INPUT: true; the input reads as it did. -/
def stampBackSpec : ChangeSpec := { name := "stampBack", fn := fun _ => fun
  | [d] => { results := [.lit (.bool true)], args := [d] }
  | _ => none }
def stampBackRow : OpenClaim := { program := "ytpdnedgoldjghaa", sum := "7f84a7ac936d9dd895ce43c260b8552423bf4b9e07346069547e2a8f946145c7", func := "banyan/banyanlaw03.StampBack", spec := "stampBack", apart := false }
def StampBackSaid : Prop := stampBackRow.holds Try.pinned (OpenSpec.ofChange stampBackSpec)

/-- ITS FALSE NEIGHBOUR: 'it returns false'. Refute it at one input. -/
def stampBackWrong : ChangeSpec := { name := "stampBack", fn := fun _ => fun
  | [d] => { results := [.lit (.bool false)], args := [d] }
  | _ => none }
def StampBackWrongFalsely : Prop := stampBackRow.holds Try.pinned (OpenSpec.ofChange stampBackWrong)

/-- 'banyanlaw03.StampClocks': WHATEVER THE INPUT: true; the input reads as it did. -/
def stampClocksSpec : ChangeSpec := { name := "stampClocks", fn := fun _ => fun
  | [d1, d2, d3] => { results := [.lit (.bool true)], args := [d1, d2, d3] }
  | _ => none }
def stampClocksRow : OpenClaim := { program := "ytpdnedgoldjghaa", sum := "7f84a7ac936d9dd895ce43c260b8552423bf4b9e07346069547e2a8f946145c7", func := "banyan/banyanlaw03.StampClocks", spec := "stampClocks", apart := false }
def StampClocksSaid : Prop := stampClocksRow.holds Try.pinned (OpenSpec.ofChange stampClocksSpec)

/-- ITS FALSE NEIGHBOUR: 'it returns false'. Refute it at one input. -/
def stampClocksWrong : ChangeSpec := { name := "stampClocks", fn := fun _ => fun
  | [d1, d2, d3] => { results := [.lit (.bool false)], args := [d1, d2, d3] }
  | _ => none }
def StampClocksWrongFalsely : Prop := stampClocksRow.holds Try.pinned (OpenSpec.ofChange stampClocksWrong)

/-- 'banyanlaw03.StampNobody': WHATEVER THE INPUT: true; the input reads as it did. -/
def stampNobodySpec : ChangeSpec := { name := "stampNobody", fn := fun _ => fun
  | [d] => { results := [.lit (.bool true)], args := [d] }
  | _ => none }
def stampNobodyRow : OpenClaim := { program := "ytpdnedgoldjghaa", sum := "7f84a7ac936d9dd895ce43c260b8552423bf4b9e07346069547e2a8f946145c7", func := "banyan/banyanlaw03.StampNobody", spec := "stampNobody", apart := false }
def StampNobodySaid : Prop := stampNobodyRow.holds Try.pinned (OpenSpec.ofChange stampNobodySpec)

/-- ITS FALSE NEIGHBOUR: 'it returns false'. Refute it at one input. -/
def stampNobodyWrong : ChangeSpec := { name := "stampNobody", fn := fun _ => fun
  | [d] => { results := [.lit (.bool false)], args := [d] }
  | _ => none }
def StampNobodyWrongFalsely : Prop := stampNobodyRow.holds Try.pinned (OpenSpec.ofChange stampNobodyWrong)

/-- 'banyanlaw03.StampTells': WHATEVER THE INPUT: true; the input reads as it did. -/
def stampTellsSpec : ChangeSpec := { name := "stampTells", fn := fun _ => fun
  | [d1, d2, d3] => { results := [.lit (.bool true)], args := [d1, d2, d3] }
  | _ => none }
def stampTellsRow : OpenClaim := { program := "ytpdnedgoldjghaa", sum := "7f84a7ac936d9dd895ce43c260b8552423bf4b9e07346069547e2a8f946145c7", func := "banyan/banyanlaw03.StampTells", spec := "stampTells", recurses := true, apart := false }
def StampTellsSaid : Prop := stampTellsRow.holds Try.pinned (OpenSpec.ofChange stampTellsSpec)

/-- ITS FALSE NEIGHBOUR: 'it returns false'. Refute it at one input. -/
def stampTellsWrong : ChangeSpec := { name := "stampTells", fn := fun _ => fun
  | [d1, d2, d3] => { results := [.lit (.bool false)], args := [d1, d2, d3] }
  | _ => none }
def StampTellsWrongFalsely : Prop := stampTellsRow.holds Try.pinned (OpenSpec.ofChange stampTellsWrong)

/-- 'banyanlaw05.WireNobody': WHATEVER THE INPUT: true; the input reads as it did. -/
def wireNobodySpec : ChangeSpec := { name := "wireNobody", fn := fun _ => fun
  | [d] => { results := [.lit (.bool true)], args := [d] }
  | _ => none }
def wireNobodyRow : OpenClaim := { program := "ytpdnedgoldjghaa", sum := "7f84a7ac936d9dd895ce43c260b8552423bf4b9e07346069547e2a8f946145c7", func := "banyan/banyanlaw05.WireNobody", spec := "wireNobody", apart := false }
def WireNobodySaid : Prop := wireNobodyRow.holds Try.pinned (OpenSpec.ofChange wireNobodySpec)

/-- ITS FALSE NEIGHBOUR: 'it returns false'. Refute it at one input. -/
def wireNobodyWrong : ChangeSpec := { name := "wireNobody", fn := fun _ => fun
  | [d] => { results := [.lit (.bool false)], args := [d] }
  | _ => none }
def WireNobodyWrongFalsely : Prop := wireNobodyRow.holds Try.pinned (OpenSpec.ofChange wireNobodyWrong)

/-- 'banyanlaw05.WireWrites': WHATEVER THE INPUT: true; the input reads as it did. -/
def wireWritesSpec : ChangeSpec := { name := "wireWrites", fn := fun _ => fun
  | [d] => { results := [.lit (.bool true)], args := [d] }
  | _ => none }
def wireWritesRow : OpenClaim := { program := "ytpdnedgoldjghaa", sum := "7f84a7ac936d9dd895ce43c260b8552423bf4b9e07346069547e2a8f946145c7", func := "banyan/banyanlaw05.WireWrites", spec := "wireWrites", apart := false }
def WireWritesSaid : Prop := wireWritesRow.holds Try.pinned (OpenSpec.ofChange wireWritesSpec)

/-- ITS FALSE NEIGHBOUR: 'it returns false'. Refute it at one input. -/
def wireWritesWrong : ChangeSpec := { name := "wireWrites", fn := fun _ => fun
  | [d] => { results := [.lit (.bool false)], args := [d] }
  | _ => none }
def WireWritesWrongFalsely : Prop := wireWritesRow.holds Try.pinned (OpenSpec.ofChange wireWritesWrong)

/-- 'banyanlaw05.WireBack': WHATEVER THE INPUT: true; the input reads as it did. -/
def wireBackSpec : ChangeSpec := { name := "wireBack", fn := fun _ => fun
  | [d1, d2] => { results := [.lit (.bool true)], args := [d1, d2] }
  | _ => none }
def wireBackRow : OpenClaim := { program := "ytpdnedgoldjghaa", sum := "7f84a7ac936d9dd895ce43c260b8552423bf4b9e07346069547e2a8f946145c7", func := "banyan/banyanlaw05.WireBack", spec := "wireBack", apart := false }
def WireBackSaid : Prop := wireBackRow.holds Try.pinned (OpenSpec.ofChange wireBackSpec)

/-- ITS FALSE NEIGHBOUR: 'it returns false'. Refute it at one input. -/
def wireBackWrong : ChangeSpec := { name := "wireBack", fn := fun _ => fun
  | [d1, d2] => { results := [.lit (.bool false)], args := [d1, d2] }
  | _ => none }
def WireBackWrongFalsely : Prop := wireBackRow.holds Try.pinned (OpenSpec.ofChange wireBackWrong)

/-- 'banyanlaw05.WireOnce': WHATEVER THE INPUT: true; the input reads as it did. -/
def wireOnceSpec : ChangeSpec := { name := "wireOnce", fn := fun _ => fun
  | [d1, d2] => { results := [.lit (.bool true)], args := [d1, d2] }
  | _ => none }
def wireOnceRow : OpenClaim := { program := "ytpdnedgoldjghaa", sum := "7f84a7ac936d9dd895ce43c260b8552423bf4b9e07346069547e2a8f946145c7", func := "banyan/banyanlaw05.WireOnce", spec := "wireOnce", apart := false }
def WireOnceSaid : Prop := wireOnceRow.holds Try.pinned (OpenSpec.ofChange wireOnceSpec)

/-- ITS FALSE NEIGHBOUR: 'it returns false'. Refute it at one input. -/
def wireOnceWrong : ChangeSpec := { name := "wireOnce", fn := fun _ => fun
  | [d1, d2] => { results := [.lit (.bool false)], args := [d1, d2] }
  | _ => none }
def WireOnceWrongFalsely : Prop := wireOnceRow.holds Try.pinned (OpenSpec.ofChange wireOnceWrong)

/-- 'banyanlaw03.StampLists': WHATEVER THE INPUT: true; the input reads as it did. -/
def stampListsSpec : ChangeSpec := { name := "stampLists", fn := fun _ => fun
  | [d1, d2] => { results := [.lit (.bool true)], args := [d1, d2] }
  | _ => none }
def stampListsRow : OpenClaim := { program := "ytpdnedgoldjghaa", sum := "7f84a7ac936d9dd895ce43c260b8552423bf4b9e07346069547e2a8f946145c7", func := "banyan/banyanlaw03.StampLists", spec := "stampLists", unfollowed := true, recurses := true, apart := false }
def StampListsSaid : Prop := stampListsRow.holds Try.pinned (OpenSpec.ofChange stampListsSpec)

/-- ITS FALSE NEIGHBOUR: 'it returns false'. Refute it at one input. -/
def stampListsWrong : ChangeSpec := { name := "stampLists", fn := fun _ => fun
  | [d1, d2] => { results := [.lit (.bool false)], args := [d1, d2] }
  | _ => none }
def StampListsWrongFalsely : Prop := stampListsRow.holds Try.pinned (OpenSpec.ofChange stampListsWrong)

/- THE SECOND FORM. 'bulk': how many values and letters a reading holds, each counted each time it is reached (what is shared counts as often as it is met; a slice's spare places count too). A statement '..UptoSaid' is the law's where the arguments, and the package variables that the reading takes, are together of bulk at most 1048576: NARROWER than '..Said'. Prove '..Said' where nothing that the law and all that it calls make is longer than what came in: it says more and counts as full. Else prove '..UptoSaid'. A law counts once. -/
mutual
def uptoBulk {H : Type} : DataW H → Nat
  | .lit (.string bytes) => bytes.length + 1
  | .lit _ => 1
  | .nil => 1
  | .ptr d => uptoBulk d + 1
  | .slice elems spare => uptoBulkAll elems + uptoBulkAll spare + 1
  | .agg parts => uptoBulkAll parts + 1
  | .iface _ d => uptoBulk d + 1
  | .map entries => uptoBulkEntries entries + 1
  | .held _ => 1
def uptoBulkAll {H : Type} : List (DataW H) → Nat
  | [] => 0
  | d :: r => uptoBulk d + uptoBulkAll r
def uptoBulkEntries {H : Type} : List (Lit × DataW H) → Nat
  | [] => 0
  | x :: r => uptoBulkEntry x + uptoBulkEntries r
def uptoBulkEntry {H : Type} : Lit × DataW H → Nat
  | (.string bytes, d) => bytes.length + uptoBulk d + 1
  | (_, d) => uptoBulk d + 1
 end
def uptoSmall : (H : Type) → List (DataW H) → Bool := fun _ ds => decide (uptoBulkAll ds ≤ 1048576)
def OpenSpec.upto (s : _root_.Go.ChangeSpec) : _root_.Go.OpenSpec := { _root_.Go.OpenSpec.ofChange s with cond := some uptoSmall }

/-- 'banyanlaw03.StampBack', WHERE WHAT IT READS IS OF BULK AT MOST 1048576: true; the input reads as it did. -/
def stampBackUptoRow : OpenClaim := { program := "ytpdnedgoldjghaa", sum := "7f84a7ac936d9dd895ce43c260b8552423bf4b9e07346069547e2a8f946145c7", func := "banyan/banyanlaw03.StampBack", spec := "stampBack", apart := false, narrowed := true }
def StampBackUptoSaid : Prop := stampBackUptoRow.holds Try.pinned (OpenSpec.upto stampBackSpec)

/-- 'banyanlaw03.StampClocks', WHERE WHAT IT READS IS OF BULK AT MOST 1048576: true; the input reads as it did. -/
def stampClocksUptoRow : OpenClaim := { program := "ytpdnedgoldjghaa", sum := "7f84a7ac936d9dd895ce43c260b8552423bf4b9e07346069547e2a8f946145c7", func := "banyan/banyanlaw03.StampClocks", spec := "stampClocks", apart := false, narrowed := true }
def StampClocksUptoSaid : Prop := stampClocksUptoRow.holds Try.pinned (OpenSpec.upto stampClocksSpec)

/-- 'banyanlaw03.StampNobody', WHERE WHAT IT READS IS OF BULK AT MOST 1048576: true; the input reads as it did. -/
def stampNobodyUptoRow : OpenClaim := { program := "ytpdnedgoldjghaa", sum := "7f84a7ac936d9dd895ce43c260b8552423bf4b9e07346069547e2a8f946145c7", func := "banyan/banyanlaw03.StampNobody", spec := "stampNobody", apart := false, narrowed := true }
def StampNobodyUptoSaid : Prop := stampNobodyUptoRow.holds Try.pinned (OpenSpec.upto stampNobodySpec)

/-- 'banyanlaw03.StampTells', WHERE WHAT IT READS IS OF BULK AT MOST 1048576: true; the input reads as it did. -/
def stampTellsUptoRow : OpenClaim := { program := "ytpdnedgoldjghaa", sum := "7f84a7ac936d9dd895ce43c260b8552423bf4b9e07346069547e2a8f946145c7", func := "banyan/banyanlaw03.StampTells", spec := "stampTells", recurses := true, apart := false, narrowed := true }
def StampTellsUptoSaid : Prop := stampTellsUptoRow.holds Try.pinned (OpenSpec.upto stampTellsSpec)

/-- 'banyanlaw05.WireNobody', WHERE WHAT IT READS IS OF BULK AT MOST 1048576: true; the input reads as it did. -/
def wireNobodyUptoRow : OpenClaim := { program := "ytpdnedgoldjghaa", sum := "7f84a7ac936d9dd895ce43c260b8552423bf4b9e07346069547e2a8f946145c7", func := "banyan/banyanlaw05.WireNobody", spec := "wireNobody", apart := false, narrowed := true }
def WireNobodyUptoSaid : Prop := wireNobodyUptoRow.holds Try.pinned (OpenSpec.upto wireNobodySpec)

/-- 'banyanlaw05.WireWrites', WHERE WHAT IT READS IS OF BULK AT MOST 1048576: true; the input reads as it did. -/
def wireWritesUptoRow : OpenClaim := { program := "ytpdnedgoldjghaa", sum := "7f84a7ac936d9dd895ce43c260b8552423bf4b9e07346069547e2a8f946145c7", func := "banyan/banyanlaw05.WireWrites", spec := "wireWrites", apart := false, narrowed := true }
def WireWritesUptoSaid : Prop := wireWritesUptoRow.holds Try.pinned (OpenSpec.upto wireWritesSpec)

/-- 'banyanlaw05.WireBack', WHERE WHAT IT READS IS OF BULK AT MOST 1048576: true; the input reads as it did. -/
def wireBackUptoRow : OpenClaim := { program := "ytpdnedgoldjghaa", sum := "7f84a7ac936d9dd895ce43c260b8552423bf4b9e07346069547e2a8f946145c7", func := "banyan/banyanlaw05.WireBack", spec := "wireBack", apart := false, narrowed := true }
def WireBackUptoSaid : Prop := wireBackUptoRow.holds Try.pinned (OpenSpec.upto wireBackSpec)

/-- 'banyanlaw05.WireOnce', WHERE WHAT IT READS IS OF BULK AT MOST 1048576: true; the input reads as it did. -/
def wireOnceUptoRow : OpenClaim := { program := "ytpdnedgoldjghaa", sum := "7f84a7ac936d9dd895ce43c260b8552423bf4b9e07346069547e2a8f946145c7", func := "banyan/banyanlaw05.WireOnce", spec := "wireOnce", apart := false, narrowed := true }
def WireOnceUptoSaid : Prop := wireOnceUptoRow.holds Try.pinned (OpenSpec.upto wireOnceSpec)

/-- 'banyanlaw03.StampLists', WHERE WHAT IT READS IS OF BULK AT MOST 1048576: true; the input reads as it did. -/
def stampListsUptoRow : OpenClaim := { program := "ytpdnedgoldjghaa", sum := "7f84a7ac936d9dd895ce43c260b8552423bf4b9e07346069547e2a8f946145c7", func := "banyan/banyanlaw03.StampLists", spec := "stampLists", unfollowed := true, recurses := true, apart := false, narrowed := true }
def StampListsUptoSaid : Prop := stampListsUptoRow.holds Try.pinned (OpenSpec.upto stampListsSpec)

end Rows
end Go.Proofs.Ytpdnedgoldjghaa
