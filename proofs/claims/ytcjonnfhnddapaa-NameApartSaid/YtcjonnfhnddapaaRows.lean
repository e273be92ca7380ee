/-
  No cell of these rows narrows 'for every input' (looked for: loops, veiled, ifaces, maps, wideKeys, modest, calm, conditions, laid).
  DERIVED. THE GIVEN ROWS OF THIS SEAT. 11 by the template 'for every input the law returns true; each argument reads behind the call as it read before'; 0 by the template 'total and deterministic' (their statements: YtcjonnfhnddapaaTotals.lean).
  GIVEN WITH THE SEED: the statements are not yours to turn. If you find one false, say at which input.
  Laid BY PROGRAM, IN A SANDBOX (cutbox-rows.mjs): the forced cells as the released guide's own fill.sh prints them over the translation 20edb94af3d6f2eb… (all of the seat's roots in one cut). By AI agents, Wed Nov 11 2026. No macro, syntax, notation, axiom, sorry.
-/
import Derived.Test.YtcjonnfhnddapaaChecked
import GoSem.Claim
import GoSem.ClaimJoined
import GoSem.ClaimMapViews
import Derived.JoinedTies
import Derived.KernelRfl
namespace Go.Proofs.Ytcjonnfhnddapaa
/- THE CELL 'sum', in the pinned program and in every row, IS THE sha256 OF THE DUMP (.gsa) THAT YtcjonnfhnddapaaProg.lean LOADS. Nothing in Lean hashes anything: it is a label: what it is worth is what the hold of that sum in a sandbox is worth. -/
noncomputable def Try.pinned : Pinned := { name := "ytcjonnfhnddapaa", sum := "20edb94af3d6f2ebe0008c74ba5607dafa2613273a05e6fb871c373fe0c2996e", checked := Try.checked }
namespace Rows
def none {H : Type} : Left H := { results := [], args := [] }

/-- 'banyanlaw01.LetterPieces': WHATEVER THE INPUT: true; the input reads as it did. -/
def letterPiecesSpec : ChangeSpec := { name := "letterPieces", fn := fun _ => fun
  | [d1, d2] => { results := [.lit (.bool true)], args := [d1, d2] }
  | _ => none }
def letterPiecesRow : OpenClaim := { program := "ytcjonnfhnddapaa", sum := "20edb94af3d6f2ebe0008c74ba5607dafa2613273a05e6fb871c373fe0c2996e", func := "banyan/banyanlaw01.LetterPieces", spec := "letterPieces", apart := false }
def LetterPiecesSaid : Prop := letterPiecesRow.holds Try.pinned (OpenSpec.ofChange letterPiecesSpec)

/-- ITS FALSE NEIGHBOUR: 'it returns false'. Refute it at one input. -/
def letterPiecesWrong : ChangeSpec := { name := "letterPieces", fn := fun _ => fun
  | [d1, d2] => { results := [.lit (.bool false)], args := [d1, d2] }
  | _ => none }
def LetterPiecesWrongFalsely : Prop := letterPiecesRow.holds Try.pinned (OpenSpec.ofChange letterPiecesWrong)

/-- 'banyanlaw01.LetterFits': WHATEVER THE INPUT: true; the input reads as it did. -/
def letterFitsSpec : ChangeSpec := { name := "letterFits", fn := fun _ => fun
  | [d1, d2] => { results := [.lit (.bool true)], args := [d1, d2] }
  | _ => none }
def letterFitsRow : OpenClaim := { program := "ytcjonnfhnddapaa", sum := "20edb94af3d6f2ebe0008c74ba5607dafa2613273a05e6fb871c373fe0c2996e", func := "banyan/banyanlaw01.LetterFits", spec := "letterFits", apart := false }
def LetterFitsSaid : Prop := letterFitsRow.holds Try.pinned (OpenSpec.ofChange letterFitsSpec)

/-- ITS FALSE NEIGHBOUR: 'it returns false'. Refute it at one input. -/
def letterFitsWrong : ChangeSpec := { name := "letterFits", fn := fun _ => fun
  | [d1, d2] => { results := [.lit (.bool false)], args := [d1, d2] }
  | _ => none }
def LetterFitsWrongFalsely : Prop := letterFitsRow.holds Try.pinned (OpenSpec.ofChange letterFitsWrong)

/-- 'banyanlaw01.LetterTiles': WHATEVER THE INPUT: true; the input reads as it did. -/
def letterTilesSpec : ChangeSpec := { name := "letterTiles", fn := fun _ => fun
  | [d1, d2] => { results := [.lit (.bool true)], args := [d1, d2] }
  | _ => none }
def letterTilesRow : OpenClaim := { program := "ytcjonnfhnddapaa", sum := "20edb94af3d6f2ebe0008c74ba5607dafa2613273a05e6fb871c373fe0c2996e", func := "banyan/banyanlaw01.LetterTiles", spec := "letterTiles", apart := false }
def LetterTilesSaid : Prop := letterTilesRow.holds Try.pinned (OpenSpec.ofChange letterTilesSpec)

/-- ITS FALSE NEIGHBOUR: 'it returns false'. Refute it at one input. -/
def letterTilesWrong : ChangeSpec := { name := "letterTiles", fn := fun _ => fun
  | [d1, d2] => { results := [.lit (.bool false)], args := [d1, d2] }
  | _ => none }
def LetterTilesWrongFalsely : Prop := letterTilesRow.holds Try.pinned (OpenSpec.ofChange letterTilesWrong)

/-- 'banyanlaw18.UniqueNames': WHATEVER THE INPUT: true; the input reads as it did. -/
def uniqueNamesSpec : ChangeSpec := { name := "uniqueNames", fn := fun _ => fun
  | [d1, d2, d3] => { results := [.lit (.bool true)], args := [d1, d2, d3] }
  | _ => none }
def uniqueNamesRow : OpenClaim := { program := "ytcjonnfhnddapaa", sum := "20edb94af3d6f2ebe0008c74ba5607dafa2613273a05e6fb871c373fe0c2996e", func := "banyan/banyanlaw18.UniqueNames", spec := "uniqueNames", recurses := true, apart := false }
def UniqueNamesSaid : Prop := uniqueNamesRow.holds Try.pinned (OpenSpec.ofChange uniqueNamesSpec)

/-- ITS FALSE NEIGHBOUR: 'it returns false'. Refute it at one input. -/
def uniqueNamesWrong : ChangeSpec := { name := "uniqueNames", fn := fun _ => fun
  | [d1, d2, d3] => { results := [.lit (.bool false)], args := [d1, d2, d3] }
  | _ => none }
def UniqueNamesWrongFalsely : Prop := uniqueNamesRow.holds Try.pinned (OpenSpec.ofChange uniqueNamesWrong)

/-- 'banyanlaw18.UniqueApart': WHATEVER THE INPUT: true; the input reads as it did. -/
def uniqueApartSpec : ChangeSpec := { name := "uniqueApart", fn := fun _ => fun
  | [d1, d2] => { results := [.lit (.bool true)], args := [d1, d2] }
  | _ => none }
def uniqueApartRow : OpenClaim := { program := "ytcjonnfhnddapaa", sum := "20edb94af3d6f2ebe0008c74ba5607dafa2613273a05e6fb871c373fe0c2996e", func := "banyan/banyanlaw18.UniqueApart", spec := "uniqueApart", apart := false }
def UniqueApartSaid : Prop := uniqueApartRow.holds Try.pinned (OpenSpec.ofChange uniqueApartSpec)

/-- ITS FALSE NEIGHBOUR: 'it returns false'. Refute it at one input. -/
def uniqueApartWrong : ChangeSpec := { name := "uniqueApart", fn := fun _ => fun
  | [d1, d2] => { results := [.lit (.bool false)], args := [d1, d2] }
  | _ => none }
def UniqueApartWrongFalsely : Prop := uniqueApartRow.holds Try.pinned (OpenSpec.ofChange uniqueApartWrong)

/-- 'banyanlaw18.UniqueStays': WHATEVER THE INPUT: true; the input reads as it did. -/
def uniqueStaysSpec : ChangeSpec := { name := "uniqueStays", fn := fun _ => fun
  | [d1, d2, d3, d4] => { results := [.lit (.bool true)], args := [d1, d2, d3, d4] }
  | _ => none }
def uniqueStaysRow : OpenClaim := { program := "ytcjonnfhnddapaa", sum := "20edb94af3d6f2ebe0008c74ba5607dafa2613273a05e6fb871c373fe0c2996e", func := "banyan/banyanlaw18.UniqueStays", spec := "uniqueStays", apart := false }
def UniqueStaysSaid : Prop := uniqueStaysRow.holds Try.pinned (OpenSpec.ofChange uniqueStaysSpec)

/-- ITS FALSE NEIGHBOUR: 'it returns false'. Refute it at one input. -/
def uniqueStaysWrong : ChangeSpec := { name := "uniqueStays", fn := fun _ => fun
  | [d1, d2, d3, d4] => { results := [.lit (.bool false)], args := [d1, d2, d3, d4] }
  | _ => none }
def UniqueStaysWrongFalsely : Prop := uniqueStaysRow.holds Try.pinned (OpenSpec.ofChange uniqueStaysWrong)

/-- 'banyanlaw02.NameChecks': WHATEVER THE INPUT: true; the input reads as it did. -/
def nameChecksSpec : ChangeSpec := { name := "nameChecks", fn := fun _ => fun
  | [d1, d2] => { results := [.lit (.bool true)], args := [d1, d2] }
  | _ => none }
def nameChecksRow : OpenClaim := { program := "ytcjonnfhnddapaa", sum := "20edb94af3d6f2ebe0008c74ba5607dafa2613273a05e6fb871c373fe0c2996e", func := "banyan/banyanlaw02.NameChecks", spec := "nameChecks", unfollowed := true, recurses := true, apart := false }
def NameChecksSaid : Prop := nameChecksRow.holds Try.pinned (OpenSpec.ofChange nameChecksSpec)

/-- ITS FALSE NEIGHBOUR: 'it returns false'. Refute it at one input. -/
def nameChecksWrong : ChangeSpec := { name := "nameChecks", fn := fun _ => fun
  | [d1, d2] => { results := [.lit (.bool false)], args := [d1, d2] }
  | _ => none }
def NameChecksWrongFalsely : Prop := nameChecksRow.holds Try.pinned (OpenSpec.ofChange nameChecksWrong)

/-- 'banyanlaw02.NameSuffixes': WHATEVER THE INPUT: true; the input reads as it did. -/
def nameSuffixesSpec : ChangeSpec := { name := "nameSuffixes", fn := fun _ => fun
  | [d1, d2] => { results := [.lit (.bool true)], args := [d1, d2] }
  | _ => none }
def nameSuffixesRow : OpenClaim := { program := "ytcjonnfhnddapaa", sum := "20edb94af3d6f2ebe0008c74ba5607dafa2613273a05e6fb871c373fe0c2996e", func := "banyan/banyanlaw02.NameSuffixes", spec := "nameSuffixes", unfollowed := true, recurses := true, apart := false }
def NameSuffixesSaid : Prop := nameSuffixesRow.holds Try.pinned (OpenSpec.ofChange nameSuffixesSpec)

/-- ITS FALSE NEIGHBOUR: 'it returns false'. Refute it at one input. -/
def nameSuffixesWrong : ChangeSpec := { name := "nameSuffixes", fn := fun _ => fun
  | [d1, d2] => { results := [.lit (.bool false)], args := [d1, d2] }
  | _ => none }
def NameSuffixesWrongFalsely : Prop := nameSuffixesRow.holds Try.pinned (OpenSpec.ofChange nameSuffixesWrong)

/-- 'banyanlaw02.NameQuotes': WHATEVER THE INPUT: true; the input reads as it did. -/
def nameQuotesSpec : ChangeSpec := { name := "nameQuotes", fn := fun _ => fun
  | [d] => { results := [.lit (.bool true)], args := [d] }
  | _ => none }
def nameQuotesRow : OpenClaim := { program := "ytcjonnfhnddapaa", sum := "20edb94af3d6f2ebe0008c74ba5607dafa2613273a05e6fb871c373fe0c2996e", func := "banyan/banyanlaw02.NameQuotes", spec := "nameQuotes", unfollowed := true, recurses := true, apart := false }
def NameQuotesSaid : Prop := nameQuotesRow.holds Try.pinned (OpenSpec.ofChange nameQuotesSpec)

/-- ITS FALSE NEIGHBOUR: 'it returns false'. Refute it at one input. -/
def nameQuotesWrong : ChangeSpec := { name := "nameQuotes", fn := fun _ => fun
  | [d] => { results := [.lit (.bool false)], args := [d] }
  | _ => none }
def NameQuotesWrongFalsely : Prop := nameQuotesRow.holds Try.pinned (OpenSpec.ofChange nameQuotesWrong)

/-- 'banyanlaw02.NameCleans': WHATEVER THE INPUT: true; the input reads as it did. -/
def nameCleansSpec : ChangeSpec := { name := "nameCleans", fn := fun _ => fun
  | [d] => { results := [.lit (.bool true)], args := [d] }
  | _ => none }
def nameCleansRow : OpenClaim := { program := "ytcjonnfhnddapaa", sum := "20edb94af3d6f2ebe0008c74ba5607dafa2613273a05e6fb871c373fe0c2996e", func := "banyan/banyanlaw02.NameCleans", spec := "nameCleans", unfollowed := true, recurses := true, apart := false }
def NameCleansSaid : Prop := nameCleansRow.holds Try.pinned (OpenSpec.ofChange nameCleansSpec)

/-- ITS FALSE NEIGHBOUR: 'it returns false'. Refute it at one input. -/
def nameCleansWrong : ChangeSpec := { name := "nameCleans", fn := fun _ => fun
  | [d] => { results := [.lit (.bool false)], args := [d] }
  | _ => none }
def NameCleansWrongFalsely : Prop := nameCleansRow.holds Try.pinned (OpenSpec.ofChange nameCleansWrong)

/-- 'banyanlaw02.NameApart': WHATEVER THE INPUT: true; the input reads as it did. -/
def nameApartSpec : ChangeSpec := { name := "nameApart", fn := fun _ => fun
  | [d1, d2, d3] => { results := [.lit (.bool true)], args := [d1, d2, d3] }
  | _ => none }
def nameApartRow : OpenClaim := { program := "ytcjonnfhnddapaa", sum := "20edb94af3d6f2ebe0008c74ba5607dafa2613273a05e6fb871c373fe0c2996e", func := "banyan/banyanlaw02.NameApart", spec := "nameApart", unfollowed := true, recurses := true, apart := false }
def NameApartSaid : Prop := nameApartRow.holds Try.pinned (OpenSpec.ofChange nameApartSpec)

/-- ITS FALSE NEIGHBOUR: 'it returns false'. Refute it at one input. -/
def nameApartWrong : ChangeSpec := { name := "nameApart", fn := fun _ => fun
  | [d1, d2, d3] => { results := [.lit (.bool false)], args := [d1, d2, d3] }
  | _ => none }
def NameApartWrongFalsely : Prop := nameApartRow.holds Try.pinned (OpenSpec.ofChange nameApartWrong)

/- THE SECOND FORM. 'bulk': how many values and letters a reading holds, each counted each time it is reached (what is shared counts as often as it is met; a slice's spare places count too). A statement '..UptoSaid' is the law's where the arguments, and the package variables that the reading takes, are together of bulk at most 1048576: NARROWER than '..Said'. Prove '..Said' where nothing that the law and all that it calls make is longer than what came in: it says more and counts as full. Else prove '..UptoSaid'. A law counts once. -/
mutual
def uptoBulk {H : Type} : DataW H → Nat
  | .lit (.string bytes) => bytes.length + 1
  | .lit _ => 1
  | .nil => 1
  | .ptr d => uptoBulk d + 1
  | .slice elems spare => uptoBulkAll elems + uptoBulkAll spare + 1
  | .agg parts => uptoBulkAll parts + 1
  | .iface _ d => uptoBulk d + 1
  | .map entries => uptoBulkEntries entries + 1
  | .held _ => 1
def uptoBulkAll {H : Type} : List (DataW H) → Nat
  | [] => 0
  | d :: r => uptoBulk d + uptoBulkAll r
def uptoBulkEntries {H : Type} : List (Lit × DataW H) → Nat
  | [] => 0
  | x :: r => uptoBulkEntry x + uptoBulkEntries r
def uptoBulkEntry {H : Type} : Lit × DataW H → Nat
  | (.string bytes, d) => bytes.length + uptoBulk d + 1
  | (_, d) => uptoBulk d + 1
 end
def uptoSmall : (H : Type) → List (DataW H) → Bool := fun _ ds => decide (uptoBulkAll ds ≤ 1048576)
def OpenSpec.upto (s : _root_.Go.ChangeSpec) : _root_.Go.OpenSpec := { _root_.Go.OpenSpec.ofChange s with cond := some uptoSmall }

/-- 'banyanlaw01.LetterPieces', WHERE WHAT IT READS IS OF BULK AT MOST 1048576: true; the input reads as it did. -/
def letterPiecesUptoRow : OpenClaim := { program := "ytcjonnfhnddapaa", sum := "20edb94af3d6f2ebe0008c74ba5607dafa2613273a05e6fb871c373fe0c2996e", func := "banyan/banyanlaw01.LetterPieces", spec := "letterPieces", apart := false, narrowed := true }
def LetterPiecesUptoSaid : Prop := letterPiecesUptoRow.holds Try.pinned (OpenSpec.upto letterPiecesSpec)

/-- 'banyanlaw01.LetterFits', WHERE WHAT IT READS IS OF BULK AT MOST 1048576: true; the input reads as it did. -/
def letterFitsUptoRow : OpenClaim := { program := "ytcjonnfhnddapaa", sum := "20edb94af3d6f2ebe0008c74ba5607dafa2613273a05e6fb871c373fe0c2996e", func := "banyan/banyanlaw01.LetterFits", spec := "letterFits", apart := false, narrowed := true }
def LetterFitsUptoSaid : Prop := letterFitsUptoRow.holds Try.pinned (OpenSpec.upto letterFitsSpec)

/-- 'banyanlaw01.LetterTiles', WHERE WHAT IT READS IS OF BULK AT MOST 1048576: true; the input reads as it did. -/
def letterTilesUptoRow : OpenClaim := { program := "ytcjonnfhnddapaa", sum := "20edb94af3d6f2ebe0008c74ba5607dafa2613273a05e6fb871c373fe0c2996e", func := "banyan/banyanlaw01.LetterTiles", spec := "letterTiles", apart := false, narrowed := true }
def LetterTilesUptoSaid : Prop := letterTilesUptoRow.holds Try.pinned (OpenSpec.upto letterTilesSpec)

/-- 'banyanlaw18.UniqueNames', WHERE WHAT IT READS IS OF BULK AT MOST 1048576: true; the input reads as it did. -/
def uniqueNamesUptoRow : OpenClaim := { program := "ytcjonnfhnddapaa", sum := "20edb94af3d6f2ebe0008c74ba5607dafa2613273a05e6fb871c373fe0c2996e", func := "banyan/banyanlaw18.UniqueNames", spec := "uniqueNames", recurses := true, apart := false, narrowed := true }
def UniqueNamesUptoSaid : Prop := uniqueNamesUptoRow.holds Try.pinned (OpenSpec.upto uniqueNamesSpec)

/-- 'banyanlaw18.UniqueApart', WHERE WHAT IT READS IS OF BULK AT MOST 1048576: true; the input reads as it did. -/
def uniqueApartUptoRow : OpenClaim := { program := "ytcjonnfhnddapaa", sum := "20edb94af3d6f2ebe0008c74ba5607dafa2613273a05e6fb871c373fe0c2996e", func := "banyan/banyanlaw18.UniqueApart", spec := "uniqueApart", apart := false, narrowed := true }
def UniqueApartUptoSaid : Prop := uniqueApartUptoRow.holds Try.pinned (OpenSpec.upto uniqueApartSpec)

/-- 'banyanlaw18.UniqueStays', WHERE WHAT IT READS IS OF BULK AT MOST 1048576: true; the input reads as it did. -/
def uniqueStaysUptoRow : OpenClaim := { program := "ytcjonnfhnddapaa", sum := "20edb94af3d6f2ebe0008c74ba5607dafa2613273a05e6fb871c373fe0c2996e", func := "banyan/banyanlaw18.UniqueStays", spec := "uniqueStays", apart := false, narrowed := true }
def UniqueStaysUptoSaid : Prop := uniqueStaysUptoRow.holds Try.pinned (OpenSpec.upto uniqueStaysSpec)

/-- 'banyanlaw02.NameChecks', WHERE WHAT IT READS IS OF BULK AT MOST 1048576: true; the input reads as it did. -/
def nameChecksUptoRow : OpenClaim := { program := "ytcjonnfhnddapaa", sum := "20edb94af3d6f2ebe0008c74ba5607dafa2613273a05e6fb871c373fe0c2996e", func := "banyan/banyanlaw02.NameChecks", spec := "nameChecks", unfollowed := true, recurses := true, apart := false, narrowed := true }
def NameChecksUptoSaid : Prop := nameChecksUptoRow.holds Try.pinned (OpenSpec.upto nameChecksSpec)

/-- 'banyanlaw02.NameSuffixes', WHERE WHAT IT READS IS OF BULK AT MOST 1048576: true; the input reads as it did. -/
def nameSuffixesUptoRow : OpenClaim := { program := "ytcjonnfhnddapaa", sum := "20edb94af3d6f2ebe0008c74ba5607dafa2613273a05e6fb871c373fe0c2996e", func := "banyan/banyanlaw02.NameSuffixes", spec := "nameSuffixes", unfollowed := true, recurses := true, apart := false, narrowed := true }
def NameSuffixesUptoSaid : Prop := nameSuffixesUptoRow.holds Try.pinned (OpenSpec.upto nameSuffixesSpec)

/-- 'banyanlaw02.NameQuotes', WHERE WHAT IT READS IS OF BULK AT MOST 1048576: true; the input reads as it did. -/
def nameQuotesUptoRow : OpenClaim := { program := "ytcjonnfhnddapaa", sum := "20edb94af3d6f2ebe0008c74ba5607dafa2613273a05e6fb871c373fe0c2996e", func := "banyan/banyanlaw02.NameQuotes", spec := "nameQuotes", unfollowed := true, recurses := true, apart := false, narrowed := true }
def NameQuotesUptoSaid : Prop := nameQuotesUptoRow.holds Try.pinned (OpenSpec.upto nameQuotesSpec)

/-- 'banyanlaw02.NameCleans', WHERE WHAT IT READS IS OF BULK AT MOST 1048576: true; the input reads as it did. -/
def nameCleansUptoRow : OpenClaim := { program := "ytcjonnfhnddapaa", sum := "20edb94af3d6f2ebe0008c74ba5607dafa2613273a05e6fb871c373fe0c2996e", func := "banyan/banyanlaw02.NameCleans", spec := "nameCleans", unfollowed := true, recurses := true, apart := false, narrowed := true }
def NameCleansUptoSaid : Prop := nameCleansUptoRow.holds Try.pinned (OpenSpec.upto nameCleansSpec)

/-- 'banyanlaw02.NameApart', WHERE WHAT IT READS IS OF BULK AT MOST 1048576: true; the input reads as it did. -/
def nameApartUptoRow : OpenClaim := { program := "ytcjonnfhnddapaa", sum := "20edb94af3d6f2ebe0008c74ba5607dafa2613273a05e6fb871c373fe0c2996e", func := "banyan/banyanlaw02.NameApart", spec := "nameApart", unfollowed := true, recurses := true, apart := false, narrowed := true }
def NameApartUptoSaid : Prop := nameApartUptoRow.holds Try.pinned (OpenSpec.upto nameApartSpec)

end Rows
end Go.Proofs.Ytcjonnfhnddapaa
