/-
  No cell of these rows narrows 'for every input' (looked for: loops, veiled, ifaces, maps, wideKeys, modest, calm, conditions, laid).
  DERIVED. THE GIVEN ROWS OF THIS SEAT. 8 by the template 'for every input the law returns true; each argument reads behind the call as it read before'; 0 by the template 'total and deterministic' (their statements: YtapgkaecamljbaaTotals.lean).
  GIVEN WITH THE SEED: the statements are not yours to turn. If you find one false, say at which input.
  Laid BY PROGRAM, IN A SANDBOX (cutbox-rows.mjs): the forced cells as the released guide's own fill.sh prints them over the translation ea8d91b33e77c6bf… (all of the seat's roots in one cut). By AI agents, Wed Nov 11 2026. No macro, syntax, notation, axiom, sorry.
-/
import Derived.Test.YtapgkaecamljbaaChecked
import GoSem.Claim
import GoSem.ClaimJoined
import GoSem.ClaimMapViews
import Derived.JoinedTies
import Derived.KernelRfl
namespace Go.Proofs.Ytapgkaecamljbaa
/- THE CELL 'sum', in the pinned program and in every row, IS THE sha256 OF THE DUMP (.gsa) THAT YtapgkaecamljbaaProg.lean LOADS. Nothing in Lean hashes anything: it is a label: what it is worth is what the hold of that sum in a sandbox is worth. -/
noncomputable def Try.pinned : Pinned := { name := "ytapgkaecamljbaa", sum := "ea8d91b33e77c6bfaa520d37a82428da2b5c09085f1cd0426ac2d093c3f71d95", checked := Try.checked }
namespace Rows
def none {H : Type} : Left H := { results := [], args := [] }

/-- 'floodgatelaw13.BookApplies': WHATEVER THE INPUT: true; the input reads as it did. -/
def bookAppliesSpec : ChangeSpec := { name := "bookApplies", fn := fun _ => fun
  | [d1, d2] => { results := [.lit (.bool true)], args := [d1, d2] }
  | _ => none }
def bookAppliesRow : OpenClaim := { program := "ytapgkaecamljbaa", sum := "ea8d91b33e77c6bfaa520d37a82428da2b5c09085f1cd0426ac2d093c3f71d95", func := "floodgate/floodgatelaw13.BookApplies", spec := "bookApplies", unfollowed := true, recurses := true, plainKeys := false, apart := false }
def BookAppliesSaid : Prop := bookAppliesRow.holds Try.pinned (OpenSpec.ofChange bookAppliesSpec)

/-- ITS FALSE NEIGHBOUR: 'it returns false'. Refute it at one input. -/
def bookAppliesWrong : ChangeSpec := { name := "bookApplies", fn := fun _ => fun
  | [d1, d2] => { results := [.lit (.bool false)], args := [d1, d2] }
  | _ => none }
def BookAppliesWrongFalsely : Prop := bookAppliesRow.holds Try.pinned (OpenSpec.ofChange bookAppliesWrong)

/-- 'floodgatelaw13.BookRolls': WHATEVER THE INPUT: true; the input reads as it did. -/
def bookRollsSpec : ChangeSpec := { name := "bookRolls", fn := fun _ => fun
  | [d1, d2, d3] => { results := [.lit (.bool true)], args := [d1, d2, d3] }
  | _ => none }
def bookRollsRow : OpenClaim := { program := "ytapgkaecamljbaa", sum := "ea8d91b33e77c6bfaa520d37a82428da2b5c09085f1cd0426ac2d093c3f71d95", func := "floodgate/floodgatelaw13.BookRolls", spec := "bookRolls", unfollowed := true, recurses := true, plainKeys := false, apart := false }
def BookRollsSaid : Prop := bookRollsRow.holds Try.pinned (OpenSpec.ofChange bookRollsSpec)

/-- ITS FALSE NEIGHBOUR: 'it returns false'. Refute it at one input. -/
def bookRollsWrong : ChangeSpec := { name := "bookRolls", fn := fun _ => fun
  | [d1, d2, d3] => { results := [.lit (.bool false)], args := [d1, d2, d3] }
  | _ => none }
def BookRollsWrongFalsely : Prop := bookRollsRow.holds Try.pinned (OpenSpec.ofChange bookRollsWrong)

/-- 'floodgatelaw13.BookTells': WHATEVER THE INPUT: true; the input reads as it did. -/
def bookTellsSpec : ChangeSpec := { name := "bookTells", fn := fun _ => fun
  | [d1, d2, d3] => { results := [.lit (.bool true)], args := [d1, d2, d3] }
  | _ => none }
def bookTellsRow : OpenClaim := { program := "ytapgkaecamljbaa", sum := "ea8d91b33e77c6bfaa520d37a82428da2b5c09085f1cd0426ac2d093c3f71d95", func := "floodgate/floodgatelaw13.BookTells", spec := "bookTells", unfollowed := true, recurses := true, plainKeys := false, apart := false }
def BookTellsSaid : Prop := bookTellsRow.holds Try.pinned (OpenSpec.ofChange bookTellsSpec)

/-- ITS FALSE NEIGHBOUR: 'it returns false'. Refute it at one input. -/
def bookTellsWrong : ChangeSpec := { name := "bookTells", fn := fun _ => fun
  | [d1, d2, d3] => { results := [.lit (.bool false)], args := [d1, d2, d3] }
  | _ => none }
def BookTellsWrongFalsely : Prop := bookTellsRow.holds Try.pinned (OpenSpec.ofChange bookTellsWrong)

/-- 'floodgatelaw13.BookSums': WHATEVER THE INPUT: true; the input reads as it did. -/
def bookSumsSpec : ChangeSpec := { name := "bookSums", fn := fun _ => fun
  | [d] => { results := [.lit (.bool true)], args := [d] }
  | _ => none }
def bookSumsRow : OpenClaim := { program := "ytapgkaecamljbaa", sum := "ea8d91b33e77c6bfaa520d37a82428da2b5c09085f1cd0426ac2d093c3f71d95", func := "floodgate/floodgatelaw13.BookSums", spec := "bookSums", unfollowed := true, recurses := true, plainKeys := false, apart := false }
def BookSumsSaid : Prop := bookSumsRow.holds Try.pinned (OpenSpec.ofChange bookSumsSpec)

/-- ITS FALSE NEIGHBOUR: 'it returns false'. Refute it at one input. -/
def bookSumsWrong : ChangeSpec := { name := "bookSums", fn := fun _ => fun
  | [d] => { results := [.lit (.bool false)], args := [d] }
  | _ => none }
def BookSumsWrongFalsely : Prop := bookSumsRow.holds Try.pinned (OpenSpec.ofChange bookSumsWrong)

/-- 'floodgatelaw13.BookOrder': WHATEVER THE INPUT: true; the input reads as it did. -/
def bookOrderSpec : ChangeSpec := { name := "bookOrder", fn := fun _ => fun
  | [d1, d2, d3] => { results := [.lit (.bool true)], args := [d1, d2, d3] }
  | _ => none }
def bookOrderRow : OpenClaim := { program := "ytapgkaecamljbaa", sum := "ea8d91b33e77c6bfaa520d37a82428da2b5c09085f1cd0426ac2d093c3f71d95", func := "floodgate/floodgatelaw13.BookOrder", spec := "bookOrder", unfollowed := true, recurses := true, plainKeys := false, apart := false }
def BookOrderSaid : Prop := bookOrderRow.holds Try.pinned (OpenSpec.ofChange bookOrderSpec)

/-- ITS FALSE NEIGHBOUR: 'it returns false'. Refute it at one input. -/
def bookOrderWrong : ChangeSpec := { name := "bookOrder", fn := fun _ => fun
  | [d1, d2, d3] => { results := [.lit (.bool false)], args := [d1, d2, d3] }
  | _ => none }
def BookOrderWrongFalsely : Prop := bookOrderRow.holds Try.pinned (OpenSpec.ofChange bookOrderWrong)

/-- 'floodgatelaw13.BookNames': WHATEVER THE INPUT: true; the input reads as it did. -/
def bookNamesSpec : ChangeSpec := { name := "bookNames", fn := fun _ => fun
  | [] => { results := [.lit (.bool true)], args := [] }
  | _ => none }
def bookNamesRow : OpenClaim := { program := "ytapgkaecamljbaa", sum := "ea8d91b33e77c6bfaa520d37a82428da2b5c09085f1cd0426ac2d093c3f71d95", func := "floodgate/floodgatelaw13.BookNames", spec := "bookNames", unfollowed := true, recurses := true, plainKeys := false, apart := false }
def BookNamesSaid : Prop := bookNamesRow.holds Try.pinned (OpenSpec.ofChange bookNamesSpec)

/-- ITS FALSE NEIGHBOUR: 'it returns false'. Refute it at one input. -/
def bookNamesWrong : ChangeSpec := { name := "bookNames", fn := fun _ => fun
  | [] => { results := [.lit (.bool false)], args := [] }
  | _ => none }
def BookNamesWrongFalsely : Prop := bookNamesRow.holds Try.pinned (OpenSpec.ofChange bookNamesWrong)

/-- 'floodgatelaw13.BookReads': WHATEVER THE INPUT: true; the input reads as it did. -/
def bookReadsSpec : ChangeSpec := { name := "bookReads", fn := fun _ => fun
  | [d] => { results := [.lit (.bool true)], args := [d] }
  | _ => none }
def bookReadsRow : OpenClaim := { program := "ytapgkaecamljbaa", sum := "ea8d91b33e77c6bfaa520d37a82428da2b5c09085f1cd0426ac2d093c3f71d95", func := "floodgate/floodgatelaw13.BookReads", spec := "bookReads", unfollowed := true, recurses := true, plainKeys := false, apart := false }
def BookReadsSaid : Prop := bookReadsRow.holds Try.pinned (OpenSpec.ofChange bookReadsSpec)

/-- ITS FALSE NEIGHBOUR: 'it returns false'. Refute it at one input. -/
def bookReadsWrong : ChangeSpec := { name := "bookReads", fn := fun _ => fun
  | [d] => { results := [.lit (.bool false)], args := [d] }
  | _ => none }
def BookReadsWrongFalsely : Prop := bookReadsRow.holds Try.pinned (OpenSpec.ofChange bookReadsWrong)

/-- 'floodgatelaw13.BookBack': WHATEVER THE INPUT: true; the input reads as it did. -/
def bookBackSpec : ChangeSpec := { name := "bookBack", fn := fun _ => fun
  | [d1, d2] => { results := [.lit (.bool true)], args := [d1, d2] }
  | _ => none }
def bookBackRow : OpenClaim := { program := "ytapgkaecamljbaa", sum := "ea8d91b33e77c6bfaa520d37a82428da2b5c09085f1cd0426ac2d093c3f71d95", func := "floodgate/floodgatelaw13.BookBack", spec := "bookBack", unfollowed := true, recurses := true, plainKeys := false, apart := false }
def BookBackSaid : Prop := bookBackRow.holds Try.pinned (OpenSpec.ofChange bookBackSpec)

/-- ITS FALSE NEIGHBOUR: 'it returns false'. Refute it at one input. -/
def bookBackWrong : ChangeSpec := { name := "bookBack", fn := fun _ => fun
  | [d1, d2] => { results := [.lit (.bool false)], args := [d1, d2] }
  | _ => none }
def BookBackWrongFalsely : Prop := bookBackRow.holds Try.pinned (OpenSpec.ofChange bookBackWrong)

/- THE SECOND FORM. 'bulk': how many values and letters a reading holds, each counted each time it is reached (what is shared counts as often as it is met; a slice's spare places count too). A statement '..UptoSaid' is the law's where the arguments, and the package variables that the reading takes, are together of bulk at most 1048576: NARROWER than '..Said'. Prove '..Said' where nothing that the law and all that it calls make is longer than what came in: it says more and counts as full. Else prove '..UptoSaid'. A law counts once. -/
mutual
def uptoBulk {H : Type} : DataW H → Nat
  | .lit (.string bytes) => bytes.length + 1
  | .lit _ => 1
  | .nil => 1
  | .ptr d => uptoBulk d + 1
  | .slice elems spare => uptoBulkAll elems + uptoBulkAll spare + 1
  | .agg parts => uptoBulkAll parts + 1
  | .iface _ d => uptoBulk d + 1
  | .map entries => uptoBulkEntries entries + 1
  | .held _ => 1
def uptoBulkAll {H : Type} : List (DataW H) → Nat
  | [] => 0
  | d :: r => uptoBulk d + uptoBulkAll r
def uptoBulkEntries {H : Type} : List (Lit × DataW H) → Nat
  | [] => 0
  | x :: r => uptoBulkEntry x + uptoBulkEntries r
def uptoBulkEntry {H : Type} : Lit × DataW H → Nat
  | (.string bytes, d) => bytes.length + uptoBulk d + 1
  | (_, d) => uptoBulk d + 1
 end
def uptoSmall : (H : Type) → List (DataW H) → Bool := fun _ ds => decide (uptoBulkAll ds ≤ 1048576)
def OpenSpec.upto (s : _root_.Go.ChangeSpec) : _root_.Go.OpenSpec := { _root_.Go.OpenSpec.ofChange s with cond := some uptoSmall }

/-- 'floodgatelaw13.BookApplies', WHERE WHAT IT READS IS OF BULK AT MOST 1048576: true; the input reads as it did. -/
def bookAppliesUptoRow : OpenClaim := { program := "ytapgkaecamljbaa", sum := "ea8d91b33e77c6bfaa520d37a82428da2b5c09085f1cd0426ac2d093c3f71d95", func := "floodgate/floodgatelaw13.BookApplies", spec := "bookApplies", unfollowed := true, recurses := true, plainKeys := false, apart := false, narrowed := true }
def BookAppliesUptoSaid : Prop := bookAppliesUptoRow.holds Try.pinned (OpenSpec.upto bookAppliesSpec)

/-- 'floodgatelaw13.BookRolls', WHERE WHAT IT READS IS OF BULK AT MOST 1048576: true; the input reads as it did. -/
def bookRollsUptoRow : OpenClaim := { program := "ytapgkaecamljbaa", sum := "ea8d91b33e77c6bfaa520d37a82428da2b5c09085f1cd0426ac2d093c3f71d95", func := "floodgate/floodgatelaw13.BookRolls", spec := "bookRolls", unfollowed := true, recurses := true, plainKeys := false, apart := false, narrowed := true }
def BookRollsUptoSaid : Prop := bookRollsUptoRow.holds Try.pinned (OpenSpec.upto bookRollsSpec)

/-- 'floodgatelaw13.BookTells', WHERE WHAT IT READS IS OF BULK AT MOST 1048576: true; the input reads as it did. -/
def bookTellsUptoRow : OpenClaim := { program := "ytapgkaecamljbaa", sum := "ea8d91b33e77c6bfaa520d37a82428da2b5c09085f1cd0426ac2d093c3f71d95", func := "floodgate/floodgatelaw13.BookTells", spec := "bookTells", unfollowed := true, recurses := true, plainKeys := false, apart := false, narrowed := true }
def BookTellsUptoSaid : Prop := bookTellsUptoRow.holds Try.pinned (OpenSpec.upto bookTellsSpec)

/-- 'floodgatelaw13.BookSums', WHERE WHAT IT READS IS OF BULK AT MOST 1048576: true; the input reads as it did. -/
def bookSumsUptoRow : OpenClaim := { program := "ytapgkaecamljbaa", sum := "ea8d91b33e77c6bfaa520d37a82428da2b5c09085f1cd0426ac2d093c3f71d95", func := "floodgate/floodgatelaw13.BookSums", spec := "bookSums", unfollowed := true, recurses := true, plainKeys := false, apart := false, narrowed := true }
def BookSumsUptoSaid : Prop := bookSumsUptoRow.holds Try.pinned (OpenSpec.upto bookSumsSpec)

/-- 'floodgatelaw13.BookOrder', WHERE WHAT IT READS IS OF BULK AT MOST 1048576: true; the input reads as it did. -/
def bookOrderUptoRow : OpenClaim := { program := "ytapgkaecamljbaa", sum := "ea8d91b33e77c6bfaa520d37a82428da2b5c09085f1cd0426ac2d093c3f71d95", func := "floodgate/floodgatelaw13.BookOrder", spec := "bookOrder", unfollowed := true, recurses := true, plainKeys := false, apart := false, narrowed := true }
def BookOrderUptoSaid : Prop := bookOrderUptoRow.holds Try.pinned (OpenSpec.upto bookOrderSpec)

/-- 'floodgatelaw13.BookNames', WHERE WHAT IT READS IS OF BULK AT MOST 1048576: true; the input reads as it did. -/
def bookNamesUptoRow : OpenClaim := { program := "ytapgkaecamljbaa", sum := "ea8d91b33e77c6bfaa520d37a82428da2b5c09085f1cd0426ac2d093c3f71d95", func := "floodgate/floodgatelaw13.BookNames", spec := "bookNames", unfollowed := true, recurses := true, plainKeys := false, apart := false, narrowed := true }
def BookNamesUptoSaid : Prop := bookNamesUptoRow.holds Try.pinned (OpenSpec.upto bookNamesSpec)

/-- 'floodgatelaw13.BookReads', WHERE WHAT IT READS IS OF BULK AT MOST 1048576: true; the input reads as it did. -/
def bookReadsUptoRow : OpenClaim := { program := "ytapgkaecamljbaa", sum := "ea8d91b33e77c6bfaa520d37a82428da2b5c09085f1cd0426ac2d093c3f71d95", func := "floodgate/floodgatelaw13.BookReads", spec := "bookReads", unfollowed := true, recurses := true, plainKeys := false, apart := false, narrowed := true }
def BookReadsUptoSaid : Prop := bookReadsUptoRow.holds Try.pinned (OpenSpec.upto bookReadsSpec)

/-- 'floodgatelaw13.BookBack', WHERE WHAT IT READS IS OF BULK AT MOST 1048576: true; the input reads as it did. -/
def bookBackUptoRow : OpenClaim := { program := "ytapgkaecamljbaa", sum := "ea8d91b33e77c6bfaa520d37a82428da2b5c09085f1cd0426ac2d093c3f71d95", func := "floodgate/floodgatelaw13.BookBack", spec := "bookBack", unfollowed := true, recurses := true, plainKeys := false, apart := false, narrowed := true }
def BookBackUptoSaid : Prop := bookBackUptoRow.holds Try.pinned (OpenSpec.upto bookBackSpec)

end Rows
end Go.Proofs.Ytapgkaecamljbaa
