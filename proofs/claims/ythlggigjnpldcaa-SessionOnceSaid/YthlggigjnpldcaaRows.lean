/-
  No cell of these rows narrows 'for every input' (looked for: loops, veiled, ifaces, maps, wideKeys, modest, calm, conditions, laid).
  DERIVED. THE GIVEN ROWS OF THIS SEAT. 7 by the template 'for every input the law returns true; each argument reads behind the call as it read before'; 0 by the template 'total and deterministic' (their statements: YthlggigjnpldcaaTotals.lean).
  GIVEN WITH THE SEED: the statements are not yours to turn. If you find one false, say at which input.
  Laid BY PROGRAM, IN A SANDBOX (cutbox-rows.mjs): the forced cells as the released guide's own fill.sh prints them over the translation d6a077f1c725364a… (all of the seat's roots in one cut). By AI agents, Wed Nov 11 2026. No macro, syntax, notation, axiom, sorry.
-/
import Derived.Test.YthlggigjnpldcaaChecked
import GoSem.Claim
import GoSem.ClaimJoined
import GoSem.ClaimMapViews
import Derived.JoinedTies
import Derived.KernelRfl
namespace Go.Proofs.Ythlggigjnpldcaa
/- THE CELL 'sum', in the pinned program and in every row, IS THE sha256 OF THE DUMP (.gsa) THAT YthlggigjnpldcaaProg.lean LOADS. Nothing in Lean hashes anything: it is a label: what it is worth is what the hold of that sum in a sandbox is worth. -/
noncomputable def Try.pinned : Pinned := { name := "ythlggigjnpldcaa", sum := "d6a077f1c725364a94617315b74a3bdead969ef258e5334e8c6ae783ca10f9e4", checked := Try.checked }
namespace Rows
def none {H : Type} : Left H := { results := [], args := [] }

/-- 'outriderlaw07.CodecPuts': WHATEVER THE INPUT: true; the input reads as it did. -/
def codecPutsSpec : ChangeSpec := { name := "codecPuts", fn := fun _ => fun
  | [d1, d2] => { results := [.lit (.bool true)], args := [d1, d2] }
  | _ => none }
def codecPutsRow : OpenClaim := { program := "ythlggigjnpldcaa", sum := "d6a077f1c725364a94617315b74a3bdead969ef258e5334e8c6ae783ca10f9e4", func := "outrider/outriderlaw07.CodecPuts", spec := "codecPuts", inPlace := ["internal/abi.NoEscape"], unfollowed := true, recurses := true, apart := false }
def CodecPutsSaid : Prop := codecPutsRow.holds Try.pinned (OpenSpec.ofChange codecPutsSpec)

/-- ITS FALSE NEIGHBOUR: 'it returns false'. Refute it at one input. -/
def codecPutsWrong : ChangeSpec := { name := "codecPuts", fn := fun _ => fun
  | [d1, d2] => { results := [.lit (.bool false)], args := [d1, d2] }
  | _ => none }
def CodecPutsWrongFalsely : Prop := codecPutsRow.holds Try.pinned (OpenSpec.ofChange codecPutsWrong)

/-- 'outriderlaw07.CodecLists': WHATEVER THE INPUT: true; the input reads as it did. -/
def codecListsSpec : ChangeSpec := { name := "codecLists", fn := fun _ => fun
  | [d1, d2] => { results := [.lit (.bool true)], args := [d1, d2] }
  | _ => none }
def codecListsRow : OpenClaim := { program := "ythlggigjnpldcaa", sum := "d6a077f1c725364a94617315b74a3bdead969ef258e5334e8c6ae783ca10f9e4", func := "outrider/outriderlaw07.CodecLists", spec := "codecLists", inPlace := ["internal/abi.NoEscape"], unfollowed := true, recurses := true, apart := false }
def CodecListsSaid : Prop := codecListsRow.holds Try.pinned (OpenSpec.ofChange codecListsSpec)

/-- ITS FALSE NEIGHBOUR: 'it returns false'. Refute it at one input. -/
def codecListsWrong : ChangeSpec := { name := "codecLists", fn := fun _ => fun
  | [d1, d2] => { results := [.lit (.bool false)], args := [d1, d2] }
  | _ => none }
def CodecListsWrongFalsely : Prop := codecListsRow.holds Try.pinned (OpenSpec.ofChange codecListsWrong)

/-- 'outriderlaw06.DigestWhole': WHATEVER THE INPUT: true; the input reads as it did. -/
def digestWholeSpec : ChangeSpec := { name := "digestWhole", fn := fun _ => fun
  | [d] => { results := [.lit (.bool true)], args := [d] }
  | _ => none }
def digestWholeRow : OpenClaim := { program := "ythlggigjnpldcaa", sum := "d6a077f1c725364a94617315b74a3bdead969ef258e5334e8c6ae783ca10f9e4", func := "outrider/outriderlaw06.DigestWhole", spec := "digestWhole", inPlace := ["internal/abi.NoEscape", "internal/bytealg.MakeNoZero"], apart := false }
def DigestWholeSaid : Prop := digestWholeRow.holds Try.pinned (OpenSpec.ofChange digestWholeSpec)

/-- ITS FALSE NEIGHBOUR: 'it returns false'. Refute it at one input. -/
def digestWholeWrong : ChangeSpec := { name := "digestWhole", fn := fun _ => fun
  | [d] => { results := [.lit (.bool false)], args := [d] }
  | _ => none }
def DigestWholeWrongFalsely : Prop := digestWholeRow.holds Try.pinned (OpenSpec.ofChange digestWholeWrong)

/-- 'outriderlaw06.DigestSums': WHATEVER THE INPUT: true; the input reads as it did. -/
def digestSumsSpec : ChangeSpec := { name := "digestSums", fn := fun _ => fun
  | [d1, d2, d3] => { results := [.lit (.bool true)], args := [d1, d2, d3] }
  | _ => none }
def digestSumsRow : OpenClaim := { program := "ythlggigjnpldcaa", sum := "d6a077f1c725364a94617315b74a3bdead969ef258e5334e8c6ae783ca10f9e4", func := "outrider/outriderlaw06.DigestSums", spec := "digestSums", inPlace := ["internal/abi.NoEscape", "internal/bytealg.MakeNoZero"], apart := false }
def DigestSumsSaid : Prop := digestSumsRow.holds Try.pinned (OpenSpec.ofChange digestSumsSpec)

/-- ITS FALSE NEIGHBOUR: 'it returns false'. Refute it at one input. -/
def digestSumsWrong : ChangeSpec := { name := "digestSums", fn := fun _ => fun
  | [d1, d2, d3] => { results := [.lit (.bool false)], args := [d1, d2, d3] }
  | _ => none }
def DigestSumsWrongFalsely : Prop := digestSumsRow.holds Try.pinned (OpenSpec.ofChange digestSumsWrong)

/-- 'outriderlaw19.SessionMessages': WHATEVER THE INPUT: true; the input reads as it did. -/
def sessionMessagesSpec : ChangeSpec := { name := "sessionMessages", fn := fun _ => fun
  | [d1, d2, d3, d4, d5] => { results := [.lit (.bool true)], args := [d1, d2, d3, d4, d5] }
  | _ => none }
def sessionMessagesRow : OpenClaim := { program := "ythlggigjnpldcaa", sum := "d6a077f1c725364a94617315b74a3bdead969ef258e5334e8c6ae783ca10f9e4", func := "outrider/outriderlaw19.SessionMessages", spec := "sessionMessages", inPlace := ["internal/abi.NoEscape"], unfollowed := true, recurses := true, apart := false }
def SessionMessagesSaid : Prop := sessionMessagesRow.holds Try.pinned (OpenSpec.ofChange sessionMessagesSpec)

/-- ITS FALSE NEIGHBOUR: 'it returns false'. Refute it at one input. -/
def sessionMessagesWrong : ChangeSpec := { name := "sessionMessages", fn := fun _ => fun
  | [d1, d2, d3, d4, d5] => { results := [.lit (.bool false)], args := [d1, d2, d3, d4, d5] }
  | _ => none }
def SessionMessagesWrongFalsely : Prop := sessionMessagesRow.holds Try.pinned (OpenSpec.ofChange sessionMessagesWrong)

/-- 'outriderlaw19.SessionOnce': WHATEVER THE INPUT: true; the input reads as it did. -/
def sessionOnceSpec : ChangeSpec := { name := "sessionOnce", fn := fun _ => fun
  | [d] => { results := [.lit (.bool true)], args := [d] }
  | _ => none }
def sessionOnceRow : OpenClaim := { program := "ythlggigjnpldcaa", sum := "d6a077f1c725364a94617315b74a3bdead969ef258e5334e8c6ae783ca10f9e4", func := "outrider/outriderlaw19.SessionOnce", spec := "sessionOnce", inPlace := ["internal/abi.NoEscape"], unfollowed := true, recurses := true, apart := false }
def SessionOnceSaid : Prop := sessionOnceRow.holds Try.pinned (OpenSpec.ofChange sessionOnceSpec)

/-- ITS FALSE NEIGHBOUR: 'it returns false'. Refute it at one input. -/
def sessionOnceWrong : ChangeSpec := { name := "sessionOnce", fn := fun _ => fun
  | [d] => { results := [.lit (.bool false)], args := [d] }
  | _ => none }
def SessionOnceWrongFalsely : Prop := sessionOnceRow.holds Try.pinned (OpenSpec.ofChange sessionOnceWrong)

/-- 'outriderlaw19.SessionEpochs': WHATEVER THE INPUT: true; the input reads as it did. -/
def sessionEpochsSpec : ChangeSpec := { name := "sessionEpochs", fn := fun _ => fun
  | [d1, d2] => { results := [.lit (.bool true)], args := [d1, d2] }
  | _ => none }
def sessionEpochsRow : OpenClaim := { program := "ythlggigjnpldcaa", sum := "d6a077f1c725364a94617315b74a3bdead969ef258e5334e8c6ae783ca10f9e4", func := "outrider/outriderlaw19.SessionEpochs", spec := "sessionEpochs", inPlace := ["internal/abi.NoEscape"], unfollowed := true, recurses := true, apart := false }
def SessionEpochsSaid : Prop := sessionEpochsRow.holds Try.pinned (OpenSpec.ofChange sessionEpochsSpec)

/-- ITS FALSE NEIGHBOUR: 'it returns false'. Refute it at one input. -/
def sessionEpochsWrong : ChangeSpec := { name := "sessionEpochs", fn := fun _ => fun
  | [d1, d2] => { results := [.lit (.bool false)], args := [d1, d2] }
  | _ => none }
def SessionEpochsWrongFalsely : Prop := sessionEpochsRow.holds Try.pinned (OpenSpec.ofChange sessionEpochsWrong)

/- THE SECOND FORM. 'bulk': how many values and letters a reading holds, each counted each time it is reached (what is shared counts as often as it is met; a slice's spare places count too). A statement '..UptoSaid' is the law's where the arguments, and the package variables that the reading takes, are together of bulk at most 1048576: NARROWER than '..Said'. Prove '..Said' where nothing that the law and all that it calls make is longer than what came in: it says more and counts as full. Else prove '..UptoSaid'. A law counts once. -/
mutual
def uptoBulk {H : Type} : DataW H → Nat
  | .lit (.string bytes) => bytes.length + 1
  | .lit _ => 1
  | .nil => 1
  | .ptr d => uptoBulk d + 1
  | .slice elems spare => uptoBulkAll elems + uptoBulkAll spare + 1
  | .agg parts => uptoBulkAll parts + 1
  | .iface _ d => uptoBulk d + 1
  | .map entries => uptoBulkEntries entries + 1
  | .held _ => 1
def uptoBulkAll {H : Type} : List (DataW H) → Nat
  | [] => 0
  | d :: r => uptoBulk d + uptoBulkAll r
def uptoBulkEntries {H : Type} : List (Lit × DataW H) → Nat
  | [] => 0
  | x :: r => uptoBulkEntry x + uptoBulkEntries r
def uptoBulkEntry {H : Type} : Lit × DataW H → Nat
  | (.string bytes, d) => bytes.length + uptoBulk d + 1
  | (_, d) => uptoBulk d + 1
 end
def uptoSmall : (H : Type) → List (DataW H) → Bool := fun _ ds => decide (uptoBulkAll ds ≤ 1048576)
def OpenSpec.upto (s : _root_.Go.ChangeSpec) : _root_.Go.OpenSpec := { _root_.Go.OpenSpec.ofChange s with cond := some uptoSmall }

/-- 'outriderlaw07.CodecPuts', WHERE WHAT IT READS IS OF BULK AT MOST 1048576: true; the input reads as it did. -/
def codecPutsUptoRow : OpenClaim := { program := "ythlggigjnpldcaa", sum := "d6a077f1c725364a94617315b74a3bdead969ef258e5334e8c6ae783ca10f9e4", func := "outrider/outriderlaw07.CodecPuts", spec := "codecPuts", inPlace := ["internal/abi.NoEscape"], unfollowed := true, recurses := true, apart := false, narrowed := true }
def CodecPutsUptoSaid : Prop := codecPutsUptoRow.holds Try.pinned (OpenSpec.upto codecPutsSpec)

/-- 'outriderlaw07.CodecLists', WHERE WHAT IT READS IS OF BULK AT MOST 1048576: true; the input reads as it did. -/
def codecListsUptoRow : OpenClaim := { program := "ythlggigjnpldcaa", sum := "d6a077f1c725364a94617315b74a3bdead969ef258e5334e8c6ae783ca10f9e4", func := "outrider/outriderlaw07.CodecLists", spec := "codecLists", inPlace := ["internal/abi.NoEscape"], unfollowed := true, recurses := true, apart := false, narrowed := true }
def CodecListsUptoSaid : Prop := codecListsUptoRow.holds Try.pinned (OpenSpec.upto codecListsSpec)

/-- 'outriderlaw06.DigestWhole', WHERE WHAT IT READS IS OF BULK AT MOST 1048576: true; the input reads as it did. -/
def digestWholeUptoRow : OpenClaim := { program := "ythlggigjnpldcaa", sum := "d6a077f1c725364a94617315b74a3bdead969ef258e5334e8c6ae783ca10f9e4", func := "outrider/outriderlaw06.DigestWhole", spec := "digestWhole", inPlace := ["internal/abi.NoEscape", "internal/bytealg.MakeNoZero"], apart := false, narrowed := true }
def DigestWholeUptoSaid : Prop := digestWholeUptoRow.holds Try.pinned (OpenSpec.upto digestWholeSpec)

/-- 'outriderlaw06.DigestSums', WHERE WHAT IT READS IS OF BULK AT MOST 1048576: true; the input reads as it did. -/
def digestSumsUptoRow : OpenClaim := { program := "ythlggigjnpldcaa", sum := "d6a077f1c725364a94617315b74a3bdead969ef258e5334e8c6ae783ca10f9e4", func := "outrider/outriderlaw06.DigestSums", spec := "digestSums", inPlace := ["internal/abi.NoEscape", "internal/bytealg.MakeNoZero"], apart := false, narrowed := true }
def DigestSumsUptoSaid : Prop := digestSumsUptoRow.holds Try.pinned (OpenSpec.upto digestSumsSpec)

/-- 'outriderlaw19.SessionMessages', WHERE WHAT IT READS IS OF BULK AT MOST 1048576: true; the input reads as it did. -/
def sessionMessagesUptoRow : OpenClaim := { program := "ythlggigjnpldcaa", sum := "d6a077f1c725364a94617315b74a3bdead969ef258e5334e8c6ae783ca10f9e4", func := "outrider/outriderlaw19.SessionMessages", spec := "sessionMessages", inPlace := ["internal/abi.NoEscape"], unfollowed := true, recurses := true, apart := false, narrowed := true }
def SessionMessagesUptoSaid : Prop := sessionMessagesUptoRow.holds Try.pinned (OpenSpec.upto sessionMessagesSpec)

/-- 'outriderlaw19.SessionOnce', WHERE WHAT IT READS IS OF BULK AT MOST 1048576: true; the input reads as it did. -/
def sessionOnceUptoRow : OpenClaim := { program := "ythlggigjnpldcaa", sum := "d6a077f1c725364a94617315b74a3bdead969ef258e5334e8c6ae783ca10f9e4", func := "outrider/outriderlaw19.SessionOnce", spec := "sessionOnce", inPlace := ["internal/abi.NoEscape"], unfollowed := true, recurses := true, apart := false, narrowed := true }
def SessionOnceUptoSaid : Prop := sessionOnceUptoRow.holds Try.pinned (OpenSpec.upto sessionOnceSpec)

/-- 'outriderlaw19.SessionEpochs', WHERE WHAT IT READS IS OF BULK AT MOST 1048576: true; the input reads as it did. -/
def sessionEpochsUptoRow : OpenClaim := { program := "ythlggigjnpldcaa", sum := "d6a077f1c725364a94617315b74a3bdead969ef258e5334e8c6ae783ca10f9e4", func := "outrider/outriderlaw19.SessionEpochs", spec := "sessionEpochs", inPlace := ["internal/abi.NoEscape"], unfollowed := true, recurses := true, apart := false, narrowed := true }
def SessionEpochsUptoSaid : Prop := sessionEpochsUptoRow.holds Try.pinned (OpenSpec.upto sessionEpochsSpec)

end Rows
end Go.Proofs.Ythlggigjnpldcaa
