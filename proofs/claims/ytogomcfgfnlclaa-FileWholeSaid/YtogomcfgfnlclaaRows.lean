/-
  No cell of these rows narrows 'for every input' (looked for: loops, veiled, ifaces, maps, wideKeys, modest, calm, conditions, laid).
  DERIVED. THE GIVEN ROWS OF THIS SEAT. 4 by the template 'for every input the law returns true; each argument reads behind the call as it read before'; 0 by the template 'total and deterministic' (their statements: YtogomcfgfnlclaaTotals.lean).
  GIVEN WITH THE SEED: the statements are not yours to turn. If you find one false, say at which input.
  Laid BY PROGRAM, IN A SANDBOX (cutbox-rows.mjs): the forced cells as the released guide's own fill.sh prints them over the translation 417d0079d052d5e8… (all of the seat's roots in one cut). By AI agents, Wed Nov 11 2026. No macro, syntax, notation, axiom, sorry.
-/
import Derived.Test.YtogomcfgfnlclaaChecked
import GoSem.Claim
import GoSem.ClaimJoined
import GoSem.ClaimMapViews
import Derived.JoinedTies
import Derived.KernelRfl
namespace Go.Proofs.Ytogomcfgfnlclaa
/- THE CELL 'sum', in the pinned program and in every row, IS THE sha256 OF THE DUMP (.gsa) THAT YtogomcfgfnlclaaProg.lean LOADS. Nothing in Lean hashes anything: it is a label: what it is worth is what the hold of that sum in a sandbox is worth. -/
noncomputable def Try.pinned : Pinned := { name := "ytogomcfgfnlclaa", sum := "417d0079d052d5e8308a8b3eac7ca687dbe306cdb369fdb950bb250f55eac758", checked := Try.checked }
namespace Rows
def none {H : Type} : Left H := { results := [], args := [] }

/-- 'outriderlaw13.DiskSettles': WHATEVER THE INPUT: true; the input reads as it did. -/
def diskSettlesSpec : ChangeSpec := { name := "diskSettles", fn := fun _ => fun
  | [d1, d2, d3] => { results := [.lit (.bool true)], args := [d1, d2, d3] }
  | _ => none }
def diskSettlesRow : OpenClaim := { program := "ytogomcfgfnlclaa", sum := "417d0079d052d5e8308a8b3eac7ca687dbe306cdb369fdb950bb250f55eac758", func := "outrider/outriderlaw13.DiskSettles", spec := "diskSettles", inPlace := ["maps.clone"], unfollowed := true, recurses := true, apart := false }
def DiskSettlesSaid : Prop := diskSettlesRow.holds Try.pinned (OpenSpec.ofChange diskSettlesSpec)

/-- ITS FALSE NEIGHBOUR: 'it returns false'. Refute it at one input. -/
def diskSettlesWrong : ChangeSpec := { name := "diskSettles", fn := fun _ => fun
  | [d1, d2, d3] => { results := [.lit (.bool false)], args := [d1, d2, d3] }
  | _ => none }
def DiskSettlesWrongFalsely : Prop := diskSettlesRow.holds Try.pinned (OpenSpec.ofChange diskSettlesWrong)

/-- 'outriderlaw13.DiskLasts': WHATEVER THE INPUT: true; the input reads as it did. -/
def diskLastsSpec : ChangeSpec := { name := "diskLasts", fn := fun _ => fun
  | [d1, d2, d3, d4] => { results := [.lit (.bool true)], args := [d1, d2, d3, d4] }
  | _ => none }
def diskLastsRow : OpenClaim := { program := "ytogomcfgfnlclaa", sum := "417d0079d052d5e8308a8b3eac7ca687dbe306cdb369fdb950bb250f55eac758", func := "outrider/outriderlaw13.DiskLasts", spec := "diskLasts", inPlace := ["maps.clone"], unfollowed := true, recurses := true, apart := false }
def DiskLastsSaid : Prop := diskLastsRow.holds Try.pinned (OpenSpec.ofChange diskLastsSpec)

/-- ITS FALSE NEIGHBOUR: 'it returns false'. Refute it at one input. -/
def diskLastsWrong : ChangeSpec := { name := "diskLasts", fn := fun _ => fun
  | [d1, d2, d3, d4] => { results := [.lit (.bool false)], args := [d1, d2, d3, d4] }
  | _ => none }
def DiskLastsWrongFalsely : Prop := diskLastsRow.holds Try.pinned (OpenSpec.ofChange diskLastsWrong)

/-- 'outriderlaw14.FileOthers': WHATEVER THE INPUT: true; the input reads as it did. -/
def fileOthersSpec : ChangeSpec := { name := "fileOthers", fn := fun _ => fun
  | [d] => { results := [.lit (.bool true)], args := [d] }
  | _ => none }
def fileOthersRow : OpenClaim := { program := "ytogomcfgfnlclaa", sum := "417d0079d052d5e8308a8b3eac7ca687dbe306cdb369fdb950bb250f55eac758", func := "outrider/outriderlaw14.FileOthers", spec := "fileOthers", inPlace := ["internal/abi.NoEscape", "internal/bytealg.MakeNoZero", "maps.clone"], unfollowed := true, recurses := true, apart := false }
def FileOthersSaid : Prop := fileOthersRow.holds Try.pinned (OpenSpec.ofChange fileOthersSpec)

/-- ITS FALSE NEIGHBOUR: 'it returns false'. Refute it at one input. -/
def fileOthersWrong : ChangeSpec := { name := "fileOthers", fn := fun _ => fun
  | [d] => { results := [.lit (.bool false)], args := [d] }
  | _ => none }
def FileOthersWrongFalsely : Prop := fileOthersRow.holds Try.pinned (OpenSpec.ofChange fileOthersWrong)

/-- 'outriderlaw14.FileWhole': WHATEVER THE INPUT: true; the input reads as it did. -/
def fileWholeSpec : ChangeSpec := { name := "fileWhole", fn := fun _ => fun
  | [d1, d2, d3] => { results := [.lit (.bool true)], args := [d1, d2, d3] }
  | _ => none }
def fileWholeRow : OpenClaim := { program := "ytogomcfgfnlclaa", sum := "417d0079d052d5e8308a8b3eac7ca687dbe306cdb369fdb950bb250f55eac758", func := "outrider/outriderlaw14.FileWhole", spec := "fileWhole", inPlace := ["internal/abi.NoEscape", "internal/bytealg.MakeNoZero", "maps.clone"], unfollowed := true, recurses := true, apart := false }
def FileWholeSaid : Prop := fileWholeRow.holds Try.pinned (OpenSpec.ofChange fileWholeSpec)

/-- ITS FALSE NEIGHBOUR: 'it returns false'. Refute it at one input. -/
def fileWholeWrong : ChangeSpec := { name := "fileWhole", fn := fun _ => fun
  | [d1, d2, d3] => { results := [.lit (.bool false)], args := [d1, d2, d3] }
  | _ => none }
def FileWholeWrongFalsely : Prop := fileWholeRow.holds Try.pinned (OpenSpec.ofChange fileWholeWrong)

/- THE SECOND FORM. 'bulk': how many values and letters a reading holds, each counted each time it is reached (what is shared counts as often as it is met; a slice's spare places count too). A statement '..UptoSaid' is the law's where the arguments, and the package variables that the reading takes, are together of bulk at most 1048576: NARROWER than '..Said'. Prove '..Said' where nothing that the law and all that it calls make is longer than what came in: it says more and counts as full. Else prove '..UptoSaid'. A law counts once. -/
mutual
def uptoBulk {H : Type} : DataW H → Nat
  | .lit (.string bytes) => bytes.length + 1
  | .lit _ => 1
  | .nil => 1
  | .ptr d => uptoBulk d + 1
  | .slice elems spare => uptoBulkAll elems + uptoBulkAll spare + 1
  | .agg parts => uptoBulkAll parts + 1
  | .iface _ d => uptoBulk d + 1
  | .map entries => uptoBulkEntries entries + 1
  | .held _ => 1
def uptoBulkAll {H : Type} : List (DataW H) → Nat
  | [] => 0
  | d :: r => uptoBulk d + uptoBulkAll r
def uptoBulkEntries {H : Type} : List (Lit × DataW H) → Nat
  | [] => 0
  | x :: r => uptoBulkEntry x + uptoBulkEntries r
def uptoBulkEntry {H : Type} : Lit × DataW H → Nat
  | (.string bytes, d) => bytes.length + uptoBulk d + 1
  | (_, d) => uptoBulk d + 1
 end
def uptoSmall : (H : Type) → List (DataW H) → Bool := fun _ ds => decide (uptoBulkAll ds ≤ 1048576)
def OpenSpec.upto (s : _root_.Go.ChangeSpec) : _root_.Go.OpenSpec := { _root_.Go.OpenSpec.ofChange s with cond := some uptoSmall }

/-- 'outriderlaw13.DiskSettles', WHERE WHAT IT READS IS OF BULK AT MOST 1048576: true; the input reads as it did. -/
def diskSettlesUptoRow : OpenClaim := { program := "ytogomcfgfnlclaa", sum := "417d0079d052d5e8308a8b3eac7ca687dbe306cdb369fdb950bb250f55eac758", func := "outrider/outriderlaw13.DiskSettles", spec := "diskSettles", inPlace := ["maps.clone"], unfollowed := true, recurses := true, apart := false, narrowed := true }
def DiskSettlesUptoSaid : Prop := diskSettlesUptoRow.holds Try.pinned (OpenSpec.upto diskSettlesSpec)

/-- 'outriderlaw13.DiskLasts', WHERE WHAT IT READS IS OF BULK AT MOST 1048576: true; the input reads as it did. -/
def diskLastsUptoRow : OpenClaim := { program := "ytogomcfgfnlclaa", sum := "417d0079d052d5e8308a8b3eac7ca687dbe306cdb369fdb950bb250f55eac758", func := "outrider/outriderlaw13.DiskLasts", spec := "diskLasts", inPlace := ["maps.clone"], unfollowed := true, recurses := true, apart := false, narrowed := true }
def DiskLastsUptoSaid : Prop := diskLastsUptoRow.holds Try.pinned (OpenSpec.upto diskLastsSpec)

/-- 'outriderlaw14.FileOthers', WHERE WHAT IT READS IS OF BULK AT MOST 1048576: true; the input reads as it did. -/
def fileOthersUptoRow : OpenClaim := { program := "ytogomcfgfnlclaa", sum := "417d0079d052d5e8308a8b3eac7ca687dbe306cdb369fdb950bb250f55eac758", func := "outrider/outriderlaw14.FileOthers", spec := "fileOthers", inPlace := ["internal/abi.NoEscape", "internal/bytealg.MakeNoZero", "maps.clone"], unfollowed := true, recurses := true, apart := false, narrowed := true }
def FileOthersUptoSaid : Prop := fileOthersUptoRow.holds Try.pinned (OpenSpec.upto fileOthersSpec)

/-- 'outriderlaw14.FileWhole', WHERE WHAT IT READS IS OF BULK AT MOST 1048576: true; the input reads as it did. -/
def fileWholeUptoRow : OpenClaim := { program := "ytogomcfgfnlclaa", sum := "417d0079d052d5e8308a8b3eac7ca687dbe306cdb369fdb950bb250f55eac758", func := "outrider/outriderlaw14.FileWhole", spec := "fileWhole", inPlace := ["internal/abi.NoEscape", "internal/bytealg.MakeNoZero", "maps.clone"], unfollowed := true, recurses := true, apart := false, narrowed := true }
def FileWholeUptoSaid : Prop := fileWholeUptoRow.holds Try.pinned (OpenSpec.upto fileWholeSpec)

end Rows
end Go.Proofs.Ytogomcfgfnlclaa
