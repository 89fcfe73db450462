/-
  No cell of these rows narrows 'for every input' (looked for: loops, veiled, ifaces, maps, wideKeys, modest, calm, conditions, laid).
  DERIVED. THE GIVEN ROWS OF THIS SEAT. 4 by the template 'for every input the law returns true; each argument reads behind the call as it read before'; 0 by the template 'total and deterministic' (their statements: YtlphgephdhadhaaGreatTotals.lean).
  GIVEN WITH THE SEED: the statements are not yours to turn. If you find one false, say at which input.
  Laid BY PROGRAM, IN A SANDBOX (cutbox-rows.mjs): the forced cells as the released guide's own fill.sh prints them over the translation 2a6f44a787e3f145… (all of the seat's roots in one cut). By AI agents, Wed Nov 11 2026. No macro, syntax, notation, axiom, sorry.
-/
import Derived.Test.YtlphgephdhadhaaGreatChecked
import GoSem.Claim
import GoSem.ClaimJoined
import GoSem.ClaimMapViews
import Derived.JoinedTies
import Derived.KernelRfl
namespace Go.Proofs.YtlphgephdhadhaaGreat
/- THE CELL 'sum', in the pinned program and in every row, IS THE sha256 OF THE DUMP (.gsa) THAT YtlphgephdhadhaaGreatProg.lean LOADS. Nothing in Lean hashes anything: it is a label: what it is worth is what the hold of that sum in a sandbox is worth. -/
noncomputable def Tryz.pinned : Pinned := { name := "ytlphgephdhadhaagreat", sum := "2a6f44a787e3f14524b107e6af7688330976db9cc74ca26d6394cae1f6025311", checked := Tryz.checked }
namespace Rows
def none {H : Type} : Left H := { results := [], args := [] }

/-- 'outriderlaw16.LedgerFull': WHATEVER THE INPUT: true; the input reads as it did. -/
def ledgerFullSpec : ChangeSpec := { name := "ledgerFull", fn := fun _ => fun
  | [d1, d2] => { results := [.lit (.bool true)], args := [d1, d2] }
  | _ => none }
def ledgerFullRow : OpenClaim := { program := "ytlphgephdhadhaagreat", sum := "2a6f44a787e3f14524b107e6af7688330976db9cc74ca26d6394cae1f6025311", func := "outrider/outriderlaw16.LedgerFull", spec := "ledgerFull", inPlace := ["internal/bytealg.Compare", "slices.overlaps[outrider/ledger.Entry]", "internal/abi.NoEscape", "internal/bytealg.MakeNoZero", "maps.clone"], unfollowed := true, recurses := true, apart := false }
def LedgerFullSaid : Prop := ledgerFullRow.holds Tryz.pinned (OpenSpec.ofChange ledgerFullSpec)

/-- ITS FALSE NEIGHBOUR: 'it returns false'. Refute it at one input. -/
def ledgerFullWrong : ChangeSpec := { name := "ledgerFull", fn := fun _ => fun
  | [d1, d2] => { results := [.lit (.bool false)], args := [d1, d2] }
  | _ => none }
def LedgerFullWrongFalsely : Prop := ledgerFullRow.holds Tryz.pinned (OpenSpec.ofChange ledgerFullWrong)

/-- 'outriderlaw16.LedgerHolds': WHATEVER THE INPUT: true; the input reads as it did. -/
def ledgerHoldsSpec : ChangeSpec := { name := "ledgerHolds", fn := fun _ => fun
  | [d1, d2] => { results := [.lit (.bool true)], args := [d1, d2] }
  | _ => none }
def ledgerHoldsRow : OpenClaim := { program := "ytlphgephdhadhaagreat", sum := "2a6f44a787e3f14524b107e6af7688330976db9cc74ca26d6394cae1f6025311", func := "outrider/outriderlaw16.LedgerHolds", spec := "ledgerHolds", inPlace := ["internal/bytealg.Compare", "slices.overlaps[outrider/ledger.Entry]", "internal/abi.NoEscape", "internal/bytealg.MakeNoZero", "maps.clone"], unfollowed := true, recurses := true, apart := false }
def LedgerHoldsSaid : Prop := ledgerHoldsRow.holds Tryz.pinned (OpenSpec.ofChange ledgerHoldsSpec)

/-- ITS FALSE NEIGHBOUR: 'it returns false'. Refute it at one input. -/
def ledgerHoldsWrong : ChangeSpec := { name := "ledgerHolds", fn := fun _ => fun
  | [d1, d2] => { results := [.lit (.bool false)], args := [d1, d2] }
  | _ => none }
def LedgerHoldsWrongFalsely : Prop := ledgerHoldsRow.holds Tryz.pinned (OpenSpec.ofChange ledgerHoldsWrong)

/-- 'outriderlaw16.LedgerTexts': WHATEVER THE INPUT: true; the input reads as it did. -/
def ledgerTextsSpec : ChangeSpec := { name := "ledgerTexts", fn := fun _ => fun
  | [d] => { results := [.lit (.bool true)], args := [d] }
  | _ => none }
def ledgerTextsRow : OpenClaim := { program := "ytlphgephdhadhaagreat", sum := "2a6f44a787e3f14524b107e6af7688330976db9cc74ca26d6394cae1f6025311", func := "outrider/outriderlaw16.LedgerTexts", spec := "ledgerTexts", inPlace := ["internal/bytealg.Compare", "slices.overlaps[outrider/ledger.Entry]", "internal/abi.NoEscape", "internal/bytealg.MakeNoZero", "maps.clone"], unfollowed := true, recurses := true, apart := false }
def LedgerTextsSaid : Prop := ledgerTextsRow.holds Tryz.pinned (OpenSpec.ofChange ledgerTextsSpec)

/-- ITS FALSE NEIGHBOUR: 'it returns false'. Refute it at one input. -/
def ledgerTextsWrong : ChangeSpec := { name := "ledgerTexts", fn := fun _ => fun
  | [d] => { results := [.lit (.bool false)], args := [d] }
  | _ => none }
def LedgerTextsWrongFalsely : Prop := ledgerTextsRow.holds Tryz.pinned (OpenSpec.ofChange ledgerTextsWrong)

/-- 'outriderlaw16.LedgerTurns': WHATEVER THE INPUT: true; the input reads as it did. -/
def ledgerTurnsSpec : ChangeSpec := { name := "ledgerTurns", fn := fun _ => fun
  | [d1, d2] => { results := [.lit (.bool true)], args := [d1, d2] }
  | _ => none }
def ledgerTurnsRow : OpenClaim := { program := "ytlphgephdhadhaagreat", sum := "2a6f44a787e3f14524b107e6af7688330976db9cc74ca26d6394cae1f6025311", func := "outrider/outriderlaw16.LedgerTurns", spec := "ledgerTurns", inPlace := ["internal/bytealg.Compare", "slices.overlaps[outrider/ledger.Entry]", "internal/abi.NoEscape", "internal/bytealg.MakeNoZero", "maps.clone"], unfollowed := true, recurses := true, apart := false }
def LedgerTurnsSaid : Prop := ledgerTurnsRow.holds Tryz.pinned (OpenSpec.ofChange ledgerTurnsSpec)

/-- ITS FALSE NEIGHBOUR: 'it returns false'. Refute it at one input. -/
def ledgerTurnsWrong : ChangeSpec := { name := "ledgerTurns", fn := fun _ => fun
  | [d1, d2] => { results := [.lit (.bool false)], args := [d1, d2] }
  | _ => none }
def LedgerTurnsWrongFalsely : Prop := ledgerTurnsRow.holds Tryz.pinned (OpenSpec.ofChange ledgerTurnsWrong)

/- THE SECOND FORM. 'bulk': how many values and letters a reading holds, each counted each time it is reached (what is shared counts as often as it is met; a slice's spare places count too). A statement '..UptoSaid' is the law's where the arguments, and the package variables that the reading takes, are together of bulk at most 1048576: NARROWER than '..Said'. Prove '..Said' where nothing that the law and all that it calls make is longer than what came in: it says more and counts as full. Else prove '..UptoSaid'. A law counts once. -/
mutual
def uptoBulk {H : Type} : DataW H → Nat
  | .lit (.string bytes) => bytes.length + 1
  | .lit _ => 1
  | .nil => 1
  | .ptr d => uptoBulk d + 1
  | .slice elems spare => uptoBulkAll elems + uptoBulkAll spare + 1
  | .agg parts => uptoBulkAll parts + 1
  | .iface _ d => uptoBulk d + 1
  | .map entries => uptoBulkEntries entries + 1
  | .held _ => 1
def uptoBulkAll {H : Type} : List (DataW H) → Nat
  | [] => 0
  | d :: r => uptoBulk d + uptoBulkAll r
def uptoBulkEntries {H : Type} : List (Lit × DataW H) → Nat
  | [] => 0
  | x :: r => uptoBulkEntry x + uptoBulkEntries r
def uptoBulkEntry {H : Type} : Lit × DataW H → Nat
  | (.string bytes, d) => bytes.length + uptoBulk d + 1
  | (_, d) => uptoBulk d + 1
 end
def uptoSmall : (H : Type) → List (DataW H) → Bool := fun _ ds => decide (uptoBulkAll ds ≤ 1048576)
def OpenSpec.upto (s : _root_.Go.ChangeSpec) : _root_.Go.OpenSpec := { _root_.Go.OpenSpec.ofChange s with cond := some uptoSmall }

/-- 'outriderlaw16.LedgerFull', WHERE WHAT IT READS IS OF BULK AT MOST 1048576: true; the input reads as it did. -/
def ledgerFullUptoRow : OpenClaim := { program := "ytlphgephdhadhaagreat", sum := "2a6f44a787e3f14524b107e6af7688330976db9cc74ca26d6394cae1f6025311", func := "outrider/outriderlaw16.LedgerFull", spec := "ledgerFull", inPlace := ["internal/bytealg.Compare", "slices.overlaps[outrider/ledger.Entry]", "internal/abi.NoEscape", "internal/bytealg.MakeNoZero", "maps.clone"], unfollowed := true, recurses := true, apart := false, narrowed := true }
def LedgerFullUptoSaid : Prop := ledgerFullUptoRow.holds Tryz.pinned (OpenSpec.upto ledgerFullSpec)

/-- 'outriderlaw16.LedgerHolds', WHERE WHAT IT READS IS OF BULK AT MOST 1048576: true; the input reads as it did. -/
def ledgerHoldsUptoRow : OpenClaim := { program := "ytlphgephdhadhaagreat", sum := "2a6f44a787e3f14524b107e6af7688330976db9cc74ca26d6394cae1f6025311", func := "outrider/outriderlaw16.LedgerHolds", spec := "ledgerHolds", inPlace := ["internal/bytealg.Compare", "slices.overlaps[outrider/ledger.Entry]", "internal/abi.NoEscape", "internal/bytealg.MakeNoZero", "maps.clone"], unfollowed := true, recurses := true, apart := false, narrowed := true }
def LedgerHoldsUptoSaid : Prop := ledgerHoldsUptoRow.holds Tryz.pinned (OpenSpec.upto ledgerHoldsSpec)

/-- 'outriderlaw16.LedgerTexts', WHERE WHAT IT READS IS OF BULK AT MOST 1048576: true; the input reads as it did. -/
def ledgerTextsUptoRow : OpenClaim := { program := "ytlphgephdhadhaagreat", sum := "2a6f44a787e3f14524b107e6af7688330976db9cc74ca26d6394cae1f6025311", func := "outrider/outriderlaw16.LedgerTexts", spec := "ledgerTexts", inPlace := ["internal/bytealg.Compare", "slices.overlaps[outrider/ledger.Entry]", "internal/abi.NoEscape", "internal/bytealg.MakeNoZero", "maps.clone"], unfollowed := true, recurses := true, apart := false, narrowed := true }
def LedgerTextsUptoSaid : Prop := ledgerTextsUptoRow.holds Tryz.pinned (OpenSpec.upto ledgerTextsSpec)

/-- 'outriderlaw16.LedgerTurns', WHERE WHAT IT READS IS OF BULK AT MOST 1048576: true; the input reads as it did. -/
def ledgerTurnsUptoRow : OpenClaim := { program := "ytlphgephdhadhaagreat", sum := "2a6f44a787e3f14524b107e6af7688330976db9cc74ca26d6394cae1f6025311", func := "outrider/outriderlaw16.LedgerTurns", spec := "ledgerTurns", inPlace := ["internal/bytealg.Compare", "slices.overlaps[outrider/ledger.Entry]", "internal/abi.NoEscape", "internal/bytealg.MakeNoZero", "maps.clone"], unfollowed := true, recurses := true, apart := false, narrowed := true }
def LedgerTurnsUptoSaid : Prop := ledgerTurnsUptoRow.holds Tryz.pinned (OpenSpec.upto ledgerTurnsSpec)

end Rows
end Go.Proofs.YtlphgephdhadhaaGreat
