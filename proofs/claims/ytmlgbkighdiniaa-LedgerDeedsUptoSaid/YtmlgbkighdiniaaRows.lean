/-
  No cell of these rows narrows 'for every input' (looked for: loops, veiled, ifaces, maps, wideKeys, modest, calm, conditions, laid).
  DERIVED. THE GIVEN ROWS OF THIS SEAT. 8 by the template 'for every input the law returns true; each argument reads behind the call as it read before'; 0 by the template 'total and deterministic' (their statements: YtmlgbkighdiniaaTotals.lean).
  GIVEN WITH THE SEED: the statements are not yours to turn. If you find one false, say at which input.
  Laid BY PROGRAM, IN A SANDBOX (cutbox-rows.mjs): the forced cells as the released guide's own fill.sh prints them over the translation 97873ade89b3a3a3… (all of the seat's roots in one cut). By AI agents, Wed Nov 11 2026. No macro, syntax, notation, axiom, sorry.
-/
import Derived.Test.YtmlgbkighdiniaaChecked
import GoSem.Claim
import GoSem.ClaimJoined
import GoSem.ClaimMapViews
import Derived.JoinedTies
import Derived.KernelRfl
namespace Go.Proofs.Ytmlgbkighdiniaa
/- THE CELL 'sum', in the pinned program and in every row, IS THE sha256 OF THE DUMP (.gsa) THAT YtmlgbkighdiniaaProg.lean LOADS. Nothing in Lean hashes anything: it is a label: what it is worth is what the hold of that sum in a sandbox is worth. -/
noncomputable def Try.pinned : Pinned := { name := "ytmlgbkighdiniaa", sum := "97873ade89b3a3a30b0673b90a8f2da1824ec35355e03d95d49c9697d3981a9f", checked := Try.checked }
namespace Rows
def none {H : Type} : Left H := { results := [], args := [] }

/-- 'causewaylaw17.LedgerRefused': WHATEVER THE INPUT: true; the input reads as it did. -/
def ledgerRefusedSpec : ChangeSpec := { name := "ledgerRefused", fn := fun _ => fun
  | [d1, d2, d3] => { results := [.lit (.bool true)], args := [d1, d2, d3] }
  | _ => none }
def ledgerRefusedRow : OpenClaim := { program := "ytmlgbkighdiniaa", sum := "97873ade89b3a3a30b0673b90a8f2da1824ec35355e03d95d49c9697d3981a9f", func := "causeway/causewaylaw17.LedgerRefused", spec := "ledgerRefused", apart := false }
def LedgerRefusedSaid : Prop := ledgerRefusedRow.holds Try.pinned (OpenSpec.ofChange ledgerRefusedSpec)

/-- ITS FALSE NEIGHBOUR: 'it returns false'. Refute it at one input. -/
def ledgerRefusedWrong : ChangeSpec := { name := "ledgerRefused", fn := fun _ => fun
  | [d1, d2, d3] => { results := [.lit (.bool false)], args := [d1, d2, d3] }
  | _ => none }
def LedgerRefusedWrongFalsely : Prop := ledgerRefusedRow.holds Try.pinned (OpenSpec.ofChange ledgerRefusedWrong)

/-- 'causewaylaw17.LedgerDeeds': WHATEVER THE INPUT: true; the input reads as it did. -/
def ledgerDeedsSpec : ChangeSpec := { name := "ledgerDeeds", fn := fun _ => fun
  | [d1, d2, d3] => { results := [.lit (.bool true)], args := [d1, d2, d3] }
  | _ => none }
def ledgerDeedsRow : OpenClaim := { program := "ytmlgbkighdiniaa", sum := "97873ade89b3a3a30b0673b90a8f2da1824ec35355e03d95d49c9697d3981a9f", func := "causeway/causewaylaw17.LedgerDeeds", spec := "ledgerDeeds", apart := false }
def LedgerDeedsSaid : Prop := ledgerDeedsRow.holds Try.pinned (OpenSpec.ofChange ledgerDeedsSpec)

/-- ITS FALSE NEIGHBOUR: 'it returns false'. Refute it at one input. -/
def ledgerDeedsWrong : ChangeSpec := { name := "ledgerDeeds", fn := fun _ => fun
  | [d1, d2, d3] => { results := [.lit (.bool false)], args := [d1, d2, d3] }
  | _ => none }
def LedgerDeedsWrongFalsely : Prop := ledgerDeedsRow.holds Try.pinned (OpenSpec.ofChange ledgerDeedsWrong)

/-- 'causewaylaw17.LedgerKeeps': WHATEVER THE INPUT: true; the input reads as it did. -/
def ledgerKeepsSpec : ChangeSpec := { name := "ledgerKeeps", fn := fun _ => fun
  | [d] => { results := [.lit (.bool true)], args := [d] }
  | _ => none }
def ledgerKeepsRow : OpenClaim := { program := "ytmlgbkighdiniaa", sum := "97873ade89b3a3a30b0673b90a8f2da1824ec35355e03d95d49c9697d3981a9f", func := "causeway/causewaylaw17.LedgerKeeps", spec := "ledgerKeeps", apart := false }
def LedgerKeepsSaid : Prop := ledgerKeepsRow.holds Try.pinned (OpenSpec.ofChange ledgerKeepsSpec)

/-- ITS FALSE NEIGHBOUR: 'it returns false'. Refute it at one input. -/
def ledgerKeepsWrong : ChangeSpec := { name := "ledgerKeeps", fn := fun _ => fun
  | [d] => { results := [.lit (.bool false)], args := [d] }
  | _ => none }
def LedgerKeepsWrongFalsely : Prop := ledgerKeepsRow.holds Try.pinned (OpenSpec.ofChange ledgerKeepsWrong)

/-- 'causewaylaw17.LedgerPieces': WHATEVER THE INPUT: true; the input reads as it did. -/
def ledgerPiecesSpec : ChangeSpec := { name := "ledgerPieces", fn := fun _ => fun
  | [d1, d2] => { results := [.lit (.bool true)], args := [d1, d2] }
  | _ => none }
def ledgerPiecesRow : OpenClaim := { program := "ytmlgbkighdiniaa", sum := "97873ade89b3a3a30b0673b90a8f2da1824ec35355e03d95d49c9697d3981a9f", func := "causeway/causewaylaw17.LedgerPieces", spec := "ledgerPieces", apart := false }
def LedgerPiecesSaid : Prop := ledgerPiecesRow.holds Try.pinned (OpenSpec.ofChange ledgerPiecesSpec)

/-- ITS FALSE NEIGHBOUR: 'it returns false'. Refute it at one input. -/
def ledgerPiecesWrong : ChangeSpec := { name := "ledgerPieces", fn := fun _ => fun
  | [d1, d2] => { results := [.lit (.bool false)], args := [d1, d2] }
  | _ => none }
def LedgerPiecesWrongFalsely : Prop := ledgerPiecesRow.holds Try.pinned (OpenSpec.ofChange ledgerPiecesWrong)

/-- 'causewaylaw17.LedgerCut': WHATEVER THE INPUT: true; the input reads as it did. -/
def ledgerCutSpec : ChangeSpec := { name := "ledgerCut", fn := fun _ => fun
  | [d1, d2] => { results := [.lit (.bool true)], args := [d1, d2] }
  | _ => none }
def ledgerCutRow : OpenClaim := { program := "ytmlgbkighdiniaa", sum := "97873ade89b3a3a30b0673b90a8f2da1824ec35355e03d95d49c9697d3981a9f", func := "causeway/causewaylaw17.LedgerCut", spec := "ledgerCut", apart := false }
def LedgerCutSaid : Prop := ledgerCutRow.holds Try.pinned (OpenSpec.ofChange ledgerCutSpec)

/-- ITS FALSE NEIGHBOUR: 'it returns false'. Refute it at one input. -/
def ledgerCutWrong : ChangeSpec := { name := "ledgerCut", fn := fun _ => fun
  | [d1, d2] => { results := [.lit (.bool false)], args := [d1, d2] }
  | _ => none }
def LedgerCutWrongFalsely : Prop := ledgerCutRow.holds Try.pinned (OpenSpec.ofChange ledgerCutWrong)

/-- 'causewaylaw17.LedgerCompact': WHATEVER THE INPUT: true; the input reads as it did. -/
def ledgerCompactSpec : ChangeSpec := { name := "ledgerCompact", fn := fun _ => fun
  | [d1, d2] => { results := [.lit (.bool true)], args := [d1, d2] }
  | _ => none }
def ledgerCompactRow : OpenClaim := { program := "ytmlgbkighdiniaa", sum := "97873ade89b3a3a30b0673b90a8f2da1824ec35355e03d95d49c9697d3981a9f", func := "causeway/causewaylaw17.LedgerCompact", spec := "ledgerCompact", apart := false }
def LedgerCompactSaid : Prop := ledgerCompactRow.holds Try.pinned (OpenSpec.ofChange ledgerCompactSpec)

/-- ITS FALSE NEIGHBOUR: 'it returns false'. Refute it at one input. -/
def ledgerCompactWrong : ChangeSpec := { name := "ledgerCompact", fn := fun _ => fun
  | [d1, d2] => { results := [.lit (.bool false)], args := [d1, d2] }
  | _ => none }
def LedgerCompactWrongFalsely : Prop := ledgerCompactRow.holds Try.pinned (OpenSpec.ofChange ledgerCompactWrong)

/-- 'causewaylaw17.LedgerSlices': WHATEVER THE INPUT: true; the input reads as it did. -/
def ledgerSlicesSpec : ChangeSpec := { name := "ledgerSlices", fn := fun _ => fun
  | [d1, d2, d3] => { results := [.lit (.bool true)], args := [d1, d2, d3] }
  | _ => none }
def ledgerSlicesRow : OpenClaim := { program := "ytmlgbkighdiniaa", sum := "97873ade89b3a3a30b0673b90a8f2da1824ec35355e03d95d49c9697d3981a9f", func := "causeway/causewaylaw17.LedgerSlices", spec := "ledgerSlices", apart := false }
def LedgerSlicesSaid : Prop := ledgerSlicesRow.holds Try.pinned (OpenSpec.ofChange ledgerSlicesSpec)

/-- ITS FALSE NEIGHBOUR: 'it returns false'. Refute it at one input. -/
def ledgerSlicesWrong : ChangeSpec := { name := "ledgerSlices", fn := fun _ => fun
  | [d1, d2, d3] => { results := [.lit (.bool false)], args := [d1, d2, d3] }
  | _ => none }
def LedgerSlicesWrongFalsely : Prop := ledgerSlicesRow.holds Try.pinned (OpenSpec.ofChange ledgerSlicesWrong)

/-- 'causewaylaw17.LedgerKnown': WHATEVER THE INPUT: true; the input reads as it did. -/
def ledgerKnownSpec : ChangeSpec := { name := "ledgerKnown", fn := fun _ => fun
  | [] => { results := [.lit (.bool true)], args := [] }
  | _ => none }
def ledgerKnownRow : OpenClaim := { program := "ytmlgbkighdiniaa", sum := "97873ade89b3a3a30b0673b90a8f2da1824ec35355e03d95d49c9697d3981a9f", func := "causeway/causewaylaw17.LedgerKnown", spec := "ledgerKnown", apart := false }
def LedgerKnownSaid : Prop := ledgerKnownRow.holds Try.pinned (OpenSpec.ofChange ledgerKnownSpec)

/-- ITS FALSE NEIGHBOUR: 'it returns false'. Refute it at one input. -/
def ledgerKnownWrong : ChangeSpec := { name := "ledgerKnown", fn := fun _ => fun
  | [] => { results := [.lit (.bool false)], args := [] }
  | _ => none }
def LedgerKnownWrongFalsely : Prop := ledgerKnownRow.holds Try.pinned (OpenSpec.ofChange ledgerKnownWrong)

/- THE SECOND FORM. 'bulk': how many values and letters a reading holds, each counted each time it is reached (what is shared counts as often as it is met; a slice's spare places count too). A statement '..UptoSaid' is the law's where the arguments, and the package variables that the reading takes, are together of bulk at most 1048576: NARROWER than '..Said'. Prove '..Said' where nothing that the law and all that it calls make is longer than what came in: it says more and counts as full. Else prove '..UptoSaid'. A law counts once. -/
mutual
def uptoBulk {H : Type} : DataW H → Nat
  | .lit (.string bytes) => bytes.length + 1
  | .lit _ => 1
  | .nil => 1
  | .ptr d => uptoBulk d + 1
  | .slice elems spare => uptoBulkAll elems + uptoBulkAll spare + 1
  | .agg parts => uptoBulkAll parts + 1
  | .iface _ d => uptoBulk d + 1
  | .map entries => uptoBulkEntries entries + 1
  | .held _ => 1
def uptoBulkAll {H : Type} : List (DataW H) → Nat
  | [] => 0
  | d :: r => uptoBulk d + uptoBulkAll r
def uptoBulkEntries {H : Type} : List (Lit × DataW H) → Nat
  | [] => 0
  | x :: r => uptoBulkEntry x + uptoBulkEntries r
def uptoBulkEntry {H : Type} : Lit × DataW H → Nat
  | (.string bytes, d) => bytes.length + uptoBulk d + 1
  | (_, d) => uptoBulk d + 1
 end
def uptoSmall : (H : Type) → List (DataW H) → Bool := fun _ ds => decide (uptoBulkAll ds ≤ 1048576)
def OpenSpec.upto (s : _root_.Go.ChangeSpec) : _root_.Go.OpenSpec := { _root_.Go.OpenSpec.ofChange s with cond := some uptoSmall }

/-- 'causewaylaw17.LedgerRefused', WHERE WHAT IT READS IS OF BULK AT MOST 1048576: true; the input reads as it did. -/
def ledgerRefusedUptoRow : OpenClaim := { program := "ytmlgbkighdiniaa", sum := "97873ade89b3a3a30b0673b90a8f2da1824ec35355e03d95d49c9697d3981a9f", func := "causeway/causewaylaw17.LedgerRefused", spec := "ledgerRefused", apart := false, narrowed := true }
def LedgerRefusedUptoSaid : Prop := ledgerRefusedUptoRow.holds Try.pinned (OpenSpec.upto ledgerRefusedSpec)

/-- 'causewaylaw17.LedgerDeeds', WHERE WHAT IT READS IS OF BULK AT MOST 1048576: true; the input reads as it did. -/
def ledgerDeedsUptoRow : OpenClaim := { program := "ytmlgbkighdiniaa", sum := "97873ade89b3a3a30b0673b90a8f2da1824ec35355e03d95d49c9697d3981a9f", func := "causeway/causewaylaw17.LedgerDeeds", spec := "ledgerDeeds", apart := false, narrowed := true }
def LedgerDeedsUptoSaid : Prop := ledgerDeedsUptoRow.holds Try.pinned (OpenSpec.upto ledgerDeedsSpec)

/-- 'causewaylaw17.LedgerKeeps', WHERE WHAT IT READS IS OF BULK AT MOST 1048576: true; the input reads as it did. -/
def ledgerKeepsUptoRow : OpenClaim := { program := "ytmlgbkighdiniaa", sum := "97873ade89b3a3a30b0673b90a8f2da1824ec35355e03d95d49c9697d3981a9f", func := "causeway/causewaylaw17.LedgerKeeps", spec := "ledgerKeeps", apart := false, narrowed := true }
def LedgerKeepsUptoSaid : Prop := ledgerKeepsUptoRow.holds Try.pinned (OpenSpec.upto ledgerKeepsSpec)

/-- 'causewaylaw17.LedgerPieces', WHERE WHAT IT READS IS OF BULK AT MOST 1048576: true; the input reads as it did. -/
def ledgerPiecesUptoRow : OpenClaim := { program := "ytmlgbkighdiniaa", sum := "97873ade89b3a3a30b0673b90a8f2da1824ec35355e03d95d49c9697d3981a9f", func := "causeway/causewaylaw17.LedgerPieces", spec := "ledgerPieces", apart := false, narrowed := true }
def LedgerPiecesUptoSaid : Prop := ledgerPiecesUptoRow.holds Try.pinned (OpenSpec.upto ledgerPiecesSpec)

/-- 'causewaylaw17.LedgerCut', WHERE WHAT IT READS IS OF BULK AT MOST 1048576: true; the input reads as it did. -/
def ledgerCutUptoRow : OpenClaim := { program := "ytmlgbkighdiniaa", sum := "97873ade89b3a3a30b0673b90a8f2da1824ec35355e03d95d49c9697d3981a9f", func := "causeway/causewaylaw17.LedgerCut", spec := "ledgerCut", apart := false, narrowed := true }
def LedgerCutUptoSaid : Prop := ledgerCutUptoRow.holds Try.pinned (OpenSpec.upto ledgerCutSpec)

/-- 'causewaylaw17.LedgerCompact', WHERE WHAT IT READS IS OF BULK AT MOST 1048576: true; the input reads as it did. -/
def ledgerCompactUptoRow : OpenClaim := { program := "ytmlgbkighdiniaa", sum := "97873ade89b3a3a30b0673b90a8f2da1824ec35355e03d95d49c9697d3981a9f", func := "causeway/causewaylaw17.LedgerCompact", spec := "ledgerCompact", apart := false, narrowed := true }
def LedgerCompactUptoSaid : Prop := ledgerCompactUptoRow.holds Try.pinned (OpenSpec.upto ledgerCompactSpec)

/-- 'causewaylaw17.LedgerSlices', WHERE WHAT IT READS IS OF BULK AT MOST 1048576: true; the input reads as it did. -/
def ledgerSlicesUptoRow : OpenClaim := { program := "ytmlgbkighdiniaa", sum := "97873ade89b3a3a30b0673b90a8f2da1824ec35355e03d95d49c9697d3981a9f", func := "causeway/causewaylaw17.LedgerSlices", spec := "ledgerSlices", apart := false, narrowed := true }
def LedgerSlicesUptoSaid : Prop := ledgerSlicesUptoRow.holds Try.pinned (OpenSpec.upto ledgerSlicesSpec)

/-- 'causewaylaw17.LedgerKnown', WHERE WHAT IT READS IS OF BULK AT MOST 1048576: true; the input reads as it did. -/
def ledgerKnownUptoRow : OpenClaim := { program := "ytmlgbkighdiniaa", sum := "97873ade89b3a3a30b0673b90a8f2da1824ec35355e03d95d49c9697d3981a9f", func := "causeway/causewaylaw17.LedgerKnown", spec := "ledgerKnown", apart := false, narrowed := true }
def LedgerKnownUptoSaid : Prop := ledgerKnownUptoRow.holds Try.pinned (OpenSpec.upto ledgerKnownSpec)

end Rows
end Go.Proofs.Ytmlgbkighdiniaa
