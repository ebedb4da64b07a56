/-
  No cell of these rows narrows 'for every input' (looked for: loops, veiled, ifaces, maps, wideKeys, modest, calm, conditions, laid).
  DERIVED. THE GIVEN ROWS OF THIS SEAT. 13 by the template 'for every input the law returns true; each argument reads behind the call as it read before'; 0 by the template 'total and deterministic' (their statements: YtdffkkobifnabaaTotals.lean).
  GIVEN WITH THE SEED: the statements are not yours to turn. If you find one false, say at which input.
  Laid BY PROGRAM, IN A SANDBOX (cutbox-rows.mjs): the forced cells as the released guide's own fill.sh prints them over the translation 1052ef57938e2ee0… (all of the seat's roots in one cut). By AI agents, Wed Nov 11 2026. No macro, syntax, notation, axiom, sorry.
-/
import Derived.Test.YtdffkkobifnabaaChecked
import GoSem.Claim
import GoSem.ClaimJoined
import GoSem.ClaimMapViews
import Derived.JoinedTies
import Derived.KernelRfl
namespace Go.Proofs.Ytdffkkobifnabaa
/- THE CELL 'sum', in the pinned program and in every row, IS THE sha256 OF THE DUMP (.gsa) THAT YtdffkkobifnabaaProg.lean LOADS. Nothing in Lean hashes anything: it is a label: what it is worth is what the hold of that sum in a sandbox is worth. -/
noncomputable def Try.pinned : Pinned := { name := "ytdffkkobifnabaa", sum := "1052ef57938e2ee0571672f6cce0b6d1d7d7ce7431f29d1ff65102bdf228db80", checked := Try.checked }
namespace Rows
def none {H : Type} : Left H := { results := [], args := [] }

/-- 'causewaylaw18.CrewChecks': WHATEVER THE INPUT: true; the input reads as it did. -/
def crewChecksSpec : ChangeSpec := { name := "crewChecks", fn := fun _ => fun
  | [d] => { results := [.lit (.bool true)], args := [d] }
  | _ => none }
def crewChecksRow : OpenClaim := { program := "ytdffkkobifnabaa", sum := "1052ef57938e2ee0571672f6cce0b6d1d7d7ce7431f29d1ff65102bdf228db80", func := "causeway/causewaylaw18.CrewChecks", spec := "crewChecks", recurses := true, apart := false }
def CrewChecksSaid : Prop := crewChecksRow.holds Try.pinned (OpenSpec.ofChange crewChecksSpec)

/-- ITS FALSE NEIGHBOUR: 'it returns false'. Refute it at one input. -/
def crewChecksWrong : ChangeSpec := { name := "crewChecks", fn := fun _ => fun
  | [d] => { results := [.lit (.bool false)], args := [d] }
  | _ => none }
def CrewChecksWrongFalsely : Prop := crewChecksRow.holds Try.pinned (OpenSpec.ofChange crewChecksWrong)

/-- 'causewaylaw18.CrewHas': WHATEVER THE INPUT: true; the input reads as it did. -/
def crewHasSpec : ChangeSpec := { name := "crewHas", fn := fun _ => fun
  | [d1, d2] => { results := [.lit (.bool true)], args := [d1, d2] }
  | _ => none }
def crewHasRow : OpenClaim := { program := "ytdffkkobifnabaa", sum := "1052ef57938e2ee0571672f6cce0b6d1d7d7ce7431f29d1ff65102bdf228db80", func := "causeway/causewaylaw18.CrewHas", spec := "crewHas", recurses := true, apart := false }
def CrewHasSaid : Prop := crewHasRow.holds Try.pinned (OpenSpec.ofChange crewHasSpec)

/-- ITS FALSE NEIGHBOUR: 'it returns false'. Refute it at one input. -/
def crewHasWrong : ChangeSpec := { name := "crewHas", fn := fun _ => fun
  | [d1, d2] => { results := [.lit (.bool false)], args := [d1, d2] }
  | _ => none }
def CrewHasWrongFalsely : Prop := crewHasRow.holds Try.pinned (OpenSpec.ofChange crewHasWrong)

/-- 'causewaylaw18.CrewOf': WHATEVER THE INPUT: true; the input reads as it did. -/
def crewOfSpec : ChangeSpec := { name := "crewOf", fn := fun _ => fun
  | [d] => { results := [.lit (.bool true)], args := [d] }
  | _ => none }
def crewOfRow : OpenClaim := { program := "ytdffkkobifnabaa", sum := "1052ef57938e2ee0571672f6cce0b6d1d7d7ce7431f29d1ff65102bdf228db80", func := "causeway/causewaylaw18.CrewOf", spec := "crewOf", recurses := true, apart := false }
def CrewOfSaid : Prop := crewOfRow.holds Try.pinned (OpenSpec.ofChange crewOfSpec)

/-- ITS FALSE NEIGHBOUR: 'it returns false'. Refute it at one input. -/
def crewOfWrong : ChangeSpec := { name := "crewOf", fn := fun _ => fun
  | [d] => { results := [.lit (.bool false)], args := [d] }
  | _ => none }
def CrewOfWrongFalsely : Prop := crewOfRow.holds Try.pinned (OpenSpec.ofChange crewOfWrong)

/-- 'causewaylaw18.CrewMost': WHATEVER THE INPUT: true; the input reads as it did. -/
def crewMostSpec : ChangeSpec := { name := "crewMost", fn := fun _ => fun
  | [d1, d2] => { results := [.lit (.bool true)], args := [d1, d2] }
  | _ => none }
def crewMostRow : OpenClaim := { program := "ytdffkkobifnabaa", sum := "1052ef57938e2ee0571672f6cce0b6d1d7d7ce7431f29d1ff65102bdf228db80", func := "causeway/causewaylaw18.CrewMost", spec := "crewMost", recurses := true, apart := false }
def CrewMostSaid : Prop := crewMostRow.holds Try.pinned (OpenSpec.ofChange crewMostSpec)

/-- ITS FALSE NEIGHBOUR: 'it returns false'. Refute it at one input. -/
def crewMostWrong : ChangeSpec := { name := "crewMost", fn := fun _ => fun
  | [d1, d2] => { results := [.lit (.bool false)], args := [d1, d2] }
  | _ => none }
def CrewMostWrongFalsely : Prop := crewMostRow.holds Try.pinned (OpenSpec.ofChange crewMostWrong)

/-- 'causewaylaw18.CrewRank': WHATEVER THE INPUT: true; the input reads as it did. -/
def crewRankSpec : ChangeSpec := { name := "crewRank", fn := fun _ => fun
  | [d1, d2] => { results := [.lit (.bool true)], args := [d1, d2] }
  | _ => none }
def crewRankRow : OpenClaim := { program := "ytdffkkobifnabaa", sum := "1052ef57938e2ee0571672f6cce0b6d1d7d7ce7431f29d1ff65102bdf228db80", func := "causeway/causewaylaw18.CrewRank", spec := "crewRank", recurses := true, apart := false }
def CrewRankSaid : Prop := crewRankRow.holds Try.pinned (OpenSpec.ofChange crewRankSpec)

/-- ITS FALSE NEIGHBOUR: 'it returns false'. Refute it at one input. -/
def crewRankWrong : ChangeSpec := { name := "crewRank", fn := fun _ => fun
  | [d1, d2] => { results := [.lit (.bool false)], args := [d1, d2] }
  | _ => none }
def CrewRankWrongFalsely : Prop := crewRankRow.holds Try.pinned (OpenSpec.ofChange crewRankWrong)

/-- 'causewaylaw18.CrewMeet': WHATEVER THE INPUT: true; the input reads as it did. -/
def crewMeetSpec : ChangeSpec := { name := "crewMeet", fn := fun _ => fun
  | [d1, d2, d3] => { results := [.lit (.bool true)], args := [d1, d2, d3] }
  | _ => none }
def crewMeetRow : OpenClaim := { program := "ytdffkkobifnabaa", sum := "1052ef57938e2ee0571672f6cce0b6d1d7d7ce7431f29d1ff65102bdf228db80", func := "causeway/causewaylaw18.CrewMeet", spec := "crewMeet", recurses := true, apart := false }
def CrewMeetSaid : Prop := crewMeetRow.holds Try.pinned (OpenSpec.ofChange crewMeetSpec)

/-- ITS FALSE NEIGHBOUR: 'it returns false'. Refute it at one input. -/
def crewMeetWrong : ChangeSpec := { name := "crewMeet", fn := fun _ => fun
  | [d1, d2, d3] => { results := [.lit (.bool false)], args := [d1, d2, d3] }
  | _ => none }
def CrewMeetWrongFalsely : Prop := crewMeetRow.holds Try.pinned (OpenSpec.ofChange crewMeetWrong)

/-- 'causewaylaw18.CrewMeetNext': WHATEVER THE INPUT: true; the input reads as it did. -/
def crewMeetNextSpec : ChangeSpec := { name := "crewMeetNext", fn := fun _ => fun
  | [d1, d2, d3] => { results := [.lit (.bool true)], args := [d1, d2, d3] }
  | _ => none }
def crewMeetNextRow : OpenClaim := { program := "ytdffkkobifnabaa", sum := "1052ef57938e2ee0571672f6cce0b6d1d7d7ce7431f29d1ff65102bdf228db80", func := "causeway/causewaylaw18.CrewMeetNext", spec := "crewMeetNext", recurses := true, apart := false }
def CrewMeetNextSaid : Prop := crewMeetNextRow.holds Try.pinned (OpenSpec.ofChange crewMeetNextSpec)

/-- ITS FALSE NEIGHBOUR: 'it returns false'. Refute it at one input. -/
def crewMeetNextWrong : ChangeSpec := { name := "crewMeetNext", fn := fun _ => fun
  | [d1, d2, d3] => { results := [.lit (.bool false)], args := [d1, d2, d3] }
  | _ => none }
def CrewMeetNextWrongFalsely : Prop := crewMeetNextRow.holds Try.pinned (OpenSpec.ofChange crewMeetNextWrong)

/-- 'causewaylaw18.CrewChange': WHATEVER THE INPUT: true; the input reads as it did. -/
def crewChangeSpec : ChangeSpec := { name := "crewChange", fn := fun _ => fun
  | [d1, d2] => { results := [.lit (.bool true)], args := [d1, d2] }
  | _ => none }
def crewChangeRow : OpenClaim := { program := "ytdffkkobifnabaa", sum := "1052ef57938e2ee0571672f6cce0b6d1d7d7ce7431f29d1ff65102bdf228db80", func := "causeway/causewaylaw18.CrewChange", spec := "crewChange", recurses := true, apart := false }
def CrewChangeSaid : Prop := crewChangeRow.holds Try.pinned (OpenSpec.ofChange crewChangeSpec)

/-- ITS FALSE NEIGHBOUR: 'it returns false'. Refute it at one input. -/
def crewChangeWrong : ChangeSpec := { name := "crewChange", fn := fun _ => fun
  | [d1, d2] => { results := [.lit (.bool false)], args := [d1, d2] }
  | _ => none }
def CrewChangeWrongFalsely : Prop := crewChangeRow.holds Try.pinned (OpenSpec.ofChange crewChangeWrong)

/-- 'causewaylaw18.CrewList': WHATEVER THE INPUT: true; the input reads as it did. -/
def crewListSpec : ChangeSpec := { name := "crewList", fn := fun _ => fun
  | [d] => { results := [.lit (.bool true)], args := [d] }
  | _ => none }
def crewListRow : OpenClaim := { program := "ytdffkkobifnabaa", sum := "1052ef57938e2ee0571672f6cce0b6d1d7d7ce7431f29d1ff65102bdf228db80", func := "causeway/causewaylaw18.CrewList", spec := "crewList", recurses := true, apart := false }
def CrewListSaid : Prop := crewListRow.holds Try.pinned (OpenSpec.ofChange crewListSpec)

/-- ITS FALSE NEIGHBOUR: 'it returns false'. Refute it at one input. -/
def crewListWrong : ChangeSpec := { name := "crewList", fn := fun _ => fun
  | [d] => { results := [.lit (.bool false)], args := [d] }
  | _ => none }
def CrewListWrongFalsely : Prop := crewListRow.holds Try.pinned (OpenSpec.ofChange crewListWrong)

/-- 'causewaylaw18.CrewOrder': WHATEVER THE INPUT: true; the input reads as it did. -/
def crewOrderSpec : ChangeSpec := { name := "crewOrder", fn := fun _ => fun
  | [d1, d2] => { results := [.lit (.bool true)], args := [d1, d2] }
  | _ => none }
def crewOrderRow : OpenClaim := { program := "ytdffkkobifnabaa", sum := "1052ef57938e2ee0571672f6cce0b6d1d7d7ce7431f29d1ff65102bdf228db80", func := "causeway/causewaylaw18.CrewOrder", spec := "crewOrder", recurses := true, apart := false }
def CrewOrderSaid : Prop := crewOrderRow.holds Try.pinned (OpenSpec.ofChange crewOrderSpec)

/-- ITS FALSE NEIGHBOUR: 'it returns false'. Refute it at one input. -/
def crewOrderWrong : ChangeSpec := { name := "crewOrder", fn := fun _ => fun
  | [d1, d2] => { results := [.lit (.bool false)], args := [d1, d2] }
  | _ => none }
def CrewOrderWrongFalsely : Prop := crewOrderRow.holds Try.pinned (OpenSpec.ofChange crewOrderWrong)

/-- 'causewaylaw18.CrewRanked': WHATEVER THE INPUT: true; the input reads as it did. -/
def crewRankedSpec : ChangeSpec := { name := "crewRanked", fn := fun _ => fun
  | [d1, d2] => { results := [.lit (.bool true)], args := [d1, d2] }
  | _ => none }
def crewRankedRow : OpenClaim := { program := "ytdffkkobifnabaa", sum := "1052ef57938e2ee0571672f6cce0b6d1d7d7ce7431f29d1ff65102bdf228db80", func := "causeway/causewaylaw18.CrewRanked", spec := "crewRanked", recurses := true, apart := false }
def CrewRankedSaid : Prop := crewRankedRow.holds Try.pinned (OpenSpec.ofChange crewRankedSpec)

/-- ITS FALSE NEIGHBOUR: 'it returns false'. Refute it at one input. -/
def crewRankedWrong : ChangeSpec := { name := "crewRanked", fn := fun _ => fun
  | [d1, d2] => { results := [.lit (.bool false)], args := [d1, d2] }
  | _ => none }
def CrewRankedWrongFalsely : Prop := crewRankedRow.holds Try.pinned (OpenSpec.ofChange crewRankedWrong)

/-- 'causewaylaw18.CrewRises': WHATEVER THE INPUT: true; the input reads as it did. -/
def crewRisesSpec : ChangeSpec := { name := "crewRises", fn := fun _ => fun
  | [d1, d2, d3] => { results := [.lit (.bool true)], args := [d1, d2, d3] }
  | _ => none }
def crewRisesRow : OpenClaim := { program := "ytdffkkobifnabaa", sum := "1052ef57938e2ee0571672f6cce0b6d1d7d7ce7431f29d1ff65102bdf228db80", func := "causeway/causewaylaw18.CrewRises", spec := "crewRises", recurses := true, apart := false }
def CrewRisesSaid : Prop := crewRisesRow.holds Try.pinned (OpenSpec.ofChange crewRisesSpec)

/-- ITS FALSE NEIGHBOUR: 'it returns false'. Refute it at one input. -/
def crewRisesWrong : ChangeSpec := { name := "crewRises", fn := fun _ => fun
  | [d1, d2, d3] => { results := [.lit (.bool false)], args := [d1, d2, d3] }
  | _ => none }
def CrewRisesWrongFalsely : Prop := crewRisesRow.holds Try.pinned (OpenSpec.ofChange crewRisesWrong)

/-- 'causewaylaw18.CrewKnown': WHATEVER THE INPUT: true; the input reads as it did. -/
def crewKnownSpec : ChangeSpec := { name := "crewKnown", fn := fun _ => fun
  | [] => { results := [.lit (.bool true)], args := [] }
  | _ => none }
def crewKnownRow : OpenClaim := { program := "ytdffkkobifnabaa", sum := "1052ef57938e2ee0571672f6cce0b6d1d7d7ce7431f29d1ff65102bdf228db80", func := "causeway/causewaylaw18.CrewKnown", spec := "crewKnown", recurses := true, apart := false }
def CrewKnownSaid : Prop := crewKnownRow.holds Try.pinned (OpenSpec.ofChange crewKnownSpec)

/-- ITS FALSE NEIGHBOUR: 'it returns false'. Refute it at one input. -/
def crewKnownWrong : ChangeSpec := { name := "crewKnown", fn := fun _ => fun
  | [] => { results := [.lit (.bool false)], args := [] }
  | _ => none }
def CrewKnownWrongFalsely : Prop := crewKnownRow.holds Try.pinned (OpenSpec.ofChange crewKnownWrong)

/- THE SECOND FORM. 'bulk': how many values and letters a reading holds, each counted each time it is reached (what is shared counts as often as it is met; a slice's spare places count too). A statement '..UptoSaid' is the law's where the arguments, and the package variables that the reading takes, are together of bulk at most 1048576: NARROWER than '..Said'. Prove '..Said' where nothing that the law and all that it calls make is longer than what came in: it says more and counts as full. Else prove '..UptoSaid'. A law counts once. -/
mutual
def uptoBulk {H : Type} : DataW H → Nat
  | .lit (.string bytes) => bytes.length + 1
  | .lit _ => 1
  | .nil => 1
  | .ptr d => uptoBulk d + 1
  | .slice elems spare => uptoBulkAll elems + uptoBulkAll spare + 1
  | .agg parts => uptoBulkAll parts + 1
  | .iface _ d => uptoBulk d + 1
  | .map entries => uptoBulkEntries entries + 1
  | .held _ => 1
def uptoBulkAll {H : Type} : List (DataW H) → Nat
  | [] => 0
  | d :: r => uptoBulk d + uptoBulkAll r
def uptoBulkEntries {H : Type} : List (Lit × DataW H) → Nat
  | [] => 0
  | x :: r => uptoBulkEntry x + uptoBulkEntries r
def uptoBulkEntry {H : Type} : Lit × DataW H → Nat
  | (.string bytes, d) => bytes.length + uptoBulk d + 1
  | (_, d) => uptoBulk d + 1
 end
def uptoSmall : (H : Type) → List (DataW H) → Bool := fun _ ds => decide (uptoBulkAll ds ≤ 1048576)
def OpenSpec.upto (s : _root_.Go.ChangeSpec) : _root_.Go.OpenSpec := { _root_.Go.OpenSpec.ofChange s with cond := some uptoSmall }

/-- 'causewaylaw18.CrewChecks', WHERE WHAT IT READS IS OF BULK AT MOST 1048576: true; the input reads as it did. -/
def crewChecksUptoRow : OpenClaim := { program := "ytdffkkobifnabaa", sum := "1052ef57938e2ee0571672f6cce0b6d1d7d7ce7431f29d1ff65102bdf228db80", func := "causeway/causewaylaw18.CrewChecks", spec := "crewChecks", recurses := true, apart := false, narrowed := true }
def CrewChecksUptoSaid : Prop := crewChecksUptoRow.holds Try.pinned (OpenSpec.upto crewChecksSpec)

/-- 'causewaylaw18.CrewHas', WHERE WHAT IT READS IS OF BULK AT MOST 1048576: true; the input reads as it did. -/
def crewHasUptoRow : OpenClaim := { program := "ytdffkkobifnabaa", sum := "1052ef57938e2ee0571672f6cce0b6d1d7d7ce7431f29d1ff65102bdf228db80", func := "causeway/causewaylaw18.CrewHas", spec := "crewHas", recurses := true, apart := false, narrowed := true }
def CrewHasUptoSaid : Prop := crewHasUptoRow.holds Try.pinned (OpenSpec.upto crewHasSpec)

/-- 'causewaylaw18.CrewOf', WHERE WHAT IT READS IS OF BULK AT MOST 1048576: true; the input reads as it did. -/
def crewOfUptoRow : OpenClaim := { program := "ytdffkkobifnabaa", sum := "1052ef57938e2ee0571672f6cce0b6d1d7d7ce7431f29d1ff65102bdf228db80", func := "causeway/causewaylaw18.CrewOf", spec := "crewOf", recurses := true, apart := false, narrowed := true }
def CrewOfUptoSaid : Prop := crewOfUptoRow.holds Try.pinned (OpenSpec.upto crewOfSpec)

/-- 'causewaylaw18.CrewMost', WHERE WHAT IT READS IS OF BULK AT MOST 1048576: true; the input reads as it did. -/
def crewMostUptoRow : OpenClaim := { program := "ytdffkkobifnabaa", sum := "1052ef57938e2ee0571672f6cce0b6d1d7d7ce7431f29d1ff65102bdf228db80", func := "causeway/causewaylaw18.CrewMost", spec := "crewMost", recurses := true, apart := false, narrowed := true }
def CrewMostUptoSaid : Prop := crewMostUptoRow.holds Try.pinned (OpenSpec.upto crewMostSpec)

/-- 'causewaylaw18.CrewRank', WHERE WHAT IT READS IS OF BULK AT MOST 1048576: true; the input reads as it did. -/
def crewRankUptoRow : OpenClaim := { program := "ytdffkkobifnabaa", sum := "1052ef57938e2ee0571672f6cce0b6d1d7d7ce7431f29d1ff65102bdf228db80", func := "causeway/causewaylaw18.CrewRank", spec := "crewRank", recurses := true, apart := false, narrowed := true }
def CrewRankUptoSaid : Prop := crewRankUptoRow.holds Try.pinned (OpenSpec.upto crewRankSpec)

/-- 'causewaylaw18.CrewMeet', WHERE WHAT IT READS IS OF BULK AT MOST 1048576: true; the input reads as it did. -/
def crewMeetUptoRow : OpenClaim := { program := "ytdffkkobifnabaa", sum := "1052ef57938e2ee0571672f6cce0b6d1d7d7ce7431f29d1ff65102bdf228db80", func := "causeway/causewaylaw18.CrewMeet", spec := "crewMeet", recurses := true, apart := false, narrowed := true }
def CrewMeetUptoSaid : Prop := crewMeetUptoRow.holds Try.pinned (OpenSpec.upto crewMeetSpec)

/-- 'causewaylaw18.CrewMeetNext', WHERE WHAT IT READS IS OF BULK AT MOST 1048576: true; the input reads as it did. -/
def crewMeetNextUptoRow : OpenClaim := { program := "ytdffkkobifnabaa", sum := "1052ef57938e2ee0571672f6cce0b6d1d7d7ce7431f29d1ff65102bdf228db80", func := "causeway/causewaylaw18.CrewMeetNext", spec := "crewMeetNext", recurses := true, apart := false, narrowed := true }
def CrewMeetNextUptoSaid : Prop := crewMeetNextUptoRow.holds Try.pinned (OpenSpec.upto crewMeetNextSpec)

/-- 'causewaylaw18.CrewChange', WHERE WHAT IT READS IS OF BULK AT MOST 1048576: true; the input reads as it did. -/
def crewChangeUptoRow : OpenClaim := { program := "ytdffkkobifnabaa", sum := "1052ef57938e2ee0571672f6cce0b6d1d7d7ce7431f29d1ff65102bdf228db80", func := "causeway/causewaylaw18.CrewChange", spec := "crewChange", recurses := true, apart := false, narrowed := true }
def CrewChangeUptoSaid : Prop := crewChangeUptoRow.holds Try.pinned (OpenSpec.upto crewChangeSpec)

/-- 'causewaylaw18.CrewList', WHERE WHAT IT READS IS OF BULK AT MOST 1048576: true; the input reads as it did. -/
def crewListUptoRow : OpenClaim := { program := "ytdffkkobifnabaa", sum := "1052ef57938e2ee0571672f6cce0b6d1d7d7ce7431f29d1ff65102bdf228db80", func := "causeway/causewaylaw18.CrewList", spec := "crewList", recurses := true, apart := false, narrowed := true }
def CrewListUptoSaid : Prop := crewListUptoRow.holds Try.pinned (OpenSpec.upto crewListSpec)

/-- 'causewaylaw18.CrewOrder', WHERE WHAT IT READS IS OF BULK AT MOST 1048576: true; the input reads as it did. -/
def crewOrderUptoRow : OpenClaim := { program := "ytdffkkobifnabaa", sum := "1052ef57938e2ee0571672f6cce0b6d1d7d7ce7431f29d1ff65102bdf228db80", func := "causeway/causewaylaw18.CrewOrder", spec := "crewOrder", recurses := true, apart := false, narrowed := true }
def CrewOrderUptoSaid : Prop := crewOrderUptoRow.holds Try.pinned (OpenSpec.upto crewOrderSpec)

/-- 'causewaylaw18.CrewRanked', WHERE WHAT IT READS IS OF BULK AT MOST 1048576: true; the input reads as it did. -/
def crewRankedUptoRow : OpenClaim := { program := "ytdffkkobifnabaa", sum := "1052ef57938e2ee0571672f6cce0b6d1d7d7ce7431f29d1ff65102bdf228db80", func := "causeway/causewaylaw18.CrewRanked", spec := "crewRanked", recurses := true, apart := false, narrowed := true }
def CrewRankedUptoSaid : Prop := crewRankedUptoRow.holds Try.pinned (OpenSpec.upto crewRankedSpec)

/-- 'causewaylaw18.CrewRises', WHERE WHAT IT READS IS OF BULK AT MOST 1048576: true; the input reads as it did. -/
def crewRisesUptoRow : OpenClaim := { program := "ytdffkkobifnabaa", sum := "1052ef57938e2ee0571672f6cce0b6d1d7d7ce7431f29d1ff65102bdf228db80", func := "causeway/causewaylaw18.CrewRises", spec := "crewRises", recurses := true, apart := false, narrowed := true }
def CrewRisesUptoSaid : Prop := crewRisesUptoRow.holds Try.pinned (OpenSpec.upto crewRisesSpec)

/-- 'causewaylaw18.CrewKnown', WHERE WHAT IT READS IS OF BULK AT MOST 1048576: true; the input reads as it did. -/
def crewKnownUptoRow : OpenClaim := { program := "ytdffkkobifnabaa", sum := "1052ef57938e2ee0571672f6cce0b6d1d7d7ce7431f29d1ff65102bdf228db80", func := "causeway/causewaylaw18.CrewKnown", spec := "crewKnown", recurses := true, apart := false, narrowed := true }
def CrewKnownUptoSaid : Prop := crewKnownUptoRow.holds Try.pinned (OpenSpec.upto crewKnownSpec)

end Rows
end Go.Proofs.Ytdffkkobifnabaa
