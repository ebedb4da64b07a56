/-
  No cell of these rows narrows 'for every input' (looked for: loops, veiled, ifaces, maps, wideKeys, modest, calm, conditions, laid).
  DERIVED. THE GIVEN ROWS OF THIS SEAT. 6 by the template 'for every input the law returns true; each argument reads behind the call as it read before'; 0 by the template 'total and deterministic' (their statements: YtdmjkpjedidipaaGreatTotals.lean).
  GIVEN WITH THE SEED: the statements are not yours to turn. If you find one false, say at which input.
  Laid BY PROGRAM, IN A SANDBOX (cutbox-rows.mjs): the forced cells as the released guide's own fill.sh prints them over the translation 23f30c4c73744c24… (all of the seat's roots in one cut). By AI agents, Wed Nov 11 2026. No macro, syntax, notation, axiom, sorry.
-/
import Derived.Test.YtdmjkpjedidipaaGreatChecked
import GoSem.Claim
import GoSem.ClaimJoined
import GoSem.ClaimMapViews
import Derived.JoinedTies
import Derived.KernelRfl
namespace Go.Proofs.YtdmjkpjedidipaaGreat
/- THE CELL 'sum', in the pinned program and in every row, IS THE sha256 OF THE DUMP (.gsa) THAT YtdmjkpjedidipaaGreatProg.lean LOADS. Nothing in Lean hashes anything: it is a label: what it is worth is what the hold of that sum in a sandbox is worth. -/
noncomputable def Tryz.pinned : Pinned := { name := "ytdmjkpjedidipaagreat", sum := "23f30c4c73744c24c77782009cf40d9656c7da700ca17de27cb880ca2ad3c1e2", checked := Tryz.checked }
namespace Rows
def none {H : Type} : Left H := { results := [], args := [] }

/-- 'causewaylaw19.RaftCluster': WHATEVER THE INPUT: true; the input reads as it did. -/
def raftClusterSpec : ChangeSpec := { name := "raftCluster", fn := fun _ => fun
  | [d1, d2] => { results := [.lit (.bool true)], args := [d1, d2] }
  | _ => none }
def raftClusterRow : OpenClaim := { program := "ytdmjkpjedidipaagreat", sum := "23f30c4c73744c24c77782009cf40d9656c7da700ca17de27cb880ca2ad3c1e2", func := "causeway/causewaylaw19.RaftCluster", spec := "raftCluster", unfollowed := true, recurses := true, apart := false }
def RaftClusterSaid : Prop := raftClusterRow.holds Tryz.pinned (OpenSpec.ofChange raftClusterSpec)

/-- ITS FALSE NEIGHBOUR: 'it returns false'. Refute it at one input. -/
def raftClusterWrong : ChangeSpec := { name := "raftCluster", fn := fun _ => fun
  | [d1, d2] => { results := [.lit (.bool false)], args := [d1, d2] }
  | _ => none }
def RaftClusterWrongFalsely : Prop := raftClusterRow.holds Tryz.pinned (OpenSpec.ofChange raftClusterWrong)

/-- 'causewaylaw19.RaftSafe': WHATEVER THE INPUT: true; the input reads as it did. -/
def raftSafeSpec : ChangeSpec := { name := "raftSafe", fn := fun _ => fun
  | [d1, d2] => { results := [.lit (.bool true)], args := [d1, d2] }
  | _ => none }
def raftSafeRow : OpenClaim := { program := "ytdmjkpjedidipaagreat", sum := "23f30c4c73744c24c77782009cf40d9656c7da700ca17de27cb880ca2ad3c1e2", func := "causeway/causewaylaw19.RaftSafe", spec := "raftSafe", unfollowed := true, recurses := true, apart := false }
def RaftSafeSaid : Prop := raftSafeRow.holds Tryz.pinned (OpenSpec.ofChange raftSafeSpec)

/-- ITS FALSE NEIGHBOUR: 'it returns false'. Refute it at one input. -/
def raftSafeWrong : ChangeSpec := { name := "raftSafe", fn := fun _ => fun
  | [d1, d2] => { results := [.lit (.bool false)], args := [d1, d2] }
  | _ => none }
def RaftSafeWrongFalsely : Prop := raftSafeRow.holds Tryz.pinned (OpenSpec.ofChange raftSafeWrong)

/-- 'causewaylaw19.RaftCrews': WHATEVER THE INPUT: true; the input reads as it did. -/
def raftCrewsSpec : ChangeSpec := { name := "raftCrews", fn := fun _ => fun
  | [d1, d2] => { results := [.lit (.bool true)], args := [d1, d2] }
  | _ => none }
def raftCrewsRow : OpenClaim := { program := "ytdmjkpjedidipaagreat", sum := "23f30c4c73744c24c77782009cf40d9656c7da700ca17de27cb880ca2ad3c1e2", func := "causeway/causewaylaw19.RaftCrews", spec := "raftCrews", unfollowed := true, recurses := true, apart := false }
def RaftCrewsSaid : Prop := raftCrewsRow.holds Tryz.pinned (OpenSpec.ofChange raftCrewsSpec)

/-- ITS FALSE NEIGHBOUR: 'it returns false'. Refute it at one input. -/
def raftCrewsWrong : ChangeSpec := { name := "raftCrews", fn := fun _ => fun
  | [d1, d2] => { results := [.lit (.bool false)], args := [d1, d2] }
  | _ => none }
def RaftCrewsWrongFalsely : Prop := raftCrewsRow.holds Tryz.pinned (OpenSpec.ofChange raftCrewsWrong)

/-- 'causewaylaw19.RaftKept': WHATEVER THE INPUT: true; the input reads as it did. -/
def raftKeptSpec : ChangeSpec := { name := "raftKept", fn := fun _ => fun
  | [d1, d2] => { results := [.lit (.bool true)], args := [d1, d2] }
  | _ => none }
def raftKeptRow : OpenClaim := { program := "ytdmjkpjedidipaagreat", sum := "23f30c4c73744c24c77782009cf40d9656c7da700ca17de27cb880ca2ad3c1e2", func := "causeway/causewaylaw19.RaftKept", spec := "raftKept", unfollowed := true, recurses := true, apart := false }
def RaftKeptSaid : Prop := raftKeptRow.holds Tryz.pinned (OpenSpec.ofChange raftKeptSpec)

/-- ITS FALSE NEIGHBOUR: 'it returns false'. Refute it at one input. -/
def raftKeptWrong : ChangeSpec := { name := "raftKept", fn := fun _ => fun
  | [d1, d2] => { results := [.lit (.bool false)], args := [d1, d2] }
  | _ => none }
def RaftKeptWrongFalsely : Prop := raftKeptRow.holds Tryz.pinned (OpenSpec.ofChange raftKeptWrong)

/-- 'causewaylaw19.RaftLives': WHATEVER THE INPUT: true; the input reads as it did. -/
def raftLivesSpec : ChangeSpec := { name := "raftLives", fn := fun _ => fun
  | [d1, d2] => { results := [.lit (.bool true)], args := [d1, d2] }
  | _ => none }
def raftLivesRow : OpenClaim := { program := "ytdmjkpjedidipaagreat", sum := "23f30c4c73744c24c77782009cf40d9656c7da700ca17de27cb880ca2ad3c1e2", func := "causeway/causewaylaw19.RaftLives", spec := "raftLives", unfollowed := true, recurses := true, apart := false }
def RaftLivesSaid : Prop := raftLivesRow.holds Tryz.pinned (OpenSpec.ofChange raftLivesSpec)

/-- ITS FALSE NEIGHBOUR: 'it returns false'. Refute it at one input. -/
def raftLivesWrong : ChangeSpec := { name := "raftLives", fn := fun _ => fun
  | [d1, d2] => { results := [.lit (.bool false)], args := [d1, d2] }
  | _ => none }
def RaftLivesWrongFalsely : Prop := raftLivesRow.holds Tryz.pinned (OpenSpec.ofChange raftLivesWrong)

/-- 'causewaylaw19.RaftNames': WHATEVER THE INPUT: true; the input reads as it did. -/
def raftNamesSpec : ChangeSpec := { name := "raftNames", fn := fun _ => fun
  | [] => { results := [.lit (.bool true)], args := [] }
  | _ => none }
def raftNamesRow : OpenClaim := { program := "ytdmjkpjedidipaagreat", sum := "23f30c4c73744c24c77782009cf40d9656c7da700ca17de27cb880ca2ad3c1e2", func := "causeway/causewaylaw19.RaftNames", spec := "raftNames", unfollowed := true, recurses := true, apart := false }
def RaftNamesSaid : Prop := raftNamesRow.holds Tryz.pinned (OpenSpec.ofChange raftNamesSpec)

/-- ITS FALSE NEIGHBOUR: 'it returns false'. Refute it at one input. -/
def raftNamesWrong : ChangeSpec := { name := "raftNames", fn := fun _ => fun
  | [] => { results := [.lit (.bool false)], args := [] }
  | _ => none }
def RaftNamesWrongFalsely : Prop := raftNamesRow.holds Tryz.pinned (OpenSpec.ofChange raftNamesWrong)

/- THE SECOND FORM. 'bulk': how many values and letters a reading holds, each counted each time it is reached (what is shared counts as often as it is met; a slice's spare places count too). A statement '..UptoSaid' is the law's where the arguments, and the package variables that the reading takes, are together of bulk at most 1048576: NARROWER than '..Said'. Prove '..Said' where nothing that the law and all that it calls make is longer than what came in: it says more and counts as full. Else prove '..UptoSaid'. A law counts once. -/
mutual
def uptoBulk {H : Type} : DataW H → Nat
  | .lit (.string bytes) => bytes.length + 1
  | .lit _ => 1
  | .nil => 1
  | .ptr d => uptoBulk d + 1
  | .slice elems spare => uptoBulkAll elems + uptoBulkAll spare + 1
  | .agg parts => uptoBulkAll parts + 1
  | .iface _ d => uptoBulk d + 1
  | .map entries => uptoBulkEntries entries + 1
  | .held _ => 1
def uptoBulkAll {H : Type} : List (DataW H) → Nat
  | [] => 0
  | d :: r => uptoBulk d + uptoBulkAll r
def uptoBulkEntries {H : Type} : List (Lit × DataW H) → Nat
  | [] => 0
  | x :: r => uptoBulkEntry x + uptoBulkEntries r
def uptoBulkEntry {H : Type} : Lit × DataW H → Nat
  | (.string bytes, d) => bytes.length + uptoBulk d + 1
  | (_, d) => uptoBulk d + 1
 end
def uptoSmall : (H : Type) → List (DataW H) → Bool := fun _ ds => decide (uptoBulkAll ds ≤ 1048576)
def OpenSpec.upto (s : _root_.Go.ChangeSpec) : _root_.Go.OpenSpec := { _root_.Go.OpenSpec.ofChange s with cond := some uptoSmall }

/-- 'causewaylaw19.RaftCluster', WHERE WHAT IT READS IS OF BULK AT MOST 1048576: true; the input reads as it did. -/
def raftClusterUptoRow : OpenClaim := { program := "ytdmjkpjedidipaagreat", sum := "23f30c4c73744c24c77782009cf40d9656c7da700ca17de27cb880ca2ad3c1e2", func := "causeway/causewaylaw19.RaftCluster", spec := "raftCluster", unfollowed := true, recurses := true, apart := false, narrowed := true }
def RaftClusterUptoSaid : Prop := raftClusterUptoRow.holds Tryz.pinned (OpenSpec.upto raftClusterSpec)

/-- 'causewaylaw19.RaftSafe', WHERE WHAT IT READS IS OF BULK AT MOST 1048576: true; the input reads as it did. -/
def raftSafeUptoRow : OpenClaim := { program := "ytdmjkpjedidipaagreat", sum := "23f30c4c73744c24c77782009cf40d9656c7da700ca17de27cb880ca2ad3c1e2", func := "causeway/causewaylaw19.RaftSafe", spec := "raftSafe", unfollowed := true, recurses := true, apart := false, narrowed := true }
def RaftSafeUptoSaid : Prop := raftSafeUptoRow.holds Tryz.pinned (OpenSpec.upto raftSafeSpec)

/-- 'causewaylaw19.RaftCrews', WHERE WHAT IT READS IS OF BULK AT MOST 1048576: true; the input reads as it did. -/
def raftCrewsUptoRow : OpenClaim := { program := "ytdmjkpjedidipaagreat", sum := "23f30c4c73744c24c77782009cf40d9656c7da700ca17de27cb880ca2ad3c1e2", func := "causeway/causewaylaw19.RaftCrews", spec := "raftCrews", unfollowed := true, recurses := true, apart := false, narrowed := true }
def RaftCrewsUptoSaid : Prop := raftCrewsUptoRow.holds Tryz.pinned (OpenSpec.upto raftCrewsSpec)

/-- 'causewaylaw19.RaftKept', WHERE WHAT IT READS IS OF BULK AT MOST 1048576: true; the input reads as it did. -/
def raftKeptUptoRow : OpenClaim := { program := "ytdmjkpjedidipaagreat", sum := "23f30c4c73744c24c77782009cf40d9656c7da700ca17de27cb880ca2ad3c1e2", func := "causeway/causewaylaw19.RaftKept", spec := "raftKept", unfollowed := true, recurses := true, apart := false, narrowed := true }
def RaftKeptUptoSaid : Prop := raftKeptUptoRow.holds Tryz.pinned (OpenSpec.upto raftKeptSpec)

/-- 'causewaylaw19.RaftLives', WHERE WHAT IT READS IS OF BULK AT MOST 1048576: true; the input reads as it did. -/
def raftLivesUptoRow : OpenClaim := { program := "ytdmjkpjedidipaagreat", sum := "23f30c4c73744c24c77782009cf40d9656c7da700ca17de27cb880ca2ad3c1e2", func := "causeway/causewaylaw19.RaftLives", spec := "raftLives", unfollowed := true, recurses := true, apart := false, narrowed := true }
def RaftLivesUptoSaid : Prop := raftLivesUptoRow.holds Tryz.pinned (OpenSpec.upto raftLivesSpec)

/-- 'causewaylaw19.RaftNames', WHERE WHAT IT READS IS OF BULK AT MOST 1048576: true; the input reads as it did. -/
def raftNamesUptoRow : OpenClaim := { program := "ytdmjkpjedidipaagreat", sum := "23f30c4c73744c24c77782009cf40d9656c7da700ca17de27cb880ca2ad3c1e2", func := "causeway/causewaylaw19.RaftNames", spec := "raftNames", unfollowed := true, recurses := true, apart := false, narrowed := true }
def RaftNamesUptoSaid : Prop := raftNamesUptoRow.holds Tryz.pinned (OpenSpec.upto raftNamesSpec)

end Rows
end Go.Proofs.YtdmjkpjedidipaaGreat
