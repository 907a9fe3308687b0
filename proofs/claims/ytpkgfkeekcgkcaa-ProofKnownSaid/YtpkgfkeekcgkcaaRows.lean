/-
  No cell of these rows narrows 'for every input' (looked for: loops, veiled, ifaces, maps, wideKeys, modest, calm, conditions, laid).
  DERIVED. THE GIVEN ROWS OF THIS SEAT. 14 by the template 'for every input the law returns true; each argument reads behind the call as it read before'; 0 by the template 'total and deterministic' (their statements: YtpkgfkeekcgkcaaTotals.lean).
  GIVEN WITH THE SEED: the statements are not yours to turn. If you find one false, say at which input.
  Laid BY PROGRAM, IN A SANDBOX (cutbox-rows.mjs): the forced cells as the released guide's own fill.sh prints them over the translation f2653984a373fd2d… (all of the seat's roots in one cut). By AI agents, Wed Nov 11 2026. No macro, syntax, notation, axiom, sorry.
-/
import Derived.Test.YtpkgfkeekcgkcaaChecked
import GoSem.Claim
import GoSem.ClaimJoined
import GoSem.ClaimMapViews
import Derived.JoinedTies
import Derived.KernelRfl
namespace Go.Proofs.Ytpkgfkeekcgkcaa
/- THE CELL 'sum', in the pinned program and in every row, IS THE sha256 OF THE DUMP (.gsa) THAT YtpkgfkeekcgkcaaProg.lean LOADS. Nothing in Lean hashes anything: it is a label: what it is worth is what the hold of that sum in a sandbox is worth. -/
noncomputable def Try.pinned : Pinned := { name := "ytpkgfkeekcgkcaa", sum := "f2653984a373fd2d69b6282aad7d187121ad512850148236e7de66eae005f490", checked := Try.checked }
namespace Rows
def none {H : Type} : Left H := { results := [], args := [] }

/-- 'burinlaw06.ProofSheets': WHATEVER THE INPUT: true; the input reads as it did. -/
def proofSheetsSpec : ChangeSpec := { name := "proofSheets", fn := fun _ => fun
  | [d1, d2] => { results := [.lit (.bool true)], args := [d1, d2] }
  | _ => none }
def proofSheetsRow : OpenClaim := { program := "ytpkgfkeekcgkcaa", sum := "f2653984a373fd2d69b6282aad7d187121ad512850148236e7de66eae005f490", func := "burin/burinlaw06.ProofSheets", spec := "proofSheets", inPlace := ["internal/abi.NoEscape", "internal/bytealg.MakeNoZero"], unfollowed := true, recurses := true, plainKeys := false, apart := false }
def ProofSheetsSaid : Prop := proofSheetsRow.holds Try.pinned (OpenSpec.ofChange proofSheetsSpec)

/-- ITS FALSE NEIGHBOUR: 'it returns false'. Refute it at one input. -/
def proofSheetsWrong : ChangeSpec := { name := "proofSheets", fn := fun _ => fun
  | [d1, d2] => { results := [.lit (.bool false)], args := [d1, d2] }
  | _ => none }
def ProofSheetsWrongFalsely : Prop := proofSheetsRow.holds Try.pinned (OpenSpec.ofChange proofSheetsWrong)

/-- 'burinlaw06.ProofMerges': WHATEVER THE INPUT: true; the input reads as it did. -/
def proofMergesSpec : ChangeSpec := { name := "proofMerges", fn := fun _ => fun
  | [d1, d2, d3] => { results := [.lit (.bool true)], args := [d1, d2, d3] }
  | _ => none }
def proofMergesRow : OpenClaim := { program := "ytpkgfkeekcgkcaa", sum := "f2653984a373fd2d69b6282aad7d187121ad512850148236e7de66eae005f490", func := "burin/burinlaw06.ProofMerges", spec := "proofMerges", inPlace := ["internal/abi.NoEscape", "internal/bytealg.MakeNoZero"], unfollowed := true, recurses := true, plainKeys := false, apart := false }
def ProofMergesSaid : Prop := proofMergesRow.holds Try.pinned (OpenSpec.ofChange proofMergesSpec)

/-- ITS FALSE NEIGHBOUR: 'it returns false'. Refute it at one input. -/
def proofMergesWrong : ChangeSpec := { name := "proofMerges", fn := fun _ => fun
  | [d1, d2, d3] => { results := [.lit (.bool false)], args := [d1, d2, d3] }
  | _ => none }
def ProofMergesWrongFalsely : Prop := proofMergesRow.holds Try.pinned (OpenSpec.ofChange proofMergesWrong)

/-- 'burinlaw06.ProofFewests': WHATEVER THE INPUT: true; the input reads as it did. -/
def proofFewestsSpec : ChangeSpec := { name := "proofFewests", fn := fun _ => fun
  | [d1, d2] => { results := [.lit (.bool true)], args := [d1, d2] }
  | _ => none }
def proofFewestsRow : OpenClaim := { program := "ytpkgfkeekcgkcaa", sum := "f2653984a373fd2d69b6282aad7d187121ad512850148236e7de66eae005f490", func := "burin/burinlaw06.ProofFewests", spec := "proofFewests", inPlace := ["internal/abi.NoEscape", "internal/bytealg.MakeNoZero"], unfollowed := true, recurses := true, plainKeys := false, apart := false }
def ProofFewestsSaid : Prop := proofFewestsRow.holds Try.pinned (OpenSpec.ofChange proofFewestsSpec)

/-- ITS FALSE NEIGHBOUR: 'it returns false'. Refute it at one input. -/
def proofFewestsWrong : ChangeSpec := { name := "proofFewests", fn := fun _ => fun
  | [d1, d2] => { results := [.lit (.bool false)], args := [d1, d2] }
  | _ => none }
def ProofFewestsWrongFalsely : Prop := proofFewestsRow.holds Try.pinned (OpenSpec.ofChange proofFewestsWrong)

/-- 'burinlaw06.ProofCommons': WHATEVER THE INPUT: true; the input reads as it did. -/
def proofCommonsSpec : ChangeSpec := { name := "proofCommons", fn := fun _ => fun
  | [d1, d2, d3, d4] => { results := [.lit (.bool true)], args := [d1, d2, d3, d4] }
  | _ => none }
def proofCommonsRow : OpenClaim := { program := "ytpkgfkeekcgkcaa", sum := "f2653984a373fd2d69b6282aad7d187121ad512850148236e7de66eae005f490", func := "burin/burinlaw06.ProofCommons", spec := "proofCommons", inPlace := ["internal/abi.NoEscape", "internal/bytealg.MakeNoZero"], unfollowed := true, recurses := true, plainKeys := false, apart := false }
def ProofCommonsSaid : Prop := proofCommonsRow.holds Try.pinned (OpenSpec.ofChange proofCommonsSpec)

/-- ITS FALSE NEIGHBOUR: 'it returns false'. Refute it at one input. -/
def proofCommonsWrong : ChangeSpec := { name := "proofCommons", fn := fun _ => fun
  | [d1, d2, d3, d4] => { results := [.lit (.bool false)], args := [d1, d2, d3, d4] }
  | _ => none }
def ProofCommonsWrongFalsely : Prop := proofCommonsRow.holds Try.pinned (OpenSpec.ofChange proofCommonsWrong)

/-- 'burinlaw06.ProofUnseens': WHATEVER THE INPUT: true; the input reads as it did. -/
def proofUnseensSpec : ChangeSpec := { name := "proofUnseens", fn := fun _ => fun
  | [d1, d2, d3, d4] => { results := [.lit (.bool true)], args := [d1, d2, d3, d4] }
  | _ => none }
def proofUnseensRow : OpenClaim := { program := "ytpkgfkeekcgkcaa", sum := "f2653984a373fd2d69b6282aad7d187121ad512850148236e7de66eae005f490", func := "burin/burinlaw06.ProofUnseens", spec := "proofUnseens", inPlace := ["internal/abi.NoEscape", "internal/bytealg.MakeNoZero"], unfollowed := true, recurses := true, plainKeys := false, apart := false }
def ProofUnseensSaid : Prop := proofUnseensRow.holds Try.pinned (OpenSpec.ofChange proofUnseensSpec)

/-- ITS FALSE NEIGHBOUR: 'it returns false'. Refute it at one input. -/
def proofUnseensWrong : ChangeSpec := { name := "proofUnseens", fn := fun _ => fun
  | [d1, d2, d3, d4] => { results := [.lit (.bool false)], args := [d1, d2, d3, d4] }
  | _ => none }
def ProofUnseensWrongFalsely : Prop := proofUnseensRow.holds Try.pinned (OpenSpec.ofChange proofUnseensWrong)

/-- 'burinlaw06.ProofProved': WHATEVER THE INPUT: true; the input reads as it did. -/
def proofProvedSpec : ChangeSpec := { name := "proofProved", fn := fun _ => fun
  | [d1, d2, d3, d4] => { results := [.lit (.bool true)], args := [d1, d2, d3, d4] }
  | _ => none }
def proofProvedRow : OpenClaim := { program := "ytpkgfkeekcgkcaa", sum := "f2653984a373fd2d69b6282aad7d187121ad512850148236e7de66eae005f490", func := "burin/burinlaw06.ProofProved", spec := "proofProved", inPlace := ["internal/abi.NoEscape", "internal/bytealg.MakeNoZero"], unfollowed := true, recurses := true, plainKeys := false, apart := false }
def ProofProvedSaid : Prop := proofProvedRow.holds Try.pinned (OpenSpec.ofChange proofProvedSpec)

/-- ITS FALSE NEIGHBOUR: 'it returns false'. Refute it at one input. -/
def proofProvedWrong : ChangeSpec := { name := "proofProved", fn := fun _ => fun
  | [d1, d2, d3, d4] => { results := [.lit (.bool false)], args := [d1, d2, d3, d4] }
  | _ => none }
def ProofProvedWrongFalsely : Prop := proofProvedRow.holds Try.pinned (OpenSpec.ofChange proofProvedWrong)

/-- 'burinlaw06.ProofNear': WHATEVER THE INPUT: true; the input reads as it did. -/
def proofNearSpec : ChangeSpec := { name := "proofNear", fn := fun _ => fun
  | [d1, d2, d3] => { results := [.lit (.bool true)], args := [d1, d2, d3] }
  | _ => none }
def proofNearRow : OpenClaim := { program := "ytpkgfkeekcgkcaa", sum := "f2653984a373fd2d69b6282aad7d187121ad512850148236e7de66eae005f490", func := "burin/burinlaw06.ProofNear", spec := "proofNear", inPlace := ["internal/abi.NoEscape", "internal/bytealg.MakeNoZero"], unfollowed := true, recurses := true, plainKeys := false, apart := false }
def ProofNearSaid : Prop := proofNearRow.holds Try.pinned (OpenSpec.ofChange proofNearSpec)

/-- ITS FALSE NEIGHBOUR: 'it returns false'. Refute it at one input. -/
def proofNearWrong : ChangeSpec := { name := "proofNear", fn := fun _ => fun
  | [d1, d2, d3] => { results := [.lit (.bool false)], args := [d1, d2, d3] }
  | _ => none }
def ProofNearWrongFalsely : Prop := proofNearRow.holds Try.pinned (OpenSpec.ofChange proofNearWrong)

/-- 'burinlaw06.ProofMarked': WHATEVER THE INPUT: true; the input reads as it did. -/
def proofMarkedSpec : ChangeSpec := { name := "proofMarked", fn := fun _ => fun
  | [d1, d2, d3] => { results := [.lit (.bool true)], args := [d1, d2, d3] }
  | _ => none }
def proofMarkedRow : OpenClaim := { program := "ytpkgfkeekcgkcaa", sum := "f2653984a373fd2d69b6282aad7d187121ad512850148236e7de66eae005f490", func := "burin/burinlaw06.ProofMarked", spec := "proofMarked", inPlace := ["internal/abi.NoEscape", "internal/bytealg.MakeNoZero"], unfollowed := true, recurses := true, plainKeys := false, apart := false }
def ProofMarkedSaid : Prop := proofMarkedRow.holds Try.pinned (OpenSpec.ofChange proofMarkedSpec)

/-- ITS FALSE NEIGHBOUR: 'it returns false'. Refute it at one input. -/
def proofMarkedWrong : ChangeSpec := { name := "proofMarked", fn := fun _ => fun
  | [d1, d2, d3] => { results := [.lit (.bool false)], args := [d1, d2, d3] }
  | _ => none }
def ProofMarkedWrongFalsely : Prop := proofMarkedRow.holds Try.pinned (OpenSpec.ofChange proofMarkedWrong)

/-- 'burinlaw06.ProofBack': WHATEVER THE INPUT: true; the input reads as it did. -/
def proofBackSpec : ChangeSpec := { name := "proofBack", fn := fun _ => fun
  | [d1, d2] => { results := [.lit (.bool true)], args := [d1, d2] }
  | _ => none }
def proofBackRow : OpenClaim := { program := "ytpkgfkeekcgkcaa", sum := "f2653984a373fd2d69b6282aad7d187121ad512850148236e7de66eae005f490", func := "burin/burinlaw06.ProofBack", spec := "proofBack", inPlace := ["internal/abi.NoEscape", "internal/bytealg.MakeNoZero"], unfollowed := true, recurses := true, plainKeys := false, apart := false }
def ProofBackSaid : Prop := proofBackRow.holds Try.pinned (OpenSpec.ofChange proofBackSpec)

/-- ITS FALSE NEIGHBOUR: 'it returns false'. Refute it at one input. -/
def proofBackWrong : ChangeSpec := { name := "proofBack", fn := fun _ => fun
  | [d1, d2] => { results := [.lit (.bool false)], args := [d1, d2] }
  | _ => none }
def ProofBackWrongFalsely : Prop := proofBackRow.holds Try.pinned (OpenSpec.ofChange proofBackWrong)

/-- 'burinlaw06.ProofMerged': WHATEVER THE INPUT: true; the input reads as it did. -/
def proofMergedSpec : ChangeSpec := { name := "proofMerged", fn := fun _ => fun
  | [d1, d2, d3, d4] => { results := [.lit (.bool true)], args := [d1, d2, d3, d4] }
  | _ => none }
def proofMergedRow : OpenClaim := { program := "ytpkgfkeekcgkcaa", sum := "f2653984a373fd2d69b6282aad7d187121ad512850148236e7de66eae005f490", func := "burin/burinlaw06.ProofMerged", spec := "proofMerged", inPlace := ["internal/abi.NoEscape", "internal/bytealg.MakeNoZero"], unfollowed := true, recurses := true, plainKeys := false, apart := false }
def ProofMergedSaid : Prop := proofMergedRow.holds Try.pinned (OpenSpec.ofChange proofMergedSpec)

/-- ITS FALSE NEIGHBOUR: 'it returns false'. Refute it at one input. -/
def proofMergedWrong : ChangeSpec := { name := "proofMerged", fn := fun _ => fun
  | [d1, d2, d3, d4] => { results := [.lit (.bool false)], args := [d1, d2, d3, d4] }
  | _ => none }
def ProofMergedWrongFalsely : Prop := proofMergedRow.holds Try.pinned (OpenSpec.ofChange proofMergedWrong)

/-- 'burinlaw06.ProofTurned': WHATEVER THE INPUT: true; the input reads as it did. -/
def proofTurnedSpec : ChangeSpec := { name := "proofTurned", fn := fun _ => fun
  | [d1, d2, d3] => { results := [.lit (.bool true)], args := [d1, d2, d3] }
  | _ => none }
def proofTurnedRow : OpenClaim := { program := "ytpkgfkeekcgkcaa", sum := "f2653984a373fd2d69b6282aad7d187121ad512850148236e7de66eae005f490", func := "burin/burinlaw06.ProofTurned", spec := "proofTurned", inPlace := ["internal/abi.NoEscape", "internal/bytealg.MakeNoZero"], unfollowed := true, recurses := true, plainKeys := false, apart := false }
def ProofTurnedSaid : Prop := proofTurnedRow.holds Try.pinned (OpenSpec.ofChange proofTurnedSpec)

/-- ITS FALSE NEIGHBOUR: 'it returns false'. Refute it at one input. -/
def proofTurnedWrong : ChangeSpec := { name := "proofTurned", fn := fun _ => fun
  | [d1, d2, d3] => { results := [.lit (.bool false)], args := [d1, d2, d3] }
  | _ => none }
def ProofTurnedWrongFalsely : Prop := proofTurnedRow.holds Try.pinned (OpenSpec.ofChange proofTurnedWrong)

/-- 'burinlaw06.ProofJoined': WHATEVER THE INPUT: true; the input reads as it did. -/
def proofJoinedSpec : ChangeSpec := { name := "proofJoined", fn := fun _ => fun
  | [d1, d2, d3, d4] => { results := [.lit (.bool true)], args := [d1, d2, d3, d4] }
  | _ => none }
def proofJoinedRow : OpenClaim := { program := "ytpkgfkeekcgkcaa", sum := "f2653984a373fd2d69b6282aad7d187121ad512850148236e7de66eae005f490", func := "burin/burinlaw06.ProofJoined", spec := "proofJoined", inPlace := ["internal/abi.NoEscape", "internal/bytealg.MakeNoZero"], unfollowed := true, recurses := true, plainKeys := false, apart := false }
def ProofJoinedSaid : Prop := proofJoinedRow.holds Try.pinned (OpenSpec.ofChange proofJoinedSpec)

/-- ITS FALSE NEIGHBOUR: 'it returns false'. Refute it at one input. -/
def proofJoinedWrong : ChangeSpec := { name := "proofJoined", fn := fun _ => fun
  | [d1, d2, d3, d4] => { results := [.lit (.bool false)], args := [d1, d2, d3, d4] }
  | _ => none }
def ProofJoinedWrongFalsely : Prop := proofJoinedRow.holds Try.pinned (OpenSpec.ofChange proofJoinedWrong)

/-- 'burinlaw06.ProofSeen': WHATEVER THE INPUT: true; the input reads as it did. -/
def proofSeenSpec : ChangeSpec := { name := "proofSeen", fn := fun _ => fun
  | [d1, d2, d3, d4, d5, d6] => { results := [.lit (.bool true)], args := [d1, d2, d3, d4, d5, d6] }
  | _ => none }
def proofSeenRow : OpenClaim := { program := "ytpkgfkeekcgkcaa", sum := "f2653984a373fd2d69b6282aad7d187121ad512850148236e7de66eae005f490", func := "burin/burinlaw06.ProofSeen", spec := "proofSeen", inPlace := ["internal/abi.NoEscape", "internal/bytealg.MakeNoZero"], unfollowed := true, recurses := true, plainKeys := false, apart := false }
def ProofSeenSaid : Prop := proofSeenRow.holds Try.pinned (OpenSpec.ofChange proofSeenSpec)

/-- ITS FALSE NEIGHBOUR: 'it returns false'. Refute it at one input. -/
def proofSeenWrong : ChangeSpec := { name := "proofSeen", fn := fun _ => fun
  | [d1, d2, d3, d4, d5, d6] => { results := [.lit (.bool false)], args := [d1, d2, d3, d4, d5, d6] }
  | _ => none }
def ProofSeenWrongFalsely : Prop := proofSeenRow.holds Try.pinned (OpenSpec.ofChange proofSeenWrong)

/-- 'burinlaw06.ProofKnown': WHATEVER THE INPUT: true; the input reads as it did. -/
def proofKnownSpec : ChangeSpec := { name := "proofKnown", fn := fun _ => fun
  | [] => { results := [.lit (.bool true)], args := [] }
  | _ => none }
def proofKnownRow : OpenClaim := { program := "ytpkgfkeekcgkcaa", sum := "f2653984a373fd2d69b6282aad7d187121ad512850148236e7de66eae005f490", func := "burin/burinlaw06.ProofKnown", spec := "proofKnown", inPlace := ["internal/abi.NoEscape", "internal/bytealg.MakeNoZero"], unfollowed := true, recurses := true, plainKeys := false, apart := false }
def ProofKnownSaid : Prop := proofKnownRow.holds Try.pinned (OpenSpec.ofChange proofKnownSpec)

/-- ITS FALSE NEIGHBOUR: 'it returns false'. Refute it at one input. -/
def proofKnownWrong : ChangeSpec := { name := "proofKnown", fn := fun _ => fun
  | [] => { results := [.lit (.bool false)], args := [] }
  | _ => none }
def ProofKnownWrongFalsely : Prop := proofKnownRow.holds Try.pinned (OpenSpec.ofChange proofKnownWrong)

/- THE SECOND FORM. 'bulk': how many values and letters a reading holds, each counted each time it is reached (what is shared counts as often as it is met; a slice's spare places count too). A statement '..UptoSaid' is the law's where the arguments, and the package variables that the reading takes, are together of bulk at most 1048576: NARROWER than '..Said'. Prove '..Said' where nothing that the law and all that it calls make is longer than what came in: it says more and counts as full. Else prove '..UptoSaid'. A law counts once. -/
mutual
def uptoBulk {H : Type} : DataW H → Nat
  | .lit (.string bytes) => bytes.length + 1
  | .lit _ => 1
  | .nil => 1
  | .ptr d => uptoBulk d + 1
  | .slice elems spare => uptoBulkAll elems + uptoBulkAll spare + 1
  | .agg parts => uptoBulkAll parts + 1
  | .iface _ d => uptoBulk d + 1
  | .map entries => uptoBulkEntries entries + 1
  | .held _ => 1
def uptoBulkAll {H : Type} : List (DataW H) → Nat
  | [] => 0
  | d :: r => uptoBulk d + uptoBulkAll r
def uptoBulkEntries {H : Type} : List (Lit × DataW H) → Nat
  | [] => 0
  | x :: r => uptoBulkEntry x + uptoBulkEntries r
def uptoBulkEntry {H : Type} : Lit × DataW H → Nat
  | (.string bytes, d) => bytes.length + uptoBulk d + 1
  | (_, d) => uptoBulk d + 1
 end
def uptoSmall : (H : Type) → List (DataW H) → Bool := fun _ ds => decide (uptoBulkAll ds ≤ 1048576)
def OpenSpec.upto (s : _root_.Go.ChangeSpec) : _root_.Go.OpenSpec := { _root_.Go.OpenSpec.ofChange s with cond := some uptoSmall }

/-- 'burinlaw06.ProofSheets', WHERE WHAT IT READS IS OF BULK AT MOST 1048576: true; the input reads as it did. -/
def proofSheetsUptoRow : OpenClaim := { program := "ytpkgfkeekcgkcaa", sum := "f2653984a373fd2d69b6282aad7d187121ad512850148236e7de66eae005f490", func := "burin/burinlaw06.ProofSheets", spec := "proofSheets", inPlace := ["internal/abi.NoEscape", "internal/bytealg.MakeNoZero"], unfollowed := true, recurses := true, plainKeys := false, apart := false, narrowed := true }
def ProofSheetsUptoSaid : Prop := proofSheetsUptoRow.holds Try.pinned (OpenSpec.upto proofSheetsSpec)

/-- 'burinlaw06.ProofMerges', WHERE WHAT IT READS IS OF BULK AT MOST 1048576: true; the input reads as it did. -/
def proofMergesUptoRow : OpenClaim := { program := "ytpkgfkeekcgkcaa", sum := "f2653984a373fd2d69b6282aad7d187121ad512850148236e7de66eae005f490", func := "burin/burinlaw06.ProofMerges", spec := "proofMerges", inPlace := ["internal/abi.NoEscape", "internal/bytealg.MakeNoZero"], unfollowed := true, recurses := true, plainKeys := false, apart := false, narrowed := true }
def ProofMergesUptoSaid : Prop := proofMergesUptoRow.holds Try.pinned (OpenSpec.upto proofMergesSpec)

/-- 'burinlaw06.ProofFewests', WHERE WHAT IT READS IS OF BULK AT MOST 1048576: true; the input reads as it did. -/
def proofFewestsUptoRow : OpenClaim := { program := "ytpkgfkeekcgkcaa", sum := "f2653984a373fd2d69b6282aad7d187121ad512850148236e7de66eae005f490", func := "burin/burinlaw06.ProofFewests", spec := "proofFewests", inPlace := ["internal/abi.NoEscape", "internal/bytealg.MakeNoZero"], unfollowed := true, recurses := true, plainKeys := false, apart := false, narrowed := true }
def ProofFewestsUptoSaid : Prop := proofFewestsUptoRow.holds Try.pinned (OpenSpec.upto proofFewestsSpec)

/-- 'burinlaw06.ProofCommons', WHERE WHAT IT READS IS OF BULK AT MOST 1048576: true; the input reads as it did. -/
def proofCommonsUptoRow : OpenClaim := { program := "ytpkgfkeekcgkcaa", sum := "f2653984a373fd2d69b6282aad7d187121ad512850148236e7de66eae005f490", func := "burin/burinlaw06.ProofCommons", spec := "proofCommons", inPlace := ["internal/abi.NoEscape", "internal/bytealg.MakeNoZero"], unfollowed := true, recurses := true, plainKeys := false, apart := false, narrowed := true }
def ProofCommonsUptoSaid : Prop := proofCommonsUptoRow.holds Try.pinned (OpenSpec.upto proofCommonsSpec)

/-- 'burinlaw06.ProofUnseens', WHERE WHAT IT READS IS OF BULK AT MOST 1048576: true; the input reads as it did. -/
def proofUnseensUptoRow : OpenClaim := { program := "ytpkgfkeekcgkcaa", sum := "f2653984a373fd2d69b6282aad7d187121ad512850148236e7de66eae005f490", func := "burin/burinlaw06.ProofUnseens", spec := "proofUnseens", inPlace := ["internal/abi.NoEscape", "internal/bytealg.MakeNoZero"], unfollowed := true, recurses := true, plainKeys := false, apart := false, narrowed := true }
def ProofUnseensUptoSaid : Prop := proofUnseensUptoRow.holds Try.pinned (OpenSpec.upto proofUnseensSpec)

/-- 'burinlaw06.ProofProved', WHERE WHAT IT READS IS OF BULK AT MOST 1048576: true; the input reads as it did. -/
def proofProvedUptoRow : OpenClaim := { program := "ytpkgfkeekcgkcaa", sum := "f2653984a373fd2d69b6282aad7d187121ad512850148236e7de66eae005f490", func := "burin/burinlaw06.ProofProved", spec := "proofProved", inPlace := ["internal/abi.NoEscape", "internal/bytealg.MakeNoZero"], unfollowed := true, recurses := true, plainKeys := false, apart := false, narrowed := true }
def ProofProvedUptoSaid : Prop := proofProvedUptoRow.holds Try.pinned (OpenSpec.upto proofProvedSpec)

/-- 'burinlaw06.ProofNear', WHERE WHAT IT READS IS OF BULK AT MOST 1048576: true; the input reads as it did. -/
def proofNearUptoRow : OpenClaim := { program := "ytpkgfkeekcgkcaa", sum := "f2653984a373fd2d69b6282aad7d187121ad512850148236e7de66eae005f490", func := "burin/burinlaw06.ProofNear", spec := "proofNear", inPlace := ["internal/abi.NoEscape", "internal/bytealg.MakeNoZero"], unfollowed := true, recurses := true, plainKeys := false, apart := false, narrowed := true }
def ProofNearUptoSaid : Prop := proofNearUptoRow.holds Try.pinned (OpenSpec.upto proofNearSpec)

/-- 'burinlaw06.ProofMarked', WHERE WHAT IT READS IS OF BULK AT MOST 1048576: true; the input reads as it did. -/
def proofMarkedUptoRow : OpenClaim := { program := "ytpkgfkeekcgkcaa", sum := "f2653984a373fd2d69b6282aad7d187121ad512850148236e7de66eae005f490", func := "burin/burinlaw06.ProofMarked", spec := "proofMarked", inPlace := ["internal/abi.NoEscape", "internal/bytealg.MakeNoZero"], unfollowed := true, recurses := true, plainKeys := false, apart := false, narrowed := true }
def ProofMarkedUptoSaid : Prop := proofMarkedUptoRow.holds Try.pinned (OpenSpec.upto proofMarkedSpec)

/-- 'burinlaw06.ProofBack', WHERE WHAT IT READS IS OF BULK AT MOST 1048576: true; the input reads as it did. -/
def proofBackUptoRow : OpenClaim := { program := "ytpkgfkeekcgkcaa", sum := "f2653984a373fd2d69b6282aad7d187121ad512850148236e7de66eae005f490", func := "burin/burinlaw06.ProofBack", spec := "proofBack", inPlace := ["internal/abi.NoEscape", "internal/bytealg.MakeNoZero"], unfollowed := true, recurses := true, plainKeys := false, apart := false, narrowed := true }
def ProofBackUptoSaid : Prop := proofBackUptoRow.holds Try.pinned (OpenSpec.upto proofBackSpec)

/-- 'burinlaw06.ProofMerged', WHERE WHAT IT READS IS OF BULK AT MOST 1048576: true; the input reads as it did. -/
def proofMergedUptoRow : OpenClaim := { program := "ytpkgfkeekcgkcaa", sum := "f2653984a373fd2d69b6282aad7d187121ad512850148236e7de66eae005f490", func := "burin/burinlaw06.ProofMerged", spec := "proofMerged", inPlace := ["internal/abi.NoEscape", "internal/bytealg.MakeNoZero"], unfollowed := true, recurses := true, plainKeys := false, apart := false, narrowed := true }
def ProofMergedUptoSaid : Prop := proofMergedUptoRow.holds Try.pinned (OpenSpec.upto proofMergedSpec)

/-- 'burinlaw06.ProofTurned', WHERE WHAT IT READS IS OF BULK AT MOST 1048576: true; the input reads as it did. -/
def proofTurnedUptoRow : OpenClaim := { program := "ytpkgfkeekcgkcaa", sum := "f2653984a373fd2d69b6282aad7d187121ad512850148236e7de66eae005f490", func := "burin/burinlaw06.ProofTurned", spec := "proofTurned", inPlace := ["internal/abi.NoEscape", "internal/bytealg.MakeNoZero"], unfollowed := true, recurses := true, plainKeys := false, apart := false, narrowed := true }
def ProofTurnedUptoSaid : Prop := proofTurnedUptoRow.holds Try.pinned (OpenSpec.upto proofTurnedSpec)

/-- 'burinlaw06.ProofJoined', WHERE WHAT IT READS IS OF BULK AT MOST 1048576: true; the input reads as it did. -/
def proofJoinedUptoRow : OpenClaim := { program := "ytpkgfkeekcgkcaa", sum := "f2653984a373fd2d69b6282aad7d187121ad512850148236e7de66eae005f490", func := "burin/burinlaw06.ProofJoined", spec := "proofJoined", inPlace := ["internal/abi.NoEscape", "internal/bytealg.MakeNoZero"], unfollowed := true, recurses := true, plainKeys := false, apart := false, narrowed := true }
def ProofJoinedUptoSaid : Prop := proofJoinedUptoRow.holds Try.pinned (OpenSpec.upto proofJoinedSpec)

/-- 'burinlaw06.ProofSeen', WHERE WHAT IT READS IS OF BULK AT MOST 1048576: true; the input reads as it did. -/
def proofSeenUptoRow : OpenClaim := { program := "ytpkgfkeekcgkcaa", sum := "f2653984a373fd2d69b6282aad7d187121ad512850148236e7de66eae005f490", func := "burin/burinlaw06.ProofSeen", spec := "proofSeen", inPlace := ["internal/abi.NoEscape", "internal/bytealg.MakeNoZero"], unfollowed := true, recurses := true, plainKeys := false, apart := false, narrowed := true }
def ProofSeenUptoSaid : Prop := proofSeenUptoRow.holds Try.pinned (OpenSpec.upto proofSeenSpec)

/-- 'burinlaw06.ProofKnown', WHERE WHAT IT READS IS OF BULK AT MOST 1048576: true; the input reads as it did. -/
def proofKnownUptoRow : OpenClaim := { program := "ytpkgfkeekcgkcaa", sum := "f2653984a373fd2d69b6282aad7d187121ad512850148236e7de66eae005f490", func := "burin/burinlaw06.ProofKnown", spec := "proofKnown", inPlace := ["internal/abi.NoEscape", "internal/bytealg.MakeNoZero"], unfollowed := true, recurses := true, plainKeys := false, apart := false, narrowed := true }
def ProofKnownUptoSaid : Prop := proofKnownUptoRow.holds Try.pinned (OpenSpec.upto proofKnownSpec)

end Rows
end Go.Proofs.Ytpkgfkeekcgkcaa
