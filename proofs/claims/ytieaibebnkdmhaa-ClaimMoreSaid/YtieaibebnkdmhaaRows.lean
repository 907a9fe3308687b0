/-
  No cell of these rows narrows 'for every input' (looked for: loops, veiled, ifaces, maps, wideKeys, modest, calm, conditions, laid).
  DERIVED. THE GIVEN ROWS OF THIS SEAT. 14 by the template 'for every input the law returns true; each argument reads behind the call as it read before'; 0 by the template 'total and deterministic' (their statements: YtieaibebnkdmhaaTotals.lean).
  GIVEN WITH THE SEED: the statements are not yours to turn. If you find one false, say at which input.
  Laid BY PROGRAM, IN A SANDBOX (cutbox-rows.mjs): the forced cells as the released guide's own fill.sh prints them over the translation 38d9be74e95fbc12… (all of the seat's roots in one cut). By AI agents, Wed Nov 11 2026. No macro, syntax, notation, axiom, sorry.
-/
import Derived.Test.YtieaibebnkdmhaaChecked
import GoSem.Claim
import GoSem.ClaimJoined
import GoSem.ClaimMapViews
import Derived.JoinedTies
import Derived.KernelRfl
namespace Go.Proofs.Ytieaibebnkdmhaa
/- THE CELL 'sum', in the pinned program and in every row, IS THE sha256 OF THE DUMP (.gsa) THAT YtieaibebnkdmhaaProg.lean LOADS. Nothing in Lean hashes anything: it is a label: what it is worth is what the hold of that sum in a sandbox is worth. -/
noncomputable def Try.pinned : Pinned := { name := "ytieaibebnkdmhaa", sum := "38d9be74e95fbc123c2c347d660e1c63154fbd44d314644f9a8439b5091512c7", checked := Try.checked }
namespace Rows
def none {H : Type} : Left H := { results := [], args := [] }

/-- 'burinlaw10.ClaimBooks': WHATEVER THE INPUT: true; the input reads as it did. -/
def claimBooksSpec : ChangeSpec := { name := "claimBooks", fn := fun _ => fun
  | [d1, d2] => { results := [.lit (.bool true)], args := [d1, d2] }
  | _ => none }
def claimBooksRow : OpenClaim := { program := "ytieaibebnkdmhaa", sum := "38d9be74e95fbc123c2c347d660e1c63154fbd44d314644f9a8439b5091512c7", func := "burin/burinlaw10.ClaimBooks", spec := "claimBooks", unfollowed := true, recurses := true, plainKeys := false, apart := false }
def ClaimBooksSaid : Prop := claimBooksRow.holds Try.pinned (OpenSpec.ofChange claimBooksSpec)

/-- ITS FALSE NEIGHBOUR: 'it returns false'. Refute it at one input. -/
def claimBooksWrong : ChangeSpec := { name := "claimBooks", fn := fun _ => fun
  | [d1, d2] => { results := [.lit (.bool false)], args := [d1, d2] }
  | _ => none }
def ClaimBooksWrongFalsely : Prop := claimBooksRow.holds Try.pinned (OpenSpec.ofChange claimBooksWrong)

/-- 'burinlaw10.ClaimBests': WHATEVER THE INPUT: true; the input reads as it did. -/
def claimBestsSpec : ChangeSpec := { name := "claimBests", fn := fun _ => fun
  | [d] => { results := [.lit (.bool true)], args := [d] }
  | _ => none }
def claimBestsRow : OpenClaim := { program := "ytieaibebnkdmhaa", sum := "38d9be74e95fbc123c2c347d660e1c63154fbd44d314644f9a8439b5091512c7", func := "burin/burinlaw10.ClaimBests", spec := "claimBests", unfollowed := true, recurses := true, plainKeys := false, apart := false }
def ClaimBestsSaid : Prop := claimBestsRow.holds Try.pinned (OpenSpec.ofChange claimBestsSpec)

/-- ITS FALSE NEIGHBOUR: 'it returns false'. Refute it at one input. -/
def claimBestsWrong : ChangeSpec := { name := "claimBests", fn := fun _ => fun
  | [d] => { results := [.lit (.bool false)], args := [d] }
  | _ => none }
def ClaimBestsWrongFalsely : Prop := claimBestsRow.holds Try.pinned (OpenSpec.ofChange claimBestsWrong)

/-- 'burinlaw10.ClaimAlls': WHATEVER THE INPUT: true; the input reads as it did. -/
def claimAllsSpec : ChangeSpec := { name := "claimAlls", fn := fun _ => fun
  | [d1, d2, d3] => { results := [.lit (.bool true)], args := [d1, d2, d3] }
  | _ => none }
def claimAllsRow : OpenClaim := { program := "ytieaibebnkdmhaa", sum := "38d9be74e95fbc123c2c347d660e1c63154fbd44d314644f9a8439b5091512c7", func := "burin/burinlaw10.ClaimAlls", spec := "claimAlls", unfollowed := true, recurses := true, plainKeys := false, apart := false }
def ClaimAllsSaid : Prop := claimAllsRow.holds Try.pinned (OpenSpec.ofChange claimAllsSpec)

/-- ITS FALSE NEIGHBOUR: 'it returns false'. Refute it at one input. -/
def claimAllsWrong : ChangeSpec := { name := "claimAlls", fn := fun _ => fun
  | [d1, d2, d3] => { results := [.lit (.bool false)], args := [d1, d2, d3] }
  | _ => none }
def ClaimAllsWrongFalsely : Prop := claimAllsRow.holds Try.pinned (OpenSpec.ofChange claimAllsWrong)

/-- 'burinlaw10.ClaimPuts': WHATEVER THE INPUT: true; the input reads as it did. -/
def claimPutsSpec : ChangeSpec := { name := "claimPuts", fn := fun _ => fun
  | [d1, d2, d3] => { results := [.lit (.bool true)], args := [d1, d2, d3] }
  | _ => none }
def claimPutsRow : OpenClaim := { program := "ytieaibebnkdmhaa", sum := "38d9be74e95fbc123c2c347d660e1c63154fbd44d314644f9a8439b5091512c7", func := "burin/burinlaw10.ClaimPuts", spec := "claimPuts", unfollowed := true, recurses := true, plainKeys := false, apart := false }
def ClaimPutsSaid : Prop := claimPutsRow.holds Try.pinned (OpenSpec.ofChange claimPutsSpec)

/-- ITS FALSE NEIGHBOUR: 'it returns false'. Refute it at one input. -/
def claimPutsWrong : ChangeSpec := { name := "claimPuts", fn := fun _ => fun
  | [d1, d2, d3] => { results := [.lit (.bool false)], args := [d1, d2, d3] }
  | _ => none }
def ClaimPutsWrongFalsely : Prop := claimPutsRow.holds Try.pinned (OpenSpec.ofChange claimPutsWrong)

/-- 'burinlaw10.ClaimSettled': WHATEVER THE INPUT: true; the input reads as it did. -/
def claimSettledSpec : ChangeSpec := { name := "claimSettled", fn := fun _ => fun
  | [d1, d2] => { results := [.lit (.bool true)], args := [d1, d2] }
  | _ => none }
def claimSettledRow : OpenClaim := { program := "ytieaibebnkdmhaa", sum := "38d9be74e95fbc123c2c347d660e1c63154fbd44d314644f9a8439b5091512c7", func := "burin/burinlaw10.ClaimSettled", spec := "claimSettled", unfollowed := true, recurses := true, plainKeys := false, apart := false }
def ClaimSettledSaid : Prop := claimSettledRow.holds Try.pinned (OpenSpec.ofChange claimSettledSpec)

/-- ITS FALSE NEIGHBOUR: 'it returns false'. Refute it at one input. -/
def claimSettledWrong : ChangeSpec := { name := "claimSettled", fn := fun _ => fun
  | [d1, d2] => { results := [.lit (.bool false)], args := [d1, d2] }
  | _ => none }
def ClaimSettledWrongFalsely : Prop := claimSettledRow.holds Try.pinned (OpenSpec.ofChange claimSettledWrong)

/-- 'burinlaw10.ClaimBest': WHATEVER THE INPUT: true; the input reads as it did. -/
def claimBestSpec : ChangeSpec := { name := "claimBest", fn := fun _ => fun
  | [d] => { results := [.lit (.bool true)], args := [d] }
  | _ => none }
def claimBestRow : OpenClaim := { program := "ytieaibebnkdmhaa", sum := "38d9be74e95fbc123c2c347d660e1c63154fbd44d314644f9a8439b5091512c7", func := "burin/burinlaw10.ClaimBest", spec := "claimBest", unfollowed := true, recurses := true, plainKeys := false, apart := false }
def ClaimBestSaid : Prop := claimBestRow.holds Try.pinned (OpenSpec.ofChange claimBestSpec)

/-- ITS FALSE NEIGHBOUR: 'it returns false'. Refute it at one input. -/
def claimBestWrong : ChangeSpec := { name := "claimBest", fn := fun _ => fun
  | [d] => { results := [.lit (.bool false)], args := [d] }
  | _ => none }
def ClaimBestWrongFalsely : Prop := claimBestRow.holds Try.pinned (OpenSpec.ofChange claimBestWrong)

/-- 'burinlaw10.ClaimSame': WHATEVER THE INPUT: true; the input reads as it did. -/
def claimSameSpec : ChangeSpec := { name := "claimSame", fn := fun _ => fun
  | [d1, d2, d3] => { results := [.lit (.bool true)], args := [d1, d2, d3] }
  | _ => none }
def claimSameRow : OpenClaim := { program := "ytieaibebnkdmhaa", sum := "38d9be74e95fbc123c2c347d660e1c63154fbd44d314644f9a8439b5091512c7", func := "burin/burinlaw10.ClaimSame", spec := "claimSame", unfollowed := true, recurses := true, plainKeys := false, apart := false }
def ClaimSameSaid : Prop := claimSameRow.holds Try.pinned (OpenSpec.ofChange claimSameSpec)

/-- ITS FALSE NEIGHBOUR: 'it returns false'. Refute it at one input. -/
def claimSameWrong : ChangeSpec := { name := "claimSame", fn := fun _ => fun
  | [d1, d2, d3] => { results := [.lit (.bool false)], args := [d1, d2, d3] }
  | _ => none }
def ClaimSameWrongFalsely : Prop := claimSameRow.holds Try.pinned (OpenSpec.ofChange claimSameWrong)

/-- 'burinlaw10.ClaimTogether': WHATEVER THE INPUT: true; the input reads as it did. -/
def claimTogetherSpec : ChangeSpec := { name := "claimTogether", fn := fun _ => fun
  | [d1, d2, d3] => { results := [.lit (.bool true)], args := [d1, d2, d3] }
  | _ => none }
def claimTogetherRow : OpenClaim := { program := "ytieaibebnkdmhaa", sum := "38d9be74e95fbc123c2c347d660e1c63154fbd44d314644f9a8439b5091512c7", func := "burin/burinlaw10.ClaimTogether", spec := "claimTogether", unfollowed := true, recurses := true, plainKeys := false, apart := false }
def ClaimTogetherSaid : Prop := claimTogetherRow.holds Try.pinned (OpenSpec.ofChange claimTogetherSpec)

/-- ITS FALSE NEIGHBOUR: 'it returns false'. Refute it at one input. -/
def claimTogetherWrong : ChangeSpec := { name := "claimTogether", fn := fun _ => fun
  | [d1, d2, d3] => { results := [.lit (.bool false)], args := [d1, d2, d3] }
  | _ => none }
def ClaimTogetherWrongFalsely : Prop := claimTogetherRow.holds Try.pinned (OpenSpec.ofChange claimTogetherWrong)

/-- 'burinlaw10.ClaimMiddle': WHATEVER THE INPUT: true; the input reads as it did. -/
def claimMiddleSpec : ChangeSpec := { name := "claimMiddle", fn := fun _ => fun
  | [d1, d2, d3, d4] => { results := [.lit (.bool true)], args := [d1, d2, d3, d4] }
  | _ => none }
def claimMiddleRow : OpenClaim := { program := "ytieaibebnkdmhaa", sum := "38d9be74e95fbc123c2c347d660e1c63154fbd44d314644f9a8439b5091512c7", func := "burin/burinlaw10.ClaimMiddle", spec := "claimMiddle", unfollowed := true, recurses := true, plainKeys := false, apart := false }
def ClaimMiddleSaid : Prop := claimMiddleRow.holds Try.pinned (OpenSpec.ofChange claimMiddleSpec)

/-- ITS FALSE NEIGHBOUR: 'it returns false'. Refute it at one input. -/
def claimMiddleWrong : ChangeSpec := { name := "claimMiddle", fn := fun _ => fun
  | [d1, d2, d3, d4] => { results := [.lit (.bool false)], args := [d1, d2, d3, d4] }
  | _ => none }
def ClaimMiddleWrongFalsely : Prop := claimMiddleRow.holds Try.pinned (OpenSpec.ofChange claimMiddleWrong)

/-- 'burinlaw10.ClaimHonest': WHATEVER THE INPUT: true; the input reads as it did. -/
def claimHonestSpec : ChangeSpec := { name := "claimHonest", fn := fun _ => fun
  | [d1, d2, d3] => { results := [.lit (.bool true)], args := [d1, d2, d3] }
  | _ => none }
def claimHonestRow : OpenClaim := { program := "ytieaibebnkdmhaa", sum := "38d9be74e95fbc123c2c347d660e1c63154fbd44d314644f9a8439b5091512c7", func := "burin/burinlaw10.ClaimHonest", spec := "claimHonest", unfollowed := true, recurses := true, plainKeys := false, apart := false }
def ClaimHonestSaid : Prop := claimHonestRow.holds Try.pinned (OpenSpec.ofChange claimHonestSpec)

/-- ITS FALSE NEIGHBOUR: 'it returns false'. Refute it at one input. -/
def claimHonestWrong : ChangeSpec := { name := "claimHonest", fn := fun _ => fun
  | [d1, d2, d3] => { results := [.lit (.bool false)], args := [d1, d2, d3] }
  | _ => none }
def ClaimHonestWrongFalsely : Prop := claimHonestRow.holds Try.pinned (OpenSpec.ofChange claimHonestWrong)

/-- 'burinlaw10.ClaimMore': WHATEVER THE INPUT: true; the input reads as it did. -/
def claimMoreSpec : ChangeSpec := { name := "claimMore", fn := fun _ => fun
  | [d1, d2, d3] => { results := [.lit (.bool true)], args := [d1, d2, d3] }
  | _ => none }
def claimMoreRow : OpenClaim := { program := "ytieaibebnkdmhaa", sum := "38d9be74e95fbc123c2c347d660e1c63154fbd44d314644f9a8439b5091512c7", func := "burin/burinlaw10.ClaimMore", spec := "claimMore", unfollowed := true, recurses := true, plainKeys := false, apart := false }
def ClaimMoreSaid : Prop := claimMoreRow.holds Try.pinned (OpenSpec.ofChange claimMoreSpec)

/-- ITS FALSE NEIGHBOUR: 'it returns false'. Refute it at one input. -/
def claimMoreWrong : ChangeSpec := { name := "claimMore", fn := fun _ => fun
  | [d1, d2, d3] => { results := [.lit (.bool false)], args := [d1, d2, d3] }
  | _ => none }
def ClaimMoreWrongFalsely : Prop := claimMoreRow.holds Try.pinned (OpenSpec.ofChange claimMoreWrong)

/-- 'burinlaw10.ClaimCut': WHATEVER THE INPUT: true; the input reads as it did. -/
def claimCutSpec : ChangeSpec := { name := "claimCut", fn := fun _ => fun
  | [d] => { results := [.lit (.bool true)], args := [d] }
  | _ => none }
def claimCutRow : OpenClaim := { program := "ytieaibebnkdmhaa", sum := "38d9be74e95fbc123c2c347d660e1c63154fbd44d314644f9a8439b5091512c7", func := "burin/burinlaw10.ClaimCut", spec := "claimCut", unfollowed := true, recurses := true, plainKeys := false, apart := false }
def ClaimCutSaid : Prop := claimCutRow.holds Try.pinned (OpenSpec.ofChange claimCutSpec)

/-- ITS FALSE NEIGHBOUR: 'it returns false'. Refute it at one input. -/
def claimCutWrong : ChangeSpec := { name := "claimCut", fn := fun _ => fun
  | [d] => { results := [.lit (.bool false)], args := [d] }
  | _ => none }
def ClaimCutWrongFalsely : Prop := claimCutRow.holds Try.pinned (OpenSpec.ofChange claimCutWrong)

/-- 'burinlaw10.ClaimTurned': WHATEVER THE INPUT: true; the input reads as it did. -/
def claimTurnedSpec : ChangeSpec := { name := "claimTurned", fn := fun _ => fun
  | [d1, d2] => { results := [.lit (.bool true)], args := [d1, d2] }
  | _ => none }
def claimTurnedRow : OpenClaim := { program := "ytieaibebnkdmhaa", sum := "38d9be74e95fbc123c2c347d660e1c63154fbd44d314644f9a8439b5091512c7", func := "burin/burinlaw10.ClaimTurned", spec := "claimTurned", unfollowed := true, recurses := true, plainKeys := false, apart := false }
def ClaimTurnedSaid : Prop := claimTurnedRow.holds Try.pinned (OpenSpec.ofChange claimTurnedSpec)

/-- ITS FALSE NEIGHBOUR: 'it returns false'. Refute it at one input. -/
def claimTurnedWrong : ChangeSpec := { name := "claimTurned", fn := fun _ => fun
  | [d1, d2] => { results := [.lit (.bool false)], args := [d1, d2] }
  | _ => none }
def ClaimTurnedWrongFalsely : Prop := claimTurnedRow.holds Try.pinned (OpenSpec.ofChange claimTurnedWrong)

/-- 'burinlaw10.ClaimKnown': WHATEVER THE INPUT: true; the input reads as it did. -/
def claimKnownSpec : ChangeSpec := { name := "claimKnown", fn := fun _ => fun
  | [] => { results := [.lit (.bool true)], args := [] }
  | _ => none }
def claimKnownRow : OpenClaim := { program := "ytieaibebnkdmhaa", sum := "38d9be74e95fbc123c2c347d660e1c63154fbd44d314644f9a8439b5091512c7", func := "burin/burinlaw10.ClaimKnown", spec := "claimKnown", unfollowed := true, recurses := true, plainKeys := false, apart := false }
def ClaimKnownSaid : Prop := claimKnownRow.holds Try.pinned (OpenSpec.ofChange claimKnownSpec)

/-- ITS FALSE NEIGHBOUR: 'it returns false'. Refute it at one input. -/
def claimKnownWrong : ChangeSpec := { name := "claimKnown", fn := fun _ => fun
  | [] => { results := [.lit (.bool false)], args := [] }
  | _ => none }
def ClaimKnownWrongFalsely : Prop := claimKnownRow.holds Try.pinned (OpenSpec.ofChange claimKnownWrong)

/- THE SECOND FORM. 'bulk': how many values and letters a reading holds, each counted each time it is reached (what is shared counts as often as it is met; a slice's spare places count too). A statement '..UptoSaid' is the law's where the arguments, and the package variables that the reading takes, are together of bulk at most 1048576: NARROWER than '..Said'. Prove '..Said' where nothing that the law and all that it calls make is longer than what came in: it says more and counts as full. Else prove '..UptoSaid'. A law counts once. -/
mutual
def uptoBulk {H : Type} : DataW H → Nat
  | .lit (.string bytes) => bytes.length + 1
  | .lit _ => 1
  | .nil => 1
  | .ptr d => uptoBulk d + 1
  | .slice elems spare => uptoBulkAll elems + uptoBulkAll spare + 1
  | .agg parts => uptoBulkAll parts + 1
  | .iface _ d => uptoBulk d + 1
  | .map entries => uptoBulkEntries entries + 1
  | .held _ => 1
def uptoBulkAll {H : Type} : List (DataW H) → Nat
  | [] => 0
  | d :: r => uptoBulk d + uptoBulkAll r
def uptoBulkEntries {H : Type} : List (Lit × DataW H) → Nat
  | [] => 0
  | x :: r => uptoBulkEntry x + uptoBulkEntries r
def uptoBulkEntry {H : Type} : Lit × DataW H → Nat
  | (.string bytes, d) => bytes.length + uptoBulk d + 1
  | (_, d) => uptoBulk d + 1
 end
def uptoSmall : (H : Type) → List (DataW H) → Bool := fun _ ds => decide (uptoBulkAll ds ≤ 1048576)
def OpenSpec.upto (s : _root_.Go.ChangeSpec) : _root_.Go.OpenSpec := { _root_.Go.OpenSpec.ofChange s with cond := some uptoSmall }

/-- 'burinlaw10.ClaimBooks', WHERE WHAT IT READS IS OF BULK AT MOST 1048576: true; the input reads as it did. -/
def claimBooksUptoRow : OpenClaim := { program := "ytieaibebnkdmhaa", sum := "38d9be74e95fbc123c2c347d660e1c63154fbd44d314644f9a8439b5091512c7", func := "burin/burinlaw10.ClaimBooks", spec := "claimBooks", unfollowed := true, recurses := true, plainKeys := false, apart := false, narrowed := true }
def ClaimBooksUptoSaid : Prop := claimBooksUptoRow.holds Try.pinned (OpenSpec.upto claimBooksSpec)

/-- 'burinlaw10.ClaimBests', WHERE WHAT IT READS IS OF BULK AT MOST 1048576: true; the input reads as it did. -/
def claimBestsUptoRow : OpenClaim := { program := "ytieaibebnkdmhaa", sum := "38d9be74e95fbc123c2c347d660e1c63154fbd44d314644f9a8439b5091512c7", func := "burin/burinlaw10.ClaimBests", spec := "claimBests", unfollowed := true, recurses := true, plainKeys := false, apart := false, narrowed := true }
def ClaimBestsUptoSaid : Prop := claimBestsUptoRow.holds Try.pinned (OpenSpec.upto claimBestsSpec)

/-- 'burinlaw10.ClaimAlls', WHERE WHAT IT READS IS OF BULK AT MOST 1048576: true; the input reads as it did. -/
def claimAllsUptoRow : OpenClaim := { program := "ytieaibebnkdmhaa", sum := "38d9be74e95fbc123c2c347d660e1c63154fbd44d314644f9a8439b5091512c7", func := "burin/burinlaw10.ClaimAlls", spec := "claimAlls", unfollowed := true, recurses := true, plainKeys := false, apart := false, narrowed := true }
def ClaimAllsUptoSaid : Prop := claimAllsUptoRow.holds Try.pinned (OpenSpec.upto claimAllsSpec)

/-- 'burinlaw10.ClaimPuts', WHERE WHAT IT READS IS OF BULK AT MOST 1048576: true; the input reads as it did. -/
def claimPutsUptoRow : OpenClaim := { program := "ytieaibebnkdmhaa", sum := "38d9be74e95fbc123c2c347d660e1c63154fbd44d314644f9a8439b5091512c7", func := "burin/burinlaw10.ClaimPuts", spec := "claimPuts", unfollowed := true, recurses := true, plainKeys := false, apart := false, narrowed := true }
def ClaimPutsUptoSaid : Prop := claimPutsUptoRow.holds Try.pinned (OpenSpec.upto claimPutsSpec)

/-- 'burinlaw10.ClaimSettled', WHERE WHAT IT READS IS OF BULK AT MOST 1048576: true; the input reads as it did. -/
def claimSettledUptoRow : OpenClaim := { program := "ytieaibebnkdmhaa", sum := "38d9be74e95fbc123c2c347d660e1c63154fbd44d314644f9a8439b5091512c7", func := "burin/burinlaw10.ClaimSettled", spec := "claimSettled", unfollowed := true, recurses := true, plainKeys := false, apart := false, narrowed := true }
def ClaimSettledUptoSaid : Prop := claimSettledUptoRow.holds Try.pinned (OpenSpec.upto claimSettledSpec)

/-- 'burinlaw10.ClaimBest', WHERE WHAT IT READS IS OF BULK AT MOST 1048576: true; the input reads as it did. -/
def claimBestUptoRow : OpenClaim := { program := "ytieaibebnkdmhaa", sum := "38d9be74e95fbc123c2c347d660e1c63154fbd44d314644f9a8439b5091512c7", func := "burin/burinlaw10.ClaimBest", spec := "claimBest", unfollowed := true, recurses := true, plainKeys := false, apart := false, narrowed := true }
def ClaimBestUptoSaid : Prop := claimBestUptoRow.holds Try.pinned (OpenSpec.upto claimBestSpec)

/-- 'burinlaw10.ClaimSame', WHERE WHAT IT READS IS OF BULK AT MOST 1048576: true; the input reads as it did. -/
def claimSameUptoRow : OpenClaim := { program := "ytieaibebnkdmhaa", sum := "38d9be74e95fbc123c2c347d660e1c63154fbd44d314644f9a8439b5091512c7", func := "burin/burinlaw10.ClaimSame", spec := "claimSame", unfollowed := true, recurses := true, plainKeys := false, apart := false, narrowed := true }
def ClaimSameUptoSaid : Prop := claimSameUptoRow.holds Try.pinned (OpenSpec.upto claimSameSpec)

/-- 'burinlaw10.ClaimTogether', WHERE WHAT IT READS IS OF BULK AT MOST 1048576: true; the input reads as it did. -/
def claimTogetherUptoRow : OpenClaim := { program := "ytieaibebnkdmhaa", sum := "38d9be74e95fbc123c2c347d660e1c63154fbd44d314644f9a8439b5091512c7", func := "burin/burinlaw10.ClaimTogether", spec := "claimTogether", unfollowed := true, recurses := true, plainKeys := false, apart := false, narrowed := true }
def ClaimTogetherUptoSaid : Prop := claimTogetherUptoRow.holds Try.pinned (OpenSpec.upto claimTogetherSpec)

/-- 'burinlaw10.ClaimMiddle', WHERE WHAT IT READS IS OF BULK AT MOST 1048576: true; the input reads as it did. -/
def claimMiddleUptoRow : OpenClaim := { program := "ytieaibebnkdmhaa", sum := "38d9be74e95fbc123c2c347d660e1c63154fbd44d314644f9a8439b5091512c7", func := "burin/burinlaw10.ClaimMiddle", spec := "claimMiddle", unfollowed := true, recurses := true, plainKeys := false, apart := false, narrowed := true }
def ClaimMiddleUptoSaid : Prop := claimMiddleUptoRow.holds Try.pinned (OpenSpec.upto claimMiddleSpec)

/-- 'burinlaw10.ClaimHonest', WHERE WHAT IT READS IS OF BULK AT MOST 1048576: true; the input reads as it did. -/
def claimHonestUptoRow : OpenClaim := { program := "ytieaibebnkdmhaa", sum := "38d9be74e95fbc123c2c347d660e1c63154fbd44d314644f9a8439b5091512c7", func := "burin/burinlaw10.ClaimHonest", spec := "claimHonest", unfollowed := true, recurses := true, plainKeys := false, apart := false, narrowed := true }
def ClaimHonestUptoSaid : Prop := claimHonestUptoRow.holds Try.pinned (OpenSpec.upto claimHonestSpec)

/-- 'burinlaw10.ClaimMore', WHERE WHAT IT READS IS OF BULK AT MOST 1048576: true; the input reads as it did. -/
def claimMoreUptoRow : OpenClaim := { program := "ytieaibebnkdmhaa", sum := "38d9be74e95fbc123c2c347d660e1c63154fbd44d314644f9a8439b5091512c7", func := "burin/burinlaw10.ClaimMore", spec := "claimMore", unfollowed := true, recurses := true, plainKeys := false, apart := false, narrowed := true }
def ClaimMoreUptoSaid : Prop := claimMoreUptoRow.holds Try.pinned (OpenSpec.upto claimMoreSpec)

/-- 'burinlaw10.ClaimCut', WHERE WHAT IT READS IS OF BULK AT MOST 1048576: true; the input reads as it did. -/
def claimCutUptoRow : OpenClaim := { program := "ytieaibebnkdmhaa", sum := "38d9be74e95fbc123c2c347d660e1c63154fbd44d314644f9a8439b5091512c7", func := "burin/burinlaw10.ClaimCut", spec := "claimCut", unfollowed := true, recurses := true, plainKeys := false, apart := false, narrowed := true }
def ClaimCutUptoSaid : Prop := claimCutUptoRow.holds Try.pinned (OpenSpec.upto claimCutSpec)

/-- 'burinlaw10.ClaimTurned', WHERE WHAT IT READS IS OF BULK AT MOST 1048576: true; the input reads as it did. -/
def claimTurnedUptoRow : OpenClaim := { program := "ytieaibebnkdmhaa", sum := "38d9be74e95fbc123c2c347d660e1c63154fbd44d314644f9a8439b5091512c7", func := "burin/burinlaw10.ClaimTurned", spec := "claimTurned", unfollowed := true, recurses := true, plainKeys := false, apart := false, narrowed := true }
def ClaimTurnedUptoSaid : Prop := claimTurnedUptoRow.holds Try.pinned (OpenSpec.upto claimTurnedSpec)

/-- 'burinlaw10.ClaimKnown', WHERE WHAT IT READS IS OF BULK AT MOST 1048576: true; the input reads as it did. -/
def claimKnownUptoRow : OpenClaim := { program := "ytieaibebnkdmhaa", sum := "38d9be74e95fbc123c2c347d660e1c63154fbd44d314644f9a8439b5091512c7", func := "burin/burinlaw10.ClaimKnown", spec := "claimKnown", unfollowed := true, recurses := true, plainKeys := false, apart := false, narrowed := true }
def ClaimKnownUptoSaid : Prop := claimKnownUptoRow.holds Try.pinned (OpenSpec.upto claimKnownSpec)

end Rows
end Go.Proofs.Ytieaibebnkdmhaa
