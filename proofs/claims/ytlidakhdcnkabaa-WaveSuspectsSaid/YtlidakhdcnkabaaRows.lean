/-
  No cell of these rows narrows 'for every input' (looked for: loops, veiled, ifaces, maps, wideKeys, modest, calm, conditions, laid).
  DERIVED. THE GIVEN ROWS OF THIS SEAT. 9 by the template 'for every input the law returns true; each argument reads behind the call as it read before'; 0 by the template 'total and deterministic' (their statements: YtlidakhdcnkabaaTotals.lean).
  GIVEN WITH THE SEED: the statements are not yours to turn. If you find one false, say at which input.
  Laid BY PROGRAM, IN A SANDBOX (cutbox-rows.mjs): the forced cells as the released guide's own fill.sh prints them over the translation d16bc4bafcfa7dbf… (all of the seat's roots in one cut). By AI agents, Wed Nov 11 2026. No macro, syntax, notation, axiom, sorry.
-/
import Derived.Test.YtlidakhdcnkabaaChecked
import GoSem.Claim
import GoSem.ClaimJoined
import GoSem.ClaimMapViews
import Derived.JoinedTies
import Derived.KernelRfl
namespace Go.Proofs.Ytlidakhdcnkabaa
/- THE CELL 'sum', in the pinned program and in every row, IS THE sha256 OF THE DUMP (.gsa) THAT YtlidakhdcnkabaaProg.lean LOADS. Nothing in Lean hashes anything: it is a label: what it is worth is what the hold of that sum in a sandbox is worth. -/
noncomputable def Try.pinned : Pinned := { name := "ytlidakhdcnkabaa", sum := "d16bc4bafcfa7dbf99296c3eade2932b98fd66b6827a539f4a2f5530ae42f3d5", checked := Try.checked }
namespace Rows
def none {H : Type} : Left H := { results := [], args := [] }

/-- 'agoniclaw04.WaveFits': WHATEVER THE INPUT: true; the input reads as it did. -/
def waveFitsSpec : ChangeSpec := { name := "waveFits", fn := fun _ => fun
  | [d] => { results := [.lit (.bool true)], args := [d] }
  | _ => none }
def waveFitsRow : OpenClaim := { program := "ytlidakhdcnkabaa", sum := "d16bc4bafcfa7dbf99296c3eade2932b98fd66b6827a539f4a2f5530ae42f3d5", func := "agonic/agoniclaw04.WaveFits", spec := "waveFits", unfollowed := true, recurses := true, plainKeys := false, apart := false }
def WaveFitsSaid : Prop := waveFitsRow.holds Try.pinned (OpenSpec.ofChange waveFitsSpec)

/-- ITS FALSE NEIGHBOUR: 'it returns false'. Refute it at one input. -/
def waveFitsWrong : ChangeSpec := { name := "waveFits", fn := fun _ => fun
  | [d] => { results := [.lit (.bool false)], args := [d] }
  | _ => none }
def WaveFitsWrongFalsely : Prop := waveFitsRow.holds Try.pinned (OpenSpec.ofChange waveFitsWrong)

/-- 'agoniclaw04.WaveRings': WHATEVER THE INPUT: true; the input reads as it did. -/
def waveRingsSpec : ChangeSpec := { name := "waveRings", fn := fun _ => fun
  | [d1, d2] => { results := [.lit (.bool true)], args := [d1, d2] }
  | _ => none }
def waveRingsRow : OpenClaim := { program := "ytlidakhdcnkabaa", sum := "d16bc4bafcfa7dbf99296c3eade2932b98fd66b6827a539f4a2f5530ae42f3d5", func := "agonic/agoniclaw04.WaveRings", spec := "waveRings", unfollowed := true, recurses := true, plainKeys := false, apart := false }
def WaveRingsSaid : Prop := waveRingsRow.holds Try.pinned (OpenSpec.ofChange waveRingsSpec)

/-- ITS FALSE NEIGHBOUR: 'it returns false'. Refute it at one input. -/
def waveRingsWrong : ChangeSpec := { name := "waveRings", fn := fun _ => fun
  | [d1, d2] => { results := [.lit (.bool false)], args := [d1, d2] }
  | _ => none }
def WaveRingsWrongFalsely : Prop := waveRingsRow.holds Try.pinned (OpenSpec.ofChange waveRingsWrong)

/-- 'agoniclaw04.WaveEither': WHATEVER THE INPUT: true; the input reads as it did. -/
def waveEitherSpec : ChangeSpec := { name := "waveEither", fn := fun _ => fun
  | [d] => { results := [.lit (.bool true)], args := [d] }
  | _ => none }
def waveEitherRow : OpenClaim := { program := "ytlidakhdcnkabaa", sum := "d16bc4bafcfa7dbf99296c3eade2932b98fd66b6827a539f4a2f5530ae42f3d5", func := "agonic/agoniclaw04.WaveEither", spec := "waveEither", unfollowed := true, recurses := true, plainKeys := false, apart := false }
def WaveEitherSaid : Prop := waveEitherRow.holds Try.pinned (OpenSpec.ofChange waveEitherSpec)

/-- ITS FALSE NEIGHBOUR: 'it returns false'. Refute it at one input. -/
def waveEitherWrong : ChangeSpec := { name := "waveEither", fn := fun _ => fun
  | [d] => { results := [.lit (.bool false)], args := [d] }
  | _ => none }
def WaveEitherWrongFalsely : Prop := waveEitherRow.holds Try.pinned (OpenSpec.ofChange waveEitherWrong)

/-- 'agoniclaw04.WaveProved': WHATEVER THE INPUT: true; the input reads as it did. -/
def waveProvedSpec : ChangeSpec := { name := "waveProved", fn := fun _ => fun
  | [d1, d2] => { results := [.lit (.bool true)], args := [d1, d2] }
  | _ => none }
def waveProvedRow : OpenClaim := { program := "ytlidakhdcnkabaa", sum := "d16bc4bafcfa7dbf99296c3eade2932b98fd66b6827a539f4a2f5530ae42f3d5", func := "agonic/agoniclaw04.WaveProved", spec := "waveProved", unfollowed := true, recurses := true, plainKeys := false, apart := false }
def WaveProvedSaid : Prop := waveProvedRow.holds Try.pinned (OpenSpec.ofChange waveProvedSpec)

/-- ITS FALSE NEIGHBOUR: 'it returns false'. Refute it at one input. -/
def waveProvedWrong : ChangeSpec := { name := "waveProved", fn := fun _ => fun
  | [d1, d2] => { results := [.lit (.bool false)], args := [d1, d2] }
  | _ => none }
def WaveProvedWrongFalsely : Prop := waveProvedRow.holds Try.pinned (OpenSpec.ofChange waveProvedWrong)

/-- 'agoniclaw04.WaveTrue': WHATEVER THE INPUT: true; the input reads as it did. -/
def waveTrueSpec : ChangeSpec := { name := "waveTrue", fn := fun _ => fun
  | [d1, d2, d3] => { results := [.lit (.bool true)], args := [d1, d2, d3] }
  | _ => none }
def waveTrueRow : OpenClaim := { program := "ytlidakhdcnkabaa", sum := "d16bc4bafcfa7dbf99296c3eade2932b98fd66b6827a539f4a2f5530ae42f3d5", func := "agonic/agoniclaw04.WaveTrue", spec := "waveTrue", unfollowed := true, recurses := true, plainKeys := false, apart := false }
def WaveTrueSaid : Prop := waveTrueRow.holds Try.pinned (OpenSpec.ofChange waveTrueSpec)

/-- ITS FALSE NEIGHBOUR: 'it returns false'. Refute it at one input. -/
def waveTrueWrong : ChangeSpec := { name := "waveTrue", fn := fun _ => fun
  | [d1, d2, d3] => { results := [.lit (.bool false)], args := [d1, d2, d3] }
  | _ => none }
def WaveTrueWrongFalsely : Prop := waveTrueRow.holds Try.pinned (OpenSpec.ofChange waveTrueWrong)

/-- 'agoniclaw04.WaveSums': WHATEVER THE INPUT: true; the input reads as it did. -/
def waveSumsSpec : ChangeSpec := { name := "waveSums", fn := fun _ => fun
  | [d1, d2, d3, d4] => { results := [.lit (.bool true)], args := [d1, d2, d3, d4] }
  | _ => none }
def waveSumsRow : OpenClaim := { program := "ytlidakhdcnkabaa", sum := "d16bc4bafcfa7dbf99296c3eade2932b98fd66b6827a539f4a2f5530ae42f3d5", func := "agonic/agoniclaw04.WaveSums", spec := "waveSums", unfollowed := true, recurses := true, plainKeys := false, apart := false }
def WaveSumsSaid : Prop := waveSumsRow.holds Try.pinned (OpenSpec.ofChange waveSumsSpec)

/-- ITS FALSE NEIGHBOUR: 'it returns false'. Refute it at one input. -/
def waveSumsWrong : ChangeSpec := { name := "waveSums", fn := fun _ => fun
  | [d1, d2, d3, d4] => { results := [.lit (.bool false)], args := [d1, d2, d3, d4] }
  | _ => none }
def WaveSumsWrongFalsely : Prop := waveSumsRow.holds Try.pinned (OpenSpec.ofChange waveSumsWrong)

/-- 'agoniclaw04.WaveSuspects': WHATEVER THE INPUT: true; the input reads as it did. -/
def waveSuspectsSpec : ChangeSpec := { name := "waveSuspects", fn := fun _ => fun
  | [d1, d2, d3] => { results := [.lit (.bool true)], args := [d1, d2, d3] }
  | _ => none }
def waveSuspectsRow : OpenClaim := { program := "ytlidakhdcnkabaa", sum := "d16bc4bafcfa7dbf99296c3eade2932b98fd66b6827a539f4a2f5530ae42f3d5", func := "agonic/agoniclaw04.WaveSuspects", spec := "waveSuspects", unfollowed := true, recurses := true, plainKeys := false, apart := false }
def WaveSuspectsSaid : Prop := waveSuspectsRow.holds Try.pinned (OpenSpec.ofChange waveSuspectsSpec)

/-- ITS FALSE NEIGHBOUR: 'it returns false'. Refute it at one input. -/
def waveSuspectsWrong : ChangeSpec := { name := "waveSuspects", fn := fun _ => fun
  | [d1, d2, d3] => { results := [.lit (.bool false)], args := [d1, d2, d3] }
  | _ => none }
def WaveSuspectsWrongFalsely : Prop := waveSuspectsRow.holds Try.pinned (OpenSpec.ofChange waveSuspectsWrong)

/-- 'agoniclaw04.WaveValues': WHATEVER THE INPUT: true; the input reads as it did. -/
def waveValuesSpec : ChangeSpec := { name := "waveValues", fn := fun _ => fun
  | [d1, d2, d3, d4] => { results := [.lit (.bool true)], args := [d1, d2, d3, d4] }
  | _ => none }
def waveValuesRow : OpenClaim := { program := "ytlidakhdcnkabaa", sum := "d16bc4bafcfa7dbf99296c3eade2932b98fd66b6827a539f4a2f5530ae42f3d5", func := "agonic/agoniclaw04.WaveValues", spec := "waveValues", unfollowed := true, recurses := true, plainKeys := false, apart := false }
def WaveValuesSaid : Prop := waveValuesRow.holds Try.pinned (OpenSpec.ofChange waveValuesSpec)

/-- ITS FALSE NEIGHBOUR: 'it returns false'. Refute it at one input. -/
def waveValuesWrong : ChangeSpec := { name := "waveValues", fn := fun _ => fun
  | [d1, d2, d3, d4] => { results := [.lit (.bool false)], args := [d1, d2, d3, d4] }
  | _ => none }
def WaveValuesWrongFalsely : Prop := waveValuesRow.holds Try.pinned (OpenSpec.ofChange waveValuesWrong)

/-- 'agoniclaw04.WaveEnough': WHATEVER THE INPUT: true; the input reads as it did. -/
def waveEnoughSpec : ChangeSpec := { name := "waveEnough", fn := fun _ => fun
  | [d1, d2, d3, d4] => { results := [.lit (.bool true)], args := [d1, d2, d3, d4] }
  | _ => none }
def waveEnoughRow : OpenClaim := { program := "ytlidakhdcnkabaa", sum := "d16bc4bafcfa7dbf99296c3eade2932b98fd66b6827a539f4a2f5530ae42f3d5", func := "agonic/agoniclaw04.WaveEnough", spec := "waveEnough", unfollowed := true, recurses := true, plainKeys := false, apart := false }
def WaveEnoughSaid : Prop := waveEnoughRow.holds Try.pinned (OpenSpec.ofChange waveEnoughSpec)

/-- ITS FALSE NEIGHBOUR: 'it returns false'. Refute it at one input. -/
def waveEnoughWrong : ChangeSpec := { name := "waveEnough", fn := fun _ => fun
  | [d1, d2, d3, d4] => { results := [.lit (.bool false)], args := [d1, d2, d3, d4] }
  | _ => none }
def WaveEnoughWrongFalsely : Prop := waveEnoughRow.holds Try.pinned (OpenSpec.ofChange waveEnoughWrong)

/- THE SECOND FORM. 'bulk': how many values and letters a reading holds, each counted each time it is reached (what is shared counts as often as it is met; a slice's spare places count too). A statement '..UptoSaid' is the law's where the arguments, and the package variables that the reading takes, are together of bulk at most 1048576: NARROWER than '..Said'. Prove '..Said' where nothing that the law and all that it calls make is longer than what came in: it says more and counts as full. Else prove '..UptoSaid'. A law counts once. -/
mutual
def uptoBulk {H : Type} : DataW H → Nat
  | .lit (.string bytes) => bytes.length + 1
  | .lit _ => 1
  | .nil => 1
  | .ptr d => uptoBulk d + 1
  | .slice elems spare => uptoBulkAll elems + uptoBulkAll spare + 1
  | .agg parts => uptoBulkAll parts + 1
  | .iface _ d => uptoBulk d + 1
  | .map entries => uptoBulkEntries entries + 1
  | .held _ => 1
def uptoBulkAll {H : Type} : List (DataW H) → Nat
  | [] => 0
  | d :: r => uptoBulk d + uptoBulkAll r
def uptoBulkEntries {H : Type} : List (Lit × DataW H) → Nat
  | [] => 0
  | x :: r => uptoBulkEntry x + uptoBulkEntries r
def uptoBulkEntry {H : Type} : Lit × DataW H → Nat
  | (.string bytes, d) => bytes.length + uptoBulk d + 1
  | (_, d) => uptoBulk d + 1
 end
def uptoSmall : (H : Type) → List (DataW H) → Bool := fun _ ds => decide (uptoBulkAll ds ≤ 1048576)
def OpenSpec.upto (s : _root_.Go.ChangeSpec) : _root_.Go.OpenSpec := { _root_.Go.OpenSpec.ofChange s with cond := some uptoSmall }

/-- 'agoniclaw04.WaveFits', WHERE WHAT IT READS IS OF BULK AT MOST 1048576: true; the input reads as it did. -/
def waveFitsUptoRow : OpenClaim := { program := "ytlidakhdcnkabaa", sum := "d16bc4bafcfa7dbf99296c3eade2932b98fd66b6827a539f4a2f5530ae42f3d5", func := "agonic/agoniclaw04.WaveFits", spec := "waveFits", unfollowed := true, recurses := true, plainKeys := false, apart := false, narrowed := true }
def WaveFitsUptoSaid : Prop := waveFitsUptoRow.holds Try.pinned (OpenSpec.upto waveFitsSpec)

/-- 'agoniclaw04.WaveRings', WHERE WHAT IT READS IS OF BULK AT MOST 1048576: true; the input reads as it did. -/
def waveRingsUptoRow : OpenClaim := { program := "ytlidakhdcnkabaa", sum := "d16bc4bafcfa7dbf99296c3eade2932b98fd66b6827a539f4a2f5530ae42f3d5", func := "agonic/agoniclaw04.WaveRings", spec := "waveRings", unfollowed := true, recurses := true, plainKeys := false, apart := false, narrowed := true }
def WaveRingsUptoSaid : Prop := waveRingsUptoRow.holds Try.pinned (OpenSpec.upto waveRingsSpec)

/-- 'agoniclaw04.WaveEither', WHERE WHAT IT READS IS OF BULK AT MOST 1048576: true; the input reads as it did. -/
def waveEitherUptoRow : OpenClaim := { program := "ytlidakhdcnkabaa", sum := "d16bc4bafcfa7dbf99296c3eade2932b98fd66b6827a539f4a2f5530ae42f3d5", func := "agonic/agoniclaw04.WaveEither", spec := "waveEither", unfollowed := true, recurses := true, plainKeys := false, apart := false, narrowed := true }
def WaveEitherUptoSaid : Prop := waveEitherUptoRow.holds Try.pinned (OpenSpec.upto waveEitherSpec)

/-- 'agoniclaw04.WaveProved', WHERE WHAT IT READS IS OF BULK AT MOST 1048576: true; the input reads as it did. -/
def waveProvedUptoRow : OpenClaim := { program := "ytlidakhdcnkabaa", sum := "d16bc4bafcfa7dbf99296c3eade2932b98fd66b6827a539f4a2f5530ae42f3d5", func := "agonic/agoniclaw04.WaveProved", spec := "waveProved", unfollowed := true, recurses := true, plainKeys := false, apart := false, narrowed := true }
def WaveProvedUptoSaid : Prop := waveProvedUptoRow.holds Try.pinned (OpenSpec.upto waveProvedSpec)

/-- 'agoniclaw04.WaveTrue', WHERE WHAT IT READS IS OF BULK AT MOST 1048576: true; the input reads as it did. -/
def waveTrueUptoRow : OpenClaim := { program := "ytlidakhdcnkabaa", sum := "d16bc4bafcfa7dbf99296c3eade2932b98fd66b6827a539f4a2f5530ae42f3d5", func := "agonic/agoniclaw04.WaveTrue", spec := "waveTrue", unfollowed := true, recurses := true, plainKeys := false, apart := false, narrowed := true }
def WaveTrueUptoSaid : Prop := waveTrueUptoRow.holds Try.pinned (OpenSpec.upto waveTrueSpec)

/-- 'agoniclaw04.WaveSums', WHERE WHAT IT READS IS OF BULK AT MOST 1048576: true; the input reads as it did. -/
def waveSumsUptoRow : OpenClaim := { program := "ytlidakhdcnkabaa", sum := "d16bc4bafcfa7dbf99296c3eade2932b98fd66b6827a539f4a2f5530ae42f3d5", func := "agonic/agoniclaw04.WaveSums", spec := "waveSums", unfollowed := true, recurses := true, plainKeys := false, apart := false, narrowed := true }
def WaveSumsUptoSaid : Prop := waveSumsUptoRow.holds Try.pinned (OpenSpec.upto waveSumsSpec)

/-- 'agoniclaw04.WaveSuspects', WHERE WHAT IT READS IS OF BULK AT MOST 1048576: true; the input reads as it did. -/
def waveSuspectsUptoRow : OpenClaim := { program := "ytlidakhdcnkabaa", sum := "d16bc4bafcfa7dbf99296c3eade2932b98fd66b6827a539f4a2f5530ae42f3d5", func := "agonic/agoniclaw04.WaveSuspects", spec := "waveSuspects", unfollowed := true, recurses := true, plainKeys := false, apart := false, narrowed := true }
def WaveSuspectsUptoSaid : Prop := waveSuspectsUptoRow.holds Try.pinned (OpenSpec.upto waveSuspectsSpec)

/-- 'agoniclaw04.WaveValues', WHERE WHAT IT READS IS OF BULK AT MOST 1048576: true; the input reads as it did. -/
def waveValuesUptoRow : OpenClaim := { program := "ytlidakhdcnkabaa", sum := "d16bc4bafcfa7dbf99296c3eade2932b98fd66b6827a539f4a2f5530ae42f3d5", func := "agonic/agoniclaw04.WaveValues", spec := "waveValues", unfollowed := true, recurses := true, plainKeys := false, apart := false, narrowed := true }
def WaveValuesUptoSaid : Prop := waveValuesUptoRow.holds Try.pinned (OpenSpec.upto waveValuesSpec)

/-- 'agoniclaw04.WaveEnough', WHERE WHAT IT READS IS OF BULK AT MOST 1048576: true; the input reads as it did. -/
def waveEnoughUptoRow : OpenClaim := { program := "ytlidakhdcnkabaa", sum := "d16bc4bafcfa7dbf99296c3eade2932b98fd66b6827a539f4a2f5530ae42f3d5", func := "agonic/agoniclaw04.WaveEnough", spec := "waveEnough", unfollowed := true, recurses := true, plainKeys := false, apart := false, narrowed := true }
def WaveEnoughUptoSaid : Prop := waveEnoughUptoRow.holds Try.pinned (OpenSpec.upto waveEnoughSpec)

end Rows
end Go.Proofs.Ytlidakhdcnkabaa
