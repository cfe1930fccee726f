/-
  No cell of these rows narrows 'for every input' (looked for: loops, veiled, ifaces, maps, wideKeys, modest, calm, conditions, laid).
  DERIVED. THE GIVEN ROWS OF THIS SEAT. 8 by the template 'for every input the law returns true; each argument reads behind the call as it read before'; 0 by the template 'total and deterministic' (their statements: YtfmojgdomficlaaTotals.lean).
  GIVEN WITH THE SEED: the statements are not yours to turn. If you find one false, say at which input.
  Laid BY PROGRAM, IN A SANDBOX (cutbox-rows.mjs): the forced cells as the released guide's own fill.sh prints them over the translation 4d8d20a17d6ec845… (all of the seat's roots in one cut). By AI agents, Wed Nov 11 2026. No macro, syntax, notation, axiom, sorry.
-/
import Derived.Test.YtfmojgdomficlaaChecked
import GoSem.Claim
import GoSem.ClaimJoined
import GoSem.ClaimMapViews
import Derived.JoinedTies
import Derived.KernelRfl
namespace Go.Proofs.Ytfmojgdomficlaa
/- THE CELL 'sum', in the pinned program and in every row, IS THE sha256 OF THE DUMP (.gsa) THAT YtfmojgdomficlaaProg.lean LOADS. Nothing in Lean hashes anything: it is a label: what it is worth is what the hold of that sum in a sandbox is worth. -/
noncomputable def Try.pinned : Pinned := { name := "ytfmojgdomficlaa", sum := "4d8d20a17d6ec84550dc823723379fe43ccfd8839296ad1722c1d1106d6b0a08", checked := Try.checked }
namespace Rows
def none {H : Type} : Left H := { results := [], args := [] }

/-- 'afterwordlaw26.SegSum': WHATEVER THE INPUT: true; the input reads as it did. -/
def segSumSpec : ChangeSpec := { name := "segSum", fn := fun _ => fun
  | [d] => { results := [.lit (.bool true)], args := [d] }
  | _ => none }
def segSumRow : OpenClaim := { program := "ytfmojgdomficlaa", sum := "4d8d20a17d6ec84550dc823723379fe43ccfd8839296ad1722c1d1106d6b0a08", func := "afterword/afterwordlaw26.SegSum", spec := "segSum", unfollowed := true, recurses := true, plainKeys := false, apart := false }
def SegSumSaid : Prop := segSumRow.holds Try.pinned (OpenSpec.ofChange segSumSpec)

/-- ITS FALSE NEIGHBOUR: 'it returns false'. Refute it at one input. -/
def segSumWrong : ChangeSpec := { name := "segSum", fn := fun _ => fun
  | [d] => { results := [.lit (.bool false)], args := [d] }
  | _ => none }
def SegSumWrongFalsely : Prop := segSumRow.holds Try.pinned (OpenSpec.ofChange segSumWrong)

/-- 'afterwordlaw26.SegDisks': WHATEVER THE INPUT: true; the input reads as it did. -/
def segDisksSpec : ChangeSpec := { name := "segDisks", fn := fun _ => fun
  | [d] => { results := [.lit (.bool true)], args := [d] }
  | _ => none }
def segDisksRow : OpenClaim := { program := "ytfmojgdomficlaa", sum := "4d8d20a17d6ec84550dc823723379fe43ccfd8839296ad1722c1d1106d6b0a08", func := "afterword/afterwordlaw26.SegDisks", spec := "segDisks", unfollowed := true, recurses := true, plainKeys := false, apart := false }
def SegDisksSaid : Prop := segDisksRow.holds Try.pinned (OpenSpec.ofChange segDisksSpec)

/-- ITS FALSE NEIGHBOUR: 'it returns false'. Refute it at one input. -/
def segDisksWrong : ChangeSpec := { name := "segDisks", fn := fun _ => fun
  | [d] => { results := [.lit (.bool false)], args := [d] }
  | _ => none }
def SegDisksWrongFalsely : Prop := segDisksRow.holds Try.pinned (OpenSpec.ofChange segDisksWrong)

/-- 'afterwordlaw26.SegPlays': WHATEVER THE INPUT: true; the input reads as it did. -/
def segPlaysSpec : ChangeSpec := { name := "segPlays", fn := fun _ => fun
  | [d1, d2] => { results := [.lit (.bool true)], args := [d1, d2] }
  | _ => none }
def segPlaysRow : OpenClaim := { program := "ytfmojgdomficlaa", sum := "4d8d20a17d6ec84550dc823723379fe43ccfd8839296ad1722c1d1106d6b0a08", func := "afterword/afterwordlaw26.SegPlays", spec := "segPlays", unfollowed := true, recurses := true, plainKeys := false, apart := false }
def SegPlaysSaid : Prop := segPlaysRow.holds Try.pinned (OpenSpec.ofChange segPlaysSpec)

/-- ITS FALSE NEIGHBOUR: 'it returns false'. Refute it at one input. -/
def segPlaysWrong : ChangeSpec := { name := "segPlays", fn := fun _ => fun
  | [d1, d2] => { results := [.lit (.bool false)], args := [d1, d2] }
  | _ => none }
def SegPlaysWrongFalsely : Prop := segPlaysRow.holds Try.pinned (OpenSpec.ofChange segPlaysWrong)

/-- 'afterwordlaw26.SegTold': WHATEVER THE INPUT: true; the input reads as it did. -/
def segToldSpec : ChangeSpec := { name := "segTold", fn := fun _ => fun
  | [d1, d2, d3] => { results := [.lit (.bool true)], args := [d1, d2, d3] }
  | _ => none }
def segToldRow : OpenClaim := { program := "ytfmojgdomficlaa", sum := "4d8d20a17d6ec84550dc823723379fe43ccfd8839296ad1722c1d1106d6b0a08", func := "afterword/afterwordlaw26.SegTold", spec := "segTold", unfollowed := true, recurses := true, plainKeys := false, apart := false }
def SegToldSaid : Prop := segToldRow.holds Try.pinned (OpenSpec.ofChange segToldSpec)

/-- ITS FALSE NEIGHBOUR: 'it returns false'. Refute it at one input. -/
def segToldWrong : ChangeSpec := { name := "segTold", fn := fun _ => fun
  | [d1, d2, d3] => { results := [.lit (.bool false)], args := [d1, d2, d3] }
  | _ => none }
def SegToldWrongFalsely : Prop := segToldRow.holds Try.pinned (OpenSpec.ofChange segToldWrong)

/-- 'afterwordlaw26.SegMerged': WHATEVER THE INPUT: true; the input reads as it did. -/
def segMergedSpec : ChangeSpec := { name := "segMerged", fn := fun _ => fun
  | [d1, d2, d3] => { results := [.lit (.bool true)], args := [d1, d2, d3] }
  | _ => none }
def segMergedRow : OpenClaim := { program := "ytfmojgdomficlaa", sum := "4d8d20a17d6ec84550dc823723379fe43ccfd8839296ad1722c1d1106d6b0a08", func := "afterword/afterwordlaw26.SegMerged", spec := "segMerged", unfollowed := true, recurses := true, plainKeys := false, apart := false }
def SegMergedSaid : Prop := segMergedRow.holds Try.pinned (OpenSpec.ofChange segMergedSpec)

/-- ITS FALSE NEIGHBOUR: 'it returns false'. Refute it at one input. -/
def segMergedWrong : ChangeSpec := { name := "segMerged", fn := fun _ => fun
  | [d1, d2, d3] => { results := [.lit (.bool false)], args := [d1, d2, d3] }
  | _ => none }
def SegMergedWrongFalsely : Prop := segMergedRow.holds Try.pinned (OpenSpec.ofChange segMergedWrong)

/-- 'afterwordlaw26.SegOpened': WHATEVER THE INPUT: true; the input reads as it did. -/
def segOpenedSpec : ChangeSpec := { name := "segOpened", fn := fun _ => fun
  | [d] => { results := [.lit (.bool true)], args := [d] }
  | _ => none }
def segOpenedRow : OpenClaim := { program := "ytfmojgdomficlaa", sum := "4d8d20a17d6ec84550dc823723379fe43ccfd8839296ad1722c1d1106d6b0a08", func := "afterword/afterwordlaw26.SegOpened", spec := "segOpened", unfollowed := true, recurses := true, plainKeys := false, apart := false }
def SegOpenedSaid : Prop := segOpenedRow.holds Try.pinned (OpenSpec.ofChange segOpenedSpec)

/-- ITS FALSE NEIGHBOUR: 'it returns false'. Refute it at one input. -/
def segOpenedWrong : ChangeSpec := { name := "segOpened", fn := fun _ => fun
  | [d] => { results := [.lit (.bool false)], args := [d] }
  | _ => none }
def SegOpenedWrongFalsely : Prop := segOpenedRow.holds Try.pinned (OpenSpec.ofChange segOpenedWrong)

/-- 'afterwordlaw26.SegSafe': WHATEVER THE INPUT: true; the input reads as it did. -/
def segSafeSpec : ChangeSpec := { name := "segSafe", fn := fun _ => fun
  | [d] => { results := [.lit (.bool true)], args := [d] }
  | _ => none }
def segSafeRow : OpenClaim := { program := "ytfmojgdomficlaa", sum := "4d8d20a17d6ec84550dc823723379fe43ccfd8839296ad1722c1d1106d6b0a08", func := "afterword/afterwordlaw26.SegSafe", spec := "segSafe", unfollowed := true, recurses := true, plainKeys := false, apart := false }
def SegSafeSaid : Prop := segSafeRow.holds Try.pinned (OpenSpec.ofChange segSafeSpec)

/-- ITS FALSE NEIGHBOUR: 'it returns false'. Refute it at one input. -/
def segSafeWrong : ChangeSpec := { name := "segSafe", fn := fun _ => fun
  | [d] => { results := [.lit (.bool false)], args := [d] }
  | _ => none }
def SegSafeWrongFalsely : Prop := segSafeRow.holds Try.pinned (OpenSpec.ofChange segSafeWrong)

/-- 'afterwordlaw26.SegKnown': WHATEVER THE INPUT: true; the input reads as it did. -/
def segKnownSpec : ChangeSpec := { name := "segKnown", fn := fun _ => fun
  | [] => { results := [.lit (.bool true)], args := [] }
  | _ => none }
def segKnownRow : OpenClaim := { program := "ytfmojgdomficlaa", sum := "4d8d20a17d6ec84550dc823723379fe43ccfd8839296ad1722c1d1106d6b0a08", func := "afterword/afterwordlaw26.SegKnown", spec := "segKnown", unfollowed := true, recurses := true, plainKeys := false, apart := false }
def SegKnownSaid : Prop := segKnownRow.holds Try.pinned (OpenSpec.ofChange segKnownSpec)

/-- ITS FALSE NEIGHBOUR: 'it returns false'. Refute it at one input. -/
def segKnownWrong : ChangeSpec := { name := "segKnown", fn := fun _ => fun
  | [] => { results := [.lit (.bool false)], args := [] }
  | _ => none }
def SegKnownWrongFalsely : Prop := segKnownRow.holds Try.pinned (OpenSpec.ofChange segKnownWrong)

/- THE SECOND FORM. 'bulk': how many values and letters a reading holds, each counted each time it is reached (what is shared counts as often as it is met; a slice's spare places count too). A statement '..UptoSaid' is the law's where the arguments, and the package variables that the reading takes, are together of bulk at most 1048576: NARROWER than '..Said'. Prove '..Said' where nothing that the law and all that it calls make is longer than what came in: it says more and counts as full. Else prove '..UptoSaid'. A law counts once. -/
mutual
def uptoBulk {H : Type} : DataW H → Nat
  | .lit (.string bytes) => bytes.length + 1
  | .lit _ => 1
  | .nil => 1
  | .ptr d => uptoBulk d + 1
  | .slice elems spare => uptoBulkAll elems + uptoBulkAll spare + 1
  | .agg parts => uptoBulkAll parts + 1
  | .iface _ d => uptoBulk d + 1
  | .map entries => uptoBulkEntries entries + 1
  | .held _ => 1
def uptoBulkAll {H : Type} : List (DataW H) → Nat
  | [] => 0
  | d :: r => uptoBulk d + uptoBulkAll r
def uptoBulkEntries {H : Type} : List (Lit × DataW H) → Nat
  | [] => 0
  | x :: r => uptoBulkEntry x + uptoBulkEntries r
def uptoBulkEntry {H : Type} : Lit × DataW H → Nat
  | (.string bytes, d) => bytes.length + uptoBulk d + 1
  | (_, d) => uptoBulk d + 1
 end
def uptoSmall : (H : Type) → List (DataW H) → Bool := fun _ ds => decide (uptoBulkAll ds ≤ 1048576)
def OpenSpec.upto (s : _root_.Go.ChangeSpec) : _root_.Go.OpenSpec := { _root_.Go.OpenSpec.ofChange s with cond := some uptoSmall }

/-- 'afterwordlaw26.SegSum', WHERE WHAT IT READS IS OF BULK AT MOST 1048576: true; the input reads as it did. -/
def segSumUptoRow : OpenClaim := { program := "ytfmojgdomficlaa", sum := "4d8d20a17d6ec84550dc823723379fe43ccfd8839296ad1722c1d1106d6b0a08", func := "afterword/afterwordlaw26.SegSum", spec := "segSum", unfollowed := true, recurses := true, plainKeys := false, apart := false, narrowed := true }
def SegSumUptoSaid : Prop := segSumUptoRow.holds Try.pinned (OpenSpec.upto segSumSpec)

/-- 'afterwordlaw26.SegDisks', WHERE WHAT IT READS IS OF BULK AT MOST 1048576: true; the input reads as it did. -/
def segDisksUptoRow : OpenClaim := { program := "ytfmojgdomficlaa", sum := "4d8d20a17d6ec84550dc823723379fe43ccfd8839296ad1722c1d1106d6b0a08", func := "afterword/afterwordlaw26.SegDisks", spec := "segDisks", unfollowed := true, recurses := true, plainKeys := false, apart := false, narrowed := true }
def SegDisksUptoSaid : Prop := segDisksUptoRow.holds Try.pinned (OpenSpec.upto segDisksSpec)

/-- 'afterwordlaw26.SegPlays', WHERE WHAT IT READS IS OF BULK AT MOST 1048576: true; the input reads as it did. -/
def segPlaysUptoRow : OpenClaim := { program := "ytfmojgdomficlaa", sum := "4d8d20a17d6ec84550dc823723379fe43ccfd8839296ad1722c1d1106d6b0a08", func := "afterword/afterwordlaw26.SegPlays", spec := "segPlays", unfollowed := true, recurses := true, plainKeys := false, apart := false, narrowed := true }
def SegPlaysUptoSaid : Prop := segPlaysUptoRow.holds Try.pinned (OpenSpec.upto segPlaysSpec)

/-- 'afterwordlaw26.SegTold', WHERE WHAT IT READS IS OF BULK AT MOST 1048576: true; the input reads as it did. -/
def segToldUptoRow : OpenClaim := { program := "ytfmojgdomficlaa", sum := "4d8d20a17d6ec84550dc823723379fe43ccfd8839296ad1722c1d1106d6b0a08", func := "afterword/afterwordlaw26.SegTold", spec := "segTold", unfollowed := true, recurses := true, plainKeys := false, apart := false, narrowed := true }
def SegToldUptoSaid : Prop := segToldUptoRow.holds Try.pinned (OpenSpec.upto segToldSpec)

/-- 'afterwordlaw26.SegMerged', WHERE WHAT IT READS IS OF BULK AT MOST 1048576: true; the input reads as it did. -/
def segMergedUptoRow : OpenClaim := { program := "ytfmojgdomficlaa", sum := "4d8d20a17d6ec84550dc823723379fe43ccfd8839296ad1722c1d1106d6b0a08", func := "afterword/afterwordlaw26.SegMerged", spec := "segMerged", unfollowed := true, recurses := true, plainKeys := false, apart := false, narrowed := true }
def SegMergedUptoSaid : Prop := segMergedUptoRow.holds Try.pinned (OpenSpec.upto segMergedSpec)

/-- 'afterwordlaw26.SegOpened', WHERE WHAT IT READS IS OF BULK AT MOST 1048576: true; the input reads as it did. -/
def segOpenedUptoRow : OpenClaim := { program := "ytfmojgdomficlaa", sum := "4d8d20a17d6ec84550dc823723379fe43ccfd8839296ad1722c1d1106d6b0a08", func := "afterword/afterwordlaw26.SegOpened", spec := "segOpened", unfollowed := true, recurses := true, plainKeys := false, apart := false, narrowed := true }
def SegOpenedUptoSaid : Prop := segOpenedUptoRow.holds Try.pinned (OpenSpec.upto segOpenedSpec)

/-- 'afterwordlaw26.SegSafe', WHERE WHAT IT READS IS OF BULK AT MOST 1048576: true; the input reads as it did. -/
def segSafeUptoRow : OpenClaim := { program := "ytfmojgdomficlaa", sum := "4d8d20a17d6ec84550dc823723379fe43ccfd8839296ad1722c1d1106d6b0a08", func := "afterword/afterwordlaw26.SegSafe", spec := "segSafe", unfollowed := true, recurses := true, plainKeys := false, apart := false, narrowed := true }
def SegSafeUptoSaid : Prop := segSafeUptoRow.holds Try.pinned (OpenSpec.upto segSafeSpec)

/-- 'afterwordlaw26.SegKnown', WHERE WHAT IT READS IS OF BULK AT MOST 1048576: true; the input reads as it did. -/
def segKnownUptoRow : OpenClaim := { program := "ytfmojgdomficlaa", sum := "4d8d20a17d6ec84550dc823723379fe43ccfd8839296ad1722c1d1106d6b0a08", func := "afterword/afterwordlaw26.SegKnown", spec := "segKnown", unfollowed := true, recurses := true, plainKeys := false, apart := false, narrowed := true }
def SegKnownUptoSaid : Prop := segKnownUptoRow.holds Try.pinned (OpenSpec.upto segKnownSpec)

end Rows
end Go.Proofs.Ytfmojgdomficlaa
