/-
  No cell of these rows narrows 'for every input' (looked for: loops, veiled, ifaces, maps, wideKeys, modest, calm, conditions, laid).
  DERIVED. THE GIVEN ROWS OF THIS SEAT. 11 by the template 'for every input the law returns true; each argument reads behind the call as it read before'; 0 by the template 'total and deterministic' (their statements: YtemkloildadokaaTotals.lean).
  GIVEN WITH THE SEED: the statements are not yours to turn. If you find one false, say at which input.
  Laid BY PROGRAM, IN A SANDBOX (cutbox-rows.mjs): the forced cells as the released guide's own fill.sh prints them over the translation 78b1dea329c36c8a… (all of the seat's roots in one cut). By AI agents, Wed Nov 11 2026. No macro, syntax, notation, axiom, sorry.
-/
import Derived.Test.YtemkloildadokaaChecked
import GoSem.Claim
import GoSem.ClaimJoined
import GoSem.ClaimMapViews
import Derived.JoinedTies
import Derived.KernelRfl
namespace Go.Proofs.Ytemkloildadokaa
/- THE CELL 'sum', in the pinned program and in every row, IS THE sha256 OF THE DUMP (.gsa) THAT YtemkloildadokaaProg.lean LOADS. Nothing in Lean hashes anything: it is a label: what it is worth is what the hold of that sum in a sandbox is worth. -/
noncomputable def Try.pinned : Pinned := { name := "ytemkloildadokaa", sum := "78b1dea329c36c8a2321ab8d46feee8dd7634e6e354e1a9ce1cbe425695dcf98", checked := Try.checked }
namespace Rows
def none {H : Type} : Left H := { results := [], args := [] }

/-- 'afterwordlaw15.PiqueTakes': WHATEVER THE INPUT: true; the input reads as it did. -/
def piqueTakesSpec : ChangeSpec := { name := "piqueTakes", fn := fun _ => fun
  | [d] => { results := [.lit (.bool true)], args := [d] }
  | _ => none }
def piqueTakesRow : OpenClaim := { program := "ytemkloildadokaa", sum := "78b1dea329c36c8a2321ab8d46feee8dd7634e6e354e1a9ce1cbe425695dcf98", func := "afterword/afterwordlaw15.PiqueTakes", spec := "piqueTakes", inPlace := ["slices.overlaps[afterword/api.PiqueStep]"], unfollowed := true, recurses := true, plainKeys := false, apart := false }
def PiqueTakesSaid : Prop := piqueTakesRow.holds Try.pinned (OpenSpec.ofChange piqueTakesSpec)

/-- ITS FALSE NEIGHBOUR: 'it returns false'. Refute it at one input. -/
def piqueTakesWrong : ChangeSpec := { name := "piqueTakes", fn := fun _ => fun
  | [d] => { results := [.lit (.bool false)], args := [d] }
  | _ => none }
def PiqueTakesWrongFalsely : Prop := piqueTakesRow.holds Try.pinned (OpenSpec.ofChange piqueTakesWrong)

/-- 'afterwordlaw15.PiqueInserts': WHATEVER THE INPUT: true; the input reads as it did. -/
def piqueInsertsSpec : ChangeSpec := { name := "piqueInserts", fn := fun _ => fun
  | [d1, d2] => { results := [.lit (.bool true)], args := [d1, d2] }
  | _ => none }
def piqueInsertsRow : OpenClaim := { program := "ytemkloildadokaa", sum := "78b1dea329c36c8a2321ab8d46feee8dd7634e6e354e1a9ce1cbe425695dcf98", func := "afterword/afterwordlaw15.PiqueInserts", spec := "piqueInserts", inPlace := ["slices.overlaps[afterword/api.PiqueStep]"], unfollowed := true, recurses := true, plainKeys := false, apart := false }
def PiqueInsertsSaid : Prop := piqueInsertsRow.holds Try.pinned (OpenSpec.ofChange piqueInsertsSpec)

/-- ITS FALSE NEIGHBOUR: 'it returns false'. Refute it at one input. -/
def piqueInsertsWrong : ChangeSpec := { name := "piqueInserts", fn := fun _ => fun
  | [d1, d2] => { results := [.lit (.bool false)], args := [d1, d2] }
  | _ => none }
def PiqueInsertsWrongFalsely : Prop := piqueInsertsRow.holds Try.pinned (OpenSpec.ofChange piqueInsertsWrong)

/-- 'afterwordlaw15.PiqueDeletes': WHATEVER THE INPUT: true; the input reads as it did. -/
def piqueDeletesSpec : ChangeSpec := { name := "piqueDeletes", fn := fun _ => fun
  | [d1, d2] => { results := [.lit (.bool true)], args := [d1, d2] }
  | _ => none }
def piqueDeletesRow : OpenClaim := { program := "ytemkloildadokaa", sum := "78b1dea329c36c8a2321ab8d46feee8dd7634e6e354e1a9ce1cbe425695dcf98", func := "afterword/afterwordlaw15.PiqueDeletes", spec := "piqueDeletes", inPlace := ["slices.overlaps[afterword/api.PiqueStep]"], unfollowed := true, recurses := true, plainKeys := false, apart := false }
def PiqueDeletesSaid : Prop := piqueDeletesRow.holds Try.pinned (OpenSpec.ofChange piqueDeletesSpec)

/-- ITS FALSE NEIGHBOUR: 'it returns false'. Refute it at one input. -/
def piqueDeletesWrong : ChangeSpec := { name := "piqueDeletes", fn := fun _ => fun
  | [d1, d2] => { results := [.lit (.bool false)], args := [d1, d2] }
  | _ => none }
def PiqueDeletesWrongFalsely : Prop := piqueDeletesRow.holds Try.pinned (OpenSpec.ofChange piqueDeletesWrong)

/-- 'afterwordlaw15.PiqueMends': WHATEVER THE INPUT: true; the input reads as it did. -/
def piqueMendsSpec : ChangeSpec := { name := "piqueMends", fn := fun _ => fun
  | [d] => { results := [.lit (.bool true)], args := [d] }
  | _ => none }
def piqueMendsRow : OpenClaim := { program := "ytemkloildadokaa", sum := "78b1dea329c36c8a2321ab8d46feee8dd7634e6e354e1a9ce1cbe425695dcf98", func := "afterword/afterwordlaw15.PiqueMends", spec := "piqueMends", inPlace := ["slices.overlaps[afterword/api.PiqueStep]"], unfollowed := true, recurses := true, plainKeys := false, apart := false }
def PiqueMendsSaid : Prop := piqueMendsRow.holds Try.pinned (OpenSpec.ofChange piqueMendsSpec)

/-- ITS FALSE NEIGHBOUR: 'it returns false'. Refute it at one input. -/
def piqueMendsWrong : ChangeSpec := { name := "piqueMends", fn := fun _ => fun
  | [d] => { results := [.lit (.bool false)], args := [d] }
  | _ => none }
def PiqueMendsWrongFalsely : Prop := piqueMendsRow.holds Try.pinned (OpenSpec.ofChange piqueMendsWrong)

/-- 'afterwordlaw15.PiqueAts': WHATEVER THE INPUT: true; the input reads as it did. -/
def piqueAtsSpec : ChangeSpec := { name := "piqueAts", fn := fun _ => fun
  | [d1, d2] => { results := [.lit (.bool true)], args := [d1, d2] }
  | _ => none }
def piqueAtsRow : OpenClaim := { program := "ytemkloildadokaa", sum := "78b1dea329c36c8a2321ab8d46feee8dd7634e6e354e1a9ce1cbe425695dcf98", func := "afterword/afterwordlaw15.PiqueAts", spec := "piqueAts", inPlace := ["slices.overlaps[afterword/api.PiqueStep]"], unfollowed := true, recurses := true, plainKeys := false, apart := false }
def PiqueAtsSaid : Prop := piqueAtsRow.holds Try.pinned (OpenSpec.ofChange piqueAtsSpec)

/-- ITS FALSE NEIGHBOUR: 'it returns false'. Refute it at one input. -/
def piqueAtsWrong : ChangeSpec := { name := "piqueAts", fn := fun _ => fun
  | [d1, d2] => { results := [.lit (.bool false)], args := [d1, d2] }
  | _ => none }
def PiqueAtsWrongFalsely : Prop := piqueAtsRow.holds Try.pinned (OpenSpec.ofChange piqueAtsWrong)

/-- 'afterwordlaw15.PiqueMended': WHATEVER THE INPUT: true; the input reads as it did. -/
def piqueMendedSpec : ChangeSpec := { name := "piqueMended", fn := fun _ => fun
  | [d1, d2] => { results := [.lit (.bool true)], args := [d1, d2] }
  | _ => none }
def piqueMendedRow : OpenClaim := { program := "ytemkloildadokaa", sum := "78b1dea329c36c8a2321ab8d46feee8dd7634e6e354e1a9ce1cbe425695dcf98", func := "afterword/afterwordlaw15.PiqueMended", spec := "piqueMended", inPlace := ["slices.overlaps[afterword/api.PiqueStep]"], unfollowed := true, recurses := true, plainKeys := false, apart := false }
def PiqueMendedSaid : Prop := piqueMendedRow.holds Try.pinned (OpenSpec.ofChange piqueMendedSpec)

/-- ITS FALSE NEIGHBOUR: 'it returns false'. Refute it at one input. -/
def piqueMendedWrong : ChangeSpec := { name := "piqueMended", fn := fun _ => fun
  | [d1, d2] => { results := [.lit (.bool false)], args := [d1, d2] }
  | _ => none }
def PiqueMendedWrongFalsely : Prop := piqueMendedRow.holds Try.pinned (OpenSpec.ofChange piqueMendedWrong)

/-- 'afterwordlaw15.PiqueOrder': WHATEVER THE INPUT: true; the input reads as it did. -/
def piqueOrderSpec : ChangeSpec := { name := "piqueOrder", fn := fun _ => fun
  | [d1, d2] => { results := [.lit (.bool true)], args := [d1, d2] }
  | _ => none }
def piqueOrderRow : OpenClaim := { program := "ytemkloildadokaa", sum := "78b1dea329c36c8a2321ab8d46feee8dd7634e6e354e1a9ce1cbe425695dcf98", func := "afterword/afterwordlaw15.PiqueOrder", spec := "piqueOrder", inPlace := ["slices.overlaps[afterword/api.PiqueStep]"], unfollowed := true, recurses := true, plainKeys := false, apart := false }
def PiqueOrderSaid : Prop := piqueOrderRow.holds Try.pinned (OpenSpec.ofChange piqueOrderSpec)

/-- ITS FALSE NEIGHBOUR: 'it returns false'. Refute it at one input. -/
def piqueOrderWrong : ChangeSpec := { name := "piqueOrder", fn := fun _ => fun
  | [d1, d2] => { results := [.lit (.bool false)], args := [d1, d2] }
  | _ => none }
def PiqueOrderWrongFalsely : Prop := piqueOrderRow.holds Try.pinned (OpenSpec.ofChange piqueOrderWrong)

/-- 'afterwordlaw15.PiqueKnown': WHATEVER THE INPUT: true; the input reads as it did. -/
def piqueKnownSpec : ChangeSpec := { name := "piqueKnown", fn := fun _ => fun
  | [] => { results := [.lit (.bool true)], args := [] }
  | _ => none }
def piqueKnownRow : OpenClaim := { program := "ytemkloildadokaa", sum := "78b1dea329c36c8a2321ab8d46feee8dd7634e6e354e1a9ce1cbe425695dcf98", func := "afterword/afterwordlaw15.PiqueKnown", spec := "piqueKnown", inPlace := ["slices.overlaps[afterword/api.PiqueStep]"], unfollowed := true, recurses := true, plainKeys := false, apart := false }
def PiqueKnownSaid : Prop := piqueKnownRow.holds Try.pinned (OpenSpec.ofChange piqueKnownSpec)

/-- ITS FALSE NEIGHBOUR: 'it returns false'. Refute it at one input. -/
def piqueKnownWrong : ChangeSpec := { name := "piqueKnown", fn := fun _ => fun
  | [] => { results := [.lit (.bool false)], args := [] }
  | _ => none }
def PiqueKnownWrongFalsely : Prop := piqueKnownRow.holds Try.pinned (OpenSpec.ofChange piqueKnownWrong)

/-- 'afterwordlaw15.PiqueOne': WHATEVER THE INPUT: true; the input reads as it did. -/
def piqueOneSpec : ChangeSpec := { name := "piqueOne", fn := fun _ => fun
  | [d1, d2, d3] => { results := [.lit (.bool true)], args := [d1, d2, d3] }
  | _ => none }
def piqueOneRow : OpenClaim := { program := "ytemkloildadokaa", sum := "78b1dea329c36c8a2321ab8d46feee8dd7634e6e354e1a9ce1cbe425695dcf98", func := "afterword/afterwordlaw15.PiqueOne", spec := "piqueOne", inPlace := ["slices.overlaps[afterword/api.PiqueStep]"], unfollowed := true, recurses := true, plainKeys := false, apart := false }
def PiqueOneSaid : Prop := piqueOneRow.holds Try.pinned (OpenSpec.ofChange piqueOneSpec)

/-- ITS FALSE NEIGHBOUR: 'it returns false'. Refute it at one input. -/
def piqueOneWrong : ChangeSpec := { name := "piqueOne", fn := fun _ => fun
  | [d1, d2, d3] => { results := [.lit (.bool false)], args := [d1, d2, d3] }
  | _ => none }
def PiqueOneWrongFalsely : Prop := piqueOneRow.holds Try.pinned (OpenSpec.ofChange piqueOneWrong)

/-- 'afterwordlaw15.PiqueTaken': WHATEVER THE INPUT: true; the input reads as it did. -/
def piqueTakenSpec : ChangeSpec := { name := "piqueTaken", fn := fun _ => fun
  | [d] => { results := [.lit (.bool true)], args := [d] }
  | _ => none }
def piqueTakenRow : OpenClaim := { program := "ytemkloildadokaa", sum := "78b1dea329c36c8a2321ab8d46feee8dd7634e6e354e1a9ce1cbe425695dcf98", func := "afterword/afterwordlaw15.PiqueTaken", spec := "piqueTaken", inPlace := ["slices.overlaps[afterword/api.PiqueStep]"], unfollowed := true, recurses := true, plainKeys := false, apart := false }
def PiqueTakenSaid : Prop := piqueTakenRow.holds Try.pinned (OpenSpec.ofChange piqueTakenSpec)

/-- ITS FALSE NEIGHBOUR: 'it returns false'. Refute it at one input. -/
def piqueTakenWrong : ChangeSpec := { name := "piqueTaken", fn := fun _ => fun
  | [d] => { results := [.lit (.bool false)], args := [d] }
  | _ => none }
def PiqueTakenWrongFalsely : Prop := piqueTakenRow.holds Try.pinned (OpenSpec.ofChange piqueTakenWrong)

/-- 'afterwordlaw15.PiqueBridged': WHATEVER THE INPUT: true; the input reads as it did. -/
def piqueBridgedSpec : ChangeSpec := { name := "piqueBridged", fn := fun _ => fun
  | [d1, d2] => { results := [.lit (.bool true)], args := [d1, d2] }
  | _ => none }
def piqueBridgedRow : OpenClaim := { program := "ytemkloildadokaa", sum := "78b1dea329c36c8a2321ab8d46feee8dd7634e6e354e1a9ce1cbe425695dcf98", func := "afterword/afterwordlaw15.PiqueBridged", spec := "piqueBridged", inPlace := ["slices.overlaps[afterword/api.PiqueStep]"], unfollowed := true, recurses := true, plainKeys := false, apart := false }
def PiqueBridgedSaid : Prop := piqueBridgedRow.holds Try.pinned (OpenSpec.ofChange piqueBridgedSpec)

/-- ITS FALSE NEIGHBOUR: 'it returns false'. Refute it at one input. -/
def piqueBridgedWrong : ChangeSpec := { name := "piqueBridged", fn := fun _ => fun
  | [d1, d2] => { results := [.lit (.bool false)], args := [d1, d2] }
  | _ => none }
def PiqueBridgedWrongFalsely : Prop := piqueBridgedRow.holds Try.pinned (OpenSpec.ofChange piqueBridgedWrong)

/- THE SECOND FORM. 'bulk': how many values and letters a reading holds, each counted each time it is reached (what is shared counts as often as it is met; a slice's spare places count too). A statement '..UptoSaid' is the law's where the arguments, and the package variables that the reading takes, are together of bulk at most 1048576: NARROWER than '..Said'. Prove '..Said' where nothing that the law and all that it calls make is longer than what came in: it says more and counts as full. Else prove '..UptoSaid'. A law counts once. -/
mutual
def uptoBulk {H : Type} : DataW H → Nat
  | .lit (.string bytes) => bytes.length + 1
  | .lit _ => 1
  | .nil => 1
  | .ptr d => uptoBulk d + 1
  | .slice elems spare => uptoBulkAll elems + uptoBulkAll spare + 1
  | .agg parts => uptoBulkAll parts + 1
  | .iface _ d => uptoBulk d + 1
  | .map entries => uptoBulkEntries entries + 1
  | .held _ => 1
def uptoBulkAll {H : Type} : List (DataW H) → Nat
  | [] => 0
  | d :: r => uptoBulk d + uptoBulkAll r
def uptoBulkEntries {H : Type} : List (Lit × DataW H) → Nat
  | [] => 0
  | x :: r => uptoBulkEntry x + uptoBulkEntries r
def uptoBulkEntry {H : Type} : Lit × DataW H → Nat
  | (.string bytes, d) => bytes.length + uptoBulk d + 1
  | (_, d) => uptoBulk d + 1
 end
def uptoSmall : (H : Type) → List (DataW H) → Bool := fun _ ds => decide (uptoBulkAll ds ≤ 1048576)
def OpenSpec.upto (s : _root_.Go.ChangeSpec) : _root_.Go.OpenSpec := { _root_.Go.OpenSpec.ofChange s with cond := some uptoSmall }

/-- 'afterwordlaw15.PiqueTakes', WHERE WHAT IT READS IS OF BULK AT MOST 1048576: true; the input reads as it did. -/
def piqueTakesUptoRow : OpenClaim := { program := "ytemkloildadokaa", sum := "78b1dea329c36c8a2321ab8d46feee8dd7634e6e354e1a9ce1cbe425695dcf98", func := "afterword/afterwordlaw15.PiqueTakes", spec := "piqueTakes", inPlace := ["slices.overlaps[afterword/api.PiqueStep]"], unfollowed := true, recurses := true, plainKeys := false, apart := false, narrowed := true }
def PiqueTakesUptoSaid : Prop := piqueTakesUptoRow.holds Try.pinned (OpenSpec.upto piqueTakesSpec)

/-- 'afterwordlaw15.PiqueInserts', WHERE WHAT IT READS IS OF BULK AT MOST 1048576: true; the input reads as it did. -/
def piqueInsertsUptoRow : OpenClaim := { program := "ytemkloildadokaa", sum := "78b1dea329c36c8a2321ab8d46feee8dd7634e6e354e1a9ce1cbe425695dcf98", func := "afterword/afterwordlaw15.PiqueInserts", spec := "piqueInserts", inPlace := ["slices.overlaps[afterword/api.PiqueStep]"], unfollowed := true, recurses := true, plainKeys := false, apart := false, narrowed := true }
def PiqueInsertsUptoSaid : Prop := piqueInsertsUptoRow.holds Try.pinned (OpenSpec.upto piqueInsertsSpec)

/-- 'afterwordlaw15.PiqueDeletes', WHERE WHAT IT READS IS OF BULK AT MOST 1048576: true; the input reads as it did. -/
def piqueDeletesUptoRow : OpenClaim := { program := "ytemkloildadokaa", sum := "78b1dea329c36c8a2321ab8d46feee8dd7634e6e354e1a9ce1cbe425695dcf98", func := "afterword/afterwordlaw15.PiqueDeletes", spec := "piqueDeletes", inPlace := ["slices.overlaps[afterword/api.PiqueStep]"], unfollowed := true, recurses := true, plainKeys := false, apart := false, narrowed := true }
def PiqueDeletesUptoSaid : Prop := piqueDeletesUptoRow.holds Try.pinned (OpenSpec.upto piqueDeletesSpec)

/-- 'afterwordlaw15.PiqueMends', WHERE WHAT IT READS IS OF BULK AT MOST 1048576: true; the input reads as it did. -/
def piqueMendsUptoRow : OpenClaim := { program := "ytemkloildadokaa", sum := "78b1dea329c36c8a2321ab8d46feee8dd7634e6e354e1a9ce1cbe425695dcf98", func := "afterword/afterwordlaw15.PiqueMends", spec := "piqueMends", inPlace := ["slices.overlaps[afterword/api.PiqueStep]"], unfollowed := true, recurses := true, plainKeys := false, apart := false, narrowed := true }
def PiqueMendsUptoSaid : Prop := piqueMendsUptoRow.holds Try.pinned (OpenSpec.upto piqueMendsSpec)

/-- 'afterwordlaw15.PiqueAts', WHERE WHAT IT READS IS OF BULK AT MOST 1048576: true; the input reads as it did. -/
def piqueAtsUptoRow : OpenClaim := { program := "ytemkloildadokaa", sum := "78b1dea329c36c8a2321ab8d46feee8dd7634e6e354e1a9ce1cbe425695dcf98", func := "afterword/afterwordlaw15.PiqueAts", spec := "piqueAts", inPlace := ["slices.overlaps[afterword/api.PiqueStep]"], unfollowed := true, recurses := true, plainKeys := false, apart := false, narrowed := true }
def PiqueAtsUptoSaid : Prop := piqueAtsUptoRow.holds Try.pinned (OpenSpec.upto piqueAtsSpec)

/-- 'afterwordlaw15.PiqueMended', WHERE WHAT IT READS IS OF BULK AT MOST 1048576: true; the input reads as it did. -/
def piqueMendedUptoRow : OpenClaim := { program := "ytemkloildadokaa", sum := "78b1dea329c36c8a2321ab8d46feee8dd7634e6e354e1a9ce1cbe425695dcf98", func := "afterword/afterwordlaw15.PiqueMended", spec := "piqueMended", inPlace := ["slices.overlaps[afterword/api.PiqueStep]"], unfollowed := true, recurses := true, plainKeys := false, apart := false, narrowed := true }
def PiqueMendedUptoSaid : Prop := piqueMendedUptoRow.holds Try.pinned (OpenSpec.upto piqueMendedSpec)

/-- 'afterwordlaw15.PiqueOrder', WHERE WHAT IT READS IS OF BULK AT MOST 1048576: true; the input reads as it did. -/
def piqueOrderUptoRow : OpenClaim := { program := "ytemkloildadokaa", sum := "78b1dea329c36c8a2321ab8d46feee8dd7634e6e354e1a9ce1cbe425695dcf98", func := "afterword/afterwordlaw15.PiqueOrder", spec := "piqueOrder", inPlace := ["slices.overlaps[afterword/api.PiqueStep]"], unfollowed := true, recurses := true, plainKeys := false, apart := false, narrowed := true }
def PiqueOrderUptoSaid : Prop := piqueOrderUptoRow.holds Try.pinned (OpenSpec.upto piqueOrderSpec)

/-- 'afterwordlaw15.PiqueKnown', WHERE WHAT IT READS IS OF BULK AT MOST 1048576: true; the input reads as it did. -/
def piqueKnownUptoRow : OpenClaim := { program := "ytemkloildadokaa", sum := "78b1dea329c36c8a2321ab8d46feee8dd7634e6e354e1a9ce1cbe425695dcf98", func := "afterword/afterwordlaw15.PiqueKnown", spec := "piqueKnown", inPlace := ["slices.overlaps[afterword/api.PiqueStep]"], unfollowed := true, recurses := true, plainKeys := false, apart := false, narrowed := true }
def PiqueKnownUptoSaid : Prop := piqueKnownUptoRow.holds Try.pinned (OpenSpec.upto piqueKnownSpec)

/-- 'afterwordlaw15.PiqueOne', WHERE WHAT IT READS IS OF BULK AT MOST 1048576: true; the input reads as it did. -/
def piqueOneUptoRow : OpenClaim := { program := "ytemkloildadokaa", sum := "78b1dea329c36c8a2321ab8d46feee8dd7634e6e354e1a9ce1cbe425695dcf98", func := "afterword/afterwordlaw15.PiqueOne", spec := "piqueOne", inPlace := ["slices.overlaps[afterword/api.PiqueStep]"], unfollowed := true, recurses := true, plainKeys := false, apart := false, narrowed := true }
def PiqueOneUptoSaid : Prop := piqueOneUptoRow.holds Try.pinned (OpenSpec.upto piqueOneSpec)

/-- 'afterwordlaw15.PiqueTaken', WHERE WHAT IT READS IS OF BULK AT MOST 1048576: true; the input reads as it did. -/
def piqueTakenUptoRow : OpenClaim := { program := "ytemkloildadokaa", sum := "78b1dea329c36c8a2321ab8d46feee8dd7634e6e354e1a9ce1cbe425695dcf98", func := "afterword/afterwordlaw15.PiqueTaken", spec := "piqueTaken", inPlace := ["slices.overlaps[afterword/api.PiqueStep]"], unfollowed := true, recurses := true, plainKeys := false, apart := false, narrowed := true }
def PiqueTakenUptoSaid : Prop := piqueTakenUptoRow.holds Try.pinned (OpenSpec.upto piqueTakenSpec)

/-- 'afterwordlaw15.PiqueBridged', WHERE WHAT IT READS IS OF BULK AT MOST 1048576: true; the input reads as it did. -/
def piqueBridgedUptoRow : OpenClaim := { program := "ytemkloildadokaa", sum := "78b1dea329c36c8a2321ab8d46feee8dd7634e6e354e1a9ce1cbe425695dcf98", func := "afterword/afterwordlaw15.PiqueBridged", spec := "piqueBridged", inPlace := ["slices.overlaps[afterword/api.PiqueStep]"], unfollowed := true, recurses := true, plainKeys := false, apart := false, narrowed := true }
def PiqueBridgedUptoSaid : Prop := piqueBridgedUptoRow.holds Try.pinned (OpenSpec.upto piqueBridgedSpec)

end Rows
end Go.Proofs.Ytemkloildadokaa
