/-
  No cell of these rows narrows 'for every input' (looked for: loops, veiled, ifaces, maps, wideKeys, modest, calm, conditions, laid).
  DERIVED. THE GIVEN ROWS OF THIS SEAT. 9 by the template 'for every input the law returns true; each argument reads behind the call as it read before'; 0 by the template 'total and deterministic' (their statements: YtdpkpibcjbllcaaTotals.lean).
  GIVEN WITH THE SEED: the statements are not yours to turn. If you find one false, say at which input.
  Laid BY PROGRAM, IN A SANDBOX (cutbox-rows.mjs): the forced cells as the released guide's own fill.sh prints them over the translation 3f86e1711b209c37… (all of the seat's roots in one cut). By AI agents, Wed Nov 11 2026. No macro, syntax, notation, axiom, sorry.
-/
import Derived.Test.YtdpkpibcjbllcaaChecked
import GoSem.Claim
import GoSem.ClaimJoined
import GoSem.ClaimMapViews
import Derived.JoinedTies
import Derived.KernelRfl
namespace Go.Proofs.Ytdpkpibcjbllcaa
/- THE CELL 'sum', in the pinned program and in every row, IS THE sha256 OF THE DUMP (.gsa) THAT YtdpkpibcjbllcaaProg.lean LOADS. Nothing in Lean hashes anything: it is a label: what it is worth is what the hold of that sum in a sandbox is worth. -/
noncomputable def Try.pinned : Pinned := { name := "ytdpkpibcjbllcaa", sum := "3f86e1711b209c37eaf115ec52a820a57ca870f656b2ad70fd1ae684fa53fd27", checked := Try.checked }
namespace Rows
def none {H : Type} : Left H := { results := [], args := [] }

/-- 'afterwordlaw05.HistStands': WHATEVER THE INPUT: true; the input reads as it did. -/
def histStandsSpec : ChangeSpec := { name := "histStands", fn := fun _ => fun
  | [d1, d2] => { results := [.lit (.bool true)], args := [d1, d2] }
  | _ => none }
def histStandsRow : OpenClaim := { program := "ytdpkpibcjbllcaa", sum := "3f86e1711b209c37eaf115ec52a820a57ca870f656b2ad70fd1ae684fa53fd27", func := "afterword/afterwordlaw05.HistStands", spec := "histStands", unfollowed := true, recurses := true, plainKeys := false, apart := false }
def HistStandsSaid : Prop := histStandsRow.holds Try.pinned (OpenSpec.ofChange histStandsSpec)

/-- ITS FALSE NEIGHBOUR: 'it returns false'. Refute it at one input. -/
def histStandsWrong : ChangeSpec := { name := "histStands", fn := fun _ => fun
  | [d1, d2] => { results := [.lit (.bool false)], args := [d1, d2] }
  | _ => none }
def HistStandsWrongFalsely : Prop := histStandsRow.holds Try.pinned (OpenSpec.ofChange histStandsWrong)

/-- 'afterwordlaw05.HistSteps': WHATEVER THE INPUT: true; the input reads as it did. -/
def histStepsSpec : ChangeSpec := { name := "histSteps", fn := fun _ => fun
  | [d1, d2, d3] => { results := [.lit (.bool true)], args := [d1, d2, d3] }
  | _ => none }
def histStepsRow : OpenClaim := { program := "ytdpkpibcjbllcaa", sum := "3f86e1711b209c37eaf115ec52a820a57ca870f656b2ad70fd1ae684fa53fd27", func := "afterword/afterwordlaw05.HistSteps", spec := "histSteps", unfollowed := true, recurses := true, plainKeys := false, apart := false }
def HistStepsSaid : Prop := histStepsRow.holds Try.pinned (OpenSpec.ofChange histStepsSpec)

/-- ITS FALSE NEIGHBOUR: 'it returns false'. Refute it at one input. -/
def histStepsWrong : ChangeSpec := { name := "histSteps", fn := fun _ => fun
  | [d1, d2, d3] => { results := [.lit (.bool false)], args := [d1, d2, d3] }
  | _ => none }
def HistStepsWrongFalsely : Prop := histStepsRow.holds Try.pinned (OpenSpec.ofChange histStepsWrong)

/-- 'afterwordlaw05.HistLeasts': WHATEVER THE INPUT: true; the input reads as it did. -/
def histLeastsSpec : ChangeSpec := { name := "histLeasts", fn := fun _ => fun
  | [d1, d2] => { results := [.lit (.bool true)], args := [d1, d2] }
  | _ => none }
def histLeastsRow : OpenClaim := { program := "ytdpkpibcjbllcaa", sum := "3f86e1711b209c37eaf115ec52a820a57ca870f656b2ad70fd1ae684fa53fd27", func := "afterword/afterwordlaw05.HistLeasts", spec := "histLeasts", unfollowed := true, recurses := true, plainKeys := false, apart := false }
def HistLeastsSaid : Prop := histLeastsRow.holds Try.pinned (OpenSpec.ofChange histLeastsSpec)

/-- ITS FALSE NEIGHBOUR: 'it returns false'. Refute it at one input. -/
def histLeastsWrong : ChangeSpec := { name := "histLeasts", fn := fun _ => fun
  | [d1, d2] => { results := [.lit (.bool false)], args := [d1, d2] }
  | _ => none }
def HistLeastsWrongFalsely : Prop := histLeastsRow.holds Try.pinned (OpenSpec.ofChange histLeastsWrong)

/-- 'afterwordlaw05.HistKeeps': WHATEVER THE INPUT: true; the input reads as it did. -/
def histKeepsSpec : ChangeSpec := { name := "histKeeps", fn := fun _ => fun
  | [d1, d2] => { results := [.lit (.bool true)], args := [d1, d2] }
  | _ => none }
def histKeepsRow : OpenClaim := { program := "ytdpkpibcjbllcaa", sum := "3f86e1711b209c37eaf115ec52a820a57ca870f656b2ad70fd1ae684fa53fd27", func := "afterword/afterwordlaw05.HistKeeps", spec := "histKeeps", unfollowed := true, recurses := true, plainKeys := false, apart := false }
def HistKeepsSaid : Prop := histKeepsRow.holds Try.pinned (OpenSpec.ofChange histKeepsSpec)

/-- ITS FALSE NEIGHBOUR: 'it returns false'. Refute it at one input. -/
def histKeepsWrong : ChangeSpec := { name := "histKeeps", fn := fun _ => fun
  | [d1, d2] => { results := [.lit (.bool false)], args := [d1, d2] }
  | _ => none }
def HistKeepsWrongFalsely : Prop := histKeepsRow.holds Try.pinned (OpenSpec.ofChange histKeepsWrong)

/-- 'afterwordlaw05.HistGrows': WHATEVER THE INPUT: true; the input reads as it did. -/
def histGrowsSpec : ChangeSpec := { name := "histGrows", fn := fun _ => fun
  | [d1, d2] => { results := [.lit (.bool true)], args := [d1, d2] }
  | _ => none }
def histGrowsRow : OpenClaim := { program := "ytdpkpibcjbllcaa", sum := "3f86e1711b209c37eaf115ec52a820a57ca870f656b2ad70fd1ae684fa53fd27", func := "afterword/afterwordlaw05.HistGrows", spec := "histGrows", unfollowed := true, recurses := true, plainKeys := false, apart := false }
def HistGrowsSaid : Prop := histGrowsRow.holds Try.pinned (OpenSpec.ofChange histGrowsSpec)

/-- ITS FALSE NEIGHBOUR: 'it returns false'. Refute it at one input. -/
def histGrowsWrong : ChangeSpec := { name := "histGrows", fn := fun _ => fun
  | [d1, d2] => { results := [.lit (.bool false)], args := [d1, d2] }
  | _ => none }
def HistGrowsWrongFalsely : Prop := histGrowsRow.holds Try.pinned (OpenSpec.ofChange histGrowsWrong)

/-- 'afterwordlaw05.HistChecks': WHATEVER THE INPUT: true; the input reads as it did. -/
def histChecksSpec : ChangeSpec := { name := "histChecks", fn := fun _ => fun
  | [d1, d2] => { results := [.lit (.bool true)], args := [d1, d2] }
  | _ => none }
def histChecksRow : OpenClaim := { program := "ytdpkpibcjbllcaa", sum := "3f86e1711b209c37eaf115ec52a820a57ca870f656b2ad70fd1ae684fa53fd27", func := "afterword/afterwordlaw05.HistChecks", spec := "histChecks", unfollowed := true, recurses := true, plainKeys := false, apart := false }
def HistChecksSaid : Prop := histChecksRow.holds Try.pinned (OpenSpec.ofChange histChecksSpec)

/-- ITS FALSE NEIGHBOUR: 'it returns false'. Refute it at one input. -/
def histChecksWrong : ChangeSpec := { name := "histChecks", fn := fun _ => fun
  | [d1, d2] => { results := [.lit (.bool false)], args := [d1, d2] }
  | _ => none }
def HistChecksWrongFalsely : Prop := histChecksRow.holds Try.pinned (OpenSpec.ofChange histChecksWrong)

/-- 'afterwordlaw05.HistAny': WHATEVER THE INPUT: true; the input reads as it did. -/
def histAnySpec : ChangeSpec := { name := "histAny", fn := fun _ => fun
  | [d1, d2, d3] => { results := [.lit (.bool true)], args := [d1, d2, d3] }
  | _ => none }
def histAnyRow : OpenClaim := { program := "ytdpkpibcjbllcaa", sum := "3f86e1711b209c37eaf115ec52a820a57ca870f656b2ad70fd1ae684fa53fd27", func := "afterword/afterwordlaw05.HistAny", spec := "histAny", unfollowed := true, recurses := true, plainKeys := false, apart := false }
def HistAnySaid : Prop := histAnyRow.holds Try.pinned (OpenSpec.ofChange histAnySpec)

/-- ITS FALSE NEIGHBOUR: 'it returns false'. Refute it at one input. -/
def histAnyWrong : ChangeSpec := { name := "histAny", fn := fun _ => fun
  | [d1, d2, d3] => { results := [.lit (.bool false)], args := [d1, d2, d3] }
  | _ => none }
def HistAnyWrongFalsely : Prop := histAnyRow.holds Try.pinned (OpenSpec.ofChange histAnyWrong)

/-- 'afterwordlaw05.HistJoins': WHATEVER THE INPUT: true; the input reads as it did. -/
def histJoinsSpec : ChangeSpec := { name := "histJoins", fn := fun _ => fun
  | [d1, d2, d3, d4] => { results := [.lit (.bool true)], args := [d1, d2, d3, d4] }
  | _ => none }
def histJoinsRow : OpenClaim := { program := "ytdpkpibcjbllcaa", sum := "3f86e1711b209c37eaf115ec52a820a57ca870f656b2ad70fd1ae684fa53fd27", func := "afterword/afterwordlaw05.HistJoins", spec := "histJoins", unfollowed := true, recurses := true, plainKeys := false, apart := false }
def HistJoinsSaid : Prop := histJoinsRow.holds Try.pinned (OpenSpec.ofChange histJoinsSpec)

/-- ITS FALSE NEIGHBOUR: 'it returns false'. Refute it at one input. -/
def histJoinsWrong : ChangeSpec := { name := "histJoins", fn := fun _ => fun
  | [d1, d2, d3, d4] => { results := [.lit (.bool false)], args := [d1, d2, d3, d4] }
  | _ => none }
def HistJoinsWrongFalsely : Prop := histJoinsRow.holds Try.pinned (OpenSpec.ofChange histJoinsWrong)

/-- 'afterwordlaw05.HistMerges': WHATEVER THE INPUT: true; the input reads as it did. -/
def histMergesSpec : ChangeSpec := { name := "histMerges", fn := fun _ => fun
  | [d1, d2, d3] => { results := [.lit (.bool true)], args := [d1, d2, d3] }
  | _ => none }
def histMergesRow : OpenClaim := { program := "ytdpkpibcjbllcaa", sum := "3f86e1711b209c37eaf115ec52a820a57ca870f656b2ad70fd1ae684fa53fd27", func := "afterword/afterwordlaw05.HistMerges", spec := "histMerges", unfollowed := true, recurses := true, plainKeys := false, apart := false }
def HistMergesSaid : Prop := histMergesRow.holds Try.pinned (OpenSpec.ofChange histMergesSpec)

/-- ITS FALSE NEIGHBOUR: 'it returns false'. Refute it at one input. -/
def histMergesWrong : ChangeSpec := { name := "histMerges", fn := fun _ => fun
  | [d1, d2, d3] => { results := [.lit (.bool false)], args := [d1, d2, d3] }
  | _ => none }
def HistMergesWrongFalsely : Prop := histMergesRow.holds Try.pinned (OpenSpec.ofChange histMergesWrong)

/- THE SECOND FORM. 'bulk': how many values and letters a reading holds, each counted each time it is reached (what is shared counts as often as it is met; a slice's spare places count too). A statement '..UptoSaid' is the law's where the arguments, and the package variables that the reading takes, are together of bulk at most 1048576: NARROWER than '..Said'. Prove '..Said' where nothing that the law and all that it calls make is longer than what came in: it says more and counts as full. Else prove '..UptoSaid'. A law counts once. -/
mutual
def uptoBulk {H : Type} : DataW H → Nat
  | .lit (.string bytes) => bytes.length + 1
  | .lit _ => 1
  | .nil => 1
  | .ptr d => uptoBulk d + 1
  | .slice elems spare => uptoBulkAll elems + uptoBulkAll spare + 1
  | .agg parts => uptoBulkAll parts + 1
  | .iface _ d => uptoBulk d + 1
  | .map entries => uptoBulkEntries entries + 1
  | .held _ => 1
def uptoBulkAll {H : Type} : List (DataW H) → Nat
  | [] => 0
  | d :: r => uptoBulk d + uptoBulkAll r
def uptoBulkEntries {H : Type} : List (Lit × DataW H) → Nat
  | [] => 0
  | x :: r => uptoBulkEntry x + uptoBulkEntries r
def uptoBulkEntry {H : Type} : Lit × DataW H → Nat
  | (.string bytes, d) => bytes.length + uptoBulk d + 1
  | (_, d) => uptoBulk d + 1
 end
def uptoSmall : (H : Type) → List (DataW H) → Bool := fun _ ds => decide (uptoBulkAll ds ≤ 1048576)
def OpenSpec.upto (s : _root_.Go.ChangeSpec) : _root_.Go.OpenSpec := { _root_.Go.OpenSpec.ofChange s with cond := some uptoSmall }

/-- 'afterwordlaw05.HistStands', WHERE WHAT IT READS IS OF BULK AT MOST 1048576: true; the input reads as it did. -/
def histStandsUptoRow : OpenClaim := { program := "ytdpkpibcjbllcaa", sum := "3f86e1711b209c37eaf115ec52a820a57ca870f656b2ad70fd1ae684fa53fd27", func := "afterword/afterwordlaw05.HistStands", spec := "histStands", unfollowed := true, recurses := true, plainKeys := false, apart := false, narrowed := true }
def HistStandsUptoSaid : Prop := histStandsUptoRow.holds Try.pinned (OpenSpec.upto histStandsSpec)

/-- 'afterwordlaw05.HistSteps', WHERE WHAT IT READS IS OF BULK AT MOST 1048576: true; the input reads as it did. -/
def histStepsUptoRow : OpenClaim := { program := "ytdpkpibcjbllcaa", sum := "3f86e1711b209c37eaf115ec52a820a57ca870f656b2ad70fd1ae684fa53fd27", func := "afterword/afterwordlaw05.HistSteps", spec := "histSteps", unfollowed := true, recurses := true, plainKeys := false, apart := false, narrowed := true }
def HistStepsUptoSaid : Prop := histStepsUptoRow.holds Try.pinned (OpenSpec.upto histStepsSpec)

/-- 'afterwordlaw05.HistLeasts', WHERE WHAT IT READS IS OF BULK AT MOST 1048576: true; the input reads as it did. -/
def histLeastsUptoRow : OpenClaim := { program := "ytdpkpibcjbllcaa", sum := "3f86e1711b209c37eaf115ec52a820a57ca870f656b2ad70fd1ae684fa53fd27", func := "afterword/afterwordlaw05.HistLeasts", spec := "histLeasts", unfollowed := true, recurses := true, plainKeys := false, apart := false, narrowed := true }
def HistLeastsUptoSaid : Prop := histLeastsUptoRow.holds Try.pinned (OpenSpec.upto histLeastsSpec)

/-- 'afterwordlaw05.HistKeeps', WHERE WHAT IT READS IS OF BULK AT MOST 1048576: true; the input reads as it did. -/
def histKeepsUptoRow : OpenClaim := { program := "ytdpkpibcjbllcaa", sum := "3f86e1711b209c37eaf115ec52a820a57ca870f656b2ad70fd1ae684fa53fd27", func := "afterword/afterwordlaw05.HistKeeps", spec := "histKeeps", unfollowed := true, recurses := true, plainKeys := false, apart := false, narrowed := true }
def HistKeepsUptoSaid : Prop := histKeepsUptoRow.holds Try.pinned (OpenSpec.upto histKeepsSpec)

/-- 'afterwordlaw05.HistGrows', WHERE WHAT IT READS IS OF BULK AT MOST 1048576: true; the input reads as it did. -/
def histGrowsUptoRow : OpenClaim := { program := "ytdpkpibcjbllcaa", sum := "3f86e1711b209c37eaf115ec52a820a57ca870f656b2ad70fd1ae684fa53fd27", func := "afterword/afterwordlaw05.HistGrows", spec := "histGrows", unfollowed := true, recurses := true, plainKeys := false, apart := false, narrowed := true }
def HistGrowsUptoSaid : Prop := histGrowsUptoRow.holds Try.pinned (OpenSpec.upto histGrowsSpec)

/-- 'afterwordlaw05.HistChecks', WHERE WHAT IT READS IS OF BULK AT MOST 1048576: true; the input reads as it did. -/
def histChecksUptoRow : OpenClaim := { program := "ytdpkpibcjbllcaa", sum := "3f86e1711b209c37eaf115ec52a820a57ca870f656b2ad70fd1ae684fa53fd27", func := "afterword/afterwordlaw05.HistChecks", spec := "histChecks", unfollowed := true, recurses := true, plainKeys := false, apart := false, narrowed := true }
def HistChecksUptoSaid : Prop := histChecksUptoRow.holds Try.pinned (OpenSpec.upto histChecksSpec)

/-- 'afterwordlaw05.HistAny', WHERE WHAT IT READS IS OF BULK AT MOST 1048576: true; the input reads as it did. -/
def histAnyUptoRow : OpenClaim := { program := "ytdpkpibcjbllcaa", sum := "3f86e1711b209c37eaf115ec52a820a57ca870f656b2ad70fd1ae684fa53fd27", func := "afterword/afterwordlaw05.HistAny", spec := "histAny", unfollowed := true, recurses := true, plainKeys := false, apart := false, narrowed := true }
def HistAnyUptoSaid : Prop := histAnyUptoRow.holds Try.pinned (OpenSpec.upto histAnySpec)

/-- 'afterwordlaw05.HistJoins', WHERE WHAT IT READS IS OF BULK AT MOST 1048576: true; the input reads as it did. -/
def histJoinsUptoRow : OpenClaim := { program := "ytdpkpibcjbllcaa", sum := "3f86e1711b209c37eaf115ec52a820a57ca870f656b2ad70fd1ae684fa53fd27", func := "afterword/afterwordlaw05.HistJoins", spec := "histJoins", unfollowed := true, recurses := true, plainKeys := false, apart := false, narrowed := true }
def HistJoinsUptoSaid : Prop := histJoinsUptoRow.holds Try.pinned (OpenSpec.upto histJoinsSpec)

/-- 'afterwordlaw05.HistMerges', WHERE WHAT IT READS IS OF BULK AT MOST 1048576: true; the input reads as it did. -/
def histMergesUptoRow : OpenClaim := { program := "ytdpkpibcjbllcaa", sum := "3f86e1711b209c37eaf115ec52a820a57ca870f656b2ad70fd1ae684fa53fd27", func := "afterword/afterwordlaw05.HistMerges", spec := "histMerges", unfollowed := true, recurses := true, plainKeys := false, apart := false, narrowed := true }
def HistMergesUptoSaid : Prop := histMergesUptoRow.holds Try.pinned (OpenSpec.upto histMergesSpec)

end Rows
end Go.Proofs.Ytdpkpibcjbllcaa
