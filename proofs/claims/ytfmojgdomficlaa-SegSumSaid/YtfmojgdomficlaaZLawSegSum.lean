/-
  Texts of one hand, laid together: LawSegSum.
-/
import Derived.Test.YtfmojgdomficlaaZJ
import Derived.Test.YtfmojgdomficlaaZK
import Derived.Test.YtfmojgdomficlaaRows
import Derived.ProofKit
import Derived.OpenShut
import Derived.ShutString
import Derived.ChangeOld
import Derived.SizedLaws
set_option linter.unusedVariables false
set_option linter.unusedSimpArgs false
/-! For every one of the news, the program's sum is the reference's, and the chapter's examples are as they are stated. -/
namespace Go.Proofs.Ytfmojgdomficlaa
open Go.RowKit Go.Shelf Go.Proofs.YtfmojgdomficlaaW.PrintWords

set_option maxRecDepth 100000 in
set_option maxHeartbeats 2000000 in
theorem law_segsum (n : News) (w : World) : Calls Try.prog 3 #[.agg #[.int .i64 n.do_, .int .i64 n.src, .int .i64 n.id, .int .i64 n.ver, .int .i64 n.body.at_, .int .i64 n.body.key, .int .i64 n.body.val]] w fun e w' => e = .returned (.bool true) ∧ Below w.heap.size w w' := by
  go_enter Try.func3, Try.ntmps3
  go_wp2
  have HC := Lib.hid (Cells.new w #[.int .i64 n.do_, .int .i64 n.src, .int .i64 n.id, .int .i64 n.ver, .int .i64 n.body.at_, .int .i64 n.body.key, .int .i64 n.body.val] 26)
  have HB := Lib.hid (below_alloc (Below.refl w.heap.size w) (.cells #[.int .i64 n.do_, .int .i64 n.src, .int .i64 n.id, .int .i64 n.ver, .int .i64 n.body.at_, .int .i64 n.body.key, .int .i64 n.body.val] 26))
  generalize w.alloc (.cells #[.int .i64 n.do_, .int .i64 n.src, .int .i64 n.id, .int .i64 n.ver, .int .i64 n.body.at_, .int .i64 n.body.key, .int .i64 n.body.val] 26) = w1 at HC HB ⊢
  refine wp_region_flow [.calm 0, .calm 1, .calm 2, .calm 3, .free 4, .free 5, .calm 6, .free 7, .free 8] (Below w1.heap.size w1) (Below w1.heap.size w1) (stable_below _ _ (Nat.le_refl _)) (fun _ h => h) (by kernel_rfl) (by kernel_rfl) (below_drew1 (Below.refl _ _)) ?_
  simp only [pickEnts, pickF, List.getElem?_cons_succ, List.getElem?_cons_zero, List.filterMap_cons, List.filterMap_nil, Option.map_some]
  repeat ((first | refine flow_calm (fun K hK => ?_) | refine flow_free (fun K hK => ?_) | refine float_calm (fun K hK => ?_) | refine float_free (fun K hK => ?_)); go_simp; first | (refine hK _ ?_; clear hK K) | (apply Exists.intro; (refine ⟨fun X => ?_, hK _ ?_⟩); (first | (intro hC; rfl) | rfl | (intro hC; have q := HC.out.later hC.out; have q0 := q.cell 0 _ rfl; have q1 := q.cell 1 _ rfl; have q2 := q.cell 2 _ rfl; have q3 := q.cell 3 _ rfl; have q4 := q.cell 4 _ rfl; have q5 := q.cell 5 _ rfl; have q6 := q.cell 6 _ rfl; go_simp; done) | (intro hC; have q := HC.out.later hC.out; have q0 := q.cell 0 _ rfl; have q1 := q.cell 1 _ rfl; have q2 := q.cell 2 _ rfl; have q3 := q.cell 3 _ rfl; have q4 := q.cell 4 _ rfl; have q5 := q.cell 5 _ rfl; have q6 := q.cell 6 _ rfl; go_simp; rfl) | (intro hC; (first | (with_reducible refine (seg_Sum n _).mono ?_) | (with_reducible refine (ref_Sum n _).mono ?_) | (with_reducible refine (law_known _).mono ?_)); rintro e w' ⟨rfl, hb⟩; exact ⟨rfl, hb⟩)); clear hK K))
  refine flow_nil ?_
  intro w2 hX
  have hb2 := hX.out
  go_wp2
  go_ret
  exact ⟨rfl, below_step HB.out hb2⟩
end Go.Proofs.Ytfmojgdomficlaa
namespace Go.Proofs.Ytfmojgdomficlaa.SegSum
open Go.ChangeShapes Go.WideShapes Go.ChangeAt Go.RowKit
open Go.ChangeMaps (open_string shut_string)
theorem own : ownKnob Try.prog.godebug = none := by kernel_rfl
theorem laidOut : laidOutB Try.prog = true := by kernel_rfl
set_option maxRecDepth 100000 in
theorem lifted (os : Os) (started : os.Started) (H : Type) (enc : TypeId × Value → H) :
    ReturnsInHanded {} Try.checked os 3 .any (Rows.segSumSpec.pre6 enc Try.prog Try.f3 Rows.segSumRow.domain false) (Rows.segSumSpec.post enc Try.prog Try.f3 false true false false) := by
  refine returnsInHanded_of_change_sized (C := Try.checked) own started (by kernel_rfl) Try.func3
    (ChangeSpec.witness6 (enc := enc) (C := Try.checked) false ⟨#[], #[.agg #[.int .i64 0, .int .i64 0, .int .i64 0, .int .i64 0, .int .i64 0, .int .i64 0, .int .i64 0]], []⟩ 8 (by kernel_rfl) (by kernel_rfl) (by kernel_rfl) (by kernel_rfl)) ?_
  intro W base args ds gs before hval0 hW hcnd hsz0 _
  have hsz : (DataW.weightsEach Try.prog (Try.f3.params.toList ++ Rows.segSumSpec.plain.varTypes Try.prog) (ds ++ gs)).all (· ≤ reachBytes) = true := hsz0
  have hval : ∀ (j : Nat) t v, Try.f3.params[j]? = some t → args[j]? = some v → Value.okWide Try.prog W .any base t v := hval0
  have hW' := hW
  obtain ⟨p, q, hA0, hV, rfl, hfz, hnd⟩ := hW
  have hA : DataW.TrodAll enc Try.prog W 0 (fun _ => true) true Try.f3.params.toList args.toList ds p := hA0
  rw [Try.params3] at hA hval hsz
  obtain ⟨v0, vs0, d0, ds0, p0, q0, hargs, rfl, rfl, h0, r0⟩ := trodAll_cons hA
  obtain ⟨rfl, rfl, rfl⟩ := trodAll_nil r0
  obtain rfl : args = #[v0] := by cases args; simp_all
  obtain ⟨rfl, rfl⟩ := trodVars_none hV
  have k0 := h0
  have lt0 : ∀ x ∈ p0, x.block < W.heap.size := by obtain ⟨m, hm⟩ := k0; exact DataW.trod_lt m _ _ _ hm
  obtain ⟨n0, rfl⟩ := open_newsval (hval 0 26 v0 rfl rfl) h0
  clear hA0 hval0 hsz0 hsz
  refine (law_segsum n0 W ).mono fun e W' ⟨he, bel⟩ => ?_
  subst he
  exact ⟨_, rfl, _, _, _, [], _, [], hW', trodAll_mk1 (shut_bool Try.underlying4 _), (trodAll_cons_mk (Below.trod laidOut (by kernel_rfl) (of_decide_eq_true (by kernel_rfl)) k0 bel lt0) trodAll_mk0), rfl, bel.frame _, fun h => by cases h⟩
theorem over : Rows.segSumRow.holds Try.pinned (OpenSpec.ofChange Rows.segSumSpec) :=
  OpenClaim.holds_of_wide 3 Try.f3 rfl rfl rfl rfl rfl rfl rfl ⟨rfl, rfl, rfl, rfl, rfl⟩ rfl rfl rfl rfl rfl (by kernel_rfl) Try.func3 (by kernel_rfl)
    (of_decide_eq_true (by kernel_rfl)) (by unfold Func.isWrapper; first | (rw [if_pos (by decide +kernel)]; kernel_rfl) | (rw [if_neg (by decide +kernel)]; exact ⟨rfl, rfl⟩))
    (fun os started H enc _ => lifted os started H enc)
end Go.Proofs.Ytfmojgdomficlaa.SegSum
namespace Go.Proofs.Ytfmojgdomficlaa
/-- The row. -/
theorem SegSum_holds : Rows.SegSumSaid := SegSum.over
#print axioms SegSum_holds
end Go.Proofs.Ytfmojgdomficlaa
