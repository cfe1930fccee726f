/-
  Texts of one hand, laid together: LawSteps.
-/
import Derived.Test.YtdpkpibcjbllcaaZI
import Derived.Test.YtdpkpibcjbllcaaZJ
import Derived.Test.YtdpkpibcjbllcaaZH
import Derived.Test.YtdpkpibcjbllcaaRows
import Derived.ProofKit
import Derived.OpenShut
import Derived.ShutString
import Derived.ChangeOld
import Derived.SizedLaws
set_option linter.unusedVariables false
set_option linter.unusedSimpArgs false
/-! HistSteps. -/
namespace Go.Proofs.Ytdpkpibcjbllcaa
open Go.RowKit Go.Proofs.YtdpkpibcjbllcaaW.PrintWords

/-- Two rows and an error's number. -/
def Row2 (xs ys : List Event) (en : Int) (w : World) (e : Ending) (w' : World) : Prop := ∃ A1 c1 A2 c2, e = .returned (.tuple #[.slice A1 xs.length c1, .slice A2 ys.length c2, .int .i64 en]) ∧ Kd.C kEvent w' A1 xs.length xs ∧ Kd.C kEvent w' A2 ys.length ys ∧ Below w.heap.size w w'
theorem StepRes.row {f : Bool} {a b : List Event} {w w' : World} {e : Ending} (h : StepRes f a b w e w') : Row2 (if f then a else []) (if f then b else []) (if f then 0 else 2) w e w' := by
  obtain ⟨v1, v2, rfl, h1, h2, hb⟩ := h
  obtain ⟨A1, c1, rfl, _, hr1⟩ := own_reads' h1
  obtain ⟨A2, c2, rfl, _, hr2⟩ := own_reads' h2
  exact ⟨A1, c1, A2, c2, rfl, hr1, hr2, hb⟩
set_option maxRecDepth 100000 in
set_option maxHeartbeats 1000000 in
theorem law_steps (l : List News) (A : Option Addr) (c : Nat) (srcs : Int) (n : News) (w : World) (hr : NewsRow w A l.length l) (hc : l.length ≤ c) (hl : l.length * 56 ≤ 140737488351232) :
    Calls Try.prog 4 #[.slice A l.length c, .int .i64 srcs, .agg #[.int .i64 n.do_, .int .i64 n.src, .int .i64 n.id, .int .i64 n.ver, .int .i64 n.body.at_, .int .i64 n.body.key, .int .i64 n.body.val]] w fun e w' => e = .returned (.bool true) ∧ Below w.heap.size w w' := by
  have h1 := fun (W : World) (h : Below w.heap.size w W) => (hist_Step l A c srcs n W (news_later hr h) hc hl).mono (fun _ _ h => h.row)
  have h2 := fun (W : World) (h : Below w.heap.size w W) => (ref_Step l A c srcs n W (news_later hr h) hc hl).mono (fun _ _ h => h.row)
  obtain ⟨xs, hxs⟩ : ∃ xs, (if formedB (l ++ [n]) srcs then (stepOf (hearAll l).1 n).1 else []) = xs := ⟨_, rfl⟩
  obtain ⟨ys, hys⟩ : ∃ xs, (if formedB (l ++ [n]) srcs then (stepOf (hearAll l).1 n).2 else []) = xs := ⟨_, rfl⟩
  obtain ⟨en, hen⟩ : ∃ f : Int, (if formedB (l ++ [n]) srcs then 0 else 2) = f := ⟨_, rfl⟩
  rw [hxs, hys, hen] at h1 h2
  have H1 := Lib.hid h1
  have H2 := Lib.hid h2
  clear h1 h2 hxs hys hen hr
  go_enter Try.func4, Try.ntmps4
  go_upto_region 1 with (fail)
  obtain ⟨i0, i1, i2, i3, i4, i5, i6⟩ := box_news w n
  have hBa : Below w.heap.size w (w.alloc (.cells #[.int .i64 n.do_, .int .i64 n.src, .int .i64 n.id, .int .i64 n.ver, .int .i64 n.body.at_, .int .i64 n.body.key, .int .i64 n.body.val] 38)) := below_alloc (Below.refl _ _) _
  generalize (w.alloc (.cells #[.int .i64 n.do_, .int .i64 n.src, .int .i64 n.id, .int .i64 n.ver, .int .i64 n.body.at_, .int .i64 n.body.key, .int .i64 n.body.val] 38)) = W1 at *
  generalize hbn : w.heap.size = bn at *
  go_upto_region 2 with (go_at_call 19; (with_reducible refine (H1.out _ hBa).mono ?_); rintro e w1 ⟨A1, c1, A2, c2, rfl, hr1, hr2, hb1⟩)
  replace i0 := cell_later' hb1 i0
  replace i1 := cell_later' hb1 i1
  replace i2 := cell_later' hb1 i2
  replace i3 := cell_later' hb1 i3
  replace i4 := cell_later' hb1 i4
  replace i5 := cell_later' hb1 i5
  replace i6 := cell_later' hb1 i6
  have hB1 : Below bn w w1 := by subst hbn; exact below_step hBa hb1
  have Hr1 := Lib.hid hr1
  have Hr2 := Lib.hid hr2
  clear hr1 hr2
  go_upto_region 3 with (go_at_call 20; (with_reducible refine (H2.out _ hB1).mono ?_); rintro e w2 ⟨A3, c3, A4, c4, rfl, hr3, hr4, hb2⟩)
  have Hr3 := Lib.hid hr3
  have Hr4 := Lib.hid hr4
  have hB2 := below_trans hB1 (below_lower hb2 (by rw [← hbn]; exact hB1.size))
  have Hr12 := Lib.hid (Kd.C_below Hr1.out hb2)
  have Hr22 := Lib.hid (Kd.C_below Hr2.out hb2)
  clear hr3 hr4 i0 i1 i2 i3 i4 i5 i6
  go_wp2_with (first
    | (go_at_call 16; (with_reducible refine (same_events_self xs _ _ _ _ _ Hr12.out Hr3.out).mono ?_); rintro e w5 ⟨rfl, hb5⟩)
    | (go_at_call 16; (with_reducible refine (same_events_self ys _ _ _ _ _ (Kd.C_below Hr22.out hb5) (Kd.C_below Hr4.out hb5)).mono ?_); rintro e w6 ⟨rfl, hb6⟩)
    | (go_at_call 18; (with_reducible refine (known_true _).mono ?_); rintro e w7 ⟨rfl, hb7⟩))
  go_ret
  subst hbn
  exact ⟨rfl, below_step (below_step (below_step hB2 hb5) hb6) hb7⟩
end Go.Proofs.Ytdpkpibcjbllcaa
namespace Go.Proofs.Ytdpkpibcjbllcaa.HistSteps
open Go.ChangeShapes Go.WideShapes Go.ChangeAt Go.RowKit
open Go.ChangeMaps (open_string shut_string)
theorem own : ownKnob Try.prog.godebug = none := by kernel_rfl
theorem laidOut : laidOutB Try.prog = true := by kernel_rfl
set_option maxRecDepth 100000 in
theorem lifted (os : Os) (started : os.Started) (H : Type) (enc : TypeId × Value → H) :
    ReturnsInHanded {} Try.checked os 4 .any (Rows.histStepsSpec.pre6 enc Try.prog Try.f4 Rows.histStepsRow.domain false) (Rows.histStepsSpec.post enc Try.prog Try.f4 false true false false) := by
  refine returnsInHanded_of_change_sized (C := Try.checked) own started (by kernel_rfl) Try.func4
    (ChangeSpec.witness6 (enc := enc) (C := Try.checked) false ⟨#[], #[.slice none 0 0, .int .i64 0, .agg #[.int .i64 0, .int .i64 0, .int .i64 0, .int .i64 0, .int .i64 0, .int .i64 0, .int .i64 0]], []⟩ 8 (by kernel_rfl) (by kernel_rfl) (by kernel_rfl) (by kernel_rfl)) ?_
  intro W base args ds gs before hval0 hW hcnd hsz0 _
  have hsz : (DataW.weightsEach Try.prog (Try.f4.params.toList ++ Rows.histStepsSpec.plain.varTypes Try.prog) (ds ++ gs)).all (· ≤ reachBytes) = true := hsz0
  have hval : ∀ (j : Nat) t v, Try.f4.params[j]? = some t → args[j]? = some v → Value.okWide Try.prog W .any base t v := hval0
  have hW' := hW
  obtain ⟨p, q, hA0, hV, rfl, hfz, hnd⟩ := hW
  have hA : DataW.TrodAll enc Try.prog W 0 (fun _ => true) true Try.f4.params.toList args.toList ds p := hA0
  rw [Try.params4] at hA hval hsz
  obtain ⟨v0, vs0, d0, ds0, p0, q0, hargs, rfl, rfl, h0, r0⟩ := trodAll_cons hA
  obtain ⟨v1, vs1, d1, ds1, p1, q1, rfl, rfl, rfl, h1, r1⟩ := trodAll_cons r0
  obtain ⟨v2, vs2, d2, ds2, p2, q2, rfl, rfl, rfl, h2, r2⟩ := trodAll_cons r1
  obtain ⟨rfl, rfl, rfl⟩ := trodAll_nil r2
  obtain rfl : args = #[v0, v1, v2] := by cases args; simp_all
  obtain ⟨rfl, rfl⟩ := trodVars_none hV
  obtain ⟨a0, len0, cap0, rfl⟩ := okWide_slice Try.underlying22 (hval 0 22 v0 rfl rfl)
  have k0 := h0
  have lt0 : ∀ x ∈ p0, x.block < W.heap.size := by obtain ⟨m, hm⟩ := k0; exact DataW.trod_lt m _ _ _ hm
  have y0 : len0 * 56 ≤ 140737488351232 := sized_news hsz (j := 0) rfl rfl h0
  have w0 : len0 ≤ cap0 ∧ ∃ l, l.length = len0 ∧ NewsRow W a0 l.length l := by
    obtain ⟨fuel, hf⟩ := h0
    obtain ⟨A, len, cap, l, hcs, hlc, hl, hr⟩ := open_newsrow hf
    simp [Value.cells] at hcs
    obtain ⟨rfl, rfl, rfl⟩ := hcs
    exact ⟨hlc, l, hl, hr⟩
  obtain ⟨hc0, l0, rfl, hr0⟩ := w0
  obtain ⟨a1, rfl, rfl, rfl, w1⟩ := open_int Try.underlying3 (hval 1 3 v1 rfl rfl) h1
  have k2 := h2
  have lt2 : ∀ x ∈ p2, x.block < W.heap.size := by obtain ⟨m, hm⟩ := k2; exact DataW.trod_lt m _ _ _ hm
  obtain ⟨n2, rfl⟩ := open_newsval (hval 2 38 v2 rfl rfl) h2
  clear hA0 hval0 hsz0 hsz
  refine (law_steps l0 a0 cap0 a1 n2 W hr0 hc0 y0).mono fun e W' ⟨he, bel⟩ => ?_
  subst he
  exact ⟨_, rfl, _, _, _, [], _, [], hW', trodAll_mk1 (shut_bool Try.underlying4 _), (trodAll_cons_mk (Below.trod laidOut (by kernel_rfl) (of_decide_eq_true (by kernel_rfl)) k0 bel lt0) (trodAll_cons_mk (shut_int Try.underlying3 w1) (trodAll_cons_mk (Below.trod laidOut (by kernel_rfl) (of_decide_eq_true (by kernel_rfl)) k2 bel lt2) trodAll_mk0))), rfl, bel.frame _, fun h => by cases h⟩
theorem over : Rows.histStepsRow.holds Try.pinned (OpenSpec.ofChange Rows.histStepsSpec) :=
  OpenClaim.holds_of_wide 4 Try.f4 rfl rfl rfl rfl rfl rfl rfl ⟨rfl, rfl, rfl, rfl, rfl⟩ rfl rfl rfl rfl rfl (by kernel_rfl) Try.func4 (by kernel_rfl)
    (of_decide_eq_true (by kernel_rfl)) (by unfold Func.isWrapper; first | (rw [if_pos (by decide +kernel)]; kernel_rfl) | (rw [if_neg (by decide +kernel)]; exact ⟨rfl, rfl⟩))
    (fun os started H enc _ => lifted os started H enc)
end Go.Proofs.Ytdpkpibcjbllcaa.HistSteps
namespace Go.Proofs.Ytdpkpibcjbllcaa
/-- The row. -/
theorem HistSteps_holds : Rows.HistStepsSaid := HistSteps.over
#print axioms HistSteps_holds
end Go.Proofs.Ytdpkpibcjbllcaa
