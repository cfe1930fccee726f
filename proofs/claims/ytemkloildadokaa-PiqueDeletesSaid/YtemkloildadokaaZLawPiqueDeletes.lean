/-
  Texts of one hand, laid together: LawPiqueDeletes.
-/
import Derived.Test.YtemkloildadokaaZD
import Derived.Test.YtemkloildadokaaZO
import Derived.Test.YtemkloildadokaaZE
import Derived.Test.YtemkloildadokaaRows
import Derived.ProofKit
import Derived.OpenShut
import Derived.ShutString
import Derived.ChangeOld
import Derived.SizedLaws
set_option linter.unusedVariables false
set_option linter.unusedSimpArgs false
/-! For every list of steps and every time, the line without the step, and the walk, are the reference's, or the error, and the chapter's examples are as they are stated. -/
namespace Go.Proofs.Ytemkloildadokaa
open Go.RowKit Go.Shelf Go.Proofs.YtemkloildadokaaW.PrintWords
set_option maxRecDepth 100000 in
set_option maxHeartbeats 16000000 in
theorem law_deletes (l : List PStep) (A : Option Addr) (c : Nat) (t : Int) (w : World) (hr : PStepRow w A l.length l) (hc : l.length ≤ c) (hs : l.length * 24 ≤ 140737488351232) :
    Calls Try.prog 5 #[.slice A l.length c, .int .i64 t] w fun e w' => e = .returned (.bool true) ∧ Below w.heap.size w w' := by
  have HR := Lib.hid hr
  clear hr
  have P1 := Lib.hid (fun W (h : PStepRow W A l.length l) => p_Delete A c l t W h)
  have P2 := Lib.hid (fun W (h : PStepRow W A l.length l) => r_Delete A l.length c l t W rfl h hc)
  simp only [delete_R] at P2
  obtain ⟨r, hre⟩ : ∃ r, r = deleteE l t := ⟨_, rfl⟩
  rw [← hre] at P1 P2
  clear hre
  go_enter Try.func5, Try.ntmps5
  go_upto_region 2 with (go_at_call 25; (with_reducible refine (P1.out w HR.out).mono ?_); rintro e w2 ⟨⟨vo2, vt2, rfl, ho2, ht2⟩, hb2⟩; obtain ⟨A2, c2, rfl, hc2, hr2⟩ := own_reads' ho2; obtain ⟨B2, d2, rfl, hd2, hs2⟩ := own_reads' ht2; have HB2 := Lib.hid hb2; have HR2 := Lib.hid hr2; have HS2 := Lib.hid hs2; clear hb2 hr2 hs2 ho2 ht2)
  have HX2 := Lib.hid (Cells.new w2 #[.bool r.more, .slice B2 r.spans.length d2] 39)
  have hb4 := below_alloc (Below.refl w2.heap.size w2) (.cells #[.bool r.more, .slice B2 r.spans.length d2] 39)
  have HB4 := Lib.hid (below_step HB2.out hb4)
  have HR4 := Lib.hid (Kd.C_below HR2.out hb4)
  have HS4 := Lib.hid (Kd.C_below HS2.out hb4)
  clear hb4
  generalize w2.alloc (.cells #[.bool r.more, .slice B2 r.spans.length d2] 39) = w4 at HX2 HB4 HR4 HS4 ⊢
  go_upto_region 3 with (go_at_call 26; (with_reducible refine (P2.out w4 (Kd.C_below HR.out HB4.out)).mono ?_); rintro e w5 ⟨⟨vo3, vt3, rfl, ho3, ht3⟩, hb3⟩; obtain ⟨A3, c3, rfl, hc3, hr3⟩ := own_reads' ho3; obtain ⟨B3, d3, rfl, hd3, hs3⟩ := own_reads' ht3; have HB5 := Lib.hid hb3; have HR5 := Lib.hid hr3; have HS5 := Lib.hid hs3; clear hb3 hr3 hs3 ho3 ht3)
  have HX3 := Lib.hid (Cells.new w5 #[.bool r.more, .slice B3 r.spans.length d3] 39)
  have hb4 := below_alloc (Below.refl w5.heap.size w5) (.cells #[.bool r.more, .slice B3 r.spans.length d3] 39)
  have hb45 := below_step HB5.out hb4
  have HB6 := Lib.hid (below_step HB4.out hb45)
  have HRX2 := Lib.hid (Kd.C_below HR4.out hb45)
  have HSX2 := Lib.hid (Kd.C_below HS4.out hb45)
  have HRX3 := Lib.hid (Kd.C_below HR5.out hb4)
  have HSX3 := Lib.hid (Kd.C_below HS5.out hb4)
  have HXX2 := Lib.hid (HX2.out.later hb45)
  clear hb4 hb45
  generalize w5.alloc (.cells #[.bool r.more, .slice B3 r.spans.length d3] 39) = w6 at HX3 HB6 HRX2 HSX2 HRX3 HSX3 HXX2 ⊢
  have x0 := HXX2.out.cell 0 _ rfl
  have x1 := HXX2.out.cell 1 _ rfl
  have y0 := HX3.out.cell 0 _ rfl
  have y1 := HX3.out.cell 1 _ rfl
  go_wp2_with (first
    | (go_at_call 23; (with_reducible refine (same_steps r.line r.line A2 A3 c2 c3 w6 HRX2.out HRX3.out).mono ?_); rintro e w7 ⟨he4, hb4⟩; have he5 : e = .returned (.bool true) := (by rw [he4]; simp); subst he5; have HB7 := Lib.hid (below_step HB6.out hb4); have HSY2 := Lib.hid (Kd.C_below HSX2.out hb4); have HSY3 := Lib.hid (Kd.C_below HSX3.out hb4); have x0 := (HXX2.out.later hb4).cell 0 _ rfl; have x1 := (HXX2.out.later hb4).cell 1 _ rfl; have y0 := (HX3.out.later hb4).cell 0 _ rfl; have y1 := (HX3.out.later hb4).cell 1 _ rfl; clear hb4 he4)
    | (go_at_call 24; (with_reducible refine (same_walk r.more r.more r.spans r.spans B2 B3 d2 d3 w7 HSY2.out HSY3.out).mono ?_); rintro e w8 ⟨he4, hb4⟩; have he5 : e = .returned (.bool true) := (by rw [he4]; simp); subst he5; have HB8 := Lib.hid (below_step HB7.out hb4); clear hb4 he4)
    | (go_at_call 20; (with_reducible refine (known_true _).mono ?_); rintro e w9 ⟨rfl, hb9⟩))
  go_ret
  exact ⟨rfl, below_step HB8.out hb9⟩
end Go.Proofs.Ytemkloildadokaa
namespace Go.Proofs.Ytemkloildadokaa.PiqueDeletes
open Go.ChangeShapes Go.WideShapes Go.ChangeAt Go.RowKit
open Go.ChangeMaps (open_string shut_string)
theorem own : ownKnob Try.prog.godebug = none := by kernel_rfl
theorem laidOut : laidOutB Try.prog = true := by kernel_rfl
set_option maxRecDepth 100000 in
theorem lifted (os : Os) (started : os.Started) (H : Type) (enc : TypeId × Value → H) :
    ReturnsInHanded {} Try.checked os 5 .any (Rows.piqueDeletesSpec.pre6 enc Try.prog Try.f5 Rows.piqueDeletesRow.domain false) (Rows.piqueDeletesSpec.post enc Try.prog Try.f5 false true false false) := by
  refine returnsInHanded_of_change_sized (C := Try.checked) own started (by kernel_rfl) Try.func5
    (ChangeSpec.witness6 (enc := enc) (C := Try.checked) false ⟨#[], #[.slice none 0 0, .int .i64 0], []⟩ 8 (by kernel_rfl) (by kernel_rfl) (by kernel_rfl) (by kernel_rfl)) ?_
  intro W base args ds gs before hval0 hW hcnd hsz0 _
  have hsz : (DataW.weightsEach Try.prog (Try.f5.params.toList ++ Rows.piqueDeletesSpec.plain.varTypes Try.prog) (ds ++ gs)).all (· ≤ reachBytes) = true := hsz0
  have hval : ∀ (j : Nat) t v, Try.f5.params[j]? = some t → args[j]? = some v → Value.okWide Try.prog W .any base t v := hval0
  have hW' := hW
  obtain ⟨p, q, hA0, hV, rfl, hfz, hnd⟩ := hW
  have hA : DataW.TrodAll enc Try.prog W 0 (fun _ => true) true Try.f5.params.toList args.toList ds p := hA0
  rw [Try.params5] at hA hval hsz
  obtain ⟨v0, vs0, d0, ds0, p0, q0, hargs, rfl, rfl, h0, r0⟩ := trodAll_cons hA
  obtain ⟨v1, vs1, d1, ds1, p1, q1, rfl, rfl, rfl, h1, r1⟩ := trodAll_cons r0
  obtain ⟨rfl, rfl, rfl⟩ := trodAll_nil r1
  obtain rfl : args = #[v0, v1] := by cases args; simp_all
  obtain ⟨rfl, rfl⟩ := trodVars_none hV
  obtain ⟨a0, len0, cap0, rfl⟩ := okWide_slice Try.underlying22 (hval 0 22 v0 rfl rfl)
  have k0 := h0
  have lt0 : ∀ x ∈ p0, x.block < W.heap.size := by obtain ⟨m, hm⟩ := k0; exact DataW.trod_lt m _ _ _ hm
  have y0 := sized_psteps hsz (j := 0) rfl rfl h0
  have w0 : len0 ≤ cap0 ∧ ∃ l, l.length = len0 ∧ PStepRow W a0 l.length l := by
    obtain ⟨fuel, hf⟩ := h0
    obtain ⟨A, len, cap, l, hcs, hlc, hl, hr⟩ := open_psteprow hf
    simp [Value.cells] at hcs
    obtain ⟨rfl, rfl, rfl⟩ := hcs
    exact ⟨hlc, l, hl, hr⟩
  obtain ⟨hc0, l0, rfl, hr0⟩ := w0
  obtain ⟨a1, rfl, rfl, rfl, w1⟩ := open_int Try.underlying3 (hval 1 3 v1 rfl rfl) h1
  clear hA0 hval0 hsz0 hsz
  refine (law_deletes l0 a0 cap0 a1 W hr0 hc0 y0).mono fun e W' ⟨he, bel⟩ => ?_
  subst he
  exact ⟨_, rfl, _, _, _, [], _, [], hW', trodAll_mk1 (shut_bool Try.underlying4 _), (trodAll_cons_mk (Below.trod laidOut (by kernel_rfl) (of_decide_eq_true (by kernel_rfl)) k0 bel lt0) (trodAll_cons_mk (shut_int Try.underlying3 w1) trodAll_mk0)), rfl, bel.frame _, fun h => by cases h⟩
theorem over : Rows.piqueDeletesRow.holds Try.pinned (OpenSpec.ofChange Rows.piqueDeletesSpec) :=
  OpenClaim.holds_of_wide 5 Try.f5 rfl rfl rfl rfl rfl rfl rfl ⟨rfl, rfl, rfl, rfl, rfl⟩ rfl rfl rfl rfl rfl (by kernel_rfl) Try.func5 (by kernel_rfl)
    (of_decide_eq_true (by kernel_rfl)) (by unfold Func.isWrapper; first | (rw [if_pos (by decide +kernel)]; kernel_rfl) | (rw [if_neg (by decide +kernel)]; exact ⟨rfl, rfl⟩))
    (fun os started H enc _ => lifted os started H enc)
end Go.Proofs.Ytemkloildadokaa.PiqueDeletes
namespace Go.Proofs.Ytemkloildadokaa
/-- The row. -/
theorem PiqueDeletes_holds : Rows.PiqueDeletesSaid := PiqueDeletes.over
#print axioms PiqueDeletes_holds
end Go.Proofs.Ytemkloildadokaa
