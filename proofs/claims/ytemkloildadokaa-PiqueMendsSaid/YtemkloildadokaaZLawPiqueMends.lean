/-
  Texts of one hand, laid together: LawPiqueMends.
-/
import Derived.Test.YtemkloildadokaaZD
import Derived.Test.YtemkloildadokaaZO
import Derived.Test.YtemkloildadokaaZE
import Derived.Test.YtemkloildadokaaRows
import Derived.ProofKit
import Derived.OpenShut
import Derived.ShutString
import Derived.ChangeOld
import Derived.SizedLaws
set_option linter.unusedVariables false
set_option linter.unusedSimpArgs false
/-! For every list of steps, what the program mends is what the reference mends, or the error, and the chapter's examples are as they are stated. -/
namespace Go.Proofs.Ytemkloildadokaa
open Go.RowKit Go.Shelf Go.Proofs.YtemkloildadokaaW.PrintWords
set_option maxRecDepth 100000 in
set_option maxHeartbeats 16000000 in
theorem law_mends (l : List PStep) (A : Option Addr) (c : Nat) (w : World) (hr : PStepRow w A l.length l) (hc : l.length ≤ c) (hs : l.length * 24 ≤ 140737488351232) :
    Calls Try.prog 6 #[.slice A l.length c] w fun e w' => e = .returned (.bool true) ∧ Below w.heap.size w w' := by
  have HR := Lib.hid hr
  clear hr
  have P1 := Lib.hid (fun W (h : PStepRow W A l.length l) => p_Mend A c l W h)
  have P2 := Lib.hid (fun W (h : PStepRow W A l.length l) => r_Mend A l.length c l W rfl h)
  obtain ⟨X, hX⟩ : ∃ X, X = (mendE [] l).1 := ⟨_, rfl⟩
  obtain ⟨T, hT⟩ : ∃ T, T = (mendE [] l).2 := ⟨_, rfl⟩
  rw [← hX, ← hT] at P1 P2
  clear hX hT
  cases hst : stepsB l
  · rw [hst] at P1 P2
    simp only [Bool.false_eq_true, if_false] at P1 P2
    clear hst
    obtain ⟨E, hE⟩ : ∃ E : List PStep, E = [] := ⟨_, rfl⟩
    obtain ⟨F, hF⟩ : ∃ F : List Int, F = [] := ⟨_, rfl⟩
    rw [← hE, ← hF] at P1 P2
    clear hE hF
    go_enter Try.func6, Try.ntmps6
    go_wp2_with (first
      | (go_at_call 27; (with_reducible refine (P1.out w HR.out).mono ?_); rintro e w2 ⟨⟨vo2, vt2, rfl, ho2, ht2⟩, hb2⟩; obtain ⟨A2, c2, rfl, hc2, hr2⟩ := own_reads' ho2; obtain ⟨B2, d2, rfl, hd2, hs2⟩ := own_reads' ht2; have HB2 := Lib.hid hb2; have HR2 := Lib.hid hr2; have HS2 := Lib.hid hs2; clear hb2 hr2 hs2 ho2 ht2)
      | (go_at_call 28; (with_reducible refine (P2.out w2 (Kd.C_below HR.out HB2.out)).mono ?_); rintro e w3 ⟨⟨vo3, vt3, rfl, ho3, ht3⟩, hb3⟩; obtain ⟨A3, c3, rfl, hc3, hr3⟩ := own_reads' ho3; obtain ⟨B3, d3, rfl, hd3, hs3⟩ := own_reads' ht3; have HB3 := Lib.hid (below_step HB2.out hb3); have HR3 := Lib.hid hr3; have HS3 := Lib.hid hs3; have HR23 := Lib.hid (Kd.C_below HR2.out hb3); have HS23 := Lib.hid (Kd.C_below HS2.out hb3); clear hb3 hr3 hs3 ho3 ht3)
      | (go_at_call 23; (with_reducible refine (same_steps E E A2 A3 c2 c3 w3 HR23.out HR3.out).mono ?_); rintro e w4 ⟨he4, hb4⟩; have he5 : e = .returned (.bool true) := (by rw [he4]; simp); subst he5; have HB4 := Lib.hid (below_step HB3.out hb4); have HS34 := Lib.hid (Kd.C_below HS3.out hb4); have HS24 := Lib.hid (Kd.C_below HS23.out hb4); clear hb4 he4)
      | (go_at_call 19; (with_reducible refine (same_ints F F B2 B3 d2 d3 w4 HS24.out HS34.out).mono ?_); rintro e w5 ⟨he4, hb4⟩; have he5 : e = .returned (.bool true) := (by rw [he4]; simp); subst he5; have HB5 := Lib.hid (below_step HB4.out hb4); clear hb4 he4)
      | (go_at_call 20; (with_reducible refine (known_true _).mono ?_); rintro e w9 ⟨rfl, hb9⟩))
    go_ret
    exact ⟨rfl, below_step HB5.out hb9⟩
  · rw [hst] at P1 P2
    simp only [if_true] at P1 P2
    clear hst
    go_enter Try.func6, Try.ntmps6
    go_wp2_with (first
      | (go_at_call 27; (with_reducible refine (P1.out w HR.out).mono ?_); rintro e w2 ⟨⟨vo2, vt2, rfl, ho2, ht2⟩, hb2⟩; obtain ⟨A2, c2, rfl, hc2, hr2⟩ := own_reads' ho2; obtain ⟨B2, d2, rfl, hd2, hs2⟩ := own_reads' ht2; have HB2 := Lib.hid hb2; have HR2 := Lib.hid hr2; have HS2 := Lib.hid hs2; clear hb2 hr2 hs2 ho2 ht2)
      | (go_at_call 28; (with_reducible refine (P2.out w2 (Kd.C_below HR.out HB2.out)).mono ?_); rintro e w3 ⟨⟨vo3, vt3, rfl, ho3, ht3⟩, hb3⟩; obtain ⟨A3, c3, rfl, hc3, hr3⟩ := own_reads' ho3; obtain ⟨B3, d3, rfl, hd3, hs3⟩ := own_reads' ht3; have HB3 := Lib.hid (below_step HB2.out hb3); have HR3 := Lib.hid hr3; have HS3 := Lib.hid hs3; have HR23 := Lib.hid (Kd.C_below HR2.out hb3); have HS23 := Lib.hid (Kd.C_below HS2.out hb3); clear hb3 hr3 hs3 ho3 ht3)
      | (go_at_call 23; (with_reducible refine (same_steps X X A2 A3 c2 c3 w3 HR23.out HR3.out).mono ?_); rintro e w4 ⟨he4, hb4⟩; have he5 : e = .returned (.bool true) := (by rw [he4]; simp); subst he5; have HB4 := Lib.hid (below_step HB3.out hb4); have HS34 := Lib.hid (Kd.C_below HS3.out hb4); have HS24 := Lib.hid (Kd.C_below HS23.out hb4); clear hb4 he4)
      | (go_at_call 19; (with_reducible refine (same_ints T T B2 B3 d2 d3 w4 HS24.out HS34.out).mono ?_); rintro e w5 ⟨he4, hb4⟩; have he5 : e = .returned (.bool true) := (by rw [he4]; simp); subst he5; have HB5 := Lib.hid (below_step HB4.out hb4); clear hb4 he4)
      | (go_at_call 20; (with_reducible refine (known_true _).mono ?_); rintro e w9 ⟨rfl, hb9⟩))
    go_ret
    exact ⟨rfl, below_step HB5.out hb9⟩
end Go.Proofs.Ytemkloildadokaa
namespace Go.Proofs.Ytemkloildadokaa.PiqueMends
open Go.ChangeShapes Go.WideShapes Go.ChangeAt Go.RowKit
open Go.ChangeMaps (open_string shut_string)
theorem own : ownKnob Try.prog.godebug = none := by kernel_rfl
theorem laidOut : laidOutB Try.prog = true := by kernel_rfl
set_option maxRecDepth 100000 in
theorem lifted (os : Os) (started : os.Started) (H : Type) (enc : TypeId × Value → H) :
    ReturnsInHanded {} Try.checked os 6 .any (Rows.piqueMendsSpec.pre6 enc Try.prog Try.f6 Rows.piqueMendsRow.domain false) (Rows.piqueMendsSpec.post enc Try.prog Try.f6 false true false false) := by
  refine returnsInHanded_of_change_sized (C := Try.checked) own started (by kernel_rfl) Try.func6
    (ChangeSpec.witness6 (enc := enc) (C := Try.checked) false ⟨#[], #[.slice none 0 0], []⟩ 8 (by kernel_rfl) (by kernel_rfl) (by kernel_rfl) (by kernel_rfl)) ?_
  intro W base args ds gs before hval0 hW hcnd hsz0 _
  have hsz : (DataW.weightsEach Try.prog (Try.f6.params.toList ++ Rows.piqueMendsSpec.plain.varTypes Try.prog) (ds ++ gs)).all (· ≤ reachBytes) = true := hsz0
  have hval : ∀ (j : Nat) t v, Try.f6.params[j]? = some t → args[j]? = some v → Value.okWide Try.prog W .any base t v := hval0
  have hW' := hW
  obtain ⟨p, q, hA0, hV, rfl, hfz, hnd⟩ := hW
  have hA : DataW.TrodAll enc Try.prog W 0 (fun _ => true) true Try.f6.params.toList args.toList ds p := hA0
  rw [Try.params6] at hA hval hsz
  obtain ⟨v0, vs0, d0, ds0, p0, q0, hargs, rfl, rfl, h0, r0⟩ := trodAll_cons hA
  obtain ⟨rfl, rfl, rfl⟩ := trodAll_nil r0
  obtain rfl : args = #[v0] := by cases args; simp_all
  obtain ⟨rfl, rfl⟩ := trodVars_none hV
  obtain ⟨a0, len0, cap0, rfl⟩ := okWide_slice Try.underlying22 (hval 0 22 v0 rfl rfl)
  have k0 := h0
  have lt0 : ∀ x ∈ p0, x.block < W.heap.size := by obtain ⟨m, hm⟩ := k0; exact DataW.trod_lt m _ _ _ hm
  have y0 := sized_psteps hsz (j := 0) rfl rfl h0
  have w0 : len0 ≤ cap0 ∧ ∃ l, l.length = len0 ∧ PStepRow W a0 l.length l := by
    obtain ⟨fuel, hf⟩ := h0
    obtain ⟨A, len, cap, l, hcs, hlc, hl, hr⟩ := open_psteprow hf
    simp [Value.cells] at hcs
    obtain ⟨rfl, rfl, rfl⟩ := hcs
    exact ⟨hlc, l, hl, hr⟩
  obtain ⟨hc0, l0, rfl, hr0⟩ := w0
  clear hA0 hval0 hsz0 hsz
  refine (law_mends l0 a0 cap0 W hr0 hc0 y0).mono fun e W' ⟨he, bel⟩ => ?_
  subst he
  exact ⟨_, rfl, _, _, _, [], _, [], hW', trodAll_mk1 (shut_bool Try.underlying4 _), (trodAll_cons_mk (Below.trod laidOut (by kernel_rfl) (of_decide_eq_true (by kernel_rfl)) k0 bel lt0) trodAll_mk0), rfl, bel.frame _, fun h => by cases h⟩
theorem over : Rows.piqueMendsRow.holds Try.pinned (OpenSpec.ofChange Rows.piqueMendsSpec) :=
  OpenClaim.holds_of_wide 6 Try.f6 rfl rfl rfl rfl rfl rfl rfl ⟨rfl, rfl, rfl, rfl, rfl⟩ rfl rfl rfl rfl rfl (by kernel_rfl) Try.func6 (by kernel_rfl)
    (of_decide_eq_true (by kernel_rfl)) (by unfold Func.isWrapper; first | (rw [if_pos (by decide +kernel)]; kernel_rfl) | (rw [if_neg (by decide +kernel)]; exact ⟨rfl, rfl⟩))
    (fun os started H enc _ => lifted os started H enc)
end Go.Proofs.Ytemkloildadokaa.PiqueMends
namespace Go.Proofs.Ytemkloildadokaa
/-- The row. -/
theorem PiqueMends_holds : Rows.PiqueMendsSaid := PiqueMends.over
#print axioms PiqueMends_holds
end Go.Proofs.Ytemkloildadokaa
