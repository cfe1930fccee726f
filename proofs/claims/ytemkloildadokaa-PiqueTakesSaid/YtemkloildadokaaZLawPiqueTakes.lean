/-
  Texts of one hand, laid together: LawPiqueTakes.
-/
import Derived.Test.YtemkloildadokaaZD
import Derived.Test.YtemkloildadokaaZO
import Derived.Test.YtemkloildadokaaZE
import Derived.Test.YtemkloildadokaaRows
import Derived.ProofKit
import Derived.OpenShut
import Derived.ShutString
import Derived.ChangeOld
import Derived.SizedLaws
set_option linter.unusedVariables false
set_option linter.unusedSimpArgs false
/-! For every list of steps, what the program takes, and its bridges, are the reference's, or the error, and the chapter's examples are as they are stated. -/
namespace Go.Proofs.Ytemkloildadokaa
open Go.RowKit Go.Shelf Go.Proofs.YtemkloildadokaaW.PrintWords
set_option maxRecDepth 100000 in
set_option maxHeartbeats 16000000 in
theorem law_takes (l : List PStep) (A : Option Addr) (c : Nat) (w : World) (hr : PStepRow w A l.length l) (hc : l.length ≤ c) (hs : l.length * 24 ≤ 140737488351232) :
    Calls Try.prog 3 #[.slice A l.length c] w fun e w' => e = .returned (.bool true) ∧ Below w.heap.size w w' := by
  have HR := Lib.hid hr
  clear hr
  obtain ⟨er, her⟩ : ∃ er : Int, er = (if lineB l = true then 0 else 2) := ⟨_, rfl⟩
  obtain ⟨q, hq⟩ : ∃ q, q = (if lineB l = true then takesE l else []) := ⟨_, rfl⟩
  obtain ⟨b, hb⟩ : ∃ b, b = (if lineB l = true then bridgesE l else []) := ⟨_, rfl⟩
  have P1 := Lib.hid (fun W (h : PStepRow W A l.length l) => p_Takes A c l W h)
  have P2 := Lib.hid (fun W (h : PStepRow W A l.length l) => r_Takes A l.length c l W rfl h)
  have P3 := Lib.hid (fun W (h : PStepRow W A l.length l) => p_Bridges A c l W h hc)
  have P4 := Lib.hid (fun W (h : PStepRow W A l.length l) => r_Bridges A l.length c l W rfl h)
  rw [← her] at P1 P2 P3 P4
  rw [← hq] at P1 P2
  rw [← hb] at P3 P4
  clear her hq hb
  go_enter Try.func3, Try.ntmps3
  go_wp2_with (first
    | (go_at_call 14; (with_reducible refine (P1.out w HR.out).mono ?_); rintro e w2 ⟨⟨v2, rfl, ho2⟩, hb2⟩; obtain ⟨A2, c2, rfl, hc2, hr2⟩ := own_reads' ho2; have HB2 := Lib.hid hb2; have HR2 := Lib.hid hr2; clear hb2 hr2 ho2)
    | (go_at_call 15; (with_reducible refine (P2.out w2 (Kd.C_below HR.out HB2.out)).mono ?_); rintro e w3 ⟨⟨v3, rfl, ho3⟩, hb3⟩; obtain ⟨A3, c3, rfl, hc3, hr3⟩ := own_reads' ho3; have HB3 := Lib.hid (below_step HB2.out hb3); have HR3 := Lib.hid hr3; have HR23 := Lib.hid (Kd.C_below HR2.out hb3); clear hb3 hr3 ho3)
    | (go_at_call 16; (with_reducible refine (P3.out w3 (Kd.C_below HR.out HB3.out)).mono ?_); rintro e w4 ⟨⟨v4, rfl, ho4⟩, hb4⟩; obtain ⟨A4, c4, rfl, hc4, hr4⟩ := own_reads' ho4; have HB4 := Lib.hid (below_step HB3.out hb4); have HR4 := Lib.hid hr4; have HR24 := Lib.hid (Kd.C_below HR23.out hb4); have HR34 := Lib.hid (Kd.C_below HR3.out hb4); clear hb4 hr4 ho4)
    | (go_at_call 17; (with_reducible refine (P4.out w4 (Kd.C_below HR.out HB4.out)).mono ?_); rintro e w5 ⟨⟨v5, rfl, ho5⟩, hb5⟩; obtain ⟨A5, c5, rfl, hc5, hr5⟩ := own_reads' ho5; have HB5 := Lib.hid (below_step HB4.out hb5); have HR5 := Lib.hid hr5; have HR25 := Lib.hid (Kd.C_below HR24.out hb5); have HR35 := Lib.hid (Kd.C_below HR34.out hb5); have HR45 := Lib.hid (Kd.C_below HR4.out hb5); clear hb5 hr5 ho5)
    | (go_at_call 18; (with_reducible refine (same_elems q q A2 A3 c2 c3 w5 HR25.out HR35.out).mono ?_); rintro e w6 ⟨he4, hb4⟩; have he5 : e = .returned (.bool true) := (by rw [he4]; simp); subst he5; have HB6 := Lib.hid (below_step HB5.out hb4); have HR46 := Lib.hid (Kd.C_below HR45.out hb4); have HR56 := Lib.hid (Kd.C_below HR5.out hb4); clear hb4 he4)
    | (go_at_call 19; (with_reducible refine (same_ints b b A4 A5 c4 c5 w6 HR46.out HR56.out).mono ?_); rintro e w7 ⟨he4, hb4⟩; have he5 : e = .returned (.bool true) := (by rw [he4]; simp); subst he5; have HB7 := Lib.hid (below_step HB6.out hb4); clear hb4 he4)
    | (go_at_call 20; (with_reducible refine (known_true _).mono ?_); rintro e w9 ⟨rfl, hb9⟩))
  go_ret
  exact ⟨rfl, below_step HB7.out hb9⟩
end Go.Proofs.Ytemkloildadokaa
namespace Go.Proofs.Ytemkloildadokaa.PiqueTakes
open Go.ChangeShapes Go.WideShapes Go.ChangeAt Go.RowKit
open Go.ChangeMaps (open_string shut_string)
theorem own : ownKnob Try.prog.godebug = none := by kernel_rfl
theorem laidOut : laidOutB Try.prog = true := by kernel_rfl
set_option maxRecDepth 100000 in
theorem lifted (os : Os) (started : os.Started) (H : Type) (enc : TypeId × Value → H) :
    ReturnsInHanded {} Try.checked os 3 .any (Rows.piqueTakesSpec.pre6 enc Try.prog Try.f3 Rows.piqueTakesRow.domain false) (Rows.piqueTakesSpec.post enc Try.prog Try.f3 false true false false) := by
  refine returnsInHanded_of_change_sized (C := Try.checked) own started (by kernel_rfl) Try.func3
    (ChangeSpec.witness6 (enc := enc) (C := Try.checked) false ⟨#[], #[.slice none 0 0], []⟩ 8 (by kernel_rfl) (by kernel_rfl) (by kernel_rfl) (by kernel_rfl)) ?_
  intro W base args ds gs before hval0 hW hcnd hsz0 _
  have hsz : (DataW.weightsEach Try.prog (Try.f3.params.toList ++ Rows.piqueTakesSpec.plain.varTypes Try.prog) (ds ++ gs)).all (· ≤ reachBytes) = true := hsz0
  have hval : ∀ (j : Nat) t v, Try.f3.params[j]? = some t → args[j]? = some v → Value.okWide Try.prog W .any base t v := hval0
  have hW' := hW
  obtain ⟨p, q, hA0, hV, rfl, hfz, hnd⟩ := hW
  have hA : DataW.TrodAll enc Try.prog W 0 (fun _ => true) true Try.f3.params.toList args.toList ds p := hA0
  rw [Try.params3] at hA hval hsz
  obtain ⟨v0, vs0, d0, ds0, p0, q0, hargs, rfl, rfl, h0, r0⟩ := trodAll_cons hA
  obtain ⟨rfl, rfl, rfl⟩ := trodAll_nil r0
  obtain rfl : args = #[v0] := by cases args; simp_all
  obtain ⟨rfl, rfl⟩ := trodVars_none hV
  obtain ⟨a0, len0, cap0, rfl⟩ := okWide_slice Try.underlying22 (hval 0 22 v0 rfl rfl)
  have k0 := h0
  have lt0 : ∀ x ∈ p0, x.block < W.heap.size := by obtain ⟨m, hm⟩ := k0; exact DataW.trod_lt m _ _ _ hm
  have y0 := sized_psteps hsz (j := 0) rfl rfl h0
  have w0 : len0 ≤ cap0 ∧ ∃ l, l.length = len0 ∧ PStepRow W a0 l.length l := by
    obtain ⟨fuel, hf⟩ := h0
    obtain ⟨A, len, cap, l, hcs, hlc, hl, hr⟩ := open_psteprow hf
    simp [Value.cells] at hcs
    obtain ⟨rfl, rfl, rfl⟩ := hcs
    exact ⟨hlc, l, hl, hr⟩
  obtain ⟨hc0, l0, rfl, hr0⟩ := w0
  clear hA0 hval0 hsz0 hsz
  refine (law_takes l0 a0 cap0 W hr0 hc0 y0).mono fun e W' ⟨he, bel⟩ => ?_
  subst he
  exact ⟨_, rfl, _, _, _, [], _, [], hW', trodAll_mk1 (shut_bool Try.underlying4 _), (trodAll_cons_mk (Below.trod laidOut (by kernel_rfl) (of_decide_eq_true (by kernel_rfl)) k0 bel lt0) trodAll_mk0), rfl, bel.frame _, fun h => by cases h⟩
theorem over : Rows.piqueTakesRow.holds Try.pinned (OpenSpec.ofChange Rows.piqueTakesSpec) :=
  OpenClaim.holds_of_wide 3 Try.f3 rfl rfl rfl rfl rfl rfl rfl ⟨rfl, rfl, rfl, rfl, rfl⟩ rfl rfl rfl rfl rfl (by kernel_rfl) Try.func3 (by kernel_rfl)
    (of_decide_eq_true (by kernel_rfl)) (by unfold Func.isWrapper; first | (rw [if_pos (by decide +kernel)]; kernel_rfl) | (rw [if_neg (by decide +kernel)]; exact ⟨rfl, rfl⟩))
    (fun os started H enc _ => lifted os started H enc)
end Go.Proofs.Ytemkloildadokaa.PiqueTakes
namespace Go.Proofs.Ytemkloildadokaa
/-- The row. -/
theorem PiqueTakes_holds : Rows.PiqueTakesSaid := PiqueTakes.over
#print axioms PiqueTakes_holds
end Go.Proofs.Ytemkloildadokaa
