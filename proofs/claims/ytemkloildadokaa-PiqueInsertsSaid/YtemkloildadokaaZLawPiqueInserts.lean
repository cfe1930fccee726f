/-
  Texts of one hand, laid together: LawPiqueInserts.
-/
import Derived.Test.YtemkloildadokaaZD
import Derived.Test.YtemkloildadokaaZO
import Derived.Test.YtemkloildadokaaZE
import Derived.Test.YtemkloildadokaaRows
import Derived.ProofKit
import Derived.OpenShut
import Derived.ShutString
import Derived.ChangeOld
import Derived.SizedLaws
set_option linter.unusedVariables false
set_option linter.unusedSimpArgs false
/-! For every list of steps and every step, the line with the step, and the walk, are the reference's, or the error; what is handed in stays, and what is returned stays when that is changed; and the chapter's examples are as they are stated. -/
namespace Go.Proofs.Ytemkloildadokaa
open Go.RowKit Go.Shelf Go.Proofs.YtemkloildadokaaW.PrintWords
set_option maxRecDepth 100000 in
set_option maxHeartbeats 16000000 in
theorem law_inserts (l : List PStep) (A : Option Addr) (c : Nat) (s : PStep) (w : World) (hr : PStepRow w A l.length l) (hc : l.length ≤ c) (hs : l.length * 24 ≤ 140737488351232) :
    Calls Try.prog 4 #[.slice A l.length c, .agg #[.int .i64 s.at_, .int .i64 s.do_, .int .i64 s.key]] w fun e w' => e = .returned (.bool true) ∧ Below w.heap.size w w' := by
  have hmx : l.length ≤ 9223372036854775807 := hr.2.1
  have P1 := Lib.hid (fun A c W (h : PStepRow W A l.length l) => p_Insert A c l s W h)
  have P2 := Lib.hid (fun W (h : PStepRow W A l.length l) => r_Insert A l.length c l s W rfl h hc)
  simp only [insert_R] at P2
  obtain ⟨r, hre⟩ : ∃ r, r = insertE l s := ⟨_, rfl⟩
  rw [← hre] at P1 P2
  have HK := Lib.hid (Cells.new w #[.int .i64 s.at_, .int .i64 s.do_, .int .i64 s.key] 36)
  have HB1 := Lib.hid (below_alloc (Below.refl w.heap.size w) (.cells #[.int .i64 s.at_, .int .i64 s.do_, .int .i64 s.key] 36))
  have HR := Lib.hid (Kd.C_below hr HB1.out)
  clear hre hr
  go_enter Try.func4, Try.ntmps4
  go_upto_region 1 with fail
  generalize w.alloc (.cells #[.int .i64 s.at_, .int .i64 s.do_, .int .i64 s.key] 36) = w1 at HK HB1 HR ⊢
  go_upto_region 2 with (at_builtin; refine Kd.R_append_rows kPStep (w0 := w1) w1.heap.size rfl (.const (.slice none 0 0)) (.tmp 13) 22 36 zStep 24 rfl Try.underlying22 info_pstep rfl (by decide) (by omega) _ ([] : List PStep) l _ _ _ (fun _ => True) (fun _ => False) rfl rfl (Kd.R_nil _ _ _ _ _) HR.out (fun x cs h => pstep_KM _ _ _ _ x cs h) (fun _ h => h.elim) (fun _ _ => trivial) (Below.refl _ _) (Nat.le_refl _) (by rw [List.length_nil]; omega) ?_; intro v2 w2 r1 r2 r3 r4; rw [List.nil_append] at r1; obtain ⟨Am, cm, rfl, hcm, hrm⟩ := own_reads' r1; have HM2 := Lib.hid r1; have HRm2 := Lib.hid hrm; have Hb2 := Lib.hid r2; have hk2 := HK.out.later r2; have s0 := hk2.cell 0 _ rfl; have s1 := hk2.cell 1 _ rfl; have s2 := hk2.cell 2 _ rfl; have HK2 := Lib.hid hk2; clear r1 r2 r3 r4 hrm)
  have HB2 := Lib.hid (below_step HB1.out Hb2.out)
  have HMb := Lib.hid (show ∀ g, (Value.slice Am l.length cm).ownBlock = some g → g < w2.heap.size from fun g hg => by obtain ⟨_, cs, hc⟩ := own_ty HM2.out hg; exact (Array.getElem?_eq_some_iff.1 hc).1)
  go_upto_region 3 with (go_at_call 21; (with_reducible refine (P1.out Am cm w2 HRm2.out).mono ?_); rintro e w3 ⟨⟨vo2, vt2, rfl, ho2, ht2⟩, hb2⟩; have HO3 := Lib.hid ho2; obtain ⟨A2, c2, rfl, hc2, hr2⟩ := own_reads' ho2; obtain ⟨B2, d2, rfl, hd2, hs2⟩ := own_reads' ht2; have HB3 := Lib.hid hb2; have HR3 := Lib.hid hr2; have HS3 := Lib.hid hs2; clear hb2 hr2 hs2 ho2 ht2 hk2 s0 s1 s2)
  have HX2 := Lib.hid (Cells.new w3 #[.bool r.more, .slice B2 r.spans.length d2] 39)
  have hb4 := below_alloc (Below.refl w3.heap.size w3) (.cells #[.bool r.more, .slice B2 r.spans.length d2] 39)
  have hb24 := below_step HB3.out hb4
  have HB4 := Lib.hid (below_step HB2.out hb24)
  have HM4 := Lib.hid (Kd.R_below HM2.out hb24)
  have HO4 := Lib.hid (Kd.R_below HO3.out hb4)
  have HS4 := Lib.hid (Kd.C_below HS3.out hb4)
  have HK4 := Lib.hid (HK2.out.later hb24)
  have HR4 := Lib.hid (Kd.C_below HR.out (below_step Hb2.out hb24))
  clear hb4 hb24 HR3
  generalize w3.alloc (.cells #[.bool r.more, .slice B2 r.spans.length d2] 39) = w4 at HX2 HB4 HM4 HO4 HS4 HK4 HR4 ⊢
  have s0 := HK4.out.cell 0 _ rfl
  have s1 := HK4.out.cell 1 _ rfl
  have s2 := HK4.out.cell 2 _ rfl
  go_upto_region 4 with (go_at_call 22; (with_reducible refine (P2.out w4 HR4.out).mono ?_); rintro e w5 ⟨⟨vo3, vt3, rfl, ho3, ht3⟩, hb3⟩; have HQ5 := Lib.hid ho3; obtain ⟨A3, c3, rfl, hc3, hr3⟩ := own_reads' ho3; obtain ⟨B3, d3, rfl, hd3, hs3⟩ := own_reads' ht3; have HB5 := Lib.hid hb3; have HS5 := Lib.hid hs3; clear hb3 hr3 hs3 ho3 ht3 s0 s1 s2)
  have HX3 := Lib.hid (Cells.new w5 #[.bool r.more, .slice B3 r.spans.length d3] 39)
  have hb4 := below_alloc (Below.refl w5.heap.size w5) (.cells #[.bool r.more, .slice B3 r.spans.length d3] 39)
  have hb45 := below_step HB5.out hb4
  have HB6 := Lib.hid (below_step HB4.out hb45)
  have HM6 := Lib.hid (Kd.R_below HM4.out hb45)
  have HO6 := Lib.hid (Kd.R_below HO4.out hb45)
  have HQ6 := Lib.hid (Kd.R_below HQ5.out hb4)
  have HSX2 := Lib.hid (Kd.C_below HS4.out hb45)
  have HSX3 := Lib.hid (Kd.C_below HS5.out hb4)
  have HXX2 := Lib.hid (HX2.out.later hb45)
  have HR6 := Lib.hid (Kd.C_below HR4.out hb45)
  have hw24 : w2.heap.size ≤ w4.heap.size := Nat.le_trans HB3.out.size (Nat.le_of_lt HX2.out.lt)
  have HQL6 := Lib.hid (Kd.R_lower HQ6.out hw24)
  clear hb4 hb45 HM4 HO4 HQ5 HS4 HS5 HX2 HK HK2 HK4 HO3 HS3 HQ6
  generalize w5.alloc (.cells #[.bool r.more, .slice B3 r.spans.length d3] 39) = w6 at HX3 HB6 HM6 HO6 HQL6 HSX2 HSX3 HXX2 HR6 ⊢
  have x0 := HXX2.out.cell 0 _ rfl
  have x1 := HXX2.out.cell 1 _ rfl
  have y0 := HX3.out.cell 0 _ rfl
  have y1 := HX3.out.cell 1 _ rfl
  go_wp2_with (first
    | (go_at_call 23; first
      | ((with_reducible refine (same_steps r.line r.line A2 A3 c2 c3 w6 (own_slice0 HO6.out).2 (own_slice0 HQL6.out).2).mono ?_); rintro e w7 ⟨he4, hb4⟩; have he5 : e = .returned (.bool true) := (by rw [he4]; simp); subst he5; have HB67 := Lib.hid hb4; have HSY2 := Lib.hid (Kd.C_below HSX2.out hb4); have HSY3 := Lib.hid (Kd.C_below HSX3.out hb4); have x0 := (HXX2.out.later hb4).cell 0 _ rfl; have x1 := (HXX2.out.later hb4).cell 1 _ rfl; have y0 := (HX3.out.later hb4).cell 0 _ rfl; have y1 := (HX3.out.later hb4).cell 1 _ rfl; clear hb4 he4)
      | ((with_reducible refine (same_steps l l Am A cm c w8 (own_slice0 (Kd.R_below HM6.out HB68.out)).2 (Kd.C_below HR6.out HB68.out)).mono ?_); rintro e w9 ⟨he4, hb4⟩; have he5 : e = .returned (.bool true) := (by rw [he4]; simp); subst he5; have HB69 := Lib.hid (below_step HB68.out hb4); clear hb4 he4))
    | (go_at_call 24; (with_reducible refine (same_walk r.more r.more r.spans r.spans B2 B3 d2 d3 w7 HSY2.out HSY3.out).mono ?_); rintro e w8 ⟨he4, hb4⟩; have he5 : e = .returned (.bool true) := (by rw [he4]; simp); subst he5; have HB68 := Lib.hid (below_step HB67.out hb4); clear hb4 he4))
  have HB9 := Lib.hid (below_step HB6.out HB69.out)
  have HM9 := Lib.hid (Kd.R_below HM6.out HB69.out)
  have HO9 := Lib.hid (Kd.R_below HO6.out HB69.out)
  have HQ9 := Lib.hid (Kd.R_below HQL6.out HB69.out)
  clear HM6 HO6 HQL6
  go_loopw [12] (fun i wr => ∃ k : Nat, k ≤ l.length ∧ i = .int .i64 k ∧ (∃ ml : List PStep, ml.length = l.length ∧ Own kPStep 36 wr w1.heap.size (.slice Am l.length cm) ml) ∧ Own kPStep 36 wr w2.heap.size (.slice A2 r.line.length c2) r.line ∧ Own kPStep 36 wr w2.heap.size (.slice A3 r.line.length c3) r.line ∧ Below w.heap.size w wr) (fun i _ => l.length - (intOf i).toNat)
  case atStart => exact ⟨0, Nat.zero_le _, rfl, ⟨l, rfl, HM9.out⟩, HO9.out, HQ9.out, HB9.out⟩
  case round =>
    obtain ⟨k, hk, rfl, ⟨ml, hml, hM⟩, hO, hQ, hB⟩ := hrel
    have HO := Lib.hid hO
    have HQ := Lib.hid hQ
    have HB := Lib.hid hB
    have Hml := Lib.hid hml
    clear hO hQ hB
    by_cases hlt : k < l.length
    · obtain ⟨x, hx⟩ : ∃ x, ml[k]? = some x := ⟨_, List.getElem?_eq_getElem (by omega)⟩
      obtain ⟨g, hA1, hg0, hgl, cx, gf⟩ := own_cellsK kPStep pstepCells (fun _ _ _ h => kPStep_open h) (fun _ => rfl) hM hx
      subst hA1
      have hgw := HMb.out g rfl
      have hg1 : w.heap.size ≤ g := Nat.le_trans HB1.out.size hg0
      have h1 := (own_setK kPStep pstepCells (fun _ _ _ h => kPStep_open h) (fun _ _ _ x => kPStep_mkM _ _ _ x) hM hx ⟨0, x.do_, x.key⟩ 0 (by decide) (.int .i64 0) rfl).1
      have h2 := (own_setK kPStep pstepCells (fun _ _ _ h => kPStep_open h) (fun _ _ _ x => kPStep_mkM _ _ _ x) h1 (List.getElem?_set_self (by omega)) ⟨0, 0, x.key⟩ 1 (by decide) (.int .i64 0) rfl).1
      have h3 := (own_setK kPStep pstepCells (fun _ _ _ h => kPStep_open h) (fun _ _ _ x => kPStep_mkM _ _ _ x) h2 (List.getElem?_set_self (by simp; omega)) ⟨0, 0, 0⟩ 2 (by decide) (.int .i64 0) rfl).1
      have H3 := Lib.hid (show ∃ ml : List PStep, ml.length = l.length ∧ Own kPStep 36 (((wr.setCell ⟨g, k * 3, none⟩ (.int .i64 0)).setCell ⟨g, k * 3 + 1, none⟩ (.int .i64 0)).setCell ⟨g, k * 3 + 2, none⟩ (.int .i64 0)) w1.heap.size (.slice (some ⟨g, 0, none⟩) l.length cm) ml from ⟨_, by simp [hml], h3⟩)
      have e0 : wr.cell? ⟨g, k * 3, none⟩ = some (.int .i64 x.at_) := cx 0 _ rfl
      have e1 : wr.cell? ⟨g, k * 3 + 1, none⟩ = some (.int .i64 x.do_) := cx 1 _ rfl
      have e2 : wr.cell? ⟨g, k * 3 + 2, none⟩ = some (.int .i64 x.key) := cx 2 _ rfl
      have yf := gf
      have hlt' : (k : Int) < (l.length : Int) := by omega
      clear h1 h2 h3 hM cx gf hml hx
      go_wp2
      exact ⟨⟨k + 1, by omega, by go_num, H3.out, R_set_low (R_set_low (R_set_low HO.out (p := ⟨g, k * 3, none⟩) hgw _) (p := ⟨g, k * 3 + 1, none⟩) hgw _) (p := ⟨g, k * 3 + 2, none⟩) hgw _, R_set_low (R_set_low (R_set_low HQ.out (p := ⟨g, k * 3, none⟩) hgw _) (p := ⟨g, k * 3 + 1, none⟩) hgw _) (p := ⟨g, k * 3 + 2, none⟩) hgw _, ((HB.out.setCell (p := ⟨g, k * 3, none⟩) hg1 _).setCell (p := ⟨g, k * 3 + 1, none⟩) hg1 _).setCell (p := ⟨g, k * 3 + 2, none⟩) hg1 _⟩, by simp [intOf]; omega⟩
    · have hlt' : ¬ (k : Int) < (l.length : Int) := by omega
      clear hM hml
      go_wp2_with (first
        | (go_at_call 23; (with_reducible refine (same_steps r.line r.line A2 A3 c2 c3 wr (own_slice0 HO.out).2 (own_slice0 HQ.out).2).mono ?_); rintro e w10 ⟨he4, hb4⟩; have he5 : e = .returned (.bool true) := (by rw [he4]; simp); subst he5; have HB10 := Lib.hid (below_step HB.out hb4); clear hb4 he4)
        | (go_at_call 20; (with_reducible refine (known_true _).mono ?_); rintro e w11 ⟨rfl, hb11⟩))
      go_ret
      exact ⟨rfl, below_step HB10.out hb11⟩
end Go.Proofs.Ytemkloildadokaa
namespace Go.Proofs.Ytemkloildadokaa.PiqueInserts
open Go.ChangeShapes Go.WideShapes Go.ChangeAt Go.RowKit
open Go.ChangeMaps (open_string shut_string)
theorem own : ownKnob Try.prog.godebug = none := by kernel_rfl
theorem laidOut : laidOutB Try.prog = true := by kernel_rfl
set_option maxRecDepth 100000 in
theorem lifted (os : Os) (started : os.Started) (H : Type) (enc : TypeId × Value → H) :
    ReturnsInHanded {} Try.checked os 4 .any (Rows.piqueInsertsSpec.pre6 enc Try.prog Try.f4 Rows.piqueInsertsRow.domain false) (Rows.piqueInsertsSpec.post enc Try.prog Try.f4 false true false false) := by
  refine returnsInHanded_of_change_sized (C := Try.checked) own started (by kernel_rfl) Try.func4
    (ChangeSpec.witness6 (enc := enc) (C := Try.checked) false ⟨#[], #[.slice none 0 0, .agg #[.int .i64 0, .int .i64 0, .int .i64 0]], []⟩ 8 (by kernel_rfl) (by kernel_rfl) (by kernel_rfl) (by kernel_rfl)) ?_
  intro W base args ds gs before hval0 hW hcnd hsz0 _
  have hsz : (DataW.weightsEach Try.prog (Try.f4.params.toList ++ Rows.piqueInsertsSpec.plain.varTypes Try.prog) (ds ++ gs)).all (· ≤ reachBytes) = true := hsz0
  have hval : ∀ (j : Nat) t v, Try.f4.params[j]? = some t → args[j]? = some v → Value.okWide Try.prog W .any base t v := hval0
  have hW' := hW
  obtain ⟨p, q, hA0, hV, rfl, hfz, hnd⟩ := hW
  have hA : DataW.TrodAll enc Try.prog W 0 (fun _ => true) true Try.f4.params.toList args.toList ds p := hA0
  rw [Try.params4] at hA hval hsz
  obtain ⟨v0, vs0, d0, ds0, p0, q0, hargs, rfl, rfl, h0, r0⟩ := trodAll_cons hA
  obtain ⟨v1, vs1, d1, ds1, p1, q1, rfl, rfl, rfl, h1, r1⟩ := trodAll_cons r0
  obtain ⟨rfl, rfl, rfl⟩ := trodAll_nil r1
  obtain rfl : args = #[v0, v1] := by cases args; simp_all
  obtain ⟨rfl, rfl⟩ := trodVars_none hV
  obtain ⟨a0, len0, cap0, rfl⟩ := okWide_slice Try.underlying22 (hval 0 22 v0 rfl rfl)
  have k0 := h0
  have lt0 : ∀ x ∈ p0, x.block < W.heap.size := by obtain ⟨m, hm⟩ := k0; exact DataW.trod_lt m _ _ _ hm
  have y0 := sized_psteps hsz (j := 0) rfl rfl h0
  have w0 : len0 ≤ cap0 ∧ ∃ l, l.length = len0 ∧ PStepRow W a0 l.length l := by
    obtain ⟨fuel, hf⟩ := h0
    obtain ⟨A, len, cap, l, hcs, hlc, hl, hr⟩ := open_psteprow hf
    simp [Value.cells] at hcs
    obtain ⟨rfl, rfl, rfl⟩ := hcs
    exact ⟨hlc, l, hl, hr⟩
  obtain ⟨hc0, l0, rfl, hr0⟩ := w0
  have k1 := h1
  have lt1 : ∀ x ∈ p1, x.block < W.heap.size := by obtain ⟨m, hm⟩ := k1; exact DataW.trod_lt m _ _ _ hm
  obtain ⟨n1, rfl⟩ := open_pstepval (hval 1 36 v1 rfl rfl) h1
  clear hA0 hval0 hsz0 hsz
  refine (law_inserts l0 a0 cap0 n1 W hr0 hc0 y0).mono fun e W' ⟨he, bel⟩ => ?_
  subst he
  exact ⟨_, rfl, _, _, _, [], _, [], hW', trodAll_mk1 (shut_bool Try.underlying4 _), (trodAll_cons_mk (Below.trod laidOut (by kernel_rfl) (of_decide_eq_true (by kernel_rfl)) k0 bel lt0) (trodAll_cons_mk (Below.trod laidOut (by kernel_rfl) (of_decide_eq_true (by kernel_rfl)) k1 bel lt1) trodAll_mk0)), rfl, bel.frame _, fun h => by cases h⟩
theorem over : Rows.piqueInsertsRow.holds Try.pinned (OpenSpec.ofChange Rows.piqueInsertsSpec) :=
  OpenClaim.holds_of_wide 4 Try.f4 rfl rfl rfl rfl rfl rfl rfl ⟨rfl, rfl, rfl, rfl, rfl⟩ rfl rfl rfl rfl rfl (by kernel_rfl) Try.func4 (by kernel_rfl)
    (of_decide_eq_true (by kernel_rfl)) (by unfold Func.isWrapper; first | (rw [if_pos (by decide +kernel)]; kernel_rfl) | (rw [if_neg (by decide +kernel)]; exact ⟨rfl, rfl⟩))
    (fun os started H enc _ => lifted os started H enc)
end Go.Proofs.Ytemkloildadokaa.PiqueInserts
namespace Go.Proofs.Ytemkloildadokaa
/-- The row. -/
theorem PiqueInserts_holds : Rows.PiqueInsertsSaid := PiqueInserts.over
#print axioms PiqueInserts_holds
end Go.Proofs.Ytemkloildadokaa
