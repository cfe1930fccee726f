/-
  Texts of one hand, laid together: LawSegOpened.
-/
import Derived.Test.YtfmojgdomficlaaZK
import Derived.Test.YtfmojgdomficlaaZM
import Derived.Test.YtfmojgdomficlaaZL
import Derived.Test.YtfmojgdomficlaaRows
import Derived.ProofKit
import Derived.OpenShut
import Derived.ShutString
import Derived.ChangeOld
import Derived.SizedLaws
set_option linter.unusedVariables false
set_option linter.unusedSimpArgs false
/-! For every device: what was opened is formed and whole, and has what was there; opened again it is the same, and a crash of it changes nothing. -/
namespace Go.Proofs.Ytfmojgdomficlaa
open Go.RowKit Go.Shelf Go.Proofs.YtfmojgdomficlaaW.PrintWords

set_option maxRecDepth 100000 in
set_option maxHeartbeats 8000000 in
theorem law_segopened (d : SDisk) (Af Al : Option Addr) (cf cl : Nat) (w : World) (hd : DRows w Af cf Al cl d) (hi : DiskI d) : Calls Try.prog 8 #[.agg #[.slice Af d.files.length cf, .slice Al d.list.length cl]] w fun e w' => e = .returned (.bool true) ∧ Below w.heap.size w w' := by
  have hF : ∀ f ∈ d.files, f.recs.length ≤ 2199023255552 := fun f hf => by have := (hi.1 f hf).2.2.1; omega
  have Hd := Lib.hid hd
  clear hd
  cases hb : diskB d
  · have Hb := Lib.hid hb
    clear hb
    go_enter Try.func8, Try.ntmps8
    go_wp2_with (first
      | (go_at_call 28; (with_reducible refine (ref_Disk d _ _ cf cl _ (Hd.out.later (below_alloc (Below.refl _ _) _)) hF).mono ?_); rintro e w2 ⟨rfl, hb2⟩; rw [Hb.out])
      | (go_at_call 13; (with_reducible refine (law_known _).mono ?_); rintro e w3 ⟨rfl, hb3⟩))
    go_ret
    exact ⟨rfl, below_step (below_step (below_alloc (Below.refl _ _) _) hb2) hb3⟩
  have hok := (disk_iff d).1 hb
  have P1 := Lib.hid (play_open hb)
  have P3 := Lib.hid (play_open3 hb)
  have hrd := reopen_ok hok
  have hrb : diskB (reopenD d) = true := (disk_iff _).2 hrd
  have hth := reopen_there hok
  have hwh : wholeR (reopenD d) = true := (whole_eq hrd).trans (reopen_whole hok)
  have hwb := reopen_whole hok
  have hF1 := ok_small hrd
  have hFt := fits_of hb
  have hFt1 := fits_of hrb
  have Hb := Lib.hid hb
  have Hrb := Lib.hid hrb
  have Hth := Lib.hid hth
  have Hwh := Lib.hid hwh
  have Hwb := Lib.hid hwb
  generalize hx : reopenD d = x at *
  clear hx hrd hok hb hrb hth hwh hwb hi
  go_enter Try.func8, Try.ntmps8
  go_upto_region 1 with fail
  have HC := Lib.hid (Cells.new w #[.slice Af d.files.length cf, .slice Al d.list.length cl] 33)
  have HB := Lib.hid (below_alloc (Below.refl w.heap.size w) (.cells #[.slice Af d.files.length cf, .slice Al d.list.length cl] 33))
  generalize w.alloc (.cells #[.slice Af d.files.length cf, .slice Al d.list.length cl] 33) = w1 at HC HB ⊢
  have q0 := HC.out.cell 0 _ rfl
  have q1 := HC.out.cell 1 _ rfl
  go_upto_region 3 with (go_at_call 28; (with_reducible refine (ref_Disk d _ _ cf cl _ (Hd.out.later HB.out) hF).mono ?_); rintro e w2 ⟨rfl, hb2⟩; rw [Hb.out])
  have HC2 := Lib.hid (HC.out.later hb2)
  have HB2 := Lib.hid (below_step HB.out hb2)
  have HD2 := Lib.hid (Hd.out.later HB2.out)
  clear q0 q1 HC HB hb2 Hd
  refine wp_region_flow [.calm 0, .calm 1, .float 8 [.one 2, .one 3, .free 4, .free 5, .free 6, .free 7], .fence 9, .free 10, .free 11] (Below w2.heap.size w2) (Below w2.heap.size w2) (stable_below _ _ (Nat.le_refl _)) (fun _ h => h) (by kernel_rfl) (by kernel_rfl) (below_drew1 (Below.refl _ _)) ?_
  simp only [pickEnts, pickF, List.getElem?_cons_succ, List.getElem?_cons_zero, List.filterMap_cons, List.filterMap_nil, Option.map_some]
  repeat ((first | refine flow_calm (fun K hK => ?_) | refine flow_free (fun K hK => ?_) | refine float_calm (fun K hK => ?_) | refine float_free (fun K hK => ?_)); go_simp; first | (refine hK _ ?_; clear hK K) | (apply Exists.intro; (refine ⟨fun X => ?_, hK _ ?_⟩); (first | (intro hC; rfl) | rfl | (intro hC; have q := HC2.out.later hC.out; have q0 := q.cell 0 _ rfl; have q1 := q.cell 1 _ rfl; go_simp; done) | (intro hC; have q := HC2.out.later hC.out; have q0 := q.cell 0 _ rfl; have q1 := q.cell 1 _ rfl; go_simp; rfl) | (intro hC; (with_reducible refine (law_do 6 _).mono ?_); rintro e w' ⟨rfl, hb⟩; exact ⟨rfl, hb⟩)); clear hK K))
  refine flow_float (BoxV w2.heap.size #[.slice none 0 0, .slice none 0 0] 33) (BoxV.st _ _ _) ⟨rfl, fun X hX => ?_⟩ ?_
  · go_simp
    exact ⟨below_alloc (Below.refl _ _) _, BoxV.new hX.out.size _ _⟩
  refine float_one (LitV [doS 6]) (LitV.st _) ⟨rfl, fun X hX => ?_⟩ (fun v X0 hX0 hV0 => ?_)
  · go_simp
    exact ⟨below_alloc (Below.refl _ _) _, LitV.new (l := [doS 6]) X (by decide) _ rfl⟩
  obtain ⟨B1, rfl, -⟩ := hV0
  clear hX0
  refine float_one (PlayV x [true] 0) (PlayV.st _ _ _) ⟨rfl, fun X hX => ?_⟩ (fun v X0 hX0 hV0 => ?_)
  · obtain ⟨hx1, ⟨B, e1, hx2⟩⟩ := hX.out
    cases e1
    go_simp
    exact ⟨Below.refl _ _, (play_pure P1.out.1 P1.out.2.1 P1.out.2.2 hFt (by decide) (n := 1) rfl _ _ _ _ _ _ _ (HD2.out.later hx1) hx2 (Nat.le_refl _)).mono fun e w' h => h⟩
  obtain ⟨Af3, cf3, Al3, cl3, Ab3, cb3, rfl, -⟩ := hV0
  clear hX0
  repeat ((first | refine flow_calm (fun K hK => ?_) | refine flow_free (fun K hK => ?_) | refine float_calm (fun K hK => ?_) | refine float_free (fun K hK => ?_)); go_simp; first | (refine hK _ ?_; clear hK K) | (apply Exists.intro; (refine ⟨fun X => ?_, hK _ ?_⟩); (first | (intro hC; rfl) | rfl | (intro hC; skip; go_simp; done) | (intro hC; skip; go_simp; rfl)); clear hK K))
  refine float_land (fun v X0 hX0 hV0 => ?_)
  obtain ⟨B2, rfl, -, -⟩ := hV0
  clear hX0
  refine flow_fence rfl (fun X hX K hK => ?_)
  obtain ⟨⟨⟨hx1, -⟩, ⟨_, _, _, _, _, _, e2, hx4, hx5, hx6⟩⟩, ⟨B, e1, hx2, hx3⟩⟩ := hX.out
  cases e1
  cases e2
  have x0 := hx3.cell 0 _ rfl
  have x1 := hx3.cell 1 _ rfl
  have x2 := hx3.frozen 0
  have x3 := hx3.frozen 1
  go_simp
  obtain ⟨y1, y2, y3⟩ := box_put hx1 hx2 hx3 (.slice Af3 x.files.length cf3) (.slice Al3 x.list.length cl3)
  refine hK.out _ _ (fun Z => Below w2.heap.size w2 Z ∧ Cells Z B2 #[.slice Af3 x.files.length cf3, .slice Al3 x.list.length cl3] 33 ∧ DRows Z Af3 cf3 Al3 cl3 x ∧ Kd.C Kd.bool Z Ab3 1 [true]) (fun Z => Below w2.heap.size w2 Z ∧ Cells Z B2 #[.slice Af3 x.files.length cf3, .slice Al3 x.list.length cl3] 33 ∧ DRows Z Af3 cf3 Al3 cl3 x ∧ Kd.C Kd.bool Z Ab3 1 [true]) (fun Z Z' hZ hb => ⟨below_step hZ.1 hb, hZ.2.1.later hb, hZ.2.2.1.later hb, Kd.C_below hZ.2.2.2 hb⟩) (fun _ h => h) ⟨y1, y2, hx4.off hx3 y3, bools_off hx5 hx3 y3⟩ ?_
  clear hK K hX x0 x1 x2 x3 y1 y2 y3 hx1 hx2 hx3 hx4 hx5 X
  repeat ((first | refine flow_calm (fun K hK => ?_) | refine flow_free (fun K hK => ?_) | refine float_calm (fun K hK => ?_) | refine float_free (fun K hK => ?_)); go_simp; first | (refine hK _ ?_; clear hK K) | (apply Exists.intro; (refine ⟨fun X => ?_, hK _ ?_⟩); (first | (intro hC; rfl) | rfl | (intro hC; skip; go_simp; done) | (intro hC; skip; go_simp; rfl)); clear hK K))
  refine flow_nil ?_
  intro w3 hX
  obtain ⟨hb3, hc3, hd3, ho3⟩ := hX.out
  have HC3 := Lib.hid (HC2.out.later hb3)
  have HB3 := Lib.hid (below_step HB2.out hb3)
  have HD3 := Lib.hid (HD2.out.later hb3)
  have HX3 := Lib.hid hc3
  have HE3 := Lib.hid hd3
  have HO3 := Lib.hid ho3
  clear hX hb3 hc3 hd3 ho3 HC2 HB2 HD2 hx6
  go_upto_region 4 with fail
  refine wp_region_flow [.calm 0, .calm 1, .calm 2, .calm 3, .float 10 [.one 4, .one 5, .free 6, .free 7, .free 8, .free 9], .fence 11, .free 12, .free 13] (Below w3.heap.size w3) (Below w3.heap.size w3) (stable_below _ _ (Nat.le_refl _)) (fun _ h => h) (by kernel_rfl) (by kernel_rfl) (below_drew1 (Below.refl _ _)) ?_
  simp only [pickEnts, pickF, List.getElem?_cons_succ, List.getElem?_cons_zero, List.filterMap_cons, List.filterMap_nil, Option.map_some]
  repeat ((first | refine flow_calm (fun K hK => ?_) | refine flow_free (fun K hK => ?_) | refine float_calm (fun K hK => ?_) | refine float_free (fun K hK => ?_)); go_simp; first | (refine hK _ ?_; clear hK K) | (apply Exists.intro; (refine ⟨fun X => ?_, hK _ ?_⟩); (first | (intro hC; rfl) | rfl | (intro hC; have q := HC3.out.later hC.out; have q0 := q.cell 0 _ rfl; have q1 := q.cell 1 _ rfl; go_simp; done) | (intro hC; have q := HC3.out.later hC.out; have q0 := q.cell 0 _ rfl; have q1 := q.cell 1 _ rfl; go_simp; rfl) | (intro hC; (first | (with_reducible refine (law_do 6 _).mono ?_) | (with_reducible refine (law_crash 0 true _).mono ?_)); rintro e w' ⟨rfl, hb⟩; exact ⟨rfl, hb⟩)); clear hK K))
  refine flow_float (BoxV w3.heap.size #[.slice none 0 0, .slice none 0 0] 33) (BoxV.st _ _ _) ⟨rfl, fun X hX => ?_⟩ ?_
  · go_simp
    exact ⟨below_alloc (Below.refl _ _) _, BoxV.new hX.out.size _ _⟩
  refine float_one (LitV [doS 6, doS 6, crashS 0 true]) (LitV.st _) ⟨rfl, fun X hX => ?_⟩ (fun v X0 hX0 hV0 => ?_)
  · go_simp
    exact ⟨below_alloc (Below.refl _ _) _, LitV.new (l := [doS 6, doS 6, crashS 0 true]) X (by decide) _ rfl⟩
  obtain ⟨B1', rfl, -⟩ := hV0
  clear hX0
  refine float_one (PlayV x [true, true, true] 0) (PlayV.st _ _ _) ⟨rfl, fun X hX => ?_⟩ (fun v X0 hX0 hV0 => ?_)
  · obtain ⟨hx1, ⟨B, e1, hx2⟩⟩ := hX.out
    cases e1
    go_simp
    exact ⟨Below.refl _ _, (play_pure P3.out.1 P3.out.2.1 P3.out.2.2 hFt (by decide) (n := 3) rfl _ _ _ _ _ _ _ (HD3.out.later hx1) hx2 (Nat.le_refl _)).mono fun e w' h => h⟩
  obtain ⟨Af4, cf4, Al4, cl4, Ab4, cb4, rfl, -⟩ := hV0
  clear hX0
  repeat ((first | refine flow_calm (fun K hK => ?_) | refine flow_free (fun K hK => ?_) | refine float_calm (fun K hK => ?_) | refine float_free (fun K hK => ?_)); go_simp; first | (refine hK _ ?_; clear hK K) | (apply Exists.intro; (refine ⟨fun X => ?_, hK _ ?_⟩); (first | (intro hC; rfl) | rfl | (intro hC; skip; go_simp; done) | (intro hC; skip; go_simp; rfl)); clear hK K))
  refine float_land (fun v X0 hX0 hV0 => ?_)
  obtain ⟨B4, rfl, -, -⟩ := hV0
  clear hX0
  refine flow_fence rfl (fun X hX K hK => ?_)
  obtain ⟨⟨⟨hx1, -⟩, ⟨_, _, _, _, _, _, e2, hx4, hx5, hx6⟩⟩, ⟨B, e1, hx2, hx3⟩⟩ := hX.out
  cases e1
  cases e2
  have x0 := hx3.cell 0 _ rfl
  have x1 := hx3.cell 1 _ rfl
  have x2 := hx3.frozen 0
  have x3 := hx3.frozen 1
  go_simp
  obtain ⟨y1, y2, y3⟩ := box_put hx1 hx2 hx3 (.slice Af4 x.files.length cf4) (.slice Al4 x.list.length cl4)
  refine hK.out _ _ (fun Z => Below w3.heap.size w3 Z ∧ Cells Z B4 #[.slice Af4 x.files.length cf4, .slice Al4 x.list.length cl4] 33 ∧ DRows Z Af4 cf4 Al4 cl4 x) (fun Z => Below w3.heap.size w3 Z ∧ Cells Z B4 #[.slice Af4 x.files.length cf4, .slice Al4 x.list.length cl4] 33 ∧ DRows Z Af4 cf4 Al4 cl4 x) (fun Z Z' hZ hb => ⟨below_step hZ.1 hb, hZ.2.1.later hb, hZ.2.2.later hb⟩) (fun _ h => h) ⟨y1, y2, hx4.off hx3 y3⟩ ?_
  clear hK K hX x0 x1 x2 x3 y1 y2 y3 hx1 hx2 hx3 hx4 hx5 X
  repeat ((first | refine flow_calm (fun K hK => ?_) | refine flow_free (fun K hK => ?_) | refine float_calm (fun K hK => ?_) | refine float_free (fun K hK => ?_)); go_simp; first | (refine hK _ ?_; clear hK K) | (apply Exists.intro; (refine ⟨fun X => ?_, hK _ ?_⟩); (first | (intro hC; rfl) | rfl | (intro hC; skip; go_simp; done) | (intro hC; skip; go_simp; rfl)); clear hK K))
  refine flow_nil ?_
  intro w4 hX
  obtain ⟨hb4, hc4, hd4⟩ := hX.out
  have HC4 := Lib.hid (HC3.out.later hb4)
  have HB4 := Lib.hid (below_step HB3.out hb4)
  have HD4 := Lib.hid (HD3.out.later hb4)
  have HX4 := Lib.hid (HX3.out.later hb4)
  have HE4 := Lib.hid (HE3.out.later hb4)
  have HY4 := Lib.hid hc4
  have HG4 := Lib.hid hd4
  obtain ⟨xb, ab, -, -, hxb, rfl, y5⟩ := bool_at (Kd.C_below HO3.out hb4) 0 (by decide)
  obtain rfl : true = xb := Option.some.inj hxb
  replace y5 : w4.cell? ab = _ := y5
  clear hX hb4 hc4 hd4 HC3 HB3 HD3 hx6 HO3 HX3 HE3 hxb
  have x0 := HX4.out.cell 0 _ rfl
  have x1 := HX4.out.cell 1 _ rfl
  go_upto_region 7 with (first
    | (go_at_call 28; (with_reducible refine (ref_Disk x _ _ _ _ _ HE4.out hF1).mono ?_); rintro e w5 ⟨rfl, hb5⟩; rw [Hrb.out]; have h5 := HX4.out.later hb5; have x50 := h5.cell 0 _ rfl; have x51 := h5.cell 1 _ rfl)
    | (go_at_call 29; (with_reducible refine (ref_WholeOf x _ _ _ _ _ (HE4.out.later hb5)).mono ?_); rintro e w6 ⟨rfl, hb6⟩; rw [Hwh.out]; have hb46 := below_step hb5 hb6; have h6 := HX4.out.later hb46; have x60 := h6.cell 0 _ rfl; have x61 := h6.cell 1 _ rfl; have g6 := HY4.out.later hb46; have z60 := g6.cell 0 _ rfl; have z61 := g6.cell 1 _ rfl)
    | (go_at_call 21; (with_reducible refine (ref_Same_self x _ _ _ _ _ _ _ _ _ (HE4.out.later hb46) (HG4.out.later hb46)).mono ?_); rintro e w7 ⟨rfl, hb7⟩; have hb47 := below_step hb46 hb7))
  have HC7 := Lib.hid (HC4.out.later hb47)
  have HB7 := Lib.hid (below_step HB4.out hb47)
  have HD7 := Lib.hid (HD4.out.later hb47)
  have HX7 := Lib.hid (HX4.out.later hb47)
  have HE7 := Lib.hid (HE4.out.later hb47)
  clear x0 x1 x50 x51 x60 x61 z60 z61 h5 h6 g6 hb5 hb6 hb46 hb7 hb47 y5 HC4 HB4 HD4 HX4 HE4 HY4 HG4
  have q0 := HC7.out.cell 0 _ rfl
  have q1 := HC7.out.cell 1 _ rfl
  go_upto_region 10 with (first
    | (go_at_call 14; (with_reducible refine (kn_news_n Hb.out rfl (thereOf d).length rfl _ _ _ _ _ HD7.out).mono ?_); rintro e w8 ⟨A8, c8, rfl, h8, hc8, hb8⟩; have k8 := HX7.out.later hb8; have x80 := k8.cell 0 _ rfl; have x81 := k8.cell 1 _ rfl)
    | (go_at_call 14; (with_reducible refine (kn_news_n Hrb.out Hth.out (thereOf d).length rfl _ _ _ _ _ (HE7.out.later hb8)).mono ?_); rintro e w9 ⟨A9, c9, rfl, h9, hc9, hb9⟩; have hb79 := below_step hb8 hb9; have k9 := HX7.out.later hb79; have x90 := k9.cell 0 _ rfl; have x91 := k9.cell 1 _ rfl)
    | (go_at_call 16; (with_reducible refine (seg_Whole x _ _ _ _ _ (HE7.out.later hb79) hFt1).mono ?_); rintro e w10 ⟨rfl, hb10⟩; rw [Hrb.out, Hwb.out]))
  have R8 := Lib.hid (Kd.C_below h8 (below_step hb9 hb10))
  have R9 := Lib.hid (Kd.C_below h9 hb10)
  have HB10 := Lib.hid (below_step HB7.out (below_step hb79 hb10))
  clear q0 q1 x80 x81 x90 x91 k8 k9 h8 h9 hb8 hb9 hb79 hb10 HC7 HD7 HX7 HE7 HB7
  go_wp2_with (first
    | (go_at_call 34; (with_reducible refine (kn_eq_news (thereOf d) (thereOf d).length rfl _ _ _ _ _ R8.out R9.out).mono ?_); rintro e w11 ⟨rfl, hb11⟩)
    | (go_at_call 13; (with_reducible refine (law_known _).mono ?_); rintro e w12 ⟨rfl, hb12⟩))
  go_ret
  exact ⟨rfl, below_step (below_step HB10.out hb11) hb12⟩
end Go.Proofs.Ytfmojgdomficlaa
namespace Go.Proofs.Ytfmojgdomficlaa.SegOpened
open Go.ChangeShapes Go.WideShapes Go.ChangeAt Go.RowKit
open Go.ChangeMaps (open_string shut_string)
theorem own : ownKnob Try.prog.godebug = none := by kernel_rfl
theorem laidOut : laidOutB Try.prog = true := by kernel_rfl
set_option maxRecDepth 100000 in
theorem lifted (os : Os) (started : os.Started) (H : Type) (enc : TypeId × Value → H) :
    ReturnsInHanded {} Try.checked os 8 .any (Rows.segOpenedSpec.pre6 enc Try.prog Try.f8 Rows.segOpenedRow.domain false) (Rows.segOpenedSpec.post enc Try.prog Try.f8 false true false false) := by
  refine returnsInHanded_of_change_sized (C := Try.checked) own started (by kernel_rfl) Try.func8
    (ChangeSpec.witness6 (enc := enc) (C := Try.checked) false ⟨#[], #[.agg #[.slice none 0 0, .slice none 0 0]], []⟩ 8 (by kernel_rfl) (by kernel_rfl) (by kernel_rfl) (by kernel_rfl)) ?_
  intro W base args ds gs before hval0 hW hcnd hsz0 _
  have hsz : (DataW.weightsEach Try.prog (Try.f8.params.toList ++ Rows.segOpenedSpec.plain.varTypes Try.prog) (ds ++ gs)).all (· ≤ reachBytes) = true := hsz0
  have hval : ∀ (j : Nat) t v, Try.f8.params[j]? = some t → args[j]? = some v → Value.okWide Try.prog W .any base t v := hval0
  have hW' := hW
  obtain ⟨p, q, hA0, hV, rfl, hfz, hnd⟩ := hW
  have hA : DataW.TrodAll enc Try.prog W 0 (fun _ => true) true Try.f8.params.toList args.toList ds p := hA0
  rw [Try.params8] at hA hval hsz
  obtain ⟨v0, vs0, d0, ds0, p0, q0, hargs, rfl, rfl, h0, r0⟩ := trodAll_cons hA
  obtain ⟨rfl, rfl, rfl⟩ := trodAll_nil r0
  obtain rfl : args = #[v0] := by cases args; simp_all
  obtain ⟨rfl, rfl⟩ := trodVars_none hV
  have k0 := h0
  have lt0 : ∀ x ∈ p0, x.block < W.heap.size := by obtain ⟨m, hm⟩ := k0; exact DataW.trod_lt m _ _ _ hm
  obtain ⟨D0, Af0, Al0, cf0, cl0, rfl, hd0, hi0⟩ := open_disk (hval 0 33 v0 rfl rfl) h0 (small_of hsz (j := 0) rfl rfl)
  clear hA0 hval0 hsz0 hsz
  refine (law_segopened D0 Af0 Al0 cf0 cl0 W hd0 hi0).mono fun e W' ⟨he, bel⟩ => ?_
  subst he
  exact ⟨_, rfl, _, _, _, [], _, [], hW', trodAll_mk1 (shut_bool Try.underlying4 _), (trodAll_cons_mk (Below.trod laidOut (by kernel_rfl) (of_decide_eq_true (by kernel_rfl)) k0 bel lt0) trodAll_mk0), rfl, bel.frame _, fun h => by cases h⟩
theorem over : Rows.segOpenedRow.holds Try.pinned (OpenSpec.ofChange Rows.segOpenedSpec) :=
  OpenClaim.holds_of_wide 8 Try.f8 rfl rfl rfl rfl rfl rfl rfl ⟨rfl, rfl, rfl, rfl, rfl⟩ rfl rfl rfl rfl rfl (by kernel_rfl) Try.func8 (by kernel_rfl)
    (of_decide_eq_true (by kernel_rfl)) (by unfold Func.isWrapper; first | (rw [if_pos (by decide +kernel)]; kernel_rfl) | (rw [if_neg (by decide +kernel)]; exact ⟨rfl, rfl⟩))
    (fun os started H enc _ => lifted os started H enc)
end Go.Proofs.Ytfmojgdomficlaa.SegOpened
namespace Go.Proofs.Ytfmojgdomficlaa
/-- The row. -/
theorem SegOpened_holds : Rows.SegOpenedSaid := SegOpened.over
#print axioms SegOpened_holds
end Go.Proofs.Ytfmojgdomficlaa
