/-
  Texts of one hand, laid together: LawSegKnown.
-/
import Derived.Test.YtfmojgdomficlaaZK
import Derived.Test.YtfmojgdomficlaaRows
import Derived.ProofKit
import Derived.OpenShut
import Derived.ShutString
import Derived.ChangeOld
import Derived.SizedLaws
set_option linter.unusedVariables false
set_option linter.unusedSimpArgs false
/-! The chapter's examples of devices are as they are stated. -/
namespace Go.Proofs.Ytfmojgdomficlaa
open Go.RowKit Go.Shelf Go.Proofs.YtfmojgdomficlaaW.PrintWords

/-- What the first loop's round asks. -/
theorem round_d (i : Nat) (hi : i < 2) : (playOf beginD (threeS ++ [crashS i false, doS 6])).2 = 0 ∧ diskB (exD i) = true ∧ thereOf (exD i) = [sayN 1 1, sayN 2 1].take (i + 1) := by
  obtain rfl | rfl : i = 0 ∨ i = 1 := by omega
  · exact known_d0
  · exact known_d1
set_option maxRecDepth 100000 in
set_option maxHeartbeats 16000000 in
theorem law_segknown (w : World) : Calls Try.prog 10 #[] w fun e w' => e = .returned (.bool true) ∧ Below w.heap.size w w' := by
  go_enter Try.func10, Try.ntmps10
  have HB := Below.refl w.heap.size w
  go_upto_region 2 with (first
    | (go_at_call 38; (with_reducible refine (law_Say _ _ _ (by decide) (by decide)).mono ?_); rintro e w2 ⟨rfl, hb2⟩; have HB := below_step HB hb2; clear hb2)
    | (go_at_call 37; (with_reducible refine (law_write ⟨_, _, _, _, ⟨_, _, _⟩⟩ _).mono ?_); rintro e w2 ⟨rfl, hb2⟩; have HB := below_step HB hb2; clear hb2)
    | (go_at_call 30; (with_reducible refine (law_do _ _).mono ?_); rintro e w2 ⟨rfl, hb2⟩; have HB := below_step HB hb2; clear hb2))
  go_upto_block 0 with (first
    | (go_at_call 38; (with_reducible refine (say_behind HB threeS ?_ 3 ?_ ?_ _ _ ?_ ?_).mono ?_); decide; rfl; rfl; decide; decide; rintro e w3 ⟨rfl, HS3, HB3⟩)
    | (go_at_call 38; (with_reducible refine (say_behind_news HB3 [sayN 1 1] ?_ 1 ?_ ?_ _ _ ?_ ?_).mono ?_); decide; rfl; rfl; decide; decide; rintro e w4 ⟨rfl, HN4, hb4⟩)
    | (go_at_call 38; (with_reducible refine (law_Say _ _ _ (by decide) (by decide)).mono ?_); rintro e w5 ⟨rfl, hb5⟩))
  have hy := Cells.new (w5.alloc (.cells #[.int .i64 1, .int .i64 0, .int .i64 1, .int .i64 1, .int .i64 11, .int .i64 0, .int .i64 0, .int .i64 1, .int .i64 0, .int .i64 2, .int .i64 1, .int .i64 11, .int .i64 0, .int .i64 0] 26)) #[.slice (some ⟨w3.heap.size, 0, none⟩) 1 1, .slice (some ⟨w5.heap.size, 0, none⟩) 2 2] 34
  have hs5 := World.size_alloc w5 (.cells #[.int .i64 1, .int .i64 0, .int .i64 1, .int .i64 1, .int .i64 11, .int .i64 0, .int .i64 0, .int .i64 1, .int .i64 0, .int .i64 2, .int .i64 1, .int .i64 11, .int .i64 0, .int .i64 0] 26)
  have hny := Kd.C_below (lit_news w5 [sayN 1 1, sayN 2 1] (by decide) #[.int .i64 1, .int .i64 0, .int .i64 1, .int .i64 1, .int .i64 11, .int .i64 0, .int .i64 0, .int .i64 1, .int .i64 0, .int .i64 2, .int .i64 1, .int .i64 11, .int .i64 0, .int .i64 0] rfl) (below_alloc (Below.refl _ _) (.cells #[.slice (some ⟨w3.heap.size, 0, none⟩) 1 1, .slice (some ⟨w5.heap.size, 0, none⟩) 2 2] 34))
  have hb45 : Below w3.heap.size w3 ((w5.alloc (.cells #[.int .i64 1, .int .i64 0, .int .i64 1, .int .i64 1, .int .i64 11, .int .i64 0, .int .i64 0, .int .i64 1, .int .i64 0, .int .i64 2, .int .i64 1, .int .i64 11, .int .i64 0, .int .i64 0] 26)).alloc (.cells #[.slice (some ⟨w3.heap.size, 0, none⟩) 1 1, .slice (some ⟨w5.heap.size, 0, none⟩) 2 2] 34)) := below_alloc (below_alloc (below_step hb4 hb5) _) _
  have hb4W : Below w4.heap.size w4 ((w5.alloc (.cells #[.int .i64 1, .int .i64 0, .int .i64 1, .int .i64 1, .int .i64 11, .int .i64 0, .int .i64 0, .int .i64 1, .int .i64 0, .int .i64 2, .int .i64 1, .int .i64 11, .int .i64 0, .int .i64 0] 26)).alloc (.cells #[.slice (some ⟨w3.heap.size, 0, none⟩) 1 1, .slice (some ⟨w5.heap.size, 0, none⟩) 2 2] 34)) := below_alloc (below_alloc hb5 _) _
  rw [hs5] at hy
  generalize hWe : (w5.alloc (.cells #[.int .i64 1, .int .i64 0, .int .i64 1, .int .i64 1, .int .i64 11, .int .i64 0, .int .i64 0, .int .i64 1, .int .i64 0, .int .i64 2, .int .i64 1, .int .i64 11, .int .i64 0, .int .i64 0] 26)).alloc (.cells #[.slice (some ⟨w3.heap.size, 0, none⟩) 1 1, .slice (some ⟨w5.heap.size, 0, none⟩) 2 2] 34) = W at hy hny hb45 hb4W ⊢
  have HW := Lib.hid (below_step HB3 hb45)
  have HSW := Lib.hid (Kd.C_below HS3 hb45)
  have HN1 := Lib.hid (Kd.C_below HN4 hb4W)
  have HN2 := Lib.hid hny
  have x0 := hy.cell 0 _ rfl
  have x1 := hy.cell 1 _ rfl
  have HX0 := Lib.hid x0
  have HX1 := Lib.hid x1
  clear hy hs5 hny hb45 hb4W hWe HB3 HS3 HN4 hb4 hb5 HB x0 x1
  generalize w5.heap.size = g5 at HX0 HX1 HN2 ⊢
  generalize w3.heap.size = g3 at HX0 HN1 ⊢
  generalize w2.heap.size = g2 at HSW ⊢
  generalize g5 + 1 = g6 at HX0 HX1 ⊢
  go_wp2
  go_loopw [30] (fun i wr => ∃ k : Nat, k ≤ 2 ∧ i = .int .i64 k ∧ Below W.heap.size W wr) (fun i _ => 2 - (intOf i).toNat)
  case atStart => exact ⟨0, by omega, rfl, Below.refl _ _⟩
  case round =>
    obtain ⟨k, hk, rfl, hB⟩ := hrel
    have hx0 : wr.cell? ⟨g6, 0, none⟩ = _ := cell_keep hB HX0.out
    have hx1 : wr.cell? ⟨g6, 1, none⟩ = _ := cell_keep hB HX1.out
    obtain rfl | rfl | rfl : k = 0 ∨ k = 1 ∨ k = 2 := by omega
    · go_wp2_with (first
        | (go_at_call 22; (with_reducible refine (seg_BeginK _).mono ?_); rintro e wb ⟨Afb, cfb, Alb, clb, rfl, hkb, hbb⟩)
        | (go_at_call 35; (with_reducible refine (clone_n threeS 3 ?_ _ _ _ (Kd.C_below HSW.out (below_step hB hbb)) ?_).mono ?_); rfl; decide; rintro e wc ⟨vc, rfl, HO, HOB⟩)
        | (go_at_call 33; (with_reducible refine (law_crash _ _ _).mono ?_); rintro e wd ⟨rfl, hb2⟩; have HOB := below_step HOB hb2; have HO := Kd.R_below HO hb2; clear hb2)
        | (go_at_call 30; (with_reducible refine (law_do _ _).mono ?_); rintro e wd ⟨rfl, hb2⟩; have HOB := below_step HOB hb2; have HO := Kd.R_below HO hb2; clear hb2)
        | (at_builtin; refine Kd.R_append_rows kStep (w0 := wb) wb.heap.size rfl _ _ 45 58 (.agg #[.int .i64 0, .int .i64 0, .int .i64 0, .bool false, .int .i64 0, .int .i64 0, .int .i64 0, .int .i64 0, .int .i64 0, .int .i64 0, .int .i64 0]) 88 rfl (by kernel_rfl) (by kernel_rfl) rfl (by decide) (by omega) _ threeS [crashS 0 false, doS 6] _ 2 2 (fun _ => True) (fun _ => False) rfl rfl (Kd.R_below HO (below_alloc (Below.refl _ _) _)) (lit_steps _ [crashS 0 false, doS 6] (by decide) 2 rfl _ (by rfl)) (fun x cs h => step_KM _ _ x cs h) (fun _ h => h.elim) (fun _ _ => trivial) (below_alloc HOB _) (by have := HOB.size; rw [World.size_alloc]; omega) (by decide) ?_; intro v1 wa r1 r2 r3 r4; obtain ⟨A1, n1, c1, rfl⟩ := R_slice' r1; obtain ⟨e1, hc1, hl1⟩ := steps_of_own r1; obtain rfl : n1 = 5 := e1; have hda := hkb wa none (below_grown r2 _) (fun _ e => by cases e))
        | (go_at_call 25; (with_reducible refine (play_pure (x := exD 0) known_d0.1 rfl rfl fits_begin ?_ (n := 5) ?_ _ _ _ _ _ _ _ hda hl1 hc1).mono ?_); decide; rfl; rintro e wp ⟨_, rfl, hbp, Af2, cf2, Al2, cl2, Ab2, cb2, rfl, hd2, -, -⟩)
        | (go_at_call 14; (with_reducible refine (kn_news_n known_d0.2.1 known_d0.2.2 1 ?_ _ _ _ _ _ (hd2.later (below_alloc (Below.refl _ _) _))).mono ?_); rfl; rintro e wn ⟨An, cn, rfl, hn2, hcn2, hbn⟩)
        | (go_at_call 34; (with_reducible refine (kn_eq_news [sayN 1 1] 1 ?_ _ _ _ _ _ hn2 (Kd.C_below HN1.out (below_step hB (below_step (below_step (below_step hbb r2) hbp) (below_step (below_alloc (Below.refl _ _) _) hbn))))).mono ?_); rfl; rintro e wq ⟨rfl, hbq⟩))
      exact ⟨⟨1, by omega, by go_num, below_step (below_step hB (below_step (below_step (below_step hbb r2) hbp) (below_step (below_alloc (Below.refl _ _) _) hbn))) hbq⟩, by simp [intOf]⟩
    · go_wp2_with (first
        | (go_at_call 22; (with_reducible refine (seg_BeginK _).mono ?_); rintro e wb ⟨Afb, cfb, Alb, clb, rfl, hkb, hbb⟩)
        | (go_at_call 35; (with_reducible refine (clone_n threeS 3 ?_ _ _ _ (Kd.C_below HSW.out (below_step hB hbb)) ?_).mono ?_); rfl; decide; rintro e wc ⟨vc, rfl, HO, HOB⟩)
        | (go_at_call 33; (with_reducible refine (law_crash _ _ _).mono ?_); rintro e wd ⟨rfl, hb2⟩; have HOB := below_step HOB hb2; have HO := Kd.R_below HO hb2; clear hb2)
        | (go_at_call 30; (with_reducible refine (law_do _ _).mono ?_); rintro e wd ⟨rfl, hb2⟩; have HOB := below_step HOB hb2; have HO := Kd.R_below HO hb2; clear hb2)
        | (at_builtin; refine Kd.R_append_rows kStep (w0 := wb) wb.heap.size rfl _ _ 45 58 (.agg #[.int .i64 0, .int .i64 0, .int .i64 0, .bool false, .int .i64 0, .int .i64 0, .int .i64 0, .int .i64 0, .int .i64 0, .int .i64 0, .int .i64 0]) 88 rfl (by kernel_rfl) (by kernel_rfl) rfl (by decide) (by omega) _ threeS [crashS 1 false, doS 6] _ 2 2 (fun _ => True) (fun _ => False) rfl rfl (Kd.R_below HO (below_alloc (Below.refl _ _) _)) (lit_steps _ [crashS 1 false, doS 6] (by decide) 2 rfl _ (by rfl)) (fun x cs h => step_KM _ _ x cs h) (fun _ h => h.elim) (fun _ _ => trivial) (below_alloc HOB _) (by have := HOB.size; rw [World.size_alloc]; omega) (by decide) ?_; intro v1 wa r1 r2 r3 r4; obtain ⟨A1, n1, c1, rfl⟩ := R_slice' r1; obtain ⟨e1, hc1, hl1⟩ := steps_of_own r1; obtain rfl : n1 = 5 := e1; have hda := hkb wa none (below_grown r2 _) (fun _ e => by cases e))
        | (go_at_call 25; (with_reducible refine (play_pure (x := exD 1) known_d1.1 rfl rfl fits_begin ?_ (n := 5) ?_ _ _ _ _ _ _ _ hda hl1 hc1).mono ?_); decide; rfl; rintro e wp ⟨_, rfl, hbp, Af2, cf2, Al2, cl2, Ab2, cb2, rfl, hd2, -, -⟩)
        | (go_at_call 14; (with_reducible refine (kn_news_n known_d1.2.1 known_d1.2.2 2 ?_ _ _ _ _ _ (hd2.later (below_alloc (Below.refl _ _) _))).mono ?_); rfl; rintro e wn ⟨An, cn, rfl, hn2, hcn2, hbn⟩)
        | (go_at_call 34; (with_reducible refine (kn_eq_news [sayN 1 1, sayN 2 1] 2 ?_ _ _ _ _ _ hn2 (Kd.C_below HN2.out (below_step hB (below_step (below_step (below_step hbb r2) hbp) (below_step (below_alloc (Below.refl _ _) _) hbn))))).mono ?_); rfl; rintro e wq ⟨rfl, hbq⟩))
      exact ⟨⟨2, by omega, by go_num, below_step (below_step hB (below_step (below_step (below_step hbb r2) hbp) (below_step (below_alloc (Below.refl _ _) _) hbn))) hbq⟩, by simp [intOf]⟩
    · have HWr := Lib.hid (below_step HW.out hB)
      clear HX0 HX1 HN1 HN2 HSW HW hx0 hx1 hB hk
      go_upto_block 2 with fail
      have e1 := World.size_alloc wr (.cells #[.int .i64 1, .int .i64 2, .int .i64 3] 3)
      have e2 := World.size_alloc (wr.alloc (.cells #[.int .i64 1, .int .i64 2, .int .i64 3] 3)) (.cells #[.int .i64 4, .int .i64 3] 3)
      have i1 := Kd.C_below (Kd.C_below (lit_ints wr [1, 2, 3] (by decide) #[.int .i64 1, .int .i64 2, .int .i64 3] 3 rfl) (below_alloc (Below.refl _ _) (.cells #[.int .i64 4, .int .i64 3] 3))) (below_alloc (Below.refl _ _) (.cells #[.slice none 0 0, .slice (some ⟨wr.heap.size, 0, none⟩) 3 3, .slice (some ⟨wr.heap.size + 1, 0, none⟩) 2 2] 31))
      have i2 := Kd.C_below (lit_ints (wr.alloc (.cells #[.int .i64 1, .int .i64 2, .int .i64 3] 3)) [4, 3] (by decide) #[.int .i64 4, .int .i64 3] 3 rfl) (below_alloc (Below.refl _ _) (.cells #[.slice none 0 0, .slice (some ⟨wr.heap.size, 0, none⟩) 3 3, .slice (some ⟨wr.heap.size + 1, 0, none⟩) 2 2] 31))
      have i3 := Cells.new ((wr.alloc (.cells #[.int .i64 1, .int .i64 2, .int .i64 3] 3)).alloc (.cells #[.int .i64 4, .int .i64 3] 3)) #[.slice none 0 0, .slice (some ⟨wr.heap.size, 0, none⟩) 3 3, .slice (some ⟨wr.heap.size + 1, 0, none⟩) 2 2] 31
      have i4 := below_alloc (below_alloc (below_alloc (Below.refl wr.heap.size wr) (.cells #[.int .i64 1, .int .i64 2, .int .i64 3] 3)) (.cells #[.int .i64 4, .int .i64 3] 3)) (.cells #[.slice none 0 0, .slice (some ⟨wr.heap.size, 0, none⟩) 3 3, .slice (some ⟨wr.heap.size + 1, 0, none⟩) 2 2] 31)
      rw [e2, e1] at i3
      rw [e1] at i2
      generalize hWe : ((wr.alloc (.cells #[.int .i64 1, .int .i64 2, .int .i64 3] 3)).alloc (.cells #[.int .i64 4, .int .i64 3] 3)).alloc (.cells #[.slice none 0 0, .slice (some ⟨wr.heap.size, 0, none⟩) 3 3, .slice (some ⟨wr.heap.size + 1, 0, none⟩) 2 2] 31) = V at i1 i2 i3 i4 ⊢
      have HI1 := Lib.hid i1
      have HI2 := Lib.hid i2
      have j0 := i3.cell 0 _ rfl
      have j1 := i3.cell 1 _ rfl
      have j2 := i3.cell 2 _ rfl
      have HJ0 := Lib.hid j0
      have HJ1 := Lib.hid j1
      have HJ2 := Lib.hid j2
      have HWV := Lib.hid (below_step HWr.out i4)
      clear e1 e2 i1 i2 i3 i4 j0 j1 j2 hWe HWr
      generalize wr.heap.size + 1 + 1 = g9 at HJ0 HJ1 HJ2 ⊢
      generalize wr.heap.size + 1 = g8 at HJ0 HJ1 HJ2 HI2 ⊢
      generalize wr.heap.size = g7 at HJ0 HJ1 HJ2 HI1 ⊢
      go_wp2
      go_loopw [70] (fun i wr => ∃ k : Nat, k ≤ 3 ∧ i = .int .i64 k ∧ Below V.heap.size V wr) (fun i _ => 3 - (intOf i).toNat)
      case atStart => exact ⟨0, by omega, rfl, Below.refl _ _⟩
      case round =>
        obtain ⟨k, hk, rfl, hB⟩ := hrel
        have hx0 : wr.cell? ⟨g9, 0, none⟩ = _ := cell_keep hB HJ0.out
        have hx1 : wr.cell? ⟨g9, 1, none⟩ = _ := cell_keep hB HJ1.out
        have hx2 : wr.cell? ⟨g9, 2, none⟩ = _ := cell_keep hB HJ2.out
        obtain rfl | rfl | rfl | rfl : k = 0 ∨ k = 1 ∨ k = 2 ∨ k = 3 := by omega
        · go_wp2
          exact ⟨⟨1, by omega, by go_num, hB⟩, by simp [intOf]⟩
        · go_wp2_with (first
            | (go_at_call 22; (with_reducible refine (seg_BeginK _).mono ?_); rintro e wb ⟨Afb, cfb, Alb, clb, rfl, hkb, hbb⟩)
            | (go_at_call 39; (with_reducible refine (law_fourK _).mono ?_); rintro e wc ⟨vc, rfl, HO, HOB⟩)
            | (at_builtin; refine Kd.R_append_rows kStep (w0 := wb) wb.heap.size rfl _ _ 45 58 (.agg #[.int .i64 0, .int .i64 0, .int .i64 0, .bool false, .int .i64 0, .int .i64 0, .int .i64 0, .int .i64 0, .int .i64 0, .int .i64 0, .int .i64 0]) 88 rfl (by kernel_rfl) (by kernel_rfl) rfl (by decide) (by omega) _ fourS [mergeS 0 1] _ 1 1 (fun _ => True) (fun _ => False) rfl rfl (Kd.R_below HO (below_alloc (Below.refl _ _) _)) (lit_steps _ [mergeS 0 1] (by decide) 1 rfl _ (by rfl)) (fun x cs h => step_KM _ _ x cs h) (fun _ h => h.elim) (fun _ _ => trivial) (below_alloc HOB _) (by have := HOB.size; rw [World.size_alloc]; omega) (by decide) ?_; intro v1 wa r1 r2 r3 r4; obtain ⟨A1, n1, c1, rfl⟩ := R_slice' r1; obtain ⟨e1, hc1, hl1⟩ := steps_of_own r1; obtain rfl : n1 = 7 := e1; have hda := hkb wa none (below_grown r2 _) (fun _ e => by cases e))
            | (go_at_call 25; (with_reducible refine (play_e (s := mergeS 0 1) (x := exE 1) known_e1.1 rfl known_e1.2.1 ?_ (b := true) ?_ known_e1.2.2.1 known_e1.2.2.2 (nl := 3) ?_ ?_ _ _ _ _ _ _ _ hda hl1 hc1).mono ?_); rfl; rfl; rfl; decide; rintro e wp ⟨Af2, cf2, Al2, cl2, ab2, cb2, rfl, hli, hcb, hbp⟩; have hcb2 : ∀ o, (wp.alloc o).cell? ⟨ab2.block, ab2.off + 6, none⟩ = _ := fun o => cell_keep (below_alloc (Below.refl _ _) o) hcb)
            | (go_at_call 40; (with_reducible refine (kn_eq_ints [1, 2, 3] 3 ?_ _ _ _ _ _ (Kd.C_below hli (below_alloc (Below.refl _ _) _)) (Kd.C_below HI1.out (below_step hB (below_step (below_step hbb r2) (below_alloc hbp _))))).mono ?_); rfl; rintro e wq ⟨rfl, hbq⟩))
          refine ⟨?_, ?_⟩
          · repeat apply Exists.intro
            refine ⟨?_, rfl⟩
            exact ⟨2, by omega, by go_num, below_step (below_step hB (below_step (below_step hbb r2) (below_alloc hbp _))) hbq⟩
          · simp [intOf]
        · go_wp2_with (first
            | (go_at_call 22; (with_reducible refine (seg_BeginK _).mono ?_); rintro e wb ⟨Afb, cfb, Alb, clb, rfl, hkb, hbb⟩)
            | (go_at_call 39; (with_reducible refine (law_fourK _).mono ?_); rintro e wc ⟨vc, rfl, HO, HOB⟩)
            | (at_builtin; refine Kd.R_append_rows kStep (w0 := wb) wb.heap.size rfl _ _ 45 58 (.agg #[.int .i64 0, .int .i64 0, .int .i64 0, .bool false, .int .i64 0, .int .i64 0, .int .i64 0, .int .i64 0, .int .i64 0, .int .i64 0, .int .i64 0]) 88 rfl (by kernel_rfl) (by kernel_rfl) rfl (by decide) (by omega) _ fourS [mergeS 0 2] _ 1 1 (fun _ => True) (fun _ => False) rfl rfl (Kd.R_below HO (below_alloc (Below.refl _ _) _)) (lit_steps _ [mergeS 0 2] (by decide) 1 rfl _ (by rfl)) (fun x cs h => step_KM _ _ x cs h) (fun _ h => h.elim) (fun _ _ => trivial) (below_alloc HOB _) (by have := HOB.size; rw [World.size_alloc]; omega) (by decide) ?_; intro v1 wa r1 r2 r3 r4; obtain ⟨A1, n1, c1, rfl⟩ := R_slice' r1; obtain ⟨e1, hc1, hl1⟩ := steps_of_own r1; obtain rfl : n1 = 7 := e1; have hda := hkb wa none (below_grown r2 _) (fun _ e => by cases e))
            | (go_at_call 25; (with_reducible refine (play_e (s := mergeS 0 2) (x := exE 2) known_e2.1 rfl known_e2.2.1 ?_ (b := true) ?_ known_e2.2.2.1 known_e2.2.2.2 (nl := 2) ?_ ?_ _ _ _ _ _ _ _ hda hl1 hc1).mono ?_); rfl; rfl; rfl; decide; rintro e wp ⟨Af2, cf2, Al2, cl2, ab2, cb2, rfl, hli, hcb, hbp⟩; have hcb2 : ∀ o, (wp.alloc o).cell? ⟨ab2.block, ab2.off + 6, none⟩ = _ := fun o => cell_keep (below_alloc (Below.refl _ _) o) hcb)
            | (go_at_call 40; (with_reducible refine (kn_eq_ints [4, 3] 2 ?_ _ _ _ _ _ (Kd.C_below hli (below_alloc (Below.refl _ _) _)) (Kd.C_below HI2.out (below_step hB (below_step (below_step hbb r2) (below_alloc hbp _))))).mono ?_); rfl; rintro e wq ⟨rfl, hbq⟩))
          refine ⟨?_, ?_⟩
          · repeat apply Exists.intro
            refine ⟨?_, rfl⟩
            exact ⟨3, by omega, by go_num, below_step (below_step hB (below_step (below_step hbb r2) (below_alloc hbp _))) hbq⟩
          · simp [intOf]
        · have HVr := Lib.hid (below_step HWV.out hB)
          clear HI1 HI2 HJ0 HJ1 HJ2 HWV hx0 hx1 hx2 hB hk
          go_wp2_with (first
            | (go_at_call 22; (with_reducible refine (seg_BeginK _).mono ?_); rintro e wb ⟨Afb, cfb, Alb, clb, rfl, hkb, hbb⟩)
            | (go_at_call 39; (with_reducible refine (law_fourK _).mono ?_); rintro e wc ⟨vc, rfl, HO, HOB⟩)
            | (at_builtin; refine Kd.R_append_rows kStep (w0 := wb) wb.heap.size rfl _ _ 45 58 (.agg #[.int .i64 0, .int .i64 0, .int .i64 0, .bool false, .int .i64 0, .int .i64 0, .int .i64 0, .int .i64 0, .int .i64 0, .int .i64 0, .int .i64 0]) 88 rfl (by kernel_rfl) (by kernel_rfl) rfl (by decide) (by omega) _ fourS [mergeS 1 0] _ 1 1 (fun _ => True) (fun _ => False) rfl rfl (Kd.R_below HO (below_alloc (Below.refl _ _) _)) (lit_steps _ [mergeS 1 0] (by decide) 1 rfl _ (by rfl)) (fun x cs h => step_KM _ _ x cs h) (fun _ h => h.elim) (fun _ _ => trivial) (below_alloc HOB _) (by have := HOB.size; rw [World.size_alloc]; omega) (by decide) ?_; intro v1 wa r1 r2 r3 r4; obtain ⟨A1, n1, c1, rfl⟩ := R_slice' r1; obtain ⟨e1, hc1, hl1⟩ := steps_of_own r1; obtain rfl : n1 = 7 := e1; have hda := hkb wa none (below_grown r2 _) (fun _ e => by cases e))
            | (go_at_call 25; (with_reducible refine (play_e (s := mergeS 1 0) known_f.1 rfl known_f.2 ?_ (b := false) ?_ rfl rfl rfl ?_ _ _ _ _ _ _ _ hda hl1 hc1).mono ?_); rfl; rfl; decide; rintro e wp ⟨Af2, cf2, Al2, cl2, ab2, cb2, rfl, hli, hcb, hbp⟩; have hcb2 : ∀ o, (wp.alloc o).cell? ⟨ab2.block, ab2.off + 6, none⟩ = _ := fun o => cell_keep (below_alloc (Below.refl _ _) o) hcb)
            | (go_at_call 13; (with_reducible refine (law_known _).mono ?_); rintro e wq ⟨rfl, hbq⟩))
          go_ret
          exact ⟨rfl, below_step (below_step HVr.out (below_step (below_step hbb r2) (below_alloc hbp _))) hbq⟩
end Go.Proofs.Ytfmojgdomficlaa
namespace Go.Proofs.Ytfmojgdomficlaa.SegKnown
open Go.ChangeShapes Go.WideShapes Go.ChangeAt Go.RowKit
open Go.ChangeMaps (open_string shut_string)
theorem own : ownKnob Try.prog.godebug = none := by kernel_rfl
theorem laidOut : laidOutB Try.prog = true := by kernel_rfl
set_option maxRecDepth 100000 in
theorem lifted (os : Os) (started : os.Started) (H : Type) (enc : TypeId × Value → H) :
    ReturnsInHanded {} Try.checked os 10 .any (Rows.segKnownSpec.pre6 enc Try.prog Try.f10 Rows.segKnownRow.domain false) (Rows.segKnownSpec.post enc Try.prog Try.f10 false true false false) := by
  refine returnsInHanded_of_change_sized (C := Try.checked) own started (by kernel_rfl) Try.func10
    (ChangeSpec.witness6 (enc := enc) (C := Try.checked) false ⟨#[], #[], []⟩ 8 (by kernel_rfl) (by kernel_rfl) (by kernel_rfl) (by kernel_rfl)) ?_
  intro W base args ds gs before hval0 hW hcnd hsz0 _
  have hsz : (DataW.weightsEach Try.prog (Try.f10.params.toList ++ Rows.segKnownSpec.plain.varTypes Try.prog) (ds ++ gs)).all (· ≤ reachBytes) = true := hsz0
  have hval : ∀ (j : Nat) t v, Try.f10.params[j]? = some t → args[j]? = some v → Value.okWide Try.prog W .any base t v := hval0
  have hW' := hW
  obtain ⟨p, q, hA0, hV, rfl, hfz, hnd⟩ := hW
  have hA : DataW.TrodAll enc Try.prog W 0 (fun _ => true) true Try.f10.params.toList args.toList ds p := hA0
  rw [Try.params10] at hA hval hsz
  obtain ⟨hargs, rfl, rfl⟩ := trodAll_nil hA
  obtain rfl : args = #[] := by cases args; simp_all
  obtain ⟨rfl, rfl⟩ := trodVars_none hV
  clear hA0 hval0 hsz0 hsz
  refine (law_segknown  W ).mono fun e W' ⟨he, bel⟩ => ?_
  subst he
  exact ⟨_, rfl, _, _, _, [], _, [], hW', trodAll_mk1 (shut_bool Try.underlying4 _), trodAll_mk0, rfl, bel.frame _, fun h => by cases h⟩
theorem over : Rows.segKnownRow.holds Try.pinned (OpenSpec.ofChange Rows.segKnownSpec) :=
  OpenClaim.holds_of_wide 10 Try.f10 rfl rfl rfl rfl rfl rfl rfl ⟨rfl, rfl, rfl, rfl, rfl⟩ rfl rfl rfl rfl rfl (by kernel_rfl) Try.func10 (by kernel_rfl)
    (of_decide_eq_true (by kernel_rfl)) (by unfold Func.isWrapper; first | (rw [if_pos (by decide +kernel)]; kernel_rfl) | (rw [if_neg (by decide +kernel)]; exact ⟨rfl, rfl⟩))
    (fun os started H enc _ => lifted os started H enc)
end Go.Proofs.Ytfmojgdomficlaa.SegKnown
namespace Go.Proofs.Ytfmojgdomficlaa
/-- The row. -/
theorem SegKnown_holds : Rows.SegKnownSaid := SegKnown.over
#print axioms SegKnown_holds
end Go.Proofs.Ytfmojgdomficlaa
