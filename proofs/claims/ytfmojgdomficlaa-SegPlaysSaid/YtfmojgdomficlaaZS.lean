/-
  Texts of one hand, laid together: RefFits, RefFitsW, RefPlay, RefPlayW.
-/
import Derived.Test.YtfmojgdomficlaaZR
set_option linter.unusedVariables false
set_option linter.unusedSimpArgs false
/-! Whether a step fits, as the reference asks it. -/
namespace Go.Proofs.Ytfmojgdomficlaa
open Go.RowKit Go.Shelf Go.Proofs.YtfmojgdomficlaaW.PrintWords

theorem cells11 {X : World} {B : Nat} {t : TypeId} {a0 a1 a2 a3 a4 a5 a6 a7 a8 a9 a10 : Value} (h : Cells X B #[a0, a1, a2, a3, a4, a5, a6, a7, a8, a9, a10] t) : X.cell? ⟨B, 0, none⟩ = some a0 ∧ X.cell? ⟨B, 1, none⟩ = some a1 ∧ X.cell? ⟨B, 2, none⟩ = some a2 ∧ X.cell? ⟨B, 3, none⟩ = some a3 ∧ X.cell? ⟨B, 4, none⟩ = some a4 ∧ X.cell? ⟨B, 5, none⟩ = some a5 ∧ X.cell? ⟨B, 6, none⟩ = some a6 ∧ X.cell? ⟨B, 7, none⟩ = some a7 ∧ X.cell? ⟨B, 8, none⟩ = some a8 ∧ X.cell? ⟨B, 9, none⟩ = some a9 ∧ X.cell? ⟨B, 10, none⟩ = some a10 :=
  ⟨h.cell 0 _ rfl, h.cell 1 _ rfl, h.cell 2 _ rfl, h.cell 3 _ rfl, h.cell 4 _ rfl, h.cell 5 _ rfl, h.cell 6 _ rfl, h.cell 7 _ rfl, h.cell 8 _ rfl, h.cell 9 _ rfl, h.cell 10 _ rfl⟩
theorem formed_one (n : News) : formedB [n] 4 = goodB n 4 := by simp [formedB, plainB, clashOf, clashFrom, clashIn, inB]
theorem good_news {n : News} (h : goodB n 4 = true) : newsEq n noNews = false := by
  cases h2 : newsEq n noNews with
  | false => rfl
  | true =>
    obtain rfl : n = noNews := of_decide_eq_true h2
    rw [goodB_none (by decide) (by decide) (by decide)] at h
    cases h
set_option maxRecDepth 100000 in
set_option maxHeartbeats 8000000 in
theorem ref_fits_a0 (do_ : Int) (k stop : Int) (torn : Bool) (n0 n1 n2 n3 n4 n5 n6 : Int) (w : World) (d1 : decide (do_ < 1) = true) :
    Calls Try.prog 49 #[.agg #[.int .i64 do_, .int .i64 k, .int .i64 stop, .bool torn, .int .i64 n0, .int .i64 n1, .int .i64 n2, .int .i64 n3, .int .i64 n4, .int .i64 n5, .int .i64 n6]] w fun e w' => e = .returned (.bool false) ∧ Below w.heap.size w w' := by
  go_enter Try.func49, Try.ntmps49
  go_upto_region 1 with fail
  have HS := Lib.hid (Cells.new w #[.int .i64 do_, .int .i64 k, .int .i64 stop, .bool torn, .int .i64 n0, .int .i64 n1, .int .i64 n2, .int .i64 n3, .int .i64 n4, .int .i64 n5, .int .i64 n6] 58)
  have HB := Lib.hid (below_alloc (Below.refl w.heap.size w) (.cells #[.int .i64 do_, .int .i64 k, .int .i64 stop, .bool torn, .int .i64 n0, .int .i64 n1, .int .i64 n2, .int .i64 n3, .int .i64 n4, .int .i64 n5, .int .i64 n6] 58))
  generalize w.alloc (.cells #[.int .i64 do_, .int .i64 k, .int .i64 stop, .bool torn, .int .i64 n0, .int .i64 n1, .int .i64 n2, .int .i64 n3, .int .i64 n4, .int .i64 n5, .int .i64 n6] 58) = w1 at HS HB ⊢
  obtain ⟨p0, p1, p2, p3, p4, p5, p6, p7, p8, p9, p10⟩ := cells11 HS.out
  go_wp2
  go_ret
  exact ⟨rfl, HB.out⟩
set_option maxRecDepth 100000 in
set_option maxHeartbeats 8000000 in
theorem ref_fits_a1 (do_ : Int) (k stop : Int) (torn : Bool) (n0 n1 n2 n3 n4 n5 n6 : Int) (w : World) (d1 : decide (do_ < 1) = false) (d2 : decide (6 < do_) = true) :
    Calls Try.prog 49 #[.agg #[.int .i64 do_, .int .i64 k, .int .i64 stop, .bool torn, .int .i64 n0, .int .i64 n1, .int .i64 n2, .int .i64 n3, .int .i64 n4, .int .i64 n5, .int .i64 n6]] w fun e w' => e = .returned (.bool false) ∧ Below w.heap.size w w' := by
  go_enter Try.func49, Try.ntmps49
  go_upto_region 1 with fail
  have HS := Lib.hid (Cells.new w #[.int .i64 do_, .int .i64 k, .int .i64 stop, .bool torn, .int .i64 n0, .int .i64 n1, .int .i64 n2, .int .i64 n3, .int .i64 n4, .int .i64 n5, .int .i64 n6] 58)
  have HB := Lib.hid (below_alloc (Below.refl w.heap.size w) (.cells #[.int .i64 do_, .int .i64 k, .int .i64 stop, .bool torn, .int .i64 n0, .int .i64 n1, .int .i64 n2, .int .i64 n3, .int .i64 n4, .int .i64 n5, .int .i64 n6] 58))
  generalize w.alloc (.cells #[.int .i64 do_, .int .i64 k, .int .i64 stop, .bool torn, .int .i64 n0, .int .i64 n1, .int .i64 n2, .int .i64 n3, .int .i64 n4, .int .i64 n5, .int .i64 n6] 58) = w1 at HS HB ⊢
  obtain ⟨p0, p1, p2, p3, p4, p5, p6, p7, p8, p9, p10⟩ := cells11 HS.out
  go_wp2
  go_ret
  exact ⟨rfl, HB.out⟩
set_option maxRecDepth 100000 in
set_option maxHeartbeats 8000000 in
theorem ref_fits_a2 (do_ : Int) (k stop : Int) (torn : Bool) (n0 n1 n2 n3 n4 n5 n6 : Int) (w : World) (d1 : decide (do_ < 1) = false) (d2 : decide (6 < do_) = false) (hk : decide (k < 0) = true) :
    Calls Try.prog 49 #[.agg #[.int .i64 do_, .int .i64 k, .int .i64 stop, .bool torn, .int .i64 n0, .int .i64 n1, .int .i64 n2, .int .i64 n3, .int .i64 n4, .int .i64 n5, .int .i64 n6]] w fun e w' => e = .returned (.bool false) ∧ Below w.heap.size w w' := by
  go_enter Try.func49, Try.ntmps49
  go_upto_region 1 with fail
  have HS := Lib.hid (Cells.new w #[.int .i64 do_, .int .i64 k, .int .i64 stop, .bool torn, .int .i64 n0, .int .i64 n1, .int .i64 n2, .int .i64 n3, .int .i64 n4, .int .i64 n5, .int .i64 n6] 58)
  have HB := Lib.hid (below_alloc (Below.refl w.heap.size w) (.cells #[.int .i64 do_, .int .i64 k, .int .i64 stop, .bool torn, .int .i64 n0, .int .i64 n1, .int .i64 n2, .int .i64 n3, .int .i64 n4, .int .i64 n5, .int .i64 n6] 58))
  generalize w.alloc (.cells #[.int .i64 do_, .int .i64 k, .int .i64 stop, .bool torn, .int .i64 n0, .int .i64 n1, .int .i64 n2, .int .i64 n3, .int .i64 n4, .int .i64 n5, .int .i64 n6] 58) = w1 at HS HB ⊢
  obtain ⟨p0, p1, p2, p3, p4, p5, p6, p7, p8, p9, p10⟩ := cells11 HS.out
  go_wp2
  go_ret
  exact ⟨rfl, HB.out⟩
set_option maxRecDepth 100000 in
set_option maxHeartbeats 8000000 in
theorem ref_fits_a3 (do_ : Int) (k stop : Int) (torn : Bool) (n0 n1 n2 n3 n4 n5 n6 : Int) (w : World) (d1 : decide (do_ < 1) = false) (d2 : decide (6 < do_) = false) (hk : decide (k < 0) = false) (hs : decide (stop < 0) = true) :
    Calls Try.prog 49 #[.agg #[.int .i64 do_, .int .i64 k, .int .i64 stop, .bool torn, .int .i64 n0, .int .i64 n1, .int .i64 n2, .int .i64 n3, .int .i64 n4, .int .i64 n5, .int .i64 n6]] w fun e w' => e = .returned (.bool false) ∧ Below w.heap.size w w' := by
  go_enter Try.func49, Try.ntmps49
  go_upto_region 1 with fail
  have HS := Lib.hid (Cells.new w #[.int .i64 do_, .int .i64 k, .int .i64 stop, .bool torn, .int .i64 n0, .int .i64 n1, .int .i64 n2, .int .i64 n3, .int .i64 n4, .int .i64 n5, .int .i64 n6] 58)
  have HB := Lib.hid (below_alloc (Below.refl w.heap.size w) (.cells #[.int .i64 do_, .int .i64 k, .int .i64 stop, .bool torn, .int .i64 n0, .int .i64 n1, .int .i64 n2, .int .i64 n3, .int .i64 n4, .int .i64 n5, .int .i64 n6] 58))
  generalize w.alloc (.cells #[.int .i64 do_, .int .i64 k, .int .i64 stop, .bool torn, .int .i64 n0, .int .i64 n1, .int .i64 n2, .int .i64 n3, .int .i64 n4, .int .i64 n5, .int .i64 n6] 58) = w1 at HS HB ⊢
  obtain ⟨p0, p1, p2, p3, p4, p5, p6, p7, p8, p9, p10⟩ := cells11 HS.out
  go_wp2
  go_ret
  exact ⟨rfl, HB.out⟩
set_option maxRecDepth 100000 in
set_option maxHeartbeats 8000000 in
theorem ref_fits_a4 (do_ : Int) (k stop : Int) (torn : Bool) (n0 n1 n2 n3 n4 n5 n6 : Int) (w : World) (d1 : decide (do_ < 1) = false) (d2 : decide (6 < do_) = false) (hk : decide (k < 0) = false) (hs : decide (stop < 0) = false) (ht : decide (2 < stop) = true) :
    Calls Try.prog 49 #[.agg #[.int .i64 do_, .int .i64 k, .int .i64 stop, .bool torn, .int .i64 n0, .int .i64 n1, .int .i64 n2, .int .i64 n3, .int .i64 n4, .int .i64 n5, .int .i64 n6]] w fun e w' => e = .returned (.bool false) ∧ Below w.heap.size w w' := by
  go_enter Try.func49, Try.ntmps49
  go_upto_region 1 with fail
  have HS := Lib.hid (Cells.new w #[.int .i64 do_, .int .i64 k, .int .i64 stop, .bool torn, .int .i64 n0, .int .i64 n1, .int .i64 n2, .int .i64 n3, .int .i64 n4, .int .i64 n5, .int .i64 n6] 58)
  have HB := Lib.hid (below_alloc (Below.refl w.heap.size w) (.cells #[.int .i64 do_, .int .i64 k, .int .i64 stop, .bool torn, .int .i64 n0, .int .i64 n1, .int .i64 n2, .int .i64 n3, .int .i64 n4, .int .i64 n5, .int .i64 n6] 58))
  generalize w.alloc (.cells #[.int .i64 do_, .int .i64 k, .int .i64 stop, .bool torn, .int .i64 n0, .int .i64 n1, .int .i64 n2, .int .i64 n3, .int .i64 n4, .int .i64 n5, .int .i64 n6] 58) = w1 at HS HB ⊢
  obtain ⟨p0, p1, p2, p3, p4, p5, p6, p7, p8, p9, p10⟩ := cells11 HS.out
  go_wp2
  go_ret
  exact ⟨rfl, HB.out⟩
set_option maxRecDepth 100000 in
set_option maxHeartbeats 8000000 in
theorem ref_fits_b0 (k stop : Int) (torn : Bool) (n0 n1 n2 n3 n4 n5 n6 : Int) (w : World) (hk : decide (k < 0) = false) (hs : decide (stop < 0) = false) (ht : decide (2 < stop) = false) (hz : newsEq ⟨n0, n1, n2, n3, ⟨n4, n5, n6⟩⟩ ⟨0, 0, 0, 0, ⟨0, 0, 0⟩⟩ = true) :
    Calls Try.prog 49 #[.agg #[.int .i64 1, .int .i64 k, .int .i64 stop, .bool torn, .int .i64 n0, .int .i64 n1, .int .i64 n2, .int .i64 n3, .int .i64 n4, .int .i64 n5, .int .i64 n6]] w fun e w' => e = .returned (.bool false) ∧ Below w.heap.size w w' := by
  go_enter Try.func49, Try.ntmps49
  go_upto_region 1 with fail
  have HS := Lib.hid (Cells.new w #[.int .i64 1, .int .i64 k, .int .i64 stop, .bool torn, .int .i64 n0, .int .i64 n1, .int .i64 n2, .int .i64 n3, .int .i64 n4, .int .i64 n5, .int .i64 n6] 58)
  have HB := Lib.hid (below_alloc (Below.refl w.heap.size w) (.cells #[.int .i64 1, .int .i64 k, .int .i64 stop, .bool torn, .int .i64 n0, .int .i64 n1, .int .i64 n2, .int .i64 n3, .int .i64 n4, .int .i64 n5, .int .i64 n6] 58))
  generalize w.alloc (.cells #[.int .i64 1, .int .i64 k, .int .i64 stop, .bool torn, .int .i64 n0, .int .i64 n1, .int .i64 n2, .int .i64 n3, .int .i64 n4, .int .i64 n5, .int .i64 n6] 58) = w1 at HS HB ⊢
  obtain ⟨p0, p1, p2, p3, p4, p5, p6, p7, p8, p9, p10⟩ := cells11 HS.out
  go_wp2
  clear p0 p1 p2 p3 p4 p5 p6 p7 p8 p9 p10
  refine wp_region_flow [.free 0, .calm 1, .free 2, .free 3, .calm 4, .free 5, .free 6, .free 7, .free 8, .free 9, .free 10, .free 11, .free 12, .free 13, .free 14, .free 15, .free 16, .free 17, .free 18] (Below w1.heap.size w1) (Below w1.heap.size w1) (stable_below _ _ (Nat.le_refl _)) (fun _ h => h) (by kernel_rfl) (by kernel_rfl) (below_drew1 (Below.refl _ _)) ?_
  simp only [pickEnts, pickF, List.getElem?_cons_succ, List.getElem?_cons_zero, List.filterMap_cons, List.filterMap_nil, Option.map_some]
  repeat ((first | refine flow_calm (fun K hK => ?_) | refine flow_free (fun K hK => ?_) | refine float_calm (fun K hK => ?_) | refine float_free (fun K hK => ?_)); go_simp; first | (refine hK _ ?_; clear hK K) | (apply Exists.intro; (refine ⟨fun X => ?_, hK _ ?_⟩); (first | (intro hC; rfl) | rfl | (intro hC; obtain ⟨p0, p1, p2, p3, p4, p5, p6, p7, p8, p9, p10⟩ := cells11 (HS.out.later hC.out); go_simp; done) | (intro hC; obtain ⟨p0, p1, p2, p3, p4, p5, p6, p7, p8, p9, p10⟩ := cells11 (HS.out.later hC.out); go_simp; rfl)); clear hK K))
  refine flow_nil ?_
  intro X hX
  have HX := Lib.hid (HS.out.later hX.out)
  have HBX := Lib.hid (below_step HB.out hX.out)
  clear hX
  go_wp2
  go_ret
  exact ⟨rfl, HBX.out⟩
set_option maxRecDepth 100000 in
set_option maxHeartbeats 8000000 in
theorem ref_fits_b1 (do_ : Int) (k stop : Int) (torn : Bool) (n0 n1 n2 n3 n4 n5 n6 : Int) (w : World) (d1 : decide (do_ < 1) = false) (d2 : decide (6 < do_) = false) (hk : decide (k < 0) = false) (hs : decide (stop < 0) = false) (ht : decide (2 < stop) = false) (f1 : (do_ == 1) = false) (hz : newsEq ⟨n0, n1, n2, n3, ⟨n4, n5, n6⟩⟩ ⟨0, 0, 0, 0, ⟨0, 0, 0⟩⟩ = false) :
    Calls Try.prog 49 #[.agg #[.int .i64 do_, .int .i64 k, .int .i64 stop, .bool torn, .int .i64 n0, .int .i64 n1, .int .i64 n2, .int .i64 n3, .int .i64 n4, .int .i64 n5, .int .i64 n6]] w fun e w' => e = .returned (.bool false) ∧ Below w.heap.size w w' := by
  go_enter Try.func49, Try.ntmps49
  go_upto_region 1 with fail
  have HS := Lib.hid (Cells.new w #[.int .i64 do_, .int .i64 k, .int .i64 stop, .bool torn, .int .i64 n0, .int .i64 n1, .int .i64 n2, .int .i64 n3, .int .i64 n4, .int .i64 n5, .int .i64 n6] 58)
  have HB := Lib.hid (below_alloc (Below.refl w.heap.size w) (.cells #[.int .i64 do_, .int .i64 k, .int .i64 stop, .bool torn, .int .i64 n0, .int .i64 n1, .int .i64 n2, .int .i64 n3, .int .i64 n4, .int .i64 n5, .int .i64 n6] 58))
  generalize w.alloc (.cells #[.int .i64 do_, .int .i64 k, .int .i64 stop, .bool torn, .int .i64 n0, .int .i64 n1, .int .i64 n2, .int .i64 n3, .int .i64 n4, .int .i64 n5, .int .i64 n6] 58) = w1 at HS HB ⊢
  obtain ⟨p0, p1, p2, p3, p4, p5, p6, p7, p8, p9, p10⟩ := cells11 HS.out
  go_wp2
  clear p0 p1 p2 p3 p4 p5 p6 p7 p8 p9 p10
  refine wp_region_flow [.free 0, .calm 1, .free 2, .free 3, .calm 4, .free 5, .free 6, .free 7, .free 8, .free 9, .free 10, .free 11, .free 12, .free 13, .free 14, .free 15, .free 16, .free 17, .free 18] (Below w1.heap.size w1) (Below w1.heap.size w1) (stable_below _ _ (Nat.le_refl _)) (fun _ h => h) (by kernel_rfl) (by kernel_rfl) (below_drew1 (Below.refl _ _)) ?_
  simp only [pickEnts, pickF, List.getElem?_cons_succ, List.getElem?_cons_zero, List.filterMap_cons, List.filterMap_nil, Option.map_some]
  repeat ((first | refine flow_calm (fun K hK => ?_) | refine flow_free (fun K hK => ?_) | refine float_calm (fun K hK => ?_) | refine float_free (fun K hK => ?_)); go_simp; first | (refine hK _ ?_; clear hK K) | (apply Exists.intro; (refine ⟨fun X => ?_, hK _ ?_⟩); (first | (intro hC; rfl) | rfl | (intro hC; obtain ⟨p0, p1, p2, p3, p4, p5, p6, p7, p8, p9, p10⟩ := cells11 (HS.out.later hC.out); go_simp; done) | (intro hC; obtain ⟨p0, p1, p2, p3, p4, p5, p6, p7, p8, p9, p10⟩ := cells11 (HS.out.later hC.out); go_simp; rfl)); clear hK K))
  refine flow_nil ?_
  intro X hX
  have HX := Lib.hid (HS.out.later hX.out)
  have HBX := Lib.hid (below_step HB.out hX.out)
  clear hX
  go_wp2
  go_ret
  exact ⟨rfl, HBX.out⟩
set_option maxRecDepth 100000 in
set_option maxHeartbeats 8000000 in
theorem ref_fits_b2 (k stop : Int) (torn : Bool) (n0 n1 n2 n3 n4 n5 n6 : Int) (w : World) (hk : decide (k < 0) = false) (hs : decide (stop < 0) = false) (ht : decide (2 < stop) = false) (hz : newsEq ⟨n0, n1, n2, n3, ⟨n4, n5, n6⟩⟩ ⟨0, 0, 0, 0, ⟨0, 0, 0⟩⟩ = false) (hg : goodB ⟨n0, n1, n2, n3, ⟨n4, n5, n6⟩⟩ 4 = false) :
    Calls Try.prog 49 #[.agg #[.int .i64 1, .int .i64 k, .int .i64 stop, .bool torn, .int .i64 n0, .int .i64 n1, .int .i64 n2, .int .i64 n3, .int .i64 n4, .int .i64 n5, .int .i64 n6]] w fun e w' => e = .returned (.bool false) ∧ Below w.heap.size w w' := by
  go_enter Try.func49, Try.ntmps49
  go_upto_region 1 with fail
  have HS := Lib.hid (Cells.new w #[.int .i64 1, .int .i64 k, .int .i64 stop, .bool torn, .int .i64 n0, .int .i64 n1, .int .i64 n2, .int .i64 n3, .int .i64 n4, .int .i64 n5, .int .i64 n6] 58)
  have HB := Lib.hid (below_alloc (Below.refl w.heap.size w) (.cells #[.int .i64 1, .int .i64 k, .int .i64 stop, .bool torn, .int .i64 n0, .int .i64 n1, .int .i64 n2, .int .i64 n3, .int .i64 n4, .int .i64 n5, .int .i64 n6] 58))
  generalize w.alloc (.cells #[.int .i64 1, .int .i64 k, .int .i64 stop, .bool torn, .int .i64 n0, .int .i64 n1, .int .i64 n2, .int .i64 n3, .int .i64 n4, .int .i64 n5, .int .i64 n6] 58) = w1 at HS HB ⊢
  obtain ⟨p0, p1, p2, p3, p4, p5, p6, p7, p8, p9, p10⟩ := cells11 HS.out
  go_wp2
  clear p0 p1 p2 p3 p4 p5 p6 p7 p8 p9 p10
  refine wp_region_flow [.free 0, .calm 1, .free 2, .free 3, .calm 4, .free 5, .free 6, .free 7, .free 8, .free 9, .calm 10, .free 11, .free 12, .free 13, .calm 14, .calm 15, .free 16, .free 17, .free 18] (Below w1.heap.size w1) (Below w1.heap.size w1) (stable_below _ _ (Nat.le_refl _)) (fun _ h => h) (by kernel_rfl) (by kernel_rfl) (below_drew1 (Below.refl _ _)) ?_
  simp only [pickEnts, pickF, List.getElem?_cons_succ, List.getElem?_cons_zero, List.filterMap_cons, List.filterMap_nil, Option.map_some]
  repeat ((first | refine flow_calm (fun K hK => ?_) | refine flow_free (fun K hK => ?_) | refine float_calm (fun K hK => ?_) | refine float_free (fun K hK => ?_)); go_simp; first | (refine hK _ ?_; clear hK K) | (apply Exists.intro; (refine ⟨fun X => ?_, hK _ ?_⟩); (first | (intro hC; rfl) | rfl | (intro hC; obtain ⟨p0, p1, p2, p3, p4, p5, p6, p7, p8, p9, p10⟩ := cells11 (HS.out.later hC.out); go_simp; done) | (intro hC; obtain ⟨p0, p1, p2, p3, p4, p5, p6, p7, p8, p9, p10⟩ := cells11 (HS.out.later hC.out); go_simp; rfl) | (intro hC; (with_reducible refine (r5_good ⟨n0, n1, n2, n3, ⟨n4, n5, n6⟩⟩ 4 _ (by decide) (by decide)).mono ?_); rintro e w' ⟨rfl, hb⟩; rw [hg]; exact ⟨rfl, hb⟩)); clear hK K))
  refine flow_nil ?_
  intro X hX
  have HX := Lib.hid (HS.out.later hX.out)
  have HBX := Lib.hid (below_step HB.out hX.out)
  clear hX
  go_wp2
  go_ret
  exact ⟨rfl, HBX.out⟩
set_option maxRecDepth 100000 in
set_option maxHeartbeats 8000000 in
theorem ref_fits_c0 (k stop : Int) (torn : Bool) (n0 n1 n2 n3 n4 n5 n6 : Int) (w : World) (hk : decide (k < 0) = false) (hs : decide (stop < 0) = false) (ht : decide (2 < stop) = false) (hz : newsEq ⟨n0, n1, n2, n3, ⟨n4, n5, n6⟩⟩ ⟨0, 0, 0, 0, ⟨0, 0, 0⟩⟩ = false) (hg : goodB ⟨n0, n1, n2, n3, ⟨n4, n5, n6⟩⟩ 4 = true) (h0 : (stop == 0) = false) :
    Calls Try.prog 49 #[.agg #[.int .i64 1, .int .i64 k, .int .i64 stop, .bool torn, .int .i64 n0, .int .i64 n1, .int .i64 n2, .int .i64 n3, .int .i64 n4, .int .i64 n5, .int .i64 n6]] w fun e w' => e = .returned (.bool false) ∧ Below w.heap.size w w' := by
  go_enter Try.func49, Try.ntmps49
  go_upto_region 1 with fail
  have HS := Lib.hid (Cells.new w #[.int .i64 1, .int .i64 k, .int .i64 stop, .bool torn, .int .i64 n0, .int .i64 n1, .int .i64 n2, .int .i64 n3, .int .i64 n4, .int .i64 n5, .int .i64 n6] 58)
  have HB := Lib.hid (below_alloc (Below.refl w.heap.size w) (.cells #[.int .i64 1, .int .i64 k, .int .i64 stop, .bool torn, .int .i64 n0, .int .i64 n1, .int .i64 n2, .int .i64 n3, .int .i64 n4, .int .i64 n5, .int .i64 n6] 58))
  generalize w.alloc (.cells #[.int .i64 1, .int .i64 k, .int .i64 stop, .bool torn, .int .i64 n0, .int .i64 n1, .int .i64 n2, .int .i64 n3, .int .i64 n4, .int .i64 n5, .int .i64 n6] 58) = w1 at HS HB ⊢
  obtain ⟨p0, p1, p2, p3, p4, p5, p6, p7, p8, p9, p10⟩ := cells11 HS.out
  go_wp2
  clear p0 p1 p2 p3 p4 p5 p6 p7 p8 p9 p10
  refine wp_region_flow [.free 0, .calm 1, .free 2, .free 3, .calm 4, .free 5, .free 6, .free 7, .free 8, .free 9, .calm 10, .free 11, .free 12, .free 13, .calm 14, .calm 15, .free 16, .free 17, .free 18] (Below w1.heap.size w1) (Below w1.heap.size w1) (stable_below _ _ (Nat.le_refl _)) (fun _ h => h) (by kernel_rfl) (by kernel_rfl) (below_drew1 (Below.refl _ _)) ?_
  simp only [pickEnts, pickF, List.getElem?_cons_succ, List.getElem?_cons_zero, List.filterMap_cons, List.filterMap_nil, Option.map_some]
  repeat ((first | refine flow_calm (fun K hK => ?_) | refine flow_free (fun K hK => ?_) | refine float_calm (fun K hK => ?_) | refine float_free (fun K hK => ?_)); go_simp; first | (refine hK _ ?_; clear hK K) | (apply Exists.intro; (refine ⟨fun X => ?_, hK _ ?_⟩); (first | (intro hC; rfl) | rfl | (intro hC; obtain ⟨p0, p1, p2, p3, p4, p5, p6, p7, p8, p9, p10⟩ := cells11 (HS.out.later hC.out); go_simp; done) | (intro hC; obtain ⟨p0, p1, p2, p3, p4, p5, p6, p7, p8, p9, p10⟩ := cells11 (HS.out.later hC.out); go_simp; rfl) | (intro hC; (with_reducible refine (r5_good ⟨n0, n1, n2, n3, ⟨n4, n5, n6⟩⟩ 4 _ (by decide) (by decide)).mono ?_); rintro e w' ⟨rfl, hb⟩; rw [hg]; exact ⟨rfl, hb⟩)); clear hK K))
  refine flow_nil ?_
  intro X hX
  have HX := Lib.hid (HS.out.later hX.out)
  have HBX := Lib.hid (below_step HB.out hX.out)
  clear hX
  obtain ⟨p0, p1, p2, p3, p4, p5, p6, p7, p8, p9, p10⟩ := cells11 HX.out
  go_wp2
  go_ret
  exact ⟨rfl, HBX.out⟩
set_option maxRecDepth 100000 in
set_option maxHeartbeats 8000000 in
theorem ref_fits_c1 (k stop : Int) (torn : Bool) (n0 n1 n2 n3 n4 n5 n6 : Int) (w : World) (hk : decide (k < 0) = false) (hs : decide (stop < 0) = false) (ht : decide (2 < stop) = false) (hz : newsEq ⟨n0, n1, n2, n3, ⟨n4, n5, n6⟩⟩ ⟨0, 0, 0, 0, ⟨0, 0, 0⟩⟩ = false) (hg : goodB ⟨n0, n1, n2, n3, ⟨n4, n5, n6⟩⟩ 4 = true) (h0 : (stop == 0) = true) (hn : torn = true) :
    Calls Try.prog 49 #[.agg #[.int .i64 1, .int .i64 k, .int .i64 stop, .bool torn, .int .i64 n0, .int .i64 n1, .int .i64 n2, .int .i64 n3, .int .i64 n4, .int .i64 n5, .int .i64 n6]] w fun e w' => e = .returned (.bool false) ∧ Below w.heap.size w w' := by
  subst hn
  go_enter Try.func49, Try.ntmps49
  go_upto_region 1 with fail
  have HS := Lib.hid (Cells.new w #[.int .i64 1, .int .i64 k, .int .i64 stop, .bool true, .int .i64 n0, .int .i64 n1, .int .i64 n2, .int .i64 n3, .int .i64 n4, .int .i64 n5, .int .i64 n6] 58)
  have HB := Lib.hid (below_alloc (Below.refl w.heap.size w) (.cells #[.int .i64 1, .int .i64 k, .int .i64 stop, .bool true, .int .i64 n0, .int .i64 n1, .int .i64 n2, .int .i64 n3, .int .i64 n4, .int .i64 n5, .int .i64 n6] 58))
  generalize w.alloc (.cells #[.int .i64 1, .int .i64 k, .int .i64 stop, .bool true, .int .i64 n0, .int .i64 n1, .int .i64 n2, .int .i64 n3, .int .i64 n4, .int .i64 n5, .int .i64 n6] 58) = w1 at HS HB ⊢
  obtain ⟨p0, p1, p2, p3, p4, p5, p6, p7, p8, p9, p10⟩ := cells11 HS.out
  go_wp2
  clear p0 p1 p2 p3 p4 p5 p6 p7 p8 p9 p10
  refine wp_region_flow [.free 0, .calm 1, .free 2, .free 3, .calm 4, .free 5, .free 6, .free 7, .free 8, .free 9, .calm 10, .free 11, .free 12, .free 13, .calm 14, .calm 15, .free 16, .free 17, .free 18] (Below w1.heap.size w1) (Below w1.heap.size w1) (stable_below _ _ (Nat.le_refl _)) (fun _ h => h) (by kernel_rfl) (by kernel_rfl) (below_drew1 (Below.refl _ _)) ?_
  simp only [pickEnts, pickF, List.getElem?_cons_succ, List.getElem?_cons_zero, List.filterMap_cons, List.filterMap_nil, Option.map_some]
  repeat ((first | refine flow_calm (fun K hK => ?_) | refine flow_free (fun K hK => ?_) | refine float_calm (fun K hK => ?_) | refine float_free (fun K hK => ?_)); go_simp; first | (refine hK _ ?_; clear hK K) | (apply Exists.intro; (refine ⟨fun X => ?_, hK _ ?_⟩); (first | (intro hC; rfl) | rfl | (intro hC; obtain ⟨p0, p1, p2, p3, p4, p5, p6, p7, p8, p9, p10⟩ := cells11 (HS.out.later hC.out); go_simp; done) | (intro hC; obtain ⟨p0, p1, p2, p3, p4, p5, p6, p7, p8, p9, p10⟩ := cells11 (HS.out.later hC.out); go_simp; rfl) | (intro hC; (with_reducible refine (r5_good ⟨n0, n1, n2, n3, ⟨n4, n5, n6⟩⟩ 4 _ (by decide) (by decide)).mono ?_); rintro e w' ⟨rfl, hb⟩; rw [hg]; exact ⟨rfl, hb⟩)); clear hK K))
  refine flow_nil ?_
  intro X hX
  have HX := Lib.hid (HS.out.later hX.out)
  have HBX := Lib.hid (below_step HB.out hX.out)
  clear hX
  obtain ⟨p0, p1, p2, p3, p4, p5, p6, p7, p8, p9, p10⟩ := cells11 HX.out
  go_wp2
  go_ret
  exact ⟨rfl, HBX.out⟩
set_option maxRecDepth 100000 in
set_option maxHeartbeats 8000000 in
theorem ref_fits_c2 (k stop : Int) (torn : Bool) (n0 n1 n2 n3 n4 n5 n6 : Int) (w : World) (hk : decide (k < 0) = false) (hs : decide (stop < 0) = false) (ht : decide (2 < stop) = false) (hz : newsEq ⟨n0, n1, n2, n3, ⟨n4, n5, n6⟩⟩ ⟨0, 0, 0, 0, ⟨0, 0, 0⟩⟩ = false) (hg : goodB ⟨n0, n1, n2, n3, ⟨n4, n5, n6⟩⟩ 4 = true) (h0 : (stop == 0) = true) (hn : torn = false) :
    Calls Try.prog 49 #[.agg #[.int .i64 1, .int .i64 k, .int .i64 stop, .bool torn, .int .i64 n0, .int .i64 n1, .int .i64 n2, .int .i64 n3, .int .i64 n4, .int .i64 n5, .int .i64 n6]] w fun e w' => e = .returned (.bool (k == 0)) ∧ Below w.heap.size w w' := by
  subst hn
  go_enter Try.func49, Try.ntmps49
  go_upto_region 1 with fail
  have HS := Lib.hid (Cells.new w #[.int .i64 1, .int .i64 k, .int .i64 stop, .bool false, .int .i64 n0, .int .i64 n1, .int .i64 n2, .int .i64 n3, .int .i64 n4, .int .i64 n5, .int .i64 n6] 58)
  have HB := Lib.hid (below_alloc (Below.refl w.heap.size w) (.cells #[.int .i64 1, .int .i64 k, .int .i64 stop, .bool false, .int .i64 n0, .int .i64 n1, .int .i64 n2, .int .i64 n3, .int .i64 n4, .int .i64 n5, .int .i64 n6] 58))
  generalize w.alloc (.cells #[.int .i64 1, .int .i64 k, .int .i64 stop, .bool false, .int .i64 n0, .int .i64 n1, .int .i64 n2, .int .i64 n3, .int .i64 n4, .int .i64 n5, .int .i64 n6] 58) = w1 at HS HB ⊢
  obtain ⟨p0, p1, p2, p3, p4, p5, p6, p7, p8, p9, p10⟩ := cells11 HS.out
  go_wp2
  clear p0 p1 p2 p3 p4 p5 p6 p7 p8 p9 p10
  refine wp_region_flow [.free 0, .calm 1, .free 2, .free 3, .calm 4, .free 5, .free 6, .free 7, .free 8, .free 9, .calm 10, .free 11, .free 12, .free 13, .calm 14, .calm 15, .free 16, .free 17, .free 18] (Below w1.heap.size w1) (Below w1.heap.size w1) (stable_below _ _ (Nat.le_refl _)) (fun _ h => h) (by kernel_rfl) (by kernel_rfl) (below_drew1 (Below.refl _ _)) ?_
  simp only [pickEnts, pickF, List.getElem?_cons_succ, List.getElem?_cons_zero, List.filterMap_cons, List.filterMap_nil, Option.map_some]
  repeat ((first | refine flow_calm (fun K hK => ?_) | refine flow_free (fun K hK => ?_) | refine float_calm (fun K hK => ?_) | refine float_free (fun K hK => ?_)); go_simp; first | (refine hK _ ?_; clear hK K) | (apply Exists.intro; (refine ⟨fun X => ?_, hK _ ?_⟩); (first | (intro hC; rfl) | rfl | (intro hC; obtain ⟨p0, p1, p2, p3, p4, p5, p6, p7, p8, p9, p10⟩ := cells11 (HS.out.later hC.out); go_simp; done) | (intro hC; obtain ⟨p0, p1, p2, p3, p4, p5, p6, p7, p8, p9, p10⟩ := cells11 (HS.out.later hC.out); go_simp; rfl) | (intro hC; (with_reducible refine (r5_good ⟨n0, n1, n2, n3, ⟨n4, n5, n6⟩⟩ 4 _ (by decide) (by decide)).mono ?_); rintro e w' ⟨rfl, hb⟩; rw [hg]; exact ⟨rfl, hb⟩)); clear hK K))
  refine flow_nil ?_
  intro X hX
  have HX := Lib.hid (HS.out.later hX.out)
  have HBX := Lib.hid (below_step HB.out hX.out)
  clear hX
  obtain ⟨p0, p1, p2, p3, p4, p5, p6, p7, p8, p9, p10⟩ := cells11 HX.out
  go_wp2
  go_ret
  exact ⟨rfl, HBX.out⟩
set_option maxRecDepth 100000 in
set_option maxHeartbeats 8000000 in
theorem ref_fits_d0 (k stop : Int) (torn : Bool) (n0 n1 n2 n3 n4 n5 n6 : Int) (w : World) (hk : decide (k < 0) = false) (hs : decide (stop < 0) = false) (ht : decide (2 < stop) = false) (hz : newsEq ⟨n0, n1, n2, n3, ⟨n4, n5, n6⟩⟩ ⟨0, 0, 0, 0, ⟨0, 0, 0⟩⟩ = true) (hn : torn = true) :
    Calls Try.prog 49 #[.agg #[.int .i64 4, .int .i64 k, .int .i64 stop, .bool torn, .int .i64 n0, .int .i64 n1, .int .i64 n2, .int .i64 n3, .int .i64 n4, .int .i64 n5, .int .i64 n6]] w fun e w' => e = .returned (.bool false) ∧ Below w.heap.size w w' := by
  subst hn
  go_enter Try.func49, Try.ntmps49
  go_upto_region 1 with fail
  have HS := Lib.hid (Cells.new w #[.int .i64 4, .int .i64 k, .int .i64 stop, .bool true, .int .i64 n0, .int .i64 n1, .int .i64 n2, .int .i64 n3, .int .i64 n4, .int .i64 n5, .int .i64 n6] 58)
  have HB := Lib.hid (below_alloc (Below.refl w.heap.size w) (.cells #[.int .i64 4, .int .i64 k, .int .i64 stop, .bool true, .int .i64 n0, .int .i64 n1, .int .i64 n2, .int .i64 n3, .int .i64 n4, .int .i64 n5, .int .i64 n6] 58))
  generalize w.alloc (.cells #[.int .i64 4, .int .i64 k, .int .i64 stop, .bool true, .int .i64 n0, .int .i64 n1, .int .i64 n2, .int .i64 n3, .int .i64 n4, .int .i64 n5, .int .i64 n6] 58) = w1 at HS HB ⊢
  obtain ⟨p0, p1, p2, p3, p4, p5, p6, p7, p8, p9, p10⟩ := cells11 HS.out
  go_wp2
  clear p0 p1 p2 p3 p4 p5 p6 p7 p8 p9 p10
  refine wp_region_flow [.free 0, .calm 1, .free 2, .free 3, .calm 4, .free 5, .free 6, .free 7, .free 8, .free 9, .calm 10, .free 11, .free 12, .free 13, .free 14, .free 15, .free 16, .free 17, .free 18] (Below w1.heap.size w1) (Below w1.heap.size w1) (stable_below _ _ (Nat.le_refl _)) (fun _ h => h) (by kernel_rfl) (by kernel_rfl) (below_drew1 (Below.refl _ _)) ?_
  simp only [pickEnts, pickF, List.getElem?_cons_succ, List.getElem?_cons_zero, List.filterMap_cons, List.filterMap_nil, Option.map_some]
  repeat ((first | refine flow_calm (fun K hK => ?_) | refine flow_free (fun K hK => ?_) | refine float_calm (fun K hK => ?_) | refine float_free (fun K hK => ?_)); go_simp; first | (refine hK _ ?_; clear hK K) | (apply Exists.intro; (refine ⟨fun X => ?_, hK _ ?_⟩); (first | (intro hC; rfl) | rfl | (intro hC; obtain ⟨p0, p1, p2, p3, p4, p5, p6, p7, p8, p9, p10⟩ := cells11 (HS.out.later hC.out); go_simp; done) | (intro hC; obtain ⟨p0, p1, p2, p3, p4, p5, p6, p7, p8, p9, p10⟩ := cells11 (HS.out.later hC.out); go_simp; rfl)); clear hK K))
  refine flow_nil ?_
  intro X hX
  have HX := Lib.hid (HS.out.later hX.out)
  have HBX := Lib.hid (below_step HB.out hX.out)
  clear hX
  obtain ⟨p0, p1, p2, p3, p4, p5, p6, p7, p8, p9, p10⟩ := cells11 HX.out
  go_wp2
  go_ret
  exact ⟨rfl, HBX.out⟩
set_option maxRecDepth 100000 in
set_option maxHeartbeats 8000000 in
theorem ref_fits_d1 (k stop : Int) (torn : Bool) (n0 n1 n2 n3 n4 n5 n6 : Int) (w : World) (hk : decide (k < 0) = false) (hs : decide (stop < 0) = false) (ht : decide (2 < stop) = false) (hz : newsEq ⟨n0, n1, n2, n3, ⟨n4, n5, n6⟩⟩ ⟨0, 0, 0, 0, ⟨0, 0, 0⟩⟩ = true) (hn : torn = false) :
    Calls Try.prog 49 #[.agg #[.int .i64 4, .int .i64 k, .int .i64 stop, .bool torn, .int .i64 n0, .int .i64 n1, .int .i64 n2, .int .i64 n3, .int .i64 n4, .int .i64 n5, .int .i64 n6]] w fun e w' => e = .returned (.bool true) ∧ Below w.heap.size w w' := by
  subst hn
  go_enter Try.func49, Try.ntmps49
  go_upto_region 1 with fail
  have HS := Lib.hid (Cells.new w #[.int .i64 4, .int .i64 k, .int .i64 stop, .bool false, .int .i64 n0, .int .i64 n1, .int .i64 n2, .int .i64 n3, .int .i64 n4, .int .i64 n5, .int .i64 n6] 58)
  have HB := Lib.hid (below_alloc (Below.refl w.heap.size w) (.cells #[.int .i64 4, .int .i64 k, .int .i64 stop, .bool false, .int .i64 n0, .int .i64 n1, .int .i64 n2, .int .i64 n3, .int .i64 n4, .int .i64 n5, .int .i64 n6] 58))
  generalize w.alloc (.cells #[.int .i64 4, .int .i64 k, .int .i64 stop, .bool false, .int .i64 n0, .int .i64 n1, .int .i64 n2, .int .i64 n3, .int .i64 n4, .int .i64 n5, .int .i64 n6] 58) = w1 at HS HB ⊢
  obtain ⟨p0, p1, p2, p3, p4, p5, p6, p7, p8, p9, p10⟩ := cells11 HS.out
  go_wp2
  clear p0 p1 p2 p3 p4 p5 p6 p7 p8 p9 p10
  refine wp_region_flow [.free 0, .calm 1, .free 2, .free 3, .calm 4, .free 5, .free 6, .free 7, .free 8, .free 9, .calm 10, .free 11, .free 12, .free 13, .free 14, .free 15, .free 16, .free 17, .free 18] (Below w1.heap.size w1) (Below w1.heap.size w1) (stable_below _ _ (Nat.le_refl _)) (fun _ h => h) (by kernel_rfl) (by kernel_rfl) (below_drew1 (Below.refl _ _)) ?_
  simp only [pickEnts, pickF, List.getElem?_cons_succ, List.getElem?_cons_zero, List.filterMap_cons, List.filterMap_nil, Option.map_some]
  repeat ((first | refine flow_calm (fun K hK => ?_) | refine flow_free (fun K hK => ?_) | refine float_calm (fun K hK => ?_) | refine float_free (fun K hK => ?_)); go_simp; first | (refine hK _ ?_; clear hK K) | (apply Exists.intro; (refine ⟨fun X => ?_, hK _ ?_⟩); (first | (intro hC; rfl) | rfl | (intro hC; obtain ⟨p0, p1, p2, p3, p4, p5, p6, p7, p8, p9, p10⟩ := cells11 (HS.out.later hC.out); go_simp; done) | (intro hC; obtain ⟨p0, p1, p2, p3, p4, p5, p6, p7, p8, p9, p10⟩ := cells11 (HS.out.later hC.out); go_simp; rfl)); clear hK K))
  refine flow_nil ?_
  intro X hX
  have HX := Lib.hid (HS.out.later hX.out)
  have HBX := Lib.hid (below_step HB.out hX.out)
  clear hX
  obtain ⟨p0, p1, p2, p3, p4, p5, p6, p7, p8, p9, p10⟩ := cells11 HX.out
  go_wp2
  go_ret
  exact ⟨rfl, HBX.out⟩
set_option maxRecDepth 100000 in
set_option maxHeartbeats 8000000 in
theorem ref_fits_e0 (k stop : Int) (torn : Bool) (n0 n1 n2 n3 n4 n5 n6 : Int) (w : World) (hk : decide (k < 0) = false) (hs : decide (stop < 0) = false) (ht : decide (2 < stop) = false) (hz : newsEq ⟨n0, n1, n2, n3, ⟨n4, n5, n6⟩⟩ ⟨0, 0, 0, 0, ⟨0, 0, 0⟩⟩ = true) (h0 : (stop == 0) = false) :
    Calls Try.prog 49 #[.agg #[.int .i64 5, .int .i64 k, .int .i64 stop, .bool torn, .int .i64 n0, .int .i64 n1, .int .i64 n2, .int .i64 n3, .int .i64 n4, .int .i64 n5, .int .i64 n6]] w fun e w' => e = .returned (.bool false) ∧ Below w.heap.size w w' := by
  go_enter Try.func49, Try.ntmps49
  go_upto_region 1 with fail
  have HS := Lib.hid (Cells.new w #[.int .i64 5, .int .i64 k, .int .i64 stop, .bool torn, .int .i64 n0, .int .i64 n1, .int .i64 n2, .int .i64 n3, .int .i64 n4, .int .i64 n5, .int .i64 n6] 58)
  have HB := Lib.hid (below_alloc (Below.refl w.heap.size w) (.cells #[.int .i64 5, .int .i64 k, .int .i64 stop, .bool torn, .int .i64 n0, .int .i64 n1, .int .i64 n2, .int .i64 n3, .int .i64 n4, .int .i64 n5, .int .i64 n6] 58))
  generalize w.alloc (.cells #[.int .i64 5, .int .i64 k, .int .i64 stop, .bool torn, .int .i64 n0, .int .i64 n1, .int .i64 n2, .int .i64 n3, .int .i64 n4, .int .i64 n5, .int .i64 n6] 58) = w1 at HS HB ⊢
  obtain ⟨p0, p1, p2, p3, p4, p5, p6, p7, p8, p9, p10⟩ := cells11 HS.out
  go_wp2
  clear p0 p1 p2 p3 p4 p5 p6 p7 p8 p9 p10
  refine wp_region_flow [.free 0, .calm 1, .free 2, .free 3, .calm 4, .free 5, .free 6, .free 7, .free 8, .free 9, .calm 10, .free 11, .free 12, .free 13, .free 14, .free 15, .free 16, .free 17, .free 18] (Below w1.heap.size w1) (Below w1.heap.size w1) (stable_below _ _ (Nat.le_refl _)) (fun _ h => h) (by kernel_rfl) (by kernel_rfl) (below_drew1 (Below.refl _ _)) ?_
  simp only [pickEnts, pickF, List.getElem?_cons_succ, List.getElem?_cons_zero, List.filterMap_cons, List.filterMap_nil, Option.map_some]
  repeat ((first | refine flow_calm (fun K hK => ?_) | refine flow_free (fun K hK => ?_) | refine float_calm (fun K hK => ?_) | refine float_free (fun K hK => ?_)); go_simp; first | (refine hK _ ?_; clear hK K) | (apply Exists.intro; (refine ⟨fun X => ?_, hK _ ?_⟩); (first | (intro hC; rfl) | rfl | (intro hC; obtain ⟨p0, p1, p2, p3, p4, p5, p6, p7, p8, p9, p10⟩ := cells11 (HS.out.later hC.out); go_simp; done) | (intro hC; obtain ⟨p0, p1, p2, p3, p4, p5, p6, p7, p8, p9, p10⟩ := cells11 (HS.out.later hC.out); go_simp; rfl)); clear hK K))
  refine flow_nil ?_
  intro X hX
  have HX := Lib.hid (HS.out.later hX.out)
  have HBX := Lib.hid (below_step HB.out hX.out)
  clear hX
  obtain ⟨p0, p1, p2, p3, p4, p5, p6, p7, p8, p9, p10⟩ := cells11 HX.out
  go_wp2
  go_ret
  exact ⟨rfl, HBX.out⟩
set_option maxRecDepth 100000 in
set_option maxHeartbeats 8000000 in
theorem ref_fits_e1 (k stop : Int) (torn : Bool) (n0 n1 n2 n3 n4 n5 n6 : Int) (w : World) (hk : decide (k < 0) = false) (hs : decide (stop < 0) = false) (ht : decide (2 < stop) = false) (hz : newsEq ⟨n0, n1, n2, n3, ⟨n4, n5, n6⟩⟩ ⟨0, 0, 0, 0, ⟨0, 0, 0⟩⟩ = true) (h0 : (stop == 0) = true) :
    Calls Try.prog 49 #[.agg #[.int .i64 5, .int .i64 k, .int .i64 stop, .bool torn, .int .i64 n0, .int .i64 n1, .int .i64 n2, .int .i64 n3, .int .i64 n4, .int .i64 n5, .int .i64 n6]] w fun e w' => e = .returned (.bool true) ∧ Below w.heap.size w w' := by
  go_enter Try.func49, Try.ntmps49
  go_upto_region 1 with fail
  have HS := Lib.hid (Cells.new w #[.int .i64 5, .int .i64 k, .int .i64 stop, .bool torn, .int .i64 n0, .int .i64 n1, .int .i64 n2, .int .i64 n3, .int .i64 n4, .int .i64 n5, .int .i64 n6] 58)
  have HB := Lib.hid (below_alloc (Below.refl w.heap.size w) (.cells #[.int .i64 5, .int .i64 k, .int .i64 stop, .bool torn, .int .i64 n0, .int .i64 n1, .int .i64 n2, .int .i64 n3, .int .i64 n4, .int .i64 n5, .int .i64 n6] 58))
  generalize w.alloc (.cells #[.int .i64 5, .int .i64 k, .int .i64 stop, .bool torn, .int .i64 n0, .int .i64 n1, .int .i64 n2, .int .i64 n3, .int .i64 n4, .int .i64 n5, .int .i64 n6] 58) = w1 at HS HB ⊢
  obtain ⟨p0, p1, p2, p3, p4, p5, p6, p7, p8, p9, p10⟩ := cells11 HS.out
  go_wp2
  clear p0 p1 p2 p3 p4 p5 p6 p7 p8 p9 p10
  refine wp_region_flow [.free 0, .calm 1, .free 2, .free 3, .calm 4, .free 5, .free 6, .free 7, .free 8, .free 9, .calm 10, .free 11, .free 12, .free 13, .free 14, .free 15, .free 16, .free 17, .free 18] (Below w1.heap.size w1) (Below w1.heap.size w1) (stable_below _ _ (Nat.le_refl _)) (fun _ h => h) (by kernel_rfl) (by kernel_rfl) (below_drew1 (Below.refl _ _)) ?_
  simp only [pickEnts, pickF, List.getElem?_cons_succ, List.getElem?_cons_zero, List.filterMap_cons, List.filterMap_nil, Option.map_some]
  repeat ((first | refine flow_calm (fun K hK => ?_) | refine flow_free (fun K hK => ?_) | refine float_calm (fun K hK => ?_) | refine float_free (fun K hK => ?_)); go_simp; first | (refine hK _ ?_; clear hK K) | (apply Exists.intro; (refine ⟨fun X => ?_, hK _ ?_⟩); (first | (intro hC; rfl) | rfl | (intro hC; obtain ⟨p0, p1, p2, p3, p4, p5, p6, p7, p8, p9, p10⟩ := cells11 (HS.out.later hC.out); go_simp; done) | (intro hC; obtain ⟨p0, p1, p2, p3, p4, p5, p6, p7, p8, p9, p10⟩ := cells11 (HS.out.later hC.out); go_simp; rfl)); clear hK K))
  refine flow_nil ?_
  intro X hX
  have HX := Lib.hid (HS.out.later hX.out)
  have HBX := Lib.hid (below_step HB.out hX.out)
  clear hX
  obtain ⟨p0, p1, p2, p3, p4, p5, p6, p7, p8, p9, p10⟩ := cells11 HX.out
  go_wp2
  go_ret
  exact ⟨rfl, HBX.out⟩
set_option maxRecDepth 100000 in
set_option maxHeartbeats 8000000 in
theorem ref_fits_g0 (do_ : Int) (k stop : Int) (torn : Bool) (n0 n1 n2 n3 n4 n5 n6 : Int) (w : World) (d1 : decide (do_ < 1) = false) (d2 : decide (6 < do_) = false) (hk : decide (k < 0) = false) (hs : decide (stop < 0) = false) (ht : decide (2 < stop) = false) (f1 : (do_ == 1) = false) (f4 : (do_ == 4) = false) (f5 : (do_ == 5) = false) (hz : newsEq ⟨n0, n1, n2, n3, ⟨n4, n5, n6⟩⟩ ⟨0, 0, 0, 0, ⟨0, 0, 0⟩⟩ = true) (h0 : (stop == 0) = false) :
    Calls Try.prog 49 #[.agg #[.int .i64 do_, .int .i64 k, .int .i64 stop, .bool torn, .int .i64 n0, .int .i64 n1, .int .i64 n2, .int .i64 n3, .int .i64 n4, .int .i64 n5, .int .i64 n6]] w fun e w' => e = .returned (.bool false) ∧ Below w.heap.size w w' := by
  go_enter Try.func49, Try.ntmps49
  go_upto_region 1 with fail
  have HS := Lib.hid (Cells.new w #[.int .i64 do_, .int .i64 k, .int .i64 stop, .bool torn, .int .i64 n0, .int .i64 n1, .int .i64 n2, .int .i64 n3, .int .i64 n4, .int .i64 n5, .int .i64 n6] 58)
  have HB := Lib.hid (below_alloc (Below.refl w.heap.size w) (.cells #[.int .i64 do_, .int .i64 k, .int .i64 stop, .bool torn, .int .i64 n0, .int .i64 n1, .int .i64 n2, .int .i64 n3, .int .i64 n4, .int .i64 n5, .int .i64 n6] 58))
  generalize w.alloc (.cells #[.int .i64 do_, .int .i64 k, .int .i64 stop, .bool torn, .int .i64 n0, .int .i64 n1, .int .i64 n2, .int .i64 n3, .int .i64 n4, .int .i64 n5, .int .i64 n6] 58) = w1 at HS HB ⊢
  obtain ⟨p0, p1, p2, p3, p4, p5, p6, p7, p8, p9, p10⟩ := cells11 HS.out
  go_wp2
  clear p0 p1 p2 p3 p4 p5 p6 p7 p8 p9 p10
  refine wp_region_flow [.free 0, .calm 1, .free 2, .free 3, .calm 4, .free 5, .free 6, .free 7, .free 8, .free 9, .calm 10, .free 11, .free 12, .free 13, .free 14, .free 15, .free 16, .free 17, .free 18] (Below w1.heap.size w1) (Below w1.heap.size w1) (stable_below _ _ (Nat.le_refl _)) (fun _ h => h) (by kernel_rfl) (by kernel_rfl) (below_drew1 (Below.refl _ _)) ?_
  simp only [pickEnts, pickF, List.getElem?_cons_succ, List.getElem?_cons_zero, List.filterMap_cons, List.filterMap_nil, Option.map_some]
  repeat ((first | refine flow_calm (fun K hK => ?_) | refine flow_free (fun K hK => ?_) | refine float_calm (fun K hK => ?_) | refine float_free (fun K hK => ?_)); go_simp; first | (refine hK _ ?_; clear hK K) | (apply Exists.intro; (refine ⟨fun X => ?_, hK _ ?_⟩); (first | (intro hC; rfl) | rfl | (intro hC; obtain ⟨p0, p1, p2, p3, p4, p5, p6, p7, p8, p9, p10⟩ := cells11 (HS.out.later hC.out); go_simp; done) | (intro hC; obtain ⟨p0, p1, p2, p3, p4, p5, p6, p7, p8, p9, p10⟩ := cells11 (HS.out.later hC.out); go_simp; rfl)); clear hK K))
  refine flow_nil ?_
  intro X hX
  have HX := Lib.hid (HS.out.later hX.out)
  have HBX := Lib.hid (below_step HB.out hX.out)
  clear hX
  obtain ⟨p0, p1, p2, p3, p4, p5, p6, p7, p8, p9, p10⟩ := cells11 HX.out
  go_wp2
  go_ret
  exact ⟨rfl, HBX.out⟩
set_option maxRecDepth 100000 in
set_option maxHeartbeats 8000000 in
theorem ref_fits_g1 (do_ : Int) (k stop : Int) (torn : Bool) (n0 n1 n2 n3 n4 n5 n6 : Int) (w : World) (d1 : decide (do_ < 1) = false) (d2 : decide (6 < do_) = false) (hk : decide (k < 0) = false) (hs : decide (stop < 0) = false) (ht : decide (2 < stop) = false) (f1 : (do_ == 1) = false) (f4 : (do_ == 4) = false) (f5 : (do_ == 5) = false) (hz : newsEq ⟨n0, n1, n2, n3, ⟨n4, n5, n6⟩⟩ ⟨0, 0, 0, 0, ⟨0, 0, 0⟩⟩ = true) (h0 : (stop == 0) = true) (hn : torn = true) :
    Calls Try.prog 49 #[.agg #[.int .i64 do_, .int .i64 k, .int .i64 stop, .bool torn, .int .i64 n0, .int .i64 n1, .int .i64 n2, .int .i64 n3, .int .i64 n4, .int .i64 n5, .int .i64 n6]] w fun e w' => e = .returned (.bool false) ∧ Below w.heap.size w w' := by
  subst hn
  go_enter Try.func49, Try.ntmps49
  go_upto_region 1 with fail
  have HS := Lib.hid (Cells.new w #[.int .i64 do_, .int .i64 k, .int .i64 stop, .bool true, .int .i64 n0, .int .i64 n1, .int .i64 n2, .int .i64 n3, .int .i64 n4, .int .i64 n5, .int .i64 n6] 58)
  have HB := Lib.hid (below_alloc (Below.refl w.heap.size w) (.cells #[.int .i64 do_, .int .i64 k, .int .i64 stop, .bool true, .int .i64 n0, .int .i64 n1, .int .i64 n2, .int .i64 n3, .int .i64 n4, .int .i64 n5, .int .i64 n6] 58))
  generalize w.alloc (.cells #[.int .i64 do_, .int .i64 k, .int .i64 stop, .bool true, .int .i64 n0, .int .i64 n1, .int .i64 n2, .int .i64 n3, .int .i64 n4, .int .i64 n5, .int .i64 n6] 58) = w1 at HS HB ⊢
  obtain ⟨p0, p1, p2, p3, p4, p5, p6, p7, p8, p9, p10⟩ := cells11 HS.out
  go_wp2
  clear p0 p1 p2 p3 p4 p5 p6 p7 p8 p9 p10
  refine wp_region_flow [.free 0, .calm 1, .free 2, .free 3, .calm 4, .free 5, .free 6, .free 7, .free 8, .free 9, .calm 10, .free 11, .free 12, .free 13, .free 14, .free 15, .free 16, .free 17, .free 18] (Below w1.heap.size w1) (Below w1.heap.size w1) (stable_below _ _ (Nat.le_refl _)) (fun _ h => h) (by kernel_rfl) (by kernel_rfl) (below_drew1 (Below.refl _ _)) ?_
  simp only [pickEnts, pickF, List.getElem?_cons_succ, List.getElem?_cons_zero, List.filterMap_cons, List.filterMap_nil, Option.map_some]
  repeat ((first | refine flow_calm (fun K hK => ?_) | refine flow_free (fun K hK => ?_) | refine float_calm (fun K hK => ?_) | refine float_free (fun K hK => ?_)); go_simp; first | (refine hK _ ?_; clear hK K) | (apply Exists.intro; (refine ⟨fun X => ?_, hK _ ?_⟩); (first | (intro hC; rfl) | rfl | (intro hC; obtain ⟨p0, p1, p2, p3, p4, p5, p6, p7, p8, p9, p10⟩ := cells11 (HS.out.later hC.out); go_simp; done) | (intro hC; obtain ⟨p0, p1, p2, p3, p4, p5, p6, p7, p8, p9, p10⟩ := cells11 (HS.out.later hC.out); go_simp; rfl)); clear hK K))
  refine flow_nil ?_
  intro X hX
  have HX := Lib.hid (HS.out.later hX.out)
  have HBX := Lib.hid (below_step HB.out hX.out)
  clear hX
  obtain ⟨p0, p1, p2, p3, p4, p5, p6, p7, p8, p9, p10⟩ := cells11 HX.out
  go_wp2
  go_ret
  exact ⟨rfl, HBX.out⟩
set_option maxRecDepth 100000 in
set_option maxHeartbeats 8000000 in
theorem ref_fits_g2 (do_ : Int) (k stop : Int) (torn : Bool) (n0 n1 n2 n3 n4 n5 n6 : Int) (w : World) (d1 : decide (do_ < 1) = false) (d2 : decide (6 < do_) = false) (hk : decide (k < 0) = false) (hs : decide (stop < 0) = false) (ht : decide (2 < stop) = false) (f1 : (do_ == 1) = false) (f4 : (do_ == 4) = false) (f5 : (do_ == 5) = false) (hz : newsEq ⟨n0, n1, n2, n3, ⟨n4, n5, n6⟩⟩ ⟨0, 0, 0, 0, ⟨0, 0, 0⟩⟩ = true) (h0 : (stop == 0) = true) (hn : torn = false) :
    Calls Try.prog 49 #[.agg #[.int .i64 do_, .int .i64 k, .int .i64 stop, .bool torn, .int .i64 n0, .int .i64 n1, .int .i64 n2, .int .i64 n3, .int .i64 n4, .int .i64 n5, .int .i64 n6]] w fun e w' => e = .returned (.bool (k == 0)) ∧ Below w.heap.size w w' := by
  subst hn
  go_enter Try.func49, Try.ntmps49
  go_upto_region 1 with fail
  have HS := Lib.hid (Cells.new w #[.int .i64 do_, .int .i64 k, .int .i64 stop, .bool false, .int .i64 n0, .int .i64 n1, .int .i64 n2, .int .i64 n3, .int .i64 n4, .int .i64 n5, .int .i64 n6] 58)
  have HB := Lib.hid (below_alloc (Below.refl w.heap.size w) (.cells #[.int .i64 do_, .int .i64 k, .int .i64 stop, .bool false, .int .i64 n0, .int .i64 n1, .int .i64 n2, .int .i64 n3, .int .i64 n4, .int .i64 n5, .int .i64 n6] 58))
  generalize w.alloc (.cells #[.int .i64 do_, .int .i64 k, .int .i64 stop, .bool false, .int .i64 n0, .int .i64 n1, .int .i64 n2, .int .i64 n3, .int .i64 n4, .int .i64 n5, .int .i64 n6] 58) = w1 at HS HB ⊢
  obtain ⟨p0, p1, p2, p3, p4, p5, p6, p7, p8, p9, p10⟩ := cells11 HS.out
  go_wp2
  clear p0 p1 p2 p3 p4 p5 p6 p7 p8 p9 p10
  refine wp_region_flow [.free 0, .calm 1, .free 2, .free 3, .calm 4, .free 5, .free 6, .free 7, .free 8, .free 9, .calm 10, .free 11, .free 12, .free 13, .free 14, .free 15, .free 16, .free 17, .free 18] (Below w1.heap.size w1) (Below w1.heap.size w1) (stable_below _ _ (Nat.le_refl _)) (fun _ h => h) (by kernel_rfl) (by kernel_rfl) (below_drew1 (Below.refl _ _)) ?_
  simp only [pickEnts, pickF, List.getElem?_cons_succ, List.getElem?_cons_zero, List.filterMap_cons, List.filterMap_nil, Option.map_some]
  repeat ((first | refine flow_calm (fun K hK => ?_) | refine flow_free (fun K hK => ?_) | refine float_calm (fun K hK => ?_) | refine float_free (fun K hK => ?_)); go_simp; first | (refine hK _ ?_; clear hK K) | (apply Exists.intro; (refine ⟨fun X => ?_, hK _ ?_⟩); (first | (intro hC; rfl) | rfl | (intro hC; obtain ⟨p0, p1, p2, p3, p4, p5, p6, p7, p8, p9, p10⟩ := cells11 (HS.out.later hC.out); go_simp; done) | (intro hC; obtain ⟨p0, p1, p2, p3, p4, p5, p6, p7, p8, p9, p10⟩ := cells11 (HS.out.later hC.out); go_simp; rfl)); clear hK K))
  refine flow_nil ?_
  intro X hX
  have HX := Lib.hid (HS.out.later hX.out)
  have HBX := Lib.hid (below_step HB.out hX.out)
  clear hX
  obtain ⟨p0, p1, p2, p3, p4, p5, p6, p7, p8, p9, p10⟩ := cells11 HX.out
  go_wp2
  go_ret
  exact ⟨rfl, HBX.out⟩
end Go.Proofs.Ytfmojgdomficlaa
set_option linter.unusedVariables false
set_option linter.unusedSimpArgs false
/-! Whether a step fits, as the reference asks it: it fits. -/
namespace Go.Proofs.Ytfmojgdomficlaa
open Go.RowKit Go.Shelf Go.Proofs.YtfmojgdomficlaaW.PrintWords

theorem fits_not {s : SStep} (h : ¬ oddB s) : fitsB s = if s.do_ = 1 then decide (s.k = 0) && formedB [s.news] 4 else if s.do_ = 2 ∨ s.do_ = 3 ∨ s.do_ = 6 then decide (s.k = 0) else decide (s.do_ = 4 ∨ s.do_ = 5) := by rw [fitsB, if_neg h]
theorem ref_Step (s : SStep) (w : World) : Calls Try.prog 49 #[.agg #[.int .i64 s.do_, .int .i64 s.k, .int .i64 s.stop, .bool s.torn, .int .i64 s.news.do_, .int .i64 s.news.src, .int .i64 s.news.id, .int .i64 s.news.ver, .int .i64 s.news.body.at_, .int .i64 s.news.body.key, .int .i64 s.news.body.val]] w fun e w' => e = .returned (.bool (fitsB s)) ∧ Below w.heap.size w w' := by
  obtain ⟨do_, k, stop, torn, ⟨n0, n1, n2, n3, ⟨n4, n5, n6⟩⟩⟩ := s
  by_cases d1 : do_ < 1
  · have hf : fitsB ⟨do_, k, stop, torn, ⟨n0, n1, n2, n3, ⟨n4, n5, n6⟩⟩⟩ = false := by
      by_cases ho : oddB ⟨do_, k, stop, torn, ⟨n0, n1, n2, n3, ⟨n4, n5, n6⟩⟩⟩
      · exact fits_odd ho
      · rw [fits_not ho, if_neg (by simp only; omega), if_neg (by simp only; omega)]; simp; omega
    rw [hf]
    exact ref_fits_a0 do_ k stop torn n0 n1 n2 n3 n4 n5 n6 w (by simpa using d1)
  have D1 : decide (do_ < 1) = false := by simpa using d1
  by_cases d2 : 6 < do_
  · have hf : fitsB ⟨do_, k, stop, torn, ⟨n0, n1, n2, n3, ⟨n4, n5, n6⟩⟩⟩ = false := by
      by_cases ho : oddB ⟨do_, k, stop, torn, ⟨n0, n1, n2, n3, ⟨n4, n5, n6⟩⟩⟩
      · exact fits_odd ho
      · rw [fits_not ho, if_neg (by simp only; omega), if_neg (by simp only; omega)]; simp; omega
    rw [hf]
    exact ref_fits_a1 do_ k stop torn n0 n1 n2 n3 n4 n5 n6 w D1 (by simpa using d2)
  have D2 : decide (6 < do_) = false := by simpa using d2
  by_cases hk : k < 0
  · rw [fits_odd (.inl hk)]
    exact ref_fits_a2 do_ k stop torn n0 n1 n2 n3 n4 n5 n6 w D1 D2 (by simpa using hk)
  have HK : decide (k < 0) = false := by simpa using hk
  by_cases hs : stop < 0
  · rw [fits_odd (.inr (.inl hs))]
    exact ref_fits_a3 do_ k stop torn n0 n1 n2 n3 n4 n5 n6 w D1 D2 HK (by simpa using hs)
  have HS : decide (stop < 0) = false := by simpa using hs
  by_cases ht : 2 < stop
  · rw [fits_odd (.inr (.inr (.inl ht)))]
    exact ref_fits_a4 do_ k stop torn n0 n1 n2 n3 n4 n5 n6 w D1 D2 HK HS (by simpa using ht)
  have HT : decide (2 < stop) = false := by simpa using ht
  have odd4 : do_ ≠ 4 → stop ≠ 0 → oddB ⟨do_, k, stop, torn, ⟨n0, n1, n2, n3, ⟨n4, n5, n6⟩⟩⟩ := fun a b => .inr (.inr (.inr (.inl ⟨a, b⟩)))
  have odd5 : do_ ≠ 5 → torn = true → oddB ⟨do_, k, stop, torn, ⟨n0, n1, n2, n3, ⟨n4, n5, n6⟩⟩⟩ := fun a b => .inr (.inr (.inr (.inr (.inl ⟨a, b⟩))))
  have odd6 : do_ ≠ 1 → newsEq ⟨n0, n1, n2, n3, ⟨n4, n5, n6⟩⟩ noNews = false → oddB ⟨do_, k, stop, torn, ⟨n0, n1, n2, n3, ⟨n4, n5, n6⟩⟩⟩ := fun a b => .inr (.inr (.inr (.inr (.inr ⟨a, b⟩))))
  have fine : (do_ = 4 ∨ stop = 0) → (do_ = 5 ∨ torn = false) → (do_ = 1 ∨ newsEq ⟨n0, n1, n2, n3, ⟨n4, n5, n6⟩⟩ noNews = true) → ¬ oddB ⟨do_, k, stop, torn, ⟨n0, n1, n2, n3, ⟨n4, n5, n6⟩⟩⟩ := fun a b c h => by
    rcases h with h | h | h | h | h | h
    · exact hk h
    · exact hs h
    · exact ht h
    · rcases a with a | a
      · exact h.1 a
      · exact h.2 a
    · rcases b with b | b
      · exact h.1 b
      · have := h.2; simp only at this; rw [b] at this; cases this
    · rcases c with c | c
      · exact h.1 c
      · have := h.2; simp only at this; rw [c] at this; cases this
  cases hz : newsEq ⟨n0, n1, n2, n3, ⟨n4, n5, n6⟩⟩ noNews
  · by_cases h1 : do_ = 1
    · subst h1
      cases hg : goodB ⟨n0, n1, n2, n3, ⟨n4, n5, n6⟩⟩ 4
      · have hf : fitsB ⟨1, k, stop, torn, ⟨n0, n1, n2, n3, ⟨n4, n5, n6⟩⟩⟩ = false := by
          by_cases ho : oddB ⟨1, k, stop, torn, ⟨n0, n1, n2, n3, ⟨n4, n5, n6⟩⟩⟩
          · exact fits_odd ho
          · rw [fits_not ho, if_pos rfl, formed_one, hg, Bool.and_false]
        rw [hf]
        exact ref_fits_b2 k stop torn n0 n1 n2 n3 n4 n5 n6 w HK HS HT hz hg
      · by_cases h0 : stop = 0
        · cases torn
          · have hf : fitsB ⟨1, k, stop, false, ⟨n0, n1, n2, n3, ⟨n4, n5, n6⟩⟩⟩ = (k == 0) := by
              rw [fits_not (fine (.inr h0) (.inr rfl) (.inl rfl)), if_pos rfl, formed_one, hg, Bool.and_true]; rfl
            rw [hf]
            exact ref_fits_c2 k stop false n0 n1 n2 n3 n4 n5 n6 w HK HS HT hz hg (by simpa using h0) rfl
          · rw [fits_odd (odd5 (by decide) rfl)]
            exact ref_fits_c1 k stop true n0 n1 n2 n3 n4 n5 n6 w HK HS HT hz hg (by simpa using h0) rfl
        · rw [fits_odd (odd4 (by decide) h0)]
          exact ref_fits_c0 k stop torn n0 n1 n2 n3 n4 n5 n6 w HK HS HT hz hg (by simpa using h0)
    · rw [fits_odd (odd6 h1 hz)]
      exact ref_fits_b1 do_ k stop torn n0 n1 n2 n3 n4 n5 n6 w D1 D2 HK HS HT (by simpa using h1) hz
  · by_cases h1 : do_ = 1
    · subst h1
      have hg : goodB ⟨n0, n1, n2, n3, ⟨n4, n5, n6⟩⟩ 4 = false := by
        cases hg : goodB ⟨n0, n1, n2, n3, ⟨n4, n5, n6⟩⟩ 4 with
        | false => rfl
        | true => rw [good_news hg] at hz; cases hz
      have hf : fitsB ⟨1, k, stop, torn, ⟨n0, n1, n2, n3, ⟨n4, n5, n6⟩⟩⟩ = false := by
        by_cases ho : oddB ⟨1, k, stop, torn, ⟨n0, n1, n2, n3, ⟨n4, n5, n6⟩⟩⟩
        · exact fits_odd ho
        · rw [fits_not ho, if_pos rfl, formed_one, hg, Bool.and_false]
      rw [hf]
      exact ref_fits_b0 k stop torn n0 n1 n2 n3 n4 n5 n6 w HK HS HT hz
    by_cases h4 : do_ = 4
    · subst h4
      cases torn
      · have hf : fitsB ⟨4, k, stop, false, ⟨n0, n1, n2, n3, ⟨n4, n5, n6⟩⟩⟩ = true := by
          rw [fits_not (fine (.inl rfl) (.inr rfl) (.inr hz)), if_neg (by simp), if_neg (by simp)]; rfl
        rw [hf]
        exact ref_fits_d1 k stop false n0 n1 n2 n3 n4 n5 n6 w HK HS HT hz rfl
      · rw [fits_odd (odd5 (by decide) rfl)]
        exact ref_fits_d0 k stop true n0 n1 n2 n3 n4 n5 n6 w HK HS HT hz rfl
    by_cases h5 : do_ = 5
    · subst h5
      by_cases h0 : stop = 0
      · have hf : fitsB ⟨5, k, stop, torn, ⟨n0, n1, n2, n3, ⟨n4, n5, n6⟩⟩⟩ = true := by
          rw [fits_not (fine (.inr h0) (.inl rfl) (.inr hz)), if_neg (by simp), if_neg (by simp)]; rfl
        rw [hf]
        exact ref_fits_e1 k stop torn n0 n1 n2 n3 n4 n5 n6 w HK HS HT hz (by simpa using h0)
      · rw [fits_odd (odd4 (by decide) h0)]
        exact ref_fits_e0 k stop torn n0 n1 n2 n3 n4 n5 n6 w HK HS HT hz (by simpa using h0)
    have F1 : (do_ == 1) = false := by simpa using h1
    have F4 : (do_ == 4) = false := by simpa using h4
    have F5 : (do_ == 5) = false := by simpa using h5
    by_cases h0 : stop = 0
    · cases torn
      · have hf : fitsB ⟨do_, k, stop, false, ⟨n0, n1, n2, n3, ⟨n4, n5, n6⟩⟩⟩ = (k == 0) := by
          rw [fits_not (fine (.inr h0) (.inr rfl) (.inr hz)), if_neg h1, if_pos (by simp only; omega)]; rfl
        rw [hf]
        exact ref_fits_g2 do_ k stop false n0 n1 n2 n3 n4 n5 n6 w D1 D2 HK HS HT F1 F4 F5 hz (by simpa using h0) rfl
      · rw [fits_odd (odd5 h5 rfl)]
        exact ref_fits_g1 do_ k stop true n0 n1 n2 n3 n4 n5 n6 w D1 D2 HK HS HT F1 F4 F5 hz (by simpa using h0) rfl
    · rw [fits_odd (odd4 h4 h0)]
      exact ref_fits_g0 do_ k stop torn n0 n1 n2 n3 n4 n5 n6 w D1 D2 HK HS HT F1 F4 F5 hz (by simpa using h0)
/-- A step of the reference is the program's. -/
theorem ref_StepOf (d : SDisk) (h0 : Nat) (vf vl : Value) (rs : List RF) (s : SStep) (w : World) (hd : DVal h0 w vf vl rs d) (hok : DiskOk d) (hh : h0 ≤ w.heap.size) (hf : fitsB s = true) :
    Calls Try.prog 75 #[.agg #[vf, vl], .agg #[.int .i64 s.do_, .int .i64 s.k, .int .i64 s.stop, .bool s.torn, .int .i64 s.news.do_, .int .i64 s.news.src, .int .i64 s.news.id, .int .i64 s.news.ver, .int .i64 s.news.body.at_, .int .i64 s.news.body.key, .int .i64 s.news.body.val]] w (ValPost2 h0 (stepD d s).2 (stepD d s).1 w) := by
  obtain ⟨do_, k, stop, torn, n⟩ := s
  have hno : ¬ oddB ⟨do_, k, stop, torn, n⟩ := fun h => by rw [fits_odd h] at hf; cases hf
  have hk : 0 ≤ k := fits_k hf
  by_cases d5 : do_ = 5
  · subst d5
    exact ref_step_crash d h0 vf vl rs k stop torn n w hd hok hh hk
  by_cases d6 : do_ = 6
  · subst d6
    exact ref_step_open d h0 vf vl rs k stop torn n w hd hok hh
  have hs : stepD d ⟨do_, k, stop, torn, n⟩ = if wholeB d = false then (d, false) else if do_ = 1 then writeD d (openAt d) n else if do_ = 2 then (syncD d (openAt d), true) else if do_ = 3 then sealD d (openAt d) else mergeD d k.toNat stop := by
    rw [stepD, if_neg d5, if_neg d6]
  rw [hs]
  by_cases hw : wholeB d = false
  · rw [if_pos hw]
    exact ref_step_idle d h0 vf vl rs k stop torn n w hd hok hh do_ d5 d6 hw
  rw [if_neg hw]
  have hw : wholeB d = true := by simpa using hw
  by_cases d1 : do_ = 1
  · subst d1
    rw [if_pos rfl]
    exact ref_step_write d h0 vf vl rs k stop torn n w hd hok hh hw
  rw [if_neg d1]
  by_cases d2 : do_ = 2
  · subst d2
    rw [if_pos rfl]
    exact ref_step_sync d h0 vf vl rs k stop torn n w hd hok hh hw
  rw [if_neg d2]
  by_cases d3 : do_ = 3
  · subst d3
    rw [if_pos rfl]
    exact ref_step_seal d h0 vf vl rs k stop torn n w hd hok hh hw
  rw [if_neg d3]
  have d4 : do_ = 4 := by
    rw [fits_not hno, if_neg d1] at hf
    split at hf
    · rename_i h; simp only at h; omega
    · simp at hf; omega
  subst d4
  obtain ⟨kn, rfl⟩ : ∃ kn : Nat, k = kn := ⟨k.toNat, by omega⟩
  exact ref_step_merge d h0 vf vl rs kn stop torn n w hd hok hh kn rfl hw
end Go.Proofs.Ytfmojgdomficlaa
set_option linter.unusedVariables false
set_option linter.unusedSimpArgs false
/-! Steps one behind the other, as the reference does them. -/
namespace Go.Proofs.Ytfmojgdomficlaa
open Go.RowKit Go.Shelf Go.Proofs.YtfmojgdomficlaaW.PrintWords

/-- The reference plays: its device, what is returned, what was done. -/
structure PState (w : World) (b1 b2 : Nat) (vf vl : Value) (rs : List RF) (d : SDisk) (v : Value) (done : List Bool) (X : World) : Prop where
  one : Cells X b1 #[vf, vl] 33
  two : Cells X b2 #[.slice none 0 0, .slice none 0 0] 33
  val : DVal w.heap.size X vf vl rs d
  done : Own Kd.bool 4 X w.heap.size v done
  below : Below w.heap.size w X
theorem PState.later {w : World} {b1 b2 : Nat} {vf vl : Value} {rs : List RF} {d : SDisk} {v : Value} {done : List Bool} {X Y : World} (h : PState w b1 b2 vf vl rs d v done X) (hb : Below X.heap.size X Y) : PState w b1 b2 vf vl rs d v done Y :=
  ⟨h.one.later hb, h.two.later hb, h.val.later hb, Kd.R_below h.done hb, below_step h.below hb⟩
theorem playTo_take {d : SDisk} {l : List SStep} {k : Nat} {x : SStep} (h : l.take (k + 1) = l.take k ++ [x]) : playTo d (l.take (k + 1)) = ((stepD (playTo d (l.take k)).1 x).1, (playTo d (l.take k)).2 ++ [(stepD (playTo d (l.take k)).1 x).2]) := by rw [h, playTo_snoc]
set_option maxRecDepth 100000 in
set_option maxHeartbeats 8000000 in
theorem ref_PlayOf (d : SDisk) (l : List SStep) (Af Al A : Option Addr) (cf cl c : Nat) (w : World) (hd : DRows w Af cf Al cl d) (hok : DiskOk d) (hl : StepsRow w A l.length l) (hc : l.length ≤ c) (hfit : ∀ s ∈ l, fitsB s = true) (hl150 : l.length ≤ 150) :
    Calls Try.prog 50 #[.agg #[.slice Af d.files.length cf, .slice Al d.list.length cl], .slice A l.length c] w fun e w' => ∃ vf vl rs v, e = .returned (.tuple #[.agg #[vf, vl], v]) ∧ DVal w.heap.size w' vf vl rs (playTo d l).1 ∧ Own Kd.bool 4 w' w.heap.size v (playTo d l).2 ∧ Below w.heap.size w w' := by
  have hr := hok.ready
  have hm : l.length ≤ 9223372036854775807 := hl.2.1
  have Hd := Lib.hid hd
  have Hok := Lib.hid hok
  have Hl := Lib.hid hl
  have Hfit := Lib.hid hfit
  have Hr := Lib.hid hr
  clear hd hok hl hfit hr
  go_enter Try.func50, Try.ntmps50
  go_upto_region 1 with fail
  obtain ⟨k1, k2, hB⟩ := two_new w ((w.alloc (.cells #[.slice Af d.files.length cf, .slice Al d.list.length cl] 33)).alloc (.cells #[.slice none 0 0, .slice none 0 0] 33)) _ _ _ _ (by simpa using Below.refl _ _)
  have K1 := Lib.hid k1
  have K2 := Lib.hid k2
  have HB := Lib.hid hB
  clear k1 k2 hB
  generalize ((w.alloc (.cells #[.slice Af d.files.length cf, .slice Al d.list.length cl] 33)).alloc (.cells #[.slice none 0 0, .slice none 0 0] 33)) = w2 at K1 K2 HB ⊢
  have q0 := K1.out.cell 0 _ rfl
  have q1 := K1.out.cell 1 _ rfl
  have hfs := Hr.out.files
  have hls := Hr.out.list
  go_upto_region 2 with (first
    | (go_at_call 24; (with_reducible refine (ref_Copy d _ _ cf cl w2 (Hd.out.later HB.out) (by omega) (by omega) (fun f hf => by have := Hr.out.recs f hf; omega)).mono ?_); rintro e w3 ⟨vf3, vl3, rs3, rfl, hv3, hb3⟩; obtain ⟨A3, n3, c3, rfl⟩ := R_slice' hv3.files; obtain ⟨B3, m3, e3, rfl⟩ := R_slice' hv3.list; have k13 := K1.out.later hb3; have r0 := k13.cell 0 _ rfl; have r1 := k13.cell 1 _ rfl; have rf := k13.frozen))
  have HP := Lib.hid (show PState w w.heap.size (w.heap.size + 1) (.slice A3 n3 c3) (.slice B3 m3 e3) rs3 (playTo d (l.take 0)).1 (.slice none 0 0) (playTo d (l.take 0)).2 ((w3.setCell ⟨w.heap.size, 0, none⟩ (.slice A3 n3 c3)).setCell ⟨w.heap.size, 1, none⟩ (.slice B3 m3 e3)) from
    ⟨by have := (k13.setAt 0 (.slice A3 n3 c3)).setAt 1 (.slice B3 m3 e3); simpa using this, ((K2.out.later hb3).other (p := ⟨w.heap.size, 0, none⟩) (by simp) _).other (p := ⟨w.heap.size, 1, none⟩) (by simp) _, ((DVal.mk (Kd.R_lower hv3.files HB.out.size) ⟨hv3.rows.len, fun i r f hr hf => by obtain ⟨a, b, c⟩ := hv3.rows.rel i r f hr hf; exact ⟨a, b, Kd.R_lower c HB.out.size⟩, hv3.rows.apart⟩ (Kd.R_lower hv3.list HB.out.size)).set k13 RowTy.disk 0 _).set (k13.setAt 0 (.slice A3 n3 c3)) RowTy.disk 1 _, Kd.R_nil _ _ _ _ _, ((below_step HB.out hb3).setCell (p := ⟨w.heap.size, 0, none⟩) (Nat.le_refl _) _).setCell (p := ⟨w.heap.size, 1, none⟩) (Nat.le_refl _) _⟩)
  clear r0 r1 rf k13 hv3 hb3 q0 q1 K1 K2 HB
  generalize ((w3.setCell ⟨w.heap.size, 0, none⟩ (.slice A3 n3 c3)).setCell ⟨w.heap.size, 1, none⟩ (.slice B3 m3 e3)) = w4 at HP ⊢
  go_wp2
  go_loopw [6, 14] (fun v i wr => ∃ (k : Nat) (vf vl : Value) (rs : List RF), k ≤ l.length ∧ i = .int .i64 k ∧ Hid (PState w w.heap.size (w.heap.size + 1) vf vl rs (playTo d (l.take k)).1 v (playTo d (l.take k)).2 wr)) (fun _ i _ => l.length - (intOf i).toNat)
  case atStart => exact ⟨0, _, _, _, Nat.zero_le _, rfl, HP⟩
  case round =>
    obtain ⟨k, vf, vl, rs, hk, rfl, HPk⟩ := hrel
    obtain ⟨Av, nv, cv, rfl⟩ := R_slice' HPk.out.done
    obtain ⟨A4, n4, c4, rfl⟩ := R_slice' HPk.out.val.files
    obtain ⟨B4, m4, e4', rfl⟩ := R_slice' HPk.out.val.list
    by_cases hlt : k < l.length
    · obtain ⟨x, ad, hx, htk, rfl, e0, es⟩ := step_at (Kd.C_below Hl.out HPk.out.below) k hlt
      have e1 := es 1 _ (by decide) rfl
      have e2 := es 2 _ (by decide) rfl
      have e3 := es 3 _ (by decide) rfl
      have e4 := es 4 _ (by decide) rfl
      have e5 := es 5 _ (by decide) rfl
      have e6 := es 6 _ (by decide) rfl
      have e7 := es 7 _ (by decide) rfl
      have e8 := es 8 _ (by decide) rfl
      have e9 := es 9 _ (by decide) rfl
      have e10 := es 10 _ (by decide) rfl
      have hpt := Lib.hid (playTo_take (d := d) htk)
      have hxf := Hfit.out x (List.mem_of_getElem? hx)
      have hdk := playTo_ok Hok.out (l.take k) (fun s hs => Hfit.out s ((List.take_sublist _ _).subset hs))
      have hlen := playTo_len d (l.take k)
      generalize playTo d (l.take k) = q at hpt HPk hdk hlen
      have Hdk := Lib.hid hdk
      clear es htk hdk
      go_upto_region 7 with fail
      have HX := Lib.hid (Cells.new wr (stepCells x).toArray 58)
      have hbs := below_alloc (Below.refl wr.heap.size wr) (.cells (stepCells x).toArray 58)
      have HPs := Lib.hid (HPk.out.later hbs)
      clear hbs HPk e0 e1 e2 e3 e4 e5 e6 e7 e8 e9 e10
      simp only [stepCells] at HX HPs
      generalize wr.alloc (.cells #[.int .i64 x.do_, .int .i64 x.k, .int .i64 x.stop, .bool x.torn, .int .i64 x.news.do_, .int .i64 x.news.src, .int .i64 x.news.id, .int .i64 x.news.ver, .int .i64 x.news.body.at_, .int .i64 x.news.body.key, .int .i64 x.news.body.val] 58) = ws at HX HPs ⊢
      generalize wr.heap.size = gs at HX ⊢
      have p0 := HX.out.cell 0 _ rfl
      have p1 := HX.out.cell 1 _ rfl
      have p2 := HX.out.cell 2 _ rfl
      have p3 := HX.out.cell 3 _ rfl
      have p4 := HX.out.cell 4 _ rfl
      have p5 := HX.out.cell 5 _ rfl
      have p6 := HX.out.cell 6 _ rfl
      have p7 := HX.out.cell 7 _ rfl
      have p8 := HX.out.cell 8 _ rfl
      have p9 := HX.out.cell 9 _ rfl
      have p10 := HX.out.cell 10 _ rfl
      have q0 := HPs.out.one.cell 0 _ rfl
      have q1 := HPs.out.one.cell 1 _ rfl
      go_upto_region 8 with (first
        | (go_at_call 75; (with_reducible refine (ref_StepOf q.1 w.heap.size _ _ rs x ws HPs.out.val Hdk.out HPs.out.below.size hxf).mono ?_); rintro e w8 ⟨vf8, vl8, rs8, rfl, hv8, hk8⟩; obtain ⟨A8, n8, c8, rfl⟩ := R_slice' hv8.files; obtain ⟨B8, m8, e8, rfl⟩ := R_slice' hv8.list; have hone8 : Cells w8 _ _ _ := hk8.cells HPs.out.one not_mine_disk; have r0 := hone8.cell 0 _ rfl; have r1 := hone8.cell 1 _ rfl; have rf := hone8.frozen))
      have HP8 := Lib.hid (show PState w w.heap.size (w.heap.size + 1) (.slice A8 n8 c8) (.slice B8 m8 e8) rs8 (stepD q.1 x).1 (.slice Av nv cv) q.2 ((w8.setCell ⟨w.heap.size, 0, none⟩ (.slice A8 n8 c8)).setCell ⟨w.heap.size, 1, none⟩ (.slice B8 m8 e8)) from
        ⟨by have := (hone8.setAt 0 (.slice A8 n8 c8)).setAt 1 (.slice B8 m8 e8); simpa using this, ((hk8.cells HPs.out.two not_mine_disk).other (p := ⟨w.heap.size, 0, none⟩) (by simp) _).other (p := ⟨w.heap.size, 1, none⟩) (by simp) _, (hv8.set hone8 RowTy.disk 0 _).set (hone8.setAt 0 (.slice A8 n8 c8)) RowTy.disk 1 _, own_step flat_bool HPs.out.done (fun m hm => by
          obtain ⟨_, cs, hc⟩ := own_ty HPs.out.done hm
          have h1 : m ≠ w.heap.size := ty_ne hc (show _ from HPs.out.one) (by decide)
          exact ((Below.heap_setCell _ ⟨w.heap.size, 1, none⟩ _ m h1).trans (Below.heap_setCell _ ⟨w.heap.size, 0, none⟩ _ m h1)).trans (hk8.ty m cs _ hc bool_other)), ((HPs.out.below.trans hk8.below).setCell (p := ⟨w.heap.size, 0, none⟩) (Nat.le_refl _) _).setCell (p := ⟨w.heap.size, 1, none⟩) (Nat.le_refl _) _⟩)
      clear r0 r1 rf hone8 hv8 hk8 HPs HX p0 p1 p2 p3 p4 p5 p6 p7 p8 p9 p10 q0 q1
      generalize ((w8.setCell ⟨w.heap.size, 0, none⟩ (.slice A8 n8 c8)).setCell ⟨w.heap.size, 1, none⟩ (.slice B8 m8 e8)) = w9 at HP8 ⊢
      have hlk : q.2.length ≤ 150 := by rw [hlen, List.length_take]; omega
      go_wp2_with (at_builtin; refine Kd.R_append Kd.bool (w0 := w9) w.heap.size rfl _ _ 47 4 (.bool false) 1 rfl (by kernel_rfl) (by kernel_rfl) rfl (by decide) (by omega) (.slice Av nv cv) q.2 (stepD q.1 x).2 [.bool (stepD q.1 x).2] (fun _ => True) (fun _ => False) rfl rfl rfl (fun _ h => h.elim) (fun _ _ => trivial) HP8.out.done (Below.refl _ _) HP8.out.below.size (by omega) ?_; intro v1 w10 r1 r2 r3 r4)
      have hty : ∀ m, (Value.slice Av nv cv).ownBlock = some m → ∃ cs, Cells w9 m cs 4 := fun m hm => by obtain ⟨_, cs, hc⟩ := own_ty HP8.out.done hm; exact ⟨cs, hc⟩
      have hfin : PState w w.heap.size (w.heap.size + 1) (.slice A8 n8 c8) (.slice B8 m8 e8) rs8 (stepD q.1 x).1 v1 (q.2 ++ [(stepD q.1 x).2]) w10 :=
        ⟨HP8.out.one.kept r3 (fun e => by obtain ⟨cs, hc⟩ := hty _ e.symm; exact absurd (cells_ty hc HP8.out.one) (by decide)), HP8.out.two.kept r3 (fun e => by obtain ⟨cs, hc⟩ := hty _ e.symm; exact absurd (cells_ty hc HP8.out.two) (by decide)), HP8.out.val.grown r3 (fun m hm => by obtain ⟨cs, hc⟩ := hty m hm; exact ⟨cs, _, hc, RowTy.bool⟩), r1, HP8.out.below.trans r2⟩
      exact ⟨⟨k + 1, _, _, _, by omega, by go_num, by rw [hpt.out]; exact Lib.hid hfin⟩, by simp [intOf]; omega⟩
    · have hkl : k = l.length := by omega
      rw [hkl, List.take_length] at HPk
      have q0 := HPk.out.one.cell 0 _ rfl
      have q1 := HPk.out.one.cell 1 _ rfl
      have z0 := HPk.out.two.cell 0 _ rfl
      have z1 := HPk.out.two.cell 1 _ rfl
      have zf := HPk.out.two.frozen
      clear hkl
      go_wp2
      have hv := (HPk.out.val.set HPk.out.two RowTy.disk 0 (.slice A4 n4 c4)).set (HPk.out.two.setAt 0 (.slice A4 n4 c4)) RowTy.disk 1 (.slice B4 m4 e4')
      have y2 := (HPk.out.two.setAt 0 (.slice A4 n4 c4)).setAt 1 (.slice B4 m4 e4')
      have y0 := y2.cell 0 _ rfl
      have y1 := y2.cell 1 _ rfl
      refine bodyPost_ret (v := .tuple #[.agg #[.slice A4 n4 c4, .slice B4 m4 e4'], .slice Av nv cv]) (by simp [results, Try.results50, go_sem, y0, y1]) rfl ?_
      refine ⟨_, _, _, _, rfl, hv, own_step flat_bool HPk.out.done (fun m hm => ?_), (HPk.out.below.setCell (p := ⟨w.heap.size + 1, 0, none⟩) (by simp) _).setCell (p := ⟨w.heap.size + 1, 1, none⟩) (by simp) _⟩
      obtain ⟨_, cs, hc⟩ := own_ty HPk.out.done hm
      have h1 : m ≠ w.heap.size + 1 := ty_ne hc (show _ from HPk.out.two) (by decide)
      exact (Below.heap_setCell _ ⟨w.heap.size + 1, 1, none⟩ _ m h1).trans (Below.heap_setCell _ ⟨w.heap.size + 1, 0, none⟩ _ m h1)
end Go.Proofs.Ytfmojgdomficlaa
set_option linter.unusedVariables false
set_option linter.unusedSimpArgs false
/-! Play, as the reference has it, whole. -/
namespace Go.Proofs.Ytfmojgdomficlaa
open Go.RowKit Go.Shelf Go.Proofs.YtfmojgdomficlaaW.PrintWords

set_option maxRecDepth 100000 in
set_option maxHeartbeats 8000000 in
theorem ref_Play_no (d : SDisk) (l : List SStep) (Af Al A : Option Addr) (cf cl c : Nat) (w : World) (hd : DRows w Af cf Al cl d) (hF : ∀ f ∈ d.files, f.recs.length ≤ 2199023255552) (hb : diskB d = false) :
    Calls Try.prog 26 #[.agg #[.slice Af d.files.length cf, .slice Al d.list.length cl], .slice A l.length c] w fun e w' => e = .returned (noPlay 2) ∧ Below w.heap.size w w' := by
  have Hd := Lib.hid hd
  have Hb := Lib.hid hb
  clear hd hb
  go_enter Try.func26, Try.ntmps26
  go_upto_region 1 with fail
  obtain ⟨k1, k2, hB⟩ := two_new w ((w.alloc (.cells #[.slice Af d.files.length cf, .slice Al d.list.length cl] 33)).alloc (.cells #[.slice none 0 0, .slice none 0 0] 33)) _ _ _ _ (by simpa using Below.refl _ _)
  have K1 := Lib.hid k1
  have K2 := Lib.hid k2
  have HB := Lib.hid hB
  clear k1 k2 hB
  generalize ((w.alloc (.cells #[.slice Af d.files.length cf, .slice Al d.list.length cl] 33)).alloc (.cells #[.slice none 0 0, .slice none 0 0] 33)) = w2 at K1 K2 HB ⊢
  have q0 := K1.out.cell 0 _ rfl
  have q1 := K1.out.cell 1 _ rfl
  go_wp2_with (first
    | (go_at_call 28; (with_reducible refine (ref_Disk d _ _ cf cl w2 (Hd.out.later HB.out) hF).mono ?_); rintro e w3 ⟨rfl, hb3⟩; rw [Hb.out]; have k3 := K2.out.later hb3; have z0 := k3.cell 0 _ rfl; have z1 := k3.cell 1 _ rfl; have zf := k3.frozen))
  have y2 := (k3.setAt 0 (.slice none 0 0)).setAt 1 (.slice none 0 0)
  have y0 := y2.cell 0 _ rfl
  have y1 := y2.cell 1 _ rfl
  refine bodyPost_ret (v := noPlay 2) (by simp [results, Try.results26, go_sem, y0, y1, noPlay]) rfl ?_
  exact ⟨rfl, ((below_step HB.out hb3).setCell (p := ⟨w.heap.size + 1, 0, none⟩) (by simp) _).setCell (p := ⟨w.heap.size + 1, 1, none⟩) (by simp) _⟩
set_option maxRecDepth 100000 in
set_option maxHeartbeats 8000000 in
theorem ref_Play_yes (d : SDisk) (l : List SStep) (Af Al A : Option Addr) (cf cl c : Nat) (w : World) (hd : DRows w Af cf Al cl d) (hF : ∀ f ∈ d.files, f.recs.length ≤ 2199023255552) (hok : DiskOk d) (hl : StepsRow w A l.length l) (hc : l.length ≤ c) :
    Calls Try.prog 26 #[.agg #[.slice Af d.files.length cf, .slice Al d.list.length cl], .slice A l.length c] w (PlayPost d l w) := by
  have hb : diskB d = true := (disk_iff d).2 hok
  have hm : l.length ≤ 9223372036854775807 := hl.2.1
  have Hd := Lib.hid hd
  have Hb := Lib.hid hb
  have Hok := Lib.hid hok
  have Hl := Lib.hid hl
  clear hd hb hok hl
  go_enter Try.func26, Try.ntmps26
  go_upto_region 1 with fail
  obtain ⟨k1, k2, hB⟩ := two_new w ((w.alloc (.cells #[.slice Af d.files.length cf, .slice Al d.list.length cl] 33)).alloc (.cells #[.slice none 0 0, .slice none 0 0] 33)) _ _ _ _ (by simpa using Below.refl _ _)
  have K1 := Lib.hid k1
  have K2 := Lib.hid k2
  have HB := Lib.hid hB
  clear k1 k2 hB
  generalize ((w.alloc (.cells #[.slice Af d.files.length cf, .slice Al d.list.length cl] 33)).alloc (.cells #[.slice none 0 0, .slice none 0 0] 33)) = w2 at K1 K2 HB ⊢
  have q0 := K1.out.cell 0 _ rfl
  have q1 := K1.out.cell 1 _ rfl
  go_upto_region 3 with (first
    | (go_at_call 28; (with_reducible refine (ref_Disk d _ _ cf cl w2 (Hd.out.later HB.out) hF).mono ?_); rintro e w3 ⟨rfl, hb3⟩; rw [Hb.out]))
  have HB3 := Lib.hid (below_step HB.out hb3)
  have K13 := Lib.hid (K1.out.later hb3)
  have K23 := Lib.hid (K2.out.later hb3)
  clear hb3 HB K1 K2 q0 q1
  go_wp2
  go_loopw [17] (fun i wr => ∃ k : Nat, k ≤ l.length ∧ i = .int .i64 k ∧ (∀ s ∈ l.take k, fitsB s = true) ∧ Below w3.heap.size w3 wr) (fun i _ => l.length - (intOf i).toNat)
  case atStart => exact ⟨0, Nat.zero_le _, rfl, by simp, Below.refl _ _⟩
  case round =>
    obtain ⟨k, hk, rfl, hfit, hB⟩ := hrel
    by_cases hlt : k < l.length
    · obtain ⟨x, ad, hx, htk, rfl, e0, es⟩ := step_at (Kd.C_below Hl.out (below_step HB3.out hB)) k hlt
      have e1 := es 1 _ (by decide) rfl
      have e2 := es 2 _ (by decide) rfl
      have e3 := es 3 _ (by decide) rfl
      have e4 := es 4 _ (by decide) rfl
      have e5 := es 5 _ (by decide) rfl
      have e6 := es 6 _ (by decide) rfl
      have e7 := es 7 _ (by decide) rfl
      have e8 := es 8 _ (by decide) rfl
      have e9 := es 9 _ (by decide) rfl
      have e10 := es 10 _ (by decide) rfl
      have Hfit := Lib.hid hfit
      clear es hfit
      cases hq : fitsB x
      · have Hq := Lib.hid hq
        clear hq
        go_wp2_with (first
          | (go_at_call 49; (with_reducible refine (ref_Step x _).mono ?_); rintro e w4 ⟨rfl, hb4⟩; rw [Hq.out]; have hB4 : Below wr.heap.size wr w4 := below_step (below_alloc (Below.refl _ _) _) (by simpa using hb4); have hm2 := K23.out.later (below_step hB hB4); have z0 := hm2.cell 0 _ rfl; have z1 := hm2.cell 1 _ rfl; have zf := hm2.frozen))
        have hc2 := (hm2.setAt 0 (.slice none 0 0)).setAt 1 (.slice none 0 0)
        have y0 := hc2.cell 0 _ rfl
        have y1 := hc2.cell 1 _ rfl
        have hB9 := ((below_step HB3.out (below_step hB hB4)).setCell (p := ⟨w.heap.size + 1, 0, none⟩) (by simp) (.slice none 0 0)).setCell (p := ⟨w.heap.size + 1, 1, none⟩) (by simp) (.slice none 0 0)
        refine bodyPost_ret (v := noPlay 2) (by simp [results, Try.results26, go_sem, y0, y1, noPlay]) rfl ?_
        rw [PlayPost, if_pos (by rw [Bool.eq_false_iff]; intro h; rw [List.all_eq_true] at h; have := h x (List.mem_of_getElem? hx); rw [Hq.out] at this; cases this)]
        exact ⟨rfl, hB9⟩
      · have Hq := Lib.hid hq
        clear hq
        go_wp2_with (first
          | (go_at_call 49; (with_reducible refine (ref_Step x _).mono ?_); rintro e w4 ⟨rfl, hb4⟩; rw [Hq.out]; have hB4 : Below wr.heap.size wr w4 := below_step (below_alloc (Below.refl _ _) _) (by simpa using hb4)))
        exact ⟨⟨k + 1, by omega, by go_num, by rw [htk]; intro s hs; rcases List.mem_append.1 hs with h | h; exact Hfit.out s h; rw [List.mem_singleton.1 h]; exact Hq.out, below_step hB hB4⟩, by simp [intOf]; omega⟩
    · have hkl : k = l.length := by omega
      have hall : l.all fitsB = true := by rw [List.all_eq_true]; intro s hs; exact hfit s (by rw [hkl, List.take_length]; exact hs)
      have hfits : ∀ s ∈ l, fitsB s = true := List.all_eq_true.1 hall
      have HM := Lib.hid (K13.out.later hB)
      have HN := Lib.hid (K23.out.later hB)
      have HBw := Lib.hid (below_step HB3.out hB)
      clear hkl hfit hB
      by_cases h150 : 150 < l.length
      · have b150 : decide ((150 : Int) < l.length) = true := by simp; omega
        have z0 := HN.out.cell 0 _ rfl
        have z1 := HN.out.cell 1 _ rfl
        have zf := HN.out.frozen
        go_wp2
        have hc2 := (HN.out.setAt 0 (.slice none 0 0)).setAt 1 (.slice none 0 0)
        have y0 := hc2.cell 0 _ rfl
        have y1 := hc2.cell 1 _ rfl
        have hB9 := (HBw.out.setCell (p := ⟨w.heap.size + 1, 0, none⟩) (by simp) (.slice none 0 0)).setCell (p := ⟨w.heap.size + 1, 1, none⟩) (by simp) (.slice none 0 0)
        refine bodyPost_ret (v := noPlay 3) (by simp [results, Try.results26, go_sem, y0, y1, noPlay]) rfl ?_
        rw [PlayPost, if_neg (by rw [hall]; simp), if_pos h150]
        exact ⟨rfl, hB9⟩
      · have b150 : decide ((150 : Int) < l.length) = false := by simp; omega
        have q0 := HM.out.cell 0 _ rfl
        have q1 := HM.out.cell 1 _ rfl
        go_upto_region 12 with (first
          | (go_at_call 50; (with_reducible refine (ref_PlayOf d l _ _ _ cf cl c wr (Hd.out.later HBw.out) Hok.out (Kd.C_below Hl.out HBw.out) hc hfits (by omega)).mono ?_); rintro e w8 ⟨vf8, vl8, rs8, v8, rfl, hv8, ho8, hb8⟩; obtain ⟨A8, n8, c8, rfl⟩ := R_slice' hv8.files; obtain ⟨B8, m8, e8, rfl⟩ := R_slice' hv8.list; obtain ⟨C8, o8, f8, rfl⟩ := R_slice' ho8))
        have HT := Lib.hid (Cells.new w8 #[.slice A8 n8 c8, .slice B8 m8 e8] 33)
        have hbs := below_alloc (Below.refl w8.heap.size w8) (.cells #[.slice A8 n8 c8, .slice B8 m8 e8] 33)
        have HN2 := Lib.hid ((HN.out.later hb8).later hbs)
        have HV := Lib.hid (hv8.later hbs)
        have HO := Lib.hid (Kd.R_below ho8 hbs)
        have HB2 := Lib.hid (below_step (below_step HBw.out hb8) hbs)
        have hgs : w.heap.size + 1 < w8.heap.size := by have h1 := HN.out.lt; have h2 := hb8.size; omega
        clear hv8 ho8 hb8 hbs HN HM HBw q0 q1
        generalize w8.alloc (.cells #[.slice A8 n8 c8, .slice B8 m8 e8] 33) = w9 at HT HN2 HV HO HB2 ⊢
        generalize w8.heap.size = gs at HT hgs ⊢
        have q0 := HT.out.cell 0 _ rfl
        have q1 := HT.out.cell 1 _ rfl
        have z0 := HN2.out.cell 0 _ rfl
        have z1 := HN2.out.cell 1 _ rfl
        have zf := HN2.out.frozen
        go_wp2
        have y2 := (HN2.out.setAt 0 (.slice A8 n8 c8)).setAt 1 (.slice B8 m8 e8)
        have y0 := y2.cell 0 _ rfl
        have y1 := y2.cell 1 _ rfl
        have hv := (HV.out.set HN2.out RowTy.disk 0 (.slice A8 n8 c8)).set (HN2.out.setAt 0 (.slice A8 n8 c8)) RowTy.disk 1 (.slice B8 m8 e8)
        obtain ⟨Af9, cf9, Al9, cl9, hvf, hvl, hrows⟩ := hv.reads
        have ho9 := own_step (w1 := (w9.setCell ⟨w.heap.size + 1, 0, none⟩ (.slice A8 n8 c8)).setCell ⟨w.heap.size + 1, 1, none⟩ (.slice B8 m8 e8)) flat_bool HO.out (fun m hm => by
          obtain ⟨_, cs, hc⟩ := own_ty HO.out hm
          have h1 : m ≠ w.heap.size + 1 := ty_ne hc (show _ from HN2.out) (by decide)
          exact (Below.heap_setCell _ ⟨w.heap.size + 1, 1, none⟩ _ m h1).trans (Below.heap_setCell _ ⟨w.heap.size + 1, 0, none⟩ _ m h1))
        obtain ⟨Ab, cb, hvb, hcb, hbr⟩ := own_reads' ho9
        refine bodyPost_ret (v := .tuple #[.agg #[.slice A8 n8 c8, .slice B8 m8 e8], .slice C8 o8 f8, .int .i64 0]) (by simp [results, Try.results26, go_sem, y0, y1]) rfl ?_
        rw [PlayPost, if_neg (by rw [hall]; simp), if_neg h150]
        exact ⟨Af9, cf9, Al9, cl9, Ab, cb, by rw [hvf, hvl, hvb], hrows, hbr, hcb, (HB2.out.setCell (p := ⟨w.heap.size + 1, 0, none⟩) (by simp) _).setCell (p := ⟨w.heap.size + 1, 1, none⟩) (by simp) _⟩
theorem ref_Play (d : SDisk) (l : List SStep) (Af Al A : Option Addr) (cf cl c : Nat) (w : World) (hd : DRows w Af cf Al cl d) (hF : ∀ f ∈ d.files, f.recs.length ≤ 2199023255552) (hl : StepsRow w A l.length l) (hc : l.length ≤ c) :
    Calls Try.prog 26 #[.agg #[.slice Af d.files.length cf, .slice Al d.list.length cl], .slice A l.length c] w (PlayEnds d l w) := by
  cases hb : diskB d
  · exact (ref_Play_no d l Af Al A cf cl c w hd hF hb).mono fun e w' h => play_none (by rw [playOf, if_pos hb]) h.1 h.2
  · have hok := (disk_iff d).1 hb
    have hne : ¬ diskB d = false := by rw [hb]; simp
    refine (ref_Play_yes d l Af Al A cf cl c w hd hF hok hl hc).mono fun e w' h => ?_
    unfold PlayPost at h
    by_cases h1 : l.all fitsB = false
    · rw [if_pos h1] at h
      exact play_none (by rw [playOf, if_neg hne, if_pos h1]) h.1 h.2
    · rw [if_neg h1] at h
      by_cases h2 : 150 < l.length
      · rw [if_pos h2] at h
        exact play_none (by rw [playOf, if_neg hne, if_neg h1, if_pos h2]) h.1 h.2
      · rw [if_neg h2] at h
        rw [PlayEnds, show playOf d l = (playTo d l, 0) by rw [playOf, if_neg hne, if_neg h1, if_neg h2]]
        exact h
end Go.Proofs.Ytfmojgdomficlaa
