/-
  Texts of one hand, laid together: LawPiqKnown.
-/
import Derived.Test.YtemkloildadokaaZD
import Derived.Test.YtemkloildadokaaRows
import Derived.ProofKit
import Derived.OpenShut
import Derived.ShutString
import Derived.ChangeOld
import Derived.SizedLaws
set_option linter.unusedVariables false
set_option linter.unusedSimpArgs false
/-! The rest of the chapter's examples are as they are stated. -/
namespace Go.Proofs.Ytemkloildadokaa
open Go.RowKit Go.Shelf Go.Proofs.YtemkloildadokaaW.PrintWords
theorem kn_Insert7 (A : Option Addr) (c : Nat) (w : World) (h : Kd.C kPStep w A 6 (PRes.line ⟨[⟨1, 1, 5⟩, ⟨2, 1, 3⟩, ⟨3, 2, 0⟩, ⟨4, 2, 0⟩, ⟨6, 1, 2⟩, ⟨8, 2, 0⟩], false, [⟨3, 3, ⟨3, 2⟩⟩, ⟨4, 1000, ⟨5, 1⟩⟩], 0⟩)) :
    Calls Try.prog 21 #[.slice A 6 c, .agg #[.int .i64 7, .int .i64 2, .int .i64 0]] w (ChgAt w 0 0 (noRes 7)) := by
  have h1 := p_Insert A c [⟨1, 1, 5⟩, ⟨2, 1, 3⟩, ⟨3, 2, 0⟩, ⟨4, 2, 0⟩, ⟨6, 1, 2⟩, ⟨8, 2, 0⟩] ⟨7, 2, 0⟩ w h
  rw [kn_i5] at h1
  exact h1.mono fun e w' h => h.at rfl rfl
set_option maxRecDepth 100000 in
set_option maxHeartbeats 16000000 in
theorem pique_known (w : World) : Calls Try.prog 10 #[] w fun e w' => e = .returned (.bool true) ∧ Below w.heap.size w w' := by
  have HB := Lib.hid (Below.refl w.heap.size w)
  go_enter Try.func10, Try.ntmps10
  go_upto_region 2 with (first
    | (go_at_call 39; (with_reducible refine (kn_Line _).mono ?_); rintro e wl ⟨B, rfl, hr, hb⟩; have HB := Lib.hid (below_step HB.out hb); have HE := Lib.hid hr; clear hb hr)
    | (go_at_call 29; (with_reducible refine (kn_At 3 _ 2 rfl kn_a3 B wl HE.out).mono ?_); rintro e wc ⟨A1, c1, rfl, hr, hb⟩; have HB := Lib.hid (below_step HB.out hb); have R1 := Lib.hid hr; clear hr; clear hb))
  go_upto_region 3 with (first
    | (go_at_call 39; (with_reducible refine (kn_Line _).mono ?_); rintro e wl ⟨B, rfl, hr, hb⟩; have HB := Lib.hid (below_step HB.out hb); have HE := Lib.hid hr; have R1 := Lib.hid (Kd.C_below R1.out hb); clear hb hr)
    | (go_at_call 29; (with_reducible refine (kn_At 8 _ 1 rfl kn_a8 B wl HE.out).mono ?_); rintro e wc ⟨A2, c2, rfl, hr, hb⟩; have HB := Lib.hid (below_step HB.out hb); have R1 := Lib.hid (Kd.C_below R1.out hb); have R2 := Lib.hid hr; clear hr; clear hb))
  go_upto_region 4 with (first
    | (go_at_call 39; (with_reducible refine (kn_Line _).mono ?_); rintro e wl ⟨B, rfl, hr, hb⟩; have HB := Lib.hid (below_step HB.out hb); have HE := Lib.hid hr; have R1 := Lib.hid (Kd.C_below R1.out hb); have R2 := Lib.hid (Kd.C_below R2.out hb); clear hb hr)
    | (go_at_call 40; (with_reducible refine (law_Out _ _).mono ?_); rintro e wi ⟨rfl, hb⟩; have HB := Lib.hid (below_step HB.out hb); have R1 := Lib.hid (Kd.C_below R1.out hb); have R2 := Lib.hid (Kd.C_below R2.out hb); have HE := Lib.hid (Kd.C_below HE.out hb); clear hb)
    | (go_at_call 21; (with_reducible refine (kn_Insert ⟨5, 2, 0⟩ _ 6 1 kn_i4 rfl rfl B wi HE.out).mono ?_); rintro e wc ⟨A4, c4, A44, c44, rfl, hrl, hrs, hb⟩; have HB := Lib.hid (below_step HB.out hb); have R1 := Lib.hid (Kd.C_below R1.out hb); have R2 := Lib.hid (Kd.C_below R2.out hb); have S4 := Lib.hid hrs; clear hrs hrl; clear hb))
  have hb := below_alloc (Below.refl wc.heap.size wc) (.cells #[.bool false, .slice A44 1 c44] 39)
  have C4 := Lib.hid (Cells.new wc #[.bool false, .slice A44 1 c44] 39)
  have HB := Lib.hid (below_step HB.out hb)
  have R1 := Lib.hid (Kd.C_below R1.out hb)
  have R2 := Lib.hid (Kd.C_below R2.out hb)
  have S4 := Lib.hid (Kd.C_below S4.out hb)
  clear hb
  generalize wc.alloc (.cells #[.bool false, .slice A44 1 c44] 39) = w4 at C4 HB R1 R2 S4 ⊢
  generalize wc.heap.size = g4 at C4 ⊢
  go_upto_region 5 with (first
    | (go_at_call 39; (with_reducible refine (kn_Line _).mono ?_); rintro e wl ⟨B, rfl, hr, hb⟩; have HB := Lib.hid (below_step HB.out hb); have HE := Lib.hid hr; have R1 := Lib.hid (Kd.C_below R1.out hb); have R2 := Lib.hid (Kd.C_below R2.out hb); have S4 := Lib.hid (Kd.C_below S4.out hb); have C4 := Lib.hid (C4.out.later hb); clear hb hr)
    | (go_at_call 25; (with_reducible refine (kn_Delete 2 _ 4 2 kn_d2 rfl rfl B wl HE.out).mono ?_); rintro e wc ⟨A5, c5, A55, c55, rfl, hrl, hrs, hb⟩; have HB := Lib.hid (below_step HB.out hb); have R1 := Lib.hid (Kd.C_below R1.out hb); have R2 := Lib.hid (Kd.C_below R2.out hb); have S4 := Lib.hid (Kd.C_below S4.out hb); have C4 := Lib.hid (C4.out.later hb); have S5 := Lib.hid hrs; clear hrs hrl; clear hb))
  have hb := below_alloc (Below.refl wc.heap.size wc) (.cells #[.bool false, .slice A55 2 c55] 39)
  have C5 := Lib.hid (Cells.new wc #[.bool false, .slice A55 2 c55] 39)
  have HB := Lib.hid (below_step HB.out hb)
  have R1 := Lib.hid (Kd.C_below R1.out hb)
  have R2 := Lib.hid (Kd.C_below R2.out hb)
  have S4 := Lib.hid (Kd.C_below S4.out hb)
  have C4 := Lib.hid (C4.out.later hb)
  have S5 := Lib.hid (Kd.C_below S5.out hb)
  clear hb
  generalize wc.alloc (.cells #[.bool false, .slice A55 2 c55] 39) = w5 at C5 HB R1 R2 S4 C4 S5 ⊢
  generalize wc.heap.size = g5 at C5 ⊢
  obtain ⟨wc, hwc⟩ : ∃ W, W = w5 := ⟨_, rfl⟩
  rw [← hwc] at HB R1 R2 S4 S5 C4 C5 ⊢
  clear hwc
  go_upto_region 7 with (first
    | (go_at_call 42; (with_reducible refine (law_elem _ _ _).mono ?_); rintro e wi ⟨rfl, hb⟩; have HB := Lib.hid (below_step HB.out hb); have R1 := Lib.hid (Kd.C_below R1.out hb); have R2 := Lib.hid (Kd.C_below R2.out hb); have S4 := Lib.hid (Kd.C_below S4.out hb); have C4 := Lib.hid (C4.out.later hb); have S5 := Lib.hid (Kd.C_below S5.out hb); have C5 := Lib.hid (C5.out.later hb); clear hb)
    | (go_at_call 41; (with_reducible refine (kn_elemsE2 _ _ _ _ A1 _ _ R1.out).mono ?_); rintro e wc ⟨rfl, hb⟩; have HB := Lib.hid (below_step HB.out hb); have R1 := Lib.hid (Kd.C_below R1.out hb); have R2 := Lib.hid (Kd.C_below R2.out hb); have S4 := Lib.hid (Kd.C_below S4.out hb); have C4 := Lib.hid (C4.out.later hb); have S5 := Lib.hid (Kd.C_below S5.out hb); have C5 := Lib.hid (C5.out.later hb); clear hb)
    | (go_at_call 41; (with_reducible refine (kn_elemsE1 _ _ A2 _ _ R2.out).mono ?_); rintro e wc ⟨rfl, hb⟩; have HB := Lib.hid (below_step HB.out hb); have R1 := Lib.hid (Kd.C_below R1.out hb); have R2 := Lib.hid (Kd.C_below R2.out hb); have S4 := Lib.hid (Kd.C_below S4.out hb); have C4 := Lib.hid (C4.out.later hb); have S5 := Lib.hid (Kd.C_below S5.out hb); have C5 := Lib.hid (C5.out.later hb); clear hb))
  clear R1 R2 HE
  refine wp_region_flow [.calm 0, .calm 1, .calm 2, .alone 3, .calm 4, .free 5, .free 6, .calm 7, .calm 8, .calm 9, .alone 10, .calm 11, .free 12, .free 13] (Below wc.heap.size wc) (Below wc.heap.size wc) (stable_below _ _ (Nat.le_refl _)) (fun _ h => h) (by kernel_rfl) (by kernel_rfl) (below_drew1 (Below.refl _ _)) ?_
  simp only [pickEnts, pickF, List.getElem?_cons_succ, List.getElem?_cons_zero, List.filterMap_cons, List.filterMap_nil, Option.map_some]
  repeat ((first | refine flow_calm (fun K hK => ?_) | refine flow_free (fun K hK => ?_) | refine float_calm (fun K hK => ?_) | refine float_free (fun K hK => ?_)); go_simp; first | (refine hK _ ?_; clear hK K) | (apply Exists.intro; (refine ⟨fun X => ?_, hK _ ?_⟩); (first | (intro hC; rfl) | rfl | (intro hC; have q4 := C4.out.later hC.out; have q4a := q4.cell 0 _ rfl; have q4b := q4.cell 1 _ rfl; have q5 := C5.out.later hC.out; have q5a := q5.cell 0 _ rfl; have q5b := q5.cell 1 _ rfl; go_simp; done) | (intro hC; have q4 := C4.out.later hC.out; have q4a := q4.cell 0 _ rfl; have q4b := q4.cell 1 _ rfl; have q5 := C5.out.later hC.out; have q5a := q5.cell 0 _ rfl; have q5b := q5.cell 1 _ rfl; go_simp; rfl) | (intro hC; (with_reducible refine (law_elem _ _ _).mono ?_); rintro e w' ⟨rfl, hb⟩; exact ⟨rfl, hb⟩)); clear hK K))
  refine flow_alone rfl (fun X hX K hK => ?_)
  go_simp
  refine (kn_walkL false 5 ⟨5, 1⟩ 0 ⟨0, 0⟩ [⟨5, 1000, ⟨5, 1⟩⟩] 1 (by decide) rfl X (by decide) (by decide)).mono ?_
  rintro e wv ⟨V4, d4, rfl, hv, hbv⟩
  refine hK.out _ _ (fun Z => (Below wc.heap.size wc Z) ∧ Kd.C kPSpan Z V4 1 [⟨5, 1000, ⟨5, 1⟩⟩]) (fun Z => (Below wc.heap.size wc Z) ∧ Kd.C kPSpan Z V4 1 [⟨5, 1000, ⟨5, 1⟩⟩]) (fun Z Z' hZ hb => ⟨hZ.1.trans (Below.mono hb hZ.1.size), Kd.C_below hZ.2 hb⟩) (fun _ h => h.1) (fun _ h => h) ⟨below_step hX.out hbv, hv⟩ ?_
  clear hK K hX hv hbv
  repeat ((first | refine flow_calm (fun K hK => ?_) | refine flow_free (fun K hK => ?_) | refine float_calm (fun K hK => ?_) | refine float_free (fun K hK => ?_)); go_simp; first | (refine hK _ ?_; clear hK K) | (apply Exists.intro; (refine ⟨fun X => ?_, hK _ ?_⟩); (first | (intro hC; rfl) | rfl | (intro hC; have q4 := C4.out.later hC.out.1; have q4a := q4.cell 0 _ rfl; have q4b := q4.cell 1 _ rfl; have q5 := C5.out.later hC.out.1; have q5a := q5.cell 0 _ rfl; have q5b := q5.cell 1 _ rfl; go_simp; done) | (intro hC; have q4 := C4.out.later hC.out.1; have q4a := q4.cell 0 _ rfl; have q4b := q4.cell 1 _ rfl; have q5 := C5.out.later hC.out.1; have q5a := q5.cell 0 _ rfl; have q5b := q5.cell 1 _ rfl; go_simp; rfl) | (intro hC; (with_reducible refine (kn_walk [⟨5, 1000, ⟨5, 1⟩⟩] false 1 rfl A44 V4 _ _ _ (Kd.C_below S4.out hC.out.1) hC.out.2).mono ?_); rintro e w' ⟨rfl, hb⟩; exact ⟨rfl, hb⟩) | (intro hC; (with_reducible refine (law_elem _ _ _).mono ?_); rintro e w' ⟨rfl, hb⟩; exact ⟨rfl, hb⟩)); clear hK K))
  refine flow_alone rfl (fun X hX K hK => ?_)
  go_simp
  refine (kn_walkL false 2 ⟨3, 2⟩ 4 ⟨5, 1⟩ [⟨2, 3, ⟨3, 2⟩⟩, ⟨4, 1000, ⟨5, 1⟩⟩] 2 (by decide) rfl X (by decide) (by decide)).mono ?_
  rintro e wv ⟨V5, d5, rfl, hv, hbv⟩
  refine hK.out _ _ (fun Z => ((Below wc.heap.size wc Z) ∧ Kd.C kPSpan Z V4 1 [⟨5, 1000, ⟨5, 1⟩⟩]) ∧ Kd.C kPSpan Z V5 2 [⟨2, 3, ⟨3, 2⟩⟩, ⟨4, 1000, ⟨5, 1⟩⟩]) (fun Z => ((Below wc.heap.size wc Z) ∧ Kd.C kPSpan Z V4 1 [⟨5, 1000, ⟨5, 1⟩⟩]) ∧ Kd.C kPSpan Z V5 2 [⟨2, 3, ⟨3, 2⟩⟩, ⟨4, 1000, ⟨5, 1⟩⟩]) (fun Z Z' hZ hb => ⟨⟨hZ.1.1.trans (Below.mono hb hZ.1.1.size), Kd.C_below hZ.1.2 hb⟩, Kd.C_below hZ.2 hb⟩) (fun _ h => h.1) (fun _ h => h) ⟨⟨below_step hX.out.1 hbv, Kd.C_below hX.out.2 hbv⟩, hv⟩ ?_
  clear hK K hX hv hbv
  repeat ((first | refine flow_calm (fun K hK => ?_) | refine flow_free (fun K hK => ?_) | refine float_calm (fun K hK => ?_) | refine float_free (fun K hK => ?_)); go_simp; first | (refine hK _ ?_; clear hK K) | (apply Exists.intro; (refine ⟨fun X => ?_, hK _ ?_⟩); (first | (intro hC; rfl) | rfl | (intro hC; have q4 := C4.out.later hC.out.1.1; have q4a := q4.cell 0 _ rfl; have q4b := q4.cell 1 _ rfl; have q5 := C5.out.later hC.out.1.1; have q5a := q5.cell 0 _ rfl; have q5b := q5.cell 1 _ rfl; go_simp; done) | (intro hC; have q4 := C4.out.later hC.out.1.1; have q4a := q4.cell 0 _ rfl; have q4b := q4.cell 1 _ rfl; have q5 := C5.out.later hC.out.1.1; have q5a := q5.cell 0 _ rfl; have q5b := q5.cell 1 _ rfl; go_simp; rfl) | (intro hC; (with_reducible refine (kn_walk [⟨2, 3, ⟨3, 2⟩⟩, ⟨4, 1000, ⟨5, 1⟩⟩] false 2 rfl A55 V5 _ _ _ (Kd.C_below S5.out hC.out.1.1) hC.out.2).mono ?_); rintro e w' ⟨rfl, hb⟩; exact ⟨rfl, hb⟩) | (intro hC; (with_reducible refine (law_elem _ _ _).mono ?_); rintro e w' ⟨rfl, hb⟩; exact ⟨rfl, hb⟩)); clear hK K))
  refine flow_nil ?_
  intro Y hY
  have HB := Lib.hid (below_step HB.out hY.out.1.1)
  clear hY S4 S5 C4 C5
  go_upto_region 10 with (first
    | (go_at_call 39; (with_reducible refine (kn_Line _).mono ?_); rintro e wl ⟨B, rfl, hr, hb⟩; have HB := Lib.hid (below_step HB.out hb); have HE := Lib.hid hr; clear hb hr)
    | (go_at_call 25; (with_reducible refine (kn_Delete 1 _ 4 1 kn_d3 rfl rfl B wl HE.out).mono ?_); rintro e wc ⟨A6, c6, A66, c66, rfl, hrl, hrs, hb⟩; have HB := Lib.hid (below_step HB.out hb); have S6 := Lib.hid hrs; clear hrs hrl; clear hb))
  have hb := below_alloc (Below.refl wc.heap.size wc) (.cells #[.bool false, .slice A66 1 c66] 39)
  have C6 := Lib.hid (Cells.new wc #[.bool false, .slice A66 1 c66] 39)
  have HB := Lib.hid (below_step HB.out hb)
  have S6 := Lib.hid (Kd.C_below S6.out hb)
  clear hb
  generalize wc.alloc (.cells #[.bool false, .slice A66 1 c66] 39) = w6 at C6 HB S6 ⊢
  generalize wc.heap.size = g6 at C6 ⊢
  go_upto_region 11 with (first
    | (go_at_call 39; (with_reducible refine (kn_Line _).mono ?_); rintro e wl ⟨B, rfl, hr, hb⟩; have HB := Lib.hid (below_step HB.out hb); have HE := Lib.hid hr; have S6 := Lib.hid (Kd.C_below S6.out hb); have C6 := Lib.hid (C6.out.later hb); clear hb hr)
    | (go_at_call 40; (with_reducible refine (law_Out _ _).mono ?_); rintro e wi ⟨rfl, hb⟩; have HB := Lib.hid (below_step HB.out hb); have S6 := Lib.hid (Kd.C_below S6.out hb); have C6 := Lib.hid (C6.out.later hb); have HE := Lib.hid (Kd.C_below HE.out hb); clear hb)
    | (go_at_call 21; (with_reducible refine (kn_Insert ⟨3, 2, 0⟩ _ 6 2 kn_i2 rfl rfl B wi HE.out).mono ?_); rintro e wc ⟨A7, c7, A77, c77, rfl, hrl, hrs, hb⟩; have HB := Lib.hid (below_step HB.out hb); have S6 := Lib.hid (Kd.C_below S6.out hb); have C6 := Lib.hid (C6.out.later hb); have R7 := Lib.hid hrl; clear hrs hrl; clear hb))
  go_upto_region 12 with (first
    | (go_at_call 40; (with_reducible refine (law_Out _ _).mono ?_); rintro e wi ⟨rfl, hb⟩; have HB := Lib.hid (below_step HB.out hb); have S6 := Lib.hid (Kd.C_below S6.out hb); have C6 := Lib.hid (C6.out.later hb); have R7 := Lib.hid (Kd.C_below R7.out hb); clear hb)
    | (go_at_call 21; (with_reducible refine (kn_Insert7 A7 c7 wi R7.out).mono ?_); rintro e wc ⟨A8, c8, A88, c88, rfl, hrl, hrs, hb⟩; have HB := Lib.hid (below_step HB.out hb); have S6 := Lib.hid (Kd.C_below S6.out hb); have C6 := Lib.hid (C6.out.later hb); have R7 := Lib.hid (Kd.C_below R7.out hb); clear hrs hrl; clear hb))
  go_upto_region 13 with (first
    | (go_at_call 39; (with_reducible refine (kn_Line _).mono ?_); rintro e wl ⟨B, rfl, hr, hb⟩; have HB := Lib.hid (below_step HB.out hb); have HE := Lib.hid hr; have S6 := Lib.hid (Kd.C_below S6.out hb); have C6 := Lib.hid (C6.out.later hb); have R7 := Lib.hid (Kd.C_below R7.out hb); clear hb hr)
    | (go_at_call 25; (with_reducible refine (kn_Delete 3 _ 0 0 kn_d4 rfl rfl B wl HE.out).mono ?_); rintro e wc ⟨A9, c9, A99, c99, rfl, hrl, hrs, hb⟩; have HB := Lib.hid (below_step HB.out hb); have S6 := Lib.hid (Kd.C_below S6.out hb); have C6 := Lib.hid (C6.out.later hb); have R7 := Lib.hid (Kd.C_below R7.out hb); clear hrs hrl; clear hb))
  refine wp_region_flow [.free 0, .free 1, .free 2, .free 3, .free 4, .free 5, .free 6, .free 7, .free 8, .free 9, .free 10, .free 11, .free 12, .free 13, .free 14, .calm 15, .calm 16, .calm 17, .alone 18, .calm 19, .free 20, .free 21, .calm 22, .free 23, .free 24] (Below wc.heap.size wc) (Below wc.heap.size wc) (stable_below _ _ (Nat.le_refl _)) (fun _ h => h) (by kernel_rfl) (by kernel_rfl) (below_drew1 (Below.refl _ _)) ?_
  simp only [pickEnts, pickF, List.getElem?_cons_succ, List.getElem?_cons_zero, List.filterMap_cons, List.filterMap_nil, Option.map_some]
  repeat ((first | refine flow_calm (fun K hK => ?_) | refine flow_free (fun K hK => ?_) | refine float_calm (fun K hK => ?_) | refine float_free (fun K hK => ?_)); go_simp; first | (refine hK _ ?_; clear hK K) | (apply Exists.intro; (refine ⟨fun X => ?_, hK _ ?_⟩); (first | (intro hC; rfl) | rfl | (intro hC; have q6 := C6.out.later hC.out; have q6a := q6.cell 0 _ rfl; have q6b := q6.cell 1 _ rfl; go_simp; done) | (intro hC; have q6 := C6.out.later hC.out; have q6a := q6.cell 0 _ rfl; have q6b := q6.cell 1 _ rfl; go_simp; rfl) | (intro hC; (with_reducible refine (law_elem _ _ _).mono ?_); rintro e w' ⟨rfl, hb⟩; exact ⟨rfl, hb⟩)); clear hK K))
  refine flow_alone rfl (fun X hX K hK => ?_)
  go_simp
  refine (kn_walkL false 1 ⟨5, 1⟩ 0 ⟨0, 0⟩ [⟨1, 1000, ⟨5, 1⟩⟩] 1 (by decide) rfl X (by decide) (by decide)).mono ?_
  rintro e wv ⟨V6, d6, rfl, hv, hbv⟩
  refine hK.out _ _ (fun Z => (Below wc.heap.size wc Z) ∧ Kd.C kPSpan Z V6 1 [⟨1, 1000, ⟨5, 1⟩⟩]) (fun Z => (Below wc.heap.size wc Z) ∧ Kd.C kPSpan Z V6 1 [⟨1, 1000, ⟨5, 1⟩⟩]) (fun Z Z' hZ hb => ⟨hZ.1.trans (Below.mono hb hZ.1.size), Kd.C_below hZ.2 hb⟩) (fun _ h => h.1) (fun _ h => h) ⟨below_step hX.out hbv, hv⟩ ?_
  clear hK K hX hv hbv
  repeat ((first | refine flow_calm (fun K hK => ?_) | refine flow_free (fun K hK => ?_) | refine float_calm (fun K hK => ?_) | refine float_free (fun K hK => ?_)); go_simp; first | (refine hK _ ?_; clear hK K) | (apply Exists.intro; (refine ⟨fun X => ?_, hK _ ?_⟩); (first | (intro hC; rfl) | rfl | (intro hC; have q6 := C6.out.later hC.out.1; have q6a := q6.cell 0 _ rfl; have q6b := q6.cell 1 _ rfl; go_simp; done) | (intro hC; have q6 := C6.out.later hC.out.1; have q6a := q6.cell 0 _ rfl; have q6b := q6.cell 1 _ rfl; go_simp; rfl) | (intro hC; (with_reducible refine (kn_walk [⟨1, 1000, ⟨5, 1⟩⟩] false 1 rfl A66 V6 _ _ _ (Kd.C_below S6.out hC.out.1) hC.out.2).mono ?_); rintro e w' ⟨rfl, hb⟩; exact ⟨rfl, hb⟩) | (intro hC; (with_reducible refine (law_elem _ _ _).mono ?_); rintro e w' ⟨rfl, hb⟩; exact ⟨rfl, hb⟩) | (intro hC; (with_reducible refine (known_true _).mono ?_); rintro e w' ⟨rfl, hb⟩; exact ⟨rfl, hb⟩)); clear hK K))
  refine flow_nil ?_
  intro Y hY
  have HB := Lib.hid (below_step HB.out hY.out.1)
  clear hY
  go_wp2
  go_ret
  exact ⟨rfl, HB.out⟩
end Go.Proofs.Ytemkloildadokaa
namespace Go.Proofs.Ytemkloildadokaa.PiqueKnown
open Go.ChangeShapes Go.WideShapes Go.ChangeAt Go.RowKit
open Go.ChangeMaps (open_string shut_string)
theorem own : ownKnob Try.prog.godebug = none := by kernel_rfl
theorem laidOut : laidOutB Try.prog = true := by kernel_rfl
set_option maxRecDepth 100000 in
theorem lifted (os : Os) (started : os.Started) (H : Type) (enc : TypeId × Value → H) :
    ReturnsInHanded {} Try.checked os 10 .any (Rows.piqueKnownSpec.pre6 enc Try.prog Try.f10 Rows.piqueKnownRow.domain false) (Rows.piqueKnownSpec.post enc Try.prog Try.f10 false true false false) := by
  refine returnsInHanded_of_change_sized (C := Try.checked) own started (by kernel_rfl) Try.func10
    (ChangeSpec.witness6 (enc := enc) (C := Try.checked) false ⟨#[], #[], []⟩ 8 (by kernel_rfl) (by kernel_rfl) (by kernel_rfl) (by kernel_rfl)) ?_
  intro W base args ds gs before hval0 hW hcnd hsz0 _
  have hsz : (DataW.weightsEach Try.prog (Try.f10.params.toList ++ Rows.piqueKnownSpec.plain.varTypes Try.prog) (ds ++ gs)).all (· ≤ reachBytes) = true := hsz0
  have hval : ∀ (j : Nat) t v, Try.f10.params[j]? = some t → args[j]? = some v → Value.okWide Try.prog W .any base t v := hval0
  have hW' := hW
  obtain ⟨p, q, hA0, hV, rfl, hfz, hnd⟩ := hW
  have hA : DataW.TrodAll enc Try.prog W 0 (fun _ => true) true Try.f10.params.toList args.toList ds p := hA0
  rw [Try.params10] at hA hval hsz
  obtain ⟨hargs, rfl, rfl⟩ := trodAll_nil hA
  obtain rfl : args = #[] := by cases args; simp_all
  obtain ⟨rfl, rfl⟩ := trodVars_none hV
  clear hA0 hval0 hsz0 hsz
  refine (pique_known  W ).mono fun e W' ⟨he, bel⟩ => ?_
  subst he
  exact ⟨_, rfl, _, _, _, [], _, [], hW', trodAll_mk1 (shut_bool Try.underlying4 _), trodAll_mk0, rfl, bel.frame _, fun h => by cases h⟩
theorem over : Rows.piqueKnownRow.holds Try.pinned (OpenSpec.ofChange Rows.piqueKnownSpec) :=
  OpenClaim.holds_of_wide 10 Try.f10 rfl rfl rfl rfl rfl rfl rfl ⟨rfl, rfl, rfl, rfl, rfl⟩ rfl rfl rfl rfl rfl (by kernel_rfl) Try.func10 (by kernel_rfl)
    (of_decide_eq_true (by kernel_rfl)) (by unfold Func.isWrapper; first | (rw [if_pos (by decide +kernel)]; kernel_rfl) | (rw [if_neg (by decide +kernel)]; exact ⟨rfl, rfl⟩))
    (fun os started H enc _ => lifted os started H enc)
end Go.Proofs.Ytemkloildadokaa.PiqueKnown
namespace Go.Proofs.Ytemkloildadokaa
/-- The row. -/
theorem PiqueKnown_holds : Rows.PiqueKnownSaid := PiqueKnown.over
#print axioms PiqueKnown_holds
end Go.Proofs.Ytemkloildadokaa
