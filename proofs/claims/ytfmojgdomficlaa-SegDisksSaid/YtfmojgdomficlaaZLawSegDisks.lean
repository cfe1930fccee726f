/-
  Texts of one hand, laid together: LawSegDisks.
-/
import Derived.Test.YtfmojgdomficlaaZJ
import Derived.Test.YtfmojgdomficlaaZM
import Derived.Test.YtfmojgdomficlaaZL
import Derived.Test.YtfmojgdomficlaaZK
import Derived.Test.YtfmojgdomficlaaRows
import Derived.ProofKit
import Derived.OpenShut
import Derived.ShutString
import Derived.ChangeOld
import Derived.SizedLaws
set_option linter.unusedVariables false
set_option linter.unusedSimpArgs false
/-! For every device: whether it is formed and whole, and what is there, or the error, are the reference's; devices that begin are the reference's; the chapter's examples are as they are stated. -/
namespace Go.Proofs.Ytfmojgdomficlaa
open Go.RowKit Go.Shelf Go.Proofs.YtfmojgdomficlaaW.PrintWords

/-- A row of the news in a slice, whatever the slice. -/
def NewsV (l : List News) (v : Value) (w : World) : Prop := ∃ A c, v = .slice A l.length c ∧ Kd.C kNews w A l.length l
/-- A device that begins. -/
def BegV (v : Value) (X : World) : Prop := ∃ Af cf Al cl, v = .agg #[.slice Af beginD.files.length cf, .slice Al beginD.list.length cl] ∧ DRows X Af cf Al cl beginD
theorem BegV.st : StableV BegV := fun _ _ _ ⟨Af, cf, Al, cl, h1, h2⟩ hb => ⟨Af, cf, Al, cl, h1, h2.later hb⟩
theorem fileI_small {d : SDisk} (h : DiskI d) : ∀ f ∈ d.files, f.recs.length ≤ 2199023255552 := fun f hf => by have := (h.1 f hf).2.2.1; omega
theorem fileI_fits {d : SDisk} (h : DiskI d) : Fits d := fun f hf => by have := (h.1 f hf).2.2.1; omega
set_option maxRecDepth 100000 in
set_option maxHeartbeats 8000000 in
theorem law_segdisks (d : SDisk) (Af Al : Option Addr) (cf cl : Nat) (w : World) (hd : DRows w Af cf Al cl d) (hi : DiskI d) : Calls Try.prog 4 #[.agg #[.slice Af d.files.length cf, .slice Al d.list.length cl]] w fun e w' => e = .returned (.bool true) ∧ Below w.heap.size w w' := by
  have hF := fileI_small hi
  have hF2 := fileI_fits hi
  have Hd := Lib.hid hd
  clear hd
  go_enter Try.func4, Try.ntmps4
  go_upto_region 1 with fail
  have HC := Lib.hid (Cells.new w #[.slice Af d.files.length cf, .slice Al d.list.length cl] 33)
  have HB := Lib.hid (below_alloc (Below.refl w.heap.size w) (.cells #[.slice Af d.files.length cf, .slice Al d.list.length cl] 33))
  generalize w.alloc (.cells #[.slice Af d.files.length cf, .slice Al d.list.length cl] 33) = w1 at HC HB ⊢
  have q0 := HC.out.cell 0 _ rfl
  have q1 := HC.out.cell 1 _ rfl
  generalize hc : (if diskB d = true then 0 else 2 : Int) = code at *
  generalize hl : (if diskB d = true then thereOf d else []) = lst at *
  have Hc := Lib.hid hc
  have Hl := Lib.hid hl
  go_upto_region 5 with (first
    | (go_at_call 14; (with_reducible refine (seg_News d _ _ cf cl _ (Hd.out.later HB.out) hF2).mono ?_); rintro e w2 ⟨v2, rfl, ho2, hb2⟩; rw [Hc.out]; rw [Hl.out] at ho2; obtain ⟨A2, cc2, rfl, -, h2⟩ := own_reads' ho2; have hc2 := HC.out.later hb2; have q02 := hc2.cell 0 _ rfl; have q12 := hc2.cell 1 _ rfl)
    | (go_at_call 15; (with_reducible refine (ref_News26 d _ _ cf cl _ (Hd.out.later (below_step HB.out hb2)) hF).mono ?_); rintro e w3 ⟨v3, rfl, ho3, hb3⟩; rw [Hc.out]; rw [Hl.out] at ho3; obtain ⟨A3, cc3, rfl, -, h3⟩ := own_reads' ho3; have hb13 := below_step hb2 hb3; have hc3 := HC.out.later hb13; have q03 := hc3.cell 0 _ rfl; have q13 := hc3.cell 1 _ rfl)
    | (go_at_call 16; (with_reducible refine (seg_Whole d _ _ cf cl _ (Hd.out.later (below_step HB.out hb13)) hF2).mono ?_); rintro e w4 ⟨rfl, hb4⟩; rw [Hc.out]; have hb14 := below_step hb13 hb4; have hc4 := HC.out.later hb14; have q04 := hc4.cell 0 _ rfl; have q14 := hc4.cell 1 _ rfl)
    | (go_at_call 17; (with_reducible refine (ref_Whole26 d _ _ cf cl _ (Hd.out.later (below_step HB.out hb14)) hF).mono ?_); rintro e w5 ⟨rfl, hb5⟩; rw [Hc.out]; have hb15 := below_step hb14 hb5))
  have H2 := Lib.hid (Kd.C_below h2 (below_step (below_step hb3 hb4) hb5))
  have H3 := Lib.hid (Kd.C_below h3 (below_step hb4 hb5))
  have HC5 := Lib.hid (HC.out.later hb15)
  have HB5 := Lib.hid (below_step HB.out hb15)
  clear q0 q1 q02 q12 q03 q13 q04 q14 hc2 hc3 hc4 h2 h3 ho2 ho3 hb2 hb3 hb4 hb5 hb13 hb14 hb15 HC HB hl hc Hl
  generalize hbw : (diskB d && wholeB d) = bw
  have z1 : (code == code) = true := by simp
  have z2 : (bw == bw) = true := by simp
  refine wp_region_flow [.calm 0, .calm 1, .calm 2, .calm 3, .free 4, .free 5, .free 6, .free 7, .free 8, .free 9, .free 10, .free 11, .free 12, .calm 13, .free 14, .free 15, .free 16, .free 17, .free 18, .free 19, .free 20, .free 21, .free 22, .free 23, .free 24, .free 25, .group [26], .group [27], .group [28], .free 29, .free 30, .calm 31, .free 32, .free 33] (Below w5.heap.size w5) (Below w5.heap.size w5) (stable_below _ _ (Nat.le_refl _)) (fun _ h => h) (by kernel_rfl) (by kernel_rfl) (below_drew1 (Below.refl _ _)) ?_
  simp only [pickEnts, pickF, List.getElem?_cons_succ, List.getElem?_cons_zero, List.filterMap_cons, List.filterMap_nil, Option.map_some]
  repeat ((first | refine flow_calm (fun K hK => ?_) | refine flow_free (fun K hK => ?_) | refine float_calm (fun K hK => ?_) | refine float_free (fun K hK => ?_)); go_simp; first | (refine hK _ ?_; clear hK K) | (apply Exists.intro; (refine ⟨fun X => ?_, hK _ ?_⟩); (first | (intro hC; rfl) | rfl | (intro hC; have q := HC5.out.later hC.out; have q0 := q.cell 0 _ rfl; have q1 := q.cell 1 _ rfl; go_simp; done) | (intro hC; have q := HC5.out.later hC.out; have q0 := q.cell 0 _ rfl; have q1 := q.cell 1 _ rfl; go_simp; rfl) | (intro hC; (with_reducible refine (seg_Check d _ _ cf cl _ (Hd.out.later (below_step HB5.out hC.out)) hF2).mono ?_); rintro e w' ⟨rfl, hb⟩; rw [Hc.out]; exact ⟨rfl, hb⟩) | (intro hC; (with_reducible refine (ref_Check26 d _ _ cf cl _ (Hd.out.later (below_step HB5.out hC.out)) hF).mono ?_); rintro e w' ⟨rfl, hb⟩; rw [Hc.out]; exact ⟨rfl, hb⟩) | (intro hC; (with_reducible refine (kn_same_news lst lst.length ?_ _ _ _ _ _ (Kd.C_below H2.out hC.out) (Kd.C_below H3.out hC.out)).mono ?_); rfl; rintro e w' ⟨rfl, hb⟩; exact ⟨rfl, hb⟩)); clear hK K))
  refine flow_one BegV BegV.st ⟨rfl, fun X hX => ?_⟩ (fun v X0 hX0 hV0 => ?_)
  · go_simp
    refine ⟨Below.refl _ _, (seg_Begin X).mono ?_⟩
    rintro e w' ⟨Af, cf, Al, cl, rfl, h1, h2⟩
    exact ⟨_, rfl, h2, Af, cf, Al, cl, rfl, h1⟩
  obtain ⟨B1, b1, B2, b2, rfl, -⟩ := hV0
  clear hX0
  refine flow_one BegV BegV.st ⟨rfl, fun X hX => ?_⟩ (fun v X0 hX0 hV0 => ?_)
  · go_simp
    refine ⟨Below.refl _ _, (ref_Begin26 X).mono ?_⟩
    rintro e w' ⟨Af, cf, Al, cl, rfl, h1, h2⟩
    exact ⟨_, rfl, h2, Af, cf, Al, cl, rfl, h1⟩
  obtain ⟨B3, b3, B4, b4, rfl, -⟩ := hV0
  clear hX0
  refine flow_one (fun v _ => v = .bool true) (fun _ _ _ h _ => h) ⟨rfl, fun X hX => ?_⟩ (fun v X0 hX0 hV0 => ?_)
  · obtain ⟨⟨hx, ⟨_, _, _, _, e1, hx1⟩⟩, ⟨_, _, _, _, e2, hx2⟩⟩ := hX.out
    cases e1
    cases e2
    go_simp
    refine ⟨Below.refl _ _, (ref_Same_self beginD _ _ _ _ _ _ _ _ X hx1 hx2).mono ?_⟩
    rintro e w' ⟨rfl, h2⟩
    first | exact ⟨_, rfl, h2, rfl⟩ | exact ⟨rfl, h2⟩ | simpa using h2
  obtain rfl := hV0
  clear hX0
  repeat ((first | refine flow_calm (fun K hK => ?_) | refine flow_free (fun K hK => ?_) | refine float_calm (fun K hK => ?_) | refine float_free (fun K hK => ?_)); go_simp; first | (refine hK _ ?_; clear hK K) | (apply Exists.intro; (refine ⟨fun X => ?_, hK _ ?_⟩); (first | (intro hC; rfl) | rfl | (intro hC; skip; go_simp; done) | (intro hC; skip; go_simp; rfl) | (intro hC; (with_reducible refine (law_known _).mono ?_); rintro e w' ⟨rfl, hb⟩; exact ⟨rfl, hb⟩)); clear hK K))
  refine flow_nil ?_
  intro w9 hX
  have hb9 := hX.out.1.1.1
  go_wp2
  go_ret
  exact ⟨rfl, below_step HB5.out hb9⟩
end Go.Proofs.Ytfmojgdomficlaa
namespace Go.Proofs.Ytfmojgdomficlaa.SegDisks
open Go.ChangeShapes Go.WideShapes Go.ChangeAt Go.RowKit
open Go.ChangeMaps (open_string shut_string)
theorem own : ownKnob Try.prog.godebug = none := by kernel_rfl
theorem laidOut : laidOutB Try.prog = true := by kernel_rfl
set_option maxRecDepth 100000 in
theorem lifted (os : Os) (started : os.Started) (H : Type) (enc : TypeId × Value → H) :
    ReturnsInHanded {} Try.checked os 4 .any (Rows.segDisksSpec.pre6 enc Try.prog Try.f4 Rows.segDisksRow.domain false) (Rows.segDisksSpec.post enc Try.prog Try.f4 false true false false) := by
  refine returnsInHanded_of_change_sized (C := Try.checked) own started (by kernel_rfl) Try.func4
    (ChangeSpec.witness6 (enc := enc) (C := Try.checked) false ⟨#[], #[.agg #[.slice none 0 0, .slice none 0 0]], []⟩ 8 (by kernel_rfl) (by kernel_rfl) (by kernel_rfl) (by kernel_rfl)) ?_
  intro W base args ds gs before hval0 hW hcnd hsz0 _
  have hsz : (DataW.weightsEach Try.prog (Try.f4.params.toList ++ Rows.segDisksSpec.plain.varTypes Try.prog) (ds ++ gs)).all (· ≤ reachBytes) = true := hsz0
  have hval : ∀ (j : Nat) t v, Try.f4.params[j]? = some t → args[j]? = some v → Value.okWide Try.prog W .any base t v := hval0
  have hW' := hW
  obtain ⟨p, q, hA0, hV, rfl, hfz, hnd⟩ := hW
  have hA : DataW.TrodAll enc Try.prog W 0 (fun _ => true) true Try.f4.params.toList args.toList ds p := hA0
  rw [Try.params4] at hA hval hsz
  obtain ⟨v0, vs0, d0, ds0, p0, q0, hargs, rfl, rfl, h0, r0⟩ := trodAll_cons hA
  obtain ⟨rfl, rfl, rfl⟩ := trodAll_nil r0
  obtain rfl : args = #[v0] := by cases args; simp_all
  obtain ⟨rfl, rfl⟩ := trodVars_none hV
  have k0 := h0
  have lt0 : ∀ x ∈ p0, x.block < W.heap.size := by obtain ⟨m, hm⟩ := k0; exact DataW.trod_lt m _ _ _ hm
  obtain ⟨D0, Af0, Al0, cf0, cl0, rfl, hd0, hi0⟩ := open_disk (hval 0 33 v0 rfl rfl) h0 (small_of hsz (j := 0) rfl rfl)
  clear hA0 hval0 hsz0 hsz
  refine (law_segdisks D0 Af0 Al0 cf0 cl0 W hd0 hi0).mono fun e W' ⟨he, bel⟩ => ?_
  subst he
  exact ⟨_, rfl, _, _, _, [], _, [], hW', trodAll_mk1 (shut_bool Try.underlying4 _), (trodAll_cons_mk (Below.trod laidOut (by kernel_rfl) (of_decide_eq_true (by kernel_rfl)) k0 bel lt0) trodAll_mk0), rfl, bel.frame _, fun h => by cases h⟩
theorem over : Rows.segDisksRow.holds Try.pinned (OpenSpec.ofChange Rows.segDisksSpec) :=
  OpenClaim.holds_of_wide 4 Try.f4 rfl rfl rfl rfl rfl rfl rfl ⟨rfl, rfl, rfl, rfl, rfl⟩ rfl rfl rfl rfl rfl (by kernel_rfl) Try.func4 (by kernel_rfl)
    (of_decide_eq_true (by kernel_rfl)) (by unfold Func.isWrapper; first | (rw [if_pos (by decide +kernel)]; kernel_rfl) | (rw [if_neg (by decide +kernel)]; exact ⟨rfl, rfl⟩))
    (fun os started H enc _ => lifted os started H enc)
end Go.Proofs.Ytfmojgdomficlaa.SegDisks
namespace Go.Proofs.Ytfmojgdomficlaa
/-- The row. -/
theorem SegDisks_holds : Rows.SegDisksSaid := SegDisks.over
#print axioms SegDisks_holds
end Go.Proofs.Ytfmojgdomficlaa
