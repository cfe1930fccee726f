/-
  Texts of one hand, laid together: LawSegPlays.
-/
import Derived.Test.YtfmojgdomficlaaZS
import Derived.Test.YtfmojgdomficlaaZL
import Derived.Test.YtfmojgdomficlaaZK
import Derived.Test.YtfmojgdomficlaaRows
import Derived.ProofKit
import Derived.OpenShut
import Derived.ShutString
import Derived.ChangeOld
import Derived.SizedLaws
set_option linter.unusedVariables false
set_option linter.unusedSimpArgs false
/-! For every device and every steps: the device behind the steps, and which were done, or the error, are the reference's; the device that is handed in stays as it is; the chapter's examples are as they are stated. -/
namespace Go.Proofs.Ytfmojgdomficlaa
open Go.RowKit Go.Shelf Go.Proofs.YtfmojgdomficlaaW.PrintWords

theorem bools_self (l : List Bool) (A B : Option Addr) (n c1 c2 : Nat) (hn : n = l.length) (w : World) (h1 : Kd.C Kd.bool w A n l) (h2 : Kd.C Kd.bool w B n l) :
    Calls Try.prog 27 #[.slice A n c1, .slice B n c2] w fun e w' => e = .returned (.bool true) ∧ Below w.heap.size w w' := by
  subst hn
  exact kn_same_bools l l.length rfl A B c1 c2 w h1 h2
set_option maxRecDepth 100000 in
set_option maxHeartbeats 8000000 in
theorem law_segplays (d : SDisk) (Af Al : Option Addr) (cf cl : Nat) (l : List SStep) (A : Option Addr) (c : Nat) (w : World) (hd : DRows w Af cf Al cl d) (hi : DiskI d) (hl : StepsRow w A l.length l) (hc : l.length ≤ c) (hz : l.length * 88 ≤ 140737488351232) (hs : ∀ s ∈ l, StepI s) :
    Calls Try.prog 5 #[.agg #[.slice Af d.files.length cf, .slice Al d.list.length cl], .slice A l.length c] w fun e w' => e = .returned (.bool true) ∧ Below w.heap.size w w' := by
  have hF : ∀ f ∈ d.files, f.recs.length ≤ 2199023255552 := fun f hf => by have := (hi.1 f hf).2.2.1; omega
  have hF2 : Fits d := fun f hf => by have := (hi.1 f hf).2.2.1; omega
  have hF3 : ∀ f ∈ d.files, f.recs.length * 64 ≤ 140737488355328 := fun f hf => by have := (hi.1 f hf).2.2.1; omega
  have hk : ∀ s ∈ l, s.k ≤ 9223372036854775807 := fun s hs' => (hs s hs').2.1.2
  have hb1 := hi.2.2.1
  have hb2 := hi.2.2.2
  have Hd := Lib.hid hd
  have Hl := Lib.hid hl
  clear hd hl
  go_enter Try.func5, Try.ntmps5
  go_upto_region 1 with fail
  have HC := Lib.hid (Cells.new w #[.slice Af d.files.length cf, .slice Al d.list.length cl] 33)
  have HB := Lib.hid (below_alloc (Below.refl w.heap.size w) (.cells #[.slice Af d.files.length cf, .slice Al d.list.length cl] 33))
  generalize w.alloc (.cells #[.slice Af d.files.length cf, .slice Al d.list.length cl] 33) = w1 at HC HB ⊢
  have q0 := HC.out.cell 0 _ rfl
  have q1 := HC.out.cell 1 _ rfl
  go_upto_region 2 with (first
    | (go_at_call 24; (with_reducible refine (ref_Copy d _ _ cf cl w1 (Hd.out.later HB.out) (by omega) (by omega) hF3).mono ?_); rintro e w2 ⟨vf2, vl2, rs2, rfl, hv2, hb2'⟩; obtain ⟨A2, c2, B2, e2, rfl, rfl, hr2⟩ := hv2.reads))
  have HX := Lib.hid (Cells.new w2 #[.slice A2 d.files.length c2, .slice B2 d.list.length e2] 33)
  have hbs := below_alloc (Below.refl w2.heap.size w2) (.cells #[.slice A2 d.files.length c2, .slice B2 d.list.length e2] 33)
  have HR := Lib.hid (hr2.later hbs)
  have HC2 := Lib.hid ((HC.out.later hb2').later hbs)
  have HB2 := Lib.hid (below_step (below_step HB.out hb2') hbs)
  clear hbs hr2 hv2 hb2' q0 q1 HC HB
  generalize w2.alloc (.cells #[.slice A2 d.files.length c2, .slice B2 d.list.length e2] 33) = w3 at HX HR HC2 HB2 ⊢
  generalize w2.heap.size = g2 at HX ⊢
  have q0 := HX.out.cell 0 _ rfl
  have q1 := HX.out.cell 1 _ rfl
  go_upto_region 3 with (first
    | (go_at_call 25; (with_reducible refine (seg_Play d l _ _ A c2 e2 c w3 HR.out hF2 (Kd.C_below Hl.out HB2.out) hc hk).mono ?_); rintro e w4 ⟨A4, c4, B4, e4, D4, f4, rfl, hr4, hd4, hn4, hb4⟩))
  have HY := Lib.hid (Cells.new w4 #[.slice A4 (playOf d l).1.1.files.length c4, .slice B4 (playOf d l).1.1.list.length e4] 33)
  have hbs := below_alloc (Below.refl w4.heap.size w4) (.cells #[.slice A4 (playOf d l).1.1.files.length c4, .slice B4 (playOf d l).1.1.list.length e4] 33)
  have HR4 := Lib.hid (hr4.later hbs)
  have HD4 := Lib.hid (Kd.C_below hd4 hbs)
  have HC4 := Lib.hid ((HC2.out.later hb4).later hbs)
  have HX4 := Lib.hid ((HX.out.later hb4).later hbs)
  have HR2 := Lib.hid ((HR.out.later hb4).later hbs)
  have HB4 := Lib.hid (below_step (below_step HB2.out hb4) hbs)
  clear hbs hr4 hd4 hn4 hb4 q0 q1 HX HR HC2 HB2
  generalize w4.alloc (.cells #[.slice A4 (playOf d l).1.1.files.length c4, .slice B4 (playOf d l).1.1.list.length e4] 33) = w5 at HY HR4 HD4 HC4 HX4 HR2 HB4 ⊢
  generalize w4.heap.size = g4 at HY ⊢
  have q0 := HC4.out.cell 0 _ rfl
  have q1 := HC4.out.cell 1 _ rfl
  go_upto_region 4 with (first
    | (go_at_call 26; (with_reducible refine (ref_Play d l _ _ A cf cl c w5 (Hd.out.later HB4.out) hF (Kd.C_below Hl.out HB4.out) hc).mono ?_); rintro e w6 ⟨A6, c6, B6, e6, D6, f6, rfl, hr6, hd6, hn6, hb6⟩))
  have HZ := Lib.hid (Cells.new w6 #[.slice A6 (playOf d l).1.1.files.length c6, .slice B6 (playOf d l).1.1.list.length e6] 33)
  have hbs := below_alloc (Below.refl w6.heap.size w6) (.cells #[.slice A6 (playOf d l).1.1.files.length c6, .slice B6 (playOf d l).1.1.list.length e6] 33)
  have HR6 := Lib.hid (hr6.later hbs)
  have HD6 := Lib.hid (Kd.C_below hd6 hbs)
  have HC6 := Lib.hid ((HC4.out.later hb6).later hbs)
  have HX6 := Lib.hid ((HX4.out.later hb6).later hbs)
  have HY6 := Lib.hid ((HY.out.later hb6).later hbs)
  have HR26 := Lib.hid ((HR2.out.later hb6).later hbs)
  have HR46 := Lib.hid ((HR4.out.later hb6).later hbs)
  have HD46 := Lib.hid (Kd.C_below (Kd.C_below HD4.out hb6) hbs)
  have HB6 := Lib.hid (below_step (below_step HB4.out hb6) hbs)
  clear hbs hr6 hd6 hn6 hb6 q0 q1 HC4 HX4 HY HR2 HR4 HD4 HB4
  generalize w6.alloc (.cells #[.slice A6 (playOf d l).1.1.files.length c6, .slice B6 (playOf d l).1.1.list.length e6] 33) = w7 at HZ HR6 HD6 HC6 HX6 HY6 HR26 HR46 HD46 HB6 ⊢
  generalize w6.heap.size = g6 at HZ ⊢
  generalize hq : playOf d l = q at HZ HR6 HD6 HY6 HR46 HD46 ⊢
  have z1 : (q.2 == q.2) = true := by simp
  have y0 := HY6.out.cell 0 _ rfl
  have y1 := HY6.out.cell 1 _ rfl
  have t0 := HZ.out.cell 0 _ rfl
  have t1 := HZ.out.cell 1 _ rfl
  go_wp2_with (first
    | (go_at_call 21; (with_reducible refine (ref_Same_self q.1.1 _ _ _ _ c4 e4 c6 e6 w7 HR46.out HR6.out).mono ?_); rintro e w8 ⟨rfl, hb8⟩)
    | (go_at_call 27; (with_reducible refine (bools_self q.1.2 _ _ q.1.2.length f4 f6 rfl w8 (Kd.C_below HD46.out hb8) (Kd.C_below HD6.out hb8)).mono ?_); rintro e w9 ⟨rfl, hb9⟩; have hb79 := below_step hb8 hb9; have hx9 := HX6.out.later hb79; have x0 := hx9.cell 0 _ rfl; have x1 := hx9.cell 1 _ rfl; have hc9 := HC6.out.later hb79; have s0 := hc9.cell 0 _ rfl; have s1 := hc9.cell 1 _ rfl)
    | (go_at_call 21; (with_reducible refine (ref_Same_self d _ _ _ _ c2 e2 cf cl w9 (HR26.out.later hb79) (Hd.out.later (below_step HB6.out hb79))).mono ?_); rintro e w10 ⟨rfl, hb10⟩)
    | (go_at_call 13; (with_reducible refine (law_known w10).mono ?_); rintro e w11 ⟨rfl, hb11⟩))
  go_ret
  exact ⟨rfl, below_step (below_step (below_step HB6.out hb79) hb10) hb11⟩
end Go.Proofs.Ytfmojgdomficlaa
namespace Go.Proofs.Ytfmojgdomficlaa.SegPlays
open Go.ChangeShapes Go.WideShapes Go.ChangeAt Go.RowKit
open Go.ChangeMaps (open_string shut_string)
theorem own : ownKnob Try.prog.godebug = none := by kernel_rfl
theorem laidOut : laidOutB Try.prog = true := by kernel_rfl
set_option maxRecDepth 100000 in
theorem lifted (os : Os) (started : os.Started) (H : Type) (enc : TypeId × Value → H) :
    ReturnsInHanded {} Try.checked os 5 .any (Rows.segPlaysSpec.pre6 enc Try.prog Try.f5 Rows.segPlaysRow.domain false) (Rows.segPlaysSpec.post enc Try.prog Try.f5 false true false false) := by
  refine returnsInHanded_of_change_sized (C := Try.checked) own started (by kernel_rfl) Try.func5
    (ChangeSpec.witness6 (enc := enc) (C := Try.checked) false ⟨#[], #[.agg #[.slice none 0 0, .slice none 0 0], .slice none 0 0], []⟩ 8 (by kernel_rfl) (by kernel_rfl) (by kernel_rfl) (by kernel_rfl)) ?_
  intro W base args ds gs before hval0 hW hcnd hsz0 _
  have hsz : (DataW.weightsEach Try.prog (Try.f5.params.toList ++ Rows.segPlaysSpec.plain.varTypes Try.prog) (ds ++ gs)).all (· ≤ reachBytes) = true := hsz0
  have hval : ∀ (j : Nat) t v, Try.f5.params[j]? = some t → args[j]? = some v → Value.okWide Try.prog W .any base t v := hval0
  have hW' := hW
  obtain ⟨p, q, hA0, hV, rfl, hfz, hnd⟩ := hW
  have hA : DataW.TrodAll enc Try.prog W 0 (fun _ => true) true Try.f5.params.toList args.toList ds p := hA0
  rw [Try.params5] at hA hval hsz
  obtain ⟨v0, vs0, d0, ds0, p0, q0, hargs, rfl, rfl, h0, r0⟩ := trodAll_cons hA
  obtain ⟨v1, vs1, d1, ds1, p1, q1, rfl, rfl, rfl, h1, r1⟩ := trodAll_cons r0
  obtain ⟨rfl, rfl, rfl⟩ := trodAll_nil r1
  obtain rfl : args = #[v0, v1] := by cases args; simp_all
  obtain ⟨rfl, rfl⟩ := trodVars_none hV
  have k0 := h0
  have lt0 : ∀ x ∈ p0, x.block < W.heap.size := by obtain ⟨m, hm⟩ := k0; exact DataW.trod_lt m _ _ _ hm
  obtain ⟨D0, Af0, Al0, cf0, cl0, rfl, hd0, hi0⟩ := open_disk (hval 0 33 v0 rfl rfl) h0 (small_of hsz (j := 0) rfl rfl)
  obtain ⟨a1, len1, cap1, rfl⟩ := okWide_slice Try.underlying45 (hval 1 45 v1 rfl rfl)
  have k1 := h1
  have lt1 : ∀ x ∈ p1, x.block < W.heap.size := by obtain ⟨m, hm⟩ := k1; exact DataW.trod_lt m _ _ _ hm
  obtain ⟨l1, rfl, hc1, hz1, hr1, hi1⟩ := open_steps h1 (small_of hsz (j := 1) rfl rfl)
  clear hA0 hval0 hsz0 hsz
  refine (law_segplays D0 Af0 Al0 cf0 cl0 l1 a1 cap1 W hd0 hi0 hr1 hc1 hz1 hi1).mono fun e W' ⟨he, bel⟩ => ?_
  subst he
  exact ⟨_, rfl, _, _, _, [], _, [], hW', trodAll_mk1 (shut_bool Try.underlying4 _), (trodAll_cons_mk (Below.trod laidOut (by kernel_rfl) (of_decide_eq_true (by kernel_rfl)) k0 bel lt0) (trodAll_cons_mk (Below.trod laidOut (by kernel_rfl) (of_decide_eq_true (by kernel_rfl)) k1 bel lt1) trodAll_mk0)), rfl, bel.frame _, fun h => by cases h⟩
theorem over : Rows.segPlaysRow.holds Try.pinned (OpenSpec.ofChange Rows.segPlaysSpec) :=
  OpenClaim.holds_of_wide 5 Try.f5 rfl rfl rfl rfl rfl rfl rfl ⟨rfl, rfl, rfl, rfl, rfl⟩ rfl rfl rfl rfl rfl (by kernel_rfl) Try.func5 (by kernel_rfl)
    (of_decide_eq_true (by kernel_rfl)) (by unfold Func.isWrapper; first | (rw [if_pos (by decide +kernel)]; kernel_rfl) | (rw [if_neg (by decide +kernel)]; exact ⟨rfl, rfl⟩))
    (fun os started H enc _ => lifted os started H enc)
end Go.Proofs.Ytfmojgdomficlaa.SegPlays
namespace Go.Proofs.Ytfmojgdomficlaa
/-- The row. -/
theorem SegPlays_holds : Rows.SegPlaysSaid := SegPlays.over
#print axioms SegPlays_holds
end Go.Proofs.Ytfmojgdomficlaa
