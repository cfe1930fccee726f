/-
  Texts of one hand, laid together: LawSegMerged.
-/
import Derived.Test.YtfmojgdomficlaaZN
import Derived.Test.YtfmojgdomficlaaZM
import Derived.Test.YtfmojgdomficlaaZL
import Derived.Test.YtfmojgdomficlaaZK
import Derived.Test.YtfmojgdomficlaaRows
import Derived.ProofKit
import Derived.OpenShut
import Derived.ShutString
import Derived.ChangeOld
import Derived.SizedLaws
set_option linter.unusedVariables false
set_option linter.unusedSimpArgs false
/-! For every device, place and end of a merge: a merge, wherever the machine crashes on its way, changes nothing of what is said by what was safe, and leaves not more news. -/
namespace Go.Proofs.Ytfmojgdomficlaa
open Go.RowKit Go.Shelf Go.Proofs.YtfmojgdomficlaaW.PrintWords

theorem u8_of {x : Int} (h : (Lit.int .u8 x).wf = true) : 0 ≤ x ∧ x ≤ 255 := by
  simp only [Lit.wf, Bool.and_eq_true, decide_eq_true_eq] at h
  exact ⟨by have e : IntKind.u8.min = 0 := by decide
            omega, by have e : IntKind.u8.max = 255 := by decide
                      omega⟩
theorem there_row_small {d : SDisk} (h : DiskOk d) : ((thereOf d).length + 1) * 56 ≤ 140737488355328 := by have := h.there_len; omega
theorem there_src {d : SDisk} (h : DiskOk d) : ∀ n ∈ thereOf d, 0 ≤ n.src ∧ n.src < 4 := fun n hn => good_src (there_good h n hn)
/-- All that the law asks of a merge. -/
structure MergedAll (d s x : SDisk) (K ST : Int) (done : Bool) : Prop where
  p1 : playOf d [doS 2] = ((s, [true]), 0)
  p2 : playOf s [mergeS K ST, doS 6] = ((x, [done, true]), 0)
  sok : DiskOk s
  xok : DiskOk x
  xw : wholeR x = true
  says : Alike (thereOf s) (thereOf x)
  few : (thereOf x).length ≤ (thereOf s).length
  list : x.list.length = if (done && (ST != 1)) = true then d.list.length - 1 else d.list.length
theorem merged_facts {d : SDisk} (hb : diskB d = true) (hw : wholeB d = true) (K ST : Int) (hK : 0 ≤ K) (h0 : 0 ≤ ST) (h2 : ST ≤ 2) :
    ∃ s x, MergedAll d s x K ST (decide (K + 1 < (d.list.length : Int) - 1) && decide (lastNo d < 9999)) := by
  have hd := (disk_iff d).1 hb
  have ho := hd.ready.open
  have hs := sync_ok hd ho
  have hsb := (disk_iff _).2 hs
  have hsw := sync_whole hw ho
  obtain ⟨e1, e2, e3, e4⟩ := merged_ends hs hsw (sync_safe hd ho) K.toNat ST
  have hdone : (decide (K.toNat + 2 < (syncD d (openAt d)).list.length) && decide (lastNo (syncD d (openAt d)) < 9999)) = (decide (K + 1 < (d.list.length : Int) - 1) && decide (lastNo d < 9999)) := by
    rw [sync_last ho]
    congr 1
    exact decide_eq_decide.2 (by show K.toNat + 2 < d.list.length ↔ _; omega)
  have hm : DiskOk (mergeD (syncD d (openAt d)) K.toNat ST).1 := by
    have hf : fitsB (mergeS K ST) = true := by
      have ho : ¬ oddB (mergeS K ST) := by unfold oddB mergeS; simp [noNews, newsEq]; omega
      rw [fitsB, if_neg ho]
      simp [mergeS]
    have := step_ok hs (mergeS K ST) hf
    have e : stepD (syncD d (openAt d)) (mergeS K ST) = mergeD (syncD d (openAt d)) K.toNat ST := by
      unfold stepD mergeS
      simp [hsw]
    rwa [e] at this
  have hx := reopen_ok hm
  have ht := reopen_there hm
  refine ⟨_, _, play_sync hb hw, ?_, hs, hx, (whole_eq hx).trans (reopen_whole hm), ?_, ?_, ?_⟩
  · rw [← hdone, ← e1]
    exact play_merge hsb hsw K ST hK h0 h2
  · rw [ht]
    refine Eqv.alike e2.symm (there_src hs) ?_
    rw [← ht]
    exact there_src hx
  · rw [ht]; exact e3
  · rw [← hdone, ← e1]; exact e4
set_option maxRecDepth 100000 in
set_option maxHeartbeats 16000000 in
theorem law_segmerged (d : SDisk) (Af Al : Option Addr) (cf cl : Nat) (k0 s0 : Int) (w : World) (hd : DRows w Af cf Al cl d) (hi : DiskI d) (hk0 : 0 ≤ k0 ∧ k0 ≤ 255) (hs0 : 0 ≤ s0 ∧ s0 ≤ 255) : Calls Try.prog 7 #[.agg #[.slice Af d.files.length cf, .slice Al d.list.length cl], .int .u8 k0, .int .u8 s0] w fun e w' => e = .returned (.bool true) ∧ Below w.heap.size w w' := by
  have hF : ∀ f ∈ d.files, f.recs.length ≤ 2199023255552 := fun f hf => by have := (hi.1 f hf).2.2.1; omega
  have Hd := Lib.hid hd
  clear hd
  cases hb : diskB d
  · have Hb := Lib.hid hb
    clear hb
    go_enter Try.func7, Try.ntmps7
    go_wp2_with (first
      | (go_at_call 28; (with_reducible refine (ref_Disk d _ _ cf cl _ (Hd.out.later (below_alloc (Below.refl _ _) _)) hF).mono ?_); rintro e w2 ⟨rfl, hb2⟩; rw [Hb.out])
      | (go_at_call 13; (with_reducible refine (law_known _).mono ?_); rintro e w3 ⟨rfl, hb3⟩))
    go_ret
    exact ⟨rfl, below_step (below_step (below_alloc (Below.refl _ _) _) hb2) hb3⟩
  have hok := (disk_iff d).1 hb
  have hwe := whole_eq hok
  cases hw : wholeB d
  · rw [hw] at hwe
    have Hb := Lib.hid hb
    have Hwe := Lib.hid hwe
    clear hb hwe hw hok
    go_enter Try.func7, Try.ntmps7
    go_wp2_with (first
      | (go_at_call 28; (with_reducible refine (ref_Disk d _ _ cf cl _ (Hd.out.later (below_alloc (Below.refl _ _) _)) hF).mono ?_); rintro e w2 ⟨rfl, hb2⟩; rw [Hb.out]; obtain ⟨hc2, hf2⟩ := bcell hb2)
      | (go_at_call 29; (with_reducible refine (ref_WholeOf d _ _ cf cl _ (Hd.out.later (below_step (below_alloc (Below.refl _ _) _) hb2))).mono ?_); rintro e w3 ⟨rfl, hb3⟩; rw [Hwe.out])
      | (go_at_call 13; (with_reducible refine (law_known _).mono ?_); rintro e w4 ⟨rfl, hb4⟩))
    go_ret
    exact ⟨rfl, below_step (below_step (below_step (below_alloc (Below.refl _ _) _) hb2) hb3) hb4⟩
  rw [hw] at hwe
  obtain ⟨K, hK0, hK7, hKr⟩ : ∃ K : Int, 0 ≤ K ∧ K ≤ 7 ∧ k0.tmod 8 = K := ⟨k0 % 8, by omega, by omega, Int.tmod_eq_emod_of_nonneg hk0.1⟩
  obtain ⟨ST, hS0, hS2, hSr⟩ : ∃ S : Int, 0 ≤ S ∧ S ≤ 2 ∧ s0.tmod 3 = S := ⟨s0 % 3, by omega, by omega, Int.tmod_eq_emod_of_nonneg hs0.1⟩
  have hwk : IntKind.i64.wrap k0 = k0 := IntWalk.i64_in _ (by omega)
  have hws : IntKind.i64.wrap s0 = s0 := IntWalk.i64_in _ (by omega)
  have hwK : IntKind.i64.wrap (K + 1) = K + 1 := IntWalk.i64_in _ (by omega)
  obtain ⟨s, x, hM⟩ := merged_facts hb hw K ST hK0 hS0 hS2
  have hll := hok.few
  have hlp : 0 < d.list.length := List.length_pos_iff.2 hok.ne
  have hfl := hok.files_len
  have hfp : 0 < d.files.length := List.length_pos_iff.2 hok.files_ne
  obtain ⟨lf, hlf, hln⟩ := lastNo_get hok.files_ne
  obtain ⟨m, hmf⟩ : ∃ m, d.files.length = m + 1 := ⟨d.files.length - 1, by omega⟩
  have hml : m < d.files.length := by omega
  have hwl : IntKind.i64.wrap ((d.list.length : Int) - 1) = (d.list.length : Int) - 1 := IntWalk.i64_in _ (by omega)
  have hwf : IntKind.i64.wrap ((d.files.length : Int) - 1) = (m : Int) := by rw [IntWalk.i64_in _ (by omega)]; omega
  rw [show d.files.length - 1 = m by omega] at hlf
  obtain ⟨lf', adf, _, _, -, -, hg2, rfl, c0, -, -, -, -⟩ := sfile_at Hd.out.files m hml
  rw [hlf] at hg2
  obtain rfl := Option.some.inj hg2
  rw [← hln] at c0
  have C0 := Lib.hid c0
  have Hwf := Lib.hid hwf
  have Hmf := Lib.hid hmf
  have HM := Lib.hid hM
  have hFx := ok_small hM.xok
  have hFts : Fits s := fits_of ((disk_iff _).2 hM.sok)
  have hFt := fits_of hb
  have Hb := Lib.hid hb
  have Hwe := Lib.hid hwe
  have Hsb := Lib.hid ((disk_iff _).2 hM.sok)
  have Hxb := Lib.hid ((disk_iff _).2 hM.xok)
  have Hlist := Lib.hid hM.list
  have Hfew := Lib.hid hM.few
  clear hM hb hwe hw hok hlf hg2 c0 hwf hmf hln hi
  go_enter Try.func7, Try.ntmps7
  go_upto_region 1 with fail
  have HC := Lib.hid (Cells.new w #[.slice (some adf) d.files.length cf, .slice Al d.list.length cl] 33)
  have HB := Lib.hid (below_alloc (Below.refl w.heap.size w) (.cells #[.slice (some adf) d.files.length cf, .slice Al d.list.length cl] 33))
  generalize w.alloc (.cells #[.slice (some adf) d.files.length cf, .slice Al d.list.length cl] 33) = w1 at HC HB ⊢
  have q0 := HC.out.cell 0 _ rfl
  have q1 := HC.out.cell 1 _ rfl
  go_upto_region 4 with (first
    | (go_at_call 28; (with_reducible refine (ref_Disk d _ _ cf cl _ (Hd.out.later HB.out) hF).mono ?_); rintro e w2 ⟨rfl, hb2⟩; rw [Hb.out]; have hc2 := HC.out.later hb2; have q02 := hc2.cell 0 _ rfl; have q12 := hc2.cell 1 _ rfl)
    | (go_at_call 29; (with_reducible refine (ref_WholeOf d _ _ cf cl _ (Hd.out.later (below_step HB.out hb2))).mono ?_); rintro e w3 ⟨rfl, hb3⟩; rw [Hwe.out]))
  have hb13 := below_step hb2 hb3
  have HS4 := Lib.hid (Cells.new w3 #[.int .i64 4, .int .i64 K, .int .i64 ST, .bool false, .int .i64 0, .int .i64 0, .int .i64 0, .int .i64 0, .int .i64 0, .int .i64 0, .int .i64 0] 58)
  have hb34 := below_alloc (Below.refl w3.heap.size w3) (.cells #[.int .i64 4, .int .i64 K, .int .i64 ST, .bool false, .int .i64 0, .int .i64 0, .int .i64 0, .int .i64 0, .int .i64 0, .int .i64 0, .int .i64 0] 58)
  generalize w3.alloc (.cells #[.int .i64 4, .int .i64 K, .int .i64 ST, .bool false, .int .i64 0, .int .i64 0, .int .i64 0, .int .i64 0, .int .i64 0, .int .i64 0, .int .i64 0] 58) = w4 at HS4 hb34 ⊢
  generalize w3.heap.size = g4 at HS4 ⊢
  have hb14 := below_step hb13 hb34
  have HC4 := Lib.hid (HC.out.later hb14)
  have HB4 := Lib.hid (below_step HB.out hb14)
  have HD4 := Lib.hid (Hd.out.later HB4.out)
  have C4 := Lib.hid (cell_keep HB4.out C0.out)
  generalize hdone : (decide (K + 1 < (d.list.length : Int) - 1) && decide (lastNo d < 9999)) = done at HM Hlist
  have Hdone := Lib.hid hdone
  clear q0 q1 q02 q12 hc2 hb2 hb3 hb13 hb34 hb14 HC HB Hd C0 hdone
  refine wp_region_flow [.calm 0, .calm 1, .float 8 [.one 2, .one 3, .free 4, .free 5, .free 6, .free 7], .fence 9, .free 10, .free 11] (Below w4.heap.size w4) (Below w4.heap.size w4) (stable_below _ _ (Nat.le_refl _)) (fun _ h => h) (by kernel_rfl) (by kernel_rfl) (below_drew1 (Below.refl _ _)) ?_
  simp only [pickEnts, pickF, List.getElem?_cons_succ, List.getElem?_cons_zero, List.filterMap_cons, List.filterMap_nil, Option.map_some]
  repeat ((first | refine flow_calm (fun K hK => ?_) | refine flow_free (fun K hK => ?_) | refine float_calm (fun K hK => ?_) | refine float_free (fun K hK => ?_)); go_simp; first | (refine hK _ ?_; clear hK K) | (apply Exists.intro; (refine ⟨fun X => ?_, hK _ ?_⟩); (first | (intro hC; rfl) | rfl | (intro hC; have q := HC4.out.later hC.out; have q0 := q.cell 0 _ rfl; have q1 := q.cell 1 _ rfl; go_simp; done) | (intro hC; have q := HC4.out.later hC.out; have q0 := q.cell 0 _ rfl; have q1 := q.cell 1 _ rfl; go_simp; rfl) | (intro hC; (with_reducible refine (law_do 2 _).mono ?_); rintro e w' ⟨rfl, hb⟩; exact ⟨rfl, hb⟩)); clear hK K))
  refine flow_float (BoxV w4.heap.size #[.slice none 0 0, .slice none 0 0] 33) (BoxV.st _ _ _) ⟨rfl, fun X hX => ?_⟩ ?_
  · go_simp
    exact ⟨below_alloc (Below.refl _ _) _, BoxV.new hX.out.size _ _⟩
  refine float_one (LitV [doS 2]) (LitV.st _) ⟨rfl, fun X hX => ?_⟩ (fun v X0 hX0 hV0 => ?_)
  · go_simp
    exact ⟨below_alloc (Below.refl _ _) _, LitV.new (l := [doS 2]) X (by simp) _ rfl⟩
  obtain ⟨B51, rfl, -⟩ := hV0
  clear hX0
  refine float_one (PlayV s [true] 0) (PlayV.st _ _ _) ⟨rfl, fun X hX => ?_⟩ (fun v X0 hX0 hV0 => ?_)
  · obtain ⟨hx1, ⟨B, e1, hx2⟩⟩ := hX.out
    cases e1
    go_simp
    exact ⟨Below.refl _ _, (play_pure (by rw [HM.out.p1]) (by rw [HM.out.p1]) (by rw [HM.out.p1]) hFt (by decide) (n := 1) rfl _ _ _ _ _ _ _ (HD4.out.later hx1) hx2 (Nat.le_refl _)).mono fun e w' h => h⟩
  obtain ⟨Af5, cf5, Al5, cl5, Ab5, cb5, rfl, -⟩ := hV0
  clear hX0
  repeat ((first | refine flow_calm (fun K hK => ?_) | refine flow_free (fun K hK => ?_) | refine float_calm (fun K hK => ?_) | refine float_free (fun K hK => ?_)); go_simp; first | (refine hK _ ?_; clear hK K) | (apply Exists.intro; (refine ⟨fun X => ?_, hK _ ?_⟩); (first | (intro hC; rfl) | rfl | (intro hC; skip; go_simp; done) | (intro hC; skip; go_simp; rfl)); clear hK K))
  refine float_land (fun v X0 hX0 hV0 => ?_)
  obtain ⟨B5, rfl, -, -⟩ := hV0
  clear hX0
  refine flow_fence rfl (fun X hX K' hK => ?_)
  obtain ⟨⟨⟨hx1, -⟩, ⟨_, _, _, _, _, _, e2, hx4, hx5, hx6⟩⟩, ⟨B, e1, hx2, hx3⟩⟩ := hX.out
  cases e1
  cases e2
  have x0 := hx3.cell 0 _ rfl
  have x1 := hx3.cell 1 _ rfl
  have x2 := hx3.frozen 0
  have x3 := hx3.frozen 1
  go_simp
  obtain ⟨y1, y2, y3⟩ := box_put hx1 hx2 hx3 (.slice Af5 s.files.length cf5) (.slice Al5 s.list.length cl5)
  refine hK.out _ _ (fun Z => Below w4.heap.size w4 Z ∧ Cells Z B5 #[.slice Af5 s.files.length cf5, .slice Al5 s.list.length cl5] 33 ∧ DRows Z Af5 cf5 Al5 cl5 s ∧ Kd.C Kd.bool Z Ab5 1 [true]) (fun Z => Below w4.heap.size w4 Z ∧ Cells Z B5 #[.slice Af5 s.files.length cf5, .slice Al5 s.list.length cl5] 33 ∧ DRows Z Af5 cf5 Al5 cl5 s ∧ Kd.C Kd.bool Z Ab5 1 [true]) (fun Z Z' hZ hb => ⟨below_step hZ.1 hb, hZ.2.1.later hb, hZ.2.2.1.later hb, Kd.C_below hZ.2.2.2 hb⟩) (fun _ h => h) ⟨y1, y2, hx4.off hx3 y3, bools_off hx5 hx3 y3⟩ ?_
  clear hK K' hX x0 x1 x2 x3 y1 y2 y3 hx1 hx2 hx3 hx4 hx5 X
  repeat ((first | refine flow_calm (fun K hK => ?_) | refine flow_free (fun K hK => ?_) | refine float_calm (fun K hK => ?_) | refine float_free (fun K hK => ?_)); go_simp; first | (refine hK _ ?_; clear hK K) | (apply Exists.intro; (refine ⟨fun X => ?_, hK _ ?_⟩); (first | (intro hC; rfl) | rfl | (intro hC; skip; go_simp; done) | (intro hC; skip; go_simp; rfl)); clear hK K))
  refine flow_nil ?_
  intro w5 hX
  obtain ⟨hb5, hc5, hd5, ho5⟩ := hX.out
  clear hX hx6
  have HC5 := Lib.hid (HC4.out.later hb5)
  have HB5 := Lib.hid (below_step HB4.out hb5)
  have C5 := Lib.hid (cell_keep hb5 C4.out)
  have HS5 := Lib.hid (HS4.out.later hb5)
  have HX5 := Lib.hid hc5
  have HE5 := Lib.hid hd5
  clear hb5 hc5 hd5 ho5 HC4 HB4 HD4 HS4 C4
  go_upto_region 5 with fail
  refine wp_region_flow [.calm 0, .calm 1, .calm 2, .float 9 [.one 3, .one 4, .free 5, .free 6, .free 7, .free 8], .fence 10, .free 11, .free 12] (Below w5.heap.size w5) (Below w5.heap.size w5) (stable_below _ _ (Nat.le_refl _)) (fun _ h => h) (by kernel_rfl) (by kernel_rfl) (below_drew1 (Below.refl _ _)) ?_
  simp only [pickEnts, pickF, List.getElem?_cons_succ, List.getElem?_cons_zero, List.filterMap_cons, List.filterMap_nil, Option.map_some]
  repeat ((first | refine flow_calm (fun K hK => ?_) | refine flow_free (fun K hK => ?_) | refine float_calm (fun K hK => ?_) | refine float_free (fun K hK => ?_)); go_simp; first | (refine hK _ ?_; clear hK K) | (apply Exists.intro; (refine ⟨fun X => ?_, hK _ ?_⟩); (first | (intro hC; rfl) | rfl | (intro hC; have q := HX5.out.later hC.out; have q0 := q.cell 0 _ rfl; have q1 := q.cell 1 _ rfl; have p := HS5.out.later hC.out; have p0 := p.cell 0 _ rfl; have p1 := p.cell 1 _ rfl; have p2 := p.cell 2 _ rfl; have p3 := p.cell 3 _ rfl; have p4 := p.cell 4 _ rfl; have p5 := p.cell 5 _ rfl; have p6 := p.cell 6 _ rfl; have p7 := p.cell 7 _ rfl; have p8 := p.cell 8 _ rfl; have p9 := p.cell 9 _ rfl; have p10 := p.cell 10 _ rfl; go_simp; done) | (intro hC; have q := HX5.out.later hC.out; have q0 := q.cell 0 _ rfl; have q1 := q.cell 1 _ rfl; have p := HS5.out.later hC.out; have p0 := p.cell 0 _ rfl; have p1 := p.cell 1 _ rfl; have p2 := p.cell 2 _ rfl; have p3 := p.cell 3 _ rfl; have p4 := p.cell 4 _ rfl; have p5 := p.cell 5 _ rfl; have p6 := p.cell 6 _ rfl; have p7 := p.cell 7 _ rfl; have p8 := p.cell 8 _ rfl; have p9 := p.cell 9 _ rfl; have p10 := p.cell 10 _ rfl; go_simp; rfl) | (intro hC; (with_reducible refine (law_do 6 _).mono ?_); rintro e w' ⟨rfl, hb⟩; exact ⟨rfl, hb⟩)); clear hK K))
  refine flow_float (BoxV w5.heap.size #[.slice none 0 0, .slice none 0 0] 33) (BoxV.st _ _ _) ⟨rfl, fun X hX => ?_⟩ ?_
  · go_simp
    exact ⟨below_alloc (Below.refl _ _) _, BoxV.new hX.out.size _ _⟩
  refine float_one (LitV [mergeS K ST, doS 6]) (LitV.st _) ⟨rfl, fun X hX => ?_⟩ (fun v X0 hX0 hV0 => ?_)
  · go_simp
    exact ⟨below_alloc (Below.refl _ _) _, LitV.new (l := [mergeS K ST, doS 6]) X (by simp) _ rfl⟩
  obtain ⟨B61, rfl, -⟩ := hV0
  clear hX0
  refine float_one (PlayV x [done, true] 0) (PlayV.st _ _ _) ⟨rfl, fun X hX => ?_⟩ (fun v X0 hX0 hV0 => ?_)
  · obtain ⟨hx1, ⟨B, e1, hx2⟩⟩ := hX.out
    cases e1
    go_simp
    exact ⟨Below.refl _ _, (play_pure (by rw [HM.out.p2]) (by rw [HM.out.p2]) (by rw [HM.out.p2]) hFts (fun z hz => by simp only [List.mem_cons, List.not_mem_nil, or_false] at hz; rcases hz with rfl | rfl; show K ≤ _; omega; decide) (n := 2) rfl _ _ _ _ _ _ _ (HE5.out.later hx1) hx2 (Nat.le_refl _)).mono fun e w' h => h⟩
  obtain ⟨Af6, cf6, Al6, cl6, Ab6, cb6, rfl, -⟩ := hV0
  clear hX0
  repeat ((first | refine flow_calm (fun K hK => ?_) | refine flow_free (fun K hK => ?_) | refine float_calm (fun K hK => ?_) | refine float_free (fun K hK => ?_)); go_simp; first | (refine hK _ ?_; clear hK K) | (apply Exists.intro; (refine ⟨fun X => ?_, hK _ ?_⟩); (first | (intro hC; rfl) | rfl | (intro hC; skip; go_simp; done) | (intro hC; skip; go_simp; rfl)); clear hK K))
  refine float_land (fun v X0 hX0 hV0 => ?_)
  obtain ⟨B6, rfl, -, -⟩ := hV0
  clear hX0
  refine flow_fence rfl (fun X hX K' hK => ?_)
  obtain ⟨⟨⟨hx1, -⟩, ⟨_, _, _, _, _, _, e2, hx4, hx5, hx6⟩⟩, ⟨B, e1, hx2, hx3⟩⟩ := hX.out
  cases e1
  cases e2
  have x0 := hx3.cell 0 _ rfl
  have x1 := hx3.cell 1 _ rfl
  have x2 := hx3.frozen 0
  have x3 := hx3.frozen 1
  go_simp
  obtain ⟨y1, y2, y3⟩ := box_put hx1 hx2 hx3 (.slice Af6 x.files.length cf6) (.slice Al6 x.list.length cl6)
  refine hK.out _ _ (fun Z => Below w5.heap.size w5 Z ∧ Cells Z B6 #[.slice Af6 x.files.length cf6, .slice Al6 x.list.length cl6] 33 ∧ DRows Z Af6 cf6 Al6 cl6 x ∧ Kd.C Kd.bool Z Ab6 2 [done, true]) (fun Z => Below w5.heap.size w5 Z ∧ Cells Z B6 #[.slice Af6 x.files.length cf6, .slice Al6 x.list.length cl6] 33 ∧ DRows Z Af6 cf6 Al6 cl6 x ∧ Kd.C Kd.bool Z Ab6 2 [done, true]) (fun Z Z' hZ hb => ⟨below_step hZ.1 hb, hZ.2.1.later hb, hZ.2.2.1.later hb, Kd.C_below hZ.2.2.2 hb⟩) (fun _ h => h) ⟨y1, y2, hx4.off hx3 y3, bools_off hx5 hx3 y3⟩ ?_
  clear hK K' hX x0 x1 x2 x3 y1 y2 y3 hx1 hx2 hx3 hx4 hx5 X
  repeat ((first | refine flow_calm (fun K hK => ?_) | refine flow_free (fun K hK => ?_) | refine float_calm (fun K hK => ?_) | refine float_free (fun K hK => ?_)); go_simp; first | (refine hK _ ?_; clear hK K) | (apply Exists.intro; (refine ⟨fun X => ?_, hK _ ?_⟩); (first | (intro hC; rfl) | rfl | (intro hC; skip; go_simp; done) | (intro hC; skip; go_simp; rfl)); clear hK K))
  refine flow_nil ?_
  intro w6 hX
  obtain ⟨hb6, hc6, hd6, ho6⟩ := hX.out
  clear hX hx6
  have HC6 := Lib.hid (HC5.out.later hb6)
  have HB6 := Lib.hid (below_step HB5.out hb6)
  have C6 := Lib.hid (cell_keep hb6 C5.out)
  have HS6 := Lib.hid (HS5.out.later hb6)
  have HX6 := Lib.hid (HX5.out.later hb6)
  have HE6 := Lib.hid (HE5.out.later hb6)
  have HY6 := Lib.hid hc6
  have HG6 := Lib.hid hd6
  obtain ⟨xb, ab, -, -, hxb, rfl, y5⟩ := bool_at ho6 0 (by decide)
  obtain rfl : done = xb := Option.some.inj hxb
  replace y5 : w6.cell? ab = _ := y5
  have HY5 := Lib.hid y5
  clear hb6 hc6 hd6 ho6 hxb y5 HC5 HB5 HS5 HX5 HE5 C5
  go_upto_region 6 with fail
  have hcases : (decide (K + 1 < (d.list.length : Int) - 1) = false ∧ done = false) ∨ (decide (K + 1 < (d.list.length : Int) - 1) = true ∧ decide (lastNo d < 9999) = false ∧ done = false) ∨ (decide (K + 1 < (d.list.length : Int) - 1) = true ∧ decide (lastNo d < 9999) = true ∧ done = true) := by
    rw [← Hdone.out]
    cases decide (K + 1 < (d.list.length : Int) - 1) <;> cases decide (lastNo d < 9999) <;> simp
  have hw7 : ∀ w7, Below w6.heap.size w6 w7 → True := fun _ _ => trivial
  clear hw7 Hdone
  rcases hcases with ⟨g1, hdv⟩ | ⟨g1, g2, hdv⟩ | ⟨g1, g2, hdv⟩
  all_goals
    subst hdv
    refine wp_region_flow [.free 0, .free 1, .free 2, .free 3, .free 4, .free 5, .free 6, .free 7, .free 8, .free 9, .free 10, .free 11, .calm 12, .calm 13, .free 14, .free 15, .free 16, .calm 17, .calm 18, .free 19, .free 20, .free 21, .free 22, .free 23, .calm 24, .free 25, .calm 26, .free 27, .free 28, .calm 29, .free 30, .free 31, .free 32, .free 33, .free 34, .calm 35, .free 36, .calm 37, .free 38, .free 39, .free 40, .free 41, .calm 42, .free 43, .free 44, .free 45, .free 46] (Below w6.heap.size w6) (Below w6.heap.size w6) (stable_below _ _ (Nat.le_refl _)) (fun _ h => h) (by kernel_rfl) (by kernel_rfl) (below_drew1 (Below.refl _ _)) ?_
    simp only [pickEnts, pickF, List.getElem?_cons_succ, List.getElem?_cons_zero, List.filterMap_cons, List.filterMap_nil, Option.map_some]
    repeat ((first | refine flow_calm (fun K hK => ?_) | refine flow_free (fun K hK => ?_) | refine float_calm (fun K hK => ?_) | refine float_free (fun K hK => ?_)); go_simp; (try simp only [Hwf.out]); first | (refine hK _ ?_; clear hK K) | (apply Exists.intro; (refine ⟨fun X => ?_, hK _ ?_⟩); (first | (intro hC; rfl) | rfl | (intro hC; have q := HY6.out.later hC.out; have q0 := q.cell 0 _ rfl; have q1 := q.cell 1 _ rfl; have p := HC6.out.later hC.out; have p0 := p.cell 0 _ rfl; have p1 := p.cell 1 _ rfl; have u := HS6.out.later hC.out; have u1 := u.cell 1 _ rfl; have z5 := cell_keep hC.out HY5.out; have c6 := cell_keep hC.out C6.out; (try simp only [Hwf.out]); go_simp; done) | (intro hC; have q := HY6.out.later hC.out; have q0 := q.cell 0 _ rfl; have q1 := q.cell 1 _ rfl; have p := HC6.out.later hC.out; have p0 := p.cell 0 _ rfl; have p1 := p.cell 1 _ rfl; have u := HS6.out.later hC.out; have u1 := u.cell 1 _ rfl; have z5 := cell_keep hC.out HY5.out; have c6 := cell_keep hC.out C6.out; (try simp only [Hwf.out]); go_simp; rfl) | (intro hC; (with_reducible refine (ref_Disk x _ _ _ _ _ (HG6.out.later hC.out) hFx).mono ?_); rintro e w' ⟨rfl, hb⟩; rw [Hxb.out]; exact ⟨rfl, hb⟩) | (intro hC; (with_reducible refine (ref_WholeOf x _ _ _ _ _ (HG6.out.later hC.out)).mono ?_); rintro e w' ⟨rfl, hb⟩; rw [HM.out.xw]; exact ⟨rfl, hb⟩)); clear hK K))
    refine flow_nil ?_
    intro w7 hX
    have hb7 := hX.out
    have HC7 := Lib.hid (HC6.out.later hb7)
    have HB7 := Lib.hid (below_step HB6.out hb7)
    have HS7 := Lib.hid (HS6.out.later hb7)
    have HX7 := Lib.hid (HX6.out.later hb7)
    have HE7 := Lib.hid (HE6.out.later hb7)
    have HY7 := Lib.hid (HY6.out.later hb7)
    have HG7 := Lib.hid (HG6.out.later hb7)
    have HZ7 := Lib.hid (cell_keep hb7 HY5.out)
    clear hX hb7 HC6 HB6 HS6 HX6 HE6 HY6 HG6 C6 HY5
    have x0 := HX7.out.cell 0 _ rfl
    have x1 := HX7.out.cell 1 _ rfl
    go_upto_region 10 with (first
      | (go_at_call 14; (with_reducible refine (kn_news_at Hsb.out rfl _ _ _ _ _ HE7.out).mono ?_); rintro e w8 ⟨A8, c8, rfl, h8, hc8, hb8⟩; have k8 := HY7.out.later hb8; have x80 := k8.cell 0 _ rfl; have x81 := k8.cell 1 _ rfl)
      | (go_at_call 14; (with_reducible refine (kn_news_at Hxb.out rfl _ _ _ _ _ (HG7.out.later hb8)).mono ?_); rintro e w9 ⟨A9, c9, rfl, h9, hc9, hb9⟩))
    have hb79 := below_step hb8 hb9
    have R8 := Lib.hid (Kd.C_below h8 hb9)
    have R9 := Lib.hid h9
    have HC9 := Lib.hid (HC7.out.later hb79)
    have HS9 := Lib.hid (HS7.out.later hb79)
    have HY9 := Lib.hid (HY7.out.later hb79)
    have HZ9 := Lib.hid (cell_keep hb79 HZ7.out)
    have HB9 := Lib.hid (below_step HB7.out hb79)
    clear x0 x1 x80 x81 k8 h8 h9 hb8 hb9 hb79 HC7 HB7 HS7 HX7 HE7 HY7 HG7 HZ7
    have hf1 : decide (((thereOf x).length : Int) ≤ (thereOf s).length) = true := decide_eq_true (by have := Hfew.out; omega)
    have hL := Hlist.out
    cases e1 : (ST != 1)
    all_goals
      have hL2 := hL
      simp only [e1, Bool.and_true, Bool.and_false, Bool.false_and, Bool.true_and, Bool.false_eq_true, eq_self, if_false, if_true] at hL2
      first
        | have zL : ((x.list.length : Int) == (d.list.length : Int)) = true := beq_iff_eq.2 (by omega)
        | have zL : ((x.list.length : Int) == (d.list.length : Int) - 1) = true := beq_iff_eq.2 (by omega)
      clear hL hL2
      have x0 := HC9.out.cell 1 _ rfl
      have u2 := HS9.out.cell 2 _ rfl
      have z5 := HZ9.out
      go_wp2_with (first
        | (go_at_call 31; (with_reducible refine (law_says (thereOf s) (thereOf x) _ _ _ _ _ R8.out R9.out hc8 hc9 (there_row_small HM.out.sok) (there_row_small HM.out.xok) (there_src HM.out.sok) (there_src HM.out.xok) HM.out.says).mono ?_); rintro e w10 ⟨rfl, hb10⟩)
        | (go_at_call 32; (with_reducible refine (ref_Formed (thereOf x) _ _ 4 _ (Kd.C_below R9.out hb10) hc9).mono ?_); rintro e w11 ⟨rfl, hb11⟩; rw [HM.out.xok.formed]; have y1 := (HY9.out.later (below_step hb10 hb11)).cell 1 _ rfl)
        | (go_at_call 13; (with_reducible refine (law_known _).mono ?_); rintro e w12 ⟨rfl, hb12⟩))
      go_ret
      exact ⟨rfl, below_step HB9.out (below_step (below_step hb10 hb11) hb12)⟩
end Go.Proofs.Ytfmojgdomficlaa
namespace Go.Proofs.Ytfmojgdomficlaa.SegMerged
open Go.ChangeShapes Go.WideShapes Go.ChangeAt Go.RowKit
open Go.ChangeMaps (open_string shut_string)
theorem own : ownKnob Try.prog.godebug = none := by kernel_rfl
theorem laidOut : laidOutB Try.prog = true := by kernel_rfl
set_option maxRecDepth 100000 in
theorem lifted (os : Os) (started : os.Started) (H : Type) (enc : TypeId × Value → H) :
    ReturnsInHanded {} Try.checked os 7 .any (Rows.segMergedSpec.pre6 enc Try.prog Try.f7 Rows.segMergedRow.domain false) (Rows.segMergedSpec.post enc Try.prog Try.f7 false true false false) := by
  refine returnsInHanded_of_change_sized (C := Try.checked) own started (by kernel_rfl) Try.func7
    (ChangeSpec.witness6 (enc := enc) (C := Try.checked) false ⟨#[], #[.agg #[.slice none 0 0, .slice none 0 0], .int .u8 0, .int .u8 0], []⟩ 8 (by kernel_rfl) (by kernel_rfl) (by kernel_rfl) (by kernel_rfl)) ?_
  intro W base args ds gs before hval0 hW hcnd hsz0 _
  have hsz : (DataW.weightsEach Try.prog (Try.f7.params.toList ++ Rows.segMergedSpec.plain.varTypes Try.prog) (ds ++ gs)).all (· ≤ reachBytes) = true := hsz0
  have hval : ∀ (j : Nat) t v, Try.f7.params[j]? = some t → args[j]? = some v → Value.okWide Try.prog W .any base t v := hval0
  have hW' := hW
  obtain ⟨p, q, hA0, hV, rfl, hfz, hnd⟩ := hW
  have hA : DataW.TrodAll enc Try.prog W 0 (fun _ => true) true Try.f7.params.toList args.toList ds p := hA0
  rw [Try.params7] at hA hval hsz
  obtain ⟨v0, vs0, d0, ds0, p0, q0, hargs, rfl, rfl, h0, r0⟩ := trodAll_cons hA
  obtain ⟨v1, vs1, d1, ds1, p1, q1, rfl, rfl, rfl, h1, r1⟩ := trodAll_cons r0
  obtain ⟨v2, vs2, d2, ds2, p2, q2, rfl, rfl, rfl, h2, r2⟩ := trodAll_cons r1
  obtain ⟨rfl, rfl, rfl⟩ := trodAll_nil r2
  obtain rfl : args = #[v0, v1, v2] := by cases args; simp_all
  obtain ⟨rfl, rfl⟩ := trodVars_none hV
  have k0 := h0
  have lt0 : ∀ x ∈ p0, x.block < W.heap.size := by obtain ⟨m, hm⟩ := k0; exact DataW.trod_lt m _ _ _ hm
  obtain ⟨D0, Af0, Al0, cf0, cl0, rfl, hd0, hi0⟩ := open_disk (hval 0 33 v0 rfl rfl) h0 (small_of hsz (j := 0) rfl rfl)
  obtain ⟨a1, rfl, rfl, rfl, w1⟩ := open_int Try.underlying5 (hval 1 5 v1 rfl rfl) h1
  obtain ⟨a2, rfl, rfl, rfl, w2⟩ := open_int Try.underlying5 (hval 2 5 v2 rfl rfl) h2
  clear hA0 hval0 hsz0 hsz
  refine (law_segmerged D0 Af0 Al0 cf0 cl0 a1 a2 W hd0 hi0 (u8_of w1) (u8_of w2)).mono fun e W' ⟨he, bel⟩ => ?_
  subst he
  exact ⟨_, rfl, _, _, _, [], _, [], hW', trodAll_mk1 (shut_bool Try.underlying4 _), (trodAll_cons_mk (Below.trod laidOut (by kernel_rfl) (of_decide_eq_true (by kernel_rfl)) k0 bel lt0) (trodAll_cons_mk (shut_int Try.underlying5 w1) (trodAll_cons_mk (shut_int Try.underlying5 w2) trodAll_mk0))), rfl, bel.frame _, fun h => by cases h⟩
theorem over : Rows.segMergedRow.holds Try.pinned (OpenSpec.ofChange Rows.segMergedSpec) :=
  OpenClaim.holds_of_wide 7 Try.f7 rfl rfl rfl rfl rfl rfl rfl ⟨rfl, rfl, rfl, rfl, rfl⟩ rfl rfl rfl rfl rfl (by kernel_rfl) Try.func7 (by kernel_rfl)
    (of_decide_eq_true (by kernel_rfl)) (by unfold Func.isWrapper; first | (rw [if_pos (by decide +kernel)]; kernel_rfl) | (rw [if_neg (by decide +kernel)]; exact ⟨rfl, rfl⟩))
    (fun os started H enc _ => lifted os started H enc)
end Go.Proofs.Ytfmojgdomficlaa.SegMerged
namespace Go.Proofs.Ytfmojgdomficlaa
/-- The row. -/
theorem SegMerged_holds : Rows.SegMergedSaid := SegMerged.over
#print axioms SegMerged_holds
end Go.Proofs.Ytfmojgdomficlaa
