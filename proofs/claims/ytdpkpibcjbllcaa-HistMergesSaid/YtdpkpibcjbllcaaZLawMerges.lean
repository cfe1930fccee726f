/-
  Texts of one hand, laid together: LawMerges.
-/
import Derived.Test.YtdpkpibcjbllcaaZP
import Derived.Test.YtdpkpibcjbllcaaZH
import Derived.Test.YtdpkpibcjbllcaaRows
import Derived.ProofKit
import Derived.OpenShut
import Derived.ShutString
import Derived.ChangeOld
import Derived.SizedLaws
set_option linter.unusedVariables false
set_option linter.unusedSimpArgs false
/-! HistMerges. -/
namespace Go.Proofs.Ytdpkpibcjbllcaa
open Go.RowKit Go.Proofs.YtdpkpibcjbllcaaW.PrintWords

set_option maxRecDepth 100000 in
set_option maxHeartbeats 4000000 in
theorem law_merges (l : List News) (A : Option Addr) (ca : Nat) (m : List News) (B : Option Addr) (cb : Nat) (srcs : Int) (w : World) (hr : NewsRow w A l.length l) (hc : l.length ≤ ca) (hz : l.length * 56 ≤ 140737488351232) (hr2 : NewsRow w B m.length m) (hc2 : m.length ≤ cb) (hz2 : m.length * 56 ≤ 140737488351232) :
    Calls Try.prog 11 #[.slice A l.length ca, .slice B m.length cb, .int .i64 srcs] w fun e w' => e = .returned (.bool true) ∧ Below w.heap.size w w' := by
  have h1 := fun (W : World) (A B : Option Addr) (ca cb : Nat) (hr : NewsRow W A l.length l) (hr2 : NewsRow W B m.length m) (hc : l.length ≤ ca) (hc2 : m.length ≤ cb) => hist_Merge l m A B ca cb srcs W hr hr2 hc hc2
  have h2 := fun (W : World) (h : Below w.heap.size w W) => ref_Merge l m A B ca cb srcs W (news_later hr h) (news_later hr2 h) hc hc2
  have h3 := fun (W : World) (A B : Option Addr) (ca cb : Nat) (hr : NewsRow W A l.length l) (hr2 : NewsRow W B m.length m) (hc : l.length ≤ ca) (hc2 : m.length ≤ cb) => hist_Same' l m A B ca cb srcs W hr hc hr2 hc2
  have h4 := fun (W : World) (h : Below w.heap.size w W) => ref_Same l m A B ca cb srcs W (news_later hr h) hc (news_later hr2 h) hc2
  obtain ⟨zs, hzs⟩ : ∃ zs, (mergeR l m srcs).1 = zs := ⟨_, rfl⟩
  obtain ⟨en, hen⟩ : ∃ en, (mergeR l m srcs).2 = en := ⟨_, rfl⟩
  obtain ⟨sb, hsb⟩ : ∃ sb, (sameR l m srcs).1 = sb := ⟨_, rfl⟩
  obtain ⟨sn, hsn⟩ : ∃ sn, (sameR l m srcs).2 = sn := ⟨_, rfl⟩
  rw [hzs, hen] at h1 h2
  rw [hsb, hsn] at h3 h4
  have H1 := Lib.hid h1
  have H2 := Lib.hid h2
  have H3 := Lib.hid h3
  have H4 := Lib.hid h4
  have Hr := Lib.hid hr
  have Hr2 := Lib.hid hr2
  clear h1 h2 h3 h4 hzs hen hsb hsn hr hr2
  go_enter Try.func11, Try.ntmps11
  go_upto_region 2 with (first
    | (at_builtin; refine Kd.R_append_rows kNews (w0 := w) w.heap.size rfl (.const (.slice none 0 0)) (.tmp 17) 22 38 (.agg #[(.int .i64 0), (.int .i64 0), (.int .i64 0), (.int .i64 0), (.int .i64 0), (.int .i64 0), (.int .i64 0)]) 56 rfl Try.underlying22 info_news rfl (by decide) (by omega) (.slice none 0 0) [] l _ _ _ (fun _ => True) (fun _ => False) rfl rfl ?aO ?aR (fun _ _ h => h) (fun _ h => h.elim) ?aF ?aB ?aS ?aL ?_; (case aO => exact Kd.R_nil _ _ _ _ _); (case aR => exact Hr.out); (case aF => exact (fun _ _ => trivial)); (case aB => exact Below.refl _ _); (case aS => exact Nat.le_refl _); (case aL => (rw [List.length_nil]; omega)); intro v7 w7 ho7 hb7 hg7 hat7; rw [List.nil_append] at ho7; have hb7n := below_nil hg7; obtain ⟨A7, c7, rfl, hc7, hr7⟩ := own_reads' ho7; have Hr7 := Lib.hid hr7; clear ho7 hr7 hg7 hat7)
    | (at_builtin; refine Kd.R_append_rows kNews (w0 := w) w.heap.size rfl (.const (.slice none 0 0)) (.tmp 19) 22 38 (.agg #[(.int .i64 0), (.int .i64 0), (.int .i64 0), (.int .i64 0), (.int .i64 0), (.int .i64 0), (.int .i64 0)]) 56 rfl Try.underlying22 info_news rfl (by decide) (by omega) (.slice none 0 0) [] m _ _ _ (fun _ => True) (fun _ => False) rfl rfl ?aO ?aR (fun _ _ h => h) (fun _ h => h.elim) ?aF ?aB ?aS ?aL ?_; (case aO => exact Kd.R_nil _ _ _ _ _); (case aR => exact (news_later Hr2.out hb7n)); (case aF => exact (fun _ _ => trivial)); (case aB => exact hb7); (case aS => exact (hb7).size); (case aL => (rw [List.length_nil]; omega)); intro v8 w8 ho8 hb8 hg8 hat8; rw [List.nil_append] at ho8; obtain ⟨A8, c8, rfl, hc8, hr8⟩ := own_reads' ho8))
  have HR7 := Lib.hid (Kd.C_below Hr7.out (below_nil hg8))
  have HR8 := Lib.hid hr8
  clear Hr7 hr8 ho8 hg8 hat8
  go_upto_region 3 with (go_at_call 37; (with_reducible refine (H1.out _ _ _ _ _ HR7.out HR8.out hc7 hc8).mono ?_); rintro e w1 ⟨A9, c9, rfl, hO9, hb9⟩)
  have HR9 := Lib.hid (own_readsS hO9)
  have HR71 := Lib.hid (news_later HR7.out hb9)
  have HR81 := Lib.hid (news_later HR8.out hb9)
  have hB1 := below_trans hb8 (below_lower hb9 hb8.size)
  clear hO9 HR7 HR8
  go_upto_region 4 with (go_at_call 38; (with_reducible refine (H2.out _ hB1).mono ?_); rintro e w2 ⟨A11, c11, rfl, hO11, hb11⟩)
  have HR11 := Lib.hid (own_readsS hO11)
  have HR92 := Lib.hid (news_later HR9.out hb11)
  have HR72 := Lib.hid (news_later HR71.out hb11)
  have HR82 := Lib.hid (news_later HR81.out hb11)
  have hB2 := below_trans hB1 (below_lower hb11 hB1.size)
  clear hO11 HR71 HR81 HR9
  go_upto_region 5 with (go_at_call 36; (with_reducible refine (H3.out _ _ _ _ _ HR72.out HR82.out hc7 hc8).mono ?_); rintro e w3 ⟨rfl, hb13⟩)
  have hB3 := below_trans hB2 (below_lower hb13 hB2.size)
  go_upto_region 6 with (go_at_call 39; (with_reducible refine (H4.out _ hB3).mono ?_); rintro e w4 ⟨rfl, hb15⟩)
  have hB4 := below_trans hB3 (below_lower hb15 hB3.size)
  have hb24 := below_step hb13 hb15
  have HR93 := Lib.hid (news_later HR92.out hb24)
  have HR113 := Lib.hid (news_later HR11.out hb24)
  have HR73 := Lib.hid (news_later HR72.out hb24)
  have HR83 := Lib.hid (news_later HR82.out hb24)
  have Hrl := Lib.hid (news_later Hr.out hB4)
  have Hrm := Lib.hid (news_later Hr2.out hB4)
  clear HR92 HR11 HR72 HR82 H1 H2 H3 H4 Hr Hr2
  go_wp2_with (first
    | (go_at_call 23; (with_reducible refine (same_news_self zs _ _ _ _ _ HR93.out HR113.out).mono ?_); rintro e w5 ⟨rfl, hb5⟩; have HR74 := Lib.hid (news_later HR73.out hb5); have HR84 := Lib.hid (news_later HR83.out hb5); have Hrl4 := Lib.hid (news_later Hrl.out hb5); have Hrm4 := Lib.hid (news_later Hrm.out hb5); clear HR93)
    | (go_at_call 23; (with_reducible refine (same_news_self l _ _ _ _ _ HR74.out Hrl4.out).mono ?_); rintro e w6 ⟨rfl, hb6⟩; have HR85 := Lib.hid (news_later HR84.out hb6); have Hrm5 := Lib.hid (news_later Hrm4.out hb6); clear HR74)
    | (go_at_call 23; (with_reducible refine (same_news_self m _ _ _ _ _ HR85.out Hrm5.out).mono ?_); rintro e w7 ⟨rfl, hb7⟩)
    | (go_at_call 18; (with_reducible refine (known_true _).mono ?_); rintro e w8 ⟨rfl, hb8'⟩))
  go_ret
  exact ⟨rfl, below_step (below_step (below_step (below_step hB4 hb5) hb6) hb7) hb8'⟩
end Go.Proofs.Ytdpkpibcjbllcaa
namespace Go.Proofs.Ytdpkpibcjbllcaa.HistMerges
open Go.ChangeShapes Go.WideShapes Go.ChangeAt Go.RowKit
open Go.ChangeMaps (open_string shut_string)
theorem own : ownKnob Try.prog.godebug = none := by kernel_rfl
theorem laidOut : laidOutB Try.prog = true := by kernel_rfl
set_option maxRecDepth 100000 in
theorem lifted (os : Os) (started : os.Started) (H : Type) (enc : TypeId × Value → H) :
    ReturnsInHanded {} Try.checked os 11 .any (Rows.histMergesSpec.pre6 enc Try.prog Try.f11 Rows.histMergesRow.domain false) (Rows.histMergesSpec.post enc Try.prog Try.f11 false true false false) := by
  refine returnsInHanded_of_change_sized (C := Try.checked) own started (by kernel_rfl) Try.func11
    (ChangeSpec.witness6 (enc := enc) (C := Try.checked) false ⟨#[], #[.slice none 0 0, .slice none 0 0, .int .i64 0], []⟩ 8 (by kernel_rfl) (by kernel_rfl) (by kernel_rfl) (by kernel_rfl)) ?_
  intro W base args ds gs before hval0 hW hcnd hsz0 _
  have hsz : (DataW.weightsEach Try.prog (Try.f11.params.toList ++ Rows.histMergesSpec.plain.varTypes Try.prog) (ds ++ gs)).all (· ≤ reachBytes) = true := hsz0
  have hval : ∀ (j : Nat) t v, Try.f11.params[j]? = some t → args[j]? = some v → Value.okWide Try.prog W .any base t v := hval0
  have hW' := hW
  obtain ⟨p, q, hA0, hV, rfl, hfz, hnd⟩ := hW
  have hA : DataW.TrodAll enc Try.prog W 0 (fun _ => true) true Try.f11.params.toList args.toList ds p := hA0
  rw [Try.params11] at hA hval hsz
  obtain ⟨v0, vs0, d0, ds0, p0, q0, hargs, rfl, rfl, h0, r0⟩ := trodAll_cons hA
  obtain ⟨v1, vs1, d1, ds1, p1, q1, rfl, rfl, rfl, h1, r1⟩ := trodAll_cons r0
  obtain ⟨v2, vs2, d2, ds2, p2, q2, rfl, rfl, rfl, h2, r2⟩ := trodAll_cons r1
  obtain ⟨rfl, rfl, rfl⟩ := trodAll_nil r2
  obtain rfl : args = #[v0, v1, v2] := by cases args; simp_all
  obtain ⟨rfl, rfl⟩ := trodVars_none hV
  obtain ⟨a0, len0, cap0, rfl⟩ := okWide_slice Try.underlying22 (hval 0 22 v0 rfl rfl)
  have k0 := h0
  have lt0 : ∀ x ∈ p0, x.block < W.heap.size := by obtain ⟨m, hm⟩ := k0; exact DataW.trod_lt m _ _ _ hm
  have y0 := sized_news hsz (j := 0) rfl rfl h0
  have w0 : len0 ≤ cap0 ∧ ∃ l, l.length = len0 ∧ NewsRow W a0 l.length l := by
    obtain ⟨fuel, hf⟩ := h0
    obtain ⟨A, len, cap, l, hcs, hlc, hl, hr⟩ := open_newsrow hf
    simp [Value.cells] at hcs
    obtain ⟨rfl, rfl, rfl⟩ := hcs
    exact ⟨hlc, l, hl, hr⟩
  obtain ⟨hc0, l0, rfl, hr0⟩ := w0
  obtain ⟨a1, len1, cap1, rfl⟩ := okWide_slice Try.underlying22 (hval 1 22 v1 rfl rfl)
  have k1 := h1
  have lt1 : ∀ x ∈ p1, x.block < W.heap.size := by obtain ⟨m, hm⟩ := k1; exact DataW.trod_lt m _ _ _ hm
  have y1 := sized_news hsz (j := 1) rfl rfl h1
  have w1 : len1 ≤ cap1 ∧ ∃ l, l.length = len1 ∧ NewsRow W a1 l.length l := by
    obtain ⟨fuel, hf⟩ := h1
    obtain ⟨A, len, cap, l, hcs, hlc, hl, hr⟩ := open_newsrow hf
    simp [Value.cells] at hcs
    obtain ⟨rfl, rfl, rfl⟩ := hcs
    exact ⟨hlc, l, hl, hr⟩
  obtain ⟨hc1, l1, rfl, hr1⟩ := w1
  obtain ⟨a2, rfl, rfl, rfl, w2⟩ := open_int Try.underlying3 (hval 2 3 v2 rfl rfl) h2
  clear hA0 hval0 hsz0 hsz
  refine (law_merges l0 a0 cap0 l1 a1 cap1 a2 W hr0 hc0 y0 hr1 hc1 y1).mono fun e W' ⟨he, bel⟩ => ?_
  subst he
  exact ⟨_, rfl, _, _, _, [], _, [], hW', trodAll_mk1 (shut_bool Try.underlying4 _), (trodAll_cons_mk (Below.trod laidOut (by kernel_rfl) (of_decide_eq_true (by kernel_rfl)) k0 bel lt0) (trodAll_cons_mk (Below.trod laidOut (by kernel_rfl) (of_decide_eq_true (by kernel_rfl)) k1 bel lt1) (trodAll_cons_mk (shut_int Try.underlying3 w2) trodAll_mk0))), rfl, bel.frame _, fun h => by cases h⟩
theorem over : Rows.histMergesRow.holds Try.pinned (OpenSpec.ofChange Rows.histMergesSpec) :=
  OpenClaim.holds_of_wide 11 Try.f11 rfl rfl rfl rfl rfl rfl rfl ⟨rfl, rfl, rfl, rfl, rfl⟩ rfl rfl rfl rfl rfl (by kernel_rfl) Try.func11 (by kernel_rfl)
    (of_decide_eq_true (by kernel_rfl)) (by unfold Func.isWrapper; first | (rw [if_pos (by decide +kernel)]; kernel_rfl) | (rw [if_neg (by decide +kernel)]; exact ⟨rfl, rfl⟩))
    (fun os started H enc _ => lifted os started H enc)
end Go.Proofs.Ytdpkpibcjbllcaa.HistMerges
namespace Go.Proofs.Ytdpkpibcjbllcaa
/-- The row. -/
theorem HistMerges_holds : Rows.HistMergesSaid := HistMerges.over
#print axioms HistMerges_holds
end Go.Proofs.Ytdpkpibcjbllcaa
