/-
  Texts of one hand, laid together: LawKeeps.
-/
import Derived.Test.YtdpkpibcjbllcaaZI
import Derived.Test.YtdpkpibcjbllcaaZK
import Derived.Test.YtdpkpibcjbllcaaZH
import Derived.Test.YtdpkpibcjbllcaaRows
import Derived.ProofKit
import Derived.OpenShut
import Derived.ShutString
import Derived.ChangeOld
import Derived.SizedLaws
set_option linter.unusedVariables false
set_option linter.unusedSimpArgs false
/-! HistKeeps. -/
namespace Go.Proofs.Ytdpkpibcjbllcaa
open Go.RowKit Go.Proofs.YtdpkpibcjbllcaaW.PrintWords

theorem ref_LateOf (l : List News) (A : Option Addr) (c : Nat) (srcs : Int) (w : World) (hr : NewsRow w A l.length l) (hc : l.length ≤ c) (hf : formedB l srcs = true) :
    Calls Try.prog 57 #[.slice A l.length c, .int .i64 srcs] w (OwnPost (Kd.int .i64) 3 w (lateOf l)) := by
  have hp := formedB_plain hf
  obtain ⟨⟨h1, h4⟩, hl, _⟩ := plainB_src hp
  have hs := plainB_srcs hp
  obtain ⟨N, rfl⟩ : ∃ N : Nat, srcs = (N : Int) := ⟨srcs.toNat, by omega⟩
  exact ref_LateOfN l A c N w hr hc hl (by omega) (by omega) hs
set_option maxRecDepth 100000 in
set_option maxHeartbeats 1000000 in
theorem ref_Late (l : List News) (A : Option Addr) (c : Nat) (srcs : Int) (w : World) (hr : NewsRow w A l.length l) (hc : l.length ≤ c) :
    Calls Try.prog 25 #[.slice A l.length c, .int .i64 srcs] w (MarksRes (formedB l srcs) (lateOf l) w) := by
  have Hr := Lib.hid hr
  clear hr
  cases hf : formedB l srcs
  · go_enter Try.func25, Try.ntmps25
    go_wp2_with (first | (go_at_call 28; (with_reducible refine (ref_Formed l A c srcs _ Hr.out hc).mono ?_); rintro e w' ⟨rfl, hb⟩))
    go_ret2
    exact ⟨_, rfl, Kd.R_nil _ _ _ _ _, hb⟩
  · have Hf := Lib.hid hf
    generalize hmo : lateOf l = mo
    have Hmo := Lib.hid hmo
    clear hmo
    go_enter Try.func25, Try.ntmps25
    go_wp2_with (first
      | (go_at_call 28; (with_reducible refine (ref_Formed l A c srcs _ Hr.out hc).mono ?_); rintro e w' ⟨rfl, hb⟩)
      | (go_at_call 57; (with_reducible refine (ref_LateOf l A c srcs _ (news_later Hr.out hb) hc Hf.out).mono ?_); rintro e w2 ⟨v, rfl, hO, hb2⟩; rw [Hmo.out] at hO))
    go_ret2
    exact ⟨v, rfl, own_lower hO hb.size, below_step hb hb2⟩
set_option maxRecDepth 100000 in
set_option maxHeartbeats 1000000 in
theorem ref_Keeps (l : List News) (A : Option Addr) (c : Nat) (srcs : Int) (w : World) (hr : NewsRow w A l.length l) (hc : l.length ≤ c) :
    Calls Try.prog 27 #[.slice A l.length c, .int .i64 srcs] w fun e w' => e = .returned (.tuple #[.bool (formedB l srcs && decide ((lateOf l).length = 0)), .int .i64 (if formedB l srcs then 0 else 2)]) ∧ Below w.heap.size w w' := by
  have Hr := Lib.hid hr
  clear hr
  cases hf : formedB l srcs
  · go_enter Try.func27, Try.ntmps27
    go_wp2_with (first | (go_at_call 28; (with_reducible refine (ref_Formed l A c srcs _ Hr.out hc).mono ?_); rintro e w' ⟨rfl, hb⟩))
    go_ret2
    exact ⟨rfl, hb⟩
  · have Hf := Lib.hid hf
    generalize hmo : lateOf l = mo
    have Hmo := Lib.hid hmo
    clear hmo
    cases hz : decide (mo.length = 0)
    all_goals
      have hz' : ((mo.length : Int) == 0) = decide (mo.length = 0) := by rw [Bool.eq_iff_iff]; simp
      rw [hz] at hz'
      go_enter Try.func27, Try.ntmps27
      go_wp2_with (first
        | (go_at_call 28; (with_reducible refine (ref_Formed l A c srcs _ Hr.out hc).mono ?_); rintro e w' ⟨rfl, hb⟩)
        | (go_at_call 57; (with_reducible refine (ref_LateOf l A c srcs _ (news_later Hr.out hb) hc Hf.out).mono ?_); rintro e w2 ⟨v, rfl, hO, hb2⟩; rw [Hmo.out] at hO; obtain ⟨A2, c2, rfl, _, _⟩ := own_reads' hO))
      go_ret2
      exact ⟨by simp [hz, hz'], below_step hb hb2⟩
theorem hist_Late' (l : List News) (A : Option Addr) (c : Nat) (srcs : Int) (w : World) (hr : NewsRow w A l.length l) (hc : l.length ≤ c) :
    Calls Try.prog 24 #[.slice A l.length c, .int .i64 srcs] w (RowE (Kd.int .i64) 3 (if formedB l srcs then lateOf l else []) (if formedB l srcs then 0 else 2) w) := by
  refine (hist_Late l A c srcs w hr hc).mono ?_
  rintro e w' ⟨v, rfl, hO, hb⟩
  exact RowE.of hO hb
theorem ref_Late' (l : List News) (A : Option Addr) (c : Nat) (srcs : Int) (w : World) (hr : NewsRow w A l.length l) (hc : l.length ≤ c) :
    Calls Try.prog 25 #[.slice A l.length c, .int .i64 srcs] w (RowE (Kd.int .i64) 3 (if formedB l srcs then lateOf l else []) (if formedB l srcs then 0 else 2) w) := by
  refine (ref_Late l A c srcs w hr hc).mono ?_
  rintro e w' ⟨v, rfl, hO, hb⟩
  exact RowE.of hO hb
set_option maxRecDepth 100000 in
set_option maxHeartbeats 1000000 in
theorem law_keeps (l : List News) (A : Option Addr) (c : Nat) (srcs : Int) (w : World) (hr : NewsRow w A l.length l) (hc : l.length ≤ c) (hz : l.length * 56 ≤ 140737488351232) :
    Calls Try.prog 6 #[.slice A l.length c, .int .i64 srcs] w fun e w' => e = .returned (.bool true) ∧ Below w.heap.size w w' := by
  have h1 := fun (W : World) (h : Below w.heap.size w W) => hist_Late' l A c srcs W (news_later hr h) hc
  have h2 := fun (W : World) (h : Below w.heap.size w W) => ref_Late' l A c srcs W (news_later hr h) hc
  have h3 := fun (W : World) (h : Below w.heap.size w W) => hist_Keeps l A c srcs W (news_later hr h) hc
  have h4 := fun (W : World) (h : Below w.heap.size w W) => ref_Keeps l A c srcs W (news_later hr h) hc
  obtain ⟨b, hb⟩ : ∃ b, (formedB l srcs && decide ((lateOf l).length = 0)) = b := ⟨_, rfl⟩
  obtain ⟨ms, hms⟩ : ∃ xs, (if formedB l srcs then lateOf l else []) = xs := ⟨_, rfl⟩
  obtain ⟨en, hen⟩ : ∃ f : Int, (if formedB l srcs then 0 else 2) = f := ⟨_, rfl⟩
  rw [hms, hen] at h1 h2
  rw [hb, hen] at h3 h4
  have H1 := Lib.hid h1
  have H2 := Lib.hid h2
  have H3 := Lib.hid h3
  have H4 := Lib.hid h4
  clear h1 h2 h3 h4 hb hms hen hr hz
  go_enter Try.func6, Try.ntmps6
  go_wp2_with (first
    | (go_at_call 24; (with_reducible refine (H1.out _ (Below.refl _ _)).mono ?_); rintro e w1 ⟨A1, c1, rfl, hr1, hb1⟩)
    | (go_at_call 25; (with_reducible refine (H2.out _ hb1).mono ?_); rintro e w2 ⟨A2, c2, rfl, hr2, hb2⟩; have hB2 := below_step hb1 hb2; have hr12 := Lib.hid (Kd.C_below hr1 hb2); have hr22 := Lib.hid hr2; clear hr1 hr2)
    | (go_at_call 26; (with_reducible refine (H3.out _ hB2).mono ?_); rintro e w3 ⟨rfl, hb3⟩; have hB3 := below_step hB2 hb3)
    | (go_at_call 27; (with_reducible refine (H4.out _ hB3).mono ?_); rintro e w4 ⟨rfl, hb4⟩; have hB4 := below_step hB3 hb4; have hr14 := Lib.hid (Kd.C_below (Kd.C_below hr12.out hb3) hb4); have hr24 := Lib.hid (Kd.C_below (Kd.C_below hr22.out hb3) hb4))
    | (go_at_call 17; (with_reducible refine (same_ints_self ms _ _ _ _ _ hr14.out hr24.out).mono ?_); rintro e w6 ⟨rfl, hb6⟩; have hB6 := below_step hB4 hb6)
    | (go_at_call 18; (with_reducible refine (known_true _).mono ?_); rintro e w7 ⟨rfl, hb7⟩))
  go_ret
  exact ⟨rfl, below_step hB6 hb7⟩
end Go.Proofs.Ytdpkpibcjbllcaa
namespace Go.Proofs.Ytdpkpibcjbllcaa.HistKeeps
open Go.ChangeShapes Go.WideShapes Go.ChangeAt Go.RowKit
open Go.ChangeMaps (open_string shut_string)
theorem own : ownKnob Try.prog.godebug = none := by kernel_rfl
theorem laidOut : laidOutB Try.prog = true := by kernel_rfl
set_option maxRecDepth 100000 in
theorem lifted (os : Os) (started : os.Started) (H : Type) (enc : TypeId × Value → H) :
    ReturnsInHanded {} Try.checked os 6 .any (Rows.histKeepsSpec.pre6 enc Try.prog Try.f6 Rows.histKeepsRow.domain false) (Rows.histKeepsSpec.post enc Try.prog Try.f6 false true false false) := by
  refine returnsInHanded_of_change_sized (C := Try.checked) own started (by kernel_rfl) Try.func6
    (ChangeSpec.witness6 (enc := enc) (C := Try.checked) false ⟨#[], #[.slice none 0 0, .int .i64 0], []⟩ 8 (by kernel_rfl) (by kernel_rfl) (by kernel_rfl) (by kernel_rfl)) ?_
  intro W base args ds gs before hval0 hW hcnd hsz0 _
  have hsz : (DataW.weightsEach Try.prog (Try.f6.params.toList ++ Rows.histKeepsSpec.plain.varTypes Try.prog) (ds ++ gs)).all (· ≤ reachBytes) = true := hsz0
  have hval : ∀ (j : Nat) t v, Try.f6.params[j]? = some t → args[j]? = some v → Value.okWide Try.prog W .any base t v := hval0
  have hW' := hW
  obtain ⟨p, q, hA0, hV, rfl, hfz, hnd⟩ := hW
  have hA : DataW.TrodAll enc Try.prog W 0 (fun _ => true) true Try.f6.params.toList args.toList ds p := hA0
  rw [Try.params6] at hA hval hsz
  obtain ⟨v0, vs0, d0, ds0, p0, q0, hargs, rfl, rfl, h0, r0⟩ := trodAll_cons hA
  obtain ⟨v1, vs1, d1, ds1, p1, q1, rfl, rfl, rfl, h1, r1⟩ := trodAll_cons r0
  obtain ⟨rfl, rfl, rfl⟩ := trodAll_nil r1
  obtain rfl : args = #[v0, v1] := by cases args; simp_all
  obtain ⟨rfl, rfl⟩ := trodVars_none hV
  obtain ⟨a0, len0, cap0, rfl⟩ := okWide_slice Try.underlying22 (hval 0 22 v0 rfl rfl)
  have k0 := h0
  have lt0 : ∀ x ∈ p0, x.block < W.heap.size := by obtain ⟨m, hm⟩ := k0; exact DataW.trod_lt m _ _ _ hm
  have y0 := sized_news hsz (j := 0) rfl rfl h0
  have w0 : len0 ≤ cap0 ∧ ∃ l, l.length = len0 ∧ NewsRow W a0 l.length l := by
    obtain ⟨fuel, hf⟩ := h0
    obtain ⟨A, len, cap, l, hcs, hlc, hl, hr⟩ := open_newsrow hf
    simp [Value.cells] at hcs
    obtain ⟨rfl, rfl, rfl⟩ := hcs
    exact ⟨hlc, l, hl, hr⟩
  obtain ⟨hc0, l0, rfl, hr0⟩ := w0
  obtain ⟨a1, rfl, rfl, rfl, w1⟩ := open_int Try.underlying3 (hval 1 3 v1 rfl rfl) h1
  clear hA0 hval0 hsz0 hsz
  refine (law_keeps l0 a0 cap0 a1 W hr0 hc0 y0).mono fun e W' ⟨he, bel⟩ => ?_
  subst he
  exact ⟨_, rfl, _, _, _, [], _, [], hW', trodAll_mk1 (shut_bool Try.underlying4 _), (trodAll_cons_mk (Below.trod laidOut (by kernel_rfl) (of_decide_eq_true (by kernel_rfl)) k0 bel lt0) (trodAll_cons_mk (shut_int Try.underlying3 w1) trodAll_mk0)), rfl, bel.frame _, fun h => by cases h⟩
theorem over : Rows.histKeepsRow.holds Try.pinned (OpenSpec.ofChange Rows.histKeepsSpec) :=
  OpenClaim.holds_of_wide 6 Try.f6 rfl rfl rfl rfl rfl rfl rfl ⟨rfl, rfl, rfl, rfl, rfl⟩ rfl rfl rfl rfl rfl (by kernel_rfl) Try.func6 (by kernel_rfl)
    (of_decide_eq_true (by kernel_rfl)) (by unfold Func.isWrapper; first | (rw [if_pos (by decide +kernel)]; kernel_rfl) | (rw [if_neg (by decide +kernel)]; exact ⟨rfl, rfl⟩))
    (fun os started H enc _ => lifted os started H enc)
end Go.Proofs.Ytdpkpibcjbllcaa.HistKeeps
namespace Go.Proofs.Ytdpkpibcjbllcaa
/-- The row. -/
theorem HistKeeps_holds : Rows.HistKeepsSaid := HistKeeps.over
#print axioms HistKeeps_holds
end Go.Proofs.Ytdpkpibcjbllcaa
