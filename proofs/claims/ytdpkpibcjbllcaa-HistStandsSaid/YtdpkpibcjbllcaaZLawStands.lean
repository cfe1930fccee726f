/-
  Texts of one hand, laid together: LawStands.
-/
import Derived.Test.YtdpkpibcjbllcaaZG
import Derived.Test.YtdpkpibcjbllcaaZI
import Derived.Test.YtdpkpibcjbllcaaZH
import Derived.Test.YtdpkpibcjbllcaaRows
import Derived.ProofKit
import Derived.OpenShut
import Derived.ShutString
import Derived.ChangeOld
import Derived.SizedLaws
set_option linter.unusedVariables false
set_option linter.unusedSimpArgs false
/-! HistStands. -/
namespace Go.Proofs.Ytdpkpibcjbllcaa
open Go.RowKit Go.Proofs.YtdpkpibcjbllcaaW.PrintWords

/-- A row with an error's number: the row is xs. -/
def RowE {α : Type} (d : Kd α) (t : Nat) (xs : List α) (en : Int) (w : World) (e : Ending) (w' : World) : Prop := ∃ A c, e = .returned (.tuple #[.slice A xs.length c, .int .i64 en]) ∧ Kd.C d w' A xs.length xs ∧ Below w.heap.size w w'
theorem RowE.of {α : Type} {d : Kd α} {t : Nat} {xs : List α} {en : Int} {w w' : World} {v : Value} (hO : Own d t w' w.heap.size v xs) (hb : Below w.heap.size w w') : RowE d t xs en w (.returned (.tuple #[v, .int .i64 en])) w' := by
  obtain ⟨A, c, rfl, _, hr⟩ := own_reads' hO
  exact ⟨A, c, rfl, hr, hb⟩
theorem hist_Stands' (l : List News) (A : Option Addr) (c : Nat) (srcs : Int) (w : World) (hr : NewsRow w A l.length l) (hc : l.length ≤ c) :
    Calls Try.prog 12 #[.slice A l.length c, .int .i64 srcs] w (RowE kEvent 49 (if formedB l srcs then standsR l else []) (if formedB l srcs then 0 else 2) w) := by
  refine (hist_Stands l A c srcs w hr hc).mono ?_
  rintro e w' ⟨v, ys, rfl, hO, h1, h2, hb⟩
  have hy : ys = if formedB l srcs then standsR l else [] := by
    cases hf : formedB l srcs
    · exact h2 hf
    · exact stands_one l ys (h1 hf)
  rw [hy] at hO
  exact RowE.of hO hb
theorem ref_Stands' (l : List News) (A : Option Addr) (c : Nat) (srcs : Int) (w : World) (hr : NewsRow w A l.length l) (hc : l.length ≤ c) :
    Calls Try.prog 13 #[.slice A l.length c, .int .i64 srcs] w (RowE kEvent 49 (if formedB l srcs then standsR l else []) (if formedB l srcs then 0 else 2) w) := by
  refine (ref_Stands l A c srcs w hr hc).mono ?_
  rintro e w' ⟨v, rfl, hO, hb⟩
  exact RowE.of hO hb
theorem hist_Marks' (l : List News) (A : Option Addr) (c : Nat) (srcs : Int) (w : World) (hr : NewsRow w A l.length l) (hc : l.length ≤ c) :
    Calls Try.prog 14 #[.slice A l.length c, .int .i64 srcs] w (RowE (Kd.int .i64) 3 (if formedB l srcs then marksOf l srcs else []) (if formedB l srcs then 0 else 2) w) := by
  refine (hist_Marks l A c srcs w hr hc).mono ?_
  rintro e w' ⟨v, rfl, hO, hb⟩
  exact RowE.of hO hb
theorem ref_Marks' (l : List News) (A : Option Addr) (c : Nat) (srcs : Int) (w : World) (hr : NewsRow w A l.length l) (hc : l.length ≤ c) :
    Calls Try.prog 15 #[.slice A l.length c, .int .i64 srcs] w (RowE (Kd.int .i64) 3 (if formedB l srcs then marksOf l srcs else []) (if formedB l srcs then 0 else 2) w) := by
  refine (ref_Marks l A c srcs w hr hc).mono ?_
  rintro e w' ⟨v, rfl, hO, hb⟩
  exact RowE.of hO hb
theorem same_events_self (xs : List Event) (A B : Option Addr) (c1 c2 : Nat) (w : World) (h1 : Kd.C kEvent w A xs.length xs) (h2 : Kd.C kEvent w B xs.length xs) : Calls Try.prog 16 #[.slice A xs.length c1, .slice B xs.length c2] w fun e w' => e = .returned (.bool true) ∧ Below w.heap.size w w' := by
  refine (same_events xs xs A B c1 c2 w h1 h2).mono ?_
  rintro e w' ⟨rfl, hb⟩
  exact ⟨by simp, hb⟩
theorem same_ints_self (xs : List Int) (A B : Option Addr) (c1 c2 : Nat) (w : World) (h1 : Kd.C (Kd.int .i64) w A xs.length xs) (h2 : Kd.C (Kd.int .i64) w B xs.length xs) : Calls Try.prog 17 #[.slice A xs.length c1, .slice B xs.length c2] w fun e w' => e = .returned (.bool true) ∧ Below w.heap.size w w' := by
  refine (same_ints xs xs A B c1 c2 w h1 h2).mono ?_
  rintro e w' ⟨rfl, hb⟩
  exact ⟨by simp, hb⟩
set_option maxRecDepth 100000 in
set_option maxHeartbeats 1000000 in
theorem law_stands (l : List News) (A : Option Addr) (c : Nat) (srcs : Int) (w : World) (hr : NewsRow w A l.length l) (hc : l.length ≤ c) :
    Calls Try.prog 3 #[.slice A l.length c, .int .i64 srcs] w fun e w' => e = .returned (.bool true) ∧ Below w.heap.size w w' := by
  have h1 := fun (W : World) (h : Below w.heap.size w W) => hist_Stands' l A c srcs W (news_later hr h) hc
  have h2 := fun (W : World) (h : Below w.heap.size w W) => ref_Stands' l A c srcs W (news_later hr h) hc
  have h3 := fun (W : World) (h : Below w.heap.size w W) => hist_Marks' l A c srcs W (news_later hr h) hc
  have h4 := fun (W : World) (h : Below w.heap.size w W) => ref_Marks' l A c srcs W (news_later hr h) hc
  obtain ⟨xs, hxs⟩ : ∃ xs, (if formedB l srcs then standsR l else []) = xs := ⟨_, rfl⟩
  obtain ⟨ms, hms⟩ : ∃ xs, (if formedB l srcs then marksOf l srcs else []) = xs := ⟨_, rfl⟩
  obtain ⟨en, hen⟩ : ∃ f : Int, (if formedB l srcs then 0 else 2) = f := ⟨_, rfl⟩
  rw [hxs, hen] at h1 h2
  rw [hms, hen] at h3 h4
  have H1 := Lib.hid h1
  have H2 := Lib.hid h2
  have H3 := Lib.hid h3
  have H4 := Lib.hid h4
  clear h1 h2 h3 h4 hxs hms hen hr
  go_enter Try.func3, Try.ntmps3
  go_wp2_with (first
    | (go_at_call 12; (with_reducible refine (H1.out _ (Below.refl _ _)).mono ?_); rintro e w1 ⟨A1, c1, rfl, hr1, hb1⟩)
    | (go_at_call 13; (with_reducible refine (H2.out _ hb1).mono ?_); rintro e w2 ⟨A2, c2, rfl, hr2, hb2⟩; have hB2 := below_step hb1 hb2; have hr12 := Lib.hid (Kd.C_below hr1 hb2); have hr22 := Lib.hid hr2; clear hr1 hr2)
    | (go_at_call 14; (with_reducible refine (H3.out _ hB2).mono ?_); rintro e w3 ⟨A3, c3, rfl, hr3, hb3⟩; have hB3 := below_step hB2 hb3; have hr33 := Lib.hid hr3; clear hr3)
    | (go_at_call 15; (with_reducible refine (H4.out _ hB3).mono ?_); rintro e w4 ⟨A4, c4, rfl, hr4, hb4⟩; have hB4 := below_step hB3 hb4; have hr44 := Lib.hid hr4; clear hr4; have hr14 := Lib.hid (Kd.C_below (Kd.C_below hr12.out hb3) hb4); have hr24 := Lib.hid (Kd.C_below (Kd.C_below hr22.out hb3) hb4); have hr34 := Lib.hid (Kd.C_below hr33.out hb4))
    | (go_at_call 16; (with_reducible refine (same_events_self xs _ _ _ _ _ hr14.out hr24.out).mono ?_); rintro e w5 ⟨rfl, hb5⟩; have hB5 := below_step hB4 hb5)
    | (go_at_call 17; (with_reducible refine (same_ints_self ms _ _ _ _ _ (Kd.C_below hr34.out hb5) (Kd.C_below hr44.out hb5)).mono ?_); rintro e w6 ⟨rfl, hb6⟩; have hB6 := below_step hB5 hb6)
    | (go_at_call 18; (with_reducible refine (known_true _).mono ?_); rintro e w7 ⟨rfl, hb7⟩))
  go_ret
  exact ⟨rfl, below_step hB6 hb7⟩
end Go.Proofs.Ytdpkpibcjbllcaa
namespace Go.Proofs.Ytdpkpibcjbllcaa.HistStands
open Go.ChangeShapes Go.WideShapes Go.ChangeAt Go.RowKit
open Go.ChangeMaps (open_string shut_string)
theorem own : ownKnob Try.prog.godebug = none := by kernel_rfl
theorem laidOut : laidOutB Try.prog = true := by kernel_rfl
set_option maxRecDepth 100000 in
theorem lifted (os : Os) (started : os.Started) (H : Type) (enc : TypeId × Value → H) :
    ReturnsInHanded {} Try.checked os 3 .any (Rows.histStandsSpec.pre6 enc Try.prog Try.f3 Rows.histStandsRow.domain false) (Rows.histStandsSpec.post enc Try.prog Try.f3 false true false false) := by
  refine returnsInHanded_of_change_sized (C := Try.checked) own started (by kernel_rfl) Try.func3
    (ChangeSpec.witness6 (enc := enc) (C := Try.checked) false ⟨#[], #[.slice none 0 0, .int .i64 0], []⟩ 8 (by kernel_rfl) (by kernel_rfl) (by kernel_rfl) (by kernel_rfl)) ?_
  intro W base args ds gs before hval0 hW hcnd hsz0 _
  have hval : ∀ (j : Nat) t v, Try.f3.params[j]? = some t → args[j]? = some v → Value.okWide Try.prog W .any base t v := hval0
  have hW' := hW
  obtain ⟨p, q, hA0, hV, rfl, hfz, hnd⟩ := hW
  have hA : DataW.TrodAll enc Try.prog W 0 (fun _ => true) true Try.f3.params.toList args.toList ds p := hA0
  rw [Try.params3] at hA hval
  obtain ⟨v0, vs0, d0, ds0, p0, q0, hargs, rfl, rfl, h0, r0⟩ := trodAll_cons hA
  obtain ⟨v1, vs1, d1, ds1, p1, q1, rfl, rfl, rfl, h1, r1⟩ := trodAll_cons r0
  obtain ⟨rfl, rfl, rfl⟩ := trodAll_nil r1
  obtain rfl : args = #[v0, v1] := by cases args; simp_all
  obtain ⟨rfl, rfl⟩ := trodVars_none hV
  obtain ⟨a0, len0, cap0, rfl⟩ := okWide_slice Try.underlying22 (hval 0 22 v0 rfl rfl)
  have k0 := h0
  have lt0 : ∀ x ∈ p0, x.block < W.heap.size := by obtain ⟨m, hm⟩ := k0; exact DataW.trod_lt m _ _ _ hm
  have w0 : len0 ≤ cap0 ∧ ∃ l, l.length = len0 ∧ NewsRow W a0 l.length l := by
    obtain ⟨fuel, hf⟩ := h0
    obtain ⟨A, len, cap, l, hcs, hlc, hl, hr⟩ := open_newsrow hf
    simp [Value.cells] at hcs
    obtain ⟨rfl, rfl, rfl⟩ := hcs
    exact ⟨hlc, l, hl, hr⟩
  obtain ⟨hc0, l0, rfl, hr0⟩ := w0
  obtain ⟨a1, rfl, rfl, rfl, w1⟩ := open_int Try.underlying3 (hval 1 3 v1 rfl rfl) h1
  clear hA0 hval0 hsz0
  refine (law_stands l0 a0 cap0 a1 W hr0 hc0).mono fun e W' ⟨he, bel⟩ => ?_
  subst he
  exact ⟨_, rfl, _, _, _, [], _, [], hW', trodAll_mk1 (shut_bool Try.underlying4 _), (trodAll_cons_mk (Below.trod laidOut (by kernel_rfl) (of_decide_eq_true (by kernel_rfl)) k0 bel lt0) (trodAll_cons_mk (shut_int Try.underlying3 w1) trodAll_mk0)), rfl, bel.frame _, fun h => by cases h⟩
theorem over : Rows.histStandsRow.holds Try.pinned (OpenSpec.ofChange Rows.histStandsSpec) :=
  OpenClaim.holds_of_wide 3 Try.f3 rfl rfl rfl rfl rfl rfl rfl ⟨rfl, rfl, rfl, rfl, rfl⟩ rfl rfl rfl rfl rfl (by kernel_rfl) Try.func3 (by kernel_rfl)
    (of_decide_eq_true (by kernel_rfl)) (by unfold Func.isWrapper; first | (rw [if_pos (by decide +kernel)]; kernel_rfl) | (rw [if_neg (by decide +kernel)]; exact ⟨rfl, rfl⟩))
    (fun os started H enc _ => lifted os started H enc)
end Go.Proofs.Ytdpkpibcjbllcaa.HistStands
namespace Go.Proofs.Ytdpkpibcjbllcaa
/-- The row. -/
theorem HistStands_holds : Rows.HistStandsSaid := HistStands.over
#print axioms HistStands_holds
end Go.Proofs.Ytdpkpibcjbllcaa
