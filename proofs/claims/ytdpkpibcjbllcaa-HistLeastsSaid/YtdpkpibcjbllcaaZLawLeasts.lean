/-
  Texts of one hand, laid together: LawLeasts.
-/
import Derived.Test.YtdpkpibcjbllcaaZI
import Derived.Test.YtdpkpibcjbllcaaZM
import Derived.Test.YtdpkpibcjbllcaaZH
import Derived.Test.YtdpkpibcjbllcaaRows
import Derived.ProofKit
import Derived.OpenShut
import Derived.ShutString
import Derived.ChangeOld
import Derived.SizedLaws
set_option linter.unusedVariables false
set_option linter.unusedSimpArgs false
/-! HistLeasts. -/
namespace Go.Proofs.Ytdpkpibcjbllcaa
open Go.RowKit Go.Proofs.YtdpkpibcjbllcaaW.PrintWords

theorem hist_Least' (l : List News) (A : Option Addr) (c : Nat) (srcs : Int) (w : World) (hr : NewsRow w A l.length l) (hc : l.length ≤ c) :
    Calls Try.prog 21 #[.slice A l.length c, .int .i64 srcs] w (OwnE kNews 38 (if formedB l srcs then leastR l else []) (if formedB l srcs then 0 else 2) w) := by
  refine (hist_Least l A c srcs w hr hc).mono ?_
  rintro e w' ⟨v, ys, rfl, hO, h1, h2, hb⟩
  have hy : ys = if formedB l srcs then leastR l else [] := by
    cases hf : formedB l srcs
    · exact h2 hf
    · exact least_one (formedB_plain hf) ys (h1 hf)
  rw [hy] at hO
  exact OwnE.of hO hb
theorem ref_Least' (l : List News) (A : Option Addr) (c : Nat) (srcs : Int) (w : World) (hr : NewsRow w A l.length l) (hc : l.length ≤ c) :
    Calls Try.prog 22 #[.slice A l.length c, .int .i64 srcs] w (OwnE kNews 38 (if formedB l srcs then leastR l else []) (if formedB l srcs then 0 else 2) w) := by
  refine (ref_Least l A c srcs w hr hc).mono ?_
  rintro e w' ⟨v, rfl, hO, hb⟩
  exact OwnE.of hO hb
set_option maxRecDepth 100000 in
set_option maxHeartbeats 2000000 in
theorem law_leasts (l : List News) (A : Option Addr) (c : Nat) (srcs : Int) (w : World) (hr : NewsRow w A l.length l) (hc : l.length ≤ c) (hz : l.length * 56 ≤ 140737488351232) :
    Calls Try.prog 5 #[.slice A l.length c, .int .i64 srcs] w fun e w' => e = .returned (.bool true) ∧ Below w.heap.size w w' := by
  have h1 := fun (W : World) (A : Option Addr) (c : Nat) (h : NewsRow W A l.length l) (hc : l.length ≤ c) => hist_Least' l A c srcs W h hc
  have h2 := fun (W : World) (h : Below w.heap.size w W) => ref_Least' l A c srcs W (news_later hr h) hc
  obtain ⟨ys, hys⟩ : ∃ xs, (if formedB l srcs then leastR l else []) = xs := ⟨_, rfl⟩
  obtain ⟨en, hen⟩ : ∃ f : Int, (if formedB l srcs then 0 else 2) = f := ⟨_, rfl⟩
  rw [hys, hen] at h1 h2
  have H1 := Lib.hid h1
  have H2 := Lib.hid h2
  have Hr := Lib.hid hr
  have hlm : l.length ≤ 9223372036854775807 := hr.2.1
  clear h1 h2 hys hen hr
  go_enter Try.func5, Try.ntmps5
  go_upto_region 2 with (at_builtin; refine Kd.R_append_rows kNews (w0 := w) w.heap.size rfl (.const (.slice none 0 0)) (.tmp 11) 22 38 (.agg #[(.int .i64 0), (.int .i64 0), (.int .i64 0), (.int .i64 0), (.int .i64 0), (.int .i64 0), (.int .i64 0)]) 56 rfl Try.underlying22 info_news rfl (by decide) (by omega) (.slice none 0 0) [] l _ _ _ (fun _ => True) (fun _ => False) rfl rfl ?aO ?aR (fun _ _ h => h) (fun _ h => h.elim) ?aF ?aB ?aS ?aL ?_; (case aO => exact Kd.R_nil _ _ _ _ _); (case aR => exact Hr.out); (case aF => exact (fun _ _ => trivial)); (case aB => exact Below.refl _ _); (case aS => exact Nat.le_refl _); (case aL => (rw [List.length_nil]; omega)); intro v5 w1 ho5 hb1 hg5 hat5; rw [List.nil_append] at ho5)
  obtain ⟨A5, c5, rfl, hc5, hr5⟩ := own_reads' ho5
  have HA : Hid (0 < l.length → ∃ g, A5 = some ⟨g, 0, none⟩ ∧ w.heap.size ≤ g ∧ g < w1.heap.size) := Lib.hid (fun hp => by
    obtain ⟨g, cap, hv, h1, h2, _⟩ := Kd.R_form ho5 hp
    injection hv with e1
    exact ⟨g, e1, h1, h2⟩)
  have Hr5 := Lib.hid hr5
  have HO5 := Lib.hid ho5
  clear hr5 ho5 hg5 hat5
  go_upto_region 3 with (go_at_call 21; (with_reducible refine (H1.out _ _ _ Hr5.out hc5).mono ?_); rintro e w2 ⟨A6, c6, rfl, hO6, hb2⟩)
  have HO6 := Lib.hid hO6
  have hB2 := below_trans hb1 (below_lower hb2 hb1.size)
  clear hO6
  go_upto_region 4 with (go_at_call 22; (with_reducible refine (H2.out _ hB2).mono ?_); rintro e w3 ⟨A8, c8, rfl, hO8, hb3⟩)
  have hB3 := below_trans hB2 (below_lower hb3 hB2.size)
  have HO63 := Lib.hid (own_later HO6.out hb3)
  have HO8 := Lib.hid (own_lower hO8 hb2.size)
  have HO53 := Lib.hid (own_later (own_later HO5.out hb2) hb3)
  have Hr3 := Lib.hid (news_later (news_later Hr5.out hb2) hb3)
  have Hrl := Lib.hid (news_later Hr.out hB3)
  have Hr6 := Lib.hid (own_readsS HO63.out)
  have Hr8 := Lib.hid (own_readsS HO8.out)
  clear hO8 HO6 HO5 Hr5 Hr H1 H2
  go_upto_if 39 with (first
    | (go_at_call 23; (with_reducible refine (same_news_self ys _ _ _ _ _ Hr6.out Hr8.out).mono ?_); rintro e w4 ⟨rfl, hb4⟩)
    | (go_at_call 23; (with_reducible refine (same_news_self l _ _ _ _ _ (news_later Hr3.out hb4) (news_later Hrl.out hb4)).mono ?_); rintro e w5 ⟨rfl, hb5⟩))
  have hb35 := below_step hb4 hb5
  have HO55 := Lib.hid (own_later HO53.out hb35)
  have HO65 := Lib.hid (own_later HO63.out hb35)
  have HO85 := Lib.hid (own_later HO8.out hb35)
  have hB5 := below_trans hB3 (below_lower hb35 hB3.size)
  clear HO53 HO63 HO8 Hr3 Hrl Hr6 Hr8 hb4 hb5 hb35
  go_wp2
  go_loopw [10] (fun i wr => ∃ (k : Nat) (xs : List News), k ≤ l.length ∧ i = .int .i64 k ∧ xs.length = l.length ∧ Own kNews 38 wr w.heap.size (.slice A5 l.length c5) xs ∧ Own kNews 38 wr w1.heap.size (.slice A6 ys.length c6) ys ∧ Own kNews 38 wr w1.heap.size (.slice A8 ys.length c8) ys ∧ Below w.heap.size w wr) (fun i _ => l.length - (intOf i).toNat)
  case atStart => exact ⟨0, l, Nat.zero_le _, rfl, rfl, HO55.out, HO65.out, HO85.out, hB5⟩
  case round =>
    obtain ⟨k, xs, hk, rfl, hxl, hOm, hOa, hOb, hB⟩ := hrel
    have HOm := Lib.hid hOm
    have HOa := Lib.hid hOa
    have HOb := Lib.hid hOb
    have Hxl := Lib.hid hxl
    clear hOm hOa hOb hxl
    by_cases hlt : k < l.length
    · obtain ⟨g, rfl, hg1, hg2⟩ := HA.out (by omega)
      have hOx : Own kNews 38 wr w.heap.size (.slice (some ⟨g, 0, none⟩) xs.length c5) xs := by rw [Hxl.out]; exact HOm.out
      obtain ⟨x, ad, hd, htk, hget, e1, e0, ee1, ee2, ee3, ee4, ee5, ee6⟩ := news_at (own_readsS hOx) k (by rw [Hxl.out]; exact hlt)
      obtain rfl : (⟨g, 0, none⟩ : Addr) = ad := Option.some.inj e1
      have ha : (⟨g, 0, none⟩ : Addr).add (k * 7) = ⟨g, k * 7, none⟩ := addr0 g (k * 7)
      have hcell : ∀ j u, [.int .i64 x.do_, .int .i64 x.src, .int .i64 x.id, .int .i64 x.ver, .int .i64 x.body.at_, .int .i64 x.body.key, .int .i64 x.body.val][j]? = some u → wr.cell? ⟨g, k * 7 + j, none⟩ = some u := by
        have hC := own_readsS hOx
        obtain ⟨_, _, hC3⟩ := hC
        obtain ⟨ad, e, hc⟩ := hC3 (by rw [Hxl.out]; omega)
        obtain rfl : (⟨g, 0, none⟩ : Addr) = ad := Option.some.inj e
        obtain ⟨cc, _, hK, hcc⟩ := hc k x hget
        obtain rfl := kNews_open hK
        intro j u hu
        have := hcc j u hu
        rw [addr0] at this
        exact this
      have Hcell := Lib.hid hcell
      clear hd htk hget e1 e0 ee1 ee2 ee3 ee4 ee5 ee6 hcell hOx
      have hkI : (0 : Int) ≤ (k : Int) := by omega
      have hkl : (k : Int) < (l.length : Int) := by omega
      go_wp2_with (refine Kd.R_store kNews (w0 := w) w.heap.size rfl rfl 38 (.tmp 49) (.tmp 48) rfl 38 (k : Int) 0 xs ⟨0, 0, 0, 0, ⟨0, 0, 0⟩⟩ (.agg #[.int .i64 0, .int .i64 0, .int .i64 0, .int .i64 0, .int .i64 0, .int .i64 0, .int .i64 0]) [.int .i64 0, .int .i64 0, .int .i64 0, .int .i64 0, .int .i64 0, .int .i64 0, .int .i64 0] [.int .i64 x.do_, .int .i64 x.src, .int .i64 x.id, .int .i64 x.ver, .int .i64 x.body.at_, .int .i64 x.body.key, .int .i64 x.body.val] (fun _ => True) (fun _ => False) rfl ?pOff rfl rfl (by kernel_rfl) (by simp [Value.oneCell']) HOm.out hkI ?pLt rfl ?pCell (by decide) ?pM (fun _ h => h.elim) hB ?_; (case pOff => simp [show kNews.sz = 7 from rfl]); (case pLt => omega); (case pCell => exact Hcell.out); (case pM => exact kNews_mkM _ _ _ ⟨0, 0, 0, 0, ⟨0, 0, 0⟩⟩); intro w9 ho9 hb9 hg9)
      exact ⟨⟨k + 1, xs.set k ⟨0, 0, 0, 0, ⟨0, 0, 0⟩⟩, by omega, by go_num, by rw [List.length_set]; exact Hxl.out, ho9, own_off HOa.out hg9 hg2, own_off HOb.out hg9 hg2, hb9⟩, by simp [intOf]; omega⟩
    · have Hra := Lib.hid (own_readsS HOa.out)
      have Hrb := Lib.hid (own_readsS HOb.out)
      go_wp2_with (first
        | (go_at_call 23; (with_reducible refine (same_news_self ys _ _ _ _ _ Hra.out Hrb.out).mono ?_); rintro e w6 ⟨rfl, hb6⟩)
        | (go_at_call 18; (with_reducible refine (known_true _).mono ?_); rintro e w7 ⟨rfl, hb7⟩))
      go_ret
      exact ⟨rfl, below_step (below_step hB hb6) hb7⟩
end Go.Proofs.Ytdpkpibcjbllcaa
namespace Go.Proofs.Ytdpkpibcjbllcaa.HistLeasts
open Go.ChangeShapes Go.WideShapes Go.ChangeAt Go.RowKit
open Go.ChangeMaps (open_string shut_string)
theorem own : ownKnob Try.prog.godebug = none := by kernel_rfl
theorem laidOut : laidOutB Try.prog = true := by kernel_rfl
set_option maxRecDepth 100000 in
theorem lifted (os : Os) (started : os.Started) (H : Type) (enc : TypeId × Value → H) :
    ReturnsInHanded {} Try.checked os 5 .any (Rows.histLeastsSpec.pre6 enc Try.prog Try.f5 Rows.histLeastsRow.domain false) (Rows.histLeastsSpec.post enc Try.prog Try.f5 false true false false) := by
  refine returnsInHanded_of_change_sized (C := Try.checked) own started (by kernel_rfl) Try.func5
    (ChangeSpec.witness6 (enc := enc) (C := Try.checked) false ⟨#[], #[.slice none 0 0, .int .i64 0], []⟩ 8 (by kernel_rfl) (by kernel_rfl) (by kernel_rfl) (by kernel_rfl)) ?_
  intro W base args ds gs before hval0 hW hcnd hsz0 _
  have hsz : (DataW.weightsEach Try.prog (Try.f5.params.toList ++ Rows.histLeastsSpec.plain.varTypes Try.prog) (ds ++ gs)).all (· ≤ reachBytes) = true := hsz0
  have hval : ∀ (j : Nat) t v, Try.f5.params[j]? = some t → args[j]? = some v → Value.okWide Try.prog W .any base t v := hval0
  have hW' := hW
  obtain ⟨p, q, hA0, hV, rfl, hfz, hnd⟩ := hW
  have hA : DataW.TrodAll enc Try.prog W 0 (fun _ => true) true Try.f5.params.toList args.toList ds p := hA0
  rw [Try.params5] at hA hval hsz
  obtain ⟨v0, vs0, d0, ds0, p0, q0, hargs, rfl, rfl, h0, r0⟩ := trodAll_cons hA
  obtain ⟨v1, vs1, d1, ds1, p1, q1, rfl, rfl, rfl, h1, r1⟩ := trodAll_cons r0
  obtain ⟨rfl, rfl, rfl⟩ := trodAll_nil r1
  obtain rfl : args = #[v0, v1] := by cases args; simp_all
  obtain ⟨rfl, rfl⟩ := trodVars_none hV
  obtain ⟨a0, len0, cap0, rfl⟩ := okWide_slice Try.underlying22 (hval 0 22 v0 rfl rfl)
  have k0 := h0
  have lt0 : ∀ x ∈ p0, x.block < W.heap.size := by obtain ⟨m, hm⟩ := k0; exact DataW.trod_lt m _ _ _ hm
  have y0 := sized_news hsz (j := 0) rfl rfl h0
  have w0 : len0 ≤ cap0 ∧ ∃ l, l.length = len0 ∧ NewsRow W a0 l.length l := by
    obtain ⟨fuel, hf⟩ := h0
    obtain ⟨A, len, cap, l, hcs, hlc, hl, hr⟩ := open_newsrow hf
    simp [Value.cells] at hcs
    obtain ⟨rfl, rfl, rfl⟩ := hcs
    exact ⟨hlc, l, hl, hr⟩
  obtain ⟨hc0, l0, rfl, hr0⟩ := w0
  obtain ⟨a1, rfl, rfl, rfl, w1⟩ := open_int Try.underlying3 (hval 1 3 v1 rfl rfl) h1
  clear hA0 hval0 hsz0 hsz
  refine (law_leasts l0 a0 cap0 a1 W hr0 hc0 y0).mono fun e W' ⟨he, bel⟩ => ?_
  subst he
  exact ⟨_, rfl, _, _, _, [], _, [], hW', trodAll_mk1 (shut_bool Try.underlying4 _), (trodAll_cons_mk (Below.trod laidOut (by kernel_rfl) (of_decide_eq_true (by kernel_rfl)) k0 bel lt0) (trodAll_cons_mk (shut_int Try.underlying3 w1) trodAll_mk0)), rfl, bel.frame _, fun h => by cases h⟩
theorem over : Rows.histLeastsRow.holds Try.pinned (OpenSpec.ofChange Rows.histLeastsSpec) :=
  OpenClaim.holds_of_wide 5 Try.f5 rfl rfl rfl rfl rfl rfl rfl ⟨rfl, rfl, rfl, rfl, rfl⟩ rfl rfl rfl rfl rfl (by kernel_rfl) Try.func5 (by kernel_rfl)
    (of_decide_eq_true (by kernel_rfl)) (by unfold Func.isWrapper; first | (rw [if_pos (by decide +kernel)]; kernel_rfl) | (rw [if_neg (by decide +kernel)]; exact ⟨rfl, rfl⟩))
    (fun os started H enc _ => lifted os started H enc)
end Go.Proofs.Ytdpkpibcjbllcaa.HistLeasts
namespace Go.Proofs.Ytdpkpibcjbllcaa
/-- The row. -/
theorem HistLeasts_holds : Rows.HistLeastsSaid := HistLeasts.over
#print axioms HistLeasts_holds
end Go.Proofs.Ytdpkpibcjbllcaa
