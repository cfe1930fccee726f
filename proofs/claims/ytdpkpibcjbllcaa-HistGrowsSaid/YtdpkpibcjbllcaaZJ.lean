/-
  Texts of one hand, laid together: StepR.
-/
import Derived.Test.YtdpkpibcjbllcaaZI
set_option linter.unusedVariables false
set_option linter.unusedSimpArgs false
/-! The reference's step. -/
namespace Go.Proofs.Ytdpkpibcjbllcaa
open Go.RowKit Go.Proofs.YtdpkpibcjbllcaaW.PrintWords PRef

theorem one_f (l : List News) (hl : l.length ≤ 1000) (k : Key) : Ev (fun n => afterwordref05_one.f n (l.map sNews) k.src k.id) ((standsK (hearAll l).1 k).map sEvent) := by
  refine (counts_f l hl k).bind (g := fun _ t => _) ?_
  have hh := held_counts l k
  unfold standsK
  rw [hh]
  cases hc : cntOf l k with
  | none =>
    refine ⟨0, fun _ _ => ?_⟩
    simp [cntI]
  | some q =>
    obtain ⟨j, m⟩ := q
    obtain ⟨hv, _⟩ := cnt_valid l k j m hc
    have hjl : j < l.length := (List.getElem?_eq_some_iff.1 hv).1
    have hrd := rd_news l j m hv
    have hj0 : cntI (some (j, m)) = (j : Int) := rfl
    refine ⟨0, fun _ _ => ?_⟩
    rw [hj0]
    rw [if_neg (show ¬ (j : Int) < 0 by omega), if_pos (show (0 : Int) ≤ (j : Int) by omega), if_pos (show (j : Int) < ((l.map sNews).length : Int) by rw [List.length_map]; omega), hrd]
    rw [show ((some (j, m) : Option (Nat × News)).map (·.2)) = some m from rfl]
    by_cases h1 : m.do_ = 1
    · rw [if_pos (show (sNews m).f0 = 1 from h1)]
      simp only [if_pos h1]
      rfl
    · rw [if_neg (show ¬ (sNews m).f0 = 1 from h1)]
      simp only [if_neg h1]
      rfl
theorem ref_one (l : List News) (A : Option Addr) (c : Nat) (k : Key) (w : World) (hr : NewsRow w A l.length l) (hc : l.length ≤ c) (hl : l.length ≤ 1000) :
    Calls Try.prog 74 #[.slice A l.length c, .int .i64 k.src, .int .i64 k.id] w (OwnPost kEvent 49 w (standsK (hearAll l).1 k)) := by
  obtain ⟨n, hn⟩ := one_f l hl k
  have h := afterwordref05_one.calls n A c (l.map sNews) k.src k.id _ w (by rw [List.length_map]; exact C_sNews hr) (by rw [List.length_map]; exact hc) (hn n (Nat.le_refl _))
  rw [List.length_map] at h
  refine h.mono ?_
  rintro e w' ⟨v, rfl, hR, hb⟩
  exact ⟨v, rfl, R_sEvent hR, hb⟩

theorem below_nil {W w' : World} (h : W.grownBy w' (Value.slice none 0 0).ownBlock) : Below W.heap.size W w' := ⟨h.os, h.tape, h.output, h.size, fun k hk => h.block k hk (by simp [Value.ownBlock])⟩
set_option maxRecDepth 100000 in
set_option maxHeartbeats 4000000 in
theorem ref_StepOf_event (l : List News) (A : Option Addr) (c : Nat) (n : News) (w : World) (hr : NewsRow w A l.length l) (hc : l.length ≤ c) (hl : l.length ≤ 100) (hn : n.do_ ≠ 3) :
    Calls Try.prog 52 #[.slice A l.length c, .agg #[.int .i64 n.do_, .int .i64 n.src, .int .i64 n.id, .int .i64 n.ver, .int .i64 n.body.at_, .int .i64 n.body.key, .int .i64 n.body.val]] w fun e w' => ∃ v1 v2, e = .returned (.tuple #[v1, v2]) ∧ Own kEvent 49 w' w.heap.size v1 (stepOf (hearAll l).1 n).1 ∧ Own kEvent 49 w' w.heap.size v2 (stepOf (hearAll l).1 n).2 ∧ Below w.heap.size w w' := by
  have hb3 : (n.do_ == 3) = false := by simpa using hn
  obtain ⟨m, hm⟩ : ∃ m, l ++ [n] = m := ⟨_, rfl⟩
  have hmle : m.length ≤ 1000 := by rw [← hm]; simp; omega
  have hL : (hearAll m).1 = hearL (hearAll l).1 n := by rw [← hm, hearAll_snoc, hear, if_neg hn]
  have hst : stepOf (hearAll l).1 n = if standsK (hearAll l).1 (keyOf n) = standsK (hearAll m).1 (keyOf n) then ([], []) else (standsK (hearAll l).1 (keyOf n), standsK (hearAll m).1 (keyOf n)) := by rw [hL]; simp [stepOf, hn]
  obtain ⟨p, hp⟩ : ∃ p, stepOf (hearAll l).1 n = p := ⟨_, rfl⟩
  rw [hp] at hst ⊢
  obtain ⟨x1, hx1⟩ : ∃ x, standsK (hearAll l).1 (keyOf n) = x := ⟨_, rfl⟩
  obtain ⟨x2, hx2⟩ : ∃ x, standsK (hearAll m).1 (keyOf n) = x := ⟨_, rfl⟩
  rw [hx1, hx2] at hst
  have HST := Lib.hid hst
  have Hx1 := Lib.hid hx1
  have Hx2 := Lib.hid hx2
  have Hm := Lib.hid hm
  have Hr := Lib.hid hr
  clear hr hm hp hst hx1 hx2 hL hn
  go_enter Try.func52, Try.ntmps52
  go_upto_region 3 with (fail)
  have hbx := box_news w n
  have hBa : Below w.heap.size w (w.alloc (.cells #[.int .i64 n.do_, .int .i64 n.src, .int .i64 n.id, .int .i64 n.ver, .int .i64 n.body.at_, .int .i64 n.body.key, .int .i64 n.body.val] 38)) := below_alloc (Below.refl _ _) _
  have hr1 := Lib.hid (news_later Hr.out hBa)
  generalize (w.alloc (.cells #[.int .i64 n.do_, .int .i64 n.src, .int .i64 n.id, .int .i64 n.ver, .int .i64 n.body.at_, .int .i64 n.body.key, .int .i64 n.body.val] 38)) = W0 at *
  generalize hbn : w.heap.size = bn at *
  obtain ⟨i0, i1, i2, i3, i4, i5, i6⟩ := hbx
  go_upto_region 4 with (go_at_call 74; (with_reducible refine (ref_one l A c ⟨n.src, n.id⟩ _ hr1.out hc (by omega)).mono ?_); rintro e W1 ⟨v6, rfl, hO6, hb6⟩)
  replace hO6 : Own kEvent 49 W1 W0.heap.size v6 x1 := by rw [← Hx1.out]; exact hO6
  replace i0 := cell_later' hb6 i0
  replace i1 := cell_later' hb6 i1
  replace i2 := cell_later' hb6 i2
  replace i3 := cell_later' hb6 i3
  replace i4 := cell_later' hb6 i4
  replace i5 := cell_later' hb6 i5
  replace i6 := cell_later' hb6 i6
  have hr2 := Lib.hid (news_later hr1.out hb6)
  have HO6 := Lib.hid hO6
  have hz0 : bn ≤ W0.heap.size := by rw [← hbn]; exact hBa.size
  have hz1 := hb6.size
  have hB01 : Below bn w W1 := by subst hbn; exact below_step hBa hb6
  clear hr1 hBa hb6 hO6
  go_cut [7] (fun v7 wc => Aside (Own kEvent 49 wc W1.heap.size v7 x2) ∧ Aside (Below W1.heap.size W1 wc))
  case first =>
    go_region_held3 (fun W => W.cell? ⟨bn, 0, none⟩ = some (.int .i64 n.do_) ∧ W.cell? ⟨bn, 1, none⟩ = some (.int .i64 n.src) ∧ W.cell? ⟨bn, 2, none⟩ = some (.int .i64 n.id) ∧ W.cell? ⟨bn, 3, none⟩ = some (.int .i64 n.ver) ∧ W.cell? ⟨bn, 4, none⟩ = some (.int .i64 n.body.at_) ∧ W.cell? ⟨bn, 5, none⟩ = some (.int .i64 n.body.key) ∧ W.cell? ⟨bn, 6, none⟩ = some (.int .i64 n.body.val) ∧ NewsRow W A l.length l ∧ Below W1.heap.size W1 W)
      (first | assumption | exact stS_step (by assumption) (by assumption) | exact stS_step (by assumption) (below_alloc (Below.refl _ _) _) | exact stS_step ⟨i0, i1, i2, i3, i4, i5, i6, hr2.out, Below.refl _ _⟩ (by repeat (first | exact Below.refl _ _ | assumption | apply below_alloc | apply below_drew1)))
      (first
        | (go_at_call 74; (with_reducible refine (ref_one m A7 c7 ⟨n.src, n.id⟩ _ hr7 hc7 hmle).mono ?_); rintro e w8 ⟨v8, rfl, hO8, hb8⟩)
        | (refine Kd.R_append_rows_step kNews (w0 := W1) W1.heap.size (by rfl) (.const (.slice none 0 0)) (.tmp 17) 22 38 (.agg #[(.int .i64 0), (.int .i64 0), (.int .i64 0), (.int .i64 0), (.int .i64 0), (.int .i64 0), (.int .i64 0)]) 56 rfl Try.underlying22 info_news rfl (by decide) (by omega) (.slice none 0 0) [] l _ _ _ (fun _ => True) (fun _ => False) rfl rfl ?aO ?aR (fun _ _ h => h) (fun _ h => h.elim) ?aF ?aB ?aS ?aL ?_; (case aO => exact Kd.R_nil _ _ _ _ _); (case aR => go_split_ands; assumption); (case aF => exact (fun _ _ => trivial)); (case aB => go_split_ands; assumption); (case aS => exact stS_size (by assumption)); (case aL => (rw [List.length_nil]; omega)); intro v w' hO hB hgrow hat0; have hBy := below_nil hgrow; rw [List.nil_append] at hO)
        | (refine Kd.R_append_rows_step kNews (w0 := W1) W1.heap.size (by rfl) (.tmp 18) (.tmp 20) 22 38 (.agg #[(.int .i64 0), (.int .i64 0), (.int .i64 0), (.int .i64 0), (.int .i64 0), (.int .i64 0), (.int .i64 0)]) 56 rfl Try.underlying22 info_news rfl (by decide) (by omega) _ l [n] _ _ _ (fun _ => True) (fun _ => False) rfl rfl ?aO ?aR (fun _ _ h => h) (fun _ h => h.elim) ?aF ?aB ?aS ?aL ?_; (case aO => first | exact hO | exact own_later hO (below_alloc (Below.refl _ _) _)); (case aR => first | exact lit_news _ _ | exact Kd.C_drew (lit_news _ _) | exact Kd.C_below (lit_news _ _) hBy | exact Kd.C_below (Kd.C_drew (lit_news _ _)) hBy); (case aF => exact (fun _ _ => trivial)); (case aB => go_split_ands; assumption); (case aS => exact stS_size (by assumption)); (case aL => omega); intro v7 w7 ho7 hb7 hg7 hat7; rw [Hm.out] at ho7; obtain ⟨A7, c7, rfl, hc7, hr7⟩ := own_reads' ho7)
        | fail)
    all_goals go_wp2
    all_goals go_meet
    all_goals (case rel => exact ⟨⟨by rw [← Hx2.out]; exact own_lower hO8 hb7.size⟩, ⟨below_step hb7 hb8⟩⟩)
  case rest =>
    obtain ⟨hO7, hB7⟩ := hcut
    have hO67 := own_later HO6.out hB7.out
    obtain ⟨A6, c6, rfl, _, hr6⟩ := own_reads' hO67
    obtain ⟨A7, c7, rfl, _, hr7⟩ := own_reads' hO7.out
    have HO67 := Lib.hid hO67
    clear hO67 HO6 i0 i1 i2 i3 i4 i5 i6
    by_cases he : x1 = x2
    · have hd : decide (x1 = x2) = true := by simp [he]
      have He := Lib.hid he
      clear he
      go_wp2_with (first | (go_at_call 16; (with_reducible refine (same_events _ _ _ _ _ _ _ hr6 hr7).mono ?_); rintro e w7 ⟨rfl, hb7⟩))
      go_ret2
      subst hbn
      refine ⟨_, _, rfl, ?_, ?_, below_step (below_step hB01 hB7.out) hb7⟩
      · rw [HST.out, if_pos He.out]; exact Kd.R_nil _ _ _ _ _
      · rw [HST.out, if_pos He.out]; exact Kd.R_nil _ _ _ _ _
    · have hd : decide (x1 = x2) = false := by simp [he]
      have He := Lib.hid he
      clear he
      go_wp2_with (first | (go_at_call 16; (with_reducible refine (same_events _ _ _ _ _ _ _ hr6 hr7).mono ?_); rintro e w7 ⟨rfl, hb7⟩))
      go_ret2
      subst hbn
      refine ⟨_, _, rfl, ?_, ?_, below_step (below_step hB01 hB7.out) hb7⟩
      · rw [HST.out, if_neg He.out]; exact own_lower (own_later HO67.out hb7) (by omega)
      · rw [HST.out, if_neg He.out]; exact own_lower (own_later hO7.out hb7) (by omega)
set_option maxRecDepth 100000 in
set_option maxHeartbeats 1000000 in
theorem ref_StepOf_mark (l : List News) (A : Option Addr) (c : Nat) (n : News) (w : World) (hn : n.do_ = 3) :
    Calls Try.prog 52 #[.slice A l.length c, .agg #[.int .i64 n.do_, .int .i64 n.src, .int .i64 n.id, .int .i64 n.ver, .int .i64 n.body.at_, .int .i64 n.body.key, .int .i64 n.body.val]] w fun e w' => ∃ v1 v2, e = .returned (.tuple #[v1, v2]) ∧ Own kEvent 49 w' w.heap.size v1 (stepOf (hearAll l).1 n).1 ∧ Own kEvent 49 w' w.heap.size v2 (stepOf (hearAll l).1 n).2 ∧ Below w.heap.size w w' := by
  have hb3 : (n.do_ == 3) = true := by simpa using hn
  have hst : stepOf (hearAll l).1 n = ([], []) := by simp [stepOf, hn]
  rw [hst]
  clear hst hn
  go_enter Try.func52, Try.ntmps52
  go_wp2
  go_ret2
  exact ⟨_, _, rfl, Kd.R_nil _ _ _ _ _, Kd.R_nil _ _ _ _ _, (by repeat (first | exact Below.refl _ _ | assumption | apply below_alloc | apply below_drew1 | apply pw_below_drewN | refine below_step ?_ (by assumption)))⟩
theorem ref_StepOf (l : List News) (A : Option Addr) (c : Nat) (n : News) (w : World) (hr : NewsRow w A l.length l) (hc : l.length ≤ c) (hl : l.length ≤ 100) :
    Calls Try.prog 52 #[.slice A l.length c, .agg #[.int .i64 n.do_, .int .i64 n.src, .int .i64 n.id, .int .i64 n.ver, .int .i64 n.body.at_, .int .i64 n.body.key, .int .i64 n.body.val]] w fun e w' => ∃ v1 v2, e = .returned (.tuple #[v1, v2]) ∧ Own kEvent 49 w' w.heap.size v1 (stepOf (hearAll l).1 n).1 ∧ Own kEvent 49 w' w.heap.size v2 (stepOf (hearAll l).1 n).2 ∧ Below w.heap.size w w' := by
  by_cases h : n.do_ = 3
  · exact ref_StepOf_mark l A c n w h
  · exact ref_StepOf_event l A c n w hr hc hl h
set_option maxRecDepth 100000 in
set_option maxHeartbeats 4000000 in
theorem ref_Step (l : List News) (A : Option Addr) (c : Nat) (srcs : Int) (n : News) (w : World) (hr : NewsRow w A l.length l) (hc : l.length ≤ c) (hl : l.length * 56 ≤ 140737488351232) :
    Calls Try.prog 20 #[.slice A l.length c, .int .i64 srcs, .agg #[.int .i64 n.do_, .int .i64 n.src, .int .i64 n.id, .int .i64 n.ver, .int .i64 n.body.at_, .int .i64 n.body.key, .int .i64 n.body.val]] w (StepRes (formedB (l ++ [n]) srcs) (stepOf (hearAll l).1 n).1 (stepOf (hearAll l).1 n).2 w) := by
  obtain ⟨m, hm⟩ : ∃ m, l ++ [n] = m := ⟨_, rfl⟩
  rw [hm]
  have Hm := Lib.hid hm
  clear hm
  obtain ⟨p, hp⟩ : ∃ p, stepOf (hearAll l).1 n = p := ⟨_, rfl⟩
  rw [hp]
  have Hp := Lib.hid hp
  clear hp
  have Hr := Lib.hid hr
  clear hr
  cases hf : formedB m srcs
  all_goals
    have Hf := Lib.hid hf
    go_enter Try.func20, Try.ntmps20
    go_upto_region 1 with (fail)
    have hbx := box_news w n
    have hBa : Below w.heap.size w (w.alloc (.cells #[.int .i64 n.do_, .int .i64 n.src, .int .i64 n.id, .int .i64 n.ver, .int .i64 n.body.at_, .int .i64 n.body.key, .int .i64 n.body.val] 38)) := below_alloc (Below.refl _ _) _
    have hr1 := Lib.hid (news_later Hr.out hBa)
    generalize (w.alloc (.cells #[.int .i64 n.do_, .int .i64 n.src, .int .i64 n.id, .int .i64 n.ver, .int .i64 n.body.at_, .int .i64 n.body.key, .int .i64 n.body.val] 38)) = W1 at *
    generalize hbn : w.heap.size = bn at *
    obtain ⟨i0, i1, i2, i3, i4, i5, i6⟩ := hbx
  · go_cut [18] (fun v wc => v = .bool true ∧ Aside (Below W1.heap.size W1 wc))
    case first =>
      go_region_held3 (fun W => W.cell? ⟨bn, 0, none⟩ = some (.int .i64 n.do_) ∧ W.cell? ⟨bn, 1, none⟩ = some (.int .i64 n.src) ∧ W.cell? ⟨bn, 2, none⟩ = some (.int .i64 n.id) ∧ W.cell? ⟨bn, 3, none⟩ = some (.int .i64 n.ver) ∧ W.cell? ⟨bn, 4, none⟩ = some (.int .i64 n.body.at_) ∧ W.cell? ⟨bn, 5, none⟩ = some (.int .i64 n.body.key) ∧ W.cell? ⟨bn, 6, none⟩ = some (.int .i64 n.body.val) ∧ NewsRow W A l.length l ∧ Below W1.heap.size W1 W)
        (first | assumption | exact stS_step (by assumption) (by assumption) | exact stS_step (by assumption) (below_alloc (Below.refl _ _) _) | exact stS_step ⟨i0, i1, i2, i3, i4, i5, i6, hr1.out, Below.refl _ _⟩ (by repeat (first | exact Below.refl _ _ | assumption | apply below_alloc | apply below_drew1)))
        (first
          | (go_at_call 28; (with_reducible refine (ref_Formed m A7 c7 srcs _ hr7 hc7).mono ?_); rintro e w8 ⟨rfl, hb8⟩)
          | (refine Kd.R_append_rows_step kNews (w0 := W1) W1.heap.size (by rfl) (.const (.slice none 0 0)) (.tmp 11) 22 38 (.agg #[(.int .i64 0), (.int .i64 0), (.int .i64 0), (.int .i64 0), (.int .i64 0), (.int .i64 0), (.int .i64 0)]) 56 rfl Try.underlying22 info_news rfl (by decide) (by omega) (.slice none 0 0) [] l _ _ _ (fun _ => True) (fun _ => False) rfl rfl ?aO ?aR (fun _ _ h => h) (fun _ h => h.elim) ?aF ?aB ?aS ?aL ?_; (case aO => exact Kd.R_nil _ _ _ _ _); (case aR => go_split_ands; assumption); (case aF => exact (fun _ _ => trivial)); (case aB => go_split_ands; assumption); (case aS => exact stS_size (by assumption)); (case aL => (rw [List.length_nil]; omega)); intro v w' hO hB hgrow hat0; have hBy := below_nil hgrow; rw [List.nil_append] at hO)
          | (refine Kd.R_append_rows_step kNews (w0 := W1) W1.heap.size (by rfl) (.tmp 12) (.tmp 14) 22 38 (.agg #[(.int .i64 0), (.int .i64 0), (.int .i64 0), (.int .i64 0), (.int .i64 0), (.int .i64 0), (.int .i64 0)]) 56 rfl Try.underlying22 info_news rfl (by decide) (by omega) _ l [n] _ _ _ (fun _ => True) (fun _ => False) rfl rfl ?aO ?aR (fun _ _ h => h) (fun _ h => h.elim) ?aF ?aB ?aS ?aL ?_; (case aO => first | exact hO | exact own_later hO (below_alloc (Below.refl _ _) _)); (case aR => first | exact lit_news _ _ | exact Kd.C_drew (lit_news _ _) | exact Kd.C_below (lit_news _ _) hBy | exact Kd.C_below (Kd.C_drew (lit_news _ _)) hBy); (case aF => exact (fun _ _ => trivial)); (case aB => go_split_ands; assumption); (case aS => exact stS_size (by assumption)); (case aL => omega); intro v7 w7 ho7 hb7 hg7 hat7; rw [Hm.out] at ho7; obtain ⟨A7, c7, rfl, hc7, hr7⟩ := own_reads' ho7)
          | fail)
      all_goals go_wp2
      all_goals go_meet
      all_goals (case rel => exact ⟨rfl, ⟨by first | exact below_step (by assumption) (by assumption) | assumption⟩⟩)
    case rest =>
      obtain ⟨rfl, hB⟩ := hcut
      subst hbn
      go_wp2
      go_ret3
      exact ⟨_, _, rfl, Kd.R_nil _ _ _ _ _, Kd.R_nil _ _ _ _ _, below_step hBa hB.out⟩
  · go_cut [18] (fun v wc => v = .bool false ∧ Aside (Below W1.heap.size W1 wc))
    case first =>
      go_region_held3 (fun W => W.cell? ⟨bn, 0, none⟩ = some (.int .i64 n.do_) ∧ W.cell? ⟨bn, 1, none⟩ = some (.int .i64 n.src) ∧ W.cell? ⟨bn, 2, none⟩ = some (.int .i64 n.id) ∧ W.cell? ⟨bn, 3, none⟩ = some (.int .i64 n.ver) ∧ W.cell? ⟨bn, 4, none⟩ = some (.int .i64 n.body.at_) ∧ W.cell? ⟨bn, 5, none⟩ = some (.int .i64 n.body.key) ∧ W.cell? ⟨bn, 6, none⟩ = some (.int .i64 n.body.val) ∧ NewsRow W A l.length l ∧ Below W1.heap.size W1 W)
        (first | assumption | exact stS_step (by assumption) (by assumption) | exact stS_step (by assumption) (below_alloc (Below.refl _ _) _) | exact stS_step ⟨i0, i1, i2, i3, i4, i5, i6, hr1.out, Below.refl _ _⟩ (by repeat (first | exact Below.refl _ _ | assumption | apply below_alloc | apply below_drew1)))
        (first
          | (go_at_call 28; (with_reducible refine (ref_Formed m A7 c7 srcs _ hr7 hc7).mono ?_); rintro e w8 ⟨rfl, hb8⟩)
          | (refine Kd.R_append_rows_step kNews (w0 := W1) W1.heap.size (by rfl) (.const (.slice none 0 0)) (.tmp 11) 22 38 (.agg #[(.int .i64 0), (.int .i64 0), (.int .i64 0), (.int .i64 0), (.int .i64 0), (.int .i64 0), (.int .i64 0)]) 56 rfl Try.underlying22 info_news rfl (by decide) (by omega) (.slice none 0 0) [] l _ _ _ (fun _ => True) (fun _ => False) rfl rfl ?aO ?aR (fun _ _ h => h) (fun _ h => h.elim) ?aF ?aB ?aS ?aL ?_; (case aO => exact Kd.R_nil _ _ _ _ _); (case aR => go_split_ands; assumption); (case aF => exact (fun _ _ => trivial)); (case aB => go_split_ands; assumption); (case aS => exact stS_size (by assumption)); (case aL => (rw [List.length_nil]; omega)); intro v w' hO hB hgrow hat0; have hBy := below_nil hgrow; rw [List.nil_append] at hO)
          | (refine Kd.R_append_rows_step kNews (w0 := W1) W1.heap.size (by rfl) (.tmp 12) (.tmp 14) 22 38 (.agg #[(.int .i64 0), (.int .i64 0), (.int .i64 0), (.int .i64 0), (.int .i64 0), (.int .i64 0), (.int .i64 0)]) 56 rfl Try.underlying22 info_news rfl (by decide) (by omega) _ l [n] _ _ _ (fun _ => True) (fun _ => False) rfl rfl ?aO ?aR (fun _ _ h => h) (fun _ h => h.elim) ?aF ?aB ?aS ?aL ?_; (case aO => first | exact hO | exact own_later hO (below_alloc (Below.refl _ _) _)); (case aR => first | exact lit_news _ _ | exact Kd.C_drew (lit_news _ _) | exact Kd.C_below (lit_news _ _) hBy | exact Kd.C_below (Kd.C_drew (lit_news _ _)) hBy); (case aF => exact (fun _ _ => trivial)); (case aB => go_split_ands; assumption); (case aS => exact stS_size (by assumption)); (case aL => omega); intro v7 w7 ho7 hb7 hg7 hat7; rw [Hm.out] at ho7; obtain ⟨A7, c7, rfl, hc7, hr7⟩ := own_reads' ho7)
          | fail)
      all_goals go_wp2
      all_goals go_meet
      all_goals (case rel => exact ⟨rfl, ⟨by first | exact below_step (by assumption) (by assumption) | assumption⟩⟩)
    case rest =>
      obtain ⟨rfl, hB⟩ := hcut
      have hlm := (plainB_src (formedB_plain Hf.out)).2.1
      have hl60 : l.length ≤ 100 := by
        rw [← Hm.out] at hlm
        simp at hlm
        omega
      replace i0 := cell_later' hB.out i0
      replace i1 := cell_later' hB.out i1
      replace i2 := cell_later' hB.out i2
      replace i3 := cell_later' hB.out i3
      replace i4 := cell_later' hB.out i4
      replace i5 := cell_later' hB.out i5
      replace i6 := cell_later' hB.out i6
      have hr2 := Lib.hid (news_later hr1.out hB.out)
      have hBB : Below w.heap.size w wc := by
        subst hbn
        exact below_step hBa hB.out
      have HBB := Lib.hid hBB
      clear hlm hBB hr1 hBa hB hf
      go_wp2_with (go_at_call 52; (with_reducible refine (ref_StepOf l A c n _ hr2.out hc hl60).mono ?_); rintro e w3 ⟨v1, v2, rfl, hO1, hO2, hb3⟩; rw [Hp.out] at hO1 hO2)
      go_ret3
      subst hbn
      have hz := HBB.out.size
      exact ⟨_, _, rfl, own_lower hO1 hz, own_lower hO2 hz, below_step HBB.out hb3⟩
end Go.Proofs.Ytdpkpibcjbllcaa
