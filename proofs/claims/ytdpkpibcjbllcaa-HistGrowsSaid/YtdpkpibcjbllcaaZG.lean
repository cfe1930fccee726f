/-
  Texts of one hand, laid together: Known.
-/
import Derived.Test.YtdpkpibcjbllcaaZF
set_option linter.unusedVariables false
set_option linter.unusedSimpArgs false
/-! The chapter's examples: known. -/
namespace Go.Proofs.Ytdpkpibcjbllcaa
open Go.RowKit Go.Proofs.YtdpkpibcjbllcaaW.PrintWords

theorem news_take {w : World} {A : Option Addr} {n : Nat} {l : List News} (h : NewsRow w A n l) (m : Nat) (hm : m ≤ n) : NewsRow w A m (l.take m) := by
  obtain ⟨h1, h2, h3⟩ := h
  refine ⟨by rw [List.length_take]; omega, by omega, fun hp => ?_⟩
  obtain ⟨ad, e, hc⟩ := h3 (by omega)
  refine ⟨ad, e, fun j p hj => ?_⟩
  have hjm : j < m := by
    have := (List.getElem?_eq_some_iff.1 hj).1
    rw [List.length_take] at this; omega
  rw [List.getElem?_take_of_lt hjm] at hj
  exact hc j p hj

section
variable {ops : Array Oper} {rest : List Oper} {o : Oper} {a : Act} {Q : Exit → Act → World → Prop}
theorem wpList_append_keep {W : World} (hgd : o.guard = none) (s x : Operand) (ho : o.op = .call { callee := .builtin .append, args := #[s, x], argTypes := #[22, 22] }) (base : Nat) (v : Value) (l : List News) (xn : News) (m : Nat) (hm : l.length + 1 = m)
    (hs : a.eval s = v) (hx : a.eval x = .slice (some ⟨W.heap.size, 0, none⟩) 1 1) (HO : Own kNews 38 W base v l) (hbase : base ≤ W.heap.size) (hpos : 0 < l.length) (hl : (l.length + 1) * 56 ≤ 140737488355328)
    (h : ∀ A1 c1 w1, l.length + 1 ≤ c1 → Kd.C kNews w1 A1 (l ++ [xn]).length (l ++ [xn]) → (∀ A c, v = .slice A l.length c → Kd.C kNews w1 A l.length l) → Below base W w1 → W.grownBy w1 v.ownBlock → wpList Try.prog ops Q rest (a.put o.dst (.slice A1 m c1)) w1) :
    wpList Try.prog ops Q (o :: rest) a (W.alloc (.cells #[.int .i64 xn.do_, .int .i64 xn.src, .int .i64 xn.id, .int .i64 xn.ver, .int .i64 xn.body.at_, .int .i64 xn.body.key, .int .i64 xn.body.val] 38)) := by
  subst hm
  obtain ⟨A1, c1, w1, hr, h1, h2, h3, h4, h5⟩ := append_keep (x := xn) HO hbase hpos hl o.type
  refine wpList_plain hgd fun K hK => ?_
  unfold Oper.wp execOp
  simp only [ho, resolve, invoke, builtin, Sem.run_bind, Sem.run_pure, Result.andThen_ok, List.map_toArray, List.map_cons, List.map_nil, hs, hx, hr]
  exact hK _ _ (h A1 c1 w1 h1 h2 h3 h4 h5)
end
theorem ex_cell {w : World} {g : Nat} (h : NewsRow w (some ⟨g, 0, none⟩) 8 exN) (k : Nat) (x : News) (hx : exN[k]? = some x) (hk : k < 8) :
    w.cell? ⟨g, k * 7, none⟩ = some (.int .i64 x.do_) ∧ w.cell? ⟨g, k * 7 + 1, none⟩ = some (.int .i64 x.src) ∧ w.cell? ⟨g, k * 7 + 2, none⟩ = some (.int .i64 x.id) ∧ w.cell? ⟨g, k * 7 + 3, none⟩ = some (.int .i64 x.ver) ∧ w.cell? ⟨g, k * 7 + 4, none⟩ = some (.int .i64 x.body.at_) ∧ w.cell? ⟨g, k * 7 + 5, none⟩ = some (.int .i64 x.body.key) ∧ w.cell? ⟨g, k * 7 + 6, none⟩ = some (.int .i64 x.body.val) := by
  obtain ⟨y, ad, _, _, hy, e, c0, c1, c2, c3, c4, c5, c6⟩ := news_at h k hk
  obtain rfl : x = y := Option.some.inj (hx.symm.trans hy)
  obtain rfl : (⟨g, 0, none⟩ : Addr) = ad := Option.some.inj e
  have ha : (⟨g, 0, none⟩ : Addr).add (k * 7) = ⟨g, k * 7, none⟩ := by cases k <;> simp [Addr.add]
  rw [ha] at c0 c1 c2 c3 c4 c5 c6
  exact ⟨c0, c1, c2, c3, c4, c5, c6⟩
theorem knS_step {W1 W W' : World} {g : Nat} (h : W.cell? ⟨g, 28, none⟩ = some (.int .i64 1) ∧ W.cell? ⟨g, 29, none⟩ = some (.int .i64 0) ∧ W.cell? ⟨g, 30, none⟩ = some (.int .i64 1) ∧ W.cell? ⟨g, 31, none⟩ = some (.int .i64 2) ∧ W.cell? ⟨g, 32, none⟩ = some (.int .i64 10) ∧ W.cell? ⟨g, 33, none⟩ = some (.int .i64 1) ∧ W.cell? ⟨g, 34, none⟩ = some (.int .i64 6) ∧ NewsRow W (some ⟨g, 0, none⟩) 8 exN ∧ Below W1.heap.size W1 W) (hb : Below W.heap.size W W') : W'.cell? ⟨g, 28, none⟩ = some (.int .i64 1) ∧ W'.cell? ⟨g, 29, none⟩ = some (.int .i64 0) ∧ W'.cell? ⟨g, 30, none⟩ = some (.int .i64 1) ∧ W'.cell? ⟨g, 31, none⟩ = some (.int .i64 2) ∧ W'.cell? ⟨g, 32, none⟩ = some (.int .i64 10) ∧ W'.cell? ⟨g, 33, none⟩ = some (.int .i64 1) ∧ W'.cell? ⟨g, 34, none⟩ = some (.int .i64 6) ∧ NewsRow W' (some ⟨g, 0, none⟩) 8 exN ∧ Below W1.heap.size W1 W' := by
  obtain ⟨h0, h1, h2, h3, h4, h5, h6, h8, h9⟩ := h
  exact ⟨cell_later' hb h0, cell_later' hb h1, cell_later' hb h2, cell_later' hb h3, cell_later' hb h4, cell_later' hb h5, cell_later' hb h6, news_later h8 hb, below_step h9 hb⟩
theorem kn14_step {w10 W W' : World} {g gm gt gw gi : Nat} (h : W.cell? ⟨gm, 0, none⟩ = some (.int .i64 11) ∧ W.cell? ⟨gm, 1, none⟩ = some (.int .i64 5) ∧ W.cell? ⟨gt, 0, none⟩ = some (.int .i64 4) ∧ W.cell? ⟨gw, 4, none⟩ = some (.int .i64 5) ∧ W.cell? ⟨gi, 4, none⟩ = some (.int .i64 6) ∧ W.cell? ⟨g, 28, none⟩ = some (.int .i64 1) ∧ W.cell? ⟨g, 29, none⟩ = some (.int .i64 0) ∧ W.cell? ⟨g, 30, none⟩ = some (.int .i64 1) ∧ W.cell? ⟨g, 31, none⟩ = some (.int .i64 2) ∧ W.cell? ⟨g, 32, none⟩ = some (.int .i64 10) ∧ W.cell? ⟨g, 33, none⟩ = some (.int .i64 1) ∧ W.cell? ⟨g, 34, none⟩ = some (.int .i64 6) ∧ W.cell? ⟨g, 14, none⟩ = some (.int .i64 1) ∧ W.cell? ⟨g, 15, none⟩ = some (.int .i64 0) ∧ W.cell? ⟨g, 16, none⟩ = some (.int .i64 2) ∧ W.cell? ⟨g, 17, none⟩ = some (.int .i64 1) ∧ W.cell? ⟨g, 18, none⟩ = some (.int .i64 12) ∧ W.cell? ⟨g, 19, none⟩ = some (.int .i64 1) ∧ W.cell? ⟨g, 20, none⟩ = some (.int .i64 7) ∧ W.cell? ⟨g, 21, none⟩ = some (.int .i64 3) ∧ W.cell? ⟨g, 22, none⟩ = some (.int .i64 0) ∧ W.cell? ⟨g, 23, none⟩ = some (.int .i64 0) ∧ W.cell? ⟨g, 24, none⟩ = some (.int .i64 0) ∧ W.cell? ⟨g, 25, none⟩ = some (.int .i64 11) ∧ W.cell? ⟨g, 26, none⟩ = some (.int .i64 0) ∧ W.cell? ⟨g, 27, none⟩ = some (.int .i64 0) ∧ W.cell? ⟨g, 35, none⟩ = some (.int .i64 2) ∧ W.cell? ⟨g, 36, none⟩ = some (.int .i64 1) ∧ W.cell? ⟨g, 37, none⟩ = some (.int .i64 1) ∧ W.cell? ⟨g, 38, none⟩ = some (.int .i64 3) ∧ W.cell? ⟨g, 39, none⟩ = some (.int .i64 0) ∧ W.cell? ⟨g, 40, none⟩ = some (.int .i64 0) ∧ W.cell? ⟨g, 41, none⟩ = some (.int .i64 0) ∧ W.cell? ⟨g, 49, none⟩ = some (.int .i64 3) ∧ W.cell? ⟨g, 50, none⟩ = some (.int .i64 1) ∧ W.cell? ⟨g, 51, none⟩ = some (.int .i64 0) ∧ W.cell? ⟨g, 52, none⟩ = some (.int .i64 0) ∧ W.cell? ⟨g, 53, none⟩ = some (.int .i64 5) ∧ W.cell? ⟨g, 54, none⟩ = some (.int .i64 0) ∧ W.cell? ⟨g, 55, none⟩ = some (.int .i64 0) ∧ Below w10.heap.size w10 W) (hb : Below W.heap.size W W') : W'.cell? ⟨gm, 0, none⟩ = some (.int .i64 11) ∧ W'.cell? ⟨gm, 1, none⟩ = some (.int .i64 5) ∧ W'.cell? ⟨gt, 0, none⟩ = some (.int .i64 4) ∧ W'.cell? ⟨gw, 4, none⟩ = some (.int .i64 5) ∧ W'.cell? ⟨gi, 4, none⟩ = some (.int .i64 6) ∧ W'.cell? ⟨g, 28, none⟩ = some (.int .i64 1) ∧ W'.cell? ⟨g, 29, none⟩ = some (.int .i64 0) ∧ W'.cell? ⟨g, 30, none⟩ = some (.int .i64 1) ∧ W'.cell? ⟨g, 31, none⟩ = some (.int .i64 2) ∧ W'.cell? ⟨g, 32, none⟩ = some (.int .i64 10) ∧ W'.cell? ⟨g, 33, none⟩ = some (.int .i64 1) ∧ W'.cell? ⟨g, 34, none⟩ = some (.int .i64 6) ∧ W'.cell? ⟨g, 14, none⟩ = some (.int .i64 1) ∧ W'.cell? ⟨g, 15, none⟩ = some (.int .i64 0) ∧ W'.cell? ⟨g, 16, none⟩ = some (.int .i64 2) ∧ W'.cell? ⟨g, 17, none⟩ = some (.int .i64 1) ∧ W'.cell? ⟨g, 18, none⟩ = some (.int .i64 12) ∧ W'.cell? ⟨g, 19, none⟩ = some (.int .i64 1) ∧ W'.cell? ⟨g, 20, none⟩ = some (.int .i64 7) ∧ W'.cell? ⟨g, 21, none⟩ = some (.int .i64 3) ∧ W'.cell? ⟨g, 22, none⟩ = some (.int .i64 0) ∧ W'.cell? ⟨g, 23, none⟩ = some (.int .i64 0) ∧ W'.cell? ⟨g, 24, none⟩ = some (.int .i64 0) ∧ W'.cell? ⟨g, 25, none⟩ = some (.int .i64 11) ∧ W'.cell? ⟨g, 26, none⟩ = some (.int .i64 0) ∧ W'.cell? ⟨g, 27, none⟩ = some (.int .i64 0) ∧ W'.cell? ⟨g, 35, none⟩ = some (.int .i64 2) ∧ W'.cell? ⟨g, 36, none⟩ = some (.int .i64 1) ∧ W'.cell? ⟨g, 37, none⟩ = some (.int .i64 1) ∧ W'.cell? ⟨g, 38, none⟩ = some (.int .i64 3) ∧ W'.cell? ⟨g, 39, none⟩ = some (.int .i64 0) ∧ W'.cell? ⟨g, 40, none⟩ = some (.int .i64 0) ∧ W'.cell? ⟨g, 41, none⟩ = some (.int .i64 0) ∧ W'.cell? ⟨g, 49, none⟩ = some (.int .i64 3) ∧ W'.cell? ⟨g, 50, none⟩ = some (.int .i64 1) ∧ W'.cell? ⟨g, 51, none⟩ = some (.int .i64 0) ∧ W'.cell? ⟨g, 52, none⟩ = some (.int .i64 0) ∧ W'.cell? ⟨g, 53, none⟩ = some (.int .i64 5) ∧ W'.cell? ⟨g, 54, none⟩ = some (.int .i64 0) ∧ W'.cell? ⟨g, 55, none⟩ = some (.int .i64 0) ∧ Below w10.heap.size w10 W' := by
  obtain ⟨h0, h1, h2, h3, h4, h5, h6, h7, h8, h9, h10, h11, h12, h13, h14, h15, h16, h17, h18, h19, h20, h21, h22, h23, h24, h25, h26, h27, h28, h29, h30, h31, h32, h33, h34, h35, h36, h37, h38, h39, h40⟩ := h
  exact ⟨cell_later' hb h0, cell_later' hb h1, cell_later' hb h2, cell_later' hb h3, cell_later' hb h4, cell_later' hb h5, cell_later' hb h6, cell_later' hb h7, cell_later' hb h8, cell_later' hb h9, cell_later' hb h10, cell_later' hb h11, cell_later' hb h12, cell_later' hb h13, cell_later' hb h14, cell_later' hb h15, cell_later' hb h16, cell_later' hb h17, cell_later' hb h18, cell_later' hb h19, cell_later' hb h20, cell_later' hb h21, cell_later' hb h22, cell_later' hb h23, cell_later' hb h24, cell_later' hb h25, cell_later' hb h26, cell_later' hb h27, cell_later' hb h28, cell_later' hb h29, cell_later' hb h30, cell_later' hb h31, cell_later' hb h32, cell_later' hb h33, cell_later' hb h34, cell_later' hb h35, cell_later' hb h36, cell_later' hb h37, cell_later' hb h38, cell_later' hb h39, below_step h40 hb⟩
set_option maxRecDepth 100000 in
set_option maxHeartbeats 4000000 in
theorem known_true (w : World) : Calls Try.prog 18 #[] w fun e w' => e = .returned (.bool true) ∧ Below w.heap.size w w' := by
  go_enter Try.func18, Try.ntmps18
  go_upto_region 2 with (go_at_call 48; (with_reducible refine (kn_example _).mono ?_); rintro e w1 ⟨g, cl, rfl, hcl, hg, hgl, hO1, hr1, hb1⟩)
  have HO1 := Lib.hid hO1
  have Hr1 := Lib.hid hr1
  have hc4 : (4 : Int) ≤ cl := by omega
  have hc4' : 4 ≤ cl := by omega
  clear hO1 hr1
  go_upto_region 6 with (first
    | (go_at_call 12; (with_reducible refine (kn_stands _ cl _ Hr1.out hcl).mono ?_); rintro e w2 ⟨Aa, ca, rfl, hOa, hra, hb2⟩)
    | (go_at_call 14; (with_reducible refine (kn_marks _ cl _ (news_later Hr1.out hb2) hcl).mono ?_); rintro e w3 ⟨Am, cm, rfl, hOm, hrm, hb3⟩)
    | (go_at_call 24; (with_reducible refine (kn_late _ cl _ (news_later (news_later Hr1.out hb2) hb3) hcl).mono ?_); rintro e w4 ⟨At, ct, rfl, hOt, hrt, hb4⟩)
    | (go_at_call 21; (with_reducible refine (kn_least _ cl _ (news_later (news_later (news_later Hr1.out hb2) hb3) hb4) hcl).mono ?_); rintro e w5 ⟨Al, cL, rfl, hOl, hrl, hb5⟩))
  have hz1 := hb1.size
  have hz2 := hb2.size
  have hz3 := hb3.size
  have hz4 := hb4.size
  have hz5 := hb5.size
  have hB15 : Below w1.heap.size w1 w5 := below_step (below_step (below_step hb2 hb3) hb4) hb5
  have hz15 := hB15.size
  have hOa5 := Lib.hid (own_later (own_later (own_later hOa hb3) hb4) hb5)
  have hOm5 := Lib.hid (own_lower (own_later (own_later hOm hb4) hb5) (show w1.heap.size ≤ w2.heap.size by omega))
  have hOt5 := Lib.hid (own_lower (own_later hOt hb5) (show w1.heap.size ≤ w3.heap.size by omega))
  have hOl5 := Lib.hid (own_lower hOl (show w1.heap.size ≤ w4.heap.size by omega))
  have hr5 := Lib.hid (news_later Hr1.out hB15)
  have hO15 := Lib.hid (own_later HO1.out hB15)
  have hw5 : Below w.heap.size w w5 := below_step hb1 hB15
  clear hOa hra hOm hrm hOt hrt hOl hrl hb2 hb3 hb4 hb5 hb1 HO1 Hr1 hz2 hz3 hz4
  obtain ⟨d0, d1, d2, d3, d4, d5, d6⟩ := ex_cell hr5.out 4 (sayN 0 1 2 10 1 6) rfl (by omega)
  simp only [Nat.reduceMul, Nat.reduceAdd, sayN] at d0 d1 d2 d3 d4 d5 d6
  go_cut [10, 11, 12] (fun v10 v11 v12 wc => ∃ Aw cw Ai ci, v10 = .slice Aw 1 cw ∧ v11 = .slice Ai 1 ci ∧ v12 = .int .i64 0 ∧ Aside (Own kEvent 49 wc w1.heap.size (.slice Aw 1 cw) [⟨0, 1, ⟨10, 1, 5⟩⟩]) ∧ Aside (Own kEvent 49 wc w1.heap.size (.slice Ai 1 ci) [⟨0, 1, ⟨10, 1, 6⟩⟩]) ∧ Aside (Below w5.heap.size w5 wc))
  case first =>
    go_region_held3 (fun W => W.cell? ⟨g, 28, none⟩ = some (.int .i64 1) ∧ W.cell? ⟨g, 29, none⟩ = some (.int .i64 0) ∧ W.cell? ⟨g, 30, none⟩ = some (.int .i64 1) ∧ W.cell? ⟨g, 31, none⟩ = some (.int .i64 2) ∧ W.cell? ⟨g, 32, none⟩ = some (.int .i64 10) ∧ W.cell? ⟨g, 33, none⟩ = some (.int .i64 1) ∧ W.cell? ⟨g, 34, none⟩ = some (.int .i64 6) ∧ NewsRow W (some ⟨g, 0, none⟩) 8 exN ∧ Below w5.heap.size w5 W)
      (first | assumption | exact knS_step (by assumption) (by assumption) | exact knS_step ⟨d0, d1, d2, d3, d4, d5, d6, hr5.out, Below.refl _ _⟩ (by repeat (first | exact Below.refl _ _ | assumption | apply below_alloc | apply below_drew1)))
      (first
        | (go_at_call 19; (with_reducible refine (kn_step _ cl _ (by go_split_ands; exact news_take (by assumption) 4 (by omega)) hc4').mono ?_); rintro e w6 ⟨Aw, cw, Ai, ci, rfl, hOw, hOi, hb6⟩; have hbz : Below w5.heap.size w5 _ := (by go_split_ands; assumption))
        | fail)
    all_goals go_wp2
    all_goals go_meet
    all_goals (case rel => exact ⟨_, _, _, _, rfl, rfl, rfl, ⟨own_lower hOw (by have := hbz.size; omega)⟩, ⟨own_lower hOi (by have := hbz.size; omega)⟩, ⟨below_step hbz hb6⟩⟩)
  case rest =>
    obtain ⟨Aw, cw, Ai, ci, rfl, rfl, rfl, hOw, hOi, hb6⟩ := hcut
    have hO16 := Lib.hid (own_later hO15.out hb6.out)
    have hr6 := Lib.hid (news_later hr5.out hb6.out)
    clear d0 d1 d2 d3 d4 d5 d6
    have hb6' := hb6.out
    go_upto_region 14 with (first
      | (go_at_call 31; (with_reducible refine (kn_clash _ cl _ hr6.out hcl).mono ?_); rintro e w7 ⟨rfl, hb7⟩)
      | (go_at_call 49; (with_reducible refine (kn_say _).mono ?_); rintro e w8 ⟨rfl, hb8⟩)
      | (at_builtin; refine wpList_append_keep rfl (.tmp 84) (.tmp 86) rfl w.heap.size _ exN (sayN 1 1 3 4 1 2) 9 rfl rfl rfl ?aO ?aS ?aP ?aL ?_; (case aO => exact own_later hO16.out (by repeat (first | exact Below.refl _ _ | assumption | apply below_alloc | apply below_drew1 | apply pw_below_drewN | refine below_step ?_ (by assumption)))); (case aS => (have q1 := hb6'.size; have q2 := hb7.size; have q3 := hb8.size; simp at q3; omega)); (case aP => decide); (case aL => decide); intro A9 c9 w9 hc9 hr9 hold9 hb9 hg9; replace hc9 : 9 ≤ c9 := hc9; replace hr9 : NewsRow w9 A9 9 (exN ++ [sayN 1 1 3 4 1 2]) := hr9; replace hold9 : NewsRow w9 (some ⟨g, 0, none⟩) 8 exN := hold9 _ _ rfl)
      | (go_at_call 31; (with_reducible refine (kn_clash2 A9 c9 _ hr9 hc9).mono ?_); rintro e w10 ⟨rfl, hb10⟩))
    have hg9' : (w8).grownBy w9 (some g) := hg9
    have q6 := hb6'.size
    have q7 := hb7.size
    have q8 := hb8.size
    have q9 := hb9.size
    have q10 := hb10.size
    simp only [World.size_alloc] at q8
    have hBc8 : Below wc.heap.size wc w8 := (by repeat (first | exact Below.refl _ _ | assumption | apply below_alloc | apply below_drew1 | apply pw_below_drewN | refine below_step ?_ (by assumption)))
    have hB58 : Below w5.heap.size w5 w8 := below_step hb6' hBc8
    have hrange : ∀ {α : Type} {d : Kd α} {t : Nat} {v : Value} {xs : List α}, Own d t w5 w1.heap.size v xs → Own d t w10 w1.heap.size v xs := fun h => own_later (own_off (own_later h hB58) hg9' hgl) hb10
    have ha10 := hrange hOa5.out
    have hm10 := hrange hOm5.out
    have ht10 := hrange hOt5.out
    have hl10 := hrange hOl5.out
    have hw10 : Below w.heap.size w w10 := below_trans (below_trans (below_step hw5 hB58) hb9) (below_lower hb10 (by omega))
    have hwa : Own kEvent 49 (w7.alloc (.cells #[.int .i64 0, .int .i64 1, .int .i64 10, .int .i64 1, .int .i64 6, .int .i64 0, .int .i64 2, .int .i64 12, .int .i64 1, .int .i64 7] 49)) w1.heap.size (.slice (some ⟨w7.heap.size, 0, none⟩) 2 2) [⟨0, 1, ⟨10, 1, 6⟩⟩, ⟨0, 2, ⟨12, 1, 7⟩⟩] :=
      own_list kEvent 49 encE (fun _ => rfl) (fun w base ok x => kEvent_mkM w base ok x) w7 w1.heap.size (by omega) [⟨0, 1, ⟨10, 1, 6⟩⟩, ⟨0, 2, ⟨12, 1, 7⟩⟩] (by simp [maxLen])
    have hwa10 := own_later (own_off (own_later hwa hb8) hg9' hgl) hb10
    have hra := Lib.hid (Kd.R_reads' ha10).2.2
    have hrw := Lib.hid (Kd.R_reads' hwa10).2.2
    have hrl := Lib.hid (Kd.R_reads' hl10).2.2
    have hlr := news_later hold9 hb10
    obtain ⟨gm, rfl⟩ := own_at0 hm10 (by decide)
    obtain ⟨gt, rfl⟩ := own_at0 ht10 (by decide)
    have hOw10 := own_later (own_off (own_later hOw.out hBc8) hg9' hgl) hb10
    have hOi10 := own_later (own_off (own_later hOi.out hBc8) hg9' hgl) hb10
    obtain ⟨gw, rfl⟩ := own_at0 hOw10 (by decide)
    obtain ⟨gi, rfl⟩ := own_at0 hOi10 (by decide)
    have m0 := own_ints hm10 0 11 rfl
    have m1 := own_ints hm10 1 5 rfl
    have t0 := own_ints ht10 0 4 rfl
    have v0 := own_val hOw10
    have v1 := own_val hOi10
    dsimp only at v0 v1
    obtain ⟨n40, n41, n42, n43, n44, n45, n46⟩ := ex_cell hlr 4 (sayN 0 1 2 10 1 6) rfl (by omega)
    obtain ⟨n20, n21, n22, n23, n24, n25, n26⟩ := ex_cell hlr 2 (sayN 0 2 1 12 1 7) rfl (by omega)
    obtain ⟨n30, n31, n32, n33, n34, n35, n36⟩ := ex_cell hlr 3 ⟨3, 0, 0, 0, ⟨11, 0, 0⟩⟩ rfl (by omega)
    obtain ⟨n50, n51, n52, n53, n54, n55, n56⟩ := ex_cell hlr 5 ⟨2, 1, 1, 3, ⟨0, 0, 0⟩⟩ rfl (by omega)
    obtain ⟨n70, n71, n72, n73, n74, n75, n76⟩ := ex_cell hlr 7 ⟨3, 1, 0, 0, ⟨5, 0, 0⟩⟩ rfl (by omega)
    simp only [Nat.reduceMul, Nat.reduceAdd, sayN] at n40 n41 n42 n43 n44 n45 n46 n20 n21 n22 n23 n24 n25 n26 n30 n31 n32 n33 n34 n35 n36 n50 n51 n52 n53 n54 n55 n56 n70 n71 n72 n73 n74 n75 n76
    have Hw10 := Lib.hid hw10
    clear hw10 hm10 ht10 hOw10 hOi10 hOw hOi ha10 hl10 hwa hwa10 hrange hlr hold9 hr9 hb9 hg9 hg9' hb10 hb8 hb7 hB58 hb6 hb6' hO16 hr6 hw5 hO15 hr5 hOa5 hOm5 hOt5 hOl5 hB15 q6 q7 q8 q9 q10 hz1 hz5 hz15
    generalize w7.heap.size = bw at *
    go_cut [0] (fun v0 wd => v0 = .bool true ∧ Aside (Below w10.heap.size w10 wd))
    case first =>
      simp only [List.append_eq, List.cons_append, List.nil_append]
      go_region_held3 (fun W => W.cell? ⟨gm, 0, none⟩ = some (.int .i64 11) ∧ W.cell? ⟨gm, 1, none⟩ = some (.int .i64 5) ∧ W.cell? ⟨gt, 0, none⟩ = some (.int .i64 4) ∧ W.cell? ⟨gw, 4, none⟩ = some (.int .i64 5) ∧ W.cell? ⟨gi, 4, none⟩ = some (.int .i64 6) ∧ W.cell? ⟨g, 28, none⟩ = some (.int .i64 1) ∧ W.cell? ⟨g, 29, none⟩ = some (.int .i64 0) ∧ W.cell? ⟨g, 30, none⟩ = some (.int .i64 1) ∧ W.cell? ⟨g, 31, none⟩ = some (.int .i64 2) ∧ W.cell? ⟨g, 32, none⟩ = some (.int .i64 10) ∧ W.cell? ⟨g, 33, none⟩ = some (.int .i64 1) ∧ W.cell? ⟨g, 34, none⟩ = some (.int .i64 6) ∧ W.cell? ⟨g, 14, none⟩ = some (.int .i64 1) ∧ W.cell? ⟨g, 15, none⟩ = some (.int .i64 0) ∧ W.cell? ⟨g, 16, none⟩ = some (.int .i64 2) ∧ W.cell? ⟨g, 17, none⟩ = some (.int .i64 1) ∧ W.cell? ⟨g, 18, none⟩ = some (.int .i64 12) ∧ W.cell? ⟨g, 19, none⟩ = some (.int .i64 1) ∧ W.cell? ⟨g, 20, none⟩ = some (.int .i64 7) ∧ W.cell? ⟨g, 21, none⟩ = some (.int .i64 3) ∧ W.cell? ⟨g, 22, none⟩ = some (.int .i64 0) ∧ W.cell? ⟨g, 23, none⟩ = some (.int .i64 0) ∧ W.cell? ⟨g, 24, none⟩ = some (.int .i64 0) ∧ W.cell? ⟨g, 25, none⟩ = some (.int .i64 11) ∧ W.cell? ⟨g, 26, none⟩ = some (.int .i64 0) ∧ W.cell? ⟨g, 27, none⟩ = some (.int .i64 0) ∧ W.cell? ⟨g, 35, none⟩ = some (.int .i64 2) ∧ W.cell? ⟨g, 36, none⟩ = some (.int .i64 1) ∧ W.cell? ⟨g, 37, none⟩ = some (.int .i64 1) ∧ W.cell? ⟨g, 38, none⟩ = some (.int .i64 3) ∧ W.cell? ⟨g, 39, none⟩ = some (.int .i64 0) ∧ W.cell? ⟨g, 40, none⟩ = some (.int .i64 0) ∧ W.cell? ⟨g, 41, none⟩ = some (.int .i64 0) ∧ W.cell? ⟨g, 49, none⟩ = some (.int .i64 3) ∧ W.cell? ⟨g, 50, none⟩ = some (.int .i64 1) ∧ W.cell? ⟨g, 51, none⟩ = some (.int .i64 0) ∧ W.cell? ⟨g, 52, none⟩ = some (.int .i64 0) ∧ W.cell? ⟨g, 53, none⟩ = some (.int .i64 5) ∧ W.cell? ⟨g, 54, none⟩ = some (.int .i64 0) ∧ W.cell? ⟨g, 55, none⟩ = some (.int .i64 0) ∧ Below w10.heap.size w10 W)
        (first | assumption | exact kn14_step (by assumption) (by assumption) | exact kn14_step (by assumption) (below_alloc (Below.refl _ _) _) | exact kn14_step ⟨m0, m1, t0, v0, v1, n40, n41, n42, n43, n44, n45, n46, n20, n21, n22, n23, n24, n25, n26, n30, n31, n32, n33, n34, n35, n36, n50, n51, n52, n53, n54, n55, n56, n70, n71, n72, n73, n74, n75, n76, Below.refl _ _⟩ (by repeat (first | exact Below.refl _ _ | assumption | apply below_alloc | apply below_drew1)))
        (first
          | (go_at_call 16; (with_reducible refine (kn_same_events _ _ _ _ _ (Kd.C_below hra.out (by go_split_ands; assumption)) (Kd.C_below hrw.out (by go_split_ands; assumption))).mono ?_); rintro e w11 ⟨rfl, hb11⟩)
          | (go_at_call 23; (with_reducible refine (kn_same_news _ _ _ _ _ (Kd.C_below hrl.out (by go_split_ands; assumption)) (by first | exact lit_exL _ | exact Kd.C_drew (lit_exL _))).mono ?_); rintro e w12 ⟨rfl, hb12⟩)
          | fail)
      all_goals go_wp2
      all_goals go_meet
      all_goals (case rel => exact ⟨rfl, ⟨by first | (go_split_ands; assumption) | assumption⟩⟩)
    case rest =>
      obtain ⟨rfl, hB⟩ := hcut
      go_wp2
      go_ret
      exact ⟨rfl, below_step Hw10.out hB.out⟩
end Go.Proofs.Ytdpkpibcjbllcaa
