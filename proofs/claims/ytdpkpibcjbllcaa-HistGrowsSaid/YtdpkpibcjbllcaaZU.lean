/-
  Texts of one hand, laid together: GrowsW, GrowsP.
-/
import Derived.Test.YtdpkpibcjbllcaaZT
set_option linter.unusedVariables false
set_option linter.unusedSimpArgs false
/-! The law's own functions on lists of events. -/
namespace Go.Proofs.Ytdpkpibcjbllcaa
open Go.RowKit Go.Proofs.YtdpkpibcjbllcaaW.PrintWords

abbrev EvRow (w : World) (A : Option Addr) (n : Nat) (l : List Event) : Prop := Kd.C kEvent w A n l
abbrev LE2 (W1 W : World) (a1 a2 : Addr) (i j : Nat) (x y : Event) : Prop := (W.cell? (a1.add (i * 5)) = some (.int .i64 x.src) ∧ W.cell? ⟨(a1.add (i * 5)).block, (a1.add (i * 5)).off + 1, none⟩ = some (.int .i64 x.id) ∧ W.cell? ⟨(a1.add (i * 5)).block, (a1.add (i * 5)).off + 2, none⟩ = some (.int .i64 x.body.at_) ∧ W.cell? ⟨(a1.add (i * 5)).block, (a1.add (i * 5)).off + 3, none⟩ = some (.int .i64 x.body.key) ∧ W.cell? ⟨(a1.add (i * 5)).block, (a1.add (i * 5)).off + 4, none⟩ = some (.int .i64 x.body.val)) ∧
  (W.cell? (a2.add (j * 5)) = some (.int .i64 y.src) ∧ W.cell? ⟨(a2.add (j * 5)).block, (a2.add (j * 5)).off + 1, none⟩ = some (.int .i64 y.id) ∧ W.cell? ⟨(a2.add (j * 5)).block, (a2.add (j * 5)).off + 2, none⟩ = some (.int .i64 y.body.at_) ∧ W.cell? ⟨(a2.add (j * 5)).block, (a2.add (j * 5)).off + 3, none⟩ = some (.int .i64 y.body.key) ∧ W.cell? ⟨(a2.add (j * 5)).block, (a2.add (j * 5)).off + 4, none⟩ = some (.int .i64 y.body.val)) ∧ Below W1.heap.size W1 W
theorem LE2.step {W1 W W' : World} {a1 a2 : Addr} {i j : Nat} {x y : Event} (h : LE2 W1 W a1 a2 i j x y) (hb : Below W.heap.size W W') : LE2 W1 W' a1 a2 i j x y := by
  obtain ⟨⟨h0, h1, h2, h3, h4⟩, ⟨g0, g1, g2, g3, g4⟩, h9⟩ := h
  exact ⟨⟨cell_laterA hb h0, cell_laterA hb h1, cell_laterA hb h2, cell_laterA hb h3, cell_laterA hb h4⟩, ⟨cell_laterA hb g0, cell_laterA hb g1, cell_laterA hb g2, cell_laterA hb g3, cell_laterA hb g4⟩, below_step h9 hb⟩
set_option maxRecDepth 100000 in
set_option maxHeartbeats 4000000 in
theorem law_sameSet (a b : List Event) (A B : Option Addr) (ca cb : Nat) (w : World) (hr : EvRow w A a.length a) (hr2 : EvRow w B b.length b) (hl : a.length = b.length) (hs : ∀ x ∈ a, x ∈ b) :
    Calls Try.prog 29 #[.slice A a.length ca, .slice B b.length cb] w fun e w' => e = .returned (.bool true) ∧ Below w.heap.size w w' := by
  have Hr := Lib.hid hr
  have Hr2 := Lib.hid hr2
  have ham : a.length ≤ 9223372036854775807 := hr.2.1
  have hbm : b.length ≤ 9223372036854775807 := hr2.2.1
  have Hs := Lib.hid hs
  clear hr hr2 hs
  generalize hn : b.length = n at *
  have Hn := Lib.hid hn
  have Hl := Lib.hid hl
  rw [hl] at Hr ham ⊢
  clear hl hn ham
  have hA : (n : Int) ≤ 9223372036854775807 := by omega
  go_enter Try.func29, Try.ntmps29
  go_wp2
  go_loopw [5] (fun i wr => ∃ k : Nat, k ≤ n ∧ i = .int .i64 k ∧ Below w.heap.size w wr) (fun i _ => n - (intOf i).toNat)
  case atStart => exact ⟨0, Nat.zero_le _, rfl, Below.refl _ _⟩
  case round =>
    obtain ⟨k, hk, rfl, hB⟩ := hrel
    by_cases hlt : k < n
    · obtain ⟨x, a1, hd, htk, hget, rfl, e0, e1, e2, e3, e4⟩ := event_at (Kd.C_below Hr.out hB) k hlt
      have hxb := Hs.out x (List.mem_of_getElem? hget)
      have Hxb := Lib.hid (show b.any (fun y => eventEq x y) = true from List.any_eq_true.2 ⟨x, hxb, by simp [eventEq]⟩)
      clear hd htk hget hxb
      go_wp2
      go_loopw [6, 7] (fun h i wr2 => ∃ j : Nat, j ≤ n ∧ i = .int .i64 j ∧ h = .bool ((b.take j).any (fun y => eventEq x y)) ∧ Below wr.heap.size wr wr2) (fun _ i _ => n - (intOf i).toNat)
      case atStart => exact ⟨0, Nat.zero_le _, rfl, rfl, Below.refl _ _⟩
      case round =>
        obtain ⟨j, hj, rfl, rfl, hB2⟩ := hrel
        by_cases hjl : j < n
        · obtain ⟨y, a2, hd, htk, hget, rfl, f0, f1, f2, f3, f4⟩ := event_at (Kd.C_below (Kd.C_below Hr2.out hB) hB2) j hjl
          have hany : (b.take (j + 1)).any (fun y => eventEq x y) = ((b.take j).any (fun y => eventEq x y) || eventEq x y) := by rw [htk, List.any_append]; simp
          have Hany := Lib.hid hany
          have g0 := cell_laterA hB2 e0
          have g1 := cell_laterA hB2 e1
          have g2 := cell_laterA hB2 e2
          have g3 := cell_laterA hB2 e3
          have g4 := cell_laterA hB2 e4
          clear hd htk hget hany
          cases hacc : (b.take j).any (fun y => eventEq x y)
          all_goals
            have Hacc := Lib.hid hacc
            clear hacc
            go_upto_region 10 with (fail)
            refine wp_region_ord [(0, true), (1, true), (2, true), (3, true), (4, true), (5, true), (6, true), (7, true), (8, true), (9, true), (10, true), (11, true), (12, true)] (fun W => LE2 wr W a1 a2 k j x y) (fun _ _ h hb => LE2.step h hb) (by kernel_rfl) (by kernel_rfl) (LE2.step ⟨⟨g0, g1, g2, g3, g4⟩, ⟨f0, f1, f2, f3, f4⟩, Below.refl _ _⟩ (below_drew1 (Below.refl _ _))) ?_
            simp only [pickOps, List.getElem?_cons_succ, List.getElem?_cons_zero]
            repeat (refine ord_calm (fun K hK => ?_); go_simp; first | (refine hK _ ?_; clear hK K) | (apply Exists.intro; refine ⟨fun W hC => ?_, hK _ ?_⟩; (first | rfl | (obtain ⟨⟨⟨h0, h1, h2, h3, h4⟩, ⟨q0, q1, q2, q3, q4⟩, h9⟩⟩ := hC; go_simp; done) | (obtain ⟨⟨⟨h0, h1, h2, h3, h4⟩, ⟨q0, q1, q2, q3, q4⟩, h9⟩⟩ := hC; go_simp; rfl)); clear hK K))
            refine ord_nil ?_
            intro W hC
            have HC := Lib.hid hC.out.2.2
            clear hC
            go_wp2
            exact ⟨⟨j + 1, by omega, by go_num, by rw [Hany.out, Hacc.out]; first | rfl | simp, below_step hB2 HC.out⟩, by simp [intOf]; omega⟩
        · have hjk : b.take j = b := List.take_of_length_le (by rw [Hn.out]; omega)
          rw [hjk, Hxb.out]
          clear hjk
          go_wp2
          exact ⟨⟨k + 1, by omega, by go_num, below_step hB hB2⟩, by simp [intOf]; omega⟩
    · go_wp2
      go_ret
      exact ⟨rfl, hB⟩
set_option maxRecDepth 100000 in
set_option maxHeartbeats 4000000 in
theorem law_replace0 (fE : List Event → List Event) (hf0 : fE [] = []) (hfl : ∀ l, (fE l).length ≤ l.length) (hstep : ∀ l x, fE (l ++ [x]) = fE l ++ [x]) (l is : List Event) (A B Ci : Option Addr) (ca cb ci : Nat) (w : World) (hr : EvRow w A l.length l) (hi : EvRow w Ci is.length is) (hl : l.length ≤ 100) (hil : is.length ≤ 100) :
    Calls Try.prog 30 #[.slice A l.length ca, .slice B 0 cb, .slice Ci is.length ci] w (OwnPost kEvent 49 w (fE l ++ is)) := by
  have Hr := Lib.hid hr
  have Hi := Lib.hid hi
  have Hst := Lib.hid hstep
  have hfl1 := hfl l
  clear hr hi hstep
  go_enter Try.func30, Try.ntmps30
  go_wp2
  go_loopw [7, 8] (fun v i wr => ∃ k : Nat, k ≤ l.length ∧ i = .int .i64 k ∧ Own kEvent 49 wr w.heap.size v (fE (l.take k)) ∧ Below w.heap.size w wr) (fun _ i _ => l.length - (intOf i).toNat)
  case atStart => exact ⟨0, Nat.zero_le _, rfl, by rw [List.take_zero, hf0]; exact Kd.R_nil _ _ _ _ _, Below.refl _ _⟩
  case round =>
    obtain ⟨k, hk, rfl, hO, hB⟩ := hrel
    have HO := Lib.hid hO
    clear hO
    by_cases hlt : k < l.length
    · obtain ⟨x, ad, hd, htk, hget, rfl, e0, e1, e2, e3, e4⟩ := event_at (Kd.C_below Hr.out hB) k hlt
      have hfk := hfl (l.take k)
      have htl : (l.take k).length = k := by rw [List.length_take]; omega
      rw [htl] at hfk
      have hst := Hst.out (l.take k) x
      rw [← htk] at hst
      have HS := Lib.hid hst
      clear hd htk hget hst htl
      go_upto_region 5 with (fail)
      go_quiet (fail)
      have HO := Lib.hid (own_later HO.out (pw_below_drewN (Below.refl _ _) nq))
      have hB := pw_below_drewN hB nq
      go_wp2_with (at_builtin; refine Kd.R_append kEvent (w0 := w) w.heap.size rfl (.tmp 28) (.tmp 33) 23 49 (.agg #[(.int .i64 0), (.int .i64 0), (.int .i64 0), (.int .i64 0), (.int .i64 0)]) 40 rfl Try.underlying23 info_event rfl (by decide) (by omega) _ (fE (l.take k)) x [.int .i64 x.src, .int .i64 x.id, .int .i64 x.body.at_, .int .i64 x.body.key, .int .i64 x.body.val] (fun _ => True) (fun _ => False) rfl rfl ?aP (fun _ hk => hk.elim) ?aF ?aO ?aB ?aS ?aL ?_; (case aP => exact kEvent_mkM _ _ _ _); (case aF => exact (fun _ _ => trivial)); (case aO => exact HO.out); (case aB => exact hB); (case aS => exact hB.size); (case aL => omega); intro v9 w9 ho9 hb9 hg9 hat9)
      exact ⟨⟨k + 1, by omega, by go_num, by rw [HS.out]; exact ho9, hb9⟩, by simp [intOf]; omega⟩
    · have hkl : l.take k = l := by rw [List.take_of_length_le (by omega)]
      rw [hkl] at HO
      clear hkl
      go_wp2_with (at_builtin; refine Kd.R_append_rows kEvent (w0 := w) w.heap.size rfl (.tmp 35) (.tmp 36) 23 49 (.agg #[(.int .i64 0), (.int .i64 0), (.int .i64 0), (.int .i64 0), (.int .i64 0)]) 40 rfl Try.underlying23 info_event rfl (by decide) (by omega) _ (fE l) is _ _ _ (fun _ => True) (fun _ => False) rfl rfl ?aO ?aR (fun _ _ h => h) (fun _ h => h.elim) ?aF ?aB ?aS ?aL ?_; (case aO => exact HO.out); (case aR => exact (Kd.C_below Hi.out hB)); (case aF => exact (fun _ _ => trivial)); (case aB => exact hB); (case aS => exact hB.size); (case aL => omega); intro v10 w10 ho10 hb10 hg10 hat10)
      go_ret
      exact ⟨_, rfl, ho10, hb10⟩
set_option maxRecDepth 100000 in
set_option maxHeartbeats 4000000 in
theorem law_replace1 (u : Event) (ub : Addr) (fE : List Event → List Event) (hf0 : fE [] = []) (hfl : ∀ l, (fE l).length ≤ l.length) (hstep : ∀ l x, fE (l ++ [x]) = if eventEq x u = true then fE l else fE l ++ [x]) (l is : List Event) (A Ci : Option Addr) (ca cb ci : Nat) (w : World) (hr : EvRow w A l.length l) (hu : w.cell? ub = some (.int .i64 u.src) ∧ w.cell? ⟨ub.block, ub.off + 1, none⟩ = some (.int .i64 u.id) ∧ w.cell? ⟨ub.block, ub.off + 2, none⟩ = some (.int .i64 u.body.at_) ∧ w.cell? ⟨ub.block, ub.off + 3, none⟩ = some (.int .i64 u.body.key) ∧ w.cell? ⟨ub.block, ub.off + 4, none⟩ = some (.int .i64 u.body.val)) (hi : EvRow w Ci is.length is) (hl : l.length ≤ 100) (hil : is.length ≤ 100) :
    Calls Try.prog 30 #[.slice A l.length ca, .slice (some ub) 1 cb, .slice Ci is.length ci] w (OwnPost kEvent 49 w (fE l ++ is)) := by
  have Hr := Lib.hid hr
  have Hi := Lib.hid hi
  have Hst := Lib.hid hstep
  have hfl1 := hfl l
  have Hu := Lib.hid hu
  clear hu
  clear hr hi hstep
  go_enter Try.func30, Try.ntmps30
  go_wp2
  go_loopw [7, 8] (fun v i wr => ∃ k : Nat, k ≤ l.length ∧ i = .int .i64 k ∧ Own kEvent 49 wr w.heap.size v (fE (l.take k)) ∧ Below w.heap.size w wr) (fun _ i _ => l.length - (intOf i).toNat)
  case atStart => exact ⟨0, Nat.zero_le _, rfl, by rw [List.take_zero, hf0]; exact Kd.R_nil _ _ _ _ _, Below.refl _ _⟩
  case round =>
    obtain ⟨k, hk, rfl, hO, hB⟩ := hrel
    have HO := Lib.hid hO
    clear hO
    by_cases hlt : k < l.length
    · obtain ⟨x, ad, hd, htk, hget, rfl, e0, e1, e2, e3, e4⟩ := event_at (Kd.C_below Hr.out hB) k hlt
      have hfk := hfl (l.take k)
      have htl : (l.take k).length = k := by rw [List.length_take]; omega
      rw [htl] at hfk
      have hst := Hst.out (l.take k) x
      rw [← htk] at hst
      have HS := Lib.hid hst
      clear hd htk hget hst htl
      obtain ⟨u0, u1, u2, u3, u4⟩ := Hu.out
      have g0 := cell_laterA hB u0
      have g1 := cell_laterA hB u1
      have g2 := cell_laterA hB u2
      have g3 := cell_laterA hB u3
      have g4 := cell_laterA hB u4
      clear u0 u1 u2 u3 u4
      cases hxu : eventEq x u
      all_goals
        have Hxu := Lib.hid hxu
        go_upto_region 5 with (fail)
        go_quiet (fail)
        have HO := Lib.hid (own_later HO.out (pw_below_drewN (Below.refl _ _) nq))
        have hB := pw_below_drewN hB nq
      · go_wp2_with (at_builtin; refine Kd.R_append kEvent (w0 := w) w.heap.size rfl (.tmp 28) (.tmp 33) 23 49 (.agg #[(.int .i64 0), (.int .i64 0), (.int .i64 0), (.int .i64 0), (.int .i64 0)]) 40 rfl Try.underlying23 info_event rfl (by decide) (by omega) _ (fE (l.take k)) x [.int .i64 x.src, .int .i64 x.id, .int .i64 x.body.at_, .int .i64 x.body.key, .int .i64 x.body.val] (fun _ => True) (fun _ => False) rfl rfl ?aP (fun _ hk => hk.elim) ?aF ?aO ?aB ?aS ?aL ?_; (case aP => exact kEvent_mkM _ _ _ _); (case aF => exact (fun _ _ => trivial)); (case aO => exact HO.out); (case aB => exact hB); (case aS => exact hB.size); (case aL => omega); intro v9 w9 ho9 hb9 hg9 hat9)
        exact ⟨⟨k + 1, by omega, by go_num, by rw [HS.out, Hxu.out]; exact ho9, hb9⟩, by simp [intOf]; omega⟩
      · go_wp2
        exact ⟨⟨k + 1, by omega, by go_num, by rw [HS.out, Hxu.out]; exact HO.out, hB⟩, by simp [intOf]; omega⟩
    · have hkl : l.take k = l := by rw [List.take_of_length_le (by omega)]
      rw [hkl] at HO
      clear hkl
      go_wp2_with (at_builtin; refine Kd.R_append_rows kEvent (w0 := w) w.heap.size rfl (.tmp 35) (.tmp 36) 23 49 (.agg #[(.int .i64 0), (.int .i64 0), (.int .i64 0), (.int .i64 0), (.int .i64 0)]) 40 rfl Try.underlying23 info_event rfl (by decide) (by omega) _ (fE l) is _ _ _ (fun _ => True) (fun _ => False) rfl rfl ?aO ?aR (fun _ _ h => h) (fun _ h => h.elim) ?aF ?aB ?aS ?aL ?_; (case aO => exact HO.out); (case aR => exact (Kd.C_below Hi.out hB)); (case aF => exact (fun _ _ => trivial)); (case aB => exact hB); (case aS => exact hB.size); (case aL => omega); intro v10 w10 ho10 hb10 hg10 hat10)
      go_ret
      exact ⟨_, rfl, ho10, hb10⟩
end Go.Proofs.Ytdpkpibcjbllcaa
set_option linter.unusedVariables false
set_option linter.unusedSimpArgs false
/-! What stands after one more: plain. -/
namespace Go.Proofs.Ytdpkpibcjbllcaa
open Go.RowKit Go.Proofs.YtdpkpibcjbllcaaW.PrintWords

def keyE (e : Event) : Key := ⟨e.src, e.id⟩
theorem standsK_key {L : List (Key × News)} {k : Key} {e : Event} (h : e ∈ standsK L k) : keyE e = k := by
  obtain ⟨n, _, _, rfl⟩ := (mem_standsK L k e).1 h
  rfl
theorem outE_key (l : List News) (e : Event) : e ∈ outE l ↔ e ∈ standsK (hearAll l).1 (keyE e) := by
  rw [mem_outE]
  constructor
  · rintro ⟨k, n, h1, h2, rfl⟩
    exact (mem_standsK _ _ _).2 ⟨n, h1, h2, rfl⟩
  · intro h
    obtain ⟨n, h1, h2, h3⟩ := (mem_standsK _ _ _).1 h
    exact ⟨_, n, h1, h2, h3⟩
theorem hearL_far (L : List (Key × News)) (n : News) (k : Key) (h : k ≠ keyOf n) : aget k (hearL L n) = aget k L := by
  unfold hearL
  cases aget (keyOf n) L with
  | none => simp only; rw [aget_aput, if_neg h]
  | some x =>
    simp only
    split
    · rw [aget_aput, if_neg h]
    · rfl
theorem standsK_far (L : List (Key × News)) (n : News) (k : Key) (h : k ≠ keyOf n) : standsK (hearL L n) k = standsK L k := by
  unfold standsK
  rw [hearL_far L n k h]
/-- Without the one that stood, with the one that stands. -/
def dropE (was l : List Event) : List Event := match was with | [] => l | u :: _ => l.filter (fun e => !eventEq e u)
theorem stS_mem (l : List News) (e : Event) : e ∈ stS l ↔ e ∈ outE l := (stS_sort l).1.mem_iff
theorem stS_nodup (l : List News) : (stS l).Nodup := (stS_sort l).1.nodup_iff.2 (nodup_outE l)
theorem grows_mark (l : List News) (n : News) (h : n.do_ = 3) : stepOf (hearAll l).1 n = ([], []) ∧ stS (l ++ [n]) = stS l := by
  refine ⟨by simp [stepOf, h], ?_⟩
  unfold stS outE
  rw [hearAll_snoc, hear, if_pos h]
theorem mem_dropE {l : List News} {k : Key} (e : Event) : e ∈ dropE (standsK (hearAll l).1 k) (stS l) ↔ e ∈ outE l ∧ keyE e ≠ k := by
  have hlen := standsK_len (hearAll l).1 k
  unfold dropE
  cases hw : standsK (hearAll l).1 k with
  | nil =>
    simp only [stS_mem]
    refine ⟨fun h => ⟨h, fun he => ?_⟩, fun h => h.1⟩
    have := (outE_key l e).1 h
    rw [he, hw] at this
    simp at this
  | cons u r =>
    rw [hw] at hlen
    have hr : r = [] := List.eq_nil_of_length_eq_zero (by rw [List.length_cons] at hlen; omega)
    subst hr
    have hu : keyE u = k := standsK_key (by rw [hw]; simp)
    simp only [List.mem_filter, stS_mem, eventEq, Bool.not_eq_true', decide_eq_false_iff_not]
    constructor
    · rintro ⟨h1, h2⟩
      refine ⟨h1, fun he => h2 ?_⟩
      have := (outE_key l e).1 h1
      rw [he, hw] at this
      simpa using this
    · rintro ⟨h1, h2⟩
      exact ⟨h1, fun he => h2 (by rw [he]; exact hu)⟩
theorem grows_event (l : List News) (n : News) (h : n.do_ ≠ 3) : (∀ e, e ∈ stS (l ++ [n]) ↔ e ∈ dropE (stepOf (hearAll l).1 n).1 (stS l) ++ (stepOf (hearAll l).1 n).2) ∧ (dropE (stepOf (hearAll l).1 n).1 (stS l) ++ (stepOf (hearAll l).1 n).2).Nodup := by
  have hL : (hearAll (l ++ [n])).1 = hearL (hearAll l).1 n := by rw [hearAll_snoc, hear, if_neg h]
  have hst : stepOf (hearAll l).1 n = if standsK (hearAll l).1 (keyOf n) = standsK (hearL (hearAll l).1 n) (keyOf n) then ([], []) else (standsK (hearAll l).1 (keyOf n), standsK (hearL (hearAll l).1 n) (keyOf n)) := by simp [stepOf, h]
  have key : ∀ e, e ∈ outE (l ++ [n]) ↔ (e ∈ outE l ∧ keyE e ≠ keyOf n) ∨ e ∈ standsK (hearL (hearAll l).1 n) (keyOf n) := by
    intro e
    rw [outE_key, outE_key l, hL]
    by_cases hk : keyE e = keyOf n
    · rw [hk]
      constructor
      · exact .inr
      · rintro (⟨_, h2⟩ | h2)
        · exact absurd rfl h2
        · exact h2
    · rw [standsK_far _ _ _ hk]
      constructor
      · intro h1; exact .inl ⟨h1, hk⟩
      · rintro (⟨h1, _⟩ | h2)
        · exact h1
        · exact absurd (standsK_key h2) hk
  rw [hst]
  by_cases he : standsK (hearAll l).1 (keyOf n) = standsK (hearL (hearAll l).1 n) (keyOf n)
  · rw [if_pos he]
    refine ⟨fun e => ?_, by simpa [dropE] using stS_nodup l⟩
    rw [stS_mem, key, ← he]
    simp only [dropE, List.append_nil, stS_mem]
    constructor
    · rintro (⟨h1, _⟩ | h2)
      · exact h1
      · rw [outE_key, standsK_key h2]; exact h2
    · intro h1
      by_cases hk : keyE e = keyOf n
      · right
        have := (outE_key l e).1 h1
        rwa [hk] at this
      · exact .inl ⟨h1, hk⟩
  · rw [if_neg he]
    refine ⟨fun e => ?_, ?_⟩
    · rw [stS_mem, key, List.mem_append, mem_dropE]
    · refine List.nodup_append.2 ⟨?_, ?_, fun a ha b hb hab => ?_⟩
      · unfold dropE
        split
        · exact stS_nodup l
        · exact (stS_nodup l).filter _
      · have := standsK_len (hearL (hearAll l).1 n) (keyOf n)
        match standsK (hearL (hearAll l).1 n) (keyOf n), this with
        | [], _ => exact List.nodup_nil
        | [a], _ => simp
      · subst hab
        exact (mem_dropE a).1 ha |>.2 (standsK_key hb)
theorem grows_all (l : List News) (n : News) : (stS (l ++ [n])).length = (dropE (stepOf (hearAll l).1 n).1 (stS l) ++ (stepOf (hearAll l).1 n).2).length ∧ ∀ e ∈ stS (l ++ [n]), e ∈ dropE (stepOf (hearAll l).1 n).1 (stS l) ++ (stepOf (hearAll l).1 n).2 := by
  by_cases h : n.do_ = 3
  · obtain ⟨h1, h2⟩ := grows_mark l n h
    rw [h1, h2]
    simp [dropE]
  · obtain ⟨h1, h2⟩ := grows_event l n h
    exact ⟨((List.perm_ext_iff_of_nodup (stS_nodup _) h2).2 h1).length_eq, fun e he => (h1 e).1 he⟩
theorem step_keys (l : List News) (n : News) : ∀ e ∈ (stepOf (hearAll l).1 n).1 ++ (stepOf (hearAll l).1 n).2, e.src = n.src ∧ e.id = n.id := by
  intro e he
  have hk : keyE e = keyOf n := by
    by_cases h : n.do_ = 3
    · rw [(grows_mark l n h).1] at he
      simp at he
    · have hst : stepOf (hearAll l).1 n = if standsK (hearAll l).1 (keyOf n) = standsK (hearL (hearAll l).1 n) (keyOf n) then ([], []) else (standsK (hearAll l).1 (keyOf n), standsK (hearL (hearAll l).1 n) (keyOf n)) := by simp [stepOf, h]
      rw [hst] at he
      split at he
      · simp at he
      · rcases List.mem_append.1 he with he | he
        · exact standsK_key he
        · exact standsK_key he
  simp only [keyE, keyOf, Key.mk.injEq] at hk
  exact hk
theorem formed_take {l : List News} {srcs : Int} (h : formedB l srcs = true) (k : Nat) : formedB (l.take k) srcs = true := by
  obtain ⟨hg, hl, hn⟩ := (formed_iff l srcs).1 h
  exact (formed_iff _ _).2 ⟨⟨hg.1, fun x hx => hg.2 x (List.mem_of_mem_take hx)⟩, by rw [List.length_take]; omega, fun x hx y hy => hn x (List.mem_of_mem_take hx) y (List.mem_of_mem_take hy)⟩
theorem stS_len (l : List News) : (stS l).length ≤ l.length := by
  have h1 := (stS_sort l).1.length_eq
  have h2 : (outE l).length ≤ (hearAll l).1.length := by
    unfold outE
    have key : ∀ (L : List (Key × News)) (F : Key → List Event), (∀ k, (F k).length ≤ 1) → (L.flatMap fun p => F p.1).length ≤ L.length := by
      intro L F hF
      induction L with
      | nil => simp
      | cons p L ih =>
        rw [List.flatMap_cons, List.length_append, List.length_cons]
        have := hF p.1
        omega
    exact key _ _ (standsK_len _)
  have h3 := hearAll_len l
  omega
end Go.Proofs.Ytdpkpibcjbllcaa
