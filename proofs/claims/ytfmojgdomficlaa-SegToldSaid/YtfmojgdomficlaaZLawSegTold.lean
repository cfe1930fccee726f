/-
  Texts of one hand, laid together: LawSegTold.
-/
import Derived.Test.YtfmojgdomficlaaZJ
import Derived.Test.YtfmojgdomficlaaZK
import Derived.Test.YtfmojgdomficlaaRows
import Derived.ProofKit
import Derived.OpenShut
import Derived.ShutString
import Derived.ChangeOld
import Derived.SizedLaws
set_option linter.unusedVariables false
set_option linter.unusedSimpArgs false
/-! For all news and every number of them, news that differ in that number alone, by less than the sums' bound, have different sums. -/
namespace Go.Proofs.Ytfmojgdomficlaa
open Go.RowKit Go.Shelf Go.Proofs.YtfmojgdomficlaaW.PrintWords

/-- By how much. -/
def byOf (by_ : Int) : Int := if by_ = 0 ∨ 9973 ≤ by_ ∨ by_ ≤ -9973 then 1 else by_
theorem byOf_bd (b : Int) : byOf b ≠ 0 ∧ -9973 < byOf b ∧ byOf b < 9973 := by unfold byOf; split <;> omega
set_option maxRecDepth 100000 in
set_option maxHeartbeats 8000000 in
theorem law_segtold (n : News) (which b : Int) (w : World) (hw : 0 ≤ which ∧ which ≤ 255) (hb : -32768 ≤ b ∧ b ≤ 32767) (hn : ∀ k, k < 6 → -9223372036854775808 ≤ nthN n k ∧ nthN n k ≤ 9223372036854775807) : Calls Try.prog 6 #[.agg #[.int .i64 n.do_, .int .i64 n.src, .int .i64 n.id, .int .i64 n.ver, .int .i64 n.body.at_, .int .i64 n.body.key, .int .i64 n.body.val], .int .u8 which, .int .i16 b] w fun e w' => e = .returned (.bool true) ∧ Below w.heap.size w w' := by
  have hwb : IntKind.i64.wrap b = b := IntWalk.i64_in _ (by omega)
  have hww : IntKind.i64.wrap which = which := IntWalk.i64_in _ (by omega)
  go_enter Try.func6, Try.ntmps6
  go_upto_region 3 with fail
  go_cut [24] (fun v24 wc => v24 = .bool (decide (b = 0 ∨ 9973 ≤ b ∨ b ≤ -9973)) ∧ wc = (w.alloc (.cells #[.int .i64 n.do_, .int .i64 n.src, .int .i64 n.id, .int .i64 n.ver, .int .i64 n.body.at_, .int .i64 n.body.key, .int .i64 n.body.val] 26)).alloc (.cells #[.int .i64 n.do_, .int .i64 n.src, .int .i64 n.id, .int .i64 n.ver, .int .i64 n.body.at_, .int .i64 n.body.key, .int .i64 n.body.val] 26))
  case first =>
    by_cases h0 : b = 0
    · subst h0
      go_wp2
      go_meet
      case rel => exact ⟨rfl, rfl⟩
    · by_cases h1 : 9973 ≤ b
      · have e : decide (b = 0 ∨ 9973 ≤ b ∨ b ≤ -9973) = true := decide_eq_true (.inr (.inl h1))
        go_wp2
        go_meet
        case rel => exact ⟨by rw [e], rfl⟩
      · by_cases h2 : b ≤ -9973
        · have e : decide (b = 0 ∨ 9973 ≤ b ∨ b ≤ -9973) = true := decide_eq_true (.inr (.inr h2))
          go_wp2
          go_meet
          case rel => exact ⟨by (first | (rw [e]; done) | (rw [e]; simp [h0])), rfl⟩
        · have e : decide (b = 0 ∨ 9973 ≤ b ∨ b ≤ -9973) = false := decide_eq_false (by omega)
          go_wp2
          go_meet
          case rel => exact ⟨by (first | (rw [e]; done) | (rw [e]; simp [h0])), rfl⟩
  case rest =>
    obtain ⟨rfl, rfl⟩ := hcut
    go_upto_if 24 with fail
    go_cut [8] (fun v8 wc => v8 = .int .i64 (byOf b) ∧ wc = (w.alloc (.cells #[.int .i64 n.do_, .int .i64 n.src, .int .i64 n.id, .int .i64 n.ver, .int .i64 n.body.at_, .int .i64 n.body.key, .int .i64 n.body.val] 26)).alloc (.cells #[.int .i64 n.do_, .int .i64 n.src, .int .i64 n.id, .int .i64 n.ver, .int .i64 n.body.at_, .int .i64 n.body.key, .int .i64 n.body.val] 26))
    case first =>
      cases hc : decide (b = 0 ∨ 9973 ≤ b ∨ b ≤ -9973)
      · have e : byOf b = b := if_neg (of_decide_eq_false hc)
        go_wp2
        go_meet
        case rel => exact ⟨by rw [e], rfl⟩
      · have e : byOf b = 1 := if_pos (of_decide_eq_true hc)
        go_wp2
        go_meet
        case rel => exact ⟨by rw [e], rfl⟩
    case rest =>
      obtain ⟨rfl, rfl⟩ := hcut
      obtain ⟨k, hk, hr⟩ : ∃ k : Nat, k < 6 ∧ which.tmod 6 = (k : Int) := ⟨(which % 6).toNat, by omega, by rw [Int.tmod_eq_emod_of_nonneg hw.1]; omega⟩
      have hc0 := (Cells.new w #[.int .i64 n.do_, .int .i64 n.src, .int .i64 n.id, .int .i64 n.ver, .int .i64 n.body.at_, .int .i64 n.body.key, .int .i64 n.body.val] 26).later (below_alloc (Below.refl _ _) (.cells #[.int .i64 n.do_, .int .i64 n.src, .int .i64 n.id, .int .i64 n.ver, .int .i64 n.body.at_, .int .i64 n.body.key, .int .i64 n.body.val] 26))
      have hc1 := Cells.new (w.alloc (.cells #[.int .i64 n.do_, .int .i64 n.src, .int .i64 n.id, .int .i64 n.ver, .int .i64 n.body.at_, .int .i64 n.body.key, .int .i64 n.body.val] 26)) #[.int .i64 n.do_, .int .i64 n.src, .int .i64 n.id, .int .i64 n.ver, .int .i64 n.body.at_, .int .i64 n.body.key, .int .i64 n.body.val] 26
      have hb2 := below_alloc (below_alloc (Below.refl w.heap.size w) (.cells #[.int .i64 n.do_, .int .i64 n.src, .int .i64 n.id, .int .i64 n.ver, .int .i64 n.body.at_, .int .i64 n.body.key, .int .i64 n.body.val] 26)) (.cells #[.int .i64 n.do_, .int .i64 n.src, .int .i64 n.id, .int .i64 n.ver, .int .i64 n.body.at_, .int .i64 n.body.key, .int .i64 n.body.val] 26)
      have hs2 := World.size_alloc w (.cells #[.int .i64 n.do_, .int .i64 n.src, .int .i64 n.id, .int .i64 n.ver, .int .i64 n.body.at_, .int .i64 n.body.key, .int .i64 n.body.val] 26)
      rw [hs2] at hc1
      generalize (w.alloc (.cells #[.int .i64 n.do_, .int .i64 n.src, .int .i64 n.id, .int .i64 n.ver, .int .i64 n.body.at_, .int .i64 n.body.key, .int .i64 n.body.val] 26)).alloc (.cells #[.int .i64 n.do_, .int .i64 n.src, .int .i64 n.id, .int .i64 n.ver, .int .i64 n.body.at_, .int .i64 n.body.key, .int .i64 n.body.val] 26) = w2 at hc0 hc1 hb2 ⊢
      have hB1 : w.heap.size < w.heap.size + 1 := by omega
      have hB1' := hc1.lt
      generalize hBe : w.heap.size + 1 = B1 at hc1 hB1 hB1' ⊢
      clear hBe hs2
      have hq : ∀ (h : k < ([Value.pointer (some ⟨B1, 1, none⟩), Value.pointer (some ⟨B1, 2, none⟩), Value.pointer (some ⟨B1, 3, none⟩), Value.pointer (some ⟨B1, 4, none⟩), Value.pointer (some ⟨B1, 5, none⟩), Value.pointer (some ⟨B1, 6, none⟩)]).length), ([Value.pointer (some ⟨B1, 1, none⟩), Value.pointer (some ⟨B1, 2, none⟩), Value.pointer (some ⟨B1, 3, none⟩), Value.pointer (some ⟨B1, 4, none⟩), Value.pointer (some ⟨B1, 5, none⟩), Value.pointer (some ⟨B1, 6, none⟩)])[k]'h = .pointer (some ⟨B1, k + 1, none⟩) := fun h => by
        obtain rfl | rfl | rfl | rfl | rfl | rfl : k = 0 ∨ k = 1 ∨ k = 2 ∨ k = 3 ∨ k = 4 ∨ k = 5 := by omega
        all_goals rfl
      have hx := hn k hk
      have hP : (w2.alloc (.cells #[.pointer (some ⟨B1, 1, none⟩), .pointer (some ⟨B1, 2, none⟩), .pointer (some ⟨B1, 3, none⟩), .pointer (some ⟨B1, 4, none⟩), .pointer (some ⟨B1, 5, none⟩), .pointer (some ⟨B1, 6, none⟩)] 53)).cell? ⟨B1, k + 1, none⟩ = some (.int .i64 (nthN n k)) := (hc1.later (below_alloc (Below.refl _ _) _)).cell _ _ (nth_cell n k hk)
      go_upto_region 6 with fail
      have hc3 := hc1.later (below_alloc (Below.refl _ _) (.cells #[Value.pointer (some ⟨B1, 1, none⟩), Value.pointer (some ⟨B1, 2, none⟩), Value.pointer (some ⟨B1, 3, none⟩), Value.pointer (some ⟨B1, 4, none⟩), Value.pointer (some ⟨B1, 5, none⟩), Value.pointer (some ⟨B1, 6, none⟩)] 53))
      have hc30 := hc0.later (below_alloc (Below.refl _ _) (.cells #[Value.pointer (some ⟨B1, 1, none⟩), Value.pointer (some ⟨B1, 2, none⟩), Value.pointer (some ⟨B1, 3, none⟩), Value.pointer (some ⟨B1, 4, none⟩), Value.pointer (some ⟨B1, 5, none⟩), Value.pointer (some ⟨B1, 6, none⟩)] 53))
      have hb3 := below_alloc hb2 (.cells #[Value.pointer (some ⟨B1, 1, none⟩), Value.pointer (some ⟨B1, 2, none⟩), Value.pointer (some ⟨B1, 3, none⟩), Value.pointer (some ⟨B1, 4, none⟩), Value.pointer (some ⟨B1, 5, none⟩), Value.pointer (some ⟨B1, 6, none⟩)] 53)
      clear hq hc0 hc1 hb2 hB1'
      generalize w2.alloc (.cells #[Value.pointer (some ⟨B1, 1, none⟩), Value.pointer (some ⟨B1, 2, none⟩), Value.pointer (some ⟨B1, 3, none⟩), Value.pointer (some ⟨B1, 4, none⟩), Value.pointer (some ⟨B1, 5, none⟩), Value.pointer (some ⟨B1, 6, none⟩)] 53) = w3 at hP hc3 hc30 hb3 ⊢
      have hf3 := hc3.frozen (k + 1)
      by_cases hg : 1099511627776 < nthN n k
      · go_wp2_with (go_at_call 13; (with_reducible refine (law_known _).mono ?_); rintro e w4 ⟨rfl, hb4⟩)
        go_ret
        exact ⟨rfl, below_step hb3 hb4⟩
      by_cases hl : nthN n k < -1099511627776
      · go_wp2_with (go_at_call 13; (with_reducible refine (law_known _).mono ?_); rintro e w4 ⟨rfl, hb4⟩)
        go_ret
        exact ⟨rfl, below_step hb3 hb4⟩
      have hd := byOf_bd b
      have htell := Lib.hid (sum_tell n k hk (byOf b) hd.1 hd.2.1 hd.2.2)
      generalize byOf b = d at hd htell ⊢
      have hwd : IntKind.i64.wrap (nthN n k + d) = nthN n k + d := IntWalk.i64_in _ (by omega)
      go_upto_region 9 with fail
      have hc4 := hc3.setAt (k + 1) (.int .i64 (nthN n k + d))
      rw [bump_cells n k hk d] at hc4
      have hc40 := hc30.kept (grownBy_setAt w3 B1 (k + 1) (.int .i64 (nthN n k + d))) (fun e => by have := Option.some.inj e; omega)
      have hb4 := hb3.setCell (p := ⟨B1, k + 1, none⟩) (Nat.le_of_lt hB1) (.int .i64 (nthN n k + d))
      generalize w3.setCell ⟨B1, k + 1, none⟩ (.int .i64 (nthN n k + d)) = w4 at hc4 hc40 hb4 ⊢
      have HC4 := Lib.hid hc4
      have HC40 := Lib.hid hc40
      have HB4 := Lib.hid hb4
      generalize bumpN n k d = m at HC4 htell
      clear hc4 hc40 hb4 hc3 hc30 hb3 hP hf3 hwd
      refine wp_region_flow [.calm 0, .calm 1, .calm 2, .calm 3, .free 4, .free 5] (Below w4.heap.size w4) (Below w4.heap.size w4) (stable_below _ _ (Nat.le_refl _)) (fun _ h => h) (by kernel_rfl) (by kernel_rfl) (below_drew1 (Below.refl _ _)) ?_
      simp only [pickEnts, pickF, List.getElem?_cons_succ, List.getElem?_cons_zero, List.filterMap_cons, List.filterMap_nil, Option.map_some]
      repeat ((first | refine flow_calm (fun K hK => ?_) | refine flow_free (fun K hK => ?_) | refine float_calm (fun K hK => ?_) | refine float_free (fun K hK => ?_)); go_simp; first | (refine hK _ ?_; clear hK K) | (apply Exists.intro; (refine ⟨fun X => ?_, hK _ ?_⟩); (first | (intro hC; rfl) | rfl | (intro hC; have q := HC4.out.later hC.out; have q0 := q.cell 0 _ rfl; have q1 := q.cell 1 _ rfl; have q2 := q.cell 2 _ rfl; have q3 := q.cell 3 _ rfl; have q4 := q.cell 4 _ rfl; have q5 := q.cell 5 _ rfl; have q6 := q.cell 6 _ rfl; have p := HC40.out.later hC.out; have p0 := p.cell 0 _ rfl; have p1 := p.cell 1 _ rfl; have p2 := p.cell 2 _ rfl; have p3 := p.cell 3 _ rfl; have p4 := p.cell 4 _ rfl; have p5 := p.cell 5 _ rfl; have p6 := p.cell 6 _ rfl; go_simp; done) | (intro hC; have q := HC4.out.later hC.out; have q0 := q.cell 0 _ rfl; have q1 := q.cell 1 _ rfl; have q2 := q.cell 2 _ rfl; have q3 := q.cell 3 _ rfl; have q4 := q.cell 4 _ rfl; have q5 := q.cell 5 _ rfl; have q6 := q.cell 6 _ rfl; have p := HC40.out.later hC.out; have p0 := p.cell 0 _ rfl; have p1 := p.cell 1 _ rfl; have p2 := p.cell 2 _ rfl; have p3 := p.cell 3 _ rfl; have p4 := p.cell 4 _ rfl; have p5 := p.cell 5 _ rfl; have p6 := p.cell 6 _ rfl; go_simp; rfl) | (intro hC; (first | (with_reducible refine (seg_Sum n _).mono ?_) | (with_reducible refine (seg_Sum m _).mono ?_)); rintro e w' ⟨rfl, hb⟩; exact ⟨rfl, hb⟩)); clear hK K))
      refine flow_nil ?_
      intro w5 hX
      have hb5 := hX.out
      clear hX
      have b1 := sum_bd n
      have b2 := sum_bd m
      generalize segSum n = s1 at b1 htell ⊢
      generalize segSum m = s2 at b2 htell ⊢
      have t1 : (s1 != s2) = true := bne_iff_ne.2 htell.out
      have t2 : decide (0 ≤ s1) = true := decide_eq_true b1.1
      have t3 : decide (s1 < 9973) = true := decide_eq_true b1.2
      have t4 : decide (0 ≤ s2) = true := decide_eq_true b2.1
      have t5 : decide (s2 < 9973) = true := decide_eq_true b2.2
      go_wp2_with (go_at_call 13; (with_reducible refine (law_known _).mono ?_); rintro e w6 ⟨rfl, hb6⟩)
      go_ret
      exact ⟨rfl, below_step (below_step HB4.out hb5) hb6⟩
end Go.Proofs.Ytfmojgdomficlaa

namespace Go.Proofs.Ytfmojgdomficlaa
open Go.RowKit
theorem nth_bd {n : News} (h : NewsI n) (k : Nat) (hk : k < 6) : -9223372036854775808 ≤ nthN n k ∧ nthN n k ≤ 9223372036854775807 := by
  obtain ⟨-, h1, h2, h3, h4, h5, h6⟩ := h
  obtain rfl | rfl | rfl | rfl | rfl | rfl : k = 0 ∨ k = 1 ∨ k = 2 ∨ k = 3 ∨ k = 4 ∨ k = 5 := by omega
  · exact h1
  · exact h2
  · exact h3
  · exact h4
  · exact h5
  · exact h6
theorem u8_of {x : Int} (h : (Lit.int .u8 x).wf = true) : 0 ≤ x ∧ x ≤ 255 := by
  simp only [Lit.wf, Bool.and_eq_true, decide_eq_true_eq] at h
  exact ⟨by have e : IntKind.u8.min = 0 := by decide
            omega, by have e : IntKind.u8.max = 255 := by decide
                      omega⟩
theorem i16_of {x : Int} (h : (Lit.int .i16 x).wf = true) : -32768 ≤ x ∧ x ≤ 32767 := by
  simp only [Lit.wf, Bool.and_eq_true, decide_eq_true_eq] at h
  exact ⟨by have e : IntKind.i16.min = -32768 := by decide
            omega, by have e : IntKind.i16.max = 32767 := by decide
                      omega⟩
theorem law_told (n : News) (which b : Int) (w : World) (hi : NewsI n) (hw : 0 ≤ which ∧ which ≤ 255) (hb : -32768 ≤ b ∧ b ≤ 32767) : Calls Try.prog 6 #[.agg #[.int .i64 n.do_, .int .i64 n.src, .int .i64 n.id, .int .i64 n.ver, .int .i64 n.body.at_, .int .i64 n.body.key, .int .i64 n.body.val], .int .u8 which, .int .i16 b] w fun e w' => e = .returned (.bool true) ∧ Below w.heap.size w w' :=
  law_segtold n which b w hw hb (nth_bd hi)
end Go.Proofs.Ytfmojgdomficlaa
namespace Go.Proofs.Ytfmojgdomficlaa.SegTold
open Go.ChangeShapes Go.WideShapes Go.ChangeAt Go.RowKit
open Go.ChangeMaps (open_string shut_string)
theorem own : ownKnob Try.prog.godebug = none := by kernel_rfl
theorem laidOut : laidOutB Try.prog = true := by kernel_rfl
set_option maxRecDepth 100000 in
theorem lifted (os : Os) (started : os.Started) (H : Type) (enc : TypeId × Value → H) :
    ReturnsInHanded {} Try.checked os 6 .any (Rows.segToldSpec.pre6 enc Try.prog Try.f6 Rows.segToldRow.domain false) (Rows.segToldSpec.post enc Try.prog Try.f6 false true false false) := by
  refine returnsInHanded_of_change_sized (C := Try.checked) own started (by kernel_rfl) Try.func6
    (ChangeSpec.witness6 (enc := enc) (C := Try.checked) false ⟨#[], #[.agg #[.int .i64 0, .int .i64 0, .int .i64 0, .int .i64 0, .int .i64 0, .int .i64 0, .int .i64 0], .int .u8 0, .int .i16 0], []⟩ 8 (by kernel_rfl) (by kernel_rfl) (by kernel_rfl) (by kernel_rfl)) ?_
  intro W base args ds gs before hval0 hW hcnd hsz0 _
  have hsz : (DataW.weightsEach Try.prog (Try.f6.params.toList ++ Rows.segToldSpec.plain.varTypes Try.prog) (ds ++ gs)).all (· ≤ reachBytes) = true := hsz0
  have hval : ∀ (j : Nat) t v, Try.f6.params[j]? = some t → args[j]? = some v → Value.okWide Try.prog W .any base t v := hval0
  have hW' := hW
  obtain ⟨p, q, hA0, hV, rfl, hfz, hnd⟩ := hW
  have hA : DataW.TrodAll enc Try.prog W 0 (fun _ => true) true Try.f6.params.toList args.toList ds p := hA0
  rw [Try.params6] at hA hval hsz
  obtain ⟨v0, vs0, d0, ds0, p0, q0, hargs, rfl, rfl, h0, r0⟩ := trodAll_cons hA
  obtain ⟨v1, vs1, d1, ds1, p1, q1, rfl, rfl, rfl, h1, r1⟩ := trodAll_cons r0
  obtain ⟨v2, vs2, d2, ds2, p2, q2, rfl, rfl, rfl, h2, r2⟩ := trodAll_cons r1
  obtain ⟨rfl, rfl, rfl⟩ := trodAll_nil r2
  obtain rfl : args = #[v0, v1, v2] := by cases args; simp_all
  obtain ⟨rfl, rfl⟩ := trodVars_none hV
  have k0 := h0
  have lt0 : ∀ x ∈ p0, x.block < W.heap.size := by obtain ⟨m, hm⟩ := k0; exact DataW.trod_lt m _ _ _ hm
  obtain ⟨n0, rfl, hi0⟩ := open_newsvalI (hval 0 26 v0 rfl rfl) h0
  obtain ⟨a1, rfl, rfl, rfl, w1⟩ := open_int Try.underlying5 (hval 1 5 v1 rfl rfl) h1
  obtain ⟨a2, rfl, rfl, rfl, w2⟩ := open_int Try.underlying52 (hval 2 52 v2 rfl rfl) h2
  clear hA0 hval0 hsz0 hsz
  refine (law_told n0 a1 a2 W hi0 (u8_of w1) (i16_of w2)).mono fun e W' ⟨he, bel⟩ => ?_
  subst he
  exact ⟨_, rfl, _, _, _, [], _, [], hW', trodAll_mk1 (shut_bool Try.underlying4 _), (trodAll_cons_mk (Below.trod laidOut (by kernel_rfl) (of_decide_eq_true (by kernel_rfl)) k0 bel lt0) (trodAll_cons_mk (shut_int Try.underlying5 w1) (trodAll_cons_mk (shut_int Try.underlying52 w2) trodAll_mk0))), rfl, bel.frame _, fun h => by cases h⟩
theorem over : Rows.segToldRow.holds Try.pinned (OpenSpec.ofChange Rows.segToldSpec) :=
  OpenClaim.holds_of_wide 6 Try.f6 rfl rfl rfl rfl rfl rfl rfl ⟨rfl, rfl, rfl, rfl, rfl⟩ rfl rfl rfl rfl rfl (by kernel_rfl) Try.func6 (by kernel_rfl)
    (of_decide_eq_true (by kernel_rfl)) (by unfold Func.isWrapper; first | (rw [if_pos (by decide +kernel)]; kernel_rfl) | (rw [if_neg (by decide +kernel)]; exact ⟨rfl, rfl⟩))
    (fun os started H enc _ => lifted os started H enc)
end Go.Proofs.Ytfmojgdomficlaa.SegTold
namespace Go.Proofs.Ytfmojgdomficlaa
/-- The row. -/
theorem SegTold_holds : Rows.SegToldSaid := SegTold.over
#print axioms SegTold_holds
end Go.Proofs.Ytfmojgdomficlaa
