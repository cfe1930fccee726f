/-
  Texts of one hand, laid together: PiqRA, PiqRB, PiqRC, PiqRD, PiqRE, PiqRF, PiqRI.
-/
import Derived.Test.YtemkloildadokaaZB
import Derived.Test.YtemkloildadokaaZC
import Derived.Test.YtemkloildadokaaZD
set_option linter.unusedVariables false
set_option linter.unusedSimpArgs false
/-! The reference's small functions. -/
namespace Go.Proofs.Ytemkloildadokaa
open Go.RowKit Go.Shelf Go.Proofs.YtemkloildadokaaW.PrintWords
set_option maxRecDepth 100000 in
set_option maxHeartbeats 8000000 in
theorem r_Step (s : PStep) (w : World) :
    Calls Try.prog 77 #[.agg #[.int .i64 s.at_, .int .i64 s.do_, .int .i64 s.key]] w fun e w' => e = .returned (.bool (pstepB s)) ∧ Below w.heap.size w w' := by
  have hp : pstepB s = (!(decide (s.at_ < 0)) && (!(decide (1000 < s.at_)) && (!(decide (s.key < -1000000000)) && (!(decide (1000000000 < s.key)) && (s.do_ == 1 || (s.do_ == 2 && s.key == 0)))))) := by
    unfold pstepB
    congr 1
    · rw [← decide_not]; exact decide_eq_decide.2 (by omega)
    congr 1
    · rw [← decide_not]; exact decide_eq_decide.2 (by omega)
    congr 1
    · rw [← decide_not]; exact decide_eq_decide.2 (by omega)
    congr 1
    · rw [← decide_not]; exact decide_eq_decide.2 (by omega)
  rw [hp]
  clear hp
  generalize h0 : decide (s.at_ < 0) = a0
  generalize h1 : decide (1000 < s.at_) = a1
  generalize h2 : decide (s.key < -1000000000) = a2
  generalize h3 : decide (1000000000 < s.key) = a3
  generalize h4 : (s.do_ == 1) = b1
  generalize h5 : (s.do_ == 2) = b2
  generalize h6 : (s.key == 0) = b3
  have HN := Lib.hid (Below.refl w.heap.size w |>.alloc (Nat.le_refl _) (.cells #[.int .i64 s.at_, .int .i64 s.do_, .int .i64 s.key] 36))
  have HC := Lib.hid (Cells.new w #[.int .i64 s.at_, .int .i64 s.do_, .int .i64 s.key] 36)
  go_enter Try.func77, Try.ntmps77
  go_upto_region 1 with fail
  generalize w.alloc (.cells #[.int .i64 s.at_, .int .i64 s.do_, .int .i64 s.key] 36) = w1 at HN HC ⊢
  have s0 := HC.out.cell 0 _ rfl
  have s1 := HC.out.cell 1 _ rfl
  have s2 := HC.out.cell 2 _ rfl
  cases a0
  · cases a1
    · cases a2
      · cases a3
        · cases b1 <;> cases b2 <;> cases b3
          all_goals
            go_wp2
            go_ret
            exact ⟨rfl, HN.out⟩
        · go_wp2
          go_ret
          exact ⟨rfl, HN.out⟩
      · go_wp2
        go_ret
        exact ⟨rfl, HN.out⟩
    · go_wp2
      go_ret
      exact ⟨rfl, HN.out⟩
  · go_wp2
    go_ret
    exact ⟨rfl, HN.out⟩
set_option maxRecDepth 100000 in
set_option maxHeartbeats 8000000 in
theorem r_Steps (A : Option Addr) (c : Nat) (l : List PStep) (w : World) (hrow : PStepRow w A l.length l) :
    Calls Try.prog 33 #[.slice A l.length c] w fun e w' => e = .returned (.bool (stepsB l)) ∧ Below w.heap.size w w' := by
  have hm : l.length ≤ 9223372036854775807 := hrow.2.1
  have HR := Lib.hid hrow
  have HS := Lib.hid (steps_ok l)
  clear hrow
  go_enter Try.func33, Try.ntmps33
  go_upto_region 1 with fail
  go_wp2
  go_loopw [7] (fun i wr => ∃ k : Nat, k ≤ l.length ∧ i = .int .i64 k ∧ Below w.heap.size w wr ∧ Hid (okFrom none l = okFrom (lastE l k) (l.drop k))) (fun i _ => l.length - (intOf i).toNat)
  case atStart => exact ⟨0, Nat.zero_le _, rfl, Below.refl _ _, Lib.hid (by simp [lastE])⟩
  case round =>
    obtain ⟨k, hk, rfl, hB, Hg⟩ := hrel
    by_cases hlt : k < l.length
    · obtain ⟨s, ad, hd, htk, hget, rfl, e0, e1, e2⟩ := pstep_at (Kd.C_below HR.out hB) k hlt
      have hst := Lib.hid (show okFrom none l = _ by rw [Hg.out, hd, okFrom_cons])
      have Hget := Lib.hid hget
      clear hd htk hget Hg
      have HC := Lib.hid (Cells.new wr #[.int .i64 s.at_, .int .i64 s.do_, .int .i64 s.key] 36)
      have HBa := Lib.hid (below_alloc (Below.refl wr.heap.size wr) (.cells #[.int .i64 s.at_, .int .i64 s.do_, .int .i64 s.key] 36))
      have HSa := Lib.hid (show (wr.alloc (.cells #[.int .i64 s.at_, .int .i64 s.do_, .int .i64 s.key] 36)).heap.size = wr.heap.size + 1 by simp)
      go_upto_region 4 with fail
      clear e0 e1 e2
      generalize wr.alloc (.cells #[.int .i64 s.at_, .int .i64 s.do_, .int .i64 s.key] 36) = w1 at HC HBa HSa ⊢
      have hX : ∀ X, Below w1.heap.size w1 X → Cells X wr.heap.size #[.int .i64 s.at_, .int .i64 s.do_, .int .i64 s.key] 36 := fun X hX => HC.out.later hX
      have HX := Lib.hid hX
      clear hX
      cases hps : pstepB s with
      | false =>
        have Hps := Lib.hid hps
        clear hps
        refine wp_region_flow [.calm 0, .calm 1, .free 2, .free 3, .free 4, .free 5, .free 6, .free 7, .free 8, .free 9, .free 10, .free 11, .free 12, .free 13, .free 14, .free 15, .free 16, .free 17] (Below w1.heap.size w1) (Below w1.heap.size w1) (stable_below _ _ (Nat.le_refl _)) (fun _ h => h) (by kernel_rfl) (by kernel_rfl) (below_drew1 (Below.refl _ _)) ?_
        simp only [pickEnts, pickF, List.getElem?_cons_succ, List.getElem?_cons_zero, List.filterMap_cons, List.filterMap_nil, Option.map_some]
        repeat ((first | refine flow_calm (fun K hK => ?_) | refine flow_free (fun K hK => ?_) | refine float_calm (fun K hK => ?_) | refine float_free (fun K hK => ?_)); go_simp; first | (refine hK _ ?_; clear hK K) | (apply Exists.intro; (refine ⟨fun X => ?_, hK _ ?_⟩); (first | (intro hC; rfl) | rfl | (intro hC; have q := HX.out X hC.out; have q0 := q.cell 0 _ rfl; have q1 := q.cell 1 _ rfl; have q2 := q.cell 2 _ rfl; go_simp; done) | (intro hC; have q := HX.out X hC.out; have q0 := q.cell 0 _ rfl; have q1 := q.cell 1 _ rfl; have q2 := q.cell 2 _ rfl; go_simp; rfl) | (intro hC; (with_reducible refine (r_Step s _).mono ?_); rintro e w' ⟨rfl, hb⟩; exact ⟨by rw [Hps.out], hb⟩)); clear hK K))
        refine flow_nil ?_
        intro X hC
        have HC' := Lib.hid hC.out
        clear hC
        go_wp2
        go_ret
        exact ⟨by rw [HS.out, hst.out, Hps.out]; simp, below_step hB (below_step HBa.out HC'.out)⟩
      | true =>
        have Hps := Lib.hid hps
        clear hps
        rcases Nat.eq_zero_or_pos k with hk0 | hk0
        · subst hk0
          refine wp_region_flow [.calm 0, .calm 1, .free 2, .free 3, .free 4, .free 5, .free 6, .free 7, .free 8, .free 9, .free 10, .free 11, .free 12, .free 13, .free 14, .free 15, .free 16, .free 17] (Below w1.heap.size w1) (Below w1.heap.size w1) (stable_below _ _ (Nat.le_refl _)) (fun _ h => h) (by kernel_rfl) (by kernel_rfl) (below_drew1 (Below.refl _ _)) ?_
          simp only [pickEnts, pickF, List.getElem?_cons_succ, List.getElem?_cons_zero, List.filterMap_cons, List.filterMap_nil, Option.map_some]
          repeat ((first | refine flow_calm (fun K hK => ?_) | refine flow_free (fun K hK => ?_) | refine float_calm (fun K hK => ?_) | refine float_free (fun K hK => ?_)); go_simp; first | (refine hK _ ?_; clear hK K) | (apply Exists.intro; (refine ⟨fun X => ?_, hK _ ?_⟩); (first | (intro hC; rfl) | rfl | (intro hC; have q := HX.out X hC.out; have q0 := q.cell 0 _ rfl; have q1 := q.cell 1 _ rfl; have q2 := q.cell 2 _ rfl; go_simp; done) | (intro hC; have q := HX.out X hC.out; have q0 := q.cell 0 _ rfl; have q1 := q.cell 1 _ rfl; have q2 := q.cell 2 _ rfl; go_simp; rfl) | (intro hC; (with_reducible refine (r_Step s _).mono ?_); rintro e w' ⟨rfl, hb⟩; exact ⟨by rw [Hps.out], hb⟩)); clear hK K))
          refine flow_nil ?_
          intro X hC
          have HC' := Lib.hid hC.out
          clear hC
          go_wp2
          exact ⟨⟨1, by omega, rfl, below_step hB (below_step HBa.out HC'.out), Lib.hid (by rw [hst.out, Hps.out]; simp [lastE, Hget.out])⟩, by simp [intOf]; omega⟩
        · obtain ⟨j, hj⟩ : ∃ j, k = j + 1 := ⟨k - 1, by omega⟩
          obtain ⟨u, ad', -, -, hgu, hae, v0, v1, v2⟩ := pstep_at (Kd.C_below HR.out hB) j (by omega)
          cases hae
          have hla : lastE l k = some u.at_ := by rw [hj]; simp [lastE, hgu]
          have hst' := Lib.hid (show okFrom none l = (decide (u.at_ < s.at_) && okFrom (some s.at_) (l.drop (k + 1))) by rw [hst.out, Hps.out, hla]; simp)
          have hwr : IntKind.i64.wrap ((k : Int) - 1) = (j : Int) := by rw [IntWalk.i64_in _ (by omega)]; omega
          have hjl : j < l.length := by omega
          have hgt : (0 : Int) < k := by omega
          have HV := Lib.hid (show ∀ X, Below w1.heap.size w1 X → X.cell? (ad.add (j * 3)) = some (.int .i64 u.at_) from fun X hX => cell_keep (HBa.out.trans (hX.mono (by have := HSa.out; omega))) v0)
          clear v0 v1 v2 hla
          have Hj := Lib.hid hj
          clear hj
          cases hlt2 : decide (u.at_ < s.at_)
          all_goals
            have hge : decide (s.at_ ≤ u.at_) = !decide (u.at_ < s.at_) := by rw [← decide_not]; exact decide_eq_decide.2 (by omega)
            rw [hlt2] at hge
            simp only [Bool.not_true, Bool.not_false] at hge
            rw [hlt2] at hst'
            clear hlt2
            refine wp_region_flow [.calm 0, .calm 1, .free 2, .free 3, .free 4, .free 5, .free 6, .free 7, .free 8, .free 9, .free 10, .free 11, .calm 12, .free 13, .calm 14, .free 15, .free 16, .free 17] (Below w1.heap.size w1) (Below w1.heap.size w1) (stable_below _ _ (Nat.le_refl _)) (fun _ h => h) (by kernel_rfl) (by kernel_rfl) (below_drew1 (Below.refl _ _)) ?_
            simp only [pickEnts, pickF, List.getElem?_cons_succ, List.getElem?_cons_zero, List.filterMap_cons, List.filterMap_nil, Option.map_some]
            repeat ((first | refine flow_calm (fun K hK => ?_) | refine flow_free (fun K hK => ?_) | refine float_calm (fun K hK => ?_) | refine float_free (fun K hK => ?_)); go_simp; first | (refine hK _ ?_; clear hK K) | (apply Exists.intro; (refine ⟨fun X => ?_, hK _ ?_⟩); (first | (intro hC; rfl) | rfl | (intro hC; have q := HX.out X hC.out; have q0 := q.cell 0 _ rfl; have q1 := q.cell 1 _ rfl; have q2 := q.cell 2 _ rfl; have v0 := HV.out X hC.out; go_simp; done) | (intro hC; have q := HX.out X hC.out; have q0 := q.cell 0 _ rfl; have q1 := q.cell 1 _ rfl; have q2 := q.cell 2 _ rfl; have v0 := HV.out X hC.out; go_simp; rfl) | (intro hC; (with_reducible refine (r_Step s _).mono ?_); rintro e w' ⟨rfl, hb⟩; exact ⟨by rw [Hps.out], hb⟩)); clear hK K))
            refine flow_nil ?_
            intro X hC
            have HC' := Lib.hid hC.out
            clear hC
            go_wp2
          · go_ret
            exact ⟨by rw [HS.out, hst'.out]; simp, below_step hB (below_step HBa.out HC'.out)⟩
          · exact ⟨⟨k + 1, by omega, by go_num, below_step hB (below_step HBa.out HC'.out), Lib.hid (by rw [hst'.out]; simp [lastE, Hget.out])⟩, by simp [intOf]; omega⟩
    · have hkl : k = l.length := by omega
      have hall : okFrom none l = true := by rw [Hg.out, hkl, List.drop_of_length_le (Nat.le_refl _)]; cases lastE l l.length <;> rfl
      rw [hall, Bool.true_and] at HS
      clear hkl hall Hg
      go_wp2
      go_ret
      exact ⟨by rw [HS.out]; simp; omega, hB⟩
set_option maxRecDepth 100000 in
set_option maxHeartbeats 4000000 in
theorem r_Less (a b : PElem) (w : World) :
    Calls Try.prog 46 #[.agg #[.int .i64 a.key, .int .i64 a.from_], .agg #[.int .i64 b.key, .int .i64 b.from_]] w fun e w' => e = .returned (.bool (eltB a b)) ∧ Below w.heap.size w w' := by
  have hways : (decide (a.key < b.key) = true ∧ eltB a b = true) ∨ (decide (a.key < b.key) = false ∧ (a.key == b.key) = false ∧ eltB a b = false) ∨ (decide (a.key < b.key) = false ∧ (a.key == b.key) = true ∧ decide (a.from_ < b.from_) = true ∧ eltB a b = true) ∨ (decide (a.key < b.key) = false ∧ (a.key == b.key) = true ∧ decide (a.from_ < b.from_) = false ∧ eltB a b = false) := by
    unfold eltB
    by_cases h1 : a.key < b.key
    · simp [h1]
    · by_cases h2 : a.key = b.key
      · by_cases h3 : a.from_ < b.from_
        · simp [h1, h2, h3]
        · simp [h1, h2, h3]
      · simp [h1, h2]
  obtain ⟨k1, k2, hB⟩ := two_new w ((w.alloc (.cells #[.int .i64 a.key, .int .i64 a.from_] 58)).alloc (.cells #[.int .i64 b.key, .int .i64 b.from_] 58)) _ _ _ _ (by simpa using Below.refl _ _)
  have K1 := Lib.hid k1
  have K2 := Lib.hid k2
  have HB := Lib.hid hB
  clear k1 k2 hB
  rcases hways with ⟨h1, hr⟩ | ⟨h1, h2, hr⟩ | ⟨h1, h2, h3, hr⟩ | ⟨h1, h2, h3, hr⟩
  all_goals
    rw [hr]
    clear hr
    go_enter Try.func46, Try.ntmps46
    go_upto_region 1 with fail
    generalize ((w.alloc (.cells #[.int .i64 a.key, .int .i64 a.from_] 58)).alloc (.cells #[.int .i64 b.key, .int .i64 b.from_] 58)) = w2 at K1 K2 HB ⊢
    have x0 := K1.out.cell 0 _ rfl
    have x1 := K1.out.cell 1 _ rfl
    have y0 := K2.out.cell 0 _ rfl
    have y1 := K2.out.cell 1 _ rfl
    go_wp2
    go_ret
    exact ⟨rfl, HB.out⟩
set_option maxRecDepth 100000 in
set_option maxHeartbeats 8000000 in
theorem r_upto (A : Option Addr) (n c : Nat) (l : List PStep) (t : Int) (w : World) (hn : n = l.length) (hrow : PStepRow w A n l) :
    Calls Try.prog 81 #[.slice A n c, .int .i64 t] w fun e w' => e = .returned (.int .i64 (uptoE t l)) ∧ Below w.heap.size w w' := by
  subst hn
  have hm : l.length ≤ 9223372036854775807 := hrow.2.1
  have HR := Lib.hid hrow
  clear hrow
  go_enter Try.func81, Try.ntmps81
  go_wp2
  go_loopw [5] (fun i wr => ∃ k : Nat, k ≤ l.length ∧ i = .int .i64 k ∧ Below w.heap.size w wr ∧ Hid (uptoE t l = k + uptoE t (l.drop k))) (fun i _ => l.length - (intOf i).toNat)
  case atStart => exact ⟨0, Nat.zero_le _, rfl, Below.refl _ _, Lib.hid (by simp)⟩
  case round =>
    obtain ⟨k, hk, rfl, hB, hU⟩ := hrel
    have HBr := Lib.hid hB
    clear hB
    by_cases hlt : k < l.length
    · obtain ⟨s, ad, hd, htk, hget, rfl, e0, e1, e2⟩ := pstep_at (Kd.C_below HR.out HBr.out) k hlt
      have Hd := Lib.hid hd
      clear hd htk hget
      have hlt' : (k : Int) < (l.length : Int) := by omega
      cases hle : decide (s.at_ ≤ t)
      · have Hle := Lib.hid (of_decide_eq_false hle)
        have hup := Lib.hid (show uptoE t l = k by have := hU.out; rw [Hd.out, uptoE, if_neg Hle.out] at this; exact this)
        clear hU
        go_wp2
        go_ret
        exact ⟨by rw [hup.out]; rfl, HBr.out⟩
      · have Hle := Lib.hid (of_decide_eq_true hle)
        have hup := Lib.hid (show uptoE t l = k + 1 + uptoE t (l.drop (k + 1)) by have := hU.out; rw [Hd.out, uptoE, if_pos Hle.out] at this; omega)
        clear hU
        go_wp2
        exact ⟨⟨k + 1, by omega, by go_num, HBr.out, hup⟩, by simp [intOf]; omega⟩
    · have hkl : k = l.length := by omega
      have hup := Lib.hid (show uptoE t l = k by have := hU.out; rw [hkl, List.drop_of_length_le (Nat.le_refl _), uptoE] at this; omega)
      clear hU
      have hlt' : ¬ ((k : Int) < (l.length : Int)) := by omega
      clear hkl
      go_wp2
      go_ret
      exact ⟨by rw [hup.out]; rfl, HBr.out⟩
set_option maxRecDepth 100000 in
set_option maxHeartbeats 8000000 in
theorem r_Has (A : Option Addr) (n c : Nat) (l : List PElem) (x : PElem) (w : World) (hn : n = l.length) (hrow : ElemRow w A n l) :
    Calls Try.prog 69 #[.slice A n c, .agg #[.int .i64 x.key, .int .i64 x.from_]] w fun e w' => e = .returned (.bool (l.contains x)) ∧ Below w.heap.size w w' := by
  subst hn
  have hm : l.length ≤ 9223372036854775807 := hrow.2.1
  have HX := Lib.hid (Cells.new w #[.int .i64 x.key, .int .i64 x.from_] 58)
  have HBx := Lib.hid (below_alloc (Below.refl w.heap.size w) (.cells #[.int .i64 x.key, .int .i64 x.from_] 58))
  have HR := Lib.hid (Kd.C_below hrow HBx.out)
  clear hrow
  obtain ⟨r, hr⟩ : ∃ r, r = l.contains x := ⟨_, rfl⟩
  rw [← hr]
  have Hr := Lib.hid hr
  clear hr
  go_enter Try.func69, Try.ntmps69
  go_upto_region 1 with fail
  generalize w.alloc (.cells #[.int .i64 x.key, .int .i64 x.from_] 58) = w1 at HX HBx HR ⊢
  go_wp2
  go_loopw [9] (fun i wr => ∃ k : Nat, k ≤ l.length ∧ i = .int .i64 k ∧ Below w1.heap.size w1 wr ∧ Hid ((l.take k).contains x = false)) (fun i _ => l.length - (intOf i).toNat)
  case atStart => exact ⟨0, Nat.zero_le _, rfl, Below.refl _ _, Lib.hid (by simp)⟩
  case round =>
    obtain ⟨k, hk, rfl, hB, hA⟩ := hrel
    have HB := Lib.hid hB
    clear hB
    by_cases hlt : k < l.length
    · obtain ⟨y, ad, hd, htk, hget, rfl, e0, e1⟩ := pelem_at (Kd.C_below HR.out HB.out) k hlt
      have Htk := Lib.hid htk
      have Hget := Lib.hid hget
      clear hd htk hget
      go_upto_region 4 with fail
      have HY := Lib.hid (Cells.new wr #[.int .i64 y.key, .int .i64 y.from_] 58)
      have hb := below_alloc (Below.refl wr.heap.size wr) (.cells #[.int .i64 y.key, .int .i64 y.from_] 58)
      have HB2 := Lib.hid (below_step HB.out hb)
      have HX2 := Lib.hid ((HX.out.later HB.out).later hb)
      clear hb e0 e1
      generalize wr.alloc (.cells #[.int .i64 y.key, .int .i64 y.from_] 58) = w2 at HY HB2 HX2 ⊢
      generalize wr.heap.size = gy at HY ⊢
      have x0 := HX2.out.cell 0 _ rfl
      have x1 := HX2.out.cell 1 _ rfl
      have y0 := HY.out.cell 0 _ rfl
      have y1 := HY.out.cell 1 _ rfl
      cases he : pElemEq ⟨y.key, y.from_⟩ ⟨x.key, x.from_⟩
      · have Hne := Lib.hid (show ¬ y = x from of_decide_eq_false (p := y = x) he)
        go_wp2
        exact ⟨⟨k + 1, by omega, by go_num, HB2.out, Lib.hid (by
          have h1 := hA.out
          have h2 : ¬ x = y := fun e => Hne.out e.symm
          rw [Htk.out]
          simp only [List.contains_eq_mem, decide_eq_false_iff_not] at h1 ⊢
          simp [h1, h2])⟩, by simp [intOf]; omega⟩
      · have Heq := Lib.hid (show y = x from of_decide_eq_true (p := y = x) he)
        have hrt := Lib.hid (show r = true by
          rw [Hr.out, List.contains_eq_mem]
          have := List.mem_of_getElem? Hget.out
          rw [Heq.out] at this
          simp [this])
        go_wp2
        go_ret
        exact ⟨by rw [hrt.out]; rfl, below_step HBx.out HB2.out⟩
    · have hkl : k = l.length := by omega
      have hrf := Lib.hid (show r = false by rw [Hr.out]; have := hA.out; rwa [hkl, List.take_length] at this)
      clear hkl hA
      go_wp2
      go_ret
      exact ⟨by rw [hrf.out]; rfl, below_step HBx.out HB.out⟩
end Go.Proofs.Ytemkloildadokaa
set_option linter.unusedVariables false
set_option linter.unusedSimpArgs false
/-! Slices of elements that nobody turns; what the reference says is there behind a step. -/
namespace Go.Proofs.Ytemkloildadokaa
open Go.RowKit Go.Shelf Go.Proofs.YtemkloildadokaaW.PrintWords
theorem pelem_flen (x : PElem) : (pelemCells x).length = 2 := rfl
theorem C_raw {w : World} {g o n : Nat} {cur : Array Value} {e : Nat} {l : List PElem} (hn : n = l.length) (hl : n ≤ 9223372036854775807) (hb : w.heap[g]? = some (.cells cur e (0, 0))) (h : (cur.toList.drop o).take (n * 2) = l.flatMap pelemCells) : ElemRow w (some ⟨g, o, none⟩) n l := by
  subst hn
  refine ⟨rfl, hl, fun _ => ⟨_, rfl, fun j p hj => ⟨pelemCells p, rfl, kPElem_mk w p, fun i u hu => ?_⟩⟩⟩
  have hi : i < 2 := by have := (List.getElem?_eq_some_iff.1 hu).1; exact this
  have hjl : j < l.length := (List.getElem?_eq_some_iff.1 hj).1
  have h1 := flat_get pelemCells 2 pelem_flen l j i p hj hi
  rw [hu, ← h, List.getElem?_take_of_lt (by omega), List.getElem?_drop, Array.getElem?_toList] at h1
  have e1 : (⟨g, o, none⟩ : Addr).add (j * kPElem.sz + i) = ⟨g, o + (j * 2 + i), none⟩ := by
    show (⟨g, o, none⟩ : Addr).add (j * 2 + i) = _
    rw [Addr.add_lit]
  rw [e1, raw_cell hb]
  exact h1
/-- A slice of elements, in a block of elements. -/
def ElemS (w : World) (v : Value) (q : List PElem) : Prop := (v = .slice none 0 0 ∧ q = []) ∨
  ∃ g o c cur, v = .slice (some ⟨g, o, none⟩) q.length c ∧ q.length ≤ c ∧ c ≤ maxLen ∧ w.heap[g]? = some (.cells cur 58 (0, 0)) ∧ (cur.toList.drop o).take (q.length * 2) = q.flatMap pelemCells
/-- Blocks of elements stay. -/
def KeepE (w w' : World) : Prop := ∀ (k : Nat) (cells : Array Value), w.heap[k]? = some (.cells cells 58 (0, 0)) → w'.heap[k]? = some (.cells cells 58 (0, 0))
theorem KeepE.of_below {w w' : World} (h : Below w.heap.size w w') : KeepE w w' := fun k cells hk => heap_later h hk
theorem KeepE.of_grown {w w' : World} {row : Option Nat} (h : w.grownBy w' row) (hr : ∀ g, row = some g → ∃ cells t, w.heap[g]? = some (.cells cells t (0, 0)) ∧ t ≠ 58) : KeepE w w' := fun k cells hk =>
  (h.block k (Array.getElem?_eq_some_iff.1 hk).1 fun e => by
    obtain ⟨cs, t, h1, h2⟩ := hr k e.symm
    exact ty_ne hk h1 (Ne.symm h2) rfl).trans hk
theorem KeepE.trans {a b c : World} (h : KeepE a b) (k : KeepE b c) : KeepE a c := fun g cells hg => k g cells (h g cells hg)
theorem ElemS.keep {w w' : World} {v : Value} {q : List PElem} (h : ElemS w v q) (hk : KeepE w w') : ElemS w' v q := by
  rcases h with h | ⟨g, o, c, cur, h1, h2, h3, h4, h5⟩
  · exact .inl h
  · exact .inr ⟨g, o, c, cur, h1, h2, h3, hk _ _ h4, h5⟩
theorem ElemS.nil (w : World) : ElemS w (.slice none 0 0) [] := .inl ⟨rfl, rfl⟩
theorem ElemS.of_own {w : World} {b : Nat} {v : Value} {q : List PElem} (h : Own kPElem 58 w b v q) : ElemS w v q := by
  rcases own_raw pelemCells (fun _ _ _ h => kPElem_open h) h with ⟨h1, h2⟩ | ⟨g, cap, cur, h1, -, h3, h4, h5, h6, h7⟩
  · exact .inl ⟨h1, h2⟩
  · exact .inr ⟨g, 0, cap, cur, h1, h4, h5, h3, by rw [List.drop_zero]; exact h7⟩
theorem ElemS.row {w : World} {v : Value} {q : List PElem} (h : ElemS w v q) : ∃ A c, v = .slice A q.length c ∧ q.length ≤ c ∧ c ≤ 9223372036854775807 ∧ ElemRow w A q.length q := by
  rcases h with ⟨rfl, rfl⟩ | ⟨g, o, c, cur, h1, h2, h3, h4, h5⟩
  · exact ⟨none, 0, rfl, Nat.le_refl _, by omega, ⟨rfl, Nat.zero_le _, fun h => absurd h (Nat.lt_irrefl _)⟩⟩
  · exact ⟨_, c, h1, h2, h3, C_raw rfl (Nat.le_trans h2 h3) h4 h5⟩
theorem ins_at {x : PElem} : ∀ {q : List PElem} (k : Nat), (∀ i y, i < k → q[i]? = some y → eltB y x = true) → (∀ y, q[k]? = some y → eltB y x = false) → k ≤ q.length → insE x q = q.take k ++ x :: q.drop k
  | [], k, _, _, hk => by simp at hk; subst hk; rfl
  | y :: q, 0, _, h2, _ => by
    have := h2 y (by simp)
    rw [insE, if_neg (by rw [this]; simp)]; rfl
  | y :: q, k + 1, h1, h2, hk => by
    have := h1 0 y (by omega) (by simp)
    rw [insE, if_pos this, ins_at k (fun i z hi hz => h1 (i + 1) z (by omega) (by simpa using hz)) (fun z hz => h2 z (by simpa using hz)) (by simpa using hk)]
    rfl
/-- What a step leaves. -/
def NextPost (v0 : Value) (q : List PElem) (s : PStep) (w : World) (e : Ending) (w' : World) : Prop := (match nextE q s with
  | none => e = .returned (.tuple #[.slice none 0 0, .agg #[.int .i64 0, .int .i64 0], .bool false])
  | some (q', x) => ∃ v', e = .returned (.tuple #[v', .agg #[.int .i64 x.key, .int .i64 x.from_], .bool true]) ∧ ElemS w' v' q' ∧ ∀ g, v'.ownBlock = some g → v0.ownBlock = some g ∨ (w.heap.size ≤ g ∧ x ∈ q')) ∧ Below w.heap.size w w'
theorem next_some {v0 : Value} {q q' : List PElem} {s : PStep} {x : PElem} {w w' : World} {v' : Value} (h : nextE q s = some (q', x)) (h1 : ElemS w' v' q') (h2 : ∀ g, v'.ownBlock = some g → v0.ownBlock = some g ∨ (w.heap.size ≤ g ∧ x ∈ q')) (hb : Below w.heap.size w w') : NextPost v0 q s w (.returned (.tuple #[v', .agg #[.int .i64 x.key, .int .i64 x.from_], .bool true])) w' := by
  unfold NextPost; rw [h]; exact ⟨⟨v', rfl, h1, h2⟩, hb⟩
set_option maxRecDepth 100000 in
set_option maxHeartbeats 8000000 in
theorem r_Next_nil (c : Nat) (s : PStep) (w : World) (A : Option Addr) (hs : (s.do_ == 2) = true) :
    Calls Try.prog 96 #[.slice A 0 c, .agg #[.int .i64 s.at_, .int .i64 s.do_, .int .i64 s.key]] w (NextPost (.slice A 0 c) [] s w) := by
  have hn : nextE [] s = none := by simp only [beq_iff_eq] at hs; simp [nextE, hs]
  have HN := Lib.hid hn
  clear hn
  obtain ⟨k1, k2, hB⟩ := two_new w ((w.alloc (.cells #[.int .i64 s.at_, .int .i64 s.do_, .int .i64 s.key] 36)).alloc (.cells #[.int .i64 0, .int .i64 0] 58)) _ _ _ _ (by simpa using Below.refl _ _)
  have K1 := Lib.hid k1
  have K2 := Lib.hid k2
  have HB := Lib.hid hB
  clear k1 k2 hB
  go_enter Try.func96, Try.ntmps96
  go_upto_region 1 with fail
  generalize ((w.alloc (.cells #[.int .i64 s.at_, .int .i64 s.do_, .int .i64 s.key] 36)).alloc (.cells #[.int .i64 0, .int .i64 0] 58)) = w2 at K1 K2 HB ⊢
  have s1 := K1.out.cell 1 _ rfl
  have z0 := K2.out.cell 0 _ rfl
  have z1 := K2.out.cell 1 _ rfl
  have zf := K2.out.frozen
  go_wp2
  have y2 := (K2.out.setAt 0 (.int .i64 0)).setAt 1 (.int .i64 0)
  have y0 := y2.cell 0 _ rfl
  have y1 := y2.cell 1 _ rfl
  refine bodyPost_ret (v := .tuple #[.slice none 0 0, .agg #[.int .i64 0, .int .i64 0], .bool false]) (by simp [results, Try.results96, go_sem, y0, y1]) rfl ?_
  unfold NextPost
  rw [HN.out]
  exact ⟨rfl, (HB.out.setCell (p := ⟨w.heap.size + 1, 0, none⟩) (by simp) _).setCell (p := ⟨w.heap.size + 1, 1, none⟩) (by simp) _⟩
theorem elem_cells {w : World} {g o n : Nat} {l : List PElem} (h : ElemRow w (some ⟨g, o, none⟩) n l) (k : Nat) (x : PElem) (hx : l[k]? = some x) : w.cell? ⟨g, o + k * 2, none⟩ = some (.int .i64 x.key) ∧ w.cell? ⟨g, o + k * 2 + 1, none⟩ = some (.int .i64 x.from_) := by
  have hk : k < n := by rw [← h.1]; exact (List.getElem?_eq_some_iff.1 hx).1
  obtain ⟨y, ad, -, -, hy, e, c0, c1⟩ := pelem_at h k hk
  rw [hx] at hy
  cases hy; cases e
  rw [Addr.add_lit] at c0 c1
  exact ⟨c0, c1⟩
set_option maxRecDepth 100000 in
set_option maxHeartbeats 8000000 in
theorem r_Next_out (g o c : Nat) (cur : Array Value) (y : PElem) (q : List PElem) (s : PStep) (w : World) (hs : (s.do_ == 2) = true) (hc : q.length + 1 ≤ c) (hcm : c ≤ maxLen) (hb : w.heap[g]? = some (.cells cur 58 (0, 0))) (hcur : (cur.toList.drop o).take ((q.length + 1) * 2) = (y :: q).flatMap pelemCells) :
    Calls Try.prog 96 #[.slice (some ⟨g, o, none⟩) (q.length + 1) c, .agg #[.int .i64 s.at_, .int .i64 s.do_, .int .i64 s.key]] w (NextPost (.slice (some ⟨g, o, none⟩) (q.length + 1) c) (y :: q) s w) := by
  have hn : nextE (y :: q) s = some (q, y) := by simp only [beq_iff_eq] at hs; simp [nextE, hs]
  have HN := Lib.hid hn
  have hcm' : c ≤ 9223372036854775807 := hcm
  obtain ⟨e0, e1⟩ := elem_cells (C_raw (l := y :: q) (n := q.length + 1) rfl (by omega) hb hcur) 0 y rfl
  have E0 := Lib.hid (show w.cell? ⟨g, o, none⟩ = some (.int .i64 y.key) by simpa using e0)
  have E1 := Lib.hid (show w.cell? ⟨g, o + 1, none⟩ = some (.int .i64 y.from_) by simpa using e1)
  have hgl : g < w.heap.size := (Array.getElem?_eq_some_iff.1 hb).1
  have HBb := Lib.hid hb
  have HQ := Lib.hid (show ∀ W, W.heap[g]? = some (.cells cur 58 (0, 0)) → ∀ o' c', (q = [] ∨ o' = o + 2) → q.length ≤ c' → c' ≤ maxLen → ElemS W (.slice (some ⟨g, o', none⟩) q.length c') q from fun W hW o' c' ho hc' hm' => by
    rcases ho with rfl | rfl
    · exact .inr ⟨g, o', c', cur, rfl, hc', hm', hW, by simp⟩
    · refine .inr ⟨g, o + 2, c', cur, rfl, hc', hm', hW, ?_⟩
      have h1 := congrArg (fun z => z.drop 2) hcur
      simp only [List.flatMap_cons] at h1
      rw [List.drop_append, List.drop_of_length_le (l := pelemCells y) (by rw [pelem_flen]; omega), pelem_flen, Nat.sub_self, List.drop_zero, List.nil_append, List.drop_take, List.drop_drop, show (q.length + 1) * 2 - 2 = q.length * 2 by omega] at h1
      exact h1)
  clear hn e0 e1 hb hcur hcm
  obtain ⟨k1, k2, hB⟩ := two_new w ((w.alloc (.cells #[.int .i64 s.at_, .int .i64 s.do_, .int .i64 s.key] 36)).alloc (.cells #[.int .i64 0, .int .i64 0] 58)) _ _ _ _ (by simpa using Below.refl _ _)
  have K1 := Lib.hid k1
  have K2 := Lib.hid k2
  have HB := Lib.hid hB
  clear k1 k2 hB
  have hn0 : ((q.length : Int) + 1 == 0) = false := by simp only [beq_eq_false_iff_ne]; omega
  have hn1 : (1 : Int) ≤ (q.length : Int) + 1 := by omega
  have hn2 : (q.length : Int) + 1 ≤ (c : Int) := by omega
  have hn3 : (1 : Int) ≤ (c : Int) := by omega
  have hn4 : (0 : Int) < (q.length : Int) + 1 := by omega
  have hn5 : 1 ≤ c := by omega
  have hn6 : 0 < q.length + 1 := by omega
  obtain ⟨m, hm⟩ : ∃ m, m = q.length := ⟨_, rfl⟩
  rw [← hm] at hn0 hn1 hn2 hn4 hn6 hc ⊢
  have Hm := Lib.hid hm
  clear hm
  by_cases hc1 : c = 1
  · have hq0 := Lib.hid (show q = [] from List.eq_nil_of_length_eq_zero (by have := Hm.out; omega))
    subst hc1
    obtain rfl : m = 0 := by omega
    go_enter Try.func96, Try.ntmps96
    go_upto_region 1 with fail
    generalize ((w.alloc (.cells #[.int .i64 s.at_, .int .i64 s.do_, .int .i64 s.key] 36)).alloc (.cells #[.int .i64 0, .int .i64 0] 58)) = w2 at K1 K2 HB ⊢
    have s1 := K1.out.cell 1 _ rfl
    go_upto_region 4 with fail
    refine wp_region_flow [.free 0, .free 1, .free 2, .free 3, .calm 4, .free 5, .fence 6, .free 7] (Below w2.heap.size w2) (Below w2.heap.size w2) (stable_below _ _ (Nat.le_refl _)) (fun _ h => h) (by kernel_rfl) (by kernel_rfl) (below_drew1 (Below.refl _ _)) ?_
    simp only [pickEnts, pickF, List.getElem?_cons_succ, List.getElem?_cons_zero, List.filterMap_cons, List.filterMap_nil, Option.map_some]
    repeat ((first | refine flow_calm (fun K hK => ?_) | refine flow_free (fun K hK => ?_) | refine float_calm (fun K hK => ?_) | refine float_free (fun K hK => ?_)); go_simp; first | (refine hK _ ?_; clear hK K) | (apply Exists.intro; (refine ⟨fun X => ?_, hK _ ?_⟩); (first | (intro hC; rfl) | rfl | (intro hC; have e0 := cell_keep (below_step HB.out hC.out) E0.out; have e1 := cell_keep (below_step HB.out hC.out) E1.out; go_simp; done) | (intro hC; have e0 := cell_keep (below_step HB.out hC.out) E0.out; have e1 := cell_keep (below_step HB.out hC.out) E1.out; go_simp; rfl)); clear hK K))
    refine flow_fence rfl (fun X hX K hK => ?_)
    have z2 := K2.out.later hX.out
    have z0 := z2.cell 0 _ rfl
    have z1 := z2.cell 1 _ rfl
    have zf := z2.frozen
    go_simp
    refine hK.out _ _ (fun Z => Cells Z (w.heap.size + 1) #[.int .i64 y.key, .int .i64 y.from_] 58 ∧ Below w.heap.size w Z) (fun Z => Cells Z (w.heap.size + 1) #[.int .i64 y.key, .int .i64 y.from_] 58 ∧ Below w.heap.size w Z) (fun Z Z' hZ hb => ⟨hZ.1.later hb, below_step hZ.2 hb⟩) (fun _ h => h) ⟨(z2.setAt 0 (.int .i64 y.key)).setAt 1 (.int .i64 y.from_), ((below_step HB.out hX.out).setCell (p := ⟨w.heap.size + 1, 0, none⟩) (by simp) _).setCell (p := ⟨w.heap.size + 1, 1, none⟩) (by simp) _⟩ ?_
    clear hK K hX z2 z0 z1 zf
    repeat ((first | refine flow_calm (fun K hK => ?_) | refine flow_free (fun K hK => ?_) | refine float_calm (fun K hK => ?_) | refine float_free (fun K hK => ?_)); go_simp; first | (refine hK _ ?_; clear hK K) | (apply Exists.intro; (refine ⟨fun X => ?_, hK _ ?_⟩); (first | (intro hC; rfl) | rfl | (intro hC; skip; go_simp; done) | (intro hC; skip; go_simp; rfl)); clear hK K))
    refine flow_nil ?_
    intro Z hZ
    have y0 := hZ.out.1.cell 0 _ rfl
    have y1 := hZ.out.1.cell 1 _ rfl
    go_wp2
    refine bodyPost_ret (v := .tuple #[.slice (some ⟨g, o, none⟩) 0 0, .agg #[.int .i64 y.key, .int .i64 y.from_], .bool true]) (by simp [results, Try.results96, go_sem, y0, y1]) rfl ?_
    have h0 := HQ.out Z (heap_later hZ.out.2 HBb.out) o 0 (.inl hq0.out) (by rw [hq0.out]; exact Nat.le_refl _) (Nat.zero_le _)
    rw [← Hm.out] at h0
    exact next_some HN.out h0 (fun g' hg' => .inl hg') hZ.out.2
  · go_enter Try.func96, Try.ntmps96
    go_upto_region 1 with fail
    generalize ((w.alloc (.cells #[.int .i64 s.at_, .int .i64 s.do_, .int .i64 s.key] 36)).alloc (.cells #[.int .i64 0, .int .i64 0] 58)) = w2 at K1 K2 HB ⊢
    have s1 := K1.out.cell 1 _ rfl
    go_upto_region 4 with fail
    refine wp_region_flow [.free 0, .free 1, .free 2, .free 3, .calm 4, .free 5, .fence 6, .free 7] (Below w2.heap.size w2) (Below w2.heap.size w2) (stable_below _ _ (Nat.le_refl _)) (fun _ h => h) (by kernel_rfl) (by kernel_rfl) (below_drew1 (Below.refl _ _)) ?_
    simp only [pickEnts, pickF, List.getElem?_cons_succ, List.getElem?_cons_zero, List.filterMap_cons, List.filterMap_nil, Option.map_some]
    repeat ((first | refine flow_calm (fun K hK => ?_) | refine flow_free (fun K hK => ?_) | refine float_calm (fun K hK => ?_) | refine float_free (fun K hK => ?_)); go_simp; first | (refine hK _ ?_; clear hK K) | (apply Exists.intro; (refine ⟨fun X => ?_, hK _ ?_⟩); (first | (intro hC; rfl) | rfl | (intro hC; have e0 := cell_keep (below_step HB.out hC.out) E0.out; have e1 := cell_keep (below_step HB.out hC.out) E1.out; go_simp; done) | (intro hC; have e0 := cell_keep (below_step HB.out hC.out) E0.out; have e1 := cell_keep (below_step HB.out hC.out) E1.out; go_simp; rfl)); clear hK K))
    refine flow_fence rfl (fun X hX K hK => ?_)
    have z2 := K2.out.later hX.out
    have z0 := z2.cell 0 _ rfl
    have z1 := z2.cell 1 _ rfl
    have zf := z2.frozen
    go_simp
    refine hK.out _ _ (fun Z => Cells Z (w.heap.size + 1) #[.int .i64 y.key, .int .i64 y.from_] 58 ∧ Below w.heap.size w Z) (fun Z => Cells Z (w.heap.size + 1) #[.int .i64 y.key, .int .i64 y.from_] 58 ∧ Below w.heap.size w Z) (fun Z Z' hZ hb => ⟨hZ.1.later hb, below_step hZ.2 hb⟩) (fun _ h => h) ⟨(z2.setAt 0 (.int .i64 y.key)).setAt 1 (.int .i64 y.from_), ((below_step HB.out hX.out).setCell (p := ⟨w.heap.size + 1, 0, none⟩) (by simp) _).setCell (p := ⟨w.heap.size + 1, 1, none⟩) (by simp) _⟩ ?_
    clear hK K hX z2 z0 z1 zf
    repeat ((first | refine flow_calm (fun K hK => ?_) | refine flow_free (fun K hK => ?_) | refine float_calm (fun K hK => ?_) | refine float_free (fun K hK => ?_)); go_simp; first | (refine hK _ ?_; clear hK K) | (apply Exists.intro; (refine ⟨fun X => ?_, hK _ ?_⟩); (first | (intro hC; rfl) | rfl | (intro hC; skip; go_simp; done) | (intro hC; skip; go_simp; rfl)); clear hK K))
    refine flow_nil ?_
    intro Z hZ
    have y0 := hZ.out.1.cell 0 _ rfl
    have y1 := hZ.out.1.cell 1 _ rfl
    go_wp2
    refine bodyPost_ret (v := .tuple #[.slice (some ⟨g, o + 2, none⟩) m (c - 1), .agg #[.int .i64 y.key, .int .i64 y.from_], .bool true]) (by simp [results, Try.results96, go_sem, y0, y1]) rfl ?_
    have h0 := HQ.out Z (heap_later hZ.out.2 HBb.out) (o + 2) (c - 1) (.inr rfl) (by have := Hm.out; omega) (by unfold maxLen; omega)
    rw [← Hm.out] at h0
    exact next_some HN.out h0 (fun g' hg' => .inl hg') hZ.out.2
end Go.Proofs.Ytemkloildadokaa
set_option linter.unusedVariables false
set_option linter.unusedSimpArgs false
/-! What the reference says is there behind a step that comes. -/
namespace Go.Proofs.Ytemkloildadokaa
open Go.RowKit Go.Shelf Go.Proofs.YtemkloildadokaaW.PrintWords
theorem nextE_in {q : List PElem} {s : PStep} (hs : (s.do_ == 2) = false) : nextE q s = some (insE ⟨s.key, s.at_⟩ q, ⟨s.key, s.at_⟩) := by
  simp only [beq_eq_false_iff_ne] at hs; simp [nextE, hs]
theorem elemRow_take {w : World} {A : Option Addr} {n : Nat} {q : List PElem} (h : ElemRow w A n q) (k : Nat) (hk : k ≤ n) : ElemRow w A k (q.take k) := by
  obtain ⟨h1, h2, h3⟩ := h
  refine ⟨by rw [List.length_take]; omega, by omega, fun hp => ?_⟩
  obtain ⟨ad, e, h4⟩ := h3 (by omega)
  refine ⟨ad, e, fun j p hj => h4 j p ?_⟩
  have : j < k := by have := (List.getElem?_eq_some_iff.1 hj).1; rw [List.length_take] at this; omega
  rwa [List.getElem?_take_of_lt this] at hj
structure NextD (w : World) (v : Value) (q : List PElem) (s : PStep) (Z : World) : Prop where
  box : Cells Z (w.heap.size + 1) #[.int .i64 s.key, .int .i64 s.at_] 58
  row : ElemS Z v q
  new : ∀ g, v.ownBlock = some g → w.heap.size ≤ g
  below : Below w.heap.size w Z
theorem NextD.later {w : World} {v : Value} {q : List PElem} {s : PStep} {Z Z' : World} (h : NextD w v q s Z) (hb : Below Z.heap.size Z Z') : NextD w v q s Z' := ⟨h.box.later hb, h.row.keep (.of_below hb), h.new, below_step h.below hb⟩
set_option maxRecDepth 100000 in
set_option maxHeartbeats 16000000 in
theorem r_Next_in (g o c n : Nat) (cur : Array Value) (q : List PElem) (s : PStep) (w : World) (hs : (s.do_ == 2) = false) (hn : n = q.length) (hc : n ≤ c) (hcm : c ≤ maxLen) (hq : n ≤ 1000) (hb : w.heap[g]? = some (.cells cur 58 (0, 0))) (hcur : (cur.toList.drop o).take (n * 2) = q.flatMap pelemCells) :
    Calls Try.prog 96 #[.slice (some ⟨g, o, none⟩) n c, .agg #[.int .i64 s.at_, .int .i64 s.do_, .int .i64 s.key]] w (NextPost (.slice (some ⟨g, o, none⟩) n c) q s w) := by
  have hcm' : c ≤ 9223372036854775807 := hcm
  have HR := Lib.hid (C_raw (l := q) (n := n) hn (by omega) hb hcur)
  have HD := Lib.hid (show ∀ (W : World), Below w.heap.size w W → ∀ (k m' o' : Nat), m' = n - k → (m' = 0 ∨ o' = o + k * 2) → ElemRow W (some ⟨g, o', none⟩) m' (q.drop k) from fun W hW k m' o' hm' ho' => by
    have hbW := heap_later hW hb
    refine C_raw (by rw [List.length_drop]; omega) (by omega) hbW ?_
    rcases ho' with h0 | rfl
    · rw [h0, Nat.zero_mul, List.take_zero, List.drop_of_length_le (by omega)]; rfl
    · rw [flat_drop 2 pelemCells pelem_flen, ← hcur, List.drop_take, List.drop_drop, hm', Nat.sub_mul])
  have Hlen := Lib.hid hn
  clear hb hcur hn hcm
  have HN := Lib.hid (nextE_in (q := q) hs)
  obtain ⟨k1, k2, hB⟩ := two_new w ((w.alloc (.cells #[.int .i64 s.at_, .int .i64 s.do_, .int .i64 s.key] 36)).alloc (.cells #[.int .i64 0, .int .i64 0] 58)) _ _ _ _ (by simpa using Below.refl _ _)
  have K1 := Lib.hid k1
  have K2 := Lib.hid k2
  have HB := Lib.hid hB
  clear k1 k2 hB
  go_enter Try.func96, Try.ntmps96
  go_upto_region 1 with fail
  generalize ((w.alloc (.cells #[.int .i64 s.at_, .int .i64 s.do_, .int .i64 s.key] 36)).alloc (.cells #[.int .i64 0, .int .i64 0] 58)) = w2 at K1 K2 HB ⊢
  have s0 := K1.out.cell 0 _ rfl
  have s1 := K1.out.cell 1 _ rfl
  have s2 := K1.out.cell 2 _ rfl
  go_upto_region 6 with fail
  have HX6 := Lib.hid (Cells.new w2 #[.int .i64 s.key, .int .i64 s.at_] 58)
  have hb6 := below_alloc (Below.refl w2.heap.size w2) (.cells #[.int .i64 s.key, .int .i64 s.at_] 58)
  have HB6 := Lib.hid (below_step HB.out hb6)
  have HZ6 := Lib.hid (K2.out.later hb6)
  have HR6 := Lib.hid (Kd.C_below HR.out HB6.out)
  clear s0 s1 s2 hb6
  generalize w2.alloc (.cells #[.int .i64 s.key, .int .i64 s.at_] 58) = wx at HX6 HB6 HZ6 HR6 ⊢
  generalize w2.heap.size = gx at HX6 ⊢
  go_wp2
  go_loopw [8] (fun i wr => ∃ k : Nat, k ≤ n ∧ i = .int .i64 k ∧ Below wx.heap.size wx wr ∧ Hid (∀ i y, i < k → q[i]? = some y → eltB y ⟨s.key, s.at_⟩ = true)) (fun i _ => n - (intOf i).toNat)
  case atStart => exact ⟨0, Nat.zero_le _, rfl, Below.refl _ _, Lib.hid (fun i y h => absurd h (Nat.not_lt_zero _))⟩
  case round =>
    obtain ⟨k, hk, rfl, hB, hA⟩ := hrel
    have HBw := Lib.hid hB
    have HBr := Lib.hid (below_step HB6.out hB)
    have hzr : w.heap.size + 1 < wr.heap.size := (HZ6.out.later hB).lt
    clear hB
    have s0 : True := trivial
    have s1 : True := trivial
    have s2 : True := trivial
    have hkc : (k : Int) ≤ (c : Int) := by omega
    have hkn : (k : Int) ≤ (n : Int) := by omega
    have hkc' : k ≤ c := by omega
    by_cases hlt : k < n
    · obtain ⟨y, hy⟩ : ∃ y, q[k]? = some y := ⟨_, List.getElem?_eq_getElem (by have := Hlen.out; omega)⟩
      obtain ⟨e0, e1⟩ := elem_cells (Kd.C_below HR6.out HBw.out) k y hy
      have E0 := Lib.hid e0
      have E1 := Lib.hid e1
      have Hy := Lib.hid hy
      have hlt' : (k : Int) < (n : Int) := by omega
      clear e0 e1 hy
      cases he : eltB y ⟨s.key, s.at_⟩
      · have Hins := Lib.hid (ins_at (x := ⟨s.key, s.at_⟩) k hA.out (fun z hz => by rw [Hy.out] at hz; cases hz; exact he) (by have := Hlen.out; omega))
        have He := Lib.hid he
        have hck : ¬ (c = k) := by omega
        clear he
        go_wp2
        refine wp_region_flow [.free 0, .free 1, .free 2, .free 3, .free 4, .free 5, .free 6, .free 7, .calm 8, .calm 9, .calm 10, .free 11] (Below wr.heap.size wr) (Below wr.heap.size wr) (stable_below _ _ (Nat.le_refl _)) (fun _ h => h) (by kernel_rfl) (by kernel_rfl) (below_drew1 (Below.refl _ _)) ?_
        simp only [pickEnts, pickF, List.getElem?_cons_succ, List.getElem?_cons_zero, List.filterMap_cons, List.filterMap_nil, Option.map_some]
        repeat ((first | refine flow_calm (fun K hK => ?_) | refine flow_free (fun K hK => ?_) | refine float_calm (fun K hK => ?_) | refine float_free (fun K hK => ?_)); go_simp; first | (refine hK _ ?_; clear hK K) | (apply Exists.intro; (refine ⟨fun X => ?_, hK _ ?_⟩); (first | (intro hC; rfl) | rfl | (intro hC; have qx := (HX6.out.later HBw.out).later hC.out; have qx0 := qx.cell 0 _ rfl; have qx1 := qx.cell 1 _ rfl; have e0 := cell_keep hC.out E0.out; have e1 := cell_keep hC.out E1.out; go_simp; done) | (intro hC; have qx := (HX6.out.later HBw.out).later hC.out; have qx0 := qx.cell 0 _ rfl; have qx1 := qx.cell 1 _ rfl; have e0 := cell_keep hC.out E0.out; have e1 := cell_keep hC.out E1.out; go_simp; rfl) | (intro hC; (with_reducible refine (r_Less y ⟨s.key, s.at_⟩ _).mono ?_); rintro e w' ⟨rfl, hb⟩; exact ⟨by rw [He.out], hb⟩)); clear hK K))
        refine flow_nil ?_
        intro Y hY
        have HBw := Lib.hid (below_step HBw.out hY.out)
        have HBr := Lib.hid (below_step HBr.out hY.out)
        have hzr : w.heap.size + 1 < Y.heap.size := Nat.lt_of_lt_of_le hzr hY.out.size
        clear hY
        generalize hYr : Y = wr' at HBw HBr hzr ⊢
        go_upto_region 9 with fail
        have HT := Lib.hid (elemRow_take HR6.out k (by omega))
        clear s0 s1 s2
        refine wp_region_flow [.free 0, .free 1, .free 2, .calm 4, .free 7, .free 8, .free 9, .calm 11, .group [3, 5], .alone 6, .alone 10, .free 12, .fence 13, .free 14] (Below wr'.heap.size wr') (Below wr'.heap.size wr') (stable_below _ _ (Nat.le_refl _)) (fun _ h => h) (by kernel_rfl) (by kernel_rfl) (below_drew1 (Below.refl _ _)) ?_
        simp only [pickEnts, pickF, List.getElem?_cons_succ, List.getElem?_cons_zero, List.filterMap_cons, List.filterMap_nil, Option.map_some]
        repeat ((first | refine flow_calm (fun K hK => ?_) | refine flow_free (fun K hK => ?_) | refine float_calm (fun K hK => ?_) | refine float_free (fun K hK => ?_)); go_simp; first | (refine hK _ ?_; clear hK K) | (apply Exists.intro; (refine ⟨fun X => ?_, hK _ ?_⟩); (first | (intro hC; rfl) | rfl | (intro hC; have qx := (HX6.out.later HBw.out).later hC.out; have qx0 := qx.cell 0 _ rfl; have qx1 := qx.cell 1 _ rfl; go_simp; done) | (intro hC; have qx := (HX6.out.later HBw.out).later hC.out; have qx0 := qx.cell 0 _ rfl; have qx1 := qx.cell 1 _ rfl; go_simp; rfl)); clear hK K))
        refine flow_two (fun v X => Own kPElem 58 X wr'.heap.size v (q.take k)) (fun v X => ∃ B, v = .slice (some ⟨B, 0, none⟩) 1 1 ∧ Cells X B #[.int .i64 s.key, .int .i64 s.at_] 58) (fun _ _ _ h hb => Kd.R_below h hb) (fun _ _ _ h hb => by obtain ⟨B, h1, h2⟩ := h; exact ⟨B, h1, h2.later hb⟩) (by decide) ⟨rfl, fun X hX => ?_⟩ ⟨rfl, fun X hX => ?_⟩ (fun v u X0 hX0 hV0 hU0 => ?_)
        · exact makes_fresh kPElem wr'.heap.size hX.out.size (.const (.slice none 0 0)) (.tmp 42) 23 58 zElem 16 rfl (by kernel_rfl) (by kernel_rfl) rfl (by decide) (by omega) (q.take k) _ k _ rfl rfl (Kd.C_below HT.out (HBw.out.trans (hX.out.mono HBw.out.size))) (fun x cs h => pelem_KM _ _ _ _ x cs h) (by omega)
        · go_simp
          exact ⟨below_alloc (Below.refl _ _) _, Cells.new _ _ _⟩
        obtain ⟨B5, rfl, -⟩ := hU0
        obtain ⟨A3, n3, c3, rfl⟩ := R_slice' hV0
        clear hX0 hV0
        refine flow_alone rfl (fun X hX K hK => ?_)
        obtain ⟨hb5, ho5, B', hB', hcB⟩ := hX.out
        simp only [Value.slice.injEq, Option.some.injEq, Addr.mk.injEq, and_true] at hB'
        subst hB'
        refine Kd.R_append_rows_step kPElem (w0 := X) wr'.heap.size (by rfl) (.tmp 43) (.tmp 45) 23 58 zElem 16 rfl (by kernel_rfl) (by kernel_rfl) rfl (by decide) (by omega) (.slice A3 n3 c3) (q.take k) [(⟨s.key, s.at_⟩ : PElem)] _ _ _ (fun _ => True) (fun _ => False) rfl rfl ho5 (lit_row kPElem X B5 (⟨s.key, s.at_⟩ : PElem) (pelemCells ⟨s.key, s.at_⟩) 58 hcB (kPElem_mk _ _)) (fun x cs h => pelem_KM _ _ _ _ x cs h) (fun _ h => h.elim) (fun _ _ => trivial) (Below.refl _ _) hb5.size (by rw [List.length_take]; omega) ?_
        intro v6 w6 r1 r2 r3 r4
        obtain ⟨A6, n6, c6, rfl⟩ := R_slice' r1
        refine hK.out _ _ (fun Z => Below wr'.heap.size wr' Z) (fun Z => Below wr'.heap.size wr' Z ∧ Own kPElem 58 Z wr'.heap.size (.slice A6 n6 c6) (q.take k ++ [(⟨s.key, s.at_⟩ : PElem)])) (fun Z Z' hZ hb => ⟨hZ.1.trans (Below.mono hb hZ.1.size), Kd.R_below hZ.2 hb⟩) (fun _ h => h) (fun _ h => h.1) ⟨hb5.trans r2, r1⟩ ?_
        clear hK K hX hb5 ho5 hcB r1 r2 r3 r4
        repeat ((first | refine flow_calm (fun K hK => ?_) | refine flow_free (fun K hK => ?_) | refine float_calm (fun K hK => ?_) | refine float_free (fun K hK => ?_)); go_simp; first | (refine hK _ ?_; clear hK K) | (apply Exists.intro; (refine ⟨fun X => ?_, hK _ ?_⟩); (first | (intro hC; rfl) | rfl | (intro hC; skip; go_simp; done) | (intro hC; skip; go_simp; rfl)); clear hK K))
        refine flow_alone rfl (fun X hX K hK => ?_)
        obtain ⟨hb6, ho6⟩ := hX.out
        refine Kd.R_append_rows_step kPElem (w0 := X) wr'.heap.size (by rfl) (.tmp 46) (.tmp 49) 23 58 zElem 16 rfl (by kernel_rfl) (by kernel_rfl) rfl (by decide) (by omega) (.slice A6 n6 c6) (q.take k ++ [(⟨s.key, s.at_⟩ : PElem)]) (q.drop k) _ _ _ (fun _ => True) (fun _ => False) rfl rfl ho6 (HD.out X (HB6.out.trans ((HBw.out.trans (hb6.mono HBw.out.size)).mono HB6.out.size)) k _ _ (by omega) (.inr rfl)) (fun x cs h => pelem_KM _ _ _ _ x cs h) (fun _ h => h.elim) (fun _ _ => trivial) (Below.refl _ _) hb6.size (by rw [List.length_append, List.length_take, List.length_singleton]; omega) ?_
        intro v7 w7 r1 r2 r3 r4
        obtain ⟨A7, n7, c7, rfl⟩ := R_slice' r1
        refine hK.out _ _ (fun Z => Below wr'.heap.size wr' Z) (fun Z => Below wr'.heap.size wr' Z ∧ Own kPElem 58 Z wr'.heap.size (.slice A7 n7 c7) (q.take k ++ [(⟨s.key, s.at_⟩ : PElem)] ++ q.drop k)) (fun Z Z' hZ hb => ⟨hZ.1.trans (Below.mono hb hZ.1.size), Kd.R_below hZ.2 hb⟩) (fun _ h => h) (fun _ h => h.1) ⟨hb6.trans r2, r1⟩ ?_
        clear hK K hX hb6 ho6 r1 r2 r3 r4
        repeat ((first | refine flow_calm (fun K hK => ?_) | refine flow_free (fun K hK => ?_) | refine float_calm (fun K hK => ?_) | refine float_free (fun K hK => ?_)); go_simp; first | (refine hK _ ?_; clear hK K) | (apply Exists.intro; (refine ⟨fun X => ?_, hK _ ?_⟩); (first | (intro hC; rfl) | rfl | (intro hC; skip; go_simp; done) | (intro hC; skip; go_simp; rfl)); clear hK K))
        refine flow_fence rfl (fun X hX K hK => ?_)
        have z2 := (HZ6.out.later HBw.out).later hX.out.1
        have z0 := z2.cell 0 _ rfl
        have z1 := z2.cell 1 _ rfl
        have zf := z2.frozen
        go_simp
        refine hK.out _ _ (NextD w (.slice A7 n7 c7) (q.take k ++ [(⟨s.key, s.at_⟩ : PElem)] ++ q.drop k) s) (NextD w (.slice A7 n7 c7) (q.take k ++ [(⟨s.key, s.at_⟩ : PElem)] ++ q.drop k) s) (fun Z Z' hZ hb => hZ.later hb) (fun _ h => h) ⟨(z2.setAt 0 (.int .i64 s.key)).setAt 1 (.int .i64 s.at_), .of_own (R_set_low (R_set_low hX.out.2 (p := ⟨w.heap.size + 1, 0, none⟩) hzr _) (p := ⟨w.heap.size + 1, 1, none⟩) hzr _), (fun g' hg' => by have := (own_ty hX.out.2 hg').1; omega), ((below_step HBr.out hX.out.1).setCell (p := ⟨w.heap.size + 1, 0, none⟩) (by simp) _).setCell (p := ⟨w.heap.size + 1, 1, none⟩) (by simp) _⟩ ?_
        clear hK K hX z2 z0 z1 zf
        repeat ((first | refine flow_calm (fun K hK => ?_) | refine flow_free (fun K hK => ?_) | refine float_calm (fun K hK => ?_) | refine float_free (fun K hK => ?_)); go_simp; first | (refine hK _ ?_; clear hK K) | (apply Exists.intro; (refine ⟨fun X => ?_, hK _ ?_⟩); (first | (intro hC; rfl) | rfl | (intro hC; skip; go_simp; done) | (intro hC; skip; go_simp; rfl)); clear hK K))
        refine flow_nil ?_
        intro Z hZ
        have y0 := hZ.out.box.cell 0 _ rfl
        have y1 := hZ.out.box.cell 1 _ rfl
        go_wp2
        refine bodyPost_ret (v := .tuple #[.slice A7 n7 c7, .agg #[.int .i64 s.key, .int .i64 s.at_], .bool true]) (by simp [results, Try.results96, go_sem, y0, y1]) rfl ?_
        have hq := hZ.out.row
        rw [List.append_assoc, List.singleton_append, ← Hins.out] at hq
        exact next_some (x := ⟨s.key, s.at_⟩) HN.out hq (fun g' hg' => .inr ⟨hZ.out.new g' hg', (mem_ins _ _ _).2 (.inl rfl)⟩) hZ.out.below
      · have He := Lib.hid he
        clear he
        go_wp2
        refine wp_region_flow [.free 0, .free 1, .free 2, .free 3, .free 4, .free 5, .free 6, .free 7, .calm 8, .calm 9, .calm 10, .free 11] (Below wr.heap.size wr) (Below wr.heap.size wr) (stable_below _ _ (Nat.le_refl _)) (fun _ h => h) (by kernel_rfl) (by kernel_rfl) (below_drew1 (Below.refl _ _)) ?_
        simp only [pickEnts, pickF, List.getElem?_cons_succ, List.getElem?_cons_zero, List.filterMap_cons, List.filterMap_nil, Option.map_some]
        repeat ((first | refine flow_calm (fun K hK => ?_) | refine flow_free (fun K hK => ?_) | refine float_calm (fun K hK => ?_) | refine float_free (fun K hK => ?_)); go_simp; first | (refine hK _ ?_; clear hK K) | (apply Exists.intro; (refine ⟨fun X => ?_, hK _ ?_⟩); (first | (intro hC; rfl) | rfl | (intro hC; have qx := (HX6.out.later HBw.out).later hC.out; have qx0 := qx.cell 0 _ rfl; have qx1 := qx.cell 1 _ rfl; have e0 := cell_keep hC.out E0.out; have e1 := cell_keep hC.out E1.out; go_simp; done) | (intro hC; have qx := (HX6.out.later HBw.out).later hC.out; have qx0 := qx.cell 0 _ rfl; have qx1 := qx.cell 1 _ rfl; have e0 := cell_keep hC.out E0.out; have e1 := cell_keep hC.out E1.out; go_simp; rfl) | (intro hC; (with_reducible refine (r_Less y ⟨s.key, s.at_⟩ _).mono ?_); rintro e w' ⟨rfl, hb⟩; exact ⟨by rw [He.out], hb⟩)); clear hK K))
        refine flow_nil ?_
        intro Y hY
        have HY := Lib.hid hY.out
        clear hY
        go_wp2
        exact ⟨⟨k + 1, by omega, by go_num, below_step HBw.out HY.out, Lib.hid (fun i z hi hz => by
          rcases Nat.lt_or_ge i k with h | h
          · exact hA.out i z h hz
          · obtain rfl : i = k := by omega
            rw [Hy.out] at hz; cases hz; exact He.out)⟩, by simp [intOf]; omega⟩
    · obtain rfl : k = n := by omega
      have hlt' : ¬ ((k : Int) < (k : Int)) := by omega
      have Hins := Lib.hid (ins_at (x := ⟨s.key, s.at_⟩) (q := q) k hA.out (fun z hz => by have h := (List.getElem?_eq_some_iff.1 hz).1; have := Hlen.out; omega) (by have := Hlen.out; omega))
      go_wp2
      refine wp_region_flow [.free 0, .free 1, .free 2, .free 3, .free 4, .free 5, .free 6, .free 7, .calm 8, .calm 9, .calm 10, .free 11] (Below wr.heap.size wr) (Below wr.heap.size wr) (stable_below _ _ (Nat.le_refl _)) (fun _ h => h) (by kernel_rfl) (by kernel_rfl) (below_drew1 (Below.refl _ _)) ?_
      simp only [pickEnts, pickF, List.getElem?_cons_succ, List.getElem?_cons_zero, List.filterMap_cons, List.filterMap_nil, Option.map_some]
      repeat ((first | refine flow_calm (fun K hK => ?_) | refine flow_free (fun K hK => ?_) | refine float_calm (fun K hK => ?_) | refine float_free (fun K hK => ?_)); go_simp; first | (refine hK _ ?_; clear hK K) | (apply Exists.intro; (refine ⟨fun X => ?_, hK _ ?_⟩); (first | (intro hC; rfl) | rfl | (intro hC; skip; go_simp; done) | (intro hC; skip; go_simp; rfl)); clear hK K))
      refine flow_nil ?_
      intro Y hY
      have HBw := Lib.hid (below_step HBw.out hY.out)
      have HBr := Lib.hid (below_step HBr.out hY.out)
      have hzr : w.heap.size + 1 < Y.heap.size := Nat.lt_of_lt_of_le hzr hY.out.size
      clear hY
      generalize hYr : Y = wr' at HBw HBr hzr ⊢
      by_cases hck : c = k
      · subst hck
        go_upto_region 9 with fail
        have HT := Lib.hid (elemRow_take HR6.out c (by omega))
        clear s0 s1 s2
        refine wp_region_flow [.free 0, .free 1, .free 2, .calm 4, .free 7, .free 8, .free 9, .calm 11, .group [3, 5], .alone 6, .alone 10, .free 12, .fence 13, .free 14] (Below wr'.heap.size wr') (Below wr'.heap.size wr') (stable_below _ _ (Nat.le_refl _)) (fun _ h => h) (by kernel_rfl) (by kernel_rfl) (below_drew1 (Below.refl _ _)) ?_
        simp only [pickEnts, pickF, List.getElem?_cons_succ, List.getElem?_cons_zero, List.filterMap_cons, List.filterMap_nil, Option.map_some]
        repeat ((first | refine flow_calm (fun K hK => ?_) | refine flow_free (fun K hK => ?_) | refine float_calm (fun K hK => ?_) | refine float_free (fun K hK => ?_)); go_simp; first | (refine hK _ ?_; clear hK K) | (apply Exists.intro; (refine ⟨fun X => ?_, hK _ ?_⟩); (first | (intro hC; rfl) | rfl | (intro hC; have qx := (HX6.out.later HBw.out).later hC.out; have qx0 := qx.cell 0 _ rfl; have qx1 := qx.cell 1 _ rfl; go_simp; done) | (intro hC; have qx := (HX6.out.later HBw.out).later hC.out; have qx0 := qx.cell 0 _ rfl; have qx1 := qx.cell 1 _ rfl; go_simp; rfl)); clear hK K))
        refine flow_two (fun v X => Own kPElem 58 X wr'.heap.size v (q.take c)) (fun v X => ∃ B, v = .slice (some ⟨B, 0, none⟩) 1 1 ∧ Cells X B #[.int .i64 s.key, .int .i64 s.at_] 58) (fun _ _ _ h hb => Kd.R_below h hb) (fun _ _ _ h hb => by obtain ⟨B, h1, h2⟩ := h; exact ⟨B, h1, h2.later hb⟩) (by decide) ⟨rfl, fun X hX => ?_⟩ ⟨rfl, fun X hX => ?_⟩ (fun v u X0 hX0 hV0 hU0 => ?_)
        · exact makes_fresh kPElem wr'.heap.size hX.out.size (.const (.slice none 0 0)) (.tmp 42) 23 58 zElem 16 rfl (by kernel_rfl) (by kernel_rfl) rfl (by decide) (by omega) (q.take c) _ c _ rfl rfl (Kd.C_below HT.out (HBw.out.trans (hX.out.mono HBw.out.size))) (fun x cs h => pelem_KM _ _ _ _ x cs h) (by omega)
        · go_simp
          exact ⟨below_alloc (Below.refl _ _) _, Cells.new _ _ _⟩
        obtain ⟨B5, rfl, -⟩ := hU0
        obtain ⟨A3, n3, c3, rfl⟩ := R_slice' hV0
        clear hX0 hV0
        refine flow_alone rfl (fun X hX K hK => ?_)
        obtain ⟨hb5, ho5, B', hB', hcB⟩ := hX.out
        simp only [Value.slice.injEq, Option.some.injEq, Addr.mk.injEq, and_true] at hB'
        subst hB'
        refine Kd.R_append_rows_step kPElem (w0 := X) wr'.heap.size (by rfl) (.tmp 43) (.tmp 45) 23 58 zElem 16 rfl (by kernel_rfl) (by kernel_rfl) rfl (by decide) (by omega) (.slice A3 n3 c3) (q.take c) [(⟨s.key, s.at_⟩ : PElem)] _ _ _ (fun _ => True) (fun _ => False) rfl rfl ho5 (lit_row kPElem X B5 (⟨s.key, s.at_⟩ : PElem) (pelemCells ⟨s.key, s.at_⟩) 58 hcB (kPElem_mk _ _)) (fun x cs h => pelem_KM _ _ _ _ x cs h) (fun _ h => h.elim) (fun _ _ => trivial) (Below.refl _ _) hb5.size (by rw [List.length_take]; omega) ?_
        intro v6 w6 r1 r2 r3 r4
        obtain ⟨A6, n6, c6, rfl⟩ := R_slice' r1
        refine hK.out _ _ (fun Z => Below wr'.heap.size wr' Z) (fun Z => Below wr'.heap.size wr' Z ∧ Own kPElem 58 Z wr'.heap.size (.slice A6 n6 c6) (q.take c ++ [(⟨s.key, s.at_⟩ : PElem)])) (fun Z Z' hZ hb => ⟨hZ.1.trans (Below.mono hb hZ.1.size), Kd.R_below hZ.2 hb⟩) (fun _ h => h) (fun _ h => h.1) ⟨hb5.trans r2, r1⟩ ?_
        clear hK K hX hb5 ho5 hcB r1 r2 r3 r4
        repeat ((first | refine flow_calm (fun K hK => ?_) | refine flow_free (fun K hK => ?_) | refine float_calm (fun K hK => ?_) | refine float_free (fun K hK => ?_)); go_simp; first | (refine hK _ ?_; clear hK K) | (apply Exists.intro; (refine ⟨fun X => ?_, hK _ ?_⟩); (first | (intro hC; rfl) | rfl | (intro hC; skip; go_simp; done) | (intro hC; skip; go_simp; rfl)); clear hK K))
        refine flow_alone rfl (fun X hX K hK => ?_)
        obtain ⟨hb6, ho6⟩ := hX.out
        refine Kd.R_append_rows_step kPElem (w0 := X) wr'.heap.size (by rfl) (.tmp 46) (.tmp 49) 23 58 zElem 16 rfl (by kernel_rfl) (by kernel_rfl) rfl (by decide) (by omega) (.slice A6 n6 c6) (q.take c ++ [(⟨s.key, s.at_⟩ : PElem)]) (q.drop c) _ _ _ (fun _ => True) (fun _ => False) rfl rfl ho6 (HD.out X (HB6.out.trans ((HBw.out.trans (hb6.mono HBw.out.size)).mono HB6.out.size)) c 0 _ (by omega) (.inl rfl)) (fun x cs h => pelem_KM _ _ _ _ x cs h) (fun _ h => h.elim) (fun _ _ => trivial) (Below.refl _ _) hb6.size (by rw [List.length_append, List.length_take, List.length_singleton]; omega) ?_
        intro v7 w7 r1 r2 r3 r4
        obtain ⟨A7, n7, c7, rfl⟩ := R_slice' r1
        refine hK.out _ _ (fun Z => Below wr'.heap.size wr' Z) (fun Z => Below wr'.heap.size wr' Z ∧ Own kPElem 58 Z wr'.heap.size (.slice A7 n7 c7) (q.take c ++ [(⟨s.key, s.at_⟩ : PElem)] ++ q.drop c)) (fun Z Z' hZ hb => ⟨hZ.1.trans (Below.mono hb hZ.1.size), Kd.R_below hZ.2 hb⟩) (fun _ h => h) (fun _ h => h.1) ⟨hb6.trans r2, r1⟩ ?_
        clear hK K hX hb6 ho6 r1 r2 r3 r4
        repeat ((first | refine flow_calm (fun K hK => ?_) | refine flow_free (fun K hK => ?_) | refine float_calm (fun K hK => ?_) | refine float_free (fun K hK => ?_)); go_simp; first | (refine hK _ ?_; clear hK K) | (apply Exists.intro; (refine ⟨fun X => ?_, hK _ ?_⟩); (first | (intro hC; rfl) | rfl | (intro hC; skip; go_simp; done) | (intro hC; skip; go_simp; rfl)); clear hK K))
        refine flow_fence rfl (fun X hX K hK => ?_)
        have z2 := (HZ6.out.later HBw.out).later hX.out.1
        have z0 := z2.cell 0 _ rfl
        have z1 := z2.cell 1 _ rfl
        have zf := z2.frozen
        go_simp
        refine hK.out _ _ (NextD w (.slice A7 n7 c7) (q.take c ++ [(⟨s.key, s.at_⟩ : PElem)] ++ q.drop c) s) (NextD w (.slice A7 n7 c7) (q.take c ++ [(⟨s.key, s.at_⟩ : PElem)] ++ q.drop c) s) (fun Z Z' hZ hb => hZ.later hb) (fun _ h => h) ⟨(z2.setAt 0 (.int .i64 s.key)).setAt 1 (.int .i64 s.at_), .of_own (R_set_low (R_set_low hX.out.2 (p := ⟨w.heap.size + 1, 0, none⟩) hzr _) (p := ⟨w.heap.size + 1, 1, none⟩) hzr _), (fun g' hg' => by have := (own_ty hX.out.2 hg').1; omega), ((below_step HBr.out hX.out.1).setCell (p := ⟨w.heap.size + 1, 0, none⟩) (by simp) _).setCell (p := ⟨w.heap.size + 1, 1, none⟩) (by simp) _⟩ ?_
        clear hK K hX z2 z0 z1 zf
        repeat ((first | refine flow_calm (fun K hK => ?_) | refine flow_free (fun K hK => ?_) | refine float_calm (fun K hK => ?_) | refine float_free (fun K hK => ?_)); go_simp; first | (refine hK _ ?_; clear hK K) | (apply Exists.intro; (refine ⟨fun X => ?_, hK _ ?_⟩); (first | (intro hC; rfl) | rfl | (intro hC; skip; go_simp; done) | (intro hC; skip; go_simp; rfl)); clear hK K))
        refine flow_nil ?_
        intro Z hZ
        have y0 := hZ.out.box.cell 0 _ rfl
        have y1 := hZ.out.box.cell 1 _ rfl
        go_wp2
        refine bodyPost_ret (v := .tuple #[.slice A7 n7 c7, .agg #[.int .i64 s.key, .int .i64 s.at_], .bool true]) (by simp [results, Try.results96, go_sem, y0, y1]) rfl ?_
        have hq := hZ.out.row
        rw [List.append_assoc, List.singleton_append, ← Hins.out] at hq
        exact next_some (x := ⟨s.key, s.at_⟩) HN.out hq (fun g' hg' => .inr ⟨hZ.out.new g' hg', (mem_ins _ _ _).2 (.inl rfl)⟩) hZ.out.below
      · go_upto_region 9 with fail
        have HT := Lib.hid (elemRow_take HR6.out k (by omega))
        clear s0 s1 s2
        refine wp_region_flow [.free 0, .free 1, .free 2, .calm 4, .free 7, .free 8, .free 9, .calm 11, .group [3, 5], .alone 6, .alone 10, .free 12, .fence 13, .free 14] (Below wr'.heap.size wr') (Below wr'.heap.size wr') (stable_below _ _ (Nat.le_refl _)) (fun _ h => h) (by kernel_rfl) (by kernel_rfl) (below_drew1 (Below.refl _ _)) ?_
        simp only [pickEnts, pickF, List.getElem?_cons_succ, List.getElem?_cons_zero, List.filterMap_cons, List.filterMap_nil, Option.map_some]
        repeat ((first | refine flow_calm (fun K hK => ?_) | refine flow_free (fun K hK => ?_) | refine float_calm (fun K hK => ?_) | refine float_free (fun K hK => ?_)); go_simp; first | (refine hK _ ?_; clear hK K) | (apply Exists.intro; (refine ⟨fun X => ?_, hK _ ?_⟩); (first | (intro hC; rfl) | rfl | (intro hC; have qx := (HX6.out.later HBw.out).later hC.out; have qx0 := qx.cell 0 _ rfl; have qx1 := qx.cell 1 _ rfl; go_simp; done) | (intro hC; have qx := (HX6.out.later HBw.out).later hC.out; have qx0 := qx.cell 0 _ rfl; have qx1 := qx.cell 1 _ rfl; go_simp; rfl)); clear hK K))
        refine flow_two (fun v X => Own kPElem 58 X wr'.heap.size v (q.take k)) (fun v X => ∃ B, v = .slice (some ⟨B, 0, none⟩) 1 1 ∧ Cells X B #[.int .i64 s.key, .int .i64 s.at_] 58) (fun _ _ _ h hb => Kd.R_below h hb) (fun _ _ _ h hb => by obtain ⟨B, h1, h2⟩ := h; exact ⟨B, h1, h2.later hb⟩) (by decide) ⟨rfl, fun X hX => ?_⟩ ⟨rfl, fun X hX => ?_⟩ (fun v u X0 hX0 hV0 hU0 => ?_)
        · exact makes_fresh kPElem wr'.heap.size hX.out.size (.const (.slice none 0 0)) (.tmp 42) 23 58 zElem 16 rfl (by kernel_rfl) (by kernel_rfl) rfl (by decide) (by omega) (q.take k) _ k _ rfl rfl (Kd.C_below HT.out (HBw.out.trans (hX.out.mono HBw.out.size))) (fun x cs h => pelem_KM _ _ _ _ x cs h) (by omega)
        · go_simp
          exact ⟨below_alloc (Below.refl _ _) _, Cells.new _ _ _⟩
        obtain ⟨B5, rfl, -⟩ := hU0
        obtain ⟨A3, n3, c3, rfl⟩ := R_slice' hV0
        clear hX0 hV0
        refine flow_alone rfl (fun X hX K hK => ?_)
        obtain ⟨hb5, ho5, B', hB', hcB⟩ := hX.out
        simp only [Value.slice.injEq, Option.some.injEq, Addr.mk.injEq, and_true] at hB'
        subst hB'
        refine Kd.R_append_rows_step kPElem (w0 := X) wr'.heap.size (by rfl) (.tmp 43) (.tmp 45) 23 58 zElem 16 rfl (by kernel_rfl) (by kernel_rfl) rfl (by decide) (by omega) (.slice A3 n3 c3) (q.take k) [(⟨s.key, s.at_⟩ : PElem)] _ _ _ (fun _ => True) (fun _ => False) rfl rfl ho5 (lit_row kPElem X B5 (⟨s.key, s.at_⟩ : PElem) (pelemCells ⟨s.key, s.at_⟩) 58 hcB (kPElem_mk _ _)) (fun x cs h => pelem_KM _ _ _ _ x cs h) (fun _ h => h.elim) (fun _ _ => trivial) (Below.refl _ _) hb5.size (by rw [List.length_take]; omega) ?_
        intro v6 w6 r1 r2 r3 r4
        obtain ⟨A6, n6, c6, rfl⟩ := R_slice' r1
        refine hK.out _ _ (fun Z => Below wr'.heap.size wr' Z) (fun Z => Below wr'.heap.size wr' Z ∧ Own kPElem 58 Z wr'.heap.size (.slice A6 n6 c6) (q.take k ++ [(⟨s.key, s.at_⟩ : PElem)])) (fun Z Z' hZ hb => ⟨hZ.1.trans (Below.mono hb hZ.1.size), Kd.R_below hZ.2 hb⟩) (fun _ h => h) (fun _ h => h.1) ⟨hb5.trans r2, r1⟩ ?_
        clear hK K hX hb5 ho5 hcB r1 r2 r3 r4
        repeat ((first | refine flow_calm (fun K hK => ?_) | refine flow_free (fun K hK => ?_) | refine float_calm (fun K hK => ?_) | refine float_free (fun K hK => ?_)); go_simp; first | (refine hK _ ?_; clear hK K) | (apply Exists.intro; (refine ⟨fun X => ?_, hK _ ?_⟩); (first | (intro hC; rfl) | rfl | (intro hC; skip; go_simp; done) | (intro hC; skip; go_simp; rfl)); clear hK K))
        refine flow_alone rfl (fun X hX K hK => ?_)
        obtain ⟨hb6, ho6⟩ := hX.out
        refine Kd.R_append_rows_step kPElem (w0 := X) wr'.heap.size (by rfl) (.tmp 46) (.tmp 49) 23 58 zElem 16 rfl (by kernel_rfl) (by kernel_rfl) rfl (by decide) (by omega) (.slice A6 n6 c6) (q.take k ++ [(⟨s.key, s.at_⟩ : PElem)]) (q.drop k) _ _ _ (fun _ => True) (fun _ => False) rfl rfl ho6 (HD.out X (HB6.out.trans ((HBw.out.trans (hb6.mono HBw.out.size)).mono HB6.out.size)) k _ _ (by omega) (.inr rfl)) (fun x cs h => pelem_KM _ _ _ _ x cs h) (fun _ h => h.elim) (fun _ _ => trivial) (Below.refl _ _) hb6.size (by rw [List.length_append, List.length_take, List.length_singleton]; omega) ?_
        intro v7 w7 r1 r2 r3 r4
        obtain ⟨A7, n7, c7, rfl⟩ := R_slice' r1
        refine hK.out _ _ (fun Z => Below wr'.heap.size wr' Z) (fun Z => Below wr'.heap.size wr' Z ∧ Own kPElem 58 Z wr'.heap.size (.slice A7 n7 c7) (q.take k ++ [(⟨s.key, s.at_⟩ : PElem)] ++ q.drop k)) (fun Z Z' hZ hb => ⟨hZ.1.trans (Below.mono hb hZ.1.size), Kd.R_below hZ.2 hb⟩) (fun _ h => h) (fun _ h => h.1) ⟨hb6.trans r2, r1⟩ ?_
        clear hK K hX hb6 ho6 r1 r2 r3 r4
        repeat ((first | refine flow_calm (fun K hK => ?_) | refine flow_free (fun K hK => ?_) | refine float_calm (fun K hK => ?_) | refine float_free (fun K hK => ?_)); go_simp; first | (refine hK _ ?_; clear hK K) | (apply Exists.intro; (refine ⟨fun X => ?_, hK _ ?_⟩); (first | (intro hC; rfl) | rfl | (intro hC; skip; go_simp; done) | (intro hC; skip; go_simp; rfl)); clear hK K))
        refine flow_fence rfl (fun X hX K hK => ?_)
        have z2 := (HZ6.out.later HBw.out).later hX.out.1
        have z0 := z2.cell 0 _ rfl
        have z1 := z2.cell 1 _ rfl
        have zf := z2.frozen
        go_simp
        refine hK.out _ _ (NextD w (.slice A7 n7 c7) (q.take k ++ [(⟨s.key, s.at_⟩ : PElem)] ++ q.drop k) s) (NextD w (.slice A7 n7 c7) (q.take k ++ [(⟨s.key, s.at_⟩ : PElem)] ++ q.drop k) s) (fun Z Z' hZ hb => hZ.later hb) (fun _ h => h) ⟨(z2.setAt 0 (.int .i64 s.key)).setAt 1 (.int .i64 s.at_), .of_own (R_set_low (R_set_low hX.out.2 (p := ⟨w.heap.size + 1, 0, none⟩) hzr _) (p := ⟨w.heap.size + 1, 1, none⟩) hzr _), (fun g' hg' => by have := (own_ty hX.out.2 hg').1; omega), ((below_step HBr.out hX.out.1).setCell (p := ⟨w.heap.size + 1, 0, none⟩) (by simp) _).setCell (p := ⟨w.heap.size + 1, 1, none⟩) (by simp) _⟩ ?_
        clear hK K hX z2 z0 z1 zf
        repeat ((first | refine flow_calm (fun K hK => ?_) | refine flow_free (fun K hK => ?_) | refine float_calm (fun K hK => ?_) | refine float_free (fun K hK => ?_)); go_simp; first | (refine hK _ ?_; clear hK K) | (apply Exists.intro; (refine ⟨fun X => ?_, hK _ ?_⟩); (first | (intro hC; rfl) | rfl | (intro hC; skip; go_simp; done) | (intro hC; skip; go_simp; rfl)); clear hK K))
        refine flow_nil ?_
        intro Z hZ
        have y0 := hZ.out.box.cell 0 _ rfl
        have y1 := hZ.out.box.cell 1 _ rfl
        go_wp2
        refine bodyPost_ret (v := .tuple #[.slice A7 n7 c7, .agg #[.int .i64 s.key, .int .i64 s.at_], .bool true]) (by simp [results, Try.results96, go_sem, y0, y1]) rfl ?_
        have hq := hZ.out.row
        rw [List.append_assoc, List.singleton_append, ← Hins.out] at hq
        exact next_some (x := ⟨s.key, s.at_⟩) HN.out hq (fun g' hg' => .inr ⟨hZ.out.new g' hg', (mem_ins _ _ _).2 (.inl rfl)⟩) hZ.out.below

end Go.Proofs.Ytemkloildadokaa
set_option linter.unusedVariables false
set_option linter.unusedSimpArgs false
/-! What the reference says is there at each moment. -/
namespace Go.Proofs.Ytemkloildadokaa
open Go.RowKit Go.Shelf Go.Proofs.YtemkloildadokaaW.PrintWords
set_option maxRecDepth 100000 in
set_option maxHeartbeats 16000000 in
theorem r_Next_in_nil (q : List PElem) (s : PStep) (w : World) (hs : (s.do_ == 2) = false) (hq0 : q = []) :
    Calls Try.prog 96 #[.slice none 0 0, .agg #[.int .i64 s.at_, .int .i64 s.do_, .int .i64 s.key]] w (NextPost (.slice none 0 0) q s w) := by
  have HR := Lib.hid (show ElemRow w none 0 q by subst hq0; exact ⟨rfl, Nat.zero_le _, fun h => absurd h (Nat.lt_irrefl _)⟩)
  have HD0 := Lib.hid (show ElemRow w none 0 (q.drop 0) by rw [List.drop_zero]; exact HR.out)
  have Hins := Lib.hid (show insE ⟨s.key, s.at_⟩ q = q.take 0 ++ (⟨s.key, s.at_⟩ : PElem) :: q.drop 0 by subst hq0; rfl)
  clear hq0
  have HN := Lib.hid (nextE_in (q := q) hs)
  obtain ⟨k1, k2, hB⟩ := two_new w ((w.alloc (.cells #[.int .i64 s.at_, .int .i64 s.do_, .int .i64 s.key] 36)).alloc (.cells #[.int .i64 0, .int .i64 0] 58)) _ _ _ _ (by simpa using Below.refl _ _)
  have K1 := Lib.hid k1
  have K2 := Lib.hid k2
  have HB := Lib.hid hB
  clear k1 k2 hB
  go_enter Try.func96, Try.ntmps96
  go_upto_region 1 with fail
  generalize ((w.alloc (.cells #[.int .i64 s.at_, .int .i64 s.do_, .int .i64 s.key] 36)).alloc (.cells #[.int .i64 0, .int .i64 0] 58)) = w2 at K1 K2 HB ⊢
  have s0 := K1.out.cell 0 _ rfl
  have s1 := K1.out.cell 1 _ rfl
  have s2 := K1.out.cell 2 _ rfl
  go_upto_region 6 with fail
  have HX6 := Lib.hid (Cells.new w2 #[.int .i64 s.key, .int .i64 s.at_] 58)
  have hb6 := below_alloc (Below.refl w2.heap.size w2) (.cells #[.int .i64 s.key, .int .i64 s.at_] 58)
  have HB6 := Lib.hid (below_step HB.out hb6)
  have HZ6 := Lib.hid (K2.out.later hb6)
  have HR6 := Lib.hid (Kd.C_below HR.out HB6.out)
  clear s0 s1 s2 hb6
  generalize w2.alloc (.cells #[.int .i64 s.key, .int .i64 s.at_] 58) = wx at HX6 HB6 HZ6 HR6 ⊢
  generalize w2.heap.size = gx at HX6 ⊢
  go_wp2
  go_loopw [8] (fun i wr => i = .int .i64 0 ∧ Below wx.heap.size wx wr) (fun i _ => 0)
  case atStart => exact ⟨rfl, Below.refl _ _⟩
  case round =>
  obtain ⟨rfl, hB⟩ := hrel
  have HBw := Lib.hid hB
  have HBr := Lib.hid (below_step HB6.out hB)
  have hzr : w.heap.size + 1 < wr.heap.size := (HZ6.out.later hB).lt
  clear hB
  have s0 : True := trivial
  have s1 : True := trivial
  have s2 : True := trivial
  go_wp2
  refine wp_region_flow [.free 0, .free 1, .free 2, .free 3, .free 4, .free 5, .free 6, .free 7, .calm 8, .calm 9, .calm 10, .free 11] (Below wr.heap.size wr) (Below wr.heap.size wr) (stable_below _ _ (Nat.le_refl _)) (fun _ h => h) (by kernel_rfl) (by kernel_rfl) (below_drew1 (Below.refl _ _)) ?_
  simp only [pickEnts, pickF, List.getElem?_cons_succ, List.getElem?_cons_zero, List.filterMap_cons, List.filterMap_nil, Option.map_some]
  repeat ((first | refine flow_calm (fun K hK => ?_) | refine flow_free (fun K hK => ?_) | refine float_calm (fun K hK => ?_) | refine float_free (fun K hK => ?_)); go_simp; first | (refine hK _ ?_; clear hK K) | (apply Exists.intro; (refine ⟨fun X => ?_, hK _ ?_⟩); (first | (intro hC; rfl) | rfl | (intro hC; skip; go_simp; done) | (intro hC; skip; go_simp; rfl)); clear hK K))
  refine flow_nil ?_
  intro Y hY
  have HBw := Lib.hid (below_step HBw.out hY.out)
  have HBr := Lib.hid (below_step HBr.out hY.out)
  have hzr : w.heap.size + 1 < Y.heap.size := Nat.lt_of_lt_of_le hzr hY.out.size
  clear hY
  generalize hYr : Y = wr' at HBw HBr hzr ⊢
  go_upto_region 9 with fail
  have HT := Lib.hid (elemRow_take HR6.out 0 (by omega))
  clear s0 s1 s2
  refine wp_region_flow [.free 0, .free 1, .free 2, .calm 4, .free 7, .free 8, .free 9, .calm 11, .group [3, 5], .alone 6, .alone 10, .free 12, .fence 13, .free 14] (Below wr'.heap.size wr') (Below wr'.heap.size wr') (stable_below _ _ (Nat.le_refl _)) (fun _ h => h) (by kernel_rfl) (by kernel_rfl) (below_drew1 (Below.refl _ _)) ?_
  simp only [pickEnts, pickF, List.getElem?_cons_succ, List.getElem?_cons_zero, List.filterMap_cons, List.filterMap_nil, Option.map_some]
  repeat ((first | refine flow_calm (fun K hK => ?_) | refine flow_free (fun K hK => ?_) | refine float_calm (fun K hK => ?_) | refine float_free (fun K hK => ?_)); go_simp; first | (refine hK _ ?_; clear hK K) | (apply Exists.intro; (refine ⟨fun X => ?_, hK _ ?_⟩); (first | (intro hC; rfl) | rfl | (intro hC; have qx := (HX6.out.later HBw.out).later hC.out; have qx0 := qx.cell 0 _ rfl; have qx1 := qx.cell 1 _ rfl; go_simp; done) | (intro hC; have qx := (HX6.out.later HBw.out).later hC.out; have qx0 := qx.cell 0 _ rfl; have qx1 := qx.cell 1 _ rfl; go_simp; rfl)); clear hK K))
  refine flow_two (fun v X => Own kPElem 58 X wr'.heap.size v (q.take 0)) (fun v X => ∃ B, v = .slice (some ⟨B, 0, none⟩) 1 1 ∧ Cells X B #[.int .i64 s.key, .int .i64 s.at_] 58) (fun _ _ _ h hb => Kd.R_below h hb) (fun _ _ _ h hb => by obtain ⟨B, h1, h2⟩ := h; exact ⟨B, h1, h2.later hb⟩) (by decide) ⟨rfl, fun X hX => ?_⟩ ⟨rfl, fun X hX => ?_⟩ (fun v u X0 hX0 hV0 hU0 => ?_)
  · exact makes_fresh kPElem wr'.heap.size hX.out.size (.const (.slice none 0 0)) (.tmp 42) 23 58 zElem 16 rfl (by kernel_rfl) (by kernel_rfl) rfl (by decide) (by omega) (q.take 0) _ 0 _ rfl rfl (Kd.C_below HT.out (HBw.out.trans (hX.out.mono HBw.out.size))) (fun x cs h => pelem_KM _ _ _ _ x cs h) (by omega)
  · go_simp
    exact ⟨below_alloc (Below.refl _ _) _, Cells.new _ _ _⟩
  obtain ⟨B5, rfl, -⟩ := hU0
  obtain ⟨A3, n3, c3, rfl⟩ := R_slice' hV0
  clear hX0 hV0
  refine flow_alone rfl (fun X hX K hK => ?_)
  obtain ⟨hb5, ho5, B', hB', hcB⟩ := hX.out
  simp only [Value.slice.injEq, Option.some.injEq, Addr.mk.injEq, and_true] at hB'
  subst hB'
  refine Kd.R_append_rows_step kPElem (w0 := X) wr'.heap.size (by rfl) (.tmp 43) (.tmp 45) 23 58 zElem 16 rfl (by kernel_rfl) (by kernel_rfl) rfl (by decide) (by omega) (.slice A3 n3 c3) (q.take 0) [(⟨s.key, s.at_⟩ : PElem)] _ _ _ (fun _ => True) (fun _ => False) rfl rfl ho5 (lit_row kPElem X B5 (⟨s.key, s.at_⟩ : PElem) (pelemCells ⟨s.key, s.at_⟩) 58 hcB (kPElem_mk _ _)) (fun x cs h => pelem_KM _ _ _ _ x cs h) (fun _ h => h.elim) (fun _ _ => trivial) (Below.refl _ _) hb5.size (by rw [List.length_take]; omega) ?_
  intro v6 w6 r1 r2 r3 r4
  obtain ⟨A6, n6, c6, rfl⟩ := R_slice' r1
  refine hK.out _ _ (fun Z => Below wr'.heap.size wr' Z) (fun Z => Below wr'.heap.size wr' Z ∧ Own kPElem 58 Z wr'.heap.size (.slice A6 n6 c6) (q.take 0 ++ [(⟨s.key, s.at_⟩ : PElem)])) (fun Z Z' hZ hb => ⟨hZ.1.trans (Below.mono hb hZ.1.size), Kd.R_below hZ.2 hb⟩) (fun _ h => h) (fun _ h => h.1) ⟨hb5.trans r2, r1⟩ ?_
  clear hK K hX hb5 ho5 hcB r1 r2 r3 r4
  repeat ((first | refine flow_calm (fun K hK => ?_) | refine flow_free (fun K hK => ?_) | refine float_calm (fun K hK => ?_) | refine float_free (fun K hK => ?_)); go_simp; first | (refine hK _ ?_; clear hK K) | (apply Exists.intro; (refine ⟨fun X => ?_, hK _ ?_⟩); (first | (intro hC; rfl) | rfl | (intro hC; skip; go_simp; done) | (intro hC; skip; go_simp; rfl)); clear hK K))
  refine flow_alone rfl (fun X hX K hK => ?_)
  obtain ⟨hb6, ho6⟩ := hX.out
  refine Kd.R_append_rows_step kPElem (w0 := X) wr'.heap.size (by rfl) (.tmp 46) (.tmp 49) 23 58 zElem 16 rfl (by kernel_rfl) (by kernel_rfl) rfl (by decide) (by omega) (.slice A6 n6 c6) (q.take 0 ++ [(⟨s.key, s.at_⟩ : PElem)]) (q.drop 0) _ _ _ (fun _ => True) (fun _ => False) rfl rfl ho6 ((fun X (hX : Below wx.heap.size wx X) => Kd.C_below HD0.out (HB6.out.trans (hX.mono HB6.out.size))) X (HBw.out.trans (hb6.mono HBw.out.size))) (fun x cs h => pelem_KM _ _ _ _ x cs h) (fun _ h => h.elim) (fun _ _ => trivial) (Below.refl _ _) hb6.size (by rw [List.length_append, List.length_take, List.length_singleton]; omega) ?_
  intro v7 w7 r1 r2 r3 r4
  obtain ⟨A7, n7, c7, rfl⟩ := R_slice' r1
  refine hK.out _ _ (fun Z => Below wr'.heap.size wr' Z) (fun Z => Below wr'.heap.size wr' Z ∧ Own kPElem 58 Z wr'.heap.size (.slice A7 n7 c7) (q.take 0 ++ [(⟨s.key, s.at_⟩ : PElem)] ++ q.drop 0)) (fun Z Z' hZ hb => ⟨hZ.1.trans (Below.mono hb hZ.1.size), Kd.R_below hZ.2 hb⟩) (fun _ h => h) (fun _ h => h.1) ⟨hb6.trans r2, r1⟩ ?_
  clear hK K hX hb6 ho6 r1 r2 r3 r4
  repeat ((first | refine flow_calm (fun K hK => ?_) | refine flow_free (fun K hK => ?_) | refine float_calm (fun K hK => ?_) | refine float_free (fun K hK => ?_)); go_simp; first | (refine hK _ ?_; clear hK K) | (apply Exists.intro; (refine ⟨fun X => ?_, hK _ ?_⟩); (first | (intro hC; rfl) | rfl | (intro hC; skip; go_simp; done) | (intro hC; skip; go_simp; rfl)); clear hK K))
  refine flow_fence rfl (fun X hX K hK => ?_)
  have z2 := (HZ6.out.later HBw.out).later hX.out.1
  have z0 := z2.cell 0 _ rfl
  have z1 := z2.cell 1 _ rfl
  have zf := z2.frozen
  go_simp
  refine hK.out _ _ (NextD w (.slice A7 n7 c7) (q.take 0 ++ [(⟨s.key, s.at_⟩ : PElem)] ++ q.drop 0) s) (NextD w (.slice A7 n7 c7) (q.take 0 ++ [(⟨s.key, s.at_⟩ : PElem)] ++ q.drop 0) s) (fun Z Z' hZ hb => hZ.later hb) (fun _ h => h) ⟨(z2.setAt 0 (.int .i64 s.key)).setAt 1 (.int .i64 s.at_), .of_own (R_set_low (R_set_low hX.out.2 (p := ⟨w.heap.size + 1, 0, none⟩) hzr _) (p := ⟨w.heap.size + 1, 1, none⟩) hzr _), (fun g' hg' => by have := (own_ty hX.out.2 hg').1; omega), ((below_step HBr.out hX.out.1).setCell (p := ⟨w.heap.size + 1, 0, none⟩) (by simp) _).setCell (p := ⟨w.heap.size + 1, 1, none⟩) (by simp) _⟩ ?_
  clear hK K hX z2 z0 z1 zf
  repeat ((first | refine flow_calm (fun K hK => ?_) | refine flow_free (fun K hK => ?_) | refine float_calm (fun K hK => ?_) | refine float_free (fun K hK => ?_)); go_simp; first | (refine hK _ ?_; clear hK K) | (apply Exists.intro; (refine ⟨fun X => ?_, hK _ ?_⟩); (first | (intro hC; rfl) | rfl | (intro hC; skip; go_simp; done) | (intro hC; skip; go_simp; rfl)); clear hK K))
  refine flow_nil ?_
  intro Z hZ
  have y0 := hZ.out.box.cell 0 _ rfl
  have y1 := hZ.out.box.cell 1 _ rfl
  go_wp2
  refine bodyPost_ret (v := .tuple #[.slice A7 n7 c7, .agg #[.int .i64 s.key, .int .i64 s.at_], .bool true]) (by simp [results, Try.results96, go_sem, y0, y1]) rfl ?_
  have hq := hZ.out.row
  rw [List.append_assoc, List.singleton_append, ← Hins.out] at hq
  exact next_some (x := ⟨s.key, s.at_⟩) HN.out hq (fun g' hg' => .inr ⟨hZ.out.new g' hg', (mem_ins _ _ _).2 (.inl rfl)⟩) hZ.out.below
/-- .. whatever there is. -/
theorem r_Next (v : Value) (q : List PElem) (s : PStep) (w : World) (hv : ElemS w v q) (hq : q.length ≤ 1000) :
    Calls Try.prog 96 #[v, .agg #[.int .i64 s.at_, .int .i64 s.do_, .int .i64 s.key]] w (NextPost v q s w) := by
  cases hs : (s.do_ == 2) with
  | true =>
    rcases hv with ⟨rfl, rfl⟩ | ⟨g, o, c, cur, rfl, h2, h3, h4, h5⟩
    · exact r_Next_nil 0 s w none hs
    · cases q with
      | nil => exact r_Next_nil c s w _ hs
      | cons y q => exact r_Next_out g o c cur y q s w hs h2 h3 h4 h5
  | false =>
    rcases hv with ⟨rfl, rfl⟩ | ⟨g, o, c, cur, rfl, h2, h3, h4, h5⟩
    · exact r_Next_in_nil [] s w hs rfl
    · exact r_Next_in g o c q.length cur q s w hs rfl h2 h3 hq h4 h5
end Go.Proofs.Ytemkloildadokaa
set_option linter.unusedVariables false
set_option linter.unusedSimpArgs false
/-! The moments of a line. -/
namespace Go.Proofs.Ytemkloildadokaa
open Go.RowKit Go.Shelf Go.Proofs.YtemkloildadokaaW.PrintWords
abbrev SlV (x : Option Addr × Nat × Nat) : Value := .slice x.1 x.2.1 x.2.2
def kSl : Kd (Option Addr × Nat × Nat) := Kd.scalar (fun x => .slice x.1 x.2.1 x.2.2) (fun _ => rfl)
theorem kSl_open {w : World} {x : Option Addr × Nat × Nat} {cs : List Value} (h : kSl.K w x cs) : cs = [SlV x] := h
theorem kSl_mkM (w : World) (base : Nat) (ok : Nat → Prop) (x : Option Addr × Nat × Nat) : kSl.M w base ok x [SlV x] := rfl
theorem flat_sl : Flat kSl := fun _ _ _ _ _ x cs h => by obtain rfl := kSl_open (kSl.K_of_M h); exact kSl_mkM _ _ _ x
theorem info_sl : (Try.prog.info? 23).map (fun i => (i.zero, i.size, i.bytes)) = some (some (.slice none 0 0), 1, 24) := by kernel_rfl
theorem ThereE_len' {l : List PStep} : ∀ (q q' : List PElem), runE q l = some q' → q'.length ≤ q.length + l.length := by
  induction l with
  | nil => intro q q' h; cases h; simp
  | cons s l ih =>
    intro q q' h
    rw [runE] at h
    cases hn : nextE q s with
    | none => rw [hn] at h; cases h
    | some p =>
      obtain ⟨q1, x⟩ := p
      rw [hn] at h
      have := ih q1 q' h
      have := nextE_length hn
      simp only [List.length_cons]; omega
/-- What is there behind each of the first steps. -/
structure MomS (w : World) (h0 : Nat) (v : Value) (l : List PStep) (k : Nat) : Prop where
  ex : ∃ vs : List (Option Addr × Nat × Nat), Own kSl 23 w h0 v vs ∧ vs.length = k + 1 ∧ ∀ j, j ≤ k → ∃ x, vs[j]? = some x ∧ ElemS w (SlV x) (thereE l j)
theorem MomS.later {w w' : World} {h0 : Nat} {v : Value} {l : List PStep} {k : Nat} (h : MomS w h0 v l k) (hb : Below w.heap.size w w') : MomS w' h0 v l k := by
  obtain ⟨vs, h1, h2, h3⟩ := h.ex
  exact ⟨vs, Kd.R_below h1 hb, h2, fun j hj => by obtain ⟨x, h4, h5⟩ := h3 j hj; exact ⟨x, h4, h5.keep (.of_below hb)⟩⟩
theorem thereE_len {l : List PStep} {k : Nat} (h : (runE [] l).isSome = true) : (thereE l k).length ≤ l.length := by
  obtain ⟨q, hq⟩ := run_take_some h k
  have := ThereE_len' [] q hq
  unfold thereE
  rw [hq]
  have h2 := List.length_take_le' k l
  simp only [Option.getD_some]
  simp at this
  omega
def MomPost (w : World) (l : List PStep) (e : Ending) (w' : World) : Prop := (match runE [] l with
  | none => e = .returned (.tuple #[.slice none 0 0, .bool false])
  | some _ => ∃ v, e = .returned (.tuple #[v, .bool true]) ∧ MomS w' w.heap.size v l l.length) ∧ Below w.heap.size w w'
/-- What the reference's Next returned. -/
def NextV (n5 : Nat) (q : List PElem) (x : PElem) (v : Value) (X : World) : Prop := ∃ A n c, v = .tuple #[.slice A n c, .agg #[.int .i64 x.key, .int .i64 x.from_], .bool true] ∧ ElemS X (.slice A n c) q ∧ ∀ g, (Value.slice A n c).ownBlock = some g → g < n5 ∨ x ∈ q
theorem ElemS.block {w w' : World} {v : Value} {q : List PElem} (h : ElemS w v q) (hb : ∀ g, v.ownBlock = some g → w'.heap[g]? = w.heap[g]?) : ElemS w' v q := by
  rcases h with h | ⟨g, o, c, cur, rfl, h2, h3, h4, h5⟩
  · exact .inl h
  · exact .inr ⟨g, o, c, cur, rfl, h2, h3, (hb g rfl).trans h4, h5⟩
theorem ElemS.lt {w : World} {v : Value} {q : List PElem} (h : ElemS w v q) : ∀ g, v.ownBlock = some g → g < w.heap.size := fun g hg => by
  rcases h with ⟨rfl, _⟩ | ⟨g', o, c, cur, rfl, h2, h3, h4, h5⟩
  · cases hg
  · cases hg; exact (Array.getElem?_eq_some_iff.1 h4).1
/-- A box of an element is written with an element: a row that lay in it stays. -/
theorem ElemS.written {w w' : World} {v : Value} {q : List PElem} {x : PElem} {B : Nat} {n5 : Nat} (h : ElemS w v q) (hB : Cells w B #[.int .i64 0, .int .i64 0] 58) (hB' : Cells w' B #[.int .i64 x.key, .int .i64 x.from_] 58) (hn : n5 ≤ B) (hx : ∀ g, v.ownBlock = some g → g < n5 ∨ x ∈ q) (hk : ∀ g, g ≠ B → w'.heap[g]? = w.heap[g]?) : ElemS w' v q := by
  rcases h with h | ⟨g, o, c, cur, rfl, h2, h3, h4, h5⟩
  · exact .inl h
  · by_cases hg : g = B
    · subst hg
      have hin : x ∈ q := by
        rcases hx g rfl with h | h
        · omega
        · exact h
      have hcur : cur = #[.int .i64 0, .int .i64 0] := by
        have h6 : w.heap[g]? = some (.cells #[.int .i64 0, .int .i64 0] 58 (0, 0)) := hB
        rw [h4] at h6
        cases h6; rfl
      subst hcur
      have hlen : q.length * 2 ≤ 2 - o := by
        have := congrArg List.length h5
        rw [len_flat 2 pelemCells pelem_flen, List.length_take, List.length_drop] at this
        simp at this
        omega
      have hq1 : q = [x] ∧ o = 0 := by
        cases q with
        | nil => cases hin
        | cons y q =>
          simp only [List.length_cons] at hlen
          have h0 : q = [] := List.eq_nil_of_length_eq_zero (by omega)
          subst h0
          rcases List.mem_cons.1 hin with e | e
          · subst e; exact ⟨rfl, by simp at hlen; omega⟩
          · cases e
      obtain ⟨rfl, rfl⟩ := hq1
      exact .inr ⟨g, 0, c, _, rfl, h2, h3, hB', by simp [pelemCells]⟩
    · exact .inr ⟨g, o, c, cur, rfl, h2, h3, (hk g hg).trans h4, h5⟩
/-- A box for an element. -/
def BoxE (n5 : Nat) (v : Value) (X : World) : Prop := ∃ B, v = .pointer (some ⟨B, 0, none⟩) ∧ n5 ≤ B ∧ Cells X B #[.int .i64 0, .int .i64 0] 58
theorem BoxE.later {n5 : Nat} {v : Value} {X Y : World} (h : BoxE n5 v X) (hb : Below X.heap.size X Y) : BoxE n5 v Y := by
  obtain ⟨B, h1, h2, h3⟩ := h
  exact ⟨B, h1, h2, h3.later hb⟩
theorem BoxE.new {n5 : Nat} (X : World) (h : n5 ≤ X.heap.size) : BoxE n5 (.pointer (some ⟨X.heap.size, 0, none⟩)) (X.alloc (.cells #[.int .i64 0, .int .i64 0] 58)) := ⟨_, rfl, h, Cells.new _ _ _⟩
def NextN (v : Value) (X : World) : Prop := v = .tuple #[.slice none 0 0, .agg #[.int .i64 0, .int .i64 0], .bool false]
theorem NextV.later {n5 : Nat} {q : List PElem} {x : PElem} {v : Value} {X Y : World} (h : NextV n5 q x v X) (hb : Below X.heap.size X Y) : NextV n5 q x v Y := by
  obtain ⟨A, n, c, h1, h2, h3⟩ := h
  exact ⟨A, n, c, h1, h2.keep (.of_below hb), h3⟩
theorem run_none_of {l : List PStep} {k : Nat} (h : runE [] (l.take k) = none) : runE [] l = none := by
  rw [← List.take_append_drop k l, run_append, h]; rfl
set_option maxRecDepth 100000 in
set_option maxHeartbeats 16000000 in
theorem r_moments (A : Option Addr) (n c : Nat) (l : List PStep) (w : World) (hn : n = l.length) (hrow : PStepRow w A n l) (hl : n ≤ 60) :
    Calls Try.prog 65 #[.slice A n c] w (MomPost w l) := by
  subst hn
  have hm : l.length ≤ 9223372036854775807 := by omega
  have HR := Lib.hid hrow
  clear hrow
  have ho0 := own_lits kSl (fun x => [SlV x]) (fun _ => rfl) (fun _ _ _ x => kSl_mkM _ _ _ x) 23 w w.heap.size (Nat.le_refl _) [(none, 0, 0)] (by decide) #[.slice none 0 0] rfl 1 rfl
  have HO0 := Lib.hid ho0
  have HB0 := Lib.hid (below_alloc (Below.refl w.heap.size w) (.cells #[.slice none 0 0] 23))
  clear ho0
  go_enter Try.func65, Try.ntmps65
  go_upto_region 2 with fail
  generalize w.alloc (.cells #[.slice none 0 0] 23) = w1 at HO0 HB0 ⊢
  go_wp2
  go_loopw [13, 4] (fun i vo wr => ∃ k : Nat, k ≤ l.length ∧ i = .int .i64 k ∧ MomS wr w.heap.size vo l k ∧ (runE [] (l.take k)).isSome = true ∧ Below w.heap.size w wr) (fun i _ _ => l.length - (intOf i).toNat)
  case atStart => exact ⟨0, Nat.zero_le _, rfl, ⟨[(none, 0, 0)], HO0.out, rfl, fun j hj => by obtain rfl : j = 0 := (by omega); exact ⟨_, rfl, ElemS.nil _⟩⟩, rfl, HB0.out⟩
  case round =>
    obtain ⟨k, hk, rfl, hM, hS, hB⟩ := hrel
    have HM := Lib.hid hM
    have HS := Lib.hid hS
    have HB := Lib.hid hB
    clear hM hS hB
    by_cases hlt : k < l.length
    · obtain ⟨s, ad, hd, htk, hget, rfl, e0, e1, e2⟩ := pstep_at (Kd.C_below HR.out HB.out) k hlt
      obtain ⟨vs, h1, h2, h3⟩ := HM.out.ex
      obtain ⟨x, hx, hxe⟩ := h3 k (Nat.le_refl _)
      obtain ⟨A1, c1, rfl, hc1, hr1⟩ := own_reads' h1
      obtain ⟨q, hq⟩ := Option.isSome_iff_exists.1 HS.out
      have hth : thereE l k = q := by rw [thereE, hq]; rfl
      rw [hth] at hxe
      have hql : q.length ≤ 1000 := by
        have := ThereE_len' [] q hq
        have h5 := List.length_take_le' k l
        simp at this; omega
      obtain ⟨m, hm'⟩ : ∃ m, m = vs.length := ⟨_, rfl⟩
      rw [← hm'] at h1 hc1 h2 ⊢
      have Hm := Lib.hid hm'
      have H1 := Lib.hid h1
      have H3 := Lib.hid h3
      have Hxe := Lib.hid hxe
      have Htk := Lib.hid htk
      have Hq := Lib.hid hq
      have hwr : IntKind.i64.wrap ((m : Int) - 1) = (k : Int) := by rw [IntWalk.i64_in _ (by omega)]; omega
      have hkm : k < m := by omega
      have Hx := Lib.hid hx
      have H2 := Lib.hid h2
      clear hm' h1 h2 h3 hxe hd htk hget hq hth hr1 hx
      go_upto_region 5 with fail
      have HC := Lib.hid (Cells.new wr #[.int .i64 s.at_, .int .i64 s.do_, .int .i64 s.key] 36)
      have hba := below_alloc (Below.refl wr.heap.size wr) (.cells #[.int .i64 s.at_, .int .i64 s.do_, .int .i64 s.key] 36)
      have H15 := Lib.hid (Kd.R_below H1.out hba)
      have Hxe5 := Lib.hid (Hxe.out.keep (.of_below hba))
      have HB5 := Lib.hid (below_step HB.out hba)
      have HK5 := Lib.hid (KeepE.of_below hba)
      clear e0 e1 e2 hba
      generalize wr.alloc (.cells #[.int .i64 s.at_, .int .i64 s.do_, .int .i64 s.key] 36) = w5 at HC H15 Hxe5 HB5 HK5 ⊢
      generalize wr.heap.size = gs at HC ⊢
      obtain ⟨g, hA, hg0, hgl, cx, gf⟩ := own_cellsK kSl (fun x => [SlV x]) (fun _ _ _ h => kSl_open h) (fun _ => rfl) H15.out Hx.out
      subst hA
      have Hc := Lib.hid (show w5.cell? ⟨g, k, none⟩ = some (SlV x) by have := cx 0 _ rfl; rwa [show k * kSl.sz + 0 = k from Nat.mul_one k] at this)
      obtain ⟨xA, xn, xc⟩ := x
      clear cx gf
      cases hn : nextE q s with
      | none =>
        have Hn := Lib.hid hn
        have Hno := Lib.hid (show runE [] l = none from run_none_of (k := k + 1) (by rw [Htk.out, run_snoc Hq.out, hn]; rfl))
        clear hn
        refine wp_region_flow [.free 0, .free 1, .free 2, .free 3, .free 4, .calm 5, .calm 6, .float 12 [.one 7, .free 8, .free 9, .free 10, .free 11], .free 13, .fence 14, .free 15] (Below w5.heap.size w5) (Below w5.heap.size w5) (stable_below _ _ (Nat.le_refl _)) (fun _ h => h) (by kernel_rfl) (by kernel_rfl) (below_drew1 (Below.refl _ _)) ?_
        simp only [pickEnts, pickF, List.getElem?_cons_succ, List.getElem?_cons_zero, List.filterMap_cons, List.filterMap_nil, Option.map_some]
        repeat ((first | refine flow_calm (fun K hK => ?_) | refine flow_free (fun K hK => ?_) | refine float_calm (fun K hK => ?_) | refine float_free (fun K hK => ?_)); go_simp; first | (refine hK _ ?_; clear hK K) | (apply Exists.intro; (refine ⟨fun X => ?_, hK _ ?_⟩); (first | (intro hC; rfl) | rfl | (intro hC; have q := HC.out.later hC.out; have s0 := q.cell 0 _ rfl; have s1 := q.cell 1 _ rfl; have s2 := q.cell 2 _ rfl; have v0 := cell_keep hC.out Hc.out; simp only [SlV] at v0; go_simp; done) | (intro hC; have q := HC.out.later hC.out; have s0 := q.cell 0 _ rfl; have s1 := q.cell 1 _ rfl; have s2 := q.cell 2 _ rfl; have v0 := cell_keep hC.out Hc.out; simp only [SlV] at v0; go_simp; rfl)); clear hK K))
        refine flow_float (BoxE w5.heap.size) (fun _ _ _ h hb => h.later hb) ⟨rfl, fun X hX => ?_⟩ ?_
        · go_simp
          exact ⟨below_alloc (Below.refl _ _) _, BoxE.new X hX.out.size⟩
        refine float_one (NextN) (fun _ _ _ h hb => h) ⟨rfl, fun X hX => ?_⟩ (fun v X0 hX0 hV0 => ?_)
        · go_simp
          refine ⟨Below.refl _ _, ?_⟩
          (with_reducible refine (r_Next _ q s X (Hxe5.out.keep (.of_below hX.out)) hql).mono ?_)
          rintro e w' h
          unfold NextPost at h
          rw [Hn.out] at h
          obtain ⟨rfl, hb⟩ := h
          exact ⟨_, rfl, hb, rfl⟩
        obtain rfl := hV0
        clear hX0
        repeat ((first | refine flow_calm (fun K hK => ?_) | refine flow_free (fun K hK => ?_) | refine float_calm (fun K hK => ?_) | refine float_free (fun K hK => ?_)); go_simp; first | (refine hK _ ?_; clear hK K) | (apply Exists.intro; (refine ⟨fun X => ?_, hK _ ?_⟩); (first | (intro hC; rfl) | rfl | (intro hC; skip; go_simp; done) | (intro hC; skip; go_simp; rfl)); clear hK K))
        refine float_land (fun v X0 hX0 hV0 => ?_)
        obtain ⟨B8, rfl, hB8, -⟩ := hV0
        clear hX0
        repeat ((first | refine flow_calm (fun K hK => ?_) | refine flow_free (fun K hK => ?_) | refine float_calm (fun K hK => ?_) | refine float_free (fun K hK => ?_)); go_simp; first | (refine hK _ ?_; clear hK K) | (apply Exists.intro; (refine ⟨fun X => ?_, hK _ ?_⟩); (first | (intro hC; rfl) | rfl | (intro hC; skip; go_simp; done) | (intro hC; skip; go_simp; rfl)); clear hK K))
        refine flow_fence rfl (fun X hX K hK => ?_)
        obtain ⟨⟨hb5, -⟩, B', hB', hw8, hcB⟩ := hX.out
        simp only [Value.pointer.injEq, Option.some.injEq, Addr.mk.injEq, and_true] at hB'
        subst hB'
        have z0 := hcB.cell 0 _ rfl
        have z1 := hcB.cell 1 _ rfl
        have zf := hcB.frozen
        go_simp
        refine hK.out _ _ (Below w5.heap.size w5) (Below w5.heap.size w5) (stable_below _ _ (Nat.le_refl _)) (fun _ h => h) ((hb5.setCell (p := ⟨B8, 0, none⟩) hB8 _).setCell (p := ⟨B8, 1, none⟩) hB8 _) ?_
        clear hK K hX hb5 hcB z0 z1 zf
        repeat ((first | refine flow_calm (fun K hK => ?_) | refine flow_free (fun K hK => ?_) | refine float_calm (fun K hK => ?_) | refine float_free (fun K hK => ?_)); go_simp; first | (refine hK _ ?_; clear hK K) | (apply Exists.intro; (refine ⟨fun X => ?_, hK _ ?_⟩); (first | (intro hC; rfl) | rfl | (intro hC; skip; go_simp; done) | (intro hC; skip; go_simp; rfl)); clear hK K))
        refine flow_nil ?_
        intro Y hY
        have HY := Lib.hid hY.out
        clear hY
        go_wp2
        refine bodyPost_ret (v := .tuple #[.slice none 0 0, .bool false]) (by simp [results, Try.results65, go_sem]) rfl ?_
        unfold MomPost
        rw [Hno.out]
        exact ⟨rfl, below_step HB5.out HY.out⟩
      | some qx =>
        obtain ⟨q', x'⟩ := qx
        have Hn := Lib.hid hn
        have hrun : runE [] (l.take (k + 1)) = some q' := by rw [Htk.out, run_snoc Hq.out, hn]; rfl
        have Hrun := Lib.hid hrun
        clear hn hrun
        refine wp_region_flow [.free 0, .free 1, .free 2, .free 3, .free 4, .calm 5, .calm 6, .float 12 [.one 7, .free 8, .free 9, .free 10, .free 11], .free 13, .fence 14, .free 15] (Below w5.heap.size w5) (Below w5.heap.size w5) (stable_below _ _ (Nat.le_refl _)) (fun _ h => h) (by kernel_rfl) (by kernel_rfl) (below_drew1 (Below.refl _ _)) ?_
        simp only [pickEnts, pickF, List.getElem?_cons_succ, List.getElem?_cons_zero, List.filterMap_cons, List.filterMap_nil, Option.map_some]
        repeat ((first | refine flow_calm (fun K hK => ?_) | refine flow_free (fun K hK => ?_) | refine float_calm (fun K hK => ?_) | refine float_free (fun K hK => ?_)); go_simp; first | (refine hK _ ?_; clear hK K) | (apply Exists.intro; (refine ⟨fun X => ?_, hK _ ?_⟩); (first | (intro hC; rfl) | rfl | (intro hC; have q := HC.out.later hC.out; have s0 := q.cell 0 _ rfl; have s1 := q.cell 1 _ rfl; have s2 := q.cell 2 _ rfl; have v0 := cell_keep hC.out Hc.out; simp only [SlV] at v0; go_simp; done) | (intro hC; have q := HC.out.later hC.out; have s0 := q.cell 0 _ rfl; have s1 := q.cell 1 _ rfl; have s2 := q.cell 2 _ rfl; have v0 := cell_keep hC.out Hc.out; simp only [SlV] at v0; go_simp; rfl)); clear hK K))
        refine flow_float (BoxE w5.heap.size) (fun _ _ _ h hb => h.later hb) ⟨rfl, fun X hX => ?_⟩ ?_
        · go_simp
          exact ⟨below_alloc (Below.refl _ _) _, BoxE.new X hX.out.size⟩
        refine float_one (NextV w5.heap.size q' x') (fun _ _ _ h hb => h.later hb) ⟨rfl, fun X hX => ?_⟩ (fun v X0 hX0 hV0 => ?_)
        · go_simp
          refine ⟨Below.refl _ _, ?_⟩
          have hin := (Hxe5.out.keep (.of_below hX.out))
          have hlt := Hxe5.out.lt
          (with_reducible refine (r_Next _ q s X hin hql).mono ?_)
          rintro e w' h
          unfold NextPost at h
          rw [Hn.out] at h
          obtain ⟨⟨v', rfl, hv', hnew⟩, hb⟩ := h
          obtain ⟨A', c', rfl, -, -, -⟩ := hv'.row
          refine ⟨_, rfl, hb, ⟨_, _, _, rfl, hv', fun g' hg' => ?_⟩⟩
          rcases hnew g' hg' with h | h
          · exact .inl (hlt g' h)
          · exact .inr h.2
        obtain ⟨A', n', c', rfl, -, -⟩ := hV0
        clear hX0
        repeat ((first | refine flow_calm (fun K hK => ?_) | refine flow_free (fun K hK => ?_) | refine float_calm (fun K hK => ?_) | refine float_free (fun K hK => ?_)); go_simp; first | (refine hK _ ?_; clear hK K) | (apply Exists.intro; (refine ⟨fun X => ?_, hK _ ?_⟩); (first | (intro hC; rfl) | rfl | (intro hC; skip; go_simp; done) | (intro hC; skip; go_simp; rfl)); clear hK K))
        refine float_land (fun v X0 hX0 hV0 => ?_)
        obtain ⟨B8, rfl, hB8, -⟩ := hV0
        clear hX0
        repeat ((first | refine flow_calm (fun K hK => ?_) | refine flow_free (fun K hK => ?_) | refine float_calm (fun K hK => ?_) | refine float_free (fun K hK => ?_)); go_simp; first | (refine hK _ ?_; clear hK K) | (apply Exists.intro; (refine ⟨fun X => ?_, hK _ ?_⟩); (first | (intro hC; rfl) | rfl | (intro hC; skip; go_simp; done) | (intro hC; skip; go_simp; rfl)); clear hK K))
        refine flow_fence rfl (fun X hX K hK => ?_)
        obtain ⟨⟨hb5, hv5⟩, B', hB', hw8, hcB⟩ := hX.out
        simp only [Value.pointer.injEq, Option.some.injEq, Addr.mk.injEq, and_true] at hB'
        subst hB'
        have hv5' : ElemS X (.slice A' n' c') q' ∧ ∀ g, (Value.slice A' n' c').ownBlock = some g → g < w5.heap.size ∨ x' ∈ q' := by
          obtain ⟨A'', n'', c'', e, h⟩ := hv5
          simp only [Value.tuple.injEq, Array.mk.injEq, List.cons.injEq, Value.slice.injEq, and_true] at e
          have e1 : A' = A'' := by first | exact e.1 | exact e.1.1
          have e2 : n' = n'' := by first | exact e.2.1 | exact e.1.2.1
          have e3 : c' = c'' := by first | exact e.2.2 | exact e.1.2.2
          rw [e1, e2, e3]
          exact h
        have z0 := hcB.cell 0 _ rfl
        have z1 := hcB.cell 1 _ rfl
        have zf := hcB.frozen
        go_simp
        refine hK.out _ _ (fun Z => Below w5.heap.size w5 Z ∧ ElemS Z (.slice A' n' c') q') (fun Z => Below w5.heap.size w5 Z ∧ ElemS Z (.slice A' n' c') q') (fun Z Z' hZ hb => ⟨hZ.1.trans (Below.mono hb hZ.1.size), hZ.2.keep (.of_below hb)⟩) (fun _ h => h) ⟨(hb5.setCell (p := ⟨B8, 0, none⟩) hB8 _).setCell (p := ⟨B8, 1, none⟩) hB8 _, hv5'.1.written hcB ((hcB.setAt 0 (.int .i64 x'.key)).setAt 1 (.int .i64 x'.from_)) hB8 hv5'.2 (fun g' hne => (Below.heap_setCell _ ⟨B8, 1, none⟩ _ g' hne).trans (Below.heap_setCell X ⟨B8, 0, none⟩ _ g' hne))⟩ ?_
        clear hK K hX hb5 hcB z0 z1 zf hv5 hv5'
        repeat ((first | refine flow_calm (fun K hK => ?_) | refine flow_free (fun K hK => ?_) | refine float_calm (fun K hK => ?_) | refine float_free (fun K hK => ?_)); go_simp; first | (refine hK _ ?_; clear hK K) | (apply Exists.intro; (refine ⟨fun X => ?_, hK _ ?_⟩); (first | (intro hC; rfl) | rfl | (intro hC; skip; go_simp; done) | (intro hC; skip; go_simp; rfl)); clear hK K))
        refine flow_nil ?_
        intro Y hY
        have HY := Lib.hid hY.out.1
        have HV := Lib.hid hY.out.2
        have H1Y := Lib.hid (Kd.R_below H15.out hY.out.1)
        have HBY := Lib.hid (below_step HB5.out hY.out.1)
        clear hY
        go_wp2_with (at_builtin; refine Kd.R_append kSl (w0 := Y) w.heap.size rfl (.tmp 31) (.tmp 33) 94 23 (.slice none 0 0) 24 rfl Try.underlying94 info_sl rfl (by decide) (by omega) (.slice (some ⟨g, 0, none⟩) m c1) vs (A', n', c') [.slice A' n' c'] (fun _ => True) (fun _ => False) rfl rfl (kSl_mkM _ _ _ (A', n', c')) (fun _ hk => hk.elim) (fun _ _ => trivial) H1Y.out (Below.refl _ _) HBY.out.size (by have := H2.out; have := Hm.out; omega) ?_; intro v9 w9 r1 r2 r3 r4; have HR9 := Lib.hid r1; have HB9 := Lib.hid r2; have HK9 := Lib.hid (KeepE.of_grown r3 (fun g' e => by obtain ⟨cs, t, h1, rfl⟩ := own_row_ty H1Y.out g' e; exact ⟨cs, _, h1, by decide⟩)); clear r1 r2 r3 r4)
        refine ⟨⟨k + 1, by omega, by go_num, ⟨vs ++ [(A', n', c')], HR9.out, by rw [List.length_append, List.length_singleton]; have := H2.out; have := Hm.out; omega, fun j hj => ?_⟩, by rw [Hrun.out]; rfl, HBY.out.trans HB9.out⟩, by simp [intOf]; omega⟩
        have hkk := (KeepE.of_below HY.out).trans HK9.out
        rcases Nat.lt_or_ge k j with h | h
        · obtain rfl : j = k + 1 := by omega
          have hvl : vs.length = k + 1 := by have := H2.out; have := Hm.out; omega
          refine ⟨(A', n', c'), by rw [List.getElem?_append_right (by omega), hvl]; simp, ?_⟩
          have : thereE l (k + 1) = q' := by rw [thereE, Hrun.out]; rfl
          rw [this]
          exact HV.out.keep HK9.out
        · obtain ⟨x2, hx2, he2⟩ := H3.out j h
          refine ⟨x2, by rw [List.getElem?_append_left (by have := H2.out; have := Hm.out; omega)]; exact hx2, ?_⟩
          exact he2.keep (HK5.out.trans hkk)
    · have hkl : k = l.length := by omega
      have Hfin := Lib.hid (show MomS wr w.heap.size u4 l l.length ∧ (runE [] l).isSome = true from ⟨by have := HM.out; rwa [hkl] at this, by have := HS.out; rwa [hkl, List.take_length] at this⟩)
      clear hkl HM HS
      go_wp2
      refine bodyPost_ret (v := .tuple #[u4, .bool true]) (by simp [results, Try.results65, go_sem]) rfl ?_
      obtain ⟨q, hq⟩ := Option.isSome_iff_exists.1 Hfin.out.2
      unfold MomPost
      rw [hq]
      exact ⟨⟨u4, rfl, Hfin.out.1⟩, HB.out⟩
end Go.Proofs.Ytemkloildadokaa
set_option linter.unusedVariables false
set_option linter.unusedSimpArgs false
/-! The reference's lines: what is formed, there, taken. -/
namespace Go.Proofs.Ytemkloildadokaa
open Go.RowKit Go.Shelf Go.Proofs.YtemkloildadokaaW.PrintWords
theorem lineB_run {l : List PStep} (h : stepsB l = true) : lineB l = (runE [] l).isSome := by unfold lineB; rw [h, Bool.true_and]
set_option maxRecDepth 100000 in
set_option maxHeartbeats 4000000 in
theorem r_Good (A : Option Addr) (n c : Nat) (l : List PStep) (w : World) (hn : n = l.length) (hrow : PStepRow w A n l) :
    Calls Try.prog 34 #[.slice A n c] w fun e w' => e = .returned (.bool (lineB l)) ∧ Below w.heap.size w w' := by
  subst hn
  have HR := Lib.hid hrow
  clear hrow
  cases hst : stepsB l with
  | false =>
    have hl : lineB l = false := by unfold lineB; rw [hst]; rfl
    have HL := Lib.hid hst
    rw [hl]
    clear hl hst
    go_enter Try.func34, Try.ntmps34
    go_wp2_with (first
      | (go_at_call 33; (with_reducible refine (r_Steps A c l w HR.out).mono ?_); rintro e w2 ⟨rfl, hb⟩; simp only [HL.out]))
    go_ret
    exact ⟨rfl, hb⟩
  | true =>
    have hl60 := steps60 hst
    have HL := Lib.hid hst
    rw [lineB_run hst]
    clear hst
    cases hr : runE [] l with
    | none =>
      have Hr := Lib.hid hr
      clear hr
      go_enter Try.func34, Try.ntmps34
      go_wp2_with (first
        | (go_at_call 33; (with_reducible refine (r_Steps A c l w HR.out).mono ?_); rintro e w2 ⟨rfl, hb⟩; simp only [HL.out]; have Hb := Lib.hid hb; clear hb)
        | (go_at_call 65; (with_reducible refine (r_moments A l.length c l w2 rfl (Kd.C_below HR.out Hb.out) hl60).mono ?_); intro e w3 h; unfold MomPost at h; rw [Hr.out] at h; obtain ⟨rfl, hb3⟩ := h))
      go_ret
      exact ⟨rfl, below_step Hb.out hb3⟩
    | some q =>
      have Hr := Lib.hid hr
      clear hr
      go_enter Try.func34, Try.ntmps34
      go_wp2_with (first
        | (go_at_call 33; (with_reducible refine (r_Steps A c l w HR.out).mono ?_); rintro e w2 ⟨rfl, hb⟩; simp only [HL.out]; have Hb := Lib.hid hb; clear hb)
        | (go_at_call 65; (with_reducible refine (r_moments A l.length c l w2 rfl (Kd.C_below HR.out Hb.out) hl60).mono ?_); intro e w3 h; unfold MomPost at h; rw [Hr.out] at h; obtain ⟨⟨v3, rfl, hv3⟩, hb3⟩ := h))
      go_ret
      exact ⟨rfl, below_step Hb.out hb3⟩
set_option maxRecDepth 100000 in
theorem r_Check (A : Option Addr) (n c : Nat) (l : List PStep) (w : World) (hn : n = l.length) (hrow : PStepRow w A n l) :
    Calls Try.prog 32 #[.slice A n c] w fun e w' => e = .returned (.int .i64 (if lineB l = true then 0 else 2)) ∧ Below w.heap.size w w' := by
  have HR := Lib.hid hrow
  have Hn := Lib.hid hn
  clear hrow hn
  cases hl : lineB l
  all_goals
    have HL := Lib.hid hl
    clear hl
    go_enter Try.func32, Try.ntmps32
    go_wp2_with (first
      | (go_at_call 34; (with_reducible refine (r_Good A n c l w Hn.out HR.out).mono ?_); rintro e w2 ⟨rfl, hb⟩; simp only [HL.out]))
    go_ret
    exact ⟨rfl, hb⟩
/-- The moments of a good line. -/
theorem r_momentsG (A : Option Addr) (n c : Nat) (l : List PStep) (w : World) (hn : n = l.length) (hrow : PStepRow w A n l) (hg : lineB l = true) :
    Calls Try.prog 65 #[.slice A n c] w fun e w' => ∃ A' c', e = .returned (.tuple #[.slice A' (n + 1) c', .bool true]) ∧ MomS w' w.heap.size (.slice A' (n + 1) c') l n ∧ Below w.heap.size w w' := by
  subst hn
  obtain ⟨h1, h2⟩ := isLine_parts hg
  refine (r_moments A l.length c l w rfl hrow (steps60 h1)).mono ?_
  intro e w' h
  unfold MomPost at h
  cases hr : runE [] l with
  | none => rw [hr] at h2; cases h2
  | some q =>
    rw [hr] at h
    obtain ⟨⟨v, rfl, hv⟩, hb⟩ := h
    obtain ⟨vs, k1, k2, k3⟩ := hv.ex
    obtain ⟨A', c', rfl, -, -⟩ := own_reads' k1
    rw [k2] at hv ⊢
    exact ⟨A', c', rfl, hv, hb⟩
/-- A moment of a line. -/
theorem MomS.at {w : World} {h0 : Nat} {A : Option Addr} {m c : Nat} {l : List PStep} {k : Nat} (h : MomS w h0 (.slice A m c) l k) (j : Nat) (hj : j ≤ k) : ∃ g xA xc, A = some ⟨g, 0, none⟩ ∧ w.cell? ⟨g, j, none⟩ = some (.slice xA (thereE l j).length xc) ∧ (thereE l j).length ≤ xc ∧ xc ≤ 9223372036854775807 ∧ ElemRow w xA (thereE l j).length (thereE l j) := by
  obtain ⟨vs, k1, k2, k3⟩ := h.ex
  obtain ⟨x, hx, he⟩ := k3 j hj
  obtain ⟨g, hA, hg0, hgl, cx, gf⟩ := own_cellsK kSl (fun x => [SlV x]) (fun _ _ _ h => kSl_open h) (fun _ => rfl) k1 hx
  obtain ⟨xA, xc, e1, e2, e3, e4⟩ := he.row
  have := cx 0 _ rfl
  rw [show j * kSl.sz + 0 = j from Nat.mul_one j, e1] at this
  exact ⟨g, xA, xc, hA, this, e2, e3, e4⟩
theorem thereE_60 {l : List PStep} {k : Nat} (h : lineB l = true) : (thereE l k).length ≤ 60 := by
  obtain ⟨h1, h2⟩ := isLine_parts h
  have := thereE_len (k := k) h2
  have := steps60 h1
  omega
set_option maxRecDepth 100000 in
set_option maxHeartbeats 8000000 in
theorem r_AtOf (A : Option Addr) (n c : Nat) (l : List PStep) (t : Int) (w : World) (hn : n = l.length) (hrow : PStepRow w A n l) (hg : lineB l = true) :
    Calls Try.prog 85 #[.slice A n c, .int .i64 t] w fun e w' => ∃ v, e = .returned v ∧ Own kPElem 58 w' w.heap.size v (atE l t) ∧ Below w.heap.size w w' := by
  have hup : uptoE t l ≤ n := by rw [hn]; exact upto_le t l
  have HR := Lib.hid hrow
  have HG := Lib.hid hg
  have h60 : (atE l t).length ≤ 60 := thereE_60 hg
  have Hn := Lib.hid hn
  have hnl : n ≤ 60 := by rw [hn]; exact steps60 (isLine_parts hg).1
  obtain ⟨u, hu⟩ : ∃ u, u = uptoE t l := ⟨_, rfl⟩
  obtain ⟨q, hq⟩ : ∃ q, q = thereE l u := ⟨_, rfl⟩
  have Hq := Lib.hid hq
  have Hu := Lib.hid hu
  have h61 : q.length ≤ 60 := by rw [hq, hu]; exact h60
  rw [← hu] at hup
  have hat : atE l t = q := by rw [hq, hu]; rfl
  rw [hat]
  clear hrow hg hn h60 hu hq hat
  go_enter Try.func85, Try.ntmps85
  go_upto_region 2 with (first
    | (go_at_call 65; (with_reducible refine (r_momentsG A n c l w Hn.out HR.out HG.out).mono ?_); rintro e w2 ⟨A2, c2, rfl, hm2, hb2⟩))
  have HM := Lib.hid hm2
  have HB := Lib.hid hb2
  obtain ⟨g, xA, xc, rfl, hc, hx1, hx2, hx3⟩ := hm2.at u hup
  rw [← Hq.out] at hc hx1 hx3
  have HC := Lib.hid hc
  have HX := Lib.hid hx3
  have hul : u < n + 1 := by omega
  clear hm2 hb2 hc hx3
  go_wp2_with (first
    | (go_at_call 81; (with_reducible refine (r_upto A n c l t w2 Hn.out (Kd.C_below HR.out HB.out)).mono ?_); rintro e w3 ⟨rfl, hb3⟩; rw [← Hu.out]; have v0 := cell_keep hb3 HC.out; have HX3 := Lib.hid (Kd.C_below HX.out hb3); have HB3 := Lib.hid hb3; clear hb3)
    | (at_builtin; refine Kd.R_append_rows kPElem (w0 := w3) w3.heap.size rfl (.const (.slice none 0 0)) (.tmp 17) 23 58 (.agg #[.int .i64 0, .int .i64 0]) 16 rfl Try.underlying23 (by kernel_rfl) rfl (by decide) (by omega) _ ([] : List PElem) q _ _ _ (fun _ => True) (fun _ => False) rfl rfl (Kd.R_nil _ _ _ _ _) HX3.out (fun x cs h => pelem_KM _ _ _ _ x cs h) (fun _ h => h.elim) (fun _ _ => trivial) (Below.refl _ _) (Nat.le_refl _) (by rw [List.length_nil]; omega) ?_; intro v4 w4 r1 r2 r3 r4))
  go_ret
  exact ⟨_, rfl, Kd.R_lower r1 (Nat.le_trans HB.out.size HB3.out.size), below_step (below_step HB.out HB3.out) r2⟩
set_option maxRecDepth 100000 in
theorem r_At (A : Option Addr) (n c : Nat) (l : List PStep) (t : Int) (w : World) (hn : n = l.length) (hrow : PStepRow w A n l) :
    Calls Try.prog 30 #[.slice A n c, .int .i64 t] w fun e w' => (∃ v, e = .returned (.tuple #[v, .int .i64 (if lineB l = true then 0 else 2)]) ∧ Own kPElem 58 w' w.heap.size v (if lineB l = true then atE l t else [])) ∧ Below w.heap.size w w' := by
  have HR := Lib.hid hrow
  have Hn := Lib.hid hn
  clear hrow hn
  cases hl : lineB l with
  | false =>
    have HL := Lib.hid hl
    clear hl
    go_enter Try.func30, Try.ntmps30
    go_wp2_with (first
      | (go_at_call 34; (with_reducible refine (r_Good A n c l w Hn.out HR.out).mono ?_); rintro e w2 ⟨rfl, hb⟩; simp only [HL.out]))
    refine bodyPost_ret (v := .tuple #[.slice none 0 0, .int .i64 2]) (by simp [results, Try.results30, go_sem]) rfl ?_
    exact ⟨⟨_, rfl, Kd.R_nil _ _ _ _ _⟩, hb⟩
  | true =>
    have HL := Lib.hid hl
    clear hl
    go_enter Try.func30, Try.ntmps30
    go_wp2_with (first
      | (go_at_call 34; (with_reducible refine (r_Good A n c l w Hn.out HR.out).mono ?_); rintro e w2 ⟨rfl, hb⟩; simp only [HL.out]; have Hb := Lib.hid hb; clear hb)
      | (go_at_call 85; (with_reducible refine (r_AtOf A n c l t w2 Hn.out (Kd.C_below HR.out Hb.out) HL.out).mono ?_); rintro e w3 ⟨v3, rfl, ho3, hb3⟩))
    refine bodyPost_ret (v := .tuple #[v3, .int .i64 0]) (by simp [results, Try.results30, go_sem]) rfl ?_
    exact ⟨⟨v3, rfl, Kd.R_lower ho3 Hb.out.size⟩, below_step Hb.out hb3⟩
end Go.Proofs.Ytemkloildadokaa
set_option linter.unusedVariables false
set_option linter.unusedSimpArgs false
/-! The reference's lines with a step more, and with a step less; what one list has and another one has not. -/
namespace Go.Proofs.Ytemkloildadokaa
open Go.RowKit Go.Shelf Go.Proofs.YtemkloildadokaaW.PrintWords
theorem stepRow_take {w : World} {A : Option Addr} {n : Nat} {q : List PStep} (h : PStepRow w A n q) (k : Nat) (hk : k ≤ n) : PStepRow w A k (q.take k) := by
  obtain ⟨h1, h2, h3⟩ := h
  refine ⟨by rw [List.length_take]; omega, by omega, fun hp => ?_⟩
  obtain ⟨ad, e, h4⟩ := h3 (by omega)
  refine ⟨ad, e, fun j p hj => h4 j p ?_⟩
  have : j < k := by have := (List.getElem?_eq_some_iff.1 hj).1; rw [List.length_take] at this; omega
  rwa [List.getElem?_take_of_lt this] at hj
theorem stepRow_drop {w : World} {A B : Option Addr} {n m : Nat} {q : List PStep} (h : PStepRow w A n q) (k : Nat) (hk : k ≤ n) (hm : m = n - k) (hB : m = 0 ∨ B = A.map (·.add (k * 3))) : PStepRow w B m (q.drop k) := by
  obtain ⟨h1, h2, h3⟩ := h
  refine ⟨by rw [List.length_drop]; omega, by omega, fun hp => ?_⟩
  obtain ⟨ad, e, hc⟩ := h3 (by omega)
  subst e
  rcases hB with h0 | rfl
  · omega
  refine ⟨_, rfl, fun j p hj => ?_⟩
  rw [List.getElem?_drop] at hj
  obtain ⟨c, hs, hr, hcell⟩ := hc (k + j) p hj
  refine ⟨c, hs, hr, fun i u hu => ?_⟩
  have := hcell i u hu
  rw [← this, Addr.add_add]
  congr 2
  show k * 3 + (j * 3 + i) = (k + j) * 3 + i
  omega
set_option maxRecDepth 100000 in
set_option maxHeartbeats 16000000 in
theorem r_With (A : Option Addr) (n c : Nat) (l : List PStep) (s : PStep) (w : World) (hn : n = l.length) (hrow : PStepRow w A n l) (hc : n ≤ c) (hm : n ≤ 1000) :
    Calls Try.prog 80 #[.slice A n c, .agg #[.int .i64 s.at_, .int .i64 s.do_, .int .i64 s.key]] w fun e w' => ∃ v, e = .returned v ∧ Own kPStep 36 w' w.heap.size v (withR l s) ∧ Below w.heap.size w w' := by
  have hup : uptoE s.at_ l ≤ n := by rw [hn]; exact upto_le _ l
  have HR := Lib.hid hrow
  have Hn := Lib.hid hn
  clear hrow hn
  have HX := Lib.hid (Cells.new w #[.int .i64 s.at_, .int .i64 s.do_, .int .i64 s.key] 36)
  have HB := Lib.hid (below_alloc (Below.refl w.heap.size w) (.cells #[.int .i64 s.at_, .int .i64 s.do_, .int .i64 s.key] 36))
  go_enter Try.func80, Try.ntmps80
  go_upto_region 1 with fail
  generalize w.alloc (.cells #[.int .i64 s.at_, .int .i64 s.do_, .int .i64 s.key] 36) = w1 at HX HB ⊢
  have s0 := HX.out.cell 0 _ rfl
  obtain ⟨k, hk⟩ : ∃ k, k = uptoE s.at_ l := ⟨_, rfl⟩
  rw [← hk] at hup
  have Hk := Lib.hid hk
  clear hk
  go_upto_region 2 with (go_at_call 81; (with_reducible refine (r_upto A n c l s.at_ w1 Hn.out (Kd.C_below HR.out HB.out)).mono ?_); rintro e w2 ⟨rfl, hb⟩; simp only [← Hk.out]; have Hb := Lib.hid hb; clear hb)
  have HR2 := Lib.hid (Kd.C_below HR.out (below_step HB.out Hb.out))
  have HX2 := Lib.hid (HX.out.later Hb.out)
  have HB2 := Lib.hid (below_step HB.out Hb.out)
  have HT := Lib.hid (stepRow_take HR2.out k hup)
  have hkc : k ≤ c := by omega
  refine wp_region_flow [.free 0, .free 1, .free 2, .calm 4, .free 7, .free 8, .free 9, .group [3, 5], .alone 6, .alone 10, .free 11] (Below w2.heap.size w2) (Below w2.heap.size w2) (stable_below _ _ (Nat.le_refl _)) (fun _ h => h) (by kernel_rfl) (by kernel_rfl) (below_drew1 (Below.refl _ _)) ?_
  simp only [pickEnts, pickF, List.getElem?_cons_succ, List.getElem?_cons_zero, List.filterMap_cons, List.filterMap_nil, Option.map_some]
  repeat ((first | refine flow_calm (fun K hK => ?_) | refine flow_free (fun K hK => ?_) | refine float_calm (fun K hK => ?_) | refine float_free (fun K hK => ?_)); go_simp; first | (refine hK _ ?_; clear hK K) | (apply Exists.intro; (refine ⟨fun X => ?_, hK _ ?_⟩); (first | (intro hC; rfl) | rfl | (intro hC; have qx := HX2.out.later hC.out; have qx0 := qx.cell 0 _ rfl; have qx1 := qx.cell 1 _ rfl; have qx2 := qx.cell 2 _ rfl; go_simp; done) | (intro hC; have qx := HX2.out.later hC.out; have qx0 := qx.cell 0 _ rfl; have qx1 := qx.cell 1 _ rfl; have qx2 := qx.cell 2 _ rfl; go_simp; rfl)); clear hK K))
  obtain ⟨AD, hAD⟩ : ∃ AD, AD = (if c = k then A else Option.map (fun x => x.add (k * 3)) A) := ⟨_, rfl⟩
  have HD := Lib.hid (stepRow_drop (m := n - k) (B := AD) HR2.out k hup rfl (by
    by_cases h : c = k
    · exact .inl (by omega)
    · right; rw [hAD, if_neg h]))
  rw [← hAD]
  clear hAD
  refine flow_two (fun v X => Own kPStep 36 X w2.heap.size v (l.take k)) (fun v X => ∃ B, v = .slice (some ⟨B, 0, none⟩) 1 1 ∧ Cells X B #[.int .i64 s.at_, .int .i64 s.do_, .int .i64 s.key] 36) (fun _ _ _ h hb => Kd.R_below h hb) (fun _ _ _ h hb => by obtain ⟨B, h1, h2⟩ := h; exact ⟨B, h1, h2.later hb⟩) (by decide) ⟨rfl, fun X hX => ?_⟩ ⟨rfl, fun X hX => ?_⟩ (fun v u X0 hX0 hV0 hU0 => ?_)
  · exact makes_fresh kPStep w2.heap.size hX.out.size (.const (.slice none 0 0)) (.tmp 12) 22 36 zStep 24 rfl (by kernel_rfl) (by kernel_rfl) rfl (by decide) (by omega) (l.take k) _ k _ rfl rfl (Kd.C_below HT.out hX.out) (fun x cs h => pstep_KM _ _ _ _ x cs h) (by omega)
  · go_simp
    exact ⟨below_alloc (Below.refl _ _) _, Cells.new _ _ _⟩
  obtain ⟨B5, rfl, -⟩ := hU0
  obtain ⟨A3, n3, c3, rfl⟩ := R_slice' hV0
  clear hX0 hV0
  refine flow_alone rfl (fun X hX K hK => ?_)
  obtain ⟨hb5, ho5, B', hB', hcB⟩ := hX.out
  simp only [Value.slice.injEq, Option.some.injEq, Addr.mk.injEq, and_true] at hB'
  subst hB'
  refine Kd.R_append_rows_step kPStep (w0 := X) w2.heap.size (by rfl) (.tmp 13) (.tmp 15) 22 36 zStep 24 rfl (by kernel_rfl) (by kernel_rfl) rfl (by decide) (by omega) (.slice A3 n3 c3) (l.take k) [s] _ _ _ (fun _ => True) (fun _ => False) rfl rfl ho5 (lit_row kPStep X B5 s (pstepCells s) 36 hcB (kPStep_mk _ _)) (fun x cs h => pstep_KM _ _ _ _ x cs h) (fun _ h => h.elim) (fun _ _ => trivial) (Below.refl _ _) hb5.size (by rw [List.length_take]; omega) ?_
  intro v6 w6 r1 r2 r3 r4
  obtain ⟨A6, n6, c6, rfl⟩ := R_slice' r1
  refine hK.out _ _ (fun Z => Below w2.heap.size w2 Z) (fun Z => Below w2.heap.size w2 Z ∧ Own kPStep 36 Z w2.heap.size (.slice A6 n6 c6) (l.take k ++ [s])) (fun Z Z' hZ hb => ⟨hZ.1.trans (Below.mono hb hZ.1.size), Kd.R_below hZ.2 hb⟩) (fun _ h => h) (fun _ h => h.1) ⟨hb5.trans r2, r1⟩ ?_
  clear hK K hX hb5 ho5 hcB r1 r2 r3 r4
  repeat ((first | refine flow_calm (fun K hK => ?_) | refine flow_free (fun K hK => ?_) | refine float_calm (fun K hK => ?_) | refine float_free (fun K hK => ?_)); go_simp; first | (refine hK _ ?_; clear hK K) | (apply Exists.intro; (refine ⟨fun X => ?_, hK _ ?_⟩); (first | (intro hC; rfl) | rfl | (intro hC; skip; go_simp; done) | (intro hC; skip; go_simp; rfl)); clear hK K))
  refine flow_alone rfl (fun X hX K hK => ?_)
  obtain ⟨hb6, ho6⟩ := hX.out
  refine Kd.R_append_rows_step kPStep (w0 := X) w2.heap.size (by rfl) (.tmp 16) (.tmp 19) 22 36 zStep 24 rfl (by kernel_rfl) (by kernel_rfl) rfl (by decide) (by omega) (.slice A6 n6 c6) (l.take k ++ [s]) (l.drop k) _ _ _ (fun _ => True) (fun _ => False) rfl rfl ho6 (Kd.C_below HD.out hb6) (fun x cs h => pstep_KM _ _ _ _ x cs h) (fun _ h => h.elim) (fun _ _ => trivial) (Below.refl _ _) hb6.size (by rw [List.length_append, List.length_take, List.length_singleton]; omega) ?_
  intro v7 w7 r1 r2 r3 r4
  obtain ⟨A7, n7, c7, rfl⟩ := R_slice' r1
  refine hK.out _ _ (fun Z => Below w2.heap.size w2 Z) (fun Z => Below w2.heap.size w2 Z ∧ Own kPStep 36 Z w2.heap.size (.slice A7 n7 c7) (l.take k ++ [s] ++ l.drop k)) (fun Z Z' hZ hb => ⟨hZ.1.trans (Below.mono hb hZ.1.size), Kd.R_below hZ.2 hb⟩) (fun _ h => h) (fun _ h => h.1) ⟨hb6.trans r2, r1⟩ ?_
  clear hK K hX hb6 ho6 r1 r2 r3 r4
  repeat ((first | refine flow_calm (fun K hK => ?_) | refine flow_free (fun K hK => ?_) | refine float_calm (fun K hK => ?_) | refine float_free (fun K hK => ?_)); go_simp; first | (refine hK _ ?_; clear hK K) | (apply Exists.intro; (refine ⟨fun X => ?_, hK _ ?_⟩); (first | (intro hC; rfl) | rfl | (intro hC; skip; go_simp; done) | (intro hC; skip; go_simp; rfl)); clear hK K))
  refine flow_nil ?_
  intro Z hZ
  go_wp2
  refine bodyPost_ret (v := .slice A7 n7 c7) (by simp [results, Try.results80, go_sem]) rfl ?_
  obtain ⟨hb7, ho7⟩ := hZ.out
  refine ⟨_, rfl, ?_, below_step HB2.out hb7⟩
  rw [List.append_assoc, List.singleton_append] at ho7
  rw [withR, ← Hk.out]
  exact Kd.R_lower ho7 HB2.out.size
set_option maxRecDepth 100000 in
set_option maxHeartbeats 16000000 in
theorem r_Without (A : Option Addr) (n c : Nat) (l : List PStep) (k : Nat) (w : World) (hn : n = l.length) (hrow : PStepRow w A n l) (hc : n ≤ c) (hm : n ≤ 1000) (hk : k < n) :
    Calls Try.prog 37 #[.slice A n c, .int .i64 k] w fun e w' => ∃ v, e = .returned v ∧ Own kPStep 36 w' w.heap.size v (withoutE l k) ∧ Below w.heap.size w w' := by
  have HR := Lib.hid hrow
  have Hn := Lib.hid hn
  clear hrow hn
  go_enter Try.func37, Try.ntmps37
  go_upto_region 1 with fail
  have HT := Lib.hid (stepRow_take HR.out k (by omega))
  have hkc : k ≤ c := by omega
  obtain ⟨k1, hkk⟩ : ∃ k1, k1 = k + 1 := ⟨_, rfl⟩
  have hk1 : IntKind.i64.wrap ((k : Int) + 1) = (k1 : Int) := by rw [IntWalk.i64_in _ (by omega)]; omega
  have hk2 : k1 ≤ n := by omega
  have hk3 : k1 ≤ c := by omega
  have Hkk := Lib.hid hkk
  clear hkk
  refine wp_region_flow [.free 0, .free 1, .free 2, .free 4, .free 5, .free 6, .free 7, .group [3], .alone 8, .free 9] (Below w.heap.size w) (Below w.heap.size w) (stable_below _ _ (Nat.le_refl _)) (fun _ h => h) (by kernel_rfl) (by kernel_rfl) (below_drew1 (Below.refl _ _)) ?_
  simp only [pickEnts, pickF, List.getElem?_cons_succ, List.getElem?_cons_zero, List.filterMap_cons, List.filterMap_nil, Option.map_some]
  repeat ((first | refine flow_calm (fun K hK => ?_) | refine flow_free (fun K hK => ?_) | refine float_calm (fun K hK => ?_) | refine float_free (fun K hK => ?_)); go_simp; first | (refine hK _ ?_; clear hK K) | (apply Exists.intro; (refine ⟨fun X => ?_, hK _ ?_⟩); (first | (intro hC; rfl) | rfl | (intro hC; skip; go_simp; done) | (intro hC; skip; go_simp; rfl)); clear hK K))
  obtain ⟨AD, hAD⟩ : ∃ AD, AD = (if c = k1 then A else Option.map (fun x => x.add (k1 * 3)) A) := ⟨_, rfl⟩
  have HD := Lib.hid (stepRow_drop (m := n - k1) (B := AD) HR.out k1 hk2 rfl (by
    by_cases h : c = k1
    · exact .inl (by omega)
    · right; rw [hAD, if_neg h]))
  rw [← hAD]
  clear hAD
  refine flow_one (fun v X => Own kPStep 36 X w.heap.size v (l.take k)) (fun _ _ _ h hb => Kd.R_below h hb) ⟨rfl, fun X hX => ?_⟩ (fun v X0 hX0 hV0 => ?_)
  · exact makes_fresh kPStep w.heap.size hX.out.size (.const (.slice none 0 0)) (.tmp 7) 22 36 zStep 24 rfl (by kernel_rfl) (by kernel_rfl) rfl (by decide) (by omega) (l.take k) _ k _ rfl rfl (Kd.C_below HT.out hX.out) (fun x cs h => pstep_KM _ _ _ _ x cs h) (by omega)
  obtain ⟨A6, n6, c6, rfl⟩ := R_slice' hV0
  clear hX0 hV0
  refine flow_alone rfl (fun X hX K hK => ?_)
  obtain ⟨hb6, ho6⟩ := hX.out
  refine Kd.R_append_rows_step kPStep (w0 := X) w.heap.size (by rfl) (.tmp 8) (.tmp 12) 22 36 zStep 24 rfl (by kernel_rfl) (by kernel_rfl) rfl (by decide) (by omega) (.slice A6 n6 c6) (l.take k) (l.drop k1) _ _ _ (fun _ => True) (fun _ => False) rfl rfl ho6 (Kd.C_below HD.out hb6) (fun x cs h => pstep_KM _ _ _ _ x cs h) (fun _ h => h.elim) (fun _ _ => trivial) (Below.refl _ _) hb6.size (by rw [List.length_take]; omega) ?_
  intro v7 w7 r1 r2 r3 r4
  obtain ⟨A7, n7, c7, rfl⟩ := R_slice' r1
  refine hK.out _ _ (fun Z => Below w.heap.size w Z) (fun Z => Below w.heap.size w Z ∧ Own kPStep 36 Z w.heap.size (.slice A7 n7 c7) (l.take k ++ l.drop k1)) (fun Z Z' hZ hb => ⟨hZ.1.trans (Below.mono hb hZ.1.size), Kd.R_below hZ.2 hb⟩) (fun _ h => h) (fun _ h => h.1) ⟨hb6.trans r2, r1⟩ ?_
  clear hK K hX hb6 ho6 r1 r2 r3 r4
  repeat ((first | refine flow_calm (fun K hK => ?_) | refine flow_free (fun K hK => ?_) | refine float_calm (fun K hK => ?_) | refine float_free (fun K hK => ?_)); go_simp; first | (refine hK _ ?_; clear hK K) | (apply Exists.intro; (refine ⟨fun X => ?_, hK _ ?_⟩); (first | (intro hC; rfl) | rfl | (intro hC; skip; go_simp; done) | (intro hC; skip; go_simp; rfl)); clear hK K))
  refine flow_nil ?_
  intro Z hZ
  go_wp2
  refine bodyPost_ret (v := .slice A7 n7 c7) (by simp [results, Try.results37, go_sem]) rfl ?_
  obtain ⟨hb7, ho7⟩ := hZ.out
  rw [Hkk.out] at ho7
  exact ⟨_, rfl, ho7, hb7⟩
end Go.Proofs.Ytemkloildadokaa
