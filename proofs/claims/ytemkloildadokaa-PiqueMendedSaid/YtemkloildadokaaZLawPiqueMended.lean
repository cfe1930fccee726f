/-
  Texts of one hand, laid together: LawPiqueMended.
-/
import Derived.Test.YtemkloildadokaaZD
import Derived.Test.YtemkloildadokaaZO
import Derived.Test.YtemkloildadokaaZE
import Derived.Test.YtemkloildadokaaZF
import Derived.Test.YtemkloildadokaaRows
import Derived.ProofKit
import Derived.OpenShut
import Derived.ShutString
import Derived.ChangeOld
import Derived.SizedLaws
set_option linter.unusedVariables false
set_option linter.unusedSimpArgs false
/-! Mended steps are a line with all that comes and the times of what was left out, and no line of these steps that has all that comes has more; and the chapter's examples are as they are stated. -/
namespace Go.Proofs.Ytemkloildadokaa
open Go.RowKit Go.Shelf Go.Proofs.YtemkloildadokaaW.PrintWords
set_option maxRecDepth 100000 in
set_option maxHeartbeats 16000000 in
theorem law_mended (l : List PStep) (A : Option Addr) (c : Nat) (bs : List Int) (Bb : Option Addr) (cb : Nat) (w : World) (hr : PStepRow w A l.length l) (hc : l.length ≤ c) (hs : l.length * 24 ≤ 140737488351232) (hb : BytesRow w Bb bs.length bs) (hcb : bs.length ≤ cb) (hzb : True) :
    Calls Try.prog 8 #[.slice A l.length c, .slice Bb bs.length cb] w fun e w' => e = .returned (.bool true) ∧ Below w.heap.size w w' := by
  have hmx : bs.length ≤ 9223372036854775807 := hb.1.2.1
  have HR := Lib.hid hr
  have Hbs := Lib.hid hb
  clear hr hb hzb
  have P1 := Lib.hid (fun W (h : PStepRow W A l.length l) => p_Mend A c l W h)
  have P2 := Lib.hid (fun W (h : PStepRow W A l.length l) => r_Steps A c l W h)
  cases hst : stepsB l
  · rw [hst] at P1 P2
    simp only [Bool.false_eq_true, if_false] at P1
    clear hst
    go_enter Try.func8, Try.ntmps8
    go_wp2_with (first
      | (go_at_call 27; (with_reducible refine (P1.out w HR.out).mono ?_); rintro e w2 ⟨⟨vo2, vt2, rfl, ho2, ht2⟩, hb2⟩; obtain ⟨A2, c2, rfl, hc2, hr2⟩ := own_reads' ho2; obtain ⟨B2, d2, rfl, hd2, hs2⟩ := own_reads' ht2; have HB2 := Lib.hid hb2; clear hb2 hr2 hs2 ho2 ht2)
      | (go_at_call 33; (with_reducible refine (P2.out w2 (Kd.C_below HR.out HB2.out)).mono ?_); rintro e w3 ⟨rfl, hb3⟩; have HB3 := Lib.hid (below_step HB2.out hb3); clear hb3)
      | (go_at_call 20; (with_reducible refine (known_true _).mono ?_); rintro e w9 ⟨rfl, hb9⟩))
    go_ret
    exact ⟨rfl, below_step HB3.out hb9⟩
  · rw [hst] at P1 P2
    simp only [if_true] at P1
    have hml := mend_len l []
    have HLn := Lib.hid (mend_line hst)
    have h60 : l.length ≤ 60 := steps60 hst
    obtain ⟨hsp, hinc, -⟩ : (∀ s ∈ l, pstepB s = true) ∧ incB l = true ∧ l.length ≤ 60 := by simpa [stepsB, List.all_eq_true] using hst
    have HIn := Lib.hid hinc
    have Hdo := Lib.hid (show ∀ s ∈ l, s.do_ = 1 ∨ s.do_ = 2 from fun s hs => by have := (step_bounds (hsp s hs)).2.2; omega)
    have HSt := Lib.hid (MendAt.start l)
    obtain ⟨P, hP⟩ : ∃ P : Nat → Bool, ∀ i, P i = (decide (bs.length ≤ i) || decide (bs[i]?.getD 0 % 2 = 1)) := ⟨_, fun _ => rfl⟩
    have HP := Lib.hid hP
    have HMo := Lib.hid (show lineB (pickE P 0 l) = true → (pickE P 0 l).length ≤ (mendE [] l).1.length from fun h => by
      have := mend_most P l [] [] 0 Hdo.out (Nat.le_refl _) (by have := (isLine_parts h).2; simpa using this)
      simpa using this)
    have hpl0 := Lib.hid (fun i => pick_len P (l.take i) 0)
    obtain ⟨X, hX⟩ : ∃ X, X = (mendE [] l).1 := ⟨_, rfl⟩
    obtain ⟨T, hT⟩ : ∃ T, T = (mendE [] l).2 := ⟨_, rfl⟩
    rw [← hX, ← hT] at P1 hml HSt
    rw [← hX] at HLn HMo
    have HML := Lib.hid hml
    have hXl : X.length ≤ 60 := by omega
    have hTl : T.length ≤ 60 := by omega
    have hwl : IntKind.i64.wrap ((X.length : Int) + (T.length : Int)) = (l.length : Int) := by rw [IntWalk.i64_in _ (by omega)]; omega
    clear hX hT hml hst hsp hinc hP
    go_enter Try.func8, Try.ntmps8
    go_wp2_with (first
      | (go_at_call 27; (with_reducible refine (P1.out w HR.out).mono ?_); rintro e w2 ⟨⟨vo2, vt2, rfl, ho2, ht2⟩, hb2⟩; obtain ⟨A2, c2, rfl, hc2, hr2⟩ := own_reads' ho2; obtain ⟨B2, d2, rfl, hd2, hs2⟩ := own_reads' ht2; have HB1 := Lib.hid hb2; have HX1 := Lib.hid hr2; have HT1 := Lib.hid hs2; clear hb2 hr2 hs2 ho2 ht2)
      | (go_at_call 33; (with_reducible refine (P2.out w2 (Kd.C_below HR.out HB1.out)).mono ?_); rintro e w3 ⟨rfl, hb3⟩; have HB3 := Lib.hid (below_step HB1.out hb3); have Hb3 := Lib.hid hb3; clear hb3)
      | (go_at_call 31; (with_reducible refine (p_Check A2 c2 X w3 (Kd.C_below HX1.out Hb3.out)).mono ?_); rintro e w4 ⟨rfl, hb4⟩; simp only [HLn.out]; have HB4 := Lib.hid (below_step HB3.out hb4); have Hb4 := Lib.hid (below_step Hb3.out hb4); clear hb4)
      | (go_at_call 34; (with_reducible refine (r_Good A2 X.length c2 X w4 rfl (Kd.C_below HX1.out Hb4.out)).mono ?_); rintro e w5 ⟨rfl, hb5⟩; simp only [HLn.out]; have HB2 := Lib.hid (below_step HB4.out hb5); have Hb5 := Lib.hid (below_step Hb4.out hb5); clear hb5))
    have HX2 := Lib.hid (Kd.C_below HX1.out Hb5.out)
    have HT2 := Lib.hid (Kd.C_below HT1.out Hb5.out)
    clear HX1 HT1 Hb5 Hb4 Hb3 HB1 HB3 HB4
    generalize hw5 : w5 = w2' at HB2 HX2 HT2 ⊢
    clear hw5 w5
    rename_i w5
    generalize hw5 : w2' = w2 at HB2 HX2 HT2 ⊢
    clear hw5
    go_loopw [58, 9, 8] (fun i kk vs wr => ∃ i' k : Nat, i' ≤ l.length ∧ i = .int .i64 i' ∧ kk = .int .i64 k ∧ MendAt l X T i' k ∧ Own kPStep 36 wr w2.heap.size vs (pickE P 0 (l.take i')) ∧ Below w2.heap.size w2 wr) (fun i _ _ _ => l.length - (intOf i).toNat)
    case atStart => exact ⟨0, 0, Nat.zero_le _, rfl, rfl, HSt.out, Kd.R_nil _ _ _ _ _, Below.refl _ _⟩
    case round =>
      obtain ⟨i, k, hi, rfl, rfl, hM, hO, hBr⟩ := hrel
      have HO := Lib.hid hO
      have HM := Lib.hid hM
      have HBr := Lib.hid hBr
      have hki := hM.le
      have hpl := Lib.hid (show (pickE P 0 (l.take i)).length ≤ 60 by have := hpl0.out i; rw [List.length_take] at this; omega)
      clear hO hM hBr
      by_cases hlt : i < l.length
      · obtain ⟨s, ad, hd, htk, hget, rfl, e0, e1, e2⟩ := pstep_at (Kd.C_below HR.out (HB2.out.trans (HBr.out.mono HB2.out.size))) i hlt
        have Htk := Lib.hid htk
        have HMn := Lib.hid (HM.out.next HIn.out Hdo.out hd)
        have HX5 := Lib.hid (Cells.new wr #[.int .i64 s.at_, .int .i64 s.do_, .int .i64 s.key] 36)
        have HBx := Lib.hid (below_alloc (Below.refl wr.heap.size wr) (.cells #[.int .i64 s.at_, .int .i64 s.do_, .int .i64 s.key] 36))
        have HB5 := Lib.hid (below_step HBr.out HBx.out)
        clear hd htk hget
        go_upto_region 11 with fail
        clear e0 e1 e2
        generalize wr.alloc (.cells #[.int .i64 s.at_, .int .i64 s.do_, .int .i64 s.key] 36) = w5 at HX5 HBx HB5 ⊢
        rcases HMn.out with ⟨hTk, hs2, hM'⟩ | ⟨hTk, hXs, hM'⟩
        · -- it was left out
          have HM' := Lib.hid hM'
          have hkT : k < T.length := (List.getElem?_eq_some_iff.1 hTk).1
          have hkT' : (k : Int) < (T.length : Int) := by omega
          obtain ⟨y, adt, hd2, htk2, hget2, hAt, u0⟩ := int_at (Kd.C_below HT2.out HB5.out) k hkT
          obtain rfl : y = s.at_ := by rw [hTk] at hget2; cases hget2; rfl
          subst hAt
          have U0 := Lib.hid u0
          have hd2' : (s.do_ == 2) = true := by simp [hs2]
          have hwk : IntKind.i64.wrap ((k : Int) + 1) = ((k + 1 : Nat) : Int) := by rw [IntWalk.i64_in _ (by omega)]; rfl
          clear hd2 htk2 hget2 u0 hTk hs2 hM'
          refine wp_region_flow [.free 0, .free 1, .free 2, .free 3, .free 4, .free 5, .free 6, .free 7, .calm 8, .free 9, .calm 10, .free 11, .free 12] (Below w5.heap.size w5) (Below w5.heap.size w5) (stable_below _ _ (Nat.le_refl _)) (fun _ h => h) (by kernel_rfl) (by kernel_rfl) (below_drew1 (Below.refl _ _)) ?_
          simp only [pickEnts, pickF, List.getElem?_cons_succ, List.getElem?_cons_zero, List.filterMap_cons, List.filterMap_nil, Option.map_some]
          repeat ((first | refine flow_calm (fun K hK => ?_) | refine flow_free (fun K hK => ?_) | refine float_calm (fun K hK => ?_) | refine float_free (fun K hK => ?_)); go_simp; first | (refine hK _ ?_; clear hK K) | (apply Exists.intro; (refine ⟨fun X => ?_, hK _ ?_⟩); (first | (intro hC; rfl) | rfl | (intro hC; have q := HX5.out.later hC.out; have q0 := q.cell 0 _ rfl; have q1 := q.cell 1 _ rfl; have q2 := q.cell 2 _ rfl; have u0 := cell_keep hC.out U0.out; go_simp; done) | (intro hC; have q := HX5.out.later hC.out; have q0 := q.cell 0 _ rfl; have q1 := q.cell 1 _ rfl; have q2 := q.cell 2 _ rfl; have u0 := cell_keep hC.out U0.out; go_simp; rfl)); clear hK K))
          refine flow_nil ?_
          intro Y hC
          have HY := Lib.hid (HX5.out.later hC.out)
          have HYb := Lib.hid (HB5.out.trans (hC.out.mono HB5.out.size))
          have HO' := Lib.hid (Kd.R_below HO.out (below_step HBx.out hC.out))
          have z1 := HY.out.cell 1 _ rfl
          clear hC
          go_upto_region 17 with fail
          clear z1 hwk
          have y0 := HY.out.cell 0 _ rfl
          have y1 := HY.out.cell 1 _ rfl
          have y2 := HY.out.cell 2 _ rfl
          cases hd1 : s.do_ == 1
          · by_cases hil : bs.length ≤ i
            · have hsu := Lib.hid (show pickE P 0 (l.take (i + 1)) = pickE P 0 (l.take i) ++ [s] by rw [pick_snoc P hlt Htk.out, if_pos (by rw [HP.out i]; simp [hil])])
              have hil' : (bs.length : Int) ≤ (i : Int) := by omega
              clear hil
              go_wp2_with (at_builtin; refine Kd.R_append kPStep (w0 := Y) w2.heap.size rfl (.tmp 114) (.tmp 116) 22 36 zStep 24 rfl Try.underlying22 info_pstep rfl (by decide) (by omega) _ (pickE P 0 (l.take i)) s (pstepCells s) (fun _ => True) (fun _ => False) rfl rfl (kPStep_mkM _ _ _ _) (fun _ hk => hk.elim) (fun _ _ => trivial) HO'.out (Below.refl _ _) HYb.out.size (by have := hpl.out; omega) ?_; intro v10 w10 r1 r2 r3 r4; have HR10 := Lib.hid r1; clear r1 r3 r4)
              exact ⟨⟨i + 1, k + 1, by omega, by go_num, by go_num, HM'.out, by rw [hsu.out]; exact HR10.out, HYb.out.trans r2⟩, by simp [intOf]; omega⟩
            · have hil' : ¬ (bs.length : Int) ≤ (i : Int) := by omega
              obtain ⟨z, adz, hz1, hz2, rfl, hz4⟩ := byte_at (Hbs.out.later (HB2.out.trans (HYb.out.mono HB2.out.size))) i (by omega)
              have hilt : i < bs.length := by omega
              rcases Nat.mod_two_eq_zero_or_one z with hz | hz
              · have hzm : (z : Int).tmod 2 = 0 := by rw [Int.tmod_eq_emod_of_nonneg (by omega)]; omega
                have hsu := Lib.hid (show pickE P 0 (l.take (i + 1)) = pickE P 0 (l.take i) by rw [pick_snoc P hlt Htk.out, if_neg (by rw [HP.out i, hz1]; simp [hil, hd1]; omega)])
                clear hz hz1 hz2 hil
                go_wp2
                exact ⟨⟨i + 1, k + 1, by omega, by go_num, by go_num, HM'.out, by rw [hsu.out]; exact HO'.out, HYb.out⟩, by simp [intOf]; omega⟩
              · have hzm : (z : Int).tmod 2 = 1 := by rw [Int.tmod_eq_emod_of_nonneg (by omega)]; omega
                have hsu := Lib.hid (show pickE P 0 (l.take (i + 1)) = pickE P 0 (l.take i) ++ [s] by rw [pick_snoc P hlt Htk.out, if_pos (by rw [HP.out i, hz1]; simp; omega)])
                clear hz hz1 hz2 hil
                go_wp2_with (at_builtin; refine Kd.R_append kPStep (w0 := Y) w2.heap.size rfl (.tmp 114) (.tmp 116) 22 36 zStep 24 rfl Try.underlying22 info_pstep rfl (by decide) (by omega) _ (pickE P 0 (l.take i)) s (pstepCells s) (fun _ => True) (fun _ => False) rfl rfl (kPStep_mkM _ _ _ _) (fun _ hk => hk.elim) (fun _ _ => trivial) HO'.out (Below.refl _ _) HYb.out.size (by have := hpl.out; omega) ?_; intro v10 w10 r1 r2 r3 r4; have HR10 := Lib.hid r1; clear r1 r3 r4)
                exact ⟨⟨i + 1, k + 1, by omega, by go_num, by go_num, HM'.out, by rw [hsu.out]; exact HR10.out, HYb.out.trans r2⟩, by simp [intOf]; omega⟩
          · have hsu := Lib.hid (show pickE P 0 (l.take (i + 1)) = pickE P 0 (l.take i) ++ [s] by rw [pick_snoc P hlt Htk.out, if_pos (by rw [hd1]; rfl)])
            go_wp2_with (at_builtin; refine Kd.R_append kPStep (w0 := Y) w2.heap.size rfl (.tmp 114) (.tmp 116) 22 36 zStep 24 rfl Try.underlying22 info_pstep rfl (by decide) (by omega) _ (pickE P 0 (l.take i)) s (pstepCells s) (fun _ => True) (fun _ => False) rfl rfl (kPStep_mkM _ _ _ _) (fun _ hk => hk.elim) (fun _ _ => trivial) HO'.out (Below.refl _ _) HYb.out.size (by have := hpl.out; omega) ?_; intro v10 w10 r1 r2 r3 r4; have HR10 := Lib.hid r1; clear r1 r3 r4)
            exact ⟨⟨i + 1, k + 1, by omega, by go_num, by go_num, HM'.out, by rw [hsu.out]; exact HR10.out, HYb.out.trans r2⟩, by simp [intOf]; omega⟩
        · have HM' := Lib.hid hM'
          clear hM'
          by_cases hkT : k < T.length
          · have hkT' : (k : Int) < (T.length : Int) := by omega
            obtain ⟨y, adt, hd2, htk2, hget2, hAt, u0⟩ := int_at (Kd.C_below HT2.out HB5.out) k hkT
            subst hAt
            have hne : (y == s.at_) = false := by have := hTk y hget2; simpa using this
            have U0 := Lib.hid u0
            clear hd2 htk2 hget2 u0 hTk
            refine wp_region_flow [.free 0, .free 1, .free 2, .free 3, .free 4, .free 5, .free 6, .free 7, .calm 8, .free 9, .calm 10, .free 11, .free 12] (Below w5.heap.size w5) (Below w5.heap.size w5) (stable_below _ _ (Nat.le_refl _)) (fun _ h => h) (by kernel_rfl) (by kernel_rfl) (below_drew1 (Below.refl _ _)) ?_
            simp only [pickEnts, pickF, List.getElem?_cons_succ, List.getElem?_cons_zero, List.filterMap_cons, List.filterMap_nil, Option.map_some]
            repeat ((first | refine flow_calm (fun K hK => ?_) | refine flow_free (fun K hK => ?_) | refine float_calm (fun K hK => ?_) | refine float_free (fun K hK => ?_)); go_simp; first | (refine hK _ ?_; clear hK K) | (apply Exists.intro; (refine ⟨fun X => ?_, hK _ ?_⟩); (first | (intro hC; rfl) | rfl | (intro hC; have q := HX5.out.later hC.out; have q0 := q.cell 0 _ rfl; have q1 := q.cell 1 _ rfl; have q2 := q.cell 2 _ rfl; have u0 := cell_keep hC.out U0.out; go_simp; done) | (intro hC; have q := HX5.out.later hC.out; have q0 := q.cell 0 _ rfl; have q1 := q.cell 1 _ rfl; have q2 := q.cell 2 _ rfl; have u0 := cell_keep hC.out U0.out; go_simp; rfl)); clear hK K))
            refine flow_nil ?_
            intro w6 hC
            have Hy6 := Lib.hid hC.out
            clear hC
            go_upto_region 15 with fail
            have HX6 := Lib.hid (HX5.out.later Hy6.out)
            have hm1 : i - k < X.length := (List.getElem?_eq_some_iff.1 hXs).1
            obtain ⟨m, hmm⟩ : ∃ m, m = i - k := ⟨_, rfl⟩
            rw [← hmm] at hm1 hXs
            have hwm : IntKind.i64.wrap ((i : Int) - (k : Int)) = (m : Int) := by rw [IntWalk.i64_in _ (by omega)]; omega
            have hm2 : ¬ (X.length : Int) ≤ (m : Int) := by omega
            obtain ⟨s', ad', hd', htk', hget', hA', v0, v1, v2⟩ := pstep_at (Kd.C_below HX2.out (HB5.out.trans (Hy6.out.mono HB5.out.size))) m hm1
            obtain rfl : s = s' := by rw [hXs] at hget'; cases hget'; rfl
            subst hA'
            have V0 := Lib.hid v0
            have V1 := Lib.hid v1
            have V2 := Lib.hid v2
            have hes : pStepEq ⟨s.at_, s.do_, s.key⟩ ⟨s.at_, s.do_, s.key⟩ = true := decide_eq_true rfl
            clear hd' htk' hget' v0 v1 v2 hmm hXs
            refine wp_region_flow [.free 0, .free 1, .free 2, .free 3, .free 4, .free 5, .free 6, .free 7, .free 8, .free 9, .free 10, .free 11, .calm 12, .calm 13, .free 14, .free 15] (Below w6.heap.size w6) (Below w6.heap.size w6) (stable_below _ _ (Nat.le_refl _)) (fun _ h => h) (by kernel_rfl) (by kernel_rfl) (below_drew1 (Below.refl _ _)) ?_
            simp only [pickEnts, pickF, List.getElem?_cons_succ, List.getElem?_cons_zero, List.filterMap_cons, List.filterMap_nil, Option.map_some]
            repeat ((first | refine flow_calm (fun K hK => ?_) | refine flow_free (fun K hK => ?_) | refine float_calm (fun K hK => ?_) | refine float_free (fun K hK => ?_)); go_simp; first | (refine hK _ ?_; clear hK K) | (apply Exists.intro; (refine ⟨fun X => ?_, hK _ ?_⟩); (first | (intro hC; rfl) | rfl | (intro hC; have q := HX6.out.later hC.out; have q0 := q.cell 0 _ rfl; have q1 := q.cell 1 _ rfl; have q2 := q.cell 2 _ rfl; have v0 := cell_keep hC.out V0.out; have v1 := cell_keep hC.out V1.out; have v2 := cell_keep hC.out V2.out; go_simp; done) | (intro hC; have q := HX6.out.later hC.out; have q0 := q.cell 0 _ rfl; have q1 := q.cell 1 _ rfl; have q2 := q.cell 2 _ rfl; have v0 := cell_keep hC.out V0.out; have v1 := cell_keep hC.out V1.out; have v2 := cell_keep hC.out V2.out; go_simp; rfl)); clear hK K))
            refine flow_nil ?_
            intro Y hC
            have HY := Lib.hid (HX6.out.later hC.out)
            have HYb := Lib.hid (HB5.out.trans ((below_step Hy6.out hC.out).mono HB5.out.size))
            have HO' := Lib.hid (Kd.R_below HO.out (below_step HBx.out (below_step Hy6.out hC.out)))
            clear hC
            go_upto_region 17 with fail
            have y0 := HY.out.cell 0 _ rfl
            have y1 := HY.out.cell 1 _ rfl
            have y2 := HY.out.cell 2 _ rfl
            cases hd1 : s.do_ == 1
            · by_cases hil : bs.length ≤ i
              · have hsu := Lib.hid (show pickE P 0 (l.take (i + 1)) = pickE P 0 (l.take i) ++ [s] by rw [pick_snoc P hlt Htk.out, if_pos (by rw [HP.out i]; simp [hil])])
                have hil' : (bs.length : Int) ≤ (i : Int) := by omega
                clear hil
                go_wp2_with (at_builtin; refine Kd.R_append kPStep (w0 := Y) w2.heap.size rfl (.tmp 114) (.tmp 116) 22 36 zStep 24 rfl Try.underlying22 info_pstep rfl (by decide) (by omega) _ (pickE P 0 (l.take i)) s (pstepCells s) (fun _ => True) (fun _ => False) rfl rfl (kPStep_mkM _ _ _ _) (fun _ hk => hk.elim) (fun _ _ => trivial) HO'.out (Below.refl _ _) HYb.out.size (by have := hpl.out; omega) ?_; intro v10 w10 r1 r2 r3 r4; have HR10 := Lib.hid r1; clear r1 r3 r4)
                exact ⟨⟨i + 1, k, by omega, by go_num, by go_num, HM'.out, by rw [hsu.out]; exact HR10.out, HYb.out.trans r2⟩, by simp [intOf]; omega⟩
              · have hil' : ¬ (bs.length : Int) ≤ (i : Int) := by omega
                obtain ⟨z, adz, hz1, hz2, rfl, hz4⟩ := byte_at (Hbs.out.later (HB2.out.trans (HYb.out.mono HB2.out.size))) i (by omega)
                have hilt : i < bs.length := by omega
                rcases Nat.mod_two_eq_zero_or_one z with hz | hz
                · have hzm : (z : Int).tmod 2 = 0 := by rw [Int.tmod_eq_emod_of_nonneg (by omega)]; omega
                  have hsu := Lib.hid (show pickE P 0 (l.take (i + 1)) = pickE P 0 (l.take i) by rw [pick_snoc P hlt Htk.out, if_neg (by rw [HP.out i, hz1]; simp [hil, hd1]; omega)])
                  clear hz hz1 hz2 hil
                  go_wp2
                  exact ⟨⟨i + 1, k, by omega, by go_num, by go_num, HM'.out, by rw [hsu.out]; exact HO'.out, HYb.out⟩, by simp [intOf]; omega⟩
                · have hzm : (z : Int).tmod 2 = 1 := by rw [Int.tmod_eq_emod_of_nonneg (by omega)]; omega
                  have hsu := Lib.hid (show pickE P 0 (l.take (i + 1)) = pickE P 0 (l.take i) ++ [s] by rw [pick_snoc P hlt Htk.out, if_pos (by rw [HP.out i, hz1]; simp; omega)])
                  clear hz hz1 hz2 hil
                  go_wp2_with (at_builtin; refine Kd.R_append kPStep (w0 := Y) w2.heap.size rfl (.tmp 114) (.tmp 116) 22 36 zStep 24 rfl Try.underlying22 info_pstep rfl (by decide) (by omega) _ (pickE P 0 (l.take i)) s (pstepCells s) (fun _ => True) (fun _ => False) rfl rfl (kPStep_mkM _ _ _ _) (fun _ hk => hk.elim) (fun _ _ => trivial) HO'.out (Below.refl _ _) HYb.out.size (by have := hpl.out; omega) ?_; intro v10 w10 r1 r2 r3 r4; have HR10 := Lib.hid r1; clear r1 r3 r4)
                  exact ⟨⟨i + 1, k, by omega, by go_num, by go_num, HM'.out, by rw [hsu.out]; exact HR10.out, HYb.out.trans r2⟩, by simp [intOf]; omega⟩
            · have hsu := Lib.hid (show pickE P 0 (l.take (i + 1)) = pickE P 0 (l.take i) ++ [s] by rw [pick_snoc P hlt Htk.out, if_pos (by rw [hd1]; rfl)])
              go_wp2_with (at_builtin; refine Kd.R_append kPStep (w0 := Y) w2.heap.size rfl (.tmp 114) (.tmp 116) 22 36 zStep 24 rfl Try.underlying22 info_pstep rfl (by decide) (by omega) _ (pickE P 0 (l.take i)) s (pstepCells s) (fun _ => True) (fun _ => False) rfl rfl (kPStep_mkM _ _ _ _) (fun _ hk => hk.elim) (fun _ _ => trivial) HO'.out (Below.refl _ _) HYb.out.size (by have := hpl.out; omega) ?_; intro v10 w10 r1 r2 r3 r4; have HR10 := Lib.hid r1; clear r1 r3 r4)
              exact ⟨⟨i + 1, k, by omega, by go_num, by go_num, HM'.out, by rw [hsu.out]; exact HR10.out, HYb.out.trans r2⟩, by simp [intOf]; omega⟩
          · have hkT' : ¬ (k : Int) < (T.length : Int) := by omega
            refine wp_region_flow [.free 0, .free 1, .free 2, .free 3, .free 4, .free 5, .free 6, .free 7, .calm 8, .free 9, .calm 10, .free 11, .free 12] (Below w5.heap.size w5) (Below w5.heap.size w5) (stable_below _ _ (Nat.le_refl _)) (fun _ h => h) (by kernel_rfl) (by kernel_rfl) (below_drew1 (Below.refl _ _)) ?_
            simp only [pickEnts, pickF, List.getElem?_cons_succ, List.getElem?_cons_zero, List.filterMap_cons, List.filterMap_nil, Option.map_some]
            repeat ((first | refine flow_calm (fun K hK => ?_) | refine flow_free (fun K hK => ?_) | refine float_calm (fun K hK => ?_) | refine float_free (fun K hK => ?_)); go_simp; first | (refine hK _ ?_; clear hK K) | (apply Exists.intro; (refine ⟨fun X => ?_, hK _ ?_⟩); (first | (intro hC; rfl) | rfl | (intro hC; skip; go_simp; done) | (intro hC; skip; go_simp; rfl)); clear hK K))
            refine flow_nil ?_
            intro w6 hC
            have Hy6 := Lib.hid hC.out
            clear hC
            go_upto_region 15 with fail
            have HX6 := Lib.hid (HX5.out.later Hy6.out)
            have hm1 : i - k < X.length := (List.getElem?_eq_some_iff.1 hXs).1
            obtain ⟨m, hmm⟩ : ∃ m, m = i - k := ⟨_, rfl⟩
            rw [← hmm] at hm1 hXs
            have hwm : IntKind.i64.wrap ((i : Int) - (k : Int)) = (m : Int) := by rw [IntWalk.i64_in _ (by omega)]; omega
            have hm2 : ¬ (X.length : Int) ≤ (m : Int) := by omega
            obtain ⟨s', ad', hd', htk', hget', hA', v0, v1, v2⟩ := pstep_at (Kd.C_below HX2.out (HB5.out.trans (Hy6.out.mono HB5.out.size))) m hm1
            obtain rfl : s = s' := by rw [hXs] at hget'; cases hget'; rfl
            subst hA'
            have V0 := Lib.hid v0
            have V1 := Lib.hid v1
            have V2 := Lib.hid v2
            have hes : pStepEq ⟨s.at_, s.do_, s.key⟩ ⟨s.at_, s.do_, s.key⟩ = true := decide_eq_true rfl
            clear hd' htk' hget' v0 v1 v2 hmm hXs
            refine wp_region_flow [.free 0, .free 1, .free 2, .free 3, .free 4, .free 5, .free 6, .free 7, .free 8, .free 9, .free 10, .free 11, .calm 12, .calm 13, .free 14, .free 15] (Below w6.heap.size w6) (Below w6.heap.size w6) (stable_below _ _ (Nat.le_refl _)) (fun _ h => h) (by kernel_rfl) (by kernel_rfl) (below_drew1 (Below.refl _ _)) ?_
            simp only [pickEnts, pickF, List.getElem?_cons_succ, List.getElem?_cons_zero, List.filterMap_cons, List.filterMap_nil, Option.map_some]
            repeat ((first | refine flow_calm (fun K hK => ?_) | refine flow_free (fun K hK => ?_) | refine float_calm (fun K hK => ?_) | refine float_free (fun K hK => ?_)); go_simp; first | (refine hK _ ?_; clear hK K) | (apply Exists.intro; (refine ⟨fun X => ?_, hK _ ?_⟩); (first | (intro hC; rfl) | rfl | (intro hC; have q := HX6.out.later hC.out; have q0 := q.cell 0 _ rfl; have q1 := q.cell 1 _ rfl; have q2 := q.cell 2 _ rfl; have v0 := cell_keep hC.out V0.out; have v1 := cell_keep hC.out V1.out; have v2 := cell_keep hC.out V2.out; go_simp; done) | (intro hC; have q := HX6.out.later hC.out; have q0 := q.cell 0 _ rfl; have q1 := q.cell 1 _ rfl; have q2 := q.cell 2 _ rfl; have v0 := cell_keep hC.out V0.out; have v1 := cell_keep hC.out V1.out; have v2 := cell_keep hC.out V2.out; go_simp; rfl)); clear hK K))
            refine flow_nil ?_
            intro Y hC
            have HY := Lib.hid (HX6.out.later hC.out)
            have HYb := Lib.hid (HB5.out.trans ((below_step Hy6.out hC.out).mono HB5.out.size))
            have HO' := Lib.hid (Kd.R_below HO.out (below_step HBx.out (below_step Hy6.out hC.out)))
            clear hC
            go_upto_region 17 with fail
            have y0 := HY.out.cell 0 _ rfl
            have y1 := HY.out.cell 1 _ rfl
            have y2 := HY.out.cell 2 _ rfl
            cases hd1 : s.do_ == 1
            · by_cases hil : bs.length ≤ i
              · have hsu := Lib.hid (show pickE P 0 (l.take (i + 1)) = pickE P 0 (l.take i) ++ [s] by rw [pick_snoc P hlt Htk.out, if_pos (by rw [HP.out i]; simp [hil])])
                have hil' : (bs.length : Int) ≤ (i : Int) := by omega
                clear hil
                go_wp2_with (at_builtin; refine Kd.R_append kPStep (w0 := Y) w2.heap.size rfl (.tmp 114) (.tmp 116) 22 36 zStep 24 rfl Try.underlying22 info_pstep rfl (by decide) (by omega) _ (pickE P 0 (l.take i)) s (pstepCells s) (fun _ => True) (fun _ => False) rfl rfl (kPStep_mkM _ _ _ _) (fun _ hk => hk.elim) (fun _ _ => trivial) HO'.out (Below.refl _ _) HYb.out.size (by have := hpl.out; omega) ?_; intro v10 w10 r1 r2 r3 r4; have HR10 := Lib.hid r1; clear r1 r3 r4)
                exact ⟨⟨i + 1, k, by omega, by go_num, by go_num, HM'.out, by rw [hsu.out]; exact HR10.out, HYb.out.trans r2⟩, by simp [intOf]; omega⟩
              · have hil' : ¬ (bs.length : Int) ≤ (i : Int) := by omega
                obtain ⟨z, adz, hz1, hz2, rfl, hz4⟩ := byte_at (Hbs.out.later (HB2.out.trans (HYb.out.mono HB2.out.size))) i (by omega)
                have hilt : i < bs.length := by omega
                rcases Nat.mod_two_eq_zero_or_one z with hz | hz
                · have hzm : (z : Int).tmod 2 = 0 := by rw [Int.tmod_eq_emod_of_nonneg (by omega)]; omega
                  have hsu := Lib.hid (show pickE P 0 (l.take (i + 1)) = pickE P 0 (l.take i) by rw [pick_snoc P hlt Htk.out, if_neg (by rw [HP.out i, hz1]; simp [hil, hd1]; omega)])
                  clear hz hz1 hz2 hil
                  go_wp2
                  exact ⟨⟨i + 1, k, by omega, by go_num, by go_num, HM'.out, by rw [hsu.out]; exact HO'.out, HYb.out⟩, by simp [intOf]; omega⟩
                · have hzm : (z : Int).tmod 2 = 1 := by rw [Int.tmod_eq_emod_of_nonneg (by omega)]; omega
                  have hsu := Lib.hid (show pickE P 0 (l.take (i + 1)) = pickE P 0 (l.take i) ++ [s] by rw [pick_snoc P hlt Htk.out, if_pos (by rw [HP.out i, hz1]; simp; omega)])
                  clear hz hz1 hz2 hil
                  go_wp2_with (at_builtin; refine Kd.R_append kPStep (w0 := Y) w2.heap.size rfl (.tmp 114) (.tmp 116) 22 36 zStep 24 rfl Try.underlying22 info_pstep rfl (by decide) (by omega) _ (pickE P 0 (l.take i)) s (pstepCells s) (fun _ => True) (fun _ => False) rfl rfl (kPStep_mkM _ _ _ _) (fun _ hk => hk.elim) (fun _ _ => trivial) HO'.out (Below.refl _ _) HYb.out.size (by have := hpl.out; omega) ?_; intro v10 w10 r1 r2 r3 r4; have HR10 := Lib.hid r1; clear r1 r3 r4)
                  exact ⟨⟨i + 1, k, by omega, by go_num, by go_num, HM'.out, by rw [hsu.out]; exact HR10.out, HYb.out.trans r2⟩, by simp [intOf]; omega⟩
            · have hsu := Lib.hid (show pickE P 0 (l.take (i + 1)) = pickE P 0 (l.take i) ++ [s] by rw [pick_snoc P hlt Htk.out, if_pos (by rw [hd1]; rfl)])
              go_wp2_with (at_builtin; refine Kd.R_append kPStep (w0 := Y) w2.heap.size rfl (.tmp 114) (.tmp 116) 22 36 zStep 24 rfl Try.underlying22 info_pstep rfl (by decide) (by omega) _ (pickE P 0 (l.take i)) s (pstepCells s) (fun _ => True) (fun _ => False) rfl rfl (kPStep_mkM _ _ _ _) (fun _ hk => hk.elim) (fun _ _ => trivial) HO'.out (Below.refl _ _) HYb.out.size (by have := hpl.out; omega) ?_; intro v10 w10 r1 r2 r3 r4; have HR10 := Lib.hid r1; clear r1 r3 r4)
              exact ⟨⟨i + 1, k, by omega, by go_num, by go_num, HM'.out, by rw [hsu.out]; exact HR10.out, HYb.out.trans r2⟩, by simp [intOf]; omega⟩
      · have hil : i = l.length := by omega
        have hlt' : ¬ (i : Int) < (l.length : Int) := by omega
        have HF := Lib.hid (show Own kPStep 36 wr w2.heap.size u8 (pickE P 0 l) by have := HO.out; rwa [hil, List.take_length] at this)
        obtain ⟨S, hS⟩ : ∃ S, S = pickE P 0 l := ⟨_, rfl⟩
        rw [← hS] at HF HMo
        obtain ⟨A8, c8, hv8, hc8, hr8⟩ := own_reads' HF.out
        subst hv8
        have HS8 := Lib.hid hr8
        clear hr8 hS hil HO hc8
        cases hg : lineB S
        · have Hg := Lib.hid hg
          clear hg
          go_wp2_with (first
            | (go_at_call 34; (with_reducible refine (r_Good A8 S.length c8 S wr rfl HS8.out).mono ?_); rintro e w10 ⟨rfl, hb10⟩; simp only [Hg.out]; have HB10 := Lib.hid (below_step (below_step HB2.out HBr.out) hb10); clear hb10)
            | (go_at_call 20; (with_reducible refine (known_true _).mono ?_); rintro e w11 ⟨rfl, hb11⟩))
          go_ret
          exact ⟨rfl, below_step HB10.out hb11⟩
        · have Hg := Lib.hid hg
          have hle : (S.length : Int) ≤ (X.length : Int) := by have := HMo.out hg; omega
          clear hg
          go_wp2_with (first
            | (go_at_call 34; (with_reducible refine (r_Good A8 S.length c8 S wr rfl HS8.out).mono ?_); rintro e w10 ⟨rfl, hb10⟩; simp only [Hg.out]; have HB10 := Lib.hid (below_step (below_step HB2.out HBr.out) hb10); clear hb10)
            | (go_at_call 20; (with_reducible refine (known_true _).mono ?_); rintro e w11 ⟨rfl, hb11⟩))
          go_ret
          exact ⟨rfl, below_step HB10.out hb11⟩
end Go.Proofs.Ytemkloildadokaa
namespace Go.Proofs.Ytemkloildadokaa.PiqueMended
open Go.ChangeShapes Go.WideShapes Go.ChangeAt Go.RowKit
open Go.ChangeMaps (open_string shut_string)
theorem own : ownKnob Try.prog.godebug = none := by kernel_rfl
theorem laidOut : laidOutB Try.prog = true := by kernel_rfl
set_option maxRecDepth 100000 in
theorem lifted (os : Os) (started : os.Started) (H : Type) (enc : TypeId × Value → H) :
    ReturnsInHanded {} Try.checked os 8 .any (Rows.piqueMendedSpec.pre6 enc Try.prog Try.f8 Rows.piqueMendedRow.domain false) (Rows.piqueMendedSpec.post enc Try.prog Try.f8 false true false false) := by
  refine returnsInHanded_of_change_sized (C := Try.checked) own started (by kernel_rfl) Try.func8
    (ChangeSpec.witness6 (enc := enc) (C := Try.checked) false ⟨#[], #[.slice none 0 0, .slice none 0 0], []⟩ 8 (by kernel_rfl) (by kernel_rfl) (by kernel_rfl) (by kernel_rfl)) ?_
  intro W base args ds gs before hval0 hW hcnd hsz0 _
  have hsz : (DataW.weightsEach Try.prog (Try.f8.params.toList ++ Rows.piqueMendedSpec.plain.varTypes Try.prog) (ds ++ gs)).all (· ≤ reachBytes) = true := hsz0
  have hval : ∀ (j : Nat) t v, Try.f8.params[j]? = some t → args[j]? = some v → Value.okWide Try.prog W .any base t v := hval0
  have hW' := hW
  obtain ⟨p, q, hA0, hV, rfl, hfz, hnd⟩ := hW
  have hA : DataW.TrodAll enc Try.prog W 0 (fun _ => true) true Try.f8.params.toList args.toList ds p := hA0
  rw [Try.params8] at hA hval hsz
  obtain ⟨v0, vs0, d0, ds0, p0, q0, hargs, rfl, rfl, h0, r0⟩ := trodAll_cons hA
  obtain ⟨v1, vs1, d1, ds1, p1, q1, rfl, rfl, rfl, h1, r1⟩ := trodAll_cons r0
  obtain ⟨rfl, rfl, rfl⟩ := trodAll_nil r1
  obtain rfl : args = #[v0, v1] := by cases args; simp_all
  obtain ⟨rfl, rfl⟩ := trodVars_none hV
  obtain ⟨a0, len0, cap0, rfl⟩ := okWide_slice Try.underlying22 (hval 0 22 v0 rfl rfl)
  have k0 := h0
  have lt0 : ∀ x ∈ p0, x.block < W.heap.size := by obtain ⟨m, hm⟩ := k0; exact DataW.trod_lt m _ _ _ hm
  have y0 := sized_psteps hsz (j := 0) rfl rfl h0
  have w0 : len0 ≤ cap0 ∧ ∃ l, l.length = len0 ∧ PStepRow W a0 l.length l := by
    obtain ⟨fuel, hf⟩ := h0
    obtain ⟨A, len, cap, l, hcs, hlc, hl, hr⟩ := open_psteprow hf
    simp [Value.cells] at hcs
    obtain ⟨rfl, rfl, rfl⟩ := hcs
    exact ⟨hlc, l, hl, hr⟩
  obtain ⟨hc0, l0, rfl, hr0⟩ := w0
  obtain ⟨a1, len1, cap1, rfl⟩ := okWide_slice Try.underlying51 (hval 1 51 v1 rfl rfl)
  have k1 := h1
  have lt1 : ∀ x ∈ p1, x.block < W.heap.size := by obtain ⟨m, hm⟩ := k1; exact DataW.trod_lt m _ _ _ hm
  have y1 : True := trivial
  have w1 : len1 ≤ cap1 ∧ ∃ l, l.length = len1 ∧ BytesRow W a1 l.length l := by
    obtain ⟨fuel, hf⟩ := h1
    obtain ⟨A, len, cap, l, hcs, hlc, hl, hr⟩ := open_bytesrow hf
    simp [Value.cells] at hcs
    obtain ⟨rfl, rfl, rfl⟩ := hcs
    exact ⟨hlc, l, hl, hr⟩
  obtain ⟨hc1, l1, rfl, hr1⟩ := w1
  clear hA0 hval0 hsz0 hsz
  refine (law_mended l0 a0 cap0 l1 a1 cap1 W hr0 hc0 y0 hr1 hc1 y1).mono fun e W' ⟨he, bel⟩ => ?_
  subst he
  exact ⟨_, rfl, _, _, _, [], _, [], hW', trodAll_mk1 (shut_bool Try.underlying4 _), (trodAll_cons_mk (Below.trod laidOut (by kernel_rfl) (of_decide_eq_true (by kernel_rfl)) k0 bel lt0) (trodAll_cons_mk (Below.trod laidOut (by kernel_rfl) (of_decide_eq_true (by kernel_rfl)) k1 bel lt1) trodAll_mk0)), rfl, bel.frame _, fun h => by cases h⟩
theorem over : Rows.piqueMendedRow.holds Try.pinned (OpenSpec.ofChange Rows.piqueMendedSpec) :=
  OpenClaim.holds_of_wide 8 Try.f8 rfl rfl rfl rfl rfl rfl rfl ⟨rfl, rfl, rfl, rfl, rfl⟩ rfl rfl rfl rfl rfl (by kernel_rfl) Try.func8 (by kernel_rfl)
    (of_decide_eq_true (by kernel_rfl)) (by unfold Func.isWrapper; first | (rw [if_pos (by decide +kernel)]; kernel_rfl) | (rw [if_neg (by decide +kernel)]; exact ⟨rfl, rfl⟩))
    (fun os started H enc _ => lifted os started H enc)
end Go.Proofs.Ytemkloildadokaa.PiqueMended
namespace Go.Proofs.Ytemkloildadokaa
/-- The row. -/
theorem PiqueMended_holds : Rows.PiqueMendedSaid := PiqueMended.over
#print axioms PiqueMended_holds
end Go.Proofs.Ytemkloildadokaa
