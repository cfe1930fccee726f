/-
  Texts of one hand, laid together: MergeH, MergeR.
-/
import Derived.Test.YtdpkpibcjbllcaaZM
import Derived.Test.YtdpkpibcjbllcaaZI
set_option linter.unusedVariables false
set_option linter.unusedSimpArgs false
/-! Two lists together: the library's Grow and Concat, and the program's Merge. -/
namespace Go.Proofs.Ytdpkpibcjbllcaa
open Go.RowKit Go.Proofs.YtdpkpibcjbllcaaW.PrintWords

set_option maxRecDepth 100000 in
set_option maxHeartbeats 1000000 in
theorem lib_Grow (n : Nat) (w : World) (hn : n ≤ 1000) : Calls Try.prog 86 #[.slice none 0 0, .int .i64 (n : Int)] w (OwnPost kNews 38 w []) := by
  have hn0 : (0 : Int) ≤ (n : Int) := by omega
  by_cases h0 : n = 0
  · subst h0
    go_enter Try.func86, Try.ntmps86
    go_wp2
    go_ret
    exact ⟨_, rfl, Kd.R_nil _ _ _ _ _, Below.refl _ _⟩
  · have hp : (0 : Int) < (n : Int) := by omega
    go_enter Try.func86, Try.ntmps86
    go_wp2_with (at_builtin; refine Kd.R_append_zeros kNews (w0 := w) w.heap.size rfl (.tmp 20) (.tmp 21) 22 3 38 (.agg #[(.int .i64 0), (.int .i64 0), (.int .i64 0), (.int .i64 0), (.int .i64 0), (.int .i64 0), (.int .i64 0)]) 56 rfl Try.underlying22 Try.underlying3 info_news rfl (by decide) (by omega) (.slice none 0 0) [] ⟨0, 0, 0, 0, ⟨0, 0, 0⟩⟩ (n : Int) (fun _ => True) rfl rfl ?aZ ?aF ?aO hn0 ?aB ?aS ?aL ?_; (case aZ => exact kNews_mkM _ _ _ ⟨0, 0, 0, 0, ⟨0, 0, 0⟩⟩); (case aF => exact (fun _ _ => trivial)); (case aO => exact Kd.R_nil _ _ _ _ _); (case aB => exact Below.refl _ _); (case aS => exact Nat.le_refl _); (case aL => (rw [List.length_nil]; omega)); intro v1 w1 ho1 hb1 hg1 hat1; obtain ⟨A1, c1, rfl, hc1, _⟩ := own_reads' ho1; have HO1 := Lib.hid ho1; clear ho1 hg1 hat1)
    go_ret
    refine ⟨_, rfl, ?_, hb1⟩
    have := Kd.R_take (m := 0) HO1.out (Nat.zero_le _)
    rw [List.take_zero] at this
    exact this
theorem lib_GrowZ (z : Int) (w : World) (h0 : 0 ≤ z) (hn : z ≤ 1000) : Calls Try.prog 86 #[.slice none 0 0, .int .i64 z] w (OwnPost kNews 38 w []) := by
  obtain ⟨n, rfl⟩ : ∃ n : Nat, z = (n : Int) := ⟨z.toNat, by omega⟩
  exact lib_Grow n w (by omega)
def sumK (x y : Nat) : Nat → Nat
  | 0 => 0
  | 1 => x
  | _ => x + y
def catK (l m : List News) : Nat → List News
  | 0 => []
  | 1 => l
  | _ => l ++ m
set_option maxRecDepth 100000 in
set_option maxHeartbeats 2000000 in
theorem lib_Concat (l m : List News) (A B : Option Addr) (ca cb b : Nat) (w : World) (hx : w.cell? ⟨b, 0, none⟩ = some (.slice A l.length ca)) (hy : w.cell? ⟨b, 1, none⟩ = some (.slice B m.length cb)) (hr : NewsRow w A l.length l) (hr2 : NewsRow w B m.length m) (hl : l.length ≤ 200) (hm : m.length ≤ 200) :
    Calls Try.prog 63 #[.slice (some ⟨b, 0, none⟩) 2 2] w (OwnPost kNews 38 w (l ++ m)) := by
  have Hr := Lib.hid hr
  have Hr2 := Lib.hid hr2
  have Hx := Lib.hid hx
  have Hy := Lib.hid hy
  clear hr hr2
  generalize hla : l.length = la at *
  generalize hlb : m.length = lb at *
  have Hla := Lib.hid hla
  have Hlb := Lib.hid hlb
  clear hla hlb
  have e0 : (⟨b, 0, none⟩ : Addr).add 0 = ⟨b, 0, none⟩ := rfl
  have e1 : (⟨b, 0, none⟩ : Addr).add 1 = ⟨b, 1, none⟩ := rfl
  go_enter Try.func63, Try.ntmps63
  go_wp2
  go_loop [3, 11] (fun s i => ∃ k : Nat, k ≤ 2 ∧ i = .int .i64 k ∧ s = .int .i64 (sumK la lb k : Nat)) (fun _ i => 2 - (intOf i).toNat)
  case atStart => exact ⟨0, by omega, rfl, rfl⟩
  case round =>
    obtain ⟨k, hk, rfl, rfl⟩ := hrel
    obtain rfl | rfl | rfl : k = 0 ∨ k = 1 ∨ k = 2 := by omega
    · show Code.wp _ _ _ _ _
      simp only [sumK]
      go_wp2
      exact ⟨⟨1, by omega, by go_num, by first | rfl | (simp [sumK])⟩, by simp [intOf]⟩
    · simp only [sumK]
      go_wp2
      exact ⟨⟨2, by omega, by go_num, by first | rfl | (simp [sumK])⟩, by simp [intOf]⟩
    · simp only [sumK]
      clear hk
      go_wp2_with (first
        | (go_at_call 86; (with_reducible refine (lib_GrowZ _ _ (by omega) (by omega)).mono ?_); rintro e w1 ⟨v1, rfl, hO1, hb1⟩; have HO1 := Lib.hid hO1; have hbs := hb1.size; clear hO1))
      go_loopw [6, 27] (fun v i wr => ∃ k : Nat, k ≤ 2 ∧ i = .int .i64 k ∧ Own kNews 38 wr w.heap.size v (catK l m k) ∧ Below w.heap.size w wr) (fun _ i _ => 2 - (intOf i).toNat)
      case atStart => exact ⟨0, by omega, rfl, HO1.out, hb1⟩
      case round =>
        obtain ⟨k, hk, rfl, hO, hB⟩ := hrel
        have HO := Lib.hid hO
        have hx1 := cell_later' hB hx
        have hy1 := cell_later' hB hy
        have Hr1 := Lib.hid (news_later Hr.out hB)
        have Hr3 := Lib.hid (news_later Hr2.out hB)
        clear hO hx hy
        obtain rfl | rfl | rfl : k = 0 ∨ k = 1 ∨ k = 2 := by omega
        · go_wp2_with (at_builtin; refine Kd.R_append_rows kNews (w0 := w) w.heap.size rfl (.tmp 31) (.tmp 32) 22 38 (.agg #[(.int .i64 0), (.int .i64 0), (.int .i64 0), (.int .i64 0), (.int .i64 0), (.int .i64 0), (.int .i64 0)]) 56 rfl Try.underlying22 info_news rfl (by decide) (by omega) _ [] l _ _ _ (fun _ => True) (fun _ => False) rfl rfl ?aO ?aR (fun _ _ h => h) (fun _ h => h.elim) ?aF ?aB ?aS ?aL ?_; (case aO => exact HO.out); (case aR => exact Hr1.out); (case aF => exact (fun _ _ => trivial)); (case aB => exact hB); (case aS => exact hB.size); (case aL => (rw [List.length_nil]; omega)); intro v5 w5 ho5 hb5 hg5 hat5)
          exact ⟨⟨1, by omega, by go_num, ho5, hb5⟩, by simp [intOf]⟩
        · go_wp2_with (at_builtin; refine Kd.R_append_rows kNews (w0 := w) w.heap.size rfl (.tmp 31) (.tmp 32) 22 38 (.agg #[(.int .i64 0), (.int .i64 0), (.int .i64 0), (.int .i64 0), (.int .i64 0), (.int .i64 0), (.int .i64 0)]) 56 rfl Try.underlying22 info_news rfl (by decide) (by omega) _ l m _ _ _ (fun _ => True) (fun _ => False) rfl rfl ?aO ?aR (fun _ _ h => h) (fun _ h => h.elim) ?aF ?aB ?aS ?aL ?_; (case aO => exact HO.out); (case aR => exact Hr3.out); (case aF => exact (fun _ _ => trivial)); (case aB => exact hB); (case aS => exact hB.size); (case aL => (rw [Hla.out]; omega)); intro v5 w5 ho5 hb5 hg5 hat5)
          exact ⟨⟨2, by omega, by go_num, ho5, hb5⟩, by simp [intOf]⟩
        · go_wp2
          go_ret
          exact ⟨_, rfl, HO.out, hB⟩
/-- What a merge gives. -/
def mergeR (l m : List News) (srcs : Int) : List News × Int :=
  if formedB l srcs = true then (if formedB m srcs = true then (if (clashOf (l ++ m)).2.2 = true then ([], 7) else if 60 < (leastR (l ++ m)).length then ([], 3) else (leastR (l ++ m), 0)) else ([], 2)) else ([], 2)
theorem hist_least_one (l : List News) (g b : Nat) (w : World) (srcs : Int) (hf : GoodAll l srcs) (hl : l.length ≤ 1000) (hs : HeardAt w g b (hearAll l).1 (hearAll l).2) :
    Calls Try.prog 53 #[.pointer (some ⟨g, 0, none⟩)] w (OwnPost kNews 38 w (leastR l)) := by
  refine (hist_least g b _ _ w hs (Nat.le_trans (hearAll_len l) hl)).mono ?_
  rintro e w' ⟨v, ys, rfl, hO, hS, hb⟩
  rw [least_one hf ys hS] at hO
  exact ⟨v, rfl, hO, hb⟩
set_option maxRecDepth 100000 in
set_option maxHeartbeats 2000000 in
theorem hist_Merge (l m : List News) (A B : Option Addr) (ca cb : Nat) (srcs : Int) (w : World) (hr : NewsRow w A l.length l) (hr2 : NewsRow w B m.length m) (hc : l.length ≤ ca) (hc2 : m.length ≤ cb) :
    Calls Try.prog 37 #[.slice A l.length ca, .slice B m.length cb, .int .i64 srcs] w (OwnE kNews 38 (mergeR l m srcs).1 (mergeR l m srcs).2 w) := by
  have Hr := Lib.hid hr
  have Hr2 := Lib.hid hr2
  clear hr hr2
  cases hf : formedB l srcs
  · have hm : mergeR l m srcs = ([], 2) := by simp [mergeR, hf]
    rw [hm]
    clear hm
    go_enter Try.func37, Try.ntmps37
    go_wp2_with (first | (go_at_call 40; (with_reducible refine (hist_formed l A ca srcs _ Hr.out hc).mono ?_); rintro e w1 ⟨rfl, hb1⟩))
    go_ret2
    exact OwnE.of (Kd.R_nil _ _ _ _ _) hb1
  · cases hf2 : formedB m srcs
    · have hm : mergeR l m srcs = ([], 2) := by simp [mergeR, hf, hf2]
      rw [hm]
      clear hm
      go_enter Try.func37, Try.ntmps37
      go_wp2_with (first
        | (go_at_call 40; (with_reducible refine (hist_formed l A ca srcs _ Hr.out hc).mono ?_); rintro e w1 ⟨rfl, hb1⟩)
        | (go_at_call 40; (with_reducible refine (hist_formed m B cb srcs _ (news_later Hr2.out hb1) hc2).mono ?_); rintro e w2 ⟨rfl, hb2⟩))
      go_ret2
      exact OwnE.of (Kd.R_nil _ _ _ _ _) (below_step hb1 hb2)
    · have hg := Lib.hid ((GoodAll.of hf).append (GoodAll.of hf2))
      have hll := (plainB_src (formedB_plain hf)).2.1
      have hml := (plainB_src (formedB_plain hf2)).2.1
      have hbl : (l ++ m).length ≤ 120 := by rw [List.length_append]; omega
      have hsrc := Lib.hid ((GoodAll.of hf).append (GoodAll.of hf2)).heard
      have hm : mergeR l m srcs = if (clashOf (l ++ m)).2.2 = true then ([], 7) else if 60 < (leastR (l ++ m)).length then ([], 3) else (leastR (l ++ m), 0) := by simp [mergeR, hf, hf2]
      have hlo := leastR_len (l ++ m)
      have Hm := Lib.hid hm
      clear hm
      obtain ⟨bo, hbo⟩ : ∃ bo, l ++ m = bo := ⟨_, rfl⟩
      rw [hbo] at hg hbl hsrc hlo Hm
      have Hbo := Lib.hid hbo
      clear hbo
      have hbl' : bo.length ≤ 1000 := by omega
      cases hcl : (clashOf bo).2.2
      · have hm2 := Hm.out
        rw [hcl] at hm2
        simp only [Bool.false_eq_true, if_false] at hm2
        by_cases h60 : 60 < (leastR bo).length
        all_goals
          have Hm2 := Lib.hid hm2
          clear hm2 Hm
          go_enter Try.func37, Try.ntmps37
          go_wp2_with (first
            | (go_at_call 40; (with_reducible refine (hist_formed l A ca srcs _ Hr.out hc).mono ?_); rintro e w1 ⟨rfl, hb1⟩)
            | (go_at_call 40; (with_reducible refine (hist_formed m B cb srcs _ (news_later Hr2.out hb1) hc2).mono ?_); rintro e w2 ⟨rfl, hb2⟩; have hB2 := below_step hb1 hb2)
            | (go_at_call 63; (with_reducible refine (lib_Concat l m A B ca cb _ _ (by go_simp) (by go_simp) (news_later Hr.out (below_alloc hB2 _)) (news_later Hr2.out (below_alloc hB2 _)) (by omega) (by omega)).mono ?_); rintro e w3 ⟨v3, rfl, hO3, hb3⟩; rw [Hbo.out] at hO3; have hB3 := below_step (below_alloc hB2 _) hb3; obtain ⟨A3, c3, rfl, hc3, hr3⟩ := own_reads' hO3; have Hr3 := Lib.hid hr3; clear hO3 hr3)
            | (go_at_call 61; (with_reducible refine (hist_clash bo A3 c3 _ Hr3.out hc3).mono ?_); rintro e w4 ⟨i, k, b, rfl, hik, hb4⟩; have hB4 := below_step hB3 hb4; have hb' : b = false := (by have := congrArg (fun p => p.2.2) hik; simp only at this; rw [this, hcl]); subst hb')
            | (go_at_call 41; (with_reducible refine (hist_all bo A3 c3 _ (news_later Hr3.out hb4) hsrc.out).mono ?_); rintro e w5 ⟨g, b, rfl, hg5, hb5, hs5, hb5'⟩; have hB5 := below_step hB4 hb5')
            | (go_at_call 53; (with_reducible refine (hist_least_one bo g b _ srcs hg.out hbl' hs5).mono ?_); rintro e w6 ⟨v6, rfl, hO6, hb6⟩; have hB6 := below_step hB5 hb6; have HO6 := Lib.hid (own_lower hO6 hB5.size); obtain ⟨A6, c6, rfl, _, _⟩ := own_reads' hO6; clear hO6))
          go_ret2
          rw [Hm2.out]
        · rw [if_pos h60]
          exact OwnE.of (Kd.R_nil _ _ _ _ _) hB6
        · rw [if_neg h60]
          exact OwnE.of HO6.out hB6
      · have hm2 := Hm.out
        rw [hcl] at hm2
        simp only [if_true] at hm2
        rw [hm2]
        clear hm2 Hm
        go_enter Try.func37, Try.ntmps37
        go_wp2_with (first
          | (go_at_call 40; (with_reducible refine (hist_formed l A ca srcs _ Hr.out hc).mono ?_); rintro e w1 ⟨rfl, hb1⟩)
          | (go_at_call 40; (with_reducible refine (hist_formed m B cb srcs _ (news_later Hr2.out hb1) hc2).mono ?_); rintro e w2 ⟨rfl, hb2⟩; have hB2 := below_step hb1 hb2)
          | (go_at_call 63; (with_reducible refine (lib_Concat l m A B ca cb _ _ (by go_simp) (by go_simp) (news_later Hr.out (below_alloc hB2 _)) (news_later Hr2.out (below_alloc hB2 _)) (by omega) (by omega)).mono ?_); rintro e w3 ⟨v3, rfl, hO3, hb3⟩; rw [Hbo.out] at hO3; have hB3 := below_step (below_alloc hB2 _) hb3; obtain ⟨A3, c3, rfl, hc3, hr3⟩ := own_reads' hO3; have Hr3 := Lib.hid hr3; clear hO3 hr3)
          | (go_at_call 61; (with_reducible refine (hist_clash bo A3 c3 _ Hr3.out hc3).mono ?_); rintro e w4 ⟨i, k, b, rfl, hik, hb4⟩; have hB4 := below_step hB3 hb4; have hb' : b = true := (by have := congrArg (fun p => p.2.2) hik; simp only at this; rw [this, hcl]); subst hb'))
        go_ret2
        exact OwnE.of (Kd.R_nil _ _ _ _ _) hB4
end Go.Proofs.Ytdpkpibcjbllcaa
set_option linter.unusedVariables false
set_option linter.unusedSimpArgs false
/-! Two lists together: the reference; whether two lists say the same. -/
namespace Go.Proofs.Ytdpkpibcjbllcaa
open Go.RowKit Go.Proofs.YtdpkpibcjbllcaaW.PrintWords PRef

theorem ref_clash (l : List News) (A : Option Addr) (c : Nat) (w : World) (hr : NewsRow w A l.length l) (hc : l.length ≤ c) :
    Calls Try.prog 59 #[.slice A l.length c] w (ClashPost l w) := by
  obtain ⟨k, hk⟩ := clash_f l hr.2.1
  have h := afterwordref05_clash.calls k A c (l.map sNews) _ _ _ w (by rw [List.length_map]; exact C_sNews hr) (by rw [List.length_map]; exact hc) (hk k (Nat.le_refl _))
  rw [List.length_map] at h
  refine h.mono ?_
  rintro e w' ⟨rfl, hb⟩
  exact ⟨_, _, _, rfl, rfl, hb⟩
set_option maxRecDepth 100000 in
set_option maxHeartbeats 2000000 in
theorem ref_Merge (l m : List News) (A B : Option Addr) (ca cb : Nat) (srcs : Int) (w : World) (hr : NewsRow w A l.length l) (hr2 : NewsRow w B m.length m) (hc : l.length ≤ ca) (hc2 : m.length ≤ cb) :
    Calls Try.prog 38 #[.slice A l.length ca, .slice B m.length cb, .int .i64 srcs] w (OwnE kNews 38 (mergeR l m srcs).1 (mergeR l m srcs).2 w) := by
  have Hr := Lib.hid hr
  have Hr2 := Lib.hid hr2
  clear hr hr2
  cases hf : formedB l srcs
  · have hm : mergeR l m srcs = ([], 2) := by simp [mergeR, hf]
    rw [hm]
    clear hm
    go_enter Try.func38, Try.ntmps38
    go_wp2_with (first | (go_at_call 28; (with_reducible refine (ref_Formed l A ca srcs _ Hr.out hc).mono ?_); rintro e w1 ⟨rfl, hb1⟩))
    go_ret2
    exact OwnE.of (Kd.R_nil _ _ _ _ _) hb1
  · cases hf2 : formedB m srcs
    · have hm : mergeR l m srcs = ([], 2) := by simp [mergeR, hf, hf2]
      rw [hm]
      clear hm
      go_enter Try.func38, Try.ntmps38
      go_wp2_with (first
        | (go_at_call 28; (with_reducible refine (ref_Formed l A ca srcs _ Hr.out hc).mono ?_); rintro e w1 ⟨rfl, hb1⟩)
        | (go_at_call 28; (with_reducible refine (ref_Formed m B cb srcs _ (news_later Hr2.out hb1) hc2).mono ?_); rintro e w2 ⟨rfl, hb2⟩))
      go_ret2
      exact OwnE.of (Kd.R_nil _ _ _ _ _) (below_step hb1 hb2)
    · have hg0 := (GoodAll.of hf).append (GoodAll.of hf2)
      have hll := (plainB_src (formedB_plain hf)).2.1
      have hml := (plainB_src (formedB_plain hf2)).2.1
      have hbl : (l ++ m).length ≤ 120 := by rw [List.length_append]; omega
      have hsrc := Lib.hid hg0.srcs
      have Hg := Lib.hid hg0.1
      have hm : mergeR l m srcs = if (clashOf (l ++ m)).2.2 = true then ([], 7) else if 60 < (leastR (l ++ m)).length then ([], 3) else (leastR (l ++ m), 0) := by simp [mergeR, hf, hf2]
      have hlo := leastR_len (l ++ m)
      have Hm := Lib.hid hm
      clear hm hg0
      obtain ⟨bo, hbo⟩ : ∃ bo, l ++ m = bo := ⟨_, rfl⟩
      rw [hbo] at hbl hsrc hlo Hm
      have Hbo := Lib.hid hbo
      clear hbo
      have hbl' : bo.length ≤ 200 := by omega
      cases hcl : (clashOf bo).2.2
      · have hm2 := Hm.out
        rw [hcl] at hm2
        simp only [Bool.false_eq_true, if_false] at hm2
        by_cases h60 : 60 < (leastR bo).length
        all_goals
          have Hm2 := Lib.hid hm2
          clear hm2 Hm
          go_enter Try.func38, Try.ntmps38
          go_wp2_with (first
            | (go_at_call 28; (with_reducible refine (ref_Formed l A ca srcs _ Hr.out hc).mono ?_); rintro e w1 ⟨rfl, hb1⟩)
            | (go_at_call 28; (with_reducible refine (ref_Formed m B cb srcs _ (news_later Hr2.out hb1) hc2).mono ?_); rintro e w2 ⟨rfl, hb2⟩; have hB2 := below_step hb1 hb2; have hr22 := Lib.hid (news_later Hr2.out hB2))
            | (at_builtin; refine Kd.R_append_rows kNews (w0 := w) w.heap.size rfl (.const (.slice none 0 0)) (.tmp 23) 22 38 (.agg #[(.int .i64 0), (.int .i64 0), (.int .i64 0), (.int .i64 0), (.int .i64 0), (.int .i64 0), (.int .i64 0)]) 56 rfl Try.underlying22 info_news rfl (by decide) (by omega) (.slice none 0 0) [] l _ _ _ (fun _ => True) (fun _ => False) rfl rfl ?aO ?aR (fun _ _ h => h) (fun _ h => h.elim) ?aF ?aB ?aS ?aL ?_; (case aO => exact Kd.R_nil _ _ _ _ _); (case aR => exact (news_later Hr.out hB2)); (case aF => exact (fun _ _ => trivial)); (case aB => exact hB2); (case aS => exact hB2.size); (case aL => (rw [List.length_nil]; omega)); intro v9 w9 ho9 hb9 hg9 hat9; rw [List.nil_append] at ho9; have hb9' := below_nil hg9)
            | (at_builtin; refine Kd.R_append_rows kNews (w0 := w) w.heap.size rfl (.tmp 24) (.tmp 25) 22 38 (.agg #[(.int .i64 0), (.int .i64 0), (.int .i64 0), (.int .i64 0), (.int .i64 0), (.int .i64 0), (.int .i64 0)]) 56 rfl Try.underlying22 info_news rfl (by decide) (by omega) _ l m _ _ _ (fun _ => True) (fun _ => False) rfl rfl ?aO ?aR (fun _ _ h => h) (fun _ h => h.elim) ?aF ?aB ?aS ?aL ?_; (case aO => exact ho9); (case aR => exact (Kd.C_below hr22.out hb9')); (case aF => exact (fun _ _ => trivial)); (case aB => exact hb9); (case aS => exact hb9.size); (case aL => omega); intro v10 w10 ho10 hB3 hg10 hat10; rw [Hbo.out] at ho10; obtain ⟨A3, c3, rfl, hc3, hr3⟩ := own_reads' ho10; have Hr3 := Lib.hid hr3; clear ho10 hr3 ho9 hg9 hat9 hg10 hat10)
            | (go_at_call 59; (with_reducible refine (ref_clash bo A3 c3 _ Hr3.out hc3).mono ?_); rintro e w4 ⟨i, k, b, rfl, hik, hb4⟩; have hB4 := below_trans hB3 (below_lower hb4 hB3.size); have hb' : b = false := (by have := congrArg (fun p => p.2.2) hik; simp only at this; rw [this, hcl]); subst hb')
            | (go_at_call 54; (with_reducible refine (ref_LeastOf bo A3 c3 srcs _ (news_later Hr3.out hb4) hc3 hbl' Hg.out.1 Hg.out.2 hsrc.out).mono ?_); rintro e w6 ⟨v6, rfl, hO6, hb6⟩; have hB6 := below_trans hB4 (below_lower hb6 hB4.size); have HO6 := Lib.hid (own_lower hO6 hB4.size); obtain ⟨A6, c6, rfl, _, _⟩ := own_reads' hO6; clear hO6))
          go_ret2
          rw [Hm2.out]
        · rw [if_pos h60]
          exact OwnE.of (Kd.R_nil _ _ _ _ _) hB6
        · rw [if_neg h60]
          exact OwnE.of HO6.out hB6
      · have hm2 := Hm.out
        rw [hcl] at hm2
        simp only [if_true] at hm2
        rw [hm2]
        clear hm2 Hm
        go_enter Try.func38, Try.ntmps38
        go_wp2_with (first
            | (go_at_call 28; (with_reducible refine (ref_Formed l A ca srcs _ Hr.out hc).mono ?_); rintro e w1 ⟨rfl, hb1⟩)
            | (go_at_call 28; (with_reducible refine (ref_Formed m B cb srcs _ (news_later Hr2.out hb1) hc2).mono ?_); rintro e w2 ⟨rfl, hb2⟩; have hB2 := below_step hb1 hb2; have hr22 := Lib.hid (news_later Hr2.out hB2))
            | (at_builtin; refine Kd.R_append_rows kNews (w0 := w) w.heap.size rfl (.const (.slice none 0 0)) (.tmp 23) 22 38 (.agg #[(.int .i64 0), (.int .i64 0), (.int .i64 0), (.int .i64 0), (.int .i64 0), (.int .i64 0), (.int .i64 0)]) 56 rfl Try.underlying22 info_news rfl (by decide) (by omega) (.slice none 0 0) [] l _ _ _ (fun _ => True) (fun _ => False) rfl rfl ?aO ?aR (fun _ _ h => h) (fun _ h => h.elim) ?aF ?aB ?aS ?aL ?_; (case aO => exact Kd.R_nil _ _ _ _ _); (case aR => exact (news_later Hr.out hB2)); (case aF => exact (fun _ _ => trivial)); (case aB => exact hB2); (case aS => exact hB2.size); (case aL => (rw [List.length_nil]; omega)); intro v9 w9 ho9 hb9 hg9 hat9; rw [List.nil_append] at ho9; have hb9' := below_nil hg9)
            | (at_builtin; refine Kd.R_append_rows kNews (w0 := w) w.heap.size rfl (.tmp 24) (.tmp 25) 22 38 (.agg #[(.int .i64 0), (.int .i64 0), (.int .i64 0), (.int .i64 0), (.int .i64 0), (.int .i64 0), (.int .i64 0)]) 56 rfl Try.underlying22 info_news rfl (by decide) (by omega) _ l m _ _ _ (fun _ => True) (fun _ => False) rfl rfl ?aO ?aR (fun _ _ h => h) (fun _ h => h.elim) ?aF ?aB ?aS ?aL ?_; (case aO => exact ho9); (case aR => exact (Kd.C_below hr22.out hb9')); (case aF => exact (fun _ _ => trivial)); (case aB => exact hb9); (case aS => exact hb9.size); (case aL => omega); intro v10 w10 ho10 hB3 hg10 hat10; rw [Hbo.out] at ho10; obtain ⟨A3, c3, rfl, hc3, hr3⟩ := own_reads' ho10; have Hr3 := Lib.hid hr3; clear ho10 hr3 ho9 hg9 hat9 hg10 hat10)
            | (go_at_call 59; (with_reducible refine (ref_clash bo A3 c3 _ Hr3.out hc3).mono ?_); rintro e w4 ⟨i, k, b, rfl, hik, hb4⟩; have hB4 := below_trans hB3 (below_lower hb4 hB3.size); have hb' : b = true := (by have := congrArg (fun p => p.2.2) hik; simp only at this; rw [this, hcl]); subst hb'))
        go_ret2
        exact OwnE.of (Kd.R_nil _ _ _ _ _) hB4
/-- Whether two lists say the same. -/
def sameR (l m : List News) (srcs : Int) : Bool × Int := if formedB l srcs = true then (if formedB m srcs = true then (decide (leastR l = leastR m), 0) else (false, 2)) else (false, 2)
theorem marksTo_mem {M : List Int} {x : News} {k : Nat} : x ∈ marksTo M k ↔ ∃ s, s < k ∧ 0 < M.getD s 0 ∧ x = ⟨3, s, 0, 0, ⟨M.getD s 0, 0, 0⟩⟩ := by
  unfold marksTo
  rw [List.mem_flatMap]
  constructor
  · rintro ⟨s, hs, h⟩
    unfold markN at h
    split at h
    · rename_i hp
      exact ⟨s, by simpa using hs, hp, by simpa using h⟩
    · simp at h
  · rintro ⟨s, hs, hp, rfl⟩
    exact ⟨s, by simpa using hs, by simp only [markN, if_pos hp]; simp⟩
theorem marks_nonneg (l : List News) (s : Nat) : 0 ≤ (hearAll l).2.getD s 0 := by
  induction l using snoc_ind with
  | h0 =>
    have : (hearAll []).2 = [0, 0, 0, 0] := rfl
    rw [this]
    match s with
    | 0 | 1 | 2 | 3 => decide
    | n + 4 => simp
  | h1 l m ih =>
    rw [hearAll_snoc, hear]
    split
    · show 0 ≤ (hearM (hearAll l).2 m).getD s 0
      unfold hearM
      by_cases e : m.src.toNat = s
      · rw [e, List.getD_eq_getElem?_getD]
        by_cases hs : s < (hearAll l).2.length
        · rw [List.getElem?_set_self hs]
          simp only [Option.getD_some]
          omega
        · rw [List.getElem?_eq_none (by rw [List.length_set]; omega)]
          simp
      · rw [List.getD_eq_getElem?_getD, List.getElem?_set_ne e, ← List.getD_eq_getElem?_getD]
        exact ih
    · exact ih
theorem held_val (l : List News) : ∀ p ∈ (hearAll l).1, keyOf p.2 = p.1 ∧ p.2.do_ ≠ 3 := by
  rintro ⟨k, n⟩ hk
  obtain ⟨y, hy⟩ := aget_some (List.mem_map.2 ⟨(k, n), hk, rfl⟩ : k ∈ (hearAll l).1.map (·.1))
  have hyn : y = n := nodup_val (held_nodup l) (aget_mem hy) hk
  subst hyn
  rw [held_counts] at hy
  cases hc : cntOf l k with
  | none => rw [hc] at hy; cases hy
  | some q =>
    obtain ⟨i, m⟩ := q
    rw [hc] at hy
    obtain rfl : m = y := by simpa using hy
    exact ⟨(cnt_valid l k i m hc).2, cnt_notmark l k i m hc⟩
theorem mem_marks_of {l m : List News} (h : (leastL (hearAll l)).Perm (leastL (hearAll m))) (s : Nat) (hs : s < 4) (hp : 0 < (hearAll l).2.getD s 0) : (hearAll m).2.getD s 0 = (hearAll l).2.getD s 0 := by
  have h1 : (⟨3, s, 0, 0, ⟨(hearAll l).2.getD s 0, 0, 0⟩⟩ : News) ∈ leastL (hearAll l) := List.mem_append_right _ (marksTo_mem.2 ⟨s, hs, hp, rfl⟩)
  rcases List.mem_append.1 (h.mem_iff.1 h1) with h2 | h2
  · obtain ⟨p, hp2, e⟩ := List.mem_map.1 h2
    have := (held_val m p hp2).2
    rw [e] at this
    exact absurd rfl this
  · obtain ⟨t, ht, _, e⟩ := marksTo_mem.1 h2
    simp only [News.mk.injEq, Rec.mk.injEq] at e
    obtain ⟨_, e1, _, _, e2, _⟩ := e
    have : s = t := by omega
    subst this
    exact e2.symm
theorem perm_heard {l m : List News} (h : (leastL (hearAll l)).Perm (leastL (hearAll m))) : (hearAll l).2 = (hearAll m).2 ∧ (hearAll l).1.length = (hearAll m).1.length := by
  have e : ∀ s, s < 4 → (hearAll l).2.getD s 0 = (hearAll m).2.getD s 0 := fun s hs => by
    have p1 := marks_nonneg l s
    have p2 := marks_nonneg m s
    by_cases h1 : 0 < (hearAll l).2.getD s 0
    · exact (mem_marks_of h s hs h1).symm
    · by_cases h2 : 0 < (hearAll m).2.getD s 0
      · exact mem_marks_of h.symm s hs h2
      · omega
  have l1 := hearAll_mlen l
  have l2 := hearAll_mlen m
  have hM : (hearAll l).2 = (hearAll m).2 := by
    apply List.ext_getElem (by omega)
    intro s h1 h2
    have := e s (by omega)
    rw [List.getD_eq_getElem?_getD, List.getD_eq_getElem?_getD, List.getElem?_eq_getElem h1, List.getElem?_eq_getElem h2] at this
    simpa using this
  refine ⟨hM, ?_⟩
  have := h.length_eq
  unfold leastL at this
  rw [List.length_append, List.length_append, hM, List.length_map, List.length_map] at this
  omega
theorem hist_Same' (l m : List News) (A B : Option Addr) (c c2 : Nat) (srcs : Int) (w : World) (hr : NewsRow w A l.length l) (hc : l.length ≤ c) (hr2 : NewsRow w B m.length m) (hc2 : m.length ≤ c2) :
    Calls Try.prog 36 #[.slice A l.length c, .slice B m.length c2, .int .i64 srcs] w fun e w' => e = .returned (.tuple #[.bool (sameR l m srcs).1, .int .i64 (sameR l m srcs).2]) ∧ Below w.heap.size w w' := by
  refine (hist_Same l m A B c c2 srcs w hr hc hr2 hc2).mono ?_
  rintro e w' ⟨h1, h2, hb⟩
  refine ⟨?_, hb⟩
  cases hf : formedB l srcs
  · rw [h1 (by simp [hf])]
    simp [sameR, hf]
  · cases hf2 : formedB m srcs
    · rw [h1 (by simp [hf2])]
      simp [sameR, hf, hf2]
    · obtain ⟨r, rfl, h3⟩ := h2 (by simp [hf, hf2])
      have g1 := GoodAll.of hf
      have g2 := GoodAll.of hf2
      have hr : r = decide (leastR l = leastR m) := by
        rcases h3 with ⟨hn, rfl⟩ | ⟨_, _, ys1, ys2, s1, s2, rfl⟩
        · symm
          refine decide_eq_false fun he => hn ?_
          have p1 := (least_sort g1).1
          have p2 := (least_sort g2).1
          rw [he] at p1
          exact perm_heard (p1.symm.trans p2)
        · rw [least_one g1 ys1 s1, least_one g2 ys2 s2]
      rw [hr]
      simp [sameR, hf, hf2]
set_option maxRecDepth 100000 in
set_option maxHeartbeats 2000000 in
theorem ref_Same (l m : List News) (A B : Option Addr) (ca cb : Nat) (srcs : Int) (w : World) (hr : NewsRow w A l.length l) (hc : l.length ≤ ca) (hr2 : NewsRow w B m.length m) (hc2 : m.length ≤ cb) :
    Calls Try.prog 39 #[.slice A l.length ca, .slice B m.length cb, .int .i64 srcs] w fun e w' => e = .returned (.tuple #[.bool (sameR l m srcs).1, .int .i64 (sameR l m srcs).2]) ∧ Below w.heap.size w w' := by
  have Hr := Lib.hid hr
  have Hr2 := Lib.hid hr2
  clear hr hr2
  cases hf : formedB l srcs
  · have hm : sameR l m srcs = (false, 2) := by simp [sameR, hf]
    rw [hm]
    clear hm
    go_enter Try.func39, Try.ntmps39
    go_wp2_with (first | (go_at_call 28; (with_reducible refine (ref_Formed l A ca srcs _ Hr.out hc).mono ?_); rintro e w1 ⟨rfl, hb1⟩))
    go_ret2
    exact ⟨rfl, hb1⟩
  · cases hf2 : formedB m srcs
    · have hm : sameR l m srcs = (false, 2) := by simp [sameR, hf, hf2]
      rw [hm]
      clear hm
      go_enter Try.func39, Try.ntmps39
      go_wp2_with (first
        | (go_at_call 28; (with_reducible refine (ref_Formed l A ca srcs _ Hr.out hc).mono ?_); rintro e w1 ⟨rfl, hb1⟩)
        | (go_at_call 28; (with_reducible refine (ref_Formed m B cb srcs _ (news_later Hr2.out hb1) hc2).mono ?_); rintro e w2 ⟨rfl, hb2⟩))
      go_ret2
      exact ⟨rfl, below_step hb1 hb2⟩
    · have g1 := GoodAll.of hf
      have g2 := GoodAll.of hf2
      have hs1 := Lib.hid g1.srcs
      have hs2 := Lib.hid g2.srcs
      have Hg := Lib.hid g1.1
      have hll := (plainB_src (formedB_plain hf)).2.1
      have hml := (plainB_src (formedB_plain hf2)).2.1
      have hl2 : l.length ≤ 200 := by omega
      have hm2 : m.length ≤ 200 := by omega
      have hm : sameR l m srcs = (decide (leastR l = leastR m), 0) := by simp [sameR, hf, hf2]
      rw [hm]
      clear hm g1 g2
      generalize hx : leastR l = x
      generalize hy : leastR m = y
      have Hx := Lib.hid hx
      have Hy := Lib.hid hy
      clear hx hy
      go_enter Try.func39, Try.ntmps39
      go_wp2_with (first
        | (go_at_call 28; (with_reducible refine (ref_Formed l A ca srcs _ Hr.out hc).mono ?_); rintro e w1 ⟨rfl, hb1⟩)
        | (go_at_call 28; (with_reducible refine (ref_Formed m B cb srcs _ (news_later Hr2.out hb1) hc2).mono ?_); rintro e w2 ⟨rfl, hb2⟩; have hB2 := below_step hb1 hb2)
        | (go_at_call 54; (with_reducible refine (ref_LeastOf l A ca srcs _ (news_later Hr.out hB2) hc hl2 Hg.out.1 Hg.out.2 hs1.out).mono ?_); rintro e w3 ⟨v3, rfl, hO3, hb3⟩; rw [Hx.out] at hO3; have hB3 := below_step hB2 hb3; obtain ⟨A3, c3, rfl, _, hr3⟩ := own_reads' hO3; have Hr3 := Lib.hid hr3; clear hr3 hO3)
        | (go_at_call 54; (with_reducible refine (ref_LeastOf m B cb srcs _ (news_later Hr2.out hB3) hc2 hm2 Hg.out.1 Hg.out.2 hs2.out).mono ?_); rintro e w4 ⟨v4, rfl, hO4, hb4⟩; rw [Hy.out] at hO4; have hB4 := below_step hB3 hb4; obtain ⟨A4, c4, rfl, _, hr4⟩ := own_reads' hO4; have Hr4 := Lib.hid hr4; have Hr34 := Lib.hid (news_later Hr3.out hb4); clear hr4 hO4)
        | (go_at_call 23; (with_reducible refine (same_news x y _ _ _ _ _ Hr34.out Hr4.out).mono ?_); rintro e w5 ⟨rfl, hb5⟩))
      go_ret2
      exact ⟨rfl, below_step hB4 hb5⟩
end Go.Proofs.Ytdpkpibcjbllcaa
