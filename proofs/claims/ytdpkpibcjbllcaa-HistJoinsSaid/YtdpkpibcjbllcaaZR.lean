/-
  Texts of one hand, laid together: Joins.
-/
import Derived.Test.YtdpkpibcjbllcaaZQ
set_option linter.unusedVariables false
set_option linter.unusedSimpArgs false
/-! Merges in any order: plain. -/
namespace Go.Proofs.Ytdpkpibcjbllcaa
open Go.RowKit Go.Proofs.YtdpkpibcjbllcaaW.PrintWords

theorem merge_of {l m : List News} {srcs : Int} (h1 : formedB l srcs = true) (h2 : formedB m srcs = true) : mergeR l m srcs = if (clashOf (l ++ m)).2.2 = true then ([], 7) else if 60 < (leastR (l ++ m)).length then ([], 3) else (leastR (l ++ m), 0) := by
  simp [mergeR, h1, h2]
theorem merge_kinds {l m : List News} {srcs : Int} (h1 : formedB l srcs = true) (h2 : formedB m srcs = true) : (mergeR l m srcs).2 = 7 ∨ (mergeR l m srcs).2 = 3 ∨ (mergeR l m srcs).2 = 0 := by
  rw [merge_of h1 h2]
  split
  · exact .inl rfl
  · split
    · exact .inr (.inl rfl)
    · exact .inr (.inr rfl)
theorem clash_comm (l m : List News) : (clashOf (l ++ m)).2.2 = (clashOf (m ++ l)).2.2 := by
  have e : NoClash (l ++ m) ↔ NoClash (m ++ l) := by
    unfold NoClash
    simp only [List.mem_append, or_comm]
  rw [Bool.eq_iff_iff, ← Bool.not_eq_false, ← Bool.not_eq_false, clashOf_iff, clashOf_iff, e]
theorem merge_comm {l m : List News} {srcs : Int} (h1 : formedB l srcs = true) (h2 : formedB m srcs = true) : mergeR l m srcs = mergeR m l srcs := by
  rw [merge_of h1 h2, merge_of h2 h1, clash_comm l m]
  cases hc : (clashOf (m ++ l)).2.2
  · have n1 := (clashOf_iff (m ++ l)).1 hc
    have n2 : NoClash (l ++ m) := (clashOf_iff (l ++ m)).1 (by rw [clash_comm]; exact hc)
    have e : leastR (l ++ m) = leastR (m ++ l) := leastR_ext ((GoodAll.of h1).append (GoodAll.of h2)) ((GoodAll.of h2).append (GoodAll.of h1)) n2 n1 (best_congr fun x => by simp only [List.mem_append, or_comm])
    rw [e]
  · rfl
theorem merge_self {l : List News} {srcs : Int} (h : formedB l srcs = true) : mergeR l l srcs = (leastR l, 0) := by
  obtain ⟨hg, hl, hn⟩ := (formed_iff l srcs).1 h
  have n2 : NoClash (l ++ l) := by
    intro x hx y hy
    exact hn x (by simpa using hx) y (by simpa using hy)
  have e : leastR (l ++ l) = leastR l := leastR_ext (hg.append hg) hg n2 hn (best_congr fun x => by simp)
  have := leastR_len l
  rw [merge_of h h, (clashOf_iff _).2 n2, e]
  simp only [Bool.false_eq_true, if_false]
  rw [if_neg (by omega)]
theorem merge_ok {l m : List News} {srcs : Int} (h1 : formedB l srcs = true) (h2 : formedB m srcs = true) (h0 : (mergeR l m srcs).2 = 0) : NoClash (l ++ m) ∧ (mergeR l m srcs).1 = leastR (l ++ m) ∧ formedB (mergeR l m srcs).1 srcs = true := by
  rw [merge_of h1 h2] at h0 ⊢
  cases hc : (clashOf (l ++ m)).2.2
  · rw [hc] at h0
    simp only [Bool.false_eq_true, if_false] at h0 ⊢
    have hn := (clashOf_iff _).1 hc
    by_cases h60 : 60 < (leastR (l ++ m)).length
    · rw [if_pos h60] at h0; cases h0
    · rw [if_neg h60]
      have hg := (GoodAll.of h1).append (GoodAll.of h2)
      exact ⟨hn, rfl, (formed_iff _ _).2 ⟨leastR_good hg, by show (leastR (l ++ m)).length ≤ 60; omega, leastR_clash hn⟩⟩
  · rw [hc] at h0
    cases h0
theorem merge_assoc {a b c : List News} {srcs : Int} (h1 : formedB a srcs = true) (h2 : formedB b srcs = true) (h3 : formedB c srcs = true) (e1 : (mergeR a b srcs).2 = 0) (e2 : (mergeR b c srcs).2 = 0)
    (e3 : (mergeR (mergeR a b srcs).1 c srcs).2 = 0) (e4 : (mergeR a (mergeR b c srcs).1 srcs).2 = 0) : (mergeR (mergeR a b srcs).1 c srcs).1 = (mergeR a (mergeR b c srcs).1 srcs).1 := by
  obtain ⟨n1, v1, f1⟩ := merge_ok h1 h2 e1
  obtain ⟨n2, v2, f2⟩ := merge_ok h2 h3 e2
  obtain ⟨n3, v3, _⟩ := merge_ok f1 h3 e3
  obtain ⟨n4, v4, _⟩ := merge_ok h1 f2 e4
  have ga := GoodAll.of h1
  have gb := GoodAll.of h2
  have gc := GoodAll.of h3
  rw [v3, v4]
  refine leastR_ext ((GoodAll.of f1).append gc) (ga.append (GoodAll.of f2)) n3 n4 fun x => ?_
  have p1 : Best (· ∈ (mergeR a b srcs).1 ++ c) x ↔ Best (fun y => y ∈ a ++ b ∨ y ∈ c) x := by
    rw [← best_best (ga.append gb) (fun y hy h3 => (good_mark (gc.2 y hy) h3).2)]
    refine best_congr (fun y => ?_) x
    rw [List.mem_append, v1, mem_leastR (ga.append gb) n1]
  have p2 : Best (· ∈ a ++ (mergeR b c srcs).1) x ↔ Best (fun y => y ∈ b ++ c ∨ y ∈ a) x := by
    rw [← best_best (gb.append gc) (fun y hy h3 => (good_mark (ga.2 y hy) h3).2)]
    refine best_congr (fun y => ?_) x
    rw [List.mem_append, v2, mem_leastR (gb.append gc) n2, or_comm]
  rw [p1, p2]
  refine best_congr (fun y => ?_) x
  simp only [List.mem_append]
  constructor
  · rintro ((h | h) | h)
    · exact .inr h
    · exact .inl (.inl h)
    · exact .inl (.inr h)
  · rintro ((h | h) | h)
    · exact .inl (.inr h)
    · exact .inr h
    · exact .inl (.inl h)
end Go.Proofs.Ytdpkpibcjbllcaa
