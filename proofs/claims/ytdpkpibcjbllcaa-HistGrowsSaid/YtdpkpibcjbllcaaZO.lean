/-
  Texts of one hand, laid together: SameP.
-/
import Derived.Test.YtdpkpibcjbllcaaZM
import Derived.Test.YtdpkpibcjbllcaaZI
set_option linter.unusedVariables false
set_option linter.unusedSimpArgs false
/-! Whether two lists say the same: the program. -/
namespace Go.Proofs.Ytdpkpibcjbllcaa
open Go.RowKit Go.Proofs.YtdpkpibcjbllcaaW.PrintWords PRef

/-- Whether two lists say the same. -/
def sameR (l m : List News) (srcs : Int) : Bool × Int := if formedB l srcs = true then (if formedB m srcs = true then (decide (leastR l = leastR m), 0) else (false, 2)) else (false, 2)
theorem marksTo_mem {M : List Int} {x : News} {k : Nat} : x ∈ marksTo M k ↔ ∃ s, s < k ∧ 0 < M.getD s 0 ∧ x = ⟨3, s, 0, 0, ⟨M.getD s 0, 0, 0⟩⟩ := by
  unfold marksTo
  rw [List.mem_flatMap]
  constructor
  · rintro ⟨s, hs, h⟩
    unfold markN at h
    split at h
    · rename_i hp
      exact ⟨s, by simpa using hs, hp, by simpa using h⟩
    · simp at h
  · rintro ⟨s, hs, hp, rfl⟩
    exact ⟨s, by simpa using hs, by simp only [markN, if_pos hp]; simp⟩
theorem marks_nonneg (l : List News) (s : Nat) : 0 ≤ (hearAll l).2.getD s 0 := by
  induction l using snoc_ind with
  | h0 =>
    have : (hearAll []).2 = [0, 0, 0, 0] := rfl
    rw [this]
    match s with
    | 0 | 1 | 2 | 3 => decide
    | n + 4 => simp
  | h1 l m ih =>
    rw [hearAll_snoc, hear]
    split
    · show 0 ≤ (hearM (hearAll l).2 m).getD s 0
      unfold hearM
      by_cases e : m.src.toNat = s
      · rw [e, List.getD_eq_getElem?_getD]
        by_cases hs : s < (hearAll l).2.length
        · rw [List.getElem?_set_self hs]
          simp only [Option.getD_some]
          omega
        · rw [List.getElem?_eq_none (by rw [List.length_set]; omega)]
          simp
      · rw [List.getD_eq_getElem?_getD, List.getElem?_set_ne e, ← List.getD_eq_getElem?_getD]
        exact ih
    · exact ih
theorem held_val (l : List News) : ∀ p ∈ (hearAll l).1, keyOf p.2 = p.1 ∧ p.2.do_ ≠ 3 := by
  rintro ⟨k, n⟩ hk
  obtain ⟨y, hy⟩ := aget_some (List.mem_map.2 ⟨(k, n), hk, rfl⟩ : k ∈ (hearAll l).1.map (·.1))
  have hyn : y = n := nodup_val (held_nodup l) (aget_mem hy) hk
  subst hyn
  rw [held_counts] at hy
  cases hc : cntOf l k with
  | none => rw [hc] at hy; cases hy
  | some q =>
    obtain ⟨i, m⟩ := q
    rw [hc] at hy
    obtain rfl : m = y := by simpa using hy
    exact ⟨(cnt_valid l k i m hc).2, cnt_notmark l k i m hc⟩
theorem mem_marks_of {l m : List News} (h : (leastL (hearAll l)).Perm (leastL (hearAll m))) (s : Nat) (hs : s < 4) (hp : 0 < (hearAll l).2.getD s 0) : (hearAll m).2.getD s 0 = (hearAll l).2.getD s 0 := by
  have h1 : (⟨3, s, 0, 0, ⟨(hearAll l).2.getD s 0, 0, 0⟩⟩ : News) ∈ leastL (hearAll l) := List.mem_append_right _ (marksTo_mem.2 ⟨s, hs, hp, rfl⟩)
  rcases List.mem_append.1 (h.mem_iff.1 h1) with h2 | h2
  · obtain ⟨p, hp2, e⟩ := List.mem_map.1 h2
    have := (held_val m p hp2).2
    rw [e] at this
    exact absurd rfl this
  · obtain ⟨t, ht, _, e⟩ := marksTo_mem.1 h2
    simp only [News.mk.injEq, Rec.mk.injEq] at e
    obtain ⟨_, e1, _, _, e2, _⟩ := e
    have : s = t := by omega
    subst this
    exact e2.symm
theorem perm_heard {l m : List News} (h : (leastL (hearAll l)).Perm (leastL (hearAll m))) : (hearAll l).2 = (hearAll m).2 ∧ (hearAll l).1.length = (hearAll m).1.length := by
  have e : ∀ s, s < 4 → (hearAll l).2.getD s 0 = (hearAll m).2.getD s 0 := fun s hs => by
    have p1 := marks_nonneg l s
    have p2 := marks_nonneg m s
    by_cases h1 : 0 < (hearAll l).2.getD s 0
    · exact (mem_marks_of h s hs h1).symm
    · by_cases h2 : 0 < (hearAll m).2.getD s 0
      · exact mem_marks_of h.symm s hs h2
      · omega
  have l1 := hearAll_mlen l
  have l2 := hearAll_mlen m
  have hM : (hearAll l).2 = (hearAll m).2 := by
    apply List.ext_getElem (by omega)
    intro s h1 h2
    have := e s (by omega)
    rw [List.getD_eq_getElem?_getD, List.getD_eq_getElem?_getD, List.getElem?_eq_getElem h1, List.getElem?_eq_getElem h2] at this
    simpa using this
  refine ⟨hM, ?_⟩
  have := h.length_eq
  unfold leastL at this
  rw [List.length_append, List.length_append, hM, List.length_map, List.length_map] at this
  omega
theorem hist_Same' (l m : List News) (A B : Option Addr) (c c2 : Nat) (srcs : Int) (w : World) (hr : NewsRow w A l.length l) (hc : l.length ≤ c) (hr2 : NewsRow w B m.length m) (hc2 : m.length ≤ c2) :
    Calls Try.prog 36 #[.slice A l.length c, .slice B m.length c2, .int .i64 srcs] w fun e w' => e = .returned (.tuple #[.bool (sameR l m srcs).1, .int .i64 (sameR l m srcs).2]) ∧ Below w.heap.size w w' := by
  refine (hist_Same l m A B c c2 srcs w hr hc hr2 hc2).mono ?_
  rintro e w' ⟨h1, h2, hb⟩
  refine ⟨?_, hb⟩
  cases hf : formedB l srcs
  · rw [h1 (by simp [hf])]
    simp [sameR, hf]
  · cases hf2 : formedB m srcs
    · rw [h1 (by simp [hf2])]
      simp [sameR, hf, hf2]
    · obtain ⟨r, rfl, h3⟩ := h2 (by simp [hf, hf2])
      have g1 := GoodAll.of hf
      have g2 := GoodAll.of hf2
      have hr : r = decide (leastR l = leastR m) := by
        rcases h3 with ⟨hn, rfl⟩ | ⟨_, _, ys1, ys2, s1, s2, rfl⟩
        · symm
          refine decide_eq_false fun he => hn ?_
          have p1 := (least_sort g1).1
          have p2 := (least_sort g2).1
          rw [he] at p1
          exact perm_heard (p1.symm.trans p2)
        · rw [least_one g1 ys1 s1, least_one g2 ys2 s2]
      rw [hr]
      simp [sameR, hf, hf2]
end Go.Proofs.Ytdpkpibcjbllcaa
