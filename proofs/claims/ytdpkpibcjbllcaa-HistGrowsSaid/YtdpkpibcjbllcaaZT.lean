/-
  Texts of one hand, laid together: Any.
-/
import Derived.Test.YtdpkpibcjbllcaaZQ
set_option linter.unusedVariables false
set_option linter.unusedSimpArgs false
/-! In whatever order: plain; the program's functions at formed news. -/
namespace Go.Proofs.Ytdpkpibcjbllcaa
open Go.RowKit Go.Proofs.YtdpkpibcjbllcaaW.PrintWords

def stS (l : List News) : List Event := (outE l).foldr insE []
theorem foldr_insE (xs : List Event) : (xs.foldr insE []).Perm xs ∧ (xs.foldr insE []).Pairwise (fun a b => ¬ ltE b a) := by
  induction xs with
  | nil => exact ⟨List.Perm.refl _, List.Pairwise.nil⟩
  | cons x xs ih =>
    refine ⟨?_, insE_sorted x _ ih.2⟩
    exact (insE_perm x _).trans (ih.1.cons x)
theorem stS_sort (l : List News) : SortE (outE l) (stS l) := SortE_of _ _ (foldr_insE _).1 (foldr_insE _).2
theorem mem_outE_least {l : List News} {srcs : Int} (hg : GoodAll l srcs) (e : Event) : e ∈ outE l ↔ ∃ n ∈ leastR l, n.do_ = 1 ∧ e = ⟨n.src, n.id, n.body⟩ := by
  have hp := (least_sort hg).1
  rw [mem_outE]
  constructor
  · rintro ⟨k, n, h1, h2, rfl⟩
    have hm := aget_mem h1
    obtain ⟨hk, _⟩ := held_val l _ hm
    simp only at hk
    refine ⟨n, hp.mem_iff.2 (List.mem_append_left _ (List.mem_map.2 ⟨(k, n), hm, rfl⟩)), h2, ?_⟩
    rw [← hk]; rfl
  · rintro ⟨n, h1, h2, rfl⟩
    rcases List.mem_append.1 (hp.mem_iff.1 h1) with h | h
    · obtain ⟨⟨k, m⟩, hm, e⟩ := List.mem_map.1 h
      have e : m = n := e
      subst e
      obtain ⟨hk, _⟩ := held_val l _ hm
      simp only at hk
      obtain ⟨y, hy⟩ := aget_some (List.mem_map.2 ⟨(k, m), hm, rfl⟩ : k ∈ (hearAll l).1.map (·.1))
      have hym := nodup_val (held_nodup l) (aget_mem hy) hm
      subst hym
      exact ⟨k, y, hy, h2, by rw [← hk]; rfl⟩
    · obtain ⟨s, _, _, e⟩ := marksTo_mem.1 h
      rw [e] at h2
      simp at h2
theorem sort_same {l m : List News} {s1 s2 : Int} (h1 : GoodAll l s1) (h2 : GoodAll m s2) (h : leastR l = leastR m) {S : List Event} (hS : SortE (outE l) S) : SortE (outE m) S := by
  have hp : (outE l).Perm (outE m) := (List.perm_ext_iff_of_nodup (nodup_outE l) (nodup_outE m)).2 fun e => by rw [mem_outE_least h1, mem_outE_least h2, h]
  exact ⟨hS.1.trans hp, hS.2⟩
theorem marks_same {l m : List News} {s1 s2 : Int} (h1 : GoodAll l s1) (h2 : GoodAll m s2) (h : leastR l = leastR m) (srcs : Int) : marksOf m srcs = marksOf l srcs := by
  have p1 := (least_sort h1).1
  have p2 := (least_sort h2).1
  rw [h] at p1
  have := (perm_heard (p1.symm.trans p2)).1
  unfold marksOf
  rw [this]
theorem least_least {l : List News} {srcs : Int} (h : formedB l srcs = true) : leastR (leastR l) = leastR l ∧ formedB (leastR l) srcs = true := by
  obtain ⟨hg, hl, hn⟩ := (formed_iff l srcs).1 h
  have hlen := leastR_len l
  have hf : formedB (leastR l) srcs = true := (formed_iff _ _).2 ⟨leastR_good hg, by omega, leastR_clash hn⟩
  refine ⟨leastR_ext (leastR_good hg) hg (leastR_clash hn) hn fun x => ?_, hf⟩
  have e := best_best (U := l) (C := fun _ => False) hg (fun _ h => h.elim) x
  have e1 : Best (· ∈ leastR l) x ↔ Best (fun y => Best (· ∈ l) y ∨ False) x := best_congr (fun y => by rw [mem_leastR hg hn, or_false]) x
  have e2 : Best (fun y => y ∈ l ∨ False) x ↔ Best (· ∈ l) x := best_congr (fun y => by rw [or_false]) x
  rw [e1, e, e2]
/-- The same members, not too many. -/
theorem same_members {l m : List News} {srcs : Int} (h : formedB l srcs = true) (hm : ∀ x, x ∈ m ↔ x ∈ l) (hl : m.length ≤ 60) : formedB m srcs = true ∧ leastR l = leastR m := by
  obtain ⟨hg, _, hn⟩ := (formed_iff l srcs).1 h
  have hg2 : GoodAll m srcs := ⟨hg.1, fun x hx => hg.2 x ((hm x).1 hx)⟩
  have hn2 : NoClash m := fun x hx y hy => hn x ((hm x).1 hx) y ((hm y).1 hy)
  exact ⟨(formed_iff _ _).2 ⟨hg2, hl, hn2⟩, leastR_ext hg hg2 hn hn2 (best_congr fun x => (hm x).symm)⟩
theorem hist_StandsF (l : List News) (A : Option Addr) (c : Nat) (srcs : Int) (w : World) (hr : NewsRow w A l.length l) (hc : l.length ≤ c) (hf : formedB l srcs = true) (S : List Event) (hS : SortE (outE l) S) :
    Calls Try.prog 12 #[.slice A l.length c, .int .i64 srcs] w (OwnE kEvent 49 S 0 w) := by
  refine (hist_Stands l A c srcs w hr hc).mono ?_
  rintro e w' ⟨v, ys, rfl, hO, h1, h2, hb⟩
  have hy : ys = S := (h1 hf).uniq hS (outE_uniq l)
  rw [hy] at hO
  rw [hf]
  exact OwnE.of hO hb
theorem hist_MarksF (l : List News) (A : Option Addr) (c : Nat) (srcs : Int) (w : World) (hr : NewsRow w A l.length l) (hc : l.length ≤ c) (hf : formedB l srcs = true) (M : List Int) (hM : marksOf l srcs = M) :
    Calls Try.prog 14 #[.slice A l.length c, .int .i64 srcs] w (OwnE (Kd.int .i64) 3 M 0 w) := by
  refine (hist_Marks l A c srcs w hr hc).mono ?_
  rintro e w' ⟨v, rfl, hO, hb⟩
  rw [hf] at hO ⊢
  rw [← hM]
  exact OwnE.of hO hb
theorem hist_LeastS (l : List News) (A : Option Addr) (c : Nat) (srcs : Int) (w : World) (hr : NewsRow w A l.length l) (hc : l.length ≤ c) (hf : formedB l srcs = true) (L : List News) (hL : leastR l = L) :
    Calls Try.prog 21 #[.slice A l.length c, .int .i64 srcs] w (OwnE kNews 38 L 0 w) := by
  refine (hist_Least l A c srcs w hr hc).mono ?_
  rintro e w' ⟨v, ys, rfl, hO, h1, h2, hb⟩
  rw [least_one (GoodAll.of hf) ys (h1 hf), hL] at hO
  rw [hf]
  exact OwnE.of hO hb
theorem own_capE {α : Type} {d : Kd α} {e base n c : Nat} {w : World} {A : Option Addr} {xs : List α} (h : Own d e w base (.slice A n c) xs) : xs.length ≤ c := by
  obtain ⟨A', c', hv, hle, _⟩ := own_reads' h
  injection hv with _ _ e3
  omega
end Go.Proofs.Ytdpkpibcjbllcaa
