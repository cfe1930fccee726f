/-
  Texts of one hand, laid together: PiqLessA, PiqBridP, PiqBridW, PiqBridQ, PiqBack.
-/
import Derived.Test.YtemkloildadokaaZC
import Derived.Test.YtemkloildadokaaZH
import Derived.Test.YtemkloildadokaaZT
import Derived.Test.YtemkloildadokaaZB
set_option linter.unusedVariables false
set_option linter.unusedSimpArgs false
/-! An element is looked for. (Cut out of XPiqLess.) -/
namespace Go.Proofs.Ytemkloildadokaa
open Go.RowKit Go.Shelf Go.Proofs.YtemkloildadokaaW.PrintWords
theorem zElem_one : ∀ v ∈ zElem.cells, v.oneCell' = true := by
  intro v hv
  simp [zElem, Value.cells] at hv
  subst hv; rfl
set_option maxRecDepth 100000 in
set_option maxHeartbeats 4000000 in
theorem index_elem (A : Option Addr) (c : Nat) (l : List PElem) (x : PElem) (i : Nat) (w : World) (hrow : ElemRow w A l.length l) (hi : l[i]? = some x) (hb : ∀ j y, j < i → l[j]? = some y → y ≠ x) :
    Calls Try.prog 86 #[.slice A l.length c, .agg #[.int .i64 x.key, .int .i64 x.from_]] w fun e w' => e = .returned (.int .i64 i) ∧ Below w.heap.size w w' := by
  have hm : l.length ≤ 9223372036854775807 := hrow.2.1
  have hil : i < l.length := (List.getElem?_eq_some_iff.1 hi).1
  have HX := Lib.hid (Cells.new w #[.int .i64 x.key, .int .i64 x.from_] 58)
  have HB := Lib.hid (below_alloc (Below.refl w.heap.size w) (.cells #[.int .i64 x.key, .int .i64 x.from_] 58))
  have HR := Lib.hid (Kd.C_below hrow HB.out)
  have Hi := Lib.hid hi
  have Hb := Lib.hid hb
  clear hrow hi hb
  go_enter Try.func86, Try.ntmps86
  go_upto_region 1 with fail
  generalize w.alloc (.cells #[.int .i64 x.key, .int .i64 x.from_] 58) = w1 at HX HB HR ⊢
  go_wp2
  go_loopw [8] (fun v wr => ∃ k : Nat, k ≤ i ∧ v = .int .i64 k ∧ Below w1.heap.size w1 wr) (fun v _ => l.length - (intOf v).toNat)
  case atStart => exact ⟨0, Nat.zero_le _, rfl, Below.refl _ _⟩
  case round =>
    obtain ⟨k, hk, rfl, hB⟩ := hrel
    have HBr := Lib.hid hB
    clear hB
    have hkl : k < l.length := by omega
    have hkI : (k : Int) < (l.length : Int) := by omega
    obtain ⟨y, ad, hd, htk, hget, rfl, e0, e1⟩ := pelem_at (Kd.C_below HR.out HBr.out) k hkl
    have Hget := Lib.hid hget
    have E0 := Lib.hid e0
    have E1 := Lib.hid e1
    clear hd htk hget e0 e1
    go_upto_region 4 with fail
    by_cases hik : k = i
    · subst hik
      obtain rfl : x = y := by have := Hi.out; rw [Hget.out] at this; cases this; rfl
      have hq : pElemEq ⟨x.key, x.from_⟩ ⟨x.key, x.from_⟩ = true := by simp [pElemEq]
      refine wp_region_flow [.calm 0, .free 1, .free 2, .free 3, .calm 4, .free 5] (Below wr.heap.size wr) (Below wr.heap.size wr) (stable_below _ _ (Nat.le_refl _)) (fun _ h => h) (by kernel_rfl) (by kernel_rfl) (below_drew1 (Below.refl _ _)) ?_
      simp only [pickEnts, pickF, List.getElem?_cons_succ, List.getElem?_cons_zero, List.filterMap_cons, List.filterMap_nil, Option.map_some]
      repeat ((first | refine flow_calm (fun K hK => ?_) | refine flow_free (fun K hK => ?_) | refine float_calm (fun K hK => ?_) | refine float_free (fun K hK => ?_)); go_simp; first | (refine hK _ ?_; clear hK K) | (apply Exists.intro; (refine ⟨fun X => ?_, hK _ ?_⟩); (first | (intro hC; rfl) | rfl | (intro hC; have x0 := cell_keep hC.out E0.out; have x1 := cell_keep hC.out E1.out; have y := HX.out.later (below_step HBr.out hC.out); have y0 := y.cell 0 _ rfl; have y1 := y.cell 1 _ rfl; go_simp; done) | (intro hC; have x0 := cell_keep hC.out E0.out; have x1 := cell_keep hC.out E1.out; have y := HX.out.later (below_step HBr.out hC.out); have y0 := y.cell 0 _ rfl; have y1 := y.cell 1 _ rfl; go_simp; rfl)); clear hK K))
      refine flow_nil ?_
      intro Y hC
      have HY := Lib.hid (below_step HBr.out hC.out)
      clear hC
      go_wp2
      go_ret
      exact ⟨rfl, below_step HB.out HY.out⟩
    · have hne := Hb.out k y (by omega) Hget.out
      have hq : pElemEq ⟨x.key, x.from_⟩ ⟨y.key, y.from_⟩ = false := by simp only [pElemEq, decide_eq_false_iff_not]; exact fun e => hne e.symm
      clear hne
      refine wp_region_flow [.calm 0, .free 1, .free 2, .free 3, .calm 4, .free 5] (Below wr.heap.size wr) (Below wr.heap.size wr) (stable_below _ _ (Nat.le_refl _)) (fun _ h => h) (by kernel_rfl) (by kernel_rfl) (below_drew1 (Below.refl _ _)) ?_
      simp only [pickEnts, pickF, List.getElem?_cons_succ, List.getElem?_cons_zero, List.filterMap_cons, List.filterMap_nil, Option.map_some]
      repeat ((first | refine flow_calm (fun K hK => ?_) | refine flow_free (fun K hK => ?_) | refine float_calm (fun K hK => ?_) | refine float_free (fun K hK => ?_)); go_simp; first | (refine hK _ ?_; clear hK K) | (apply Exists.intro; (refine ⟨fun X => ?_, hK _ ?_⟩); (first | (intro hC; rfl) | rfl | (intro hC; have x0 := cell_keep hC.out E0.out; have x1 := cell_keep hC.out E1.out; have y := HX.out.later (below_step HBr.out hC.out); have y0 := y.cell 0 _ rfl; have y1 := y.cell 1 _ rfl; go_simp; done) | (intro hC; have x0 := cell_keep hC.out E0.out; have x1 := cell_keep hC.out E1.out; have y := HX.out.later (below_step HBr.out hC.out); have y0 := y.cell 0 _ rfl; have y1 := y.cell 1 _ rfl; go_simp; rfl)); clear hK K))
      refine flow_nil ?_
      intro Y hC
      have HY := Lib.hid (below_step HBr.out hC.out)
      clear hC
      go_wp2
      exact ⟨⟨k + 1, by omega, by go_num, HY.out⟩, by simp [intOf]; omega⟩
end Go.Proofs.Ytemkloildadokaa
set_option linter.unusedVariables false
set_option linter.unusedSimpArgs false
/-! What a change leaves at the end is told by bridges: no program in sight. -/
namespace Go.Proofs.Ytemkloildadokaa
/-- The element that a walk ends with. -/
def lastX : List PElem → List PElem → PElem → List PStep → PElem
  | _, _, x, [] => x
  | M, L, x, s :: S => match nextE M s, nextE L s with
    | some (M', m), some (L', l) => if s.do_ = 2 ∧ m = x then lastX M' L' l S else lastX M' L' x S
    | _, _ => x
theorem spans_last : ∀ (S : List PStep) (M L : List PElem) (x : PElem) (f lo : Int), (∀ s ∈ S, lo < s.at_) → incB S = true → OneMore (lo + 1) x M L → (runE L S).isSome = true →
    ∃ d, (spansS M L x f S).getLast? = some d ∧ d.elem = lastX M L x S
  | [], M, L, x, f, lo, _, _, _, _ => ⟨_, rfl, rfl⟩
  | s :: S, M, L, x, f, lo, h1, h2, h3, h4 => by
    obtain ⟨j1, j2⟩ := inc_cons h2
    have hs := h1 s (by simp)
    rw [runE] at h4
    cases hn : nextE L s with
    | none => rw [hn] at h4; cases h4
    | some p =>
      obtain ⟨L', l⟩ := p
      rw [hn] at h4
      obtain ⟨M', m, x', hm, hone, hx⟩ := h3.step (by omega) hn
      rw [spansS, lastX, hm, hn]
      simp only
      by_cases hc : s.do_ = 2 ∧ m = x
      · rw [if_pos hc] at hx ⊢
        rw [if_pos hc]
        obtain ⟨rfl, -⟩ := hx
        obtain ⟨d, h5, h6⟩ := spans_last S M' L' x' s.at_ s.at_ j1 j2 hone h4
        refine ⟨d, ?_, h6⟩
        rw [List.getLast?_cons, h5]; rfl
      · rw [if_neg hc] at hx ⊢
        rw [if_neg hc]
        subst hx
        exact spans_last S M' L' x' f s.at_ j1 j2 hone h4
/-- A step that takes finds the smaller one of the two. -/
theorem more_take {t : Int} {x : PElem} {M L L' M' : List PElem} {s : PStep} {l m : PElem} (h : OneMore t x M L) (h2 : s.do_ = 2) (hl : nextE L s = some (L', l)) (hm : nextE M s = some (M', m)) :
    (m = x ∧ eltB x l = true ∧ M' = L ∧ L = l :: L') ∨ (m = l ∧ eltB l x = true ∧ m ≠ x) := by
  unfold nextE at hl hm
  rw [if_pos h2] at hl hm
  cases L with
  | nil => cases hl
  | cons y0 L0 =>
    obtain ⟨rfl, rfl⟩ : L0 = L' ∧ y0 = l := by simpa using hl
    have hyx : y0 ≠ x := fun e => h.new (by rw [e]; simp)
    rw [h.eq] at hm
    by_cases hlt : eltB y0 x = true
    · rw [insE, if_pos hlt] at hm
      obtain ⟨-, rfl⟩ : insE x L0 = M' ∧ y0 = m := by simpa using hm
      exact .inr ⟨rfl, hlt, hyx⟩
    · rw [insE, if_neg hlt] at hm
      obtain ⟨rfl, rfl⟩ : y0 :: L0 = M' ∧ x = m := by simpa using hm
      exact .inl ⟨rfl, elt_total hyx (by simpa using hlt), rfl, rfl⟩
theorem tks_cons_out {q : List PElem} {y : PElem} {s : PStep} {S : List PStep} (h2 : s.do_ = 2) : tksE (y :: q) (s :: S) = y :: tksE q S := by
  have hn : nextE (y :: q) s = some (q, y) := by simp [nextE, h2]
  unfold tksE
  rw [doneE, hn]
  simp [h2]
theorem tks_cons_in {q : List PElem} {s : PStep} {S : List PStep} (h2 : s.do_ ≠ 2) : tksE q (s :: S) = tksE (insE ⟨s.key, s.at_⟩ q) S := by
  have hn : nextE q s = some (insE ⟨s.key, s.at_⟩ q, ⟨s.key, s.at_⟩) := by simp [nextE, h2]
  unfold tksE
  rw [doneE, hn]
  simp [h2]
/-- One more: the walk ends with the greatest of what is taken, and of what came. -/
theorem more_last : ∀ (S : List PStep) (M L : List PElem) (x : PElem) (lo : Int), (∀ s ∈ S, lo < s.at_) → incB S = true → OneMore (lo + 1) x M L → (runE L S).isSome = true →
    (lastX M L x S = x ∨ lastX M L x S ∈ tksE L S) ∧ (x = lastX M L x S ∨ eltB x (lastX M L x S) = true) ∧ ∀ y ∈ tksE L S, y = lastX M L x S ∨ eltB y (lastX M L x S) = true
  | [], M, L, x, lo, _, _, _, _ => ⟨.inl rfl, .inl rfl, fun y hy => by simp [tksE, doneE] at hy⟩
  | s :: S, M, L, x, lo, h1, h2, h3, h4 => by
    obtain ⟨j1, j2⟩ := inc_cons h2
    have hs := h1 s (by simp)
    rw [runE] at h4
    cases hn : nextE L s with
    | none => rw [hn] at h4; cases h4
    | some p =>
      obtain ⟨L', l⟩ := p
      rw [hn] at h4
      obtain ⟨M', m, x', hm, hone, hx⟩ := h3.step (by omega) hn
      rw [lastX, hm, hn]
      simp only
      by_cases hd : s.do_ = 2
      · have htk : tksE L (s :: S) = l :: tksE L' S := by
          unfold nextE at hn
          rw [if_pos hd] at hn
          cases L with
          | nil => cases hn
          | cons y0 L0 =>
            obtain ⟨rfl, rfl⟩ : L0 = L' ∧ y0 = l := by simpa using hn
            exact tks_cons_out hd
        rw [htk]
        rcases more_take h3 hd hn hm with ⟨a1, a2, -, -⟩ | ⟨a1, a2, a3⟩
        · rw [if_pos ⟨hd, a1⟩] at hx ⊢
          obtain ⟨rfl, -⟩ := hx
          obtain ⟨b1, b2, b3⟩ := more_last S M' L' x' s.at_ j1 j2 hone h4
          refine ⟨.inr ?_, .inr ?_, fun y hy => ?_⟩
          · rcases b1 with b1 | b1
            · rw [b1]; simp
            · exact List.mem_cons_of_mem _ b1
          · rcases b2 with b2 | b2
            · rw [← b2]; exact a2
            · exact elt_trans a2 b2
          · rcases List.mem_cons.1 hy with rfl | hy
            · exact b2
            · exact b3 y hy
        · rw [if_neg fun e => a3 e.2] at hx ⊢
          subst hx
          obtain ⟨b1, b2, b3⟩ := more_last S M' L' x' s.at_ j1 j2 hone h4
          refine ⟨?_, b2, fun y hy => ?_⟩
          · rcases b1 with b1 | b1
            · exact .inl b1
            · exact .inr (List.mem_cons_of_mem _ b1)
          · rcases List.mem_cons.1 hy with rfl | hy
            · rcases b2 with b2 | b2
              · rw [← b2]; exact .inr a2
              · exact .inr (elt_trans a2 b2)
            · exact b3 y hy
      · have htk : tksE L (s :: S) = tksE L' S := by
          rw [tks_cons_in hd]
          unfold nextE at hn
          rw [if_neg hd] at hn
          obtain ⟨rfl, -⟩ : insE ⟨s.key, s.at_⟩ L = L' ∧ _ = l := by simpa using hn
          rfl
        rw [htk]
        rw [if_neg fun e => hd e.1] at hx ⊢
        subst hx
        exact more_last S M' L' x' s.at_ j1 j2 hone h4
section
variable {l : List PStep}
theorem there_run (h : lineB l = true) (i : Nat) : runE [] (l.take i) = some (thereE l i) := by
  obtain ⟨q, hq, -⟩ := run_take (P := l.take i) (S := l.drop i) (by rw [List.take_append_drop]; exact (line_of h).run)
  rw [thereE, hq]; rfl
theorem there_rest (h : lineB l = true) (i : Nat) : runE (thereE l i) (l.drop i) = some (thereE l l.length) := by
  have h1 := there_run h l.length
  rw [List.take_length] at h1
  have h2 := run_append [] (l.take i) (l.drop i)
  rw [List.take_append_drop, there_run h i, h1] at h2
  exact h2.symm
theorem there_end (h : lineB l = true) : atE l 1000 = thereE l l.length := by
  obtain ⟨q, h1, h2, -⟩ := at_end (line_of h)
  rw [h2, thereE, List.take_length, h1]; rfl
theorem there_sorted (h : lineB l = true) (i : Nat) : SortedE (thereE l i) := by
  have g := line_of h
  have hi := g.inc
  rw [← List.take_append_drop i l] at hi
  exact (run_there (t := 1001) (.nil 0) (inc_append hi).1 (fun s hs => ⟨(g.steps s (List.mem_of_mem_take hs)).1, by have := (g.steps s (List.mem_of_mem_take hs)).2.1; omega⟩) (by omega) (there_run h i)).sorted
theorem rest_perm (h : lineB l = true) (i : Nat) : (tksE (thereE l i) (l.drop i) ++ thereE l l.length).Perm (thereE l i ++ cameE (l.drop i)) :=
  tks_perm _ _ _ (fun s hs => by have := ((line_of h).steps s (List.mem_of_mem_drop hs)).2.2; omega) (there_rest h i)
theorem pre_perm (h : lineB l = true) (i : Nat) : (tksE [] (l.take i) ++ thereE l i).Perm (cameE (l.take i)) := by
  have := tks_perm _ _ _ (fun s hs => by have := ((line_of h).steps s (List.mem_of_mem_take hs)).2.2; omega) (there_run h i)
  simpa using this
theorem takes_parts (h : lineB l = true) (i : Nat) : takesE l = tksE [] (l.take i) ++ tksE (thereE l i) (l.drop i) := by
  rw [takesE_tks]
  conv => lhs; rw [← List.take_append_drop i l]
  exact tks_append (there_run h i)
theorem took_not_end (h : lineB l = true) {i : Nat} {y : PElem} (hy : y ∈ tksE (thereE l i) (l.drop i)) : y ∉ thereE l l.length := by
  have hn := taken_nodup h
  rw [there_end h, takes_parts h i] at hn
  exact fun e => (List.nodup_append.1 hn).2.2 y (List.mem_append.2 (.inr hy)) y e rfl
theorem took_not_end' (h : lineB l = true) {i : Nat} {y : PElem} (hy : y ∈ tksE [] (l.take i)) : y ∉ thereE l l.length := by
  have hn := taken_nodup h
  rw [there_end h, takes_parts h i] at hn
  exact fun e => (List.nodup_append.1 hn).2.2 y (List.mem_append.2 (.inl hy)) y e rfl
theorem gone_took (h : lineB l = true) {i : Nat} {y : PElem} (hy : y ∈ thereE l i ∨ y ∈ cameE (l.drop i)) (hg : y ∉ thereE l l.length) : y ∈ tksE (thereE l i) (l.drop i) := by
  have := (rest_perm h i).mem_iff.2 (List.mem_append.2 hy)
  rcases List.mem_append.1 this with h1 | h1
  · exact h1
  · exact absurd h1 hg
theorem bridge_iff (m : Nat) : bridgeB l m = true ↔ ∀ x ∈ thereE l m, x ∈ thereE l l.length := by
  simp [bridgeB, List.all_eq_true]
theorem not_bridge {m : Nat} (hb : bridgeB l m = false) : ∃ z ∈ thereE l m, z ∉ thereE l l.length := by
  simp only [bridgeB, List.all_eq_false, List.contains_iff_mem] at hb
  obtain ⟨z, h1, h2⟩ := hb
  exact ⟨z, h1, by simpa using h2⟩
theorem there_step (h : lineB l = true) {i : Nat} {s : PStep} (hi : l[i]? = some s) : ∃ x, nextE (thereE l i) s = some (thereE l (i + 1), x) := by
  have h1 := there_run h (i + 1)
  rw [(split_at hi).2, run_append, there_run h i, Option.bind_some, runE] at h1
  cases hn : nextE (thereE l i) s with
  | none => rw [hn] at h1; cases h1
  | some p =>
    obtain ⟨q, x⟩ := p
    rw [hn] at h1
    have : q = thereE l (i + 1) := by simpa [runE] using h1
    exact ⟨x, by rw [this]⟩
theorem drop_at {i : Nat} {s : PStep} (hi : l[i]? = some s) : l.drop i = s :: l.drop (i + 1) := by
  have hlt := (List.getElem?_eq_some_iff.1 hi).1
  rw [← (List.getElem?_eq_some_iff.1 hi).2, List.getElem_cons_drop]
/-- What is taken from a place on. -/
def tookE (l : List PStep) (i : Nat) : List PElem := tksE (thereE l i) (l.drop i)
theorem took_out (h : lineB l = true) {i : Nat} {s : PStep} (hi : l[i]? = some s) (h2 : s.do_ = 2) : ∃ y, thereE l i = y :: thereE l (i + 1) ∧ tookE l i = y :: tookE l (i + 1) := by
  obtain ⟨x, hx⟩ := there_step h hi
  unfold nextE at hx
  rw [if_pos h2] at hx
  cases hq : thereE l i with
  | nil => rw [hq] at hx; cases hx
  | cons y q =>
    rw [hq] at hx
    have e : q = thereE l (i + 1) := by
      have := Option.some.inj hx
      exact (Prod.mk.inj this).1
    refine ⟨y, by rw [e], ?_⟩
    rw [tookE, hq, drop_at hi, tks_cons_out h2, e]; rfl
theorem took_in (h : lineB l = true) {i : Nat} {s : PStep} (hi : l[i]? = some s) (h2 : s.do_ ≠ 2) : thereE l (i + 1) = insE ⟨s.key, s.at_⟩ (thereE l i) ∧ tookE l i = tookE l (i + 1) := by
  obtain ⟨x, hx⟩ := there_step h hi
  unfold nextE at hx
  rw [if_neg h2] at hx
  have e : insE ⟨s.key, s.at_⟩ (thereE l i) = thereE l (i + 1) := (Prod.mk.inj (Option.some.inj hx)).1
  refine ⟨e.symm, ?_⟩
  rw [tookE, drop_at hi, tks_cons_in h2, e]; rfl
/-- What is taken between the last bridge and a place is less than something that is taken later. -/
theorem between (h : lineB l = true) {B p : Nat} (hp : p ≤ l.length) (hnb : ∀ j, B < j → j ≤ p → bridgeB l j = false) : ∀ (n k : Nat), p - k = n → B ≤ k → k ≤ p → ∀ y ∈ tookE l k, y ∈ tookE l p ∨ ∃ z ∈ tookE l p, eltB y z = true
  | 0, k, hn, hB, hk, y, hy => by
    obtain rfl : k = p := by omega
    exact .inl hy
  | n + 1, k, hn, hB, hk, y, hy => by
    have hkl : k < l.length := by omega
    have hi : l[k]? = some l[k] := List.getElem?_eq_getElem hkl
    by_cases h2 : l[k].do_ = 2
    · obtain ⟨y0, e1, e2⟩ := took_out h hi h2
      rw [e2] at hy
      rcases List.mem_cons.1 hy with rfl | hy
      · obtain ⟨z, hz1, hz2⟩ := not_bridge (hnb (k + 1) (by omega) (by omega))
        have hs := there_sorted h k
        rw [e1] at hs
        have hyz := hs.1 z hz1
        have hz3 : z ∈ tookE l (k + 1) := gone_took h (.inl hz1) hz2
        rcases between h hp hnb n (k + 1) (by omega) (by omega) (by omega) z hz3 with h3 | ⟨z', h3, h4⟩
        · exact .inr ⟨z, h3, hyz⟩
        · exact .inr ⟨z', h3, elt_trans hyz h4⟩
      · exact between h hp hnb n (k + 1) (by omega) (by omega) (by omega) y hy
    · rw [(took_in h hi h2).2] at hy
      exact between h hp hnb n (k + 1) (by omega) (by omega) (by omega) y hy
theorem took_later (h : lineB l = true) {k p : Nat} (hk : k ≤ p) (hp : p ≤ l.length) {y : PElem} : ∀ (n : Nat), p - k = n → y ∈ tookE l p → y ∈ tookE l k := by
  intro n
  induction n generalizing k with
  | zero => intro hn hy; obtain rfl : k = p := by omega
            exact hy
  | succ n ih =>
    intro hn hy
    have hkl : k < l.length := by omega
    have hi : l[k]? = some l[k] := List.getElem?_eq_getElem hkl
    have h1 := ih (k := k + 1) (by omega) (by omega) hy
    by_cases h2 : l[k].do_ = 2
    · obtain ⟨y0, e1, e2⟩ := took_out h hi h2
      rw [e2]; exact List.mem_cons_of_mem _ h1
    · rw [(took_in h hi h2).2]; exact h1
/-- What came since the last bridge and is gone: the greatest of it is the greatest of what is taken from the place on. -/
theorem since_bridge (h : lineB l = true) {B p : Nat} (hp : p ≤ l.length) (hB : B ≤ p) (hb : bridgeB l B = true) (hnb : ∀ j, B < j → j ≤ p → bridgeB l j = false) :
    (∀ y ∈ tookE l p, y ∈ cameE (l.drop B) ∧ y ∉ thereE l l.length) ∧ ∀ y ∈ cameE (l.drop B), y ∉ thereE l l.length → y ∈ tookE l p ∨ ∃ z ∈ tookE l p, eltB y z = true := by
  refine ⟨fun y hy => ?_, fun y hy hg => ?_⟩
  · have h1 := took_later h hB hp (p - B) rfl hy
    have hg := took_not_end h h1
    refine ⟨?_, hg⟩
    have := (rest_perm h B).mem_iff.1 (List.mem_append.2 (.inl h1))
    rcases List.mem_append.1 this with h2 | h2
    · exact absurd ((bridge_iff B).1 hb y h2) hg
    · exact h2
  · exact between h hp hnb (p - B) B rfl (Nat.le_refl _) hB y (gone_took h (.inr hy) hg)
/-- What stands ahead is taken ahead. -/
theorem take_order : ∀ (S : List PStep) (M : List PElem) (x z : PElem), SortedE M → x ∈ M → z ∈ M → eltB x z = true → (∀ s ∈ S, (⟨s.key, s.at_⟩ : PElem) ∉ M) → incB S = true → z ∈ tksE M S → x ∈ tksE M S
  | [], M, x, z, _, _, _, _, _, _, hz => by simp [tksE, doneE] at hz
  | s :: S, M, x, z, hs, hx, hz, hxz, hn, hi, ht => by
    obtain ⟨j1, j2⟩ := inc_cons hi
    by_cases h2 : s.do_ = 2
    · cases M with
      | nil => cases hx
      | cons y q =>
        rw [tks_cons_out h2] at ht ⊢
        rcases List.mem_cons.1 hx with rfl | hx'
        · simp
        · have hzq : z ∈ q := by
            rcases List.mem_cons.1 hz with rfl | hz
            · have := hs.1 x hx'; rw [elt_asymm this] at hxz; cases hxz
            · exact hz
          have hzy : z ≠ y := fun e => by have := hs.1 z hzq; rw [e, elt_irrefl] at this; cases this
          refine List.mem_cons_of_mem _ (take_order S q x z hs.2 hx' hzq hxz (fun u hu hm => hn u (List.mem_cons_of_mem _ hu) (List.mem_cons_of_mem _ hm)) j2 ?_)
          rcases List.mem_cons.1 ht with e | ht
          · exact absurd e hzy
          · exact ht
    · rw [tks_cons_in h2] at ht ⊢
      refine take_order S _ x z (hs.ins (hn s (by simp))) ((mem_ins _ _ _).2 (.inr hx)) ((mem_ins _ _ _).2 (.inr hz)) hxz (fun u hu hm => ?_) j2 ht
      rcases (mem_ins _ _ _).1 hm with e | hm
      · have := j1 u hu; simp at e; omega
      · exact hn u (List.mem_cons_of_mem _ hu) hm
theorem there_order (h : lineB l = true) {i : Nat} {x z : PElem} (hx : x ∈ thereE l i) (hz : z ∈ thereE l i) (hxz : eltB x z = true) (hg : z ∉ thereE l l.length) : x ∉ thereE l l.length := by
  have g := line_of h
  have hi := g.inc
  rw [← List.take_append_drop i l] at hi
  obtain ⟨i1, i2, i3⟩ := inc_append hi
  have hnew : ∀ s ∈ l.drop i, (⟨s.key, s.at_⟩ : PElem) ∉ thereE l i := fun s hs hm => by
    have hth : ThereE s.at_ (thereE l i) := run_there (.nil 0) i1 (fun y hy => ⟨(g.steps y (List.mem_of_mem_take hy)).1, i3 y hy s hs⟩) (g.steps s (List.mem_of_mem_drop hs)).1 (there_run h i)
    have := hth.early _ hm
    simp at this
  exact took_not_end h (take_order _ _ x z (there_sorted h i) hx hz hxz hnew i2 (gone_took h (.inl hz) hg))
/-- One less, walked along the line itself. -/
theorem less_stay (h : lineB l = true) : ∀ (n a : Nat) (L : List PElem) (x : PElem) (lo : Int), l.length - a = n → (∀ s ∈ l.drop a, lo < s.at_) → OneMore (lo + 1) x (thereE l a) L → (runE L (l.drop a)).isSome = true → x ∉ tookE l a → lastX (thereE l a) L x (l.drop a) = x
  | 0, a, L, x, lo, hn, _, _, _, _ => by rw [List.drop_eq_nil_iff.2 (by omega)]; rfl
  | n + 1, a, L, x, lo, hn, hlo, ho, hr, hx => by
    have hal : a < l.length := by omega
    have hi : l[a]? = some l[a] := List.getElem?_eq_getElem hal
    have hinc := (line_of h).inc
    rw [← List.take_append_drop a l, drop_at hi] at hinc
    obtain ⟨j1, j2⟩ := inc_cons (inc_append hinc).2.1
    rw [drop_at hi] at hr hlo ⊢
    have hs := hlo l[a] List.mem_cons_self
    rw [runE] at hr
    cases hl : nextE L l[a] with
    | none => rw [hl] at hr; cases hr
    | some p =>
      obtain ⟨L', y⟩ := p
      rw [hl] at hr
      obtain ⟨M', m, x', hm, hone, hx'⟩ := ho.step (by omega) hl
      have hM : M' = thereE l (a + 1) := by
        obtain ⟨_, e⟩ := there_step h hi
        rw [e] at hm
        exact (Prod.mk.inj (Option.some.inj hm)).1.symm
      rw [lastX, hm, hl]
      simp only
      subst hM
      by_cases h2 : l[a].do_ = 2
      · obtain ⟨y0, e1, e2⟩ := took_out h hi h2
        have hm0 : m = y0 := by
          have := hm
          unfold nextE at this
          rw [if_pos h2, e1] at this
          exact (Prod.mk.inj (Option.some.inj this)).2.symm
        rw [e2, List.mem_cons, not_or] at hx
        have hne : ¬ (l[a].do_ = 2 ∧ m = x) := fun e => hx.1 (by rw [← hm0, e.2])
        rw [if_neg hne] at hx' ⊢
        subst hx'
        exact less_stay h n (a + 1) L' x' _ (by omega) j1 hone hr hx.2
      · rw [(took_in h hi h2).2] at hx
        rw [if_neg fun e => h2 e.1] at hx' ⊢
        subst hx'
        exact less_stay h n (a + 1) L' x' _ (by omega) j1 hone hr hx
structure IsFirst (l : List PStep) (a F : Nat) : Prop where
  le : a ≤ F
  lt : F ≤ l.length
  is : bridgeB l F = true
  no : ∀ j, a ≤ j → j < F → bridgeB l j = false
theorem IsFirst.next {a F : Nat} (h : IsFirst l a F) (hb : bridgeB l a = false) : IsFirst l (a + 1) F := by
  have : a ≠ F := fun e => by rw [e, h.is] at hb; cases hb
  have := h.le
  exact ⟨by omega, h.lt, h.is, fun j hj => h.no j (by omega)⟩
theorem IsFirst.here {a F : Nat} (h : IsFirst l a F) (hb : bridgeB l a = true) : F = a := by
  rcases Nat.lt_or_ge a F with h1 | h1
  · have := h.no a (Nat.le_refl _) h1; rw [hb] at this; cases this
  · have := h.le; omega
/-- What is first at a place: taken, or the place is a bridge. -/
theorem head_bridge (h : lineB l = true) {a : Nat} {x : PElem} (hx : (thereE l a).head? = some x) (hg : x ∉ tookE l a) : bridgeB l a = true := by
  cases hb : bridgeB l a with
  | true => rfl
  | false =>
    exfalso
    obtain ⟨z, hz1, hz2⟩ := not_bridge hb
    cases hq : thereE l a with
    | nil => rw [hq] at hx; cases hx
    | cons y q =>
      have hs := there_sorted h a
      rw [hq] at hx hs hz1
      obtain rfl : y = x := by simpa using hx
      have hxm : y ∈ thereE l a := by rw [hq]; simp
      rcases List.mem_cons.1 hz1 with rfl | hz1
      · exact hg (gone_took h (.inl hxm) hz2)
      · exact hg (gone_took h (.inl hxm) (there_order h hxm (by rw [hq]; exact List.mem_cons_of_mem _ hz1) (hs.1 z hz1) hz2))
theorem less_last (h : lineB l = true) : ∀ (n a F : Nat) (L : List PElem) (x : PElem) (lo : Int), l.length - a = n → IsFirst l a F → (∀ s ∈ l.drop a, lo < s.at_) → OneMore (lo + 1) x (thereE l a) L → (runE L (l.drop a)).isSome = true → x ∈ tookE l a → (thereE l F).head? = some (lastX (thereE l a) L x (l.drop a))
  | 0, a, F, L, x, lo, hn, _, _, _, _, hx => by
    rw [tookE, List.drop_eq_nil_iff.2 (by omega)] at hx
    simp [tksE, doneE] at hx
  | n + 1, a, F, L, x, lo, hn, hF, hlo, ho, hr, hx => by
    have hal : a < l.length := by omega
    have hi : l[a]? = some l[a] := List.getElem?_eq_getElem hal
    have hinc := (line_of h).inc
    rw [← List.take_append_drop a l, drop_at hi] at hinc
    obtain ⟨j1, j2⟩ := inc_cons (inc_append hinc).2.1
    have hxM : x ∈ thereE l a := by rw [ho.eq]; exact (mem_ins x x L).2 (.inl rfl)
    have hnb : bridgeB l a = false := by
      cases hb : bridgeB l a with
      | false => rfl
      | true => exact absurd ((bridge_iff a).1 hb x hxM) (took_not_end h hx)
    have hF' := hF.next hnb
    rw [drop_at hi] at hr hlo ⊢
    have hs := hlo l[a] List.mem_cons_self
    rw [runE] at hr
    cases hl : nextE L l[a] with
    | none => rw [hl] at hr; cases hr
    | some p =>
      obtain ⟨L', y⟩ := p
      rw [hl] at hr
      obtain ⟨M', m, x', hm, hone, hx'⟩ := ho.step (by omega) hl
      have hM : M' = thereE l (a + 1) := by
        obtain ⟨_, e⟩ := there_step h hi
        rw [e] at hm
        exact (Prod.mk.inj (Option.some.inj hm)).1.symm
      rw [lastX, hm, hl]
      simp only
      subst hM
      by_cases h2 : l[a].do_ = 2
      · obtain ⟨y0, e1, e2⟩ := took_out h hi h2
        have hm0 : m = y0 := by
          have := hm
          unfold nextE at this
          rw [if_pos h2, e1] at this
          exact (Prod.mk.inj (Option.some.inj this)).2.symm
        rcases more_take ho h2 hl hm with ⟨a1, a2, a3, a4⟩ | ⟨a1, a2, a3⟩
        · rw [if_pos ⟨h2, a1⟩] at hx' ⊢
          obtain ⟨rfl, -⟩ := hx'
          have hhd : (thereE l (a + 1)).head? = some x' := by rw [a3, a4]; rfl
          by_cases ht : x' ∈ tookE l (a + 1)
          · exact less_last h n (a + 1) F L' x' _ (by omega) hF' j1 hone hr ht
          · have hb := head_bridge h hhd ht
            rw [hF'.here hb, less_stay h n (a + 1) L' x' _ (by omega) j1 hone hr ht]
            exact hhd
        · rw [if_neg fun e => a3 e.2] at hx' ⊢
          subst hx'
          rw [e2] at hx
          refine less_last h n (a + 1) F L' x' _ (by omega) hF' j1 hone hr ?_
          rcases List.mem_cons.1 hx with e | hx
          · exact absurd (hm0.trans e.symm) a3
          · exact hx
      · rw [(took_in h hi h2).2] at hx
        rw [if_neg fun e => h2 e.1] at hx' ⊢
        subst hx'
        exact less_last h n (a + 1) F L' x' _ (by omega) hF' j1 hone hr hx
/-- What came ahead of a bridge and is there at the end: the first one of it. -/
theorem ahead_bridge (h : lineB l = true) {F : Nat} {g : PElem} (hb : bridgeB l F = true) (hg : (thereE l F).head? = some g) :
    (g ∈ cameE (l.take F) ∧ g ∈ thereE l l.length) ∧ ∀ y ∈ cameE (l.take F), y ∈ thereE l l.length → y = g ∨ eltB g y = true := by
  cases hq : thereE l F with
  | nil => rw [hq] at hg; cases hg
  | cons y0 q =>
    have hs := there_sorted h F
    rw [hq] at hg hs
    obtain rfl : y0 = g := by simpa using hg
    have hm : y0 ∈ thereE l F := by rw [hq]; simp
    refine ⟨⟨(pre_perm h F).mem_iff.1 (List.mem_append.2 (.inr hm)), (bridge_iff F).1 hb y0 hm⟩, fun y hy he => ?_⟩
    have := (pre_perm h F).mem_iff.2 hy
    rcases List.mem_append.1 this with h1 | h1
    · exact absurd he (took_not_end' h h1)
    · rw [hq] at h1
      rcases List.mem_cons.1 h1 with e | h1
      · exact .inl e
      · exact .inr (hs.1 y h1)
end
end Go.Proofs.Ytemkloildadokaa
set_option linter.unusedVariables false
set_option linter.unusedSimpArgs false
/-! Whether a list holds an element; elements are struck from a list of its own; the greatest and the least one. (Printed by gen_piqbridw.py.) -/
namespace Go.Proofs.Ytemkloildadokaa
open Go.RowKit Go.Shelf Go.Proofs.YtemkloildadokaaW.PrintWords
theorem first_at {P : PElem → Bool} : ∀ (l : List PElem), ∃ k, k ≤ l.length ∧ (∀ j y, j < k → l[j]? = some y → P y = false) ∧ (∀ y, l[k]? = some y → P y = true)
  | [] => ⟨0, Nat.le_refl _, fun j y h => absurd h (Nat.not_lt_zero _), fun y h => by simp at h⟩
  | x :: l => by
    by_cases hx : P x = true
    · refine ⟨0, Nat.zero_le _, fun j y h => absurd h (Nat.not_lt_zero _), fun y h => ?_⟩
      obtain rfl : x = y := by simpa using h
      exact hx
    · obtain ⟨k, h1, h2, h3⟩ := first_at (P := P) l
      refine ⟨k + 1, by rw [List.length_cons]; omega, fun j y hj hy => ?_, fun y hy => h3 y (by simpa using hy)⟩
      cases j with
      | zero =>
        obtain rfl : x = y := by simpa using hy
        simpa using hx
      | succ j => exact h2 j y (by omega) (by simpa using hy)
set_option maxRecDepth 100000 in
set_option maxHeartbeats 4000000 in
theorem index_none (A : Option Addr) (c : Nat) (l : List PElem) (x : PElem) (w : World) (hrow : ElemRow w A l.length l) (hb : x ∉ l) :
    Calls Try.prog 86 #[.slice A l.length c, .agg #[.int .i64 x.key, .int .i64 x.from_]] w fun e w' => e = .returned (.int .i64 (-1)) ∧ Below w.heap.size w w' := by
  have hm : l.length ≤ 9223372036854775807 := hrow.2.1
  have HX := Lib.hid (Cells.new w #[.int .i64 x.key, .int .i64 x.from_] 58)
  have HB := Lib.hid (below_alloc (Below.refl w.heap.size w) (.cells #[.int .i64 x.key, .int .i64 x.from_] 58))
  have HR := Lib.hid (Kd.C_below hrow HB.out)
  have Hb := Lib.hid hb
  clear hrow hb
  go_enter Try.func86, Try.ntmps86
  go_upto_region 1 with fail
  generalize w.alloc (.cells #[.int .i64 x.key, .int .i64 x.from_] 58) = w1 at HX HB HR ⊢
  go_wp2
  go_loopw [8] (fun v wr => ∃ k : Nat, k ≤ l.length ∧ v = .int .i64 k ∧ Below w1.heap.size w1 wr) (fun v _ => l.length - (intOf v).toNat)
  case atStart => exact ⟨0, Nat.zero_le _, rfl, Below.refl _ _⟩
  case round =>
    obtain ⟨k, hk, rfl, hB⟩ := hrel
    have HBr := Lib.hid hB
    clear hB
    by_cases hkl : k < l.length
    · have hkI : (k : Int) < (l.length : Int) := by omega
      obtain ⟨y, ad, hd, htk, hget, rfl, e0, e1⟩ := pelem_at (Kd.C_below HR.out HBr.out) k hkl
      have hne : y ≠ x := fun e => Hb.out (by rw [← e]; exact List.mem_of_getElem? hget)
      have E0 := Lib.hid e0
      have E1 := Lib.hid e1
      have hq : pElemEq ⟨x.key, x.from_⟩ ⟨y.key, y.from_⟩ = false := by simp only [pElemEq, decide_eq_false_iff_not]; exact fun e => hne e.symm
      clear hd htk hget e0 e1 hne
      go_upto_region 4 with fail
      refine wp_region_flow [.calm 0, .free 1, .free 2, .free 3, .calm 4, .free 5] (Below wr.heap.size wr) (Below wr.heap.size wr) (stable_below _ _ (Nat.le_refl _)) (fun _ h => h) (by kernel_rfl) (by kernel_rfl) (below_drew1 (Below.refl _ _)) ?_
      simp only [pickEnts, pickF, List.getElem?_cons_succ, List.getElem?_cons_zero, List.filterMap_cons, List.filterMap_nil, Option.map_some]
      repeat ((first | refine flow_calm (fun K hK => ?_) | refine flow_free (fun K hK => ?_) | refine float_calm (fun K hK => ?_) | refine float_free (fun K hK => ?_)); go_simp; first | (refine hK _ ?_; clear hK K) | (apply Exists.intro; (refine ⟨fun X => ?_, hK _ ?_⟩); (first | (intro hC; rfl) | rfl | (intro hC; have x0 := cell_keep hC.out E0.out; have x1 := cell_keep hC.out E1.out; have y := HX.out.later (below_step HBr.out hC.out); have y0 := y.cell 0 _ rfl; have y1 := y.cell 1 _ rfl; go_simp; done) | (intro hC; have x0 := cell_keep hC.out E0.out; have x1 := cell_keep hC.out E1.out; have y := HX.out.later (below_step HBr.out hC.out); have y0 := y.cell 0 _ rfl; have y1 := y.cell 1 _ rfl; go_simp; rfl)); clear hK K))
      refine flow_nil ?_
      intro Y hC
      have HY := Lib.hid (below_step HBr.out hC.out)
      clear hC
      go_wp2
      exact ⟨⟨k + 1, by omega, by go_num, HY.out⟩, by simp [intOf]; omega⟩
    · go_wp2
      go_ret
      exact ⟨rfl, below_step HB.out HBr.out⟩
set_option maxRecDepth 100000 in
set_option maxHeartbeats 4000000 in
theorem contains_elem (A : Option Addr) (n c : Nat) (l : List PElem) (x : PElem) (w : World) (hn : n = l.length) (hrow : ElemRow w A n l) :
    Calls Try.prog 57 #[.slice A n c, .agg #[.int .i64 x.key, .int .i64 x.from_]] w fun e w' => e = .returned (.bool (l.contains x)) ∧ Below w.heap.size w w' := by
  subst hn
  have HX := Lib.hid (Cells.new w #[.int .i64 x.key, .int .i64 x.from_] 58)
  have HB := Lib.hid (below_alloc (Below.refl w.heap.size w) (.cells #[.int .i64 x.key, .int .i64 x.from_] 58))
  have HR := Lib.hid (Kd.C_below hrow HB.out)
  clear hrow
  by_cases hx : x ∈ l
  · obtain ⟨k, h1, h2, h3⟩ := first_at (P := fun y => decide (y = x)) l
    have hkl : k < l.length := by
      rcases Nat.lt_or_ge k l.length with h | h
      · exact h
      · obtain ⟨j, hj⟩ := List.getElem?_of_mem hx
        have := h2 j x (by have := (List.getElem?_eq_some_iff.1 hj).1; omega) hj
        simp at this
    have hk : l[k]? = some x := by
      have := h3 _ (List.getElem?_eq_getElem hkl)
      rw [List.getElem?_eq_getElem hkl, of_decide_eq_true this]
    have HI := Lib.hid (fun W h => index_elem A c l x k W h hk (fun j y hj hy e => by have := h2 j y hj hy; simp [e] at this))
    rw [List.contains_iff_mem.2 hx]
    clear hx h1 h2 h3 hk
    go_enter Try.func57, Try.ntmps57
    go_upto_region 1 with fail
    generalize w.alloc (.cells #[.int .i64 x.key, .int .i64 x.from_] 58) = w1 at HX HB HR ⊢
    have x0 := HX.out.cell 0 _ rfl
    have x1 := HX.out.cell 1 _ rfl
    go_wp2_with (go_at_call 86; (with_reducible refine (HI.out w1 HR.out).mono ?_); rintro e w2 ⟨rfl, hb2⟩)
    go_ret
    exact ⟨rfl, below_step HB.out hb2⟩
  · have hc : l.contains x = false := by simpa using hx
    have HI := Lib.hid (fun W h => index_none A c l x W h hx)
    rw [hc]
    clear hx hc
    go_enter Try.func57, Try.ntmps57
    go_upto_region 1 with fail
    generalize w.alloc (.cells #[.int .i64 x.key, .int .i64 x.from_] 58) = w1 at HX HB HR ⊢
    have x0 := HX.out.cell 0 _ rfl
    have x1 := HX.out.cell 1 _ rfl
    go_wp2_with (go_at_call 86; (with_reducible refine (HI.out w1 HR.out).mono ?_); rintro e w2 ⟨rfl, hb2⟩)
    go_ret
    exact ⟨rfl, below_step HB.out hb2⟩
/-- What the closures look at: what is there at the end, and the first one of them. -/
structure EndAt (w : World) (b1 b2 : Nat) (A : Option Addr) (n c : Nat) (q : List PElem) : Prop where
  c1 : Cells w b1 #[.slice A n c] 23
  c2 : Cells w b2 #[.func (.func 56) #[] #[.pointer (some ⟨b1, 0, none⟩)]] 84
  row : ElemRow w A n q
  len : n = q.length
theorem EndAt.later {w w' : World} {b1 b2 : Nat} {A : Option Addr} {n c : Nat} {q : List PElem} (h : EndAt w b1 b2 A n c q) (hb : Below w.heap.size w w') : EndAt w' b1 b2 A n c q := ⟨h.c1.later hb, h.c2.later hb, Kd.C_below h.row hb, h.len⟩
set_option maxRecDepth 100000 in
set_option maxHeartbeats 4000000 in
theorem gone1 (x : PElem) (b1 b2 : Nat) (A : Option Addr) (n c : Nat) (q : List PElem) (w : World) (h : EndAt w b1 b2 A n c q) :
    Calls Try.prog 56 #[.agg #[.int .i64 x.key, .int .i64 x.from_], .pointer (some ⟨b1, 0, none⟩)] w fun e w' => e = .returned (.bool (!(q.contains x))) ∧ Below w.heap.size w w' := by
  have HX := Lib.hid (Cells.new w #[.int .i64 x.key, .int .i64 x.from_] 58)
  have HB := Lib.hid (below_alloc (Below.refl w.heap.size w) (.cells #[.int .i64 x.key, .int .i64 x.from_] 58))
  have HE := Lib.hid (h.later HB.out)
  have HC := Lib.hid (fun W h => contains_elem A n c q x W HE.out.len h)
  obtain ⟨b, hb⟩ : ∃ b, b = q.contains x := ⟨_, rfl⟩
  rw [← hb] at HC ⊢
  clear h hb
  go_enter Try.func56, Try.ntmps56
  go_upto_region 1 with fail
  generalize w.alloc (.cells #[.int .i64 x.key, .int .i64 x.from_] 58) = w1 at HX HB HE ⊢
  have x0 := HX.out.cell 0 _ rfl
  have x1 := HX.out.cell 1 _ rfl
  have e0 := HE.out.c1.cell 0 _ rfl
  go_wp2_with (go_at_call 57; (with_reducible refine (HC.out w1 HE.out.row).mono ?_); rintro e w2 ⟨rfl, hb2⟩)
  go_ret
  exact ⟨rfl, below_step HB.out hb2⟩
set_option maxRecDepth 100000 in
set_option maxHeartbeats 4000000 in
theorem gone2 (x : PElem) (b1 b2 : Nat) (A : Option Addr) (n c : Nat) (q : List PElem) (w : World) (h : EndAt w b1 b2 A n c q) :
    Calls Try.prog 59 #[.agg #[.int .i64 x.key, .int .i64 x.from_], .pointer (some ⟨b2, 0, none⟩)] w fun e w' => e = .returned (.bool (q.contains x)) ∧ Below w.heap.size w w' := by
  have HX := Lib.hid (Cells.new w #[.int .i64 x.key, .int .i64 x.from_] 58)
  have HB := Lib.hid (below_alloc (Below.refl w.heap.size w) (.cells #[.int .i64 x.key, .int .i64 x.from_] 58))
  have HE := Lib.hid (h.later HB.out)
  have HC := Lib.hid (fun W h => gone1 x b1 b2 A n c q W h)
  obtain ⟨b, hb⟩ : ∃ b, b = q.contains x := ⟨_, rfl⟩
  rw [← hb] at HC ⊢
  clear h hb
  go_enter Try.func59, Try.ntmps59
  go_upto_region 1 with fail
  generalize w.alloc (.cells #[.int .i64 x.key, .int .i64 x.from_] 58) = w1 at HX HB HE ⊢
  have x0 := HX.out.cell 0 _ rfl
  have x1 := HX.out.cell 1 _ rfl
  have e0 := HE.out.c2.cell 0 _ rfl
  go_wp2_with (go_at_call 56; (with_reducible refine (HC.out w1 HE.out).mono ?_); rintro e w2 ⟨rfl, hb2⟩)
  go_ret
  exact ⟨by simp, below_step HB.out hb2⟩
/-- What is kept of a row, and what is still to be looked at. -/
structure StruckI (D : PElem → Bool) (xs ys : List PElem) (i j : Nat) : Prop where
  lt : i < j
  le : j ≤ xs.length
  len : ys.length = xs.length
  done : ys.take i = (xs.take j).filter (fun y => !(D y))
  todo : ys.drop j = xs.drop j
theorem StruckI.at_ {D : PElem → Bool} {xs ys : List PElem} {i j : Nat} (h : StruckI D xs ys i j) (hj : j < xs.length) : ∃ x, ys[j]? = some x ∧ xs[j]? = some x := by
  have h1 : (ys.drop j)[0]? = (xs.drop j)[0]? := by rw [h.todo]
  rw [List.getElem?_drop, List.getElem?_drop, Nat.add_zero] at h1
  exact ⟨xs[j], by rw [h1, List.getElem?_eq_getElem hj], List.getElem?_eq_getElem hj⟩
theorem StruckI.skip {D : PElem → Bool} {xs ys : List PElem} {i j : Nat} {x : PElem} (h : StruckI D xs ys i j) (hx : xs[j]? = some x) (hp : D x = true) : StruckI D xs ys i (j + 1) := by
  have hj := (List.getElem?_eq_some_iff.1 hx).1
  refine ⟨by have := h.lt; omega, hj, h.len, ?_, ?_⟩
  · rw [List.take_succ_eq_append_getElem hj, (List.getElem?_eq_some_iff.1 hx).2, List.filter_append, h.done]
    simp [hp]
  · have := h.todo
    rw [← List.tail_drop, ← List.tail_drop, this]
theorem StruckI.keep {D : PElem → Bool} {xs ys : List PElem} {i j : Nat} {x : PElem} (h : StruckI D xs ys i j) (hx : xs[j]? = some x) (hp : D x = false) : StruckI D xs (ys.set i x) (i + 1) (j + 1) := by
  have hj := (List.getElem?_eq_some_iff.1 hx).1
  have hi : i < ys.length := by have := h.lt; have := h.len; omega
  refine ⟨by have := h.lt; omega, hj, by rw [List.length_set]; exact h.len, ?_, ?_⟩
  · rw [List.take_succ_eq_append_getElem hj, (List.getElem?_eq_some_iff.1 hx).2, List.filter_append, ← h.done, List.take_succ_eq_append_getElem (by rw [List.length_set]; exact hi), List.getElem_set_self, List.take_set_of_le (Nat.le_refl _)]
    congr 1
    simp only [List.filter_cons, List.filter_nil]
    rw [hp]; rfl
  · have := h.todo
    rw [List.drop_set_of_lt (by have := h.lt; omega), ← List.tail_drop, ← List.tail_drop, this]
theorem struck_start {D : PElem → Bool} {xs : List PElem} {k : Nat} (hk : k < xs.length) (h1 : ∀ j y, j < k → xs[j]? = some y → D y = false) (h2 : ∀ y, xs[k]? = some y → D y = true) : StruckI D xs xs k (k + 1) := by
  refine ⟨Nat.lt_succ_self _, hk, rfl, ?_, rfl⟩
  rw [List.take_succ_eq_append_getElem hk, List.filter_append, List.filter_eq_self.2]
  · have := h2 _ (List.getElem?_eq_getElem hk)
    simp only [List.filter_cons, List.filter_nil]
    rw [this]; simp
  · intro y hy
    obtain ⟨j, hj⟩ := List.getElem?_of_mem hy
    have hjk : j < k := by have := (List.getElem?_eq_some_iff.1 hj).1; rw [List.length_take] at this; omega
    rw [List.getElem?_take_of_lt hjk] at hj
    rw [h1 j y hjk hj]; rfl
set_option maxRecDepth 100000 in
set_option maxHeartbeats 4000000 in
theorem index_gone1 (B : Option Addr) (m d : Nat) (l : List PElem) (b1 b2 : Nat) (A : Option Addr) (n c : Nat) (q : List PElem) (k : Nat) (w : World) (hm : m = l.length) (hrow : ElemRow w B m l) (h : EndAt w b1 b2 A n c q) (hk : k ≤ m) (h1 : ∀ j y, j < k → l[j]? = some y → (!(q.contains y)) = false) (h2 : ∀ y, l[k]? = some y → (!(q.contains y)) = true) :
    Calls Try.prog 93 #[.slice B m d, .func (.func 56) #[] #[.pointer (some ⟨b1, 0, none⟩)]] w fun e w' => e = .returned (.int .i64 (if k < m then (k : Int) else -1)) ∧ Below w.heap.size w w' := by
  have hmx : m ≤ 9223372036854775807 := hrow.2.1
  have HR := Lib.hid hrow
  have HE := Lib.hid h
  have H1 := Lib.hid h1
  have H2 := Lib.hid h2
  have Hm := Lib.hid hm
  clear hrow h h1 h2 hm
  go_enter Try.func93, Try.ntmps93
  go_wp2
  go_loopw [8] (fun i wr => ∃ j : Nat, j ≤ k ∧ i = .int .i64 j ∧ Below w.heap.size w wr) (fun i _ => m - (intOf i).toNat)
  case atStart => exact ⟨0, Nat.zero_le _, rfl, Below.refl _ _⟩
  case round =>
    obtain ⟨j, hj, rfl, hB⟩ := hrel
    have HBr := Lib.hid hB
    clear hB
    by_cases hlt : j < m
    · obtain ⟨x, ad, hd, htk, hget, rfl, e0, e1⟩ := pelem_at (Kd.C_below HR.out HBr.out) j hlt
      have HC := Lib.hid (gone1 x b1 b2 A n c q wr (HE.out.later HBr.out))
      have Hget := Lib.hid hget
      clear hd htk hget
      by_cases hjk : j = k
      · subst hjk
        have hp := H2.out x Hget.out
        rw [show (!(q.contains x)) = true from hp] at HC
        clear hp
        go_wp2_with (go_at_call 56; (with_reducible refine HC.out.mono ?_); rintro e w2 ⟨rfl, hb2⟩)
        go_ret
        exact ⟨rfl, below_step HBr.out hb2⟩
      · have hp := H1.out j x (by omega) Hget.out
        rw [show (!(q.contains x)) = false from hp] at HC
        have hjk2 : j + 1 ≤ k := by omega
        clear hp hjk
        go_wp2_with (go_at_call 56; (with_reducible refine HC.out.mono ?_); rintro e w2 ⟨rfl, hb2⟩)
        exact ⟨⟨j + 1, hjk2, by go_num, below_step HBr.out hb2⟩, by simp [intOf]; omega⟩
    · have hkm : ¬ k < m := by omega
      go_wp2
      go_ret
      exact ⟨rfl, HBr.out⟩
set_option maxRecDepth 100000 in
set_option maxHeartbeats 8000000 in
theorem lib_struck1 (h0 : Nat) (v : Value) (xs : List PElem) (b1 b2 : Nat) (A : Option Addr) (n c : Nat) (q : List PElem) (w0 w : World) (hE : EndAt w0 b1 b2 A n c q) (hh0 : h0 = w0.heap.size) (hb : Below w0.heap.size w0 w) (ho : Own kPElem 58 w h0 v xs) (hl : xs.length ≤ 60) :
    Calls Try.prog 58 #[v, .func (.func 56) #[] #[.pointer (some ⟨b1, 0, none⟩)]] w fun e w' => ∃ v1, e = .returned v1 ∧ Own kPElem 58 w' h0 v1 (xs.filter (fun y => !(!(q.contains y)))) ∧ Below h0 w w' := by
  subst hh0
  obtain ⟨B, d, rfl, hd, hrow⟩ := own_reads' ho
  obtain ⟨k, hk1, hk2, hk3⟩ := first_at (P := fun y => (!(q.contains y))) xs
  have HE := Lib.hid hE
  have HB := Lib.hid hb
  have HO := Lib.hid ho
  have HI := Lib.hid (index_gone1 B xs.length d xs b1 b2 A n c q k w rfl hrow (hE.later hb) hk1 hk2 hk3)
  have hbs : w0.heap.size ≤ w.heap.size := hb.size
  obtain ⟨R, hR⟩ : ∃ R, R = xs.filter (fun y => !(!(q.contains y))) := ⟨_, rfl⟩
  rw [← hR]
  have HRr := Lib.hid hR
  clear hrow hE hb ho hR
  by_cases hkl : k < xs.length
  · have HS := Lib.hid (struck_start (D := fun y => (!(q.contains y))) hkl hk2 hk3)
    rw [if_pos hkl] at HI
    have hkn : ¬ ((k : Int) == -1) = true := by simp only [beq_iff_eq]; omega
    have hkn' : ((k : Int) == -1) = false := by simp only [beq_eq_false_iff_ne]; omega
    have hwk : IntKind.i64.wrap ((k : Int) + 1) = (k : Int) + 1 := IntWalk.i64_in _ (by omega)
    clear hk2 hk3 hk1
    go_enter Try.func58, Try.ntmps58
    go_wp2_with (go_at_call 93; (with_reducible refine HI.out.mono ?_); rintro e w2 ⟨rfl, hb2⟩; have HB2 := Lib.hid hb2; clear hb2)
    clear hkn hkn' hwk
    go_loopw [5, 6] (fun iv jv wr => ∃ (i j : Nat) (ys : List PElem), iv = .int .i64 i ∧ jv = .int .i64 j ∧ Hid (StruckI (fun y => (!(q.contains y))) xs ys i j) ∧ Own kPElem 58 wr w0.heap.size (.slice B xs.length d) ys ∧ Below w0.heap.size w wr) (fun iv jv _ => xs.length - (intOf jv).toNat)
    case atStart => exact ⟨k, k + 1, xs, rfl, by go_num, HS, Kd.R_below HO.out HB2.out, HB2.out.mono hbs⟩
    case round =>
      obtain ⟨i, j, ys, rfl, rfl, HSt, hO, hB⟩ := hrel
      have HOr := Lib.hid hO
      have HBr := Lib.hid hB
      have hij := HSt.out.lt
      have hjl := HSt.out.le
      have Hlen := Lib.hid HSt.out.len
      clear hO hB
      by_cases hlt : j < xs.length
      · obtain ⟨x, hx1, hx2⟩ := HSt.out.at_ hlt
        obtain ⟨g, hA1, hg0, hgl, cx, gf⟩ := own_cellsK kPElem pelemCells (fun _ _ _ h => kPElem_open h) (fun _ => rfl) HOr.out hx1
        subst hA1
        have e0 : wr.cell? ⟨g, j * 2, none⟩ = some (.int .i64 x.key) := cx 0 _ rfl
        have e1 : wr.cell? ⟨g, j * 2 + 1, none⟩ = some (.int .i64 x.from_) := cx 1 _ rfl
        have Hx2 := Lib.hid hx2
        have hjI : (j : Int) < (xs.length : Int) := by omega
        have hiI : (i : Int) < (xs.length : Int) := by omega
        have hiN : i < xs.length := by omega
        have hjn : j + 1 ≤ xs.length := hlt
        have Hadd := Lib.hid (fun k => add_plain g k)
        clear cx hx1 hx2
        go_upto_region 8 with fail
        have HX := Lib.hid (Cells.new wr #[.int .i64 x.key, .int .i64 x.from_] 58)
        have hba := below_alloc (Below.refl wr.heap.size wr) (.cells #[.int .i64 x.key, .int .i64 x.from_] 58)
        have HO9 := Lib.hid (Kd.R_below HOr.out hba)
        have HB9 := Lib.hid (HBr.out.trans (hba.mono (Nat.le_trans hbs HBr.out.size)))
        clear hba e0 e1 gf
        generalize wr.alloc (.cells #[.int .i64 x.key, .int .i64 x.from_] 58) = w9 at HX HO9 HB9 ⊢
        have x0 := HX.out.cell 0 _ rfl
        have x1 := HX.out.cell 1 _ rfl
        have HC := Lib.hid (gone1 x b1 b2 A n c q w9 (HE.out.later (HB.out.trans HB9.out)))
        cases hp : (!(q.contains x)) with
        | true =>
          have HS2 := Lib.hid (HSt.out.skip Hx2.out hp)
          rw [hp] at HC
          clear hp
          go_wp2_with (go_at_call 56; (with_reducible refine HC.out.mono ?_); rintro e w10 ⟨rfl, hb10⟩; have HB10 := Lib.hid hb10; clear hb10)
          exact ⟨⟨i, j + 1, ys, rfl, by go_num, HS2, Kd.R_below HO9.out HB10.out, HB9.out.trans (HB10.out.mono (Nat.le_trans hbs HB9.out.size))⟩, by simp [intOf]; omega⟩
        | false =>
          have HS2 := Lib.hid (HSt.out.keep Hx2.out hp)
          rw [hp] at HC
          clear hp
          go_upto_region 9 with (go_at_call 56; (with_reducible refine HC.out.mono ?_); rintro e w10 ⟨rfl, hb10⟩; have HO10 := Lib.hid (Kd.R_below HO9.out hb10); have HB10 := Lib.hid (HB9.out.trans (hb10.mono (Nat.le_trans hbs HB9.out.size))); have hx10 := HX.out.later hb10; have x0 := hx10.cell 0 _ rfl; have x1 := hx10.cell 1 _ rfl; clear hb10 hx10)
          obtain ⟨z, hz⟩ : ∃ z, ys[i]? = some z := ⟨_, List.getElem?_eq_getElem (by have := Hlen.out; omega)⟩
          obtain ⟨g', hA', _, hgl', cz, gf⟩ := own_cellsK kPElem pelemCells (fun _ _ _ h => kPElem_open h) (fun _ => rfl) HO10.out hz
          cases hA'
          have z0 : w10.cell? ⟨g, i * 2, none⟩ = some (.int .i64 z.key) := cz 0 _ rfl
          have z1 : w10.cell? ⟨g, i * 2 + 1, none⟩ = some (.int .i64 z.from_) := cz 1 _ rfl
          have zf0 := gf (i * 2)
          have zf1 := gf (i * 2 + 1)
          have h1 := (own_setK kPElem pelemCells (fun _ _ _ h => kPElem_open h) (fun _ _ _ x => kPElem_mkM _ _ _ x) HO10.out hz ⟨x.key, z.from_⟩ 0 (by decide) (.int .i64 x.key) rfl).1
          have h2 := (own_setK kPElem pelemCells (fun _ _ _ h => kPElem_open h) (fun _ _ _ x => kPElem_mkM _ _ _ x) h1 (List.getElem?_set_self (List.getElem?_eq_some_iff.1 hz).1) ⟨x.key, x.from_⟩ 1 (by decide) (.int .i64 x.from_) rfl).1
          rw [List.set_set] at h2
          have H2 := Lib.hid (show Own kPElem 58 ((w10.setCell ⟨g, i * 2, none⟩ (.int .i64 x.key)).setCell ⟨g, i * 2 + 1, none⟩ (.int .i64 x.from_)) w0.heap.size (.slice (some ⟨g, 0, none⟩) xs.length d) (ys.set i x) from h2)
          have HB11 := Lib.hid ((HB10.out.setCell (p := ⟨g, i * 2, none⟩) hg0 (.int .i64 x.key)).setCell (p := ⟨g, i * 2 + 1, none⟩) hg0 (.int .i64 x.from_))
          clear cz gf h1 h2 hz
          go_wp2
          exact ⟨⟨i + 1, j + 1, ys.set i x, by go_num, by go_num, HS2, H2.out, HB11.out⟩, by simp [intOf]; omega⟩
      · have hje : j = xs.length := by omega
        have Hf := Lib.hid (show ys.take i = xs.filter (fun y => !(!(q.contains y))) by have := HSt.out.done; rw [hje, List.take_length] at this; exact this)
        have hil : i < xs.length := by omega
        have hjI : ¬ (j : Int) < (xs.length : Int) := by omega
        rcases own_raw pelemCells (fun _ _ _ h => kPElem_open h) HOr.out with ⟨he, he2⟩ | ⟨g, cap, cur, he, hg, hb, h1, h2, h3, h4⟩
        · have := Hlen.out; rw [he2] at this; simp at this; omega
        · injection he with f1 f2 f3
          subst f1 f3
          have HG := Lib.hid hb
          have H3 := Lib.hid (show cur.size = d * 2 from h3)
          have H4 := Lib.hid (show cur.toList.take (ys.length * 2) = ys.flatMap pelemCells from h4)
          have hdl : xs.length ≤ d := hd
          have hci : ¬ (d = i) := by omega
          have hli : ¬ (xs.length = i) := by omega
          have hiI : (i : Int) ≤ (xs.length : Int) := by omega
          have hiN : i ≤ xs.length := by omega
          have hiD : (i : Int) ≤ (d : Int) := by omega
          have hiD2 : i ≤ d := by omega
          have hdm : d ≤ 9223372036854775807 := h2
          clear hb h3 h4 hje f2 h1
          go_wp2_with (refine list_clearW rfl rfl rfl (run_clearK wr 23 58 _ zElem Try.underlying23 zero_pelem zElem_one g _ _ _ _ _ HG.out ?hf ?hp) ?_; (case hf => rw [H3.out]; simp [zElem, Value.cells]; omega); (case hp => omega); intro Z HZ)
          go_ret
          rw [HZ.out]
          refine ⟨_, rfl, ?_, setRow_below HBr.out hg _⟩
          show Own kPElem 58 _ w0.heap.size (.slice (some ⟨g, 0, none⟩) i d) R
          rw [HRr.out, ← Hf.out]
          have hz : ((Builtin.zeroCells zElem.cells (xs.length - i)).toList.length) = (xs.length - i) * 2 := by simp [Builtin.zeroCells, zElem, Value.cells]
          have hcl : cur.toList.length = d * 2 := by rw [Array.length_toList]; exact H3.out
          have hyl : ys.length = xs.length := Hlen.out
          refine raw_own (d := kPElem) pelemCells (fun _ => rfl) (fun _ _ _ x => kPElem_mkM _ _ _ x) (by rw [List.length_take]; omega) hg (setRow_heap wr g _ _ _ _ HG.out) (by omega) h2 ?_ ?_
          · show _ = d * 2
            simp only [List.size_toArray, List.length_append, List.length_take, List.length_drop, hz, hcl]
            omega
          · show ((_ : Array Value).toList.take (i * 2)) = _
            rw [flat_take 2 pelemCells (fun _ => rfl), ← H4.out, List.take_take, Nat.min_eq_left (by omega)]
            rw [List.append_assoc, List.toList_toArray, List.take_append_of_le_length (by rw [List.length_take]; omega), List.take_take, Nat.min_self]
  · rw [if_neg hkl] at HI
    have Hf := Lib.hid (show xs.filter (fun y => !(!(q.contains y))) = xs from List.filter_eq_self.2 fun y hy => by
      obtain ⟨j, hj⟩ := List.getElem?_of_mem hy
      rw [hk2 j y (by have := (List.getElem?_eq_some_iff.1 hj).1; omega) hj]; rfl)
    clear hk2 hk3 hk1
    go_enter Try.func58, Try.ntmps58
    go_wp2_with (go_at_call 93; (with_reducible refine HI.out.mono ?_); rintro e w2 ⟨rfl, hb2⟩)
    go_ret
    exact ⟨_, rfl, by rw [HRr.out, Hf.out]; exact Kd.R_below HO.out hb2, hb2.mono hbs⟩
set_option maxRecDepth 100000 in
set_option maxHeartbeats 4000000 in
theorem index_gone2 (B : Option Addr) (m d : Nat) (l : List PElem) (b1 b2 : Nat) (A : Option Addr) (n c : Nat) (q : List PElem) (k : Nat) (w : World) (hm : m = l.length) (hrow : ElemRow w B m l) (h : EndAt w b1 b2 A n c q) (hk : k ≤ m) (h1 : ∀ j y, j < k → l[j]? = some y → (q.contains y) = false) (h2 : ∀ y, l[k]? = some y → (q.contains y) = true) :
    Calls Try.prog 93 #[.slice B m d, .func (.func 59) #[] #[.pointer (some ⟨b2, 0, none⟩)]] w fun e w' => e = .returned (.int .i64 (if k < m then (k : Int) else -1)) ∧ Below w.heap.size w w' := by
  have hmx : m ≤ 9223372036854775807 := hrow.2.1
  have HR := Lib.hid hrow
  have HE := Lib.hid h
  have H1 := Lib.hid h1
  have H2 := Lib.hid h2
  have Hm := Lib.hid hm
  clear hrow h h1 h2 hm
  go_enter Try.func93, Try.ntmps93
  go_wp2
  go_loopw [8] (fun i wr => ∃ j : Nat, j ≤ k ∧ i = .int .i64 j ∧ Below w.heap.size w wr) (fun i _ => m - (intOf i).toNat)
  case atStart => exact ⟨0, Nat.zero_le _, rfl, Below.refl _ _⟩
  case round =>
    obtain ⟨j, hj, rfl, hB⟩ := hrel
    have HBr := Lib.hid hB
    clear hB
    by_cases hlt : j < m
    · obtain ⟨x, ad, hd, htk, hget, rfl, e0, e1⟩ := pelem_at (Kd.C_below HR.out HBr.out) j hlt
      have HC := Lib.hid (gone2 x b1 b2 A n c q wr (HE.out.later HBr.out))
      have Hget := Lib.hid hget
      clear hd htk hget
      by_cases hjk : j = k
      · subst hjk
        have hp := H2.out x Hget.out
        rw [show (q.contains x) = true from hp] at HC
        clear hp
        go_wp2_with (go_at_call 59; (with_reducible refine HC.out.mono ?_); rintro e w2 ⟨rfl, hb2⟩)
        go_ret
        exact ⟨rfl, below_step HBr.out hb2⟩
      · have hp := H1.out j x (by omega) Hget.out
        rw [show (q.contains x) = false from hp] at HC
        have hjk2 : j + 1 ≤ k := by omega
        clear hp hjk
        go_wp2_with (go_at_call 59; (with_reducible refine HC.out.mono ?_); rintro e w2 ⟨rfl, hb2⟩)
        exact ⟨⟨j + 1, hjk2, by go_num, below_step HBr.out hb2⟩, by simp [intOf]; omega⟩
    · have hkm : ¬ k < m := by omega
      go_wp2
      go_ret
      exact ⟨rfl, HBr.out⟩
set_option maxRecDepth 100000 in
set_option maxHeartbeats 8000000 in
theorem lib_struck2 (h0 : Nat) (v : Value) (xs : List PElem) (b1 b2 : Nat) (A : Option Addr) (n c : Nat) (q : List PElem) (w0 w : World) (hE : EndAt w0 b1 b2 A n c q) (hh0 : h0 = w0.heap.size) (hb : Below w0.heap.size w0 w) (ho : Own kPElem 58 w h0 v xs) (hl : xs.length ≤ 60) :
    Calls Try.prog 58 #[v, .func (.func 59) #[] #[.pointer (some ⟨b2, 0, none⟩)]] w fun e w' => ∃ v1, e = .returned v1 ∧ Own kPElem 58 w' h0 v1 (xs.filter (fun y => !(q.contains y))) ∧ Below h0 w w' := by
  subst hh0
  obtain ⟨B, d, rfl, hd, hrow⟩ := own_reads' ho
  obtain ⟨k, hk1, hk2, hk3⟩ := first_at (P := fun y => (q.contains y)) xs
  have HE := Lib.hid hE
  have HB := Lib.hid hb
  have HO := Lib.hid ho
  have HI := Lib.hid (index_gone2 B xs.length d xs b1 b2 A n c q k w rfl hrow (hE.later hb) hk1 hk2 hk3)
  have hbs : w0.heap.size ≤ w.heap.size := hb.size
  obtain ⟨R, hR⟩ : ∃ R, R = xs.filter (fun y => !(q.contains y)) := ⟨_, rfl⟩
  rw [← hR]
  have HRr := Lib.hid hR
  clear hrow hE hb ho hR
  by_cases hkl : k < xs.length
  · have HS := Lib.hid (struck_start (D := fun y => (q.contains y)) hkl hk2 hk3)
    rw [if_pos hkl] at HI
    have hkn : ¬ ((k : Int) == -1) = true := by simp only [beq_iff_eq]; omega
    have hkn' : ((k : Int) == -1) = false := by simp only [beq_eq_false_iff_ne]; omega
    have hwk : IntKind.i64.wrap ((k : Int) + 1) = (k : Int) + 1 := IntWalk.i64_in _ (by omega)
    clear hk2 hk3 hk1
    go_enter Try.func58, Try.ntmps58
    go_wp2_with (go_at_call 93; (with_reducible refine HI.out.mono ?_); rintro e w2 ⟨rfl, hb2⟩; have HB2 := Lib.hid hb2; clear hb2)
    clear hkn hkn' hwk
    go_loopw [5, 6] (fun iv jv wr => ∃ (i j : Nat) (ys : List PElem), iv = .int .i64 i ∧ jv = .int .i64 j ∧ Hid (StruckI (fun y => (q.contains y)) xs ys i j) ∧ Own kPElem 58 wr w0.heap.size (.slice B xs.length d) ys ∧ Below w0.heap.size w wr) (fun iv jv _ => xs.length - (intOf jv).toNat)
    case atStart => exact ⟨k, k + 1, xs, rfl, by go_num, HS, Kd.R_below HO.out HB2.out, HB2.out.mono hbs⟩
    case round =>
      obtain ⟨i, j, ys, rfl, rfl, HSt, hO, hB⟩ := hrel
      have HOr := Lib.hid hO
      have HBr := Lib.hid hB
      have hij := HSt.out.lt
      have hjl := HSt.out.le
      have Hlen := Lib.hid HSt.out.len
      clear hO hB
      by_cases hlt : j < xs.length
      · obtain ⟨x, hx1, hx2⟩ := HSt.out.at_ hlt
        obtain ⟨g, hA1, hg0, hgl, cx, gf⟩ := own_cellsK kPElem pelemCells (fun _ _ _ h => kPElem_open h) (fun _ => rfl) HOr.out hx1
        subst hA1
        have e0 : wr.cell? ⟨g, j * 2, none⟩ = some (.int .i64 x.key) := cx 0 _ rfl
        have e1 : wr.cell? ⟨g, j * 2 + 1, none⟩ = some (.int .i64 x.from_) := cx 1 _ rfl
        have Hx2 := Lib.hid hx2
        have hjI : (j : Int) < (xs.length : Int) := by omega
        have hiI : (i : Int) < (xs.length : Int) := by omega
        have hiN : i < xs.length := by omega
        have hjn : j + 1 ≤ xs.length := hlt
        have Hadd := Lib.hid (fun k => add_plain g k)
        clear cx hx1 hx2
        go_upto_region 8 with fail
        have HX := Lib.hid (Cells.new wr #[.int .i64 x.key, .int .i64 x.from_] 58)
        have hba := below_alloc (Below.refl wr.heap.size wr) (.cells #[.int .i64 x.key, .int .i64 x.from_] 58)
        have HO9 := Lib.hid (Kd.R_below HOr.out hba)
        have HB9 := Lib.hid (HBr.out.trans (hba.mono (Nat.le_trans hbs HBr.out.size)))
        clear hba e0 e1 gf
        generalize wr.alloc (.cells #[.int .i64 x.key, .int .i64 x.from_] 58) = w9 at HX HO9 HB9 ⊢
        have x0 := HX.out.cell 0 _ rfl
        have x1 := HX.out.cell 1 _ rfl
        have HC := Lib.hid (gone2 x b1 b2 A n c q w9 (HE.out.later (HB.out.trans HB9.out)))
        cases hp : (q.contains x) with
        | true =>
          have HS2 := Lib.hid (HSt.out.skip Hx2.out hp)
          rw [hp] at HC
          clear hp
          go_wp2_with (go_at_call 59; (with_reducible refine HC.out.mono ?_); rintro e w10 ⟨rfl, hb10⟩; have HB10 := Lib.hid hb10; clear hb10)
          exact ⟨⟨i, j + 1, ys, rfl, by go_num, HS2, Kd.R_below HO9.out HB10.out, HB9.out.trans (HB10.out.mono (Nat.le_trans hbs HB9.out.size))⟩, by simp [intOf]; omega⟩
        | false =>
          have HS2 := Lib.hid (HSt.out.keep Hx2.out hp)
          rw [hp] at HC
          clear hp
          go_upto_region 9 with (go_at_call 59; (with_reducible refine HC.out.mono ?_); rintro e w10 ⟨rfl, hb10⟩; have HO10 := Lib.hid (Kd.R_below HO9.out hb10); have HB10 := Lib.hid (HB9.out.trans (hb10.mono (Nat.le_trans hbs HB9.out.size))); have hx10 := HX.out.later hb10; have x0 := hx10.cell 0 _ rfl; have x1 := hx10.cell 1 _ rfl; clear hb10 hx10)
          obtain ⟨z, hz⟩ : ∃ z, ys[i]? = some z := ⟨_, List.getElem?_eq_getElem (by have := Hlen.out; omega)⟩
          obtain ⟨g', hA', _, hgl', cz, gf⟩ := own_cellsK kPElem pelemCells (fun _ _ _ h => kPElem_open h) (fun _ => rfl) HO10.out hz
          cases hA'
          have z0 : w10.cell? ⟨g, i * 2, none⟩ = some (.int .i64 z.key) := cz 0 _ rfl
          have z1 : w10.cell? ⟨g, i * 2 + 1, none⟩ = some (.int .i64 z.from_) := cz 1 _ rfl
          have zf0 := gf (i * 2)
          have zf1 := gf (i * 2 + 1)
          have h1 := (own_setK kPElem pelemCells (fun _ _ _ h => kPElem_open h) (fun _ _ _ x => kPElem_mkM _ _ _ x) HO10.out hz ⟨x.key, z.from_⟩ 0 (by decide) (.int .i64 x.key) rfl).1
          have h2 := (own_setK kPElem pelemCells (fun _ _ _ h => kPElem_open h) (fun _ _ _ x => kPElem_mkM _ _ _ x) h1 (List.getElem?_set_self (List.getElem?_eq_some_iff.1 hz).1) ⟨x.key, x.from_⟩ 1 (by decide) (.int .i64 x.from_) rfl).1
          rw [List.set_set] at h2
          have H2 := Lib.hid (show Own kPElem 58 ((w10.setCell ⟨g, i * 2, none⟩ (.int .i64 x.key)).setCell ⟨g, i * 2 + 1, none⟩ (.int .i64 x.from_)) w0.heap.size (.slice (some ⟨g, 0, none⟩) xs.length d) (ys.set i x) from h2)
          have HB11 := Lib.hid ((HB10.out.setCell (p := ⟨g, i * 2, none⟩) hg0 (.int .i64 x.key)).setCell (p := ⟨g, i * 2 + 1, none⟩) hg0 (.int .i64 x.from_))
          clear cz gf h1 h2 hz
          go_wp2
          exact ⟨⟨i + 1, j + 1, ys.set i x, by go_num, by go_num, HS2, H2.out, HB11.out⟩, by simp [intOf]; omega⟩
      · have hje : j = xs.length := by omega
        have Hf := Lib.hid (show ys.take i = xs.filter (fun y => !(q.contains y)) by have := HSt.out.done; rw [hje, List.take_length] at this; exact this)
        have hil : i < xs.length := by omega
        have hjI : ¬ (j : Int) < (xs.length : Int) := by omega
        rcases own_raw pelemCells (fun _ _ _ h => kPElem_open h) HOr.out with ⟨he, he2⟩ | ⟨g, cap, cur, he, hg, hb, h1, h2, h3, h4⟩
        · have := Hlen.out; rw [he2] at this; simp at this; omega
        · injection he with f1 f2 f3
          subst f1 f3
          have HG := Lib.hid hb
          have H3 := Lib.hid (show cur.size = d * 2 from h3)
          have H4 := Lib.hid (show cur.toList.take (ys.length * 2) = ys.flatMap pelemCells from h4)
          have hdl : xs.length ≤ d := hd
          have hci : ¬ (d = i) := by omega
          have hli : ¬ (xs.length = i) := by omega
          have hiI : (i : Int) ≤ (xs.length : Int) := by omega
          have hiN : i ≤ xs.length := by omega
          have hiD : (i : Int) ≤ (d : Int) := by omega
          have hiD2 : i ≤ d := by omega
          have hdm : d ≤ 9223372036854775807 := h2
          clear hb h3 h4 hje f2 h1
          go_wp2_with (refine list_clearW rfl rfl rfl (run_clearK wr 23 58 _ zElem Try.underlying23 zero_pelem zElem_one g _ _ _ _ _ HG.out ?hf ?hp) ?_; (case hf => rw [H3.out]; simp [zElem, Value.cells]; omega); (case hp => omega); intro Z HZ)
          go_ret
          rw [HZ.out]
          refine ⟨_, rfl, ?_, setRow_below HBr.out hg _⟩
          show Own kPElem 58 _ w0.heap.size (.slice (some ⟨g, 0, none⟩) i d) R
          rw [HRr.out, ← Hf.out]
          have hz : ((Builtin.zeroCells zElem.cells (xs.length - i)).toList.length) = (xs.length - i) * 2 := by simp [Builtin.zeroCells, zElem, Value.cells]
          have hcl : cur.toList.length = d * 2 := by rw [Array.length_toList]; exact H3.out
          have hyl : ys.length = xs.length := Hlen.out
          refine raw_own (d := kPElem) pelemCells (fun _ => rfl) (fun _ _ _ x => kPElem_mkM _ _ _ x) (by rw [List.length_take]; omega) hg (setRow_heap wr g _ _ _ _ HG.out) (by omega) h2 ?_ ?_
          · show _ = d * 2
            simp only [List.size_toArray, List.length_append, List.length_take, List.length_drop, hz, hcl]
            omega
          · show ((_ : Array Value).toList.take (i * 2)) = _
            rw [flat_take 2 pelemCells (fun _ => rfl), ← H4.out, List.take_take, Nat.min_eq_left (by omega)]
            rw [List.append_assoc, List.toList_toArray, List.take_append_of_le_length (by rw [List.length_take]; omega), List.take_take, Nat.min_self]
  · rw [if_neg hkl] at HI
    have Hf := Lib.hid (show xs.filter (fun y => !(q.contains y)) = xs from List.filter_eq_self.2 fun y hy => by
      obtain ⟨j, hj⟩ := List.getElem?_of_mem hy
      rw [hk2 j y (by have := (List.getElem?_eq_some_iff.1 hj).1; omega) hj]; rfl)
    clear hk2 hk3 hk1
    go_enter Try.func58, Try.ntmps58
    go_wp2_with (go_at_call 93; (with_reducible refine HI.out.mono ?_); rintro e w2 ⟨rfl, hb2⟩)
    go_ret
    exact ⟨_, rfl, by rw [HRr.out, Hf.out]; exact Kd.R_below HO.out hb2, hb2.mono hbs⟩
theorem max_test (y m : PElem) : (0 < ordE y m) ↔ eltB m y = true := by
  have := ordE_lt y m
  have h2 := ordE_lt m y
  unfold ordE eltB at *
  constructor
  · intro h
    split at h <;> (try split at h) <;> (try split at h) <;> (try split at h) <;> simp <;> omega
  · intro h
    simp at h
    split <;> (try split) <;> (try split) <;> (try split) <;> omega
set_option maxRecDepth 100000 in
set_option maxHeartbeats 8000000 in
theorem lib_max (A : Option Addr) (n c : Nat) (l : List PElem) (g : PElem) (w : World) (hn : n = l.length) (hrow : ElemRow w A n l) (hg : g ∈ l) (hm : ∀ y ∈ l, y = g ∨ eltB y g = true) :
    Calls Try.prog 60 #[.slice A n c, .func (.func 53) #[] #[]] w fun e w' => e = .returned (.agg #[.int .i64 g.key, .int .i64 g.from_]) ∧ Below w.heap.size w w' := by
  subst hn
  have hmx : l.length ≤ 9223372036854775807 := hrow.2.1
  have hpos : 0 < l.length := List.length_pos_of_mem hg
  have hposI : ¬ (l.length : Int) < 1 := by omega
  have HZ := Lib.hid (Cells.new w #[.int .i64 0, .int .i64 0] 58)
  have HB := Lib.hid (below_alloc (Below.refl w.heap.size w) (.cells #[.int .i64 0, .int .i64 0] 58))
  have HR := Lib.hid (Kd.C_below hrow HB.out)
  have Hg := Lib.hid hg
  have Hm := Lib.hid hm
  obtain ⟨x, ad, hd, htk, hget, rfl, e0, e1⟩ := pelem_at HR.out 0 hpos
  rw [show ad.add (0 * 2) = ad by cases ad; simp [Addr.add]] at e0 e1
  have Hget := Lib.hid hget
  clear hrow hg hm hd htk hget
  go_enter Try.func60, Try.ntmps60
  go_upto_region 1 with fail
  have hp0 : (0 : Int) < (l.length : Int) := by omega
  generalize w.alloc (.cells #[.int .i64 0, .int .i64 0] 58) = w1 at HZ HB HR e0 e1 ⊢
  go_upto_region 4 with fail
  have HX := Lib.hid (Cells.new w1 #[.int .i64 x.key, .int .i64 x.from_] 58)
  have hba := below_alloc (Below.refl w1.heap.size w1) (.cells #[.int .i64 x.key, .int .i64 x.from_] 58)
  have HB2 := Lib.hid hba
  have HZ2 := Lib.hid (HZ.out.later hba)
  clear hba e0 e1 hposI hp0
  generalize hw2 : w1.alloc (.cells #[.int .i64 x.key, .int .i64 x.from_] 58) = w2 at HX HB2 HZ2 ⊢
  have Hsz := Lib.hid (show w2.heap.size = w1.heap.size + 1 by rw [← hw2]; simp)
  clear hw2
  go_wp2
  go_loopw [6] (fun i wr => ∃ (k : Nat) (m : PElem), 0 < k ∧ k ≤ l.length ∧ i = .int .i64 k ∧ Hid (m ∈ l ∧ ∀ j y, j < k → l[j]? = some y → y = m ∨ eltB y m = true) ∧ Cells wr w1.heap.size #[.int .i64 m.key, .int .i64 m.from_] 58 ∧ Below w1.heap.size w1 wr) (fun i _ => l.length - (intOf i).toNat)
  case atStart =>
    refine ⟨1, x, by omega, hpos, rfl, Lib.hid ⟨List.mem_of_getElem? Hget.out, fun j y hj hy => ?_⟩, HX.out, HB2.out⟩
    obtain rfl : j = 0 := by omega
    rw [Hget.out] at hy; cases hy; exact .inl rfl
  case round =>
    obtain ⟨k, m, hk0, hk, rfl, HM, hX, hB⟩ := hrel
    have HXr := Lib.hid hX
    have HBr := Lib.hid hB
    clear hX hB HX HB2 Hget
    by_cases hlt : k < l.length
    · obtain ⟨y, ady, hd, htk, hget, hAd, e0, e1⟩ := pelem_at (Kd.C_below HR.out HBr.out) k hlt
      cases hAd
      have Hget := Lib.hid hget
      have E0 := Lib.hid e0
      have E1 := Lib.hid e1
      have hkI : (k : Int) < (l.length : Int) := by omega
      have hkn : k + 1 ≤ l.length := hlt
      obtain ⟨oi, hoi⟩ : ∃ oi, oi = ordE y m := ⟨_, rfl⟩
      have Ho := Lib.hid hoi
      clear hd htk hget e0 e1
      go_upto_region 7 with fail
      have hxs := HXr.out
      by_cases ht : 0 < oi
      · have hlt2 := (max_test y m).1 (by rw [← hoi]; exact ht)
        have HM2 := Lib.hid (show y ∈ l ∧ ∀ j z, j < k + 1 → l[j]? = some z → z = y ∨ eltB z y = true from ⟨List.mem_of_getElem? Hget.out, fun j z hj hz => by
          rcases Nat.lt_or_ge j k with h | h
          · rcases HM.out.2 j z h hz with e | e
            · rw [e]; exact .inr hlt2
            · exact .inr (elt_trans e hlt2)
          · obtain rfl : j = k := by omega
            rw [Hget.out] at hz; cases hz; exact .inl rfl⟩)
        clear hoi hlt2
        refine wp_region_flow [.free 0, .free 1, .free 2, .free 3, .calm 4, .calm 5, .calm 6, .free 7] (Below wr.heap.size wr) (Below wr.heap.size wr) (stable_below _ _ (Nat.le_refl _)) (fun _ h => h) (by kernel_rfl) (by kernel_rfl) (below_drew1 (Below.refl _ _)) ?_
        simp only [pickEnts, pickF, List.getElem?_cons_succ, List.getElem?_cons_zero, List.filterMap_cons, List.filterMap_nil, Option.map_some]
        repeat ((first | refine flow_calm (fun K hK => ?_) | refine flow_free (fun K hK => ?_) | refine float_calm (fun K hK => ?_) | refine float_free (fun K hK => ?_)); go_simp; first | (refine hK _ ?_; clear hK K) | (apply Exists.intro; (refine ⟨fun X => ?_, hK _ ?_⟩); (first | (intro hC; rfl) | rfl | (intro hC; have x0 := cell_keep hC.out E0.out; have x1 := cell_keep hC.out E1.out; have q := HXr.out.later hC.out; have q0 := q.cell 0 _ rfl; have q1 := q.cell 1 _ rfl; go_simp; done) | (intro hC; have x0 := cell_keep hC.out E0.out; have x1 := cell_keep hC.out E1.out; have q := HXr.out.later hC.out; have q0 := q.cell 0 _ rfl; have q1 := q.cell 1 _ rfl; go_simp; rfl) | (intro hC; (with_reducible refine (law_order_made y m _).mono ?_); rintro e w' ⟨he, o1, o2, o3, o4, rfl⟩; rw [← Ho.out] at he; exact ⟨he, below_alloc (below_alloc (below_alloc (below_alloc (Below.refl _ _) _) _) _) _⟩)); clear hK K))
        refine flow_nil ?_
        intro Y hC
        have HY := Lib.hid (below_step HBr.out hC.out)
        have q := HXr.out.later hC.out
        have q0 := q.cell 0 _ rfl
        have q1 := q.cell 1 _ rfl
        have qf := q.frozen
        have y0 := cell_keep hC.out E0.out
        have y1 := cell_keep hC.out E1.out
        have Q2 := Lib.hid ((q.setAt 0 (.int .i64 y.key)).setAt 1 (.int .i64 y.from_))
        clear hC q
        go_wp2
        exact ⟨⟨k + 1, y, by omega, hkn, by go_num, HM2, Q2.out, (HY.out.setCell (p := ⟨w1.heap.size, 0, none⟩) (by simp) _).setCell (p := ⟨w1.heap.size, 1, none⟩) (by simp) _⟩, by simp [intOf]; omega⟩
      · have hge := fun h => ht (by rw [hoi]; exact (max_test y m).2 h)
        have HM2 := Lib.hid (show m ∈ l ∧ ∀ j z, j < k + 1 → l[j]? = some z → z = m ∨ eltB z m = true from ⟨HM.out.1, fun j z hj hz => by
          rcases Nat.lt_or_ge j k with h | h
          · exact HM.out.2 j z h hz
          · obtain rfl : j = k := by omega
            rw [Hget.out] at hz; cases hz
            by_cases e : y = m
            · exact .inl e
            · exact .inr (elt_total (fun e' => e (e'.symm)) (by simpa using hge))⟩)
        clear hoi hge
        refine wp_region_flow [.free 0, .free 1, .free 2, .free 3, .calm 4, .calm 5, .calm 6, .free 7] (Below wr.heap.size wr) (Below wr.heap.size wr) (stable_below _ _ (Nat.le_refl _)) (fun _ h => h) (by kernel_rfl) (by kernel_rfl) (below_drew1 (Below.refl _ _)) ?_
        simp only [pickEnts, pickF, List.getElem?_cons_succ, List.getElem?_cons_zero, List.filterMap_cons, List.filterMap_nil, Option.map_some]
        repeat ((first | refine flow_calm (fun K hK => ?_) | refine flow_free (fun K hK => ?_) | refine float_calm (fun K hK => ?_) | refine float_free (fun K hK => ?_)); go_simp; first | (refine hK _ ?_; clear hK K) | (apply Exists.intro; (refine ⟨fun X => ?_, hK _ ?_⟩); (first | (intro hC; rfl) | rfl | (intro hC; have x0 := cell_keep hC.out E0.out; have x1 := cell_keep hC.out E1.out; have q := HXr.out.later hC.out; have q0 := q.cell 0 _ rfl; have q1 := q.cell 1 _ rfl; go_simp; done) | (intro hC; have x0 := cell_keep hC.out E0.out; have x1 := cell_keep hC.out E1.out; have q := HXr.out.later hC.out; have q0 := q.cell 0 _ rfl; have q1 := q.cell 1 _ rfl; go_simp; rfl) | (intro hC; (with_reducible refine (law_order_made y m _).mono ?_); rintro e w' ⟨he, o1, o2, o3, o4, rfl⟩; rw [← Ho.out] at he; exact ⟨he, below_alloc (below_alloc (below_alloc (below_alloc (Below.refl _ _) _) _) _) _⟩)); clear hK K))
        refine flow_nil ?_
        intro Y hC
        have HY := Lib.hid (below_step HBr.out hC.out)
        have Q2 := Lib.hid (HXr.out.later hC.out)
        clear hC
        go_wp2
        exact ⟨⟨k + 1, m, by omega, hkn, by go_num, HM2, Q2.out, HY.out⟩, by simp [intOf]; omega⟩
    · have hmg : m = g := by
        obtain ⟨j, hj⟩ := List.getElem?_of_mem Hg.out
        have hjl := (List.getElem?_eq_some_iff.1 hj).1
        rcases HM.out.2 j g (by omega) hj with e | e
        · exact e.symm
        · rcases Hm.out m HM.out.1 with e2 | e2
          · exact e2
          · have := elt_asymm e; rw [e2] at this; cases this
      subst hmg
      have q0 := HXr.out.cell 0 _ rfl
      have q1 := HXr.out.cell 1 _ rfl
      have z := HZ.out.later HBr.out
      have z0 := z.cell 0 _ rfl
      have z1 := z.cell 1 _ rfl
      have zf := z.frozen
      have hkI : ¬ (k : Int) < (l.length : Int) := by omega
      go_wp2
      have y2 := (z.setAt 0 (.int .i64 m.key)).setAt 1 (.int .i64 m.from_)
      have y0 := y2.cell 0 _ rfl
      have y1 := y2.cell 1 _ rfl
      refine bodyPost_ret (v := .agg #[.int .i64 m.key, .int .i64 m.from_]) (by simp [results, Try.results60, go_sem, y0, y1]) rfl ?_
      exact ⟨rfl, ((below_step HB.out HBr.out).setCell (p := ⟨w.heap.size, 0, none⟩) (by simp) _).setCell (p := ⟨w.heap.size, 1, none⟩) (by simp) _⟩
theorem min_test (y m : PElem) : (ordE y m < 0) ↔ eltB y m = true := by
  have := ordE_lt y m
  have h2 := ordE_lt m y
  unfold ordE eltB at *
  constructor
  · intro h
    split at h <;> (try split at h) <;> (try split at h) <;> (try split at h) <;> simp <;> omega
  · intro h
    simp at h
    split <;> (try split) <;> (try split) <;> (try split) <;> omega
set_option maxRecDepth 100000 in
set_option maxHeartbeats 8000000 in
theorem lib_min (A : Option Addr) (n c : Nat) (l : List PElem) (g : PElem) (w : World) (hn : n = l.length) (hrow : ElemRow w A n l) (hg : g ∈ l) (hm : ∀ y ∈ l, y = g ∨ eltB g y = true) :
    Calls Try.prog 62 #[.slice A n c, .func (.func 53) #[] #[]] w fun e w' => e = .returned (.agg #[.int .i64 g.key, .int .i64 g.from_]) ∧ Below w.heap.size w w' := by
  subst hn
  have hmx : l.length ≤ 9223372036854775807 := hrow.2.1
  have hpos : 0 < l.length := List.length_pos_of_mem hg
  have hposI : ¬ (l.length : Int) < 1 := by omega
  have HZ := Lib.hid (Cells.new w #[.int .i64 0, .int .i64 0] 58)
  have HB := Lib.hid (below_alloc (Below.refl w.heap.size w) (.cells #[.int .i64 0, .int .i64 0] 58))
  have HR := Lib.hid (Kd.C_below hrow HB.out)
  have Hg := Lib.hid hg
  have Hm := Lib.hid hm
  obtain ⟨x, ad, hd, htk, hget, rfl, e0, e1⟩ := pelem_at HR.out 0 hpos
  rw [show ad.add (0 * 2) = ad by cases ad; simp [Addr.add]] at e0 e1
  have Hget := Lib.hid hget
  clear hrow hg hm hd htk hget
  go_enter Try.func62, Try.ntmps62
  go_upto_region 1 with fail
  have hp0 : (0 : Int) < (l.length : Int) := by omega
  generalize w.alloc (.cells #[.int .i64 0, .int .i64 0] 58) = w1 at HZ HB HR e0 e1 ⊢
  go_upto_region 4 with fail
  have HX := Lib.hid (Cells.new w1 #[.int .i64 x.key, .int .i64 x.from_] 58)
  have hba := below_alloc (Below.refl w1.heap.size w1) (.cells #[.int .i64 x.key, .int .i64 x.from_] 58)
  have HB2 := Lib.hid hba
  have HZ2 := Lib.hid (HZ.out.later hba)
  clear hba e0 e1 hposI hp0
  generalize hw2 : w1.alloc (.cells #[.int .i64 x.key, .int .i64 x.from_] 58) = w2 at HX HB2 HZ2 ⊢
  have Hsz := Lib.hid (show w2.heap.size = w1.heap.size + 1 by rw [← hw2]; simp)
  clear hw2
  go_wp2
  go_loopw [6] (fun i wr => ∃ (k : Nat) (m : PElem), 0 < k ∧ k ≤ l.length ∧ i = .int .i64 k ∧ Hid (m ∈ l ∧ ∀ j y, j < k → l[j]? = some y → y = m ∨ eltB m y = true) ∧ Cells wr w1.heap.size #[.int .i64 m.key, .int .i64 m.from_] 58 ∧ Below w1.heap.size w1 wr) (fun i _ => l.length - (intOf i).toNat)
  case atStart =>
    refine ⟨1, x, by omega, hpos, rfl, Lib.hid ⟨List.mem_of_getElem? Hget.out, fun j y hj hy => ?_⟩, HX.out, HB2.out⟩
    obtain rfl : j = 0 := by omega
    rw [Hget.out] at hy; cases hy; exact .inl rfl
  case round =>
    obtain ⟨k, m, hk0, hk, rfl, HM, hX, hB⟩ := hrel
    have HXr := Lib.hid hX
    have HBr := Lib.hid hB
    clear hX hB HX HB2 Hget
    by_cases hlt : k < l.length
    · obtain ⟨y, ady, hd, htk, hget, hAd, e0, e1⟩ := pelem_at (Kd.C_below HR.out HBr.out) k hlt
      cases hAd
      have Hget := Lib.hid hget
      have E0 := Lib.hid e0
      have E1 := Lib.hid e1
      have hkI : (k : Int) < (l.length : Int) := by omega
      have hkn : k + 1 ≤ l.length := hlt
      obtain ⟨oi, hoi⟩ : ∃ oi, oi = ordE y m := ⟨_, rfl⟩
      have Ho := Lib.hid hoi
      clear hd htk hget e0 e1
      go_upto_region 7 with fail
      have hxs := HXr.out
      by_cases ht : oi < 0
      · have hlt2 := (min_test y m).1 (by rw [← hoi]; exact ht)
        have HM2 := Lib.hid (show y ∈ l ∧ ∀ j z, j < k + 1 → l[j]? = some z → z = y ∨ eltB y z = true from ⟨List.mem_of_getElem? Hget.out, fun j z hj hz => by
          rcases Nat.lt_or_ge j k with h | h
          · rcases HM.out.2 j z h hz with e | e
            · rw [e]; exact .inr hlt2
            · exact .inr (elt_trans hlt2 e)
          · obtain rfl : j = k := by omega
            rw [Hget.out] at hz; cases hz; exact .inl rfl⟩)
        clear hoi hlt2
        refine wp_region_flow [.free 0, .free 1, .free 2, .free 3, .calm 4, .calm 5, .calm 6, .free 7] (Below wr.heap.size wr) (Below wr.heap.size wr) (stable_below _ _ (Nat.le_refl _)) (fun _ h => h) (by kernel_rfl) (by kernel_rfl) (below_drew1 (Below.refl _ _)) ?_
        simp only [pickEnts, pickF, List.getElem?_cons_succ, List.getElem?_cons_zero, List.filterMap_cons, List.filterMap_nil, Option.map_some]
        repeat ((first | refine flow_calm (fun K hK => ?_) | refine flow_free (fun K hK => ?_) | refine float_calm (fun K hK => ?_) | refine float_free (fun K hK => ?_)); go_simp; first | (refine hK _ ?_; clear hK K) | (apply Exists.intro; (refine ⟨fun X => ?_, hK _ ?_⟩); (first | (intro hC; rfl) | rfl | (intro hC; have x0 := cell_keep hC.out E0.out; have x1 := cell_keep hC.out E1.out; have q := HXr.out.later hC.out; have q0 := q.cell 0 _ rfl; have q1 := q.cell 1 _ rfl; go_simp; done) | (intro hC; have x0 := cell_keep hC.out E0.out; have x1 := cell_keep hC.out E1.out; have q := HXr.out.later hC.out; have q0 := q.cell 0 _ rfl; have q1 := q.cell 1 _ rfl; go_simp; rfl) | (intro hC; (with_reducible refine (law_order_made y m _).mono ?_); rintro e w' ⟨he, o1, o2, o3, o4, rfl⟩; rw [← Ho.out] at he; exact ⟨he, below_alloc (below_alloc (below_alloc (below_alloc (Below.refl _ _) _) _) _) _⟩)); clear hK K))
        refine flow_nil ?_
        intro Y hC
        have HY := Lib.hid (below_step HBr.out hC.out)
        have q := HXr.out.later hC.out
        have q0 := q.cell 0 _ rfl
        have q1 := q.cell 1 _ rfl
        have qf := q.frozen
        have y0 := cell_keep hC.out E0.out
        have y1 := cell_keep hC.out E1.out
        have Q2 := Lib.hid ((q.setAt 0 (.int .i64 y.key)).setAt 1 (.int .i64 y.from_))
        clear hC q
        go_wp2
        exact ⟨⟨k + 1, y, by omega, hkn, by go_num, HM2, Q2.out, (HY.out.setCell (p := ⟨w1.heap.size, 0, none⟩) (by simp) _).setCell (p := ⟨w1.heap.size, 1, none⟩) (by simp) _⟩, by simp [intOf]; omega⟩
      · have hge := fun h => ht (by rw [hoi]; exact (min_test y m).2 h)
        have HM2 := Lib.hid (show m ∈ l ∧ ∀ j z, j < k + 1 → l[j]? = some z → z = m ∨ eltB m z = true from ⟨HM.out.1, fun j z hj hz => by
          rcases Nat.lt_or_ge j k with h | h
          · exact HM.out.2 j z h hz
          · obtain rfl : j = k := by omega
            rw [Hget.out] at hz; cases hz
            by_cases e : y = m
            · exact .inl e
            · exact .inr (elt_total (fun e' => e (e')) (by simpa using hge))⟩)
        clear hoi hge
        refine wp_region_flow [.free 0, .free 1, .free 2, .free 3, .calm 4, .calm 5, .calm 6, .free 7] (Below wr.heap.size wr) (Below wr.heap.size wr) (stable_below _ _ (Nat.le_refl _)) (fun _ h => h) (by kernel_rfl) (by kernel_rfl) (below_drew1 (Below.refl _ _)) ?_
        simp only [pickEnts, pickF, List.getElem?_cons_succ, List.getElem?_cons_zero, List.filterMap_cons, List.filterMap_nil, Option.map_some]
        repeat ((first | refine flow_calm (fun K hK => ?_) | refine flow_free (fun K hK => ?_) | refine float_calm (fun K hK => ?_) | refine float_free (fun K hK => ?_)); go_simp; first | (refine hK _ ?_; clear hK K) | (apply Exists.intro; (refine ⟨fun X => ?_, hK _ ?_⟩); (first | (intro hC; rfl) | rfl | (intro hC; have x0 := cell_keep hC.out E0.out; have x1 := cell_keep hC.out E1.out; have q := HXr.out.later hC.out; have q0 := q.cell 0 _ rfl; have q1 := q.cell 1 _ rfl; go_simp; done) | (intro hC; have x0 := cell_keep hC.out E0.out; have x1 := cell_keep hC.out E1.out; have q := HXr.out.later hC.out; have q0 := q.cell 0 _ rfl; have q1 := q.cell 1 _ rfl; go_simp; rfl) | (intro hC; (with_reducible refine (law_order_made y m _).mono ?_); rintro e w' ⟨he, o1, o2, o3, o4, rfl⟩; rw [← Ho.out] at he; exact ⟨he, below_alloc (below_alloc (below_alloc (below_alloc (Below.refl _ _) _) _) _) _⟩)); clear hK K))
        refine flow_nil ?_
        intro Y hC
        have HY := Lib.hid (below_step HBr.out hC.out)
        have Q2 := Lib.hid (HXr.out.later hC.out)
        clear hC
        go_wp2
        exact ⟨⟨k + 1, m, by omega, hkn, by go_num, HM2, Q2.out, HY.out⟩, by simp [intOf]; omega⟩
    · have hmg : m = g := by
        obtain ⟨j, hj⟩ := List.getElem?_of_mem Hg.out
        have hjl := (List.getElem?_eq_some_iff.1 hj).1
        rcases HM.out.2 j g (by omega) hj with e | e
        · exact e.symm
        · rcases Hm.out m HM.out.1 with e2 | e2
          · exact e2
          · have := elt_asymm e; rw [e2] at this; cases this
      subst hmg
      have q0 := HXr.out.cell 0 _ rfl
      have q1 := HXr.out.cell 1 _ rfl
      have z := HZ.out.later HBr.out
      have z0 := z.cell 0 _ rfl
      have z1 := z.cell 1 _ rfl
      have zf := z.frozen
      have hkI : ¬ (k : Int) < (l.length : Int) := by omega
      go_wp2
      have y2 := (z.setAt 0 (.int .i64 m.key)).setAt 1 (.int .i64 m.from_)
      have y0 := y2.cell 0 _ rfl
      have y1 := y2.cell 1 _ rfl
      refine bodyPost_ret (v := .agg #[.int .i64 m.key, .int .i64 m.from_]) (by simp [results, Try.results62, go_sem, y0, y1]) rfl ?_
      exact ⟨rfl, ((below_step HB.out HBr.out).setCell (p := ⟨w.heap.size, 0, none⟩) (by simp) _).setCell (p := ⟨w.heap.size, 1, none⟩) (by simp) _⟩
end Go.Proofs.Ytemkloildadokaa
set_option linter.unusedVariables false
set_option linter.unusedSimpArgs false
/-! What a change leaves at the end, for every change; the list of bridges: no program in sight. -/
namespace Go.Proofs.Ytemkloildadokaa
structure IsLast (l : List PStep) (p B : Nat) : Prop where
  le : B ≤ p
  is : bridgeB l B = true
  no : ∀ j, B < j → j ≤ p → bridgeB l j = false
/-- The greatest one of what came since and is gone, and of what is put in. -/
def sinceE (l : List PStep) (B : Nat) : List PElem := (cameE (l.drop B)).filter fun y => !((thereE l l.length).contains y)
def aheadE (l : List PStep) (F : Nat) : List PElem := (cameE (l.take F)).filter fun y => (thereE l l.length).contains y
def MaxOf (g : PElem) (xs : List PElem) : Prop := g ∈ xs ∧ ∀ y ∈ xs, y = g ∨ eltB y g = true
def MinOf (g : PElem) (xs : List PElem) : Prop := g ∈ xs ∧ ∀ y ∈ xs, y = g ∨ eltB g y = true
theorem since_mem {l : List PStep} {B : Nat} {y : PElem} : y ∈ sinceE l B ↔ y ∈ cameE (l.drop B) ∧ y ∉ thereE l l.length := by simp [sinceE]
theorem ahead_mem {l : List PStep} {F : Nat} {y : PElem} : y ∈ aheadE l F ↔ y ∈ cameE (l.take F) ∧ y ∈ thereE l l.length := by simp [aheadE]
theorem ins_first {x y : PElem} {L : List PElem} (h : insE x L = y :: L) (hx : x ∉ L) : x = y := by
  have : x ∈ y :: L := by rw [← h]; exact (mem_ins x x L).2 (.inl rfl)
  rcases List.mem_cons.1 this with e | e
  · exact e
  · exact absurd e hx
theorem run_two {P : List PStep} {s : PStep} {M L : List PElem} (h1 : runE [] P = some M) (h2 : runE [] (P ++ [s]) = some L) (hd : s.do_ = 2) : ∃ y, M = y :: L := by
  rw [run_append, h1, Option.bind_some, runE] at h2
  cases M with
  | nil => simp [nextE, hd] at h2
  | cons y q =>
    have hn : nextE (y :: q) s = some (q, y) := by simp [nextE, hd]
    rw [hn] at h2
    have : q = L := by simpa [runE] using h2
    exact ⟨y, by rw [this]⟩
theorem there_of {l P S : List PStep} (hl : l = P ++ S) {M : List PElem} (h : runE [] P = some M) : thereE l P.length = M := by
  rw [thereE, hl, List.take_left, h]; rfl
/-- One more, at the end. -/
theorem max_last {l : List PStep} (h : lineB l = true) {p B : Nat} (hp : p ≤ l.length) (hB : IsLast l p B) {g : PElem} (h1 : g ∈ tookE l p) (h2 : ∀ y ∈ tookE l p, y = g ∨ eltB y g = true) : MaxOf g (sinceE l B) := by
  obtain ⟨a1, a2⟩ := since_bridge h hp hB.le hB.is hB.no
  refine ⟨since_mem.2 (a1 g h1), fun y hy => ?_⟩
  obtain ⟨b1, b2⟩ := since_mem.1 hy
  rcases a2 y b1 b2 with c | ⟨z, c1, c2⟩
  · exact h2 y c
  · rcases h2 z c1 with e | e
    · rw [← e]; exact .inr c2
    · exact .inr (elt_trans c2 e)
theorem max_last' {l : List PStep} (h : lineB l = true) {p B : Nat} (hp : p ≤ l.length) (hB : IsLast l p B) {g x : PElem} (h0 : x = g ∨ eltB x g = true) (h1 : g = x ∨ g ∈ tookE l p) (h2 : ∀ y ∈ tookE l p, y = g ∨ eltB y g = true) : MaxOf g (sinceE l B ++ [x]) := by
  obtain ⟨a1, a2⟩ := since_bridge h hp hB.le hB.is hB.no
  refine ⟨?_, fun y hy => ?_⟩
  · rcases h1 with e | e
    · rw [e]; simp
    · exact List.mem_append.2 (.inl (since_mem.2 (a1 g e)))
  · rcases List.mem_append.1 hy with hy | hy
    · obtain ⟨b1, b2⟩ := since_mem.1 hy
      rcases a2 y b1 b2 with c | ⟨z, c1, c2⟩
      · exact h2 y c
      · rcases h2 z c1 with e | e
        · rw [← e]; exact .inr c2
        · exact .inr (elt_trans c2 e)
    · have : y = x := by simpa using hy
      rw [this]; exact h0
theorem min_last {l : List PStep} (h : lineB l = true) {F : Nat} (hb : bridgeB l F = true) {g : PElem} (hg : (thereE l F).head? = some g) : MinOf g (aheadE l F) := by
  obtain ⟨a1, a2⟩ := ahead_bridge h hb hg
  exact ⟨ahead_mem.2 a1, fun y hy => a2 y (ahead_mem.1 hy).1 (ahead_mem.1 hy).2⟩
/-- What the law asks of a change. -/
structure LastOk (l : List PStep) (own : PElem) (p : Nat) (drop more : Bool) (g : PElem) : Prop where
  up : more = true → ∀ B, IsLast l p B → MaxOf g (if drop = true then sinceE l B else sinceE l B ++ [own])
  own_ : more = false → drop = true → own ∈ thereE l l.length → g = own
  down : more = false → (drop = true → own ∉ thereE l l.length) → ∀ F, IsFirst l (if drop = true then p + 1 else p) F → MinOf g (aheadE l F)
theorem parted_last {more less : List PStep} {f : Int} {x : PElem} {P1 P2 S : List PStep} {M L : List PElem} (h : Parted more less f x P1 P2 S M L) : ∃ d, (walkedE more less f x).getLast? = some d ∧ d.elem = lastX M L x S := by
  rw [h.walked]
  exact spans_last S M L x f f (fun s hs => (h.s s hs).1) (inc_append (h.m ▸ h.inc1)).2.1 h.one h.good
theorem changed_last {l : List PStep} {s : PStep} {drop : Bool} (h1 : lineB l = true) (h2 : (wantE l s drop).can = true) (h3 : lineB (wantE l s drop).line = true) :
    ∃ d, (changedE l s drop).spans.getLast? = some d ∧ LastOk l ⟨(wantE l s drop).step.key, (wantE l s drop).step.at_⟩ (wantE l s drop).place drop (changedE l s drop).more d.elem ∧ (wantE l s drop).place ≤ l.length ∧ (drop = true → (wantE l s drop).place < l.length) := by
  have g := line_of h1
  obtain ⟨P, S, hl, hp, hP, hS⟩ := part_at s.at_ g.inc
  have hhp := has_part (hl ▸ hp)
  rw [← hl] at hhp
  have hn1 : ¬ lineB l = false := by rw [h1]; simp
  cases drop with
  | true =>
    by_cases hh : hasE l s.at_ = true
    · have ew : wantE l s true = ⟨withoutE l P.length, l[P.length]?.getD default, P.length, true⟩ := by
        rw [wantE, if_neg (by rw [hh]; simp), if_pos rfl, hp]
      rw [ew] at h2 h3 ⊢
      rw [hhp] at hh
      cases S with
      | nil => cases hh
      | cons u S =>
        have hu : u.at_ = s.at_ := by simpa using hh
        have hgt : (l[P.length]?.getD default) = u := by rw [hl]; simp
        have hi : l[P.length]? = some u := by rw [hl]; simp
        have hw : withoutE l P.length = P ++ S := by rw [hl]; simp [withoutE, List.drop_append]
        have hdr : l.drop (P.length + 1) = S := by rw [hl]; simp [List.drop_append]
        rw [hw] at h3 ⊢
        rw [hgt]
        simp only
        rw [changedE, if_pos rfl, deleteE, if_neg hn1, if_neg (by rw [hhp]; simp [hu]), hp, hw, if_neg (by rw [h3]; simp), hgt]
        have hplt : P.length < l.length := by rw [hl]; simp
        have hb := g.steps u (List.mem_of_getElem? hi)
        by_cases hd : u.do_ = 2
        · rw [if_pos hd, ← hu]
          obtain ⟨x, M, L, ht, hpt⟩ := parted_out hd h3 (hl ▸ h1)
          rw [← hl] at hpt ht
          obtain ⟨d, e1, e2⟩ := parted_last hpt
          rw [ht]
          refine ⟨d, e1, ⟨fun _ B hB => ?_, fun e => (by cases e), fun e => (by cases e)⟩, Nat.le_of_lt hplt, fun _ => hplt⟩
          rw [if_pos rfl, e2]
          obtain ⟨y, ey⟩ := run_two hpt.run1 hpt.run2 hd
          have exy : x = y := ins_first (by rw [← hpt.one.eq]; exact ey) hpt.one.new
          have hL : thereE l (P.length + 1) = L := by
            have := there_of (l := l) (P := P ++ [u]) (S := S) (by rw [hl]; simp) hpt.run2
            rwa [List.length_append] at this
          obtain ⟨y0, f1, f2⟩ := took_out h1 hi hd
          have hM : thereE l P.length = M := there_of hl hpt.run1
          have ey0 : y0 = x := by rw [hM, ey, hL] at f1; rw [exy]; exact (List.cons.inj f1).1.symm
          obtain ⟨b1, b2, b3⟩ := more_last S M L x u.at_ (fun s hs => (hpt.s s hs).1) (inc_append (hpt.m ▸ hpt.inc1)).2.1 hpt.one hpt.good
          have htk : tksE L S = tookE l (P.length + 1) := by rw [tookE, hL, hdr]
          rw [htk] at b1 b3
          refine max_last h1 (by omega) hB ?_ fun y hy => ?_
          · rw [f2, ey0]
            rcases b1 with e | e
            · rw [e]; simp
            · exact List.mem_cons_of_mem _ e
          · rw [f2, ey0] at hy
            rcases List.mem_cons.1 hy with rfl | hy
            · exact b2
            · exact b3 y hy
        · have hd1 : u.do_ = 1 := by omega
          rw [if_neg hd, ← hu]
          obtain ⟨M, L, hpt⟩ := parted_in hd1 h3 (hl ▸ h1)
          rw [← hl] at hpt
          obtain ⟨d, e1, e2⟩ := parted_last hpt
          have hM : thereE l (P.length + 1) = M := by
            have := there_of (l := l) (P := P ++ [u]) (S := S) (by rw [hl]; simp) hpt.run1
            rwa [List.length_append] at this
          have ho : OneMore (u.at_ + 1) ⟨u.key, u.at_⟩ (thereE l (P.length + 1)) L := by rw [hM]; exact hpt.one
          have hlo : ∀ s ∈ l.drop (P.length + 1), u.at_ < s.at_ := by rw [hdr]; exact fun s hs => (hpt.s s hs).1
          have hgd : (runE L (l.drop (P.length + 1))).isSome = true := by rw [hdr]; exact hpt.good
          refine ⟨d, e1, ⟨fun e => (by cases e), fun _ _ hown => ?_, fun _ hown F hF => ?_⟩, Nat.le_of_lt hplt, fun _ => hplt⟩
          · rw [e2, ← hM, ← hdr]
            exact less_stay h1 _ _ L _ _ rfl hlo ho hgd fun ht => took_not_end h1 ht hown
          · rw [if_pos rfl] at hF
            have hm : (⟨u.key, u.at_⟩ : PElem) ∈ thereE l (P.length + 1) := by rw [ho.eq]; exact (mem_ins _ _ _).2 (.inl rfl)
            have := less_last h1 _ _ F L _ _ rfl hF hlo ho hgd (gone_took h1 (.inl hm) (hown rfl))
            rw [hM, hdr, ← e2] at this
            exact min_last h1 hF.is this
    · have ew : (wantE l s true).can = false := by
        rw [wantE, if_pos (by simp at hh; rw [hh]; simp)]
      rw [ew] at h2; cases h2
  | false =>
    by_cases hc : (hasE l s.at_ != false || (!false && decide (60 ≤ l.length))) = true
    · have ew : (wantE l s false).can = false := by rw [wantE, if_pos hc]
      rw [ew] at h2; cases h2
    · have ew : wantE l s false = ⟨withR l s, s, placeE s.at_ l, pstepB s⟩ := by
        rw [wantE, if_neg hc]; rfl
      rw [ew] at h2 h3 ⊢
      simp only at h2 h3 ⊢
      have hh : hasE l s.at_ = false := by simp at hc; exact hc.1
      have hlen : l.length < 60 := by simp at hc ⊢; omega
      obtain ⟨i1, i2, i3⟩ := inc_append (hl ▸ g.inc)
      have hS' : ∀ y ∈ S, s.at_ < y.at_ := fun y hy => by
        have h0 := hS y hy
        rw [hhp] at hh
        cases S with
        | nil => cases hy
        | cons u S =>
          have hu : ¬ u.at_ = s.at_ := by simpa using hh
          rcases List.mem_cons.1 hy with rfl | hy
          · omega
          · have := (inc_cons i2).1 y hy
            have := hS u (by simp)
            omega
      have hdr : l.drop P.length = S := by rw [hl]; simp
      have hw : withE l s = P ++ s :: S := by rw [withE, hp, hl]; simp
      have hw' : withR l s = P ++ s :: S := by
        have := upto_part hP hS'
        rw [← hl] at this
        rw [withR, this, hl]; simp
      rw [hw'] at h3
      rw [hp]
      obtain ⟨b0, b1, b2⟩ := step_bounds h2
      have hple : P.length ≤ l.length := by rw [hl]; simp
      rw [changedE, if_neg (by simp), insertE, if_neg (by rw [h1, h2]; simp), if_neg (by rw [hh]; simp), if_neg (by omega), hw, if_neg (by rw [h3]; simp)]
      by_cases hd : s.do_ = 1
      · rw [if_pos hd]
        obtain ⟨M, L, hpt⟩ := parted_in hd (hl ▸ h1) h3
        rw [← hl] at hpt
        obtain ⟨d, e1, e2⟩ := parted_last hpt
        refine ⟨d, e1, ⟨fun _ B hB => ?_, fun e => (by cases e), fun e => (by cases e)⟩, hple, fun e => by cases e⟩
        rw [if_neg (by simp), e2]
        have hL : thereE l P.length = L := there_of hl hpt.run2
        obtain ⟨c1, c2, c3⟩ := more_last S M L ⟨s.key, s.at_⟩ s.at_ (fun s hs => (hpt.s s hs).1) (inc_append (hpt.m ▸ hpt.inc1)).2.1 hpt.one hpt.good
        have htk : tksE L S = tookE l P.length := by rw [tookE, hL, hdr]
        rw [htk] at c1 c3
        exact max_last' h1 hple hB c2 c1 c3
      · have hd2 : s.do_ = 2 := by omega
        rw [if_neg hd]
        obtain ⟨x, M, L, ht, hpt⟩ := parted_out hd2 (hl ▸ h1) h3
        rw [← hl] at hpt
        obtain ⟨d, e1, e2⟩ := parted_last hpt
        rw [ht]
        have hM : thereE l P.length = M := there_of hl hpt.run1
        have ho : OneMore (s.at_ + 1) x (thereE l P.length) L := by rw [hM]; exact hpt.one
        have hlo : ∀ u ∈ l.drop P.length, s.at_ < u.at_ := by rw [hdr]; exact fun u hu => (hpt.s u hu).1
        have hgd : (runE L (l.drop P.length)).isSome = true := by rw [hdr]; exact hpt.good
        obtain ⟨y, ey⟩ := run_two hpt.run1 hpt.run2 hd2
        have exy : x = y := ins_first (by rw [← hpt.one.eq]; exact ey) hpt.one.new
        refine ⟨d, e1, ⟨fun e => (by cases e), fun _ e => (by cases e), fun _ _ F hF => ?_⟩, hple, fun e => by cases e⟩
        rw [if_neg (by simp)] at hF
        by_cases htk : x ∈ tookE l P.length
        · have := less_last h1 _ _ F L _ _ rfl hF hlo ho hgd htk
          rw [hM, hdr, ← e2] at this
          exact min_last h1 hF.is this
        · have hhd : (thereE l P.length).head? = some x := by rw [hM, ey, exy]; rfl
          have hFp := hF.here (head_bridge h1 hhd htk)
          have := less_stay h1 _ _ L _ _ rfl hlo ho hgd htk
          rw [hM, hdr] at this
          refine min_last h1 hF.is ?_
          rw [hFp, e2, this]; exact hhd
/-- The bridges, as numbers from zero on. -/
def bridgesN (l : List PStep) : List Nat := (List.range (l.length + 1)).filter (bridgeB l)
theorem bridgesE_N (l : List PStep) : bridgesE l = (bridgesN l).map fun (n : Nat) => (n : Int) := rfl
theorem bridges_at {l : List PStep} {k : Nat} {x : Int} (h : (bridgesE l)[k]? = some x) : ∃ b : Nat, x = b ∧ (bridgesN l)[k]? = some b := by
  rw [bridgesE_N, List.getElem?_map] at h
  cases hb : (bridgesN l)[k]? with
  | none => rw [hb] at h; cases h
  | some b => rw [hb] at h; exact ⟨b, by simpa using h.symm, rfl⟩
theorem bridgesN_mem {l : List PStep} {b : Nat} : b ∈ bridgesN l ↔ b ≤ l.length ∧ bridgeB l b = true := by
  rw [bridgesN, List.mem_filter, List.mem_range]
  exact ⟨fun h => ⟨by omega, h.2⟩, fun h => ⟨by omega, h.2⟩⟩
theorem bridgesN_sorted (l : List PStep) : (bridgesN l).Pairwise (· < ·) := List.Pairwise.filter _ List.pairwise_lt_range
theorem bridgesN_lt {l : List PStep} {i j a b : Nat} (h : i < j) (ha : (bridgesN l)[i]? = some a) (hb : (bridgesN l)[j]? = some b) : a < b := by
  have h1 := (List.getElem?_eq_some_iff.1 ha)
  have h2 := (List.getElem?_eq_some_iff.1 hb)
  have := List.pairwise_iff_getElem.1 (bridgesN_sorted l) i j h1.1 h2.1 h
  rw [h1.2, h2.2] at this; exact this
theorem bridge_zero (l : List PStep) : bridgeB l 0 = true := by simp [bridgeB, thereE, runE]
theorem bridge_end (l : List PStep) : bridgeB l l.length = true := (bridge_iff _).2 fun _ h => h
theorem bridgesN_first (l : List PStep) : (bridgesN l)[0]? = some 0 := by
  rw [bridgesN, List.range_succ_eq_map, List.filter_cons, if_pos (bridge_zero l)]; rfl
theorem bridgesN_last (l : List PStep) : (bridgesN l)[(bridgesN l).length - 1]? = some l.length := by
  have e : bridgesN l = (List.range l.length).filter (bridgeB l) ++ [l.length] := by
    rw [bridgesN, List.range_succ, List.filter_append, List.filter_cons, if_pos (bridge_end l)]; rfl
  rw [e, List.length_append, List.length_singleton, Nat.add_sub_cancel, List.getElem?_append_right (Nat.le_refl _), Nat.sub_self]; rfl
theorem bridgesE_len (l : List PStep) : (bridgesE l).length = (bridgesN l).length := by rw [bridgesE_N, List.length_map]
theorem bridgesN_le (l : List PStep) : (bridgesN l).length ≤ l.length + 1 := by
  have := List.length_filter_le (bridgeB l) (List.range (l.length + 1))
  rwa [List.length_range] at this
/-- The search for the last bridge, on its way. -/
structure LastI (l : List PStep) (p k v : Nat) : Prop where
  le : v ≤ p
  is : bridgeB l v = true
  all : ∀ j b, j < k → (bridgesN l)[j]? = some b → b ≤ p → b ≤ v
theorem LastI.start (l : List PStep) (p : Nat) : LastI l p 0 0 := ⟨Nat.zero_le _, bridge_zero l, fun j b h => absurd h (Nat.not_lt_zero _)⟩
theorem LastI.next {l : List PStep} {p k v b : Nat} (h : LastI l p k v) (hb : (bridgesN l)[k]? = some b) : LastI l p (k + 1) (if b ≤ p then b else v) := by
  have hm := bridgesN_mem.1 (List.mem_of_getElem? hb)
  by_cases hp : b ≤ p
  · rw [if_pos hp]
    refine ⟨hp, hm.2, fun j c hj hc hcp => ?_⟩
    rcases Nat.lt_or_ge j k with h1 | h1
    · exact Nat.le_of_lt (bridgesN_lt h1 hc hb)
    · obtain rfl : j = k := by omega
      rw [hb] at hc; cases hc; exact Nat.le_refl _
  · rw [if_neg hp]
    refine ⟨h.le, h.is, fun j c hj hc hcp => ?_⟩
    rcases Nat.lt_or_ge j k with h1 | h1
    · exact h.all j c h1 hc hcp
    · obtain rfl : j = k := by omega
      rw [hb] at hc; cases hc; exact absurd hcp hp
theorem LastI.done {l : List PStep} {p v : Nat} (h : LastI l p (bridgesN l).length v) (hp : p ≤ l.length) : IsLast l p v := by
  refine ⟨h.le, h.is, fun j h1 h2 => ?_⟩
  cases hb : bridgeB l j with
  | false => rfl
  | true =>
    obtain ⟨i, hi⟩ := List.getElem?_of_mem (bridgesN_mem.2 ⟨by omega, hb⟩)
    have := h.all i j (List.getElem?_eq_some_iff.1 hi).1 hi h2
    omega
/-- The search for the first bridge from a place on, from the end. -/
structure FirstI (l : List PStep) (a t v : Nat) : Prop where
  le : a ≤ v
  lt : v ≤ l.length
  is : bridgeB l v = true
  all : ∀ j b, (bridgesN l).length ≤ j + t → (bridgesN l)[j]? = some b → a ≤ b → v ≤ b
theorem FirstI.start {l : List PStep} {a : Nat} (ha : a ≤ l.length) : FirstI l a 0 l.length := ⟨ha, Nat.le_refl _, bridge_end l, fun j b h hb => by have := (List.getElem?_eq_some_iff.1 hb).1; omega⟩
theorem FirstI.next {l : List PStep} {a t v b : Nat} (h : FirstI l a t v) (ht : t < (bridgesN l).length) (hb : (bridgesN l)[(bridgesN l).length - 1 - t]? = some b) : FirstI l a (t + 1) (if a ≤ b then b else v) := by
  have hm := bridgesN_mem.1 (List.mem_of_getElem? hb)
  by_cases hp : a ≤ b
  · rw [if_pos hp]
    refine ⟨hp, hm.1, hm.2, fun j c hj hc hcp => ?_⟩
    rcases Nat.lt_or_ge ((bridgesN l).length - 1 - t) j with h1 | h1
    · exact Nat.le_of_lt (bridgesN_lt h1 hb hc)
    · obtain rfl : j = (bridgesN l).length - 1 - t := by omega
      rw [hb] at hc; cases hc; exact Nat.le_refl _
  · rw [if_neg hp]
    refine ⟨h.le, h.lt, h.is, fun j c hj hc hcp => ?_⟩
    rcases Nat.lt_or_ge ((bridgesN l).length - 1 - t) j with h1 | h1
    · exact h.all j c (by omega) hc hcp
    · obtain rfl : j = (bridgesN l).length - 1 - t := by omega
      rw [hb] at hc; cases hc; exact absurd hcp hp
theorem FirstI.done {l : List PStep} {a v : Nat} (h : FirstI l a (bridgesN l).length v) : IsFirst l a v := by
  refine ⟨h.le, h.lt, h.is, fun j h1 h2 => ?_⟩
  cases hb : bridgeB l j with
  | false => rfl
  | true =>
    have := h.lt
    obtain ⟨i, hi⟩ := List.getElem?_of_mem (bridgesN_mem.2 ⟨by omega, hb⟩)
    have := h.all i j (by omega) hi h1
    omega
end Go.Proofs.Ytemkloildadokaa
set_option linter.unusedVariables false
set_option linter.unusedSimpArgs false
/-! Whether numbers increase; numbers from the last one on. -/
namespace Go.Proofs.Ytemkloildadokaa
open Go.RowKit Go.Shelf Go.Proofs.YtemkloildadokaaW.PrintWords
attribute [local go_sem] Oper.semAt_some
set_option maxRecDepth 100000 in
set_option maxHeartbeats 2000000 in
theorem p_less (x y : Int) (w : World) : Calls Try.prog 92 #[.int .i64 x, .int .i64 y] w fun e w' => e = .returned (.bool (decide (x < y))) ∧ w = w' := by
  go_enter Try.func92, Try.ntmps92
  go_wp2_with (first
    | (go_at_call 116; (with_reducible refine (p_isNaN x _).mono ?_); rintro e w1 ⟨rfl, rfl⟩)
    | (go_at_call 116; (with_reducible refine (p_isNaN y _).mono ?_); rintro e w1 ⟨rfl, rfl⟩))
  go_ret
  exact ⟨rfl, rfl⟩
set_option maxRecDepth 100000 in
set_option maxHeartbeats 8000000 in
theorem lib_issorted (A : Option Addr) (n c : Nat) (l : List Int) (w : World) (hn : n = l.length) (hrow : Kd.C (Kd.int .i64) w A n l) (hs : ∀ i x y, l[i]? = some x → l[i + 1]? = some y → x ≤ y) :
    Calls Try.prog 55 #[.slice A n c] w fun e w' => e = .returned (.bool true) ∧ Below w.heap.size w w' := by
  have hmx : n ≤ 9223372036854775807 := hrow.2.1
  have HR := Lib.hid hrow
  have HSo := Lib.hid hs
  have hw1 : IntKind.i64.wrap ((n : Int) - 1) = (n : Int) - 1 := IntWalk.i64_in _ (by omega)
  clear hrow hs hn
  go_enter Try.func55, Try.ntmps55
  go_wp2
  go_loopw [3] (fun i wr => ∃ k : Int, -1 ≤ k ∧ k < n ∧ i = .int .i64 k ∧ Below w.heap.size w wr) (fun i _ => (intOf i).toNat)
  case atStart => exact ⟨(n : Int) - 1, by omega, by omega, rfl, Below.refl _ _⟩
  case round =>
    obtain ⟨k, hk0, hk1, rfl, hB⟩ := hrel
    have HBr := Lib.hid hB
    clear hB hw1
    by_cases hpos : 0 < k
    · obtain ⟨j, rfl⟩ : ∃ j : Nat, k = (j : Int) + 1 := ⟨(k - 1).toNat, by omega⟩
      obtain ⟨x, ad, hd, htk, hget, rfl, e0⟩ := int_at (Kd.C_below HR.out HBr.out) j (by omega)
      obtain ⟨y, ad2, hd2, htk2, hget2, hA2, f0⟩ := int_at (Kd.C_below HR.out HBr.out) (j + 1) (by omega)
      cases hA2
      have hxy : decide (y < x) = false := decide_eq_false (by have := HSo.out j x y hget hget2; omega)
      have hw2 : IntKind.i64.wrap (j : Int) = (j : Int) := IntWalk.i64_in _ (by omega)
      have E0 := Lib.hid e0
      have F0 := Lib.hid (show wr.cell? ⟨ad.block, ad.off + (j + 1), none⟩ = some (.int .i64 y) from f0)
      have Hxy := Lib.hid hxy
      have htj : ((j : Int) + 1).toNat = j + 1 := by omega
      clear hd htk hget hd2 htk2 hget2 hxy e0 f0
      have hjn : (j : Int) + 1 < (n : Int) := by omega
      have hjn2 : (j : Int) < (n : Int) := by omega
      have hjp : (0 : Int) ≤ (j : Int) + 1 := by omega
      go_upto_region 4 with fail
      refine wp_region_flow [.free 0, .free 1, .free 2, .calm 3, .free 4, .free 5, .free 6, .free 7, .calm 8, .calm 9] (Below wr.heap.size wr) (Below wr.heap.size wr) (stable_below _ _ (Nat.le_refl _)) (fun _ h => h) (by kernel_rfl) (by kernel_rfl) (below_drew1 (Below.refl _ _)) ?_
      simp only [pickEnts, pickF, List.getElem?_cons_succ, List.getElem?_cons_zero, List.filterMap_cons, List.filterMap_nil, Option.map_some]
      repeat ((first | refine flow_calm (fun K hK => ?_) | refine flow_free (fun K hK => ?_) | refine float_calm (fun K hK => ?_) | refine float_free (fun K hK => ?_)); go_simp; first | (refine hK _ ?_; clear hK K) | (apply Exists.intro; (refine ⟨fun X => ?_, hK _ ?_⟩); (first | (intro hC; rfl) | rfl | (intro hC; have x0 := cell_keep hC.out E0.out; have y0 := cell_keep hC.out F0.out; go_simp; done) | (intro hC; have x0 := cell_keep hC.out E0.out; have y0 := cell_keep hC.out F0.out; go_simp; rfl) | (intro hC; (with_reducible refine (p_less y x _).mono ?_); rintro e w' ⟨he, rfl⟩; rw [Hxy.out] at he; exact ⟨he, Below.refl _ _⟩)); clear hK K))
      refine flow_nil ?_
      intro Y hC
      have HY := Lib.hid (below_step HBr.out hC.out)
      clear hC
      go_wp2
      exact ⟨⟨(j : Int), by omega, by omega, by go_num, HY.out⟩, by simp only [intOf]; omega⟩
    · go_wp2
      go_ret
      exact ⟨rfl, HBr.out⟩
def encB (x : Int × Int) : Array Value := #[.int .i64 x.1, .int .i64 x.2]
/-- Numbers with their places, from the last one on. -/
def backE (xs : List Int) : List (Int × Int) := (List.range xs.length).reverse.map fun (i : Nat) => ((i : Int), xs[i]?.getD 0)
theorem backE_len (xs : List Int) : (backE xs).length = xs.length := by simp [backE]
theorem backE_at {xs : List Int} {t k : Nat} {x : Int} (h : t + k + 1 = xs.length) (hx : xs[k]? = some x) : (backE xs)[t]? = some ((k : Int), x) := by
  rw [backE, List.getElem?_map, List.getElem?_reverse (by rw [List.length_range]; omega), List.length_range, List.getElem?_range (by omega)]
  rw [show xs.length - 1 - t = k by omega]
  simp [hx]
theorem backE_take {xs : List Int} {t k : Nat} {x : Int} (h : t + k + 1 = xs.length) (hx : xs[k]? = some x) : (backE xs).take (t + 1) = (backE xs).take t ++ [((k : Int), x)] := by
  have h1 := backE_at h hx
  have h2 := (List.getElem?_eq_some_iff.1 h1)
  rw [List.take_succ_eq_append_getElem h2.1, h2.2]
def AnyP (_ : List (Int × Int)) : Prop := True
abbrev ButB (n b : Nat) (k : Nat) : Prop := k < n ∧ k ≠ b
set_option maxRecDepth 100000 in
set_option maxHeartbeats 8000000 in
theorem back1_in (n l b fb : Nat) (A : Option Addr) (c : Nat) (xs : List Int) (wA w0 : World) (hrow : Kd.C (Kd.int .i64) wA A xs.length xs) (hA : Below wA.heap.size wA w0) (hbA : b = wA.heap.size) (hfb : b < fb) (J Jx : List (Int × Int) → World → Prop)
    (W : World) (hW : KeptIf (ButB w0.heap.size b) w0 W) (hJ : AbidesFrom W.heap.size J)
    (hY : ∀ pre x W1, J pre W1 → pre.length < xs.length → YieldAt Fence.wide (n - 1) Try.prog l (encB x) W1 fun e W' =>
      (e = .returned (.bool true) ∧ J (pre ++ [x]) W' ∧ KeptIf (ButB w0.heap.size b) W1 W') ∨ (e = .returned (.bool false) ∧ Jx (pre ++ [x]) W'))
    (c1 : Cells w0 fb #[.slice A xs.length c] 27) (h0 : J [] W) :
    CallsIn Fence.wide n Try.prog 94 #[.func (.yield l) #[] #[], .pointer (some ⟨fb, 0, none⟩)] W fun e W' => (∃ v, e = .returned v) ∧
      ((∃ ys, ys = backE xs ∧ J ys W') ∨ (∃ pre, AnyP pre ∧ Jx pre W')) := by
  have hm : xs.length ≤ 9223372036854775807 := hrow.2.1
  have hfl := c1.lt
  have hAs := hA.size
  have HR := Lib.hid hrow
  have HA := Lib.hid hA
  have HY := Lib.hid hY
  have HW := Lib.hid hW
  have HC1 := Lib.hid c1
  have HJ0 := Lib.hid h0
  have c0 := (hW.cells c1 ⟨hfl, by omega⟩).cell 0 _ rfl
  have hw1 : IntKind.i64.wrap ((xs.length : Int) - 1) = (xs.length : Int) - 1 := IntWalk.i64_in _ (by omega)
  have HbA := Lib.hid hbA
  have hfb2 : fb ≠ b := by omega
  clear hrow hY hW hA c1 h0 hbA
  refine callsIn_of_wp Try.func94 rfl trivial ?_ rfl
  simp only [Try.ntmps94, List.size_toArray, List.length_cons, List.length_nil, Nat.reduceAdd, Nat.reduceSub, Array.replicate_succ, Array.replicate_zero, List.push_toArray, List.append_toArray, List.nil_append, List.cons_append]
  refine wpIn_wide.2 ?_
  go_wp2
  clear hw1 c0
  go_loopw [3] (fun i wr => ∃ t : Nat, t ≤ xs.length ∧ i = .int .i64 ((xs.length : Int) - 1 - t) ∧ J ((backE xs).take t) wr ∧ KeptIf (ButB w0.heap.size b) w0 wr) (fun i _ => (intOf i + 1).toNat)
  case atStart => exact ⟨0, Nat.zero_le _, by go_num, HJ0.out, HW.out⟩
  case round =>
    obtain ⟨t, ht, rfl, hJs, hK⟩ := hrel
    have HJs := Lib.hid hJs
    have HK := Lib.hid hK
    clear hJs hK HJ0
    have c0 := (HK.out.cells HC1.out ⟨hfl, by omega⟩).cell 0 _ rfl
    by_cases hlt : t < xs.length
    · obtain ⟨k, hk⟩ : ∃ k, t + k + 1 = xs.length := ⟨xs.length - 1 - t, by omega⟩
      have hbw : Below wA.heap.size wA wr := HA.out.trans (HK.out.below hAs fun q hq => ⟨by omega, by have := HbA.out; omega⟩)
      obtain ⟨x, ad, -, -, hget, rfl, e0⟩ := int_at (Kd.C_below HR.out hbw) k (by omega)
      have htk := backE_take hk hget
      obtain ⟨fn, tmps, asg, body, hy, hR⟩ := HY.out ((backE xs).take t) ((k : Int), x) wr HJs.out (by rw [List.length_take, backE_len]; omega)
      simp only [encB] at hy
      have hi : (xs.length : Int) - 1 - (t : Int) = (k : Int) := by omega
      rw [hi]
      have Htk := Lib.hid htk
      have hkn : k < xs.length := by omega
      have hkI : (k : Int) < (xs.length : Int) := by omega
      have hk0 : (0 : Int) ≤ (k : Int) := by omega
      have hwk : IntKind.i64.wrap ((k : Int) - 1) = (k : Int) - 1 := IntWalk.i64_in _ (by omega)
      clear hget htk hbw hi
      refine (wpIn_wide (n := n)).1 ?_
      gi_wp2_with (first
        | (refine hR.mono ?_; rintro e W3 hh3; obtain ⟨bb, rfl, h3⟩ : ∃ bb, e = .returned (.bool bb) ∧ Hid ((bb = true ∧ J ((backE xs).take t ++ [((k : Int), x)]) W3 ∧ KeptIf (ButB w0.heap.size b) wr W3) ∨ (bb = false ∧ Jx ((backE xs).take t ++ [((k : Int), x)]) W3)) := (by rcases hh3 with ⟨rfl, a, b⟩ | ⟨rfl, a⟩; exact ⟨true, rfl, Lib.hid (.inl ⟨rfl, a, b⟩)⟩; exact ⟨false, rfl, Lib.hid (.inr ⟨rfl, a⟩)⟩); clear hh3))
      all_goals
        rcases h3.out with ⟨rfl, hJ3, hk3⟩ | ⟨rfl, hJx3⟩
      · exact absurd ‹(!true) = true› (by simp)
      · refine bodyPost_ret (results_none rfl _ _ _) rfl ?_
        exact ⟨⟨_, rfl⟩, .inr ⟨_, trivial, hJx3⟩⟩
      · exact ⟨⟨t + 1, by omega, by go_num, by rw [Htk.out]; exact hJ3, HK.out.trans hk3⟩, by simp only [intOf]; omega⟩
      · exact absurd ‹(!false) = false› (by simp)
    · have hte : t = xs.length := by omega
      have HJe := Lib.hid (show J (backE xs) wr by have := HJs.out; rw [hte, ← backE_len, List.take_length] at this; exact this)
      have hneg : ¬ (0 : Int) ≤ (xs.length : Int) - 1 - (t : Int) := by omega
      clear hte
      go_wp2
      go_end0
      exact ⟨⟨_, rfl⟩, .inl (by first | exact HJe.out | exact ⟨_, rfl, HJe.out⟩)⟩
theorem kept_below {n b : Nat} {w W : World} (h : Below w.heap.size w W) : KeptIf (ButB w.heap.size b) w W := ⟨h.os, h.tape, h.output, h.size, fun k hk _ => h.block k hk⟩
/-- .. as the caller's law takes it. -/
theorem back_stops (n b fb : Nat) (A : Option Addr) (c : Nat) (xs : List Int) (wA w0 : World) (hrow : Kd.C (Kd.int .i64) wA A xs.length xs) (hA : Below wA.heap.size wA w0) (hbA : b = wA.heap.size) (hfb : b < fb) (c1 : Cells w0 fb #[.slice A xs.length c] 27) :
    SeqStopsK Fence.wide n Try.prog 94 #[.pointer (some ⟨fb, 0, none⟩)] encB (KeptIf (ButB w0.heap.size b)) (fun l => l = backE xs) AnyP xs.length w0 :=
  fun l J Jx W hW hJ _ hY h0 => back1_in n l b fb A c xs wA w0 hrow hA hbA hfb J Jx W (kept_below (n := 0) hW) hJ hY c1 h0
set_option maxRecDepth 100000 in
theorem lib_back (A : Option Addr) (m c : Nat) (w : World) :
    Calls Try.prog 61 #[.slice A m c] w fun e w' => e = .returned (.func (.func 94) #[] #[.pointer (some ⟨w.heap.size, 0, none⟩)]) ∧ w' = w.alloc (.cells #[.slice A m c] 27) := by
  go_enter Try.func61, Try.ntmps61
  go_wp2
  go_ret
  exact ⟨rfl, rfl⟩
/-- The first bridge from a place on, as the loop finds it. -/
def firstF (a : Int) (pre : List (Int × Int)) (n : Int) : Int := pre.foldl (fun acc x => if a ≤ x.2 then x.2 else acc) n
theorem firstF_snoc (a : Int) (pre : List (Int × Int)) (x : Int × Int) (n : Int) : firstF a (pre ++ [x]) n = if a ≤ x.2 then x.2 else firstF a pre n := by simp [firstF, List.foldl_append]
theorem firstF_at {l : List PStep} {a : Nat} (ha : a ≤ l.length) : ∀ t, t ≤ (bridgesN l).length → ∃ v : Nat, firstF a ((backE (bridgesE l)).take t) l.length = v ∧ FirstI l a t v
  | 0, _ => ⟨l.length, rfl, FirstI.start ha⟩
  | t + 1, ht => by
    obtain ⟨v, h1, h2⟩ := firstF_at ha t (by omega)
    obtain ⟨b, hb⟩ : ∃ b, (bridgesN l)[(bridgesN l).length - 1 - t]? = some b := ⟨_, List.getElem?_eq_getElem (by omega)⟩
    have hx : (bridgesE l)[(bridgesN l).length - 1 - t]? = some (b : Int) := by rw [bridgesE_N, List.getElem?_map, hb]; rfl
    rw [backE_take (xs := bridgesE l) (t := t) (k := (bridgesN l).length - 1 - t) (by rw [bridgesE_len]; omega) hx, firstF_snoc, h1]
    have hn := h2.next (by omega) hb
    by_cases hab : a ≤ b
    · rw [if_pos hab] at hn
      exact ⟨b, by rw [if_pos (by simp only; omega)], hn⟩
    · rw [if_neg hab] at hn
      exact ⟨v, by rw [if_neg (by simp only; omega)], hn⟩
theorem firstF_done {l : List PStep} {a : Nat} (ha : a ≤ l.length) : ∃ F : Nat, firstF a (backE (bridgesE l)) l.length = F ∧ IsFirst l a F := by
  obtain ⟨v, h1, h2⟩ := firstF_at ha _ (Nat.le_refl _)
  rw [← bridgesE_len, ← backE_len, List.take_length] at h1
  exact ⟨v, h1, h2.done⟩
end Go.Proofs.Ytemkloildadokaa
