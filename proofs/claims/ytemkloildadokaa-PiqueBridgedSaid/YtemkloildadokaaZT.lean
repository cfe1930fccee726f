/-
  Texts of one hand, laid together: PiqTakenP, PiqCame.
-/
import Derived.Test.YtemkloildadokaaZB
import Derived.Test.YtemkloildadokaaZC
import Derived.Test.YtemkloildadokaaZD
import Derived.Test.YtemkloildadokaaZE
import Derived.Test.YtemkloildadokaaWZeros
set_option linter.unusedVariables false
set_option linter.unusedSimpArgs false
/-! All that came is taken once, or there at the end: no program in sight. -/
namespace Go.Proofs.Ytemkloildadokaa
/-- What came by steps. -/
def cameE (l : List PStep) : List PElem := (l.filter (·.do_ == 1)).map fun s => ⟨s.key, s.at_⟩
def tksE (q : List PElem) (l : List PStep) : List PElem := ((doneE q l).filter fun p => p.1.do_ == 2).map (·.2)
theorem takesE_tks (l : List PStep) : takesE l = tksE [] l := rfl
theorem came_cons (s : PStep) (l : List PStep) : cameE (s :: l) = if s.do_ = 1 then ⟨s.key, s.at_⟩ :: cameE l else cameE l := by
  unfold cameE
  rw [List.filter_cons]
  by_cases h : s.do_ = 1 <;> simp [h]
theorem tks_perm : ∀ (l : List PStep) (q q' : List PElem), (∀ s ∈ l, s.do_ = 1 ∨ s.do_ = 2) → runE q l = some q' → (tksE q l ++ q').Perm (q ++ cameE l)
  | [], q, q', _, h => by
    cases h
    simp [tksE, doneE, cameE]
  | s :: l, q, q', hd, h => by
    rw [runE] at h
    have hd' : ∀ s ∈ l, s.do_ = 1 ∨ s.do_ = 2 := fun x hx => hd x (List.mem_cons_of_mem _ hx)
    rw [came_cons]
    rcases hd s (by simp) with h1 | h2
    · have hn : nextE q s = some (insE ⟨s.key, s.at_⟩ q, ⟨s.key, s.at_⟩) := by simp [nextE, h1]
      rw [hn] at h
      have ih := tks_perm l _ q' hd' h
      have e : tksE q (s :: l) = tksE (insE ⟨s.key, s.at_⟩ q) l := by
        unfold tksE
        rw [doneE, hn]
        simp [h1]
      rw [e, if_pos h1]
      refine ih.trans (((perm_ins _ q).append_right _).trans ?_)
      exact List.perm_middle.symm
    · cases q with
      | nil => simp [nextE, h2] at h
      | cons y L =>
        have hn : nextE (y :: L) s = some (L, y) := by simp [nextE, h2]
        rw [hn] at h
        have ih := tks_perm l _ q' hd' h
        have e : tksE (y :: L) (s :: l) = y :: tksE L l := by
          unfold tksE
          rw [doneE, hn]
          simp [h2]
        rw [e, if_neg (by omega)]
        exact ih.cons y
theorem came_mem {x : PElem} {l : List PStep} (h : x ∈ cameE l) : ∃ s ∈ l, x = ⟨s.key, s.at_⟩ ∧ s.do_ = 1 := by
  unfold cameE at h
  obtain ⟨s, hs, rfl⟩ := List.mem_map.1 h
  obtain ⟨h1, h2⟩ := List.mem_filter.1 hs
  exact ⟨s, h1, rfl, by simpa using h2⟩
theorem came_nodup : ∀ {l : List PStep}, incB l = true → (cameE l).Nodup
  | [], _ => List.nodup_nil
  | s :: l, h => by
    obtain ⟨h1, h2⟩ := inc_cons h
    rw [came_cons]
    split
    · refine List.nodup_cons.2 ⟨fun hm => ?_, came_nodup h2⟩
      obtain ⟨t, ht, e, _⟩ := came_mem hm
      have := h1 t ht
      simp at e
      omega
    · exact came_nodup h2
theorem at_end {l : List PStep} (h : Lined l) : ∃ q, runE [] l = some q ∧ atE l 1000 = q ∧ ThereE 1001 q := by
  cases hr : runE [] l with
  | none => have := h.run; rw [hr] at this; cases this
  | some q =>
    refine ⟨q, rfl, ?_, run_there (.nil 0) h.inc (fun s hs => ⟨(h.steps s hs).1, by have := (h.steps s hs).2.1; omega⟩) (by omega) hr⟩
    have hu : uptoE 1000 l = l.length := by
      have := upto_all (t := 1000) (l := l) (m := []) fun x hx => (h.steps x hx).2.1
      simpa [uptoE] using this
    rw [atE, thereE, hu, List.take_length, hr]
    rfl
theorem taken_all {l : List PStep} (h : lineB l = true) : (takesE l ++ atE l 1000).Perm (cameE l) := by
  have g := line_of h
  obtain ⟨q, hq, he, _⟩ := at_end g
  rw [he, takesE_tks]
  have := tks_perm l [] q (fun s hs => by have := (g.steps s hs).2.2; omega) hq
  simpa using this
theorem taken_nodup {l : List PStep} (h : lineB l = true) : (takesE l ++ atE l 1000).Nodup := (taken_all h).nodup_iff.2 (came_nodup (line_of h).inc)
theorem end_sorted {l : List PStep} (h : lineB l = true) : SortedE (atE l 1000) := by
  obtain ⟨q, hq, he, ht⟩ := at_end (line_of h)
  rw [he]; exact ht.sorted
theorem tks_append {q q' : List PElem} {l m : List PStep} (h : runE q l = some q') : tksE q (l ++ m) = tksE q l ++ tksE q' m := by
  unfold tksE
  rw [done_append h, List.filter_append, List.map_append]
/-- How many are taken by the first steps. -/
def outsN (l : List PStep) (i : Nat) : Nat := (tksE [] (l.take i)).length
theorem outs_zero (l : List PStep) : outsN l 0 = 0 := rfl
theorem split_at {l : List PStep} {i : Nat} {s : PStep} (hi : l[i]? = some s) : l = l.take i ++ s :: l.drop (i + 1) ∧ l.take (i + 1) = l.take i ++ [s] := by
  have hlt := (List.getElem?_eq_some_iff.1 hi).1
  have he := (List.getElem?_eq_some_iff.1 hi).2
  refine ⟨?_, ?_⟩
  · rw [← he, List.getElem_cons_drop, List.take_append_drop]
  · rw [List.take_succ_eq_append_getElem hlt, he]
/-- A step that takes: what it takes is the next one, came earlier, and is less than all that is there then. -/
theorem taken_step {l : List PStep} (h : lineB l = true) {i : Nat} {s : PStep} (hi : l[i]? = some s) (h2 : s.do_ = 2) :
    ∃ y, (takesE l)[outsN l i]? = some y ∧ outsN l (i + 1) = outsN l i + 1 ∧ y.from_ < s.at_ ∧ ∀ z ∈ atE l s.at_, eltB y z = true := by
  have g := line_of h
  obtain ⟨e1, e2⟩ := split_at hi
  obtain ⟨q, hq, hrest⟩ := run_take (P := l.take i) (S := s :: l.drop (i + 1)) (by rw [← e1]; exact g.run)
  have hinc := g.inc
  rw [e1] at hinc
  obtain ⟨i1, i2, i3⟩ := inc_append hinc
  obtain ⟨j1, j2⟩ := inc_cons i2
  have hsm : s ∈ l := List.mem_of_getElem? hi
  have hth : ThereE s.at_ q := run_there (.nil 0) i1 (fun y hy => ⟨(g.steps y (List.mem_of_mem_take hy)).1, i3 y hy s (by simp)⟩) (g.steps s hsm).1 hq
  rw [runE] at hrest
  cases q with
  | nil => simp [nextE, h2] at hrest
  | cons y L =>
    have hn : nextE (y :: L) s = some (L, y) := by simp [nextE, h2]
    have et : tksE (y :: L) (s :: l.drop (i + 1)) = y :: tksE L (l.drop (i + 1)) := by
      unfold tksE
      rw [doneE, hn]
      simp [h2]
    have et1 : tksE (y :: L) [s] = [y] := by
      unfold tksE
      rw [doneE, hn]
      simp [h2, doneE]
    refine ⟨y, ?_, ?_, hth.early y (by simp), ?_⟩
    · have e3 : takesE l = tksE [] (l.take i) ++ y :: tksE L (l.drop (i + 1)) := by
        rw [takesE_tks]
        conv => lhs; rw [e1]
        rw [tks_append hq, et]
      rw [e3, outsN, List.getElem?_append_right (Nat.le_refl _), Nat.sub_self]
      rfl
    · unfold outsN
      rw [e2, tks_append hq, et1, List.length_append]
      rfl
    · have hat : atE l s.at_ = L := by
        have hu : uptoE s.at_ l = i + 1 := by
          have hlt := (List.getElem?_eq_some_iff.1 hi).1
          have h1 : uptoE s.at_ (l.take (i + 1) ++ l.drop (i + 1)) = (l.take (i + 1)).length + uptoE s.at_ (l.drop (i + 1)) := upto_all fun x hx => by
            rw [e2] at hx
            rcases List.mem_append.1 hx with hx | hx
            · have := i3 x hx s (by simp); omega
            · have : x = s := by simpa using hx
              rw [this]; omega
          rw [List.take_append_drop, upto_none j1, List.length_take] at h1
          omega
        rw [atE, thereE, hu, e2, run_append, hq, Option.bind_some, runE, hn]
        rfl
      rw [hat]
      exact hth.sorted.1
theorem outs_idle {l : List PStep} {i : Nat} {s : PStep} (h : lineB l = true) (hi : l[i]? = some s) (h2 : s.do_ ≠ 2) : outsN l (i + 1) = outsN l i := by
  have g := line_of h
  obtain ⟨e1, e2⟩ := split_at hi
  obtain ⟨q, hq, hrest⟩ := run_take (P := l.take i) (S := s :: l.drop (i + 1)) (by rw [← e1]; exact g.run)
  unfold outsN
  rw [e2, tks_append hq, List.length_append]
  have : tksE q [s] = [] := by
    unfold tksE
    have hn : nextE q s = some (insE ⟨s.key, s.at_⟩ q, ⟨s.key, s.at_⟩) := by simp [nextE, h2]
    rw [doneE, hn]
    simp [h2, doneE]
  rw [this]; rfl
/-- Two rows that are sorted by the order and hold the same are the same. -/
theorem sorted_same {a b : List PElem} (hp : a.Perm b) (hn : b.Nodup) (h1 : a.Pairwise fun x y => eltB y x = false) (h2 : b.Pairwise fun x y => eltB y x = false) : a = b := by
  have S : ∀ {l : List PElem}, l.Nodup → l.Pairwise (fun x y => eltB y x = false) → SortedE l := by
    intro l
    induction l with
    | nil => intros; trivial
    | cons x l ih =>
      intro hn hp
      obtain ⟨p1, p2⟩ := List.pairwise_cons.1 hp
      obtain ⟨n1, n2⟩ := List.nodup_cons.1 hn
      exact ⟨fun y hy => elt_total (fun e => n1 (by rw [← e]; exact hy)) (p1 y hy), ih n2 p2⟩
  exact sorted_perm (S (hp.nodup_iff.2 hn) h1) (S hn h2) hp
end Go.Proofs.Ytemkloildadokaa
set_option linter.unusedVariables false
set_option linter.unusedSimpArgs false
/-! What came by steps, walked; the order of elements; two rows together; sorted rows. -/
namespace Go.Proofs.Ytemkloildadokaa
open Go.RowKit Go.Shelf Go.Proofs.YtemkloildadokaaW.PrintWords
open Go.Sort (HoldsK flatK putRowK get_flatK size_flatK)
def OwnE (w : World) (xs : List PElem) (e : Ending) (w' : World) : Prop := ∃ v, e = .returned v ∧ Own kPElem 58 w' w.heap.size v xs ∧ Below w.heap.size w w'

set_option maxRecDepth 100000 in
set_option maxHeartbeats 1000000 in
theorem lib_Grow (n : Nat) (w : World) (hn : n ≤ 1000) : Calls Try.prog 89 #[.slice none 0 0, .int .i64 (n : Int)] w (OwnE w []) := by
  have hn0 : (0 : Int) ≤ (n : Int) := by omega
  by_cases h0 : n = 0
  · subst h0
    go_enter Try.func89, Try.ntmps89
    go_wp2
    go_ret
    exact ⟨_, rfl, Kd.R_nil _ _ _ _ _, Below.refl _ _⟩
  · have hp : (0 : Int) < (n : Int) := by omega
    go_enter Try.func89, Try.ntmps89
    go_wp2_with (at_builtin; refine Kd.R_append_zeros kPElem (w0 := w) w.heap.size rfl (.tmp 20) (.tmp 21) 23 3 58 zElem 16 rfl Try.underlying23 Try.underlying3 info_pelem rfl (by decide) (by omega) (.slice none 0 0) [] ⟨0, 0⟩ (n : Int) (fun _ => True) rfl rfl ?aZ ?aF ?aO hn0 ?aB ?aS ?aL ?_; (case aZ => exact kPElem_mkM _ _ _ ⟨0, 0⟩); (case aF => exact (fun _ _ => trivial)); (case aO => exact Kd.R_nil _ _ _ _ _); (case aB => exact Below.refl _ _); (case aS => exact Nat.le_refl _); (case aL => (rw [List.length_nil]; omega)); intro v1 w1 ho1 hb1 hg1 hat1; obtain ⟨A1, c1, rfl, hc1, _⟩ := own_reads' ho1; have HO1 := Lib.hid ho1; clear ho1 hg1 hat1)
    go_ret
    refine ⟨_, rfl, ?_, hb1⟩
    have := Kd.R_take (m := 0) HO1.out (Nat.zero_le _)
    rw [List.take_zero] at this
    exact this
theorem lib_GrowZ (z : Int) (w : World) (h0 : 0 ≤ z) (hn : z ≤ 1000) : Calls Try.prog 89 #[.slice none 0 0, .int .i64 z] w (OwnE w []) := by
  obtain ⟨n, rfl⟩ : ∃ n : Nat, z = (n : Int) := ⟨z.toNat, by omega⟩
  exact lib_Grow n w (by omega)
def sumK (x y : Nat) : Nat → Nat
  | 0 => 0
  | 1 => x
  | _ => x + y
def catK (l m : List PElem) : Nat → List PElem
  | 0 => []
  | 1 => l
  | _ => l ++ m
set_option maxRecDepth 100000 in
set_option maxHeartbeats 2000000 in
theorem lib_Concat (l m : List PElem) (A B : Option Addr) (ca cb b : Nat) (w : World) (hx : w.cell? ⟨b, 0, none⟩ = some (.slice A l.length ca)) (hy : w.cell? ⟨b, 1, none⟩ = some (.slice B m.length cb)) (hr : ElemRow w A l.length l) (hr2 : ElemRow w B m.length m) (hl : l.length ≤ 200) (hm : m.length ≤ 200) :
    Calls Try.prog 51 #[.slice (some ⟨b, 0, none⟩) 2 2] w (OwnE w (l ++ m)) := by
  have Hr := Lib.hid hr
  have Hr2 := Lib.hid hr2
  have Hx := Lib.hid hx
  have Hy := Lib.hid hy
  clear hr hr2
  generalize hla : l.length = la at *
  generalize hlb : m.length = lb at *
  have Hla := Lib.hid hla
  have Hlb := Lib.hid hlb
  clear hla hlb
  have e0 : (⟨b, 0, none⟩ : Addr).add 0 = ⟨b, 0, none⟩ := rfl
  have e1 : (⟨b, 0, none⟩ : Addr).add 1 = ⟨b, 1, none⟩ := rfl
  go_enter Try.func51, Try.ntmps51
  go_wp2
  go_loop [3, 11] (fun s i => ∃ k : Nat, k ≤ 2 ∧ i = .int .i64 k ∧ s = .int .i64 (sumK la lb k : Nat)) (fun _ i => 2 - (intOf i).toNat)
  case atStart => exact ⟨0, by omega, rfl, rfl⟩
  case round =>
    obtain ⟨k, hk, rfl, rfl⟩ := hrel
    obtain rfl | rfl | rfl : k = 0 ∨ k = 1 ∨ k = 2 := by omega
    · show Code.wp _ _ _ _ _
      simp only [sumK]
      go_wp2
      exact ⟨⟨1, by omega, by go_num, by first | rfl | (simp [sumK])⟩, by simp [intOf]⟩
    · simp only [sumK]
      go_wp2
      exact ⟨⟨2, by omega, by go_num, by first | rfl | (simp [sumK])⟩, by simp [intOf]⟩
    · simp only [sumK]
      clear hk
      go_wp2_with (first
        | (go_at_call 89; (with_reducible refine (lib_GrowZ _ _ (by omega) (by omega)).mono ?_); rintro e w1 ⟨v1, rfl, hO1, hb1⟩; have HO1 := Lib.hid hO1; have hbs := hb1.size; clear hO1))
      go_loopw [6, 27] (fun v i wr => ∃ k : Nat, k ≤ 2 ∧ i = .int .i64 k ∧ Own kPElem 58 wr w.heap.size v (catK l m k) ∧ Below w.heap.size w wr) (fun _ i _ => 2 - (intOf i).toNat)
      case atStart => exact ⟨0, by omega, rfl, HO1.out, hb1⟩
      case round =>
        obtain ⟨k, hk, rfl, hO, hB⟩ := hrel
        have HO := Lib.hid hO
        have hx1 := cell_later' hB hx
        have hy1 := cell_later' hB hy
        have Hr1 := Lib.hid (Kd.C_below Hr.out hB)
        have Hr3 := Lib.hid (Kd.C_below Hr2.out hB)
        clear hO hx hy
        obtain rfl | rfl | rfl : k = 0 ∨ k = 1 ∨ k = 2 := by omega
        · go_wp2_with (at_builtin; refine Kd.R_append_rows kPElem (w0 := w) w.heap.size rfl (.tmp 31) (.tmp 32) 23 58 zElem 16 rfl Try.underlying23 info_pelem rfl (by decide) (by omega) _ [] l _ _ _ (fun _ => True) (fun _ => False) rfl rfl ?aO Hr1.out (fun x cs h => pelem_KM _ _ _ _ x cs h) (fun _ h => h.elim) ?aF ?aB ?aS ?aL ?_; (case aO => exact HO.out); (case aF => exact (fun _ _ => trivial)); (case aB => exact hB); (case aS => exact hB.size); (case aL => (rw [List.length_nil]; omega)); intro v5 w5 ho5 hb5 hg5 hat5)
          exact ⟨⟨1, by omega, by go_num, ho5, hb5⟩, by simp [intOf]⟩
        · go_wp2_with (at_builtin; refine Kd.R_append_rows kPElem (w0 := w) w.heap.size rfl (.tmp 31) (.tmp 32) 23 58 zElem 16 rfl Try.underlying23 info_pelem rfl (by decide) (by omega) _ l m _ _ _ (fun _ => True) (fun _ => False) rfl rfl ?aO Hr3.out (fun x cs h => pelem_KM _ _ _ _ x cs h) (fun _ h => h.elim) ?aF ?aB ?aS ?aL ?_; (case aO => exact HO.out); (case aF => exact (fun _ _ => trivial)); (case aB => exact hB); (case aS => exact hB.size); (case aL => (rw [Hla.out]; omega)); intro v5 w5 ho5 hb5 hg5 hat5)
          exact ⟨⟨2, by omega, by go_num, ho5, hb5⟩, by simp [intOf]⟩
        · go_wp2
          go_ret
          exact ⟨_, rfl, HO.out, hB⟩
set_option maxRecDepth 100000 in
set_option maxHeartbeats 4000000 in
theorem r_Less_made (a b : PElem) (w : World) :
    Calls Try.prog 46 #[.agg #[.int .i64 a.key, .int .i64 a.from_], .agg #[.int .i64 b.key, .int .i64 b.from_]] w fun e w' => e = .returned (.bool (eltB a b)) ∧ w' = (w.alloc (.cells #[.int .i64 a.key, .int .i64 a.from_] 58)).alloc (.cells #[.int .i64 b.key, .int .i64 b.from_] 58) := by
  have hways : (decide (a.key < b.key) = true ∧ eltB a b = true) ∨ (decide (a.key < b.key) = false ∧ (a.key == b.key) = false ∧ eltB a b = false) ∨ (decide (a.key < b.key) = false ∧ (a.key == b.key) = true ∧ decide (a.from_ < b.from_) = true ∧ eltB a b = true) ∨ (decide (a.key < b.key) = false ∧ (a.key == b.key) = true ∧ decide (a.from_ < b.from_) = false ∧ eltB a b = false) := by
    unfold eltB
    by_cases h1 : a.key < b.key
    · simp [h1]
    · by_cases h2 : a.key = b.key
      · by_cases h3 : a.from_ < b.from_
        · simp [h1, h2, h3]
        · simp [h1, h2, h3]
      · simp [h1, h2]
  obtain ⟨k1, k2, hB⟩ := two_new w ((w.alloc (.cells #[.int .i64 a.key, .int .i64 a.from_] 58)).alloc (.cells #[.int .i64 b.key, .int .i64 b.from_] 58)) _ _ _ _ (by simpa using Below.refl _ _)
  have K1 := Lib.hid k1
  have K2 := Lib.hid k2
  have HB := Lib.hid hB
  clear k1 k2 hB
  rcases hways with ⟨h1, hr⟩ | ⟨h1, h2, hr⟩ | ⟨h1, h2, h3, hr⟩ | ⟨h1, h2, h3, hr⟩
  all_goals
    rw [hr]
    clear hr
    go_enter Try.func46, Try.ntmps46
    go_upto_region 1 with fail
    generalize hw2 : ((w.alloc (.cells #[.int .i64 a.key, .int .i64 a.from_] 58)).alloc (.cells #[.int .i64 b.key, .int .i64 b.from_] 58)) = w2 at K1 K2 HB ⊢
    have Hw2 := Lib.hid hw2
    clear hw2
    have x0 := K1.out.cell 0 _ rfl
    have x1 := K1.out.cell 1 _ rfl
    have y0 := K2.out.cell 0 _ rfl
    have y1 := K2.out.cell 1 _ rfl
    go_wp2
    go_ret
    exact ⟨rfl, Hw2.out.symm⟩
def ordL (a b : PElem) : Int := if eltB a b = true then -1 else if a = b then 0 else 1
theorem ordL_eq (a b : PElem) : ordL a b = ordE a b := by
  unfold ordL eltB ordE
  obtain ⟨k1, f1⟩ := a
  obtain ⟨k2, f2⟩ := b
  simp only [PElem.mk.injEq, Bool.or_eq_true, Bool.and_eq_true, decide_eq_true_eq]
  split
  · rename_i h
    by_cases h1 : k1 < k2
    · rw [if_pos h1]
    · rw [if_neg h1, if_neg (by omega), if_pos (by omega)]
  · rename_i h
    split
    · rename_i h2
      rw [if_neg (by omega), if_neg (by omega), if_neg (by omega), if_neg (by omega)]
    · rename_i h2
      rw [if_neg (by omega)]
      by_cases h3 : k2 < k1
      · rw [if_pos h3]
      · rw [if_neg h3, if_neg (by omega), if_pos (by omega)]
set_option maxRecDepth 100000 in
set_option maxHeartbeats 4000000 in
theorem law_order_made (a b : PElem) (w : World) :
    Calls Try.prog 53 #[.agg #[.int .i64 a.key, .int .i64 a.from_], .agg #[.int .i64 b.key, .int .i64 b.from_]] w fun e w' => e = .returned (.int .i64 (ordE a b)) ∧ ∃ o1 o2 o3 o4, w' = (((w.alloc o1).alloc o2).alloc o3).alloc o4 := by
  rw [← ordL_eq]
  obtain ⟨k1, k2, hB⟩ := two_new w ((w.alloc (.cells #[.int .i64 a.key, .int .i64 a.from_] 58)).alloc (.cells #[.int .i64 b.key, .int .i64 b.from_] 58)) _ _ _ _ (by simpa using Below.refl _ _)
  have K1 := Lib.hid k1
  have K2 := Lib.hid k2
  clear k1 k2 hB
  cases he : eltB a b with
  | true =>
    have hr : ordL a b = -1 := by rw [ordL, he]; rfl
    rw [hr]
    have He := Lib.hid he
    clear hr he
    go_enter Try.func53, Try.ntmps53
    go_upto_region 1 with fail
    generalize hw2 : ((w.alloc (.cells #[.int .i64 a.key, .int .i64 a.from_] 58)).alloc (.cells #[.int .i64 b.key, .int .i64 b.from_] 58)) = w2 at K1 K2 ⊢
    have Hw2 := Lib.hid hw2
    clear hw2
    have x0 := K1.out.cell 0 _ rfl
    have x1 := K1.out.cell 1 _ rfl
    have y0 := K2.out.cell 0 _ rfl
    have y1 := K2.out.cell 1 _ rfl
    go_wp2_with (go_at_call 46; (with_reducible refine (r_Less_made a b w2).mono ?_); rintro e w3 ⟨rfl, hw3⟩; simp only [He.out]; have Hw3 := Lib.hid hw3; clear hw3)
    go_ret
    exact ⟨rfl, _, _, _, _, by rw [Hw3.out, ← Hw2.out]⟩
  | false =>
    have He := Lib.hid he
    by_cases hab : a = b
    · have hr : ordL a b = 0 := by rw [ordL, he, if_neg (by simp), if_pos hab]
      rw [hr]
      subst hab
      clear hr he
      have hkk : (a.key == a.key) = true := by simp
      have hff : (a.from_ == a.from_) = true := by simp
      have hq : pElemEq ⟨a.key, a.from_⟩ ⟨a.key, a.from_⟩ = true := by simp [pElemEq]
      go_enter Try.func53, Try.ntmps53
      go_upto_region 1 with fail
      generalize hw2 : ((w.alloc (.cells #[.int .i64 a.key, .int .i64 a.from_] 58)).alloc (.cells #[.int .i64 a.key, .int .i64 a.from_] 58)) = w2 at K1 K2 ⊢
      have Hw2 := Lib.hid hw2
      clear hw2
      have x0 := K1.out.cell 0 _ rfl
      have x1 := K1.out.cell 1 _ rfl
      have y0 := K2.out.cell 0 _ rfl
      have y1 := K2.out.cell 1 _ rfl
      go_wp2_with (go_at_call 46; (with_reducible refine (r_Less_made a a w2).mono ?_); rintro e w3 ⟨rfl, hw3⟩; simp only [He.out]; have hb3 : Below w2.heap.size w2 w3 := (by rw [hw3]; exact below_alloc (below_alloc (Below.refl _ _) _) _); have Hw3 := Lib.hid hw3; have x0 := cell_keep hb3 x0; have x1 := cell_keep hb3 x1; have y0 := cell_keep hb3 y0; have y1 := cell_keep hb3 y1; clear hw3 hb3)
      go_ret
      exact ⟨rfl, _, _, _, _, by rw [Hw3.out, ← Hw2.out]⟩
    · have hr : ordL a b = 1 := by rw [ordL, he, if_neg (by simp), if_neg hab]
      rw [hr]
      have hq : pElemEq ⟨a.key, a.from_⟩ ⟨b.key, b.from_⟩ = false := by simp only [pElemEq, decide_eq_false_iff_not]; exact hab
      clear hr he hab
      go_enter Try.func53, Try.ntmps53
      go_upto_region 1 with fail
      generalize hw2 : ((w.alloc (.cells #[.int .i64 a.key, .int .i64 a.from_] 58)).alloc (.cells #[.int .i64 b.key, .int .i64 b.from_] 58)) = w2 at K1 K2 ⊢
      have Hw2 := Lib.hid hw2
      clear hw2
      have x0 := K1.out.cell 0 _ rfl
      have x1 := K1.out.cell 1 _ rfl
      have y0 := K2.out.cell 0 _ rfl
      have y1 := K2.out.cell 1 _ rfl
      go_wp2_with (go_at_call 46; (with_reducible refine (r_Less_made a b w2).mono ?_); rintro e w3 ⟨rfl, hw3⟩; simp only [He.out]; have hb3 : Below w2.heap.size w2 w3 := (by rw [hw3]; exact below_alloc (below_alloc (Below.refl _ _) _) _); have Hw3 := Lib.hid hw3; have x0 := cell_keep hb3 x0; have x1 := cell_keep hb3 x1; have y0 := cell_keep hb3 y0; have y1 := cell_keep hb3 y1; clear hw3 hb3)
      go_ret
      exact ⟨rfl, _, _, _, _, by rw [Hw3.out, ← Hw2.out]⟩
theorem four_grow (W : World) (o1 o2 o3 o4 : Obj) : (((W.alloc o1).alloc o2).alloc o3).alloc o4 = Go.Sort.grow (W.drewN 0) (#[o1] ++ (#[o2] ++ (#[o3] ++ #[o4]))) := by
  rw [Go.Sort.alloc_eq_grow, Go.Sort.alloc_eq_grow, Go.Sort.alloc_eq_grow, Go.Sort.alloc_eq_grow, Go.Sort.grow_grow, Go.Sort.grow_grow, Go.Sort.grow_grow, show W.drewN 0 = W from rfl]
theorem grown_sortK {enc : PElem → List Value} {k : Nat} {w : World} {g n : Nat} {os : Array Obj} (d : Array PElem) : w.grownBy (sortWorldK enc k w g 0 n d os) (some g) :=
  ⟨rfl, rfl, rfl, by rw [sortWorldK, Go.Sort.size_grow]; simp [putRowK, Go.Sort.ahead], fun i hi hne => heap_sortK_ne d hi (fun e => hne (by rw [e]))⟩
set_option maxHeartbeats 1000000 in
theorem sortFunc_grown {ρ : Go.Shelf.Ren} (L : SlLaysF0.n6 Try.prog ρ) (d : Kd PElem) (e : Nat) (enc : PElem → List Value) (hk : ∀ x, (enc x).length = d.sz) (hs : 0 < d.sz) (h1 : ∀ x, ∀ v ∈ enc x, v.oneCell' = true) (hM : ∀ w base ok x, d.M w base ok x (enc x)) (hM' : ∀ w base ok x cs, d.M w base ok x cs → cs = enc x)
    (aE : ∀ w, (isAgg (ρ.t 24)).run Try.prog w = .ok true w) (zE : ∀ w, (Go.sizeOf (ρ.t 24)).run Try.prog w = .ok d.sz w) (cf : PElem → PElem → Int) (hO : Go.Sort.SWO (ltOf cf)) (g : Nat) (cb : Array Value) (eg : ∀ args w, (callFunc g args).run Try.prog w = .ok (.enter g args) w)
    (hcl : ∀ W x y, Calls Try.prog g (#[.agg (enc x).toArray, .agg (enc y).toArray] ++ cb) W fun e w' => e = .returned (.int .i64 (cf x y)) ∧ ∃ q os', w' = Go.Sort.grow (W.drewN q) os')
    (xs : List PElem) (v : Value) (w : World) (base : Nat) (ho : Own d e w base v xs) (hbase : base ≤ w.heap.size) (hx : xs.length < 4611686018427387904) :
    Calls Try.prog (ρ.f 6) #[v, .func (.func g) #[] cb] w fun r w' => r = .returned (.tuple #[]) ∧ ∃ ys : List PElem, ys.Perm xs ∧ ys.Pairwise (fun a b => ltOf cf b a = false) ∧ Own d e w' base v ys ∧ w.grownBy w' v.ownBlock := by
  rcases own_split ho with ⟨rfl, rfl⟩ | ⟨b, cap, cur, inner, rfl, hg, hb, h2, h3, h4, h5, hr⟩
  · refine (AnyF.slices_SortFunc_none L none 0 _ w).mono ?_
    rintro r w' ⟨rfl, rfl⟩
    exact ⟨rfl, [], List.Perm.refl _, List.Pairwise.nil, Kd.R_nil _ _ _ _ _, grown_of_below (Below.refl _ _) _⟩
  · have hbl : b < w.heap.size := (Array.getElem?_eq_some_iff.1 hb).1
    have hH : HoldsK enc d.sz w b 0 xs.toArray := holdsK_own hk hs (fun x cs h => hM' _ _ _ _ _ h) hb h2 h4 h5 hr
    have hcmp : CmpLays Try.prog g cb enc d.sz cf b 0 xs.toArray.size w := by
      intro m os dk hsz x y
      exact hcl _ x y
    have hmax : xs.toArray.size < 4611686018427387904 := by simpa using hx
    have hcon := AnyQ.slices_SortFunc L d.sz aE zE enc hk h1 cf hO g cb b 0 cap xs.toArray w eg hcmp hH hbl hmax
    refine hcon.mono ?_
    rintro r w' ⟨rfl, d', n, os, hpm, hsrt, rfl⟩
    have hl : d'.toList.length = xs.length := by have := hpm.1; simpa using this
    have hperm : d'.toList.Perm xs := by
      have h := hpm.2.2
      have e1 : (d'.extract 0 xs.toArray.size) = d' := by
        have : xs.toArray.size = d'.size := hpm.1.symm
        rw [this]; simp
      have e2 : (xs.toArray.extract 0 xs.toArray.size) = xs.toArray := by simp
      rw [e1, e2] at h
      simpa using h
    refine ⟨rfl, d'.toList, hperm, ?_, ?_, grown_sortK _⟩
    · rw [List.pairwise_iff_getElem]
      intro i j hi hj hij
      have hj' : j < xs.toArray.size := by rw [← hpm.1]; simpa using hj
      have h := hsrt i j (Nat.zero_le _) hij hj'
      have hi'' : i < d'.size := by simpa using hi
      have hj'' : j < d'.size := by simpa using hj
      rw [getElem!_pos d' i hi'', getElem!_pos d' j hj''] at h
      simpa using h
    · have h := own_sortK (d := d) (e := e) (n := n) (os := os) hk hs hM d'.toList hl hg hb h2 h3 h4
      simpa using h

set_option maxRecDepth 100000 in
set_option maxHeartbeats 1000000 in
theorem sort_law (xs : List PElem) (v : Value) (w : World) (base : Nat) (ho : Own kPElem 58 w base v xs) (hbase : base ≤ w.heap.size) (hx : xs.length < 4611686018427387904) :
    Calls Try.prog 52 #[v, .func (.func 53) #[] #[]] w fun r w' => r = .returned (.tuple #[]) ∧ ∃ ys : List PElem, ys.Perm xs ∧ ys.Pairwise (fun a b => ltOf ordE b a = false) ∧ Own kPElem 58 w' base v ys ∧ w.grownBy w' v.ownBlock :=
  sortFunc_grown Try.laysSortP kPElem 58 encPE (fun x => rfl) (by show 0 < 2; omega) (fun x v hv => by simp [encPE, pelemCells] at hv; rcases hv with rfl | rfl <;> rfl) (fun w base ok x => kPElem_mkM w base ok x) (fun w base ok x cs h => kPElem_open (kPElem.K_of_M h))
    (fun w => by kernel_rfl) (fun w => by kernel_rfl) ordE swo_elem 53 #[] (enters_of Try.func53 (by kernel_rfl) rfl)
    (fun W x y => (law_order_made x y W).mono (by rintro e w' ⟨he, o1, o2, o3, o4, rfl⟩; exact ⟨he, 0, _, four_grow W o1 o2 o3 o4⟩)) xs v w base ho hbase hx
theorem came_snoc {l : List PStep} {k : Nat} {s : PStep} (h : l.take (k + 1) = l.take k ++ [s]) : cameE (l.take (k + 1)) = cameE (l.take k) ++ cameE [s] := by
  rw [h, cameE, List.filter_append, List.map_append]; rfl
theorem came_le (l : List PStep) : (cameE l).length ≤ l.length := by unfold cameE; rw [List.length_map]; exact List.length_filter_le _ _
set_option maxRecDepth 100000 in
set_option maxHeartbeats 8000000 in
theorem law_came (A : Option Addr) (n c : Nat) (l : List PStep) (w : World) (hn : n = l.length) (h60 : n ≤ 60) (hrow : PStepRow w A n l) :
    Calls Try.prog 50 #[.slice A n c] w (OwnE w (cameE l)) := by
  have HR := Lib.hid hrow
  have Hn := Lib.hid hn
  clear hrow hn
  go_enter Try.func50, Try.ntmps50
  go_wp2
  go_loopw [8, 3] (fun i vo wr => ∃ k : Nat, k ≤ n ∧ i = .int .i64 k ∧ Own kPElem 58 wr w.heap.size vo (cameE (l.take k)) ∧ Below w.heap.size w wr) (fun i _ _ => n - (intOf i).toNat)
  case atStart => exact ⟨0, Nat.zero_le _, rfl, Kd.R_nil _ _ _ _ _, Below.refl _ _⟩
  case round =>
    obtain ⟨k, hk, rfl, hO, hB⟩ := hrel
    have HO := Lib.hid hO
    have HBr := Lib.hid hB
    clear hO hB
    by_cases hlt : k < n
    · obtain ⟨s, ad, hd, htk, hget, rfl, e0, e1, e2⟩ := pstep_at (Kd.C_below HR.out HBr.out) k hlt
      have hsu := came_snoc htk
      have Hle := Lib.hid (show (cameE (l.take k)).length ≤ 60 from Nat.le_trans (came_le _) (by rw [List.length_take]; omega))
      clear hd htk hget
      go_upto_region 5 with fail
      have HS := Lib.hid (Cells.new wr #[.int .i64 s.at_, .int .i64 s.do_, .int .i64 s.key] 36)
      have hba := below_alloc (Below.refl wr.heap.size wr) (.cells #[.int .i64 s.at_, .int .i64 s.do_, .int .i64 s.key] 36)
      have HO5 := Lib.hid (Kd.R_below HO.out hba)
      have HB5 := Lib.hid (below_step HBr.out hba)
      clear hba e0 e1 e2
      generalize wr.alloc (.cells #[.int .i64 s.at_, .int .i64 s.do_, .int .i64 s.key] 36) = w5 at HS HO5 HB5 ⊢
      have s0 := HS.out.cell 0 _ rfl
      have s1 := HS.out.cell 1 _ rfl
      have s2 := HS.out.cell 2 _ rfl
      cases hdo : (s.do_ == 1)
      · have hz : cameE [s] = [] := by simp [cameE, hdo]
        rw [hz, List.append_nil] at hsu
        have Hsu := Lib.hid hsu
        clear hsu hz
        go_wp2
        exact ⟨⟨k + 1, by omega, by go_num, by rw [Hsu.out]; exact HO5.out, HB5.out⟩, by simp [intOf]; omega⟩
      · have hz : cameE [s] = [⟨s.key, s.at_⟩] := by simp [cameE, hdo]
        rw [hz] at hsu
        have Hsu := Lib.hid hsu
        clear hsu hz
        go_wp2_with (first
          | (go_at_call 42; (with_reducible refine (law_elem s.key s.at_ w5).mono ?_); rintro e w6 ⟨rfl, hb6⟩; have HO6 := Lib.hid (Kd.R_below HO5.out hb6); have HB6 := Lib.hid (below_step HB5.out hb6); clear hb6)
          | (at_builtin; refine Kd.R_append kPElem (w0 := w6) w.heap.size rfl (.tmp 15) (.tmp 21) 23 58 (.agg #[.int .i64 0, .int .i64 0]) 16 rfl Try.underlying23 info_pelem rfl (by decide) (by omega) _ (cameE (l.take k)) ⟨s.key, s.at_⟩ (pelemCells ⟨s.key, s.at_⟩) (fun _ => True) (fun _ => False) rfl rfl (kPElem_mkM _ _ _ _) (fun _ hk => hk.elim) (fun _ _ => trivial) HO6.out (Below.refl _ _) HB6.out.size (by have := Hle.out; omega) ?_; intro v9 w9 r1 r2 r3 r4; have HR9 := Lib.hid r1; have HB9 := Lib.hid r2; clear r1 r2 r3 r4))
        exact ⟨⟨k + 1, by omega, by go_num, by rw [Hsu.out]; exact HR9.out, HB6.out.trans HB9.out⟩, by simp [intOf]; omega⟩
    · have hkl : k = n := by omega
      have HF := Lib.hid (show Own kPElem 58 wr w.heap.size u3 (cameE l) by have := HO.out; rw [hkl, Hn.out, List.take_length] at this; exact this)
      clear hkl HO
      go_wp2
      go_ret
      exact ⟨_, rfl, HF.out, HBr.out⟩
/-- No element stands ahead of the one before it. -/
theorem sorted_pair {l : List PElem} (h : SortedE l) {i : Nat} {x y : PElem} (h1 : l[i]? = some x) (h2 : l[i + 1]? = some y) : eltB x y = true := by
  induction l generalizing i with
  | nil => simp at h1
  | cons z l ih =>
    cases i with
    | zero =>
      obtain rfl : z = x := by simpa using h1
      exact h.1 y (List.mem_of_getElem? (by simpa using h2))
    | succ i => exact ih h.2 (by simpa using h1) (by simpa using h2)
set_option maxRecDepth 100000 in
set_option maxHeartbeats 8000000 in
theorem lib_sorted (A : Option Addr) (n c : Nat) (l : List PElem) (w : World) (hn : n = l.length) (hrow : ElemRow w A n l) (hs : SortedE l) :
    Calls Try.prog 54 #[.slice A n c, .func (.func 53) #[] #[]] w fun e w' => e = .returned (.bool true) ∧ Below w.heap.size w w' := by
  have hmx : n ≤ 9223372036854775807 := hrow.2.1
  have HR := Lib.hid hrow
  have HSo := Lib.hid hs
  have hw1 : IntKind.i64.wrap ((n : Int) - 1) = (n : Int) - 1 := IntWalk.i64_in _ (by omega)
  clear hrow hs hn
  go_enter Try.func54, Try.ntmps54
  go_wp2
  go_loopw [5] (fun i wr => ∃ k : Int, -1 ≤ k ∧ k < n ∧ i = .int .i64 k ∧ Below w.heap.size w wr) (fun i _ => (intOf i).toNat)
  case atStart => exact ⟨(n : Int) - 1, by omega, by omega, rfl, Below.refl _ _⟩
  case round =>
    obtain ⟨k, hk0, hk1, rfl, hB⟩ := hrel
    have HBr := Lib.hid hB
    clear hB hw1
    by_cases hpos : 0 < k
    · obtain ⟨j, rfl⟩ : ∃ j : Nat, k = (j : Int) + 1 := ⟨(k - 1).toNat, by omega⟩
      obtain ⟨x, ad, hd, htk, hget, rfl, e0, e1⟩ := pelem_at (Kd.C_below HR.out HBr.out) j (by omega)
      obtain ⟨y, ad2, hd2, htk2, hget2, hA2, f0, f1⟩ := pelem_at (Kd.C_below HR.out HBr.out) (j + 1) (by omega)
      cases hA2
      have hxy := sorted_pair HSo.out hget hget2
      have hor : ¬ (ordE y x < 0) := by have := ordE_lt y x; rw [elt_asymm hxy] at this; simpa using this
      have hw2 : IntKind.i64.wrap (j : Int) = (j : Int) := IntWalk.i64_in _ (by omega)
      have E0 := Lib.hid e0
      have E1 := Lib.hid e1
      have F0 := Lib.hid f0
      have F1 := Lib.hid f1
      obtain ⟨oi, hoi⟩ : ∃ oi, oi = ordE y x := ⟨_, rfl⟩
      have Ho := Lib.hid hoi
      rw [← hoi] at hor
      have htj : ((j : Int) + 1).toNat = j + 1 := by omega
      clear hd htk hget hd2 htk2 hget2 hxy hoi e0 e1 f0 f1
      have hjn : (j : Int) + 1 < (n : Int) := by omega
      have hjn2 : (j : Int) < (n : Int) := by omega
      have hjp : (0 : Int) ≤ (j : Int) + 1 := by omega
      go_upto_region 4 with fail
      refine wp_region_flow [.calm 0, .calm 1, .calm 2, .calm 3, .calm 4, .calm 5, .calm 6, .calm 7, .calm 8, .calm 9, .calm 10, .free 11] (Below wr.heap.size wr) (Below wr.heap.size wr) (stable_below _ _ (Nat.le_refl _)) (fun _ h => h) (by kernel_rfl) (by kernel_rfl) (below_drew1 (Below.refl _ _)) ?_
      simp only [pickEnts, pickF, List.getElem?_cons_succ, List.getElem?_cons_zero, List.filterMap_cons, List.filterMap_nil, Option.map_some]
      repeat ((first | refine flow_calm (fun K hK => ?_) | refine flow_free (fun K hK => ?_) | refine float_calm (fun K hK => ?_) | refine float_free (fun K hK => ?_)); go_simp; first | (refine hK _ ?_; clear hK K) | (apply Exists.intro; (refine ⟨fun X => ?_, hK _ ?_⟩); (first | (intro hC; rfl) | rfl | (intro hC; have x0 := cell_keep hC.out E0.out; have x1 := cell_keep hC.out E1.out; have y0 := cell_keep hC.out F0.out; have y1 := cell_keep hC.out F1.out; go_simp; done) | (intro hC; have x0 := cell_keep hC.out E0.out; have x1 := cell_keep hC.out E1.out; have y0 := cell_keep hC.out F0.out; have y1 := cell_keep hC.out F1.out; go_simp; rfl) | (intro hC; (with_reducible refine (law_order_made y x _).mono ?_); rintro e w' ⟨he, o1, o2, o3, o4, rfl⟩; rw [← Ho.out] at he; exact ⟨he, below_alloc (below_alloc (below_alloc (below_alloc (Below.refl _ _) _) _) _) _⟩)); clear hK K))
      refine flow_nil ?_
      intro Y hC
      have HY := Lib.hid (below_step HBr.out hC.out)
      clear hC
      go_wp2
      exact ⟨⟨(j : Int), by omega, by omega, by go_num, HY.out⟩, by simp only [intOf]; omega⟩
    · go_wp2
      go_ret
      exact ⟨rfl, HBr.out⟩
end Go.Proofs.Ytemkloildadokaa
