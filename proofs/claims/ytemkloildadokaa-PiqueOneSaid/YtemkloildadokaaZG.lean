/-
  Texts of one hand, laid together: PiqDelG, PiqOrderP.
-/
import Derived.Test.YtemkloildadokaaZC
import Derived.Test.YtemkloildadokaaZA
import Derived.Test.YtemkloildadokaaZB
set_option linter.unusedVariables false
set_option linter.unusedSimpArgs false
/-! A step of a row is deleted: no other block is turned. -/
namespace Go.Proofs.Ytemkloildadokaa
open Go.RowKit Go.Shelf Go.Proofs.YtemkloildadokaaW.PrintWords
theorem grown_below {w Z Z' : World} {row : Option Nat} (h : w.grownBy Z row) (hb : Below Z.heap.size Z Z') : w.grownBy Z' row := ⟨hb.os.trans h.os, hb.tape.trans h.tape, hb.output.trans h.output, Nat.le_trans h.size hb.size, fun k hk hne => (hb.block k (Nat.lt_of_lt_of_le hk h.size)).trans (h.block k hk hne)⟩
theorem setRow_grown {w Z : World} {g : Nat} (h : w.grownBy Z (some g)) (cs : Array Value) : w.grownBy (Z.setRow g cs) (some g) := ⟨h.os, h.tape, h.output, by simpa [World.setRow] using h.size, fun k hk hne => (setRow_other Z g k cs (fun e => hne (by rw [e]))).trans (h.block k hk hne)⟩
set_option maxRecDepth 100000 in
set_option maxHeartbeats 4000000 in
theorem lib_DeleteG (h0 i : Nat) (v : Value) (l : List PStep) (w : World) (ho : Own kPStep 36 w h0 v l) (hi : i < l.length) (hl : l.length ≤ 60) (hh : h0 ≤ w.heap.size) :
    Calls Try.prog 35 #[v, .int .i64 i, .int .i64 ((i : Int) + 1)] w fun e w' => ∃ v1, e = .returned v1 ∧ Own kPStep 36 w' h0 v1 (withoutE l i) ∧ w.grownBy w' v.ownBlock ∧ v1.ownBlock = v.ownBlock := by
  rcases own_raw pstepCells (fun _ _ _ h => kPStep_open h) ho with ⟨_, rfl⟩ | ⟨g, cap, cur, rfl, hg, hb, h1, h2, h3, h4⟩
  · simp at hi
  have hcap : cap ≤ 9223372036854775807 := h2
  have hi1 : i + 1 ≤ l.length := hi
  have hi2 : i + 1 ≤ cap := by omega
  have hi3 : i ≤ cap := by omega
  have hi4 : i ≤ l.length := by omega
  have hi5 : i ≤ i + 1 := by omega
  have hne : ((i : Int) == (i : Int) + 1) = false := by simp only [beq_eq_false_iff_ne]; omega
  have hn0 : (0 : Int) ≤ (i : Int) + 1 := by omega
  have hn1 : (i : Int) ≤ (i : Int) + 1 := by omega
  have hn2 : (i : Int) + 1 ≤ (l.length : Int) := by omega
  have hn3 : (i : Int) + 1 ≤ (cap : Int) := by omega
  have hn4 : (i : Int) ≤ (cap : Int) := by omega
  have hn5 : (l.length : Int) ≤ (cap : Int) := by omega
  have htn : ((i : Int) + 1).toNat = i + 1 := by omega
  have hci : ¬ (cap = i) := by omega
  have hli : ¬ (l.length = i) := by omega
  have HB := Lib.hid hb
  have H3 := Lib.hid (show cur.size = cap * 3 from h3)
  have H4 := Lib.hid (show cur.toList.take (l.length * 3) = l.flatMap pstepCells from h4)
  clear ho hb h4 h3
  by_cases hce : cap = i + 1
  · subst hce
    have hl1 : l.length = i + 1 := by omega
    go_enter Try.func35, Try.ntmps35
    go_upto_region 5 with fail
    refine wp_region_flow [.free 0, .free 1, .free 2, .free 3, .free 4, .free 5, .fence 6, .free 7] (Below w.heap.size w) (Below w.heap.size w) (stable_below _ _ (Nat.le_refl _)) (fun _ h => h) (by kernel_rfl) (by kernel_rfl) (below_drew1 (Below.refl _ _)) ?_
    simp only [pickEnts, pickF, List.getElem?_cons_succ, List.getElem?_cons_zero, List.filterMap_cons, List.filterMap_nil, Option.map_some]
    repeat ((first | refine flow_calm (fun K hK => ?_) | refine flow_free (fun K hK => ?_) | refine float_calm (fun K hK => ?_) | refine float_free (fun K hK => ?_)); go_simp; first | (refine hK _ ?_; clear hK K) | (apply Exists.intro; (refine ⟨fun X => ?_, hK _ ?_⟩); (first | (intro hC; rfl) | rfl | (intro hC; skip; go_simp; done) | (intro hC; skip; go_simp; rfl)); clear hK K))
    refine flow_fence rfl (fun X hX K hK => ?_)
    have hbX := heap_later hX.out HB.out
    refine step_appendK rfl rfl rfl rfl (run_shift X g (i + 1) i cur l _ hbX h1 H3.out H4.out hi _ _ _ (by omega) (by first | (left; omega; done) | (right; rfl))) ?_
    refine hK.out _ _ (fun Z => w.grownBy Z (some g) ∧ Z.heap[g]? = some (.cells ((withoutE l i).flatMap pstepCells ++ cur.toList.drop ((l.length - 1) * 3)).toArray 36 (0, 0))) (fun Z => w.grownBy Z (some g) ∧ Z.heap[g]? = some (.cells ((withoutE l i).flatMap pstepCells ++ cur.toList.drop ((l.length - 1) * 3)).toArray 36 (0, 0))) (fun Z Z' hZ hb => ⟨grown_below hZ.1 hb, heap_later hb hZ.2⟩) (fun _ h => h) ⟨setRow_grown (below_grown hX.out _) _, setRow_heap X g _ _ _ _ hbX⟩ ?_
    clear hK K hX hbX
    repeat ((first | refine flow_calm (fun K hK => ?_) | refine flow_free (fun K hK => ?_) | refine float_calm (fun K hK => ?_) | refine float_free (fun K hK => ?_)); go_simp; first | (refine hK _ ?_; clear hK K) | (apply Exists.intro; (refine ⟨fun X => ?_, hK _ ?_⟩); (first | (intro hC; rfl) | rfl | (intro hC; skip; go_simp; done) | (intro hC; skip; go_simp; rfl)); clear hK K))
    refine flow_nil ?_
    intro Y hY
    have HY := Lib.hid hY.out.1
    have HG := Lib.hid hY.out.2
    clear hY
    have HLw := Lib.hid (show ((withoutE l i).flatMap pstepCells).length = (l.length - 1) * 3 by rw [len_flat 3 pstepCells (fun _ => rfl), len_without hi])
    have hl1' := Lib.hid hl1
    go_wp2_with (refine list_clearW rfl rfl rfl (run_clearK Y 22 36 _ zStep Try.underlying22 zero_pstep zStep_one g _ _ _ _ _ HG.out ?hf ?hp) ?_; (case hf => simp only [List.size_toArray, List.length_append, HLw.out, List.length_drop, Array.length_toList, H3.out]; simp [zStep, Value.cells]; omega); (case hp => omega); intro Z HZ)
    go_ret
    rw [HZ.out]
    refine ⟨_, rfl, ?_, setRow_grown HY.out _, rfl⟩
    have := own_shift (base := h0) (w := Y) (cap := i + 1) (i := i) (l := l) hg HG.out h1 h2 (by simp only [List.size_toArray, List.length_append, HLw.out, List.length_drop, Array.length_toList, H3.out]; omega) hi ((Builtin.zeroCells zStep.cells 1).toList ++ (cur.toList.drop ((l.length - 1) * 3)).drop 3) (by simp only [List.length_append, List.length_drop, Array.length_toList, H3.out]; simp [zStep, Value.cells, Builtin.zeroCells]; omega)
    have e1 : (((withoutE l i).flatMap pstepCells ++ cur.toList.drop ((l.length - 1) * 3)).toArray.toList.take (i * 3)) = (withoutE l i).flatMap pstepCells := by
      rw [show i * 3 = ((withoutE l i).flatMap pstepCells).length by rw [HLw.out]; omega]
      simp
    have e2 : (((withoutE l i).flatMap pstepCells ++ cur.toList.drop ((l.length - 1) * 3)).toArray.toList.drop (i * 3 + (Builtin.zeroCells zStep.cells 1).toList.length)) = (cur.toList.drop ((l.length - 1) * 3)).drop 3 := by
      rw [show i * 3 + (Builtin.zeroCells zStep.cells 1).toList.length = ((withoutE l i).flatMap pstepCells).length + 3 by rw [HLw.out]; simp [zStep, Value.cells, Builtin.zeroCells]; omega]
      rw [List.toList_toArray, List.drop_append, List.drop_of_length_le (by omega)]
      simp
    have e3 : 1 = 1 := by omega
    rw [e3, e1, e2, List.append_assoc]
    have e4 : l.length - 1 = i := by omega
    rw [e4] at this ⊢
    exact this
  · go_enter Try.func35, Try.ntmps35
    go_upto_region 5 with fail
    refine wp_region_flow [.free 0, .free 1, .free 2, .free 3, .free 4, .free 5, .fence 6, .free 7] (Below w.heap.size w) (Below w.heap.size w) (stable_below _ _ (Nat.le_refl _)) (fun _ h => h) (by kernel_rfl) (by kernel_rfl) (below_drew1 (Below.refl _ _)) ?_
    simp only [pickEnts, pickF, List.getElem?_cons_succ, List.getElem?_cons_zero, List.filterMap_cons, List.filterMap_nil, Option.map_some]
    repeat ((first | refine flow_calm (fun K hK => ?_) | refine flow_free (fun K hK => ?_) | refine float_calm (fun K hK => ?_) | refine float_free (fun K hK => ?_)); go_simp; first | (refine hK _ ?_; clear hK K) | (apply Exists.intro; (refine ⟨fun X => ?_, hK _ ?_⟩); (first | (intro hC; rfl) | rfl | (intro hC; skip; go_simp; done) | (intro hC; skip; go_simp; rfl)); clear hK K))
    refine flow_fence rfl (fun X hX K hK => ?_)
    have hbX := heap_later hX.out HB.out
    refine step_appendK rfl rfl rfl rfl (run_shift X g cap i cur l _ hbX h1 H3.out H4.out hi _ _ _ (by omega) (by first | (left; omega; done) | (right; rfl))) ?_
    refine hK.out _ _ (fun Z => w.grownBy Z (some g) ∧ Z.heap[g]? = some (.cells ((withoutE l i).flatMap pstepCells ++ cur.toList.drop ((l.length - 1) * 3)).toArray 36 (0, 0))) (fun Z => w.grownBy Z (some g) ∧ Z.heap[g]? = some (.cells ((withoutE l i).flatMap pstepCells ++ cur.toList.drop ((l.length - 1) * 3)).toArray 36 (0, 0))) (fun Z Z' hZ hb => ⟨grown_below hZ.1 hb, heap_later hb hZ.2⟩) (fun _ h => h) ⟨setRow_grown (below_grown hX.out _) _, setRow_heap X g _ _ _ _ hbX⟩ ?_
    clear hK K hX hbX
    repeat ((first | refine flow_calm (fun K hK => ?_) | refine flow_free (fun K hK => ?_) | refine float_calm (fun K hK => ?_) | refine float_free (fun K hK => ?_)); go_simp; first | (refine hK _ ?_; clear hK K) | (apply Exists.intro; (refine ⟨fun X => ?_, hK _ ?_⟩); (first | (intro hC; rfl) | rfl | (intro hC; skip; go_simp; done) | (intro hC; skip; go_simp; rfl)); clear hK K))
    refine flow_nil ?_
    intro Y hY
    have HY := Lib.hid hY.out.1
    have HG := Lib.hid hY.out.2
    clear hY
    have HLw := Lib.hid (show ((withoutE l i).flatMap pstepCells).length = (l.length - 1) * 3 by rw [len_flat 3 pstepCells (fun _ => rfl), len_without hi])
    have hL1 : i + (l.length - (i + 1)) + 1 = l.length := by omega
    generalize i + (l.length - (i + 1)) = L1 at hL1 ⊢
    have ha1 : (L1 : Int) ≤ (l.length : Int) := by omega
    have ha2 : L1 ≤ l.length := by omega
    have ha3 : ¬ (cap = L1) := by omega
    have ha4 : (L1 : Int) ≤ (cap : Int) := by omega
    have ha5 : (0 : Int) ≤ (L1 : Int) := by omega
    go_wp2_with (refine list_clearW rfl rfl rfl (run_clearK Y 22 36 _ zStep Try.underlying22 zero_pstep zStep_one g _ _ _ _ _ HG.out ?hf ?hp) ?_; (case hf => simp only [List.size_toArray, List.length_append, HLw.out, List.length_drop, Array.length_toList, H3.out]; simp [zStep, Value.cells]; omega); (case hp => omega); intro Z HZ)
    go_ret
    rw [HZ.out]
    refine ⟨_, rfl, ?_, setRow_grown HY.out _, rfl⟩
    have := own_shift (base := h0) (w := Y) (cap := cap) (i := i) (l := l) hg HG.out h1 h2 (by simp only [List.size_toArray, List.length_append, HLw.out, List.length_drop, Array.length_toList, H3.out]; omega) hi ((Builtin.zeroCells zStep.cells 1).toList ++ (cur.toList.drop ((l.length - 1) * 3)).drop 3) (by simp only [List.length_append, List.length_drop, Array.length_toList, H3.out]; simp [zStep, Value.cells, Builtin.zeroCells]; omega)
    have e1 : (((withoutE l i).flatMap pstepCells ++ cur.toList.drop ((l.length - 1) * 3)).toArray.toList.take (L1 * 3)) = (withoutE l i).flatMap pstepCells := by
      rw [show L1 * 3 = ((withoutE l i).flatMap pstepCells).length by rw [HLw.out]; omega]
      simp
    have e2 : (((withoutE l i).flatMap pstepCells ++ cur.toList.drop ((l.length - 1) * 3)).toArray.toList.drop (L1 * 3 + (Builtin.zeroCells zStep.cells 1).toList.length)) = (cur.toList.drop ((l.length - 1) * 3)).drop 3 := by
      rw [show L1 * 3 + (Builtin.zeroCells zStep.cells 1).toList.length = ((withoutE l i).flatMap pstepCells).length + 3 by rw [HLw.out]; simp [zStep, Value.cells, Builtin.zeroCells]; omega]
      rw [List.toList_toArray, List.drop_append, List.drop_of_length_le (by omega)]
      simp
    have e3 : (l.length - L1) = 1 := by omega
    rw [e3, e1, e2, List.append_assoc]
    have e4 : l.length - 1 = L1 := by omega
    rw [e4] at this ⊢
    exact this
end Go.Proofs.Ytemkloildadokaa
set_option linter.unusedVariables false
set_option linter.unusedSimpArgs false
/-! A line does not remember how it came to be: no program in sight. -/
namespace Go.Proofs.Ytemkloildadokaa
theorem incp_pair : ∀ {l : List PStep}, incB l = true ↔ l.Pairwise fun a b => a.at_ < b.at_
  | [] => by simp [incB]
  | s :: l => by
    rw [List.pairwise_cons, ← incp_pair (l := l)]
    refine ⟨fun h => inc_cons h, fun h => ?_⟩
    cases l with
    | nil => simp [incB]
    | cons t l =>
      rw [incB]
      simp only [Bool.and_eq_true, decide_eq_true_eq]
      exact ⟨h.1 t (by simp), h.2⟩
theorem incp_nodup {l : List PStep} (h : incB l = true) : l.Nodup := (incp_pair.1 h).imp fun {a b} h e => by rw [e] at h; omega
theorem incp_filter {l : List PStep} (h : incB l = true) (p : PStep → Bool) : incB (l.filter p) = true := incp_pair.2 ((incp_pair.1 h).filter p)
/-- Whether steps find something, by numbers. -/
def okN : Nat → List PStep → Bool
  | _, [] => true
  | n, s :: l => if s.do_ = 2 then (match n with | 0 => false | n + 1 => okN n l) else okN (n + 1) l
theorem okN_cons (n : Nat) (s : PStep) (l : List PStep) : okN n (s :: l) = if s.do_ = 2 then (match n with | 0 => false | n + 1 => okN n l) else okN (n + 1) l := by cases n <;> rfl
theorem run_okN : ∀ (l : List PStep) (q : List PElem), (runE q l).isSome = okN q.length l
  | [], q => rfl
  | s :: l, q => by
    rw [runE, okN_cons]
    by_cases h : s.do_ = 2
    · rw [if_pos h]
      cases q with
      | nil => simp [nextE, h]
      | cons y q =>
        have : nextE (y :: q) s = some (q, y) := by simp [nextE, h]
        rw [this]
        exact run_okN l q
    · rw [if_neg h]
      have : nextE q s = some (insE ⟨s.key, s.at_⟩ q, ⟨s.key, s.at_⟩) := by simp [nextE, h]
      rw [this]
      simp only
      rw [run_okN l, len_ins]
theorem okN_mono : ∀ {l : List PStep} {n m : Nat}, n ≤ m → okN n l = true → okN m l = true
  | [], _, _, _, _ => rfl
  | s :: l, n, m, h, ho => by
    rw [okN_cons] at ho ⊢
    split
    · rename_i h2
      rw [if_pos h2] at ho
      match n, m, h, ho with
      | n + 1, m + 1, h, ho => exact okN_mono (by omega) ho
    · rename_i h2
      rw [if_neg h2] at ho
      exact okN_mono (by omega) ho
theorem okN_fewer {p : PStep → Bool} : ∀ {l : List PStep} {n : Nat}, (∀ s ∈ l, s.do_ ≠ 2 → p s = true) → okN n l = true → okN n (l.filter p) = true
  | [], _, _, _ => rfl
  | s :: l, n, hp, ho => by
    have hp' : ∀ s ∈ l, s.do_ ≠ 2 → p s = true := fun x hx => hp x (List.mem_cons_of_mem _ hx)
    rw [okN_cons] at ho
    by_cases h2 : s.do_ = 2
    · rw [if_pos h2] at ho
      cases n with
      | zero => cases ho
      | succ n =>
        rw [List.filter_cons]
        split
        · rw [okN_cons, if_pos h2]
          exact okN_fewer hp' ho
        · exact okN_mono (Nat.le_succ n) (okN_fewer hp' ho)
    · rw [if_neg h2] at ho
      rw [List.filter_cons, if_pos (hp s (by simp) h2), okN_cons, if_neg h2]
      exact okN_fewer hp' ho
theorem okN_ins : ∀ {l : List PStep} (n : Nat), (∀ s ∈ l, s.do_ ≠ 2) → okN n l = true
  | [], _, _ => rfl
  | s :: l, n, h => by
    rw [okN_cons, if_neg (h s (by simp))]
    exact okN_ins (n + 1) fun x hx => h x (List.mem_cons_of_mem _ hx)
/-- Which steps are kept: only those that bring, or all of them and some that take. -/
def KeepsE (l : List PStep) (d : Int) (p : PStep → Bool) : Prop :=
  if d = 1 then ∀ s ∈ l, p s = true → s.do_ = 1 else ∀ s ∈ l, s.do_ = 1 → p s = true
theorem part_line {l : List PStep} (h : lineB l = true) {d : Int} {p : PStep → Bool} (hk : KeepsE l d p) : lineB (l.filter p) = true := by
  have g := line_of h
  refine line_mk (fun s hs => line_steps h s ((List.mem_filter.1 hs).1)) (incp_filter g.inc p) (Nat.le_trans (List.length_filter_le _ _) g.len) ?_
  rw [run_okN]
  unfold KeepsE at hk
  split at hk
  · refine okN_ins _ fun s hs => ?_
    obtain ⟨h1, h2⟩ := List.mem_filter.1 hs
    have := hk s h1 h2
    omega
  · refine okN_fewer (fun s hs h2 => hk s hs (by have := (g.steps s hs).2.2; omega)) ?_
    have := g.run
    rwa [run_okN] at this
theorem keeps_more {l : List PStep} {d : Int} {p : PStep → Bool} (hk : KeepsE l d p) {s : PStep} (hd : s.do_ = d) : KeepsE l d (fun x => p x || x == s) := by
  unfold KeepsE at hk ⊢
  split at hk
  · rename_i h1
    rw [if_pos h1]
    intro x hx hp
    rw [Bool.or_eq_true] at hp
    rcases hp with hp | hp
    · exact hk x hx hp
    · have : x = s := by simpa using hp
      rw [this, hd, h1]
  · rename_i h1
    rw [if_neg h1]
    intro x hx h2
    show (p x || x == s) = true
    rw [hk x hx h2]; rfl
theorem upto_gt {t : Int} {P S : List PStep} (h1 : ∀ s ∈ P, s.at_ < t) (h2 : ∀ s ∈ S, t < s.at_) : placeE t (P ++ S) = P.length := by
  induction P with
  | nil =>
    cases S with
    | nil => rfl
    | cons s S => rw [List.nil_append, placeE, if_neg (by have := h2 s (by simp); omega)]; rfl
  | cons s P ih =>
    rw [List.cons_append, placeE, if_pos (h1 s (by simp)), ih fun x hx => h1 x (List.mem_cons_of_mem _ hx)]
    rfl
/-- A step of a line, put into a part of it. -/
theorem order_put {l : List PStep} (h : lineB l = true) {d : Int} {p : PStep → Bool} (hk : KeepsE l d p) {s : PStep} (hs : s ∈ l) (hps : p s = false) (hd : s.do_ = d) :
    (insertE (l.filter p) s).err = 0 ∧ (insertE (l.filter p) s).line = l.filter (fun x => p x || x == s) := by
  have g := line_of h
  have hl := part_line h hk
  have hl' := part_line h (keeps_more hk hd)
  obtain ⟨P, S, e⟩ := List.append_of_mem hs
  subst e
  obtain ⟨i1, i2, i3⟩ := inc_append g.inc
  obtain ⟨j1, j2⟩ := inc_cons i2
  have e0 : (P ++ s :: S).filter p = P.filter p ++ S.filter p := by rw [List.filter_append, List.filter_cons, if_neg (by rw [hps]; simp)]
  have hP : ∀ x ∈ P.filter p, x.at_ < s.at_ := fun x hx => i3 x ((List.mem_filter.1 hx).1) s (by simp)
  have hS : ∀ x ∈ S.filter p, s.at_ < x.at_ := fun x hx => j1 x ((List.mem_filter.1 hx).1)
  have eP : P.filter (fun x => p x || x == s) = P.filter p := List.filter_congr fun x hx => by
    have : x ≠ s := fun e => by have := i3 x hx s (by simp); rw [e] at this; omega
    simp [this]
  have eS : S.filter (fun x => p x || x == s) = S.filter p := List.filter_congr fun x hx => by
    have : x ≠ s := fun e => by have := j1 x hx; rw [e] at this; omega
    simp [this]
  have e1 : (P ++ s :: S).filter (fun x => p x || x == s) = P.filter p ++ s :: S.filter p := by
    rw [List.filter_append, List.filter_cons, if_pos (by simp), eP, eS]
  rw [e1] at hl' ⊢
  rw [e0] at hl ⊢
  have hpl := upto_gt hP hS
  have hw : withE (P.filter p ++ S.filter p) s = P.filter p ++ s :: S.filter p := by rw [withE, hpl]; simp
  have hh : hasE (P.filter p ++ S.filter p) s.at_ = false := by
    rw [has_part hpl]
    cases hS0 : S.filter p with
    | nil => rfl
    | cons u T => have := hS u (by rw [hS0]; simp); simp; omega
  have hlen : (P.filter p ++ S.filter p).length < 60 := by
    have h1 := List.length_filter_le p P
    have h2 := List.length_filter_le p S
    have h3 := g.len
    simp only [List.length_append, List.length_cons] at h3 ⊢
    omega
  have hst := line_steps h s (by simp)
  rw [insertE, if_neg (by rw [hl, hst]; simp), if_neg (by rw [hh]; simp), if_neg (by omega), hw, if_neg (by rw [hl']; simp)]
  split <;> exact ⟨rfl, rfl⟩
/-- The steps that are left, without one of them. -/
theorem left_less {l : List PStep} (h : incB l = true) {q : PStep → Bool} {k : Nat} {s : PStep} (hk : (l.filter q)[k]? = some s) :
    withoutE (l.filter q) k = l.filter (fun x => q x && !(x == s)) := by
  have hn := incp_nodup (incp_filter h q)
  have e : l.filter (fun x => q x && !(x == s)) = (l.filter q).filter (fun x => !(x == s)) := by
    rw [List.filter_filter]
    exact List.filter_congr fun x _ => Bool.and_comm _ _
  rw [e]
  generalize l.filter q = m at hk hn ⊢
  induction m generalizing k with
  | nil => simp at hk
  | cons y m ih =>
    obtain ⟨n1, n2⟩ := List.nodup_cons.1 hn
    cases k with
    | zero =>
      obtain rfl : y = s := by simpa using hk
      rw [List.filter_cons, if_neg (by simp)]
      have : m.filter (fun x => !(x == y)) = m := List.filter_eq_self.2 fun x hx => by
        have : x ≠ y := fun e => n1 (by rw [← e]; exact hx)
        simp [this]
      rw [this]; rfl
    | succ k =>
      have hk' : m[k]? = some s := by simpa using hk
      have hys : y ≠ s := fun e => n1 (by rw [e]; exact List.mem_of_getElem? hk')
      rw [List.filter_cons, if_pos (by simp [hys])]
      have := ih hk' n2
      rw [← this]; rfl
/-- What holds between two steps that are put in. -/
structure OrdAt (l : List PStep) (d : Int) (out left : List PStep) : Prop where
  ex : ∃ p : PStep → Bool, KeepsE l d p ∧ out = l.filter p ∧ left = l.filter (fun x => x.do_ == d && !p x)
theorem OrdAt.start (l : List PStep) : OrdAt l 1 [] (l.filter (·.do_ == 1)) := ⟨fun _ => false, (by unfold KeepsE; rw [if_pos rfl]; intro s _ h; cases h), by simp, by simp⟩
theorem OrdAt.turn {l out : List PStep} (h : OrdAt l 1 out []) : OrdAt l 2 out (l.filter (·.do_ == 2)) := by
  obtain ⟨p, h1, h2, h3⟩ := h
  unfold KeepsE at h1
  rw [if_pos rfl] at h1
  refine ⟨p, ?_, h2, List.filter_congr fun x hx => ?_⟩
  · unfold KeepsE
    rw [if_neg (by decide)]
    intro s hs hd
    have := List.filter_eq_nil_iff.1 h3.symm s hs
    simpa [hd] using this
  · by_cases hp : p x = true
    · have := h1 x hx hp; simp [this]
    · simp [hp]
theorem OrdAt.done {l out : List PStep} (h : lineB l = true) (ho : OrdAt l 2 out []) : out = l := by
  obtain ⟨p, h1, h2, h3⟩ := ho
  unfold KeepsE at h1
  rw [if_neg (by decide)] at h1
  rw [h2]
  refine List.filter_eq_self.2 fun s hs => ?_
  have := List.filter_eq_nil_iff.1 h3.symm s hs
  rcases ((line_of h).steps s hs).2.2 with e | e
  · exact h1 s hs e
  · simpa [e.1] using this
theorem OrdAt.next {l out left : List PStep} {d : Int} (h : lineB l = true) (ho : OrdAt l d out left) {k : Nat} {s : PStep} (hk : left[k]? = some s) :
    lineB out = true ∧ (insertE out s).err = 0 ∧ OrdAt l d (insertE out s).line (withoutE left k) := by
  obtain ⟨p, h1, h2, h3⟩ := ho
  subst h2 h3
  have hm := List.mem_of_getElem? hk
  obtain ⟨m1, m2⟩ := List.mem_filter.1 hm
  simp only [Bool.and_eq_true, beq_iff_eq, Bool.not_eq_true'] at m2
  obtain ⟨e1, e2⟩ := order_put h h1 m1 m2.2 m2.1
  refine ⟨part_line h h1, e1, _, keeps_more h1 m2.1, e2, ?_⟩
  rw [left_less (line_of h).inc hk]
  refine List.filter_congr fun x _ => ?_
  simp [Bool.and_assoc]
theorem OrdAt.len {l out left : List PStep} {d : Int} (ho : OrdAt l d out left) : out.length ≤ l.length ∧ left.length ≤ l.length := by
  obtain ⟨p, h1, rfl, rfl⟩ := ho
  exact ⟨List.length_filter_le _ _, List.length_filter_le _ _⟩
/-- What is deleted and inserted again. -/
theorem order_back {l : List PStep} (h : lineB l = true) {i : Nat} {s : PStep} (hi : l[i]? = some s) :
    (lineB (withoutE l i) = false → (deleteE l s.at_).err = 7) ∧
    (lineB (withoutE l i) = true → (deleteE l s.at_).err = 0 ∧ (deleteE l s.at_).line = withoutE l i ∧ (insertE (withoutE l i) s).err = 0 ∧ (insertE (withoutE l i) s).line = l ∧
      (insertE (withoutE l i) s).more = !(deleteE l s.at_).more ∧ (insertE (withoutE l i) s).spans = (deleteE l s.at_).spans) := by
  have g := line_of h
  have hlt := (List.getElem?_eq_some_iff.1 hi).1
  have he := (List.getElem?_eq_some_iff.1 hi).2
  have hl : l = l.take i ++ s :: l.drop (i + 1) := by rw [← he, List.getElem_cons_drop, List.take_append_drop]
  have hPl : (l.take i).length = i := by rw [List.length_take]; omega
  have hst := line_steps h s (List.mem_of_getElem? hi)
  generalize l.take i = P at hl hPl
  generalize l.drop (i + 1) = S at hl
  subst hl hPl
  obtain ⟨i1, i2, i3⟩ := inc_append g.inc
  obtain ⟨j1, j2⟩ := inc_cons i2
  have hP : ∀ x ∈ P, x.at_ < s.at_ := fun x hx => i3 x hx s (by simp)
  have hpl := upto_gt hP j1
  have hpl2 : placeE s.at_ (P ++ s :: S) = P.length := by
    clear hi hlt he h g hst i1 i2 i3 hpl
    induction P with
    | nil => rw [List.nil_append, placeE, if_neg (by omega)]; rfl
    | cons y P ih => rw [List.cons_append, placeE, if_pos (hP y (by simp)), ih fun x hx => hP x (List.mem_cons_of_mem _ hx)]; rfl
  have hw : withoutE (P ++ s :: S) P.length = P ++ S := by simp [withoutE, List.drop_append]
  have hgt : ((P ++ s :: S)[P.length]?.getD default) = s := by simp
  have hh : hasE (P ++ s :: S) s.at_ = true := by rw [has_part hpl2]; simp
  rw [hw]
  have hn1 : ¬ lineB (P ++ s :: S) = false := by rw [h]; simp
  have hdel : deleteE (P ++ s :: S) s.at_ = if lineB (P ++ S) = false then noRes 7 else if s.do_ = 2 then ⟨P ++ S, true, walkedE (P ++ S) (P ++ s :: S) s.at_ ((takenE (P ++ s :: S) s.at_).getD ⟨0, 0⟩), 0⟩ else ⟨P ++ S, false, walkedE (P ++ s :: S) (P ++ S) s.at_ ⟨s.key, s.at_⟩, 0⟩ := by
    rw [deleteE, if_neg hn1, if_neg (by rw [hh]; simp), hpl2, hw, hgt]
  rw [hdel]
  refine ⟨fun e => by rw [if_pos e]; rfl, fun e => ?_⟩
  have hh2 : hasE (P ++ S) s.at_ = false := by
    rw [has_part hpl]
    cases S with
    | nil => rfl
    | cons u T => have := j1 u (by simp); simp; omega
  have hlen : (P ++ S).length < 60 := by
    have h3 := g.len
    simp only [List.length_append, List.length_cons] at h3 ⊢
    omega
  have hwe : withE (P ++ S) s = P ++ s :: S := by rw [withE, hpl]; simp
  have hins : insertE (P ++ S) s = if s.do_ = 1 then ⟨P ++ s :: S, true, walkedE (P ++ s :: S) (P ++ S) s.at_ ⟨s.key, s.at_⟩, 0⟩ else ⟨P ++ s :: S, false, walkedE (P ++ S) (P ++ s :: S) s.at_ ((takenE (P ++ s :: S) s.at_).getD ⟨0, 0⟩), 0⟩ := by
    rw [insertE, if_neg (by rw [e, hst]; simp), if_neg (by rw [hh2]; simp), if_neg (by omega), hwe, if_neg hn1]
  rw [if_neg (by rw [e]; simp), hins]
  by_cases hd : s.do_ = 1
  · rw [if_pos hd, if_neg (show ¬ s.do_ = 2 by omega)]; exact ⟨rfl, rfl, rfl, rfl, rfl, rfl⟩
  · have hd2 : s.do_ = 2 := by have := (g.steps s (by simp)).2.2; omega
    rw [if_neg hd, if_pos hd2]; exact ⟨rfl, rfl, rfl, rfl, rfl, rfl⟩
end Go.Proofs.Ytemkloildadokaa
