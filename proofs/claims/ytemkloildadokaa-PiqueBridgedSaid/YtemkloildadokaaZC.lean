/-
  Texts of one hand, laid together: PiqPlace, Raw, PiqDelete, PiqInsert, PiqFresh, PiqSort, PiqAll, PiqMend, PiqTaken, PiqEq, PiqWalk.
-/
import Derived.Test.YtemkloildadokaaZB
import Derived.Test.YtemkloildadokaaZA
import Derived.Lib.Overlaps
import Derived.Lib.AppendZerosOnto
import Derived.Test.YtemkloildadokaaShelf
import Derived.Test.YtemkloildadokaaWEqStruct
import Derived.WalkMore
set_option linter.unusedVariables false
set_option linter.unusedSimpArgs false
/-! Where a time stands in a line. -/
namespace Go.Proofs.Ytemkloildadokaa
open Go.RowKit Go.Shelf Go.Proofs.YtemkloildadokaaW.PrintWords
set_option maxRecDepth 100000 in
theorem p_Check (A : Option Addr) (c : Nat) (l : List PStep) (w : World) (hrow : PStepRow w A l.length l) :
    Calls Try.prog 31 #[.slice A l.length c] w fun e w' => e = .returned (.int .i64 (if lineB l = true then 0 else 2)) ∧ Below w.heap.size w w' := by
  have HR := Lib.hid hrow
  clear hrow
  cases hl : lineB l
  all_goals
    have HL := Lib.hid hl
    clear hl
    go_enter Try.func31, Try.ntmps31
    go_wp2_with (first
      | (go_at_call 63; (with_reducible refine (p_isLine A c l w HR.out).mono ?_); rintro e w2 ⟨rfl, hb⟩; simp only [HL.out]))
    go_ret
    exact ⟨rfl, hb⟩
set_option maxRecDepth 100000 in
theorem place1 (s : PStep) (t : Int) (w : World) :
    Calls Try.prog 99 #[.agg #[.int .i64 s.at_, .int .i64 s.do_, .int .i64 s.key], .int .i64 t] w fun e w' => e = .returned (.int .i64 (cmpI s.at_ t)) ∧ Below w.heap.size w w' := by
  have HC := Lib.hid (Cells.new w #[.int .i64 s.at_, .int .i64 s.do_, .int .i64 s.key] 36)
  have HB := Lib.hid (below_alloc (Below.refl w.heap.size w) (.cells #[.int .i64 s.at_, .int .i64 s.do_, .int .i64 s.key] 36))
  go_enter Try.func99, Try.ntmps99
  go_upto_region 1 with fail
  generalize w.alloc (.cells #[.int .i64 s.at_, .int .i64 s.do_, .int .i64 s.key] 36) = w1 at HC HB ⊢
  have s0 := HC.out.cell 0 _ rfl
  go_wp2_with (first
    | (go_at_call 100; (with_reducible refine (p_cmp _ _ _).mono ?_); rintro e w2 ⟨rfl, rfl⟩))
  go_ret
  exact ⟨rfl, HB.out⟩
theorem inc_mono : ∀ {l : List PStep}, incB l = true → ∀ {i j : Nat} {a b : PStep}, l[i]? = some a → l[j]? = some b → i < j → a.at_ < b.at_
  | [], _, i, j, a, b, h, _, _ => by simp at h
  | [s], _, i, j, a, b, h1, h2, hij => by
    cases j with
    | zero => omega
    | succ j => simp at h2
  | s :: u :: l, h, i, j, a, b, h1, h2, hij => by
    simp only [incB, Bool.and_eq_true, decide_eq_true_eq] at h
    have h' : incB (u :: l) = true := by simp only [incB, Bool.and_eq_true]; exact h.2
    cases j with
    | zero => omega
    | succ j =>
      cases i with
      | zero =>
        simp only [List.getElem?_cons_zero, Option.some.injEq] at h1
        subst h1
        cases j with
        | zero => simp only [List.getElem?_cons_succ, List.getElem?_cons_zero, Option.some.injEq] at h2; subst h2; exact h.1
        | succ j =>
          have := inc_mono h' (i := 0) (j := j + 1) (a := u) (b := b) (by simp) (by simpa using h2) (by omega)
          omega
      | succ i => exact inc_mono h' (i := i) (j := j) (by simpa using h1) (by simpa using h2) (by omega)
theorem place_at (t : Int) : ∀ (l : List PStep) (i : Nat), i ≤ l.length → (∀ k a, k < i → l[k]? = some a → a.at_ < t) → (∀ a, l[i]? = some a → t ≤ a.at_) → placeE t l = i
  | [], i, h, _, _ => by simp at h; subst h; rfl
  | s :: l, 0, _, _, h2 => by
    have := h2 s (by simp)
    rw [placeE, if_neg (by omega)]
  | s :: l, i + 1, h, h1, h2 => by
    have := h1 0 s (by omega) (by simp)
    rw [placeE, if_pos this, place_at t l i (by simpa using h) (fun k a hk ha => h1 (k + 1) a (by omega) (by simpa using ha)) (fun a ha => h2 a (by simpa using ha))]
/-- What a search knows. -/
structure SeekI (l : List PStep) (t : Int) (i j : Nat) : Prop where
  le : i ≤ j
  lt : j ≤ l.length
  lo : ∀ k a, k < i → l[k]? = some a → a.at_ < t
  hi : ∀ k a, j ≤ k → l[k]? = some a → t ≤ a.at_
theorem cmpI_neg (x y : Int) : decide (cmpI x y < 0) = decide (x < y) := by
  unfold cmpI
  split
  · rename_i h; simp [h]
  · rename_i h; split <;> simp [h]
theorem cmpI_zero (x y : Int) : (cmpI x y == 0) = decide (x = y) := by
  unfold cmpI
  split
  · rename_i h; simp; omega
  · rename_i h; split
    · simp; omega
    · simp; omega
set_option maxRecDepth 100000 in
set_option maxHeartbeats 8000000 in
theorem p_search (A : Option Addr) (c : Nat) (l : List PStep) (t : Int) (w : World) (hrow : PStepRow w A l.length l) (hi : incB l = true) (hl : l.length ≤ 60) :
    Calls Try.prog 98 #[.slice A l.length c, .int .i64 t, .func (.func 99) #[] #[]] w fun e w' => e = .returned (.tuple #[.int .i64 (placeE t l), .bool (hasE l t)]) ∧ Below w.heap.size w w' := by
  have HR := Lib.hid hrow
  have HI := Lib.hid hi
  clear hrow hi
  go_enter Try.func98, Try.ntmps98
  go_upto_region 3 with fail
  go_wp2
  go_loopw [9, 10] (fun i j wr => ∃ a b : Nat, i = .int .i64 a ∧ j = .int .i64 b ∧ Below w.heap.size w wr ∧ Hid (SeekI l t a b)) (fun i j _ => (intOf j - intOf i).toNat)
  case atStart => exact ⟨0, l.length, rfl, rfl, Below.refl _ _, Lib.hid ⟨Nat.zero_le _, Nat.le_refl _, fun k a h => by omega, fun k a h ha => by simp [List.getElem?_eq_none h] at ha⟩⟩
  case round =>
    obtain ⟨i, j, rfl, rfl, hB, hS⟩ := hrel
    have hle := hS.out.le
    have hjl := hS.out.lt
    by_cases hlt : i < j
    · obtain ⟨s, ad, -, -, hget, rfl, e0, e1, e2⟩ := pstep_at (Kd.C_below HR.out hB) ((i + j) / 2) (by omega)
      have Hget := Lib.hid hget
      clear hget
      cases hc : decide (s.at_ < t)
      all_goals
        have Hc := Lib.hid hc
        have Hn := Lib.hid ((cmpI_neg s.at_ t).trans hc)
        clear hc
        go_wp2_with (first
          | (go_at_call 99; (with_reducible refine (place1 s t _).mono ?_); rintro e w2 ⟨rfl, hb⟩; have hn := Hn.out))
      · have hc := of_decide_eq_false Hc.out
        have hg := Hget.out
        refine ⟨⟨i, (i + j) / 2, rfl, by first | rfl | (congr 1; omega), below_step hB hb, Lib.hid ⟨by omega, by omega, hS.out.lo, fun k a hk ha => ?_⟩⟩, by simp only [intOf]; omega⟩
        rcases Nat.eq_or_lt_of_le hk with e | e
        · rw [← e, hg] at ha; cases ha; omega
        · have := inc_mono HI.out hg ha e; omega
      · have hc := of_decide_eq_true Hc.out
        have hg := Hget.out
        refine ⟨⟨(i + j) / 2 + 1, j, by first | rfl | (congr 1; omega), rfl, below_step hB hb, Lib.hid ⟨by omega, hjl, fun k a hk ha => ?_, hS.out.hi⟩⟩, by simp only [intOf]; omega⟩
        rcases Nat.eq_or_lt_of_le (show k ≤ (i + j) / 2 by omega) with e | e
        · rw [e, hg] at ha; cases ha; exact hc
        · have := inc_mono HI.out ha hg e; omega
    · obtain rfl : i = j := by omega
      have hpl : placeE t l = i := place_at t l i hjl hS.out.lo (fun a ha => hS.out.hi i a (Nat.le_refl _) ha)
      by_cases hil : i < l.length
      · obtain ⟨s, ad, -, -, hget, rfl, e0, e1, e2⟩ := pstep_at (Kd.C_below HR.out hB) i hil
        have hhas : hasE l t = decide (s.at_ = t) := by unfold hasE; rw [hpl, hget]
        have Hh := Lib.hid (hhas.trans (cmpI_zero s.at_ t).symm)
        have Hpl := Lib.hid hpl
        have hil' : ((i : Int) < (l.length : Int)) := by omega
        clear hget hhas hpl hS hle hjl hlt
        go_wp2_with (first
          | (go_at_call 99; (with_reducible refine (place1 s t _).mono ?_); rintro e w2 ⟨rfl, hb⟩))
        refine bodyPost_ret (v := .tuple #[.int .i64 i, .bool (cmpI s.at_ t == 0)]) (by simp [results, Try.results98, go_sem]) rfl ?_
        exact ⟨by rw [Hpl.out, Hh.out], below_step hB hb⟩
      · have hhas : hasE l t = false := by unfold hasE; rw [hpl, List.getElem?_eq_none (by omega)]
        have Hh := Lib.hid hhas
        have Hpl := Lib.hid hpl
        have hil' : ¬ ((i : Int) < (l.length : Int)) := by omega
        clear hhas hpl hS hle hjl hlt
        go_wp2
        refine bodyPost_ret (v := .tuple #[.int .i64 i, .bool false]) (by simp [results, Try.results98, go_sem]) rfl ?_
        exact ⟨by rw [Hpl.out, Hh.out], hB⟩
set_option maxRecDepth 100000 in
theorem p_place (A : Option Addr) (c : Nat) (l : List PStep) (t : Int) (w : World) (hrow : PStepRow w A l.length l) (hi : incB l = true) (hl : l.length ≤ 60) :
    Calls Try.prog 72 #[.slice A l.length c, .int .i64 t] w fun e w' => e = .returned (.tuple #[.int .i64 (placeE t l), .bool (hasE l t)]) ∧ Below w.heap.size w w' := by
  have HR := Lib.hid hrow
  have HI := Lib.hid hi
  clear hrow hi
  go_enter Try.func72, Try.ntmps72
  go_wp2_with (first
    | (go_at_call 98; (with_reducible refine (p_search A c l t w HR.out HI.out hl).mono ?_); rintro e w2 ⟨rfl, hb⟩))
  refine bodyPost_ret (v := .tuple #[.int .i64 (placeE t l), .bool (hasE l t)]) (by simp [results, Try.results72, go_sem]) rfl ?_
  exact ⟨rfl, hb⟩
end Go.Proofs.Ytemkloildadokaa
set_option linter.unusedVariables false
set_option linter.unusedSimpArgs false
/-! Rows of the call's own as blocks of cells; copy, clear, append at elements of several cells. -/
namespace Go.Proofs.Ytemkloildadokaa
open Go Go.RowKit Go.Shelf Go.Proofs.YtemkloildadokaaW.PrintWords

theorem reps_flat {α : Type} {R : α → List Value → Prop} (sz : Nat) (f : α → List Value) (hR : ∀ x cs, R x cs → cs = f x) : ∀ (xs : List α) (inner : List Value), Reps R sz xs inner → inner = xs.flatMap f
  | [], inner, h => by have := h.1; simp at this; simp [this]
  | x :: xs, inner, h => by
    have h0 : inner.take sz = f x := by have := hR _ _ (h.2 0 x rfl); rwa [Nat.zero_mul, List.drop_zero] at this
    have hl : inner.length = (xs.length + 1) * sz := h.1
    have hr : Reps R sz xs (inner.drop sz) := ⟨by rw [List.length_drop, hl, Nat.add_mul]; omega, fun j p hj => by
      have := h.2 (j + 1) p (by simpa using hj)
      rw [List.drop_drop, show sz + j * sz = (j + 1) * sz by rw [Nat.add_mul]; omega]
      exact this⟩
    rw [List.flatMap_cons, ← h0, ← reps_flat sz f hR xs _ hr, List.take_append_drop]
theorem len_flat {α : Type} (sz : Nat) (f : α → List Value) (hf : ∀ x, (f x).length = sz) : ∀ xs : List α, (xs.flatMap f).length = xs.length * sz
  | [] => by simp
  | x :: xs => by rw [List.flatMap_cons, List.length_append, hf, len_flat sz f hf xs, List.length_cons, Nat.add_mul]; omega
theorem flat_reps {α : Type} {R : α → List Value → Prop} (sz : Nat) (f : α → List Value) (hf : ∀ x, (f x).length = sz) (hR : ∀ x, R x (f x)) : ∀ xs : List α, Reps R sz xs (xs.flatMap f)
  | [] => ⟨by simp, fun j p hj => by simp at hj⟩
  | x :: xs => by
    have ih := flat_reps sz f hf hR xs
    refine ⟨len_flat sz f hf _, fun j p hj => ?_⟩
    rcases j with _ | j
    · obtain rfl : x = p := by simpa using hj
      rw [Nat.zero_mul, List.drop_zero, List.flatMap_cons, List.take_append_of_le_length (by rw [hf]; exact Nat.le_refl _), List.take_of_length_le (by rw [hf]; exact Nat.le_refl _)]
      exact hR x
    · rw [List.flatMap_cons, List.drop_append, List.drop_of_length_le (by rw [hf, Nat.add_mul]; omega), List.nil_append, hf, show (j + 1) * sz - sz = j * sz by rw [Nat.add_mul]; omega]
      exact ih.2 j p (by simpa using hj)
theorem flat_take {α : Type} (sz : Nat) (f : α → List Value) (hf : ∀ x, (f x).length = sz) : ∀ (i : Nat) (xs : List α), (xs.take i).flatMap f = (xs.flatMap f).take (i * sz)
  | 0, xs => by simp
  | i + 1, [] => by simp
  | i + 1, x :: xs => by
    rw [List.take_succ_cons, List.flatMap_cons, List.flatMap_cons, flat_take sz f hf i xs, List.take_append, hf, List.take_of_length_le (l := f x) (by rw [hf, Nat.add_mul]; omega), show (i + 1) * sz - sz = i * sz by rw [Nat.add_mul]; omega]
theorem flat_drop {α : Type} (sz : Nat) (f : α → List Value) (hf : ∀ x, (f x).length = sz) : ∀ (i : Nat) (xs : List α), (xs.drop i).flatMap f = (xs.flatMap f).drop (i * sz)
  | 0, xs => by simp
  | i + 1, [] => by simp
  | i + 1, x :: xs => by
    rw [List.drop_succ_cons, List.flatMap_cons, flat_drop sz f hf i xs, List.drop_append, hf, List.drop_of_length_le (l := f x) (by rw [hf, Nat.add_mul]; omega), List.nil_append, show (i + 1) * sz - sz = i * sz by rw [Nat.add_mul]; omega]
/-- A row of the call's own, its block. -/
theorem own_raw {α : Type} {d : Kd α} (f : α → List Value) (hopen : ∀ w x cs, d.K w x cs → cs = f x) {e base : Nat} {w : World} {v : Value} {xs : List α} (h : Own d e w base v xs) : (v = .slice none 0 0 ∧ xs = []) ∨
    ∃ g cap cur, v = .slice (some ⟨g, 0, none⟩) xs.length cap ∧ base ≤ g ∧ w.heap[g]? = some (.cells cur e (0, 0)) ∧ xs.length ≤ cap ∧ cap ≤ maxLen ∧ cur.size = cap * d.sz ∧ cur.toList.take (xs.length * d.sz) = xs.flatMap f := by
  obtain ⟨_, inner, ho, hr⟩ := h
  obtain ⟨_, ⟨hv, h0⟩ | ⟨g, cap, cur, hv, hg, hb, h1, h2, h3, h4⟩⟩ := ho
  · exact .inl ⟨hv, by simpa using h0⟩
  · exact .inr ⟨g, cap, cur, hv, hg, hb, h1, h2, h3, h4.trans (reps_flat d.sz f (fun x cs hx => hopen _ _ _ (d.K_of_M hx)) xs inner hr)⟩
theorem raw_own {α : Type} {d : Kd α} (f : α → List Value) (hf : ∀ x, (f x).length = d.sz) (hmk : ∀ w base ok x, d.M w base ok x (f x)) {e base : Nat} {w : World} {g n cap : Nat} {cur : Array Value} {xs : List α} (hn : n = xs.length) (hg : base ≤ g) (hb : w.heap[g]? = some (.cells cur e (0, 0)))
    (h1 : n ≤ cap) (h2 : cap ≤ maxLen) (h3 : cur.size = cap * d.sz) (h4 : cur.toList.take (n * d.sz) = xs.flatMap f) : Own d e w base (.slice (some ⟨g, 0, none⟩) n cap) xs := by
  subst hn
  exact ⟨fun _ _ => trivial, xs.flatMap f, ⟨len_flat d.sz f hf xs, .inr ⟨g, cap, cur, rfl, hg, hb, h1, h2, h3, h4⟩⟩, flat_reps d.sz f hf (fun x => hmk _ _ _ x) xs⟩
variable {P : Program}
/-- copy, at elements of several cells, into a block that is known whole. -/
theorem run_copyK (w : World) (dT sT ty elem : TypeId) (sz : Nat) (g o dLen dCap : Nat) (a : Addr) (sLen sCap : Nat) (cur : Array Value) (t : TypeId) (cs : List Value)
    (hu : P.underlying dT = some (.slice elem)) (hs : (P.info? elem).map (·.size) = some sz)
    (hg : w.heap[g]? = some (.cells cur t (0, 0))) (hn : cs.length = Nat.min sLen dLen * sz)
    (hsrc : ∀ j v, cs[j]? = some v → w.cell? (a.add j) = some v) (hfit : o + cs.length ≤ cur.size) (h1 : ∀ v ∈ cs, v.oneCell' = true) :
    (Builtin.copy_ #[dT, sT] ty #[.slice (some ⟨g, o, none⟩) dLen dCap, .slice (some a) sLen sCap]).run P w =
      .ok (goInt (Nat.min sLen dLen)) (w.setRow g (cur.toList.take o ++ cs ++ cur.toList.drop (o + cs.length)).toArray) := by
  have hst := run_storeCells_at P g o t cs 0 cur w hg (by simpa using hfit) h1
  cases hq : P.info? elem with
  | none => simp [hq] at hs
  | some i =>
    have hi : i.size = sz := by simpa [hq] using hs
    have hl := run_firstCells_some (P := P) w sz (Nat.min sLen dLen) a sLen sCap cs hn hsrc
    simp [Builtin.copy_, run_underlying hu, Builtin.lenOf, sizeOf, typeInfo, hq, hi, hl, hst]
theorem run_copyK_none (w : World) (dT sT ty elem : TypeId) (sz : Nat) (dp sp : Option Addr) (dLen dCap sLen sCap : Nat)
    (hu : P.underlying dT = some (.slice elem)) (hs : (P.info? elem).map (·.size) = some sz) (hn : Nat.min sLen dLen = 0) :
    (Builtin.copy_ #[dT, sT] ty #[.slice dp dLen dCap, .slice sp sLen sCap]).run P w = .ok (goInt 0) w := by
  cases hq : P.info? elem with
  | none => simp [hq] at hs
  | some i =>
    have hi : i.size = sz := by simpa [hq] using hs
    have hl : (Builtin.firstCells sz 0 (.slice sp sLen sCap)).run P w = .ok #[] w := by
      cases sp with
      | none => exact run_firstCells_none w sz 0 sLen sCap
      | some a => exact run_firstCells_some w sz 0 a sLen sCap [] (by simp) (by simp)
    cases dp <;> simp [Builtin.copy_, run_underlying hu, Builtin.lenOf, sizeOf, typeInfo, hq, hi, hn, hl, storeCells]
theorem run_clearK (w : World) (t e ty : TypeId) (z : Value) (ht : P.underlying t = some (.slice e)) (hv : ∀ w, (zeroValue e).run P w = .ok z w) (hz : ∀ v ∈ z.cells, v.oneCell' = true) (g o n c : Nat) (cur : Array Value) (t' : TypeId) (hg : w.heap[g]? = some (.cells cur t' (0, 0))) (hfit : o + n * z.cells.size ≤ cur.size) (hn : 0 < n) :
    (Builtin.clear_ #[t] ty #[.slice (some ⟨g, o, none⟩) n c]).run P w = .ok (.tuple #[]) (w.setRow g (cur.toList.take o ++ (Builtin.zeroCells z.cells n).toList ++ cur.toList.drop (o + (Builtin.zeroCells z.cells n).toList.length)).toArray) := by
  have hl : (Builtin.zeroCells z.cells n).toList.length = n * z.cells.size := by simp [Builtin.zeroCells]
  have h1 : ∀ v ∈ (Builtin.zeroCells z.cells n).toList, v.oneCell' = true := by
    intro v hm
    simp only [Builtin.zeroCells, Array.toList_map, Array.toList_range, List.mem_map, List.mem_range] at hm
    obtain ⟨i, hi, rfl⟩ := hm
    have hs : 0 < z.cells.size := by
      rcases Nat.eq_zero_or_pos z.cells.size with h | h
      · rw [h] at hi; omega
      · exact h
    have hm := Nat.mod_lt i hs
    rw [getElem!_pos z.cells _ hm]
    exact hz _ (Array.getElem_mem _)
  have hst := run_storeCells_at P g o t' (Builtin.zeroCells z.cells n).toList 0 cur w hg (by rw [hl]; simpa using hfit) h1
  obtain ⟨m, rfl⟩ : ∃ m, n = m + 1 := ⟨n - 1, by omega⟩
  rw [Nat.add_zero] at hst
  simp only [Builtin.clear_, run_underlying ht, Sem.run_bind, Result.andThen_ok, hv, hst, List.getElem?_toArray, List.getElem?_cons_zero]
  rfl
theorem run_clear0 (w : World) (t e ty : TypeId) (a : Option Addr) (c : Nat) (ht : P.underlying t = some (.slice e)) :
    (Builtin.clear_ #[t] ty #[.slice a 0 c]).run P w = .ok (.tuple #[]) w := by
  cases a <;> simp [Builtin.clear_, run_underlying ht]
variable {ops : Array Oper} {rest : List Oper} {o : Oper} {a : Act} {Q : Exit → Act → World → Prop}
theorem step_appendK {w : World} {K : Act → World → Prop} {E : Prop} (hg : o.guard = none) {d x : Operand} {dT sT : TypeId} (hop : o.op = .call { callee := .builtin .append, args := #[d, x], argTypes := #[dT, sT] })
    {v u : Value} (hd : a.eval d = v) (hx : a.eval x = u) {v' : Value} {w' : World} (hr : (Builtin.append_ #[dT, sT] o.type #[v, u]).run P w = .ok v' w') (hK : K (a.put o.dst v') w') :
    if Region.wanted o (yielded ops a.tmps) = true then Oper.wp P o a w K Q else E := by
  have hw : Region.wanted o (yielded ops a.tmps) = true := by simp [Region.wanted, hg]
  rw [if_pos hw]
  unfold Oper.wp
  simp [execOp, hop, resolve, invoke, builtin, hd, hx, hr, Result.andThen]
  exact hK
theorem list_appendK {w : World} (hg : o.guard = none) {d x : Operand} {dT sT : TypeId} (hop : o.op = .call { callee := .builtin .append, args := #[d, x], argTypes := #[dT, sT] })
    {v u : Value} (hd : a.eval d = v) (hx : a.eval x = u) {v' : Value} {w' : World} (hr : (Builtin.append_ #[dT, sT] o.type #[v, u]).run P w = .ok v' w') (h : wpList P ops Q rest (a.put o.dst v') w') :
    wpList P ops Q (o :: rest) a w := by
  refine wpList_plain hg fun K hK => ?_
  unfold Oper.wp
  simp [execOp, hop, resolve, invoke, builtin, hd, hx, hr, Result.andThen]
  exact hK _ _ h
theorem step_copyK {w : World} {K : Act → World → Prop} {E : Prop} (hg : o.guard = none) {d x : Operand} {dT sT : TypeId} (hop : o.op = .call { callee := .builtin .copy, args := #[d, x], argTypes := #[dT, sT] })
    {v u : Value} (hd : a.eval d = v) (hx : a.eval x = u) {v' : Value} {w' : World} (hr : (Builtin.copy_ #[dT, sT] o.type #[v, u]).run P w = .ok v' w') (hK : K (a.put o.dst v') w') :
    if Region.wanted o (yielded ops a.tmps) = true then Oper.wp P o a w K Q else E := by
  have hw : Region.wanted o (yielded ops a.tmps) = true := by simp [Region.wanted, hg]
  rw [if_pos hw]
  unfold Oper.wp
  simp [execOp, hop, resolve, invoke, builtin, hd, hx, hr, Result.andThen]
  exact hK
theorem list_copyK {w : World} (hg : o.guard = none) {d x : Operand} {dT sT : TypeId} (hop : o.op = .call { callee := .builtin .copy, args := #[d, x], argTypes := #[dT, sT] })
    {v u : Value} (hd : a.eval d = v) (hx : a.eval x = u) {v' : Value} {w' : World} (hr : (Builtin.copy_ #[dT, sT] o.type #[v, u]).run P w = .ok v' w') (h : wpList P ops Q rest (a.put o.dst v') w') :
    wpList P ops Q (o :: rest) a w := by
  refine wpList_plain hg fun K hK => ?_
  unfold Oper.wp
  simp [execOp, hop, resolve, invoke, builtin, hd, hx, hr, Result.andThen]
  exact hK _ _ h
theorem list_clearK {w : World} (hg : o.guard = none) {d : Operand} {dT : TypeId} (hop : o.op = .call { callee := .builtin .clear, args := #[d], argTypes := #[dT] })
    {v : Value} (hd : a.eval d = v) {v' : Value} {w' : World} (hr : (Builtin.clear_ #[dT] o.type #[v]).run P w = .ok v' w') (h : wpList P ops Q rest (a.put o.dst v') w') :
    wpList P ops Q (o :: rest) a w := by
  refine wpList_plain hg fun K hK => ?_
  unfold Oper.wp
  simp [execOp, hop, resolve, invoke, builtin, hd, hr, Result.andThen]
  exact hK _ _ h
theorem list_clearW {w : World} (hg : o.guard = none) {d : Operand} {dT : TypeId} (hop : o.op = .call { callee := .builtin .clear, args := #[d], argTypes := #[dT] })
    {v : Value} (hd : a.eval d = v) {v' : Value} {w1 : World} (hr : (Builtin.clear_ #[dT] o.type #[v]).run P w = .ok v' w1) (h : ∀ w', Hid (w' = w1) → wpList P ops Q rest (a.put o.dst v') w') :
    wpList P ops Q (o :: rest) a w := list_clearK hg hop hd hr (h _ rfl)
theorem list_copyW {w : World} (hg : o.guard = none) {d x : Operand} {dT sT : TypeId} (hop : o.op = .call { callee := .builtin .copy, args := #[d, x], argTypes := #[dT, sT] })
    {v u : Value} (hd : a.eval d = v) (hx : a.eval x = u) {v' : Value} {w1 : World} (hr : (Builtin.copy_ #[dT, sT] o.type #[v, u]).run P w = .ok v' w1) (h : ∀ w', Hid (w' = w1) → wpList P ops Q rest (a.put o.dst v') w') :
    wpList P ops Q (o :: rest) a w := list_copyK hg hop hd hx hr (h _ rfl)
theorem list_appendW {w : World} (hg : o.guard = none) {d x : Operand} {dT sT : TypeId} (hop : o.op = .call { callee := .builtin .append, args := #[d, x], argTypes := #[dT, sT] })
    {v u : Value} (hd : a.eval d = v) (hx : a.eval x = u) {v' : Value} {w1 : World} (hr : (Builtin.append_ #[dT, sT] o.type #[v, u]).run P w = .ok v' w1) (h : ∀ w', Hid (w' = w1) → wpList P ops Q rest (a.put o.dst v') w') :
    wpList P ops Q (o :: rest) a w := list_appendK hg hop hd hx hr (h _ rfl)
theorem setRow_below {B g : Nat} {w0 w : World} (hb : Below B w0 w) (hBg : B ≤ g) (cs : Array Value) : Below B w0 (w.setRow g cs) := hb.trans ⟨rfl, rfl, rfl, by simp [World.setRow], fun k hk => setRow_other w g k cs (by omega)⟩
theorem raw_cell {w : World} {g : Nat} {cur : Array Value} {e : Nat} (h : w.heap[g]? = some (.cells cur e (0, 0))) (j : Nat) : w.cell? ⟨g, j, none⟩ = cur[j]? := by simp [World.cell?, h]
end Go.Proofs.Ytemkloildadokaa
set_option linter.unusedVariables false
set_option linter.unusedSimpArgs false
/-! slices.Delete at steps, walked. -/
namespace Go.Proofs.Ytemkloildadokaa
open Go.RowKit Go.Shelf Go.Proofs.YtemkloildadokaaW.PrintWords
def zStep : Value := .agg #[.int .i64 0, .int .i64 0, .int .i64 0]
theorem info_pstep : (Try.prog.info? 36).map (fun i => (i.zero, i.size, i.bytes)) = some (some zStep, 3, 24) := by kernel_rfl
theorem zero_pstep (w : World) : (zeroValue 36).run Try.prog w = .ok zStep w := by kernel_rfl
theorem pstep_one : ∀ (l : List PStep), ∀ v ∈ l.flatMap pstepCells, v.oneCell' = true := by
  intro l v hv
  obtain ⟨x, -, hx⟩ := List.mem_flatMap.1 hv
  simp [pstepCells] at hx
  rcases hx with rfl | rfl | rfl <;> rfl
theorem zStep_one : ∀ v ∈ zStep.cells, v.oneCell' = true := by
  intro v hv
  simp [zStep, Value.cells] at hv
  subst hv; rfl
/-- What is behind an element moves up by one. -/
theorem run_shift (w : World) (g cap i : Nat) (cur : Array Value) (l : List PStep) (ty : TypeId) (hb : w.heap[g]? = some (.cells cur 36 (0, 0))) (h1 : l.length ≤ cap) (h3 : cur.size = cap * 3) (h4 : cur.toList.take (l.length * 3) = l.flatMap pstepCells) (hi : i < l.length) (a : Addr) (m c : Nat) (hm : m = l.length - (i + 1)) (ha : l.length - (i + 1) = 0 ∨ a = ⟨g, (i + 1) * 3, none⟩) :
    (Builtin.append_ #[22, 22] ty #[.slice (some ⟨g, 0, none⟩) i cap, .slice (some a) m c]).run Try.prog w =
      .ok (.slice (some ⟨g, 0, none⟩) (i + m) cap) (w.setRow g (((withoutE l i).flatMap pstepCells) ++ cur.toList.drop ((l.length - 1) * 3)).toArray) := by
  subst hm
  obtain ⟨i0, hi0, hz⟩ := Option.map_eq_some_iff.1 info_pstep
  simp only [Prod.mk.injEq] at hz
  have hsz : i0.size = 3 := hz.2.1
  have hdl : ((l.drop (i + 1)).flatMap pstepCells).length = (l.length - (i + 1)) * 3 := by rw [len_flat 3 pstepCells (fun _ => rfl), List.length_drop]
  have hmul : l.length * 3 ≤ cap * 3 := Nat.mul_le_mul_right _ h1
  have h := run_append_room (P := Try.prog) w 22 ty 36 i0 Try.underlying22 hi0 g i cap cur hb a (l.length - (i + 1)) c ((l.drop (i + 1)).flatMap pstepCells) (by rw [hdl, hsz])
    (fun j u hj => by
      have hjl := (List.getElem?_eq_some_iff.1 hj).1
      rw [hdl] at hjl
      rcases ha with ha | rfl
      · rw [ha] at hjl; omega
      · rw [flat_drop 3 pstepCells (fun _ => rfl), List.getElem?_drop, ← h4, List.getElem?_take_of_lt (by omega), Array.getElem?_toList] at hj
        have e : (⟨g, (i + 1) * 3, none⟩ : Addr).add j = ⟨g, (i + 1) * 3 + j, none⟩ := by cases j <;> simp [Addr.add]
        rw [e, raw_cell hb]
        exact hj)
    (pstep_one _) (by omega) (by rw [hdl, hsz, h3]; omega)
  rw [h]
  have e2 : cur.toList.take (i * 3) = (l.take i).flatMap pstepCells := by
    rw [flat_take 3 pstepCells (fun _ => rfl), ← h4, List.take_take, Nat.min_eq_left (by omega)]
  rw [hsz, hdl, e2, withoutE, List.flatMap_append, show i * 3 + (l.length - (i + 1)) * 3 = (l.length - 1) * 3 by omega]
theorem len_without {l : List PStep} {i : Nat} (hi : i < l.length) : (withoutE l i).length = l.length - 1 := by
  rw [withoutE, List.length_append, List.length_take, List.length_drop]; omega
/-- The row behind the move. -/
theorem own_shift {w : World} {base g cap i : Nat} {cur : Array Value} {l : List PStep} (hg : base ≤ g) (hb : w.heap[g]? = some (.cells cur 36 (0, 0))) (h1 : l.length ≤ cap) (h2 : cap ≤ maxLen) (h3 : cur.size = cap * 3) (hi : i < l.length) (tl : List Value) (htl : tl.length = (cap - (l.length - 1)) * 3) :
    Own kPStep 36 (w.setRow g (((withoutE l i).flatMap pstepCells) ++ tl).toArray) base (.slice (some ⟨g, 0, none⟩) (l.length - 1) cap) (withoutE l i) := by
  have hl := len_flat 3 pstepCells (fun _ => rfl) (withoutE l i)
  rw [len_without hi] at hl
  refine raw_own (d := kPStep) pstepCells (fun _ => rfl) (fun _ _ _ x => kPStep_mkM _ _ _ x) (len_without hi).symm hg (setRow_heap w g _ _ _ _ hb) (by omega) h2 ?_ ?_
  · show _ = cap * 3
    simp only [List.size_toArray, List.length_append, hl, htl]
    omega
  · show ((_ : Array Value).toList.take ((l.length - 1) * 3)) = _
    rw [← hl]
    simp
set_option maxRecDepth 100000 in
set_option maxHeartbeats 4000000 in
theorem lib_Delete (h0 i : Nat) (v : Value) (l : List PStep) (w : World) (ho : Own kPStep 36 w h0 v l) (hi : i < l.length) (hl : l.length ≤ 60) (hh : h0 ≤ w.heap.size) :
    Calls Try.prog 35 #[v, .int .i64 i, .int .i64 ((i : Int) + 1)] w fun e w' => ∃ v1, e = .returned v1 ∧ Own kPStep 36 w' h0 v1 (withoutE l i) ∧ Below h0 w w' := by
  rcases own_raw pstepCells (fun _ _ _ h => kPStep_open h) ho with ⟨_, rfl⟩ | ⟨g, cap, cur, rfl, hg, hb, h1, h2, h3, h4⟩
  · simp at hi
  have hcap : cap ≤ 9223372036854775807 := h2
  have hi1 : i + 1 ≤ l.length := hi
  have hi2 : i + 1 ≤ cap := by omega
  have hi3 : i ≤ cap := by omega
  have hi4 : i ≤ l.length := by omega
  have hi5 : i ≤ i + 1 := by omega
  have hne : ((i : Int) == (i : Int) + 1) = false := by simp only [beq_eq_false_iff_ne]; omega
  have hn0 : (0 : Int) ≤ (i : Int) + 1 := by omega
  have hn1 : (i : Int) ≤ (i : Int) + 1 := by omega
  have hn2 : (i : Int) + 1 ≤ (l.length : Int) := by omega
  have hn3 : (i : Int) + 1 ≤ (cap : Int) := by omega
  have hn4 : (i : Int) ≤ (cap : Int) := by omega
  have hn5 : (l.length : Int) ≤ (cap : Int) := by omega
  have htn : ((i : Int) + 1).toNat = i + 1 := by omega
  have hci : ¬ (cap = i) := by omega
  have hli : ¬ (l.length = i) := by omega
  have HB := Lib.hid hb
  have H3 := Lib.hid (show cur.size = cap * 3 from h3)
  have H4 := Lib.hid (show cur.toList.take (l.length * 3) = l.flatMap pstepCells from h4)
  clear ho hb h4 h3
  by_cases hce : cap = i + 1
  · subst hce
    have hl1 : l.length = i + 1 := by omega
    go_enter Try.func35, Try.ntmps35
    go_upto_region 5 with fail
    refine wp_region_flow [.free 0, .free 1, .free 2, .free 3, .free 4, .free 5, .fence 6, .free 7] (Below w.heap.size w) (Below w.heap.size w) (stable_below _ _ (Nat.le_refl _)) (fun _ h => h) (by kernel_rfl) (by kernel_rfl) (below_drew1 (Below.refl _ _)) ?_
    simp only [pickEnts, pickF, List.getElem?_cons_succ, List.getElem?_cons_zero, List.filterMap_cons, List.filterMap_nil, Option.map_some]
    repeat ((first | refine flow_calm (fun K hK => ?_) | refine flow_free (fun K hK => ?_) | refine float_calm (fun K hK => ?_) | refine float_free (fun K hK => ?_)); go_simp; first | (refine hK _ ?_; clear hK K) | (apply Exists.intro; (refine ⟨fun X => ?_, hK _ ?_⟩); (first | (intro hC; rfl) | rfl | (intro hC; skip; go_simp; done) | (intro hC; skip; go_simp; rfl)); clear hK K))
    refine flow_fence rfl (fun X hX K hK => ?_)
    have hbX := heap_later hX.out HB.out
    refine step_appendK rfl rfl rfl rfl (run_shift X g (i + 1) i cur l _ hbX h1 H3.out H4.out hi _ _ _ (by omega) (by first | (left; omega; done) | (right; rfl))) ?_
    refine hK.out _ _ (fun Z => Below h0 w Z ∧ Z.heap[g]? = some (.cells ((withoutE l i).flatMap pstepCells ++ cur.toList.drop ((l.length - 1) * 3)).toArray 36 (0, 0))) (fun Z => Below h0 w Z ∧ Z.heap[g]? = some (.cells ((withoutE l i).flatMap pstepCells ++ cur.toList.drop ((l.length - 1) * 3)).toArray 36 (0, 0))) (fun Z Z' hZ hb => ⟨hZ.1.trans (Below.mono hb (Nat.le_trans hh hZ.1.size)), heap_later hb hZ.2⟩) (fun _ h => h) ⟨setRow_below (Below.mono hX.out hh) hg _, setRow_heap X g _ _ _ _ hbX⟩ ?_
    clear hK K hX hbX
    repeat ((first | refine flow_calm (fun K hK => ?_) | refine flow_free (fun K hK => ?_) | refine float_calm (fun K hK => ?_) | refine float_free (fun K hK => ?_)); go_simp; first | (refine hK _ ?_; clear hK K) | (apply Exists.intro; (refine ⟨fun X => ?_, hK _ ?_⟩); (first | (intro hC; rfl) | rfl | (intro hC; skip; go_simp; done) | (intro hC; skip; go_simp; rfl)); clear hK K))
    refine flow_nil ?_
    intro Y hY
    have HY := Lib.hid hY.out.1
    have HG := Lib.hid hY.out.2
    clear hY
    have HLw := Lib.hid (show ((withoutE l i).flatMap pstepCells).length = (l.length - 1) * 3 by rw [len_flat 3 pstepCells (fun _ => rfl), len_without hi])
    have hl1' := Lib.hid hl1
    go_wp2_with (refine list_clearW rfl rfl rfl (run_clearK Y 22 36 _ zStep Try.underlying22 zero_pstep zStep_one g _ _ _ _ _ HG.out ?hf ?hp) ?_; (case hf => simp only [List.size_toArray, List.length_append, HLw.out, List.length_drop, Array.length_toList, H3.out]; simp [zStep, Value.cells]; omega); (case hp => omega); intro Z HZ)
    go_ret
    rw [HZ.out]
    refine ⟨_, rfl, ?_, setRow_below HY.out hg _⟩
    have := own_shift (base := h0) (w := Y) (cap := i + 1) (i := i) (l := l) hg HG.out h1 h2 (by simp only [List.size_toArray, List.length_append, HLw.out, List.length_drop, Array.length_toList, H3.out]; omega) hi ((Builtin.zeroCells zStep.cells 1).toList ++ (cur.toList.drop ((l.length - 1) * 3)).drop 3) (by simp only [List.length_append, List.length_drop, Array.length_toList, H3.out]; simp [zStep, Value.cells, Builtin.zeroCells]; omega)
    have e1 : (((withoutE l i).flatMap pstepCells ++ cur.toList.drop ((l.length - 1) * 3)).toArray.toList.take (i * 3)) = (withoutE l i).flatMap pstepCells := by
      rw [show i * 3 = ((withoutE l i).flatMap pstepCells).length by rw [HLw.out]; omega]
      simp
    have e2 : (((withoutE l i).flatMap pstepCells ++ cur.toList.drop ((l.length - 1) * 3)).toArray.toList.drop (i * 3 + (Builtin.zeroCells zStep.cells 1).toList.length)) = (cur.toList.drop ((l.length - 1) * 3)).drop 3 := by
      rw [show i * 3 + (Builtin.zeroCells zStep.cells 1).toList.length = ((withoutE l i).flatMap pstepCells).length + 3 by rw [HLw.out]; simp [zStep, Value.cells, Builtin.zeroCells]; omega]
      rw [List.toList_toArray, List.drop_append, List.drop_of_length_le (by omega)]
      simp
    have e3 : 1 = 1 := by omega
    rw [e3, e1, e2, List.append_assoc]
    have e4 : l.length - 1 = i := by omega
    rw [e4] at this ⊢
    exact this
  · go_enter Try.func35, Try.ntmps35
    go_upto_region 5 with fail
    refine wp_region_flow [.free 0, .free 1, .free 2, .free 3, .free 4, .free 5, .fence 6, .free 7] (Below w.heap.size w) (Below w.heap.size w) (stable_below _ _ (Nat.le_refl _)) (fun _ h => h) (by kernel_rfl) (by kernel_rfl) (below_drew1 (Below.refl _ _)) ?_
    simp only [pickEnts, pickF, List.getElem?_cons_succ, List.getElem?_cons_zero, List.filterMap_cons, List.filterMap_nil, Option.map_some]
    repeat ((first | refine flow_calm (fun K hK => ?_) | refine flow_free (fun K hK => ?_) | refine float_calm (fun K hK => ?_) | refine float_free (fun K hK => ?_)); go_simp; first | (refine hK _ ?_; clear hK K) | (apply Exists.intro; (refine ⟨fun X => ?_, hK _ ?_⟩); (first | (intro hC; rfl) | rfl | (intro hC; skip; go_simp; done) | (intro hC; skip; go_simp; rfl)); clear hK K))
    refine flow_fence rfl (fun X hX K hK => ?_)
    have hbX := heap_later hX.out HB.out
    refine step_appendK rfl rfl rfl rfl (run_shift X g cap i cur l _ hbX h1 H3.out H4.out hi _ _ _ (by omega) (by first | (left; omega; done) | (right; rfl))) ?_
    refine hK.out _ _ (fun Z => Below h0 w Z ∧ Z.heap[g]? = some (.cells ((withoutE l i).flatMap pstepCells ++ cur.toList.drop ((l.length - 1) * 3)).toArray 36 (0, 0))) (fun Z => Below h0 w Z ∧ Z.heap[g]? = some (.cells ((withoutE l i).flatMap pstepCells ++ cur.toList.drop ((l.length - 1) * 3)).toArray 36 (0, 0))) (fun Z Z' hZ hb => ⟨hZ.1.trans (Below.mono hb (Nat.le_trans hh hZ.1.size)), heap_later hb hZ.2⟩) (fun _ h => h) ⟨setRow_below (Below.mono hX.out hh) hg _, setRow_heap X g _ _ _ _ hbX⟩ ?_
    clear hK K hX hbX
    repeat ((first | refine flow_calm (fun K hK => ?_) | refine flow_free (fun K hK => ?_) | refine float_calm (fun K hK => ?_) | refine float_free (fun K hK => ?_)); go_simp; first | (refine hK _ ?_; clear hK K) | (apply Exists.intro; (refine ⟨fun X => ?_, hK _ ?_⟩); (first | (intro hC; rfl) | rfl | (intro hC; skip; go_simp; done) | (intro hC; skip; go_simp; rfl)); clear hK K))
    refine flow_nil ?_
    intro Y hY
    have HY := Lib.hid hY.out.1
    have HG := Lib.hid hY.out.2
    clear hY
    have HLw := Lib.hid (show ((withoutE l i).flatMap pstepCells).length = (l.length - 1) * 3 by rw [len_flat 3 pstepCells (fun _ => rfl), len_without hi])
    have hL1 : i + (l.length - (i + 1)) + 1 = l.length := by omega
    generalize i + (l.length - (i + 1)) = L1 at hL1 ⊢
    have ha1 : (L1 : Int) ≤ (l.length : Int) := by omega
    have ha2 : L1 ≤ l.length := by omega
    have ha3 : ¬ (cap = L1) := by omega
    have ha4 : (L1 : Int) ≤ (cap : Int) := by omega
    have ha5 : (0 : Int) ≤ (L1 : Int) := by omega
    go_wp2_with (refine list_clearW rfl rfl rfl (run_clearK Y 22 36 _ zStep Try.underlying22 zero_pstep zStep_one g _ _ _ _ _ HG.out ?hf ?hp) ?_; (case hf => simp only [List.size_toArray, List.length_append, HLw.out, List.length_drop, Array.length_toList, H3.out]; simp [zStep, Value.cells]; omega); (case hp => omega); intro Z HZ)
    go_ret
    rw [HZ.out]
    refine ⟨_, rfl, ?_, setRow_below HY.out hg _⟩
    have := own_shift (base := h0) (w := Y) (cap := cap) (i := i) (l := l) hg HG.out h1 h2 (by simp only [List.size_toArray, List.length_append, HLw.out, List.length_drop, Array.length_toList, H3.out]; omega) hi ((Builtin.zeroCells zStep.cells 1).toList ++ (cur.toList.drop ((l.length - 1) * 3)).drop 3) (by simp only [List.length_append, List.length_drop, Array.length_toList, H3.out]; simp [zStep, Value.cells, Builtin.zeroCells]; omega)
    have e1 : (((withoutE l i).flatMap pstepCells ++ cur.toList.drop ((l.length - 1) * 3)).toArray.toList.take (L1 * 3)) = (withoutE l i).flatMap pstepCells := by
      rw [show L1 * 3 = ((withoutE l i).flatMap pstepCells).length by rw [HLw.out]; omega]
      simp
    have e2 : (((withoutE l i).flatMap pstepCells ++ cur.toList.drop ((l.length - 1) * 3)).toArray.toList.drop (L1 * 3 + (Builtin.zeroCells zStep.cells 1).toList.length)) = (cur.toList.drop ((l.length - 1) * 3)).drop 3 := by
      rw [show L1 * 3 + (Builtin.zeroCells zStep.cells 1).toList.length = ((withoutE l i).flatMap pstepCells).length + 3 by rw [HLw.out]; simp [zStep, Value.cells, Builtin.zeroCells]; omega]
      rw [List.toList_toArray, List.drop_append, List.drop_of_length_le (by omega)]
      simp
    have e3 : (l.length - L1) = 1 := by omega
    rw [e3, e1, e2, List.append_assoc]
    have e4 : l.length - 1 = L1 := by omega
    rw [e4] at this ⊢
    exact this
end Go.Proofs.Ytemkloildadokaa
set_option linter.unusedVariables false
set_option linter.unusedSimpArgs false
/-! slices.Insert at steps, walked. -/
namespace Go.Proofs.Ytemkloildadokaa
open Go.RowKit Go.Shelf Go.Proofs.YtemkloildadokaaW.PrintWords
def putAt (C : List Value) (o : Nat) (D : List Value) : List Value := C.take o ++ D ++ C.drop (o + D.length)
theorem len_putAt {C D : List Value} {o : Nat} (h : o + D.length ≤ C.length) : (putAt C o D).length = C.length := by simp [putAt]; omega
theorem put_room {C F D S : List Value} {i n : Nat} (h1 : C.take (n * 3) = F ++ D) (hF : F.length = i * 3) (hD : D.length = (n - i) * 3) (hS : S.length = 3) (hi : i ≤ n) (hC : (n + 1) * 3 ≤ C.length) :
    (putAt (putAt C ((i + 1) * 3) D) (i * 3) S).take ((n + 1) * 3) = F ++ S ++ D := by
  have e1 : (putAt C ((i + 1) * 3) D).take (i * 3) = F := by
    rw [putAt, List.append_assoc, List.take_append_of_le_length (by rw [List.length_take]; omega), List.take_take, Nat.min_eq_left (by omega)]
    have : C.take (i * 3) = (C.take (n * 3)).take (i * 3) := by rw [List.take_take, Nat.min_eq_left (by omega)]
    rw [this, h1, List.take_append_of_le_length (by omega), List.take_of_length_le (by omega)]
  have e2 : (putAt C ((i + 1) * 3) D).drop (i * 3 + S.length) = D ++ C.drop ((i + 1) * 3 + D.length) := by
    rw [putAt, List.append_assoc, List.drop_append, List.drop_of_length_le (by rw [List.length_take]; omega), List.nil_append, List.length_take, show i * 3 + S.length - min ((i + 1) * 3) C.length = 0 by omega]
    rfl
  rw [putAt, e1, e2, ← List.append_assoc]
  rw [List.take_append_of_le_length (by simp [hF, hD, hS]; omega), List.take_of_length_le (by simp [hF, hD, hS]; omega)]
theorem put_grown {R F D S : List Value} {i n : Nat} (h1 : R.take (i * 3) = F) (hF : F.length = i * 3) (hD : D.length = (n - i) * 3) (hS : S.length = 3) (hi : i ≤ n) (hR : (n + 1) * 3 ≤ R.length) :
    (putAt (putAt R (i * 3) S) ((i + 1) * 3) D).take ((n + 1) * 3) = F ++ S ++ D := by
  have e1 : (putAt R (i * 3) S).take ((i + 1) * 3) = F ++ S := by
    rw [putAt, h1, List.take_append_of_le_length (by simp [hF, hS]; omega), List.take_of_length_le (by simp [hF, hS]; omega)]
  rw [putAt, e1, List.take_append_of_le_length (by simp [hF, hD, hS]; omega), List.take_of_length_le (by simp [hF, hD, hS]; omega)]
theorem ins_flat (l : List PStep) (s : PStep) (i : Nat) : (l.take i ++ s :: l.drop i).flatMap pstepCells = (l.take i).flatMap pstepCells ++ pstepCells s ++ (l.drop i).flatMap pstepCells := by
  rw [List.flatMap_append, List.flatMap_cons, List.append_assoc]
theorem zeros_len (k : Nat) : (Builtin.zeroCells zStep.cells k).size = k * 3 := by simp [Builtin.zeroCells, zStep, Value.cells]
/-- append(s[:i], make([]T, k)...), without room. -/
theorem run_zeros (w : World) (g cap i k : Nat) (kz : Int) (cur : Array Value) (l : List PStep) (ty : TypeId) (hb : w.heap[g]? = some (.cells cur 36 (0, 0))) (h3 : cur.size = cap * 3) (h4 : cur.toList.take (l.length * 3) = l.flatMap pstepCells) (hi : i < l.length) (hlc : l.length ≤ cap) (hk : kz = (k : Int)) (hik : i + k = l.length + 1) (hc : cap = l.length) (hl : l.length ≤ 60) :
    ∃ cap2 R, (Builtin.append_ #[22, 3] ty #[.slice (some ⟨g, 0, none⟩) i cap, .int .i64 kz]).run Try.prog w = .ok (.slice (some ⟨w.heap.size, 0, none⟩) (l.length + 1) cap2) (w.drew.alloc (.cells R 36)) ∧ l.length + 1 ≤ cap2 ∧ cap2 ≤ maxLen ∧ R.size = cap2 * 3 ∧ R.toList.take (i * 3) = (l.take i).flatMap pstepCells := by
  subst hk
  obtain ⟨i0, hi0, hz⟩ := Option.map_eq_some_iff.1 info_pstep
  simp only [Prod.mk.injEq] at hz
  obtain ⟨hz0, hz1, hz2⟩ := hz
  have hfl : (l.take i).flatMap pstepCells = cur.toList.take (i * 3) := by
    rw [flat_take 3 pstepCells (fun _ => rfl), ← h4, List.take_take, Nat.min_eq_left (by omega)]
  have hln : ((l.take i).flatMap pstepCells).length = i * 3 := by rw [len_flat 3 pstepCells (fun _ => rfl), List.length_take]; omega
  have hold : (Builtin.firstCells i0.size i (.slice (some ⟨g, 0, none⟩) i cap)).run Try.prog w.drew = .ok ((l.take i).flatMap pstepCells).toArray w.drew := by
    rw [hz1]
    refine run_firstCells_some w.drew 3 i ⟨g, 0, none⟩ i cap _ hln (fun j u hj => ?_)
    have hjl := (List.getElem?_eq_some_iff.1 hj).1
    rw [hln] at hjl
    rw [hfl, List.getElem?_take_of_lt hjl, Array.getElem?_toList] at hj
    have e : (⟨g, 0, none⟩ : Addr).add j = ⟨g, j, none⟩ := by cases j <;> simp [Addr.add]
    rw [e]
    show w.cell? _ = _
    rw [raw_cell hb]; exact hj
  have h := Lib.run_append_grow_zeros (P := Try.prog) w 22 3 ty 36 i0 zStep .i64 .i64 Try.underlying22 Try.underlying3 hi0 hz0 (some ⟨g, 0, none⟩) i cap _ hold k (by omega) (by omega) (by omega) (by omega) (by rw [hz2]; omega) (by rw [hz2, hik]; exact growslice_fits (by omega) (by omega))
  rw [hik] at h
  refine ⟨_, _, h, grownCap_ge _ _ _ _, grownCap_le_maxLen w (l.length + 1) cap _ (by unfold maxLen; omega), ?_, ?_⟩
  · have := grownCap_ge w (l.length + 1) cap 36
    simp only [Array.size_append, List.size_toArray, hln, zeros_len]
    omega
  · simp only [Array.toList_append, List.append_assoc]
    rw [List.take_append_of_le_length (by show _ ≤ ((l.take i).flatMap pstepCells).length; omega), List.take_of_length_le (by show ((l.take i).flatMap pstepCells).length ≤ _; omega)]
theorem size_pstep : (Try.prog.info? 36).map (·.size) = some 3 := by kernel_rfl
theorem pstep_len (s : PStep) : (pstepCells s).length = 3 := rfl
theorem run_overlaps_no (w : World) (vb g o lb cb vc : Nat) (s : PStep) (cur : Array Value) (hv : Cells w vb (pstepCells s).toArray 36) (hb : w.heap[g]? = some (.cells cur 36 (0, 0))) (hc : cur.size ≠ 0) (hne : vb ≠ g) :
    (callFunc 101 #[.slice (some ⟨vb, 0, none⟩) 1 vc, .slice (some ⟨g, o, none⟩) lb cb]).run Try.prog w = .ok (.value (.bool false)) w := by
  have hv' : w.heap[vb]? = some (.cells (pstepCells s).toArray 36 (0, 0)) := hv
  rw [run_callFunc_extern (P := Try.prog) Try.func101 (by kernel_rfl) (by kernel_rfl) (by kernel_rfl) (e := Extern.SlicesOverlaps.overlaps #[22, 22] #[4]) (by kernel_rfl),
    Lib.run_overlaps_apart w 22 4 36 Try.underlying22 3 (fun w => by kernel_rfl) ⟨vb, 0, none⟩ ⟨g, o, none⟩ 1 vc lb cb hne 36 36 3 cur.size (by simp [World.shape?, hv']; rfl) (by simp [World.shape?, hb]) hc (by simp [World.frozen?, hv']) (by simp [World.frozen?, hv'])]
  rfl
set_option maxRecDepth 100000 in
set_option maxHeartbeats 4000000 in
/-- At the end. -/
theorem lib_InsertEnd (h0 : Nat) (v : Value) (l : List PStep) (s : PStep) (vb vc : Nat) (w : World) (ho : Own kPStep 36 w h0 v l) (hl : l.length ≤ 59) (hh : h0 ≤ w.heap.size) (hv : Cells w vb (pstepCells s).toArray 36) :
    Calls Try.prog 73 #[v, .int .i64 l.length, .slice (some ⟨vb, 0, none⟩) 1 vc] w fun e w' => ∃ v1, e = .returned v1 ∧ Own kPStep 36 w' h0 v1 (l ++ [s]) ∧ Below h0 w w' := by
  obtain ⟨A, c, rfl, hc, hrow⟩ := own_reads' ho
  have hca : c ≤ 9223372036854775807 := by
    rcases own_raw pstepCells (fun _ _ _ h => kPStep_open h) ho with ⟨e, _⟩ | ⟨g, cap, cur, e, _, _, _, h2, _⟩
    · injection e with e1 e2 e3; omega
    · injection e with e1 e2 e3; rw [e3]; exact h2
  have hlc : (l.length : Int) ≤ (c : Int) := by omega
  have HO := Lib.hid ho
  have HV := Lib.hid hv
  clear ho hrow hv
  cases A with
  | none =>
    have hc0 : c = 0 := by
      rcases own_raw pstepCells (fun _ _ _ h => kPStep_open h) HO.out with ⟨e, _⟩ | ⟨g, cap, cur, e, _⟩
      · injection e
      · injection e with e1; cases e1
    subst hc0
    go_enter Try.func73, Try.ntmps73
    go_wp2_with (at_builtin; refine Kd.R_append_rows kPStep (w0 := w) h0 rfl (.tmp 23) (.tmp 24) 22 36 zStep 24 rfl Try.underlying22 info_pstep rfl (by decide) (by omega) _ l [s] _ _ _ (fun _ => True) (fun _ => False) rfl rfl HO.out (lit_row kPStep w vb s (pstepCells s) 36 HV.out (kPStep_mk _ _)) (fun x cs h => pstep_KM _ _ _ _ x cs h) (fun _ h => h.elim) (fun _ _ => trivial) (Below.refl _ _) hh (by omega) ?_; intro v1 w1 r1 r2 r3 r4)
    go_ret
    exact ⟨_, rfl, r1, r2⟩
  | some a =>
    go_enter Try.func73, Try.ntmps73
    go_wp2_with (at_builtin; refine Kd.R_append_rows kPStep (w0 := w) h0 rfl (.tmp 23) (.tmp 24) 22 36 zStep 24 rfl Try.underlying22 info_pstep rfl (by decide) (by omega) _ l [s] _ _ _ (fun _ => True) (fun _ => False) rfl rfl HO.out (lit_row kPStep w vb s (pstepCells s) 36 HV.out (kPStep_mk _ _)) (fun x cs h => pstep_KM _ _ _ _ x cs h) (fun _ h => h.elim) (fun _ _ => trivial) (Below.refl _ _) hh (by omega) ?_; intro v1 w1 r1 r2 r3 r4)
    all_goals (go_ret; exact ⟨_, rfl, r1, r2⟩)
set_option maxRecDepth 100000 in
set_option maxHeartbeats 4000000 in
theorem lib_InsertMid (h0 i : Nat) (v : Value) (l : List PStep) (s : PStep) (vb vc : Nat) (w : World) (ho : Own kPStep 36 w h0 v l) (hi : i < l.length) (hl : l.length ≤ 59) (hh : h0 ≤ w.heap.size) (hv : Cells w vb (pstepCells s).toArray 36) (hvo : some vb ≠ v.ownBlock) :
    Calls Try.prog 73 #[v, .int .i64 i, .slice (some ⟨vb, 0, none⟩) 1 vc] w fun e w' => ∃ v1, e = .returned v1 ∧ Own kPStep 36 w' h0 v1 (l.take i ++ s :: l.drop i) ∧ Below h0 w w' := by
  rcases own_raw pstepCells (fun _ _ _ h => kPStep_open h) ho with ⟨_, rfl⟩ | ⟨g, cap, cur, rfl, hg, hb, h1, h2, h3, h4⟩
  · simp at hi
  have hcap : cap ≤ 9223372036854775807 := h2
  have hvg : vb ≠ g := fun e => hvo (by rw [e]; rfl)
  have hvl := hv.lt
  have hgl : g < w.heap.size := (Array.getElem?_eq_some_iff.1 hb).1
  have HB := Lib.hid hb
  have H3 := Lib.hid (show cur.size = cap * 3 from h3)
  have H4 := Lib.hid (show cur.toList.take (l.length * 3) = l.flatMap pstepCells from h4)
  have HC := Lib.hid (show cur.toList.length = cap * 3 from (Array.length_toList (xs := cur)).trans h3)
  have HV := Lib.hid hv
  have HF := Lib.hid (show ((l.take i).flatMap pstepCells).length = i * 3 by rw [len_flat 3 pstepCells (fun _ => rfl), List.length_take]; omega)
  have HD := Lib.hid (show ((l.drop i).flatMap pstepCells).length = (l.length - i) * 3 by rw [len_flat 3 pstepCells (fun _ => rfl), List.length_drop])
  have HE := Lib.hid (show l.flatMap pstepCells = (l.take i).flatMap pstepCells ++ (l.drop i).flatMap pstepCells by rw [← List.flatMap_append, List.take_append_drop])
  clear ho hb h3 h4 hv hvo
  have hin : ((i : Int) == (l.length : Int)) = false := by simp only [beq_eq_false_iff_ne]; omega
  have hn4 : (i : Int) ≤ (cap : Int) := by omega
  have hn5 : (l.length : Int) ≤ (cap : Int) := by omega
  have hn6 : (i : Int) ≤ (l.length : Int) := by omega
  have hci : ¬ (cap = i) := by omega
  have hn7 : i ≤ cap := by omega
  have hn8 : i ≤ l.length := by omega
  have hw1 : IntKind.i64.wrap ((l.length : Int) + 1) = (l.length : Int) + 1 := by rw [IntWalk.i64_in _ (by omega)]
  have hw2 : IntKind.i64.wrap ((i : Int) + 1) = (i : Int) + 1 := by rw [IntWalk.i64_in _ (by omega)]
  have hw3 : IntKind.i64.wrap ((l.length : Int) + 1 - (i : Int)) = (l.length : Int) + 1 - (i : Int) := by rw [IntWalk.i64_in _ (by omega)]
  have hi0 : (0 : Int) ≤ (i : Int) + 1 := by omega
  have hti : ((i : Int) + 1).toNat = i + 1 := by omega
  have htl : ((l.length : Int) + 1).toNat = l.length + 1 := by omega
  by_cases hroom : l.length + 1 ≤ cap
  · have hr1 : decide ((cap : Int) < (l.length : Int) + 1) = false := by simp; omega
    have hr2 : (l.length : Int) + 1 ≤ (cap : Int) := by omega
    have hr3 : (i : Int) + 1 ≤ (cap : Int) := by omega
    have hr4 : ¬ (cap = i + 1) := by omega
    have hr5 : (i : Int) + 1 ≤ (l.length : Int) + 1 := by omega
    have hr6 : (i : Int) ≤ (l.length : Int) + 1 := by omega
    have hr7 : (0 : Int) ≤ (l.length : Int) + 1 := by omega
    go_enter Try.func73, Try.ntmps73
    have hov : ∀ lb cb, (callFunc 101 #[.slice (some ⟨vb, 0, none⟩) 1 vc, .slice (some ⟨g, (i + 1) * 3, none⟩) lb cb]).run Try.prog w = .ok (.value (.bool false)) w := fun lb cb => run_overlaps_no w vb g _ lb cb vc s cur HV.out HB.out (by rw [H3.out]; omega) hvg
    go_upto_region 15 with (simp only [hov])
    clear hov
    refine wp_region_flow [.free 0, .free 1, .free 2, .free 3, .free 4, .free 5, .free 6, .free 7, .fence 8] (Below w.heap.size w) (Below w.heap.size w) (stable_below _ _ (Nat.le_refl _)) (fun _ h => h) (by kernel_rfl) (by kernel_rfl) (below_drew1 (Below.refl _ _)) ?_
    simp only [pickEnts, pickF, List.getElem?_cons_succ, List.getElem?_cons_zero, List.filterMap_cons, List.filterMap_nil, Option.map_some]
    repeat ((first | refine flow_calm (fun K hK => ?_) | refine flow_free (fun K hK => ?_) | refine float_calm (fun K hK => ?_) | refine float_free (fun K hK => ?_)); go_simp; first | (refine hK _ ?_; clear hK K) | (apply Exists.intro; (refine ⟨fun X => ?_, hK _ ?_⟩); (first | (intro hC; rfl) | rfl | (intro hC; skip; go_simp; done) | (intro hC; skip; go_simp; rfl)); clear hK K))
    refine flow_fence rfl (fun X hX K hK => ?_)
    have hbX := heap_later hX.out HB.out
    refine step_copyK rfl rfl rfl rfl (run_copyK X 22 22 _ 36 3 g ((i + 1) * 3) _ _ ⟨g, i * 3, none⟩ _ _ cur _ ((l.drop i).flatMap pstepCells) Try.underlying22 size_pstep hbX ?hn ?hs ?hf (pstep_one _)) ?_
    case hn => rw [HD.out]; congr 1; show _ = min _ _; omega
    case hs =>
      intro j u hj
      have hjl := (List.getElem?_eq_some_iff.1 hj).1
      rw [HD.out] at hjl
      rw [flat_drop 3 pstepCells (fun _ => rfl), List.getElem?_drop, ← H4.out, List.getElem?_take_of_lt (by omega), Array.getElem?_toList] at hj
      have e : (⟨g, i * 3, none⟩ : Addr).add j = ⟨g, i * 3 + j, none⟩ := by cases j <;> simp [Addr.add]
      rw [e, raw_cell hbX]
      exact hj
    case hf => rw [HD.out, H3.out]; omega
    have hset := setRow_heap X g _ (putAt cur.toList ((i + 1) * 3) ((l.drop i).flatMap pstepCells)).toArray _ _ hbX
    refine hK.out _ _ (fun Z => Below h0 w Z ∧ Cells Z vb (pstepCells s).toArray 36 ∧ Z.heap[g]? = some (.cells (putAt cur.toList ((i + 1) * 3) ((l.drop i).flatMap pstepCells)).toArray 36 (0, 0))) (fun Z => Below h0 w Z ∧ Cells Z vb (pstepCells s).toArray 36 ∧ Z.heap[g]? = some (.cells (putAt cur.toList ((i + 1) * 3) ((l.drop i).flatMap pstepCells)).toArray 36 (0, 0))) (fun Z Z' hZ hb => ⟨hZ.1.trans (Below.mono hb (Nat.le_trans hh hZ.1.size)), hZ.2.1.later hb, heap_later hb hZ.2.2⟩) (fun _ h => h) ⟨setRow_below (Below.mono hX.out hh) hg _, (setRow_other X g vb _ hvg).trans (HV.out.later hX.out), hset⟩ ?_
    clear hK K hX hbX hset
    refine flow_nil ?_
    intro Y hY
    have HY := Lib.hid hY.out.1
    have HVY := Lib.hid hY.out.2.1
    have HG := Lib.hid hY.out.2.2
    clear hY
    have hl1 := len_putAt (C := cur.toList) (D := (l.drop i).flatMap pstepCells) (o := (i + 1) * 3) (by rw [HD.out, HC.out]; omega)
    have HL1 := Lib.hid (hl1.trans HC.out)
    clear hl1
    go_wp2_with (refine list_copyW rfl rfl rfl rfl (run_copyK Y 22 22 _ 36 3 g (i * 3) _ _ ⟨vb, 0, none⟩ _ _ _ _ (pstepCells s) Try.underlying22 size_pstep HG.out ?hn ?hs ?hf (fun v hv => pstep_one [s] v (by simpa using hv))) ?_; (case hn => rw [pstep_len]; show 3 = min _ _ * 3; omega); (case hs => intro j u hj; have e : (⟨vb, 0, none⟩ : Addr).add j = ⟨vb, j, none⟩ := (by cases j <;> simp [Addr.add]); rw [e]; exact HVY.out.cell j u (by simpa using hj)); (case hf => rw [pstep_len, List.size_toArray, HL1.out]; omega); intro Z HZ)
    go_ret
    rw [HZ.out]
    refine ⟨_, rfl, ?_, setRow_below HY.out hg _⟩
    refine raw_own (d := kPStep) pstepCells (fun _ => rfl) (fun _ _ _ x => kPStep_mkM _ _ _ x) (by simp; omega) hg (setRow_heap Y g _ _ _ _ HG.out) hroom h2 ?_ ?_
    · show Array.size (putAt _ _ (pstepCells s)).toArray = cap * 3
      rw [List.size_toArray, len_putAt (by rw [pstep_len, List.toList_toArray, HL1.out]; omega)]
      exact HL1.out
    · rw [ins_flat]
      exact put_room (by rw [H4.out, HE.out]) HF.out HD.out rfl hn8 (by rw [HC.out]; omega)
  · have hcl := Lib.hid (show cap = l.length by omega)
    have hr1 : decide ((cap : Int) < (l.length : Int) + 1) = true := by have := hcl.out; simp; omega
    have hr8 : (i : Int) ≤ (l.length : Int) + 1 := by omega
    clear hroom
    obtain ⟨cap2, R, hrun, hc2, hm2, hR1, hR2⟩ := run_zeros w g cap i (l.length + 1 - i) ((l.length : Int) + 1 - (i : Int)) cur l 22 HB.out H3.out H4.out hi h1 (by omega) (by omega) hcl.out (by omega)
    have Hrun := Lib.hid hrun
    have HR1 := Lib.hid hR1
    have HR2 := Lib.hid hR2
    have HRL := Lib.hid ((Array.length_toList (xs := R)).trans hR1)
    clear hrun hR1 hR2
    go_enter Try.func73, Try.ntmps73
    go_upto_region 10 with (at_builtin; refine list_appendW rfl rfl rfl rfl Hrun.out ?_; intro Z HZ)
    have hm3 : cap2 ≤ 9223372036854775807 := hm2
    have hq1 : ¬ (cap2 = i) := by omega
    have hq2 : ¬ (cap2 = i + 1) := by omega
    have hq3 : (i : Int) + 1 ≤ (l.length : Int) + 1 := by omega
    have hq4 : (l.length : Int) + 1 ≤ (cap2 : Int) := by omega
    have hq5 : (i : Int) + 1 ≤ (cap2 : Int) := by omega
    have hg2 : g ≠ w.heap.size := by omega
    have hv2 : vb ≠ w.heap.size := by omega
    have HZB := Lib.hid (show Below w.heap.size w Z by rw [HZ.out]; exact Below.refl w.heap.size w |>.drew |>.alloc (Nat.le_refl _) _)
    have HZG := Lib.hid (show Z.heap[w.heap.size]? = some (.cells R 36 (0, 0)) by rw [HZ.out]; exact World.alloc_heap_new w.drew _)
    have HZV := Lib.hid (HV.out.later HZB.out)
    have HZO := Lib.hid (heap_later HZB.out HB.out)
    have HN := Lib.hid (show ∃ g2, g2 = w.heap.size from ⟨_, rfl⟩)
    obtain ⟨g2, hg2e⟩ := HN.out
    rw [← hg2e] at hg2 hv2 HZG
    simp only [← hg2e]
    have Hg2e := Lib.hid hg2e
    clear HZ hg2e HN Hrun
    go_upto_region 11 with (refine list_copyW rfl rfl rfl rfl (run_copyK Z 22 22 _ 36 3 g2 (i * 3) _ _ ⟨vb, 0, none⟩ _ _ _ _ (pstepCells s) Try.underlying22 size_pstep HZG.out ?hn ?hs ?hf (fun v hv => pstep_one [s] v (by simpa using hv))) ?_; (case hn => rw [pstep_len]; show 3 = min _ _ * 3; omega); (case hs => intro j u hj; have e : (⟨vb, 0, none⟩ : Addr).add j = ⟨vb, j, none⟩ := (by cases j <;> simp [Addr.add]); rw [e]; exact HZV.out.cell j u (by simpa using hj)); (case hf => rw [pstep_len, HR1.out]; omega); intro Z2 HZ2)
    have HZB2 := Lib.hid (show Below w.heap.size w Z2 by rw [HZ2.out]; exact setRow_below HZB.out (by rw [Hg2e.out]; exact Nat.le_refl _) _)
    have HZG2 := Lib.hid (show Z2.heap[g2]? = some (.cells (putAt R.toList (i * 3) (pstepCells s)).toArray 36 (0, 0)) by rw [HZ2.out]; exact setRow_heap Z g2 _ _ _ _ HZG.out)
    have HL2 := Lib.hid ((len_putAt (C := R.toList) (D := pstepCells s) (o := i * 3) (by rw [pstep_len, HRL.out]; omega)).trans HRL.out)
    clear HZ2 HZG HZV
    refine wp_region_flow [.free 0, .free 1, .free 2, .free 3, .free 4, .free 5, .free 6, .free 7, .fence 8] (Below Z2.heap.size Z2) (Below Z2.heap.size Z2) (stable_below _ _ (Nat.le_refl _)) (fun _ h => h) (by kernel_rfl) (by kernel_rfl) (below_drew1 (Below.refl _ _)) ?_
    simp only [pickEnts, pickF, List.getElem?_cons_succ, List.getElem?_cons_zero, List.filterMap_cons, List.filterMap_nil, Option.map_some]
    repeat ((first | refine flow_calm (fun K hK => ?_) | refine flow_free (fun K hK => ?_) | refine float_calm (fun K hK => ?_) | refine float_free (fun K hK => ?_)); go_simp; first | (refine hK _ ?_; clear hK K) | (apply Exists.intro; (refine ⟨fun X => ?_, hK _ ?_⟩); (first | (intro hC; rfl) | rfl | (intro hC; skip; go_simp; done) | (intro hC; skip; go_simp; rfl)); clear hK K))
    refine flow_fence rfl (fun X hX K hK => ?_)
    have hbX := heap_later hX.out HZG2.out
    have hbO := heap_later hX.out (heap_later (show Below w.heap.size w Z2 from HZB2.out) HB.out)
    refine step_copyK rfl rfl rfl rfl (run_copyK X 22 22 _ 36 3 g2 ((i + 1) * 3) _ _ ⟨g, i * 3, none⟩ _ _ _ _ ((l.drop i).flatMap pstepCells) Try.underlying22 size_pstep hbX ?hn ?hs ?hf (pstep_one _)) ?_
    case hn => rw [HD.out]; congr 1; show _ = min _ _; omega
    case hs =>
      intro j u hj
      have hjl := (List.getElem?_eq_some_iff.1 hj).1
      rw [HD.out] at hjl
      rw [flat_drop 3 pstepCells (fun _ => rfl), List.getElem?_drop, ← H4.out, List.getElem?_take_of_lt (by omega), Array.getElem?_toList] at hj
      have e : (⟨g, i * 3, none⟩ : Addr).add j = ⟨g, i * 3 + j, none⟩ := by cases j <;> simp [Addr.add]
      rw [e, raw_cell hbO]
      exact hj
    case hf => rw [HD.out, List.size_toArray, HL2.out]; omega
    have hset := setRow_heap X g2 _ (putAt (putAt R.toList (i * 3) (pstepCells s)) ((i + 1) * 3) ((l.drop i).flatMap pstepCells)).toArray _ _ hbX
    refine hK.out _ _ (fun Z => Below h0 w Z ∧ Z.heap[g2]? = some (.cells (putAt (putAt R.toList (i * 3) (pstepCells s)) ((i + 1) * 3) ((l.drop i).flatMap pstepCells)).toArray 36 (0, 0))) (fun Z => Below h0 w Z ∧ Z.heap[g2]? = some (.cells (putAt (putAt R.toList (i * 3) (pstepCells s)) ((i + 1) * 3) ((l.drop i).flatMap pstepCells)).toArray 36 (0, 0))) (fun Z Z' hZ hb => ⟨hZ.1.trans (Below.mono hb (Nat.le_trans hh hZ.1.size)), heap_later hb hZ.2⟩) (fun _ h => h) ⟨setRow_below ((Below.mono HZB2.out hh).trans (Below.mono hX.out (Nat.le_trans hh HZB2.out.size))) (by rw [Hg2e.out]; exact hh) _, hset⟩ ?_
    clear hK K hX hbX hset hbO
    refine flow_nil ?_
    intro Y hY
    have HY := Lib.hid hY.out.1
    have HG := Lib.hid hY.out.2
    clear hY
    go_wp2
    go_ret
    refine ⟨_, rfl, ?_, HY.out⟩
    refine raw_own (d := kPStep) pstepCells (fun _ => rfl) (fun _ _ _ x => kPStep_mkM _ _ _ x) (by simp; omega) (by rw [Hg2e.out]; exact hh) HG.out hc2 hm2 ?_ ?_
    · show Array.size (List.toArray _) = cap2 * 3
      rw [List.size_toArray, len_putAt (by rw [HD.out, HL2.out]; omega)]
      exact HL2.out
    · rw [ins_flat]
      exact put_grown HR2.out HF.out HD.out rfl hn8 (by rw [HRL.out]; omega)
end Go.Proofs.Ytemkloildadokaa
set_option linter.unusedVariables false
set_option linter.unusedSimpArgs false
/-! Lists in memory of their own. -/
namespace Go.Proofs.Ytemkloildadokaa
open Go.RowKit Go.Shelf Go.Proofs.YtemkloildadokaaW.PrintWords
def zElem : Value := .agg #[.int .i64 0, .int .i64 0]
theorem info_pelem : (Try.prog.info? 58).map (fun i => (i.zero, i.size, i.bytes)) = some (some zElem, 2, 16) := by kernel_rfl
set_option maxRecDepth 100000 in
set_option maxHeartbeats 2000000 in
theorem fresh_steps (A : Option Addr) (c : Nat) (l : List PStep) (w : World) (hrow : PStepRow w A l.length l) (hl : l.length ≤ 1000) :
    Calls Try.prog 74 #[.slice A l.length c] w fun e w' => ∃ v, e = .returned v ∧ Own kPStep 36 w' w.heap.size v l ∧ Below w.heap.size w w' := by
  have HR := Lib.hid hrow
  clear hrow
  go_enter Try.func74, Try.ntmps74
  go_wp2_with (at_builtin; refine Kd.R_append_rows kPStep (w0 := w) w.heap.size rfl (.const (.slice none 0 0)) (.tmp 3) 22 36 zStep 24 rfl Try.underlying22 info_pstep rfl (by decide) (by omega) _ ([] : List PStep) l _ _ _ (fun _ => True) (fun _ => False) rfl rfl (Kd.R_nil _ _ _ _ _) HR.out (fun x cs h => pstep_KM _ _ _ _ x cs h) (fun _ h => h.elim) (fun _ _ => trivial) (Below.refl _ _) (Nat.le_refl _) (by rw [List.length_nil]; omega) ?_; intro v1 w1 r1 r2 r3 r4)
  go_ret
  exact ⟨_, rfl, r1, r2⟩
set_option maxRecDepth 100000 in
set_option maxHeartbeats 2000000 in
theorem fresh_elems (A : Option Addr) (c : Nat) (l : List PElem) (w : World) (hrow : ElemRow w A l.length l) (hl : l.length ≤ 1000) :
    Calls Try.prog 151 #[.slice A l.length c] w fun e w' => ∃ v, e = .returned v ∧ Own kPElem 58 w' w.heap.size v l ∧ Below w.heap.size w w' := by
  have HR := Lib.hid hrow
  clear hrow
  go_enter Try.func151, Try.ntmps151
  go_wp2_with (at_builtin; refine Kd.R_append_rows kPElem (w0 := w) w.heap.size rfl (.const (.slice none 0 0)) (.tmp 3) 23 58 zElem 16 rfl Try.underlying23 info_pelem rfl (by decide) (by omega) _ ([] : List PElem) l _ _ _ (fun _ => True) (fun _ => False) rfl rfl (Kd.R_nil _ _ _ _ _) HR.out (fun x cs h => pelem_KM _ _ _ _ x cs h) (fun _ h => h.elim) (fun _ _ => trivial) (Below.refl _ _) (Nat.le_refl _) (by rw [List.length_nil]; omega) ?_; intro v1 w1 r1 r2 r3 r4)
  go_ret
  exact ⟨_, rfl, r1, r2⟩
end Go.Proofs.Ytemkloildadokaa
set_option linter.unusedVariables false
set_option linter.unusedSimpArgs false
/-! The library's sort at elements. -/
namespace Go.Proofs.Ytemkloildadokaa
open Go.RowKit Go.Shelf Go.Proofs.YtemkloildadokaaW.PrintWords
open Go.Sort (HoldsK flatK putRowK get_flatK size_flatK)

section
variable {α : Type}
theorem own_split {d : Kd α} {e base : Nat} {w : World} {v : Value} {xs : List α} (h : Own d e w base v xs) : (v = .slice none 0 0 ∧ xs = []) ∨
    ∃ g cap cur inner, v = .slice (some ⟨g, 0, none⟩) xs.length cap ∧ base ≤ g ∧ w.heap[g]? = some (.cells cur e (0, 0)) ∧ xs.length ≤ cap ∧ cap ≤ maxLen ∧ cur.size = cap * d.sz ∧ cur.toList.take (xs.length * d.sz) = inner ∧ Reps (d.M w base (fun k => True ∧ some k ≠ v.ownBlock)) d.sz xs inner := by
  obtain ⟨_, inner, ho, hr⟩ := h
  obtain ⟨_, ⟨hv, h0⟩ | ⟨g, cap, cur, hv, hg, hb, h1, h2, h3, h4⟩⟩ := ho
  · exact .inl ⟨hv, by simpa using h0⟩
  · exact .inr ⟨g, cap, cur, inner, hv, hg, hb, h1, h2, h3, h4, hr⟩
variable [Inhabited α]
theorem holdsK_own {d : Kd α} {enc : α → List Value} (hk : ∀ x, (enc x).length = d.sz) (hs : 0 < d.sz) {R : α → List Value → Prop} (hM' : ∀ x cs, R x cs → cs = enc x) {w : World} {g cap : Nat} {cur : Array Value} {e : Nat} {xs : List α} {inner : List Value}
    (hb : w.heap[g]? = some (.cells cur e (0, 0))) (h1 : xs.length ≤ cap) (h3 : cur.size = cap * d.sz) (h4 : cur.toList.take (xs.length * d.sz) = inner) (hr : Reps R d.sz xs inner) : HoldsK enc d.sz w g 0 xs.toArray := by
  intro t ht
  have ht' : t < xs.length * d.sz := by simpa using ht
  refine ⟨?_, by simp [World.frozen?, hb]⟩
  have hj : t / d.sz < xs.length := Nat.div_lt_of_lt_mul (by rw [Nat.mul_comm]; exact ht')
  have hm : t % d.sz < d.sz := Nat.mod_lt _ hs
  rw [get_flatK enc d.sz xs.toArray t (by simpa using ht')]
  have e1 : (inner.drop (t / d.sz * d.sz)).take d.sz = enc xs[t / d.sz] := hM' _ _ (hr.2 _ _ (List.getElem?_eq_getElem hj))
  have e2 : inner[t]? = (enc xs[t / d.sz])[t % d.sz]? := by
    rw [← e1, List.getElem?_take_of_lt hm, List.getElem?_drop]
    congr 1
    rw [Nat.mul_comm]
    exact (Nat.div_add_mod t d.sz).symm
  have e3 : cur[t]? = inner[t]? := by rw [← h4, List.getElem?_take_of_lt ht', Array.getElem?_toList]
  have e4 : (enc xs[t / d.sz])[t % d.sz]? = some ((enc xs[t / d.sz])[t % d.sz]!) := by
    have : t % d.sz < (enc xs[t / d.sz]).length := by rw [hk]; exact hm
    rw [List.getElem?_eq_getElem this, List.getElem!_eq_getElem?_getD, List.getElem?_eq_getElem this]
    rfl
  have e5 : xs.toArray[t / d.sz]! = xs[t / d.sz] := by simp [hj]
  rw [e5]
  simp only [World.cell?, hb, Nat.zero_add, Option.isSome_none, Bool.false_eq_true, if_false]
  rw [e3, e2, e4]
  rfl
theorem heap_sortK {enc : α → List Value} {k : Nat} {w : World} {g n : Nat} {os : Array Obj} {cur : Array Value} {e : TypeId} {fr : Nat × Nat} (d : Array α) (hb : w.heap[g]? = some (.cells cur e fr)) :
    (sortWorldK enc k w g 0 n d os).heap[g]? = some (.cells (Go.Sort.putCells id 0 (flatK enc k d) cur) e fr) := by
  have hg : g < w.heap.size := (Array.getElem?_eq_some_iff.1 hb).1
  unfold sortWorldK putRowK
  rw [Go.Sort.heap_grow_old _ _ (by simpa [Go.Sort.ahead] using hg)]
  simp [Go.Sort.putRow, Go.Sort.mapBlock, Go.Sort.ahead, Array.getElem?_modify, hb, Go.Sort.onCells]
theorem heap_sortK_ne {enc : α → List Value} {k : Nat} {w : World} {g n p : Nat} {os : Array Obj} (d : Array α) (hp : p < w.heap.size) (hne : p ≠ g) : (sortWorldK enc k w g 0 n d os).heap[p]? = w.heap[p]? := by
  unfold sortWorldK putRowK
  rw [Go.Sort.heap_grow_old _ _ (by simpa [Go.Sort.ahead] using hp)]
  simp [Go.Sort.putRow, Go.Sort.mapBlock, Go.Sort.ahead, Array.getElem?_modify, Ne.symm hne]
theorem below_sortK {enc : α → List Value} {k : Nat} {w : World} {g n base : Nat} {os : Array Obj} (d : Array α) (hb : base ≤ g) (hw : base ≤ w.heap.size) : Below base w (sortWorldK enc k w g 0 n d os) :=
  ⟨rfl, rfl, rfl, by rw [sortWorldK, Go.Sort.size_grow]; simp [putRowK, Go.Sort.ahead], fun i hi => heap_sortK_ne d (by omega) (by omega)⟩
theorem take_flatK (cur : Array Value) (F : Array Value) (h : F.size ≤ cur.size) : (Go.Sort.putCells id 0 F cur).toList.take F.size = F.toList := by
  apply List.ext_getElem?
  intro j
  by_cases hj : j < F.size
  · rw [List.getElem?_take_of_lt hj, Array.getElem?_toList]
    simp [Go.Sort.putCells, hj, show j < cur.size by omega]
  · rw [List.getElem?_take_eq_none (by omega), List.getElem?_eq_none (by simp; omega)]
theorem own_sortK {d : Kd α} {enc : α → List Value} (hk : ∀ x, (enc x).length = d.sz) (hs : 0 < d.sz) (hM : ∀ w base ok x, d.M w base ok x (enc x)) {w : World} {g cap base n : Nat} {cur : Array Value} {e : Nat} {len : Nat} {os : Array Obj} (ys : List α)
    (hl : ys.length = len) (hg : base ≤ g) (hb : w.heap[g]? = some (.cells cur e (0, 0))) (h1 : len ≤ cap) (h2 : cap ≤ maxLen) (h3 : cur.size = cap * d.sz) :
    Own d e (sortWorldK enc d.sz w g 0 n ys.toArray os) base (.slice (some ⟨g, 0, none⟩) len cap) ys := by
  subst hl
  have hF : (flatK enc d.sz ys.toArray).size = ys.length * d.sz := by simp
  refine ⟨fun _ _ => trivial, (flatK enc d.sz ys.toArray).toList, ?_, ?_⟩
  · refine ⟨by simp, .inr ⟨g, cap, _, rfl, hg, heap_sortK _ hb, h1, h2, by simp [Go.Sort.putCells, h3], ?_⟩⟩
    rw [← hF]
    exact take_flatK _ _ (by rw [hF, h3]; exact Nat.mul_le_mul_right _ h1)
  · refine ⟨by simp, fun j p hj => ?_⟩
    have hjl : j < ys.length := (List.getElem?_eq_some_iff.1 hj).1
    have hp : ys[j] = p := (List.getElem?_eq_some_iff.1 hj).2
    have e1 : ((flatK enc d.sz ys.toArray).toList.drop (j * d.sz)).take d.sz = enc p := by
      apply List.ext_getElem?
      intro r
      by_cases hr : r < d.sz
      · have hlt : j * d.sz + r < ys.length * d.sz := by
          have : (j + 1) * d.sz ≤ ys.length * d.sz := Nat.mul_le_mul_right _ hjl
          rw [Nat.add_mul, Nat.one_mul] at this
          omega
        rw [List.getElem?_take_of_lt hr, List.getElem?_drop, Array.getElem?_toList]
        have hlt' : j * d.sz + r < (flatK enc d.sz ys.toArray).size := by rw [hF]; exact hlt
        rw [Array.getElem?_eq_getElem hlt', ← getElem!_pos (flatK enc d.sz ys.toArray) (j * d.sz + r) hlt', get_flatK enc d.sz ys.toArray _ (by simpa using hlt)]
        have e2 : (j * d.sz + r) / d.sz = j := by
          rw [Nat.mul_comm, Nat.mul_add_div hs, Nat.div_eq_of_lt hr, Nat.add_zero]
        have e3 : (j * d.sz + r) % d.sz = r := by
          rw [Nat.mul_comm, Nat.mul_add_mod, Nat.mod_eq_of_lt hr]
        rw [e2, e3]
        have e5 : ys.toArray[j]! = p := by simp [hjl, hp]
        rw [e5]
        have : r < (enc p).length := by rw [hk]; exact hr
        rw [List.getElem?_eq_getElem this, List.getElem!_eq_getElem?_getD, List.getElem?_eq_getElem this]
        rfl
      · rw [List.getElem?_take_eq_none (by omega), List.getElem?_eq_none (by rw [hk]; omega)]
    rw [e1]
    exact hM _ _ _ _

set_option maxHeartbeats 1000000 in
theorem sortFunc_own {ρ : Go.Shelf.Ren} (L : SlLaysF0.n6 Try.prog ρ) (d : Kd α) (e : Nat) (enc : α → List Value) (hk : ∀ x, (enc x).length = d.sz) (hs : 0 < d.sz) (h1 : ∀ x, ∀ v ∈ enc x, v.oneCell' = true) (hM : ∀ w base ok x, d.M w base ok x (enc x)) (hM' : ∀ w base ok x cs, d.M w base ok x cs → cs = enc x)
    (aE : ∀ w, (isAgg (ρ.t 24)).run Try.prog w = .ok true w) (zE : ∀ w, (Go.sizeOf (ρ.t 24)).run Try.prog w = .ok d.sz w) (cf : α → α → Int) (hO : Go.Sort.SWO (ltOf cf)) (g : Nat) (cb : Array Value) (eg : ∀ args w, (callFunc g args).run Try.prog w = .ok (.enter g args) w)
    (hcl : ∀ W x y, Calls Try.prog g (#[.agg (enc x).toArray, .agg (enc y).toArray] ++ cb) W fun e w' => e = .returned (.int .i64 (cf x y)) ∧ ∃ q os', w' = Go.Sort.grow (W.drewN q) os')
    (xs : List α) (v : Value) (w : World) (base : Nat) (ho : Own d e w base v xs) (hbase : base ≤ w.heap.size) (hx : xs.length < 4611686018427387904) :
    Calls Try.prog (ρ.f 6) #[v, .func (.func g) #[] cb] w fun r w' => r = .returned (.tuple #[]) ∧ ∃ ys : List α, ys.Perm xs ∧ ys.Pairwise (fun a b => ltOf cf b a = false) ∧ Own d e w' base v ys ∧ Below base w w' := by
  rcases own_split ho with ⟨rfl, rfl⟩ | ⟨b, cap, cur, inner, rfl, hg, hb, h2, h3, h4, h5, hr⟩
  · refine (AnyF.slices_SortFunc_none L none 0 _ w).mono ?_
    rintro r w' ⟨rfl, rfl⟩
    exact ⟨rfl, [], List.Perm.refl _, List.Pairwise.nil, Kd.R_nil _ _ _ _ _, Below.refl _ _⟩
  · have hbl : b < w.heap.size := (Array.getElem?_eq_some_iff.1 hb).1
    have hH : HoldsK enc d.sz w b 0 xs.toArray := holdsK_own hk hs (fun x cs h => hM' _ _ _ _ _ h) hb h2 h4 h5 hr
    have hcmp : CmpLays Try.prog g cb enc d.sz cf b 0 xs.toArray.size w := by
      intro m os dk hsz x y
      exact hcl _ x y
    have hmax : xs.toArray.size < 4611686018427387904 := by simpa using hx
    have hcon := AnyQ.slices_SortFunc L d.sz aE zE enc hk h1 cf hO g cb b 0 cap xs.toArray w eg hcmp hH hbl hmax
    refine hcon.mono ?_
    rintro r w' ⟨rfl, d', n, os, hpm, hsrt, rfl⟩
    have hl : d'.toList.length = xs.length := by have := hpm.1; simpa using this
    have hperm : d'.toList.Perm xs := by
      have h := hpm.2.2
      have e1 : (d'.extract 0 xs.toArray.size) = d' := by
        have : xs.toArray.size = d'.size := hpm.1.symm
        rw [this]; simp
      have e2 : (xs.toArray.extract 0 xs.toArray.size) = xs.toArray := by simp
      rw [e1, e2] at h
      simpa using h
    refine ⟨rfl, d'.toList, hperm, ?_, ?_, below_sortK _ hg hbase⟩
    · rw [List.pairwise_iff_getElem]
      intro i j hi hj hij
      have hj' : j < xs.toArray.size := by rw [← hpm.1]; simpa using hj
      have h := hsrt i j (Nat.zero_le _) hij hj'
      have hi'' : i < d'.size := by simpa using hi
      have hj'' : j < d'.size := by simpa using hj
      rw [getElem!_pos d' i hi'', getElem!_pos d' j hj''] at h
      simpa using h
    · have h := own_sortK (d := d) (e := e) (n := n) (os := os) hk hs hM d'.toList hl hg hb h2 h3 h4
      simpa using h
end


/-- The order of elements, and just what it makes. -/
theorem three_grow (W : World) (o1 o2 o3 : Obj) : (((W.alloc o1).alloc o2).alloc o3).drew = Go.Sort.grow (W.drewN 1) (#[o1] ++ (#[o2] ++ #[o3])) := by
  rw [Go.Sort.alloc_eq_grow, Go.Sort.alloc_eq_grow, Go.Sort.alloc_eq_grow, Go.Sort.grow_grow, Go.Sort.grow_grow, Go.Sort.drew_grow, show W.drew = W.drewN 1 from rfl]
def OrdS (W1 : World) (A B : Nat) (a b : PElem) (W : World) : Prop := W.cell? ⟨A, 0, none⟩ = some (.int .i64 a.key) ∧ W.cell? ⟨A, 1, none⟩ = some (.int .i64 a.from_) ∧ W.cell? ⟨B, 0, none⟩ = some (.int .i64 b.key) ∧ W.cell? ⟨B, 1, none⟩ = some (.int .i64 b.from_) ∧ Below W1.heap.size W1 W
theorem OrdS.step {W1 W W' : World} {A B : Nat} {a b : PElem} (h : OrdS W1 A B a b W) (hb : Below W.heap.size W W') : OrdS W1 A B a b W' := by
  obtain ⟨h0, h1, h2, h3, h4⟩ := h
  exact ⟨cell_later' hb h0, cell_later' hb h1, cell_later' hb h2, cell_later' hb h3, below_step h4 hb⟩
set_option maxRecDepth 100000 in
set_option maxHeartbeats 4000000 in
theorem p_order_made (a b : PElem) (w : World) : Calls Try.prog 150 #[.agg #[.int .i64 a.key, .int .i64 a.from_], .agg #[.int .i64 b.key, .int .i64 b.from_]] w fun e w' => e = .returned (.int .i64 (ordE a b)) ∧ ∃ o1 o2 o3, w' = (((w.alloc o1).alloc o2).alloc o3).drew := by
  rw [ordE_cmp a b]
  generalize hc : (if cmpI a.key b.key = 0 then cmpI a.from_ b.from_ else cmpI a.key b.key) = c
  have Hc := Lib.hid hc
  clear hc
  go_enter Try.func150, Try.ntmps150
  go_upto_region 1 with fail
  have hS : ∀ W1, W1 = ((w.alloc (.cells #[.int .i64 a.key, .int .i64 a.from_] 58)).alloc (.cells #[.int .i64 b.key, .int .i64 b.from_] 58)) → W1.cell? ⟨w.heap.size, 0, none⟩ = some (.int .i64 a.key) ∧ W1.cell? ⟨w.heap.size, 1, none⟩ = some (.int .i64 a.from_) ∧ W1.cell? ⟨w.heap.size + 1, 0, none⟩ = some (.int .i64 b.key) ∧ W1.cell? ⟨w.heap.size + 1, 1, none⟩ = some (.int .i64 b.from_) ∧ Below W1.heap.size ((w.alloc (.cells #[.int .i64 a.key, .int .i64 a.from_] 58)).alloc (.cells #[.int .i64 b.key, .int .i64 b.from_] 58)) W1 := by
    intro W1 e
    subst e
    refine ⟨by go_simp, by go_simp, by go_simp, by go_simp, Below.refl _ _⟩
  have hSb := hS _ rfl
  clear hS
  go_region_held3 (fun W => W.cell? ⟨w.heap.size, 0, none⟩ = some (.int .i64 a.key) ∧ W.cell? ⟨w.heap.size, 1, none⟩ = some (.int .i64 a.from_) ∧ W.cell? ⟨w.heap.size + 1, 0, none⟩ = some (.int .i64 b.key) ∧ W.cell? ⟨w.heap.size + 1, 1, none⟩ = some (.int .i64 b.from_) ∧ Below ((w.alloc (.cells #[.int .i64 a.key, .int .i64 a.from_] 58)).alloc (.cells #[.int .i64 b.key, .int .i64 b.from_] 58)).heap.size ((w.alloc (.cells #[.int .i64 a.key, .int .i64 a.from_] 58)).alloc (.cells #[.int .i64 b.key, .int .i64 b.from_] 58)) W)
    (first | assumption | exact OrdS.step (by assumption) (below_alloc (Below.refl _ _) _) | exact OrdS.step hSb (by repeat (first | exact Below.refl _ _ | apply below_alloc | apply below_drew1)))
    (first | (go_at_call 100; (first | (with_reducible refine (p_cmp a.key b.key _).mono ?_) | (with_reducible refine (p_cmp a.from_ b.from_ _).mono ?_)); rintro e w' ⟨rfl, rfl⟩) | (go_at_call 152; refine (p_or (cmpI a.key b.key) (cmpI a.from_ b.from_) _ _ _ (by go_simp) (by go_simp) (Nat.le_refl _)).mono ?_; rintro e w' ⟨he, rfl⟩; rw [Hc.out] at he; subst he) | fail)
  go_wp2
  go_ret
  exact ⟨rfl, _, _, _, rfl⟩
theorem ltOf_ord (a b : PElem) : ltOf ordE a b = eltB a b := ordE_lt a b
theorem swo_elem : Go.Sort.SWO (ltOf ordE) where
  irrefl x := by rw [ltOf_ord]; exact elt_irrefl x
  trans x y z h1 h2 := by rw [ltOf_ord] at *; exact elt_trans h1 h2
  ntrans x y z h1 h2 := by
    rw [ltOf_ord] at *
    simp only [eltB, Bool.or_eq_false_iff, Bool.and_eq_false_iff, decide_eq_false_iff_not] at *
    omega
def encPE (x : PElem) : List Value := pelemCells x
/-- Sorted rows are what is there, in order. -/
theorem sorted_of_pairs : ∀ {l : List PElem}, l.Nodup → l.Pairwise (fun a b => ltOf ordE b a = false) → SortedE l
  | [], _, _ => trivial
  | x :: l, hn, hp => by
    obtain ⟨h1, h2⟩ := List.pairwise_cons.1 hp
    obtain ⟨n1, n2⟩ := List.nodup_cons.1 hn
    refine ⟨fun y hy => ?_, sorted_of_pairs n2 h2⟩
    have := h1 y hy
    rw [ltOf_ord] at this
    exact elt_total (fun e => n1 (by rw [← e]; exact hy)) this
set_option maxRecDepth 100000 in
set_option maxHeartbeats 1000000 in
theorem sort_elems (xs : List PElem) (v : Value) (w : World) (base : Nat) (ho : Own kPElem 58 w base v xs) (hbase : base ≤ w.heap.size) (hx : xs.length < 4611686018427387904) :
    Calls Try.prog 52 #[v, .func (.func 150) #[] #[]] w fun r w' => r = .returned (.tuple #[]) ∧ ∃ ys : List PElem, ys.Perm xs ∧ ys.Pairwise (fun a b => ltOf ordE b a = false) ∧ Own kPElem 58 w' base v ys ∧ Below base w w' :=
  sortFunc_own Try.laysSortP kPElem 58 encPE (fun x => rfl) (by show 0 < 2; omega) (fun x v hv => by simp [encPE, pelemCells] at hv; rcases hv with rfl | rfl <;> rfl) (fun w base ok x => kPElem_mkM w base ok x) (fun w base ok x cs h => kPElem_open (kPElem.K_of_M h))
    (fun w => by kernel_rfl) (fun w => by kernel_rfl) ordE swo_elem 150 #[] (enters_of Try.func150 (by kernel_rfl) rfl)
    (fun W x y => (p_order_made x y W).mono (by rintro e w' ⟨he, o1, o2, o3, rfl⟩; exact ⟨he, 1, _, three_grow W o1 o2 o3⟩)) xs v w base ho hbase hx
end Go.Proofs.Ytemkloildadokaa
set_option linter.unusedVariables false
set_option linter.unusedSimpArgs false
/-! What is there behind steps, walked. -/
namespace Go.Proofs.Ytemkloildadokaa
open Go.RowKit Go.Shelf Go.Proofs.YtemkloildadokaaW.PrintWords
theorem m_all (B : Nat) (w : World) : (method 289 112 (.pointer (some ⟨B, 0, none⟩)) "afterword/pique.all").run Try.prog w = .ok (149, .pointer (some ⟨B, 0, none⟩)) w := by kernel_rfl
set_option maxRecDepth 100000 in
set_option maxHeartbeats 4000000 in
theorem pile_all (h0 B : Nat) (own : Option Nat) (q : List PElem) (w : World) (hp : HeapAt h0 w B own q) (hs : SortedE q) (hl : q.length ≤ 1000) (hh : h0 ≤ w.heap.size) :
    Calls Try.prog 149 #[.pointer (some ⟨B, 0, none⟩)] w fun e w' => ∃ v, e = .returned v ∧ Own kPElem 58 w' w.heap.size v q ∧ Below w.heap.size w w' := by
  obtain ⟨l, hpl, hho⟩ := hp
  obtain ⟨A, c, c1, hown, -⟩ := hpl.cell
  obtain ⟨A', c', he, -, hrow⟩ := own_reads' hown
  injection he with e1 e2 e3
  subst e1 e3
  have qq := c1.cell 0 _ rfl
  have hlen := hho.len
  have hl1 : l.length ≤ 1000 := by omega
  have HR := Lib.hid hrow
  have HP := Lib.hid hho.perm
  clear c1 hpl hho hown hrow hlen
  go_enter Try.func149, Try.ntmps149
  go_wp2_with (first
    | (go_at_call 151; (with_reducible refine (fresh_elems A c l w HR.out hl1).mono ?_); rintro e w1 ⟨v1, rfl, ho1, hb1⟩)
    | (go_at_call 52; (with_reducible refine (sort_elems l v1 w1 w.heap.size ho1 hb1.size (by omega)).mono ?_); rintro e w2 ⟨rfl, ys, hperm, hpw, ho2, hb2⟩))
  go_ret
  have hq : ys = q := by
    have h1 : ys.Perm q := hperm.trans HP.out
    exact sorted_perm (sorted_of_pairs (h1.nodup_iff.2 (sorted_nodup hs)) hpw) hs h1
  subst hq
  exact ⟨v1, rfl, ho2, hb1.trans hb2⟩
theorem steps60 {l : List PStep} (h : stepsB l = true) : l.length ≤ 60 := by unfold stepsB at h; simp only [Bool.and_eq_true, decide_eq_true_eq] at h; exact h.2.2
theorem run_take_some {l : List PStep} (h : (runE [] l).isSome = true) (m : Nat) : ∃ q, runE [] (l.take m) = some q := by
  rw [← List.take_append_drop m l, run_append] at h
  cases hq : runE [] (l.take m) with
  | none => rw [hq] at h; simp at h
  | some q => exact ⟨q, rfl⟩
theorem run_snoc {l : List PStep} {s : PStep} {q : List PElem} (h : runE [] l = some q) : runE [] (l ++ [s]) = (nextE q s).map (·.1) := by
  rw [run_append, h, Option.bind_some, runE]
  cases nextE q s with
  | none => rfl
  | some p => rfl
/-- What is there behind the first k steps. -/
structure BehI (n0 B : Nat) (l : List PStep) (k : Nat) (w0 wr : World) : Prop where
  ex : ∃ (own : Option Nat) (q : List PElem) (t : Int), runE [] (l.take k) = some q ∧ GoesE t q (l.drop k) ∧ q.length ≤ k ∧ HeapAt n0 wr B own q
  below : Below w0.heap.size w0 wr
  size : n0 ≤ wr.heap.size
set_option maxRecDepth 100000 in
set_option maxHeartbeats 8000000 in
theorem p_behind (A : Option Addr) (c m : Nat) (l : List PStep) (w : World) (hrow : PStepRow w A l.length l) (hc : l.length ≤ c) (hst : stepsB l = true) (hrun : (runE [] l).isSome = true) (hm : m ≤ l.length) :
    Calls Try.prog 66 #[.slice A l.length c, .int .i64 m] w fun e w' => ∃ v, e = .returned v ∧ Own kPElem 58 w' w.heap.size v (thereE l m) ∧ Below w.heap.size w w' := by
  have hl60 := steps60 hst
  have HR := Lib.hid hrow
  have HG := Lib.hid (GoesE.steps hst)
  have HRun := Lib.hid hrun
  have hmc : (m : Int) ≤ (c : Int) := by omega
  have hmc' : m ≤ c := by omega
  have hml : m ≤ l.length := hm
  have hAm : A = none → m = 0 := fun e => by
    rcases Nat.eq_zero_or_pos m with h | h
    · exact h
    · obtain ⟨_, e2, _⟩ := hrow.2.2 (by omega)
      rw [e] at e2; cases e2
  have HA := Lib.hid hAm
  clear hrow hst hrun hm hAm
  cases A with
  | none =>
    have hm0 := HA.out rfl
    subst hm0
    go_enter Try.func66, Try.ntmps66
    go_upto_region 2 with fail
    have HP1 := Lib.hid (heap_empty w)
    have HB1 := Lib.hid (below_alloc (below_alloc (Below.refl _ w) (.cells #[] 58)) (.cells #[.slice (some ⟨w.heap.size, 0, none⟩) 0 0] 113))
    have HSz := Lib.hid (show ((w.alloc (.cells #[] 58)).alloc (.cells #[.slice (some ⟨w.heap.size, 0, none⟩) 0 0] 113)).heap.size = w.heap.size + 2 by simp)
    generalize (w.alloc (.cells #[] 58)).alloc (.cells #[.slice (some ⟨w.heap.size, 0, none⟩) 0 0] 113) = W2 at HP1 HB1 HSz ⊢
    go_wp2
    go_loopw [15] (fun i wr => ∃ k : Nat, k ≤ 0 ∧ i = .int .i64 k ∧ BehI w.heap.size (w.heap.size + 1) l k w wr) (fun i _ => 0 - (intOf i).toNat)
    case atStart => exact ⟨0, Nat.zero_le _, rfl, ⟨⟨some w.heap.size, [], 0, rfl, by simpa using HG.out, Nat.le_refl _, HP1.out⟩, HB1.out, by rw [HSz.out]; omega⟩⟩
    case round =>
      obtain ⟨k, hk, rfl, hM⟩ := hrel
      have HM := Lib.hid hM
      clear hM
      by_cases hlt : k < 0
      · exact absurd hlt (Nat.not_lt_zero _)
      · have hkl : k = 0 := by omega
        subst hkl
        obtain ⟨own, q, t, h1, h2, h3, h4⟩ := HM.out.ex
        have H1 := Lib.hid h1
        have H2 := Lib.hid h2
        have H3 := Lib.hid h3
        have Hp := Lib.hid h4
        have hmA := m_all (w.heap.size + 1) wr
        clear h1 h2 h3 h4
        go_wp2_with (first
          | (go_at_call 149; (with_reducible refine (pile_all w.heap.size (w.heap.size + 1) own q wr Hp.out H2.out.there.sorted (by have := H3.out; omega) HM.out.below.size).mono ?_); rintro e w2 ⟨v2, rfl, ho2, hb2⟩))
        go_ret
        refine ⟨v2, rfl, ?_, HM.out.below.trans (hb2.mono HM.out.below.size)⟩
        rw [thereE, H1.out]
        exact Kd.R_lower ho2 HM.out.below.size
  | some a =>
    go_enter Try.func66, Try.ntmps66
    go_upto_region 2 with fail
    have HP1 := Lib.hid (heap_empty w)
    have HB1 := Lib.hid (below_alloc (below_alloc (Below.refl _ w) (.cells #[] 58)) (.cells #[.slice (some ⟨w.heap.size, 0, none⟩) 0 0] 113))
    have HSz := Lib.hid (show ((w.alloc (.cells #[] 58)).alloc (.cells #[.slice (some ⟨w.heap.size, 0, none⟩) 0 0] 113)).heap.size = w.heap.size + 2 by simp)
    generalize (w.alloc (.cells #[] 58)).alloc (.cells #[.slice (some ⟨w.heap.size, 0, none⟩) 0 0] 113) = W2 at HP1 HB1 HSz ⊢
    go_wp2
    go_loopw [15] (fun i wr => ∃ k : Nat, k ≤ m ∧ i = .int .i64 k ∧ BehI w.heap.size (w.heap.size + 1) l k w wr) (fun i _ => m - (intOf i).toNat)
    case atStart => exact ⟨0, Nat.zero_le _, rfl, ⟨⟨some w.heap.size, [], 0, rfl, by simpa using HG.out, Nat.le_refl _, HP1.out⟩, HB1.out, by rw [HSz.out]; omega⟩⟩
    case round =>
      obtain ⟨k, hk, rfl, hM⟩ := hrel
      have HM := Lib.hid hM
      clear hM
      by_cases hlt : k < m
      · obtain ⟨s, ad, hd, htk, hget, hae, e0, e1, e2⟩ := pstep_at (Kd.C_below HR.out HM.out.below) k (by omega)
        cases hae
        obtain ⟨own, q, t, h1, h2, h3, h4⟩ := HM.out.ex
        rw [hd] at h2
        have H1 := Lib.hid h1
        have H2 := Lib.hid h2
        have H3 := Lib.hid h3
        have Hp := Lib.hid h4
        have Htk := Lib.hid htk
        clear h1 h2 h3 h4 hd htk hget
        go_upto_region 5 with fail
        have HS := Lib.hid (Cells.new wr #[.int .i64 s.at_, .int .i64 s.do_, .int .i64 s.key] 36)
        have HBa := Lib.hid (below_alloc (Below.refl wr.heap.size wr) (.cells #[.int .i64 s.at_, .int .i64 s.do_, .int .i64 s.key] 36))
        have Hpa := Lib.hid (Hp.out.later HBa.out)
        clear e0 e1 e2
        generalize wr.alloc (.cells #[.int .i64 s.at_, .int .i64 s.do_, .int .i64 s.key] 36) = w1 at HS HBa Hpa ⊢
        have s0 := HS.out.cell 0 _ rfl
        have s1 := HS.out.cell 1 _ rfl
        have s2 := HS.out.cell 2 _ rfl
        have hdo := p_do w.heap.size (w.heap.size + 1) own q s w1 Hpa.out H2.out.there.sorted (by have := H3.out; omega) (Nat.le_trans HM.out.below.size HBa.out.size) (H2.out.kind s (by simp))
        obtain ⟨q1, hq1⟩ := run_take_some HRun.out (k + 1)
        have hsn := run_snoc (s := s) H1.out
        rw [← Htk.out, hq1] at hsn
        cases hn : nextE q s with
        | none => rw [hn] at hsn; cases hsn
        | some qx =>
          obtain ⟨q', x⟩ := qx
          rw [hn] at hsn hdo
          simp only [Option.map_some, Option.some.injEq] at hsn
          subst hsn
          simp only [] at hdo
          have HDo := Lib.hid hdo
          have Hq1 := Lib.hid hq1
          have Hn := Lib.hid hn
          clear hdo hq1 hn
          go_wp2_with (first
            | (go_at_call 83; (with_reducible refine HDo.out.mono ?_); rintro e w2 ⟨rfl, own2, hp2, hf2⟩; have HP2 := Lib.hid hp2; have HF2 := Lib.hid hf2; clear hp2 hf2))
          exact ⟨⟨k + 1, by omega, by go_num, ⟨⟨own2, q1, s.at_ + 1, Hq1.out, H2.out.next Hn.out, by have := nextE_length Hn.out; have := H3.out; omega, HP2.out⟩, (HM.out.below.trans (HBa.out.mono HM.out.below.size)).trans HF2.out.below, Nat.le_trans (Nat.le_trans HM.out.size HBa.out.size) HF2.out.below.size⟩⟩, by simp [intOf]; omega⟩
      · have hkl : k = m := by omega
        subst hkl
        obtain ⟨own, q, t, h1, h2, h3, h4⟩ := HM.out.ex
        have H1 := Lib.hid h1
        have H2 := Lib.hid h2
        have H3 := Lib.hid h3
        have Hp := Lib.hid h4
        have hmA := m_all (w.heap.size + 1) wr
        clear h1 h2 h3 h4
        go_wp2_with (first
          | (go_at_call 149; (with_reducible refine (pile_all w.heap.size (w.heap.size + 1) own q wr Hp.out H2.out.there.sorted (by have := H3.out; omega) HM.out.below.size).mono ?_); rintro e w2 ⟨v2, rfl, ho2, hb2⟩))
        go_ret
        refine ⟨v2, rfl, ?_, HM.out.below.trans (hb2.mono HM.out.below.size)⟩
        rw [thereE, H1.out]
        exact Kd.R_lower ho2 HM.out.below.size
theorem isLine_parts {l : List PStep} (h : lineB l = true) : stepsB l = true ∧ (runE [] l).isSome = true := by
  unfold lineB at h
  simpa only [Bool.and_eq_true] using h
set_option maxRecDepth 100000 in
set_option maxHeartbeats 8000000 in
theorem p_At (A : Option Addr) (c : Nat) (l : List PStep) (t : Int) (w : World) (hrow : PStepRow w A l.length l) (hc : l.length ≤ c) :
    Calls Try.prog 29 #[.slice A l.length c, .int .i64 t] w fun e w' => (∃ v, e = .returned (.tuple #[v, .int .i64 (if lineB l = true then 0 else 2)]) ∧ Own kPElem 58 w' w.heap.size v (if lineB l = true then atE l t else [])) ∧ Below w.heap.size w w' := by
  have HR := Lib.hid hrow
  cases hst : lineB l with
  | false =>
    have HL := Lib.hid hst
    clear hst hrow
    go_enter Try.func29, Try.ntmps29
    go_wp2_with (first
      | (go_at_call 63; (with_reducible refine (p_isLine A c l w HR.out).mono ?_); rintro e w2 ⟨rfl, hb⟩; simp only [HL.out]))
    refine bodyPost_ret (v := .tuple #[.slice none 0 0, .int .i64 2]) (by simp [results, Try.results29, go_sem]) rfl ?_
    exact ⟨⟨_, rfl, Kd.R_nil _ _ _ _ _⟩, hb⟩
  | true =>
    have HL := Lib.hid hst
    obtain ⟨hss, hrn⟩ := isLine_parts hst
    have hl60 := steps60 hss
    have HSt := Lib.hid hss
    have HRun := Lib.hid hrn
    clear hst hrow hss hrn
    go_enter Try.func29, Try.ntmps29
    go_wp2_with (first
      | (go_at_call 63; (with_reducible refine (p_isLine A c l w HR.out).mono ?_); rintro e w2 ⟨rfl, hb⟩; simp only [HL.out]))
    have HB := Lib.hid hb
    clear hb
    go_loopw [6] (fun i wr => ∃ k : Nat, k ≤ l.length ∧ i = .int .i64 k ∧ Below w.heap.size w wr ∧ Hid (uptoE t l = k + uptoE t (l.drop k))) (fun i _ => l.length - (intOf i).toNat)
    case atStart => exact ⟨0, Nat.zero_le _, rfl, HB.out, Lib.hid (by simp)⟩
    case round =>
      obtain ⟨k, hk, rfl, hB, hU⟩ := hrel
      have HBr := Lib.hid hB
      clear hB
      by_cases hlt : k < l.length
      · obtain ⟨s, ad, hd, htk, hget, rfl, e0, e1, e2⟩ := pstep_at (Kd.C_below HR.out HBr.out) k hlt
        have Hd := Lib.hid hd
        clear hd htk hget
        have hlt' : (k : Int) < (l.length : Int) := by omega
        cases hle : decide (s.at_ ≤ t)
        · have Hle := Lib.hid (of_decide_eq_false hle)
          have hup := Lib.hid (show uptoE t l = k by have := hU.out; rw [Hd.out, uptoE, if_neg Hle.out] at this; exact this)
          clear hU
          have hbh := p_behind (some ad) c k l wr (Kd.C_below HR.out HBr.out) hc HSt.out HRun.out hk
          have Hbh := Lib.hid hbh
          clear hbh
          go_wp2_with (first
            | (go_at_call 66; (with_reducible refine Hbh.out.mono ?_); rintro e w3 ⟨v3, rfl, ho3, hb3⟩))
          refine bodyPost_ret (v := .tuple #[v3, .int .i64 0]) (by simp [results, Try.results29, go_sem]) rfl ?_
          refine ⟨⟨v3, rfl, ?_⟩, below_step HBr.out hb3⟩
          rw [atE, hup.out]
          exact Kd.R_lower ho3 HBr.out.size
        · have Hle := Lib.hid (of_decide_eq_true hle)
          have hup := Lib.hid (show uptoE t l = k + 1 + uptoE t (l.drop (k + 1)) by have := hU.out; rw [Hd.out, uptoE, if_pos Hle.out] at this; omega)
          clear hU
          go_wp2
          exact ⟨⟨k + 1, by omega, by go_num, HBr.out, hup⟩, by simp [intOf]; omega⟩
      · have hkl : k = l.length := by omega
        have hup := Lib.hid (show uptoE t l = l.length by have := hU.out; rw [hkl, List.drop_of_length_le (Nat.le_refl _), uptoE] at this; exact this)
        clear hU
        have hlt' : ¬ ((k : Int) < (l.length : Int)) := by omega
        have hbh := p_behind A c k l wr (Kd.C_below HR.out HBr.out) hc HSt.out HRun.out hk
        have Hbh := Lib.hid hbh
        have Hkl := Lib.hid hkl
        clear hbh hkl
        go_wp2_with (first
          | (go_at_call 66; (with_reducible refine Hbh.out.mono ?_); rintro e w3 ⟨v3, rfl, ho3, hb3⟩))
        refine bodyPost_ret (v := .tuple #[v3, .int .i64 0]) (by simp [results, Try.results29, go_sem]) rfl ?_
        refine ⟨⟨v3, rfl, ?_⟩, below_step HBr.out hb3⟩
        rw [atE, hup.out, ← Hkl.out]
        exact Kd.R_lower ho3 HBr.out.size
end Go.Proofs.Ytemkloildadokaa
set_option linter.unusedVariables false
set_option linter.unusedSimpArgs false
/-! Mended steps, walked. -/
namespace Go.Proofs.Ytemkloildadokaa
open Go.RowKit Go.Shelf Go.Proofs.YtemkloildadokaaW.PrintWords
theorem HeapAt.apart {h0 : Nat} {w : World} {B : Nat} {own : Option Nat} {q : List PElem} (h : HeapAt h0 w B own q) {g t : Nat} {cells : Array Value} (hg : w.heap[g]? = some (.cells cells t (0, 0))) (h1 : t ≠ 113) (h2 : t ≠ 58) : g ≠ B ∧ some g ≠ own := by
  obtain ⟨l, hp, _⟩ := h
  obtain ⟨A, n, c, k1, k2, k3⟩ := hp.row
  refine ⟨ty_ne hg (show w.heap[B]? = _ from k1) h1, fun e => ?_⟩
  obtain ⟨_, cs, hc⟩ := own_ty k2 (k3.trans e.symm)
  exact ty_ne hg hc h2 rfl
theorem HeapAt.grown {h0 : Nat} {w w1 : World} {B : Nat} {own : Option Nat} {q : List PElem} (h : HeapAt h0 w B own q) {row : Option Nat} (hgr : w.grownBy w1 row) (hr : ∀ g, row = some g → ∃ cells t, w.heap[g]? = some (.cells cells t (0, 0)) ∧ t ≠ 113 ∧ t ≠ 58) : HeapAt h0 w1 B own q := by
  refine h.kept (hgr.block B h.lt fun e => ?_) (fun g hg => hgr.block g (h.own_lt g hg).2.1 fun e => ?_)
  · obtain ⟨cells, t, h1, h2, h3⟩ := hr B e.symm
    exact (h.apart h1 h2 h3).1 rfl
  · obtain ⟨cells, t, h1, h2, h3⟩ := hr g e.symm
    exact (h.apart h1 h2 h3).2 hg.symm
theorem own_do {α : Type} {d : Kd α} (hd : Flat d) {e base h0 B : Nat} {w w1 : World} {own own1 : Option Nat} {q : List PElem} {v : Value} {xs : List α} (h : Own d e w base v xs) (hp : HeapAt h0 w B own q) (hf : PFr h0 w w1 B own own1) (h1 : e ≠ 113) (h2 : e ≠ 58) : Own d e w1 base v xs :=
  own_step hd h fun k hk => by
    obtain ⟨_, cs, hc⟩ := own_ty h hk
    have := hp.apart hc h1 h2
    exact hf.keep k (Array.getElem?_eq_some_iff.1 hc).1 this.1 this.2
theorem own_row_ty {α : Type} {d : Kd α} {e base : Nat} {w : World} {v : Value} {xs : List α} (h : Own d e w base v xs) : ∀ g, v.ownBlock = some g → ∃ cells t, w.heap[g]? = some (.cells cells t (0, 0)) ∧ t = e := fun g hg => by
  obtain ⟨_, cs, hc⟩ := own_ty h hg
  exact ⟨cs, e, hc, rfl⟩
theorem mendE_cons (q : List PElem) (s : PStep) (l : List PStep) : mendE q (s :: l) = match nextE q s with
    | none => ((mendE q l).1, s.at_ :: (mendE q l).2)
    | some (q', _) => (s :: (mendE q' l).1, (mendE q' l).2) := rfl
/-- What is mended behind the first k steps. -/
structure MendI (n0 B : Nat) (l : List PStep) (k : Nat) (vo vt : Value) (w0 wr : World) : Prop where
  ex : ∃ (own : Option Nat) (q : List PElem) (t : Int) (po : List PStep) (pt : List Int), mendE [] l = (po ++ (mendE q (l.drop k)).1, pt ++ (mendE q (l.drop k)).2) ∧ GoesE t q (l.drop k) ∧ q.length ≤ k ∧ po.length + pt.length ≤ k ∧ HeapAt n0 wr B own q ∧ Own kPStep 36 wr n0 vo po ∧ Own (Kd.int .i64) 3 wr n0 vt pt
  below : Below w0.heap.size w0 wr
def MendPost (w : World) (X : List PStep) (T : List Int) (err : Int) (e : Ending) (w' : World) : Prop := (∃ vo vt, e = .returned (.tuple #[vo, vt, .int .i64 err]) ∧ Own kPStep 36 w' w.heap.size vo X ∧ Own (Kd.int .i64) 3 w' w.heap.size vt T) ∧ Below w.heap.size w w'
theorem info_int : (Try.prog.info? 3).map (fun i => (i.zero, i.size, i.bytes)) = some (some (.int .i64 0), 1, 8) := by kernel_rfl
set_option maxRecDepth 100000 in
set_option maxHeartbeats 8000000 in
theorem p_Mend (A : Option Addr) (c : Nat) (l : List PStep) (w : World) (hrow : PStepRow w A l.length l) :
    Calls Try.prog 27 #[.slice A l.length c] w (if stepsB l = true then MendPost w (mendE [] l).1 (mendE [] l).2 0 else MendPost w [] [] 2) := by
  have HR := Lib.hid hrow
  cases hst : stepsB l with
  | false =>
    have HL := Lib.hid hst
    clear hst hrow
    simp only [Bool.false_eq_true, if_false]
    go_enter Try.func27, Try.ntmps27
    go_wp2_with (first
      | (go_at_call 82; (with_reducible refine (p_areSteps A c l w HR.out).mono ?_); rintro e w2 ⟨rfl, hb⟩; simp only [HL.out]))
    refine bodyPost_ret (v := .tuple #[.slice none 0 0, .slice none 0 0, .int .i64 2]) (by simp [results, Try.results27, go_sem]) rfl ?_
    exact ⟨⟨_, _, rfl, Kd.R_nil _ _ _ _ _, Kd.R_nil _ _ _ _ _⟩, hb⟩
  | true =>
    have HL := Lib.hid hst
    have hl60 := steps60 hst
    have hm : l.length ≤ 9223372036854775807 := by omega
    have HG := Lib.hid (GoesE.steps hst)
    clear hst hrow
    simp only [if_true]
    go_enter Try.func27, Try.ntmps27
    go_upto_region 6 with (first
      | (go_at_call 82; (with_reducible refine (p_areSteps A c l w HR.out).mono ?_); rintro e w2 ⟨rfl, hb⟩; simp only [HL.out]))
    have HB := Lib.hid hb
    have HP1 := Lib.hid (heap_empty w2)
    have HB1 := Lib.hid (below_alloc (below_alloc (Below.refl _ w2) (.cells #[] 58)) (.cells #[.slice (some ⟨w2.heap.size, 0, none⟩) 0 0] 113))
    have HSz := Lib.hid (show ((w2.alloc (.cells #[] 58)).alloc (.cells #[.slice (some ⟨w2.heap.size, 0, none⟩) 0 0] 113)).heap.size = w2.heap.size + 2 by simp)
    clear hb
    generalize (w2.alloc (.cells #[] 58)).alloc (.cells #[.slice (some ⟨w2.heap.size, 0, none⟩) 0 0] 113) = W2 at HP1 HB1 HSz ⊢
    go_wp2
    go_loopw [19, 5, 6] (fun i vo vt wr => ∃ k : Nat, k ≤ l.length ∧ i = .int .i64 k ∧ MendI w2.heap.size (w2.heap.size + 1) l k vo vt w2 wr) (fun i _ _ _ => l.length - (intOf i).toNat)
    case atStart => exact ⟨0, Nat.zero_le _, rfl, ⟨⟨some w2.heap.size, [], 0, [], [], by simp, by simpa using HG.out, Nat.le_refl _, Nat.le_refl _, HP1.out, Kd.R_nil _ _ _ _ _, Kd.R_nil _ _ _ _ _⟩, HB1.out⟩⟩
    case round =>
      obtain ⟨k, hk, rfl, hM⟩ := hrel
      have HM := Lib.hid hM
      clear hM
      by_cases hlt : k < l.length
      · obtain ⟨s, ad, hd, htk, hget, rfl, e0, e1, e2⟩ := pstep_at (Kd.C_below HR.out (below_step HB.out HM.out.below)) k hlt
        obtain ⟨own, q, t, po, pt, h1, h2, h3, h4, h5, h6, h7⟩ := HM.out.ex
        rw [hd] at h1 h2
        have H1 := Lib.hid h1
        have H2 := Lib.hid h2
        have H3 := Lib.hid h3
        have H4 := Lib.hid h4
        have Hp := Lib.hid h5
        have H6 := Lib.hid h6
        have H7 := Lib.hid h7
        clear h1 h2 h3 h4 h5 h6 h7 hd htk hget
        go_upto_region 9 with fail
        have HS := Lib.hid (Cells.new wr #[.int .i64 s.at_, .int .i64 s.do_, .int .i64 s.key] 36)
        have HBa := Lib.hid (below_alloc (Below.refl wr.heap.size wr) (.cells #[.int .i64 s.at_, .int .i64 s.do_, .int .i64 s.key] 36))
        have Hpa := Lib.hid (Hp.out.later HBa.out)
        have H6a := Lib.hid (Kd.R_below H6.out HBa.out)
        have H7a := Lib.hid (Kd.R_below H7.out HBa.out)
        have hvo : ∀ g, u5.ownBlock = some g → g < wr.heap.size := fun g hg => by obtain ⟨_, cs, hc⟩ := own_ty H6.out hg; exact (Array.getElem?_eq_some_iff.1 hc).1
        have HSn := Lib.hid (show u5.ownBlock ≠ some wr.heap.size from fun e => by have := hvo _ e; omega)
        clear e0 e1 e2 hvo
        generalize wr.alloc (.cells #[.int .i64 s.at_, .int .i64 s.do_, .int .i64 s.key] 36) = w1 at HS HBa Hpa H6a H7a ⊢
        have s0 := HS.out.cell 0 _ rfl
        have s1 := HS.out.cell 1 _ rfl
        have s2 := HS.out.cell 2 _ rfl
        have hsz1 : w2.heap.size ≤ w1.heap.size := Nat.le_trans HM.out.below.size HBa.out.size
        have hdo := p_do w2.heap.size (w2.heap.size + 1) own q s w1 Hpa.out H2.out.there.sorted (by have := H3.out; omega) hsz1 (H2.out.kind s (by simp))
        have hap := Hpa.out.apart (show w1.heap[wr.heap.size]? = _ from HS.out) (by decide) (by decide)
        have Hap := Lib.hid hap
        clear hap
        rw [mendE_cons] at H1
        cases hn : nextE q s with
        | none =>
          rw [hn] at hdo H1
          simp only [] at hdo
          have HDo := Lib.hid hdo
          have Hq0 := Lib.hid (show q = [] by
            unfold nextE at hn
            split at hn
            · cases q with
              | nil => rfl
              | cons y q => cases hn
            · cases hn)
          clear hdo hn
          go_upto_region 12 with (first
            | (go_at_call 83; (with_reducible refine HDo.out.mono ?_); rintro e w3 ⟨rfl, own3, hp3, hf3⟩))
          have HB3 := Lib.hid (Below.trans (Below.mono HBa.out HM.out.below.size |> HM.out.below.trans) hf3.below)
          have H6b := Lib.hid (own_do flat_pstep H6a.out Hpa.out hf3 (by decide) (by decide))
          have H7b := Lib.hid (own_do flat_int H7a.out Hpa.out hf3 (by decide) (by decide))
          have HS3 := Lib.hid (hf3.cells HS.out Hap.out.1 Hap.out.2)
          have hb4 := below_alloc (Below.refl w3.heap.size w3) (.cells #[.int .i64 0, .int .i64 0] 58)
          have HP4 := Lib.hid (hp3.later hb4)
          have HB4 := Lib.hid (below_step HB3.out hb4)
          have H6c := Lib.hid (Kd.R_below H6b.out hb4)
          have H7c := Lib.hid (Kd.R_below H7b.out hb4)
          have HS4 := Lib.hid (HS3.out.later hb4)
          clear hb4 hp3 hf3 s0 s1 s2
          generalize w3.alloc (.cells #[.int .i64 0, .int .i64 0] 58) = w4 at HP4 HB4 H6c H7c HS4 ⊢
          have s0 := HS4.out.cell 0 _ rfl
          have s1 := HS4.out.cell 1 _ rfl
          have s2 := HS4.out.cell 2 _ rfl
          go_wp2_with (at_builtin; refine Kd.R_append (Kd.int .i64) (w0 := w4) w2.heap.size rfl (.tmp 35) (.tmp 38) 27 3 (.int .i64 0) 8 rfl Try.underlying27 info_int rfl (by decide) (by omega) _ pt s.at_ [.int .i64 s.at_] (fun _ => True) (fun _ => False) rfl rfl rfl (fun _ hk => hk.elim) (fun _ _ => trivial) H7c.out (Below.refl _ _) HB4.out.size (by have := H4.out; omega) ?_; intro v5 w5 r1 r2 r3 r4; have HP5 := Lib.hid (HP4.out.grown r3 (fun g hg => by obtain ⟨cs, t, h1, rfl⟩ := own_row_ty H7c.out g hg; exact ⟨cs, _, h1, by decide, by decide⟩)); have H65 := Lib.hid (own_grown_ty flat_pstep H6c.out r3 (fun g hg => by obtain ⟨cs, t, h1, rfl⟩ := own_row_ty H7c.out g hg; exact ⟨cs, _, h1, by decide⟩)))
          refine ⟨⟨k + 1, by omega, by go_num, ⟨⟨own3, q, s.at_ + 1, po, pt ++ [s.at_], by rw [H1.out]; simp, ?_, by have := H3.out; omega, by have := H4.out; simp; omega, ?_, H65.out, r1⟩, HB4.out.trans r2⟩⟩, by simp [intOf]; omega⟩
          · have h2 := H2.out
            refine ⟨h2.there.mono (by have := h2.from_ s rfl; omega), ?_, ?_, fun u hu => h2.kind u (by simp [hu])⟩
            · exact (inc_cons h2.inc).2
            · intro u hu
              have := (inc_cons h2.inc).1 u (by cases hd2 : l.drop (k + 1) with | nil => rw [hd2] at hu; cases hu | cons y r => rw [hd2] at hu; simp at hu; simp [hu])
              omega
          · have := HP5.out
            rwa [Hq0.out]
        | some qx =>
          obtain ⟨q', x⟩ := qx
          rw [hn] at hdo H1
          simp only [] at hdo
          have HDo := Lib.hid hdo
          have Hn := Lib.hid hn
          clear hdo hn
          go_upto_region 11 with (first
            | (go_at_call 83; (with_reducible refine HDo.out.mono ?_); rintro e w3 ⟨rfl, own3, hp3, hf3⟩))
          have HB3 := Lib.hid (Below.trans (Below.mono HBa.out HM.out.below.size |> HM.out.below.trans) hf3.below)
          have H6b := Lib.hid (own_do flat_pstep H6a.out Hpa.out hf3 (by decide) (by decide))
          have H7b := Lib.hid (own_do flat_int H7a.out Hpa.out hf3 (by decide) (by decide))
          have HS3 := Lib.hid (hf3.cells HS.out Hap.out.1 Hap.out.2)
          have hb4 := below_alloc (Below.refl w3.heap.size w3) (.cells #[.int .i64 x.key, .int .i64 x.from_] 58)
          have HP4 := Lib.hid (hp3.later hb4)
          have HB4 := Lib.hid (below_step HB3.out hb4)
          have H6c := Lib.hid (Kd.R_below H6b.out hb4)
          have H7c := Lib.hid (Kd.R_below H7b.out hb4)
          have HS4 := Lib.hid (HS3.out.later hb4)
          clear hb4 hp3 hf3 s0 s1 s2
          generalize w3.alloc (.cells #[.int .i64 x.key, .int .i64 x.from_] 58) = w4 at HP4 HB4 H6c H7c HS4 ⊢
          have s0 := HS4.out.cell 0 _ rfl
          have s1 := HS4.out.cell 1 _ rfl
          have s2 := HS4.out.cell 2 _ rfl
          go_wp2_with (at_builtin; refine Kd.R_append kPStep (w0 := w4) w2.heap.size rfl (.tmp 31) (.tmp 33) 22 36 zStep 24 rfl Try.underlying22 info_pstep rfl (by decide) (by omega) _ po s (pstepCells s) (fun _ => True) (fun _ => False) rfl rfl (kPStep_mkM _ _ _ _) (fun _ hk => hk.elim) (fun _ _ => trivial) H6c.out (Below.refl _ _) HB4.out.size (by have := H4.out; omega) ?_; intro v5 w5 r1 r2 r3 r4; have HP5 := Lib.hid (HP4.out.grown r3 (fun g hg => by obtain ⟨cs, t, h1, rfl⟩ := own_row_ty H6c.out g hg; exact ⟨cs, _, h1, by decide, by decide⟩)); have H75 := Lib.hid (own_grown_ty flat_int H7c.out r3 (fun g hg => by obtain ⟨cs, t, h1, rfl⟩ := own_row_ty H6c.out g hg; exact ⟨cs, _, h1, by decide⟩)))
          exact ⟨⟨k + 1, by omega, by go_num, ⟨⟨own3, q', s.at_ + 1, po ++ [s], pt, by rw [H1.out]; simp, H2.out.next Hn.out, by have := nextE_length Hn.out; have := H3.out; omega, by have := H4.out; simp; omega, HP5.out, r1, H75.out⟩, HB4.out.trans r2⟩⟩, by simp [intOf]; omega⟩
      · have hkl : k = l.length := by omega
        obtain ⟨own, q, t, po, pt, h1, h2, h3, h4, h5, h6, h7⟩ := HM.out.ex
        rw [hkl, List.drop_of_length_le (Nat.le_refl _)] at h1
        have H1 := Lib.hid (show mendE [] l = (po, pt) by rw [h1]; simp [mendE])
        have H6 := Lib.hid h6
        have H7 := Lib.hid h7
        clear hkl h1 h2 h3 h4 h5 h6 h7
        go_wp2
        refine bodyPost_ret (v := .tuple #[u5, u6, .int .i64 0]) (by simp [results, Try.results27, go_sem]) rfl ?_
        rw [H1.out]
        exact ⟨⟨u5, u6, rfl, Kd.R_lower H6.out HB.out.size, Kd.R_lower H7.out HB.out.size⟩, below_step HB.out HM.out.below⟩
end Go.Proofs.Ytemkloildadokaa
set_option linter.unusedVariables false
set_option linter.unusedSimpArgs false
/-! What each step takes, by its time. -/
namespace Go.Proofs.Ytemkloildadokaa
open Go.RowKit Go.Shelf Go.Proofs.YtemkloildadokaaW.PrintWords Go.Instr
attribute [local go_sem] Oper.semAt_some
def elemVal (x : PElem) : Value := .agg #[.int .i64 x.key, .int .i64 x.from_]
theorem aget_aput {κ ν : Type} [DecidableEq κ] (k k' : κ) (v : ν) : ∀ l : List (κ × ν), aget k (aput k' v l) = if k = k' then some v else aget k l
  | [] => by simp [aget, aput]
  | (a, x) :: l => by
    unfold aput
    split
    · rename_i h; subst h
      simp only [aget]
      split <;> rfl
    · rename_i h
      simp only [aget, aget_aput k k' v l]
      by_cases h1 : k = a
      · subst h1; rw [if_pos rfl, if_pos rfl, if_neg (fun e => h e.symm)]
      · rw [if_neg h1, if_neg h1]
/-- The map behind steps. -/
def mapT (D : List (PStep × PElem)) : List (Int × Value) := D.foldl (fun m p => if (p.1.do_ == 2) = true then aput p.1.at_ (elemVal p.2) m else m) []
theorem mapT_snoc (D : List (PStep × PElem)) (p : PStep × PElem) : mapT (D ++ [p]) = if (p.1.do_ == 2) = true then aput p.1.at_ (elemVal p.2) (mapT D) else mapT D := by
  unfold mapT; rw [List.foldl_append]; rfl
theorem mapT_look : ∀ (D : List (PStep × PElem)) (m : List (Int × Value)) (t : Int), (D.map fun p => p.1.at_).Nodup →
    aget t (D.foldl (fun m p => if (p.1.do_ == 2) = true then aput p.1.at_ (elemVal p.2) m else m) m) = match lookE D t with | some x => some (elemVal x) | none => aget t m
  | [], m, t, _ => rfl
  | p :: D, m, t, hn => by
    rw [List.map_cons, List.nodup_cons] at hn
    rw [List.foldl_cons, mapT_look D _ t hn.2]
    have hno : p.1.at_ = t → lookE D t = none := fun e => by
      unfold lookE
      rw [Option.map_eq_none_iff, List.find?_eq_none]
      intro x hx hxt
      simp only [List.mem_filter] at hx
      exact hn.1 (List.mem_map.2 ⟨x, hx.1, by simp at hxt; omega⟩)
    by_cases h2 : (p.1.do_ == 2) = true
    · rw [if_pos h2, aget_aput]
      by_cases ht : p.1.at_ = t
      · have hl : lookE (p :: D) t = some p.2 := by unfold lookE; rw [List.filter_cons, if_pos h2, List.find?_cons, show (p.1.at_ == t) = true by simpa using ht]; rfl
        rw [hno ht, hl, if_pos ht.symm]
      · have hl : lookE (p :: D) t = lookE D t := by unfold lookE; rw [List.filter_cons, if_pos h2, List.find?_cons, show (p.1.at_ == t) = false by simpa using ht]
        rw [hl, if_neg (fun e => ht e.symm)]
    · have hl : lookE (p :: D) t = lookE D t := by unfold lookE; rw [List.filter_cons, if_neg h2]
      rw [if_neg h2, hl]
theorem done_prefix : ∀ (S : List PStep) (q : List PElem), ((doneE q S).map (·.1)).Sublist S
  | [], q => by simp [doneE]
  | s :: S, q => by
    rw [doneE]
    cases hn : nextE q s with
    | none => simp
    | some p => obtain ⟨q', x⟩ := p; exact (done_prefix S q').cons_cons s
theorem inc_pair : ∀ {l : List PStep}, incB l = true → l.Pairwise (fun a b => a.at_ < b.at_)
  | [], _ => .nil
  | s :: l, h => by
    obtain ⟨h1, h2⟩ := inc_cons h
    exact List.pairwise_cons.2 ⟨h1, inc_pair h2⟩
theorem pair_inc : ∀ {l : List PStep}, l.Pairwise (fun a b => a.at_ < b.at_) → incB l = true
  | [], _ => rfl
  | s :: l, h => by
    obtain ⟨h1, h2⟩ := List.pairwise_cons.1 h
    unfold incB
    rw [Bool.and_eq_true]
    refine ⟨?_, pair_inc h2⟩
    cases l with
    | nil => rfl
    | cons u r => simpa using h1 u (by simp)
theorem mapT_taken {l : List PStep} (h : incB l = true) (t : Int) : aget t (mapT (doneE [] l)) = (takenE l t).map elemVal := by
  have hn : ((doneE [] l).map fun p => p.1.at_).Nodup := by
    have h1 := (inc_pair h).sublist (done_prefix l [])
    have h2 : ((doneE [] l).map (·.1)).map (·.at_) = (doneE [] l).map fun p => p.1.at_ := by rw [List.map_map]; rfl
    rw [← h2, List.nodup_iff_pairwise_ne, List.pairwise_map]
    exact h1.imp fun h => by omega
  have := mapT_look (doneE [] l) [] t hn
  rw [takenE_look]
  unfold mapT
  rw [this]
  cases lookE (doneE [] l) t <;> rfl
theorem leaves_marksO {n n0 : Nat} {P : Program} {fn : Func} {tmps : Array Value} {R : Ending → World → Prop} {v : Value} (hres : ∀ w', (results fn tmps).run P w' = .ok v w') :
    ∀ (Ds : List Nat) (w : World), Marks n0 w Ds → n0 ≤ w.heap.size → (∀ w', Below n0 w w' → (∀ (k : Nat) (o : Obj), w.heap[k]? = some o → (∀ ds, o ≠ Obj.deferred ds) → w'.heap[k]? = some o) → R (.returned v) w') → LeavesInM Fence.wide n P fn tmps R (markDefers Ds) .returning w
  | [], w, _, _, h => ⟨v, hres w, h w (Below.refl _ _) fun _ _ h _ => h⟩
  | D :: Ds, w, hm, hn, h => by
    obtain ⟨h1, h2⟩ := hm.held D List.mem_cons_self
    have hb : Below n0 w (w.putObj D (.deferred none)) := (Below.refl n0 w).grown (grownBy_putObj' w D (.deferred none)) hn (fun k e => by cases e; exact h1)
    refine ⟨by simp, .inl ⟨D, _, rfl, run_takeDeferred h2, leaves_marksO hres Ds _ ⟨(List.nodup_cons.1 hm.nodup).2, fun E hE => ⟨(hm.held E (List.mem_cons_of_mem _ hE)).1, (World.putObj_heap_other (fun e => by subst e; exact (List.nodup_cons.1 hm.nodup).1 hE)).trans (hm.held E (List.mem_cons_of_mem _ hE)).2⟩⟩ (Nat.le_trans hn hb.size) fun w' hb' hk' => h w' (hb.trans hb') fun k o hk ho => ?_⟩⟩
    refine hk' k o ((World.putObj_heap_other (fun e => ?_)).trans hk) ho
    subst e; rw [h2] at hk; cases hk; exact ho _ rfl
theorem kept_putMap {p : Nat → Prop} (W : World) (b : Nat) (o : Obj) (hb : ¬ p b) : KeptIf p W (putMap W b o) := ⟨rfl, rfl, rfl, by rw [putMap_size]; exact Nat.le_refl _, fun k hk hp => putMap_ne W (fun e => hb (by rw [← e]; exact hp)) o⟩
theorem below_putMap' {B : Nat} {w W : World} (h : Below B w W) {b : Nat} (hb : B ≤ b) (o : Obj) : Below B w (putMap W b o) :=
  ⟨h.os, h.tape, h.output, by rw [putMap_size]; exact h.size, fun k hk => by rw [putMap_ne W (by omega)]; exact h.block k hk⟩
set_option maxRecDepth 100000 in
set_option maxHeartbeats 8000000 in
theorem p_taken (A : Option Addr) (c : Nat) (l : List PStep) (w : World) (hrow : PStepRow w A l.length l) (hst : stepsB l = true) :
    Calls Try.prog 76 #[.slice A l.length c] w fun e w' => ∃ b, e = .returned (.map (some b)) ∧ w.heap.size ≤ b ∧ w'.heap[b]? = some (mapObj (Value.int .i64) (mapT (doneE [] l))) ∧ Below w.heap.size w w' := by
    have hm : l.length ≤ 9223372036854775807 := hrow.2.1
    have HR := Lib.hid hrow
    have hl60 := steps60 hst
    have Hst := Lib.hid hst
    have Hdl := Lib.hid (done_le l [])
    clear hst hrow
    refine (callsIn_wide (n := 3)).1 ?_
    refine callsIn_of_wp_marks Try.func76 rfl trivial ?_ rfl
    refine wpIn_wide.2 ?_
    simp only [Try.ntmps76, List.size_toArray, List.length_cons, List.length_nil, Nat.reduceAdd, Nat.reduceSub, Array.replicate_succ, Array.replicate_zero, List.push_toArray, List.append_toArray, List.nil_append, List.cons_append]
    have hmm : ∀ w : World, (Instr.makeMap 107 none).run Try.prog w = .ok (.map (some w.heap.size)) (w.alloc (.map #[] 0)) := fun w => by kernel_rfl
    go_upto_region 2 with fail
    have HN := Lib.hid (show Cells ((w.alloc (.map #[] 0)).alloc (.cells #[.map (some w.heap.size)] 107)) (w.heap.size + 1) #[.map (some w.heap.size)] 107 by have := Cells.new (w.alloc (.map #[] 0)) #[.map (some w.heap.size)] 107; rwa [World.size_alloc] at this)
    have HM := Lib.hid (show ((w.alloc (.map #[] 0)).alloc (.cells #[.map (some w.heap.size)] 107)).heap[w.heap.size]? = some (mapObj (Value.int .i64) (mapT [])) from (Below.heap_alloc _ _ _ (by simp)).trans (World.alloc_heap_new w _))
    have HBa := Lib.hid (below_alloc (below_alloc (Below.refl w.heap.size w) (.map #[] 0)) (.cells #[.map (some w.heap.size)] 107))
    have HSa := Lib.hid (show ((w.alloc (.map #[] 0)).alloc (.cells #[.map (some w.heap.size)] 107)).heap.size = w.heap.size + 2 by simp)
    clear hmm
    generalize (w.alloc (.map #[] 0)).alloc (.cells #[.map (some w.heap.size)] 107) = w3 at HN HM HBa HSa ⊢
    go_wp2_with (first
      | (go_at_call 64; (with_reducible refine (pique_done A l.length c w3).mono ?_); rintro e w4 ⟨rfl, rfl⟩))
    have HF := Lib.hid ((Cells.new w3 #[.slice A l.length c] 22).cell 0 _ rfl)
    have hbf := below_alloc (Below.refl w3.heap.size w3) (.cells #[.slice A l.length c] 22)
    have HN4 := Lib.hid (HN.out.later hbf)
    have HM4 := Lib.hid (heap_later hbf HM.out)
    have HB4 := Lib.hid (below_step HBa.out hbf)
    have HS4 := Lib.hid (show (w3.alloc (.cells #[.slice A l.length c] 22)).heap.size = w3.heap.size + 1 by simp)
    clear hbf
    generalize w3.alloc (.cells #[.slice A l.length c] 22) = w4 at HF HN4 HM4 HB4 HS4 ⊢
    have hs3 := HSa.out
    have hs4 := HS4.out
    refine (wpIn_wide (n := 3)).1 ?_
    refine wpIn_rangeFunc_H rfl (by omega) (gf := 95) (lb := #[.pointer (some ⟨w3.heap.size, 0, none⟩)]) rfl trivial (enters_of Try.func95 (by kernel_rfl) rfl)
      (done_seq 2 w3.heap.size A c l w w4 HR.out Hst.out HB4.out HF.out) HB4.out.size (Below.refl _ _) (fun _ => rfl)
      (fun pre rc W => rc = none ∧ Cells W (w.heap.size + 1) #[.map (some w.heap.size)] 107 ∧ W.heap[w.heap.size]? = some (mapObj (Value.int .i64) (mapT pre)) ∧ Below w.heap.size w W)
      (fun s rc X Y h hk => ⟨h.1, hk.cells h.2.1 (.inl (by omega)), (hk.block _ (Array.getElem?_eq_some_iff.1 h.2.2.1).1 (.inl (by omega))).trans h.2.2.1, h.2.2.2.trans (hk.below h.2.2.2.size fun k hk => .inl (by omega))⟩)
      (fun s rc X h g e => by rw [h.1] at e; cases e)
      ⟨rfl, HN4.out, HM4.out, HB4.out⟩
      (fun x a' W => ∃ B5 B6, Cells W B5 #[.int .i64 x.1.at_, .int .i64 x.1.do_, .int .i64 x.1.key] 36 ∧ Cells W B6 #[.int .i64 x.2.key, .int .i64 x.2.from_] 58 ∧ a' = { tmps := #[.slice A l.length c, undef, .map none, .pointer (some ⟨w.heap.size + 1, 0, none⟩), .pointer (some ⟨B5, 0, none⟩), .pointer (some ⟨B6, 0, none⟩), .map (some w.heap.size), .slice A l.length c, .func (.func 95) #[] #[.pointer (some ⟨w3.heap.size, 0, none⟩)], .agg #[.int .i64 x.1.at_, .int .i64 x.1.do_, .int .i64 x.1.key], .agg #[.int .i64 x.2.key, .int .i64 x.2.from_], undef, undef, undef, undef, undef, undef, undef, undef], defers := [] })
      (fun x a' s W W' row ⟨B5, B6, h5, h6, h⟩ hg hr => ⟨B5, B6, h5.turned hg (fun r e => (hr r e).2), h6.turned hg (fun r e => (hr r e).2), h⟩)
      ?assign ?body ?done
    case assign =>
      rintro L pre rc x W K - hK
      simp only [encP]
      gi_wp2
      refine hK _ _ (below_alloc (below_alloc (Below.refl _ _) _) _) ⟨W.heap.size, W.heap.size + 1, (Cells.new W _ _).later (below_alloc (Below.refl _ _) _), ?_, by first | rfl | rw [hs3]⟩
      have := Cells.new (W.alloc (.cells #[.int .i64 x.1.at_, .int .i64 x.1.do_, .int .i64 x.1.key] 36)) #[.int .i64 x.2.key, .int .i64 x.2.from_] 58
      rwa [World.size_alloc] at this
    case body =>
      rintro L pre rc x a' W hsz ⟨rfl, h1, h2, h3⟩ ⟨B5, B6, h5, h6, rfl⟩ hlen
      have hsn := mapT_snoc pre x
      have k0 := h5.cell 0 _ rfl
      have k1 := h5.cell 1 _ rfl
      have k5 := h6.cell 0 _ rfl
      have k6 := h6.cell 1 _ rfl
      have kv := h1.cell 0 _ rfl
      have H1 := Lib.hid h1
      have H2 := Lib.hid h2
      have H3 := Lib.hid h3
      cases hb2 : (x.1.do_ == 2)
      · rw [hb2] at hsn
        have Hsn := Lib.hid hsn
        clear hsn h2
        gi_wp2
        exact ⟨none, ⟨rfl, H1.out, by rw [Hsn.out]; exact H2.out, H3.out⟩, .inl rfl, KeptIf.refl _ _⟩
      · rw [hb2] at hsn
        have Hsn := Lib.hid hsn
        have hst : (mapUpdate 107 (.map (some w.heap.size)) (.int .i64 x.1.at_) (.agg #[.int .i64 x.2.key, .int .i64 x.2.from_])).run Try.prog W = .ok () (putMap W w.heap.size (mapObj (Value.int .i64) (aput x.1.at_ (elemVal x.2) (mapT pre)))) := run_store_is (keyT_int Try.underlying3) Try.underlying107 h2
        clear hsn h2
        gi_wp2
        refine ⟨none, ⟨rfl, ?_, ?_, below_putMap' H3.out (Nat.le_refl _) _⟩, .inl rfl, kept_putMap W _ _ (by rintro (h | h) <;> omega)⟩
        · exact (putMap_ne W (by omega) _).trans H1.out
        · rw [Hsn.out]; exact putMap_at H2.out _
    case done =>
      rintro D xs rc W hD rfl ⟨rfl, h1, h2, h3⟩ hK
      have k0 := h1.cell 0 _ rfl
      have H2 := Lib.hid h2
      clear h2
      go_wp2
      refine leaves_marksO (n0 := w.heap.size) (v := .map (some w.heap.size)) (fun w' => by simp [results, Try.results76, go_sem]) [D] W ⟨by simp, fun E hE => by simp at hE; subst hE; exact ⟨by omega, hK⟩⟩ h3.size ?_
      intro w' hb' hk'
      exact ⟨_, rfl, Nat.le_refl _, hk' _ _ H2.out (fun ds e => by cases e), h3.trans hb'⟩
end Go.Proofs.Ytemkloildadokaa
set_option linter.unusedVariables false
set_option linter.unusedSimpArgs false
/-! Elements, steps, spans are compared; slices of them. (Printed by gen_piqeq.py.) -/
namespace Go.Proofs.Ytemkloildadokaa
open Go Go.RowKit Go.Proofs.YtemkloildadokaaW.PrintWords

def pElemEq (a b : PElem) : Bool := decide (a = b)
def pStepEq (a b : PStep) : Bool := decide (a = b)
def pSpanEq (a b : PSpan) : Bool := decide (a = b)
theorem eqPElem (d : Nat) (w : World) (x0 y0 : Int) (x1 y1 : Int) :
    (Op.equalIn (d + 2) 58 (.agg #[.int .i64 x0, .int .i64 x1]) (.agg #[.int .i64 y0, .int .i64 y1])).run Try.prog w = .ok (pElemEq ⟨x0, x1⟩ ⟨y0, y1⟩) w := by
  have e : pElemEq ⟨x0, x1⟩ ⟨y0, y1⟩ = (x0 == y0 && (x1 == y1)) := by unfold pElemEq; rw [Bool.eq_iff_iff]; simp
  rw [e]; clear e
  refine eqA_of Try.underlying58 (by kernel_rfl) ?_
  refine eqf_cons (by rfl) (by go_simp; rfl) (by go_simp; rfl) (by go_simp) ?_
  exact eqf_last (by rfl) (by go_simp; rfl) (by go_simp; rfl) (by go_simp)
theorem eqPStep (d : Nat) (w : World) (x0 y0 : Int) (x1 y1 : Int) (x2 y2 : Int) :
    (Op.equalIn (d + 2) 36 (.agg #[.int .i64 x0, .int .i64 x1, .int .i64 x2]) (.agg #[.int .i64 y0, .int .i64 y1, .int .i64 y2])).run Try.prog w = .ok (pStepEq ⟨x0, x1, x2⟩ ⟨y0, y1, y2⟩) w := by
  have e : pStepEq ⟨x0, x1, x2⟩ ⟨y0, y1, y2⟩ = (x0 == y0 && (x1 == y1 && (x2 == y2))) := by unfold pStepEq; rw [Bool.eq_iff_iff]; simp
  rw [e]; clear e
  refine eqA_of Try.underlying36 (by kernel_rfl) ?_
  refine eqf_cons (by rfl) (by go_simp; rfl) (by go_simp; rfl) (by go_simp) ?_
  refine eqf_cons (by rfl) (by go_simp; rfl) (by go_simp; rfl) (by go_simp) ?_
  exact eqf_last (by rfl) (by go_simp; rfl) (by go_simp; rfl) (by go_simp)
theorem eqPSpan (d : Nat) (w : World) (x0 y0 : Int) (x1 y1 : Int) (x2 y2 : Int) (x3 y3 : Int) :
    (Op.equalIn (d + 3) 60 (.agg #[.int .i64 x0, .int .i64 x1, .int .i64 x2, .int .i64 x3]) (.agg #[.int .i64 y0, .int .i64 y1, .int .i64 y2, .int .i64 y3])).run Try.prog w = .ok (pSpanEq ⟨x0, x1, ⟨x2, x3⟩⟩ ⟨y0, y1, ⟨y2, y3⟩⟩) w := by
  have e : pSpanEq ⟨x0, x1, ⟨x2, x3⟩⟩ ⟨y0, y1, ⟨y2, y3⟩⟩ = (x0 == y0 && (x1 == y1 && (pElemEq ⟨x2, x3⟩ ⟨y2, y3⟩))) := by unfold pSpanEq; rw [Bool.eq_iff_iff]; simp [pElemEq]
  rw [e]; clear e
  refine eqA_of Try.underlying60 (by kernel_rfl) ?_
  refine eqf_cons (by rfl) (by go_simp; rfl) (by go_simp; rfl) (by go_simp) ?_
  refine eqf_cons (by rfl) (by go_simp; rfl) (by go_simp; rfl) (by go_simp) ?_
  exact eqf_last (by rfl) (by go_simp) (by go_simp) (eqPElem (d + 0) w _ _ _ _)
attribute [go_sem high] eqPElem eqPStep eqPSpan
theorem pspan_at {w : World} {A : Option Addr} {n : Nat} {l : List PSpan} (h : SpanRow w A n l) (k : Nat) (hk : k < n) :
    ∃ x ad, l.drop k = x :: l.drop (k + 1) ∧ l.take (k + 1) = l.take k ++ [x] ∧ l[k]? = some x ∧ A = some ad ∧ w.cell? (ad.add (k * 4)) = some (.int .i64 x.from_) ∧ w.cell? ⟨(ad.add (k * 4)).block, (ad.add (k * 4)).off + 1, none⟩ = some (.int .i64 x.to_) ∧ w.cell? ⟨(ad.add (k * 4)).block, (ad.add (k * 4)).off + 2, none⟩ = some (.int .i64 x.elem.key) ∧ w.cell? ⟨(ad.add (k * 4)).block, (ad.add (k * 4)).off + 3, none⟩ = some (.int .i64 x.elem.from_) := by
  obtain ⟨x, c, ad, h1, h2, h3, h4, h5, h6⟩ := row_at h k hk
  obtain rfl := kPSpan_open h5
  have hc : ∀ j u, (pspanCells x)[j]? = some u → w.cell? (ad.add (k * 4 + j)) = some u := h6
  exact ⟨x, ad, h1, h2, h3, h4, hc 0 _ rfl, by rw [← add_field _ _ 1 (by omega)]; exact hc 1 _ rfl, by rw [← add_field _ _ 2 (by omega)]; exact hc 2 _ rfl, by rw [← add_field _ _ 3 (by omega)]; exact hc 3 _ rfl⟩
set_option maxRecDepth 100000 in
set_option maxHeartbeats 1000000 in
theorem same_elems (l m : List PElem) (A B : Option Addr) (c1 c2 : Nat) (w : World) (hl : Kd.C kPElem w A l.length l) (hm : Kd.C kPElem w B m.length m) :
    Calls Try.prog 18 #[.slice A l.length c1, .slice B m.length c2] w fun e w' => e = .returned (.bool (decide (l = m))) ∧ Below w.heap.size w w' := by
  have hll : l.length ≤ 9223372036854775807 := hl.2.1
  have hmm : m.length ≤ 9223372036854775807 := hm.2.1
  have Hl := Lib.hid hl
  have Hm := Lib.hid hm
  clear hl hm
  obtain ⟨r, hr⟩ : ∃ r, decide (l = m) = r := ⟨_, rfl⟩
  rw [hr]
  have HR := Lib.hid hr
  clear hr
  by_cases hlen : l.length = m.length
  · have Hlen := Lib.hid hlen
    have hlb : ((l.length : Int) != (m.length : Int)) = false := by simp [hlen]
    have hlb2 : ((l.length : Int) == (m.length : Int)) = true := by simp [hlen]
    have hlm : l.length ≤ m.length := by omega
    have hml : m.length ≤ l.length := by omega
    clear hlen
    go_enter Try.func18, Try.ntmps18
    go_wp2
    go_loopw [13] (fun i wr => ∃ k : Nat, k ≤ l.length ∧ i = .int .i64 k ∧ Below w.heap.size w wr ∧ Hid (l.take k = m.take k)) (fun i _ => l.length - (intOf i).toNat)
    case atStart => exact ⟨0, Nat.zero_le _, rfl, Below.refl _ _, Lib.hid rfl⟩
    case round =>
      obtain ⟨k, hk, rfl, hB, He⟩ := hrel
      by_cases hlt : k < l.length
      · obtain ⟨x, ad, _, htk, hget, rfl, c0, c1⟩ := pelem_at (Kd.C_below Hl.out hB) k hlt
        obtain ⟨y, ad2, _, htk2, hget2, rfl, d0, d1⟩ := pelem_at (Kd.C_below Hm.out hB) k (by omega)
        have hkm : k < m.length := by omega
        have Htk := Lib.hid htk
        have Htk2 := Lib.hid htk2
        have Hg := Lib.hid hget
        have Hg2 := Lib.hid hget2
        clear htk htk2 hget hget2
        cases he : pElemEq ⟨x.key, x.from_⟩ ⟨y.key, y.from_⟩
        · have hxy : Hid (x ≠ y) := Lib.hid (of_decide_eq_false (p := x = y) he)
          go_wp2
          go_quiet (fail)
          go_wp2
          go_ret
          refine ⟨?_, pw_below_drewN hB _⟩
          rw [← HR.out]
          have : ¬ l = m := by
            intro e
            have h1 := Hg.out
            rw [e, Hg2.out] at h1
            exact hxy.out (Option.some.inj h1).symm
          simp [this]
        · have hxy : Hid (x = y) := Lib.hid (of_decide_eq_true (p := x = y) he)
          go_wp2
          go_quiet (fail)
          go_wp2
          exact ⟨⟨k + 1, by omega, by go_num, pw_below_drewN hB _, Lib.hid (by rw [Htk.out, Htk2.out, He.out, hxy.out])⟩, by simp [intOf]; omega⟩
      · have hkl : k = l.length := by omega
        have hlm' : l = m := by
          have h := He.out
          rw [hkl, List.take_length, Hlen.out, List.take_length] at h
          exact h
        have Hlm := Lib.hid hlm'
        clear hkl hlm'
        go_wp2
        go_ret
        refine ⟨?_, hB⟩
        rw [← HR.out]
        simp [Hlm.out]
  · have hlb : ((l.length : Int) != (m.length : Int)) = true := by simp; omega
    have hlb2 : ((l.length : Int) == (m.length : Int)) = false := by simp; omega
    have Hlen := Lib.hid hlen
    clear hlen
    go_enter Try.func18, Try.ntmps18
    go_wp2
    go_ret
    refine ⟨?_, Below.refl _ _⟩
    rw [← HR.out]
    have : ¬ l = m := fun e => Hlen.out (by rw [e])
    simp [this]

set_option maxRecDepth 100000 in
set_option maxHeartbeats 1000000 in
theorem same_ints (l m : List Int) (A B : Option Addr) (c1 c2 : Nat) (w : World) (hl : Kd.C (Kd.int .i64) w A l.length l) (hm : Kd.C (Kd.int .i64) w B m.length m) :
    Calls Try.prog 19 #[.slice A l.length c1, .slice B m.length c2] w fun e w' => e = .returned (.bool (decide (l = m))) ∧ Below w.heap.size w w' := by
  have hll : l.length ≤ 9223372036854775807 := hl.2.1
  have hmm : m.length ≤ 9223372036854775807 := hm.2.1
  have Hl := Lib.hid hl
  have Hm := Lib.hid hm
  clear hl hm
  obtain ⟨r, hr⟩ : ∃ r, decide (l = m) = r := ⟨_, rfl⟩
  rw [hr]
  have HR := Lib.hid hr
  clear hr
  by_cases hlen : l.length = m.length
  · have Hlen := Lib.hid hlen
    have hlb : ((l.length : Int) != (m.length : Int)) = false := by simp [hlen]
    have hlb2 : ((l.length : Int) == (m.length : Int)) = true := by simp [hlen]
    have hlm : l.length ≤ m.length := by omega
    have hml : m.length ≤ l.length := by omega
    clear hlen
    go_enter Try.func19, Try.ntmps19
    go_wp2
    go_loopw [13] (fun i wr => ∃ k : Nat, k ≤ l.length ∧ i = .int .i64 k ∧ Below w.heap.size w wr ∧ Hid (l.take k = m.take k)) (fun i _ => l.length - (intOf i).toNat)
    case atStart => exact ⟨0, Nat.zero_le _, rfl, Below.refl _ _, Lib.hid rfl⟩
    case round =>
      obtain ⟨k, hk, rfl, hB, He⟩ := hrel
      by_cases hlt : k < l.length
      · obtain ⟨x, ad, _, htk, hget, rfl, c0⟩ := int_at (Kd.C_below Hl.out hB) k hlt
        obtain ⟨y, ad2, _, htk2, hget2, rfl, d0⟩ := int_at (Kd.C_below Hm.out hB) k (by omega)
        have hkm : k < m.length := by omega
        have Htk := Lib.hid htk
        have Htk2 := Lib.hid htk2
        have Hg := Lib.hid hget
        have Hg2 := Lib.hid hget2
        clear htk htk2 hget hget2
        cases he : (x == y)
        · have he' : (x != y) = true := by simp [bne, he]
          have hxy : Hid (x ≠ y) := Lib.hid (by simpa using he)
          go_wp2
          go_quiet (fail)
          go_wp2
          go_ret
          refine ⟨?_, pw_below_drewN hB _⟩
          rw [← HR.out]
          have : ¬ l = m := by
            intro e
            have h1 := Hg.out
            rw [e, Hg2.out] at h1
            exact hxy.out (Option.some.inj h1).symm
          simp [this]
        · have he' : (x != y) = false := by simp [bne, he]
          have hxy : Hid (x = y) := Lib.hid (by simpa using he)
          go_wp2
          go_quiet (fail)
          go_wp2
          exact ⟨⟨k + 1, by omega, by go_num, pw_below_drewN hB _, Lib.hid (by rw [Htk.out, Htk2.out, He.out, hxy.out])⟩, by simp [intOf]; omega⟩
      · have hkl : k = l.length := by omega
        have hlm' : l = m := by
          have h := He.out
          rw [hkl, List.take_length, Hlen.out, List.take_length] at h
          exact h
        have Hlm := Lib.hid hlm'
        clear hkl hlm'
        go_wp2
        go_ret
        refine ⟨?_, hB⟩
        rw [← HR.out]
        simp [Hlm.out]
  · have hlb : ((l.length : Int) != (m.length : Int)) = true := by simp; omega
    have hlb2 : ((l.length : Int) == (m.length : Int)) = false := by simp; omega
    have Hlen := Lib.hid hlen
    clear hlen
    go_enter Try.func19, Try.ntmps19
    go_wp2
    go_ret
    refine ⟨?_, Below.refl _ _⟩
    rw [← HR.out]
    have : ¬ l = m := fun e => Hlen.out (by rw [e])
    simp [this]

set_option maxRecDepth 100000 in
set_option maxHeartbeats 1000000 in
theorem same_steps (l m : List PStep) (A B : Option Addr) (c1 c2 : Nat) (w : World) (hl : Kd.C kPStep w A l.length l) (hm : Kd.C kPStep w B m.length m) :
    Calls Try.prog 23 #[.slice A l.length c1, .slice B m.length c2] w fun e w' => e = .returned (.bool (decide (l = m))) ∧ Below w.heap.size w w' := by
  have hll : l.length ≤ 9223372036854775807 := hl.2.1
  have hmm : m.length ≤ 9223372036854775807 := hm.2.1
  have Hl := Lib.hid hl
  have Hm := Lib.hid hm
  clear hl hm
  obtain ⟨r, hr⟩ : ∃ r, decide (l = m) = r := ⟨_, rfl⟩
  rw [hr]
  have HR := Lib.hid hr
  clear hr
  by_cases hlen : l.length = m.length
  · have Hlen := Lib.hid hlen
    have hlb : ((l.length : Int) != (m.length : Int)) = false := by simp [hlen]
    have hlb2 : ((l.length : Int) == (m.length : Int)) = true := by simp [hlen]
    have hlm : l.length ≤ m.length := by omega
    have hml : m.length ≤ l.length := by omega
    clear hlen
    go_enter Try.func23, Try.ntmps23
    go_wp2
    go_loopw [13] (fun i wr => ∃ k : Nat, k ≤ l.length ∧ i = .int .i64 k ∧ Below w.heap.size w wr ∧ Hid (l.take k = m.take k)) (fun i _ => l.length - (intOf i).toNat)
    case atStart => exact ⟨0, Nat.zero_le _, rfl, Below.refl _ _, Lib.hid rfl⟩
    case round =>
      obtain ⟨k, hk, rfl, hB, He⟩ := hrel
      by_cases hlt : k < l.length
      · obtain ⟨x, ad, _, htk, hget, rfl, c0, c1, c2⟩ := pstep_at (Kd.C_below Hl.out hB) k hlt
        obtain ⟨y, ad2, _, htk2, hget2, rfl, d0, d1, d2⟩ := pstep_at (Kd.C_below Hm.out hB) k (by omega)
        have hkm : k < m.length := by omega
        have Htk := Lib.hid htk
        have Htk2 := Lib.hid htk2
        have Hg := Lib.hid hget
        have Hg2 := Lib.hid hget2
        clear htk htk2 hget hget2
        cases he : pStepEq ⟨x.at_, x.do_, x.key⟩ ⟨y.at_, y.do_, y.key⟩
        · have hxy : Hid (x ≠ y) := Lib.hid (of_decide_eq_false (p := x = y) he)
          go_wp2
          go_quiet (fail)
          go_wp2
          go_ret
          refine ⟨?_, pw_below_drewN hB _⟩
          rw [← HR.out]
          have : ¬ l = m := by
            intro e
            have h1 := Hg.out
            rw [e, Hg2.out] at h1
            exact hxy.out (Option.some.inj h1).symm
          simp [this]
        · have hxy : Hid (x = y) := Lib.hid (of_decide_eq_true (p := x = y) he)
          go_wp2
          go_quiet (fail)
          go_wp2
          exact ⟨⟨k + 1, by omega, by go_num, pw_below_drewN hB _, Lib.hid (by rw [Htk.out, Htk2.out, He.out, hxy.out])⟩, by simp [intOf]; omega⟩
      · have hkl : k = l.length := by omega
        have hlm' : l = m := by
          have h := He.out
          rw [hkl, List.take_length, Hlen.out, List.take_length] at h
          exact h
        have Hlm := Lib.hid hlm'
        clear hkl hlm'
        go_wp2
        go_ret
        refine ⟨?_, hB⟩
        rw [← HR.out]
        simp [Hlm.out]
  · have hlb : ((l.length : Int) != (m.length : Int)) = true := by simp; omega
    have hlb2 : ((l.length : Int) == (m.length : Int)) = false := by simp; omega
    have Hlen := Lib.hid hlen
    clear hlen
    go_enter Try.func23, Try.ntmps23
    go_wp2
    go_ret
    refine ⟨?_, Below.refl _ _⟩
    rw [← HR.out]
    have : ¬ l = m := fun e => Hlen.out (by rw [e])
    simp [this]

set_option maxRecDepth 100000 in
set_option maxHeartbeats 1000000 in
theorem equal_steps (l m : List PStep) (A B : Option Addr) (c1 c2 : Nat) (w : World) (hl : Kd.C kPStep w A l.length l) (hm : Kd.C kPStep w B m.length m) :
    Calls Try.prog 36 #[.slice A l.length c1, .slice B m.length c2] w fun e w' => e = .returned (.bool (decide (l = m))) ∧ Below w.heap.size w w' := by
  have hll : l.length ≤ 9223372036854775807 := hl.2.1
  have hmm : m.length ≤ 9223372036854775807 := hm.2.1
  have Hl := Lib.hid hl
  have Hm := Lib.hid hm
  clear hl hm
  obtain ⟨r, hr⟩ : ∃ r, decide (l = m) = r := ⟨_, rfl⟩
  rw [hr]
  have HR := Lib.hid hr
  clear hr
  by_cases hlen : l.length = m.length
  · have Hlen := Lib.hid hlen
    have hlb : ((l.length : Int) != (m.length : Int)) = false := by simp [hlen]
    have hlb2 : ((l.length : Int) == (m.length : Int)) = true := by simp [hlen]
    have hlm : l.length ≤ m.length := by omega
    have hml : m.length ≤ l.length := by omega
    clear hlen
    go_enter Try.func36, Try.ntmps36
    go_wp2
    go_loopw [13] (fun i wr => ∃ k : Nat, k ≤ l.length ∧ i = .int .i64 k ∧ Below w.heap.size w wr ∧ Hid (l.take k = m.take k)) (fun i _ => l.length - (intOf i).toNat)
    case atStart => exact ⟨0, Nat.zero_le _, rfl, Below.refl _ _, Lib.hid rfl⟩
    case round =>
      obtain ⟨k, hk, rfl, hB, He⟩ := hrel
      by_cases hlt : k < l.length
      · obtain ⟨x, ad, _, htk, hget, rfl, c0, c1, c2⟩ := pstep_at (Kd.C_below Hl.out hB) k hlt
        obtain ⟨y, ad2, _, htk2, hget2, rfl, d0, d1, d2⟩ := pstep_at (Kd.C_below Hm.out hB) k (by omega)
        have hkm : k < m.length := by omega
        have Htk := Lib.hid htk
        have Htk2 := Lib.hid htk2
        have Hg := Lib.hid hget
        have Hg2 := Lib.hid hget2
        clear htk htk2 hget hget2
        cases he : pStepEq ⟨x.at_, x.do_, x.key⟩ ⟨y.at_, y.do_, y.key⟩
        · have hxy : Hid (x ≠ y) := Lib.hid (of_decide_eq_false (p := x = y) he)
          go_wp2
          go_quiet (fail)
          go_wp2
          go_ret
          refine ⟨?_, pw_below_drewN hB _⟩
          rw [← HR.out]
          have : ¬ l = m := by
            intro e
            have h1 := Hg.out
            rw [e, Hg2.out] at h1
            exact hxy.out (Option.some.inj h1).symm
          simp [this]
        · have hxy : Hid (x = y) := Lib.hid (of_decide_eq_true (p := x = y) he)
          go_wp2
          go_quiet (fail)
          go_wp2
          exact ⟨⟨k + 1, by omega, by go_num, pw_below_drewN hB _, Lib.hid (by rw [Htk.out, Htk2.out, He.out, hxy.out])⟩, by simp [intOf]; omega⟩
      · have hkl : k = l.length := by omega
        have hlm' : l = m := by
          have h := He.out
          rw [hkl, List.take_length, Hlen.out, List.take_length] at h
          exact h
        have Hlm := Lib.hid hlm'
        clear hkl hlm'
        go_wp2
        go_ret
        refine ⟨?_, hB⟩
        rw [← HR.out]
        simp [Hlm.out]
  · have hlb : ((l.length : Int) != (m.length : Int)) = true := by simp; omega
    have hlb2 : ((l.length : Int) == (m.length : Int)) = false := by simp; omega
    have Hlen := Lib.hid hlen
    clear hlen
    go_enter Try.func36, Try.ntmps36
    go_wp2
    go_ret
    refine ⟨?_, Below.refl _ _⟩
    rw [← HR.out]
    have : ¬ l = m := fun e => Hlen.out (by rw [e])
    simp [this]

set_option maxRecDepth 100000 in
set_option maxHeartbeats 1000000 in
theorem equal_elems (l m : List PElem) (A B : Option Addr) (c1 c2 : Nat) (w : World) (hl : Kd.C kPElem w A l.length l) (hm : Kd.C kPElem w B m.length m) :
    Calls Try.prog 41 #[.slice A l.length c1, .slice B m.length c2] w fun e w' => e = .returned (.bool (decide (l = m))) ∧ Below w.heap.size w w' := by
  have hll : l.length ≤ 9223372036854775807 := hl.2.1
  have hmm : m.length ≤ 9223372036854775807 := hm.2.1
  have Hl := Lib.hid hl
  have Hm := Lib.hid hm
  clear hl hm
  obtain ⟨r, hr⟩ : ∃ r, decide (l = m) = r := ⟨_, rfl⟩
  rw [hr]
  have HR := Lib.hid hr
  clear hr
  by_cases hlen : l.length = m.length
  · have Hlen := Lib.hid hlen
    have hlb : ((l.length : Int) != (m.length : Int)) = false := by simp [hlen]
    have hlb2 : ((l.length : Int) == (m.length : Int)) = true := by simp [hlen]
    have hlm : l.length ≤ m.length := by omega
    have hml : m.length ≤ l.length := by omega
    clear hlen
    go_enter Try.func41, Try.ntmps41
    go_wp2
    go_loopw [13] (fun i wr => ∃ k : Nat, k ≤ l.length ∧ i = .int .i64 k ∧ Below w.heap.size w wr ∧ Hid (l.take k = m.take k)) (fun i _ => l.length - (intOf i).toNat)
    case atStart => exact ⟨0, Nat.zero_le _, rfl, Below.refl _ _, Lib.hid rfl⟩
    case round =>
      obtain ⟨k, hk, rfl, hB, He⟩ := hrel
      by_cases hlt : k < l.length
      · obtain ⟨x, ad, _, htk, hget, rfl, c0, c1⟩ := pelem_at (Kd.C_below Hl.out hB) k hlt
        obtain ⟨y, ad2, _, htk2, hget2, rfl, d0, d1⟩ := pelem_at (Kd.C_below Hm.out hB) k (by omega)
        have hkm : k < m.length := by omega
        have Htk := Lib.hid htk
        have Htk2 := Lib.hid htk2
        have Hg := Lib.hid hget
        have Hg2 := Lib.hid hget2
        clear htk htk2 hget hget2
        cases he : pElemEq ⟨x.key, x.from_⟩ ⟨y.key, y.from_⟩
        · have hxy : Hid (x ≠ y) := Lib.hid (of_decide_eq_false (p := x = y) he)
          go_wp2
          go_quiet (fail)
          go_wp2
          go_ret
          refine ⟨?_, pw_below_drewN hB _⟩
          rw [← HR.out]
          have : ¬ l = m := by
            intro e
            have h1 := Hg.out
            rw [e, Hg2.out] at h1
            exact hxy.out (Option.some.inj h1).symm
          simp [this]
        · have hxy : Hid (x = y) := Lib.hid (of_decide_eq_true (p := x = y) he)
          go_wp2
          go_quiet (fail)
          go_wp2
          exact ⟨⟨k + 1, by omega, by go_num, pw_below_drewN hB _, Lib.hid (by rw [Htk.out, Htk2.out, He.out, hxy.out])⟩, by simp [intOf]; omega⟩
      · have hkl : k = l.length := by omega
        have hlm' : l = m := by
          have h := He.out
          rw [hkl, List.take_length, Hlen.out, List.take_length] at h
          exact h
        have Hlm := Lib.hid hlm'
        clear hkl hlm'
        go_wp2
        go_ret
        refine ⟨?_, hB⟩
        rw [← HR.out]
        simp [Hlm.out]
  · have hlb : ((l.length : Int) != (m.length : Int)) = true := by simp; omega
    have hlb2 : ((l.length : Int) == (m.length : Int)) = false := by simp; omega
    have Hlen := Lib.hid hlen
    clear hlen
    go_enter Try.func41, Try.ntmps41
    go_wp2
    go_ret
    refine ⟨?_, Below.refl _ _⟩
    rw [← HR.out]
    have : ¬ l = m := fun e => Hlen.out (by rw [e])
    simp [this]

set_option maxRecDepth 100000 in
set_option maxHeartbeats 1000000 in
theorem equal_spans (l m : List PSpan) (A B : Option Addr) (c1 c2 : Nat) (w : World) (hl : Kd.C kPSpan w A l.length l) (hm : Kd.C kPSpan w B m.length m) :
    Calls Try.prog 38 #[.slice A l.length c1, .slice B m.length c2] w fun e w' => e = .returned (.bool (decide (l = m))) ∧ Below w.heap.size w w' := by
  have hll : l.length ≤ 9223372036854775807 := hl.2.1
  have hmm : m.length ≤ 9223372036854775807 := hm.2.1
  have Hl := Lib.hid hl
  have Hm := Lib.hid hm
  clear hl hm
  obtain ⟨r, hr⟩ : ∃ r, decide (l = m) = r := ⟨_, rfl⟩
  rw [hr]
  have HR := Lib.hid hr
  clear hr
  by_cases hlen : l.length = m.length
  · have Hlen := Lib.hid hlen
    have hlb : ((l.length : Int) != (m.length : Int)) = false := by simp [hlen]
    have hlb2 : ((l.length : Int) == (m.length : Int)) = true := by simp [hlen]
    have hlm : l.length ≤ m.length := by omega
    have hml : m.length ≤ l.length := by omega
    clear hlen
    go_enter Try.func38, Try.ntmps38
    go_wp2
    go_loopw [13] (fun i wr => ∃ k : Nat, k ≤ l.length ∧ i = .int .i64 k ∧ Below w.heap.size w wr ∧ Hid (l.take k = m.take k)) (fun i _ => l.length - (intOf i).toNat)
    case atStart => exact ⟨0, Nat.zero_le _, rfl, Below.refl _ _, Lib.hid rfl⟩
    case round =>
      obtain ⟨k, hk, rfl, hB, He⟩ := hrel
      by_cases hlt : k < l.length
      · obtain ⟨x, ad, _, htk, hget, rfl, c0, c1, c2, c3⟩ := pspan_at (Kd.C_below Hl.out hB) k hlt
        obtain ⟨y, ad2, _, htk2, hget2, rfl, d0, d1, d2, d3⟩ := pspan_at (Kd.C_below Hm.out hB) k (by omega)
        have hkm : k < m.length := by omega
        have Htk := Lib.hid htk
        have Htk2 := Lib.hid htk2
        have Hg := Lib.hid hget
        have Hg2 := Lib.hid hget2
        clear htk htk2 hget hget2
        cases he : pSpanEq ⟨x.from_, x.to_, ⟨x.elem.key, x.elem.from_⟩⟩ ⟨y.from_, y.to_, ⟨y.elem.key, y.elem.from_⟩⟩
        · have hxy : Hid (x ≠ y) := Lib.hid (of_decide_eq_false (p := x = y) he)
          go_wp2
          go_quiet (fail)
          go_wp2
          go_ret
          refine ⟨?_, pw_below_drewN hB _⟩
          rw [← HR.out]
          have : ¬ l = m := by
            intro e
            have h1 := Hg.out
            rw [e, Hg2.out] at h1
            exact hxy.out (Option.some.inj h1).symm
          simp [this]
        · have hxy : Hid (x = y) := Lib.hid (of_decide_eq_true (p := x = y) he)
          go_wp2
          go_quiet (fail)
          go_wp2
          exact ⟨⟨k + 1, by omega, by go_num, pw_below_drewN hB _, Lib.hid (by rw [Htk.out, Htk2.out, He.out, hxy.out])⟩, by simp [intOf]; omega⟩
      · have hkl : k = l.length := by omega
        have hlm' : l = m := by
          have h := He.out
          rw [hkl, List.take_length, Hlen.out, List.take_length] at h
          exact h
        have Hlm := Lib.hid hlm'
        clear hkl hlm'
        go_wp2
        go_ret
        refine ⟨?_, hB⟩
        rw [← HR.out]
        simp [Hlm.out]
  · have hlb : ((l.length : Int) != (m.length : Int)) = true := by simp; omega
    have hlb2 : ((l.length : Int) == (m.length : Int)) = false := by simp; omega
    have Hlen := Lib.hid hlen
    clear hlen
    go_enter Try.func38, Try.ntmps38
    go_wp2
    go_ret
    refine ⟨?_, Below.refl _ _⟩
    rw [← HR.out]
    have : ¬ l = m := fun e => Hlen.out (by rw [e])
    simp [this]

end Go.Proofs.Ytemkloildadokaa
set_option linter.unusedVariables false
set_option linter.unusedSimpArgs false
/-! Walks, walked. -/
namespace Go.Proofs.Ytemkloildadokaa
open Go.RowKit Go.Shelf Go.Proofs.YtemkloildadokaaW.PrintWords Go.Instr
def zSpan : Value := .agg #[.int .i64 0, .int .i64 0, .int .i64 0, .int .i64 0]
theorem info_pspan : (Try.prog.info? 60).map (fun i => (i.zero, i.size, i.bytes)) = some (some zSpan, 4, 32) := by kernel_rfl
theorem zero_pelem (w : World) : (zeroValue 58).run Try.prog w = .ok (elemVal ⟨0, 0⟩) w := by kernel_rfl
/-- A map of what steps take. -/
def TakenAt (w : World) (b : Nat) (l : List PStep) : Prop := w.heap[b]? = some (mapObj (Value.int .i64) (mapT (doneE [] l)))
theorem TakenAt.look {w : World} {b : Nat} {l : List PStep} (h : TakenAt w b l) (hi : incB l = true) (t : Int) :
    (lookup 107 (.map (some b)) (.int .i64 t) true).run Try.prog w = .ok (.tuple #[elemVal ((takenE l t).getD ⟨0, 0⟩), .bool (takenE l t).isSome]) w := by
  have := run_lookup_is (P := Try.prog) (keyT_int Try.underlying3) Try.underlying107 zero_pelem (mapT_taken hi t) h
  rw [this]
  cases takenE l t <;> rfl
theorem TakenAt.look1 {w : World} {b : Nat} {l : List PStep} (h : TakenAt w b l) (hi : incB l = true) (t : Int) :
    (lookup 107 (.map (some b)) (.int .i64 t) false).run Try.prog w = .ok (elemVal ((takenE l t).getD ⟨0, 0⟩)) w := by
  have := run_lookup_map (P := Try.prog) (keyT_int Try.underlying3) Try.underlying107 zero_pelem (mapT (doneE [] l)) b t false w h
  rw [this, mapT_taken hi t]
  cases takenE l t <;> rfl
theorem TakenAt.later {w w' : World} {b : Nat} {l : List PStep} (h : TakenAt w b l) (hb : Below w.heap.size w w') : TakenAt w' b l := heap_later hb h
theorem TakenAt.grown {w w' : World} {b : Nat} {l : List PStep} (h : TakenAt w b l) {row : Option Nat} (hg : w.grownBy w' row) (hr : ∀ g, row = some g → ∃ cells t, w.heap[g]? = some (.cells cells t (0, 0))) : TakenAt w' b l :=
  (hg.block b (Array.getElem?_eq_some_iff.1 h).1 fun e => by
    obtain ⟨cells, t, h1⟩ := hr b e.symm
    rw [show w.heap[b]? = _ from h] at h1
    cases h1).trans h
def lastTo (pre : List PSpan) (d : PSpan) (t : Int) : List PSpan := pre ++ [⟨d.from_, t, d.elem⟩]
/-- A walk, behind the first k steps. -/
structure WalkI (n0 : Nat) (more less : List PStep) (from_ : Int) (x0 : PElem) (ba bb : Nat) (k : Nat) (vo : Value) (w0 wr : World) : Prop where
  ex : ∃ (pre : List PSpan) (f : Int) (x : PElem), walkedE more less from_ x0 = pre ++ walkE (takenE more) (takenE less) from_ (more.drop k) f x ∧ pre.length ≤ k ∧ Own kPSpan 60 wr n0 vo (pre ++ [⟨f, 0, x⟩])
  ta : TakenAt wr ba more
  tb : TakenAt wr bb less
  below : Below w0.heap.size w0 wr
theorem one_span (W : World) (n0 : Nat) (hb : n0 ≤ W.heap.size) (d : PSpan) : Own kPSpan 60 (W.alloc (.cells (pspanCells d).toArray 60)) n0 (.slice (some ⟨W.heap.size, 0, none⟩) 1 1) [d] :=
  own_one kPSpan _ W n0 hb d (pspanCells d) (fun w => kPSpan_mkM w _ _ d)
set_option maxRecDepth 100000 in
set_option maxHeartbeats 16000000 in
theorem p_walked (A B : Option Addr) (ca cb : Nat) (more less : List PStep) (from_ : Int) (x0 : PElem) (w : World) (hm : PStepRow w A more.length more) (hl : PStepRow w B less.length less) (hms : stepsB more = true) (hls : stepsB less = true) :
    Calls Try.prog 75 #[.slice A more.length ca, .slice B less.length cb, .int .i64 from_, .agg #[.int .i64 x0.key, .int .i64 x0.from_]] w fun e w' => ∃ v, e = .returned v ∧ Own kPSpan 60 w' w.heap.size v (walkedE more less from_ x0) ∧ Below w.heap.size w w' := by
  have hm60 := steps60 hms
  have hl60 := steps60 hls
  have hmm : more.length ≤ 9223372036854775807 := by omega
  have HMi := Lib.hid (GoesE.steps hms).inc
  have HLi := Lib.hid (GoesE.steps hls).inc
  have HMb := Lib.hid (show ∀ s ∈ more, 0 ≤ s.at_ ∧ s.at_ ≤ 1000 from fun s hs => by
    unfold stepsB at hms
    simp only [Bool.and_eq_true, List.all_eq_true] at hms
    have := step_bounds (hms.1 s hs)
    exact ⟨this.1, this.2.1⟩)
  have HM := Lib.hid hm
  have HL := Lib.hid hl
  have HMs := Lib.hid hms
  have HLs := Lib.hid hls
  clear hm hl hms hls
  have HBX := Lib.hid (below_alloc (Below.refl w.heap.size w) (.cells #[.int .i64 x0.key, .int .i64 x0.from_] 58))
  have HCX := Lib.hid (Cells.new w #[.int .i64 x0.key, .int .i64 x0.from_] 58)
  go_enter Try.func75, Try.ntmps75
  go_upto_region 1 with fail
  generalize w.alloc (.cells #[.int .i64 x0.key, .int .i64 x0.from_] 58) = w1 at HBX HCX ⊢
  go_step3
  go_upto_region 2 with (first
    | (go_at_call 76; (first
      | ((with_reducible refine (p_taken A ca more w1 (Kd.C_below HM.out HBX.out) HMs.out).mono ?_); rintro e w2 ⟨ba, rfl, hba, hta, hb2⟩; have HL2 := Lib.hid (Kd.C_below HL.out (below_step HBX.out hb2)))
      | ((with_reducible refine (p_taken B cb less w2 HL2.out HLs.out).mono ?_); rintro e w3 ⟨bb, rfl, hbb, htb, hb3⟩))))
  have HB3 := Lib.hid (below_step (below_step HBX.out hb2) hb3)
  have HTa := Lib.hid (show TakenAt w3 ba more from heap_later hb3 hta)
  have HTb := Lib.hid (show TakenAt w3 bb less from htb)
  have HX3 := Lib.hid ((HCX.out.later hb2).later hb3)
  clear hb2 hb3 hta htb HCX
  have x0' := HX3.out.cell 0 _ rfl
  have x1' := HX3.out.cell 1 _ rfl
  have HO4 := Lib.hid (one_span w3 w.heap.size HB3.out.size ⟨from_, 0, x0⟩)
  have hb4 := below_alloc (Below.refl w3.heap.size w3) (.cells (pspanCells ⟨from_, 0, x0⟩).toArray 60)
  have HB4 := Lib.hid (below_step HB3.out hb4)
  have HTa4 := Lib.hid (HTa.out.later hb4)
  have HTb4 := Lib.hid (HTb.out.later hb4)
  clear hb4
  go_wp2
  have HS4 := Lib.hid (show Below w.heap.size w (w3.alloc (.cells (pspanCells ⟨from_, 0, x0⟩).toArray 60)) from HB4.out)
  obtain ⟨w4, hw4⟩ : ∃ w4, w4 = w3.alloc (.cells (pspanCells ⟨from_, 0, x0⟩).toArray 60) := ⟨_, rfl⟩
  rw [← hw4] at HO4 HB4 HTa4 HTb4 HS4
  rw [show w3.alloc (.cells #[.int .i64 from_, .int .i64 0, .int .i64 x0.key, .int .i64 x0.from_] 60) = w4 from hw4.symm]
  clear hw4 x0' x1'
  generalize w3.heap.size = g3 at HO4 ⊢
  go_step3
  go_wp2
  go_loopw [29, 11] (fun i vo wr => ∃ k : Nat, k ≤ more.length ∧ i = .int .i64 k ∧ WalkI w.heap.size more less from_ x0 ba bb k vo w wr) (fun i _ _ => more.length - (intOf i).toNat)
  case atStart => exact ⟨0, Nat.zero_le _, rfl, ⟨⟨[], from_, x0, by simp [walkedE], Nat.le_refl _, HO4.out⟩, HTa4.out, HTb4.out, HB4.out⟩⟩
  case round =>
    obtain ⟨k, hk, rfl, hI⟩ := hrel
    have HI := Lib.hid hI
    clear hI
    by_cases hlt : k < more.length
    · obtain ⟨s, ad, hd, htk, hget, rfl, e0, e1, e2⟩ := pstep_at (Kd.C_below HM.out HI.out.below) k hlt
      obtain ⟨pre, f, x, h1, h2, h3⟩ := HI.out.ex
      obtain ⟨A1, c1, rfl, hc1, hr1⟩ := own_reads' h3
      rw [hd] at h1
      have hbs := HMb.out s (List.mem_of_getElem? hget)
      obtain ⟨n, hn⟩ : ∃ n, n = (pre ++ [(⟨f, 0, x⟩ : PSpan)]).length := ⟨_, rfl⟩
      rw [← hn] at h3 hc1 ⊢
      have hn1 : n = pre.length + 1 := by rw [hn]; simp
      have H1 := Lib.hid h1
      have H2 := Lib.hid h2
      have H3 := Lib.hid h3
      have Hn := Lib.hid hn1
      have Hbs := Lib.hid hbs
      clear h1 h2 h3 hn1 hbs hd htk hget hr1 hn
      go_upto_region 6 with fail
      have HC := Lib.hid (Cells.new wr #[.int .i64 s.at_, .int .i64 s.do_, .int .i64 s.key] 36)
      have HBa := Lib.hid (below_alloc (Below.refl wr.heap.size wr) (.cells #[.int .i64 s.at_, .int .i64 s.do_, .int .i64 s.key] 36))
      clear e0 e1 e2
      generalize wr.alloc (.cells #[.int .i64 s.at_, .int .i64 s.do_, .int .i64 s.key] 36) = w5 at HC HBa ⊢
      have s0 := HC.out.cell 0 _ rfl
      have HBw := Lib.hid (below_step HI.out.below HBa.out)
      have HTa5 := Lib.hid (HI.out.ta.later HBa.out)
      have HTb5 := Lib.hid (HI.out.tb.later HBa.out)
      have H35 := Lib.hid (Kd.R_below H3.out HBa.out)
      clear HBa
      generalize wr.heap.size = gs at HC s0 ⊢
      obtain ⟨o, ho⟩ : ∃ o, o = (takenE more s.at_).getD ⟨0, 0⟩ := ⟨_, rfl⟩
      obtain ⟨bo, hbo⟩ : ∃ b, b = (takenE more s.at_).isSome := ⟨_, rfl⟩
      have hl1 := HTa5.out.look HMi.out s.at_
      rw [← ho, ← hbo] at hl1
      simp only [elemVal] at hl1
      have Ho := Lib.hid ho
      have Hbo := Lib.hid hbo
      clear ho hbo
      go_upto_region 7 with fail
      have hb6 := below_alloc (Below.refl w5.heap.size w5) (.cells #[.int .i64 o.key, .int .i64 o.from_] 58)
      have HO6 := Lib.hid (Cells.new w5 #[.int .i64 o.key, .int .i64 o.from_] 58)
      have HC6 := Lib.hid (HC.out.later hb6)
      have HTa6 := Lib.hid (HTa5.out.later hb6)
      have HTb6 := Lib.hid (HTb5.out.later hb6)
      have H36 := Lib.hid (Kd.R_below H35.out hb6)
      have HB6 := Lib.hid (below_step HBw.out hb6)
      clear hl1 s0 hb6 HC HTa5 HTb5 H35 HBw
      generalize w5.alloc (.cells #[.int .i64 o.key, .int .i64 o.from_] 58) = w6 at HO6 HC6 HTa6 HTb6 H36 HB6 ⊢
      generalize w5.heap.size = go at HO6 ⊢
      have s0 := HC6.out.cell 0 _ rfl
      obtain ⟨u, hu⟩ : ∃ u, u = (takenE less s.at_).getD ⟨0, 0⟩ := ⟨_, rfl⟩
      obtain ⟨bu, hbu⟩ : ∃ b, b = (takenE less s.at_).isSome := ⟨_, rfl⟩
      have hl2 := HTb6.out.look HLi.out s.at_
      rw [← hu, ← hbu] at hl2
      simp only [elemVal] at hl2
      have Hu := Lib.hid hu
      have Hbu := Lib.hid hbu
      clear hu hbu
      go_upto_region 8 with fail
      have hb7 := below_alloc (Below.refl w6.heap.size w6) (.cells #[.int .i64 u.key, .int .i64 u.from_] 58)
      have HU7 := Lib.hid (Cells.new w6 #[.int .i64 u.key, .int .i64 u.from_] 58)
      have HO7 := Lib.hid (HO6.out.later hb7)
      have HC7 := Lib.hid (HC6.out.later hb7)
      have HTa7 := Lib.hid (HTa6.out.later hb7)
      have HTb7 := Lib.hid (HTb6.out.later hb7)
      have H37 := Lib.hid (Kd.R_below H36.out hb7)
      have HB7 := Lib.hid (below_step HB6.out hb7)
      clear hl2 s0 hb7 HC6 HTa6 HTb6 H36 HB6 HO6
      generalize w6.alloc (.cells #[.int .i64 u.key, .int .i64 u.from_] 58) = w7 at HU7 HO7 HC7 HTa7 HTb7 H37 HB7 ⊢
      generalize w6.heap.size = gu at HU7 ⊢
      have s0 := HC7.out.cell 0 _ rfl
      have hskip : (decide (s.at_ ≤ from_) = true ∨ bo = false ∨ bu = false) → walkE (takenE more) (takenE less) from_ (s :: more.drop (k + 1)) f x = walkE (takenE more) (takenE less) from_ (more.drop (k + 1)) f x := by
        intro h
        rw [walkE]
        have e1 := Hbo.out
        have e2 := Hbu.out
        cases h1 : takenE more s.at_ with
        | none => rfl
        | some a =>
          cases h2 : takenE less s.at_ with
          | none => rfl
          | some b =>
            rw [h1] at e1
            rw [h2] at e2
            simp only [Option.isSome_some] at e1 e2
            rw [e1, e2] at h
            simp only [Bool.true_eq_false, or_self, or_false, decide_eq_true_eq] at h
            simp only
            rw [if_neg (fun e => by have := e.1; omega)]
      have Hskip := Lib.hid hskip
      clear hskip
      have hgo : (decide (s.at_ ≤ from_) = false ∧ bo = true ∧ bu = true) → walkE (takenE more) (takenE less) from_ (s :: more.drop (k + 1)) f x = if o = x then ⟨f, s.at_ - 1, x⟩ :: walkE (takenE more) (takenE less) from_ (more.drop (k + 1)) s.at_ u else walkE (takenE more) (takenE less) from_ (more.drop (k + 1)) f x := by
        rintro ⟨h0, h1, h2⟩
        have e1 := Hbo.out
        have e2 := Hbu.out
        have e3 := Ho.out
        have e4 := Hu.out
        rw [walkE]
        cases h3 : takenE more s.at_ with
        | none => rw [h3, h1] at e1; cases e1
        | some a =>
          cases h4 : takenE less s.at_ with
          | none => rw [h4, h2] at e2; cases e2
          | some b =>
            rw [h3] at e3
            rw [h4] at e4
            simp only [Option.getD_some] at e3 e4
            subst e3 e4
            have := of_decide_eq_false h0
            simp only
            by_cases h5 : o = x
            · rw [if_pos ⟨by omega, h5⟩, if_pos h5]
            · rw [if_neg (fun e => h5 e.2), if_neg h5]
      have Hgo := Lib.hid hgo
      clear hgo
      cases hle : decide (s.at_ ≤ from_)
      · cases bo
        · have hsk := Lib.hid (Hskip.out (.inr (.inl rfl)))
          clear Hskip Hgo
          go_wp2
          refine ⟨⟨k + 1, by omega, by go_num, ⟨⟨pre, f, x, by rw [H1.out, hsk.out], by have := H2.out; omega, H37.out⟩, HTa7.out, HTb7.out, HB7.out⟩⟩, by simp [intOf]; omega⟩
        · cases bu
          · have hsk := Lib.hid (Hskip.out (.inr (.inr rfl)))
            clear Hskip Hgo
            go_wp2
            refine ⟨⟨k + 1, by omega, by go_num, ⟨⟨pre, f, x, by rw [H1.out, hsk.out], by have := H2.out; omega, H37.out⟩, HTa7.out, HTb7.out, HB7.out⟩⟩, by simp [intOf]; omega⟩
          · have hgo := Lib.hid (Hgo.out ⟨hle, rfl, rfl⟩)
            clear Hskip Hgo
            obtain ⟨g, hA, hg0, hgl, cx, gf⟩ := own_cellsK kPSpan pspanCells (fun _ _ _ h => kPSpan_open h) (fun _ => rfl) H37.out (i := pre.length) (x := ⟨f, 0, x⟩) (by simp)
            subst hA
            have y2 : w7.cell? ⟨g, pre.length * 4 + 2, none⟩ = some (.int .i64 x.key) := cx 2 _ rfl
            have y3 : w7.cell? ⟨g, pre.length * 4 + 3, none⟩ = some (.int .i64 x.from_) := cx 3 _ rfl
            have y1 : w7.cell? ⟨g, pre.length * 4 + 1, none⟩ = some (.int .i64 0) := cx 1 _ rfl
            have yf := gf (pre.length * 4 + 1)
            have hws : IntKind.i64.wrap (s.at_ - 1) = s.at_ - 1 := by have := Hbs.out; rw [IntWalk.i64_in _ (by omega)]
            have o0 := HO7.out.cell 0 _ rfl
            have o1 := HO7.out.cell 1 _ rfl
            have u0 := HU7.out.cell 0 _ rfl
            have u1 := HU7.out.cell 1 _ rfl
            have hnn := Hn.out
            have hpk := H2.out
            have hwr : IntKind.i64.wrap ((n : Int) - 1) = (pre.length : Int) := by rw [IntWalk.i64_in _ (by omega)]; omega
            have hpn : pre.length < n := by omega
            clear hnn hpk cx gf
            cases he : pElemEq ⟨o.key, o.from_⟩ ⟨x.key, x.from_⟩
            · have hno := Lib.hid (show ¬ o = x from of_decide_eq_false (p := o = x) he)
              go_wp2
              go_quiet (fail)
              have hb8 := pw_below_drewN (Below.refl w7.heap.size w7) nq
              have HTa8 := Lib.hid (HTa7.out.later hb8)
              have HTb8 := Lib.hid (HTb7.out.later hb8)
              have H38 := Lib.hid (Kd.R_below H37.out hb8)
              have HB8 := Lib.hid (below_step HB7.out hb8)
              clear hb8
              go_wp2
              refine ⟨⟨k + 1, by omega, by go_num, ⟨⟨pre, f, x, by rw [H1.out, hgo.out, if_neg hno.out], by have := H2.out; omega, H38.out⟩, HTa8.out, HTb8.out, HB8.out⟩⟩, by simp [intOf]; omega⟩
            · have hyes := Lib.hid (show o = x from of_decide_eq_true (p := o = x) he)
              go_wp2
              go_quiet (fail)
              have hb8 := pw_below_drewN (Below.refl w7.heap.size w7) nq
              have h38 := Kd.R_below H37.out hb8
              obtain ⟨h39, hgr⟩ := own_setK kPSpan pspanCells (fun _ _ _ h => kPSpan_open h) (fun _ _ _ x => kPSpan_mkM _ _ _ x) h38 (i := pre.length) (x := ⟨f, 0, x⟩) (by simp) ⟨f, s.at_ - 1, x⟩ 1 (by decide) (.int .i64 (s.at_ - 1)) rfl
              replace hgr : (w7.drewN nq).grownBy ((w7.drewN nq).setCell ⟨g, pre.length * 4 + 1, none⟩ (.int .i64 (s.at_ - 1))) (some g) := hgr
              have hrt : ∀ g', some g = some g' → ∃ cells t, (w7.drewN nq).heap[g']? = some (.cells cells t (0, 0)) ∧ t = 60 := fun g' e => own_row_ty h38 g' (by rw [← e]; rfl)
              have HTa8 := Lib.hid ((HTa7.out.later hb8).grown hgr (fun g' e => by obtain ⟨cs, t, h1, _⟩ := hrt g' e; exact ⟨cs, t, h1⟩))
              have HTb8 := Lib.hid ((HTb7.out.later hb8).grown hgr (fun g' e => by obtain ⟨cs, t, h1, _⟩ := hrt g' e; exact ⟨cs, t, h1⟩))
              have hCs := HC7.out.later hb8
              have hUs := HU7.out.later hb8
              have hng : ∀ b cs t, Cells (w7.drewN nq) b cs t → t ≠ 60 → some b ≠ some g := fun b cs t hc ht e => by
                obtain ⟨cs2, t2, h1, rfl⟩ := hrt b (by rw [e])
                exact ht (cells_ty hc (show Cells (w7.drewN nq) b cs2 _ from h1))
              have HC8 := Lib.hid (hCs.kept hgr (hng _ _ _ hCs (by decide)))
              have HU8 := Lib.hid (hUs.kept hgr (hng _ _ _ hUs (by decide)))
              have HB8 := Lib.hid ((below_step HB7.out hb8).setCell (p := ⟨g, pre.length * 4 + 1, none⟩) hg0 (.int .i64 (s.at_ - 1)))
              have H38 := Lib.hid (show Own kPSpan 60 ((w7.drewN nq).setCell ⟨g, pre.length * 4 + 1, none⟩ (.int .i64 (s.at_ - 1))) w.heap.size (.slice (some ⟨g, 0, none⟩) n c1) (pre ++ [⟨f, s.at_ - 1, x⟩]) by
                have h : (pre ++ [(⟨f, 0, x⟩ : PSpan)]).set pre.length ⟨f, s.at_ - 1, x⟩ = pre ++ [⟨f, s.at_ - 1, x⟩] := by simp
                rw [h] at h39
                exact h39)
              clear hb8 h38 h39 hgr hrt hCs hUs hng
              go_upto_region 12 with fail
              clear s0 u0 u1 o0 o1 y1 y2 y3 yf
              generalize (w7.drewN nq).setCell ⟨g, pre.length * 4 + 1, none⟩ (.int .i64 (s.at_ - 1)) = w8 at HTa8 HTb8 HC8 HU8 HB8 H38 ⊢
              have s0 := HC8.out.cell 0 _ rfl
              have u0 := HU8.out.cell 0 _ rfl
              have u1 := HU8.out.cell 1 _ rfl
              go_wp2_with (at_builtin; refine Kd.R_append kPSpan (w0 := w8) w.heap.size rfl (.tmp 76) (.tmp 81) 37 60 zSpan 32 rfl Try.underlying37 info_pspan rfl (by decide) (by omega) (.slice (some ⟨g, 0, none⟩) n c1) (pre ++ [(⟨f, s.at_ - 1, x⟩ : PSpan)]) (⟨s.at_, 0, u⟩ : PSpan) (pspanCells ⟨s.at_, 0, u⟩) (fun _ => True) (fun _ => False) rfl rfl (kPSpan_mkM _ _ _ _) (fun _ hk => hk.elim) (fun _ _ => trivial) H38.out (Below.refl _ _) HB8.out.size (by have := H2.out; simp; omega) ?_; intro v9 w9 r1 r2 r3 r4; have HTa9 := Lib.hid (HTa8.out.grown r3 (fun g' e => by obtain ⟨cs, t, h1, _⟩ := own_row_ty H38.out g' e; exact ⟨cs, t, h1⟩)); have HTb9 := Lib.hid (HTb8.out.grown r3 (fun g' e => by obtain ⟨cs, t, h1, _⟩ := own_row_ty H38.out g' e; exact ⟨cs, t, h1⟩)); have HR9 := Lib.hid r1; clear r1 r3 r4)
              refine ⟨⟨k + 1, by omega, by go_num, ⟨⟨pre ++ [⟨f, s.at_ - 1, x⟩], s.at_, u, by rw [H1.out, hgo.out, if_pos hyes.out]; simp, by have := H2.out; simp; omega, HR9.out⟩, HTa9.out, HTb9.out, HB8.out.trans r2⟩⟩, by simp [intOf]; omega⟩
      · have hsk := Lib.hid (Hskip.out (.inl hle))
        clear Hskip Hgo
        go_wp2
        refine ⟨⟨k + 1, by omega, by go_num, ⟨⟨pre, f, x, by rw [H1.out, hsk.out], by have := H2.out; omega, H37.out⟩, HTa7.out, HTb7.out, HB7.out⟩⟩, by simp [intOf]; omega⟩
    · have hkl : k = more.length := by omega
      obtain ⟨pre, f, x, h1, h2, h3⟩ := HI.out.ex
      obtain ⟨A1, c1, rfl, hc1, hr1⟩ := own_reads' h3
      rw [hkl, List.drop_of_length_le (Nat.le_refl _), walkE] at h1
      obtain ⟨g, hA, hg0, hgl, cx, gf⟩ := own_cellsK kPSpan pspanCells (fun _ _ _ h => kPSpan_open h) (fun _ => rfl) h3 (i := pre.length) (x := ⟨f, 0, x⟩) (by simp)
      subst hA
      have y1 : wr.cell? ⟨g, pre.length * 4 + 1, none⟩ = some (.int .i64 0) := cx 1 _ rfl
      have yf := gf (pre.length * 4 + 1)
      obtain ⟨n, hn⟩ : ∃ n, n = (pre ++ [(⟨f, 0, x⟩ : PSpan)]).length := ⟨_, rfl⟩
      rw [← hn] at h3 hc1 ⊢
      have hn1 : n = pre.length + 1 := by rw [hn]; simp
      have hwr : IntKind.i64.wrap ((n : Int) - 1) = (pre.length : Int) := by rw [IntWalk.i64_in _ (by omega)]; omega
      have hpn : pre.length < n := by omega
      obtain ⟨h39, hgr⟩ := own_setK kPSpan pspanCells (fun _ _ _ h => kPSpan_open h) (fun _ _ _ x => kPSpan_mkM _ _ _ x) h3 (i := pre.length) (x := ⟨f, 0, x⟩) (by simp) ⟨f, 1000, x⟩ 1 (by decide) (.int .i64 1000) rfl
      have H1 := Lib.hid h1
      have H9 := Lib.hid (show Own kPSpan 60 (wr.setCell ⟨g, pre.length * 4 + 1, none⟩ (.int .i64 1000)) w.heap.size (.slice (some ⟨g, 0, none⟩) n c1) (pre ++ [⟨f, 1000, x⟩]) by
        have h : (pre ++ [(⟨f, 0, x⟩ : PSpan)]).set pre.length ⟨f, 1000, x⟩ = pre ++ [⟨f, 1000, x⟩] := by simp
        rw [h] at h39
        exact h39)
      have HB9 := Lib.hid (HI.out.below.setCell (p := ⟨g, pre.length * 4 + 1, none⟩) hg0 (.int .i64 1000))
      clear h1 h2 h3 hr1 hn hn1 cx gf h39 hgr hkl
      go_wp2
      simp only [Exit.noGoto_ret]
      go_ret
      refine ⟨_, rfl, ?_, HB9.out⟩
      rw [H1.out]
      exact H9.out
end Go.Proofs.Ytemkloildadokaa
