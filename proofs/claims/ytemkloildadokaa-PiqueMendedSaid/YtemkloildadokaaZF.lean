/-
  Texts of one hand, laid together: PiqMendP.
-/
import Derived.Test.YtemkloildadokaaZB
set_option linter.unusedVariables false
/-! Mended steps are a line with as many steps as can be. No program in sight. -/
namespace Go.Proofs.Ytemkloildadokaa
theorem insE_len (x : PElem) (q : List PElem) : (insE x q).length = q.length + 1 := by
  induction q with
  | nil => rfl
  | cons y q ih => simp only [insE]; split <;> simp [ih]
theorem nextE_one {q : List PElem} {s : PStep} (h : s.do_ = 1) : nextE q s = some (insE ⟨s.key, s.at_⟩ q, ⟨s.key, s.at_⟩) := by
  unfold nextE; rw [if_neg (by omega)]
theorem inc_mk {s : PStep} {l : List PStep} (h : ∀ x ∈ l, s.at_ < x.at_) (hl : incB l = true) : incB (s :: l) = true := by
  have := inc_join (l := [s]) (m := l) rfl hl (by simpa using h)
  simpa using this
theorem mend_mem (l : List PStep) : ∀ (q : List PElem), (∀ x ∈ (mendE q l).1, x ∈ l) ∧ (∀ t ∈ (mendE q l).2, ∃ x ∈ l, x.at_ = t) := by
  induction l with
  | nil => intro q; simp [mendE]
  | cons s l ih =>
    intro q
    rw [mendE]
    split
    · obtain ⟨h1, h2⟩ := ih q
      refine ⟨fun x hx => List.mem_cons_of_mem _ (h1 x hx), fun t ht => ?_⟩
      rcases List.mem_cons.1 ht with rfl | ht
      · exact ⟨s, List.mem_cons_self, rfl⟩
      · obtain ⟨x, hx, e⟩ := h2 t ht
        exact ⟨x, List.mem_cons_of_mem _ hx, e⟩
    · rename_i q' x' he
      obtain ⟨h1, h2⟩ := ih q'
      refine ⟨fun x hx => ?_, fun t ht => ?_⟩
      · rcases List.mem_cons.1 hx with rfl | hx
        · exact List.mem_cons_self
        · exact List.mem_cons_of_mem _ (h1 x hx)
      · obtain ⟨x, hx, e⟩ := h2 t ht
        exact ⟨x, List.mem_cons_of_mem _ hx, e⟩
theorem mend_inc (l : List PStep) : ∀ (q : List PElem), incB l = true → incB (mendE q l).1 = true := by
  induction l with
  | nil => intro q _; rfl
  | cons s l ih =>
    intro q hi
    obtain ⟨h1, h2⟩ := inc_cons hi
    rw [mendE]
    split
    · exact ih q h2
    · rename_i q' x' he
      exact inc_mk (fun x hx => h1 x ((mend_mem l q').1 x hx)) (ih q' h2)
theorem mend_runs (l : List PStep) : ∀ (q : List PElem), (runE q (mendE q l).1).isSome = true := by
  induction l with
  | nil => intro q; rfl
  | cons s l ih =>
    intro q
    rw [mendE]
    split
    · exact ih q
    · rename_i q' x' he
      show (runE q (s :: (mendE q' l).1)).isSome = true
      rw [runE, he]
      exact ih q'
theorem mend_len (l : List PStep) : ∀ (q : List PElem), (mendE q l).1.length + (mendE q l).2.length = l.length := by
  induction l with
  | nil => intro q; rfl
  | cons s l ih =>
    intro q
    rw [mendE]
    split
    · have := ih q; simp only [List.length_cons]; omega
    · rename_i q' x' he
      have := ih q'; simp only [List.length_cons]; omega
theorem mend_line {l : List PStep} (h : stepsB l = true) : lineB (mendE [] l).1 = true := by
  have h' := h
  simp only [stepsB, Bool.and_eq_true, List.all_eq_true, decide_eq_true_eq] at h'
  obtain ⟨h1, h2, h3⟩ := h'
  have := mend_len l []
  exact line_mk (fun s hs => h1 s ((mend_mem l []).1 s hs)) (mend_inc l [] h2) (by omega) (mend_runs l [])
/-- Steps of which some that take are left out. -/
def pickE (P : Nat → Bool) : Nat → List PStep → List PStep
  | _, [] => []
  | i, s :: l => if (s.do_ == 1 || P i) = true then s :: pickE P (i + 1) l else pickE P (i + 1) l
theorem pick_append (P : Nat → Bool) : ∀ (a b : List PStep) (i : Nat), pickE P i (a ++ b) = pickE P i a ++ pickE P (i + a.length) b
  | [], b, i => by simp [pickE]
  | s :: a, b, i => by
    rw [List.cons_append, pickE, pickE, pick_append P a b (i + 1), List.length_cons, show i + 1 + a.length = i + (a.length + 1) by omega]
    split <;> simp
theorem pick_snoc (P : Nat → Bool) {l : List PStep} {k : Nat} {s : PStep} (hk : k < l.length) (h : l.take (k + 1) = l.take k ++ [s]) : pickE P 0 (l.take (k + 1)) = if (s.do_ == 1 || P k) = true then pickE P 0 (l.take k) ++ [s] else pickE P 0 (l.take k) := by
  rw [h, pick_append, List.length_take, Nat.min_eq_left (by omega), Nat.zero_add, pickE, pickE]
  split <;> simp
theorem pick_len (P : Nat → Bool) : ∀ (l : List PStep) (i : Nat), (pickE P i l).length ≤ l.length
  | [], _ => Nat.le_refl _
  | s :: l, i => by
    rw [pickE]
    have := pick_len P l (i + 1)
    split <;> simp only [List.length_cons] <;> omega
/-- No line of these steps that has all that come has more steps. -/
theorem mend_most (P : Nat → Bool) (l : List PStep) : ∀ (q r : List PElem) (i : Nat), (∀ s ∈ l, s.do_ = 1 ∨ s.do_ = 2) → q.length ≤ r.length → (runE r (pickE P i l)).isSome = true → (pickE P i l).length + q.length ≤ (mendE q l).1.length + r.length := by
  induction l with
  | nil => intro q r i _ h _; simpa [pickE, mendE] using h
  | cons s l ih =>
    intro q r i hd hl hr
    have hd' : ∀ s ∈ l, s.do_ = 1 ∨ s.do_ = 2 := fun x hx => hd x (List.mem_cons_of_mem _ hx)
    rcases hd s List.mem_cons_self with h1 | h2
    · rw [pickE, if_pos (by simp [h1])] at hr ⊢
      rw [runE, nextE_one h1] at hr
      rw [mendE, nextE_one h1]
      have := ih (insE ⟨s.key, s.at_⟩ q) (insE ⟨s.key, s.at_⟩ r) (i + 1) hd' (by rw [insE_len, insE_len]; omega) hr
      rw [insE_len, insE_len] at this
      simp only [List.length_cons]; omega
    · have hs1 : (s.do_ == 1) = false := by simp [h2]
      rw [pickE, hs1, Bool.false_or] at hr ⊢
      cases q with
      | nil =>
        rw [mendE, show nextE [] s = none by unfold nextE; rw [if_pos h2]]
        cases hp : P i
        · rw [hp] at hr
          simp only [Bool.false_eq_true, if_false] at hr ⊢
          exact ih [] r (i + 1) hd' hl hr
        · rw [hp] at hr
          simp only [if_true] at hr ⊢
          cases r with
          | nil => rw [runE, show nextE [] s = none by unfold nextE; rw [if_pos h2]] at hr; cases hr
          | cons y r =>
            rw [runE, show nextE (y :: r) s = some (r, y) by unfold nextE; rw [if_pos h2]] at hr
            have := ih [] r (i + 1) hd' (Nat.zero_le _) hr
            simp only [List.length_cons, List.length_nil] at this ⊢; omega
      | cons x q =>
        rw [mendE, show nextE (x :: q) s = some (q, x) by unfold nextE; rw [if_pos h2]]
        cases hp : P i
        · rw [hp] at hr
          simp only [Bool.false_eq_true, if_false] at hr ⊢
          have := ih q r (i + 1) hd' (by simp only [List.length_cons] at hl; omega) hr
          simp only [List.length_cons] at this ⊢; omega
        · rw [hp] at hr
          simp only [if_true] at hr ⊢
          cases r with
          | nil => simp at hl
          | cons y r =>
            rw [runE, show nextE (y :: r) s = some (r, y) by unfold nextE; rw [if_pos h2]] at hr
            have := ih q r (i + 1) hd' (by simp only [List.length_cons] at hl; omega) hr
            simp only [List.length_cons] at this ⊢; omega
/-- What is mended behind the first steps. -/
structure MendAt (l X : List PStep) (T : List Int) (i k : Nat) : Prop where
  le : k ≤ i
  ex : ∃ q, X.drop (i - k) = (mendE q (l.drop i)).1 ∧ T.drop k = (mendE q (l.drop i)).2
theorem MendAt.start (l : List PStep) : MendAt l (mendE [] l).1 (mendE [] l).2 0 0 := ⟨Nat.le_refl _, [], by simp, by simp⟩
theorem drop_head {α : Type} {l : List α} {n : Nat} {x : α} {r : List α} (h : l.drop n = x :: r) : l[n]? = some x ∧ l.drop (n + 1) = r := by
  have h1 : (l.drop n)[0]? = some x := by rw [h]; rfl
  rw [List.getElem?_drop, Nat.add_zero] at h1
  refine ⟨h1, ?_⟩
  have h2 : (l.drop n).drop 1 = r := by rw [h]; rfl
  rwa [List.drop_drop] at h2
theorem MendAt.next {l X : List PStep} {T : List Int} {i k : Nat} {s : PStep} (h : MendAt l X T i k) (hi : incB l = true) (hd : ∀ s ∈ l, s.do_ = 1 ∨ s.do_ = 2) (hs : l.drop i = s :: l.drop (i + 1)) :
    (T[k]? = some s.at_ ∧ s.do_ = 2 ∧ MendAt l X T (i + 1) (k + 1)) ∨ ((∀ t, T[k]? = some t → t ≠ s.at_) ∧ X[i - k]? = some s ∧ MendAt l X T (i + 1) k) := by
  obtain ⟨hle, q, h1, h2⟩ := h
  rw [hs, mendE] at h1 h2
  have hmem : s ∈ l := by have : s ∈ l.drop i := by rw [hs]; exact List.mem_cons_self
                          exact List.mem_of_mem_drop this
  have hinc : ∀ x ∈ l.drop (i + 1), s.at_ < x.at_ := by
    have : incB (l.take i ++ l.drop i) = true := by rw [List.take_append_drop]; exact hi
    have := (inc_append this).2.1
    rw [hs] at this
    exact (inc_cons this).1
  cases hn : nextE q s with
  | none =>
    rw [hn] at h1 h2
    left
    obtain ⟨h3, h4⟩ := drop_head h2
    refine ⟨h3, ?_, by omega, q, by rw [show i + 1 - (k + 1) = i - k by omega]; exact h1, h4⟩
    rcases hd s hmem with e | e
    · rw [nextE_one e] at hn; cases hn
    · exact e
  | some p =>
    obtain ⟨q', x⟩ := p
    rw [hn] at h1 h2
    right
    obtain ⟨h3, h4⟩ := drop_head h1
    refine ⟨fun t ht e => ?_, h3, by omega, q', by rw [show i + 1 - k = i - k + 1 by omega]; exact h4, h2⟩
    have h5 : t ∈ T.drop k := by
      have : (T.drop k)[0]? = some t := by rw [List.getElem?_drop, Nat.add_zero]; exact ht
      exact List.mem_of_getElem? this
    rw [h2] at h5
    obtain ⟨y, hy, e2⟩ := (mend_mem _ q').2 t h5
    have := hinc y hy
    omega
end Go.Proofs.Ytemkloildadokaa
