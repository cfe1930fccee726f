/-
  Texts of one hand, laid together: PiqOneP, PiqWantA, PiqWantB, PiqWantC, PiqWant, PiqOpenC.
-/
import Derived.Test.YtemkloildadokaaZT
import Derived.Test.YtemkloildadokaaZE
import Derived.Test.YtemkloildadokaaZD
import Derived.Test.YtemkloildadokaaZO
set_option linter.unusedVariables false
set_option linter.unusedSimpArgs false
/-! A change leaves one element more or less at each time from then on: no program in sight. -/
namespace Go.Proofs.Ytemkloildadokaa
/-- Spans that follow each other, their elements increasing, from a time to the last one. -/
def SpOk : Int → PElem → List PSpan → Prop
  | _, _, [] => False
  | f, x, d :: r => d.from_ = f ∧ d.elem = x ∧ d.from_ ≤ d.to_ ∧ match r with
    | [] => d.to_ = 1000
    | e :: _ => eltB d.elem e.elem = true ∧ SpOk (d.to_ + 1) e.elem r
theorem spans_ok : ∀ (S : List PStep) (M L : List PElem) (x : PElem) (f lo : Int), f ≤ lo → (∀ s ∈ S, lo < s.at_ ∧ s.at_ ≤ 1000) → lo ≤ 1000 → incB S = true → OneMore (lo + 1) x M L → (runE L S).isSome = true → SpOk f x (spansS M L x f S)
  | [], M, L, x, f, lo, h0, h1, h1', h2, h3, h4 => by
    simp only [spansS, SpOk, true_and, and_true]
    omega
  | s :: S, M, L, x, f, lo, h0, h1, h1', h2, h3, h4 => by
    obtain ⟨j1, j2⟩ := inc_cons h2
    have hs := h1 s (by simp)
    rw [runE] at h4
    cases hn : nextE L s with
    | none => rw [hn] at h4; cases h4
    | some p =>
      obtain ⟨L', l⟩ := p
      rw [hn] at h4
      obtain ⟨M', m, x', hm, hone, hx⟩ := h3.step (by omega) hn
      have hS : ∀ y ∈ S, s.at_ < y.at_ ∧ y.at_ ≤ 1000 := fun y hy => ⟨j1 y hy, (h1 y (List.mem_cons_of_mem _ hy)).2⟩
      rw [spansS, hm, hn]
      simp only
      by_cases hc : s.do_ = 2 ∧ m = x
      · rw [if_pos hc] at hx
        obtain ⟨rfl, hlt⟩ := hx
        rw [if_pos hc]
        have ih := spans_ok S M' L' x' s.at_ s.at_ (Int.le_refl _) hS hs.2 j2 hone h4
        cases hr : spansS M' L' x' s.at_ S with
        | nil => rw [hr] at ih; exact ih.elim
        | cons e r =>
          rw [hr] at ih
          have ie := ih.2.1
          refine ⟨rfl, rfl, by show f ≤ s.at_ - 1; omega, ?_⟩
          refine ⟨by rw [ie]; exact hlt, ?_⟩
          show SpOk (s.at_ - 1 + 1) e.elem (e :: r)
          rw [ie, show s.at_ - 1 + 1 = s.at_ by omega]
          exact ih
      · rw [if_neg hc] at hx
        subst hx
        rw [if_neg hc]
        exact spans_ok S M' L' x' f s.at_ (by omega) hS hs.2 j2 hone h4
theorem spans_from : ∀ (S : List PStep) (M L : List PElem) (x : PElem) (f : Int), (∀ s ∈ S, f ≤ s.at_) → incB S = true → ∀ d ∈ spansS M L x f S, f ≤ d.from_
  | [], M, L, x, f, _, _, d, hd => by
    simp only [spansS, List.mem_singleton] at hd
    subst hd; exact Int.le_refl _
  | s :: S, M, L, x, f, h, hi, d, hd => by
    obtain ⟨j1, j2⟩ := inc_cons hi
    have hs := h s (by simp)
    rw [spansS] at hd
    split at hd
    · split at hd
      · rcases List.mem_cons.1 hd with rfl | hd
        · exact Int.le_refl _
        · have := spans_from S _ _ _ s.at_ (fun y hy => by have := j1 y hy; omega) j2 d hd
          omega
      · exact spans_from S _ _ _ f (fun y hy => h y (List.mem_cons_of_mem _ hy)) j2 d hd
    · cases hd
theorem spans_head {t : Int} : ∀ (S : List PStep) (M L : List PElem) (x : PElem) (f : Int), (∀ s ∈ S, t < s.at_) → incB S = true → ∀ d ∈ spansS M L x f S, d.from_ ≤ t → d.elem = x
  | [], M, L, x, f, _, _, d, hd, _ => by
    simp only [spansS, List.mem_singleton] at hd
    subst hd; rfl
  | s :: S, M, L, x, f, h, hi, d, hd, ht => by
    obtain ⟨j1, j2⟩ := inc_cons hi
    have hs := h s (by simp)
    rw [spansS] at hd
    split at hd
    · split at hd
      · rcases List.mem_cons.1 hd with rfl | hd
        · rfl
        · have := spans_from S _ _ _ s.at_ (fun y hy => by have := j1 y hy; omega) j2 d hd
          omega
      · exact spans_head S _ _ _ f (fun y hy => h y (List.mem_cons_of_mem _ hy)) j2 d hd ht
    · cases hd
/-- At any time there is one element more: the one of the span. -/
theorem spans_at (t : Int) : ∀ (S : List PStep) (M L : List PElem) (x : PElem) (f lo : Int), f ≤ lo → lo ≤ t → (∀ s ∈ S, lo < s.at_) → incB S = true → OneMore (lo + 1) x M L → (runE L S).isSome = true →
    ∃ M' L', runE M (S.take (uptoE t S)) = some M' ∧ runE L (S.take (uptoE t S)) = some L' ∧ ∀ d ∈ spansS M L x f S, d.from_ ≤ t → t ≤ d.to_ → OneMore (t + 1) d.elem M' L'
  | [], M, L, x, f, lo, h0, h1, h2, h3, h4, h5 => by
    refine ⟨M, L, rfl, rfl, fun d hd _ _ => ?_⟩
    simp only [spansS, List.mem_singleton] at hd
    subst hd
    exact ⟨h4.less.mono (by omega), h4.eq, h4.new, by have := h4.early; show x.from_ < t + 1; omega⟩
  | s :: S, M, L, x, f, lo, h0, h1, h2, h3, h4, h5 => by
    obtain ⟨j1, j2⟩ := inc_cons h3
    have hs := h2 s (by simp)
    by_cases hst : s.at_ ≤ t
    · rw [runE] at h5
      cases hn : nextE L s with
      | none => rw [hn] at h5; cases h5
      | some p =>
        obtain ⟨L', l⟩ := p
        rw [hn] at h5
        obtain ⟨M', m, x', hm, hone, hx⟩ := h4.step (by omega) hn
        rw [uptoE, if_pos hst, List.take_succ_cons, runE, runE, hm, hn]
        by_cases hc : s.do_ = 2 ∧ m = x
        · rw [if_pos hc] at hx
          obtain ⟨rfl, hlt⟩ := hx
          obtain ⟨M2, L2, r1, r2, r3⟩ := spans_at t S M' L' x' s.at_ s.at_ (Int.le_refl _) hst j1 j2 hone h5
          refine ⟨M2, L2, r1, r2, fun d hd hd1 hd2 => ?_⟩
          rw [spansS, hm, hn] at hd
          simp only at hd
          rw [if_pos hc] at hd
          rcases List.mem_cons.1 hd with rfl | hd
          · simp only at hd2; omega
          · exact r3 d hd hd1 hd2
        · rw [if_neg hc] at hx
          subst hx
          obtain ⟨M2, L2, r1, r2, r3⟩ := spans_at t S M' L' x' f s.at_ (by omega) hst j1 j2 hone h5
          refine ⟨M2, L2, r1, r2, fun d hd hd1 hd2 => ?_⟩
          rw [spansS, hm, hn] at hd
          simp only at hd
          rw [if_neg hc] at hd
          exact r3 d hd hd1 hd2
    · refine ⟨M, L, by rw [uptoE, if_neg hst]; rfl, by rw [uptoE, if_neg hst]; rfl, fun d hd hd1 hd2 => ?_⟩
      have := spans_head (t := t) (s :: S) M L x f (fun y hy => by
        rcases List.mem_cons.1 hy with rfl | hy
        · omega
        · have := j1 y hy; omega) h3 d hd hd1
      rw [this]
      exact ⟨h4.less.mono (by omega), h4.eq, h4.new, by have := h4.early; omega⟩
/-- The span of a time is there, and it is the first one. -/
theorem span_of {t : Int} : ∀ {sp : List PSpan} {f : Int} {x : PElem}, SpOk f x sp → f ≤ t → t ≤ 1000 → ∃ d, sp.find? (fun d => decide (d.from_ ≤ t) && decide (t ≤ d.to_)) = some d
  | [], _, _, h, _, _ => h.elim
  | d :: r, f, x, h, h0, h1 => by
    obtain ⟨e1, e2, e3, h4⟩ := h
    rw [List.find?_cons]
    by_cases ht : t ≤ d.to_
    · exact ⟨d, by rw [show (decide (d.from_ ≤ t) && decide (t ≤ d.to_)) = true by simp [ht]; omega]⟩
    · rw [show (decide (d.from_ ≤ t) && decide (t ≤ d.to_)) = false by simp [ht]]
      cases r with
      | nil => simp only at h4; omega
      | cons e r => exact span_of h4.2 (by omega) h1
/-- What one change tells: the line with more, the one with less, the time, the spans. -/
structure Told (more less : List PStep) (f : Int) (sp : List PSpan) : Prop where
  ok : ∃ x, SpOk f x sp
  at_ : ∀ t, f ≤ t → ∀ d ∈ sp, d.from_ ≤ t → t ≤ d.to_ → OneMore (t + 1) d.elem (atE more t) (atE less t)
  ahead : ∀ t, t < f → atE more t = atE less t
  pos : 0 ≤ f ∧ f ≤ 1000
theorem upto_short {t : Int} {P S : List PStep} (h : ∀ s ∈ S, t < s.at_) : uptoE t (P ++ S) = uptoE t P := by
  induction P with
  | nil => rw [List.nil_append, upto_none h]; rfl
  | cons s P ih => rw [List.cons_append, uptoE, uptoE, ih]
theorem parted_told {more less : List PStep} {f : Int} {x : PElem} {P1 P2 S : List PStep} {M L : List PElem} (h : Parted more less f x P1 P2 S M L) (hf : 0 ≤ f ∧ f ≤ 1000)
    (ha : ∃ P T1 T2, P1 = P ++ T1 ∧ P2 = P ++ T2 ∧ (∀ s ∈ T1, f ≤ s.at_) ∧ (∀ s ∈ T2, f ≤ s.at_)) : Told more less f (walkedE more less f x) := by
  rw [h.walked]
  have i := inc_append (h.m ▸ h.inc1)
  refine ⟨⟨x, spans_ok S M L x f f (Int.le_refl _) h.s hf.2 i.2.1 h.one h.good⟩, fun t ht d hd h1 h2 => ?_, fun t ht => ?_, hf⟩
  · obtain ⟨M', L', r1, r2, r3⟩ := spans_at t S M L x f f (Int.le_refl _) ht (fun s hs => (h.s s hs).1) i.2.1 h.one h.good
    have e1 : atE more t = M' := by
      rw [atE, thereE, h.m, upto_all fun s hs => by have := h.p1 s hs; omega, List.take_length_add_append, run_append, h.run1, Option.bind_some, r1]
      rfl
    have e2 : atE less t = L' := by
      rw [atE, thereE, h.l, upto_all fun s hs => by have := h.p2 s hs; omega, List.take_length_add_append, run_append, h.run2, Option.bind_some, r2]
      rfl
    rw [e1, e2]
    exact r3 d hd h1 h2
  · obtain ⟨P, T1, T2, a1, a2, a3, a4⟩ := ha
    have e1 : more = P ++ (T1 ++ S) := by rw [h.m, a1, List.append_assoc]
    have e2 : less = P ++ (T2 ++ S) := by rw [h.l, a2, List.append_assoc]
    have u1 : uptoE t more = uptoE t P := by
      rw [e1]
      refine upto_short fun s hs => ?_
      rcases List.mem_append.1 hs with hs | hs
      · have := a3 s hs; omega
      · have := (h.s s hs).1; omega
    have u2 : uptoE t less = uptoE t P := by
      rw [e2]
      refine upto_short fun s hs => ?_
      rcases List.mem_append.1 hs with hs | hs
      · have := a4 s hs; omega
      · have := (h.s s hs).1; omega
    have hle := upto_le t P
    rw [atE, atE, thereE, thereE, u1, u2, e1, e2, List.take_append_of_le_length hle, List.take_append_of_le_length hle]
theorem mem_one {y s : PStep} (h : y ∈ [s]) : s.at_ ≤ y.at_ := by
  have e : y = s := by simpa using h
  rw [e]; exact Int.le_refl _
theorem told_in {P S : List PStep} {s : PStep} (hd : s.do_ = 1) (h1 : lineB (P ++ S) = true) (h2 : lineB (P ++ s :: S) = true) : Told (P ++ s :: S) (P ++ S) s.at_ (walkedE (P ++ s :: S) (P ++ S) s.at_ ⟨s.key, s.at_⟩) := by
  obtain ⟨M, L, h⟩ := parted_in hd h1 h2
  have hs := (line_of h2).steps s (by simp)
  exact parted_told h ⟨hs.1, hs.2.1⟩ ⟨P, [s], [], rfl, by simp, fun y hy => mem_one hy, fun y hy => (by cases hy)⟩
theorem told_out {P S : List PStep} {s : PStep} (hd : s.do_ = 2) (h1 : lineB (P ++ S) = true) (h2 : lineB (P ++ s :: S) = true) : Told (P ++ S) (P ++ s :: S) s.at_ (walkedE (P ++ S) (P ++ s :: S) s.at_ ((takenE (P ++ s :: S) s.at_).getD ⟨0, 0⟩)) := by
  obtain ⟨x, M, L, ht, h⟩ := parted_out hd h1 h2
  rw [ht]
  have hs := (line_of h2).steps s (by simp)
  exact parted_told h ⟨hs.1, hs.2.1⟩ ⟨P, [], [s], by simp, rfl, fun y hy => (by cases hy), fun y hy => mem_one hy⟩
/-- An element is taken out of what is there. -/
theorem ins_erase {x : PElem} {l : List PElem} (h : x ∉ l) : (insE x l).erase x = l := by
  induction l with
  | nil => simp [insE]
  | cons y l ih =>
    rw [List.mem_cons, not_or] at h
    unfold insE
    split
    · rw [List.erase_cons, if_neg (by simpa using fun e => h.1 e.symm), ih h.2]
    · rw [List.erase_cons, if_pos (by simp)]
/-- Where a span begins. -/
def frE (f : Int) (sp : List PSpan) : Nat → Int
  | 0 => f
  | k + 1 => (sp[k]?.getD default).to_ + 1
theorem frE_cons (f : Int) (d : PSpan) (r : List PSpan) (k : Nat) : frE f (d :: r) (k + 1) = frE (d.to_ + 1) r k := by cases k <;> simp [frE]
theorem sp_first {f : Int} {x : PElem} {d : PSpan} {r : List PSpan} (h : SpOk f x (d :: r)) : d.from_ = f ∧ d.elem = x ∧ d.from_ ≤ d.to_ := ⟨h.1, h.2.1, h.2.2.1⟩
theorem sp_step : ∀ {sp : List PSpan} {f : Int} {x : PElem}, SpOk f x sp → ∀ {k : Nat} {d : PSpan}, sp[k]? = some d → d.from_ = frE f sp k ∧ d.from_ ≤ d.to_ ∧ d.to_ ≤ 1000 ∧ f ≤ d.from_ ∧ ∀ e, sp[k + 1]? = some e → eltB d.elem e.elem = true
  | [], _, _, h, _, _, _ => h.elim
  | [d0], f, x, h, k, d, hk => by
    obtain ⟨e1, e2, e3, h4⟩ := h
    cases k with
    | zero =>
      obtain rfl : d0 = d := by simpa using hk
      simp only at h4
      exact ⟨e1, e3, by omega, by omega, fun e he => by simp at he⟩
    | succ k => simp at hk
  | d0 :: d1 :: r, f, x, h, k, d, hk => by
    obtain ⟨e1, e2, e3, h4⟩ := h
    simp only at h4
    cases k with
    | zero =>
      obtain rfl : d0 = d := by simpa using hk
      have h5 := sp_step h4.2 (k := 0) (d := d1) rfl
      have h6 := sp_first h4.2
      refine ⟨e1, e3, by omega, by omega, fun e he => ?_⟩
      obtain rfl : d1 = e := by simpa using he
      exact h4.1
    | succ k =>
      have hk' : (d1 :: r)[k]? = some d := by simpa using hk
      obtain ⟨a1, a2, a3, a4, a5⟩ := sp_step h4.2 hk'
      exact ⟨by rw [frE_cons]; exact a1, a2, a3, by omega, fun e he => a5 e (by simpa using he)⟩
theorem sp_last : ∀ {sp : List PSpan} {f : Int} {x : PElem}, SpOk f x sp → frE f sp sp.length = 1001 ∧ 0 < sp.length
  | [], _, _, h => h.elim
  | [d0], f, x, h => by
    obtain ⟨e1, e2, e3, h4⟩ := h
    simp only at h4
    exact ⟨by simp [frE, h4], by simp⟩
  | d0 :: d1 :: r, f, x, h => by
    obtain ⟨e1, e2, e3, h4⟩ := h
    simp only at h4
    refine ⟨?_, by simp⟩
    rw [List.length_cons, frE_cons]
    exact (sp_last h4.2).1
theorem run_len : ∀ {l : List PStep} {q q' : List PElem}, runE q l = some q' → q'.length ≤ q.length + l.length
  | [], q, q', h => by cases h; simp
  | s :: l, q, q', h => by
    rw [runE] at h
    cases hn : nextE q s with
    | none => rw [hn] at h; cases h
    | some p =>
      obtain ⟨q1, x⟩ := p
      rw [hn] at h
      have h1 := run_len h
      have h2 : q1.length ≤ q.length + 1 := by
        unfold nextE at hn
        split at hn
        · cases q with
          | nil => cases hn
          | cons y q => cases hn; simp; omega
        · cases hn; rw [len_ins]; omega
      rw [List.length_cons]; omega
theorem at_len (l : List PStep) (t : Int) : (atE l t).length ≤ l.length := by
  unfold atE thereE
  cases h : runE [] (l.take (uptoE t l)) with
  | none => simp
  | some q =>
    have := run_len h
    rw [List.length_take] at this
    simp at this ⊢
    omega
/-- What wants to be: the changed line, the step, its place, whether it can be made. -/
structure PWant where
  line : List PStep
  step : PStep
  place : Nat
  can : Bool
def wantE (l : List PStep) (s : PStep) (drop : Bool) : PWant :=
  if (hasE l s.at_ != drop || (!drop && decide (60 ≤ l.length))) = true then ⟨[], s, placeE s.at_ l, false⟩
  else if drop = true then ⟨withoutE l (placeE s.at_ l), l[placeE s.at_ l]?.getD default, placeE s.at_ l, true⟩
  else ⟨withR l s, s, placeE s.at_ l, pstepB s⟩
def changedE (l : List PStep) (s : PStep) (drop : Bool) : PRes := if drop = true then deleteE l s.at_ else insertE l s
/-- A change that can be made is made, and tells what it leaves. -/
theorem changed_told {l : List PStep} {s : PStep} {drop : Bool} (h1 : lineB l = true) (h2 : (wantE l s drop).can = true) (h3 : lineB (wantE l s drop).line = true) :
    (changedE l s drop).err = 0 ∧ (changedE l s drop).line = (wantE l s drop).line ∧ (changedE l s drop).more = (((wantE l s drop).step.do_ == 1) != drop) ∧
    (if (changedE l s drop).more = true then Told (wantE l s drop).line l (wantE l s drop).step.at_ (changedE l s drop).spans else Told l (wantE l s drop).line (wantE l s drop).step.at_ (changedE l s drop).spans) := by
  have g := line_of h1
  obtain ⟨P, S, rfl, hp, hP, hS⟩ := part_at s.at_ g.inc
  obtain ⟨i1, i2, i3⟩ := inc_append g.inc
  have hhp := has_part hp
  have hn1 : ¬ lineB (P ++ S) = false := by rw [h1]; simp
  cases drop with
  | true =>
    by_cases hh : hasE (P ++ S) s.at_ = true
    · have ew : wantE (P ++ S) s true = ⟨withoutE (P ++ S) P.length, (P ++ S)[P.length]?.getD default, P.length, true⟩ := by
        rw [wantE, if_neg (by rw [hh]; simp), if_pos rfl, hp]
      rw [ew] at h2 h3 ⊢
      rw [hhp] at hh
      cases S with
      | nil => cases hh
      | cons u S =>
        have hu : u.at_ = s.at_ := by simpa using hh
        have hgt : ((P ++ u :: S)[P.length]?.getD default) = u := by simp
        have hw : withoutE (P ++ u :: S) P.length = P ++ S := by simp [withoutE, List.drop_append]
        rw [hw] at h3 ⊢
        rw [hgt]
        rw [changedE, if_pos rfl, deleteE, if_neg hn1, if_neg (by rw [hhp]; simp [hu]), hp, hw, if_neg (by rw [h3]; simp), hgt]
        have hb := g.steps u (by simp)
        by_cases hd : u.do_ = 2
        · rw [if_pos hd, ← hu]
          refine ⟨rfl, rfl, by simp [hd], ?_⟩
          simp only [if_true]
          exact told_out hd h3 h1
        · have hd1 : u.do_ = 1 := by omega
          rw [if_neg hd, ← hu]
          refine ⟨rfl, rfl, by simp [hd1], ?_⟩
          simp only [Bool.false_eq_true, if_false]
          exact told_in hd1 h3 h1
    · have ew : (wantE (P ++ S) s true).can = false := by
        rw [wantE, if_pos (by simp at hh; rw [hh]; simp)]
      rw [ew] at h2; cases h2
  | false =>
    by_cases hc : (hasE (P ++ S) s.at_ != false || (!false && decide (60 ≤ (P ++ S).length))) = true
    · have ew : (wantE (P ++ S) s false).can = false := by rw [wantE, if_pos hc]
      rw [ew] at h2; cases h2
    · have ew : wantE (P ++ S) s false = ⟨withR (P ++ S) s, s, placeE s.at_ (P ++ S), pstepB s⟩ := by
        rw [wantE, if_neg hc]; rfl
      rw [ew] at h2 h3 ⊢
      simp only at h2 h3 ⊢
      have hh : hasE (P ++ S) s.at_ = false := by simp at hc; exact hc.1
      have hlen : (P ++ S).length < 60 := by simp at hc ⊢; omega
      have hS' : ∀ y ∈ S, s.at_ < y.at_ := fun y hy => by
        have h0 := hS y hy
        rw [hhp] at hh
        cases S with
        | nil => cases hy
        | cons u S =>
          have hu : ¬ u.at_ = s.at_ := by simpa using hh
          rcases List.mem_cons.1 hy with rfl | hy
          · omega
          · have := (inc_cons i2).1 y hy
            have := hS u (by simp)
            omega
      have hw : withE (P ++ S) s = P ++ s :: S := by rw [withE, hp]; simp
      have hw' : withR (P ++ S) s = P ++ s :: S := by rw [withR, upto_part hP hS']; simp
      rw [hw'] at h3 ⊢
      obtain ⟨b0, b1, b2⟩ := step_bounds h2
      rw [changedE, if_neg (by simp), insertE, if_neg (by rw [h1, h2]; simp), if_neg (by rw [hh]; simp), if_neg (by omega), hw, if_neg (by rw [h3]; simp)]
      by_cases hd : s.do_ = 1
      · rw [if_pos hd]
        refine ⟨rfl, rfl, by simp [hd], ?_⟩
        simp only [if_true]
        exact told_in hd h1 h3
      · have hd2 : s.do_ = 2 := by omega
        rw [if_neg hd]
        refine ⟨rfl, rfl, by simp [hd2], ?_⟩
        simp only [Bool.false_eq_true, if_false]
        exact told_out hd2 h1 h3
end Go.Proofs.Ytemkloildadokaa
set_option linter.unusedVariables false
set_option linter.unusedSimpArgs false
/-! What wants to be, and what is made. (Printed by gen_piqwant.py.) -/
namespace Go.Proofs.Ytemkloildadokaa
open Go.RowKit Go.Shelf Go.Proofs.YtemkloildadokaaW.PrintWords
set_option maxRecDepth 100000 in
set_option maxHeartbeats 16000000 in
theorem r_WithoutL (A : Option Addr) (n c : Nat) (l : List PStep) (k : Nat) (w : World) (hn : n = l.length) (hrow : PStepRow w A n l) (hc : n ≤ c) (hm : n * 24 ≤ 140737488351232) (hk : k < n) :
    Calls Try.prog 37 #[.slice A n c, .int .i64 k] w fun e w' => ∃ v, e = .returned v ∧ Own kPStep 36 w' w.heap.size v (withoutE l k) ∧ Below w.heap.size w w' := by
  have HR := Lib.hid hrow
  have Hn := Lib.hid hn
  clear hrow hn
  go_enter Try.func37, Try.ntmps37
  go_upto_region 1 with fail
  have HT := Lib.hid (stepRow_take HR.out k (by omega))
  have hkc : k ≤ c := by omega
  obtain ⟨k1, hkk⟩ : ∃ k1, k1 = k + 1 := ⟨_, rfl⟩
  have hk1 : IntKind.i64.wrap ((k : Int) + 1) = (k1 : Int) := by rw [IntWalk.i64_in _ (by omega)]; omega
  have hk2 : k1 ≤ n := by omega
  have hk3 : k1 ≤ c := by omega
  have Hkk := Lib.hid hkk
  clear hkk
  refine wp_region_flow [.free 0, .free 1, .free 2, .free 4, .free 5, .free 6, .free 7, .group [3], .alone 8, .free 9] (Below w.heap.size w) (Below w.heap.size w) (stable_below _ _ (Nat.le_refl _)) (fun _ h => h) (by kernel_rfl) (by kernel_rfl) (below_drew1 (Below.refl _ _)) ?_
  simp only [pickEnts, pickF, List.getElem?_cons_succ, List.getElem?_cons_zero, List.filterMap_cons, List.filterMap_nil, Option.map_some]
  repeat ((first | refine flow_calm (fun K hK => ?_) | refine flow_free (fun K hK => ?_) | refine float_calm (fun K hK => ?_) | refine float_free (fun K hK => ?_)); go_simp; first | (refine hK _ ?_; clear hK K) | (apply Exists.intro; (refine ⟨fun X => ?_, hK _ ?_⟩); (first | (intro hC; rfl) | rfl | (intro hC; skip; go_simp; done) | (intro hC; skip; go_simp; rfl)); clear hK K))
  obtain ⟨AD, hAD⟩ : ∃ AD, AD = (if c = k1 then A else Option.map (fun x => x.add (k1 * 3)) A) := ⟨_, rfl⟩
  have HD := Lib.hid (stepRow_drop (m := n - k1) (B := AD) HR.out k1 hk2 rfl (by
    by_cases h : c = k1
    · exact .inl (by omega)
    · right; rw [hAD, if_neg h]))
  rw [← hAD]
  clear hAD
  refine flow_one (fun v X => Own kPStep 36 X w.heap.size v (l.take k)) (fun _ _ _ h hb => Kd.R_below h hb) ⟨rfl, fun X hX => ?_⟩ (fun v X0 hX0 hV0 => ?_)
  · exact makes_fresh kPStep w.heap.size hX.out.size (.const (.slice none 0 0)) (.tmp 7) 22 36 zStep 24 rfl (by kernel_rfl) (by kernel_rfl) rfl (by decide) (by omega) (l.take k) _ k _ rfl rfl (Kd.C_below HT.out hX.out) (fun x cs h => pstep_KM _ _ _ _ x cs h) (by omega)
  obtain ⟨A6, n6, c6, rfl⟩ := R_slice' hV0
  clear hX0 hV0
  refine flow_alone rfl (fun X hX K hK => ?_)
  obtain ⟨hb6, ho6⟩ := hX.out
  refine Kd.R_append_rows_step kPStep (w0 := X) w.heap.size (by rfl) (.tmp 8) (.tmp 12) 22 36 zStep 24 rfl (by kernel_rfl) (by kernel_rfl) rfl (by decide) (by omega) (.slice A6 n6 c6) (l.take k) (l.drop k1) _ _ _ (fun _ => True) (fun _ => False) rfl rfl ho6 (Kd.C_below HD.out hb6) (fun x cs h => pstep_KM _ _ _ _ x cs h) (fun _ h => h.elim) (fun _ _ => trivial) (Below.refl _ _) hb6.size (by have := Hkk.out; rw [List.length_take]; omega) ?_
  intro v7 w7 r1 r2 r3 r4
  obtain ⟨A7, n7, c7, rfl⟩ := R_slice' r1
  refine hK.out _ _ (fun Z => Below w.heap.size w Z) (fun Z => Below w.heap.size w Z ∧ Own kPStep 36 Z w.heap.size (.slice A7 n7 c7) (l.take k ++ l.drop k1)) (fun Z Z' hZ hb => ⟨hZ.1.trans (Below.mono hb hZ.1.size), Kd.R_below hZ.2 hb⟩) (fun _ h => h) (fun _ h => h.1) ⟨hb6.trans r2, r1⟩ ?_
  clear hK K hX hb6 ho6 r1 r2 r3 r4
  repeat ((first | refine flow_calm (fun K hK => ?_) | refine flow_free (fun K hK => ?_) | refine float_calm (fun K hK => ?_) | refine float_free (fun K hK => ?_)); go_simp; first | (refine hK _ ?_; clear hK K) | (apply Exists.intro; (refine ⟨fun X => ?_, hK _ ?_⟩); (first | (intro hC; rfl) | rfl | (intro hC; skip; go_simp; done) | (intro hC; skip; go_simp; rfl)); clear hK K))
  refine flow_nil ?_
  intro Z hZ
  go_wp2
  refine bodyPost_ret (v := .slice A7 n7 c7) (by simp [results, Try.results37, go_sem]) rfl ?_
  obtain ⟨hb7, ho7⟩ := hZ.out
  rw [Hkk.out] at ho7
  exact ⟨_, rfl, ho7, hb7⟩
theorem place_lo {t : Int} : ∀ {l : List PStep} {k : Nat} {a : PStep}, k < placeE t l → l[k]? = some a → a.at_ < t
  | [], k, a, h, _ => by simp [placeE] at h
  | s :: l, k, a, h, hg => by
    rw [placeE] at h
    split at h
    · rename_i hs
      cases k with
      | zero => obtain rfl : s = a := by simpa using hg
                exact hs
      | succ k =>
        have h' : k < placeE t l := by omega
        exact place_lo h' (by simpa using hg)
    · omega
theorem place_hi {t : Int} : ∀ {l : List PStep} {a : PStep}, l[placeE t l]? = some a → t ≤ a.at_
  | [], a, h => by simp at h
  | s :: l, a, h => by
    rw [placeE] at h
    split at h
    · exact place_hi (l := l) (by simpa using h)
    · obtain rfl : s = a := by simpa using h
      omega
theorem place_le2 {t : Int} : ∀ (l : List PStep), placeE t l ≤ l.length
  | [] => Nat.le_refl _
  | s :: l => by
    rw [placeE]
    split
    · have := place_le2 (t := t) l; rw [List.length_cons]; omega
    · omega
def WantPost (w : World) (q : PWant) (e : Ending) (w' : World) : Prop := ∃ v, e = .returned (.tuple #[v, .agg #[.int .i64 q.step.at_, .int .i64 q.step.do_, .int .i64 q.step.key], .int .i64 q.place, .bool q.can]) ∧ Own kPStep 36 w' w.heap.size v q.line ∧ Below w.heap.size w w'
set_option maxRecDepth 100000 in
set_option maxHeartbeats 16000000 in
theorem law_changed (A : Option Addr) (c : Nat) (l : List PStep) (s : PStep) (drop : Bool) (w : World) (hrow : PStepRow w A l.length l) :
    Calls Try.prog 45 #[.slice A l.length c, .agg #[.int .i64 s.at_, .int .i64 s.do_, .int .i64 s.key, .bool drop]] w (ChgPost w (changedE l s drop)) := by
  obtain ⟨k1, k2, hB⟩ := two_new w ((w.alloc (.cells #[.int .i64 s.at_, .int .i64 s.do_, .int .i64 s.key, .bool drop] 66)).alloc (.cells #[.bool false, .slice none 0 0] 39)) _ _ _ _ (by simpa using Below.refl _ _)
  have K1 := Lib.hid k1
  have K2 := Lib.hid k2
  have HB := Lib.hid hB
  have HR := Lib.hid (Kd.C_below hrow hB)
  clear k1 k2 hB hrow
  obtain ⟨r, hr⟩ : ∃ r, r = changedE l s drop := ⟨_, rfl⟩
  rw [← hr]
  unfold changedE at hr
  cases drop
  all_goals
    simp only [Bool.false_eq_true, if_false, if_true] at hr
    have PD := Lib.hid (p_Delete A c l s.at_)
    have PI := Lib.hid (p_Insert A c l s)
    try rw [← hr] at PD
    try rw [← hr] at PI
    clear hr
    go_enter Try.func45, Try.ntmps45
    go_upto_region 1 with fail
  · generalize ((w.alloc (.cells #[.int .i64 s.at_, .int .i64 s.do_, .int .i64 s.key, .bool false] 66)).alloc (.cells #[.bool false, .slice none 0 0] 39)) = w2 at K1 K2 HB HR ⊢
    have x0 := K1.out.cell 0 _ rfl
    have x1 := K1.out.cell 1 _ rfl
    have x2 := K1.out.cell 2 _ rfl
    have x3 := K1.out.cell 3 _ rfl
    go_wp2_with (go_at_call 21; (with_reducible refine (PI.out w2 HR.out).mono ?_); rintro e w3 ⟨⟨vl, vs, rfl, hl3, hs3⟩, hb3⟩; obtain ⟨A3, n3, c3, rfl⟩ := R_slice' hl3; obtain ⟨B3, m3, d3, rfl⟩ := R_slice' hs3; have z := K2.out.later hb3; have z0 := z.cell 0 _ rfl; have z1 := z.cell 1 _ rfl; have zf := z.frozen; have HL3 := Lib.hid hl3; have HS3 := Lib.hid hs3; have Hb3 := Lib.hid hb3; clear hl3 hs3 hb3)
    have hzr : w.heap.size + 1 < w2.heap.size := K2.out.lt
    have y2 := (z.setAt 0 (.bool r.more)).setAt 1 (.slice B3 m3 d3)
    have y0 := y2.cell 0 _ rfl
    have y1 := y2.cell 1 _ rfl
    refine bodyPost_ret (v := .tuple #[.slice A3 n3 c3, .agg #[.bool r.more, .slice B3 m3 d3], .int .i64 r.err]) (by simp [results, Try.results45, go_sem, y0, y1]) rfl ?_
    exact ⟨⟨_, _, rfl, Kd.R_lower (R_set_low (R_set_low HL3.out (p := ⟨(w.heap.size + 1), 0, none⟩) hzr _) (p := ⟨(w.heap.size + 1), 1, none⟩) hzr _) HB.out.size, Kd.R_lower (R_set_low (R_set_low HS3.out (p := ⟨(w.heap.size + 1), 0, none⟩) hzr _) (p := ⟨(w.heap.size + 1), 1, none⟩) hzr _) HB.out.size⟩, ((below_step HB.out Hb3.out).setCell (p := ⟨w.heap.size + 1, 0, none⟩) (by simp) _).setCell (p := ⟨w.heap.size + 1, 1, none⟩) (by simp) _⟩
  · generalize ((w.alloc (.cells #[.int .i64 s.at_, .int .i64 s.do_, .int .i64 s.key, .bool true] 66)).alloc (.cells #[.bool false, .slice none 0 0] 39)) = w2 at K1 K2 HB HR ⊢
    have x0 := K1.out.cell 0 _ rfl
    have x3 := K1.out.cell 3 _ rfl
    go_wp2_with (go_at_call 25; (with_reducible refine (PD.out w2 HR.out).mono ?_); rintro e w3 ⟨⟨vl, vs, rfl, hl3, hs3⟩, hb3⟩; obtain ⟨A3, n3, c3, rfl⟩ := R_slice' hl3; obtain ⟨B3, m3, d3, rfl⟩ := R_slice' hs3; have z := K2.out.later hb3; have z0 := z.cell 0 _ rfl; have z1 := z.cell 1 _ rfl; have zf := z.frozen; have HL3 := Lib.hid hl3; have HS3 := Lib.hid hs3; have Hb3 := Lib.hid hb3; clear hl3 hs3 hb3)
    have hzr : w.heap.size + 1 < w2.heap.size := K2.out.lt
    have y2 := (z.setAt 0 (.bool r.more)).setAt 1 (.slice B3 m3 d3)
    have y0 := y2.cell 0 _ rfl
    have y1 := y2.cell 1 _ rfl
    refine bodyPost_ret (v := .tuple #[.slice A3 n3 c3, .agg #[.bool r.more, .slice B3 m3 d3], .int .i64 r.err]) (by simp [results, Try.results45, go_sem, y0, y1]) rfl ?_
    exact ⟨⟨_, _, rfl, Kd.R_lower (R_set_low (R_set_low HL3.out (p := ⟨(w.heap.size + 1), 0, none⟩) hzr _) (p := ⟨(w.heap.size + 1), 1, none⟩) hzr _) HB.out.size, Kd.R_lower (R_set_low (R_set_low HS3.out (p := ⟨(w.heap.size + 1), 0, none⟩) hzr _) (p := ⟨(w.heap.size + 1), 1, none⟩) hzr _) HB.out.size⟩, ((below_step HB.out Hb3.out).setCell (p := ⟨w.heap.size + 1, 0, none⟩) (by simp) _).setCell (p := ⟨w.heap.size + 1, 1, none⟩) (by simp) _⟩
end Go.Proofs.Ytemkloildadokaa
set_option linter.unusedVariables false
set_option linter.unusedSimpArgs false
/-! What wants to be, walked. (Printed by gen_piqwant.py.) -/
namespace Go.Proofs.Ytemkloildadokaa
open Go.RowKit Go.Shelf Go.Proofs.YtemkloildadokaaW.PrintWords
set_option maxRecDepth 100000 in
set_option maxHeartbeats 16000000 in
theorem want_a1f (A : Option Addr) (c : Nat) (l : List PStep) (s : PStep) (w : World) (hrow : PStepRow w A l.length l) (hc : l.length ≤ c) (hs : l.length * 24 ≤ 140737488351232) (x : PStep) (hx : l[placeE s.at_ l]? = some x) (hxt : x.at_ = s.at_) :
    Calls Try.prog 44 #[.slice A l.length c, .agg #[.int .i64 s.at_, .int .i64 s.do_, .int .i64 s.key, .bool false]] w (WantPost w ⟨[], s, placeE s.at_ l, false⟩) := by
  have hmx : l.length ≤ 9223372036854775807 := hrow.2.1
  obtain ⟨k1, k2, hB⟩ := two_new w ((w.alloc (.cells #[.int .i64 s.at_, .int .i64 s.do_, .int .i64 s.key, .bool false] 66)).alloc (.cells #[.int .i64 0, .int .i64 0, .int .i64 0] 36)) _ _ _ _ (by simpa using Below.refl _ _)
  have K1 := Lib.hid k1
  have K2 := Lib.hid k2
  have HB := Lib.hid hB
  have HR := Lib.hid (Kd.C_below hrow hB)
  have Hlo := Lib.hid (fun k a (h : k < placeE s.at_ l) (hg : l[k]? = some a) => place_lo h hg)
  have hpl := place_le2 (t := s.at_) l
  obtain ⟨p, hpe⟩ : ∃ p, p = placeE s.at_ l := ⟨_, rfl⟩
  rw [← hpe] at Hlo hpl hx ⊢
  have Hx := Lib.hid hx
  have hpn : p < l.length := (List.getElem?_eq_some_iff.1 hx).1
  have hge : s.at_ ≤ x.at_ := place_hi (by rw [← hpe]; exact hx)
  have hte : (x.at_ == s.at_) = true := by simpa using hxt
  clear hx hxt
  have Hpe := Lib.hid hpe
  clear hpe k1 k2 hB hrow
  go_enter Try.func44, Try.ntmps44
  go_upto_region 1 with fail
  generalize ((w.alloc (.cells #[.int .i64 s.at_, .int .i64 s.do_, .int .i64 s.key, .bool false] 66)).alloc (.cells #[.int .i64 0, .int .i64 0, .int .i64 0] 36)) = w2 at K1 K2 HB HR ⊢
  go_wp2
  go_loopw [8] (fun i wr => ∃ k : Nat, k ≤ p ∧ i = .int .i64 k ∧ Below w2.heap.size w2 wr) (fun i _ => l.length - (intOf i).toNat)
  case atStart => exact ⟨0, Nat.zero_le _, rfl, Below.refl _ _⟩
  case round =>
    obtain ⟨k, hk, rfl, hB⟩ := hrel
    have HBr := Lib.hid hB
    clear hB
    by_cases hlt : k < p
    · obtain ⟨y, ad, hd, htk, hget, rfl, e0, e1, e2⟩ := pstep_at (Kd.C_below HR.out HBr.out) k (by omega)
      have hyl := Hlo.out k y hlt hget
      have E0 := Lib.hid e0
      have hkI : (k : Int) < (l.length : Int) := by omega
      have hkN : k < l.length := by omega
      clear hd htk hget e0 e1 e2
      go_upto_region 2 with fail
      refine wp_region_flow [.free 0, .free 1, .free 2, .free 3, .free 4, .free 5, .free 6, .free 7, .free 8, .calm 9, .free 10, .free 11, .calm 12, .free 13, .free 14] (Below wr.heap.size wr) (Below wr.heap.size wr) (stable_below _ _ (Nat.le_refl _)) (fun _ h => h) (by kernel_rfl) (by kernel_rfl) (below_drew1 (Below.refl _ _)) ?_
      simp only [pickEnts, pickF, List.getElem?_cons_succ, List.getElem?_cons_zero, List.filterMap_cons, List.filterMap_nil, Option.map_some]
      repeat ((first | refine flow_calm (fun K hK => ?_) | refine flow_free (fun K hK => ?_) | refine float_calm (fun K hK => ?_) | refine float_free (fun K hK => ?_)); go_simp; first | (refine hK _ ?_; clear hK K) | (apply Exists.intro; (refine ⟨fun X => ?_, hK _ ?_⟩); (first | (intro hC; rfl) | rfl | (intro hC; have x0 := cell_keep hC.out E0.out; have y := K1.out.later (below_step HBr.out hC.out); have y0 := y.cell 0 _ rfl; go_simp; done) | (intro hC; have x0 := cell_keep hC.out E0.out; have y := K1.out.later (below_step HBr.out hC.out); have y0 := y.cell 0 _ rfl; go_simp; rfl)); clear hK K))
      refine flow_nil ?_
      intro Y hC
      have HY := Lib.hid (below_step HBr.out hC.out)
      clear hC
      go_wp2
      exact ⟨⟨k + 1, by omega, by go_num, HY.out⟩, by simp [intOf]; omega⟩
    · obtain rfl : k = p := by omega
      clear hlt hk
      obtain ⟨y, ad, hd, htk, hget, rfl, e0, e1, e2⟩ := pstep_at (Kd.C_below HR.out HBr.out) k hpn
      obtain rfl : x = y := by have := Hx.out; rw [hget] at this; cases this; rfl
      have E0 := Lib.hid e0
      have E1 := Lib.hid e1
      have E2 := Lib.hid e2
      have hge' : ¬ x.at_ < s.at_ := by omega
      have hkI : (k : Int) < (l.length : Int) := by omega
      clear hd htk hget e0 e1 e2
      go_upto_region 2 with fail
      refine wp_region_flow [.free 0, .free 1, .free 2, .free 3, .free 4, .free 5, .free 6, .free 7, .free 8, .calm 9, .free 10, .free 11, .calm 12, .free 13, .free 14] (Below wr.heap.size wr) (Below wr.heap.size wr) (stable_below _ _ (Nat.le_refl _)) (fun _ h => h) (by kernel_rfl) (by kernel_rfl) (below_drew1 (Below.refl _ _)) ?_
      simp only [pickEnts, pickF, List.getElem?_cons_succ, List.getElem?_cons_zero, List.filterMap_cons, List.filterMap_nil, Option.map_some]
      repeat ((first | refine flow_calm (fun K hK => ?_) | refine flow_free (fun K hK => ?_) | refine float_calm (fun K hK => ?_) | refine float_free (fun K hK => ?_)); go_simp; first | (refine hK _ ?_; clear hK K) | (apply Exists.intro; (refine ⟨fun X => ?_, hK _ ?_⟩); (first | (intro hC; rfl) | rfl | (intro hC; have x0 := cell_keep hC.out E0.out; have y := K1.out.later (below_step HBr.out hC.out); have y0 := y.cell 0 _ rfl; go_simp; done) | (intro hC; have x0 := cell_keep hC.out E0.out; have y := K1.out.later (below_step HBr.out hC.out); have y0 := y.cell 0 _ rfl; go_simp; rfl)); clear hK K))
      refine flow_nil ?_
      intro Y hC
      have HY := Lib.hid (below_step HBr.out hC.out)
      have F0 := Lib.hid (cell_keep hC.out E0.out)
      have F1 := Lib.hid (cell_keep hC.out E1.out)
      have F2 := Lib.hid (cell_keep hC.out E2.out)
      clear E0 E1 E2 hge'
      clear hC HBr
      go_upto_region 4 with fail
      refine wp_region_flow [.free 0, .free 1, .free 2, .free 3, .free 4, .free 5, .free 6, .free 7, .free 8, .calm 9, .free 10, .free 11, .calm 12, .free 13, .free 14, .free 15] (Below Y.heap.size Y) (Below Y.heap.size Y) (stable_below _ _ (Nat.le_refl _)) (fun _ h => h) (by kernel_rfl) (by kernel_rfl) (below_drew1 (Below.refl _ _)) ?_
      simp only [pickEnts, pickF, List.getElem?_cons_succ, List.getElem?_cons_zero, List.filterMap_cons, List.filterMap_nil, Option.map_some]
      repeat ((first | refine flow_calm (fun K hK => ?_) | refine flow_free (fun K hK => ?_) | refine float_calm (fun K hK => ?_) | refine float_free (fun K hK => ?_)); go_simp; first | (refine hK _ ?_; clear hK K) | (apply Exists.intro; (refine ⟨fun X => ?_, hK _ ?_⟩); (first | (intro hC; rfl) | rfl | (intro hC; have x0 := cell_keep hC.out F0.out; have y := K1.out.later (below_step HY.out hC.out); have y0 := y.cell 0 _ rfl; go_simp; done) | (intro hC; have x0 := cell_keep hC.out F0.out; have y := K1.out.later (below_step HY.out hC.out); have y0 := y.cell 0 _ rfl; go_simp; rfl)); clear hK K))
      refine flow_nil ?_
      intro Z hC
      have HZ := Lib.hid (below_step HY.out hC.out)
      have G0 := Lib.hid (cell_keep hC.out F0.out)
      have G1 := Lib.hid (cell_keep hC.out F1.out)
      have G2 := Lib.hid (cell_keep hC.out F2.out)
      clear F0 F1 F2
      clear hC HY
      have z3 := (K1.out.later HZ.out).cell 3 _ rfl
      go_upto_region 6 with fail
      clear z3
      refine wp_region_flow [.free 0, .calm 1, .free 2, .free 3, .fence 4, .free 5, .free 6] (Below Z.heap.size Z) (Below Z.heap.size Z) (stable_below _ _ (Nat.le_refl _)) (fun _ h => h) (by kernel_rfl) (by kernel_rfl) (below_drew1 (Below.refl _ _)) ?_
      simp only [pickEnts, pickF, List.getElem?_cons_succ, List.getElem?_cons_zero, List.filterMap_cons, List.filterMap_nil, Option.map_some]
      repeat ((first | refine flow_calm (fun K hK => ?_) | refine flow_free (fun K hK => ?_) | refine float_calm (fun K hK => ?_) | refine float_free (fun K hK => ?_)); go_simp; first | (refine hK _ ?_; clear hK K) | (apply Exists.intro; (refine ⟨fun X => ?_, hK _ ?_⟩); (first | (intro hC; rfl) | rfl | (intro hC; have y := K1.out.later (below_step HZ.out hC.out); have y0 := y.cell 0 _ rfl; have y1 := y.cell 1 _ rfl; have y2 := y.cell 2 _ rfl; have y3 := y.cell 3 _ rfl; go_simp; done) | (intro hC; have y := K1.out.later (below_step HZ.out hC.out); have y0 := y.cell 0 _ rfl; have y1 := y.cell 1 _ rfl; have y2 := y.cell 2 _ rfl; have y3 := y.cell 3 _ rfl; go_simp; rfl)); clear hK K))
      refine flow_fence rfl (fun X hX K hK => ?_)
      have z2 := K2.out.later (below_step HZ.out hX.out)
      have z0 := z2.cell 0 _ rfl
      have z1 := z2.cell 1 _ rfl
      have z2' := z2.cell 2 _ rfl
      have zf := z2.frozen
      go_simp
      refine hK.out _ _ (fun V => Cells V (w.heap.size + 1) #[.int .i64 s.at_, .int .i64 s.do_, .int .i64 s.key] 36 ∧ Below w.heap.size w V) (fun V => Cells V (w.heap.size + 1) #[.int .i64 s.at_, .int .i64 s.do_, .int .i64 s.key] 36 ∧ Below w.heap.size w V) (fun V V' hV hb => ⟨hV.1.later hb, below_step hV.2 hb⟩) (fun _ h => h) ⟨((z2.setAt 0 (.int .i64 s.at_)).setAt 1 (.int .i64 s.do_)).setAt 2 (.int .i64 s.key), (((below_step HB.out (below_step HZ.out hX.out)).setCell (p := ⟨w.heap.size + 1, 0, none⟩) (by simp) _).setCell (p := ⟨w.heap.size + 1, 1, none⟩) (by simp) _).setCell (p := ⟨w.heap.size + 1, 2, none⟩) (by simp) _⟩ ?_
      clear hK K hX z2 z0 z1 z2' zf
      repeat ((first | refine flow_calm (fun K hK => ?_) | refine flow_free (fun K hK => ?_) | refine float_calm (fun K hK => ?_) | refine float_free (fun K hK => ?_)); go_simp; first | (refine hK _ ?_; clear hK K) | (apply Exists.intro; (refine ⟨fun X => ?_, hK _ ?_⟩); (first | (intro hC; rfl) | rfl | (intro hC; skip; go_simp; done) | (intro hC; skip; go_simp; rfl)); clear hK K))
      refine flow_nil ?_
      intro V hV
      have y0 := hV.out.1.cell 0 _ rfl
      have y1 := hV.out.1.cell 1 _ rfl
      have y2 := hV.out.1.cell 2 _ rfl
      go_wp2
      refine bodyPost_ret (v := .tuple #[.slice none 0 0, .agg #[.int .i64 s.at_, .int .i64 s.do_, .int .i64 s.key], .int .i64 k, .bool false]) (by simp [results, Try.results44, go_sem, y0, y1, y2]) rfl ?_
      exact ⟨_, rfl, Kd.R_nil _ _ _ _ _, hV.out.2⟩
set_option maxRecDepth 100000 in
set_option maxHeartbeats 16000000 in
theorem want_a0t (A : Option Addr) (c : Nat) (l : List PStep) (s : PStep) (w : World) (hrow : PStepRow w A l.length l) (hc : l.length ≤ c) (hs : l.length * 24 ≤ 140737488351232) (x : PStep) (hx : l[placeE s.at_ l]? = some x) (hxt : x.at_ ≠ s.at_) :
    Calls Try.prog 44 #[.slice A l.length c, .agg #[.int .i64 s.at_, .int .i64 s.do_, .int .i64 s.key, .bool true]] w (WantPost w ⟨[], s, placeE s.at_ l, false⟩) := by
  have hmx : l.length ≤ 9223372036854775807 := hrow.2.1
  obtain ⟨k1, k2, hB⟩ := two_new w ((w.alloc (.cells #[.int .i64 s.at_, .int .i64 s.do_, .int .i64 s.key, .bool true] 66)).alloc (.cells #[.int .i64 0, .int .i64 0, .int .i64 0] 36)) _ _ _ _ (by simpa using Below.refl _ _)
  have K1 := Lib.hid k1
  have K2 := Lib.hid k2
  have HB := Lib.hid hB
  have HR := Lib.hid (Kd.C_below hrow hB)
  have Hlo := Lib.hid (fun k a (h : k < placeE s.at_ l) (hg : l[k]? = some a) => place_lo h hg)
  have hpl := place_le2 (t := s.at_) l
  obtain ⟨p, hpe⟩ : ∃ p, p = placeE s.at_ l := ⟨_, rfl⟩
  rw [← hpe] at Hlo hpl hx ⊢
  have Hx := Lib.hid hx
  have hpn : p < l.length := (List.getElem?_eq_some_iff.1 hx).1
  have hge : s.at_ ≤ x.at_ := place_hi (by rw [← hpe]; exact hx)
  have hte : (x.at_ == s.at_) = false := by simpa using hxt
  clear hx hxt
  have Hpe := Lib.hid hpe
  clear hpe k1 k2 hB hrow
  go_enter Try.func44, Try.ntmps44
  go_upto_region 1 with fail
  generalize ((w.alloc (.cells #[.int .i64 s.at_, .int .i64 s.do_, .int .i64 s.key, .bool true] 66)).alloc (.cells #[.int .i64 0, .int .i64 0, .int .i64 0] 36)) = w2 at K1 K2 HB HR ⊢
  go_wp2
  go_loopw [8] (fun i wr => ∃ k : Nat, k ≤ p ∧ i = .int .i64 k ∧ Below w2.heap.size w2 wr) (fun i _ => l.length - (intOf i).toNat)
  case atStart => exact ⟨0, Nat.zero_le _, rfl, Below.refl _ _⟩
  case round =>
    obtain ⟨k, hk, rfl, hB⟩ := hrel
    have HBr := Lib.hid hB
    clear hB
    by_cases hlt : k < p
    · obtain ⟨y, ad, hd, htk, hget, rfl, e0, e1, e2⟩ := pstep_at (Kd.C_below HR.out HBr.out) k (by omega)
      have hyl := Hlo.out k y hlt hget
      have E0 := Lib.hid e0
      have hkI : (k : Int) < (l.length : Int) := by omega
      have hkN : k < l.length := by omega
      clear hd htk hget e0 e1 e2
      go_upto_region 2 with fail
      refine wp_region_flow [.free 0, .free 1, .free 2, .free 3, .free 4, .free 5, .free 6, .free 7, .free 8, .calm 9, .free 10, .free 11, .calm 12, .free 13, .free 14] (Below wr.heap.size wr) (Below wr.heap.size wr) (stable_below _ _ (Nat.le_refl _)) (fun _ h => h) (by kernel_rfl) (by kernel_rfl) (below_drew1 (Below.refl _ _)) ?_
      simp only [pickEnts, pickF, List.getElem?_cons_succ, List.getElem?_cons_zero, List.filterMap_cons, List.filterMap_nil, Option.map_some]
      repeat ((first | refine flow_calm (fun K hK => ?_) | refine flow_free (fun K hK => ?_) | refine float_calm (fun K hK => ?_) | refine float_free (fun K hK => ?_)); go_simp; first | (refine hK _ ?_; clear hK K) | (apply Exists.intro; (refine ⟨fun X => ?_, hK _ ?_⟩); (first | (intro hC; rfl) | rfl | (intro hC; have x0 := cell_keep hC.out E0.out; have y := K1.out.later (below_step HBr.out hC.out); have y0 := y.cell 0 _ rfl; go_simp; done) | (intro hC; have x0 := cell_keep hC.out E0.out; have y := K1.out.later (below_step HBr.out hC.out); have y0 := y.cell 0 _ rfl; go_simp; rfl)); clear hK K))
      refine flow_nil ?_
      intro Y hC
      have HY := Lib.hid (below_step HBr.out hC.out)
      clear hC
      go_wp2
      exact ⟨⟨k + 1, by omega, by go_num, HY.out⟩, by simp [intOf]; omega⟩
    · obtain rfl : k = p := by omega
      clear hlt hk
      obtain ⟨y, ad, hd, htk, hget, rfl, e0, e1, e2⟩ := pstep_at (Kd.C_below HR.out HBr.out) k hpn
      obtain rfl : x = y := by have := Hx.out; rw [hget] at this; cases this; rfl
      have E0 := Lib.hid e0
      have E1 := Lib.hid e1
      have E2 := Lib.hid e2
      have hge' : ¬ x.at_ < s.at_ := by omega
      have hkI : (k : Int) < (l.length : Int) := by omega
      clear hd htk hget e0 e1 e2
      go_upto_region 2 with fail
      refine wp_region_flow [.free 0, .free 1, .free 2, .free 3, .free 4, .free 5, .free 6, .free 7, .free 8, .calm 9, .free 10, .free 11, .calm 12, .free 13, .free 14] (Below wr.heap.size wr) (Below wr.heap.size wr) (stable_below _ _ (Nat.le_refl _)) (fun _ h => h) (by kernel_rfl) (by kernel_rfl) (below_drew1 (Below.refl _ _)) ?_
      simp only [pickEnts, pickF, List.getElem?_cons_succ, List.getElem?_cons_zero, List.filterMap_cons, List.filterMap_nil, Option.map_some]
      repeat ((first | refine flow_calm (fun K hK => ?_) | refine flow_free (fun K hK => ?_) | refine float_calm (fun K hK => ?_) | refine float_free (fun K hK => ?_)); go_simp; first | (refine hK _ ?_; clear hK K) | (apply Exists.intro; (refine ⟨fun X => ?_, hK _ ?_⟩); (first | (intro hC; rfl) | rfl | (intro hC; have x0 := cell_keep hC.out E0.out; have y := K1.out.later (below_step HBr.out hC.out); have y0 := y.cell 0 _ rfl; go_simp; done) | (intro hC; have x0 := cell_keep hC.out E0.out; have y := K1.out.later (below_step HBr.out hC.out); have y0 := y.cell 0 _ rfl; go_simp; rfl)); clear hK K))
      refine flow_nil ?_
      intro Y hC
      have HY := Lib.hid (below_step HBr.out hC.out)
      have F0 := Lib.hid (cell_keep hC.out E0.out)
      have F1 := Lib.hid (cell_keep hC.out E1.out)
      have F2 := Lib.hid (cell_keep hC.out E2.out)
      clear E0 E1 E2 hge'
      clear hC HBr
      go_upto_region 4 with fail
      refine wp_region_flow [.free 0, .free 1, .free 2, .free 3, .free 4, .free 5, .free 6, .free 7, .free 8, .calm 9, .free 10, .free 11, .calm 12, .free 13, .free 14, .free 15] (Below Y.heap.size Y) (Below Y.heap.size Y) (stable_below _ _ (Nat.le_refl _)) (fun _ h => h) (by kernel_rfl) (by kernel_rfl) (below_drew1 (Below.refl _ _)) ?_
      simp only [pickEnts, pickF, List.getElem?_cons_succ, List.getElem?_cons_zero, List.filterMap_cons, List.filterMap_nil, Option.map_some]
      repeat ((first | refine flow_calm (fun K hK => ?_) | refine flow_free (fun K hK => ?_) | refine float_calm (fun K hK => ?_) | refine float_free (fun K hK => ?_)); go_simp; first | (refine hK _ ?_; clear hK K) | (apply Exists.intro; (refine ⟨fun X => ?_, hK _ ?_⟩); (first | (intro hC; rfl) | rfl | (intro hC; have x0 := cell_keep hC.out F0.out; have y := K1.out.later (below_step HY.out hC.out); have y0 := y.cell 0 _ rfl; go_simp; done) | (intro hC; have x0 := cell_keep hC.out F0.out; have y := K1.out.later (below_step HY.out hC.out); have y0 := y.cell 0 _ rfl; go_simp; rfl)); clear hK K))
      refine flow_nil ?_
      intro Z hC
      have HZ := Lib.hid (below_step HY.out hC.out)
      have G0 := Lib.hid (cell_keep hC.out F0.out)
      have G1 := Lib.hid (cell_keep hC.out F1.out)
      have G2 := Lib.hid (cell_keep hC.out F2.out)
      clear F0 F1 F2
      clear hC HY
      have z3 := (K1.out.later HZ.out).cell 3 _ rfl
      go_upto_region 6 with fail
      clear z3
      refine wp_region_flow [.free 0, .calm 1, .free 2, .free 3, .fence 4, .free 5, .free 6] (Below Z.heap.size Z) (Below Z.heap.size Z) (stable_below _ _ (Nat.le_refl _)) (fun _ h => h) (by kernel_rfl) (by kernel_rfl) (below_drew1 (Below.refl _ _)) ?_
      simp only [pickEnts, pickF, List.getElem?_cons_succ, List.getElem?_cons_zero, List.filterMap_cons, List.filterMap_nil, Option.map_some]
      repeat ((first | refine flow_calm (fun K hK => ?_) | refine flow_free (fun K hK => ?_) | refine float_calm (fun K hK => ?_) | refine float_free (fun K hK => ?_)); go_simp; first | (refine hK _ ?_; clear hK K) | (apply Exists.intro; (refine ⟨fun X => ?_, hK _ ?_⟩); (first | (intro hC; rfl) | rfl | (intro hC; have y := K1.out.later (below_step HZ.out hC.out); have y0 := y.cell 0 _ rfl; have y1 := y.cell 1 _ rfl; have y2 := y.cell 2 _ rfl; have y3 := y.cell 3 _ rfl; go_simp; done) | (intro hC; have y := K1.out.later (below_step HZ.out hC.out); have y0 := y.cell 0 _ rfl; have y1 := y.cell 1 _ rfl; have y2 := y.cell 2 _ rfl; have y3 := y.cell 3 _ rfl; go_simp; rfl)); clear hK K))
      refine flow_fence rfl (fun X hX K hK => ?_)
      have z2 := K2.out.later (below_step HZ.out hX.out)
      have z0 := z2.cell 0 _ rfl
      have z1 := z2.cell 1 _ rfl
      have z2' := z2.cell 2 _ rfl
      have zf := z2.frozen
      go_simp
      refine hK.out _ _ (fun V => Cells V (w.heap.size + 1) #[.int .i64 s.at_, .int .i64 s.do_, .int .i64 s.key] 36 ∧ Below w.heap.size w V) (fun V => Cells V (w.heap.size + 1) #[.int .i64 s.at_, .int .i64 s.do_, .int .i64 s.key] 36 ∧ Below w.heap.size w V) (fun V V' hV hb => ⟨hV.1.later hb, below_step hV.2 hb⟩) (fun _ h => h) ⟨((z2.setAt 0 (.int .i64 s.at_)).setAt 1 (.int .i64 s.do_)).setAt 2 (.int .i64 s.key), (((below_step HB.out (below_step HZ.out hX.out)).setCell (p := ⟨w.heap.size + 1, 0, none⟩) (by simp) _).setCell (p := ⟨w.heap.size + 1, 1, none⟩) (by simp) _).setCell (p := ⟨w.heap.size + 1, 2, none⟩) (by simp) _⟩ ?_
      clear hK K hX z2 z0 z1 z2' zf
      repeat ((first | refine flow_calm (fun K hK => ?_) | refine flow_free (fun K hK => ?_) | refine float_calm (fun K hK => ?_) | refine float_free (fun K hK => ?_)); go_simp; first | (refine hK _ ?_; clear hK K) | (apply Exists.intro; (refine ⟨fun X => ?_, hK _ ?_⟩); (first | (intro hC; rfl) | rfl | (intro hC; skip; go_simp; done) | (intro hC; skip; go_simp; rfl)); clear hK K))
      refine flow_nil ?_
      intro V hV
      have y0 := hV.out.1.cell 0 _ rfl
      have y1 := hV.out.1.cell 1 _ rfl
      have y2 := hV.out.1.cell 2 _ rfl
      go_wp2
      refine bodyPost_ret (v := .tuple #[.slice none 0 0, .agg #[.int .i64 s.at_, .int .i64 s.do_, .int .i64 s.key], .int .i64 k, .bool false]) (by simp [results, Try.results44, go_sem, y0, y1, y2]) rfl ?_
      exact ⟨_, rfl, Kd.R_nil _ _ _ _ _, hV.out.2⟩
set_option maxRecDepth 100000 in
set_option maxHeartbeats 16000000 in
theorem want_a0f (A : Option Addr) (c : Nat) (l : List PStep) (s : PStep) (w : World) (hrow : PStepRow w A l.length l) (hc : l.length ≤ c) (hs : l.length * 24 ≤ 140737488351232) (x : PStep) (hx : l[placeE s.at_ l]? = some x) (hxt : x.at_ ≠ s.at_) (h60 : 60 ≤ l.length) :
    Calls Try.prog 44 #[.slice A l.length c, .agg #[.int .i64 s.at_, .int .i64 s.do_, .int .i64 s.key, .bool false]] w (WantPost w ⟨[], s, placeE s.at_ l, false⟩) := by
  have hmx : l.length ≤ 9223372036854775807 := hrow.2.1
  obtain ⟨k1, k2, hB⟩ := two_new w ((w.alloc (.cells #[.int .i64 s.at_, .int .i64 s.do_, .int .i64 s.key, .bool false] 66)).alloc (.cells #[.int .i64 0, .int .i64 0, .int .i64 0] 36)) _ _ _ _ (by simpa using Below.refl _ _)
  have K1 := Lib.hid k1
  have K2 := Lib.hid k2
  have HB := Lib.hid hB
  have HR := Lib.hid (Kd.C_below hrow hB)
  have Hlo := Lib.hid (fun k a (h : k < placeE s.at_ l) (hg : l[k]? = some a) => place_lo h hg)
  have hpl := place_le2 (t := s.at_) l
  obtain ⟨p, hpe⟩ : ∃ p, p = placeE s.at_ l := ⟨_, rfl⟩
  rw [← hpe] at Hlo hpl hx ⊢
  have Hx := Lib.hid hx
  have hpn : p < l.length := (List.getElem?_eq_some_iff.1 hx).1
  have hge : s.at_ ≤ x.at_ := place_hi (by rw [← hpe]; exact hx)
  have hte : (x.at_ == s.at_) = false := by simpa using hxt
  clear hx hxt
  have Hpe := Lib.hid hpe
  clear hpe k1 k2 hB hrow
  go_enter Try.func44, Try.ntmps44
  go_upto_region 1 with fail
  generalize ((w.alloc (.cells #[.int .i64 s.at_, .int .i64 s.do_, .int .i64 s.key, .bool false] 66)).alloc (.cells #[.int .i64 0, .int .i64 0, .int .i64 0] 36)) = w2 at K1 K2 HB HR ⊢
  go_wp2
  go_loopw [8] (fun i wr => ∃ k : Nat, k ≤ p ∧ i = .int .i64 k ∧ Below w2.heap.size w2 wr) (fun i _ => l.length - (intOf i).toNat)
  case atStart => exact ⟨0, Nat.zero_le _, rfl, Below.refl _ _⟩
  case round =>
    obtain ⟨k, hk, rfl, hB⟩ := hrel
    have HBr := Lib.hid hB
    clear hB
    by_cases hlt : k < p
    · obtain ⟨y, ad, hd, htk, hget, rfl, e0, e1, e2⟩ := pstep_at (Kd.C_below HR.out HBr.out) k (by omega)
      have hyl := Hlo.out k y hlt hget
      have E0 := Lib.hid e0
      have hkI : (k : Int) < (l.length : Int) := by omega
      have hkN : k < l.length := by omega
      clear hd htk hget e0 e1 e2
      go_upto_region 2 with fail
      refine wp_region_flow [.free 0, .free 1, .free 2, .free 3, .free 4, .free 5, .free 6, .free 7, .free 8, .calm 9, .free 10, .free 11, .calm 12, .free 13, .free 14] (Below wr.heap.size wr) (Below wr.heap.size wr) (stable_below _ _ (Nat.le_refl _)) (fun _ h => h) (by kernel_rfl) (by kernel_rfl) (below_drew1 (Below.refl _ _)) ?_
      simp only [pickEnts, pickF, List.getElem?_cons_succ, List.getElem?_cons_zero, List.filterMap_cons, List.filterMap_nil, Option.map_some]
      repeat ((first | refine flow_calm (fun K hK => ?_) | refine flow_free (fun K hK => ?_) | refine float_calm (fun K hK => ?_) | refine float_free (fun K hK => ?_)); go_simp; first | (refine hK _ ?_; clear hK K) | (apply Exists.intro; (refine ⟨fun X => ?_, hK _ ?_⟩); (first | (intro hC; rfl) | rfl | (intro hC; have x0 := cell_keep hC.out E0.out; have y := K1.out.later (below_step HBr.out hC.out); have y0 := y.cell 0 _ rfl; go_simp; done) | (intro hC; have x0 := cell_keep hC.out E0.out; have y := K1.out.later (below_step HBr.out hC.out); have y0 := y.cell 0 _ rfl; go_simp; rfl)); clear hK K))
      refine flow_nil ?_
      intro Y hC
      have HY := Lib.hid (below_step HBr.out hC.out)
      clear hC
      go_wp2
      exact ⟨⟨k + 1, by omega, by go_num, HY.out⟩, by simp [intOf]; omega⟩
    · obtain rfl : k = p := by omega
      clear hlt hk
      obtain ⟨y, ad, hd, htk, hget, rfl, e0, e1, e2⟩ := pstep_at (Kd.C_below HR.out HBr.out) k hpn
      obtain rfl : x = y := by have := Hx.out; rw [hget] at this; cases this; rfl
      have E0 := Lib.hid e0
      have E1 := Lib.hid e1
      have E2 := Lib.hid e2
      have hge' : ¬ x.at_ < s.at_ := by omega
      have hkI : (k : Int) < (l.length : Int) := by omega
      clear hd htk hget e0 e1 e2
      go_upto_region 2 with fail
      refine wp_region_flow [.free 0, .free 1, .free 2, .free 3, .free 4, .free 5, .free 6, .free 7, .free 8, .calm 9, .free 10, .free 11, .calm 12, .free 13, .free 14] (Below wr.heap.size wr) (Below wr.heap.size wr) (stable_below _ _ (Nat.le_refl _)) (fun _ h => h) (by kernel_rfl) (by kernel_rfl) (below_drew1 (Below.refl _ _)) ?_
      simp only [pickEnts, pickF, List.getElem?_cons_succ, List.getElem?_cons_zero, List.filterMap_cons, List.filterMap_nil, Option.map_some]
      repeat ((first | refine flow_calm (fun K hK => ?_) | refine flow_free (fun K hK => ?_) | refine float_calm (fun K hK => ?_) | refine float_free (fun K hK => ?_)); go_simp; first | (refine hK _ ?_; clear hK K) | (apply Exists.intro; (refine ⟨fun X => ?_, hK _ ?_⟩); (first | (intro hC; rfl) | rfl | (intro hC; have x0 := cell_keep hC.out E0.out; have y := K1.out.later (below_step HBr.out hC.out); have y0 := y.cell 0 _ rfl; go_simp; done) | (intro hC; have x0 := cell_keep hC.out E0.out; have y := K1.out.later (below_step HBr.out hC.out); have y0 := y.cell 0 _ rfl; go_simp; rfl)); clear hK K))
      refine flow_nil ?_
      intro Y hC
      have HY := Lib.hid (below_step HBr.out hC.out)
      have F0 := Lib.hid (cell_keep hC.out E0.out)
      have F1 := Lib.hid (cell_keep hC.out E1.out)
      have F2 := Lib.hid (cell_keep hC.out E2.out)
      clear E0 E1 E2 hge'
      clear hC HBr
      go_upto_region 4 with fail
      refine wp_region_flow [.free 0, .free 1, .free 2, .free 3, .free 4, .free 5, .free 6, .free 7, .free 8, .calm 9, .free 10, .free 11, .calm 12, .free 13, .free 14, .free 15] (Below Y.heap.size Y) (Below Y.heap.size Y) (stable_below _ _ (Nat.le_refl _)) (fun _ h => h) (by kernel_rfl) (by kernel_rfl) (below_drew1 (Below.refl _ _)) ?_
      simp only [pickEnts, pickF, List.getElem?_cons_succ, List.getElem?_cons_zero, List.filterMap_cons, List.filterMap_nil, Option.map_some]
      repeat ((first | refine flow_calm (fun K hK => ?_) | refine flow_free (fun K hK => ?_) | refine float_calm (fun K hK => ?_) | refine float_free (fun K hK => ?_)); go_simp; first | (refine hK _ ?_; clear hK K) | (apply Exists.intro; (refine ⟨fun X => ?_, hK _ ?_⟩); (first | (intro hC; rfl) | rfl | (intro hC; have x0 := cell_keep hC.out F0.out; have y := K1.out.later (below_step HY.out hC.out); have y0 := y.cell 0 _ rfl; go_simp; done) | (intro hC; have x0 := cell_keep hC.out F0.out; have y := K1.out.later (below_step HY.out hC.out); have y0 := y.cell 0 _ rfl; go_simp; rfl)); clear hK K))
      refine flow_nil ?_
      intro Z hC
      have HZ := Lib.hid (below_step HY.out hC.out)
      have G0 := Lib.hid (cell_keep hC.out F0.out)
      have G1 := Lib.hid (cell_keep hC.out F1.out)
      have G2 := Lib.hid (cell_keep hC.out F2.out)
      clear F0 F1 F2
      clear hC HY
      have z3 := (K1.out.later HZ.out).cell 3 _ rfl
      have h60I : (60 : Int) ≤ (l.length : Int) := by omega
      go_upto_region 6 with fail
      clear z3
      refine wp_region_flow [.free 0, .calm 1, .free 2, .free 3, .fence 4, .free 5, .free 6] (Below Z.heap.size Z) (Below Z.heap.size Z) (stable_below _ _ (Nat.le_refl _)) (fun _ h => h) (by kernel_rfl) (by kernel_rfl) (below_drew1 (Below.refl _ _)) ?_
      simp only [pickEnts, pickF, List.getElem?_cons_succ, List.getElem?_cons_zero, List.filterMap_cons, List.filterMap_nil, Option.map_some]
      repeat ((first | refine flow_calm (fun K hK => ?_) | refine flow_free (fun K hK => ?_) | refine float_calm (fun K hK => ?_) | refine float_free (fun K hK => ?_)); go_simp; first | (refine hK _ ?_; clear hK K) | (apply Exists.intro; (refine ⟨fun X => ?_, hK _ ?_⟩); (first | (intro hC; rfl) | rfl | (intro hC; have y := K1.out.later (below_step HZ.out hC.out); have y0 := y.cell 0 _ rfl; have y1 := y.cell 1 _ rfl; have y2 := y.cell 2 _ rfl; have y3 := y.cell 3 _ rfl; go_simp; done) | (intro hC; have y := K1.out.later (below_step HZ.out hC.out); have y0 := y.cell 0 _ rfl; have y1 := y.cell 1 _ rfl; have y2 := y.cell 2 _ rfl; have y3 := y.cell 3 _ rfl; go_simp; rfl)); clear hK K))
      refine flow_fence rfl (fun X hX K hK => ?_)
      have z2 := K2.out.later (below_step HZ.out hX.out)
      have z0 := z2.cell 0 _ rfl
      have z1 := z2.cell 1 _ rfl
      have z2' := z2.cell 2 _ rfl
      have zf := z2.frozen
      go_simp
      refine hK.out _ _ (fun V => Cells V (w.heap.size + 1) #[.int .i64 s.at_, .int .i64 s.do_, .int .i64 s.key] 36 ∧ Below w.heap.size w V) (fun V => Cells V (w.heap.size + 1) #[.int .i64 s.at_, .int .i64 s.do_, .int .i64 s.key] 36 ∧ Below w.heap.size w V) (fun V V' hV hb => ⟨hV.1.later hb, below_step hV.2 hb⟩) (fun _ h => h) ⟨((z2.setAt 0 (.int .i64 s.at_)).setAt 1 (.int .i64 s.do_)).setAt 2 (.int .i64 s.key), (((below_step HB.out (below_step HZ.out hX.out)).setCell (p := ⟨w.heap.size + 1, 0, none⟩) (by simp) _).setCell (p := ⟨w.heap.size + 1, 1, none⟩) (by simp) _).setCell (p := ⟨w.heap.size + 1, 2, none⟩) (by simp) _⟩ ?_
      clear hK K hX z2 z0 z1 z2' zf
      repeat ((first | refine flow_calm (fun K hK => ?_) | refine flow_free (fun K hK => ?_) | refine float_calm (fun K hK => ?_) | refine float_free (fun K hK => ?_)); go_simp; first | (refine hK _ ?_; clear hK K) | (apply Exists.intro; (refine ⟨fun X => ?_, hK _ ?_⟩); (first | (intro hC; rfl) | rfl | (intro hC; skip; go_simp; done) | (intro hC; skip; go_simp; rfl)); clear hK K))
      refine flow_nil ?_
      intro V hV
      have y0 := hV.out.1.cell 0 _ rfl
      have y1 := hV.out.1.cell 1 _ rfl
      have y2 := hV.out.1.cell 2 _ rfl
      go_wp2
      refine bodyPost_ret (v := .tuple #[.slice none 0 0, .agg #[.int .i64 s.at_, .int .i64 s.do_, .int .i64 s.key], .int .i64 k, .bool false]) (by simp [results, Try.results44, go_sem, y0, y1, y2]) rfl ?_
      exact ⟨_, rfl, Kd.R_nil _ _ _ _ _, hV.out.2⟩
set_option maxRecDepth 100000 in
set_option maxHeartbeats 16000000 in
theorem want_a1t (A : Option Addr) (c : Nat) (l : List PStep) (s : PStep) (w : World) (hrow : PStepRow w A l.length l) (hc : l.length ≤ c) (hs : l.length * 24 ≤ 140737488351232) (x : PStep) (hx : l[placeE s.at_ l]? = some x) (hxt : x.at_ = s.at_) :
    Calls Try.prog 44 #[.slice A l.length c, .agg #[.int .i64 s.at_, .int .i64 s.do_, .int .i64 s.key, .bool true]] w (WantPost w ⟨withoutE l (placeE s.at_ l), x, placeE s.at_ l, true⟩) := by
  have hmx : l.length ≤ 9223372036854775807 := hrow.2.1
  obtain ⟨k1, k2, hB⟩ := two_new w ((w.alloc (.cells #[.int .i64 s.at_, .int .i64 s.do_, .int .i64 s.key, .bool true] 66)).alloc (.cells #[.int .i64 0, .int .i64 0, .int .i64 0] 36)) _ _ _ _ (by simpa using Below.refl _ _)
  have K1 := Lib.hid k1
  have K2 := Lib.hid k2
  have HB := Lib.hid hB
  have HR := Lib.hid (Kd.C_below hrow hB)
  have Hlo := Lib.hid (fun k a (h : k < placeE s.at_ l) (hg : l[k]? = some a) => place_lo h hg)
  have hpl := place_le2 (t := s.at_) l
  obtain ⟨p, hpe⟩ : ∃ p, p = placeE s.at_ l := ⟨_, rfl⟩
  rw [← hpe] at Hlo hpl hx ⊢
  have Hx := Lib.hid hx
  have hpn : p < l.length := (List.getElem?_eq_some_iff.1 hx).1
  have hge : s.at_ ≤ x.at_ := place_hi (by rw [← hpe]; exact hx)
  have hte : (x.at_ == s.at_) = true := by simpa using hxt
  clear hx hxt
  have Hpe := Lib.hid hpe
  clear hpe k1 k2 hB hrow
  go_enter Try.func44, Try.ntmps44
  go_upto_region 1 with fail
  generalize ((w.alloc (.cells #[.int .i64 s.at_, .int .i64 s.do_, .int .i64 s.key, .bool true] 66)).alloc (.cells #[.int .i64 0, .int .i64 0, .int .i64 0] 36)) = w2 at K1 K2 HB HR ⊢
  go_wp2
  go_loopw [8] (fun i wr => ∃ k : Nat, k ≤ p ∧ i = .int .i64 k ∧ Below w2.heap.size w2 wr) (fun i _ => l.length - (intOf i).toNat)
  case atStart => exact ⟨0, Nat.zero_le _, rfl, Below.refl _ _⟩
  case round =>
    obtain ⟨k, hk, rfl, hB⟩ := hrel
    have HBr := Lib.hid hB
    clear hB
    by_cases hlt : k < p
    · obtain ⟨y, ad, hd, htk, hget, rfl, e0, e1, e2⟩ := pstep_at (Kd.C_below HR.out HBr.out) k (by omega)
      have hyl := Hlo.out k y hlt hget
      have E0 := Lib.hid e0
      have hkI : (k : Int) < (l.length : Int) := by omega
      have hkN : k < l.length := by omega
      clear hd htk hget e0 e1 e2
      go_upto_region 2 with fail
      refine wp_region_flow [.free 0, .free 1, .free 2, .free 3, .free 4, .free 5, .free 6, .free 7, .free 8, .calm 9, .free 10, .free 11, .calm 12, .free 13, .free 14] (Below wr.heap.size wr) (Below wr.heap.size wr) (stable_below _ _ (Nat.le_refl _)) (fun _ h => h) (by kernel_rfl) (by kernel_rfl) (below_drew1 (Below.refl _ _)) ?_
      simp only [pickEnts, pickF, List.getElem?_cons_succ, List.getElem?_cons_zero, List.filterMap_cons, List.filterMap_nil, Option.map_some]
      repeat ((first | refine flow_calm (fun K hK => ?_) | refine flow_free (fun K hK => ?_) | refine float_calm (fun K hK => ?_) | refine float_free (fun K hK => ?_)); go_simp; first | (refine hK _ ?_; clear hK K) | (apply Exists.intro; (refine ⟨fun X => ?_, hK _ ?_⟩); (first | (intro hC; rfl) | rfl | (intro hC; have x0 := cell_keep hC.out E0.out; have y := K1.out.later (below_step HBr.out hC.out); have y0 := y.cell 0 _ rfl; go_simp; done) | (intro hC; have x0 := cell_keep hC.out E0.out; have y := K1.out.later (below_step HBr.out hC.out); have y0 := y.cell 0 _ rfl; go_simp; rfl)); clear hK K))
      refine flow_nil ?_
      intro Y hC
      have HY := Lib.hid (below_step HBr.out hC.out)
      clear hC
      go_wp2
      exact ⟨⟨k + 1, by omega, by go_num, HY.out⟩, by simp [intOf]; omega⟩
    · obtain rfl : k = p := by omega
      clear hlt hk
      obtain ⟨y, ad, hd, htk, hget, rfl, e0, e1, e2⟩ := pstep_at (Kd.C_below HR.out HBr.out) k hpn
      obtain rfl : x = y := by have := Hx.out; rw [hget] at this; cases this; rfl
      have E0 := Lib.hid e0
      have E1 := Lib.hid e1
      have E2 := Lib.hid e2
      have hge' : ¬ x.at_ < s.at_ := by omega
      have hkI : (k : Int) < (l.length : Int) := by omega
      clear hd htk hget e0 e1 e2
      go_upto_region 2 with fail
      refine wp_region_flow [.free 0, .free 1, .free 2, .free 3, .free 4, .free 5, .free 6, .free 7, .free 8, .calm 9, .free 10, .free 11, .calm 12, .free 13, .free 14] (Below wr.heap.size wr) (Below wr.heap.size wr) (stable_below _ _ (Nat.le_refl _)) (fun _ h => h) (by kernel_rfl) (by kernel_rfl) (below_drew1 (Below.refl _ _)) ?_
      simp only [pickEnts, pickF, List.getElem?_cons_succ, List.getElem?_cons_zero, List.filterMap_cons, List.filterMap_nil, Option.map_some]
      repeat ((first | refine flow_calm (fun K hK => ?_) | refine flow_free (fun K hK => ?_) | refine float_calm (fun K hK => ?_) | refine float_free (fun K hK => ?_)); go_simp; first | (refine hK _ ?_; clear hK K) | (apply Exists.intro; (refine ⟨fun X => ?_, hK _ ?_⟩); (first | (intro hC; rfl) | rfl | (intro hC; have x0 := cell_keep hC.out E0.out; have y := K1.out.later (below_step HBr.out hC.out); have y0 := y.cell 0 _ rfl; go_simp; done) | (intro hC; have x0 := cell_keep hC.out E0.out; have y := K1.out.later (below_step HBr.out hC.out); have y0 := y.cell 0 _ rfl; go_simp; rfl)); clear hK K))
      refine flow_nil ?_
      intro Y hC
      have HY := Lib.hid (below_step HBr.out hC.out)
      have F0 := Lib.hid (cell_keep hC.out E0.out)
      have F1 := Lib.hid (cell_keep hC.out E1.out)
      have F2 := Lib.hid (cell_keep hC.out E2.out)
      clear E0 E1 E2 hge'
      clear hC HBr
      go_upto_region 4 with fail
      refine wp_region_flow [.free 0, .free 1, .free 2, .free 3, .free 4, .free 5, .free 6, .free 7, .free 8, .calm 9, .free 10, .free 11, .calm 12, .free 13, .free 14, .free 15] (Below Y.heap.size Y) (Below Y.heap.size Y) (stable_below _ _ (Nat.le_refl _)) (fun _ h => h) (by kernel_rfl) (by kernel_rfl) (below_drew1 (Below.refl _ _)) ?_
      simp only [pickEnts, pickF, List.getElem?_cons_succ, List.getElem?_cons_zero, List.filterMap_cons, List.filterMap_nil, Option.map_some]
      repeat ((first | refine flow_calm (fun K hK => ?_) | refine flow_free (fun K hK => ?_) | refine float_calm (fun K hK => ?_) | refine float_free (fun K hK => ?_)); go_simp; first | (refine hK _ ?_; clear hK K) | (apply Exists.intro; (refine ⟨fun X => ?_, hK _ ?_⟩); (first | (intro hC; rfl) | rfl | (intro hC; have x0 := cell_keep hC.out F0.out; have y := K1.out.later (below_step HY.out hC.out); have y0 := y.cell 0 _ rfl; go_simp; done) | (intro hC; have x0 := cell_keep hC.out F0.out; have y := K1.out.later (below_step HY.out hC.out); have y0 := y.cell 0 _ rfl; go_simp; rfl)); clear hK K))
      refine flow_nil ?_
      intro Z hC
      have HZ := Lib.hid (below_step HY.out hC.out)
      have G0 := Lib.hid (cell_keep hC.out F0.out)
      have G1 := Lib.hid (cell_keep hC.out F1.out)
      have G2 := Lib.hid (cell_keep hC.out F2.out)
      clear F0 F1 F2
      clear hC HY
      have z3 := (K1.out.later HZ.out).cell 3 _ rfl
      go_upto_region 8 with fail
      clear z3
      have HRz := Lib.hid (Kd.C_below HR.out HZ.out)
      refine wp_region_flow [.free 0, .free 1, .free 3, .free 4, .free 5, .calm 6, .free 7, .group [2], .free 8, .fence 9, .free 10, .free 11] (Below Z.heap.size Z) (Below Z.heap.size Z) (stable_below _ _ (Nat.le_refl _)) (fun _ h => h) (by kernel_rfl) (by kernel_rfl) (below_drew1 (Below.refl _ _)) ?_
      simp only [pickEnts, pickF, List.getElem?_cons_succ, List.getElem?_cons_zero, List.filterMap_cons, List.filterMap_nil, Option.map_some]
      repeat ((first | refine flow_calm (fun K hK => ?_) | refine flow_free (fun K hK => ?_) | refine float_calm (fun K hK => ?_) | refine float_free (fun K hK => ?_)); go_simp; first | (refine hK _ ?_; clear hK K) | (apply Exists.intro; (refine ⟨fun X => ?_, hK _ ?_⟩); (first | (intro hC; rfl) | rfl | (intro hC; have x0 := cell_keep hC.out G0.out; have x1 := cell_keep hC.out G1.out; have x2 := cell_keep hC.out G2.out; go_simp; done) | (intro hC; have x0 := cell_keep hC.out G0.out; have x1 := cell_keep hC.out G1.out; have x2 := cell_keep hC.out G2.out; go_simp; rfl)); clear hK K))
      refine flow_one (fun v X => Own kPStep 36 X Z.heap.size v (withoutE l k)) (fun _ _ _ h hb => Kd.R_below h hb) ⟨rfl, fun X hX => ?_⟩ (fun v X0 hX0 hV0 => ?_)
      · go_simp
        refine ⟨Below.refl _ _, ?_⟩
        (with_reducible refine (r_WithoutL (some ad) l.length c l k X rfl (Kd.C_below HRz.out hX.out) hc hs hpn).mono ?_)
        rintro e w' ⟨v, rfl, ho, hb⟩
        exact ⟨v, rfl, hb, Kd.R_lower ho hX.out.size⟩
      obtain ⟨A3, n3, c3, rfl⟩ := R_slice' hV0
      clear hX0 hV0
      repeat ((first | refine flow_calm (fun K hK => ?_) | refine flow_free (fun K hK => ?_) | refine float_calm (fun K hK => ?_) | refine float_free (fun K hK => ?_)); go_simp; first | (refine hK _ ?_; clear hK K) | (apply Exists.intro; (refine ⟨fun X => ?_, hK _ ?_⟩); (first | (intro hC; rfl) | rfl | (intro hC; skip; go_simp; done) | (intro hC; skip; go_simp; rfl)); clear hK K))
      refine flow_fence rfl (fun X hX K hK => ?_)
      have hzr : w.heap.size + 1 < Z.heap.size := (K2.out.later HZ.out).lt
      have z2 := K2.out.later (below_step HZ.out hX.out.1)
      have z0 := z2.cell 0 _ rfl
      have z1 := z2.cell 1 _ rfl
      have z2' := z2.cell 2 _ rfl
      have zf := z2.frozen
      go_simp
      refine hK.out _ _ (fun V => Cells V (w.heap.size + 1) #[.int .i64 x.at_, .int .i64 x.do_, .int .i64 x.key] 36 ∧ Below w.heap.size w V ∧ Own kPStep 36 V Z.heap.size (.slice A3 n3 c3) (withoutE l k)) (fun V => Cells V (w.heap.size + 1) #[.int .i64 x.at_, .int .i64 x.do_, .int .i64 x.key] 36 ∧ Below w.heap.size w V ∧ Own kPStep 36 V Z.heap.size (.slice A3 n3 c3) (withoutE l k)) (fun V V' hV hb => ⟨hV.1.later hb, below_step hV.2.1 hb, Kd.R_below hV.2.2 hb⟩) (fun _ h => h) ⟨((z2.setAt 0 (.int .i64 x.at_)).setAt 1 (.int .i64 x.do_)).setAt 2 (.int .i64 x.key), (((below_step HB.out (below_step HZ.out hX.out.1)).setCell (p := ⟨w.heap.size + 1, 0, none⟩) (by simp) _).setCell (p := ⟨w.heap.size + 1, 1, none⟩) (by simp) _).setCell (p := ⟨w.heap.size + 1, 2, none⟩) (by simp) _, R_set_low (R_set_low (R_set_low hX.out.2 (p := ⟨(w.heap.size + 1), 0, none⟩) hzr _) (p := ⟨(w.heap.size + 1), 1, none⟩) hzr _) (p := ⟨(w.heap.size + 1), 2, none⟩) hzr _⟩ ?_
      clear hK K hX z2 z0 z1 z2' zf
      repeat ((first | refine flow_calm (fun K hK => ?_) | refine flow_free (fun K hK => ?_) | refine float_calm (fun K hK => ?_) | refine float_free (fun K hK => ?_)); go_simp; first | (refine hK _ ?_; clear hK K) | (apply Exists.intro; (refine ⟨fun X => ?_, hK _ ?_⟩); (first | (intro hC; rfl) | rfl | (intro hC; skip; go_simp; done) | (intro hC; skip; go_simp; rfl)); clear hK K))
      refine flow_nil ?_
      intro V hV
      have y0 := hV.out.1.cell 0 _ rfl
      have y1 := hV.out.1.cell 1 _ rfl
      have y2 := hV.out.1.cell 2 _ rfl
      go_wp2
      refine bodyPost_ret (v := .tuple #[.slice A3 n3 c3, .agg #[.int .i64 x.at_, .int .i64 x.do_, .int .i64 x.key], .int .i64 k, .bool true]) (by simp [results, Try.results44, go_sem, y0, y1, y2]) rfl ?_
      exact ⟨_, rfl, Kd.R_lower hV.out.2.2 (Nat.le_trans HB.out.size HZ.out.size), hV.out.2.1⟩
end Go.Proofs.Ytemkloildadokaa
set_option linter.unusedVariables false
set_option linter.unusedSimpArgs false
/-! What wants to be, walked. (Printed by gen_piqwant.py.) -/
namespace Go.Proofs.Ytemkloildadokaa
open Go.RowKit Go.Shelf Go.Proofs.YtemkloildadokaaW.PrintWords
set_option maxRecDepth 100000 in
set_option maxHeartbeats 16000000 in
theorem want_a0p (A : Option Addr) (c : Nat) (l : List PStep) (s : PStep) (w : World) (hrow : PStepRow w A l.length l) (hc : l.length ≤ c) (hs : l.length * 24 ≤ 140737488351232) (x : PStep) (hx : l[placeE s.at_ l]? = some x) (hxt : x.at_ ≠ s.at_) (h60 : l.length < 60) :
    Calls Try.prog 44 #[.slice A l.length c, .agg #[.int .i64 s.at_, .int .i64 s.do_, .int .i64 s.key, .bool false]] w (WantPost w ⟨withR l s, s, placeE s.at_ l, pstepB s⟩) := by
  have hmx : l.length ≤ 9223372036854775807 := hrow.2.1
  obtain ⟨k1, k2, hB⟩ := two_new w ((w.alloc (.cells #[.int .i64 s.at_, .int .i64 s.do_, .int .i64 s.key, .bool false] 66)).alloc (.cells #[.int .i64 0, .int .i64 0, .int .i64 0] 36)) _ _ _ _ (by simpa using Below.refl _ _)
  have K1 := Lib.hid k1
  have K2 := Lib.hid k2
  have HB := Lib.hid hB
  have HR := Lib.hid (Kd.C_below hrow hB)
  have Hlo := Lib.hid (fun k a (h : k < placeE s.at_ l) (hg : l[k]? = some a) => place_lo h hg)
  have hpl := place_le2 (t := s.at_) l
  obtain ⟨p, hpe⟩ : ∃ p, p = placeE s.at_ l := ⟨_, rfl⟩
  rw [← hpe] at Hlo hpl hx ⊢
  have Hx := Lib.hid hx
  have hpn : p < l.length := (List.getElem?_eq_some_iff.1 hx).1
  have hge : s.at_ ≤ x.at_ := place_hi (by rw [← hpe]; exact hx)
  have hte : (x.at_ == s.at_) = false := by simpa using hxt
  clear hx hxt
  have Hpe := Lib.hid hpe
  clear hpe k1 k2 hB hrow
  go_enter Try.func44, Try.ntmps44
  go_upto_region 1 with fail
  generalize ((w.alloc (.cells #[.int .i64 s.at_, .int .i64 s.do_, .int .i64 s.key, .bool false] 66)).alloc (.cells #[.int .i64 0, .int .i64 0, .int .i64 0] 36)) = w2 at K1 K2 HB HR ⊢
  go_wp2
  go_loopw [8] (fun i wr => ∃ k : Nat, k ≤ p ∧ i = .int .i64 k ∧ Below w2.heap.size w2 wr) (fun i _ => l.length - (intOf i).toNat)
  case atStart => exact ⟨0, Nat.zero_le _, rfl, Below.refl _ _⟩
  case round =>
    obtain ⟨k, hk, rfl, hB⟩ := hrel
    have HBr := Lib.hid hB
    clear hB
    by_cases hlt : k < p
    · obtain ⟨y, ad, hd, htk, hget, rfl, e0, e1, e2⟩ := pstep_at (Kd.C_below HR.out HBr.out) k (by omega)
      have hyl := Hlo.out k y hlt hget
      have E0 := Lib.hid e0
      have hkI : (k : Int) < (l.length : Int) := by omega
      have hkN : k < l.length := by omega
      clear hd htk hget e0 e1 e2
      go_upto_region 2 with fail
      refine wp_region_flow [.free 0, .free 1, .free 2, .free 3, .free 4, .free 5, .free 6, .free 7, .free 8, .calm 9, .free 10, .free 11, .calm 12, .free 13, .free 14] (Below wr.heap.size wr) (Below wr.heap.size wr) (stable_below _ _ (Nat.le_refl _)) (fun _ h => h) (by kernel_rfl) (by kernel_rfl) (below_drew1 (Below.refl _ _)) ?_
      simp only [pickEnts, pickF, List.getElem?_cons_succ, List.getElem?_cons_zero, List.filterMap_cons, List.filterMap_nil, Option.map_some]
      repeat ((first | refine flow_calm (fun K hK => ?_) | refine flow_free (fun K hK => ?_) | refine float_calm (fun K hK => ?_) | refine float_free (fun K hK => ?_)); go_simp; first | (refine hK _ ?_; clear hK K) | (apply Exists.intro; (refine ⟨fun X => ?_, hK _ ?_⟩); (first | (intro hC; rfl) | rfl | (intro hC; have x0 := cell_keep hC.out E0.out; have y := K1.out.later (below_step HBr.out hC.out); have y0 := y.cell 0 _ rfl; go_simp; done) | (intro hC; have x0 := cell_keep hC.out E0.out; have y := K1.out.later (below_step HBr.out hC.out); have y0 := y.cell 0 _ rfl; go_simp; rfl)); clear hK K))
      refine flow_nil ?_
      intro Y hC
      have HY := Lib.hid (below_step HBr.out hC.out)
      clear hC
      go_wp2
      exact ⟨⟨k + 1, by omega, by go_num, HY.out⟩, by simp [intOf]; omega⟩
    · obtain rfl : k = p := by omega
      clear hlt hk
      obtain ⟨y, ad, hd, htk, hget, rfl, e0, e1, e2⟩ := pstep_at (Kd.C_below HR.out HBr.out) k hpn
      obtain rfl : x = y := by have := Hx.out; rw [hget] at this; cases this; rfl
      have E0 := Lib.hid e0
      have E1 := Lib.hid e1
      have E2 := Lib.hid e2
      have hge' : ¬ x.at_ < s.at_ := by omega
      have hkI : (k : Int) < (l.length : Int) := by omega
      clear hd htk hget e0 e1 e2
      go_upto_region 2 with fail
      refine wp_region_flow [.free 0, .free 1, .free 2, .free 3, .free 4, .free 5, .free 6, .free 7, .free 8, .calm 9, .free 10, .free 11, .calm 12, .free 13, .free 14] (Below wr.heap.size wr) (Below wr.heap.size wr) (stable_below _ _ (Nat.le_refl _)) (fun _ h => h) (by kernel_rfl) (by kernel_rfl) (below_drew1 (Below.refl _ _)) ?_
      simp only [pickEnts, pickF, List.getElem?_cons_succ, List.getElem?_cons_zero, List.filterMap_cons, List.filterMap_nil, Option.map_some]
      repeat ((first | refine flow_calm (fun K hK => ?_) | refine flow_free (fun K hK => ?_) | refine float_calm (fun K hK => ?_) | refine float_free (fun K hK => ?_)); go_simp; first | (refine hK _ ?_; clear hK K) | (apply Exists.intro; (refine ⟨fun X => ?_, hK _ ?_⟩); (first | (intro hC; rfl) | rfl | (intro hC; have x0 := cell_keep hC.out E0.out; have y := K1.out.later (below_step HBr.out hC.out); have y0 := y.cell 0 _ rfl; go_simp; done) | (intro hC; have x0 := cell_keep hC.out E0.out; have y := K1.out.later (below_step HBr.out hC.out); have y0 := y.cell 0 _ rfl; go_simp; rfl)); clear hK K))
      refine flow_nil ?_
      intro Y hC
      have HY := Lib.hid (below_step HBr.out hC.out)
      have F0 := Lib.hid (cell_keep hC.out E0.out)
      have F1 := Lib.hid (cell_keep hC.out E1.out)
      have F2 := Lib.hid (cell_keep hC.out E2.out)
      clear E0 E1 E2 hge'
      clear hC HBr
      go_upto_region 4 with fail
      refine wp_region_flow [.free 0, .free 1, .free 2, .free 3, .free 4, .free 5, .free 6, .free 7, .free 8, .calm 9, .free 10, .free 11, .calm 12, .free 13, .free 14, .free 15] (Below Y.heap.size Y) (Below Y.heap.size Y) (stable_below _ _ (Nat.le_refl _)) (fun _ h => h) (by kernel_rfl) (by kernel_rfl) (below_drew1 (Below.refl _ _)) ?_
      simp only [pickEnts, pickF, List.getElem?_cons_succ, List.getElem?_cons_zero, List.filterMap_cons, List.filterMap_nil, Option.map_some]
      repeat ((first | refine flow_calm (fun K hK => ?_) | refine flow_free (fun K hK => ?_) | refine float_calm (fun K hK => ?_) | refine float_free (fun K hK => ?_)); go_simp; first | (refine hK _ ?_; clear hK K) | (apply Exists.intro; (refine ⟨fun X => ?_, hK _ ?_⟩); (first | (intro hC; rfl) | rfl | (intro hC; have x0 := cell_keep hC.out F0.out; have y := K1.out.later (below_step HY.out hC.out); have y0 := y.cell 0 _ rfl; go_simp; done) | (intro hC; have x0 := cell_keep hC.out F0.out; have y := K1.out.later (below_step HY.out hC.out); have y0 := y.cell 0 _ rfl; go_simp; rfl)); clear hK K))
      refine flow_nil ?_
      intro Z hC
      have HZ := Lib.hid (below_step HY.out hC.out)
      have G0 := Lib.hid (cell_keep hC.out F0.out)
      have G1 := Lib.hid (cell_keep hC.out F1.out)
      have G2 := Lib.hid (cell_keep hC.out F2.out)
      clear F0 F1 F2
      clear hC HY
      have z3 := (K1.out.later HZ.out).cell 3 _ rfl
      have h60I : ¬ (60 : Int) ≤ (l.length : Int) := by omega
      go_upto_region 9 with fail
      clear z3
      have HRz := Lib.hid (Kd.C_below HR.out HZ.out)
      obtain ⟨sb, hsb⟩ : ∃ sb, sb = pstepB s := ⟨_, rfl⟩
      have Hsb := Lib.hid hsb
      rw [← hsb]
      have h1000 : l.length ≤ 1000 := by omega
      clear hsb
      refine wp_region_flow [.free 0, .free 1, .calm 2, .free 4, .calm 5, .free 6, .free 7, .calm 8, .group [3], .calm 9, .free 10, .fence 11, .free 12, .free 13] (Below Z.heap.size Z) (Below Z.heap.size Z) (stable_below _ _ (Nat.le_refl _)) (fun _ h => h) (by kernel_rfl) (by kernel_rfl) (below_drew1 (Below.refl _ _)) ?_
      simp only [pickEnts, pickF, List.getElem?_cons_succ, List.getElem?_cons_zero, List.filterMap_cons, List.filterMap_nil, Option.map_some]
      repeat ((first | refine flow_calm (fun K hK => ?_) | refine flow_free (fun K hK => ?_) | refine float_calm (fun K hK => ?_) | refine float_free (fun K hK => ?_)); go_simp; first | (refine hK _ ?_; clear hK K) | (apply Exists.intro; (refine ⟨fun X => ?_, hK _ ?_⟩); (first | (intro hC; rfl) | rfl | (intro hC; have y := K1.out.later (below_step HZ.out hC.out); have y0 := y.cell 0 _ rfl; have y1 := y.cell 1 _ rfl; have y2 := y.cell 2 _ rfl; have y3 := y.cell 3 _ rfl; go_simp; done) | (intro hC; have y := K1.out.later (below_step HZ.out hC.out); have y0 := y.cell 0 _ rfl; have y1 := y.cell 1 _ rfl; have y2 := y.cell 2 _ rfl; have y3 := y.cell 3 _ rfl; go_simp; rfl)); clear hK K))
      refine flow_one (fun v X => Own kPStep 36 X Z.heap.size v (withR l s)) (fun _ _ _ h hb => Kd.R_below h hb) ⟨rfl, fun X hX => ?_⟩ (fun v X0 hX0 hV0 => ?_)
      · go_simp
        refine ⟨Below.refl _ _, ?_⟩
        (with_reducible refine (r_With (some ad) l.length c l s X rfl (Kd.C_below HRz.out hX.out) hc h1000).mono ?_)
        rintro e w' ⟨v, rfl, ho, hb⟩
        exact ⟨v, rfl, hb, Kd.R_lower ho hX.out.size⟩
      obtain ⟨A3, n3, c3, rfl⟩ := R_slice' hV0
      clear hX0 hV0
      repeat ((first | refine flow_calm (fun K hK => ?_) | refine flow_free (fun K hK => ?_) | refine float_calm (fun K hK => ?_) | refine float_free (fun K hK => ?_)); go_simp; first | (refine hK _ ?_; clear hK K) | (apply Exists.intro; (refine ⟨fun X => ?_, hK _ ?_⟩); (first | (intro hC; rfl) | rfl | (intro hC; skip; go_simp; done) | (intro hC; skip; go_simp; rfl) | (intro hC; (with_reducible refine (r_Step s _).mono ?_); rintro e w' ⟨he, hb⟩; rw [← Hsb.out] at he; exact ⟨he, hb⟩)); clear hK K))
      refine flow_fence rfl (fun X hX K hK => ?_)
      have hzr : w.heap.size + 1 < Z.heap.size := (K2.out.later HZ.out).lt
      have z2 := K2.out.later (below_step HZ.out hX.out.1)
      have z0 := z2.cell 0 _ rfl
      have z1 := z2.cell 1 _ rfl
      have z2' := z2.cell 2 _ rfl
      have zf := z2.frozen
      go_simp
      refine hK.out _ _ (fun V => Cells V (w.heap.size + 1) #[.int .i64 s.at_, .int .i64 s.do_, .int .i64 s.key] 36 ∧ Below w.heap.size w V ∧ Own kPStep 36 V Z.heap.size (.slice A3 n3 c3) (withR l s)) (fun V => Cells V (w.heap.size + 1) #[.int .i64 s.at_, .int .i64 s.do_, .int .i64 s.key] 36 ∧ Below w.heap.size w V ∧ Own kPStep 36 V Z.heap.size (.slice A3 n3 c3) (withR l s)) (fun V V' hV hb => ⟨hV.1.later hb, below_step hV.2.1 hb, Kd.R_below hV.2.2 hb⟩) (fun _ h => h) ⟨((z2.setAt 0 (.int .i64 s.at_)).setAt 1 (.int .i64 s.do_)).setAt 2 (.int .i64 s.key), (((below_step HB.out (below_step HZ.out hX.out.1)).setCell (p := ⟨w.heap.size + 1, 0, none⟩) (by simp) _).setCell (p := ⟨w.heap.size + 1, 1, none⟩) (by simp) _).setCell (p := ⟨w.heap.size + 1, 2, none⟩) (by simp) _, R_set_low (R_set_low (R_set_low hX.out.2 (p := ⟨(w.heap.size + 1), 0, none⟩) hzr _) (p := ⟨(w.heap.size + 1), 1, none⟩) hzr _) (p := ⟨(w.heap.size + 1), 2, none⟩) hzr _⟩ ?_
      clear hK K hX z2 z0 z1 z2' zf
      repeat ((first | refine flow_calm (fun K hK => ?_) | refine flow_free (fun K hK => ?_) | refine float_calm (fun K hK => ?_) | refine float_free (fun K hK => ?_)); go_simp; first | (refine hK _ ?_; clear hK K) | (apply Exists.intro; (refine ⟨fun X => ?_, hK _ ?_⟩); (first | (intro hC; rfl) | rfl | (intro hC; skip; go_simp; done) | (intro hC; skip; go_simp; rfl)); clear hK K))
      refine flow_nil ?_
      intro V hV
      have y0 := hV.out.1.cell 0 _ rfl
      have y1 := hV.out.1.cell 1 _ rfl
      have y2 := hV.out.1.cell 2 _ rfl
      go_wp2
      refine bodyPost_ret (v := .tuple #[.slice A3 n3 c3, .agg #[.int .i64 s.at_, .int .i64 s.do_, .int .i64 s.key], .int .i64 k, .bool sb]) (by simp [results, Try.results44, go_sem, y0, y1, y2]) rfl ?_
      exact ⟨_, by rw [Hsb.out], Kd.R_lower hV.out.2.2 (Nat.le_trans HB.out.size HZ.out.size), hV.out.2.1⟩
set_option maxRecDepth 100000 in
set_option maxHeartbeats 16000000 in
theorem want_bt (A : Option Addr) (c : Nat) (l : List PStep) (s : PStep) (w : World) (hrow : PStepRow w A l.length l) (hc : l.length ≤ c) (hs : l.length * 24 ≤ 140737488351232) (hp : placeE s.at_ l = l.length) :
    Calls Try.prog 44 #[.slice A l.length c, .agg #[.int .i64 s.at_, .int .i64 s.do_, .int .i64 s.key, .bool true]] w (WantPost w ⟨[], s, placeE s.at_ l, false⟩) := by
  have hmx : l.length ≤ 9223372036854775807 := hrow.2.1
  obtain ⟨k1, k2, hB⟩ := two_new w ((w.alloc (.cells #[.int .i64 s.at_, .int .i64 s.do_, .int .i64 s.key, .bool true] 66)).alloc (.cells #[.int .i64 0, .int .i64 0, .int .i64 0] 36)) _ _ _ _ (by simpa using Below.refl _ _)
  have K1 := Lib.hid k1
  have K2 := Lib.hid k2
  have HB := Lib.hid hB
  have HR := Lib.hid (Kd.C_below hrow hB)
  have Hlo := Lib.hid (fun k a (h : k < placeE s.at_ l) (hg : l[k]? = some a) => place_lo h hg)
  have hpl := place_le2 (t := s.at_) l
  obtain ⟨p, hpe⟩ : ∃ p, p = placeE s.at_ l := ⟨_, rfl⟩
  rw [← hpe] at Hlo hpl hp ⊢
  have hpn : ¬ p < l.length := by omega
  have Hp := Lib.hid hp
  clear hp
  have Hpe := Lib.hid hpe
  clear hpe k1 k2 hB hrow
  go_enter Try.func44, Try.ntmps44
  go_upto_region 1 with fail
  generalize ((w.alloc (.cells #[.int .i64 s.at_, .int .i64 s.do_, .int .i64 s.key, .bool true] 66)).alloc (.cells #[.int .i64 0, .int .i64 0, .int .i64 0] 36)) = w2 at K1 K2 HB HR ⊢
  go_wp2
  go_loopw [8] (fun i wr => ∃ k : Nat, k ≤ p ∧ i = .int .i64 k ∧ Below w2.heap.size w2 wr) (fun i _ => l.length - (intOf i).toNat)
  case atStart => exact ⟨0, Nat.zero_le _, rfl, Below.refl _ _⟩
  case round =>
    obtain ⟨k, hk, rfl, hB⟩ := hrel
    have HBr := Lib.hid hB
    clear hB
    by_cases hlt : k < p
    · obtain ⟨y, ad, hd, htk, hget, rfl, e0, e1, e2⟩ := pstep_at (Kd.C_below HR.out HBr.out) k (by omega)
      have hyl := Hlo.out k y hlt hget
      have E0 := Lib.hid e0
      have hkI : (k : Int) < (l.length : Int) := by omega
      have hkN : k < l.length := by omega
      clear hd htk hget e0 e1 e2
      go_upto_region 2 with fail
      refine wp_region_flow [.free 0, .free 1, .free 2, .free 3, .free 4, .free 5, .free 6, .free 7, .free 8, .calm 9, .free 10, .free 11, .calm 12, .free 13, .free 14] (Below wr.heap.size wr) (Below wr.heap.size wr) (stable_below _ _ (Nat.le_refl _)) (fun _ h => h) (by kernel_rfl) (by kernel_rfl) (below_drew1 (Below.refl _ _)) ?_
      simp only [pickEnts, pickF, List.getElem?_cons_succ, List.getElem?_cons_zero, List.filterMap_cons, List.filterMap_nil, Option.map_some]
      repeat ((first | refine flow_calm (fun K hK => ?_) | refine flow_free (fun K hK => ?_) | refine float_calm (fun K hK => ?_) | refine float_free (fun K hK => ?_)); go_simp; first | (refine hK _ ?_; clear hK K) | (apply Exists.intro; (refine ⟨fun X => ?_, hK _ ?_⟩); (first | (intro hC; rfl) | rfl | (intro hC; have x0 := cell_keep hC.out E0.out; have y := K1.out.later (below_step HBr.out hC.out); have y0 := y.cell 0 _ rfl; go_simp; done) | (intro hC; have x0 := cell_keep hC.out E0.out; have y := K1.out.later (below_step HBr.out hC.out); have y0 := y.cell 0 _ rfl; go_simp; rfl)); clear hK K))
      refine flow_nil ?_
      intro Y hC
      have HY := Lib.hid (below_step HBr.out hC.out)
      clear hC
      go_wp2
      exact ⟨⟨k + 1, by omega, by go_num, HY.out⟩, by simp [intOf]; omega⟩
    · obtain rfl : k = p := by omega
      clear hlt hk
      have hkI : ¬ (k : Int) < (l.length : Int) := by have := Hp.out; omega
      go_upto_region 2 with fail
      refine wp_region_flow [.free 0, .free 1, .free 2, .free 3, .free 4, .free 5, .free 6, .free 7, .free 8, .calm 9, .free 10, .free 11, .calm 12, .free 13, .free 14] (Below wr.heap.size wr) (Below wr.heap.size wr) (stable_below _ _ (Nat.le_refl _)) (fun _ h => h) (by kernel_rfl) (by kernel_rfl) (below_drew1 (Below.refl _ _)) ?_
      simp only [pickEnts, pickF, List.getElem?_cons_succ, List.getElem?_cons_zero, List.filterMap_cons, List.filterMap_nil, Option.map_some]
      repeat ((first | refine flow_calm (fun K hK => ?_) | refine flow_free (fun K hK => ?_) | refine float_calm (fun K hK => ?_) | refine float_free (fun K hK => ?_)); go_simp; first | (refine hK _ ?_; clear hK K) | (apply Exists.intro; (refine ⟨fun X => ?_, hK _ ?_⟩); (first | (intro hC; rfl) | rfl | (intro hC; have y := K1.out.later (below_step HBr.out hC.out); have y0 := y.cell 0 _ rfl; go_simp; done) | (intro hC; have y := K1.out.later (below_step HBr.out hC.out); have y0 := y.cell 0 _ rfl; go_simp; rfl)); clear hK K))
      refine flow_nil ?_
      intro Y hC
      have HY := Lib.hid (below_step HBr.out hC.out)
      clear hC HBr
      go_upto_region 4 with fail
      refine wp_region_flow [.free 0, .free 1, .free 2, .free 3, .free 4, .free 5, .free 6, .free 7, .free 8, .calm 9, .free 10, .free 11, .calm 12, .free 13, .free 14, .free 15] (Below Y.heap.size Y) (Below Y.heap.size Y) (stable_below _ _ (Nat.le_refl _)) (fun _ h => h) (by kernel_rfl) (by kernel_rfl) (below_drew1 (Below.refl _ _)) ?_
      simp only [pickEnts, pickF, List.getElem?_cons_succ, List.getElem?_cons_zero, List.filterMap_cons, List.filterMap_nil, Option.map_some]
      repeat ((first | refine flow_calm (fun K hK => ?_) | refine flow_free (fun K hK => ?_) | refine float_calm (fun K hK => ?_) | refine float_free (fun K hK => ?_)); go_simp; first | (refine hK _ ?_; clear hK K) | (apply Exists.intro; (refine ⟨fun X => ?_, hK _ ?_⟩); (first | (intro hC; rfl) | rfl | (intro hC; have y := K1.out.later (below_step HY.out hC.out); have y0 := y.cell 0 _ rfl; go_simp; done) | (intro hC; have y := K1.out.later (below_step HY.out hC.out); have y0 := y.cell 0 _ rfl; go_simp; rfl)); clear hK K))
      refine flow_nil ?_
      intro Z hC
      have HZ := Lib.hid (below_step HY.out hC.out)
      clear hC HY
      have z3 := (K1.out.later HZ.out).cell 3 _ rfl
      go_upto_region 6 with fail
      clear z3
      refine wp_region_flow [.free 0, .calm 1, .free 2, .free 3, .fence 4, .free 5, .free 6] (Below Z.heap.size Z) (Below Z.heap.size Z) (stable_below _ _ (Nat.le_refl _)) (fun _ h => h) (by kernel_rfl) (by kernel_rfl) (below_drew1 (Below.refl _ _)) ?_
      simp only [pickEnts, pickF, List.getElem?_cons_succ, List.getElem?_cons_zero, List.filterMap_cons, List.filterMap_nil, Option.map_some]
      repeat ((first | refine flow_calm (fun K hK => ?_) | refine flow_free (fun K hK => ?_) | refine float_calm (fun K hK => ?_) | refine float_free (fun K hK => ?_)); go_simp; first | (refine hK _ ?_; clear hK K) | (apply Exists.intro; (refine ⟨fun X => ?_, hK _ ?_⟩); (first | (intro hC; rfl) | rfl | (intro hC; have y := K1.out.later (below_step HZ.out hC.out); have y0 := y.cell 0 _ rfl; have y1 := y.cell 1 _ rfl; have y2 := y.cell 2 _ rfl; have y3 := y.cell 3 _ rfl; go_simp; done) | (intro hC; have y := K1.out.later (below_step HZ.out hC.out); have y0 := y.cell 0 _ rfl; have y1 := y.cell 1 _ rfl; have y2 := y.cell 2 _ rfl; have y3 := y.cell 3 _ rfl; go_simp; rfl)); clear hK K))
      refine flow_fence rfl (fun X hX K hK => ?_)
      have z2 := K2.out.later (below_step HZ.out hX.out)
      have z0 := z2.cell 0 _ rfl
      have z1 := z2.cell 1 _ rfl
      have z2' := z2.cell 2 _ rfl
      have zf := z2.frozen
      go_simp
      refine hK.out _ _ (fun V => Cells V (w.heap.size + 1) #[.int .i64 s.at_, .int .i64 s.do_, .int .i64 s.key] 36 ∧ Below w.heap.size w V) (fun V => Cells V (w.heap.size + 1) #[.int .i64 s.at_, .int .i64 s.do_, .int .i64 s.key] 36 ∧ Below w.heap.size w V) (fun V V' hV hb => ⟨hV.1.later hb, below_step hV.2 hb⟩) (fun _ h => h) ⟨((z2.setAt 0 (.int .i64 s.at_)).setAt 1 (.int .i64 s.do_)).setAt 2 (.int .i64 s.key), (((below_step HB.out (below_step HZ.out hX.out)).setCell (p := ⟨w.heap.size + 1, 0, none⟩) (by simp) _).setCell (p := ⟨w.heap.size + 1, 1, none⟩) (by simp) _).setCell (p := ⟨w.heap.size + 1, 2, none⟩) (by simp) _⟩ ?_
      clear hK K hX z2 z0 z1 z2' zf
      repeat ((first | refine flow_calm (fun K hK => ?_) | refine flow_free (fun K hK => ?_) | refine float_calm (fun K hK => ?_) | refine float_free (fun K hK => ?_)); go_simp; first | (refine hK _ ?_; clear hK K) | (apply Exists.intro; (refine ⟨fun X => ?_, hK _ ?_⟩); (first | (intro hC; rfl) | rfl | (intro hC; skip; go_simp; done) | (intro hC; skip; go_simp; rfl)); clear hK K))
      refine flow_nil ?_
      intro V hV
      have y0 := hV.out.1.cell 0 _ rfl
      have y1 := hV.out.1.cell 1 _ rfl
      have y2 := hV.out.1.cell 2 _ rfl
      go_wp2
      refine bodyPost_ret (v := .tuple #[.slice none 0 0, .agg #[.int .i64 s.at_, .int .i64 s.do_, .int .i64 s.key], .int .i64 k, .bool false]) (by simp [results, Try.results44, go_sem, y0, y1, y2]) rfl ?_
      exact ⟨_, rfl, Kd.R_nil _ _ _ _ _, hV.out.2⟩
set_option maxRecDepth 100000 in
set_option maxHeartbeats 16000000 in
theorem want_bf (A : Option Addr) (c : Nat) (l : List PStep) (s : PStep) (w : World) (hrow : PStepRow w A l.length l) (hc : l.length ≤ c) (hs : l.length * 24 ≤ 140737488351232) (hp : placeE s.at_ l = l.length) (h60 : 60 ≤ l.length) :
    Calls Try.prog 44 #[.slice A l.length c, .agg #[.int .i64 s.at_, .int .i64 s.do_, .int .i64 s.key, .bool false]] w (WantPost w ⟨[], s, placeE s.at_ l, false⟩) := by
  have hmx : l.length ≤ 9223372036854775807 := hrow.2.1
  obtain ⟨k1, k2, hB⟩ := two_new w ((w.alloc (.cells #[.int .i64 s.at_, .int .i64 s.do_, .int .i64 s.key, .bool false] 66)).alloc (.cells #[.int .i64 0, .int .i64 0, .int .i64 0] 36)) _ _ _ _ (by simpa using Below.refl _ _)
  have K1 := Lib.hid k1
  have K2 := Lib.hid k2
  have HB := Lib.hid hB
  have HR := Lib.hid (Kd.C_below hrow hB)
  have Hlo := Lib.hid (fun k a (h : k < placeE s.at_ l) (hg : l[k]? = some a) => place_lo h hg)
  have hpl := place_le2 (t := s.at_) l
  obtain ⟨p, hpe⟩ : ∃ p, p = placeE s.at_ l := ⟨_, rfl⟩
  rw [← hpe] at Hlo hpl hp ⊢
  have hpn : ¬ p < l.length := by omega
  have Hp := Lib.hid hp
  clear hp
  have Hpe := Lib.hid hpe
  clear hpe k1 k2 hB hrow
  go_enter Try.func44, Try.ntmps44
  go_upto_region 1 with fail
  generalize ((w.alloc (.cells #[.int .i64 s.at_, .int .i64 s.do_, .int .i64 s.key, .bool false] 66)).alloc (.cells #[.int .i64 0, .int .i64 0, .int .i64 0] 36)) = w2 at K1 K2 HB HR ⊢
  go_wp2
  go_loopw [8] (fun i wr => ∃ k : Nat, k ≤ p ∧ i = .int .i64 k ∧ Below w2.heap.size w2 wr) (fun i _ => l.length - (intOf i).toNat)
  case atStart => exact ⟨0, Nat.zero_le _, rfl, Below.refl _ _⟩
  case round =>
    obtain ⟨k, hk, rfl, hB⟩ := hrel
    have HBr := Lib.hid hB
    clear hB
    by_cases hlt : k < p
    · obtain ⟨y, ad, hd, htk, hget, rfl, e0, e1, e2⟩ := pstep_at (Kd.C_below HR.out HBr.out) k (by omega)
      have hyl := Hlo.out k y hlt hget
      have E0 := Lib.hid e0
      have hkI : (k : Int) < (l.length : Int) := by omega
      have hkN : k < l.length := by omega
      clear hd htk hget e0 e1 e2
      go_upto_region 2 with fail
      refine wp_region_flow [.free 0, .free 1, .free 2, .free 3, .free 4, .free 5, .free 6, .free 7, .free 8, .calm 9, .free 10, .free 11, .calm 12, .free 13, .free 14] (Below wr.heap.size wr) (Below wr.heap.size wr) (stable_below _ _ (Nat.le_refl _)) (fun _ h => h) (by kernel_rfl) (by kernel_rfl) (below_drew1 (Below.refl _ _)) ?_
      simp only [pickEnts, pickF, List.getElem?_cons_succ, List.getElem?_cons_zero, List.filterMap_cons, List.filterMap_nil, Option.map_some]
      repeat ((first | refine flow_calm (fun K hK => ?_) | refine flow_free (fun K hK => ?_) | refine float_calm (fun K hK => ?_) | refine float_free (fun K hK => ?_)); go_simp; first | (refine hK _ ?_; clear hK K) | (apply Exists.intro; (refine ⟨fun X => ?_, hK _ ?_⟩); (first | (intro hC; rfl) | rfl | (intro hC; have x0 := cell_keep hC.out E0.out; have y := K1.out.later (below_step HBr.out hC.out); have y0 := y.cell 0 _ rfl; go_simp; done) | (intro hC; have x0 := cell_keep hC.out E0.out; have y := K1.out.later (below_step HBr.out hC.out); have y0 := y.cell 0 _ rfl; go_simp; rfl)); clear hK K))
      refine flow_nil ?_
      intro Y hC
      have HY := Lib.hid (below_step HBr.out hC.out)
      clear hC
      go_wp2
      exact ⟨⟨k + 1, by omega, by go_num, HY.out⟩, by simp [intOf]; omega⟩
    · obtain rfl : k = p := by omega
      clear hlt hk
      have hkI : ¬ (k : Int) < (l.length : Int) := by have := Hp.out; omega
      go_upto_region 2 with fail
      refine wp_region_flow [.free 0, .free 1, .free 2, .free 3, .free 4, .free 5, .free 6, .free 7, .free 8, .calm 9, .free 10, .free 11, .calm 12, .free 13, .free 14] (Below wr.heap.size wr) (Below wr.heap.size wr) (stable_below _ _ (Nat.le_refl _)) (fun _ h => h) (by kernel_rfl) (by kernel_rfl) (below_drew1 (Below.refl _ _)) ?_
      simp only [pickEnts, pickF, List.getElem?_cons_succ, List.getElem?_cons_zero, List.filterMap_cons, List.filterMap_nil, Option.map_some]
      repeat ((first | refine flow_calm (fun K hK => ?_) | refine flow_free (fun K hK => ?_) | refine float_calm (fun K hK => ?_) | refine float_free (fun K hK => ?_)); go_simp; first | (refine hK _ ?_; clear hK K) | (apply Exists.intro; (refine ⟨fun X => ?_, hK _ ?_⟩); (first | (intro hC; rfl) | rfl | (intro hC; have y := K1.out.later (below_step HBr.out hC.out); have y0 := y.cell 0 _ rfl; go_simp; done) | (intro hC; have y := K1.out.later (below_step HBr.out hC.out); have y0 := y.cell 0 _ rfl; go_simp; rfl)); clear hK K))
      refine flow_nil ?_
      intro Y hC
      have HY := Lib.hid (below_step HBr.out hC.out)
      clear hC HBr
      go_upto_region 4 with fail
      refine wp_region_flow [.free 0, .free 1, .free 2, .free 3, .free 4, .free 5, .free 6, .free 7, .free 8, .calm 9, .free 10, .free 11, .calm 12, .free 13, .free 14, .free 15] (Below Y.heap.size Y) (Below Y.heap.size Y) (stable_below _ _ (Nat.le_refl _)) (fun _ h => h) (by kernel_rfl) (by kernel_rfl) (below_drew1 (Below.refl _ _)) ?_
      simp only [pickEnts, pickF, List.getElem?_cons_succ, List.getElem?_cons_zero, List.filterMap_cons, List.filterMap_nil, Option.map_some]
      repeat ((first | refine flow_calm (fun K hK => ?_) | refine flow_free (fun K hK => ?_) | refine float_calm (fun K hK => ?_) | refine float_free (fun K hK => ?_)); go_simp; first | (refine hK _ ?_; clear hK K) | (apply Exists.intro; (refine ⟨fun X => ?_, hK _ ?_⟩); (first | (intro hC; rfl) | rfl | (intro hC; have y := K1.out.later (below_step HY.out hC.out); have y0 := y.cell 0 _ rfl; go_simp; done) | (intro hC; have y := K1.out.later (below_step HY.out hC.out); have y0 := y.cell 0 _ rfl; go_simp; rfl)); clear hK K))
      refine flow_nil ?_
      intro Z hC
      have HZ := Lib.hid (below_step HY.out hC.out)
      clear hC HY
      have z3 := (K1.out.later HZ.out).cell 3 _ rfl
      have h60I : (60 : Int) ≤ (l.length : Int) := by omega
      go_upto_region 6 with fail
      clear z3
      refine wp_region_flow [.free 0, .calm 1, .free 2, .free 3, .fence 4, .free 5, .free 6] (Below Z.heap.size Z) (Below Z.heap.size Z) (stable_below _ _ (Nat.le_refl _)) (fun _ h => h) (by kernel_rfl) (by kernel_rfl) (below_drew1 (Below.refl _ _)) ?_
      simp only [pickEnts, pickF, List.getElem?_cons_succ, List.getElem?_cons_zero, List.filterMap_cons, List.filterMap_nil, Option.map_some]
      repeat ((first | refine flow_calm (fun K hK => ?_) | refine flow_free (fun K hK => ?_) | refine float_calm (fun K hK => ?_) | refine float_free (fun K hK => ?_)); go_simp; first | (refine hK _ ?_; clear hK K) | (apply Exists.intro; (refine ⟨fun X => ?_, hK _ ?_⟩); (first | (intro hC; rfl) | rfl | (intro hC; have y := K1.out.later (below_step HZ.out hC.out); have y0 := y.cell 0 _ rfl; have y1 := y.cell 1 _ rfl; have y2 := y.cell 2 _ rfl; have y3 := y.cell 3 _ rfl; go_simp; done) | (intro hC; have y := K1.out.later (below_step HZ.out hC.out); have y0 := y.cell 0 _ rfl; have y1 := y.cell 1 _ rfl; have y2 := y.cell 2 _ rfl; have y3 := y.cell 3 _ rfl; go_simp; rfl)); clear hK K))
      refine flow_fence rfl (fun X hX K hK => ?_)
      have z2 := K2.out.later (below_step HZ.out hX.out)
      have z0 := z2.cell 0 _ rfl
      have z1 := z2.cell 1 _ rfl
      have z2' := z2.cell 2 _ rfl
      have zf := z2.frozen
      go_simp
      refine hK.out _ _ (fun V => Cells V (w.heap.size + 1) #[.int .i64 s.at_, .int .i64 s.do_, .int .i64 s.key] 36 ∧ Below w.heap.size w V) (fun V => Cells V (w.heap.size + 1) #[.int .i64 s.at_, .int .i64 s.do_, .int .i64 s.key] 36 ∧ Below w.heap.size w V) (fun V V' hV hb => ⟨hV.1.later hb, below_step hV.2 hb⟩) (fun _ h => h) ⟨((z2.setAt 0 (.int .i64 s.at_)).setAt 1 (.int .i64 s.do_)).setAt 2 (.int .i64 s.key), (((below_step HB.out (below_step HZ.out hX.out)).setCell (p := ⟨w.heap.size + 1, 0, none⟩) (by simp) _).setCell (p := ⟨w.heap.size + 1, 1, none⟩) (by simp) _).setCell (p := ⟨w.heap.size + 1, 2, none⟩) (by simp) _⟩ ?_
      clear hK K hX z2 z0 z1 z2' zf
      repeat ((first | refine flow_calm (fun K hK => ?_) | refine flow_free (fun K hK => ?_) | refine float_calm (fun K hK => ?_) | refine float_free (fun K hK => ?_)); go_simp; first | (refine hK _ ?_; clear hK K) | (apply Exists.intro; (refine ⟨fun X => ?_, hK _ ?_⟩); (first | (intro hC; rfl) | rfl | (intro hC; skip; go_simp; done) | (intro hC; skip; go_simp; rfl)); clear hK K))
      refine flow_nil ?_
      intro V hV
      have y0 := hV.out.1.cell 0 _ rfl
      have y1 := hV.out.1.cell 1 _ rfl
      have y2 := hV.out.1.cell 2 _ rfl
      go_wp2
      refine bodyPost_ret (v := .tuple #[.slice none 0 0, .agg #[.int .i64 s.at_, .int .i64 s.do_, .int .i64 s.key], .int .i64 k, .bool false]) (by simp [results, Try.results44, go_sem, y0, y1, y2]) rfl ?_
      exact ⟨_, rfl, Kd.R_nil _ _ _ _ _, hV.out.2⟩
set_option maxRecDepth 100000 in
set_option maxHeartbeats 16000000 in
theorem want_bp (A : Option Addr) (c : Nat) (l : List PStep) (s : PStep) (w : World) (hrow : PStepRow w A l.length l) (hc : l.length ≤ c) (hs : l.length * 24 ≤ 140737488351232) (hp : placeE s.at_ l = l.length) (h60 : l.length < 60) :
    Calls Try.prog 44 #[.slice A l.length c, .agg #[.int .i64 s.at_, .int .i64 s.do_, .int .i64 s.key, .bool false]] w (WantPost w ⟨withR l s, s, placeE s.at_ l, pstepB s⟩) := by
  have hmx : l.length ≤ 9223372036854775807 := hrow.2.1
  obtain ⟨k1, k2, hB⟩ := two_new w ((w.alloc (.cells #[.int .i64 s.at_, .int .i64 s.do_, .int .i64 s.key, .bool false] 66)).alloc (.cells #[.int .i64 0, .int .i64 0, .int .i64 0] 36)) _ _ _ _ (by simpa using Below.refl _ _)
  have K1 := Lib.hid k1
  have K2 := Lib.hid k2
  have HB := Lib.hid hB
  have HR := Lib.hid (Kd.C_below hrow hB)
  have Hlo := Lib.hid (fun k a (h : k < placeE s.at_ l) (hg : l[k]? = some a) => place_lo h hg)
  have hpl := place_le2 (t := s.at_) l
  obtain ⟨p, hpe⟩ : ∃ p, p = placeE s.at_ l := ⟨_, rfl⟩
  rw [← hpe] at Hlo hpl hp ⊢
  have hpn : ¬ p < l.length := by omega
  have Hp := Lib.hid hp
  clear hp
  have Hpe := Lib.hid hpe
  clear hpe k1 k2 hB hrow
  go_enter Try.func44, Try.ntmps44
  go_upto_region 1 with fail
  generalize ((w.alloc (.cells #[.int .i64 s.at_, .int .i64 s.do_, .int .i64 s.key, .bool false] 66)).alloc (.cells #[.int .i64 0, .int .i64 0, .int .i64 0] 36)) = w2 at K1 K2 HB HR ⊢
  go_wp2
  go_loopw [8] (fun i wr => ∃ k : Nat, k ≤ p ∧ i = .int .i64 k ∧ Below w2.heap.size w2 wr) (fun i _ => l.length - (intOf i).toNat)
  case atStart => exact ⟨0, Nat.zero_le _, rfl, Below.refl _ _⟩
  case round =>
    obtain ⟨k, hk, rfl, hB⟩ := hrel
    have HBr := Lib.hid hB
    clear hB
    by_cases hlt : k < p
    · obtain ⟨y, ad, hd, htk, hget, rfl, e0, e1, e2⟩ := pstep_at (Kd.C_below HR.out HBr.out) k (by omega)
      have hyl := Hlo.out k y hlt hget
      have E0 := Lib.hid e0
      have hkI : (k : Int) < (l.length : Int) := by omega
      have hkN : k < l.length := by omega
      clear hd htk hget e0 e1 e2
      go_upto_region 2 with fail
      refine wp_region_flow [.free 0, .free 1, .free 2, .free 3, .free 4, .free 5, .free 6, .free 7, .free 8, .calm 9, .free 10, .free 11, .calm 12, .free 13, .free 14] (Below wr.heap.size wr) (Below wr.heap.size wr) (stable_below _ _ (Nat.le_refl _)) (fun _ h => h) (by kernel_rfl) (by kernel_rfl) (below_drew1 (Below.refl _ _)) ?_
      simp only [pickEnts, pickF, List.getElem?_cons_succ, List.getElem?_cons_zero, List.filterMap_cons, List.filterMap_nil, Option.map_some]
      repeat ((first | refine flow_calm (fun K hK => ?_) | refine flow_free (fun K hK => ?_) | refine float_calm (fun K hK => ?_) | refine float_free (fun K hK => ?_)); go_simp; first | (refine hK _ ?_; clear hK K) | (apply Exists.intro; (refine ⟨fun X => ?_, hK _ ?_⟩); (first | (intro hC; rfl) | rfl | (intro hC; have x0 := cell_keep hC.out E0.out; have y := K1.out.later (below_step HBr.out hC.out); have y0 := y.cell 0 _ rfl; go_simp; done) | (intro hC; have x0 := cell_keep hC.out E0.out; have y := K1.out.later (below_step HBr.out hC.out); have y0 := y.cell 0 _ rfl; go_simp; rfl)); clear hK K))
      refine flow_nil ?_
      intro Y hC
      have HY := Lib.hid (below_step HBr.out hC.out)
      clear hC
      go_wp2
      exact ⟨⟨k + 1, by omega, by go_num, HY.out⟩, by simp [intOf]; omega⟩
    · obtain rfl : k = p := by omega
      clear hlt hk
      have hkI : ¬ (k : Int) < (l.length : Int) := by have := Hp.out; omega
      go_upto_region 2 with fail
      refine wp_region_flow [.free 0, .free 1, .free 2, .free 3, .free 4, .free 5, .free 6, .free 7, .free 8, .calm 9, .free 10, .free 11, .calm 12, .free 13, .free 14] (Below wr.heap.size wr) (Below wr.heap.size wr) (stable_below _ _ (Nat.le_refl _)) (fun _ h => h) (by kernel_rfl) (by kernel_rfl) (below_drew1 (Below.refl _ _)) ?_
      simp only [pickEnts, pickF, List.getElem?_cons_succ, List.getElem?_cons_zero, List.filterMap_cons, List.filterMap_nil, Option.map_some]
      repeat ((first | refine flow_calm (fun K hK => ?_) | refine flow_free (fun K hK => ?_) | refine float_calm (fun K hK => ?_) | refine float_free (fun K hK => ?_)); go_simp; first | (refine hK _ ?_; clear hK K) | (apply Exists.intro; (refine ⟨fun X => ?_, hK _ ?_⟩); (first | (intro hC; rfl) | rfl | (intro hC; have y := K1.out.later (below_step HBr.out hC.out); have y0 := y.cell 0 _ rfl; go_simp; done) | (intro hC; have y := K1.out.later (below_step HBr.out hC.out); have y0 := y.cell 0 _ rfl; go_simp; rfl)); clear hK K))
      refine flow_nil ?_
      intro Y hC
      have HY := Lib.hid (below_step HBr.out hC.out)
      clear hC HBr
      go_upto_region 4 with fail
      refine wp_region_flow [.free 0, .free 1, .free 2, .free 3, .free 4, .free 5, .free 6, .free 7, .free 8, .calm 9, .free 10, .free 11, .calm 12, .free 13, .free 14, .free 15] (Below Y.heap.size Y) (Below Y.heap.size Y) (stable_below _ _ (Nat.le_refl _)) (fun _ h => h) (by kernel_rfl) (by kernel_rfl) (below_drew1 (Below.refl _ _)) ?_
      simp only [pickEnts, pickF, List.getElem?_cons_succ, List.getElem?_cons_zero, List.filterMap_cons, List.filterMap_nil, Option.map_some]
      repeat ((first | refine flow_calm (fun K hK => ?_) | refine flow_free (fun K hK => ?_) | refine float_calm (fun K hK => ?_) | refine float_free (fun K hK => ?_)); go_simp; first | (refine hK _ ?_; clear hK K) | (apply Exists.intro; (refine ⟨fun X => ?_, hK _ ?_⟩); (first | (intro hC; rfl) | rfl | (intro hC; have y := K1.out.later (below_step HY.out hC.out); have y0 := y.cell 0 _ rfl; go_simp; done) | (intro hC; have y := K1.out.later (below_step HY.out hC.out); have y0 := y.cell 0 _ rfl; go_simp; rfl)); clear hK K))
      refine flow_nil ?_
      intro Z hC
      have HZ := Lib.hid (below_step HY.out hC.out)
      clear hC HY
      have z3 := (K1.out.later HZ.out).cell 3 _ rfl
      have h60I : ¬ (60 : Int) ≤ (l.length : Int) := by omega
      go_upto_region 9 with fail
      clear z3
      have HRz := Lib.hid (Kd.C_below HR.out HZ.out)
      obtain ⟨sb, hsb⟩ : ∃ sb, sb = pstepB s := ⟨_, rfl⟩
      have Hsb := Lib.hid hsb
      rw [← hsb]
      have h1000 : l.length ≤ 1000 := by omega
      clear hsb
      refine wp_region_flow [.free 0, .free 1, .calm 2, .free 4, .calm 5, .free 6, .free 7, .calm 8, .group [3], .calm 9, .free 10, .fence 11, .free 12, .free 13] (Below Z.heap.size Z) (Below Z.heap.size Z) (stable_below _ _ (Nat.le_refl _)) (fun _ h => h) (by kernel_rfl) (by kernel_rfl) (below_drew1 (Below.refl _ _)) ?_
      simp only [pickEnts, pickF, List.getElem?_cons_succ, List.getElem?_cons_zero, List.filterMap_cons, List.filterMap_nil, Option.map_some]
      repeat ((first | refine flow_calm (fun K hK => ?_) | refine flow_free (fun K hK => ?_) | refine float_calm (fun K hK => ?_) | refine float_free (fun K hK => ?_)); go_simp; first | (refine hK _ ?_; clear hK K) | (apply Exists.intro; (refine ⟨fun X => ?_, hK _ ?_⟩); (first | (intro hC; rfl) | rfl | (intro hC; have y := K1.out.later (below_step HZ.out hC.out); have y0 := y.cell 0 _ rfl; have y1 := y.cell 1 _ rfl; have y2 := y.cell 2 _ rfl; have y3 := y.cell 3 _ rfl; go_simp; done) | (intro hC; have y := K1.out.later (below_step HZ.out hC.out); have y0 := y.cell 0 _ rfl; have y1 := y.cell 1 _ rfl; have y2 := y.cell 2 _ rfl; have y3 := y.cell 3 _ rfl; go_simp; rfl)); clear hK K))
      refine flow_one (fun v X => Own kPStep 36 X Z.heap.size v (withR l s)) (fun _ _ _ h hb => Kd.R_below h hb) ⟨rfl, fun X hX => ?_⟩ (fun v X0 hX0 hV0 => ?_)
      · go_simp
        refine ⟨Below.refl _ _, ?_⟩
        (with_reducible refine (r_With A l.length c l s X rfl (Kd.C_below HRz.out hX.out) hc h1000).mono ?_)
        rintro e w' ⟨v, rfl, ho, hb⟩
        exact ⟨v, rfl, hb, Kd.R_lower ho hX.out.size⟩
      obtain ⟨A3, n3, c3, rfl⟩ := R_slice' hV0
      clear hX0 hV0
      repeat ((first | refine flow_calm (fun K hK => ?_) | refine flow_free (fun K hK => ?_) | refine float_calm (fun K hK => ?_) | refine float_free (fun K hK => ?_)); go_simp; first | (refine hK _ ?_; clear hK K) | (apply Exists.intro; (refine ⟨fun X => ?_, hK _ ?_⟩); (first | (intro hC; rfl) | rfl | (intro hC; skip; go_simp; done) | (intro hC; skip; go_simp; rfl) | (intro hC; (with_reducible refine (r_Step s _).mono ?_); rintro e w' ⟨he, hb⟩; rw [← Hsb.out] at he; exact ⟨he, hb⟩)); clear hK K))
      refine flow_fence rfl (fun X hX K hK => ?_)
      have hzr : w.heap.size + 1 < Z.heap.size := (K2.out.later HZ.out).lt
      have z2 := K2.out.later (below_step HZ.out hX.out.1)
      have z0 := z2.cell 0 _ rfl
      have z1 := z2.cell 1 _ rfl
      have z2' := z2.cell 2 _ rfl
      have zf := z2.frozen
      go_simp
      refine hK.out _ _ (fun V => Cells V (w.heap.size + 1) #[.int .i64 s.at_, .int .i64 s.do_, .int .i64 s.key] 36 ∧ Below w.heap.size w V ∧ Own kPStep 36 V Z.heap.size (.slice A3 n3 c3) (withR l s)) (fun V => Cells V (w.heap.size + 1) #[.int .i64 s.at_, .int .i64 s.do_, .int .i64 s.key] 36 ∧ Below w.heap.size w V ∧ Own kPStep 36 V Z.heap.size (.slice A3 n3 c3) (withR l s)) (fun V V' hV hb => ⟨hV.1.later hb, below_step hV.2.1 hb, Kd.R_below hV.2.2 hb⟩) (fun _ h => h) ⟨((z2.setAt 0 (.int .i64 s.at_)).setAt 1 (.int .i64 s.do_)).setAt 2 (.int .i64 s.key), (((below_step HB.out (below_step HZ.out hX.out.1)).setCell (p := ⟨w.heap.size + 1, 0, none⟩) (by simp) _).setCell (p := ⟨w.heap.size + 1, 1, none⟩) (by simp) _).setCell (p := ⟨w.heap.size + 1, 2, none⟩) (by simp) _, R_set_low (R_set_low (R_set_low hX.out.2 (p := ⟨(w.heap.size + 1), 0, none⟩) hzr _) (p := ⟨(w.heap.size + 1), 1, none⟩) hzr _) (p := ⟨(w.heap.size + 1), 2, none⟩) hzr _⟩ ?_
      clear hK K hX z2 z0 z1 z2' zf
      repeat ((first | refine flow_calm (fun K hK => ?_) | refine flow_free (fun K hK => ?_) | refine float_calm (fun K hK => ?_) | refine float_free (fun K hK => ?_)); go_simp; first | (refine hK _ ?_; clear hK K) | (apply Exists.intro; (refine ⟨fun X => ?_, hK _ ?_⟩); (first | (intro hC; rfl) | rfl | (intro hC; skip; go_simp; done) | (intro hC; skip; go_simp; rfl)); clear hK K))
      refine flow_nil ?_
      intro V hV
      have y0 := hV.out.1.cell 0 _ rfl
      have y1 := hV.out.1.cell 1 _ rfl
      have y2 := hV.out.1.cell 2 _ rfl
      go_wp2
      refine bodyPost_ret (v := .tuple #[.slice A3 n3 c3, .agg #[.int .i64 s.at_, .int .i64 s.do_, .int .i64 s.key], .int .i64 k, .bool sb]) (by simp [results, Try.results44, go_sem, y0, y1, y2]) rfl ?_
      exact ⟨_, by rw [Hsb.out], Kd.R_lower hV.out.2.2 (Nat.le_trans HB.out.size HZ.out.size), hV.out.2.1⟩
end Go.Proofs.Ytemkloildadokaa
set_option linter.unusedVariables false
set_option linter.unusedSimpArgs false
/-! What wants to be, walked. (Printed by gen_piqwant.py.) -/
namespace Go.Proofs.Ytemkloildadokaa
open Go.RowKit Go.Shelf Go.Proofs.YtemkloildadokaaW.PrintWords
theorem has_at (l : List PStep) (t : Int) : hasE l t = match l[placeE t l]? with | some s => decide (s.at_ = t) | none => false := rfl
theorem law_want (A : Option Addr) (c : Nat) (l : List PStep) (s : PStep) (drop : Bool) (w : World) (hrow : PStepRow w A l.length l) (hc : l.length ≤ c) (hs : l.length * 24 ≤ 140737488351232) :
    Calls Try.prog 44 #[.slice A l.length c, .agg #[.int .i64 s.at_, .int .i64 s.do_, .int .i64 s.key, .bool drop]] w (WantPost w (wantE l s drop)) := by
  have hh := has_at l s.at_
  unfold wantE
  cases hx : l[placeE s.at_ l]? with
  | none =>
    rw [hx] at hh
    simp only at hh
    have hp : placeE s.at_ l = l.length := Nat.le_antisymm (place_le2 l) (List.getElem?_eq_none_iff.1 hx)
    rw [hh]
    cases drop with
    | true => rw [if_pos (by simp)]; exact want_bt A c l s w hrow hc hs hp
    | false =>
      by_cases h60 : 60 ≤ l.length
      · rw [if_pos (by simp [h60])]; exact want_bf A c l s w hrow hc hs hp h60
      · rw [if_neg (by simp [h60]), if_neg (by simp)]; exact want_bp A c l s w hrow hc hs hp (by omega)
  | some x =>
    rw [hx] at hh
    simp only at hh
    by_cases hxt : x.at_ = s.at_
    · rw [hh, decide_eq_true hxt]
      cases drop with
      | true => rw [if_neg (by simp), if_pos rfl, Option.getD_some]; exact want_a1t A c l s w hrow hc hs x hx hxt
      | false => rw [if_pos (by simp)]; exact want_a1f A c l s w hrow hc hs x hx hxt
    · rw [hh, decide_eq_false hxt]
      cases drop with
      | true => rw [if_pos (by simp)]; exact want_a0t A c l s w hrow hc hs x hx hxt
      | false =>
        by_cases h60 : 60 ≤ l.length
        · rw [if_pos (by simp [h60])]; exact want_a0f A c l s w hrow hc hs x hx hxt h60
        · rw [if_neg (by simp [h60]), if_neg (by simp)]; exact want_a0p A c l s w hrow hc hs x hx hxt (by omega)
end Go.Proofs.Ytemkloildadokaa
set_option linter.unusedVariables false
set_option linter.unusedSimpArgs false
/-! A change that comes in, opened; a short number. -/
namespace Go.Proofs.Ytemkloildadokaa
open Go.RowKit Go.Proofs.YtemkloildadokaaW.PrintWords Go.ChangeShapes Go.WideShapes Go.Deep
section
variable {H : Type} {enc : TypeId × Value → H} {w : World} {base : Nat} {spare : Nat → Bool} {held : Bool}
theorem cells_bool : Try.prog.cellsOf 4 = 1 := by kernel_rfl
theorem cells_change : Try.prog.cellsOf 66 = 4 := by kernel_rfl
set_option maxRecDepth 100000 in
theorem open_change {n : Nat} {cs : List Value} {x : DataW H × List MemPlace} (h : DataW.trod enc Try.prog w base spare held n 66 cs = some x) : ∃ (s : PStep) (b : Bool), cs = [.int .i64 s.at_, .int .i64 s.do_, .int .i64 s.key, .bool b] := by
  obtain ⟨xs, k, _, _, hl, hx, hf⟩ := DataW.trod_struct Try.underlying66 h
  rw [cells_change] at hl
  match xs, hx, cs, hl with
  | [y0, y1], _, [v0, v1, v2, v3], _ =>
    have g0 := hf 0 _ rfl
    have g1 := hf 1 _ rfl
    simp [cells_pstep, cells_bool] at g0 g1
    obtain ⟨s, hs⟩ := open_pstep g0
    obtain ⟨b, hb, _⟩ := DataW.trod_bool Try.underlying4 g1
    refine ⟨s, b, ?_⟩
    simp [pstepCells] at hs hb
    obtain ⟨rfl, rfl, rfl⟩ := hs
    rw [hb]
end
set_option maxRecDepth 100000 in
theorem open_changeval {H : Type} {enc : TypeId × Value → H} {W : World} {base : Nat} {spare : Nat → Bool} {held : Bool} {r : Reach} {b0 : Nat} {v : Value} {d : DataW H} {p : List MemPlace} (hv : Value.okWide Try.prog W r b0 66 v) (h : DataW.Trod enc Try.prog W base spare held 66 v d p) : ∃ (s : PStep) (b : Bool), v = .agg #[.int .i64 s.at_, .int .i64 s.do_, .int .i64 s.key, .bool b] := by
  obtain ⟨cs, rfl, hsz⟩ := okWide_struct Try.underlying66 hv
  obtain ⟨fuel, hf⟩ := h
  obtain ⟨s, b, hn⟩ := open_change hf
  refine ⟨s, b, ?_⟩
  have e : cs.toList = [.int .i64 s.at_, .int .i64 s.do_, .int .i64 s.key, .bool b] := by simpa [Value.cells] using hn
  congr 1
  apply Array.toList_inj.1
  rw [e]
theorem u16_of {x : Int} (h : (Lit.int .u16 x).wf = true) : 0 ≤ x ∧ x ≤ 65535 := by
  simp [Lit.wf] at h
  have e1 : IntKind.u16.min = 0 := by kernel_rfl
  have e2 : IntKind.u16.max = 65535 := by kernel_rfl
  rw [e1, e2] at h
  exact h
end Go.Proofs.Ytemkloildadokaa
