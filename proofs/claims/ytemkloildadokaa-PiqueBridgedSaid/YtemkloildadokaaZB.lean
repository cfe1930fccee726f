/-
  Texts of one hand, laid together: PiqA, PiqB, PiqC, PiqD, PiqE, PiqF, PiqMem, PiqOrd, PiqPile, PiqPush, PiqUp, PiqDown, PiqHeap, PiqDo, PiqSeq, PiqDone, PiqStep, PiqLine, PiqTakes.
-/
import Derived.Test.YtemkloildadokaaZA
set_option linter.unusedVariables false
/-! Lines, elements, walks: what the chapter means. No program in sight. -/
namespace Go.Proofs.Ytemkloildadokaa
/-- api.PiqueStep -/
structure PStep where
  at_ : Int
  do_ : Int
  key : Int
deriving DecidableEq, Inhabited
/-- api.PiqueElem -/
structure PElem where
  key : Int
  from_ : Int
deriving DecidableEq, Inhabited
/-- api.PiqueSpan -/
structure PSpan where
  from_ : Int
  to_ : Int
  elem : PElem
deriving DecidableEq, Inhabited
/-- A step is formed. -/
def pstepB (s : PStep) : Bool := decide (0 ≤ s.at_) && (decide (s.at_ ≤ 1000) && (decide (-1000000000 ≤ s.key) && (decide (s.key ≤ 1000000000) && (s.do_ == 1 || (s.do_ == 2 && s.key == 0)))))
/-- Times increase. -/
def incB : List PStep → Bool
  | [] => true
  | s :: l => (match l with | [] => true | t :: _ => decide (s.at_ < t.at_)) && incB l
def stepsB (l : List PStep) : Bool := l.all pstepB && (incB l && decide (l.length ≤ 60))
/-- An element stands ahead of another one. -/
def eltB (a b : PElem) : Bool := decide (a.key < b.key) || (decide (a.key = b.key) && decide (a.from_ < b.from_))
/-- What is there, with one more in its place. -/
def insE (x : PElem) : List PElem → List PElem
  | [] => [x]
  | y :: l => if eltB y x = true then y :: insE x l else x :: y :: l
/-- What is there behind a step, and what comes or is taken. -/
def nextE (q : List PElem) (s : PStep) : Option (List PElem × PElem) :=
  if s.do_ = 2 then match q with | [] => none | y :: l => some (l, y) else some (insE ⟨s.key, s.at_⟩ q, ⟨s.key, s.at_⟩)
/-- What is there behind steps. -/
def runE : List PElem → List PStep → Option (List PElem)
  | q, [] => some q
  | q, s :: l => match nextE q s with | none => none | some (q', _) => runE q' l
/-- Each step with what comes or is taken, up to the first one that finds nothing. -/
def doneE : List PElem → List PStep → List (PStep × PElem)
  | _, [] => []
  | q, s :: l => match nextE q s with | none => [] | some (q', x) => (s, x) :: doneE q' l
def lineB (l : List PStep) : Bool := stepsB l && (runE [] l).isSome
/-- What is there behind the first steps. -/
def thereE (l : List PStep) (n : Nat) : List PElem := (runE [] (l.take n)).getD []
/-- How many steps have times up to one. -/
def uptoE (t : Int) : List PStep → Nat
  | [] => 0
  | s :: l => if s.at_ ≤ t then uptoE t l + 1 else 0
def atE (l : List PStep) (t : Int) : List PElem := thereE l (uptoE t l)
def outsE (l : List PStep) : List (PStep × PElem) := (doneE [] l).filter fun p => p.1.do_ == 2
def takesE (l : List PStep) : List PElem := (outsE l).map (·.2)
/-- What the step at a time takes. -/
def takenE (l : List PStep) (t : Int) : Option PElem := ((outsE l).find? fun p => p.1.at_ == t).map (·.2)
def bridgeB (l : List PStep) (m : Nat) : Bool := (thereE l m).all fun x => (thereE l l.length).contains x
def bridgesE (l : List PStep) : List Int := ((List.range (l.length + 1)).filter (bridgeB l)).map fun (n : Nat) => (n : Int)
/-- A walk, from step to step. -/
def walkE (a b : Int → Option PElem) (from_ : Int) : List PStep → Int → PElem → List PSpan
  | [], f, x => [⟨f, 1000, x⟩]
  | s :: l, f, x => match a s.at_, b s.at_ with
    | some own, some oth => if from_ < s.at_ ∧ own = x then ⟨f, s.at_ - 1, x⟩ :: walkE a b from_ l s.at_ oth else walkE a b from_ l f x
    | _, _ => walkE a b from_ l f x
def walkedE (more less : List PStep) (from_ : Int) (x : PElem) : List PSpan := walkE (takenE more) (takenE less) from_ more from_ x
/-- Where the first step stands that is not ahead of a time. -/
def placeE (t : Int) : List PStep → Nat
  | [] => 0
  | s :: l => if s.at_ < t then placeE t l + 1 else 0
def hasE (l : List PStep) (t : Int) : Bool := match l[placeE t l]? with | some s => decide (s.at_ = t) | none => false
def withE (l : List PStep) (s : PStep) : List PStep := l.take (placeE s.at_ l) ++ s :: l.drop (placeE s.at_ l)
def withoutE (l : List PStep) (n : Nat) : List PStep := l.take n ++ l.drop (n + 1)
/-- A changed line, whether there is more, the spans, or an error. -/
structure PRes where
  line : List PStep
  more : Bool
  spans : List PSpan
  err : Int
deriving DecidableEq, Inhabited
def noRes (e : Int) : PRes := ⟨[], false, [], e⟩
def insertE (l : List PStep) (s : PStep) : PRes :=
  if lineB l = false ∨ pstepB s = false then noRes 2
  else if hasE l s.at_ = true then noRes 7
  else if l.length = 60 then noRes 3
  else if lineB (withE l s) = false then noRes 7
  else if s.do_ = 1 then ⟨withE l s, true, walkedE (withE l s) l s.at_ ⟨s.key, s.at_⟩, 0⟩
  else ⟨withE l s, false, walkedE l (withE l s) s.at_ ((takenE (withE l s) s.at_).getD ⟨0, 0⟩), 0⟩
def deleteE (l : List PStep) (t : Int) : PRes :=
  if lineB l = false then noRes 2
  else if hasE l t = false then noRes 5
  else if lineB (withoutE l (placeE t l)) = false then noRes 7
  else if (l[placeE t l]?.getD default).do_ = 2 then ⟨withoutE l (placeE t l), true, walkedE (withoutE l (placeE t l)) l t ((takenE l t).getD ⟨0, 0⟩), 0⟩
  else ⟨withoutE l (placeE t l), false, walkedE l (withoutE l (placeE t l)) t ⟨(l[placeE t l]?.getD default).key, t⟩, 0⟩
/-- Steps without those that find nothing, and the times of these. -/
def mendE : List PElem → List PStep → List PStep × List Int
  | _, [] => ([], [])
  | q, s :: l => match nextE q s with
    | none => ((mendE q l).1, s.at_ :: (mendE q l).2)
    | some (q', _) => (s :: (mendE q' l).1, (mendE q' l).2)
end Go.Proofs.Ytemkloildadokaa
set_option linter.unusedVariables false
/-! The order of elements; what is there is in order; a change leaves one element more. No program in sight. -/
namespace Go.Proofs.Ytemkloildadokaa
theorem elt_irrefl (a : PElem) : eltB a a = false := by simp [eltB]
theorem elt_trans {a b c : PElem} (h1 : eltB a b = true) (h2 : eltB b c = true) : eltB a c = true := by
  simp only [eltB, Bool.or_eq_true, Bool.and_eq_true, decide_eq_true_eq] at *
  omega
theorem elt_asymm {a b : PElem} (h : eltB a b = true) : eltB b a = false := by
  simp only [eltB, Bool.or_eq_true, Bool.and_eq_true, decide_eq_true_eq, Bool.or_eq_false_iff, Bool.and_eq_false_iff, decide_eq_false_iff_not] at *
  omega
theorem elt_total {a b : PElem} (h : a ≠ b) (h1 : eltB a b = false) : eltB b a = true := by
  obtain ⟨k, f⟩ := a
  obtain ⟨k', f'⟩ := b
  simp only [eltB, Bool.or_eq_true, Bool.and_eq_true, decide_eq_true_eq, Bool.or_eq_false_iff, Bool.and_eq_false_iff, decide_eq_false_iff_not] at *
  have : ¬ (k = k' ∧ f = f') := fun e => h (by rw [e.1, e.2])
  omega
theorem elt_ne {a b : PElem} (h : eltB a b = true) : a ≠ b := fun e => by rw [e, elt_irrefl] at h; cases h
/-- In order. -/
def SortedE : List PElem → Prop
  | [] => True
  | x :: l => (∀ y ∈ l, eltB x y = true) ∧ SortedE l
theorem SortedE.tail {x : PElem} {l : List PElem} (h : SortedE (x :: l)) : SortedE l := h.2
theorem mem_ins (x z : PElem) : ∀ l : List PElem, z ∈ insE x l ↔ z = x ∨ z ∈ l
  | [] => by simp [insE]
  | y :: l => by
    unfold insE
    split
    · rw [List.mem_cons, mem_ins x z l, List.mem_cons]
      exact ⟨fun h => by rcases h with h | h | h <;> simp [h], fun h => by rcases h with h | h | h <;> simp [h]⟩
    · rw [List.mem_cons]
theorem len_ins (x : PElem) : ∀ l : List PElem, (insE x l).length = l.length + 1
  | [] => rfl
  | y :: l => by
    unfold insE
    split
    · rw [List.length_cons, len_ins x l, List.length_cons]
    · rfl
theorem perm_ins (x : PElem) : ∀ l : List PElem, (insE x l).Perm (x :: l)
  | [] => .refl _
  | y :: l => by
    unfold insE
    split
    · exact ((perm_ins x l).cons y).trans (.swap x y l)
    · exact .refl _
theorem SortedE.ins {x : PElem} : ∀ {l : List PElem}, SortedE l → x ∉ l → SortedE (insE x l)
  | [], _, _ => ⟨fun _ h => (by cases h), trivial⟩
  | y :: l, h, hx => by
    rw [List.mem_cons, not_or] at hx
    unfold insE
    split
    · rename_i e
      exact ⟨fun z hz => by rcases (mem_ins x z l).1 hz with rfl | hz; exact e; exact h.1 z hz, SortedE.ins h.2 hx.2⟩
    · rename_i e
      have hxy : eltB x y = true := elt_total (fun e' => hx.1 e'.symm) (by simpa using e)
      exact ⟨fun z hz => by rcases List.mem_cons.1 hz with rfl | hz; exact hxy; exact elt_trans hxy (h.1 z hz), h⟩
theorem sorted_nodup : ∀ {l : List PElem}, SortedE l → l.Nodup
  | [], _ => .nil
  | x :: l, h => List.nodup_cons.2 ⟨fun hm => elt_ne (h.1 x hm) rfl, sorted_nodup h.2⟩
/-- Sorted rows with the same elements are the same. -/
theorem sorted_perm : ∀ {l m : List PElem}, SortedE l → SortedE m → l.Perm m → l = m
  | [], m, _, _, h => h.symm.eq_nil.symm
  | x :: l, [], _, _, h => (List.cons_ne_nil _ _ h.eq_nil).elim
  | x :: l, y :: m, h1, h2, h => by
    have e : x = y := by
      have hx : x ∈ y :: m := h.subset (by simp)
      have hy : y ∈ x :: l := h.symm.subset (by simp)
      rcases List.mem_cons.1 hx with e | hx
      · exact e
      · rcases List.mem_cons.1 hy with e | hy
        · exact e.symm
        · have a := h1.1 y hy
          have b := elt_asymm (h2.1 x hx)
          rw [a] at b; cases b
    subst e
    rw [sorted_perm h1.2 h2.2 (List.Perm.cons_inv h)]
theorem ins_comm {x y : PElem} {l : List PElem} (hs : SortedE l) (hne : x ≠ y) (hx : x ∉ l) (hy : y ∉ l) : insE x (insE y l) = insE y (insE x l) := by
  refine sorted_perm ((hs.ins hy).ins fun h => ?_) ((hs.ins hx).ins fun h => ?_) ?_
  · rcases (mem_ins y x l).1 h with h | h
    · exact hne h
    · exact hx h
  · rcases (mem_ins x y l).1 h with h | h
    · exact hne h.symm
    · exact hy h
  · exact (perm_ins x _).trans (((perm_ins y l).cons x).trans ((List.Perm.swap y x l).trans (((perm_ins x l).cons y).symm.trans (perm_ins y _).symm)))
theorem ins_head {x : PElem} : ∀ {l : List PElem}, (∀ y ∈ l, eltB x y = true) → insE x l = x :: l
  | [], _ => rfl
  | y :: l, h => by
    unfold insE
    rw [if_neg (by rw [elt_asymm (h y (by simp))]; simp)]
/-- What is there is in order, and came earlier. -/
structure ThereE (t : Int) (q : List PElem) : Prop where
  sorted : SortedE q
  early : ∀ x ∈ q, x.from_ < t
theorem ThereE.nil (t : Int) : ThereE t [] := ⟨trivial, fun _ h => by cases h⟩
theorem ThereE.mono {t u : Int} {q : List PElem} (h : ThereE t q) (hle : t ≤ u) : ThereE u q := ⟨h.sorted, fun x hx => by have := h.early x hx; omega⟩
theorem ThereE.next {t : Int} {q q' : List PElem} {s : PStep} {x : PElem} (h : ThereE t q) (ht : t ≤ s.at_) (hn : nextE q s = some (q', x)) : ThereE (s.at_ + 1) q' := by
  unfold nextE at hn
  split at hn
  · cases q with
    | nil => cases hn
    | cons y l =>
      cases hn
      exact ⟨h.sorted.2, fun z hz => by have := h.early z (List.mem_cons_of_mem _ hz); omega⟩
  · cases hn
    refine ⟨h.sorted.ins fun hm => ?_, fun z hz => ?_⟩
    · have := h.early _ hm; simp at this; omega
    · rcases (mem_ins _ z q).1 hz with rfl | hz
      · simp only; omega
      · have := h.early z hz; omega
/-- One line has one element more than another one. -/
structure OneMore (t : Int) (x : PElem) (M L : List PElem) : Prop where
  less : ThereE t L
  eq : M = insE x L
  new : x ∉ L
  early : x.from_ < t
theorem OneMore.more {t : Int} {x : PElem} {M L : List PElem} (h : OneMore t x M L) : ThereE t M :=
  ⟨by rw [h.eq]; exact h.less.sorted.ins h.new, fun z hz => by
    rw [h.eq] at hz
    rcases (mem_ins x z L).1 hz with rfl | hz
    · exact h.early
    · exact h.less.early z hz⟩
/-- A step of both lines. -/
theorem OneMore.step {t : Int} {x : PElem} {M L L' : List PElem} {s : PStep} {l : PElem} (h : OneMore t x M L) (ht : t ≤ s.at_) (hl : nextE L s = some (L', l)) :
    ∃ M' m x', nextE M s = some (M', m) ∧ OneMore (s.at_ + 1) x' M' L' ∧ (if s.do_ = 2 ∧ m = x then x' = l ∧ eltB x l = true else x' = x) := by
  have hL' := h.less.next ht hl
  by_cases h2 : s.do_ = 2
  · unfold nextE at hl
    rw [if_pos h2] at hl
    cases L with
    | nil => cases hl
    | cons y0 L0 =>
      obtain ⟨rfl, rfl⟩ : L0 = L' ∧ y0 = l := by simpa using hl
      have hyx : y0 ≠ x := fun e => h.new (by rw [e]; simp)
      have hys := h.less.sorted.1
      by_cases hlt : eltB y0 x = true
      · refine ⟨insE x L0, y0, x, ?_, ⟨hL', rfl, fun hm => h.new (List.mem_cons_of_mem _ hm), by have := h.early; omega⟩, ?_⟩
        · rw [h.eq, insE, if_pos hlt, nextE, if_pos h2]
        · rw [if_neg fun hh => hyx hh.2]
      · have hxy : eltB x y0 = true := elt_total hyx (by simpa using hlt)
        refine ⟨y0 :: L0, x, y0, ?_, ⟨hL', ?_, fun hm => elt_ne (hys y0 hm) rfl, by have := h.less.early y0 (by simp); omega⟩, ?_⟩
        · rw [h.eq, insE, if_neg hlt, nextE, if_pos h2]
        · rw [ins_head hys]
        · rw [if_pos ⟨h2, rfl⟩]; exact ⟨rfl, hxy⟩
  · unfold nextE at hl
    rw [if_neg h2] at hl
    cases hl
    have hne : (⟨s.key, s.at_⟩ : PElem) ∉ L := fun hm => by have := h.less.early _ hm; simp at this; omega
    have hxn : x ≠ ⟨s.key, s.at_⟩ := fun e => by have := h.early; rw [e] at this; simp at this; omega
    refine ⟨insE ⟨s.key, s.at_⟩ M, ⟨s.key, s.at_⟩, x, by simp [nextE, h2], ⟨hL', ?_, fun hm => ?_, by have := h.early; omega⟩, by rw [if_neg fun hh => h2 hh.1]⟩
    · rw [h.eq, ins_comm h.less.sorted hxn.symm hne h.new]
    · rcases (mem_ins _ x L).1 hm with e | hm
      · exact hxn e
      · exact h.new hm
end Go.Proofs.Ytemkloildadokaa
set_option linter.unusedVariables false
/-! Walks, time by time, are walks from step to step. No program in sight. -/
namespace Go.Proofs.Ytemkloildadokaa
/-- A line has a step at a time, as the reference asks it. -/
def atB (l : List PStep) (t : Int) : Bool := decide (0 < uptoE t l) && ((l[uptoE t l - 1]?.getD default).at_ == t)
/-- The element that one list has and another one has not. -/
def otherE (more less : List PElem) : PElem := (more.find? fun x => !less.contains x).getD ⟨0, 0⟩
def setTo (out : List PSpan) (t : Int) : List PSpan := out.dropLast ++ (match out.getLast? with | some d => [⟨d.from_, t, d.elem⟩] | none => [])
/-- A time of a walk. -/
def walkStepR (more less : List PStep) (from_ : Int) (out : List PSpan) (t : Int) : List PSpan :=
  if from_ < t ∧ atB more t = false ∧ atB less t = false then setTo out t
  else if (out.getLast?.map (·.elem)) = some (otherE (atE more t) (atE less t)) then setTo out t
  else out ++ [⟨t, t, otherE (atE more t) (atE less t)⟩]
def walkR (more less : List PStep) (from_ : Int) : Nat → List PSpan
  | 0 => []
  | n + 1 => walkStepR more less from_ (walkR more less from_ n) (from_ + n)
theorem inc_cons {s : PStep} {l : List PStep} (h : incB (s :: l) = true) : (∀ x ∈ l, s.at_ < x.at_) ∧ incB l = true := by
  induction l generalizing s with
  | nil => exact ⟨fun _ h => (by cases h), rfl⟩
  | cons u l ih =>
    rw [incB, Bool.and_eq_true] at h
    obtain ⟨h1, h2⟩ := ih h.2
    have h0 : s.at_ < u.at_ := by simpa using h.1
    exact ⟨fun x hx => by rcases List.mem_cons.1 hx with rfl | hx; exact h0; have := h1 x hx; omega, h.2⟩
theorem inc_append : ∀ {l m : List PStep}, incB (l ++ m) = true → incB l = true ∧ incB m = true ∧ ∀ x ∈ l, ∀ y ∈ m, x.at_ < y.at_
  | [], m, h => ⟨rfl, h, fun _ h => by cases h⟩
  | s :: l, m, h => by
    obtain ⟨h1, h2⟩ := inc_cons (l := l ++ m) h
    obtain ⟨a, b, c⟩ := inc_append h2
    refine ⟨?_, b, fun x hx y hy => ?_⟩
    · cases l with
      | nil => rfl
      | cons u l => rw [incB, Bool.and_eq_true]; exact ⟨by simpa using h1 u (by simp), a⟩
    · rcases List.mem_cons.1 hx with rfl | hx
      · exact h1 y (List.mem_append.2 (.inr hy))
      · exact c x hx y hy
theorem inc_join : ∀ {l m : List PStep}, incB l = true → incB m = true → (∀ x ∈ l, ∀ y ∈ m, x.at_ < y.at_) → incB (l ++ m) = true
  | [], m, _, h, _ => h
  | s :: l, m, h1, h2, h3 => by
    obtain ⟨a, b⟩ := inc_cons h1
    have := inc_join b h2 (fun x hx y hy => h3 x (List.mem_cons_of_mem _ hx) y hy)
    rw [List.cons_append]
    unfold incB
    rw [Bool.and_eq_true]
    refine ⟨?_, this⟩
    cases hlm : l ++ m with
    | nil => rfl
    | cons u r =>
      have hu : u ∈ l ++ m := by rw [hlm]; simp
      simp only [decide_eq_true_eq]
      rcases List.mem_append.1 hu with hu | hu
      · exact a u hu
      · exact h3 s (by simp) u hu
theorem upto_all {t : Int} : ∀ {l m : List PStep}, (∀ x ∈ l, x.at_ ≤ t) → uptoE t (l ++ m) = l.length + uptoE t m
  | [], m, _ => by simp
  | s :: l, m, h => by
    rw [List.cons_append, uptoE, if_pos (h s (by simp)), upto_all fun x hx => h x (List.mem_cons_of_mem _ hx), List.length_cons]
    omega
theorem upto_none {t : Int} {l : List PStep} (h : ∀ x ∈ l, t < x.at_) : uptoE t l = 0 := by
  cases l with
  | nil => rfl
  | cons s l => rw [uptoE, if_neg (by have := h s (by simp); omega)]
theorem upto_le (t : Int) : ∀ l : List PStep, uptoE t l ≤ l.length
  | [] => Nat.le_refl _
  | s :: l => by
    unfold uptoE
    split
    · have := upto_le t l; rw [List.length_cons]; omega
    · omega
theorem run_append (q : List PElem) : ∀ (l m : List PStep), runE q (l ++ m) = (runE q l).bind fun q' => runE q' m := by
  intro l
  induction l generalizing q with
  | nil => intro m; rfl
  | cons s l ih =>
    intro m
    rw [List.cons_append, runE, runE]
    cases h : nextE q s with
    | none => rfl
    | some p => obtain ⟨q', x⟩ := p; exact ih q' m
/-- Two lines that part at a time: what is ahead, what is behind, and the element that one has more. -/
structure Parted (more less : List PStep) (from_ : Int) (x : PElem) (P1 P2 S : List PStep) (M L : List PElem) : Prop where
  m : more = P1 ++ S
  l : less = P2 ++ S
  p1 : ∀ s ∈ P1, s.at_ ≤ from_
  p2 : ∀ s ∈ P2, s.at_ ≤ from_
  s : ∀ s ∈ S, from_ < s.at_ ∧ s.at_ ≤ 1000
  inc1 : incB more = true
  inc2 : incB less = true
  run1 : runE [] P1 = some M
  run2 : runE [] P2 = some L
  one : OneMore (from_ + 1) x M L
  good : (runE L S).isSome = true
/-- A walk over the steps that both lines have. -/
def spansS : List PElem → List PElem → PElem → Int → List PStep → List PSpan
  | _, _, x, f, [] => [⟨f, 1000, x⟩]
  | M, L, x, f, s :: S => match nextE M s, nextE L s with
    | some (M', m), some (L', l) => if s.do_ = 2 ∧ m = x then ⟨f, s.at_ - 1, x⟩ :: spansS M' L' l s.at_ S else spansS M' L' x f S
    | _, _ => []
theorem other_one {t : Int} {x : PElem} {M L : List PElem} (h : OneMore t x M L) : otherE M L = x := by
  unfold otherE
  have hx : x ∈ M := by rw [h.eq]; exact (mem_ins x x L).2 (.inl rfl)
  cases hf : M.find? (fun x => !L.contains x) with
  | none =>
    have := List.find?_eq_none.1 hf x hx
    simp at this
    exact absurd this h.new
  | some y =>
    have h1 := List.find?_some hf
    have h2 := List.mem_of_find?_eq_some hf
    rw [h.eq] at h2
    rcases (mem_ins x y L).1 h2 with e | h2
    · rw [e]; rfl
    · simp at h1; exact absurd h2 h1
theorem atB_append {t : Int} {P S : List PStep} (hp : ∀ s ∈ P, s.at_ < t) : atB (P ++ S) t = atB S t := by
  unfold atB
  rw [upto_all fun s hs => by have := hp s hs; omega]
  by_cases h : uptoE t S = 0
  · rw [h]
    simp only [Nat.add_zero, Nat.lt_irrefl, decide_false, Bool.false_and]
    cases hP : P.length with
    | zero => simp
    | succ n =>
      have : (P ++ S)[n + 1 - 1]? = some (P[n]'(by omega)) := by rw [Nat.add_sub_cancel, List.getElem?_append_left (by omega), List.getElem?_eq_getElem]
      rw [this]
      simp only [Option.getD_some, Bool.and_eq_false_iff]
      right
      have := hp (P[n]'(by omega)) (List.getElem_mem _)
      simp; omega
  · rw [List.getElem?_append_right (by omega)]
    rw [show P.length + uptoE t S - 1 - P.length = uptoE t S - 1 by omega]
    have e : decide (0 < P.length + uptoE t S) = decide (0 < uptoE t S) := decide_eq_decide.2 ⟨fun _ => by omega, fun _ => by omega⟩
    rw [e]
theorem atB_none {t : Int} {S : List PStep} (h : ∀ s ∈ S, t < s.at_) : atB S t = false := by
  unfold atB
  rw [upto_none h]; rfl
theorem atB_head {t : Int} {s : PStep} {S : List PStep} (h : ∀ x ∈ S, t < x.at_) (hs : s.at_ = t) : atB (s :: S) t = true := by
  unfold atB
  rw [uptoE, if_pos (by omega), upto_none h]
  simp [hs]
theorem setTo_snoc (out : List PSpan) (d : PSpan) (t : Int) : setTo (out ++ [d]) t = out ++ [⟨d.from_, t, d.elem⟩] := by
  simp [setTo]
/-- A part of a walk, from a time behind which the steps S come. -/
def walkFrom (more less : List PStep) (from_ : Int) : Nat → Int → List PSpan → List PSpan
  | 0, _, out => out
  | n + 1, t, out => walkFrom more less from_ n (t + 1) (walkStepR more less from_ out t)
theorem walkR_from (more less : List PStep) (from_ : Int) : ∀ (n k : Nat), walkR more less from_ (k + n) = walkFrom more less from_ n (from_ + k) (walkR more less from_ k)
  | 0, k => rfl
  | n + 1, k => by
    rw [show k + (n + 1) = (k + 1) + n by omega, walkR_from more less from_ n (k + 1), walkFrom, walkR]
    congr 1
    omega
theorem walk_spans {more less : List PStep} {from_ : Int} : ∀ (n : Nat) (t : Int) (P1 P2 S : List PStep) (M L : List PElem) (x : PElem) (f : Int) (done : List PSpan),
    more = P1 ++ S → less = P2 ++ S → (∀ s ∈ P1, s.at_ < t) → (∀ s ∈ P2, s.at_ < t) → (∀ s ∈ S, t ≤ s.at_ ∧ s.at_ ≤ 1000) → incB S = true → runE [] P1 = some M → runE [] P2 = some L → OneMore t x M L → (runE L S).isSome = true → from_ < t → t + n = 1001 →
    walkFrom more less from_ n t (done ++ [⟨f, t - 1, x⟩]) = done ++ spansS M L x f S := by
  intro n
  induction n with
  | zero =>
    intro t P1 P2 S M L x f done hm hl h1 h2 hS hi r1 r2 ho hg hft ht
    have hS0 : S = [] := by
      cases S with
      | nil => rfl
      | cons s S => have := hS s (by simp); omega
    subst hS0
    rw [walkFrom, spansS]
    congr 3; omega
  | succ n ih =>
    intro t P1 P2 S M L x f done hm hl h1 h2 hS hi r1 r2 ho hg hft ht
    rw [walkFrom]
    have ea1 : atB more t = atB S t := by rw [hm]; exact atB_append h1
    have ea2 : atB less t = atB S t := by rw [hl]; exact atB_append h2
    by_cases hh : ∃ s S', S = s :: S' ∧ s.at_ = t
    · obtain ⟨s, S', rfl, hst⟩ := hh
      obtain ⟨hi1, hi2⟩ := inc_cons hi
      have hlater : ∀ y ∈ S', t < y.at_ := fun y hy => by have := hi1 y hy; omega
      have hhead : atB (s :: S') t = true := atB_head hlater hst
      rw [runE] at hg
      cases hnl : nextE L s with
      | none => rw [hnl] at hg; cases hg
      | some p =>
        obtain ⟨L', l⟩ := p
        rw [hnl] at hg
        simp only at hg
        obtain ⟨M', m, x', hnm, ho', hx'⟩ := ho.step (by omega) hnl
        rw [hst] at ho'
        have hup1 : uptoE t more = P1.length + 1 := by
          rw [hm, upto_all fun s hs => by have := h1 s hs; omega, uptoE, if_pos (by omega), upto_none hlater]
        have hup2 : uptoE t less = P2.length + 1 := by
          rw [hl, upto_all fun s hs => by have := h2 s hs; omega, uptoE, if_pos (by omega), upto_none hlater]
        have hrun1 : runE [] (P1 ++ [s]) = some M' := by rw [run_append, r1]; simp [runE, hnm]
        have hrun2 : runE [] (P2 ++ [s]) = some L' := by rw [run_append, r2]; simp [runE, hnl]
        have htk1 : atE more t = M' := by
          rw [atE, thereE, hup1, hm, show P1 ++ s :: S' = (P1 ++ [s]) ++ S' by simp, List.take_append_of_le_length (by simp), List.take_of_length_le (by simp), hrun1]; rfl
        have htk2 : atE less t = L' := by
          rw [atE, thereE, hup2, hl, show P2 ++ s :: S' = (P2 ++ [s]) ++ S' by simp, List.take_append_of_le_length (by simp), List.take_of_length_le (by simp), hrun2]; rfl
        have hot : otherE (atE more t) (atE less t) = x' := by rw [htk1, htk2]; exact other_one ho'
        have hnext := ih (t + 1) (P1 ++ [s]) (P2 ++ [s]) S' M' L' x' 
        have hcall := fun f' done' => hnext f' done' (by rw [hm]; simp) (by rw [hl]; simp) (fun y hy => by
            rcases List.mem_append.1 hy with hy | hy
            · have := h1 y hy; omega
            · have : y = s := by simpa using hy
              rw [this]; omega) (fun y hy => by
            rcases List.mem_append.1 hy with hy | hy
            · have := h2 y hy; omega
            · have : y = s := by simpa using hy
              rw [this]; omega) (fun y hy => ⟨by have := hlater y hy; omega, (hS y (by simp [hy])).2⟩) hi2 hrun1 hrun2 ho' hg (by omega) (by omega)
        have hlast : ((done ++ [(⟨f, t - 1, x⟩ : PSpan)]).getLast?.map (·.elem)) = some x := by simp
        rw [spansS, hnm, hnl]
        simp only
        rw [walkStepR, if_neg (by rw [ea1, hhead]; simp), hlast, hot]
        by_cases hd : s.do_ = 2 ∧ m = x
        · rw [if_pos hd] at hx' ⊢
          obtain ⟨rfl, hlt⟩ := hx'
          rw [if_neg (by intro e; exact elt_ne hlt (Option.some.inj e))]
          have := hcall t (done ++ [⟨f, t - 1, x⟩])
          rw [show t + 1 - 1 = t by omega] at this
          rw [this, hst]
          simp
        · rw [if_neg hd] at hx' ⊢
          subst hx'
          rw [if_pos rfl, setTo_snoc]
          have := hcall f done
          rw [show t + 1 - 1 = t by omega] at this
          exact this
    · have hlater : ∀ y ∈ S, t < y.at_ := fun y hy => by
        have hle := (hS y hy).1
        rcases Int.lt_or_eq_of_le hle with h | h
        · exact h
        · exfalso
          cases S with
          | nil => cases hy
          | cons s S' =>
            rcases List.mem_cons.1 hy with rfl | hy'
            · exact hh ⟨_, _, rfl, h.symm⟩
            · have a := (inc_cons hi).1 y hy'
              have b := (hS s (by simp)).1
              omega
      rw [walkStepR, if_pos ⟨hft, by rw [ea1]; exact atB_none hlater, by rw [ea2]; exact atB_none hlater⟩, setTo_snoc]
      have := ih (t + 1) P1 P2 S M L x f done hm hl (fun y hy => by have := h1 y hy; omega) (fun y hy => by have := h2 y hy; omega) (fun y hy => ⟨by have := hlater y hy; omega, (hS y hy).2⟩) hi r1 r2 ⟨ho.less.mono (by omega), ho.eq, ho.new, by have := ho.early; omega⟩ hg (by omega) (by omega)
      rw [show t + 1 - 1 = t by omega] at this
      exact this
end Go.Proofs.Ytemkloildadokaa
set_option linter.unusedVariables false
/-! What the program inserts and deletes is what the reference does. No program in sight. -/
namespace Go.Proofs.Ytemkloildadokaa
/-- What the step at a time takes, of steps with their elements. -/
def lookE (D : List (PStep × PElem)) (t : Int) : Option PElem := ((D.filter fun p => p.1.do_ == 2).find? fun p => p.1.at_ == t).map (·.2)
theorem takenE_look (l : List PStep) (t : Int) : takenE l t = lookE (doneE [] l) t := rfl
theorem done_mem {p : PStep × PElem} : ∀ {S : List PStep} {q : List PElem}, p ∈ doneE q S → p.1 ∈ S
  | [], q, h => by simp [doneE] at h
  | s :: S, q, h => by
    rw [doneE] at h
    cases hn : nextE q s with
    | none => rw [hn] at h; simp at h
    | some r =>
      rw [hn] at h
      rcases List.mem_cons.1 h with rfl | h
      · simp
      · exact List.mem_cons_of_mem _ (done_mem h)
theorem look_none {D : List (PStep × PElem)} {t : Int} (h : ∀ p ∈ D, p.1.at_ ≠ t) : lookE D t = none := by
  unfold lookE
  rw [List.find?_eq_none.2 fun p hp => by simpa using h p ((List.mem_filter.1 hp).1)]
  rfl
theorem look_cons (s : PStep) (x : PElem) (D : List (PStep × PElem)) (t : Int) : lookE ((s, x) :: D) t = if s.do_ = 2 ∧ s.at_ = t then some x else lookE D t := by
  unfold lookE
  by_cases h : s.do_ = 2
  · rw [List.filter_cons_of_pos (by simpa using h)]
    by_cases ht : s.at_ = t
    · rw [List.find?_cons_of_pos (by simpa using ht), if_pos ⟨h, ht⟩]; rfl
    · rw [List.find?_cons_of_neg (by simpa using ht), if_neg fun e => ht e.2]
  · rw [List.filter_cons_of_neg (by simpa using h), if_neg fun e => h e.1]
theorem look_append (D D' : List (PStep × PElem)) (t : Int) (h : ∀ p ∈ D, p.1.at_ ≠ t) : lookE (D ++ D') t = lookE D' t := by
  unfold lookE
  rw [List.filter_append, List.find?_append, List.find?_eq_none.2 fun p hp => by simpa using h p ((List.mem_filter.1 hp).1)]
  rfl
theorem done_append {q q' : List PElem} : ∀ {l m : List PStep}, runE q l = some q' → doneE q (l ++ m) = doneE q l ++ doneE q' m
  | [], m, h => by cases h; rfl
  | s :: l, m, h => by
    rw [runE] at h
    rw [List.cons_append, doneE, doneE]
    cases hn : nextE q s with
    | none => rw [hn] at h; cases h
    | some p =>
      rw [hn] at h
      simp only [List.cons_append]
      rw [done_append h]
theorem walkE_spans {a b : Int → Option PElem} {from_ : Int} : ∀ (S : List PStep) (M L : List PElem) (x : PElem) (f lo : Int), from_ ≤ lo → (∀ s ∈ S, lo < s.at_) → incB S = true → OneMore (lo + 1) x M L → (runE L S).isSome = true →
    (∀ t, lo < t → a t = lookE (doneE M S) t) → (∀ t, lo < t → b t = lookE (doneE L S) t) → walkE a b from_ S f x = spansS M L x f S
  | [], M, L, x, f, lo, _, _, _, _, _, _, _ => rfl
  | s :: S, M, L, x, f, lo, h1, h2, h3, h4, h5, ha, hb => by
    obtain ⟨i1, i2⟩ := inc_cons h3
    have hs := h2 s (by simp)
    rw [runE] at h5
    cases hnl : nextE L s with
    | none => rw [hnl] at h5; cases h5
    | some p =>
      obtain ⟨L', l⟩ := p
      rw [hnl] at h5
      obtain ⟨M', m, x', hnm, ho', hx'⟩ := h4.step (by omega) hnl
      have hda : doneE M (s :: S) = (s, m) :: doneE M' S := by rw [doneE, hnm]
      have hdb : doneE L (s :: S) = (s, l) :: doneE L' S := by rw [doneE, hnl]
      have ha' : ∀ t, s.at_ < t → a t = lookE (doneE M' S) t := fun t ht => by rw [ha t (by omega), hda, look_cons, if_neg (by omega)]
      have hb' : ∀ t, s.at_ < t → b t = lookE (doneE L' S) t := fun t ht => by rw [hb t (by omega), hdb, look_cons, if_neg (by omega)]
      have key := fun (f' : Int) => walkE_spans (a := a) (b := b) (from_ := from_) S M' L' x' f' s.at_ (by omega) i1 i2 ho' h5 ha' hb'
      have ea : a s.at_ = if s.do_ = 2 then some m else none := by
        rw [ha s.at_ hs, hda, look_cons]
        by_cases h2' : s.do_ = 2
        · rw [if_pos ⟨h2', rfl⟩, if_pos h2']
        · rw [if_neg fun e => h2' e.1, if_neg h2', look_none fun p hp => by have := i1 _ (done_mem hp); omega]
      have eb : b s.at_ = if s.do_ = 2 then some l else none := by
        rw [hb s.at_ hs, hdb, look_cons]
        by_cases h2' : s.do_ = 2
        · rw [if_pos ⟨h2', rfl⟩, if_pos h2']
        · rw [if_neg fun e => h2' e.1, if_neg h2', look_none fun p hp => by have := i1 _ (done_mem hp); omega]
      rw [walkE, spansS, hnm, hnl, ea, eb]
      by_cases h2' : s.do_ = 2
      · rw [if_pos h2', if_pos h2']
        simp only
        by_cases hm : m = x
        · rw [if_pos ⟨by omega, hm⟩, if_pos ⟨h2', hm⟩]
          rw [if_pos ⟨h2', hm⟩] at hx'
          obtain ⟨rfl, _⟩ := hx'
          rw [key]
        · rw [if_neg fun e => hm e.2, if_neg fun e => hm e.2]
          rw [if_neg fun e => hm e.2] at hx'
          subst hx'
          rw [key]
      · rw [if_neg h2', if_neg h2']
        simp only
        rw [if_neg fun e => h2' e.1]
        rw [if_neg fun e => h2' e.1] at hx'
        subst hx'
        rw [key]
theorem walkE_skip {a b : Int → Option PElem} {from_ f : Int} {x : PElem} {S : List PStep} : ∀ {P : List PStep}, (∀ s ∈ P, s.at_ ≤ from_) → walkE a b from_ (P ++ S) f x = walkE a b from_ S f x
  | [], _ => rfl
  | s :: P, h => by
    rw [List.cons_append, walkE]
    have hs := h s (by simp)
    have ih := walkE_skip (a := a) (b := b) (f := f) (x := x) (S := S) fun y (hy : y ∈ P) => h y (List.mem_cons_of_mem _ hy)
    cases a s.at_ with
    | none => simpa using ih
    | some own =>
      cases b s.at_ with
      | none => simpa using ih
      | some oth =>
        simp only
        rw [if_neg fun e => by have := e.1; omega]
        exact ih
/-- Both walks are the one over the steps that both lines have. -/
theorem Parted.walked {more less : List PStep} {from_ : Int} {x : PElem} {P1 P2 S : List PStep} {M L : List PElem} (h : Parted more less from_ x P1 P2 S M L) : walkedE more less from_ x = spansS M L x from_ S := by
  have e : walkE (takenE more) (takenE less) from_ more from_ x = walkE (takenE more) (takenE less) from_ (P1 ++ S) from_ x := by congr 1; exact h.m
  rw [walkedE, e, walkE_skip h.p1]
  have i := inc_append (h.m ▸ h.inc1)
  refine walkE_spans S M L x from_ from_ (Int.le_refl _) (fun s hs => (h.s s hs).1) i.2.1 h.one h.good (fun t ht => ?_) (fun t ht => ?_)
  · rw [takenE_look, h.m, done_append h.run1, look_append _ _ _ fun p hp => by have := h.p1 _ (done_mem hp); omega]
  · rw [takenE_look, h.l, done_append h.run2, look_append _ _ _ fun p hp => by have := h.p2 _ (done_mem hp); omega]
theorem Parted.timed {more less : List PStep} {from_ : Int} {x : PElem} {P1 P2 S : List PStep} {M L : List PElem} (h : Parted more less from_ x P1 P2 S M L) (h0 : 0 ≤ from_) (h1 : from_ ≤ 1000) :
    walkR more less from_ (1001 - from_).toNat = walkedE more less from_ x := by
  rw [h.walked]
  have i := inc_append (h.m ▸ h.inc1)
  have hup1 : uptoE from_ more = P1.length := by rw [h.m, upto_all h.p1, upto_none fun s hs => (h.s s hs).1]; rfl
  have hup2 : uptoE from_ less = P2.length := by rw [h.l, upto_all h.p2, upto_none fun s hs => (h.s s hs).1]; rfl
  have ht1 : atE more from_ = M := by rw [atE, thereE, hup1, h.m, List.take_append_of_le_length (Nat.le_refl _), List.take_length, h.run1]; rfl
  have ht2 : atE less from_ = L := by rw [atE, thereE, hup2, h.l, List.take_append_of_le_length (Nat.le_refl _), List.take_length, h.run2]; rfl
  have e1 : (1001 - from_).toNat = 1 + (1000 - from_).toNat := by omega
  rw [e1, walkR_from]
  have e2 : walkR more less from_ 1 = [] ++ [⟨from_, from_ + 1 - 1, x⟩] := by
    show walkStepR more less from_ [] (from_ + (0 : Nat)) = _
    rw [walkStepR, if_neg (by simp), if_neg (by simp)]
    rw [show from_ + ((0 : Nat) : Int) = from_ by omega, ht1, ht2, other_one h.one, Int.add_sub_cancel]
  rw [e2, show from_ + ((1 : Nat) : Int) = from_ + 1 by omega]
  have := walk_spans (more := more) (less := less) (from_ := from_) (1000 - from_).toNat (from_ + 1) P1 P2 S M L x from_ [] h.m h.l (fun s hs => by have := h.p1 s hs; omega) (fun s hs => by have := h.p2 s hs; omega) (fun s hs => by have := h.s s hs; omega) i.2.1 h.run1 h.run2 h.one h.good (by omega) (by omega)
  rw [this]; rfl
end Go.Proofs.Ytemkloildadokaa
set_option linter.unusedVariables false
namespace Go.Proofs.Ytemkloildadokaa
def withR (l : List PStep) (s : PStep) : List PStep := l.take (uptoE s.at_ l) ++ s :: l.drop (uptoE s.at_ l)
def changedR (l m : List PStep) (from_ : Int) (inn : Bool) : PRes :=
  if lineB m = false then noRes 7 else if inn = true then ⟨m, true, walkR m l from_ (1001 - from_).toNat, 0⟩ else ⟨m, false, walkR l m from_ (1001 - from_).toNat, 0⟩
def insertR (l : List PStep) (s : PStep) : PRes :=
  if lineB l = false ∨ pstepB s = false then noRes 2
  else if atB l s.at_ = true then noRes 7
  else if 60 ≤ l.length then noRes 3
  else changedR l (withR l s) s.at_ (s.do_ == 1)
def deleteR (l : List PStep) (t : Int) : PRes :=
  if lineB l = false then noRes 2
  else if atB l t = false then noRes 5
  else changedR l (withoutE l (uptoE t l - 1)) t ((l[uptoE t l - 1]?.getD default).do_ == 2)
/-- A good line. -/
structure Lined (l : List PStep) : Prop where
  steps : ∀ s ∈ l, 0 ≤ s.at_ ∧ s.at_ ≤ 1000 ∧ (s.do_ = 1 ∨ (s.do_ = 2 ∧ s.key = 0))
  inc : incB l = true
  len : l.length ≤ 60
  run : (runE [] l).isSome = true
theorem step_bounds {s : PStep} (h : pstepB s = true) : 0 ≤ s.at_ ∧ s.at_ ≤ 1000 ∧ (s.do_ = 1 ∨ (s.do_ = 2 ∧ s.key = 0)) := by
  simp only [pstepB, Bool.and_eq_true, Bool.or_eq_true, decide_eq_true_eq, beq_iff_eq] at h
  exact ⟨h.1, h.2.1, h.2.2.2.2⟩
theorem line_of {l : List PStep} (h : lineB l = true) : Lined l := by
  simp only [lineB, stepsB, Bool.and_eq_true, decide_eq_true_eq, List.all_eq_true] at h
  exact ⟨fun s hs => step_bounds (h.1.1 s hs), h.1.2.1, h.1.2.2, h.2⟩
theorem line_mk {l : List PStep} (h1 : ∀ s ∈ l, pstepB s = true) (h2 : incB l = true) (h3 : l.length ≤ 60) (h4 : (runE [] l).isSome = true) : lineB l = true := by
  simp only [lineB, stepsB, Bool.and_eq_true, decide_eq_true_eq, List.all_eq_true]
  exact ⟨⟨h1, h2, h3⟩, h4⟩
theorem line_steps {l : List PStep} (h : lineB l = true) : ∀ s ∈ l, pstepB s = true := by
  simp only [lineB, stepsB, Bool.and_eq_true, decide_eq_true_eq, List.all_eq_true] at h
  exact h.1.1
/-- A line parts at a time. -/
theorem part_at (t : Int) : ∀ {l : List PStep}, incB l = true → ∃ P S, l = P ++ S ∧ placeE t l = P.length ∧ (∀ s ∈ P, s.at_ < t) ∧ (∀ s ∈ S, t ≤ s.at_)
  | [], _ => ⟨[], [], rfl, rfl, fun _ h => (by cases h), fun _ h => by cases h⟩
  | s :: l, h => by
    obtain ⟨i1, i2⟩ := inc_cons h
    by_cases hs : s.at_ < t
    · obtain ⟨P, S, h1, h2, h3, h4⟩ := part_at t i2
      refine ⟨s :: P, S, by rw [h1]; rfl, by rw [placeE, if_pos hs, h2]; rfl, fun y hy => ?_, h4⟩
      rcases List.mem_cons.1 hy with rfl | hy
      · exact hs
      · exact h3 y hy
    · refine ⟨[], s :: l, rfl, by rw [placeE, if_neg hs]; rfl, fun _ h => (by cases h), fun y hy => ?_⟩
      rcases List.mem_cons.1 hy with rfl | hy
      · omega
      · have := i1 y hy; omega
theorem run_there {t : Int} : ∀ {P : List PStep} {q L : List PElem} {t0 : Int}, ThereE t0 q → incB P = true → (∀ s ∈ P, t0 ≤ s.at_ ∧ s.at_ < t) → t0 ≤ t → runE q P = some L → ThereE t L
  | [], q, L, t0, h, _, _, ht, hr => by cases hr; exact h.mono ht
  | s :: P, q, L, t0, h, hi, hb, ht, hr => by
    obtain ⟨i1, i2⟩ := inc_cons hi
    obtain ⟨b1, b2⟩ := hb s (by simp)
    rw [runE] at hr
    cases hn : nextE q s with
    | none => rw [hn] at hr; cases hr
    | some p =>
      obtain ⟨q', x⟩ := p
      rw [hn] at hr
      exact run_there (h.next b1 hn) i2 (fun y hy => ⟨by have := i1 y hy; omega, (hb y (List.mem_cons_of_mem _ hy)).2⟩) (by omega) hr
theorem run_take {P S : List PStep} (h : (runE [] (P ++ S)).isSome = true) : ∃ L, runE [] P = some L ∧ (runE L S).isSome = true := by
  rw [run_append] at h
  cases hp : runE [] P with
  | none => rw [hp] at h; cases h
  | some L => rw [hp] at h; exact ⟨L, rfl, h⟩
theorem parted_in {P S : List PStep} {s : PStep} (hd : s.do_ = 1) (h1 : lineB (P ++ S) = true) (h2 : lineB (P ++ s :: S) = true) : ∃ M L, Parted (P ++ s :: S) (P ++ S) s.at_ ⟨s.key, s.at_⟩ (P ++ [s]) P S M L := by
  have g1 := line_of h1
  have g2 := line_of h2
  obtain ⟨L, hL, hS⟩ := run_take g1.run
  obtain ⟨i1, i2, i3⟩ := inc_append g2.inc
  obtain ⟨j1, j2⟩ := inc_cons i2
  have hth : ThereE s.at_ L := run_there (.nil 0) i1 (fun y hy => ⟨(g1.steps y (List.mem_append.2 (.inl hy))).1, i3 y hy s (by simp)⟩) (g2.steps s (by simp)).1 hL
  have hne : (⟨s.key, s.at_⟩ : PElem) ∉ L := fun hm => by have := hth.early _ hm; simp at this
  refine ⟨insE ⟨s.key, s.at_⟩ L, L, by simp, rfl, fun y hy => ?_, fun y hy => by have := i3 y hy s (by simp); omega, fun y hy => ⟨j1 y hy, (g1.steps y (List.mem_append.2 (.inr hy))).2.1⟩, g2.inc, g1.inc, ?_, hL, ⟨hth.mono (by omega), rfl, hne, by simp only; omega⟩, hS⟩
  · rcases List.mem_append.1 hy with hy | hy
    · have := i3 y hy s (by simp); omega
    · have : y = s := by simpa using hy
      rw [this]; omega
  · rw [run_append, hL]
    simp [runE, nextE, hd]
theorem parted_out {P S : List PStep} {s : PStep} (hd : s.do_ = 2) (h1 : lineB (P ++ S) = true) (h2 : lineB (P ++ s :: S) = true) : ∃ x M L, takenE (P ++ s :: S) s.at_ = some x ∧ Parted (P ++ S) (P ++ s :: S) s.at_ x P (P ++ [s]) S M L := by
  have g1 := line_of h1
  have g2 := line_of h2
  obtain ⟨M, hM, hS⟩ := run_take g2.run
  obtain ⟨i1, i2, i3⟩ := inc_append g2.inc
  obtain ⟨j1, j2⟩ := inc_cons i2
  have hth : ThereE s.at_ M := run_there (.nil 0) i1 (fun y hy => ⟨(g1.steps y (List.mem_append.2 (.inl hy))).1, i3 y hy s (by simp)⟩) (g2.steps s (by simp)).1 hM
  rw [runE] at hS
  cases M with
  | nil => simp [nextE, hd] at hS
  | cons x L =>
    have hn : nextE (x :: L) s = some (L, x) := by simp [nextE, hd]
    rw [hn] at hS
    refine ⟨x, x :: L, L, ?_, rfl, by simp, fun y hy => by have := i3 y hy s (by simp); omega, fun y hy => ?_, fun y hy => ⟨j1 y hy, (g1.steps y (List.mem_append.2 (.inr hy))).2.1⟩, g1.inc, g2.inc, hM, ?_, ⟨⟨hth.sorted.2, fun z hz => by have := hth.early z (List.mem_cons_of_mem _ hz); omega⟩, (ins_head hth.sorted.1).symm, fun hm => elt_ne (hth.sorted.1 x hm) rfl, by have := hth.early x (by simp); omega⟩, hS⟩
    · rw [takenE_look, done_append hM, look_append _ _ _ fun p hp => by have := i3 _ (done_mem hp) s (by simp); omega]
      rw [doneE, hn]
      simp only
      rw [look_cons, if_pos ⟨hd, rfl⟩]
    · rcases List.mem_append.1 hy with hy | hy
      · have := i3 y hy s (by simp); omega
      · have : y = s := by simpa using hy
        rw [this]; omega
    · rw [run_append, hM]
      simp [runE, hn]
theorem upto_part {t : Int} {P S : List PStep} (h1 : ∀ s ∈ P, s.at_ < t) (h2 : ∀ s ∈ S, t < s.at_) : uptoE t (P ++ S) = P.length := by
  rw [upto_all fun s hs => by have := h1 s hs; omega, upto_none h2]; rfl
theorem has_part {t : Int} {P S : List PStep} (h : placeE t (P ++ S) = P.length) : hasE (P ++ S) t = match S.head? with | some s => decide (s.at_ = t) | none => false := by
  unfold hasE
  rw [h, List.getElem?_append_right (Nat.le_refl _), Nat.sub_self]
  cases S <;> rfl
theorem insert_R (l : List PStep) (s : PStep) : insertR l s = insertE l s := by
  unfold insertR insertE
  by_cases h1 : lineB l = false ∨ pstepB s = false
  · rw [if_pos h1, if_pos h1]
  rw [if_neg h1, if_neg h1]
  have hg : lineB l = true := by cases h : lineB l with | true => rfl | false => exact absurd (.inl h) h1
  have hs : pstepB s = true := by cases h : pstepB s with | true => rfl | false => exact absurd (.inr h) h1
  have g := line_of hg
  obtain ⟨b0, b1, b2⟩ := step_bounds hs
  obtain ⟨P, S, rfl, hp, hP, hS⟩ := part_at s.at_ g.inc
  obtain ⟨i1, i2, i3⟩ := inc_append g.inc
  by_cases hh : hasE (P ++ S) s.at_ = true
  · rw [if_pos hh]
    rw [has_part hp] at hh
    cases S with
    | nil => cases hh
    | cons u S =>
      have hu : u.at_ = s.at_ := by simpa using hh
      rw [if_pos]
      rw [atB_append hP]
      exact atB_head (fun x hx => by have := (inc_cons i2).1 x hx; omega) hu
  rw [if_neg hh]
  have hS' : ∀ y ∈ S, s.at_ < y.at_ := fun y hy => by
    have h0 := hS y hy
    rw [has_part hp] at hh
    cases S with
    | nil => cases hy
    | cons u S =>
      have hu : ¬ u.at_ = s.at_ := by simpa using hh
      rcases List.mem_cons.1 hy with rfl | hy
      · omega
      · have := (inc_cons i2).1 y hy
        have := hS u (by simp)
        omega
  rw [if_neg (by rw [atB_append hP, atB_none hS']; simp)]
  by_cases h3 : (P ++ S).length = 60
  · rw [if_pos h3, if_pos (by omega)]
  rw [if_neg h3, if_neg (by have := g.len; omega)]
  have hw : withE (P ++ S) s = P ++ s :: S := by rw [withE, hp]; simp
  have hw' : withR (P ++ S) s = P ++ s :: S := by rw [withR, upto_part hP hS']; simp
  rw [hw, hw', changedR]
  by_cases hm : lineB (P ++ s :: S) = false
  · rw [if_pos hm, if_pos hm]
  rw [if_neg hm, if_neg hm]
  have hm : lineB (P ++ s :: S) = true := by simpa using hm
  by_cases hd : s.do_ = 1
  · rw [if_pos hd, if_pos (by simpa using hd)]
    obtain ⟨M, L, hpt⟩ := parted_in hd hg hm
    rw [hpt.timed b0 b1]
  · have hd2 : s.do_ = 2 := by omega
    rw [if_neg hd, if_neg (by simpa using hd)]
    obtain ⟨x, M, L, hx, hpt⟩ := parted_out hd2 hg hm
    rw [hpt.timed b0 b1, hx]; rfl
theorem delete_R (l : List PStep) (t : Int) : deleteR l t = deleteE l t := by
  unfold deleteR deleteE
  by_cases h1 : lineB l = false
  · rw [if_pos h1, if_pos h1]
  rw [if_neg h1, if_neg h1]
  have hg : lineB l = true := by simpa using h1
  have g := line_of hg
  obtain ⟨P, S, rfl, hp, hP, hS⟩ := part_at t g.inc
  obtain ⟨i1, i2, i3⟩ := inc_append g.inc
  by_cases hh : hasE (P ++ S) t = false
  · rw [if_pos hh, if_pos]
    rw [atB_append hP]
    apply atB_none
    intro y hy
    have h0 := hS y hy
    rw [has_part hp] at hh
    cases S with
    | nil => cases hy
    | cons u S =>
      have hu : ¬ u.at_ = t := by simpa using hh
      rcases List.mem_cons.1 hy with rfl | hy
      · omega
      · have := (inc_cons i2).1 y hy
        have := hS u (by simp)
        omega
  rw [if_neg hh]
  have hh : hasE (P ++ S) t = true := by simpa using hh
  rw [has_part hp] at hh
  cases S with
  | nil => cases hh
  | cons s S =>
    obtain rfl : s.at_ = t := by simpa using hh
    obtain ⟨j1, j2⟩ := inc_cons i2
    rw [if_neg (by rw [atB_append hP, atB_head j1 rfl]; simp)]
    have hup : uptoE s.at_ (P ++ s :: S) = P.length + 1 := by
      rw [upto_all fun y hy => by have := hP y hy; omega, uptoE, if_pos (Int.le_refl _), upto_none j1]
    have hgt : ((P ++ s :: S)[P.length]?.getD default) = s := by simp
    have hw : withoutE (P ++ s :: S) P.length = P ++ S := by simp [withoutE, List.drop_append]
    have hb := g.steps s (by simp)
    rw [hup, hp, Nat.add_sub_cancel, hgt, hw, changedR]
    by_cases hm : lineB (P ++ S) = false
    · rw [if_pos hm, if_pos hm]
    rw [if_neg hm, if_neg hm]
    have hm : lineB (P ++ S) = true := by simpa using hm
    by_cases hd : s.do_ = 2
    · rw [if_pos hd, if_pos (by simpa using hd)]
      obtain ⟨x, M, L, hx, hpt⟩ := parted_out hd hm hg
      rw [hpt.timed hb.1 hb.2.1, hx]; rfl
    · have hd1 : s.do_ = 1 := by omega
      rw [if_neg hd, if_neg (by simpa using hd)]
      obtain ⟨M, L, hpt⟩ := parted_in hd1 hm hg
      rw [hpt.timed hb.1 hb.2.1]
end Go.Proofs.Ytemkloildadokaa
set_option linter.unusedVariables false
set_option linter.unusedSimpArgs false
/-! Heaps of elements. No program in sight. -/
namespace Go.Proofs.Ytemkloildadokaa
def gE (l : List PElem) (k : Nat) : PElem := l[k]?.getD ⟨0, 0⟩
def swapE (l : List PElem) (i j : Nat) : List PElem := (l.set i (gE l j)).set j (gE l i)
theorem swap_len (l : List PElem) (i j : Nat) : (swapE l i j).length = l.length := by simp [swapE]
theorem gE_set {l : List PElem} {i : Nat} {x : PElem} {k : Nat} (hi : i < l.length) : gE (l.set i x) k = if k = i then x else gE l k := by
  unfold gE
  by_cases h : k = i
  · subst h; rw [List.getElem?_set_self hi, if_pos rfl]; rfl
  · rw [List.getElem?_set_ne (Ne.symm h), if_neg h]
theorem gE_swap {l : List PElem} {i j k : Nat} (hi : i < l.length) (hj : j < l.length) : gE (swapE l i j) k = if k = j then gE l i else if k = i then gE l j else gE l k := by
  rw [swapE, gE_set (by simpa using hj)]
  by_cases h : k = j
  · rw [if_pos h, if_pos h]
  · rw [if_neg h, if_neg h, gE_set hi]
theorem gE_mem {l : List PElem} {k : Nat} (h : k < l.length) : gE l k ∈ l := by
  rw [gE, List.getElem?_eq_getElem h]; exact List.getElem_mem h
theorem gE_get {l : List PElem} {k : Nat} (h : k < l.length) : l[k]? = some (gE l k) := by rw [gE, List.getElem?_eq_getElem h]; rfl
theorem swap_perm {l : List PElem} {i j : Nat} (hi : i < l.length) (hj : j < l.length) : (swapE l i j).Perm l := by
  apply List.perm_iff_count.2
  intro a
  unfold swapE
  by_cases hij : i = j
  · subst hij
    rw [List.set_set]
    have : l.set i (gE l i) = l := by
      apply List.ext_getElem?
      intro k
      by_cases hk : k = i
      · subst hk; rw [List.getElem?_set_self hi, gE_get hi]
      · rw [List.getElem?_set_ne (Ne.symm hk)]
    rw [this]
  · have e1 : (l.set i (gE l j))[j]'(by simpa using hj) = gE l j := by
      have h := gE_get hj
      rw [List.getElem?_eq_getElem hj] at h
      rw [List.getElem_set_ne hij]
      exact Option.some.inj h
    have e2 : l[i] = gE l i := by have h := gE_get hi; rw [List.getElem?_eq_getElem hi] at h; exact Option.some.inj h
    rw [List.count_set (by simpa using hj), List.count_set hi, e1, e2]
    have hc1 : (gE l i == a) = true → 0 < l.count a := fun h => List.count_pos_iff.2 (by rw [← eq_of_beq h]; exact gE_mem hi)
    have hc2 : (gE l j == a) = true → 0 < l.count a := fun h => List.count_pos_iff.2 (by rw [← eq_of_beq h]; exact gE_mem hj)
    by_cases h1 : (gE l i == a) = true
    · by_cases h2 : (gE l j == a) = true
      · have := hc1 h1; simp only [h1, h2, if_true]; omega
      · have := hc1 h1; simp only [h1, h2, if_true, if_false]; simp; omega
    · by_cases h2 : (gE l j == a) = true
      · simp only [h1, h2, if_true, if_false]; simp
      · simp only [h1, h2, if_false]; simp
/-- A heap: no element stands ahead of its parent. -/
def Heap (l : List PElem) (n : Nat) : Prop := ∀ k, 0 < k → k < n → eltB (gE l k) (gE l ((k - 1) / 2)) = false
/-- A heap but for a place that may have to go up. -/
structure HeapUp (l : List PElem) (j : Nat) : Prop where
  lt : j < l.length
  rest : ∀ k, 0 < k → k < l.length → k ≠ j → eltB (gE l k) (gE l ((k - 1) / 2)) = false
  over : ∀ k, 0 < k → k < l.length → (k - 1) / 2 = j → 0 < j → eltB (gE l k) (gE l ((j - 1) / 2)) = false
/-- A heap but for a place that may have to go down. -/
structure HeapDown (l : List PElem) (n i : Nat) : Prop where
  le : n ≤ l.length
  rest : ∀ k, 0 < k → k < n → (k - 1) / 2 ≠ i → eltB (gE l k) (gE l ((k - 1) / 2)) = false
  over : ∀ k, 0 < k → k < n → (k - 1) / 2 = i → 0 < i → eltB (gE l k) (gE l ((i - 1) / 2)) = false
theorem elt_le_trans {a b c : PElem} (h1 : eltB b a = false) (h2 : eltB c b = false) : eltB c a = false := by
  cases h : eltB c a with
  | false => rfl
  | true =>
    by_cases e : b = c
    · subst e; rw [h] at h1; cases h1
    · have := elt_total (Ne.symm e) h2
      rw [elt_trans this h] at h1; cases h1
theorem HeapUp.stop {l : List PElem} {j : Nat} (h : HeapUp l j) (hs : j = 0 ∨ eltB (gE l j) (gE l ((j - 1) / 2)) = false) : Heap l l.length := by
  intro k h0 hk
  by_cases e : k = j
  · subst e
    rcases hs with hs | hs
    · omega
    · exact hs
  · exact h.rest k h0 hk e
theorem HeapUp.step {l : List PElem} {j : Nat} (h : HeapUp l j) (h0 : 0 < j) (hs : eltB (gE l j) (gE l ((j - 1) / 2)) = true) : HeapUp (swapE l ((j - 1) / 2) j) ((j - 1) / 2) := by
  have hj := h.lt
  have hi : (j - 1) / 2 < l.length := by omega
  have hij : (j - 1) / 2 < j := by omega
  have hg : ∀ k, gE (swapE l ((j - 1) / 2) j) k = if k = j then gE l ((j - 1) / 2) else if k = (j - 1) / 2 then gE l j else gE l k := fun k => gE_swap hi hj
  refine ⟨by rw [swap_len]; exact hi, fun k k0 kl kj => ?_, fun k k0 kl kp i0 => ?_⟩
  · rw [swap_len] at kl
    rw [hg k, hg ((k - 1) / 2)]
    by_cases e1 : k = j
    · subst e1
      rw [if_pos rfl, if_neg (by omega), if_pos rfl]
      exact elt_asymm hs
    · rw [if_neg e1, if_neg kj]
      by_cases e2 : (k - 1) / 2 = j
      · rw [if_pos e2]
        exact h.over k k0 kl e2 h0
      · rw [if_neg e2]
        by_cases e3 : (k - 1) / 2 = (j - 1) / 2
        · rw [if_pos e3]
          have := h.rest k k0 kl e1
          rw [e3] at this
          exact elt_le_trans (elt_asymm hs) this
        · rw [if_neg e3]
          exact h.rest k k0 kl e1
  · rw [swap_len] at kl
    rw [hg k, hg (((j - 1) / 2 - 1) / 2), if_neg (show ¬ ((j - 1) / 2 - 1) / 2 = j by omega), if_neg (show ¬ ((j - 1) / 2 - 1) / 2 = (j - 1) / 2 by omega)]
    have hp := h.rest ((j - 1) / 2) i0 hi (by omega)
    by_cases e1 : k = j
    · subst e1
      rw [if_pos rfl]
      exact hp
    · rw [if_neg e1, if_neg (by omega)]
      have := h.rest k k0 kl e1
      rw [kp] at this
      exact elt_le_trans hp this
theorem HeapDown.stop {l : List PElem} {n i : Nat} (h : HeapDown l n i) (hs : ∀ k, k < n → 0 < k → (k - 1) / 2 = i → eltB (gE l k) (gE l i) = false) : Heap l n := by
  intro k h0 hk
  by_cases e : (k - 1) / 2 = i
  · rw [e]; exact hs k hk h0 e
  · exact h.rest k h0 hk e
theorem HeapDown.step {l : List PElem} {n i j : Nat} (h : HeapDown l n i) (hjn : j < n) (hj0 : 0 < j) (hji : (j - 1) / 2 = i) (hs : eltB (gE l j) (gE l i) = true) (hm : ∀ k, k < n → 0 < k → (k - 1) / 2 = i → eltB (gE l k) (gE l j) = false) : HeapDown (swapE l i j) n j := by
  have hnl := h.le
  have hi : i < l.length := by omega
  have hj : j < l.length := by omega
  have hg : ∀ k, gE (swapE l i j) k = if k = j then gE l i else if k = i then gE l j else gE l k := fun k => gE_swap hi hj
  refine ⟨by rw [swap_len]; exact hnl, fun k k0 kn kj => ?_, fun k k0 kn kp j0 => ?_⟩
  · rw [hg k, hg ((k - 1) / 2), if_neg kj]
    by_cases e1 : k = j
    · subst e1
      rw [if_pos rfl, if_pos hji]
      exact elt_asymm hs
    · rw [if_neg e1]
      by_cases e2 : k = i
      · subst e2
        rw [if_pos rfl, if_neg (show ¬ (k - 1) / 2 = k by omega)]
        exact h.over j (by omega) hjn hji (by omega)
      · rw [if_neg e2]
        by_cases e3 : (k - 1) / 2 = i
        · rw [if_pos e3]; exact hm k kn k0 e3
        · rw [if_neg e3]; exact h.rest k k0 kn e3
  · rw [hg k, if_neg (by omega), if_neg (by omega), hji, hg i, if_neg (by omega), if_pos rfl]
    have := h.rest k k0 kn (by omega)
    rw [kp] at this
    exact this
theorem heap_root {l : List PElem} {n : Nat} (h : Heap l n) : ∀ k, k < n → eltB (gE l k) (gE l 0) = false := by
  intro k
  induction k using Nat.strongRecOn with
  | ind k ih =>
    intro hk
    by_cases h0 : k = 0
    · subst h0; exact elt_irrefl _
    · exact elt_le_trans (ih ((k - 1) / 2) (by omega) (by omega)) (h k (by omega) hk)
/-- A heap of what is there. -/
structure HeapOf (l q : List PElem) : Prop where
  perm : l.Perm q
  heap : Heap l l.length
theorem HeapOf.nil : HeapOf [] [] := ⟨.refl _, fun k _ h => absurd h (by simp)⟩
theorem HeapOf.len {l q : List PElem} (h : HeapOf l q) : l.length = q.length := h.perm.length_eq
theorem HeapOf.root {l q : List PElem} {y : PElem} (h : HeapOf l (y :: q)) (hs : SortedE (y :: q)) : gE l 0 = y := by
  have hl : 0 < l.length := by rw [h.len]; simp
  have h1 : gE l 0 ∈ y :: q := h.perm.subset (gE_mem hl)
  rcases List.mem_cons.1 h1 with e | h1
  · exact e
  · have h2 : y ∈ l := h.perm.symm.subset (by simp)
    obtain ⟨k, hk, e⟩ := List.getElem_of_mem h2
    have h3 := heap_root h.heap k hk
    have e' : gE l k = y := by rw [gE, List.getElem?_eq_getElem hk, e]; rfl
    rw [e', hs.1 _ h1] at h3
    cases h3
/-- A new element stands at the end. -/
theorem HeapOf.pushed {l q : List PElem} (h : HeapOf l q) (x : PElem) : HeapUp (l ++ [x]) l.length := by
  have hg : ∀ k, k < l.length → gE (l ++ [x]) k = gE l k := fun k hk => by unfold gE; rw [List.getElem?_append_left hk]
  refine ⟨by simp, fun k k0 kl kj => ?_, fun k k0 kl kp j0 => ?_⟩
  · rw [List.length_append, List.length_singleton] at kl
    rw [hg k (by omega), hg _ (by omega)]
    exact h.heap k k0 (by omega)
  · rw [List.length_append, List.length_singleton] at kl
    omega
theorem HeapOf.put {l q l' : List PElem} {x : PElem} (h : HeapOf l q) (hp : l'.Perm (l ++ [x])) (hh : Heap l' l'.length) : HeapOf l' (insE x q) :=
  ⟨hp.trans ((h.perm.append_right [x]).trans ((List.perm_append_singleton x q).trans (perm_ins x q).symm)), hh⟩
/-- The root stands at the end. -/
theorem HeapOf.turned {l q : List PElem} {n : Nat} (h : HeapOf l q) (hn : l.length = n + 1) : HeapDown (swapE l 0 n) n 0 := by
  have hg : ∀ k, gE (swapE l 0 n) k = if k = n then gE l 0 else if k = 0 then gE l n else gE l k := fun k => gE_swap (by omega) (by omega)
  refine ⟨by rw [swap_len]; omega, fun k k0 kn kp => ?_, fun k k0 kn kp i0 => by omega⟩
  rw [hg k, hg ((k - 1) / 2), if_neg (by omega), if_neg (by omega), if_neg (by omega), if_neg kp]
  exact h.heap k k0 (by omega)
theorem HeapOf.cut {l q l' : List PElem} {y : PElem} {n : Nat} (h : HeapOf l (y :: q)) (hs : SortedE (y :: q)) (hn : l.length = n + 1) (hp : l'.Perm (swapE l 0 n)) (hlast : gE l' n = gE (swapE l 0 n) n) (hh : Heap l' n) : gE l' n = y ∧ HeapOf (l'.take n) q := by
  have e1 : gE l' n = y := by rw [hlast, gE_swap (by omega) (by omega), if_pos rfl, h.root hs]
  have hl' : l'.length = n + 1 := by rw [hp.length_eq, swap_len, hn]
  have e2 : l' = l'.take n ++ [y] := by
    have h1 := (List.take_append_drop n l').symm
    rw [List.drop_eq_getElem_cons (by omega), List.drop_of_length_le (by omega)] at h1
    have h2 : l'[n]'(by omega) = y := by rw [← e1, gE, List.getElem?_eq_getElem (by omega)]; rfl
    rw [h2] at h1
    exact h1
  refine ⟨e1, ?_, ?_⟩
  · have h1 : l'.Perm (y :: q) := hp.trans ((swap_perm (by omega) (by omega)).trans h.perm)
    rw [e2] at h1
    exact List.Perm.cons_inv ((List.perm_append_singleton y _).symm.trans h1)
  · intro k k0 kl
    rw [List.length_take] at kl
    have hg : ∀ k, k < n → gE (l'.take n) k = gE l' k := fun k hk => by unfold gE; rw [List.getElem?_take_of_lt hk]
    rw [hg k (by omega), hg _ (by omega)]
    exact hh k k0 (by omega)
end Go.Proofs.Ytemkloildadokaa
set_option linter.unusedVariables false
set_option linter.unusedSimpArgs false
/-! Steps, elements, spans in memory. -/
namespace Go.Proofs.Ytemkloildadokaa
open Go.RowKit Go.Shelf Go.Proofs.YtemkloildadokaaW.PrintWords

def kPElem : Kd PElem := Kd.iso (Kd.pair (Kd.int .i64) (Kd.int .i64)) (fun x : PElem => (x.key, x.from_))
def pelemCells (x : PElem) : List Value := [.int .i64 x.key, .int .i64 x.from_]
theorem kPElem_open {w : World} {x : PElem} {cs : List Value} (h : kPElem.K w x cs) : cs = pelemCells x := by
  obtain ⟨c1, c2, rfl, rfl, rfl⟩ := h; rfl
theorem kPElem_mk (w : World) (x : PElem) : kPElem.K w x (pelemCells x) := ⟨[_], [_], rfl, rfl, rfl⟩
theorem kPElem_mkM (w : World) (base : Nat) (ok : Nat → Prop) (x : PElem) : kPElem.M w base ok x (pelemCells x) := ⟨[_], [_], rfl, rfl, rfl⟩
theorem flat_pelem : Flat kPElem := fun _ _ _ _ _ x cs h => by obtain rfl := kPElem_open (kPElem.K_of_M h); exact kPElem_mkM _ _ _ x
theorem pelem_KM (w w' : World) (base : Nat) (ok : Nat → Prop) (x : PElem) (cs : List Value) (h : kPElem.K w x cs) : kPElem.M w' base ok x cs := by obtain rfl := kPElem_open h; exact kPElem_mkM _ _ _ x
abbrev ElemRow (w : World) (A : Option Addr) (n : Nat) (l : List PElem) : Prop := Kd.C kPElem w A n l
theorem pelem_at {w : World} {A : Option Addr} {n : Nat} {l : List PElem} (h : ElemRow w A n l) (k : Nat) (hk : k < n) :
    ∃ x ad, l.drop k = x :: l.drop (k + 1) ∧ l.take (k + 1) = l.take k ++ [x] ∧ l[k]? = some x ∧ A = some ad ∧ w.cell? (ad.add (k * 2)) = some (.int .i64 x.key) ∧ w.cell? ⟨(ad.add (k * 2)).block, (ad.add (k * 2)).off + 1, none⟩ = some (.int .i64 x.from_) := by
  obtain ⟨x, c, ad, h1, h2, h3, h4, h5, h6⟩ := row_at h k hk
  obtain rfl := kPElem_open h5
  have hc : ∀ j u, (pelemCells x)[j]? = some u → w.cell? (ad.add (k * 2 + j)) = some u := h6
  exact ⟨x, ad, h1, h2, h3, h4, hc 0 _ rfl, by rw [← add_field _ _ 1 (by omega)]; exact hc 1 _ rfl⟩
def kPStep : Kd PStep := Kd.iso (Kd.pair (Kd.int .i64) (Kd.pair (Kd.int .i64) (Kd.int .i64))) (fun x : PStep => (x.at_, x.do_, x.key))
def pstepCells (x : PStep) : List Value := [.int .i64 x.at_, .int .i64 x.do_, .int .i64 x.key]
theorem kPStep_open {w : World} {x : PStep} {cs : List Value} (h : kPStep.K w x cs) : cs = pstepCells x := by
  obtain ⟨c1, c2, rfl, rfl, c3, c4, rfl, rfl, rfl⟩ := h; rfl
theorem kPStep_mk (w : World) (x : PStep) : kPStep.K w x (pstepCells x) := ⟨[_], _, rfl, rfl, [_], [_], rfl, rfl, rfl⟩
theorem kPStep_mkM (w : World) (base : Nat) (ok : Nat → Prop) (x : PStep) : kPStep.M w base ok x (pstepCells x) := ⟨[_], _, rfl, rfl, [_], [_], rfl, rfl, rfl⟩
theorem flat_pstep : Flat kPStep := fun _ _ _ _ _ x cs h => by obtain rfl := kPStep_open (kPStep.K_of_M h); exact kPStep_mkM _ _ _ x
theorem pstep_KM (w w' : World) (base : Nat) (ok : Nat → Prop) (x : PStep) (cs : List Value) (h : kPStep.K w x cs) : kPStep.M w' base ok x cs := by obtain rfl := kPStep_open h; exact kPStep_mkM _ _ _ x
abbrev PStepRow (w : World) (A : Option Addr) (n : Nat) (l : List PStep) : Prop := Kd.C kPStep w A n l
theorem pstep_at {w : World} {A : Option Addr} {n : Nat} {l : List PStep} (h : PStepRow w A n l) (k : Nat) (hk : k < n) :
    ∃ x ad, l.drop k = x :: l.drop (k + 1) ∧ l.take (k + 1) = l.take k ++ [x] ∧ l[k]? = some x ∧ A = some ad ∧ w.cell? (ad.add (k * 3)) = some (.int .i64 x.at_) ∧ w.cell? ⟨(ad.add (k * 3)).block, (ad.add (k * 3)).off + 1, none⟩ = some (.int .i64 x.do_) ∧ w.cell? ⟨(ad.add (k * 3)).block, (ad.add (k * 3)).off + 2, none⟩ = some (.int .i64 x.key) := by
  obtain ⟨x, c, ad, h1, h2, h3, h4, h5, h6⟩ := row_at h k hk
  obtain rfl := kPStep_open h5
  have hc : ∀ j u, (pstepCells x)[j]? = some u → w.cell? (ad.add (k * 3 + j)) = some u := h6
  exact ⟨x, ad, h1, h2, h3, h4, hc 0 _ rfl, by rw [← add_field _ _ 1 (by omega)]; exact hc 1 _ rfl, by rw [← add_field _ _ 2 (by omega)]; exact hc 2 _ rfl⟩
def kPSpan : Kd PSpan := Kd.iso (Kd.pair (Kd.int .i64) (Kd.pair (Kd.int .i64) kPElem)) (fun x : PSpan => (x.from_, x.to_, x.elem))
def pspanCells (x : PSpan) : List Value := [.int .i64 x.from_, .int .i64 x.to_, .int .i64 x.elem.key, .int .i64 x.elem.from_]
theorem kPSpan_open {w : World} {x : PSpan} {cs : List Value} (h : kPSpan.K w x cs) : cs = pspanCells x := by
  obtain ⟨c1, c2, rfl, rfl, c3, c4, rfl, rfl, h5⟩ := h
  obtain rfl := kPElem_open h5; rfl
theorem kPSpan_mk (w : World) (x : PSpan) : kPSpan.K w x (pspanCells x) := ⟨[_], _, rfl, rfl, [_], _, rfl, rfl, kPElem_mk w x.elem⟩
theorem kPSpan_mkM (w : World) (base : Nat) (ok : Nat → Prop) (x : PSpan) : kPSpan.M w base ok x (pspanCells x) := ⟨[_], _, rfl, rfl, [_], _, rfl, rfl, kPElem_mkM w base ok x.elem⟩
theorem flat_pspan : Flat kPSpan := fun _ _ _ _ _ x cs h => by obtain rfl := kPSpan_open (kPSpan.K_of_M h); exact kPSpan_mkM _ _ _ x
theorem pspan_KM (w w' : World) (base : Nat) (ok : Nat → Prop) (x : PSpan) (cs : List Value) (h : kPSpan.K w x cs) : kPSpan.M w' base ok x cs := by obtain rfl := kPSpan_open h; exact kPSpan_mkM _ _ _ x
abbrev SpanRow (w : World) (A : Option Addr) (n : Nat) (l : List PSpan) : Prop := Kd.C kPSpan w A n l
/-- The order of elements, as a number. -/
def ordE (a b : PElem) : Int := if a.key < b.key then -1 else if b.key < a.key then 1 else if a.from_ < b.from_ then -1 else if b.from_ < a.from_ then 1 else 0
theorem ordE_lt (a b : PElem) : decide (ordE a b < 0) = eltB a b := by
  unfold ordE eltB
  split
  · rename_i h; simp [h]
  split
  · rename_i h1 h2; simp [h1]; omega
  split
  · rename_i h1 h2 h3; simp [h3]; omega
  split
  · rename_i h1 h2 h3 h4; simp [h3]; omega
  · rename_i h1 h2 h3 h4; simp [h3]; omega
def cmpI (x y : Int) : Int := if x < y then -1 else if y < x then 1 else 0
end Go.Proofs.Ytemkloildadokaa
set_option linter.unusedVariables false
set_option linter.unusedSimpArgs false
/-! The order of elements, walked. -/
namespace Go.Proofs.Ytemkloildadokaa
open Go.RowKit Go.Shelf Go.Proofs.YtemkloildadokaaW.PrintWords

set_option maxRecDepth 100000 in
set_option maxHeartbeats 2000000 in
theorem p_isNaN (x : Int) (w : World) : Calls Try.prog 116 #[.int .i64 x] w fun e w' => e = .returned (.bool false) ∧ w = w' := by
  have hx : (x != x) = false := by simp
  go_enter Try.func116, Try.ntmps116
  go_wp2
  go_ret
  exact ⟨rfl, rfl⟩
set_option maxRecDepth 100000 in
set_option maxHeartbeats 2000000 in
theorem p_cmp (x y : Int) (w : World) : Calls Try.prog 100 #[.int .i64 x, .int .i64 y] w fun e w' => e = .returned (.int .i64 (cmpI x y)) ∧ w = w' := by
  have hways : (decide (x < y) = true ∧ cmpI x y = -1) ∨ (decide (x < y) = false ∧ decide (y < x) = true ∧ cmpI x y = 1) ∨ (decide (x < y) = false ∧ decide (y < x) = false ∧ cmpI x y = 0) := by
    unfold cmpI
    by_cases h1 : x < y
    · simp [h1]
    · by_cases h2 : y < x
      · simp [h1, h2]
      · simp [h1, h2]
  rcases hways with ⟨h1, hc⟩ | ⟨h1, h2, hc⟩ | ⟨h1, h2, hc⟩
  all_goals
    rw [hc]
    clear hc
    go_enter Try.func100, Try.ntmps100
    go_wp2_with (first
      | (go_at_call 116; (with_reducible refine (p_isNaN x _).mono ?_); rintro e w1 ⟨rfl, rfl⟩)
      | (go_at_call 116; (with_reducible refine (p_isNaN y _).mono ?_); rintro e w1 ⟨rfl, rfl⟩))
    go_ret
    exact ⟨rfl, rfl⟩
set_option maxRecDepth 100000 in
set_option maxHeartbeats 2000000 in
theorem p_or (x y : Int) (B : Nat) (c : Nat) (w : World) (h0 : w.cell? ⟨B, 0, none⟩ = some (.int .i64 x)) (h1 : w.cell? ⟨B, 1, none⟩ = some (.int .i64 y)) (hc : 2 ≤ c) : Calls Try.prog 152 #[.slice (some ⟨B, 0, none⟩) 2 c] w fun e w' => e = .returned (.int .i64 (if x = 0 then y else x)) ∧ w = w' := by
  obtain ⟨r, hr⟩ : ∃ r, r = (if x = 0 then y else x) := ⟨_, rfl⟩
  rw [← hr]
  have Hr := Lib.hid hr
  clear hr
  go_enter Try.func152, Try.ntmps152
  go_wp2
  go_loopw [8] (fun i wr => ∃ k : Nat, k ≤ 2 ∧ i = .int .i64 k ∧ wr = w ∧ Hid ((1 ≤ k → x = 0) ∧ (2 ≤ k → y = 0))) (fun i _ => 2 - (intOf i).toNat)
  case atStart => exact ⟨0, by omega, rfl, rfl, Lib.hid ⟨by omega, by omega⟩⟩
  case round =>
    obtain ⟨k, hk, rfl, rfl, Hxy⟩ := hrel
    rcases (show k = 0 ∨ k = 1 ∨ k = 2 by omega) with rfl | rfl | rfl
    · by_cases hx0 : x = 0
      · have hne : (x != 0) = false := by simpa using hx0
        have Hx0 := Lib.hid hx0
        clear hx0
        go_wp2
        exact ⟨⟨1, by omega, rfl, by first | rfl | trivial, Lib.hid ⟨fun _ => Hx0.out, by omega⟩⟩, by simp [intOf]⟩
      · have hne : (x != 0) = true := by simpa using hx0
        go_wp2
        go_ret
        exact ⟨by rw [Hr.out, if_neg hx0]; rfl, rfl⟩
    · by_cases hy0 : y = 0
      · have hne : (y != 0) = false := by simpa using hy0
        have Hy0 := Lib.hid hy0
        clear hy0
        go_wp2
        exact ⟨⟨2, by omega, rfl, by first | rfl | trivial, Lib.hid ⟨fun _ => Hxy.out.1 (by omega), fun _ => Hy0.out⟩⟩, by simp [intOf]⟩
      · have hne : (y != 0) = true := by simpa using hy0
        go_wp2
        go_ret
        exact ⟨by rw [Hr.out, if_pos (Hxy.out.1 (by omega))]; rfl, rfl⟩
    · go_wp2
      go_ret
      exact ⟨by rw [Hr.out, if_pos (Hxy.out.1 (by omega)), Hxy.out.2 (by omega)]; rfl, rfl⟩
theorem ordE_cmp (a b : PElem) : ordE a b = if cmpI a.key b.key = 0 then cmpI a.from_ b.from_ else cmpI a.key b.key := by
  unfold ordE cmpI
  repeat' split
  all_goals first | rfl | omega
set_option maxRecDepth 100000 in
set_option maxHeartbeats 4000000 in
theorem p_order (a b : PElem) (w : World) : Calls Try.prog 150 #[.agg #[.int .i64 a.key, .int .i64 a.from_], .agg #[.int .i64 b.key, .int .i64 b.from_]] w fun e w' => e = .returned (.int .i64 (ordE a b)) ∧ Below w.heap.size w w' := by
  go_enter Try.func150, Try.ntmps150
  go_upto_region 1 with fail
  obtain ⟨k1, k2, hB⟩ := two_new w ((w.alloc (.cells #[.int .i64 a.key, .int .i64 a.from_] 58)).alloc (.cells #[.int .i64 b.key, .int .i64 b.from_] 58)) _ _ _ _ (by simpa using Below.refl _ _)
  have K1 := Lib.hid k1
  have K2 := Lib.hid k2
  have HB := Lib.hid hB
  clear k1 k2 hB
  generalize ((w.alloc (.cells #[.int .i64 a.key, .int .i64 a.from_] 58)).alloc (.cells #[.int .i64 b.key, .int .i64 b.from_] 58)) = w2 at K1 K2 HB ⊢
  refine wp_region_flow [.free 0, .calm 1, .free 2, .calm 3, .calm 4, .free 5, .calm 6, .free 7, .calm 8, .calm 9, .group [10], .fence 11, .free 12] (Below w2.heap.size w2) (Below w2.heap.size w2) (stable_below _ _ (Nat.le_refl _)) (fun _ h => h) (by kernel_rfl) (by kernel_rfl) (below_drew1 (Below.refl _ _)) ?_
  simp only [pickEnts, pickF, List.getElem?_cons_succ, List.getElem?_cons_zero, List.filterMap_cons, List.filterMap_nil, Option.map_some]
  repeat ((first | refine flow_calm (fun K hK => ?_) | refine flow_free (fun K hK => ?_) | refine float_calm (fun K hK => ?_) | refine float_free (fun K hK => ?_)); go_simp; first | (refine hK _ ?_; clear hK K) | (apply Exists.intro; (refine ⟨fun X => ?_, hK _ ?_⟩); (first | (intro hC; rfl) | rfl | (intro hC; have x := K1.out.later hC.out; have x0 := x.cell 0 _ rfl; have x1 := x.cell 1 _ rfl; have y := K2.out.later hC.out; have y0 := y.cell 0 _ rfl; have y1 := y.cell 1 _ rfl; go_simp; done) | (intro hC; have x := K1.out.later hC.out; have x0 := x.cell 0 _ rfl; have x1 := x.cell 1 _ rfl; have y := K2.out.later hC.out; have y0 := y.cell 0 _ rfl; have y1 := y.cell 1 _ rfl; go_simp; rfl) | (intro hC; (with_reducible refine (p_cmp a.key b.key _).mono ?_); rintro e w' ⟨rfl, rfl⟩; exact ⟨rfl, Below.refl _ _⟩) | (intro hC; (with_reducible refine (p_cmp a.from_ b.from_ _).mono ?_); rintro e w' ⟨rfl, rfl⟩; exact ⟨rfl, Below.refl _ _⟩)); clear hK K))
  refine flow_one (fun v X => ∃ B, v = .slice (some ⟨B, 0, none⟩) 2 2 ∧ Cells X B #[.int .i64 (cmpI a.key b.key), .int .i64 (cmpI a.from_ b.from_)] 3) (fun _ _ _ h hb => by obtain ⟨B, h1, h2⟩ := h; exact ⟨B, h1, h2.later hb⟩) ⟨rfl, fun X hX => ?_⟩ (fun v X0 hX0 hV0 => ?_)
  · go_simp
    exact ⟨below_alloc (Below.refl _ _) _, Cells.new _ _ _⟩
  obtain ⟨B, rfl, -⟩ := hV0
  clear hX0
  refine flow_fence rfl (fun X hX K hK => ?_)
  obtain ⟨hb, B', e, hcB⟩ := hX.out
  cases e
  go_simp
  refine (p_or _ _ B 2 X (hcB.cell 0 _ rfl) (hcB.cell 1 _ rfl) (Nat.le_refl _)).mono ?_
  rintro e w' ⟨rfl, rfl⟩
  rw [← ordE_cmp a b]
  refine hK.out _ _ (Below w2.heap.size w2) (Below w2.heap.size w2) (stable_below _ _ (Nat.le_refl _)) (fun _ h => h) hb ?_
  clear hK K hX hb hcB
  repeat ((first | refine flow_calm (fun K hK => ?_) | refine flow_free (fun K hK => ?_) | refine float_calm (fun K hK => ?_) | refine float_free (fun K hK => ?_)); go_simp; first | (refine hK _ ?_; clear hK K) | (apply Exists.intro; (refine ⟨fun X => ?_, hK _ ?_⟩); (first | (intro hC; rfl) | rfl | (intro hC; skip; go_simp; done) | (intro hC; skip; go_simp; rfl)); clear hK K))
  refine flow_nil ?_
  intro Y hY
  go_wp2
  go_ret
  exact ⟨rfl, below_step HB.out hY.out⟩
end Go.Proofs.Ytemkloildadokaa
set_option linter.unusedVariables false
set_option linter.unusedSimpArgs false
/-! The pile: its methods, walked. -/
namespace Go.Proofs.Ytemkloildadokaa
open Go.RowKit Go.Shelf Go.Proofs.YtemkloildadokaaW.PrintWords

set_option maxRecDepth 100000 in
set_option maxHeartbeats 2000000 in
theorem pile_Len (A : Option Addr) (n c : Nat) (w : World) : Calls Try.prog 144 #[.slice A n c] w fun e w' => e = .returned (.int .i64 n) ∧ w = w' := by
  go_enter Try.func144, Try.ntmps144
  go_wp2
  go_ret
  exact ⟨rfl, rfl⟩
/-- A pile in its box: a row of the call's own. -/
structure Pile (h0 : Nat) (w : World) (B : Nat) (l : List PElem) : Prop where
  hb : h0 ≤ B
  row : ∃ A n c, Cells w B #[.slice A n c] 113 ∧ Own kPElem 58 w h0 (.slice A n c) l
set_option maxRecDepth 100000 in
set_option maxHeartbeats 2000000 in
theorem pile_Less (h0 : Nat) (A : Option Addr) (n c : Nat) (l : List PElem) (i j : Nat) (w : World) (ho : Own kPElem 58 w h0 (.slice A n c) l) (hi : i < l.length) (hj : j < l.length) :
    Calls Try.prog 145 #[.slice A n c, .int .i64 i, .int .i64 j] w fun e w' => e = .returned (.bool (eltB (gE l i) (gE l j))) ∧ Below w.heap.size w w' := by
  obtain ⟨A', c', he, hc, hrow⟩ := own_reads' ho
  injection he with e1 e2 e3
  subst e1 e2 e3
  have hmx : l.length ≤ 9223372036854775807 := hrow.2.1
  obtain ⟨x, ad, -, -, hx, hA, x0, x1⟩ := pelem_at hrow i hi
  obtain ⟨y, ad', -, -, hy, hA', y0, y1⟩ := pelem_at hrow j hj
  subst hA
  cases hA'
  have hgx : gE l i = x := by rw [gE, hx]; rfl
  have hgy : gE l j = y := by rw [gE, hy]; rfl
  rw [hgx, hgy, ← ordE_lt]
  have X0 := Lib.hid x0
  have X1 := Lib.hid x1
  have Y0 := Lib.hid y0
  have Y1 := Lib.hid y1
  clear hrow ho hx hy hgx hgy x0 x1 y0 y1
  go_enter Try.func145, Try.ntmps145
  go_wp2
  refine wp_region_flow [.free 0, .free 1, .free 2, .calm 3, .free 4, .free 5, .free 6, .calm 7, .calm 8, .free 9, .free 10] (Below w.heap.size w) (Below w.heap.size w) (stable_below _ _ (Nat.le_refl _)) (fun _ h => h) (by kernel_rfl) (by kernel_rfl) (below_drew1 (Below.refl _ _)) ?_
  simp only [pickEnts, pickF, List.getElem?_cons_succ, List.getElem?_cons_zero, List.filterMap_cons, List.filterMap_nil, Option.map_some]
  repeat ((first | refine flow_calm (fun K hK => ?_) | refine flow_free (fun K hK => ?_) | refine float_calm (fun K hK => ?_) | refine float_free (fun K hK => ?_)); go_simp; first | (refine hK _ ?_; clear hK K) | (apply Exists.intro; (refine ⟨fun X => ?_, hK _ ?_⟩); (first | (intro hC; rfl) | rfl | (intro hC; have x0 := cell_keep hC.out X0.out; have x1 := cell_keep hC.out X1.out; have y0 := cell_keep hC.out Y0.out; have y1 := cell_keep hC.out Y1.out; go_simp; done) | (intro hC; have x0 := cell_keep hC.out X0.out; have x1 := cell_keep hC.out X1.out; have y0 := cell_keep hC.out Y0.out; have y1 := cell_keep hC.out Y1.out; go_simp; rfl) | (intro hC; (with_reducible refine (p_order x y _).mono ?_); rintro e w' ⟨rfl, hb⟩; exact ⟨rfl, hb⟩)); clear hK K))
  refine flow_nil ?_
  intro Y hY
  go_wp2
  go_ret
  exact ⟨rfl, hY.out⟩
/-- An element of a row of the call's own is turned. -/
theorem own_elem_set {h0 g n c : Nat} {w : World} {l : List PElem} (h : Own kPElem 58 w h0 (.slice (some ⟨g, 0, none⟩) n c) l) {i : Nat} (hi : i < l.length) (y : PElem) :
    Own kPElem 58 ((w.setCell ⟨g, i * 2, none⟩ (.int .i64 y.key)).setCell ⟨g, i * 2 + 1, none⟩ (.int .i64 y.from_)) h0 (.slice (some ⟨g, 0, none⟩) n c) (l.set i y) := by
  have h1 := (own_setK kPElem pelemCells (fun _ _ _ h => kPElem_open h) (fun _ _ _ x => kPElem_mkM _ _ _ x) h (i := i) (List.getElem?_eq_getElem hi) ⟨y.key, l[i].from_⟩ 0 (by decide) (.int .i64 y.key) rfl).1
  have h2 := (own_setK kPElem pelemCells (fun _ _ _ h => kPElem_open h) (fun _ _ _ x => kPElem_mkM _ _ _ x) h1 (i := i) (List.getElem?_set_self hi) y 1 (by decide) (.int .i64 y.from_) rfl).1
  rw [List.set_set] at h2
  exact h2
theorem grownBy_set2 (w : World) (g i j : Nat) (u v : Value) : w.grownBy ((w.setCell ⟨g, i, none⟩ u).setCell ⟨g, j, none⟩ v) (some g) :=
  ⟨rfl, rfl, rfl, by simp, fun k hk hne => (Below.heap_setCell _ ⟨g, j, none⟩ v k (fun e => hne (by rw [show k = g from e]))).trans (Below.heap_setCell w ⟨g, i, none⟩ u k (fun e => hne (by rw [show k = g from e])))⟩
theorem grown_trans {w w1 w2 : World} {r : Option Nat} (h : w.grownBy w1 r) (h' : w1.grownBy w2 r) : w.grownBy w2 r := h.trans h'
set_option maxRecDepth 100000 in
set_option maxHeartbeats 4000000 in
theorem pile_Swap (h0 : Nat) (A : Option Addr) (n c : Nat) (l : List PElem) (i j : Nat) (w : World) (ho : Own kPElem 58 w h0 (.slice A n c) l) (hi : i < l.length) (hj : j < l.length) (hh : h0 ≤ w.heap.size) :
    Calls Try.prog 148 #[.slice A n c, .int .i64 i, .int .i64 j] w fun e w' => e = .returned (.tuple #[]) ∧ Own kPElem 58 w' h0 (.slice A n c) (swapE l i j) ∧ w.grownBy w' (Value.slice A n c).ownBlock ∧ Below h0 w w' := by
  obtain ⟨A', c', he, hc, hrow⟩ := own_reads' ho
  injection he with e1 e2 e3
  subst e1 e2 e3
  have hmx : l.length ≤ 9223372036854775807 := hrow.2.1
  obtain ⟨g, hA, hg0, hgl, cx, gf⟩ := own_cellsK kPElem pelemCells (fun _ _ _ h => kPElem_open h) (fun _ => rfl) ho (gE_get hi)
  obtain ⟨g', hA', -, -, cy, -⟩ := own_cellsK kPElem pelemCells (fun _ _ _ h => kPElem_open h) (fun _ => rfl) ho (gE_get hj)
  subst hA
  cases hA'
  have Ho := Lib.hid ho
  have X0 := Lib.hid (show w.cell? ⟨g, i * 2, none⟩ = some (.int .i64 (gE l i).key) from cx 0 _ rfl)
  have X1 := Lib.hid (show w.cell? ⟨g, i * 2 + 1, none⟩ = some (.int .i64 (gE l i).from_) from cx 1 _ rfl)
  have Y0 := Lib.hid (show w.cell? ⟨g, j * 2, none⟩ = some (.int .i64 (gE l j).key) from cy 0 _ rfl)
  have Y1 := Lib.hid (show w.cell? ⟨g, j * 2 + 1, none⟩ = some (.int .i64 (gE l j).from_) from cy 1 _ rfl)
  clear hrow ho cx cy gf
  go_enter Try.func148, Try.ntmps148
  go_wp2
  refine wp_region_flow [.free 0, .free 1, .free 2, .free 3, .free 4, .free 5, .free 6, .calm 7, .free 8, .free 9, .free 10, .calm 11, .free 12, .fence 13, .free 14, .fence 15] (Below w.heap.size w) (Below w.heap.size w) (stable_below _ _ (Nat.le_refl _)) (fun _ h => h) (by kernel_rfl) (by kernel_rfl) (below_drew1 (Below.refl _ _)) ?_
  simp only [pickEnts, pickF, List.getElem?_cons_succ, List.getElem?_cons_zero, List.filterMap_cons, List.filterMap_nil, Option.map_some]
  repeat ((first | refine flow_calm (fun K hK => ?_) | refine flow_free (fun K hK => ?_) | refine float_calm (fun K hK => ?_) | refine float_free (fun K hK => ?_)); go_simp; first | (refine hK _ ?_; clear hK K) | (apply Exists.intro; (refine ⟨fun X => ?_, hK _ ?_⟩); (first | (intro hC; rfl) | rfl | (intro hC; have x0 : X.cell? ⟨g, i * 2, none⟩ = _ := cell_keep hC.out X0.out; have x1 : X.cell? ⟨g, i * 2 + 1, none⟩ = _ := cell_keep hC.out X1.out; have y0 : X.cell? ⟨g, j * 2, none⟩ = _ := cell_keep hC.out Y0.out; have y1 : X.cell? ⟨g, j * 2 + 1, none⟩ = _ := cell_keep hC.out Y1.out; go_simp; done) | (intro hC; have x0 : X.cell? ⟨g, i * 2, none⟩ = _ := cell_keep hC.out X0.out; have x1 : X.cell? ⟨g, i * 2 + 1, none⟩ = _ := cell_keep hC.out X1.out; have y0 : X.cell? ⟨g, j * 2, none⟩ = _ := cell_keep hC.out Y0.out; have y1 : X.cell? ⟨g, j * 2 + 1, none⟩ = _ := cell_keep hC.out Y1.out; go_simp; rfl)); clear hK K))
  refine flow_fence rfl (fun X hX K hK => ?_)
  have hown := Kd.R_below Ho.out hX.out
  obtain ⟨g', hA', -, -, cx, gf⟩ := own_cellsK kPElem pelemCells (fun _ _ _ h => kPElem_open h) (fun _ => rfl) hown (gE_get hi)
  cases hA'
  have x0 : X.cell? ⟨g, i * 2, none⟩ = _ := cx 0 _ rfl
  have x1 : X.cell? ⟨g, i * 2 + 1, none⟩ = _ := cx 1 _ rfl
  have f0 := gf (i * 2)
  have f1 := gf (i * 2 + 1)
  clear cx gf
  go_simp
  have hO := own_elem_set hown hi (gE l j)
  have hG := grown_trans (below_grown hX.out (some g)) (grownBy_set2 X g (i * 2) (i * 2 + 1) (.int .i64 (gE l j).key) (.int .i64 (gE l j).from_))
  have hB : Below h0 w ((X.setCell ⟨g, i * 2, none⟩ (.int .i64 (gE l j).key)).setCell ⟨g, i * 2 + 1, none⟩ (.int .i64 (gE l j).from_)) := ((Below.mono hX.out hh).setCell (p := ⟨g, i * 2, none⟩) hg0 _).setCell (p := ⟨g, i * 2 + 1, none⟩) hg0 _
  refine hK.out _ _ (fun Z => Own kPElem 58 Z h0 (.slice (some ⟨g, 0, none⟩) l.length c) (l.set i (gE l j)) ∧ w.grownBy Z (some g) ∧ Below h0 w Z) (fun Z => Own kPElem 58 Z h0 (.slice (some ⟨g, 0, none⟩) l.length c) (l.set i (gE l j)) ∧ w.grownBy Z (some g) ∧ Below h0 w Z) (fun Z Z' hZ hb => ⟨Kd.R_below hZ.1 hb, hZ.2.1.trans (below_grown hb _), hZ.2.2.trans (Below.mono hb (Nat.le_trans hh hZ.2.2.size))⟩) (fun _ h => h) ⟨hO, hG, hB⟩ ?_
  clear hK K hX hown x0 x1 f0 f1 hO hG hB
  repeat ((first | refine flow_calm (fun K hK => ?_) | refine flow_free (fun K hK => ?_) | refine float_calm (fun K hK => ?_) | refine float_free (fun K hK => ?_)); go_simp; first | (refine hK _ ?_; clear hK K) | (apply Exists.intro; (refine ⟨fun X => ?_, hK _ ?_⟩); (first | (intro hC; rfl) | rfl | (intro hC; skip; go_simp; done) | (intro hC; skip; go_simp; rfl)); clear hK K))
  refine flow_fence rfl (fun X hX K hK => ?_)
  obtain ⟨hown, hgr, hbl⟩ := hX.out
  obtain ⟨g', hA', -, -, cx, gf⟩ := own_cellsK kPElem pelemCells (fun _ _ _ h => kPElem_open h) (fun _ => rfl) hown (i := j) (gE_get (by rw [List.length_set]; exact hj))
  cases hA'
  have x0 : X.cell? ⟨g, j * 2, none⟩ = _ := cx 0 _ rfl
  have x1 : X.cell? ⟨g, j * 2 + 1, none⟩ = _ := cx 1 _ rfl
  have f0 := gf (j * 2)
  have f1 := gf (j * 2 + 1)
  clear cx gf
  go_simp
  have hO := own_elem_set hown (i := j) (by rw [List.length_set]; exact hj) (gE l i)
  have hG := grown_trans hgr (grownBy_set2 X g (j * 2) (j * 2 + 1) (.int .i64 (gE l i).key) (.int .i64 (gE l i).from_))
  have hB := (hbl.setCell (p := ⟨g, j * 2, none⟩) hg0 (.int .i64 (gE l i).key)).setCell (p := ⟨g, j * 2 + 1, none⟩) hg0 (.int .i64 (gE l i).from_)
  refine hK.out _ _ (fun Z => Own kPElem 58 Z h0 (.slice (some ⟨g, 0, none⟩) l.length c) (swapE l i j) ∧ w.grownBy Z (some g) ∧ Below h0 w Z) (fun Z => Own kPElem 58 Z h0 (.slice (some ⟨g, 0, none⟩) l.length c) (swapE l i j) ∧ w.grownBy Z (some g) ∧ Below h0 w Z) (fun Z Z' hZ hb => ⟨Kd.R_below hZ.1 hb, hZ.2.1.trans (below_grown hb _), hZ.2.2.trans (Below.mono hb (Nat.le_trans hh hZ.2.2.size))⟩) (fun _ h => h) ⟨hO, hG, hB⟩ ?_
  clear hK K hX hown x0 x1 f0 f1 hO hG hB hgr hbl
  refine flow_nil ?_
  intro Y hY
  refine bodyPost_end (results_none rfl _ _ _) rfl ?_
  exact ⟨rfl, hY.out.1, hY.out.2.1, hY.out.2.2⟩
end Go.Proofs.Ytemkloildadokaa
set_option linter.unusedVariables false
set_option linter.unusedSimpArgs false
/-! The pile in its box: Push and Pop, walked. -/
namespace Go.Proofs.Ytemkloildadokaa
open Go.RowKit Go.Shelf Go.Proofs.YtemkloildadokaaW.PrintWords

theorem run_assert (v : Value) (u : TypeId) (w : World) : (Instr.typeAssert (.iface 58 v) u 58 false).run Try.prog w = .ok v w := by kernel_rfl
attribute [go_sem] run_assert
/-- A pile in its box; own: the block of its row. -/
structure PileS (h0 : Nat) (w : World) (B : Nat) (own : Option Nat) (l : List PElem) : Prop where
  hb : h0 ≤ B
  row : ∃ A n c, Cells w B #[.slice A n c] 113 ∧ Own kPElem 58 w h0 (.slice A n c) l ∧ (Value.slice A n c).ownBlock = own
/-- What a pile's method turns: its box and its row. -/
structure PFr (h0 : Nat) (w w' : World) (B : Nat) (own own' : Option Nat) : Prop where
  below : Below h0 w w'
  keep : ∀ k, k < w.heap.size → k ≠ B → some k ≠ own → w'.heap[k]? = w.heap[k]?
  row : own' = own ∨ ∃ g, own' = some g ∧ w.heap.size ≤ g
theorem PFr.refl (h0 : Nat) (w : World) (B : Nat) (own : Option Nat) : PFr h0 w w B own own := ⟨Below.refl _ _, fun _ _ _ _ => rfl, .inl rfl⟩
theorem PFr.size {h0 : Nat} {w w' : World} {B : Nat} {own own' : Option Nat} (h : PFr h0 w w' B own own') : w.heap.size ≤ w'.heap.size := h.below.size
theorem PFr.trans {h0 : Nat} {w w' w'' : World} {B : Nat} {own own' own'' : Option Nat} (h : PFr h0 w w' B own own') (h' : PFr h0 w' w'' B own' own'') : PFr h0 w w'' B own own'' := by
  refine ⟨h.below.trans h'.below, fun k hk hB ho => ?_, ?_⟩
  · refine (h'.keep k (Nat.lt_of_lt_of_le hk h.size) hB fun e => ?_).trans (h.keep k hk hB ho)
    rcases h.row with r | ⟨g, r, hg⟩
    · exact ho (e.trans r)
    · rw [r] at e; cases e; omega
  · rcases h'.row with r' | ⟨g, r', hg⟩
    · rcases h.row with r | ⟨g, r, hg⟩
      · exact .inl (r'.trans r)
      · exact .inr ⟨g, r'.trans r, hg⟩
    · exact .inr ⟨g, r', Nat.le_trans h.size hg⟩
theorem PFr.of {h0 : Nat} {w w' : World} {B : Nat} {own : Option Nat} (hb : Below w.heap.size w w') (hh : h0 ≤ w.heap.size) : PFr h0 w w' B own own := ⟨Below.mono hb hh, fun k hk _ _ => hb.block k hk, .inl rfl⟩
theorem PFr.later {h0 : Nat} {w w' w'' : World} {B : Nat} {own own' : Option Nat} (h : PFr h0 w w' B own own') (hb : Below w'.heap.size w' w'') (hh : h0 ≤ w.heap.size) : PFr h0 w w'' B own own' := h.trans (.of hb (Nat.le_trans hh h.size))
theorem PileS.later {h0 : Nat} {w w' : World} {B : Nat} {own : Option Nat} {l : List PElem} (h : PileS h0 w B own l) (hb : Below w.heap.size w w') : PileS h0 w' B own l := by
  obtain ⟨A, n, c, h1, h2, h3⟩ := h.row
  exact ⟨h.hb, A, n, c, h1.later hb, Kd.R_below h2 hb, h3⟩
theorem PileS.kept {h0 : Nat} {w w' : World} {B : Nat} {own : Option Nat} {l : List PElem} (h : PileS h0 w B own l) (hB : w'.heap[B]? = w.heap[B]?) (ho : ∀ g, own = some g → w'.heap[g]? = w.heap[g]?) : PileS h0 w' B own l := by
  obtain ⟨A, n, c, h1, h2, h3⟩ := h.row
  exact ⟨h.hb, A, n, c, hB.trans h1, own_step flat_pelem h2 (fun k hk => ho k (h3 ▸ hk)), h3⟩
theorem PileS.lt {h0 : Nat} {w : World} {B : Nat} {own : Option Nat} {l : List PElem} (h : PileS h0 w B own l) : B < w.heap.size := by
  obtain ⟨A, n, c, h1, h2, h3⟩ := h.row
  exact h1.lt
theorem PileS.own_lt {h0 : Nat} {w : World} {B : Nat} {own : Option Nat} {l : List PElem} (h : PileS h0 w B own l) : ∀ g, own = some g → h0 ≤ g ∧ g < w.heap.size ∧ g ≠ B := fun g hg => by
  obtain ⟨A, n, c, h1, h2, h3⟩ := h.row
  obtain ⟨h4, cs, hc⟩ := own_ty h2 (h3.trans hg)
  exact ⟨h4, (Array.getElem?_eq_some_iff.1 hc).1, ty_ne hc (show w.heap[B]? = _ from h1) (by decide)⟩
def PilePost (h0 B : Nat) (own : Option Nat) (l' : List PElem) (v : Value) (w : World) (e : Ending) (w' : World) : Prop := e = .returned v ∧ ∃ own', PileS h0 w' B own' l' ∧ PFr h0 w w' B own own'
set_option maxRecDepth 100000 in
set_option maxHeartbeats 4000000 in
theorem pile_Push (h0 B : Nat) (own : Option Nat) (l : List PElem) (x : PElem) (w : World) (hp : PileS h0 w B own l) (hl : l.length ≤ 1000000) (hh : h0 ≤ w.heap.size) :
    Calls Try.prog 147 #[.pointer (some ⟨B, 0, none⟩), .iface 58 (.agg #[.int .i64 x.key, .int .i64 x.from_])] w (PilePost h0 B own (l ++ [x]) (.tuple #[]) w) := by
  have hb := hp.hb
  obtain ⟨A, n, c, h1, h2, h3⟩ := hp.row
  have H1 := Lib.hid h1
  have H2 := Lib.hid h2
  have H3 := Lib.hid h3
  clear hp h1 h2 h3
  go_enter Try.func147, Try.ntmps147
  go_wp2
  refine wp_region_flow [.free 0, .free 1, .free 2, .calm 3, .free 4, .free 5, .group [6], .fence 7, .free 8, .fence 9] (Below w.heap.size w) (Below w.heap.size w) (stable_below _ _ (Nat.le_refl _)) (fun _ h => h) (by kernel_rfl) (by kernel_rfl) (below_drew1 (Below.refl _ _)) ?_
  simp only [pickEnts, pickF, List.getElem?_cons_succ, List.getElem?_cons_zero, List.filterMap_cons, List.filterMap_nil, Option.map_some]
  repeat ((first | refine flow_calm (fun K hK => ?_) | refine flow_free (fun K hK => ?_) | refine float_calm (fun K hK => ?_) | refine float_free (fun K hK => ?_)); go_simp; first | (refine hK _ ?_; clear hK K) | (apply Exists.intro; (refine ⟨fun X => ?_, hK _ ?_⟩); (first | (intro hC; rfl) | rfl | (intro hC; have q := H1.out.later hC.out; have q0 := q.cell 0 _ rfl; go_simp; done) | (intro hC; have q := H1.out.later hC.out; have q0 := q.cell 0 _ rfl; go_simp; rfl)); clear hK K))
  refine flow_one (fun v X => ∃ D, v = .slice (some ⟨D, 0, none⟩) 1 1 ∧ Cells X D #[.int .i64 x.key, .int .i64 x.from_] 58) (fun _ _ _ h hb => by obtain ⟨B, h1, h2⟩ := h; exact ⟨B, h1, h2.later hb⟩) ⟨rfl, fun X hX => ?_⟩ (fun v X0 hX0 hV0 => ?_)
  · go_simp
    exact ⟨below_alloc (Below.refl _ _) _, Cells.new _ _ _⟩
  obtain ⟨D, rfl, -⟩ := hV0
  clear hX0
  refine flow_fence rfl (fun X hX K hK => ?_)
  obtain ⟨hbX, D', e, hcD⟩ := hX.out
  cases e
  have hown := Kd.R_below H2.out hbX
  refine Kd.R_append_rows_step kPElem (w0 := X) h0 (by rfl) (.tmp 7) (.tmp 10) 113 58 (.agg #[.int .i64 0, .int .i64 0]) 16 rfl (by kernel_rfl) (by kernel_rfl) rfl (by decide) (by omega) (.slice A n c) l [x] _ _ _ (fun _ => True) (fun _ => False) rfl rfl hown (lit_row kPElem X D x (pelemCells x) 58 hcD (kPElem_mk _ _)) (fun x cs h => pelem_KM _ _ _ _ x cs h) (fun _ h => h.elim) (fun _ _ => trivial) (Below.refl _ _) (Nat.le_trans hh hbX.size) (by omega) ?_
  intro v1 w1 r1 r2 r3 r4
  obtain ⟨A1, n1, c1, rfl⟩ := R_slice' r1
  have hbx := (H1.out.later hbX).kept r3 (fun e => by obtain ⟨_, cs, hc⟩ := own_ty hown e.symm; exact absurd (cells_ty (show Cells X B _ _ from hc) (H1.out.later hbX)) (by decide))
  have hfr : PFr h0 w w1 B own (Value.slice A1 n1 c1).ownBlock := ⟨(Below.mono hbX hh).trans r2, fun k hk hkB hko => (r3.block k (Nat.lt_of_lt_of_le hk hbX.size) (fun e => hko (e.trans H3.out))).trans (hbX.block k hk), by
    rcases r4 with r4 | ⟨b, hb, hle⟩
    · exact .inl (r4.trans H3.out)
    · exact .inr ⟨b, hb, Nat.le_trans hbX.size hle⟩⟩
  refine hK.out _ _ (fun Z => Cells Z B #[.slice A n c] 113 ∧ Own kPElem 58 Z h0 (.slice A1 n1 c1) (l ++ [x]) ∧ PFr h0 w Z B own (Value.slice A1 n1 c1).ownBlock) (fun Z => Cells Z B #[.slice A n c] 113 ∧ Own kPElem 58 Z h0 (.slice A1 n1 c1) (l ++ [x]) ∧ PFr h0 w Z B own (Value.slice A1 n1 c1).ownBlock) (fun Z Z' hZ hb => ⟨hZ.1.later hb, Kd.R_below hZ.2.1 hb, hZ.2.2.later hb hh⟩) (fun _ h => h) ⟨hbx, r1, hfr⟩ ?_
  clear hK K hX hbX hcD hown r1 r2 r3 r4 hbx hfr
  repeat ((first | refine flow_calm (fun K hK => ?_) | refine flow_free (fun K hK => ?_) | refine float_calm (fun K hK => ?_) | refine float_free (fun K hK => ?_)); go_simp; first | (refine hK _ ?_; clear hK K) | (apply Exists.intro; (refine ⟨fun X => ?_, hK _ ?_⟩); (first | (intro hC; rfl) | rfl | (intro hC; skip; go_simp; done) | (intro hC; skip; go_simp; rfl)); clear hK K))
  refine flow_fence rfl (fun X hX K hK => ?_)
  obtain ⟨hbx, hown, hfr⟩ := hX.out
  have k0 := hbx.cell 0 _ rfl
  have kf := hbx.frozen 0
  go_simp
  have hset : PileS h0 (X.setCell ⟨B, 0, none⟩ (.slice A1 n1 c1)) B (Value.slice A1 n1 c1).ownBlock (l ++ [x]) := ⟨hb, A1, n1, c1, hbx.set _, own_step flat_pelem hown (fun k hk => by
    obtain ⟨_, cs, hc⟩ := own_ty hown hk
    exact Below.heap_setCell X ⟨B, 0, none⟩ _ k (ty_ne hc (show X.heap[B]? = _ from hbx) (by decide))), rfl⟩
  have hfr2 : PFr h0 w (X.setCell ⟨B, 0, none⟩ (.slice A1 n1 c1)) B own (Value.slice A1 n1 c1).ownBlock := ⟨hfr.below.setCell (p := ⟨B, 0, none⟩) hb _, fun k hk hkB hko => (Below.heap_setCell X ⟨B, 0, none⟩ _ k hkB).trans (hfr.keep k hk hkB hko), hfr.row⟩
  refine hK.out _ _ (fun Z => PileS h0 Z B (Value.slice A1 n1 c1).ownBlock (l ++ [x]) ∧ PFr h0 w Z B own (Value.slice A1 n1 c1).ownBlock) (fun Z => PileS h0 Z B (Value.slice A1 n1 c1).ownBlock (l ++ [x]) ∧ PFr h0 w Z B own (Value.slice A1 n1 c1).ownBlock) (fun Z Z' hZ hb => ⟨hZ.1.later hb, hZ.2.later hb hh⟩) (fun _ h => h) ⟨hset, hfr2⟩ ?_
  clear hK K hX hbx hown hfr k0 kf hset hfr2
  refine flow_nil ?_
  intro Y hY
  refine bodyPost_end (results_none rfl _ _ _) rfl ?_
  exact ⟨rfl, _, hY.out.1, hY.out.2⟩
set_option maxRecDepth 100000 in
set_option maxHeartbeats 4000000 in
theorem pile_Pop (h0 B : Nat) (own : Option Nat) (l : List PElem) (m : Nat) (w : World) (hp : PileS h0 w B own l) (hm : l.length = m + 1) (hh : h0 ≤ w.heap.size) :
    Calls Try.prog 146 #[.pointer (some ⟨B, 0, none⟩)] w (PilePost h0 B own (l.take m) (.iface 58 (.agg #[.int .i64 (gE l m).key, .int .i64 (gE l m).from_])) w) := by
  have hb := hp.hb
  obtain ⟨A, n, c, h1, h2, h3⟩ := hp.row
  obtain ⟨A', c', he, hc, hrow⟩ := own_reads' h2
  injection he with e1 e2 e3
  subst e1 e2 e3
  have hmx : l.length ≤ 9223372036854775807 := hrow.2.1
  obtain ⟨g, hA, hg0, hgl, cx, gf⟩ := own_cellsK kPElem pelemCells (fun _ _ _ h => kPElem_open h) (fun _ => rfl) h2 (i := m) (gE_get (by omega))
  subst hA
  have x0 : w.cell? ⟨g, m * 2, none⟩ = _ := cx 0 _ rfl
  have x1 : w.cell? ⟨g, m * 2 + 1, none⟩ = _ := cx 1 _ rfl
  have q0 := h1.cell 0 _ rfl
  have hwr : IntKind.i64.wrap ((l.length : Int) - 1) = (m : Int) := by rw [IntWalk.i64_in _ (by omega)]; omega
  have hml : m < l.length := by omega
  have hmc : m ≤ c := by omega
  have H1 := Lib.hid h1
  have H2 := Lib.hid h2
  have H3 := Lib.hid h3
  clear hp h1 h2 h3 hrow cx gf
  go_enter Try.func146, Try.ntmps146
  go_upto_region 3 with fail
  have HX := Lib.hid (Cells.new w #[.int .i64 (gE l m).key, .int .i64 (gE l m).from_] 58)
  have hbs := below_alloc (Below.refl w.heap.size w) (.cells #[.int .i64 (gE l m).key, .int .i64 (gE l m).from_] 58)
  have HB := Lib.hid hbs
  have H1s := Lib.hid (H1.out.later hbs)
  have H2s := Lib.hid (Kd.R_below H2.out hbs)
  have hbn : ¬ B = w.heap.size := by have := H1.out.lt; omega
  have hbn' : ¬ w.heap.size = B := fun e => hbn e.symm
  clear hbs q0 x0 x1
  generalize w.alloc (.cells #[.int .i64 (gE l m).key, .int .i64 (gE l m).from_] 58) = w1 at HX HB H1s H2s ⊢
  have q0 := H1s.out.cell 0 _ rfl
  have qf := H1s.out.frozen 0
  have y0 := HX.out.cell 0 _ rfl
  have y1 := HX.out.cell 1 _ rfl
  go_wp2
  go_ret
  refine ⟨rfl, some g, ⟨hb, some ⟨g, 0, none⟩, m, c, H1s.out.set _, own_step flat_pelem (Kd.R_take H2s.out (by omega)) (fun k hk => by
    obtain ⟨_, cs, hc⟩ := own_ty H2s.out (k := k) hk
    exact Below.heap_setCell w1 ⟨B, 0, none⟩ _ k (ty_ne hc (show w1.heap[B]? = _ from H1s.out) (by decide))), rfl⟩, ⟨(Below.mono HB.out hh).setCell (p := ⟨B, 0, none⟩) hb _, fun k hk hkB hko => (Below.heap_setCell w1 ⟨B, 0, none⟩ _ k hkB).trans (HB.out.block k hk), .inl H3.out⟩⟩
end Go.Proofs.Ytemkloildadokaa
set_option linter.unusedVariables false
set_option linter.unusedSimpArgs false
/-! container/heap's up and down, walked on a pile. -/
namespace Go.Proofs.Ytemkloildadokaa
open Go.RowKit Go.Shelf Go.Proofs.YtemkloildadokaaW.PrintWords

abbrev pileI (B : Nat) : Value := .iface 112 (.pointer (some ⟨B, 0, none⟩))
theorem m_Push (B : Nat) (w : World) : (method 289 112 (.pointer (some ⟨B, 0, none⟩)) "Push").run Try.prog w = .ok (147, .pointer (some ⟨B, 0, none⟩)) w := by kernel_rfl
theorem m_Pop (B : Nat) (w : World) : (method 289 112 (.pointer (some ⟨B, 0, none⟩)) "Pop").run Try.prog w = .ok (146, .pointer (some ⟨B, 0, none⟩)) w := by kernel_rfl
theorem m_Len' (B : Nat) (w : World) : (method 289 112 (.pointer (some ⟨B, 0, none⟩)) "Len").run Try.prog w = ((do let v ← loadVar 113 ⟨B, 0, none⟩; pure (144, v)) : Sem (FuncId × Value)).run Try.prog w := by kernel_rfl
theorem m_Len (B : Nat) (v : Value) (w : World) (h : w.cell? ⟨B, 0, none⟩ = some v) : (method 289 112 (.pointer (some ⟨B, 0, none⟩)) "Len").run Try.prog w = .ok (144, v) w := by
  rw [m_Len']
  simp [go_sem, h]
theorem m_Less' (B : Nat) (w : World) : (method 289 112 (.pointer (some ⟨B, 0, none⟩)) "Less").run Try.prog w = ((do let v ← loadVar 113 ⟨B, 0, none⟩; pure (145, v)) : Sem (FuncId × Value)).run Try.prog w := by kernel_rfl
theorem m_Less (B : Nat) (v : Value) (w : World) (h : w.cell? ⟨B, 0, none⟩ = some v) : (method 289 112 (.pointer (some ⟨B, 0, none⟩)) "Less").run Try.prog w = .ok (145, v) w := by
  rw [m_Less']
  simp [go_sem, h]
theorem m_Swap' (B : Nat) (w : World) : (method 289 112 (.pointer (some ⟨B, 0, none⟩)) "Swap").run Try.prog w = ((do let v ← loadVar 113 ⟨B, 0, none⟩; pure (148, v)) : Sem (FuncId × Value)).run Try.prog w := by kernel_rfl
theorem m_Swap (B : Nat) (v : Value) (w : World) (h : w.cell? ⟨B, 0, none⟩ = some v) : (method 289 112 (.pointer (some ⟨B, 0, none⟩)) "Swap").run Try.prog w = .ok (148, v) w := by
  rw [m_Swap']
  simp [go_sem, h]
theorem PileS.swapped {h0 : Nat} {w w1 w2 : World} {B : Nat} {own own' : Option Nat} {A : Option Addr} {n c : Nat} {l l' : List PElem} (hb : h0 ≤ B) (h1 : Cells w1 B #[.slice A n c] 113) (h2 : Own kPElem 58 w1 h0 (.slice A n c) l) (h3 : (Value.slice A n c).ownBlock = own') (hf : PFr h0 w w1 B own own')
    (ho : Own kPElem 58 w2 h0 (.slice A n c) l') (hg : w1.grownBy w2 (Value.slice A n c).ownBlock) (hbl : Below h0 w1 w2) : PileS h0 w2 B own' l' ∧ PFr h0 w w2 B own own' := by
  refine ⟨⟨hb, A, n, c, h1.kept hg (fun e => by obtain ⟨_, cs, hc⟩ := own_ty h2 e.symm; exact absurd (cells_ty (show Cells w1 B _ _ from hc) h1) (by decide)), ho, h3⟩, hf.trans ⟨hbl, fun k hk hkB hko => hg.block k hk (fun e => hko (e.trans h3)), .inl rfl⟩⟩
/-- What is said of a pile that has been turned. -/
def HeapPost (h0 B : Nat) (own : Option Nat) (R : List PElem → Prop) (w : World) (e : Ending) (w' : World) : Prop := (∃ v, e = .returned v) ∧ ∃ own' l', PileS h0 w' B own' l' ∧ PFr h0 w w' B own own' ∧ R l'
set_option maxRecDepth 100000 in
set_option maxHeartbeats 8000000 in
theorem heap_up (h0 B : Nat) (own : Option Nat) (l : List PElem) (j : Nat) (w : World) (hp : PileS h0 w B own l) (hl : l.length ≤ 1000000) (hh : h0 ≤ w.heap.size) (hu : HeapUp l j) :
    Calls Try.prog 119 #[pileI B, .int .i64 j] w (HeapPost h0 B own (fun l' => l'.Perm l ∧ Heap l' l'.length) w) := by
  have Hp := Lib.hid hp
  have Hu := Lib.hid hu
  clear hp hu
  go_enter Try.func119, Try.ntmps119
  go_wp2
  go_loopw [1] (fun jv wr => ∃ (k : Nat) (own' : Option Nat) (l' : List PElem), jv = .int .i64 k ∧ Hid (PileS h0 wr B own' l') ∧ Hid (PFr h0 w wr B own own') ∧ l'.Perm l ∧ Hid (HeapUp l' k)) (fun jv _ => (intOf jv).toNat)
  case atStart => exact ⟨j, own, l, rfl, Hp, Lib.hid (PFr.refl _ _ _ _), .refl _, Hu⟩
  case round =>
    obtain ⟨k, own', l', rfl, Hp', Hf, hperm, Hu'⟩ := hrel
    have hlen := hperm.length_eq
    have hkl := Hu'.out.lt
    obtain ⟨A, n, c, h1, h2, h3⟩ := Hp'.out.row
    have q0 := h1.cell 0 _ rfl
    have hsz := Nat.le_trans hh Hf.out.size
    have H1 := Lib.hid h1
    have H2 := Lib.hid h2
    have H3 := Lib.hid h3
    clear h1 h2 h3
    by_cases hk0 : k = 0
    · subst hk0
      have hz1 : IntKind.i64.wrap ((0 : Nat) - 1 : Int) = -1 := by decide
      have hz2 : IntKind.i64.wrap ((-1 : Int).tdiv 2) = 0 := by decide
      go_wp2
      refine bodyPost_end (results_none rfl _ _ _) rfl ?_
      exact ⟨⟨_, rfl⟩, own', l', Hp'.out, Hf.out, hperm, Hu'.out.stop (.inl rfl)⟩
    · obtain ⟨m, hm⟩ : ∃ m, k = m + 1 := ⟨k - 1, by omega⟩
      obtain ⟨p, hpm⟩ : ∃ p, p = m / 2 := ⟨_, rfl⟩
      have hpk : p < k := by omega
      have hne : ¬ p = k := by omega
      have hne' : ((p : Int) == (k : Int)) = false := by simp; omega
      have hz1 : IntKind.i64.wrap ((k : Int) - 1) = (m : Int) := by rw [IntWalk.i64_in _ (by omega)]; omega
      have hz2 : wrap64 ((m : Int) / 2) = (p : Int) := by unfold wrap64; omega
      have hmL := m_Less B (.slice A n c) wr q0
      have Hkp := Lib.hid (show (k - 1) / 2 = p by rw [hpm, hm, Nat.add_sub_cancel])
      have hpl : p < l'.length := Nat.lt_trans hpk hkl
      clear hm hpm
      cases hb : eltB (gE l' k) (gE l' p)
      · have Hb := Lib.hid hb
        clear hb
        go_wp2_with (first
          | (go_at_call 145; (with_reducible refine (pile_Less h0 A n c l' k p wr H2.out hkl hpl).mono ?_); rintro e w2 ⟨rfl, hb2⟩; rw [Hb.out]))
        refine bodyPost_end (results_none rfl _ _ _) rfl ?_
        exact ⟨⟨_, rfl⟩, own', l', Hp'.out.later hb2, Hf.out.later hb2 hh, hperm, Hu'.out.stop (.inr (by rw [Hkp.out]; exact Hb.out))⟩
      · have Hb := Lib.hid hb
        clear hb
        go_wp2_with (first
          | (go_at_call 145; (with_reducible refine (pile_Less h0 A n c l' k p wr H2.out hkl hpl).mono ?_); rintro e w2 ⟨rfl, hb2⟩; rw [Hb.out]; have h12 := H1.out.later hb2; have q2 := h12.cell 0 _ rfl; have hmS := m_Swap B (.slice A n c) w2 q2; have ho2 := Kd.R_below H2.out hb2)
          | (go_at_call 148; (with_reducible refine (pile_Swap h0 A n c l' p k w2 ho2 hpl hkl (Nat.le_trans hsz hb2.size)).mono ?_); rintro e w3 ⟨rfl, ho3, hg3, hb3⟩))
        obtain ⟨hp3, hf3⟩ := PileS.swapped Hp'.out.hb h12 ho2 H3.out (Hf.out.later hb2 hh) ho3 hg3 hb3
        have hu3 := Hu'.out.step (Nat.pos_of_ne_zero hk0) (by rw [Hkp.out]; exact Hb.out)
        rw [Hkp.out] at hu3
        exact ⟨⟨p, own', _, rfl, Lib.hid hp3, Lib.hid hf3, (swap_perm hpl hkl).trans hperm, Lib.hid hu3⟩, by simpa [intOf] using hpk⟩
end Go.Proofs.Ytemkloildadokaa
set_option linter.unusedVariables false
set_option linter.unusedSimpArgs false
/-! container/heap's down, walked on a pile. -/
namespace Go.Proofs.Ytemkloildadokaa
open Go.RowKit Go.Shelf Go.Proofs.YtemkloildadokaaW.PrintWords

theorem gE_swap_far {l : List PElem} {i j q n : Nat} (hi : i < n) (hj : j < n) (hn : n ≤ l.length) (hq : n ≤ q) : gE (swapE l i j) q = gE l q := by
  rw [gE_swap (by omega) (by omega), if_neg (by omega), if_neg (by omega)]
/-- A child that is no more than its sibling. -/
structure Child (l : List PElem) (n i j : Nat) : Prop where
  lt : j < n
  pos : 0 < j
  par : (j - 1) / 2 = i
  least : ∀ k, k < n → 0 < k → (k - 1) / 2 = i → eltB (gE l k) (gE l j) = false
theorem kids {k i : Nat} (h0 : 0 < k) (h : (k - 1) / 2 = i) : k = 2 * i + 1 ∨ k = 2 * i + 2 := by omega
theorem child_one {l : List PElem} {n i : Nat} (h1 : 2 * i + 1 < n) (h2 : ¬ 2 * i + 2 < n ∨ eltB (gE l (2 * i + 2)) (gE l (2 * i + 1)) = false) : Child l n i (2 * i + 1) := by
  refine ⟨h1, by omega, by omega, fun k hk k0 hp => ?_⟩
  rcases kids k0 hp with rfl | rfl
  · exact elt_irrefl _
  · rcases h2 with h2 | h2
    · exact absurd hk h2
    · exact h2
theorem child_two {l : List PElem} {n i : Nat} (h1 : 2 * i + 2 < n) (h2 : eltB (gE l (2 * i + 2)) (gE l (2 * i + 1)) = true) : Child l n i (2 * i + 2) := by
  refine ⟨h1, by omega, by omega, fun k hk k0 hp => ?_⟩
  rcases kids k0 hp with rfl | rfl
  · exact elt_asymm h2
  · exact elt_irrefl _
theorem HeapDown.leaf {l : List PElem} {n i : Nat} (h : HeapDown l n i) (h1 : n ≤ 2 * i + 1) : Heap l n := h.stop fun k hk k0 hp => by
  rcases kids k0 hp with rfl | rfl <;> omega
theorem HeapDown.fine {l : List PElem} {n i j : Nat} (h : HeapDown l n i) (hc : Child l n i j) (hb : eltB (gE l j) (gE l i) = false) : Heap l n := h.stop fun k hk k0 hp => elt_le_trans hb (hc.least k hk k0 hp)
theorem HeapDown.turn {l : List PElem} {n i j : Nat} (h : HeapDown l n i) (hc : Child l n i j) (hb : eltB (gE l j) (gE l i) = true) : HeapDown (swapE l i j) n j := h.step hc.lt hc.pos hc.par hb hc.least
set_option maxRecDepth 100000 in
set_option maxHeartbeats 16000000 in
theorem heap_down (h0 B : Nat) (own : Option Nat) (l : List PElem) (n : Nat) (w : World) (hp : PileS h0 w B own l) (hl : l.length ≤ 1000000) (hh : h0 ≤ w.heap.size) (hu : HeapDown l n 0) :
    Calls Try.prog 120 #[pileI B, .int .i64 (0 : Int), .int .i64 n] w (HeapPost h0 B own (fun l' => l'.Perm l ∧ (∀ q, n ≤ q → gE l' q = gE l q) ∧ Heap l' n) w) := by
  have Hp := Lib.hid hp
  have Hu := Lib.hid hu
  have hnl := hu.le
  clear hp hu
  go_enter Try.func120, Try.ntmps120
  go_wp2
  go_loopw [7] (fun iv wr => ∃ (k : Nat) (own' : Option Nat) (l' : List PElem), iv = .int .i64 k ∧ k ≤ n ∧ Hid (PileS h0 wr B own' l') ∧ Hid (PFr h0 w wr B own own') ∧ l'.Perm l ∧ Hid (∀ q, n ≤ q → gE l' q = gE l q) ∧ Hid (HeapDown l' n k)) (fun iv _ => n - (intOf iv).toNat)
  case atStart => exact ⟨0, own, l, rfl, Nat.zero_le _, Hp, Lib.hid (PFr.refl _ _ _ _), .refl _, Lib.hid fun _ _ => rfl, Hu⟩
  case round =>
    obtain ⟨k, own', l', rfl, hkn, Hp', Hf, hperm, Hq, Hu'⟩ := hrel
    have hlen := hperm.length_eq
    obtain ⟨A, ln, c, h1, h2, h3⟩ := Hp'.out.row
    have q0 := h1.cell 0 _ rfl
    have hmL := m_Less B (.slice A ln c) wr q0
    have hsz := Nat.le_trans hh Hf.out.size
    have H1 := Lib.hid h1
    have H2 := Lib.hid h2
    have H3 := Lib.hid h3
    clear h1 h2 h3 q0
    obtain ⟨m2, hm2⟩ : ∃ m, m = 2 * k := ⟨_, rfl⟩
    obtain ⟨j1, hj1⟩ : ∃ j, j = 2 * k + 1 := ⟨_, rfl⟩
    obtain ⟨j2, hj2⟩ : ∃ j, j = 2 * k + 2 := ⟨_, rfl⟩
    have hz1 : IntKind.i64.wrap (2 * (k : Int)) = (m2 : Int) := by rw [IntWalk.i64_in _ (by omega)]; omega
    have hz2 : IntKind.i64.wrap ((m2 : Int) + 1) = (j1 : Int) := by rw [IntWalk.i64_in _ (by omega)]; omega
    have hz3 : IntKind.i64.wrap ((j1 : Int) + 1) = (j2 : Int) := by rw [IntWalk.i64_in _ (by omega)]; omega
    have hng : decide ((j1 : Int) < 0) = false := by simp only [decide_eq_false_iff_not]; omega
    have Hj1 := Lib.hid hj1
    have Hj2 := Lib.hid hj2
    by_cases ha : n ≤ j1
    · have hda : decide ((n : Int) ≤ j1) = true := by simp only [decide_eq_true_eq]; omega
      have hleaf := Lib.hid (Hu'.out.leaf (by omega))
      clear hm2 hj1 hj2
      go_wp2
      go_ret
      exact ⟨⟨_, rfl⟩, own', l', Hp'.out, Hf.out, hperm, Hq.out, hleaf.out⟩
    · have hda : decide (n ≤ j1) = false := by simp only [decide_eq_false_iff_not]; exact ha
      have hda' : decide ((n : Int) ≤ j1) = false := by simp only [decide_eq_false_iff_not]; omega
      have hj1n : j1 < n := by omega
      have hkl : k < l'.length := by omega
      have hj1l : j1 < l'.length := by omega
      have hkj1 : k < j1 := by omega
      have hkj2 : k < j2 := by omega
      by_cases hb : j2 < n
      · have hj2l : j2 < l'.length := by omega
        have hdb : decide (j2 < n) = true := by simp only [decide_eq_true_eq]; exact hb
        have hdb' : decide ((j2 : Int) < n) = true := by simp only [decide_eq_true_eq]; omega
        cases hc : eltB (gE l' j2) (gE l' j1)
        · have hch := Lib.hid (show Child l' n k j1 by rw [hj1]; exact child_one (by omega) (.inr (by rw [← hj1, ← hj2]; exact hc)))
          have Hc := Lib.hid hc
          clear hc hm2 hj1 hj2 ha hb
          cases hd : eltB (gE l' j1) (gE l' k)
          · have Hd := Lib.hid hd
            clear hd
            go_wp2_with (first
              | (go_at_call 145; (with_reducible refine (pile_Less h0 A ln c l' j2 j1 wr H2.out hj2l hj1l).mono ?_); rintro e w2 ⟨rfl, hb2⟩; rw [Hc.out]; have h12 := H1.out.later hb2; have q2 := h12.cell 0 _ rfl; have hmL2 := m_Less B (.slice A ln c) w2 q2; have ho2 := Kd.R_below H2.out hb2)
              | (go_at_call 145; (with_reducible refine (pile_Less h0 A ln c l' j1 k w2 ho2 hj1l hkl).mono ?_); rintro e w3 ⟨rfl, hb3⟩; rw [Hd.out]))
            go_ret
            exact ⟨⟨_, rfl⟩, own', l', (Hp'.out.later hb2).later hb3, (Hf.out.later hb2 hh).later hb3 hh, hperm, Hq.out, Hu'.out.fine hch.out Hd.out⟩
          · have Hd := Lib.hid hd
            clear hd
            go_wp2_with (first
              | (go_at_call 145; (with_reducible refine (pile_Less h0 A ln c l' j2 j1 wr H2.out hj2l hj1l).mono ?_); rintro e w2 ⟨rfl, hb2⟩; rw [Hc.out]; have h12 := H1.out.later hb2; have q2 := h12.cell 0 _ rfl; have hmL2 := m_Less B (.slice A ln c) w2 q2; have ho2 := Kd.R_below H2.out hb2)
              | (go_at_call 145; (with_reducible refine (pile_Less h0 A ln c l' j1 k w2 ho2 hj1l hkl).mono ?_); rintro e w3 ⟨rfl, hb3⟩; rw [Hd.out]; have h13 := h12.later hb3; have q3 := h13.cell 0 _ rfl; have hmS := m_Swap B (.slice A ln c) w3 q3; have ho3 := Kd.R_below ho2 hb3)
              | (go_at_call 148; (with_reducible refine (pile_Swap h0 A ln c l' k j1 w3 ho3 hkl hj1l (Nat.le_trans hsz (Nat.le_trans hb2.size hb3.size))).mono ?_); rintro e w4 ⟨rfl, ho4, hg4, hb4⟩))
            obtain ⟨hp4, hf4⟩ := PileS.swapped Hp'.out.hb h13 ho3 H3.out ((Hf.out.later hb2 hh).later hb3 hh) ho4 hg4 hb4
            exact ⟨⟨j1, own', _, rfl, Nat.le_of_lt hj1n, Lib.hid hp4, Lib.hid hf4, (swap_perm hkl hj1l).trans hperm, Lib.hid fun q hq => (gE_swap_far (Nat.lt_trans hkj1 hj1n) hj1n Hu'.out.le hq).trans (Hq.out q hq), Lib.hid (Hu'.out.turn hch.out Hd.out)⟩, by simp [intOf]; omega⟩
        · have hch := Lib.hid (show Child l' n k j2 by rw [hj2]; exact child_two (by omega) (by rw [← hj1, ← hj2]; exact hc))
          have Hc := Lib.hid hc
          clear hc hm2 hj1 hj2 ha
          cases hd : eltB (gE l' j2) (gE l' k)
          · have Hd := Lib.hid hd
            clear hd
            go_wp2_with (first
              | (go_at_call 145; (with_reducible refine (pile_Less h0 A ln c l' j2 j1 wr H2.out hj2l hj1l).mono ?_); rintro e w2 ⟨rfl, hb2⟩; rw [Hc.out]; have h12 := H1.out.later hb2; have q2 := h12.cell 0 _ rfl; have hmL2 := m_Less B (.slice A ln c) w2 q2; have ho2 := Kd.R_below H2.out hb2)
              | (go_at_call 145; (with_reducible refine (pile_Less h0 A ln c l' j2 k w2 ho2 hj2l hkl).mono ?_); rintro e w3 ⟨rfl, hb3⟩; rw [Hd.out]))
            go_ret
            exact ⟨⟨_, rfl⟩, own', l', (Hp'.out.later hb2).later hb3, (Hf.out.later hb2 hh).later hb3 hh, hperm, Hq.out, Hu'.out.fine hch.out Hd.out⟩
          · have Hd := Lib.hid hd
            clear hd
            go_wp2_with (first
              | (go_at_call 145; (with_reducible refine (pile_Less h0 A ln c l' j2 j1 wr H2.out hj2l hj1l).mono ?_); rintro e w2 ⟨rfl, hb2⟩; rw [Hc.out]; have h12 := H1.out.later hb2; have q2 := h12.cell 0 _ rfl; have hmL2 := m_Less B (.slice A ln c) w2 q2; have ho2 := Kd.R_below H2.out hb2)
              | (go_at_call 145; (with_reducible refine (pile_Less h0 A ln c l' j2 k w2 ho2 hj2l hkl).mono ?_); rintro e w3 ⟨rfl, hb3⟩; rw [Hd.out]; have h13 := h12.later hb3; have q3 := h13.cell 0 _ rfl; have hmS := m_Swap B (.slice A ln c) w3 q3; have ho3 := Kd.R_below ho2 hb3)
              | (go_at_call 148; (with_reducible refine (pile_Swap h0 A ln c l' k j2 w3 ho3 hkl hj2l (Nat.le_trans hsz (Nat.le_trans hb2.size hb3.size))).mono ?_); rintro e w4 ⟨rfl, ho4, hg4, hb4⟩))
            obtain ⟨hp4, hf4⟩ := PileS.swapped Hp'.out.hb h13 ho3 H3.out ((Hf.out.later hb2 hh).later hb3 hh) ho4 hg4 hb4
            exact ⟨⟨j2, own', _, rfl, Nat.le_of_lt hb, Lib.hid hp4, Lib.hid hf4, (swap_perm hkl hj2l).trans hperm, Lib.hid fun q hq => (gE_swap_far (Nat.lt_trans hkj2 hb) hb Hu'.out.le hq).trans (Hq.out q hq), Lib.hid (Hu'.out.turn hch.out Hd.out)⟩, by simp [intOf]; omega⟩
      · have hdb : decide (j2 < n) = false := by simp only [decide_eq_false_iff_not]; exact hb
        have hdb' : decide ((j2 : Int) < n) = false := by simp only [decide_eq_false_iff_not]; omega
        have hch := Lib.hid (show Child l' n k j1 by rw [hj1]; exact child_one (by omega) (.inl (by omega)))
        clear hm2 hj1 hj2 ha hb
        cases hd : eltB (gE l' j1) (gE l' k)
        · have Hd := Lib.hid hd
          clear hd
          go_wp2_with (first
            | (go_at_call 145; (with_reducible refine (pile_Less h0 A ln c l' j1 k wr H2.out hj1l hkl).mono ?_); rintro e w3 ⟨rfl, hb3⟩; rw [Hd.out]))
          go_ret
          exact ⟨⟨_, rfl⟩, own', l', Hp'.out.later hb3, Hf.out.later hb3 hh, hperm, Hq.out, Hu'.out.fine hch.out Hd.out⟩
        · have Hd := Lib.hid hd
          clear hd
          go_wp2_with (first
            | (go_at_call 145; (with_reducible refine (pile_Less h0 A ln c l' j1 k wr H2.out hj1l hkl).mono ?_); rintro e w3 ⟨rfl, hb3⟩; rw [Hd.out]; have h13 := H1.out.later hb3; have q3 := h13.cell 0 _ rfl; have hmS := m_Swap B (.slice A ln c) w3 q3; have ho3 := Kd.R_below H2.out hb3)
            | (go_at_call 148; (with_reducible refine (pile_Swap h0 A ln c l' k j1 w3 ho3 hkl hj1l (Nat.le_trans hsz hb3.size)).mono ?_); rintro e w4 ⟨rfl, ho4, hg4, hb4⟩))
          obtain ⟨hp4, hf4⟩ := PileS.swapped Hp'.out.hb h13 ho3 H3.out (Hf.out.later hb3 hh) ho4 hg4 hb4
          exact ⟨⟨j1, own', _, rfl, Nat.le_of_lt hj1n, Lib.hid hp4, Lib.hid hf4, (swap_perm hkl hj1l).trans hperm, Lib.hid fun q hq => (gE_swap_far (Nat.lt_trans hkj1 hj1n) hj1n Hu'.out.le hq).trans (Hq.out q hq), Lib.hid (Hu'.out.turn hch.out Hd.out)⟩, by simp [intOf]; omega⟩
end Go.Proofs.Ytemkloildadokaa
set_option linter.unusedVariables false
set_option linter.unusedSimpArgs false
/-! container/heap's Push and Pop, walked on a pile: a heap of what is there. -/
namespace Go.Proofs.Ytemkloildadokaa
open Go.RowKit Go.Shelf Go.Proofs.YtemkloildadokaaW.PrintWords

/-- A heap of what is there, in memory. -/
def HeapAt (h0 : Nat) (w : World) (B : Nat) (own : Option Nat) (q : List PElem) : Prop := ∃ l, PileS h0 w B own l ∧ HeapOf l q
theorem HeapAt.later {h0 : Nat} {w w' : World} {B : Nat} {own : Option Nat} {q : List PElem} (h : HeapAt h0 w B own q) (hb : Below w.heap.size w w') : HeapAt h0 w' B own q := by
  obtain ⟨l, h1, h2⟩ := h
  exact ⟨l, h1.later hb, h2⟩
theorem HeapAt.kept {h0 : Nat} {w w' : World} {B : Nat} {own : Option Nat} {q : List PElem} (h : HeapAt h0 w B own q) (hB : w'.heap[B]? = w.heap[B]?) (ho : ∀ g, own = some g → w'.heap[g]? = w.heap[g]?) : HeapAt h0 w' B own q := by
  obtain ⟨l, h1, h2⟩ := h
  exact ⟨l, h1.kept hB ho, h2⟩
/-- What is said of a heap behind a step. -/
def HeapDone (h0 B : Nat) (own : Option Nat) (q' : List PElem) (v : Value) (w : World) (e : Ending) (w' : World) : Prop := e = .returned v ∧ ∃ own', HeapAt h0 w' B own' q' ∧ PFr h0 w w' B own own'
theorem PileS.cell {h0 : Nat} {w : World} {B : Nat} {own : Option Nat} {l : List PElem} (h : PileS h0 w B own l) : ∃ A c, Cells w B #[.slice A l.length c] 113 ∧ Own kPElem 58 w h0 (.slice A l.length c) l ∧ (Value.slice A l.length c).ownBlock = own := by
  obtain ⟨A, n, c, h1, h2, h3⟩ := h.row
  obtain ⟨A', c', he, -, -⟩ := own_reads' h2
  injection he with e1 e2 e3
  subst e1 e2 e3
  exact ⟨_, _, h1, h2, h3⟩
set_option maxRecDepth 100000 in
set_option maxHeartbeats 4000000 in
theorem heap_Push (h0 B : Nat) (own : Option Nat) (q : List PElem) (x : PElem) (w : World) (hp : HeapAt h0 w B own q) (hl : q.length ≤ 900000) (hh : h0 ≤ w.heap.size) :
    Calls Try.prog 104 #[pileI B, .iface 58 (.agg #[.int .i64 x.key, .int .i64 x.from_])] w (HeapDone h0 B own (insE x q) (.tuple #[]) w) := by
  obtain ⟨l, hp, ho⟩ := hp
  have hlen := ho.len
  have Hp := Lib.hid hp
  have Ho := Lib.hid ho
  have Hlen := Lib.hid hlen
  clear hp ho hlen
  have hmP := m_Push B w
  go_enter Try.func104, Try.ntmps104
  go_wp2_with (first
    | (go_at_call 147; (with_reducible refine (pile_Push h0 B own l x w Hp.out (by have := Hlen.out; omega) hh).mono ?_); rintro e w2 ⟨rfl, own2, hp2, hf2⟩; have Hp2 := Lib.hid hp2; have Hf2 := Lib.hid hf2; obtain ⟨A2, c2, k1, k2, k3⟩ := hp2.cell; have q2 := k1.cell 0 _ rfl; have hmL := m_Len B (.slice A2 (l ++ [x]).length c2) w2 q2; have hz : IntKind.i64.wrap (((l ++ [x]).length : Int) - 1) = (l.length : Int) := (by have := Hlen.out; rw [IntWalk.i64_in _ (by rw [List.length_append, List.length_singleton]; omega)]; rw [List.length_append, List.length_singleton]; omega); generalize (l ++ [x]).length = ln at hmL hz; clear k1 k2 k3 q2 hp2 hf2)
    | (go_at_call 144; (with_reducible refine (pile_Len A2 ln c2 w2).mono ?_); rintro e w3 ⟨rfl, rfl⟩)
    | (go_at_call 119; (with_reducible refine (heap_up h0 B own2 (l ++ [x]) l.length w2 Hp2.out (by have := Hlen.out; rw [List.length_append, List.length_singleton]; omega) (Nat.le_trans hh Hf2.out.size) (Ho.out.pushed x)).mono ?_); rintro e w4 ⟨⟨v4, rfl⟩, own4, l4, hp4, hf4, hperm, hheap⟩))
  refine bodyPost_end (results_none rfl _ _ _) rfl ?_
  exact ⟨rfl, own4, ⟨l4, hp4, Ho.out.put hperm hheap⟩, Hf2.out.trans hf4⟩
theorem pile_Swap0 (h0 : Nat) (A : Option Addr) (n c : Nat) (l : List PElem) (j : Nat) (w : World) (ho : Own kPElem 58 w h0 (.slice A n c) l) (hi : 0 < l.length) (hj : j < l.length) (hh : h0 ≤ w.heap.size) :
    Calls Try.prog 148 #[.slice A n c, .int .i64 (0 : Int), .int .i64 j] w fun e w' => e = .returned (.tuple #[]) ∧ Own kPElem 58 w' h0 (.slice A n c) (swapE l 0 j) ∧ w.grownBy w' (Value.slice A n c).ownBlock ∧ Below h0 w w' := pile_Swap h0 A n c l 0 j w ho hi hj hh
set_option maxRecDepth 100000 in
set_option maxHeartbeats 4000000 in
theorem heap_Pop (h0 B : Nat) (own : Option Nat) (q : List PElem) (y : PElem) (w : World) (hp : HeapAt h0 w B own (y :: q)) (hs : SortedE (y :: q)) (hl : q.length ≤ 900000) (hh : h0 ≤ w.heap.size) :
    Calls Try.prog 105 #[pileI B] w (HeapDone h0 B own q (.iface 58 (.agg #[.int .i64 y.key, .int .i64 y.from_])) w) := by
  obtain ⟨l, hp, ho⟩ := hp
  obtain ⟨n, hn⟩ : ∃ n, n = q.length := ⟨_, rfl⟩
  have hln : l.length = n + 1 := by rw [ho.len, hn]; rfl
  obtain ⟨A, c, k1, k2, k3⟩ := hp.cell
  have q0 := k1.cell 0 _ rfl
  have hz : IntKind.i64.wrap ((l.length : Int) - 1) = (n : Int) := by rw [IntWalk.i64_in _ (by omega)]; omega
  have hmL := m_Len B (.slice A l.length c) w q0
  have hmS := m_Swap B (.slice A l.length c) w q0
  have Hp := Lib.hid hp
  have Ho := Lib.hid ho
  have K1 := Lib.hid k1
  have K2 := Lib.hid k2
  have K3 := Lib.hid k3
  have hl0 : 0 < l.length := by omega
  have hnl : n < l.length := by omega
  have Hln := Lib.hid hln
  have Hl6 := Lib.hid (show l.length ≤ 1000000 by omega)
  clear hp ho k1 k2 k3 q0 hln hn
  go_enter Try.func105, Try.ntmps105
  go_wp2_with (first
    | (go_at_call 144; (with_reducible refine (pile_Len A l.length c w).mono ?_); rintro e w3 ⟨rfl, rfl⟩)
    | (go_at_call 148; (with_reducible refine (pile_Swap0 h0 A l.length c l n w K2.out hl0 hnl hh).mono ?_); rintro e w2 ⟨rfl, ho2, hg2, hb2⟩; obtain ⟨hp2, hf2⟩ := PileS.swapped Hp.out.hb K1.out K2.out K3.out (PFr.refl h0 w B own) ho2 hg2 hb2; have Hp2 := Lib.hid hp2; have Hf2 := Lib.hid hf2; clear hp2 hf2 ho2 hg2 hb2)
    | (go_at_call 120; (with_reducible refine (heap_down h0 B own (swapE l 0 n) n w2 Hp2.out (by rw [swap_len]; exact Hl6.out) (Nat.le_trans hh Hf2.out.size) (Ho.out.turned Hln.out)).mono ?_); rintro e w4 ⟨⟨v4, rfl⟩, own4, l4, hp4, hf4, hperm, hlast, hheap⟩; have Hlast := Lib.hid hlast; clear hlast; have hmP := m_Pop B w4; have hl4 : l4.length = n + 1 := (by rw [hperm.length_eq, swap_len]; exact Hln.out))
    | (go_at_call 146; (with_reducible refine (pile_Pop h0 B own4 l4 n w4 hp4 hl4 (Nat.le_trans hh (Nat.le_trans Hf2.out.size hf4.size))).mono ?_); rintro e w5 ⟨rfl, own5, hp5, hf5⟩))
  obtain ⟨e1, e2⟩ := Ho.out.cut hs Hln.out hperm (Hlast.out n (Nat.le_refl _)) hheap
  go_ret
  rw [e1]
  exact ⟨rfl, own5, ⟨_, hp5, e2⟩, (Hf2.out.trans hf4).trans hf5⟩
end Go.Proofs.Ytemkloildadokaa
set_option linter.unusedVariables false
set_option linter.unusedSimpArgs false
/-! A step of a line, walked on a heap. -/
namespace Go.Proofs.Ytemkloildadokaa
open Go.RowKit Go.Shelf Go.Proofs.YtemkloildadokaaW.PrintWords

def DoDone (h0 B : Nat) (own : Option Nat) (q' : List PElem) (x : PElem) (ok : Bool) (w : World) (e : Ending) (w' : World) : Prop := e = .returned (.tuple #[.agg #[.int .i64 x.key, .int .i64 x.from_], .bool ok]) ∧ ∃ own', HeapAt h0 w' B own' q' ∧ PFr h0 w w' B own own'
theorem HeapAt.lt {h0 : Nat} {w : World} {B : Nat} {own : Option Nat} {q : List PElem} (h : HeapAt h0 w B own q) : B < w.heap.size := by obtain ⟨l, h1, h2⟩ := h; exact h1.lt
theorem HeapAt.own_lt {h0 : Nat} {w : World} {B : Nat} {own : Option Nat} {q : List PElem} (h : HeapAt h0 w B own q) : ∀ g, own = some g → h0 ≤ g ∧ g < w.heap.size ∧ g ≠ B := by obtain ⟨l, h1, h2⟩ := h; exact h1.own_lt
/-- A box that the heap does not own stays. -/
theorem PFr.cells {h0 : Nat} {w w' : World} {B : Nat} {own own' : Option Nat} (h : PFr h0 w w' B own own') {b : Nat} {cs : Array Value} {t : TypeId} (hc : Cells w b cs t) (h1 : b ≠ B) (h2 : some b ≠ own) : Cells w' b cs t := (h.keep b hc.lt h1 h2).trans hc
/-- A block that is new is turned. -/
theorem PFr.setNew {h0 : Nat} {w w' : World} {B : Nat} {own own' : Option Nat} (h : PFr h0 w w' B own own') {p : Addr} (hp : w.heap.size ≤ p.block) (hh : h0 ≤ w.heap.size) (v : Value) : PFr h0 w (w'.setCell p v) B own own' :=
  ⟨h.below.setCell (Nat.le_trans hh hp) v, fun k hk hB ho => (Below.heap_setCell w' p v k (by omega)).trans (h.keep k hk hB ho), h.row⟩
theorem HeapAt.setFar {h0 : Nat} {w : World} {B : Nat} {own : Option Nat} {q : List PElem} (h : HeapAt h0 w B own q) {p : Addr} (h1 : B ≠ p.block) (h2 : own ≠ some p.block) (v : Value) : HeapAt h0 (w.setCell p v) B own q :=
  h.kept (Below.heap_setCell w p v B h1) fun g hg => Below.heap_setCell w p v g fun e => h2 (by rw [hg, e])
set_option maxRecDepth 100000 in
set_option maxHeartbeats 8000000 in
theorem do_in (h0 B : Nat) (own : Option Nat) (q : List PElem) (s : PStep) (w : World) (hp : HeapAt h0 w B own q) (hl : q.length ≤ 900000) (hh : h0 ≤ w.heap.size) (hs : s.do_ = 1) :
    Calls Try.prog 83 #[pileI B, .agg #[.int .i64 s.at_, .int .i64 s.do_, .int .i64 s.key]] w (DoDone h0 B own (insE ⟨s.key, s.at_⟩ q) ⟨s.key, s.at_⟩ true w) := by
  have hbl := hp.lt
  have hol := hp.own_lt
  have Hp := Lib.hid hp
  clear hp
  have hd : (s.do_ == 1) = true := by simp [hs]
  clear hs
  go_enter Try.func83, Try.ntmps83
  go_upto_region 1 with fail
  obtain ⟨k1, k2, hB⟩ := two_new w ((w.alloc (.cells #[.int .i64 s.at_, .int .i64 s.do_, .int .i64 s.key] 36)).alloc (.cells #[.int .i64 0, .int .i64 0] 58)) _ _ _ _ (by simpa using Below.refl _ _)
  have K1 := Lib.hid k1
  have K2 := Lib.hid k2
  have HB := Lib.hid hB
  clear k1 k2 hB
  generalize ((w.alloc (.cells #[.int .i64 s.at_, .int .i64 s.do_, .int .i64 s.key] 36)).alloc (.cells #[.int .i64 0, .int .i64 0] 58)) = w2 at K1 K2 HB ⊢
  have a0 := K1.out.cell 0 _ rfl
  have a1 := K1.out.cell 1 _ rfl
  have a2 := K1.out.cell 2 _ rfl
  go_upto_region 3 with fail
  have HX := Lib.hid (Cells.new w2 #[.int .i64 s.key, .int .i64 s.at_] 58)
  have hbs := below_alloc (Below.refl w2.heap.size w2) (.cells #[.int .i64 s.key, .int .i64 s.at_] 58)
  have HB3 := Lib.hid (below_step HB.out hbs)
  have K23 := Lib.hid (K2.out.later hbs)
  have hg2 : w.heap.size + 1 < w2.heap.size := K2.out.lt
  clear a0 a1 a2 hbs K1 K2
  generalize w2.alloc (.cells #[.int .i64 s.key, .int .i64 s.at_] 58) = w3 at HX HB3 K23 ⊢
  generalize w2.heap.size = g at HX hg2 ⊢
  have x0 := HX.out.cell 0 _ rfl
  have x1 := HX.out.cell 1 _ rfl
  go_upto_region 4 with (first
    | (go_at_call 104; (with_reducible refine (heap_Push h0 B own q ⟨s.key, s.at_⟩ w3 (Hp.out.later HB3.out) hl (Nat.le_trans hh HB3.out.size)).mono ?_); rintro e w4 ⟨rfl, own4, hp4, hf4⟩))
  have hne : ∀ b, w.heap.size ≤ b → b ≠ B ∧ some b ≠ own := fun b hb => ⟨by omega, fun e => by have := (hol b e.symm).2.1; omega⟩
  have HX4 := Lib.hid (hf4.cells HX.out (hne _ (by omega)).1 (hne _ (by omega)).2)
  have K24 := Lib.hid (hf4.cells K23.out (hne _ (by omega)).1 (hne _ (by omega)).2)
  have HF := Lib.hid ((PFr.of (B := B) (own := own) HB3.out hh).trans hf4)
  have HP4 := Lib.hid hp4
  have hown4 : own4 ≠ some (w.heap.size + 1) := fun e => by
    rcases hf4.row with r | ⟨g', r, hg'⟩
    · exact (hne _ (by omega : w.heap.size ≤ w.heap.size + 1)).2 (by rw [← r, e])
    · rw [r] at e; cases e; have := K23.out.lt; omega
  clear hf4 hp4 HX K23 HB3 x0 x1 HB
  have x0 := HX4.out.cell 0 _ rfl
  have x1 := HX4.out.cell 1 _ rfl
  have z0 := K24.out.cell 0 _ rfl
  have z1 := K24.out.cell 1 _ rfl
  have zf := K24.out.frozen
  go_wp2
  have y2 := (K24.out.setAt 0 (.int .i64 s.key)).setAt 1 (.int .i64 s.at_)
  have y0 := y2.cell 0 _ rfl
  have y1 := y2.cell 1 _ rfl
  refine bodyPost_ret (v := .tuple #[.agg #[.int .i64 s.key, .int .i64 s.at_], .bool true]) (by simp [results, Try.results83, go_sem, y0, y1]) rfl ?_
  exact ⟨rfl, own4, (HP4.out.setFar (p := ⟨w.heap.size + 1, 0, none⟩) (by simp only; omega) hown4 _).setFar (p := ⟨w.heap.size + 1, 1, none⟩) (by simp only; omega) hown4 _, (HF.out.setNew (p := ⟨w.heap.size + 1, 0, none⟩) (by simp) hh _).setNew (p := ⟨w.heap.size + 1, 1, none⟩) (by simp) hh _⟩
set_option maxRecDepth 100000 in
set_option maxHeartbeats 8000000 in
theorem do_none (h0 B : Nat) (own : Option Nat) (s : PStep) (w : World) (hp : HeapAt h0 w B own []) (hh : h0 ≤ w.heap.size) (hs : s.do_ = 2) :
    Calls Try.prog 83 #[pileI B, .agg #[.int .i64 s.at_, .int .i64 s.do_, .int .i64 s.key]] w (DoDone h0 B own [] ⟨0, 0⟩ false w) := by
  have hbl := hp.lt
  have hol := hp.own_lt
  have Hp := Lib.hid hp
  clear hp
  have hd : (s.do_ == 1) = false := by simp [hs]
  clear hs
  go_enter Try.func83, Try.ntmps83
  go_upto_region 1 with fail
  obtain ⟨k1, k2, hB⟩ := two_new w ((w.alloc (.cells #[.int .i64 s.at_, .int .i64 s.do_, .int .i64 s.key] 36)).alloc (.cells #[.int .i64 0, .int .i64 0] 58)) _ _ _ _ (by simpa using Below.refl _ _)
  have K1 := Lib.hid k1
  have K2 := Lib.hid k2
  have HB := Lib.hid hB
  clear k1 k2 hB
  generalize ((w.alloc (.cells #[.int .i64 s.at_, .int .i64 s.do_, .int .i64 s.key] 36)).alloc (.cells #[.int .i64 0, .int .i64 0] 58)) = w2 at K1 K2 HB ⊢
  have a0 := K1.out.cell 0 _ rfl
  have a1 := K1.out.cell 1 _ rfl
  have a2 := K1.out.cell 2 _ rfl
  have hp2 := Hp.out.later HB.out
  obtain ⟨l, hpl, hho⟩ := hp2
  obtain ⟨A, c, c1, -, -⟩ := hpl.cell
  have qq := c1.cell 0 _ rfl
  have hmL := m_Len B (.slice A l.length c) w2 qq
  have hl0 : l.length = 0 := by rw [hho.len]; rfl
  have hz : ((l.length : Int) == 0) = true := by rw [hl0]; rfl
  have hz' : (l.length == 0) = true := by rw [hl0]; rfl
  generalize l.length = n at hmL hz hz'
  clear c1 qq hpl hho hl0
  have z0 := K2.out.cell 0 _ rfl
  have z1 := K2.out.cell 1 _ rfl
  have zf := K2.out.frozen
  go_wp2_with (first
    | (go_at_call 144; (with_reducible refine (pile_Len A n c w2).mono ?_); rintro e w3 ⟨rfl, rfl⟩))
  have y2 := (K2.out.setAt 0 (.int .i64 0)).setAt 1 (.int .i64 0)
  have y0 := y2.cell 0 _ rfl
  have y1 := y2.cell 1 _ rfl
  have hown4 : own ≠ some (w.heap.size + 1) := fun e => by have := (hol _ e).2.1; omega
  refine bodyPost_ret (v := .tuple #[.agg #[.int .i64 0, .int .i64 0], .bool false]) (by simp [results, Try.results83, go_sem, y0, y1]) rfl ?_
  exact ⟨rfl, own, ((Hp.out.later HB.out).setFar (p := ⟨w.heap.size + 1, 0, none⟩) (by simp only; omega) hown4 _).setFar (p := ⟨w.heap.size + 1, 1, none⟩) (by simp only; omega) hown4 _, ((PFr.of HB.out hh).setNew (p := ⟨w.heap.size + 1, 0, none⟩) (by simp) hh _).setNew (p := ⟨w.heap.size + 1, 1, none⟩) (by simp) hh _⟩
set_option maxRecDepth 100000 in
set_option maxHeartbeats 8000000 in
theorem do_out (h0 B : Nat) (own : Option Nat) (y : PElem) (q : List PElem) (s : PStep) (w : World) (hp : HeapAt h0 w B own (y :: q)) (hso : SortedE (y :: q)) (hl : q.length ≤ 900000) (hh : h0 ≤ w.heap.size) (hs : s.do_ = 2) :
    Calls Try.prog 83 #[pileI B, .agg #[.int .i64 s.at_, .int .i64 s.do_, .int .i64 s.key]] w (DoDone h0 B own q y true w) := by
  have hbl := hp.lt
  have hol := hp.own_lt
  have Hp := Lib.hid hp
  clear hp
  have hd : (s.do_ == 1) = false := by simp [hs]
  clear hs
  go_enter Try.func83, Try.ntmps83
  go_upto_region 1 with fail
  obtain ⟨k1, k2, hB⟩ := two_new w ((w.alloc (.cells #[.int .i64 s.at_, .int .i64 s.do_, .int .i64 s.key] 36)).alloc (.cells #[.int .i64 0, .int .i64 0] 58)) _ _ _ _ (by simpa using Below.refl _ _)
  have K1 := Lib.hid k1
  have K2 := Lib.hid k2
  have HB := Lib.hid hB
  clear k1 k2 hB
  generalize ((w.alloc (.cells #[.int .i64 s.at_, .int .i64 s.do_, .int .i64 s.key] 36)).alloc (.cells #[.int .i64 0, .int .i64 0] 58)) = w2 at K1 K2 HB ⊢
  have a0 := K1.out.cell 0 _ rfl
  have a1 := K1.out.cell 1 _ rfl
  have a2 := K1.out.cell 2 _ rfl
  have hp2 := Hp.out.later HB.out
  obtain ⟨l, hpl, hho⟩ := hp2
  obtain ⟨A, c, c1, -, -⟩ := hpl.cell
  have qq := c1.cell 0 _ rfl
  have hmL := m_Len B (.slice A l.length c) w2 qq
  have hl0 : l.length = q.length + 1 := by rw [hho.len]; rfl
  have hz : ((l.length : Int) == 0) = false := by rw [hl0]; simp only [beq_eq_false_iff_ne]; omega
  have hz' : (l.length == 0) = false := by rw [hl0]; rfl
  generalize l.length = n at hmL hz hz'
  clear c1 qq hpl hho hl0
  go_upto_region 7 with (first
    | (go_at_call 144; (with_reducible refine (pile_Len A n c w2).mono ?_); rintro e w3 ⟨rfl, rfl⟩))
  go_wp2_with (first
    | (go_at_call 105; (with_reducible refine (heap_Pop h0 B own q y w2 (Hp.out.later HB.out) hso hl (Nat.le_trans hh HB.out.size)).mono ?_); rintro e w4 ⟨rfl, own4, hp4, hf4⟩; have hne : w.heap.size + 1 ≠ B ∧ some (w.heap.size + 1) ≠ own := (⟨by omega, fun e => by have := (hol _ e.symm).2.1; omega⟩); have HP4 := Lib.hid hp4; have HF4 := Lib.hid hf4; have K24 := Lib.hid (hf4.cells K2.out hne.1 hne.2); clear hp4 hf4; have z0 := K24.out.cell 0 _ rfl; have z1 := K24.out.cell 1 _ rfl; have zf := K24.out.frozen))
  have hown4 : own4 ≠ some (w.heap.size + 1) := fun e => by
    rcases HF4.out.row with r | ⟨g', r, hg'⟩
    · exact hne.2 (by rw [← r, e])
    · rw [r] at e; cases e; have := K2.out.lt; omega
  have y2 := (K24.out.setAt 0 (.int .i64 y.key)).setAt 1 (.int .i64 y.from_)
  have y0 := y2.cell 0 _ rfl
  have y1 := y2.cell 1 _ rfl
  refine bodyPost_ret (v := .tuple #[.agg #[.int .i64 y.key, .int .i64 y.from_], .bool true]) (by simp [results, Try.results83, go_sem, y0, y1]) rfl ?_
  exact ⟨rfl, own4, (HP4.out.setFar (p := ⟨w.heap.size + 1, 0, none⟩) (by simp only; omega) hown4 _).setFar (p := ⟨w.heap.size + 1, 1, none⟩) (by simp only; omega) hown4 _, (((PFr.of HB.out hh).trans HF4.out).setNew (p := ⟨w.heap.size + 1, 0, none⟩) (by simp) hh _).setNew (p := ⟨w.heap.size + 1, 1, none⟩) (by simp) hh _⟩
/-- A step of a line, whatever it is. -/
theorem p_do (h0 B : Nat) (own : Option Nat) (q : List PElem) (s : PStep) (w : World) (hp : HeapAt h0 w B own q) (hso : SortedE q) (hl : q.length ≤ 900000) (hh : h0 ≤ w.heap.size) (hs : s.do_ = 1 ∨ s.do_ = 2) :
    Calls Try.prog 83 #[pileI B, .agg #[.int .i64 s.at_, .int .i64 s.do_, .int .i64 s.key]] w (match nextE q s with | some (q', x) => DoDone h0 B own q' x true w | none => DoDone h0 B own [] ⟨0, 0⟩ false w) := by
  rcases hs with hs | hs
  · have e : nextE q s = some (insE ⟨s.key, s.at_⟩ q, ⟨s.key, s.at_⟩) := by simp [nextE, hs]
    rw [e]
    exact do_in h0 B own q s w hp hl hh hs
  · cases q with
    | nil =>
      have e : nextE [] s = none := by simp [nextE, hs]
      rw [e]
      exact do_none h0 B own s w hp hh hs
    | cons y q =>
      have e : nextE (y :: q) s = some (q, y) := by simp [nextE, hs]
      rw [e]
      exact do_out h0 B own y q s w hp hso (by simp only [List.length_cons] at hl; omega) hh hs
end Go.Proofs.Ytemkloildadokaa
set_option linter.unusedVariables false
set_option linter.unusedSimpArgs false
/-! Ranges over a function whose iterator turns cells of its own: the caller says which row it has grown, and keeps all else that is new; the iterator keeps what is the caller's. -/
namespace Go.Proofs.Ytemkloildadokaa
open Go.RowKit Go.Shelf

structure KeptIf (p : Nat → Prop) (X Y : World) : Prop where
  os : Y.os = X.os
  tape : Y.tape = X.tape
  output : Y.output = X.output
  size : X.heap.size ≤ Y.heap.size
  block : ∀ k, k < X.heap.size → p k → Y.heap[k]? = X.heap[k]?
theorem KeptIf.refl (p : Nat → Prop) (X : World) : KeptIf p X X := ⟨rfl, rfl, rfl, Nat.le_refl _, fun _ _ _ => rfl⟩
theorem KeptIf.trans {p : Nat → Prop} {X Y Z : World} (h : KeptIf p X Y) (k : KeptIf p Y Z) : KeptIf p X Z := ⟨k.os.trans h.os, k.tape.trans h.tape, k.output.trans h.output, Nat.le_trans h.size k.size, fun i hi hp => (k.block i (Nat.lt_of_lt_of_le hi h.size) hp).trans (h.block i hi hp)⟩
theorem KeptIf.mono {p q : Nat → Prop} {X Y : World} (h : KeptIf p X Y) (hq : ∀ k, k < X.heap.size → q k → p k) : KeptIf q X Y := ⟨h.os, h.tape, h.output, h.size, fun k hk hp => h.block k hk (hq k hk hp)⟩
theorem KeptIf.of_below {p : Nat → Prop} {X Y : World} (h : Below X.heap.size X Y) : KeptIf p X Y := ⟨h.os, h.tape, h.output, h.size, fun k hk _ => h.block k hk⟩
theorem KeptIf.of_grown {p : Nat → Prop} {X Y : World} {row : Option Nat} (h : X.grownBy Y row) (hr : ∀ r, row = some r → ¬ p r) : KeptIf p X Y := ⟨h.os, h.tape, h.output, h.size, fun k hk hp => h.block k hk fun e => hr k e.symm hp⟩
theorem KeptIf.below {p : Nat → Prop} {n : Nat} {X Y : World} (h : KeptIf p X Y) (hn : n ≤ X.heap.size) (hp : ∀ k, k < n → p k) : Below n X Y := ⟨h.os, h.tape, h.output, h.size, fun k hk => h.block k (by omega) (hp k hk)⟩
theorem KeptIf.cells {p : Nat → Prop} {X Y : World} (h : KeptIf p X Y) {b : Nat} {cs : Array Value} {t : TypeId} (hc : Cells X b cs t) (hp : p b) : Cells Y b cs t := (h.block b hc.lt hp).trans hc
/-- The contract of an iterator that turns cells of its own; the rounds never leave early. -/
def SeqH {α : Type} (F : Fence) (n : Nat) (P : Program) (g : Nat) (lb : Array Value) (encs : α → Array Value) (S : List α → Prop) (N : Nat) (n0 : Nat) (w0 : World) : Prop :=
  ∀ (l : Nat) (J : List α → Option Nat → World → Prop) (W : World), Below w0.heap.size w0 W → (∀ s rc X Y, J s rc X → KeptIf (fun k => k < W.heap.size ∨ some k = rc) X Y → J s rc Y) → (∀ s rc X, J s rc X → ∀ g, rc = some g → g < X.heap.size) →
    (∀ pre rc x W1, J pre rc W1 → pre.length < N → YieldAt F (n - 1) P l (encs x) W1 fun e W' =>
      e = .returned (.bool true) ∧ ∃ rc', J (pre ++ [x]) rc' W' ∧ (rc' = rc ∨ ∃ g, rc' = some g ∧ W1.heap.size ≤ g) ∧ KeptIf (fun k => k < n0 ∨ (W.heap.size ≤ k ∧ some k ≠ rc)) W1 W') →
    J [] none W →
    CallsIn F n P g (#[.func (.yield l) #[] #[]] ++ lb) W fun e W' => (∃ v, e = .returned v) ∧ ∃ xs rc, S xs ∧ J xs rc W'
/-- How a round is left. -/
def roundH {α : Type} (I : List α → Option Nat → World → Prop) (n0 n1 : Nat) (xs : List α) (rc : Option Nat) (W : World) : Exit → Act → World → Prop
  | .normal, _, W' => ∃ rc', I xs rc' W' ∧ (rc' = rc ∨ ∃ g, rc' = some g ∧ W.heap.size ≤ g) ∧ KeptIf (fun k => k < n0 ∨ (n1 ≤ k ∧ some k ≠ rc)) W W'
  | _, _, _ => False
variable {F : Fence} {n : Nat} {P : Program}
theorem kept_putObj {p : Nat → Prop} (W : World) (l : Nat) (o : Obj) (hl : ¬ p l) : KeptIf p W (W.putObj l o) := .of_grown (grownBy_putObj' W l o) fun r e => by cases e; exact hl
theorem wpIn_rangeFunc_H {α : Type} {g : Operand} {ps : Array Tmp} {assign body : Code} {Q : Exit → Act → World → Prop} {a : Act} {w : World}
    (hro : F.round = none) (h1 : 1 ≤ n) {gf : Nat} {lb : Array Value} (hg : a.eval g = .func (.func gf) #[] lb) (hFg : F.fn gf) (eg : ∀ args w, (callFunc gf args).run P w = .ok (.enter gf args) w)
    {encs : α → Array Value} {S : List α → Prop} {N n0 : Nat} {w0 : World} (hseq : SeqH F (n - 1) P gf lb encs S N n0 w0) (hn0 : n0 ≤ w0.heap.size) (hb0 : Below w0.heap.size w0 w) (hps : ∀ x, (encs x).size = ps.size)
    (I : List α → Option Nat → World → Prop) (hI : ∀ s rc X Y, I s rc X → KeptIf (fun k => k < w.heap.size ∨ some k = rc) X Y → I s rc Y) (hIv : ∀ s rc X, I s rc X → ∀ g, rc = some g → g < X.heap.size) (h0 : I [] none w)
    (Ax : α → Act → World → Prop) (hAx : ∀ x a', OwnFrom w.heap.size (fun (_ : Unit) W => Ax x a' W))
    (hassign : ∀ (l : Nat) (pre : List α) (rc : Option Nat) (x : α) (W : World) (K : Act → World → Prop), I pre rc W → (∀ a' W', Below W.heap.size W W' → Ax x a' W' → K a' W') →
      assign.wpIn (F.inRound l) (n - 1 - 1) P (Exit.then K (fun _ _ _ => False)) { tmps := (ps.zip (encs x)).foldl (fun t (p, v) => t.setIfInBounds p v) a.tmps, defers := [] } W)
    (hbody : ∀ (l : Nat) (pre : List α) (rc : Option Nat) (x : α) (a' : Act) (W : World), w.heap.size ≤ W.heap.size → I pre rc W → Ax x a' W → pre.length < N → body.wpIn (F.inRound l) (n - 1 - 1) P (roundH I n0 w.heap.size (pre ++ [x]) rc W) a' W)
    (hdone : ∀ (D : Nat) (xs : List α) (rc : Option Nat) (W : World), w.heap.size ≤ D → S xs → I xs rc W → W.heap[D]? = some (.deferred (some [])) → Q .normal { a with defers := { target := .collected D, args := #[] } :: a.defers } W) :
    (Code.rangeFunc g ps assign body).wpIn F n P Q a w := by
  refine wpIn_rangeFunc ?_
  intro fn hfn
  rw [hro]
  obtain ⟨rec, hrec⟩ : ∃ rec : LoopState → Option Code → Loop, rec = fun st pe => { state := st, pending := pe, fn, tmps := a.tmps, params := ps, assign, body, defers := w.heap.size } := ⟨_, rfl⟩
  obtain ⟨W1, hW1⟩ : ∃ W1, (w.alloc (.deferred (some []))).alloc (.loop (rec .ready none)) = W1 := ⟨_, rfl⟩
  have hL1 : W1.heap[w.heap.size + 1]? = some (.loop (rec .ready none)) := by
    rw [← hW1]; have := World.alloc_heap_new (w.alloc (.deferred (some []))) (.loop (rec .ready none)); rwa [World.size_alloc] at this
  have hK1 : W1.heap[w.heap.size]? = some (.deferred (some [])) := by
    rw [← hW1]; exact (Below.heap_alloc _ _ _ (by simp)).trans (World.alloc_heap_new w _)
  have hbw : Below w.heap.size w W1 := by rw [← hW1]; exact ((Below.refl _ w).alloc (Nat.le_refl _) _).alloc (by simp) _
  have hs1 : W1.heap.size = w.heap.size + 2 := by rw [← hW1]; simp
  have hI1 : I [] none W1 := hI _ _ _ _ h0 (.of_below hbw)
  have hb1 : Below w0.heap.size w0 W1 := hb0.trans (hbw.mono hb0.size)
  have hsz0 := hb0.size
  refine ⟨w.heap.size + 1, [{ target := .collected w.heap.size, args := #[] }], W1, { target := .fn (.func gf) lb, args := #[.func (.yield (w.heap.size + 1)) #[] #[]] }, W1, gf,
    #[.func (.yield (w.heap.size + 1)) #[] #[]] ++ lb, W1, ?_, ?_, ?_, ?_, fun _ => h1, ?_⟩
  · rw [← hW1, hrec]; exact run_enterLoop_outer _ _ _ _ _
  · simp only [resolve, hg]
    simp [go_sem]
  · intro f' hf'; simp [Target.leads] at hf'; subst hf'; exact hFg
  · simp [invoke, go_sem, eg]
  · refine (hseq (w.heap.size + 1)
      (fun pre rc W => I pre rc W ∧ (∀ g, rc = some g → w.heap.size + 2 ≤ g) ∧ W.heap[w.heap.size + 1]? = some (.loop (rec .ready none)) ∧ W.heap[w.heap.size]? = some (.deferred (some [])))
      W1 hb1
      (fun s rc A B hs hk => ⟨hI s rc A B hs.1 (hk.mono fun k _ hp => by rcases hp with hp | hp; exact .inl (by omega); exact .inr hp), hs.2.1,
        (hk.block _ (Array.getElem?_eq_some_iff.1 hs.2.2.1).1 (.inl (by omega))).trans hs.2.2.1, (hk.block _ (Array.getElem?_eq_some_iff.1 hs.2.2.2).1 (.inl (by omega))).trans hs.2.2.2⟩)
      (fun s rc X hs => hIv s rc X hs.1)
      ?_ ⟨hI1, (fun g e => by cases e), hL1, hK1⟩).mono ?_
    · rintro pre rc x W ⟨hi, hrc, hl, hk⟩ hlen
      have hlt : w.heap.size + 1 < W.heap.size := (Array.getElem?_eq_some_iff.1 hl).1
      have hy := run_yield (P := P) (args := encs x) hl (by rw [hrec]; exact hps x)
      rw [hrec] at hy
      refine ⟨fn, _, assign, body, hy, roundIn_of_wpIn hfn (hassign _ pre rc x W _ hi ?_)⟩
      clear hy
      intro a' Wa hba hax
      have hszA := hba.size
      replace hl : Wa.heap[w.heap.size + 1]? = _ := (hba.block _ hlt).trans hl
      replace hk : Wa.heap[w.heap.size]? = _ := (hba.block _ (by omega)).trans hk
      have hia := hI _ _ _ _ hi (.of_below hba)
      have hltA : w.heap.size + 1 < Wa.heap.size := (Array.getElem?_eq_some_iff.1 hl).1
      refine ⟨_, run_beginRound hl (by rw [hrec]), ?_⟩
      have hnl : ¬ (w.heap.size + 1 < w.heap.size ∨ some (w.heap.size + 1) = rc) := by
        rintro (h | h)
        · omega
        · have := hrc _ h.symm; omega
      have hl2 : (Wa.putObj (w.heap.size + 1) (.loop { rec .ready none with state := .busy })).heap[w.heap.size + 1]? = some (.loop { rec .ready none with state := .busy }) := World.putObj_heap_same hltA
      have hk2 : (Wa.putObj (w.heap.size + 1) (.loop { rec .ready none with state := .busy })).heap[w.heap.size]? = some (.deferred (some [])) := (World.putObj_heap_other (by omega)).trans hk
      have hi2 := hI _ _ _ _ hia (kept_putObj Wa (w.heap.size + 1) (.loop { rec .ready none with state := .busy }) hnl)
      have hax2 := (hAx x a').putObj (s := ()) (.loop { rec .ready none with state := .busy }) hax (by omega) hl rfl
      have hszB : (Wa.putObj (w.heap.size + 1) (.loop { rec .ready none with state := .busy })).heap.size = Wa.heap.size := by have := (grownBy_putObj' Wa (w.heap.size + 1) (.loop { rec .ready none with state := .busy })).size; simp [World.putObj]
      have hfr2 : KeptIf (fun k => k < n0 ∨ (W1.heap.size ≤ k ∧ some k ≠ rc)) Wa (Wa.putObj (w.heap.size + 1) (.loop { rec .ready none with state := .busy })) := kept_putObj _ _ _ (by rintro (h | h) <;> omega)
      generalize hWb : Wa.putObj (w.heap.size + 1) (.loop { rec .ready none with state := .busy }) = Wb at hl2 hk2 hi2 hax2 hszB hfr2
      refine wpIn_mono (hbody _ pre rc x a' _ (by omega) hi2 hax2 hlen) ?_
      rintro e a3 W3 hp
      cases e with
      | normal =>
        obtain ⟨rc', hi3, hr3, hf3⟩ := hp
        have hlk : ∀ k, k < Wb.heap.size → w.heap.size ≤ k → k < w.heap.size + 2 → W3.heap[k]? = Wb.heap[k]? := fun k hk h4 h5 => hf3.block k hk (.inr ⟨h4, fun e => by have := hrc _ e.symm; omega⟩)
        have hl3 : W3.heap[w.heap.size + 1]? = some (.loop { rec .ready none with state := .busy }) := (hlk _ (by omega) (by omega) (by omega)).trans hl2
        have hk3 : W3.heap[w.heap.size]? = some (.deferred (some [])) := (hlk _ (by omega) (by omega) (by omega)).trans hk2
        have hrc' : ∀ g, rc' = some g → w.heap.size + 2 ≤ g := fun g e => by
          rcases hr3 with r | ⟨g', r, hg'⟩
          · exact hrc g (by rw [← r, e])
          · rw [r] at e; cases e; omega
        have hr := run_endRound (P := P) none hl3
        have hnl3 : ¬ (w.heap.size + 1 < w.heap.size ∨ some (w.heap.size + 1) = rc') := by
          rintro (h | h)
          · omega
          · have := hrc' _ h.symm; omega
        rw [hrec] at hr
        refine ⟨_, _, hr, rfl, rc', ⟨hI _ _ _ _ hi3 (kept_putObj _ _ _ hnl3), hrc', ?_, (World.putObj_heap_other (by omega)).trans hk3⟩, ?_, ?_⟩
        · rw [hrec]; exact World.putObj_heap_same (Array.getElem?_eq_some_iff.1 hl3).1
        · rcases hr3 with r | ⟨g', r, hg'⟩
          · exact .inl r
          · exact .inr ⟨g', r, by omega⟩
        · exact (((KeptIf.of_below hba).trans hfr2).trans (hf3.mono fun k _ hp => by
            rcases hp with hp | hp
            · exact .inl hp
            · exact .inr ⟨by omega, hp.2⟩)).trans (kept_putObj _ _ _ (by rintro (h | h) <;> omega))
      | ret => exact hp.elim
      | exit id => exact hp.elim
      | goto t => exact hp.elim
      | panic ch => exact hp.elim
      | outgrown => exact hp.elim
    · rintro e W2 ⟨⟨v, rfl⟩, xs, rc, hS, hi, hrc, hl, hk⟩
      refine ⟨none, _, by have := run_endLoop (P := P) hl (by rw [hrec]; simp); rw [hrec] at this; exact this, hdone _ xs rc _ (Nat.le_refl _) hS (hI _ _ _ _ hi (kept_putObj _ _ _ ?_)) ((World.putObj_heap_other (by omega)).trans hk)⟩
      rintro (h | h)
      · omega
      · have := hrc _ h.symm; omega
end Go.Proofs.Ytemkloildadokaa
set_option linter.unusedVariables false
set_option linter.unusedSimpArgs false
/-! The steps of a line, each with what comes or is taken, as an iterator. -/
namespace Go.Proofs.Ytemkloildadokaa
open Go.RowKit Go.Shelf Go.Proofs.YtemkloildadokaaW.PrintWords
attribute [local go_sem] Oper.semAt_some
/-- What is there behind a step is in order. -/
structure GoesE (t : Int) (q : List PElem) (S : List PStep) : Prop where
  there : ThereE t q
  inc : incB S = true
  from_ : ∀ s, S.head? = some s → t ≤ s.at_
  kind : ∀ s ∈ S, s.do_ = 1 ∨ s.do_ = 2
theorem GoesE.next {t : Int} {q q' : List PElem} {s : PStep} {S : List PStep} {x : PElem} (h : GoesE t q (s :: S)) (hn : nextE q s = some (q', x)) : GoesE (s.at_ + 1) q' S := by
  refine ⟨h.there.next (h.from_ s rfl) hn, ?_, ?_, fun u hu => h.kind u (by simp [hu])⟩
  · have := h.inc
    simp only [incB, Bool.and_eq_true] at this
    exact this.2
  · intro u hu
    have := h.inc
    simp only [incB, Bool.and_eq_true] at this
    cases S with
    | nil => cases hu
    | cons v S =>
      simp only [List.head?_cons, Option.some.injEq] at hu
      subst hu
      have := of_decide_eq_true this.1
      omega
theorem nextE_length {q q' : List PElem} {s : PStep} {x : PElem} (h : nextE q s = some (q', x)) : q'.length ≤ q.length + 1 := by
  unfold nextE at h
  split at h
  · cases q with
    | nil => cases h
    | cons y q => simp only [Option.some.injEq, Prod.mk.injEq] at h; obtain ⟨rfl, -⟩ := h; simp; omega
  · simp only [Option.some.injEq, Prod.mk.injEq] at h
    obtain ⟨rfl, -⟩ := h
    have := (perm_ins ⟨s.key, s.at_⟩ q).length_eq
    simp at this
    omega
theorem GoesE.steps {l : List PStep} (h : stepsB l = true) : GoesE 0 [] l := by
  unfold stepsB at h
  simp only [Bool.and_eq_true, List.all_eq_true] at h
  refine ⟨.nil 0, h.2.1, fun s hs => ?_, fun s hs => ?_⟩
  · have := h.1 s (by cases l with | nil => cases hs | cons u l => simp at hs; simp [hs])
    unfold pstepB at this
    simp only [Bool.and_eq_true, decide_eq_true_eq] at this
    exact this.1
  · have := h.1 s hs
    unfold pstepB at this
    simp only [Bool.and_eq_true, Bool.or_eq_true, decide_eq_true_eq, beq_iff_eq] at this
    rcases this.2.2.2.2 with h | h
    · exact .inl h
    · exact .inr h.1
def encP (p : PStep × PElem) : Array Value := #[.agg #[.int .i64 p.1.at_, .int .i64 p.1.do_, .int .i64 p.1.key], .agg #[.int .i64 p.2.key, .int .i64 p.2.from_]]
theorem own_empty {α : Type} (d : Kd α) (e : Nat) (W : World) (base : Nat) (hb : base ≤ W.heap.size) : Own d e (W.alloc (.cells #[] e)) base (.slice (some ⟨W.heap.size, 0, none⟩) 0 0) [] := by
  refine ⟨fun _ _ => trivial, [], ?_, by simp, fun j p hj => by simp at hj⟩
  have h2 := World.ownsRow_lit (base := base) (e := e) (size := d.sz) W #[] 0 hb (by simp [maxLen]) (by simp)
  simpa using h2
theorem heap_empty (W : World) : HeapAt W.heap.size ((W.alloc (.cells #[] 58)).alloc (.cells #[.slice (some ⟨W.heap.size, 0, none⟩) 0 0] 113)) (W.heap.size + 1) (some W.heap.size) [] := by
  refine ⟨[], ⟨Nat.le_succ _, some ⟨W.heap.size, 0, none⟩, 0, 0, ?_, Kd.R_below (own_empty kPElem 58 W W.heap.size (Nat.le_refl _)) (below_alloc (Below.refl _ _) _), rfl⟩, HeapOf.nil⟩
  have := Cells.new (W.alloc (.cells #[] 58)) #[.slice (some ⟨W.heap.size, 0, none⟩) 0 0] 113
  rwa [World.size_alloc] at this
theorem PFr.kept {h0 : Nat} {w w' : World} {B : Nat} {own own' : Option Nat} {p : Nat → Prop} (h : PFr h0 w w' B own own') (hp : ∀ k, p k → k ≠ B ∧ some k ≠ own) : KeptIf p w w' := ⟨h.below.os, h.below.tape, h.below.output, h.below.size, fun k hk hpk => h.keep k hk (hp k hpk).1 (hp k hpk).2⟩
set_option maxRecDepth 100000 in
theorem pique_done (A : Option Addr) (m c : Nat) (w : World) :
    Calls Try.prog 64 #[.slice A m c] w fun e w' => e = .returned (.func (.func 95) #[] #[.pointer (some ⟨w.heap.size, 0, none⟩)]) ∧ w' = w.alloc (.cells #[.slice A m c] 22) := by
  go_enter Try.func64, Try.ntmps64
  go_wp2
  go_ret
  exact ⟨rfl, rfl⟩
/-- What the iterator owes between two rounds. -/
structure MidH (n0 : Nat) (n1 : Nat) (B : Nat) (l : List PStep) (k : Nat) (J : List (PStep × PElem) → Option Nat → World → Prop) (w0 : World) (wr : World) : Prop where
  le : k ≤ l.length
  ex : ∃ (pre : List (PStep × PElem)) (rc own : Option Nat) (q : List PElem) (t : Int), pre.length = k ∧ doneE [] l = pre ++ doneE q (l.drop k) ∧ GoesE t q (l.drop k) ∧ q.length ≤ k ∧ J pre rc wr ∧ HeapAt n0 wr B own q ∧ (∀ g, own = some g → rc ≠ some g) ∧ rc ≠ some B
  below : Below w0.heap.size w0 wr
  size : n1 ≤ wr.heap.size
set_option maxRecDepth 100000 in
set_option maxHeartbeats 8000000 in
theorem done1_in (n L fb : Nat) (A : Option Addr) (c : Nat) (l : List PStep) (w0 : World) (hrow : PStepRow w0 A l.length l) (hst : stepsB l = true) (J : List (PStep × PElem) → Option Nat → World → Prop)
    (W : World) (hW : Below w0.heap.size w0 W) (hJ : ∀ s rc X Y, J s rc X → KeptIf (fun k => k < W.heap.size ∨ some k = rc) X Y → J s rc Y) (hJv : ∀ s rc X, J s rc X → ∀ g, rc = some g → g < X.heap.size)
    (hY : ∀ pre rc x W1, J pre rc W1 → pre.length < (doneE [] l).length → YieldAt Fence.wide (n - 1) Try.prog L (encP x) W1 fun e W' =>
      e = .returned (.bool true) ∧ ∃ rc', J (pre ++ [x]) rc' W' ∧ (rc' = rc ∨ ∃ g, rc' = some g ∧ W1.heap.size ≤ g) ∧ KeptIf (fun k => k < w0.heap.size ∨ (W.heap.size ≤ k ∧ some k ≠ rc)) W1 W')
    (c1 : W.cell? ⟨fb, 0, none⟩ = some (.slice A l.length c)) (h0 : J [] none W) :
    CallsIn Fence.wide n Try.prog 95 #[.func (.yield L) #[] #[], .pointer (some ⟨fb, 0, none⟩)] W fun e W' => (∃ v, e = .returned v) ∧ ∃ xs rc, xs = doneE [] l ∧ J xs rc W' := by
  have hm : l.length ≤ 9223372036854775807 := hrow.2.1
  have hl60 : l.length ≤ 60 := by unfold stepsB at hst; simp only [Bool.and_eq_true, decide_eq_true_eq] at hst; exact hst.2.2
  have HR := Lib.hid hrow
  have HY := Lib.hid hY
  have HG := Lib.hid (GoesE.steps hst)
  have HJ0 := Lib.hid h0
  have HJ := Lib.hid hJ
  have HJv := Lib.hid hJv
  clear hrow hY h0 hJ hJv hst
  refine callsIn_of_wp Try.func95 rfl trivial ?_ rfl
  simp only [Try.ntmps95, List.size_toArray, List.length_cons, List.length_nil, Nat.reduceAdd, Nat.reduceSub, Array.replicate_succ, Array.replicate_zero, List.push_toArray, List.append_toArray, List.nil_append, List.cons_append]
  refine wpIn_wide.2 ?_
  go_upto_region 1 with fail
  have HP1 := Lib.hid (heap_empty W)
  have HB1 := Lib.hid (below_alloc (below_alloc (Below.refl _ W) (.cells #[] 58)) (.cells #[.slice (some ⟨W.heap.size, 0, none⟩) 0 0] 113))
  have HSz := Lib.hid (show ((W.alloc (.cells #[] 58)).alloc (.cells #[.slice (some ⟨W.heap.size, 0, none⟩) 0 0] 113)).heap.size = W.heap.size + 2 by simp)
  generalize (W.alloc (.cells #[] 58)).alloc (.cells #[.slice (some ⟨W.heap.size, 0, none⟩) 0 0] 113) = W2 at HP1 HB1 HSz ⊢
  have c2 := cell_keep HB1.out c1
  clear c1
  go_wp2
  clear c2
  go_loopw [12] (fun i wr => ∃ k : Nat, i = .int .i64 k ∧ MidH W.heap.size (W.heap.size + 2) (W.heap.size + 1) l k J w0 wr) (fun i _ => l.length - (intOf i).toNat)
  case atStart =>
    refine ⟨0, rfl, Nat.zero_le _, ⟨[], none, some W.heap.size, [], 0, rfl, by simp, by simpa using HG.out, by simp, HJ.out _ _ _ _ HJ0.out (.of_below HB1.out), HP1.out, (fun g _ h => by cases h), (fun h => by cases h)⟩, below_base hW HB1.out hW.size, by rw [HSz.out]; exact Nat.le_refl _⟩
  case round =>
    obtain ⟨k, rfl, hM⟩ := hrel
    have hk := hM.le
    have HM := Lib.hid hM
    clear hM
    by_cases hlt : k < l.length
    · obtain ⟨s, ad, hd, htk, hget, rfl, e0, e1, e2⟩ := pstep_at (Kd.C_below HR.out HM.out.below) k hlt
      obtain ⟨pre, rc, own, q, t, h1, h2, h3, h4, h5, h6, h7, h8⟩ := HM.out.ex
      rw [hd] at h2 h3
      have Hp := Lib.hid h6
      have H2 := Lib.hid h2
      have H3 := Lib.hid h3
      have H5 := Lib.hid h5
      have H7 := Lib.hid (And.intro h7 h8)
      have H1 := Lib.hid h1
      have Hd := Lib.hid hd
      have H4 := Lib.hid h4
      clear h1 h2 h3 h5 h6 h7 h8 hd htk hget h4
      go_upto_region 4 with fail
      have HS := Lib.hid (Cells.new wr #[.int .i64 s.at_, .int .i64 s.do_, .int .i64 s.key] 36)
      have HBa := Lib.hid (below_alloc (Below.refl wr.heap.size wr) (.cells #[.int .i64 s.at_, .int .i64 s.do_, .int .i64 s.key] 36))
      have Hpa := Lib.hid (Hp.out.later HBa.out)
      have HSa := Lib.hid (show (wr.alloc (.cells #[.int .i64 s.at_, .int .i64 s.do_, .int .i64 s.key] 36)).heap.size = wr.heap.size + 1 by simp)
      clear e0 e1 e2
      generalize wr.alloc (.cells #[.int .i64 s.at_, .int .i64 s.do_, .int .i64 s.key] 36) = w1 at HS HBa Hpa HSa ⊢
      have s0 := HS.out.cell 0 _ rfl
      have s1 := HS.out.cell 1 _ rfl
      have s2 := HS.out.cell 2 _ rfl
      have hdo := p_do W.heap.size (W.heap.size + 1) own q s w1 Hpa.out H3.out.there.sorted (by have := H4.out; omega) (by have := HM.out.size; have := HSa.out; omega) (H3.out.kind s (by simp))
      cases hn : nextE q s with
      | none =>
        rw [hn] at hdo
        simp only [] at hdo
        have HDo := Lib.hid hdo
        clear hdo
        go_upto_region 5 with (first
          | (go_at_call 83; (with_reducible refine HDo.out.mono ?_); rintro e w2 ⟨rfl, own2, hp2, hf2⟩))
        have hJ2 : J pre rc (w2.alloc (.cells #[.int .i64 0, .int .i64 0] 58)) := HJ.out _ _ _ _ H5.out (((KeptIf.of_below HBa.out).trans (hf2.kept fun k hk => by
          rcases hk with hk | hk
          · exact ⟨by omega, fun e => by have := (Hpa.out.own_lt k e.symm).1; omega⟩
          · exact ⟨fun e => H7.out.2 (by rw [← hk, e]), fun e => H7.out.1 k e.symm hk.symm⟩)).trans (.of_below (below_alloc (Below.refl _ _) _)))
        have hpre : pre = doneE [] l := by rw [H2.out, doneE, hn]; simp
        have HJ2 := Lib.hid hJ2
        clear hJ2 hf2 hp2
        go_wp2
        refine bodyPost_ret (results_none rfl _ _ _) rfl ?_
        exact ⟨⟨_, rfl⟩, pre, rc, hpre, HJ2.out⟩
      | some qx =>
        obtain ⟨q', x⟩ := qx
        rw [hn] at hdo
        simp only [] at hdo
        have HDo := Lib.hid hdo
        clear hdo
        go_upto_region 5 with (first
          | (go_at_call 83; (with_reducible refine HDo.out.mono ?_); rintro e w2 ⟨rfl, own2, hp2, hf2⟩))
        have hft : KeptIf (fun k => k < W.heap.size ∨ some k = rc) w1 w2 := hf2.kept fun k hk => by
          rcases hk with hk | hk
          · exact ⟨by omega, fun e => by have := (Hpa.out.own_lt k e.symm).1; omega⟩
          · exact ⟨fun e => H7.out.2 (by rw [← hk, e]), fun e => H7.out.1 k e.symm hk.symm⟩
        have hS2 := hf2.cells HS.out (by have := HM.out.size; omega) (fun e => by have := (Hp.out.own_lt _ e.symm).2.1; omega)
        have hbe := below_alloc (Below.refl w2.heap.size w2) (.cells #[.int .i64 x.key, .int .i64 x.from_] 58)
        have hX3 := Cells.new w2 #[.int .i64 x.key, .int .i64 x.from_] 58
        have hS3 := hS2.later hbe
        have hp3 := hp2.later hbe
        have hJ3 : J pre rc (w2.alloc (.cells #[.int .i64 x.key, .int .i64 x.from_] 58)) := HJ.out _ _ _ _ H5.out (((KeptIf.of_below HBa.out).trans hft).trans (.of_below hbe))
        have hlen : pre.length < (doneE [] l).length := by rw [H2.out, doneE, hn]; simp
        have hsz3 : w2.heap.size ≤ (w2.alloc (.cells #[.int .i64 x.key, .int .i64 x.from_] 58)).heap.size := hbe.size
        have hb03 : Below w0.heap.size w0 (w2.alloc (.cells #[.int .i64 x.key, .int .i64 x.from_] 58)) := ((HM.out.below.trans (HBa.out.mono HM.out.below.size)).trans (hf2.below.mono hW.size)).trans (hbe.mono (Nat.le_trans (Nat.le_trans HM.out.below.size HBa.out.size) hf2.below.size))
        have hown3 : ∀ g, own2 = some g → g < (w2.alloc (.cells #[.int .i64 x.key, .int .i64 x.from_] 58)).heap.size ∧ W.heap.size ≤ g ∧ rc ≠ some g := fun g hg => ⟨Nat.lt_of_lt_of_le (hp2.own_lt g hg).2.1 hsz3, (hp2.own_lt g hg).1, fun e => by
          rcases hf2.row with r | ⟨g', r, hg'⟩
          · exact H7.out.1 g (by rw [← r, hg]) e
          · rw [r] at hg; cases hg
            have := HJv.out _ _ _ H5.out g e
            have := HBa.out.size
            omega⟩
        have hsw := hf2.below.size
        have hB3 : W.heap.size + 1 < (w2.alloc (.cells #[.int .i64 x.key, .int .i64 x.from_] 58)).heap.size := Nat.lt_of_lt_of_le hp2.lt hsz3
        generalize w2.alloc (.cells #[.int .i64 x.key, .int .i64 x.from_] 58) = w3 at hX3 hS3 hp3 hJ3 hsz3 hb03 hown3 hB3 ⊢
        obtain ⟨fn, tmps, asg, body, hy, hR⟩ := HY.out pre rc (s, x) w3 hJ3 hlen
        simp only [encP] at hy
        have HX3 := Lib.hid hX3
        have HS3 := Lib.hid hS3
        have HP3 := Lib.hid hp3
        have HB3 := Lib.hid hb03
        have HO3 := Lib.hid hown3
        clear s0 s1 s2
        have s0 := hS3.cell 0 _ rfl
        have s1 := hS3.cell 1 _ rfl
        have s2 := hS3.cell 2 _ rfl
        have x0 := hX3.cell 0 _ rfl
        have x1 := hX3.cell 1 _ rfl
        clear hS3 hX3 hp3 hb03 hown3 hJ3 hbe hS2 hft hf2 hp2 hlen
        refine (wpIn_wide (n := n)).1 ?_
        gi_wp2_with (first
          | (refine hR.mono ?_; rintro e W3 ⟨rfl, rc3, h1, h2, h3⟩))
        have hsM := HM.out.size
        have hsA := HSa.out
        have hs3 := h3.size
        have hin : ∀ b, b < w3.heap.size → W.heap.size ≤ b → some b ≠ rc → W3.heap[b]? = w3.heap[b]? := fun b hb hw hr => h3.block b hb (.inr ⟨hw, hr⟩)
        have hmid : MidH W.heap.size (W.heap.size + 2) (W.heap.size + 1) l (k + 1) J w0 W3 := by
          refine ⟨by omega, ⟨pre ++ [(s, x)], rc3, own2, q', s.at_ + 1, by simp [H1.out], by rw [H2.out, doneE, hn]; simp, H3.out.next hn, by have := nextE_length hn; have := H4.out; omega, h1, ?_, ?_, ?_⟩, HB3.out.trans (h3.below HB3.out.size fun k hk => .inl hk), by omega⟩
          · exact HP3.out.kept (hin _ hB3 (by omega) fun e => H7.out.2 e.symm) fun g hg => hin g (HO3.out g hg).1 (HO3.out g hg).2.1 fun e => (HO3.out g hg).2.2 e.symm
          · intro g hg e
            rcases h2 with r | ⟨g', r, hg'⟩
            · exact (HO3.out g hg).2.2 (by rw [← r, e])
            · rw [r] at e; cases e
              have := (HO3.out g hg).1
              omega
          · intro e
            rcases h2 with r | ⟨g', r, hg'⟩
            · exact H7.out.2 (by rw [← r, e])
            · rw [r] at e; cases e
              omega
        have HMid := Lib.hid hmid
        clear hmid hin h1 h2 h3 hsM hsA hs3 hB3 hsw hsz3 hn
        go_wp2
        exact ⟨⟨k + 1, by go_num, HMid.out⟩, by simp [intOf]; omega⟩
    · have hkl : k = l.length := by omega
      obtain ⟨pre, rc, own, q, t, h1, h2, h3, h4, h5, h6, h7, h8⟩ := HM.out.ex
      have HJ5 := Lib.hid h5
      have hpre : pre = doneE [] l := by rw [h2, hkl, List.drop_of_length_le (Nat.le_refl _), doneE, List.append_nil]
      clear hkl h1 h2 h3 h4 h5 h6 h7 h8
      go_wp2
      go_end0
      exact ⟨⟨_, rfl⟩, pre, rc, hpre, HJ5.out⟩
/-- .. as the caller's law takes it. -/
theorem done_seq (n fb : Nat) (A : Option Addr) (c : Nat) (l : List PStep) (w0 w1 : World) (hrow : PStepRow w0 A l.length l) (hst : stepsB l = true) (hb : Below w0.heap.size w0 w1) (c1 : w1.cell? ⟨fb, 0, none⟩ = some (.slice A l.length c)) :
    SeqH Fence.wide n Try.prog 95 #[.pointer (some ⟨fb, 0, none⟩)] encP (fun xs => xs = doneE [] l) (doneE [] l).length w0.heap.size w1 :=
  fun L J W hW hJ hJv hY h0 => done1_in n L fb A c l w0 hrow hst J W (below_base hb hW hb.size) hJ hJv hY (cell_later' hW c1) h0
end Go.Proofs.Ytemkloildadokaa
set_option linter.unusedVariables false
set_option linter.unusedSimpArgs false
/-! Which steps are formed, and follow each other. -/
namespace Go.Proofs.Ytemkloildadokaa
open Go.RowKit Go.Shelf Go.Proofs.YtemkloildadokaaW.PrintWords
set_option maxRecDepth 100000 in
theorem p_within (n lo hi : Int) (w : World) :
    Calls Try.prog 97 #[.int .i64 n, .int .i64 lo, .int .i64 hi] w fun e w' => e = .returned (.bool (decide (lo ≤ n) && decide (n ≤ hi))) ∧ w' = w := by
  by_cases h : lo ≤ n
  · have hd : decide (lo ≤ n) = true := by simp [h]
    clear h
    go_enter Try.func97, Try.ntmps97
    go_wp2
    go_ret
    simp [hd]
  · have hd : decide (lo ≤ n) = false := by simp [h]
    clear h
    go_enter Try.func97, Try.ntmps97
    go_wp2
    go_ret
    simp [hd]
set_option maxRecDepth 100000 in
set_option maxHeartbeats 4000000 in
theorem p_isStep (s : PStep) (w : World) :
    Calls Try.prog 71 #[.agg #[.int .i64 s.at_, .int .i64 s.do_, .int .i64 s.key]] w fun e w' => e = .returned (.bool (pstepB s)) ∧ Below w.heap.size w w' := by
  have hp : pstepB s = ((decide (0 ≤ s.at_) && decide (s.at_ ≤ 1000)) && ((decide (-1000000000 ≤ s.key) && decide (s.key ≤ 1000000000)) && (s.do_ == 1 || (s.do_ == 2 && s.key == 0)))) := by
    simp only [pstepB, Bool.and_assoc]
  rw [hp]
  clear hp
  generalize hA : (decide (0 ≤ s.at_) && decide (s.at_ ≤ 1000)) = A
  generalize hB : (decide (-1000000000 ≤ s.key) && decide (s.key ≤ 1000000000)) = B
  have HA := Lib.hid hA
  have HB := Lib.hid hB
  clear hA hB
  generalize h1 : (s.do_ == 1) = b1
  generalize h2 : (s.do_ == 2) = b2
  generalize h3 : (s.key == 0) = b3
  have HN := Lib.hid (Below.refl w.heap.size w |>.alloc (Nat.le_refl _) (.cells #[.int .i64 s.at_, .int .i64 s.do_, .int .i64 s.key] 36))
  have HC := Lib.hid (Cells.new w #[.int .i64 s.at_, .int .i64 s.do_, .int .i64 s.key] 36)
  go_enter Try.func71, Try.ntmps71
  go_upto_region 1 with fail
  generalize w.alloc (.cells #[.int .i64 s.at_, .int .i64 s.do_, .int .i64 s.key] 36) = w1 at HN HC ⊢
  have s0 := HC.out.cell 0 _ rfl
  have s1 := HC.out.cell 1 _ rfl
  have s2 := HC.out.cell 2 _ rfl
  cases A
  · go_wp2_with (first
      | (go_at_call 97; (with_reducible refine (p_within _ _ _ _).mono ?_); rintro e w2 ⟨rfl, rfl⟩; simp only [HA.out, HB.out]))
    go_ret
    exact ⟨rfl, HN.out⟩
  · cases B
    · go_wp2_with (first
        | (go_at_call 97; (with_reducible refine (p_within _ _ _ _).mono ?_); rintro e w2 ⟨rfl, rfl⟩; simp only [HA.out, HB.out]))
      go_ret
      exact ⟨rfl, HN.out⟩
    · cases b1 <;> cases b2 <;> cases b3
      all_goals
        go_wp2_with (first
          | (go_at_call 97; (with_reducible refine (p_within _ _ _ _).mono ?_); rintro e w2 ⟨rfl, rfl⟩; simp only [HA.out, HB.out]))
        go_ret
        exact ⟨rfl, HN.out⟩
/-- Steps behind one at a time. -/
def okFrom : Option Int → List PStep → Bool
  | _, [] => true
  | last, s :: l => (pstepB s && (match last with | none => true | some t => decide (t < s.at_))) && okFrom (some s.at_) l
theorem okFrom_cons (last : Option Int) (s : PStep) (l : List PStep) : okFrom last (s :: l) = ((pstepB s && (match last with | none => true | some t => decide (t < s.at_))) && okFrom (some s.at_) l) := by cases last <;> rfl
theorem ok_from : ∀ (l : List PStep) (last : Option Int), okFrom last l = (l.all pstepB && (incB l && (match last, l.head? with | some t, some s => decide (t < s.at_) | _, _ => true)))
  | [], last => by cases last <;> rfl
  | s :: l, last => by
    have ih := ok_from l (some s.at_)
    cases l with
    | nil => cases last <;> simp [okFrom, incB]
    | cons u l =>
      rw [okFrom_cons, ih]
      simp only [incB, List.all_cons, List.head?_cons]
      cases last with
      | none => cases pstepB s <;> cases pstepB u <;> cases l.all pstepB <;> cases decide (s.at_ < u.at_) <;> simp
      | some t => cases pstepB s <;> cases pstepB u <;> cases l.all pstepB <;> cases decide (s.at_ < u.at_) <;> simp [Bool.and_comm]
theorem steps_ok (l : List PStep) : stepsB l = (okFrom none l && decide (l.length ≤ 60)) := by
  rw [ok_from, stepsB]
  cases l.head? <;> simp [Bool.and_assoc]
def lastE (l : List PStep) : Nat → Option Int
  | 0 => none
  | k + 1 => (l[k]?).map (·.at_)
set_option maxRecDepth 100000 in
set_option maxHeartbeats 8000000 in
theorem p_areSteps (A : Option Addr) (c : Nat) (l : List PStep) (w : World) (hrow : PStepRow w A l.length l) :
    Calls Try.prog 82 #[.slice A l.length c] w fun e w' => e = .returned (.bool (stepsB l)) ∧ Below w.heap.size w w' := by
  have hm : l.length ≤ 9223372036854775807 := hrow.2.1
  have HR := Lib.hid hrow
  have HS := Lib.hid (steps_ok l)
  clear hrow
  go_enter Try.func82, Try.ntmps82
  go_upto_region 1 with fail
  go_wp2
  go_loopw [7] (fun i wr => ∃ k : Nat, k ≤ l.length ∧ i = .int .i64 k ∧ Below w.heap.size w wr ∧ Hid (okFrom none l = okFrom (lastE l k) (l.drop k))) (fun i _ => l.length - (intOf i).toNat)
  case atStart => exact ⟨0, Nat.zero_le _, rfl, Below.refl _ _, Lib.hid (by simp [lastE])⟩
  case round =>
    obtain ⟨k, hk, rfl, hB, Hg⟩ := hrel
    by_cases hlt : k < l.length
    · obtain ⟨s, ad, hd, htk, hget, rfl, e0, e1, e2⟩ := pstep_at (Kd.C_below HR.out hB) k hlt
      have hst := Lib.hid (show okFrom none l = _ by rw [Hg.out, hd, okFrom_cons])
      have Hget := Lib.hid hget
      clear hd htk hget Hg
      have HC := Lib.hid (Cells.new wr #[.int .i64 s.at_, .int .i64 s.do_, .int .i64 s.key] 36)
      have HBa := Lib.hid (below_alloc (Below.refl wr.heap.size wr) (.cells #[.int .i64 s.at_, .int .i64 s.do_, .int .i64 s.key] 36))
      have HSa := Lib.hid (show (wr.alloc (.cells #[.int .i64 s.at_, .int .i64 s.do_, .int .i64 s.key] 36)).heap.size = wr.heap.size + 1 by simp)
      go_upto_region 4 with fail
      clear e0 e1 e2
      generalize wr.alloc (.cells #[.int .i64 s.at_, .int .i64 s.do_, .int .i64 s.key] 36) = w1 at HC HBa HSa ⊢
      have hX : ∀ X, Below w1.heap.size w1 X → Cells X wr.heap.size #[.int .i64 s.at_, .int .i64 s.do_, .int .i64 s.key] 36 := fun X hX => HC.out.later hX
      have HX := Lib.hid hX
      clear hX
      cases hps : pstepB s with
      | false =>
        have Hps := Lib.hid hps
        clear hps
        refine wp_region_flow [.calm 0, .calm 1, .free 2, .free 3, .free 4, .free 5, .free 6, .free 7, .free 8, .free 9, .free 10, .free 11, .free 12, .free 13, .free 14, .free 15, .free 16, .free 17] (Below w1.heap.size w1) (Below w1.heap.size w1) (stable_below _ _ (Nat.le_refl _)) (fun _ h => h) (by kernel_rfl) (by kernel_rfl) (below_drew1 (Below.refl _ _)) ?_
        simp only [pickEnts, pickF, List.getElem?_cons_succ, List.getElem?_cons_zero, List.filterMap_cons, List.filterMap_nil, Option.map_some]
        repeat ((first | refine flow_calm (fun K hK => ?_) | refine flow_free (fun K hK => ?_) | refine float_calm (fun K hK => ?_) | refine float_free (fun K hK => ?_)); go_simp; first | (refine hK _ ?_; clear hK K) | (apply Exists.intro; (refine ⟨fun X => ?_, hK _ ?_⟩); (first | (intro hC; rfl) | rfl | (intro hC; have q := HX.out X hC.out; have q0 := q.cell 0 _ rfl; have q1 := q.cell 1 _ rfl; have q2 := q.cell 2 _ rfl; go_simp; done) | (intro hC; have q := HX.out X hC.out; have q0 := q.cell 0 _ rfl; have q1 := q.cell 1 _ rfl; have q2 := q.cell 2 _ rfl; go_simp; rfl) | (intro hC; (with_reducible refine (p_isStep s _).mono ?_); rintro e w' ⟨rfl, hb⟩; exact ⟨by rw [Hps.out], hb⟩)); clear hK K))
        refine flow_nil ?_
        intro X hC
        have HC' := Lib.hid hC.out
        clear hC
        go_wp2
        go_ret
        exact ⟨by rw [HS.out, hst.out, Hps.out]; simp, below_step hB (below_step HBa.out HC'.out)⟩
      | true =>
        have Hps := Lib.hid hps
        clear hps
        rcases Nat.eq_zero_or_pos k with hk0 | hk0
        · subst hk0
          refine wp_region_flow [.calm 0, .calm 1, .free 2, .free 3, .free 4, .free 5, .free 6, .free 7, .free 8, .free 9, .free 10, .free 11, .free 12, .free 13, .free 14, .free 15, .free 16, .free 17] (Below w1.heap.size w1) (Below w1.heap.size w1) (stable_below _ _ (Nat.le_refl _)) (fun _ h => h) (by kernel_rfl) (by kernel_rfl) (below_drew1 (Below.refl _ _)) ?_
          simp only [pickEnts, pickF, List.getElem?_cons_succ, List.getElem?_cons_zero, List.filterMap_cons, List.filterMap_nil, Option.map_some]
          repeat ((first | refine flow_calm (fun K hK => ?_) | refine flow_free (fun K hK => ?_) | refine float_calm (fun K hK => ?_) | refine float_free (fun K hK => ?_)); go_simp; first | (refine hK _ ?_; clear hK K) | (apply Exists.intro; (refine ⟨fun X => ?_, hK _ ?_⟩); (first | (intro hC; rfl) | rfl | (intro hC; have q := HX.out X hC.out; have q0 := q.cell 0 _ rfl; have q1 := q.cell 1 _ rfl; have q2 := q.cell 2 _ rfl; go_simp; done) | (intro hC; have q := HX.out X hC.out; have q0 := q.cell 0 _ rfl; have q1 := q.cell 1 _ rfl; have q2 := q.cell 2 _ rfl; go_simp; rfl) | (intro hC; (with_reducible refine (p_isStep s _).mono ?_); rintro e w' ⟨rfl, hb⟩; exact ⟨by rw [Hps.out], hb⟩)); clear hK K))
          refine flow_nil ?_
          intro X hC
          have HC' := Lib.hid hC.out
          clear hC
          go_wp2
          exact ⟨⟨1, by omega, rfl, below_step hB (below_step HBa.out HC'.out), Lib.hid (by rw [hst.out, Hps.out]; simp [lastE, Hget.out])⟩, by simp [intOf]; omega⟩
        · obtain ⟨j, hj⟩ : ∃ j, k = j + 1 := ⟨k - 1, by omega⟩
          obtain ⟨u, ad', -, -, hgu, hae, v0, v1, v2⟩ := pstep_at (Kd.C_below HR.out hB) j (by omega)
          cases hae
          have hla : lastE l k = some u.at_ := by rw [hj]; simp [lastE, hgu]
          have hst' := Lib.hid (show okFrom none l = (decide (u.at_ < s.at_) && okFrom (some s.at_) (l.drop (k + 1))) by rw [hst.out, Hps.out, hla]; simp)
          have hwr : IntKind.i64.wrap ((k : Int) - 1) = (j : Int) := by rw [IntWalk.i64_in _ (by omega)]; omega
          have hjl : j < l.length := by omega
          have hgt : (0 : Int) < k := by omega
          have HV := Lib.hid (show ∀ X, Below w1.heap.size w1 X → X.cell? (ad.add (j * 3)) = some (.int .i64 u.at_) from fun X hX => cell_keep (HBa.out.trans (hX.mono (by have := HSa.out; omega))) v0)
          clear v0 v1 v2 hla
          have Hj := Lib.hid hj
          clear hj
          cases hlt2 : decide (u.at_ < s.at_)
          all_goals
            have hge : decide (s.at_ ≤ u.at_) = !decide (u.at_ < s.at_) := by rw [← decide_not]; exact decide_eq_decide.2 (by omega)
            rw [hlt2] at hge
            simp only [Bool.not_true, Bool.not_false] at hge
            rw [hlt2] at hst'
            clear hlt2
            refine wp_region_flow [.calm 0, .calm 1, .free 2, .free 3, .free 4, .free 5, .free 6, .free 7, .free 8, .free 9, .free 10, .free 11, .calm 12, .free 13, .calm 14, .free 15, .free 16, .free 17] (Below w1.heap.size w1) (Below w1.heap.size w1) (stable_below _ _ (Nat.le_refl _)) (fun _ h => h) (by kernel_rfl) (by kernel_rfl) (below_drew1 (Below.refl _ _)) ?_
            simp only [pickEnts, pickF, List.getElem?_cons_succ, List.getElem?_cons_zero, List.filterMap_cons, List.filterMap_nil, Option.map_some]
            repeat ((first | refine flow_calm (fun K hK => ?_) | refine flow_free (fun K hK => ?_) | refine float_calm (fun K hK => ?_) | refine float_free (fun K hK => ?_)); go_simp; first | (refine hK _ ?_; clear hK K) | (apply Exists.intro; (refine ⟨fun X => ?_, hK _ ?_⟩); (first | (intro hC; rfl) | rfl | (intro hC; have q := HX.out X hC.out; have q0 := q.cell 0 _ rfl; have q1 := q.cell 1 _ rfl; have q2 := q.cell 2 _ rfl; have v0 := HV.out X hC.out; go_simp; done) | (intro hC; have q := HX.out X hC.out; have q0 := q.cell 0 _ rfl; have q1 := q.cell 1 _ rfl; have q2 := q.cell 2 _ rfl; have v0 := HV.out X hC.out; go_simp; rfl) | (intro hC; (with_reducible refine (p_isStep s _).mono ?_); rintro e w' ⟨rfl, hb⟩; exact ⟨by rw [Hps.out], hb⟩)); clear hK K))
            refine flow_nil ?_
            intro X hC
            have HC' := Lib.hid hC.out
            clear hC
            go_wp2
          · go_ret
            exact ⟨by rw [HS.out, hst'.out]; simp, below_step hB (below_step HBa.out HC'.out)⟩
          · exact ⟨⟨k + 1, by omega, by go_num, below_step hB (below_step HBa.out HC'.out), Lib.hid (by rw [hst'.out]; simp [lastE, Hget.out])⟩, by simp [intOf]; omega⟩
    · have hkl : k = l.length := by omega
      have hall : okFrom none l = true := by rw [Hg.out, hkl, List.drop_of_length_le (Nat.le_refl _)]; cases lastE l l.length <;> rfl
      rw [hall, Bool.true_and] at HS
      clear hkl hall Hg
      go_wp2
      go_ret
      exact ⟨by rw [HS.out]; simp; omega, hB⟩
end Go.Proofs.Ytemkloildadokaa
set_option linter.unusedVariables false
set_option linter.unusedSimpArgs false
/-! Which lines are formed. -/
namespace Go.Proofs.Ytemkloildadokaa
open Go.RowKit Go.Shelf Go.Proofs.YtemkloildadokaaW.PrintWords
attribute [local go_sem] Oper.semAt_some
theorem done_le : ∀ (l : List PStep) (q : List PElem), (doneE q l).length ≤ l.length
  | [], q => by simp [doneE]
  | s :: l, q => by
    rw [doneE]
    cases nextE q s with
    | none => simp
    | some x => have := done_le l x.1; simp; omega
theorem done_full : ∀ (l : List PStep) (q : List PElem), ((doneE q l).length == l.length) = (runE q l).isSome
  | [], q => by simp [doneE, runE]
  | s :: l, q => by
    rw [doneE, runE]
    cases h : nextE q s with
    | none => simp
    | some x => have := done_full l x.1; simpa using this
theorem line_full (l : List PStep) (h : stepsB l = true) : lineB l = ((doneE [] l).length == l.length) := by rw [done_full, lineB, h, Bool.true_and]
set_option maxRecDepth 100000 in
set_option maxHeartbeats 8000000 in
theorem p_isLine (A : Option Addr) (c : Nat) (l : List PStep) (w : World) (hrow : PStepRow w A l.length l) :
    Calls Try.prog 63 #[.slice A l.length c] w fun e w' => e = .returned (.bool (lineB l)) ∧ Below w.heap.size w w' := by
  have hm : l.length ≤ 9223372036854775807 := hrow.2.1
  have HR := Lib.hid hrow
  cases hst : stepsB l with
  | false =>
    have Hst := Lib.hid hst
    have HL := Lib.hid (show lineB l = false by rw [lineB, hst, Bool.false_and])
    clear hst hrow
    go_enter Try.func63, Try.ntmps63
    go_wp2_with (first
      | (go_at_call 82; (with_reducible refine (p_areSteps A c l w HR.out).mono ?_); rintro e w2 ⟨rfl, hb⟩; simp only [Hst.out]))
    go_ret
    exact ⟨by rw [HL.out]; rfl, hb⟩
  | true =>
    have Hst := Lib.hid hst
    have HL := Lib.hid (line_full l hst)
    have hl60 : l.length ≤ 60 := by unfold stepsB at hst; simp only [Bool.and_eq_true, decide_eq_true_eq] at hst; exact hst.2.2
    have Hdl := Lib.hid (done_le l [])
    clear hst hrow
    refine (callsIn_wide (n := 3)).1 ?_
    refine callsIn_of_wp_marks Try.func63 rfl trivial ?_ rfl
    refine wpIn_wide.2 ?_
    simp only [Try.ntmps63, List.size_toArray, List.length_cons, List.length_nil, Nat.reduceAdd, Nat.reduceSub, Array.replicate_succ, Array.replicate_zero, List.push_toArray, List.append_toArray, List.nil_append, List.cons_append]
    go_upto_region 4 with (first
      | (go_at_call 82; (with_reducible refine (p_areSteps A c l w HR.out).mono ?_); rintro e w2 ⟨rfl, hb⟩; simp only [Hst.out]))
    have HB2 := Lib.hid hb
    have HN := Lib.hid (Cells.new w2 #[.int .i64 0] 3)
    have HBa := Lib.hid (below_alloc (Below.refl w2.heap.size w2) (.cells #[.int .i64 0] 3))
    have HSa := Lib.hid (show (w2.alloc (.cells #[.int .i64 0] 3)).heap.size = w2.heap.size + 1 by simp)
    clear hb
    generalize w2.alloc (.cells #[.int .i64 0] 3) = w3 at HN HBa HSa ⊢
    go_wp2_with (first
      | (go_at_call 64; (with_reducible refine (pique_done A l.length c w3).mono ?_); rintro e w4 ⟨rfl, rfl⟩))
    have HF := Lib.hid ((Cells.new w3 #[.slice A l.length c] 22).cell 0 _ rfl)
    have hbf := below_alloc (Below.refl w3.heap.size w3) (.cells #[.slice A l.length c] 22)
    have HN4 := Lib.hid (HN.out.later hbf)
    have HB4 := Lib.hid (below_step (below_step HB2.out HBa.out) hbf)
    have HS4 := Lib.hid (show (w3.alloc (.cells #[.slice A l.length c] 22)).heap.size = w3.heap.size + 1 by simp)
    clear hbf
    generalize w3.alloc (.cells #[.slice A l.length c] 22) = w4 at HF HN4 HB4 HS4 ⊢
    have hs3 := HSa.out
    have hs4 := HS4.out
    have hs2 := HB2.out.size
    refine (wpIn_wide (n := 3)).1 ?_
    refine wpIn_rangeFunc_H rfl (by omega) (gf := 95) (lb := #[.pointer (some ⟨w3.heap.size, 0, none⟩)]) rfl trivial (enters_of Try.func95 (by kernel_rfl) rfl)
      (done_seq 2 w3.heap.size A c l w w4 HR.out Hst.out HB4.out HF.out) HB4.out.size (Below.refl _ _) (fun _ => rfl)
      (fun pre rc W => rc = none ∧ Cells W w2.heap.size #[.int .i64 pre.length] 3 ∧ Below w.heap.size w W)
      (fun s rc X Y h hk => ⟨h.1, hk.cells h.2.1 (.inl (by omega)), h.2.2.trans (hk.below h.2.2.size fun k hk => .inl (by omega))⟩)
      (fun s rc X h g e => by rw [h.1] at e; cases e)
      ⟨rfl, HN4.out, HB4.out⟩
      (fun x a' W => a' = { tmps := #[.slice A l.length c, undef, .bool false, .pointer (some ⟨w2.heap.size, 0, none⟩), .slice A l.length c, .bool true, .bool false, .slice A l.length c, .func (.func 95) #[] #[.pointer (some ⟨w3.heap.size, 0, none⟩)], .agg #[.int .i64 x.1.at_, .int .i64 x.1.do_, .int .i64 x.1.key], .agg #[.int .i64 x.2.key, .int .i64 x.2.from_], undef, undef, undef, undef, undef, undef], defers := [] })
      (fun x a' s W W' row h hg hr => h)
      ?assign ?body ?done
    case assign =>
      rintro L pre rc x W K - hK
      gi_wp2
      refine hK _ _ (Below.refl _ _) ?_
      simp [encP]
    case body =>
      rintro L pre rc x a' W hsz ⟨rfl, h1, h2⟩ rfl hlen
      have k0 := h1.cell 0 _ rfl
      have kf := h1.frozen 0
      have hd := Hdl.out
      have hwr : IntKind.i64.wrap ((pre.length : Int) + 1) = ((pre ++ [x]).length : Nat) := by rw [IntWalk.i64_in _ (by omega)]; simp
      clear hlen hd
      gi_wp2
      refine ⟨none, ⟨rfl, by simpa using h1.set (.int .i64 ((pre.length : Int) + 1)), h2.setCell (p := ⟨w2.heap.size, 0, none⟩) hs2 _⟩, .inl rfl, .of_grown (grownBy_setCell' W w2.heap.size _) fun r e => by cases e; rintro (h | h) <;> omega⟩
    case done =>
      rintro D xs rc W hD rfl ⟨rfl, h1, h2⟩ hK
      have k0 := h1.cell 0 _ rfl
      have he : ((((doneE [] l).length : Nat) : Int) == (l.length : Int)) = lineB l := by rw [HL.out, Bool.eq_iff_iff]; simp only [beq_iff_eq]; omega
      go_wp2
      refine leaves_marks (n0 := w.heap.size) (v := .bool (lineB l)) (fun w' => by rw [results_tmp (t := 2) rfl]; rfl) [D] W ⟨by simp, fun E hE => by simp at hE; subst hE; exact ⟨by omega, hK⟩⟩ h2.size ?_
      intro w' hb' hk'
      exact ⟨rfl, h2.trans hb'⟩
end Go.Proofs.Ytemkloildadokaa
set_option linter.unusedVariables false
set_option linter.unusedSimpArgs false
/-! What is taken. -/
namespace Go.Proofs.Ytemkloildadokaa
open Go.RowKit Go.Shelf Go.Proofs.YtemkloildadokaaW.PrintWords
attribute [local go_sem] Oper.semAt_some
def outsOf (p : List (PStep × PElem)) : List PElem := (p.filter fun p => p.1.do_ == 2).map (·.2)
theorem takes_outs (l : List PStep) : takesE l = outsOf (doneE [] l) := rfl
theorem outs_snoc (pre : List (PStep × PElem)) (x : PStep × PElem) : outsOf (pre ++ [x]) = if (x.1.do_ == 2) = true then outsOf pre ++ [x.2] else outsOf pre := by
  unfold outsOf
  rw [List.filter_append, List.map_append]
  split
  · rename_i h; simp [h]
  · rename_i h; simp [h]
theorem outs_le (pre : List (PStep × PElem)) : (outsOf pre).length ≤ pre.length := by unfold outsOf; rw [List.length_map]; exact List.length_filter_le _ _
/-- What a list of elements of the call's own, in a box, is between two rounds. -/
structure OutI (w : World) (b0 B : Nat) (pre : List PElem) (rc : Option Nat) (W : World) : Prop where
  ex : ∃ v, Cells W B #[v] 23 ∧ Own kPElem 58 W b0 v pre ∧ v.ownBlock = rc
  below : Below w.heap.size w W
theorem OutI.keep {w : World} {b0 B : Nat} {pre : List PElem} {rc : Option Nat} {X Y : World} (h : OutI w b0 B pre rc X) (hk : KeptIf (fun k => k < b0 ∨ some k = rc) X Y) (hB : B < b0) (hw : w.heap.size ≤ b0) : OutI w b0 B pre rc Y := by
  obtain ⟨v, h1, h2, h3⟩ := h.ex
  refine ⟨⟨v, hk.cells h1 (.inl hB), own_step flat_pelem h2 (fun k hk' => hk.block k (by obtain ⟨_, cs, hc⟩ := own_ty h2 hk'; exact (Array.getElem?_eq_some_iff.1 hc).1) (.inr (by rw [← h3]; exact hk'.symm))), h3⟩, h.below.trans (hk.below h.below.size fun k hk => .inl (by omega))⟩
theorem OutI.lt {w : World} {b0 B : Nat} {pre : List PElem} {rc : Option Nat} {X : World} (h : OutI w b0 B pre rc X) : ∀ g, rc = some g → g < X.heap.size := fun g hg => by
  obtain ⟨v, h1, h2, h3⟩ := h.ex
  obtain ⟨_, cs, hc⟩ := own_ty h2 (h3.trans hg)
  exact (Array.getElem?_eq_some_iff.1 hc).1
set_option maxRecDepth 100000 in
set_option maxHeartbeats 8000000 in
theorem p_Takes (A : Option Addr) (c : Nat) (l : List PStep) (w : World) (hrow : PStepRow w A l.length l) :
    Calls Try.prog 14 #[.slice A l.length c] w fun e w' => (∃ v, e = .returned (.tuple #[v, .int .i64 (if lineB l = true then 0 else 2)]) ∧ Own kPElem 58 w' w.heap.size v (if lineB l = true then takesE l else [])) ∧ Below w.heap.size w w' := by
  have hm : l.length ≤ 9223372036854775807 := hrow.2.1
  have HR := Lib.hid hrow
  cases hst : lineB l with
  | false =>
    have HL := Lib.hid hst
    clear hst hrow
    go_enter Try.func14, Try.ntmps14
    go_wp2_with (first
      | (go_at_call 63; (with_reducible refine (p_isLine A c l w HR.out).mono ?_); rintro e w2 ⟨rfl, hb⟩; simp only [HL.out]))
    refine bodyPost_ret (v := .tuple #[.slice none 0 0, .int .i64 2]) (by simp [results, Try.results14, go_sem]) rfl ?_
    exact ⟨⟨_, rfl, Kd.R_nil _ _ _ _ _⟩, hb⟩
  | true =>
    have HL := Lib.hid hst
    have hss : stepsB l = true := by unfold lineB at hst; simp only [Bool.and_eq_true] at hst; exact hst.1
    have hl60 : l.length ≤ 60 := by unfold stepsB at hss; simp only [Bool.and_eq_true, decide_eq_true_eq] at hss; exact hss.2.2
    have Hst := Lib.hid hss
    have Hdl := Lib.hid (done_le l [])
    clear hst hrow hss
    refine (callsIn_wide (n := 3)).1 ?_
    refine callsIn_of_wp_marks Try.func14 rfl trivial ?_ rfl
    refine wpIn_wide.2 ?_
    simp only [Try.ntmps14, List.size_toArray, List.length_cons, List.length_nil, Nat.reduceAdd, Nat.reduceSub, Array.replicate_succ, Array.replicate_zero, List.push_toArray, List.append_toArray, List.nil_append, List.cons_append]
    go_upto_region 4 with (first
      | (go_at_call 63; (with_reducible refine (p_isLine A c l w HR.out).mono ?_); rintro e w2 ⟨rfl, hb⟩; simp only [HL.out]))
    have HB2 := Lib.hid hb
    have HN := Lib.hid (Cells.new w2 #[.slice none 0 0] 23)
    have HBa := Lib.hid (below_alloc (Below.refl w2.heap.size w2) (.cells #[.slice none 0 0] 23))
    have HSa := Lib.hid (show (w2.alloc (.cells #[.slice none 0 0] 23)).heap.size = w2.heap.size + 1 by simp)
    clear hb
    generalize w2.alloc (.cells #[.slice none 0 0] 23) = w3 at HN HBa HSa ⊢
    go_wp2_with (first
      | (go_at_call 64; (with_reducible refine (pique_done A l.length c w3).mono ?_); rintro e w4 ⟨rfl, rfl⟩))
    have HF := Lib.hid ((Cells.new w3 #[.slice A l.length c] 22).cell 0 _ rfl)
    have hbf := below_alloc (Below.refl w3.heap.size w3) (.cells #[.slice A l.length c] 22)
    have HN4 := Lib.hid (HN.out.later hbf)
    have HB4 := Lib.hid (below_step (below_step HB2.out HBa.out) hbf)
    have HS4 := Lib.hid (show (w3.alloc (.cells #[.slice A l.length c] 22)).heap.size = w3.heap.size + 1 by simp)
    clear hbf
    generalize w3.alloc (.cells #[.slice A l.length c] 22) = w4 at HF HN4 HB4 HS4 ⊢
    have hs3 := HSa.out
    have hs4 := HS4.out
    have hs2 := HB2.out.size
    refine (wpIn_wide (n := 3)).1 ?_
    refine wpIn_rangeFunc_H rfl (by omega) (gf := 95) (lb := #[.pointer (some ⟨w3.heap.size, 0, none⟩)]) rfl trivial (enters_of Try.func95 (by kernel_rfl) rfl)
      (done_seq 2 w3.heap.size A c l w w4 HR.out Hst.out HB4.out HF.out) HB4.out.size (Below.refl _ _) (fun _ => rfl)
      (fun pre rc W => OutI w w4.heap.size w2.heap.size (outsOf pre) rc W)
      (fun s rc X Y h hk => h.keep hk (by omega) (by omega))
      (fun s rc X h => h.lt)
      ⟨⟨_, HN4.out, Kd.R_nil _ _ _ _ _, rfl⟩, HB4.out⟩
      (fun x a' W => ∃ B5 B6, Cells W B5 #[.int .i64 x.1.at_, .int .i64 x.1.do_, .int .i64 x.1.key] 36 ∧ Cells W B6 #[.int .i64 x.2.key, .int .i64 x.2.from_] 58 ∧ a' = { tmps := #[.slice A l.length c, undef, .slice none 0 0, .int .i64 0, .pointer (some ⟨w2.heap.size, 0, none⟩), .pointer (some ⟨B5, 0, none⟩), .pointer (some ⟨B6, 0, none⟩), .slice A l.length c, .bool true, .bool false, .slice A l.length c, .func (.func 95) #[] #[.pointer (some ⟨w3.heap.size, 0, none⟩)], .agg #[.int .i64 x.1.at_, .int .i64 x.1.do_, .int .i64 x.1.key], .agg #[.int .i64 x.2.key, .int .i64 x.2.from_], undef, undef, undef, undef, undef, undef, undef, undef], defers := [] })
      (fun x a' s W W' row ⟨B5, B6, h5, h6, h⟩ hg hr => ⟨B5, B6, h5.turned hg (fun r e => (hr r e).2), h6.turned hg (fun r e => (hr r e).2), h⟩)
      ?assign ?body ?done
    case assign =>
      rintro L pre rc x W K - hK
      simp only [encP]
      gi_wp2
      refine hK _ _ (below_alloc (below_alloc (Below.refl _ _) _) _) ⟨W.heap.size, W.heap.size + 1, (Cells.new W _ _).later (below_alloc (Below.refl _ _) _), ?_, by rw [hs3]⟩
      have := Cells.new (W.alloc (.cells #[.int .i64 x.1.at_, .int .i64 x.1.do_, .int .i64 x.1.key] 36)) #[.int .i64 x.2.key, .int .i64 x.2.from_] 58
      rwa [World.size_alloc] at this
    case body =>
      rintro L pre rc x a' W hsz hI ⟨B5, B6, h5, h6, rfl⟩ hlen
      obtain ⟨v, h1, h2, h3⟩ := hI.ex
      have hsn := outs_snoc pre x
      have k1 := h5.cell 1 _ rfl
      have k5 := h6.cell 0 _ rfl
      have k6 := h6.cell 1 _ rfl
      have kv := h1.cell 0 _ rfl
      have kf := h1.frozen 0
      cases hb2 : (x.1.do_ == 2)
      · rw [hb2] at hsn
        have Hsn := Lib.hid hsn
        have HI := Lib.hid hI
        clear hsn h2 h3 hI
        gi_wp2
        exact ⟨rc, by show OutI _ _ _ (outsOf (pre ++ [x])) _ _; rw [Hsn.out]; exact HI.out, .inl rfl, KeptIf.refl _ _⟩
      · rw [hb2] at hsn
        have Hsn := Lib.hid hsn
        have HI := Lib.hid hI
        have hby : ((outsOf pre).length + 1) * 16 ≤ 140737488355328 := by have := outs_le pre; have := Hdl.out; omega
        have H3 := Lib.hid h3
        clear hsn hI h3
        gi_wp2_with (gi_at_builtin; refine R_appendIn kPElem w4.heap.size (w0 := W) rfl _ _ _ 58 (.agg #[.int .i64 0, .int .i64 0]) 16 rfl (by kernel_rfl) (by kernel_rfl) (by kernel_rfl) (by decide) (by omega) v (outsOf pre) x.2 [.int .i64 x.2.key, .int .i64 x.2.from_] rfl rfl (fun w => kPElem_mkM w _ _ x.2) h2 (Below.refl _ _) (by omega) hby ?_; intro v1 w1 r1 r2 r3 r4; obtain ⟨A1, n1, cc1, rfl⟩ := R_slice' r1; have h1' := h1.kept r3 (R_ne_lt h2 (by omega)); have kv1 := h1'.cell 0 _ rfl; have kf1 := h1'.frozen 0)
        have h3 := H3.out
        refine ⟨(Value.slice A1 n1 cc1).ownBlock, ?_, ?_, ?_⟩
        · show OutI _ _ _ (outsOf (pre ++ [x])) _ _
          rw [Hsn.out]
          exact ⟨⟨.slice A1 n1 cc1, h1'.set _, by have := R_set_low r1 (p := ⟨w2.heap.size, 0, none⟩) (by show w2.heap.size < w4.heap.size; omega) (.slice A1 n1 cc1); simpa [hs4, hs3] using this, rfl⟩, HI.out.below.trans ((r2.mono (by omega)).setCell (p := ⟨w2.heap.size, 0, none⟩) hs2 _)⟩
        · rcases r4 with r | ⟨g, r, hg⟩
          · exact .inl (r.trans h3)
          · exact .inr ⟨g, r, hg⟩
        · refine (KeptIf.of_grown r3 (fun r e => ?_)).trans (.of_grown (grownBy_setCell' w1 w2.heap.size _) fun r e => by cases e; rintro (h | h) <;> omega)
          obtain ⟨hg0, -⟩ := own_ty h2 e
          rintro (h | h)
          · omega
          · exact h.2 (e.symm.trans h3)
    case done =>
      rintro D xs rc W hD rfl hI hK
      obtain ⟨v, h1, h2, h3⟩ := hI.ex
      obtain ⟨A1, n1, c1, rfl⟩ := R_slice' h2
      have k0 := h1.cell 0 _ rfl
      go_wp2
      refine leaves_marks (n0 := w.heap.size) (v := .tuple #[.slice A1 n1 c1, .int .i64 0]) (fun w' => by simp [results, Try.results14, go_sem]) [D] W ⟨by simp, fun E hE => by simp at hE; subst hE; exact ⟨by omega, hK⟩⟩ hI.below.size ?_
      intro w' hb' hk'
      exact ⟨⟨_, rfl, Kd.R_lower (R_cells h2 hk') (by omega)⟩, hI.below.trans hb'⟩
end Go.Proofs.Ytemkloildadokaa
