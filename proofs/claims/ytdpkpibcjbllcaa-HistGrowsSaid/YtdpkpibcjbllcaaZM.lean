/-
  Texts of one hand, laid together: LeastP, LeastW, LeastE.
-/
import Derived.Test.YtdpkpibcjbllcaaZI
import Derived.Test.YtdpkpibcjbllcaaZN
import Derived.Test.YtdpkpibcjbllcaaZK
set_option linter.unusedVariables false
set_option linter.unusedSimpArgs false
/-! The least list: the program's and the reference's are one list. Plain. -/
namespace Go.Proofs.Ytdpkpibcjbllcaa
open Go.RowKit Go.Proofs.YtdpkpibcjbllcaaW.PrintWords

/-- The reference's order of a least list. -/
def aheadB (a b : News) : Bool := if a.src = b.src then (if (a.do_ == 3) = (b.do_ == 3) then decide (a.id < b.id) else (b.do_ == 3)) else decide (a.src < b.src)
/-- Behind the last one that stands ahead. -/
def posA (n : News) (l : List News) : Nat := (l.foldl (fun (p : Nat × Nat) m => (if aheadB m n = true then p.2 + 1 else p.1, p.2 + 1)) (0, 0)).1
theorem posA_snd (n : News) (l : List News) : (l.foldl (fun (p : Nat × Nat) m => (if aheadB m n = true then p.2 + 1 else p.1, p.2 + 1)) (0, 0)).2 = l.length := by
  induction l using snoc_ind with
  | h0 => rfl
  | h1 l m ih => rw [List.foldl_append, List.foldl_cons, List.foldl_nil, ih]; simp
theorem posA_snoc (n m : News) (l : List News) : posA n (l ++ [m]) = if aheadB m n = true then l.length + 1 else posA n l := by
  unfold posA
  rw [List.foldl_append, List.foldl_cons, List.foldl_nil, posA_snd]
theorem posA_le (n : News) (l : List News) : posA n l ≤ l.length := by
  induction l using snoc_ind with
  | h0 => exact Nat.le_refl _
  | h1 l m ih => rw [posA_snoc, List.length_append]; split <;> simp; omega
theorem posA_hi (n : News) (l : List News) : ∀ k x, l[k]? = some x → posA n l ≤ k → aheadB x n = false := by
  induction l using snoc_ind with
  | h0 => intro k x h; simp at h
  | h1 l m ih =>
    intro k x h hk
    rw [posA_snoc] at hk
    by_cases hkl : k < l.length
    · rw [List.getElem?_append_left hkl] at h
      split at hk
      · omega
      · exact ih k x h hk
    · have hlt : k < (l ++ [m]).length := (List.getElem?_eq_some_iff.1 h).1
      rw [List.length_append, List.length_singleton] at hlt
      have : k = l.length := by omega
      subst this
      rw [List.getElem?_append_right (Nat.le_refl _), Nat.sub_self] at h
      obtain rfl : m = x := by simpa using h
      split at hk
      · omega
      · cases hb : aheadB m n
        · rfl
        · rename_i hne; exact absurd hb hne
theorem posA_lo (n : News) (l : List News) (h0 : 0 < posA n l) : ∃ x, l[posA n l - 1]? = some x ∧ aheadB x n = true := by
  induction l using snoc_ind with
  | h0 => simp [posA] at h0
  | h1 l m ih =>
    rw [posA_snoc] at h0 ⊢
    split
    · rename_i hm
      exact ⟨m, by simp, hm⟩
    · rename_i hm
      rw [if_neg hm] at h0
      obtain ⟨x, h1, h2⟩ := ih h0
      have := posA_le n l
      exact ⟨x, by rw [List.getElem?_append_left (by omega)]; exact h1, h2⟩
def insN (n : News) (out : List News) : List News := out.take (posA n out) ++ [n] ++ out.drop (posA n out)
theorem mem_insN (n x : News) (out : List News) : x ∈ insN n out ↔ x ∈ out ∨ x = n := by
  unfold insN
  rw [List.mem_append, List.mem_append, List.mem_singleton]
  constructor
  · rintro ((h | h) | h)
    · exact .inl (List.mem_of_mem_take h)
    · exact .inr h
    · exact .inl (List.mem_of_mem_drop h)
  · rintro (h | h)
    · rw [← List.take_append_drop (posA n out) out, List.mem_append] at h
      exact h.elim (fun h => .inl (.inl h)) .inr
    · exact .inl (.inr h)
theorem insN_len (n : News) (out : List News) : (insN n out).length = out.length + 1 := by
  have := posA_le n out
  unfold insN
  simp only [List.length_append, List.length_take, List.length_drop, List.length_singleton]
  omega
/-- One of the news stays in a least list: 'mk' is its source's mark, 'c' what counts of its event. -/
def keepL (mk c : Int) (i : Nat) (n : News) : Bool := if n.do_ = 3 then !((n.body.at_ == 0) || decide (n.body.at_ < mk)) else decide (c = (i : Int))
def leastStep (M : News → Int) (C : News → Int) (i : Nat) (out : List News) (n : News) : List News :=
  if keepL (M n) (C n) i n = true then (if out.any (fun m => newsEq m n) = true then out else insN n out) else out
def leastF (M : News → Int) (C : News → Int) (r : List News) : List News := (r.foldl (fun (p : List News × Nat) n => (leastStep M C p.2 p.1 n, p.2 + 1)) ([], 0)).1
theorem leastF_snd (M C : News → Int) (r : List News) : (r.foldl (fun (p : List News × Nat) n => (leastStep M C p.2 p.1 n, p.2 + 1)) ([], 0)).2 = r.length := by
  induction r using snoc_ind with
  | h0 => rfl
  | h1 l m ih => rw [List.foldl_append, List.foldl_cons, List.foldl_nil, ih]; simp
theorem leastF_snoc (M C : News → Int) (r : List News) (n : News) : leastF M C (r ++ [n]) = leastStep M C r.length (leastF M C r) n := by
  unfold leastF
  rw [List.foldl_append, List.foldl_cons, List.foldl_nil, leastF_snd]
theorem leastF_len (M C : News → Int) (r : List News) : (leastF M C r).length ≤ r.length := by
  induction r using snoc_ind with
  | h0 => exact Nat.le_refl _
  | h1 l m ih =>
    rw [leastF_snoc, List.length_append, List.length_singleton]
    unfold leastStep
    split
    · split
      · omega
      · rw [insN_len]; omega
    · omega
def markAt (l : List News) (n : News) : Int := (hearAll l).2.getD n.src.toNat 0
def cntAt (l : List News) (n : News) : Int := cntI (cntOf l (keyOf n))
/-- The reference's least list. -/
def leastR (l : List News) : List News := leastF (markAt l) (cntAt l) l
theorem leastR_len (l : List News) : (leastR l).length ≤ l.length := leastF_len _ _ l
theorem mem_leastF (M C : News → Int) (r : List News) (x : News) : x ∈ leastF M C r ↔ ∃ j, r[j]? = some x ∧ keepL (M x) (C x) j x = true := by
  induction r using snoc_ind with
  | h0 => simp [leastF]
  | h1 l m ih =>
    have key : (∃ j, (l ++ [m])[j]? = some x ∧ keepL (M x) (C x) j x = true) ↔ (∃ j, l[j]? = some x ∧ keepL (M x) (C x) j x = true) ∨ (x = m ∧ keepL (M m) (C m) l.length m = true) := by
      constructor
      · rintro ⟨j, h1, h2⟩
        by_cases hj : j < l.length
        · rw [List.getElem?_append_left hj] at h1
          exact .inl ⟨j, h1, h2⟩
        · have hlt : j < (l ++ [m]).length := (List.getElem?_eq_some_iff.1 h1).1
          rw [List.length_append, List.length_singleton] at hlt
          have : j = l.length := by omega
          subst this
          rw [List.getElem?_append_right (Nat.le_refl _), Nat.sub_self] at h1
          obtain rfl : m = x := by simpa using h1
          exact .inr ⟨rfl, h2⟩
      · rintro (⟨j, h1, h2⟩ | ⟨rfl, h2⟩)
        · exact ⟨j, by rw [List.getElem?_append_left (List.getElem?_eq_some_iff.1 h1).1]; exact h1, h2⟩
        · exact ⟨l.length, by simp, h2⟩
    rw [key, leastF_snoc, ← ih]
    unfold leastStep
    split
    · rename_i hk
      split
      · rename_i ha
        obtain ⟨y, hy, he⟩ := List.any_eq_true.1 ha
        have : y = m := by simpa [newsEq] using he
        subst this
        exact ⟨.inl, fun h => h.elim id (fun e => e.1 ▸ hy)⟩
      · rw [mem_insN]
        exact ⟨fun h => h.imp id (fun e => ⟨e, hk⟩), fun h => h.imp id (fun e => e.1)⟩
    · rename_i hk
      exact ⟨.inl, fun h => h.elim id (fun e => absurd e.2 hk)⟩
theorem ltN_trans {a b c : News} (h : ltN a b) (k : ltN b c) : ltN a c := by unfold ltN lt3 at *; omega
theorem ltN_irr (a : News) : ¬ ltN a a := by unfold ltN lt3; omega
theorem aheadB_lt {a b : News} (ha : a.do_ = 3 → a.id = 0) (hb : b.do_ = 3 → b.id = 0) : aheadB a b = true ↔ ltN a b := by
  unfold aheadB ltN lt3 kN1 kN2
  by_cases hs : a.src = b.src
  · by_cases h1 : a.do_ = 3
    · by_cases h2 : b.do_ = 3
      · have e1 := ha h1
        have e2 := hb h2
        simp [hs, h1, h2, e1, e2]
      · simp [hs, h1, h2]
    · by_cases h2 : b.do_ = 3
      · simp [hs, h1, h2]
      · have e1 : (a.do_ == 3) = (b.do_ == 3) := by rw [beq_false_of_ne h1, beq_false_of_ne h2]
        rw [if_pos hs, if_pos e1]
        simp [hs, h1, h2]
  · simp only [if_neg hs, decide_eq_true_eq]
    omega
theorem insN_sorted {n : News} {out : List News} (hs : out.Pairwise ltN) (hd : ∀ m ∈ out, ltN m n ∨ ltN n m) (hn : n.do_ = 3 → n.id = 0) (hm : ∀ m ∈ out, m.do_ = 3 → m.id = 0) : (insN n out).Pairwise ltN := by
  have hp := posA_le n out
  have lo : ∀ x ∈ out.take (posA n out), ltN x n := by
    intro x hx
    obtain ⟨k, hk, e⟩ := List.getElem_of_mem hx
    have hkp : k < posA n out := by rw [List.length_take] at hk; omega
    obtain ⟨y, hy, hyn⟩ := posA_lo n out (by omega)
    have hym := List.mem_of_getElem? hy
    have hyl := (aheadB_lt (hm y hym) hn).1 hyn
    rw [List.getElem_take] at e
    by_cases hkk : k = posA n out - 1
    · subst hkk
      obtain ⟨_, e2⟩ := List.getElem?_eq_some_iff.1 hy
      rw [e] at e2
      rw [e2]; exact hyl
    · have h2 := List.pairwise_iff_getElem.1 hs k (posA n out - 1) (by omega) (by omega) (by omega)
      obtain ⟨_, e2⟩ := List.getElem?_eq_some_iff.1 hy
      rw [e, e2] at h2
      exact ltN_trans h2 hyl
  have hi : ∀ x ∈ out.drop (posA n out), ltN n x := by
    intro x hx
    obtain ⟨k, hk, e⟩ := List.getElem_of_mem hx
    rw [List.getElem_drop] at e
    have hkl : posA n out + k < out.length := by rw [List.length_drop] at hk; omega
    have h1 := posA_hi n out (posA n out + k) x (by rw [List.getElem?_eq_getElem hkl, e]) (by omega)
    have hx2 := List.mem_of_mem_drop hx
    rcases hd x hx2 with h | h
    · rw [(aheadB_lt (hm x hx2) hn).2 h] at h1; cases h1
    · exact h
  unfold insN
  rw [List.append_assoc]
  refine List.pairwise_append.2 ⟨hs.sublist (List.take_sublist _ _), List.pairwise_append.2 ⟨List.pairwise_singleton _ _, hs.sublist (List.drop_sublist _ _), fun a ha b hb => ?_⟩, fun a ha b hb => ?_⟩
  · obtain rfl : a = n := by simpa using ha
    exact hi b hb
  · rcases List.mem_append.1 hb with h | h
    · obtain rfl : b = n := by simpa using h
      exact lo a ha
    · exact ltN_trans (lo a ha) (hi b h)
theorem leastF_sorted (M C : News → Int) (r : List News) (hm : ∀ m ∈ r, m.do_ = 3 → m.id = 0) (hu : ∀ i j a b, r[i]? = some a → r[j]? = some b → keepL (M a) (C a) i a = true → keepL (M b) (C b) j b = true → ¬ ltN a b → ¬ ltN b a → a = b) : (leastF M C r).Pairwise ltN := by
  induction r using snoc_ind with
  | h0 => exact List.Pairwise.nil
  | h1 l m ih =>
    have ih' := ih (fun x hx => hm x (List.mem_append_left _ hx)) (fun i j a b h1 h2 => hu i j a b (by rw [List.getElem?_append_left (List.getElem?_eq_some_iff.1 h1).1]; exact h1) (by rw [List.getElem?_append_left (List.getElem?_eq_some_iff.1 h2).1]; exact h2))
    rw [leastF_snoc]
    unfold leastStep
    split
    · rename_i hk
      split
      · exact ih'
      · rename_i ha
        refine insN_sorted ih' (fun x hx => ?_) (hm m (by simp)) (fun x hx => ?_)
        · obtain ⟨j, h1, h2⟩ := (mem_leastF M C l x).1 hx
          by_cases c1 : ltN x m
          · exact .inl c1
          · by_cases c2 : ltN m x
            · exact .inr c2
            · have := hu j l.length x m (by rw [List.getElem?_append_left (List.getElem?_eq_some_iff.1 h1).1]; exact h1) (by simp) h2 hk c1 c2
              subst this
              exact absurd (List.any_eq_true.2 ⟨x, hx, by simp [newsEq]⟩) ha
        · obtain ⟨j, h1, h2⟩ := (mem_leastF M C l x).1 hx
          exact hm x (List.mem_append_left _ (List.mem_of_getElem? h1))
    · exact ih'
/-! What is heard, by its members. -/
theorem mark_le (l : List News) : ∀ n ∈ l, n.do_ = 3 → 0 ≤ n.src → n.src < 4 → n.body.at_ ≤ markAt l n := by
  induction l using snoc_ind with
  | h0 => intro n h; simp at h
  | h1 l m ih =>
    intro n hn h3 h0 h4
    unfold markAt at ih ⊢
    rw [hearAll_snoc, hear]
    have hlen := hearAll_mlen l
    by_cases hm3 : m.do_ = 3
    · rw [if_pos hm3]
      show n.body.at_ ≤ (hearM (hearAll l).2 m).getD n.src.toNat 0
      unfold hearM
      by_cases hsrc : n.src.toNat = m.src.toNat
      · rw [List.getD_eq_getElem?_getD, hsrc, List.getElem?_set_self (by omega)]
        simp only [Option.getD_some]
        rcases List.mem_append.1 hn with h | h
        · have := ih n h h3 h0 h4
          rw [hsrc] at this
          omega
        · obtain rfl : n = m := by simpa using h
          omega
      · rcases List.mem_append.1 hn with h | h
        · rw [List.getD_eq_getElem?_getD, List.getElem?_set_ne (fun e => hsrc e.symm), ← List.getD_eq_getElem?_getD]
          exact ih n h h3 h0 h4
        · obtain rfl : n = m := by simpa using h
          exact absurd rfl hsrc
    · rw [if_neg hm3]
      rcases List.mem_append.1 hn with h | h
      · exact ih n h h3 h0 h4
      · obtain rfl : n = m := by simpa using h
        exact absurd h3 hm3
theorem mark_ex (l : List News) (hsrc : ∀ n ∈ l, 0 ≤ n.src ∧ n.src < 4) : ∀ s, s < 4 → 0 < (hearAll l).2.getD s 0 → ∃ n ∈ l, n.do_ = 3 ∧ n.src = (s : Int) ∧ n.body.at_ = (hearAll l).2.getD s 0 := by
  induction l using snoc_ind with
  | h0 =>
    intro s hs h
    obtain rfl | rfl | rfl | rfl : s = 0 ∨ s = 1 ∨ s = 2 ∨ s = 3 := by omega
    all_goals simp [hearAll] at h
  | h1 l m ih =>
    intro s hs h
    have ih' := ih (fun n hn => hsrc n (List.mem_append_left _ hn))
    have hm := hsrc m (by simp)
    have hlen := hearAll_mlen l
    have old : 0 < (hearAll l).2.getD s 0 → (hearAll (l ++ [m])).2.getD s 0 = (hearAll l).2.getD s 0 → ∃ n ∈ l ++ [m], n.do_ = 3 ∧ n.src = (s : Int) ∧ n.body.at_ = (hearAll (l ++ [m])).2.getD s 0 := by
      intro h1 h2
      obtain ⟨n, hn, e⟩ := ih' s hs h1
      exact ⟨n, List.mem_append_left _ hn, by rw [h2]; exact e⟩
    by_cases hm3 : m.do_ = 3
    · by_cases hsm : m.src.toNat = s
      · have e : (hearAll (l ++ [m])).2.getD s 0 = max ((hearAll l).2.getD s 0) m.body.at_ := by
          rw [hearAll_snoc, hear, if_pos hm3]
          show (hearM (hearAll l).2 m).getD s 0 = _
          unfold hearM
          rw [hsm, List.getD_eq_getElem?_getD, List.getElem?_set_self (by omega)]
          rfl
        by_cases hc : m.body.at_ ≤ (hearAll l).2.getD s 0
        · have e2 : (hearAll (l ++ [m])).2.getD s 0 = (hearAll l).2.getD s 0 := by rw [e]; omega
          exact old (by rw [← e2]; exact h) e2
        · exact ⟨m, by simp, hm3, by omega, by rw [e]; omega⟩
      · have e : (hearAll (l ++ [m])).2.getD s 0 = (hearAll l).2.getD s 0 := by
          rw [hearAll_snoc, hear, if_pos hm3]
          show (hearM (hearAll l).2 m).getD s 0 = _
          unfold hearM
          rw [List.getD_eq_getElem?_getD, List.getElem?_set_ne hsm, ← List.getD_eq_getElem?_getD]
        exact old (by rw [← e]; exact h) e
    · have e : (hearAll (l ++ [m])).2.getD s 0 = (hearAll l).2.getD s 0 := by rw [hearAll_snoc, hear, if_neg hm3]
      exact old (by rw [← e]; exact h) e
theorem cnt_notmark (l : List News) (k : Key) : ∀ j m, cntOf l k = some (j, m) → m.do_ ≠ 3 := by
  induction l using snoc_ind with
  | h0 => intro j m h; cases h
  | h1 l n ih =>
    intro j m h
    unfold cntOf at ih h
    rw [cntFrom_snoc] at h
    unfold cntStep at h
    by_cases h3 : n.do_ = 3
    · rw [if_pos h3] at h; exact ih _ _ h
    · rw [if_neg h3] at h
      have hnew : ∀ j m, (some (0 + l.length, n) : Option (Nat × News)) = some (j, m) → m.do_ ≠ 3 := by
        intro j m e
        injection e with e
        injection e with e1 e2
        subst e2
        exact h3
      split at h
      · split at h
        · cases hb : cntFrom k.src k.id none 0 l with
          | none => rw [hb] at h; exact hnew _ _ h
          | some q =>
            obtain ⟨j', m'⟩ := q
            rw [hb] at h
            simp only at h
            split at h
            · exact hnew _ _ h
            · exact ih _ _ (hb.trans h)
        · exact ih _ _ h
      · exact ih _ _ h
theorem good_mark {n : News} {srcs : Int} (h : goodB n srcs = true) (h3 : n.do_ = 3) : n = ⟨3, n.src, 0, 0, ⟨n.body.at_, 0, 0⟩⟩ ∧ 0 ≤ n.body.at_ := by
  unfold goodB at h
  rw [Bool.and_eq_true] at h
  obtain ⟨_, h⟩ := h
  rw [if_neg (by omega), if_neg (by omega), if_pos h3] at h
  simp only [markedB, recEq, inB, Bool.and_eq_true, decide_eq_true_eq, beq_iff_eq] at h
  obtain ⟨h1, h2, h5, h6⟩ := h
  obtain ⟨a, b, c, d, ⟨e, f, g⟩⟩ := n
  simp only at *
  simp at h5
  subst h3 h1 h2
  simp [h5, h6]
/-- Each of the news is formed by itself. -/
def GoodAll (l : List News) (srcs : Int) : Prop := (1 ≤ srcs ∧ srcs ≤ 4) ∧ ∀ n ∈ l, goodB n srcs = true
theorem GoodAll.of {l : List News} {srcs : Int} (h : formedB l srcs = true) : GoodAll l srcs := ⟨(plainB_src (formedB_plain h)).1, (plainB_src (formedB_plain h)).2.2⟩
theorem GoodAll.srcs {l : List News} {srcs : Int} (h : GoodAll l srcs) : ∀ n ∈ l, 0 ≤ n.src ∧ n.src < srcs := fun n hn => by
  have := h.2 n hn
  simp only [goodB, inB, Bool.and_eq_true, decide_eq_true_eq] at this
  omega
theorem GoodAll.heard {l : List News} {srcs : Int} (h : GoodAll l srcs) : ∀ n ∈ l, 0 ≤ n.src ∧ n.src < 4 := fun n hn => by
  have := h.srcs n hn
  have := h.1
  omega
theorem GoodAll.append {l m : List News} {srcs : Int} (h : GoodAll l srcs) (k : GoodAll m srcs) : GoodAll (l ++ m) srcs := ⟨h.1, fun n hn => (List.mem_append.1 hn).elim (h.2 n) (k.2 n)⟩
theorem keep_rank {l : List News} {srcs : Int} (hf : GoodAll l srcs) (i j : Nat) (a b : News) (h1 : l[i]? = some a) (h2 : l[j]? = some b) (k1 : keepL (markAt l a) (cntAt l a) i a = true) (k2 : keepL (markAt l b) (cntAt l b) j b = true) (n1 : ¬ ltN a b) (n2 : ¬ ltN b a) : a = b := by
  have ma := List.mem_of_getElem? h1
  have mb := List.mem_of_getElem? h2
  have ga := hf.2 a ma
  have gb := hf.2 b mb
  have sa := hf.heard a ma
  have sb := hf.heard b mb
  unfold ltN lt3 at n1 n2
  have hs : a.src = b.src := by omega
  unfold keepL at k1 k2
  by_cases ha : a.do_ = 3
  · have hb : b.do_ = 3 := by
      unfold kN1 kN2 at n1 n2
      rw [if_pos ha] at n1 n2
      by_cases hb : b.do_ = 3
      · exact hb
      · rw [if_neg hb] at n1 n2; omega
    rw [if_pos ha] at k1
    rw [if_pos hb] at k2
    have la := mark_le l a ma ha sa.1 sa.2
    have lb := mark_le l b mb hb sb.1 sb.2
    have e : markAt l a = markAt l b := by unfold markAt; rw [hs]
    simp only [Bool.not_eq_true', Bool.or_eq_false_iff, decide_eq_false_iff_not] at k1 k2
    have hat : a.body.at_ = b.body.at_ := by omega
    rw [(good_mark ga ha).1, (good_mark gb hb).1, hs, hat]
  · have hb : b.do_ ≠ 3 := by
      intro hb
      unfold kN1 kN2 at n1 n2
      rw [if_neg ha, if_pos hb] at n1 n2; omega
    rw [if_neg ha] at k1
    rw [if_neg hb] at k2
    have hid : a.id = b.id := by
      unfold kN1 kN2 at n1 n2
      rw [if_neg ha, if_neg hb, if_neg ha, if_neg hb] at n1 n2; omega
    have hk : cntAt l a = cntAt l b := by unfold cntAt keyOf; rw [hs, hid]
    have e1 := of_decide_eq_true k1
    have e2 := of_decide_eq_true k2
    have : i = j := by omega
    subst this
    rw [h1] at h2
    exact Option.some.inj h2
theorem nodup_val {κ α : Type} {k : κ} {x y : α} : ∀ {L : List (κ × α)}, (L.map (·.1)).Nodup → (k, x) ∈ L → (k, y) ∈ L → x = y
  | [], _, h, _ => by simp at h
  | p :: L, hn, h1, h2 => by
    rw [List.map_cons, List.nodup_cons] at hn
    rcases List.mem_cons.1 h1 with e1 | h1
    · rcases List.mem_cons.1 h2 with e2 | h2
      · rw [← e1] at e2; exact (Prod.mk.inj e2).2.symm
      · exact absurd (List.mem_map.2 ⟨_, h2, by rw [← e1]⟩) hn.1
    · rcases List.mem_cons.1 h2 with e2 | h2
      · exact absurd (List.mem_map.2 ⟨_, h1, by rw [← e2]⟩) hn.1
      · exact nodup_val hn.2 h1 h2
theorem mem_leastL {l : List News} {srcs : Int} (hf : GoodAll l srcs) (x : News) : x ∈ leastL (hearAll l) ↔ ∃ j, l[j]? = some x ∧ keepL (markAt l x) (cntAt l x) j x = true := by
  unfold leastL
  rw [List.mem_append]
  constructor
  · rintro (h | h)
    · obtain ⟨⟨k, n⟩, hk, e⟩ := List.mem_map.1 h
      have e : n = x := e
      subst e
      obtain ⟨y, hy⟩ := aget_some (List.mem_map.2 ⟨(k, n), hk, rfl⟩ : k ∈ (hearAll l).1.map (·.1))
      have hyn : y = n := by
        exact nodup_val (held_nodup l) (aget_mem hy) hk
      subst hyn
      rw [held_counts] at hy
      cases hc : cntOf l k with
      | none => rw [hc] at hy; cases hy
      | some q =>
        obtain ⟨i, m⟩ := q
        rw [hc] at hy
        obtain rfl : m = y := by simpa using hy
        obtain ⟨hv, hkk⟩ := cnt_valid l k i m hc
        have h3 := cnt_notmark l k i m hc
        refine ⟨i, hv, ?_⟩
        unfold keepL cntAt
        rw [if_neg h3, hkk, hc]
        simp [cntI]
    · obtain ⟨s, hs, h⟩ := List.mem_flatMap.1 h
      have hs4 : s < 4 := by simpa using hs
      unfold markN at h
      split at h
      · rename_i hpos
        have hx : x = ⟨3, s, 0, 0, ⟨(hearAll l).2.getD s 0, 0, 0⟩⟩ := by simpa using h
        obtain ⟨n, hn, h3, hsrc, hat⟩ := mark_ex l (hf.heard) s hs4 hpos
        have hg := good_mark (hf.2 n hn) h3
        have hxn : x = n := by rw [hx, hg.1, hsrc, hat]
        subst hxn
        obtain ⟨j, hj⟩ := List.mem_iff_getElem?.1 hn
        refine ⟨j, hj, ?_⟩
        have hst : x.src.toNat = s := by omega
        unfold keepL markAt
        rw [if_pos h3, hst, ← hat]
        rw [← hat] at hpos
        simp
        omega
      · simp at h
  · rintro ⟨j, h1, h2⟩
    have hm := List.mem_of_getElem? h1
    have hg := hf.2 x hm
    have hs := hf.heard x hm
    unfold keepL at h2
    by_cases h3 : x.do_ = 3
    · right
      rw [if_pos h3] at h2
      simp only [Bool.not_eq_true', Bool.or_eq_false_iff, decide_eq_false_iff_not, beq_eq_false_iff_ne] at h2
      have hle := mark_le l x hm h3 hs.1 hs.2
      obtain ⟨hx, hpos⟩ := good_mark hg h3
      have hat : x.body.at_ = markAt l x := by omega
      refine List.mem_flatMap.2 ⟨x.src.toNat, by simp; omega, ?_⟩
      unfold markAt at hat
      unfold markN
      rw [← hat, if_pos (by omega)]
      have e : (x.src.toNat : Int) = x.src := by omega
      rw [e]
      simpa using hx
    · left
      rw [if_neg h3] at h2
      have e := of_decide_eq_true h2
      unfold cntAt at e
      cases hc : cntOf l (keyOf x) with
      | none => rw [hc] at e; simp only [cntI] at e; omega
      | some q =>
        obtain ⟨i, m⟩ := q
        rw [hc] at e
        simp only [cntI] at e
        have hij : i = j := by omega
        subst hij
        have hv := (cnt_valid l _ i m hc).1
        rw [h1] at hv
        obtain rfl : x = m := Option.some.inj hv
        have hh := held_counts l (keyOf x)
        rw [hc] at hh
        exact List.mem_map.2 ⟨(keyOf x, x), aget_mem hh, rfl⟩
theorem nodup_leastL {l : List News} {srcs : Int} (hf : GoodAll l srcs) : (leastL (hearAll l)).Nodup := by
  have hval : ∀ p ∈ (hearAll l).1, keyOf p.2 = p.1 ∧ p.2.do_ ≠ 3 := by
    rintro ⟨k, n⟩ hk
    obtain ⟨y, hy⟩ := aget_some (List.mem_map.2 ⟨(k, n), hk, rfl⟩ : k ∈ (hearAll l).1.map (·.1))
    have hyn : y = n := by
      exact nodup_val (held_nodup l) (aget_mem hy) hk
    subst hyn
    rw [held_counts] at hy
    cases hc : cntOf l k with
    | none => rw [hc] at hy; cases hy
    | some q =>
      obtain ⟨i, m⟩ := q
      rw [hc] at hy
      obtain rfl : m = y := by simpa using hy
      exact ⟨(cnt_valid l k i m hc).2, cnt_notmark l k i m hc⟩
  unfold leastL
  refine List.nodup_append.2 ⟨?_, ?_, fun a ha b hb e => ?_⟩
  · have hk := held_nodup l
    generalize (hearAll l).1 = L at hk hval
    refine List.pairwise_map.2 ((List.pairwise_map.1 hk).imp_of_mem fun {p q} hp hq hne => fun e => hne ?_)
    rw [← (hval p hp).1, ← (hval q hq).1, e]
  · unfold marksTo
    rw [show List.range 4 = [0, 1, 2, 3] from rfl]
    simp only [List.flatMap_cons, List.flatMap_nil, markN]
    split <;> split <;> split <;> split <;> simp
  · subst e
    obtain ⟨p, hp, e⟩ := List.mem_map.1 ha
    obtain ⟨s, _, h⟩ := List.mem_flatMap.1 hb
    unfold markN at h
    split at h
    · have h2 := (List.mem_singleton (b := (⟨3, s, 0, 0, ⟨(hearAll l).2.getD s 0, 0, 0⟩⟩ : News))).1 h
      exact (hval p hp).2 (by rw [e, h2])
    · simp at h
theorem least_sort {l : List News} {srcs : Int} (hf : GoodAll l srcs) : SortN (leastL (hearAll l)) (leastR l) := by
  have hs : (leastR l).Pairwise ltN := leastF_sorted _ _ l (fun m hm h3 => by rw [(good_mark (hf.2 m hm) h3).1]) (fun i j a b => keep_rank hf i j a b)
  have hnd : (leastR l).Nodup := List.Pairwise.imp (fun {a b} h (e : a = b) => ltN_irr a (by rw [← e] at h; exact h)) hs
  refine ⟨(List.perm_ext_iff_of_nodup hnd (nodup_leastL hf)).2 fun x => ?_, hs.imp fun {a b} h => ?_⟩
  · exact (mem_leastF _ _ l x).trans (mem_leastL hf x).symm
  · cases hc : ltOf cmpN b a
    · rfl
    · exact absurd (ltN_trans h ((ltOf_cmpN b a).1 hc)) (ltN_irr a)
theorem least_uniq {l : List News} {srcs : Int} (hf : GoodAll l srcs) : ∀ a b, a ∈ leastL (hearAll l) → b ∈ leastL (hearAll l) → ltOf cmpN b a = false → ltOf cmpN a b = false → a = b := by
  intro a b ha hb h1 h2
  obtain ⟨i, i1, i2⟩ := (mem_leastL hf a).1 ha
  obtain ⟨j, j1, j2⟩ := (mem_leastL hf b).1 hb
  refine keep_rank hf i j a b i1 j1 i2 j2 (fun h => ?_) (fun h => ?_)
  · rw [(ltOf_cmpN a b).2 h] at h2; cases h2
  · rw [(ltOf_cmpN b a).2 h] at h1; cases h1
theorem least_one {l : List News} {srcs : Int} (hf : GoodAll l srcs) (ys : List News) (h : SortN (leastL (hearAll l)) ys) : ys = leastR l := h.uniq (least_sort hf) (least_uniq hf)
end Go.Proofs.Ytdpkpibcjbllcaa
set_option linter.unusedVariables false
set_option linter.unusedSimpArgs false
/-! The reference's least list: the walk. -/
namespace Go.Proofs.Ytdpkpibcjbllcaa
open Go.RowKit Go.Proofs.YtdpkpibcjbllcaaW.PrintWords PRef

theorem ahead_f (m n : News) : afterwordref05_ahead.f m.do_ m.src m.id m.ver m.body.at_ m.body.key m.body.val n.do_ n.src n.id n.ver n.body.at_ n.body.key n.body.val = some (aheadB m n) := by
  unfold afterwordref05_ahead.f aheadB
  by_cases hs : m.src = n.src
  · by_cases h1 : m.do_ = 3
    · by_cases h2 : n.do_ = 3
      · simp [hs, h1, h2]
      · simp [hs, h1, h2, beq_false_of_ne h2]
    · by_cases h2 : n.do_ = 3
      · simp [hs, h1, h2, beq_false_of_ne h1]
      · simp [hs, h1, h2, beq_false_of_ne h1, beq_false_of_ne h2]
  · simp [hs]
theorem ref_ahead (m n : News) (w : World) : Calls Try.prog 77 #[.agg #[.int .i64 m.do_, .int .i64 m.src, .int .i64 m.id, .int .i64 m.ver, .int .i64 m.body.at_, .int .i64 m.body.key, .int .i64 m.body.val], .agg #[.int .i64 n.do_, .int .i64 n.src, .int .i64 n.id, .int .i64 n.ver, .int .i64 n.body.at_, .int .i64 n.body.key, .int .i64 n.body.val]] w fun e w' => e = .returned (.bool (aheadB m n)) ∧ Below w.heap.size w w' := by
  have h := afterwordref05_ahead.calls m.do_ m.src m.id m.ver m.body.at_ m.body.key m.body.val n.do_ n.src n.id n.ver n.body.at_ n.body.key n.body.val _ w (ahead_f m n)
  exact h
theorem ref_counts (l : List News) (A : Option Addr) (c : Nat) (src id : Int) (w : World) (hr : NewsRow w A l.length l) (hc : l.length ≤ c) (hl : l.length ≤ 1000) :
    Calls Try.prog 68 #[.slice A l.length c, .int .i64 src, .int .i64 id] w fun e w' => e = .returned (.int .i64 (cntI (cntOf l ⟨src, id⟩))) ∧ Below w.heap.size w w' := by
  obtain ⟨n, hn⟩ := counts_f l hl ⟨src, id⟩
  have h := afterwordref05_counts.calls n A c (l.map sNews) src id _ w (by rw [List.length_map]; exact C_sNews hr) (by rw [List.length_map]; exact hc) (hn n (Nat.le_refl _))
  rw [List.length_map] at h
  exact h.mono fun e w' ⟨h1, h2⟩ => ⟨h1, h2.below⟩
/-- The rows that an insertion puts together. -/
theorem C_take {α : Type} {d : Kd α} {w : World} {A : Option Addr} {n : Nat} {l : List α} (h : Kd.C d w A n l) (m : Nat) (hm : m ≤ n) : Kd.C d w A m (l.take m) := by
  obtain ⟨h1, h2, h3⟩ := h
  refine ⟨by rw [List.length_take]; omega, by omega, fun hp => ?_⟩
  obtain ⟨ad, e, hc⟩ := h3 (by omega)
  refine ⟨ad, e, fun j p hj => ?_⟩
  have hjm : j < m := by
    have := (List.getElem?_eq_some_iff.1 hj).1
    rw [List.length_take] at this; omega
  rw [List.getElem?_take_of_lt hjm] at hj
  exact hc j p hj
theorem C_drop {α : Type} {d : Kd α} {w : World} {A : Option Addr} {n : Nat} {l : List α} (h : Kd.C d w A n l) (m : Nat) (hm : m ≤ n) : Kd.C d w (A.map (·.add (m * d.sz))) (n - m) (l.drop m) := by
  obtain ⟨h1, h2, h3⟩ := h
  refine ⟨by rw [List.length_drop, h1], by omega, fun hp => ?_⟩
  obtain ⟨ad, e, hc⟩ := h3 (by omega)
  subst e
  refine ⟨_, rfl, fun j p hj => ?_⟩
  rw [List.getElem?_drop] at hj
  obtain ⟨c, hs, hr, hcell⟩ := hc (m + j) p hj
  refine ⟨c, hs, hr, fun i u hu => ?_⟩
  have := hcell i u hu
  rw [← this, Addr.add_add]
  congr 2
  rw [Nat.add_mul]; omega
abbrev LX (W1 W : World) (ae : Addr) (bn j : Nat) (n x : News) : Prop := W.cell? (ae.add (j * 7)) = some (.int .i64 x.do_) ∧ W.cell? ⟨(ae.add (j * 7)).block, (ae.add (j * 7)).off + 1, none⟩ = some (.int .i64 x.src) ∧ W.cell? ⟨(ae.add (j * 7)).block, (ae.add (j * 7)).off + 2, none⟩ = some (.int .i64 x.id) ∧ W.cell? ⟨(ae.add (j * 7)).block, (ae.add (j * 7)).off + 3, none⟩ = some (.int .i64 x.ver) ∧ W.cell? ⟨(ae.add (j * 7)).block, (ae.add (j * 7)).off + 4, none⟩ = some (.int .i64 x.body.at_) ∧ W.cell? ⟨(ae.add (j * 7)).block, (ae.add (j * 7)).off + 5, none⟩ = some (.int .i64 x.body.key) ∧ W.cell? ⟨(ae.add (j * 7)).block, (ae.add (j * 7)).off + 6, none⟩ = some (.int .i64 x.body.val) ∧ W.cell? ⟨bn, 0, none⟩ = some (.int .i64 n.do_) ∧ W.cell? ⟨bn, 1, none⟩ = some (.int .i64 n.src) ∧ W.cell? ⟨bn, 2, none⟩ = some (.int .i64 n.id) ∧ W.cell? ⟨bn, 3, none⟩ = some (.int .i64 n.ver) ∧ W.cell? ⟨bn, 4, none⟩ = some (.int .i64 n.body.at_) ∧ W.cell? ⟨bn, 5, none⟩ = some (.int .i64 n.body.key) ∧ W.cell? ⟨bn, 6, none⟩ = some (.int .i64 n.body.val) ∧ Below W1.heap.size W1 W
theorem LX.step {W1 W W' : World} {ae : Addr} {bn j : Nat} {n x : News} (h : LX W1 W ae bn j n x) (hb : Below W.heap.size W W') : LX W1 W' ae bn j n x := by
  obtain ⟨h0, h1, h2, h3, h4, h5, h6, g0, g1, g2, g3, g4, g5, g6, h9⟩ := h
  exact ⟨cell_laterA hb h0, cell_laterA hb h1, cell_laterA hb h2, cell_laterA hb h3, cell_laterA hb h4, cell_laterA hb h5, cell_laterA hb h6, cell_laterA hb g0, cell_laterA hb g1, cell_laterA hb g2, cell_laterA hb g3, cell_laterA hb g4, cell_laterA hb g5, cell_laterA hb g6, below_step h9 hb⟩
abbrev LI (W1 W : World) (A1 A2 : Option Addr) (p q : Nat) (xs ys : List News) (bn : Nat) (n : News) : Prop := W.cell? ⟨bn, 0, none⟩ = some (.int .i64 n.do_) ∧ W.cell? ⟨bn, 1, none⟩ = some (.int .i64 n.src) ∧ W.cell? ⟨bn, 2, none⟩ = some (.int .i64 n.id) ∧ W.cell? ⟨bn, 3, none⟩ = some (.int .i64 n.ver) ∧ W.cell? ⟨bn, 4, none⟩ = some (.int .i64 n.body.at_) ∧ W.cell? ⟨bn, 5, none⟩ = some (.int .i64 n.body.key) ∧ W.cell? ⟨bn, 6, none⟩ = some (.int .i64 n.body.val) ∧ NewsRow W A1 p xs ∧ NewsRow W A2 q ys ∧ Below W1.heap.size W1 W
theorem LI.step {W1 W W' : World} {A1 A2 : Option Addr} {p q : Nat} {xs ys : List News} {bn : Nat} {n : News} (h : LI W1 W A1 A2 p q xs ys bn n) (hb : Below W.heap.size W W') : LI W1 W' A1 A2 p q xs ys bn n := by
  obtain ⟨g0, g1, g2, g3, g4, g5, g6, h7, h8, h9⟩ := h
  exact ⟨cell_laterA hb g0, cell_laterA hb g1, cell_laterA hb g2, cell_laterA hb g3, cell_laterA hb g4, cell_laterA hb g5, cell_laterA hb g6, news_later h7 hb, news_later h8 hb, below_step h9 hb⟩
theorem LI.size {W1 W : World} {A1 A2 : Option Addr} {p q : Nat} {xs ys : List News} {bn : Nat} {n : News} (h : LI W1 W A1 A2 p q xs ys bn n) : W1.heap.size ≤ W.heap.size := h.2.2.2.2.2.2.2.2.2.size
set_option maxRecDepth 100000 in
set_option maxHeartbeats 4000000 in
theorem ref_LeastOfN (l : List News) (A : Option Addr) (c N : Nat) (w : World) (hr : NewsRow w A l.length l) (hc : l.length ≤ c) (hlen : l.length ≤ 200) (h1 : 1 ≤ N) (h4 : N ≤ 4) (hsrc : ∀ n ∈ l, 0 ≤ n.src ∧ n.src < (N : Int)) :
    Calls Try.prog 54 #[.slice A l.length c, .int .i64 (N : Int)] w (OwnPost kNews 38 w (leastR l)) := by
  have Hr := Lib.hid hr
  have Hsrc := Lib.hid hsrc
  clear hr hsrc
  go_enter Try.func54, Try.ntmps54
  go_upto_region 3 with (at_builtin; refine Kd.R_append_rows kNews (w0 := w) w.heap.size rfl (.const (.slice none 0 0)) (.tmp 12) 22 38 (.agg #[(.int .i64 0), (.int .i64 0), (.int .i64 0), (.int .i64 0), (.int .i64 0), (.int .i64 0), (.int .i64 0)]) 56 rfl Try.underlying22 info_news rfl (by decide) (by omega) (.slice none 0 0) [] l _ _ _ (fun _ => True) (fun _ => False) rfl rfl ?aO ?aR (fun _ _ h => h) (fun _ h => h.elim) ?aF ?aB ?aS ?aL ?_; (case aO => exact Kd.R_nil _ _ _ _ _); (case aR => exact Hr.out); (case aF => exact (fun _ _ => trivial)); (case aB => exact Below.refl _ _); (case aS => exact Nat.le_refl _); (case aL => (rw [List.length_nil]; omega)); intro v6 w6 ho6 hb6 hg6 hat6; rw [List.nil_append] at ho6; obtain ⟨A6, q6, rfl, _, hr6⟩ := own_reads' ho6; have Hr6 := Lib.hid hr6; have hbs6 := hb6.size; clear hr6 ho6 hg6 hat6)
  have Hrl := Lib.hid (news_later Hr.out hb6)
  clear Hr
  go_wp2
  go_loopw [5, 7] (fun v i wr => ∃ k : Nat, k ≤ l.length ∧ i = .int .i64 k ∧ Own kNews 38 wr w6.heap.size v (leastF (markAt l) (cntAt l) (l.take k)) ∧ Below w6.heap.size w6 wr) (fun _ i _ => l.length - (intOf i).toNat)
  case atStart => exact ⟨0, Nat.zero_le _, rfl, Kd.R_nil _ _ _ _ _, Below.refl _ _⟩
  case round =>
    obtain ⟨k, hk, rfl, hO, hB⟩ := hrel
    by_cases hlt : k < l.length
    · obtain ⟨n, ad, hd, htk, hget, rfl, c0, c1, c2, c3, c4, c5, c6⟩ := news_at (news_later Hr6.out hB) k hlt
      have hn := Hsrc.out n (List.mem_of_getElem? hget)
      obtain ⟨hn0, hns⟩ := hn
      have hlf := leastF_snoc (markAt l) (cntAt l) (l.take k) n
      rw [← htk, show (l.take k).length = k by rw [List.length_take]; omega] at hlf
      have Hlf := Lib.hid hlf
      have hxl : (leastF (markAt l) (cntAt l) (l.take k)).length ≤ 200 := by
        have := leastF_len (markAt l) (cntAt l) (l.take k)
        have h2 : (l.take k).length = k := by rw [List.length_take]; omega
        omega
      have HO := Lib.hid hO
      clear hO hd htk hget hlf
      generalize leastF (markAt l) (cntAt l) (l.take k) = xs at *
      go_upto_region 7 with (fail)
      have hbx := box_news wr n
      have hBa : Below wr.heap.size wr (wr.alloc (.cells #[.int .i64 n.do_, .int .i64 n.src, .int .i64 n.id, .int .i64 n.ver, .int .i64 n.body.at_, .int .i64 n.body.key, .int .i64 n.body.val] 38)) := below_alloc (Below.refl _ _) _
      have hr1 := Lib.hid (news_later Hrl.out (below_step hB hBa))
      have HO1 := Lib.hid (own_later HO.out hBa)
      have hB1 := below_step hB hBa
      generalize (wr.alloc (.cells #[.int .i64 n.do_, .int .i64 n.src, .int .i64 n.id, .int .i64 n.ver, .int .i64 n.body.at_, .int .i64 n.body.key, .int .i64 n.body.val] 38)) = W1 at *
      generalize hbn : wr.heap.size = bn at *
      obtain ⟨i0, i1, i2, i3, i4, i5, i6⟩ := hbx
      clear c0 c1 c2 c3 c4 c5 c6 hBa HO
      obtain ⟨mk, hmk⟩ : ∃ m, markAt l n = m := ⟨_, rfl⟩
      obtain ⟨cc, hcc⟩ : ∃ m, cntAt l n = m := ⟨_, rfl⟩
      have Hmk : Hid ((hearAll l).2.getD n.src.toNat 0 = mk) := Lib.hid hmk
      have Hcc : Hid (cntI (cntOf l ⟨n.src, n.id⟩) = cc) := Lib.hid hcc
      have hlf2 : leastF (markAt l) (cntAt l) (l.take (k + 1)) = if keepL mk cc k n = true then (if xs.any (fun m => newsEq m n) = true then xs else insN n xs) else xs := by rw [Hlf.out, leastStep, hmk, hcc]
      have Hlf2 := Lib.hid hlf2
      clear hmk hcc hlf2
      go_cut [60] (fun v wc => v = .bool (!keepL mk cc k n) ∧ Aside (Below W1.heap.size W1 wc))
      case first =>
        have hcN : (1 : Int) ≤ N := by omega
        by_cases h3 : n.do_ = 3
        · have hb3 : (n.do_ == 3) = true := by simpa using h3
          have hb3' : (n.do_ != 3) = false := by simpa using h3
          by_cases ha0 : n.body.at_ = 0
          · have hba : (n.body.at_ == 0) = true := by simpa using ha0
            have HK : Hid ((!keepL mk cc k n) = true) := Lib.hid (by simp [keepL, h3, ha0])
            clear h3 ha0
            refine wp_region_ord [(0, true), (1, true), (2, true), (3, true), (4, true), (5, true), (6, true), (7, true), (8, true), (9, true), (10, true), (11, true), (12, true), (13, true), (14, true), (15, true), (16, true), (17, true), (18, true), (19, true), (20, true), (21, true), (22, true), (23, true), (24, true), (25, true), (26, true), (27, true), (28, true), (29, true), (30, true), (31, true), (32, true), (33, true), (34, true), (35, true), (36, true)] (fun W => W.cell? ⟨bn, 0, none⟩ = some (.int .i64 n.do_) ∧ W.cell? ⟨bn, 1, none⟩ = some (.int .i64 n.src) ∧ W.cell? ⟨bn, 2, none⟩ = some (.int .i64 n.id) ∧ W.cell? ⟨bn, 3, none⟩ = some (.int .i64 n.ver) ∧ W.cell? ⟨bn, 4, none⟩ = some (.int .i64 n.body.at_) ∧ W.cell? ⟨bn, 5, none⟩ = some (.int .i64 n.body.key) ∧ W.cell? ⟨bn, 6, none⟩ = some (.int .i64 n.body.val) ∧ NewsRow W A l.length l ∧ Below W1.heap.size W1 W) (fun _ _ h hb => stS_step h hb) (by kernel_rfl) (by kernel_rfl) (stS_step ⟨i0, i1, i2, i3, i4, i5, i6, hr1.out, Below.refl _ _⟩ (below_drew1 (Below.refl _ _))) ?_
            simp only [pickOps, List.getElem?_cons_succ, List.getElem?_cons_zero]
            repeat (refine ord_calm (fun K hK => ?_); go_simp; first | (refine hK _ ?_; clear hK K) | (apply Exists.intro; refine ⟨fun W hC => ?_, hK _ ?_⟩; (first | rfl | (obtain ⟨⟨h0, h1, h2, h3, h4, h5, h6, h7, h8⟩⟩ := hC; go_simp; done) | (obtain ⟨⟨h0, h1, h2, h3, h4, h5, h6, h7, h8⟩⟩ := hC; go_simp; rfl)); clear hK K))
            refine ord_nil ?_
            intro W hC
            have HC := Lib.hid hC.out.2.2.2.2.2.2.2.2
            clear hC
            go_wp2
            go_meet
            case rel => exact ⟨by rw [HK.out], ⟨HC.out⟩⟩
          · have hba : (n.body.at_ == 0) = false := by simpa using ha0
            cases hlm : decide (n.body.at_ < mk)
            · have HK : Hid ((!keepL mk cc k n) = false) := Lib.hid (by
                have : ¬ n.body.at_ < mk := by simpa using hlm
                simp [keepL, h3, ha0]; omega)
              clear h3 ha0
              refine wp_region_ord [(0, true), (1, true), (2, true), (3, true), (4, true), (5, true), (6, true), (7, true), (8, true), (9, true), (10, true), (11, true), (12, true), (13, true), (15, true), (16, true), (14, false), (17, true), (18, true), (19, true), (20, true), (21, true), (22, true), (23, true), (24, true), (25, true), (26, true), (27, true), (28, true), (29, true), (30, true), (31, true), (32, true), (33, true), (34, true), (35, true), (36, true)] (fun W => W.cell? ⟨bn, 0, none⟩ = some (.int .i64 n.do_) ∧ W.cell? ⟨bn, 1, none⟩ = some (.int .i64 n.src) ∧ W.cell? ⟨bn, 2, none⟩ = some (.int .i64 n.id) ∧ W.cell? ⟨bn, 3, none⟩ = some (.int .i64 n.ver) ∧ W.cell? ⟨bn, 4, none⟩ = some (.int .i64 n.body.at_) ∧ W.cell? ⟨bn, 5, none⟩ = some (.int .i64 n.body.key) ∧ W.cell? ⟨bn, 6, none⟩ = some (.int .i64 n.body.val) ∧ NewsRow W A l.length l ∧ Below W1.heap.size W1 W) (fun _ _ h hb => stS_step h hb) (by kernel_rfl) (by kernel_rfl) (stS_step ⟨i0, i1, i2, i3, i4, i5, i6, hr1.out, Below.refl _ _⟩ (below_drew1 (Below.refl _ _))) ?_
              simp only [pickOps, List.getElem?_cons_succ, List.getElem?_cons_zero]
              repeat (refine ord_calm (fun K hK => ?_); go_simp; first | (refine hK _ ?_; clear hK K) | (apply Exists.intro; refine ⟨fun W hC => ?_, hK _ ?_⟩; (first | rfl | (obtain ⟨⟨h0, h1, h2, h3, h4, h5, h6, h7, h8⟩⟩ := hC; go_simp; done) | (obtain ⟨⟨h0, h1, h2, h3, h4, h5, h6, h7, h8⟩⟩ := hC; go_simp; rfl)); clear hK K))
              refine ord_alone (by rfl) (fun W hW K hK => ?_)
              have hWr : NewsRow W A l.length l := hW.out.2.2.2.2.2.2.2.1
              go_simp
              go_at_call 47
              refine (ref_MarksOf2 l A c l.length N _ rfl hWr hc h1 h4 n.src hn0 hns Hsrc.out).mono ?_
              rintro e w3 ⟨gm, cm, rfl, hmc, hb3⟩
              rw [Hmk.out] at hmc
              refine hK.out _ _ (fun W => (W.cell? ⟨bn, 0, none⟩ = some (.int .i64 n.do_) ∧ W.cell? ⟨bn, 1, none⟩ = some (.int .i64 n.src) ∧ W.cell? ⟨bn, 2, none⟩ = some (.int .i64 n.id) ∧ W.cell? ⟨bn, 3, none⟩ = some (.int .i64 n.ver) ∧ W.cell? ⟨bn, 4, none⟩ = some (.int .i64 n.body.at_) ∧ W.cell? ⟨bn, 5, none⟩ = some (.int .i64 n.body.key) ∧ W.cell? ⟨bn, 6, none⟩ = some (.int .i64 n.body.val) ∧ NewsRow W A l.length l ∧ Below W1.heap.size W1 W) ∧ W.cell? ⟨gm, n.src.toNat, none⟩ = some (.int .i64 mk)) (fun _ _ h hb => ⟨stS_step h.1 hb, cell_later' hb h.2⟩) (fun _ h => h.1) ⟨stS_step hW.out hb3, hmc⟩ ?_
              clear hK hWr hmc hW
              repeat (refine ord_calm (fun K hK => ?_); go_simp; first | (refine hK _ ?_; clear hK K) | (apply Exists.intro; refine ⟨fun W hC => ?_, hK _ ?_⟩; (first | rfl | (obtain ⟨⟨⟨h0, h1, h2, h3, h4, h5, h6, h7, h8⟩, h9⟩⟩ := hC; go_simp; done) | (obtain ⟨⟨⟨h0, h1, h2, h3, h4, h5, h6, h7, h8⟩, h9⟩⟩ := hC; go_simp; rfl)); clear hK K))
              refine ord_nil ?_
              intro W hC
              have HC := Lib.hid hC.out.1.2.2.2.2.2.2.2.2
              clear hC
              go_wp2
              go_meet
              case rel => exact ⟨by rw [HK.out], ⟨HC.out⟩⟩
            · have HK : Hid ((!keepL mk cc k n) = true) := Lib.hid (by
                have : n.body.at_ < mk := by simpa using hlm
                simp [keepL, h3, this])
              clear h3 ha0
              refine wp_region_ord [(0, true), (1, true), (2, true), (3, true), (4, true), (5, true), (6, true), (7, true), (8, true), (9, true), (10, true), (11, true), (12, true), (13, true), (15, true), (16, true), (14, false), (17, true), (18, true), (19, true), (20, true), (21, true), (22, true), (23, true), (24, true), (25, true), (26, true), (27, true), (28, true), (29, true), (30, true), (31, true), (32, true), (33, true), (34, true), (35, true), (36, true)] (fun W => W.cell? ⟨bn, 0, none⟩ = some (.int .i64 n.do_) ∧ W.cell? ⟨bn, 1, none⟩ = some (.int .i64 n.src) ∧ W.cell? ⟨bn, 2, none⟩ = some (.int .i64 n.id) ∧ W.cell? ⟨bn, 3, none⟩ = some (.int .i64 n.ver) ∧ W.cell? ⟨bn, 4, none⟩ = some (.int .i64 n.body.at_) ∧ W.cell? ⟨bn, 5, none⟩ = some (.int .i64 n.body.key) ∧ W.cell? ⟨bn, 6, none⟩ = some (.int .i64 n.body.val) ∧ NewsRow W A l.length l ∧ Below W1.heap.size W1 W) (fun _ _ h hb => stS_step h hb) (by kernel_rfl) (by kernel_rfl) (stS_step ⟨i0, i1, i2, i3, i4, i5, i6, hr1.out, Below.refl _ _⟩ (below_drew1 (Below.refl _ _))) ?_
              simp only [pickOps, List.getElem?_cons_succ, List.getElem?_cons_zero]
              repeat (refine ord_calm (fun K hK => ?_); go_simp; first | (refine hK _ ?_; clear hK K) | (apply Exists.intro; refine ⟨fun W hC => ?_, hK _ ?_⟩; (first | rfl | (obtain ⟨⟨h0, h1, h2, h3, h4, h5, h6, h7, h8⟩⟩ := hC; go_simp; done) | (obtain ⟨⟨h0, h1, h2, h3, h4, h5, h6, h7, h8⟩⟩ := hC; go_simp; rfl)); clear hK K))
              refine ord_alone (by rfl) (fun W hW K hK => ?_)
              have hWr : NewsRow W A l.length l := hW.out.2.2.2.2.2.2.2.1
              go_simp
              go_at_call 47
              refine (ref_MarksOf2 l A c l.length N _ rfl hWr hc h1 h4 n.src hn0 hns Hsrc.out).mono ?_
              rintro e w3 ⟨gm, cm, rfl, hmc, hb3⟩
              rw [Hmk.out] at hmc
              refine hK.out _ _ (fun W => (W.cell? ⟨bn, 0, none⟩ = some (.int .i64 n.do_) ∧ W.cell? ⟨bn, 1, none⟩ = some (.int .i64 n.src) ∧ W.cell? ⟨bn, 2, none⟩ = some (.int .i64 n.id) ∧ W.cell? ⟨bn, 3, none⟩ = some (.int .i64 n.ver) ∧ W.cell? ⟨bn, 4, none⟩ = some (.int .i64 n.body.at_) ∧ W.cell? ⟨bn, 5, none⟩ = some (.int .i64 n.body.key) ∧ W.cell? ⟨bn, 6, none⟩ = some (.int .i64 n.body.val) ∧ NewsRow W A l.length l ∧ Below W1.heap.size W1 W) ∧ W.cell? ⟨gm, n.src.toNat, none⟩ = some (.int .i64 mk)) (fun _ _ h hb => ⟨stS_step h.1 hb, cell_later' hb h.2⟩) (fun _ h => h.1) ⟨stS_step hW.out hb3, hmc⟩ ?_
              clear hK hWr hmc hW
              repeat (refine ord_calm (fun K hK => ?_); go_simp; first | (refine hK _ ?_; clear hK K) | (apply Exists.intro; refine ⟨fun W hC => ?_, hK _ ?_⟩; (first | rfl | (obtain ⟨⟨⟨h0, h1, h2, h3, h4, h5, h6, h7, h8⟩, h9⟩⟩ := hC; go_simp; done) | (obtain ⟨⟨⟨h0, h1, h2, h3, h4, h5, h6, h7, h8⟩, h9⟩⟩ := hC; go_simp; rfl)); clear hK K))
              refine ord_nil ?_
              intro W hC
              have HC := Lib.hid hC.out.1.2.2.2.2.2.2.2.2
              clear hC
              go_wp2
              go_meet
              case rel => exact ⟨by rw [HK.out], ⟨HC.out⟩⟩
        · have hb3 : (n.do_ == 3) = false := by simpa using h3
          have hb3' : (n.do_ != 3) = true := by simpa using h3
          cases hce : (cc != (k : Int))
          · have HK : Hid ((!keepL mk cc k n) = false) := Lib.hid (by
              have : cc = (k : Int) := by simpa using hce
              simp [keepL, h3, this])
            clear h3
            refine wp_region_ord [(0, true), (1, true), (2, true), (3, true), (4, true), (5, true), (6, true), (7, true), (8, true), (9, true), (10, true), (11, true), (12, true), (13, true), (14, true), (15, true), (16, true), (17, true), (18, true), (19, true), (20, true), (21, true), (22, true), (23, true), (24, true), (25, true), (26, true), (27, true), (28, true), (29, true), (30, true), (31, true), (32, true), (33, true), (34, true), (35, true), (36, true)] (fun W => W.cell? ⟨bn, 0, none⟩ = some (.int .i64 n.do_) ∧ W.cell? ⟨bn, 1, none⟩ = some (.int .i64 n.src) ∧ W.cell? ⟨bn, 2, none⟩ = some (.int .i64 n.id) ∧ W.cell? ⟨bn, 3, none⟩ = some (.int .i64 n.ver) ∧ W.cell? ⟨bn, 4, none⟩ = some (.int .i64 n.body.at_) ∧ W.cell? ⟨bn, 5, none⟩ = some (.int .i64 n.body.key) ∧ W.cell? ⟨bn, 6, none⟩ = some (.int .i64 n.body.val) ∧ NewsRow W A l.length l ∧ Below W1.heap.size W1 W) (fun _ _ h hb => stS_step h hb) (by kernel_rfl) (by kernel_rfl) (stS_step ⟨i0, i1, i2, i3, i4, i5, i6, hr1.out, Below.refl _ _⟩ (below_drew1 (Below.refl _ _))) ?_
            simp only [pickOps, List.getElem?_cons_succ, List.getElem?_cons_zero]
            repeat (refine ord_calm (fun K hK => ?_); go_simp; first | (refine hK _ ?_; clear hK K) | (apply Exists.intro; refine ⟨fun W hC => ?_, hK _ ?_⟩; (first | rfl | ((go_at_call 68; (with_reducible refine (ref_counts l A c n.src n.id _ hC.out.2.2.2.2.2.2.2.1 hc (by omega)).mono ?_); rintro e w3 ⟨rfl, hb3⟩; rw [Hcc.out]; exact ⟨rfl, hb3⟩)) | (obtain ⟨⟨h0, h1, h2, h3, h4, h5, h6, h7, h8⟩⟩ := hC; go_simp; done) | (obtain ⟨⟨h0, h1, h2, h3, h4, h5, h6, h7, h8⟩⟩ := hC; go_simp; rfl)); clear hK K))
            refine ord_nil ?_
            intro W hC
            have HC := Lib.hid hC.out.2.2.2.2.2.2.2.2
            clear hC
            go_wp2
            go_meet
            case rel => exact ⟨by rw [HK.out], ⟨HC.out⟩⟩
          · have HK : Hid ((!keepL mk cc k n) = true) := Lib.hid (by
              have : cc ≠ (k : Int) := by simpa using hce
              simp [keepL, h3, this])
            clear h3
            refine wp_region_ord [(0, true), (1, true), (2, true), (3, true), (4, true), (5, true), (6, true), (7, true), (8, true), (9, true), (10, true), (11, true), (12, true), (13, true), (14, true), (15, true), (16, true), (17, true), (18, true), (19, true), (20, true), (21, true), (22, true), (23, true), (24, true), (25, true), (26, true), (27, true), (28, true), (29, true), (30, true), (31, true), (32, true), (33, true), (34, true), (35, true), (36, true)] (fun W => W.cell? ⟨bn, 0, none⟩ = some (.int .i64 n.do_) ∧ W.cell? ⟨bn, 1, none⟩ = some (.int .i64 n.src) ∧ W.cell? ⟨bn, 2, none⟩ = some (.int .i64 n.id) ∧ W.cell? ⟨bn, 3, none⟩ = some (.int .i64 n.ver) ∧ W.cell? ⟨bn, 4, none⟩ = some (.int .i64 n.body.at_) ∧ W.cell? ⟨bn, 5, none⟩ = some (.int .i64 n.body.key) ∧ W.cell? ⟨bn, 6, none⟩ = some (.int .i64 n.body.val) ∧ NewsRow W A l.length l ∧ Below W1.heap.size W1 W) (fun _ _ h hb => stS_step h hb) (by kernel_rfl) (by kernel_rfl) (stS_step ⟨i0, i1, i2, i3, i4, i5, i6, hr1.out, Below.refl _ _⟩ (below_drew1 (Below.refl _ _))) ?_
            simp only [pickOps, List.getElem?_cons_succ, List.getElem?_cons_zero]
            repeat (refine ord_calm (fun K hK => ?_); go_simp; first | (refine hK _ ?_; clear hK K) | (apply Exists.intro; refine ⟨fun W hC => ?_, hK _ ?_⟩; (first | rfl | ((go_at_call 68; (with_reducible refine (ref_counts l A c n.src n.id _ hC.out.2.2.2.2.2.2.2.1 hc (by omega)).mono ?_); rintro e w3 ⟨rfl, hb3⟩; rw [Hcc.out]; exact ⟨rfl, hb3⟩)) | (obtain ⟨⟨h0, h1, h2, h3, h4, h5, h6, h7, h8⟩⟩ := hC; go_simp; done) | (obtain ⟨⟨h0, h1, h2, h3, h4, h5, h6, h7, h8⟩⟩ := hC; go_simp; rfl)); clear hK K))
            refine ord_nil ?_
            intro W hC
            have HC := Lib.hid hC.out.2.2.2.2.2.2.2.2
            clear hC
            go_wp2
            go_meet
            case rel => exact ⟨by rw [HK.out], ⟨HC.out⟩⟩
      case rest =>
        obtain ⟨hu, hBc⟩ := hcut
        replace i0 := cell_later' hBc.out i0
        replace i1 := cell_later' hBc.out i1
        replace i2 := cell_later' hBc.out i2
        replace i3 := cell_later' hBc.out i3
        replace i4 := cell_later' hBc.out i4
        replace i5 := cell_later' hBc.out i5
        replace i6 := cell_later' hBc.out i6
        have HO2 := Lib.hid (own_later HO1.out hBc.out)
        have hB2 := below_trans hB1 (below_lower hBc.out hB1.size)
        clear HO1 hBc hB1 hr1
        cases hkp : keepL mk cc k n
        · have hln : leastF (markAt l) (cntAt l) (l.take (k + 1)) = xs := by rw [Hlf2.out, hkp]; rfl
          have Hln := Lib.hid hln
          rw [hkp] at hu
          have hu' : _ = Value.bool true := hu
          subst hu'
          clear hln hkp hu
          go_wp2
          exact ⟨⟨k + 1, by omega, by go_num, by rw [Hln.out]; exact HO2.out, hB2⟩, by simp [intOf]; omega⟩
        · have hln : leastF (markAt l) (cntAt l) (l.take (k + 1)) = if xs.any (fun m => newsEq m n) = true then xs else insN n xs := by rw [Hlf2.out, hkp]; rfl
          have Hln := Lib.hid hln
          rw [hkp] at hu
          have hu' : _ = Value.bool false := hu
          subst hu'
          clear hln hkp hu
          obtain ⟨A5, c5, rfl, hc5, hr5⟩ := own_reads' HO2.out
          have Hr5 := Lib.hid hr5
          clear hr5
          go_wp2
          go_loopw [9, 10, 11] (fun tw ta i wr => ∃ j : Nat, j ≤ xs.length ∧ i = .int .i64 j ∧ tw = .bool ((xs.take j).any (fun m => newsEq m n)) ∧ ta = .int .i64 (posA n (xs.take j) : Nat) ∧ Below wc.heap.size wc wr) (fun _ _ i _ => xs.length - (intOf i).toNat)
          case atStart => exact ⟨0, Nat.zero_le _, rfl, rfl, rfl, Below.refl _ _⟩
          case round =>
            obtain ⟨j, hj, rfl, rfl, rfl, hB3⟩ := hrel
            by_cases hjl : j < xs.length
            · obtain ⟨x, ae, hd, htk, hget, rfl, e0, e1, e2, e3, e4, e5, e6⟩ := news_at (news_later Hr5.out hB3) j hjl
              have hany : (xs.take (j + 1)).any (fun m => newsEq m n) = ((xs.take j).any (fun m => newsEq m n) || newsEq x n) := by rw [htk, List.any_append]; simp
              have hpos : posA n (xs.take (j + 1)) = if aheadB x n = true then j + 1 else posA n (xs.take j) := by
                rw [htk, posA_snoc, show (xs.take j).length = j by rw [List.length_take]; omega]
              have Hany := Lib.hid hany
              have Hpos := Lib.hid hpos
              have g0 := cell_later' hB3 i0
              have g1 := cell_later' hB3 i1
              have g2 := cell_later' hB3 i2
              have g3 := cell_later' hB3 i3
              have g4 := cell_later' hB3 i4
              have g5 := cell_later' hB3 i5
              have g6 := cell_later' hB3 i6
              clear hany hpos hd htk hget i0 i1 i2 i3 i4 i5 i6
              generalize hpj : posA n (xs.take j) = pj at *
              cases hacc : (xs.take j).any (fun m => newsEq m n) <;> cases hah : aheadB x n
              all_goals
                have Hacc := Lib.hid hacc
                have Hah := Lib.hid hah
                clear hacc
                go_upto_region 13 with (fail)
                refine wp_region_ord [(0, true), (1, true), (2, true), (3, true), (4, true), (5, true), (6, true), (7, true), (8, true), (9, true)] (fun W => LX wr W ae bn j n x) (fun _ _ h hb => LX.step h hb) (by kernel_rfl) (by kernel_rfl) (LX.step ⟨e0, e1, e2, e3, e4, e5, e6, g0, g1, g2, g3, g4, g5, g6, Below.refl _ _⟩ (below_drew1 (Below.refl _ _))) ?_
                simp only [pickOps, List.getElem?_cons_succ, List.getElem?_cons_zero]
                repeat (refine ord_calm (fun K hK => ?_); go_simp; first | (refine hK _ ?_; clear hK K) | (apply Exists.intro; refine ⟨fun W hC => ?_, hK _ ?_⟩; (first | rfl | (obtain ⟨⟨h0, h1, h2, h3, h4, h5, h6, k0, k1, k2, k3, k4, k5, k6, h9⟩⟩ := hC; go_simp; done) | (obtain ⟨⟨h0, h1, h2, h3, h4, h5, h6, k0, k1, k2, k3, k4, k5, k6, h9⟩⟩ := hC; go_simp; rfl)); clear hK K))
                refine ord_nil ?_
                intro W13 hC13
                have HC13 := Lib.hid hC13.out
                clear hC13
                go_upto_region 14 with (fail)
                refine wp_region_ord [(0, true), (1, true), (2, true), (3, true), (4, true), (5, true)] (fun W => LX wr W ae bn j n x) (fun _ _ h hb => LX.step h hb) (by kernel_rfl) (by kernel_rfl) (LX.step HC13.out (below_drew1 (Below.refl _ _))) ?_
                simp only [pickOps, List.getElem?_cons_succ, List.getElem?_cons_zero]
                repeat (refine ord_calm (fun K hK => ?_); go_simp; first | (refine hK _ ?_; clear hK K) | (apply Exists.intro; refine ⟨fun W hC => ?_, hK _ ?_⟩; (first | rfl | ((go_at_call 77; (with_reducible refine (ref_ahead x n _).mono ?_); rintro e w3 ⟨rfl, hb3⟩; exact ⟨by rw [hah], hb3⟩)) | (obtain ⟨⟨h0, h1, h2, h3, h4, h5, h6, k0, k1, k2, k3, k4, k5, k6, h9⟩⟩ := hC; go_simp; done) | (obtain ⟨⟨h0, h1, h2, h3, h4, h5, h6, k0, k1, k2, k3, k4, k5, k6, h9⟩⟩ := hC; go_simp; rfl)); clear hK K))
                refine ord_nil ?_
                intro W14 hC14
                have HC14 := Lib.hid hC14.out.2.2.2.2.2.2.2.2.2.2.2.2.2.2
                clear hC14 HC13
                go_wp2
                exact ⟨⟨j + 1, by omega, by go_num, by rw [Hany.out, Hacc.out]; first | rfl | simp, by rw [Hpos.out, Hah.out]; first | rfl | go_num, below_trans hB3 (below_lower HC14.out hB3.size)⟩, by simp [intOf]; omega⟩
            · have hjk : xs.take j = xs := by rw [List.take_of_length_le (by omega)]
              rw [hjk]
              have hB4 := below_trans hB2 (below_lower hB3 hB2.size)
              have HO4 := Lib.hid (own_later HO2.out hB3)
              have Hr4 := Lib.hid (news_later Hr5.out hB3)
              replace i0 := cell_later' hB3 i0
              replace i1 := cell_later' hB3 i1
              replace i2 := cell_later' hB3 i2
              replace i3 := cell_later' hB3 i3
              replace i4 := cell_later' hB3 i4
              replace i5 := cell_later' hB3 i5
              replace i6 := cell_later' hB3 i6
              have hpx := posA_le n xs
              have Hins := Lib.hid (show insN n xs = xs.take (posA n xs) ++ [n] ++ xs.drop (posA n xs) from rfl)
              clear HO2 Hr5 hjk hB3
              generalize posA n xs = p at *
              cases hanyx : xs.any (fun m => newsEq m n)
              · have hln2 : leastF (markAt l) (cntAt l) (l.take (k + 1)) = xs.take p ++ [n] ++ xs.drop p := by rw [Hln.out, hanyx, ← Hins.out]; rfl
                have Hln2 := Lib.hid hln2
                have hT := Lib.hid (C_take Hr4.out p hpx)
                have hD0 := C_drop Hr4.out p hpx
                have hTl : (xs.take p).length = p := by rw [List.length_take]; omega
                have hp0 : (0 : Int) ≤ (p : Int) := by omega
                have hp1 : (p : Int) ≤ (xs.length : Int) := by omega
                have hp2 : (p : Int) ≤ (c5 : Int) := by omega
                clear hln2 Hln Hins hanyx
                by_cases hcp : c5 = p
                · have hD := Lib.hid (show NewsRow wr A5 (xs.length - p) (xs.drop p) from ⟨by rw [List.length_drop], by omega, fun h => by omega⟩)
                  subst hcp
                  clear hD0
                  go_upto_region 17 with (fail)
                  go_region_held3 (fun W => LI wr W A5 A5 c5 (xs.length - c5) (xs.take c5) (xs.drop c5) bn n)
                    (first | assumption | exact LI.step (by assumption) (by assumption) | exact LI.step (by assumption) (below_alloc (Below.refl _ _) _) | exact LI.step ⟨i0, i1, i2, i3, i4, i5, i6, hT.out, hD.out, Below.refl _ _⟩ (by repeat (first | exact Below.refl _ _ | assumption | apply below_alloc | apply below_drew1)))
                    (first
                      | (refine Kd.R_append_rows_step kNews (w0 := wr) wr.heap.size (by rfl) (.const (.slice none 0 0)) (.tmp 88) 22 38 (.agg #[(.int .i64 0), (.int .i64 0), (.int .i64 0), (.int .i64 0), (.int .i64 0), (.int .i64 0), (.int .i64 0)]) 56 rfl Try.underlying22 info_news rfl (by decide) (by omega) (.slice none 0 0) [] (xs.take c5) _ _ _ (fun _ => True) (fun _ => False) rfl rfl ?aO ?aR (fun _ _ h => h) (fun _ h => h.elim) ?aF ?aB ?aS ?aL ?_; (case aO => exact Kd.R_nil _ _ _ _ _); (case aR => go_split_ands; assumption); (case aF => exact (fun _ _ => trivial)); (case aB => go_split_ands; assumption); (case aS => exact LI.size (by assumption)); (case aL => (rw [List.length_nil]; omega)); intro v w' hO hB hgrow hat0; have hBy := below_nil hgrow; rw [List.nil_append] at hO)
                      | (refine Kd.R_append_rows_step kNews (w0 := wr) wr.heap.size (by rfl) (.tmp 89) (.tmp 91) 22 38 (.agg #[(.int .i64 0), (.int .i64 0), (.int .i64 0), (.int .i64 0), (.int .i64 0), (.int .i64 0), (.int .i64 0)]) 56 rfl Try.underlying22 info_news rfl (by decide) (by omega) _ (xs.take c5) [n] _ _ _ (fun _ => True) (fun _ => False) rfl rfl ?aO ?aR (fun _ _ h => h) (fun _ h => h.elim) ?aF ?aB ?aS ?aL ?_; (case aO => first | exact hO | exact own_later hO (below_alloc (Below.refl _ _) _)); (case aR => first | exact lit_news _ _ | exact Kd.C_drew (lit_news _ _) | exact Kd.C_below (lit_news _ _) hBy | exact Kd.C_below (Kd.C_drew (lit_news _ _)) hBy); (case aF => exact (fun _ _ => trivial)); (case aB => go_split_ands; assumption); (case aS => exact LI.size (by assumption)); (case aL => (rw [hTl]; omega)); intro v7 w7 ho7 hb7 hg7 hat7)
                      | (refine Kd.R_append_rows_step kNews (w0 := wr) wr.heap.size (by rfl) (.tmp 92) (.tmp 95) 22 38 (.agg #[(.int .i64 0), (.int .i64 0), (.int .i64 0), (.int .i64 0), (.int .i64 0), (.int .i64 0), (.int .i64 0)]) 56 rfl Try.underlying22 info_news rfl (by decide) (by omega) _ (xs.take c5 ++ [n]) (xs.drop c5) _ _ _ (fun _ => True) (fun _ => False) rfl rfl ?aO ?aR (fun _ _ h => h) (fun _ h => h.elim) ?aF ?aB ?aS ?aL ?_; (case aO => exact ho7); (case aR => first | (go_split_ands; assumption) | exact ⟨by rw [List.length_drop]; omega, by omega, fun h => by omega⟩); (case aF => exact (fun _ _ => trivial)); (case aB => exact hb7); (case aS => exact hb7.size); (case aL => (rw [List.length_append, hTl, List.length_singleton]; omega)); intro v9 w9 ho9 hb9 hg9 hat9)
                      | fail)
                  all_goals go_wp2
                  all_goals exact ⟨⟨k + 1, by omega, by go_num, by rw [Hln2.out]; exact own_lower ho9 hB4.size, below_trans hB4 (below_lower hb9 hB4.size)⟩, by simp [intOf]; omega⟩
                · have hD := Lib.hid (show NewsRow wr (Option.map (fun x => x.add (p * 7)) A5) (xs.length - p) (xs.drop p) from hD0)
                  clear hD0
                  go_upto_region 17 with (fail)
                  go_region_held3 (fun W => LI wr W A5 (Option.map (fun x => x.add (p * 7)) A5) p (xs.length - p) (xs.take p) (xs.drop p) bn n)
                    (first | assumption | exact LI.step (by assumption) (by assumption) | exact LI.step (by assumption) (below_alloc (Below.refl _ _) _) | exact LI.step ⟨i0, i1, i2, i3, i4, i5, i6, hT.out, hD.out, Below.refl _ _⟩ (by repeat (first | exact Below.refl _ _ | assumption | apply below_alloc | apply below_drew1)))
                    (first
                      | (refine Kd.R_append_rows_step kNews (w0 := wr) wr.heap.size (by rfl) (.const (.slice none 0 0)) (.tmp 88) 22 38 (.agg #[(.int .i64 0), (.int .i64 0), (.int .i64 0), (.int .i64 0), (.int .i64 0), (.int .i64 0), (.int .i64 0)]) 56 rfl Try.underlying22 info_news rfl (by decide) (by omega) (.slice none 0 0) [] (xs.take p) _ _ _ (fun _ => True) (fun _ => False) rfl rfl ?aO ?aR (fun _ _ h => h) (fun _ h => h.elim) ?aF ?aB ?aS ?aL ?_; (case aO => exact Kd.R_nil _ _ _ _ _); (case aR => go_split_ands; assumption); (case aF => exact (fun _ _ => trivial)); (case aB => go_split_ands; assumption); (case aS => exact LI.size (by assumption)); (case aL => (rw [List.length_nil]; omega)); intro v w' hO hB hgrow hat0; have hBy := below_nil hgrow; rw [List.nil_append] at hO)
                      | (refine Kd.R_append_rows_step kNews (w0 := wr) wr.heap.size (by rfl) (.tmp 89) (.tmp 91) 22 38 (.agg #[(.int .i64 0), (.int .i64 0), (.int .i64 0), (.int .i64 0), (.int .i64 0), (.int .i64 0), (.int .i64 0)]) 56 rfl Try.underlying22 info_news rfl (by decide) (by omega) _ (xs.take p) [n] _ _ _ (fun _ => True) (fun _ => False) rfl rfl ?aO ?aR (fun _ _ h => h) (fun _ h => h.elim) ?aF ?aB ?aS ?aL ?_; (case aO => first | exact hO | exact own_later hO (below_alloc (Below.refl _ _) _)); (case aR => first | exact lit_news _ _ | exact Kd.C_drew (lit_news _ _) | exact Kd.C_below (lit_news _ _) hBy | exact Kd.C_below (Kd.C_drew (lit_news _ _)) hBy); (case aF => exact (fun _ _ => trivial)); (case aB => go_split_ands; assumption); (case aS => exact LI.size (by assumption)); (case aL => (rw [hTl]; omega)); intro v7 w7 ho7 hb7 hg7 hat7)
                      | (refine Kd.R_append_rows_step kNews (w0 := wr) wr.heap.size (by rfl) (.tmp 92) (.tmp 95) 22 38 (.agg #[(.int .i64 0), (.int .i64 0), (.int .i64 0), (.int .i64 0), (.int .i64 0), (.int .i64 0), (.int .i64 0)]) 56 rfl Try.underlying22 info_news rfl (by decide) (by omega) _ (xs.take p ++ [n]) (xs.drop p) _ _ _ (fun _ => True) (fun _ => False) rfl rfl ?aO ?aR (fun _ _ h => h) (fun _ h => h.elim) ?aF ?aB ?aS ?aL ?_; (case aO => exact ho7); (case aR => first | (go_split_ands; assumption) | exact ⟨by rw [List.length_drop]; omega, by omega, fun h => by omega⟩); (case aF => exact (fun _ _ => trivial)); (case aB => exact hb7); (case aS => exact hb7.size); (case aL => (rw [List.length_append, hTl, List.length_singleton]; omega)); intro v9 w9 ho9 hb9 hg9 hat9)
                      | fail)
                  all_goals go_wp2
                  all_goals exact ⟨⟨k + 1, by omega, by go_num, by rw [Hln2.out]; exact own_lower ho9 hB4.size, below_trans hB4 (below_lower hb9 hB4.size)⟩, by simp [intOf]; omega⟩
              · have hln2 : leastF (markAt l) (cntAt l) (l.take (k + 1)) = xs := by rw [Hln.out, hanyx]; rfl
                have Hln2 := Lib.hid hln2
                clear hln2 Hln Hins
                go_wp2
                exact ⟨⟨k + 1, by omega, by go_num, by rw [Hln2.out]; exact HO4.out, hB4⟩, by simp [intOf]; omega⟩
    · have hkl : l.take k = l := by rw [List.take_of_length_le (by omega)]
      rw [hkl] at hO
      have HO := Lib.hid hO
      clear hO hkl
      go_wp2
      go_ret
      exact ⟨_, rfl, own_lower HO.out hbs6, below_trans hb6 (below_lower hB hbs6)⟩
end Go.Proofs.Ytdpkpibcjbllcaa
set_option linter.unusedVariables false
set_option linter.unusedSimpArgs false
/-! The reference's least list. -/
namespace Go.Proofs.Ytdpkpibcjbllcaa
open Go.RowKit Go.Proofs.YtdpkpibcjbllcaaW.PrintWords

theorem ref_LeastOf (l : List News) (A : Option Addr) (c : Nat) (srcs : Int) (w : World) (hr : NewsRow w A l.length l) (hc : l.length ≤ c) (hl : l.length ≤ 200) (h1 : 1 ≤ srcs) (h4 : srcs ≤ 4) (hs : ∀ n ∈ l, 0 ≤ n.src ∧ n.src < srcs) :
    Calls Try.prog 54 #[.slice A l.length c, .int .i64 srcs] w (OwnPost kNews 38 w (leastR l)) := by
  obtain ⟨N, rfl⟩ : ∃ N : Nat, srcs = (N : Int) := ⟨srcs.toNat, by omega⟩
  exact ref_LeastOfN l A c N w hr hc hl (by omega) (by omega) hs
def LeastE (f : Bool) (xs : List News) (w : World) (e : Ending) (w' : World) : Prop := ∃ v, e = .returned (.tuple #[v, .int .i64 (if f then 0 else 2)]) ∧ Own kNews 38 w' w.heap.size v (if f then xs else []) ∧ Below w.heap.size w w'
set_option maxRecDepth 100000 in
set_option maxHeartbeats 1000000 in
theorem ref_Least (l : List News) (A : Option Addr) (c : Nat) (srcs : Int) (w : World) (hr : NewsRow w A l.length l) (hc : l.length ≤ c) :
    Calls Try.prog 22 #[.slice A l.length c, .int .i64 srcs] w (LeastE (formedB l srcs) (leastR l) w) := by
  have Hr := Lib.hid hr
  clear hr
  cases hf : formedB l srcs
  · go_enter Try.func22, Try.ntmps22
    go_wp2_with (first | (go_at_call 28; (with_reducible refine (ref_Formed l A c srcs _ Hr.out hc).mono ?_); rintro e w' ⟨rfl, hb⟩))
    go_ret2
    exact ⟨_, rfl, Kd.R_nil _ _ _ _ _, hb⟩
  · have hs := plainB_src (formedB_plain hf)
    have Hs := Lib.hid hs
    have hsrc := Lib.hid (plainB_srcs (formedB_plain hf))
    clear hs
    generalize hmo : leastR l = mo
    have Hmo := Lib.hid hmo
    clear hmo
    go_enter Try.func22, Try.ntmps22
    go_wp2_with (first
      | (go_at_call 28; (with_reducible refine (ref_Formed l A c srcs _ Hr.out hc).mono ?_); rintro e w' ⟨rfl, hb⟩)
      | (go_at_call 54; (with_reducible refine (ref_LeastOf l A c srcs _ (news_later Hr.out hb) hc (Nat.le_trans Hs.out.2.1 (by omega)) Hs.out.1.1 Hs.out.1.2 hsrc.out).mono ?_); rintro e w2 ⟨v, rfl, hO, hb2⟩; rw [Hmo.out] at hO))
    go_ret2
    exact ⟨v, rfl, own_lower hO hb.size, below_step hb hb2⟩
end Go.Proofs.Ytdpkpibcjbllcaa
