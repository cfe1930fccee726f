/-
  Texts of one hand, laid together: OrdF, Turned, OpenBy.
-/
import Derived.Test.YtdpkpibcjbllcaaZN
import Derived.Test.YtdpkpibcjbllcaaZI
import Derived.Test.YtdpkpibcjbllcaaZK
import Derived.Test.YtdpkpibcjbllcaaZH
set_option linter.unusedVariables false
set_option linter.unusedSimpArgs false
/-! As XOrd, with fences: an operation that waits for all that were taken under the class; behind it the class may be another. -/
namespace Go.Proofs.Ytdpkpibcjbllcaa
open Go Go.RowKit
section
variable {P : Program} {md : Region.Mode} {ops : Array Oper} {Q : Exit → Act → World → Prop} {D : Nat → Bool}

/-- Number j waits for all that were taken under a class (D). -/
def Fence (md : Region.Mode) (ops : Array Oper) (D : Nat → Bool) (j : Nat) (listed : Array Bool) : Prop :=
  ∀ k, D k = true → listed.getD k false = true → ∃ o, ops[j]? = some o ∧ ∃ e ∈ o.after, Region.binds md e = true ∧ e.on = k
def AnyW : World → Prop := fun _ => True
/-- What is apart from an operation does not see whether that one has been, whatever is known of it by its own reading. -/
theorem wpOp_apartY {Y : Act → Prop} {j : Nat} {oi oj : Oper} {v : Value} (hj : ops[j]? = some oj) (hap : oi.apart ops oj = true) (hsi : ∀ cs b, oi.op ≠ .select cs b) (hsj : ∀ cs b, oj.op ≠ .select cs b)
    (hQ : ∀ c a w, Q (.panic c) (a.put oi.dst v) w → Q (.panic c) a w) (hY : ∀ a a', execOp a'.eval oi = execOp a.eval oi → Region.wanted oi (yielded ops a'.tmps) = Region.wanted oi (yielded ops a.tmps) → Y a → Y a')
    {K : Act → World → Prop} {a : Act} {w : World} (hy : Y a) (h : wpOp P ops Q j K (a.put oi.dst v) w) : wpOp P ops Q j (fun a' w' => Y a' ∧ K (a'.put oi.dst v) w') a w := by
  obtain ⟨h1, h2, h3⟩ := Oper.apart_spec hap
  have kp : ∀ u, Y (a.put oj.dst u) := fun u => hY _ _ (execOp_put oi hsi a oj.dst u h3) (wanted_put oi a oj.dst u h3) hy
  have kd : ∀ d u, Y (Act.put { a with defers := d :: a.defers } oj.dst u) := fun d u => hY _ _ (execOp_put oi hsi _ oj.dst u h3) (wanted_put oi _ oj.dst u h3) (hY a { a with defers := d :: a.defers } rfl rfl hy)
  have pc : ∀ (b : Act) (u : Value), (b.put oi.dst v).put oj.dst u = (b.put oj.dst u).put oi.dst v := fun b u => Act.put_comm b v u h2
  unfold wpOp at *
  simp only [hj] at *
  rw [wanted_put oj a oi.dst v h1] at h
  by_cases hw : Region.wanted oj (yielded ops a.tmps) = true
  · simp only [hw, if_true] at h ⊢
    rcases h with h | ⟨hasks, hlets⟩
    · left
      unfold Oper.wp at *
      rw [execOp_put oj hsj a oi.dst v h1] at h
      generalize (execOp a.eval oj).run P w = r at *
      cases r with
      | ok n w' =>
        cases n <;> simp only [Oper.upon] at h ⊢
        case value u => exact ⟨kp u, by rw [← pc]; exact h⟩
        case skip => exact ⟨kp _, by rw [← pc]; exact h⟩
        case defer d =>
          refine ⟨kd d _, ?_⟩
          rw [← pc, ← Act.put_defers]
          exact h
        case enter f args =>
          refine Calls.mono h fun e w'' he => ?_
          cases e with
          | returned u => exact ⟨kp u, by rw [← pc]; exact he⟩
          | panicked c => exact hQ _ _ _ he
          | outgrown => exact he
        case row row args => exact Rows.mono h fun u w'' he => ⟨kp u, by rw [← pc]; exact he⟩
      | halt x w' =>
        cases x <;> simp only [Oper.upon] at h ⊢
        case panic u => exact hQ _ _ _ h
    · exact .inr ⟨by unfold Oper.asks at *; rw [execOp_put oj hsj a oi.dst v h1] at hasks; exact hasks, hlets⟩
  · simp only [hw] at h ⊢
    exact ⟨kp _, by rw [← pc]; exact h⟩
def wpAnyF (P : Program) (md : Region.Mode) (ops : Array Oper) (D : Nat → Bool) (Q : Exit → Act → World → Prop) : Nat → Array Bool → (World → Prop) → Act → Prop
  | 0, listed, C, a => Region.ready md ops listed = [] ∧ ∀ w, C w → Q .normal a w
  | f + 1, listed, C, a => (Region.ready md ops listed = [] → ∀ w, C w → Q .normal a w) ∧
    ∀ i ∈ Region.ready md ops listed, ∀ w, C w → wpOp P ops Q i (fun a' w' => ∃ C' : World → Prop, Stable C' ∧ ((∀ W, C' W → C W) ∨ Fence md ops D i listed) ∧ C' w' ∧ wpAnyF P md ops D Q f (listed.setIfInBounds i true) C' a') a w
theorem wpAnyF_sound : ∀ (f : Nat) (listed : Array Bool) (C : World → Prop) (a : Act) (w : World), C w → wpAnyF P md ops D Q f listed C a → wpAny P md ops Q f listed a w
  | 0, _, _, _, w, hw, h => ⟨h.1, h.2 w hw⟩
  | f + 1, _, _, _, w, hw, h => ⟨fun h0 => h.1 h0 w hw, fun i hi => wpOp_mono (fun a' w' ⟨C', _, _, h3, h4⟩ => wpAnyF_sound f _ C' a' w' h3 h4) (h.2 i hi w hw)⟩
theorem wpAnyF_first {i : Nat} {oi : Oper} {v : Value} (hi : ops[i]? = some oi) (hsel : ∀ (j : Nat) (o : Oper) cs b, ops[j]? = some o → o.op ≠ .select cs b) (hQ : ∀ c a w, Q (.panic c) (a.put oi.dst v) w → Q (.panic c) a w) :
    ∀ (f : Nat) (listed : Array Bool) (C : World → Prop) (a : Act), Stable C →
      (∀ j oj, ops[j]? = some oj → j ≠ i → listed.getD j true = false → (∀ e ∈ oj.after, Region.binds md e = true → e.on ≠ i) → oi.apart ops oj = true) →
      i ∈ Region.ready md ops listed → YieldsC P ops C oi v a → (D i = false → YieldsC P ops AnyW oi v a) → wpAnyF P md ops D Q f (listed.setIfInBounds i true) C (a.put oi.dst v) → wpAnyF P md ops D Q (f + 1) listed C a
  | 0, listed, C, a, hst, hfree, hr, hy, hyw, H => by
    refine ⟨fun h => (by rw [h] at hr; cases hr), fun j hj w hw => ?_⟩
    by_cases hji : j = i
    · subst hji
      exact hy.wpOp hi hst hw fun w' hw' => ⟨C, hst, .inl fun _ h => h, hw', H⟩
    · have := ready_mono hj hji
      rw [H.1] at this
      cases this
  | f + 1, listed, C, a, hst, hfree, hr, hy, hyw, H => by
    refine ⟨fun h => (by rw [h] at hr; cases hr), fun j hj w hw => ?_⟩
    by_cases hji : j = i
    · subst hji
      exact hy.wpOp hi hst hw fun w' hw' => ⟨C, hst, .inl fun _ h => h, hw', H⟩
    · have h1 := H.2 j (ready_mono hj hji) w hw
      obtain ⟨hjun, oj, hoj, hall⟩ := mem_ready.1 hj
      have h0 := (mem_ready.1 hr).1
      have hil : listed.getD i false = false := by
        rcases Nat.lt_or_ge i listed.size with h' | h'
        · simp [h'] at h0 ⊢; exact h0
        · simp [Array.getElem?_eq_none h']
      have hnot : ∀ e ∈ oj.after, Region.binds md e = true → e.on ≠ i := fun e he hb heq => by
        have h2 := hall e he hb
        rw [heq, hil] at h2
        cases h2
      have h2 := wpOp_apartY (Y := fun a => YieldsC P ops C oi v a ∧ (D i = false → YieldsC P ops AnyW oi v a)) hoj (hfree j oj hoj hji hjun hnot) (fun cs b => hsel i oi cs b hi) (fun cs b => hsel j oj cs b hoj) hQ (fun a a' e1 e2 hh => ⟨hh.1.same e1 e2, fun hd => (hh.2 hd).same e1 e2⟩) ⟨hy, hyw⟩ h1
      have hfree' : ∀ k ok, ops[k]? = some ok → k ≠ i → (listed.setIfInBounds j true).getD k true = false → (∀ e ∈ ok.after, Region.binds md e = true → e.on ≠ i) → oi.apart ops ok = true := fun k ok hk hki hun hno => by
        refine hfree k ok hk hki ?_ hno
        by_cases hjk : j = k
        · subst hjk; exact hjun
        · rw [getD_set_ne true hjk] at hun; exact hun
      have hsz : i < listed.size := by
        apply Classical.byContradiction
        intro h'
        rw [Array.getD_eq_getD_getElem?, Array.getElem?_eq_none (by omega)] at h0
        cases h0
      refine wpOp_mono (fun a' w' h3 => ?_) h2
      obtain ⟨⟨hy', hyw'⟩, C', k1, k2, k3, k4⟩ := h3
      rw [Array.setIfInBounds_comm _ _ (fun e => hji e.symm)] at k4
      rcases k2 with k2 | k2
      · exact ⟨C', k1, .inl k2, k3, wpAnyF_first hi hsel hQ f (listed.setIfInBounds j true) C' a' k1 hfree' (ready_mono hr (Ne.symm hji)) (hy'.narrow k2) hyw' k4⟩
      · cases hd : D i
        · refine ⟨C', k1, .inr fun k hk hl => k2 k hk (getD_set_true hl), k3, wpAnyF_first hi hsel hQ f (listed.setIfInBounds j true) C' a' k1 hfree' (ready_mono hr (Ne.symm hji)) ((hyw' hd).narrow fun _ _ => trivial) hyw' k4⟩
        · obtain ⟨o, ho, e, he, hb, hon⟩ := k2 i hd (by simp [hsz])
          rw [hoj] at ho
          obtain rfl : oj = o := Option.some.inj ho
          exact absurd hon (hnot e he hb)
/-- Kinds: 0: one value in every world; 1: one value in every world of the class; 2: alone, behind it a narrower class; 3: alone, a fence. -/
def wpOrdF (P : Program) (ops : Array Oper) (Q : Exit → Act → World → Prop) : List (Oper × Nat) → (World → Prop) → Act → Prop
  | [], C, a => ∀ w, C w → Q .normal a w
  | (o, 0) :: r, C, a => if Region.wanted o (yielded ops a.tmps) = true then ∃ v, (∀ w, calmAt P o a w v) ∧ wpOrdF P ops Q r C (a.put o.dst v) else wpOrdF P ops Q r C (a.put o.dst undef)
  | (o, 1) :: r, C, a => if Region.wanted o (yielded ops a.tmps) = true then ∃ v, (∀ w, C w → calmAt P o a w v) ∧ wpOrdF P ops Q r C (a.put o.dst v) else wpOrdF P ops Q r C (a.put o.dst undef)
  | (o, 2) :: r, C, a => ∀ w, C w → if Region.wanted o (yielded ops a.tmps) = true then Oper.wp P o a w (fun a' w' => ∃ C' : World → Prop, Stable C' ∧ (∀ W, C' W → C W) ∧ C' w' ∧ wpOrdF P ops Q r C' a') Q else wpOrdF P ops Q r C (a.put o.dst undef)
  | (o, _ + 3) :: r, C, a => ∀ w, C w → if Region.wanted o (yielded ops a.tmps) = true then Oper.wp P o a w (fun a' w' => ∃ C' : World → Prop, Stable C' ∧ C' w' ∧ wpOrdF P ops Q r C' a') Q else wpOrdF P ops Q r C (a.put o.dst undef)
def fenceB (md : Region.Mode) (ops : Array Oper) (j : Nat) (deps : List Nat) (listed : Array Bool) : Bool :=
  deps.all fun k => !(listed.getD k false) || (match ops[j]? with | some o => o.after.any (fun e => Region.binds md e && e.on == k) | none => false)
def ordF (md : Region.Mode) (ops : Array Oper) (deps : List Nat) : List (Nat × Nat) → Array Bool → Bool
  | [], listed => (Region.ready md ops listed).isEmpty
  | (i, 0) :: r, listed => Region.free md ops listed i && (Region.ready md ops listed).contains i && !(deps.contains i) && ordF md ops deps r (listed.setIfInBounds i true)
  | (i, 1) :: r, listed => Region.free md ops listed i && (Region.ready md ops listed).contains i && deps.contains i && ordF md ops deps r (listed.setIfInBounds i true)
  | (i, 2) :: r, listed => (Region.ready md ops listed == [i]) && ordF md ops deps r (listed.setIfInBounds i true)
  | (i, _ + 3) :: r, listed => (Region.ready md ops listed == [i]) && fenceB md ops i deps listed && ordF md ops deps r (listed.setIfInBounds i true)
def pickOpsF (l : List Oper) : List (Nat × Nat) → List (Oper × Nat)
  | [] => []
  | (i, b) :: r => match l[i]? with | some o => (o, b) :: pickOpsF l r | none => []
theorem fence_of {deps : List Nat} {j : Nat} {listed : Array Bool} (h : fenceB md ops j deps listed = true) : Fence md ops (fun k => deps.contains k) j listed := by
  intro k hk hl
  have h1 := List.all_eq_true.1 h k (by simpa using hk)
  rw [hl] at h1
  simp only [Bool.not_true, Bool.false_or] at h1
  cases ho : ops[j]? with
  | none => rw [ho] at h1; cases h1
  | some o =>
    rw [ho] at h1
    obtain ⟨e, he, hb⟩ := Array.any_eq_true'.1 h1
    simp only [Bool.and_eq_true, beq_iff_eq] at hb
    exact ⟨o, rfl, e, he, hb.1, hb.2⟩
theorem wpAnyF_ord {l : List Oper} {deps : List Nat} (hs : Region.noSelect l.toArray = true) (hQ : ∀ c a d v w, Q (.panic c) (Act.put a d v) w → Q (.panic c) a w) : ∀ (s : List (Nat × Nat)) (listed : Array Bool) (C : World → Prop) (a : Act), Stable C → ordF md l.toArray deps s listed = true → wpOrdF P l.toArray Q (pickOpsF l s) C a → wpAnyF P md l.toArray (fun k => deps.contains k) Q s.length listed C a
  | [], listed, C, a, hst, hB, h => ⟨by simpa [ordF] using hB, h⟩
  | (i, 0) :: r, listed, C, a, hst, hB, h => by
    simp only [ordF, Bool.and_eq_true, Bool.not_eq_true'] at hB
    obtain ⟨⟨⟨hf, hr⟩, hd⟩, hB'⟩ := hB
    have hr' : i ∈ Region.ready md l.toArray listed := by simpa using hr
    obtain ⟨_, o, ho, _⟩ := mem_ready.1 hr'
    have ho' : l[i]? = some o := by simpa using ho
    simp only [pickOpsF, ho', wpOrdF] at h
    by_cases hw : Region.wanted o (yielded l.toArray a.tmps) = true
    · rw [if_pos hw] at h
      obtain ⟨v, h1, h2⟩ := h
      exact wpAnyF_first ho (Region.noSelect_spec hs) (fun c a w => hQ c a _ _ w) r.length listed C a hst (Region.free_spec ho hf) hr' (.inl ⟨hw, fun w _ => h1 w⟩) (fun _ => .inl ⟨hw, fun w _ => h1 w⟩) (wpAnyF_ord hs hQ r _ C _ hst hB' h2)
    · rw [if_neg hw] at h
      exact wpAnyF_first ho (Region.noSelect_spec hs) (fun c a w => hQ c a _ _ w) r.length listed C a hst (Region.free_spec ho hf) hr' (.inr ⟨by simpa using hw, rfl⟩) (fun _ => .inr ⟨by simpa using hw, rfl⟩) (wpAnyF_ord hs hQ r _ C _ hst hB' h)
  | (i, 1) :: r, listed, C, a, hst, hB, h => by
    simp only [ordF, Bool.and_eq_true] at hB
    obtain ⟨⟨⟨hf, hr⟩, hd⟩, hB'⟩ := hB
    have hr' : i ∈ Region.ready md l.toArray listed := by simpa using hr
    obtain ⟨_, o, ho, _⟩ := mem_ready.1 hr'
    have ho' : l[i]? = some o := by simpa using ho
    simp only [pickOpsF, ho', wpOrdF] at h
    by_cases hw : Region.wanted o (yielded l.toArray a.tmps) = true
    · rw [if_pos hw] at h
      obtain ⟨v, h1, h2⟩ := h
      exact wpAnyF_first ho (Region.noSelect_spec hs) (fun c a w => hQ c a _ _ w) r.length listed C a hst (Region.free_spec ho hf) hr' (.inl ⟨hw, h1⟩) (fun h => by rw [hd] at h; cases h) (wpAnyF_ord hs hQ r _ C _ hst hB' h2)
    · rw [if_neg hw] at h
      exact wpAnyF_first ho (Region.noSelect_spec hs) (fun c a w => hQ c a _ _ w) r.length listed C a hst (Region.free_spec ho hf) hr' (.inr ⟨by simpa using hw, rfl⟩) (fun h => by rw [hd] at h; cases h) (wpAnyF_ord hs hQ r _ C _ hst hB' h)
  | (i, 2) :: r, listed, C, a, hst, hB, h => by
    simp only [ordF, Bool.and_eq_true, beq_iff_eq] at hB
    obtain ⟨hr, hB'⟩ := hB
    have hr' : i ∈ Region.ready md l.toArray listed := by rw [hr]; simp
    obtain ⟨_, o, ho, _⟩ := mem_ready.1 hr'
    have ho' : l[i]? = some o := by simpa using ho
    simp only [pickOpsF, ho', wpOrdF] at h
    refine ⟨fun h0 => (by rw [h0] at hr'; cases hr'), fun j hj w hw => ?_⟩
    rw [hr] at hj
    obtain rfl : j = i := by simpa using hj
    have hh := h w hw
    unfold wpOp
    simp only [ho]
    split
    · rename_i hwa
      rw [if_pos hwa] at hh
      exact .inl (Oper.wp_mono (fun a' w' ⟨C', k1, k2, k3, k4⟩ => ⟨C', k1, .inl k2, k3, wpAnyF_ord hs hQ r _ C' a' k1 hB' k4⟩) hh)
    · rename_i hwa
      rw [if_neg hwa] at hh
      exact ⟨C, hst, .inl fun _ h => h, hw, wpAnyF_ord hs hQ r _ C _ hst hB' hh⟩
  | (i, n + 3) :: r, listed, C, a, hst, hB, h => by
    simp only [ordF, Bool.and_eq_true, beq_iff_eq] at hB
    obtain ⟨⟨hr, hfe⟩, hB'⟩ := hB
    have hr' : i ∈ Region.ready md l.toArray listed := by rw [hr]; simp
    obtain ⟨_, o, ho, _⟩ := mem_ready.1 hr'
    have ho' : l[i]? = some o := by simpa using ho
    simp only [pickOpsF, ho', wpOrdF] at h
    refine ⟨fun h0 => (by rw [h0] at hr'; cases hr'), fun j hj w hw => ?_⟩
    rw [hr] at hj
    obtain rfl : j = i := by simpa using hj
    have hh := h w hw
    unfold wpOp
    simp only [ho]
    split
    · rename_i hwa
      rw [if_pos hwa] at hh
      exact .inl (Oper.wp_mono (fun a' w' ⟨C', k1, k3, k4⟩ => ⟨C', k1, .inr (fence_of hfe), k3, wpAnyF_ord hs hQ r _ C' a' k1 hB' k4⟩) hh)
    · rename_i hwa
      rw [if_neg hwa] at hh
      exact ⟨C, hst, .inl fun _ h => h, hw, wpAnyF_ord hs hQ r _ C _ hst hB' hh⟩
structure OrdF (P : Program) (ops : Array Oper) (Q : Exit → Act → World → Prop) (l : List (Oper × Nat)) (C : World → Prop) (a : Act) : Prop where
  out : wpOrdF P ops Q l C a
def depsOf (s : List (Nat × Nat)) : List Nat := (s.filter fun p => p.2 == 1).map (·.1)
/-- A region in an order that is written down, with fences. -/
theorem wp_region_ordF {id : Nat} {l : List Oper} {a : Act} {w : World} (s : List (Nat × Nat)) (C : World → Prop) (hst : Stable C) (hm : P.follows .mixedOrders = true)
    (hB : (Region.noSelect l.toArray && ((s.length == l.length) && ordF .any l.toArray (depsOf s) s (Array.replicate l.length false))) = true) (hC : C w.drew) (h : OrdF P l.toArray (NoPanic Q) (pickOpsF l s) C a) : (Code.region id l.toArray true).wp P Q a w := by
  refine wp_region_noPanic ?_
  simp only [Bool.and_eq_true, beq_iff_eq] at hB
  obtain ⟨h1, h2, h3⟩ := hB
  refine wp_region_any hm (wpAnyF_sound (D := fun k => (depsOf s).contains k) _ _ C a _ hC ?_)
  have := wpAnyF_ord (md := .any) (Q := NoPanic Q) h1 (fun _ _ _ _ _ h => h) s _ C a hst h3 h.out
  rw [h2] at this
  simpa using this
theorem ordF_nil {C : World → Prop} {a : Act} (h : ∀ w, In C w → Q .normal a w) : OrdF P ops (NoPanic Q) [] C a := ⟨fun w hw => h w ⟨hw⟩⟩
theorem ordF_free {C : World → Prop} {a : Act} {o : Oper} {r : List (Oper × Nat)} (h : ∀ K : Act → Prop, (∀ a, OrdF P ops Q r C a → K a) → if Region.wanted o (yielded ops a.tmps) = true then ∃ v, (∀ w, calmAt P o a w v) ∧ K (a.put o.dst v) else K (a.put o.dst undef)) : OrdF P ops Q ((o, 0) :: r) C a := by
  have h1 := h _ fun _ h => h
  refine ⟨?_⟩
  unfold wpOrdF
  split
  · rename_i hw
    rw [if_pos hw] at h1
    obtain ⟨v, h2, h3⟩ := h1
    exact ⟨v, h2, h3.out⟩
  · rename_i hw
    rw [if_neg hw] at h1
    exact h1.out
theorem ordF_calm {C : World → Prop} {a : Act} {o : Oper} {r : List (Oper × Nat)} (h : ∀ K : Act → Prop, (∀ a, OrdF P ops Q r C a → K a) → if Region.wanted o (yielded ops a.tmps) = true then ∃ v, (∀ w, In C w → calmAt P o a w v) ∧ K (a.put o.dst v) else K (a.put o.dst undef)) : OrdF P ops Q ((o, 1) :: r) C a := by
  have h1 := h _ fun _ h => h
  refine ⟨?_⟩
  unfold wpOrdF
  split
  · rename_i hw
    rw [if_pos hw] at h1
    obtain ⟨v, h2, h3⟩ := h1
    exact ⟨v, fun w hw => h2 w ⟨hw⟩, h3.out⟩
  · rename_i hw
    rw [if_neg hw] at h1
    exact h1.out
theorem ordF_alone {C : World → Prop} {a : Act} {o : Oper} {r : List (Oper × Nat)} (hwa : Region.wanted o (yielded ops a.tmps) = true)
    (h : ∀ (w : World), In C w → ∀ K : Act → World → Prop, Shut (∀ a' w' (C' : World → Prop), Stable C' → (∀ W, C' W → C W) → C' w' → OrdF P ops Q r C' a' → K a' w') → if Region.wanted o (yielded ops a.tmps) = true then Oper.wp P o a w K Q else K (a.put o.dst undef) w) : OrdF P ops Q ((o, 2) :: r) C a := by
  refine ⟨fun w hw => ?_⟩
  rw [if_pos hwa]
  have := h w ⟨hw⟩ (fun a' w' => ∃ C' : World → Prop, Stable C' ∧ (∀ W, C' W → C W) ∧ C' w' ∧ wpOrdF P ops Q r C' a') (fun a' w' C' k1 k2 k3 k4 => ⟨C', k1, k2, k3, k4.out⟩)
  rwa [if_pos hwa] at this
theorem ordF_fence {C : World → Prop} {a : Act} {o : Oper} {r : List (Oper × Nat)} (hwa : Region.wanted o (yielded ops a.tmps) = true)
    (h : ∀ (w : World), In C w → ∀ K : Act → World → Prop, Shut (∀ a' w' (C' : World → Prop), Stable C' → C' w' → OrdF P ops Q r C' a' → K a' w') → if Region.wanted o (yielded ops a.tmps) = true then Oper.wp P o a w K Q else K (a.put o.dst undef) w) : OrdF P ops Q ((o, 3) :: r) C a := by
  refine ⟨fun w hw => ?_⟩
  rw [if_pos hwa]
  have := h w ⟨hw⟩ (fun a' w' => ∃ C' : World → Prop, Stable C' ∧ C' w' ∧ wpOrdF P ops Q r C' a') (fun a' w' C' k1 k3 k4 => ⟨C', k1, k3, k4.out⟩)
  rwa [if_pos hwa] at this
end
end Go.Proofs.Ytdpkpibcjbllcaa
set_option linter.unusedVariables false
set_option linter.unusedSimpArgs false
/-! News in another order. -/
namespace Go.Proofs.Ytdpkpibcjbllcaa
open Go.RowKit Go.Proofs.YtdpkpibcjbllcaaW.PrintWords
section
variable {P : Program} {ops : Array Oper} {o : Oper} {a : Act} {Q : Exit → Act → World → Prop} {K : Act → World → Prop} {α : Type}
/-- A store into a row of the call's own, as a step of a region. -/
theorem store_step (d : Kd α) {w0 W : World} (base : Nat) (hw : Region.wanted o (yielded ops a.tmps) = true) (hN : o.dst = none) (t : TypeId) (p x : Operand) (ho : o.op = .store t p x) (e : TypeId) {g n cap o' : Nat} (i : Int) (j : Nat) (xs : List α) (x' : α) (u : Value) (seg c : List Value) (ok okp : Nat → Prop)
    (haddr : a.eval p = .pointer (some ⟨g, o', none⟩)) (hoff : o' = i.toNat * d.sz + j) (hx : a.eval x = u) (hu : u.cells.toList = seg) (ht : (P.info? t).map (·.size) = some seg.length) (h1 : ∀ q ∈ seg, q.oneCell' = true)
    (HO : d.R e W base ok (.slice (some ⟨g, 0, none⟩) n cap) xs) (h0 : 0 ≤ i) (hi : i < n) (hcl : c.length = d.sz) (hcc : ∀ j u, c[j]? = some u → W.cell? ⟨g, i.toNat * d.sz + j, none⟩ = some u)
    (hj : j + seg.length ≤ d.sz) (hM : d.M W base okp x' (c.take j ++ seg ++ c.drop (j + seg.length))) (hokp : ∀ k, okp k → ok k ∧ k ≠ g) (HB : Below base w0 W)
    (h : ∀ w1, d.R e w1 base ok (.slice (some ⟨g, 0, none⟩) n cap) (xs.set i.toNat x') → Below base w0 w1 → W.grownBy w1 (some g) → K a w1) : if Region.wanted o (yielded ops a.tmps) = true then Oper.wp P o a W K Q else K (a.put o.dst undef) W := by
  rw [if_pos hw]
  subst hoff
  obtain ⟨hrow, hg⟩ := Kd.R_seg HO i h0 hi hcl hcc hj hM hokp
  have hbg : base ≤ g := Kd.R_base HO g (by simp [Value.ownBlock])
  have hnx : n = xs.length := (Kd.R_reads' HO).1
  obtain ⟨_, inner, hown, hr⟩ := HO
  have hil : i.toNat < n := by omega
  have hB : Below base w0 (W.setCells g (i.toNat * d.sz + j) seg) := HB.trans ⟨hg.os, hg.tape, hg.output, hg.size, fun k hk => by
    rcases Nat.lt_or_ge k W.heap.size with hlt | hge
    · exact hg.block k hlt (fun he => by injection he with he; omega)
    · exact setCells_far seg _ k (by omega)⟩
  have hrun : (Instr.storeAt t (.pointer (some ⟨g, i.toNat * d.sz + j, none⟩)) u).run P W = .ok () (W.setCells g (i.toNat * d.sz + j) seg) := by
    rcases hown.2 with ⟨hv, _⟩ | ⟨g', cap', cur, hv, hb, hh, hnc, hcm, hcs, _⟩
    · cases hv
    injection hv with ha _ hc
    injection ha with ha
    injection ha with hg'
    subst hg'; subst hc
    refine run_store_run t u seg hh hu ht ?_ h1
    have h2 : i.toNat * d.sz + d.sz ≤ n * d.sz := by rw [← Nat.succ_mul]; exact Nat.mul_le_mul_right _ hil
    have h3 : n * d.sz ≤ cap * d.sz := Nat.mul_le_mul_right _ (by omega)
    omega
  unfold Oper.wp execOp
  simp only [ho, haddr, hx, Sem.run_bind, Sem.run_pure, Result.andThen_ok, hrun]
  show K (a.put o.dst undef) _
  rw [hN]
  exact h _ hrow hB hg
end
/-- A list of bytes that is read. -/
def BytesRow (w : World) (A : Option Addr) (n : Nat) (l : List Int) : Prop := Kd.C (Kd.int .u8) w A n l ∧ ∀ x ∈ l, 0 ≤ x ∧ x < 256
theorem byte_at {w : World} {A : Option Addr} {n : Nat} {l : List Int} (h : BytesRow w A n l) (k : Nat) (hk : k < n) :
    ∃ (x : Nat) (ad : Addr), x < 256 ∧ A = some ad ∧ w.cell? (ad.add k) = some (.int .u8 x) := by
  obtain ⟨x, c, ad, h1, h2, h3, h4, h5, h6⟩ := row_at h.1 k hk
  have hc : c = [.int .u8 x] := h5
  subst hc
  have h7 := h6 0 _ rfl
  simp only [show (Kd.int .u8).sz = 1 from rfl, Nat.mul_one, Nat.add_zero] at h7
  have hx := h.2 x (List.mem_of_getElem? h3)
  exact ⟨x.toNat, ad, by omega, h4, by rw [h7, show (x.toNat : Int) = x by omega]⟩
theorem BytesRow.later {w wr : World} {A : Option Addr} {n : Nat} {l : List Int} (h : BytesRow w A n l) (hB : Below w.heap.size w wr) : BytesRow wr A n l := ⟨Kd.C_below h.1 hB, h.2⟩
theorem tmod_nat (a b : Nat) : (a : Int).tmod (b : Int) = ((a % b : Nat) : Int) := by
  rw [Int.tmod_eq_emod_of_nonneg (by omega)]
  exact (Int.natCast_emod a b).symm
theorem swap_perm {α : Type} (xs : List α) (a b : Nat) (x y : α) (ha : xs[a]? = some x) (hb : xs[b]? = some y) : ((xs.set a y).set b x).Perm xs := by
  have hal := (List.getElem?_eq_some_iff.1 ha).1
  have hbl := (List.getElem?_eq_some_iff.1 hb).1
  by_cases e : a = b
  · subst e
    rw [ha] at hb
    obtain rfl := Option.some.inj hb
    rw [List.set_set]
    have : xs.set a x = xs := by
      apply List.ext_getElem?
      intro i
      rw [List.getElem?_set]
      split
      · rename_i h; subst h; exact ha.symm
      · rfl
    rw [this]
  · classical
    refine List.perm_iff_count.2 fun z => ?_
    have hx : xs[a] = x := (List.getElem?_eq_some_iff.1 ha).2
    have hy : xs[b] = y := (List.getElem?_eq_some_iff.1 hb).2
    rw [List.count_set (by rw [List.length_set]; exact hbl), List.count_set hal]
    rw [List.getElem_set_ne e, hx, hy]
    have c1 : (if (x == z) = true then 1 else 0) ≤ xs.count z := by
      by_cases hz : x = z
      · subst hz
        have : 0 < xs.count x := List.count_pos_iff.2 (hx ▸ List.getElem_mem hal)
        rw [if_pos (by simp)]
        omega
      · rw [if_neg (by simpa using hz)]
        omega
    generalize (if (x == z) = true then 1 else 0) = X at *
    generalize (if (y == z) = true then 1 else 0) = Y at *
    omega
abbrev LY (W1 W : World) (g a b : Nat) (x y : News) : Prop := (W.cell? ⟨g, a * 7, none⟩ = some (.int .i64 x.do_) ∧ W.cell? ⟨g, a * 7 + 1, none⟩ = some (.int .i64 x.src) ∧ W.cell? ⟨g, a * 7 + 2, none⟩ = some (.int .i64 x.id) ∧ W.cell? ⟨g, a * 7 + 3, none⟩ = some (.int .i64 x.ver) ∧ W.cell? ⟨g, a * 7 + 4, none⟩ = some (.int .i64 x.body.at_) ∧ W.cell? ⟨g, a * 7 + 5, none⟩ = some (.int .i64 x.body.key) ∧ W.cell? ⟨g, a * 7 + 6, none⟩ = some (.int .i64 x.body.val)) ∧
  (W.cell? ⟨g, b * 7, none⟩ = some (.int .i64 y.do_) ∧ W.cell? ⟨g, b * 7 + 1, none⟩ = some (.int .i64 y.src) ∧ W.cell? ⟨g, b * 7 + 2, none⟩ = some (.int .i64 y.id) ∧ W.cell? ⟨g, b * 7 + 3, none⟩ = some (.int .i64 y.ver) ∧ W.cell? ⟨g, b * 7 + 4, none⟩ = some (.int .i64 y.body.at_) ∧ W.cell? ⟨g, b * 7 + 5, none⟩ = some (.int .i64 y.body.key) ∧ W.cell? ⟨g, b * 7 + 6, none⟩ = some (.int .i64 y.body.val)) ∧ Below W1.heap.size W1 W
theorem LY.step {W1 W W' : World} {g a b : Nat} {x y : News} (h : LY W1 W g a b x y) (hb : Below W.heap.size W W') : LY W1 W' g a b x y := by
  obtain ⟨⟨h0, h1, h2, h3, h4, h5, h6⟩, ⟨g0, g1, g2, g3, g4, g5, g6⟩, h9⟩ := h
  exact ⟨⟨cell_laterA hb h0, cell_laterA hb h1, cell_laterA hb h2, cell_laterA hb h3, cell_laterA hb h4, cell_laterA hb h5, cell_laterA hb h6⟩, ⟨cell_laterA hb g0, cell_laterA hb g1, cell_laterA hb g2, cell_laterA hb g3, cell_laterA hb g4, cell_laterA hb g5, cell_laterA hb g6⟩, below_step h9 hb⟩
theorem own_cells7 {e base n c g : Nat} {w : World} {xs : List News} (h : Own kNews e w base (.slice (some ⟨g, 0, none⟩) n c) xs) (k : Nat) (x : News) (hx : xs[k]? = some x) : ∀ j u, [.int .i64 x.do_, .int .i64 x.src, .int .i64 x.id, .int .i64 x.ver, .int .i64 x.body.at_, .int .i64 x.body.key, .int .i64 x.body.val][j]? = some u → w.cell? ⟨g, k * 7 + j, none⟩ = some u := by
  obtain ⟨_, _, hC3⟩ := own_readsS h
  have hkl := (List.getElem?_eq_some_iff.1 hx).1
  obtain ⟨ad, e, hc⟩ := hC3 (by omega)
  obtain rfl : (⟨g, 0, none⟩ : Addr) = ad := Option.some.inj e
  obtain ⟨cc, _, hK, hcc⟩ := hc k x hx
  obtain rfl := kNews_open hK
  intro j u hu
  have := hcc j u hu
  rw [addr0] at this
  exact this
set_option maxRecDepth 100000 in
set_option maxHeartbeats 4000000 in
theorem law_Turned (l : List News) (A : Option Addr) (c : Nat) (bs : List Int) (Bb : Option Addr) (cb : Nat) (w : World) (hr : NewsRow w A l.length l) (hc : l.length ≤ c) (hb : BytesRow w Bb bs.length bs) (hl : l.length ≤ 100) :
    Calls Try.prog 35 #[.slice A l.length c, .slice Bb bs.length cb] w fun e w' => ∃ ys, ys.Perm l ∧ OwnPost kNews 38 w ys e w' := by
  have Hr := Lib.hid hr
  have Hb := Lib.hid hb
  have hbm : bs.length ≤ 9223372036854775807 := hb.1.2.1
  clear hr hb
  go_enter Try.func35, Try.ntmps35
  go_upto_region 2 with (at_builtin; refine Kd.R_append_rows kNews (w0 := w) w.heap.size rfl (.const (.slice none 0 0)) (.tmp 9) 22 38 (.agg #[(.int .i64 0), (.int .i64 0), (.int .i64 0), (.int .i64 0), (.int .i64 0), (.int .i64 0), (.int .i64 0)]) 56 rfl Try.underlying22 info_news rfl (by decide) (by omega) (.slice none 0 0) [] l _ _ _ (fun _ => True) (fun _ => False) rfl rfl ?aO ?aR (fun _ _ h => h) (fun _ h => h.elim) ?aF ?aB ?aS ?aL ?_; (case aO => exact Kd.R_nil _ _ _ _ _); (case aR => exact Hr.out); (case aF => exact (fun _ _ => trivial)); (case aB => exact Below.refl _ _); (case aS => exact Nat.le_refl _); (case aL => (rw [List.length_nil]; omega)); intro v5 w1 ho5 hb1 hg5 hat5; rw [List.nil_append] at ho5)
  obtain ⟨A5, c5, rfl, hc5, hr5⟩ := own_reads' ho5
  have HA : Hid (0 < l.length → ∃ g, A5 = some ⟨g, 0, none⟩) := Lib.hid (fun hp => by
    obtain ⟨g, cap, hv, h1, h2, _⟩ := Kd.R_form ho5 hp
    injection hv with e1
    exact ⟨g, e1⟩)
  have HO5 := Lib.hid ho5
  clear hr5 ho5 hg5 hat5 Hr
  go_wp2
  go_loopw [6] (fun i wr => ∃ (k : Nat) (xs : List News), k ≤ bs.length ∧ k ≤ 100 ∧ i = .int .i64 k ∧ xs.Perm l ∧ Own kNews 38 wr w.heap.size (.slice A5 l.length c5) xs ∧ Below w.heap.size w wr) (fun i _ => 100 - (intOf i).toNat)
  case atStart => exact ⟨0, l, Nat.zero_le _, by omega, rfl, List.Perm.refl _, HO5.out, hb1⟩
  case round =>
    obtain ⟨k, xs, hk, hk100, rfl, hp, hO, hB⟩ := hrel
    have HO := Lib.hid hO
    have Hp := Lib.hid hp
    have hxl := hp.length_eq
    have Hxl := Lib.hid hxl
    clear hO hp hxl
    by_cases hgo : k < bs.length ∧ k < 100 ∧ 0 < l.length
    · obtain ⟨hlt, hlt2, hl0⟩ := hgo
      obtain ⟨g, rfl⟩ := HA.out hl0
      obtain ⟨bt, ad, hbt, rfl, hbc⟩ := byte_at (Hb.out.later hB) k hlt
      have ha0 : (0 : Int) ≤ (k : Int) % (l.length : Int) ∧ (k : Int) % (l.length : Int) < (l.length : Int) := ⟨Int.emod_nonneg _ (by omega), Int.emod_lt_of_pos _ (by omega)⟩
      have hb0 : (0 : Int) ≤ (bt : Int) % (l.length : Int) ∧ (bt : Int) % (l.length : Int) < (l.length : Int) := ⟨Int.emod_nonneg _ (by omega), Int.emod_lt_of_pos _ (by omega)⟩
      have Ha0 := Lib.hid ha0
      have Hb0 := Lib.hid hb0
      clear ha0 hb0
      have zk : (0 : Int) ≤ (k : Int) := by omega
      have zl : (0 : Int) < (l.length : Int) := by omega
      have zb : (0 : Int) ≤ (bt : Int) := by omega
      have z1 : (l.length : Int) ≠ 0 := by omega
      have z2 : ((l.length : Int) == 0) = false := by simpa using z1
      have z4 : l.length ≠ 0 := by omega
      have z5 : ¬ l = [] := fun e => by rw [e] at hl0; simp at hl0
      go_upto_region 5 with (fail)
      go_quiet (fail)
      obtain ⟨h01, h02⟩ := Ha0.out
      obtain ⟨h03, h04⟩ := Hb0.out
      clear Ha0 Hb0
      generalize (k : Int) % (l.length : Int) = za at *
      generalize (bt : Int) % (l.length : Int) = zb' at *
      obtain ⟨a, rfl⟩ : ∃ a : Nat, za = (a : Int) := ⟨za.toNat, by omega⟩
      obtain ⟨b, rfl⟩ : ∃ b : Nat, zb' = (b : Int) := ⟨zb'.toNat, by omega⟩
      have ha : a < l.length := by omega
      have hb : b < l.length := by omega
      obtain ⟨x, hxa⟩ : ∃ x, xs[a]? = some x := ⟨_, List.getElem?_eq_getElem (by rw [Hxl.out]; exact ha)⟩
      obtain ⟨y, hyb⟩ : ∃ y, xs[b]? = some y := ⟨_, List.getElem?_eq_getElem (by rw [Hxl.out]; exact hb)⟩
      have hcx := own_cells7 HO.out a x hxa
      have hcy := own_cells7 HO.out b y hyb
      have Hxa := Lib.hid hxa
      have Hyb := Lib.hid hyb
      have Hperm := Lib.hid (swap_perm xs a b x y hxa hyb)
      have hA : (⟨g, 0, none⟩ : Addr).add (a * 7) = ⟨g, a * 7, none⟩ := addr0 g _
      have hBa : (⟨g, 0, none⟩ : Addr).add (b * 7) = ⟨g, b * 7, none⟩ := addr0 g _
      have ia0 : (0 : Int) ≤ (a : Int) := by omega
      have ia1 : (a : Int) < (l.length : Int) := by omega
      have ib0 : (0 : Int) ≤ (b : Int) := by omega
      have ib1 : (b : Int) < (l.length : Int) := by omega
      have hLY : LY wr wr g a b x y := ⟨⟨hcx 0 _ rfl, hcx 1 _ rfl, hcx 2 _ rfl, hcx 3 _ rfl, hcx 4 _ rfl, hcx 5 _ rfl, hcx 6 _ rfl⟩, ⟨hcy 0 _ rfl, hcy 1 _ rfl, hcy 2 _ rfl, hcy 3 _ rfl, hcy 4 _ rfl, hcy 5 _ rfl, hcy 6 _ rfl⟩, Below.refl _ _⟩
      have HLY := Lib.hid hLY
      have Hcx := Lib.hid hcx
      have Hcy := Lib.hid hcy
      clear hxa hyb hcx hcy hLY hbc
      go_upto_region 6 with (fail)
      refine wp_region_ordF [(0, 0), (1, 0), (2, 0), (3, 0), (4, 0), (5, 0), (6, 0), (7, 1), (8, 0), (9, 0), (10, 0), (11, 1), (12, 0), (13, 3), (14, 0), (15, 3)] (fun W => LY wr W g a b x y) (fun _ _ h hb => LY.step h hb) (by kernel_rfl) (by kernel_rfl) (LY.step HLY.out (by repeat (first | exact Below.refl _ _ | apply below_drew1 | apply pw_below_drewN))) ?_
      simp only [pickOpsF, List.getElem?_cons_succ, List.getElem?_cons_zero]
      repeat (first | (refine ordF_free (fun K hK => ?_); go_simp; first | (refine hK _ ?_; clear hK K) | (apply Exists.intro; refine ⟨fun W => ?_, hK _ ?_⟩; (first | rfl | (go_simp; done) | (go_simp; rfl)); clear hK K)) | (refine ordF_calm (fun K hK => ?_); go_simp; apply Exists.intro; refine ⟨fun W hC => ?_, hK _ ?_⟩; (first | rfl | (obtain ⟨⟨⟨h0, h1, h2, h3, h4, h5, h6⟩, ⟨q0, q1, q2, q3, q4, q5, q6⟩, h9⟩⟩ := hC; go_simp; done) | (obtain ⟨⟨⟨h0, h1, h2, h3, h4, h5, h6⟩, ⟨q0, q1, q2, q3, q4, q5, q6⟩, h9⟩⟩ := hC; go_simp; rfl)); clear hK K))
      refine ordF_fence (by rfl) (fun W hW K hK => ?_)
      have hs7 : kNews.sz = 7 := rfl
      have hW1 := hW.out.2.2
      have hOW := own_later HO.out hW1
      have hBW : Below w.heap.size w W := below_trans hB (below_lower hW1 hB.size)
      have hcW := own_cells7 hOW a x Hxa.out
      refine store_step kNews (w0 := w) w.heap.size (by rfl) (by rfl) 38 (.tmp 50) (.tmp 45) (by rfl) 38 (a : Int) 0 xs y (.agg #[.int .i64 y.do_, .int .i64 y.src, .int .i64 y.id, .int .i64 y.ver, .int .i64 y.body.at_, .int .i64 y.body.key, .int .i64 y.body.val]) [.int .i64 y.do_, .int .i64 y.src, .int .i64 y.id, .int .i64 y.ver, .int .i64 y.body.at_, .int .i64 y.body.key, .int .i64 y.body.val] [.int .i64 x.do_, .int .i64 x.src, .int .i64 x.id, .int .i64 x.ver, .int .i64 x.body.at_, .int .i64 x.body.key, .int .i64 x.body.val] (fun _ => True) (fun _ => False) (by rfl) (by simp [hs7]) (by rfl) rfl (by kernel_rfl) (by simp [Value.oneCell']) hOW ia0 (by omega) rfl (by simpa [hs7] using hcW) (by simp [hs7]) (kNews_mkM _ _ _ y) (fun _ h => h.elim) hBW ?_
      intro w2 ho2 hb2 hg2
      refine hK.out _ _ (fun V => Own kNews 38 V w.heap.size (.slice (some ⟨g, 0, none⟩) l.length c5) (xs.set a y) ∧ Below w.heap.size w V) (fun _ _ h hb => ⟨own_later h.1 hb, below_trans h.2 (below_lower hb h.2.size)⟩) ⟨by simpa using ho2, hb2⟩ ?_
      clear hK hW hW1 hOW hBW hcW ho2 hb2 hg2
      (refine ordF_free (fun K hK => ?_); go_simp; first | (refine hK _ ?_; clear hK K) | (apply Exists.intro; refine ⟨fun W => ?_, hK _ ?_⟩; (first | rfl | (go_simp; done) | (go_simp; rfl)); clear hK K))
      refine ordF_fence (by rfl) (fun W hW K hK => ?_)
      have hz : ∃ z, (xs.set a y)[b]? = some z := ⟨_, List.getElem?_eq_getElem (by rw [List.length_set, Hxl.out]; exact hb)⟩
      obtain ⟨z, hz⟩ := hz
      have hcW := own_cells7 hW.out.1 b z hz
      refine store_step kNews (w0 := w) w.heap.size (by rfl) (by rfl) 38 (.tmp 51) (.tmp 49) (by rfl) 38 (b : Int) 0 (xs.set a y) x (.agg #[.int .i64 x.do_, .int .i64 x.src, .int .i64 x.id, .int .i64 x.ver, .int .i64 x.body.at_, .int .i64 x.body.key, .int .i64 x.body.val]) [.int .i64 x.do_, .int .i64 x.src, .int .i64 x.id, .int .i64 x.ver, .int .i64 x.body.at_, .int .i64 x.body.key, .int .i64 x.body.val] [.int .i64 z.do_, .int .i64 z.src, .int .i64 z.id, .int .i64 z.ver, .int .i64 z.body.at_, .int .i64 z.body.key, .int .i64 z.body.val] (fun _ => True) (fun _ => False) (by rfl) (by simp [hs7]) (by rfl) rfl (by kernel_rfl) (by simp [Value.oneCell']) hW.out.1 ib0 (by omega) rfl (by simpa [hs7] using hcW) (by simp [hs7]) (kNews_mkM _ _ _ x) (fun _ h => h.elim) hW.out.2 ?_
      intro w3 ho3 hb3 hg3
      refine hK.out _ _ (fun V => Own kNews 38 V w.heap.size (.slice (some ⟨g, 0, none⟩) l.length c5) ((xs.set a y).set b x) ∧ Below w.heap.size w V) (fun _ _ h hb => ⟨own_later h.1 hb, below_trans h.2 (below_lower hb h.2.size)⟩) ⟨by simpa using ho3, hb3⟩ ?_
      clear hK hW hcW ho3 hb3 hg3 hz
      refine ordF_nil ?_
      intro W hW
      have HOW := Lib.hid hW.out.1
      have hBW := hW.out.2
      clear hW
      go_wp2
      exact ⟨⟨k + 1, (xs.set a y).set b x, by omega, by omega, by go_num, Hperm.out.trans Hp.out, HOW.out, hBW⟩, by simp [intOf]; omega⟩
    · have hend : ∀ K' : Prop, K' → K' := fun _ h => h
      by_cases hlt : k < bs.length
      · by_cases hlt2 : k < 100
        · obtain rfl : l = [] := List.eq_nil_of_length_eq_zero (by omega)
          clear hgo hend
          go_wp2
          go_ret
          exact ⟨xs, Hp.out, _, rfl, HO.out, hB⟩
        · go_wp2
          go_ret
          exact ⟨xs, Hp.out, _, rfl, HO.out, hB⟩
      · go_wp2
        go_ret
        exact ⟨xs, Hp.out, _, rfl, HO.out, hB⟩
end Go.Proofs.Ytdpkpibcjbllcaa
set_option linter.unusedVariables false
set_option linter.unusedSimpArgs false
/-! A list of bytes that comes in, opened. -/
namespace Go.Proofs.Ytdpkpibcjbllcaa
open Go.RowKit Go.Proofs.YtdpkpibcjbllcaaW.PrintWords Go.ChangeShapes Go.WideShapes Go.Deep
section
variable {H : Type} {enc : TypeId × Value → H} {w : World} {base : Nat} {spare : Nat → Bool} {held : Bool}
theorem cells_u8 : Try.prog.cellsOf 5 = 1 := by kernel_rfl
set_option maxRecDepth 100000 in
theorem open_byte {n : Nat} {cs : List Value} {x : DataW H × List MemPlace} (h : DataW.trod enc Try.prog w base spare held n 5 cs = some x) : ∃ r : Int, cs = [.int .u8 r] ∧ 0 ≤ r ∧ r < 256 := by
  obtain ⟨r, hr, _, hw⟩ := DataW.trod_int Try.underlying5 h
  refine ⟨r, hr, ?_⟩
  simp [Lit.wf] at hw
  have e1 : IntKind.u8.min = 0 := by kernel_rfl
  have e2 : IntKind.u8.max = 255 := by kernel_rfl
  rw [e1, e2] at hw
  omega
set_option maxRecDepth 100000 in
theorem open_bytesrow {n : Nat} {cs : List Value} {x : DataW H × List MemPlace} (h : DataW.trod enc Try.prog w base spare held n 53 cs = some x) :
    ∃ A len cap l, cs = [.slice A len cap] ∧ len ≤ cap ∧ l.length = len ∧ BytesRow w A l.length l := by
  rcases open_slice Try.underlying53 h with ⟨rfl, _⟩ | ⟨a, len, cap, m, n, D, Pl, rfl, hb, hlc, hm, hmm, _, hel⟩
  · exact ⟨none, 0, 0, [], rfl, Nat.le_refl _, rfl, Kd.C_nil _ _, fun x hx => by simp at hx⟩
  · have hlm : len ≤ m := by rw [hmm]; split <;> omega
    have each : ∀ i, i < len → ∃ r : Int, (0 ≤ r ∧ r < 256) ∧ w.cell? (a.add i) = some (.int .u8 r) := by
      intro i hi
      obtain ⟨cs', h1, h2⟩ := hel i (by omega)
      rw [cells_u8] at h1
      obtain ⟨_, hlen, hcell⟩ := World.cells?_some h1
      obtain ⟨r, rfl, hr⟩ := open_byte h2
      refine ⟨r, hr, ?_⟩
      have := hcell 0 (by omega)
      rw [Addr.add_add] at this
      simpa using this
    have hch : ∃ f : Nat → Int, ∀ i, i < len → (0 ≤ f i ∧ f i < 256) ∧ w.cell? (a.add i) = some (.int .u8 (f i)) := by
      refine ⟨fun i => if h : i < len then (each i h).choose else 0, fun i hi => ?_⟩
      simp only [dif_pos hi]
      exact (each i hi).choose_spec
    obtain ⟨f, hfc⟩ := hch
    have hll : ((List.range len).map f).length = len := by simp
    refine ⟨some a, len, cap, (List.range len).map f, rfl, hlc, hll, ⟨rfl, by rw [hll]; simp only [maxLen] at hm; omega, fun _ => ⟨a, rfl, fun j p hj => ?_⟩⟩, fun x hx => ?_⟩
    · have hjl : j < len := by rw [← hll]; exact (List.getElem?_eq_some_iff.1 hj).1
      obtain rfl : f j = p := by simpa [hjl] using hj
      refine ⟨[.int .u8 (f j)], rfl, rfl, fun i u hu => ?_⟩
      have hi : i = 0 := by
        have := (List.getElem?_eq_some_iff.1 hu).1
        simp at this
        exact this
      subst hi
      obtain rfl : Value.int .u8 (f j) = u := by simpa using hu
      have := (hfc j hjl).2
      simpa [show (Kd.int .u8).sz = 1 from rfl] using this
    · obtain ⟨i, hi, rfl⟩ := List.mem_map.1 hx
      exact (hfc i (by simpa using hi)).1
end
end Go.Proofs.Ytdpkpibcjbllcaa
