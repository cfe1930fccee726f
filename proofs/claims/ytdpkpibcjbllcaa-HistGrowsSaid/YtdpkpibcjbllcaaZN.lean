/-
  Texts of one hand, laid together: Ord.
-/
import Derived.Deep.RegionHeld3
import Derived.Below
import Derived.Tactics
import Derived.KernelRfl
set_option linter.unusedVariables false
set_option linter.unusedSimpArgs false
/-! A region that draws its order, walked once in an order that is written down: what is calm in a class of worlds (one value in every world of it; the world is let alone, or a callee makes memory of its own) may be taken at any time; all else only where nothing else can come up; behind it the class may be narrowed. -/
namespace Go.Proofs.Ytdpkpibcjbllcaa
open Go Go.RowKit
section
variable {P : Program} {md : Region.Mode} {ops : Array Oper} {Q : Exit → Act → World → Prop}

/-- A class of worlds that a callee's own memory does not lead out of. -/
def Stable (C : World → Prop) : Prop := ∀ w w', C w → Below w.heap.size w w' → C w'

/-- A world of the class (nothing looks into it till it is opened). -/
structure In (C : World → Prop) (w : World) : Prop where
  out : C w
/-- What is asked of one operation behind its run in the world w: it yields v and lets the world alone, or it is a call that hands v back and only makes memory. -/
def calmUpon (P : Program) (w : World) (v : Value) : Result Next → Prop
  | .ok (.value u) w' => w' = w ∧ u = v
  | .ok .skip w' => w' = w ∧ v = undef
  | .ok (.enter f args) w' => w' = w ∧ Calls P f args w (fun e w'' => e = .returned v ∧ Below w.heap.size w w'')
  | _ => False
def calmAt (P : Program) (o : Oper) (a : Act) (w : World) (v : Value) : Prop := calmUpon P w v ((execOp a.eval o).run P w)
attribute [go_sem] calmAt calmUpon

def YieldsC (P : Program) (ops : Array Oper) (C : World → Prop) (o : Oper) (v : Value) (a : Act) : Prop :=
  (Region.wanted o (yielded ops a.tmps) = true ∧ ∀ w, C w → calmAt P o a w v) ∨ (Region.wanted o (yielded ops a.tmps) = false ∧ v = undef)

theorem YieldsC.same {C : World → Prop} {o : Oper} {v : Value} {a a' : Act} (hy : YieldsC P ops C o v a) (he : execOp a'.eval o = execOp a.eval o) (hw : Region.wanted o (yielded ops a'.tmps) = Region.wanted o (yielded ops a.tmps)) : YieldsC P ops C o v a' := by
  unfold YieldsC calmAt at *
  rw [he, hw]
  exact hy
theorem YieldsC.narrow {C C' : World → Prop} {o : Oper} {v : Value} {a : Act} (hy : YieldsC P ops C o v a) (h : ∀ w, C' w → C w) : YieldsC P ops C' o v a :=
  hy.imp (fun ⟨h1, h2⟩ => ⟨h1, fun w hw => h2 w (h w hw)⟩) id
theorem YieldsC.wpOp {C : World → Prop} {i : Nat} {o : Oper} {v : Value} {a : Act} (hi : ops[i]? = some o) (hst : Stable C) (hy : YieldsC P ops C o v a) {K : Act → World → Prop} {w : World} (hw : C w) (h : ∀ w', C w' → K (a.put o.dst v) w') : wpOp P ops Q i K a w := by
  unfold Go.wpOp
  simp only [hi]
  rcases hy with ⟨h1, h2⟩ | ⟨h1, rfl⟩
  · simp only [h1, if_true]
    left
    have h3 := h2 w hw
    unfold calmAt at h3
    unfold Oper.wp
    generalize (execOp a.eval o).run P w = r at *
    cases r with
    | ok n w' =>
      cases n <;> simp only [calmUpon] at h3 <;> simp only [Oper.upon]
      case value u =>
        obtain ⟨e1, e2⟩ := h3
        rw [e1, e2]
        exact h _ hw
      case skip =>
        obtain ⟨e1, e2⟩ := h3
        rw [e1, ← e2]
        exact h _ hw
      case enter f args =>
        obtain ⟨e1, hc⟩ := h3
        rw [e1]
        exact hc.mono fun e w'' ⟨he, hb⟩ => by subst he; exact h _ (hst _ _ hw hb)
    | halt x w' => simp only [calmUpon] at h3
  · simp only [h1, Bool.false_eq_true, if_false]
    exact h _ hw
/-- What is apart from a calm operation does not see whether that one has been. -/
theorem wpOp_apart {C : World → Prop} {j : Nat} {oi oj : Oper} {v : Value} (hj : ops[j]? = some oj) (hap : oi.apart ops oj = true) (hsi : ∀ cs b, oi.op ≠ .select cs b) (hsj : ∀ cs b, oj.op ≠ .select cs b)
    (hQ : ∀ c a w, Q (.panic c) (a.put oi.dst v) w → Q (.panic c) a w) {K : Act → World → Prop} {a : Act} {w : World} (hy : YieldsC P ops C oi v a) (h : wpOp P ops Q j K (a.put oi.dst v) w) :
    wpOp P ops Q j (fun a' w' => YieldsC P ops C oi v a' ∧ K (a'.put oi.dst v) w') a w := by
  obtain ⟨h1, h2, h3⟩ := Oper.apart_spec hap
  have kp : ∀ u, YieldsC P ops C oi v (a.put oj.dst u) := fun u => hy.same (execOp_put oi hsi a oj.dst u h3) (wanted_put oi a oj.dst u h3)
  have kd : ∀ d u, YieldsC P ops C oi v (Act.put { a with defers := d :: a.defers } oj.dst u) := fun d u =>
    (hy.same (a' := { a with defers := d :: a.defers }) rfl rfl).same (execOp_put oi hsi _ oj.dst u h3) (wanted_put oi _ oj.dst u h3)
  have pc : ∀ (b : Act) (u : Value), (b.put oi.dst v).put oj.dst u = (b.put oj.dst u).put oi.dst v := fun b u => Act.put_comm b v u h2
  unfold wpOp at *
  simp only [hj] at *
  rw [wanted_put oj a oi.dst v h1] at h
  by_cases hw : Region.wanted oj (yielded ops a.tmps) = true
  · simp only [hw, if_true] at h ⊢
    rcases h with h | ⟨hasks, hlets⟩
    · left
      unfold Oper.wp at *
      rw [execOp_put oj hsj a oi.dst v h1] at h
      generalize (execOp a.eval oj).run P w = r at *
      cases r with
      | ok n w' =>
        cases n <;> simp only [Oper.upon] at h ⊢
        case value u => exact ⟨kp u, by rw [← pc]; exact h⟩
        case skip => exact ⟨kp _, by rw [← pc]; exact h⟩
        case defer d =>
          refine ⟨kd d _, ?_⟩
          rw [← pc, ← Act.put_defers]
          exact h
        case enter f args =>
          refine Calls.mono h fun e w'' he => ?_
          cases e with
          | returned u => exact ⟨kp u, by rw [← pc]; exact he⟩
          | panicked c => exact hQ _ _ _ he
          | outgrown => exact he
        case row row args => exact Rows.mono h fun u w'' he => ⟨kp u, by rw [← pc]; exact he⟩
      | halt x w' =>
        cases x <;> simp only [Oper.upon] at h ⊢
        case panic u => exact hQ _ _ _ h
    · exact .inr ⟨by unfold Oper.asks at *; rw [execOp_put oj hsj a oi.dst v h1] at hasks; exact hasks, hlets⟩
  · simp only [hw] at h ⊢
    exact ⟨kp _, by rw [← pc]; exact h⟩

/-- Whatever order is picked from here on, from every world of the class. -/
def wpAnyX (P : Program) (md : Region.Mode) (ops : Array Oper) (Q : Exit → Act → World → Prop) : Nat → Array Bool → (World → Prop) → Act → Prop
  | 0, listed, C, a => Region.ready md ops listed = [] ∧ ∀ w, C w → Q .normal a w
  | f + 1, listed, C, a => (Region.ready md ops listed = [] → ∀ w, C w → Q .normal a w) ∧
    ∀ i ∈ Region.ready md ops listed, ∀ w, C w → wpOp P ops Q i (fun a' w' => ∃ C' : World → Prop, Stable C' ∧ (∀ W, C' W → C W) ∧ C' w' ∧ wpAnyX P md ops Q f (listed.setIfInBounds i true) C' a') a w
theorem wpAnyX_sound : ∀ (f : Nat) (listed : Array Bool) (C : World → Prop) (a : Act) (w : World), C w → wpAnyX P md ops Q f listed C a → wpAny P md ops Q f listed a w
  | 0, _, _, _, w, hw, h => ⟨h.1, h.2 w hw⟩
  | f + 1, _, _, _, w, hw, h => ⟨fun h0 => h.1 h0 w hw, fun i hi => wpOp_mono (fun a' w' ⟨C', _, _, h3, h4⟩ => wpAnyX_sound f _ C' a' w' h3 h4) (h.2 i hi w hw)⟩
theorem wpAnyX_first {i : Nat} {oi : Oper} {v : Value} (hi : ops[i]? = some oi) (hsel : ∀ (j : Nat) (o : Oper) cs b, ops[j]? = some o → o.op ≠ .select cs b) (hQ : ∀ c a w, Q (.panic c) (a.put oi.dst v) w → Q (.panic c) a w) :
    ∀ (f : Nat) (listed : Array Bool) (C : World → Prop) (a : Act), Stable C →
      (∀ j oj, ops[j]? = some oj → j ≠ i → listed.getD j true = false → (∀ e ∈ oj.after, Region.binds md e = true → e.on ≠ i) → oi.apart ops oj = true) →
      i ∈ Region.ready md ops listed → YieldsC P ops C oi v a → wpAnyX P md ops Q f (listed.setIfInBounds i true) C (a.put oi.dst v) → wpAnyX P md ops Q (f + 1) listed C a
  | 0, listed, C, a, hst, hfree, hr, hy, H => by
    refine ⟨fun h => (by rw [h] at hr; cases hr), fun j hj w hw => ?_⟩
    by_cases hji : j = i
    · subst hji
      exact hy.wpOp hi hst hw fun w' hw' => ⟨C, hst, fun _ h => h, hw', H⟩
    · have := ready_mono hj hji
      rw [H.1] at this
      cases this
  | f + 1, listed, C, a, hst, hfree, hr, hy, H => by
    refine ⟨fun h => (by rw [h] at hr; cases hr), fun j hj w hw => ?_⟩
    by_cases hji : j = i
    · subst hji
      exact hy.wpOp hi hst hw fun w' hw' => ⟨C, hst, fun _ h => h, hw', H⟩
    · have h1 := H.2 j (ready_mono hj hji) w hw
      obtain ⟨hjun, oj, hoj, hall⟩ := mem_ready.1 hj
      have hnot : ∀ e ∈ oj.after, Region.binds md e = true → e.on ≠ i := fun e he hb heq => by
        have h2 := hall e he hb
        have h0 := (mem_ready.1 hr).1
        rw [heq] at h2
        rcases Nat.lt_or_ge i listed.size with h' | h'
        · simp [h'] at h0 h2; rw [h0] at h2; cases h2
        · simp [Array.getElem?_eq_none h'] at h2
      have h2 := wpOp_apart hoj (hfree j oj hoj hji hjun hnot) (fun cs b => hsel i oi cs b hi) (fun cs b => hsel j oj cs b hoj) hQ hy h1
      have hfree' : ∀ k ok, ops[k]? = some ok → k ≠ i → (listed.setIfInBounds j true).getD k true = false → (∀ e ∈ ok.after, Region.binds md e = true → e.on ≠ i) → oi.apart ops ok = true := fun k ok hk hki hun hno => by
        refine hfree k ok hk hki ?_ hno
        by_cases hjk : j = k
        · subst hjk; exact hjun
        · rw [getD_set_ne true hjk] at hun; exact hun
      refine wpOp_mono (fun a' w' h3 => ?_) h2
      obtain ⟨hy', C', k1, k2, k3, k4⟩ := h3
      refine ⟨C', k1, k2, k3, wpAnyX_first hi hsel hQ f (listed.setIfInBounds j true) C' a' k1 hfree' (ready_mono hr (Ne.symm hji)) (hy'.narrow k2) ?_⟩
      rw [Array.setIfInBounds_comm _ _ hji]
      exact k4

/-- The order that is written down: number, operation, calm or alone. -/
def wpOrd (P : Program) (ops : Array Oper) (Q : Exit → Act → World → Prop) : List (Oper × Bool) → (World → Prop) → Act → Prop
  | [], C, a => ∀ w, C w → Q .normal a w
  | (o, true) :: r, C, a => if Region.wanted o (yielded ops a.tmps) = true then ∃ v, (∀ w, C w → calmAt P o a w v) ∧ wpOrd P ops Q r C (a.put o.dst v) else wpOrd P ops Q r C (a.put o.dst undef)
  | (o, false) :: r, C, a => ∀ w, C w → if Region.wanted o (yielded ops a.tmps) = true then Oper.wp P o a w (fun a' w' => ∃ C' : World → Prop, Stable C' ∧ (∀ W, C' W → C W) ∧ C' w' ∧ wpOrd P ops Q r C' a') Q else wpOrd P ops Q r C (a.put o.dst undef)
def ordB (md : Region.Mode) (ops : Array Oper) : List (Nat × Bool) → Array Bool → Bool
  | [], listed => (Region.ready md ops listed).isEmpty
  | (i, true) :: r, listed => Region.free md ops listed i && (Region.ready md ops listed).contains i && ordB md ops r (listed.setIfInBounds i true)
  | (i, false) :: r, listed => (Region.ready md ops listed == [i]) && ordB md ops r (listed.setIfInBounds i true)
def pickOps (l : List Oper) : List (Nat × Bool) → List (Oper × Bool)
  | [] => []
  | (i, b) :: r => match l[i]? with | some o => (o, b) :: pickOps l r | none => []
theorem wpAnyX_ord {l : List Oper} (hs : Region.noSelect l.toArray = true) (hQ : ∀ c a d v w, Q (.panic c) (Act.put a d v) w → Q (.panic c) a w) : ∀ (s : List (Nat × Bool)) (listed : Array Bool) (C : World → Prop) (a : Act), Stable C → ordB md l.toArray s listed = true → wpOrd P l.toArray Q (pickOps l s) C a → wpAnyX P md l.toArray Q s.length listed C a
  | [], listed, C, a, hst, hB, h => ⟨by simpa [ordB] using hB, h⟩
  | (i, b) :: r, listed, C, a, hst, hB, h => by
    cases b with
    | true =>
      simp only [ordB, Bool.and_eq_true] at hB
      obtain ⟨⟨hf, hr⟩, hB'⟩ := hB
      have hr' : i ∈ Region.ready md l.toArray listed := by simpa using hr
      obtain ⟨_, o, ho, _⟩ := mem_ready.1 hr'
      have ho' : l[i]? = some o := by simpa using ho
      simp only [pickOps, ho', wpOrd] at h
      by_cases hw : Region.wanted o (yielded l.toArray a.tmps) = true
      · rw [if_pos hw] at h
        obtain ⟨v, h1, h2⟩ := h
        exact wpAnyX_first ho (Region.noSelect_spec hs) (fun c a w => hQ c a _ _ w) r.length listed C a hst (Region.free_spec ho hf) hr' (.inl ⟨hw, h1⟩) (wpAnyX_ord hs hQ r _ C _ hst hB' h2)
      · rw [if_neg hw] at h
        exact wpAnyX_first ho (Region.noSelect_spec hs) (fun c a w => hQ c a _ _ w) r.length listed C a hst (Region.free_spec ho hf) hr' (.inr ⟨by simpa using hw, rfl⟩) (wpAnyX_ord hs hQ r _ C _ hst hB' h)
    | false =>
      simp only [ordB, Bool.and_eq_true, beq_iff_eq] at hB
      obtain ⟨hr, hB'⟩ := hB
      have hr' : i ∈ Region.ready md l.toArray listed := by rw [hr]; simp
      obtain ⟨_, o, ho, _⟩ := mem_ready.1 hr'
      have ho' : l[i]? = some o := by simpa using ho
      simp only [pickOps, ho', wpOrd] at h
      refine ⟨fun h0 => (by rw [h0] at hr'; cases hr'), fun j hj w hw => ?_⟩
      rw [hr] at hj
      obtain rfl : j = i := by simpa using hj
      have hh := h w hw
      unfold wpOp
      simp only [ho]
      split
      · rename_i hwa
        rw [if_pos hwa] at hh
        exact .inl (Oper.wp_mono (fun a' w' ⟨C', k1, k2, k3, k4⟩ => ⟨C', k1, k2, k3, wpAnyX_ord hs hQ r _ C' a' k1 hB' k4⟩) hh)
      · rename_i hwa
        rw [if_neg hwa] at hh
        exact ⟨C, hst, fun _ h => h, hw, wpAnyX_ord hs hQ r _ C _ hst hB' hh⟩
/-- The walk that is left, shut: nothing unfolds it. -/
structure Ord (P : Program) (ops : Array Oper) (Q : Exit → Act → World → Prop) (l : List (Oper × Bool)) (C : World → Prop) (a : Act) : Prop where
  out : wpOrd P ops Q l C a
/-- A region in an order that is written down ('hB': by the kernel). -/
theorem wp_region_ord {id : Nat} {l : List Oper} {a : Act} {w : World} (s : List (Nat × Bool)) (C : World → Prop) (hst : Stable C) (hm : P.follows .mixedOrders = true)
    (hB : (Region.noSelect l.toArray && ((s.length == l.length) && ordB .any l.toArray s (Array.replicate l.length false))) = true) (hC : C w.drew) (h : Ord P l.toArray (NoPanic Q) (pickOps l s) C a) : (Code.region id l.toArray true).wp P Q a w := by
  refine wp_region_noPanic ?_
  simp only [Bool.and_eq_true, beq_iff_eq] at hB
  obtain ⟨h1, h2, h3⟩ := hB
  refine wp_region_any hm (wpAnyX_sound _ _ C a _ hC ?_)
  have := wpAnyX_ord (md := .any) (Q := NoPanic Q) h1 (fun _ _ _ _ _ h => h) s _ C a hst h3 h.out
  rw [h2] at this
  simpa using this
theorem ord_nil {C : World → Prop} {a : Act} (h : ∀ w, In C w → Q .normal a w) : Ord P ops (NoPanic Q) [] C a := ⟨fun w hw => h w ⟨hw⟩⟩
/-- One calm operation. -/
theorem ord_calm {C : World → Prop} {a : Act} {o : Oper} {r : List (Oper × Bool)} (h : ∀ K : Act → Prop, (∀ a, Ord P ops Q r C a → K a) → if Region.wanted o (yielded ops a.tmps) = true then ∃ v, (∀ w, In C w → calmAt P o a w v) ∧ K (a.put o.dst v) else K (a.put o.dst undef)) : Ord P ops Q ((o, true) :: r) C a := by
  have h1 := h _ fun _ h => h
  refine ⟨?_⟩
  unfold wpOrd
  split
  · rename_i hw
    rw [if_pos hw] at h1
    obtain ⟨v, h2, h3⟩ := h1
    exact ⟨v, fun w hw => h2 w ⟨hw⟩, h3.out⟩
  · rename_i hw
    rw [if_neg hw] at h1
    exact h1.out
/-- One that comes up alone. -/
theorem ord_alone {C : World → Prop} {a : Act} {o : Oper} {r : List (Oper × Bool)} (hwa : Region.wanted o (yielded ops a.tmps) = true)
    (h : ∀ (w : World), In C w → ∀ K : Act → World → Prop, Shut (∀ a' w' (C' : World → Prop), Stable C' → (∀ W, C' W → C W) → C' w' → Ord P ops Q r C' a' → K a' w') → if Region.wanted o (yielded ops a.tmps) = true then Oper.wp P o a w K Q else K (a.put o.dst undef) w) : Ord P ops Q ((o, false) :: r) C a := by
  refine ⟨fun w hw => ?_⟩
  rw [if_pos hwa]
  have := h w ⟨hw⟩ (fun a' w' => ∃ C' : World → Prop, Stable C' ∧ (∀ W, C' W → C W) ∧ C' w' ∧ wpOrd P ops Q r C' a') (fun a' w' C' k1 k2 k3 k4 => ⟨C', k1, k2, k3, k4.out⟩)
  rwa [if_pos hwa] at this
end
end Go.Proofs.Ytdpkpibcjbllcaa
