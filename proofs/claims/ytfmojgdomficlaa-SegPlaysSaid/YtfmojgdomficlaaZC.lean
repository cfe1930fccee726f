/-
  Texts of one hand, laid together: Flow.
-/
import Derived.Test.YtfmojgdomficlaaZB
set_option linter.unusedVariables false
set_option linter.unusedSimpArgs false
/-! A region that draws its order, walked once in an order that is written down, with two classes of worlds: C is wide (what is calm in it may be taken at any time, ahead of what changes the state too), D says what is known now. Groups: what makes memory of its own may come up together, in any order. -/
namespace Go.Proofs.Ytfmojgdomficlaa
open Go Go.RowKit
section
variable {P : Program} {md : Region.Mode} {ops : Array Oper} {Q : Exit → Act → World → Prop} {E : Nat → Bool}

/-- What is asked of an operation of a group: its value satisfies V, and it only makes memory. -/
def makesUpon (P : Program) (w : World) (V : Value → World → Prop) : Result Next → Prop
  | .ok (.value u) w' => Below w.heap.size w w' ∧ V u w'
  | .ok (.enter f args) w' => Below w.heap.size w w' ∧ Calls P f args w' (fun e w'' => ∃ u, e = .returned u ∧ Below w.heap.size w' w'' ∧ V u w'')
  | _ => False
def makesAt (P : Program) (o : Oper) (a : Act) (w : World) (V : Value → World → Prop) : Prop := makesUpon P w V ((execOp a.eval o).run P w)
attribute [go_sem] makesAt makesUpon

theorem YieldsC.wpOpD {C D : World → Prop} {i : Nat} {o : Oper} {v : Value} {a : Act} (hi : ops[i]? = some o) (hst : Stable D) (hDC : ∀ w, D w → C w) (hy : YieldsC P ops C o v a) {K : Act → World → Prop} {w : World} (hw : D w) (h : ∀ w', D w' → K (a.put o.dst v) w') : Go.wpOp P ops Q i K a w := by
  unfold Go.wpOp
  simp only [hi]
  rcases hy with ⟨h1, h2⟩ | ⟨h1, rfl⟩
  · simp only [h1, if_true]
    left
    have h3 := h2 w (hDC w hw)
    unfold calmAt at h3
    unfold Oper.wp
    generalize (execOp a.eval o).run P w = r at *
    cases r with
    | ok n w' =>
      cases n <;> simp only [calmUpon] at h3 <;> simp only [Oper.upon]
      case value u =>
        obtain ⟨e1, e2⟩ := h3
        rw [e1, e2]
        exact h _ hw
      case skip =>
        obtain ⟨e1, e2⟩ := h3
        rw [e1, ← e2]
        exact h _ hw
      case enter f args =>
        obtain ⟨e1, hc⟩ := h3
        rw [e1]
        exact hc.mono fun e w'' ⟨he, hb⟩ => by subst he; exact h _ (hst _ _ hw hb)
    | halt x w' => simp only [calmUpon] at h3
  · simp only [h1, Bool.false_eq_true, if_false]
    exact h _ hw

/-- Number j waits, through others, for number k. -/
def anc (md : Region.Mode) (ops : Array Oper) : Nat → Nat → Nat → Bool
  | 0, _, _ => false
  | f + 1, j, k => match ops[j]? with
    | some o => o.after.any fun e => Region.binds md e && (e.on == k || anc md ops f e.on k)
    | none => false
def Down (md : Region.Mode) (ops : Array Oper) (listed : Array Bool) : Prop := ∀ (j : Nat) (o : Oper), ops[j]? = some o → listed.getD j false = true → ∀ e ∈ o.after, Region.binds md e = true → listed.getD e.on false = true
theorem anc_spec {listed : Array Bool} (hd : Down md ops listed) {k : Nat} : ∀ (f j : Nat), anc md ops f j k = true → (∀ o, ops[j]? = some o → ∀ e ∈ o.after, Region.binds md e = true → listed.getD e.on false = true) → listed.getD k false = true
  | 0, _, h, _ => by cases h
  | f + 1, j, h, hl => by
    unfold anc at h
    cases ho : ops[j]? with
    | none => rw [ho] at h; cases h
    | some o =>
      rw [ho] at h
      obtain ⟨e, he, hb⟩ := Array.any_eq_true'.1 h
      simp only [Bool.and_eq_true, Bool.or_eq_true, beq_iff_eq] at hb
      have h1 := hl o ho e he hb.1
      rcases hb.2 with h2 | h2
      · rw [← h2]; exact h1
      · exact anc_spec hd f e.on h2 (fun o' ho' => hd e.on o' ho' h1)
theorem Down.set {listed : Array Bool} (h : Down md ops listed) {i : Nat} (hr : i ∈ Region.ready md ops listed) : Down md ops (listed.setIfInBounds i true) := fun j o ho hj e he hb => by
  by_cases hji : i = j
  · subst hji
    obtain ⟨_, o', ho', hall⟩ := mem_ready.1 hr
    rw [ho] at ho'
    cases ho'
    exact getD_set_true (hall e he hb)
  · rw [getD_set_ne false hji] at hj
    exact getD_set_true (h j o ho hj e he hb)
/-- Number j waits for all that were taken under a class (E). -/
def FenceE (md : Region.Mode) (ops : Array Oper) (E : Nat → Bool) (j : Nat) (listed : Array Bool) : Prop :=
  ∀ k, E k = true → listed.getD k false = true → ∃ f, anc md ops f j k = true
def AllW : World → Prop := fun _ => True
theorem wpOp_apartG {Y : Act → Prop} {j : Nat} {oi oj : Oper} {v : Value} (hj : ops[j]? = some oj) (hap : oi.apart ops oj = true) (hsi : ∀ cs b, oi.op ≠ .select cs b) (hsj : ∀ cs b, oj.op ≠ .select cs b)
    (hQ : ∀ c a w, Q (.panic c) (a.put oi.dst v) w → Q (.panic c) a w) (hY : ∀ a a', execOp a'.eval oi = execOp a.eval oi → Region.wanted oi (yielded ops a'.tmps) = Region.wanted oi (yielded ops a.tmps) → Y a → Y a')
    {K : Act → World → Prop} {a : Act} {w : World} (hy : Y a) (h : wpOp P ops Q j K (a.put oi.dst v) w) : wpOp P ops Q j (fun a' w' => Y a' ∧ K (a'.put oi.dst v) w') a w := by
  obtain ⟨h1, h2, h3⟩ := Oper.apart_spec hap
  have kp : ∀ u, Y (a.put oj.dst u) := fun u => hY _ _ (execOp_put oi hsi a oj.dst u h3) (wanted_put oi a oj.dst u h3) hy
  have kd : ∀ d u, Y (Act.put { a with defers := d :: a.defers } oj.dst u) := fun d u =>
    hY _ _ (execOp_put oi hsi { a with defers := d :: a.defers } oj.dst u h3) (wanted_put oi { a with defers := d :: a.defers } oj.dst u h3) (hY a { a with defers := d :: a.defers } rfl rfl hy)
  have pc : ∀ (b : Act) (u : Value), (b.put oi.dst v).put oj.dst u = (b.put oj.dst u).put oi.dst v := fun b u => Act.put_comm b v u h2
  unfold wpOp at *
  simp only [hj] at *
  rw [wanted_put oj a oi.dst v h1] at h
  by_cases hw : Region.wanted oj (yielded ops a.tmps) = true
  · simp only [hw, if_true] at h ⊢
    rcases h with h | ⟨hasks, hlets⟩
    · left
      unfold Oper.wp at *
      rw [execOp_put oj hsj a oi.dst v h1] at h
      generalize (execOp a.eval oj).run P w = r at *
      cases r with
      | ok n w' =>
        cases n <;> simp only [Oper.upon] at h ⊢
        case value u => exact ⟨kp u, by rw [← pc]; exact h⟩
        case skip => exact ⟨kp _, by rw [← pc]; exact h⟩
        case defer d =>
          refine ⟨kd d _, ?_⟩
          rw [← pc, ← Act.put_defers]
          exact h
        case enter f args =>
          refine Calls.mono h fun e w'' he => ?_
          cases e with
          | returned u => exact ⟨kp u, by rw [← pc]; exact he⟩
          | panicked c => exact hQ _ _ _ he
          | outgrown => exact he
        case row row args => exact Rows.mono h fun u w'' he => ⟨kp u, by rw [← pc]; exact he⟩
      | halt x w' =>
        cases x <;> simp only [Oper.upon] at h ⊢
        case panic u => exact hQ _ _ _ h
    · exact .inr ⟨by unfold Oper.asks at *; rw [execOp_put oj hsj a oi.dst v h1] at hasks; exact hasks, hlets⟩
  · simp only [hw] at h ⊢
    exact ⟨kp _, by rw [← pc]; exact h⟩
def wpAnyY (P : Program) (md : Region.Mode) (ops : Array Oper) (E : Nat → Bool) (Q : Exit → Act → World → Prop) : Nat → Array Bool → (World → Prop) → (World → Prop) → Act → Prop
  | 0, listed, C, D, a => Region.ready md ops listed = [] ∧ ∀ w, D w → Q .normal a w
  | f + 1, listed, C, D, a => (Region.ready md ops listed = [] → ∀ w, D w → Q .normal a w) ∧
    ∀ i ∈ Region.ready md ops listed, ∀ w, D w → wpOp P ops Q i (fun a' w' => ∃ C' D' : World → Prop, Stable D' ∧ ((∀ W, C' W → C W) ∨ FenceE md ops E i listed) ∧ (∀ W, D' W → C' W) ∧ D' w' ∧ wpAnyY P md ops E Q f (listed.setIfInBounds i true) C' D' a') a w
theorem wpAnyY_sound : ∀ (f : Nat) (listed : Array Bool) (C D : World → Prop) (a : Act) (w : World), D w → wpAnyY P md ops E Q f listed C D a → wpAny P md ops Q f listed a w
  | 0, _, _, _, _, w, hw, h => ⟨h.1, h.2 w hw⟩
  | f + 1, _, _, _, _, w, hw, h => ⟨fun h0 => h.1 h0 w hw, fun i hi => wpOp_mono (fun a' w' ⟨C', D', _, _, _, h3, h4⟩ => wpAnyY_sound f _ C' D' a' w' h3 h4) (h.2 i hi w hw)⟩
theorem wpAnyY_first {i : Nat} {oi : Oper} {v : Value} (hi : ops[i]? = some oi) (hsel : ∀ (j : Nat) (o : Oper) cs b, ops[j]? = some o → o.op ≠ .select cs b) (hQ : ∀ c a w, Q (.panic c) (a.put oi.dst v) w → Q (.panic c) a w) :
    ∀ (f : Nat) (listed : Array Bool) (C D : World → Prop) (a : Act), Stable D → (∀ W, D W → C W) →
      (∀ j oj, ops[j]? = some oj → j ≠ i → listed.getD j true = false → (∀ e ∈ oj.after, Region.binds md e = true → e.on ≠ i) → oi.apart ops oj = true) →
      i ∈ Region.ready md ops listed → Down md ops listed → YieldsC P ops C oi v a → (E i = false → YieldsC P ops AllW oi v a) → wpAnyY P md ops E Q f (listed.setIfInBounds i true) C D (a.put oi.dst v) → wpAnyY P md ops E Q (f + 1) listed C D a
  | 0, listed, C, D, a, hst, hDC, hfree, hr, hdn, hy, hyw, H => by
    refine ⟨fun h => (by rw [h] at hr; cases hr), fun j hj w hw => ?_⟩
    by_cases hji : j = i
    · subst hji
      exact hy.wpOpD hi hst hDC hw fun w' hw' => ⟨C, D, hst, .inl fun _ h => h, hDC, hw', H⟩
    · have := ready_mono hj hji
      rw [H.1] at this
      cases this
  | f + 1, listed, C, D, a, hst, hDC, hfree, hr, hdn, hy, hyw, H => by
    refine ⟨fun h => (by rw [h] at hr; cases hr), fun j hj w hw => ?_⟩
    by_cases hji : j = i
    · subst hji
      exact hy.wpOpD hi hst hDC hw fun w' hw' => ⟨C, D, hst, .inl fun _ h => h, hDC, hw', H⟩
    · have h1 := H.2 j (ready_mono hj hji) w hw
      obtain ⟨hjun, oj, hoj, hall⟩ := mem_ready.1 hj
      have h0 := (mem_ready.1 hr).1
      have hil : listed.getD i false = false := by
        rcases Nat.lt_or_ge i listed.size with h' | h'
        · simp [h'] at h0 ⊢; exact h0
        · simp [Array.getElem?_eq_none h']
      have hnot : ∀ e ∈ oj.after, Region.binds md e = true → e.on ≠ i := fun e he hb heq => by
        have h2 := hall e he hb
        rw [heq, hil] at h2
        cases h2
      have h2 := wpOp_apartG (Y := fun a => YieldsC P ops C oi v a ∧ (E i = false → YieldsC P ops AllW oi v a)) hoj (hfree j oj hoj hji hjun hnot) (fun cs b => hsel i oi cs b hi) (fun cs b => hsel j oj cs b hoj) hQ (fun a a' e1 e2 hh => ⟨hh.1.same e1 e2, fun hd => (hh.2 hd).same e1 e2⟩) ⟨hy, hyw⟩ h1
      have hfree' : ∀ k ok, ops[k]? = some ok → k ≠ i → (listed.setIfInBounds j true).getD k true = false → (∀ e ∈ ok.after, Region.binds md e = true → e.on ≠ i) → oi.apart ops ok = true := fun k ok hk hki hun hno => by
        refine hfree k ok hk hki ?_ hno
        by_cases hjk : j = k
        · subst hjk; exact hjun
        · rw [getD_set_ne true hjk] at hun; exact hun
      have hsz : i < listed.size := by
        apply Classical.byContradiction
        intro h'
        rw [Array.getD_eq_getD_getElem?, Array.getElem?_eq_none (by omega)] at h0
        cases h0
      refine wpOp_mono (fun a' w' h3 => ?_) h2
      obtain ⟨⟨hy', hyw'⟩, C', D', k1, k2, k3, k4, k5⟩ := h3
      rw [Array.setIfInBounds_comm _ _ (fun e => hji e.symm)] at k5
      rcases k2 with k2 | k2
      · exact ⟨C', D', k1, .inl k2, k3, k4, wpAnyY_first hi hsel hQ f (listed.setIfInBounds j true) C' D' a' k1 k3 hfree' (ready_mono hr (Ne.symm hji)) (hdn.set hj) (hy'.narrow k2) hyw' k5⟩
      · cases hd : E i
        · exact ⟨C', D', k1, .inr fun k hk hl => k2 k hk (getD_set_true hl), k3, k4, wpAnyY_first hi hsel hQ f (listed.setIfInBounds j true) C' D' a' k1 k3 hfree' (ready_mono hr (Ne.symm hji)) (hdn.set hj) ((hyw' hd).narrow fun _ _ => trivial) hyw' k5⟩
        · obtain ⟨n, hn⟩ := k2 i hd (by simp [hsz])
          have := anc_spec hdn n j hn (fun o ho e he hb => by rw [hoj] at ho; cases ho; exact hall e he hb)
          rw [hil] at this
          cases this

/-! groups -/
def putAll (l : List (Nat × Oper)) (vs : Nat → Value) (a : Act) : Act := l.foldl (fun a p => a.put p.2.dst (vs p.1)) a
def setAll (l : List Nat) (listed : Array Bool) : Array Bool := l.foldl (fun s i => s.setIfInBounds i true) listed
theorem putAll_snoc (l : List (Nat × Oper)) (p : Nat × Oper) (vs : Nat → Value) (a : Act) : putAll (l ++ [p]) vs a = (putAll l vs a).put p.2.dst (vs p.1) := by simp [putAll]
theorem putAll_congr {l : List (Nat × Oper)} {vs vs' : Nat → Value} (h : ∀ p ∈ l, vs p.1 = vs' p.1) (a : Act) : putAll l vs a = putAll l vs' a := by
  induction l generalizing a with
  | nil => rfl
  | cons p l ih =>
    simp only [putAll, List.foldl_cons] at ih ⊢
    rw [h p List.mem_cons_self]
    exact ih (fun q hq => h q (List.mem_cons_of_mem _ hq)) _
theorem putAll_perm {l l' : List (Nat × Oper)} (h : l.Perm l') (vs : Nat → Value) (hd : ∀ p ∈ l, ∀ q ∈ l, p.1 ≠ q.1 → ∀ d, p.2.dst = some d → q.2.dst ≠ some d) (hn : (l.map (·.1)).Nodup) (a : Act) : putAll l vs a = putAll l' vs a := by
  induction h generalizing a with
  | nil => rfl
  | cons p h ih =>
    simp only [putAll, List.foldl_cons]
    exact ih (fun p' hp' q' hq' => hd p' (List.mem_cons_of_mem _ hp') q' (List.mem_cons_of_mem _ hq')) (List.nodup_cons.1 (by simpa using hn)).2 _
  | swap x y l =>
    simp only [putAll, List.foldl_cons]
    have hne : y.1 ≠ x.1 := by
      simp at hn
      exact hn.1.1
    rw [Act.put_comm a _ _ (hd y List.mem_cons_self x (List.mem_cons_of_mem _ List.mem_cons_self) hne)]
  | trans h1 h2 ih1 ih2 =>
    rw [ih1 hd hn, ih2 (fun p hp q hq => hd p (h1.mem_iff.2 hp) q (h1.mem_iff.2 hq)) ((h1.map _).nodup_iff.1 hn)]
theorem setAll_perm {l l' : List Nat} (h : l.Perm l') (listed : Array Bool) : setAll l listed = setAll l' listed := by
  induction h generalizing listed with
  | nil => rfl
  | cons p h ih => exact ih _
  | swap x y l =>
    simp only [setAll, List.foldl_cons]
    by_cases e : x = y
    · rw [e]
    · rw [Array.setIfInBounds_comm _ _ e]
  | trans _ _ ih1 ih2 => rw [ih1, ih2]
theorem setAll_snoc (l : List Nat) (i : Nat) (listed : Array Bool) : setAll (l ++ [i]) listed = (setAll l listed).setIfInBounds i true := by simp [setAll]
theorem ready_setAll {listed : Array Bool} {j : Nat} : ∀ (l : List Nat) (listed : Array Bool), j ∈ Region.ready md ops listed → j ∉ l → j ∈ Region.ready md ops (setAll l listed)
  | [], _, h, _ => h
  | i :: l, listed, h, hn => ready_setAll (listed := listed) l _ (ready_mono h (fun e => hn (by rw [e]; exact List.mem_cons_self))) (fun hm => hn (List.mem_cons_of_mem _ hm))

/-- A property of values that a callee's own memory does not lead out of. -/
def StableV (V : Value → World → Prop) : Prop := ∀ v w w', V v w → Below w.heap.size w w' → V v w'
/-- What the check of a group says. -/
structure GroupOk (md : Region.Mode) (ops : Array Oper) (l : List (Nat × Oper)) (listed : Array Bool) : Prop where
  nodup : (l.map (·.1)).Nodup
  op : ∀ p ∈ l, ops[p.1]? = some p.2
  ready : ∀ p ∈ l, p.1 ∈ Region.ready md ops listed
  last : ∀ p ∈ l, ∀ j ∈ Region.ready md ops (setAll ((l.map (·.1)).filter (· != p.1)) listed), j = p.1
  apart : ∀ p ∈ l, ∀ q ∈ l, p.1 ≠ q.1 → p.2.apart ops q.2 = true
theorem execOp_putAll {o : Oper} (hs : ∀ cs b, o.op ≠ .select cs b) {vs : Nat → Value} : ∀ (l : List (Nat × Oper)) (a : Act), (∀ p ∈ l, ∀ d, p.2.dst = some d → d ∉ o.looksAt ops) → execOp (putAll l vs a).eval o = execOp a.eval o ∧ Region.wanted o (yielded ops (putAll l vs a).tmps) = Region.wanted o (yielded ops a.tmps)
  | [], _, _ => ⟨rfl, rfl⟩
  | p :: l, a, h => by
    obtain ⟨h1, h2⟩ := execOp_putAll hs (vs := vs) l (a.put p.2.dst (vs p.1)) (fun q hq => h q (List.mem_cons_of_mem _ hq))
    exact ⟨h1.trans (execOp_put o hs a _ _ (h p List.mem_cons_self)), h2.trans (wanted_put o a _ _ (h p List.mem_cons_self))⟩
theorem wpAnyY_group {l : List (Nat × Oper)} {listed : Array Bool} (hg : GroupOk md ops l listed) (hsel : ∀ (j : Nat) (o : Oper) cs b, ops[j]? = some o → o.op ≠ .select cs b) {V : Nat → Value → World → Prop} {N : World → Value → Prop} {R : Value → Value → Prop} (hV : ∀ i, StableV (V i)) (hR : ∀ p ∈ l, ∀ v u w, V p.1 v w → N w u → R v u ∧ R u v)
    {C D : World → Prop} (hst : Stable D) (hDC : ∀ W, D W → C W) {a : Act} (hm : ∀ p ∈ l, Region.wanted p.2 (yielded ops a.tmps) = true ∧ ∀ w, D w → makesAt P p.2 a w (fun u w' => V p.1 u w' ∧ N w u)) {f : Nat}
    (hfin : ∀ vs, (∃ w, D w ∧ ∀ p ∈ l, V p.1 (vs p.1) w) → (∀ p ∈ l, ∀ q ∈ l, p.1 ≠ q.1 → R (vs p.1) (vs q.1)) → wpAnyY P md ops E Q f (setAll (l.map (·.1)) listed) C (fun w => D w ∧ ∀ p ∈ l, V p.1 (vs p.1) w) (putAll l vs a)) :
    ∀ (n : Nat) (done rem : List (Nat × Oper)), rem.length = n → (done ++ rem).Perm l → ∀ vs, (∃ w, D w ∧ ∀ p ∈ done, V p.1 (vs p.1) w) → (∀ p ∈ done, ∀ q ∈ done, p.1 ≠ q.1 → R (vs p.1) (vs q.1)) → wpAnyY P md ops E Q (n + f) (setAll (done.map (·.1)) listed) C (fun w => D w ∧ ∀ p ∈ done, V p.1 (vs p.1) w) (putAll done vs a) := by
  intro n
  induction n with
  | zero =>
    intro done rem hr hp vs hex hrr
    obtain rfl : rem = [] := List.eq_nil_of_length_eq_zero hr
    rw [List.append_nil] at hp
    have h := hfin vs (by obtain ⟨w, h1, h2⟩ := hex; exact ⟨w, h1, fun p hp' => h2 p (hp.mem_iff.2 hp')⟩) (fun p hp1 q hq1 hne => hrr p (hp.mem_iff.2 hp1) q (hp.mem_iff.2 hq1) hne)
    rw [← setAll_perm (hp.map (·.1)), ← putAll_perm hp vs (fun p hp' q hq hne d hd => (Oper.apart_spec (hg.apart p (hp.mem_iff.1 hp') q (hp.mem_iff.1 hq) hne)).2.1 d hd) ((hp.map _).nodup_iff.2 hg.nodup)] at h
    rw [show (fun w => D w ∧ ∀ p ∈ done, V p.1 (vs p.1) w) = (fun w => D w ∧ ∀ p ∈ l, V p.1 (vs p.1) w) from funext fun w => propext ⟨fun ⟨h1, h2⟩ => ⟨h1, fun p hp' => h2 p (hp.mem_iff.2 hp')⟩, fun ⟨h1, h2⟩ => ⟨h1, fun p hp' => h2 p (hp.mem_iff.1 hp')⟩⟩]
    rw [Nat.zero_add]
    exact h
  | succ n ih =>
    intro done rem hr hp vs hex hrr
    have hnd : ((done ++ rem).map (·.1)).Nodup := (hp.map _).nodup_iff.2 hg.nodup
    have hne : rem ≠ [] := fun e => by rw [e] at hr; cases hr
    have hdis : ∀ q ∈ rem, ∀ p ∈ done, p.1 ≠ q.1 := fun q hq p hp' e => by
      rw [List.map_append, List.nodup_append] at hnd
      exact hnd.2.2 p.1 (List.mem_map_of_mem hp') q.1 (List.mem_map_of_mem hq) e
    have hsz : n + 1 + f = (n + f) + 1 := by omega
    rw [hsz]
    refine ⟨fun h0 => ?_, fun j hj w hw => ?_⟩
    · obtain ⟨q, hq⟩ := List.exists_mem_of_ne_nil _ hne
      have h1 := ready_setAll (md := md) (ops := ops) (listed := listed) (done.map (·.1)) listed (hg.ready q (hp.mem_iff.1 (List.mem_append_right _ hq))) (fun hm' => by
        obtain ⟨p, hp', e⟩ := List.mem_map.1 hm'
        exact hdis q hq p hp' e)
      rw [h0] at h1
      cases h1
    · -- what comes up is one of the rest
      have hjr : ∃ q ∈ rem, q.1 = j := by
        apply Classical.byContradiction
        intro hno
        obtain ⟨q, hq⟩ := List.exists_mem_of_ne_nil _ hne
        obtain ⟨hjun, oj, hoj, hall⟩ := mem_ready.1 hj
        have hjd : j ∉ done.map (·.1) := fun hm' => by
          have hin : ∀ (l : List Nat) (s : Array Bool), j < s.size → (j ∈ l ∨ s.getD j true = true) → (setAll l s).getD j true = true := by
            intro l
            induction l with
            | nil => intro s hs h; exact h.resolve_left (by simp)
            | cons i l ih' =>
              intro s hs h
              refine ih' (s.setIfInBounds i true) (by simpa using hs) ?_
              by_cases e : i = j
              · subst e; right; simp [hs]
              · rcases h with h | h
                · exact .inl ((List.mem_cons.1 h).resolve_left (Ne.symm e))
                · right; rw [getD_set_ne true e]; exact h
          obtain ⟨p, hp', rfl⟩ := List.mem_map.1 hm'
          have hrp := (mem_ready.1 (hg.ready p (hp.mem_iff.1 (List.mem_append_left _ hp')))).1
          have hlt : p.1 < listed.size := by
            rcases Nat.lt_or_ge p.1 listed.size with h | h
            · exact h
            · simp [Array.getElem?_eq_none h] at hrp
          rw [hin _ _ hlt (.inl hm')] at hjun
          cases hjun
        have hjq : j ≠ q.1 := fun e => hno ⟨q, hq, e.symm⟩
        have h2 := ready_setAll (md := md) (ops := ops) (listed := setAll (done.map (·.1)) listed) ((rem.map (·.1)).filter (· != q.1)) _ hj (fun hm' => by
          obtain ⟨h3, _⟩ := List.mem_filter.1 hm'
          obtain ⟨p, hp', e⟩ := List.mem_map.1 h3
          exact hno ⟨p, hp', e⟩)
        have h4 : setAll ((rem.map (·.1)).filter (· != q.1)) (setAll (done.map (·.1)) listed) = setAll ((l.map (·.1)).filter (· != q.1)) listed := by
          rw [show setAll ((rem.map (·.1)).filter (· != q.1)) (setAll (done.map (·.1)) listed) = setAll (done.map (·.1) ++ (rem.map (·.1)).filter (· != q.1)) listed by simp [setAll]]
          refine setAll_perm ?_ _
          have h5 : (done.map (·.1)).filter (· != q.1) = done.map (·.1) := List.filter_eq_self.2 fun x hx => by
            obtain ⟨p, hp', rfl⟩ := List.mem_map.1 hx
            simpa using hdis q hq p hp'
          rw [← h5, ← List.filter_append, ← List.map_append]
          exact (hp.map _).filter _
        rw [h4] at h2
        exact hjq (hg.last q (hp.mem_iff.1 (List.mem_append_right _ hq)) j h2)
      obtain ⟨q, hq, rfl⟩ := hjr
      have hql : q ∈ l := hp.mem_iff.1 (List.mem_append_right _ hq)
      have hqo := hg.op q hql
      obtain ⟨he, hwn⟩ := execOp_putAll (ops := ops) (o := q.2) (fun cs b => hsel q.1 q.2 cs b hqo) (vs := vs) done a (fun p hp' => (Oper.apart_spec (hg.apart p (hp.mem_iff.1 (List.mem_append_left _ hp')) q hql (hdis q hq p hp'))).1)
      obtain ⟨m1, m2⟩ := hm q hql
      have m3 := m2 w hw.1
      obtain ⟨s, t, hst'⟩ := List.append_of_mem hq
      have hkey : ∀ u w', Below w.heap.size w w' → (V q.1 u w' ∧ N w u) → ∃ C' D' : World → Prop, Stable D' ∧ ((∀ W, C' W → C W) ∨ FenceE md ops E q.1 (setAll (done.map (·.1)) listed)) ∧ (∀ W, D' W → C' W) ∧ D' w' ∧ wpAnyY P md ops E Q (n + f) ((setAll (done.map (·.1)) listed).setIfInBounds q.1 true) C' D' ((putAll done vs a).put q.2.dst u) := by
        intro u w' hb ⟨hu, hnu⟩
        have hvs : ∀ p ∈ done, vs p.1 = (fun k => if k = q.1 then u else vs k) p.1 := fun p hp' => by simp [hdis q hq p hp']
        have hnew : D w' ∧ ∀ p ∈ done ++ [q], V p.1 ((fun k => if k = q.1 then u else vs k) p.1) w' := ⟨hst _ _ hw.1 hb, fun p hp' => by
          rcases List.mem_append.1 hp' with hp' | hp'
          · simp only [if_neg (hdis q hq p hp')]; exact hV _ _ _ _ (hw.2 p hp') hb
          · rw [List.mem_singleton.1 hp']; simpa using hu⟩
        have h6 := ih (done ++ [q]) (s ++ t) (by rw [hst'] at hr; simp at hr ⊢; omega) (by rw [List.append_assoc]; refine .trans (List.Perm.append_left done ?_) hp; rw [hst']; simpa using (List.perm_middle (a := q) (l₁ := s) (l₂ := t)).symm) (fun k => if k = q.1 then u else vs k) ⟨w', hnew⟩ (fun p1 hp1 p2 hp2 hne => by
          rcases List.mem_append.1 hp1 with g1 | g1
          · rcases List.mem_append.1 hp2 with g2 | g2
            · simp only [if_neg (hdis q hq p1 g1), if_neg (hdis q hq p2 g2)]
              exact hrr p1 g1 p2 g2 hne
            · rw [List.mem_singleton.1 g2]
              simp only [if_neg (hdis q hq p1 g1), if_true]
              exact (hR p1 (hp.mem_iff.1 (List.mem_append_left _ g1)) _ _ _ (hw.2 p1 g1) hnu).1
          · rcases List.mem_append.1 hp2 with g2 | g2
            · rw [List.mem_singleton.1 g1]
              simp only [if_neg (hdis q hq p2 g2), if_true]
              exact (hR p2 (hp.mem_iff.1 (List.mem_append_left _ g2)) _ _ _ (hw.2 p2 g2) hnu).2
            · rw [List.mem_singleton.1 g1, List.mem_singleton.1 g2] at hne
              exact absurd rfl hne)
        rw [putAll_snoc, ← putAll_congr hvs, List.map_append, List.map_singleton, setAll_snoc] at h6
        simp only [if_true] at h6
        exact ⟨C, _, fun x x' hx hb' => ⟨hst _ _ hx.1 hb', fun p hp' => hV _ _ _ _ (hx.2 p hp') hb'⟩, .inl fun _ h => h, fun W hW => hDC W hW.1, hnew, h6⟩
      unfold wpOp
      simp only [hqo]
      rw [hwn, m1, if_pos rfl]
      left
      unfold Oper.wp
      rw [he]
      unfold makesAt at m3
      generalize (execOp a.eval q.2).run P w = r at *
      cases r with
      | ok nx w' =>
        cases nx <;> simp only [makesUpon] at m3 <;> simp only [Oper.upon]
        case value u => exact hkey u w' m3.1 m3.2
        case enter fn args =>
          obtain ⟨e1, hc⟩ := m3
          refine hc.mono fun e w'' ⟨u, he', hb, hu⟩ => ?_
          subst he'
          exact hkey u w'' (e1.trans hb) hu
      | halt x w' => simp only [makesUpon] at m3

/-! one that makes memory, at any time while others come up -/
theorem makesAt_put {o : Oper} (hs : ∀ cs b, o.op ≠ .select cs b) {a : Act} {d : Option Tmp} {u : Value} (h : ∀ k, d = some k → k ∉ o.looksAt ops) {w : World} {V : Value → World → Prop} : makesAt P o (a.put d u) w V ↔ makesAt P o a w V := by
  unfold makesAt
  rw [execOp_put o hs a d u h]
theorem makes_step {j : Nat} {oj : Oper} {V : Value → World → Prop} {f : Nat} {listed : Array Bool} {C D : World → Prop} {a : Act} (hj : ops[j]? = some oj) (hst : Stable D) (hDC : ∀ W, D W → C W) (hV : StableV V) (hwn : Region.wanted oj (yielded ops a.tmps) = true) {w : World} (hw : D w) (hm : makesAt P oj a w V)
    (H : ∀ u, (∃ w, D w ∧ V u w) → wpAnyY P md ops E Q f (listed.setIfInBounds j true) C (fun w => D w ∧ V u w) (a.put oj.dst u)) :
    wpOp P ops Q j (fun a' w' => ∃ C' D' : World → Prop, Stable D' ∧ ((∀ W, C' W → C W) ∨ FenceE md ops E j listed) ∧ (∀ W, D' W → C' W) ∧ D' w' ∧ wpAnyY P md ops E Q f (listed.setIfInBounds j true) C' D' a') a w := by
  have hkey : ∀ u w', Below w.heap.size w w' → V u w' → ∃ C' D' : World → Prop, Stable D' ∧ ((∀ W, C' W → C W) ∨ FenceE md ops E j listed) ∧ (∀ W, D' W → C' W) ∧ D' w' ∧ wpAnyY P md ops E Q f (listed.setIfInBounds j true) C' D' (a.put oj.dst u) := fun u w' hb hu =>
    ⟨C, _, fun x x' hx hb' => ⟨hst _ _ hx.1 hb', hV _ _ _ hx.2 hb'⟩, .inl fun _ h => h, fun W hW => hDC W hW.1, ⟨hst _ _ hw hb, hu⟩, H u ⟨w', hst _ _ hw hb, hu⟩⟩
  unfold wpOp
  simp only [hj]
  rw [hwn, if_pos rfl]
  left
  unfold Oper.wp
  unfold makesAt at hm
  generalize (execOp a.eval oj).run P w = r at *
  cases r with
  | ok nx w' =>
    cases nx <;> simp only [makesUpon] at hm <;> simp only [Oper.upon]
    case value u => exact hkey u w' hm.1 hm.2
    case enter fn args =>
      obtain ⟨e1, hc⟩ := hm
      refine hc.mono fun e w'' ⟨u, he', hb, hu⟩ => ?_
      subst he'
      exact hkey u w'' (e1.trans hb) hu
  | halt x w' => simp only [makesUpon] at hm
/-- What may come up while one that makes memory has not. -/
inductive EntF where
  | free (i : Nat)
  | calm (i : Nat)
  | one (i : Nat)
inductive EntFO where
  | free (o : Oper)
  | calm (o : Oper)
  | one (o : Oper)
def EntF.num : EntF → Nat
  | .free i => i
  | .calm i => i
  | .one i => i
def pickF (l : List Oper) : List EntF → List EntFO
  | [] => []
  | .calm i :: r => match l[i]? with | some o => .calm o :: pickF l r | none => []
  | .free i :: r => match l[i]? with | some o => .free o :: pickF l r | none => []
  | .one i :: r => match l[i]? with | some o => .one o :: pickF l r | none => []
def wpFloat (P : Program) (ops : Array Oper) (oi : Oper) (V : Value → World → Prop) (C : World → Prop) (K : (World → Prop) → Act → Prop) : List EntFO → (World → Prop) → Act → Prop
  | [], D, a => ∀ v, (∃ w, D w ∧ V v w) → K (fun w => D w ∧ V v w) (a.put oi.dst v)
  | .calm o :: r, D, a => if Region.wanted o (yielded ops a.tmps) = true then ∃ v, (∀ w, C w → calmAt P o a w v) ∧ wpFloat P ops oi V C K r D (a.put o.dst v) else wpFloat P ops oi V C K r D (a.put o.dst undef)
  | .free o :: r, D, a => if Region.wanted o (yielded ops a.tmps) = true then ∃ v, (∀ w, calmAt P o a w v) ∧ wpFloat P ops oi V C K r D (a.put o.dst v) else wpFloat P ops oi V C K r D (a.put o.dst undef)
  | .one o :: r, D, a => ∃ U : Value → World → Prop, StableV U ∧ Region.wanted o (yielded ops a.tmps) = true ∧ (∀ w, D w → makesAt P o a w U) ∧ ∀ u, (∃ w, D w ∧ U u w) → wpFloat P ops oi V C K r (fun w => D w ∧ U u w) (a.put o.dst u)
def apartB (ops : Array Oper) (k i : Nat) : Bool := k != i && match ops[k]?, ops[i]? with | some x, some y => x.apart ops y | _, _ => false
def floatB (md : Region.Mode) (ops : Array Oper) (deps : List Nat) (i : Nat) : List EntF → Array Bool → Bool
  | [], listed => Region.ready md ops listed == [i]
  | .free k :: r, listed => Region.free md ops listed k && (Region.free md ops (listed.setIfInBounds i true) k && ((Region.ready md ops listed).contains k && (!(deps.contains k) && (apartB ops k i && floatB md ops deps i r (listed.setIfInBounds k true)))))
  | .calm k :: r, listed => Region.free md ops listed k && (Region.free md ops (listed.setIfInBounds i true) k && ((Region.ready md ops listed).contains k && (deps.contains k && (apartB ops k i && floatB md ops deps i r (listed.setIfInBounds k true)))))
  | .one k :: r, listed => (Region.ready md ops listed).all (fun j => j == i || j == k) && ((Region.ready md ops listed).contains k && (Region.ready md ops (listed.setIfInBounds i true) == [k] && (apartB ops k i && floatB md ops deps i r (listed.setIfInBounds k true))))
theorem apartB_spec {k i : Nat} {x y : Oper} (h : apartB ops k i = true) (hk : ops[k]? = some x) (hi : ops[i]? = some y) : k ≠ i ∧ x.apart ops y = true := by
  simp only [apartB, hk, hi, Bool.and_eq_true, bne_iff_ne] at h
  exact h
theorem wpAnyY_float {l : List Oper} {deps : List Nat} (hs : Region.noSelect l.toArray = true) (hQ : ∀ o ∈ l, ∀ c a v w, Q (.panic c) (Act.put a o.dst v) w → Q (.panic c) a w) {i : Nat} {oi : Oper} (hi : l.toArray[i]? = some oi) {V : Value → World → Prop} (hV : StableV V) {f : Nat} {C : World → Prop} {K : (World → Prop) → Act → Prop} :
    ∀ (s : List EntF) (listed : Array Bool) (D : World → Prop) (a : Act), Stable D → (∀ W, D W → C W) → (∃ w, D w) → Down md l.toArray listed → i ∈ Region.ready md l.toArray listed → floatB md l.toArray deps i s listed = true → Region.wanted oi (yielded l.toArray a.tmps) = true → (∀ w, D w → makesAt P oi a w V) →
      (∀ D' a', Stable D' → (∀ W, D' W → C W) → (∃ w, D' w) → Down md l.toArray ((setAll (s.map EntF.num) listed).setIfInBounds i true) → K D' a' → wpAnyY P md l.toArray (fun k => deps.contains k) Q f ((setAll (s.map EntF.num) listed).setIfInBounds i true) C D' a') →
      wpFloat P l.toArray oi V C K (pickF l s) D a →
      wpAnyY P md l.toArray (fun k => deps.contains k) Q (s.length + 1 + f) listed C D a ∧ ∀ v, (∃ w, D w ∧ V v w) → wpAnyY P md l.toArray (fun k => deps.contains k) Q (s.length + f) (listed.setIfInBounds i true) C (fun w => D w ∧ V v w) (a.put oi.dst v)
  | [], listed, D, a, hst, hDC, hne, hdn, hr, hB, hwn, hm, hK, h => by
    have p2 : ∀ v, (∃ w, D w ∧ V v w) → wpAnyY P md l.toArray (fun k => deps.contains k) Q (0 + f) (listed.setIfInBounds i true) C (fun w => D w ∧ V v w) (a.put oi.dst v) := fun v hv => by
      rw [Nat.zero_add]
      exact hK _ _ (fun x x' hx hb => ⟨hst _ _ hx.1 hb, hV _ _ _ hx.2 hb⟩) (fun W hW => hDC W hW.1) hv (hdn.set hr) (h v hv)
    refine ⟨?_, p2⟩
    rw [Nat.zero_add] at p2
    simp only [List.length_nil]
    rw [show 0 + 1 + f = f + 1 by omega]
    refine ⟨fun h0 => (by rw [h0] at hr; cases hr), fun j hj w hw => ?_⟩
    simp only [floatB, beq_iff_eq] at hB
    rw [hB] at hj
    obtain rfl : j = i := by simpa using hj
    exact makes_step hi hst hDC hV hwn hw (hm w hw) p2
  | .calm k :: r, listed, D, a, hst, hDC, hne, hdn, hr, hB, hwn, hm, hK, h => by
    simp only [floatB, Bool.and_eq_true] at hB
    obtain ⟨hf, hf2, hrk, hde, hap, hB'⟩ := hB
    have hrk' : k ∈ Region.ready md l.toArray listed := by simpa using hrk
    obtain ⟨_, o, ho, _⟩ := mem_ready.1 hrk'
    have ho' : l[k]? = some o := by simpa using ho
    obtain ⟨hki, hapo⟩ := apartB_spec hap ho hi
    obtain ⟨a1, a2, a3⟩ := Oper.apart_spec hapo
    have hsel := Region.noSelect_spec hs
    simp only [pickF, ho', wpFloat] at h
    have hdn' := hdn.set hrk'
    have hK' : ∀ D' a', Stable D' → (∀ W, D' W → C W) → (∃ w, D' w) → Down md l.toArray ((setAll (r.map EntF.num) (listed.setIfInBounds k true)).setIfInBounds i true) → K D' a' → wpAnyY P md l.toArray (fun k => deps.contains k) Q f ((setAll (r.map EntF.num) (listed.setIfInBounds k true)).setIfInBounds i true) C D' a' := hK
    have key : ∀ v, YieldsC P l.toArray C o v a → wpFloat P l.toArray oi V C K (pickF l r) D (a.put o.dst v) → wpAnyY P md l.toArray (fun k => deps.contains k) Q (r.length + 1 + 1 + f) listed C D a ∧ ∀ u, (∃ w, D w ∧ V u w) → wpAnyY P md l.toArray (fun k => deps.contains k) Q (r.length + 1 + f) (listed.setIfInBounds i true) C (fun w => D w ∧ V u w) (a.put oi.dst u) := fun v hy hh => by
      obtain ⟨q1, q2⟩ := wpAnyY_float hs hQ hi hV r (listed.setIfInBounds k true) D (a.put o.dst v) hst hDC hne hdn' (ready_mono hr (Ne.symm hki)) hB' (by rw [wanted_put oi a o.dst v a1]; exact hwn) (fun w hw => (makesAt_put (fun cs b => hsel i oi cs b hi) a1).2 (hm w hw)) hK' hh
      refine ⟨?_, fun u hu => ?_⟩
      · have := wpAnyY_first (E := fun k => deps.contains k) ho hsel (fun c a w => hQ o (List.mem_of_getElem? ho') c a _ w) (r.length + 1 + f) listed C D a hst hDC (Region.free_spec ho hf) hrk' hdn hy (fun hd => by rw [hde] at hd; cases hd) q1
        rwa [show r.length + 1 + f + 1 = r.length + 1 + 1 + f by omega] at this
      · have := wpAnyY_first (E := fun k => deps.contains k) (v := v) (a := a.put oi.dst u) (D := fun w => D w ∧ V u w) ho hsel (fun c a w => hQ o (List.mem_of_getElem? ho') c a _ w) (r.length + f) (listed.setIfInBounds i true) C (fun x x' hx hb => ⟨hst _ _ hx.1 hb, hV _ _ _ hx.2 hb⟩) (fun W hW => hDC W hW.1) (Region.free_spec ho hf2) (ready_mono hrk' hki) (hdn.set hr) (hy.same (execOp_put o (fun cs b => hsel k o cs b ho) a oi.dst u a3) (wanted_put o a oi.dst u a3)) (fun hd => by rw [hde] at hd; cases hd) (by
          have := q2 u hu
          rw [Array.setIfInBounds_comm _ _ hki, Act.put_comm a v u a2] at this
          exact this)
        rwa [show r.length + f + 1 = r.length + 1 + f by omega] at this
    by_cases hw : Region.wanted o (yielded l.toArray a.tmps) = true
    · rw [if_pos hw] at h
      obtain ⟨v, h1, h2⟩ := h
      exact key v (.inl ⟨hw, h1⟩) h2
    · rw [if_neg hw] at h
      exact key undef (.inr ⟨by simpa using hw, rfl⟩) h
  | .free k :: r, listed, D, a, hst, hDC, hne, hdn, hr, hB, hwn, hm, hK, h => by
    simp only [floatB, Bool.and_eq_true] at hB
    obtain ⟨hf, hf2, hrk, _, hap, hB'⟩ := hB
    have hrk' : k ∈ Region.ready md l.toArray listed := by simpa using hrk
    obtain ⟨_, o, ho, _⟩ := mem_ready.1 hrk'
    have ho' : l[k]? = some o := by simpa using ho
    obtain ⟨hki, hapo⟩ := apartB_spec hap ho hi
    obtain ⟨a1, a2, a3⟩ := Oper.apart_spec hapo
    have hsel := Region.noSelect_spec hs
    simp only [pickF, ho', wpFloat] at h
    have hdn' := hdn.set hrk'
    have hK' : ∀ D' a', Stable D' → (∀ W, D' W → C W) → (∃ w, D' w) → Down md l.toArray ((setAll (r.map EntF.num) (listed.setIfInBounds k true)).setIfInBounds i true) → K D' a' → wpAnyY P md l.toArray (fun k => deps.contains k) Q f ((setAll (r.map EntF.num) (listed.setIfInBounds k true)).setIfInBounds i true) C D' a' := hK
    have key : ∀ v, YieldsC P l.toArray AllW o v a → wpFloat P l.toArray oi V C K (pickF l r) D (a.put o.dst v) → wpAnyY P md l.toArray (fun k => deps.contains k) Q (r.length + 1 + 1 + f) listed C D a ∧ ∀ u, (∃ w, D w ∧ V u w) → wpAnyY P md l.toArray (fun k => deps.contains k) Q (r.length + 1 + f) (listed.setIfInBounds i true) C (fun w => D w ∧ V u w) (a.put oi.dst u) := fun v hy hh => by
      obtain ⟨q1, q2⟩ := wpAnyY_float hs hQ hi hV r (listed.setIfInBounds k true) D (a.put o.dst v) hst hDC hne hdn' (ready_mono hr (Ne.symm hki)) hB' (by rw [wanted_put oi a o.dst v a1]; exact hwn) (fun w hw => (makesAt_put (fun cs b => hsel i oi cs b hi) a1).2 (hm w hw)) hK' hh
      refine ⟨?_, fun u hu => ?_⟩
      · have := wpAnyY_first (E := fun k => deps.contains k) ho hsel (fun c a w => hQ o (List.mem_of_getElem? ho') c a _ w) (r.length + 1 + f) listed C D a hst hDC (Region.free_spec ho hf) hrk' hdn (hy.narrow fun _ _ => trivial) (fun _ => hy) q1
        rwa [show r.length + 1 + f + 1 = r.length + 1 + 1 + f by omega] at this
      · have hy' := hy.same (execOp_put o (fun cs b => hsel k o cs b ho) a oi.dst u a3) (wanted_put o a oi.dst u a3)
        have := wpAnyY_first (E := fun k => deps.contains k) (v := v) (a := a.put oi.dst u) (D := fun w => D w ∧ V u w) ho hsel (fun c a w => hQ o (List.mem_of_getElem? ho') c a _ w) (r.length + f) (listed.setIfInBounds i true) C (fun x x' hx hb => ⟨hst _ _ hx.1 hb, hV _ _ _ hx.2 hb⟩) (fun W hW => hDC W hW.1) (Region.free_spec ho hf2) (ready_mono hrk' hki) (hdn.set hr) (hy'.narrow fun _ _ => trivial) (fun _ => hy') (by
          have := q2 u hu
          rw [Array.setIfInBounds_comm _ _ hki, Act.put_comm a v u a2] at this
          exact this)
        rwa [show r.length + f + 1 = r.length + 1 + f by omega] at this
    by_cases hw : Region.wanted o (yielded l.toArray a.tmps) = true
    · rw [if_pos hw] at h
      obtain ⟨v, h1, h2⟩ := h
      exact key v (.inl ⟨hw, fun w _ => h1 w⟩) h2
    · rw [if_neg hw] at h
      exact key undef (.inr ⟨by simpa using hw, rfl⟩) h
  | .one k :: r, listed, D, a, hst, hDC, hne, hdn, hr, hB, hwn, hm, hK, h => by
    simp only [floatB, Bool.and_eq_true, beq_iff_eq] at hB
    obtain ⟨hall, hrk, hr2, hap, hB'⟩ := hB
    have hrk' : k ∈ Region.ready md l.toArray listed := by simpa using hrk
    obtain ⟨_, o, ho, _⟩ := mem_ready.1 hrk'
    have ho' : l[k]? = some o := by simpa using ho
    obtain ⟨hki, hapo⟩ := apartB_spec hap ho hi
    obtain ⟨a1, a2, a3⟩ := Oper.apart_spec hapo
    have hsel := Region.noSelect_spec hs
    simp only [pickF, ho', wpFloat] at h
    have hdn' := hdn.set hrk'
    have hK' : ∀ D' a', Stable D' → (∀ W, D' W → C W) → (∃ w, D' w) → Down md l.toArray ((setAll (r.map EntF.num) (listed.setIfInBounds k true)).setIfInBounds i true) → K D' a' → wpAnyY P md l.toArray (fun k => deps.contains k) Q f ((setAll (r.map EntF.num) (listed.setIfInBounds k true)).setIfInBounds i true) C D' a' := hK
    obtain ⟨U, hU, hwk, hmk, hfin⟩ := h
    have q : ∀ u, (∃ w, D w ∧ U u w) → wpAnyY P md l.toArray (fun k => deps.contains k) Q (r.length + 1 + f) (listed.setIfInBounds k true) C (fun w => D w ∧ U u w) (a.put o.dst u) ∧ ∀ v, (∃ w, (D w ∧ U u w) ∧ V v w) → wpAnyY P md l.toArray (fun k => deps.contains k) Q (r.length + f) ((listed.setIfInBounds k true).setIfInBounds i true) C (fun w => (D w ∧ U u w) ∧ V v w) ((a.put o.dst u).put oi.dst v) := fun u hu => wpAnyY_float hs hQ hi hV r (listed.setIfInBounds k true) (fun w => D w ∧ U u w) (a.put o.dst u) (fun x x' hx hb => ⟨hst _ _ hx.1 hb, hU _ _ _ hx.2 hb⟩) (fun W hW => hDC W hW.1) hu hdn' (ready_mono hr (Ne.symm hki)) hB' (by rw [wanted_put oi a o.dst u a1]; exact hwn) (fun w hw => (makesAt_put (fun cs b => hsel i oi cs b hi) a1).2 (hm w hw.1)) hK' (hfin u hu)
    have p2 : ∀ v, (∃ w, D w ∧ V v w) → wpAnyY P md l.toArray (fun k => deps.contains k) Q (r.length + f + 1) (listed.setIfInBounds i true) C (fun w => D w ∧ V v w) (a.put oi.dst v) := fun v hv => by
      refine ⟨fun h0 => (by rw [h0] at hr2; cases hr2), fun j hj w hw => ?_⟩
      rw [hr2] at hj
      obtain rfl : j = k := by simpa using hj
      refine makes_step (V := U) (D := fun w => D w ∧ V v w) ho (fun x x' hx hb => ⟨hst _ _ hx.1 hb, hV _ _ _ hx.2 hb⟩) (fun W hW => hDC W hW.1) hU (by rw [wanted_put o a oi.dst v a3]; exact hwk) hw ((makesAt_put (fun cs b => hsel j o cs b ho) a3).2 (hmk w hw.1)) (fun u hu => ?_)
      obtain ⟨w', ⟨h1, h2⟩, h3⟩ := hu
      have := (q u ⟨w', h1, h3⟩).2 v ⟨w', ⟨h1, h3⟩, h2⟩
      rw [Array.setIfInBounds_comm _ _ hki, Act.put_comm a u v a2, show (fun w => (D w ∧ U u w) ∧ V v w) = (fun w => (D w ∧ V v w) ∧ U u w) from funext fun w => propext ⟨fun ⟨⟨a, b⟩, c⟩ => ⟨⟨a, c⟩, b⟩, fun ⟨⟨a, b⟩, c⟩ => ⟨⟨a, c⟩, b⟩⟩] at this
      exact this
    have p2' : ∀ v, (∃ w, D w ∧ V v w) → wpAnyY P md l.toArray (fun k => deps.contains k) Q (r.length + 1 + f) (listed.setIfInBounds i true) C (fun w => D w ∧ V v w) (a.put oi.dst v) := fun v hv => by
      have := p2 v hv
      rwa [show r.length + f + 1 = r.length + 1 + f by omega] at this
    refine ⟨?_, p2'⟩
    simp only [List.length_cons]
    rw [show r.length + 1 + 1 + f = (r.length + 1 + f) + 1 by omega]
    refine ⟨fun h0 => (by rw [h0] at hr; cases hr), fun j hj w hw => ?_⟩
    have hjk := List.all_eq_true.1 hall j hj
    simp only [Bool.or_eq_true, beq_iff_eq] at hjk
    rcases hjk with rfl | rfl
    · exact makes_step hi hst hDC hV hwn hw (hm w hw) p2'
    · exact makes_step ho hst hDC hU hwk hw (hmk w hw) (fun u hu => (q u hu).1)

/-- The order that is written down. -/
inductive Ent where
  | free (i : Nat)
  | calm (i : Nat)
  | fence (i : Nat)
  | alone (i : Nat)
  | group (l : List Nat)
  | float (i : Nat) (s : List EntF)
inductive EntO where
  | free (o : Oper)
  | calm (o : Oper)
  | fence (o : Oper)
  | alone (o : Oper)
  | group (l : List (Nat × Oper))
  | float (o : Oper) (s : List EntFO)
def wpFlow (P : Program) (ops : Array Oper) (Q : Exit → Act → World → Prop) : List EntO → (World → Prop) → (World → Prop) → Act → Prop
  | [], C, D, a => ∀ w, D w → Q .normal a w
  | .calm o :: r, C, D, a => if Region.wanted o (yielded ops a.tmps) = true then ∃ v, (∀ w, C w → calmAt P o a w v) ∧ wpFlow P ops Q r C D (a.put o.dst v) else wpFlow P ops Q r C D (a.put o.dst undef)
  | .free o :: r, C, D, a => if Region.wanted o (yielded ops a.tmps) = true then ∃ v, (∀ w, calmAt P o a w v) ∧ wpFlow P ops Q r C D (a.put o.dst v) else wpFlow P ops Q r C D (a.put o.dst undef)
  | .fence o :: r, C, D, a => ∀ w, D w → if Region.wanted o (yielded ops a.tmps) = true then Oper.wp P o a w (fun a' w' => ∃ C' D' : World → Prop, Stable D' ∧ (∀ W, D' W → C' W) ∧ D' w' ∧ wpFlow P ops Q r C' D' a') Q else wpFlow P ops Q r C D (a.put o.dst undef)
  | .alone o :: r, C, D, a => ∀ w, D w → if Region.wanted o (yielded ops a.tmps) = true then Oper.wp P o a w (fun a' w' => ∃ C' D' : World → Prop, Stable D' ∧ (∀ W, C' W → C W) ∧ (∀ W, D' W → C' W) ∧ D' w' ∧ wpFlow P ops Q r C' D' a') Q else wpFlow P ops Q r C D (a.put o.dst undef)
  | .group l :: r, C, D, a => ∃ (V : Nat → Value → World → Prop) (N : World → Value → Prop) (R : Value → Value → Prop), (∀ i, StableV (V i)) ∧ (∀ p ∈ l, ∀ v u w, V p.1 v w → N w u → R v u ∧ R u v) ∧ (∀ p ∈ l, Region.wanted p.2 (yielded ops a.tmps) = true ∧ ∀ w, D w → makesAt P p.2 a w (fun u w' => V p.1 u w' ∧ N w u)) ∧ ∀ vs, (∃ w, D w ∧ ∀ p ∈ l, V p.1 (vs p.1) w) → (∀ p ∈ l, ∀ q ∈ l, p.1 ≠ q.1 → R (vs p.1) (vs q.1)) → wpFlow P ops Q r C (fun w => D w ∧ ∀ p ∈ l, V p.1 (vs p.1) w) (putAll l vs a)
  | .float o s :: r, C, D, a => ∃ V : Value → World → Prop, StableV V ∧ Region.wanted o (yielded ops a.tmps) = true ∧ (∀ w, D w → makesAt P o a w V) ∧ wpFloat P ops o V C (fun D' a' => wpFlow P ops Q r C D' a') s D a
def groupB (md : Region.Mode) (ops : Array Oper) (l : List Nat) (listed : Array Bool) : Bool :=
  decide l.Nodup && (l.all (fun i => (Region.ready md ops listed).contains i && (Region.ready md ops (setAll (l.filter (· != i)) listed) == [i]) && l.all (fun j => i == j || match ops[i]?, ops[j]? with | some a, some b => a.apart ops b | _, _ => false)))
def fenceB' (md : Region.Mode) (ops : Array Oper) (j : Nat) (deps : List Nat) (listed : Array Bool) : Bool := deps.all fun k => !(listed.getD k false) || anc md ops ops.size j k
def flowB (md : Region.Mode) (ops : Array Oper) (deps : List Nat) : List Ent → Array Bool → Bool
  | [], listed => (Region.ready md ops listed).isEmpty
  | .free i :: r, listed => Region.free md ops listed i && (Region.ready md ops listed).contains i && !(deps.contains i) && flowB md ops deps r (listed.setIfInBounds i true)
  | .fence i :: r, listed => (Region.ready md ops listed == [i]) && fenceB' md ops i deps listed && flowB md ops deps r (listed.setIfInBounds i true)
  | .calm i :: r, listed => Region.free md ops listed i && (Region.ready md ops listed).contains i && deps.contains i && flowB md ops deps r (listed.setIfInBounds i true)
  | .alone i :: r, listed => (Region.ready md ops listed == [i]) && flowB md ops deps r (listed.setIfInBounds i true)
  | .group l :: r, listed => groupB md ops l listed && flowB md ops deps r (setAll l listed)
  | .float i s :: r, listed => (Region.ready md ops listed).contains i && (floatB md ops deps i s listed && flowB md ops deps r ((setAll (s.map EntF.num) listed).setIfInBounds i true))
def pickEnts (l : List Oper) : List Ent → List EntO
  | [] => []
  | .calm i :: r => match l[i]? with | some o => .calm o :: pickEnts l r | none => []
  | .alone i :: r => match l[i]? with | some o => .alone o :: pickEnts l r | none => []
  | .free i :: r => match l[i]? with | some o => .free o :: pickEnts l r | none => []
  | .fence i :: r => match l[i]? with | some o => .fence o :: pickEnts l r | none => []
  | .group g :: r => .group (g.filterMap fun i => (l[i]?).map fun o => (i, o)) :: pickEnts l r
  | .float i s :: r => match l[i]? with | some o => .float o (pickF l s) :: pickEnts l r | none => []
def entsLen : List Ent → Nat
  | [] => 0
  | .calm _ :: r => entsLen r + 1
  | .alone _ :: r => entsLen r + 1
  | .free _ :: r => entsLen r + 1
  | .fence _ :: r => entsLen r + 1
  | .group g :: r => g.length + entsLen r
  | .float _ s :: r => s.length + 1 + entsLen r
theorem groupOk_of {l : List Nat} {listed : Array Bool} (h : groupB md ops l listed = true) : GroupOk md ops (l.filterMap fun i => (ops[i]?).map fun o => (i, o)) listed ∧ (l.filterMap fun i => (ops[i]?).map fun o => (i, o)).map (·.1) = l := by
  simp only [groupB, Bool.and_eq_true, decide_eq_true_eq, List.all_eq_true, beq_iff_eq, Bool.or_eq_true] at h
  obtain ⟨h1, h2⟩ := h
  have hr : ∀ i ∈ l, i ∈ Region.ready md ops listed := fun i hi => by simpa using (h2 i hi).1.1
  have hop : ∀ i ∈ l, ∃ o, ops[i]? = some o := fun i hi => by obtain ⟨_, o, ho, _⟩ := mem_ready.1 (hr i hi); exact ⟨o, ho⟩
  have hmap : (l.filterMap fun i => (ops[i]?).map fun o => (i, o)).map (·.1) = l := by
    clear h1 h2 hr
    induction l with
    | nil => rfl
    | cons i l ih =>
      obtain ⟨o, ho⟩ := hop i List.mem_cons_self
      rw [List.filterMap_cons_some (b := (i, o)) (by simp [ho]), List.map_cons, ih (fun j hj => hop j (List.mem_cons_of_mem _ hj))]
  have hmem : ∀ p ∈ (l.filterMap fun i => (ops[i]?).map fun o => (i, o)), p.1 ∈ l ∧ ops[p.1]? = some p.2 := fun p hp => by
    obtain ⟨i, hi, he⟩ := List.mem_filterMap.1 hp
    obtain ⟨o, ho, e⟩ := Option.map_eq_some_iff.1 he
    subst e
    exact ⟨hi, ho⟩
  refine ⟨⟨by rw [hmap]; exact h1, fun p hp => (hmem p hp).2, fun p hp => hr _ (hmem p hp).1, fun p hp j hj => ?_, fun p hp q hq hne => ?_⟩, hmap⟩
  · rw [hmap, (h2 _ (hmem p hp).1).1.2] at hj
    simpa using hj
  · have := (h2 _ (hmem p hp).1).2 _ (hmem q hq).1
    rcases this with h | h
    · exact absurd h hne
    · rw [(hmem p hp).2, (hmem q hq).2] at h
      exact h
theorem fenceE_of {deps : List Nat} {j : Nat} {listed : Array Bool} (h : fenceB' md ops j deps listed = true) : FenceE md ops (fun k => deps.contains k) j listed := by
  intro k hk hl
  have h1 := List.all_eq_true.1 h k (by simpa using hk)
  rw [hl] at h1
  exact ⟨ops.size, by simpa using h1⟩
theorem down_setAll : ∀ (l : List Nat) (listed : Array Bool), Down md ops listed → (∀ i ∈ l, i ∈ Region.ready md ops listed) → l.Nodup → Down md ops (setAll l listed)
  | [], _, h, _, _ => h
  | i :: l, listed, h, hr, hn => by
    refine down_setAll l _ (h.set (hr i List.mem_cons_self)) (fun j hj => ready_mono (hr j (List.mem_cons_of_mem _ hj)) (fun e => ?_)) (List.nodup_cons.1 hn).2
    subst e
    exact (List.nodup_cons.1 hn).1 hj
theorem wpAnyY_flow {l : List Oper} {deps : List Nat} (hs : Region.noSelect l.toArray = true) (hQ : ∀ o ∈ l, ∀ c a v w, Q (.panic c) (Act.put a o.dst v) w → Q (.panic c) a w) : ∀ (s : List Ent) (listed : Array Bool) (C D : World → Prop) (a : Act), Stable D → (∀ W, D W → C W) → (∃ w, D w) → Down md l.toArray listed → flowB md l.toArray deps s listed = true → wpFlow P l.toArray Q (pickEnts l s) C D a → wpAnyY P md l.toArray (fun k => deps.contains k) Q (entsLen s) listed C D a
  | [], listed, C, D, a, hst, hDC, hne, hdn, hB, h => ⟨by simpa [flowB] using hB, h⟩
  | .calm i :: r, listed, C, D, a, hst, hDC, hne, hdn, hB, h => by
    simp only [flowB, Bool.and_eq_true] at hB
    obtain ⟨⟨⟨hf, hr⟩, hde⟩, hB'⟩ := hB
    have hr' : i ∈ Region.ready md l.toArray listed := by simpa using hr
    obtain ⟨_, o, ho, _⟩ := mem_ready.1 hr'
    have ho' : l[i]? = some o := by simpa using ho
    simp only [pickEnts, ho', wpFlow] at h
    have hdn' := hdn.set hr'
    by_cases hw : Region.wanted o (yielded l.toArray a.tmps) = true
    · rw [if_pos hw] at h
      obtain ⟨v, h1, h2⟩ := h
      exact wpAnyY_first ho (Region.noSelect_spec hs) (fun c a w => hQ o (List.mem_of_getElem? ho') c a _ w) (entsLen r) listed C D a hst hDC (Region.free_spec ho hf) hr' hdn (.inl ⟨hw, h1⟩) (fun hd => by rw [hde] at hd; cases hd) (wpAnyY_flow hs hQ r _ C D _ hst hDC hne hdn' hB' h2)
    · rw [if_neg hw] at h
      exact wpAnyY_first ho (Region.noSelect_spec hs) (fun c a w => hQ o (List.mem_of_getElem? ho') c a _ w) (entsLen r) listed C D a hst hDC (Region.free_spec ho hf) hr' hdn (.inr ⟨by simpa using hw, rfl⟩) (fun hd => by rw [hde] at hd; cases hd) (wpAnyY_flow hs hQ r _ C D _ hst hDC hne hdn' hB' h)
  | .free i :: r, listed, C, D, a, hst, hDC, hne, hdn, hB, h => by
    simp only [flowB, Bool.and_eq_true] at hB
    obtain ⟨⟨⟨hf, hr⟩, _⟩, hB'⟩ := hB
    have hr' : i ∈ Region.ready md l.toArray listed := by simpa using hr
    obtain ⟨_, o, ho, _⟩ := mem_ready.1 hr'
    have ho' : l[i]? = some o := by simpa using ho
    simp only [pickEnts, ho', wpFlow] at h
    have hdn' := hdn.set hr'
    by_cases hw : Region.wanted o (yielded l.toArray a.tmps) = true
    · rw [if_pos hw] at h
      obtain ⟨v, h1, h2⟩ := h
      exact wpAnyY_first ho (Region.noSelect_spec hs) (fun c a w => hQ o (List.mem_of_getElem? ho') c a _ w) (entsLen r) listed C D a hst hDC (Region.free_spec ho hf) hr' hdn (.inl ⟨hw, fun w _ => h1 w⟩) (fun _ => .inl ⟨hw, fun w _ => h1 w⟩) (wpAnyY_flow hs hQ r _ C D _ hst hDC hne hdn' hB' h2)
    · rw [if_neg hw] at h
      exact wpAnyY_first ho (Region.noSelect_spec hs) (fun c a w => hQ o (List.mem_of_getElem? ho') c a _ w) (entsLen r) listed C D a hst hDC (Region.free_spec ho hf) hr' hdn (.inr ⟨by simpa using hw, rfl⟩) (fun _ => .inr ⟨by simpa using hw, rfl⟩) (wpAnyY_flow hs hQ r _ C D _ hst hDC hne hdn' hB' h)
  | .alone i :: r, listed, C, D, a, hst, hDC, hne, hdn, hB, h => by
    simp only [flowB, Bool.and_eq_true, beq_iff_eq] at hB
    obtain ⟨hr, hB'⟩ := hB
    have hr' : i ∈ Region.ready md l.toArray listed := by rw [hr]; simp
    obtain ⟨_, o, ho, _⟩ := mem_ready.1 hr'
    have ho' : l[i]? = some o := by simpa using ho
    simp only [pickEnts, ho', wpFlow] at h
    refine ⟨fun h0 => (by rw [h0] at hr'; cases hr'), fun j hj w hw => ?_⟩
    rw [hr] at hj
    obtain rfl : j = i := by simpa using hj
    have hh := h w hw
    unfold wpOp
    simp only [ho]
    split
    · rename_i hwa
      rw [if_pos hwa] at hh
      exact .inl (Oper.wp_mono (fun a' w' ⟨C', D', k1, k2, k3, k4, k5⟩ => ⟨C', D', k1, .inl k2, k3, k4, wpAnyY_flow hs hQ r _ C' D' a' k1 k3 ⟨w', k4⟩ (hdn.set hr') hB' k5⟩) hh)
    · rename_i hwa
      rw [if_neg hwa] at hh
      exact ⟨C, D, hst, .inl fun _ h => h, hDC, hw, wpAnyY_flow hs hQ r _ C D _ hst hDC hne (hdn.set hr') hB' hh⟩
  | .fence i :: r, listed, C, D, a, hst, hDC, hne, hdn, hB, h => by
    simp only [flowB, Bool.and_eq_true, beq_iff_eq] at hB
    obtain ⟨⟨hr, hfe⟩, hB'⟩ := hB
    have hr' : i ∈ Region.ready md l.toArray listed := by rw [hr]; simp
    obtain ⟨_, o, ho, _⟩ := mem_ready.1 hr'
    have ho' : l[i]? = some o := by simpa using ho
    simp only [pickEnts, ho', wpFlow] at h
    refine ⟨fun h0 => (by rw [h0] at hr'; cases hr'), fun j hj w hw => ?_⟩
    rw [hr] at hj
    obtain rfl : j = i := by simpa using hj
    have hh := h w hw
    unfold wpOp
    simp only [ho]
    split
    · rename_i hwa
      rw [if_pos hwa] at hh
      exact .inl (Oper.wp_mono (fun a' w' ⟨C', D', k1, k3, k4, k5⟩ => ⟨C', D', k1, .inr (fenceE_of hfe), k3, k4, wpAnyY_flow hs hQ r _ C' D' a' k1 k3 ⟨w', k4⟩ (hdn.set hr') hB' k5⟩) hh)
    · rename_i hwa
      rw [if_neg hwa] at hh
      exact ⟨C, D, hst, .inl fun _ h => h, hDC, hw, wpAnyY_flow hs hQ r _ C D _ hst hDC hne (hdn.set hr') hB' hh⟩
  | .group g :: r, listed, C, D, a, hst, hDC, hne, hdn, hB, h => by
    simp only [flowB, Bool.and_eq_true] at hB
    obtain ⟨hg, hB'⟩ := hB
    obtain ⟨hok, hmap⟩ := groupOk_of hg
    simp only [pickEnts, wpFlow] at h
    obtain ⟨V, N, R, hV, hR, hm, hfin⟩ := h
    have hl : (fun i => (l[i]?).map fun o => (i, o)) = (fun i => (l.toArray[i]?).map fun o => (i, o)) := funext fun i => by rw [List.getElem?_toArray]
    rw [hl] at hR hm hfin
    have := wpAnyY_group (P := P) (E := fun k => deps.contains k) (Q := Q) hok (Region.noSelect_spec hs) hV hR hst hDC hm (f := entsLen r) (fun vs hex hrr => by
      rw [hmap]
      exact wpAnyY_flow hs hQ r _ C _ _ (fun x x' hx hb => ⟨hst _ _ hx.1 hb, fun p hp => hV _ _ _ _ (hx.2 p hp) hb⟩) (fun W hW => hDC W hW.1) hex (by have := down_setAll (md := md) (ops := l.toArray) g listed hdn (fun i hi => by have h1 := hok.ready; rw [← hmap] at hi; obtain ⟨p, hp, rfl⟩ := List.mem_map.1 hi; exact h1 p hp) (by have := hok.nodup; rwa [hmap] at this); exact this) hB' (hfin vs hex hrr)) g.length [] (g.filterMap fun i => (l.toArray[i]?).map fun o => (i, o)) (by rw [← congrArg List.length hmap, List.length_map]) (by simp) (fun _ => undef) (by obtain ⟨w, hw⟩ := hne; exact ⟨w, hw, fun p hp => by simp at hp⟩) (fun p hp => by simp at hp)
    simpa [putAll, setAll, entsLen] using this
  | .float i s :: r, listed, C, D, a, hst, hDC, hne, hdn, hB, h => by
    simp only [flowB, Bool.and_eq_true] at hB
    obtain ⟨hr, hg, hB'⟩ := hB
    have hr' : i ∈ Region.ready md l.toArray listed := by simpa using hr
    obtain ⟨_, o, ho, _⟩ := mem_ready.1 hr'
    have ho' : l[i]? = some o := by simpa using ho
    simp only [pickEnts, ho', wpFlow] at h
    obtain ⟨V, hV, hwn, hm, hh⟩ := h
    exact (wpAnyY_float (f := entsLen r) hs hQ ho hV s listed D a hst hDC hne hdn hr' hg hwn hm (fun D' a' k1 k2 k3 k4 k5 => wpAnyY_flow hs hQ r _ C D' a' k1 k2 k3 k4 hB' k5) hh).1

def calmsOf (s : List Ent) : List Nat := s.flatMap fun | .calm i => [i] | .float _ s => s.filterMap (fun | .calm i => some i | _ => none) | _ => []
/-- The walk that is left, shut. -/
structure Flow (P : Program) (ops : Array Oper) (Q : Exit → Act → World → Prop) (l : List EntO) (C D : World → Prop) (a : Act) : Prop where
  out : wpFlow P ops Q l C D a
theorem wp_region_flow {id : Nat} {l : List Oper} {a : Act} {w : World} (s : List Ent) (C D : World → Prop) (hst : Stable D) (hDC : ∀ W, D W → C W) (hm : P.follows .mixedOrders = true)
    (hB : (Region.noSelect l.toArray && ((entsLen s == l.length) && flowB .any l.toArray (calmsOf s) s (Array.replicate l.length false))) = true) (hD : D w.drew) (h : Flow P l.toArray (NoPanic Q) (pickEnts l s) C D a) : (Code.region id l.toArray true).wp P Q a w := by
  refine wp_region_noPanic ?_
  simp only [Bool.and_eq_true, beq_iff_eq] at hB
  obtain ⟨h1, h2, h3⟩ := hB
  refine wp_region_any hm (wpAnyY_sound (E := fun k => (calmsOf s).contains k) _ _ C D a _ hD ?_)
  have := wpAnyY_flow (md := .any) (Q := NoPanic Q) h1 (fun _ _ _ _ _ _ h => h) s _ C D a hst hDC ⟨_, hD⟩ (fun j o _ hj => by rw [Array.getD_eq_getD_getElem?, Array.getElem?_replicate] at hj; split at hj <;> simp at hj) h3 h.out
  rw [h2] at this
  simpa using this
/-- The same, where a panic may go through: what is said of a panic must not look at what the region's own operations yield. -/
theorem wp_region_flowP {id : Nat} {l : List Oper} {a : Act} {w : World} (s : List Ent) (C D : World → Prop) (hst : Stable D) (hDC : ∀ W, D W → C W) (hm : P.follows .mixedOrders = true)
    (hB : (Region.noSelect l.toArray && ((entsLen s == l.length) && flowB .any l.toArray (calmsOf s) s (Array.replicate l.length false))) = true) (hD : D w.drew) (hQ : ∀ o ∈ l, ∀ c a v w, Q (.panic c) (Act.put a o.dst v) w → Q (.panic c) a w)
    (h : Flow P l.toArray Q (pickEnts l s) C D a) : (Code.region id l.toArray true).wp P Q a w := by
  simp only [Bool.and_eq_true, beq_iff_eq] at hB
  obtain ⟨h1, h2, h3⟩ := hB
  refine wp_region_any hm (wpAnyY_sound (E := fun k => (calmsOf s).contains k) _ _ C D a _ hD ?_)
  have := wpAnyY_flow (md := .any) (Q := Q) h1 hQ s _ C D a hst hDC ⟨_, hD⟩ (fun j o _ hj => by rw [Array.getD_eq_getD_getElem?, Array.getElem?_replicate] at hj; split at hj <;> simp at hj) h3 h.out
  rw [h2] at this
  simpa using this
theorem flow_nilP {C D : World → Prop} {a : Act} (h : ∀ w, In D w → Q .normal a w) : Flow P ops Q [] C D a := ⟨fun w hw => h w ⟨hw⟩⟩
theorem flow_nil {C D : World → Prop} {a : Act} (h : ∀ w, In D w → Q .normal a w) : Flow P ops (NoPanic Q) [] C D a := ⟨fun w hw => h w ⟨hw⟩⟩
theorem flow_calm {C D : World → Prop} {a : Act} {o : Oper} {r : List EntO} (h : ∀ K : Act → Prop, (∀ a, Flow P ops Q r C D a → K a) → if Region.wanted o (yielded ops a.tmps) = true then ∃ v, (∀ w, In C w → calmAt P o a w v) ∧ K (a.put o.dst v) else K (a.put o.dst undef)) : Flow P ops Q (.calm o :: r) C D a := by
  have h1 := h _ fun _ h => h
  refine ⟨?_⟩
  unfold wpFlow
  split
  · rename_i hw
    rw [if_pos hw] at h1
    obtain ⟨v, h2, h3⟩ := h1
    exact ⟨v, fun w hw => h2 w ⟨hw⟩, h3.out⟩
  · rename_i hw
    rw [if_neg hw] at h1
    exact h1.out
theorem flow_alone {C D : World → Prop} {a : Act} {o : Oper} {r : List EntO} (hwa : Region.wanted o (yielded ops a.tmps) = true)
    (h : ∀ (w : World), In D w → ∀ K : Act → World → Prop, Shut (∀ a' w' (C' D' : World → Prop), Stable D' → (∀ W, C' W → C W) → (∀ W, D' W → C' W) → D' w' → Flow P ops Q r C' D' a' → K a' w') → if Region.wanted o (yielded ops a.tmps) = true then Oper.wp P o a w K Q else K (a.put o.dst undef) w) : Flow P ops Q (.alone o :: r) C D a := by
  refine ⟨fun w hw => ?_⟩
  rw [if_pos hwa]
  have := h w ⟨hw⟩ (fun a' w' => ∃ C' D' : World → Prop, Stable D' ∧ (∀ W, C' W → C W) ∧ (∀ W, D' W → C' W) ∧ D' w' ∧ wpFlow P ops Q r C' D' a') (fun a' w' C' D' k1 k2 k3 k4 k5 => ⟨C', D', k1, k2, k3, k4, k5.out⟩)
  rwa [if_pos hwa] at this
theorem flow_free {C D : World → Prop} {a : Act} {o : Oper} {r : List EntO} (h : ∀ K : Act → Prop, (∀ a, Flow P ops Q r C D a → K a) → if Region.wanted o (yielded ops a.tmps) = true then ∃ v, (∀ w, calmAt P o a w v) ∧ K (a.put o.dst v) else K (a.put o.dst undef)) : Flow P ops Q (.free o :: r) C D a := by
  have h1 := h _ fun _ h => h
  refine ⟨?_⟩
  unfold wpFlow
  split
  · rename_i hw
    rw [if_pos hw] at h1
    obtain ⟨v, h2, h3⟩ := h1
    exact ⟨v, h2, h3.out⟩
  · rename_i hw
    rw [if_neg hw] at h1
    exact h1.out
theorem flow_fence {C D : World → Prop} {a : Act} {o : Oper} {r : List EntO} (hwa : Region.wanted o (yielded ops a.tmps) = true)
    (h : ∀ (w : World), In D w → ∀ K : Act → World → Prop, Shut (∀ a' w' (C' D' : World → Prop), Stable D' → (∀ W, D' W → C' W) → D' w' → Flow P ops Q r C' D' a' → K a' w') → if Region.wanted o (yielded ops a.tmps) = true then Oper.wp P o a w K Q else K (a.put o.dst undef) w) : Flow P ops Q (.fence o :: r) C D a := by
  refine ⟨fun w hw => ?_⟩
  rw [if_pos hwa]
  have := h w ⟨hw⟩ (fun a' w' => ∃ C' D' : World → Prop, Stable D' ∧ (∀ W, D' W → C' W) ∧ D' w' ∧ wpFlow P ops Q r C' D' a') (fun a' w' C' D' k1 k3 k4 k5 => ⟨C', D', k1, k3, k4, k5.out⟩)
  rwa [if_pos hwa] at this
/-- Two that make memory; what a later one makes stands to what lay there as R says. -/
theorem flow_twoR {C D : World → Prop} {a : Act} {i j : Nat} {o p : Oper} {r : List EntO} (V U : Value → World → Prop) (N : World → Value → Prop) (R : Value → Value → Prop) (hV : StableV V) (hU : StableV U) (hij : i ≠ j)
    (hRV : ∀ v u w, V v w → N w u → R v u ∧ R u v) (hRU : ∀ v u w, U v w → N w u → R v u ∧ R u v)
    (h1 : Region.wanted o (yielded ops a.tmps) = true ∧ ∀ w, In D w → makesAt P o a w (fun u w' => V u w' ∧ N w u)) (h2 : Region.wanted p (yielded ops a.tmps) = true ∧ ∀ w, In D w → makesAt P p a w (fun u w' => U u w' ∧ N w u))
    (h : ∀ v u w, In D w → V v w → U u w → R v u → Flow P ops Q r C (fun w => D w ∧ V v w ∧ U u w) ((a.put o.dst v).put p.dst u)) : Flow P ops Q (.group [(i, o), (j, p)] :: r) C D a := by
  refine ⟨fun k => if k = i then V else U, N, R, fun k => by dsimp only; split; exact hV; exact hU, fun q hq v u w => by dsimp only; split; exact hRV v u w; exact hRU v u w, ?_, fun vs hex hrr => ?_⟩
  · intro q hq
    rcases List.mem_cons.1 hq with rfl | hq
    · exact ⟨h1.1, fun w hw => by simpa using h1.2 w ⟨hw⟩⟩
    · obtain rfl := List.mem_singleton.1 hq
      exact ⟨h2.1, fun w hw => by simpa [Ne.symm hij] using h2.2 w ⟨hw⟩⟩
  · obtain ⟨w0, hw0, hv0⟩ := hex
    have h3 := (h (vs i) (vs j) w0 ⟨hw0⟩ (by have := hv0 (i, o) List.mem_cons_self; simpa using this) (by have := hv0 (j, p) (List.mem_cons_of_mem _ List.mem_cons_self); simpa [Ne.symm hij] using this) (hrr (i, o) List.mem_cons_self (j, p) (List.mem_cons_of_mem _ List.mem_cons_self) hij)).out
    rw [show (fun w => D w ∧ ∀ q ∈ [(i, o), (j, p)], (if q.1 = i then V else U) (vs q.1) w) = (fun w => D w ∧ V (vs i) w ∧ U (vs j) w) from funext fun w => propext (by simp [Ne.symm hij])]
    exact h3
theorem makesUpon_mono {w : World} {V U : Value → World → Prop} (h : ∀ u w', V u w' → U u w') {x : Result Next} (hx : makesUpon P w V x) : makesUpon P w U x := by
  cases x with
  | ok nx w' =>
    cases nx <;> simp only [makesUpon] at hx ⊢
    case value u => exact ⟨hx.1, h _ _ hx.2⟩
    case enter fn args => exact ⟨hx.1, hx.2.mono fun e w'' ⟨u, a, b, c⟩ => ⟨u, a, b, h _ _ c⟩⟩
  | halt y w' => simp only [makesUpon] at hx
/-- Two that make memory. -/
theorem flow_two {C D : World → Prop} {a : Act} {i j : Nat} {o p : Oper} {r : List EntO} (V U : Value → World → Prop) (hV : StableV V) (hU : StableV U) (hij : i ≠ j)
    (h1 : Region.wanted o (yielded ops a.tmps) = true ∧ ∀ w, In D w → makesAt P o a w V) (h2 : Region.wanted p (yielded ops a.tmps) = true ∧ ∀ w, In D w → makesAt P p a w U)
    (h : ∀ v u w, In D w → V v w → U u w → Flow P ops Q r C (fun w => D w ∧ V v w ∧ U u w) ((a.put o.dst v).put p.dst u)) : Flow P ops Q (.group [(i, o), (j, p)] :: r) C D a :=
  flow_twoR V U (fun _ _ => True) (fun _ _ => True) hV hU hij (fun _ _ _ _ _ => ⟨trivial, trivial⟩) (fun _ _ _ _ _ => ⟨trivial, trivial⟩) ⟨h1.1, fun w hw => makesUpon_mono (fun _ _ h => ⟨h, trivial⟩) (h1.2 w hw)⟩ ⟨h2.1, fun w hw => makesUpon_mono (fun _ _ h => ⟨h, trivial⟩) (h2.2 w hw)⟩ (fun v u w a b c _ => h v u w a b c)
/-- One that makes memory. -/
theorem flow_one {C D : World → Prop} {a : Act} {i : Nat} {o : Oper} {r : List EntO} (V : Value → World → Prop) (hV : StableV V)
    (h1 : Region.wanted o (yielded ops a.tmps) = true ∧ ∀ w, In D w → makesAt P o a w V)
    (h : ∀ v w, In D w → V v w → Flow P ops Q r C (fun w => D w ∧ V v w) (a.put o.dst v)) : Flow P ops Q (.group [(i, o)] :: r) C D a := by
  refine ⟨fun k => V, fun _ _ => True, fun _ _ => True, fun k => hV, fun _ _ _ _ _ _ _ => ⟨trivial, trivial⟩, ?_, fun vs hex _ => ?_⟩
  · intro q hq
    obtain rfl := List.mem_singleton.1 hq
    exact ⟨h1.1, fun w hw => makesUpon_mono (fun _ _ h => ⟨h, trivial⟩) (h1.2 w ⟨hw⟩)⟩
  · obtain ⟨w0, hw0, hv0⟩ := hex
    have h3 := (h (vs i) w0 ⟨hw0⟩ (by simpa using hv0)).out
    rw [show (fun w => D w ∧ ∀ q ∈ [(i, o)], V (vs q.1) w) = (fun w => D w ∧ V (vs i) w) from funext fun w => propext (by simp)]
    exact h3
/-- The walk while one that makes memory has not come up, shut. -/
structure Float (P : Program) (ops : Array Oper) (oi : Oper) (V : Value → World → Prop) (C : World → Prop) (K : (World → Prop) → Act → Prop) (l : List EntFO) (D : World → Prop) (a : Act) : Prop where
  out : wpFloat P ops oi V C K l D a
theorem wpFloat_mono {oi : Oper} {V : Value → World → Prop} {C : World → Prop} {K K' : (World → Prop) → Act → Prop} (hK : ∀ D a, K D a → K' D a) : ∀ (l : List EntFO) (D : World → Prop) (a : Act), wpFloat P ops oi V C K l D a → wpFloat P ops oi V C K' l D a
  | [], D, a, h => fun v hv => hK _ _ (h v hv)
  | .calm o :: r, D, a, h => by
    unfold wpFloat at h ⊢
    split at h
    · rename_i hw; rw [if_pos hw]; obtain ⟨v, h1, h2⟩ := h; exact ⟨v, h1, wpFloat_mono hK r _ _ h2⟩
    · rename_i hw; rw [if_neg hw]; exact wpFloat_mono hK r _ _ h
  | .free o :: r, D, a, h => by
    unfold wpFloat at h ⊢
    split at h
    · rename_i hw; rw [if_pos hw]; obtain ⟨v, h1, h2⟩ := h; exact ⟨v, h1, wpFloat_mono hK r _ _ h2⟩
    · rename_i hw; rw [if_neg hw]; exact wpFloat_mono hK r _ _ h
  | .one o :: r, D, a, h => by
    unfold wpFloat at h ⊢
    obtain ⟨U, h1, h2, h3, h4⟩ := h
    exact ⟨U, h1, h2, h3, fun u hu => wpFloat_mono hK r _ _ (h4 u hu)⟩
/-- One that makes memory, at any time while others come up. -/
theorem flow_float {C D : World → Prop} {a : Act} {o : Oper} {s : List EntFO} {r : List EntO} (V : Value → World → Prop) (hV : StableV V)
    (h1 : Region.wanted o (yielded ops a.tmps) = true ∧ ∀ w, In D w → makesAt P o a w V)
    (h : Float P ops o V C (fun D' a' => Flow P ops Q r C D' a') s D a) : Flow P ops Q (.float o s :: r) C D a :=
  ⟨⟨V, hV, h1.1, fun w hw => h1.2 w ⟨hw⟩, wpFloat_mono (fun D a h => h.out) _ _ _ h.out⟩⟩
theorem float_calm {oi : Oper} {V : Value → World → Prop} {C : World → Prop} {K0 : (World → Prop) → Act → Prop} {D : World → Prop} {a : Act} {o : Oper} {r : List EntFO} (h : ∀ K : Act → Prop, (∀ a, Float P ops oi V C K0 r D a → K a) → if Region.wanted o (yielded ops a.tmps) = true then ∃ v, (∀ w, In C w → calmAt P o a w v) ∧ K (a.put o.dst v) else K (a.put o.dst undef)) : Float P ops oi V C K0 (.calm o :: r) D a := by
  have h1 := h _ fun _ h => h
  refine ⟨?_⟩
  unfold wpFloat
  split
  · rename_i hw
    rw [if_pos hw] at h1
    obtain ⟨v, h2, h3⟩ := h1
    exact ⟨v, fun w hw => h2 w ⟨hw⟩, h3.out⟩
  · rename_i hw
    rw [if_neg hw] at h1
    exact h1.out
theorem float_free {oi : Oper} {V : Value → World → Prop} {C : World → Prop} {K0 : (World → Prop) → Act → Prop} {D : World → Prop} {a : Act} {o : Oper} {r : List EntFO} (h : ∀ K : Act → Prop, (∀ a, Float P ops oi V C K0 r D a → K a) → if Region.wanted o (yielded ops a.tmps) = true then ∃ v, (∀ w, calmAt P o a w v) ∧ K (a.put o.dst v) else K (a.put o.dst undef)) : Float P ops oi V C K0 (.free o :: r) D a := by
  have h1 := h _ fun _ h => h
  refine ⟨?_⟩
  unfold wpFloat
  split
  · rename_i hw
    rw [if_pos hw] at h1
    obtain ⟨v, h2, h3⟩ := h1
    exact ⟨v, h2, h3.out⟩
  · rename_i hw
    rw [if_neg hw] at h1
    exact h1.out
theorem float_one {oi : Oper} {V : Value → World → Prop} {C : World → Prop} {K0 : (World → Prop) → Act → Prop} {D : World → Prop} {a : Act} {o : Oper} {r : List EntFO} (U : Value → World → Prop) (hU : StableV U)
    (h1 : Region.wanted o (yielded ops a.tmps) = true ∧ ∀ w, In D w → makesAt P o a w U)
    (h : ∀ v w, In D w → U v w → Float P ops oi V C K0 r (fun w => D w ∧ U v w) (a.put o.dst v)) : Float P ops oi V C K0 (.one o :: r) D a :=
  ⟨⟨U, hU, h1.1, fun w hw => h1.2 w ⟨hw⟩, fun u ⟨w, hw, hu⟩ => (h u w ⟨hw⟩ hu).out⟩⟩
theorem float_land {oi : Oper} {V : Value → World → Prop} {C : World → Prop} {K0 : (World → Prop) → Act → Prop} {D : World → Prop} {a : Act} (h : ∀ v w, In D w → V v w → K0 (fun w => D w ∧ V v w) (a.put oi.dst v)) : Float P ops oi V C K0 [] D a :=
  ⟨fun v ⟨w, hw, hv⟩ => h v w ⟨hw⟩ hv⟩
end
end Go.Proofs.Ytfmojgdomficlaa
