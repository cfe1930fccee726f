/-
  Texts of one hand, laid together: Pure3, Pure3b, Pure3c, Marks, LawKit.
-/
import Derived.Test.YtdpkpibcjbllcaaZH
import Derived.Test.YtdpkpibcjbllcaaPRefx5
import Derived.Test.YtdpkpibcjbllcaaZG
set_option linter.unusedVariables false
set_option linter.unusedSimpArgs false
/-! The reference's events that stand: the same ones as the program's. -/
namespace Go.Proofs.Ytdpkpibcjbllcaa
open Go.RowKit Go.Proofs.YtdpkpibcjbllcaaW.PrintWords PRef

def cntStep (src id : Int) (best : Option (Nat × News)) (i : Nat) (n : News) : Option (Nat × News) :=
  if n.do_ = 3 then best else if n.src = src then (if n.id = id then (match best with | none => some (i, n) | some (j, m) => if n.ver > m.ver then some (i, n) else some (j, m)) else best) else best
def cntFrom (src id : Int) (best : Option (Nat × News)) (i : Nat) : List News → Option (Nat × News)
  | [] => best
  | n :: l => cntFrom src id (cntStep src id best i n) (i + 1) l
def cntI : Option (Nat × News) → Int
  | none => -1
  | some (j, _) => (j : Int)
theorem counts_l0 (l : List News) (hl : l.length ≤ 1000) (src id : Int) : ∀ (m p : Nat) (best : Option (Nat × News)), p + m = l.length → (∀ j n, best = some (j, n) → l[j]? = some n) →
    Ev (fun k => afterwordref05_counts.l0 k (l.map sNews) src id (cntI best) (p : Int)) (cntI (cntFrom src id best p (l.drop p)))
  | 0, p, best, hp, hb => by
    refine Ev.const fun k => ?_
    have : ¬ ((p : Int) < ((l.map sNews).length : Int)) := by rw [List.length_map]; omega
    simp only [afterwordref05_counts.l0]
    rw [if_neg this, List.drop_of_length_le (by omega)]
    rfl
  | m + 1, p, best, hp, hb => by
    have hpl : p < l.length := by omega
    have hd : l.drop p = l[p] :: l.drop (p + 1) := List.drop_eq_getElem_cons hpl
    have hlt : ((p : Int) < ((l.map sNews).length : Int)) := by rw [List.length_map]; omega
    have hgp : l[p]? = some l[p] := List.getElem?_eq_getElem hpl
    have hrd := rd_news l p l[p] hgp
    have hw : wrap64 ((p : Int) + 1) = ((p + 1 : Nat) : Int) := by rw [wrap_id _ (by omega) (by omega)]; omega
    rw [hd]
    simp only [cntFrom]
    have go : ∀ b', (∀ j n, b' = some (j, n) → l[j]? = some n) → cntStep src id best p l[p] = b' → (∀ k, afterwordref05_counts.l0 (k + 1) (l.map sNews) src id (cntI best) (p : Int) = afterwordref05_counts.l0 k (l.map sNews) src id (cntI b') ((p + 1 : Nat) : Int)) →
        Ev (fun k => afterwordref05_counts.l0 k (l.map sNews) src id (cntI best) (p : Int)) (cntI (cntFrom src id (cntStep src id best p l[p]) (p + 1) (l.drop (p + 1)))) := by
      intro b' hb' e1 e2
      rw [e1]
      exact (counts_l0 l hl src id m (p + 1) b' (by omega) hb').succ e2
    have hnew : ∀ j n, some (p, l[p]) = some (j, n) → l[j]? = some n := by
      intro j n e
      injection e with e
      injection e with e1 e2
      subst e1 e2
      exact hgp
    by_cases h1 : l[p].do_ = 3
    · refine go best hb (by simp [cntStep, h1]) fun k => ?_
      simp only [afterwordref05_counts.l0]
      rw [if_pos hlt, if_pos (by omega), hrd, if_pos (show (sNews l[p]).f0 = 3 from h1), hw]
    · by_cases h2 : l[p].src = src
      · by_cases h3 : l[p].id = id
        · cases hbest : best with
          | none =>
            subst hbest
            refine go (some (p, l[p])) hnew (by simp [cntStep, h1, h2, h3]) fun k => ?_
            simp only [afterwordref05_counts.l0]
            rw [if_pos hlt, if_pos (by omega), hrd, if_neg (show ¬ (sNews l[p]).f0 = 3 from h1), if_pos (show (sNews l[p]).f1 = src from h2), if_pos (show (sNews l[p]).f2 = id from h3), if_pos (by simp [cntI]), hw]
            rfl
          | some q =>
            obtain ⟨j, mm⟩ := q
            subst hbest
            have hj := hb j mm rfl
            have hjl : j < l.length := (List.getElem?_eq_some_iff.1 hj).1
            have hrj := rd_news l j mm hj
            by_cases h4 : l[p].ver > mm.ver
            · refine go (some (p, l[p])) hnew (by simp [cntStep, h1, h2, h3, h4]) fun k => ?_
              show afterwordref05_counts.l0 (k + 1) (l.map sNews) src id (j : Int) (p : Int) = _
              simp only [afterwordref05_counts.l0]
              rw [if_pos hlt, if_pos (by omega), hrd, if_neg (show ¬ (sNews l[p]).f0 = 3 from h1), if_pos (show (sNews l[p]).f1 = src from h2), if_pos (show (sNews l[p]).f2 = id from h3), if_neg (by omega), if_pos (by omega), if_pos (by rw [List.length_map]; omega), hrj, if_pos (show (sNews l[p]).f3 > (sNews mm).f3 from h4), hw]
              rfl
            · refine go (some (j, mm)) hb (by simp [cntStep, h1, h2, h3, h4]) fun k => ?_
              show afterwordref05_counts.l0 (k + 1) (l.map sNews) src id (j : Int) (p : Int) = _
              simp only [afterwordref05_counts.l0]
              rw [if_pos hlt, if_pos (by omega), hrd, if_neg (show ¬ (sNews l[p]).f0 = 3 from h1), if_pos (show (sNews l[p]).f1 = src from h2), if_pos (show (sNews l[p]).f2 = id from h3), if_neg (by omega), if_pos (by omega), if_pos (by rw [List.length_map]; omega), hrj, if_neg (show ¬ (sNews l[p]).f3 > (sNews mm).f3 from h4), hw]
              rfl
        · refine go best hb (by simp [cntStep, h1, h2, h3]) fun k => ?_
          simp only [afterwordref05_counts.l0]
          rw [if_pos hlt, if_pos (by omega), hrd, if_neg (show ¬ (sNews l[p]).f0 = 3 from h1), if_pos (show (sNews l[p]).f1 = src from h2), if_neg (show ¬ (sNews l[p]).f2 = id from h3), hw]
      · refine go best hb (by simp [cntStep, h1, h2]) fun k => ?_
        simp only [afterwordref05_counts.l0]
        rw [if_pos hlt, if_pos (by omega), hrd, if_neg (show ¬ (sNews l[p]).f0 = 3 from h1), if_neg (show ¬ (sNews l[p]).f1 = src from h2), hw]
def cntOf (l : List News) (k : Key) : Option (Nat × News) := cntFrom k.src k.id none 0 l
theorem counts_f (l : List News) (hl : l.length ≤ 1000) (k : Key) : Ev (fun n => afterwordref05_counts.f n (l.map sNews) k.src k.id) (cntI (cntOf l k)) := by
  have h := counts_l0 l hl k.src k.id l.length 0 none (by omega) (fun j n e => by cases e)
  rw [List.drop_zero] at h
  exact h
theorem cntFrom_snoc (src id : Int) (n : News) : ∀ (l : List News) (b : Option (Nat × News)) (i : Nat), cntFrom src id b i (l ++ [n]) = cntStep src id (cntFrom src id b i l) (i + l.length) n
  | [], b, i => by simp [cntFrom]
  | m :: l, b, i => by
    simp only [List.cons_append, cntFrom, cntFrom_snoc src id n l, List.length_cons]
    rw [show i + 1 + l.length = i + (l.length + 1) by omega]
theorem aget_aput {κ α : Type} [DecidableEq κ] (k k' : κ) (v : α) : ∀ L : List (κ × α), aget k (aput k' v L) = if k = k' then some v else aget k L
  | [] => by simp [aput, aget]
  | (a, x) :: L => by
    simp only [aput]
    by_cases h : k' = a
    · rw [if_pos h]
      simp only [aget]
      by_cases h2 : k = a
      · simp [h2, h]
      · have : k ≠ k' := fun e => h2 (e.trans h)
        simp [h2, this]
    · rw [if_neg h]
      simp only [aget]
      by_cases h2 : k = a
      · have : k ≠ k' := fun e => h (e.symm.trans h2)
        simp [h2, Ne.symm h]
      · rw [if_neg h2, if_neg h2]
        exact aget_aput k k' v L
theorem snoc_ind {α : Type} {P : List α → Prop} (h0 : P []) (h1 : ∀ l a, P l → P (l ++ [a])) (l : List α) : P l := by
  have : ∀ r : List α, P r.reverse := by
    intro r
    induction r with
    | nil => exact h0
    | cons a r ih => rw [List.reverse_cons]; exact h1 _ _ ih
  have h := this l.reverse
  rwa [List.reverse_reverse] at h
/-- The news that counts is the one that is held. -/
theorem held_counts (l : List News) (k : Key) : aget k (hearAll l).1 = (cntOf l k).map (·.2) := by
  induction l using snoc_ind with
  | h0 => rfl
  | h1 l n ih =>
    unfold cntOf at ih ⊢
    rw [cntFrom_snoc, hearAll_snoc]
    generalize cntFrom k.src k.id none 0 l = b at ih ⊢
    generalize hearAll l = s at ih ⊢
    unfold hear cntStep
    by_cases h3 : n.do_ = 3
    · rw [if_pos h3, if_pos h3]; exact ih
    · rw [if_neg h3, if_neg h3]
      show aget k (hearL s.1 n) = _
      unfold hearL
      by_cases hk : keyOf n = k
      · have hs : n.src = k.src := by rw [← hk]; rfl
        have hi : n.id = k.id := by rw [← hk]; rfl
        rw [if_pos hs, if_pos hi, hk, ih]
        cases b with
        | none => simp [aget_aput]
        | some q =>
          obtain ⟨j, m⟩ := q
          simp only [Option.map_some]
          by_cases hv : m.ver < n.ver
          · rw [if_pos hv, if_pos (show n.ver > m.ver from hv), aget_aput]; simp
          · rw [if_neg hv, if_neg (show ¬ n.ver > m.ver from hv), ih]; try rfl
      · have hne : ¬ (n.src = k.src ∧ n.id = k.id) := by
          rintro ⟨h1, h2⟩
          apply hk
          obtain ⟨a, b⟩ := k
          simp only at h1 h2
          rw [keyOf, h1, h2]
        have hr : ∀ X : Option (Nat × News), (if n.src = k.src then (if n.id = k.id then X else b) else b) = b := by
          intro X
          by_cases h1 : n.src = k.src
          · rw [if_pos h1, if_neg (fun h2 => hne ⟨h1, h2⟩)]
          · rw [if_neg h1]
        rw [hr, ← ih]
        have hnk : ¬ k = keyOf n := fun e => hk e.symm
        split
        · rw [aget_aput, if_neg hnk]
        · split
          · rw [aget_aput, if_neg hnk]
          · rfl
end Go.Proofs.Ytdpkpibcjbllcaa
set_option linter.unusedVariables false
set_option linter.unusedSimpArgs false
/-! What counts, plain. -/
namespace Go.Proofs.Ytdpkpibcjbllcaa
open Go.RowKit Go.Proofs.YtdpkpibcjbllcaaW.PrintWords PRef

/-- What counts is of its event, and lies where it says. -/
theorem cnt_valid (l : List News) (k : Key) : ∀ j m, cntOf l k = some (j, m) → l[j]? = some m ∧ keyOf m = k := by
  induction l using snoc_ind with
  | h0 => intro j m h; cases h
  | h1 l n ih =>
    intro j m h
    unfold cntOf at ih h
    rw [cntFrom_snoc] at h
    have old : ∀ j m, cntFrom k.src k.id none 0 l = some (j, m) → (l ++ [n])[j]? = some m ∧ keyOf m = k := by
      intro j m e
      obtain ⟨h1, h2⟩ := ih j m e
      have : j < l.length := (List.getElem?_eq_some_iff.1 h1).1
      exact ⟨by rw [List.getElem?_append_left this]; exact h1, h2⟩
    unfold cntStep at h
    by_cases h3 : n.do_ = 3
    · rw [if_pos h3] at h; exact old _ _ h
    · rw [if_neg h3] at h
      by_cases hs : n.src = k.src
      · by_cases hi : n.id = k.id
        · rw [if_pos hs, if_pos hi] at h
          have hk : keyOf n = k := by
            obtain ⟨a, b⟩ := k
            simp only at hs hi
            rw [keyOf, hs, hi]
          have hnew : ∀ j m, (some (0 + l.length, n) : Option (Nat × News)) = some (j, m) → (l ++ [n])[j]? = some m ∧ keyOf m = k := by
            intro j m e
            injection e with e
            injection e with e1 e2
            subst e1 e2
            exact ⟨by simp, hk⟩
          cases hb : cntFrom k.src k.id none 0 l with
          | none => rw [hb] at h; exact hnew _ _ h
          | some q =>
            obtain ⟨j', m'⟩ := q
            rw [hb] at h
            simp only at h
            by_cases hv : n.ver > m'.ver
            · rw [if_pos hv] at h; exact hnew _ _ h
            · rw [if_neg hv] at h; exact old _ _ (hb.trans h)
        · rw [if_pos hs, if_neg hi] at h; exact old _ _ h
      · rw [if_neg hs] at h; exact old _ _ h
theorem aput_keys {κ α : Type} [DecidableEq κ] (k : κ) (v : α) : ∀ L : List (κ × α), (aput k v L).map (·.1) = if k ∈ L.map (·.1) then L.map (·.1) else L.map (·.1) ++ [k]
  | [] => by simp [aput]
  | (a, x) :: L => by
    simp only [aput]
    by_cases h : k = a
    · rw [if_pos h]; simp [h]
    · rw [if_neg h, List.map_cons, aput_keys k v L]
      by_cases hm : k ∈ L.map (·.1)
      · rw [if_pos hm, if_pos (by simp only [List.map_cons, List.mem_cons]; exact .inr hm)]; rfl
      · rw [if_neg hm, if_neg (by simp only [List.map_cons, List.mem_cons]; exact fun e => e.elim h hm)]; rfl
theorem aput_nodup {κ α : Type} [DecidableEq κ] {k : κ} {v : α} {L : List (κ × α)} (h : (L.map (·.1)).Nodup) : ((aput k v L).map (·.1)).Nodup := by
  rw [aput_keys]
  split
  · exact h
  · rename_i hm
    exact List.nodup_append.2 ⟨h, by simp, fun a ha b hb e => hm (by have hbk : b = k := (by simpa using hb); rw [← hbk, ← e]; exact ha)⟩
theorem held_nodup (l : List News) : ((hearAll l).1.map (·.1)).Nodup := by
  induction l using snoc_ind with
  | h0 => exact List.nodup_nil
  | h1 l n ih =>
    rw [hearAll_snoc]
    unfold hear
    split
    · exact ih
    · show ((hearL (hearAll l).1 n).map (·.1)).Nodup
      unfold hearL
      split
      · exact aput_nodup ih
      · split
        · exact aput_nodup ih
        · exact ih
theorem aget_mem {κ α : Type} [DecidableEq κ] {k : κ} {x : α} : ∀ {L : List (κ × α)}, aget k L = some x → (k, x) ∈ L
  | [], h => by cases h
  | (a, v) :: L, h => by
    simp only [aget] at h
    by_cases e : k = a
    · rw [if_pos e] at h
      injection h with h
      subst e h
      exact List.mem_cons_self ..
    · rw [if_neg e] at h
      exact List.mem_cons_of_mem _ (aget_mem h)
theorem aget_some {κ α : Type} [DecidableEq κ] {k : κ} : ∀ {L : List (κ × α)}, k ∈ L.map (·.1) → ∃ x, aget k L = some x
  | [], h => by simp at h
  | (a, v) :: L, h => by
    simp only [aget]
    by_cases e : k = a
    · exact ⟨v, by rw [if_pos e]⟩
    · rw [if_neg e]
      refine aget_some ?_
      simp only [List.map_cons, List.mem_cons] at h
      exact h.resolve_left e
end Go.Proofs.Ytdpkpibcjbllcaa
set_option linter.unusedVariables false
set_option linter.unusedSimpArgs false
/-! The events that stand, by their members. -/
namespace Go.Proofs.Ytdpkpibcjbllcaa
open Go.RowKit Go.Proofs.YtdpkpibcjbllcaaW.PrintWords PRef

theorem mem_standsK (L : List (Key × News)) (k : Key) (e : Event) : e ∈ standsK L k ↔ ∃ n, aget k L = some n ∧ n.do_ = 1 ∧ e = ⟨k.src, k.id, n.body⟩ := by
  unfold standsK
  cases aget k L with
  | none => simp
  | some n =>
    by_cases h : n.do_ = 1
    · simp [h]
    · simp [h]
theorem mem_outE (l : List News) (e : Event) : e ∈ outE l ↔ ∃ k n, aget k (hearAll l).1 = some n ∧ n.do_ = 1 ∧ e = ⟨k.src, k.id, n.body⟩ := by
  unfold outE
  rw [List.mem_flatMap]
  constructor
  · rintro ⟨p, _, h⟩
    obtain ⟨n, h1⟩ := (mem_standsK _ _ _).1 h
    exact ⟨p.1, n, h1⟩
  · rintro ⟨k, n, h⟩
    exact ⟨(k, n), aget_mem h.1, (mem_standsK _ _ _).2 ⟨n, h⟩⟩
theorem nodup_flat (F : Key → List Event) (h1 : ∀ k, (F k).length ≤ 1) (h2 : ∀ k e, e ∈ F k → e.src = k.src ∧ e.id = k.id) : ∀ L : List (Key × News), (L.map (·.1)).Nodup → (L.flatMap fun p => F p.1).Nodup
  | [], _ => by simp
  | p :: L, h => by
    rw [List.flatMap_cons]
    have hp := List.nodup_cons.1 (by simpa only [List.map_cons] using h)
    refine List.nodup_append.2 ⟨?_, nodup_flat F h1 h2 L hp.2, fun a ha b hb e => ?_⟩
    · have := h1 p.1
      match F p.1, this with
      | [], _ => exact List.nodup_nil
      | [a], _ => simp
    · subst e
      obtain ⟨q, hq, hb⟩ := List.mem_flatMap.1 hb
      have e1 := h2 _ _ ha
      have e2 := h2 _ _ hb
      apply hp.1
      have : p.1 = q.1 := by
        obtain ⟨⟨a1, a2⟩, _⟩ := p
        obtain ⟨⟨b1, b2⟩, _⟩ := q
        simp only at e1 e2 ⊢
        rw [← e1.1, ← e1.2, e2.1, e2.2]
      rw [this]
      exact List.mem_map.2 ⟨q, hq, rfl⟩
theorem nodup_outE (l : List News) : (outE l).Nodup :=
  nodup_flat (standsK (hearAll l).1) (standsK_len _) (fun k e he => by obtain ⟨n, _, _, rfl⟩ := (mem_standsK _ _ _).1 he; exact ⟨rfl, rfl⟩) _ (held_nodup l)
theorem SortE_of (xs ys : List Event) (h : ys.Perm xs) (k : ys.Pairwise (fun a b => ¬ ltE b a)) : SortE xs ys := by
  refine ⟨h, k.imp fun {a b} hab => ?_⟩
  cases hc : ltOf cmpE b a
  · rfl
  · exact absurd ((ltOf_cmpE b a).1 hc) hab
theorem outE_uniq (l : List News) : ∀ a b, a ∈ outE l → b ∈ outE l → ltOf cmpE b a = false → ltOf cmpE a b = false → a = b := by
  intro a b ha hb h1 h2
  have n1 : ¬ ltE b a := fun h => by rw [(ltOf_cmpE b a).2 h] at h1; cases h1
  have n2 : ¬ ltE a b := fun h => by rw [(ltOf_cmpE a b).2 h] at h2; cases h2
  obtain ⟨k, n, e1, _, rfl⟩ := (mem_outE l a).1 ha
  obtain ⟨k', n', e2, _, rfl⟩ := (mem_outE l b).1 hb
  have hk : k = k' := by
    obtain ⟨x, y⟩ := k
    obtain ⟨x', y'⟩ := k'
    unfold ltE lt3 at n1 n2
    simp only at n1 n2
    have : x = x' ∧ y = y' := by omega
    rw [this.1, this.2]
  subst hk
  rw [e1] at e2
  injection e2 with e2
  rw [e2]
instance (a b : Event) : Decidable (ltE a b) := by unfold ltE lt3; infer_instance
/-- An event put into a list in right order. -/
def insE (x : Event) : List Event → List Event
  | [] => [x]
  | y :: l => if ltE x y then x :: y :: l else y :: insE x l
theorem insE_perm (x : Event) : ∀ l, (insE x l).Perm (x :: l)
  | [] => List.Perm.refl _
  | y :: l => by
    simp only [insE]
    split
    · exact List.Perm.refl _
    · exact ((insE_perm x l).cons y).trans (List.Perm.swap x y l)
theorem ltE_trans {a b c : Event} (h : ltE a b) (k : ltE b c) : ltE a c := by unfold ltE lt3 at *; omega
theorem ltE_weak {a b c : Event} (h : ltE a b) (k : ¬ ltE c b) : ltE a c := by unfold ltE lt3 at *; omega
theorem insE_sorted (x : Event) : ∀ l : List Event, l.Pairwise (fun a b => ¬ ltE b a) → (insE x l).Pairwise (fun a b => ¬ ltE b a)
  | [], _ => by simp [insE]
  | y :: l, h => by
    simp only [insE]
    have h1 := List.pairwise_cons.1 h
    split
    · rename_i hx
      refine List.pairwise_cons.2 ⟨fun z hz => ?_, h⟩
      rcases List.mem_cons.1 hz with rfl | hz
      · intro hc
        unfold ltE lt3 at *; omega
      · intro hc
        have h2 := h1.1 z hz
        unfold ltE lt3 at *; omega
    · rename_i hx
      refine List.pairwise_cons.2 ⟨fun z hz => ?_, insE_sorted x l h1.2⟩
      have hz' := (insE_perm x l).mem_iff.1 hz
      rcases List.mem_cons.1 hz' with rfl | hz'
      · exact hx
      · exact h1.1 z hz'
end Go.Proofs.Ytdpkpibcjbllcaa
set_option linter.unusedVariables false
set_option linter.unusedSimpArgs false
/-! The reference's marks. -/
namespace Go.Proofs.Ytdpkpibcjbllcaa
open Go.RowKit Go.Proofs.YtdpkpibcjbllcaaW.PrintWords

theorem hearAll_mlen (l : List News) : (hearAll l).2.length = 4 := by
  induction l using snoc_ind with
  | h0 => rfl
  | h1 l n ih =>
    rw [hearAll_snoc]
    unfold hear
    split
    · simp [hearM, ih]
    · exact ih
theorem marksOf_len (l : List News) (srcs : Int) (h4 : srcs ≤ 4) : (marksOf l srcs).length = srcs.toNat := by
  unfold marksOf
  rw [List.length_take, hearAll_mlen]
  omega
theorem marksOf_skip (l : List News) (n : News) (srcs : Int) (h : n.do_ ≠ 3) : marksOf (l ++ [n]) srcs = marksOf l srcs := by
  unfold marksOf
  rw [hearAll_snoc, hear, if_neg h]
theorem marksOf_mark (l : List News) (n : News) (srcs : Int) (h : n.do_ = 3) (h0 : 0 ≤ n.src) (hs : n.src < srcs) (h4 : srcs ≤ 4) : marksOf (l ++ [n]) srcs = (marksOf l srcs).set n.src.toNat (max (rdOf 0 (marksOf l srcs) n.src) n.body.at_) := by
  unfold marksOf
  rw [hearAll_snoc, hear, if_pos h]
  have hl := hearAll_mlen l
  generalize (hearAll l).2 = M at hl ⊢
  have e : rdOf 0 (M.take srcs.toNat) n.src = M.getD n.src.toNat 0 := by
    unfold rdOf
    rw [List.getD_eq_getElem?_getD, List.getElem?_take_of_lt (by omega), ← List.getD_eq_getElem?_getD]
  rw [e]
  show (hearM M n).take srcs.toNat = _
  unfold hearM
  rw [List.take_set]

set_option maxRecDepth 100000 in
set_option maxHeartbeats 2000000 in
theorem ref_MarksOfN (l : List News) (A : Option Addr) (c : Nat) (N : Nat) (w : World) (hr : NewsRow w A l.length l) (hc : l.length ≤ c) (h1 : 1 ≤ N) (h4 : N ≤ 4) (hsrc : ∀ n ∈ l, 0 ≤ n.src ∧ n.src < (N : Int)) :
    Calls Try.prog 47 #[.slice A l.length c, .int .i64 (N : Int)] w (OwnPost (Kd.int .i64) 3 w (marksOf l N)) := by
  have hm : l.length ≤ 9223372036854775807 := hr.2.1
  have Hr := Lib.hid hr
  have Hsrc := Lib.hid hsrc
  clear hr hsrc
  go_enter Try.func47, Try.ntmps47
  go_wp2_with (refine Kd.R_make (Kd.int .i64) (w0 := w) w.heap.size 3 rfl (N := 8) rfl 27 _ _ rfl (N : Int) rfl rfl Try.underlying27 (.int .i64 0) 8 info_int rfl (by decide) (by omega) 0 (ok := fun _ => True) (okp := fun _ => False) rfl (fun _ h => h.elim) trivial (by omega) (by omega) (Below.refl _ _) (Nat.le_refl _) ?_; intro v1 w1 hO1 hb1 hg1 hat1)
  rw [Int.toNat_natCast] at hO1
  obtain ⟨g, cg, rfl⟩ : ∃ g c, v1 = .slice (some ⟨g, 0, none⟩) N c := by
    obtain ⟨g, cap, hv, _⟩ := Kd.R_form hO1 (by simp; omega)
    exact ⟨g, cap, by rw [hv]; simp⟩
  have hgb : w.heap.size ≤ g := Kd.R_base hO1 g rfl
  have hm0 : marksOf (l.take 0) N = List.replicate N 0 := by
    obtain rfl | rfl | rfl | rfl : N = 1 ∨ N = 2 ∨ N = 3 ∨ N = 4 := by omega
    all_goals rfl
  rw [← hm0] at hO1
  clear hm0 hg1 hat1
  go_loopw [6] (fun i wr => ∃ k : Nat, k ≤ l.length ∧ i = .int .i64 k ∧ Own (Kd.int .i64) 3 wr w.heap.size (.slice (some ⟨g, 0, none⟩) N cg) (marksOf (l.take k) N) ∧ Below w.heap.size w wr) (fun i _ => l.length - (intOf i).toNat)
  case atStart => exact ⟨0, Nat.zero_le _, rfl, hO1, hb1⟩
  case round =>
    obtain ⟨k, hk, rfl, hO, hB⟩ := hrel
    by_cases hlt : k < l.length
    · obtain ⟨n, ad, hd, htk, hget, rfl, c0, c1, c2, c3, c4, c5, c6⟩ := news_at (news_later Hr.out hB) k hlt
      have hn := Hsrc.out n (List.mem_of_getElem? hget)
      obtain ⟨hn0, hns⟩ := hn
      by_cases h3 : n.do_ = 3
      · have hb3 : (n.do_ == 3) = true := by simpa using h3
        have hmk := marksOf_mark (l.take k) n N h3 hn0 hns (by omega)
        rw [← htk] at hmk
        have hml : (marksOf (l.take k) N).length = N := by rw [marksOf_len (l.take k) N (by omega)]; simp
        have hO' : Own (Kd.int .i64) 3 wr w.heap.size (.slice (some ⟨g, 0, none⟩) (marksOf (l.take k) N).length cg) (marksOf (l.take k) N) := by rw [hml]; exact hO
        obtain ⟨gc, gf⟩ := Kd.R_cell (α := Int) 0 hO' n.src hn0 (by rw [hml]; omega)
        have Hmk := Lib.hid hmk
        have HO := Lib.hid hO'
        have Hml := Lib.hid hml
        have Hgb := Lib.hid hgb
        clear hmk hO hO' hml h3 hd htk hget hgb
        generalize rdOf 0 (marksOf (l.take k) N) n.src = old at *
        have gc' : wr.cell? ⟨g, n.src.toNat, none⟩ = some (.int .i64 old) := gc
        go_upto_region 6 with (fail)
        refine wp_region_quiet_tail 22 (fun W => W = wr.drew) (by kernel_rfl) (by kernel_rfl) rfl ?_
        go_simp
        repeat (refine wpQuiet_step (fun K hK => ?_); go_simp; first | (refine hK _ ?_; clear hK K) | (apply Exists.intro; refine ⟨fun W hC => ?_, hK _ ?_⟩; (first | rfl | (subst hC; go_simp; rfl)); clear hK K))
        refine wpQuiet_nil ?_
        try (intro W hC; subst hC)
        go_wp2
        obtain ⟨hput, hgr⟩ := Kd.R_put HO.out n.src (max old n.body.at_)
        have hput' : Own (Kd.int .i64) 3 (wr.setCell ⟨g, n.src.toNat, none⟩ (.int .i64 (max old n.body.at_))) w.heap.size (.slice (some ⟨g, 0, none⟩) N cg) ((marksOf (l.take k) N).set n.src.toNat (max old n.body.at_)) := by have e := hput; rw [Hml.out] at e; exact e
        exact ⟨⟨k + 1, by omega, by go_num, by rw [Hmk.out]; exact Kd.R_drew hput', below_drew1 (hB.grown hgr hB.size (fun j hj => by cases hj; exact Hgb.out))⟩, by simp [intOf]; omega⟩
      · have hb3 : (n.do_ == 3) = false := by simpa using h3
        have hmk := marksOf_skip (l.take k) n N h3
        rw [← htk] at hmk
        have Hmk := Lib.hid hmk
        clear hmk h3 hd htk hget
        have HO := Lib.hid hO
        clear hO
        go_wp2
        exact ⟨⟨k + 1, by omega, by go_num, by rw [Hmk.out]; exact HO.out, hB⟩, by simp [intOf]; omega⟩
    · have hkl : l.take k = l := by rw [List.take_of_length_le (by omega)]
      rw [hkl] at hO
      have HO := Lib.hid hO
      clear hO hkl
      go_wp2
      go_ret
      exact ⟨_, rfl, HO.out, hB⟩
theorem ref_MarksOf (l : List News) (A : Option Addr) (c : Nat) (srcs : Int) (w : World) (hr : NewsRow w A l.length l) (hc : l.length ≤ c) (h1 : 1 ≤ srcs) (h4 : srcs ≤ 4) (hsrc : ∀ n ∈ l, 0 ≤ n.src ∧ n.src < srcs) :
    Calls Try.prog 47 #[.slice A l.length c, .int .i64 srcs] w (OwnPost (Kd.int .i64) 3 w (marksOf l srcs)) := by
  obtain ⟨N, rfl⟩ : ∃ N : Nat, srcs = (N : Int) := ⟨srcs.toNat, by omega⟩
  exact ref_MarksOfN l A c N w hr hc (by omega) (by omega) hsrc
theorem plainB_srcs {l : List News} {srcs : Int} (h : plainB l srcs = true) : ∀ n ∈ l, 0 ≤ n.src ∧ n.src < srcs := by
  intro n hn
  have := (plainB_src h).2.2 n hn
  simp only [goodB, inB, Bool.and_eq_true, decide_eq_true_eq] at this
  omega
set_option maxRecDepth 100000 in
set_option maxHeartbeats 1000000 in
theorem ref_Marks (l : List News) (A : Option Addr) (c : Nat) (srcs : Int) (w : World) (hr : NewsRow w A l.length l) (hc : l.length ≤ c) :
    Calls Try.prog 15 #[.slice A l.length c, .int .i64 srcs] w (MarksRes (formedB l srcs) (marksOf l srcs) w) := by
  have Hr := Lib.hid hr
  clear hr
  cases hf : formedB l srcs
  · go_enter Try.func15, Try.ntmps15
    go_wp2_with (first | (go_at_call 28; (with_reducible refine (ref_Formed l A c srcs _ Hr.out hc).mono ?_); rintro e w' ⟨rfl, hb⟩))
    go_ret2
    exact ⟨_, rfl, Kd.R_nil _ _ _ _ _, hb⟩
  · have hs := (plainB_src (formedB_plain hf)).1
    have Hs := Lib.hid hs
    have hsrc := Lib.hid (plainB_srcs (formedB_plain hf))
    clear hs
    generalize hmo : marksOf l srcs = mo
    have Hmo := Lib.hid hmo
    clear hmo
    go_enter Try.func15, Try.ntmps15
    go_wp2_with (first
      | (go_at_call 28; (with_reducible refine (ref_Formed l A c srcs _ Hr.out hc).mono ?_); rintro e w' ⟨rfl, hb⟩)
      | (go_at_call 47; (with_reducible refine (ref_MarksOf l A c srcs _ (news_later Hr.out hb) hc Hs.out.1 Hs.out.2 hsrc.out).mono ?_); rintro e w2 ⟨v, rfl, hO, hb2⟩; rw [Hmo.out] at hO))
    go_ret2
    exact ⟨v, rfl, own_lower hO hb.size, below_step hb hb2⟩
end Go.Proofs.Ytdpkpibcjbllcaa
set_option linter.unusedVariables false
set_option linter.unusedSimpArgs false
/-! Words that the laws' texts share. -/
namespace Go.Proofs.Ytdpkpibcjbllcaa
open Go.RowKit Go.Proofs.YtdpkpibcjbllcaaW.PrintWords

/-- A row with an error's number: the row is xs. -/
def RowE {α : Type} (d : Kd α) (t : Nat) (xs : List α) (en : Int) (w : World) (e : Ending) (w' : World) : Prop := ∃ A c, e = .returned (.tuple #[.slice A xs.length c, .int .i64 en]) ∧ Kd.C d w' A xs.length xs ∧ Below w.heap.size w w'
theorem RowE.of {α : Type} {d : Kd α} {t : Nat} {xs : List α} {en : Int} {w w' : World} {v : Value} (hO : Own d t w' w.heap.size v xs) (hb : Below w.heap.size w w') : RowE d t xs en w (.returned (.tuple #[v, .int .i64 en])) w' := by
  obtain ⟨A, c, rfl, _, hr⟩ := own_reads' hO
  exact ⟨A, c, rfl, hr, hb⟩
theorem same_events_self (xs : List Event) (A B : Option Addr) (c1 c2 : Nat) (w : World) (h1 : Kd.C kEvent w A xs.length xs) (h2 : Kd.C kEvent w B xs.length xs) : Calls Try.prog 16 #[.slice A xs.length c1, .slice B xs.length c2] w fun e w' => e = .returned (.bool true) ∧ Below w.heap.size w w' := by
  refine (same_events xs xs A B c1 c2 w h1 h2).mono ?_
  rintro e w' ⟨rfl, hb⟩
  exact ⟨by simp, hb⟩
theorem same_ints_self (xs : List Int) (A B : Option Addr) (c1 c2 : Nat) (w : World) (h1 : Kd.C (Kd.int .i64) w A xs.length xs) (h2 : Kd.C (Kd.int .i64) w B xs.length xs) : Calls Try.prog 17 #[.slice A xs.length c1, .slice B xs.length c2] w fun e w' => e = .returned (.bool true) ∧ Below w.heap.size w w' := by
  refine (same_ints xs xs A B c1 c2 w h1 h2).mono ?_
  rintro e w' ⟨rfl, hb⟩
  exact ⟨by simp, hb⟩
theorem same_news_self (xs : List News) (A B : Option Addr) (c1 c2 : Nat) (w : World) (h1 : Kd.C kNews w A xs.length xs) (h2 : Kd.C kNews w B xs.length xs) : Calls Try.prog 23 #[.slice A xs.length c1, .slice B xs.length c2] w fun e w' => e = .returned (.bool true) ∧ Below w.heap.size w w' := by
  refine (same_news xs xs A B c1 c2 w h1 h2).mono ?_
  rintro e w' ⟨rfl, hb⟩
  exact ⟨by simp, hb⟩
theorem own_readsS {α : Type} {d : Kd α} {e base n c : Nat} {w : World} {A : Option Addr} {xs : List α} (h : Own d e w base (.slice A n c) xs) : d.C w A xs.length xs := by
  obtain ⟨A', c', hv, _, hr⟩ := own_reads' h
  injection hv with e1
  rw [e1]; exact hr
/-- A row of the call's own with an error's number. -/
def OwnE {α : Type} (d : Kd α) (t : Nat) (xs : List α) (en : Int) (w : World) (e : Ending) (w' : World) : Prop := ∃ A c, e = .returned (.tuple #[.slice A xs.length c, .int .i64 en]) ∧ Own d t w' w.heap.size (.slice A xs.length c) xs ∧ Below w.heap.size w w'
theorem OwnE.of {α : Type} {d : Kd α} {t : Nat} {xs : List α} {en : Int} {w w' : World} {v : Value} (hO : Own d t w' w.heap.size v xs) (hb : Below w.heap.size w w') : OwnE d t xs en w (.returned (.tuple #[v, .int .i64 en])) w' := by
  obtain ⟨A, c, rfl, _, _⟩ := own_reads' hO
  exact ⟨A, c, rfl, hO, hb⟩
theorem addr0 (g m : Nat) : (⟨g, 0, none⟩ : Addr).add m = ⟨g, m, none⟩ := by cases m <;> simp [Addr.add]
end Go.Proofs.Ytdpkpibcjbllcaa
