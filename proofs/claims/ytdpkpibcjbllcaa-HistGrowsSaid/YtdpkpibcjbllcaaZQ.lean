/-
  Texts of one hand, laid together: Best.
-/
import Derived.Test.YtdpkpibcjbllcaaZO
import Derived.Test.YtdpkpibcjbllcaaZI
set_option linter.unusedVariables false
set_option linter.unusedSimpArgs false
/-! What is best of a list of news: plain. -/
namespace Go.Proofs.Ytdpkpibcjbllcaa
open Go.RowKit Go.Proofs.YtdpkpibcjbllcaaW.PrintWords

/-- Two of the news are of one event, or marks of one source. -/
def Rel (x y : News) : Prop := (x.do_ = 3 ↔ y.do_ = 3) ∧ x.src = y.src ∧ (x.do_ ≠ 3 → x.id = y.id)
def val (x : News) : Int := if x.do_ = 3 then x.body.at_ else x.ver
theorem Rel.symm {x y : News} (h : Rel x y) : Rel y x := ⟨h.1.symm, h.2.1.symm, fun k => (h.2.2 (fun e => k (h.1.1 e))).symm⟩
theorem Rel.trans {x y z : News} (h : Rel x y) (k : Rel y z) : Rel x z := ⟨h.1.trans k.1, h.2.1.trans k.2.1, fun e => (h.2.2 e).trans (k.2.2 (fun e2 => e (h.1.2 e2)))⟩
def Best (U : News → Prop) (x : News) : Prop := U x ∧ (x.do_ = 3 → x.body.at_ ≠ 0) ∧ ∀ y, U y → Rel y x → val y ≤ val x
def NoClash (l : List News) : Prop := ∀ x ∈ l, ∀ y ∈ l, clashB x y = false
theorem clashB_symm (x y : News) : clashB x y = clashB y x := by
  rw [Bool.eq_iff_iff]
  simp only [clashB, newsEq, Bool.and_eq_true, Bool.not_eq_true', beq_iff_eq, beq_eq_false_iff_ne, decide_eq_false_iff_not]
  constructor
  · rintro ⟨h1, h2, h3, h4, h5, h6⟩; exact ⟨h2, h1, h3.symm, h4.symm, h5.symm, fun e => h6 e.symm⟩
  · rintro ⟨h1, h2, h3, h4, h5, h6⟩; exact ⟨h2, h1, h3.symm, h4.symm, h5.symm, fun e => h6 e.symm⟩
theorem clashB_self (x : News) : clashB x x = false := by simp [clashB, newsEq]
theorem clashIn_none (n : News) : ∀ (l : List News) (i : Nat), clashIn n l i = none ↔ ∀ x ∈ l, clashB x n = false
  | [], i => by simp [clashIn]
  | m :: l, i => by
    simp only [clashIn]
    cases h : clashB m n
    · simp [h, clashIn_none n l (i + 1)]
    · simp [h]
theorem clashFrom_none : ∀ (l pre : List News), (∀ x ∈ pre, ∀ y ∈ pre, clashB x y = false) → (clashFrom pre l = none ↔ ∀ x ∈ pre ++ l, ∀ y ∈ pre ++ l, clashB x y = false)
  | [], pre, hp => by simpa [clashFrom] using hp
  | n :: l, pre, hp => by
    simp only [clashFrom]
    cases h : clashIn n pre 0 with
    | some i =>
      simp only [reduceCtorEq, false_iff]
      intro hall
      have : clashIn n pre 0 = none := (clashIn_none n pre 0).2 fun x hx => hall x (List.mem_append_left _ hx) n (by simp)
      rw [this] at h
      cases h
    | none =>
      have h1 := (clashIn_none n pre 0).1 h
      have h2 : ∀ x ∈ pre ++ [n], ∀ y ∈ pre ++ [n], clashB x y = false := by
        intro x hx y hy
        rcases List.mem_append.1 hx with kx | kx <;> rcases List.mem_append.1 hy with ky | ky
        · exact hp x kx y ky
        · obtain rfl : y = n := by simpa using ky
          exact h1 x kx
        · obtain rfl : x = n := by simpa using kx
          rw [clashB_symm]; exact h1 y ky
        · obtain rfl : x = n := by simpa using kx
          obtain rfl : y = x := by simpa using ky
          exact clashB_self _
      have := clashFrom_none l (pre ++ [n]) h2
      rw [this]
      simp
theorem clashOf_iff (l : List News) : (clashOf l).2.2 = false ↔ NoClash l := by
  have h := clashFrom_none l [] (by simp)
  rw [List.nil_append] at h
  unfold NoClash
  rw [← h]
  unfold clashOf
  cases clashFrom [] l with
  | none => simp
  | some p => obtain ⟨i, k⟩ := p; simp
theorem formed_iff (l : List News) (srcs : Int) : formedB l srcs = true ↔ GoodAll l srcs ∧ l.length ≤ 60 ∧ NoClash l := by
  unfold formedB
  rw [Bool.and_eq_true, Bool.not_eq_true', clashOf_iff]
  constructor
  · rintro ⟨h1, h2⟩
    exact ⟨⟨(plainB_src h1).1, (plainB_src h1).2.2⟩, (plainB_src h1).2.1, h2⟩
  · rintro ⟨⟨⟨h1, h4⟩, hg⟩, hl, hn⟩
    refine ⟨?_, hn⟩
    unfold plainB inB
    simp only [Bool.and_eq_true, decide_eq_true_eq, Bool.not_eq_true', List.any_eq_false]
    exact ⟨⟨h1, h4⟩, hl, fun x hx => by simp [hg x hx]⟩
theorem cnt_max (l : List News) (k : Key) : (∀ j m, cntOf l k = some (j, m) → ∀ y ∈ l, y.do_ ≠ 3 → keyOf y = k → y.ver ≤ m.ver) ∧ (cntOf l k = none → ∀ y ∈ l, y.do_ ≠ 3 → keyOf y ≠ k) := by
  induction l using snoc_ind with
  | h0 => exact ⟨fun j m h => (by cases h), fun _ y hy => (by simp at hy)⟩
  | h1 l n ih =>
    unfold cntOf at ih ⊢
    rw [cntFrom_snoc]
    by_cases h3 : n.do_ = 3
    · rw [cntStep.eq_def, if_pos h3]
      refine ⟨fun j m h y hy hy3 hyk => ?_, fun h y hy hy3 => ?_⟩
      · rcases List.mem_append.1 hy with hy | hy
        · exact ih.1 j m h y hy hy3 hyk
        · obtain rfl : y = n := by simpa using hy
          exact absurd h3 hy3
      · rcases List.mem_append.1 hy with hy | hy
        · exact ih.2 h y hy hy3
        · obtain rfl : y = n := by simpa using hy
          exact absurd h3 hy3
    · by_cases hk : n.src = k.src ∧ n.id = k.id
      · rw [cntStep.eq_def, if_neg h3, if_pos hk.1, if_pos hk.2]
        cases hb : cntFrom k.src k.id none 0 l with
        | none =>
          refine ⟨fun j m h y hy hy3 hyk => ?_, fun h => (by cases h)⟩
          simp only [Option.some.injEq, Prod.mk.injEq] at h
          obtain ⟨_, rfl⟩ := h
          rcases List.mem_append.1 hy with hy | hy
          · exact absurd hyk (ih.2 hb y hy hy3)
          · obtain rfl : y = n := by simpa using hy
            exact Int.le_refl _
        | some q =>
          obtain ⟨j', m'⟩ := q
          simp only
          refine ⟨fun j m h y hy hy3 hyk => ?_, fun h => (by split at h <;> cases h)⟩
          split at h
          · rename_i hv
            simp only [Option.some.injEq, Prod.mk.injEq] at h
            obtain ⟨_, rfl⟩ := h
            rcases List.mem_append.1 hy with hy | hy
            · have := ih.1 j' m' hb y hy hy3 hyk
              omega
            · obtain rfl : y = n := by simpa using hy
              exact Int.le_refl _
          · rename_i hv
            simp only [Option.some.injEq, Prod.mk.injEq] at h
            obtain ⟨_, rfl⟩ := h
            rcases List.mem_append.1 hy with hy | hy
            · exact ih.1 j' m' hb y hy hy3 hyk
            · obtain rfl : y = n := by simpa using hy
              omega
      · have e : cntStep k.src k.id (cntFrom k.src k.id none 0 l) (0 + l.length) n = cntFrom k.src k.id none 0 l := by
          rw [cntStep.eq_def, if_neg h3]
          by_cases h1 : n.src = k.src
          · rw [if_pos h1, if_neg (fun h2 => hk ⟨h1, h2⟩)]
          · rw [if_neg h1]
        rw [e]
        have hnk : keyOf n ≠ k := fun e => hk (by rw [← e]; exact ⟨rfl, rfl⟩)
        refine ⟨fun j m h y hy hy3 hyk => ?_, fun h y hy hy3 => ?_⟩
        · rcases List.mem_append.1 hy with hy | hy
          · exact ih.1 j m h y hy hy3 hyk
          · obtain rfl : y = n := by simpa using hy
            exact absurd hyk hnk
        · rcases List.mem_append.1 hy with hy | hy
          · exact ih.2 h y hy hy3
          · obtain rfl : y = n := by simpa using hy
            exact hnk
/-- The least list has the best ones. -/
theorem mem_leastR {l : List News} {srcs : Int} (hg : GoodAll l srcs) (hn : NoClash l) (x : News) : x ∈ leastR l ↔ Best (· ∈ l) x := by
  unfold leastR
  rw [mem_leastF]
  constructor
  · rintro ⟨j, h1, h2⟩
    have hm := List.mem_of_getElem? h1
    refine ⟨hm, fun h3 h0 => ?_, fun y hy hr => ?_⟩
    · rw [keepL, if_pos h3, h0] at h2
      simp at h2
    · by_cases h3 : x.do_ = 3
      · rw [keepL, if_pos h3] at h2
        simp only [Bool.not_eq_true', Bool.or_eq_false_iff, decide_eq_false_iff_not] at h2
        have hy3 := hr.1.2 h3
        have hs := hg.heard y hy
        have := mark_le l y hy hy3 hs.1 hs.2
        have e : markAt l y = markAt l x := by unfold markAt; rw [hr.2.1]
        unfold val
        rw [if_pos h3, if_pos hy3]
        omega
      · rw [keepL, if_neg h3] at h2
        have e := of_decide_eq_true h2
        unfold cntAt at e
        cases hc : cntOf l (keyOf x) with
        | none => rw [hc] at e; simp only [cntI] at e; omega
        | some q =>
          obtain ⟨i, m⟩ := q
          rw [hc] at e
          simp only [cntI] at e
          have hij : i = j := by omega
          subst hij
          have hv := (cnt_valid l _ i m hc).1
          rw [h1] at hv
          obtain rfl : x = m := Option.some.inj hv
          have hy3 : y.do_ ≠ 3 := fun e => h3 (hr.1.1 e)
          have := (cnt_max l (keyOf x)).1 i x hc y hy hy3 (by rw [keyOf, keyOf, hr.2.1, hr.2.2 hy3])
          unfold val
          rw [if_neg h3, if_neg hy3]
          exact this
  · rintro ⟨hm, h0, hb⟩
    by_cases h3 : x.do_ = 3
    · obtain ⟨j, hj⟩ := List.mem_iff_getElem?.1 hm
      refine ⟨j, hj, ?_⟩
      rw [keepL, if_pos h3]
      simp only [Bool.not_eq_true', Bool.or_eq_false_iff, decide_eq_false_iff_not, beq_eq_false_iff_ne]
      refine ⟨h0 h3, fun hlt => ?_⟩
      have hs := hg.heard x hm
      have hpos : 0 ≤ x.body.at_ := (good_mark (hg.2 x hm) h3).2
      obtain ⟨y, hy, hy3, hys, hya⟩ := mark_ex l hg.heard x.src.toNat (by omega) (by unfold markAt at hlt; omega)
      have := hb y hy ⟨⟨fun _ => h3, fun _ => hy3⟩, by omega, fun e => absurd hy3 e⟩
      unfold val at this
      rw [if_pos h3, if_pos hy3, hya] at this
      unfold markAt at hlt
      omega
    · have hk := cnt_max l (keyOf x)
      cases hc : cntOf l (keyOf x) with
      | none => exact absurd rfl (hk.2 hc x hm h3)
      | some q =>
        obtain ⟨j, m⟩ := q
        obtain ⟨hv, hkm⟩ := cnt_valid l _ j m hc
        have hm3 := cnt_notmark l _ j m hc
        have hmm := List.mem_of_getElem? hv
        have v1 := hk.1 j m hc x hm h3 rfl
        have hkk : m.src = x.src ∧ m.id = x.id := by
          simp only [keyOf, Key.mk.injEq] at hkm
          exact hkm
        have v2 := hb m hmm ⟨⟨fun e => absurd e hm3, fun e => absurd e h3⟩, hkk.1, fun _ => hkk.2⟩
        unfold val at v2
        rw [if_neg h3, if_neg hm3] at v2
        have he : m = x := by
          have := hn m hmm x hm
          unfold clashB newsEq at this
          have hv2 : m.ver = x.ver := by omega
          simpa [hm3, h3, hkk.1, hkk.2, hv2] using this
        subst he
        refine ⟨j, hv, ?_⟩
        rw [keepL, if_neg h3]
        unfold cntAt
        rw [hc]
        simp [cntI]
theorem leastR_sorted {l : List News} {srcs : Int} (hf : GoodAll l srcs) : (leastR l).Pairwise ltN := leastF_sorted _ _ l (fun m hm h3 => by rw [(good_mark (hf.2 m hm) h3).1]) (fun i j a b => keep_rank hf i j a b)
theorem sorted_ext {α : Type} {lt : α → α → Prop} (hirr : ∀ a, ¬ lt a a) (htr : ∀ a b c, lt a b → lt b c → lt a c) : ∀ {xs ys : List α}, xs.Pairwise lt → ys.Pairwise lt → (∀ a, a ∈ xs ↔ a ∈ ys) → xs = ys
  | [], [], _, _, _ => rfl
  | [], y :: ys, _, _, h => by have := (h y).2 (by simp); simp at this
  | x :: xs, [], _, _, h => by have := (h x).1 (by simp); simp at this
  | x :: xs, y :: ys, hx, hy, h => by
    rw [List.pairwise_cons] at hx hy
    have e : x = y := by
      rcases List.mem_cons.1 ((h x).1 (by simp)) with h1 | h1
      · exact h1
      · rcases List.mem_cons.1 ((h y).2 (by simp)) with h2 | h2
        · exact h2.symm
        · exact absurd (htr _ _ _ (hy.1 x h1) (hx.1 y h2)) (hirr y)
    subst e
    refine congrArg _ (sorted_ext hirr htr hx.2 hy.2 fun a => ?_)
    constructor
    · intro ha
      rcases List.mem_cons.1 ((h a).1 (List.mem_cons_of_mem _ ha)) with h1 | h1
      · subst h1; exact absurd (hx.1 a ha) (hirr a)
      · exact h1
    · intro ha
      rcases List.mem_cons.1 ((h a).2 (List.mem_cons_of_mem _ ha)) with h1 | h1
      · subst h1; exact absurd (hy.1 a ha) (hirr a)
      · exact h1
/-- Two least lists with one meaning are one. -/
theorem leastR_ext {l m : List News} {s1 s2 : Int} (h1 : GoodAll l s1) (h2 : GoodAll m s2) (n1 : NoClash l) (n2 : NoClash m) (h : ∀ x, Best (· ∈ l) x ↔ Best (· ∈ m) x) : leastR l = leastR m :=
  sorted_ext ltN_irr (fun _ _ _ => ltN_trans) (leastR_sorted h1) (leastR_sorted h2) (fun x => by rw [mem_leastR h1 n1, mem_leastR h2 n2]; exact h x)
theorem best_congr {U V : News → Prop} (h : ∀ x, U x ↔ V x) (x : News) : Best U x ↔ Best V x := by
  unfold Best
  simp only [h]
theorem leastR_mem {l : List News} {x : News} (h : x ∈ leastR l) : x ∈ l := by
  unfold leastR at h
  rw [mem_leastF] at h
  obtain ⟨j, h1, _⟩ := h
  exact List.mem_of_getElem? h1
theorem leastR_good {l : List News} {srcs : Int} (h : GoodAll l srcs) : GoodAll (leastR l) srcs := ⟨h.1, fun n hn => h.2 n (leastR_mem hn)⟩
theorem leastR_clash {l : List News} (h : NoClash l) : NoClash (leastR l) := fun x hx y hy => h x (leastR_mem hx) y (leastR_mem hy)
/-- Of what there is, something is best (if marks count). -/
theorem best_ex {U : List News} {srcs : Int} (hg : GoodAll U srcs) (y : News) (hy : y ∈ U) (h0 : y.do_ = 3 → y.body.at_ ≠ 0) : ∃ z, Best (· ∈ U) z ∧ Rel y z ∧ val y ≤ val z := by
  have key : ∀ (L : List News), ∃ z, (z = y ∨ z ∈ L) ∧ Rel y z ∧ val y ≤ val z ∧ ∀ x ∈ L, Rel x y → val x ≤ val z := by
    intro L
    induction L with
    | nil => exact ⟨y, .inl rfl, ⟨Iff.rfl, rfl, fun _ => rfl⟩, Int.le_refl _, fun x hx => by simp at hx⟩
    | cons a L ih =>
      obtain ⟨z, hz, hr, hv, hm⟩ := ih
      by_cases ha : Rel a y ∧ val z < val a
      · exact ⟨a, .inr (by simp), ha.1.symm, by omega, fun x hx hxr => by
          rcases List.mem_cons.1 hx with e | hx
          · subst e; exact Int.le_refl _
          · have := hm x hx hxr; omega⟩
      · refine ⟨z, hz.imp id (List.mem_cons_of_mem _), hr, hv, fun x hx hxr => ?_⟩
        rcases List.mem_cons.1 hx with e | hx
        · subst e
          by_cases hlt : val z < val x
          · exact absurd ⟨hxr, hlt⟩ ha
          · omega
        · exact hm x hx hxr
  obtain ⟨z, hz, hr, hv, hm⟩ := key U
  have hzU : z ∈ U := hz.elim (fun e => e ▸ hy) id
  refine ⟨z, ⟨hzU, fun h3 => ?_, fun x hx hxr => hm x hx (hxr.trans hr.symm)⟩, hr, hv⟩
  have hy3 := hr.1.2 h3
  have hpos := (good_mark (hg.2 y hy) hy3).2
  have := h0 hy3
  unfold val at hv
  rw [if_pos hy3, if_pos h3] at hv
  omega
theorem best_best {U : List News} {C : News → Prop} {srcs : Int} (hg : GoodAll U srcs) (hC : ∀ x, C x → x.do_ = 3 → 0 ≤ x.body.at_) (x : News) : Best (fun y => Best (· ∈ U) y ∨ C y) x ↔ Best (fun y => y ∈ U ∨ C y) x := by
  constructor
  · rintro ⟨hx, h0, hm⟩
    refine ⟨hx.imp (fun h => h.1) id, h0, fun y hy hr => ?_⟩
    rcases hy with hy | hy
    · by_cases hz : y.do_ = 3 → y.body.at_ ≠ 0
      · obtain ⟨z, hz1, hz2, hz3⟩ := best_ex hg y hy hz
        have := hm z (.inl hz1) (hz2.symm.trans hr)
        omega
      · have h3 : y.do_ = 3 := by
          apply Classical.byContradiction
          intro h; exact hz fun e => absurd e h
        have ha : y.body.at_ = 0 := by
          apply Classical.byContradiction
          intro h; exact hz fun _ => h
        have hx3 := hr.1.1 h3
        have hpos : 0 ≤ x.body.at_ := by
          rcases hx with hx | hx
          · exact (good_mark (hg.2 x hx.1) hx3).2
          · exact hC x hx hx3
        unfold val
        rw [if_pos h3, if_pos hx3]
        omega
    · exact hm y (.inr hy) hr
  · rintro ⟨hx, h0, hm⟩
    refine ⟨hx.imp (fun h => ⟨h, h0, fun y hy hr => hm y (.inl hy) hr⟩) id, h0, fun y hy hr => hm y (hy.imp (fun h => h.1) id) hr⟩
end Go.Proofs.Ytdpkpibcjbllcaa
