/-
  Texts of one hand, laid together: SafeP.
-/
import Derived.Test.YtfmojgdomficlaaZN
set_option linter.unusedVariables false
set_option linter.unusedSimpArgs false
/-! What was written, but for what crashes took: the pure side. -/
namespace Go.Proofs.Ytfmojgdomficlaa

/-- The open file. -/
def openF (d : SDisk) : SFile := fileOf d.files (openNo d)
theorem openF_at {d : SDisk} (hd : DiskOk d) : openF d = fileAt d (openAt d) := openFile_of hd hd.ready.open
theorem openF_ok {d : SDisk} (hd : DiskOk d) : FileOk (openNo d) (openF d) := by
  have hm : openF d ∈ d.files := by rw [openF_at hd]; exact List.mem_of_getElem? (fileAt_get hd.ready.open.lt)
  exact hd.each _ hm
theorem openF_mem {d : SDisk} (hd : DiskOk d) : openF d ∈ d.files := by rw [openF_at hd]; exact List.mem_of_getElem? (fileAt_get hd.ready.open.lt)
theorem there_open {d : SDisk} (hd : DiskOk d) : thereOf d = headNews d ++ (goodOf (openF d).recs).map (·.news) := by rw [openF_at hd]; exact there_split hd hd.ready.open
/-- What was written so far, and how much of it is safe: one more step. -/
def allStep (p : List News × Nat) (s : SStep) (dn : Bool) : List News × Nat :=
  if dn = false then p
  else if s.do_ = 1 then (p.1 ++ [s.news], p.2)
  else if s.do_ = 2 ∨ s.do_ = 3 then (p.1, p.1.length)
  else if s.do_ = 5 ∨ (s.do_ = 4 ∧ 0 < s.stop) then
    (p.1.take (p.2 + min (s.k * (if s.do_ = 5 then 1 else 0)).toNat (p.1.length - p.2)), p.2 + min (s.k * (if s.do_ = 5 then 1 else 0)).toNat (p.1.length - p.2))
  else if s.do_ = 6 then (p.1, p.1.length)
  else p
/-- How a device stands to what was written. -/
structure Kept (d : SDisk) (p : List News × Nat) : Prop where
  ok : DiskOk d
  le : p.2 ≤ p.1.length
  tail : p.1.drop p.2 = ((goodOf (openF d).recs).drop (openF d).safe.toNat).map (·.news)
  head : Eqv (headNews d ++ ((goodOf (openF d).recs).take (openF d).safe.toNat).map (·.news)) (p.1.take p.2)
  calm : (openF d).recs.all rightB = true ∨ (openF d).safe = (openF d).recs.length
  src : ∀ n ∈ p.1, 0 ≤ n.src ∧ n.src < 4
theorem Kept.eqv {d : SDisk} {p : List News × Nat} (h : Kept d p) : Eqv (thereOf d) p.1 := by
  have e1 : (goodOf (openF d).recs).map (·.news) = ((goodOf (openF d).recs).take (openF d).safe.toNat).map (·.news) ++ ((goodOf (openF d).recs).drop (openF d).safe.toNat).map (·.news) := by
    rw [← List.map_append, List.take_append_drop]
  rw [there_open h.ok, e1, ← List.append_assoc, ← h.tail]
  have := h.head.append (Eqv.refl (p.1.drop p.2))
  rwa [List.take_append_drop] at this
/-- Everything is safe. -/
theorem Kept.all {d : SDisk} {all : List News} (hd : DiskOk d) (hs : (openF d).safe = (openF d).recs.length) (he : Eqv (thereOf d) all) (hsrc : ∀ n ∈ all, 0 ≤ n.src ∧ n.src < 4) : Kept d (all, all.length) := by
  have hl : (goodOf (openF d).recs).length ≤ (openF d).safe.toNat := by rw [hs]; have := goodOf_le (openF d).recs; omega
  refine ⟨hd, Nat.le_refl _, ?_, ?_, .inr hs, hsrc⟩
  · rw [List.drop_of_length_le (Nat.le_refl _), List.drop_of_length_le hl]; rfl
  · rw [List.take_of_length_le (Nat.le_refl _), List.take_of_length_le hl, ← there_open hd]; exact he
theorem kept_begin : Kept beginD ([], 0) := by
  have hd : DiskOk beginD := (disk_iff _).1 (by decide +kernel)
  exact Kept.all (all := []) hd (by decide +kernel) (by have : thereOf beginD = [] := by decide +kernel
                                                        rw [this]; exact Eqv.refl _) (fun n hn => by simp at hn)
/-- The open file is another one of the same number. -/
theorem set_open {d : SDisk} (hd : DiskOk d) (f' : SFile) (hn : f'.no = (fileAt d (openAt d)).no) (hd' : DiskOk ⟨d.files.set (openAt d) f', d.list⟩) :
    openF ⟨d.files.set (openAt d) f', d.list⟩ = f' ∧ headNews ⟨d.files.set (openAt d) f', d.list⟩ = headNews d := by
  have ho := hd.ready.open
  constructor
  · have hm : f' ∈ d.files.set (openAt d) f' := List.mem_of_getElem? (List.getElem?_set_self ho.lt)
    have := fileOf_of hd'.inj hm
    have hno : f'.no = openNo d := by rw [hn, openFile ho]
    rw [hno] at this
    exact this
  · have key : ∀ l : List Int, (∀ no ∈ l, (placeI no d.files 0).isSome = true ∧ no ≠ openNo d) → (l.flatMap fun no => (goodOf (fileOf (d.files.set (openAt d) f') no).recs).map (·.news)) = l.flatMap fun no => (goodOf (fileOf d.files no).recs).map (·.news) := by
      intro l
      induction l with
      | nil => intro _; rfl
      | cons no l ih =>
        intro h
        rw [List.flatMap_cons, List.flatMap_cons, ih fun x hx => h x (List.mem_cons_of_mem _ hx)]
        have h1 := h no List.mem_cons_self
        rw [fileOf_set hd ho hn h1.1 h1.2]
    exact key d.list.dropLast fun no hno => ⟨hd.placed no (List.dropLast_subset _ hno), head_ne hd no hno⟩
theorem idle_step {d : SDisk} {s : SStep} (h : (stepD d s).2 = false) : (stepD d s).1 = d := by
  unfold stepD at h ⊢
  by_cases h5 : s.do_ = 5
  · rw [if_pos h5] at h; cases h
  rw [if_neg h5] at h ⊢
  by_cases h6 : s.do_ = 6
  · rw [if_pos h6] at h; cases h
  rw [if_neg h6] at h ⊢
  by_cases hw : wholeB d = false
  · rw [if_pos hw]
  rw [if_neg hw] at h ⊢
  by_cases h1 : s.do_ = 1
  · rw [if_pos h1] at h ⊢
    unfold writeD at h ⊢
    split at h
    · rename_i hc; rw [if_pos hc]
    · cases h
  rw [if_neg h1] at h ⊢
  by_cases h2 : s.do_ = 2
  · rw [if_pos h2] at h; cases h
  rw [if_neg h2] at h ⊢
  by_cases h3 : s.do_ = 3
  · rw [if_pos h3] at h ⊢
    unfold sealD at h ⊢
    split at h
    · rename_i hc; rw [if_pos hc]
    · cases h
  rw [if_neg h3] at h ⊢
  unfold mergeD at h ⊢
  split at h
  · rename_i hc; rw [if_pos hc]
  · split at h
    · cases h
    · split at h <;> cases h
theorem Kept.write {d : SDisk} {p : List News × Nat} (h : Kept d p) (hw : wholeB d = true) (n : News) (hdone : (writeD d (openAt d) n).2 = true) : Kept (writeD d (openAt d) n).1 (p.1 ++ [n], p.2) := by
  have ho := h.ok.ready.open
  have hok := write_ok h.ok ho hw n
  have hF := openF_at h.ok
  have hfo := openF_ok h.ok
  unfold writeD at hdone hok ⊢
  split at hdone
  · cases hdone
  rename_i hc
  rw [if_neg hc] at hok ⊢
  have hform : formedB (thereOf d ++ [n]) 4 = true := by
    have := fun e => hc (.inr e)
    simpa using this
  have hng : goodB n 4 = true := ((formed_iff' _ _).1 hform).1.2 n (by simp)
  have hall : (fileAt d (openAt d)).recs.all rightB = true := (whole_file hw (List.mem_of_getElem? (fileAt_get ho.lt))).1
  have hno := openFile ho
  have hin : openNo d ∈ d.list := by rw [← hno]; exact (whole_file hw (List.mem_of_getElem? (fileAt_get ho.lt))).2
  obtain ⟨e1, e2⟩ := set_open h.ok ⟨(fileAt d (openAt d)).no, (fileAt d (openAt d)).recs ++ [recOf n], (fileAt d (openAt d)).safe⟩ rfl hok
  have hg : goodOf ((fileAt d (openAt d)).recs ++ [recOf n]) = (fileAt d (openAt d)).recs ++ [recOf n] := by
    rw [goodOf_append hall, goodOf_self (l := [recOf n]) (by simp [recOf_right])]
  have hg0 := goodOf_self hall
  have hsl : (openF d).safe.toNat ≤ (fileAt d (openAt d)).recs.length := by have := hfo.safe1; rw [hF] at this ⊢; omega
  have ht := h.tail
  have hh := h.head
  rw [hF] at ht hh hsl
  rw [hg0] at ht hh
  refine ⟨hok, by have := h.le; simp; omega, ?_, ?_, .inl ?_, ?_⟩
  · show (p.1 ++ [n]).drop p.2 = ((goodOf (openF ⟨d.files.set (openAt d) _, d.list⟩).recs).drop (openF ⟨d.files.set (openAt d) _, d.list⟩).safe.toNat).map (·.news)
    rw [e1]
    show (p.1 ++ [n]).drop p.2 = ((goodOf ((fileAt d (openAt d)).recs ++ [recOf n])).drop (fileAt d (openAt d)).safe.toNat).map (·.news)
    rw [hg, List.drop_append_of_le_length h.le, List.drop_append_of_le_length hsl, List.map_append, ht]
    rfl
  · show Eqv (headNews ⟨d.files.set (openAt d) _, d.list⟩ ++ ((goodOf (openF ⟨d.files.set (openAt d) _, d.list⟩).recs).take (openF ⟨d.files.set (openAt d) _, d.list⟩).safe.toNat).map (·.news)) ((p.1 ++ [n]).take p.2)
    rw [e1, e2]
    show Eqv (headNews d ++ ((goodOf ((fileAt d (openAt d)).recs ++ [recOf n])).take (fileAt d (openAt d)).safe.toNat).map (·.news)) ((p.1 ++ [n]).take p.2)
    rw [hg, List.take_append_of_le_length h.le, List.take_append_of_le_length hsl]
    exact hh
  · show (openF ⟨d.files.set (openAt d) _, d.list⟩).recs.all rightB = true
    rw [e1]
    show ((fileAt d (openAt d)).recs ++ [recOf n]).all rightB = true
    rw [List.all_append, hall]
    simp [recOf_right]
  · intro x hx
    rcases List.mem_append.1 hx with hx | hx
    · exact h.src x hx
    · rw [List.mem_singleton.1 hx]; exact good_src hng
theorem Kept.sync {d : SDisk} {p : List News × Nat} (h : Kept d p) : Kept (syncD d (openAt d)) (p.1, p.1.length) := by
  have ho := h.ok.ready.open
  have hs := sync_ok h.ok ho
  obtain ⟨e1, e2⟩ := set_open h.ok ⟨(fileAt d (openAt d)).no, (fileAt d (openAt d)).recs, (fileAt d (openAt d)).recs.length⟩ rfl hs
  exact Kept.all hs (by show (openF ⟨d.files.set (openAt d) _, d.list⟩).safe = ((openF ⟨d.files.set (openAt d) _, d.list⟩).recs.length : Int); rw [e1]) (by rw [sync_there h.ok ho]; exact h.eqv) h.src
theorem Kept.open {d : SDisk} {p : List News × Nat} (h : Kept d p) : Kept (reopenD d) (p.1, p.1.length) := by
  have hr := reopen_ok h.ok
  exact Kept.all hr (reopen_safe d _ (openF_mem hr)) (by rw [reopen_there h.ok]; exact h.eqv) h.src
theorem Kept.crash {d : SDisk} {p : List News × Nat} (h : Kept d p) (k : Int) (hk : 0 ≤ k) (torn : Bool) : Kept (crashD d (openAt d) k torn) (p.1.take (p.2 + min k.toNat (p.1.length - p.2)), p.2 + min k.toNat (p.1.length - p.2)) := by
  have ho := h.ok.ready.open
  have hs := crash_ok h.ok ho k torn hk
  have hF := openF_at h.ok
  have hfo := openF_ok h.ok
  have hle := h.le
  obtain ⟨e1, e2⟩ := set_open h.ok ⟨(fileAt d (openAt d)).no, keptOf (fileAt d (openAt d)) k torn, (keptOf (fileAt d (openAt d)) k torn).length⟩ rfl hs
  have hm : (p.1.take (p.2 + min k.toNat (p.1.length - p.2))).length = p.2 + min k.toNat (p.1.length - p.2) := by rw [List.length_take]; omega
  have hgoal : Kept (crashD d (openAt d) k torn) (p.1.take (p.2 + min k.toNat (p.1.length - p.2)), (p.1.take (p.2 + min k.toNat (p.1.length - p.2))).length) := by
    refine Kept.all hs (by show (openF ⟨d.files.set (openAt d) _, d.list⟩).safe = ((openF ⟨d.files.set (openAt d) _, d.list⟩).recs.length : Int); rw [e1]) ?_ (fun n hn => h.src n ((List.take_sublist _ _).subset hn))
    have hth : thereOf (crashD d (openAt d) k torn) = headNews d ++ (goodOf ((fileAt d (openAt d)).recs.take (leftOf (fileAt d (openAt d)) k))).map (·.news) := by
      rw [there_open hs]
      show headNews ⟨d.files.set (openAt d) _, d.list⟩ ++ (goodOf (openF ⟨d.files.set (openAt d) _, d.list⟩).recs).map (·.news) = _
      rw [e1, e2]
      show _ ++ (goodOf (keptOf (fileAt d (openAt d)) k torn)).map (·.news) = _
      rw [kept_good]
    rw [hth]
    have ht := h.tail
    have hh := h.head
    have hcalm := h.calm
    rw [hF] at ht hh hcalm hfo
    have hs0 := hfo.safe0
    have hs1 := hfo.safe1
    have hlf : leftOf (fileAt d (openAt d)) k = if k < ((fileAt d (openAt d)).recs.length : Int) - (fileAt d (openAt d)).safe then ((fileAt d (openAt d)).safe + k).toNat else (fileAt d (openAt d)).recs.length := rfl
    generalize leftOf (fileAt d (openAt d)) k = lf at hlf ⊢
    rcases hcalm with hall | hsafe
    · rw [goodOf_self hall] at ht hh
      have htr : ((fileAt d (openAt d)).recs.take lf).all rightB = true := List.all_eq_true.2 fun x hx => List.all_eq_true.1 hall x ((List.take_sublist _ _).subset hx)
      rw [goodOf_self htr]
      clear htr hall e1 e2 hs hm hfo hF
      generalize (fileAt d (openAt d)).recs = rs at *
      generalize (fileAt d (openAt d)).safe = sf at *
      have hlen := congrArg List.length ht
      simp only [List.length_drop, List.length_map] at hlen
      have hl2 : lf = sf.toNat + min k.toNat (p.1.length - p.2) := by
        rw [hlf]
        split <;> omega
      rw [hl2, List.take_add, List.map_append, ← List.append_assoc, List.take_add, ht]
      refine hh.append ?_
      rw [List.map_take]
      exact Eqv.refl _
    · have hl2 : lf = (fileAt d (openAt d)).recs.length := by
        rw [hlf, if_neg (by omega)]
      have hlen := congrArg List.length ht
      simp only [List.length_drop, List.length_map] at hlen
      have hgl := goodOf_le (fileAt d (openAt d)).recs
      have hp : p.1.length = p.2 := by omega
      rw [hl2, List.take_length, List.take_of_length_le (show p.1.length ≤ p.2 + min k.toNat (p.1.length - p.2) by omega), ← hF, ← there_open h.ok]
      exact h.eqv
  rw [hm] at hgoal
  exact hgoal
/-- A device of the same open file that says the same ahead of it. -/
theorem Kept.other {d d' : SDisk} {p : List News × Nat} (h : Kept d p) (hok : DiskOk d') (hf : openF d' = openF d) (he : Eqv (headNews d') (headNews d)) : Kept d' p := by
  refine ⟨hok, h.le, by rw [hf]; exact h.tail, ?_, by rw [hf]; exact h.calm, h.src⟩
  rw [hf]
  exact (he.append (Eqv.refl _)).trans h.head
theorem fresh_open {d : SDisk} (hd : DiskOk d) (r : List SRec) (l : List Int) (hl : openNo ⟨(freshD d r).files, l⟩ = openNo d) : openF ⟨(freshD d r).files, l⟩ = openF d := by
  unfold openF
  rw [hl]
  exact fresh_old hd r (hd.placed _ (List.mem_of_getLast? (by rw [openNo]; cases h : d.list.getLast? with
    | none => exact absurd (List.getLast?_eq_none_iff.1 h) hd.ne
    | some x => rfl)))
theorem flat_fresh {d : SDisk} (hd : DiskOk d) (r : List SRec) : ∀ l : List Int, (∀ no ∈ l, (placeI no d.files 0).isSome = true) → (l.flatMap fun no => (goodOf (fileOf (freshD d r).files no).recs).map (·.news)) = l.flatMap fun no => (goodOf (fileOf d.files no).recs).map (·.news)
  | [], _ => rfl
  | no :: l, h => by
    rw [List.flatMap_cons, List.flatMap_cons, flat_fresh hd r l fun x hx => h x (List.mem_cons_of_mem _ hx), fresh_old hd r (h no List.mem_cons_self)]
theorem Kept.seal {d : SDisk} {p : List News × Nat} (h : Kept d p) (hdone : (sealD d (openAt d)).2 = true) : Kept (sealD d (openAt d)).1 (p.1, p.1.length) := by
  have ho := h.ok.ready.open
  have hok := seal_ok h.ok ho
  have hs := sync_ok h.ok ho
  unfold sealD at hdone hok ⊢
  split at hdone
  · cases hdone
  rename_i hc
  rw [if_neg hc] at hok ⊢
  have hlast : lastNo (syncD d (openAt d)) = lastNo d := lastNo_set d (openAt d) _ _
  have hopn : openNo ⟨(freshD (syncD d (openAt d)) []).files, d.list ++ [lastNo d + 1]⟩ = lastNo d + 1 := by simp [openNo]
  have e2 := fresh_new hs []
  rw [hlast] at e2
  refine Kept.all hok ?_ ?_ h.src
  · show (fileOf (freshD (syncD d (openAt d)) []).files (openNo ⟨(freshD (syncD d (openAt d)) []).files, d.list ++ [lastNo d + 1]⟩)).safe = ((fileOf (freshD (syncD d (openAt d)) []).files (openNo ⟨(freshD (syncD d (openAt d)) []).files, d.list ++ [lastNo d + 1]⟩)).recs.length : Int)
    rw [hopn, e2]
  · have e1 : thereOf ⟨(freshD (syncD d (openAt d)) []).files, d.list ++ [lastNo d + 1]⟩ = thereOf ⟨(freshD (syncD d (openAt d)) []).files, d.list⟩ ++ (goodOf (fileOf (freshD (syncD d (openAt d)) []).files (lastNo d + 1)).recs).map (·.news) := by
      simp [thereOf, List.flatMap_append]
    have e3 : thereOf ⟨(freshD (syncD d (openAt d)) []).files, d.list⟩ = thereOf (syncD d (openAt d)) := there_same fun no hno' => congrArg (fun f => goodOf f.recs) (fresh_old hs [] (hs.placed no hno'))
    show Eqv (thereOf ⟨(freshD (syncD d (openAt d)) []).files, d.list ++ [lastNo d + 1]⟩) p.1
    rw [e1, e2, e3, sync_there h.ok ho]
    have : goodOf ([] : List SRec) = [] := rfl
    rw [this, List.map_nil, List.append_nil]
    exact h.eqv
theorem fresh_at {d : SDisk} (hd : DiskOk d) (r : List SRec) (l : List Int) (hl : openNo ⟨(freshD d r).files, l⟩ = openNo d) : openAt ⟨(freshD d r).files, l⟩ = openAt d := by
  unfold openAt
  rw [hl]
  have ho := hd.ready.open
  obtain ⟨i, hi⟩ := Option.isSome_iff_exists.1 (show (placeI (openNo d) d.files 0).isSome = true by rw [ho.at_]; rfl)
  show (placeI (openNo d) (d.files ++ _) 0).getD 0 = _
  rw [placeI_append _ _ _ _ _ hi, hi]
theorem Kept.merge1 {d : SDisk} {p : List News × Nat} (h : Kept d p) (hw : wholeB d = true) {k : Nat} (hk : k + 2 < d.list.length) (hf : ¬ fullB d = true) : Kept (merge1D d k) p := by
  refine h.other (merge1_ok h.ok hw hk hf) (fresh_open h.ok _ d.list rfl) ?_
  have : headNews (merge1D d k) = headNews d := flat_fresh h.ok (mergeRecs d k) d.list.dropLast fun no hno => h.ok.placed no (List.dropLast_subset _ hno)
  rw [this]
  exact Eqv.refl _
theorem flat_eqv_merge {d : SDisk} (hd : DiskOk d) (hw : wholeB d = true) {k : Nat} (hk : k + 2 < d.list.length) : Eqv (headNews (merge2D d k)) (headNews d) := by
  have hF := merge_facts hd hw hk
  have hpl : ∀ no ∈ d.list, (placeI no d.files 0).isSome = true := hd.placed
  have hl1 : (merge2D d k).list.dropLast = d.list.take k ++ ([lastNo d + 1] ++ (d.list.drop (k + 2)).dropLast) := by
    show (d.list.take k ++ [lastNo d + 1] ++ d.list.drop (k + 2)).dropLast = _
    rw [List.append_assoc, List.dropLast_append_of_ne_nil (by simp), List.dropLast_append_of_ne_nil (by intro e; have := congrArg List.length e; simp at this; omega)]
  have hl2 : d.list.dropLast = d.list.take k ++ ([listAt d k, listAt d (k + 1)] ++ (d.list.drop (k + 2)).dropLast) := by
    have e := list_at hk
    have hne : d.list.drop (k + 2) ≠ [] := by intro e; have := congrArg List.length e; simp at this; omega
    calc d.list.dropLast = (d.list.take k ++ ([listAt d k, listAt d (k + 1)] ++ d.list.drop (k + 2))).dropLast := congrArg List.dropLast e
      _ = _ := by rw [List.dropLast_append_of_ne_nil (by simp), List.dropLast_append_of_ne_nil hne]
  have s1 : ∀ no ∈ d.list.take k, (placeI no d.files 0).isSome = true := fun no hno => hpl no ((List.take_sublist _ _).subset hno)
  have s2 : ∀ no ∈ (d.list.drop (k + 2)).dropLast, (placeI no d.files 0).isSome = true := fun no hno => hpl no ((List.drop_sublist _ _).subset (List.dropLast_subset _ hno))
  have f1 := flat_fresh hd (mergeRecs d k) _ s1
  have f2 := flat_fresh hd (mergeRecs d k) _ s2
  have e2 := fresh_new hd (mergeRecs d k)
  have hr : mergeRecs d k = mergedOf ((fileOf d.files (listAt d k)).recs ++ (fileOf d.files (listAt d (k + 1))).recs) := by
    unfold mergeRecs
    rw [fileNo_of hF.pa, fileNo_of hF.pb]
  have hm : MarksNN ((fileOf d.files (listAt d k)).recs ++ (fileOf d.files (listAt d (k + 1))).recs) := fun r hr h3 => by
    refine good_mark (there_good hd r.news ?_) h3
    rw [there_at hd hk hw]
    refine List.mem_append_right _ (List.mem_append_left _ ?_)
    rw [← List.map_append]
    exact List.mem_map_of_mem hr
  unfold headNews
  rw [hl1, hl2]
  show Eqv ((d.list.take k ++ ([lastNo d + 1] ++ (d.list.drop (k + 2)).dropLast)).flatMap fun no => (goodOf (fileOf (freshD d (mergeRecs d k)).files no).recs).map (·.news)) _
  rw [List.flatMap_append, List.flatMap_append, List.flatMap_append, List.flatMap_append, f1, f2]
  refine (Eqv.refl _).append (Eqv.append ?_ (Eqv.refl _))
  rw [List.flatMap_cons, List.flatMap_nil, List.append_nil, e2, List.flatMap_cons, List.flatMap_cons, List.flatMap_nil, List.append_nil, goodOf_self hF.right, goodOf_self (whole_file hw (fileOf_spec hF.pa).1).1, goodOf_self (whole_file hw (fileOf_spec hF.pb).1).1, ← List.map_append, hr]
  exact merged_eqv _ hm
theorem Kept.merge2 {d : SDisk} {p : List News × Nat} (h : Kept d p) (hw : wholeB d = true) {k : Nat} (hk : k + 2 < d.list.length) (hf : ¬ fullB d = true) : Kept (merge2D d k) p :=
  h.other (merge2_ok h.ok hw hk hf) (fresh_open h.ok _ (merge2D d k).list (merge2_openNo hk)) (flat_eqv_merge h.ok hw hk)
theorem merge3_keeps {d : SDisk} (hd : DiskOk d) {k : Nat} (hk : k + 2 < d.list.length) : ∀ no ∈ (merge2D d k).list, (!(no == listAt d k) && !(no == listAt d (k + 1))) = true := by
  intro no hno
  have h3 := hd.nodup
  have hla : listAt d k ∈ d.list := List.mem_of_getElem? (listAt_get (by omega))
  have hlb : listAt d (k + 1) ∈ d.list := List.mem_of_getElem? (listAt_get (by omega))
  have h2 := fresh_notin hd
  rw [list_at hk, List.nodup_append] at h3
  obtain ⟨n1, n2, n3⟩ := h3
  have m1 := List.nodup_cons.1 n2
  have m2 := List.nodup_cons.1 m1.2
  simp only [merge2D, List.mem_append, List.mem_singleton] at hno
  simp only [Bool.and_eq_true, Bool.not_eq_true', beq_eq_false_iff_ne]
  rcases hno with (h | rfl) | h
  · exact ⟨n3 no h _ List.mem_cons_self, n3 no h _ (List.mem_cons_of_mem _ List.mem_cons_self)⟩
  · exact ⟨fun e => h2 (e ▸ hla), fun e => h2 (e ▸ hlb)⟩
  · exact ⟨fun e => m1.1 (e ▸ List.mem_cons_of_mem _ h), fun e => m2.1 (e ▸ h)⟩
theorem Kept.merge3 {d : SDisk} {p : List News × Nat} (h : Kept d p) (hw : wholeB d = true) {k : Nat} (hk : k + 2 < d.list.length) (hf : ¬ fullB d = true) : Kept (merge3D d k) p := by
  have h2 := h.merge2 hw hk hf
  have hkeep := merge3_keeps h.ok hk
  have hfile : ∀ no ∈ (merge2D d k).list, fileOf (merge3D d k).files no = fileOf (merge2D d k).files no := fun no hno => drop_file h2.ok (fun no => !(no == listAt d k) && !(no == listAt d (k + 1))) (h2.ok.placed no hno) (hkeep no hno)
  have hopn : openNo (merge3D d k) = openNo (merge2D d k) := rfl
  have hol : openNo (merge2D d k) ∈ (merge2D d k).list := List.mem_of_getLast? (by rw [openNo]; cases e : (merge2D d k).list.getLast? with
    | none => exact absurd (List.getLast?_eq_none_iff.1 e) h2.ok.ne
    | some x => rfl)
  refine h2.other (merge3_ok h.ok hw hk hf) (by unfold openF; rw [hopn]; exact hfile _ hol) ?_
  have key : ∀ l : List Int, (∀ no ∈ l, no ∈ (merge2D d k).list) → (l.flatMap fun no => (goodOf (fileOf (merge3D d k).files no).recs).map (·.news)) = l.flatMap fun no => (goodOf (fileOf (merge2D d k).files no).recs).map (·.news) := by
    intro l
    induction l with
    | nil => intro _; rfl
    | cons no l ih => intro hh; rw [List.flatMap_cons, List.flatMap_cons, ih fun x hx => hh x (List.mem_cons_of_mem _ hx), hfile no (hh no List.mem_cons_self)]
  have : headNews (merge3D d k) = headNews (merge2D d k) := key (merge2D d k).list.dropLast fun no hno => List.dropLast_subset _ hno
  rw [this]
  exact Eqv.refl _
/-- A step keeps it. -/
theorem Kept.step {d : SDisk} {p : List News × Nat} (h : Kept d p) {s : SStep} (hf : fitsB s = true) : Kept (stepD d s).1 (allStep p s (stepD d s).2) := by
  cases hdone : (stepD d s).2
  · rw [idle_step hdone]
    exact h
  have hk := fits_k hf
  have hdo : s.do_ = 1 ∨ s.do_ = 2 ∨ s.do_ = 3 ∨ s.do_ = 4 ∨ s.do_ = 5 ∨ s.do_ = 6 := by
    unfold fitsB at hf
    split at hf
    · cases hf
    split at hf
    · omega
    split at hf
    · omega
    · have := of_decide_eq_true hf; omega
  unfold allStep
  rw [if_neg (by simp)]
  unfold stepD at hdone ⊢
  rcases hdo with e | e | e | e | e | e
  all_goals simp only [e, if_true, if_false, reduceIte, Int.reduceEq, or_true, or_false, true_or, false_or, true_and, false_and, and_true, and_false] at hdone ⊢
  · by_cases hw : wholeB d = false
    · simp only [hw, if_true, reduceIte] at hdone; cases hdone
    simp only [hw, if_false, reduceIte] at hdone ⊢
    exact h.write (by simpa using hw) s.news hdone
  · by_cases hw : wholeB d = false
    · simp only [hw, if_true, reduceIte] at hdone; cases hdone
    simp only [hw, if_false, reduceIte] at hdone ⊢
    exact h.sync
  · by_cases hw : wholeB d = false
    · simp only [hw, if_true, reduceIte] at hdone; cases hdone
    simp only [hw, if_false, reduceIte] at hdone ⊢
    exact h.seal hdone
  · by_cases hw : wholeB d = false
    · simp only [hw, if_true, reduceIte] at hdone; cases hdone
    simp only [hw, if_false, reduceIte] at hdone ⊢
    have hw' : wholeB d = true := by simpa using hw
    by_cases hg : d.list.length ≤ s.k.toNat + 2 ∨ fullB d = true
    · unfold mergeD at hdone; rw [if_pos hg] at hdone; cases hdone
    have hk2 : s.k.toNat + 2 < d.list.length := by have := fun h => hg (.inl h); omega
    have hfl : ¬ fullB d = true := fun h => hg (.inr h)
    have ht : ∀ x : Int, min (x * 0).toNat (p.1.length - p.2) = 0 := fun x => by rw [Int.mul_zero]; simp
    have h0 : (0 : Int).toNat = 0 := rfl
    have hst : 0 ≤ s.stop ∧ s.stop ≤ 2 := by
      unfold fitsB at hf
      split at hf
      · cases hf
      rename_i ho
      unfold oddB at ho
      omega
    unfold mergeD at hdone ⊢
    rw [if_neg hg]
    by_cases h1 : s.stop = 1
    · rw [if_pos h1, if_pos (show 0 < s.stop by omega)]
      have := (h.merge1 hw' hk2 hfl).crash 0 (Int.le_refl _) false
      rw [show openAt (merge1D d s.k.toNat) = openAt d from fresh_at h.ok _ d.list rfl] at this
      simpa only [ht, h0, Nat.zero_min, hw', Bool.true_eq_false, if_false, reduceIte] using this
    · rw [if_neg h1]
      by_cases h2 : s.stop = 2
      · rw [if_pos h2, if_pos (show 0 < s.stop by omega)]
        have := (h.merge2 hw' hk2 hfl).crash 0 (Int.le_refl _) false
        rw [show openAt (merge2D d s.k.toNat) = openAt d from fresh_at h.ok _ _ (merge2_openNo hk2)] at this
        simpa only [ht, h0, Nat.zero_min, hw', Bool.true_eq_false, if_false, reduceIte] using this
      · rw [if_neg h2, if_neg (show ¬ 0 < s.stop by omega)]
        exact h.merge3 hw' hk2 hfl
  · have := h.crash s.k hk s.torn
    simpa only [Int.mul_one] using this
  · exact h.open
/-- Steps from a device that begins, and what was written. -/
def runStep (q : SDisk × (List News × Nat)) (s : SStep) : SDisk × (List News × Nat) := ((stepD q.1 s).1, allStep q.2 s (stepD q.1 s).2)
def runTo (l : List SStep) : SDisk × (List News × Nat) := l.foldl runStep (beginD, ([], 0))
theorem run_snoc (l : List SStep) (s : SStep) : runTo (l ++ [s]) = runStep (runTo l) s := by simp [runTo, List.foldl_append]
theorem foldr_snoc_indS {P : List SStep → Prop} (h0 : P []) (h1 : ∀ l n, P l → P (l ++ [n])) : ∀ l, P l := by
  intro l
  have : ∀ m : List SStep, P m.reverse := by
    intro m
    induction m with
    | nil => exact h0
    | cons x m ih => rw [List.reverse_cons]; exact h1 _ _ ih
  have h := this l.reverse
  rwa [List.reverse_reverse] at h
theorem run_disk (l : List SStep) : (runTo l).1 = (playTo beginD l).1 := by
  refine foldr_snoc_indS (P := fun l => (runTo l).1 = (playTo beginD l).1) rfl (fun l s ih => ?_) l
  rw [run_snoc, playTo_snoc, runStep, ih]
theorem run_kept (l : List SStep) : (∀ s ∈ l, fitsB s = true) → Kept (runTo l).1 (runTo l).2 := by
  refine foldr_snoc_indS (P := fun l => (∀ s ∈ l, fitsB s = true) → Kept (runTo l).1 (runTo l).2) (fun _ => kept_begin) (fun l s ih h => ?_) l
  rw [run_snoc]
  exact (ih fun x hx => h x (List.mem_append_left _ hx)).step (h s (List.mem_append_right _ (by simp)))
theorem allStep_len (p : List News × Nat) (s : SStep) (b : Bool) : (allStep p s b).1.length ≤ p.1.length + 1 := by
  unfold allStep
  split
  · exact Nat.le_succ _
  split
  · simp
  split
  · exact Nat.le_succ _
  split
  · show (p.1.take _).length ≤ _
    rw [List.length_take]; omega
  split
  · exact Nat.le_succ _
  · exact Nat.le_succ _
theorem run_len (l : List SStep) : (runTo l).2.1.length ≤ l.length := by
  refine foldr_snoc_indS (P := fun l => (runTo l).2.1.length ≤ l.length) (Nat.le_refl _) (fun l s ih => ?_) l
  rw [run_snoc, List.length_append]
  have := allStep_len (runTo l).2 s (stepD (runTo l).1 s).2
  show (allStep _ _ _).1.length ≤ l.length + 1
  omega
theorem play_done (d : SDisk) (l : List SStep) : ∀ (k : Nat) (s : SStep), l[k]? = some s → (playTo d l).2[k]? = some (stepD (playTo d (l.take k)).1 s).2 := by
  refine foldr_snoc_indS (P := fun l => ∀ (k : Nat) (s : SStep), l[k]? = some s → (playTo d l).2[k]? = some (stepD (playTo d (l.take k)).1 s).2) (fun k s h => by simp at h) (fun l x ih k s h => ?_) l
  rw [playTo_snoc]
  have hl := playTo_len d l
  rcases Nat.lt_or_ge k l.length with hk | hk
  · rw [List.getElem?_append_left hk] at h
    show ((playTo d l).2 ++ _)[k]? = _
    rw [List.getElem?_append_left (by omega), List.take_append_of_le_length (by omega)]
    exact ih k s h
  · rw [List.getElem?_append_right hk] at h
    have hkl : k = l.length := by
      have := (List.getElem?_eq_some_iff.1 h).1
      simp at this; omega
    subst hkl
    rw [Nat.sub_self] at h
    obtain rfl : x = s := by simpa using h
    show ((playTo d l).2 ++ _)[l.length]? = _
    rw [List.getElem?_append_right (by omega), hl, Nat.sub_self, List.take_left']
    · rfl
    · rfl
/-- All that the law asks of steps that fit. -/
structure SafeAll (l : List SStep) (x : SDisk) (done : List Bool) : Prop where
  p : playOf beginD (l ++ [doS 6]) = ((x, done), 0)
  xok : DiskOk x
  xw : wholeB x = true
  len : done.length = l.length + 1
  dn : ∀ (k : Nat) (s : SStep), l[k]? = some s → done[k]? = some (stepD (runTo (l.take k)).1 s).2
  fits : ∀ s ∈ l, fitsB s = true
  short : l.length ≤ 149
  says : Eqv (thereOf x) (runTo l).2.1
  src : ∀ n ∈ (runTo l).2.1, 0 ≤ n.src ∧ n.src < 4
theorem safe_facts (l : List SStep) : (∃ c : Int, (c = 2 ∨ c = 3) ∧ playOf beginD (l ++ [doS 6]) = ((⟨[], []⟩, []), c)) ∨ ∃ x done, SafeAll l x done := by
  have hb : diskB beginD = true := by decide +kernel
  have hne : ¬ diskB beginD = false := by rw [hb]; simp
  by_cases h1 : (l ++ [doS 6]).all fitsB = false
  · exact .inl ⟨2, .inl rfl, by unfold playOf; rw [if_neg hne, if_pos h1]⟩
  by_cases h2 : 150 < (l ++ [doS 6]).length
  · exact .inl ⟨3, .inr rfl, by unfold playOf; rw [if_neg hne, if_neg h1, if_pos h2]⟩
  refine .inr ⟨(playTo beginD (l ++ [doS 6])).1, (playTo beginD (l ++ [doS 6])).2, ?_⟩
  have h1' : (l ++ [doS 6]).all fitsB = true := by simpa using h1
  have hfits : ∀ s ∈ l, fitsB s = true := fun s hs => List.all_eq_true.1 h1' s (List.mem_append_left _ hs)
  have hk := run_kept l hfits
  have hx : (playTo beginD (l ++ [doS 6])).1 = reopenD (runTo l).1 := by
    rw [playTo_snoc, run_disk]
    rfl
  have hxk := hk.open
  rw [← hx] at hxk
  refine ⟨by unfold playOf; rw [if_neg hne, if_neg h1, if_neg h2], hxk.ok, by rw [hx]; exact reopen_whole hk.ok, by rw [playTo_len]; simp, fun k s hs => ?_, hfits, by simp at h2; omega, hxk.eqv, hxk.src⟩
  have hkl := (List.getElem?_eq_some_iff.1 hs).1
  have := play_done beginD (l ++ [doS 6]) k s (by rw [List.getElem?_append_left hkl]; exact hs)
  rw [List.take_append_of_le_length (by omega)] at this
  rw [run_disk]
  exact this
end Go.Proofs.Ytfmojgdomficlaa
