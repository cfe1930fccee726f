/-
  Texts of one hand, laid together: SegInv2, SegInv3, SegInv4, SegInv5, SegInv6, SegInv7, SegBegin, SegInv8, SegKnownP.
-/
import Derived.Test.YtfmojgdomficlaaZB
import Derived.Test.YtfmojgdomficlaaZH
set_option linter.unusedVariables false
set_option linter.unusedSimpArgs false
/-! A formed device is ready for a step. -/
namespace Go.Proofs.Ytfmojgdomficlaa

theorem sorted_len (m : Int) : ∀ (l : List Int) (a : Int), List.Pairwise (· < ·) (a :: l) → (∀ x ∈ l, x ≤ m) → a ≤ m → (l.length : Int) ≤ m - a
  | [], a, _, _, h => by simp; omega
  | x :: l, a, h1, h2, h3 => by
    rw [List.pairwise_cons] at h1
    have hx := h1.1 x List.mem_cons_self
    have := sorted_len m l x h1.2 (fun y hy => h2 y (List.mem_cons_of_mem _ hy)) (h2 x List.mem_cons_self)
    simp only [List.length_cons]
    omega
theorem mem_total {fs : List SFile} {f : SFile} (h : f ∈ fs) : f.recs.length ≤ totalOf fs := by
  unfold totalOf
  induction fs with
  | nil => simp at h
  | cons g fs ih =>
    simp only [List.map_cons, List.sum_cons]
    rcases List.mem_cons.1 h with rfl | h
    · omega
    · have := ih h; omega
section
variable {d : SDisk}
theorem DiskOk.files_len (h : DiskOk d) : d.files.length ≤ 9999 := by
  have := sorted_len 9999 (d.files.map (·.no)) 0 h.sorted (fun x hx => by
    obtain ⟨f, hf, rfl⟩ := List.mem_map.1 hx
    exact (h.each f hf).most) (by decide)
  simp at this
  omega
theorem DiskOk.files_ne (h : DiskOk d) : d.files ≠ [] := fun e => by
  have := h.placed _ (openNo_mem h.ne)
  rw [e] at this
  simp [placeI] at this
theorem DiskOk.pos (h : DiskOk d) {f : SFile} (hf : f ∈ d.files) : 0 < f.no := (List.pairwise_cons.1 h.sorted).1 f.no (List.mem_map_of_mem hf)
theorem lastNo_mem (h : d.files ≠ []) : ∃ f ∈ d.files, lastNo d = f.no := by
  obtain ⟨f, h1, h2⟩ := lastNo_get h
  exact ⟨f, List.mem_of_getElem? h1, h2⟩
theorem DiskOk.nos (h : DiskOk d) : NoOk d := by
  obtain ⟨f, h1, h2⟩ := lastNo_mem h.files_ne
  refine ⟨h.files_ne, ?_, ?_⟩
  · have := h.pos h1; omega
  · have := (h.each f h1).most; omega
theorem DiskOk.there_len (h : DiskOk d) : (thereOf d).length ≤ 60 := ((formed_iff' _ _).1 h.formed).2.1
theorem DiskOk.ready (h : DiskOk d) : Ready d where
  ne := h.ne
  placed := h.placed
  nos := h.nos
  files := by have := h.files_len; omega
  list := by have := h.few; omega
  recs f hf := by have := mem_total hf; have := h.total; omega
  safe f hf := ⟨(h.each f hf).safe0, (h.each f hf).safe1⟩
  there := by have := h.there_len; omega
/-- Where a file stands looks at the numbers alone. -/
theorem placeI_nos (no : Int) : ∀ (l m : List SFile) (k : Nat), l.map (·.no) = m.map (·.no) → placeI no l k = placeI no m k
  | [], [], k, _ => rfl
  | [], g :: m, k, h => by simp at h
  | f :: l, [], k, h => by simp at h
  | f :: l, g :: m, k, h => by
    simp only [List.map_cons, List.cons.injEq] at h
    unfold placeI
    rw [h.1, placeI_nos no l m (k + 1) h.2]
theorem placeI_isSome (no : Int) : ∀ (l : List SFile) (k : Nat), (placeI no l k).isSome = true ↔ ∃ f ∈ l, f.no = no
  | [], k => by simp [placeI]
  | f :: l, k => by
    unfold placeI
    split
    · rename_i e; simp [e]
    · rename_i e
      rw [placeI_isSome no l (k + 1)]
      simp [e]
theorem nos_inj {l : List SFile} {a : Int} (h : List.Pairwise (· < ·) (a :: l.map (·.no))) : ∀ f ∈ l, ∀ g ∈ l, f.no = g.no → f = g := by
  have h1 := (List.pairwise_cons.1 h).2
  clear h
  induction l with
  | nil => intro f hf; simp at hf
  | cons x l ih =>
    rw [List.map_cons, List.pairwise_cons] at h1
    intro f hf g hg e
    rcases List.mem_cons.1 hf with k1 | k1 <;> rcases List.mem_cons.1 hg with k2 | k2
    · rw [k1, k2]
    · have := h1.1 g.no (List.mem_map_of_mem k2); rw [k1] at e; omega
    · have := h1.1 f.no (List.mem_map_of_mem k1); rw [k2] at e; omega
    · exact ih h1.2 f k1 g k2 e
/-- The file of a number is the file that bears it. -/
theorem fileOf_of {l : List SFile} (h : ∀ f ∈ l, ∀ g ∈ l, f.no = g.no → f = g) {f : SFile} (hf : f ∈ l) : fileOf l f.no = f := by
  obtain ⟨i, hi⟩ := Option.isSome_iff_exists.1 ((placeI_isSome f.no l 0).2 ⟨f, hf, rfl⟩)
  obtain ⟨_, g, h1, h2, h3⟩ := placeI_spec f.no l 0 i hi
  rw [fileOf, h3]
  exact h g (List.mem_of_getElem? h1) f hf h2
theorem fileOf_spec {l : List SFile} {no : Int} (h : (placeI no l 0).isSome = true) : fileOf l no ∈ l ∧ (fileOf l no).no = no := by
  obtain ⟨i, hi⟩ := Option.isSome_iff_exists.1 h
  obtain ⟨_, g, h1, h2, h3⟩ := placeI_spec no l 0 i hi
  rw [fileOf, h3]
  exact ⟨List.mem_of_getElem? h1, h2⟩
theorem DiskOk.inj (h : DiskOk d) : ∀ f ∈ d.files, ∀ g ∈ d.files, f.no = g.no → f = g := nos_inj h.sorted
end
end Go.Proofs.Ytfmojgdomficlaa
set_option linter.unusedVariables false
set_option linter.unusedSimpArgs false
/-! A formed device whose open file is turned. -/
namespace Go.Proofs.Ytfmojgdomficlaa

theorem total_set : ∀ (l : List SFile) (i : Nat) (f f' : SFile), l[i]? = some f → totalOf (l.set i f') + f.recs.length = totalOf l + f'.recs.length
  | [], i, f, f', h => by simp at h
  | g :: l, 0, f, f', h => by
    obtain rfl : g = f := by simpa using h
    simp [totalOf]
    omega
  | g :: l, i + 1, f, f', h => by
    have := total_set l i f f' (by simpa using h)
    simp only [List.set_cons_succ, totalOf, List.map_cons, List.sum_cons] at this ⊢
    omega
theorem nos_set {l : List SFile} {i : Nat} {f f' : SFile} (h : l[i]? = some f) (hn : f'.no = f.no) : (l.set i f').map (·.no) = l.map (·.no) := by
  rw [List.map_set]
  apply List.ext_getElem?
  intro j
  rw [List.getElem?_set]
  split
  · rename_i e
    subst e
    have hi := (List.getElem?_eq_some_iff.1 h).1
    rw [if_pos (by simpa using hi), List.getElem?_map, h]
    simp [hn]
  · rfl
/-- News ahead of the open file's. -/
def headNews (d : SDisk) : List News := d.list.dropLast.flatMap fun no => (goodOf (fileOf d.files no).recs).map (·.news)
theorem list_split {d : SDisk} (h : d.list ≠ []) : d.list = d.list.dropLast ++ [openNo d] := by
  have := (List.dropLast_concat_getLast h).symm
  have e : d.list.getLast? = some (d.list.getLast h) := List.getLast?_eq_some_getLast h
  rw [openNo, e]
  exact this
section
variable {d : SDisk} {i : Nat}
theorem openFile (h : OpenOk d i) : (fileAt d i).no = openNo d := by
  obtain ⟨_, f, h1, h2, _⟩ := placeI_spec _ _ _ _ h.at_
  have : d.files[i]? = some f := h1
  rw [fileAt_get h.lt] at this
  cases this
  exact h2
theorem openFile_of (hd : DiskOk d) (h : OpenOk d i) : fileOf d.files (openNo d) = fileAt d i := by
  rw [← openFile h]
  exact fileOf_of hd.inj (List.mem_of_getElem? (fileAt_get h.lt))
theorem there_split (hd : DiskOk d) (h : OpenOk d i) : thereOf d = headNews d ++ (goodOf (fileAt d i).recs).map (·.news) := by
  have e : thereOf d = (d.list.dropLast ++ [openNo d]).flatMap fun no => (goodOf (fileOf d.files no).recs).map (·.news) := by rw [← list_split hd.ne]; rfl
  rw [e, List.flatMap_append]
  simp [headNews, openFile_of hd h]
theorem head_ne (hd : DiskOk d) : ∀ no ∈ d.list.dropLast, no ≠ openNo d := by
  have h1 := hd.nodup
  rw [list_split hd.ne, List.nodup_append] at h1
  exact fun no hn => h1.2.2 no hn (openNo d) (by simp)
theorem set_inj (hd : DiskOk d) (h : OpenOk d i) {f' : SFile} (hn : f'.no = (fileAt d i).no) : ∀ f ∈ d.files.set i f', ∀ g ∈ d.files.set i f', f.no = g.no → f = g := by
  refine nos_inj (a := 0) ?_
  rw [nos_set (fileAt_get h.lt) hn]
  exact hd.sorted
theorem fileOf_set (hd : DiskOk d) (h : OpenOk d i) {f' : SFile} (hn : f'.no = (fileAt d i).no) {no : Int} (hp : (placeI no d.files 0).isSome = true) (hne : no ≠ openNo d) : fileOf (d.files.set i f') no = fileOf d.files no := by
  obtain ⟨h1, h2⟩ := fileOf_spec hp
  have h3 : fileOf d.files no ∈ d.files.set i f' := by
    obtain ⟨j, hj⟩ := List.mem_iff_getElem?.1 h1
    refine List.mem_of_getElem? (i := j) ?_
    rw [List.getElem?_set]
    split
    · rename_i e
      subst e
      rw [fileAt_get h.lt] at hj
      rw [← Option.some.inj hj, openFile h] at h2
      exact absurd h2.symm hne
    · exact hj
  have := fileOf_of (set_inj hd h hn) h3
  rw [h2] at this
  exact this
theorem there_set (hd : DiskOk d) (h : OpenOk d i) (f' : SFile) (hn : f'.no = (fileAt d i).no) : thereOf ⟨d.files.set i f', d.list⟩ = headNews d ++ (goodOf f'.recs).map (·.news) := by
  have e : thereOf ⟨d.files.set i f', d.list⟩ = (d.list.dropLast ++ [openNo d]).flatMap fun no => (goodOf (fileOf (d.files.set i f') no).recs).map (·.news) := by rw [← list_split hd.ne]; rfl
  rw [e, List.flatMap_append]
  have e2 : (d.list.dropLast.flatMap fun no => (goodOf (fileOf (d.files.set i f') no).recs).map (·.news)) = headNews d := by
    unfold headNews
    rw [List.flatMap_def, List.flatMap_def]
    congr 1
    refine List.map_congr_left fun no hno => ?_
    rw [fileOf_set hd h hn (hd.placed no ((List.dropLast_sublist _).subset hno)) (head_ne hd no hno)]
  rw [e2]
  have e3 : fileOf (d.files.set i f') (openNo d) = f' := by
    have hl : i < d.files.length := h.lt
    have h3 : f' ∈ d.files.set i f' := List.mem_of_getElem? (i := i) (List.getElem?_set_self hl)
    have := fileOf_of (set_inj hd h hn) h3
    rw [hn, openFile h] at this
    exact this
  simp [e3]
theorem set_ok (hd : DiskOk d) (h : OpenOk d i) (f' : SFile) (hn : f'.no = (fileAt d i).no) (h0 : 0 ≤ f'.safe) (h1 : f'.safe ≤ f'.recs.length) (ht : totalOf d.files + f'.recs.length ≤ 120 + (fileAt d i).recs.length) (hf : formedB (headNews d ++ (goodOf f'.recs).map (·.news)) 4 = true) : DiskOk ⟨d.files.set i f', d.list⟩ := by
  have hi := fileAt_get h.lt
  have hno := nos_set hi hn
  refine ⟨hd.ne, hd.few, fun no hno' => ?_, hd.nodup, by rw [hno]; exact hd.sorted, fun f hf' => ?_, ?_, by rw [there_set hd h f' hn]; exact hf⟩
  · rw [placeI_nos no _ d.files 0 hno]; exact hd.placed no hno'
  · rcases List.mem_or_eq_of_mem_set hf' with k | k
    · exact hd.each f k
    · subst k
      refine ⟨?_, h0, h1, .inr (hn.trans (openFile h))⟩
      rw [hn]
      exact (hd.each _ (List.mem_of_getElem? hi)).most
  · have := total_set d.files i (fileAt d i) f' hi
    simp only
    omega
/-- What is there behind a turn of the open file is what was there, or less. -/
theorem set_sub (hd : DiskOk d) (h : OpenOk d i) (f' : SFile) (hn : f'.no = (fileAt d i).no) (h0 : 0 ≤ f'.safe) (h1 : f'.safe ≤ f'.recs.length) (ht : f'.recs.length ≤ (fileAt d i).recs.length) (hsub : ∀ r ∈ goodOf f'.recs, r ∈ goodOf (fileAt d i).recs) (hlen : (goodOf f'.recs).length ≤ (goodOf (fileAt d i).recs).length) : DiskOk ⟨d.files.set i f', d.list⟩ := by
  refine set_ok hd h f' hn h0 h1 (by have := hd.total; omega) ?_
  have hf := hd.formed
  rw [there_split hd h] at hf
  refine formed_sub hf (fun x hx => ?_) (by simp; omega)
  rcases List.mem_append.1 hx with k | k
  · exact List.mem_append_left _ k
  · obtain ⟨r, hr, rfl⟩ := List.mem_map.1 k
    exact List.mem_append_right _ (List.mem_map_of_mem (hsub r hr))
theorem sync_ok (hd : DiskOk d) (h : OpenOk d i) : DiskOk (syncD d i) :=
  set_sub hd h _ rfl (by simp) (Int.le_refl _) (Nat.le_refl _) (fun _ h => h) (Nat.le_refl _)
end
end Go.Proofs.Ytfmojgdomficlaa
set_option linter.unusedVariables false
set_option linter.unusedSimpArgs false
/-! A whole device; writing, crashing. -/
namespace Go.Proofs.Ytfmojgdomficlaa

theorem goodOf_self {l : List SRec} (h : l.all rightB = true) : goodOf l = l := by
  induction l with
  | nil => rfl
  | cons r l ih =>
    simp only [List.all_cons, Bool.and_eq_true] at h
    rw [goodOf, List.takeWhile_cons, if_pos h.1]
    have := ih h.2
    rw [goodOf] at this
    rw [this]
theorem goodOf_append {l m : List SRec} (h : l.all rightB = true) : goodOf (l ++ m) = l ++ goodOf m := by
  induction l with
  | nil => rfl
  | cons r l ih =>
    simp only [List.all_cons, Bool.and_eq_true] at h
    rw [List.cons_append, goodOf, List.takeWhile_cons, if_pos h.1]
    have := ih h.2
    rw [goodOf] at this
    rw [this]; rfl
theorem goodOf_right (l : List SRec) : (goodOf l).all rightB = true := by
  induction l with
  | nil => rfl
  | cons r l ih =>
    rw [goodOf, List.takeWhile_cons]
    split
    · rename_i h
      rw [List.all_cons, h]
      exact ih
    · rfl
theorem goodOf_sub (l : List SRec) : ∀ r ∈ goodOf l, r ∈ l := fun r hr => (List.takeWhile_sublist _).subset hr
section
variable {d : SDisk} {i : Nat}
theorem whole_file (hw : wholeB d = true) {f : SFile} (hf : f ∈ d.files) : f.recs.all rightB = true ∧ f.no ∈ d.list := by
  have := List.all_eq_true.1 hw f hf
  simpa using this
theorem sum_perm {l m : List Nat} (h : l.Perm m) : l.sum = m.sum := by
  induction h with
  | nil => rfl
  | cons x _ ih => simp [ih]
  | swap x y l => simp; omega
  | trans _ _ h1 h2 => exact h1.trans h2
/-- On a whole device everything that lies is there. -/
theorem whole_total (hd : DiskOk d) (hw : wholeB d = true) : totalOf d.files = (thereOf d).length := by
  have hp : d.list.Perm (d.files.map (·.no)) := by
    refine (List.perm_ext_iff_of_nodup hd.nodup ?_).2 fun no => ⟨fun h => ?_, fun h => ?_⟩
    · have := (List.pairwise_cons.1 hd.sorted).2
      exact this.imp fun h e => by omega
    · obtain ⟨h1, h2⟩ := fileOf_spec (hd.placed no h)
      exact List.mem_map.2 ⟨_, h1, h2⟩
    · obtain ⟨f, hf, rfl⟩ := List.mem_map.1 h
      exact (whole_file hw hf).2
  have h1 : (thereOf d).length = (d.list.map fun no => (goodOf (fileOf d.files no).recs).length).sum := by
    rw [thereOf, List.length_flatMap]
    congr 1
    exact List.map_congr_left fun no _ => by rw [List.length_map]
  rw [h1, sum_perm (hp.map _), List.map_map, totalOf]
  congr 1
  refine List.map_congr_left fun f hf => ?_
  simp only [Function.comp]
  rw [fileOf_of hd.inj hf, goodOf_self (whole_file hw hf).1]
theorem recOf_right (n : News) : rightB (recOf n) = true := by simp [rightB, recOf]
theorem write_ok (hd : DiskOk d) (ho : OpenOk d i) (hw : wholeB d = true) (n : News) : DiskOk (writeD d i n).1 := by
  unfold writeD
  split
  · exact hd
  · rename_i hno
    have hf : formedB (thereOf d ++ [n]) 4 = true := by
      cases hq : formedB (thereOf d ++ [n]) 4
      · exact absurd (.inr hq) hno
      · rfl
    have hm := List.mem_of_getElem? (fileAt_get ho.lt)
    have hr := (whole_file hw hm).1
    have hs := hd.each _ hm
    refine set_ok hd ho _ rfl hs.safe0 (by have := hs.safe1; simp; omega) ?_ ?_
    · have := whole_total hd hw
      have := hd.there_len
      simp only [List.length_append, List.length_singleton]
      omega
    · rw [goodOf_append hr]
      have : goodOf [recOf n] = [recOf n] := by simp [goodOf, recOf_right]
      rw [this]
      rw [there_split hd ho, goodOf_self hr] at hf
      simpa [recOf] using hf
theorem segSum_bd (n : News) : 0 ≤ segSum n ∧ segSum n < 9973 := by
  unfold segSum
  exact segStep_bd _ _
theorem badOf_wrong (n : News) : rightB (badOf n) = false := by
  have := segSum_bd n
  simp only [rightB, badOf, beq_eq_false_iff_ne]
  omega
theorem take_good (l : List SRec) (k : Nat) : ∀ r ∈ goodOf (l.take k), r ∈ goodOf l := by
  induction l generalizing k with
  | nil => intro r hr; simpa using hr
  | cons x l ih =>
    cases k with
    | zero => intro r hr; simp [goodOf] at hr
    | succ k =>
      intro r hr
      rw [List.take_succ_cons, goodOf, List.takeWhile_cons] at hr
      rw [goodOf, List.takeWhile_cons]
      split at hr
      · rename_i h
        rw [if_pos h]
        rcases List.mem_cons.1 hr with rfl | hr
        · exact List.mem_cons_self
        · exact List.mem_cons_of_mem _ (ih k r hr)
      · simp at hr
theorem take_good_len (l : List SRec) (k : Nat) : (goodOf (l.take k)).length ≤ (goodOf l).length := by
  induction l generalizing k with
  | nil => simp
  | cons x l ih =>
    cases k with
    | zero => simp [goodOf]
    | succ k =>
      rw [List.take_succ_cons, goodOf, List.takeWhile_cons, goodOf, List.takeWhile_cons]
      split
      · have := ih k
        simp only [goodOf] at this
        simp only [List.length_cons]
        omega
      · simp
theorem good_bad (l : List SRec) (n : News) : goodOf (l ++ [badOf n]) = goodOf l := by
  induction l with
  | nil => simp [goodOf, badOf_wrong]
  | cons x l ih =>
    rw [List.cons_append, goodOf, List.takeWhile_cons, goodOf, List.takeWhile_cons]
    split
    · simp only [goodOf] at ih; rw [ih]
    · rfl
theorem kept_good (f : SFile) (k : Int) (torn : Bool) : goodOf (keptOf f k torn) = goodOf (f.recs.take (leftOf f k)) := by
  unfold keptOf
  split
  · exact good_bad _ _
  · rw [List.append_nil]
theorem kept_len (f : SFile) (k : Int) (torn : Bool) (hk : 0 ≤ k) (h0 : 0 ≤ f.safe) : (keptOf f k torn).length ≤ f.recs.length := by
  have := leftOf_le f k hk h0
  unfold keptOf
  rw [List.length_append, List.length_take]
  split
  · rename_i h
    simp
    omega
  · simp
    omega
theorem crash_ok (hd : DiskOk d) (ho : OpenOk d i) (k : Int) (torn : Bool) (hk : 0 ≤ k) : DiskOk (crashD d i k torn) := by
  have hs := hd.each _ (List.mem_of_getElem? (fileAt_get ho.lt))
  refine set_sub hd ho _ rfl (by simp) (Int.le_refl _) (kept_len _ _ _ hk hs.safe0) ?_ ?_
  · simp only [kept_good]
    exact take_good _ _
  · simp only [kept_good]
    exact take_good_len _ _
end
end Go.Proofs.Ytfmojgdomficlaa
set_option linter.unusedVariables false
set_option linter.unusedSimpArgs false
/-! Dropping files, opening again. -/
namespace Go.Proofs.Ytfmojgdomficlaa

theorem total_sub {l m : List SFile} (h : l.Sublist m) : totalOf l ≤ totalOf m := by
  unfold totalOf
  induction h with
  | slnil => exact Nat.le_refl _
  | cons a _ ih => simp only [List.map_cons, List.sum_cons]; omega
  | cons_cons a _ ih => simp only [List.map_cons, List.sum_cons]; omega
/-- A device whose listed files say what they said. -/
theorem there_same {fs gs : List SFile} {l : List Int} (h : ∀ no ∈ l, goodOf (fileOf gs no).recs = goodOf (fileOf fs no).recs) : thereOf ⟨gs, l⟩ = thereOf ⟨fs, l⟩ := by
  unfold thereOf
  rw [List.flatMap_def, List.flatMap_def]
  congr 1
  exact List.map_congr_left fun no hno => by rw [h no hno]
theorem pairwise_cons_sub {a : Int} {l m : List Int} (h : l.Sublist m) (hm : List.Pairwise (· < ·) (a :: m)) : List.Pairwise (· < ·) (a :: l) := hm.sublist (h.cons_cons a)
section
variable {d : SDisk}
theorem drop_file (hd : DiskOk d) (p : Int → Bool) {no : Int} (hp : (placeI no d.files 0).isSome = true) (hk : p no = true) : fileOf (d.files.filter fun f => p f.no) no = fileOf d.files no := by
  obtain ⟨h1, h2⟩ := fileOf_spec hp
  have h3 : fileOf d.files no ∈ d.files.filter fun f => p f.no := List.mem_filter.2 ⟨h1, by rw [h2]; exact hk⟩
  have := fileOf_of (l := d.files.filter fun f => p f.no) (fun f hf g hg e => hd.inj f (List.mem_filter.1 hf).1 g (List.mem_filter.1 hg).1 e) h3
  rw [h2] at this
  exact this
theorem drop_there (hd : DiskOk d) (p : Int → Bool) (hp : ∀ no ∈ d.list, p no = true) : thereOf (dropD d p) = thereOf d :=
  there_same fun no hno => by rw [drop_file hd p (hd.placed no hno) (hp no hno)]
theorem drop_ok (hd : DiskOk d) (p : Int → Bool) (hp : ∀ no ∈ d.list, p no = true) : DiskOk (dropD d p) := by
  have hs : (d.files.filter fun f => p f.no).Sublist d.files := List.filter_sublist
  refine ⟨hd.ne, hd.few, fun no hno => ?_, hd.nodup, pairwise_cons_sub (hs.map _) hd.sorted, fun f hf => hd.each f (hs.subset hf), ?_, by rw [drop_there hd p hp]; exact hd.formed⟩
  · obtain ⟨h1, h2⟩ := fileOf_spec (hd.placed no hno)
    exact (placeI_isSome no _ 0).2 ⟨_, List.mem_filter.2 ⟨h1, by rw [h2]; exact hp no hno⟩, h2⟩
  · have := total_sub hs
    have := hd.total
    simp only [dropD]
    omega
theorem opened_nos (l : List SFile) : (l.map openedF).map (·.no) = l.map (·.no) := by
  rw [List.map_map]; rfl
theorem opened_inj (hd : DiskOk d) : ∀ f ∈ d.files.map openedF, ∀ g ∈ d.files.map openedF, f.no = g.no → f = g := by
  refine nos_inj (a := 0) ?_
  rw [opened_nos]
  exact hd.sorted
theorem opened_file (hd : DiskOk d) {no : Int} (hp : (placeI no d.files 0).isSome = true) : fileOf (d.files.map openedF) no = openedF (fileOf d.files no) := by
  obtain ⟨h1, h2⟩ := fileOf_spec hp
  have := fileOf_of (opened_inj hd) (List.mem_map_of_mem h1)
  rw [show (openedF (fileOf d.files no)).no = no from h2] at this
  exact this
theorem good_good (l : List SRec) : goodOf (goodOf l) = goodOf l := goodOf_self (goodOf_right l)
theorem opened_there (hd : DiskOk d) : thereOf ⟨d.files.map openedF, d.list⟩ = thereOf d :=
  there_same fun no hno => by rw [opened_file hd (hd.placed no hno)]; exact good_good _
theorem opened_total (l : List SFile) : totalOf (l.map openedF) ≤ totalOf l := by
  unfold totalOf
  induction l with
  | nil => exact Nat.le_refl _
  | cons f l ih =>
    have := goodOf_len f.recs
    simp only [List.map_cons, List.sum_cons]
    have e : (openedF f).recs.length = (goodOf f.recs).length := rfl
    omega
theorem opened_ok (hd : DiskOk d) : DiskOk ⟨d.files.map openedF, d.list⟩ := by
  refine ⟨hd.ne, hd.few, fun no hno => ?_, hd.nodup, by rw [opened_nos]; exact hd.sorted, fun f hf => ?_, ?_, by rw [opened_there hd]; exact hd.formed⟩
  · rw [placeI_nos no _ d.files 0 (opened_nos _)]; exact hd.placed no hno
  · obtain ⟨g, hg, rfl⟩ := List.mem_map.1 hf
    exact ⟨(hd.each g hg).most, by simp [openedF], by simp [openedF], .inl (by simp [openedF])⟩
  · have := opened_total d.files
    have := hd.total
    simp only
    omega
theorem reopen_eq : reopenD d = ⟨(dropD d fun no => d.list.contains no).files.map openedF, d.list⟩ := rfl
theorem reopen_ok (hd : DiskOk d) : DiskOk (reopenD d) := by
  rw [reopen_eq]
  exact opened_ok (drop_ok hd _ fun no h => by simpa using h)
theorem reopen_there (hd : DiskOk d) : thereOf (reopenD d) = thereOf d := by
  rw [reopen_eq]
  have h := drop_ok hd (fun no => d.list.contains no) fun no h => by simpa using h
  exact (opened_there h).trans (drop_there hd _ fun no h => by simpa using h)
theorem reopen_whole (hd : DiskOk d) : wholeB (reopenD d) = true := by
  rw [reopen_eq, wholeB, List.all_eq_true]
  intro f hf
  obtain ⟨g, hg, rfl⟩ := List.mem_map.1 hf
  have h1 := (List.mem_filter.1 hg).2
  have h2 : (openedF g).recs.all rightB = true := goodOf_right _
  have h3 : d.list.contains (openedF g).no = true := h1
  simp only [h2, h3, Bool.and_self]
end
end Go.Proofs.Ytfmojgdomficlaa
set_option linter.unusedVariables false
set_option linter.unusedSimpArgs false
/-! Sealing. -/
namespace Go.Proofs.Ytfmojgdomficlaa

section
variable {d : SDisk}
theorem sorted_last : ∀ (l : List Int) (x : Int), List.Pairwise (· < ·) (l ++ [x]) → ∀ y ∈ l ++ [x], y ≤ x
  | [], x, _, y, hy => by simp at hy; omega
  | a :: l, x, h, y, hy => by
    rw [List.cons_append, List.pairwise_cons] at h
    rcases List.mem_cons.1 hy with rfl | hy
    · have := h.1 x (by simp); omega
    · exact sorted_last l x h.2 y hy
theorem last_max (hd : DiskOk d) : ∀ f ∈ d.files, f.no ≤ lastNo d := by
  intro f hf
  have h := (List.pairwise_cons.1 hd.sorted).2
  have hne := hd.files_ne
  have e : d.files.map (·.no) = (d.files.map (·.no)).dropLast ++ [lastNo d] := by
    obtain ⟨g, h1, h2⟩ := lastNo_get hne
    have h3 := (List.dropLast_concat_getLast (l := d.files.map (·.no)) (by simpa using hne)).symm
    have h4 : (d.files.map (·.no)).getLast (by simpa using hne) = lastNo d := by
      rw [List.getLast_eq_getElem]
      simp only [List.length_map, List.getElem_map]
      rw [h2]
      congr 1
      obtain ⟨_, h5⟩ := List.getElem?_eq_some_iff.1 h1
      exact h5
    rw [h4] at h3
    exact h3
  rw [e] at h
  exact sorted_last _ _ h f.no (by rw [← e]; exact List.mem_map_of_mem hf)
theorem fresh_sorted (hd : DiskOk d) (r : List SRec) : List.Pairwise (· < ·) (0 :: (freshD d r).files.map (·.no)) := by
  have h : (0 : Int) :: (freshD d r).files.map (·.no) = (0 :: d.files.map (·.no)) ++ [lastNo d + 1] := by simp [freshD]
  rw [h, List.pairwise_append]
  refine ⟨hd.sorted, by simp, fun x hx y hy => ?_⟩
  obtain rfl : y = lastNo d + 1 := by simpa using hy
  rcases List.mem_cons.1 hx with rfl | hx
  · have := hd.nos.low; omega
  · obtain ⟨f, hf, rfl⟩ := List.mem_map.1 hx
    have := last_max hd f hf; omega
theorem fresh_total (r : List SRec) : totalOf (freshD d r).files = totalOf d.files + r.length := by
  simp [totalOf, freshD]
theorem fresh_placed (r : List SRec) {no : Int} (h : (placeI no d.files 0).isSome = true) : (placeI no (freshD d r).files 0).isSome = true := by
  obtain ⟨i, hi⟩ := Option.isSome_iff_exists.1 h
  rw [freshD, placeI_append _ _ _ _ _ hi]; rfl
theorem fresh_inj (hd : DiskOk d) (r : List SRec) : ∀ f ∈ (freshD d r).files, ∀ g ∈ (freshD d r).files, f.no = g.no → f = g := nos_inj (fresh_sorted hd r)
theorem fresh_old (hd : DiskOk d) (r : List SRec) {no : Int} (h : (placeI no d.files 0).isSome = true) : fileOf (freshD d r).files no = fileOf d.files no := by
  obtain ⟨h1, h2⟩ := fileOf_spec h
  have := fileOf_of (fresh_inj hd r) (f := fileOf d.files no) (List.mem_append_left _ h1)
  rw [h2] at this
  exact this
theorem fresh_new (hd : DiskOk d) (r : List SRec) : fileOf (freshD d r).files (lastNo d + 1) = ⟨lastNo d + 1, r, r.length⟩ :=
  fileOf_of (fresh_inj hd r) (f := ⟨lastNo d + 1, r, r.length⟩) (List.mem_append_right _ (by simp))
theorem fresh_notin (hd : DiskOk d) : lastNo d + 1 ∉ d.list := fun h => by
  obtain ⟨h1, h2⟩ := fileOf_spec (hd.placed _ h)
  have := last_max hd _ h1
  omega
theorem not_full (h : ¬ fullB d = true) : lastNo d + 1 ≤ 9999 := by
  simp only [fullB, decide_eq_true_eq] at h
  omega
/-- A new file, not listed yet. -/
theorem fresh_ok (hd : DiskOk d) (r : List SRec) (hf : ¬ fullB d = true) (ht : totalOf d.files + r.length ≤ 120) : DiskOk (freshD d r) := by
  have h0 := hd.nos.low
  refine ⟨hd.ne, hd.few, fun no hno => fresh_placed r (hd.placed no hno), hd.nodup, fresh_sorted hd r, fun f hf' => ?_, by rw [fresh_total]; exact ht, ?_⟩
  · rcases List.mem_append.1 hf' with k | k
    · exact hd.each f k
    · obtain rfl : f = ⟨lastNo d + 1, r, r.length⟩ := by simpa using k
      exact ⟨not_full hf, by simp, Int.le_refl _, .inl (Int.le_refl _)⟩
  · rw [show thereOf (freshD d r) = thereOf d from there_same fun no hno => congrArg (fun f => goodOf f.recs) (fresh_old hd r (hd.placed no hno))]
    exact hd.formed
theorem seal_ok {i : Nat} (hd : DiskOk d) (ho : OpenOk d i) : DiskOk (sealD d i).1 := by
  unfold sealD
  split
  · exact hd
  · rename_i hno
    have hs := sync_ok hd ho
    have hlast : lastNo (syncD d i) = lastNo d := lastNo_set d i _ _
    have hfl : ¬ fullB (syncD d i) = true := by
      have : ¬ fullB d = true := fun h => hno (.inr h)
      simpa only [fullB, hlast] using this
    have h0 := hd.nos.low
    have hopn : openNo ⟨(freshD (syncD d i) []).files, d.list ++ [lastNo d + 1]⟩ = lastNo d + 1 := by simp [openNo]
    refine ⟨by simp, ?_, fun no hno' => ?_, ?_, fresh_sorted hs [], fun f hf => ?_, ?_, ?_⟩
    · have : ¬ 8 ≤ d.list.length := fun h => hno (.inl h)
      simp
      omega
    · rcases List.mem_append.1 hno' with k | k
      · exact fresh_placed [] (hs.placed no k)
      · obtain rfl : no = lastNo d + 1 := by simpa using k
        exact (placeI_isSome _ _ 0).2 ⟨⟨lastNo (syncD d i) + 1, [], 0⟩, List.mem_append_right _ (by simp), by simp [hlast]⟩
    · have h2 := fresh_notin hs
      rw [hlast] at h2
      rw [List.nodup_append]
      refine ⟨hd.nodup, by simp, fun x hx y hy e => ?_⟩
      obtain rfl : y = lastNo d + 1 := by simpa using hy
      exact h2 (e ▸ hx)
    · rw [hopn]
      rcases List.mem_append.1 hf with k | k
      · have hk := hs.each f k
        refine ⟨hk.most, hk.safe0, hk.safe1, .inl ?_⟩
        rcases hk.full with h | h
        · exact h
        · have hil : i < d.files.length := ho.lt
          have hm : (⟨(fileAt d i).no, (fileAt d i).recs, (fileAt d i).recs.length⟩ : SFile) ∈ (syncD d i).files := List.mem_of_getElem? (i := i) (List.getElem?_set_self hil)
          have e := hs.inj f k _ hm (h.trans (show openNo (syncD d i) = (fileAt d i).no from (openFile ho).symm))
          rw [e]
          exact Int.le_refl _
      · obtain rfl : f = ⟨lastNo (syncD d i) + 1, [], 0⟩ := by simpa using k
        exact ⟨not_full hfl, by simp, by simp, .inl (by simp)⟩
    · rw [fresh_total]
      have := hs.total
      simpa using this
    · have e : thereOf ⟨(freshD (syncD d i) []).files, d.list ++ [lastNo d + 1]⟩ = thereOf (syncD d i) := by
        have e1 : thereOf ⟨(freshD (syncD d i) []).files, d.list ++ [lastNo d + 1]⟩ = thereOf ⟨(freshD (syncD d i) []).files, d.list⟩ ++ (goodOf (fileOf (freshD (syncD d i) []).files (lastNo d + 1)).recs).map (·.news) := by
          simp [thereOf, List.flatMap_append]
        have e2 := fresh_new hs []
        rw [hlast] at e2
        rw [e1, e2]
        have e3 : thereOf ⟨(freshD (syncD d i) []).files, d.list⟩ = thereOf (syncD d i) := there_same fun no hno' => congrArg (fun f => goodOf f.recs) (fresh_old hs [] (hs.placed no hno'))
        rw [e3]
        simp [goodOf]
      rw [e]
      exact hs.formed
end
end Go.Proofs.Ytfmojgdomficlaa
set_option linter.unusedVariables false
set_option linter.unusedSimpArgs false
/-! Merging keeps a device formed. -/
namespace Go.Proofs.Ytfmojgdomficlaa

theorem mergedUpto_mem (l : List SRec) : ∀ m, ∀ r ∈ mergedUpto l m, r ∈ l
  | 0, r, h => by simp [mergedUpto] at h
  | m + 1, r, h => by
    simp only [mergedUpto] at h
    split at h
    · exact mergedUpto_mem l m r h
    · rename_i x hx
      split at h
      · rcases List.mem_append.1 h with h | h
        · exact mergedUpto_mem l m r h
        · rw [List.mem_singleton.1 h]; exact List.mem_of_getElem? hx
      · exact mergedUpto_mem l m r h
theorem mergedOf_mem {l : List SRec} {r : SRec} (h : r ∈ mergedOf l) : r ∈ l := mergedUpto_mem l _ r h
theorem mergedOf_len (l : List SRec) : (mergedOf l).length ≤ l.length := mergedUpto_len l _
theorem two_total : ∀ {fs : List SFile} {f g : SFile}, f ∈ fs → g ∈ fs → f ≠ g → f.recs.length + g.recs.length ≤ totalOf fs
  | [], f, g, hf, _, _ => by simp at hf
  | x :: fs, f, g, hf, hg, hne => by
    have e : totalOf (x :: fs) = x.recs.length + totalOf fs := by simp [totalOf]
    rw [e]
    rcases List.mem_cons.1 hf with k1 | k1 <;> rcases List.mem_cons.1 hg with k2 | k2
    · exact absurd (k1.trans k2.symm) hne
    · have := mem_total k2; rw [k1]; omega
    · have := mem_total k1; rw [k2]; omega
    · have := two_total k1 k2 hne; omega
section
variable {d : SDisk} {k : Nat}
theorem list_at (hk : k + 2 < d.list.length) : d.list = d.list.take k ++ (listAt d k :: listAt d (k + 1) :: d.list.drop (k + 2)) := by
  have h1 : d.list.drop k = listAt d k :: d.list.drop (k + 1) := by
    rw [List.drop_eq_getElem_cons (by omega)]
    congr 1
    have := listAt_get (d := d) (k := k) (by omega)
    rw [List.getElem?_eq_getElem (by omega)] at this
    exact Option.some.inj this
  have h2 : d.list.drop (k + 1) = listAt d (k + 1) :: d.list.drop (k + 2) := by
    rw [List.drop_eq_getElem_cons (by omega)]
    congr 1
    have := listAt_get (d := d) (k := k + 1) (by omega)
    rw [List.getElem?_eq_getElem (by omega)] at this
    exact Option.some.inj this
  rw [← h2, ← h1, List.take_append_drop]
theorem fileNo_of {no : Int} (h : (placeI no d.files 0).isSome = true) : fileNo d no = fileOf d.files no := by
  obtain ⟨i, hi⟩ := Option.isSome_iff_exists.1 h
  obtain ⟨_, f, h1, h2, h3⟩ := placeI_spec no d.files 0 i hi
  have h4 : d.files[i]? = some f := h1
  rw [fileNo, hi, fileOf, h3]
  simp [fileAt, h4]
structure MergeFacts (d : SDisk) (k : Nat) : Prop where
  pa : (placeI (listAt d k) d.files 0).isSome = true
  pb : (placeI (listAt d (k + 1)) d.files 0).isSome = true
  ne : listAt d k ≠ listAt d (k + 1)
  len : (mergeRecs d k).length ≤ (fileOf d.files (listAt d k)).recs.length + (fileOf d.files (listAt d (k + 1))).recs.length
  sum : (fileOf d.files (listAt d k)).recs.length + (fileOf d.files (listAt d (k + 1))).recs.length ≤ totalOf d.files
  right : (mergeRecs d k).all rightB = true
  mem : ∀ r ∈ mergeRecs d k, r ∈ (fileOf d.files (listAt d k)).recs ∨ r ∈ (fileOf d.files (listAt d (k + 1))).recs
theorem merge_facts (hd : DiskOk d) (hw : wholeB d = true) (hk : k + 2 < d.list.length) : MergeFacts d k := by
  have ha : listAt d k ∈ d.list := List.mem_of_getElem? (listAt_get (by omega))
  have hb : listAt d (k + 1) ∈ d.list := List.mem_of_getElem? (listAt_get (by omega))
  have pa := hd.placed _ ha
  have pb := hd.placed _ hb
  obtain ⟨fa1, fa2⟩ := fileOf_spec pa
  obtain ⟨fb1, fb2⟩ := fileOf_spec pb
  have hne : listAt d k ≠ listAt d (k + 1) := by
    have h := hd.nodup
    rw [list_at hk, List.nodup_append] at h
    have := (List.nodup_cons.1 h.2.1).1
    exact fun e => this (by rw [e]; exact List.mem_cons_self)
  have hm : mergeRecs d k = mergedOf ((fileOf d.files (listAt d k)).recs ++ (fileOf d.files (listAt d (k + 1))).recs) := by rw [mergeRecs, fileNo_of pa, fileNo_of pb]
  refine ⟨pa, pb, hne, ?_, two_total fa1 fb1 (fun e => hne (by rw [← fa2, ← fb2, e])), ?_, fun r hr => ?_⟩
  · rw [hm]
    have := mergedOf_len ((fileOf d.files (listAt d k)).recs ++ (fileOf d.files (listAt d (k + 1))).recs)
    rw [List.length_append] at this
    exact this
  · rw [List.all_eq_true]
    intro r hr
    rw [hm] at hr
    rcases List.mem_append.1 (mergedOf_mem hr) with h | h
    · exact List.all_eq_true.1 (whole_file hw fa1).1 r h
    · exact List.all_eq_true.1 (whole_file hw fb1).1 r h
  · rw [hm] at hr
    exact List.mem_append.1 (mergedOf_mem hr)
theorem merge1_ok (hd : DiskOk d) (hw : wholeB d = true) (hk : k + 2 < d.list.length) (hf : ¬ fullB d = true) : DiskOk (merge1D d k) := by
  have h := merge_facts hd hw hk
  have h1 := whole_total hd hw
  have h2 := hd.there_len
  have h3 := h.len
  have h4 := h.sum
  exact fresh_ok hd _ hf (by omega)
theorem merge2_there (hd : DiskOk d) (hk : k + 2 < d.list.length) (hw : wholeB d = true) : thereOf (merge2D d k) = thereOf ⟨d.files, d.list.take k⟩ ++ ((mergeRecs d k).map (·.news) ++ thereOf ⟨d.files, d.list.drop (k + 2)⟩) := by
  have hF := merge_facts hd hw hk
  have e1 : thereOf (merge2D d k) = thereOf ⟨(merge1D d k).files, d.list.take k⟩ ++ ((goodOf (fileOf (merge1D d k).files (lastNo d + 1)).recs).map (·.news) ++ thereOf ⟨(merge1D d k).files, d.list.drop (k + 2)⟩) := by
    simp [thereOf, merge2D, List.flatMap_append, List.append_assoc]
  have e2 := fresh_new hd (mergeRecs d k)
  have e3 : thereOf ⟨(merge1D d k).files, d.list.take k⟩ = thereOf ⟨d.files, d.list.take k⟩ := there_same fun no hno => congrArg (fun f => goodOf f.recs) (fresh_old hd _ (hd.placed no ((List.take_sublist _ _).subset hno)))
  have e4 : thereOf ⟨(merge1D d k).files, d.list.drop (k + 2)⟩ = thereOf ⟨d.files, d.list.drop (k + 2)⟩ := there_same fun no hno => congrArg (fun f => goodOf f.recs) (fresh_old hd _ (hd.placed no ((List.drop_sublist _ _).subset hno)))
  rw [e1, e3, e4, show fileOf (merge1D d k).files (lastNo d + 1) = _ from e2, goodOf_self hF.right]
theorem there_at (hd : DiskOk d) (hk : k + 2 < d.list.length) (hw : wholeB d = true) : thereOf d = thereOf ⟨d.files, d.list.take k⟩ ++ (((fileOf d.files (listAt d k)).recs.map (·.news) ++ (fileOf d.files (listAt d (k + 1))).recs.map (·.news)) ++ thereOf ⟨d.files, d.list.drop (k + 2)⟩) := by
  have hF := merge_facts hd hw hk
  have e : thereOf d = (d.list.take k ++ (listAt d k :: listAt d (k + 1) :: d.list.drop (k + 2))).flatMap fun no => (goodOf (fileOf d.files no).recs).map (·.news) := by rw [← list_at hk]; rfl
  rw [e, List.flatMap_append, List.flatMap_cons, List.flatMap_cons, goodOf_self (whole_file hw (fileOf_spec hF.pa).1).1, goodOf_self (whole_file hw (fileOf_spec hF.pb).1).1]
  simp [thereOf]
theorem merge2_ok (hd : DiskOk d) (hw : wholeB d = true) (hk : k + 2 < d.list.length) (hf : ¬ fullB d = true) : DiskOk (merge2D d k) := by
  have hF := merge_facts hd hw hk
  have h1 := merge1_ok hd hw hk hf
  refine ⟨by simp [merge2D], ?_, fun no hno => ?_, ?_, h1.sorted, fun f hf' => ?_, h1.total, ?_⟩
  · have := hd.few
    simp [merge2D]
    omega
  · simp only [merge2D, List.mem_append, List.mem_singleton] at hno
    rcases hno with (h | rfl) | h
    · exact fresh_placed _ (hd.placed no ((List.take_sublist _ _).subset h))
    · exact (placeI_isSome _ _ 0).2 ⟨⟨lastNo d + 1, mergeRecs d k, (mergeRecs d k).length⟩, List.mem_append_right _ (by simp), rfl⟩
    · exact fresh_placed _ (hd.placed no ((List.drop_sublist _ _).subset h))
  · have h2 := fresh_notin hd
    have h3 := hd.nodup
    rw [list_at hk, List.nodup_append] at h3
    obtain ⟨n1, n2, n3⟩ := h3
    have n4 := (List.nodup_cons.1 (List.nodup_cons.1 n2).2).2
    show (d.list.take k ++ [lastNo d + 1] ++ d.list.drop (k + 2)).Nodup
    rw [List.append_assoc, List.nodup_append]
    refine ⟨n1, ?_, fun x hx y hy e => ?_⟩
    · rw [List.singleton_append, List.nodup_cons]
      exact ⟨fun h => h2 ((List.drop_sublist _ _).subset h), n4⟩
    · rcases List.mem_append.1 hy with h | h
      · rw [List.mem_singleton.1 h] at e
        exact h2 (e ▸ (List.take_sublist _ _).subset hx)
      · exact n3 x hx y (List.mem_cons_of_mem _ (List.mem_cons_of_mem _ h)) e
  · rw [merge2_openNo hk]
    exact h1.each f hf'
  · have hfm := hd.formed
    rw [there_at hd hk hw] at hfm
    rw [merge2_there hd hk hw]
    refine formed_sub hfm (fun x hx => ?_) ?_
    · rcases List.mem_append.1 hx with h | h
      · exact List.mem_append_left _ h
      · rcases List.mem_append.1 h with h | h
        · obtain ⟨r, hr, rfl⟩ := List.mem_map.1 h
          refine List.mem_append_right _ (List.mem_append_left _ ?_)
          rcases hF.mem r hr with q | q
          · exact List.mem_append_left _ (List.mem_map_of_mem q)
          · exact List.mem_append_right _ (List.mem_map_of_mem q)
        · exact List.mem_append_right _ (List.mem_append_right _ h)
    · have := hF.len
      simp only [List.length_append, List.length_map]
      omega
theorem merge3_ok (hd : DiskOk d) (hw : wholeB d = true) (hk : k + 2 < d.list.length) (hf : ¬ fullB d = true) : DiskOk (merge3D d k) := by
  refine drop_ok (merge2_ok hd hw hk hf) _ fun no hno => ?_
  have h3 := hd.nodup
  have hF := merge_facts hd hw hk
  have hla : listAt d k ∈ d.list := List.mem_of_getElem? (listAt_get (by omega))
  have hlb : listAt d (k + 1) ∈ d.list := List.mem_of_getElem? (listAt_get (by omega))
  have h2 := fresh_notin hd
  rw [list_at hk, List.nodup_append] at h3
  obtain ⟨n1, n2, n3⟩ := h3
  have m1 := List.nodup_cons.1 n2
  have m2 := List.nodup_cons.1 m1.2
  simp only [merge2D, List.mem_append, List.mem_singleton] at hno
  simp only [Bool.and_eq_true, Bool.not_eq_true', beq_eq_false_iff_ne]
  rcases hno with (h | rfl) | h
  · exact ⟨n3 no h _ List.mem_cons_self, n3 no h _ (List.mem_cons_of_mem _ List.mem_cons_self)⟩
  · exact ⟨fun e => h2 (e ▸ hla), fun e => h2 (e ▸ hlb)⟩
  · exact ⟨fun e => m1.1 (e ▸ List.mem_cons_of_mem _ h), fun e => m2.1 (e ▸ h)⟩
end
end Go.Proofs.Ytfmojgdomficlaa
set_option linter.unusedVariables false
set_option linter.unusedSimpArgs false
/-! A device that begins. -/
namespace Go.Proofs.Ytfmojgdomficlaa
open Go.RowKit Go.Shelf Go.Proofs.YtfmojgdomficlaaW.PrintWords

def beginD : SDisk := ⟨[⟨1, [], 0⟩], [1]⟩
theorem three_new (w : World) (c1 c2 c3 : Array Value) (t1 t2 t3 : TypeId) :
    Cells (((w.alloc (.cells c1 t1)).alloc (.cells c2 t2)).alloc (.cells c3 t3)) w.heap.size c1 t1 ∧ Cells (((w.alloc (.cells c1 t1)).alloc (.cells c2 t2)).alloc (.cells c3 t3)) (w.heap.size + 1) c2 t2 ∧ Cells (((w.alloc (.cells c1 t1)).alloc (.cells c2 t2)).alloc (.cells c3 t3)) (w.heap.size + 1 + 1) c3 t3 ∧ Below w.heap.size w (((w.alloc (.cells c1 t1)).alloc (.cells c2 t2)).alloc (.cells c3 t3)) := by
  have k1 : Cells (((w.alloc (.cells c1 t1)).alloc (.cells c2 t2)).alloc (.cells c3 t3)) w.heap.size c1 t1 := ((Cells.new w c1 t1).later (below_alloc (Below.refl _ _) _)).later (below_alloc (Below.refl _ _) _)
  have k2 : Cells (((w.alloc (.cells c1 t1)).alloc (.cells c2 t2)).alloc (.cells c3 t3)) (w.alloc (.cells c1 t1)).heap.size c2 t2 := (Cells.new _ c2 t2).later (below_alloc (Below.refl _ _) _)
  have k3 : Cells (((w.alloc (.cells c1 t1)).alloc (.cells c2 t2)).alloc (.cells c3 t3)) ((w.alloc (.cells c1 t1)).alloc (.cells c2 t2)).heap.size c3 t3 := Cells.new _ c3 t3
  simp only [World.size_alloc] at k2 k3
  exact ⟨k1, k2, k3, below_alloc (below_alloc (below_alloc (Below.refl _ _) _) _) _⟩
set_option maxRecDepth 100000 in
set_option maxHeartbeats 2000000 in
theorem seg_Begin (w : World) :
    Calls Try.prog 22 #[] w fun e w' => ∃ Af cf Al cl, e = .returned (.agg #[.slice Af beginD.files.length cf, .slice Al beginD.list.length cl]) ∧ DRows w' Af cf Al cl beginD ∧ Below w.heap.size w w' := by
  go_enter Try.func22, Try.ntmps22
  go_wp2
  obtain ⟨k1, k2, k3, hB⟩ := three_new w #[.slice (some ⟨w.heap.size + 1, 0, none⟩) 1 1, .slice (some ⟨w.heap.size + 1 + 1, 0, none⟩) 1 1] #[.int .i64 1, .slice none 0 0, .int .i64 0] #[.int .i64 1] 33 62 3
  have z0 := k1.cell 0 _ rfl
  have z1 := k1.cell 1 _ rfl
  refine bodyPost_ret (v := .agg #[.slice (some ⟨w.heap.size + 1, 0, none⟩) 1 1, .slice (some ⟨w.heap.size + 1 + 1, 0, none⟩) 1 1]) (by simp [results, Try.results22, go_sem, z0, z1]) rfl ?_
  exact ⟨_, _, _, _, rfl, ⟨lit_row kSFile _ _ ⟨1, [], 0⟩ [.int .i64 1, .slice none 0 0, .int .i64 0] 62 k2 (kSFile_mk ⟨1, [], 0⟩ none 0 (Nat.le_refl _) ⟨rfl, by simp, fun h => absurd h (by simp)⟩), lit_row (Kd.int .i64) _ _ 1 [.int .i64 1] 3 k3 rfl, Nat.le_refl _, Nat.le_refl _⟩, hB⟩
end Go.Proofs.Ytfmojgdomficlaa
set_option linter.unusedVariables false
set_option linter.unusedSimpArgs false
/-! Steps keep a device formed; Play's whole answer. -/
namespace Go.Proofs.Ytfmojgdomficlaa
open Go.RowKit Go.Shelf Go.Proofs.YtfmojgdomficlaaW.PrintWords

theorem fits_k {s : SStep} (hf : fitsB s = true) : 0 ≤ s.k := by
  by_cases h : s.k < 0
  · rw [fits_odd (.inl h)] at hf; cases hf
  · omega
theorem step_ok {d : SDisk} (hd : DiskOk d) (s : SStep) (hf : fitsB s = true) : DiskOk (stepD d s).1 := by
  have ho := hd.ready.open
  have hk := fits_k hf
  unfold stepD
  split
  · exact crash_ok hd ho _ _ hk
  split
  · exact reopen_ok hd
  split
  · exact hd
  rename_i hw
  have hw : wholeB d = true := by simpa using hw
  split
  · exact write_ok hd ho hw _
  split
  · exact sync_ok hd ho
  split
  · exact seal_ok hd ho
  unfold mergeD
  split
  · exact hd
  rename_i hg
  have hg1 : s.k.toNat + 2 < d.list.length := by have := fun h => hg (.inl h); omega
  have hg2 : ¬ fullB d = true := fun h => hg (.inr h)
  split
  · exact crash_ok (merge1_ok hd hw hg1 hg2) (merge1_open ho) _ _ (by omega)
  split
  · exact crash_ok (merge2_ok hd hw hg1 hg2) (merge2_open ho hg1) _ _ (by omega)
  · exact merge3_ok hd hw hg1 hg2
theorem playTo_ok {d : SDisk} (hd : DiskOk d) : ∀ (l : List SStep), (∀ s ∈ l, fitsB s = true) → DiskOk (playTo d l).1 := by
  intro l
  have key : ∀ (l : List SStep) (p : SDisk × List Bool), DiskOk p.1 → (∀ s ∈ l, fitsB s = true) → DiskOk (l.foldl (fun p s => ((stepD p.1 s).1, p.2 ++ [(stepD p.1 s).2])) p).1 := by
    intro l
    induction l with
    | nil => exact fun p hp _ => hp
    | cons s l ih => exact fun p hp h => ih _ (step_ok hp s (h s List.mem_cons_self)) fun x hx => h x (List.mem_cons_of_mem _ hx)
  exact key l (d, []) hd
/-- What Play answers: a device and which were done, or an error. -/
def playOf (d : SDisk) (l : List SStep) : (SDisk × List Bool) × Int :=
  if diskB d = false then ((⟨[], []⟩, []), 2) else if l.all fitsB = false then ((⟨[], []⟩, []), 2) else if 150 < l.length then ((⟨[], []⟩, []), 3) else (playTo d l, 0)
def PlayEnds (d : SDisk) (l : List SStep) (w : World) (e : Ending) (w' : World) : Prop :=
  ∃ Af cf Al cl Ab cb, e = .returned (.tuple #[.agg #[.slice Af (playOf d l).1.1.files.length cf, .slice Al (playOf d l).1.1.list.length cl], .slice Ab (playOf d l).1.2.length cb, .int .i64 (playOf d l).2]) ∧ DRows w' Af cf Al cl (playOf d l).1.1 ∧ Kd.C Kd.bool w' Ab (playOf d l).1.2.length (playOf d l).1.2 ∧ (playOf d l).1.2.length ≤ cb ∧ Below w.heap.size w w'
theorem noRows (w : World) : DRows w none 0 none 0 ⟨[], []⟩ := ⟨⟨rfl, by simp, fun h => absurd h (by simp)⟩, ⟨rfl, by simp, fun h => absurd h (by simp)⟩, Nat.le_refl _, Nat.le_refl _⟩
theorem noBools (w : World) : Kd.C Kd.bool w none 0 [] := ⟨rfl, by simp, fun h => absurd h (by simp)⟩
theorem play_none {d : SDisk} {l : List SStep} {c : Int} {w w' : World} {e : Ending} (hp : playOf d l = ((⟨[], []⟩, []), c)) (he : e = .returned (noPlay c)) (hb : Below w.heap.size w w') : PlayEnds d l w e w' := by
  rw [PlayEnds, hp]
  exact ⟨none, 0, none, 0, none, 0, he, noRows w', noBools w', Nat.le_refl _, hb⟩
theorem seg_Play (d : SDisk) (l : List SStep) (Af Al A : Option Addr) (cf cl c : Nat) (w : World) (hd : DRows w Af cf Al cl d) (hF : Fits d) (hl : StepsRow w A l.length l) (hc : l.length ≤ c) (hk : ∀ s ∈ l, s.k ≤ 9223372036854775807) :
    Calls Try.prog 25 #[.agg #[.slice Af d.files.length cf, .slice Al d.list.length cl], .slice A l.length c] w (PlayEnds d l w) := by
  cases hb : diskB d
  · exact (seg_Play_no d Af Al A cf cl l.length c w hd hF hb).mono fun e w' h => play_none (by rw [playOf, if_pos hb]) h.1 h.2
  · have hok := (disk_iff d).1 hb
    have hr := hok.ready
    have hne : ¬ diskB d = false := by rw [hb]; simp
    refine (seg_Play_yes d l Af Al A cf cl c w hd hF ⟨by have := hr.files; omega, by have := hr.list; omega, fun f hf => by have := hr.recs f hf; omega⟩ hb hl hc hk (fun h1 h2 j hj => (playTo_ok hok _ fun s hs => List.all_eq_true.1 h2 s ((List.take_sublist _ _).subset hs)).ready)).mono fun e w' h => ?_
    unfold PlayPost at h
    by_cases h1 : l.all fitsB = false
    · rw [if_pos h1] at h
      exact play_none (by rw [playOf, if_neg hne, if_pos h1]) h.1 h.2
    · rw [if_neg h1] at h
      by_cases h2 : 150 < l.length
      · rw [if_pos h2] at h
        exact play_none (by rw [playOf, if_neg hne, if_neg h1, if_pos h2]) h.1 h.2
      · rw [if_neg h2] at h
        rw [PlayEnds, show playOf d l = (playTo d l, 0) by rw [playOf, if_neg hne, if_neg h1, if_neg h2]]
        exact h
end Go.Proofs.Ytfmojgdomficlaa
set_option linter.unusedVariables false
set_option linter.unusedSimpArgs false
/-! The chapter's examples, computed. -/
namespace Go.Proofs.Ytfmojgdomficlaa

def sayN (id ver : Int) : News := ⟨1, 0, id, ver, ⟨10 + ver, 0, 0⟩⟩
def markN (at_ : Int) : News := ⟨3, 0, 0, 0, ⟨at_, 0, 0⟩⟩
def doS (d : Int) : SStep := ⟨d, 0, 0, false, ⟨0, 0, 0, 0, ⟨0, 0, 0⟩⟩⟩
def writeS (n : News) : SStep := ⟨1, 0, 0, false, n⟩
def crashS (k : Int) (torn : Bool) : SStep := ⟨5, k, 0, torn, ⟨0, 0, 0, 0, ⟨0, 0, 0⟩⟩⟩
def threeS : List SStep := [writeS (sayN 1 1), doS 2, writeS (sayN 2 1)]
def fourS : List SStep := [writeS (sayN 1 1), writeS (sayN 2 1), doS 3, writeS (sayN 1 2), writeS (markN 5), doS 3]
theorem known_sum1 : segSum ⟨1, 0, 0, 0, ⟨0, 0, 0⟩⟩ = 1378 := by decide
theorem known_sum2 : segSum ⟨2, 0, 0, 0, ⟨0, 0, 0⟩⟩ = 7789 := by decide
/-- The first example's device. -/
def exA : SDisk := (playOf beginD (threeS ++ [crashS 0 true])).1.1
def exB : SDisk := (playOf exA [doS 6]).1.1
def exC : SDisk := (playOf beginD (fourS ++ [doS 4])).1.1
theorem known_a : (playOf beginD (threeS ++ [crashS 0 true])).2 = 0 ∧ (playOf beginD (threeS ++ [crashS 0 true])).1.2 = [true, true, true, true] ∧ diskB exA = true ∧ wholeB exA = false := by decide +kernel
theorem known_b : (playOf exA [doS 6]).2 = 0 ∧ diskB exB = true ∧ thereOf exB = [sayN 1 1] := by decide +kernel
theorem known_c : (playOf beginD (fourS ++ [doS 4])).2 = 0 ∧ (playOf beginD (fourS ++ [doS 4])).1.2 = [true, true, true, true, true, true, true] ∧ diskB exC = true ∧ exC.files.map (·.no) = [3, 4] ∧ exC.list = [4, 3] ∧ thereOf exC = [sayN 2 1, sayN 1 2, markN 5] := by decide +kernel
end Go.Proofs.Ytfmojgdomficlaa
