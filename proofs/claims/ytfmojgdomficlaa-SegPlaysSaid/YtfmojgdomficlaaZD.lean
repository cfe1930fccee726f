/-
  Texts of one hand, laid together: SegFormed, SegCheck, SegWhole, SegOwn, SegCopied.
-/
import Derived.Test.YtfmojgdomficlaaZB
import Derived.Test.YtfmojgdomficlaaZC
set_option linter.unusedVariables false
set_option linter.unusedSimpArgs false
/-! Is a device formed? -/
namespace Go.Proofs.Ytfmojgdomficlaa
open Go.RowKit Go.Shelf Go.Proofs.YtfmojgdomficlaaW.PrintWords

theorem filesFrom_cons (last opn many : Int) (f : SFile) (l : List SFile) : filesFrom last opn many (f :: l) = (decide (last < f.no) && (decide (f.no ≤ 9999) && (decide (0 ≤ f.safe) && (decide (f.safe ≤ f.recs.length) && ((decide ((f.recs.length : Int) ≤ f.safe) || f.no == opn) && (decide (many + f.recs.length ≤ 120) && filesFrom f.no opn (many + f.recs.length) l)))))) := rfl
theorem listB_ne {d : SDisk} (h : listB d = true) : d.list ≠ [] := by
  intro e; simp [listB, e] at h
theorem listedFrom_some {fs : List SFile} : ∀ {l pre : List Int}, listedFrom fs pre l = true → ∀ no ∈ l, (placeI no fs 0).isSome = true
  | [], _, _, _, hn => by simp at hn
  | x :: l, pre, h, no, hn => by
    rw [listedFrom_cons, Bool.and_eq_true, Bool.and_eq_true] at h
    rcases List.mem_cons.1 hn with rfl | hn
    · exact h.1
    · exact listedFrom_some h.2.2 no hn
theorem listB_some {d : SDisk} (h : listB d = true) : ∀ no ∈ d.list, (placeI no d.files 0).isSome = true := by
  simp only [listB, Bool.and_eq_true] at h
  exact listedFrom_some h.2.2
/-- What the walk of one file needs to know. -/
def Way (f : SFile) (last opn : Int) (ok : Bool) : Prop := (decide (last < f.no) && (decide (f.no ≤ 9999) && (decide (0 ≤ f.safe) && (decide (f.safe ≤ f.recs.length) && (decide ((f.recs.length : Int) ≤ f.safe) || f.no == opn))))) = ok
theorem way_false {f : SFile} {last opn many : Int} {rest : List SFile} (h : Way f last opn false) : (decide (last < f.no) && (decide (f.no ≤ 9999) && (decide (0 ≤ f.safe) && (decide (f.safe ≤ f.recs.length) && ((decide ((f.recs.length : Int) ≤ f.safe) || f.no == opn) && (decide (many + f.recs.length ≤ 120) && filesFrom f.no opn (many + f.recs.length) rest)))))) = false := by
  unfold Way at h
  revert h
  cases decide (last < f.no) <;> cases decide (f.no ≤ 9999) <;> cases decide (0 ≤ f.safe) <;> cases decide (f.safe ≤ (f.recs.length : Int)) <;> cases (decide ((f.recs.length : Int) ≤ f.safe) || f.no == opn) <;> simp
theorem way_true {f : SFile} {last opn many : Int} {rest : List SFile} (h : Way f last opn true) : (decide (last < f.no) && (decide (f.no ≤ 9999) && (decide (0 ≤ f.safe) && (decide (f.safe ≤ f.recs.length) && ((decide ((f.recs.length : Int) ≤ f.safe) || f.no == opn) && (decide (many + f.recs.length ≤ 120) && filesFrom f.no opn (many + f.recs.length) rest)))))) = (decide (many + f.recs.length ≤ 120) && filesFrom f.no opn (many + f.recs.length) rest) := by
  unfold Way at h
  revert h
  cases decide (last < f.no) <;> cases decide (f.no ≤ 9999) <;> cases decide (0 ≤ f.safe) <;> cases decide (f.safe ≤ (f.recs.length : Int)) <;> cases (decide ((f.recs.length : Int) ≤ f.safe) || f.no == opn) <;> simp
set_option maxRecDepth 100000 in
set_option maxHeartbeats 8000000 in
theorem seg_formed_files (d : SDisk) (b : Nat) (Af Al : Option Addr) (cf cl : Nat) (w : World) (hd : DAt w b Af cf Al cl d) (hl : listB d = true) (hF : ∀ f ∈ d.files, f.recs.length ≤ 140737488355328)
    (hN : filesFrom 0 (openNo d) 0 d.files = true → ((thereOf d).length + 1) * 56 ≤ 140737488355328) :
    Calls Try.prog 45 #[.pointer (some ⟨b, 0, none⟩)] w fun e w' => e = .returned (.bool (filesFrom 0 (openNo d) 0 d.files && formedB (thereOf d) 4)) ∧ Below w.heap.size w w' := by
  have c0 := hd.c0
  have c1 := hd.c1
  have hcl := hd.capl
  have hcf := hd.capf
  have hm : d.files.length ≤ 9223372036854775807 := hd.files.2.1
  have hm2 : d.list.length ≤ 9223372036854775807 := hd.list.2.1
  have hg : d.list[d.list.length - 1]? = some (openNo d) := last_get d.list (listB_ne hl)
  have hlp : 0 < d.list.length := List.length_pos_iff.2 (listB_ne hl)
  obtain ⟨al, rfl, hop⟩ := int_cell hd.list _ _ hg rfl
  obtain ⟨m, hml⟩ : ∃ m, d.list.length = m + 1 := ⟨d.list.length - 1, by omega⟩
  have hwr : IntKind.i64.wrap ((d.list.length : Int) - 1) = (m : Int) := by rw [IntWalk.i64_in _ (by omega)]; omega
  have hmlt : m < d.list.length := by omega
  rw [show d.list.length - 1 = m by omega] at hop
  have HN := Lib.hid hN
  have Hl := Lib.hid hl
  have Hd := Lib.hid hd
  have Hop := Lib.hid hop
  clear hl hd hN hop hg hml
  go_enter Try.func45, Try.ntmps45
  go_wp2_with (first | (go_at_call 62; refine (seg_list d b _ _ cf cl _ Hd.out).mono ?_; rintro e w1 ⟨rfl, hb1⟩; rw [Hl.out]; have c0' := cell_keep hb1 c0; have c1' := cell_keep hb1 c1))
  generalize hopn : openNo d = opn at Hop HN ⊢
  have Hopn := Lib.hid hopn
  clear hopn
  have Hwr := Lib.hid hwr
  clear hwr
  go_loopw [3, 4, 17] (fun la ma i wr => ∃ (k : Nat) (last many : Int), k ≤ d.files.length ∧ i = .int .i64 k ∧ la = .int .i64 last ∧ ma = .int .i64 many ∧ 0 ≤ many ∧ many ≤ 120 ∧ Below w.heap.size w wr ∧ Hid (filesFrom 0 opn 0 d.files = filesFrom last opn many (d.files.drop k))) (fun _ _ i _ => d.files.length - (intOf i).toNat)
  case atStart => exact ⟨0, 0, 0, Nat.zero_le _, rfl, rfl, rfl, by omega, by omega, hb1, Lib.hid rfl⟩
  case round =>
    obtain ⟨k, last, many, hk, rfl, rfl, rfl, hm0, hm1, hB, Hp⟩ := hrel
    by_cases hlt : k < d.files.length
    · obtain ⟨f, ad, Ar, cr, hd1, htk, hget, rfl, e0, e1, e2, hcr, hrr⟩ := sfile_at (Kd.C_below Hd.out.files hB) k hlt
      have hst := Lib.hid (show filesFrom 0 opn 0 d.files = _ by rw [Hp.out, hd1, filesFrom_cons])
      have hlen : f.recs.length ≤ 140737488355328 := hF f (List.mem_of_getElem? hget)
      clear hd1 htk hget hrr Hp
      generalize hrest : d.files.drop (k + 1) = rest at hst
      have Hrest := Lib.hid hrest
      clear hrest
      have hX : ∀ X, Below (wr.heap.size + 1) (wr.alloc (.cells #[.int .i64 f.no, .slice Ar f.recs.length cr, .int .i64 f.safe] 62)) X → X.cell? ⟨wr.heap.size, 0, none⟩ = some (.int .i64 f.no) ∧ X.cell? ⟨wr.heap.size, 2, none⟩ = some (.int .i64 f.safe) ∧ X.cell? ⟨b, 1, none⟩ = some (.slice (some al) d.list.length cl) ∧ X.cell? (al.add m) = some (.int .i64 opn) := by
        intro X hX
        have hn := Cells.later (Cells.new wr #[.int .i64 f.no, .slice Ar f.recs.length cr, .int .i64 f.safe] 62) (by simpa using hX)
        have hw : Below w.heap.size w X := below_step hB (below_step (below_alloc (Below.refl _ _) _) (by simpa using hX))
        exact ⟨hn.cell 0 _ rfl, hn.cell 2 _ rfl, cell_keep hw c1, cell_keep hw Hop.out⟩
      have HX := Lib.hid hX
      clear hX
      have hways : ((decide (f.no ≤ last) = true ∧ Way f last opn false) ∨ (decide (f.no ≤ last) = false ∧ decide (9999 < f.no) = true ∧ Way f last opn false) ∨ (decide (f.no ≤ last) = false ∧ decide (9999 < f.no) = false ∧ decide (f.safe < 0) = true ∧ Way f last opn false) ∨ (decide (f.no ≤ last) = false ∧ decide (9999 < f.no) = false ∧ decide (f.safe < 0) = false ∧ decide ((f.recs.length : Int) < f.safe) = true ∧ Way f last opn false) ∨ (decide (f.no ≤ last) = false ∧ decide (9999 < f.no) = false ∧ decide (f.safe < 0) = false ∧ decide ((f.recs.length : Int) < f.safe) = false ∧ decide (f.safe < (f.recs.length : Int)) = true ∧ (f.no != opn) = true ∧ Way f last opn false)) ∨
          ((decide (f.no ≤ last) = false ∧ decide (9999 < f.no) = false ∧ decide (f.safe < 0) = false ∧ decide ((f.recs.length : Int) < f.safe) = false ∧ decide (f.safe < (f.recs.length : Int)) = true ∧ (f.no != opn) = false ∧ Way f last opn true) ∨ (decide (f.no ≤ last) = false ∧ decide (9999 < f.no) = false ∧ decide (f.safe < 0) = false ∧ decide ((f.recs.length : Int) < f.safe) = false ∧ decide (f.safe < (f.recs.length : Int)) = false ∧ Way f last opn true)) := by
        unfold Way
        rw [show decide (last < f.no) = !decide (f.no ≤ last) by rw [← decide_not]; exact decide_eq_decide.2 (by omega), show decide (f.no ≤ 9999) = !decide (9999 < f.no) by rw [← decide_not]; exact decide_eq_decide.2 (by omega), show decide (0 ≤ f.safe) = !decide (f.safe < 0) by rw [← decide_not]; exact decide_eq_decide.2 (by omega), show decide (f.safe ≤ (f.recs.length : Int)) = !decide ((f.recs.length : Int) < f.safe) by rw [← decide_not]; exact decide_eq_decide.2 (by omega), show decide ((f.recs.length : Int) ≤ f.safe) = !decide (f.safe < (f.recs.length : Int)) by rw [← decide_not]; exact decide_eq_decide.2 (by omega), show (f.no == opn) = !(f.no != opn) by rw [bne, Bool.not_not]]
        generalize decide (f.no ≤ last) = b1
        generalize decide (9999 < f.no) = b2
        generalize decide (f.safe < 0) = b3
        generalize decide ((f.recs.length : Int) < f.safe) = b4
        generalize decide (f.safe < (f.recs.length : Int)) = b5
        generalize (f.no != opn) = b6
        cases b1 <;> cases b2 <;> cases b3 <;> cases b4 <;> cases b5 <;> cases b6 <;> simp
      clear HN Hl
      rcases hways with hways | hways
      · rcases hways with ⟨g1, hw⟩ | ⟨g1, g2, hw⟩ | ⟨g1, g2, g3, hw⟩ | ⟨g1, g2, g3, g4, hw⟩ | ⟨g1, g2, g3, g4, g5, g6, hw⟩
        all_goals
          go_wp2
          refine wp_region_flow [.calm 0, .calm 1, .calm 2, .calm 3, .calm 4, .calm 5, .calm 6, .calm 7, .calm 8, .calm 9, .calm 10, .calm 11, .calm 12, .calm 13, .calm 14, .calm 15, .calm 16, .calm 17, .calm 18, .calm 19, .calm 20, .calm 21, .calm 22, .calm 23, .calm 24, .calm 25, .calm 26, .calm 27, .calm 28, .calm 29, .calm 30, .calm 31, .calm 32, .calm 33, .calm 34, .calm 35, .calm 36, .calm 37, .calm 38, .calm 39, .calm 40, .calm 41, .calm 42, .calm 43, .calm 44] (fun X => Below (wr.heap.size + 1) (wr.alloc (.cells #[.int .i64 f.no, .slice Ar f.recs.length cr, .int .i64 f.safe] 62)) X) (fun X => Below (wr.heap.size + 1) (wr.alloc (.cells #[.int .i64 f.no, .slice Ar f.recs.length cr, .int .i64 f.safe] 62)) X) (fun _ _ h hb => h.trans (hb.mono (by have := h.size; simp at this; omega))) (fun _ h => h) (by kernel_rfl) (by kernel_rfl) (below_drew1 (Below.refl _ _)) ?_
          simp only [pickEnts, pickF, List.getElem?_cons_succ, List.getElem?_cons_zero, List.filterMap_cons, List.filterMap_nil, Option.map_some]
          repeat ((first | refine flow_calm (fun K hK => ?_) | refine flow_free (fun K hK => ?_) | refine float_calm (fun K hK => ?_) | refine float_free (fun K hK => ?_)); go_simp; first | (refine hK _ ?_; clear hK K) | (apply Exists.intro; (refine ⟨fun X => ?_, hK _ ?_⟩); (first | (intro hC; rfl) | rfl | (intro hC; obtain ⟨x0, x1, x2, x3⟩ := HX.out X hC.out; (try simp only [Hwr.out]); go_simp; done) | (intro hC; obtain ⟨x0, x1, x2, x3⟩ := HX.out X hC.out; (try simp only [Hwr.out]); go_simp; rfl)); clear hK K))
          refine flow_nil ?_
          intro X hC
          have HC := Lib.hid (show Below wr.heap.size wr X from below_step (below_alloc (Below.refl _ _) _) (by simpa using hC.out))
          have hxx := HX.out X hC.out
          obtain ⟨x0, -, -, -⟩ := hxx
          clear hC
          go_wp2
          go_ret
          exact ⟨by rw [Hopn.out, hst.out, way_false hw]; rfl, below_step hB HC.out⟩
      · have hsm0 : 0 ≤ many + (f.recs.length : Int) := by omega
        rcases hways with ⟨g1, g2, g3, g4, g5, g6, hw⟩ | ⟨g1, g2, g3, g4, g5, hw⟩
        all_goals
          have hst2 := Lib.hid (hst.out.trans (way_true hw))
          go_wp2
          refine wp_region_flow [.calm 0, .calm 1, .calm 2, .calm 3, .calm 4, .calm 5, .calm 6, .calm 7, .calm 8, .calm 9, .calm 10, .calm 11, .calm 12, .calm 13, .calm 14, .calm 15, .calm 16, .calm 17, .calm 18, .calm 19, .calm 20, .calm 21, .calm 22, .calm 23, .calm 24, .calm 25, .calm 26, .calm 27, .calm 28, .calm 29, .calm 30, .calm 31, .calm 32, .calm 33, .calm 34, .calm 35, .calm 36, .calm 37, .calm 38, .calm 39, .calm 40, .calm 41, .calm 42, .calm 43, .calm 44] (fun X => Below (wr.heap.size + 1) (wr.alloc (.cells #[.int .i64 f.no, .slice Ar f.recs.length cr, .int .i64 f.safe] 62)) X) (fun X => Below (wr.heap.size + 1) (wr.alloc (.cells #[.int .i64 f.no, .slice Ar f.recs.length cr, .int .i64 f.safe] 62)) X) (fun _ _ h hb => h.trans (hb.mono (by have := h.size; simp at this; omega))) (fun _ h => h) (by kernel_rfl) (by kernel_rfl) (below_drew1 (Below.refl _ _)) ?_
          simp only [pickEnts, pickF, List.getElem?_cons_succ, List.getElem?_cons_zero, List.filterMap_cons, List.filterMap_nil, Option.map_some]
          repeat ((first | refine flow_calm (fun K hK => ?_) | refine flow_free (fun K hK => ?_) | refine float_calm (fun K hK => ?_) | refine float_free (fun K hK => ?_)); go_simp; first | (refine hK _ ?_; clear hK K) | (apply Exists.intro; (refine ⟨fun X => ?_, hK _ ?_⟩); (first | (intro hC; rfl) | rfl | (intro hC; obtain ⟨x0, x1, x2, x3⟩ := HX.out X hC.out; (try simp only [Hwr.out]); go_simp; done) | (intro hC; obtain ⟨x0, x1, x2, x3⟩ := HX.out X hC.out; (try simp only [Hwr.out]); go_simp; rfl)); clear hK K))
          refine flow_nil ?_
          intro X hC
          have HC := Lib.hid (show Below wr.heap.size wr X from below_step (below_alloc (Below.refl _ _) _) (by simpa using hC.out))
          have hxx := HX.out X hC.out
          obtain ⟨x0, -, -, -⟩ := hxx
          clear hC
          by_cases hbig : many + (f.recs.length : Int) ≤ 120
          · have hbd : decide (120 < many + (f.recs.length : Int)) = false := by simp; omega
            go_wp2
            exact ⟨⟨k + 1, _, _, by omega, by go_num, rfl, rfl, hsm0, hbig, below_step hB (by repeat (first | exact HC.out | exact Below.refl _ _ | assumption)), Lib.hid (by rw [Hrest.out, hst2.out, decide_eq_true hbig]; rfl)⟩, by simp [intOf]; omega⟩
          · have hbd : decide (120 < many + (f.recs.length : Int)) = true := by simp; omega
            go_wp2
            go_ret
            exact ⟨by rw [Hopn.out, hst2.out, decide_eq_false (by omega)]; rfl, below_step hB HC.out⟩
    · have hkl : k = d.files.length := by omega
      have h1 : filesFrom 0 opn 0 d.files = true := by rw [Hp.out, hkl, List.drop_of_length_le (Nat.le_refl _)]; rfl
      have H1 := Lib.hid h1
      have hn := HN.out h1
      clear h1 hkl
      go_wp2_with (first
        | (go_at_call 42; refine (seg_there d b _ _ cf cl _ (Hd.out.later hB) (listB_some Hl.out) hn).mono ?_; rintro e w2 ⟨v, rfl, r1, r2⟩; obtain ⟨A2, cc2, rfl, hcc2, hrow2⟩ := own_reads' r1)
        | (go_at_call 63; refine (hist_check (thereOf d) A2 cc2 4 _ hrow2 hcc2).mono ?_; rintro e w3 ⟨rfl, hb3⟩))
      all_goals
        go_ret
        exact ⟨by first | rfl | (rw [Hopn.out, H1.out]; rfl), below_step hB (below_step r2 hb3)⟩
end Go.Proofs.Ytfmojgdomficlaa
set_option linter.unusedVariables false
set_option linter.unusedSimpArgs false
/-! Check, News. -/
namespace Go.Proofs.Ytfmojgdomficlaa
open Go.RowKit Go.Shelf Go.Proofs.YtfmojgdomficlaaW.PrintWords

theorem filesFrom_small (opn : Int) : ∀ (l : List SFile) (last many : Int), 0 ≤ many → filesFrom last opn many l = true → ∀ f ∈ l, (f.recs.length : Int) ≤ 120 - many
  | [], _, _, _, _, f, hf => by simp at hf
  | x :: l, last, many, h0, h, f, hf => by
    simp only [filesFrom_cons, Bool.and_eq_true, decide_eq_true_eq] at h
    obtain ⟨_, _, _, _, _, h1, h2⟩ := h
    rcases List.mem_cons.1 hf with rfl | hf
    · omega
    · have := filesFrom_small opn l x.no (many + x.recs.length) (by omega) h2 f hf
      omega
theorem fileOf_mem {fs : List SFile} {no : Int} (h : (placeI no fs 0).isSome = true) : fileOf fs no ∈ fs := by
  obtain ⟨i, hi⟩ := Option.isSome_iff_exists.1 h
  obtain ⟨_, f, h1, _, h2⟩ := placeI_spec no fs 0 i hi
  rw [fileOf, h2]
  exact List.mem_of_getElem? h1
theorem goodOf_len (l : List SRec) : (goodOf l).length ≤ l.length := (List.takeWhile_sublist _).length_le
theorem thereFrom_len (fs : List SFile) (m : Nat) (hm : ∀ f ∈ fs, f.recs.length ≤ m) : ∀ (l : List Int), (∀ no ∈ l, (placeI no fs 0).isSome = true) → (thereFrom fs l).length ≤ l.length * m
  | [], _ => by simp [thereFrom]
  | x :: l, h => by
    have h1 := thereFrom_len fs m hm l (fun no hn => h no (List.mem_cons_of_mem _ hn))
    have h2 := hm _ (fileOf_mem (h x List.mem_cons_self))
    have h3 := goodOf_len (fileOf fs x).recs
    simp only [thereFrom, List.flatMap_cons, List.length_append, List.length_map, List.length_cons] at h1 ⊢
    rw [Nat.add_mul]
    omega
theorem there_small {d : SDisk} (hl : listB d = true) (hf : filesFrom 0 (openNo d) 0 d.files = true) : (thereOf d).length ≤ 960 := by
  have h1 := thereFrom_len d.files 120 (fun f h => by have := filesFrom_small _ _ _ _ (by omega) hf f h; omega) d.list (listB_some hl)
  have h2 : d.list.length ≤ 8 := by simp only [listB, Bool.and_eq_true, decide_eq_true_eq] at hl; exact hl.2.1
  have h3 : (thereFrom d.files d.list).length = (thereOf d).length := rfl
  omega
/-- Rows that fit into memory. -/
def Fits (d : SDisk) : Prop := ∀ f ∈ d.files, f.recs.length ≤ 140737488355328
set_option maxRecDepth 100000 in
set_option maxHeartbeats 4000000 in
theorem seg_formed (d : SDisk) (b : Nat) (Af Al : Option Addr) (cf cl : Nat) (w : World) (hd : DAt w b Af cf Al cl d) (hF : Fits d) :
    Calls Try.prog 45 #[.pointer (some ⟨b, 0, none⟩)] w fun e w' => e = .returned (.bool (diskB d)) ∧ Below w.heap.size w w' := by
  unfold diskB shapedB
  cases hl : listB d
  · have Hl := Lib.hid hl
    clear hl
    go_enter Try.func45, Try.ntmps45
    go_wp2_with (first | (go_at_call 62; refine (seg_list d b _ _ cf cl _ hd).mono ?_; rintro e w1 ⟨rfl, hb1⟩; rw [Hl.out]))
    go_ret
    exact ⟨rfl, hb1⟩
  · rw [Bool.true_and]
    exact seg_formed_files d b Af Al cf cl w hd hl hF (fun h => by have := there_small hl h; omega)
theorem DRows.at_new {w : World} {Af Al : Option Addr} {cf cl : Nat} {d : SDisk} (h : DRows w Af cf Al cl d) {w' : World} (hb : Below w.heap.size w w') (t : TypeId) : DAt (w'.alloc (.cells #[.slice Af d.files.length cf, .slice Al d.list.length cl] t)) w'.heap.size Af cf Al cl d :=
  ⟨h.later (below_alloc hb _), (Cells.new w' _ _).cell 0 _ rfl, (Cells.new w' _ _).cell 1 _ rfl⟩
set_option maxRecDepth 100000 in
set_option maxHeartbeats 4000000 in
theorem seg_Check (d : SDisk) (Af Al : Option Addr) (cf cl : Nat) (w : World) (hd : DRows w Af cf Al cl d) (hF : Fits d) :
    Calls Try.prog 18 #[.agg #[.slice Af d.files.length cf, .slice Al d.list.length cl]] w fun e w' => e = .returned (.int .i64 (if diskB d then 0 else 2)) ∧ Below w.heap.size w w' := by
  have Hd := Lib.hid (hd.at_new (below_alloc (Below.refl _ _) (.cells #[.slice Af d.files.length cf, .slice Al d.list.length cl] 33)) 79)
  clear hd
  cases hb : diskB d
  all_goals
    have Hb := Lib.hid hb
    clear hb
    go_enter Try.func18, Try.ntmps18
    go_wp2_with (first | (go_at_call 45; refine (seg_formed d _ _ _ cf cl _ (by simpa using Hd.out) hF).mono ?_; rintro e w1 ⟨rfl, hb1⟩; rw [Hb.out]))
    go_ret
    exact ⟨rfl, by have := (below_alloc (below_alloc (Below.refl w.heap.size w) (.cells #[.slice Af d.files.length cf, .slice Al d.list.length cl] 33)) (.cells #[.slice Af d.files.length cf, .slice Al d.list.length cl] 79)); exact below_step this (by simpa using hb1)⟩
set_option maxRecDepth 100000 in
set_option maxHeartbeats 4000000 in
theorem seg_News (d : SDisk) (Af Al : Option Addr) (cf cl : Nat) (w : World) (hd : DRows w Af cf Al cl d) (hF : Fits d) :
    Calls Try.prog 14 #[.agg #[.slice Af d.files.length cf, .slice Al d.list.length cl]] w fun e w' => ∃ v, e = .returned (.tuple #[v, .int .i64 (if diskB d then 0 else 2)]) ∧ Own kNews 26 w' w.heap.size v (if diskB d then thereOf d else []) ∧ Below w.heap.size w w' := by
  have Hd := Lib.hid hd
  clear hd
  cases hb : diskB d
  · have Hb := Lib.hid hb
    clear hb
    go_enter Try.func14, Try.ntmps14
    go_wp2_with (first | (go_at_call 18; refine (seg_Check d _ _ cf cl _ (Hd.out.later (below_alloc (Below.refl _ _) _)) hF).mono ?_; rintro e w1 ⟨rfl, hb1⟩; rw [Hb.out]))
    go_ret2
    exact ⟨_, rfl, Kd.R_nil _ _ _ _ _, below_step (below_alloc (Below.refl _ _) _) (by simpa using hb1)⟩
  · have hl : listB d = true := by simp only [diskB, shapedB, Bool.and_eq_true] at hb; exact hb.1.1
    have hf : filesFrom 0 (openNo d) 0 d.files = true := by simp only [diskB, shapedB, Bool.and_eq_true] at hb; exact hb.1.2
    have hn := there_small hl hf
    have Hl := Lib.hid hl
    have Hb := Lib.hid hb
    clear hb hf hl
    go_enter Try.func14, Try.ntmps14
    go_wp2_with (first
      | (go_at_call 18; refine (seg_Check d _ _ cf cl _ (Hd.out.later (below_alloc (Below.refl _ _) _)) hF).mono ?_; rintro e w1 ⟨rfl, hb1⟩; rw [Hb.out]; obtain ⟨hc1, hf1⟩ := bcell hb1)
      | (go_at_call 42; refine (seg_there d _ _ _ cf cl _ (Hd.out.at_new (below_step (below_alloc (Below.refl _ _) _) (by simpa using hb1)) _) (listB_some Hl.out) (by omega)).mono ?_; rintro e w2 ⟨v, rfl, r1, r2⟩; obtain ⟨A2, n2, cc2, rfl⟩ := R_slice' r1))
    go_ret2
    have hw1 : Below w.heap.size w w1 := below_step (below_alloc (Below.refl _ _) _) (by simpa using hb1)
    exact ⟨_, rfl, Kd.R_lower r1 (by have := hw1.size; simp; omega), below_step (below_alloc hw1 _) r2⟩
end Go.Proofs.Ytfmojgdomficlaa
set_option linter.unusedVariables false
set_option linter.unusedSimpArgs false
/-! Is a device whole? -/
namespace Go.Proofs.Ytfmojgdomficlaa
open Go.RowKit Go.Shelf Go.Proofs.YtfmojgdomficlaaW.PrintWords
attribute [local go_sem] Oper.semAt_some

theorem goodOf_all : ∀ (l : List SRec), l.all rightB = decide (l.length ≤ (goodOf l).length)
  | [] => by simp [goodOf]
  | r :: l => by
    have ih := goodOf_all l
    have e : goodOf (r :: l) = if rightB r then r :: goodOf l else [] := by
      unfold goodOf; rw [List.takeWhile_cons]
    by_cases h : rightB r = true
    · rw [List.all_cons, h, Bool.true_and, ih, e, if_pos h]
      simp
    · have h' : rightB r = false := by simpa using h
      rw [List.all_cons, h', e, if_neg h]
      simp
def wholeF (d : SDisk) (f : SFile) : Bool := f.recs.all rightB && d.list.contains f.no
set_option maxRecDepth 100000 in
set_option maxHeartbeats 8000000 in
theorem seg_whole (d : SDisk) (b : Nat) (Af Al : Option Addr) (cf cl : Nat) (w : World) (hd : DAt w b Af cf Al cl d) :
    Calls Try.prog 44 #[.pointer (some ⟨b, 0, none⟩)] w fun e w' => e = .returned (.bool (wholeB d)) ∧ Below w.heap.size w w' := by
  have c0 := hd.c0
  have hcf := hd.capf
  have hm : d.files.length ≤ 9223372036854775807 := hd.files.2.1
  have Hd := Lib.hid hd
  clear hd
  have hbw := World.block_lt_of_cell? w _ c0
  have Hwh := Lib.hid (show wholeB d = d.files.all (wholeF d) from rfl)
  refine (callsIn_wide (n := 3)).1 ?_
  refine callsIn_of_wp_marks Try.func44 rfl trivial ?_ rfl
  refine wpIn_wide.2 ?_
  simp only [Try.ntmps44, List.size_toArray, List.length_cons, List.length_nil, Nat.reduceAdd, Nat.reduceSub, Array.replicate_succ, Array.replicate_zero, List.push_toArray, List.append_toArray, List.nil_append, List.cons_append]
  go_wp2
  refine wp_loop (fun a wr => ∃ (k : Nat) (u4 u5 u13 u14 u15 u16 u17 u21 u22 u23 u24 u25 u26 u27 u28 u29 u30 u31 u32 u33 : Value) (Ds : List Nat), a = { tmps := #[.pointer (some ⟨b, 0, none⟩), undef, .bool false, undef, u4, u5, .pointer (some ⟨b, 0, none⟩), .pointer (some ⟨b, 0, none⟩), .pointer (some ⟨b, 0, none⟩), .pointer (some ⟨b, 0, none⟩), .slice Af d.files.length cf, .int .i64 d.files.length, .int .i64 k, u13, u14, u15, u16, u17, undef, undef, undef, u21, u22, u23, u24, u25, u26, u27, u28, u29, u30, u31, u32, u33], defers := markDefers Ds } ∧ k ≤ d.files.length ∧ Below w.heap.size w wr ∧ Marks w.heap.size wr Ds ∧ w.heap.size ≤ wr.heap.size ∧ Hid (d.files.all (wholeF d) = (d.files.drop k).all (wholeF d))) (fun a _ => d.files.length - (intOf (a.tmps.getD 12 undef)).toNat) ?_ ?_
  · exact ⟨0, undef, undef, undef, undef, undef, undef, undef, undef, undef, undef, undef, undef, undef, undef, undef, undef, undef, undef, undef, undef, [], rfl, Nat.zero_le _, Below.refl _ _, Marks.none _ _, Nat.le_refl _, Lib.hid rfl⟩
  · rintro a wr ⟨k, u4, u5, u13, u14, u15, u16, u17, u21, u22, u23, u24, u25, u26, u27, u28, u29, u30, u31, u32, u33, Ds, rfl, hk, hB, hmk, hsz, Hp⟩
    by_cases hlt : k < d.files.length
    · obtain ⟨f, ad, Ar, cr, hd1, htk, hget, rfl, e0, e1, e2, hcr, -⟩ := sfile_at (Kd.C_below Hd.out.files hB) k hlt
      obtain ⟨f', ad', Ar', cr', -, -, hget', hAd, p0, p1, p2, -, hrr⟩ := sfile_at Hd.out.files k hlt
      obtain rfl : f = f' := by rw [hget] at hget'; exact Option.some.inj hget'
      obtain rfl : ad = ad' := by simpa using hAd
      obtain ⟨rfl, rfl⟩ : Ar = Ar' ∧ cr = cr' := by
        have h := cell_keep hB p1
        rw [e1] at h
        simpa using h
      have hst := Lib.hid (show d.files.all (wholeF d) = (wholeF d f && (d.files.drop (k + 1)).all (wholeF d)) by rw [Hp.out, hd1]; rfl)
      have Hrr := Lib.hid hrr
      clear hd1 htk hget hget' hAd p0 p1 p2 hrr Hp
      go_wp2_with (first
        | (go_at_call 58; refine (seg_right _ _ _ _ _ _).mono ?_; rintro e w3 ⟨rfl, rfl⟩))
      have hb3 : Below wr.heap.size wr (((wr.alloc (.cells #[.int .i64 f.no, .slice Ar f.recs.length cr, .int .i64 f.safe] 62)).alloc (.cells #[.int .i64 0] 3)).alloc (.cells #[.int .i64 f.no, .slice Ar f.recs.length cr, .int .i64 f.safe] 62)) := below_alloc (below_alloc (below_alloc (Below.refl _ _) _) _) _
      have hz3 : (((wr.alloc (.cells #[.int .i64 f.no, .slice Ar f.recs.length cr, .int .i64 f.safe] 62)).alloc (.cells #[.int .i64 0] 3)).alloc (.cells #[.int .i64 f.no, .slice Ar f.recs.length cr, .int .i64 f.safe] 62)).heap.size = wr.heap.size + 3 := by simp
      have hc3 : Cells (((wr.alloc (.cells #[.int .i64 f.no, .slice Ar f.recs.length cr, .int .i64 f.safe] 62)).alloc (.cells #[.int .i64 0] 3)).alloc (.cells #[.int .i64 f.no, .slice Ar f.recs.length cr, .int .i64 f.safe] 62)) (wr.heap.size + 2) #[.int .i64 f.no, .slice Ar f.recs.length cr, .int .i64 f.safe] 62 := by have := Cells.new ((wr.alloc (.cells #[.int .i64 f.no, .slice Ar f.recs.length cr, .int .i64 f.safe] 62)).alloc (.cells #[.int .i64 0] 3)) #[.int .i64 f.no, .slice Ar f.recs.length cr, .int .i64 f.safe] 62; simpa using this
      have hm3 : Cells (((wr.alloc (.cells #[.int .i64 f.no, .slice Ar f.recs.length cr, .int .i64 f.safe] 62)).alloc (.cells #[.int .i64 0] 3)).alloc (.cells #[.int .i64 f.no, .slice Ar f.recs.length cr, .int .i64 f.safe] 62)) (wr.heap.size + 1) #[.int .i64 0] 3 := by have := (Cells.new (wr.alloc (.cells #[.int .i64 f.no, .slice Ar f.recs.length cr, .int .i64 f.safe] 62)) #[.int .i64 0] 3).later (below_alloc (Below.refl _ _) (.cells #[.int .i64 f.no, .slice Ar f.recs.length cr, .int .i64 f.safe] 62)); simpa using this
      have hf3 : Cells (((wr.alloc (.cells #[.int .i64 f.no, .slice Ar f.recs.length cr, .int .i64 f.safe] 62)).alloc (.cells #[.int .i64 0] 3)).alloc (.cells #[.int .i64 f.no, .slice Ar f.recs.length cr, .int .i64 f.safe] 62)) wr.heap.size #[.int .i64 f.no, .slice Ar f.recs.length cr, .int .i64 f.safe] 62 := by have := ((Cells.new wr #[.int .i64 f.no, .slice Ar f.recs.length cr, .int .i64 f.safe] 62).later (below_alloc (Below.refl _ _) (.cells #[.int .i64 0] 3))).later (below_alloc (Below.refl _ _) (.cells #[.int .i64 f.no, .slice Ar f.recs.length cr, .int .i64 f.safe] 62)); simpa using this
      generalize (((wr.alloc (.cells #[.int .i64 f.no, .slice Ar f.recs.length cr, .int .i64 f.safe] 62)).alloc (.cells #[.int .i64 0] 3)).alloc (.cells #[.int .i64 f.no, .slice Ar f.recs.length cr, .int .i64 f.safe] 62)) = w3 at hb3 hc3 hm3 hf3 hz3 ⊢
      have hB3 := below_step hB hb3
      have Hz3 := Lib.hid hz3
      have hs3 : wr.heap.size + 2 < w3.heap.size := by omega
      clear hz3
      refine (wpIn_wide (n := 3)).1 ?_
      refine wpIn_rangeFunc_ownH rfl (by omega) (gf := 82) (lb := #[.pointer (some ⟨wr.heap.size + 2, 0, none⟩)]) rfl trivial (enters_of Try.func82 (by kernel_rfl) rfl)
        (right_stops 2 (wr.heap.size + 2) Ar cr f.recs w w3 Hrr.out hcr hB3 (hc3.cell 1 _ rfl)) belowK_t (belowK_b (by omega)) (Below.refl _ _) (fun _ => rfl)
        (fun pre W => Cells W (wr.heap.size + 1) #[.int .i64 pre.length] 3 ∧ Cells W wr.heap.size #[.int .i64 f.no, .slice Ar f.recs.length cr, .int .i64 f.safe] 62 ∧ Below w.heap.size w W ∧ Marks w.heap.size W Ds ∧ w3.heap.size ≤ W.heap.size)
        (fun _ _ _ => False)
        (fun s W W' row ⟨h1, h2, h3, h4, h5⟩ hg hr => ⟨h1.turned hg (fun r e => (hr r e).2), h2.turned hg (fun r e => (hr r e).2), h3.grown hg (by omega) (fun r e => by have := (hr r e).1; omega), h4.turned (B := w3.heap.size) (fun D hD => Nat.lt_of_lt_of_le (hmk.lt D hD) hb3.size) hg (fun r e => (hr r e).1), Nat.le_trans h5 hg.size⟩)
        (fun _ _ _ _ _ hs _ _ => hs)
        ⟨hm3, hf3, hB3, hmk.below hb3, Nat.le_refl _⟩
        (fun x a' W => a' = { tmps := #[.pointer (some ⟨b, 0, none⟩), undef, .bool false, undef, .pointer (some ⟨wr.heap.size, 0, none⟩), .pointer (some ⟨wr.heap.size + 1, 0, none⟩), .pointer (some ⟨b, 0, none⟩), .pointer (some ⟨b, 0, none⟩), .pointer (some ⟨b, 0, none⟩), .pointer (some ⟨b, 0, none⟩), .slice (some ad) d.files.length cf, .int .i64 d.files.length, .int .i64 k, .bool true, .pointer (some (ad.add (k * 3))), .agg #[.int .i64 f.no, .slice Ar f.recs.length cr, .int .i64 f.safe], .agg #[.int .i64 f.no, .slice Ar f.recs.length cr, .int .i64 f.safe], .func (.func 82) #[] #[.pointer (some ⟨wr.heap.size + 2, 0, none⟩)], .agg #[.int .i64 x.news.do_, .int .i64 x.news.src, .int .i64 x.news.id, .int .i64 x.news.ver, .int .i64 x.news.body.at_, .int .i64 x.news.body.key, .int .i64 x.news.body.val, .int .i64 x.sum], undef, undef, u21, u22, u23, u24, u25, u26, u27, u28, u29, u30, u31, u32, u33], defers := [] })
        (fun x a' s W W' row h hg hr => h)
        ?assign ?body ?done ?stop
      case assign =>
        rintro l pre x W K hI hK
        gi_wp2
        exact hK _ _ (KeepsFrom.refl _ _) (Below.refl _ _) hI rfl
      case body =>
        rintro l pre x a' W hl - ⟨h1, h2, h3, h4, h5⟩ rfl hpl
        have kv := h1.cell 0 _ rfl
        have kf := h1.frozen 0
        have hgl := goodOf_len f.recs
        have hrl : f.recs.length ≤ 9223372036854775807 := Hrr.out.2.1
        gi_wp2
        have hb1 : Below w.heap.size W (W.setCell ⟨wr.heap.size + 1, 0, none⟩ (.int .i64 (pre.length + 1))) := (Below.refl _ _).setCell (p := ⟨wr.heap.size + 1, 0, none⟩) (by simp; omega) _
        exact ⟨(KeepsOthers.setCell _ _ _).from _, hb1, by have := h1.set (.int .i64 (pre.length + 1)); simpa using this, h2.kept (grownBy_setCell' W (wr.heap.size + 1) _) (by simp), h3.trans hb1, h4.others (KeepsOthers.setCell _ _ _), Nat.le_trans h5 hb1.size⟩
      case done =>
        rintro D ys W hD rfl ⟨h1, h2, h3, h4, h5⟩ hK
        have kv := h1.cell 0 _ rfl
        have kn := h2.cell 0 _ rfl
        have kr := h2.cell 1 _ rfl
        have hall := goodOf_all f.recs
        have hgl := goodOf_len f.recs
        have hrl : f.recs.length ≤ 9223372036854775807 := Hrr.out.2.1
        have hM := h4.cons (fun E hE => Nat.lt_of_lt_of_le (hmk.lt E hE) hb3.size) hD (by omega) hK
        by_cases hbad : (goodOf f.recs).length < f.recs.length
        · have hw0 : wholeB d = false := by
            rw [Hwh.out, hst.out]
            simp only [wholeF, hall]
            simp [Nat.not_le.2 hbad]
          have Hw0 := Lib.hid hw0
          have hbt : decide ((goodOf f.recs).length < f.recs.length) = true := by simpa using hbad
          clear hall hw0
          go_wp2
          refine leaves_marks (n0 := w.heap.size) (v := .bool false) (fun w' => by rw [results_tmp (t := 2) rfl]; rfl) (D :: Ds) W hM (by omega) ?_
          intro w' hb' hk'
          exact ⟨by rw [Hw0.out], h3.trans hb'⟩
        · have hbt : decide ((goodOf f.recs).length < f.recs.length) = false := by simpa using hbad
          have hal : f.recs.all rightB = true := by rw [hall]; simpa using hbad
          have Hal := Lib.hid hal
          clear hall hal
          cases hli : d.list.contains f.no
          · have hw0 : wholeB d = false := by
              rw [Hwh.out, hst.out]
              simp only [wholeF, hli]
              simp
            have Hw0 := Lib.hid hw0
            have Hli := Lib.hid hli
            clear hw0 hli
            go_wp2_with (first
              | (go_at_call 61; refine (seg_listed d b _ _ cf cl _ _ (Hd.out.later h3)).mono ?_; rintro e w4 ⟨rfl, hb4⟩; rw [Hli.out]))
            refine leaves_marks (n0 := w.heap.size) (v := .bool false) (fun w' => by rw [results_tmp (t := 2) rfl]; rfl) (D :: Ds) w4 (hM.below hb4) (by have := hb4.size; omega) ?_
            intro w' hb' hk'
            exact ⟨by rw [Hw0.out], (below_step h3 hb4).trans hb'⟩
          · have Hw1 := Lib.hid (show d.files.all (wholeF d) = (d.files.drop (k + 1)).all (wholeF d) by
              rw [hst.out]
              simp only [wholeF, hli, Hal.out]
              rfl)
            have Hli := Lib.hid hli
            clear hli
            go_wp2_with (first
              | (go_at_call 61; refine (seg_listed d b _ _ cf cl _ _ (Hd.out.later h3)).mono ?_; rintro e w4 ⟨rfl, hb4⟩; rw [Hli.out]))
            exact ⟨⟨k + 1, _, _, _, _, _, _, _, _, _, _, _, _, _, _, _, _, _, _, _, _, D :: Ds, rfl, by omega, below_step h3 hb4, hM.below hb4, by have := hb4.size; omega, Hw1⟩, by simp [intOf]; omega⟩
      case stop =>
        rintro D c pre W _ _ h _
        exact h.elim
    · have hkl : k = d.files.length := by omega
      have hw1 : wholeB d = true := by rw [Hwh.out, Hp.out, hkl, List.drop_of_length_le (Nat.le_refl _)]; rfl
      have Hw1 := Lib.hid hw1
      clear hkl hw1
      go_wp2
      refine leaves_marks (n0 := w.heap.size) (v := .bool true) (fun w' => by rw [results_tmp (t := 2) rfl]; rfl) Ds wr hmk hsz ?_
      intro w' hb' hk'
      exact ⟨by rw [Hw1.out], hB.trans hb'⟩
end Go.Proofs.Ytfmojgdomficlaa
set_option linter.unusedVariables false
set_option linter.unusedSimpArgs false
/-! A device of the call's own, that is changed. -/
namespace Go.Proofs.Ytfmojgdomficlaa
open Go.RowKit Go.Shelf Go.Proofs.YtfmojgdomficlaaW.PrintWords

/-- A file as it lies in its row: the records' slice by itself. -/
structure RF where
  no : Int
  A : Option Addr
  n : Nat
  c : Nat
  safe : Int
abbrev RF.v (r : RF) : Value := .slice r.A r.n r.c
def kSl : Kd (Option Addr × Nat × Nat) := Kd.scalar (fun x => .slice x.1 x.2.1 x.2.2) (fun _ => rfl)
def kRF : Kd RF := Kd.iso (Kd.pair (Kd.int .i64) (Kd.pair kSl (Kd.int .i64))) (fun x : RF => (x.no, (x.A, x.n, x.c), x.safe))
theorem kRF_open {w : World} {x : RF} {cs : List Value} (h : kRF.K w x cs) : cs = [.int .i64 x.no, x.v, .int .i64 x.safe] := by
  obtain ⟨c1, c2, rfl, rfl, c3, c4, rfl, rfl, rfl⟩ := h; rfl
theorem kRF_mkM (w : World) (base : Nat) (ok : Nat → Prop) (x : RF) : kRF.M w base ok x [.int .i64 x.no, x.v, .int .i64 x.safe] := ⟨[_], _, rfl, rfl, [_], [_], rfl, rfl, rfl⟩
theorem Cells.far {W : World} {B : Nat} {cs : Array Value} {t : TypeId} (h : Cells W B cs t) {p : Addr} (hne : B ≠ p.block) (u : Value) : Cells (W.setCell p u) B cs t := (Below.heap_setCell W p u B hne).trans h
/-- A kind with no rows inside. -/
def Flat {α : Type} (d : Kd α) : Prop := ∀ (w w' : World) (base : Nat) (ok ok' : Nat → Prop) (x : α) (cs : List Value), d.M w base ok x cs → d.M w' base ok' x cs
theorem flat_srec : Flat kSRec := fun _ _ _ _ _ x cs h => by obtain rfl := kSRec_open (kSRec.K_of_M h); exact kSRec_mkM _ _ _ x
theorem flat_rf : Flat kRF := fun _ _ _ _ _ x cs h => by obtain rfl := kRF_open (kRF.K_of_M h); exact kRF_mkM _ _ _ x
theorem flat_int : Flat (Kd.int .i64) := fun _ _ _ _ _ _ _ h => h
theorem flat_bool : Flat Kd.bool := fun _ _ _ _ _ _ _ h => h
theorem own_step {α : Type} {d : Kd α} (hd : Flat d) {e base : Nat} {w w1 : World} {v : Value} {xs : List α} (h : Own d e w base v xs) (hm : ∀ k, v.ownBlock = some k → w1.heap[k]? = w.heap[k]?) : Own d e w1 base v xs := by
  obtain ⟨_, inner, ho, hr⟩ := h
  exact ⟨fun _ _ => trivial, inner, own_move ho hm, hr.imp_ (fun x cs hx => hd _ _ _ _ _ x cs hx)⟩
theorem own_ty {α : Type} {d : Kd α} {e base : Nat} {w : World} {v : Value} {xs : List α} (h : Own d e w base v xs) {k : Nat} (hk : v.ownBlock = some k) : base ≤ k ∧ ∃ cells, w.heap[k]? = some (.cells cells e (0, 0)) := by
  obtain ⟨inner, ho⟩ := Kd.R_own h
  exact ⟨own_base ho k hk, own_typed ho k hk⟩
/-- Two blocks of two types are two blocks. -/
theorem ty_ne {w : World} {k g e t : Nat} {cells cells' : Array Value} (h : w.heap[k]? = some (.cells cells e (0, 0))) (h' : w.heap[g]? = some (.cells cells' t (0, 0))) (hne : e ≠ t) : k ≠ g := fun he => by
  subst he; rw [h] at h'; injection h' with h'; injection h' with _ h'; exact hne h'
theorem own_grown_ty {α : Type} {d : Kd α} (hd : Flat d) {e base : Nat} {w w1 : World} {v : Value} {xs : List α} (h : Own d e w base v xs) {row : Option Nat} (hg : w.grownBy w1 row) (ht : ∀ g, row = some g → ∃ cells t, w.heap[g]? = some (.cells cells t (0, 0)) ∧ t ≠ e) : Own d e w1 base v xs :=
  own_step hd h fun k hk => by
    obtain ⟨_, cells, hc⟩ := own_ty h hk
    refine hg.block k (Array.getElem?_eq_some_iff.1 hc).1 (fun e' => ?_)
    obtain ⟨_, t, hc', hne⟩ := ht k e'.symm
    exact ty_ne hc hc' (Ne.symm hne) rfl
/-- The rows of the files are the call's own, each in a block of its own. -/
structure RowsOwn (h0 : Nat) (w : World) (rs : List RF) (fs : List SFile) : Prop where
  len : rs.length = fs.length
  rel : ∀ (i : Nat) (r : RF) (f : SFile), rs[i]? = some r → fs[i]? = some f → r.no = f.no ∧ r.safe = f.safe ∧ Own kSRec 83 w h0 r.v f.recs
  apart : ∀ (i j : Nat) (r s : RF) (k : Nat), rs[i]? = some r → rs[j]? = some s → r.v.ownBlock = some k → s.v.ownBlock = some k → i = j
structure DOwn (h0 : Nat) (w : World) (b : Nat) (vf vl : Value) (rs : List RF) (d : SDisk) : Prop where
  hb : h0 ≤ b
  box : Cells w b #[vf, vl] 79
  files : Own kRF 62 w h0 vf rs
  rows : RowsOwn h0 w rs d.files
  list : Own (Kd.int .i64) 3 w h0 vl d.list
section
variable {h0 : Nat} {w w' : World} {b : Nat} {vf vl : Value} {rs : List RF} {d : SDisk}
theorem RowsOwn.step {fs : List SFile} (h : RowsOwn h0 w rs fs) (hm : ∀ r ∈ rs, ∀ k, r.v.ownBlock = some k → w'.heap[k]? = w.heap[k]?) : RowsOwn h0 w' rs fs :=
  ⟨h.len, fun i r f hr hf => by
    obtain ⟨h1, h2, h3⟩ := h.rel i r f hr hf
    exact ⟨h1, h2, own_step flat_srec h3 (hm r (List.mem_of_getElem? hr))⟩, h.apart⟩
theorem RowsOwn.typed {fs : List SFile} (h : RowsOwn h0 w rs fs) {r : RF} (hr : r ∈ rs) {k : Nat} (hk : r.v.ownBlock = some k) : h0 ≤ k ∧ ∃ cells, w.heap[k]? = some (.cells cells 83 (0, 0)) := by
  obtain ⟨i, hi⟩ := List.mem_iff_getElem?.1 hr
  have hl := (List.getElem?_eq_some_iff.1 hi).1
  obtain ⟨_, _, h3⟩ := h.rel i r (fs[i]'(by rw [← h.len]; exact hl)) hi (List.getElem?_eq_getElem _)
  exact own_ty h3 hk
theorem RowsOwn.later {fs : List SFile} (h : RowsOwn h0 w rs fs) (hb : Below w.heap.size w w') : RowsOwn h0 w' rs fs :=
  h.step fun r hr k hk => by obtain ⟨_, _, hc⟩ := h.typed hr hk; exact hb.block k (Array.getElem?_eq_some_iff.1 hc).1
/-- A block of another type has been turned. -/
theorem RowsOwn.other {fs : List SFile} (h : RowsOwn h0 w rs fs) {row : Option Nat} (hg : w.grownBy w' row) (ht : ∀ k cells, row = some k → w.heap[k]? ≠ some (.cells cells 83 (0, 0))) : RowsOwn h0 w' rs fs :=
  h.step fun r hr k hk => by obtain ⟨_, cells, hc⟩ := h.typed hr hk; exact hg.block k (Array.getElem?_eq_some_iff.1 hc).1 (fun e => ht k cells e.symm hc)
theorem DOwn.later (h : DOwn h0 w b vf vl rs d) (hb : Below w.heap.size w w') : DOwn h0 w' b vf vl rs d :=
  ⟨h.hb, h.box.later hb, Kd.R_below h.files hb, h.rows.later hb, Kd.R_below h.list hb⟩
theorem DOwn.reads (h : DOwn h0 w b vf vl rs d) : ∃ Af cf Al cl, vf = .slice Af d.files.length cf ∧ vl = .slice Al d.list.length cl ∧ DAt w b Af cf Al cl d := by
  obtain ⟨A, c, rfl, h1, h2⟩ := own_reads' h.files
  obtain ⟨B, e, rfl, h3, h4⟩ := own_reads' h.list
  rw [h.rows.len] at h1 h2
  refine ⟨A, c, B, e, by rw [h.rows.len], rfl, ⟨⟨rfl, h2.2.1, fun hp => ?_⟩, h4, h1, h3⟩, by have := h.box.cell 0 _ rfl; rwa [h.rows.len] at this, h.box.cell 1 _ rfl⟩
  obtain ⟨ad, e1, e2⟩ := h2.2.2 hp
  refine ⟨ad, e1, fun j f hj => ?_⟩
  have hjl : j < rs.length := by rw [h.rows.len]; exact (List.getElem?_eq_some_iff.1 hj).1
  obtain ⟨r1, r2, r3⟩ := h.rows.rel j rs[j] f (List.getElem?_eq_getElem hjl) hj
  obtain ⟨c', e3, e4, e5⟩ := e2 j rs[j] (List.getElem?_eq_getElem hjl)
  obtain rfl := kRF_open e4
  obtain ⟨A', c'', e6, e7, e8⟩ := own_reads' r3
  refine ⟨_, rfl, ?_, e5⟩
  rw [e6, r1, r2]
  exact kSFile_mk f A' c'' e7 e8
/-- One file's cells. -/
theorem DOwn.cells (h : DOwn h0 w b vf vl rs d) {i : Nat} {r : RF} (hr : rs[i]? = some r) : ∃ g cf, vf = .slice (some ⟨g, 0, none⟩) d.files.length cf ∧ h0 ≤ g ∧ g < w.heap.size ∧ w.cell? ⟨g, i * 3, none⟩ = some (.int .i64 r.no) ∧ w.cell? ⟨g, i * 3 + 1, none⟩ = some r.v ∧ w.cell? ⟨g, i * 3 + 2, none⟩ = some (.int .i64 r.safe) ∧ (∀ j, w.frozen? ⟨g, j, none⟩ = false) := by
  have hil := (List.getElem?_eq_some_iff.1 hr).1
  obtain ⟨_, inner, ho, hrp⟩ := h.files
  have hn := h.rows.len
  obtain ⟨g, cap, rfl, h1, h2⟩ := ho.form (by omega)
  obtain ⟨cells, hc⟩ := own_typed ho g rfl
  have hlt := (Array.getElem?_eq_some_iff.1 hc).1
  have hk := kRF_open (kRF.K_of_M (hrp.2 i r hr))
  have hcl : ∀ j u, j < 3 → [Value.int .i64 r.no, r.v, .int .i64 r.safe][j]? = some u → w.cell? ⟨g, i * 3 + j, none⟩ = some u := fun j u hj hu => by
    have h3 : inner[i * 3 + j]? = some u := by
      have h4 : ((inner.drop (i * kRF.sz)).take kRF.sz)[j]? = some u := by rw [hk]; exact hu
      rw [List.getElem?_take_of_lt (by exact hj), List.getElem?_drop] at h4
      exact h4
    have := ho.cells (g := g) rfl (i * 3 + j) u h3
    rwa [add_plain] at this
  exact ⟨g, cap, by rw [hn], own_base ho g rfl, hlt, hcl 0 _ (by omega) rfl, hcl 1 _ (by omega) rfl, hcl 2 _ (by omega) rfl, fun j => by simp [World.frozen?, hc]⟩
theorem reps_set {base : Nat} {ok : Nat → Prop} {inner : List Value} (hrp : Reps (kRF.M w base ok) kRF.sz rs inner) {i : Nat} {r : RF} (hr : rs[i]? = some r) (r' : RF) (j : Nat) (hj : j < 3) (u : Value) (hu : [Value.int .i64 r.no, r.v, .int .i64 r.safe].set j u = [Value.int .i64 r'.no, r'.v, .int .i64 r'.safe]) {w1 : World} {ok' : Nat → Prop} : Reps (kRF.M w1 base ok') kRF.sz (rs.set i r') (inner.set (i * 3 + j) u) := by
  have hsz : kRF.sz = 3 := rfl
  have hil := (List.getElem?_eq_some_iff.1 hr).1
  refine ⟨by rw [List.length_set, List.length_set]; exact hrp.1, fun m p hp => ?_⟩
  have hml : m < rs.length := by have := (List.getElem?_eq_some_iff.1 hp).1; rwa [List.length_set] at this
  have hlen := hrp.1
  rw [hsz] at hlen ⊢
  by_cases hmi : m = i
  · subst hmi
    have hpe : p = r' := by rw [List.getElem?_set_self hil] at hp; exact (Option.some.inj hp).symm
    subst hpe
    have hk := kRF_open (kRF.K_of_M (hrp.2 m r hr))
    rw [hsz] at hk
    have : ((inner.set (m * 3 + j) u).drop (m * 3)).take 3 = ((inner.drop (m * 3)).take 3).set j u := by
      rw [List.drop_set, if_neg (by omega), Nat.add_sub_cancel_left, List.take_set]
    rw [this, hk, hu]
    exact kRF_mkM _ _ _ p
  · rw [List.getElem?_set_ne (Ne.symm hmi)] at hp
    have hk := kRF_open (kRF.K_of_M (hrp.2 m p hp))
    rw [hsz] at hk
    have : ((inner.set (i * 3 + j) u).drop (m * 3)).take 3 = (inner.drop (m * 3)).take 3 := by
      apply List.ext_getElem?
      intro q
      rw [List.getElem?_take, List.getElem?_take]
      split
      · rw [List.getElem?_drop, List.getElem?_drop, List.getElem?_set_ne (by omega)]
      · rfl
    rw [this, hk]
    exact kRF_mkM _ _ _ p
/-- One file's cell is stored into. -/
theorem Own_set {g n cf : Nat} (h : Own kRF 62 w h0 (.slice (some ⟨g, 0, none⟩) n cf) rs) {i : Nat} {r : RF} (hr : rs[i]? = some r) (r' : RF) (j : Nat) (hj : j < 3) (u : Value) (hu : [Value.int .i64 r.no, r.v, .int .i64 r.safe].set j u = [Value.int .i64 r'.no, r'.v, .int .i64 r'.safe]) :
    Own kRF 62 (w.setCell ⟨g, i * 3 + j, none⟩ u) h0 (.slice (some ⟨g, 0, none⟩) n cf) (rs.set i r') ∧ w.grownBy (w.setCell ⟨g, i * 3 + j, none⟩ u) (some g) := by
  obtain ⟨_, inner, ho, hrp⟩ := h
  have hn : n = rs.length := by
    rcases ho.2 with ⟨e, _⟩ | ⟨_, _, _, e, _⟩
    · cases e
    · injection e
  subst hn
  obtain ⟨h1, h2⟩ := ho.stored (i * 3 + j) u
  exact ⟨⟨fun _ _ => trivial, _, by rw [List.length_set]; exact h1, reps_set hrp hr r' j hj u hu⟩, h2⟩
theorem DOwn.file_ne (h : DOwn h0 w b vf vl rs d) {g : Nat} (hg : vf.ownBlock = some g) : ∃ cells, w.heap[g]? = some (.cells cells 62 (0, 0)) := by
  obtain ⟨inner, ho⟩ := Kd.R_own h.files
  exact own_typed ho g hg
theorem DOwn.list_ty (h : DOwn h0 w b vf vl rs d) {g : Nat} (hg : vl.ownBlock = some g) : ∃ cells, w.heap[g]? = some (.cells cells 3 (0, 0)) := by
  obtain ⟨inner, ho⟩ := Kd.R_own h.list
  exact own_typed ho g hg
theorem DOwn.box_ne (h : DOwn h0 w b vf vl rs d) : some b ≠ vf.ownBlock ∧ some b ≠ vl.ownBlock :=
  ⟨fun e => by obtain ⟨_, hc⟩ := h.file_ne e.symm; exact ty_ne hc (show w.heap[b]? = _ from h.box) (by decide) rfl, fun e => by obtain ⟨_, hc⟩ := h.list_ty e.symm; exact ty_ne hc (show w.heap[b]? = _ from h.box) (by decide) rfl⟩
/-- A file's records are another row of the call's own: it has been made, or it is the old one, grown. -/
theorem DOwn.put_recs (h : DOwn h0 w b vf vl rs d) {i : Nat} {r : RF} {f : SFile} (hr : rs[i]? = some r) (hf : d.files[i]? = some f) {g n cf : Nat} (hvf : vf = .slice (some ⟨g, 0, none⟩) n cf)
    {w1 : World} (hg : w.grownBy w1 r.v.ownBlock) (r' : RF) (hno : r'.no = r.no) (hsf : r'.safe = r.safe) (recs : List SRec) (hown : Own kSRec 83 w1 h0 r'.v recs) (hat : r'.v.ownBlock = r.v.ownBlock ∨ ∀ k, r'.v.ownBlock = some k → w.heap.size ≤ k) :
    DOwn h0 (w1.setCell ⟨g, i * 3 + 1, none⟩ r'.v) b vf vl (rs.set i r') ⟨d.files.set i ⟨f.no, recs, f.safe⟩, d.list⟩ := by
  have hil := (List.getElem?_eq_some_iff.1 hr).1
  have hfl := (List.getElem?_eq_some_iff.1 hf).1
  obtain ⟨r1, r2, r3⟩ := h.rows.rel i r f hr hf
  obtain ⟨cf0, hcf⟩ := h.file_ne (g := g) (by rw [hvf]; rfl)
  have hrt : ∀ (k : Nat), r.v.ownBlock = some k → ∃ cells, w.heap[k]? = some (.cells cells 83 (0, 0)) := fun k hk => (h.rows.typed (List.mem_of_getElem? hr) hk).2
  have keep : ∀ (k : Nat) (cells : Array Value) (e : Nat), w.heap[k]? = some (.cells cells e (0, 0)) → e ≠ 83 → w1.heap[k]? = w.heap[k]? := fun k cells e hc hne => hg.block k (Array.getElem?_eq_some_iff.1 hc).1 (fun he => by
    obtain ⟨_, hc'⟩ := hrt k he.symm
    exact ty_ne hc hc' hne rfl)
  have far : ∀ (k : Nat), k ≠ g → (w1.setCell ⟨g, i * 3 + 1, none⟩ r'.v).heap[k]? = w1.heap[k]? := fun k hk => Below.heap_setCell w1 ⟨g, i * 3 + 1, none⟩ r'.v k hk
  have hfs : Own kRF 62 w1 h0 vf rs := own_step flat_rf h.files (fun k hk => by obtain ⟨cells, hc⟩ := h.file_ne hk; exact keep k _ _ hc (by decide))
  subst hvf
  obtain ⟨hfs2, hg2⟩ := Own_set hfs hr r' 1 (by omega) r'.v (by rw [hno, hsf]; rfl)
  have hgk : ∀ (k : Nat), r'.v.ownBlock = some k → k ≠ g := fun k hk => by
    obtain ⟨_, _, hc⟩ := own_ty hown hk
    obtain ⟨_, _, hc'⟩ := own_ty hfs (k := g) rfl
    exact ty_ne hc hc' (by decide)
  have hold : ∀ (j : Nat) (s : RF), j ≠ i → rs[j]? = some s → ∀ k, s.v.ownBlock = some k → w1.heap[k]? = w.heap[k]? ∧ k ≠ g := fun j s hj hs k hk => by
    obtain ⟨_, _, hc⟩ := h.rows.typed (List.mem_of_getElem? hs) hk
    refine ⟨hg.block k (Array.getElem?_eq_some_iff.1 hc).1 (fun e => hj (h.rows.apart j i s r k hs hr hk e.symm)), ?_⟩
    exact ty_ne hc hcf (by decide)
  refine ⟨h.hb, ?_, hfs2, ⟨by simp [h.rows.len], fun j s x hs hx => ?_, fun j m s t k hs ht hk1 hk2 => ?_⟩, ?_⟩
  · have h1 : Cells w1 b #[.slice (some ⟨g, 0, none⟩) n cf, vl] 79 := (keep b _ _ h.box (by decide)).trans h.box
    exact h1.kept hg2 (fun e => by
      obtain ⟨_, _, hc'⟩ := own_ty hfs (k := g) rfl
      cases e
      exact ty_ne (show w1.heap[b]? = _ from h1) hc' (by decide) rfl)
  · by_cases hj : j = i
    · subst hj
      rw [List.getElem?_set_self hil] at hs
      rw [List.getElem?_set_self hfl] at hx
      cases hs; cases hx
      exact ⟨by rw [hno, r1], by rw [hsf, r2], own_step flat_srec hown (fun k hk => far k (hgk k hk))⟩
    · rw [List.getElem?_set_ne (Ne.symm hj)] at hs hx
      obtain ⟨s1, s2, s3⟩ := h.rows.rel j s x hs hx
      exact ⟨s1, s2, own_step flat_srec s3 (fun k hk => by obtain ⟨q1, q2⟩ := hold j s hj hs k hk; exact (far k q2).trans q1)⟩
  · have hnew : ∀ (m : Nat) (t : RF) (k : Nat), m ≠ i → rs[m]? = some t → t.v.ownBlock = some k → r'.v.ownBlock ≠ some k := fun m t k hm ht hk e => by
      obtain ⟨_, _, hc⟩ := h.rows.typed (List.mem_of_getElem? ht) hk
      have hlt := (Array.getElem?_eq_some_iff.1 hc).1
      rcases hat with ha | ha
      · rw [ha] at e
        exact hm (h.rows.apart m i t r k ht hr hk e)
      · have := ha k e
        omega
    by_cases hj : j = i
    · by_cases hm : m = i
      · rw [hj, hm]
      · subst hj
        rw [List.getElem?_set_self hil] at hs
        rw [List.getElem?_set_ne (Ne.symm hm)] at ht
        cases hs
        exact absurd hk1 (hnew m t k hm ht hk2)
    · by_cases hm : m = i
      · subst hm
        rw [List.getElem?_set_self hil] at ht
        rw [List.getElem?_set_ne (Ne.symm hj)] at hs
        cases ht
        exact absurd hk2 (hnew j s k hj hs hk1)
      · rw [List.getElem?_set_ne (Ne.symm hj)] at hs
        rw [List.getElem?_set_ne (Ne.symm hm)] at ht
        exact h.rows.apart j m s t k hs ht hk1 hk2
  · refine own_step flat_int h.list (fun k hk => ?_)
    obtain ⟨_, hc⟩ := h.list_ty hk
    exact (far k (ty_ne hc hcf (by decide))).trans (keep k _ _ hc (by decide))
/-- What is safe of a file. -/
theorem DOwn.put_safe (h : DOwn h0 w b vf vl rs d) {i : Nat} {r : RF} {f : SFile} (hr : rs[i]? = some r) (hf : d.files[i]? = some f) {g n cf : Nat} (hvf : vf = .slice (some ⟨g, 0, none⟩) n cf) (s : Int) :
    DOwn h0 (w.setCell ⟨g, i * 3 + 2, none⟩ (.int .i64 s)) b vf vl (rs.set i ⟨r.no, r.A, r.n, r.c, s⟩) ⟨d.files.set i ⟨f.no, f.recs, s⟩, d.list⟩ := by
  have hil := (List.getElem?_eq_some_iff.1 hr).1
  have hfl := (List.getElem?_eq_some_iff.1 hf).1
  obtain ⟨r1, r2, r3⟩ := h.rows.rel i r f hr hf
  obtain ⟨cf0, hcf⟩ := h.file_ne (g := g) (by rw [hvf]; rfl)
  have far : ∀ (k : Nat), k ≠ g → (w.setCell ⟨g, i * 3 + 2, none⟩ (.int .i64 s)).heap[k]? = w.heap[k]? := fun k hk => Below.heap_setCell w ⟨g, i * 3 + 2, none⟩ (.int .i64 s) k hk
  have hfs := h.files
  subst hvf
  obtain ⟨hfs2, hg2⟩ := Own_set hfs hr ⟨r.no, r.A, r.n, r.c, s⟩ 2 (by omega) (.int .i64 s) rfl
  refine ⟨h.hb, (far b (ty_ne (show w.heap[b]? = _ from h.box) hcf (by decide))).trans h.box, hfs2, ⟨by simp [h.rows.len], fun j t x hs hx => ?_, fun j m t u k hs ht hk1 hk2 => ?_⟩, own_step flat_int h.list (fun k hk => by obtain ⟨_, hc⟩ := h.list_ty hk; exact far k (ty_ne hc hcf (by decide)))⟩
  · have hfar : ∀ (j : Nat) (t : RF), rs[j]? = some t → ∀ k, t.v.ownBlock = some k → (w.setCell ⟨g, i * 3 + 2, none⟩ (.int .i64 s)).heap[k]? = w.heap[k]? := fun j t ht k hk => by
      obtain ⟨_, _, hc⟩ := h.rows.typed (List.mem_of_getElem? ht) hk
      exact far k (ty_ne hc hcf (by decide))
    by_cases hj : j = i
    · subst hj
      rw [List.getElem?_set_self hil] at hs
      rw [List.getElem?_set_self hfl] at hx
      cases hs; cases hx
      exact ⟨r1, rfl, own_step flat_srec r3 (hfar j r hr)⟩
    · rw [List.getElem?_set_ne (Ne.symm hj)] at hs hx
      obtain ⟨s1, s2, s3⟩ := h.rows.rel j t x hs hx
      exact ⟨s1, s2, own_step flat_srec s3 (hfar j t hs)⟩
  · have hv : ∀ (j : Nat) (t : RF), (rs.set i ⟨r.no, r.A, r.n, r.c, s⟩)[j]? = some t → ∃ t', rs[j]? = some t' ∧ t'.v = t.v := fun j t ht => by
      by_cases hj : j = i
      · subst hj
        rw [List.getElem?_set_self hil] at ht
        cases ht
        exact ⟨r, hr, rfl⟩
      · rw [List.getElem?_set_ne (Ne.symm hj)] at ht
        exact ⟨t, ht, rfl⟩
    obtain ⟨t', a1, a2⟩ := hv j t hs
    obtain ⟨u', b1, b2⟩ := hv m u ht
    exact h.rows.apart j m t' u' k a1 b1 (a2 ▸ hk1) (b2 ▸ hk2)
theorem Cells.set2 {W : World} {B : Nat} {x y : Value} {t : TypeId} (h : Cells W B #[x, y] t) (u : Value) : Cells (W.setCell ⟨B, 0, none⟩ u) B #[u, y] t ∧ Cells (W.setCell ⟨B, 1, none⟩ u) B #[x, u] t := by
  have hl := h.lt
  unfold Cells at h ⊢
  have h2 : W.heap[B] = Obj.cells #[x, y] t (0, 0) := by simpa [Array.getElem?_eq_getElem hl] using h
  constructor
  · show (W.heap.modify B _)[B]? = _
    rw [Array.getElem?_eq_getElem (by simpa using hl), Array.getElem_modify_self, h2]
    simp
  · show (W.heap.modify B _)[B]? = _
    rw [Array.getElem?_eq_getElem (by simpa using hl), Array.getElem_modify_self, h2]
    simp
/-- The list is another one. -/
theorem DOwn.put_list (h : DOwn h0 w b vf vl rs d) {w1 : World} (hg : w.grownBy w1 vl.ownBlock) (vl' : Value) (l : List Int) (hown : Own (Kd.int .i64) 3 w1 h0 vl' l) : DOwn h0 (w1.setCell ⟨b, 1, none⟩ vl') b vf vl' rs ⟨d.files, l⟩ := by
  have keep : ∀ (k : Nat) (cells : Array Value) (e : Nat), w.heap[k]? = some (.cells cells e (0, 0)) → e ≠ 3 → w1.heap[k]? = w.heap[k]? := fun k cells e hc hne => hg.block k (Array.getElem?_eq_some_iff.1 hc).1 (fun he => by
    obtain ⟨_, hc'⟩ := h.list_ty he.symm
    exact ty_ne hc hc' hne rfl)
  have far : ∀ (k : Nat), k ≠ b → (w1.setCell ⟨b, 1, none⟩ vl').heap[k]? = w1.heap[k]? := fun k hk => Below.heap_setCell w1 ⟨b, 1, none⟩ vl' k hk
  have hbx : Cells w1 b #[vf, vl] 79 := (keep b _ _ h.box (by decide)).trans h.box
  refine ⟨h.hb, (hbx.set2 vl').2, own_step flat_rf h.files (fun k hk => ?_), h.rows.step (fun r hr k hk => ?_), own_step flat_int hown (fun k hk => ?_)⟩
  · obtain ⟨_, hc⟩ := h.file_ne hk
    exact (far k (ty_ne hc (show w.heap[b]? = _ from h.box) (by decide))).trans (keep k _ _ hc (by decide))
  · obtain ⟨_, _, hc⟩ := h.rows.typed hr hk
    exact (far k (ty_ne hc (show w.heap[b]? = _ from h.box) (by decide))).trans (keep k _ _ hc (by decide))
  · obtain ⟨_, _, hc⟩ := own_ty hown hk
    exact far k (ty_ne hc (show w1.heap[b]? = _ from hbx) (by decide))
/-- The files are another row; what it holds is the call's own. -/
theorem DOwn.put_files (h : DOwn h0 w b vf vl rs d) {w1 : World} (hg : w.grownBy w1 vf.ownBlock) (vf' : Value) (rs' : List RF) (fs : List SFile) (hown : Own kRF 62 w1 h0 vf' rs') (hrows : RowsOwn h0 w1 rs' fs) : DOwn h0 (w1.setCell ⟨b, 0, none⟩ vf') b vf' vl rs' ⟨fs, d.list⟩ := by
  have keep : ∀ (k : Nat) (cells : Array Value) (e : Nat), w.heap[k]? = some (.cells cells e (0, 0)) → e ≠ 62 → w1.heap[k]? = w.heap[k]? := fun k cells e hc hne => hg.block k (Array.getElem?_eq_some_iff.1 hc).1 (fun he => by
    obtain ⟨_, hc'⟩ := h.file_ne he.symm
    exact ty_ne hc hc' hne rfl)
  have far : ∀ (k : Nat), k ≠ b → (w1.setCell ⟨b, 0, none⟩ vf').heap[k]? = w1.heap[k]? := fun k hk => Below.heap_setCell w1 ⟨b, 0, none⟩ vf' k hk
  have hbx : Cells w1 b #[vf, vl] 79 := (keep b _ _ h.box (by decide)).trans h.box
  refine ⟨h.hb, (hbx.set2 vf').1, own_step flat_rf hown (fun k hk => ?_), hrows.step (fun r hr k hk => ?_), own_step flat_int h.list (fun k hk => ?_)⟩
  · obtain ⟨_, _, hc⟩ := own_ty hown hk
    exact far k (ty_ne hc (show w1.heap[b]? = _ from hbx) (by decide))
  · obtain ⟨_, _, hc⟩ := hrows.typed hr hk
    exact far k (ty_ne hc (show w1.heap[b]? = _ from hbx) (by decide))
  · obtain ⟨_, hc⟩ := h.list_ty hk
    exact (far k (ty_ne hc (show w.heap[b]? = _ from h.box) (by decide))).trans (keep k _ _ hc (by decide))
/-- A file more. -/
theorem RowsOwn.snoc {fs : List SFile} (h : RowsOwn h0 w rs fs) (r : RF) (f : SFile) (hno : r.no = f.no) (hsf : r.safe = f.safe) (hown : Own kSRec 83 w h0 r.v f.recs) (hnew : ∀ s ∈ rs, ∀ k, s.v.ownBlock = some k → r.v.ownBlock ≠ some k) : RowsOwn h0 w (rs ++ [r]) (fs ++ [f]) := by
  have hl := h.len
  have hcut : ∀ {α : Type} {l : List α} {x y : α} {i : Nat}, (l ++ [x])[i]? = some y → (i < l.length ∧ l[i]? = some y) ∨ (i = l.length ∧ y = x) := by
    intro α l x y i hy
    rcases Nat.lt_trichotomy i l.length with hi | hi | hi
    · rw [List.getElem?_append_left hi] at hy; exact .inl ⟨hi, hy⟩
    · subst hi; simp at hy; exact .inr ⟨rfl, hy.symm⟩
    · rw [List.getElem?_eq_none (by simp; omega)] at hy; cases hy
  refine ⟨by simp [hl], fun i s x hs hx => ?_, fun i j s t k hs ht hk1 hk2 => ?_⟩
  · rcases hcut hs with ⟨i1, hs'⟩ | ⟨i1, e1⟩ <;> rcases hcut hx with ⟨i2, hx'⟩ | ⟨i2, e2⟩
    · exact h.rel i s x hs' hx'
    · omega
    · omega
    · rw [e1, e2]; exact ⟨hno, hsf, hown⟩
  · rcases hcut hs with ⟨i1, hs'⟩ | ⟨i1, e1⟩ <;> rcases hcut ht with ⟨i2, ht'⟩ | ⟨i2, e2⟩
    · exact h.apart i j s t k hs' ht' hk1 hk2
    · rw [e2] at hk2; exact absurd hk2 (hnew s (List.mem_of_getElem? hs') k hk1)
    · rw [e1] at hk1; exact absurd hk1 (hnew t (List.mem_of_getElem? ht') k hk2)
    · omega
end
end Go.Proofs.Ytfmojgdomficlaa
set_option linter.unusedVariables false
set_option linter.unusedSimpArgs false
/-! Copies of rows. -/
namespace Go.Proofs.Ytfmojgdomficlaa
open Go.RowKit Go.Shelf Go.Proofs.YtfmojgdomficlaaW.PrintWords

theorem flat_KM {α : Type} {d : Kd α} (h : ∀ (w w' : World) (base : Nat) (ok : Nat → Prop) (x : α) (cs : List Value), d.K w x cs → d.M w' base ok x cs) : True := trivial
theorem srec_KM (w w' : World) (base : Nat) (ok : Nat → Prop) (x : SRec) (cs : List Value) (h : kSRec.K w x cs) : kSRec.M w' base ok x cs := by obtain rfl := kSRec_open h; exact kSRec_mkM _ _ _ x
theorem rf_KM (w w' : World) (base : Nat) (ok : Nat → Prop) (x : RF) (cs : List Value) (h : kRF.K w x cs) : kRF.M w' base ok x cs := by obtain rfl := kRF_open h; exact kRF_mkM _ _ _ x
theorem int_KM (w w' : World) (base : Nat) (ok : Nat → Prop) (x : Int) (cs : List Value) (h : (Kd.int .i64).K w x cs) : (Kd.int .i64).M w' base ok x cs := h
set_option maxRecDepth 100000 in
set_option maxHeartbeats 2000000 in
theorem seg_copied_srec (l : List SRec) (A : Option Addr) (c : Nat) (w : World) (hr : Kd.C (kSRec) w A l.length l) (hl : l.length * 64 ≤ 140737488355328) :
    Calls Try.prog 66 #[.slice A l.length c] w fun e w' => ∃ v, e = .returned v ∧ Own (kSRec) 83 w' w.heap.size v l ∧ Below w.heap.size w w' := by
  have Hr := Lib.hid hr
  clear hr
  go_enter Try.func66, Try.ntmps66
  go_wp2_with (at_builtin; refine Kd.R_append_rows (kSRec) (w0 := w) w.heap.size rfl _ _ 60 83 (.agg #[.int .i64 0, .int .i64 0, .int .i64 0, .int .i64 0, .int .i64 0, .int .i64 0, .int .i64 0, .int .i64 0]) 64 rfl (by kernel_rfl) (by kernel_rfl) rfl (by decide) (by omega) (.slice none 0 0) ([] : List SRec) l A l.length c (fun _ => True) (fun _ => False) rfl rfl (Kd.R_nil _ _ _ _ _) Hr.out (fun x cs h => srec_KM _ _ _ _ x cs h) (fun _ h => h.elim) (fun _ _ => trivial) (Below.refl _ _) (Nat.le_refl _) (by simpa using hl) ?_; intro v1 w1 r1 r2 r3 r4; obtain ⟨A1, n1, c1, rfl⟩ := R_slice' r1)
  go_ret
  exact ⟨_, rfl, r1, r2⟩
set_option maxRecDepth 100000 in
set_option maxHeartbeats 2000000 in
theorem seg_copied_rf (l : List RF) (A : Option Addr) (c : Nat) (w : World) (hr : Kd.C (kRF) w A l.length l) (hl : l.length * 40 ≤ 140737488355328) :
    Calls Try.prog 64 #[.slice A l.length c] w fun e w' => ∃ v, e = .returned v ∧ Own (kRF) 62 w' w.heap.size v l ∧ Below w.heap.size w w' := by
  have Hr := Lib.hid hr
  clear hr
  go_enter Try.func64, Try.ntmps64
  go_wp2_with (at_builtin; refine Kd.R_append_rows (kRF) (w0 := w) w.heap.size rfl _ _ 30 62 (.agg #[.int .i64 0, .slice none 0 0, .int .i64 0]) 40 rfl (by kernel_rfl) (by kernel_rfl) rfl (by decide) (by omega) (.slice none 0 0) ([] : List RF) l A l.length c (fun _ => True) (fun _ => False) rfl rfl (Kd.R_nil _ _ _ _ _) Hr.out (fun x cs h => rf_KM _ _ _ _ x cs h) (fun _ h => h.elim) (fun _ _ => trivial) (Below.refl _ _) (Nat.le_refl _) (by simpa using hl) ?_; intro v1 w1 r1 r2 r3 r4; obtain ⟨A1, n1, c1, rfl⟩ := R_slice' r1)
  go_ret
  exact ⟨_, rfl, r1, r2⟩
set_option maxRecDepth 100000 in
set_option maxHeartbeats 2000000 in
theorem seg_copied_int (l : List Int) (A : Option Addr) (c : Nat) (w : World) (hr : Kd.C (Kd.int .i64) w A l.length l) (hl : l.length * 8 ≤ 140737488355328) :
    Calls Try.prog 65 #[.slice A l.length c] w fun e w' => ∃ v, e = .returned v ∧ Own (Kd.int .i64) 3 w' w.heap.size v l ∧ Below w.heap.size w w' := by
  have Hr := Lib.hid hr
  clear hr
  go_enter Try.func65, Try.ntmps65
  go_wp2_with (at_builtin; refine Kd.R_append_rows (Kd.int .i64) (w0 := w) w.heap.size rfl _ _ 31 3 (.int .i64 0) 8 rfl (by kernel_rfl) (by kernel_rfl) rfl (by decide) (by omega) (.slice none 0 0) ([] : List Int) l A l.length c (fun _ => True) (fun _ => False) rfl rfl (Kd.R_nil _ _ _ _ _) Hr.out (fun x cs h => int_KM _ _ _ _ x cs h) (fun _ h => h.elim) (fun _ _ => trivial) (Below.refl _ _) (Nat.le_refl _) (by simpa using hl) ?_; intro v1 w1 r1 r2 r3 r4; obtain ⟨A1, n1, c1, rfl⟩ := R_slice' r1)
  go_ret
  exact ⟨_, rfl, r1, r2⟩
end Go.Proofs.Ytfmojgdomficlaa
