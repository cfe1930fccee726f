/-
  Texts of one hand, laid together: PiqIns, PiqDel, PiqBr, PiqBridges, PiqKnA, PiqSameW, PiqKnB, PiqKnC.
-/
import Derived.Test.YtemkloildadokaaZC
set_option linter.unusedVariables false
set_option linter.unusedSimpArgs false
/-! A step more, a step less, walked. -/
namespace Go.Proofs.Ytemkloildadokaa
open Go.RowKit Go.Shelf Go.Proofs.YtemkloildadokaaW.PrintWords Go.Instr
/-- A changed line is returned. -/
def ChgPost (w : World) (r : PRes) (e : Ending) (w' : World) : Prop := (∃ vl vs, e = .returned (.tuple #[vl, .agg #[.bool r.more, vs], .int .i64 r.err]) ∧ Own kPStep 36 w' w.heap.size vl r.line ∧ Own kPSpan 60 w' w.heap.size vs r.spans) ∧ Below w.heap.size w w'
theorem withE_len (l : List PStep) (s : PStep) : (withE l s).length = l.length + 1 := by
  unfold withE; rw [List.length_append, List.length_cons, List.length_take, List.length_drop]; omega
theorem place_le (t : Int) : ∀ l : List PStep, placeE t l ≤ l.length
  | [] => Nat.le_refl _
  | s :: l => by
    unfold placeE
    split
    · have := place_le t l; simp only [List.length_cons]; omega
    · exact Nat.zero_le _
theorem lib_Insert (h0 i : Nat) (v : Value) (l : List PStep) (s : PStep) (vb vc : Nat) (w : World) (ho : Own kPStep 36 w h0 v l) (hi : i ≤ l.length) (hl : l.length ≤ 59) (hh : h0 ≤ w.heap.size) (hv : Cells w vb (pstepCells s).toArray 36) (hvo : some vb ≠ v.ownBlock) :
    Calls Try.prog 73 #[v, .int .i64 i, .slice (some ⟨vb, 0, none⟩) 1 vc] w fun e w' => ∃ v1, e = .returned v1 ∧ Own kPStep 36 w' h0 v1 (l.take i ++ s :: l.drop i) ∧ Below h0 w w' := by
  rcases Nat.eq_or_lt_of_le hi with e | e
  · subst e
    have := lib_InsertEnd h0 v l s vb vc w ho hl hh hv
    rw [List.take_of_length_le (Nat.le_refl _), List.drop_of_length_le (Nat.le_refl _)]
    exact this
  · exact lib_InsertMid h0 i v l s vb vc w ho e hl hh hv hvo
theorem insertE_ways (l : List PStep) (s : PStep) :
    (lineB l = false ∧ insertE l s = noRes 2) ∨ (lineB l = true ∧ pstepB s = false ∧ insertE l s = noRes 2) ∨
    (lineB l = true ∧ pstepB s = true ∧ hasE l s.at_ = true ∧ insertE l s = noRes 7) ∨
    (lineB l = true ∧ pstepB s = true ∧ hasE l s.at_ = false ∧ ((l.length : Int) == 60) = true ∧ insertE l s = noRes 3) ∨
    (lineB l = true ∧ pstepB s = true ∧ hasE l s.at_ = false ∧ ((l.length : Int) == 60) = false ∧ lineB (withE l s) = false ∧ insertE l s = noRes 7) ∨
    (lineB l = true ∧ pstepB s = true ∧ hasE l s.at_ = false ∧ ((l.length : Int) == 60) = false ∧ lineB (withE l s) = true ∧ (s.do_ == 1) = true ∧ insertE l s = ⟨withE l s, true, walkedE (withE l s) l s.at_ ⟨s.key, s.at_⟩, 0⟩) ∨
    (lineB l = true ∧ pstepB s = true ∧ hasE l s.at_ = false ∧ ((l.length : Int) == 60) = false ∧ lineB (withE l s) = true ∧ (s.do_ == 1) = false ∧ insertE l s = ⟨withE l s, false, walkedE l (withE l s) s.at_ ((takenE (withE l s) s.at_).getD ⟨0, 0⟩), 0⟩) := by
  unfold insertE
  cases h1 : lineB l with
  | false => left; simp
  | true =>
    right
    cases h2 : pstepB s with
    | false => left; simp
    | true =>
      right
      cases h3 : hasE l s.at_ with
      | true => left; simp
      | false =>
        right
        by_cases h4 : l.length = 60
        · left; simp [h4]
        · right
          have h4' : ((l.length : Int) == 60) = false := by simp; omega
          cases h5 : lineB (withE l s) with
          | false => left; simp [h4, h4']
          | true =>
            right
            by_cases h6 : s.do_ = 1
            · left; simp [h4, h4', h6]
            · right; simp [h4, h4', h6]
structure InsD (h0 h5 : Nat) (w : World) (vl vs : Value) (line : List PStep) (spans : List PSpan) (more : Bool) (Z : World) : Prop where
  box : Cells Z (h0 + 1) #[.bool more, vs] 39
  line : Own kPStep 36 Z h5 vl line
  spans : Own kPSpan 60 Z h5 vs spans
  below : Below h0 w Z
theorem InsD.later {h5 : Nat} {w : World} {vl vs : Value} {line : List PStep} {spans : List PSpan} {more : Bool} {Z Z' : World} (h : InsD w.heap.size h5 w vl vs line spans more Z) (hb : Below Z.heap.size Z Z') : InsD w.heap.size h5 w vl vs line spans more Z' :=
  ⟨h.box.later hb, Kd.R_below h.line hb, Kd.R_below h.spans hb, below_step h.below hb⟩
theorem walked_at (A B : Option Addr) (n m ca cb : Nat) (more less : List PStep) (from_ : Int) (x0 : PElem) (w : World) (hn : n = more.length) (hm : m = less.length) (h1 : PStepRow w A n more) (h2 : PStepRow w B m less) (hms : stepsB more = true) (hls : stepsB less = true) :
    Calls Try.prog 75 #[.slice A n ca, .slice B m cb, .int .i64 from_, .agg #[.int .i64 x0.key, .int .i64 x0.from_]] w fun e w' => ∃ v, e = .returned v ∧ Own kPSpan 60 w' w.heap.size v (walkedE more less from_ x0) ∧ Below w.heap.size w w' := by
  subst hn hm; exact p_walked A B ca cb more less from_ x0 w h1 h2 hms hls
theorem taken_at (A : Option Addr) (n c : Nat) (l : List PStep) (w : World) (hn : n = l.length) (hrow : PStepRow w A n l) (hst : stepsB l = true) :
    Calls Try.prog 76 #[.slice A n c] w fun e w' => ∃ b, e = .returned (.map (some b)) ∧ w.heap.size ≤ b ∧ w'.heap[b]? = some (mapObj (Value.int .i64) (mapT (doneE [] l))) ∧ Below w.heap.size w w' := by
  subst hn; exact p_taken A c l w hrow hst
theorem isLine_at (A : Option Addr) (n c : Nat) (l : List PStep) (w : World) (hn : n = l.length) (hrow : PStepRow w A n l) : Calls Try.prog 63 #[.slice A n c] w fun e w' => e = .returned (.bool (lineB l)) ∧ Below w.heap.size w w' := by
  subst hn; exact p_isLine A c l w hrow
set_option maxRecDepth 100000 in
set_option maxHeartbeats 16000000 in
theorem p_Insert (A : Option Addr) (c : Nat) (l : List PStep) (s : PStep) (w : World) (hrow : PStepRow w A l.length l) :
    Calls Try.prog 21 #[.slice A l.length c, .agg #[.int .i64 s.at_, .int .i64 s.do_, .int .i64 s.key]] w (ChgPost w (insertE l s)) := by
  obtain ⟨k1, k2, hB⟩ := two_new w ((w.alloc (.cells #[.int .i64 s.at_, .int .i64 s.do_, .int .i64 s.key] 36)).alloc (.cells #[.bool false, .slice none 0 0] 39)) _ _ _ _ (by simpa using Below.refl _ _)
  have K1 := Lib.hid k1
  have K2 := Lib.hid k2
  have HB := Lib.hid hB
  have HR := Lib.hid (Kd.C_below hrow hB)
  clear k1 k2 hB hrow
  rcases insertE_ways l s with ⟨h1, hr⟩ | ⟨h1, h2, hr⟩ | ⟨h1, h2, h3, hr⟩ | ⟨h1, h2, h3, h4, hr⟩ | ⟨h1, h2, h3, h4, h5, hr⟩ | ⟨h1, h2, h3, h4, h5, h6, hr⟩ | ⟨h1, h2, h3, h4, h5, h6, hr⟩
  all_goals
    rw [hr]
    clear hr
    have HL1 := Lib.hid h1
    have HI2 := Lib.hid (p_isLine A c l ((w.alloc (.cells #[.int .i64 s.at_, .int .i64 s.do_, .int .i64 s.key] 36)).alloc (.cells #[.bool false, .slice none 0 0] 39)) HR.out)
    clear h1
    go_enter Try.func21, Try.ntmps21
    go_upto_region 1 with fail
    generalize ((w.alloc (.cells #[.int .i64 s.at_, .int .i64 s.do_, .int .i64 s.key] 36)).alloc (.cells #[.bool false, .slice none 0 0] 39)) = w2 at K1 K2 HB HR HI2 ⊢
  · go_wp2_with (first
      | (go_at_call 63; (with_reducible refine HI2.out.mono ?_); rintro e w3 ⟨rfl, hb3⟩; simp only [HL1.out]; have q3 := K1.out.later hb3; have s0 := q3.cell 0 _ rfl; have s1 := q3.cell 1 _ rfl; have s2 := q3.cell 2 _ rfl; have z3 := K2.out.later hb3; have z0 := z3.cell 0 _ rfl; have z1 := z3.cell 1 _ rfl; have zf := z3.frozen; have Hb3 := Lib.hid hb3; clear hb3)
      | (go_at_call 71; (with_reducible refine (p_isStep s w3).mono ?_); rintro e w4 ⟨rfl, hb4⟩; simp only [HL2.out]; have q4 := q3.later hb4; have s0 := q4.cell 0 _ rfl; have z4 := z3.later hb4; have z0 := z4.cell 0 _ rfl; have z1 := z4.cell 1 _ rfl; have zf := z4.frozen; have Hb4 := Lib.hid hb4; clear hb4)
      | (go_at_call 72; (with_reducible refine (p_place A c l s.at_ w4 (Kd.C_below HR.out (below_step Hb3.out Hb4.out)) HInc.out HLe.out).mono ?_); rintro e w5 ⟨rfl, hb5⟩; simp only [HL3.out]; have q5 := q4.later hb5; have z5 := z4.later hb5; have z0 := z5.cell 0 _ rfl; have z1 := z5.cell 1 _ rfl; have zf := z5.frozen; have Hb5 := Lib.hid hb5; clear hb5))
    have y2 := (z3.setAt 0 (.bool false)).setAt 1 (.slice none 0 0)
    have y0 := y2.cell 0 _ rfl
    have y1 := y2.cell 1 _ rfl
    refine bodyPost_ret (v := .tuple #[.slice none 0 0, .agg #[.bool false, .slice none 0 0], .int .i64 2]) (by simp [results, Try.results21, go_sem, y0, y1]) rfl ?_
    exact ⟨⟨_, _, rfl, Kd.R_nil _ _ _ _ _, Kd.R_nil _ _ _ _ _⟩, ((below_step HB.out Hb3.out).setCell (p := ⟨w.heap.size + 1, 0, none⟩) (by simp) _).setCell (p := ⟨w.heap.size + 1, 1, none⟩) (by simp) _⟩
  · have HL2 := Lib.hid h2
    clear h2
    go_wp2_with (first
      | (go_at_call 63; (with_reducible refine HI2.out.mono ?_); rintro e w3 ⟨rfl, hb3⟩; simp only [HL1.out]; have q3 := K1.out.later hb3; have s0 := q3.cell 0 _ rfl; have s1 := q3.cell 1 _ rfl; have s2 := q3.cell 2 _ rfl; have z3 := K2.out.later hb3; have z0 := z3.cell 0 _ rfl; have z1 := z3.cell 1 _ rfl; have zf := z3.frozen; have Hb3 := Lib.hid hb3; clear hb3)
      | (go_at_call 71; (with_reducible refine (p_isStep s w3).mono ?_); rintro e w4 ⟨rfl, hb4⟩; simp only [HL2.out]; have q4 := q3.later hb4; have s0 := q4.cell 0 _ rfl; have z4 := z3.later hb4; have z0 := z4.cell 0 _ rfl; have z1 := z4.cell 1 _ rfl; have zf := z4.frozen; have Hb4 := Lib.hid hb4; clear hb4)
      | (go_at_call 72; (with_reducible refine (p_place A c l s.at_ w4 (Kd.C_below HR.out (below_step Hb3.out Hb4.out)) HInc.out HLe.out).mono ?_); rintro e w5 ⟨rfl, hb5⟩; simp only [HL3.out]; have q5 := q4.later hb5; have z5 := z4.later hb5; have z0 := z5.cell 0 _ rfl; have z1 := z5.cell 1 _ rfl; have zf := z5.frozen; have Hb5 := Lib.hid hb5; clear hb5))
    have y2 := (z4.setAt 0 (.bool false)).setAt 1 (.slice none 0 0)
    have y0 := y2.cell 0 _ rfl
    have y1 := y2.cell 1 _ rfl
    refine bodyPost_ret (v := .tuple #[.slice none 0 0, .agg #[.bool false, .slice none 0 0], .int .i64 2]) (by simp [results, Try.results21, go_sem, y0, y1]) rfl ?_
    exact ⟨⟨_, _, rfl, Kd.R_nil _ _ _ _ _, Kd.R_nil _ _ _ _ _⟩, ((below_step (below_step HB.out Hb3.out) Hb4.out).setCell (p := ⟨w.heap.size + 1, 0, none⟩) (by simp) _).setCell (p := ⟨w.heap.size + 1, 1, none⟩) (by simp) _⟩
  · have HL2 := Lib.hid h2
    clear h2
    obtain ⟨hss, hrn⟩ := isLine_parts HL1.out
    have HInc := Lib.hid (GoesE.steps hss).inc
    have HLe := Lib.hid (steps60 hss)
    have HSs := Lib.hid hss
    have hl60 := steps60 hss
    clear hss hrn
    have HL3 := Lib.hid h3
    clear h3
    go_wp2_with (first
      | (go_at_call 63; (with_reducible refine HI2.out.mono ?_); rintro e w3 ⟨rfl, hb3⟩; simp only [HL1.out]; have q3 := K1.out.later hb3; have s0 := q3.cell 0 _ rfl; have s1 := q3.cell 1 _ rfl; have s2 := q3.cell 2 _ rfl; have z3 := K2.out.later hb3; have z0 := z3.cell 0 _ rfl; have z1 := z3.cell 1 _ rfl; have zf := z3.frozen; have Hb3 := Lib.hid hb3; clear hb3)
      | (go_at_call 71; (with_reducible refine (p_isStep s w3).mono ?_); rintro e w4 ⟨rfl, hb4⟩; simp only [HL2.out]; have q4 := q3.later hb4; have s0 := q4.cell 0 _ rfl; have z4 := z3.later hb4; have z0 := z4.cell 0 _ rfl; have z1 := z4.cell 1 _ rfl; have zf := z4.frozen; have Hb4 := Lib.hid hb4; clear hb4)
      | (go_at_call 72; (with_reducible refine (p_place A c l s.at_ w4 (Kd.C_below HR.out (below_step Hb3.out Hb4.out)) HInc.out HLe.out).mono ?_); rintro e w5 ⟨rfl, hb5⟩; simp only [HL3.out]; have q5 := q4.later hb5; have z5 := z4.later hb5; have z0 := z5.cell 0 _ rfl; have z1 := z5.cell 1 _ rfl; have zf := z5.frozen; have Hb5 := Lib.hid hb5; clear hb5))
    have y2 := (z5.setAt 0 (.bool false)).setAt 1 (.slice none 0 0)
    have y0 := y2.cell 0 _ rfl
    have y1 := y2.cell 1 _ rfl
    refine bodyPost_ret (v := .tuple #[.slice none 0 0, .agg #[.bool false, .slice none 0 0], .int .i64 7]) (by simp [results, Try.results21, go_sem, y0, y1]) rfl ?_
    exact ⟨⟨_, _, rfl, Kd.R_nil _ _ _ _ _, Kd.R_nil _ _ _ _ _⟩, ((below_step (below_step (below_step HB.out Hb3.out) Hb4.out) Hb5.out).setCell (p := ⟨w.heap.size + 1, 0, none⟩) (by simp) _).setCell (p := ⟨w.heap.size + 1, 1, none⟩) (by simp) _⟩
  · have HL2 := Lib.hid h2
    clear h2
    obtain ⟨hss, hrn⟩ := isLine_parts HL1.out
    have HInc := Lib.hid (GoesE.steps hss).inc
    have HLe := Lib.hid (steps60 hss)
    have HSs := Lib.hid hss
    have hl60 := steps60 hss
    clear hss hrn
    have HL3 := Lib.hid h3
    clear h3
    go_wp2_with (first
      | (go_at_call 63; (with_reducible refine HI2.out.mono ?_); rintro e w3 ⟨rfl, hb3⟩; simp only [HL1.out]; have q3 := K1.out.later hb3; have s0 := q3.cell 0 _ rfl; have s1 := q3.cell 1 _ rfl; have s2 := q3.cell 2 _ rfl; have z3 := K2.out.later hb3; have z0 := z3.cell 0 _ rfl; have z1 := z3.cell 1 _ rfl; have zf := z3.frozen; have Hb3 := Lib.hid hb3; clear hb3)
      | (go_at_call 71; (with_reducible refine (p_isStep s w3).mono ?_); rintro e w4 ⟨rfl, hb4⟩; simp only [HL2.out]; have q4 := q3.later hb4; have s0 := q4.cell 0 _ rfl; have z4 := z3.later hb4; have z0 := z4.cell 0 _ rfl; have z1 := z4.cell 1 _ rfl; have zf := z4.frozen; have Hb4 := Lib.hid hb4; clear hb4)
      | (go_at_call 72; (with_reducible refine (p_place A c l s.at_ w4 (Kd.C_below HR.out (below_step Hb3.out Hb4.out)) HInc.out HLe.out).mono ?_); rintro e w5 ⟨rfl, hb5⟩; simp only [HL3.out]; have q5 := q4.later hb5; have z5 := z4.later hb5; have z0 := z5.cell 0 _ rfl; have z1 := z5.cell 1 _ rfl; have zf := z5.frozen; have Hb5 := Lib.hid hb5; clear hb5))
    have y2 := (z5.setAt 0 (.bool false)).setAt 1 (.slice none 0 0)
    have y0 := y2.cell 0 _ rfl
    have y1 := y2.cell 1 _ rfl
    refine bodyPost_ret (v := .tuple #[.slice none 0 0, .agg #[.bool false, .slice none 0 0], .int .i64 3]) (by simp [results, Try.results21, go_sem, y0, y1]) rfl ?_
    exact ⟨⟨_, _, rfl, Kd.R_nil _ _ _ _ _, Kd.R_nil _ _ _ _ _⟩, ((below_step (below_step (below_step HB.out Hb3.out) Hb4.out) Hb5.out).setCell (p := ⟨w.heap.size + 1, 0, none⟩) (by simp) _).setCell (p := ⟨w.heap.size + 1, 1, none⟩) (by simp) _⟩
  · have HL2 := Lib.hid h2
    clear h2
    obtain ⟨hss, hrn⟩ := isLine_parts HL1.out
    have HInc := Lib.hid (GoesE.steps hss).inc
    have HLe := Lib.hid (steps60 hss)
    have HSs := Lib.hid hss
    have hl60 := steps60 hss
    clear hss hrn
    have HL3 := Lib.hid h3
    clear h3
    have H59 := Lib.hid (show l.length ≤ 59 by have h := h4; simp only [beq_eq_false_iff_ne, ne_eq] at h; have := HLe.out; omega)
    have Hpl := Lib.hid (place_le s.at_ l)
    have hcl : l.length ≤ 1000 := by omega
    go_upto_region 8 with (first
      | (go_at_call 63; (with_reducible refine HI2.out.mono ?_); rintro e w3 ⟨rfl, hb3⟩; simp only [HL1.out]; have q3 := K1.out.later hb3; have s0 := q3.cell 0 _ rfl; have s1 := q3.cell 1 _ rfl; have s2 := q3.cell 2 _ rfl; have z3 := K2.out.later hb3; have z0 := z3.cell 0 _ rfl; have z1 := z3.cell 1 _ rfl; have zf := z3.frozen; have Hb3 := Lib.hid hb3; clear hb3)
      | (go_at_call 71; (with_reducible refine (p_isStep s w3).mono ?_); rintro e w4 ⟨rfl, hb4⟩; simp only [HL2.out]; have q4 := q3.later hb4; have s0 := q4.cell 0 _ rfl; have z4 := z3.later hb4; have z0 := z4.cell 0 _ rfl; have z1 := z4.cell 1 _ rfl; have zf := z4.frozen; have Hb4 := Lib.hid hb4; clear hb4)
      | (go_at_call 72; (with_reducible refine (p_place A c l s.at_ w4 (Kd.C_below HR.out (below_step Hb3.out Hb4.out)) HInc.out HLe.out).mono ?_); rintro e w5 ⟨rfl, hb5⟩; simp only [HL3.out]; have q5 := q4.later hb5; have z5 := z4.later hb5; have z0 := z5.cell 0 _ rfl; have z1 := z5.cell 1 _ rfl; have zf := z5.frozen; have Hb5 := Lib.hid hb5; clear hb5))
    have HB5 := Lib.hid (below_step (below_step (below_step HB.out Hb3.out) Hb4.out) Hb5.out)
    have HR5 := Lib.hid (Kd.C_below HR.out (below_step (below_step Hb3.out Hb4.out) Hb5.out))
    have HQ5 := Lib.hid q5
    have HZ5 := Lib.hid z5
    have hw5 := HB5.out.size
    refine wp_region_flow [.free 0, .free 2, .calm 3, .group [1, 4], .fence 5, .free 6] (Below w5.heap.size w5) (Below w5.heap.size w5) (stable_below _ _ (Nat.le_refl _)) (fun _ h => h) (by kernel_rfl) (by kernel_rfl) (below_drew1 (Below.refl _ _)) ?_
    simp only [pickEnts, pickF, List.getElem?_cons_succ, List.getElem?_cons_zero, List.filterMap_cons, List.filterMap_nil, Option.map_some]
    repeat ((first | refine flow_calm (fun K hK => ?_) | refine flow_free (fun K hK => ?_) | refine float_calm (fun K hK => ?_) | refine float_free (fun K hK => ?_)); go_simp; first | (refine hK _ ?_; clear hK K) | (apply Exists.intro; (refine ⟨fun X => ?_, hK _ ?_⟩); (first | (intro hC; rfl) | rfl | (intro hC; have q := HQ5.out.later hC.out; have s0 := q.cell 0 _ rfl; have s1 := q.cell 1 _ rfl; have s2 := q.cell 2 _ rfl; go_simp; done) | (intro hC; have q := HQ5.out.later hC.out; have s0 := q.cell 0 _ rfl; have s1 := q.cell 1 _ rfl; have s2 := q.cell 2 _ rfl; go_simp; rfl)); clear hK K))
    refine flow_twoR (fun v X => Own kPStep 36 X w5.heap.size v l) (fun v X => ∃ B, v = .slice (some ⟨B, 0, none⟩) 1 1 ∧ Cells X B (pstepCells s).toArray 36) (fun X u => ∀ k, u.ownBlock = some k → X.heap.size ≤ k) (fun v u => ∀ k, v.ownBlock = some k → u.ownBlock ≠ some k) (fun _ _ _ h hb => Kd.R_below h hb) (fun _ _ _ h hb => by obtain ⟨B, h1, h2⟩ := h; exact ⟨B, h1, h2.later hb⟩) (by decide) ?ga1 ?ga2 ⟨rfl, fun X hX => ?ga3⟩ ⟨rfl, fun X hX => ?ga4⟩ (fun v u X0 hX0 hV0 hU0 hR0 => ?_)
    case ga1 =>
      intro v u X hv hu
      have hl : ∀ k, v.ownBlock = some k → k < X.heap.size := fun k hk => by obtain ⟨_, cs, hc⟩ := own_ty hv hk; exact (Array.getElem?_eq_some_iff.1 hc).1
      exact ⟨fun k hk e => by have := hl k hk; have := hu k e; omega, fun k hk e => by have := hl k e; have := hu k hk; omega⟩
    case ga2 =>
      rintro v u X ⟨B, rfl, hv⟩ hu
      have hl := hv.lt
      refine ⟨fun k hk e => ?_, fun k hk e => ?_⟩
      · have h1 : B = k := by simpa [Value.ownBlock] using hk
        have := hu _ e; omega
      · have h1 : B = k := by simpa [Value.ownBlock] using e
        have := hu _ hk; omega
    case ga3 =>
      go_simp
      refine ⟨Below.refl _ _, ?_⟩
      (with_reducible refine (fresh_steps A c l X (Kd.C_below HR5.out hX.out) hcl).mono ?_)
      rintro e w' ⟨v, rfl, ho, hb⟩
      exact ⟨v, rfl, hb, Kd.R_lower ho hX.out.size, fun k hk => (own_ty ho hk).1⟩
    case ga4 =>
      go_simp
      refine ⟨below_alloc (Below.refl _ _) _, Cells.new _ _ _, ?_⟩
      first | done | (intro k hk; simp [Value.ownBlock] at hk; omega) | simp [Value.ownBlock]
    obtain ⟨B4, rfl, -⟩ := hU0
    obtain ⟨A3, n3, c3, rfl⟩ := R_slice' hV0
    have HR0 := Lib.hid hR0
    clear hX0 hV0 hR0
    refine flow_fence rfl (fun X hX K hK => ?_)
    obtain ⟨hb5, ho5, B', hB', hcB⟩ := hX.out
    simp only [Value.slice.injEq, Option.some.injEq, Addr.mk.injEq, and_true] at hB'
    subst hB'
    go_simp
    refine (lib_Insert w5.heap.size (placeE s.at_ l) (.slice A3 n3 c3) l s B4 1 X ho5 Hpl.out H59.out hb5.size hcB (fun e => HR0.out B4 e.symm rfl)).mono ?_
    rintro e w' ⟨v6, rfl, ho6, hb6⟩
    have hbw : Below w5.heap.size w5 w' := hb5.trans hb6
    have ho6' : Own kPStep 36 w' w5.heap.size v6 (withE l s) := ho6
    refine hK.out _ _ (fun Z => Below w5.heap.size w5 Z ∧ Own kPStep 36 Z w5.heap.size v6 (withE l s)) (fun Z => Below w5.heap.size w5 Z ∧ Own kPStep 36 Z w5.heap.size v6 (withE l s)) (fun Z Z' hZ hb => ⟨hZ.1.trans (Below.mono hb hZ.1.size), Kd.R_below hZ.2 hb⟩) (fun _ h => h) ⟨hbw, ho6'⟩ ?_
    clear hK K hX hb5 ho5 hcB hb6 ho6 ho6' hbw
    repeat ((first | refine flow_calm (fun K hK => ?_) | refine flow_free (fun K hK => ?_) | refine float_calm (fun K hK => ?_) | refine float_free (fun K hK => ?_)); go_simp; first | (refine hK _ ?_; clear hK K) | (apply Exists.intro; (refine ⟨fun X => ?_, hK _ ?_⟩); (first | (intro hC; rfl) | rfl | (intro hC; skip; go_simp; done) | (intro hC; skip; go_simp; rfl)); clear hK K))
    refine flow_nil ?_
    intro Y hY
    have HBY := Lib.hid (below_step HB5.out hY.out.1)
    have HY5 := Lib.hid hY.out.1.size
    have HOY := Lib.hid hY.out.2
    have HQY := Lib.hid (HQ5.out.later hY.out.1)
    have HZY := Lib.hid (HZ5.out.later hY.out.1)
    have HRY := Lib.hid (Kd.C_below HR5.out hY.out.1)
    obtain ⟨A6, c6, rfl, hc6, hr6⟩ := own_reads' hY.out.2
    have HR6 := Lib.hid hr6
    have HL5 := Lib.hid h5
    clear hY hr6 h5 q3 q4 q5 z3 z4 z5 s0 s1 s2 z0 z1 zf HQ5 HZ5
    have s0 := HQY.out.cell 0 _ rfl
    have s1 := HQY.out.cell 1 _ rfl
    have s2 := HQY.out.cell 2 _ rfl
    have z0 := HZY.out.cell 0 _ rfl
    have z1 := HZY.out.cell 1 _ rfl
    have zf := HZY.out.frozen
    obtain ⟨n6, hn6⟩ : ∃ n, n = (withE l s).length := ⟨_, rfl⟩
    rw [← hn6] at HOY hc6 HR6 ⊢
    have Hn6 := Lib.hid hn6
    clear hn6
    go_wp2_with (first
      | (go_at_call 63; (with_reducible refine (isLine_at A6 n6 c6 (withE l s) Y Hn6.out HR6.out).mono ?_); rintro e w7 ⟨rfl, hb7⟩; simp only [HL5.out]; have z7 := HZY.out.later hb7; have z0 := z7.cell 0 _ rfl; have z1 := z7.cell 1 _ rfl; have zf := z7.frozen; have Hb7 := Lib.hid hb7; clear hb7))
    have y2 := (z7.setAt 0 (.bool false)).setAt 1 (.slice none 0 0)
    have y0 := y2.cell 0 _ rfl
    have y1 := y2.cell 1 _ rfl
    refine bodyPost_ret (v := .tuple #[.slice none 0 0, .agg #[.bool false, .slice none 0 0], .int .i64 7]) (by simp [results, Try.results21, go_sem, y0, y1]) rfl ?_
    exact ⟨⟨_, _, rfl, Kd.R_nil _ _ _ _ _, Kd.R_nil _ _ _ _ _⟩, ((below_step HBY.out Hb7.out).setCell (p := ⟨w.heap.size + 1, 0, none⟩) (by simp) _).setCell (p := ⟨w.heap.size + 1, 1, none⟩) (by simp) _⟩
  · have HL2 := Lib.hid h2
    clear h2
    obtain ⟨hss, hrn⟩ := isLine_parts HL1.out
    have HInc := Lib.hid (GoesE.steps hss).inc
    have HLe := Lib.hid (steps60 hss)
    have HSs := Lib.hid hss
    have hl60 := steps60 hss
    clear hss hrn
    have HL3 := Lib.hid h3
    clear h3
    have H59 := Lib.hid (show l.length ≤ 59 by have h := h4; simp only [beq_eq_false_iff_ne, ne_eq] at h; have := HLe.out; omega)
    have Hpl := Lib.hid (place_le s.at_ l)
    have hcl : l.length ≤ 1000 := by omega
    go_upto_region 8 with (first
      | (go_at_call 63; (with_reducible refine HI2.out.mono ?_); rintro e w3 ⟨rfl, hb3⟩; simp only [HL1.out]; have q3 := K1.out.later hb3; have s0 := q3.cell 0 _ rfl; have s1 := q3.cell 1 _ rfl; have s2 := q3.cell 2 _ rfl; have z3 := K2.out.later hb3; have z0 := z3.cell 0 _ rfl; have z1 := z3.cell 1 _ rfl; have zf := z3.frozen; have Hb3 := Lib.hid hb3; clear hb3)
      | (go_at_call 71; (with_reducible refine (p_isStep s w3).mono ?_); rintro e w4 ⟨rfl, hb4⟩; simp only [HL2.out]; have q4 := q3.later hb4; have s0 := q4.cell 0 _ rfl; have z4 := z3.later hb4; have z0 := z4.cell 0 _ rfl; have z1 := z4.cell 1 _ rfl; have zf := z4.frozen; have Hb4 := Lib.hid hb4; clear hb4)
      | (go_at_call 72; (with_reducible refine (p_place A c l s.at_ w4 (Kd.C_below HR.out (below_step Hb3.out Hb4.out)) HInc.out HLe.out).mono ?_); rintro e w5 ⟨rfl, hb5⟩; simp only [HL3.out]; have q5 := q4.later hb5; have z5 := z4.later hb5; have z0 := z5.cell 0 _ rfl; have z1 := z5.cell 1 _ rfl; have zf := z5.frozen; have Hb5 := Lib.hid hb5; clear hb5))
    have HB5 := Lib.hid (below_step (below_step (below_step HB.out Hb3.out) Hb4.out) Hb5.out)
    have HR5 := Lib.hid (Kd.C_below HR.out (below_step (below_step Hb3.out Hb4.out) Hb5.out))
    have HQ5 := Lib.hid q5
    have HZ5 := Lib.hid z5
    have hw5 := HB5.out.size
    have hz5 : w.heap.size + 1 < w5.heap.size := z5.lt
    refine wp_region_flow [.free 0, .free 2, .calm 3, .group [1, 4], .fence 5, .free 6] (Below w5.heap.size w5) (Below w5.heap.size w5) (stable_below _ _ (Nat.le_refl _)) (fun _ h => h) (by kernel_rfl) (by kernel_rfl) (below_drew1 (Below.refl _ _)) ?_
    simp only [pickEnts, pickF, List.getElem?_cons_succ, List.getElem?_cons_zero, List.filterMap_cons, List.filterMap_nil, Option.map_some]
    repeat ((first | refine flow_calm (fun K hK => ?_) | refine flow_free (fun K hK => ?_) | refine float_calm (fun K hK => ?_) | refine float_free (fun K hK => ?_)); go_simp; first | (refine hK _ ?_; clear hK K) | (apply Exists.intro; (refine ⟨fun X => ?_, hK _ ?_⟩); (first | (intro hC; rfl) | rfl | (intro hC; have q := HQ5.out.later hC.out; have s0 := q.cell 0 _ rfl; have s1 := q.cell 1 _ rfl; have s2 := q.cell 2 _ rfl; go_simp; done) | (intro hC; have q := HQ5.out.later hC.out; have s0 := q.cell 0 _ rfl; have s1 := q.cell 1 _ rfl; have s2 := q.cell 2 _ rfl; go_simp; rfl)); clear hK K))
    refine flow_twoR (fun v X => Own kPStep 36 X w5.heap.size v l) (fun v X => ∃ B, v = .slice (some ⟨B, 0, none⟩) 1 1 ∧ Cells X B (pstepCells s).toArray 36) (fun X u => ∀ k, u.ownBlock = some k → X.heap.size ≤ k) (fun v u => ∀ k, v.ownBlock = some k → u.ownBlock ≠ some k) (fun _ _ _ h hb => Kd.R_below h hb) (fun _ _ _ h hb => by obtain ⟨B, h1, h2⟩ := h; exact ⟨B, h1, h2.later hb⟩) (by decide) ?gb1 ?gb2 ⟨rfl, fun X hX => ?gb3⟩ ⟨rfl, fun X hX => ?gb4⟩ (fun v u X0 hX0 hV0 hU0 hR0 => ?_)
    case gb1 =>
      intro v u X hv hu
      have hl : ∀ k, v.ownBlock = some k → k < X.heap.size := fun k hk => by obtain ⟨_, cs, hc⟩ := own_ty hv hk; exact (Array.getElem?_eq_some_iff.1 hc).1
      exact ⟨fun k hk e => by have := hl k hk; have := hu k e; omega, fun k hk e => by have := hl k e; have := hu k hk; omega⟩
    case gb2 =>
      rintro v u X ⟨B, rfl, hv⟩ hu
      have hl := hv.lt
      refine ⟨fun k hk e => ?_, fun k hk e => ?_⟩
      · have h1 : B = k := by simpa [Value.ownBlock] using hk
        have := hu _ e; omega
      · have h1 : B = k := by simpa [Value.ownBlock] using e
        have := hu _ hk; omega
    case gb3 =>
      go_simp
      refine ⟨Below.refl _ _, ?_⟩
      (with_reducible refine (fresh_steps A c l X (Kd.C_below HR5.out hX.out) hcl).mono ?_)
      rintro e w' ⟨v, rfl, ho, hb⟩
      exact ⟨v, rfl, hb, Kd.R_lower ho hX.out.size, fun k hk => (own_ty ho hk).1⟩
    case gb4 =>
      go_simp
      refine ⟨below_alloc (Below.refl _ _) _, Cells.new _ _ _, ?_⟩
      first | done | (intro k hk; simp [Value.ownBlock] at hk; omega) | simp [Value.ownBlock]
    obtain ⟨B4, rfl, -⟩ := hU0
    obtain ⟨A3, n3, c3, rfl⟩ := R_slice' hV0
    have HR0 := Lib.hid hR0
    clear hX0 hV0 hR0
    refine flow_fence rfl (fun X hX K hK => ?_)
    obtain ⟨hb5, ho5, B', hB', hcB⟩ := hX.out
    simp only [Value.slice.injEq, Option.some.injEq, Addr.mk.injEq, and_true] at hB'
    subst hB'
    go_simp
    refine (lib_Insert w5.heap.size (placeE s.at_ l) (.slice A3 n3 c3) l s B4 1 X ho5 Hpl.out H59.out hb5.size hcB (fun e => HR0.out B4 e.symm rfl)).mono ?_
    rintro e w' ⟨v6, rfl, ho6, hb6⟩
    have hbw : Below w5.heap.size w5 w' := hb5.trans hb6
    have ho6' : Own kPStep 36 w' w5.heap.size v6 (withE l s) := ho6
    refine hK.out _ _ (fun Z => Below w5.heap.size w5 Z ∧ Own kPStep 36 Z w5.heap.size v6 (withE l s)) (fun Z => Below w5.heap.size w5 Z ∧ Own kPStep 36 Z w5.heap.size v6 (withE l s)) (fun Z Z' hZ hb => ⟨hZ.1.trans (Below.mono hb hZ.1.size), Kd.R_below hZ.2 hb⟩) (fun _ h => h) ⟨hbw, ho6'⟩ ?_
    clear hK K hX hb5 ho5 hcB hb6 ho6 ho6' hbw
    repeat ((first | refine flow_calm (fun K hK => ?_) | refine flow_free (fun K hK => ?_) | refine float_calm (fun K hK => ?_) | refine float_free (fun K hK => ?_)); go_simp; first | (refine hK _ ?_; clear hK K) | (apply Exists.intro; (refine ⟨fun X => ?_, hK _ ?_⟩); (first | (intro hC; rfl) | rfl | (intro hC; skip; go_simp; done) | (intro hC; skip; go_simp; rfl)); clear hK K))
    refine flow_nil ?_
    intro Y hY
    have HBY := Lib.hid (below_step HB5.out hY.out.1)
    have HY5 := Lib.hid hY.out.1.size
    have HOY := Lib.hid hY.out.2
    have HQY := Lib.hid (HQ5.out.later hY.out.1)
    have HZY := Lib.hid (HZ5.out.later hY.out.1)
    have HRY := Lib.hid (Kd.C_below HR5.out hY.out.1)
    obtain ⟨A6, c6, rfl, hc6, hr6⟩ := own_reads' hY.out.2
    have HR6 := Lib.hid hr6
    have HL5 := Lib.hid h5
    clear hY hr6 h5 q3 q4 q5 z3 z4 z5 s0 s1 s2 z0 z1 zf HQ5 HZ5
    have s0 := HQY.out.cell 0 _ rfl
    have s1 := HQY.out.cell 1 _ rfl
    have s2 := HQY.out.cell 2 _ rfl
    have z0 := HZY.out.cell 0 _ rfl
    have z1 := HZY.out.cell 1 _ rfl
    have zf := HZY.out.frozen
    obtain ⟨n6, hn6⟩ : ∃ n, n = (withE l s).length := ⟨_, rfl⟩
    rw [← hn6] at HOY hc6 HR6 ⊢
    have Hn6 := Lib.hid hn6
    clear hn6
    have HS6 := Lib.hid (isLine_parts HL5.out).1
    have HI6 := Lib.hid (GoesE.steps HS6.out).inc
    have Hd := Lib.hid h6
    go_wp2_with (first
      | (go_at_call 63; (with_reducible refine (isLine_at A6 n6 c6 (withE l s) Y Hn6.out HR6.out).mono ?_); rintro e w7 ⟨rfl, hb7⟩; simp only [HL5.out]; have q7 := HQY.out.later hb7; have s0 := q7.cell 0 _ rfl; have s1 := q7.cell 1 _ rfl; have s2 := q7.cell 2 _ rfl; have z7 := HZY.out.later hb7; have z0 := z7.cell 0 _ rfl; have z1 := z7.cell 1 _ rfl; have zf := z7.frozen; have Hb7 := Lib.hid hb7; clear hb7)
      | (go_at_call 75; (with_reducible refine (walked_at A6 A n6 l.length c6 c (withE l s) l s.at_ ⟨s.key, s.at_⟩ w7 Hn6.out rfl (Kd.C_below HR6.out Hb7.out) (Kd.C_below HRY.out Hb7.out) HS6.out HSs.out).mono ?_); rintro e w8 ⟨v8, rfl, ho8, hb8⟩; obtain ⟨A8, n8, c8, rfl⟩ := R_slice' ho8; have z8 := z7.later hb8; have z0 := z8.cell 0 _ rfl; have z1 := z8.cell 1 _ rfl; have zf := z8.frozen; have HZ8 := Lib.hid z8; have HO8 := Lib.hid (Kd.R_below (Kd.R_below HOY.out Hb7.out) hb8); have HB8 := Lib.hid (below_step (below_step HBY.out Hb7.out) hb8); have HSp := Lib.hid (Kd.R_lower ho8 (show w5.heap.size ≤ w7.heap.size from Nat.le_trans HY5.out Hb7.out.size)); clear hb8 ho8))
    have y2 := (HZ8.out.setAt 0 (.bool true)).setAt 1 (.slice A8 n8 c8)
    have y0 := y2.cell 0 _ rfl
    have y1 := y2.cell 1 _ rfl
    refine bodyPost_ret (v := .tuple #[.slice A6 n6 c6, .agg #[.bool true, .slice A8 n8 c8], .int .i64 0]) (by simp [results, Try.results21, go_sem, y0, y1]) rfl ?_
    refine ⟨⟨_, _, rfl, Kd.R_lower (R_set_low (R_set_low HO8.out (p := ⟨w.heap.size + 1, 0, none⟩) hz5 _) (p := ⟨w.heap.size + 1, 1, none⟩) hz5 _) hw5, Kd.R_lower (R_set_low (R_set_low HSp.out (p := ⟨w.heap.size + 1, 0, none⟩) hz5 _) (p := ⟨w.heap.size + 1, 1, none⟩) hz5 _) hw5⟩, (HB8.out.setCell (p := ⟨w.heap.size + 1, 0, none⟩) (by simp) _).setCell (p := ⟨w.heap.size + 1, 1, none⟩) (by simp) _⟩
  · have HL2 := Lib.hid h2
    clear h2
    obtain ⟨hss, hrn⟩ := isLine_parts HL1.out
    have HInc := Lib.hid (GoesE.steps hss).inc
    have HLe := Lib.hid (steps60 hss)
    have HSs := Lib.hid hss
    have hl60 := steps60 hss
    clear hss hrn
    have HL3 := Lib.hid h3
    clear h3
    have H59 := Lib.hid (show l.length ≤ 59 by have h := h4; simp only [beq_eq_false_iff_ne, ne_eq] at h; have := HLe.out; omega)
    have Hpl := Lib.hid (place_le s.at_ l)
    have hcl : l.length ≤ 1000 := by omega
    go_upto_region 8 with (first
      | (go_at_call 63; (with_reducible refine HI2.out.mono ?_); rintro e w3 ⟨rfl, hb3⟩; simp only [HL1.out]; have q3 := K1.out.later hb3; have s0 := q3.cell 0 _ rfl; have s1 := q3.cell 1 _ rfl; have s2 := q3.cell 2 _ rfl; have z3 := K2.out.later hb3; have z0 := z3.cell 0 _ rfl; have z1 := z3.cell 1 _ rfl; have zf := z3.frozen; have Hb3 := Lib.hid hb3; clear hb3)
      | (go_at_call 71; (with_reducible refine (p_isStep s w3).mono ?_); rintro e w4 ⟨rfl, hb4⟩; simp only [HL2.out]; have q4 := q3.later hb4; have s0 := q4.cell 0 _ rfl; have z4 := z3.later hb4; have z0 := z4.cell 0 _ rfl; have z1 := z4.cell 1 _ rfl; have zf := z4.frozen; have Hb4 := Lib.hid hb4; clear hb4)
      | (go_at_call 72; (with_reducible refine (p_place A c l s.at_ w4 (Kd.C_below HR.out (below_step Hb3.out Hb4.out)) HInc.out HLe.out).mono ?_); rintro e w5 ⟨rfl, hb5⟩; simp only [HL3.out]; have q5 := q4.later hb5; have z5 := z4.later hb5; have z0 := z5.cell 0 _ rfl; have z1 := z5.cell 1 _ rfl; have zf := z5.frozen; have Hb5 := Lib.hid hb5; clear hb5))
    have HB5 := Lib.hid (below_step (below_step (below_step HB.out Hb3.out) Hb4.out) Hb5.out)
    have HR5 := Lib.hid (Kd.C_below HR.out (below_step (below_step Hb3.out Hb4.out) Hb5.out))
    have HQ5 := Lib.hid q5
    have HZ5 := Lib.hid z5
    have hw5 := HB5.out.size
    have hz5 : w.heap.size + 1 < w5.heap.size := z5.lt
    refine wp_region_flow [.free 0, .free 2, .calm 3, .group [1, 4], .fence 5, .free 6] (Below w5.heap.size w5) (Below w5.heap.size w5) (stable_below _ _ (Nat.le_refl _)) (fun _ h => h) (by kernel_rfl) (by kernel_rfl) (below_drew1 (Below.refl _ _)) ?_
    simp only [pickEnts, pickF, List.getElem?_cons_succ, List.getElem?_cons_zero, List.filterMap_cons, List.filterMap_nil, Option.map_some]
    repeat ((first | refine flow_calm (fun K hK => ?_) | refine flow_free (fun K hK => ?_) | refine float_calm (fun K hK => ?_) | refine float_free (fun K hK => ?_)); go_simp; first | (refine hK _ ?_; clear hK K) | (apply Exists.intro; (refine ⟨fun X => ?_, hK _ ?_⟩); (first | (intro hC; rfl) | rfl | (intro hC; have q := HQ5.out.later hC.out; have s0 := q.cell 0 _ rfl; have s1 := q.cell 1 _ rfl; have s2 := q.cell 2 _ rfl; go_simp; done) | (intro hC; have q := HQ5.out.later hC.out; have s0 := q.cell 0 _ rfl; have s1 := q.cell 1 _ rfl; have s2 := q.cell 2 _ rfl; go_simp; rfl)); clear hK K))
    refine flow_twoR (fun v X => Own kPStep 36 X w5.heap.size v l) (fun v X => ∃ B, v = .slice (some ⟨B, 0, none⟩) 1 1 ∧ Cells X B (pstepCells s).toArray 36) (fun X u => ∀ k, u.ownBlock = some k → X.heap.size ≤ k) (fun v u => ∀ k, v.ownBlock = some k → u.ownBlock ≠ some k) (fun _ _ _ h hb => Kd.R_below h hb) (fun _ _ _ h hb => by obtain ⟨B, h1, h2⟩ := h; exact ⟨B, h1, h2.later hb⟩) (by decide) ?gc1 ?gc2 ⟨rfl, fun X hX => ?gc3⟩ ⟨rfl, fun X hX => ?gc4⟩ (fun v u X0 hX0 hV0 hU0 hR0 => ?_)
    case gc1 =>
      intro v u X hv hu
      have hl : ∀ k, v.ownBlock = some k → k < X.heap.size := fun k hk => by obtain ⟨_, cs, hc⟩ := own_ty hv hk; exact (Array.getElem?_eq_some_iff.1 hc).1
      exact ⟨fun k hk e => by have := hl k hk; have := hu k e; omega, fun k hk e => by have := hl k e; have := hu k hk; omega⟩
    case gc2 =>
      rintro v u X ⟨B, rfl, hv⟩ hu
      have hl := hv.lt
      refine ⟨fun k hk e => ?_, fun k hk e => ?_⟩
      · have h1 : B = k := by simpa [Value.ownBlock] using hk
        have := hu _ e; omega
      · have h1 : B = k := by simpa [Value.ownBlock] using e
        have := hu _ hk; omega
    case gc3 =>
      go_simp
      refine ⟨Below.refl _ _, ?_⟩
      (with_reducible refine (fresh_steps A c l X (Kd.C_below HR5.out hX.out) hcl).mono ?_)
      rintro e w' ⟨v, rfl, ho, hb⟩
      exact ⟨v, rfl, hb, Kd.R_lower ho hX.out.size, fun k hk => (own_ty ho hk).1⟩
    case gc4 =>
      go_simp
      refine ⟨below_alloc (Below.refl _ _) _, Cells.new _ _ _, ?_⟩
      first | done | (intro k hk; simp [Value.ownBlock] at hk; omega) | simp [Value.ownBlock]
    obtain ⟨B4, rfl, -⟩ := hU0
    obtain ⟨A3, n3, c3, rfl⟩ := R_slice' hV0
    have HR0 := Lib.hid hR0
    clear hX0 hV0 hR0
    refine flow_fence rfl (fun X hX K hK => ?_)
    obtain ⟨hb5, ho5, B', hB', hcB⟩ := hX.out
    simp only [Value.slice.injEq, Option.some.injEq, Addr.mk.injEq, and_true] at hB'
    subst hB'
    go_simp
    refine (lib_Insert w5.heap.size (placeE s.at_ l) (.slice A3 n3 c3) l s B4 1 X ho5 Hpl.out H59.out hb5.size hcB (fun e => HR0.out B4 e.symm rfl)).mono ?_
    rintro e w' ⟨v6, rfl, ho6, hb6⟩
    have hbw : Below w5.heap.size w5 w' := hb5.trans hb6
    have ho6' : Own kPStep 36 w' w5.heap.size v6 (withE l s) := ho6
    refine hK.out _ _ (fun Z => Below w5.heap.size w5 Z ∧ Own kPStep 36 Z w5.heap.size v6 (withE l s)) (fun Z => Below w5.heap.size w5 Z ∧ Own kPStep 36 Z w5.heap.size v6 (withE l s)) (fun Z Z' hZ hb => ⟨hZ.1.trans (Below.mono hb hZ.1.size), Kd.R_below hZ.2 hb⟩) (fun _ h => h) ⟨hbw, ho6'⟩ ?_
    clear hK K hX hb5 ho5 hcB hb6 ho6 ho6' hbw
    repeat ((first | refine flow_calm (fun K hK => ?_) | refine flow_free (fun K hK => ?_) | refine float_calm (fun K hK => ?_) | refine float_free (fun K hK => ?_)); go_simp; first | (refine hK _ ?_; clear hK K) | (apply Exists.intro; (refine ⟨fun X => ?_, hK _ ?_⟩); (first | (intro hC; rfl) | rfl | (intro hC; skip; go_simp; done) | (intro hC; skip; go_simp; rfl)); clear hK K))
    refine flow_nil ?_
    intro Y hY
    have HBY := Lib.hid (below_step HB5.out hY.out.1)
    have HY5 := Lib.hid hY.out.1.size
    have HOY := Lib.hid hY.out.2
    have HQY := Lib.hid (HQ5.out.later hY.out.1)
    have HZY := Lib.hid (HZ5.out.later hY.out.1)
    have HRY := Lib.hid (Kd.C_below HR5.out hY.out.1)
    obtain ⟨A6, c6, rfl, hc6, hr6⟩ := own_reads' hY.out.2
    have HR6 := Lib.hid hr6
    have HL5 := Lib.hid h5
    clear hY hr6 h5 q3 q4 q5 z3 z4 z5 s0 s1 s2 z0 z1 zf HQ5 HZ5
    have s0 := HQY.out.cell 0 _ rfl
    have s1 := HQY.out.cell 1 _ rfl
    have s2 := HQY.out.cell 2 _ rfl
    have z0 := HZY.out.cell 0 _ rfl
    have z1 := HZY.out.cell 1 _ rfl
    have zf := HZY.out.frozen
    obtain ⟨n6, hn6⟩ : ∃ n, n = (withE l s).length := ⟨_, rfl⟩
    rw [← hn6] at HOY hc6 HR6 ⊢
    have Hn6 := Lib.hid hn6
    clear hn6
    have HS6 := Lib.hid (isLine_parts HL5.out).1
    have HI6 := Lib.hid (GoesE.steps HS6.out).inc
    have Hd := Lib.hid h6
    obtain ⟨x0, hx0⟩ : ∃ x, x = (takenE (withE l s) s.at_).getD ⟨0, 0⟩ := ⟨_, rfl⟩
    rw [← hx0]
    have Hx0 := Lib.hid hx0
    clear hx0
    go_upto_region 13 with (first
      | (go_at_call 63; (with_reducible refine (isLine_at A6 n6 c6 (withE l s) Y Hn6.out HR6.out).mono ?_); rintro e w7 ⟨rfl, hb7⟩; simp only [HL5.out]; have q7 := HQY.out.later hb7; have s0 := q7.cell 0 _ rfl; have s1 := q7.cell 1 _ rfl; have s2 := q7.cell 2 _ rfl; have z7 := HZY.out.later hb7; have z0 := z7.cell 0 _ rfl; have z1 := z7.cell 1 _ rfl; have zf := z7.frozen; have Hb7 := Lib.hid hb7; clear hb7))
    have HQ7 := Lib.hid q7
    have HZ7 := Lib.hid z7
    have HR67 := Lib.hid (Kd.C_below HR6.out Hb7.out)
    have HRl7 := Lib.hid (Kd.C_below HRY.out Hb7.out)
    have HO7 := Lib.hid (Kd.R_below HOY.out Hb7.out)
    have HB7 := Lib.hid (below_step HBY.out Hb7.out)
    have hw7 : w5.heap.size ≤ w7.heap.size := Nat.le_trans HY5.out Hb7.out.size
    clear s0 s1 s2 z0 z1 zf q7 z7
    refine wp_region_flow [.free 0, .free 1, .free 2, .free 3, .calm 4, .free 5, .free 7, .calm 8, .alone 6, .calm 9, .alone 10, .free 11, .free 12, .fence 13, .free 14] (Below w7.heap.size w7) (Below w7.heap.size w7) (stable_below _ _ (Nat.le_refl _)) (fun _ h => h) (by kernel_rfl) (by kernel_rfl) (below_drew1 (Below.refl _ _)) ?_
    simp only [pickEnts, pickF, List.getElem?_cons_succ, List.getElem?_cons_zero, List.filterMap_cons, List.filterMap_nil, Option.map_some]
    repeat ((first | refine flow_calm (fun K hK => ?_) | refine flow_free (fun K hK => ?_) | refine float_calm (fun K hK => ?_) | refine float_free (fun K hK => ?_)); go_simp; first | (refine hK _ ?_; clear hK K) | (apply Exists.intro; (refine ⟨fun X => ?_, hK _ ?_⟩); (first | (intro hC; rfl) | rfl | (intro hC; have q := HQ7.out.later hC.out; have s0 := q.cell 0 _ rfl; have s1 := q.cell 1 _ rfl; have s2 := q.cell 2 _ rfl; go_simp; done) | (intro hC; have q := HQ7.out.later hC.out; have s0 := q.cell 0 _ rfl; have s1 := q.cell 1 _ rfl; have s2 := q.cell 2 _ rfl; go_simp; rfl)); clear hK K))
    refine flow_alone rfl (fun X hX K hK => ?_)
    go_simp
    refine (taken_at A6 n6 c6 (withE l s) X Hn6.out (Kd.C_below HR67.out hX.out) HS6.out).mono ?_
    rintro e w8 ⟨b8, rfl, hb8, ht8, hbl8⟩
    refine hK.out _ _ (fun Z => Below w7.heap.size w7 Z ∧ TakenAt Z b8 (withE l s)) (fun Z => Below w7.heap.size w7 Z ∧ TakenAt Z b8 (withE l s)) (fun Z Z' hZ hb => ⟨hZ.1.trans (Below.mono hb hZ.1.size), hZ.2.later hb⟩) (fun _ h => h.1) (fun _ h => h) ⟨below_step hX.out hbl8, ht8⟩ ?_
    clear hK K hX hb8 ht8 hbl8
    repeat ((first | refine flow_calm (fun K hK => ?_) | refine flow_free (fun K hK => ?_) | refine float_calm (fun K hK => ?_) | refine float_free (fun K hK => ?_)); go_simp; first | (refine hK _ ?_; clear hK K) | (apply Exists.intro; (refine ⟨fun X => ?_, hK _ ?_⟩); (first | (intro hC; rfl) | rfl | (intro hC; have q := HQ7.out.later hC.out.1; have s0 := q.cell 0 _ rfl; have s1 := q.cell 1 _ rfl; have s2 := q.cell 2 _ rfl; have hlk := hC.out.2.look1 HI6.out s.at_; rw [← Hx0.out] at hlk; simp only [elemVal] at hlk; go_simp; done) | (intro hC; have q := HQ7.out.later hC.out.1; have s0 := q.cell 0 _ rfl; have s1 := q.cell 1 _ rfl; have s2 := q.cell 2 _ rfl; have hlk := hC.out.2.look1 HI6.out s.at_; rw [← Hx0.out] at hlk; simp only [elemVal] at hlk; go_simp; rfl)); clear hK K))
    refine flow_alone rfl (fun X hX K hK => ?_)
    go_simp
    refine (walked_at A A6 l.length n6 c c6 l (withE l s) s.at_ x0 X rfl Hn6.out (Kd.C_below HRl7.out hX.out.1) (Kd.C_below HR67.out hX.out.1) HSs.out HS6.out).mono ?_
    rintro e w9 ⟨v9, rfl, ho9, hb9⟩
    obtain ⟨A8, n8, c8, rfl⟩ := R_slice' ho9
    refine hK.out _ _ (fun Z => (Below w7.heap.size w7 Z ∧ TakenAt Z b8 (withE l s)) ∧ Own kPSpan 60 Z w7.heap.size (.slice A8 n8 c8) (walkedE l (withE l s) s.at_ x0)) (fun Z => (Below w7.heap.size w7 Z ∧ TakenAt Z b8 (withE l s)) ∧ Own kPSpan 60 Z w7.heap.size (.slice A8 n8 c8) (walkedE l (withE l s) s.at_ x0)) (fun Z Z' hZ hb => ⟨⟨hZ.1.1.trans (Below.mono hb hZ.1.1.size), hZ.1.2.later hb⟩, Kd.R_below hZ.2 hb⟩) (fun _ h => h.1) (fun _ h => h) ⟨⟨below_step hX.out.1 hb9, hX.out.2.later hb9⟩, Kd.R_lower ho9 hX.out.1.size⟩ ?_
    clear hK K hX ho9 hb9
    repeat ((first | refine flow_calm (fun K hK => ?_) | refine flow_free (fun K hK => ?_) | refine float_calm (fun K hK => ?_) | refine float_free (fun K hK => ?_)); go_simp; first | (refine hK _ ?_; clear hK K) | (apply Exists.intro; (refine ⟨fun X => ?_, hK _ ?_⟩); (first | (intro hC; rfl) | rfl | (intro hC; skip; go_simp; done) | (intro hC; skip; go_simp; rfl)); clear hK K))
    refine flow_fence rfl (fun X hX K hK => ?_)
    have z8 := HZ7.out.later hX.out.1.1
    have z0 := z8.cell 0 _ rfl
    have z1 := z8.cell 1 _ rfl
    have zf := z8.frozen
    go_simp
    refine hK.out _ _ (InsD w.heap.size w5.heap.size w (.slice A6 n6 c6) (.slice A8 n8 c8) (withE l s) (walkedE l (withE l s) s.at_ x0) false) (InsD w.heap.size w5.heap.size w (.slice A6 n6 c6) (.slice A8 n8 c8) (withE l s) (walkedE l (withE l s) s.at_ x0) false) (fun Z Z' hZ hb => hZ.later hb) (fun _ h => h) ⟨(z8.setAt 0 (.bool false)).setAt 1 (.slice A8 n8 c8), R_set_low (R_set_low (Kd.R_below HO7.out hX.out.1.1) (p := ⟨w.heap.size + 1, 0, none⟩) hz5 _) (p := ⟨w.heap.size + 1, 1, none⟩) hz5 _, R_set_low (R_set_low (Kd.R_lower hX.out.2 hw7) (p := ⟨w.heap.size + 1, 0, none⟩) hz5 _) (p := ⟨w.heap.size + 1, 1, none⟩) hz5 _, ((below_step HB7.out hX.out.1.1).setCell (p := ⟨w.heap.size + 1, 0, none⟩) (by simp) _).setCell (p := ⟨w.heap.size + 1, 1, none⟩) (by simp) _⟩ ?_
    clear hK K hX z8 z0 z1 zf
    repeat ((first | refine flow_calm (fun K hK => ?_) | refine flow_free (fun K hK => ?_) | refine float_calm (fun K hK => ?_) | refine float_free (fun K hK => ?_)); go_simp; first | (refine hK _ ?_; clear hK K) | (apply Exists.intro; (refine ⟨fun X => ?_, hK _ ?_⟩); (first | (intro hC; rfl) | rfl | (intro hC; skip; go_simp; done) | (intro hC; skip; go_simp; rfl)); clear hK K))
    refine flow_nil ?_
    intro Z hZ
    have y0 := hZ.out.box.cell 0 _ rfl
    have y1 := hZ.out.box.cell 1 _ rfl
    go_wp2
    refine bodyPost_ret (v := .tuple #[.slice A6 n6 c6, .agg #[.bool false, .slice A8 n8 c8], .int .i64 0]) (by simp [results, Try.results21, go_sem, y0, y1]) rfl ?_
    exact ⟨⟨_, _, rfl, Kd.R_lower hZ.out.line hw5, by have hs := hZ.out.spans; rw [Hx0.out] at hs; exact Kd.R_lower hs hw5⟩, hZ.out.below⟩
end Go.Proofs.Ytemkloildadokaa
set_option linter.unusedVariables false
set_option linter.unusedSimpArgs false
/-! A step less, walked. -/
namespace Go.Proofs.Ytemkloildadokaa
open Go.RowKit Go.Shelf Go.Proofs.YtemkloildadokaaW.PrintWords Go.Instr
theorem deleteE_ways (l : List PStep) (t : Int) :
    (lineB l = false ∧ deleteE l t = noRes 2) ∨ (lineB l = true ∧ hasE l t = false ∧ deleteE l t = noRes 5) ∨
    ∃ s, l[placeE t l]? = some s ∧ ((lineB l = true ∧ hasE l t = true ∧ lineB (withoutE l (placeE t l)) = false ∧ deleteE l t = noRes 7) ∨
    (lineB l = true ∧ hasE l t = true ∧ lineB (withoutE l (placeE t l)) = true ∧ (s.do_ == 2) = true ∧ deleteE l t = ⟨withoutE l (placeE t l), true, walkedE (withoutE l (placeE t l)) l t ((takenE l t).getD ⟨0, 0⟩), 0⟩) ∨
    (lineB l = true ∧ hasE l t = true ∧ lineB (withoutE l (placeE t l)) = true ∧ (s.do_ == 2) = false ∧ deleteE l t = ⟨withoutE l (placeE t l), false, walkedE l (withoutE l (placeE t l)) t ⟨s.key, t⟩, 0⟩)) := by
  unfold deleteE
  cases h1 : lineB l with
  | false => left; simp
  | true =>
    right
    cases h2 : hasE l t with
    | false => left; simp
    | true =>
      right
      have hs : ∃ s, l[placeE t l]? = some s := by
        unfold hasE at h2
        cases hg : l[placeE t l]? with
        | none => rw [hg] at h2; cases h2
        | some s => exact ⟨s, rfl⟩
      obtain ⟨s, hs⟩ := hs
      refine ⟨s, hs, ?_⟩
      cases h3 : lineB (withoutE l (placeE t l)) with
      | false => left; simp
      | true =>
        right
        by_cases h4 : s.do_ = 2
        · left; simp [hs, h4]
        · right; simp [hs, h4]
set_option maxRecDepth 100000 in
set_option maxHeartbeats 16000000 in
theorem p_Delete (A : Option Addr) (c : Nat) (l : List PStep) (t : Int) (w : World) (hrow : PStepRow w A l.length l) :
    Calls Try.prog 25 #[.slice A l.length c, .int .i64 t] w (ChgPost w (deleteE l t)) := by
  have K2 := Lib.hid (Cells.new w #[.bool false, .slice none 0 0] 39)
  have HB := Lib.hid (below_alloc (Below.refl w.heap.size w) (.cells #[.bool false, .slice none 0 0] 39))
  have HR := Lib.hid (Kd.C_below hrow HB.out)
  clear hrow
  rcases deleteE_ways l t with ⟨h1, hr⟩ | ⟨h1, h3, hr⟩ | ⟨s, hs, ⟨h1, h3, h5, hr⟩ | ⟨h1, h3, h5, h6, hr⟩ | ⟨h1, h3, h5, h6, hr⟩⟩
  all_goals
    rw [hr]
    clear hr
    have HL1 := Lib.hid h1
    have HI2 := Lib.hid (p_isLine A c l (w.alloc (.cells #[.bool false, .slice none 0 0] 39)) HR.out)
    clear h1
    go_enter Try.func25, Try.ntmps25
    go_upto_region 1 with fail
    generalize w.alloc (.cells #[.bool false, .slice none 0 0] 39) = w2 at K2 HB HR HI2 ⊢
  · go_wp2_with (first
      | (go_at_call 63; (with_reducible refine HI2.out.mono ?_); rintro e w3 ⟨rfl, hb3⟩; simp only [HL1.out]; have z3 := K2.out.later hb3; have z0 := z3.cell 0 _ rfl; have z1 := z3.cell 1 _ rfl; have zf := z3.frozen; have Hb3 := Lib.hid hb3; clear hb3)
      | (go_at_call 72; (with_reducible refine (p_place A c l t w3 (Kd.C_below HR.out Hb3.out) HInc.out HLe.out).mono ?_); rintro e w5 ⟨rfl, hb5⟩; simp only [HL3.out]; have z5 := z3.later hb5; have z0 := z5.cell 0 _ rfl; have z1 := z5.cell 1 _ rfl; have zf := z5.frozen; have Hb5 := Lib.hid hb5; clear hb5))
    have y2 := (z3.setAt 0 (.bool false)).setAt 1 (.slice none 0 0)
    have y0 := y2.cell 0 _ rfl
    have y1 := y2.cell 1 _ rfl
    refine bodyPost_ret (v := .tuple #[.slice none 0 0, .agg #[.bool false, .slice none 0 0], .int .i64 2]) (by simp [results, Try.results25, go_sem, y0, y1]) rfl ?_
    exact ⟨⟨_, _, rfl, Kd.R_nil _ _ _ _ _, Kd.R_nil _ _ _ _ _⟩, ((below_step HB.out Hb3.out).setCell (p := ⟨w.heap.size, 0, none⟩) (by simp) _).setCell (p := ⟨w.heap.size, 1, none⟩) (by simp) _⟩
  · obtain ⟨hss, hrn⟩ := isLine_parts HL1.out
    have HInc := Lib.hid (GoesE.steps hss).inc
    have HLe := Lib.hid (steps60 hss)
    have HSs := Lib.hid hss
    have hl60 := steps60 hss
    clear hss hrn
    have HL3 := Lib.hid h3
    clear h3
    go_wp2_with (first
      | (go_at_call 63; (with_reducible refine HI2.out.mono ?_); rintro e w3 ⟨rfl, hb3⟩; simp only [HL1.out]; have z3 := K2.out.later hb3; have z0 := z3.cell 0 _ rfl; have z1 := z3.cell 1 _ rfl; have zf := z3.frozen; have Hb3 := Lib.hid hb3; clear hb3)
      | (go_at_call 72; (with_reducible refine (p_place A c l t w3 (Kd.C_below HR.out Hb3.out) HInc.out HLe.out).mono ?_); rintro e w5 ⟨rfl, hb5⟩; simp only [HL3.out]; have z5 := z3.later hb5; have z0 := z5.cell 0 _ rfl; have z1 := z5.cell 1 _ rfl; have zf := z5.frozen; have Hb5 := Lib.hid hb5; clear hb5))
    have y2 := (z5.setAt 0 (.bool false)).setAt 1 (.slice none 0 0)
    have y0 := y2.cell 0 _ rfl
    have y1 := y2.cell 1 _ rfl
    refine bodyPost_ret (v := .tuple #[.slice none 0 0, .agg #[.bool false, .slice none 0 0], .int .i64 5]) (by simp [results, Try.results25, go_sem, y0, y1]) rfl ?_
    exact ⟨⟨_, _, rfl, Kd.R_nil _ _ _ _ _, Kd.R_nil _ _ _ _ _⟩, ((below_step (below_step HB.out Hb3.out) Hb5.out).setCell (p := ⟨w.heap.size, 0, none⟩) (by simp) _).setCell (p := ⟨w.heap.size, 1, none⟩) (by simp) _⟩
  · obtain ⟨hss, hrn⟩ := isLine_parts HL1.out
    have HInc := Lib.hid (GoesE.steps hss).inc
    have HLe := Lib.hid (steps60 hss)
    have HSs := Lib.hid hss
    have hl60 := steps60 hss
    clear hss hrn
    have HL3 := Lib.hid h3
    clear h3
    have hlt : placeE t l < l.length := (List.getElem?_eq_some_iff.1 hs).1
    have hlt' : (placeE t l : Int) < (l.length : Int) := by omega
    have hwr : IntKind.i64.wrap ((placeE t l : Int) + 1) = (placeE t l : Int) + 1 := by rw [IntWalk.i64_in _ (by omega)]
    have Hs := Lib.hid hs
    clear hs
    obtain ⟨p, hp⟩ : ∃ p, p = placeE t l := ⟨_, rfl⟩
    rw [← hp] at Hs hlt hlt' hwr h5
    try rw [← hp]
    have Hp := Lib.hid hp
    have hcl : l.length ≤ 1000 := by omega
    go_upto_region 6 with (first
      | (go_at_call 63; (with_reducible refine HI2.out.mono ?_); rintro e w3 ⟨rfl, hb3⟩; simp only [HL1.out]; have z3 := K2.out.later hb3; have z0 := z3.cell 0 _ rfl; have z1 := z3.cell 1 _ rfl; have zf := z3.frozen; have Hb3 := Lib.hid hb3; clear hb3)
      | (go_at_call 72; (with_reducible refine (p_place A c l t w3 (Kd.C_below HR.out Hb3.out) HInc.out HLe.out).mono ?_); rintro e w5 ⟨rfl, hb5⟩; simp only [HL3.out]; have z5 := z3.later hb5; have z0 := z5.cell 0 _ rfl; have z1 := z5.cell 1 _ rfl; have zf := z5.frozen; have Hb5 := Lib.hid hb5; clear hb5))
    simp only [← Hp.out]
    have HB5 := Lib.hid (below_step (below_step HB.out Hb3.out) Hb5.out)
    have HR5 := Lib.hid (Kd.C_below HR.out (below_step Hb3.out Hb5.out))
    have HZ5 := Lib.hid z5
    clear hp z3 z5 z0 z1 zf
    obtain ⟨s', ad, -, -, hget, rfl, e0, e1, e2⟩ := pstep_at HR5.out p hlt
    obtain rfl : s' = s := Option.some.inj (hget.symm.trans Hs.out)
    clear hget
    go_upto_region 7 with fail
    have HQ6 := Lib.hid (Cells.new w5 #[.int .i64 s'.at_, .int .i64 s'.do_, .int .i64 s'.key] 36)
    have hb6 := below_alloc (Below.refl w5.heap.size w5) (.cells #[.int .i64 s'.at_, .int .i64 s'.do_, .int .i64 s'.key] 36)
    have HB6 := Lib.hid (below_step HB5.out hb6)
    have HR6 := Lib.hid (Kd.C_below HR5.out hb6)
    have HZ6 := Lib.hid (HZ5.out.later hb6)
    clear hb6 e0 e1 e2 HR5 HZ5
    generalize w5.alloc (.cells #[.int .i64 s'.at_, .int .i64 s'.do_, .int .i64 s'.key] 36) = w6 at HQ6 HB6 HR6 HZ6 ⊢
    generalize w5.heap.size = gs at HQ6 ⊢
    have hz6 : w.heap.size < w6.heap.size := HZ6.out.lt
    have hw6 := HB6.out.size
    go_upto_region 8 with (first
      | (go_at_call 74; (with_reducible refine (fresh_steps (some ad) c l w6 HR6.out hcl).mono ?_); rintro e w7 ⟨v7, rfl, ho7, hb7⟩; have Ho7 := Lib.hid ho7; have Hb7 := Lib.hid hb7; clear ho7 hb7)
      | (go_at_call 35; (with_reducible refine (lib_Delete w6.heap.size p v7 l w7 Ho7.out hlt HLe.out Hb7.out.size).mono ?_); rintro e w8 ⟨v8, rfl, ho8, hb8⟩; have HO8 := Lib.hid ho8; have Hb8 := Lib.hid (Hb7.out.trans hb8); clear ho8 hb8))
    have HB8 := Lib.hid (below_step HB6.out Hb8.out)
    have HR8 := Lib.hid (Kd.C_below HR6.out Hb8.out)
    have HZ8 := Lib.hid (HZ6.out.later Hb8.out)
    have HQ8 := Lib.hid (HQ6.out.later Hb8.out)
    have Hw8 := Lib.hid Hb8.out.size
    obtain ⟨A8, c8, rfl, hc8, hr8⟩ := own_reads' HO8.out
    have HR88 := Lib.hid hr8
    have HL5 := Lib.hid h5
    clear hr8 h5 hwr hlt' Ho7 Hb7 Hb8 HB6 HR6 HZ6 HQ6
    have s0 := HQ8.out.cell 0 _ rfl
    have s1 := HQ8.out.cell 1 _ rfl
    have s2 := HQ8.out.cell 2 _ rfl
    have z0 := HZ8.out.cell 0 _ rfl
    have z1 := HZ8.out.cell 1 _ rfl
    have zf := HZ8.out.frozen
    obtain ⟨n8, hn8⟩ : ∃ n, n = (withoutE l p).length := ⟨_, rfl⟩
    rw [← hn8] at HO8 hc8 HR88 ⊢
    have Hn8 := Lib.hid hn8
    clear hn8
    go_wp2_with (first
      | (go_at_call 63; (with_reducible refine (isLine_at A8 n8 c8 (withoutE l p) w8 Hn8.out HR88.out).mono ?_); rintro e w9 ⟨rfl, hb9⟩; simp only [HL5.out]; have q9 := HQ8.out.later hb9; have s0 := q9.cell 0 _ rfl; have s1 := q9.cell 1 _ rfl; have s2 := q9.cell 2 _ rfl; have z9 := HZ8.out.later hb9; have z0 := z9.cell 0 _ rfl; have z1 := z9.cell 1 _ rfl; have zf := z9.frozen; have Hb9 := Lib.hid hb9; clear hb9))
    have y2 := (z9.setAt 0 (.bool false)).setAt 1 (.slice none 0 0)
    have y0 := y2.cell 0 _ rfl
    have y1 := y2.cell 1 _ rfl
    refine bodyPost_ret (v := .tuple #[.slice none 0 0, .agg #[.bool false, .slice none 0 0], .int .i64 7]) (by simp [results, Try.results25, go_sem, y0, y1]) rfl ?_
    exact ⟨⟨_, _, rfl, Kd.R_nil _ _ _ _ _, Kd.R_nil _ _ _ _ _⟩, ((below_step HB8.out Hb9.out).setCell (p := ⟨w.heap.size, 0, none⟩) (by simp) _).setCell (p := ⟨w.heap.size, 1, none⟩) (by simp) _⟩
  · obtain ⟨hss, hrn⟩ := isLine_parts HL1.out
    have HInc := Lib.hid (GoesE.steps hss).inc
    have HLe := Lib.hid (steps60 hss)
    have HSs := Lib.hid hss
    have hl60 := steps60 hss
    clear hss hrn
    have HL3 := Lib.hid h3
    clear h3
    have hlt : placeE t l < l.length := (List.getElem?_eq_some_iff.1 hs).1
    have hlt' : (placeE t l : Int) < (l.length : Int) := by omega
    have hwr : IntKind.i64.wrap ((placeE t l : Int) + 1) = (placeE t l : Int) + 1 := by rw [IntWalk.i64_in _ (by omega)]
    have Hs := Lib.hid hs
    clear hs
    obtain ⟨p, hp⟩ : ∃ p, p = placeE t l := ⟨_, rfl⟩
    rw [← hp] at Hs hlt hlt' hwr h5
    try rw [← hp]
    have Hp := Lib.hid hp
    have hcl : l.length ≤ 1000 := by omega
    go_upto_region 6 with (first
      | (go_at_call 63; (with_reducible refine HI2.out.mono ?_); rintro e w3 ⟨rfl, hb3⟩; simp only [HL1.out]; have z3 := K2.out.later hb3; have z0 := z3.cell 0 _ rfl; have z1 := z3.cell 1 _ rfl; have zf := z3.frozen; have Hb3 := Lib.hid hb3; clear hb3)
      | (go_at_call 72; (with_reducible refine (p_place A c l t w3 (Kd.C_below HR.out Hb3.out) HInc.out HLe.out).mono ?_); rintro e w5 ⟨rfl, hb5⟩; simp only [HL3.out]; have z5 := z3.later hb5; have z0 := z5.cell 0 _ rfl; have z1 := z5.cell 1 _ rfl; have zf := z5.frozen; have Hb5 := Lib.hid hb5; clear hb5))
    simp only [← Hp.out]
    have HB5 := Lib.hid (below_step (below_step HB.out Hb3.out) Hb5.out)
    have HR5 := Lib.hid (Kd.C_below HR.out (below_step Hb3.out Hb5.out))
    have HZ5 := Lib.hid z5
    clear hp z3 z5 z0 z1 zf
    obtain ⟨s', ad, -, -, hget, rfl, e0, e1, e2⟩ := pstep_at HR5.out p hlt
    obtain rfl : s' = s := Option.some.inj (hget.symm.trans Hs.out)
    clear hget
    go_upto_region 7 with fail
    have HQ6 := Lib.hid (Cells.new w5 #[.int .i64 s'.at_, .int .i64 s'.do_, .int .i64 s'.key] 36)
    have hb6 := below_alloc (Below.refl w5.heap.size w5) (.cells #[.int .i64 s'.at_, .int .i64 s'.do_, .int .i64 s'.key] 36)
    have HB6 := Lib.hid (below_step HB5.out hb6)
    have HR6 := Lib.hid (Kd.C_below HR5.out hb6)
    have HZ6 := Lib.hid (HZ5.out.later hb6)
    clear hb6 e0 e1 e2 HR5 HZ5
    generalize w5.alloc (.cells #[.int .i64 s'.at_, .int .i64 s'.do_, .int .i64 s'.key] 36) = w6 at HQ6 HB6 HR6 HZ6 ⊢
    generalize w5.heap.size = gs at HQ6 ⊢
    have hz6 : w.heap.size < w6.heap.size := HZ6.out.lt
    have hw6 := HB6.out.size
    go_upto_region 8 with (first
      | (go_at_call 74; (with_reducible refine (fresh_steps (some ad) c l w6 HR6.out hcl).mono ?_); rintro e w7 ⟨v7, rfl, ho7, hb7⟩; have Ho7 := Lib.hid ho7; have Hb7 := Lib.hid hb7; clear ho7 hb7)
      | (go_at_call 35; (with_reducible refine (lib_Delete w6.heap.size p v7 l w7 Ho7.out hlt HLe.out Hb7.out.size).mono ?_); rintro e w8 ⟨v8, rfl, ho8, hb8⟩; have HO8 := Lib.hid ho8; have Hb8 := Lib.hid (Hb7.out.trans hb8); clear ho8 hb8))
    have HB8 := Lib.hid (below_step HB6.out Hb8.out)
    have HR8 := Lib.hid (Kd.C_below HR6.out Hb8.out)
    have HZ8 := Lib.hid (HZ6.out.later Hb8.out)
    have HQ8 := Lib.hid (HQ6.out.later Hb8.out)
    have Hw8 := Lib.hid Hb8.out.size
    obtain ⟨A8, c8, rfl, hc8, hr8⟩ := own_reads' HO8.out
    have HR88 := Lib.hid hr8
    have HL5 := Lib.hid h5
    clear hr8 h5 hwr hlt' Ho7 Hb7 Hb8 HB6 HR6 HZ6 HQ6
    have s0 := HQ8.out.cell 0 _ rfl
    have s1 := HQ8.out.cell 1 _ rfl
    have s2 := HQ8.out.cell 2 _ rfl
    have z0 := HZ8.out.cell 0 _ rfl
    have z1 := HZ8.out.cell 1 _ rfl
    have zf := HZ8.out.frozen
    obtain ⟨n8, hn8⟩ : ∃ n, n = (withoutE l p).length := ⟨_, rfl⟩
    rw [← hn8] at HO8 hc8 HR88 ⊢
    have Hn8 := Lib.hid hn8
    clear hn8
    have HS8 := Lib.hid (isLine_parts HL5.out).1
    have Hd := Lib.hid h6
    have HIl := Lib.hid (GoesE.steps HSs.out).inc
    obtain ⟨x0, hx0⟩ : ∃ x, x = (takenE l t).getD ⟨0, 0⟩ := ⟨_, rfl⟩
    rw [← hx0]
    have Hx0 := Lib.hid hx0
    clear hx0
    go_wp2_with (first
      | (go_at_call 63; (with_reducible refine (isLine_at A8 n8 c8 (withoutE l p) w8 Hn8.out HR88.out).mono ?_); rintro e w9 ⟨rfl, hb9⟩; simp only [HL5.out]; have q9 := HQ8.out.later hb9; have s0 := q9.cell 0 _ rfl; have s1 := q9.cell 1 _ rfl; have s2 := q9.cell 2 _ rfl; have z9 := HZ8.out.later hb9; have z0 := z9.cell 0 _ rfl; have z1 := z9.cell 1 _ rfl; have zf := z9.frozen; have Hb9 := Lib.hid hb9; clear hb9)
      | (go_at_call 76; (with_reducible refine (p_taken (some ad) c l w9 (Kd.C_below HR8.out Hb9.out) HSs.out).mono ?_); rintro e w11 ⟨b11, rfl, hb11, ht11, hbl11⟩; have hlk := (show TakenAt w11 b11 l from ht11).look1 HIl.out t; rw [← Hx0.out] at hlk; simp only [elemVal] at hlk; have z11 := z9.later hbl11; have z0 := z11.cell 0 _ rfl; have z1 := z11.cell 1 _ rfl; have zf := z11.frozen; have Hb11 := Lib.hid hbl11; clear hbl11 hb11 ht11)
      | (go_at_call 75; (with_reducible refine (walked_at A8 (some ad) n8 l.length c8 c (withoutE l p) l t x0 w11 Hn8.out rfl (Kd.C_below (Kd.C_below HR88.out Hb9.out) Hb11.out) (Kd.C_below (Kd.C_below HR8.out Hb9.out) Hb11.out) HS8.out HSs.out).mono ?_); rintro e w12 ⟨v12, rfl, ho12, hb12⟩; obtain ⟨A12, n12, c12, rfl⟩ := R_slice' ho12; have z12 := z11.later hb12; have z0 := z12.cell 0 _ rfl; have z1 := z12.cell 1 _ rfl; have zf := z12.frozen; have HZ12 := Lib.hid z12; have HO12 := Lib.hid (Kd.R_below (Kd.R_below (Kd.R_below HO8.out Hb9.out) Hb11.out) hb12); have HB12 := Lib.hid (below_step (below_step (below_step HB8.out Hb9.out) Hb11.out) hb12); have HSp := Lib.hid (Kd.R_lower ho12 (show w6.heap.size ≤ w11.heap.size from Nat.le_trans Hw8.out (Nat.le_trans Hb9.out.size Hb11.out.size))); clear hb12 ho12))
    have ho13 := HO12.out
    have hs13 := HSp.out
    rw [Hp.out] at ho13 hs13
    rw [Hx0.out] at hs13
    have y2 := (HZ12.out.setAt 0 (.bool true)).setAt 1 (.slice A12 n12 c12)
    have y0 := y2.cell 0 _ rfl
    have y1 := y2.cell 1 _ rfl
    refine bodyPost_ret (v := .tuple #[.slice A8 n8 c8, .agg #[.bool true, .slice A12 n12 c12], .int .i64 0]) (by simp [results, Try.results25, go_sem, y0, y1]) rfl ?_
    exact ⟨⟨_, _, rfl, Kd.R_lower (R_set_low (R_set_low ho13 (p := ⟨w.heap.size, 0, none⟩) hz6 _) (p := ⟨w.heap.size, 1, none⟩) hz6 _) hw6, (Kd.R_lower (R_set_low (R_set_low hs13 (p := ⟨w.heap.size, 0, none⟩) hz6 _) (p := ⟨w.heap.size, 1, none⟩) hz6 _) hw6)⟩, (HB12.out.setCell (p := ⟨w.heap.size, 0, none⟩) (by simp) _).setCell (p := ⟨w.heap.size, 1, none⟩) (by simp) _⟩
  · obtain ⟨hss, hrn⟩ := isLine_parts HL1.out
    have HInc := Lib.hid (GoesE.steps hss).inc
    have HLe := Lib.hid (steps60 hss)
    have HSs := Lib.hid hss
    have hl60 := steps60 hss
    clear hss hrn
    have HL3 := Lib.hid h3
    clear h3
    have hlt : placeE t l < l.length := (List.getElem?_eq_some_iff.1 hs).1
    have hlt' : (placeE t l : Int) < (l.length : Int) := by omega
    have hwr : IntKind.i64.wrap ((placeE t l : Int) + 1) = (placeE t l : Int) + 1 := by rw [IntWalk.i64_in _ (by omega)]
    have Hs := Lib.hid hs
    clear hs
    obtain ⟨p, hp⟩ : ∃ p, p = placeE t l := ⟨_, rfl⟩
    rw [← hp] at Hs hlt hlt' hwr h5
    try rw [← hp]
    have Hp := Lib.hid hp
    have hcl : l.length ≤ 1000 := by omega
    go_upto_region 6 with (first
      | (go_at_call 63; (with_reducible refine HI2.out.mono ?_); rintro e w3 ⟨rfl, hb3⟩; simp only [HL1.out]; have z3 := K2.out.later hb3; have z0 := z3.cell 0 _ rfl; have z1 := z3.cell 1 _ rfl; have zf := z3.frozen; have Hb3 := Lib.hid hb3; clear hb3)
      | (go_at_call 72; (with_reducible refine (p_place A c l t w3 (Kd.C_below HR.out Hb3.out) HInc.out HLe.out).mono ?_); rintro e w5 ⟨rfl, hb5⟩; simp only [HL3.out]; have z5 := z3.later hb5; have z0 := z5.cell 0 _ rfl; have z1 := z5.cell 1 _ rfl; have zf := z5.frozen; have Hb5 := Lib.hid hb5; clear hb5))
    simp only [← Hp.out]
    have HB5 := Lib.hid (below_step (below_step HB.out Hb3.out) Hb5.out)
    have HR5 := Lib.hid (Kd.C_below HR.out (below_step Hb3.out Hb5.out))
    have HZ5 := Lib.hid z5
    clear hp z3 z5 z0 z1 zf
    obtain ⟨s', ad, -, -, hget, rfl, e0, e1, e2⟩ := pstep_at HR5.out p hlt
    obtain rfl : s' = s := Option.some.inj (hget.symm.trans Hs.out)
    clear hget
    go_upto_region 7 with fail
    have HQ6 := Lib.hid (Cells.new w5 #[.int .i64 s'.at_, .int .i64 s'.do_, .int .i64 s'.key] 36)
    have hb6 := below_alloc (Below.refl w5.heap.size w5) (.cells #[.int .i64 s'.at_, .int .i64 s'.do_, .int .i64 s'.key] 36)
    have HB6 := Lib.hid (below_step HB5.out hb6)
    have HR6 := Lib.hid (Kd.C_below HR5.out hb6)
    have HZ6 := Lib.hid (HZ5.out.later hb6)
    clear hb6 e0 e1 e2 HR5 HZ5
    generalize w5.alloc (.cells #[.int .i64 s'.at_, .int .i64 s'.do_, .int .i64 s'.key] 36) = w6 at HQ6 HB6 HR6 HZ6 ⊢
    generalize w5.heap.size = gs at HQ6 ⊢
    have hz6 : w.heap.size < w6.heap.size := HZ6.out.lt
    have hw6 := HB6.out.size
    go_upto_region 8 with (first
      | (go_at_call 74; (with_reducible refine (fresh_steps (some ad) c l w6 HR6.out hcl).mono ?_); rintro e w7 ⟨v7, rfl, ho7, hb7⟩; have Ho7 := Lib.hid ho7; have Hb7 := Lib.hid hb7; clear ho7 hb7)
      | (go_at_call 35; (with_reducible refine (lib_Delete w6.heap.size p v7 l w7 Ho7.out hlt HLe.out Hb7.out.size).mono ?_); rintro e w8 ⟨v8, rfl, ho8, hb8⟩; have HO8 := Lib.hid ho8; have Hb8 := Lib.hid (Hb7.out.trans hb8); clear ho8 hb8))
    have HB8 := Lib.hid (below_step HB6.out Hb8.out)
    have HR8 := Lib.hid (Kd.C_below HR6.out Hb8.out)
    have HZ8 := Lib.hid (HZ6.out.later Hb8.out)
    have HQ8 := Lib.hid (HQ6.out.later Hb8.out)
    have Hw8 := Lib.hid Hb8.out.size
    obtain ⟨A8, c8, rfl, hc8, hr8⟩ := own_reads' HO8.out
    have HR88 := Lib.hid hr8
    have HL5 := Lib.hid h5
    clear hr8 h5 hwr hlt' Ho7 Hb7 Hb8 HB6 HR6 HZ6 HQ6
    have s0 := HQ8.out.cell 0 _ rfl
    have s1 := HQ8.out.cell 1 _ rfl
    have s2 := HQ8.out.cell 2 _ rfl
    have z0 := HZ8.out.cell 0 _ rfl
    have z1 := HZ8.out.cell 1 _ rfl
    have zf := HZ8.out.frozen
    obtain ⟨n8, hn8⟩ : ∃ n, n = (withoutE l p).length := ⟨_, rfl⟩
    rw [← hn8] at HO8 hc8 HR88 ⊢
    have Hn8 := Lib.hid hn8
    clear hn8
    have HS8 := Lib.hid (isLine_parts HL5.out).1
    have Hd := Lib.hid h6
    go_wp2_with (first
      | (go_at_call 63; (with_reducible refine (isLine_at A8 n8 c8 (withoutE l p) w8 Hn8.out HR88.out).mono ?_); rintro e w9 ⟨rfl, hb9⟩; simp only [HL5.out]; have q9 := HQ8.out.later hb9; have s0 := q9.cell 0 _ rfl; have s1 := q9.cell 1 _ rfl; have s2 := q9.cell 2 _ rfl; have z9 := HZ8.out.later hb9; have z0 := z9.cell 0 _ rfl; have z1 := z9.cell 1 _ rfl; have zf := z9.frozen; have Hb9 := Lib.hid hb9; clear hb9)
      | (go_at_call 75; (with_reducible refine (walked_at (some ad) A8 l.length n8 c c8 l (withoutE l p) t ⟨s'.key, t⟩ w9 rfl Hn8.out (Kd.C_below HR8.out Hb9.out) (Kd.C_below HR88.out Hb9.out) HSs.out HS8.out).mono ?_); rintro e w12 ⟨v12, rfl, ho12, hb12⟩; obtain ⟨A12, n12, c12, rfl⟩ := R_slice' ho12; have z12 := z9.later hb12; have z0 := z12.cell 0 _ rfl; have z1 := z12.cell 1 _ rfl; have zf := z12.frozen; have HZ12 := Lib.hid z12; have HO12 := Lib.hid (Kd.R_below (Kd.R_below HO8.out Hb9.out) hb12); have HB12 := Lib.hid (below_step (below_step HB8.out Hb9.out) hb12); have HSp := Lib.hid (Kd.R_lower ho12 (show w6.heap.size ≤ w9.heap.size from Nat.le_trans Hw8.out Hb9.out.size)); clear hb12 ho12))
    have ho13 := HO12.out
    have hs13 := HSp.out
    rw [Hp.out] at ho13 hs13
    have y2 := (HZ12.out.setAt 0 (.bool false)).setAt 1 (.slice A12 n12 c12)
    have y0 := y2.cell 0 _ rfl
    have y1 := y2.cell 1 _ rfl
    refine bodyPost_ret (v := .tuple #[.slice A8 n8 c8, .agg #[.bool false, .slice A12 n12 c12], .int .i64 0]) (by simp [results, Try.results25, go_sem, y0, y1]) rfl ?_
    exact ⟨⟨_, _, rfl, Kd.R_lower (R_set_low (R_set_low ho13 (p := ⟨w.heap.size, 0, none⟩) hz6 _) (p := ⟨w.heap.size, 1, none⟩) hz6 _) hw6, (Kd.R_lower (R_set_low (R_set_low hs13 (p := ⟨w.heap.size, 0, none⟩) hz6 _) (p := ⟨w.heap.size, 1, none⟩) hz6 _) hw6)⟩, (HB12.out.setCell (p := ⟨w.heap.size, 0, none⟩) (by simp) _).setCell (p := ⟨w.heap.size, 1, none⟩) (by simp) _⟩
end Go.Proofs.Ytemkloildadokaa
set_option linter.unusedVariables false
set_option linter.unusedSimpArgs false
/-! Bridges, walked. -/
namespace Go.Proofs.Ytemkloildadokaa
open Go.RowKit Go.Shelf Go.Proofs.YtemkloildadokaaW.PrintWords Go.Instr
theorem keyElem : KeyT Try.prog 58 elemVal := by
  refine keyT_struct (fs := Try.prog.fieldsOf 58) (by kernel_rfl) (fun k => ⟨_, rfl⟩) (fun em k w => by kernel_rfl) (fun a b w => ?_) (fun k => by simp [elemVal, Instr.sameBits])
  have h := eqPElem 9998 w a.key b.key a.from_ b.from_
  exact h
def setE (q : List PElem) : List (PElem × Value) := q.foldl (fun m x => aput x (.bool true) m) []
theorem setE_snoc (q : List PElem) (x : PElem) : setE (q ++ [x]) = aput x (.bool true) (setE q) := by unfold setE; rw [List.foldl_append]; rfl
theorem setE_get : ∀ (q : List PElem) (m : List (PElem × Value)) (x : PElem), aget x (q.foldl (fun m x => aput x (.bool true) m) m) = if q.contains x = true then some (.bool true) else aget x m
  | [], m, x => by simp
  | y :: q, m, x => by
    rw [List.foldl_cons, setE_get q _ x, aget_aput]
    by_cases h : x = y
    · subst h; simp
    · have h1 : (x == y) = false := by simpa using h
      rw [if_neg h, List.contains_cons, h1, Bool.false_or]
theorem setE_has (q : List PElem) (x : PElem) : aget x (setE q) = if q.contains x = true then some (.bool true) else none := setE_get q [] x
theorem zero_bool (w : World) : (zeroValue 4).run Try.prog w = .ok (.bool false) w := by kernel_rfl
/-- A set of elements in a box. -/
structure SetAt (w : World) (bx bm : Nat) (q : List PElem) : Prop where
  box : Cells w bx #[.map (some bm)] 97
  map : w.heap[bm]? = some (mapObj elemVal (setE q))
theorem SetAt.later {w w' : World} {bx bm : Nat} {q : List PElem} (h : SetAt w bx bm q) (hb : Below w.heap.size w w') : SetAt w' bx bm q := ⟨h.box.later hb, heap_later hb h.map⟩
theorem SetAt.grown {w w' : World} {bx bm : Nat} {q : List PElem} (h : SetAt w bx bm q) {row : Option Nat} (hg : w.grownBy w' row) (hr : ∀ g, row = some g → ∃ cells t, w.heap[g]? = some (.cells cells t (0, 0)) ∧ t ≠ 97) : SetAt w' bx bm q := by
  refine ⟨(hg.block bx h.box.lt fun e => ?_).trans h.box, (hg.block bm (Array.getElem?_eq_some_iff.1 h.map).1 fun e => ?_).trans h.map⟩
  · obtain ⟨cells, t, h1, h2⟩ := hr bx e.symm
    exact h2 (cells_ty (show Cells w bx cells t from h1) h.box)
  · obtain ⟨cells, t, h1, h2⟩ := hr bm e.symm
    rw [h.map] at h1; cases h1
set_option maxRecDepth 100000 in
set_option maxHeartbeats 4000000 in
theorem bridges1 (x : PElem) (bx bm : Nat) (q : List PElem) (w : World) (hs : SetAt w bx bm q) :
    Calls Try.prog 68 #[.agg #[.int .i64 x.key, .int .i64 x.from_], .pointer (some ⟨bx, 0, none⟩)] w fun e w' => e = .returned (.bool (!(q.contains x))) ∧ Below w.heap.size w w' := by
  have HX := Lib.hid (Cells.new w #[.int .i64 x.key, .int .i64 x.from_] 58)
  have hb := below_alloc (Below.refl w.heap.size w) (.cells #[.int .i64 x.key, .int .i64 x.from_] 58)
  have HB := Lib.hid hb
  have HS := Lib.hid (hs.later hb)
  clear hb hs
  obtain ⟨b, hbq⟩ : ∃ b, b = q.contains x := ⟨_, rfl⟩
  rw [← hbq]
  have Hbq := Lib.hid hbq
  clear hbq
  go_enter Try.func68, Try.ntmps68
  go_upto_region 1 with fail
  generalize w.alloc (.cells #[.int .i64 x.key, .int .i64 x.from_] 58) = w1 at HX HB HS ⊢
  have x0 := HX.out.cell 0 _ rfl
  have x1 := HX.out.cell 1 _ rfl
  have m0 := HS.out.box.cell 0 _ rfl
  have hlk : (lookup 97 (.map (some bm)) (.agg #[.int .i64 x.key, .int .i64 x.from_]) false).run Try.prog w1 = .ok (.bool b) w1 := by
    have h := run_lookup_map (P := Try.prog) keyElem Try.underlying97 zero_bool (setE q) bm x false w1 HS.out.map
    rw [setE_has, ← Hbq.out] at h
    rw [show (.agg #[.int .i64 x.key, .int .i64 x.from_] : Value) = elemVal x from rfl, h]
    cases b <;> rfl
  go_wp2
  go_ret
  exact ⟨rfl, HB.out⟩
set_option maxRecDepth 100000 in
set_option maxHeartbeats 4000000 in
theorem index_func (A : Option Addr) (c : Nat) (l : List PElem) (bx bm : Nat) (q : List PElem) (w : World) (hrow : ElemRow w A l.length l) (hs : SetAt w bx bm q) :
    Calls Try.prog 93 #[.slice A l.length c, .func (.func 68) #[] #[.pointer (some ⟨bx, 0, none⟩)]] w fun e w' => (∃ i : Int, e = .returned (.int .i64 i) ∧ decide (0 ≤ i) = !(l.all fun x => q.contains x)) ∧ Below w.heap.size w w' := by
  have hm : l.length ≤ 9223372036854775807 := hrow.2.1
  have HR := Lib.hid hrow
  have HS := Lib.hid hs
  clear hrow hs
  go_enter Try.func93, Try.ntmps93
  go_wp2
  go_loopw [8] (fun i wr => ∃ k : Nat, k ≤ l.length ∧ i = .int .i64 k ∧ Below w.heap.size w wr ∧ Hid ((l.take k).all (fun x => q.contains x) = true)) (fun i _ => l.length - (intOf i).toNat)
  case atStart => exact ⟨0, Nat.zero_le _, rfl, Below.refl _ _, Lib.hid (by simp)⟩
  case round =>
    obtain ⟨k, hk, rfl, hB, hA⟩ := hrel
    have HB := Lib.hid hB
    clear hB
    by_cases hlt : k < l.length
    · obtain ⟨x, ad, hd, htk, hget, rfl, e0, e1⟩ := pelem_at (Kd.C_below HR.out HB.out) k hlt
      have Htk := Lib.hid htk
      have Hget := Lib.hid hget
      clear hd htk hget
      cases hc : q.contains x with
      | true =>
        have Hc := Lib.hid hc
        clear hc
        go_wp2_with (first
          | (go_at_call 68; (with_reducible refine (bridges1 x bx bm q wr (HS.out.later HB.out)).mono ?_); rintro e w2 ⟨rfl, hb2⟩; simp only [Hc.out, Bool.not_true]))
        exact ⟨⟨k + 1, by omega, by go_num, below_step HB.out hb2, Lib.hid (by rw [Htk.out, List.all_append, hA.out]; simpa using Hc.out)⟩, by simp [intOf]; omega⟩
      | false =>
        have Hc := Lib.hid hc
        clear hc
        go_wp2_with (first
          | (go_at_call 68; (with_reducible refine (bridges1 x bx bm q wr (HS.out.later HB.out)).mono ?_); rintro e w2 ⟨rfl, hb2⟩; simp only [Hc.out, Bool.not_false]))
        go_ret
        refine ⟨⟨(k : Int), rfl, ?_⟩, below_step HB.out hb2⟩
        have : (l.all fun x => q.contains x) = false := by
          rw [List.all_eq_false]
          exact ⟨x, List.mem_of_getElem? Hget.out, by rw [Hc.out]; simp⟩
        rw [this]; simp
    · have hkl : k = l.length := by omega
      have Hall := Lib.hid (show (l.all fun x => q.contains x) = true by have := hA.out; rwa [hkl, List.take_length] at this)
      clear hkl hA
      go_wp2
      go_ret
      exact ⟨⟨-1, rfl, by rw [Hall.out]; rfl⟩, HB.out⟩
set_option maxRecDepth 100000 in
theorem contains_func (A : Option Addr) (c : Nat) (l : List PElem) (bx bm : Nat) (q : List PElem) (w : World) (hrow : ElemRow w A l.length l) (hs : SetAt w bx bm q) :
    Calls Try.prog 67 #[.slice A l.length c, .func (.func 68) #[] #[.pointer (some ⟨bx, 0, none⟩)]] w fun e w' => e = .returned (.bool (!(l.all fun x => q.contains x))) ∧ Below w.heap.size w w' := by
  have HR := Lib.hid hrow
  have HS := Lib.hid hs
  clear hrow hs
  go_enter Try.func67, Try.ntmps67
  go_wp2_with (first
    | (go_at_call 93; (with_reducible refine (index_func A c l bx bm q w HR.out HS.out).mono ?_); rintro e w2 ⟨⟨i, rfl, hi⟩, hb2⟩; have Hi := Lib.hid hi; clear hi))
  go_ret
  exact ⟨by rw [← Hi.out]; rfl, hb2⟩
end Go.Proofs.Ytemkloildadokaa
set_option linter.unusedVariables false
set_option linter.unusedSimpArgs false
/-! Bridges, walked. -/
namespace Go.Proofs.Ytemkloildadokaa
open Go.RowKit Go.Shelf Go.Proofs.YtemkloildadokaaW.PrintWords Go.Instr
def bridgesTo (l : List PStep) (k : Nat) : List Int := ((List.range k).filter (bridgeB l)).map fun (n : Nat) => (n : Int)
theorem bridgesTo_succ (l : List PStep) (k : Nat) : bridgesTo l (k + 1) = if bridgeB l k = true then bridgesTo l k ++ [(k : Int)] else bridgesTo l k := by
  unfold bridgesTo
  rw [List.range_succ, List.filter_append, List.map_append]
  split
  · rename_i h; simp [h]
  · rename_i h; simp [h]
theorem bridgesTo_len (l : List PStep) (k : Nat) : (bridgesTo l k).length ≤ k := by
  unfold bridgesTo
  rw [List.length_map]
  exact Nat.le_trans (List.length_filter_le _ _) (by simp)
theorem ThereE_len {l : List PStep} : ∀ (q q' : List PElem), runE q l = some q' → q'.length ≤ q.length + l.length := by
  induction l with
  | nil => intro q q' h; cases h; simp
  | cons s l ih =>
    intro q q' h
    rw [runE] at h
    cases hn : nextE q s with
    | none => rw [hn] at h; cases h
    | some p =>
      obtain ⟨q1, x⟩ := p
      rw [hn] at h
      have := ih q1 q' h
      have := nextE_length hn
      simp only [List.length_cons]; omega
structure BrI (h0 bx bm : Nat) (l : List PStep) (k : Nat) (vo : Value) (w0 wr : World) : Prop where
  set : SetAt wr bx bm (thereE l l.length)
  out : Own (Kd.int .i64) 3 wr h0 vo (bridgesTo l k)
  below : Below w0.heap.size w0 wr
set_option maxRecDepth 100000 in
set_option maxHeartbeats 16000000 in
theorem p_Bridges (A : Option Addr) (c : Nat) (l : List PStep) (w : World) (hrow : PStepRow w A l.length l) (hc : l.length ≤ c) :
    Calls Try.prog 16 #[.slice A l.length c] w fun e w' => (∃ v, e = .returned (.tuple #[v, .int .i64 (if lineB l = true then 0 else 2)]) ∧ Own (Kd.int .i64) 3 w' w.heap.size v (if lineB l = true then bridgesE l else [])) ∧ Below w.heap.size w w' := by
  have HR := Lib.hid hrow
  cases hst : lineB l with
  | false =>
    have HL := Lib.hid hst
    clear hst hrow
    go_enter Try.func16, Try.ntmps16
    go_wp2_with (first
      | (go_at_call 63; (with_reducible refine (p_isLine A c l w HR.out).mono ?_); rintro e w2 ⟨rfl, hb⟩; simp only [HL.out]))
    refine bodyPost_ret (v := .tuple #[.slice none 0 0, .int .i64 2]) (by simp [results, Try.results16, go_sem]) rfl ?_
    exact ⟨⟨_, rfl, Kd.R_nil _ _ _ _ _⟩, hb⟩
  | true =>
    have HL := Lib.hid hst
    obtain ⟨hss, hrn⟩ := isLine_parts hst
    have hl60 := steps60 hss
    have HSt := Lib.hid hss
    have HRun := Lib.hid hrn
    clear hst hrow hss hrn
    have hmm : ∀ w : World, (Instr.makeMap 97 none).run Try.prog w = .ok (.map (some w.heap.size)) (w.alloc (.map #[] 0)) := fun w => by kernel_rfl
    go_enter Try.func16, Try.ntmps16
    go_upto_region 4 with (first
      | (go_at_call 63; (with_reducible refine (p_isLine A c l w HR.out).mono ?_); rintro e w2 ⟨rfl, hb⟩; simp only [HL.out]))
    have HBx := Lib.hid (show Cells ((w2.alloc (.map #[] 0)).alloc (.cells #[.map (some w2.heap.size)] 97)) (w2.heap.size + 1) #[.map (some w2.heap.size)] 97 by have := Cells.new (w2.alloc (.map #[] 0)) #[.map (some w2.heap.size)] 97; rwa [World.size_alloc] at this)
    have HMp := Lib.hid (show ((w2.alloc (.map #[] 0)).alloc (.cells #[.map (some w2.heap.size)] 97)).heap[w2.heap.size]? = some (mapObj elemVal (setE [])) from (Below.heap_alloc _ _ _ (by simp)).trans (World.alloc_heap_new w2 _))
    have HB3 := Lib.hid (below_step hb (below_alloc (below_alloc (Below.refl w2.heap.size w2) (.map #[] 0)) (.cells #[.map (some w2.heap.size)] 97)))
    have hw2' := hb.size
    clear hmm hb
    generalize (w2.alloc (.map #[] 0)).alloc (.cells #[.map (some w2.heap.size)] 97) = w3 at HBx HMp HB3 ⊢
    generalize w2.heap.size = bm at HBx HMp hw2' ⊢
    obtain ⟨qe, hqe⟩ : ∃ q, q = thereE l l.length := ⟨_, rfl⟩
    have Hqe := Lib.hid hqe
    clear hqe
    have hbm : bm + 1 < w3.heap.size := HBx.out.lt
    go_wp2_with (first
      | (go_at_call 66; (with_reducible refine (p_behind A c l.length l w3 (Kd.C_below HR.out HB3.out) hc HSt.out HRun.out (Nat.le_refl _)).mono ?_); rintro e w4 ⟨v4, rfl, ho4, hb4⟩; rw [← Hqe.out] at ho4; obtain ⟨A4, c4, rfl, hc4, hr4⟩ := own_reads' ho4; have hq140 : qe.length ≤ 9223372036854775807 := hr4.2.1; have HB4 := Lib.hid hb4; have HO4 := Lib.hid ho4; clear hb4 ho4 hr4))
    go_loopw [18] (fun i wr => ∃ k : Nat, k ≤ qe.length ∧ i = .int .i64 k ∧ SetAt wr (bm + 1) bm (qe.take k) ∧ Own kPElem 58 wr w3.heap.size (.slice A4 qe.length c4) qe ∧ Below w.heap.size w wr) (fun i _ => qe.length - (intOf i).toNat)
    case atStart => exact ⟨0, Nat.zero_le _, rfl, ⟨HBx.out.later HB4.out, heap_later HB4.out HMp.out⟩, HO4.out, below_step HB3.out HB4.out⟩
    case round =>
      obtain ⟨k, hk, rfl, hS, hO, hB⟩ := hrel
      have HS := Lib.hid hS
      have HO := Lib.hid hO
      have HB := Lib.hid hB
      clear hS hO hB
      by_cases hlt : k < qe.length
      · obtain ⟨A4', c4', he, -, hr⟩ := own_reads' HO.out
        injection he with e1 e2 e3
        subst e1 e3
        obtain ⟨x, ad, hd, htk, hget, rfl, e0, e1⟩ := pelem_at hr k hlt
        have Htk := Lib.hid htk
        clear hd htk hget hr
        go_upto_region 7 with fail
        have HX := Lib.hid (Cells.new wr #[.int .i64 x.key, .int .i64 x.from_] 58)
        have hb5 := below_alloc (Below.refl wr.heap.size wr) (.cells #[.int .i64 x.key, .int .i64 x.from_] 58)
        have HS5 := Lib.hid (HS.out.later hb5)
        have HO5 := Lib.hid (Kd.R_below HO.out hb5)
        have HB5 := Lib.hid (below_step HB.out hb5)
        clear hb5 e0 e1
        generalize wr.alloc (.cells #[.int .i64 x.key, .int .i64 x.from_] 58) = w5 at HX HS5 HO5 HB5 ⊢
        have x0 := HX.out.cell 0 _ rfl
        have x1 := HX.out.cell 1 _ rfl
        have m0 := HS5.out.box.cell 0 _ rfl
        have hst : (mapUpdate 97 (.map (some bm)) (.agg #[.int .i64 x.key, .int .i64 x.from_]) (.bool true)).run Try.prog w5 = .ok () (putMap w5 bm (mapObj elemVal (aput x (.bool true) (setE (qe.take k))))) := run_store_is keyElem Try.underlying97 HS5.out.map
        go_wp2
        refine ⟨⟨k + 1, by omega, by go_num, ⟨(putMap_ne w5 (by omega) _).trans HS5.out.box, ?_⟩, own_step flat_pelem HO5.out (fun g hg => putMap_ne w5 (by have := (own_ty HO5.out hg).1; omega) _), below_putMap' HB5.out hw2' _⟩, by simp [intOf]; omega⟩
        rw [Htk.out, setE_snoc]
        exact putMap_at HS5.out.map _
      · have hkl : k = qe.length := by omega
        have HS6 := Lib.hid (show SetAt wr (bm + 1) bm qe by have := HS.out; rwa [hkl, List.take_length] at this)
        clear hkl hk HS HO
        have hwl : IntKind.i64.wrap ((l.length : Int) + 1) = (l.length : Int) + 1 := by rw [IntWalk.i64_in _ (by omega)]
        go_wp2
        go_loopw [28, 7] (fun i vo wq => ∃ j : Nat, j ≤ l.length + 1 ∧ i = .int .i64 j ∧ SetAt wq (bm + 1) bm qe ∧ Own (Kd.int .i64) 3 wq w.heap.size vo (bridgesTo l j) ∧ Below w.heap.size w wq) (fun i _ _ => l.length + 1 - (intOf i).toNat)
        case atStart => exact ⟨0, Nat.zero_le _, rfl, HS6.out, Kd.R_nil _ _ _ _ _, HB.out⟩
        case round =>
          obtain ⟨j, hj, rfl, hS, hO, hBq⟩ := hrel
          have HSq := Lib.hid hS
          have HOq := Lib.hid hO
          have HBq := Lib.hid hBq
          clear hS hO hBq
          by_cases hlt : j < l.length + 1
          · have hlt' : (j : Int) < (l.length : Int) + 1 := by omega
            have hsu := bridgesTo_succ l j
            cases hbr : bridgeB l j with
            | false =>
              rw [hbr] at hsu
              have Hsu := Lib.hid hsu
              have Hbr := Lib.hid (show ((thereE l j).all fun x => qe.contains x) = false by rw [Hqe.out]; exact hbr)
              clear hsu hbr
              go_wp2_with (first
                | (go_at_call 66; (with_reducible refine (p_behind A c j l wr (Kd.C_below HR.out HBq.out) hc HSt.out HRun.out (by omega)).mono ?_); rintro e w7 ⟨v7, rfl, ho7, hb7⟩; obtain ⟨A7, c7, rfl, hc7, hr7⟩ := own_reads' ho7; have HB7 := Lib.hid hb7; have HR7 := Lib.hid hr7; clear hb7 ho7 hr7)
                | (go_at_call 67; (with_reducible refine (contains_func A7 c7 (thereE l j) (bm + 1) bm qe w7 HR7.out (HSq.out.later HB7.out)).mono ?_); rintro e w8 ⟨rfl, hb8⟩; simp only [Hbr.out, Bool.not_false]; have HB8 := Lib.hid (HB7.out.trans (hb8.mono HB7.out.size)); clear hb8))
              exact ⟨⟨j + 1, by omega, by go_num, HSq.out.later HB8.out, by rw [Hsu.out]; exact Kd.R_below HOq.out HB8.out, below_step HBq.out HB8.out⟩, by simp [intOf]; omega⟩
            | true =>
              rw [hbr] at hsu
              have Hsu := Lib.hid hsu
              have Hbr := Lib.hid (show ((thereE l j).all fun x => qe.contains x) = true by rw [Hqe.out]; exact hbr)
              have hbl := bridgesTo_len l j
              have Hbl := Lib.hid hbl
              clear hsu hbr hbl
              go_wp2_with (first
                | (go_at_call 66; (with_reducible refine (p_behind A c j l wr (Kd.C_below HR.out HBq.out) hc HSt.out HRun.out (by omega)).mono ?_); rintro e w7 ⟨v7, rfl, ho7, hb7⟩; obtain ⟨A7, c7, rfl, hc7, hr7⟩ := own_reads' ho7; have HB7 := Lib.hid hb7; have HR7 := Lib.hid hr7; clear hb7 ho7 hr7)
                | (go_at_call 67; (with_reducible refine (contains_func A7 c7 (thereE l j) (bm + 1) bm qe w7 HR7.out (HSq.out.later HB7.out)).mono ?_); rintro e w8 ⟨rfl, hb8⟩; simp only [Hbr.out, Bool.not_true]; have HB8 := Lib.hid (HB7.out.trans (hb8.mono HB7.out.size)); have HO8 := Lib.hid (Kd.R_below HOq.out HB8.out); have HS8 := Lib.hid (HSq.out.later HB8.out); clear hb8)
                | (at_builtin; refine Kd.R_append (Kd.int .i64) (w0 := w8) w.heap.size rfl (.tmp 37) (.tmp 39) 27 3 (.int .i64 0) 8 rfl Try.underlying27 info_int rfl (by decide) (by omega) _ (bridgesTo l j) (j : Int) [.int .i64 (j : Int)] (fun _ => True) (fun _ => False) rfl rfl rfl (fun _ hk => hk.elim) (fun _ _ => trivial) HO8.out (Below.refl _ _) (below_step HBq.out HB8.out).size (by have := Hbl.out; omega) ?_; intro v9 w9 r1 r2 r3 r4; have HS9 := Lib.hid (HS8.out.grown r3 (fun g hg => by obtain ⟨cs, t, h1, rfl⟩ := own_row_ty HO8.out g hg; exact ⟨cs, _, h1, by decide⟩)); have HR9 := Lib.hid r1; have HB9 := Lib.hid r2; clear r1 r2 r3 r4))
              exact ⟨⟨j + 1, by omega, by go_num, HS9.out, by rw [Hsu.out]; exact HR9.out, (below_step HBq.out HB8.out).trans HB9.out⟩, by simp [intOf]; omega⟩
          · have hjl : j = l.length + 1 := by omega
            have hlt' : ¬ (j : Int) < (l.length : Int) + 1 := by omega
            have HF := Lib.hid (show Own (Kd.int .i64) 3 wr w.heap.size u7 (bridgesE l) by have := HOq.out; rw [hjl] at this; exact this)
            clear hjl
            go_wp2
            refine bodyPost_ret (v := .tuple #[u7, .int .i64 0]) (by simp [results, Try.results16, go_sem]) rfl ?_
            exact ⟨⟨_, rfl, HF.out⟩, HBq.out⟩
end Go.Proofs.Ytemkloildadokaa
set_option linter.unusedVariables false
set_option linter.unusedSimpArgs false
/-! The chapter's examples: what they are made of. -/
namespace Go.Proofs.Ytemkloildadokaa
open Go.RowKit Go.Shelf Go.Proofs.YtemkloildadokaaW.PrintWords
set_option maxRecDepth 100000 in
theorem law_In (a k : Int) (w : World) : Calls Try.prog 70 #[.int .i64 a, .int .i64 k] w fun e w' => e = .returned (.agg #[.int .i64 a, .int .i64 1, .int .i64 k]) ∧ Below w.heap.size w w' := by
  have HC := Lib.hid (Cells.new w #[.int .i64 0, .int .i64 0, .int .i64 0] 36)
  have HB := Lib.hid (below_alloc (Below.refl w.heap.size w) (.cells #[.int .i64 0, .int .i64 0, .int .i64 0] 36))
  go_enter Try.func70, Try.ntmps70
  go_upto_region 1 with fail
  generalize w.alloc (.cells #[.int .i64 0, .int .i64 0, .int .i64 0] 36) = w1 at HC HB ⊢
  have c0 := HC.out.cell 0 _ rfl
  have c1 := HC.out.cell 1 _ rfl
  have c2 := HC.out.cell 2 _ rfl
  have cf := HC.out.frozen
  go_wp2
  have y3 := ((HC.out.setAt 0 (.int .i64 a)).setAt 1 (.int .i64 1)).setAt 2 (.int .i64 k)
  have y0 := y3.cell 0 _ rfl
  have y1 := y3.cell 1 _ rfl
  have y2 := y3.cell 2 _ rfl
  refine bodyPost_ret (v := .agg #[.int .i64 a, .int .i64 1, .int .i64 k]) (by simp [results, Try.results70, go_sem, y0, y1, y2]) rfl ?_
  exact ⟨rfl, ((HB.out.setCell (p := ⟨w.heap.size, 0, none⟩) (by simp) _).setCell (p := ⟨w.heap.size, 1, none⟩) (by simp) _).setCell (p := ⟨w.heap.size, 2, none⟩) (by simp) _⟩
set_option maxRecDepth 100000 in
theorem law_Out (a : Int) (w : World) : Calls Try.prog 40 #[.int .i64 a] w fun e w' => e = .returned (.agg #[.int .i64 a, .int .i64 2, .int .i64 0]) ∧ Below w.heap.size w w' := by
  have HC := Lib.hid (Cells.new w #[.int .i64 0, .int .i64 0, .int .i64 0] 36)
  have HB := Lib.hid (below_alloc (Below.refl w.heap.size w) (.cells #[.int .i64 0, .int .i64 0, .int .i64 0] 36))
  go_enter Try.func40, Try.ntmps40
  go_upto_region 1 with fail
  generalize w.alloc (.cells #[.int .i64 0, .int .i64 0, .int .i64 0] 36) = w1 at HC HB ⊢
  have c0 := HC.out.cell 0 _ rfl
  have c1 := HC.out.cell 1 _ rfl
  have c2 := HC.out.cell 2 _ rfl
  have cf := HC.out.frozen
  go_wp2
  have y3 := ((HC.out.setAt 0 (.int .i64 a)).setAt 1 (.int .i64 2)).setAt 2 (.int .i64 0)
  have y0 := y3.cell 0 _ rfl
  have y1 := y3.cell 1 _ rfl
  have y2 := y3.cell 2 _ rfl
  refine bodyPost_ret (v := .agg #[.int .i64 a, .int .i64 2, .int .i64 0]) (by simp [results, Try.results40, go_sem, y0, y1, y2]) rfl ?_
  exact ⟨rfl, ((HB.out.setCell (p := ⟨w.heap.size, 0, none⟩) (by simp) _).setCell (p := ⟨w.heap.size, 1, none⟩) (by simp) _).setCell (p := ⟨w.heap.size, 2, none⟩) (by simp) _⟩
set_option maxRecDepth 100000 in
theorem law_elem (k f : Int) (w : World) : Calls Try.prog 42 #[.int .i64 k, .int .i64 f] w fun e w' => e = .returned (.agg #[.int .i64 k, .int .i64 f]) ∧ Below w.heap.size w w' := by
  have HC := Lib.hid (Cells.new w #[.int .i64 0, .int .i64 0] 58)
  have HB := Lib.hid (below_alloc (Below.refl w.heap.size w) (.cells #[.int .i64 0, .int .i64 0] 58))
  go_enter Try.func42, Try.ntmps42
  go_upto_region 1 with fail
  generalize w.alloc (.cells #[.int .i64 0, .int .i64 0] 58) = w1 at HC HB ⊢
  have c0 := HC.out.cell 0 _ rfl
  have c1 := HC.out.cell 1 _ rfl
  have cf := HC.out.frozen
  go_wp2
  have y3 := (HC.out.setAt 0 (.int .i64 k)).setAt 1 (.int .i64 f)
  have y0 := y3.cell 0 _ rfl
  have y1 := y3.cell 1 _ rfl
  refine bodyPost_ret (v := .agg #[.int .i64 k, .int .i64 f]) (by simp [results, Try.results42, go_sem, y0, y1]) rfl ?_
  exact ⟨rfl, (HB.out.setCell (p := ⟨w.heap.size, 0, none⟩) (by simp) _).setCell (p := ⟨w.heap.size, 1, none⟩) (by simp) _⟩
def exL : List PStep := [⟨1, 1, 5⟩, ⟨2, 1, 3⟩, ⟨4, 2, 0⟩, ⟨6, 1, 2⟩, ⟨8, 2, 0⟩]
theorem own_lits {α : Type} (d : Kd α) (f : α → List Value) (hf : ∀ x, (f x).length = d.sz) (hmk : ∀ w base ok x, d.M w base ok x (f x)) (e : Nat) (W : World) (base : Nat) (hb : base ≤ W.heap.size) (l : List α) (hl : l.length ≤ 1000) (cs : Array Value) (hcs : cs = (l.flatMap f).toArray) (n : Nat) (hn : n = l.length) :
    Own d e (W.alloc (.cells cs e)) base (.slice (some ⟨W.heap.size, 0, none⟩) n n) l := by
  subst hcs hn
  refine raw_own f hf hmk rfl hb (World.alloc_heap_new W _) (Nat.le_refl _) (by unfold maxLen; omega) (by rw [List.size_toArray]; exact len_flat d.sz f hf l) ?_
  rw [← len_flat d.sz f hf l]
  show List.take (l.flatMap f).length (l.flatMap f) = _
  rw [List.take_length]
set_option maxRecDepth 100000 in
theorem law_Line (w : World) : Calls Try.prog 39 #[] w fun e w' => ∃ B, e = .returned (.slice (some ⟨B, 0, none⟩) 5 5) ∧ Own kPStep 36 w' w.heap.size (.slice (some ⟨B, 0, none⟩) 5 5) exL ∧ Below w.heap.size w w' := by
  have HB := Lib.hid (Below.refl w.heap.size w)
  go_enter Try.func39, Try.ntmps39
  go_wp2_with (first
    | (go_at_call 70; (with_reducible refine (law_In _ _ _).mono ?_); rintro e w' ⟨rfl, hb⟩; have HB := Lib.hid (below_step HB.out hb); clear hb)
    | (go_at_call 40; (with_reducible refine (law_Out _ _).mono ?_); rintro e w' ⟨rfl, hb⟩; have HB := Lib.hid (below_step HB.out hb); clear hb))
  go_ret
  exact ⟨_, rfl, own_lits kPStep pstepCells (fun _ => rfl) (fun _ _ _ x => kPStep_mkM _ _ _ x) _ _ _ HB.out.size exL (by decide) _ rfl 5 rfl, below_step HB.out (below_alloc (Below.refl _ _) _)⟩
def walkL (f : Int) (x : PElem) (th : Int) (y : PElem) : List PSpan := if th = 0 then [⟨f, 1000, x⟩] else [⟨f, th - 1, x⟩, ⟨th, 1000, y⟩]
def WalkPost (w : World) (more : Bool) (l : List PSpan) (e : Ending) (w' : World) : Prop := (∃ vs, e = .returned (.agg #[.bool more, vs]) ∧ Own kPSpan 60 w' w.heap.size vs l) ∧ Below w.heap.size w w'
set_option maxRecDepth 100000 in
set_option maxHeartbeats 2000000 in
theorem law_walk (more : Bool) (f : Int) (x : PElem) (th : Int) (y : PElem) (w : World) (h0 : 0 ≤ th) (h1 : th ≤ 1000) : Calls Try.prog 43 #[.bool more, .int .i64 f, .agg #[.int .i64 x.key, .int .i64 x.from_], .int .i64 th, .agg #[.int .i64 y.key, .int .i64 y.from_]] w (WalkPost w more (walkL f x th y)) := by
  obtain ⟨k1, k2, k3, hb⟩ := three_new w #[.int .i64 x.key, .int .i64 x.from_] #[.int .i64 y.key, .int .i64 y.from_] #[.bool false, .slice none 0 0] 58 58 39
  have K1 := Lib.hid k1
  have K2 := Lib.hid k2
  have K3 := Lib.hid k3
  have HB := Lib.hid hb
  clear k1 k2 k3 hb
  have hwr : IntKind.i64.wrap (th - 1) = th - 1 := by rw [IntWalk.i64_in _ (by omega)]
  have hways : ((th == 0) = true ∧ walkL f x th y = [⟨f, 1000, x⟩]) ∨ ((th == 0) = false ∧ walkL f x th y = [⟨f, th - 1, x⟩, ⟨th, 1000, y⟩]) := by
    unfold walkL
    by_cases h : th = 0
    · left; simp [h]
    · right; simp [h]
  clear h0 h1
  rcases hways with ⟨hz, hr⟩ | ⟨hz, hr⟩
  all_goals
    rw [hr]
    clear hr
    go_enter Try.func43, Try.ntmps43
    go_upto_region 1 with fail
    generalize (((w.alloc (.cells #[.int .i64 x.key, .int .i64 x.from_] 58)).alloc (.cells #[.int .i64 y.key, .int .i64 y.from_] 58)).alloc (.cells #[.bool false, .slice none 0 0] 39)) = w3 at K1 K2 K3 HB ⊢
    have x0 := K1.out.cell 0 _ rfl
    have x1 := K1.out.cell 1 _ rfl
    have y0 := K2.out.cell 0 _ rfl
    have y1 := K2.out.cell 1 _ rfl
    have z0 := K3.out.cell 0 _ rfl
    have z1 := K3.out.cell 1 _ rfl
    have zf := K3.out.frozen
    have hzl := K3.out.lt
    have hw3 := HB.out.size
  · go_wp2
    have k4 := (K3.out.setAt 0 (.bool more)).setAt 1 (.slice (some ⟨w3.heap.size, 0, none⟩) 1 1)
    have hb4 := ((HB.out.setCell (p := ⟨w.heap.size + 1 + 1, 0, none⟩) (by simp; omega) (.bool more)).setCell (p := ⟨w.heap.size + 1 + 1, 1, none⟩) (by simp; omega) (.slice (some ⟨w3.heap.size, 0, none⟩) 1 1))
    have hsz : ((w3.setCell ⟨w.heap.size + 1 + 1, 0, none⟩ (.bool more)).setCell ⟨w.heap.size + 1 + 1, 1, none⟩ (.slice (some ⟨w3.heap.size, 0, none⟩) 1 1)).heap.size = w3.heap.size := by simp
    generalize (w3.setCell ⟨w.heap.size + 1 + 1, 0, none⟩ (.bool more)).setCell ⟨w.heap.size + 1 + 1, 1, none⟩ (.slice (some ⟨w3.heap.size, 0, none⟩) 1 1) = w4 at k4 hb4 hsz ⊢
    have ho := own_lits kPSpan pspanCells (fun _ => rfl) (fun _ _ _ x => kPSpan_mkM _ _ _ x) 60 w4 w.heap.size hb4.size [(⟨f, 1000, x⟩ : PSpan)] (by simp) _ rfl 1 rfl
    rw [hsz] at ho
    have hb5 := below_alloc (Below.refl w4.heap.size w4) (.cells ([(⟨f, 1000, x⟩ : PSpan)].flatMap pspanCells).toArray 60)
    have hb6 := below_step hb4 hb5
    have y2 := k4.later hb5
    have hW : w4.alloc (.cells ([(⟨f, 1000, x⟩ : PSpan)].flatMap pspanCells).toArray 60) = w4.alloc (.cells #[.int .i64 f, .int .i64 1000, .int .i64 x.key, .int .i64 x.from_] 60) := rfl
    rw [hW] at ho hb6 y2
    have y0' := y2.cell 0 _ rfl
    have y1' := y2.cell 1 _ rfl
    refine bodyPost_ret (v := .agg #[.bool more, .slice (some ⟨w3.heap.size, 0, none⟩) 1 1]) (by simp only [results, Try.results43]; generalize w4.alloc (.cells #[.int .i64 f, .int .i64 1000, .int .i64 x.key, .int .i64 x.from_] 60) = w5 at y0' y1' ⊢; simp [go_sem, y0', y1']) rfl ?_
    exact ⟨⟨_, rfl, ho⟩, hb6⟩
  · go_wp2
    have k4 := (K3.out.setAt 0 (.bool more)).setAt 1 (.slice (some ⟨w3.heap.size, 0, none⟩) 2 2)
    have hb4 := ((HB.out.setCell (p := ⟨w.heap.size + 1 + 1, 0, none⟩) (by simp; omega) (.bool more)).setCell (p := ⟨w.heap.size + 1 + 1, 1, none⟩) (by simp; omega) (.slice (some ⟨w3.heap.size, 0, none⟩) 2 2))
    have hsz : ((w3.setCell ⟨w.heap.size + 1 + 1, 0, none⟩ (.bool more)).setCell ⟨w.heap.size + 1 + 1, 1, none⟩ (.slice (some ⟨w3.heap.size, 0, none⟩) 2 2)).heap.size = w3.heap.size := by simp
    generalize (w3.setCell ⟨w.heap.size + 1 + 1, 0, none⟩ (.bool more)).setCell ⟨w.heap.size + 1 + 1, 1, none⟩ (.slice (some ⟨w3.heap.size, 0, none⟩) 2 2) = w4 at k4 hb4 hsz ⊢
    have ho := own_lits kPSpan pspanCells (fun _ => rfl) (fun _ _ _ x => kPSpan_mkM _ _ _ x) 60 w4 w.heap.size hb4.size [(⟨f, th - 1, x⟩ : PSpan), ⟨th, 1000, y⟩] (by simp) _ rfl 2 rfl
    rw [hsz] at ho
    have hb5 := below_alloc (Below.refl w4.heap.size w4) (.cells ([(⟨f, th - 1, x⟩ : PSpan), ⟨th, 1000, y⟩].flatMap pspanCells).toArray 60)
    have hb6 := below_step hb4 hb5
    have y2 := k4.later hb5
    have hW : w4.alloc (.cells ([(⟨f, th - 1, x⟩ : PSpan), ⟨th, 1000, y⟩].flatMap pspanCells).toArray 60) = w4.alloc (.cells #[.int .i64 f, .int .i64 (th - 1), .int .i64 x.key, .int .i64 x.from_, .int .i64 th, .int .i64 1000, .int .i64 y.key, .int .i64 y.from_] 60) := rfl
    rw [hW] at ho hb6 y2
    have y0' := y2.cell 0 _ rfl
    have y1' := y2.cell 1 _ rfl
    refine bodyPost_ret (v := .agg #[.bool more, .slice (some ⟨w3.heap.size, 0, none⟩) 2 2]) (by simp only [results, Try.results43]; generalize w4.alloc (.cells #[.int .i64 f, .int .i64 (th - 1), .int .i64 x.key, .int .i64 x.from_, .int .i64 th, .int .i64 1000, .int .i64 y.key, .int .i64 y.from_] 60) = w5 at y0' y1' ⊢; simp [go_sem, y0', y1']) rfl ?_
    exact ⟨⟨_, rfl, ho⟩, hb6⟩
end Go.Proofs.Ytemkloildadokaa
set_option linter.unusedVariables false
set_option linter.unusedSimpArgs false
/-! Two walks are compared. -/
namespace Go.Proofs.Ytemkloildadokaa
open Go.RowKit Go.Shelf Go.Proofs.YtemkloildadokaaW.PrintWords
set_option maxRecDepth 100000 in
set_option maxHeartbeats 4000000 in
theorem same_walk (a b : Bool) (l m : List PSpan) (A B : Option Addr) (c1 c2 : Nat) (w : World) (hl : SpanRow w A l.length l) (hm : SpanRow w B m.length m) :
    Calls Try.prog 24 #[.agg #[.bool a, .slice A l.length c1], .agg #[.bool b, .slice B m.length c2]] w fun e w' => e = .returned (.bool (decide (a = b) && decide (l = m))) ∧ Below w.heap.size w w' := by
  have hll : l.length ≤ 9223372036854775807 := hl.2.1
  have hmm : m.length ≤ 9223372036854775807 := hm.2.1
  obtain ⟨k1, k2, hb⟩ := two_new w ((w.alloc (.cells #[.bool a, .slice A l.length c1] 39)).alloc (.cells #[.bool b, .slice B m.length c2] 39)) _ _ _ _ (by simpa using Below.refl _ _)
  have K1 := Lib.hid k1
  have K2 := Lib.hid k2
  have HB := Lib.hid hb
  have Hl := Lib.hid (Kd.C_below hl hb)
  have Hm := Lib.hid (Kd.C_below hm hb)
  clear hl hm k1 k2 hb
  obtain ⟨r, hr⟩ : ∃ r, (decide (a = b) && decide (l = m)) = r := ⟨_, rfl⟩
  rw [hr]
  have HRR := Lib.hid hr
  clear hr
  cases hab : (a != b) with
  | true =>
    have Hne := Lib.hid (show ¬ a = b by simpa using hab)
    go_enter Try.func24, Try.ntmps24
    go_upto_region 1 with fail
    generalize ((w.alloc (.cells #[.bool a, .slice A l.length c1] 39)).alloc (.cells #[.bool b, .slice B m.length c2] 39)) = w2 at K1 K2 HB Hl Hm ⊢
    have p0 := K1.out.cell 0 _ rfl
    have q0 := K2.out.cell 0 _ rfl
    go_wp2
    go_ret
    exact ⟨by rw [← HRR.out]; simp [Hne.out], HB.out⟩
  | false =>
    have Heq := Lib.hid (show a = b by simpa using hab)
    have HR := Lib.hid (show decide (l = m) = r by rw [← HRR.out, Heq.out]; simp)
    by_cases hlen : l.length = m.length
    · have Hlen := Lib.hid hlen
      have hlb : ((l.length : Int) != (m.length : Int)) = false := by simp [hlen]
      have hlm : l.length ≤ m.length := by omega
      have hml : m.length ≤ l.length := by omega
      clear hlen
      go_enter Try.func24, Try.ntmps24
      go_upto_region 1 with fail
      generalize ((w.alloc (.cells #[.bool a, .slice A l.length c1] 39)).alloc (.cells #[.bool b, .slice B m.length c2] 39)) = w2 at K1 K2 HB Hl Hm ⊢
      have p0 := K1.out.cell 0 _ rfl
      have q0 := K2.out.cell 0 _ rfl
      have p1 := K1.out.cell 1 _ rfl
      have q1 := K2.out.cell 1 _ rfl
      go_wp2
      clear p0 q0 p1 q1
      go_loopw [23] (fun i wr => ∃ k : Nat, k ≤ l.length ∧ i = .int .i64 k ∧ Below w2.heap.size w2 wr ∧ Hid (l.take k = m.take k)) (fun i _ => l.length - (intOf i).toNat)
      case atStart => exact ⟨0, Nat.zero_le _, rfl, Below.refl _ _, Lib.hid rfl⟩
      case round =>
        obtain ⟨k, hk, rfl, hB, He⟩ := hrel
        have p1 := (K1.out.later hB).cell 1 _ rfl
        have q1 := (K2.out.later hB).cell 1 _ rfl
        by_cases hlt : k < l.length
        · obtain ⟨x, ad, _, htk, hget, rfl, c0, c1, c2, c3⟩ := pspan_at (Kd.C_below Hl.out hB) k hlt
          obtain ⟨y, ad2, _, htk2, hget2, rfl, d0, d1, d2, d3⟩ := pspan_at (Kd.C_below Hm.out hB) k (by omega)
          have hkm : k < m.length := by omega
          have Htk := Lib.hid htk
          have Htk2 := Lib.hid htk2
          have Hg := Lib.hid hget
          have Hg2 := Lib.hid hget2
          clear htk htk2 hget hget2
          cases he : pSpanEq ⟨x.from_, x.to_, ⟨x.elem.key, x.elem.from_⟩⟩ ⟨y.from_, y.to_, ⟨y.elem.key, y.elem.from_⟩⟩
          · have hxy : Hid (x ≠ y) := Lib.hid (of_decide_eq_false (p := x = y) he)
            go_wp2
            go_quiet (fail)
            go_wp2
            go_ret
            refine ⟨?_, below_step HB.out (pw_below_drewN hB _)⟩
            rw [← HR.out]
            have : ¬ l = m := by
              intro e
              have h1 := Hg.out
              rw [e, Hg2.out] at h1
              exact hxy.out (Option.some.inj h1).symm
            simp [this]
          · have hxy : Hid (x = y) := Lib.hid (of_decide_eq_true (p := x = y) he)
            go_wp2
            go_quiet (fail)
            go_wp2
            exact ⟨⟨k + 1, by omega, by go_num, pw_below_drewN hB _, Lib.hid (by rw [Htk.out, Htk2.out, He.out, hxy.out])⟩, by simp [intOf]; omega⟩
        · have hkl : k = l.length := by omega
          have hlm' : l = m := by
            have h := He.out
            rw [hkl, List.take_length, Hlen.out, List.take_length] at h
            exact h
          have Hlm := Lib.hid hlm'
          clear hkl hlm'
          go_wp2
          go_ret
          refine ⟨?_, below_step HB.out hB⟩
          rw [← HR.out]
          simp [Hlm.out]
    · have hlb : ((l.length : Int) != (m.length : Int)) = true := by simp; omega
      have Hlen := Lib.hid hlen
      clear hlen
      go_enter Try.func24, Try.ntmps24
      go_upto_region 1 with fail
      generalize ((w.alloc (.cells #[.bool a, .slice A l.length c1] 39)).alloc (.cells #[.bool b, .slice B m.length c2] 39)) = w2 at K1 K2 HB Hl Hm ⊢
      have p0 := K1.out.cell 0 _ rfl
      have q0 := K2.out.cell 0 _ rfl
      have p1 := K1.out.cell 1 _ rfl
      have q1 := K2.out.cell 1 _ rfl
      go_wp2
      go_ret
      refine ⟨?_, HB.out⟩
      rw [← HR.out]
      have : ¬ l = m := fun e => Hlen.out (by rw [e])
      simp [this]
end Go.Proofs.Ytemkloildadokaa
set_option linter.unusedVariables false
set_option linter.unusedSimpArgs false
/-! The chapter's examples: what the program says of them. -/
namespace Go.Proofs.Ytemkloildadokaa
open Go.RowKit Go.Shelf Go.Proofs.YtemkloildadokaaW.PrintWords
abbrev ExAt (w : World) (B : Nat) : Prop := Kd.C kPStep w (some ⟨B, 0, none⟩) 5 exL
theorem kn_Line (w : World) : Calls Try.prog 39 #[] w fun e w' => ∃ B, e = .returned (.slice (some ⟨B, 0, none⟩) 5 5) ∧ ExAt w' B ∧ Below w.heap.size w w' := by
  refine (law_Line w).mono ?_
  rintro e w' ⟨B, rfl, ho, hb⟩
  obtain ⟨A, c, he, -, hr⟩ := own_reads' ho
  injection he with e1 e2 e3
  subst e1
  exact ⟨B, rfl, hr, hb⟩
theorem kn_At (t : Int) (q : List PElem) (n : Nat) (hn : n = q.length) (hq : atE exL t = q) (B : Nat) (w : World) (ho : ExAt w B) :
    Calls Try.prog 29 #[.slice (some ⟨B, 0, none⟩) 5 5, .int .i64 t] w fun e w' => ∃ A c, e = .returned (.tuple #[.slice A n c, .int .i64 0]) ∧ Kd.C kPElem w' A n q ∧ Below w.heap.size w w' := by
  subst hn hq
  have h := p_At (some ⟨B, 0, none⟩) 5 exL t w ho (Nat.le_refl _)
  have hl : lineB exL = true := by decide +kernel
  rw [hl] at h
  refine h.mono ?_
  rintro e w' ⟨⟨v, rfl, hv⟩, hb⟩
  obtain ⟨A, c, rfl, -, hr⟩ := own_reads' hv
  exact ⟨A, c, rfl, hr, hb⟩
theorem kn_Takes (B : Nat) (w : World) (ho : ExAt w B) :
    Calls Try.prog 14 #[.slice (some ⟨B, 0, none⟩) 5 5] w fun e w' => ∃ A c, e = .returned (.tuple #[.slice A 2 c, .int .i64 0]) ∧ Kd.C kPElem w' A 2 [⟨3, 2⟩, ⟨2, 6⟩] ∧ Below w.heap.size w w' := by
  have h := p_Takes (some ⟨B, 0, none⟩) 5 exL w ho
  have hl : lineB exL = true := by decide +kernel
  have hq : takesE exL = [⟨3, 2⟩, ⟨2, 6⟩] := by decide +kernel
  rw [hl] at h
  simp only [if_true, hq] at h
  refine h.mono ?_
  rintro e w' ⟨⟨v, rfl, hv⟩, hb⟩
  obtain ⟨A, c, rfl, -, hr⟩ := own_reads' hv
  exact ⟨A, c, rfl, hr, hb⟩
theorem kn_Bridges (B : Nat) (w : World) (ho : ExAt w B) :
    Calls Try.prog 16 #[.slice (some ⟨B, 0, none⟩) 5 5] w fun e w' => ∃ A c, e = .returned (.tuple #[.slice A 4 c, .int .i64 0]) ∧ Kd.C (Kd.int .i64) w' A 4 [0, 1, 3, 5] ∧ Below w.heap.size w w' := by
  have h := p_Bridges (some ⟨B, 0, none⟩) 5 exL w ho (Nat.le_refl _)
  have hl : lineB exL = true := by decide +kernel
  have hq : bridgesE exL = [0, 1, 3, 5] := by decide +kernel
  rw [hl] at h
  simp only [if_true, hq] at h
  refine h.mono ?_
  rintro e w' ⟨⟨v, rfl, hv⟩, hb⟩
  obtain ⟨A, c, rfl, -, hr⟩ := own_reads' hv
  exact ⟨A, c, rfl, hr, hb⟩
def ChgAt (w : World) (n m : Nat) (r : PRes) (e : Ending) (w' : World) : Prop := ∃ A c A' c', e = .returned (.tuple #[.slice A n c, .agg #[.bool r.more, .slice A' m c'], .int .i64 r.err]) ∧ Kd.C kPStep w' A n r.line ∧ Kd.C kPSpan w' A' m r.spans ∧ Below w.heap.size w w'
theorem ChgPost.at {w : World} {r : PRes} {e : Ending} {w' : World} (h : ChgPost w r e w') {n m : Nat} (hn : n = r.line.length) (hm : m = r.spans.length) : ChgAt w n m r e w' := by
  subst hn hm
  obtain ⟨⟨vl, vs, rfl, h1, h2⟩, h3⟩ := h
  obtain ⟨A, c, rfl, -, hr⟩ := own_reads' h1
  obtain ⟨A', c', rfl, -, hr'⟩ := own_reads' h2
  exact ⟨A, c, A', c', rfl, hr, hr', h3⟩
theorem kn_Insert (s : PStep) (r : PRes) (n m : Nat) (hr : insertE exL s = r) (hn : n = r.line.length) (hm : m = r.spans.length) (B : Nat) (w : World) (ho : ExAt w B) :
    Calls Try.prog 21 #[.slice (some ⟨B, 0, none⟩) 5 5, .agg #[.int .i64 s.at_, .int .i64 s.do_, .int .i64 s.key]] w (ChgAt w n m r) := by
  subst hr
  exact (p_Insert (some ⟨B, 0, none⟩) 5 exL s w ho).mono fun e w' h => h.at hn hm
theorem kn_Delete (t : Int) (r : PRes) (n m : Nat) (hr : deleteE exL t = r) (hn : n = r.line.length) (hm : m = r.spans.length) (B : Nat) (w : World) (ho : ExAt w B) :
    Calls Try.prog 25 #[.slice (some ⟨B, 0, none⟩) 5 5, .int .i64 t] w (ChgAt w n m r) := by
  subst hr
  exact (p_Delete (some ⟨B, 0, none⟩) 5 exL t w ho).mono fun e w' h => h.at hn hm
theorem kn_elems (q : List PElem) (n : Nat) (hn : n = q.length) (A : Option Addr) (c : Nat) (B c' : Nat) (w : World) (h1 : Kd.C kPElem w A n q) (h2 : Kd.C kPElem w (some ⟨B, 0, none⟩) n q) :
    Calls Try.prog 18 #[.slice A n c, .slice (some ⟨B, 0, none⟩) n c'] w fun e w' => e = .returned (.bool true) ∧ Below w.heap.size w w' := by
  subst hn
  have h := same_elems q q A (some ⟨B, 0, none⟩) c c' w h1 h2
  simpa using h
theorem kn_elemsE (q : List PElem) (n : Nat) (hn : n = q.length) (A : Option Addr) (c : Nat) (B c' : Nat) (w : World) (h1 : Kd.C kPElem w A n q) (h2 : Kd.C kPElem w (some ⟨B, 0, none⟩) n q) :
    Calls Try.prog 41 #[.slice A n c, .slice (some ⟨B, 0, none⟩) n c'] w fun e w' => e = .returned (.bool true) ∧ Below w.heap.size w w' := by
  subst hn
  have h := equal_elems q q A (some ⟨B, 0, none⟩) c c' w h1 h2
  simpa using h
theorem kn_ints (q : List Int) (n : Nat) (hn : n = q.length) (A : Option Addr) (c : Nat) (B c' : Nat) (w : World) (h1 : Kd.C (Kd.int .i64) w A n q) (h2 : Kd.C (Kd.int .i64) w (some ⟨B, 0, none⟩) n q) :
    Calls Try.prog 19 #[.slice A n c, .slice (some ⟨B, 0, none⟩) n c'] w fun e w' => e = .returned (.bool true) ∧ Below w.heap.size w w' := by
  subst hn
  have h := same_ints q q A (some ⟨B, 0, none⟩) c c' w h1 h2
  simpa using h
theorem kn_steps (q : List PStep) (n : Nat) (hn : n = q.length) (A : Option Addr) (c : Nat) (B c' : Nat) (w : World) (h1 : Kd.C kPStep w A n q) (h2 : Kd.C kPStep w (some ⟨B, 0, none⟩) n q) :
    Calls Try.prog 23 #[.slice A n c, .slice (some ⟨B, 0, none⟩) n c'] w fun e w' => e = .returned (.bool true) ∧ Below w.heap.size w w' := by
  subst hn
  have h := same_steps q q A (some ⟨B, 0, none⟩) c c' w h1 h2
  simpa using h
theorem kn_walk (q : List PSpan) (b : Bool) (n : Nat) (hn : n = q.length) (A B : Option Addr) (c c' : Nat) (w : World) (h1 : Kd.C kPSpan w A n q) (h2 : Kd.C kPSpan w B n q) :
    Calls Try.prog 24 #[.agg #[.bool b, .slice A n c], .agg #[.bool b, .slice B n c']] w fun e w' => e = .returned (.bool true) ∧ Below w.heap.size w w' := by
  subst hn
  have h := same_walk b b q q A B c c' w h1 h2
  simpa using h
theorem lit_elems {W : World} {B : Nat} {cs : Array Value} (q : List PElem) (n : Nat) (hn : n = q.length) (hl : n ≤ 1000) (hcs : cs = (q.flatMap pelemCells).toArray) (h : Cells W B cs 58) : Kd.C kPElem W (some ⟨B, 0, none⟩) n q := by
  subst hn; exact rows_lit kPElem pelemCells (fun _ => rfl) (fun w x => kPElem_mk w x) W B q hl cs _ hcs h
theorem lit_steps {W : World} {B : Nat} {cs : Array Value} (q : List PStep) (n : Nat) (hn : n = q.length) (hl : n ≤ 1000) (hcs : cs = (q.flatMap pstepCells).toArray) (h : Cells W B cs 36) : Kd.C kPStep W (some ⟨B, 0, none⟩) n q := by
  subst hn; exact rows_lit kPStep pstepCells (fun _ => rfl) (fun w x => kPStep_mk w x) W B q hl cs _ hcs h
theorem lit_ints {W : World} {B : Nat} {cs : Array Value} (q : List Int) (n : Nat) (hn : n = q.length) (hl : n ≤ 1000) (hcs : cs = (q.flatMap fun x => [Value.int .i64 x]).toArray) (h : Cells W B cs 3) : Kd.C (Kd.int .i64) W (some ⟨B, 0, none⟩) n q := by
  subst hn; exact rows_lit (Kd.int .i64) (fun x => [Value.int .i64 x]) (fun _ => rfl) (fun w x => rfl) W B q hl cs _ hcs h
theorem kn_walkL (more : Bool) (f : Int) (x : PElem) (th : Int) (y : PElem) (q : List PSpan) (n : Nat) (hq : walkL f x th y = q) (hn : n = q.length) (w : World) (h0 : 0 ≤ th) (h1 : th ≤ 1000) : Calls Try.prog 43 #[.bool more, .int .i64 f, .agg #[.int .i64 x.key, .int .i64 x.from_], .int .i64 th, .agg #[.int .i64 y.key, .int .i64 y.from_]] w fun e w' => ∃ A c, e = .returned (.agg #[.bool more, .slice A n c]) ∧ Kd.C kPSpan w' A n q ∧ Below w.heap.size w w' := by
  subst hn hq
  refine (law_walk more f x th y w h0 h1).mono ?_
  rintro e w' ⟨⟨vs, rfl, ho⟩, hb⟩
  obtain ⟨A, c, rfl, -, hr⟩ := own_reads' ho
  exact ⟨A, c, rfl, hr, hb⟩
theorem kn_Mend (A : Option Addr) (c : Nat) (w : World) (h : Kd.C kPStep w A 5 [⟨1, 2, 0⟩, ⟨2, 1, 4⟩, ⟨3, 2, 0⟩, ⟨4, 2, 0⟩, ⟨5, 1, 1⟩]) : Calls Try.prog 27 #[.slice A 5 c] w fun e w' => ∃ A1 c1 A2 c2, e = .returned (.tuple #[.slice A1 3 c1, .slice A2 2 c2, .int .i64 0]) ∧ Kd.C kPStep w' A1 3 [⟨2, 1, 4⟩, ⟨3, 2, 0⟩, ⟨5, 1, 1⟩] ∧ Kd.C (Kd.int .i64) w' A2 2 [1, 4] ∧ Below w.heap.size w w' := by
  have h := p_Mend A c [⟨1, 2, 0⟩, ⟨2, 1, 4⟩, ⟨3, 2, 0⟩, ⟨4, 2, 0⟩, ⟨5, 1, 1⟩] w h
  have hl : stepsB [⟨1, 2, 0⟩, ⟨2, 1, 4⟩, ⟨3, 2, 0⟩, ⟨4, 2, 0⟩, ⟨5, 1, 1⟩] = true := by decide +kernel
  have hq : mendE [] [⟨1, 2, 0⟩, ⟨2, 1, 4⟩, ⟨3, 2, 0⟩, ⟨4, 2, 0⟩, ⟨5, 1, 1⟩] = ([⟨2, 1, 4⟩, ⟨3, 2, 0⟩, ⟨5, 1, 1⟩], [1, 4]) := by decide +kernel
  rw [hl] at h
  simp only [if_true, hq] at h
  refine h.mono ?_
  rintro e w' ⟨⟨vo, vt, rfl, h1, h2⟩, hb⟩
  obtain ⟨A1, c1, rfl, -, hr1⟩ := own_reads' h1
  obtain ⟨A2, c2, rfl, -, hr2⟩ := own_reads' h2
  exact ⟨A1, c1, A2, c2, rfl, hr1, hr2, hb⟩
/-- The changes of the examples. -/
theorem kn_i1 : insertE exL ⟨3, 1, 1⟩ = ⟨[⟨1, 1, 5⟩, ⟨2, 1, 3⟩, ⟨3, 1, 1⟩, ⟨4, 2, 0⟩, ⟨6, 1, 2⟩, ⟨8, 2, 0⟩], true, [⟨3, 3, ⟨1, 3⟩⟩, ⟨4, 1000, ⟨3, 2⟩⟩], 0⟩ := by decide +kernel
theorem kn_i2 : insertE exL ⟨3, 2, 0⟩ = ⟨[⟨1, 1, 5⟩, ⟨2, 1, 3⟩, ⟨3, 2, 0⟩, ⟨4, 2, 0⟩, ⟨6, 1, 2⟩, ⟨8, 2, 0⟩], false, [⟨3, 3, ⟨3, 2⟩⟩, ⟨4, 1000, ⟨5, 1⟩⟩], 0⟩ := by decide +kernel
theorem kn_i3 : insertE exL ⟨0, 2, 0⟩ = noRes 7 := by decide +kernel
theorem kn_i4 : insertE exL ⟨5, 2, 0⟩ = ⟨[⟨1, 1, 5⟩, ⟨2, 1, 3⟩, ⟨4, 2, 0⟩, ⟨5, 2, 0⟩, ⟨6, 1, 2⟩, ⟨8, 2, 0⟩], false, [⟨5, 1000, ⟨5, 1⟩⟩], 0⟩ := by decide +kernel
theorem kn_d1 : deleteE exL 4 = ⟨[⟨1, 1, 5⟩, ⟨2, 1, 3⟩, ⟨6, 1, 2⟩, ⟨8, 2, 0⟩], true, [⟨4, 1000, ⟨3, 2⟩⟩], 0⟩ := by decide +kernel
theorem kn_d2 : deleteE exL 2 = ⟨[⟨1, 1, 5⟩, ⟨4, 2, 0⟩, ⟨6, 1, 2⟩, ⟨8, 2, 0⟩], false, [⟨2, 3, ⟨3, 2⟩⟩, ⟨4, 1000, ⟨5, 1⟩⟩], 0⟩ := by decide +kernel
theorem kn_d3 : deleteE exL 1 = ⟨[⟨2, 1, 3⟩, ⟨4, 2, 0⟩, ⟨6, 1, 2⟩, ⟨8, 2, 0⟩], false, [⟨1, 1000, ⟨5, 1⟩⟩], 0⟩ := by decide +kernel
theorem kn_d4 : deleteE exL 3 = noRes 5 := by decide +kernel
theorem kn_i5 : insertE [⟨1, 1, 5⟩, ⟨2, 1, 3⟩, ⟨3, 2, 0⟩, ⟨4, 2, 0⟩, ⟨6, 1, 2⟩, ⟨8, 2, 0⟩] ⟨7, 2, 0⟩ = noRes 7 := by decide +kernel
theorem kn_a6 : atE exL 6 = [⟨2, 6⟩, ⟨5, 1⟩] := by decide +kernel
theorem kn_a3 : atE exL 3 = [⟨3, 2⟩, ⟨5, 1⟩] := by decide +kernel
theorem kn_a8 : atE exL 8 = [⟨5, 1⟩] := by decide +kernel
theorem kn_elems2 (k0 f0 k1 f1 : Int) (A : Option Addr) (c : Nat) (W : World) (h1 : Kd.C kPElem W A 2 [⟨k0, f0⟩, ⟨k1, f1⟩]) :
    Calls Try.prog 18 #[.slice A 2 c, .slice (some ⟨W.heap.size, 0, none⟩) 2 2] (W.alloc (.cells #[.int .i64 k0, .int .i64 f0, .int .i64 k1, .int .i64 f1] 58)) fun e w' => e = .returned (.bool true) ∧ Below W.heap.size W w' :=
  (kn_elems [⟨k0, f0⟩, ⟨k1, f1⟩] 2 rfl A c _ 2 _ (Kd.C_below h1 (below_alloc (Below.refl _ _) _)) (lit_elems [⟨k0, f0⟩, ⟨k1, f1⟩] 2 rfl (by decide) rfl (Cells.new _ _ _))).mono fun e w' h => ⟨h.1, (below_alloc (Below.refl _ _) _).trans (h.2.mono (by simp))⟩
theorem kn_elemsE2 (k0 f0 k1 f1 : Int) (A : Option Addr) (c : Nat) (W : World) (h1 : Kd.C kPElem W A 2 [⟨k0, f0⟩, ⟨k1, f1⟩]) :
    Calls Try.prog 41 #[.slice A 2 c, .slice (some ⟨W.heap.size, 0, none⟩) 2 2] (W.alloc (.cells #[.int .i64 k0, .int .i64 f0, .int .i64 k1, .int .i64 f1] 58)) fun e w' => e = .returned (.bool true) ∧ Below W.heap.size W w' :=
  (kn_elemsE [⟨k0, f0⟩, ⟨k1, f1⟩] 2 rfl A c _ 2 _ (Kd.C_below h1 (below_alloc (Below.refl _ _) _)) (lit_elems [⟨k0, f0⟩, ⟨k1, f1⟩] 2 rfl (by decide) rfl (Cells.new _ _ _))).mono fun e w' h => ⟨h.1, (below_alloc (Below.refl _ _) _).trans (h.2.mono (by simp))⟩
theorem kn_elemsE1 (k0 f0 : Int) (A : Option Addr) (c : Nat) (W : World) (h1 : Kd.C kPElem W A 1 [⟨k0, f0⟩]) :
    Calls Try.prog 41 #[.slice A 1 c, .slice (some ⟨W.heap.size, 0, none⟩) 1 1] (W.alloc (.cells #[.int .i64 k0, .int .i64 f0] 58)) fun e w' => e = .returned (.bool true) ∧ Below W.heap.size W w' :=
  (kn_elemsE [⟨k0, f0⟩] 1 rfl A c _ 1 _ (Kd.C_below h1 (below_alloc (Below.refl _ _) _)) (lit_elems [⟨k0, f0⟩] 1 rfl (by decide) rfl (Cells.new _ _ _))).mono fun e w' h => ⟨h.1, (below_alloc (Below.refl _ _) _).trans (h.2.mono (by simp))⟩
theorem kn_ints4 (k0 k1 k2 k3 : Int) (A : Option Addr) (c : Nat) (W : World) (h1 : Kd.C (Kd.int .i64) W A 4 [k0, k1, k2, k3]) :
    Calls Try.prog 19 #[.slice A 4 c, .slice (some ⟨W.heap.size, 0, none⟩) 4 4] (W.alloc (.cells #[.int .i64 k0, .int .i64 k1, .int .i64 k2, .int .i64 k3] 3)) fun e w' => e = .returned (.bool true) ∧ Below W.heap.size W w' :=
  (kn_ints [k0, k1, k2, k3] 4 rfl A c _ 4 _ (Kd.C_below h1 (below_alloc (Below.refl _ _) _)) (lit_ints [k0, k1, k2, k3] 4 rfl (by decide) rfl (Cells.new _ _ _))).mono fun e w' h => ⟨h.1, (below_alloc (Below.refl _ _) _).trans (h.2.mono (by simp))⟩
theorem kn_ints2 (k0 k1 : Int) (A : Option Addr) (c : Nat) (W : World) (h1 : Kd.C (Kd.int .i64) W A 2 [k0, k1]) :
    Calls Try.prog 19 #[.slice A 2 c, .slice (some ⟨W.heap.size, 0, none⟩) 2 2] (W.alloc (.cells #[.int .i64 k0, .int .i64 k1] 3)) fun e w' => e = .returned (.bool true) ∧ Below W.heap.size W w' :=
  (kn_ints [k0, k1] 2 rfl A c _ 2 _ (Kd.C_below h1 (below_alloc (Below.refl _ _) _)) (lit_ints [k0, k1] 2 rfl (by decide) rfl (Cells.new _ _ _))).mono fun e w' h => ⟨h.1, (below_alloc (Below.refl _ _) _).trans (h.2.mono (by simp))⟩
theorem kn_steps3 (A : Option Addr) (c : Nat) (W : World) (h1 : Kd.C kPStep W A 3 [⟨2, 1, 4⟩, ⟨3, 2, 0⟩, ⟨5, 1, 1⟩]) :
    Calls Try.prog 23 #[.slice A 3 c, .slice (some ⟨W.heap.size, 0, none⟩) 3 3] (W.alloc (.cells #[.int .i64 2, .int .i64 1, .int .i64 4, .int .i64 3, .int .i64 2, .int .i64 0, .int .i64 5, .int .i64 1, .int .i64 1] 36)) fun e w' => e = .returned (.bool true) ∧ Below W.heap.size W w' :=
  (kn_steps [⟨2, 1, 4⟩, ⟨3, 2, 0⟩, ⟨5, 1, 1⟩] 3 rfl A c _ 3 _ (Kd.C_below h1 (below_alloc (Below.refl _ _) _)) (lit_steps [⟨2, 1, 4⟩, ⟨3, 2, 0⟩, ⟨5, 1, 1⟩] 3 rfl (by decide) rfl (Cells.new _ _ _))).mono fun e w' h => ⟨h.1, (below_alloc (Below.refl _ _) _).trans (h.2.mono (by simp))⟩
theorem kn_Mend5 (W : World) : Calls Try.prog 27 #[.slice (some ⟨W.heap.size, 0, none⟩) 5 5] (W.alloc (.cells #[.int .i64 1, .int .i64 2, .int .i64 0, .int .i64 2, .int .i64 1, .int .i64 4, .int .i64 3, .int .i64 2, .int .i64 0, .int .i64 4, .int .i64 2, .int .i64 0, .int .i64 5, .int .i64 1, .int .i64 1] 36)) fun e w' => ∃ A1 c1 A2 c2, e = .returned (.tuple #[.slice A1 3 c1, .slice A2 2 c2, .int .i64 0]) ∧ Kd.C kPStep w' A1 3 [⟨2, 1, 4⟩, ⟨3, 2, 0⟩, ⟨5, 1, 1⟩] ∧ Kd.C (Kd.int .i64) w' A2 2 [1, 4] ∧ Below W.heap.size W w' := by
  refine (kn_Mend _ _ _ (lit_steps [⟨1, 2, 0⟩, ⟨2, 1, 4⟩, ⟨3, 2, 0⟩, ⟨4, 2, 0⟩, ⟨5, 1, 1⟩] 5 rfl (by decide) rfl (Cells.new _ _ _))).mono ?_
  rintro e w' ⟨A1, c1, A2, c2, he, h1, h2, h3⟩
  exact ⟨A1, c1, A2, c2, he, h1, h2, (below_alloc (Below.refl _ _) _).trans (h3.mono (by simp))⟩
end Go.Proofs.Ytemkloildadokaa
set_option linter.unusedVariables false
set_option linter.unusedSimpArgs false
/-! The chapter's examples, walked. (Printed by gen_piqkn.py.) -/
namespace Go.Proofs.Ytemkloildadokaa
open Go.RowKit Go.Shelf Go.Proofs.YtemkloildadokaaW.PrintWords
set_option maxRecDepth 100000 in
set_option maxHeartbeats 16000000 in
theorem known_true (w : World) : Calls Try.prog 20 #[] w fun e w' => e = .returned (.bool true) ∧ Below w.heap.size w w' := by
  have HB := Lib.hid (Below.refl w.heap.size w)
  go_enter Try.func20, Try.ntmps20
  go_upto_region 2 with (first
    | (go_at_call 39; (with_reducible refine (kn_Line _).mono ?_); rintro e wl ⟨B, rfl, hr, hb⟩; have HB := Lib.hid (below_step HB.out hb); have HE := Lib.hid hr; clear hb hr)
    | (go_at_call 29; (with_reducible refine (kn_At 6 _ 2 rfl kn_a6 B wl HE.out).mono ?_); rintro e wc ⟨A1, c1, rfl, hr, hb⟩; have HB := Lib.hid (below_step HB.out hb); have R1 := Lib.hid hr; clear hr; clear hb))
  go_upto_region 3 with (first
    | (go_at_call 39; (with_reducible refine (kn_Line _).mono ?_); rintro e wl ⟨B, rfl, hr, hb⟩; have HB := Lib.hid (below_step HB.out hb); have HE := Lib.hid hr; have R1 := Lib.hid (Kd.C_below R1.out hb); clear hb hr)
    | (go_at_call 14; (with_reducible refine (kn_Takes B wl HE.out).mono ?_); rintro e wc ⟨A2, c2, rfl, hr, hb⟩; have HB := Lib.hid (below_step HB.out hb); have R1 := Lib.hid (Kd.C_below R1.out hb); have R2 := Lib.hid hr; clear hr; clear hb))
  go_upto_region 4 with (first
    | (go_at_call 39; (with_reducible refine (kn_Line _).mono ?_); rintro e wl ⟨B, rfl, hr, hb⟩; have HB := Lib.hid (below_step HB.out hb); have HE := Lib.hid hr; have R1 := Lib.hid (Kd.C_below R1.out hb); have R2 := Lib.hid (Kd.C_below R2.out hb); clear hb hr)
    | (go_at_call 16; (with_reducible refine (kn_Bridges B wl HE.out).mono ?_); rintro e wc ⟨A3, c3, rfl, hr, hb⟩; have HB := Lib.hid (below_step HB.out hb); have R1 := Lib.hid (Kd.C_below R1.out hb); have R2 := Lib.hid (Kd.C_below R2.out hb); have R3 := Lib.hid hr; clear hr; clear hb))
  go_upto_region 6 with (first
    | (go_at_call 42; (with_reducible refine (law_elem _ _ _).mono ?_); rintro e wi ⟨rfl, hb⟩; have HB := Lib.hid (below_step HB.out hb); have R1 := Lib.hid (Kd.C_below R1.out hb); have R2 := Lib.hid (Kd.C_below R2.out hb); have R3 := Lib.hid (Kd.C_below R3.out hb); clear hb)
    | (go_at_call 18; (with_reducible refine (kn_elems2 _ _ _ _ A1 _ _ R1.out).mono ?_); rintro e wc ⟨rfl, hb⟩; have HB := Lib.hid (below_step HB.out hb); have R1 := Lib.hid (Kd.C_below R1.out hb); have R2 := Lib.hid (Kd.C_below R2.out hb); have R3 := Lib.hid (Kd.C_below R3.out hb); clear hb)
    | (go_at_call 18; (with_reducible refine (kn_elems2 _ _ _ _ A2 _ _ R2.out).mono ?_); rintro e wc ⟨rfl, hb⟩; have HB := Lib.hid (below_step HB.out hb); have R1 := Lib.hid (Kd.C_below R1.out hb); have R2 := Lib.hid (Kd.C_below R2.out hb); have R3 := Lib.hid (Kd.C_below R3.out hb); clear hb)
    | (go_at_call 19; (with_reducible refine (kn_ints4 _ _ _ _ A3 _ _ R3.out).mono ?_); rintro e wc ⟨rfl, hb⟩; have HB := Lib.hid (below_step HB.out hb); have R1 := Lib.hid (Kd.C_below R1.out hb); have R2 := Lib.hid (Kd.C_below R2.out hb); have R3 := Lib.hid (Kd.C_below R3.out hb); clear hb))
  clear R1 R2 R3 HE
  go_upto_region 7 with (first
    | (go_at_call 39; (with_reducible refine (kn_Line _).mono ?_); rintro e wl ⟨B, rfl, hr, hb⟩; have HB := Lib.hid (below_step HB.out hb); have HE := Lib.hid hr; clear hb hr)
    | (go_at_call 70; (with_reducible refine (law_In _ _ _).mono ?_); rintro e wi ⟨rfl, hb⟩; have HB := Lib.hid (below_step HB.out hb); have HE := Lib.hid (Kd.C_below HE.out hb); clear hb)
    | (go_at_call 21; (with_reducible refine (kn_Insert ⟨3, 1, 1⟩ _ 6 2 kn_i1 rfl rfl B wi HE.out).mono ?_); rintro e wc ⟨A4, c4, A44, c44, rfl, hrl, hrs, hb⟩; have HB := Lib.hid (below_step HB.out hb); have S4 := Lib.hid hrs; clear hrs hrl; clear hb))
  have hb := below_alloc (Below.refl wc.heap.size wc) (.cells #[.bool true, .slice A44 2 c44] 39)
  have C4 := Lib.hid (Cells.new wc #[.bool true, .slice A44 2 c44] 39)
  have HB := Lib.hid (below_step HB.out hb)
  have S4 := Lib.hid (Kd.C_below S4.out hb)
  clear hb
  generalize wc.alloc (.cells #[.bool true, .slice A44 2 c44] 39) = w4 at C4 HB S4 ⊢
  generalize wc.heap.size = g4 at C4 ⊢
  go_upto_region 8 with (first
    | (go_at_call 39; (with_reducible refine (kn_Line _).mono ?_); rintro e wl ⟨B, rfl, hr, hb⟩; have HB := Lib.hid (below_step HB.out hb); have HE := Lib.hid hr; have S4 := Lib.hid (Kd.C_below S4.out hb); have C4 := Lib.hid (C4.out.later hb); clear hb hr)
    | (go_at_call 40; (with_reducible refine (law_Out _ _).mono ?_); rintro e wi ⟨rfl, hb⟩; have HB := Lib.hid (below_step HB.out hb); have S4 := Lib.hid (Kd.C_below S4.out hb); have C4 := Lib.hid (C4.out.later hb); have HE := Lib.hid (Kd.C_below HE.out hb); clear hb)
    | (go_at_call 21; (with_reducible refine (kn_Insert ⟨3, 2, 0⟩ _ 6 2 kn_i2 rfl rfl B wi HE.out).mono ?_); rintro e wc ⟨A5, c5, A55, c55, rfl, hrl, hrs, hb⟩; have HB := Lib.hid (below_step HB.out hb); have S4 := Lib.hid (Kd.C_below S4.out hb); have C4 := Lib.hid (C4.out.later hb); have S5 := Lib.hid hrs; clear hrs hrl; clear hb))
  have hb := below_alloc (Below.refl wc.heap.size wc) (.cells #[.bool false, .slice A55 2 c55] 39)
  have C5 := Lib.hid (Cells.new wc #[.bool false, .slice A55 2 c55] 39)
  have HB := Lib.hid (below_step HB.out hb)
  have S4 := Lib.hid (Kd.C_below S4.out hb)
  have C4 := Lib.hid (C4.out.later hb)
  have S5 := Lib.hid (Kd.C_below S5.out hb)
  clear hb
  generalize wc.alloc (.cells #[.bool false, .slice A55 2 c55] 39) = w5 at C5 HB S4 C4 S5 ⊢
  generalize wc.heap.size = g5 at C5 ⊢
  go_upto_region 9 with (first
    | (go_at_call 39; (with_reducible refine (kn_Line _).mono ?_); rintro e wl ⟨B, rfl, hr, hb⟩; have HB := Lib.hid (below_step HB.out hb); have HE := Lib.hid hr; have S4 := Lib.hid (Kd.C_below S4.out hb); have C4 := Lib.hid (C4.out.later hb); have S5 := Lib.hid (Kd.C_below S5.out hb); have C5 := Lib.hid (C5.out.later hb); clear hb hr)
    | (go_at_call 25; (with_reducible refine (kn_Delete 4 _ 4 1 kn_d1 rfl rfl B wl HE.out).mono ?_); rintro e wc ⟨A6, c6, A66, c66, rfl, hrl, hrs, hb⟩; have HB := Lib.hid (below_step HB.out hb); have S4 := Lib.hid (Kd.C_below S4.out hb); have C4 := Lib.hid (C4.out.later hb); have S5 := Lib.hid (Kd.C_below S5.out hb); have C5 := Lib.hid (C5.out.later hb); have S6 := Lib.hid hrs; clear hrs hrl; clear hb))
  have hb := below_alloc (Below.refl wc.heap.size wc) (.cells #[.bool true, .slice A66 1 c66] 39)
  have C6 := Lib.hid (Cells.new wc #[.bool true, .slice A66 1 c66] 39)
  have HB := Lib.hid (below_step HB.out hb)
  have S4 := Lib.hid (Kd.C_below S4.out hb)
  have C4 := Lib.hid (C4.out.later hb)
  have S5 := Lib.hid (Kd.C_below S5.out hb)
  have C5 := Lib.hid (C5.out.later hb)
  have S6 := Lib.hid (Kd.C_below S6.out hb)
  clear hb
  generalize wc.alloc (.cells #[.bool true, .slice A66 1 c66] 39) = w6 at C6 HB S4 C4 S5 C5 S6 ⊢
  generalize wc.heap.size = g6 at C6 ⊢
  refine wp_region_flow [.free 0, .free 1, .free 2, .free 3, .free 4, .free 5, .free 6, .free 7, .free 8, .free 9, .free 10, .calm 11, .calm 12, .calm 13, .alone 14, .calm 15, .free 16, .free 17, .free 18, .calm 19, .calm 20, .calm 21, .alone 22, .calm 23, .free 24, .free 25, .free 26, .calm 27, .calm 28, .calm 29, .alone 30, .calm 31, .free 32, .free 33] (Below w6.heap.size w6) (Below w6.heap.size w6) (stable_below _ _ (Nat.le_refl _)) (fun _ h => h) (by kernel_rfl) (by kernel_rfl) (below_drew1 (Below.refl _ _)) ?_
  simp only [pickEnts, pickF, List.getElem?_cons_succ, List.getElem?_cons_zero, List.filterMap_cons, List.filterMap_nil, Option.map_some]
  repeat ((first | refine flow_calm (fun K hK => ?_) | refine flow_free (fun K hK => ?_) | refine float_calm (fun K hK => ?_) | refine float_free (fun K hK => ?_)); go_simp; first | (refine hK _ ?_; clear hK K) | (apply Exists.intro; (refine ⟨fun X => ?_, hK _ ?_⟩); (first | (intro hC; rfl) | rfl | (intro hC; have q4 := C4.out.later hC.out; have q4a := q4.cell 0 _ rfl; have q4b := q4.cell 1 _ rfl; have q5 := C5.out.later hC.out; have q5a := q5.cell 0 _ rfl; have q5b := q5.cell 1 _ rfl; have q6 := C6.out.later hC.out; have q6a := q6.cell 0 _ rfl; have q6b := q6.cell 1 _ rfl; go_simp; done) | (intro hC; have q4 := C4.out.later hC.out; have q4a := q4.cell 0 _ rfl; have q4b := q4.cell 1 _ rfl; have q5 := C5.out.later hC.out; have q5a := q5.cell 0 _ rfl; have q5b := q5.cell 1 _ rfl; have q6 := C6.out.later hC.out; have q6a := q6.cell 0 _ rfl; have q6b := q6.cell 1 _ rfl; go_simp; rfl) | (intro hC; (with_reducible refine (law_elem _ _ _).mono ?_); rintro e w' ⟨rfl, hb⟩; exact ⟨rfl, hb⟩)); clear hK K))
  refine flow_alone rfl (fun X hX K hK => ?_)
  go_simp
  refine (kn_walkL true 3 ⟨1, 3⟩ 4 ⟨3, 2⟩ [⟨3, 3, ⟨1, 3⟩⟩, ⟨4, 1000, ⟨3, 2⟩⟩] 2 (by decide) rfl X (by decide) (by decide)).mono ?_
  rintro e wv ⟨V4, d4, rfl, hv, hbv⟩
  refine hK.out _ _ (fun Z => (Below w6.heap.size w6 Z) ∧ Kd.C kPSpan Z V4 2 [⟨3, 3, ⟨1, 3⟩⟩, ⟨4, 1000, ⟨3, 2⟩⟩]) (fun Z => (Below w6.heap.size w6 Z) ∧ Kd.C kPSpan Z V4 2 [⟨3, 3, ⟨1, 3⟩⟩, ⟨4, 1000, ⟨3, 2⟩⟩]) (fun Z Z' hZ hb => ⟨hZ.1.trans (Below.mono hb hZ.1.size), Kd.C_below hZ.2 hb⟩) (fun _ h => h.1) (fun _ h => h) ⟨below_step hX.out hbv, hv⟩ ?_
  clear hK K hX hv hbv
  repeat ((first | refine flow_calm (fun K hK => ?_) | refine flow_free (fun K hK => ?_) | refine float_calm (fun K hK => ?_) | refine float_free (fun K hK => ?_)); go_simp; first | (refine hK _ ?_; clear hK K) | (apply Exists.intro; (refine ⟨fun X => ?_, hK _ ?_⟩); (first | (intro hC; rfl) | rfl | (intro hC; have q4 := C4.out.later hC.out.1; have q4a := q4.cell 0 _ rfl; have q4b := q4.cell 1 _ rfl; have q5 := C5.out.later hC.out.1; have q5a := q5.cell 0 _ rfl; have q5b := q5.cell 1 _ rfl; have q6 := C6.out.later hC.out.1; have q6a := q6.cell 0 _ rfl; have q6b := q6.cell 1 _ rfl; go_simp; done) | (intro hC; have q4 := C4.out.later hC.out.1; have q4a := q4.cell 0 _ rfl; have q4b := q4.cell 1 _ rfl; have q5 := C5.out.later hC.out.1; have q5a := q5.cell 0 _ rfl; have q5b := q5.cell 1 _ rfl; have q6 := C6.out.later hC.out.1; have q6a := q6.cell 0 _ rfl; have q6b := q6.cell 1 _ rfl; go_simp; rfl) | (intro hC; (with_reducible refine (kn_walk [⟨3, 3, ⟨1, 3⟩⟩, ⟨4, 1000, ⟨3, 2⟩⟩] true 2 rfl A44 V4 _ _ _ (Kd.C_below S4.out hC.out.1) hC.out.2).mono ?_); rintro e w' ⟨rfl, hb⟩; exact ⟨rfl, hb⟩) | (intro hC; (with_reducible refine (law_elem _ _ _).mono ?_); rintro e w' ⟨rfl, hb⟩; exact ⟨rfl, hb⟩)); clear hK K))
  refine flow_alone rfl (fun X hX K hK => ?_)
  go_simp
  refine (kn_walkL false 3 ⟨3, 2⟩ 4 ⟨5, 1⟩ [⟨3, 3, ⟨3, 2⟩⟩, ⟨4, 1000, ⟨5, 1⟩⟩] 2 (by decide) rfl X (by decide) (by decide)).mono ?_
  rintro e wv ⟨V5, d5, rfl, hv, hbv⟩
  refine hK.out _ _ (fun Z => ((Below w6.heap.size w6 Z) ∧ Kd.C kPSpan Z V4 2 [⟨3, 3, ⟨1, 3⟩⟩, ⟨4, 1000, ⟨3, 2⟩⟩]) ∧ Kd.C kPSpan Z V5 2 [⟨3, 3, ⟨3, 2⟩⟩, ⟨4, 1000, ⟨5, 1⟩⟩]) (fun Z => ((Below w6.heap.size w6 Z) ∧ Kd.C kPSpan Z V4 2 [⟨3, 3, ⟨1, 3⟩⟩, ⟨4, 1000, ⟨3, 2⟩⟩]) ∧ Kd.C kPSpan Z V5 2 [⟨3, 3, ⟨3, 2⟩⟩, ⟨4, 1000, ⟨5, 1⟩⟩]) (fun Z Z' hZ hb => ⟨⟨hZ.1.1.trans (Below.mono hb hZ.1.1.size), Kd.C_below hZ.1.2 hb⟩, Kd.C_below hZ.2 hb⟩) (fun _ h => h.1) (fun _ h => h) ⟨⟨below_step hX.out.1 hbv, Kd.C_below hX.out.2 hbv⟩, hv⟩ ?_
  clear hK K hX hv hbv
  repeat ((first | refine flow_calm (fun K hK => ?_) | refine flow_free (fun K hK => ?_) | refine float_calm (fun K hK => ?_) | refine float_free (fun K hK => ?_)); go_simp; first | (refine hK _ ?_; clear hK K) | (apply Exists.intro; (refine ⟨fun X => ?_, hK _ ?_⟩); (first | (intro hC; rfl) | rfl | (intro hC; have q4 := C4.out.later hC.out.1.1; have q4a := q4.cell 0 _ rfl; have q4b := q4.cell 1 _ rfl; have q5 := C5.out.later hC.out.1.1; have q5a := q5.cell 0 _ rfl; have q5b := q5.cell 1 _ rfl; have q6 := C6.out.later hC.out.1.1; have q6a := q6.cell 0 _ rfl; have q6b := q6.cell 1 _ rfl; go_simp; done) | (intro hC; have q4 := C4.out.later hC.out.1.1; have q4a := q4.cell 0 _ rfl; have q4b := q4.cell 1 _ rfl; have q5 := C5.out.later hC.out.1.1; have q5a := q5.cell 0 _ rfl; have q5b := q5.cell 1 _ rfl; have q6 := C6.out.later hC.out.1.1; have q6a := q6.cell 0 _ rfl; have q6b := q6.cell 1 _ rfl; go_simp; rfl) | (intro hC; (with_reducible refine (kn_walk [⟨3, 3, ⟨3, 2⟩⟩, ⟨4, 1000, ⟨5, 1⟩⟩] false 2 rfl A55 V5 _ _ _ (Kd.C_below S5.out hC.out.1.1) hC.out.2).mono ?_); rintro e w' ⟨rfl, hb⟩; exact ⟨rfl, hb⟩) | (intro hC; (with_reducible refine (law_elem _ _ _).mono ?_); rintro e w' ⟨rfl, hb⟩; exact ⟨rfl, hb⟩)); clear hK K))
  refine flow_alone rfl (fun X hX K hK => ?_)
  go_simp
  refine (kn_walkL true 4 ⟨3, 2⟩ 0 ⟨0, 0⟩ [⟨4, 1000, ⟨3, 2⟩⟩] 1 (by decide) rfl X (by decide) (by decide)).mono ?_
  rintro e wv ⟨V6, d6, rfl, hv, hbv⟩
  refine hK.out _ _ (fun Z => (((Below w6.heap.size w6 Z) ∧ Kd.C kPSpan Z V4 2 [⟨3, 3, ⟨1, 3⟩⟩, ⟨4, 1000, ⟨3, 2⟩⟩]) ∧ Kd.C kPSpan Z V5 2 [⟨3, 3, ⟨3, 2⟩⟩, ⟨4, 1000, ⟨5, 1⟩⟩]) ∧ Kd.C kPSpan Z V6 1 [⟨4, 1000, ⟨3, 2⟩⟩]) (fun Z => (((Below w6.heap.size w6 Z) ∧ Kd.C kPSpan Z V4 2 [⟨3, 3, ⟨1, 3⟩⟩, ⟨4, 1000, ⟨3, 2⟩⟩]) ∧ Kd.C kPSpan Z V5 2 [⟨3, 3, ⟨3, 2⟩⟩, ⟨4, 1000, ⟨5, 1⟩⟩]) ∧ Kd.C kPSpan Z V6 1 [⟨4, 1000, ⟨3, 2⟩⟩]) (fun Z Z' hZ hb => ⟨⟨⟨hZ.1.1.1.trans (Below.mono hb hZ.1.1.1.size), Kd.C_below hZ.1.1.2 hb⟩, Kd.C_below hZ.1.2 hb⟩, Kd.C_below hZ.2 hb⟩) (fun _ h => h.1) (fun _ h => h) ⟨⟨⟨below_step hX.out.1.1 hbv, Kd.C_below hX.out.1.2 hbv⟩, Kd.C_below hX.out.2 hbv⟩, hv⟩ ?_
  clear hK K hX hv hbv
  repeat ((first | refine flow_calm (fun K hK => ?_) | refine flow_free (fun K hK => ?_) | refine float_calm (fun K hK => ?_) | refine float_free (fun K hK => ?_)); go_simp; first | (refine hK _ ?_; clear hK K) | (apply Exists.intro; (refine ⟨fun X => ?_, hK _ ?_⟩); (first | (intro hC; rfl) | rfl | (intro hC; have q4 := C4.out.later hC.out.1.1.1; have q4a := q4.cell 0 _ rfl; have q4b := q4.cell 1 _ rfl; have q5 := C5.out.later hC.out.1.1.1; have q5a := q5.cell 0 _ rfl; have q5b := q5.cell 1 _ rfl; have q6 := C6.out.later hC.out.1.1.1; have q6a := q6.cell 0 _ rfl; have q6b := q6.cell 1 _ rfl; go_simp; done) | (intro hC; have q4 := C4.out.later hC.out.1.1.1; have q4a := q4.cell 0 _ rfl; have q4b := q4.cell 1 _ rfl; have q5 := C5.out.later hC.out.1.1.1; have q5a := q5.cell 0 _ rfl; have q5b := q5.cell 1 _ rfl; have q6 := C6.out.later hC.out.1.1.1; have q6a := q6.cell 0 _ rfl; have q6b := q6.cell 1 _ rfl; go_simp; rfl) | (intro hC; (with_reducible refine (kn_walk [⟨4, 1000, ⟨3, 2⟩⟩] true 1 rfl A66 V6 _ _ _ (Kd.C_below S6.out hC.out.1.1.1) hC.out.2).mono ?_); rintro e w' ⟨rfl, hb⟩; exact ⟨rfl, hb⟩) | (intro hC; (with_reducible refine (law_elem _ _ _).mono ?_); rintro e w' ⟨rfl, hb⟩; exact ⟨rfl, hb⟩)); clear hK K))
  refine flow_nil ?_
  intro Y hY
  have HB := Lib.hid (below_step HB.out hY.out.1.1.1)
  clear hY S4 S5 S6 C4 C5 C6
  go_upto_region 12 with (first
    | (go_at_call 70; (with_reducible refine (law_In _ _ _).mono ?_); rintro e wi ⟨rfl, hb⟩; have HB := Lib.hid (below_step HB.out hb); clear hb)
    | (go_at_call 40; (with_reducible refine (law_Out _ _).mono ?_); rintro e wi ⟨rfl, hb⟩; have HB := Lib.hid (below_step HB.out hb); clear hb)
    | (go_at_call 27; (with_reducible refine (kn_Mend5 _).mono ?_); rintro e wc ⟨A7, c7, A8, c8, rfl, hr7, hr8, hb⟩; have HB := Lib.hid (below_step HB.out hb); have R7 := Lib.hid hr7; have R8 := Lib.hid hr8; clear hb hr7 hr8))
  go_upto_region 13 with (first
    | (go_at_call 39; (with_reducible refine (kn_Line _).mono ?_); rintro e wl ⟨B, rfl, hr, hb⟩; have HB := Lib.hid (below_step HB.out hb); have HE := Lib.hid hr; have R7 := Lib.hid (Kd.C_below R7.out hb); have R8 := Lib.hid (Kd.C_below R8.out hb); clear hb hr)
    | (go_at_call 40; (with_reducible refine (law_Out _ _).mono ?_); rintro e wi ⟨rfl, hb⟩; have HB := Lib.hid (below_step HB.out hb); have R7 := Lib.hid (Kd.C_below R7.out hb); have R8 := Lib.hid (Kd.C_below R8.out hb); have HE := Lib.hid (Kd.C_below HE.out hb); clear hb)
    | (go_at_call 21; (with_reducible refine (kn_Insert ⟨0, 2, 0⟩ _ 0 0 kn_i3 rfl rfl B wi HE.out).mono ?_); rintro e wc ⟨A9, c9, A99, c99, rfl, hrl, hrs, hb⟩; have HB := Lib.hid (below_step HB.out hb); have R7 := Lib.hid (Kd.C_below R7.out hb); have R8 := Lib.hid (Kd.C_below R8.out hb); clear hrl hrs; clear hb))
  go_wp2_with (first
    | (go_at_call 70; (with_reducible refine (law_In _ _ _).mono ?_); rintro e wi ⟨rfl, hb⟩; have HB := Lib.hid (below_step HB.out hb); have R7 := Lib.hid (Kd.C_below R7.out hb); have R8 := Lib.hid (Kd.C_below R8.out hb); clear hb)
    | (go_at_call 40; (with_reducible refine (law_Out _ _).mono ?_); rintro e wi ⟨rfl, hb⟩; have HB := Lib.hid (below_step HB.out hb); have R7 := Lib.hid (Kd.C_below R7.out hb); have R8 := Lib.hid (Kd.C_below R8.out hb); clear hb)
    | (go_at_call 23; (with_reducible refine (kn_steps3 A7 _ _ R7.out).mono ?_); rintro e wc ⟨rfl, hb⟩; have HB := Lib.hid (below_step HB.out hb); have R7 := Lib.hid (Kd.C_below R7.out hb); have R8 := Lib.hid (Kd.C_below R8.out hb); clear hb)
    | (go_at_call 19; (with_reducible refine (kn_ints2 _ _ A8 _ _ R8.out).mono ?_); rintro e wc ⟨rfl, hb⟩; have HB := Lib.hid (below_step HB.out hb); have R7 := Lib.hid (Kd.C_below R7.out hb); have R8 := Lib.hid (Kd.C_below R8.out hb); clear hb))
  go_ret
  exact ⟨rfl, HB.out⟩
end Go.Proofs.Ytemkloildadokaa
